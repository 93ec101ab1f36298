import Derived.Test.YtmhoikfoogemnaaGreatDoorMYm
namespace Go.Proofs.YtmhoikfoogemnaaGreatDoor
open Go Go.RowKit Go.Vc
set_option linter.unusedVariables false
set_option linter.unusedSimpArgs false
def D4 (st:List (List UInt8)) (t:List UInt8):Option (List (List UInt8)):=
  if t=[40]∨t=[91]then some (st++[t])else if t=[41]then(if st.getLast?=some [40]then some st.dropLast else none)else if t=[93]then(if st.getLast?=some [91]then some st.dropLast else none)else some st
def yp:List (List UInt8)→List (List UInt8)→Option (List (List UInt8))
  | [],st=>some st
  | t::r,st=>(D4 st t).bind fun s=>yp r s
theorem sg:∀ (a b st:List (List UInt8)),yp (a++b) st=(yp a st).bind fun s=>yp b s
  | [],b,st=>rfl
  | t::a,b,st=>by
    show(D4 st t).bind (fun s=>yp (a++b) s)=((D4 st t).bind fun s=>yp a s).bind fun s=>yp b s
    cases D4 st t with
    | none=>rfl
    | some s=>exact sg a b s
abbrev BB (a:List (List UInt8)):Prop:=∀ st,yp a st=some st
theorem uO {a b:List (List UInt8)} (h1:BB a) (h2:BB b):BB (a++b):=fun st=>by rw[sg,h1 st];exact h2 st
theorem Am {a:List (List UInt8)} {o c:List UInt8} (h:BB a) (hoc:(o=[40]∧c=[41])∨(o=[91]∧c=[93])):BB (o::(a++[c])):=fun st=>by
  show(D4 st o).bind (fun s=>yp (a++[c]) s)=some st
  rcases hoc with⟨rfl,rfl⟩ | ⟨rfl,rfl⟩
  · rw[show D4 st [40]=some (st++[[40]])from rfl,Option.bind_some,sg,h,Option.bind_some]
    show(D4 (st++[[40]]) [41]).bind (fun s=>some s)=some st
    unfold D4;simp
  · rw[show D4 st [91]=some (st++[[91]])from rfl,Option.bind_some,sg,h,Option.bind_some]
    show(D4 (st++[[91]]) [93]).bind (fun s=>some s)=some st
    unfold D4;simp
def BK (t:List UInt8):Bool:=decide (t=[40])||decide (t=[41])||decide (t=[91])||decide (t=[93])
theorem pB {t:List UInt8} (h:BK t=false):BB [t]:=fun st=>by
  unfold BK at h
  simp only[Bool.or_eq_false_iff,decide_eq_false_iff_not]at h
  show(D4 st t).bind (fun s=>some s)=some st
  unfold D4
  rw[if_neg (by simp[h]),if_neg h.1.1.2,if_neg h.2];rfl
def Kf (n:Option UInt8):Prop:=∀ c,n=some c→gl c=false
structure Lex (ls:List (List UInt8)) (T:List UInt8) (any:Bool):Prop where
  flat:ls.flatten=T
  ok:∀ n,(any=true∨Kf n)→sv ls n
  neu:BB ls
theorem Lex.nil:Lex [] [] true:=⟨rfl,fun _ _=>trivial,fun _=>rfl⟩
theorem Lex.app {a b:List (List UInt8)} {A B:List UInt8} {y:Bool} (ha:Lex a A true) (hb:Lex b B y):Lex (a++b) (A++B) y:=
  ⟨by rw[List.flatten_append,ha.flat,hb.flat],fun n h=>nL (ha.ok _ (Or.inl rfl)) (hb.ok n h),uO ha.neu hb.neu⟩
theorem Lex.app2 {a b:List (List UInt8)} {A B:List UInt8} {y z:Bool} (ha:Lex a A z) (hb:Lex b B y) (hB:∃ c r,B=c::r∧gl c=false):Lex (a++b) (A++B) y:=
  ⟨by rw[List.flatten_append,ha.flat,hb.flat],fun n h=>nL (ha.ok _ (Or.inr (by
    obtain⟨c,r,rfl,hc⟩:=hB
    rw[hb.flat]
    intro d hd
    injection hd with hd;rw[← hd];exact hc))) (hb.ok n h),uO ha.neu hb.neu⟩
theorem Lex.weak {a:List (List UInt8)} {A:List UInt8} {y:Bool} (ha:Lex a A true):Lex a A y:=⟨ha.flat,fun n _=>ha.ok n (Or.inl rfl),ha.neu⟩
theorem Lex.weak2 {a:List (List UInt8)} {A:List UInt8} {y:Bool} (ha:Lex a A y):Lex a A false:=⟨ha.flat,fun n h=>ha.ok n (Or.inr (h.resolve_left (by simp))),ha.neu⟩
theorem Lex.blank:Lex [[32]] [32] true:=⟨rfl,fun _ _=>⟨Or.inl rfl,trivial⟩,pB (by decide)⟩
theorem zZ {t:List UInt8} {m:Option UInt8} (ht:t∈fR) (h60:t=[60]→m≠some 61):Ik t m:=by
  have h:ld (t.headD 0)=false∧qz (t.headD 0)=false:=by
    unfold fR at ht
    simp only[List.mem_cons,List.not_mem_nil,or_false]at ht
    rcases ht with rfl | rfl | rfl | rfl | rfl | rfl | rfl | rfl | rfl | rfl | rfl | rfl | rfl | rfl | rfl | rfl | rfl<;>decide
  exact⟨fun hh=>(by rw[h.1]at hh;cases hh),fun hh=>(by rw[h.2]at hh;cases hh),h60⟩
theorem o5 {t:List UInt8} (ht:t∈fR) (h60:t≠[60]) (n:Option UInt8):sv [t] n:=⟨Or.inr ⟨Or.inr (Or.inr ht),zZ ht fun h=>absurd h h60⟩,trivial⟩
theorem Lex.sign {t:List UInt8} (ht:t∈fR) (h60:t≠[60]) (hb:BK t=false):Lex [t] t true:=
  ⟨by simp,fun n _=>o5 ht h60 n,pB hb⟩
theorem zM {c:UInt8} (h:qz c=true):gl c=true:=by
  unfold gl;unfold qz at h;rw[h];simp
theorem xA {t:List UInt8} (h:ld (t.headD 0)=true∨qz (t.headD 0)=true):BK t=false:=by
  rw[Bool.eq_false_iff]
  unfold BK
  simp only[ne_eq,Bool.or_eq_true,decide_eq_true_eq]
  rintro(((rfl | rfl) | rfl) | rfl)<;>revert h<;>decide
theorem Lex.word {t:List UInt8} (h:uu t):Lex [t] t false:=
  ⟨by simp,fun n hn=>⟨Or.inr ⟨Or.inl h,⟨fun _ c hc=>hn.resolve_left (by simp) c hc,fun hd=>(by rw[qV h.1]at hd;cases hd),fun h60=>(by have:=h.1;subst h60;exact absurd this (by decide))⟩⟩,trivial⟩,pB (xA (Or.inl h.1))⟩
theorem nH {t:List UInt8} (h:BJ t):qz (t.headD 0)=true:=by
  obtain⟨h1,h2⟩:=h
  cases t with
  | nil=>exact absurd rfl h2
  | cons c t=>rw[List.all_cons,Bool.and_eq_true]at h1;exact h1.1
theorem Lex.num {t:List UInt8} (h:BJ t):Lex [t] t false:=
  ⟨by simp,fun n hn=>⟨Or.inr ⟨Or.inr (Or.inl h),⟨fun hl=>(by have:=qV hl;rw[nH h]at this;cases this),fun _ c hc=>(by
    have:=hn.resolve_left (by simp) c hc
    cases hd:qz c
    · rfl
    · rw[zM hd]at this;cases this),fun h60=>(by have:=nH h;subst h60;exact absurd this (by decide))⟩⟩,trivial⟩,pB (xA (Or.inr (nH h)))⟩
theorem Lex.paren {a:List (List UInt8)} {A:List UInt8} {z:Bool} (ha:Lex a A z):Lex ([[40]]++(a++[[41]])) ([40]++(A++[41])) true:=by
  have h2:Lex (a++[[41]]) (A++[41]) true→True:=fun _=>trivial
  refine⟨by simp[ha.flat],fun n _=> ?_,Am ha.neu (Or.inl ⟨rfl,rfl⟩)⟩
  refine nL (o5 (by decide) (by decide) _) (nL (ha.ok _ (Or.inr fun c hc=> ?_)) (o5 (by decide) (by decide) _))
  injection hc with hc;rw[← hc];decide
theorem Lex.brack {a:List (List UInt8)} {A:List UInt8} {z:Bool} (ha:Lex a A z):Lex ([[91]]++(a++[[93]])) ([91]++(A++[93])) true:=by
  refine⟨by simp[ha.flat],fun n _=> ?_,Am ha.neu (Or.inr ⟨rfl,rfl⟩)⟩
  refine nL (o5 (by decide) (by decide) _) (nL (ha.ok _ (Or.inr fun c hc=> ?_)) (o5 (by decide) (by decide) _))
  injection hc with hc;rw[← hc];decide
theorem Lex.oper {t:List UInt8} (ht:t∈fR) (hb:BK t=false):Lex ([[32]]++([t]++[[32]])) ([32]++(t++[32])) true:=by
  refine⟨by simp,fun n _=> ?_,uO (pB (by decide)) (uO (pB hb) (pB (by decide)))⟩
  exact⟨Or.inl rfl,Or.inr ⟨Or.inr (Or.inr ht),zZ ht fun h=>by show some (32:UInt8)≠some 61;decide⟩,Or.inl rfl,trivial⟩
def fO:List (List (List UInt8))→List (List UInt8)
  | []=>[]
  | [a]=>a
  | a::b::r=>a++([[44],[32]]++fO (b::r))
theorem Lex.join {α:Type} {l:List α} {f:α→List (List UInt8)} {g:α→List UInt8} {z:Bool} (h:∀ x∈l,Lex (f x) (g x) z):Lex (fO (l.map f)) (i8 (l.map g)) false:=by
  induction l with
  | nil=>exact Lex.nil.weak
  | cons x l ih=>
    cases l with
    | nil=>exact(h x (by simp)).weak2
    | cons y l=>
      have h2:=ih fun z hz=>h z (by simp[hz])
      have hc:Lex ([[44]]++[[32]]) ([44]++[32]) true:=(Lex.sign (by decide) (by decide) (by decide)).app Lex.blank
      exact(h x (by simp)).app2 (hc.app h2) ⟨44,_,rfl,by decide⟩
theorem mt (u:Nat):BJ (Lib.decDigits u):=by
  obtain⟨h1,_,h3,_⟩:=ja u
  refine⟨List.all_eq_true.2 fun c hc=> ?_,h3⟩
  have:=List.all_eq_true.1 h1 c hc
  unfold pd at this;unfold qz
  simp only[Bool.and_eq_true,decide_eq_true_eq]at this ⊢;omega
theorem gA {s:List UInt8} (h:cp s=true):uu s:=by
  unfold cp at h
  simp only[Bool.and_eq_true,decide_eq_true_eq]at h
  obtain⟨⟨⟨⟨h1,h2⟩,h3⟩,h4⟩,_⟩:=h
  refine⟨?_,h4,h2,h1⟩
  cases s with
  | nil=>exact absurd rfl h1
  | cons c s=>exact h3
def mr (n:Int):List (List UInt8):=if n<0 then[[45],Lib.decDigits n.natAbs]else[Lib.decDigits n.natAbs]
theorem Lex.itoa (n:Int):Lex (mr n) (Lib.itoa n) false:=by
  unfold mr
  by_cases h:n<0
  · rw[if_pos h,mV h]
    exact(Lex.sign (t:=[45]) (by decide) (by decide) (by decide)).app (Lex.num (mt _))
  · rw[if_neg h,k7 (by omega),show n.toNat=n.natAbs by omega]
    exact Lex.num (mt _)
def iS (l:ay):List (Int×List UInt8):=l.L.map (fun m=>(m.By,m.Name))++(if l.K≠0∨l.L=[]then[(l.K,[])]else[])
def DA (first:Bool) (c:Int):List (List UInt8):=if first=true then(if c<0 then[[45]]else[])else(if c<0 then[[32],[45],[32]]else[[32],[43],[32]])
def kn (c:Int) (nm:List UInt8):List (List UInt8):=if nm=[]then[Lib.decDigits c.natAbs]else if c.natAbs=1 then[nm]else[Lib.decDigits c.natAbs,[42],nm]
def oI:Bool→List (Int×List UInt8)→List (List UInt8)
  | _,[]=>[]
  | b,x::r=>DA b x.1++(kn x.1 x.2++oI false r)
def wM:Bool→List (Int×List UInt8)→List UInt8
  | _,[]=>[]
  | b,x::r=>(if b=true then(if x.1<0 then[45]else[])else(if x.1<0 then[32,45,32]else[32,43,32]))++(qN x.1 x.2++wM false r)
def oM (l:ay):List (List UInt8):=oI true (iS l)
theorem Az:∀ (ts:List (Int×List UInt8)) (s:List UInt8),ts.foldl (fun s x=>rT s x.1 x.2) s=s++wM (decide (s=[])) ts
  | [],s=>by simp[wM]
  | x::ts,s=>by
    rw[List.foldl_cons,Az ts,decide_eq_false (Hh s x.2)]
    unfold rT Bl
    rw[wM]
    by_cases h:s=[]<;>simp[h]
theorem Fq {l:ay} (h:d8 l):nP l=wM true (iS l):=by
  have e:BG l=(iS l).foldl (fun s x=>rT s x.1 x.2) []:=by
    unfold BG iS m7
    rw[List.foldl_append,List.foldl_map]
    split<;>rfl
  unfold nP
  rw[if_pos h,e,Az];rfl
theorem Lex.body {c:Int} {nm:List UInt8} (h:nm=[]∨cp nm=true):Lex (kn c nm) (qN c nm) false:=by
  unfold kn qN
  by_cases h0:nm=[]
  · rw[if_pos h0,if_pos h0];exact Lex.num (mt _)
  have hn:=Lex.word (gA (h.resolve_left h0))
  rw[if_neg h0,if_neg h0]
  split
  · exact hn
  · exact(Lex.num (mt _)).app2 ((Lex.sign (t:=[42]) (by decide) (by decide) (by decide)).app hn) ⟨42,_,rfl,by decide⟩
theorem Lex.ter:∀ {ts:List (Int×List UInt8)} {b:Bool},(∀ x∈ts,x.2=[]∨cp x.2=true)→Lex (oI b ts) (wM b ts) false∧(b=false→ts≠[]→∃ c r,wM b ts=c::r∧gl c=false)
  | [],b,_=>⟨Lex.nil.weak,fun _ h=>absurd rfl h⟩
  | x::ts,b,h=>by
    obtain⟨h1,h2⟩:=Lex.ter (b:=false) fun y hy=>h y (List.mem_cons_of_mem _ hy)
    have hs:Lex (DA b x.1) (if b=true then(if x.1<0 then[45]else[])else(if x.1<0 then[32,45,32]else[32,43,32])) true:=by
      unfold DA
      cases b
      · simp only[Bool.false_eq_true,if_false]
        split
        · exact Lex.oper (t:=[45]) (by decide) (by decide)
        · exact Lex.oper (t:=[43]) (by decide) (by decide)
      · simp only[if_true]
        split
        · exact Lex.sign (t:=[45]) (by decide) (by decide) (by decide)
        · exact Lex.nil
    have hb:Lex (kn x.1 x.2++oI false ts) (qN x.1 x.2++wM false ts) false:=by
      have h0:=Lex.body (c:=x.1) (h x (by simp))
      by_cases he:ts=[]
      · subst he;simp only[oI,wM,List.append_nil];exact h0
      · exact h0.app2 h1 (h2 rfl he)
    refine⟨hs.app hb,fun hb0 _=> ?_⟩
    subst hb0
    rw[wM]
    simp only[Bool.false_eq_true,if_false]
    split
    · exact⟨32,_,rfl,by decide⟩
    · exact⟨32,_,rfl,by decide⟩
theorem rZ {l:ay} (h:d8 l):∀ x∈iS l,x.2=[]∨cp x.2=true:=fun x hx=>by
  unfold iS at hx
  rcases List.mem_append.1 hx with hx | hx
  · obtain⟨m,hm,rfl⟩:=List.mem_map.1 hx
    exact Or.inr (h.1 m hm).1
  · split at hx
    · rw[List.mem_singleton.1 hx];exact Or.inl rfl
    · simp at hx
theorem Lex.lin {l:ay} (h:d8 l):Lex (oM l) (nP l) false:=by rw[Fq h];exact(Lex.ter (rZ h)).1
def zD (t:aM):List (List UInt8):=
  if t.Kind=1 then[[102,114,97,99]]else if t.Kind=3 then[[105,110,116]]
  else[[102,105,120]]++([[40]]++((mr t.Bits++([[44],[32]]++(mr t.Frac++([[44],[32]]++([nM t.Round]++([[44],[32]]++[o4 t.Over]))))))++[[41]]))
theorem Lex.comma:Lex [[44],[32]] [44,32] true:=(Lex.sign (t:=[44]) (by decide) (by decide) (by decide)).app Lex.blank
theorem xR (n:Int):uu (nM n):=by unfold nM;repeat' split
                                 all_goals exact⟨by decide,by decide,by decide,by decide⟩
theorem xQ (n:Int):uu (o4 n):=by unfold o4;repeat' split
                                 all_goals exact⟨by decide,by decide,by decide,by decide⟩
theorem Lex.type {t:aM} (h:ol t=true):Lex (zD t) (Cu t) false:=by
  unfold zD Cu
  rw[if_pos h]
  split
  · exact Lex.word ⟨by decide,by decide,by decide,by decide⟩
  split
  · exact Lex.word ⟨by decide,by decide,by decide,by decide⟩
  have c:∀ {a:List (List UInt8)} {A:List UInt8},∃ d r,[44,32]++A=d::r∧gl d=false:=fun {a A} =>⟨44,_,rfl,by decide⟩
  have h1:=(Lex.itoa t.Bits).app2 (Lex.comma.app ((Lex.itoa t.Frac).app2 (Lex.comma.app ((Lex.word (xR t.Round)).app2 (Lex.comma.app (Lex.word (xQ t.Over))) ⟨44,_,rfl,by decide⟩)) ⟨44,_,rfl,by decide⟩)) ⟨44,_,rfl,by decide⟩
  have h2:=(Lex.word (t:=[102,105,120]) ⟨by decide,by decide,by decide,by decide⟩).app2 h1.paren ⟨40,_,rfl,by decide⟩
  have e:[102,105,120,40]++(Lib.itoa t.Bits++([44,32]++(Lib.itoa t.Frac++([44,32]++(nM t.Round++([44,32]++(o4 t.Over++[41])))))))=[102,105,120]++([40]++((Lib.itoa t.Bits++([44,32]++(Lib.itoa t.Frac++([44,32]++(nM t.Round++([44,32]++o4 t.Over))))))++[41])):=by simp
  rw[e]
  exact h2.weak
def vP (a:bj):List (List UInt8):=if a.D=1 then mr a.N else mr a.N++([[47]]++mr a.D)
theorem Lex.fmt {a:bj} (h:k8 a=true):Lex (vP a) (om a) false:=by
  unfold vP om
  rw[if_pos h]
  split
  · exact Lex.itoa _
  · exact(Lex.itoa _).app2 ((Lex.sign (t:=[47]) (by decide) (by decide) (by decide)).app (Lex.itoa _)) ⟨47,_,rfl,by decide⟩
def zF (x:av):List (List UInt8):=if x.From=[]then oM x.Lin else[x.From]++([[91]]++(fO (x.At.map oM)++[[93]]))
abbrev Bx (x:av):Prop:=d8 x.Lin∧(∀ f∈x.At,d8 f)∧(if x.From=[]then x.At=[]else cp x.From=true∧x.Lin.K=0∧x.Lin.L=[])
theorem Lex.index {x:av} (h:Bx x):Lex (zF x) (yK x) false:=by
  obtain⟨h1,h2,h3⟩:=h
  unfold zF yK
  by_cases hf:x.From=[]
  · rw[if_pos hf]at h3
    rw[if_pos hf,if_pos ⟨h1,h2⟩,if_pos hf,if_pos h3]
    have:=Lex.lin h1
    unfold nP at this
    rwa [if_pos h1]at this
  · rw[if_neg hf]at h3
    rw[if_neg hf,if_pos ⟨h1,h2⟩,if_neg hf,if_pos h3]
    exact((Lex.word (gA h3.1)).app2 (Lex.join fun f hf=>Lex.lin (h2 f hf)).brack ⟨91,_,rfl,by decide⟩).weak2
def F9 (a:ac) (t:List (List UInt8)) (m6:Int):List (List UInt8):=if jR a.Op<m6 then[[40]]++(t++[[41]])else t
theorem Lex.opd {a:ac} {t:List (List UInt8)} {T:List UInt8} (m6:Int) (h:Lex t T true):Lex (F9 a t m6) (opd a T m6) true:=by
  unfold F9 Go.Proofs.YtmhoikfoogemnaaGreatDoor.opd
  split
  · exact h.paren
  · exact h
end Go.Proofs.YtmhoikfoogemnaaGreatDoor
