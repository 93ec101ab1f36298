import Derived.Test.YtmhoikfoogemnaaGreatDoorHYm
namespace Go.Proofs.YtmhoikfoogemnaaGreatDoor
open Go Go.RowKit Go.Vc
set_option linter.unusedVariables false
set_option linter.unusedSimpArgs false
def Il (st:List (List UInt8)) (t:List UInt8):Option (List (List UInt8)):=
  if t=[40]∨t=[91]then some (st++[t])else if t=[41]then(if st.getLast?=some [40]then some st.dropLast else none)else if t=[93]then(if st.getLast?=some [91]then some st.dropLast else none)else some st
def BU:List (List UInt8)→List (List UInt8)→Option (List (List UInt8))
  | [],st=>some st
  | t::r,st=>(Il st t).bind λs=>BU r s
theorem vU:∀ (a b st:List (List UInt8)),BU (a++b) st=(BU a st).bind λs=>BU b s
  | [],b,st=>rfl
  | t::a,b,st=>by
    show(Il st t).bind (λs=>BU (a++b) s)=((Il st t).bind λs=>BU a s).bind λs=>BU b s
    cases Il st t with
    | none=>rfl
    | some s=>exact vU a b s
abbrev FF (a:List (List UInt8)):Prop:=∀ st,BU a st=some st
theorem yk {a b:List (List UInt8)} (h1:FF a) (h2:FF b):FF (a++b):=λst=>by rw[vU,h1 st];exact h2 st
theorem Ec {a:List (List UInt8)} {o c:List UInt8} (h:FF a) (hoc:(o=[40]∧c=[41])∨(o=[91]∧c=[93])):FF (o::(a++[c])):=λst=>by
  show(Il st o).bind (λs=>BU (a++[c]) s)=some st
  rcases hoc with⟨rfl,rfl⟩ | ⟨rfl,rfl⟩
  · rw[show Il st [40]=some (st++[[40]])from rfl,Option.bind_some,vU,h,Option.bind_some]
    show(Il (st++[[40]]) [41]).bind (λs=>some s)=some st
    unfold Il;simp
  · rw[show Il st [91]=some (st++[[91]])from rfl,Option.bind_some,vU,h,Option.bind_some]
    show(Il (st++[[91]]) [93]).bind (λs=>some s)=some st
    unfold Il;simp
def El (t:List UInt8):Bool:=decide (t=[40])||decide (t=[41])||decide (t=[91])||decide (t=[93])
theorem rY {t:List UInt8} (h:El t=false):FF [t]:=λst=>by
  unfold El at h
  simp only[Bool.or_eq_false_iff,decide_eq_false_iff_not]at h
  show(Il st t).bind (λs=>some s)=some st
  unfold Il
  rw[if_neg (by simp[h]),if_neg h.1.1.2,if_neg h.2];rfl
def PY (n:Option UInt8):Prop:=∀ c,n=some c→hO c=false
structure Lex (ls:List (List UInt8)) (T:List UInt8) (any:Bool):Prop where
  flat:ls.flatten=T
  ok:∀ n,(any=true∨PY n)→ve ls n
  neu:FF ls
theorem Lex.nil:Lex [] [] true:=⟨rfl,λ_ _=>trivial,λ_=>rfl⟩
theorem Lex.app {a b:List (List UInt8)} {A B:List UInt8} {y:Bool} (ha:Lex a A true) (hb:Lex b B y):Lex (a++b) (A++B) y:=
  ⟨by rw[List.flatten_append,ha.flat,hb.flat],λn h=>qe (ha.ok _ (Or.inl rfl)) (hb.ok n h),yk ha.neu hb.neu⟩
theorem Lex.app2 {a b:List (List UInt8)} {A B:List UInt8} {y z:Bool} (ha:Lex a A z) (hb:Lex b B y) (hB:∃ c r,B=c::r∧hO c=false):Lex (a++b) (A++B) y:=
  ⟨by rw[List.flatten_append,ha.flat,hb.flat],λn h=>qe (ha.ok _ (Or.inr (by
    obtain⟨c,r,rfl,hc⟩:=hB
    rw[hb.flat]
    intro d hd
    injection hd with hd;rw[← hd];exact hc))) (hb.ok n h),yk ha.neu hb.neu⟩
theorem Lex.weak {a:List (List UInt8)} {A:List UInt8} {y:Bool} (ha:Lex a A true):Lex a A y:=⟨ha.flat,λn _=>ha.ok n (Or.inl rfl),ha.neu⟩
theorem Lex.weak2 {a:List (List UInt8)} {A:List UInt8} {y:Bool} (ha:Lex a A y):Lex a A false:=⟨ha.flat,λn h=>ha.ok n (Or.inr (h.resolve_left (by simp))),ha.neu⟩
theorem Lex.blank:Lex [[32]] [32] true:=⟨rfl,λ_ _=>⟨Or.inl rfl,af⟩,rY (by decide)⟩
theorem DV {t:List UInt8} {m:Option UInt8} (ht:t∈gt) (h60:t=[60]→m≠some 61):Nt t m:=by
  have h:mG (t.headD 0)=false∧tQ (t.headD 0)=false:=by
    unfold gt at ht
    simp only[List.mem_cons,List.not_mem_nil,or_false]at ht
    rcases ht with rfl | rfl | rfl | rfl | rfl | rfl | rfl | rfl | rfl | rfl | rfl | rfl | rfl | rfl | rfl | rfl | rfl<;>decide
  exact⟨λhh=>(by rw[h.1]at hh;cases hh),λhh=>(by rw[h.2]at hh;cases hh),h60⟩
theorem rv {t:List UInt8} (ht:t∈gt) (h60:t≠[60]) (n:Option UInt8):ve [t] n:=⟨Or.inr ⟨Or.inr (Or.inr ht),DV ht λh=>absurd h h60⟩,af⟩
theorem Re {t:List UInt8} (ht:t∈gt) (h60:t≠[60]) (hb:El t=false):Lex [t] t true:=
  ⟨by simp,λn _=>rv ht h60 n,rY hb⟩
theorem DF {c:UInt8} (h:tQ c=true):hO c=true:=by
  unfold hO;unfold tQ at h;rw[h];simp
theorem AV {t:List UInt8} (h:mG (t.headD 0)=true∨tQ (t.headD 0)=true):El t=false:=by
  rw[Bool.eq_false_iff]
  unfold El
  simp only[ne_eq,Bool.or_eq_true,decide_eq_true_eq]
  rintro(((rfl | rfl) | rfl) | rfl)<;>revert h<;>decide
theorem Q8 {t:List UInt8} (h:td t):Lex [t] t false:=
  ⟨by simp,λn hn=>⟨Or.inr ⟨Or.inl h,λ_ c hc=>hn.resolve_left (by simp) c hc,λhd=>(by rw[ur h.1]at hd;cases hd),λh60=>(by have:=h.1;subst h60;exact absurd this (by decide))⟩,af⟩,rY (AV (Or.inl h.1))⟩
theorem pW {t:List UInt8} (h:FO t):tQ (t.headD 0)=true:=by
  obtain⟨h1,h2⟩:=h
  cases t with
  | nil=>exact absurd rfl h2
  | cons c t=>rw[List.all_cons,Bool.and_eq_true]at h1;exact h1.1
theorem Lex.num {t:List UInt8} (h:FO t):Lex [t] t false:=
  ⟨by simp,λn hn=>⟨Or.inr ⟨Or.inr (Or.inl h),λhl=>(by have:=ur hl;rw[pW h]at this;cases this),λ_ c hc=>(by
    have:=hn.resolve_left (by simp) c hc
    cases hd:tQ c
    · rfl
    · rw[DF hd]at this;cases this),λh60=>(by have:=pW h;subst h60;exact absurd this (by decide))⟩,af⟩,rY (AV (Or.inr (pW h)))⟩
theorem Lex.paren {a:List (List UInt8)} {A:List UInt8} {z:Bool} (ha:Lex a A z):Lex ([[40]]++(a++[[41]])) ([40]++(A++[41])) true:=by
  have h2:Lex (a++[[41]]) (A++[41]) true→True:=λ_=>trivial
  refine⟨by simp[ha.flat],λn _=>?_,Ec ha.neu (Or.inl ⟨rfl,rfl⟩)⟩
  refine qe (rv (by decide) (by decide) _) (qe (ha.ok _ (Or.inr λc hc=>?_)) (rv (by decide) (by decide) _))
  injection hc with hc;rw[← hc];decide
theorem Lex.brack {a:List (List UInt8)} {A:List UInt8} {z:Bool} (ha:Lex a A z):Lex ([[91]]++(a++[[93]])) ([91]++(A++[93])) true:=by
  refine⟨by simp[ha.flat],λn _=>?_,Ec ha.neu (Or.inr ⟨rfl,rfl⟩)⟩
  refine qe (rv (by decide) (by decide) _) (qe (ha.ok _ (Or.inr λc hc=>?_)) (rv (by decide) (by decide) _))
  injection hc with hc;rw[← hc];decide
theorem Lex.oper {t:List UInt8} (ht:t∈gt) (hb:El t=false):Lex ([[32]]++([t]++[[32]])) ([32]++(t++[32])) true:=by
  refine⟨by simp,λn _=>?_,yk (rY (by decide)) (yk (rY hb) (rY (by decide)))⟩
  exact⟨Or.inl rfl,Or.inr ⟨Or.inr (Or.inr ht),DV ht λh=>by show some (32:UInt8)≠some 61;decide⟩,Or.inl rfl,af⟩
def cp:List (List (List UInt8))→List (List UInt8)
  | []=>[]
  | [a]=>a
  | a::b::r=>a++([[44],[32]]++cp (b::r))
theorem Rh {α:Type} {l:List α} {f:α→List (List UInt8)} {g:α→List UInt8} {z:Bool} (h:∀ x∈l,Lex (f x) (g x) z):Lex (cp (l.map f)) (dP (l.map g)) false:=by
  induction l with
  | nil=>exact Lex.nil.weak
  | cons x l ih=>
    cases l with
    | nil=>exact(h x (by simp)).weak2
    | cons y l=>
      have h2:=ih λz hz=>h z (by simp[hz])
      have hc:Lex ([[44]]++[[32]]) ([44]++[32]) true:=(Re (by decide) (by decide) (by decide)).app Lex.blank
      exact(h x (by simp)).app2 (hc.app h2) ⟨44,_,rfl,by decide⟩
theorem ou (u:Nat):FO (Lib.decDigits u):=by
  obtain⟨h1,_,h3,_⟩:=jJ u
  refine⟨List.all_eq_true.2 λc hc=>?_,h3⟩
  have:=List.all_eq_true.1 h1 c hc
  unfold rC at this;unfold tQ
  simp only[Bool.and_eq_true,decide_eq_true_eq]at this ⊢;omega
theorem fw {s:List UInt8} (h:bw s=true):td s:=by
  unfold bw at h
  simp only[Bool.and_eq_true,decide_eq_true_eq]at h
  obtain⟨⟨⟨⟨h1,h2⟩,h3⟩,h4⟩,_⟩:=h
  refine⟨?_,h4,h2,h1⟩
  cases s with
  | nil=>exact absurd rfl h1
  | cons c s=>exact h3
def ot (n:Int):List (List UInt8):=if n<0 then[[45],Lib.decDigits n.natAbs]else[Lib.decDigits n.natAbs]
theorem Lex.itoa (n:Int):Lex (ot n) (Lib.itoa n) false:=by
  unfold ot
  by_cases h:n<0
  · rw[if_pos h,oV h]
    exact(Re (t:=[45]) (by decide) (by decide) (by decide)).app (Lex.num (ou _))
  · rw[if_neg h,mz (by omega),show n.toNat=n.natAbs by omega]
    exact Lex.num (ou _)
def iu (l:aC):List (Int×List UInt8):=l.L.map (λm=>(m.By,m.Name))++(if l.K≠0∨l.L=[]then[(l.K,[])]else[])
def HL (first:Bool) (c:Int):List (List UInt8):=if first=true then(if c<0 then[[45]]else[])else(if c<0 then[[32],[45],[32]]else[[32],[43],[32]])
def lI (c:Int) (nm:List UInt8):List (List UInt8):=if nm=[]then[Lib.decDigits c.natAbs]else if c.natAbs=1 then[nm]else[Lib.decDigits c.natAbs,[42],nm]
def qG:Bool→List (Int×List UInt8)→List (List UInt8)
  | _,[]=>[]
  | b,x::r=>HL b x.1++(lI x.1 x.2++qG false r)
def Ae:Bool→List (Int×List UInt8)→List UInt8
  | _,[]=>[]
  | b,x::r=>(if b=true then(if x.1<0 then[45]else[])else(if x.1<0 then[32,45,32]else[32,43,32]))++(ud x.1 x.2++Ae false r)
def jY (l:aC):List (List UInt8):=qG true (iu l)
theorem Er:∀ (ts:List (Int×List UInt8)) (s:List UInt8),ts.foldl (λs x=>vB s x.1 x.2) s=s++Ae (decide (s=[])) ts
  | [],s=>by simp[Ae]
  | x::ts,s=>by
    rw[List.foldl_cons,Er ts,decide_eq_false (L9 s x.2)]
    unfold vB Fm
    rw[Ae]
    by_cases h:s=[]<;>simp[h]
theorem JP {l:aC} (h:cv l):mw l=Ae true (iu l):=by
  have e:FL l=(iu l).foldl (λs x=>vB s x.1 x.2) []:=by
    unfold FL iu pj
    rw[List.foldl_append,List.foldl_map]
    split<;>rfl
  unfold mw
  rw[if_pos h,e,Er];rfl
theorem Lex.body {c:Int} {nm:List UInt8} (h:nm=[]∨bw nm=true):Lex (lI c nm) (ud c nm) false:=by
  unfold lI ud
  by_cases h0:nm=[]
  · rw[if_pos h0,if_pos h0];exact Lex.num (ou _)
  have hn:=Q8 (fw (h.resolve_left h0))
  rw[if_neg h0,if_neg h0]
  split
  · exact hn
  · exact(Lex.num (ou _)).app2 ((Re (t:=[42]) (by decide) (by decide) (by decide)).app hn) ⟨42,_,rfl,by decide⟩
theorem Lex.ter:∀ {ts:List (Int×List UInt8)} {b:Bool},(∀ x∈ts,x.2=[]∨bw x.2=true)→Lex (qG b ts) (Ae b ts) false∧(b=false→ts≠[]→∃ c r,Ae b ts=c::r∧hO c=false)
  | [],b,_=>⟨Lex.nil.weak,λ_ h=>absurd rfl h⟩
  | x::ts,b,h=>by
    obtain⟨h1,h2⟩:=Lex.ter (b:=false) λy hy=>h y (List.mem_cons_of_mem _ hy)
    have hs:Lex (HL b x.1) (if b=true then(if x.1<0 then[45]else[])else(if x.1<0 then[32,45,32]else[32,43,32])) true:=by
      unfold HL
      cases b
      · simp only[Bool.false_eq_true,if_false]
        split
        · exact Lex.oper (t:=[45]) (by decide) (by decide)
        · exact Lex.oper (t:=[43]) (by decide) (by decide)
      · simp only[if_true]
        split
        · exact Re (t:=[45]) (by decide) (by decide) (by decide)
        · exact Lex.nil
    have hb:Lex (lI x.1 x.2++qG false ts) (ud x.1 x.2++Ae false ts) false:=by
      have h0:=Lex.body (c:=x.1) (h x (by simp))
      by_cases he:ts=[]
      · subst he;simp only[qG,Ae,List.append_nil];exact h0
      · exact h0.app2 h1 (h2 rfl he)
    refine⟨hs.app hb,λhb0 _=>?_⟩
    subst hb0
    rw[Ae]
    simp only[Bool.false_eq_true,if_false]
    split
    · exact⟨32,_,rfl,by decide⟩
    · exact⟨32,_,rfl,by decide⟩
theorem tu {l:aC} (h:cv l):∀ x∈iu l,x.2=[]∨bw x.2=true:=λx hx=>by
  unfold iu at hx
  rcases List.mem_append.1 hx with hx | hx
  · obtain⟨m,hm,rfl⟩:=List.mem_map.1 hx
    exact Or.inr (h.1 m hm).1
  · split at hx
    · rw[List.mem_singleton.1 hx];exact Or.inl rfl
    · simp at hx
theorem Lex.lin {l:aC} (h:cv l):Lex (jY l) (mw l) false:=by rw[JP h];exact(Lex.ter (tu h)).1
def wK (t:bu):List (List UInt8):=
  if t.Kind=1 then[[102,114,97,99]]else if t.Kind=3 then[[105,110,116]]
  else[[102,105,120]]++([[40]]++((ot t.Bits++([[44],[32]]++(ot t.Frac++([[44],[32]]++([qh t.Round]++([[44],[32]]++[rt t.Over]))))))++[[41]]))
theorem Lex.comma:Lex [[44],[32]] [44,32] true:=(Re (t:=[44]) (by decide) (by decide) (by decide)).app Lex.blank
theorem Bk (n:Int):td (qh n):=by unfold qh;repeat' split
                                 all_goals exact⟨by decide,by decide,by decide,by decide⟩
theorem Bj (n:Int):td (rt n):=by unfold rt;repeat' split
                                 all_goals exact⟨by decide,by decide,by decide,by decide⟩
theorem Lex.type {t:bu} (h:pF t=true):Lex (wK t) (Dx t) false:=by
  unfold wK Dx
  rw[if_pos h]
  split
  · exact Q8 ⟨by decide,by decide,by decide,by decide⟩
  split
  · exact Q8 ⟨by decide,by decide,by decide,by decide⟩
  have c:∀ {a:List (List UInt8)} {A:List UInt8},∃ d r,[44,32]++A=d::r∧hO d=false:=λ{a A} =>⟨44,_,rfl,by decide⟩
  have h1:=(Lex.itoa t.Bits).app2 (Lex.comma.app ((Lex.itoa t.Frac).app2 (Lex.comma.app ((Q8 (Bk t.Round)).app2 (Lex.comma.app (Q8 (Bj t.Over))) ⟨44,_,rfl,by decide⟩)) ⟨44,_,rfl,by decide⟩)) ⟨44,_,rfl,by decide⟩
  have h2:=(Q8 (t:=[102,105,120]) ⟨by decide,by decide,by decide,by decide⟩).app2 h1.paren ⟨40,_,rfl,by decide⟩
  have e:[102,105,120,40]++(Lib.itoa t.Bits++([44,32]++(Lib.itoa t.Frac++([44,32]++(qh t.Round++([44,32]++(rt t.Over++[41])))))))=[102,105,120]++([40]++((Lib.itoa t.Bits++([44,32]++(Lib.itoa t.Frac++([44,32]++(qh t.Round++([44,32]++rt t.Over))))))++[41])):=by simp
  rw[e]
  exact h2.weak
def zi (a:co):List (List UInt8):=if a.D=1 then ot a.N else ot a.N++([[47]]++ot a.D)
theorem Lex.fmt {a:co} (h:mA a=true):Lex (zi a) (qH a) false:=by
  unfold zi qH
  rw[if_pos h]
  split
  · exact Lex.itoa _
  · exact(Lex.itoa _).app2 ((Re (t:=[47]) (by decide) (by decide) (by decide)).app (Lex.itoa _)) ⟨47,_,rfl,by decide⟩
def Dz (x:aM):List (List UInt8):=if x.From=[]then jY x.Lin else[x.From]++([[91]]++(cp (x.At.map jY)++[[93]]))
abbrev FC (x:aM):Prop:=cv x.Lin∧(∀ f∈x.At,cv f)∧(if x.From=[]then x.At=[]else bw x.From=true∧x.Lin.K=0∧x.Lin.L=[])
theorem Lex.index {x:aM} (h:FC x):Lex (Dz x) (Cq x) false:=by
  obtain⟨h1,h2,h3⟩:=h
  unfold Dz Cq
  by_cases hf:x.From=[]
  · rw[if_pos hf]at h3
    rw[if_pos hf,if_pos ⟨h1,h2⟩,if_pos hf,if_pos h3]
    have:=Lex.lin h1
    unfold mw at this
    rwa [if_pos h1]at this
  · rw[if_neg hf]at h3
    rw[if_neg hf,if_pos ⟨h1,h2⟩,if_neg hf,if_pos h3]
    exact((Q8 (fw h3.1)).app2 (Rh λf hf=>Lex.lin (h2 f hf)).brack ⟨91,_,rfl,by decide⟩).weak2
def KJ (a:ae) (t:List (List UInt8)) (ph:Int):List (List UInt8):=if kH a.Op<ph then[[40]]++(t++[[41]])else t
theorem Lex.opd {a:ae} {t:List (List UInt8)} {T:List UInt8} (ph:Int) (h:Lex t T true):Lex (KJ a t ph) (opd a T ph) true:=by
  unfold KJ Go.Proofs.YtmhoikfoogemnaaGreatDoor.opd
  split
  · exact h.paren
  · exact h
end Go.Proofs.YtmhoikfoogemnaaGreatDoor
namespace Go.Proofs.YtmhoikfoogemnaaGreatDoor
open Go Go.RowKit Go.Vc
set_option linter.unusedVariables false
set_option linter.unusedSimpArgs false
theorem Lx {e:ae} (hn:jA e=0):∀ x∈e.Idx,FC x:=λx hx=>by
 obtain⟨p1,p2,p3,p4,p5⟩:=pI hn
 unfold qc at p1
 unfold pt at p2
 unfold xF at p5
 simp only[Bool.and_eq_true,List.all_eq_true]at p1 p2 p5
 have q1:=p1.2 x hx
 have q2:=p2.2 x hx
 obtain⟨q3,q4⟩:=p5.2 x hx
 unfold KL at q1
 refine⟨of_decide_eq_true q3,λf hf=>of_decide_eq_true (q4 f hf),?_⟩
 by_cases hf:x.From=[]
 ·rw[if_pos hf]at q1 ⊢
  simpa using q1
 ·rw[if_neg hf]at q1 ⊢
  unfold BD at q1
  simp only[Bool.and_eq_true,decide_eq_true_eq]at q1
  simp only[hf,decide_false,Bool.false_or]at q2
  exact⟨q2,q1.1,List.length_eq_zero_iff.1 (by omega)⟩
structure KA (e:ae):Prop where
 op1:1≤e.Op
 op2:e.Op≤18
 ty:(e.Op=1∨e.Op=12)→pF e.Type_=true
 nty:e.Op≠1→e.Op≠12→e.Type_=⟨0,0,0,0,0⟩
 val:e.Op=1→wJ e.Type_ e.Val=true
 nval:e.Op≠1→e.Val=⟨0,0⟩
 lin:cv e.Lin
 nlin:e.Op≠2→e.Lin=⟨0,[]⟩
 nam:e.Op=3→bw e.Name=true
 nnam:e.Op≠3→e.Name=[]∧e.Idx=[]
 ix:∀ x∈e.Idx,FC x
 len:(e.Args.length:Int)=nr e.Op
theorem JA {e:ae} (hn:jA e=0):KA e:=by
 have hix:=Lx hn
 obtain⟨p1,p2,p3,p4,p5⟩:=pI hn
 unfold qc BD Pl at p1
 unfold pt at p2
 unfold sW at p3
 unfold tr at p4
 unfold xF gb at p5
 simp only[Bool.and_eq_true,Bool.or_eq_true,decide_eq_true_eq,Bool.not_eq_true',decide_eq_false_iff_not]at p1 p2 p3 p4 p5
 obtain⟨⟨⟨⟨⟨⟨o1,o2⟩,v⟩,t⟩,l⟩,nm⟩,_⟩:=p1
 refine⟨o1,o2,λh=>?_,λh1 h12=>?_,λh=>?_,λh=>?_,p5.1.2,λh=>?_,λh=>?_,λh=>?_,hix,p3.1.1⟩
 ·rcases p4.1 with hh | hh
  ·rcases h with h | h<;>simp[h]at hh
  ·exact hh
 ·have:=t.resolve_left (by rintro(h | h)<;>contradiction)
  cases ht:e.Type_
  rw[ht]at this
  simp only at this
  obtain⟨⟨⟨⟨a,b⟩,c⟩,d⟩,f⟩:=this
  rw[a,b,c,d,f]
 ·exact p5.1.1.resolve_left (λhh=>hh h)
 ·have:=v.resolve_left h
  cases hv:e.Val
  rw[hv]at this
  simp only at this
  rw[this.1,this.2]
 ·have:=l.resolve_left h
  cases hl:e.Lin with | mk K L=>
  rw[hl]at this
  simp only at this
  rw[this.1,List.length_eq_zero_iff.1 (show L.length=0 by omega)]
 ·exact p2.1.resolve_left (λhh=>hh h)
 ·have:=nm.resolve_left h
  exact⟨this.1,List.length_eq_zero_iff.1 (by omega)⟩
theorem DK {t:List UInt8} (h:A7 t):t.filter (λc=>decide (c≠32))=t:=by
 rw[List.filter_eq_self]
 intro c hc
 have hw:∀ d:UInt8,(hO d=true→decide (d≠32)=true):=λd hd=>by
  rw[decide_eq_true_eq];rintro rfl;revert hd;decide
 rcases h with⟨_,h2,_,_⟩ | ⟨h1,_⟩ | h
 ·exact hw c (List.all_eq_true.1 h2 c hc)
 ·exact hw c (DF (List.all_eq_true.1 h1 c hc))
 ·unfold gt at h
  simp only[List.mem_cons,List.not_mem_nil,or_false]at h
  rcases h with rfl | rfl | rfl | rfl | rfl | rfl | rfl | rfl | rfl | rfl | rfl | rfl | rfl | rfl | rfl | rfl | rfl<;>simp at hc<;>(first | (rcases hc with rfl | rfl<;>decide) | (subst hc;decide))
theorem L5:∀ {ls:List (List UInt8)} {n:Option UInt8},ve ls n→ls.flatten.filter (λc=>decide (c≠32))=(ls.filter iG).flatten
 | [],_,_=>rfl
 | t::ls,n,h=>by
  rw[List.flatten_cons,List.filter_append,L5 h.2]
  rcases h.1 with rfl | ⟨h1,_⟩
  ·rw[List.filter_cons_of_neg (by simp[iG])];rfl
  ·have:t≠[32]:=λhh=>by
    have:=DK h1;rw[hh]at this;exact absurd this (by decide)
   rw[List.filter_cons_of_pos (by simp[iG,this]),List.flatten_cons,DK h1]
theorem Hb:∀ {ls:List (List UInt8)} {n:Option UInt8},ve ls n→ls.length≤ls.flatten.length
 | [],_,_=>by simp
 | t::ls,n,h=>by
  have h2:=Hb h.2
  have:1≤t.length:=by
   rcases h.1 with rfl | ⟨h1,_⟩
   ·simp
   ·obtain⟨c,q,rfl,_⟩:=rX h1;simp
  rw[List.flatten_cons,List.length_append,List.length_cons];omega
end Go.Proofs.YtmhoikfoogemnaaGreatDoor
namespace Go.Proofs.YtmhoikfoogemnaaGreatDoor
open Go Go.RowKit Go.Vc
set_option linter.unusedVariables false
set_option linter.unusedSimpArgs false
abbrev dg (ls:List (List UInt8)):List (List UInt8):=ls.filter iG
theorem JD {t:List UInt8} (h:A7 t):iG t=true:=by
 obtain⟨c,q,rfl,hc⟩:=rX h
 unfold iG
 rw[decide_eq_true_eq]
 intro hh
 injection hh with h1 h2
 subst h1
 revert hc;decide
theorem uQ {t:List UInt8} (h:td t):iG t=true:=JD (Or.inl h)
theorem Qm {t:List UInt8} (h:FO t):iG t=true:=JD (Or.inr (Or.inl h))
theorem G3 (u:Nat):iG (Lib.decDigits u)=true:=Qm (ou u)
theorem ME {s t:List UInt8} (hs:FO s) (ht:td t):s≠t:=λh=>by
 have h1:=pW hs
 have h2:=ht.1
 rw[h]at h1
 rw[ur h2]at h1;cases h1
theorem Gt {t:List UInt8} (h:td t):t∉gt:=λhs=>by
 have h2:=h.1
 unfold gt at hs
 simp only[List.mem_cons,List.not_mem_nil,or_false]at hs
 rcases hs with rfl | rfl | rfl | rfl | rfl | rfl | rfl | rfl | rfl | rfl | rfl | rfl | rfl | rfl | rfl | rfl | rfl<;>revert h2<;>decide
theorem Ci {t:List UInt8} (h:FO t):t∉gt:=λhs=>by
 have h2:=pW h
 unfold gt at hs
 simp only[List.mem_cons,List.not_mem_nil,or_false]at hs
 rcases hs with rfl | rfl | rfl | rfl | rfl | rfl | rfl | rfl | rfl | rfl | rfl | rfl | rfl | rfl | rfl | rfl | rfl<;>revert h2<;>decide
theorem L1 (u:Nat) {s:List UInt8} (h:s∈gt):Lib.decDigits u≠s:=λhh=>Ci (ou u) (by rw[hh];exact h)
theorem lJ {t s:List UInt8} (ht:td t) (h:s∈gt):t≠s:=λhh=>Gt ht (by rw[hh];exact h)
def stopF (r:List (List UInt8)):Prop:=∃ t s,r=t::s∧(t=[93]∨t=[41]∨t=[44])
theorem IU {c:Int} {nm:List UInt8} (h:nm=[]∨bw nm=true):dg (lI c nm)=lI c nm:=by
 unfold dg lI
 split
 ·simp[G3]
 ·rename_i h0
  have:=uQ (fw (h.resolve_left h0))
  split
  ·simp[this]
  ·simp[this,G3,show iG [42]=true by decide]
theorem Dm {c:Int} {nm:List UInt8} (h:nm=[]∨bw nm=true):∃ t s,lI c nm=t::s∧t∉gt:=by
 unfold lI
 split
 ·exact⟨_,_,rfl,Ci (ou _)⟩
 ·rename_i h0
  split
  ·exact⟨_,_,rfl,Gt (fw (h.resolve_left h0))⟩
  ·exact⟨_,_,rfl,Ci (ou _)⟩
def xQ (first:Bool) (c:Int):List (List UInt8):=if c<0 then[[45]]else if first=true then[]else[[43]]
theorem K6 (b:Bool) (c:Int):dg (HL b c)=xQ b c:=by
 unfold dg HL xQ
 cases b<;>by_cases h:c<0<;>simp[h]<;>decide
abbrev MB (ts:List (Int×List UInt8)):Prop:=∀ x∈ts,x.2=[]∨bw x.2=true
theorem ui {b:Bool} {x:Int×List UInt8} {ts:List (Int×List UInt8)} (h:x.2=[]∨bw x.2=true):dg (qG b (x::ts))=xQ b x.1++(lI x.1 x.2++dg (qG false ts)):=by
 rw[qG]
 show List.filter iG _ =_
 rw[List.filter_append,List.filter_append]
 rw[show List.filter iG (HL b x.1)=xQ b x.1 from K6 b x.1,show List.filter iG (lI x.1 x.2)=lI x.1 x.2 from IU h]
theorem Nl {b:Bool} {x:Int×List UInt8} {ts:List (Int×List UInt8)} (h:x.2=[]∨bw x.2=true) (r:List (List UInt8)):∃ t s,dg (qG b (x::ts))++r=t::s∧t≠[93]∧t≠[41]∧t≠[44]∧t≠[42]:=by
 rw[ui h]
 unfold xQ
 obtain⟨t,s,e,hn⟩:=Dm (c:=x.1) h
 split
 ·exact⟨_,_,rfl,by decide⟩
 ·split
  ·rw[e];exact⟨_,_,rfl,λhh=>hn (by rw[hh];decide),λhh=>hn (by rw[hh];decide),λhh=>hn (by rw[hh];decide),λhh=>hn (by rw[hh];decide)⟩
  ·exact⟨_,_,rfl,by decide⟩
theorem JO {f:aC} (h:cv f) (r:List (List UInt8)):∃ t s,dg (jY f)++r=t::s∧t≠[93]∧t≠[41]∧t≠[44]∧t≠[42]:=by
 unfold jY
 cases ht:iu f with
 | nil=>
  unfold iu at ht
  rw[List.append_eq_nil_iff,List.map_eq_nil_iff]at ht
  rw[ht.1]at ht
  simp at ht
 | cons x ts=>exact Nl (tu h x (by rw[ht];simp)) r
theorem Cr {n:Int} (h:0≤n):ot n=[Lib.decDigits n.natAbs]:=by unfold ot;rw[if_neg (by omega)]
theorem BP {t:bu} (h:pF t=true):dg (wK t)=if t.Kind=1 then[[102,114,97,99]]else if t.Kind=3 then[[105,110,116]]else[[102,105,120],[40],Lib.decDigits t.Bits.natAbs,[44],Lib.decDigits t.Frac.natAbs,[44],qh t.Round,[44],rt t.Over,[41]]:=by
 unfold wK dg
 by_cases k1:t.Kind=1
 ·rw[if_pos k1,if_pos k1];decide
 by_cases k3:t.Kind=3
 ·rw[if_neg k1,if_neg k1,if_pos k3,if_pos k3];decide
 rw[if_neg k1,if_neg k1,if_neg k3,if_neg k3]
 unfold pF at h
 rw[if_neg (by simp[k1,k3])]at h
 simp only[decide_eq_true_eq]at h
 rw[Cr (by omega),Cr (by omega)]
 simp[G3,uQ (Bk _),uQ (Bj _),show iG [102,105,120]=true by decide,show iG [40]=true by decide,show iG [44]=true by decide,show iG [41]=true by decide,show iG [32]=false by decide]
theorem IQ (n:Int):dg (ot n)=ot n:=by
 unfold dg ot
 split<;>simp[G3,show iG [45]=true by decide]
theorem vK {α:Type} (f:α→List (List UInt8)) (x y:α) (l:List α):dg (cp ((x::y::l).map f))=dg (f x)++([44]::dg (cp ((y::l).map f))):=by
 rw[List.map_cons,List.map_cons,cp]
 show List.filter iG _ =_
 rw[List.filter_append,List.filter_append]
 rfl
theorem GB {x:aM} (h:FC x) (hf:x.From≠[]):dg (Dz x)=x.From::[91]::(dg (cp (x.At.map jY))++[[93]]):=by
 have h3:=h.2.2
 rw[if_neg hf]at h3
 unfold Dz
 rw[if_neg hf]
 show List.filter iG _ =_
 rw[List.filter_append,List.filter_append,List.filter_append,List.filter_cons_of_pos (uQ (fw h3.1))]
 rfl
theorem Qt {x:aM} (h:FC x) (r:List (List UInt8)):∃ t s,dg (Dz x)++r=t::s∧t≠[93]∧t≠[41]:=by
 by_cases hf:x.From=[]
 ·unfold Dz
  rw[if_pos hf]
  obtain⟨t,s,h1,h2,h3,_⟩:=JO h.1 r
  exact⟨t,s,h1,h2,h3⟩
 ·rw[GB h hf]
  have h3:=h.2.2
  rw[if_neg hf]at h3
  exact⟨_,_,rfl,lJ (fw h3.1) (by decide),lJ (fw h3.1) (by decide)⟩
theorem IY {b:Bool} {x:Int×List UInt8} {ts:List (Int×List UInt8)} {r s:List (List UInt8)} {t:List UInt8} (h:MB (x::ts)) (hr:stopF r) (ht:td t) (e:dg (qG b (x::ts))++r=t::s):s.head?≠some [91]:=by
 have hx:=h x (by simp)
 rw[ui hx,List.append_assoc,List.append_assoc]at e
 unfold xQ at e
 have hb:lI x.1 x.2++(dg (qG false ts)++r)=t::s:=by
  split at e
  ·exact absurd (List.cons.inj e).1.symm (lJ ht (by decide))
  ·split at e
   ·exact e
   ·exact absurd (List.cons.inj e).1.symm (lJ ht (by decide))
 unfold lI at hb
 split at hb
 ·exact absurd (List.cons.inj hb).1 (ME (ou _) ht)
 ·split at hb
  ·have:=(List.cons.inj hb).2
   have this:dg (qG false ts)++r=s:=this
   cases ts with
   | nil=>
    obtain⟨a,c,rfl,hac⟩:=hr
    rw[← this]
    show some a≠ _
    rcases hac with rfl | rfl | rfl<;>decide
   | cons p q=>
    rw[ui (h p (by simp))]at this
    rw[← this]
    unfold xQ
    split
    ·show some ([45]:List UInt8)≠ _;decide
    ·show some ([43]:List UInt8)≠ _;decide
  ·exact absurd (List.cons.inj hb).1 (ME (ou _) ht)
end Go.Proofs.YtmhoikfoogemnaaGreatDoor
namespace Go.Proofs.YtmhoikfoogemnaaGreatDoor
open Go Go.RowKit Go.Vc
set_option linter.unusedVariables false
set_option linter.unusedSimpArgs false
abbrev VE (e:ae):Prop:=okGExpr e∧ov e=0
theorem VE.node {e:ae} (h:VE e):KA e:=JA (pX h.2).1
theorem VE.arg {e a:ae} (h:VE e) (ha:a∈e.Args):VE a:=⟨h.1.out.2.2.1 a ha,(pX h.2).2 a ha⟩
def NU (t:List UInt8):Int:=if t=[124]then 1 else if t=[38]then 2 else if t=[60]∨t=[60,61]∨t=[61,61]then 4 else if t=[43]∨t=[45]then 5 else if t=[42]∨t=[47]then 6 else 0
def stopE (L:Int) (r:List (List UInt8)):Prop:=∀ t s,r=t::s→NU t<L
theorem stopF.e {r:List (List UInt8)} (h:stopF r):stopE 1 r:=by
 obtain⟨t,s,rfl,h⟩:=h
 intro t' s' e
 injection e with e1 e2
 subst e1
 rcases h with rfl | rfl | rfl<;>decide
theorem stopE.mono {L M:Int} {r:List (List UInt8)} (h:stopE L r) (hl:L≤M):stopE M r:=λt s e=>by have:=h t s e;omega
theorem FH (op:Int):1≤kH op∧kH op≤8:=by
 unfold kH
 repeat' split
 all_goals omega
def qp (op:Int):Prop:=op=4∨op=5∨op=6∨op=7∨op=13∨op=14∨op=15∨op=16∨op=17
def EY (op:Int) (a b:ae):ae:=⟨op,[],⟨0,0⟩,⟨0,0,0,0,0⟩,⟨0,[]⟩,[],[a,b]⟩
theorem tM {e f:ae} (h1:e.Op=f.Op) (h2:e.Name=f.Name) (h3:e.Val=f.Val) (h4:e.Type_=f.Type_) (h5:e.Lin=f.Lin) (h6:e.Idx=f.Idx) (h7:e.Args=f.Args):e=f:=by
 cases e;cases f
 simp only at h1 h2 h3 h4 h5 h6 h7
 rw[h1,h2,h3,h4,h5,h6,h7]
theorem Kq {op:Int} (h:qp op):NU (mE op)=kH op∧mE op∈gt:=by
 unfold qp at h
 rcases h with rfl | rfl | rfl | rfl | rfl | rfl | rfl | rfl | rfl<;>exact⟨by decide,by decide⟩
def unE (op:Int) (a:ae):ae:=⟨op,[],⟨0,0⟩,⟨0,0,0,0,0⟩,⟨0,[]⟩,[],[a]⟩
end Go.Proofs.YtmhoikfoogemnaaGreatDoor
