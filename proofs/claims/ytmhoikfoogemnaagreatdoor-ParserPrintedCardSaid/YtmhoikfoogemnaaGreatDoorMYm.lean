import Derived.Test.YtmhoikfoogemnaaGreatDoorMYg
namespace Go.Proofs.YtmhoikfoogemnaaGreatDoor
open Go Go.RowKit Go.Vc
set_option linter.unusedVariables false
set_option linter.unusedSimpArgs false
def jR (op:Int):Int:=
  if op=17 then 1 else if op=16 then 2 else if op=18 then 3 else if op=13∨op=14∨op=15 then 4
  else if op=4∨op=5 then 5 else if op=6∨op=7 then 6 else if op=8 then 7 else 8
def lc (op:Int):List UInt8:=
  if op=4 then[43]else if op=5 then[45]else if op=6 then[42]else if op=7 then[47]else if op=13 then[60]else if op=14 then[60,61]else if op=15 then[61,61]else if op=16 then[38]else if op=17 then[124]else[]
theorem GC (op:Int):l7 op=some (if lc op=[]then[]else[32]++(lc op++[32])):=by
  unfold l7 lc
  by_cases h4:op=4
  · simp[h4]
  by_cases h5:op=5
  · simp[h5]
  by_cases h6:op=6
  · simp[h6]
  by_cases h7:op=7
  · simp[h7]
  by_cases h13:op=13
  · simp[h13]
  by_cases h14:op=14
  · simp[h14]
  by_cases h15:op=15
  · simp[h15]
  by_cases h16:op=16
  · simp[h16]
  by_cases h17:op=17
  · simp[h17]
  simp[h4,h5,h6,h7,h13,h14,h15,h16,h17]
theorem zU (op:Int):(lc op).length≤2:=by unfold lc;repeat' split
                                         all_goals simp
def opd (a:ac) (t:List UInt8) (m6:Int):List UInt8:=if jR a.Op<m6 then[40]++(t++[41])else t
theorem ss (a:ac) (t:List UInt8) (m6:Int):(opd a t m6).length≤t.length+2:=by unfold opd;split<;>simp
theorem pv {α:Type} {f g:α→Nat} {l:List α} (h:∀ x∈l,f x≤g x):(l.map f).sum≤(l.map g).sum:=by
  induction l with
  | nil=>simp
  | cons x l ih=>
    rw[List.map_cons,List.map_cons,List.sum_cons,List.sum_cons]
    have:=h x (by simp)
    have:=ih fun y hy=>h y (by simp[hy])
    omega
theorem uJ {α:Type} (f:α→Nat) (c d:Nat) (l:List α):(l.map fun x=>c * f x+d).sum=c * (l.map f).sum+d * l.length:=by
  induction l with
  | nil=>simp
  | cons x l ih=>simp only[List.map_cons,List.sum_cons,List.length_cons,ih,Nat.mul_add,Nat.mul_one];omega
theorem As {x:av} (ho:l5 x):(yK x).length≤60 * wI x+60:=by
  obtain⟨o1,_,o2⟩:=ho
  have hj:=j8 (x.At.map nP)
  have hs:mL (x.At.map nP)≤40 * (x.At.map (·.L.length)).sum+26 * x.At.length:=by
    unfold mL
    rw[List.map_map, ← uJ]
    exact pv fun f hf=>by have:=sx (o2.1 f hf).r;simp only[Function.comp];omega
  unfold wI yK
  split
  · rename_i hk
    split
    · split
      · have:=Ap hk.1 o1.r.1 o1.r.2;omega
      · simp
    · split
      · rename_i hc
        have:=(mG hc.1).2
        simp only[List.length_append,List.length_cons,List.length_nil];omega
      · simp
  · simp
theorem ny {e:ac} (h:iU e=0):nK e=true∧nj e=true∧pY e=true∧qj e=true∧uf e=true:=by
  unfold iU at h
  repeat' split at h
  all_goals simp_all
theorem nI {e:ac} (h:mv e=0):iU e=0∧∀ a∈e.Args,mv a=0:=by
  rw[yU]at h
  by_cases hn:iU e=0
  · rw[if_pos hn]at h;exact⟨hn,xU.1 h⟩
  · rw[if_neg hn]at h;exact absurd h hn
theorem DJ {α:Type} :∀ {l:List α},l.length=2→∃ a b,l=[a,b]
  | [a,b],_=>⟨a,b,rfl⟩
theorem len3 {α:Type} :∀ {l:List α},l.length=3→∃ a b c,l=[a,b,c]
  | [a,b,c],_=>⟨a,b,c,rfl⟩
end Go.Proofs.YtmhoikfoogemnaaGreatDoor
namespace Go.Proofs.YtmhoikfoogemnaaGreatDoor
open Go Go.RowKit Go.Vc
set_option linter.unusedVariables false
set_option linter.unusedSimpArgs false
theorem tv:∀ {l:List Nat} {x:Nat},x∈l→x≤l.sum
 | y::l,x,h=>by
  rw[List.sum_cons]
  rcases List.mem_cons.1 h with rfl | h
  ·omega
  ·have:=tv h;omega
theorem Cq {e:ac} (h:vE e=0):mv e=0:=by
 unfold vE at h
 repeat' split at h
 all_goals simp_all
end Go.Proofs.YtmhoikfoogemnaaGreatDoor
namespace Go.Proofs.YtmhoikfoogemnaaGreatDoor
open Go Go.RowKit Go.Vc
set_option linter.unusedVariables false
set_option linter.unusedSimpArgs false
theorem sw {α:Type} {l:List α} {i:Nat} {x:α} (h:l[i]? =some x):i<l.length:=(List.getElem?_eq_some_iff.1 h).1
def defF (d:KZ):Prop:=(0≤d.Fold∧d.Fold≤5)∧((d.Fold=0∨d.Fold=5)→d.Red=[])
instance (d:KZ):Decidable (defF d):=inferInstanceAs (Decidable (_ ∧ _))
theorem aC {α:Type} [Inhabited α] (g:Bool) (v:α):gd g (some v)=some (if g=true then v else default):=by unfold gd;cases g<;>rfl
end Go.Proofs.YtmhoikfoogemnaaGreatDoor
namespace Go.Proofs.YtmhoikfoogemnaaGreatDoor
open Go Go.RowKit Go.Vc
set_option linter.unusedVariables false
set_option linter.unusedSimpArgs false
end Go.Proofs.YtmhoikfoogemnaaGreatDoor
namespace Go.Proofs.YtmhoikfoogemnaaGreatDoor
open Go Go.RowKit Go.Vc
set_option linter.unusedVariables false
set_option linter.unusedSimpArgs false
theorem Hz {p:UInt8→Bool} {s:List UInt8} {i:Nat} (h:(s.take i).all p=true) (hs:∀ c,s[i]? =some c→p c=false) (hi:i≤s.length):(s.takeWhile p).length=i:=by
  induction s generalizing i with
  | nil=>simp at hi ⊢;omega
  | cons c s ih=>
    cases i with
    | zero=>rw[List.takeWhile_cons,hs c rfl];simp
    | succ i=>
      rw[List.take_succ_cons,List.all_cons,Bool.and_eq_true]at h
      rw[List.takeWhile_cons,h.1]
      simp only[if_true,List.length_cons]
      rw[ih h.2 (fun d hd=>hs d (by simpa using hd)) (by simpa using hi)]
theorem CD {s:List UInt8} {f:Int→Option Bool} {p:UInt8→Bool} (hs:s.length<4611686018427387904) (hf:∀ c:UInt8,f (oG (c.toNat:Int))=some (p c)):gi s f=some ((s.takeWhile p).length:Int):=by
  refine i7 (L:=fun g (_:Unit) i=>cw s f g i) (n:=s.length) hs (fun i _=>(s.take i).all p=true) ?_ ?_ () (by simp)
  · intro g i _ hi hI
    obtain⟨c,hc⟩:=bZ hi
    simp only[cw]
    rw[bX hi]
    simp only[gd,if_true,gD hc,Option.bind_some,hf,Bool.true_and]
    by_cases hw:p c=true
    · left;refine⟨(),?_,by rw[if_pos hw,ni (by omega)]⟩
      rw[bT hc,List.all_append,hI];simp[hw]
    · right
      rw[if_neg hw,Hz hI (fun d hd=>by rw[hc]at hd;injection hd with hd;rw[← hd];simpa using hw) (by omega)]
  · intro g _ hI
    rw[Hz (i:=s.length) hI (fun d hd=>by simp at hd) (Nat.le_refl _)]
    simp only[cw]
    simp[gd]
theorem Es {p:UInt8→Bool} {t r:List UInt8} (ht:t.all p=true) (hr:∀ c,r.head?=some c→p c=false):(t++r).takeWhile p=t:=by
  induction t with
  | nil=>
    cases r with
    | nil=>rfl
    | cons c r=>rw[List.nil_append,List.takeWhile_cons,hr c rfl];rfl
  | cons c t ih=>
    rw[List.all_cons,Bool.and_eq_true]at ht
    rw[List.cons_append,List.takeWhile_cons,ht.1,ih ht.2];rfl
def qz (c:UInt8):Bool:=decide (48≤(c.toNat:Int))&&decide ((c.toNat:Int)≤57)
theorem AG (c:UInt8):eP (oG (c.toNat:Int))=some (qz c):=by rw[oZ];rfl
def fR:List (List UInt8):=[[40],[41],[91],[93],[44],[43],[45],[42],[47],[60],[38],[124],[33],[58],[59],[60,61],[61,61]]
def uu (t:List UInt8):Prop:=ld (t.headD 0)=true∧t.all gl=true∧t.length≤16∧t≠[]
def BJ (t:List UInt8):Prop:=t.all qz=true∧t≠[]
def xF (t:List UInt8):Prop:=uu t∨BJ t∨t∈fR
def iu (t:List UInt8):Int:=if ld (t.headD 0)=true then 1 else if qz (t.headD 0)=true then 2 else 3
def Ik (t:List UInt8) (n:Option UInt8):Prop:=(ld (t.headD 0)=true→∀ c,n=some c→gl c=false)∧(qz (t.headD 0)=true→∀ c,n=some c→qz c=false)∧(t=[60]→n≠some 61)
theorem qV {c:UInt8} (h:ld c=true):qz c=false:=by
  unfold ld at h;unfold qz
  simp only[Bool.and_eq_true,decide_eq_true_eq]at h
  rw[Bool.eq_false_iff]
  simp only[ne_eq,Bool.and_eq_true,decide_eq_true_eq];omega
theorem Fs {t r:List UInt8} (h:xF t) (hs:Ik t r.head?) (hl:(t++r).length<4611686018427387904):iY (t++r)=some (iu t,(t.length:Int)):=by
  unfold iY
  rcases h with⟨h1,h2,h3,h4⟩ | ⟨h1,h2⟩ | h
  · cases t with
    | nil=>exact absurd rfl h4
    | cons c t=>
      have hc:ld c=true:=h1
      rw[show sat (c::t++r) 0=some (c.toNat:Int)from gD (i:=0) rfl,Option.bind_some,tu,Option.bind_some,hc,if_pos rfl,CD hl xT,Es h2 (hs.1 h1)]
      unfold iu
      rw[if_pos h1];rfl
  · cases t with
    | nil=>exact absurd rfl h2
    | cons c t=>
      have hc:qz c=true:=by rw[List.all_cons,Bool.and_eq_true]at h1;exact h1.1
      have hn:ld c=false:=by
        cases hh:ld c
        · rfl
        · rw[qV hh]at hc;cases hc
      rw[show sat (c::t++r) 0=some (c.toNat:Int)from gD (i:=0) rfl,Option.bind_some,tu,Option.bind_some,hn,if_neg (by simp),AG,Option.bind_some,hc,if_pos rfl,CD hl AG,Es h1 (hs.2.1 hc)]
      unfold iu
      rw[show(c::t).headD 0=c from rfl,hn,hc];rfl
  · by_cases h60:t=[60]
    · subst h60
      cases r with
      | nil=>rfl
      | cons c r=>
        have hc:c≠61:=fun hh=>hs.2.2 rfl (by rw[hh];rfl)
        have hcn:(c.toNat:Int)≠61:=fun hh=>hc (by apply UInt8.toNat_inj.1;show c.toNat=61;omega)
        have hl2:decide ((1:Int)<(([60]++c::r).length:Int))=true:=by simp;omega
        rw[show sat ([60]++c::r) 0=some 60 from gD (i:=0) (c:=60) rfl,show sat ([60]++c::r) 1=some (c.toNat:Int)from gD (i:=1) rfl,hl2]
        simp[gd,hcn,eO,eP,iq,iu,ld,qz,oG,IntKind.wrap,IntKind.signed,IntKind.bits]
    by_cases h2:t=[60,61]∨t=[61,61]
    · have hl2:decide ((1:Int)<((t++r).length:Int))=true:=by rcases h2 with rfl | rfl<;>simp<;>omega
      have hs1:sat (t++r) 1=some 61:=by rcases h2 with rfl | rfl<;>exact gD (i:=1) (c:=61) rfl
      rcases h2 with rfl | rfl
      · rw[show sat ([60,61]++r) 0=some 60 from gD (i:=0) (c:=60) rfl,hs1,hl2]
        rfl
      · rw[show sat ([61,61]++r) 0=some 61 from gD (i:=0) (c:=61) rfl,hs1,hl2]
        rfl
    unfold fR at h
    simp only[List.mem_cons,List.not_mem_nil,or_false]at h
    rcases h with rfl | rfl | rfl | rfl | rfl | rfl | rfl | rfl | rfl | rfl | rfl | rfl | rfl | rfl | rfl | rfl | rfl
    all_goals first
      | exact absurd rfl h60
      | exact absurd (Or.inl rfl) h2
      | exact absurd (Or.inr rfl) h2
      | (rw[show ∀ (x:UInt8) q,sat ([x]++q) 0=some (x.toNat:Int)from fun x q=>gD (i:=0) rfl]
         simp[gd,eO,eP,iq,iu,ld,qz,oG,IntKind.wrap,IntKind.signed,IntKind.bits];done)
def Dy (c:UInt8):Bool:=decide (c=9)||decide (c=10)||decide (c=13)||decide (c=32)||decide (c=35)
theorem CF {n:Nat} {r:List UInt8} (hr:∀ c,r.head?=some c→Dy c=false) (hl:(List.replicate n 32++r).length<4611686018427387904):gX (List.replicate n 32++r)=some (n:Int):=by
  refine i7 (L:=fun g (_:Unit) i=>dz (List.replicate n 32++r) g i) (n:=(List.replicate n 32++r).length) hl (fun i _=>i≤n) ?_ ?_ () (by simp)
  · intro g i _ hi hI
    obtain⟨c,hc⟩:=bZ hi
    simp only[dz]
    rw[if_pos (bX hi),gD hc,Option.bind_some,oZ]
    by_cases hin:i<n
    · left;refine⟨(),by omega,?_⟩
      have:c=32:=by
        rw[List.getElem?_append_left (by simpa using hin),List.getElem?_replicate,if_pos hin]at hc
        injection hc with hc;exact hc.symm
      subst this
      rw[show ia (((32:UInt8).toNat:Nat):Int)=some true from rfl,Option.bind_some,if_pos rfl,ni (by omega)]
    · right
      obtain rfl:i=n:=by omega
      have hh:r.head?=some c:=by
        rw[List.getElem?_append_right (by simp)]at hc
        simpa[List.head?_eq_getElem?]using hc
      have hs:=hr c hh
      unfold Dy at hs
      simp only[Bool.or_eq_false_iff,decide_eq_false_iff_not]at hs
      obtain⟨⟨⟨⟨s1,s2⟩,s3⟩,s4⟩,s5⟩:=hs
      have inj:∀ k:UInt8,c≠k→(c.toNat:Int)≠(k.toNat:Int):=fun k hk hh=>hk (UInt8.toNat_inj.1 (by omega))
      have t1:=inj 9 s1;have t2:=inj 10 s2;have t3:=inj 13 s3;have t4:=inj 32 s4;have t5:=inj 35 s5
      simp at t1 t2 t3 t4 t5
      have hsp:ia (c.toNat:Int)=some false:=by
        unfold ia
        rw[if_neg (by simpa using t1),if_neg (by simpa using t2),if_neg (by simpa using t3),if_neg (by simpa using t4)]
      rw[hsp,Option.bind_some,if_neg (by simp),if_neg (by simpa using t5)]
  · intro g _ hI
    simp only[dz]
    have:(List.replicate n (32:UInt8)++r).length=n:=by
      rw[List.length_append,List.length_replicate]at hI ⊢;omega
    rw[if_neg (by simp),this]
end Go.Proofs.YtmhoikfoogemnaaGreatDoor
namespace Go.Proofs.YtmhoikfoogemnaaGreatDoor
open Go Go.RowKit Go.Vc
set_option linter.unusedVariables false
set_option linter.unusedSimpArgs false
def JT (s:List UInt8) (n:Option UInt8):Option UInt8:=match s with | []=>n | c:: _=>some c
theorem G0 (a b:List UInt8) (n:Option UInt8):JT (a++b) n=JT a (JT b n):=by cases a<;>rfl
theorem Fz (s:List UInt8):JT s none=s.head?:=by cases s<;>rfl
def sv:List (List UInt8)→Option UInt8→Prop
 | [],_=>True
 | t::r,n=>(t=[32]∨(xF t∧Ik t (JT r.flatten n)))∧sv r n
theorem nL:∀ {a b:List (List UInt8)} {n:Option UInt8},sv a (JT b.flatten n)→sv b n→sv (a++b) n
 | [],_,_,_,h=>h
 | t::a,b,n,h1,h2=>by
  refine⟨?_,nL h1.2 h2⟩
  rw[show(a.append b).flatten=a.flatten++b.flatten from List.flatten_append,G0]
  exact h1.1
theorem xG:∀ {a b:List (List UInt8)} {n:Option UInt8},sv (a++b) n→sv b n
 | [],_,_,h=>h
 | _ ::a,_,_,h=>xG (a:=a) h.2
def va:Nat→List (List UInt8)→List aU
 | _,[]=>[]
 | o,t::r=>if t=[32]then va (o+1) r else⟨iu t,o,t⟩::va (o+t.length) r
def jF (t:List UInt8):Bool:=decide (t≠[32])
theorem u6:∀ (o:Nat) (ls:List (List UInt8)),(va o ls).map (·.Text)=ls.filter jF
 | _,[]=>rfl
 | o,t::r=>by
  rw[va]
  by_cases h:t=[32]
  ·rw[if_pos h,u6 (o+1) r,List.filter_cons_of_neg (by simp[jF,h])]
  ·rw[if_neg h,List.map_cons,u6 (o+t.length) r,List.filter_cons_of_pos (by simp[jF,h])]
theorem u7:∀ (n o:Nat) (r:List (List UInt8)),va o (List.replicate n [32]++r)=va (o+n) r
 | 0,o,r=>rfl
 | n+1,o,r=>by
  rw[List.replicate_succ,List.cons_append,va,if_pos rfl,u7 n,show o+1+n=o+(n+1)by omega]
theorem tf:∀ (ls:List (List UInt8)),∃ n r,ls=List.replicate n [32]++r∧(r=[]∨∃ t q,r=t::q∧t≠[32])
 | []=>⟨0,[],rfl,Or.inl rfl⟩
 | t::ls=>by
  by_cases h:t=[32]
  ·obtain⟨n,r,h1,h2⟩:=tf ls
   exact⟨n+1,r,by rw[h1,h,List.replicate_succ];rfl,h2⟩
  ·exact⟨0,t::ls,rfl,Or.inr ⟨t,ls,rfl,h⟩⟩
theorem AU (n:Nat):(List.replicate n ([32]:List UInt8)).flatten=List.replicate n 32:=by
 induction n with
 | zero=>rfl
 | succ n ih=>rw[List.replicate_succ,List.flatten_cons,ih,List.replicate_succ];rfl
theorem pA {t:List UInt8} (h:xF t):∃ c q,t=c::q∧Dy c=false:=by
 have key:∀ c:UInt8,(∀ k:UInt8,k=9∨k=10∨k=13∨k=32∨k=35→c≠k)→Dy c=false:=fun c hc=>by
  unfold Dy
  simp only[Bool.or_eq_false_iff,decide_eq_false_iff_not]
  exact⟨⟨⟨⟨hc 9 (by simp),hc 10 (by simp)⟩,hc 13 (by simp)⟩,hc 32 (by simp)⟩,hc 35 (by simp)⟩
 rcases h with⟨h1,_,_,h4⟩ | ⟨h1,h2⟩ | h
 ·cases t with
  | nil=>exact absurd rfl h4
  | cons c t=>
   refine⟨c,t,rfl,key c fun k hk hh=> ?_⟩
   subst hh
   have h1':ld c=true:=h1
   rcases hk with rfl | rfl | rfl | rfl | rfl<;>revert h1'<;>decide
 ·cases t with
  | nil=>exact absurd rfl h2
  | cons c t=>
   refine⟨c,t,rfl,key c fun k hk hh=> ?_⟩
   subst hh
   rw[List.all_cons,Bool.and_eq_true]at h1
   have h1':=h1.1
   rcases hk with rfl | rfl | rfl | rfl | rfl<;>revert h1'<;>decide
 ·unfold fR at h
  simp only[List.mem_cons,List.not_mem_nil,or_false]at h
  rcases h with rfl | rfl | rfl | rfl | rfl | rfl | rfl | rfl | rfl | rfl | rfl | rfl | rfl | rfl | rfl | rfl | rfl<;>exact⟨_,_,rfl,by decide⟩
theorem xW {r:List (List UInt8)} (ho:sv r none) (hr:r=[]∨∃ t q,r=t::q∧t≠[32]):∀ c,r.flatten.head?=some c→Dy c=false:=by
 rcases hr with rfl | ⟨t,q,rfl,ht⟩
 ·intro c h;simp at h
 ·rcases ho.1 with h | ⟨h,_⟩
  ·exact absurd h ht
  ·obtain⟨c,q',rfl,hc⟩:=pA h
   intro d hd
   simp at hd;rw[← hd];exact hc
theorem Fu {t:List UInt8} :iu t≠0:=by unfold iu;split<;>(try split)<;>simp
theorem DN {t:List UInt8} (h:xF t) (hk:iu t=1):t.length≤16:=by
 rcases h with⟨_,_,h3,_⟩ | ⟨h1,h2⟩ | h
 ·exact h3
 ·exfalso
  cases t with
  | nil=>exact absurd rfl h2
  | cons c t=>
   rw[List.all_cons,Bool.and_eq_true]at h1
   unfold iu at hk
   rw[show(c::t).headD 0=c from rfl]at hk
   by_cases hl:ld c=true
   ·rw[qV hl]at h1;exact absurd h1.1 (by simp)
   ·rw[if_neg hl,if_pos h1.1]at hk;cases hk
 ·unfold fR at h
  simp only[List.mem_cons,List.not_mem_nil,or_false]at h
  rcases h with rfl | rfl | rfl | rfl | rfl | rfl | rfl | rfl | rfl | rfl | rfl | rfl | rfl | rfl | rfl | rfl | rfl<;>simp
theorem Aq {α:Type} (a b:List α):gN (a++b) (a.length:Int)=some b:=by unfold gN;rw[if_pos (by simp;omega)];simp
theorem Cv:∀ (k:Nat) (ls:List (List UInt8)) (pre s:List UInt8) (out:List aU) (f:Nat),ls.length≤k→sv ls none→(ls=[]∨∃ t r,ls=t::r∧t≠[32])→s=pre++ls.flatten→s.length≤65536→out.length≤pre.length→k<f→
  co s f out (pre.length:Int)=some (out++va pre.length ls,0,0)
 | k,[],pre,s,out,f,hk,ho,hne,hs,hl,hout,hf=>by
  obtain⟨f,rfl⟩:∃ g,f=g+1:=⟨f - 1,by omega⟩
  subst hs
  simp only[co]
  rw[if_neg (by simp),va,List.append_nil]
 | 0,t::r,pre,s,out,f,hk,ho,hne,hs,hl,hout,hf=>by simp at hk
 | k+1,t::r,pre,s,out,f,hk,ho,hne,hs,hl,hout,hf=>by
  obtain⟨f,rfl⟩:∃ g,f=g+1:=⟨f - 1,by omega⟩
  have ht:t≠[32]:=by
   rcases hne with h | ⟨t',r',h,h'⟩
   ·cases h
   ·injection h with h1 h2;rw[h1];exact h'
  rcases ho.1 with h | ⟨h1,h2⟩
  ·exact absurd h ht
  rw[Fz]at h2
  obtain⟨n,r',hr,hr'⟩:=tf r
  obtain⟨c,q,htc,_⟩:=pA h1
  have htl:1≤t.length:=by rw[htc];simp
  have ho':sv r' none:=xG (a:=List.replicate n [32]) (by rw[← hr];exact ho.2)
  have hfl:r.flatten=List.replicate n 32++r'.flatten:=by rw[hr,List.flatten_append,AU]
  have hlen:s.length=pre.length+t.length+(n+r'.flatten.length):=by rw[hs,List.flatten_cons,hfl];simp only[List.length_append,List.length_replicate];omega
  have hs2:s=(pre++t)++r.flatten:=by rw[hs,List.flatten_cons,List.append_assoc]
  have hnext:iY (t++r.flatten)=some (iu t,(t.length:Int)):=Fs h1 h2 (by rw[hfl];simp only[List.length_append,List.length_replicate];omega)
  have hskip:gX r.flatten=some (n:Int):=by rw[hfl];exact CF (xW ho' hr') (by simp only[List.length_append,List.length_replicate];omega)
  have hpt:((pre++t).length:Int)=(pre.length:Int)+(t.length:Int):=by simp
  have hrl:r'.length≤k:=by
   have:r.length=n+r'.length:=by rw[hr];simp
   simp at hk;omega
  simp only[co]
  rw[if_pos (by simp;omega),show gN s (pre.length:Int)=some (t++r.flatten)by rw[hs,List.flatten_cons];exact Aq _ _,Option.bind_some,hnext,Option.bind_some]
  simp only[]
  rw[if_neg (by simpa using Fu),if_neg (by
   simp only[Bool.and_eq_true,decide_eq_true_eq]
   rintro⟨a1,a2⟩
   have:=DN h1 a1;omega),JK (by omega)]
  rw[show rE s (pre.length:Int) ((pre.length+t.length:Nat):Int)=some t by
   unfold rE
   rw[if_pos (by omega),hs2,show((pre.length:Int)).toNat=pre.length by omega,show(((pre.length+t.length:Nat):Int)).toNat - pre.length=t.length by omega]
   simp,Option.bind_some,bf (by simp only[List.length_cons,List.length_nil];omega),Option.bind_some]
  rw[show gN s ((pre.length+t.length:Nat):Int)=some r.flatten by rw[hs2,show((pre.length+t.length:Nat):Int)=((pre++t).length:Int)by simp];exact Aq _ _,Option.bind_some,hskip,Option.bind_some,Option.bind_some,JK (by omega)]
  have ih:=Cv k r' ((pre++t)++List.replicate n 32) s (out++[⟨iu t,(pre.length:Int),t⟩]) f hrl ho' hr' (by rw[hs2,hfl];simp only[List.append_assoc]) hl (by simp;omega) (by omega)
  rw[show((pre.length+t.length+n:Nat):Int)=(((pre++t)++List.replicate n 32).length:Int)by simp only[List.length_append,List.length_replicate],ih,List.append_assoc,va,if_neg ht]
  congr 2
  rw[hr,u7]
  simp[Nat.add_assoc]
theorem Ic {ls:List (List UInt8)} (ho:sv ls none) (hne:ls=[]∨∃ t r,ls=t::r∧t≠[32]) (hl:ls.flatten.length≤65536) (hk:ls.length≤4294967296):fc ls.flatten=some (va 0 ls,0,0):=by
 unfold fc
 rw[if_neg (by simp only[decide_eq_true_eq];omega)]
 have h0:gX ls.flatten=some ((0:Nat):Int):=by
  have:=CF (n:=0) (r:=ls.flatten) (xW ho hne) (by simp only[List.replicate_zero,List.nil_append];omega)
  simpa using this
 rw[h0,Option.bind_some]
 have:=Cv ls.length ls [] ls.flatten [] fu (Nat.le_refl _) ho hne rfl hl (by simp) (by unfold fu;omega)
 simpa using this
end Go.Proofs.YtmhoikfoogemnaaGreatDoor
