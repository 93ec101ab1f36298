import Derived.Test.YtmhoikfoogemnaaGreatDoorHPj
import Derived.KernelRfl
namespace Go.Proofs.YtmhoikfoogemnaaGreatDoor
open Go Go.RowKit Go.Vc
set_option linter.unusedVariables false
set_option linter.unusedSimpArgs false
theorem wiN {n:Nat} (h:n<4611686018427387904):av (n:Int)=n:=yv (p:=(n:Int)) ⟨by omega,by omega⟩
theorem mH {i:Nat} (h:i<4611686018427387904):av ((i:Int)+1)=((i+1:Nat):Int):=by
 have h2:kX ((i:Int)+1):=⟨by omega,by omega⟩
 exact(yv h2).trans (by omega)
theorem Pm {a b:Nat} (h:a+b<4611686018427387904):av ((a:Int)+(b:Int))=((a+b:Nat):Int):=by
 rw[← Int.natCast_add];exact wiN h
theorem latN {α:Type} (l:List α) (i:Nat):lat l (i:Int)=l[i]? :=by simp[Vc.lat]
theorem bn {α:Type} {l:List α} {i:Nat} {x:α} (h:l[i]? =some x):lat l (i:Int)=some x:=(latN l i).trans h
theorem bs {a b:Nat} (h:a<b):decide ((a:Int)<(b:Int))=true:=by simpa using h
theorem aR {α:Type} {xs ys:List α} (h:xs.length+ys.length≤4294967296):bt xs ys=some (xs++ys):=by unfold bt;rw[if_pos h]
theorem JS {α:Type} {ys:List α} (h:ys.length≤4294967296):bt [] ys=some ys:=by rw[aR (by simpa using h)];rfl
theorem G8 {σ R:Type} {L:Nat→σ→Int→Option R} {n:Nat} (I:Nat→σ→Prop) (Q:R→Prop)
  (rd:∀ f i s,i<n→I i s→(∃ s',I (i+1) s'∧L (f+1) s (i:Int)=L f s' ((i+1:Nat):Int))∨∃ r,L (f+1) s (i:Int)=some r∧Q r)
  (fin:∀ f s,I n s→∃ r,L (f+1) s (n:Int)=some r∧Q r):
  ∀ (k f i:Nat) (s:σ),i+k=n→k<f→I i s→∃ r,L f s (i:Int)=some r∧Q r
 | 0,f,i,s,h,hf,hI=>by
  obtain⟨f,rfl⟩:∃ g,f=g+1:=⟨f - 1,by omega⟩
  obtain rfl:i=n:=by omega
  exact fin f s hI
 | k+1,f,i,s,h,hf,hI=>by
  obtain⟨f,rfl⟩:∃ g,f=g+1:=⟨f - 1,by omega⟩
  rcases rd f i s (by omega) hI with⟨s',h1,h2⟩ | ⟨r,h1,h2⟩
  ·rw[h2];exact G8 I Q rd fin k f (i+1) s' (by omega) (by omega) h1
  ·exact⟨r,h1,h2⟩
theorem qU {σ R:Type} {L:Nat→σ→Int→Option R} {n:Nat} (hn:n<4611686018427387904) (I:Nat→σ→Prop) (Q:R→Prop)
  (rd:∀ f i s,i<n→I i s→(∃ s',I (i+1) s'∧L (f+1) s (i:Int)=L f s' ((i+1:Nat):Int))∨∃ r,L (f+1) s (i:Int)=some r∧Q r)
  (fin:∀ f s,I n s→∃ r,L (f+1) s (n:Int)=some r∧Q r) (s:σ) (h0:I 0 s):∃ r,L fu s 0=some r∧Q r:=
 G8 I Q rd fin n fu 0 s (by omega) (by unfold fu;omega) h0
theorem ib {σ R:Type} {L:Nat→σ→Int→Option R} {n:Nat} {r0:Option R} (hn:n<4611686018427387904) (I:Nat→σ→Prop)
  (rd:∀ f i s,i<n→I i s→(∃ s',I (i+1) s'∧L (f+1) s (i:Int)=L f s' ((i+1:Nat):Int))∨L (f+1) s (i:Int)=r0)
  (fin:∀ f s,I n s→L (f+1) s (n:Int)=r0) (s:σ) (h0:I 0 s):L fu s 0=r0:=by
 have key:∀ (k f i:Nat) (s:σ),i+k=n→k<f→I i s→L f s (i:Int)=r0:=by
  intro k
  induction k with
  | zero=>
   intro f i s h hf hI
   obtain⟨f,rfl⟩:∃ g,f=g+1:=⟨f - 1,by omega⟩
   obtain rfl:i=n:=by omega
   exact fin f s hI
  | succ k ih=>
   intro f i s h hf hI
   obtain⟨f,rfl⟩:∃ g,f=g+1:=⟨f - 1,by omega⟩
   rcases rd f i s (by omega) hI with⟨s',h1,h2⟩ | h1
   ·rw[h2];exact ih f (i+1) s' (by omega) (by omega) h1
   ·exact h1
 exact key n fu 0 s (by omega) (by unfold fu;omega) h0
theorem bE {α:Type} {l:List α} {i:Nat} {x:α} (h:l[i]? =some x):l.take (i+1)=l.take i++[x]:=by rw[List.take_add_one,h];rfl
theorem uv {α:Type} {l:List α} {i:Nat} {x:α} (h:l[i]? =some x):l.drop i=x::l.drop (i+1):=by
 obtain⟨h1,h2⟩:=List.getElem?_eq_some_iff.1 h
 rw[List.drop_eq_getElem_cons h1,h2]
theorem bY {α:Type} {l:List α} {i:Nat} (h:i<l.length):∃ x,l[i]? =some x:=⟨l[i],by simp[h]⟩
def prd:List Nat→Nat
 | []=>1
 | x::d=>x * prd d
def off:List Nat→List Nat→Nat
 | _ ::d,q::p=>q * prd d+off d p
 | _,_=>0
def Pos (d:List Nat):Prop:=∀ x∈d,1≤x
end Go.Proofs.YtmhoikfoogemnaaGreatDoor
namespace Go.Proofs.YtmhoikfoogemnaaGreatDoor
open Go Go.RowKit Go.Vc
set_option linter.unusedVariables false
set_option linter.unusedSimpArgs false
theorem kw42:mr=mu:=by kernel_rfl
def LP:List (List UInt8):=(mu).getD []
theorem zY:mu=some LP:=rfl
theorem CK (l:List (List UInt8)) (v:List UInt8) (hl:l.length<4611686018427387904):du l v=some (decide (v∈l)):=by
 obtain⟨r,h1,h2⟩:=qU (L:=λf (_:Unit) i=>bm l v f i) (n:=l.length) hl (λi _=>v∉l.take i) (λr=>decide (0≤r)=decide (v∈l))
  (λf i _ hi hI=>by
   obtain⟨x,hx⟩:=bY hi
   simp only[bm]
   rw[if_pos (bs hi),bn hx,Option.bind_some]
   by_cases hv:v=x
   ·right;refine⟨(i:Int),by rw[if_pos (by simpa using hv)],?_⟩
    rw[decide_eq_true (by omega),decide_eq_true (by rw[hv];exact List.mem_of_getElem? hx)]
   ·left;refine⟨(),?_,by rw[if_neg (by simpa using hv),mH (by omega)]⟩
    rw[bE hx];simp[hI,hv])
  (λf _ hI=>by
   rw[List.take_length]at hI
   simp only[bm]
   exact⟨-1,by rw[if_neg (by simp)],by rw[decide_eq_false hI];rfl⟩) () (by simp)
 unfold du fX
 rw[show bm l v fu 0=some r from h1,Option.bind_some,h2]
theorem LS (l:List (List UInt8)) (v:List UInt8) (hl:l.length<4611686018427387904):ql l v=some (decide (v∈l)):=by
 obtain⟨r,h1,h2⟩:=qU (L:=λf (_:Unit) i=>ia l v f i) (n:=l.length) hl (λi _=>v∉l.take i) (λr=>r=decide (v∈l))
  (λf i _ hi hI=>by
   obtain⟨x,hx⟩:=bY hi
   simp only[ia]
   rw[if_pos (bs hi),bn hx,Option.bind_some]
   by_cases hv:x=v
   ·right;refine⟨true,by rw[if_pos (by simpa using hv)],?_⟩
    rw[decide_eq_true (by rw[← hv];exact List.mem_of_getElem? hx)]
   ·left;refine⟨(),?_,by rw[if_neg (by simpa using hv),mH (by omega)]⟩
    rw[bE hx];simp[hI];exact λh=>hv h.symm)
  (λf _ hI=>by
   rw[List.take_length]at hI
   simp only[ia]
   exact⟨false,by rw[if_neg (by simp)],by rw[decide_eq_false hI]⟩) () (by simp)
 unfold ql
 rw[show ia l v fu 0=some r from h1,h2]
theorem H4 (s:List UInt8):jF s=some (decide (s∈LP)):=by
 unfold jF
 rw[kw42,zY,Option.bind_some,CK _ _ (by decide),Option.bind_some]
end Go.Proofs.YtmhoikfoogemnaaGreatDoor
namespace Go.Proofs.YtmhoikfoogemnaaGreatDoor
open Go Go.RowKit Go.Vc
set_option linter.unusedVariables false
set_option linter.unusedSimpArgs false
def mG (c:UInt8):Bool:=decide (97≤(c.toNat:Int))&&decide ((c.toNat:Int)≤122)
def hO (c:UInt8):Bool:=mG c||(decide (48≤(c.toNat:Int))&&decide ((c.toNat:Int)≤57))||decide ((c.toNat:Int)=95)
def bw (s:List UInt8):Bool:=(decide (s≠[])&&decide (s.length≤16))&&mG (s.getD 0 0)&&s.all hO&& !decide (s∈LP)
theorem rq (c:UInt8):qZ (c.toNat:Int)=(c.toNat:Int):=Nb (p:=(c.toNat:Int)) ⟨by omega,by have:=c.toNat_lt;omega⟩
theorem iC {s:List UInt8} {i:Nat} {c:UInt8} (h:s[i]? =some c):sat s (i:Int)=some (c.toNat:Int):=by
 obtain⟨hi,_⟩:=List.getElem?_eq_some_iff.1 h
 unfold sat Ge
 rw[if_pos (by omega),Int.toNat_natCast,List.getD_eq_getElem?_getD,h];rfl
theorem wT (c:UInt8):fO (qZ (c.toNat:Int))=some (mG c):=by rw[rq];rfl
theorem Bm (c:UInt8):ej (qZ (c.toNat:Int))=some (hO c):=by
 unfold ej
 rw[rq,show fO (c.toNat:Int)=some (mG c)from rfl,Option.bind_some]
 unfold hO
 cases mG c<;>simp[gd,fP]
theorem Le (s:List UInt8) (hs:s.length<4611686018427387904):∃ r,hU s ej=some r∧decide (r=(s.length:Int))=s.all hO:=by
 refine qU (L:=λf (_:Unit) i=>cR s ej f i) (n:=s.length) hs (λi _=>(s.take i).all hO=true) (λr=>decide (r=(s.length:Int))=s.all hO) ?_ ?_ () (by simp)
 ·intro f i _ hi hI
  obtain⟨c,hc⟩:=bY hi
  simp only[cR]
  rw[bs hi]
  simp only[gd,if_true,iC hc,Option.bind_some,Bm,Bool.true_and]
  by_cases hw:hO c=true
  ·left;refine⟨(),?_,by rw[if_pos hw,mH (by omega)]⟩
   rw[bE hc,List.all_append,hI];simp[hw]
  ·right;refine⟨(i:Int),by rw[if_neg hw],?_⟩
   rw[decide_eq_false (by omega)]
   symm;rw[Bool.eq_false_iff];intro h
   exact hw (List.all_eq_true.1 h c (List.mem_of_getElem? hc))
 ·intro f _ hI
  rw[List.take_length]at hI
  refine⟨(s.length:Int),?_,by rw[hI];simp⟩
  simp only[cR]
  simp[gd]
theorem Bl (s:List UInt8) (hs:s.length<4611686018427387904):gA s=some (bw s):=by
 unfold gA bw
 cases s with
 | nil=>rfl
 | cons c t=>
  by_cases h16:(c::t).length≤16
  rotate_left
  ·have e:decide (((c::t).length:Int)≤16)=false:=by rw[decide_eq_false_iff_not];omega
   rw[e,decide_eq_false h16];simp[gd]
  have e:decide (((c::t).length:Int)≤16)=true:=by rw[decide_eq_true_iff];omega
  obtain⟨r,h1,h2⟩:=Le (c::t) hs
  rw[e,decide_eq_true h16,show decide ((c::t)=([]:List UInt8))=false by simp,show sat (c::t) 0=some (c.toNat:Int)from iC (i:=0) rfl]
  simp only[gd,Bool.not_false,Bool.true_and,if_true,Option.bind_some,wT,h1,H4]
  rw[show(c::t).getD 0 0=c from rfl,show decide ((c::t)≠[])=true by simp]
  cases hl:mG c
  ·simp
  ·simp only[if_true,Option.bind_some,h2,Bool.true_and]
   cases (c::t).all hO<;>simp
theorem Dp (s:List UInt8) (hs:s.length<4611686018427387904):eY s=some (bw s):=by
 unfold eY bw
 by_cases h:s.length<1∨16<s.length
 ·have e:(decide ((s.length:Int)<1)||decide (16<(s.length:Int)))=true:=by simp;omega
  rw[e]
  have e2:(decide (s≠[])&&decide (s.length≤16))=false:=by
   rcases h with h | h
   ·rw[List.length_eq_zero_iff.1 (show s.length=0 by omega)];rfl
   ·rw[decide_eq_false (show ¬ s.length≤16 by omega)];simp
  rw[e2];simp[gd]
 have e:(decide ((s.length:Int)<1)||decide (16<(s.length:Int)))=false:=by simp;omega
 have e2:(decide (s≠[])&&decide (s.length≤16))=true:=by
  have:s≠[]:=λh'=>by subst h';simp at h
  simp[this];omega
 rw[e,e2]
 simp only[gd,Bool.not_false,if_true,zY,Option.bind_some,LS LP s (by decide),Bool.false_or,Bool.true_and]
 by_cases hk:s∈LP
 ·simp[hk]
 rw[decide_eq_false hk]
 simp only[Bool.false_eq_true,if_false,Bool.not_false,Bool.and_true]
 obtain⟨r,h1,h2⟩:=qU (L:=λf (_:Unit) i=>gE s f i) (n:=s.length) hs (λi _=>(s.take i).all hO=true∧(0<i→mG (s.getD 0 0)=true)) (λr=>r=(mG (s.getD 0 0)&&s.all hO))
  (λf i _ hi ⟨hI,hJ⟩=>by
   obtain⟨c,hc⟩:=bY hi
   simp only[gE]
   rw[if_pos (bs hi),iC hc,Option.bind_some]
   rcases Nat.eq_zero_or_pos i with h0 | h0
   ·have hg:s.getD 0 0=c:=by rw[h0]at hc;rw[List.getD_eq_getElem?_getD,hc];rfl
    rw[show(decide (97≤(c.toNat:Int))&&decide ((c.toNat:Int)≤122))=mG c from rfl,show decide ((0:Int)<(i:Int))=false by rw[decide_eq_false_iff_not];omega]
    cases hl:mG c
    ·right;exact⟨false,by simp,by rw[hg,hl];rfl⟩
    ·left;refine⟨(),⟨?_,λ_=>by rw[hg,hl]⟩,by simp[mH (i:=i) (by omega)]⟩
     rw[bE hc,h0];simp[hO,hl]
   ·rw[show(decide (97≤(c.toNat:Int))&&decide ((c.toNat:Int)≤122))=mG c from rfl,show decide ((0:Int)<(i:Int))=true by simp;omega,Bool.true_and, ← Bool.or_assoc,show(mG c||(decide (48≤(c.toNat:Int))&&decide ((c.toNat:Int)≤57))||decide ((c.toNat:Int)=95))=hO c from rfl]
    cases hw:hO c
    ·right;refine⟨false,by simp,?_⟩
     symm;rw[Bool.and_eq_false_iff];right;rw[Bool.eq_false_iff];intro h'
     have:=List.all_eq_true.1 h' c (List.mem_of_getElem? hc);rw[hw]at this;cases this
    ·left;refine⟨(),⟨?_,λ_=>hJ h0⟩,by simp[mH (i:=i) (by omega)]⟩
     rw[bE hc,List.all_append,hI];simp[hw])
  (λf _ ⟨hI,hJ⟩=>by
   rw[List.take_length]at hI
   simp only[gE]
   exact⟨true,by rw[if_neg (by simp)],by rw[hI,hJ (by omega)];rfl⟩) () (by simp)
 rw[show gE s fu 0=some r from h1,h2]
end Go.Proofs.YtmhoikfoogemnaaGreatDoor
namespace Go.Proofs.YtmhoikfoogemnaaGreatDoor
open Go Go.RowKit Go.Vc
set_option linter.unusedVariables false
set_option linter.unusedSimpArgs false
theorem HV {σ τ R S:Type} {L:Nat→σ→Int→Option R} {M:Nat→τ→Int→Option S} {n:Nat} (hn:n<4611686018427387904) (I:Nat→σ→τ→Prop) (Q:R→S→Prop)
  (rd:∀ i s t,i<n→I i s t→(∃ s' t',I (i+1) s' t'∧(∀ f,L (f+1) s (i:Int)=L f s' ((i+1:Nat):Int))∧∀ f,M (f+1) t (i:Int)=M f t' ((i+1:Nat):Int))∨∃ r q,Q r q∧(∀ f,L (f+1) s (i:Int)=some r)∧∀ f,M (f+1) t (i:Int)=some q)
  (fin:∀ s t,I n s t→∃ r q,Q r q∧(∀ f,L (f+1) s (n:Int)=some r)∧∀ f,M (f+1) t (n:Int)=some q) (s:σ) (t:τ) (h0:I 0 s t):∃ r q,Q r q∧L fu s 0=some r∧M fu t 0=some q:=by
 have key:∀ (k f g i:Nat) (s:σ) (t:τ),i+k=n→k<f→k<g→I i s t→∃ r q,Q r q∧L f s (i:Int)=some r∧M g t (i:Int)=some q:=by
  intro k
  induction k with
  | zero=>
   intro f g i s t h hf hg hI
   obtain⟨f,rfl⟩:∃ q,f=q+1:=⟨f - 1,by omega⟩
   obtain⟨g,rfl⟩:∃ q,g=q+1:=⟨g - 1,by omega⟩
   obtain rfl:i=n:=by omega
   obtain⟨r,q,h0,h1,h2⟩:=fin s t hI
   exact⟨r,q,h0,h1 f,h2 g⟩
  | succ k ih=>
   intro f g i s t h hf hg hI
   obtain⟨f,rfl⟩:∃ q,f=q+1:=⟨f - 1,by omega⟩
   obtain⟨g,rfl⟩:∃ q,g=q+1:=⟨g - 1,by omega⟩
   rcases rd i s t (by omega) hI with⟨s',t',h1,h2,h3⟩ | ⟨r,q,h0,h1,h2⟩
   ·rw[h2,h3];exact ih f g (i+1) s' t' (by omega) (by omega) (by omega) h1
   ·exact⟨r,q,h0,h1 f,h2 g⟩
 exact key n fu fu 0 s t (by omega) (by unfold fu;omega) (by unfold fu;omega) h0
theorem EX:∀ (x y z:List UInt8),Op.bytesLess x y=true→Op.bytesLess y z=true→Op.bytesLess x z=true
 | _,[],_,h,_=>by cases ‹List UInt8› <;>simp[Op.bytesLess]at h
 | [],b::y,[],_,h=>by simp[Op.bytesLess]at h
 | [],b::y,c::z,_,_=>by simp[Op.bytesLess]
 | a::x,b::y,[],_,h=>by simp[Op.bytesLess]at h
 | a::x,b::y,c::z,h,k=>by
  simp only[Op.bytesLess,Bool.or_eq_true,decide_eq_true_eq,Bool.and_eq_true,beq_iff_eq]at h k ⊢
  rcases h with h | ⟨rfl,h⟩<;>rcases k with k | ⟨rfl,k⟩
  ·exact .inl (UInt8.lt_trans h k)
  ·exact .inl h
  ·exact .inl k
  ·exact .inr ⟨rfl,EX x y z h k⟩
theorem fh (s:List UInt8):eY s=some (bw s):=by
 by_cases h:s.length<4611686018427387904
 ·exact Dp s h
 ·unfold eY bw
  rw[decide_eq_false (p:=s.length≤16) (by omega),show(decide ((s.length:Int)<1)||decide (16<(s.length:Int)))=true by simp;omega]
  simp[gd]
theorem DY (s:List UInt8):l8 s=some (decide (s∈LP)):=by
 have e:LP=[[115,105,122,101],[119,104,101,114,101],[105,110],[100,101,102],[111,117,116],[115,117,109],[112,114,111,100],[109,105,110],[109,97,120],[115,99,97,110],[111,118,101,114],[105,102],[99,97,115,116],[102,114,97,99],[105,110,116],[102,105,120],[99,101,105,108],[102,108,111,111,114],[122,101,114,111],[101,118,101,110],[115,97,116],[119,114,97,112]]:=rfl
 by_cases h:s∈LP
 ·rw[decide_eq_true h]
  rw[e]at h
  simp only[List.mem_cons,List.not_mem_nil,or_false]at h
  rcases h with rfl | rfl | rfl | rfl | rfl | rfl | rfl | rfl | rfl | rfl | rfl | rfl | rfl | rfl | rfl | rfl | rfl | rfl | rfl | rfl | rfl | rfl<;>rfl
 ·rw[decide_eq_false h]
  rw[e]at h
  simp only[List.mem_cons,List.not_mem_nil,or_false,not_or]at h
  obtain⟨h1,h2,h3,h4,h5,h6,h7,h8,h9,h10,h11,h12,h13,h14,h15,h16,h17,h18,h19,h20,h21,h22⟩:=h
  unfold l8
  simp only[h1,h2,h3,h4,h5,h6,h7,h8,h9,h10,h11,h12,h13,h14,h15,h16,h17,h18,h19,h20,h21,h22,decide_false,Bool.false_eq_true,if_false]
theorem uR (s:List UInt8):i7 s=some (bw s):=by
 unfold i7 bw
 by_cases h:s.length<1∨16<s.length
 ·have e:(decide ((s.length:Int)<1)||decide (16<(s.length:Int)))=true:=by simp;omega
  rw[e]
  have e2:(decide (s≠[])&&decide (s.length≤16))=false:=by
   rcases h with h | h
   ·rw[List.length_eq_zero_iff.1 (show s.length=0 by omega)];rfl
   ·rw[decide_eq_false (show ¬ s.length≤16 by omega)];simp
  rw[e2];simp[gd]
 have e:(decide ((s.length:Int)<1)||decide (16<(s.length:Int)))=false:=by simp;omega
 have e2:(decide (s≠[])&&decide (s.length≤16))=true:=by
  have:s≠[]:=λh'=>by subst h';simp at h
  simp[this];omega
 rw[e,e2]
 simp only[gd,Bool.not_false,if_true,DY,Option.bind_some,Bool.false_or,Bool.true_and]
 by_cases hk:s∈LP
 ·simp[hk]
 rw[decide_eq_false hk]
 obtain⟨c,hc⟩:=bY (l:=s) (i:=0) (by omega)
 have hg:s.getD 0 0=c:=by rw[List.getD_eq_getElem?_getD,hc];rfl
 have ha:sat s 0=some (c.toNat:Int):=iC (i:=0) hc
 simp only[Bool.not_false,if_true,ha,Option.bind_some,Bool.and_true,Bool.false_or]
 have lb:mG c= !(decide ((c.toNat:Int)<97)||decide (122<(c.toNat:Int))):=by
  unfold mG;rw[Bool.eq_iff_iff];simp<;>omega
 have e3:(if(!decide ((c.toNat:Int)<97))=true then some (c.toNat:Int)else some default)=some (if(!decide ((c.toNat:Int)<97))=true then(c.toNat:Int)else default):=by split<;>rfl
 rw[e3,Option.bind_some]
 by_cases hl:mG c=true
 ·have h0:=hl
  unfold mG at h0;simp only[Bool.and_eq_true,decide_eq_true_eq]at h0
  rw[decide_eq_false (p:=(c.toNat:Int)<97) (by omega)]
  simp only[Bool.not_false,if_true,Bool.false_or]
  rw[if_neg (by simp;omega),hg,hl,Bool.true_and]
  obtain⟨r,h1,h2⟩:=qU (L:=λf (_:Unit) i=>dA s f i) (n:=s.length) (by omega) (λi _=>(s.take i).all hO=true) (λr=>r=s.all hO)
   (λf i _ hi hI=>by
    obtain⟨d,hd⟩:=bY hi
    simp only[dA]
    rw[if_pos (bs hi),iC hd,Option.bind_some]
    have wb:((((decide ((d.toNat:Int)<97))||(decide (122<(d.toNat:Int))))&&((decide ((d.toNat:Int)<48))||(decide (57<(d.toNat:Int)))))&&(!decide ((d.toNat:Int)=95)))= !hO d:=by
     unfold hO mG;rw[Bool.eq_iff_iff];simp<;>omega
    rw[wb]
    cases hw:hO d
    ·right;refine⟨false,by rw[if_pos (by rfl)],?_⟩
     symm;rw[Bool.eq_false_iff];intro h'
     have:=List.all_eq_true.1 h' d (List.mem_of_getElem? hd);rw[hw]at this;cases this
    ·left;refine⟨(),?_,by rw[if_neg (by simp),mH (by omega)]⟩
     rw[bE hd,List.all_append,hI];simp[hw])
   (λf _ hI=>by
    rw[List.take_length]at hI
    simp only[dA]
    exact⟨true,by rw[if_neg (by simp)],hI.symm⟩) () (by simp)
  rw[show dA s fu 0=some r from h1,h2]
 ·rw[Bool.not_eq_true]at hl
  rw[hg,hl,Bool.false_and,if_pos]
  rw[hl]at lb
  by_cases h97:(c.toNat:Int)<97
  ·simp[h97]
  ·simp only[h97,decide_false,Bool.false_or,Bool.not_false,if_true]
   simpa[h97]using lb.symm
def cv (l:aC):Prop:=(∀ m∈l.L,bw m.Name=true∧m.By≠0)∧l.L.Pairwise (λa b=>Op.bytesLess a.Name b.Name=true)
theorem Lb {α:Type} {R:α→α→Prop} {l:List α} {i:Nat} {x:α} (hR:∀ a b c,R a b→R b c→R a c) (h:(l.take i).Pairwise R) (hx:l[i]? =some x) (h1:∀ y,0<i→l[i - 1]? =some y→R y x):(l.take (i+1)).Pairwise R:=by
 rw[bE hx,List.pairwise_append]
 refine⟨h,List.pairwise_singleton _ _,λa ha b hb=>?_⟩
 rw[List.mem_singleton.1 hb]
 obtain⟨j,hj⟩:=List.mem_iff_getElem?.1 ha
 rw[List.getElem?_take]at hj
 split at hj
 ·next hji=>
  obtain⟨y,hy⟩:=bY (l:=l) (i:=i - 1) (by have:=(List.getElem?_eq_some_iff.1 hx).1;omega)
  have h2:=h1 y (by omega) hy
  by_cases e:j=i - 1
  ·rw[e,hy]at hj;injection hj with hj;exact hj▸h2
  ·have hl:=(List.getElem?_eq_some_iff.1 hx).1
   have q1:(l.take i)[j]? =some a:=by rw[List.getElem?_take,if_pos hji];exact hj
   have q2:(l.take i)[i - 1]? =some y:=by rw[List.getElem?_take,if_pos (by omega)];exact hy
   obtain⟨k1,rfl⟩:=List.getElem?_eq_some_iff.1 q1
   obtain⟨k2,rfl⟩:=List.getElem?_eq_some_iff.1 q2
   exact hR _ _ _ (List.pairwise_iff_getElem.1 h j (i - 1) k1 k2 (by omega)) h2
 ·cases hj
def GF (l:aC) (i:Nat) (x:bv):Prop:=bw x.Name=true∧x.By≠0∧∀ y,0<i→l.L[i - 1]? =some y→Op.bytesLess y.Name x.Name=true
theorem mv (l:aC) (hl:l.L.length<4611686018427387904):∃ b:Bool,(b=true↔cv l)∧ij l=some (if b=true then 0 else 1)∧dH l=some b:=by
 classical
 obtain⟨r,q,hQ,h1,h2⟩:=HV (L:=λf (_:Unit) i=>dQ l f i) (M:=λf (_:Unit) i=>dk l f i) (n:=l.L.length) hl
  (λi _ _=>(∀ m∈l.L.take i,bw m.Name=true∧m.By≠0)∧(l.L.take i).Pairwise (λa b=>Op.bytesLess a.Name b.Name=true)) (λr q=>(q=true↔cv l)∧r=if q=true then 0 else 1)
  (by
   rintro i ⟨⟩ ⟨⟩ hi ⟨hI,hJ⟩
   obtain⟨x,hx⟩:=bY hi
   have hxm:=List.mem_of_getElem? hx
   have eL:∀ f,dQ l (f+1) (i:Int)=if GF l i x then dQ l f ((i+1:Nat):Int)else some 1:=λf=>by
    simp only[dQ]
    rw[if_pos (bs hi),bn hx,Option.bind_some,uR,Option.bind_some,mH (by omega)]
    by_cases c1:bw x.Name=true
    rotate_left
    ·rw[if_neg (λh:GF l i x=>c1 h.1)];rw[Bool.not_eq_true]at c1;rw[c1];simp[gd]
    by_cases c2:x.By=0
    ·rw[if_neg (λh:GF l i x=>h.2.1 c2),c1,c2];simp[gd]
    rw[c1,decide_eq_false c2]
    by_cases c3:0<i
    ·obtain⟨y,hy⟩:=bY (l:=l.L) (i:=i - 1) (by omega)
     have hw:av ((i:Int) - 1)=((i - 1:Nat):Int):=by rw[show(i:Int) - 1=((i - 1:Nat):Int)by omega];exact wiN (by omega)
     rw[hw,bn hy,decide_eq_true (p:=0<(i:Int)) (by omega)]
     simp only[gd,Bool.not_true,Bool.not_false,Bool.or_false,Bool.and_true,if_true,Option.bind_some,Bool.false_or,Bool.true_and]
     by_cases c4:Op.bytesLess y.Name x.Name=true
     ·rw[if_neg (by simp[c4]),if_pos (show GF l i x from⟨c1,c2,λz _ hz=>by rw[hy]at hz;injection hz with hz;exact hz▸c4⟩)]
     ·rw[if_pos (by simpa using c4),if_neg (λh:GF l i x=>c4 (h.2.2 y c3 hy))]
    ·rw[decide_eq_false (p:=0<(i:Int)) (by omega),if_pos (show GF l i x from⟨c1,c2,λy h=>absurd h c3⟩)];simp[gd]
   have eR:∀ f,dk l (f+1) (i:Int)=if GF l i x then dk l f ((i+1:Nat):Int)else some false:=λf=>by
    simp only[dk]
    rw[if_pos (bs hi),bn hx,Option.bind_some,fh,Option.bind_some,mH (by omega)]
    by_cases c1:bw x.Name=true
    rotate_left
    ·rw[if_neg (λh:GF l i x=>c1 h.1)];rw[Bool.not_eq_true]at c1;rw[c1];simp[gd]
    rw[c1]
    simp only[gd,Bool.not_true,Bool.not_false,if_true,Option.bind_some,Bool.false_or]
    by_cases c2:x.By=0
    ·rw[if_neg (λh:GF l i x=>h.2.1 c2),c2];simp
    rw[decide_eq_false c2]
    by_cases c3:0<i
    ·obtain⟨y,hy⟩:=bY (l:=l.L) (i:=i - 1) (by omega)
     have hw:av ((i:Int) - 1)=((i - 1:Nat):Int):=by rw[show(i:Int) - 1=((i - 1:Nat):Int)by omega];exact wiN (by omega)
     rw[hw,bn hy,decide_eq_true (p:=0<(i:Int)) (by omega)]
     simp only[Bool.not_false,Bool.and_true,if_true,Option.bind_some,Bool.false_or,Bool.true_and]
     by_cases c4:Op.bytesLess y.Name x.Name=true
     ·rw[if_neg (by simp[c4]),if_pos (show GF l i x from⟨c1,c2,λz _ hz=>by rw[hy]at hz;injection hz with hz;exact hz▸c4⟩)]
     ·rw[if_pos (by simpa using c4),if_neg (λh:GF l i x=>c4 (h.2.2 y c3 hy))]
    ·rw[decide_eq_false (p:=0<(i:Int)) (by omega),if_pos (show GF l i x from⟨c1,c2,λy h=>absurd h c3⟩)];simp
   by_cases c:GF l i x
   ·left;refine⟨(),(),⟨?_,?_⟩,λf=>by rw[eL,if_pos c],λf=>by rw[eR,if_pos c]⟩
    ·rw[bE hx];intro y hy;rcases List.mem_append.1 hy with hy | hy
     ·exact hI y hy
     ·rw[List.mem_singleton.1 hy];exact⟨c.1,c.2.1⟩
    ·exact Lb (λa b c=>EX _ _ _) hJ hx c.2.2
   ·right;refine⟨1,false,⟨⟨λh=>(by cases h),λ⟨k1,k2⟩=>absurd (show GF l i x from⟨(k1 x hxm).1,(k1 x hxm).2,λy h0 hy=>?_⟩) c⟩,by simp⟩,λf=>by rw[eL,if_neg c],λf=>by rw[eR,if_neg c]⟩
    obtain⟨g1,rfl⟩:=List.getElem?_eq_some_iff.1 hy
    obtain⟨g2,rfl⟩:=List.getElem?_eq_some_iff.1 hx
    exact List.pairwise_iff_getElem.1 k2 (i - 1) i g1 g2 (by omega))
  (by
   rintro⟨⟩ ⟨⟩ hI
   rw[List.take_length]at hI
   refine⟨0,true,⟨⟨λ_=>hI,λ_=>rfl⟩,by simp⟩,λf=>?_,λf=>?_⟩
   ·simp only[dQ];rw[if_neg (by simp)]
   ·simp only[dk];rw[if_neg (by simp)]) () () ⟨by simp,by simp⟩
 exact⟨q,hQ.1,by rw[← hQ.2];exact h1,h2⟩
end Go.Proofs.YtmhoikfoogemnaaGreatDoor
