import Derived.Test.YtmhoikfoogemnaaGreatDoorKPa
import Derived.KernelRfl
namespace Go.Proofs.YtmhoikfoogemnaaGreatDoor
open Go Go.RowKit Go.Vc
set_option linter.unusedVariables false
set_option linter.unusedSimpArgs false
theorem AV {t:GType} (h:0≤t.Frac) (h':t.Frac≤30):mc t=some (pw t.Frac):=by
 have hp:=vO (n:=t.Frac) h'
 unfold mc
 rw[wu (p:=t.Frac) ⟨by omega,by omega⟩,if_pos h,vN h h',Int.one_mul,wi ⟨by omega,by omega⟩]
end Go.Proofs.YtmhoikfoogemnaaGreatDoor
namespace Go.Proofs.YtmhoikfoogemnaaGreatDoor
open Go Go.RowKit Go.Vc
set_option linter.unusedVariables false
set_option linter.unusedSimpArgs false
theorem wiwu {x:Int} (h:kB x):ar (kC x)=x:=by
 obtain⟨h1,h2⟩:=h
 simp[IntKind.wrap,IntKind.signed,IntKind.bits]
 omega
theorem FT {x y c:Int} (h:kB y) (e:x=y+c * 18446744073709551616):ar x=y:=by
 obtain⟨h1,h2⟩:=h
 simp[IntKind.wrap,IntKind.signed,IntKind.bits]
 omega
theorem xa {n d:Int} (hd:0<d) (hn:n<0):Int.tdiv n d= -((-n) / d):=by
 rw[show n= -(-n)by omega,Int.neg_tdiv,Int.tdiv_eq_ediv_of_nonneg (by omega),Int.neg_neg]
theorem E6 {n d:Int} (hd:0<d):(0≤n→0≤Int.tdiv n d∧Int.tdiv n d≤n∧0≤Int.tdiv n d * d∧Int.tdiv n d * d≤n)∧(n<0→n≤Int.tdiv n d∧Int.tdiv n d≤0∧n≤Int.tdiv n d * d∧Int.tdiv n d * d≤0):=by
 constructor
 ·intro h
  rw[Int.tdiv_eq_ediv_of_nonneg h]
  have e:=Int.mul_ediv_add_emod n d
  have h1:=Int.emod_nonneg n (by omega:d≠0)
  have h2:=Int.ediv_nonneg h (by omega:0≤d)
  have h3:=Int.mul_le_mul_of_nonneg_left (show(1:Int)≤d by omega) h2
  rw[Int.mul_comm]at e
  omega
 ·intro h
  rw[xa hd h]
  have e:=Int.mul_ediv_add_emod (-n) d
  have h1:=Int.emod_nonneg (-n) (by omega:d≠0)
  have h2:=Int.ediv_nonneg (show 0≤ -n by omega) (by omega:0≤d)
  have h3:=Int.mul_le_mul_of_nonneg_left (show(1:Int)≤d by omega) h2
  rw[Int.mul_comm]at e
  rw[Int.neg_mul]
  omega
def rnd (n d how:Int):Int:=
 if n % d=0∨how=1 then n / d
 else if how=2 then n / d+1
 else if how=3 then(if n<0 then n / d+1 else n / d)
 else if d - n % d<n % d∨(d - n % d=n % d∧(n / d) % 2≠0)then n / d+1 else n / d
def H0 (a b:Int) (neg:Bool) (how:Int):Prop:=(a % b=0∨how=3)∨(how=1∧neg=false)∨(how=2∧neg=true)∨(how=4∧(2 * (a % b)<b∨(2 * (a % b)=b∧(a / b) % 2=0)))
instance {a b:Int} {neg:Bool} {how:Int} :Decidable (H0 a b neg how):=by unfold H0;infer_instance
end Go.Proofs.YtmhoikfoogemnaaGreatDoor
namespace Go.Proofs.YtmhoikfoogemnaaGreatDoor
open Go Go.RowKit Go.Vc
set_option linter.unusedVariables false
set_option linter.unusedSimpArgs false
end Go.Proofs.YtmhoikfoogemnaaGreatDoor
namespace Go.Proofs.YtmhoikfoogemnaaGreatDoor
open Go Go.RowKit Go.Vc
set_option linter.unusedVariables false
set_option linter.unusedSimpArgs false
theorem Hf {x y:Int} {B:Nat} (hx: -(B:Int)≤x∧x≤B) (hy: -(B:Int)≤y∧y≤B): -((B * B:Nat):Int)≤x * y∧x * y≤((B * B:Nat):Int):=by
 have h1:x.natAbs≤B:=by omega
 have h2:y.natAbs≤B:=by omega
 have h3:=Nat.mul_le_mul h1 h2
 rw[← Int.natAbs_mul]at h3
 omega
theorem yC {v:GVal} (h:oY v=true):1≤v.D∧v.D≤2147483647∧ -2147483647≤v.N∧v.N≤2147483647∧Int.gcd v.N v.D=1:=by
 unfold oY at h;simpa using h
def ord (a b:Int):Int:=if a<b then -1 else if b<a then 1 else 0
end Go.Proofs.YtmhoikfoogemnaaGreatDoor
namespace Go.Proofs.YtmhoikfoogemnaaGreatDoor
open Go Go.RowKit Go.Vc
set_option linter.unusedVariables false
set_option linter.unusedSimpArgs false
end Go.Proofs.YtmhoikfoogemnaaGreatDoor
namespace Go.Proofs.YtmhoikfoogemnaaGreatDoor
open Go Go.RowKit Go.Vc
set_option linter.unusedVariables false
set_option linter.unusedSimpArgs false
end Go.Proofs.YtmhoikfoogemnaaGreatDoor
namespace Go.Proofs.YtmhoikfoogemnaaGreatDoor
open Go Go.RowKit Go.Vc
set_option linter.unusedVariables false
set_option linter.unusedSimpArgs false
end Go.Proofs.YtmhoikfoogemnaaGreatDoor
namespace Go.Proofs.YtmhoikfoogemnaaGreatDoor
open Go Go.RowKit Go.Vc
set_option linter.unusedVariables false
set_option linter.unusedSimpArgs false
def leq (op:Int) (x y:GVal):Prop:=if op=9 then x.N * y.D≤y.N * x.D else y.N * x.D≤x.N * y.D
end Go.Proofs.YtmhoikfoogemnaaGreatDoor
namespace Go.Proofs.YtmhoikfoogemnaaGreatDoor
open Go Go.RowKit Go.Vc
set_option linter.unusedVariables false
set_option linter.unusedSimpArgs false
end Go.Proofs.YtmhoikfoogemnaaGreatDoor
namespace Go.Proofs.YtmhoikfoogemnaaGreatDoor
open Go Go.RowKit Go.Vc
set_option linter.unusedVariables false
set_option linter.unusedSimpArgs false
theorem Iw {n:Nat} (h:n<4611686018427387904):ar (n:Int)=n:=yc (p:=(n:Int)) ⟨by omega,by omega⟩
theorem mU {i:Nat} (h:i<4611686018427387904):ar ((i:Int)+1)=((i+1:Nat):Int):=by
 have h2:kB ((i:Int)+1):=⟨by omega,by omega⟩
 exact(yc h2).trans (by omega)
theorem wid {i:Nat} (h:i<4611686018427387904):ar (((i+1:Nat):Int) - 1)=(i:Int):=by
 rw[show((i+1:Nat):Int) - 1=(i:Int)by omega];exact Iw h
theorem HP {a b:Nat} (h:a+b<4611686018427387904):ar ((a:Int)+(b:Int))=((a+b:Nat):Int):=by
 rw[← Int.natCast_add];exact Iw h
theorem Ii {α:Type} (l:List α) (i:Nat):lat l (i:Int)=l[i]? :=by simp[Vc.lat]
theorem cQ {α:Type} {l:List α} {i:Nat} {x:α} (h:l[i]? =some x):lat l (i:Int)=some x:=(Ii l i).trans h
theorem cb {a b:Nat} (h:a<b):decide ((a:Int)<(b:Int))=true:=by simpa using h
theorem eE {α:Type} {xs ys:List α} (h:xs.length+ys.length≤4294967296):mV xs ys=some (xs++ys):=by unfold mV;rw[if_pos h]
theorem BZ {σ R:Type} {L:Nat→σ→Int→Option R} {n:Nat} (I:Nat→σ→Prop) (Q:R→Prop)
  (rd:∀ f i s,i<n→I i s→(∃ s',I (i+1) s'∧L (f+1) s (i:Int)=L f s' ((i+1:Nat):Int))∨∃ r,L (f+1) s (i:Int)=some r∧Q r)
  (fin:∀ f s,I n s→∃ r,L (f+1) s (n:Int)=some r∧Q r):
  ∀ (k f i:Nat) (s:σ),i+k=n→k<f→I i s→∃ r,L f s (i:Int)=some r∧Q r
 | 0,f,i,s,h,hf,hI=>by
  obtain⟨f,rfl⟩:∃ g,f=g+1:=⟨f - 1,by omega⟩
  obtain rfl:i=n:=by omega
  exact fin f s hI
 | k+1,f,i,s,h,hf,hI=>by
  obtain⟨f,rfl⟩:∃ g,f=g+1:=⟨f - 1,by omega⟩
  rcases rd f i s (by omega) hI with⟨s',h1,h2⟩ | ⟨r,h1,h2⟩
  ·rw[h2];exact BZ I Q rd fin k f (i+1) s' (by omega) (by omega) h1
  ·exact⟨r,h1,h2⟩
theorem oA {σ R:Type} {L:Nat→σ→Int→Option R} {n:Nat} (hn:n<4611686018427387904) (I:Nat→σ→Prop) (Q:R→Prop)
  (rd:∀ f i s,i<n→I i s→(∃ s',I (i+1) s'∧L (f+1) s (i:Int)=L f s' ((i+1:Nat):Int))∨∃ r,L (f+1) s (i:Int)=some r∧Q r)
  (fin:∀ f s,I n s→∃ r,L (f+1) s (n:Int)=some r∧Q r) (s:σ) (h0:I 0 s):∃ r,L fu s 0=some r∧Q r:=
 BZ I Q rd fin n fu 0 s (by omega) (by unfold fu;omega) h0
theorem kO {σ R:Type} {L:Nat→σ→Int→Option R} {n:Nat} {r0:Option R} (hn:n<4611686018427387904) (I:Nat→σ→Prop)
  (rd:∀ f i s,i<n→I i s→(∃ s',I (i+1) s'∧L (f+1) s (i:Int)=L f s' ((i+1:Nat):Int))∨L (f+1) s (i:Int)=r0)
  (fin:∀ f s,I n s→L (f+1) s (n:Int)=r0) (s:σ) (h0:I 0 s):L fu s 0=r0:=by
 have key:∀ (k f i:Nat) (s:σ),i+k=n→k<f→I i s→L f s (i:Int)=r0:=by
  intro k
  induction k with
  | zero=>
   intro f i s h hf hI
   obtain⟨f,rfl⟩:∃ g,f=g+1:=⟨f - 1,by omega⟩
   obtain rfl:i=n:=by omega
   exact fin f s hI
  | succ k ih=>
   intro f i s h hf hI
   obtain⟨f,rfl⟩:∃ g,f=g+1:=⟨f - 1,by omega⟩
   rcases rd f i s (by omega) hI with⟨s',h1,h2⟩ | h1
   ·rw[h2];exact ih f (i+1) s' (by omega) (by omega) h1
   ·exact h1
 exact key n fu 0 s (by omega) (by unfold fu;omega) h0
theorem EH {R:Type} {n:Nat} (hn:n<4611686018427387904) {r2:Option R} (m:Nat→Int→Option R)
  (hm:∀ f i,i<n→m (f+1) (i:Int)=m f ((i+1:Nat):Int)) (hz:∀ f,m (f+1) (n:Int)=r2):m fu 0=r2:=
 kO (L:=fun f (_:Unit) i=>m f i) hn (fun _ _=>True) (fun f i _ hi _=> .inl ⟨(),trivial,hm f i hi⟩) (fun f _ _=>hz f) () trivial
theorem cO {α:Type} {l:List α} {i:Nat} {x:α} (h:l[i]? =some x):l.take (i+1)=l.take i++[x]:=by rw[List.take_add_one,h];rfl
theorem pf {α:Type} {l:List α} {i:Nat} {x:α} (h:l[i]? =some x):l.drop i=x::l.drop (i+1):=by
 obtain⟨h1,h2⟩:=List.getElem?_eq_some_iff.1 h
 rw[List.drop_eq_getElem_cons h1,h2]
theorem cx {α:Type} {l:List α} {i:Nat} (h:i<l.length):∃ x,l[i]? =some x:=⟨l[i],by simp[h]⟩
def prd:List Nat→Nat
 | []=>1
 | x::d=>x * prd d
def off:List Nat→List Nat→Nat
 | _ ::d,q::p=>q * prd d+off d p
 | _,_=>0
def Pos (d:List Nat):Prop:=∀ x∈d,1≤x
end Go.Proofs.YtmhoikfoogemnaaGreatDoor
namespace Go.Proofs.YtmhoikfoogemnaaGreatDoor
open Go Go.RowKit Go.Vc
set_option linter.unusedVariables false
set_option linter.unusedSimpArgs false
theorem kw42:mh=mj:=by kernel_rfl
def Fv:List (List UInt8):=(mj).getD []
theorem wW:mj=some Fv:=rfl
theorem yK (l:List (List UInt8)) (v:List UInt8) (hl:l.length<4611686018427387904):dl l v=some (decide (v∈l)):=by
 obtain⟨r,h1,h2⟩:=oA (L:=fun f (_:Unit) i=>bj l v f i) (n:=l.length) hl (fun i _=>v∉l.take i) (fun r=>decide (0≤r)=decide (v∈l))
  (fun f i _ hi hI=>by
   obtain⟨x,hx⟩:=cx hi
   simp only[bj]
   rw[if_pos (cb hi),cQ hx,Option.bind_some]
   by_cases hv:v=x
   ·right;refine⟨(i:Int),by rw[if_pos (by simpa using hv)],?_⟩
    rw[decide_eq_true (by omega),decide_eq_true (by rw[hv];exact List.mem_of_getElem? hx)]
   ·left;refine⟨(),?_,by rw[if_neg (by simpa using hv),mU (by omega)]⟩
    rw[cO hx];simp[hI,hv])
  (fun f _ hI=>by
   rw[List.take_length]at hI
   simp only[bj]
   exact⟨-1,by rw[if_neg (by simp)],by rw[decide_eq_false hI];rfl⟩) () (by simp)
 unfold dl fL
 rw[show bj l v fu 0=some r from h1,Option.bind_some,h2]
theorem B6 (l:List (List UInt8)) (v:List UInt8) (hl:l.length<4611686018427387904):nP l v=some (decide (v∈l)):=by
 obtain⟨r,h1,h2⟩:=oA (L:=fun f (_:Unit) i=>ia l v f i) (n:=l.length) hl (fun i _=>v∉l.take i) (fun r=>r=decide (v∈l))
  (fun f i _ hi hI=>by
   obtain⟨x,hx⟩:=cx hi
   simp only[ia]
   rw[if_pos (cb hi),cQ hx,Option.bind_some]
   by_cases hv:x=v
   ·right;refine⟨true,by rw[if_pos (by simpa using hv)],?_⟩
    rw[decide_eq_true (by rw[← hv];exact List.mem_of_getElem? hx)]
   ·left;refine⟨(),?_,by rw[if_neg (by simpa using hv),mU (by omega)]⟩
    rw[cO hx];simp[hI];exact fun h=>hv h.symm)
  (fun f _ hI=>by
   rw[List.take_length]at hI
   simp only[ia]
   exact⟨false,by rw[if_neg (by simp)],by rw[decide_eq_false hI]⟩) () (by simp)
 unfold nP
 rw[show ia l v fu 0=some r from h1,h2]
theorem CI (s:List UInt8):jP s=some (decide (s∈Fv)):=by
 unfold jP
 rw[kw42,wW,Option.bind_some,yK _ _ (by decide),Option.bind_some]
end Go.Proofs.YtmhoikfoogemnaaGreatDoor
namespace Go.Proofs.YtmhoikfoogemnaaGreatDoor
open Go Go.RowKit Go.Vc
set_option linter.unusedVariables false
set_option linter.unusedSimpArgs false
def qC (c:UInt8):Bool:=decide (97≤(c.toNat:Int))&&decide ((c.toNat:Int)≤122)
def im (c:UInt8):Bool:=qC c||(decide (48≤(c.toNat:Int))&&decide ((c.toNat:Int)≤57))||decide ((c.toNat:Int)=95)
def fE (s:List UInt8):Bool:=(decide (s≠[])&&decide (s.length≤16))&&qC (s.getD 0 0)&&s.all im&& !decide (s∈Fv)
theorem tD (c:UInt8):qF (c.toNat:Int)=(c.toNat:Int):=Gp (p:=(c.toNat:Int)) ⟨by omega,by have:=c.toNat_lt;omega⟩
theorem fD {s:List UInt8} {i:Nat} {c:UInt8} (h:s[i]? =some c):sat s (i:Int)=some (c.toNat:Int):=by
 obtain⟨hi,_⟩:=List.getElem?_eq_some_iff.1 h
 unfold sat wY
 rw[if_pos (by omega),Int.toNat_natCast,List.getD_eq_getElem?_getD,h];rfl
theorem CG (c:UInt8):ij (qF (c.toNat:Int))=some (qC c):=by rw[tD];rfl
theorem CL (c:UInt8):dX (qF (c.toNat:Int))=some (im c):=by
 unfold dX
 rw[tD,show ij (c.toNat:Int)=some (qC c)from rfl,Option.bind_some]
 unfold im
 cases qC c<;>simp[gd,iZ]
theorem Fa (s:List UInt8) (hs:s.length<4611686018427387904):∃ r,iS s dX=some r∧decide (r=(s.length:Int))=s.all im:=by
 refine oA (L:=fun f (_:Unit) i=>eT s dX f i) (n:=s.length) hs (fun i _=>(s.take i).all im=true) (fun r=>decide (r=(s.length:Int))=s.all im) ?_ ?_ () (by simp)
 ·intro f i _ hi hI
  obtain⟨c,hc⟩:=cx hi
  simp only[eT]
  rw[cb hi]
  simp only[gd,if_true,fD hc,Option.bind_some,CL,Bool.true_and]
  by_cases hw:im c=true
  ·left;refine⟨(),?_,by rw[if_pos hw,mU (by omega)]⟩
   rw[cO hc,List.all_append,hI];simp[hw]
  ·right;refine⟨(i:Int),by rw[if_neg hw],?_⟩
   rw[decide_eq_false (by omega)]
   symm;rw[Bool.eq_false_iff];intro h
   exact hw (List.all_eq_true.1 h c (List.mem_of_getElem? hc))
 ·intro f _ hI
  rw[List.take_length]at hI
  refine⟨(s.length:Int),?_,by rw[hI];simp⟩
  simp only[eT]
  simp[gd]
theorem xU (s:List UInt8) (hs:s.length<4611686018427387904):gB s=some (fE s):=by
 unfold gB fE
 cases s with
 | nil=>rfl
 | cons c t=>
  by_cases h16:(c::t).length≤16
  rotate_left
  ·have e:decide (((c::t).length:Int)≤16)=false:=by rw[decide_eq_false_iff_not];omega
   rw[e,decide_eq_false h16];simp[gd]
  have e:decide (((c::t).length:Int)≤16)=true:=by rw[decide_eq_true_iff];omega
  obtain⟨r,h1,h2⟩:=Fa (c::t) hs
  rw[e,decide_eq_true h16,show decide ((c::t)=([]:List UInt8))=false by simp,show sat (c::t) 0=some (c.toNat:Int)from fD (i:=0) rfl]
  simp only[gd,Bool.not_false,Bool.true_and,if_true,Option.bind_some,CG,h1,CI]
  rw[show(c::t).getD 0 0=c from rfl,show decide ((c::t)≠[])=true by simp]
  cases hl:qC c
  ·simp
  ·simp only[if_true,Option.bind_some,h2,Bool.true_and]
   cases (c::t).all im<;>simp
theorem zb (s:List UInt8) (hs:s.length<4611686018427387904):ik s=some (fE s):=by
 unfold ik fE
 by_cases h:s.length<1∨16<s.length
 ·have e:(decide ((s.length:Int)<1)||decide (16<(s.length:Int)))=true:=by simp;omega
  rw[e]
  have e2:(decide (s≠[])&&decide (s.length≤16))=false:=by
   rcases h with h | h
   ·rw[List.length_eq_zero_iff.1 (show s.length=0 by omega)];rfl
   ·rw[decide_eq_false (show ¬ s.length≤16 by omega)];simp
  rw[e2];simp[gd]
 have e:(decide ((s.length:Int)<1)||decide (16<(s.length:Int)))=false:=by simp;omega
 have e2:(decide (s≠[])&&decide (s.length≤16))=true:=by
  have:s≠[]:=fun h'=>by subst h';simp at h
  simp[this];omega
 rw[e,e2]
 simp only[gd,Bool.not_false,if_true,wW,Option.bind_some,B6 Fv s (by decide),Bool.false_or,Bool.true_and]
 by_cases hk:s∈Fv
 ·simp[hk]
 rw[decide_eq_false hk]
 simp only[Bool.false_eq_true,if_false,Bool.not_false,Bool.and_true]
 obtain⟨r,h1,h2⟩:=oA (L:=fun f (_:Unit) i=>gD s f i) (n:=s.length) hs (fun i _=>(s.take i).all im=true∧(0<i→qC (s.getD 0 0)=true)) (fun r=>r=(qC (s.getD 0 0)&&s.all im))
  (fun f i _ hi ⟨hI,hJ⟩=>by
   obtain⟨c,hc⟩:=cx hi
   simp only[gD]
   rw[if_pos (cb hi),fD hc,Option.bind_some]
   rcases Nat.eq_zero_or_pos i with h0 | h0
   ·have hg:s.getD 0 0=c:=by rw[h0]at hc;rw[List.getD_eq_getElem?_getD,hc];rfl
    rw[show(decide (97≤(c.toNat:Int))&&decide ((c.toNat:Int)≤122))=qC c from rfl,show decide ((0:Int)<(i:Int))=false by rw[decide_eq_false_iff_not];omega]
    cases hl:qC c
    ·right;exact⟨false,by simp,by rw[hg,hl];rfl⟩
    ·left;refine⟨(),⟨?_,fun _=>by rw[hg,hl]⟩,by simp[mU (i:=i) (by omega)]⟩
     rw[cO hc,h0];simp[im,hl]
   ·rw[show(decide (97≤(c.toNat:Int))&&decide ((c.toNat:Int)≤122))=qC c from rfl,show decide ((0:Int)<(i:Int))=true by simp;omega,Bool.true_and, ← Bool.or_assoc,show(qC c||(decide (48≤(c.toNat:Int))&&decide ((c.toNat:Int)≤57))||decide ((c.toNat:Int)=95))=im c from rfl]
    cases hw:im c
    ·right;refine⟨false,by simp,?_⟩
     symm;rw[Bool.and_eq_false_iff];right;rw[Bool.eq_false_iff];intro h'
     have:=List.all_eq_true.1 h' c (List.mem_of_getElem? hc);rw[hw]at this;cases this
    ·left;refine⟨(),⟨?_,fun _=>hJ h0⟩,by simp[mU (i:=i) (by omega)]⟩
     rw[cO hc,List.all_append,hI];simp[hw])
  (fun f _ ⟨hI,hJ⟩=>by
   rw[List.take_length]at hI
   simp only[gD]
   exact⟨true,by rw[if_neg (by simp)],by rw[hI,hJ (by omega)];rfl⟩) () (by simp)
 rw[show gD s fu 0=some r from h1,h2]
end Go.Proofs.YtmhoikfoogemnaaGreatDoor
