import Derived.Test.YtmhoikfoogemnaaGreatDoorGShelf
import Derived.KernelRfl
namespace Go.Proofs.YtmhoikfoogemnaaGreatDoor
open Go Go.RowKit Go.Vc
set_option linter.unusedVariables false
set_option linter.unusedSimpArgs false
def pw (n:Int):Int:=2 ^ n.toNat
theorem ya {n:Int} (h:n≤30):1≤pw n∧pw n≤1073741824:=by
 unfold pw
 have h1:n.toNat≤30:=by omega
 have h2:(2:Nat) ^ n.toNat≤2 ^ 30:=Nat.pow_le_pow_right (by omega) h1
 have h3:1≤(2:Nat) ^ n.toNat:=Nat.one_le_two_pow
 have e:((2:Int) ^ n.toNat)=((2 ^ n.toNat:Nat):Int):=by simp
 rw[e]
 omega
theorem x9 {n:Int} (h0:0≤n) (h:n≤30):(2:Int) ^ (min (Int.toNat n) 64)=pw n:=by
 unfold pw
 congr 1
 omega
structure VaR (v:GVal):Prop where
 N:lq v.N
 D:lq v.D
theorem IZ {n:Int} (h:okI .i64 n):lq n:=Jh h
theorem VaR.of {v:GVal} (h:okGVal v):VaR v:=⟨IZ h.1,IZ h.2⟩
def tR (t:GType):Bool:=
 if t.Kind=1∨t.Kind=3 then decide (t.Bits=0∧t.Frac=0∧t.Round=0∧t.Over=0)
 else decide (t.Kind=2∧2≤t.Bits∧t.Bits≤31∧0≤t.Frac∧t.Frac≤30∧1≤t.Round∧t.Round≤4∧(t.Over=1∨t.Over=2))
theorem wB (t:GType):mV t=some (tR t):=by
 unfold mV tR
 by_cases h1:t.Kind=1
 ·simp[h1];try simp only[Bool.decide_and,Bool.and_assoc]
 by_cases h3:t.Kind=3
 ·simp[h3];try simp only[Bool.decide_and,Bool.and_assoc]
 simp[h1,h3,Bool.and_assoc]
theorem B4 (t:GType):nz t=some (decide (t.Bits=0∧t.Frac=0∧t.Round=0∧t.Over=0)):=by
 unfold nz
 simp[Bool.and_assoc]
theorem qn (t:GType):gR t=some (if t.Kind=2∧tR t=true then 0 else 10):=by
 unfold gR tR
 simp only[Option.bind_some]
 by_cases h2:t.Kind=2
 ·simp only[h2]
  by_cases h:2≤t.Bits∧t.Bits≤31∧0≤t.Frac∧t.Frac≤30∧1≤t.Round∧t.Round≤4∧(t.Over=1∨t.Over=2)
  ·obtain⟨a,b,c,d,e,f,g⟩:=h
   simp[a,b,c,d,e,f,g,Int.not_lt.2 a,Int.not_lt.2 b,Int.not_lt.2 c,Int.not_lt.2 d]
   omega
  ·rw[if_pos,if_neg]
   ·simpa using h
   ·simp only[Bool.or_eq_true,Bool.and_eq_true,decide_eq_true_eq,Bool.not_eq_true',decide_eq_false_iff_not,Bool.and_eq_false_iff,Bool.or_eq_false_iff]
    omega
 ·simp[h2]
theorem ly (t:GType):ee t=some (if tR t=true then 0 else 10):=by
 unfold ee gL
 simp only[B4,qn,Option.bind_some]
 unfold tR
 by_cases h1:t.Kind=1
 ·simp[h1];split<;>simp_all
 by_cases h3:t.Kind=3
 ·simp[h3];split<;>simp_all
 by_cases h2:t.Kind=2
 ·simp[h2,h1,h3];split<;>simp_all
 ·simp[h1,h2,h3]
theorem xA {t:GType} (h:tR t=true) (h2:t.Kind=2):2≤t.Bits∧t.Bits≤31∧0≤t.Frac∧t.Frac≤30∧1≤t.Round∧t.Round≤4∧(t.Over=1∨t.Over=2):=by
 unfold tR at h
 simpa[h2]using h
theorem B6 {t:GType} (h:tR t=true):t.Kind=1∨t.Kind=2∨t.Kind=3:=by
 unfold tR at h
 split at h
 ·omega
 ·simp at h;omega
theorem Ba (m:Nat→Int→Int→Option Int) (hm:∀ f a b,m (f+1) a b=if(!decide (b=0))=true then(if b≠0 then m f b (Int.tmod a b)else none)else some a):
  ∀ (f:Nat) (a b:Int),0≤a→0≤b→b.toNat<f→m f a b=some (Int.gcd a b)
 | 0,_,_,_,_,h=>absurd h (by omega)
 | f+1,a,b,ha,hb,hf=>by
  rw[hm]
  by_cases h:b=0
  ·subst h
   simp
   omega
  ·have h1:0<b:=by omega
   have h2:Int.tmod a b=a % b:=Int.tmod_eq_emod_of_nonneg ha
   have h3:0≤a % b:=Int.emod_nonneg _ h
   have h4:a % b<b:=Int.emod_lt_of_pos _ h1
   simp only[h,decide_false,Bool.not_false,if_true,ne_eq,not_false_eq_true]
   rw[h2,Ba m hm f b (a % b) hb h3 (by omega)]
   congr 1
   have e:Int.gcd b (a % b)=Int.gcd a b:=by
    obtain⟨m,rfl⟩:=Int.eq_ofNat_of_zero_le ha
    obtain⟨k,rfl⟩:=Int.eq_ofNat_of_zero_le hb
    show Nat.gcd k ((m:Int) % (k:Int)).natAbs=Nat.gcd m k
    rw[show((m:Int) % (k:Int))=((m % k:Nat):Int)from rfl,Int.natAbs_natCast,Nat.gcd_comm m k,Nat.gcd_rec k m,Nat.gcd_comm]
   rw[e]
theorem HC {a b:Int} (ha:0≤a) (hb:0≤b) (h:b≤18446744073709551615):rS a b=some (Int.gcd a b:Int):=
 Ba me (λ_ _ _=>rfl) fu a b ha hb (by unfold fu;omega)
theorem Hr {a b:Int} (ha:0≤a) (hb:0≤b) (h:b≤18446744073709551615):rQ a b=some (Int.gcd a b:Int):=
 Ba ma (λ_ _ _=>rfl) fu a b ha hb (by unfold fu;omega)
theorem Fe {a b:Int} (ha:0≤a) (hb:0≤b) (h:b≤18446744073709551615):qG a b=some (Int.gcd a b:Int):=
 Ba kW (λ_ _ _=>rfl) fu a b ha hb (by unfold fu;omega)
def qA (v:GVal):Bool:=decide (1≤v.D∧v.D≤2147483647∧ -2147483647≤v.N∧v.N≤2147483647∧Int.gcd v.N v.D=1)
def DH (t:GType) (v:GVal):Bool:=
 if t.Kind=2 then decide (v.D=1∧ -pw (t.Bits - 1)≤v.N∧v.N<pw (t.Bits - 1))
 else if t.Kind=3 then decide (v.D=1∧ -2147483647≤v.N∧v.N≤2147483647)
 else qA v
theorem wi {p:Int} (h:lq p):au p=p:=Av h
theorem wu {p:Int} (h:LC p):lr p=p:=Je h
theorem BN (n d:Int):Int.gcd (if n<0 then -n else n) d=Int.gcd n d:=by
 split
 ·rw[Int.neg_gcd]
 ·rfl
theorem yu {n:Int} (h:lq n):k7 n=some (if n<0 then -n else n):=by
 obtain⟨h1,h2⟩:=h
 unfold k7
 by_cases hn:n<0
 ·simp only[hn,decide_true,if_true]
  congr 1
  simp[IntKind.wrap,IntKind.signed,IntKind.bits]
  omega
 ·simp only[hn,decide_false,Bool.false_eq_true,if_false]
  rw[wu ⟨by omega,by omega⟩]
theorem uR {v:GVal} (h:VaR v):nn v=some (qA v):=by
 unfold nn qA
 by_cases hd:1≤v.D∧v.D≤2147483647
 ·by_cases hn: -2147483647≤v.N∧v.N≤2147483647
  ·simp only[mT,gd,hd.1,hd.2,hn.1,hn.2,decide_true,Bool.and_self,if_true,Option.bind_some]
   rw[yu h.N,Option.bind_some,wu ⟨by omega,by omega⟩,Hr (by split<;>omega) (by omega) (by omega),Option.bind_some,BN]
   simp
   omega
  ·have e:(decide (-2147483647≤v.N)&&decide (v.N≤2147483647))=false:=by simpa[Int.not_le]using hn
   simp[mT,gd,hd.1,hd.2]
   have hn':¬ (-2147483647≤v.N∧v.N≤2147483647):=hn
   simp only[Bool.and_eq_true,decide_eq_true_eq,hn',if_false,Option.bind_some]
   simp
   intro h1 h2
   exact absurd ⟨h1,h2⟩ hn'
 ·have e:(decide (1≤v.D)&&decide (v.D≤2147483647))=false:=by simpa[Int.not_le]using hd
  simp only[gd,e,Bool.false_and,Bool.false_eq_true,if_false,Option.bind_some]
  simp
  intro h1 h2
  exact absurd ⟨h1,h2⟩ hd
theorem De {t:GType} {v:GVal} (ht:tR t=true) (h:VaR v):o8 t v=some (DH t v):=by
 unfold o8 DH
 obtain⟨n1,n2⟩:=h.N
 obtain⟨d1,d2⟩:=h.D
 by_cases h2:t.Kind=2
 ·obtain⟨a,b,c,d,e,f,g⟩:=xA ht h2
  have hb:au (t.Bits - 1)=t.Bits - 1:=wi ⟨by omega,by omega⟩
  have hp:=ya (n:=t.Bits - 1) (by omega)
  simp only[h2,decide_true,if_true,hb,show(0:Int)≤t.Bits - 1 by omega,x9 (n:=t.Bits - 1) (by omega) (by omega),Int.one_mul]
  rw[wi (p:=pw (t.Bits - 1)) ⟨by omega,by omega⟩,Option.bind_some,wi ⟨by omega,by omega⟩]
  simp[Bool.and_assoc]
 ·simp only[h2,decide_false,Bool.false_eq_true,if_false]
  by_cases hr:1≤v.D∧v.D≤2147483647∧ -2147483647≤v.N∧v.N≤2147483647
  ·obtain⟨r1,r2,r3,r4⟩:=hr
   rw[if_neg (by simp;omega)]
   by_cases h3:t.Kind=3
   ·simp[h3,r3,r4]
   ·simp only[h3,decide_false,Bool.false_eq_true,if_false]
    have hm:max v.N (au (-v.N))=if v.N<0 then -v.N else v.N:=by rw[wi ⟨by omega,by omega⟩];split<;>omega
    rw[hm,HC (by split<;>omega) (by omega) (by omega),Option.bind_some,BN]
    simp[qA,r1,r2,r3,r4]
    omega
  ·rw[if_pos (by simp;omega)]
   by_cases h3:t.Kind=3
   ·simp[h3];omega
   ·simp[h3,qA];omega
theorem wH {b:Int} (h1:2≤b) (h2:b≤31):l5 b=some true:=by
 unfold l5;simp[h1,h2]
theorem AG {b:Int} (h1:2≤b) (h2:b≤31):mG b=some (-pw (b - 1)):=by
 unfold mG
 have hb:au (b - 1)=b - 1:=wi ⟨by omega,by omega⟩
 have hp:=ya (n:=b - 1) (by omega)
 rw[wH h1 h2,hb,wu (p:=b - 1) ⟨by omega,by omega⟩,x9 (by omega) (by omega)]
 simp only[Option.bind_some,Bool.not_true,Bool.false_eq_true,if_false,Int.one_mul]
 rw[if_pos (by omega),wi (p:=pw (b - 1)) ⟨by omega,by omega⟩,wi ⟨by omega,by omega⟩]
theorem AH {b:Int} (h1:2≤b) (h2:b≤31):mH b=some (pw (b - 1) - 1):=by
 unfold mH
 have hb:au (b - 1)=b - 1:=wi ⟨by omega,by omega⟩
 have hp:=ya (n:=b - 1) (by omega)
 rw[wH h1 h2,hb,wu (p:=b - 1) ⟨by omega,by omega⟩,x9 (by omega) (by omega)]
 simp only[Option.bind_some,Bool.not_true,Bool.false_eq_true,if_false,Int.one_mul]
 rw[if_pos (by omega),wi (p:=pw (b - 1)) ⟨by omega,by omega⟩,wi ⟨by omega,by omega⟩]
theorem wR {t:GType} (v:GVal) (ht:tR t=true) (h2:t.Kind=2):mb t v=some (DH t v):=by
 obtain⟨a,b,c,d,e,f,g⟩:=xA ht h2
 unfold mb DH
 simp only[qn,h2,ht,and_self,if_true,Option.bind_some,decide_true,Bool.true_and,AG a b,AH a b]
 by_cases hd:v.D=1
 ·simp only[hd,decide_true,gd,Bool.true_and,if_true,Option.bind_some]
  by_cases hn: -pw (t.Bits - 1)≤v.N
  ·simp only[hn,decide_true,if_true,Option.bind_some,Bool.true_and,true_and]
   simp;omega
  ·simp[hn]
 ·simp[hd,gd]
theorem B5 {t:GType} {v:GVal} (h:VaR v):nA t v=some (tR t&&DH t v):=by
 unfold nA
 rw[ly]
 cases ht:tR t
 ·rfl
 ·simp only[if_true,Option.bind_some,decide_true,Bool.not_true,Bool.false_eq_true,if_false,Bool.true_and]
  by_cases h2:t.Kind=2
  ·simp[h2,wR v ht h2]
  ·by_cases h3:t.Kind=3
   ·simp only[h2,h3,decide_false,decide_true,Bool.false_eq_true,if_false,if_true,pm,gd,DH]
    by_cases hd:v.D=1
    ·simp[hd]
    ·simp[hd]
   ·simp only[h2,h3,decide_false,Bool.false_eq_true,if_false,uR h,Option.bind_some,DH]
end Go.Proofs.YtmhoikfoogemnaaGreatDoor
namespace Go.Proofs.YtmhoikfoogemnaaGreatDoor
open Go Go.RowKit Go.Vc
set_option linter.unusedVariables false
set_option linter.unusedSimpArgs false
theorem Dw {t:GType} (h:0≤t.Frac) (h':t.Frac≤30):m9 t=some (pw t.Frac):=by
 have hp:=ya (n:=t.Frac) h'
 unfold m9
 rw[wu (p:=t.Frac) ⟨by omega,by omega⟩,if_pos h,x9 h h',Int.one_mul,wi ⟨by omega,by omega⟩]
end Go.Proofs.YtmhoikfoogemnaaGreatDoor
namespace Go.Proofs.YtmhoikfoogemnaaGreatDoor
open Go Go.RowKit Go.Vc
set_option linter.unusedVariables false
set_option linter.unusedSimpArgs false
theorem wiwu {x:Int} (h:lq x):au (lr x)=x:=by
 obtain⟨h1,h2⟩:=h
 simp[IntKind.wrap,IntKind.signed,IntKind.bits]
 omega
theorem IP {x y c:Int} (h:lq y) (e:x=y+c * 18446744073709551616):au x=y:=by
 obtain⟨h1,h2⟩:=h
 simp[IntKind.wrap,IntKind.signed,IntKind.bits]
 omega
theorem ze {n d:Int} (hd:0<d) (hn:n<0):Int.tdiv n d= -((-n) / d):=by
 rw[show n= -(-n)by omega,Int.neg_tdiv,Int.tdiv_eq_ediv_of_nonneg (by omega),Int.neg_neg]
theorem H2 {n d:Int} (hd:0<d):(0≤n→0≤Int.tdiv n d∧Int.tdiv n d≤n∧0≤Int.tdiv n d * d∧Int.tdiv n d * d≤n)∧(n<0→n≤Int.tdiv n d∧Int.tdiv n d≤0∧n≤Int.tdiv n d * d∧Int.tdiv n d * d≤0):=by
 constructor
 ·intro h
  rw[Int.tdiv_eq_ediv_of_nonneg h]
  have e:=Int.mul_ediv_add_emod n d
  have h1:=Int.emod_nonneg n (by omega:d≠0)
  have h2:=Int.ediv_nonneg h (by omega:0≤d)
  have h3:=Int.mul_le_mul_of_nonneg_left (show(1:Int)≤d by omega) h2
  rw[Int.mul_comm]at e
  omega
 ·intro h
  rw[ze hd h]
  have e:=Int.mul_ediv_add_emod (-n) d
  have h1:=Int.emod_nonneg (-n) (by omega:d≠0)
  have h2:=Int.ediv_nonneg (show 0≤ -n by omega) (by omega:0≤d)
  have h3:=Int.mul_le_mul_of_nonneg_left (show(1:Int)≤d by omega) h2
  rw[Int.mul_comm]at e
  rw[Int.neg_mul]
  omega
def rnd (n d how:Int):Int:=
 if n % d=0∨how=1 then n / d
 else if how=2 then n / d+1
 else if how=3 then(if n<0 then n / d+1 else n / d)
 else if d - n % d<n % d∨(d - n % d=n % d∧(n / d) % 2≠0)then n / d+1 else n / d
def K3 (a b:Int) (neg:Bool) (how:Int):Prop:=(a % b=0∨how=3)∨(how=1∧neg=false)∨(how=2∧neg=true)∨(how=4∧(2 * (a % b)<b∨(2 * (a % b)=b∧(a / b) % 2=0)))
instance {a b:Int} {neg:Bool} {how:Int} :Decidable (K3 a b neg how):=by unfold K3;infer_instance
end Go.Proofs.YtmhoikfoogemnaaGreatDoor
namespace Go.Proofs.YtmhoikfoogemnaaGreatDoor
open Go Go.RowKit Go.Vc
set_option linter.unusedVariables false
set_option linter.unusedSimpArgs false
end Go.Proofs.YtmhoikfoogemnaaGreatDoor
namespace Go.Proofs.YtmhoikfoogemnaaGreatDoor
open Go Go.RowKit Go.Vc
set_option linter.unusedVariables false
set_option linter.unusedSimpArgs false
theorem Kb {x y:Int} {B:Nat} (hx: -(B:Int)≤x∧x≤B) (hy: -(B:Int)≤y∧y≤B): -((B * B:Nat):Int)≤x * y∧x * y≤((B * B:Nat):Int):=by
 have h1:x.natAbs≤B:=by omega
 have h2:y.natAbs≤B:=by omega
 have h3:=Nat.mul_le_mul h1 h2
 rw[← Int.natAbs_mul]at h3
 omega
theorem Bb {v:GVal} (h:qA v=true):1≤v.D∧v.D≤2147483647∧ -2147483647≤v.N∧v.N≤2147483647∧Int.gcd v.N v.D=1:=by
 unfold qA at h;simpa using h
def ord (a b:Int):Int:=if a<b then -1 else if b<a then 1 else 0
end Go.Proofs.YtmhoikfoogemnaaGreatDoor
namespace Go.Proofs.YtmhoikfoogemnaaGreatDoor
open Go Go.RowKit Go.Vc
set_option linter.unusedVariables false
set_option linter.unusedSimpArgs false
end Go.Proofs.YtmhoikfoogemnaaGreatDoor
namespace Go.Proofs.YtmhoikfoogemnaaGreatDoor
open Go Go.RowKit Go.Vc
set_option linter.unusedVariables false
set_option linter.unusedSimpArgs false
end Go.Proofs.YtmhoikfoogemnaaGreatDoor
namespace Go.Proofs.YtmhoikfoogemnaaGreatDoor
open Go Go.RowKit Go.Vc
set_option linter.unusedVariables false
set_option linter.unusedSimpArgs false
end Go.Proofs.YtmhoikfoogemnaaGreatDoor
namespace Go.Proofs.YtmhoikfoogemnaaGreatDoor
open Go Go.RowKit Go.Vc
set_option linter.unusedVariables false
set_option linter.unusedSimpArgs false
def leq (op:Int) (x y:GVal):Prop:=if op=9 then x.N * y.D≤y.N * x.D else y.N * x.D≤x.N * y.D
end Go.Proofs.YtmhoikfoogemnaaGreatDoor
namespace Go.Proofs.YtmhoikfoogemnaaGreatDoor
open Go Go.RowKit Go.Vc
set_option linter.unusedVariables false
set_option linter.unusedSimpArgs false
end Go.Proofs.YtmhoikfoogemnaaGreatDoor
namespace Go.Proofs.YtmhoikfoogemnaaGreatDoor
open Go Go.RowKit Go.Vc
set_option linter.unusedVariables false
set_option linter.unusedSimpArgs false
theorem LG {n:Nat} (h:n<4611686018427387904):au (n:Int)=n:=Av (p:=(n:Int)) ⟨by omega,by omega⟩
theorem nu {i:Nat} (h:i<4611686018427387904):au ((i:Int)+1)=((i+1:Nat):Int):=by
 have h2:lq ((i:Int)+1):=⟨by omega,by omega⟩
 exact(Av h2).trans (by omega)
theorem wid {i:Nat} (h:i<4611686018427387904):au (((i+1:Nat):Int) - 1)=(i:Int):=by
 rw[show((i+1:Nat):Int) - 1=(i:Int)by omega];exact LG h
theorem KR {a b:Nat} (h:a+b<4611686018427387904):au ((a:Int)+(b:Int))=((a+b:Nat):Int):=by
 rw[← Int.natCast_add];exact LG h
theorem Ll {α:Type} (l:List α) (i:Nat):lat l (i:Int)=l[i]? :=by simp[Vc.lat]
theorem cD {α:Type} {l:List α} {i:Nat} {x:α} (h:l[i]? =some x):lat l (i:Int)=some x:=(Ll l i).trans h
theorem bS {a b:Nat} (h:a<b):decide ((a:Int)<(b:Int))=true:=by simpa using h
theorem cJ {α:Type} {xs ys:List α} (h:xs.length+ys.length≤4294967296):gm xs ys=some (xs++ys):=by unfold gm;rw[if_pos h]
theorem EI {σ R:Type} {L:Nat→σ→Int→Option R} {n:Nat} (I:Nat→σ→Prop) (Q:R→Prop)
  (rd:∀ f i s,i<n→I i s→(∃ s',I (i+1) s'∧L (f+1) s (i:Int)=L f s' ((i+1:Nat):Int))∨∃ r,L (f+1) s (i:Int)=some r∧Q r)
  (fin:∀ f s,I n s→∃ r,L (f+1) s (n:Int)=some r∧Q r):
  ∀ (k f i:Nat) (s:σ),i+k=n→k<f→I i s→∃ r,L f s (i:Int)=some r∧Q r
 | 0,f,i,s,h,hf,hI=>by
  obtain⟨f,rfl⟩:∃ g,f=g+1:=⟨f - 1,by omega⟩
  obtain rfl:i=n:=by omega
  exact fin f s hI
 | k+1,f,i,s,h,hf,hI=>by
  obtain⟨f,rfl⟩:∃ g,f=g+1:=⟨f - 1,by omega⟩
  rcases rd f i s (by omega) hI with⟨s',h1,h2⟩ | ⟨r,h1,h2⟩
  ·rw[h2];exact EI I Q rd fin k f (i+1) s' (by omega) (by omega) h1
  ·exact⟨r,h1,h2⟩
theorem qe {σ R:Type} {L:Nat→σ→Int→Option R} {n:Nat} (hn:n<4611686018427387904) (I:Nat→σ→Prop) (Q:R→Prop)
  (rd:∀ f i s,i<n→I i s→(∃ s',I (i+1) s'∧L (f+1) s (i:Int)=L f s' ((i+1:Nat):Int))∨∃ r,L (f+1) s (i:Int)=some r∧Q r)
  (fin:∀ f s,I n s→∃ r,L (f+1) s (n:Int)=some r∧Q r) (s:σ) (h0:I 0 s):∃ r,L fu s 0=some r∧Q r:=
 EI I Q rd fin n fu 0 s (by omega) (by unfold fu;omega) h0
theorem kQ {σ R:Type} {L:Nat→σ→Int→Option R} {n:Nat} {r0:Option R} (hn:n<4611686018427387904) (I:Nat→σ→Prop)
  (rd:∀ f i s,i<n→I i s→(∃ s',I (i+1) s'∧L (f+1) s (i:Int)=L f s' ((i+1:Nat):Int))∨L (f+1) s (i:Int)=r0)
  (fin:∀ f s,I n s→L (f+1) s (n:Int)=r0) (s:σ) (h0:I 0 s):L fu s 0=r0:=by
 have key:∀ (k f i:Nat) (s:σ),i+k=n→k<f→I i s→L f s (i:Int)=r0:=by
  intro k
  induction k with
  | zero=>
   intro f i s h hf hI
   obtain⟨f,rfl⟩:∃ g,f=g+1:=⟨f - 1,by omega⟩
   obtain rfl:i=n:=by omega
   exact fin f s hI
  | succ k ih=>
   intro f i s h hf hI
   obtain⟨f,rfl⟩:∃ g,f=g+1:=⟨f - 1,by omega⟩
   rcases rd f i s (by omega) hI with⟨s',h1,h2⟩ | h1
   ·rw[h2];exact ih f (i+1) s' (by omega) (by omega) h1
   ·exact h1
 exact key n fu 0 s (by omega) (by unfold fu;omega) h0
theorem HD {R:Type} {n:Nat} (hn:n<4611686018427387904) {r2:Option R} (m:Nat→Int→Option R)
  (hm:∀ f i,i<n→m (f+1) (i:Int)=m f ((i+1:Nat):Int)) (hz:∀ f,m (f+1) (n:Int)=r2):m fu 0=r2:=
 kQ (L:=λf (_:Unit) i=>m f i) hn (λ_ _=>True) (λf i _ hi _=> .inl ⟨(),ah,hm f i hi⟩) (λf _ _=>hz f) () trivial
theorem dm {α:Type} {l:List α} {i:Nat} {x:α} (h:l[i]? =some x):l.take (i+1)=l.take i++[x]:=by rw[List.take_add_one,h];rfl
theorem qJ {α:Type} {l:List α} {i:Nat} {x:α} (h:l[i]? =some x):l.drop i=x::l.drop (i+1):=by
 obtain⟨h1,h2⟩:=List.getElem?_eq_some_iff.1 h
 rw[List.drop_eq_getElem_cons h1,h2]
theorem cC {α:Type} {l:List α} {i:Nat} (h:i<l.length):∃ x,l[i]? =some x:=⟨l[i],by simp[h]⟩
def prd:List Nat→Nat
 | []=>1
 | x::d=>x * prd d
def off:List Nat→List Nat→Nat
 | _ ::d,q::p=>q * prd d+off d p
 | _,_=>0
def Pos (d:List Nat):Prop:=∀ x∈d,1≤x
end Go.Proofs.YtmhoikfoogemnaaGreatDoor
namespace Go.Proofs.YtmhoikfoogemnaaGreatDoor
open Go Go.RowKit Go.Vc
set_option linter.unusedVariables false
set_option linter.unusedSimpArgs false
theorem kw42:nj=no:=by kernel_rfl
def Ir:List (List UInt8):=(no).getD []
theorem y8:no=some Ir:=rfl
theorem Bl (l:List (List UInt8)) (v:List UInt8) (hl:l.length<4611686018427387904):dL l v=some (decide (v∈l)):=by
 obtain⟨r,h1,h2⟩:=qe (L:=λf (_:Unit) i=>bA l v f i) (n:=l.length) hl (λi _=>v∉l.take i) (λr=>decide (0≤r)=decide (v∈l))
  (λf i _ hi hI=>by
   obtain⟨x,hx⟩:=cC hi
   simp only[bA]
   rw[if_pos (bS hi),cD hx,Option.bind_some]
   by_cases hv:v=x
   ·right;refine⟨(i:Int),by rw[if_pos (by simpa using hv)],?_⟩
    rw[decide_eq_true (by omega),decide_eq_true (by rw[hv];exact List.mem_of_getElem? hx)]
   ·left;refine⟨(),?_,by rw[if_neg (by simpa using hv),nu (by omega)]⟩
    rw[dm hx];simp[hI,hv])
  (λf _ hI=>by
   rw[List.take_length]at hI
   simp only[bA]
   exact⟨-1,by rw[if_neg (by simp)],by rw[decide_eq_false hI];rfl⟩) () (by simp)
 unfold dL gB
 rw[show bA l v fu 0=some r from h1,Option.bind_some,h2]
theorem ER (l:List (List UInt8)) (v:List UInt8) (hl:l.length<4611686018427387904):o9 l v=some (decide (v∈l)):=by
 obtain⟨r,h1,h2⟩:=qe (L:=λf (_:Unit) i=>iP l v f i) (n:=l.length) hl (λi _=>v∉l.take i) (λr=>r=decide (v∈l))
  (λf i _ hi hI=>by
   obtain⟨x,hx⟩:=cC hi
   simp only[iP]
   rw[if_pos (bS hi),cD hx,Option.bind_some]
   by_cases hv:x=v
   ·right;refine⟨true,by rw[if_pos (by simpa using hv)],?_⟩
    rw[decide_eq_true (by rw[← hv];exact List.mem_of_getElem? hx)]
   ·left;refine⟨(),?_,by rw[if_neg (by simpa using hv),nu (by omega)]⟩
    rw[dm hx];simp[hI];exact λh=>hv h.symm)
  (λf _ hI=>by
   rw[List.take_length]at hI
   simp only[iP]
   exact⟨false,by rw[if_neg (by simp)],by rw[decide_eq_false hI]⟩) () (by simp)
 unfold o9
 rw[show iP l v fu 0=some r from h1,h2]
theorem FA (s:List UInt8):kz s=some (decide (s∈Ir)):=by
 unfold kz
 rw[kw42,y8,Option.bind_some,Bl _ _ (by decide),Option.bind_some]
end Go.Proofs.YtmhoikfoogemnaaGreatDoor
namespace Go.Proofs.YtmhoikfoogemnaaGreatDoor
open Go Go.RowKit Go.Vc
set_option linter.unusedVariables false
set_option linter.unusedSimpArgs false
def sQ (c:UInt8):Bool:=decide (97≤(c.toNat:Int))&&decide ((c.toNat:Int)≤122)
def iZ (c:UInt8):Bool:=sQ c||(decide (48≤(c.toNat:Int))&&decide ((c.toNat:Int)≤57))||decide ((c.toNat:Int)=95)
def gr (s:List UInt8):Bool:=(decide (s≠[])&&decide (s.length≤16))&&sQ (s.getD 0 0)&&s.all iZ&& !decide (s∈Ir)
theorem v7 (c:UInt8):sY (c.toNat:Int)=(c.toNat:Int):=Jf (p:=(c.toNat:Int)) ⟨by omega,by have:=c.toNat_lt;omega⟩
theorem gq {s:List UInt8} {i:Nat} {c:UInt8} (h:s[i]? =some c):sat s (i:Int)=some (c.toNat:Int):=by
 obtain⟨hi,_⟩:=List.getElem?_eq_some_iff.1 h
 unfold sat zb
 rw[if_pos (by omega),Int.toNat_natCast,List.getD_eq_getElem?_getD,h];rfl
theorem Fx (c:UInt8):iU (sY (c.toNat:Int))=some (sQ c):=by rw[v7];rfl
theorem FD (c:UInt8):eS (sY (c.toNat:Int))=some (iZ c):=by
 unfold eS
 rw[v7,show iU (c.toNat:Int)=some (sQ c)from rfl,Option.bind_some]
 unfold iZ
 cases sQ c<;>simp[gd,jC]
theorem H6 (s:List UInt8) (hs:s.length<4611686018427387904):∃ r,jv s eS=some r∧decide (r=(s.length:Int))=s.all iZ:=by
 refine qe (L:=λf (_:Unit) i=>fN s eS f i) (n:=s.length) hs (λi _=>(s.take i).all iZ=true) (λr=>decide (r=(s.length:Int))=s.all iZ) ?_ ?_ () (by simp)
 ·intro f i _ hi hI
  obtain⟨c,hc⟩:=cC hi
  simp only[fN]
  rw[bS hi]
  simp only[gd,if_true,gq hc,Option.bind_some,FD,Bool.true_and]
  by_cases hw:iZ c=true
  ·left;refine⟨(),?_,by rw[if_pos hw,nu (by omega)]⟩
   rw[dm hc,List.all_append,hI];simp[hw]
  ·right;refine⟨(i:Int),by rw[if_neg hw],?_⟩
   rw[decide_eq_false (by omega)]
   symm;rw[Bool.eq_false_iff];intro h
   exact hw (List.all_eq_true.1 h c (List.mem_of_getElem? hc))
 ·intro f _ hI
  rw[List.take_length]at hI
  refine⟨(s.length:Int),?_,by rw[hI];simp⟩
  simp only[fN]
  simp[gd]
theorem Ac (s:List UInt8) (hs:s.length<4611686018427387904):ig s=some (gr s):=by
 unfold ig gr
 cases s with
 | nil=>rfl
 | cons c t=>
  by_cases h16:(c::t).length≤16
  rotate_left
  ·have e:decide (((c::t).length:Int)≤16)=false:=by rw[decide_eq_false_iff_not];omega
   rw[e,decide_eq_false h16];simp[gd]
  have e:decide (((c::t).length:Int)≤16)=true:=by rw[decide_eq_true_iff];omega
  obtain⟨r,h1,h2⟩:=H6 (c::t) hs
  rw[e,decide_eq_true h16,show decide ((c::t)=([]:List UInt8))=false by simp,show sat (c::t) 0=some (c.toNat:Int)from gq (i:=0) rfl]
  simp only[gd,Bool.not_false,Bool.true_and,if_true,Option.bind_some,Fx,h1,FA]
  rw[show(c::t).getD 0 0=c from rfl,show decide ((c::t)≠[])=true by simp]
  cases hl:sQ c
  ·simp
  ·simp only[if_true,Option.bind_some,h2,Bool.true_and]
   cases (c::t).all iZ<;>simp
theorem BJ (s:List UInt8) (hs:s.length<4611686018427387904):iX s=some (gr s):=by
 unfold iX gr
 by_cases h:s.length<1∨16<s.length
 ·have e:(decide ((s.length:Int)<1)||decide (16<(s.length:Int)))=true:=by simp;omega
  rw[e]
  have e2:(decide (s≠[])&&decide (s.length≤16))=false:=by
   rcases h with h | h
   ·rw[List.length_eq_zero_iff.1 (show s.length=0 by omega)];rfl
   ·rw[decide_eq_false (show ¬ s.length≤16 by omega)];simp
  rw[e2];simp[gd]
 have e:(decide ((s.length:Int)<1)||decide (16<(s.length:Int)))=false:=by simp;omega
 have e2:(decide (s≠[])&&decide (s.length≤16))=true:=by
  have:s≠[]:=λh'=>by subst h';simp at h
  simp[this];omega
 rw[e,e2]
 simp only[gd,Bool.not_false,if_true,y8,Option.bind_some,ER Ir s (by decide),Bool.false_or,Bool.true_and]
 by_cases hk:s∈Ir
 ·simp[hk]
 rw[decide_eq_false hk]
 simp only[Bool.false_eq_true,if_false,Bool.not_false,Bool.and_true]
 obtain⟨r,h1,h2⟩:=qe (L:=λf (_:Unit) i=>ik s f i) (n:=s.length) hs (λi _=>(s.take i).all iZ=true∧(0<i→sQ (s.getD 0 0)=true)) (λr=>r=(sQ (s.getD 0 0)&&s.all iZ))
  (λf i _ hi ⟨hI,hJ⟩=>by
   obtain⟨c,hc⟩:=cC hi
   simp only[ik]
   rw[if_pos (bS hi),gq hc,Option.bind_some]
   rcases Nat.eq_zero_or_pos i with h0 | h0
   ·have hg:s.getD 0 0=c:=by rw[h0]at hc;rw[List.getD_eq_getElem?_getD,hc];rfl
    rw[show(decide (97≤(c.toNat:Int))&&decide ((c.toNat:Int)≤122))=sQ c from rfl,show decide ((0:Int)<(i:Int))=false by rw[decide_eq_false_iff_not];omega]
    cases hl:sQ c
    ·right;exact⟨false,by simp,by rw[hg,hl];rfl⟩
    ·left;refine⟨(),⟨?_,λ_=>by rw[hg,hl]⟩,by simp[nu (i:=i) (by omega)]⟩
     rw[dm hc,h0];simp[iZ,hl]
   ·rw[show(decide (97≤(c.toNat:Int))&&decide ((c.toNat:Int)≤122))=sQ c from rfl,show decide ((0:Int)<(i:Int))=true by simp;omega,Bool.true_and, ← Bool.or_assoc,show(sQ c||(decide (48≤(c.toNat:Int))&&decide ((c.toNat:Int)≤57))||decide ((c.toNat:Int)=95))=iZ c from rfl]
    cases hw:iZ c
    ·right;refine⟨false,by simp,?_⟩
     symm;rw[Bool.and_eq_false_iff];right;rw[Bool.eq_false_iff];intro h'
     have:=List.all_eq_true.1 h' c (List.mem_of_getElem? hc);rw[hw]at this;cases this
    ·left;refine⟨(),⟨?_,λ_=>hJ h0⟩,by simp[nu (i:=i) (by omega)]⟩
     rw[dm hc,List.all_append,hI];simp[hw])
  (λf _ ⟨hI,hJ⟩=>by
   rw[List.take_length]at hI
   simp only[ik]
   exact⟨true,by rw[if_neg (by simp)],by rw[hI,hJ (by omega)];rfl⟩) () (by simp)
 rw[show ik s fu 0=some r from h1,h2]
end Go.Proofs.YtmhoikfoogemnaaGreatDoor
