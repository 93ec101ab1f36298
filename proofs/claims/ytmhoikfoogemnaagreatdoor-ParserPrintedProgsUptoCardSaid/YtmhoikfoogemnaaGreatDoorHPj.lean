import Derived.Test.YtmhoikfoogemnaaGreatDoorHOp
import Derived.KernelRfl
namespace Go.Proofs.YtmhoikfoogemnaaGreatDoor
open Go Go.RowKit Go.Vc
set_option linter.unusedVariables false
set_option linter.unusedSimpArgs false
def pw (n:Int):Int:=2 ^ n.toNat
theorem vY {n:Int} (h:n≤30):1≤pw n∧pw n≤1073741824:=by
 unfold pw
 have h1:n.toNat≤30:=by omega
 have h2:(2:Nat) ^ n.toNat≤2 ^ 30:=Nat.pow_le_pow_right (by omega) h1
 have h3:1≤(2:Nat) ^ n.toNat:=Nat.one_le_two_pow
 have e:((2:Int) ^ n.toNat)=((2 ^ n.toNat:Nat):Int):=by simp
 rw[e]
 omega
theorem yJ {n:Int} (h0:0≤n) (h:n≤30):(2:Int) ^ (min (Int.toNat n) 64)=pw n:=by
 unfold pw
 congr 1
 omega
structure VaR (v:co):Prop where
 N:kX v.N
 D:kX v.D
theorem Ba {n:Int} (h:GY .i64 n):kX n:=Ng h
theorem VaR.of {v:co} (h:Ce v):VaR v:=⟨Ba h.1,Ba h.2⟩
def pF (t:bu):Bool:=
 if t.Kind=1∨t.Kind=3 then decide (t.Bits=0∧t.Frac=0∧t.Round=0∧t.Over=0)
 else decide (t.Kind=2∧2≤t.Bits∧t.Bits≤31∧0≤t.Frac∧t.Frac≤30∧1≤t.Round∧t.Round≤4∧(t.Over=1∨t.Over=2))
theorem pY (t:bu):jH t=some (pF t):=by
 unfold jH pF
 by_cases h1:t.Kind=1
 ·simp[h1];try simp only[Bool.decide_and,Bool.and_assoc]
 by_cases h3:t.Kind=3
 ·simp[h3];try simp only[Bool.decide_and,Bool.and_assoc]
 simp[h1,h3,Bool.and_assoc]
theorem DI (t:bu):mK t=some (decide (t.Bits=0∧t.Frac=0∧t.Round=0∧t.Over=0)):=by
 unfold mK
 simp[Bool.and_assoc]
theorem qq (t:bu):gk t=some (if t.Kind=2∧pF t=true then 0 else 10):=by
 unfold gk pF
 simp only[Option.bind_some]
 by_cases h2:t.Kind=2
 ·simp only[h2]
  by_cases h:2≤t.Bits∧t.Bits≤31∧0≤t.Frac∧t.Frac≤30∧1≤t.Round∧t.Round≤4∧(t.Over=1∨t.Over=2)
  ·obtain⟨a,b,c,d,e,f,g⟩:=h
   simp[a,b,c,d,e,f,g,Int.not_lt.2 a,Int.not_lt.2 b,Int.not_lt.2 c,Int.not_lt.2 d]
   omega
  ·rw[if_pos,if_neg]
   ·simpa using h
   ·simp only[Bool.or_eq_true,Bool.and_eq_true,decide_eq_true_eq,Bool.not_eq_true',decide_eq_false_iff_not,Bool.and_eq_false_iff,Bool.or_eq_false_iff]
    omega
 ·simp[h2]
theorem kL (t:bu):dR t=some (if pF t=true then 0 else 10):=by
 unfold dR gc
 simp only[DI,qq,Option.bind_some]
 unfold pF
 by_cases h1:t.Kind=1
 ·simp[h1];split<;>simp_all
 by_cases h3:t.Kind=3
 ·simp[h3];split<;>simp_all
 by_cases h2:t.Kind=2
 ·simp[h2,h1,h3];split<;>simp_all
 ·simp[h1,h2,h3]
theorem qN {t:bu} (h:pF t=true) (h2:t.Kind=2):2≤t.Bits∧t.Bits≤31∧0≤t.Frac∧t.Frac≤30∧1≤t.Round∧t.Round≤4∧(t.Over=1∨t.Over=2):=by
 unfold pF at h
 simpa[h2]using h
theorem tt {t:bu} (h:pF t=true):t.Kind=1∨t.Kind=2∨t.Kind=3:=by
 unfold pF at h
 split at h
 ·omega
 ·simp at h;omega
theorem Cv (m:Nat→Int→Int→Option Int) (hm:∀ f a b,m (f+1) a b=if(!decide (b=0))=true then(if b≠0 then m f b (Int.tmod a b)else none)else some a):
  ∀ (f:Nat) (a b:Int),0≤a→0≤b→b.toNat<f→m f a b=some (Int.gcd a b)
 | 0,_,_,_,_,h=>absurd h (by omega)
 | f+1,a,b,ha,hb,hf=>by
  rw[hm]
  by_cases h:b=0
  ·subst h
   simp
   omega
  ·have h1:0<b:=by omega
   have h2:Int.tmod a b=a % b:=Int.tmod_eq_emod_of_nonneg ha
   have h3:0≤a % b:=Int.emod_nonneg _ h
   have h4:a % b<b:=Int.emod_lt_of_pos _ h1
   simp only[h,decide_false,Bool.not_false,if_true,ne_eq,not_false_eq_true]
   rw[h2,Cv m hm f b (a % b) hb h3 (by omega)]
   congr 1
   have e:Int.gcd b (a % b)=Int.gcd a b:=by
    obtain⟨m,rfl⟩:=Int.eq_ofNat_of_zero_le ha
    obtain⟨k,rfl⟩:=Int.eq_ofNat_of_zero_le hb
    show Nat.gcd k ((m:Int) % (k:Int)).natAbs=Nat.gcd m k
    rw[show((m:Int) % (k:Int))=((m % k:Nat):Int)from rfl,Int.natAbs_natCast,Nat.gcd_comm m k,Nat.gcd_rec k m,Nat.gcd_comm]
   rw[e]
theorem Ks {a b:Int} (ha:0≤a) (hb:0≤b) (h:b≤18446744073709551615):si a b=some (Int.gcd a b:Int):=
 Cv lu (λ_ _ _=>rfl) fu a b ha hb (by unfold fu;omega)
theorem J4 {a b:Int} (ha:0≤a) (hb:0≤b) (h:b≤18446744073709551615):sf a b=some (Int.gcd a b:Int):=
 Cv lp (λ_ _ _=>rfl) fu a b ha hb (by unfold fu;omega)
theorem HM {a b:Int} (ha:0≤a) (hb:0≤b) (h:b≤18446744073709551615):qR a b=some (Int.gcd a b:Int):=
 Cv km (λ_ _ _=>rfl) fu a b ha hb (by unfold fu;omega)
def mA (v:co):Bool:=decide (1≤v.D∧v.D≤2147483647∧ -2147483647≤v.N∧v.N≤2147483647∧Int.gcd v.N v.D=1)
def wJ (t:bu) (v:co):Bool:=
 if t.Kind=2 then decide (v.D=1∧ -pw (t.Bits - 1)≤v.N∧v.N<pw (t.Bits - 1))
 else if t.Kind=3 then decide (v.D=1∧ -2147483647≤v.N∧v.N≤2147483647)
 else mA v
theorem wi {p:Int} (h:kX p):av p=p:=yv h
theorem wu {p:Int} (h:QO p):fi p=p:=Na h
theorem HB (n d:Int):Int.gcd (if n<0 then -n else n) d=Int.gcd n d:=by
 split
 ·rw[Int.neg_gcd]
 ·rfl
theorem zf {n:Int} (h:kX n):kq n=some (if n<0 then -n else n):=by
 obtain⟨h1,h2⟩:=h
 unfold kq
 by_cases hn:n<0
 ·simp only[hn,decide_true,if_true]
  congr 1
  simp[IntKind.wrap,IntKind.signed,IntKind.bits]
  omega
 ·simp only[hn,decide_false,Bool.false_eq_true,if_false]
  rw[wu ⟨by omega,by omega⟩]
theorem vn {v:co} (h:VaR v):mt v=some (mA v):=by
 unfold mt mA
 by_cases hd:1≤v.D∧v.D≤2147483647
 ·by_cases hn: -2147483647≤v.N∧v.N≤2147483647
  ·simp only[l9,gd,hd.1,hd.2,hn.1,hn.2,decide_true,Bool.and_self,if_true,Option.bind_some]
   rw[zf h.N,Option.bind_some,wu ⟨by omega,by omega⟩,J4 (by split<;>omega) (by omega) (by omega),Option.bind_some,HB]
   simp
   omega
  ·have e:(decide (-2147483647≤v.N)&&decide (v.N≤2147483647))=false:=by simpa[Int.not_le]using hn
   simp[l9,gd,hd.1,hd.2]
   have hn':¬ (-2147483647≤v.N∧v.N≤2147483647):=hn
   simp only[Bool.and_eq_true,decide_eq_true_eq,hn',if_false,Option.bind_some]
   simp
   intro h1 h2
   exact absurd ⟨h1,h2⟩ hn'
 ·have e:(decide (1≤v.D)&&decide (v.D≤2147483647))=false:=by simpa[Int.not_le]using hd
  simp only[gd,e,Bool.false_and,Bool.false_eq_true,if_false,Option.bind_some]
  simp
  intro h1 h2
  exact absurd ⟨h1,h2⟩ hd
theorem zZ {t:bu} {v:co} (ht:pF t=true) (h:VaR v):nt t v=some (wJ t v):=by
 unfold nt wJ
 obtain⟨n1,n2⟩:=h.N
 obtain⟨d1,d2⟩:=h.D
 by_cases h2:t.Kind=2
 ·obtain⟨a,b,c,d,e,f,g⟩:=qN ht h2
  have hb:av (t.Bits - 1)=t.Bits - 1:=wi ⟨by omega,by omega⟩
  have hp:=vY (n:=t.Bits - 1) (by omega)
  simp only[h2,decide_true,if_true,hb,show(0:Int)≤t.Bits - 1 by omega,yJ (n:=t.Bits - 1) (by omega) (by omega),Int.one_mul]
  rw[wi (p:=pw (t.Bits - 1)) ⟨by omega,by omega⟩,Option.bind_some,wi ⟨by omega,by omega⟩]
  simp[Bool.and_assoc]
 ·simp only[h2,decide_false,Bool.false_eq_true,if_false]
  by_cases hr:1≤v.D∧v.D≤2147483647∧ -2147483647≤v.N∧v.N≤2147483647
  ·obtain⟨r1,r2,r3,r4⟩:=hr
   rw[if_neg (by simp;omega)]
   by_cases h3:t.Kind=3
   ·simp[h3,r3,r4]
   ·simp only[h3,decide_false,Bool.false_eq_true,if_false]
    have hm:max v.N (av (-v.N))=if v.N<0 then -v.N else v.N:=by rw[wi ⟨by omega,by omega⟩];split<;>omega
    rw[hm,Ks (by split<;>omega) (by omega) (by omega),Option.bind_some,HB]
    simp[mA,r1,r2,r3,r4]
    omega
  ·rw[if_pos (by simp;omega)]
   by_cases h3:t.Kind=3
   ·simp[h3];omega
   ·simp[h3,mA];omega
theorem xq {b:Int} (h1:2≤b) (h2:b≤31):lk b=some true:=by
 unfold lk;simp[h1,h2]
theorem BW {b:Int} (h1:2≤b) (h2:b≤31):lO b=some (-pw (b - 1)):=by
 unfold lO
 have hb:av (b - 1)=b - 1:=wi ⟨by omega,by omega⟩
 have hp:=vY (n:=b - 1) (by omega)
 rw[xq h1 h2,hb,wu (p:=b - 1) ⟨by omega,by omega⟩,yJ (by omega) (by omega)]
 simp only[Option.bind_some,Bool.not_true,Bool.false_eq_true,if_false,Int.one_mul]
 rw[if_pos (by omega),wi (p:=pw (b - 1)) ⟨by omega,by omega⟩,wi ⟨by omega,by omega⟩]
theorem BX {b:Int} (h1:2≤b) (h2:b≤31):lP b=some (pw (b - 1) - 1):=by
 unfold lP
 have hb:av (b - 1)=b - 1:=wi ⟨by omega,by omega⟩
 have hp:=vY (n:=b - 1) (by omega)
 rw[xq h1 h2,hb,wu (p:=b - 1) ⟨by omega,by omega⟩,yJ (by omega) (by omega)]
 simp only[Option.bind_some,Bool.not_true,Bool.false_eq_true,if_false,Int.one_mul]
 rw[if_pos (by omega),wi (p:=pw (b - 1)) ⟨by omega,by omega⟩,wi ⟨by omega,by omega⟩]
theorem xI {t:bu} (v:co) (ht:pF t=true) (h2:t.Kind=2):lq t v=some (wJ t v):=by
 obtain⟨a,b,c,d,e,f,g⟩:=qN ht h2
 unfold lq wJ
 simp only[qq,h2,ht,and_self,if_true,Option.bind_some,decide_true,Bool.true_and,BW a b,BX a b]
 by_cases hd:v.D=1
 ·simp only[hd,decide_true,gd,Bool.true_and,if_true,Option.bind_some]
  by_cases hn: -pw (t.Bits - 1)≤v.N
  ·simp only[hn,decide_true,if_true,Option.bind_some,Bool.true_and,true_and]
   simp;omega
  ·simp[hn]
 ·simp[hd,gd]
theorem DJ {t:bu} {v:co} (h:VaR v):mL t v=some (pF t&&wJ t v):=by
 unfold mL
 rw[kL]
 cases ht:pF t
 ·rfl
 ·simp only[if_true,Option.bind_some,decide_true,Bool.not_true,Bool.false_eq_true,if_false,Bool.true_and]
  by_cases h2:t.Kind=2
  ·simp[h2,xI v ht h2]
  ·by_cases h3:t.Kind=3
   ·simp only[h2,h3,decide_false,decide_true,Bool.false_eq_true,if_false,if_true,oQ,gd,wJ]
    by_cases hd:v.D=1
    ·simp[hd]
    ·simp[hd]
   ·simp only[h2,h3,decide_false,Bool.false_eq_true,if_false,vn h,Option.bind_some,wJ]
theorem D8 {t:bu} {v:co} (h:VaR v):mW t v=some (pF t&&wJ t v):=by
 unfold mW
 rw[pY]
 cases ht:pF t
 ·rfl
 ·simp only[Option.bind_some,gd,if_true,zZ ht h,Bool.true_and]
end Go.Proofs.YtmhoikfoogemnaaGreatDoor
namespace Go.Proofs.YtmhoikfoogemnaaGreatDoor
open Go Go.RowKit Go.Vc
set_option linter.unusedVariables false
set_option linter.unusedSimpArgs false
theorem Ft {t:bu} (h:0≤t.Frac) (h':t.Frac≤30):nY t=some (pw t.Frac):=by
 have hp:=vY (n:=t.Frac) h'
 unfold nY
 rw[wu (p:=t.Frac) ⟨by omega,by omega⟩,if_pos h,yJ h h',Int.one_mul,wi ⟨by omega,by omega⟩]
end Go.Proofs.YtmhoikfoogemnaaGreatDoor
namespace Go.Proofs.YtmhoikfoogemnaaGreatDoor
open Go Go.RowKit Go.Vc
set_option linter.unusedVariables false
set_option linter.unusedSimpArgs false
theorem wiwu {x:Int} (h:kX x):av (fi x)=x:=by
 obtain⟨h1,h2⟩:=h
 simp[IntKind.wrap,IntKind.signed,IntKind.bits]
 omega
theorem Mp {x y c:Int} (h:kX y) (e:x=y+c * 18446744073709551616):av x=y:=by
 obtain⟨h1,h2⟩:=h
 simp[IntKind.wrap,IntKind.signed,IntKind.bits]
 omega
theorem Af {n d:Int} (hd:0<d) (hn:n<0):Int.tdiv n d= -((-n) / d):=by
 rw[show n= -(-n)by omega,Int.neg_tdiv,Int.tdiv_eq_ediv_of_nonneg (by omega),Int.neg_neg]
theorem La {n d:Int} (hd:0<d):(0≤n→0≤Int.tdiv n d∧Int.tdiv n d≤n∧0≤Int.tdiv n d * d∧Int.tdiv n d * d≤n)∧(n<0→n≤Int.tdiv n d∧Int.tdiv n d≤0∧n≤Int.tdiv n d * d∧Int.tdiv n d * d≤0):=by
 constructor
 ·intro h
  rw[Int.tdiv_eq_ediv_of_nonneg h]
  have e:=Int.mul_ediv_add_emod n d
  have h1:=Int.emod_nonneg n (by omega:d≠0)
  have h2:=Int.ediv_nonneg h (by omega:0≤d)
  have h3:=Int.mul_le_mul_of_nonneg_left (show(1:Int)≤d by omega) h2
  rw[Int.mul_comm]at e
  omega
 ·intro h
  rw[Af hd h]
  have e:=Int.mul_ediv_add_emod (-n) d
  have h1:=Int.emod_nonneg (-n) (by omega:d≠0)
  have h2:=Int.ediv_nonneg (show 0≤ -n by omega) (by omega:0≤d)
  have h3:=Int.mul_le_mul_of_nonneg_left (show(1:Int)≤d by omega) h2
  rw[Int.mul_comm]at e
  rw[Int.neg_mul]
  omega
def rnd (n d how:Int):Int:=
 if n % d=0∨how=1 then n / d
 else if how=2 then n / d+1
 else if how=3 then(if n<0 then n / d+1 else n / d)
 else if d - n % d<n % d∨(d - n % d=n % d∧(n / d) % 2≠0)then n / d+1 else n / d
def P0 (a b:Int) (neg:Bool) (how:Int):Prop:=(a % b=0∨how=3)∨(how=1∧neg=false)∨(how=2∧neg=true)∨(how=4∧(2 * (a % b)<b∨(2 * (a % b)=b∧(a / b) % 2=0)))
instance {a b:Int} {neg:Bool} {how:Int} :Decidable (P0 a b neg how):=by unfold P0;infer_instance
end Go.Proofs.YtmhoikfoogemnaaGreatDoor
namespace Go.Proofs.YtmhoikfoogemnaaGreatDoor
open Go Go.RowKit Go.Vc
set_option linter.unusedVariables false
set_option linter.unusedSimpArgs false
end Go.Proofs.YtmhoikfoogemnaaGreatDoor
namespace Go.Proofs.YtmhoikfoogemnaaGreatDoor
open Go Go.RowKit Go.Vc
set_option linter.unusedVariables false
set_option linter.unusedSimpArgs false
theorem OH {x y:Int} {B:Nat} (hx: -(B:Int)≤x∧x≤B) (hy: -(B:Int)≤y∧y≤B): -((B * B:Nat):Int)≤x * y∧x * y≤((B * B:Nat):Int):=by
 have h1:x.natAbs≤B:=by omega
 have h2:y.natAbs≤B:=by omega
 have h3:=Nat.mul_le_mul h1 h2
 rw[← Int.natAbs_mul]at h3
 omega
theorem Cd {t:bu} {v:co} (ht:pF t=true) (h2:t.Kind=2) (h:wJ t v=true):v.D=1∧ -1073741824≤v.N∧v.N≤1073741824:=by
 obtain⟨a,b,c,d,e,f,g⟩:=qN ht h2
 have hp:=vY (n:=t.Bits - 1) (by omega)
 unfold wJ at h
 simp[h2]at h
 omega
theorem GX {t:bu} {v:co} (h3:t.Kind=3) (h:wJ t v=true):v.D=1∧ -2147483647≤v.N∧v.N≤2147483647:=by
 unfold wJ at h
 simpa[h3]using h
theorem OC {t:bu} {v:co} (h1:t.Kind=1) (h:wJ t v=true):mA v=true:=by
 unfold wJ at h
 simpa[h1]using h
theorem Hj {v:co} (hD:v.D=1) (hN: -2147483647≤v.N∧v.N≤2147483647):mA v=true:=by
 unfold mA;simp[hD,hN]
theorem LU {t:bu} {v:co} (ht:pF t=true) (h:wJ t v=true):mA v=true:=by
 rcases tt ht with k | k | k
 ·exact OC k h
 ·obtain⟨h1,h2,h3⟩:=Cd ht k h;exact Hj h1 ⟨by omega,by omega⟩
 ·obtain⟨h1,h2,h3⟩:=GX k h;exact Hj h1 ⟨by omega,by omega⟩
theorem oX {v:co} (h:mA v=true):1≤v.D∧v.D≤2147483647∧ -2147483647≤v.N∧v.N≤2147483647∧Int.gcd v.N v.D=1:=by
 unfold mA at h;simpa using h
theorem LY {d n m:Int} (h:d∣n * m) (hg:Int.gcd d n=1):d∣m:=by
 rw[← Int.natAbs_dvd_natAbs]at h ⊢
 rw[Int.natAbs_mul]at h
 exact Nat.Coprime.dvd_of_dvd_mul_left hg h
def ord (a b:Int):Int:=if a<b then -1 else if b<a then 1 else 0
theorem xu {v:co} (h:VaR v):mX v=some (mA v):=by
 unfold mX
 rw[zZ (by rfl) h]
 rfl
theorem Qx {v:co} (h:mA v=true):VaR v:=by
 obtain⟨a1,a2,a3,a4,a5⟩:=oX h
 exact⟨⟨by omega,by omega⟩,by omega,by omega⟩
end Go.Proofs.YtmhoikfoogemnaaGreatDoor
namespace Go.Proofs.YtmhoikfoogemnaaGreatDoor
open Go Go.RowKit Go.Vc
set_option linter.unusedVariables false
set_option linter.unusedSimpArgs false
end Go.Proofs.YtmhoikfoogemnaaGreatDoor
namespace Go.Proofs.YtmhoikfoogemnaaGreatDoor
open Go Go.RowKit Go.Vc
set_option linter.unusedVariables false
set_option linter.unusedSimpArgs false
end Go.Proofs.YtmhoikfoogemnaaGreatDoor
namespace Go.Proofs.YtmhoikfoogemnaaGreatDoor
open Go Go.RowKit Go.Vc
set_option linter.unusedVariables false
set_option linter.unusedSimpArgs false
end Go.Proofs.YtmhoikfoogemnaaGreatDoor
namespace Go.Proofs.YtmhoikfoogemnaaGreatDoor
open Go Go.RowKit Go.Vc
set_option linter.unusedVariables false
set_option linter.unusedSimpArgs false
def leq (op:Int) (x y:co):Prop:=if op=9 then x.N * y.D≤y.N * x.D else y.N * x.D≤x.N * y.D
end Go.Proofs.YtmhoikfoogemnaaGreatDoor
namespace Go.Proofs.YtmhoikfoogemnaaGreatDoor
open Go Go.RowKit Go.Vc
set_option linter.unusedVariables false
set_option linter.unusedSimpArgs false
end Go.Proofs.YtmhoikfoogemnaaGreatDoor
