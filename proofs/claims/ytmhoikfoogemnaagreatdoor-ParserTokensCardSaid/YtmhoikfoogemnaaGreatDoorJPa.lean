import Derived.Test.YtmhoikfoogemnaaGreatDoorJShelf
import Derived.KernelRfl
namespace Go.Proofs.YtmhoikfoogemnaaGreatDoor
open Go Go.RowKit Go.Vc
set_option linter.unusedVariables false
set_option linter.unusedSimpArgs false
def pw (n:Int):Int:=2 ^ n.toNat
theorem vn {n:Int} (h:n≤30):1≤pw n∧pw n≤1073741824:=by
 unfold pw
 have h1:n.toNat≤30:=by omega
 have h2:(2:Nat) ^ n.toNat≤2 ^ 30:=Nat.pow_le_pow_right (by omega) h1
 have h3:1≤(2:Nat) ^ n.toNat:=Nat.one_le_two_pow
 have e:((2:Int) ^ n.toNat)=((2 ^ n.toNat:Nat):Int):=by simp
 rw[e]
 omega
theorem vm {n:Int} (h0:0≤n) (h:n≤30):(2:Int) ^ (min (Int.toNat n) 64)=pw n:=by
 unfold pw
 congr 1
 omega
structure VaR (v:GVal):Prop where
 N:kh v.N
 D:kh v.D
theorem Ff {n:Int} (h:okI .i64 n):kh n:=FA h
theorem VaR.of {v:GVal} (h:okGVal v):VaR v:=⟨Ff h.1,Ff h.2⟩
def qW (t:GType):Bool:=
 if t.Kind=1∨t.Kind=3 then decide (t.Bits=0∧t.Frac=0∧t.Round=0∧t.Over=0)
 else decide (t.Kind=2∧2≤t.Bits∧t.Bits≤31∧0≤t.Frac∧t.Frac≤30∧1≤t.Round∧t.Round≤4∧(t.Over=1∨t.Over=2))
theorem tM (t:GType):lH t=some (qW t):=by
 unfold lH qW
 by_cases h1:t.Kind=1
 ·simp[h1];try simp only[Bool.decide_and,Bool.and_assoc]
 by_cases h3:t.Kind=3
 ·simp[h3];try simp only[Bool.decide_and,Bool.and_assoc]
 simp[h1,h3,Bool.and_assoc]
theorem yZ (t:GType):l9 t=some (decide (t.Bits=0∧t.Frac=0∧t.Round=0∧t.Over=0)):=by
 unfold l9
 simp[Bool.and_assoc]
theorem oz (t:GType):fM t=some (if t.Kind=2∧qW t=true then 0 else 10):=by
 unfold fM qW
 simp only[Option.bind_some]
 by_cases h2:t.Kind=2
 ·simp only[h2]
  by_cases h:2≤t.Bits∧t.Bits≤31∧0≤t.Frac∧t.Frac≤30∧1≤t.Round∧t.Round≤4∧(t.Over=1∨t.Over=2)
  ·obtain⟨a,b,c,d,e,f,g⟩:=h
   simp[a,b,c,d,e,f,g,Int.not_lt.2 a,Int.not_lt.2 b,Int.not_lt.2 c,Int.not_lt.2 d]
   omega
  ·rw[if_pos,if_neg]
   ·simpa using h
   ·simp only[Bool.or_eq_true,Bool.and_eq_true,decide_eq_true_eq,Bool.not_eq_true',decide_eq_false_iff_not,Bool.and_eq_false_iff,Bool.or_eq_false_iff]
    omega
 ·simp[h2]
theorem kq (t:GType):dz t=some (if qW t=true then 0 else 10):=by
 unfold dz fH
 simp only[yZ,oz,Option.bind_some]
 unfold qW
 by_cases h1:t.Kind=1
 ·simp[h1];split<;>simp_all
 by_cases h3:t.Kind=3
 ·simp[h3];split<;>simp_all
 by_cases h2:t.Kind=2
 ·simp[h2,h1,h3];split<;>simp_all
 ·simp[h1,h2,h3]
theorem uH {t:GType} (h:qW t=true) (h2:t.Kind=2):2≤t.Bits∧t.Bits≤31∧0≤t.Frac∧t.Frac≤30∧1≤t.Round∧t.Round≤4∧(t.Over=1∨t.Over=2):=by
 unfold qW at h
 simpa[h2]using h
theorem y8 {t:GType} (h:qW t=true):t.Kind=1∨t.Kind=2∨t.Kind=3:=by
 unfold qW at h
 split at h
 ·omega
 ·simp at h;omega
theorem yb (m:Nat→Int→Int→Option Int) (hm:∀ f a b,m (f+1) a b=if(!decide (b=0))=true then(if b≠0 then m f b (Int.tmod a b)else none)else some a):
  ∀ (f:Nat) (a b:Int),0≤a→0≤b→b.toNat<f→m f a b=some (Int.gcd a b)
 | 0,_,_,_,_,h=>absurd h (by omega)
 | f+1,a,b,ha,hb,hf=>by
  rw[hm]
  by_cases h:b=0
  ·subst h
   simp
   omega
  ·have h1:0<b:=by omega
   have h2:Int.tmod a b=a % b:=Int.tmod_eq_emod_of_nonneg ha
   have h3:0≤a % b:=Int.emod_nonneg _ h
   have h4:a % b<b:=Int.emod_lt_of_pos _ h1
   simp only[h,decide_false,Bool.not_false,if_true,ne_eq,not_false_eq_true]
   rw[h2,yb m hm f b (a % b) hb h3 (by omega)]
   congr 1
   have e:Int.gcd b (a % b)=Int.gcd a b:=by
    obtain⟨m,rfl⟩:=Int.eq_ofNat_of_zero_le ha
    obtain⟨k,rfl⟩:=Int.eq_ofNat_of_zero_le hb
    show Nat.gcd k ((m:Int) % (k:Int)).natAbs=Nat.gcd m k
    rw[show((m:Int) % (k:Int))=((m % k:Nat):Int)from rfl,Int.natAbs_natCast,Nat.gcd_comm m k,Nat.gcd_rec k m,Nat.gcd_comm]
   rw[e]
theorem DX {a b:Int} (ha:0≤a) (hb:0≤b) (h:b≤18446744073709551615):pP a b=some (Int.gcd a b:Int):=
 yb kV (fun _ _ _=>rfl) fu a b ha hb (by unfold fu;omega)
theorem DN {a b:Int} (ha:0≤a) (hb:0≤b) (h:b≤18446744073709551615):pN a b=some (Int.gcd a b:Int):=
 yb kS (fun _ _ _=>rfl) fu a b ha hb (by unfold fu;omega)
theorem BR {a b:Int} (ha:0≤a) (hb:0≤b) (h:b≤18446744073709551615):oT a b=some (Int.gcd a b:Int):=
 yb jX (fun _ _ _=>rfl) fu a b ha hb (by unfold fu;omega)
def oL (v:GVal):Bool:=decide (1≤v.D∧v.D≤2147483647∧ -2147483647≤v.N∧v.N≤2147483647∧Int.gcd v.N v.D=1)
def Az (t:GType) (v:GVal):Bool:=
 if t.Kind=2 then decide (v.D=1∧ -pw (t.Bits - 1)≤v.N∧v.N<pw (t.Bits - 1))
 else if t.Kind=3 then decide (v.D=1∧ -2147483647≤v.N∧v.N≤2147483647)
 else oL v
theorem wi {p:Int} (h:kh p):aq p=p:=xK h
theorem wu {p:Int} (h:Hw p):ki p=p:=Fx h
theorem yK (n d:Int):Int.gcd (if n<0 then -n else n) d=Int.gcd n d:=by
 split
 ·rw[Int.neg_gcd]
 ·rfl
theorem vP {n:Int} (h:kh n):j0 n=some (if n<0 then -n else n):=by
 obtain⟨h1,h2⟩:=h
 unfold j0
 by_cases hn:n<0
 ·simp only[hn,decide_true,if_true]
  congr 1
  simp[IntKind.wrap,IntKind.signed,IntKind.bits]
  omega
 ·simp only[hn,decide_false,Bool.false_eq_true,if_false]
  rw[wu ⟨by omega,by omega⟩]
theorem rU {v:GVal} (h:VaR v):l0 v=some (oL v):=by
 unfold l0 oL
 by_cases hd:1≤v.D∧v.D≤2147483647
 ·by_cases hn: -2147483647≤v.N∧v.N≤2147483647
  ·simp only[lF,gd,hd.1,hd.2,hn.1,hn.2,decide_true,Bool.and_self,if_true,Option.bind_some]
   rw[vP h.N,Option.bind_some,wu ⟨by omega,by omega⟩,DN (by split<;>omega) (by omega) (by omega),Option.bind_some,yK]
   simp
   omega
  ·have e:(decide (-2147483647≤v.N)&&decide (v.N≤2147483647))=false:=by simpa[Int.not_le]using hn
   simp[lF,gd,hd.1,hd.2]
   have hn':¬ (-2147483647≤v.N∧v.N≤2147483647):=hn
   simp only[Bool.and_eq_true,decide_eq_true_eq,hn',if_false,Option.bind_some]
   simp
   intro h1 h2
   exact absurd ⟨h1,h2⟩ hn'
 ·have e:(decide (1≤v.D)&&decide (v.D≤2147483647))=false:=by simpa[Int.not_le]using hd
  simp only[gd,e,Bool.false_and,Bool.false_eq_true,if_false,Option.bind_some]
  simp
  intro h1 h2
  exact absurd ⟨h1,h2⟩ hd
theorem Ab {t:GType} {v:GVal} (ht:qW t=true) (h:VaR v):ny t v=some (Az t v):=by
 unfold ny Az
 obtain⟨n1,n2⟩:=h.N
 obtain⟨d1,d2⟩:=h.D
 by_cases h2:t.Kind=2
 ·obtain⟨a,b,c,d,e,f,g⟩:=uH ht h2
  have hb:aq (t.Bits - 1)=t.Bits - 1:=wi ⟨by omega,by omega⟩
  have hp:=vn (n:=t.Bits - 1) (by omega)
  simp only[h2,decide_true,if_true,hb,show(0:Int)≤t.Bits - 1 by omega,vm (n:=t.Bits - 1) (by omega) (by omega),Int.one_mul]
  rw[wi (p:=pw (t.Bits - 1)) ⟨by omega,by omega⟩,Option.bind_some,wi ⟨by omega,by omega⟩]
  simp[Bool.and_assoc]
 ·simp only[h2,decide_false,Bool.false_eq_true,if_false]
  by_cases hr:1≤v.D∧v.D≤2147483647∧ -2147483647≤v.N∧v.N≤2147483647
  ·obtain⟨r1,r2,r3,r4⟩:=hr
   rw[if_neg (by simp;omega)]
   by_cases h3:t.Kind=3
   ·simp[h3,r3,r4]
   ·simp only[h3,decide_false,Bool.false_eq_true,if_false]
    have hm:max v.N (aq (-v.N))=if v.N<0 then -v.N else v.N:=by rw[wi ⟨by omega,by omega⟩];split<;>omega
    rw[hm,DX (by split<;>omega) (by omega) (by omega),Option.bind_some,yK]
    simp[oL,r1,r2,r3,r4]
    omega
  ·rw[if_pos (by simp;omega)]
   by_cases h3:t.Kind=3
   ·simp[h3];omega
   ·simp[h3,oL];omega
theorem tS {b:Int} (h1:2≤b) (h2:b≤31):kO b=some true:=by
 unfold kO;simp[h1,h2]
theorem xT {b:Int} (h1:2≤b) (h2:b≤31):ln b=some (-pw (b - 1)):=by
 unfold ln
 have hb:aq (b - 1)=b - 1:=wi ⟨by omega,by omega⟩
 have hp:=vn (n:=b - 1) (by omega)
 rw[tS h1 h2,hb,wu (p:=b - 1) ⟨by omega,by omega⟩,vm (by omega) (by omega)]
 simp only[Option.bind_some,Bool.not_true,Bool.false_eq_true,if_false,Int.one_mul]
 rw[if_pos (by omega),wi (p:=pw (b - 1)) ⟨by omega,by omega⟩,wi ⟨by omega,by omega⟩]
theorem xU {b:Int} (h1:2≤b) (h2:b≤31):lp b=some (pw (b - 1) - 1):=by
 unfold lp
 have hb:aq (b - 1)=b - 1:=wi ⟨by omega,by omega⟩
 have hp:=vn (n:=b - 1) (by omega)
 rw[tS h1 h2,hb,wu (p:=b - 1) ⟨by omega,by omega⟩,vm (by omega) (by omega)]
 simp only[Option.bind_some,Bool.not_true,Bool.false_eq_true,if_false,Int.one_mul]
 rw[if_pos (by omega),wi (p:=pw (b - 1)) ⟨by omega,by omega⟩,wi ⟨by omega,by omega⟩]
theorem ua {t:GType} (v:GVal) (ht:qW t=true) (h2:t.Kind=2):kT t v=some (Az t v):=by
 obtain⟨a,b,c,d,e,f,g⟩:=uH ht h2
 unfold kT Az
 simp only[oz,h2,ht,and_self,if_true,Option.bind_some,decide_true,Bool.true_and,xT a b,xU a b]
 by_cases hd:v.D=1
 ·simp only[hd,decide_true,gd,Bool.true_and,if_true,Option.bind_some]
  by_cases hn: -pw (t.Bits - 1)≤v.N
  ·simp only[hn,decide_true,if_true,Option.bind_some,Bool.true_and,true_and]
   simp;omega
  ·simp[hn]
 ·simp[hd,gd]
theorem y6 {t:GType} {v:GVal} (h:VaR v):ma t v=some (qW t&&Az t v):=by
 unfold ma
 rw[kq]
 cases ht:qW t
 ·rfl
 ·simp only[if_true,Option.bind_some,decide_true,Bool.not_true,Bool.false_eq_true,if_false,Bool.true_and]
  by_cases h2:t.Kind=2
  ·simp[h2,ua v ht h2]
  ·by_cases h3:t.Kind=3
   ·simp only[h2,h3,decide_false,decide_true,Bool.false_eq_true,if_false,if_true,nG,gd,Az]
    by_cases hd:v.D=1
    ·simp[hd]
    ·simp[hd]
   ·simp only[h2,h3,decide_false,Bool.false_eq_true,if_false,rU h,Option.bind_some,Az]
end Go.Proofs.YtmhoikfoogemnaaGreatDoor
