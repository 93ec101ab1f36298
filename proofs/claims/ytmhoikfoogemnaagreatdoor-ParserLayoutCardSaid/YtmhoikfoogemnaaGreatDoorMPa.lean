import Derived.Test.YtmhoikfoogemnaaGreatDoorMShelf
import Derived.KernelRfl
namespace Go.Proofs.YtmhoikfoogemnaaGreatDoor
open Go Go.RowKit Go.Vc
set_option linter.unusedVariables false
set_option linter.unusedSimpArgs false
def pw (n:Int):Int:=2 ^ n.toNat
theorem uu {n:Int} (h:n≤30):1≤pw n∧pw n≤1073741824:=by
 unfold pw
 have h1:n.toNat≤30:=by omega
 have h2:(2:Nat) ^ n.toNat≤2 ^ 30:=Nat.pow_le_pow_right (by omega) h1
 have h3:1≤(2:Nat) ^ n.toNat:=Nat.one_le_two_pow
 have e:((2:Int) ^ n.toNat)=((2 ^ n.toNat:Nat):Int):=by simp
 rw[e]
 omega
theorem ut {n:Int} (h0:0≤n) (h:n≤30):(2:Int) ^ (min (Int.toNat n) 64)=pw n:=by
 unfold pw
 congr 1
 omega
structure VaR (v:GVal):Prop where
 N:jO v.N
 D:jO v.D
theorem E4 {n:Int} (h:okI .i64 n):jO n:=Fp h
theorem VaR.of {v:GVal} (h:okGVal v):VaR v:=⟨E4 h.1,E4 h.2⟩
def pY (t:GType):Bool:=
 if t.Kind=1∨t.Kind=3 then decide (t.Bits=0∧t.Frac=0∧t.Round=0∧t.Over=0)
 else decide (t.Kind=2∧2≤t.Bits∧t.Bits≤31∧0≤t.Frac∧t.Frac≤30∧1≤t.Round∧t.Round≤4∧(t.Over=1∨t.Over=2))
theorem sF (t:GType):mQ t=some (pY t):=by
 unfold mQ pY
 by_cases h1:t.Kind=1
 ·simp[h1];try simp only[Bool.decide_and,Bool.and_assoc]
 by_cases h3:t.Kind=3
 ·simp[h3];try simp only[Bool.decide_and,Bool.and_assoc]
 simp[h1,h3,Bool.and_assoc]
theorem xY (t:GType):li t=some (decide (t.Bits=0∧t.Frac=0∧t.Round=0∧t.Over=0)):=by
 unfold li
 simp[Bool.and_assoc]
theorem nz (t:GType):fw t=some (if t.Kind=2∧pY t=true then 0 else 10):=by
 unfold fw pY
 simp only[Option.bind_some]
 by_cases h2:t.Kind=2
 ·simp only[h2]
  by_cases h:2≤t.Bits∧t.Bits≤31∧0≤t.Frac∧t.Frac≤30∧1≤t.Round∧t.Round≤4∧(t.Over=1∨t.Over=2)
  ·obtain⟨a,b,c,d,e,f,g⟩:=h
   simp[a,b,c,d,e,f,g,Int.not_lt.2 a,Int.not_lt.2 b,Int.not_lt.2 c,Int.not_lt.2 d]
   omega
  ·rw[if_pos,if_neg]
   ·simpa using h
   ·simp only[Bool.or_eq_true,Bool.and_eq_true,decide_eq_true_eq,Bool.not_eq_true',decide_eq_false_iff_not,Bool.and_eq_false_iff,Bool.or_eq_false_iff]
    omega
 ·simp[h2]
theorem jS (t:GType):dh t=some (if pY t=true then 0 else 10):=by
 unfold dh fm
 simp only[xY,nz,Option.bind_some]
 unfold pY
 by_cases h1:t.Kind=1
 ·simp[h1];split<;>simp_all
 by_cases h3:t.Kind=3
 ·simp[h3];split<;>simp_all
 by_cases h2:t.Kind=2
 ·simp[h2,h1,h3];split<;>simp_all
 ·simp[h1,h2,h3]
theorem tO {t:GType} (h:pY t=true) (h2:t.Kind=2):2≤t.Bits∧t.Bits≤31∧0≤t.Frac∧t.Frac≤30∧1≤t.Round∧t.Round≤4∧(t.Over=1∨t.Over=2):=by
 unfold pY at h
 simpa[h2]using h
theorem x6 {t:GType} (h:pY t=true):t.Kind=1∨t.Kind=2∨t.Kind=3:=by
 unfold pY at h
 split at h
 ·omega
 ·simp at h;omega
theorem xf (m:Nat→Int→Int→Option Int) (hm:∀ f a b,m (f+1) a b=if(!decide (b=0))=true then(if b≠0 then m f b (Int.tmod a b)else none)else some a):
  ∀ (f:Nat) (a b:Int),0≤a→0≤b→b.toNat<f→m f a b=some (Int.gcd a b)
 | 0,_,_,_,_,h=>absurd h (by omega)
 | f+1,a,b,ha,hb,hf=>by
  rw[hm]
  by_cases h:b=0
  ·subst h
   simp
   omega
  ·have h1:0<b:=by omega
   have h2:Int.tmod a b=a % b:=Int.tmod_eq_emod_of_nonneg ha
   have h3:0≤a % b:=Int.emod_nonneg _ h
   have h4:a % b<b:=Int.emod_lt_of_pos _ h1
   simp only[h,decide_false,Bool.not_false,if_true,ne_eq,not_false_eq_true]
   rw[h2,xf m hm f b (a % b) hb h3 (by omega)]
   congr 1
   have e:Int.gcd b (a % b)=Int.gcd a b:=by
    obtain⟨m,rfl⟩:=Int.eq_ofNat_of_zero_le ha
    obtain⟨k,rfl⟩:=Int.eq_ofNat_of_zero_le hb
    show Nat.gcd k ((m:Int) % (k:Int)).natAbs=Nat.gcd m k
    rw[show((m:Int) % (k:Int))=((m % k:Nat):Int)from rfl,Int.natAbs_natCast,Nat.gcd_comm m k,Nat.gcd_rec k m,Nat.gcd_comm]
   rw[e]
theorem DE {a b:Int} (ha:0≤a) (hb:0≤b) (h:b≤18446744073709551615):uE a b=some (Int.gcd a b:Int):=
 xf oh (fun _ _ _=>rfl) fu a b ha hb (by unfold fu;omega)
theorem Du {a b:Int} (ha:0≤a) (hb:0≤b) (h:b≤18446744073709551615):oW a b=some (Int.gcd a b:Int):=
 xf kh (fun _ _ _=>rfl) fu a b ha hb (by unfold fu;omega)
theorem Be {a b:Int} (ha:0≤a) (hb:0≤b) (h:b≤18446744073709551615):sX a b=some (Int.gcd a b:Int):=
 xf ny (fun _ _ _=>rfl) fu a b ha hb (by unfold fu;omega)
def nN (v:GVal):Bool:=decide (1≤v.D∧v.D≤2147483647∧ -2147483647≤v.N∧v.N≤2147483647∧Int.gcd v.N v.D=1)
def zC (t:GType) (v:GVal):Bool:=
 if t.Kind=2 then decide (v.D=1∧ -pw (t.Bits - 1)≤v.N∧v.N<pw (t.Bits - 1))
 else if t.Kind=3 then decide (v.D=1∧ -2147483647≤v.N∧v.N≤2147483647)
 else nN v
theorem wi {p:Int} (h:jO p):az p=p:=wy h
theorem wu {p:Int} (h:H1 p):iK p=p:=Fk h
theorem xK (n d:Int):Int.gcd (if n<0 then -n else n) d=Int.gcd n d:=by
 split
 ·rw[Int.neg_gcd]
 ·rfl
theorem uP {n:Int} (h:jO n):jG n=some (if n<0 then -n else n):=by
 obtain⟨h1,h2⟩:=h
 unfold jG
 by_cases hn:n<0
 ·simp only[hn,decide_true,if_true]
  congr 1
  simp[IntKind.wrap,IntKind.signed,IntKind.bits]
  omega
 ·simp only[hn,decide_false,Bool.false_eq_true,if_false]
  rw[wu ⟨by omega,by omega⟩]
theorem qR {v:GVal} (h:VaR v):k9 v=some (nN v):=by
 unfold k9 nN
 by_cases hd:1≤v.D∧v.D≤2147483647
 ·by_cases hn: -2147483647≤v.N∧v.N≤2147483647
  ·simp only[kL,gd,hd.1,hd.2,hn.1,hn.2,decide_true,Bool.and_self,if_true,Option.bind_some]
   rw[uP h.N,Option.bind_some,wu ⟨by omega,by omega⟩,Du (by split<;>omega) (by omega) (by omega),Option.bind_some,xK]
   simp
   omega
  ·have e:(decide (-2147483647≤v.N)&&decide (v.N≤2147483647))=false:=by simpa[Int.not_le]using hn
   simp[kL,gd,hd.1,hd.2]
   have hn':¬ (-2147483647≤v.N∧v.N≤2147483647):=hn
   simp only[Bool.and_eq_true,decide_eq_true_eq,hn',if_false,Option.bind_some]
   simp
   intro h1 h2
   exact absurd ⟨h1,h2⟩ hn'
 ·have e:(decide (1≤v.D)&&decide (v.D≤2147483647))=false:=by simpa[Int.not_le]using hd
  simp only[gd,e,Bool.false_and,Bool.false_eq_true,if_false,Option.bind_some]
  simp
  intro h1 h2
  exact absurd ⟨h1,h2⟩ hd
theorem yX {t:GType} {v:GVal} (ht:pY t=true) (h:VaR v):oY t v=some (zC t v):=by
 unfold oY zC
 obtain⟨n1,n2⟩:=h.N
 obtain⟨d1,d2⟩:=h.D
 by_cases h2:t.Kind=2
 ·obtain⟨a,b,c,d,e,f,g⟩:=tO ht h2
  have hb:az (t.Bits - 1)=t.Bits - 1:=wi ⟨by omega,by omega⟩
  have hp:=uu (n:=t.Bits - 1) (by omega)
  simp only[h2,decide_true,if_true,hb,show(0:Int)≤t.Bits - 1 by omega,ut (n:=t.Bits - 1) (by omega) (by omega),Int.one_mul]
  rw[wi (p:=pw (t.Bits - 1)) ⟨by omega,by omega⟩,Option.bind_some,wi ⟨by omega,by omega⟩]
  simp[Bool.and_assoc]
 ·simp only[h2,decide_false,Bool.false_eq_true,if_false]
  by_cases hr:1≤v.D∧v.D≤2147483647∧ -2147483647≤v.N∧v.N≤2147483647
  ·obtain⟨r1,r2,r3,r4⟩:=hr
   rw[if_neg (by simp;omega)]
   by_cases h3:t.Kind=3
   ·simp[h3,r3,r4]
   ·simp only[h3,decide_false,Bool.false_eq_true,if_false]
    have hm:max v.N (az (-v.N))=if v.N<0 then -v.N else v.N:=by rw[wi ⟨by omega,by omega⟩];split<;>omega
    rw[hm,DE (by split<;>omega) (by omega) (by omega),Option.bind_some,xK]
    simp[nN,r1,r2,r3,r4]
    omega
  ·rw[if_pos (by simp;omega)]
   by_cases h3:t.Kind=3
   ·simp[h3];omega
   ·simp[h3,nN];omega
theorem sR {b:Int} (h1:2≤b) (h2:b≤31):ke b=some true:=by
 unfold ke;simp[h1,h2]
theorem wK {b:Int} (h1:2≤b) (h2:b≤31):kC b=some (-pw (b - 1)):=by
 unfold kC
 have hb:az (b - 1)=b - 1:=wi ⟨by omega,by omega⟩
 have hp:=uu (n:=b - 1) (by omega)
 rw[sR h1 h2,hb,wu (p:=b - 1) ⟨by omega,by omega⟩,ut (by omega) (by omega)]
 simp only[Option.bind_some,Bool.not_true,Bool.false_eq_true,if_false,Int.one_mul]
 rw[if_pos (by omega),wi (p:=pw (b - 1)) ⟨by omega,by omega⟩,wi ⟨by omega,by omega⟩]
theorem wL {b:Int} (h1:2≤b) (h2:b≤31):kD b=some (pw (b - 1) - 1):=by
 unfold kD
 have hb:az (b - 1)=b - 1:=wi ⟨by omega,by omega⟩
 have hp:=uu (n:=b - 1) (by omega)
 rw[sR h1 h2,hb,wu (p:=b - 1) ⟨by omega,by omega⟩,ut (by omega) (by omega)]
 simp only[Option.bind_some,Bool.not_true,Bool.false_eq_true,if_false,Int.one_mul]
 rw[if_pos (by omega),wi (p:=pw (b - 1)) ⟨by omega,by omega⟩,wi ⟨by omega,by omega⟩]
theorem sZ {t:GType} (v:GVal) (ht:pY t=true) (h2:t.Kind=2):ki t v=some (zC t v):=by
 obtain⟨a,b,c,d,e,f,g⟩:=tO ht h2
 unfold ki zC
 simp only[nz,h2,ht,and_self,if_true,Option.bind_some,decide_true,Bool.true_and,wK a b,wL a b]
 by_cases hd:v.D=1
 ·simp only[hd,decide_true,gd,Bool.true_and,if_true,Option.bind_some]
  by_cases hn: -pw (t.Bits - 1)≤v.N
  ·simp only[hn,decide_true,if_true,Option.bind_some,Bool.true_and,true_and]
   simp;omega
  ·simp[hn]
 ·simp[hd,gd]
theorem xZ {t:GType} {v:GVal} (h:VaR v):lk t v=some (pY t&&zC t v):=by
 unfold lk
 rw[jS]
 cases ht:pY t
 ·rfl
 ·simp only[if_true,Option.bind_some,decide_true,Bool.not_true,Bool.false_eq_true,if_false,Bool.true_and]
  by_cases h2:t.Kind=2
  ·simp[h2,sZ v ht h2]
  ·by_cases h3:t.Kind=3
   ·simp only[h2,h3,decide_false,decide_true,Bool.false_eq_true,if_false,if_true,mB,gd,zC]
    by_cases hd:v.D=1
    ·simp[hd]
    ·simp[hd]
   ·simp only[h2,h3,decide_false,Bool.false_eq_true,if_false,qR h,Option.bind_some,zC]
end Go.Proofs.YtmhoikfoogemnaaGreatDoor
