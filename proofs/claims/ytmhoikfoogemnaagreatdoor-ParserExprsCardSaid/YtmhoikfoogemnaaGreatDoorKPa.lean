import Derived.Test.YtmhoikfoogemnaaGreatDoorKShelf
import Derived.KernelRfl
namespace Go.Proofs.YtmhoikfoogemnaaGreatDoor
open Go Go.RowKit Go.Vc
set_option linter.unusedVariables false
set_option linter.unusedSimpArgs false
def pw (n:Int):Int:=2 ^ n.toNat
theorem vO {n:Int} (h:n≤30):1≤pw n∧pw n≤1073741824:=by
 unfold pw
 have h1:n.toNat≤30:=by omega
 have h2:(2:Nat) ^ n.toNat≤2 ^ 30:=Nat.pow_le_pow_right (by omega) h1
 have h3:1≤(2:Nat) ^ n.toNat:=Nat.one_le_two_pow
 have e:((2:Int) ^ n.toNat)=((2 ^ n.toNat:Nat):Int):=by simp
 rw[e]
 omega
theorem vN {n:Int} (h0:0≤n) (h:n≤30):(2:Int) ^ (min (Int.toNat n) 64)=pw n:=by
 unfold pw
 congr 1
 omega
structure VaR (v:GVal):Prop where
 N:kB v.N
 D:kB v.D
theorem F7 {n:Int} (h:okI .i64 n):kB n:=Gr h
theorem VaR.of {v:GVal} (h:okGVal v):VaR v:=⟨F7 h.1,F7 h.2⟩
def rh (t:GType):Bool:=
 if t.Kind=1∨t.Kind=3 then decide (t.Bits=0∧t.Frac=0∧t.Round=0∧t.Over=0)
 else decide (t.Kind=2∧2≤t.Bits∧t.Bits≤31∧0≤t.Frac∧t.Frac≤30∧1≤t.Round∧t.Round≤4∧(t.Over=1∨t.Over=2))
theorem ua (t:GType):lT t=some (rh t):=by
 unfold lT rh
 by_cases h1:t.Kind=1
 ·simp[h1];try simp only[Bool.decide_and,Bool.and_assoc]
 by_cases h3:t.Kind=3
 ·simp[h3];try simp only[Bool.decide_and,Bool.and_assoc]
 simp[h1,h3,Bool.and_assoc]
theorem zx (t:GType):mq t=some (decide (t.Bits=0∧t.Frac=0∧t.Round=0∧t.Over=0)):=by
 unfold mq
 simp[Bool.and_assoc]
theorem oK (t:GType):ga t=some (if t.Kind=2∧rh t=true then 0 else 10):=by
 unfold ga rh
 simp only[Option.bind_some]
 by_cases h2:t.Kind=2
 ·simp only[h2]
  by_cases h:2≤t.Bits∧t.Bits≤31∧0≤t.Frac∧t.Frac≤30∧1≤t.Round∧t.Round≤4∧(t.Over=1∨t.Over=2)
  ·obtain⟨a,b,c,d,e,f,g⟩:=h
   simp[a,b,c,d,e,f,g,Int.not_lt.2 a,Int.not_lt.2 b,Int.not_lt.2 c,Int.not_lt.2 d]
   omega
  ·rw[if_pos,if_neg]
   ·simpa using h
   ·simp only[Bool.or_eq_true,Bool.and_eq_true,decide_eq_true_eq,Bool.not_eq_true',decide_eq_false_iff_not,Bool.and_eq_false_iff,Bool.or_eq_false_iff]
    omega
 ·simp[h2]
theorem kF (t:GType):dH t=some (if rh t=true then 0 else 10):=by
 unfold dH fV
 simp only[zx,oK,Option.bind_some]
 unfold rh
 by_cases h1:t.Kind=1
 ·simp[h1];split<;>simp_all
 by_cases h3:t.Kind=3
 ·simp[h3];split<;>simp_all
 by_cases h2:t.Kind=2
 ·simp[h2,h1,h3];split<;>simp_all
 ·simp[h1,h2,h3]
theorem uY {t:GType} (h:rh t=true) (h2:t.Kind=2):2≤t.Bits∧t.Bits≤31∧0≤t.Frac∧t.Frac≤30∧1≤t.Round∧t.Round≤4∧(t.Over=1∨t.Over=2):=by
 unfold rh at h
 simpa[h2]using h
theorem zz {t:GType} (h:rh t=true):t.Kind=1∨t.Kind=2∨t.Kind=3:=by
 unfold rh at h
 split at h
 ·omega
 ·simp at h;omega
theorem yB (m:Nat→Int→Int→Option Int) (hm:∀ f a b,m (f+1) a b=if(!decide (b=0))=true then(if b≠0 then m f b (Int.tmod a b)else none)else some a):
  ∀ (f:Nat) (a b:Int),0≤a→0≤b→b.toNat<f→m f a b=some (Int.gcd a b)
 | 0,_,_,_,_,h=>absurd h (by omega)
 | f+1,a,b,ha,hb,hf=>by
  rw[hm]
  by_cases h:b=0
  ·subst h
   simp
   omega
  ·have h1:0<b:=by omega
   have h2:Int.tmod a b=a % b:=Int.tmod_eq_emod_of_nonneg ha
   have h3:0≤a % b:=Int.emod_nonneg _ h
   have h4:a % b<b:=Int.emod_lt_of_pos _ h1
   simp only[h,decide_false,Bool.not_false,if_true,ne_eq,not_false_eq_true]
   rw[h2,yB m hm f b (a % b) hb h3 (by omega)]
   congr 1
   have e:Int.gcd b (a % b)=Int.gcd a b:=by
    obtain⟨m,rfl⟩:=Int.eq_ofNat_of_zero_le ha
    obtain⟨k,rfl⟩:=Int.eq_ofNat_of_zero_le hb
    show Nat.gcd k ((m:Int) % (k:Int)).natAbs=Nat.gcd m k
    rw[show((m:Int) % (k:Int))=((m % k:Nat):Int)from rfl,Int.natAbs_natCast,Nat.gcd_comm m k,Nat.gcd_rec k m,Nat.gcd_comm]
   rw[e]
theorem EF {a b:Int} (ha:0≤a) (hb:0≤b) (h:b≤18446744073709551615):p8 a b=some (Int.gcd a b:Int):=
 yB k9 (fun _ _ _=>rfl) fu a b ha hb (by unfold fu;omega)
theorem Es {a b:Int} (ha:0≤a) (hb:0≤b) (h:b≤18446744073709551615):pZ a b=some (Int.gcd a b:Int):=
 yB k0 (fun _ _ _=>rfl) fu a b ha hb (by unfold fu;omega)
theorem Cs {a b:Int} (ha:0≤a) (hb:0≤b) (h:b≤18446744073709551615):o9 a b=some (Int.gcd a b:Int):=
 yB ke (fun _ _ _=>rfl) fu a b ha hb (by unfold fu;omega)
def oY (v:GVal):Bool:=decide (1≤v.D∧v.D≤2147483647∧ -2147483647≤v.N∧v.N≤2147483647∧Int.gcd v.N v.D=1)
def A9 (t:GType) (v:GVal):Bool:=
 if t.Kind=2 then decide (v.D=1∧ -pw (t.Bits - 1)≤v.N∧v.N<pw (t.Bits - 1))
 else if t.Kind=3 then decide (v.D=1∧ -2147483647≤v.N∧v.N≤2147483647)
 else oY v
theorem wi {p:Int} (h:kB p):ar p=p:=yc h
theorem wu {p:Int} (h:Is p):kC p=p:=Gn h
theorem zf (n d:Int):Int.gcd (if n<0 then -n else n) d=Int.gcd n d:=by
 split
 ·rw[Int.neg_gcd]
 ·rfl
theorem wm {n:Int} (h:kB n):km n=some (if n<0 then -n else n):=by
 obtain⟨h1,h2⟩:=h
 unfold km
 by_cases hn:n<0
 ·simp only[hn,decide_true,if_true]
  congr 1
  simp[IntKind.wrap,IntKind.signed,IntKind.bits]
  omega
 ·simp only[hn,decide_false,Bool.false_eq_true,if_false]
  rw[wu ⟨by omega,by omega⟩]
theorem si {v:GVal} (h:VaR v):mi v=some (oY v):=by
 unfold mi oY
 by_cases hd:1≤v.D∧v.D≤2147483647
 ·by_cases hn: -2147483647≤v.N∧v.N≤2147483647
  ·simp only[lQ,gd,hd.1,hd.2,hn.1,hn.2,decide_true,Bool.and_self,if_true,Option.bind_some]
   rw[wm h.N,Option.bind_some,wu ⟨by omega,by omega⟩,Es (by split<;>omega) (by omega) (by omega),Option.bind_some,zf]
   simp
   omega
  ·have e:(decide (-2147483647≤v.N)&&decide (v.N≤2147483647))=false:=by simpa[Int.not_le]using hn
   simp[lQ,gd,hd.1,hd.2]
   have hn':¬ (-2147483647≤v.N∧v.N≤2147483647):=hn
   simp only[Bool.and_eq_true,decide_eq_true_eq,hn',if_false,Option.bind_some]
   simp
   intro h1 h2
   exact absurd ⟨h1,h2⟩ hn'
 ·have e:(decide (1≤v.D)&&decide (v.D≤2147483647))=false:=by simpa[Int.not_le]using hd
  simp only[gd,e,Bool.false_and,Bool.false_eq_true,if_false,Option.bind_some]
  simp
  intro h1 h2
  exact absurd ⟨h1,h2⟩ hd
theorem AC {t:GType} {v:GVal} (ht:rh t=true) (h:VaR v):nO t v=some (A9 t v):=by
 unfold nO A9
 obtain⟨n1,n2⟩:=h.N
 obtain⟨d1,d2⟩:=h.D
 by_cases h2:t.Kind=2
 ·obtain⟨a,b,c,d,e,f,g⟩:=uY ht h2
  have hb:ar (t.Bits - 1)=t.Bits - 1:=wi ⟨by omega,by omega⟩
  have hp:=vO (n:=t.Bits - 1) (by omega)
  simp only[h2,decide_true,if_true,hb,show(0:Int)≤t.Bits - 1 by omega,vN (n:=t.Bits - 1) (by omega) (by omega),Int.one_mul]
  rw[wi (p:=pw (t.Bits - 1)) ⟨by omega,by omega⟩,Option.bind_some,wi ⟨by omega,by omega⟩]
  simp[Bool.and_assoc]
 ·simp only[h2,decide_false,Bool.false_eq_true,if_false]
  by_cases hr:1≤v.D∧v.D≤2147483647∧ -2147483647≤v.N∧v.N≤2147483647
  ·obtain⟨r1,r2,r3,r4⟩:=hr
   rw[if_neg (by simp;omega)]
   by_cases h3:t.Kind=3
   ·simp[h3,r3,r4]
   ·simp only[h3,decide_false,Bool.false_eq_true,if_false]
    have hm:max v.N (ar (-v.N))=if v.N<0 then -v.N else v.N:=by rw[wi ⟨by omega,by omega⟩];split<;>omega
    rw[hm,EF (by split<;>omega) (by omega) (by omega),Option.bind_some,zf]
    simp[oY,r1,r2,r3,r4]
    omega
  ·rw[if_pos (by simp;omega)]
   by_cases h3:t.Kind=3
   ·simp[h3];omega
   ·simp[h3,oY];omega
theorem uf {b:Int} (h1:2≤b) (h2:b≤31):kX b=some true:=by
 unfold kX;simp[h1,h2]
theorem yl {b:Int} (h1:2≤b) (h2:b≤31):lC b=some (-pw (b - 1)):=by
 unfold lC
 have hb:ar (b - 1)=b - 1:=wi ⟨by omega,by omega⟩
 have hp:=vO (n:=b - 1) (by omega)
 rw[uf h1 h2,hb,wu (p:=b - 1) ⟨by omega,by omega⟩,vN (by omega) (by omega)]
 simp only[Option.bind_some,Bool.not_true,Bool.false_eq_true,if_false,Int.one_mul]
 rw[if_pos (by omega),wi (p:=pw (b - 1)) ⟨by omega,by omega⟩,wi ⟨by omega,by omega⟩]
theorem ym {b:Int} (h1:2≤b) (h2:b≤31):lD b=some (pw (b - 1) - 1):=by
 unfold lD
 have hb:ar (b - 1)=b - 1:=wi ⟨by omega,by omega⟩
 have hp:=vO (n:=b - 1) (by omega)
 rw[uf h1 h2,hb,wu (p:=b - 1) ⟨by omega,by omega⟩,vN (by omega) (by omega)]
 simp only[Option.bind_some,Bool.not_true,Bool.false_eq_true,if_false,Int.one_mul]
 rw[if_pos (by omega),wi (p:=pw (b - 1)) ⟨by omega,by omega⟩,wi ⟨by omega,by omega⟩]
theorem un {t:GType} (v:GVal) (ht:rh t=true) (h2:t.Kind=2):k7 t v=some (A9 t v):=by
 obtain⟨a,b,c,d,e,f,g⟩:=uY ht h2
 unfold k7 A9
 simp only[oK,h2,ht,and_self,if_true,Option.bind_some,decide_true,Bool.true_and,yl a b,ym a b]
 by_cases hd:v.D=1
 ·simp only[hd,decide_true,gd,Bool.true_and,if_true,Option.bind_some]
  by_cases hn: -pw (t.Bits - 1)≤v.N
  ·simp only[hn,decide_true,if_true,Option.bind_some,Bool.true_and,true_and]
   simp;omega
  ·simp[hn]
 ·simp[hd,gd]
theorem zy {t:GType} {v:GVal} (h:VaR v):mr t v=some (rh t&&A9 t v):=by
 unfold mr
 rw[kF]
 cases ht:rh t
 ·rfl
 ·simp only[if_true,Option.bind_some,decide_true,Bool.not_true,Bool.false_eq_true,if_false,Bool.true_and]
  by_cases h2:t.Kind=2
  ·simp[h2,un v ht h2]
  ·by_cases h3:t.Kind=3
   ·simp only[h2,h3,decide_false,decide_true,Bool.false_eq_true,if_false,if_true,nW,gd,A9]
    by_cases hd:v.D=1
    ·simp[hd]
    ·simp[hd]
   ·simp only[h2,h3,decide_false,Bool.false_eq_true,if_false,si h,Option.bind_some,A9]
end Go.Proofs.YtmhoikfoogemnaaGreatDoor
