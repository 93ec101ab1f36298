import Derived.Test.YtmhoikfoogemnaaGreatDoorMCQ4f
import Derived.Test.YtmhoikfoogemnaaGreatDoorMLfJ
import Derived.Test.YtmhoikfoogemnaaGreatDoorMOp
import Derived.KernelRfl
namespace Go.Proofs.YtmhoikfoogemnaaGreatDoor
open Go Go.RowKit Go.Vc
set_option maxRecDepth 100000
set_option maxHeartbeats 4000000
set_option linter.unusedVariables false
set_option linter.unusedSimpArgs false
variable {σ:Type} {C0 F:NP} {w0:World} {a1 a2 a3 a4 a5 a6 a7 a8 a9 a10 a11 a12:Option Addr} {b1 b2 b3 b4 b5 b6 b7 b8 b9 b10 b11 b12 c1 c2 c3 c4 c5 c6 c7 c8 c9 c10 c11 c12:Nat}
theorem qe (F:NP) (w0:World) (hF:∀ k,F k→k<w0.heap.size) (x1:ac) (a1:Option Addr) (c1:Nat) (a2:Option Addr) (c2:Nat) (a3:Option Addr) (c3:Nat) (hc:AllCl [Cl.sl ag a1 c1 x1.Lin.L,Cl.sl ai a2 c2 x1.Idx,Cl.sl al a3 c3 x1.Args,ap] F w0) (r:Bool)
  (h:iA x1=some r):
  Calls Tryz.prog 6 #[(Value.agg (an x1 a1 c1 a2 c2 a3 c3))] w0 fun e w=>e= .returned (vb r)∧Ext w0 w∧AllCl [] F w:=by
 refine EN Tryz.func6 Tryz.ntmps6 hF hc fun hI=> ?_
 rw[iA]at h
 refine sr (lX fun b1 c5 w1 hI=> ?_)
 refine T ?_
 refine aj (sr (sq (am (l:=(aK x1 a1 c1 a2 c2 a3 c3)) rfl et gP rfl aB (hI.kblk (l:=(aK x1 a1 c1 a2 c2 a3 c3)) .z rfl).1) ?_))
 refine sB h (fun _ k=>wZ hI.lt FS k) (Rc Tryz.func20) fun r1 w2 h hI=> ?_
 refine TC (fun hb h=> ?_) fun hb h=> ?_
 ·refine sr ?_
  refine sB h (fun _ k=>mO hI.lt FS k) (Rc Tryz.func11) fun r2 w3 h hI=> ?_
  exact RF
 refine T ?_
 refine sq (am (l:=(aK x1 a1 c1 a2 c2 a3 c3)) rfl et gP rfl aB (hI.kblk (l:=(aK x1 a1 c1 a2 c2 a3 c3)) .z rfl).1) ?_
 refine sB h (fun _ k=>za hI.lt FS k) (Rc Tryz.func21) fun r3 w4 h hI=> ?_
 refine T ?_
 refine aj (T ?_)
 refine TC (fun hb h=> ?_) fun hb h=> ?_
 ·refine sr ?_
  refine sB h (fun _ k=>mO hI.lt FS k) (Rc Tryz.func11) fun r4 w5 h hI=> ?_
  exact RF
 refine T ?_
 obtain⟨r5,hx9,h⟩:=ab h
 refine bq gn rfl (Rc Tryz.func18) (Calls.mono (lD hI.lt FS hx9) ?_)
 rintro _ w6 ⟨a4,c6,a5,c7,a6,c8,rfl,hx10,hl5⟩
 refine⟨_,rfl,?_⟩
 replace hI:=(hI.ext hx10).adds hl5;dsimp only[ca,na]at hI
 refine T ?_
 refine lN fun b2 c9 w7 hI=> ?_
 refine lA fun c10 w8 hI=> ?_
 refine T ?_
 refine ar (aV rfl rfl rfl rfl) rfl (fun hc=>(am (l:=(aK x1 a1 c1 a2 c2 a3 c3)) rfl et gP rfl aB (hI.kblk (l:=(aK x1 a1 c1 a2 c2 a3 c3)) (.s (.s (.s .z))) rfl).1)) ?_
 refine ar (aV rfl rfl rfl rfl) rfl (fun hc=>(am (l:=(aK r5.1 a4 c6 a5 c7 a6 c8)) rfl et gP rfl aB (CellsAt.of_blk (hI.blk .z) rfl))) ?_
 obtain⟨r6,hx11,h⟩:=ab h
 replace hx11:=aC hx11
 refine sU (fun hc=>AR hI.lt FS (hx11 hc)) (Rg Tryz.func17) fun w9 hI=> ?_
 refine T ?_
 obtain⟨r7,hx13,h⟩:=ab h
 replace hx13:=aC hx13
 refine sU (fun hc=>mO hI.lt FS (hx13 hc)) (Rg Tryz.func11) fun w10 hI=> ?_
 exact RF
end Go.Proofs.YtmhoikfoogemnaaGreatDoor
namespace Go.Proofs.YtmhoikfoogemnaaGreatDoor
open Go Go.RowKit Go.Vc
set_option linter.unusedVariables false
set_option linter.unusedSimpArgs false
def pw (n:Int):Int:=2 ^ n.toNat
theorem sk {n:Int} (h:n≤30):1≤pw n∧pw n≤1073741824:=by
 unfold pw
 have h1:n.toNat≤30:=by omega
 have h2:(2:Nat) ^ n.toNat≤2 ^ 30:=Nat.pow_le_pow_right (by omega) h1
 have h3:1≤(2:Nat) ^ n.toNat:=Nat.one_le_two_pow
 have e:((2:Int) ^ n.toNat)=((2 ^ n.toNat:Nat):Int):=by simp
 rw[e]
 omega
theorem vj {n:Int} (h0:0≤n) (h:n≤30):(2:Int) ^ (min (Int.toNat n) 64)=pw n:=by
 unfold pw
 congr 1
 omega
structure VaR (v:bj):Prop where
 N:jS v.N
 D:jS v.D
theorem xH {n:Int} (h:DE .i64 n):jS n:=Ia h
theorem VaR.of {v:bj} (h:yA v):VaR v:=⟨xH h.1,xH h.2⟩
def ol (t:aM):Bool:=
 if t.Kind=1∨t.Kind=3 then decide (t.Bits=0∧t.Frac=0∧t.Round=0∧t.Over=0)
 else decide (t.Kind=2∧2≤t.Bits∧t.Bits≤31∧0≤t.Frac∧t.Frac≤30∧1≤t.Round∧t.Round≤4∧(t.Over=1∨t.Over=2))
theorem tM (t:aM):kM t=some (ol t):=by
 unfold kM ol
 by_cases h1:t.Kind=1
 ·simp[h1];try simp only[Bool.decide_and,Bool.and_assoc]
 by_cases h3:t.Kind=3
 ·simp[h3];try simp only[Bool.decide_and,Bool.and_assoc]
 simp[h1,h3,Bool.and_assoc]
theorem zP (t:aM):lf t=some (decide (t.Bits=0∧t.Frac=0∧t.Round=0∧t.Over=0)):=by
 unfold lf
 simp[Bool.and_assoc]
theorem nU (t:aM):fe t=some (if t.Kind=2∧ol t=true then 0 else 10):=by
 unfold fe ol
 simp only[Option.bind_some]
 by_cases h2:t.Kind=2
 ·simp only[h2]
  by_cases h:2≤t.Bits∧t.Bits≤31∧0≤t.Frac∧t.Frac≤30∧1≤t.Round∧t.Round≤4∧(t.Over=1∨t.Over=2)
  ·obtain⟨a,b,c,d,e,f,g⟩:=h
   simp[a,b,c,d,e,f,g,Int.not_lt.2 a,Int.not_lt.2 b,Int.not_lt.2 c,Int.not_lt.2 d]
   omega
  ·rw[if_pos,if_neg]
   ·simpa using h
   ·simp only[Bool.or_eq_true,Bool.and_eq_true,decide_eq_true_eq,Bool.not_eq_true',decide_eq_false_iff_not,Bool.and_eq_false_iff,Bool.or_eq_false_iff]
    omega
 ·simp[h2]
theorem jH (t:aM):dl t=some (if ol t=true then 0 else 10):=by
 unfold dl eZ
 simp only[zP,nU,Option.bind_some]
 unfold ol
 by_cases h1:t.Kind=1
 ·simp[h1];split<;>simp_all
 by_cases h3:t.Kind=3
 ·simp[h3];split<;>simp_all
 by_cases h2:t.Kind=2
 ·simp[h2,h1,h3];split<;>simp_all
 ·simp[h1,h2,h3]
theorem ou {t:aM} (h:ol t=true) (h2:t.Kind=2):2≤t.Bits∧t.Bits≤31∧0≤t.Frac∧t.Frac≤30∧1≤t.Round∧t.Round≤4∧(t.Over=1∨t.Over=2):=by
 unfold ol at h
 simpa[h2]using h
theorem qk {t:aM} (h:ol t=true):t.Kind=1∨t.Kind=2∨t.Kind=3:=by
 unfold ol at h
 split at h
 ·omega
 ·simp at h;omega
theorem yO (m:Nat→Int→Int→Option Int) (hm:∀ f a b,m (f+1) a b=if(!decide (b=0))=true then(if b≠0 then m f b (Int.tmod a b)else none)else some a):
  ∀ (f:Nat) (a b:Int),0≤a→0≤b→b.toNat<f→m f a b=some (Int.gcd a b)
 | 0,_,_,_,_,h=>absurd h (by omega)
 | f+1,a,b,ha,hb,hf=>by
  rw[hm]
  by_cases h:b=0
  ·subst h
   simp
   omega
  ·have h1:0<b:=by omega
   have h2:Int.tmod a b=a % b:=Int.tmod_eq_emod_of_nonneg ha
   have h3:0≤a % b:=Int.emod_nonneg _ h
   have h4:a % b<b:=Int.emod_lt_of_pos _ h1
   simp only[h,decide_false,Bool.not_false,if_true,ne_eq,not_false_eq_true]
   rw[h2,yO m hm f b (a % b) hb h3 (by omega)]
   congr 1
   have e:Int.gcd b (a % b)=Int.gcd a b:=by
    obtain⟨m,rfl⟩:=Int.eq_ofNat_of_zero_le ha
    obtain⟨k,rfl⟩:=Int.eq_ofNat_of_zero_le hb
    show Nat.gcd k ((m:Int) % (k:Int)).natAbs=Nat.gcd m k
    rw[show((m:Int) % (k:Int))=((m % k:Nat):Int)from rfl,Int.natAbs_natCast,Nat.gcd_comm m k,Nat.gcd_rec k m,Nat.gcd_comm]
   rw[e]
theorem FU {a b:Int} (ha:0≤a) (hb:0≤b) (h:b≤18446744073709551615):pI a b=some (Int.gcd a b:Int):=
 yO j7 (fun _ _ _=>rfl) fu a b ha hb (by unfold fu;omega)
theorem FD {a b:Int} (ha:0≤a) (hb:0≤b) (h:b≤18446744073709551615):pG a b=some (Int.gcd a b:Int):=
 yO j4 (fun _ _ _=>rfl) fu a b ha hb (by unfold fu;omega)
theorem DB {a b:Int} (ha:0≤a) (hb:0≤b) (h:b≤18446744073709551615):oz a b=some (Int.gcd a b:Int):=
 yO jt (fun _ _ _=>rfl) fu a b ha hb (by unfold fu;omega)
def k8 (v:bj):Bool:=decide (1≤v.D∧v.D≤2147483647∧ -2147483647≤v.N∧v.N≤2147483647∧Int.gcd v.N v.D=1)
def tj (t:aM) (v:bj):Bool:=
 if t.Kind=2 then decide (v.D=1∧ -pw (t.Bits - 1)≤v.N∧v.N<pw (t.Bits - 1))
 else if t.Kind=3 then decide (v.D=1∧ -2147483647≤v.N∧v.N≤2147483647)
 else k8 v
theorem wi {p:Int} (h:jS p):au p=p:=uV h
theorem wu {p:Int} (h:KX p):ei p=p:=H6 h
theorem Dr (n d:Int):Int.gcd (if n<0 then -n else n) d=Int.gcd n d:=by
 split
 ·rw[Int.neg_gcd]
 ·rfl
theorem vO {n:Int} (h:jS n):jv n=some (if n<0 then -n else n):=by
 obtain⟨h1,h2⟩:=h
 unfold jv
 by_cases hn:n<0
 ·simp only[hn,decide_true,if_true]
  congr 1
  simp[IntKind.wrap,IntKind.signed,IntKind.bits]
  omega
 ·simp only[hn,decide_false,Bool.false_eq_true,if_false]
  rw[wu ⟨by omega,by omega⟩]
theorem rJ {v:bj} (h:VaR v):kX v=some (k8 v):=by
 unfold kX k8
 by_cases hd:1≤v.D∧v.D≤2147483647
 ·by_cases hn: -2147483647≤v.N∧v.N≤2147483647
  ·simp only[kH,gd,hd.1,hd.2,hn.1,hn.2,decide_true,Bool.and_self,if_true,Option.bind_some]
   rw[vO h.N,Option.bind_some,wu ⟨by omega,by omega⟩,FD (by split<;>omega) (by omega) (by omega),Option.bind_some,Dr]
   simp
   omega
  ·have e:(decide (-2147483647≤v.N)&&decide (v.N≤2147483647))=false:=by simpa[Int.not_le]using hn
   simp[kH,gd,hd.1,hd.2]
   have hn':¬ (-2147483647≤v.N∧v.N≤2147483647):=hn
   simp only[Bool.and_eq_true,decide_eq_true_eq,hn',if_false,Option.bind_some]
   simp
   intro h1 h2
   exact absurd ⟨h1,h2⟩ hn'
 ·have e:(decide (1≤v.D)&&decide (v.D≤2147483647))=false:=by simpa[Int.not_le]using hd
  simp only[gd,e,Bool.false_and,Bool.false_eq_true,if_false,Option.bind_some]
  simp
  intro h1 h2
  exact absurd ⟨h1,h2⟩ hd
theorem wD {t:aM} {v:bj} (ht:ol t=true) (h:VaR v):lK t v=some (tj t v):=by
 unfold lK tj
 obtain⟨n1,n2⟩:=h.N
 obtain⟨d1,d2⟩:=h.D
 by_cases h2:t.Kind=2
 ·obtain⟨a,b,c,d,e,f,g⟩:=ou ht h2
  have hb:au (t.Bits - 1)=t.Bits - 1:=wi ⟨by omega,by omega⟩
  have hp:=sk (n:=t.Bits - 1) (by omega)
  simp only[h2,decide_true,if_true,hb,show(0:Int)≤t.Bits - 1 by omega,vj (n:=t.Bits - 1) (by omega) (by omega),Int.one_mul]
  rw[wi (p:=pw (t.Bits - 1)) ⟨by omega,by omega⟩,Option.bind_some,wi ⟨by omega,by omega⟩]
  simp[Bool.and_assoc]
 ·simp only[h2,decide_false,Bool.false_eq_true,if_false]
  by_cases hr:1≤v.D∧v.D≤2147483647∧ -2147483647≤v.N∧v.N≤2147483647
  ·obtain⟨r1,r2,r3,r4⟩:=hr
   rw[if_neg (by simp;omega)]
   by_cases h3:t.Kind=3
   ·simp[h3,r3,r4]
   ·simp only[h3,decide_false,Bool.false_eq_true,if_false]
    have hm:max v.N (au (-v.N))=if v.N<0 then -v.N else v.N:=by rw[wi ⟨by omega,by omega⟩];split<;>omega
    rw[hm,FU (by split<;>omega) (by omega) (by omega),Option.bind_some,Dr]
    simp[k8,r1,r2,r3,r4]
    omega
  ·rw[if_pos (by simp;omega)]
   by_cases h3:t.Kind=3
   ·simp[h3];omega
   ·simp[h3,k8];omega
theorem tT {b:Int} (h1:2≤b) (h2:b≤31):j3 b=some true:=by
 unfold j3;simp[h1,h2]
theorem yq {b:Int} (h1:2≤b) (h2:b≤31):kv b=some (-pw (b - 1)):=by
 unfold kv
 have hb:au (b - 1)=b - 1:=wi ⟨by omega,by omega⟩
 have hp:=sk (n:=b - 1) (by omega)
 rw[tT h1 h2,hb,wu (p:=b - 1) ⟨by omega,by omega⟩,vj (by omega) (by omega)]
 simp only[Option.bind_some,Bool.not_true,Bool.false_eq_true,if_false,Int.one_mul]
 rw[if_pos (by omega),wi (p:=pw (b - 1)) ⟨by omega,by omega⟩,wi ⟨by omega,by omega⟩]
theorem yr {b:Int} (h1:2≤b) (h2:b≤31):kw b=some (pw (b - 1) - 1):=by
 unfold kw
 have hb:au (b - 1)=b - 1:=wi ⟨by omega,by omega⟩
 have hp:=sk (n:=b - 1) (by omega)
 rw[tT h1 h2,hb,wu (p:=b - 1) ⟨by omega,by omega⟩,vj (by omega) (by omega)]
 simp only[Option.bind_some,Bool.not_true,Bool.false_eq_true,if_false,Int.one_mul]
 rw[if_pos (by omega),wi (p:=pw (b - 1)) ⟨by omega,by omega⟩,wi ⟨by omega,by omega⟩]
theorem uh {t:aM} (v:bj) (ht:ol t=true) (h2:t.Kind=2):j5 t v=some (tj t v):=by
 obtain⟨a,b,c,d,e,f,g⟩:=ou ht h2
 unfold j5 tj
 simp only[nU,h2,ht,and_self,if_true,Option.bind_some,decide_true,Bool.true_and,yq a b,yr a b]
 by_cases hd:v.D=1
 ·simp only[hd,decide_true,gd,Bool.true_and,if_true,Option.bind_some]
  by_cases hn: -pw (t.Bits - 1)≤v.N
  ·simp only[hn,decide_true,if_true,Option.bind_some,Bool.true_and,true_and]
   simp;omega
  ·simp[hn]
 ·simp[hd,gd]
theorem zQ {t:aM} {v:bj} (h:VaR v):lg t v=some (ol t&&tj t v):=by
 unfold lg
 rw[jH]
 cases ht:ol t
 ·rfl
 ·simp only[if_true,Option.bind_some,decide_true,Bool.not_true,Bool.false_eq_true,if_false,Bool.true_and]
  by_cases h2:t.Kind=2
  ·simp[h2,uh v ht h2]
  ·by_cases h3:t.Kind=3
   ·simp only[h2,h3,decide_false,decide_true,Bool.false_eq_true,if_false,if_true,mQ,gd,tj]
    by_cases hd:v.D=1
    ·simp[hd]
    ·simp[hd]
   ·simp only[h2,h3,decide_false,Bool.false_eq_true,if_false,rJ h,Option.bind_some,tj]
theorem Ah {t:aM} {v:bj} (h:VaR v):lu t v=some (ol t&&tj t v):=by
 unfold lu
 rw[tM]
 cases ht:ol t
 ·rfl
 ·simp only[Option.bind_some,gd,if_true,wD ht h,Bool.true_and]
end Go.Proofs.YtmhoikfoogemnaaGreatDoor
