import Derived.Test.YtmhoikfoogemnaaGreatDoorMWa
namespace Go.Proofs.YtmhoikfoogemnaaGreatDoor
open Go Go.RowKit Go.Vc
set_option linter.unusedVariables false
set_option linter.unusedSimpArgs false
end Go.Proofs.YtmhoikfoogemnaaGreatDoor
namespace Go.Proofs.YtmhoikfoogemnaaGreatDoor
open Go Go.RowKit Go.Vc
set_option linter.unusedVariables false
set_option linter.unusedSimpArgs false
theorem BM (x:Int):((BitVec.ofInt 64 x)&&& (BitVec.ofInt 64 4294967295)).toNat=(x % 4294967296).toNat:=by
 rw[BitVec.toNat_and,BitVec.toNat_ofInt,BitVec.toNat_ofInt]
 rw[show((4294967295:Int) % ((2 ^ 64:Nat):Int)).toNat=2 ^ 32 - 1 by decide,Nat.and_two_pow_sub_one_eq_mod]
 omega
theorem Ae (x:Int):bits .and .u64 x 4294967295=x % 4294967296:=by
 unfold bits
 simp only[]
 show IntKind.u64.wrap (((BitVec.ofInt 64 x)&&& (BitVec.ofInt 64 4294967295)).toNat:Int)=_
 rw[BM,Int.toNat_of_nonneg (by omega)]
 exact wu ⟨by omega,by omega⟩
abbrev H9 (x:Int):Prop:=0≤x∧x<18446744073709551616
theorem wx (x:Int):iK x=x % 18446744073709551616:=by simp[iK,IntKind.wrap,IntKind.signed,IntKind.bits]
theorem Dg {n:Int} (h:jO n):i6 n=some (n.natAbs:Int):=by
 obtain⟨h1,h2⟩:=h
 unfold i6
 by_cases c:n<0
 ·rw[if_pos (by simpa using c),wx,wx]
  refine congrArg some ?_
  omega
 ·rw[if_neg (by simpa using c),wx]
  refine congrArg some ?_
  omega
theorem zk {a b:Int} (ha:H9 a) (hb:H9 b):∃ hi lo,lq a b=some (hi,lo)∧H9 hi∧H9 lo∧hi * 18446744073709551616+lo=a * b:=by
 obtain⟨a0,a1,ea,q1,q2,q3,q4⟩:∃ a0 a1,a=a1 * 4294967296+a0∧0≤a0∧a0<4294967296∧0≤a1∧a1<4294967296:=⟨a % 4294967296,a / 4294967296,by omega,by omega,by omega,by omega,by omega⟩
 obtain⟨b0,b1,eb,r1,r2,r3,r4⟩:∃ b0 b1,b=b1 * 4294967296+b0∧0≤b0∧b0<4294967296∧0≤b1∧b1<4294967296:=⟨b % 4294967296,b / 4294967296,by omega,by omega,by omega,by omega,by omega⟩
 have f1:Int.fdiv a (2 ^ 32)=a1:=by rw[Int.fdiv_eq_ediv_of_nonneg _ (by decide),show(2:Int) ^ 32=4294967296 from rfl];omega
 have f2:Int.fdiv b (2 ^ 32)=b1:=by rw[Int.fdiv_eq_ediv_of_nonneg _ (by decide),show(2:Int) ^ 32=4294967296 from rfl];omega
 have bd:∀ {x y:Int},0≤x→x<4294967296→0≤y→y<4294967296→0≤x * y∧x * y≤18446744065119617025:=fun {x y} hx hx' hy hy'=>by
  refine⟨Int.mul_nonneg hx hy,?_⟩
  have:=Int.mul_le_mul (show x≤4294967295 by omega) (show y≤4294967295 by omega) hy (by omega)
  omega
 obtain⟨p00,e00⟩:∃ p,p=a0 * b0:=⟨_,rfl⟩
 obtain⟨p01,e01⟩:∃ p,p=a0 * b1:=⟨_,rfl⟩
 obtain⟨p10,e10⟩:∃ p,p=a1 * b0:=⟨_,rfl⟩
 obtain⟨p11,e11⟩:∃ p,p=a1 * b1:=⟨_,rfl⟩
 obtain⟨g1,g2⟩:=bd q1 q2 r1 r2
 obtain⟨g3,g4⟩:=bd q1 q2 r3 r4
 obtain⟨g5,g6⟩:=bd q3 q4 r1 r2
 obtain⟨g7,g8⟩:=bd q3 q4 r3 r4
 rw[← e00]at g1 g2
 rw[← e01]at g3 g4
 rw[← e10]at g5 g6
 rw[← e11]at g7 g8
 have eab:a * b=p11 * 18446744073709551616+(p10+p01) * 4294967296+p00:=by rw[ea,eb,e00,e01,e10,e11];grind
 have fd:∀ x:Int,Int.fdiv x (2 ^ 32)=x / 4294967296:=fun x=>by rw[Int.fdiv_eq_ediv_of_nonneg _ (by decide)];rfl
 unfold lq
 rw[Ae,Ae,show a % 4294967296=a0 by omega,show b % 4294967296=b0 by omega,f1,f2, ← e00, ← e01, ← e10, ← e11]
 simp only[Option.bind_some,wx,fd,Ae]
 refine⟨_,_,rfl,⟨by omega,by omega⟩,⟨by omega,by omega⟩,?_⟩
 rw[eab]
 omega
end Go.Proofs.YtmhoikfoogemnaaGreatDoor
namespace Go.Proofs.YtmhoikfoogemnaaGreatDoor
open Go Go.RowKit Go.Vc
set_option linter.unusedVariables false
set_option linter.unusedSimpArgs false
def Er (v:List UInt8→Int):List GMono→Int
 | []=>0
 | m::l=>m.By * v m.Name+Er v l
def ev (v:List UInt8→Int) (l:GLin):Int:=l.K+Er v l.L
structure Wf (l:GLin):Prop where
 k:jO l.K
 b:∀ m∈l.L,jO m.By
 len:l.L.length≤4294967296
theorem Ee {x y:Int} (hx:jO x) (hy:jO y): -85070591730234615865843651857942052864≤x * y∧x * y≤85070591730234615865843651857942052864∧(x.natAbs:Int) * (y.natAbs:Int)≤85070591730234615865843651857942052864:=by
 have h1:x.natAbs≤9223372036854775808:=by have:=hx.1;have:=hx.2;omega
 have h2:y.natAbs≤9223372036854775808:=by have:=hy.1;have:=hy.2;omega
 have h3:=Nat.mul_le_mul h1 h2
 have h4:(x * y).natAbs=x.natAbs * y.natAbs:=Int.natAbs_mul x y
 have h5:((x.natAbs:Int) * (y.natAbs:Int))=((x.natAbs * y.natAbs:Nat):Int):=(Int.natCast_mul _ _).symm
 rw[h5]
 generalize x.natAbs * y.natAbs=q at *
 omega
theorem D6 (x y:Int):x * y=if(decide (x<0) != decide (y<0))=true then -((x.natAbs:Int) * (y.natAbs:Int))else(x.natAbs:Int) * (y.natAbs:Int):=by
 by_cases h1:x<0<;>by_cases h2:y<0
 ·rw[if_neg (by simp[h1,h2]),show(x.natAbs:Int)= -x by omega,show(y.natAbs:Int)= -y by omega,Int.neg_mul_neg]
 ·rw[if_pos (by simp[h1,h2]),show(x.natAbs:Int)= -x by omega,show(y.natAbs:Int)=y by omega,Int.neg_mul,Int.neg_neg]
 ·rw[if_pos (by simp[h1,h2]),show(x.natAbs:Int)=x by omega,show(y.natAbs:Int)= -y by omega,Int.mul_neg,Int.neg_neg]
 ·rw[if_neg (by simp[h1,h2]),show(x.natAbs:Int)=x by omega,show(y.natAbs:Int)=y by omega]
end Go.Proofs.YtmhoikfoogemnaaGreatDoor
namespace Go.Proofs.YtmhoikfoogemnaaGreatDoor
open Go Go.RowKit Go.Vc
set_option linter.unusedVariables false
set_option linter.unusedSimpArgs false
end Go.Proofs.YtmhoikfoogemnaaGreatDoor
namespace Go.Proofs.YtmhoikfoogemnaaGreatDoor
open Go Go.RowKit Go.Vc
set_option linter.unusedVariables false
set_option linter.unusedSimpArgs false
theorem uf {a b:Int} (ha:jO a) (hb:jO b):lF a b=some (if jO (a * b)then(a * b,true)else(0,false)):=by
 unfold lF
 rw[Dg ha,Dg hb,Option.bind_some,Option.bind_some]
 obtain⟨hi,lo,p1,⟨p2,p3⟩,⟨p4,p5⟩,p6⟩:=zk (a:=(a.natAbs:Int)) (b:=(b.natAbs:Int)) ⟨by omega,by have:=ha.1;have:=ha.2;omega⟩ ⟨by omega,by have:=hb.1;have:=hb.2;omega⟩
 have hs:=D6 a b
 rw[← p6]at hs
 rw[p1,Option.bind_some,Option.bind_some]
 dsimp only
 generalize (decide (a<0) != decide (b<0))=ng at *
 generalize a * b=q at *
 by_cases c:(((!decide (hi=0))||(decide (9223372036854775808<lo)))||((decide (lo=9223372036854775808))&&(!ng)))=true
 ·rw[if_pos c,if_neg]
  intro ⟨r1,r2⟩
  simp only[Bool.or_eq_true,Bool.not_eq_true',decide_eq_false_iff_not,decide_eq_true_eq,Bool.and_eq_true]at c
  cases ng with
  | true=>simp at hs c;omega
  | false=>simp at hs c;omega
 ·rw[if_neg c]
  simp only[Bool.or_eq_true,Bool.not_eq_true',decide_eq_false_iff_not,decide_eq_true_eq,Bool.and_eq_true,not_or,Classical.not_not]at c
  cases ng with
  | true=>
   simp at hs c
   rw[if_pos rfl,if_pos ⟨by omega,by omega⟩]
   have e:az (iK (-lo))= -lo:=wiwu ⟨by omega,by omega⟩
   rw[e,hs]
   refine congrArg some (Prod.ext ?_ rfl)
   dsimp only;omega
  | false=>
   simp at hs c
   rw[if_neg (by simp),if_pos ⟨by omega,by omega⟩,wi ⟨by omega,by omega⟩,hs]
   refine congrArg some (Prod.ext ?_ rfl)
   dsimp only;omega
theorem Fo {x:Int} (h: -18446744073709551616≤x∧x≤18446744073709551614):az x=if x< -9223372036854775808 then x+18446744073709551616 else if 9223372036854775807<x then x - 18446744073709551616 else x:=by
 split
 ·exact EO (y:=x+18446744073709551616) (c:= -1) ⟨by omega,by omega⟩ (by omega)
 ·split
  ·exact EO (y:=x - 18446744073709551616) (c:=1) ⟨by omega,by omega⟩ (by omega)
  ·exact wi ⟨by omega,by omega⟩
theorem AE {a b:Int} (ha:jO a) (hb:jO b):mv a b=some (az (a+b),decide (jO (a+b))):=by
 obtain⟨a1,a2⟩:=ha
 obtain⟨b1,b2⟩:=hb
 unfold mv
 refine congrArg some (Prod.ext rfl ?_)
 dsimp only
 rw[Fo ⟨by omega,by omega⟩]
 by_cases c1:a+b< -9223372036854775808
 ·rw[if_pos c1,decide_eq_false (p:=jO (a+b)) (fun h=>by have:=h.1;omega),decide_eq_true (by omega),decide_eq_false (by omega)];rfl
 rw[if_neg c1]
 by_cases c2:9223372036854775807<a+b
 ·rw[if_pos c2,decide_eq_false (p:=jO (a+b)) (fun h=>by have:=h.2;omega),decide_eq_false (by omega),decide_eq_true (by omega)];rfl
 rw[if_neg c2,decide_eq_true (p:=jO (a+b)) ⟨by omega,by omega⟩]
 by_cases c3:0<b
 ·rw[decide_eq_true (by omega),decide_eq_true c3];rfl
 ·rw[decide_eq_false (by omega),decide_eq_false c3];rfl
theorem ql {a b:Int} (ha:jO a) (hb:jO b):mR a b=some (if jO (a+b)then(a+b,true)else(0,false)):=by
 obtain⟨a1,a2⟩:=ha
 obtain⟨b1,b2⟩:=hb
 unfold mR
 by_cases c:jO (a+b)
 ·obtain⟨c1,c2⟩:=c
  rw[if_pos (show jO (a+b)from⟨c1,c2⟩),if_neg,wi ⟨c1,c2⟩]
  simp only[Bool.or_eq_true,Bool.and_eq_true,decide_eq_true_eq,not_or,not_and]
  refine⟨fun h=> ?_,fun h=> ?_⟩
  ·rw[wi ⟨by omega,by omega⟩];omega
  ·rw[wi ⟨by omega,by omega⟩];omega
 ·rw[if_neg c,if_pos]
  simp only[Bool.or_eq_true,Bool.and_eq_true,decide_eq_true_eq]
  by_cases h:0<b
  ·left;refine⟨h,?_⟩
   rw[wi ⟨by omega,by omega⟩]
   exact Classical.byContradiction fun h2=>c ⟨by omega,by omega⟩
  ·by_cases h0:b<0
   ·right;refine⟨h0,?_⟩
    rw[wi ⟨by omega,by omega⟩]
    exact Classical.byContradiction fun h2=>c ⟨by omega,by omega⟩
   ·exact absurd ⟨by omega,by omega⟩ c
theorem DU (x:Int):(-9223372036854775808≤az x)∧(az x≤9223372036854775807)∧(az x - x) % 18446744073709551616=0:=by
 simp only[az,IntKind.wrap,IntKind.signed,IntKind.bits]
 simp
 omega
theorem pg {a b:Int} (ha:jO a) (hb:jO b):jZ a b=some (if jO (a * b)then(a * b,true)else(0,false)):=by
 unfold jZ
 by_cases c0:a=0∨b=0
 ·have e:a * b=0:=by rcases c0 with rfl | rfl<;>simp
  rw[if_pos (by simpa using c0),e,if_pos (by decide)]
 rw[if_neg (by simpa using c0)]
 have hb0:b≠0:=fun h=>c0 (.inr h)
 rw[if_pos (fun _=>hb0)]
 obtain⟨a1,a2⟩:=ha
 obtain⟨b1,b2⟩:=hb
 obtain⟨m1,m2,_⟩:=Ee ⟨a1,a2⟩ ⟨b1,b2⟩
 by_cases cm:(a= -1∧b= -9223372036854775808)∨(b= -1∧a= -9223372036854775808)
 ·have e:a * b=9223372036854775808:=by rcases cm with⟨rfl,rfl⟩ | ⟨rfl,rfl⟩<;>rfl
  rw[if_pos,e,if_neg (by decide)]
  rcases cm with⟨rfl,rfl⟩ | ⟨rfl,rfl⟩<;>simp
 have ecm:(((decide (a=(-1)))&&(decide (b=(-9223372036854775808))))||((decide (b=(-1)))&&(decide (a=(-9223372036854775808)))))=false:=by
  rw[Bool.eq_false_iff];intro h;exact cm (by simpa using h)
 rw[ecm,Bool.false_or]
 by_cases c:jO (a * b)
 ·rw[wi c,Int.mul_tdiv_cancel _ hb0,wi ⟨a1,a2⟩,if_pos c];simp
 ·rw[if_neg c,if_pos]
  simp only[Bool.not_eq_true',decide_eq_false_iff_not]
  intro he
  obtain⟨w1,w2,w3⟩:=DU (a * b)
  generalize az (a * b)=w at *
  have t1:=Int.mul_tdiv_add_tmod w b
  have t2:(Int.tmod w b).natAbs<b.natAbs:=by rw[Int.natAbs_tmod];exact Nat.mod_lt _ (by omega)
  have t3:(Int.tdiv w b).natAbs≤w.natAbs:=by rw[Int.natAbs_tdiv];exact Nat.div_le_self _ _
  have t4:Int.tdiv w b=a:=by
   by_cases c2:jO (Int.tdiv w b)
   ·rw[wi c2]at he;exact he
   ·have t5:Int.tdiv w b=9223372036854775808:=by
     generalize Int.tdiv w b=u at *
     exact Classical.byContradiction fun h=>c2 ⟨by omega,by omega⟩
    rw[t5]at he t1
    rw[show az 9223372036854775808= -9223372036854775808 from rfl]at he
    exact absurd (.inr ⟨by omega,he.symm⟩) cm
  rw[t4,Int.mul_comm]at t1
  generalize a * b=q at *
  exact c (by omega)
end Go.Proofs.YtmhoikfoogemnaaGreatDoor
