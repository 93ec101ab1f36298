import Derived.Test.YtmhoikfoogemnaaGreatDoorHWa
namespace Go.Proofs.YtmhoikfoogemnaaGreatDoor
open Go Go.RowKit Go.Vc
set_option linter.unusedVariables false
set_option linter.unusedSimpArgs false
end Go.Proofs.YtmhoikfoogemnaaGreatDoor
namespace Go.Proofs.YtmhoikfoogemnaaGreatDoor
open Go Go.RowKit Go.Vc
set_option linter.unusedVariables false
set_option linter.unusedSimpArgs false
theorem Io (x:Int):((BitVec.ofInt 64 x)&&& (BitVec.ofInt 64 4294967295)).toNat=(x % 4294967296).toNat:=by
 rw[BitVec.toNat_and,BitVec.toNat_ofInt,BitVec.toNat_ofInt]
 rw[show((4294967295:Int) % ((2 ^ 64:Nat):Int)).toNat=2 ^ 32 - 1 by decide,Nat.and_two_pow_sub_one_eq_mod]
 omega
theorem Gf (x:Int):bits .and .u64 x 4294967295=x % 4294967296:=by
 unfold bits
 simp only[]
 show IntKind.u64.wrap (((BitVec.ofInt 64 x)&&& (BitVec.ofInt 64 4294967295)).toNat:Int)=_
 rw[Io,Int.toNat_of_nonneg (by omega)]
 exact wu ⟨by omega,by omega⟩
abbrev Q3 (x:Int):Prop:=0≤x∧x<18446744073709551616
theorem BG (x:Int):fi x=x % 18446744073709551616:=by simp[fi,IntKind.wrap,IntKind.signed,IntKind.bits]
theorem JL {n:Int} (h:kX n):jt n=some (n.natAbs:Int):=by
 obtain⟨h1,h2⟩:=h
 unfold jt
 by_cases c:n<0
 ·rw[if_pos (by simpa using c),BG,BG]
  refine congrArg some ?_
  omega
 ·rw[if_neg (by simpa using c),BG]
  refine congrArg some ?_
  omega
theorem Fu {a b:Int} (ha:Q3 a) (hb:Q3 b):∃ hi lo,mZ a b=some (hi,lo)∧Q3 hi∧Q3 lo∧hi * 18446744073709551616+lo=a * b:=by
 obtain⟨a0,a1,ea,q1,q2,q3,q4⟩:∃ a0 a1,a=a1 * 4294967296+a0∧0≤a0∧a0<4294967296∧0≤a1∧a1<4294967296:=⟨a % 4294967296,a / 4294967296,by omega,by omega,by omega,by omega,by omega⟩
 obtain⟨b0,b1,eb,r1,r2,r3,r4⟩:∃ b0 b1,b=b1 * 4294967296+b0∧0≤b0∧b0<4294967296∧0≤b1∧b1<4294967296:=⟨b % 4294967296,b / 4294967296,by omega,by omega,by omega,by omega,by omega⟩
 have f1:Int.fdiv a (2 ^ 32)=a1:=by rw[Int.fdiv_eq_ediv_of_nonneg _ (by decide),show(2:Int) ^ 32=4294967296 from rfl];omega
 have f2:Int.fdiv b (2 ^ 32)=b1:=by rw[Int.fdiv_eq_ediv_of_nonneg _ (by decide),show(2:Int) ^ 32=4294967296 from rfl];omega
 have bd:∀ {x y:Int},0≤x→x<4294967296→0≤y→y<4294967296→0≤x * y∧x * y≤18446744065119617025:=λ{x y} hx hx' hy hy'=>by
  refine⟨Int.mul_nonneg hx hy,?_⟩
  have:=Int.mul_le_mul (show x≤4294967295 by omega) (show y≤4294967295 by omega) hy (by omega)
  omega
 obtain⟨p00,e00⟩:∃ p,p=a0 * b0:=⟨_,rfl⟩
 obtain⟨p01,e01⟩:∃ p,p=a0 * b1:=⟨_,rfl⟩
 obtain⟨p10,e10⟩:∃ p,p=a1 * b0:=⟨_,rfl⟩
 obtain⟨p11,e11⟩:∃ p,p=a1 * b1:=⟨_,rfl⟩
 obtain⟨g1,g2⟩:=bd q1 q2 r1 r2
 obtain⟨g3,g4⟩:=bd q1 q2 r3 r4
 obtain⟨g5,g6⟩:=bd q3 q4 r1 r2
 obtain⟨g7,g8⟩:=bd q3 q4 r3 r4
 rw[← e00]at g1 g2
 rw[← e01]at g3 g4
 rw[← e10]at g5 g6
 rw[← e11]at g7 g8
 have eab:a * b=p11 * 18446744073709551616+(p10+p01) * 4294967296+p00:=by rw[ea,eb,e00,e01,e10,e11];grind
 have fd:∀ x:Int,Int.fdiv x (2 ^ 32)=x / 4294967296:=λx=>by rw[Int.fdiv_eq_ediv_of_nonneg _ (by decide)];rfl
 unfold mZ
 rw[Gf,Gf,show a % 4294967296=a0 by omega,show b % 4294967296=b0 by omega,f1,f2, ← e00, ← e01, ← e10, ← e11]
 simp only[Option.bind_some,BG,fd,Gf]
 refine⟨_,_,rfl,⟨by omega,by omega⟩,⟨by omega,by omega⟩,?_⟩
 rw[eab]
 omega
end Go.Proofs.YtmhoikfoogemnaaGreatDoor
namespace Go.Proofs.YtmhoikfoogemnaaGreatDoor
open Go Go.RowKit Go.Vc
set_option linter.unusedVariables false
set_option linter.unusedSimpArgs false
def vl:List (List UInt8)→List Int→List UInt8→Int
 | n::ns,x::p,s=>if n=s then x else vl ns p s
 | _,_,_=>0
def Qy (v:List UInt8→Int):List bv→Int
 | []=>0
 | m::l=>m.By * v m.Name+Qy v l
def ev (v:List UInt8→Int) (l:aC):Int:=l.K+Qy v l.L
structure Wf (l:aC):Prop where
 k:kX l.K
 b:∀ m∈l.L,kX m.By
 len:l.L.length≤4294967296
theorem LE {x y:Int} (hx:kX x) (hy:kX y): -85070591730234615865843651857942052864≤x * y∧x * y≤85070591730234615865843651857942052864∧(x.natAbs:Int) * (y.natAbs:Int)≤85070591730234615865843651857942052864:=by
 have h1:x.natAbs≤9223372036854775808:=by have:=hx.1;have:=hx.2;omega
 have h2:y.natAbs≤9223372036854775808:=by have:=hy.1;have:=hy.2;omega
 have h3:=Nat.mul_le_mul h1 h2
 have h4:(x * y).natAbs=x.natAbs * y.natAbs:=Int.natAbs_mul x y
 have h5:((x.natAbs:Int) * (y.natAbs:Int))=((x.natAbs * y.natAbs:Nat):Int):=(Int.natCast_mul _ _).symm
 rw[h5]
 generalize x.natAbs * y.natAbs=q at *
 omega
theorem Lj (x y:Int):x * y=if(decide (x<0) != decide (y<0))=true then -((x.natAbs:Int) * (y.natAbs:Int))else(x.natAbs:Int) * (y.natAbs:Int):=by
 by_cases h1:x<0<;>by_cases h2:y<0
 ·rw[if_neg (by simp[h1,h2]),show(x.natAbs:Int)= -x by omega,show(y.natAbs:Int)= -y by omega,Int.neg_mul_neg]
 ·rw[if_pos (by simp[h1,h2]),show(x.natAbs:Int)= -x by omega,show(y.natAbs:Int)=y by omega,Int.neg_mul,Int.neg_neg]
 ·rw[if_pos (by simp[h1,h2]),show(x.natAbs:Int)=x by omega,show(y.natAbs:Int)= -y by omega,Int.mul_neg,Int.neg_neg]
 ·rw[if_neg (by simp[h1,h2]),show(x.natAbs:Int)=x by omega,show(y.natAbs:Int)=y by omega]
end Go.Proofs.YtmhoikfoogemnaaGreatDoor
namespace Go.Proofs.YtmhoikfoogemnaaGreatDoor
open Go Go.RowKit Go.Vc
set_option linter.unusedVariables false
set_option linter.unusedSimpArgs false
end Go.Proofs.YtmhoikfoogemnaaGreatDoor
namespace Go.Proofs.YtmhoikfoogemnaaGreatDoor
open Go Go.RowKit Go.Vc
set_option linter.unusedVariables false
set_option linter.unusedSimpArgs false
theorem yA {a b:Int} (ha:kX a) (hb:kX b):nD a b=some (if kX (a * b)then(a * b,true)else(0,false)):=by
 unfold nD
 rw[JL ha,JL hb,Option.bind_some,Option.bind_some]
 obtain⟨hi,lo,p1,⟨p2,p3⟩,⟨p4,p5⟩,p6⟩:=Fu (a:=(a.natAbs:Int)) (b:=(b.natAbs:Int)) ⟨by omega,by have:=ha.1;have:=ha.2;omega⟩ ⟨by omega,by have:=hb.1;have:=hb.2;omega⟩
 have hs:=Lj a b
 rw[← p6]at hs
 rw[p1,Option.bind_some,Option.bind_some]
 dsimp only
 generalize (decide (a<0) != decide (b<0))=ng at *
 generalize a * b=q at *
 by_cases c:(((!decide (hi=0))||(decide (9223372036854775808<lo)))||((decide (lo=9223372036854775808))&&(!ng)))=true
 ·rw[if_pos c,if_neg]
  intro ⟨r1,r2⟩
  simp only[Bool.or_eq_true,Bool.not_eq_true',decide_eq_false_iff_not,decide_eq_true_eq,Bool.and_eq_true]at c
  cases ng with
  | true=>simp at hs c;omega
  | false=>simp at hs c;omega
 ·rw[if_neg c]
  simp only[Bool.or_eq_true,Bool.not_eq_true',decide_eq_false_iff_not,decide_eq_true_eq,Bool.and_eq_true,not_or,Classical.not_not]at c
  cases ng with
  | true=>
   simp at hs c
   rw[if_pos rfl,if_pos ⟨by omega,by omega⟩]
   have e:av (fi (-lo))= -lo:=wiwu ⟨by omega,by omega⟩
   rw[e,hs]
   refine congrArg some (Prod.ext ?_ rfl)
   dsimp only;omega
  | false=>
   simp at hs c
   rw[if_neg (by simp),if_pos ⟨by omega,by omega⟩,wi ⟨by omega,by omega⟩,hs]
   refine congrArg some (Prod.ext ?_ rfl)
   dsimp only;omega
theorem Nc {x:Int} (h: -18446744073709551616≤x∧x≤18446744073709551614):av x=if x< -9223372036854775808 then x+18446744073709551616 else if 9223372036854775807<x then x - 18446744073709551616 else x:=by
 split
 ·exact Mp (y:=x+18446744073709551616) (c:= -1) ⟨by omega,by omega⟩ (by omega)
 ·split
  ·exact Mp (y:=x - 18446744073709551616) (c:=1) ⟨by omega,by omega⟩ (by omega)
  ·exact wi ⟨by omega,by omega⟩
theorem GT {a b:Int} (ha:kX a) (hb:kX b):oH a b=some (av (a+b),decide (kX (a+b))):=by
 obtain⟨a1,a2⟩:=ha
 obtain⟨b1,b2⟩:=hb
 unfold oH
 refine congrArg some (Prod.ext rfl ?_)
 dsimp only
 rw[Nc ⟨by omega,by omega⟩]
 by_cases c1:a+b< -9223372036854775808
 ·rw[if_pos c1,decide_eq_false (p:=kX (a+b)) (λh=>by have:=h.1;omega),decide_eq_true (by omega),decide_eq_false (by omega)];rfl
 rw[if_neg c1]
 by_cases c2:9223372036854775807<a+b
 ·rw[if_pos c2,decide_eq_false (p:=kX (a+b)) (λh=>by have:=h.2;omega),decide_eq_false (by omega),decide_eq_true (by omega)];rfl
 rw[if_neg c2,decide_eq_true (p:=kX (a+b)) ⟨by omega,by omega⟩]
 by_cases c3:0<b
 ·rw[decide_eq_true (by omega),decide_eq_true c3];rfl
 ·rw[decide_eq_false (by omega),decide_eq_false c3];rfl
theorem KW (x:Int):(-9223372036854775808≤av x)∧(av x≤9223372036854775807)∧(av x - x) % 18446744073709551616=0:=by
 simp only[av,IntKind.wrap,IntKind.signed,IntKind.bits]
 simp
 omega
theorem z7 {a b:Int} (ha:kX a) (hb:kX b):oh a b=some (if kX (a * b)then(a * b,true)else(0,false)):=by
 unfold oh
 by_cases c0:a=0∨b=0
 ·have e:a * b=0:=by rcases c0 with rfl | rfl<;>simp
  rw[if_pos (by simpa using c0),e,if_pos (by decide)]
 rw[if_neg (by simpa using c0)]
 have hb0:b≠0:=λh=>c0 (.inr h)
 rw[if_pos (λ_=>hb0)]
 obtain⟨a1,a2⟩:=ha
 obtain⟨b1,b2⟩:=hb
 obtain⟨m1,m2,_⟩:=LE ⟨a1,a2⟩ ⟨b1,b2⟩
 by_cases cm:(a= -1∧b= -9223372036854775808)∨(b= -1∧a= -9223372036854775808)
 ·have e:a * b=9223372036854775808:=by rcases cm with⟨rfl,rfl⟩ | ⟨rfl,rfl⟩<;>rfl
  rw[if_pos,e,if_neg (by decide)]
  rcases cm with⟨rfl,rfl⟩ | ⟨rfl,rfl⟩<;>simp
 have ecm:(((decide (a=(-1)))&&(decide (b=(-9223372036854775808))))||((decide (b=(-1)))&&(decide (a=(-9223372036854775808)))))=false:=by
  rw[Bool.eq_false_iff];intro h;exact cm (by simpa using h)
 rw[ecm,Bool.false_or]
 by_cases c:kX (a * b)
 ·rw[wi c,Int.mul_tdiv_cancel _ hb0,wi ⟨a1,a2⟩,if_pos c];simp
 ·rw[if_neg c,if_pos]
  simp only[Bool.not_eq_true',decide_eq_false_iff_not]
  intro he
  obtain⟨w1,w2,w3⟩:=KW (a * b)
  generalize av (a * b)=w at *
  have t1:=Int.mul_tdiv_add_tmod w b
  have t2:(Int.tmod w b).natAbs<b.natAbs:=by rw[Int.natAbs_tmod];exact Nat.mod_lt _ (by omega)
  have t3:(Int.tdiv w b).natAbs≤w.natAbs:=by rw[Int.natAbs_tdiv];exact Nat.div_le_self _ _
  have t4:Int.tdiv w b=a:=by
   by_cases c2:kX (Int.tdiv w b)
   ·rw[wi c2]at he;exact he
   ·have t5:Int.tdiv w b=9223372036854775808:=by
     generalize Int.tdiv w b=u at *
     exact Classical.byContradiction λh=>c2 ⟨by omega,by omega⟩
    rw[t5]at he t1
    rw[show av 9223372036854775808= -9223372036854775808 from rfl]at he
    exact absurd (.inr ⟨by omega,he.symm⟩) cm
  rw[t4,Int.mul_comm]at t1
  generalize a * b=q at *
  exact c (by omega)
end Go.Proofs.YtmhoikfoogemnaaGreatDoor
namespace Go.Proofs.YtmhoikfoogemnaaGreatDoor
open Go Go.RowKit Go.Vc
set_option linter.unusedVariables false
set_option linter.unusedSimpArgs false
def Ab:List bv→List bv→List bv
 | [],b=>b
 | x::a,[]=>x::a
 | x::a,y::b=>
  if Op.bytesLess x.Name y.Name=true then x::Ab a (y::b)
  else if Op.bytesLess y.Name x.Name=true then y::Ab (x::a) b
  else if x.By+y.By=0 then Ab a b else⟨x.Name,x.By+y.By⟩::Ab a b
termination_by a b=>a.length+b.length
def xV:List bv→List bv→Prop
 | [],_=>True
 | _ :: _,[]=>True
 | x::a,y::b=>
  if Op.bytesLess x.Name y.Name=true then xV a (y::b)
  else if Op.bytesLess y.Name x.Name=true then xV (x::a) b
  else kX (x.By+y.By)∧xV a b
termination_by a b=>a.length+b.length
theorem G6 (a:List bv):Ab a []=a:=by cases a<;>simp[Ab]
theorem Cf (a:List bv):xV a []:=by cases a<;>simp[xV]
theorem Cj (x y:bv) (a b:List bv):Ab (x::a) (y::b)=if Op.bytesLess x.Name y.Name=true then x::Ab a (y::b)else if Op.bytesLess y.Name x.Name=true then y::Ab (x::a) b else if x.By+y.By=0 then Ab a b else⟨x.Name,x.By+y.By⟩::Ab a b:=by rw[Ab]
theorem vf (x y:bv) (a b:List bv):xV (x::a) (y::b)↔if Op.bytesLess x.Name y.Name=true then xV a (y::b)else if Op.bytesLess y.Name x.Name=true then xV (x::a) b else kX (x.By+y.By)∧xV a b:=by rw[xV]
def QU (by_:Int) (l:List bv):List bv:=l.map λm=>⟨m.Name,m.By * by_⟩
def OD (by_:Int) (l:List bv):Prop:=∀ m∈l,kX (m.By * by_)
theorem Kz (a:aC) (by_:Int) (ha:cv a) (hw:Wf a) (hb:kX by_) (h0:by_≠0) (hl:a.L.length≤100000):
  ∃ r,kF a by_=some r∧((r=(⟨a.K * by_,QU by_ a.L⟩,0)∧kX (a.K * by_)∧OD by_ a.L)∨(r=(⟨0,[]⟩,3)∧¬ (kX (a.K * by_)∧OD by_ a.L))):=by
 obtain⟨b,b0,b1,_⟩:=mv a (by omega)
 unfold kF
 rw[b1,if_pos (b0.2 ha),Option.bind_some,if_neg (by simp),if_neg (by simpa using h0),yA hw.k hb,Option.bind_some]
 obtain⟨kk,kf,ek,e1,e2⟩:∃ (kk:Int) (kf:Bool),(if kX (a.K * by_)then(a.K * by_,true)else(0,false))=(kk,kf)∧(kf=true↔kX (a.K * by_))∧(kX (a.K * by_)→kk=a.K * by_):=by
  by_cases c:kX (a.K * by_)
  ·exact⟨_,_,if_pos c,⟨λ_=>c,λ_=>rfl⟩,λ_=>rfl⟩
  ·exact⟨_,_,if_neg c,⟨λh=>(by cases h),λh=>absurd h c⟩,λh=>absurd h c⟩
 rw[ek]
 refine qU (L:=λf (s:Bool×aC) i=>gz a by_ f s.1 i s.2) (n:=a.L.length) (by omega)
  (λi s=>(s.1=true↔kX (a.K * by_)∧OD by_ (a.L.take i))∧s.2.L.length=i∧(s.1=true→s.2=⟨a.K * by_,QU by_ (a.L.take i)⟩)) _ ?_ ?_ (kf,⟨kk,[]⟩) ⟨by rw[e1];simp[OD],rfl,λh=>by rw[e2 (e1.1 h)];rfl⟩
 ·rintro f i ⟨fl,out⟩ hi ⟨h1,h2,h3⟩
  obtain⟨x,hx⟩:=bY hi
  have hxm:=List.mem_of_getElem? hx
  dsimp only at h1 h2 h3
  left
  have okt:OD by_ (a.L.take (i+1))↔OD by_ (a.L.take i)∧kX (x.By * by_):=by
   rw[bE hx];unfold OD
   exact⟨λh=>⟨λm hm=>h m (List.mem_append_left _ hm),h x (by simp)⟩,λ⟨k1,k2⟩ m hm=>by
    rcases List.mem_append.1 hm with hm | hm
    ·exact k1 m hm
    ·rw[List.mem_singleton.1 hm];exact k2⟩
  by_cases c:kX (x.By * by_)
  ·refine⟨(fl&&true,⟨out.K,out.L++[⟨x.Name,x.By * by_⟩]⟩),⟨?_,by simp[h2],?_⟩,?_⟩
   ·rw[Bool.and_true,h1,okt];exact⟨λ⟨p,q⟩=>⟨p,q,c⟩,λ⟨p,q,_⟩=>⟨p,q⟩⟩
   ·intro hf
    have:=h3 (by simpa using hf)
    rw[this,bE hx];simp[QU]
   ·simp only[gz]
    rw[if_pos (bs hi),bn hx,Option.bind_some,yA (hw.b x hxm) hb,if_pos c,Option.bind_some,aR (by simp;omega),Option.bind_some,mH (by omega)]
  ·refine⟨(fl&&false,⟨out.K,out.L++[⟨x.Name,0⟩]⟩),⟨?_,by simp[h2],?_⟩,?_⟩
   ·rw[Bool.and_false];exact⟨λh=>(by cases h),λ⟨_,h⟩=>absurd (okt.1 h).2 c⟩
   ·intro hf;simp at hf
   ·simp only[gz]
    rw[if_pos (bs hi),bn hx,Option.bind_some,yA (hw.b x hxm) hb,if_neg c,Option.bind_some,aR (by simp;omega),Option.bind_some,mH (by omega)]
 ·rintro f ⟨fl,out⟩ ⟨h1,h2,h3⟩
  rw[List.take_length]at h1 h3
  dsimp only at h1 h3
  simp only[gz]
  rw[if_neg (by simp),oa]
  cases fl with
  | true=>exact⟨_,by rw[if_neg (by simp)],.inl ⟨by rw[h3 rfl],h1.1 rfl⟩⟩
  | false=>exact⟨_,by rw[if_pos (by simp)],.inr ⟨rfl,λh=>by have:=h1.2 h;cases this⟩⟩
theorem OQ {α:Type} (x:α) (l:List α):lat (x::l) 0=some x:=rfl
theorem Cm {α:Type} (x:α) (l:List α):iJ (x::l) 1=some l:=by unfold iJ;rw[if_pos ⟨by omega,by simp;omega⟩];rfl
theorem CE (name:List UInt8) (x y:Int) (fl:Bool) (out:aC) (hx:kX x) (hy:kX y) (ho:out.L.length<1000000):
  ∃ s',ff name x y fl out=some ((),s')∧s'.1=(fl&&decide (kX (x+y)))∧s'.2.L.length≤out.L.length+1∧s'.2.K=out.K∧(kX (x+y)→s'.2.L=out.L++if x+y=0 then[]else[⟨name,x+y⟩]):=by
 unfold ff
 rw[GT hx hy,Option.bind_some]
 dsimp only
 by_cases c:av (x+y)=0
 ·refine⟨_,by rw[if_neg (by simpa using c)],rfl,by dsimp only;omega,rfl,λh=>?_⟩
  rw[wi h]at c;rw[if_pos c];simp
 ·refine⟨_,by rw[if_pos (by simpa using c),aR (by simp;omega)];rfl,rfl,by simp,rfl,λh=>?_⟩
  rw[wi h]at c ⊢;rw[if_neg c]
theorem JI:∀ (n f:Nat) (a b:List bv) (fl:Bool) (out:aC),a.length+b.length≤n→n<f→(∀ m∈a,m.By≠0∧kX m.By)→(∀ m∈b,m.By≠0∧kX m.By)→out.L.length+n<1000000→
  ∃ s',cQ (λx_1 x_2 x_3 (s:Bool×aC)=>ff x_1 x_2 x_3 (s.1) (s.2)) f a b (fl,out)=some ((),s')∧(s'.1=true↔fl=true∧xV a b)∧(xV a b→s'.2=⟨out.K,out.L++Ab a b⟩):=by
 intro n
 induction n with
 | zero=>
  intro f a b fl out hn hf ha hb ho
  obtain⟨f,rfl⟩:∃ g,f=g+1:=⟨f - 1,by omega⟩
  obtain rfl:a=[]:=List.length_eq_zero_iff.1 (by omega)
  obtain rfl:b=[]:=List.length_eq_zero_iff.1 (by omega)
  exact⟨(fl,out),by simp only[cQ];rw[if_neg (by simp)],by simp[xV],λ_=>by simp[Ab]⟩
 | succ n ih=>
  intro f a b fl out hn hf ha hb ho
  obtain⟨f,rfl⟩:∃ g,f=g+1:=⟨f - 1,by omega⟩
  simp only[cQ]
  have r0:kX 0:=by decide
  have takeA:∀ x a',a=x::a'→∃ s',((ff x.Name x.By 0 fl out).bind λx_1=>match x_1 with | (r1,s3)=>(iJ a 1).bind λzs1=>cQ (λx_1 x_2 x_3 (s:Bool×aC)=>ff x_1 x_2 x_3 (s.1) (s.2)) f zs1 b s3)=some ((),s')∧(s'.1=true↔fl=true∧xV a' b)∧(xV a' b→s'.2=⟨out.K,out.L++x::Ab a' b⟩):=by
   rintro x a' rfl
   obtain⟨h1,h2⟩:=ha x (by simp)
   obtain⟨⟨fl',out'⟩,e1,e2,e3,e4,e5⟩:=CE x.Name x.By 0 fl out h2 r0 (by omega)
   rw[Int.add_zero]at e2 e5
   simp only[List.length_cons]at hn
   obtain⟨s',g1,g2,g3⟩:=ih f a' b fl' out' (by omega) (by omega) (λm hm=>ha m (by simp[hm])) hb (by dsimp only at e3;omega)
   refine⟨s',by rw[e1,Option.bind_some];dsimp only;rw[Cm,Option.bind_some];exact g1,?_,λh=>?_⟩
   ·dsimp only at e2;rw[g2,e2];simp[h2]
   ·dsimp only at e4 e5;rw[g3 h,e4,e5 h2,if_neg h1];simp
  have takeB:∀ y b',b=y::b'→∃ s',((ff y.Name 0 y.By fl out).bind λx_1=>match x_1 with | (r1,s3)=>(iJ b 1).bind λzs1=>cQ (λx_1 x_2 x_3 (s:Bool×aC)=>ff x_1 x_2 x_3 (s.1) (s.2)) f a zs1 s3)=some ((),s')∧(s'.1=true↔fl=true∧xV a b')∧(xV a b'→s'.2=⟨out.K,out.L++y::Ab a b'⟩):=by
   rintro y b' rfl
   obtain⟨h1,h2⟩:=hb y (by simp)
   obtain⟨⟨fl',out'⟩,e1,e2,e3,e4,e5⟩:=CE y.Name 0 y.By fl out r0 h2 (by omega)
   rw[Int.zero_add]at e2 e5
   simp only[List.length_cons]at hn
   obtain⟨s',g1,g2,g3⟩:=ih f a b' fl' out' (by omega) (by omega) ha (λm hm=>hb m (by simp[hm])) (by dsimp only at e3;omega)
   refine⟨s',by rw[e1,Option.bind_some];dsimp only;rw[Cm,Option.bind_some];exact g1,?_,λh=>?_⟩
   ·dsimp only at e2;rw[g2,e2];simp[h2]
   ·dsimp only at e4 e5;rw[g3 h,e4,e5 h2,if_neg h1];simp
  cases a with
  | nil=>
   cases b with
   | nil=>exact⟨(fl,out),by rw[if_neg (by simp)],by simp[xV],λ_=>by simp[Ab]⟩
   | cons y b=>
    obtain⟨s',g1,g2,g3⟩:=takeB y b rfl
    refine⟨s',?_,?_,λ_=>?_⟩
    ·rw[if_pos (by simp)]
     have d1:decide (((y::b).length:Int)=0)=false:=by rw[decide_eq_false_iff_not];simp;omega
     have d2:decide (0<(([]:List bv).length:Int))=false:=rfl
     have d3:decide ((([]:List bv).length:Int)=0)=true:=rfl
     simp only[d1,d2,d3,gd,Bool.not_false,Bool.not_true,Bool.and_false,Bool.false_and,Bool.false_or,Bool.true_or,Bool.false_eq_true,if_false,if_true,Option.bind_some,OQ]
     exact g1
    ·rw[g2];simp[xV]
    ·rw[g3 (by simp[xV])];simp[Ab]
  | cons x a=>
   cases b with
   | nil=>
    obtain⟨s',g1,g2,g3⟩:=takeA x a rfl
    refine⟨s',?_,?_,λ_=>?_⟩
    ·rw[if_pos (by simp)]
     have d3:decide ((([]:List bv).length:Int)=0)=true:=rfl
     simp only[d3,gd,Bool.not_true,Bool.false_and,Bool.true_or,Bool.false_eq_true,if_false,if_true,Option.bind_some,OQ]
     exact g1
    ·rw[g2];simp[xV,Cf]
    ·rw[g3 (Cf a),G6];simp[Ab]
   | cons y b=>
    rw[if_pos (by simp)]
    have d1:decide (((y::b).length:Int)=0)=false:=by rw[decide_eq_false_iff_not];simp;omega
    have d2:decide (0<((x::a).length:Int))=true:=by rw[decide_eq_true_iff];simp<;>omega
    have d3:decide (((x::a).length:Int)=0)=false:=by rw[decide_eq_false_iff_not];simp;omega
    simp only[d1,d2,d3,gd,Bool.not_false,Bool.and_true,Bool.true_and,Bool.false_or,if_true,Option.bind_some,OQ]
    by_cases c1:Op.bytesLess x.Name y.Name=true
    ·obtain⟨s',g1,g2,g3⟩:=takeA x a rfl
     refine⟨s',by rw[if_pos c1];exact g1,?_,λh=>?_⟩
     ·rw[g2,vf,if_pos c1]
     ·rw[vf,if_pos c1]at h;rw[g3 h,Cj,if_pos c1]
    rw[if_neg c1]
    by_cases c2:Op.bytesLess y.Name x.Name=true
    ·obtain⟨s',g1,g2,g3⟩:=takeB y b rfl
     refine⟨s',by rw[if_pos c2];exact g1,?_,λh=>?_⟩
     ·rw[g2,vf,if_neg c1,if_pos c2]
     ·rw[vf,if_neg c1,if_pos c2]at h;rw[g3 h,Cj,if_neg c1,if_pos c2]
    rw[if_neg c2]
    obtain⟨h1,h2⟩:=ha x (by simp)
    obtain⟨h3,h4⟩:=hb y (by simp)
    obtain⟨⟨fl',out'⟩,e1,e2,e3,e4,e5⟩:=CE x.Name x.By y.By fl out h2 h4 (by omega)
    simp only[List.length_cons]at hn
    obtain⟨s',g1,g2,g3⟩:=ih f a b fl' out' (by omega) (by omega) (λm hm=>ha m (by simp[hm])) (λm hm=>hb m (by simp[hm])) (by dsimp only at e3;omega)
    refine⟨s',by rw[e1,Option.bind_some];dsimp only;rw[Cm,Option.bind_some,Cm,Option.bind_some];exact g1,?_,λh=>?_⟩
    ·dsimp only at e2;rw[g2,e2,vf,if_neg c1,if_neg c2,Bool.and_eq_true,decide_eq_true_iff]
     exact⟨λ⟨⟨p,q⟩,r⟩=>⟨p,q,r⟩,λ⟨p,q,r⟩=>⟨⟨p,q⟩,r⟩⟩
    ·rw[vf,if_neg c1,if_neg c2]at h
     dsimp only at e4 e5
     rw[g3 h.2,e4,e5 h.1,Cj,if_neg c1,if_neg c2]
     split<;>simp
theorem KE (a b:aC) (ha:cv a) (hb:cv b) (wa:Wf a) (wb:Wf b) (hl:a.L.length+b.L.length≤100000):
  ∃ r,pV a b=some r∧((r=(⟨a.K+b.K,Ab a.L b.L⟩,0)∧kX (a.K+b.K)∧xV a.L b.L)∨(r=(⟨0,[]⟩,3)∧¬ (kX (a.K+b.K)∧xV a.L b.L))):=by
 obtain⟨q,q0,q1,_⟩:=mv a (by omega)
 obtain⟨p,p0,p1,_⟩:=mv b (by omega)
 unfold pV
 rw[q1,if_pos (q0.2 ha),Option.bind_some,p1,if_pos (p0.2 hb)]
 simp only[gd,decide_true,Bool.not_true,Bool.not_false,if_true,Option.bind_some,Bool.or_false,Bool.false_eq_true,if_false]
 rw[GT wa.k wb.k,Option.bind_some]
 obtain⟨⟨fl,out⟩,e1,e2,e3⟩:=JI (a.L.length+b.L.length) fu a.L b.L (decide (kX (a.K+b.K))) ⟨av (a.K+b.K),[]⟩ (Nat.le_refl _) (by unfold fu;omega) (λm hm=>⟨(ha.1 m hm).2,wa.b m hm⟩) (λm hm=>⟨(hb.1 m hm).2,wb.b m hm⟩) (by simp;omega)
 unfold oU
 rw[e1,Option.bind_some]
 dsimp only at e2 e3 ⊢
 rw[decide_eq_true_iff]at e2
 cases fl with
 | true=>
  obtain⟨h1,h2⟩:=e2.1 rfl
  exact⟨_,by rw[if_neg (by simp)],.inl ⟨by rw[e3 h2,wi h1];simp,h1,h2⟩⟩
 | false=>exact⟨_,by rw[if_pos (by simp)],.inr ⟨rfl,λh=>by have:=e2.2 h;cases this⟩⟩
end Go.Proofs.YtmhoikfoogemnaaGreatDoor
