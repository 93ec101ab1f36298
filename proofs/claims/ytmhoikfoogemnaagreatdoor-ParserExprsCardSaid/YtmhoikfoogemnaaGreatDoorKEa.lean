import Derived.Test.YtmhoikfoogemnaaGreatDoorKVd
import Derived.Lib.ItoaNum
import Derived.Test.YtmhoikfoogemnaaGreatDoorKWj
namespace Go.Proofs.YtmhoikfoogemnaaGreatDoor
open Go Go.RowKit Go.Vc
set_option linter.unusedVariables false
set_option linter.unusedSimpArgs false
def oW (c:UInt8):Bool:=decide (48≤c.toNat)&&decide (c.toNat≤57)
def i8 (n:Nat) (s:List UInt8):Nat:=s.foldl (fun n c=>10 * n+(c.toNat - 48)) n
def bN (s:List UInt8):Nat:=i8 0 s
theorem kP (n:Nat) (c:UInt8) (s:List UInt8):i8 n (c::s)=i8 (10 * n+(c.toNat - 48)) s:=by unfold i8;rw[List.foldl_cons]
theorem tO (s:List UInt8) (n:Nat):n * 10 ^ s.length≤i8 n s:=by
 induction s generalizing n with
 | nil=>simp[i8]
 | cons c s ih=>
  rw[kP]
  have h:=ih (10 * n+(c.toNat - 48))
  have:n * 10 ^ (c::s).length=(10 * n) * 10 ^ s.length:=by
   rw[List.length_cons,Nat.pow_succ,Nat.mul_comm (10 ^ s.length) 10, ← Nat.mul_assoc,Nat.mul_comm n 10]
  rw[this]
  exact Nat.le_trans (Nat.mul_le_mul_right _ (by omega)) h
theorem AQ {n:Int} (h:kB n):jN n=some (if n<0 then -n else n):=by
 obtain⟨h1,h2⟩:=h
 unfold jN
 by_cases hn:n<0
 ·simp only[hn,decide_true,if_true]
  rw[wi (p:=n+1) ⟨by omega,by omega⟩,wi (p:= -(n+1)) ⟨by omega,by omega⟩,wu (p:= -(n+1)) ⟨by omega,by omega⟩,wu ⟨by omega,by omega⟩]
  congr 1;omega
 ·simp only[hn,decide_false,Bool.false_eq_true,if_false]
  rw[wu ⟨by omega,by omega⟩]
theorem sk (n:Nat) (s:List UInt8) (c:UInt8):i8 n (s++[c])=10 * i8 n s+(c.toNat - 48):=by
 unfold i8;rw[List.foldl_append];rfl
theorem ws {u:Nat} (h:u<10):Lib.decDigits u=[UInt8.ofNat (48+u)]:=by rw[Lib.decDigits,dif_pos h]
theorem Ex {u:Nat} (h:¬ u<10):Lib.decDigits u=Lib.decDigits (u / 10)++[UInt8.ofNat (48+u % 10)]:=by rw[Lib.decDigits,dif_neg h]
theorem Ae {s t:List UInt8} (h:s≠[]):(s++t).head?=s.head?:=by cases s with | nil=>exact absurd rfl h | cons c r=>rfl
theorem yy {n:Int} (h:0≤n):Lib.itoa n=Lib.decDigits n.toNat:=by unfold Lib.itoa;rw[if_neg (by omega)]
theorem B4 {n:Int} (h:n<0):Lib.itoa n=45::Lib.decDigits n.natAbs:=by unfold Lib.itoa;rw[if_pos h]
def Et (a:GVal):List UInt8:=if oY a then(if a.D=1 then Lib.itoa a.N else Lib.itoa a.N++47::Lib.itoa a.D)else[]
end Go.Proofs.YtmhoikfoogemnaaGreatDoor
namespace Go.Proofs.YtmhoikfoogemnaaGreatDoor
open Go Go.RowKit Go.Vc
set_option linter.unusedVariables false
set_option linter.unusedSimpArgs false
theorem FC:ki=some true:=by kernel_rfl
def yI (s:List UInt8):Bool:=decide (s=[48])||(decide (s≠[])&& !decide (s.head?=some 48))
def so (s:List UInt8):Bool:=s.all oW&&yI s
theorem Gf (s:List UInt8):iJ s=some (yI s)∧jM s=some (yI s):=by
 unfold iJ jM yI
 cases s with
 | nil=>exact⟨rfl,rfl⟩
 | cons c r=>
  have h:sat (c::r) 0=some (c.toNat:Int):=fD (i:=0) rfl
  have hc:decide ((c.toNat:Int)=48)=decide (c=48):=by
   rw[decide_eq_decide]
   exact⟨fun h=>UInt8.toNat_inj.1 (by simpa using(by omega:c.toNat=48)),fun h=>by rw[h];rfl⟩
  have hl:decide ((0:Int)<((c::r).length:Int))=true:=decide_eq_true (by simp only[List.length_cons];omega)
  rw[h,hl]
  by_cases e:c::r=[48]
  ·rw[e];exact⟨rfl,rfl⟩
  ·simp[gd,e,hc]
theorem vk (d:UInt8):oW d=true↔¬ ((d.toNat:Int)<48)∧¬ (57<(d.toNat:Int)):=by
 unfold oW;simp only[Bool.and_eq_true,decide_eq_true_eq];omega
theorem vP (s:List UInt8) (hl:s.length<4611686018427387904):me s=some (so s):=by
 refine kO (L:=fun f (_:Unit) i=>d9 s f i) (n:=s.length) hl (fun i _=>(s.take i).all oW=true) (fun f i _ hi hI=> ?_) (fun f _ hI=> ?_) () (by simp)
 ·obtain⟨d,hd⟩:=cx hi
  simp only[d9]
  rw[if_pos (cb hi),fD hd,Option.bind_some]
  by_cases h:oW d=true
  ·left
   obtain⟨h1,h2⟩:=(vk d).1 h
   refine⟨(),by rw[cO hd,List.all_append,hI];simp[h],?_⟩
   simp only[gd,h1,h2,decide_false,Bool.not_false,if_true,Option.bind_some,Bool.or_false,Bool.false_eq_true,if_false,mU (show i<4611686018427387904 by omega)]
  ·right
   have hn:so s=false:=by
    unfold so;rw[Bool.eq_false_iff];intro h'
    exact h (List.all_eq_true.1 (Bool.and_eq_true _ _ ▸h').1 d (List.mem_of_getElem? hd))
   rw[hn]
   by_cases h1:(d.toNat:Int)<48
   ·simp[gd,h1]
   ·have h2:57<(d.toNat:Int):=Classical.byContradiction fun h2=>h ((vk d).2 ⟨h1,h2⟩)
    simp[gd,h1];omega
 ·rw[List.take_length]at hI
  simp only[d9]
  rw[if_neg (by simp),(Gf s).1];unfold so;rw[hI,Bool.true_and]
theorem vC (s:List UInt8) (hl:s.length<4611686018427387904):m6 s=some (so s):=by
 refine kO (L:=fun f (_:Unit) i=>fz s f i) (n:=s.length) hl (fun i _=>(s.take i).all oW=true) (fun f i _ hi hI=> ?_) (fun f _ hI=> ?_) () (by simp)
 ·obtain⟨d,hd⟩:=cx hi
  simp only[fz]
  rw[if_pos (cb hi),fD hd,Option.bind_some]
  by_cases h:oW d=true
  ·left
   obtain⟨h1,h2⟩:=(vk d).1 h
   refine⟨(),by rw[cO hd,List.all_append,hI];simp[h],?_⟩
   simp only[gd,h1,h2,decide_false,Bool.not_false,if_true,Option.bind_some,Bool.or_false,Bool.false_eq_true,if_false,mU (show i<4611686018427387904 by omega)]
  ·right
   have hn:so s=false:=by
    unfold so;rw[Bool.eq_false_iff];intro h'
    exact h (List.all_eq_true.1 (Bool.and_eq_true _ _ ▸h').1 d (List.mem_of_getElem? hd))
   rw[hn]
   by_cases h1:(d.toNat:Int)<48
   ·simp[gd,h1]
   ·have h2:57<(d.toNat:Int):=Classical.byContradiction fun h2=>h ((vk d).2 ⟨h1,h2⟩)
    simp[gd,h1];omega
 ·rw[List.take_length]at hI
  simp only[fz]
  rw[if_neg (by simp),(Gf s).2];unfold so;rw[hI,Bool.true_and]
def nD (neg:Bool):Nat:=if neg then 9223372036854775808 else 9223372036854775807
def uz (neg:Bool) (n:Nat):Int:=if neg then -(n:Int)else n
def rA (s:List UInt8) (neg:Bool):Int×Bool:=if bN s≤nD neg then(uz neg (bN s),true)else(0,false)
theorem Hh (neg:Bool):nD neg≤9223372036854775808:=by unfold nD;split<;>omega
theorem xW {s:List UInt8} (i:Nat):bN (s.take i)≤bN s:=by
 have e:bN s=i8 (bN (s.take i)) (s.drop i):=by
  unfold bN i8;rw[← List.foldl_append,List.take_append_drop]
 rw[e]
 have h:=tO (s.drop i) (bN (s.take i))
 exact Nat.le_trans (Nat.le_mul_of_pos_right _ (Nat.pow_pos (by omega))) h
theorem xX {s:List UInt8} {i:Nat} {c:UInt8} (h:s[i]? =some c):bN (s.take (i+1))=10 * bN (s.take i)+(c.toNat - 48):=by
 rw[cO h];unfold bN;exact sk _ _ _
theorem Bq {c:UInt8} (h:oW c=true):48≤c.toNat∧c.toNat≤57:=by
 unfold oW at h;simpa using h
theorem BG {c:UInt8} (h:oW c=true):E0 ((c.toNat:Int) - 48)=(c.toNat:Int) - 48:=by
 have:=Bq h
 exact HO (p:=(c.toNat:Int) - 48) ⟨by omega,by omega⟩
theorem zI (s:List UInt8) (neg:Bool):kB (rA s neg).1:=by
 unfold rA
 split
 ·next h=>unfold uz;unfold nD at h;cases neg<;>simp only[Bool.false_eq_true,if_false,if_true]at h ⊢ <;>exact⟨by omega,by omega⟩
 ·exact⟨by omega,by omega⟩
theorem uD (neg:Bool) {n:Nat} (h:n≤nD neg):jk neg (n:Int)=some (uz neg n,true):=by
 unfold jk uz
 unfold nD at h
 cases neg with
 | false=>
  simp only[Bool.false_eq_true,if_false]at h ⊢
  rw[wi ⟨by omega,by omega⟩]
 | true=>
  simp only[if_true]at h ⊢
  by_cases e:n=9223372036854775808
  ·subst e;rfl
  ·rw[wi (p:=(n:Int)) ⟨by omega,by omega⟩,wi ⟨by omega,by omega⟩]
theorem sK (s:List UInt8) (neg:Bool) (hl:s.length<4611686018427387904) (hd:s.all oW=true):dP s (nD neg:Int) neg fu 0 0=some (rA s neg):=by
 refine kO (L:=fun f (n:Int) i=>dP s (nD neg:Int) neg f n i) (n:=s.length) hl (fun i n=>n=(bN (s.take i):Int)∧bN (s.take i)≤nD neg) (fun f i n hi hI=> ?_) (fun f n hI=> ?_) 0 (by simp[bN,i8])
 ·obtain⟨c,hc⟩:=cx hi
  obtain⟨rfl,h2⟩:=hI
  have hdc:=List.all_eq_true.1 hd c (List.mem_of_getElem? hc)
  have hb:=Bq hdc
  have hL:=Hh neg
  have hL2:9223372036854775807≤nD neg:=by unfold nD;split<;>omega
  have e1:kC ((c.toNat:Int) - 48)=(c.toNat:Int) - 48:=wu ⟨by omega,by omega⟩
  have e2:kC ((nD neg:Int) - ((c.toNat:Int) - 48))=(nD neg:Int) - ((c.toNat:Int) - 48):=wu ⟨by omega,by omega⟩
  have e3:Int.tdiv ((nD neg:Int) - ((c.toNat:Int) - 48)) 10=((nD neg:Int) - ((c.toNat:Int) - 48)) / 10:=Int.tdiv_eq_ediv_of_nonneg (by omega)
  simp only[dP]
  rw[if_pos (cb hi),fD hc,Option.bind_some,BG hdc,e1,e2,e3,wu (p:=((nD neg:Int) - ((c.toNat:Int) - 48)) / 10) ⟨by omega,by omega⟩]
  have hs:=xX hc
  by_cases h:((nD neg:Int) - ((c.toNat:Int) - 48)) / 10<(bN (s.take i):Int)
  ·right
   rw[if_pos (by simpa using h)]
   have:=xW (s:=s) (i+1)
   unfold rA
   rw[if_neg (by omega)]
  ·left
   have h3:bN (s.take (i+1))≤nD neg:=by omega
   refine⟨(bN (s.take (i+1)):Int),⟨rfl,h3⟩,?_⟩
   rw[if_neg (by simpa using h),Option.bind_some,wu (p:=10 * (bN (s.take i):Int)) ⟨by omega,by omega⟩,wu ⟨by omega,by omega⟩,mU (show i<4611686018427387904 by omega)]
   congr 1;omega
 ·obtain⟨rfl,h2⟩:=hI
  rw[List.take_length]at h2 ⊢
  simp only[dP]
  rw[if_neg (by simp),uD neg h2]
  unfold rA;rw[if_pos h2]
theorem rL (s:List UInt8) (neg:Bool) (hl:s.length<4611686018427387904) (hd:s.all oW=true):iD s neg=some (rA s neg):=by
 have h:=sK s neg hl hd
 unfold iD jl
 cases neg with
 | false=>rw[show((nD false:Nat):Int)=9223372036854775807 from rfl]at h;rw[if_neg (by simp),h]
 | true=>rw[show((nD true:Nat):Int)=9223372036854775808 from rfl]at h;rw[if_pos rfl,h]
theorem vx {neg:Bool} {n:Nat} :kB (uz neg n)↔n≤nD neg:=by
 unfold uz nD;cases neg<;>simp only[Bool.false_eq_true,if_false,if_true]<;>exact⟨fun h=>by have:=h.1;have:=h.2;omega,fun h=>⟨by omega,by omega⟩⟩
theorem rY (s:List UInt8) (neg:Bool) (hl:s.length<4611686018427387904) (hd:s.all oW=true):gw s neg=some (rA s neg):=by
 refine kO (L:=fun f (n:Int) i=>cB s neg f n i) (n:=s.length) hl (fun i n=>n=uz neg (bN (s.take i))∧bN (s.take i)≤nD neg) (fun f i n hi hI=> ?_) (fun f n hI=> ?_) 0 (by simp[bN,i8,uz])
 ·obtain⟨c,hc⟩:=cx hi
  obtain⟨rfl,h2⟩:=hI
  have hdc:=List.all_eq_true.1 hd c (List.mem_of_getElem? hc)
  have hb:=Bq hdc
  have hs:=xX hc
  have ht:=xW (s:=s) (i+1)
  have e1:ar ((c.toNat:Int) - 48)=(c.toNat:Int) - 48:=wi ⟨by omega,by omega⟩
  have key:cB s neg (f+1) (uz neg (bN (s.take i))) (i:Int)=ir (uz neg (bN (s.take i))) (cB s neg f) (i:Int) (uz neg (c.toNat - 48)):=by
   simp only[cB]
   rw[if_pos (cb hi),fD hc,Option.bind_some,BG hdc,e1]
   cases neg with
   | false=>rw[if_neg (by simp)];congr 1;simp only[uz,Bool.false_eq_true,if_false];omega
   | true=>rw[if_pos rfl,Option.bind_some,wi (p:= -((c.toNat:Int) - 48)) ⟨by omega,by omega⟩];congr 1;simp only[uz,if_true];omega
  have hd9:kB (uz neg (c.toNat - 48)):=vx.2 (by unfold nD;split<;>omega)
  have e10:uz neg (bN (s.take i)) * 10=uz neg (10 * bN (s.take i)):=by unfold uz;cases neg<;>simp only[Bool.false_eq_true,if_false,if_true]<;>omega
  have FA:uz neg (10 * bN (s.take i))+uz neg (c.toNat - 48)=uz neg (bN (s.take (i+1))):=by rw[hs];unfold uz;cases neg<;>simp only[Bool.false_eq_true,if_false,if_true]<;>omega
  rw[key]
  unfold ir
  rw[ql (vx.2 h2) ⟨by omega,by omega⟩,Option.bind_some,e10]
  by_cases c1:10 * bN (s.take i)≤nD neg
  ·rw[if_pos (vx.2 c1)]
   dsimp only
   rw[rz (vx.2 c1) hd9,Option.bind_some,FA]
   by_cases c2:bN (s.take (i+1))≤nD neg
   ·left
    rw[if_pos (vx.2 c2)]
    exact⟨_,⟨rfl,c2⟩,by rw[if_neg (by simp),mU (show i<4611686018427387904 by omega)]⟩
   ·right
    rw[if_neg (fun h=>c2 (vx.1 h)),if_pos (by simp)]
    unfold rA;rw[if_neg (by omega)]
  ·right
   rw[if_neg (fun h=>c1 (vx.1 h))]
   dsimp only
   rw[rz ⟨by omega,by omega⟩ hd9,Option.bind_some,if_pos (by simp)]
   unfold rA;rw[if_neg (by omega)]
 ·obtain⟨rfl,h2⟩:=hI
  rw[List.take_length]at h2 ⊢
  simp only[cB]
  rw[if_neg (by simp)]
  unfold rA;rw[if_pos h2]
end Go.Proofs.YtmhoikfoogemnaaGreatDoor
