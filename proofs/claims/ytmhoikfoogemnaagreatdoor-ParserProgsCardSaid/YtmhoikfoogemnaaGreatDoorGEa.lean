import Derived.Test.YtmhoikfoogemnaaGreatDoorGVd
import Derived.Lib.ItoaNum
import Derived.Test.YtmhoikfoogemnaaGreatDoorGWj
namespace Go.Proofs.YtmhoikfoogemnaaGreatDoor
open Go Go.RowKit Go.Vc
set_option linter.unusedVariables false
set_option linter.unusedSimpArgs false
def qy (c:UInt8):Bool:=decide (48≤c.toNat)&&decide (c.toNat≤57)
def jF (n:Nat) (s:List UInt8):Nat:=s.foldl (λn c=>10 * n+(c.toNat - 48)) n
def cb (s:List UInt8):Nat:=jF 0 s
theorem lL (n:Nat) (c:UInt8) (s:List UInt8):jF n (c::s)=jF (10 * n+(c.toNat - 48)) s:=by unfold jF;rw[List.foldl_cons]
theorem wp (s:List UInt8) (n:Nat):n * 10 ^ s.length≤jF n s:=by
 induction s generalizing n with
 | nil=>simp[jF]
 | cons c s ih=>
  rw[lL]
  have h:=ih (10 * n+(c.toNat - 48))
  have:n * 10 ^ (c::s).length=(10 * n) * 10 ^ s.length:=by
   rw[List.length_cons,Nat.pow_succ,Nat.mul_comm (10 ^ s.length) 10, ← Nat.mul_assoc,Nat.mul_comm n 10]
  rw[this]
  exact Nat.le_trans (Nat.mul_le_mul_right _ (by omega)) h
theorem Dt {n:Int} (h:lq n):kx n=some (if n<0 then -n else n):=by
 obtain⟨h1,h2⟩:=h
 unfold kx
 by_cases hn:n<0
 ·simp only[hn,decide_true,if_true]
  rw[wi (p:=n+1) ⟨by omega,by omega⟩,wi (p:= -(n+1)) ⟨by omega,by omega⟩,wu (p:= -(n+1)) ⟨by omega,by omega⟩,wu ⟨by omega,by omega⟩]
  congr 1;omega
 ·simp only[hn,decide_false,Bool.false_eq_true,if_false]
  rw[wu ⟨by omega,by omega⟩]
theorem uT (n:Nat) (s:List UInt8) (c:UInt8):jF n (s++[c])=10 * jF n s+(c.toNat - 48):=by
 unfold jF;rw[List.foldl_append];rfl
theorem yB {u:Nat} (h:u<10):Lib.decDigits u=[UInt8.ofNat (48+u)]:=by rw[Lib.decDigits,dif_pos h]
theorem Hw {u:Nat} (h:¬ u<10):Lib.decDigits u=Lib.decDigits (u / 10)++[UInt8.ofNat (48+u % 10)]:=by rw[Lib.decDigits,dif_neg h]
theorem CE {s t:List UInt8} (h:s≠[]):(s++t).head?=s.head?:=by cases s with | nil=>exact absurd rfl h | cons c r=>rfl
theorem AZ {n:Int} (h:0≤n):Lib.itoa n=Lib.decDigits n.toNat:=by unfold Lib.itoa;rw[if_neg (by omega)]
theorem EP {n:Int} (h:n<0):Lib.itoa n=45::Lib.decDigits n.natAbs:=by unfold Lib.itoa;rw[if_pos h]
def Ht (a:GVal):List UInt8:=if qA a then(if a.D=1 then Lib.itoa a.N else Lib.itoa a.N++47::Lib.itoa a.D)else[]
end Go.Proofs.YtmhoikfoogemnaaGreatDoor
namespace Go.Proofs.YtmhoikfoogemnaaGreatDoor
open Go Go.RowKit Go.Vc
set_option linter.unusedVariables false
set_option linter.unusedSimpArgs false
theorem Iy:k0=some true:=by kernel_rfl
def Bj (s:List UInt8):Bool:=decide (s=[48])||(decide (s≠[])&& !decide (s.head?=some 48))
def uV (s:List UInt8):Bool:=s.all qy&&Bj s
theorem I7 (s:List UInt8):jq s=some (Bj s)∧kw s=some (Bj s):=by
 unfold jq kw Bj
 cases s with
 | nil=>exact⟨rfl,rfl⟩
 | cons c r=>
  have h:sat (c::r) 0=some (c.toNat:Int):=gq (i:=0) rfl
  have hc:decide ((c.toNat:Int)=48)=decide (c=48):=by
   rw[decide_eq_decide]
   exact⟨λh=>UInt8.toNat_inj.1 (by simpa using(by omega:c.toNat=48)),λh=>by rw[h];rfl⟩
  have hl:decide ((0:Int)<((c::r).length:Int))=true:=decide_eq_true (by simp only[List.length_cons];omega)
  rw[h,hl]
  by_cases e:c::r=[48]
  ·rw[e];exact⟨rfl,rfl⟩
  ·simp[gd,e,hc]
theorem xK (d:UInt8):qy d=true↔¬ ((d.toNat:Int)<48)∧¬ (57<(d.toNat:Int)):=by
 unfold qy;simp only[Bool.and_eq_true,decide_eq_true_eq];omega
theorem yc (s:List UInt8) (hl:s.length<4611686018427387904):nb s=some (uV s):=by
 refine kQ (L:=λf (_:Unit) i=>fe s f i) (n:=s.length) hl (λi _=>(s.take i).all qy=true) (λf i _ hi hI=>?_) (λf _ hI=>?_) () (by simp)
 ·obtain⟨d,hd⟩:=cC hi
  simp only[fe]
  rw[if_pos (bS hi),gq hd,Option.bind_some]
  by_cases h:qy d=true
  ·left
   obtain⟨h1,h2⟩:=(xK d).1 h
   refine⟨(),by rw[dm hd,List.all_append,hI];simp[h],?_⟩
   simp only[gd,h1,h2,decide_false,Bool.not_false,if_true,Option.bind_some,Bool.or_false,Bool.false_eq_true,if_false,nu (show i<4611686018427387904 by omega)]
  ·right
   have hn:uV s=false:=by
    unfold uV;rw[Bool.eq_false_iff];intro h'
    exact h (List.all_eq_true.1 (Bool.and_eq_true _ _ ▸h').1 d (List.mem_of_getElem? hd))
   rw[hn]
   by_cases h1:(d.toNat:Int)<48
   ·simp[gd,h1]
   ·have h2:57<(d.toNat:Int):=Classical.byContradiction λh2=>h ((xK d).2 ⟨h1,h2⟩)
    simp[gd,h1];omega
 ·rw[List.take_length]at hI
  simp only[fe]
  rw[if_neg (by simp),(I7 s).1];unfold uV;rw[hI,Bool.true_and]
theorem xX (s:List UInt8) (hl:s.length<4611686018427387904):ot s=some (uV s):=by
 refine kQ (L:=λf (_:Unit) i=>gh s f i) (n:=s.length) hl (λi _=>(s.take i).all qy=true) (λf i _ hi hI=>?_) (λf _ hI=>?_) () (by simp)
 ·obtain⟨d,hd⟩:=cC hi
  simp only[gh]
  rw[if_pos (bS hi),gq hd,Option.bind_some]
  by_cases h:qy d=true
  ·left
   obtain⟨h1,h2⟩:=(xK d).1 h
   refine⟨(),by rw[dm hd,List.all_append,hI];simp[h],?_⟩
   simp only[gd,h1,h2,decide_false,Bool.not_false,if_true,Option.bind_some,Bool.or_false,Bool.false_eq_true,if_false,nu (show i<4611686018427387904 by omega)]
  ·right
   have hn:uV s=false:=by
    unfold uV;rw[Bool.eq_false_iff];intro h'
    exact h (List.all_eq_true.1 (Bool.and_eq_true _ _ ▸h').1 d (List.mem_of_getElem? hd))
   rw[hn]
   by_cases h1:(d.toNat:Int)<48
   ·simp[gd,h1]
   ·have h2:57<(d.toNat:Int):=Classical.byContradiction λh2=>h ((xK d).2 ⟨h1,h2⟩)
    simp[gd,h1];omega
 ·rw[List.take_length]at hI
  simp only[gh]
  rw[if_neg (by simp),(I7 s).2];unfold uV;rw[hI,Bool.true_and]
def oV (neg:Bool):Nat:=if neg then 9223372036854775808 else 9223372036854775807
def xb (neg:Bool) (n:Nat):Int:=if neg then -(n:Int)else n
def ue (s:List UInt8) (neg:Bool):Int×Bool:=if cb s≤oV neg then(xb neg (cb s),true)else(0,false)
theorem Kd (neg:Bool):oV neg≤9223372036854775808:=by unfold oV;split<;>omega
theorem Af {s:List UInt8} (i:Nat):cb (s.take i)≤cb s:=by
 have e:cb s=jF (cb (s.take i)) (s.drop i):=by
  unfold cb jF;rw[← List.foldl_append,List.take_append_drop]
 rw[e]
 have h:=wp (s.drop i) (cb (s.take i))
 exact Nat.le_trans (Nat.le_mul_of_pos_right _ (Nat.pow_pos (by omega))) h
theorem Ag {s:List UInt8} {i:Nat} {c:UInt8} (h:s[i]? =some c):cb (s.take (i+1))=10 * cb (s.take i)+(c.toNat - 48):=by
 rw[dm h];unfold cb;exact uT _ _ _
theorem D3 {c:UInt8} (h:qy c=true):48≤c.toNat∧c.toNat≤57:=by
 unfold qy at h;simpa using h
theorem Em {c:UInt8} (h:qy c=true):HY ((c.toNat:Int) - 48)=(c.toNat:Int) - 48:=by
 have:=D3 h
 exact KQ (p:=(c.toNat:Int) - 48) ⟨by omega,by omega⟩
theorem Ch (s:List UInt8) (neg:Bool):lq (ue s neg).1:=by
 unfold ue
 split
 ·next h=>unfold xb;unfold oV at h;cases neg<;>simp only[Bool.false_eq_true,if_false,if_true]at h ⊢ <;>exact⟨by omega,by omega⟩
 ·exact⟨by omega,by omega⟩
theorem xf (neg:Bool) {n:Nat} (h:n≤oV neg):jS neg (n:Int)=some (xb neg n,true):=by
 unfold jS xb
 unfold oV at h
 cases neg with
 | false=>
  simp only[Bool.false_eq_true,if_false]at h ⊢
  rw[wi ⟨by omega,by omega⟩]
 | true=>
  simp only[if_true]at h ⊢
  by_cases e:n=9223372036854775808
  ·subst e;rfl
  ·rw[wi (p:=(n:Int)) ⟨by omega,by omega⟩,wi ⟨by omega,by omega⟩]
theorem vn (s:List UInt8) (neg:Bool) (hl:s.length<4611686018427387904) (hd:s.all qy=true):ew s (oV neg:Int) neg fu 0 0=some (ue s neg):=by
 refine kQ (L:=λf (n:Int) i=>ew s (oV neg:Int) neg f n i) (n:=s.length) hl (λi n=>n=(cb (s.take i):Int)∧cb (s.take i)≤oV neg) (λf i n hi hI=>?_) (λf n hI=>?_) 0 (by simp[cb,jF])
 ·obtain⟨c,hc⟩:=cC hi
  obtain⟨rfl,h2⟩:=hI
  have hdc:=List.all_eq_true.1 hd c (List.mem_of_getElem? hc)
  have hb:=D3 hdc
  have hL:=Kd neg
  have hL2:9223372036854775807≤oV neg:=by unfold oV;split<;>omega
  have e1:lr ((c.toNat:Int) - 48)=(c.toNat:Int) - 48:=wu ⟨by omega,by omega⟩
  have e2:lr ((oV neg:Int) - ((c.toNat:Int) - 48))=(oV neg:Int) - ((c.toNat:Int) - 48):=wu ⟨by omega,by omega⟩
  have e3:Int.tdiv ((oV neg:Int) - ((c.toNat:Int) - 48)) 10=((oV neg:Int) - ((c.toNat:Int) - 48)) / 10:=Int.tdiv_eq_ediv_of_nonneg (by omega)
  simp only[ew]
  rw[if_pos (bS hi),gq hc,Option.bind_some,Em hdc,e1,e2,e3,wu (p:=((oV neg:Int) - ((c.toNat:Int) - 48)) / 10) ⟨by omega,by omega⟩]
  have hs:=Ag hc
  by_cases h:((oV neg:Int) - ((c.toNat:Int) - 48)) / 10<(cb (s.take i):Int)
  ·right
   rw[if_pos (by simpa using h)]
   have:=Af (s:=s) (i+1)
   unfold ue
   rw[if_neg (by omega)]
  ·left
   have h3:cb (s.take (i+1))≤oV neg:=by omega
   refine⟨(cb (s.take (i+1)):Int),⟨rfl,h3⟩,?_⟩
   rw[if_neg (by simpa using h),Option.bind_some,wu (p:=10 * (cb (s.take i):Int)) ⟨by omega,by omega⟩,wu ⟨by omega,by omega⟩,nu (show i<4611686018427387904 by omega)]
   congr 1;omega
 ·obtain⟨rfl,h2⟩:=hI
  rw[List.take_length]at h2 ⊢
  simp only[ew]
  rw[if_neg (by simp),xf neg h2]
  unfold ue;rw[if_pos h2]
theorem uu (s:List UInt8) (neg:Bool) (hl:s.length<4611686018427387904) (hd:s.all qy=true):jk s neg=some (ue s neg):=by
 have h:=vn s neg hl hd
 unfold jk jT
 cases neg with
 | false=>rw[show((oV false:Nat):Int)=9223372036854775807 from rfl]at h;rw[if_neg (by simp),h]
 | true=>rw[show((oV true:Nat):Int)=9223372036854775808 from rfl]at h;rw[if_pos rfl,h]
theorem xU {neg:Bool} {n:Nat} :lq (xb neg n)↔n≤oV neg:=by
 unfold xb oV;cases neg<;>simp only[Bool.false_eq_true,if_false,if_true]<;>exact⟨λh=>by have:=h.1;have:=h.2;omega,λh=>⟨by omega,by omega⟩⟩
theorem uI (s:List UInt8) (neg:Bool) (hl:s.length<4611686018427387904) (hd:s.all qy=true):hT s neg=some (ue s neg):=by
 refine kQ (L:=λf (n:Int) i=>cT s neg f n i) (n:=s.length) hl (λi n=>n=xb neg (cb (s.take i))∧cb (s.take i)≤oV neg) (λf i n hi hI=>?_) (λf n hI=>?_) 0 (by simp[cb,jF,xb])
 ·obtain⟨c,hc⟩:=cC hi
  obtain⟨rfl,h2⟩:=hI
  have hdc:=List.all_eq_true.1 hd c (List.mem_of_getElem? hc)
  have hb:=D3 hdc
  have hs:=Ag hc
  have ht:=Af (s:=s) (i+1)
  have e1:au ((c.toNat:Int) - 48)=(c.toNat:Int) - 48:=wi ⟨by omega,by omega⟩
  have key:cT s neg (f+1) (xb neg (cb (s.take i))) (i:Int)=jb (xb neg (cb (s.take i))) (cT s neg f) (i:Int) (xb neg (c.toNat - 48)):=by
   simp only[cT]
   rw[if_pos (bS hi),gq hc,Option.bind_some,Em hdc,e1]
   cases neg with
   | false=>rw[if_neg (by simp)];congr 1;simp only[xb,Bool.false_eq_true,if_false];omega
   | true=>rw[if_pos rfl,Option.bind_some,wi (p:= -((c.toNat:Int) - 48)) ⟨by omega,by omega⟩];congr 1;simp only[xb,if_true];omega
  have hd9:lq (xb neg (c.toNat - 48)):=xU.2 (by unfold oV;split<;>omega)
  have e10:xb neg (cb (s.take i)) * 10=xb neg (10 * cb (s.take i)):=by unfold xb;cases neg<;>simp only[Bool.false_eq_true,if_false,if_true]<;>omega
  have Iv:xb neg (10 * cb (s.take i))+xb neg (c.toNat - 48)=xb neg (cb (s.take (i+1))):=by rw[hs];unfold xb;cases neg<;>simp only[Bool.false_eq_true,if_false,if_true]<;>omega
  rw[key]
  unfold jb
  rw[so (xU.2 h2) ⟨by omega,by omega⟩,Option.bind_some,e10]
  by_cases c1:10 * cb (s.take i)≤oV neg
  ·rw[if_pos (xU.2 c1)]
   dsimp only
   rw[ud (xU.2 c1) hd9,Option.bind_some,Iv]
   by_cases c2:cb (s.take (i+1))≤oV neg
   ·left
    rw[if_pos (xU.2 c2)]
    exact⟨_,⟨rfl,c2⟩,by rw[if_neg (by simp),nu (show i<4611686018427387904 by omega)]⟩
   ·right
    rw[if_neg (λh=>c2 (xU.1 h)),if_pos (by simp)]
    unfold ue;rw[if_neg (by omega)]
  ·right
   rw[if_neg (λh=>c1 (xU.1 h))]
   dsimp only
   rw[ud ⟨by omega,by omega⟩ hd9,Option.bind_some,if_pos (by simp)]
   unfold ue;rw[if_neg (by omega)]
 ·obtain⟨rfl,h2⟩:=hI
  rw[List.take_length]at h2 ⊢
  simp only[cT]
  rw[if_neg (by simp)]
  unfold ue;rw[if_pos h2]
end Go.Proofs.YtmhoikfoogemnaaGreatDoor
