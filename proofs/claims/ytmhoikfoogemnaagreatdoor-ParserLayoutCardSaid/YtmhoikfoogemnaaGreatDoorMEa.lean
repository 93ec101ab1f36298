import Derived.Test.YtmhoikfoogemnaaGreatDoorMVd
import Derived.Lib.ItoaNum
import Derived.Test.YtmhoikfoogemnaaGreatDoorMWj
namespace Go.Proofs.YtmhoikfoogemnaaGreatDoor
open Go Go.RowKit Go.Vc
set_option linter.unusedVariables false
set_option linter.unusedSimpArgs false
def nL (c:UInt8):Bool:=decide (48≤c.toNat)&&decide (c.toNat≤57)
def iA (n:Nat) (s:List UInt8):Nat:=s.foldl (fun n c=>10 * n+(c.toNat - 48)) n
def bH (s:List UInt8):Nat:=iA 0 s
theorem j0 (n:Nat) (c:UInt8) (s:List UInt8):iA n (c::s)=iA (10 * n+(c.toNat - 48)) s:=by unfold iA;rw[List.foldl_cons]
theorem su (s:List UInt8) (n:Nat):n * 10 ^ s.length≤iA n s:=by
 induction s generalizing n with
 | nil=>simp[iA]
 | cons c s ih=>
  rw[j0]
  have h:=ih (10 * n+(c.toNat - 48))
  have:n * 10 ^ (c::s).length=(10 * n) * 10 ^ s.length:=by
   rw[List.length_cons,Nat.pow_succ,Nat.mul_comm (10 ^ s.length) 10, ← Nat.mul_assoc,Nat.mul_comm n 10]
  rw[this]
  exact Nat.le_trans (Nat.mul_le_mul_right _ (by omega)) h
theorem ze {n:Int} (h:jO n):kW n=some (if n<0 then -n else n):=by
 obtain⟨h1,h2⟩:=h
 unfold kW
 by_cases hn:n<0
 ·simp only[hn,decide_true,if_true]
  rw[wi (p:=n+1) ⟨by omega,by omega⟩,wi (p:= -(n+1)) ⟨by omega,by omega⟩,wu (p:= -(n+1)) ⟨by omega,by omega⟩,wu ⟨by omega,by omega⟩]
  congr 1;omega
 ·simp only[hn,decide_false,Bool.false_eq_true,if_false]
  rw[wu ⟨by omega,by omega⟩]
theorem qT (n:Nat) (s:List UInt8) (c:UInt8):iA n (s++[c])=10 * iA n s+(c.toNat - 48):=by
 unfold iA;rw[List.foldl_append];rfl
theorem uW {u:Nat} (h:u<10):Lib.decDigits u=[UInt8.ofNat (48+u)]:=by rw[Lib.decDigits,dif_pos h]
theorem Dy {u:Nat} (h:¬ u<10):Lib.decDigits u=Lib.decDigits (u / 10)++[UInt8.ofNat (48+u % 10)]:=by rw[Lib.decDigits,dif_neg h]
theorem yC {s t:List UInt8} (h:s≠[]):(s++t).head?=s.head?:=by cases s with | nil=>exact absurd rfl h | cons c r=>rfl
theorem xb {n:Int} (h:0≤n):Lib.itoa n=Lib.decDigits n.toNat:=by unfold Lib.itoa;rw[if_neg (by omega)]
theorem AP {n:Int} (h:n<0):Lib.itoa n=45::Lib.decDigits n.natAbs:=by unfold Lib.itoa;rw[if_pos h]
def Dv (a:GVal):List UInt8:=if nN a then(if a.D=1 then Lib.itoa a.N else Lib.itoa a.N++47::Lib.itoa a.D)else[]
end Go.Proofs.YtmhoikfoogemnaaGreatDoor
namespace Go.Proofs.YtmhoikfoogemnaaGreatDoor
open Go Go.RowKit Go.Vc
set_option linter.unusedVariables false
set_option linter.unusedSimpArgs false
theorem Et:gt=some true:=by kernel_rfl
def xo (s:List UInt8):Bool:=decide (s=[48])||(decide (s≠[])&& !decide (s.head?=some 48))
def qV (s:List UInt8):Bool:=s.all nL&&xo s
theorem E8 (s:List UInt8):hV s=some (xo s)∧lS s=some (xo s):=by
 unfold hV lS xo
 cases s with
 | nil=>exact⟨rfl,rfl⟩
 | cons c r=>
  have h:sat (c::r) 0=some (c.toNat:Int):=eS (i:=0) rfl
  have hc:decide ((c.toNat:Int)=48)=decide (c=48):=by
   rw[decide_eq_decide]
   exact⟨fun h=>UInt8.toNat_inj.1 (by simpa using(by omega:c.toNat=48)),fun h=>by rw[h];rfl⟩
  have hl:decide ((0:Int)<((c::r).length:Int))=true:=decide_eq_true (by simp only[List.length_cons];omega)
  rw[h,hl]
  by_cases e:c::r=[48]
  ·rw[e];exact⟨rfl,rfl⟩
  ·simp[gd,e,hc]
theorem tY (d:UInt8):nL d=true↔¬ ((d.toNat:Int)<48)∧¬ (57<(d.toNat:Int)):=by
 unfold nL;simp only[Bool.and_eq_true,decide_eq_true_eq];omega
theorem uv (s:List UInt8) (hl:s.length<4611686018427387904):kZ s=some (qV s):=by
 refine jy (L:=fun f (_:Unit) i=>dJ s f i) (n:=s.length) hl (fun i _=>(s.take i).all nL=true) (fun f i _ hi hI=> ?_) (fun f _ hI=> ?_) () (by simp)
 ·obtain⟨d,hd⟩:=bY hi
  simp only[dJ]
  rw[if_pos (bS hi),eS hd,Option.bind_some]
  by_cases h:nL d=true
  ·left
   obtain⟨h1,h2⟩:=(tY d).1 h
   refine⟨(),by rw[cy hd,List.all_append,hI];simp[h],?_⟩
   simp only[gd,h1,h2,decide_false,Bool.not_false,if_true,Option.bind_some,Bool.or_false,Bool.false_eq_true,if_false,lB (show i<4611686018427387904 by omega)]
  ·right
   have hn:qV s=false:=by
    unfold qV;rw[Bool.eq_false_iff];intro h'
    exact h (List.all_eq_true.1 (Bool.and_eq_true _ _ ▸h').1 d (List.mem_of_getElem? hd))
   rw[hn]
   by_cases h1:(d.toNat:Int)<48
   ·simp[gd,h1]
   ·have h2:57<(d.toNat:Int):=Classical.byContradiction fun h2=>h ((tY d).2 ⟨h1,h2⟩)
    simp[gd,h1];omega
 ·rw[List.take_length]at hI
  simp only[dJ]
  rw[if_neg (by simp),(E8 s).1];unfold qV;rw[hI,Bool.true_and]
theorem um (s:List UInt8) (hl:s.length<4611686018427387904):pF s=some (qV s):=by
 refine jy (L:=fun f (_:Unit) i=>je s f i) (n:=s.length) hl (fun i _=>(s.take i).all nL=true) (fun f i _ hi hI=> ?_) (fun f _ hI=> ?_) () (by simp)
 ·obtain⟨d,hd⟩:=bY hi
  simp only[je]
  rw[if_pos (bS hi),eS hd,Option.bind_some]
  by_cases h:nL d=true
  ·left
   obtain⟨h1,h2⟩:=(tY d).1 h
   refine⟨(),by rw[cy hd,List.all_append,hI];simp[h],?_⟩
   simp only[gd,h1,h2,decide_false,Bool.not_false,if_true,Option.bind_some,Bool.or_false,Bool.false_eq_true,if_false,lB (show i<4611686018427387904 by omega)]
  ·right
   have hn:qV s=false:=by
    unfold qV;rw[Bool.eq_false_iff];intro h'
    exact h (List.all_eq_true.1 (Bool.and_eq_true _ _ ▸h').1 d (List.mem_of_getElem? hd))
   rw[hn]
   by_cases h1:(d.toNat:Int)<48
   ·simp[gd,h1]
   ·have h2:57<(d.toNat:Int):=Classical.byContradiction fun h2=>h ((tY d).2 ⟨h1,h2⟩)
    simp[gd,h1];omega
 ·rw[List.take_length]at hI
  simp only[je]
  rw[if_neg (by simp),(E8 s).2];unfold qV;rw[hI,Bool.true_and]
def mf (neg:Bool):Nat:=if neg then 9223372036854775808 else 9223372036854775807
def tr (neg:Bool) (n:Nat):Int:=if neg then -(n:Int)else n
def qm (s:List UInt8) (neg:Bool):Int×Bool:=if bH s≤mf neg then(tr neg (bH s),true)else(0,false)
theorem GH (neg:Bool):mf neg≤9223372036854775808:=by unfold mf;split<;>omega
theorem wp {s:List UInt8} (i:Nat):bH (s.take i)≤bH s:=by
 have e:bH s=iA (bH (s.take i)) (s.drop i):=by
  unfold bH iA;rw[← List.foldl_append,List.take_append_drop]
 rw[e]
 have h:=su (s.drop i) (bH (s.take i))
 exact Nat.le_trans (Nat.le_mul_of_pos_right _ (Nat.pow_pos (by omega))) h
theorem wq {s:List UInt8} {i:Nat} {c:UInt8} (h:s[i]? =some c):bH (s.take (i+1))=10 * bH (s.take i)+(c.toNat - 48):=by
 rw[cy h];unfold bH;exact qT _ _ _
theorem z7 {c:UInt8} (h:nL c=true):48≤c.toNat∧c.toNat≤57:=by
 unfold nL at h;simpa using h
theorem Ao {c:UInt8} (h:nL c=true):DT ((c.toNat:Int) - 48)=(c.toNat:Int) - 48:=by
 have:=z7 h
 exact Hd (p:=(c.toNat:Int) - 48) ⟨by omega,by omega⟩
theorem yd (s:List UInt8) (neg:Bool):jO (qm s neg).1:=by
 unfold qm
 split
 ·next h=>unfold tr;unfold mf at h;cases neg<;>simp only[Bool.false_eq_true,if_false,if_true]at h ⊢ <;>exact⟨by omega,by omega⟩
 ·exact⟨by omega,by omega⟩
theorem tw (neg:Bool) {n:Nat} (h:n≤mf neg):iN neg (n:Int)=some (tr neg n,true):=by
 unfold iN tr
 unfold mf at h
 cases neg with
 | false=>
  simp only[Bool.false_eq_true,if_false]at h ⊢
  rw[wi ⟨by omega,by omega⟩]
 | true=>
  simp only[if_true]at h ⊢
  by_cases e:n=9223372036854775808
  ·subst e;rfl
  ·rw[wi (p:=(n:Int)) ⟨by omega,by omega⟩,wi ⟨by omega,by omega⟩]
theorem rk (s:List UInt8) (neg:Bool) (hl:s.length<4611686018427387904) (hd:s.all nL=true):dp s (mf neg:Int) neg fu 0 0=some (qm s neg):=by
 refine jy (L:=fun f (n:Int) i=>dp s (mf neg:Int) neg f n i) (n:=s.length) hl (fun i n=>n=(bH (s.take i):Int)∧bH (s.take i)≤mf neg) (fun f i n hi hI=> ?_) (fun f n hI=> ?_) 0 (by simp[bH,iA])
 ·obtain⟨c,hc⟩:=bY hi
  obtain⟨rfl,h2⟩:=hI
  have hdc:=List.all_eq_true.1 hd c (List.mem_of_getElem? hc)
  have hb:=z7 hdc
  have hL:=GH neg
  have hL2:9223372036854775807≤mf neg:=by unfold mf;split<;>omega
  have e1:iK ((c.toNat:Int) - 48)=(c.toNat:Int) - 48:=wu ⟨by omega,by omega⟩
  have e2:iK ((mf neg:Int) - ((c.toNat:Int) - 48))=(mf neg:Int) - ((c.toNat:Int) - 48):=wu ⟨by omega,by omega⟩
  have e3:Int.tdiv ((mf neg:Int) - ((c.toNat:Int) - 48)) 10=((mf neg:Int) - ((c.toNat:Int) - 48)) / 10:=Int.tdiv_eq_ediv_of_nonneg (by omega)
  simp only[dp]
  rw[if_pos (bS hi),eS hc,Option.bind_some,Ao hdc,e1,e2,e3,wu (p:=((mf neg:Int) - ((c.toNat:Int) - 48)) / 10) ⟨by omega,by omega⟩]
  have hs:=wq hc
  by_cases h:((mf neg:Int) - ((c.toNat:Int) - 48)) / 10<(bH (s.take i):Int)
  ·right
   rw[if_pos (by simpa using h)]
   have:=wp (s:=s) (i+1)
   unfold qm
   rw[if_neg (by omega)]
  ·left
   have h3:bH (s.take (i+1))≤mf neg:=by omega
   refine⟨(bH (s.take (i+1)):Int),⟨rfl,h3⟩,?_⟩
   rw[if_neg (by simpa using h),Option.bind_some,wu (p:=10 * (bH (s.take i):Int)) ⟨by omega,by omega⟩,wu ⟨by omega,by omega⟩,lB (show i<4611686018427387904 by omega)]
   congr 1;omega
 ·obtain⟨rfl,h2⟩:=hI
  rw[List.take_length]at h2 ⊢
  simp only[dp]
  rw[if_neg (by simp),tw neg h2]
  unfold qm;rw[if_pos h2]
theorem qw (s:List UInt8) (neg:Bool) (hl:s.length<4611686018427387904) (hd:s.all nL=true):gY s neg=some (qm s neg):=by
 have h:=rk s neg hl hd
 unfold gY iO
 cases neg with
 | false=>rw[show((mf false:Nat):Int)=9223372036854775807 from rfl]at h;rw[if_neg (by simp),h]
 | true=>rw[show((mf true:Nat):Int)=9223372036854775808 from rfl]at h;rw[if_pos rfl,h]
theorem uj {neg:Bool} {n:Nat} :jO (tr neg n)↔n≤mf neg:=by
 unfold tr mf;cases neg<;>simp only[Bool.false_eq_true,if_false,if_true]<;>exact⟨fun h=>by have:=h.1;have:=h.2;omega,fun h=>⟨by omega,by omega⟩⟩
theorem qH (s:List UInt8) (neg:Bool) (hl:s.length<4611686018427387904) (hd:s.all nL=true):iM s neg=some (qm s neg):=by
 refine jy (L:=fun f (n:Int) i=>eH s neg f n i) (n:=s.length) hl (fun i n=>n=tr neg (bH (s.take i))∧bH (s.take i)≤mf neg) (fun f i n hi hI=> ?_) (fun f n hI=> ?_) 0 (by simp[bH,iA,tr])
 ·obtain⟨c,hc⟩:=bY hi
  obtain⟨rfl,h2⟩:=hI
  have hdc:=List.all_eq_true.1 hd c (List.mem_of_getElem? hc)
  have hb:=z7 hdc
  have hs:=wq hc
  have ht:=wp (s:=s) (i+1)
  have e1:az ((c.toNat:Int) - 48)=(c.toNat:Int) - 48:=wi ⟨by omega,by omega⟩
  have key:eH s neg (f+1) (tr neg (bH (s.take i))) (i:Int)=kv (tr neg (bH (s.take i))) (eH s neg f) (i:Int) (tr neg (c.toNat - 48)):=by
   simp only[eH]
   rw[if_pos (bS hi),eS hc,Option.bind_some,Ao hdc,e1]
   cases neg with
   | false=>rw[if_neg (by simp)];congr 1;simp only[tr,Bool.false_eq_true,if_false];omega
   | true=>rw[if_pos rfl,Option.bind_some,wi (p:= -((c.toNat:Int) - 48)) ⟨by omega,by omega⟩];congr 1;simp only[tr,if_true];omega
  have hd9:jO (tr neg (c.toNat - 48)):=uj.2 (by unfold mf;split<;>omega)
  have e10:tr neg (bH (s.take i)) * 10=tr neg (10 * bH (s.take i)):=by unfold tr;cases neg<;>simp only[Bool.false_eq_true,if_false,if_true]<;>omega
  have Er:tr neg (10 * bH (s.take i))+tr neg (c.toNat - 48)=tr neg (bH (s.take (i+1))):=by rw[hs];unfold tr;cases neg<;>simp only[Bool.false_eq_true,if_false,if_true]<;>omega
  rw[key]
  unfold kv
  rw[pg (uj.2 h2) ⟨by omega,by omega⟩,Option.bind_some,e10]
  by_cases c1:10 * bH (s.take i)≤mf neg
  ·rw[if_pos (uj.2 c1)]
   dsimp only
   rw[ql (uj.2 c1) hd9,Option.bind_some,Er]
   by_cases c2:bH (s.take (i+1))≤mf neg
   ·left
    rw[if_pos (uj.2 c2)]
    exact⟨_,⟨rfl,c2⟩,by rw[if_neg (by simp),lB (show i<4611686018427387904 by omega)]⟩
   ·right
    rw[if_neg (fun h=>c2 (uj.1 h)),if_pos (by simp)]
    unfold qm;rw[if_neg (by omega)]
  ·right
   rw[if_neg (fun h=>c1 (uj.1 h))]
   dsimp only
   rw[ql ⟨by omega,by omega⟩ hd9,Option.bind_some,if_pos (by simp)]
   unfold qm;rw[if_neg (by omega)]
 ·obtain⟨rfl,h2⟩:=hI
  rw[List.take_length]at h2 ⊢
  simp only[eH]
  rw[if_neg (by simp)]
  unfold qm;rw[if_pos h2]
end Go.Proofs.YtmhoikfoogemnaaGreatDoor
