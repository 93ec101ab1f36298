import Derived.Test.YtmhoikfoogemnaaGreatDoorJVd
import Derived.Lib.ItoaNum
import Derived.Test.YtmhoikfoogemnaaGreatDoorJWj
namespace Go.Proofs.YtmhoikfoogemnaaGreatDoor
open Go Go.RowKit Go.Vc
set_option linter.unusedVariables false
set_option linter.unusedSimpArgs false
def oJ (c:UInt8):Bool:=decide (48≤c.toNat)&&decide (c.toNat≤57)
def iH (n:Nat) (s:List UInt8):Nat:=s.foldl (fun n c=>10 * n+(c.toNat - 48)) n
def bL (s:List UInt8):Nat:=iH 0 s
theorem kE (n:Nat) (c:UInt8) (s:List UInt8):iH n (c::s)=iH (10 * n+(c.toNat - 48)) s:=by unfold iH;rw[List.foldl_cons]
theorem tz (s:List UInt8) (n:Nat):n * 10 ^ s.length≤iH n s:=by
 induction s generalizing n with
 | nil=>simp[iH]
 | cons c s ih=>
  rw[kE]
  have h:=ih (10 * n+(c.toNat - 48))
  have:n * 10 ^ (c::s).length=(10 * n) * 10 ^ s.length:=by
   rw[List.length_cons,Nat.pow_succ,Nat.mul_comm (10 ^ s.length) 10, ← Nat.mul_assoc,Nat.mul_comm n 10]
  rw[this]
  exact Nat.le_trans (Nat.mul_le_mul_right _ (by omega)) h
theorem An {n:Int} (h:kh n):jq n=some (if n<0 then -n else n):=by
 obtain⟨h1,h2⟩:=h
 unfold jq
 by_cases hn:n<0
 ·simp only[hn,decide_true,if_true]
  rw[wi (p:=n+1) ⟨by omega,by omega⟩,wi (p:= -(n+1)) ⟨by omega,by omega⟩,wu (p:= -(n+1)) ⟨by omega,by omega⟩,wu ⟨by omega,by omega⟩]
  congr 1;omega
 ·simp only[hn,decide_false,Bool.false_eq_true,if_false]
  rw[wu ⟨by omega,by omega⟩]
theorem rW (n:Nat) (s:List UInt8) (c:UInt8):iH n (s++[c])=10 * iH n s+(c.toNat - 48):=by
 unfold iH;rw[List.foldl_append];rfl
theorem vV {u:Nat} (h:u<10):Lib.decDigits u=[UInt8.ofNat (48+u)]:=by rw[Lib.decDigits,dif_pos h]
theorem DR {u:Nat} (h:¬ u<10):Lib.decDigits u=Lib.decDigits (u / 10)++[UInt8.ofNat (48+u % 10)]:=by rw[Lib.decDigits,dif_neg h]
theorem zC {s t:List UInt8} (h:s≠[]):(s++t).head?=s.head?:=by cases s with | nil=>exact absurd rfl h | cons c r=>rfl
theorem x8 {n:Int} (h:0≤n):Lib.itoa n=Lib.decDigits n.toNat:=by unfold Lib.itoa;rw[if_neg (by omega)]
theorem BC {n:Int} (h:n<0):Lib.itoa n=45::Lib.decDigits n.natAbs:=by unfold Lib.itoa;rw[if_pos h]
def DO (a:GVal):List UInt8:=if oL a then(if a.D=1 then Lib.itoa a.N else Lib.itoa a.N++47::Lib.itoa a.D)else[]
end Go.Proofs.YtmhoikfoogemnaaGreatDoor
namespace Go.Proofs.YtmhoikfoogemnaaGreatDoor
open Go Go.RowKit Go.Vc
set_option linter.unusedVariables false
set_option linter.unusedSimpArgs false
theorem EQ:jZ=some true:=by kernel_rfl
def yi (s:List UInt8):Bool:=decide (s=[48])||(decide (s≠[])&& !decide (s.head?=some 48))
def rY (s:List UInt8):Bool:=s.all oJ&&yi s
theorem Fo (s:List UInt8):im s=some (yi s)∧jo s=some (yi s):=by
 unfold im jo yi
 cases s with
 | nil=>exact⟨rfl,rfl⟩
 | cons c r=>
  have h:sat (c::r) 0=some (c.toNat:Int):=ia (i:=0) rfl
  have hc:decide ((c.toNat:Int)=48)=decide (c=48):=by
   rw[decide_eq_decide]
   exact⟨fun h=>UInt8.toNat_inj.1 (by simpa using(by omega:c.toNat=48)),fun h=>by rw[h];rfl⟩
  have hl:decide ((0:Int)<((c::r).length:Int))=true:=decide_eq_true (by simp only[List.length_cons];omega)
  rw[h,hl]
  by_cases e:c::r=[48]
  ·rw[e];exact⟨rfl,rfl⟩
  ·simp[gd,e,hc]
theorem uS (d:UInt8):oJ d=true↔¬ ((d.toNat:Int)<48)∧¬ (57<(d.toNat:Int)):=by
 unfold oJ;simp only[Bool.and_eq_true,decide_eq_true_eq];omega
theorem vo (s:List UInt8) (hl:s.length<4611686018427387904):lV s=some (rY s):=by
 refine kD (L:=fun f (_:Unit) i=>dY s f i) (n:=s.length) hl (fun i _=>(s.take i).all oJ=true) (fun f i _ hi hI=> ?_) (fun f _ hI=> ?_) () (by simp)
 ·obtain⟨d,hd⟩:=ct hi
  simp only[dY]
  rw[if_pos (cz hi),ia hd,Option.bind_some]
  by_cases h:oJ d=true
  ·left
   obtain⟨h1,h2⟩:=(uS d).1 h
   refine⟨(),by rw[cx hd,List.all_append,hI];simp[h],?_⟩
   simp only[gd,h1,h2,decide_false,Bool.not_false,if_true,Option.bind_some,Bool.or_false,Bool.false_eq_true,if_false,nq (show i<4611686018427387904 by omega)]
  ·right
   have hn:rY s=false:=by
    unfold rY;rw[Bool.eq_false_iff];intro h'
    exact h (List.all_eq_true.1 (Bool.and_eq_true _ _ ▸h').1 d (List.mem_of_getElem? hd))
   rw[hn]
   by_cases h1:(d.toNat:Int)<48
   ·simp[gd,h1]
   ·have h2:57<(d.toNat:Int):=Classical.byContradiction fun h2=>h ((uS d).2 ⟨h1,h2⟩)
    simp[gd,h1];omega
 ·rw[List.take_length]at hI
  simp only[dY]
  rw[if_neg (by simp),(Fo s).1];unfold rY;rw[hI,Bool.true_and]
theorem ve (s:List UInt8) (hl:s.length<4611686018427387904):mM s=some (rY s):=by
 refine kD (L:=fun f (_:Unit) i=>ff s f i) (n:=s.length) hl (fun i _=>(s.take i).all oJ=true) (fun f i _ hi hI=> ?_) (fun f _ hI=> ?_) () (by simp)
 ·obtain⟨d,hd⟩:=ct hi
  simp only[ff]
  rw[if_pos (cz hi),ia hd,Option.bind_some]
  by_cases h:oJ d=true
  ·left
   obtain⟨h1,h2⟩:=(uS d).1 h
   refine⟨(),by rw[cx hd,List.all_append,hI];simp[h],?_⟩
   simp only[gd,h1,h2,decide_false,Bool.not_false,if_true,Option.bind_some,Bool.or_false,Bool.false_eq_true,if_false,nq (show i<4611686018427387904 by omega)]
  ·right
   have hn:rY s=false:=by
    unfold rY;rw[Bool.eq_false_iff];intro h'
    exact h (List.all_eq_true.1 (Bool.and_eq_true _ _ ▸h').1 d (List.mem_of_getElem? hd))
   rw[hn]
   by_cases h1:(d.toNat:Int)<48
   ·simp[gd,h1]
   ·have h2:57<(d.toNat:Int):=Classical.byContradiction fun h2=>h ((uS d).2 ⟨h1,h2⟩)
    simp[gd,h1];omega
 ·rw[List.take_length]at hI
  simp only[ff]
  rw[if_neg (by simp),(Fo s).2];unfold rY;rw[hI,Bool.true_and]
def nb (neg:Bool):Nat:=if neg then 9223372036854775808 else 9223372036854775807
def uk (neg:Bool) (n:Nat):Int:=if neg then -(n:Int)else n
def rp (s:List UInt8) (neg:Bool):Int×Bool:=if bL s≤nb neg then(uk neg (bL s),true)else(0,false)
theorem Gp (neg:Bool):nb neg≤9223372036854775808:=by unfold nb;split<;>omega
theorem xA {s:List UInt8} (i:Nat):bL (s.take i)≤bL s:=by
 have e:bL s=iH (bL (s.take i)) (s.drop i):=by
  unfold bL iH;rw[← List.foldl_append,List.take_append_drop]
 rw[e]
 have h:=tz (s.drop i) (bL (s.take i))
 exact Nat.le_trans (Nat.le_mul_of_pos_right _ (Nat.pow_pos (by omega))) h
theorem xB {s:List UInt8} {i:Nat} {c:UInt8} (h:s[i]? =some c):bL (s.take (i+1))=10 * bL (s.take i)+(c.toNat - 48):=by
 rw[cx h];unfold bL;exact rW _ _ _
theorem AR {c:UInt8} (h:oJ c=true):48≤c.toNat∧c.toNat≤57:=by
 unfold oJ at h;simpa using h
theorem Bf {c:UInt8} (h:oJ c=true):Ef ((c.toNat:Int) - 48)=(c.toNat:Int) - 48:=by
 have:=AR h
 exact GX (p:=(c.toNat:Int) - 48) ⟨by omega,by omega⟩
theorem zf (s:List UInt8) (neg:Bool):kh (rp s neg).1:=by
 unfold rp
 split
 ·next h=>unfold uk;unfold nb at h;cases neg<;>simp only[Bool.false_eq_true,if_false,if_true]at h ⊢ <;>exact⟨by omega,by omega⟩
 ·exact⟨by omega,by omega⟩
theorem uo (neg:Bool) {n:Nat} (h:n≤nb neg):iQ neg (n:Int)=some (uk neg n,true):=by
 unfold iQ uk
 unfold nb at h
 cases neg with
 | false=>
  simp only[Bool.false_eq_true,if_false]at h ⊢
  rw[wi ⟨by omega,by omega⟩]
 | true=>
  simp only[if_true]at h ⊢
  by_cases e:n=9223372036854775808
  ·subst e;rfl
  ·rw[wi (p:=(n:Int)) ⟨by omega,by omega⟩,wi ⟨by omega,by omega⟩]
theorem so (s:List UInt8) (neg:Bool) (hl:s.length<4611686018427387904) (hd:s.all oJ=true):dH s (nb neg:Int) neg fu 0 0=some (rp s neg):=by
 refine kD (L:=fun f (n:Int) i=>dH s (nb neg:Int) neg f n i) (n:=s.length) hl (fun i n=>n=(bL (s.take i):Int)∧bL (s.take i)≤nb neg) (fun f i n hi hI=> ?_) (fun f n hI=> ?_) 0 (by simp[bL,iH])
 ·obtain⟨c,hc⟩:=ct hi
  obtain⟨rfl,h2⟩:=hI
  have hdc:=List.all_eq_true.1 hd c (List.mem_of_getElem? hc)
  have hb:=AR hdc
  have hL:=Gp neg
  have hL2:9223372036854775807≤nb neg:=by unfold nb;split<;>omega
  have e1:ki ((c.toNat:Int) - 48)=(c.toNat:Int) - 48:=wu ⟨by omega,by omega⟩
  have e2:ki ((nb neg:Int) - ((c.toNat:Int) - 48))=(nb neg:Int) - ((c.toNat:Int) - 48):=wu ⟨by omega,by omega⟩
  have e3:Int.tdiv ((nb neg:Int) - ((c.toNat:Int) - 48)) 10=((nb neg:Int) - ((c.toNat:Int) - 48)) / 10:=Int.tdiv_eq_ediv_of_nonneg (by omega)
  simp only[dH]
  rw[if_pos (cz hi),ia hc,Option.bind_some,Bf hdc,e1,e2,e3,wu (p:=((nb neg:Int) - ((c.toNat:Int) - 48)) / 10) ⟨by omega,by omega⟩]
  have hs:=xB hc
  by_cases h:((nb neg:Int) - ((c.toNat:Int) - 48)) / 10<(bL (s.take i):Int)
  ·right
   rw[if_pos (by simpa using h)]
   have:=xA (s:=s) (i+1)
   unfold rp
   rw[if_neg (by omega)]
  ·left
   have h3:bL (s.take (i+1))≤nb neg:=by omega
   refine⟨(bL (s.take (i+1)):Int),⟨rfl,h3⟩,?_⟩
   rw[if_neg (by simpa using h),Option.bind_some,wu (p:=10 * (bL (s.take i):Int)) ⟨by omega,by omega⟩,wu ⟨by omega,by omega⟩,nq (show i<4611686018427387904 by omega)]
   congr 1;omega
 ·obtain⟨rfl,h2⟩:=hI
  rw[List.take_length]at h2 ⊢
  simp only[dH]
  rw[if_neg (by simp),uo neg h2]
  unfold rp;rw[if_pos h2]
theorem rA (s:List UInt8) (neg:Bool) (hl:s.length<4611686018427387904) (hd:s.all oJ=true):ie s neg=some (rp s neg):=by
 have h:=so s neg hl hd
 unfold ie iR
 cases neg with
 | false=>rw[show((nb false:Nat):Int)=9223372036854775807 from rfl]at h;rw[if_neg (by simp),h]
 | true=>rw[show((nb true:Nat):Int)=9223372036854775808 from rfl]at h;rw[if_pos rfl,h]
theorem va {neg:Bool} {n:Nat} :kh (uk neg n)↔n≤nb neg:=by
 unfold uk nb;cases neg<;>simp only[Bool.false_eq_true,if_false,if_true]<;>exact⟨fun h=>by have:=h.1;have:=h.2;omega,fun h=>⟨by omega,by omega⟩⟩
theorem rM (s:List UInt8) (neg:Bool) (hl:s.length<4611686018427387904) (hd:s.all oJ=true):gb s neg=some (rp s neg):=by
 refine kD (L:=fun f (n:Int) i=>cv s neg f n i) (n:=s.length) hl (fun i n=>n=uk neg (bL (s.take i))∧bL (s.take i)≤nb neg) (fun f i n hi hI=> ?_) (fun f n hI=> ?_) 0 (by simp[bL,iH,uk])
 ·obtain⟨c,hc⟩:=ct hi
  obtain⟨rfl,h2⟩:=hI
  have hdc:=List.all_eq_true.1 hd c (List.mem_of_getElem? hc)
  have hb:=AR hdc
  have hs:=xB hc
  have ht:=xA (s:=s) (i+1)
  have e1:aq ((c.toNat:Int) - 48)=(c.toNat:Int) - 48:=wi ⟨by omega,by omega⟩
  have key:cv s neg (f+1) (uk neg (bL (s.take i))) (i:Int)=hH (uk neg (bL (s.take i))) (cv s neg f) (i:Int) (uk neg (c.toNat - 48)):=by
   simp only[cv]
   rw[if_pos (cz hi),ia hc,Option.bind_some,Bf hdc,e1]
   cases neg with
   | false=>rw[if_neg (by simp)];congr 1;simp only[uk,Bool.false_eq_true,if_false];omega
   | true=>rw[if_pos rfl,Option.bind_some,wi (p:= -((c.toNat:Int) - 48)) ⟨by omega,by omega⟩];congr 1;simp only[uk,if_true];omega
  have hd9:kh (uk neg (c.toNat - 48)):=va.2 (by unfold nb;split<;>omega)
  have e10:uk neg (bL (s.take i)) * 10=uk neg (10 * bL (s.take i)):=by unfold uk;cases neg<;>simp only[Bool.false_eq_true,if_false,if_true]<;>omega
  have EO:uk neg (10 * bL (s.take i))+uk neg (c.toNat - 48)=uk neg (bL (s.take (i+1))):=by rw[hs];unfold uk;cases neg<;>simp only[Bool.false_eq_true,if_false,if_true]<;>omega
  rw[key]
  unfold hH
  rw[p8 (va.2 h2) ⟨by omega,by omega⟩,Option.bind_some,e10]
  by_cases c1:10 * bL (s.take i)≤nb neg
  ·rw[if_pos (va.2 c1)]
   dsimp only
   rw[rk (va.2 c1) hd9,Option.bind_some,EO]
   by_cases c2:bL (s.take (i+1))≤nb neg
   ·left
    rw[if_pos (va.2 c2)]
    exact⟨_,⟨rfl,c2⟩,by rw[if_neg (by simp),nq (show i<4611686018427387904 by omega)]⟩
   ·right
    rw[if_neg (fun h=>c2 (va.1 h)),if_pos (by simp)]
    unfold rp;rw[if_neg (by omega)]
  ·right
   rw[if_neg (fun h=>c1 (va.1 h))]
   dsimp only
   rw[rk ⟨by omega,by omega⟩ hd9,Option.bind_some,if_pos (by simp)]
   unfold rp;rw[if_neg (by omega)]
 ·obtain⟨rfl,h2⟩:=hI
  rw[List.take_length]at h2 ⊢
  simp only[cv]
  rw[if_neg (by simp)]
  unfold rp;rw[if_pos h2]
end Go.Proofs.YtmhoikfoogemnaaGreatDoor
