import Derived.Test.YtmhoikfoogemnaaGreatDoorHPj
import Derived.Test.YtmhoikfoogemnaaGreatDoorHWa
import Derived.Lib.ItoaNum
import Derived.Test.YtmhoikfoogemnaaGreatDoorHWj
namespace Go.Proofs.YtmhoikfoogemnaaGreatDoor
open Go Go.RowKit Go.Vc
set_option linter.unusedVariables false
set_option linter.unusedSimpArgs false
def rC (c:UInt8):Bool:=decide (48≤c.toNat)&&decide (c.toNat≤57)
def iY (n:Nat) (s:List UInt8):Nat:=s.foldl (λn c=>10 * n+(c.toNat - 48)) n
def cZ (s:List UInt8):Nat:=iY 0 s
theorem iF (n:Nat) (c:UInt8) (s:List UInt8):iY n (c::s)=iY (10 * n+(c.toNat - 48)) s:=by unfold iY;rw[List.foldl_cons]
theorem rA (s:List UInt8) (n:Nat):n * 10 ^ s.length≤iY n s:=by
 induction s generalizing n with
 | nil=>simp[iY]
 | cons c s ih=>
  rw[iF]
  have h:=ih (10 * n+(c.toNat - 48))
  have:n * 10 ^ (c::s).length=(10 * n) * 10 ^ s.length:=by
   rw[List.length_cons,Nat.pow_succ,Nat.mul_comm (10 ^ s.length) 10, ← Nat.mul_assoc,Nat.mul_comm n 10]
  rw[this]
  exact Nat.le_trans (Nat.mul_le_mul_right _ (by omega)) h
theorem wO {n:Int} (h:kX n):gx n=some (if n<0 then -n else n):=by
 obtain⟨h1,h2⟩:=h
 unfold gx
 by_cases hn:n<0
 ·simp only[hn,decide_true,if_true]
  rw[wi (p:=n+1) ⟨by omega,by omega⟩,wi (p:= -(n+1)) ⟨by omega,by omega⟩,wu (p:= -(n+1)) ⟨by omega,by omega⟩,wu ⟨by omega,by omega⟩]
  congr 1;omega
 ·simp only[hn,decide_false,Bool.false_eq_true,if_false]
  rw[wu ⟨by omega,by omega⟩]
theorem qt (n:Nat) (s:List UInt8) (c:UInt8):iY n (s++[c])=10 * iY n s+(c.toNat - 48):=by
 unfold iY;rw[List.foldl_append];rfl
theorem Ch {u:Nat} (h:u<10):(UInt8.ofNat (48+u)).toNat=48+u:=by
 rw[UInt8.toNat_ofNat'];omega
theorem Ez {u:Nat} (h:u<10):rC (UInt8.ofNat (48+u))=true:=by
 unfold rC;rw[Ch h];simp<;>omega
theorem io {u:Nat} (h:u<10):Lib.decDigits u=[UInt8.ofNat (48+u)]:=by rw[Lib.decDigits,dif_pos h]
theorem tS {u:Nat} (h:¬ u<10):Lib.decDigits u=Lib.decDigits (u / 10)++[UInt8.ofNat (48+u % 10)]:=by rw[Lib.decDigits,dif_neg h]
theorem wl {s t:List UInt8} (h:s≠[]):(s++t).head?=s.head?:=by cases s with | nil=>exact absurd rfl h | cons c r=>rfl
theorem jJ (u:Nat):(Lib.decDigits u).all rC=true∧cZ (Lib.decDigits u)=u∧Lib.decDigits u≠[]∧(u≠0→(Lib.decDigits u).head?≠some 48):=by
 induction u using Nat.strongRecOn with
 | _ u ih=>
  by_cases h:u<10
  ·rw[io h]
   refine⟨by rw[List.all_cons,Ez h];rfl,?_,by simp,λh0=>?_⟩
   ·unfold cZ;rw[iF];simp only[iY,List.foldl_nil];rw[Ch h];omega
   ·rw[List.head?_cons]
    intro e
    injection e with e
    have:=congrArg UInt8.toNat e
    rw[Ch h]at this
    simp at this;omega
  ·obtain⟨h1,h2,h3,h4⟩:=ih (u / 10) (by omega)
   rw[tS h]
   have hm:u % 10<10:=by omega
   refine⟨by rw[List.all_append,h1,List.all_cons,Ez hm];rfl,?_,by simp,λh0=>?_⟩
   ·unfold cZ at h2 ⊢;rw[qt,h2,Ch hm];omega
   ·rw[wl h3];exact h4 (by omega)
theorem sA {u:Nat} (h:u<10000000000):(Lib.decDigits u).length≤10:=by
 obtain⟨h1,h2,h3,h4⟩:=jJ u
 by_cases h0:10<(Lib.decDigits u).length
 ·obtain⟨c,r,he⟩:∃ c r,Lib.decDigits u=c::r:=by cases hd:Lib.decDigits u with | nil=>exact absurd hd h3 | cons c r=>exact⟨c,r,rfl⟩
  rw[he]at h0 h1 h2 h4
  by_cases hu:u=0
  ·subst hu;rw[io (by omega)]at he;injection he with _ he;subst he;simp at h0
  ·have hne:=h4 hu
   simp only[List.all_cons,Bool.and_eq_true]at h1
   have hc:=h1.1
   simp only[rC,Bool.and_eq_true,decide_eq_true_eq]at hc
   have hne:c.toNat≠48:=λe=>hne (by rw[List.head?_cons];congr 1;exact UInt8.toNat_inj.1 (by simpa using e))
   unfold cZ at h2
   rw[iF]at h2
   have hb:=rA r (10 * 0+(c.toNat - 48))
   have hp:10 ^ 10≤10 ^ r.length:=Nat.pow_le_pow_right (by omega) (by simp at h0;omega)
   have:1 * 10 ^ r.length≤(10 * 0+(c.toNat - 48)) * 10 ^ r.length:=Nat.mul_le_mul_right _ (by omega)
   omega
 ·omega
theorem mz {n:Int} (h:0≤n):Lib.itoa n=Lib.decDigits n.toNat:=by unfold Lib.itoa;rw[if_neg (by omega)]
theorem oV {n:Int} (h:n<0):Lib.itoa n=45::Lib.decDigits n.natAbs:=by unfold Lib.itoa;rw[if_pos h]
theorem kY:∀ (f:Nat) (u:Nat) (s:List UInt8),u<f→u<18446744073709551616→(Lib.decDigits u).length+s.length≤4294967296→fp f u s=some (Lib.decDigits u++s)
 | 0,_,_,h,_,_=>absurd h (by omega)
 | f+1,u,s,hf,hu,hl=>by
  have hpick:∀ d:Nat,d<10→vh ([48,49,50,51,52,53,54,55,56,57]:List UInt8) (d:Int) (fi ((d:Int)+1))=some [UInt8.ofNat (48+d)]:=λd hd=>by
   rw[wu (p:=(d:Int)+1) ⟨by omega,by omega⟩]
   unfold vh
   rw[if_pos ⟨by omega,by omega,by simp<;>omega⟩]
   rw[show((d:Int)).toNat=d by omega,show((d:Int)+1).toNat - d=1 by omega]
   have:∀ d:Fin 10,some ((([48,49,50,51,52,53,54,55,56,57]:List UInt8).drop d.val).take 1)=some [UInt8.ofNat (48+d.val)]:=by decide
   exact this ⟨d,hd⟩
  unfold fp
  by_cases h:u<10
  ·rw[if_neg (by simp<;>omega),hpick u h,io h]
   rw[io h]at hl
   unfold bt
   simp only[Option.bind_some]
   rw[if_pos (by simpa using hl)]
   rfl
  ·rw[if_pos (by simp<;>omega)]
   rw[tS h]at hl ⊢
   simp only[List.length_append,List.length_cons,List.length_nil]at hl
   have e1:Int.tmod (u:Int) 10=((u % 10:Nat):Int):=by rw[Int.tmod_eq_emod_of_nonneg (by omega)];rfl
   have e2:Int.tdiv (u:Int) 10=((u / 10:Nat):Int):=by rw[Int.tdiv_eq_ediv_of_nonneg (by omega)];rfl
   rw[e1,e2,hpick (u % 10) (by omega),wu (p:=((u / 10:Nat):Int)) ⟨by omega,by omega⟩]
   unfold bt
   simp only[Option.bind_some]
   rw[if_pos (by show _ ≤4294967296;simp only[List.length_cons,List.length_nil];omega),Option.bind_some]
   rw[kY f (u / 10) _ (by omega) (by omega) (by simp only[List.length_append,List.length_cons,List.length_nil];omega)]
   simp
theorem o7 {u:Nat} (hu:u<10000000000):iV (u:Int)=some (Lib.decDigits u):=by
 have:=sA hu
 unfold iV
 rw[kY fu u [] (by unfold fu;omega) (by omega) (by simp only[List.length_nil];omega)]
 simp
theorem kN {n:Int} (h: -2147483647≤n∧n≤2147483647):eW n=some (Lib.itoa n):=by
 unfold eW
 rw[wO ⟨by omega,by omega⟩]
 by_cases hn:n<0
 ·simp only[hn,decide_true,if_true,Option.bind_some]
  rw[show -n=((n.natAbs:Nat):Int)by omega,o7 (by omega),oV hn]
  have:=sA (u:=n.natAbs) (by omega)
  simp only[Option.bind_some]
  unfold bt
  rw[if_pos (by show 1+ _ ≤4294967296;omega)]
  rfl
 ·simp only[hn,decide_false,Bool.false_eq_true,if_false,Option.bind_some]
  obtain⟨u,rfl⟩:∃ u:Nat,n=u:=⟨n.toNat,by omega⟩
  rw[o7 (by omega),mz (by omega)]
  rfl
theorem lj {n:Int} (h: -2147483647≤n∧n≤2147483647):(Lib.itoa n).length≤11:=by
 by_cases hn:n<0
 ·rw[oV hn];have:=sA (u:=n.natAbs) (by omega);simp<;>omega
 ·rw[mz (by omega)];have:=sA (u:=n.toNat) (by omega);omega
def qH (a:co):List UInt8:=if mA a then(if a.D=1 then Lib.itoa a.N else Lib.itoa a.N++47::Lib.itoa a.D)else[]
theorem vX {a:co} (ha:VaR a):ja a=some (qH a):=by
 unfold ja qH
 rw[xu ha]
 cases h:mA a
 ·rfl
 ·obtain⟨a1,a2,a3,a4,a5⟩:=oX h
  simp only[Option.bind_some,Bool.not_true,Bool.false_eq_true,if_false,if_true,kN ⟨a3,a4⟩,kN (n:=a.D) ⟨by omega,by omega⟩]
  by_cases hd:a.D=1
  ·simp[hd]
  ·have l1:=lj (n:=a.N) ⟨a3,a4⟩
   have l2:=lj (n:=a.D) ⟨by omega,by omega⟩
   simp only[hd,decide_false,Bool.false_eq_true,if_false]
   unfold bt
   rw[if_pos (by show _ +1≤4294967296;omega),Option.bind_some,if_pos (by rw[List.length_append];show _ +1+ _ ≤4294967296;omega)]
   simp
end Go.Proofs.YtmhoikfoogemnaaGreatDoor
namespace Go.Proofs.YtmhoikfoogemnaaGreatDoor
open Go Go.RowKit Go.Vc
set_option linter.unusedVariables false
set_option linter.unusedSimpArgs false
theorem L8:i8=some true:=by kernel_rfl
def zn (s:List UInt8):Bool:=decide (s=[48])||(decide (s≠[])&& !decide (s.head?=some 48))
def F4 (s:List UInt8):Bool:=s.all rC&&zn s
theorem QC (s:List UInt8):iI s=some (zn s)∧qQ s=some (zn s):=by
 unfold iI qQ zn
 cases s with
 | nil=>exact⟨rfl,rfl⟩
 | cons c r=>
  have h:sat (c::r) 0=some (c.toNat:Int):=iC (i:=0) rfl
  have hc:decide ((c.toNat:Int)=48)=decide (c=48):=by
   rw[decide_eq_decide]
   exact⟨λh=>UInt8.toNat_inj.1 (by simpa using(by omega:c.toNat=48)),λh=>by rw[h];rfl⟩
  have hl:decide ((0:Int)<((c::r).length:Int))=true:=decide_eq_true (by simp only[List.length_cons];omega)
  rw[h,hl]
  by_cases e:c::r=[48]
  ·rw[e];exact⟨rfl,rfl⟩
  ·simp[gd,e,hc]
theorem Hr (d:UInt8):rC d=true↔¬ ((d.toNat:Int)<48)∧¬ (57<(d.toNat:Int)):=by
 unfold rC;simp only[Bool.and_eq_true,decide_eq_true_eq];omega
theorem yK (s:List UInt8) (hl:s.length<4611686018427387904):mp s=some (F4 s):=by
 refine ib (L:=λf (_:Unit) i=>eu s f i) (n:=s.length) hl (λi _=>(s.take i).all rC=true) (λf i _ hi hI=>?_) (λf _ hI=>?_) () (by simp)
 ·obtain⟨d,hd⟩:=bY hi
  simp only[eu]
  rw[if_pos (bs hi),iC hd,Option.bind_some]
  by_cases h:rC d=true
  ·left
   obtain⟨h1,h2⟩:=(Hr d).1 h
   refine⟨(),by rw[bE hd,List.all_append,hI];simp[h],?_⟩
   simp only[gd,h1,h2,decide_false,Bool.not_false,if_true,Option.bind_some,Bool.or_false,Bool.false_eq_true,if_false,mH (show i<4611686018427387904 by omega)]
  ·right
   have hn:F4 s=false:=by
    unfold F4;rw[Bool.eq_false_iff];intro h'
    exact h (List.all_eq_true.1 (Bool.and_eq_true _ _ ▸h').1 d (List.mem_of_getElem? hd))
   rw[hn]
   by_cases h1:(d.toNat:Int)<48
   ·simp[gd,h1]
   ·have h2:57<(d.toNat:Int):=Classical.byContradiction λh2=>h ((Hr d).2 ⟨h1,h2⟩)
    simp[gd,h1];omega
 ·rw[List.take_length]at hI
  simp only[eu]
  rw[if_neg (by simp),(QC s).1];unfold F4;rw[hI,Bool.true_and]
def pz (neg:Bool):Nat:=if neg then 9223372036854775808 else 9223372036854775807
def P2 (neg:Bool) (n:Nat):Int:=if neg then -(n:Int)else n
def Ps (s:List UInt8) (neg:Bool):Int×Bool:=if cZ s≤pz neg then(P2 neg (cZ s),true)else(0,false)
theorem OL (neg:Bool):pz neg≤9223372036854775808:=by unfold pz;split<;>omega
theorem Ic {s:List UInt8} (i:Nat):cZ (s.take i)≤cZ s:=by
 have e:cZ s=iY (cZ (s.take i)) (s.drop i):=by
  unfold cZ iY;rw[← List.foldl_append,List.take_append_drop]
 rw[e]
 have h:=rA (s.drop i) (cZ (s.take i))
 exact Nat.le_trans (Nat.le_mul_of_pos_right _ (Nat.pow_pos (by omega))) h
theorem Id {s:List UInt8} {i:Nat} {c:UInt8} (h:s[i]? =some c):cZ (s.take (i+1))=10 * cZ (s.take i)+(c.toNat - 48):=by
 rw[bE h];unfold cZ;exact qt _ _ _
theorem Kd {c:UInt8} (h:rC c=true):48≤c.toNat∧c.toNat≤57:=by
 unfold rC at h;simpa using h
theorem KU {c:UInt8} (h:rC c=true):M9 ((c.toNat:Int) - 48)=(c.toNat:Int) - 48:=by
 have:=Kd h
 exact PD (p:=(c.toNat:Int) - 48) ⟨by omega,by omega⟩
theorem xU (neg:Bool) {n:Nat} (h:n≤pz neg):jb neg (n:Int)=some (P2 neg n,true):=by
 unfold jb P2
 unfold pz at h
 cases neg with
 | false=>
  simp only[Bool.false_eq_true,if_false]at h ⊢
  rw[wi ⟨by omega,by omega⟩]
 | true=>
  simp only[if_true]at h ⊢
  by_cases e:n=9223372036854775808
  ·subst e;rfl
  ·rw[wi (p:=(n:Int)) ⟨by omega,by omega⟩,wi ⟨by omega,by omega⟩]
theorem v7 (s:List UInt8) (neg:Bool) (hl:s.length<4611686018427387904) (hd:s.all rC=true):dY s (pz neg:Int) neg fu 0 0=some (Ps s neg):=by
 refine ib (L:=λf (n:Int) i=>dY s (pz neg:Int) neg f n i) (n:=s.length) hl (λi n=>n=(cZ (s.take i):Int)∧cZ (s.take i)≤pz neg) (λf i n hi hI=>?_) (λf n hI=>?_) 0 (by simp[cZ,iY])
 ·obtain⟨c,hc⟩:=bY hi
  obtain⟨rfl,h2⟩:=hI
  have hdc:=List.all_eq_true.1 hd c (List.mem_of_getElem? hc)
  have hb:=Kd hdc
  have hL:=OL neg
  have hL2:9223372036854775807≤pz neg:=by unfold pz;split<;>omega
  have e1:fi ((c.toNat:Int) - 48)=(c.toNat:Int) - 48:=wu ⟨by omega,by omega⟩
  have e2:fi ((pz neg:Int) - ((c.toNat:Int) - 48))=(pz neg:Int) - ((c.toNat:Int) - 48):=wu ⟨by omega,by omega⟩
  have e3:Int.tdiv ((pz neg:Int) - ((c.toNat:Int) - 48)) 10=((pz neg:Int) - ((c.toNat:Int) - 48)) / 10:=Int.tdiv_eq_ediv_of_nonneg (by omega)
  simp only[dY]
  rw[if_pos (bs hi),iC hc,Option.bind_some,KU hdc,e1,e2,e3,wu (p:=((pz neg:Int) - ((c.toNat:Int) - 48)) / 10) ⟨by omega,by omega⟩]
  have hs:=Id hc
  by_cases h:((pz neg:Int) - ((c.toNat:Int) - 48)) / 10<(cZ (s.take i):Int)
  ·right
   rw[if_pos (by simpa using h)]
   have:=Ic (s:=s) (i+1)
   unfold Ps
   rw[if_neg (by omega)]
  ·left
   have h3:cZ (s.take (i+1))≤pz neg:=by omega
   refine⟨(cZ (s.take (i+1)):Int),⟨rfl,h3⟩,?_⟩
   rw[if_neg (by simpa using h),Option.bind_some,wu (p:=10 * (cZ (s.take i):Int)) ⟨by omega,by omega⟩,wu ⟨by omega,by omega⟩,mH (show i<4611686018427387904 by omega)]
   congr 1;omega
 ·obtain⟨rfl,h2⟩:=hI
  rw[List.take_length]at h2 ⊢
  simp only[dY]
  rw[if_neg (by simp),xU neg h2]
  unfold Ps;rw[if_pos h2]
theorem uM (s:List UInt8) (neg:Bool) (hl:s.length<4611686018427387904) (hd:s.all rC=true):jr s neg=some (Ps s neg):=by
 have h:=v7 s neg hl hd
 unfold jr jc
 cases neg with
 | false=>rw[show((pz false:Nat):Int)=9223372036854775807 from rfl]at h;rw[if_neg (by simp),h]
 | true=>rw[show((pz true:Nat):Int)=9223372036854775808 from rfl]at h;rw[if_pos rfl,h]
end Go.Proofs.YtmhoikfoogemnaaGreatDoor
namespace Go.Proofs.YtmhoikfoogemnaaGreatDoor
open Go Go.RowKit Go.Vc
set_option linter.unusedVariables false
set_option linter.unusedSimpArgs false
end Go.Proofs.YtmhoikfoogemnaaGreatDoor
namespace Go.Proofs.YtmhoikfoogemnaaGreatDoor
open Go Go.RowKit Go.Vc
set_option linter.unusedVariables false
set_option linter.unusedSimpArgs false
def tm (s:List UInt8) (c:Int):aC:=if s=[]then⟨c,[]⟩else if c=0 then⟨0,[]⟩else⟨0,[⟨s,c⟩]⟩
structure LinI (l:aC) (n:Nat):Prop where
 ok:cv l
 wf:Wf l
 len:l.L.length≤n
theorem R0:kX 0:=⟨by omega,by omega⟩
theorem LinI.const {k:Int} (h:kX k) (n:Nat):LinI ⟨k,[]⟩ n:=⟨⟨by intro m hm;simp at hm,List.Pairwise.nil⟩,⟨h,by intro m hm;simp at hm,by simp⟩,by simp⟩
theorem yQ {s:List UInt8} (h:bw s=true):s≠[]:=by rintro rfl;simp[bw]at h
theorem LinI.one {s:List UInt8} {c:Int} (h:bw s=true) (hc:kX c) (h0:c≠0):LinI ⟨0,[⟨s,c⟩]⟩ 1:=
 ⟨⟨by intro m hm;rw[List.mem_singleton.1 hm];exact⟨h,h0⟩,List.pairwise_singleton _ _⟩,⟨R0,by intro m hm;rw[List.mem_singleton.1 hm];exact hc,by simp⟩,by simp⟩
theorem Ky {s:List UInt8} (h:bw s=true):pU s=some ⟨0,[⟨s,1⟩]⟩∧xA s=some ⟨0,[⟨s,1⟩]⟩:=by
 unfold pU xA
 rw[uR,fh,h];exact⟨rfl,rfl⟩
theorem vW {l:aC} {n:Nat} (h:LinI l n) (hn:n≤1000000):gZ l=some 0:=by
 obtain⟨b,b0,_,b2⟩:=mv l (by have:=h.len;omega)
 unfold gZ
 rw[b2,b0.2 h.ok];rfl
theorem E4 {s:List UInt8} {c:Int} (h:bw s=true) (hc:kX c):kF ⟨0,[⟨s,1⟩]⟩ c=some (tm s c,0)∧rb ⟨0,[⟨s,1⟩]⟩ c=some (tm s c,0):=by
 have hI:=LinI.one (c:=1) h ⟨by omega,by omega⟩ (by omega)
 have hne:=yQ h
 by_cases h0:c=0
 ·subst h0
  obtain⟨b,b0,b1,b2⟩:=mv ⟨0,[⟨s,1⟩]⟩ (by simp)
  unfold kF rb tm
  rw[b1,if_pos (b0.2 hI.ok),vW hI (by omega),if_neg hne]
  exact⟨rfl,rfl⟩
 ·have et:tm s c=⟨0,[⟨s,c⟩]⟩:=by unfold tm;rw[if_neg hne,if_neg h0]
  refine⟨?_,?_⟩
  ·obtain⟨r,h1,h2⟩:=Kz _ c hI.ok hI.wf hc h0 (by simp)
   rw[h1,et]
   rcases h2 with⟨rfl,_,_⟩ | ⟨_,h2⟩
   ·simp[QU]
   ·exact absurd ⟨by simpa using R0,by intro m hm;rw[List.mem_singleton.1 hm];simpa using hc⟩ h2
  ·unfold rb
   rw[vW hI (by omega),Option.bind_some,if_neg (by simp),if_neg (by simpa using h0),z7 R0 hc,Int.zero_mul,if_pos R0,Option.bind_some,if_neg (by simp)]
   obtain⟨g,hg⟩:∃ g,fu=g+1+1:=⟨fu - 2,by unfold fu;omega⟩
   rw[hg]
   simp only[oG]
   rw[if_pos (by simp)]
   show(some (⟨s,1⟩:bv)).bind _ =_
   rw[Option.bind_some]
   show(oh 1 c).bind _ =_
   rw[z7 ⟨by omega,by omega⟩ hc,Int.one_mul,if_pos hc,Option.bind_some,if_neg (by simp)]
   show(some (⟨s,1⟩:bv)).bind _ =_
   rw[Option.bind_some,aR (by simp),Option.bind_some,show av (0+1)=1 from rfl,if_neg (by simp),et]
   rfl
end Go.Proofs.YtmhoikfoogemnaaGreatDoor
namespace Go.Proofs.YtmhoikfoogemnaaGreatDoor
open Go Go.RowKit Go.Vc
set_option linter.unusedVariables false
set_option linter.unusedSimpArgs false
abbrev PR:=aa
abbrev RS:=uG
abbrev Tk:=Int×List UInt8
def tk (t:bp):Tk:=(t.Kind,t.Text)
structure Cx where
 L:List bp
 o:Nat
section
variable {L:Cx}
end
structure Rok (L:Cx) (r:PR):Prop where
 sm:(L.o=0∧L.L.map tk=r.l.map tk)∨(L.o=1∧L.L.map tk=(3,[40])::(r.l.map tk++[(3,[41])]))
 a0:0≤r.at_
 a1:r.at_≤r.l.length
 ll:r.l.length≤50000
 tl:∀ t∈r.l,t.Text.length≤50000
 d0:0≤r.deep
 d1:r.deep≤160
def Dy (r:PR) (k:Nat):Option bp:=r.l[r.at_.toNat+k]?
def OT (o:Option bp) (kind:Int) (s:List UInt8):Bool:=match o with | some t=>decide (t.Kind=kind)&&decide (t.Text=s) | none=>false
abbrev za (r:PR) (kind:Int) (s:List UInt8):Bool:=OT (Dy r 0) kind s
def mI (r:PR):PR:=⟨r.l,r.at_+1,r.deep⟩
section
variable {r:PR} {L:Cx}
theorem Rok.wi1 (h:Rok L r):av (r.at_+1)=r.at_+1:=by have:=h.a0;have:=h.a1;have:=h.ll;exact wi ⟨by omega,by omega⟩
theorem Rok.wi0 (h:Rok L r):av ((r.at_+1) - 1)=r.at_:=by have:=h.a0;have:=h.a1;have:=h.ll;rw[show r.at_+1 - 1=r.at_ by omega];exact wi ⟨by omega,by omega⟩
theorem Rok.lat_ (h:Rok L r):lat r.l r.at_=Dy r 0:=by unfold lat Dy;rw[if_pos h.a0];rfl
theorem Rok.end_ (h:Rok L r):(Dy r 0=none∧r.at_=r.l.length∧decide (r.at_<(r.l.length:Int))=false∧decide ((r.l.length:Int)≤r.at_)=true)∨∃ t,Dy r 0=some t∧r.at_<r.l.length∧decide (r.at_<(r.l.length:Int))=true∧decide ((r.l.length:Int)≤r.at_)=false:=by
 have h0:=h.a0
 have h1:=h.a1
 by_cases c:r.at_<r.l.length
 ·right
  obtain⟨t,ht⟩:=bY (l:=r.l) (i:=r.at_.toNat) (by omega)
  exact⟨t,ht,c,decide_eq_true c,decide_eq_false (by omega)⟩
 ·left
  exact⟨List.getElem?_eq_none (by omega),by omega,decide_eq_false c,decide_eq_true (by omega)⟩
theorem qd (h:Rok L r) (k:Int) (s:List UInt8):aY r k s=some (za r k s):=by
 unfold aY za
 rw[h.lat_]
 rcases h.end_ with⟨e,_,e2,_⟩ | ⟨t,e,_,e2,_⟩
 ·rw[e,e2];rfl
 ·rw[e,e2]
  simp only[gd,if_true,Option.bind_some,Bool.true_and,OT]
  by_cases c:t.Kind=k<;>simp[c]
theorem yO (h:Rok L r) (s:List UInt8):ay r s=some (if za r 3 s=true then(true,mI r)else(false,r)):=by
 unfold ay
 rw[qd h,Option.bind_some,h.wi1]
 split<;>rfl
def Ir (r:PR):Bool:=match Dy r 0 with | some t=>decide (t.Kind=1)&&bw t.Text | none=>false
def QV (r:PR):Bool:=match Dy r 0 with | some t=>decide (t.Kind=2)&&F4 t.Text | none=>false
theorem Rok.txt_le (h:Rok L r) {t:bp} (e:Dy r 0=some t):t.Text.length<4611686018427387904:=by
 have:=h.tl t (List.mem_of_getElem? e);omega
theorem yN (h:Rok L r):cX r=some (Ir r):=by
 unfold cX Ir
 rw[h.lat_]
 rcases h.end_ with⟨e,_,e2,_⟩ | ⟨t,e,_,e2,_⟩
 ·rw[e,e2];rfl
 ·rw[e,e2]
  simp only[gd,if_true,Option.bind_some,Bool.true_and]
  by_cases c:t.Kind=1
  ·simp[c,Bl t.Text (h.txt_le e)]
  ·simp[c]
theorem Fz (h:Rok L r):fM r=some (QV r):=by
 unfold fM QV
 rw[h.lat_]
 rcases h.end_ with⟨e,_,e2,_⟩ | ⟨t,e,_,e2,_⟩
 ·rw[e,e2];rfl
 ·rw[e,e2]
  simp only[gd,if_true,Option.bind_some,Bool.true_and]
  by_cases c:t.Kind=2
  ·simp[c,yK t.Text (h.txt_le e)]
  ·simp[c]
end
section
variable {L:Cx}
def Fl (a e:Int) {β:Type} (m:Option (β×RS)):Prop:=∃ y s,m=some (y,s)∧s.E=e∧s.Pos=a∧e≠0
end
end Go.Proofs.YtmhoikfoogemnaaGreatDoor
namespace Go.Proofs.YtmhoikfoogemnaaGreatDoor
open Go Go.RowKit Go.Vc
set_option linter.unusedVariables false
set_option linter.unusedSimpArgs false
variable {L:Cx}
end Go.Proofs.YtmhoikfoogemnaaGreatDoor
namespace Go.Proofs.YtmhoikfoogemnaaGreatDoor
open Go Go.RowKit Go.Vc
set_option linter.unusedVariables false
set_option linter.unusedSimpArgs false
def qh (n:Int):List UInt8:=if n=1 then[102,108,111,111,114]else if n=2 then[99,101,105,108]else if n=3 then[122,101,114,111]else[101,118,101,110]
def rt (n:Int):List UInt8:=if n=2 then[119,114,97,112]else[115,97,116]
def Dx (t:bu):List UInt8:=
 if pF t=true then
  if t.Kind=1 then[102,114,97,99]
  else if t.Kind=3 then[105,110,116]
  else[102,105,120,40]++(Lib.itoa t.Bits++([44,32]++(Lib.itoa t.Frac++([44,32]++(qh t.Round++([44,32]++(rt t.Over++[41])))))))
 else[]
theorem Bd (n:Int):(qh n).length≤5:=by unfold qh;split<;>(try split)<;>(try split)<;>simp
theorem HR (n:Int):(rt n).length≤4:=by unfold rt;split<;>simp
theorem H2 {α:Type} {a b:List α} {c:Option (List α)} (h:a.length+b.length≤4294967296) (k:List α→Option (List α)) (he:k (a++b)=c):(bt a b).bind k=c:=by rw[aR h,Option.bind_some,he]
theorem uh (t:bu):(Dx t).length≤60:=by
 unfold Dx
 split
 ·rename_i ht
  by_cases h1:t.Kind=1
  ·simp[h1]
  by_cases h3:t.Kind=3
  ·simp[h3]
  have h2:t.Kind=2:=by rcases tt ht with k | k | k;exact absurd k h1;exact k;exact absurd k h3
  obtain⟨q1,q2,q3,q4,q5⟩:=qN ht h2
  have l1:=lj (n:=t.Bits) ⟨by omega,by omega⟩
  have l2:=lj (n:=t.Frac) ⟨by omega,by omega⟩
  have l3:=Bd t.Round
  have l4:=HR t.Over
  simp only[h1,h3,if_false,List.length_append,List.length_cons,List.length_nil]
  omega
 ·simp
end Go.Proofs.YtmhoikfoogemnaaGreatDoor
namespace Go.Proofs.YtmhoikfoogemnaaGreatDoor
open Go Go.RowKit Go.Vc
set_option linter.unusedVariables false
set_option linter.unusedSimpArgs false
theorem Jb {n:Int} (h:kX n):kP n=some (n.natAbs:Int):=by
 have:=wO h
 unfold gx at this
 unfold kP
 rw[this]
 refine congrArg some ?_
 split<;>omega
theorem M1:∀ (k u:Nat),u<10 ^ (k+1)→(Lib.decDigits u).length≤k+1
 | 0,u,h=>by rw[io (by omega)];simp
 | k+1,u,h=>by
  by_cases hu:u<10
  ·rw[io hu];simp
  ·rw[tS hu,List.length_append]
   have:=M1 k (u / 10) (by rw[Nat.pow_succ]at h;omega)
   simp only[List.length_cons,List.length_nil];omega
theorem xJ {u:Nat} (h:u<18446744073709551616):(Lib.decDigits u).length≤20:=M1 19 u (by omega)
theorem M0 (u:Nat):Lib.decDigits u≠[]:=(jJ u).2.2.1
theorem HH (d:Nat) (h:d<10):xo [M9 (fi (48+(d:Int)))]=[UInt8.ofNat (48+d)]:=by
 rw[wu (p:=48+(d:Int)) ⟨by omega,by omega⟩]
 have:∀ d:Fin 10,xo [M9 (48+((d.val:Nat):Int))]=[UInt8.ofNat (48+d.val)]:=by decide
 exact this ⟨d,h⟩
theorem wq:∀ (f:Nat) (u:Nat) (s:List UInt8),u<f→u<18446744073709551616→(Lib.decDigits u).length+s.length≤4294967296→gw f (u:Int) s=some (Lib.decDigits u++s)
 | 0,_,_,h,_,_=>absurd h (by omega)
 | f+1,u,s,hf,hu,hl=>by
  have e1:Int.tmod (u:Int) 10=((u % 10:Nat):Int):=by rw[Int.tmod_eq_emod_of_nonneg (by omega)];rfl
  have e2:Int.tdiv (u:Int) 10=((u / 10:Nat):Int):=by rw[Int.tdiv_eq_ediv_of_nonneg (by omega)];rfl
  simp only[gw]
  rw[e1,e2,HH _ (by omega),wu (p:=((u / 10:Nat):Int)) ⟨by omega,by omega⟩]
  have h1:1+s.length≤4294967296:=by
   have:=M0 u
   have:0<(Lib.decDigits u).length:=List.length_pos_iff.2 this
   omega
  rw[aR (by simpa[Nat.add_comm]using h1),Option.bind_some]
  by_cases h:u<10
  ·rw[show u / 10=0 by omega,io h,show u % 10=u by omega];rfl
  ·rw[if_neg (by simp;omega)]
   rw[tS h]at hl ⊢
   simp only[List.length_append,List.length_cons,List.length_nil]at hl
   rw[wq f (u / 10) _ (by omega) (by omega) (by simp only[List.length_append,List.length_cons,List.length_nil];omega)]
   simp
theorem Ex {u:Nat} (h:u<18446744073709551616):ki (u:Int)=some (Lib.decDigits u):=by
 have:=xJ h
 unfold ki
 rw[wq fu u [] (by unfold fu;omega) h (by simp only[List.length_nil];omega)];simp
def ud (c:Int) (nm:List UInt8):List UInt8:=if nm=[]then Lib.decDigits c.natAbs else if c.natAbs=1 then nm else Lib.decDigits c.natAbs++42::nm
def Fm (s:List UInt8) (c:Int):List UInt8:=if s=[]then(if c<0 then[45]else[])else(if c<0 then[32,45,32]else[32,43,32])
def vB (s:List UInt8) (c:Int) (nm:List UInt8):List UInt8:=s++(Fm s c++ud c nm)
theorem E3 {n:Int} (h:kX n):n.natAbs<18446744073709551616:=by obtain⟨h1,h2⟩:=h;omega
theorem Im {c:Int} (hc:kX c) (nm:List UInt8):(ud c nm).length≤21+nm.length:=by
 have:=xJ (E3 hc)
 unfold ud
 split
 ·omega
 ·split
  ·omega
  ·simp only[List.length_append,List.length_cons];omega
theorem Jd (s:List UInt8) (c:Int):(Fm s c).length≤3:=by unfold Fm;split<;>split<;>simp
theorem E0 {c:Int} (hc:kX c) (s nm:List UInt8):(vB s c nm).length≤s.length+24+nm.length:=by
 have:=Im hc nm;have:=Jd s c
 unfold vB;simp only[List.length_append];omega
theorem Kp {c:Int} (nm:List UInt8):ud c nm≠[]:=by
 unfold ud
 split
 ·exact M0 _
 ·split
  ·assumption
  ·simp
theorem L9 {c:Int} (s nm:List UInt8):vB s c nm≠[]:=by
 unfold vB;simp[Kp]
theorem IX (s:List UInt8) (c:Int) (t:List UInt8) (hl:s.length+t.length+3≤4294967296):mn s (decide (c<0)) t=some (s++(Fm s c++t)):=by
 unfold mn Fm
 by_cases hs:s=[]
 ·subst hs
  by_cases h0:c<0
  ·simp only[h0,decide_true,Bool.and_self,if_true]
   rw[aR (by simp only[List.length_cons,List.length_nil];omega)];rfl
  ·simp[h0]
 ·by_cases h0:c<0
  ·simp only[h0,hs,decide_true,decide_false,Bool.false_and,Bool.false_eq_true,if_false,if_true]
   rw[aR (by simp only[List.length_cons,List.length_nil];omega),Option.bind_some,aR (by simp only[List.length_append,List.length_cons,List.length_nil];omega)]
   simp
  ·simp only[h0,hs,decide_false,Bool.and_false,Bool.false_eq_true,if_false]
   rw[aR (by simp only[List.length_cons,List.length_nil];omega),Option.bind_some,aR (by simp only[List.length_append,List.length_cons,List.length_nil];omega)]
   simp
instance (l:aC):Decidable (cv l):=by unfold cv;infer_instance
def pj (l:List bv) (s:List UInt8):List UInt8:=l.foldl (λs m=>vB s m.By m.Name) s
def FL (l:aC):List UInt8:=if l.K≠0∨l.L=[]then vB (pj l.L []) l.K []else pj l.L []
def mw (l:aC):List UInt8:=if cv l then FL l else[]
theorem oo {l:aC} (hl:l.L.length<4611686018427387904):ij l=some (if cv l then 0 else 1)∧dH l=some (decide (cv l)):=by
 obtain⟨b,h1,h2,h3⟩:=mv l hl
 by_cases h:cv l
 ·have hb:=h1.2 h;subst hb;exact⟨by rw[h2,if_pos rfl,if_pos h],by rw[h3,decide_eq_true h]⟩
 ·have hb:b=false:=by cases b;rfl;exact absurd (h1.1 rfl) h
  subst hb;exact⟨by rw[h2,if_neg h];rfl,by rw[h3,decide_eq_false h]⟩
theorem oD {s:List UInt8} (h:bw s=true):s≠[]∧s.length≤16:=by
 unfold bw at h
 simp only[Bool.and_eq_true,decide_eq_true_eq]at h
 exact h.1.1.1
theorem Bq (l:List bv) (h:∀ m∈l,m.Name.length≤16∧kX m.By):∀ s,(pj l s).length≤s.length+40 * l.length:=by
 induction l with
 | nil=>intro s;simp[pj]
 | cons m l ih=>
  intro s
  have h1:=E0 (h m (by simp)).2 s m.Name
  have h2:=(h m (by simp)).1
  have h3:=ih (λx hx=>h x (by simp[hx])) (vB s m.By m.Name)
  show(pj l (vB s m.By m.Name)).length≤ _
  simp only[List.length_cons];omega
theorem FU (l:List bv) (m:bv) (s:List UInt8):pj (l++[m]) s=vB (pj l s) m.By m.Name:=by unfold pj;rw[List.foldl_append];rfl
theorem Ef {l:aC} (ho:cv l) (hr:∀ m∈l.L,kX m.By) (hk:kX l.K):(FL l).length≤40 * l.L.length+24:=by
 have h1:=Bq l.L (λm hm=>⟨(oD (ho.1 m hm).1).2,hr m hm⟩) []
 have h2:=E0 hk (pj l.L []) []
 simp only[List.length_nil]at h1 h2
 unfold FL
 split<;>omega
theorem ml {l:aC} (hr:∀ m∈l.L,kX m.By) (hk:kX l.K) (hl:l.L.length<90000000):fI l=some (mw l):=by
 unfold fI gZ mw
 rw[(oo (by omega)).2,Option.bind_some]
 by_cases ho:cv l
 rotate_left
 ·rw[decide_eq_false ho,if_neg ho];rfl
 rw[decide_eq_true ho,if_pos ho]
 simp only[Bool.not_true,Bool.false_eq_true,if_false,Option.bind_some,decide_true]
 have hb:∀ i,(pj (l.L.take i) []).length≤40 * l.L.length:=λi=>by
  have h1:=Bq (l.L.take i) (λm hm=>⟨(oD (ho.1 m (List.mem_of_mem_take hm)).1).2,hr m (List.mem_of_mem_take hm)⟩) []
  rw[List.length_take]at h1
  simp only[List.length_nil]at h1;omega
 refine ib (L:=λf s i=>cw l f s i) (n:=l.L.length) (by omega) (λi s=>s=pj (l.L.take i) []) ?_ ?_ [] (by simp[pj])
 ·rintro f i s hi rfl
  obtain⟨m,hm⟩:=bY hi
  have hmem:=List.mem_of_getElem? hm
  left
  refine⟨vB (pj (l.L.take i) []) m.By m.Name,by rw[bE hm,FU],?_⟩
  have hbi:=hb i
  obtain⟨hn0,hn⟩:=oD (ho.1 m hmem).1
  have h20:=xJ (E3 (hr m hmem))
  have j2:∀ t,t.length≤40→iy (pj (l.L.take i) []) m (cw l f) (i:Int) t=cw l f (pj (l.L.take i) []++(Fm (pj (l.L.take i) []) m.By++t)) ((i+1:Nat):Int):=λt ht=>by
   unfold iy
   rw[IX _ _ _ (by omega),Option.bind_some,mH (by omega)]
  simp only[cw]
  rw[if_pos (bs hi),bn hm,Option.bind_some,Option.bind_some,Jb (hr m hmem),Option.bind_some]
  unfold vB ud
  rw[if_neg hn0]
  by_cases h1:m.By.natAbs=1
  ·rw[if_neg (by simp[h1]),if_pos h1,j2 _ (by omega)]
  ·rw[if_pos (by simp;omega),if_neg h1,Option.bind_some,Ex (E3 (hr m hmem)),Option.bind_some,aR (by simp only[List.length_cons,List.length_nil];omega),Option.bind_some,aR (by simp only[List.length_append,List.length_cons,List.length_nil];omega),Option.bind_some,j2 _ (by simp only[List.length_append,List.length_cons,List.length_nil];omega)]
   simp
 ·rintro f s rfl
  have:=hb l.L.length
  have h20:=xJ (E3 hk)
  rw[List.take_length]at this ⊢
  simp only[cw]
  rw[if_neg (by simp)]
  unfold lG FL
  by_cases hK:l.K≠0∨l.L=[]
  ·rw[if_pos (by rcases hK with h | h<;>simp[h]),if_pos hK,Jb hk,Option.bind_some,Ex (E3 hk),Option.bind_some,IX _ _ _ (by omega)]
   simp[vB,ud]
  ·rw[if_neg hK,if_neg]
   intro h;apply hK
   simpa using h
end Go.Proofs.YtmhoikfoogemnaaGreatDoor
