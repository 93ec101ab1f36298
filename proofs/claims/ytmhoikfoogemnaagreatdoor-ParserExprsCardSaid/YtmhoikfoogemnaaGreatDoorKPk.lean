import Derived.Lib.ItoaNum
import Derived.Test.YtmhoikfoogemnaaGreatDoorKFv
namespace Go.Proofs.YtmhoikfoogemnaaGreatDoor.Z01
open Go Go.RowKit Go.Vc
set_option linter.unusedVariables false
set_option linter.unusedSimpArgs false
theorem sk (n:Nat) (s:List UInt8) (c:UInt8):i8 n (s++[c])=10 * i8 n s+(c.toNat - 48):=by
 unfold i8;rw[List.foldl_append];rfl
theorem ws {u:Nat} (h:u<10):Lib.decDigits u=[UInt8.ofNat (48+u)]:=by rw[Lib.decDigits,dif_pos h]
theorem Ex {u:Nat} (h:¬ u<10):Lib.decDigits u=Lib.decDigits (u / 10)++[UInt8.ofNat (48+u % 10)]:=by rw[Lib.decDigits,dif_neg h]
theorem Ae {s t:List UInt8} (h:s≠[]):(s++t).head?=s.head?:=by cases s with | nil=>exact absurd rfl h | cons c r=>rfl
theorem yJ:∀ (n:Nat) (s:List UInt8),s.length=n→mW s=true→Lib.decDigits (bN s)=s
 | 0,s,hn,h=>absurd (List.eq_nil_of_length_eq_zero hn) (nv h).2.1
 | n+1,s,hn,h=>by
  obtain⟨h1,h2,h3⟩:=nv h
  have hs:=List.dropLast_concat_getLast h2
  have hlen:s.dropLast.length=n:=by rw[List.length_dropLast];omega
  generalize s.getLast h2=c at hs
  generalize s.dropLast=t at hs hlen
  subst hs
  simp only[List.all_append,List.all_cons,List.all_nil,Bool.and_true,Bool.and_eq_true]at h1
  have hc:=h1.2
  simp only[oW,Bool.and_eq_true,decide_eq_true_eq]at hc
  have hd:bN (t++[c])=10 * bN t+(c.toNat - 48):=sk 0 t c
  have e1:UInt8.ofNat (48+(c.toNat - 48))=c:=by rw[show 48+(c.toNat - 48)=c.toNat by omega];exact UInt8.ofNat_toNat
  rw[hd]
  by_cases ht:t=[]
  ·subst ht
   rw[show 10 * bN []+(c.toNat - 48)=c.toNat - 48 by simp[bN,i8],ws (by omega),e1];rfl
  ·have h4:t.head?≠some 48:=by
    have h5:=h3.resolve_left (fun e=>by
     have h6:=congrArg List.length e
     have:=Bi ht
     rw[List.length_append]at h6
     simp only[List.length_cons,List.length_nil]at h6
     omega)
    rwa [Ae ht]at h5
   have hb:mW t=true:=by unfold mW;rw[h1.1];simp[ht,h4]
   have hne:t≠[48]:=fun e=>by rw[e]at h4;simp at h4
   have hp:=wq hb hne
   rw[Ex (by omega),show(10 * bN t+(c.toNat - 48)) / 10=bN t by omega,show(10 * bN t+(c.toNat - 48)) % 10=c.toNat - 48 by omega,e1,yJ n t hlen hb]
theorem yy {n:Int} (h:0≤n):Lib.itoa n=Lib.decDigits n.toNat:=by unfold Lib.itoa;rw[if_neg (by omega)]
theorem B4 {n:Int} (h:n<0):Lib.itoa n=45::Lib.decDigits n.natAbs:=by unfold Lib.itoa;rw[if_pos h]
def Et (a:GVal):List UInt8:=if oY a then(if a.D=1 then Lib.itoa a.N else Lib.itoa a.N++47::Lib.itoa a.D)else[]
theorem xP {s:List UInt8} (h:ld s=true):Lib.itoa (if(aV s).1 then -(bN (aV s).2:Int)else bN (aV s).2)=s:=by
 unfold ld at h
 simp only[Bool.and_eq_true,Bool.not_eq_true',Bool.and_eq_false_iff,decide_eq_false_iff_not]at h
 obtain⟨h1,h2⟩:=h
 revert h1 h2
 unfold aV
 split
 ·rename_i t
  intro h1 h2
  have h8:=h2.resolve_left (by simp)
  have hp:=wq h1 h8
  show Lib.itoa (-(bN t:Int))=45::t
  replace hp:1≤bN t:=hp
  rw[B4 (by omega),show(-(bN t:Int)).natAbs=bN t by omega,yJ _ t rfl h1]
 ·intro h1 h2
  simp only[Bool.false_eq_true,if_false]
  rw[yy (by omega),show((bN s:Nat):Int).toNat=bN s by omega,yJ _ s rfl h1]
theorem rM {neg:Bool} {d b:List UInt8} {v:GVal} (h:jL neg d b=(v,0)):v=⟨if neg then -(bN d:Int)else bN d,bN b⟩∧oY v=true:=by
 unfold jL at h
 by_cases c:bN d≤2147483647∧bN b≤2147483647
 ·rw[if_pos c]at h
  by_cases hf:oY ⟨if neg=true then -(bN d:Int)else bN d,bN b⟩=true
  ·rw[if_pos hf]at h
   injection h with h _
   subst h;exact⟨rfl,hf⟩
  ·rw[if_neg hf]at h
   injection h with _ h;cases h
 ·rw[if_neg c]at h
  injection h with _ h;cases h
theorem CQ {s:List UInt8} {v:GVal} (h:parseS s=(v,0)):oY v=true∧Et v=s:=by
 unfold parseS at h
 have no5:((⟨0,0⟩,5):GVal×Int)≠(v,0):=fun e=>by injection e with _ e;cases e
 split at h
 ·rename_i hs
  unfold nV at h
  split at h
  ·rename_i hw
   obtain⟨h1,h2⟩:=rM h
   refine⟨h2,?_⟩
   unfold Et
   rw[if_pos h2,h1]
   simp only[show((bN [49]:Nat):Int)=1 from rfl,if_true]
   exact xP hw
  ·exact absurd h no5
 ·rename_i i hs
  unfold nV at h
  split at h
  ·rename_i hw
   dsimp only at h
   split at h
   ·rename_i hb
    simp only[Bool.and_eq_true,Bool.not_eq_true',decide_eq_false_iff_not]at hb
    obtain⟨h1,h2⟩:=rM h
    refine⟨h2,?_⟩
    obtain⟨g1,g2,g3⟩:=nv hb.1.1
    have hD:Lib.decDigits (bN (s.drop (i+1)))=s.drop (i+1):=yJ _ _ rfl hb.1.1
    have hne:¬ (bN (s.drop (i+1)):Int)=1:=fun e=>by
     rw[show bN (s.drop (i+1))=1 by omega,ws (by omega)]at hD
     exact hb.2 hD.symm
    unfold Et
    rw[if_pos h2,h1]
    simp only[hne,if_false]
    rw[xP hw,yy (by omega),show((bN (s.drop (i+1)):Nat):Int).toNat=bN (s.drop (i+1))by omega,hD]
    have hi:=ri hs
    have hc:s[i]? =some 47:=by
     clear h h1 h2 hb g1 g2 g3 hD hne hw no5 v
     induction s generalizing i with
     | nil=>cases hs
     | cons c r ih=>
      unfold lz at hs
      split at hs
      ·rename_i hc;injection hs with hs;subst hs;simp[hc]
      ·obtain⟨j,hj,rfl⟩:=Option.map_eq_some_iff.1 hs
       simpa using ih j hj (ri hj)
    have hd2:s.drop i=47::s.drop (i+1):=by
     rw[List.drop_eq_getElem_cons hi]
     congr 1
     rw[List.getElem?_eq_getElem hi]at hc
     exact Option.some.inj hc
    rw[← hd2,List.take_append_drop]
   ·exact absurd h no5
  ·exact absurd h no5
end Go.Proofs.YtmhoikfoogemnaaGreatDoor.Z01
namespace Go.Proofs.YtmhoikfoogemnaaGreatDoor.Z01
open Go Go.RowKit Go.Vc
set_option linter.unusedVariables false
set_option linter.unusedSimpArgs false
end Go.Proofs.YtmhoikfoogemnaaGreatDoor.Z01
namespace Go.Proofs.YtmhoikfoogemnaaGreatDoor.Z01
open Go Go.RowKit Go.Vc
set_option linter.unusedVariables false
set_option linter.unusedSimpArgs false
theorem Cv {s:List UInt8} (h:(parseS s).2≠0):(parseS s).1=⟨0,0⟩:=by
 have fin:∀ neg d b,(jL neg d b).2≠0→(jL neg d b).1=⟨0,0⟩:=fun neg d b h=>by
  unfold jL at h ⊢
  by_cases c:bN d≤2147483647∧bN b≤2147483647
  ·rw[if_pos c]at h ⊢
   by_cases hf:oY ⟨if neg=true then -(bN d:Int)else bN d,bN b⟩=true
   ·rw[if_pos hf]at h;exact absurd rfl h
   ·rw[if_neg hf]
  ·rw[if_neg c]
 have tb:∀ t b,(nV t b).2≠0→(nV t b).1=⟨0,0⟩:=fun t b h=>by
  unfold nV at h ⊢
  by_cases c:ld t=true
  ·rw[if_pos c]at h ⊢
   cases b with
   | none=>exact fin _ _ _ h
   | some b=>
    dsimp only at h ⊢
    by_cases c2:(mW b&& !decide (b=[48])&& !decide (b=[49]))=true
    ·rw[if_pos c2]at h ⊢;exact fin _ _ _ h
    ·rw[if_neg c2]
  ·rw[if_neg c]
 unfold parseS at h ⊢
 split at h<;>exact tb _ _ h
theorem parse_ok {s:List UInt8} (h:(parseS s).2=0):oY (parseS s).1=true∧Et (parseS s).1=s:=CQ (v:=(parseS s).1) (by rw[← h])
def vparse (t:GType) (s:List UInt8):GVal×Int:=
 if rh t=true then
  if(parseS s).2≠0 then(⟨0,0⟩,(parseS s).2)
  else if t.Kind=1 then((parseS s).1,0)
  else if t.Kind=3 then(if(parseS s).1.D=1 then((parseS s).1,0)else(⟨0,0⟩,5))
  else if Int.tmod (pw t.Frac) (parseS s).1.D=0 then
   (if A9 t ⟨(parseS s).1.N * Int.tdiv (pw t.Frac) (parseS s).1.D,1⟩=true then(⟨(parseS s).1.N * Int.tdiv (pw t.Frac) (parseS s).1.D,1⟩,0)else(⟨0,0⟩,3))
  else(⟨0,0⟩,5)
 else(⟨0,0⟩,10)
theorem DW {v:GVal} {f:Int} (hv:oY v=true) (h0:0≤f) (h:f≤30):0≤Int.tdiv (pw f) v.D∧Int.tdiv (pw f) v.D≤1073741824∧ -2305843009213693952≤v.N * Int.tdiv (pw f) v.D∧v.N * Int.tdiv (pw f) v.D≤2305843009213693952:=by
 obtain⟨a1,a2,a3,a4,a5⟩:=yC hv
 have hp:=vO h
 have hq:=(E6 (n:=pw f) (d:=v.D) (by omega)).1 (by omega)
 have:=Hf (x:=v.N) (y:=Int.tdiv (pw f) v.D) (B:=2147483648) ⟨by omega,by omega⟩ ⟨by omega,by omega⟩
 have h3:=Int.mul_le_mul_of_nonneg_right a4 hq.1
 have h4:=Int.mul_le_mul_of_nonneg_right a3 hq.1
 refine⟨by omega,by omega,by omega,by omega⟩
theorem value_Parse {t:GType} {s:List UInt8} (hl:s.length≤4294967296):mt t s=some (vparse t s):=by
 unfold mt vparse
 rw[kF]
 cases ht:rh t
 ·rfl
 rw[Bl hl]
 simp only[if_true,Option.bind_some,decide_true,Bool.not_true,Bool.false_eq_true,if_false]
 by_cases h0:(parseS s).2=0
 ·obtain⟨hv,_⟩:=parse_ok h0
  simp only[h0,decide_true,Bool.not_true,Bool.false_eq_true,if_false,ne_eq,not_true_eq_false]
  revert hv
  generalize (parseS s).1=v
  intro hv
  obtain⟨a1,a2,a3,a4,a5⟩:=yC hv
  by_cases k3:t.Kind=3
  ·by_cases hd:v.D=1
   ·simp[k3,hd]
   ·simp[k3,hd]
  by_cases k2:t.Kind=2
  ·obtain⟨q1,q2,q3,q4,q5,q6,q7⟩:=uY ht k2
   have hp:=vO (n:=t.Frac) q4
   obtain⟨b1,b2,b3,b4⟩:=DW hv q3 q4
   simp only[k2,show decide ((2:Int)=3)=false from rfl,Bool.false_eq_true,if_false,decide_true,if_true,q3,vN q3 q4,Int.one_mul,show ¬ ((2:Int)=1)by decide,show ¬ ((2:Int)=3)by decide,decide_false]
   rw[wi (p:=pw t.Frac) ⟨by omega,by omega⟩,if_pos (by omega),wi (p:=Int.tdiv (pw t.Frac) v.D) ⟨by omega,by omega⟩,wi (p:=v.N * Int.tdiv (pw t.Frac) v.D) ⟨by omega,by omega⟩,un _ ht k2]
   by_cases hm:Int.tmod (pw t.Frac) v.D=0
   ·cases ho:A9 t ⟨v.N * Int.tdiv (pw t.Frac) v.D,1⟩<;>simp[hm]
   ·simp[hm]
  ·have k1:t.Kind=1:=by rcases zz ht with k | k | k;exact k;exact absurd k k2;exact absurd k k3
   simp[k1]
 ·simp[h0]
theorem ref04_Parse {t:GType} {s:List UInt8} (hl:s.length≤4294967296):mB t s=some (vparse t s):=by
 unfold mB vparse
 rw[ua]
 cases ht:rh t
 ·rfl
 rw[zQ hl]
 simp only[if_true,Option.bind_some,Bool.not_true,Bool.false_eq_true,if_false]
 by_cases h0:(parseS s).2=0
 ·obtain⟨hv,_⟩:=parse_ok h0
  simp only[h0,decide_true,Bool.not_true,Bool.false_or,Bool.false_eq_true,if_false,ne_eq,not_true_eq_false]
  revert hv
  generalize (parseS s).1=v
  intro hv
  obtain⟨a1,a2,a3,a4,a5⟩:=yC hv
  by_cases k1:t.Kind=1
  ·simp[k1]
  by_cases k3:t.Kind=3
  ·by_cases hd:v.D=1
   ·simp[k3,hd]
   ·simp[k3,hd]
  have k2:t.Kind=2:=by rcases zz ht with k | k | k;exact absurd k k1;exact k;exact absurd k k3
  obtain⟨q1,q2,q3,q4,q5,q6,q7⟩:=uY ht k2
  have hp:=vO (n:=t.Frac) q4
  obtain⟨b1,b2,b3,b4⟩:=DW hv q3 q4
  rw[AV q3 q4]
  simp only[k1,k3,decide_false,Bool.false_eq_true,if_false,Option.bind_some]
  rw[if_pos (by omega),wi (p:=Int.tdiv (pw t.Frac) v.D) ⟨by omega,by omega⟩,wi (p:=v.N * Int.tdiv (pw t.Frac) v.D) ⟨by omega,by omega⟩,AC ht ⟨⟨by simp only;omega,by simp only;omega⟩,⟨by simp only;omega,by simp only;omega⟩⟩]
  by_cases hm:Int.tmod (pw t.Frac) v.D=0
  ·cases ho:A9 t ⟨v.N * Int.tdiv (pw t.Frac) v.D,1⟩<;>simp[hm]
  ·simp[hm]
 ·have e:=Cv h0
  simp[h0,e]
end Go.Proofs.YtmhoikfoogemnaaGreatDoor.Z01
