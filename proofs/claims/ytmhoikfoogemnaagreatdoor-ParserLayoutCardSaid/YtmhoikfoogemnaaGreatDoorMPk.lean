import Derived.Lib.ItoaNum
import Derived.Test.YtmhoikfoogemnaaGreatDoorMFv
namespace Go.Proofs.YtmhoikfoogemnaaGreatDoor.Z01
open Go Go.RowKit Go.Vc
set_option linter.unusedVariables false
set_option linter.unusedSimpArgs false
theorem qT (n:Nat) (s:List UInt8) (c:UInt8):iA n (s++[c])=10 * iA n s+(c.toNat - 48):=by
 unfold iA;rw[List.foldl_append];rfl
theorem uW {u:Nat} (h:u<10):Lib.decDigits u=[UInt8.ofNat (48+u)]:=by rw[Lib.decDigits,dif_pos h]
theorem Dy {u:Nat} (h:¬ u<10):Lib.decDigits u=Lib.decDigits (u / 10)++[UInt8.ofNat (48+u % 10)]:=by rw[Lib.decDigits,dif_neg h]
theorem yC {s t:List UInt8} (h:s≠[]):(s++t).head?=s.head?:=by cases s with | nil=>exact absurd rfl h | cons c r=>rfl
theorem xp:∀ (n:Nat) (s:List UInt8),s.length=n→lJ s=true→Lib.decDigits (bH s)=s
 | 0,s,hn,h=>absurd (List.eq_nil_of_length_eq_zero hn) (l9 h).2.1
 | n+1,s,hn,h=>by
  obtain⟨h1,h2,h3⟩:=l9 h
  have hs:=List.dropLast_concat_getLast h2
  have hlen:s.dropLast.length=n:=by rw[List.length_dropLast];omega
  generalize s.getLast h2=c at hs
  generalize s.dropLast=t at hs hlen
  subst hs
  simp only[List.all_append,List.all_cons,List.all_nil,Bool.and_true,Bool.and_eq_true]at h1
  have hc:=h1.2
  simp only[nL,Bool.and_eq_true,decide_eq_true_eq]at hc
  have hd:bH (t++[c])=10 * bH t+(c.toNat - 48):=qT 0 t c
  have e1:UInt8.ofNat (48+(c.toNat - 48))=c:=by rw[show 48+(c.toNat - 48)=c.toNat by omega];exact UInt8.ofNat_toNat
  rw[hd]
  by_cases ht:t=[]
  ·subst ht
   rw[show 10 * bH []+(c.toNat - 48)=c.toNat - 48 by simp[bH,iA],uW (by omega),e1];rfl
  ·have h4:t.head?≠some 48:=by
    have h5:=h3.resolve_left (fun e=>by
     have h6:=congrArg List.length e
     have:=zO ht
     rw[List.length_append]at h6
     simp only[List.length_cons,List.length_nil]at h6
     omega)
    rwa [yC ht]at h5
   have hb:lJ t=true:=by unfold lJ;rw[h1.1];simp[ht,h4]
   have hne:t≠[48]:=fun e=>by rw[e]at h4;simp at h4
   have hp:=uU hb hne
   rw[Dy (by omega),show(10 * bH t+(c.toNat - 48)) / 10=bH t by omega,show(10 * bH t+(c.toNat - 48)) % 10=c.toNat - 48 by omega,e1,xp n t hlen hb]
theorem xb {n:Int} (h:0≤n):Lib.itoa n=Lib.decDigits n.toNat:=by unfold Lib.itoa;rw[if_neg (by omega)]
theorem AP {n:Int} (h:n<0):Lib.itoa n=45::Lib.decDigits n.natAbs:=by unfold Lib.itoa;rw[if_pos h]
def Dv (a:GVal):List UInt8:=if nN a then(if a.D=1 then Lib.itoa a.N else Lib.itoa a.N++47::Lib.itoa a.D)else[]
theorem wc {s:List UInt8} (h:kn s=true):Lib.itoa (if(aU s).1 then -(bH (aU s).2:Int)else bH (aU s).2)=s:=by
 unfold kn at h
 simp only[Bool.and_eq_true,Bool.not_eq_true',Bool.and_eq_false_iff,decide_eq_false_iff_not]at h
 obtain⟨h1,h2⟩:=h
 revert h1 h2
 unfold aU
 split
 ·rename_i t
  intro h1 h2
  have h8:=h2.resolve_left (by simp)
  have hp:=uU h1 h8
  show Lib.itoa (-(bH t:Int))=45::t
  replace hp:1≤bH t:=hp
  rw[AP (by omega),show(-(bH t:Int)).natAbs=bH t by omega,xp _ t rfl h1]
 ·intro h1 h2
  simp only[Bool.false_eq_true,if_false]
  rw[xb (by omega),show((bH s:Nat):Int).toNat=bH s by omega,xp _ s rfl h1]
theorem qx {neg:Bool} {d b:List UInt8} {v:GVal} (h:jd neg d b=(v,0)):v=⟨if neg then -(bH d:Int)else bH d,bH b⟩∧nN v=true:=by
 unfold jd at h
 by_cases c:bH d≤2147483647∧bH b≤2147483647
 ·rw[if_pos c]at h
  by_cases hf:nN ⟨if neg=true then -(bH d:Int)else bH d,bH b⟩=true
  ·rw[if_pos hf]at h
   injection h with h _
   subst h;exact⟨rfl,hf⟩
  ·rw[if_neg hf]at h
   injection h with _ h;cases h
 ·rw[if_neg c]at h
  injection h with _ h;cases h
theorem BC {s:List UInt8} {v:GVal} (h:parseS s=(v,0)):nN v=true∧Dv v=s:=by
 unfold parseS at h
 have no5:((⟨0,0⟩,5):GVal×Int)≠(v,0):=fun e=>by injection e with _ e;cases e
 split at h
 ·rename_i hs
  unfold mA at h
  split at h
  ·rename_i hw
   obtain⟨h1,h2⟩:=qx h
   refine⟨h2,?_⟩
   unfold Dv
   rw[if_pos h2,h1]
   simp only[show((bH [49]:Nat):Int)=1 from rfl,if_true]
   exact wc hw
  ·exact absurd h no5
 ·rename_i i hs
  unfold mA at h
  split at h
  ·rename_i hw
   dsimp only at h
   split at h
   ·rename_i hb
    simp only[Bool.and_eq_true,Bool.not_eq_true',decide_eq_false_iff_not]at hb
    obtain⟨h1,h2⟩:=qx h
    refine⟨h2,?_⟩
    obtain⟨g1,g2,g3⟩:=l9 hb.1.1
    have hD:Lib.decDigits (bH (s.drop (i+1)))=s.drop (i+1):=xp _ _ rfl hb.1.1
    have hne:¬ (bH (s.drop (i+1)):Int)=1:=fun e=>by
     rw[show bH (s.drop (i+1))=1 by omega,uW (by omega)]at hD
     exact hb.2 hD.symm
    unfold Dv
    rw[if_pos h2,h1]
    simp only[hne,if_false]
    rw[wc hw,xb (by omega),show((bH (s.drop (i+1)):Nat):Int).toNat=bH (s.drop (i+1))by omega,hD]
    have hi:=pZ hs
    have hc:s[i]? =some 47:=by
     clear h h1 h2 hb g1 g2 g3 hD hne hw no5 v
     induction s generalizing i with
     | nil=>cases hs
     | cons c r ih=>
      unfold kA at hs
      split at hs
      ·rename_i hc;injection hs with hs;subst hs;simp[hc]
      ·obtain⟨j,hj,rfl⟩:=Option.map_eq_some_iff.1 hs
       simpa using ih j hj (pZ hj)
    have hd2:s.drop i=47::s.drop (i+1):=by
     rw[List.drop_eq_getElem_cons hi]
     congr 1
     rw[List.getElem?_eq_getElem hi]at hc
     exact Option.some.inj hc
    rw[← hd2,List.take_append_drop]
   ·exact absurd h no5
  ·exact absurd h no5
end Go.Proofs.YtmhoikfoogemnaaGreatDoor.Z01
namespace Go.Proofs.YtmhoikfoogemnaaGreatDoor.Z01
open Go Go.RowKit Go.Vc
set_option linter.unusedVariables false
set_option linter.unusedSimpArgs false
end Go.Proofs.YtmhoikfoogemnaaGreatDoor.Z01
namespace Go.Proofs.YtmhoikfoogemnaaGreatDoor.Z01
open Go Go.RowKit Go.Vc
set_option linter.unusedVariables false
set_option linter.unusedSimpArgs false
theorem Bh {s:List UInt8} (h:(parseS s).2≠0):(parseS s).1=⟨0,0⟩:=by
 have fin:∀ neg d b,(jd neg d b).2≠0→(jd neg d b).1=⟨0,0⟩:=fun neg d b h=>by
  unfold jd at h ⊢
  by_cases c:bH d≤2147483647∧bH b≤2147483647
  ·rw[if_pos c]at h ⊢
   by_cases hf:nN ⟨if neg=true then -(bH d:Int)else bH d,bH b⟩=true
   ·rw[if_pos hf]at h;exact absurd rfl h
   ·rw[if_neg hf]
  ·rw[if_neg c]
 have tb:∀ t b,(mA t b).2≠0→(mA t b).1=⟨0,0⟩:=fun t b h=>by
  unfold mA at h ⊢
  by_cases c:kn t=true
  ·rw[if_pos c]at h ⊢
   cases b with
   | none=>exact fin _ _ _ h
   | some b=>
    dsimp only at h ⊢
    by_cases c2:(lJ b&& !decide (b=[48])&& !decide (b=[49]))=true
    ·rw[if_pos c2]at h ⊢;exact fin _ _ _ h
    ·rw[if_neg c2]
  ·rw[if_neg c]
 unfold parseS at h ⊢
 split at h<;>exact tb _ _ h
theorem parse_ok {s:List UInt8} (h:(parseS s).2=0):nN (parseS s).1=true∧Dv (parseS s).1=s:=BC (v:=(parseS s).1) (by rw[← h])
def vparse (t:GType) (s:List UInt8):GVal×Int:=
 if pY t=true then
  if(parseS s).2≠0 then(⟨0,0⟩,(parseS s).2)
  else if t.Kind=1 then((parseS s).1,0)
  else if t.Kind=3 then(if(parseS s).1.D=1 then((parseS s).1,0)else(⟨0,0⟩,5))
  else if Int.tmod (pw t.Frac) (parseS s).1.D=0 then
   (if zC t ⟨(parseS s).1.N * Int.tdiv (pw t.Frac) (parseS s).1.D,1⟩=true then(⟨(parseS s).1.N * Int.tdiv (pw t.Frac) (parseS s).1.D,1⟩,0)else(⟨0,0⟩,3))
  else(⟨0,0⟩,5)
 else(⟨0,0⟩,10)
theorem Cw {v:GVal} {f:Int} (hv:nN v=true) (h0:0≤f) (h:f≤30):0≤Int.tdiv (pw f) v.D∧Int.tdiv (pw f) v.D≤1073741824∧ -2305843009213693952≤v.N * Int.tdiv (pw f) v.D∧v.N * Int.tdiv (pw f) v.D≤2305843009213693952:=by
 obtain⟨a1,a2,a3,a4,a5⟩:=xg hv
 have hp:=uu h
 have hq:=(DW (n:=pw f) (d:=v.D) (by omega)).1 (by omega)
 have:=GF (x:=v.N) (y:=Int.tdiv (pw f) v.D) (B:=2147483648) ⟨by omega,by omega⟩ ⟨by omega,by omega⟩
 have h3:=Int.mul_le_mul_of_nonneg_right a4 hq.1
 have h4:=Int.mul_le_mul_of_nonneg_right a3 hq.1
 refine⟨by omega,by omega,by omega,by omega⟩
theorem value_Parse {t:GType} {s:List UInt8} (hl:s.length≤4294967296):lm t s=some (vparse t s):=by
 unfold lm vparse
 rw[jS]
 cases ht:pY t
 ·rfl
 rw[zW hl]
 simp only[if_true,Option.bind_some,decide_true,Bool.not_true,Bool.false_eq_true,if_false]
 by_cases h0:(parseS s).2=0
 ·obtain⟨hv,_⟩:=parse_ok h0
  simp only[h0,decide_true,Bool.not_true,Bool.false_eq_true,if_false,ne_eq,not_true_eq_false]
  revert hv
  generalize (parseS s).1=v
  intro hv
  obtain⟨a1,a2,a3,a4,a5⟩:=xg hv
  by_cases k3:t.Kind=3
  ·by_cases hd:v.D=1
   ·simp[k3,hd]
   ·simp[k3,hd]
  by_cases k2:t.Kind=2
  ·obtain⟨q1,q2,q3,q4,q5,q6,q7⟩:=tO ht k2
   have hp:=uu (n:=t.Frac) q4
   obtain⟨b1,b2,b3,b4⟩:=Cw hv q3 q4
   simp only[k2,show decide ((2:Int)=3)=false from rfl,Bool.false_eq_true,if_false,decide_true,if_true,q3,ut q3 q4,Int.one_mul,show ¬ ((2:Int)=1)by decide,show ¬ ((2:Int)=3)by decide,decide_false]
   rw[wi (p:=pw t.Frac) ⟨by omega,by omega⟩,if_pos (by omega),wi (p:=Int.tdiv (pw t.Frac) v.D) ⟨by omega,by omega⟩,wi (p:=v.N * Int.tdiv (pw t.Frac) v.D) ⟨by omega,by omega⟩,sZ _ ht k2]
   by_cases hm:Int.tmod (pw t.Frac) v.D=0
   ·cases ho:zC t ⟨v.N * Int.tdiv (pw t.Frac) v.D,1⟩<;>simp[hm]
   ·simp[hm]
  ·have k1:t.Kind=1:=by rcases x6 ht with k | k | k;exact k;exact absurd k k2;exact absurd k k3
   simp[k1]
 ·simp[h0]
theorem ref04_Parse {t:GType} {s:List UInt8} (hl:s.length≤4294967296):oe t s=some (vparse t s):=by
 unfold oe vparse
 rw[sF]
 cases ht:pY t
 ·rfl
 rw[yl hl]
 simp only[if_true,Option.bind_some,Bool.not_true,Bool.false_eq_true,if_false]
 by_cases h0:(parseS s).2=0
 ·obtain⟨hv,_⟩:=parse_ok h0
  simp only[h0,decide_true,Bool.not_true,Bool.false_or,Bool.false_eq_true,if_false,ne_eq,not_true_eq_false]
  revert hv
  generalize (parseS s).1=v
  intro hv
  obtain⟨a1,a2,a3,a4,a5⟩:=xg hv
  by_cases k1:t.Kind=1
  ·simp[k1]
  by_cases k3:t.Kind=3
  ·by_cases hd:v.D=1
   ·simp[k3,hd]
   ·simp[k3,hd]
  have k2:t.Kind=2:=by rcases x6 ht with k | k | k;exact absurd k k1;exact k;exact absurd k k3
  obtain⟨q1,q2,q3,q4,q5,q6,q7⟩:=tO ht k2
  have hp:=uu (n:=t.Frac) q4
  obtain⟨b1,b2,b3,b4⟩:=Cw hv q3 q4
  rw[zj q3 q4]
  simp only[k1,k3,decide_false,Bool.false_eq_true,if_false,Option.bind_some]
  rw[if_pos (by omega),wi (p:=Int.tdiv (pw t.Frac) v.D) ⟨by omega,by omega⟩,wi (p:=v.N * Int.tdiv (pw t.Frac) v.D) ⟨by omega,by omega⟩,yX ht ⟨⟨by simp only;omega,by simp only;omega⟩,⟨by simp only;omega,by simp only;omega⟩⟩]
  by_cases hm:Int.tmod (pw t.Frac) v.D=0
  ·cases ho:zC t ⟨v.N * Int.tdiv (pw t.Frac) v.D,1⟩<;>simp[hm]
  ·simp[hm]
 ·have e:=Bh h0
  simp[h0,e]
end Go.Proofs.YtmhoikfoogemnaaGreatDoor.Z01
