import Derived.Lib.ItoaNum
import Derived.Test.YtmhoikfoogemnaaGreatDoorJFv
namespace Go.Proofs.YtmhoikfoogemnaaGreatDoor.Z01
open Go Go.RowKit Go.Vc
set_option linter.unusedVariables false
set_option linter.unusedSimpArgs false
theorem rW (n:Nat) (s:List UInt8) (c:UInt8):iH n (s++[c])=10 * iH n s+(c.toNat - 48):=by
 unfold iH;rw[List.foldl_append];rfl
theorem vV {u:Nat} (h:u<10):Lib.decDigits u=[UInt8.ofNat (48+u)]:=by rw[Lib.decDigits,dif_pos h]
theorem DR {u:Nat} (h:¬ u<10):Lib.decDigits u=Lib.decDigits (u / 10)++[UInt8.ofNat (48+u % 10)]:=by rw[Lib.decDigits,dif_neg h]
theorem zC {s t:List UInt8} (h:s≠[]):(s++t).head?=s.head?:=by cases s with | nil=>exact absurd rfl h | cons c r=>rfl
theorem yj:∀ (n:Nat) (s:List UInt8),s.length=n→mE s=true→Lib.decDigits (bL s)=s
 | 0,s,hn,h=>absurd (List.eq_nil_of_length_eq_zero hn) (m3 h).2.1
 | n+1,s,hn,h=>by
  obtain⟨h1,h2,h3⟩:=m3 h
  have hs:=List.dropLast_concat_getLast h2
  have hlen:s.dropLast.length=n:=by rw[List.length_dropLast];omega
  generalize s.getLast h2=c at hs
  generalize s.dropLast=t at hs hlen
  subst hs
  simp only[List.all_append,List.all_cons,List.all_nil,Bool.and_true,Bool.and_eq_true]at h1
  have hc:=h1.2
  simp only[oJ,Bool.and_eq_true,decide_eq_true_eq]at hc
  have hd:bL (t++[c])=10 * bL t+(c.toNat - 48):=rW 0 t c
  have e1:UInt8.ofNat (48+(c.toNat - 48))=c:=by rw[show 48+(c.toNat - 48)=c.toNat by omega];exact UInt8.ofNat_toNat
  rw[hd]
  by_cases ht:t=[]
  ·subst ht
   rw[show 10 * bL []+(c.toNat - 48)=c.toNat - 48 by simp[bL,iH],vV (by omega),e1];rfl
  ·have h4:t.head?≠some 48:=by
    have h5:=h3.resolve_left (fun e=>by
     have h6:=congrArg List.length e
     have:=AH ht
     rw[List.length_append]at h6
     simp only[List.length_cons,List.length_nil]at h6
     omega)
    rwa [zC ht]at h5
   have hb:mE t=true:=by unfold mE;rw[h1.1];simp[ht,h4]
   have hne:t≠[48]:=fun e=>by rw[e]at h4;simp at h4
   have hp:=vU hb hne
   rw[DR (by omega),show(10 * bL t+(c.toNat - 48)) / 10=bL t by omega,show(10 * bL t+(c.toNat - 48)) % 10=c.toNat - 48 by omega,e1,yj n t hlen hb]
theorem x8 {n:Int} (h:0≤n):Lib.itoa n=Lib.decDigits n.toNat:=by unfold Lib.itoa;rw[if_neg (by omega)]
theorem BC {n:Int} (h:n<0):Lib.itoa n=45::Lib.decDigits n.natAbs:=by unfold Lib.itoa;rw[if_pos h]
def DO (a:GVal):List UInt8:=if oL a then(if a.D=1 then Lib.itoa a.N else Lib.itoa a.N++47::Lib.itoa a.D)else[]
theorem xt {s:List UInt8} (h:kX s=true):Lib.itoa (if(aS s).1 then -(bL (aS s).2:Int)else bL (aS s).2)=s:=by
 unfold kX at h
 simp only[Bool.and_eq_true,Bool.not_eq_true',Bool.and_eq_false_iff,decide_eq_false_iff_not]at h
 obtain⟨h1,h2⟩:=h
 revert h1 h2
 unfold aS
 split
 ·rename_i t
  intro h1 h2
  have h8:=h2.resolve_left (by simp)
  have hp:=vU h1 h8
  show Lib.itoa (-(bL t:Int))=45::t
  replace hp:1≤bL t:=hp
  rw[BC (by omega),show(-(bL t:Int)).natAbs=bL t by omega,yj _ t rfl h1]
 ·intro h1 h2
  simp only[Bool.false_eq_true,if_false]
  rw[x8 (by omega),show((bL s:Nat):Int).toNat=bL s by omega,yj _ s rfl h1]
theorem rB {neg:Bool} {d b:List UInt8} {v:GVal} (h:jn neg d b=(v,0)):v=⟨if neg then -(bL d:Int)else bL d,bL b⟩∧oL v=true:=by
 unfold jn at h
 by_cases c:bL d≤2147483647∧bL b≤2147483647
 ·rw[if_pos c]at h
  by_cases hf:oL ⟨if neg=true then -(bL d:Int)else bL d,bL b⟩=true
  ·rw[if_pos hf]at h
   injection h with h _
   subst h;exact⟨rfl,hf⟩
  ·rw[if_neg hf]at h
   injection h with _ h;cases h
 ·rw[if_neg c]at h
  injection h with _ h;cases h
theorem Cd {s:List UInt8} {v:GVal} (h:parseS s=(v,0)):oL v=true∧DO v=s:=by
 unfold parseS at h
 have no5:((⟨0,0⟩,5):GVal×Int)≠(v,0):=fun e=>by injection e with _ e;cases e
 split at h
 ·rename_i hs
  unfold nF at h
  split at h
  ·rename_i hw
   obtain⟨h1,h2⟩:=rB h
   refine⟨h2,?_⟩
   unfold DO
   rw[if_pos h2,h1]
   simp only[show((bL [49]:Nat):Int)=1 from rfl,if_true]
   exact xt hw
  ·exact absurd h no5
 ·rename_i i hs
  unfold nF at h
  split at h
  ·rename_i hw
   dsimp only at h
   split at h
   ·rename_i hb
    simp only[Bool.and_eq_true,Bool.not_eq_true',decide_eq_false_iff_not]at hb
    obtain⟨h1,h2⟩:=rB h
    refine⟨h2,?_⟩
    obtain⟨g1,g2,g3⟩:=m3 hb.1.1
    have hD:Lib.decDigits (bL (s.drop (i+1)))=s.drop (i+1):=yj _ _ rfl hb.1.1
    have hne:¬ (bL (s.drop (i+1)):Int)=1:=fun e=>by
     rw[show bL (s.drop (i+1))=1 by omega,vV (by omega)]at hD
     exact hb.2 hD.symm
    unfold DO
    rw[if_pos h2,h1]
    simp only[hne,if_false]
    rw[xt hw,x8 (by omega),show((bL (s.drop (i+1)):Nat):Int).toNat=bL (s.drop (i+1))by omega,hD]
    have hi:=qX hs
    have hc:s[i]? =some 47:=by
     clear h h1 h2 hb g1 g2 g3 hD hne hw no5 v
     induction s generalizing i with
     | nil=>cases hs
     | cons c r ih=>
      unfold lk at hs
      split at hs
      ·rename_i hc;injection hs with hs;subst hs;simp[hc]
      ·obtain⟨j,hj,rfl⟩:=Option.map_eq_some_iff.1 hs
       simpa using ih j hj (qX hj)
    have hd2:s.drop i=47::s.drop (i+1):=by
     rw[List.drop_eq_getElem_cons hi]
     congr 1
     rw[List.getElem?_eq_getElem hi]at hc
     exact Option.some.inj hc
    rw[← hd2,List.take_append_drop]
   ·exact absurd h no5
  ·exact absurd h no5
end Go.Proofs.YtmhoikfoogemnaaGreatDoor.Z01
namespace Go.Proofs.YtmhoikfoogemnaaGreatDoor.Z01
open Go Go.RowKit Go.Vc
set_option linter.unusedVariables false
set_option linter.unusedSimpArgs false
end Go.Proofs.YtmhoikfoogemnaaGreatDoor.Z01
namespace Go.Proofs.YtmhoikfoogemnaaGreatDoor.Z01
open Go Go.RowKit Go.Vc
set_option linter.unusedVariables false
set_option linter.unusedSimpArgs false
theorem BU {s:List UInt8} (h:(parseS s).2≠0):(parseS s).1=⟨0,0⟩:=by
 have fin:∀ neg d b,(jn neg d b).2≠0→(jn neg d b).1=⟨0,0⟩:=fun neg d b h=>by
  unfold jn at h ⊢
  by_cases c:bL d≤2147483647∧bL b≤2147483647
  ·rw[if_pos c]at h ⊢
   by_cases hf:oL ⟨if neg=true then -(bL d:Int)else bL d,bL b⟩=true
   ·rw[if_pos hf]at h;exact absurd rfl h
   ·rw[if_neg hf]
  ·rw[if_neg c]
 have tb:∀ t b,(nF t b).2≠0→(nF t b).1=⟨0,0⟩:=fun t b h=>by
  unfold nF at h ⊢
  by_cases c:kX t=true
  ·rw[if_pos c]at h ⊢
   cases b with
   | none=>exact fin _ _ _ h
   | some b=>
    dsimp only at h ⊢
    by_cases c2:(mE b&& !decide (b=[48])&& !decide (b=[49]))=true
    ·rw[if_pos c2]at h ⊢;exact fin _ _ _ h
    ·rw[if_neg c2]
  ·rw[if_neg c]
 unfold parseS at h ⊢
 split at h<;>exact tb _ _ h
theorem parse_ok {s:List UInt8} (h:(parseS s).2=0):oL (parseS s).1=true∧DO (parseS s).1=s:=Cd (v:=(parseS s).1) (by rw[← h])
def vparse (t:GType) (s:List UInt8):GVal×Int:=
 if qW t=true then
  if(parseS s).2≠0 then(⟨0,0⟩,(parseS s).2)
  else if t.Kind=1 then((parseS s).1,0)
  else if t.Kind=3 then(if(parseS s).1.D=1 then((parseS s).1,0)else(⟨0,0⟩,5))
  else if Int.tmod (pw t.Frac) (parseS s).1.D=0 then
   (if Az t ⟨(parseS s).1.N * Int.tdiv (pw t.Frac) (parseS s).1.D,1⟩=true then(⟨(parseS s).1.N * Int.tdiv (pw t.Frac) (parseS s).1.D,1⟩,0)else(⟨0,0⟩,3))
  else(⟨0,0⟩,5)
 else(⟨0,0⟩,10)
theorem Dk {v:GVal} {f:Int} (hv:oL v=true) (h0:0≤f) (h:f≤30):0≤Int.tdiv (pw f) v.D∧Int.tdiv (pw f) v.D≤1073741824∧ -2305843009213693952≤v.N * Int.tdiv (pw f) v.D∧v.N * Int.tdiv (pw f) v.D≤2305843009213693952:=by
 obtain⟨a1,a2,a3,a4,a5⟩:=yc hv
 have hp:=vn h
 have hq:=(Ei (n:=pw f) (d:=v.D) (by omega)).1 (by omega)
 have:=Gm (x:=v.N) (y:=Int.tdiv (pw f) v.D) (B:=2147483648) ⟨by omega,by omega⟩ ⟨by omega,by omega⟩
 have h3:=Int.mul_le_mul_of_nonneg_right a4 hq.1
 have h4:=Int.mul_le_mul_of_nonneg_right a3 hq.1
 refine⟨by omega,by omega,by omega,by omega⟩
theorem value_Parse {t:GType} {s:List UInt8} (hl:s.length≤4294967296):mb t s=some (vparse t s):=by
 unfold mb vparse
 rw[kq]
 cases ht:qW t
 ·rfl
 rw[AM hl]
 simp only[if_true,Option.bind_some,decide_true,Bool.not_true,Bool.false_eq_true,if_false]
 by_cases h0:(parseS s).2=0
 ·obtain⟨hv,_⟩:=parse_ok h0
  simp only[h0,decide_true,Bool.not_true,Bool.false_eq_true,if_false,ne_eq,not_true_eq_false]
  revert hv
  generalize (parseS s).1=v
  intro hv
  obtain⟨a1,a2,a3,a4,a5⟩:=yc hv
  by_cases k3:t.Kind=3
  ·by_cases hd:v.D=1
   ·simp[k3,hd]
   ·simp[k3,hd]
  by_cases k2:t.Kind=2
  ·obtain⟨q1,q2,q3,q4,q5,q6,q7⟩:=uH ht k2
   have hp:=vn (n:=t.Frac) q4
   obtain⟨b1,b2,b3,b4⟩:=Dk hv q3 q4
   simp only[k2,show decide ((2:Int)=3)=false from rfl,Bool.false_eq_true,if_false,decide_true,if_true,q3,vm q3 q4,Int.one_mul,show ¬ ((2:Int)=1)by decide,show ¬ ((2:Int)=3)by decide,decide_false]
   rw[wi (p:=pw t.Frac) ⟨by omega,by omega⟩,if_pos (by omega),wi (p:=Int.tdiv (pw t.Frac) v.D) ⟨by omega,by omega⟩,wi (p:=v.N * Int.tdiv (pw t.Frac) v.D) ⟨by omega,by omega⟩,ua _ ht k2]
   by_cases hm:Int.tmod (pw t.Frac) v.D=0
   ·cases ho:Az t ⟨v.N * Int.tdiv (pw t.Frac) v.D,1⟩<;>simp[hm]
   ·simp[hm]
  ·have k1:t.Kind=1:=by rcases y8 ht with k | k | k;exact k;exact absurd k k2;exact absurd k k3
   simp[k1]
 ·simp[h0]
theorem ref04_Parse {t:GType} {s:List UInt8} (hl:s.length≤4294967296):ml t s=some (vparse t s):=by
 unfold ml vparse
 rw[tM]
 cases ht:qW t
 ·rfl
 rw[zm hl]
 simp only[if_true,Option.bind_some,Bool.not_true,Bool.false_eq_true,if_false]
 by_cases h0:(parseS s).2=0
 ·obtain⟨hv,_⟩:=parse_ok h0
  simp only[h0,decide_true,Bool.not_true,Bool.false_or,Bool.false_eq_true,if_false,ne_eq,not_true_eq_false]
  revert hv
  generalize (parseS s).1=v
  intro hv
  obtain⟨a1,a2,a3,a4,a5⟩:=yc hv
  by_cases k1:t.Kind=1
  ·simp[k1]
  by_cases k3:t.Kind=3
  ·by_cases hd:v.D=1
   ·simp[k3,hd]
   ·simp[k3,hd]
  have k2:t.Kind=2:=by rcases y8 ht with k | k | k;exact absurd k k1;exact k;exact absurd k k3
  obtain⟨q1,q2,q3,q4,q5,q6,q7⟩:=uH ht k2
  have hp:=vn (n:=t.Frac) q4
  obtain⟨b1,b2,b3,b4⟩:=Dk hv q3 q4
  rw[Aq q3 q4]
  simp only[k1,k3,decide_false,Bool.false_eq_true,if_false,Option.bind_some]
  rw[if_pos (by omega),wi (p:=Int.tdiv (pw t.Frac) v.D) ⟨by omega,by omega⟩,wi (p:=v.N * Int.tdiv (pw t.Frac) v.D) ⟨by omega,by omega⟩,Ab ht ⟨⟨by simp only;omega,by simp only;omega⟩,⟨by simp only;omega,by simp only;omega⟩⟩]
  by_cases hm:Int.tmod (pw t.Frac) v.D=0
  ·cases ho:Az t ⟨v.N * Int.tdiv (pw t.Frac) v.D,1⟩<;>simp[hm]
  ·simp[hm]
 ·have e:=BU h0
  simp[h0,e]
end Go.Proofs.YtmhoikfoogemnaaGreatDoor.Z01
