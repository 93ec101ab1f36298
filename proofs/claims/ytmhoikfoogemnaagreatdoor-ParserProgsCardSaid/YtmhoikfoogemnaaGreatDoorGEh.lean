import Derived.Lib.ItoaNum
import Derived.Test.YtmhoikfoogemnaaGreatDoorGFv
import Derived.Test.YtmhoikfoogemnaaGreatDoorGFs
namespace Go.Proofs.YtmhoikfoogemnaaGreatDoor.Z01
open Go Go.RowKit Go.Vc
set_option linter.unusedVariables false
set_option linter.unusedSimpArgs false
theorem uT (n:Nat) (s:List UInt8) (c:UInt8):jF n (s++[c])=10 * jF n s+(c.toNat - 48):=by
 unfold jF;rw[List.foldl_append];rfl
theorem yB {u:Nat} (h:u<10):Lib.decDigits u=[UInt8.ofNat (48+u)]:=by rw[Lib.decDigits,dif_pos h]
theorem Hw {u:Nat} (h:¬ u<10):Lib.decDigits u=Lib.decDigits (u / 10)++[UInt8.ofNat (48+u % 10)]:=by rw[Lib.decDigits,dif_neg h]
theorem CE {s t:List UInt8} (h:s≠[]):(s++t).head?=s.head?:=by cases s with | nil=>exact absurd rfl h | cons c r=>rfl
theorem Bk:∀ (n:Nat) (s:List UInt8),s.length=n→oc s=true→Lib.decDigits (cb s)=s
 | 0,s,hn,h=>absurd (List.eq_nil_of_length_eq_zero hn) (oL h).2.1
 | n+1,s,hn,h=>by
  obtain⟨h1,h2,h3⟩:=oL h
  have hs:=List.dropLast_concat_getLast h2
  have hlen:s.dropLast.length=n:=by rw[List.length_dropLast];omega
  generalize s.getLast h2=c at hs
  generalize s.dropLast=t at hs hlen
  subst hs
  simp only[List.all_append,List.all_cons,List.all_nil,Bool.and_true,Bool.and_eq_true]at h1
  have hc:=h1.2
  simp only[qy,Bool.and_eq_true,decide_eq_true_eq]at hc
  have hd:cb (t++[c])=10 * cb t+(c.toNat - 48):=uT 0 t c
  have e1:UInt8.ofNat (48+(c.toNat - 48))=c:=by rw[show 48+(c.toNat - 48)=c.toNat by omega];exact UInt8.ofNat_toNat
  rw[hd]
  by_cases ht:t=[]
  ·subst ht
   rw[show 10 * cb []+(c.toNat - 48)=c.toNat - 48 by simp[cb,jF],yB (by omega),e1];rfl
  ·have h4:t.head?≠some 48:=by
    have h5:=h3.resolve_left (λe=>by
     have h6:=congrArg List.length e
     have:=DQ ht
     rw[List.length_append]at h6
     simp only[List.length_cons,List.length_nil]at h6
     omega)
    rwa [CE ht]at h5
   have hb:oc t=true:=by unfold oc;rw[h1.1];simp[ht,h4]
   have hne:t≠[48]:=λe=>by rw[e]at h4;simp at h4
   have hp:=yy hb hne
   rw[Hw (by omega),show(10 * cb t+(c.toNat - 48)) / 10=cb t by omega,show(10 * cb t+(c.toNat - 48)) % 10=c.toNat - 48 by omega,e1,Bk n t hlen hb]
theorem AZ {n:Int} (h:0≤n):Lib.itoa n=Lib.decDigits n.toNat:=by unfold Lib.itoa;rw[if_neg (by omega)]
theorem EP {n:Int} (h:n<0):Lib.itoa n=45::Lib.decDigits n.natAbs:=by unfold Lib.itoa;rw[if_pos h]
def Ht (a:GVal):List UInt8:=if qA a then(if a.D=1 then Lib.itoa a.N else Lib.itoa a.N++47::Lib.itoa a.D)else[]
theorem z7 {s:List UInt8} (h:mg s=true):Lib.itoa (if(bj s).1 then -(cb (bj s).2:Int)else cb (bj s).2)=s:=by
 unfold mg at h
 simp only[Bool.and_eq_true,Bool.not_eq_true',Bool.and_eq_false_iff,decide_eq_false_iff_not]at h
 obtain⟨h1,h2⟩:=h
 revert h1 h2
 unfold bj
 split
 ·rename_i t
  intro h1 h2
  have h8:=h2.resolve_left (by simp)
  have hp:=yy h1 h8
  show Lib.itoa (-(cb t:Int))=45::t
  replace hp:1≤cb t:=hp
  rw[EP (by omega),show(-(cb t:Int)).natAbs=cb t by omega,Bk _ t rfl h1]
 ·intro h1 h2
  simp only[Bool.false_eq_true,if_false]
  rw[AZ (by omega),show((cb s:Nat):Int).toNat=cb s by omega,Bk _ s rfl h1]
theorem uv {neg:Bool} {d b:List UInt8} {v:GVal} (h:kv neg d b=(v,0)):v=⟨if neg then -(cb d:Int)else cb d,cb b⟩∧qA v=true:=by
 unfold kv at h
 by_cases c:cb d≤2147483647∧cb b≤2147483647
 ·rw[if_pos c]at h
  by_cases hf:qA ⟨if neg=true then -(cb d:Int)else cb d,cb b⟩=true
  ·rw[if_pos hf]at h
   injection h with h _
   subst h;exact⟨rfl,hf⟩
  ·rw[if_neg hf]at h
   injection h with _ h;cases h
 ·rw[if_neg c]at h
  injection h with _ h;cases h
theorem FG {s:List UInt8} {v:GVal} (h:parseS s=(v,0)):qA v=true∧Ht v=s:=by
 unfold parseS at h
 have no5:((⟨0,0⟩,5):GVal×Int)≠(v,0):=λe=>by injection e with _ e;cases e
 split at h
 ·rename_i hs
  unfold pl at h
  split at h
  ·rename_i hw
   obtain⟨h1,h2⟩:=uv h
   refine⟨h2,?_⟩
   unfold Ht
   rw[if_pos h2,h1]
   simp only[show((cb [49]:Nat):Int)=1 from rfl,if_true]
   exact z7 hw
  ·exact absurd h no5
 ·rename_i i hs
  unfold pl at h
  split at h
  ·rename_i hw
   dsimp only at h
   split at h
   ·rename_i hb
    simp only[Bool.and_eq_true,Bool.not_eq_true',decide_eq_false_iff_not]at hb
    obtain⟨h1,h2⟩:=uv h
    refine⟨h2,?_⟩
    obtain⟨g1,g2,g3⟩:=oL hb.1.1
    have hD:Lib.decDigits (cb (s.drop (i+1)))=s.drop (i+1):=Bk _ _ rfl hb.1.1
    have hne:¬ (cb (s.drop (i+1)):Int)=1:=λe=>by
     rw[show cb (s.drop (i+1))=1 by omega,yB (by omega)]at hD
     exact hb.2 hD.symm
    unfold Ht
    rw[if_pos h2,h1]
    simp only[hne,if_false]
    rw[z7 hw,AZ (by omega),show((cb (s.drop (i+1)):Nat):Int).toNat=cb (s.drop (i+1))by omega,hD]
    have hi:=tS hs
    have hc:s[i]? =some 47:=by
     clear h h1 h2 hb g1 g2 g3 hD hne hw no5 v
     induction s generalizing i with
     | nil=>cases hs
     | cons c r ih=>
      unfold mE at hs
      split at hs
      ·rename_i hc;injection hs with hs;subst hs;simp[hc]
      ·obtain⟨j,hj,rfl⟩:=Option.map_eq_some_iff.1 hs
       simpa using ih j hj (tS hj)
    have hd2:s.drop i=47::s.drop (i+1):=by
     rw[List.drop_eq_getElem_cons hi]
     congr 1
     rw[List.getElem?_eq_getElem hi]at hc
     exact Option.some.inj hc
    rw[← hd2,List.take_append_drop]
   ·exact absurd h no5
  ·exact absurd h no5
end Go.Proofs.YtmhoikfoogemnaaGreatDoor.Z01
namespace Go.Proofs.YtmhoikfoogemnaaGreatDoor.Z01
open Go Go.RowKit Go.Vc
set_option linter.unusedVariables false
set_option linter.unusedSimpArgs false
end Go.Proofs.YtmhoikfoogemnaaGreatDoor.Z01
namespace Go.Proofs.YtmhoikfoogemnaaGreatDoor.Z01
open Go Go.RowKit Go.Vc
set_option linter.unusedVariables false
set_option linter.unusedSimpArgs false
theorem Fi {s:List UInt8} (h:(parseS s).2≠0):(parseS s).1=⟨0,0⟩:=by
 have fin:∀ neg d b,(kv neg d b).2≠0→(kv neg d b).1=⟨0,0⟩:=λneg d b h=>by
  unfold kv at h ⊢
  by_cases c:cb d≤2147483647∧cb b≤2147483647
  ·rw[if_pos c]at h ⊢
   by_cases hf:qA ⟨if neg=true then -(cb d:Int)else cb d,cb b⟩=true
   ·rw[if_pos hf]at h;exact absurd rfl h
   ·rw[if_neg hf]
  ·rw[if_neg c]
 have tb:∀ t b,(pl t b).2≠0→(pl t b).1=⟨0,0⟩:=λt b h=>by
  unfold pl at h ⊢
  by_cases c:mg t=true
  ·rw[if_pos c]at h ⊢
   cases b with
   | none=>exact fin _ _ _ h
   | some b=>
    dsimp only at h ⊢
    by_cases c2:(oc b&& !decide (b=[48])&& !decide (b=[49]))=true
    ·rw[if_pos c2]at h ⊢;exact fin _ _ _ h
    ·rw[if_neg c2]
  ·rw[if_neg c]
 unfold parseS at h ⊢
 split at h<;>exact tb _ _ h
theorem parse_ok {s:List UInt8} (h:(parseS s).2=0):qA (parseS s).1=true∧Ht (parseS s).1=s:=FG (v:=(parseS s).1) (by rw[← h])
def vparse (t:GType) (s:List UInt8):GVal×Int:=
 if tR t=true then
  if(parseS s).2≠0 then(⟨0,0⟩,(parseS s).2)
  else if t.Kind=1 then((parseS s).1,0)
  else if t.Kind=3 then(if(parseS s).1.D=1 then((parseS s).1,0)else(⟨0,0⟩,5))
  else if Int.tmod (pw t.Frac) (parseS s).1.D=0 then
   (if DH t ⟨(parseS s).1.N * Int.tdiv (pw t.Frac) (parseS s).1.D,1⟩=true then(⟨(parseS s).1.N * Int.tdiv (pw t.Frac) (parseS s).1.D,1⟩,0)else(⟨0,0⟩,3))
  else(⟨0,0⟩,5)
 else(⟨0,0⟩,10)
theorem GN {v:GVal} {f:Int} (hv:qA v=true) (h0:0≤f) (h:f≤30):0≤Int.tdiv (pw f) v.D∧Int.tdiv (pw f) v.D≤1073741824∧ -2305843009213693952≤v.N * Int.tdiv (pw f) v.D∧v.N * Int.tdiv (pw f) v.D≤2305843009213693952:=by
 obtain⟨a1,a2,a3,a4,a5⟩:=Bb hv
 have hp:=ya h
 have hq:=(H2 (n:=pw f) (d:=v.D) (by omega)).1 (by omega)
 have:=Kb (x:=v.N) (y:=Int.tdiv (pw f) v.D) (B:=2147483648) ⟨by omega,by omega⟩ ⟨by omega,by omega⟩
 have h3:=Int.mul_le_mul_of_nonneg_right a4 hq.1
 have h4:=Int.mul_le_mul_of_nonneg_right a3 hq.1
 refine⟨by omega,by omega,by omega,by omega⟩
theorem value_Parse {t:GType} {s:List UInt8} (hl:s.length≤4294967296):nB t s=some (vparse t s):=by
 unfold nB vparse
 rw[ly]
 cases ht:tR t
 ·rfl
 rw[DW hl]
 simp only[if_true,Option.bind_some,decide_true,Bool.not_true,Bool.false_eq_true,if_false]
 by_cases h0:(parseS s).2=0
 ·obtain⟨hv,_⟩:=parse_ok h0
  simp only[h0,decide_true,Bool.not_true,Bool.false_eq_true,if_false,ne_eq,not_true_eq_false]
  revert hv
  generalize (parseS s).1=v
  intro hv
  obtain⟨a1,a2,a3,a4,a5⟩:=Bb hv
  by_cases k3:t.Kind=3
  ·by_cases hd:v.D=1
   ·simp[k3,hd]
   ·simp[k3,hd]
  by_cases k2:t.Kind=2
  ·obtain⟨q1,q2,q3,q4,q5,q6,q7⟩:=xA ht k2
   have hp:=ya (n:=t.Frac) q4
   obtain⟨b1,b2,b3,b4⟩:=GN hv q3 q4
   simp only[k2,show decide ((2:Int)=3)=false from rfl,Bool.false_eq_true,if_false,decide_true,if_true,q3,x9 q3 q4,Int.one_mul,show ¬ ((2:Int)=1)by decide,show ¬ ((2:Int)=3)by decide,decide_false]
   rw[wi (p:=pw t.Frac) ⟨by omega,by omega⟩,if_pos (by omega),wi (p:=Int.tdiv (pw t.Frac) v.D) ⟨by omega,by omega⟩,wi (p:=v.N * Int.tdiv (pw t.Frac) v.D) ⟨by omega,by omega⟩,wR _ ht k2]
   by_cases hm:Int.tmod (pw t.Frac) v.D=0
   ·cases ho:DH t ⟨v.N * Int.tdiv (pw t.Frac) v.D,1⟩<;>simp[hm]
   ·simp[hm]
  ·have k1:t.Kind=1:=by rcases B6 ht with k | k | k;exact k;exact absurd k k2;exact absurd k k3
   simp[k1]
 ·simp[h0]
theorem ref04_Parse {t:GType} {s:List UInt8} (hl:s.length≤4294967296):nK t s=some (vparse t s):=by
 unfold nK vparse
 rw[wB]
 cases ht:tR t
 ·rfl
 rw[Cp hl]
 simp only[if_true,Option.bind_some,Bool.not_true,Bool.false_eq_true,if_false]
 by_cases h0:(parseS s).2=0
 ·obtain⟨hv,_⟩:=parse_ok h0
  simp only[h0,decide_true,Bool.not_true,Bool.false_or,Bool.false_eq_true,if_false,ne_eq,not_true_eq_false]
  revert hv
  generalize (parseS s).1=v
  intro hv
  obtain⟨a1,a2,a3,a4,a5⟩:=Bb hv
  by_cases k1:t.Kind=1
  ·simp[k1]
  by_cases k3:t.Kind=3
  ·by_cases hd:v.D=1
   ·simp[k3,hd]
   ·simp[k3,hd]
  have k2:t.Kind=2:=by rcases B6 ht with k | k | k;exact absurd k k1;exact k;exact absurd k k3
  obtain⟨q1,q2,q3,q4,q5,q6,q7⟩:=xA ht k2
  have hp:=ya (n:=t.Frac) q4
  obtain⟨b1,b2,b3,b4⟩:=GN hv q3 q4
  rw[Dw q3 q4]
  simp only[k1,k3,decide_false,Bool.false_eq_true,if_false,Option.bind_some]
  rw[if_pos (by omega),wi (p:=Int.tdiv (pw t.Frac) v.D) ⟨by omega,by omega⟩,wi (p:=v.N * Int.tdiv (pw t.Frac) v.D) ⟨by omega,by omega⟩,De ht ⟨⟨by simp only;omega,by simp only;omega⟩,by simp only;omega,by simp only;omega⟩]
  by_cases hm:Int.tmod (pw t.Frac) v.D=0
  ·cases ho:DH t ⟨v.N * Int.tdiv (pw t.Frac) v.D,1⟩<;>simp[hm]
  ·simp[hm]
 ·have e:=Fi h0
  simp[h0,e]
end Go.Proofs.YtmhoikfoogemnaaGreatDoor.Z01
namespace Go.Proofs.YtmhoikfoogemnaaGreatDoor
open Go Go.RowKit Go.Vc
set_option linter.unusedVariables false
set_option linter.unusedSimpArgs false
variable {L:Cx}
theorem vj {p:RS} (he:p.E≠0):ip p=some (⟨2,0,0,0,0⟩,p):=by
 unfold ip
 simp only[jh he,be he,pB he,Option.bind_some,Bool.false_eq_true,if_false]
 rw[ge he _ (by simp),Option.bind_some]
 dsimp only
 rw[be he,Option.bind_some,ge he _ (by simp),Option.bind_some]
 dsimp only
 rw[be he,Option.bind_some]
 simp[gd,he]
theorem vk {p:RS} (he:p.E≠0) (t:GType):gM p t=some (⟨0,0⟩,p):=by
 unfold gM fb
 rw[jh he,Option.bind_some,if_neg (by simp),uK he,Option.bind_some,cJ (by simp),Option.bind_some]
 dsimp only
 rw[jh he,Option.bind_some,if_neg (by simp)]
 unfold dh
 rw[if_pos (by simp[he])]
abbrev tyQ (r:PR) (x:GType) (r':PR):Prop:=tR x=true∧r.at_<r'.at_
theorem xz {r:PR} (h:Rok L r):Sim L r (tyQ r) (dN r) (ip (St L r)):=by
 unfold dN ip
 rw[yd h _ (by simp),x6 h [102,114,97,99],x6 h [105,110,116],Option.bind_some]
 simp only[lK]
 by_cases c1:jd r 1 [102,114,97,99]=true
 ·have hn:=Nx.adv h (h.is_lt c1)
  rw[if_pos c1,if_pos c1]
  show Sim L r _ (some (.ret ((⟨1,0,0,0,0⟩:GType),adv r))) (some ((⟨1,0,0,0,0⟩:GType),(⟨L.L,au (r.at_+L.o+1),r.deep+L.o,0,0⟩:RS)))
  rw[j4 h]
  exact Sim.ret hn ⟨rfl,by rw[ss];omega⟩
 rw[if_neg c1,if_neg c1,Option.bind_some]
 by_cases c2:jd r 1 [105,110,116]=true
 ·have hn:=Nx.adv h (h.is_lt c2)
  rw[if_pos c2,if_pos c2]
  show Sim L r _ (some (.ret ((⟨3,0,0,0,0⟩:GType),adv r))) (some ((⟨3,0,0,0,0⟩:GType),(⟨L.L,au (r.at_+L.o+1),r.deep+L.o,0,0⟩:RS)))
  rw[j4 h]
  exact Sim.ret hn ⟨rfl,by rw[ss];omega⟩
 rw[if_neg c2,if_neg c2]
 by_cases c3:jd r 1 [102,105,120]=true
 ·have hn:=Nx.adv h (h.is_lt c3)
  have ef:az (St L r) [102,105,120]=some (St L (adv r)):=by
   unfold az
   rw[x6 h [102,105,120],Option.bind_some,c3]
   show some (⟨L.L,au (r.at_+L.o+1),r.deep+L.o,0,0⟩:RS)=_
   rw[j4 h]
  rw[if_pos c3,ef,Option.bind_some]
  show Sim L r _ (eZ r (adv r)) _
  unfold eZ
  refine((cF hn.ok [40]).base hn (Q':=λq=>r.at_<q.at_) (λq hq e=>by rw[e,ss];omega)).bnd (λr1 hn1 q1=>?_) (λs hs=>?_)
  rotate_left
  ·simp only[be hs,pB hs,Option.bind_some,ge hs [[102,108,111,111,114],[99,101,105,108],[122,101,114,111],[101,118,101,110]] (by simp),ge hs [[115,97,116],[119,114,97,112]] (by simp)]
   simp[gd,hs];exact Fl.mk hs
  refine((zZ hn1.ok).base hn1 (Q':=λx q=>r.at_<q.at_) (λx q hq e=>by have:=hq.le;omega)).bnd (λbits r2 hn2 q2=>?_) (λy s hs=>?_)
  rotate_left
  ·dsimp only
   simp only[be hs,pB hs,Option.bind_some,ge hs [[102,108,111,111,114],[99,101,105,108],[122,101,114,111],[101,118,101,110]] (by simp),ge hs [[115,97,116],[119,114,97,112]] (by simp)]
   simp[gd,hs];exact Fl.mk hs
  refine((cF hn2.ok [44]).base hn2 (Q':=λq=>r.at_<q.at_) (λq hq e=>by have:=hq.le;omega)).bnd (λr3 hn3 q3=>?_) (λs hs=>?_)
  rotate_left
  ·simp only[be hs,pB hs,Option.bind_some,ge hs [[102,108,111,111,114],[99,101,105,108],[122,101,114,111],[101,118,101,110]] (by simp),ge hs [[115,97,116],[119,114,97,112]] (by simp)]
   simp[gd,hs];exact Fl.mk hs
  refine((zZ hn3.ok).base hn3 (Q':=λx q=>r.at_<q.at_) (λx q hq e=>by have:=hq.le;omega)).bnd (λfrac r4 hn4 q4=>?_) (λy s hs=>?_)
  rotate_left
  ·dsimp only
   simp only[be hs,Option.bind_some,ge hs [[102,108,111,111,114],[99,101,105,108],[122,101,114,111],[101,118,101,110]] (by simp),ge hs [[115,97,116],[119,114,97,112]] (by simp)]
   simp[gd,hs];exact Fl.mk hs
  refine((cF hn4.ok [44]).base hn4 (Q':=λq=>r.at_<q.at_) (λq hq e=>by have:=hq.le;omega)).bnd (λr5 hn5 q5=>?_) (λs hs=>?_)
  rotate_left
  ·simp only[be hs,Option.bind_some,ge hs [[102,108,111,111,114],[99,101,105,108],[122,101,114,111],[101,118,101,110]] (by simp),ge hs [[115,97,116],[119,114,97,112]] (by simp)]
   simp[gd,hs];exact Fl.mk hs
  refine(B0 (Q2:=tyQ r5) hn5.ok [[102,108,111,111,114],[99,101,105,108],[122,101,114,111],[101,118,101,110]] (f:=λr8 s=>eY bits frac r8 r s) (by simp) (by intro s hs;simp at hs;rcases hs with rfl | rfl | rfl | rfl<;>exact⟨by simp,rfl,by simp⟩) (λi hi hn6=>?_) (λs hs=>?_)).base hn5 (λx q hq e=>⟨e.1,by have:=e.2;omega⟩)
  rotate_left
  ·dsimp only
   simp only[be hs,Option.bind_some,ge hs [[115,97,116],[119,114,97,112]] (by simp)]
   simp[gd,hs];exact Fl.mk hs
  dsimp only
  unfold eY
  refine((cF hn6.ok [44]).base hn6 (Q':=λq=>r5.at_<q.at_) (λq hq e=>by rw[e,ss];omega)).bnd (λr7 hn7 q7=>?_) (λs hs=>?_)
  rotate_left
  ·simp only[be hs,Option.bind_some,ge hs [[115,97,116],[119,114,97,112]] (by simp)]
   simp[gd,hs];exact Fl.mk hs
  refine(B0 (Q2:=tyQ r7) hn7.ok [[115,97,116],[119,114,97,112]] (f:=λr11 s=>eX bits frac (i:Int) r11 r s) (by simp) (by intro s hs;simp at hs;rcases hs with rfl | rfl<;>exact⟨by simp,rfl,by simp⟩) (λk hk hn8=>?_) (λs hs=>?_)).base hn7 (λx q hq e=>⟨e.1,by have:=e.2;omega⟩)
  rotate_left
  ·dsimp only
   simp only[be hs,Option.bind_some]
   simp[gd,hs];exact Fl.mk hs
  dsimp only
  unfold eX
  refine((cF hn8.ok [41]).base hn8 (Q':=λq=>r7.at_<q.at_) (λq hq e=>by rw[e,ss];omega)).bnd (λr9 hn9 q9=>?_) (λs hs=>?_)
  rotate_left
  ·simp[gd,hs];exact Fl.mk hs
  have ei:au ((i:Int)+1)=((i+1:Nat):Int):=nu (by simp at hi;omega)
  have ek:au ((k:Int)+1)=((k+1:Nat):Int):=nu (by simp at hk;omega)
  dsimp only
  rw[ly,ei,ek,Option.bind_some]
  simp only[gd,vW,decide_true,if_true,Option.bind_some,Bool.true_and]
  rw[wB,Option.bind_some]
  cases ht:tR (⟨2,bits,frac,((i+1:Nat):Int),((k+1:Nat):Int)⟩:GType)with
  | true=>exact Sim.ret hn9 ⟨ht,by omega⟩
  | false=>
   refine .inr ⟨r.at_,10,rfl,h.a0,λho=>?_⟩
   rw[if_pos (by rfl)]
   show Fl r.at_ 10 ((bJ (St L r9) (r.at_+L.o) 10).bind _)
   unfold bJ
   rw[if_pos (by simp[vW])]
   exact⟨_,_,rfl,rfl,by show r.at_+(L.o:Int)=r.at_;omega,by omega⟩
 ·have ef:L.o=0→az (St L r) [102,105,120]=some ⟨L.L,r.at_+L.o,r.deep+L.o,(sw r).2,(sw r).1⟩:=λho=>by
   unfold az
   rw[x6 h [102,105,120],Option.bind_some]
   rw[Bool.not_eq_true]at c3
   rw[c3,pW h ho];rfl
  rw[if_neg c3]
  refine .inr ⟨(sw r).1,(sw r).2,?_,uo h,λho=>?_⟩
  ·show pb (aW r) _ =_
   rw[pX h];rfl
  ·rw[ef ho,Option.bind_some]
   have hs:(⟨L.L,r.at_+L.o,r.deep+L.o,(sw r).2,(sw r).1⟩:RS).E≠0:=qP r
   have he:Fl (⟨L.L,r.at_+L.o,r.deep+L.o,(sw r).2,(sw r).1⟩:RS).Pos (⟨L.L,r.at_+L.o,r.deep+L.o,(sw r).2,(sw r).1⟩:RS).E (some ((⟨2,0,0,0,0⟩:GType),(⟨L.L,r.at_+L.o,r.deep+L.o,(sw r).2,(sw r).1⟩:RS))):=Fl.mk hs
   show Fl (⟨L.L,r.at_+L.o,r.deep+L.o,(sw r).2,(sw r).1⟩:RS).Pos (⟨L.L,r.at_+L.o,r.deep+L.o,(sw r).2,(sw r).1⟩:RS).E _
   generalize (⟨L.L,r.at_+L.o,r.deep+L.o,(sw r).2,(sw r).1⟩:RS)=s at hs he
   simp only[be hs,pB hs,Option.bind_some,ge hs [[102,108,111,111,114],[99,101,105,108],[122,101,114,111],[101,118,101,110]] (by simp),ge hs [[115,97,116],[119,114,97,112]] (by simp)]
   simp[gd,hs]
   exact he
theorem Sim.weak {α:Type} {r:PR} {Q Q':α→PR→Prop} {m:Option (bL (α×PR))} {m':Option (α×RS)} (h:Sim L r Q m m') (hq:∀ x q,Q x q→Q' x q):Sim L r Q' m m':=by
 rcases h with⟨x,q,h1,h2,h3,h4⟩ | h
 ·exact .inl ⟨x,q,h1,h2,h3,hq x q h4⟩
 ·exact .inr h
abbrev cE (t:GType) (v:GVal):GExpr:=⟨1,[],v,t,⟨0,[]⟩,[],[]⟩
theorem Ai {r r0 s2:PR} {L:Cx} (hn:Nx L r0 r) (t:GType) (h2':r0.at_<r.at_) (hs2:0≤s2.at_) (s:List UInt8) (hs:s.length≤200000) (ht:tR t=true):
  Sim L r0 (λx r'=>r0.at_<r'.at_∧∃ v,x=cE t v∧tR t=true∧Z01.vparse t s=(v,0)∧s.length≤200000) (dd t s2 s r) (((dh t (St L s2) s (St L r)).bind λr9=>(az r9.2 [41]).bind λr10=>some (cE t r9.1,r10))):=by
 have er:dh t (St L s2) s (St L r)=if(!decide ((Z01.vparse t s).2=0))=true then(bJ (St L r) (St L s2).At (Z01.vparse t s).2).bind λr3=>some (⟨0,0⟩,r3)else some ((Z01.vparse t s).1,St L r):=by
  unfold dh
  rw[if_neg (by simp[vW]),Z01.ref04_Parse (by omega),Option.bind_some]
 rw[er]
 unfold dd
 rw[Z01.value_Parse (by omega),Option.bind_some]
 by_cases e:(Z01.vparse t s).2=0
 ·rw[if_neg (by simp[e]),if_neg (by simp[e])]
  unfold eg
  rw[Option.bind_some]
  dsimp only
  refine((cF hn.ok [41]).base hn (Q':=λq=>r0.at_<q.at_) (λq hq e=>by rw[e];omega)).bnd (λr1 hn1 q1=>?_) (λs hs=>?_)
  ·exact Sim.ret hn1 ⟨q1,(Z01.vparse t s).1,rfl,ht,by rw[← e],hs⟩
  ·exact Fl.mk hs
 ·rw[if_pos (by simp[e]),if_pos (by simp[e])]
  refine .inr ⟨s2.at_,(Z01.vparse t s).2,rfl,hs2,λho=>?_⟩
  have ef:bJ (St L r) (St L s2).At (Z01.vparse t s).2=some ⟨L.L,r.at_+L.o,r.deep+L.o,(Z01.vparse t s).2,s2.at_+L.o⟩:=by
   unfold bJ
   rw[if_pos (by simp[vW])];rfl
  rw[ef]
  simp only[Option.bind_some]
  rw[be (by exact e)]
  exact⟨_,_,rfl,rfl,by show s2.at_+(L.o:Int)=s2.at_;omega,e⟩
theorem yC {s:RS} {t:GType} {p1:RS} {tx:List UInt8} (hs:s.E≠0):Fl s.Pos s.E ((dh t p1 tx s).bind λr9=>(az r9.2 [41]).bind λr10=>some (cE t r9.1,r10)):=by
 unfold dh
 rw[if_pos (by simp[hs]),Option.bind_some]
 dsimp only
 rw[be hs,Option.bind_some]
 exact Fl.mk hs
theorem CS {r r0 s2:PR} {L:Cx} (hn:Nx L r0 r) (t:GType) (h2:r0.at_≤r.at_) (hs2:0≤s2.at_) (tx:List UInt8) (hs:tx.length≤1) (ht:tR t=true):
  Sim L r0 (λx r'=>r0.at_<r'.at_∧∃ v s,x=cE t v∧tR t=true∧Z01.vparse t s=(v,0)∧s.length≤200000) (ct t s2 tx r) (((fb t (St L s2) tx (St L r)).bind λr9=>(az r9.2 [41]).bind λr10=>some (cE t r9.1,r10))):=by
 unfold ct fb
 rw[Option.bind_assoc]
 refine((qF hn.ok).base hn (Q':=λx q=>x.length≤50000∧r0.at_<q.at_) (λx q hq e=>⟨e.2.1,by omega⟩)).bnd (λx r1 hn1 ⟨hx,hlt⟩=>?_) (λs hs=>?_)
 ·dsimp only
  rw[cJ (by omega),Option.bind_some,Option.bind_some]
  have h1:=hn1.ok
  rw[iR h1,gX h1 [47],Option.bind_some,Option.bind_some]
  have lx:(tx++x).length≤50001:=by rw[List.length_append];omega
  cases c:jd r1 3 [47]with
  | true=>
   have hA:=Nx.adv h1 (h1.is_lt c)
   simp only[if_true]
   show Sim L r0 _ (pb (bU (adv r1)) _) (Option.bind (Option.bind (eK (⟨L.L,au (r1.at_+L.o+1),r1.deep+L.o,0,0⟩:RS)) _) _)
   rw[j4 h1,Option.bind_assoc]
   refine((qF hA.ok).base (hn1.trans hA) (Q':=λy q=>y.length≤50000∧r0.at_<q.at_) (λy q hq e=>⟨e.2.1,by have:=e.2.2;rw[ss]at this;omega⟩)).bnd (λy r2 hn2 ⟨hy,hlt2⟩=>?_) (λs hs=>?_)
   ·dsimp only
    rw[cJ (by simp only[List.length_cons,List.length_nil];omega),Option.bind_some,Option.bind_some,cJ (by simp only[List.length_append,List.length_cons,List.length_nil]at lx ⊢;omega),Option.bind_some,Option.bind_some]
    exact(Ai hn2 t hlt2 hs2 (tx++x++([47]++y)) (by simp only[List.length_append,List.length_cons,List.length_nil]at lx ⊢;omega) ht).weak (λx q ⟨h3,v,h4⟩=>⟨h3,v,_,h4⟩)
   ·dsimp only
    rw[cJ (by simp),Option.bind_some,cJ (by simp only[List.length_append,List.length_cons,List.length_nil]at lx ⊢;omega),Option.bind_some]
    exact yC hs
  | false=>
   simp only[Bool.false_eq_true,if_false]
   exact(Ai hn1 t hlt hs2 (tx++x) (by omega) ht).weak (λx q ⟨h3,v,h4⟩=>⟨h3,v,_,h4⟩)
 ·dsimp only
  rw[cJ (by simp only[List.length_nil];omega),Option.bind_some,jh hs,Option.bind_some,if_neg (by simp)]
  exact yC hs
theorem Bm {r:PR} {L:Cx} (h:Rok L r):Sim L r (λx r'=>r.at_<r'.at_∧∃ t v s,x=cE t v∧tR t=true∧Z01.vparse t s=(v,0)∧s.length≤200000) (cu r)
  ((ip (St L r)).bind λr7=>(az r7.2 [40]).bind λr8=>(gM r8 r7.1).bind λr9=>(az r9.2 [41]).bind λr10=>some (cE r7.1 r9.1,r10)):=by
 unfold cu
 refine(xz h).bnd (λt r1 hn1 ⟨ht,hlt⟩=>?_) (λy s hs=>?_)
 ·refine((cF hn1.ok [40]).base hn1 (Q':=λq=>r.at_<q.at_) (λq hq e=>by rw[e];omega)).bnd (λr2 hn2 q2=>?_) (λs hs=>?_)
  ·dsimp only
   unfold gM
   have h2:=hn2.ok
   rw[iR h2,gX h2 [45],Option.bind_some,Option.bind_some]
   cases c:jd r2 3 [45]with
   | true=>
    have hA:=Nx.adv h2 (h2.is_lt c)
    simp only[if_true]
    show Sim L r _ (ct t r2 [45] (adv r2)) (Option.bind (fb t (St L r2) [45] (⟨L.L,au (r2.at_+L.o+1),r2.deep+L.o,0,0⟩:RS)) _)
    rw[j4 h2]
    exact(CS (hn2.trans hA) t (hn2.trans hA).le h2.a0 [45] (by simp) ht).weak (λx q ⟨h3,v,s,h4⟩=>⟨h3,t,v,s,h4⟩)
   | false=>
    simp only[Bool.false_eq_true,if_false]
    exact(CS hn2 t hn2.le h2.a0 [] (by simp) ht).weak (λx q ⟨h3,v,s,h4⟩=>⟨h3,t,v,s,h4⟩)
  ·dsimp only
   rw[vk hs,Option.bind_some]
   dsimp only
   rw[be hs,Option.bind_some]
   exact Fl.mk hs
 ·dsimp only
  rw[be hs,Option.bind_some,vk hs,Option.bind_some]
  dsimp only
  rw[be hs,Option.bind_some]
  exact Fl.mk hs
end Go.Proofs.YtmhoikfoogemnaaGreatDoor
