import Derived.Test.YtmhoikfoogemnaaGreatDoorHRa
namespace Go.Proofs.YtmhoikfoogemnaaGreatDoor
open Go Go.RowKit Go.Vc
set_option linter.unusedVariables false
set_option linter.unusedSimpArgs false
theorem PX (r:PR) (h:0≤r.at_):Dy r 1=Dy (mI r) 0:=by
 unfold Dy mI
 dsimp only
 rw[show(r.at_+1).toNat+0=r.at_.toNat+1 by omega]
theorem OX {r:PR} {rest:Tx} (h:Ry r) (hn:∀ t s,fH r=t::s→td t→s.head?≠some [91]):FP r=false:=by
 unfold FP
 cases hN:Ir r with
 | false=>rfl
 | true=>
  cases e:fH r with
  | nil=>unfold Ir at hN;rw[vV h e]at hN;cases hN
  | cons t s=>
   obtain⟨q,h1,h2,h3,_,hw⟩:=aU h e
   have hb:bw t=true:=by
    unfold Ir at hN;rw[h1]at hN;simp only[Bool.and_eq_true]at hN;rw[← h2];exact hN.2
   have:=hn t s e (fw hb)
   rw[Bool.true_and,PX r h.a0]
   exact pi hw.ok (λt' q' e'=>by rw[hw.rs]at e';rw[e']at this;simpa using this) 3
theorem OW {r:PR} {s:List UInt8} {rest:Tx} (h:Ry r) (e:fH r=s::[91]::rest) (hs:bw s=true):FP r=true:=by
 obtain⟨_,_,_,_,_,hw⟩:=aU h e
 unfold FP
 rw[JW h e hs,Bool.true_and,PX r h.a0]
 exact sX hw.ok hw.rs (by decide)
structure Jy (x:aM):Prop where
 ok:FC x
 f:MD x.Lin
 a:∀ f∈x.At,MD f
 len:x.At.length≤100000
theorem Hg {r:PR} {x:aM} {rest:Tx} (h:Ry r) (e:fH r=dg (Dz x)++rest) (hx:Jy x) (hs:stopF rest):∃ r',dL r=some (.ret (x,r'))∧Nw r r' rest:=by
 have h3:=hx.ok.2.2
 unfold dL
 rw[NK h.rok]
 by_cases hf:x.From=[]
 ·rw[if_pos hf]at h3
  have e':fH r=dg (jY x.Lin)++rest:=by rw[e];unfold Dz;rw[if_pos hf]
  have hg:FP r=false:=OX (rest:=rest) h λt s ee ht=>by
   rw[e']at ee
   unfold jY at ee
   cases hT:iu x.Lin with
   | nil=>exact absurd hT (DL _)
   | cons y ts=>
    rw[hT]at ee
    exact IY (by rw[← hT];exact tu hx.f.ok) hs ht ee
  obtain⟨r',e1,hw⟩:=zh h e' hx.f hs.g
  rw[hg,if_neg (by simp),e1,aW]
  refine⟨r',?_,hw⟩
  dsimp only
  have:x=⟨x.Lin,[],[]⟩:=by cases x;simp only at hf h3;subst hf;subst h3;rfl
  rw[this]
 ·rw[if_neg hf]at h3
  rw[GB hx.ok hf]at e
  have e':fH r=x.From::[91]::(dg (cp (x.At.map jY))++[93]::rest):=by rw[e];simp
  obtain⟨_,_,_,_,_,hw⟩:=aU h e'
  obtain⟨_,_,_,_,_,hw2⟩:=aU hw.ok hw.rs
  obtain⟨r',e1,hw3⟩:=Hl hw2.ok hw2.rs hx.a hx.len
  rw[OW h e' h3.1,if_pos rfl,rZ h e' h3.1,aW]
  dsimp only
  rw[kI hw.ok hw.rs (by decide),aW]
  dsimp only
  rw[e1,aW]
  refine⟨r',?_,(hw.trans hw2).trans hw3⟩
  dsimp only
  have:x=⟨⟨0,[]⟩,x.From,x.At⟩:=by
   cases x with
   | mk l f a=>
    simp only at h3
    cases l;simp only at h3
    obtain⟨_,rfl,rfl⟩:=h3;rfl
  rw[this]
theorem MS {r:PR} {t:List UInt8} {rest:Tx} (h:Ry r) (e:fH r=t::rest) (l:List (List UInt8)):m7 (za r 1) l=m7 (λs=>decide (im t=1)&&decide (t=s)) l:=ze λs _=>rz h e 1 s
theorem qY {r:PR} {t:List UInt8} {rest:Tx} (h:Ry r) (e:fH r=t::rest) (l:List (List UInt8)) (hl:l.length<1000) {i:Nat} (hi:m7 (λs=>decide (im t=1)&&decide (t=s)) l=some i):bh r l=some ((i:Int),mI r):=by
 rw[Jt h.rok l hl,MS h e,hi]
theorem IF {r:PR} {t:List UInt8} {rest:Tx} (h:Ry r) (e:fH r=t::rest) (l:List (List UInt8)) (hl:l.length<1000) (hi:m7 (λs=>decide (im t=1)&&decide (t=s)) l=none):bh r l=some (-1,r):=by
 rw[Jt h.rok l hl,MS h e,hi]
theorem GI {r:PR} {u:Nat} {rest:Tx} (h:Ry r) (e:fH r=Lib.decDigits u::rest) (hu:u≤2147483647):eQ r=some (.ret ((u:Int),mI r)):=by
 have hl:=xJ (u:=u) (by omega)
 have hs:=Je (c:=(u:Int)) ⟨by omega,by omega⟩
 rw[Int.natAbs_natCast,decide_eq_false (by omega)]at hs
 unfold eQ
 rw[G0 h e,aW]
 dsimp only
 rw[uM _ _ (by omega) (jJ u).1,hs,Option.bind_some,if_neg (by simp;omega)]
theorem Gz {r:PR} {t:bu} {rest:Tx} (h:Ry r) (e:fH r=dg (wK t)++rest) (ht:pF t=true):∃ r',dw r=some (.ret (t,r'))∧Nw r r' rest:=by
 rw[BP ht]at e
 unfold dw
 by_cases k1:t.Kind=1
 ·rw[if_pos k1]at e
  have e':fH r=[102,114,97,99]::rest:=e
  obtain⟨_,_,_,_,_,hw⟩:=aU h e'
  rw[qY h e' _ (by simp) (i:=0) (by decide),Option.bind_some]
  have:t=⟨1,0,0,0,0⟩:=by
   unfold pF at ht;rw[if_pos (.inl k1)]at ht
   simp only[decide_eq_true_eq]at ht
   cases t;simp only at *;obtain⟨a,b,c,d⟩:=ht;subst k1;subst a;subst b;subst c;subst d;rfl
  rw[this]
  exact⟨_,rfl,hw⟩
 rw[if_neg k1]at e
 by_cases k3:t.Kind=3
 ·rw[if_pos k3]at e
  have e':fH r=[105,110,116]::rest:=e
  obtain⟨_,_,_,_,_,hw⟩:=aU h e'
  rw[qY h e' _ (by simp) (i:=1) (by decide),Option.bind_some]
  have:t=⟨3,0,0,0,0⟩:=by
   unfold pF at ht;rw[if_pos (.inr k3)]at ht
   simp only[decide_eq_true_eq]at ht
   cases t;simp only at *;obtain⟨a,b,c,d⟩:=ht;subst k3;subst a;subst b;subst c;subst d;rfl
  rw[this]
  exact⟨_,rfl,hw⟩
 rw[if_neg k3]at e
 have hb:t.Kind=2∧2≤t.Bits∧t.Bits≤31∧0≤t.Frac∧t.Frac≤30∧1≤t.Round∧t.Round≤4∧(t.Over=1∨t.Over=2):=by
  unfold pF at ht;rw[if_neg (by simp[k1,k3])]at ht
  simpa using ht
 obtain⟨b1,b2,b3,b4,b5,b6,b7,b8⟩:=hb
 have e0:fH r=[102,105,120]::[40]::Lib.decDigits t.Bits.natAbs::[44]::Lib.decDigits t.Frac.natAbs::[44]::qh t.Round::[44]::rt t.Over::[41]::rest:=e
 obtain⟨_,_,_,_,_,h1⟩:=aU h e0
 obtain⟨_,_,_,_,_,h2⟩:=aU h1.ok h1.rs
 obtain⟨_,_,_,_,_,h3⟩:=aU h2.ok h2.rs
 obtain⟨_,_,_,_,_,h4⟩:=aU h3.ok h3.rs
 obtain⟨_,_,_,_,_,h5⟩:=aU h4.ok h4.rs
 obtain⟨_,_,_,_,_,h6⟩:=aU h5.ok h5.rs
 obtain⟨_,_,_,_,_,h7⟩:=aU h6.ok h6.rs
 obtain⟨_,_,_,_,_,h8⟩:=aU h7.ok h7.rs
 obtain⟨_,_,_,_,_,h9⟩:=aU h8.ok h8.rs
 obtain⟨_,_,_,_,_,h10⟩:=aU h9.ok h9.rs
 rw[qY h e0 _ (by simp) (i:=2) (by decide),Option.bind_some]
 dsimp only
 rw[if_neg (by decide),if_neg (by decide),if_neg (by decide)]
 unfold fL
 rw[kI h1.ok h1.rs (by decide),aW]
 dsimp only
 rw[GI h2.ok h2.rs (by omega),aW]
 dsimp only
 rw[kI h3.ok h3.rs (by decide),aW]
 dsimp only
 rw[GI h4.ok h4.rs (by omega),aW]
 dsimp only
 rw[kI h5.ok h5.rs (by decide),aW]
 dsimp only
 have hm:∃ i:Nat,m7 (λs=>decide (im (qh t.Round)=1)&&decide (qh t.Round=s)) [[102,108,111,111,114],[99,101,105,108],[122,101,114,111],[101,118,101,110]]=some i∧av ((i:Int)+1)=t.Round:=by
  have:t.Round=1∨t.Round=2∨t.Round=3∨t.Round=4:=by omega
  rcases this with k | k | k | k<;>rw[k]
  ·exact⟨0,by decide,rfl⟩
  ·exact⟨1,by decide,rfl⟩
  ·exact⟨2,by decide,rfl⟩
  ·exact⟨3,by decide,rfl⟩
 obtain⟨i,hi,hi2⟩:=hm
 rw[qY h6.ok h6.rs _ (by simp) hi,Option.bind_some]
 dsimp only
 rw[hi2,if_neg (by simp;omega)]
 unfold fK
 rw[kI h7.ok h7.rs (by decide),aW]
 dsimp only
 have ho:∃ i:Nat,m7 (λs=>decide (im (rt t.Over)=1)&&decide (rt t.Over=s)) [[115,97,116],[119,114,97,112]]=some i∧av ((i:Int)+1)=t.Over:=by
  rcases b8 with k | k<;>rw[k]
  ·exact⟨0,by decide,rfl⟩
  ·exact⟨1,by decide,rfl⟩
 obtain⟨j,hj,hj2⟩:=ho
 rw[qY h8.ok h8.rs _ (by simp) hj,Option.bind_some]
 dsimp only
 rw[hj2,if_neg (by simp;omega)]
 unfold fJ
 rw[kI h9.ok h9.rs (by decide),aW]
 dsimp only
 have et:(⟨2,(t.Bits.natAbs:Int),(t.Frac.natAbs:Int),t.Round,t.Over⟩:bu)=t:=by
  cases t;simp only at *;subst b1;congr 1<;>omega
 rw[hi2,hj2,et,kL,ht,Option.bind_some]
 refine⟨_,rfl,((((((((h1.trans h2).trans h3).trans h4).trans h5).trans h6).trans h7).trans h8).trans h9).trans h10⟩
theorem Ll {t:bu} {v:co} (ht:pF t=true) (ho:wJ t v=true):∃ x,jT t v=some x∧mA x=true∧(t.Kind=2→x.N * pw t.Frac=v.N * x.D)∧(t.Kind≠2→x=v):=by
 unfold jT
 by_cases k2:t.Kind=2
 rotate_left
 ·exact⟨v,by simp[k2],LU ht ho,λh=>absurd h k2,λ_=>rfl⟩
 obtain⟨q1,q2,q3,q4,q5,q6,q7⟩:=qN ht k2
 obtain⟨v1,v2,v3⟩:=Cd ht k2 ho
 have hp:=vY (n:=t.Frac) q4
 rw[if_pos (by simpa using k2),Ft q3 q4,Option.bind_some]
 unfold qS pK
 rw[if_neg (by simp;omega),wO ⟨by omega,by omega⟩,wO ⟨by omega,by omega⟩,Option.bind_some,Option.bind_some,if_neg (show ¬ pw t.Frac<0 by omega),HM (by split<;>omega) (by omega) (by omega),Option.bind_some]
 generalize hm:(if v.N<0 then -v.N else v.N)=m
 have hm0:0≤m∧m≤1073741824:=by rw[← hm];split<;>omega
 generalize pw t.Frac=P at hp ⊢
 generalize hg:Int.gcd m P=g
 have hg0:g≠0:=λh=>by
  rw[h]at hg
  have:=(Int.gcd_eq_zero_iff.1 hg).2
  omega
 have hgi:(g:Int)≠0:=by omega
 rw[if_pos hgi]
 have d1:(g:Int)∣m:=by rw[← hg];exact Int.gcd_dvd_left ..
 have d2:(g:Int)∣P:=by rw[← hg];exact Int.gcd_dvd_right ..
 obtain⟨x,hx⟩:=d1
 obtain⟨y,hy⟩:=d2
 have ex:Int.tdiv m g=x:=by rw[hx];exact Int.mul_tdiv_cancel_left _ hgi
 have ey:Int.tdiv P g=y:=by rw[hy];exact Int.mul_tdiv_cancel_left _ hgi
 have hx0:0≤x∧x≤1073741824:=by
  have h1:0≤x:=by
   rcases Int.lt_or_le x 0 with h | h
   ·have:=Int.mul_neg_of_pos_of_neg (show(0:Int)<g by omega) h;omega
   ·exact h
  have:=Int.mul_le_mul_of_nonneg_right (show(1:Int)≤g by omega) h1
  omega
 have hy0:1≤y∧y≤1073741824:=by
  have h1:0<y:=by
   rcases Int.lt_or_le 0 y with h | h
   ·exact h
   ·have:=Int.mul_nonpos_of_nonneg_of_nonpos (show(0:Int)≤g by omega) h;omega
  have:=Int.mul_le_mul_of_nonneg_right (show(1:Int)≤g by omega) (show 0≤y by omega)
  omega
 have hco:Int.gcd x y=1:=by
  have h1:Int.gcd (g * x) (g * y)=g:=by rw[← hx, ← hy];exact hg
  rw[Int.gcd_mul_left]at h1
  have h2:(g:Int).natAbs=g:=by simp
  rw[h2]at h1
  exact Nat.eq_of_mul_eq_mul_left (Nat.pos_of_ne_zero hg0) (by rw[h1,Nat.mul_one])
 rw[ex,ey,wu (p:=x) ⟨by omega,by omega⟩,wu (p:=y) ⟨by omega,by omega⟩,wi (p:=x) ⟨by omega,by omega⟩,wi (p:=y) ⟨by omega,by omega⟩,wi (p:= -x) ⟨by omega,by omega⟩]
 rw[if_neg (by simp;omega)]
 have hpd:decide (P<0)=false:=by simp;omega
 rw[hpd]
 by_cases hn:v.N<0
 ·have hmv:v.N= -m:=by rw[← hm,if_pos hn];omega
  refine⟨⟨-x,y⟩,by simp[hn],?_,λ_=>?_,λh=>absurd k2 h⟩
  ·unfold mA
   rw[Int.neg_gcd]
   simp[hco];omega
  ·show -x * P=v.N * y
   rw[hmv,hx,hy];grind
 ·have hmv:v.N=m:=by rw[← hm,if_neg hn]
  refine⟨⟨x,y⟩,by simp[hn],?_,λ_=>?_,λh=>absurd k2 h⟩
  ·unfold mA
   simp[hco];omega
  ·show x * P=v.N * y
   rw[hmv,hx,hy];grind
def Hi (t:bu) (v:co):co:=(jT t v).getD default
theorem FT {t:bu} {v:co} (ht:pF t=true) (ho:wJ t v=true):jT t v=some (Hi t v)∧mA (Hi t v)=true∧(t.Kind=2→(Hi t v).N * pw t.Frac=v.N * (Hi t v).D)∧(t.Kind≠2→Hi t v=v):=by
 obtain⟨x,h1,h2,h3,h4⟩:=Ll ht ho
 have e:Hi t v=x:=by unfold Hi;rw[h1];rfl
 rw[e];exact⟨h1,h2,h3,h4⟩
theorem Fd {t:bu} {v x:co} (ht:pF t=true) (ho:wJ t v=true) (hx:mA x=true) (h2:t.Kind=2→x.N * pw t.Frac=v.N * x.D) (h3:t.Kind≠2→x=v):Z01.vparse t (qH x)=(v,0):=by
 obtain⟨x1,x2,x3,x4,x5⟩:=oX hx
 have hp:Z01.parseS (qH x)=(x,0):=Z01.parse_fmt hx
 unfold Z01.vparse
 rw[if_pos ht,hp]
 simp only[ne_eq,not_true_eq_false,if_false]
 by_cases k1:t.Kind=1
 ·rw[if_pos k1,h3 (by omega)]
 rw[if_neg k1]
 by_cases k3:t.Kind=3
 ·have:=h3 (by omega)
  subst this
  rw[if_pos k3,if_pos (GX k3 ho).1]
 rw[if_neg k3]
 have k2:t.Kind=2:=by rcases tt ht with k | k | k;exact absurd k k1;exact k;exact absurd k k3
 have e:=h2 k2
 obtain⟨q1,q2,q3,q4,q5,q6,q7⟩:=qN ht k2
 have hp:=vY (n:=t.Frac) q4
 have hdv:x.D∣pw t.Frac:=by
  refine LY (n:=x.N) ⟨v.N,by rw[e,Int.mul_comm]⟩ (by rw[Int.gcd_comm];exact x5)
 have hm:Int.tmod (pw t.Frac) x.D=0:=Int.tmod_eq_zero_of_dvd hdv
 have hq:=Int.mul_tdiv_add_tmod (pw t.Frac) x.D
 rw[hm]at hq
 have hN:x.N * Int.tdiv (pw t.Frac) x.D=v.N:=by
  generalize Int.tdiv (pw t.Frac) x.D=k at hq
  generalize pw t.Frac=p at e hq
  have:x.D * (x.N * k)=x.D * v.N:=by grind
  exact Int.eq_of_mul_eq_mul_left (by omega) this
 obtain⟨v1,_⟩:=Cd ht k2 ho
 have hv1:(⟨v.N,1⟩:co)=v:=by rw[← v1]
 rw[if_pos hm,hN,hv1,if_pos ho]
theorem Hn {x:co} (hx:mA x=true):(qH x).length≤30:=by
 obtain⟨a1,a2,a3,a4,a5⟩:=oX hx
 have l1:=lj (n:=x.N) ⟨by omega,by omega⟩
 have l2:=lj (n:=x.D) ⟨by omega,by omega⟩
 unfold qH
 rw[if_pos hx]
 split
 ·omega
 ·simp only[List.length_append,List.length_cons];omega
theorem L3 {r:PR} {t:bu} {v:co} {rest:Tx} (h:Ry r) (ht:pF t=true) (ho:wJ t v=true) (e:fH r=dg (wK t)++([40]::(dg (zi (Hi t v))++([41]::rest)))):∃ r',bX r=some (.ret (cE t v,r'))∧Nw r r' rest:=by
 obtain⟨f1,f2,f3,f4⟩:=FT ht ho
 have hp:=Fd ht ho f2 f3 f4
 have hfl:=Hn f2
 obtain⟨a1,a2,a3,a4,a5⟩:=oX f2
 generalize Hi t v=x at *
 obtain⟨r1,e1,h1⟩:=Gz h e ht
 obtain⟨_,_,_,_,_,h2⟩:=aU h1.ok h1.rs
 have ht1:dg (zi x)=zi x:=by
  have nb:∀ n,dg (ot n)=ot n:=IQ
  unfold zi
  split
  ·exact nb _
  ·show List.filter iG _ =_
   rw[List.filter_append,List.filter_append]
   have:=nb x.N;have:=nb x.D
   show dg (ot x.N)++(dg [[47]]++dg (ot x.D))=_
   rw[nb,nb];rfl
 have hr2:=h2.rs
 rw[ht1]at hr2
 unfold bX
 rw[e1,aW]
 dsimp only
 rw[kI h1.ok h1.rs (by decide),aW]
 dsimp only
 have fin:∀ (q:PR) (tx:List UInt8),tx=qH x→Nw r q ([41]::rest)→∃ r',cC t (mI r1) tx q=some (.ret (cE t v,r'))∧Nw r r' rest:=λq tx htx hq=>by
  subst htx
  obtain⟨_,_,_,_,_,hw⟩:=aU hq.ok hq.rs
  unfold cC
  rw[Z01.value_Parse (by omega),hp,Option.bind_some,if_neg (by simp)]
  unfold dT
  rw[kI hq.ok hq.rs (by decide),aW]
  exact⟨_,rfl,hq.trans hw⟩
 have mid:∀ (q:PR) (pre:List UInt8),pre++Lib.decDigits x.N.natAbs=Lib.itoa x.N→pre.length≤1→Nw r q (Lib.decDigits x.N.natAbs::((if x.D=1 then[]else[47]::[Lib.decDigits x.D.natAbs])++[41]::rest))→∃ r',cD t (mI r1) pre q=some (.ret (cE t v,r'))∧Nw r r' rest:=λq pre hpre hpl hq=>by
  obtain⟨_,_,_,_,_,hw⟩:=aU hq.ok hq.rs
  have hl:=xJ (u:=x.N.natAbs) (by omega)
  have hl2:=xJ (u:=x.D.natAbs) (by omega)
  unfold cD
  rw[G0 hq.ok hq.rs,aW]
  dsimp only
  rw[aR (by omega),Option.bind_some,hpre]
  by_cases hd:x.D=1
  ·have hr3:fH (mI q)=[41]::rest:=by rw[hw.rs,if_pos hd];rfl
   rw[pG hw.ok (gX hr3 (by decide)),Option.bind_some]
   dsimp only
   rw[if_neg (by simp)]
   exact fin (mI q) _ (by unfold qH;rw[if_pos f2,if_pos hd]) ⟨hw.ok,(hq.trans hw).l,(hq.trans hw).d,hr3⟩
  ·have hr3:fH (mI q)=[47]::Lib.decDigits x.D.natAbs::[41]::rest:=by rw[hw.rs,if_neg hd];rfl
   obtain⟨_,_,_,_,_,hw2⟩:=aU hw.ok hr3
   obtain⟨_,_,_,_,_,hw3⟩:=aU hw2.ok hw2.rs
   have hiD:Lib.itoa x.D=Lib.decDigits x.D.natAbs:=by rw[mz (by omega),show x.D.toNat=x.D.natAbs by omega]
   have hiN:=lj (n:=x.N) ⟨by omega,by omega⟩
   rw[qE hw.ok hr3 (by decide),Option.bind_some]
   dsimp only
   rw[if_pos rfl,G0 hw2.ok hw2.rs,aW]
   dsimp only
   rw[aR (by simp only[List.length_cons,List.length_nil];omega),Option.bind_some,aR (by simp only[List.length_append,List.length_cons,List.length_nil];omega),Option.bind_some]
   exact fin (mI (mI (mI q))) _ (by unfold qH;rw[if_pos f2,if_neg hd,hiD];rfl) (((hq.trans hw).trans hw2).trans hw3)
 have hiD:ot x.D=[Lib.decDigits x.D.natAbs]:=Cr (by omega)
 by_cases hn:x.N<0
 ·have hr3:fH (mI r1)=[45]::Lib.decDigits x.N.natAbs::((if x.D=1 then[]else[47]::[Lib.decDigits x.D.natAbs])++[41]::rest):=by
   rw[hr2];unfold zi ot
   rw[if_pos hn]
   split
   ·rfl
   ·rw[if_neg (by omega)];rfl
  obtain⟨_,_,_,_,_,hw⟩:=aU h2.ok hr3
  rw[qE h2.ok hr3 (by decide),Option.bind_some]
  dsimp only
  rw[if_pos rfl]
  exact mid (mI (mI r1)) [45] (by rw[oV hn];rfl) (by simp) ((h1.trans h2).trans hw)
 ·have hr3:fH (mI r1)=Lib.decDigits x.N.natAbs::((if x.D=1 then[]else[47]::[Lib.decDigits x.D.natAbs])++[41]::rest):=by
   rw[hr2];unfold zi ot
   rw[if_neg hn]
   split
   ·rfl
   ·rw[if_neg (by omega)];rfl
  rw[pG h2.ok (gX hr3 (L1 _ (by decide))),Option.bind_some]
  dsimp only
  rw[if_neg (by simp)]
  exact mid (mI r1) [] (by rw[mz (by omega),show x.N.toNat=x.N.natAbs by omega];rfl) (by simp) ⟨h2.ok,(h1.trans h2).l,(h1.trans h2).d,hr3⟩
end Go.Proofs.YtmhoikfoogemnaaGreatDoor
