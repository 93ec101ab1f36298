import Derived.Test.YtmhoikfoogemnaaGreatDoorMRa
namespace Go.Proofs.YtmhoikfoogemnaaGreatDoor
open Go Go.RowKit Go.Vc
set_option linter.unusedVariables false
set_option linter.unusedSimpArgs false
theorem Kd (r:PR) (h:0≤r.at_):A8 r 1=A8 (oh r) 0:=by
 unfold A8 oh
 dsimp only
 rw[show(r.at_+1).toNat+0=r.at_.toNat+1 by omega]
theorem Jr {r:PR} {rest:Tx} (h:Ry r) (hn:∀ t s,iT r=t::s→uu t→s.head?≠some [91]):BL r=false:=by
 unfold BL
 cases hN:D9 r with
 | false=>rfl
 | true=>
  cases e:iT r with
  | nil=>unfold D9 at hN;rw[Aa h e]at hN;cases hN
  | cons t s=>
   obtain⟨q,h1,h2,h3,_,hw⟩:=bO h e
   have hb:cp t=true:=by
    unfold D9 at hN;rw[h1]at hN;simp only[Bool.and_eq_true]at hN;rw[← h2];exact hN.2
   have:=hn t s e (gA hb)
   rw[Bool.true_and,Kd r h.a0]
   exact nS hw.ok (fun t' q' e'=>by rw[hw.rs]at e';rw[e']at this;simpa using this) 3
theorem Jq {r:PR} {s:List UInt8} {rest:Tx} (h:Ry r) (e:iT r=s::[91]::rest) (hs:cp s=true):BL r=true:=by
 obtain⟨_,_,_,_,_,hw⟩:=bO h e
 unfold BL
 rw[Fw h e hs,Bool.true_and,Kd r h.a0]
 exact sC hw.ok hw.rs (by decide)
structure Fa (x:av):Prop where
 ok:Bx x
 f:Jd x.Lin
 a:∀ f∈x.At,Jd f
 len:x.At.length≤100000
theorem C8 {r:PR} {x:av} {rest:Tx} (h:Ry r) (e:iT r=gI (zF x)++rest) (hx:Fa x) (hs:stopF rest):∃ r',de r=some (.ret (x,r'))∧Nw r r' rest:=by
 have h3:=hx.ok.2.2
 unfold de
 rw[Iu h.rok]
 by_cases hf:x.From=[]
 ·rw[if_pos hf]at h3
  have e':iT r=gI (oM x.Lin)++rest:=by rw[e];unfold zF;rw[if_pos hf]
  have hg:BL r=false:=Jr (rest:=rest) h fun t s ee ht=>by
   rw[e']at ee
   unfold oM at ee
   cases hT:iS x.Lin with
   | nil=>exact absurd hT (zS _)
   | cons y ts=>
    rw[hT]at ee
    exact EC (by rw[← hT];exact rZ hx.f.ok) hs ht ee
  obtain⟨r',e1,hw⟩:=yP h e' hx.f hs.g
  rw[hg,if_neg (by simp),e1,bR]
  refine⟨r',?_,hw⟩
  dsimp only
  have:x=⟨x.Lin,[],[]⟩:=by cases x;simp only at hf h3;subst hf;subst h3;rfl
  rw[this]
 ·rw[if_neg hf]at h3
  rw[Cw hx.ok hf]at e
  have e':iT r=x.From::[91]::(gI (fO (x.At.map oM))++[93]::rest):=by rw[e];simp
  obtain⟨_,_,_,_,_,hw⟩:=bO h e'
  obtain⟨_,_,_,_,_,hw2⟩:=bO hw.ok hw.rs
  obtain⟨r',e1,hw3⟩:=G6 hw2.ok hw2.rs hx.a hx.len
  rw[Jq h e' h3.1,if_pos rfl,yF h e' h3.1,bR]
  dsimp only
  rw[nV hw.ok hw.rs (by decide),bR]
  dsimp only
  rw[e1,bR]
  refine⟨r',?_,(hw.trans hw2).trans hw3⟩
  dsimp only
  have:x=⟨⟨0,[]⟩,x.From,x.At⟩:=by
   cases x with
   | mk l f a=>
    simp only at h3
    cases l;simp only at h3
    obtain⟨_,rfl,rfl⟩:=h3;rfl
  rw[this]
theorem HU {r:PR} {t:List UInt8} {rest:Tx} (h:Ry r) (e:iT r=t::rest) (l:List (List UInt8)):mu (wP r 1) l=mu (fun s=>decide (iu t=1)&&decide (t=s)) l:=vN fun s _=>sD h e 1 s
theorem ry {r:PR} {t:List UInt8} {rest:Tx} (h:Ry r) (e:iT r=t::rest) (l:List (List UInt8)) (hl:l.length<1000) {i:Nat} (hi:mu (fun s=>decide (iu t=1)&&decide (t=s)) l=some i):bD r l=some ((i:Int),oh r):=by
 rw[E6 h.rok l hl,HU h e,hi]
theorem H8 {r:PR} {t:List UInt8} {rest:Tx} (h:Ry r) (e:iT r=t::rest) (l:List (List UInt8)) (hl:l.length<1000) (hi:mu (fun s=>decide (iu t=1)&&decide (t=s)) l=none):bD r l=some (-1,r):=by
 rw[E6 h.rok l hl,HU h e,hi]
theorem CE {r:PR} {u:Nat} {rest:Tx} (h:Ry r) (e:iT r=Lib.decDigits u::rest) (hu:u≤2147483647):d6 r=some (.ret ((u:Int),oh r)):=by
 have hl:=uj (u:=u) (by omega)
 have hs:=ES (c:=(u:Int)) ⟨by omega,by omega⟩
 rw[Int.natAbs_natCast,decide_eq_false (by omega)]at hs
 unfold d6
 rw[CQ h e,bR]
 dsimp only
 rw[rk _ _ (by omega) (ja u).1,hs,Option.bind_some,if_neg (by simp;omega)]
theorem Hx {r:PR} {t:aM} {rest:Tx} (h:Ry r) (e:iT r=gI (zD t)++rest) (ht:ol t=true):∃ r',eI r=some (.ret (t,r'))∧Nw r r' rest:=by
 rw[Bf ht]at e
 unfold eI
 by_cases k1:t.Kind=1
 ·rw[if_pos k1]at e
  have e':iT r=[102,114,97,99]::rest:=e
  obtain⟨_,_,_,_,_,hw⟩:=bO h e'
  rw[ry h e' _ (by simp) (i:=0) (by decide),Option.bind_some]
  have:t=⟨1,0,0,0,0⟩:=by
   unfold ol at ht;rw[if_pos (.inl k1)]at ht
   simp only[decide_eq_true_eq]at ht
   cases t;simp only at *;obtain⟨a,b,c,d⟩:=ht;subst k1;subst a;subst b;subst c;subst d;rfl
  rw[this]
  exact⟨_,rfl,hw⟩
 rw[if_neg k1]at e
 by_cases k3:t.Kind=3
 ·rw[if_pos k3]at e
  have e':iT r=[105,110,116]::rest:=e
  obtain⟨_,_,_,_,_,hw⟩:=bO h e'
  rw[ry h e' _ (by simp) (i:=1) (by decide),Option.bind_some]
  have:t=⟨3,0,0,0,0⟩:=by
   unfold ol at ht;rw[if_pos (.inr k3)]at ht
   simp only[decide_eq_true_eq]at ht
   cases t;simp only at *;obtain⟨a,b,c,d⟩:=ht;subst k3;subst a;subst b;subst c;subst d;rfl
  rw[this]
  exact⟨_,rfl,hw⟩
 rw[if_neg k3]at e
 have hb:t.Kind=2∧2≤t.Bits∧t.Bits≤31∧0≤t.Frac∧t.Frac≤30∧1≤t.Round∧t.Round≤4∧(t.Over=1∨t.Over=2):=by
  unfold ol at ht;rw[if_neg (by simp[k1,k3])]at ht
  simpa using ht
 obtain⟨b1,b2,b3,b4,b5,b6,b7,b8⟩:=hb
 have e0:iT r=[102,105,120]::[40]::Lib.decDigits t.Bits.natAbs::[44]::Lib.decDigits t.Frac.natAbs::[44]::nM t.Round::[44]::o4 t.Over::[41]::rest:=e
 obtain⟨_,_,_,_,_,h1⟩:=bO h e0
 obtain⟨_,_,_,_,_,h2⟩:=bO h1.ok h1.rs
 obtain⟨_,_,_,_,_,h3⟩:=bO h2.ok h2.rs
 obtain⟨_,_,_,_,_,h4⟩:=bO h3.ok h3.rs
 obtain⟨_,_,_,_,_,h5⟩:=bO h4.ok h4.rs
 obtain⟨_,_,_,_,_,h6⟩:=bO h5.ok h5.rs
 obtain⟨_,_,_,_,_,h7⟩:=bO h6.ok h6.rs
 obtain⟨_,_,_,_,_,h8⟩:=bO h7.ok h7.rs
 obtain⟨_,_,_,_,_,h9⟩:=bO h8.ok h8.rs
 obtain⟨_,_,_,_,_,h10⟩:=bO h9.ok h9.rs
 rw[ry h e0 _ (by simp) (i:=2) (by decide),Option.bind_some]
 dsimp only
 rw[if_neg (by decide),if_neg (by decide),if_neg (by decide)]
 unfold eM
 rw[nV h1.ok h1.rs (by decide),bR]
 dsimp only
 rw[CE h2.ok h2.rs (by omega),bR]
 dsimp only
 rw[nV h3.ok h3.rs (by decide),bR]
 dsimp only
 rw[CE h4.ok h4.rs (by omega),bR]
 dsimp only
 rw[nV h5.ok h5.rs (by decide),bR]
 dsimp only
 have hm:∃ i:Nat,mu (fun s=>decide (iu (nM t.Round)=1)&&decide (nM t.Round=s)) [[102,108,111,111,114],[99,101,105,108],[122,101,114,111],[101,118,101,110]]=some i∧au ((i:Int)+1)=t.Round:=by
  have:t.Round=1∨t.Round=2∨t.Round=3∨t.Round=4:=by omega
  rcases this with k | k | k | k<;>rw[k]
  ·exact⟨0,by decide,rfl⟩
  ·exact⟨1,by decide,rfl⟩
  ·exact⟨2,by decide,rfl⟩
  ·exact⟨3,by decide,rfl⟩
 obtain⟨i,hi,hi2⟩:=hm
 rw[ry h6.ok h6.rs _ (by simp) hi,Option.bind_some]
 dsimp only
 rw[hi2,if_neg (by simp;omega)]
 unfold eK
 rw[nV h7.ok h7.rs (by decide),bR]
 dsimp only
 have ho:∃ i:Nat,mu (fun s=>decide (iu (o4 t.Over)=1)&&decide (o4 t.Over=s)) [[115,97,116],[119,114,97,112]]=some i∧au ((i:Int)+1)=t.Over:=by
  rcases b8 with k | k<;>rw[k]
  ·exact⟨0,by decide,rfl⟩
  ·exact⟨1,by decide,rfl⟩
 obtain⟨j,hj,hj2⟩:=ho
 rw[ry h8.ok h8.rs _ (by simp) hj,Option.bind_some]
 dsimp only
 rw[hj2,if_neg (by simp;omega)]
 unfold eJ
 rw[nV h9.ok h9.rs (by decide),bR]
 dsimp only
 have et:(⟨2,(t.Bits.natAbs:Int),(t.Frac.natAbs:Int),t.Round,t.Over⟩:aM)=t:=by
  cases t;simp only at *;subst b1;congr 1<;>omega
 rw[hi2,hj2,et,jH,ht,Option.bind_some]
 refine⟨_,rfl,((((((((h1.trans h2).trans h3).trans h4).trans h5).trans h6).trans h7).trans h8).trans h9).trans h10⟩
theorem GG {t:aM} {v:bj} (ht:ol t=true) (ho:tj t v=true):∃ x,je t v=some x∧k8 x=true∧(t.Kind=2→x.N * pw t.Frac=v.N * x.D)∧(t.Kind≠2→x=v):=by
 unfold je
 by_cases k2:t.Kind=2
 rotate_left
 ·exact⟨v,by simp[k2],G5 ht ho,fun h=>absurd h k2,fun _=>rfl⟩
 obtain⟨q1,q2,q3,q4,q5,q6,q7⟩:=ou ht k2
 obtain⟨v1,v2,v3⟩:=yz ht k2 ho
 have hp:=sk (n:=t.Frac) q4
 rw[if_pos (by simpa using k2),Bp q3 q4,Option.bind_some]
 unfold oA nA
 rw[if_neg (by simp;omega),tt ⟨by omega,by omega⟩,tt ⟨by omega,by omega⟩,Option.bind_some,Option.bind_some,if_neg (show ¬ pw t.Frac<0 by omega),DB (by split<;>omega) (by omega) (by omega),Option.bind_some]
 generalize hm:(if v.N<0 then -v.N else v.N)=m
 have hm0:0≤m∧m≤1073741824:=by rw[← hm];split<;>omega
 generalize pw t.Frac=P at hp ⊢
 generalize hg:Int.gcd m P=g
 have hg0:g≠0:=fun h=>by
  rw[h]at hg
  have:=(Int.gcd_eq_zero_iff.1 hg).2
  omega
 have hgi:(g:Int)≠0:=by omega
 rw[if_pos hgi]
 have d1:(g:Int)∣m:=by rw[← hg];exact Int.gcd_dvd_left ..
 have d2:(g:Int)∣P:=by rw[← hg];exact Int.gcd_dvd_right ..
 obtain⟨x,hx⟩:=d1
 obtain⟨y,hy⟩:=d2
 have ex:Int.tdiv m g=x:=by rw[hx];exact Int.mul_tdiv_cancel_left _ hgi
 have ey:Int.tdiv P g=y:=by rw[hy];exact Int.mul_tdiv_cancel_left _ hgi
 have hx0:0≤x∧x≤1073741824:=by
  have h1:0≤x:=by
   rcases Int.lt_or_le x 0 with h | h
   ·have:=Int.mul_neg_of_pos_of_neg (show(0:Int)<g by omega) h;omega
   ·exact h
  have:=Int.mul_le_mul_of_nonneg_right (show(1:Int)≤g by omega) h1
  omega
 have hy0:1≤y∧y≤1073741824:=by
  have h1:0<y:=by
   rcases Int.lt_or_le 0 y with h | h
   ·exact h
   ·have:=Int.mul_nonpos_of_nonneg_of_nonpos (show(0:Int)≤g by omega) h;omega
  have:=Int.mul_le_mul_of_nonneg_right (show(1:Int)≤g by omega) (show 0≤y by omega)
  omega
 have hco:Int.gcd x y=1:=by
  have h1:Int.gcd (g * x) (g * y)=g:=by rw[← hx, ← hy];exact hg
  rw[Int.gcd_mul_left]at h1
  have h2:(g:Int).natAbs=g:=by simp
  rw[h2]at h1
  exact Nat.eq_of_mul_eq_mul_left (Nat.pos_of_ne_zero hg0) (by rw[h1,Nat.mul_one])
 rw[ex,ey,wu (p:=x) ⟨by omega,by omega⟩,wu (p:=y) ⟨by omega,by omega⟩,wi (p:=x) ⟨by omega,by omega⟩,wi (p:=y) ⟨by omega,by omega⟩,wi (p:= -x) ⟨by omega,by omega⟩]
 rw[if_neg (by simp;omega)]
 have hpd:decide (P<0)=false:=by simp;omega
 rw[hpd]
 by_cases hn:v.N<0
 ·have hmv:v.N= -m:=by rw[← hm,if_pos hn];omega
  refine⟨⟨-x,y⟩,by simp[hn],?_,fun _=> ?_,fun h=>absurd k2 h⟩
  ·unfold k8
   rw[Int.neg_gcd]
   simp[hco];omega
  ·show -x * P=v.N * y
   rw[hmv,hx,hy];grind
 ·have hmv:v.N=m:=by rw[← hm,if_neg hn]
  refine⟨⟨x,y⟩,by simp[hn],?_,fun _=> ?_,fun h=>absurd k2 h⟩
  ·unfold k8
   simp[hco];omega
  ·show x * P=v.N * y
   rw[hmv,hx,hy];grind
def Da (t:aM) (v:bj):bj:=(je t v).getD default
theorem BO {t:aM} {v:bj} (ht:ol t=true) (ho:tj t v=true):je t v=some (Da t v)∧k8 (Da t v)=true∧(t.Kind=2→(Da t v).N * pw t.Frac=v.N * (Da t v).D)∧(t.Kind≠2→Da t v=v):=by
 obtain⟨x,h1,h2,h3,h4⟩:=GG ht ho
 have e:Da t v=x:=by unfold Da;rw[h1];rfl
 rw[e];exact⟨h1,h2,h3,h4⟩
theorem Be {t:aM} {v x:bj} (ht:ol t=true) (ho:tj t v=true) (hx:k8 x=true) (h2:t.Kind=2→x.N * pw t.Frac=v.N * x.D) (h3:t.Kind≠2→x=v):Z01.vparse t (om x)=(v,0):=by
 obtain⟨x1,x2,x3,x4,x5⟩:=mW hx
 have hp:Z01.parseS (om x)=(x,0):=Z01.parse_fmt hx
 unfold Z01.vparse
 rw[if_pos ht,hp]
 simp only[ne_eq,not_true_eq_false,if_false]
 by_cases k1:t.Kind=1
 ·rw[if_pos k1,h3 (by omega)]
 rw[if_neg k1]
 by_cases k3:t.Kind=3
 ·have:=h3 (by omega)
  subst this
  rw[if_pos k3,if_pos (CN k3 ho).1]
 rw[if_neg k3]
 have k2:t.Kind=2:=by rcases qk ht with k | k | k;exact absurd k k1;exact k;exact absurd k k3
 have e:=h2 k2
 obtain⟨q1,q2,q3,q4,q5,q6,q7⟩:=ou ht k2
 have hp:=sk (n:=t.Frac) q4
 have hdv:x.D∣pw t.Frac:=by
  refine G8 (n:=x.N) ⟨v.N,by rw[e,Int.mul_comm]⟩ (by rw[Int.gcd_comm];exact x5)
 have hm:Int.tmod (pw t.Frac) x.D=0:=Int.tmod_eq_zero_of_dvd hdv
 have hq:=Int.mul_tdiv_add_tmod (pw t.Frac) x.D
 rw[hm]at hq
 have hN:x.N * Int.tdiv (pw t.Frac) x.D=v.N:=by
  generalize Int.tdiv (pw t.Frac) x.D=k at hq
  generalize pw t.Frac=p at e hq
  have:x.D * (x.N * k)=x.D * v.N:=by grind
  exact Int.eq_of_mul_eq_mul_left (by omega) this
 obtain⟨v1,_⟩:=yz ht k2 ho
 have hv1:(⟨v.N,1⟩:bj)=v:=by rw[← v1]
 rw[if_pos hm,hN,hv1,if_pos ho]
theorem Dc {x:bj} (hx:k8 x=true):(om x).length≤30:=by
 obtain⟨a1,a2,a3,a4,a5⟩:=mW hx
 have l1:=j0 (n:=x.N) ⟨by omega,by omega⟩
 have l2:=j0 (n:=x.D) ⟨by omega,by omega⟩
 unfold om
 rw[if_pos hx]
 split
 ·omega
 ·simp only[List.length_append,List.length_cons];omega
theorem Hc {r:PR} {t:aM} {v:bj} {rest:Tx} (h:Ry r) (ht:ol t=true) (ho:tj t v=true) (e:iT r=gI (zD t)++([40]::(gI (vP (Da t v))++([41]::rest)))):∃ r',bH r=some (.ret (cE t v,r'))∧Nw r r' rest:=by
 obtain⟨f1,f2,f3,f4⟩:=BO ht ho
 have hp:=Be ht ho f2 f3 f4
 have hfl:=Dc f2
 obtain⟨a1,a2,a3,a4,a5⟩:=mW f2
 generalize Da t v=x at *
 obtain⟨r1,e1,h1⟩:=Hx h e ht
 obtain⟨_,_,_,_,_,h2⟩:=bO h1.ok h1.rs
 have ht1:gI (vP x)=vP x:=by
  have nb:∀ n,gI (mr n)=mr n:=Ew
  unfold vP
  split
  ·exact nb _
  ·show List.filter jF _ =_
   rw[List.filter_append,List.filter_append]
   have:=nb x.N;have:=nb x.D
   show gI (mr x.N)++(gI [[47]]++gI (mr x.D))=_
   rw[nb,nb];rfl
 have hr2:=h2.rs
 rw[ht1]at hr2
 unfold bH
 rw[e1,bR]
 dsimp only
 rw[nV h1.ok h1.rs (by decide),bR]
 dsimp only
 have fin:∀ (q:PR) (tx:List UInt8),tx=om x→Nw r q ([41]::rest)→∃ r',ck t (oh r1) tx q=some (.ret (cE t v,r'))∧Nw r r' rest:=fun q tx htx hq=>by
  subst htx
  obtain⟨_,_,_,_,_,hw⟩:=bO hq.ok hq.rs
  unfold ck
  rw[Z01.value_Parse (by omega),hp,Option.bind_some,if_neg (by simp)]
  unfold dm
  rw[nV hq.ok hq.rs (by decide),bR]
  exact⟨_,rfl,hq.trans hw⟩
 have mid:∀ (q:PR) (pre:List UInt8),pre++Lib.decDigits x.N.natAbs=Lib.itoa x.N→pre.length≤1→Nw r q (Lib.decDigits x.N.natAbs::((if x.D=1 then[]else[47]::[Lib.decDigits x.D.natAbs])++[41]::rest))→∃ r',cn t (oh r1) pre q=some (.ret (cE t v,r'))∧Nw r r' rest:=fun q pre hpre hpl hq=>by
  obtain⟨_,_,_,_,_,hw⟩:=bO hq.ok hq.rs
  have hl:=uj (u:=x.N.natAbs) (by omega)
  have hl2:=uj (u:=x.D.natAbs) (by omega)
  unfold cn
  rw[CQ hq.ok hq.rs,bR]
  dsimp only
  rw[bf (by omega),Option.bind_some,hpre]
  by_cases hd:x.D=1
  ·have hr3:iT (oh q)=[41]::rest:=by rw[hw.rs,if_pos hd];rfl
   rw[pp hw.ok (iD hr3 (by decide)),Option.bind_some]
   dsimp only
   rw[if_neg (by simp)]
   exact fin (oh q) _ (by unfold om;rw[if_pos f2,if_pos hd]) ⟨hw.ok,(hq.trans hw).l,(hq.trans hw).d,hr3⟩
  ·have hr3:iT (oh q)=[47]::Lib.decDigits x.D.natAbs::[41]::rest:=by rw[hw.rs,if_neg hd];rfl
   obtain⟨_,_,_,_,_,hw2⟩:=bO hw.ok hr3
   obtain⟨_,_,_,_,_,hw3⟩:=bO hw2.ok hw2.rs
   have hiD:Lib.itoa x.D=Lib.decDigits x.D.natAbs:=by rw[k7 (by omega),show x.D.toNat=x.D.natAbs by omega]
   have hiN:=j0 (n:=x.N) ⟨by omega,by omega⟩
   rw[qb hw.ok hr3 (by decide),Option.bind_some]
   dsimp only
   rw[if_pos rfl,CQ hw2.ok hw2.rs,bR]
   dsimp only
   rw[bf (by simp only[List.length_cons,List.length_nil];omega),Option.bind_some,bf (by simp only[List.length_append,List.length_cons,List.length_nil];omega),Option.bind_some]
   exact fin (oh (oh (oh q))) _ (by unfold om;rw[if_pos f2,if_neg hd,hiD];rfl) (((hq.trans hw).trans hw2).trans hw3)
 have hiD:mr x.D=[Lib.decDigits x.D.natAbs]:=yL (by omega)
 by_cases hn:x.N<0
 ·have hr3:iT (oh r1)=[45]::Lib.decDigits x.N.natAbs::((if x.D=1 then[]else[47]::[Lib.decDigits x.D.natAbs])++[41]::rest):=by
   rw[hr2];unfold vP mr
   rw[if_pos hn]
   split
   ·rfl
   ·rw[if_neg (by omega)];rfl
  obtain⟨_,_,_,_,_,hw⟩:=bO h2.ok hr3
  rw[qb h2.ok hr3 (by decide),Option.bind_some]
  dsimp only
  rw[if_pos rfl]
  exact mid (oh (oh r1)) [45] (by rw[mV hn];rfl) (by simp) ((h1.trans h2).trans hw)
 ·have hr3:iT (oh r1)=Lib.decDigits x.N.natAbs::((if x.D=1 then[]else[47]::[Lib.decDigits x.D.natAbs])++[41]::rest):=by
   rw[hr2];unfold vP mr
   rw[if_neg hn]
   split
   ·rfl
   ·rw[if_neg (by omega)];rfl
  rw[pp h2.ok (iD hr3 (Ha _ (by decide))),Option.bind_some]
  dsimp only
  rw[if_neg (by simp)]
  exact mid (oh r1) [] (by rw[k7 (by omega),show x.N.toNat=x.N.natAbs by omega];rfl) (by simp) ⟨h2.ok,(h1.trans h2).l,(h1.trans h2).d,hr3⟩
end Go.Proofs.YtmhoikfoogemnaaGreatDoor
