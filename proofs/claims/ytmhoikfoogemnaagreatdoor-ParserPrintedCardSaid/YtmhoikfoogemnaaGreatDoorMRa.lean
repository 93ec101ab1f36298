import Derived.Test.YtmhoikfoogemnaaGreatDoorMEu
namespace Go.Proofs.YtmhoikfoogemnaaGreatDoor
open Go Go.RowKit Go.Vc
set_option linter.unusedVariables false
set_option linter.unusedSimpArgs false
abbrev Tx:=List (List UInt8)
def iT (r:PR):Tx:=(r.l.drop r.at_.toNat).map (·.Text)
structure Ry (r:PR):Prop where
 a0:0≤r.at_
 a1:r.at_≤r.l.length
 ll:r.l.length≤50000
 tl:∀ t∈r.l,t.Text.length≤50000
 kd:∀ t∈r.l,t.Kind=iu t.Text
 d0:0≤r.deep
 d1:r.deep≤160
structure Nw (r r':PR) (rest:Tx):Prop where
 ok:Ry r'
 l:r'.l=r.l
 d:r'.deep=r.deep
 rs:iT r'=rest
section
variable {r:PR} {s t:List UInt8} {rest:Tx}
theorem Ry.rok (h:Ry r):Rok ⟨r.l,0⟩ r:=⟨.inl ⟨rfl,rfl⟩,h.a0,h.a1,h.ll,h.tl,h.d0,h.d1⟩
theorem Nw.trans {a b c:PR} {x y:Tx} (h:Nw a b x) (k:Nw b c y):Nw a c y:=⟨k.ok,k.l.trans h.l,k.d.trans h.d,k.rs⟩
theorem bO (h:Ry r) (e:iT r=t::rest):∃ k,A8 r 0=some k∧k.Text=t∧k.Kind=iu t∧r.at_<r.l.length∧Nw r (oh r) rest:=by
 unfold iT at e
 have h0:=h.a0
 have hlt:r.at_.toNat<r.l.length:=by
  rcases Nat.lt_or_ge r.at_.toNat r.l.length with h1 | h1
  ·exact h1
  ·rw[List.drop_of_length_le h1]at e;cases e
 obtain⟨k,hk⟩:=bZ hlt
 rw[qY hk,List.map_cons]at e
 injection e with e1 e2
 have hz:r.at_<r.l.length:=by omega
 have hR:Ry (oh r):=⟨by show 0≤r.at_+1;omega,hz,h.ll,h.tl,h.kd,h.d0,h.d1⟩
 refine⟨k,hk,e1,by rw[h.kd k (List.mem_of_getElem? hk),e1],hz,⟨hR,rfl,rfl,?_⟩⟩
 unfold iT oh
 dsimp only
 rw[show(r.at_+1).toNat=r.at_.toNat+1 by omega];exact e2
theorem Aa (h:Ry r) (e:iT r=[]):A8 r 0=none:=by
 unfold iT at e
 have:=List.map_eq_nil_iff.1 e
 rw[List.drop_eq_nil_iff]at this
 exact List.getElem?_eq_none (by omega)
theorem sD (h:Ry r) (e:iT r=t::rest) (k:Int) (s:List UInt8):wP r k s=(decide (iu t=k)&&decide (t=s)):=by
 obtain⟨q,h1,h2,h3,_⟩:=bO h e
 unfold wP
 rw[h1]
 simp only[Jn,h2,h3]
theorem sC (h:Ry r) (e:iT r=s::rest) {k:Int} (hk:iu s=k):wP r k s=true:=by rw[sD h e];simp[hk]
abbrev Je (r:PR) (s:List UInt8):Prop:=∀ t q,iT r=t::q→t≠s
theorem nS (h:Ry r) (hn:Je r s) (k:Int):wP r k s=false:=by
 cases e:iT r with
 | nil=>unfold wP;rw[Aa h e];rfl
 | cons t q=>rw[sD h e];simp[hn t q e]
theorem iD (e:iT r=t::rest) (ht:t≠s):Je r s:=fun t' q e'=>by rw[e]at e';injection e' with e' _;rw[← e'];exact ht
theorem qb (h:Ry r) (e:iT r=s::rest) (hk:iu s=3):aq r s=some (true,oh r):=by rw[vn h.rok,sC h e hk];rfl
theorem pp (h:Ry r) (hn:Je r s):aq r s=some (false,r):=by rw[vn h.rok,nS h hn];rfl
theorem nV (h:Ry r) (e:iT r=s::rest) (hk:iu s=3):aA r s=some (.ret ((),oh r)):=by
 unfold aA
 rw[qb h e hk];rfl
theorem xO (hs:cp s=true):iu s=1:=by
 have:=(gA hs).1
 unfold iu;rw[if_pos this]
theorem Fw (h:Ry r) (e:iT r=s::rest) (hs:cp s=true):D9 r=true:=by
 obtain⟨q,h1,h2,h3,_⟩:=bO h e
 unfold D9
 rw[h1]
 simp[h2,h3,xO hs,hs]
theorem KH (h:Ry r) (e:iT r=s::rest) (hs:cp s=false):D9 r=false:=by
 obtain⟨q,h1,h2,h3,_⟩:=bO h e
 unfold D9
 rw[h1]
 simp[h2,hs]
theorem yF (h:Ry r) (e:iT r=s::rest) (hs:cp s=true):bU r=some (.ret (s,oh r)):=by
 obtain⟨q,h1,h2,_⟩:=bO h e
 unfold bU eB
 rw[vm h.rok,Option.bind_some,Fw h e hs,if_neg (by simp),h.rok.wi1,h.rok.wi0,h.rok.lat_,h1,Option.bind_some,h2];rfl
theorem C7 (u:Nat):iu (Lib.decDigits u)=2:=by
 have h:=nH (mt u)
 have h2:ld ((Lib.decDigits u).headD 0)=false:=by
  cases hl:ld ((Lib.decDigits u).headD 0)
  ·rfl
  ·rw[qV hl]at h;cases h
 unfold iu;rw[h2,h];rfl
theorem GS (u:Nat):cp (Lib.decDigits u)=false:=by
 cases hb:cp (Lib.decDigits u)
 ·rfl
 ·have:=xO hb;rw[C7]at this;cases this
theorem G9 (u:Nat):BW (Lib.decDigits u)=true:=by
 obtain⟨h1,_,h3,h4⟩:=ja u
 unfold BW vU
 rw[h1,Bool.true_and]
 by_cases h0:u=0
 ·subst h0;rw[gr (by omega)];rfl
 ·simp[h3,h4 h0]
theorem CQ (h:Ry r) {u:Nat} (e:iT r=Lib.decDigits u::rest):bE r=some (.ret (Lib.decDigits u,oh r)):=by
 obtain⟨q,h1,h2,h3,_⟩:=bO h e
 have hm:K4 r=true:=by unfold K4;rw[h1];simp[h2,h3,C7,G9]
 unfold bE dW
 rw[Bu h.rok,Option.bind_some,hm,if_neg (by simp),h.rok.wi1,h.rok.wi0,h.rok.lat_,h1,Option.bind_some,h2];rfl
end
theorem ES {c:Int} (h:jS c):JQ (Lib.decDigits c.natAbs) (decide (c<0))=(c,true):=by
 obtain⟨h1,h2⟩:=h
 unfold JQ
 rw[(ja c.natAbs).2.1]
 by_cases hc:c<0
 ·rw[decide_eq_true hc,if_pos (by unfold np;rw[if_pos rfl];omega)]
  unfold Kh;rw[if_pos rfl];congr 1;omega
 ·rw[decide_eq_false hc,if_pos (by unfold np;rw[if_neg (by simp)];omega)]
  unfold Kh;rw[if_neg (by simp)];congr 1;omega
theorem Ez {r r':PR} {c:Int} {nm:List UInt8} (hn:nm=[]∨cp nm=true) (hc:jS c):dn (Lib.decDigits c.natAbs) (decide (c<0)) r nm r'=some (.ret (tm nm c,r')):=by
 have hdig:=(ja c.natAbs).1
 have hl:=uj (u:=c.natAbs) (by obtain⟨h1,h2⟩:=hc;omega)
 unfold dn
 rw[rk _ _ (by omega) hdig,ES hc,Option.bind_some,if_neg (by simp)]
 unfold eA
 rcases hn with rfl | hn
 ·rfl
 ·rw[if_neg (by simp[vu hn]),(FZ hn).1,Option.bind_some,(A6 hn hc).1];rfl
theorem Ey {r:PR} {c:Int} {nm:List UInt8} {rest:Tx} (h:Ry r) (e:iT r=kn c nm++rest) (hn:nm=[]∨cp nm=true) (hc:jS c) (hr:rest.head?≠some [42]):
  ∃ r',fy r (decide (c<0))=some (.ret (tm nm c,r'))∧Nw r r' rest:=by
 unfold kn at e
 unfold fy
 rw[vm h.rok,Option.bind_some]
 have num:∀ (tail:Tx),iT r=Lib.decDigits c.natAbs::tail→Nw r (oh r) tail∧D9 r=false∧bE r=some (.ret (Lib.decDigits c.natAbs,oh r)):=fun tail e=>by
  obtain⟨_,_,_,_,_,hw⟩:=bO h e
  exact⟨hw,KH h e (GS _),CQ h e⟩
 by_cases h0:nm=[]
 ·subst h0
  rw[if_pos rfl]at e
  obtain⟨hw,e1,e2⟩:=num rest e
  rw[e1,if_neg (by simp),e2,bR]
  dsimp only
  rw[pp hw.ok (fun t q e'=>by rw[hw.rs]at e';rw[e']at hr;simpa using hr),Option.bind_some]
  dsimp only
  rw[if_neg (by simp),Ez (.inl rfl) hc]
  exact⟨_,rfl,hw⟩
 ·have hN:=hn.resolve_left h0
  rw[if_neg h0]at e
  by_cases h1:c.natAbs=1
  ·rw[if_pos h1]at e
   obtain⟨_,_,_,_,_,hw⟩:=bO h (t:=nm) (rest:=rest) e
   rw[Fw h (s:=nm) (rest:=rest) e hN,if_pos rfl,yF h (s:=nm) (rest:=rest) e hN,bR]
   dsimp only
   rw[(FZ hN).1,Option.bind_some]
   by_cases hc0:c<0
   ·obtain rfl:c= -1:=by omega
    rw[if_pos (by simp),(A6 hN ⟨by omega,by omega⟩).1]
    exact⟨_,rfl,hw⟩
   ·obtain rfl:c=1:=by omega
    rw[if_neg (by simp)]
    have et:tm nm 1=⟨0,[⟨nm,1⟩]⟩:=by unfold tm;rw[if_neg h0,if_neg (by omega)]
    rw[et]
    exact⟨_,rfl,hw⟩
  ·rw[if_neg h1]at e
   obtain⟨hw,e1,e2⟩:=num ([42]::nm::rest) e
   obtain⟨_,_,_,_,_,hw2⟩:=bO hw.ok hw.rs
   obtain⟨_,_,_,_,_,hw3⟩:=bO hw2.ok hw2.rs
   rw[e1,if_neg (by simp),e2,bR]
   dsimp only
   rw[qb hw.ok hw.rs (by decide),Option.bind_some]
   dsimp only
   rw[if_pos rfl,yF hw2.ok hw2.rs hN,bR]
   dsimp only
   rw[Ez (.inr hN) hc]
   exact⟨_,rfl,(hw.trans hw2).trans hw3⟩
def Hm:ay→List (Int×List UInt8)→ay→Prop
 | s,[],f=>s=f
 | s,x::ts,f=>∃ y,nG s (tm x.2 x.1)=some (y,0)∧Hm y ts f
def xB (r:Tx):Prop:=∀ t s,r=t::s→t≠[43]∧t≠[45]∧t≠[42]
theorem stopF.g {r:Tx} (h:stopF r):xB r:=fun t s e=>by
 obtain⟨t',s',e',h3⟩:=h
 rw[e]at e';injection e' with e' _;subst e'
 rcases h3 with rfl | rfl | rfl<;>decide
abbrev KY (ts:List (Int×List UInt8)):Prop:=∀ x∈ts,jS x.1
theorem rK:∀ (ts:List (Int×List UInt8)) (F:Nat) (s f:ay) (x:Int×List UInt8) (r:PR) (rest:Tx),Ry r→iT r=kn x.1 x.2++(gI (oI false ts)++rest)→HI (x::ts)→KY (x::ts)→xB rest→Hm s (x::ts) f→ts.length<F→
  ∃ r',aY F (decide (x.1<0)) r s=some (.ret (f,r'))∧Nw r r' rest
 | ts,0,_,_,_,_,_,_,_,_,_,_,_,hF=>absurd hF (by omega)
 | [],F+1,s,f,x,r,rest,h,e,ho,hR,hs,⟨y,hy,hf⟩,_=>by
  have hf:y=f:=hf
  subst hf
  have e':iT r=kn x.1 x.2++rest:=by rw[e];rfl
  obtain⟨r',e1,hw⟩:=Ey h e' (ho x (by simp)) (hR x (by simp)) (by cases rest with | nil=>simp | cons t q=>simpa using(hs t q rfl).2.2)
  simp only[aY]
  rw[e1,bR]
  dsimp only
  rw[hy,Option.bind_some,if_neg (by simp)]
  unfold dp
  have hno:∀ q,(q=[43]∨q=[45])→Je r' q:=fun q hq t s' e'=>by
   rw[hw.rs]at e'
   rcases hq with rfl | rfl
   ·exact(hs t s' e').1
   ·exact(hs t s' e').2.1
  rw[pp hw.ok (hno [43] (.inl rfl)),Option.bind_some]
  dsimp only
  rw[if_neg (by simp),pp hw.ok (hno [45] (.inr rfl)),Option.bind_some]
  exact⟨r',rfl,hw⟩
 | z::ts,F+1,s,f,x,r,rest,h,e,ho,hR,hs,⟨y,hy,hf⟩,hF=>by
  have hz:z.2=[]∨cp z.2=true:=ho z (by simp)
  have e2:gI (oI false (z::ts))++rest=uo false z.1++(kn z.1 z.2++(gI (oI false ts)++rest)):=by rw[rY hz];simp only[List.append_assoc]
  rw[e2]at e
  have hsg:uo false z.1=if z.1<0 then[[45]]else[[43]]:=by unfold uo;simp
  obtain⟨r',e1,hw⟩:=Ey h e (ho x (by simp)) (hR x (by simp)) (by rw[hsg];split<;>simp)
  simp only[aY]
  rw[e1,bR]
  dsimp only
  rw[hy,Option.bind_some,if_neg (by simp)]
  unfold dp
  have go:∀ (r2:PR),Nw r' r2 (kn z.1 z.2++(gI (oI false ts)++rest))→∃ q,aY F (decide (z.1<0)) r2 y=some (.ret (f,q))∧Nw r q rest:=fun r2 h2=>by
   obtain⟨q,q1,q2⟩:=rK ts F y f z r2 rest h2.ok h2.rs (fun w hw=>ho w (by simp[List.mem_cons.1 hw])) (fun w hw=>hR w (by simp[List.mem_cons.1 hw])) hs hf (by simp only[List.length_cons]at hF;omega)
   exact⟨q,q1,(hw.trans h2).trans q2⟩
  by_cases hc:z.1<0
  ·have hr:iT r'=[45]::(kn z.1 z.2++(gI (oI false ts)++rest)):=by rw[hw.rs,hsg,if_pos hc];rfl
   obtain⟨_,_,_,_,_,hw2⟩:=bO hw.ok hr
   rw[pp hw.ok (iD hr (by decide)),Option.bind_some]
   dsimp only
   rw[if_neg (by simp),qb hw.ok hr (by decide),Option.bind_some]
   have:=go (oh r') hw2
   rw[decide_eq_true hc]at this
   exact this
  ·have hr:iT r'=[43]::(kn z.1 z.2++(gI (oI false ts)++rest)):=by rw[hw.rs,hsg,if_neg hc];rfl
   obtain⟨_,_,_,_,_,hw2⟩:=bO hw.ok hr
   rw[qb hw.ok hr (by decide),Option.bind_some]
   have:=go (oh r') hw2
   rw[decide_eq_false hc]at this
   exact this
theorem Ff {pre:List aw} {m:aw} (h:∀ y∈pre,Op.bytesLess y.Name m.Name=true):wK pre [m]=pre++[m]∧ut pre [m]:=by
 induction pre with
 | nil=>exact⟨by simp[wK],by simp[ut]⟩
 | cons y pre ih=>
  have hy:=h y (by simp)
  obtain⟨i1,i2⟩:=ih fun z hz=>h z (by simp[hz])
  rw[yG,rD,if_pos hy,if_pos hy,i1]
  exact⟨rfl,i2⟩
theorem Cz {K:Int} (hK:jS K) (tail:List (Int×List UInt8)):∀ (post pre:List aw),d8 ⟨0,pre++post⟩→(∀ m∈pre++post,jS m.By)→(pre++post).length≤90000→tail=(if K≠0∨pre++post=[]then[(K,[])]else[])→
  Hm ⟨0,pre⟩ (post.map (fun m=>(m.By,m.Name))++tail) ⟨K,pre++post⟩
 | [],pre,ho,hR,hl,ht=>by
  rw[List.append_nil]at ho hR hl ht ⊢
  have h1:d8 (⟨0,pre⟩:ay):=ho
  rw[List.map_nil,List.nil_append,ht]
  split
  ·have et:tm [] K=⟨K,[]⟩:=by unfold tm;rw[if_pos rfl]
   have hI:=LinI.const hK 1
   obtain⟨r,e1,e2⟩:=F5 ⟨0,pre⟩ ⟨K,[]⟩ h1 hI.ok ⟨R0,hR,by show pre.length≤ _;omega⟩ hI.wf (by show pre.length+0≤ _;omega)
   refine⟨⟨K,pre⟩,?_,rfl⟩
   dsimp only
   rw[et,e1]
   rcases e2 with⟨rfl,_⟩ | ⟨_,e2⟩
   ·simp[CU]
   ·exact absurd ⟨by simpa using hK,yC _⟩ e2
  ·next hc=>
   have:K=0:=Classical.byContradiction fun h=>hc (.inl h)
   subst this;rfl
 | m::post,pre,ho,hR,hl,ht=>by
  have e0:pre++m::post=(pre++[m])++post:=by simp
  have hm:=ho.1 m (by simp)
  have hmR:=hR m (by simp)
  obtain⟨p1,p2,p3⟩:=List.pairwise_append.1 ho.2
  have et:tm m.Name m.By=⟨0,[m]⟩:=by unfold tm;rw[if_neg (vu hm.1),if_neg hm.2]
  have hI:=LinI.one hm.1 hmR hm.2
  have h1:d8 (⟨0,pre⟩:ay):=⟨fun x hx=>ho.1 x (by simp[show x∈pre from hx]),p1⟩
  have hll:pre.length≤90000:=by simp at hl;omega
  obtain⟨r,e1,e2⟩:=F5 ⟨0,pre⟩ ⟨0,[m]⟩ h1 hI.ok ⟨R0,fun x hx=>hR x (by simp[show x∈pre from hx]),by show pre.length≤ _;omega⟩ hI.wf (by show pre.length+1≤ _;omega)
  obtain⟨g1,g2⟩:=Ff (pre:=pre) (m:=m) (fun y hy=>p3 y hy m (by simp))
  refine⟨⟨0,pre++[m]⟩,?_,?_⟩
  ·dsimp only
   rw[et,e1]
   rcases e2 with⟨rfl,_⟩ | ⟨_,e2⟩
   ·simp[g1]
   ·exact absurd ⟨by exact R0,g2⟩ e2
  ·rw[e0]at ho hR hl ht ⊢
   exact Cz hK tail post (pre++[m]) ho hR hl ht
theorem Gw {f:ay} (hk:jS f.K) (hR:∀ m∈f.L,jS m.By):KY (iS f):=fun x hx=>by
 unfold iS at hx
 rcases List.mem_append.1 hx with hx | hx
 ·obtain⟨m,hm,rfl⟩:=List.mem_map.1 hx
  exact hR m hm
 ·split at hx
  ·rw[List.mem_singleton.1 hx];exact hk
  ·simp at hx
theorem zS (f:ay):iS f≠[]:=by
 unfold iS
 intro h
 rw[List.append_eq_nil_iff]at h
 have h1:=List.map_eq_nil_iff.1 h.1
 have h2:=h.2
 rw[if_pos (.inr h1)]at h2;cases h2
structure Jd (f:ay):Prop where
 ok:d8 f
 k:jS f.K
 b:∀ m∈f.L,jS m.By
 len:f.L.length≤90000
theorem yP {r:PR} {f:ay} {rest:Tx} (h:Ry r) (e:iT r=gI (oM f)++rest) (hf:Jd f) (hs:xB rest):∃ r',bV r=some (.ret (f,r'))∧Nw r r' rest:=by
 have hter:=rZ hf.ok
 have hR:=Gw hf.k hf.b
 have hS:Hm ⟨0,[]⟩ (iS f) f:=Cz hf.k _ f.L [] (by rw[List.nil_append];exact hf.ok) (by rw[List.nil_append];exact hf.b) (by rw[List.nil_append];exact hf.len) (by rw[List.nil_append])
 have hlen:(iS f).length≤90001:=by
  unfold iS
  have:=hf.len
  rw[List.length_append,List.length_map]
  split<;>simp<;>omega
 unfold oM at e
 cases hT:iS f with
 | nil=>exact absurd hT (zS f)
 | cons x ts=>
  rw[hT]at e hter hR hS hlen
  rw[rY (hter x (by simp))]at e
  have hsg:uo true x.1=if x.1<0 then[[45]]else[]:=by unfold uo;simp
  unfold bV
  by_cases hc:x.1<0
  ·have hr:iT r=[45]::(kn x.1 x.2++(gI (oI false ts)++rest)):=by rw[e,hsg,if_pos hc];simp
   obtain⟨_,_,_,_,_,hw⟩:=bO h hr
   rw[qb h hr (by decide),Option.bind_some]
   obtain⟨r',q1,q2⟩:=rK ts fu ⟨0,[]⟩ f x (oh r) rest hw.ok hw.rs hter hR hs hS (by simp only[List.length_cons]at hlen;unfold fu;omega)
   rw[decide_eq_true hc]at q1
   exact⟨r',q1,hw.trans q2⟩
  ·have hr:iT r=kn x.1 x.2++(gI (oI false ts)++rest):=by rw[e,hsg,if_neg hc];simp
   obtain⟨t,q,hb,hns⟩:=Dn (c:=x.1) (hter x (by simp))
   have hno:Je r [45]:=iD (t:=t) (rest:=q++(gI (oI false ts)++rest)) (by rw[hr,hb];rfl) (fun h=>hns (by rw[h];decide))
   rw[pp h hno,Option.bind_some]
   obtain⟨r',q1,q2⟩:=rK ts fu ⟨0,[]⟩ f x r rest h hr hter hR hs hS (by simp only[List.length_cons]at hlen;unfold fu;omega)
   rw[decide_eq_false hc]at q1
   exact⟨r',q1,q2⟩
def JO (l:List ay):Tx:=match l with | []=>[] | x::l=>[44]::gI (fO ((x::l).map oM))
theorem xP (x:ay) (l:List ay):gI (fO ((x::l).map oM))=gI (oM x)++JO l:=by
 cases l with
 | nil=>simp[JO,fO]
 | cons y l=>exact uY oM x y l
theorem EI (rest:Tx):xB ([93]::rest):=fun t s e=>by injection e with e _;subst e;decide
theorem Ie (rest:Tx):xB ([44]::rest):=fun t s e=>by injection e with e _;subst e;decide
theorem CC (l:List ay) (rest:Tx):xB (JO l++[93]::rest):=by
 cases l with
 | nil=>exact EI rest
 | cons x l=>exact Ie _
theorem ue:∀ (l:List ay) (F:Nat) (out:List ay) (r:PR) (rest:Tx),Ry r→iT r=JO l++[93]::rest→(∀ f∈l,Jd f)→l.length<F→out.length+l.length≤1000000→∃ r',bF F out r=some (.ret (out++l,r'))∧Nw r r' rest
 | _,0,_,_,_,_,_,_,h,_=>absurd h (by omega)
 | [],F+1,out,r,rest,h,e,ho,_,_=>by
  have e':iT r=[93]::rest:=e
  obtain⟨_,_,_,_,_,hw⟩:=bO h e'
  simp only[bF]
  rw[pp h (iD e' (by decide)),Option.bind_some]
  dsimp only
  rw[if_neg (by simp),nV h e' (by decide),bR,List.append_nil]
  exact⟨_,rfl,hw⟩
 | x::l,F+1,out,r,rest,h,e,ho,hF,hl=>by
  have e':iT r=[44]::(gI (oM x)++(JO l++[93]::rest)):=by rw[e];show[44]::(gI (fO ((x::l).map oM))++[93]::rest)=_;rw[xP,List.append_assoc]
  obtain⟨_,_,_,_,_,hw⟩:=bO h e'
  simp only[List.length_cons]at hF hl
  obtain⟨r1,e1,hw1⟩:=yP hw.ok hw.rs (ho x (by simp)) (CC l rest)
  simp only[bF]
  rw[qb h e' (by decide),Option.bind_some]
  dsimp only
  rw[if_pos rfl,e1,bR]
  dsimp only
  rw[bf (by simp only[List.length_cons,List.length_nil];omega),Option.bind_some]
  obtain⟨r2,e2,hw2⟩:=ue l F (out++[x]) r1 rest hw1.ok hw1.rs (fun f hf=>ho f (by simp[hf])) (by omega) (by simp only[List.length_append,List.length_cons,List.length_nil];omega)
  rw[e2]
  exact⟨r2,by simp,(hw.trans hw1).trans hw2⟩
theorem G6 {l:List ay} {r:PR} {rest:Tx} (h:Ry r) (e:iT r=gI (fO (l.map oM))++[93]::rest) (ho:∀ f∈l,Jd f) (hl:l.length≤100000):∃ r',fb r=some (.ret (l,r'))∧Nw r r' rest:=by
 unfold fb
 cases l with
 | nil=>
  have e':iT r=[93]::rest:=e
  obtain⟨_,_,_,_,_,hw⟩:=bO h e'
  rw[qb h e' (by decide)]
  exact⟨_,rfl,hw⟩
 | cons x l=>
  rw[xP,List.append_assoc]at e
  obtain⟨r1,e1,hw1⟩:=yP h e (ho x (by simp)) (CC l rest)
  obtain⟨t,q,hb,ht,_⟩:=Fp (ho x (by simp)).ok (JO l++[93]::rest)
  rw[pp h (iD (by rw[e];exact hb) ht),Option.bind_some]
  dsimp only
  rw[if_neg (by simp),e1,bR]
  simp only[List.length_cons]at hl
  obtain⟨r2,e2,hw2⟩:=ue l fu [x] r1 rest hw1.ok hw1.rs (fun f hf=>ho f (by simp[hf])) (by unfold fu;omega) (by simp;omega)
  exact⟨r2,e2,hw1.trans hw2⟩
end Go.Proofs.YtmhoikfoogemnaaGreatDoor
