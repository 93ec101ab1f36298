import Derived.Test.YtmhoikfoogemnaaGreatDoorHEu
namespace Go.Proofs.YtmhoikfoogemnaaGreatDoor
open Go Go.RowKit Go.Vc
set_option linter.unusedVariables false
set_option linter.unusedSimpArgs false
abbrev Tx:=List (List UInt8)
def fH (r:PR):Tx:=(r.l.drop r.at_.toNat).map (·.Text)
structure Ry (r:PR):Prop where
 a0:0≤r.at_
 a1:r.at_≤r.l.length
 ll:r.l.length≤50000
 tl:∀ t∈r.l,t.Text.length≤50000
 kd:∀ t∈r.l,t.Kind=im t.Text
 d0:0≤r.deep
 d1:r.deep≤160
structure Nw (r r':PR) (rest:Tx):Prop where
 ok:Ry r'
 l:r'.l=r.l
 d:r'.deep=r.deep
 rs:fH r'=rest
section
variable {r:PR} {s t:List UInt8} {rest:Tx}
theorem Ry.rok (h:Ry r):Rok ⟨r.l,0⟩ r:=⟨.inl ⟨rfl,rfl⟩,h.a0,h.a1,h.ll,h.tl,h.d0,h.d1⟩
theorem Nw.trans {a b c:PR} {x y:Tx} (h:Nw a b x) (k:Nw b c y):Nw a c y:=⟨k.ok,k.l.trans h.l,k.d.trans h.d,k.rs⟩
theorem aU (h:Ry r) (e:fH r=t::rest):∃ k,Dy r 0=some k∧k.Text=t∧k.Kind=im t∧r.at_<r.l.length∧Nw r (mI r) rest:=by
 unfold fH at e
 have h0:=h.a0
 have hlt:r.at_.toNat<r.l.length:=by
  rcases Nat.lt_or_ge r.at_.toNat r.l.length with h1 | h1
  ·exact h1
  ·rw[List.drop_of_length_le h1]at e;cases e
 obtain⟨k,hk⟩:=bY hlt
 rw[uv hk,List.map_cons]at e
 injection e with e1 e2
 have hz:r.at_<r.l.length:=by omega
 have hR:Ry (mI r):=⟨by show 0≤r.at_+1;omega,hz,h.ll,h.tl,h.kd,h.d0,h.d1⟩
 refine⟨k,hk,e1,by rw[h.kd k (List.mem_of_getElem? hk),e1],hz,hR,rfl,rfl,?_⟩
 unfold fH mI
 dsimp only
 rw[show(r.at_+1).toNat=r.at_.toNat+1 by omega];exact e2
theorem vV (h:Ry r) (e:fH r=[]):Dy r 0=none:=by
 unfold fH at e
 have:=List.map_eq_nil_iff.1 e
 rw[List.drop_eq_nil_iff]at this
 exact List.getElem?_eq_none (by omega)
theorem rz (h:Ry r) (e:fH r=t::rest) (k:Int) (s:List UInt8):za r k s=(decide (im t=k)&&decide (t=s)):=by
 obtain⟨q,h1,h2,h3,_⟩:=aU h e
 unfold za
 rw[h1]
 simp only[OT,h2,h3]
theorem sX (h:Ry r) (e:fH r=s::rest) {k:Int} (hk:im s=k):za r k s=true:=by rw[rz h e];simp[hk]
abbrev OE (r:PR) (s:List UInt8):Prop:=∀ t q,fH r=t::q→t≠s
theorem pi (h:Ry r) (hn:OE r s) (k:Int):za r k s=false:=by
 cases e:fH r with
 | nil=>unfold za;rw[vV h e];rfl
 | cons t q=>rw[rz h e];simp[hn t q e]
theorem gX (e:fH r=t::rest) (ht:t≠s):OE r s:=λt' q e'=>by rw[e]at e';injection e' with e' _;rw[← e'];exact ht
theorem qE (h:Ry r) (e:fH r=s::rest) (hk:im s=3):ay r s=some (true,mI r):=by rw[yO h.rok,sX h e hk];rfl
theorem pG (h:Ry r) (hn:OE r s):ay r s=some (false,r):=by rw[yO h.rok,pi h hn];rfl
theorem kI (h:Ry r) (e:fH r=s::rest) (hk:im s=3):ao r s=some (.ret ((),mI r)):=by
 unfold ao
 rw[qE h e hk];rfl
theorem Bg (hs:bw s=true):im s=1:=by
 have:=(fw hs).1
 unfold im;rw[if_pos this]
theorem JW (h:Ry r) (e:fH r=s::rest) (hs:bw s=true):Ir r=true:=by
 obtain⟨q,h1,h2,h3,_⟩:=aU h e
 unfold Ir
 rw[h1]
 simp[h2,h3,Bg hs,hs]
theorem Qu (h:Ry r) (e:fH r=s::rest) (hs:bw s=false):Ir r=false:=by
 obtain⟨q,h1,h2,h3,_⟩:=aU h e
 unfold Ir
 rw[h1]
 simp[h2,hs]
theorem rZ (h:Ry r) (e:fH r=s::rest) (hs:bw s=true):bi r=some (.ret (s,mI r)):=by
 obtain⟨q,h1,h2,_⟩:=aU h e
 unfold bi fA
 rw[yN h.rok,Option.bind_some,JW h e hs,if_neg (by simp),h.rok.wi1,h.rok.wi0,h.rok.lat_,h1,Option.bind_some,h2];rfl
theorem Hf (u:Nat):im (Lib.decDigits u)=2:=by
 have h:=pW (ou u)
 have h2:mG ((Lib.decDigits u).headD 0)=false:=by
  cases hl:mG ((Lib.decDigits u).headD 0)
  ·rfl
  ·rw[ur hl]at h;cases h
 unfold im;rw[h2,h];rfl
theorem LB (u:Nat):bw (Lib.decDigits u)=false:=by
 cases hb:bw (Lib.decDigits u)
 ·rfl
 ·have:=Bg hb;rw[Hf]at this;cases this
theorem L0 (u:Nat):F4 (Lib.decDigits u)=true:=by
 obtain⟨h1,_,h3,h4⟩:=jJ u
 unfold F4 zn
 rw[h1,Bool.true_and]
 by_cases h0:u=0
 ·subst h0;rw[io (by omega)];rfl
 ·simp[h3,h4 h0]
theorem G0 (h:Ry r) {u:Nat} (e:fH r=Lib.decDigits u::rest):bS r=some (.ret (Lib.decDigits u,mI r)):=by
 obtain⟨q,h1,h2,h3,_⟩:=aU h e
 have hm:QV r=true:=by unfold QV;rw[h1];simp[h2,h3,Hf,L0]
 unfold bS eH
 rw[Fz h.rok,Option.bind_some,hm,if_neg (by simp),h.rok.wi1,h.rok.wi0,h.rok.lat_,h1,Option.bind_some,h2];rfl
end
theorem Je {c:Int} (h:kX c):Ps (Lib.decDigits c.natAbs) (decide (c<0))=(c,true):=by
 obtain⟨h1,h2⟩:=h
 unfold Ps
 rw[(jJ c.natAbs).2.1]
 by_cases hc:c<0
 ·rw[decide_eq_true hc,if_pos (by unfold pz;rw[if_pos rfl];omega)]
  unfold P2;rw[if_pos rfl];congr 1;omega
 ·rw[decide_eq_false hc,if_pos (by unfold pz;rw[if_neg (by simp)];omega)]
  unfold P2;rw[if_neg (by simp)];congr 1;omega
theorem IW {r r':PR} {c:Int} {nm:List UInt8} (hn:nm=[]∨bw nm=true) (hc:kX c):dV (Lib.decDigits c.natAbs) (decide (c<0)) r nm r'=some (.ret (tm nm c,r')):=by
 have hdig:=(jJ c.natAbs).1
 have hl:=xJ (u:=c.natAbs) (by obtain⟨h1,h2⟩:=hc;omega)
 unfold dV
 rw[uM _ _ (by omega) hdig,Je hc,Option.bind_some,if_neg (by simp)]
 unfold fz
 rcases hn with rfl | hn
 ·rfl
 ·rw[if_neg (by simp[yQ hn]),(Ky hn).1,Option.bind_some,(E4 hn hc).1];rfl
theorem IV {r:PR} {c:Int} {nm:List UInt8} {rest:Tx} (h:Ry r) (e:fH r=lI c nm++rest) (hn:nm=[]∨bw nm=true) (hc:kX c) (hr:rest.head?≠some [42]):
  ∃ r',gy r (decide (c<0))=some (.ret (tm nm c,r'))∧Nw r r' rest:=by
 unfold lI at e
 unfold gy
 rw[yN h.rok,Option.bind_some]
 have num:∀ (tail:Tx),fH r=Lib.decDigits c.natAbs::tail→Nw r (mI r) tail∧Ir r=false∧bS r=some (.ret (Lib.decDigits c.natAbs,mI r)):=λtail e=>by
  obtain⟨_,_,_,_,_,hw⟩:=aU h e
  exact⟨hw,Qu h e (LB _),G0 h e⟩
 by_cases h0:nm=[]
 ·subst h0
  rw[if_pos rfl]at e
  obtain⟨hw,e1,e2⟩:=num rest e
  rw[e1,if_neg (by simp),e2,aW]
  dsimp only
  rw[pG hw.ok (λt q e'=>by rw[hw.rs]at e';rw[e']at hr;simpa using hr),Option.bind_some]
  dsimp only
  rw[if_neg (by simp),IW (.inl rfl) hc]
  exact⟨_,rfl,hw⟩
 ·have hN:=hn.resolve_left h0
  rw[if_neg h0]at e
  by_cases h1:c.natAbs=1
  ·rw[if_pos h1]at e
   obtain⟨_,_,_,_,_,hw⟩:=aU h (t:=nm) (rest:=rest) e
   rw[JW h (s:=nm) (rest:=rest) e hN,if_pos rfl,rZ h (s:=nm) (rest:=rest) e hN,aW]
   dsimp only
   rw[(Ky hN).1,Option.bind_some]
   by_cases hc0:c<0
   ·obtain rfl:c= -1:=by omega
    rw[if_pos (by simp),(E4 hN ⟨by omega,by omega⟩).1]
    exact⟨_,rfl,hw⟩
   ·obtain rfl:c=1:=by omega
    rw[if_neg (by simp)]
    have et:tm nm 1=⟨0,[⟨nm,1⟩]⟩:=by unfold tm;rw[if_neg h0,if_neg (by omega)]
    rw[et]
    exact⟨_,rfl,hw⟩
  ·rw[if_neg h1]at e
   obtain⟨hw,e1,e2⟩:=num ([42]::nm::rest) e
   obtain⟨_,_,_,_,_,hw2⟩:=aU hw.ok hw.rs
   obtain⟨_,_,_,_,_,hw3⟩:=aU hw2.ok hw2.rs
   rw[e1,if_neg (by simp),e2,aW]
   dsimp only
   rw[qE hw.ok hw.rs (by decide),Option.bind_some]
   dsimp only
   rw[if_pos rfl,rZ hw2.ok hw2.rs hN,aW]
   dsimp only
   rw[IW (.inr hN) hc]
   exact⟨_,rfl,(hw.trans hw2).trans hw3⟩
def Me:aC→List (Int×List UInt8)→aC→Prop
 | s,[],f=>s=f
 | s,x::ts,f=>∃ y,pV s (tm x.2 x.1)=some (y,0)∧Me y ts f
def vQ (r:Tx):Prop:=∀ t s,r=t::s→t≠[43]∧t≠[45]∧t≠[42]
theorem stopF.g {r:Tx} (h:stopF r):vQ r:=λt s e=>by
 obtain⟨t',s',e',h3⟩:=h
 rw[e]at e';injection e' with e' _;subst e'
 rcases h3 with rfl | rfl | rfl<;>decide
abbrev QP (ts:List (Int×List UInt8)):Prop:=∀ x∈ts,kX x.1
theorem vo:∀ (ts:List (Int×List UInt8)) (F:Nat) (s f:aC) (x:Int×List UInt8) (r:PR) (rest:Tx),Ry r→fH r=lI x.1 x.2++(dg (qG false ts)++rest)→MB (x::ts)→QP (x::ts)→vQ rest→Me s (x::ts) f→ts.length<F→
  ∃ r',bq F (decide (x.1<0)) r s=some (.ret (f,r'))∧Nw r r' rest
 | ts,0,_,_,_,_,_,_,_,_,_,_,_,hF=>absurd hF (by omega)
 | [],F+1,s,f,x,r,rest,h,e,ho,hR,hs,⟨y,hy,hf⟩,_=>by
  have hf:y=f:=hf
  subst hf
  have e':fH r=lI x.1 x.2++rest:=by rw[e];rfl
  obtain⟨r',e1,hw⟩:=IV h e' (ho x (by simp)) (hR x (by simp)) (by cases rest with | nil=>simp | cons t q=>simpa using(hs t q rfl).2.2)
  simp only[bq]
  rw[e1,aW]
  dsimp only
  rw[hy,Option.bind_some,if_neg (by simp)]
  unfold dW
  have hno:∀ q,(q=[43]∨q=[45])→OE r' q:=λq hq t s' e'=>by
   rw[hw.rs]at e'
   rcases hq with rfl | rfl
   ·exact(hs t s' e').1
   ·exact(hs t s' e').2.1
  rw[pG hw.ok (hno [43] (.inl rfl)),Option.bind_some]
  dsimp only
  rw[if_neg (by simp),pG hw.ok (hno [45] (.inr rfl)),Option.bind_some]
  exact⟨r',rfl,hw⟩
 | z::ts,F+1,s,f,x,r,rest,h,e,ho,hR,hs,⟨y,hy,hf⟩,hF=>by
  have hz:z.2=[]∨bw z.2=true:=ho z (by simp)
  have e2:dg (qG false (z::ts))++rest=xQ false z.1++(lI z.1 z.2++(dg (qG false ts)++rest)):=by rw[ui hz];simp only[List.append_assoc]
  rw[e2]at e
  have hsg:xQ false z.1=if z.1<0 then[[45]]else[[43]]:=by unfold xQ;simp
  obtain⟨r',e1,hw⟩:=IV h e (ho x (by simp)) (hR x (by simp)) (by rw[hsg];split<;>simp)
  simp only[bq]
  rw[e1,aW]
  dsimp only
  rw[hy,Option.bind_some,if_neg (by simp)]
  unfold dW
  have go:∀ (r2:PR),Nw r' r2 (lI z.1 z.2++(dg (qG false ts)++rest))→∃ q,bq F (decide (z.1<0)) r2 y=some (.ret (f,q))∧Nw r q rest:=λr2 h2=>by
   obtain⟨q,q1,q2⟩:=vo ts F y f z r2 rest h2.ok h2.rs (λw hw=>ho w (by simp[List.mem_cons.1 hw])) (λw hw=>hR w (by simp[List.mem_cons.1 hw])) hs hf (by simp only[List.length_cons]at hF;omega)
   exact⟨q,q1,(hw.trans h2).trans q2⟩
  by_cases hc:z.1<0
  ·have hr:fH r'=[45]::(lI z.1 z.2++(dg (qG false ts)++rest)):=by rw[hw.rs,hsg,if_pos hc];rfl
   obtain⟨_,_,_,_,_,hw2⟩:=aU hw.ok hr
   rw[pG hw.ok (gX hr (by decide)),Option.bind_some]
   dsimp only
   rw[if_neg (by simp),qE hw.ok hr (by decide),Option.bind_some]
   have:=go (mI r') hw2
   rw[decide_eq_true hc]at this
   exact this
  ·have hr:fH r'=[43]::(lI z.1 z.2++(dg (qG false ts)++rest)):=by rw[hw.rs,hsg,if_neg hc];rfl
   obtain⟨_,_,_,_,_,hw2⟩:=aU hw.ok hr
   rw[qE hw.ok hr (by decide),Option.bind_some]
   have:=go (mI r') hw2
   rw[decide_eq_false hc]at this
   exact this
theorem JG {pre:List bv} {m:bv} (h:∀ y∈pre,Op.bytesLess y.Name m.Name=true):Ab pre [m]=pre++[m]∧xV pre [m]:=by
 induction pre with
 | nil=>exact⟨by simp[Ab],by simp[xV]⟩
 | cons y pre ih=>
  have hy:=h y (by simp)
  obtain⟨i1,i2⟩:=ih λz hz=>h z (by simp[hz])
  rw[Cj,vf,if_pos hy,if_pos hy,i1]
  exact⟨rfl,i2⟩
theorem GE {K:Int} (hK:kX K) (tail:List (Int×List UInt8)):∀ (post pre:List bv),cv ⟨0,pre++post⟩→(∀ m∈pre++post,kX m.By)→(pre++post).length≤90000→tail=(if K≠0∨pre++post=[]then[(K,[])]else[])→
  Me ⟨0,pre⟩ (post.map (λm=>(m.By,m.Name))++tail) ⟨K,pre++post⟩
 | [],pre,ho,hR,hl,ht=>by
  rw[List.append_nil]at ho hR hl ht ⊢
  have h1:cv (⟨0,pre⟩:aC):=ho
  rw[List.map_nil,List.nil_append,ht]
  split
  ·have et:tm [] K=⟨K,[]⟩:=by unfold tm;rw[if_pos rfl]
   have hI:=LinI.const hK 1
   obtain⟨r,e1,e2⟩:=KE ⟨0,pre⟩ ⟨K,[]⟩ h1 hI.ok ⟨R0,hR,by show pre.length≤ _;omega⟩ hI.wf (by show pre.length+0≤ _;omega)
   refine⟨⟨K,pre⟩,?_,rfl⟩
   dsimp only
   rw[et,e1]
   rcases e2 with⟨rfl,_⟩ | ⟨_,e2⟩
   ·simp[G6]
   ·exact absurd ⟨by simpa using hK,Cf _⟩ e2
  ·next hc=>
   have:K=0:=Classical.byContradiction λh=>hc (.inl h)
   subst this;rfl
 | m::post,pre,ho,hR,hl,ht=>by
  have e0:pre++m::post=(pre++[m])++post:=by simp
  have hm:=ho.1 m (by simp)
  have hmR:=hR m (by simp)
  obtain⟨p1,p2,p3⟩:=List.pairwise_append.1 ho.2
  have et:tm m.Name m.By=⟨0,[m]⟩:=by unfold tm;rw[if_neg (yQ hm.1),if_neg hm.2]
  have hI:=LinI.one hm.1 hmR hm.2
  have h1:cv (⟨0,pre⟩:aC):=⟨λx hx=>ho.1 x (by simp[show x∈pre from hx]),p1⟩
  have hll:pre.length≤90000:=by simp at hl;omega
  obtain⟨r,e1,e2⟩:=KE ⟨0,pre⟩ ⟨0,[m]⟩ h1 hI.ok ⟨R0,λx hx=>hR x (by simp[show x∈pre from hx]),by show pre.length≤ _;omega⟩ hI.wf (by show pre.length+1≤ _;omega)
  obtain⟨g1,g2⟩:=JG (pre:=pre) (m:=m) (λy hy=>p3 y hy m (by simp))
  refine⟨⟨0,pre++[m]⟩,?_,?_⟩
  ·dsimp only
   rw[et,e1]
   rcases e2 with⟨rfl,_⟩ | ⟨_,e2⟩
   ·simp[g1]
   ·exact absurd ⟨by exact R0,g2⟩ e2
  ·rw[e0]at ho hR hl ht ⊢
   exact GE hK tail post (pre++[m]) ho hR hl ht
theorem K9 {f:aC} (hk:kX f.K) (hR:∀ m∈f.L,kX m.By):QP (iu f):=λx hx=>by
 unfold iu at hx
 rcases List.mem_append.1 hx with hx | hx
 ·obtain⟨m,hm,rfl⟩:=List.mem_map.1 hx
  exact hR m hm
 ·split at hx
  ·rw[List.mem_singleton.1 hx];exact hk
  ·simp at hx
theorem DL (f:aC):iu f≠[]:=by
 unfold iu
 intro h
 rw[List.append_eq_nil_iff]at h
 have h1:=List.map_eq_nil_iff.1 h.1
 have h2:=h.2
 rw[if_pos (.inr h1)]at h2;cases h2
structure MD (f:aC):Prop where
 ok:cv f
 k:kX f.K
 b:∀ m∈f.L,kX m.By
 len:f.L.length≤90000
theorem zh {r:PR} {f:aC} {rest:Tx} (h:Ry r) (e:fH r=dg (jY f)++rest) (hf:MD f) (hs:vQ rest):∃ r',bz r=some (.ret (f,r'))∧Nw r r' rest:=by
 have hter:=tu hf.ok
 have hR:=K9 hf.k hf.b
 have hS:Me ⟨0,[]⟩ (iu f) f:=GE hf.k _ f.L [] (by rw[List.nil_append];exact hf.ok) (by rw[List.nil_append];exact hf.b) (by rw[List.nil_append];exact hf.len) (by rw[List.nil_append])
 have hlen:(iu f).length≤90001:=by
  unfold iu
  have:=hf.len
  rw[List.length_append,List.length_map]
  split<;>simp<;>omega
 unfold jY at e
 cases hT:iu f with
 | nil=>exact absurd hT (DL f)
 | cons x ts=>
  rw[hT]at e hter hR hS hlen
  rw[ui (hter x (by simp))]at e
  have hsg:xQ true x.1=if x.1<0 then[[45]]else[]:=by unfold xQ;simp
  unfold bz
  by_cases hc:x.1<0
  ·have hr:fH r=[45]::(lI x.1 x.2++(dg (qG false ts)++rest)):=by rw[e,hsg,if_pos hc];simp
   obtain⟨_,_,_,_,_,hw⟩:=aU h hr
   rw[qE h hr (by decide),Option.bind_some]
   obtain⟨r',q1,q2⟩:=vo ts fu ⟨0,[]⟩ f x (mI r) rest hw.ok hw.rs hter hR hs hS (by simp only[List.length_cons]at hlen;unfold fu;omega)
   rw[decide_eq_true hc]at q1
   exact⟨r',q1,hw.trans q2⟩
  ·have hr:fH r=lI x.1 x.2++(dg (qG false ts)++rest):=by rw[e,hsg,if_neg hc];simp
   obtain⟨t,q,hb,hns⟩:=Dm (c:=x.1) (hter x (by simp))
   have hno:OE r [45]:=gX (t:=t) (rest:=q++(dg (qG false ts)++rest)) (by rw[hr,hb];rfl) (λh=>hns (by rw[h];decide))
   rw[pG h hno,Option.bind_some]
   obtain⟨r',q1,q2⟩:=vo ts fu ⟨0,[]⟩ f x r rest h hr hter hR hs hS (by simp only[List.length_cons]at hlen;unfold fu;omega)
   rw[decide_eq_false hc]at q1
   exact⟨r',q1,q2⟩
def Pp (l:List aC):Tx:=match l with | []=>[] | x::l=>[44]::dg (cp ((x::l).map jY))
theorem Bi (x:aC) (l:List aC):dg (cp ((x::l).map jY))=dg (jY x)++Pp l:=by
 cases l with
 | nil=>simp[Pp,cp]
 | cons y l=>exact vK jY x y l
theorem I2 (rest:Tx):vQ ([93]::rest):=λt s e=>by injection e with e _;subst e;decide
theorem I3 (rest:Tx):vQ ([44]::rest):=λt s e=>by injection e with e _;subst e;decide
theorem GG (l:List aC) (rest:Tx):vQ (Pp l++[93]::rest):=by
 cases l with
 | nil=>exact I2 rest
 | cons x l=>exact I3 _
theorem xE:∀ (l:List aC) (F:Nat) (out:List aC) (r:PR) (rest:Tx),Ry r→fH r=Pp l++[93]::rest→(∀ f∈l,MD f)→l.length<F→out.length+l.length≤1000000→∃ r',bW F out r=some (.ret (out++l,r'))∧Nw r r' rest
 | _,0,_,_,_,_,_,_,h,_=>absurd h (by omega)
 | [],F+1,out,r,rest,h,e,ho,_,_=>by
  have e':fH r=[93]::rest:=e
  obtain⟨_,_,_,_,_,hw⟩:=aU h e'
  simp only[bW]
  rw[pG h (gX e' (by decide)),Option.bind_some]
  dsimp only
  rw[if_neg (by simp),kI h e' (by decide),aW,List.append_nil]
  exact⟨_,rfl,hw⟩
 | x::l,F+1,out,r,rest,h,e,ho,hF,hl=>by
  have e':fH r=[44]::(dg (jY x)++(Pp l++[93]::rest)):=by rw[e];show[44]::(dg (cp ((x::l).map jY))++[93]::rest)=_;rw[Bi,List.append_assoc]
  obtain⟨_,_,_,_,_,hw⟩:=aU h e'
  simp only[List.length_cons]at hF hl
  obtain⟨r1,e1,hw1⟩:=zh hw.ok hw.rs (ho x (by simp)) (GG l rest)
  simp only[bW]
  rw[qE h e' (by decide),Option.bind_some]
  dsimp only
  rw[if_pos rfl,e1,aW]
  dsimp only
  rw[aR (by simp only[List.length_cons,List.length_nil];omega),Option.bind_some]
  obtain⟨r2,e2,hw2⟩:=xE l F (out++[x]) r1 rest hw1.ok hw1.rs (λf hf=>ho f (by simp[hf])) (by omega) (by simp only[List.length_append,List.length_cons,List.length_nil];omega)
  rw[e2]
  exact⟨r2,by simp,(hw.trans hw1).trans hw2⟩
theorem Hl {l:List aC} {r:PR} {rest:Tx} (h:Ry r) (e:fH r=dg (cp (l.map jY))++[93]::rest) (ho:∀ f∈l,MD f) (hl:l.length≤100000):∃ r',eT r=some (.ret (l,r'))∧Nw r r' rest:=by
 unfold eT
 cases l with
 | nil=>
  have e':fH r=[93]::rest:=e
  obtain⟨_,_,_,_,_,hw⟩:=aU h e'
  rw[qE h e' (by decide)]
  exact⟨_,rfl,hw⟩
 | cons x l=>
  rw[Bi,List.append_assoc]at e
  obtain⟨r1,e1,hw1⟩:=zh h e (ho x (by simp)) (GG l rest)
  obtain⟨t,q,hb,ht,_⟩:=JO (ho x (by simp)).ok (Pp l++[93]::rest)
  rw[pG h (gX (by rw[e];exact hb) ht),Option.bind_some]
  dsimp only
  rw[if_neg (by simp),e1,aW]
  simp only[List.length_cons]at hl
  obtain⟨r2,e2,hw2⟩:=xE l fu [x] r1 rest hw1.ok hw1.rs (λf hf=>ho f (by simp[hf])) (by unfold fu;omega) (by simp;omega)
  exact⟨r2,e2,hw1.trans hw2⟩
end Go.Proofs.YtmhoikfoogemnaaGreatDoor
