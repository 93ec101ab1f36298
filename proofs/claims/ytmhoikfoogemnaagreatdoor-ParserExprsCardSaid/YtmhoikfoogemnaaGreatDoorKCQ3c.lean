import Derived.Test.YtmhoikfoogemnaaGreatDoorKCQ3b
import Derived.Test.YtmhoikfoogemnaaGreatDoorKLfJ
namespace Go.Proofs.YtmhoikfoogemnaaGreatDoor
open Go Go.RowKit Go.Vc
set_option maxRecDepth 100000
set_option maxHeartbeats 4000000
set_option linter.unusedVariables false
set_option linter.unusedSimpArgs false
variable {σ:Type} {C0 F:NP} {w0:World} {a1 a2 a3 a4 a5 a6 a7 a8 a9 a10 a11 a12:Option Addr} {b1 b2 b3 b4 b5 b6 b7 b8 b9 b10 b11 b12 c1 c2 c3 c4 c5 c6 c7 c8 c9 c10 c11 c12:Nat}
theorem uS (hF:dG F w0) {op1:Int} (hc:AllCl [] F w0) {r:Int} (h:kW op1=some r):CR F w0 200 #[vi op1] (vi r) []:=by
 refine EN Tryz.func200 Tryz.ntmps200 hF hc fun hI=> ?_
 rw[kW]at h
 refine T ?_
 refine al (T ?_)
 refine bw (α:=Bool) (fun _=>⟨14,[]⟩) (fun x=>[(3,vi op1),(4,vb x)]) (fun x=>fun w=>∃ C,Bun du F w0 C w [] []∧g9 op1 x=some r) ?_ ?_
 ·clear h hI;rintro i1 w1 ⟨c1,hI,h⟩
  try dsimp only at hI h ⊢
  rw[g9]at h
  refine TR fun hb h=> ?_
  refine bw (α:=Bool) (fun _=>⟨14,[]⟩) (fun x=>[(3,vi op1),(8,vb x)]) (fun x=>fun w=>∃ C,Bun du F w0 C w [] []∧gZ op1 x=some r) ?_ ?_
  ·clear h hI;rintro i2 w2 ⟨c2,hI,h⟩
   try dsimp only at hI h ⊢
   rw[gZ]at h
   refine TR fun hb h=> ?_
   refine TR fun hb h=> ?_
   exact RF
  refine TC (fun hb h=> ?_) fun hb h=> ?_
  ·exact bf (bi (decide (op1=8)) SB BH rfl)
  refine TC (fun hb h=> ?_) fun hb h=> ?_
  ·exact bf (bi (decide (op1=12)) SB BH rfl)
  refine T ?_
  refine aM ?_
  exact kj (decide (op1=18))
 refine TC (fun hb h=> ?_) fun hb h=> ?_
 ·exact bf (bi (decide (op1=1)) SB BH rfl)
 refine TC (fun hb h=> ?_) fun hb h=> ?_
 ·exact bf (bi (decide (op1=2)) SB BH rfl)
 refine T ?_
 refine aM ?_
 exact kj (decide (op1=3))
theorem xG (hF:dG F w0) {x1:GIndex} (hc:AllCl [Cl.sl ai a1 c1 x1.Lin.L,Cl.sl fS a2 c2 x1.At] F w0) {r:Bool} (h:mG x1=some r):CR F w0 201 #[(Value.agg (mO x1 a1 c1 a2 c2))] (vb r) []:=by
 refine EN Tryz.func201 Tryz.ntmps201 hF hc fun hI=> ?_
 rw[mG]at h
 refine sr (lX fun b1 c4 w1 hI=> ?_)
 exact RF
theorem Ax (hF:dG F w0) {e1:GExpr} (hc:AllCl [Cl.sl ai a1 c1 e1.Lin.L,Cl.sl ak a2 c2 e1.Idx,Cl.sl an a3 c3 e1.Args] F w0) {r:Bool} (h:ob e1=some r):CR F w0 146 #[(Value.agg (aq e1 a1 c1 a2 c2 a3 c3))] (vb r) []:=by
 refine EN Tryz.func146 Tryz.ntmps146 hF hc fun hI=> ?_
 rw[ob]at h
 refine sr (lX fun b1 c5 w1 hI=> ?_)
 refine T ?_
 refine al (al (aI [] false (.c (0,.q) (.c (1,.q) (.c (2,.q) (.c (3,.q) (.c (4,.q) (.c (5,.s) (.c (6,.q) (.c (7,.q) (.c (8,.q) (.c (9,.q) (.c (10,.q) (.c (11,.q) (.c (12,.q) .n))))))))))))) hI (by kernel_rfl) (by kernel_rfl) ?_))
 intro w2 hI
 refine V ?_
 obtain⟨r1,hx1,h⟩:=ae h
 refine dC rfl gn rfl (aF (vs:=[vi e1.Op]) rfl GZ ⟨et,trivial⟩) (Calls.mono (uS hI.lt trivial hx1) ?_)
 rintro _ w3 ⟨rfl,hx2,hl1⟩
 refine⟨_,rfl,hx2,?_⟩
 replace hI:=(hI.ext hx2)
 refine V ?_
 refine TR fun hb h=> ?_
 refine T ?_
 have hI:=hI.add (c:=ru (Value.func (.func 201) #[] #[]) mG) ⟨rfl,fun D' w' hs hl x_1 A_2 c_3 A_4 c_5 r k h=>CallV.fn (cap:=[]) GY (xG hl ⟨k.1,k.2.1,trivial⟩ h)⟩
 refine sB h (fun _ k=>dY hI.lt FS k) (Rc Tryz.func196) fun r2 w4 h hI=> ?_
 exact RF
theorem sx (hF:dG F w0) {e1:GExpr} (hc:AllCl [Cl.sl ai a1 c1 e1.Lin.L,Cl.sl ak a2 c2 e1.Idx,Cl.sl an a3 c3 e1.Args] F w0) {r:Bool} (h:kN e1=some r):CR F w0 203 #[(Value.agg (aq e1 a1 c1 a2 c2 a3 c3))] (vb r) []:=by
 refine EN Tryz.func203 Tryz.ntmps203 hF hc fun hI=> ?_
 rw[kN]at h
 refine sr (lX fun b1 c5 w1 hI=> ?_)
 exact RF
theorem pv (hF:dG F w0) {op1 i1:Int} (hc:AllCl [] F w0) {r:Bool} (h:fJ op1 i1=some r):CR F w0 204 #[vi op1,vi i1] (vb r) []:=by
 refine EN Tryz.func204 Tryz.ntmps204 hF hc fun hI=> ?_
 rw[fJ]at h
 refine T ?_
 refine al (T ?_)
 refine al (T ?_)
 refine TC (fun hb h=> ?_) fun hb h=> ?_
 ·refine TR fun hb h=> ?_
  exact RF
 refine TC (fun hb h=> ?_) fun hb h=> ?_
 ·refine TR fun hb h=> ?_
  exact RF
 refine TR fun hb h=> ?_
 exact RF
theorem yV (hF:dG F w0) {e1:GExpr} (hc:AllCl [Cl.sl ai a1 c1 e1.Lin.L,Cl.sl ak a2 c2 e1.Idx,Cl.sl an a3 c3 e1.Args] F w0) {r:Bool} (h:no e1=some r):CR F w0 147 #[(Value.agg (aq e1 a1 c1 a2 c2 a3 c3))] (vb r) []:=by
 refine EN Tryz.func147 Tryz.ntmps147 hF hc fun hI=> ?_
 rw[no]at h
 refine sr (lX fun b1 c5 w1 hI=> ?_)
 refine T ?_
 refine al (T ?_)
 refine az (aT rfl rfl rfl rfl) rfl (fun hc=>(am (l:=(dD e1.Type_)) rfl (aQ et hc) qr rfl cD (hI.kblk (l:=(dD e1.Type_)) .z rfl).1)) ?_
 obtain⟨r1,hx1,h⟩:=ae h
 replace hx1:=ay hx1
 refine sU (fun hc=>jR hI.lt trivial (hx1 hc)) (Rg Tryz.func202) fun w2 hI=> ?_
 refine TR fun hb h=> ?_
 refine T ?_
 refine al (T ?_)
 refine bh (α:=Nat×Int) (fun x=>fun w=>∃ C,Bun du F w0 C w [] [Cl.blk b1 39 (aq e1 a1 c1 a2 c2 a3 c3),Cl.sl ai a1 c1 e1.Lin.L,Cl.sl ak a2 c2 e1.Idx,Cl.sl an a3 c3 e1.Args]∧fR e1 (x.1) (x.2)=some r) (fun x _=>x.1) (fun x=>[(1,vp b1 0),(20,vs a3 e1.Args.length c3),(21,vi (e1.Args.length:Int)),(22,vi (x.2))]) (fu,0) BH SB ?_
 clear h hI;rintro⟨fuel1,i1⟩ w3 ⟨c6,hI,h⟩
 dsimp only at hI h ⊢
 rcases fuel1 with _ | fuel1
 ·rw[fR]at h;cases h
 rw[fR]at h
 refine T ?_
 refine al (vm h et (fun hb h=> ?_) (fun hb h=> ?_))
 ·refine T ?_
  refine al (T ?_)
  obtain⟨e2,hx3,h⟩:=ae h
  obtain⟨ad1,cs1,hA1,hr1,hq1⟩:=hI.clat (.s (.s (.s .z))) hx3
  obtain⟨a4,c7,a5,c8,a6,c9,rfl,hf1,hf2,hf3⟩:=iG hr1
  have hI:=hI.ads hf1
  have hI:=hI.ads hf2
  have hI:=hI.ads hf3
  refine sI ?_
  refine T ?_
  refine lN fun b2 c10 w4 hI=> ?_
  refine sa ?_
  refine lA fun c11 w5 hI=> ?_
  refine nk (al (aI [] false (.c (0,.q) (.c (2,.q) (.c (3,.q) (.c (4,.q) (.c (1,.s) (.c (5,.s) (.c (6,.q) .n))))))) hI (by kernel_rfl) (by kernel_rfl) ?_))
  intro w6 hI
  refine ct rfl gn rfl (fun w' hw'=>(am (l:=(aX e2 a4 c7 a5 c8 a6 c9)) rfl et jT rfl aC ((CA.blk (hI.blk .z) rfl).at_ (SX.any rfl hw')))) (by kernel_rfl) ?_
  refine V ?_
  obtain⟨r2,hx4,h⟩:=ae h
  refine dC rfl gn rfl (aF (vs:=[(Value.agg (aq e2 a4 c7 a5 c8 a6 c9))]) rfl GX ⟨et,trivial⟩) (Calls.mono (sx hI.lt FS hx4) ?_)
  rintro _ w7 ⟨rfl,hx5,hl2⟩
  refine⟨_,rfl,hx5,?_⟩
  replace hI:=(hI.ext hx5)
  obtain⟨r3,hx6,h⟩:=ae h
  refine dC rfl gn rfl (aF (vs:=[vi e1.Op,vi i1]) rfl GW ⟨et,⟨et,trivial⟩⟩) (Calls.mono (pv hI.lt trivial hx6) ?_)
  rintro _ w8 ⟨rfl,hx7,hl3⟩
  refine⟨_,rfl,hx7,?_⟩
  replace hI:=(hI.ext hx7)
  refine l6 rfl gn rfl (fun w'=>Dl rfl u4 et et) ?_
  refine V ?_
  refine TR fun hb h=> ?_
  refine T ?_
  refine aM ?_
  exact kl (fuel1,ar (i1+1))
 refine bk ?_
 refine eU ?_
 refine bb ?_
 exact RF
theorem xh (hF:dG F w0) {n1:Int} (hc:AllCl [] F w0) {r:Bool} (h:nW n1=some r):CR F w0 206 #[vi n1] (vb r) []:=by
 refine EN Tryz.func206 Tryz.ntmps206 hF hc fun hI=> ?_
 rw[nW]at h
 exact RF
theorem xj (hF:dG F w0) {t1:GType} {v1:GVal} (hc:AllCl [] F w0) {r:Bool} (h:mr t1 v1=some r):CR F w0 148 #[(Value.agg (co t1)),(Value.agg (o6 v1))] (vb r) []:=by
 refine EN Tryz.func148 Tryz.ntmps148 hF hc fun hI=> ?_
 rw[mr]at h
 refine sr (lX fun b1 c2 w1 hI=> ?_)
 refine lX fun b2 c4 w2 hI=> ?_
 refine T ?_
 refine al (sr (sq (am (l:=(dD t1)) rfl et qr rfl cD (hI.kblk (l:=(dD t1)) (.s .z) rfl).1) ?_))
 refine sB h (fun _ k=>jR hI.lt trivial k) (Rc Tryz.func202) fun r1 w3 h hI=> ?_
 refine TR fun hb h=> ?_
 refine T ?_
 refine al (T ?_)
 refine TC (fun hb h=> ?_) fun hb h=> ?_
 ·refine sr (sq (am (l:=(dD t1)) rfl et qr rfl cD (hI.kblk (l:=(dD t1)) (.s .z) rfl).1) ?_)
  refine sq (am (l:=(qD v1)) rfl et ES rfl mY (hI.kblk (l:=(qD v1)) .z rfl).1) ?_
  refine sB h (fun _ k=>rU hI.lt trivial k) (Rc Tryz.func205) fun r2 w4 h hI=> ?_
  exact RF
 refine TC (fun hb h=> ?_) fun hb h=> ?_
 ·refine T ?_
  obtain⟨r3,hx5,h⟩:=ae h
  replace hx5:=ay hx5
  refine sU (fun hc=>xh hI.lt trivial (hx5 hc)) (Rg Tryz.func206) fun w5 hI=> ?_
  exact RF
 refine T ?_
 refine sq (am (l:=(qD v1)) rfl et ES rfl mY (hI.kblk (l:=(qD v1)) .z rfl).1) ?_
 refine sB h (fun _ k=>tj hI.lt trivial k) (Rc Tryz.func207) fun r4 w6 h hI=> ?_
 exact RF
theorem yX (hF:dG F w0) {e1:GExpr} (hc:AllCl [Cl.sl ai a1 c1 e1.Lin.L,Cl.sl ak a2 c2 e1.Idx,Cl.sl an a3 c3 e1.Args] F w0) {r:GExpr} (h:nq e1=some r):Cg 149 #[(Value.agg (aq e1 a1 c1 a2 c2 a3 c3))] w0 fun e w=>∃ b1 a4 c4 a5 c5 a6 c6,e= .returned (Value.func (.func 208) #[] #[vp b1 0])∧Ext w0 w∧AllCl [Cl.sl ai a4 c4 r.Lin.L,Cl.sl ak a5 c5 r.Idx,Cl.sl an a6 c6 r.Args,Cl.blk b1 39 (aq r a4 c4 a5 c5 a6 c6)] F w:=by
 refine EN Tryz.func149 Tryz.ntmps149 hF hc fun hI=> ?_
 rw[nq]at h
 refine sr (lX fun b2 c8 w1 hI=> ?_)
 refine T ?_
 refine sq (nJ (vs:=[]) (cap:=[vp b2 0]) rfl rfl ⟨et,trivial⟩) ?_
 refine T ?_
 refine aA ?_
 obtain rfl:=aj h
 refine QG ?_
 exact⟨b2,a1,c1,a2,c2,a3,c3,rfl,hI.ext0,hI.fin ⟨(.s .z),(.s (.s .z)),(.s (.s (.s .z))),.z,trivial⟩⟩
theorem tZ {I:StI σ} {yield1:(GLin→σ→Option (Bool×σ))} {a1:GExpr} {s1:σ} {fv1:Value} (hI:Bun C0 F w0 C0 w0 [MO.st I s1] [og I fv1 yield1,Cl.sl ai a2 c1 a1.Lin.L,Cl.sl ak a3 c2 a1.Idx,Cl.sl an a4 c3 a1.Args,Cl.blk b1 39 (aq a1 a2 c1 a3 c2 a4 c3)]) {r:Unit×σ} (h:ku yield1 a1 s1=some r):Cg 208 #[fv1,vp b1 0] w0 fun e w=>∃ C,e= .returned (Value.tuple #[])∧Bun C0 F w0 C w [MO.st I r.2] []:=by
 refine oN Tryz.func208 rfl Tryz.ntmps208 rfl ?_
 rw[ku]at h
 refine al (sr (sm ?_))
 refine sq (aN rfl et jT rfl bt rfl) ?_
 refine sq (am (l:=(gc a1.Lin a2 c1)) rfl et oy rfl bt (hI.kblk (l:=(gc a1.Lin a2 c1)) (.s (.s (.s (.s .z)))) rfl).1) ?_
 obtain⟨⟨r1,s2⟩,hx1,h⟩:=ae h
 try dsimp only at h
 obtain⟨c4,f1,hB,hl1,hk1⟩:=hI.hands (.l .n)
 refine sE (args:=[(Value.agg (bQ a1.Lin a2 c1))]) gn rfl rfl et ⟨et,trivial⟩ (CallV.mono ((hI.get .z).2 c4 f1 w0 (Sp.less hl1) a1.Lin a2 c1 s1 _ (hB.subs ⟨(.s .z),trivial⟩) hx1) ?_)
 rintro _ w1 ⟨c5,rfl,hB2⟩
 obtain⟨c6,hs1,hI⟩:=hk1 _ _ _ _ hB2
 replace hI:Bun C0 F w0 c6 w1 [MO.st I s2] [og I fv1 yield1,Cl.sl ai a2 c1 a1.Lin.L,Cl.sl ak a3 c2 a1.Idx,Cl.sl an a4 c3 a1.Args,Cl.blk b1 39 (aq a1 a2 c1 a3 c2 a4 c3)]:=hI
 refine⟨_,rfl,?_⟩
 refine sq (xM rfl et) ?_
 refine TC (fun hb h=> ?_) fun hb h=> ?_
 ·refine aA ?_
  obtain rfl:=aj h
  exact eV (vs:=[]) Tryz.results208 trivial ⟨_,rfl,hI.arr GO SU⟩
 refine bf (bb (sr (sq (aN rfl et jT rfl sD rfl) ?_)))
 refine sq (bo (v:=(vs a3 a1.Idx.length c2)) rfl et AF rfl (hI.kblk (l:=[vs a3 a1.Idx.length c2]) (.s (.s (.s (.s .z)))) rfl).1) ?_
 refine sq (nK rfl AF et) ?_
 refine sq (ft rfl ao) ?_
 refine nk (oE (bh (α:=Nat×Int×σ) (fun x=>fun w=>∃ C,Bun C0 F w0 C w [MO.st I (x.2.2)] [og I fv1 yield1,Cl.sl ak a3 c2 a1.Idx]∧bx a1 yield1 (x.1) (x.2.1) (x.2.2)=some r) (fun x _=>x.1) (fun x=>[(0,fv1),(13,vs a3 a1.Idx.length c2),(14,vi (a1.Idx.length:Int)),(15,vi (x.2.1))]) (fu,0,s2) BH SB ?_))
 clear h hI;rintro⟨fuel1,i1,s3⟩ w2 ⟨c7,hI,h⟩
 dsimp only at hI h ⊢
 rcases fuel1 with _ | fuel1
 ·rw[bx]at h;cases h
 rw[bx]at h
 refine sr (sq (qE rfl et et) ?_)
 refine nk (al (vm h et (fun hb h=> ?_) (fun hb h=> ?_)))
 ·refine bf (bb (bw (α:=σ) (fun _=>⟨37,[]⟩) (fun x=>[(0,fv1),(13,vs a3 a1.Idx.length c2),(14,vi (a1.Idx.length:Int)),(15,vi i1)]) (fun x=>fun w=>∃ C,Bun C0 F w0 C w [MO.st I x] [og I fv1 yield1,Cl.sl ak a3 c2 a1.Idx]∧j4 (bx a1 yield1 fuel1) i1 x=some r) ?_ ?_))
  ·clear h hI;rintro s4 w3 ⟨c8,hI,h⟩
   try dsimp only at hI h ⊢
   rw[j4]at h
   refine kz rfl ?_
   refine sq (qo rfl et ao) ?_
   refine sm ?_
   refine aM ?_
   exact kl (fuel1,ar (i1+1),s4)
  refine oE (sr ?_)
  obtain⟨e1,hx2,h⟩:=ae h
  obtain⟨ad1,cs1,hA1,hr1,hq1⟩:=hI.clat (.s .z) hx2
  obtain⟨a5,c9,a6,c10,rfl,hf1,hf2⟩:=hr1
  have hI:=hI.ads hf1
  have hI:=hI.ads hf2
  refine sq (iW rfl AF oG et et (oI hx2) hA1) ?_
  refine sq (am (l:=(qK e1 a5 c9 a6 c10)) rfl et ux rfl oG hq1.1) ?_
  refine lN fun b2 c11 w4 hI=> ?_
  refine lA fun c12 w5 hI=> ?_
  refine nk (al (sr (sm ?_)))
  refine sq (aN rfl et ux rfl bt rfl) ?_
  refine sq (am (l:=(gc e1.Lin a5 c9)) rfl et oy rfl bt (CellsAt.of_blk (hI.blk .z) rfl)) ?_
  obtain⟨⟨r2,s5⟩,hx3,h⟩:=ae h
  try dsimp only at h
  obtain⟨c13,f2,hB,hl2,hk2⟩:=hI.hands (.r (.l .n))
  refine sE (args:=[(Value.agg (bQ e1.Lin a5 c9))]) gn rfl rfl et ⟨et,trivial⟩ (CallV.mono ((hI.get (.s (.s .z))).2 c13 f2 w5 (Sp.less hl2) e1.Lin a5 c9 s3 _ (hB.subs ⟨(.s .z),trivial⟩) hx3) ?_)
  rintro _ w6 ⟨c14,rfl,hB2⟩
  obtain⟨c15,hs2,hI⟩:=hk2 _ _ _ _ hB2
  replace hI:Bun C0 F w0 c15 w6 [MO.st I s5,MO.box b2 132 (mO e1 a5 c9 a6 c10)] [Cl.sl fS a6 c10 e1.At,Cl.sl ai a5 c9 e1.Lin.L,og I fv1 yield1,Cl.sl ak a3 c2 a1.Idx]:=hI
  refine⟨_,rfl,?_⟩
  refine sq (xM rfl et) ?_
  refine TC (fun hb h=> ?_) fun hb h=> ?_
  ·refine aA ?_
   obtain rfl:=aj h
   exact eV (vs:=[]) Tryz.results208 trivial ⟨_,rfl,hI.arr GO SU⟩
  refine bf (bb (sr (sq (aN rfl et ux rfl BM rfl) ?_)))
  refine sq (bo (v:=(vs a6 e1.At.length c10)) rfl et FU rfl (CellsAt.of_blk (hI.blk (.s .z)) rfl)) ?_
  refine sq (nK rfl FU et) ?_
  refine sq (ft rfl ao) ?_
  refine nk (oE (bh (α:=Nat×Int×σ) (fun x=>fun w=>∃ C,Bun C0 F w0 C w [MO.st I (x.2.2)] [og I fv1 yield1,Cl.sl ak a3 c2 a1.Idx,Cl.sl fS a6 c10 e1.At]∧dp e1 yield1 (bx a1 yield1 fuel1) i1 (x.1) (x.2.1) (x.2.2)=some r) (fun x _=>x.1) (fun x=>[(0,fv1),(13,vs a3 a1.Idx.length c2),(14,vi (a1.Idx.length:Int)),(15,vi i1),(25,vs a6 e1.At.length c10),(26,vi (e1.At.length:Int)),(27,vi (x.2.1))]) (fu,0,s5) BH SB ?_))
  clear h hI;rintro⟨fuel2,i2,s6⟩ w7 ⟨c16,hI,h⟩
  dsimp only at hI h ⊢
  rcases fuel2 with _ | fuel2
  ·rw[dp]at h;cases h
  rw[dp]at h
  refine sr (sq (qE rfl et et) ?_)
  refine nk (al (vm h et (fun hb h=> ?_) (fun hb h=> ?_)))
  ·refine bf (bb (al (oE (sr ?_))))
   obtain⟨e2,hx4,h⟩:=ae h
   obtain⟨ad2,cs2,hA2,hr2,hq2⟩:=hI.clat (.s (.s .z)) hx4
   obtain⟨a7,c17,rfl,hf3⟩:=hr2
   have hI:=hI.ads hf3
   refine sq (iW rfl FU bt et et (oI hx4) hA2) ?_
   refine sq (am (l:=(gc e2 a7 c17)) rfl et oy rfl bt hq2.1) ?_
   refine lN fun b3 c18 w8 hI=> ?_
   refine lA fun c19 w9 hI=> ?_
   refine nk (sr (sm ?_))
   refine sq (am (l:=(gc e2 a7 c17)) rfl et oy rfl bt (CellsAt.of_blk (hI.blk .z) rfl)) ?_
   obtain⟨⟨r3,s7⟩,hx5,h⟩:=ae h
   try dsimp only at h
   obtain⟨c20,f3,hB,hl3,hk3⟩:=hI.hands (.r (.l .n))
   refine sE (args:=[(Value.agg (bQ e2 a7 c17))]) gn rfl rfl et ⟨et,trivial⟩ (CallV.mono ((hI.get (.s .z)).2 c20 f3 w9 (Sp.less hl3) e2 a7 c17 s6 _ (hB.subs ⟨.z,trivial⟩) hx5) ?_)
   rintro _ w10 ⟨c21,rfl,hB2⟩
   obtain⟨c22,hs3,hI⟩:=hk3 _ _ _ _ hB2
   replace hI:Bun C0 F w0 c22 w10 [MO.st I s7,MO.box b3 27 (bQ e2 a7 c17)] [Cl.sl ai a7 c17 e2.L,og I fv1 yield1,Cl.sl ak a3 c2 a1.Idx,Cl.sl fS a6 c10 e1.At]:=hI
   refine⟨_,rfl,?_⟩
   refine sq (xM rfl et) ?_
   refine TC (fun hb h=> ?_) fun hb h=> ?_
   ·refine aA ?_
    obtain rfl:=aj h
    exact eV (vs:=[]) Tryz.results208 trivial ⟨_,rfl,hI.arr GO SU⟩
   refine bf (bb (kz rfl ?_))
   refine sq (qo rfl et ao) ?_
   refine sm ?_
   refine aM ?_
   exact kl (fuel2,ar (i2+1),s7)
  refine bk ?_
  refine eU ?_
  exact kj s6
 refine bk ?_
 refine eU ?_
 obtain rfl:=aj h
 exact eV (vs:=[]) Tryz.results208 trivial ⟨_,rfl,hI.arr GO SU⟩
theorem tY (hF:dG F w0) {e1:GExpr} (hc:AllCl [Cl.sl ai a1 c1 e1.Lin.L,Cl.sl ak a2 c2 e1.Idx,Cl.sl an a3 c3 e1.Args,av] F w0) {r:Int} (h:kq e1=some r):CR F w0 79 #[(Value.agg (aq e1 a1 c1 a2 c2 a3 c3))] (vi r) []:=by
 refine EN Tryz.func79 Tryz.ntmps79 hF hc fun hI=> ?_
 rw[kq]at h
 refine sr (lX fun b1 c5 w1 hI=> ?_)
 refine lN fun b2 c6 w2 hI=> ?_
 refine nk (al (T ?_))
 refine sq (am (l:=(aX e1 a1 c1 a2 c2 a3 c3)) rfl et jT rfl aC (hI.kblk (l:=(aX e1 a1 c1 a2 c2 a3 c3)) .z rfl).1) ?_
 refine sB h (fun _ k=>xF hI.lt FS k) (Rc Tryz.func144) fun r1 w3 h hI=> ?_
 refine TC (fun hb h=> ?_) fun hb h=> ?_
 ·refine sr (ba (new:=[vi 5]) (cs':=#[vi 5]) hI .z gn rfl rfl et ao rfl jK rfl rfl rfl ?_)
  intro c7 w4 hI
  refine nk (aA ?_)
  obtain rfl:=aj h
  exact eV (vs:=[vi 5]) Tryz.results79 ⟨⟨_,aK rfl rfl,kw (v:=(vi 5)) AG rfl (CellsAt.of_blk (hI.blk .z) rfl)⟩,trivial⟩ (fq hI trivial)
 refine sr (sq (am (l:=(aX e1 a1 c1 a2 c2 a3 c3)) rfl et jT rfl aC (hI.kblk (l:=(aX e1 a1 c1 a2 c2 a3 c3)) .z rfl).1) ?_)
 refine sB h (fun _ k=>yW hI.lt FS k) (Rc Tryz.func145) fun r2 w5 h hI=> ?_
 refine TC (fun hb h=> ?_) fun hb h=> ?_
 ·refine sr (ba (new:=[vi 7]) (cs':=#[vi 7]) hI .z gn rfl rfl et ao rfl jK rfl rfl rfl ?_)
  intro c8 w6 hI
  refine nk (aA ?_)
  obtain rfl:=aj h
  exact eV (vs:=[vi 7]) Tryz.results79 ⟨⟨_,aK rfl rfl,kw (v:=(vi 7)) AG rfl (CellsAt.of_blk (hI.blk .z) rfl)⟩,trivial⟩ (fq hI trivial)
 refine sr (sq (am (l:=(aX e1 a1 c1 a2 c2 a3 c3)) rfl et jT rfl aC (hI.kblk (l:=(aX e1 a1 c1 a2 c2 a3 c3)) .z rfl).1) ?_)
 refine sB h (fun _ k=>Ax hI.lt FS k) (Rc Tryz.func146) fun r3 w7 h hI=> ?_
 refine TC (fun hb h=> ?_) fun hb h=> ?_
 ·refine sr (ba (new:=[vi 11]) (cs':=#[vi 11]) hI .z gn rfl rfl et ao rfl jK rfl rfl rfl ?_)
  intro c9 w8 hI
  refine nk (aA ?_)
  obtain rfl:=aj h
  exact eV (vs:=[vi 11]) Tryz.results79 ⟨⟨_,aK rfl rfl,kw (v:=(vi 11)) AG rfl (CellsAt.of_blk (hI.blk .z) rfl)⟩,trivial⟩ (fq hI trivial)
 refine sr (sq (am (l:=(aX e1 a1 c1 a2 c2 a3 c3)) rfl et jT rfl aC (hI.kblk (l:=(aX e1 a1 c1 a2 c2 a3 c3)) .z rfl).1) ?_)
 refine sB h (fun _ k=>yV hI.lt FS k) (Rc Tryz.func147) fun r4 w9 h hI=> ?_
 refine TC (fun hb h=> ?_) fun hb h=> ?_
 ·refine sr (ba (new:=[vi 10]) (cs':=#[vi 10]) hI .z gn rfl rfl et ao rfl jK rfl rfl rfl ?_)
  intro c10 w10 hI
  refine nk (aA ?_)
  obtain rfl:=aj h
  exact eV (vs:=[vi 10]) Tryz.results79 ⟨⟨_,aK rfl rfl,kw (v:=(vi 10)) AG rfl (CellsAt.of_blk (hI.blk .z) rfl)⟩,trivial⟩ (fq hI trivial)
 refine T ?_
 refine az (aT rfl rfl rfl rfl) rfl (fun hc=>(am (l:=(dD e1.Type_)) rfl (aQ et hc) qr rfl cD (hI.kblk (l:=(dD e1.Type_)) .z rfl).1)) ?_
 refine T ?_
 refine az (aT rfl rfl rfl rfl) rfl (fun hc=>(am (l:=(qD e1.Val)) rfl (aQ et hc) ES rfl mY (hI.kblk (l:=(qD e1.Val)) .z rfl).1)) ?_
 obtain⟨r5,hx9,h⟩:=ae h
 replace hx9:=ay hx9
 refine sU (fun hc=>xj hI.lt trivial (hx9 hc)) (Rg Tryz.func148) fun w11 hI=> ?_
 refine TC (fun hb h=> ?_) fun hb h=> ?_
 ·refine sr (ba (new:=[vi 1]) (cs':=#[vi 1]) hI .z gn rfl rfl et ao rfl jK rfl rfl rfl ?_)
  intro c11 w12 hI
  refine nk (aA ?_)
  obtain rfl:=aj h
  exact eV (vs:=[vi 1]) Tryz.results79 ⟨⟨_,aK rfl rfl,kw (v:=(vi 1)) AG rfl (CellsAt.of_blk (hI.blk .z) rfl)⟩,trivial⟩ (fq hI trivial)
 refine T ?_
 refine al (sr (sq (am (l:=(aX e1 a1 c1 a2 c2 a3 c3)) rfl et jT rfl aC (hI.kblk (l:=(aX e1 a1 c1 a2 c2 a3 c3)) .z rfl).1) ?_))
 obtain⟨r6,hx11,h⟩:=ae h
 refine aB gn rfl (Rc Tryz.func149) (Calls.mono (yX hI.lt FS hx11) ?_)
 rintro _ w13 ⟨b3,a4,c12,a5,c13,a6,c14,rfl,hx12,hl6⟩
 refine⟨_,rfl,?_⟩
 replace hI:=(hI.ext hx12).adds hl6;dsimp only[ca,na]at hI
 refine T ?_
 refine qV [Code.ret] hI et GV (fun l1 q1 fn1 tm1 rc1 hrc1 c16 w15 hE1 hI=> ?_)
 obtain⟨c17,f1,hB,hl7,hk1⟩:=hI.hands (.l (.r (.l .n)))
 have hB:Bun c17 f1 w15 c17 w15 [MO.st (StI.loop l1 rc1 (fun(s:Int) (b:Unit)=>[MO.box b2 28 #[vi s]]) (fun(s:Int) (b:Unit)=>[Cl.blk b3 39 (aq r6 a4 c12 a5 c13 a6 c14),Cl.sl ai a4 c12 r6.Lin.L,Cl.sl ak a5 c13 r6.Idx,Cl.sl an a6 c14 r6.Args,av])) (0,0)] _:=Bun.mkst (b:=()) hB ⟨(.s (.s (.s .z))),.z,(.s .z),(.s (.s .z)),(.s (.s (.s (.s (.s (.s (.s (.s .z)))))))),trivial⟩
 have hY1:fnS_k7 (StI.loop l1 rc1 (fun(s:Int) (b:Unit)=>[MO.box b2 28 #[vi s]]) (fun(s:Int) (b:Unit)=>[Cl.blk b3 39 (aq r6 a4 c12 a5 c13 a6 c14),Cl.sl ai a4 c12 r6.Lin.L,Cl.sl ak a5 c13 r6.Idx,Cl.sl an a6 c14 r6.Args,av])) (Value.func (.yield l1) #[] #[]) (fun k_0 q=>if q.1=0 then ee k_0 q.2 else none) (Dj f1 c17) w15:=by
  refine⟨rfl,fun C0 F w0 _=> ?_⟩
  rintro y1 a7 c18 ⟨o_,v1⟩ r hB h
  replace h:o_=0∧ee y1 v1=some r:=eF h
  have ho_:=h.1;subst ho_;replace h:=h.2
  rw[ee]at h
  obtain⟨_,hI⟩:=Bun.unst hB
  subst hrc1
  dsimp only[ca,na]at hI
  clear hB
  refine qR hI rfl (sg (hE1 ⟨38,[]⟩ rfl rfl)) ?_
  refine T ?_
  refine lN fun b4 c19 w16 hI=> ?_
  refine lA fun c20 w17 hI=> ?_
  refine aM (yx hI (.s .z) (fun c21 w18 hI=> ?_))
  refine T ?_
  refine sB h (fun _ k=>nz hI.lt FS k) (Rc Tryz.func122) fun r7 w19 h hI=> ?_
  refine TC (fun hb h=> ?_) fun hb h=> ?_
  ·refine sr (ba (new:=[vi 1]) (cs':=#[vi 1]) hI (.s (.s .z)) gn rfl rfl et ao rfl jK rfl rfl rfl ?_)
   intro c22 w20 hI
   refine nk (aA ?_)
   obtain rfl:=aj h
   exact fun _ _=>rq (js:=[Code.ret]) (oS:=(fun(s:Int) (b:Unit)=>[MO.box b2 28 #[vi s]])) (cS:=(fun(s:Int) (b:Unit)=>[Cl.blk b3 39 (aq r6 a4 c12 a5 c13 a6 c14),Cl.sl ai a4 c12 r6.Lin.L,Cl.sl ak a5 c13 r6.Idx,Cl.sl an a6 c14 r6.Args,av])) (out:=1) (s:=1) (b:=()) (hI.arr GO SU) rfl (fun C w hB=>⟨C,rfl,hB⟩)
  refine bf ?_
  obtain rfl:=aj h
  exact fun _ _=>rq (js:=[Code.ret]) (oS:=(fun(s:Int) (b:Unit)=>[MO.box b2 28 #[vi s]])) (cS:=(fun(s:Int) (b:Unit)=>[Cl.blk b3 39 (aq r6 a4 c12 a5 c13 a6 c14),Cl.sl ai a4 c12 r6.Lin.L,Cl.sl ak a5 c13 r6.Idx,Cl.sl an a6 c14 r6.Args,av])) (out:=0) (s:=v1) (b:=()) (hI.arr GO SU) rfl (fun C w hB=>⟨C,rfl,hB⟩)
 obtain⟨⟨u1,o1,v2⟩,hx15,h⟩:=ae h
 try dsimp only at h
 refine Calls.mono (tZ ((hB.add (c:=og (StI.loop l1 rc1 (fun(s:Int) (b:Unit)=>[MO.box b2 28 #[vi s]]) (fun(s:Int) (b:Unit)=>[Cl.blk b3 39 (aq r6 a4 c12 a5 c13 a6 c14),Cl.sl ai a4 c12 r6.Lin.L,Cl.sl ak a5 c13 r6.Idx,Cl.sl an a6 c14 r6.Args,av])) (Value.func (.yield l1) #[] #[]) (fun k_0 q=>if q.1=0 then ee k_0 q.2 else none)) hY1).subs ⟨.z,(.s .z),(.s (.s .z)),(.s (.s (.s .z))),(.s (.s (.s (.s .z)))),trivial⟩) hx15) ?_
 rintro _ w22 ⟨c24,rfl,hB2⟩
 obtain⟨_,hB2⟩:=Bun.unst hB2
 subst hrc1
 refine HN hk1 hB2 fun c25 hI=> ?_
 refine⟨_,rfl,tM hI .z (fun c26 w23 hI=> ?_)⟩
 by_cases hz1:o1=0
 ·subst hz1;rw[if_pos rfl]at h
  refine bb (sr (ba (new:=[vi 0]) (cs':=#[vi 0]) hI (.s .z) gn rfl rfl et ao rfl jK rfl rfl rfl ?_))
  intro c27 w24 hI
  refine nk (aA ?_)
  obtain⟨w25,hs2,c28,hI⟩:∃ w2,pO Tryz.prog [q1] w24 w2∧∃ C,Bun du F w0 C w2 [MO.obj l1 _,MO.box b2 28 #[vi 0],MO.obj q1 (.deferred none)] [Cl.blk b3 39 (aq r6 a4 c12 a5 c13 a6 c14),Cl.sl ai a4 c12 r6.Lin.L,Cl.sl ak a5 c13 r6.Idx,Cl.sl an a6 c14 r6.Args,av,Cl.sl ai a4 c12 r6.Lin.L,Cl.sl ak a5 c13 r6.Idx,Cl.sl an a6 c14 r6.Args,Cl.blk b3 39 (aq r6 a4 c12 a5 c13 a6 c14),Cl.blk b1 39 (aq e1 a1 c1 a2 c2 a3 c3),Cl.sl ai a1 c1 e1.Lin.L,Cl.sl ak a2 c2 e1.Idx,Cl.sl an a3 c3 e1.Args,av]:=hI.shut (.s (.s .z)) fun C w hI=>py ⟨_,hI⟩
  obtain rfl:=aj h
  exact sc (vs:=[vi 0]) hs2 Tryz.results79 ⟨⟨_,aK rfl rfl,kw (v:=(vi 0)) AG rfl (CellsAt.of_blk (hI.blk (.s .z)) rfl)⟩,trivial⟩ (fq hI trivial)
 rw[if_neg hz1]at h
 by_cases hz2:o1=1
 ·subst hz2;rw[if_pos rfl]at h
  refine aA ?_
  obtain⟨w26,hs3,c29,hI⟩:∃ w2,pO Tryz.prog [q1] w23 w2∧∃ C,Bun du F w0 C w2 [MO.obj l1 _,MO.box b2 28 #[vi v2],MO.obj q1 (.deferred none)] [Cl.blk b3 39 (aq r6 a4 c12 a5 c13 a6 c14),Cl.sl ai a4 c12 r6.Lin.L,Cl.sl ak a5 c13 r6.Idx,Cl.sl an a6 c14 r6.Args,av,Cl.sl ai a4 c12 r6.Lin.L,Cl.sl ak a5 c13 r6.Idx,Cl.sl an a6 c14 r6.Args,Cl.blk b3 39 (aq r6 a4 c12 a5 c13 a6 c14),Cl.blk b1 39 (aq e1 a1 c1 a2 c2 a3 c3),Cl.sl ai a1 c1 e1.Lin.L,Cl.sl ak a2 c2 e1.Idx,Cl.sl an a3 c3 e1.Args,av]:=hI.shut (.s (.s .z)) fun C w hI=>py ⟨_,hI⟩
  obtain rfl:=aj h
  exact sc (vs:=[vi v2]) hs3 Tryz.results79 ⟨⟨_,aK rfl rfl,kw (v:=(vi v2)) AG rfl (CellsAt.of_blk (hI.blk (.s .z)) rfl)⟩,trivial⟩ (fq hI trivial)
 rw[if_neg hz2]at h
 cases h
theorem uT (hF:dG F w0) {e1:GExpr} (hc:AllCl [Cl.sl ai a1 c1 e1.Lin.L,Cl.sl ak a2 c2 e1.Idx,Cl.sl an a3 c3 e1.Args,av] F w0) {r:Int} (h:iF e1=some r):CR F w0 35 #[(Value.agg (aq e1 a1 c1 a2 c2 a3 c3))] (vi r) []:=by
 refine EN Tryz.func35 Tryz.ntmps35 hF hc fun hI=> ?_
 rw[iF]at h
 refine sr (lX fun b1 c5 w1 hI=> ?_)
 refine lN fun b2 c6 w2 hI=> ?_
 refine nk (al (sr (sq (am (l:=(aX e1 a1 c1 a2 c2 a3 c3)) rfl et jT rfl aC (hI.kblk (l:=(aX e1 a1 c1 a2 c2 a3 c3)) .z rfl).1) ?_)))
 refine sB h (fun _ k=>yZ hI.lt FS k) (Rc Tryz.func76) fun r1 w3 h hI=> ?_
 refine TC (fun hb h=> ?_) fun hb h=> ?_
 ·refine sr (ba (new:=[vi 13]) (cs':=#[vi 13]) hI .z gn rfl rfl et ao rfl jK rfl rfl rfl ?_)
  intro c7 w4 hI
  refine nk (aA ?_)
  obtain rfl:=aj h
  exact eV (vs:=[vi 13]) Tryz.results35 ⟨⟨_,aK rfl rfl,kw (v:=(vi 13)) AG rfl (CellsAt.of_blk (hI.blk .z) rfl)⟩,trivial⟩ (fq hI trivial)
 refine T ?_
 refine al (sr (sq (am (l:=(aX e1 a1 c1 a2 c2 a3 c3)) rfl et jT rfl aC (hI.kblk (l:=(aX e1 a1 c1 a2 c2 a3 c3)) .z rfl).1) ?_))
 refine sB h (fun _ k=>Ay hI.lt FS k) (Rc Tryz.func77) fun r2 w5 h hI=> ?_
 refine TC (fun hb h=> ?_) fun hb h=> ?_
 ·refine sr (ba (new:=[vi 2]) (cs':=#[vi 2]) hI .z gn rfl rfl et ao rfl jK rfl rfl rfl ?_)
  intro c8 w6 hI
  refine nk (aA ?_)
  obtain rfl:=aj h
  exact eV (vs:=[vi 2]) Tryz.results35 ⟨⟨_,aK rfl rfl,kw (v:=(vi 2)) AG rfl (CellsAt.of_blk (hI.blk .z) rfl)⟩,trivial⟩ (fq hI trivial)
 refine T ?_
 refine al (sr (sq (am (l:=(aX e1 a1 c1 a2 c2 a3 c3)) rfl et jT rfl aC (hI.kblk (l:=(aX e1 a1 c1 a2 c2 a3 c3)) .z rfl).1) ?_))
 obtain⟨r3,hx5,h⟩:=ae h
 refine aB gn rfl (Rc Tryz.func78) (Calls.mono (uw hI.lt FS hx5) ?_)
 rintro _ w7 ⟨b3,a4,c9,a5,c10,a6,c11,rfl,hx6,hl3⟩
 refine⟨_,rfl,?_⟩
 replace hI:=(hI.ext hx6).adds hl3;dsimp only[ca,na]at hI
 refine T ?_
 refine qV [Code.ret] hI et D8 (fun l1 q1 fn1 tm1 rc1 hrc1 c13 w9 hE1 hI=> ?_)
 obtain⟨c14,f1,hB,hl4,hk1⟩:=hI.hands (.l (.r (.l .n)))
 have hB:Bun c14 f1 w9 c14 w9 [MO.st (StI.loop l1 rc1 (fun(s:Int) (b:Unit)=>[MO.box b2 28 #[vi s]]) (fun(s:Int) (b:Unit)=>[Cl.blk b3 39 (aq r3 a4 c9 a5 c10 a6 c11),Cl.sl ai a4 c9 r3.Lin.L,Cl.sl ak a5 c10 r3.Idx,Cl.sl an a6 c11 r3.Args,av])) (0,0)] _:=Bun.mkst (b:=()) hB ⟨(.s (.s (.s .z))),.z,(.s .z),(.s (.s .z)),(.s (.s (.s (.s (.s (.s (.s (.s .z)))))))),trivial⟩
 have hY1:fnS_k5 (StI.loop l1 rc1 (fun(s:Int) (b:Unit)=>[MO.box b2 28 #[vi s]]) (fun(s:Int) (b:Unit)=>[Cl.blk b3 39 (aq r3 a4 c9 a5 c10 a6 c11),Cl.sl ai a4 c9 r3.Lin.L,Cl.sl ak a5 c10 r3.Idx,Cl.sl an a6 c11 r3.Args,av])) (Value.func (.yield l1) #[] #[]) (fun k_0 q=>if q.1=0 then dR k_0 q.2 else none) (Dj f1 c14) w9:=by
  refine⟨rfl,fun C0 F w0 _=> ?_⟩
  rintro y1 a7 c15 a8 c16 a9 c17 ⟨o_,v1⟩ r hB h
  replace h:o_=0∧dR y1 v1=some r:=eF h
  have ho_:=h.1;subst ho_;replace h:=h.2
  rw[dR]at h
  obtain⟨_,hI⟩:=Bun.unst hB
  subst hrc1
  dsimp only[ca,na]at hI
  clear hB
  refine qR hI rfl (sg (hE1 ⟨19,[]⟩ rfl rfl)) ?_
  refine T ?_
  refine lN fun b4 c18 w10 hI=> ?_
  refine lA fun c19 w11 hI=> ?_
  refine aM (yx hI (.s .z) (fun c20 w12 hI=> ?_))
  refine T ?_
  refine sB h (fun _ k=>tY hI.lt FS k) (Rc Tryz.func79) fun r4 w13 h hI=> ?_
  refine TC (fun hb h=> ?_) fun hb h=> ?_
  ·refine T ?_
   refine lS fun c21 w14 hI=> ?_
   refine nk (aA ?_)
   obtain rfl:=aj h
   exact fun _ _=>rq (js:=[Code.ret]) (oS:=(fun(s:Int) (b:Unit)=>[MO.box b2 28 #[vi s]])) (cS:=(fun(s:Int) (b:Unit)=>[Cl.blk b3 39 (aq r3 a4 c9 a5 c10 a6 c11),Cl.sl ai a4 c9 r3.Lin.L,Cl.sl ak a5 c10 r3.Idx,Cl.sl an a6 c11 r3.Args,av])) (out:=1) (s:=r4) (b:=()) (hI.arr GO SU) rfl (fun C w hB=>⟨C,rfl,hB⟩)
  refine bf ?_
  obtain rfl:=aj h
  exact fun _ _=>rq (js:=[Code.ret]) (oS:=(fun(s:Int) (b:Unit)=>[MO.box b2 28 #[vi s]])) (cS:=(fun(s:Int) (b:Unit)=>[Cl.blk b3 39 (aq r3 a4 c9 a5 c10 a6 c11),Cl.sl ai a4 c9 r3.Lin.L,Cl.sl ak a5 c10 r3.Idx,Cl.sl an a6 c11 r3.Args,av])) (out:=0) (s:=v1) (b:=()) (hI.arr GO SU) rfl (fun C w hB=>⟨C,rfl,hB⟩)
 obtain⟨⟨u1,o1,v2⟩,hx9,h⟩:=ae h
 try dsimp only at h
 refine Calls.mono (qA ((hB.add (c:=pC (StI.loop l1 rc1 (fun(s:Int) (b:Unit)=>[MO.box b2 28 #[vi s]]) (fun(s:Int) (b:Unit)=>[Cl.blk b3 39 (aq r3 a4 c9 a5 c10 a6 c11),Cl.sl ai a4 c9 r3.Lin.L,Cl.sl ak a5 c10 r3.Idx,Cl.sl an a6 c11 r3.Args,av])) (Value.func (.yield l1) #[] #[]) (fun k_0 q=>if q.1=0 then dR k_0 q.2 else none)) hY1).subs ⟨.z,(.s .z),(.s (.s .z)),(.s (.s (.s .z))),(.s (.s (.s (.s .z)))),trivial⟩) hx9) ?_
 rintro _ w16 ⟨c23,rfl,hB2⟩
 obtain⟨_,hB2⟩:=Bun.unst hB2
 subst hrc1
 refine HN hk1 hB2 fun c24 hI=> ?_
 refine⟨_,rfl,tM hI .z (fun c25 w17 hI=> ?_)⟩
 by_cases hz1:o1=0
 ·subst hz1;rw[if_pos rfl]at h
  refine bb (sr (ba (new:=[vi 0]) (cs':=#[vi 0]) hI (.s .z) gn rfl rfl et ao rfl jK rfl rfl rfl ?_))
  intro c26 w18 hI
  refine nk (aA ?_)
  obtain⟨w19,hs2,c27,hI⟩:∃ w2,pO Tryz.prog [q1] w18 w2∧∃ C,Bun du F w0 C w2 [MO.obj l1 _,MO.box b2 28 #[vi 0],MO.obj q1 (.deferred none)] [Cl.blk b3 39 (aq r3 a4 c9 a5 c10 a6 c11),Cl.sl ai a4 c9 r3.Lin.L,Cl.sl ak a5 c10 r3.Idx,Cl.sl an a6 c11 r3.Args,av,Cl.sl ai a4 c9 r3.Lin.L,Cl.sl ak a5 c10 r3.Idx,Cl.sl an a6 c11 r3.Args,Cl.blk b3 39 (aq r3 a4 c9 a5 c10 a6 c11),Cl.blk b1 39 (aq e1 a1 c1 a2 c2 a3 c3),Cl.sl ai a1 c1 e1.Lin.L,Cl.sl ak a2 c2 e1.Idx,Cl.sl an a3 c3 e1.Args,av]:=hI.shut (.s (.s .z)) fun C w hI=>py ⟨_,hI⟩
  obtain rfl:=aj h
  exact sc (vs:=[vi 0]) hs2 Tryz.results35 ⟨⟨_,aK rfl rfl,kw (v:=(vi 0)) AG rfl (CellsAt.of_blk (hI.blk (.s .z)) rfl)⟩,trivial⟩ (fq hI trivial)
 rw[if_neg hz1]at h
 by_cases hz2:o1=1
 ·subst hz2;rw[if_pos rfl]at h
  refine aA ?_
  obtain⟨w20,hs3,c28,hI⟩:∃ w2,pO Tryz.prog [q1] w17 w2∧∃ C,Bun du F w0 C w2 [MO.obj l1 _,MO.box b2 28 #[vi v2],MO.obj q1 (.deferred none)] [Cl.blk b3 39 (aq r3 a4 c9 a5 c10 a6 c11),Cl.sl ai a4 c9 r3.Lin.L,Cl.sl ak a5 c10 r3.Idx,Cl.sl an a6 c11 r3.Args,av,Cl.sl ai a4 c9 r3.Lin.L,Cl.sl ak a5 c10 r3.Idx,Cl.sl an a6 c11 r3.Args,Cl.blk b3 39 (aq r3 a4 c9 a5 c10 a6 c11),Cl.blk b1 39 (aq e1 a1 c1 a2 c2 a3 c3),Cl.sl ai a1 c1 e1.Lin.L,Cl.sl ak a2 c2 e1.Idx,Cl.sl an a3 c3 e1.Args,av]:=hI.shut (.s (.s .z)) fun C w hI=>py ⟨_,hI⟩
  obtain rfl:=aj h
  exact sc (vs:=[vi v2]) hs3 Tryz.results35 ⟨⟨_,aK rfl rfl,kw (v:=(vi v2)) AG rfl (CellsAt.of_blk (hI.blk (.s .z)) rfl)⟩,trivial⟩ (fq hI trivial)
 rw[if_neg hz2]at h
 cases h
theorem iz {r1:aa} (hI:Bun C0 F w0 C0 w0 [MO.box b1 67 (af r1 a1 c1)] [Cl.sl ag a1 c1 r1.l]) {r:bz (Unit×aa)} (h:bO r1=some r):CP C0 F w0 194 #[vp b1 0] r fun rx e w=>∃ a2 c2 C,e= .returned (Value.tuple #[])∧Bun C0 F w0 C w [MO.box b1 67 (af rx.2 a2 c2)] [Cl.sl ag a2 c2 rx.2.l]:=by
 refine fU (l:=[vp b1 0]) Tryz.func194 rfl Tryz.ntmps194 rfl ?_
 rw[bO]at h
 refine bw (α:=Unit) (fun _=>⟨27,[]⟩) (fun _=>[(0,vp b1 0)]) (fun _=>fun w=>∃ C,Bun C0 F w0 C w [MO.box b1 67 (af r1 a1 c1)] [Cl.sl ag a1 c1 r1.l]∧eN r1=some r) ?_ ?_
 ·clear h hI;rintro _ w1 ⟨c3,hI,h⟩
  try dsimp only at hI h ⊢
  rw[eN]at h
  refine T ?_
  refine lS fun c4 w2 hI=> ?_
  refine T ?_
  refine lS fun c5 w3 hI=> ?_
  refine aM ?_
  obtain rfl:=aj h
  refine QG ?_
  exact .inl ⟨_,rfl,a1,c1,_,rfl,hI.arr GO SU⟩
 refine TC (fun hb h=> ?_) fun hb h=> ?_
 ·refine T ?_
  rcases iM h with⟨r2,hx1,h⟩ | ⟨pa_,pn_,hx1,hp_⟩
  rotate_left
  ·subst hp_
   refine nU gn rfl (aF (vs:=[vp b1 0,vi r1.at_,vi 13]) rfl sO ⟨et,⟨et,⟨ao,trivial⟩⟩⟩) (Calls.mono (aU NE ⟨(hI.get0 .z),hI.lendBox .z,trivial⟩ hx1) ?_)
   intro e_ w_ hq_;obtain⟨rfl,hx_⟩:=eY hq_;have hI_:=hI.ext hx_;exact .inr ⟨_,rfl,iK (.inr ⟨_,_,rfl,rfl,⟨_,hI_.arr .n trivial⟩⟩)⟩
  try dsimp only at h
  refine aB gn rfl (Rc Tryz.func71) (Calls.mono (aU NE ⟨(hI.get0 .z),hI.lendBox .z,trivial⟩ hx1) ?_)
  intro e_ w4 hq_;obtain⟨rfl,hx2,hl1⟩:=eX hq_
  refine⟨_,rfl,?_⟩
  replace hI:=(hI.ext hx2)
  refine aM ?_
  exact kj ()
 exact bf (bi () ⟨rfl,trivial⟩ BH rfl)
theorem kQ {r1:aa} (hI:Bun C0 F w0 C0 w0 [MO.box b1 67 (af r1 a1 c1)] [Cl.sl ag a1 c1 r1.l]) {r:bz (Unit×aa)} (h:cu r1=some r):CP C0 F w0 253 #[vp b1 0] r fun rx e w=>∃ a2 c2 C,e= .returned (Value.tuple #[])∧Bun C0 F w0 C w [MO.box b1 67 (af rx.2 a2 c2)] [Cl.sl ag a2 c2 rx.2.l]:=by
 refine fU (l:=[vp b1 0]) Tryz.func253 rfl Tryz.ntmps253 rfl ?_
 rw[cu]at h
 refine al (T ?_)
 refine sB h (fun _ k=>dT NE ⟨(hI.get0 .z),hI.lendBox .z,trivial⟩ k) (Rc Tryz.func121) fun r2 w1 h hI=> ?_
 refine TC (fun hb h=> ?_) fun hb h=> ?_
 ·refine T ?_
  obtain⟨c3,f1,hB,hl2,hk1⟩:=hI.hands (.l .n)
  refine eG h (fun _ hx3=>dA HS hx3) (lw hk1) (Rc Tryz.func103) ?_
  rintro⟨r3,s1⟩ hx3 h _ w2 ⟨a3,c4,c5,rfl,hB2⟩
  try dsimp only at h
  refine HN hk1 hB2 fun c6 hI=> ?_
  refine⟨_,rfl,?_⟩
  refine T ?_
  obtain⟨c7,f2,hB,hl3,hk2⟩:=hI.hands (.l .n)
  refine eG h (fun _ hx4=>iz HS hx4) (lw hk2) (Rc Tryz.func194) ?_
  rintro⟨r4,s2⟩ hx4 h _ w3 ⟨a4,c8,c9,rfl,hB2⟩
  try dsimp only at h
  refine HN hk2 hB2 fun c10 hI=> ?_
  refine⟨_,rfl,?_⟩
  refine aM ?_
  obtain rfl:=aj h
  refine QG ?_
  exact .inl ⟨_,rfl,a4,c8,_,rfl,hI.arr GO SU⟩
 refine T ?_
 obtain⟨c11,f3,hB,hl4,hk3⟩:=hI.hands (.l .n)
 refine eG h (fun _ hx5=>iz HS hx5) (lw hk3) (Rc Tryz.func194) ?_
 rintro⟨r5,s3⟩ hx5 h _ w4 ⟨a5,c12,c13,rfl,hB2⟩
 try dsimp only at h
 refine HN hk3 hB2 fun c14 hI=> ?_
 refine⟨_,rfl,?_⟩
 refine aM ?_
 obtain rfl:=aj h
 refine QG ?_
 exact .inl ⟨_,rfl,a5,c12,_,rfl,hI.arr GO SU⟩
theorem aR {r1:aa} {s1:List UInt8} (hI:Bun C0 F w0 C0 w0 [MO.box b1 67 (af r1 a1 c1)] [Cl.sl ag a1 c1 r1.l]) {r:bz (Unit×aa)} (h:aJ r1 s1=some r):CP C0 F w0 104 #[vp b1 0,(aE s1)] r fun rx e w=>∃ a2 c2 C,e= .returned (Value.tuple #[])∧Bun C0 F w0 C w [MO.box b1 67 (af rx.2 a2 c2)] [Cl.sl ag a2 c2 rx.2.l]:=by
 refine fU (l:=[vp b1 0,(aE s1)]) Tryz.func104 rfl Tryz.ntmps104 rfl ?_
 rw[aJ]at h
 refine T ?_
 obtain⟨c3,f1,hB,hl1,hk1⟩:=hI.hands (.l .n)
 obtain⟨⟨r2,s2⟩,hx1,h⟩:=ae h
 try dsimp only at h
 refine aB gn rfl (Rc Tryz.func68) (Calls.mono (aO HS hx1) ?_)
 rintro _ w1 ⟨a3,c4,c5,rfl,hB2⟩
 refine HN hk1 hB2 fun c6 hI=> ?_
 refine⟨_,rfl,?_⟩
 refine TC (fun hb h=> ?_) fun hb h=> ?_
 ·refine T ?_
  obtain⟨c7,f2,hB,hl2,hk2⟩:=hI.hands (.l .n)
  refine eG h (fun _ hx2=>dA HS hx2) (lw hk2) (Rc Tryz.func103) ?_
  rintro⟨r3,s3⟩ hx2 h _ w2 ⟨a4,c8,c9,rfl,hB2⟩
  try dsimp only at h
  refine HN hk2 hB2 fun c10 hI=> ?_
  refine⟨_,rfl,?_⟩
  refine aM ?_
  obtain rfl:=aj h
  refine QG ?_
  exact .inl ⟨_,rfl,a4,c8,_,rfl,hI.arr GO SU⟩
 refine bf ?_
 obtain rfl:=aj h
 refine QG ?_
 exact .inl ⟨_,rfl,a3,c4,_,rfl,hI.arr GO SU⟩
theorem kA {r1:aa} (hI:Bun C0 F w0 C0 w0 [MO.box b1 67 (af r1 a1 c1)] [Cl.sl ag a1 c1 r1.l]) {r:bz (Unit×aa)} (h:dy r1=some r):CP C0 F w0 254 #[vp b1 0] r fun rx e w=>∃ a2 c2 C,e= .returned (Value.tuple #[])∧Bun C0 F w0 C w [MO.box b1 67 (af rx.2 a2 c2)] [Cl.sl ag a2 c2 rx.2.l]:=by
 refine fU (l:=[vp b1 0]) Tryz.func254 rfl Tryz.ntmps254 rfl ?_
 rw[dy]at h
 refine T ?_
 obtain⟨c3,f1,hB,hl1,hk1⟩:=hI.hands (.l .n)
 refine eG h (fun _ hx1=>aR HS hx1) (lw hk1) (Rc Tryz.func104) ?_
 rintro⟨r2,s1⟩ hx1 h _ w1 ⟨a3,c4,c5,rfl,hB2⟩
 try dsimp only at h
 refine HN hk1 hB2 fun c6 hI=> ?_
 refine⟨_,rfl,?_⟩
 refine T ?_
 refine lS fun c7 w2 hI=> ?_
 refine aM ?_
 obtain rfl:=aj h
 refine QG ?_
 exact .inl ⟨_,rfl,a3,c4,_,rfl,hI.arr GO SU⟩
theorem iU {r1:aa} {l1:List (List UInt8)} (hI:Bun C0 F w0 C0 w0 [MO.box b1 67 (af r1 a1 c1)] [Cl.sl ag a1 c1 r1.l,Cl.sl dF a2 c2 l1]) {r:Int×aa} (h:cW r1 l1=some r):Cg 98 #[vp b1 0,vs a2 l1.length c2] w0 fun e w=>∃ a3 c3 C,e= .returned (vi r.1)∧Bun C0 F w0 C w [MO.box b1 67 (af r.2 a3 c3)] [Cl.sl ag a3 c3 r.2.l]:=by
 refine oN Tryz.func98 rfl Tryz.ntmps98 rfl ?_
 rw[cW]at h
 refine T ?_
 refine al (T ?_)
 refine bh (α:=Nat×Int) (fun x=>fun w=>∃ C,Bun C0 F w0 C w [MO.box b1 67 (af r1 a1 c1)] [Cl.sl ag a1 c1 r1.l,Cl.sl dF a2 c2 l1]∧cp l1 r1 (x.1) (x.2)=some r) (fun x _=>x.1) (fun x=>[(0,vp b1 0),(7,vs a2 l1.length c2),(8,vi (l1.length:Int)),(9,vi (x.2))]) (fu,0) BH SB ?_
 clear h hI;rintro⟨fuel1,i1⟩ w1 ⟨c4,hI,h⟩
 dsimp only at hI h ⊢
 rcases fuel1 with _ | fuel1
 ·rw[cp]at h;cases h
 rw[cp]at h
 refine T ?_
 refine al (vm h et (fun hb h=> ?_) (fun hb h=> ?_))
 ·refine T ?_
  refine al (T ?_)
  obtain⟨e1,hx1,h⟩:=ae h
  obtain⟨ad1,cs1,hA1,hr1,hq1⟩:=hI.clat (.s .z) hx1
  obtain rfl:cs1=[(aE e1)]:=hr1
  refine sI ?_
  refine T ?_
  refine sB h (fun _ k=>dT NE ⟨(hI.get0 .z),hI.lendBox .z,trivial⟩ k) (Rc Tryz.func121) fun r2 w2 h hI=> ?_
  refine TC (fun hb h=> ?_) fun hb h=> ?_
  ·refine T ?_
   refine lS fun c5 w3 hI=> ?_
   refine T ?_
   refine aA ?_
   obtain rfl:=aj h
   refine QG ?_
   exact⟨a1,c1,_,rfl,hI.arr GO SU⟩
  refine T ?_
  refine aM ?_
  exact kl (fuel1,ar (i1+1))
 refine bk ?_
 refine eU ?_
 refine bb ?_
 refine T ?_
 refine aA ?_
 obtain rfl:=aj h
 refine QG ?_
 exact⟨a1,c1,_,rfl,hI.arr GO SU⟩
theorem mT {r1:aa} (hI:Bun C0 F w0 C0 w0 [MO.box b1 67 (af r1 a1 c1)] [Cl.sl ag a1 c1 r1.l]) {r:bz (Int×aa)} (h:eH r1=some r):CP C0 F w0 219 #[vp b1 0] r fun rx e w=>∃ a2 c2 C,e= .returned (vi rx.1)∧Bun C0 F w0 C w [MO.box b1 67 (af rx.2 a2 c2)] [Cl.sl ag a2 c2 rx.2.l]:=by
 refine fU (l:=[vp b1 0]) Tryz.func219 rfl Tryz.ntmps219 rfl ?_
 rw[eH]at h
 refine T ?_
 obtain⟨c3,f1,hB,hl1,hk1⟩:=hI.hands (.l .n)
 refine eG h (fun _ hx1=>ib HS hx1) (lw hk1) (Rc Tryz.func130) ?_
 rintro⟨r2,s1⟩ hx1 h _ w1 ⟨a3,c4,c5,rfl,hB2⟩
 try dsimp only at h
 refine HN hk1 hB2 fun c6 hI=> ?_
 refine⟨_,rfl,?_⟩
 refine sB h (fun _ k=>qy hI.lt trivial k) (Rc Tryz.func131) fun r3 w2 h hI=> ?_
 refine T ?_
 refine al (T ?_)
 refine TC (fun hb h=> ?_) fun hb h=> ?_
 ·refine T ?_
  rcases iM h with⟨r4,hx4,h⟩ | ⟨pa_,pn_,hx4,hp_⟩
  rotate_left
  ·subst hp_
   refine nU gn rfl (aF (vs:=[vp b1 0,vi r1.at_,vi 3]) rfl sO ⟨et,⟨et,⟨ao,trivial⟩⟩⟩) (Calls.mono (aU NE ⟨(hI.get0 .z),hI.lendBox .z,trivial⟩ hx4) ?_)
   intro e_ w_ hq_;obtain⟨rfl,hx_⟩:=eY hq_;have hI_:=hI.ext hx_;exact .inr ⟨_,rfl,iK (.inr ⟨_,_,rfl,rfl,⟨_,hI_.arr .n trivial⟩⟩)⟩
  try dsimp only at h
  refine aB gn rfl (Rc Tryz.func71) (Calls.mono (aU NE ⟨(hI.get0 .z),hI.lendBox .z,trivial⟩ hx4) ?_)
  intro e_ w3 hq_;obtain⟨rfl,hx5,hl3⟩:=eX hq_
  refine⟨_,rfl,?_⟩
  replace hI:=(hI.ext hx5)
  refine T ?_
  refine aA ?_
  obtain rfl:=aj h
  refine QG ?_
  exact .inl ⟨_,rfl,a3,c4,_,rfl,hI.arr GO SU⟩
 refine T ?_
 refine aA ?_
 obtain rfl:=aj h
 refine QG ?_
 exact .inl ⟨_,rfl,a3,c4,_,rfl,hI.arr GO SU⟩
theorem nH {r1:aa} (hI:Bun C0 F w0 C0 w0 [MO.box b1 67 (af r1 a1 c1)] [Cl.sl ag a1 c1 r1.l]) {r:bz (GType×aa)} (h:fC r1=some r):CP C0 F w0 174 #[vp b1 0] r fun rx e w=>∃ a2 c2 C,e= .returned (Value.agg (co rx.1))∧Bun C0 F w0 C w [MO.box b1 67 (af rx.2 a2 c2)] [Cl.sl ag a2 c2 rx.2.l]:=by
 refine fU (l:=[vp b1 0]) Tryz.func174 rfl Tryz.ntmps174 rfl ?_
 rw[fC]at h
 refine sr (cF (cs:=x8) hI gn rfl rfl EX rfl ?_)
 intro b2 c3 w1 hI
 refine T ?_
 refine bw (α:=aa×(Option Addr)×Nat) (fun _=>⟨66,[]⟩) (fun x=>[(0,vp b1 0),(2,vp b2 0),(3,vi r1.at_)]) (fun x=>fun w=>∃ C,Bun C0 F w0 C w [MO.box b1 67 (af (x.1) (x.2.1) (x.2.2)),MO.box b2 35 x8] [Cl.sl ag (x.2.1) (x.2.2) (x.1).l]∧d6 r1 (x.1)=some r) ?_ ?_
 ·clear h hI;rintro⟨r2,a3,c4⟩ w2 ⟨c5,hI,h⟩
  try dsimp only at hI h ⊢
  rw[d6]at h
  refine sr (sq (ax (vs:=[(0,vi 2)]) (cs:=#[vi 2,vi 0,vi 0,vi 0,vi 0]) rfl ⟨rfl,ao,trivial⟩ (by kernel_rfl)) ?_)
  refine lN fun b3 c6 w3 hI=> ?_
  refine lA fun c7 w4 hI=> ?_
  refine T ?_
  obtain⟨c8,f1,hB,hl1,hk1⟩:=hI.hands (.r (.l (.r .n)))
  refine eG h (fun _ hx1=>aR HS hx1) (lw hk1) (Rc Tryz.func104) ?_
  rintro⟨r3,s1⟩ hx1 h _ w5 ⟨a4,c9,c10,rfl,hB2⟩
  try dsimp only at h
  refine HN hk1 hB2 fun c11 hI=> ?_
  refine⟨_,rfl,?_⟩
  refine T ?_
  obtain⟨c12,f2,hB,hl2,hk2⟩:=hI.hands (.l (.r (.r .n)))
  refine eG h (fun _ hx2=>mT HS hx2) (lw hk2) (Rc Tryz.func219) ?_
  rintro⟨r4,s2⟩ hx2 h _ w6 ⟨a5,c13,c14,rfl,hB2⟩
  try dsimp only at h
  refine HN hk2 hB2 fun c15 hI=> ?_
  refine⟨_,rfl,?_⟩
  refine T ?_
  refine lS fun c16 w7 hI=> ?_
  refine T ?_
  obtain⟨c17,f3,hB,hl3,hk3⟩:=hI.hands (.l (.r (.r .n)))
  refine eG h (fun _ hx3=>aR HS hx3) (lw hk3) (Rc Tryz.func104) ?_
  rintro⟨r5,s3⟩ hx3 h _ w8 ⟨a6,c18,c19,rfl,hB2⟩
  try dsimp only at h
  refine HN hk3 hB2 fun c20 hI=> ?_
  refine⟨_,rfl,?_⟩
  refine T ?_
  obtain⟨c21,f4,hB,hl4,hk4⟩:=hI.hands (.l (.r (.r .n)))
  refine eG h (fun _ hx4=>mT HS hx4) (lw hk4) (Rc Tryz.func219) ?_
  rintro⟨r6,s4⟩ hx4 h _ w9 ⟨a7,c22,c23,rfl,hB2⟩
  try dsimp only at h
  refine HN hk4 hB2 fun c24 hI=> ?_
  refine⟨_,rfl,?_⟩
  refine T ?_
  refine lS fun c25 w10 hI=> ?_
  refine T ?_
  obtain⟨c26,f5,hB,hl5,hk5⟩:=hI.hands (.l (.r (.r .n)))
  refine eG h (fun _ hx5=>aR HS hx5) (lw hk5) (Rc Tryz.func104) ?_
  rintro⟨r7,s5⟩ hx5 h _ w11 ⟨a8,c27,c28,rfl,hB2⟩
  try dsimp only at h
  refine HN hk5 hB2 fun c29 hI=> ?_
  refine⟨_,rfl,?_⟩
  refine T ?_
  refine ll hI dF ([([102,108,111,111,114]:List UInt8),([99,101,105,108]:List UInt8),([122,101,114,111]:List UInt8),([101,118,101,110]:List UInt8)]:List (List UInt8)) lZ Rr fun b4 c30 w12 hI=> ?_
  obtain⟨c31,hI⟩:=hI.release .z
  obtain⟨c32,f6,hB,hl6,hk6⟩:=hI.hands (.l (.r (.r .n)))
  obtain⟨⟨r8,s6⟩,hx6,h⟩:=ae h
  try dsimp only at h
  refine aB gn rfl (Rc Tryz.func98) (Calls.mono (iU HS hx6) ?_)
  rintro _ w13 ⟨a9,c33,c34,rfl,hB2⟩
  refine HN hk6 hB2 fun c35 hI=> ?_
  refine⟨_,rfl,?_⟩
  refine T ?_
  refine lS fun c36 w14 hI=> ?_
  refine nk (bw (α:=aa×(Option Addr)×Nat) (fun _=>⟨66,[]⟩) (fun x=>[(0,vp b1 0),(2,vp b2 0),(3,vi r1.at_),(4,vp b3 0)]) (fun x=>fun w=>∃ C,Bun C0 F w0 C w [MO.box b1 67 (af (x.1) (x.2.1) (x.2.2)),MO.box b2 35 x8,MO.box b3 35 #[vi 2,vi r4,vi r6,(vi (ar (r8+1))),vi 0]] [Cl.sl ag (x.2.1) (x.2.2) (x.1).l]∧d5 r4 r6 r8 r1 (x.1)=some r) ?_ ?_)
  ·clear h hI;rintro⟨r9,a10,c37⟩ w15 ⟨c38,hI,h⟩
   try dsimp only at hI h ⊢
   rw[d5]at h
   refine T ?_
   obtain⟨c39,f7,hB,hl7,hk7⟩:=hI.hands (.l (.r (.r .n)))
   refine eG h (fun _ hx7=>aR HS hx7) (lw hk7) (Rc Tryz.func104) ?_
   rintro⟨r10,s7⟩ hx7 h _ w16 ⟨a11,c40,c41,rfl,hB2⟩
   try dsimp only at h
   refine HN hk7 hB2 fun c42 hI=> ?_
   refine⟨_,rfl,?_⟩
   refine T ?_
   refine ll hI dF ([([115,97,116]:List UInt8),([119,114,97,112]:List UInt8)]:List (List UInt8)) lZ Rr fun b5 c43 w17 hI=> ?_
   obtain⟨c44,hI⟩:=hI.release .z
   obtain⟨c45,f8,hB,hl8,hk8⟩:=hI.hands (.l (.r (.r .n)))
   obtain⟨⟨r11,s8⟩,hx8,h⟩:=ae h
   try dsimp only at h
   refine aB gn rfl (Rc Tryz.func98) (Calls.mono (iU HS hx8) ?_)
   rintro _ w18 ⟨a12,c46,c47,rfl,hB2⟩
   refine HN hk8 hB2 fun c48 hI=> ?_
   refine⟨_,rfl,?_⟩
   refine T ?_
   refine lS fun c49 w19 hI=> ?_
   refine nk (bw (α:=aa×(Option Addr)×Nat) (fun _=>⟨66,[]⟩) (fun x=>[(0,vp b1 0),(2,vp b2 0),(3,vi r1.at_),(4,vp b3 0)]) (fun x=>fun w=>∃ C,Bun C0 F w0 C w [MO.box b1 67 (af (x.1) (x.2.1) (x.2.2)),MO.box b2 35 x8,MO.box b3 35 #[vi 2,vi r4,vi r6,(vi (ar (r8+1))),(vi (ar (r11+1)))]] [Cl.sl ag (x.2.1) (x.2.2) (x.1).l]∧d4 r4 r6 r8 r11 r1 (x.1)=some r) ?_ ?_)
   ·clear h hI;rintro⟨r12,a13,c50⟩ w20 ⟨c51,hI,h⟩
    try dsimp only at hI h ⊢
    rw[d4]at h
    refine T ?_
    obtain⟨c52,f9,hB,hl9,hk9⟩:=hI.hands (.l (.r (.r .n)))
    refine eG h (fun _ hx9=>aR HS hx9) (lw hk9) (Rc Tryz.func104) ?_
    rintro⟨r13,s9⟩ hx9 h _ w21 ⟨a14,c53,c54,rfl,hB2⟩
    try dsimp only at h
    refine HN hk9 hB2 fun c55 hI=> ?_
    refine⟨_,rfl,?_⟩
    refine nk (al (T ?_))
    refine sB h (fun _ k=>jR hI.lt trivial k) (Rc Tryz.func202) fun r14 w22 h hI=> ?_
    refine TC (fun hb h=> ?_) fun hb h=> ?_
    ·refine T ?_
     rcases iM h with⟨r15,hx12,h⟩ | ⟨pa_,pn_,hx12,hp_⟩
     rotate_left
     ·subst hp_
      refine nU gn rfl (aF (vs:=[vp b1 0,vi r1.at_,vi 10]) rfl sO ⟨et,⟨et,⟨ao,trivial⟩⟩⟩) (Calls.mono (aU NE ⟨(hI.get0 .z),hI.lendBox .z,trivial⟩ hx12) ?_)
      intro e_ w_ hq_;obtain⟨rfl,hx_⟩:=eY hq_;have hI_:=hI.ext hx_;exact .inr ⟨_,rfl,iK (.inr ⟨_,_,rfl,rfl,⟨_,hI_.arr .n trivial⟩⟩)⟩
     try dsimp only at h
     refine aB gn rfl (Rc Tryz.func71) (Calls.mono (aU NE ⟨(hI.get0 .z),hI.lendBox .z,trivial⟩ hx12) ?_)
     intro e_ w23 hq_;obtain⟨rfl,hx13,hl11⟩:=eX hq_
     refine⟨_,rfl,?_⟩
     replace hI:=(hI.ext hx13)
     refine T ?_
     refine lA fun c56 w24 hI=> ?_
     refine nk (aA ?_)
     obtain rfl:=aj h
     refine QG ?_
     exact .inl ⟨_,rfl,a14,c53,_,rfl,hI.arr GO SU⟩
    refine T ?_
    refine lA fun c57 w25 hI=> ?_
    refine nk (aA ?_)
    obtain rfl:=aj h
    refine QG ?_
    exact .inl ⟨_,rfl,a14,c53,_,rfl,hI.arr GO SU⟩
   refine TC (fun hb h=> ?_) fun hb h=> ?_
   ·refine T ?_
    obtain⟨c58,f10,hB,hl12,hk10⟩:=hI.hands (.l (.r (.r .n)))
    refine eG h (fun _ hx14=>dA HS hx14) (lw hk10) (Rc Tryz.func103) ?_
    rintro⟨r16,s10⟩ hx14 h _ w26 ⟨a15,c59,c60,rfl,hB2⟩
    try dsimp only at h
    refine HN hk10 hB2 fun c61 hI=> ?_
    refine⟨_,rfl,?_⟩
    refine aM ?_
    exact kj (s10,a15,c59)
   exact bf (bi (s8,a12,c46) SB BH rfl)
  refine TC (fun hb h=> ?_) fun hb h=> ?_
  ·refine T ?_
   obtain⟨c62,f11,hB,hl13,hk11⟩:=hI.hands (.l (.r (.r .n)))
   refine eG h (fun _ hx15=>dA HS hx15) (lw hk11) (Rc Tryz.func103) ?_
   rintro⟨r17,s11⟩ hx15 h _ w27 ⟨a16,c63,c64,rfl,hB2⟩
   try dsimp only at h
   refine HN hk11 hB2 fun c65 hI=> ?_
   refine⟨_,rfl,?_⟩
   refine aM ?_
   exact kj (s11,a16,c63)
  exact bf (bi (s6,a9,c33) SB BH rfl)
 refine T ?_
 refine ll hI dF ([([102,114,97,99]:List UInt8),([105,110,116]:List UInt8),([102,105,120]:List UInt8)]:List (List UInt8)) lZ Rr fun b6 c66 w28 hI=> ?_
 obtain⟨c67,hI⟩:=hI.release .z
 obtain⟨c68,f12,hB,hl14,hk12⟩:=hI.hands (.r (.l .n))
 obtain⟨⟨r18,s12⟩,hx16,h⟩:=ae h
 try dsimp only at h
 refine aB gn rfl (Rc Tryz.func98) (Calls.mono (iU HS hx16) ?_)
 rintro _ w29 ⟨a17,c69,c70,rfl,hB2⟩
 refine HN hk12 hB2 fun c71 hI=> ?_
 refine⟨_,rfl,?_⟩
 refine TC (fun hb h=> ?_) fun hb h=> ?_
 ·refine sr (sq (ax (vs:=[(0,vi 1)]) (cs:=#[vi 1,vi 0,vi 0,vi 0,vi 0]) rfl ⟨rfl,ao,trivial⟩ (by kernel_rfl)) ?_)
  refine lA fun c72 w30 hI=> ?_
  refine nk (aA ?_)
  obtain rfl:=aj h
  refine QG ?_
  exact .inl ⟨_,rfl,a17,c69,_,rfl,hI.arr GO SU⟩
 refine TC (fun hb h=> ?_) fun hb h=> ?_
 ·refine sr (sq (ax (vs:=[(0,vi 3)]) (cs:=#[vi 3,vi 0,vi 0,vi 0,vi 0]) rfl ⟨rfl,ao,trivial⟩ (by kernel_rfl)) ?_)
  refine lA fun c73 w31 hI=> ?_
  refine nk (aA ?_)
  obtain rfl:=aj h
  refine QG ?_
  exact .inl ⟨_,rfl,a17,c69,_,rfl,hI.arr GO SU⟩
 refine TC (fun hb h=> ?_) fun hb h=> ?_
 ·refine T ?_
  obtain⟨c74,f13,hB,hl15,hk13⟩:=hI.hands (.l (.r .n))
  refine eG h (fun _ hx17=>dA HS hx17) (lw hk13) (Rc Tryz.func103) ?_
  rintro⟨r19,s13⟩ hx17 h _ Dv ⟨a18,c75,c76,rfl,hB2⟩
  try dsimp only at h
  refine HN hk13 hB2 fun c77 hI=> ?_
  refine⟨_,rfl,?_⟩
  refine aM ?_
  exact kj (s13,a18,c75)
 exact bf (bi (s12,a17,c69) SB BH rfl)
theorem jn {r1:aa} (hI:Bun C0 F w0 C0 w0 [MO.box b1 67 (af r1 a1 c1)] [Cl.sl ag a1 c1 r1.l]) {r:bz (GExpr×aa)} (h:ce r1=some r):CP C0 F w0 255 #[vp b1 0] r fun rx e w=>∃ a2 c2 a3 c3 a4 c4 a5 c5 C,e= .returned (Value.agg (aq rx.1 a2 c2 a3 c3 a4 c4))∧Bun C0 F w0 C w [MO.box b1 67 (af rx.2 a5 c5)] [Cl.sl ai a2 c2 rx.1.Lin.L,Cl.sl ak a3 c3 rx.1.Idx,Cl.sl an a4 c4 rx.1.Args,Cl.sl ag a5 c5 rx.2.l]:=by
 refine fU (l:=[vp b1 0]) Tryz.func255 rfl Tryz.ntmps255 rfl ?_
 rw[ce]at h
 refine sr (cF (cs:=#[vi 0,(aE ([]:List UInt8)),vi 0,vi 0,vi 0,vi 0,vi 0,vi 0,vi 0,vi 0,vs none 0 0,vs none 0 0,vs none 0 0]) hI gn rfl rfl dN rfl ?_)
 intro b2 c6 w1 hI
 refine T ?_
 obtain⟨c7,f1,hB,hl1,hk1⟩:=hI.hands (.r (.l .n))
 refine eG h (fun _ hx1=>nH HS hx1) (lw hk1) (Rc Tryz.func174) ?_
 rintro⟨r2,s1⟩ hx1 h _ w2 ⟨a6,c8,c9,rfl,hB2⟩
 try dsimp only at h
 refine HN hk1 hB2 fun c10 hI=> ?_
 refine⟨_,rfl,?_⟩
 refine lN fun b3 c11 w3 hI=> ?_
 refine lA fun c12 w4 hI=> ?_
 refine T ?_
 obtain⟨c13,f2,hB,hl2,hk2⟩:=hI.hands (.r (.l (.r .n)))
 refine eG h (fun _ hx2=>aR HS hx2) (lw hk2) (Rc Tryz.func104) ?_
 rintro⟨r3,s2⟩ hx2 h _ w5 ⟨a7,c14,c15,rfl,hB2⟩
 try dsimp only at h
 refine HN hk2 hB2 fun c16 hI=> ?_
 refine⟨_,rfl,?_⟩
 refine T ?_
 refine bw (α:=(List UInt8)×aa×(Option Addr)×Nat) (fun _=>⟨46,[]⟩) (fun x=>[(0,vp b1 0),(2,vp b2 0),(3,vp b3 0),(4,vi s2.at_),(5,(aE (x.1)))]) (fun x=>fun w=>∃ C,Bun C0 F w0 C w [MO.box b1 67 (af (x.2.1) (x.2.2.1) (x.2.2.2)),MO.box b2 39 #[vi 0,(aE ([]:List UInt8)),vi 0,vi 0,vi 0,vi 0,vi 0,vi 0,vi 0,vi 0,vs none 0 0,vs none 0 0,vs none 0 0],MO.box b3 35 (co r2)] [Cl.sl ag (x.2.2.1) (x.2.2.2) (x.2.1).l]∧cc r2 s2 (x.1) (x.2.1)=some r) ?_ ?_
 ·clear h hI;rintro⟨text1,r4,a8,c17⟩ w6 ⟨c18,hI,h⟩
  try dsimp only at hI h ⊢
  rw[cc]at h
  refine T ?_
  obtain⟨c19,f3,hB,hl3,hk3⟩:=hI.hands (.l (.r (.r .n)))
  refine eG h (fun _ hx3=>ib HS hx3) (lw hk3) (Rc Tryz.func130) ?_
  rintro⟨r5,s3⟩ hx3 h _ w7 ⟨a9,c20,c21,rfl,hB2⟩
  try dsimp only at h
  refine HN hk3 hB2 fun c22 hI=> ?_
  refine⟨_,rfl,?_⟩
  obtain⟨s4,hx4,h⟩:=ae h
  refine sq (tB rfl et et hx4) ?_
  refine T ?_
  refine bw (α:=(List UInt8)×aa×(Option Addr)×Nat) (fun _=>⟨46,[]⟩) (fun x=>[(0,vp b1 0),(2,vp b2 0),(3,vp b3 0),(4,vi s2.at_),(5,(aE (x.1)))]) (fun x=>fun w=>∃ C,Bun C0 F w0 C w [MO.box b1 67 (af (x.2.1) (x.2.2.1) (x.2.2.2)),MO.box b2 39 #[vi 0,(aE ([]:List UInt8)),vi 0,vi 0,vi 0,vi 0,vi 0,vi 0,vi 0,vi 0,vs none 0 0,vs none 0 0,vs none 0 0],MO.box b3 35 (co r2)] [Cl.sl ag (x.2.2.1) (x.2.2.2) (x.2.1).l]∧cL r2 s2 (x.1) (x.2.1)=some r) ?_ ?_
  ·clear h hI;rintro⟨text2,r6,a10,c23⟩ w8 ⟨c24,hI,h⟩
   try dsimp only at hI h ⊢
   rw[cL]at h
   refine T ?_
   refine sB h (fun _ k=>xk hI.lt trivial k) (Rc Tryz.func260) fun r7 w9 h hI=> ?_
   refine T ?_
   refine lN fun b4 c25 w10 hI=> ?_
   refine lA fun c26 w11 hI=> ?_
   refine T ?_
   refine bw (α:=Unit) (fun _=>⟨46,[]⟩) (fun _=>[(0,vp b1 0),(2,vp b2 0),(3,vp b3 0),(6,vp b4 0)]) (fun _=>fun w=>∃ C,Bun C0 F w0 C w [MO.box b1 67 (af r6 a10 c23),MO.box b2 39 #[vi 0,(aE ([]:List UInt8)),vi 0,vi 0,vi 0,vi 0,vi 0,vi 0,vi 0,vi 0,vs none 0 0,vs none 0 0,vs none 0 0],MO.box b3 35 (co r2),MO.box b4 33 (o6 r7.1)] [Cl.sl ag a10 c23 r6.l]∧dI r6 r7 r2=some r) ?_ ?_
   ·clear h hI;rintro _ w12 ⟨c27,hI,h⟩
    try dsimp only at hI h ⊢
    rw[dI]at h
    refine T ?_
    obtain⟨c28,f4,hB,hl5,hk4⟩:=hI.hands (.l (.r (.r (.r .n))))
    refine eG h (fun _ hx7=>aR HS hx7) (lw hk4) (Rc Tryz.func104) ?_
    rintro⟨r8,s5⟩ hx7 h _ w13 ⟨a11,c29,c30,rfl,hB2⟩
    try dsimp only at h
    refine HN hk4 hB2 fun c31 hI=> ?_
    refine⟨_,rfl,?_⟩
    refine T ?_
    refine sq (ax (vs:=[(0,vi 1),(3,(Value.agg (co r2))),(2,(Value.agg (o6 r7.1)))]) (cs:=#[vi 1,(aE ([]:List UInt8)),vi r7.1.N,vi r7.1.D,vi r2.Kind,vi r2.Bits,vi r2.Frac,vi r2.Round,vi r2.Over,vi 0,vs none 0 0,vs none 0 0,vs none 0 0]) rfl ⟨rfl,ao,⟨rfl,et,⟨rfl,et,trivial⟩⟩⟩ (by kernel_rfl)) ?_
    refine lA fun c32 w14 hI=> ?_
    refine nk (aA ?_)
    have hI:=hI.add (c:=Cl.sl ai none 0 ([]:List GMono)) SlC.nil
    have hI:=hI.add (c:=Cl.sl ak none 0 ([]:List GIndex)) SlC.nil
    have hI:=hI.add (c:=Cl.sl an none 0 ([]:List GExpr)) SlC.nil
    obtain rfl:=aj h
    refine QG ?_
    exact .inl ⟨_,rfl,none,0,none,0,none,0,a11,c29,_,rfl,hI.arr GO SU⟩
   refine TC (fun hb h=> ?_) fun hb h=> ?_
   ·refine T ?_
    rcases iM h with⟨r9,hx8,h⟩ | ⟨pa_,pn_,hx8,hp_⟩
    rotate_left
    ·subst hp_
     refine nU gn rfl (aF (vs:=[vp b1 0,vi s2.at_,vi r7.2]) rfl sO ⟨et,⟨et,⟨et,trivial⟩⟩⟩) (Calls.mono (aU NE ⟨(hI.get0 .z),hI.lendBox (.s .z),trivial⟩ hx8) ?_)
     intro e_ w_ hq_;obtain⟨rfl,hx_⟩:=eY hq_;have hI_:=hI.ext hx_;exact .inr ⟨_,rfl,iK (.inr ⟨_,_,rfl,rfl,⟨_,hI_.arr .n trivial⟩⟩)⟩
    try dsimp only at h
    refine aB gn rfl (Rc Tryz.func71) (Calls.mono (aU NE ⟨(hI.get0 .z),hI.lendBox (.s .z),trivial⟩ hx8) ?_)
    intro e_ w15 hq_;obtain⟨rfl,hx9,hl6⟩:=eX hq_
    refine⟨_,rfl,?_⟩
    replace hI:=(hI.ext hx9)
    refine aM ?_
    exact kj ()
   exact bf (bi () SB BH rfl)
  refine T ?_
  obtain⟨c33,f5,hB,hl7,hk5⟩:=hI.hands (.l (.r (.r .n)))
  obtain⟨⟨r10,s6⟩,hx10,h⟩:=ae h
  try dsimp only at h
  refine aB gn rfl (Rc Tryz.func68) (Calls.mono (aO HS hx10) ?_)
  rintro _ w16 ⟨a12,c34,c35,rfl,hB2⟩
  refine HN hk5 hB2 fun c36 hI=> ?_
  refine⟨_,rfl,?_⟩
  refine TC (fun hb h=> ?_) fun hb h=> ?_
  ·refine T ?_
   obtain⟨c37,f6,hB,hl8,hk6⟩:=hI.hands (.l (.r (.r .n)))
   refine eG h (fun _ hx11=>ib HS hx11) (lw hk6) (Rc Tryz.func130) ?_
   rintro⟨r11,s7⟩ hx11 h _ w17 ⟨a13,c38,c39,rfl,hB2⟩
   try dsimp only at h
   refine HN hk6 hB2 fun c40 hI=> ?_
   refine⟨_,rfl,?_⟩
   obtain⟨s8,hx12,h⟩:=ae h
   refine sq (tB rfl ao et hx12) ?_
   obtain⟨s9,hx13,h⟩:=ae h
   refine sq (tB rfl et et hx13) ?_
   refine sa ?_
   refine aM ?_
   exact kj (s9,s7,a13,c38)
  exact bf (bi (s4,s6,a12,c34) SB BH rfl)
 refine T ?_
 obtain⟨c41,f7,hB,hl9,hk7⟩:=hI.hands (.l (.r (.r .n)))
 obtain⟨⟨r12,s10⟩,hx14,h⟩:=ae h
 try dsimp only at h
 refine aB gn rfl (Rc Tryz.func68) (Calls.mono (aO HS hx14) ?_)
 rintro _ w18 ⟨a14,c42,c43,rfl,hB2⟩
 refine HN hk7 hB2 fun c44 hI=> ?_
 refine⟨_,rfl,?_⟩
 refine TC (fun hb h=> ?_) fun hb h=> ?_
 ·refine T ?_
  refine aM ?_
  exact kj (([45]:List UInt8),s10,a14,c42)
 exact bf (bi (([]:List UInt8),s10,a14,c42) SB BH rfl)
def eu:Tr:=(.c (5,.s) (.c (6,.q) (.c (7,.s) .n)))
def dk:Tr:=(.c (4,.s) eu)
abbrev x9 (f_:(aa→Option (bz (GExpr×aa)))):Prop:=∀ ⦃C0 F:NP⦄ ⦃w0:World⦄ ⦃r1:aa⦄ ⦃b1 c1:Nat⦄ ⦃a1:Option Addr⦄ (hI:Bun C0 F w0 C0 w0 [MO.box b1 67 (af r1 a1 c1)] [Cl.sl ag a1 c1 r1.l,av]) ⦃r:bz (GExpr×aa)⦄ (h:f_ r1=some r),CP C0 F w0 34 #[vp b1 0] r fun rx e w=>∃ a2 c2 a3 c3 a4 c4 a5 c5 C,e= .returned (Value.agg (aq rx.1 a2 c2 a3 c3 a4 c4))∧Bun C0 F w0 C w [MO.box b1 67 (af rx.2 a5 c5)] [Cl.sl ai a2 c2 rx.1.Lin.L,Cl.sl ak a3 c3 rx.1.Idx,Cl.sl an a4 c4 rx.1.Args,Cl.sl ag a5 c5 rx.2.l]
theorem kS {rec_:(aa→Option (bz (GExpr×aa)))} (hrec:x9 rec_) {r1:aa} {op1 many1:Int} (hI:Bun C0 F w0 C0 w0 [MO.box b1 67 (af r1 a1 c1)] [Cl.sl ag a1 c1 r1.l,av]) {r:bz (GExpr×aa)} (h:cY rec_ r1 op1 many1=some r):CP C0 F w0 256 #[vp b1 0,vi op1,vi many1] r fun rx e w=>∃ a2 c2 a3 c3 a4 c4 a5 c5 C,e= .returned (Value.agg (aq rx.1 a2 c2 a3 c3 a4 c4))∧Bun C0 F w0 C w [MO.box b1 67 (af rx.2 a5 c5)] [Cl.sl ai a2 c2 rx.1.Lin.L,Cl.sl ak a3 c3 rx.1.Idx,Cl.sl an a4 c4 rx.1.Args,Cl.sl ag a5 c5 rx.2.l]:=by
 refine fU (l:=[vp b1 0,vi op1,vi many1]) Tryz.func256 rfl Tryz.ntmps256 rfl ?_
 rw[cY]at h
 refine sr (cF (cs:=#[vi 0,(aE ([]:List UInt8)),vi 0,vi 0,vi 0,vi 0,vi 0,vi 0,vi 0,vi 0,vs none 0 0,vs none 0 0,vs none 0 0]) hI gn rfl rfl dN rfl ?_)
 intro b2 c6 w1 hI
 refine T ?_
 refine sq (ax (vs:=[(0,vi op1)]) (cs:=#[vi op1,(aE ([]:List UInt8)),vi 0,vi 0,vi 0,vi 0,vi 0,vi 0,vi 0,vi 0,vs none 0 0,vs none 0 0,vs none 0 0]) rfl ⟨rfl,et,trivial⟩ (by kernel_rfl)) ?_
 refine lN fun b3 c7 w2 hI=> ?_
 refine lA fun c8 w3 hI=> ?_
 refine T ?_
 obtain⟨c9,f1,hB,hl1,hk1⟩:=hI.hands (.r (.r (.l .n)))
 refine eG h (fun _ hx1=>kQ HS hx1) (lw hk1) (Rc Tryz.func253) ?_
 rintro⟨r2,s1⟩ hx1 h _ w4 ⟨a6,c10,c11,rfl,hB2⟩
 try dsimp only at h
 refine HN hk1 hB2 fun c12 hI=> ?_
 refine⟨_,rfl,?_⟩
 refine nk (al (T ?_))
 have hI:=hI.nil ai 64 none
 have hI:=hI.nil ak 132 none
 have hI:=hI.nil an 39 none
 refine bh (α:=Nat×Int×aa×GExpr×(Option Addr)×Nat×(Option Addr)×Nat×(Option Addr)×Nat×(Option Addr)×Nat) (fun x=>fun w=>∃ C,Bun C0 F w0 C w [MO.row ai 64 (x.2.2.2.2.2.2.1) (x.2.2.2.2.2.2.2.1) (x.2.2.2.1).Lin.L,MO.row ak 132 (x.2.2.2.2.2.2.2.2.1) (x.2.2.2.2.2.2.2.2.2.1) (x.2.2.2.1).Idx,MO.row an 39 (x.2.2.2.2.2.2.2.2.2.2.1) (x.2.2.2.2.2.2.2.2.2.2.2) (x.2.2.2.1).Args,MO.box b1 67 (af (x.2.2.1) (x.2.2.2.2.1) (x.2.2.2.2.2.1)),MO.box b2 39 #[vi 0,(aE ([]:List UInt8)),vi 0,vi 0,vi 0,vi 0,vi 0,vi 0,vi 0,vi 0,vs none 0 0,vs none 0 0,vs none 0 0],MO.box b3 39 (aq (x.2.2.2.1) (x.2.2.2.2.2.2.1) (x.2.2.2.2.2.2.2.1) (x.2.2.2.2.2.2.2.2.1) (x.2.2.2.2.2.2.2.2.2.1) (x.2.2.2.2.2.2.2.2.2.2.1) (x.2.2.2.2.2.2.2.2.2.2.2))] [Cl.sl ag (x.2.2.2.2.1) (x.2.2.2.2.2.1) (x.2.2.1).l,av]∧bs many1 rec_ (x.1) (x.2.1) (x.2.2.1) (x.2.2.2.1)=some r) (fun x _=>x.1) (fun x=>[(0,vp b1 0),(6,vp b2 0),(7,vp b3 0),(13,vi many1),(14,vi (x.2.1))]) (fu,0,s1,(⟨op1,([]:List UInt8),(⟨0,0⟩:GVal),(⟨0,0,0,0,0⟩:GType),(⟨0,([]:List GMono)⟩:GLin),([]:List GIndex),([]:List GExpr)⟩:GExpr),a6,c10,none,0,none,0,none,0) ⟨_,hI.arr (.c (.s (.s .z)) (.c (.s .z) (.c .z (.c .z (.c (.s .z) (.c .z .n)))))) ⟨.z,(.s (.s .z)),trivial⟩,h⟩ SB ?_
 clear h hI;rintro⟨fuel1,i1,r3,e1,a7,c13,a8,c14,a9,c15,a10,c16⟩ w5 ⟨c17,hI,h⟩
 dsimp only at hI h ⊢
 rcases fuel1 with _ | fuel1
 ·rw[bs]at h;cases h
 rw[bs]at h
 refine T ?_
 refine al (vm h et (fun hb h=> ?_) (fun hb h=> ?_))
 ·refine T ?_
  refine al (T ?_)
  refine bw (α:=aa×(Option Addr)×Nat) (fun _=>⟨32,[]⟩) (fun x=>[(0,vp b1 0),(6,vp b2 0),(7,vp b3 0),(13,vi many1),(14,vi i1)]) (fun x=>fun w=>∃ C,Bun C0 F w0 C w [MO.box b1 67 (af (x.1) (x.2.1) (x.2.2)),MO.box b2 39 #[vi 0,(aE ([]:List UInt8)),vi 0,vi 0,vi 0,vi 0,vi 0,vi 0,vi 0,vi 0,vs none 0 0,vs none 0 0,vs none 0 0],MO.box b3 39 (aq e1 a8 c14 a9 c15 a10 c16),MO.row ai 64 a8 c14 e1.Lin.L,MO.row ak 132 a9 c15 e1.Idx,MO.row an 39 a10 c16 e1.Args] [Cl.sl ag (x.2.1) (x.2.2) (x.1).l,av]∧dL rec_ e1 (bs many1 rec_ fuel1) i1 (x.1)=some r) ?_ ?_
  ·clear h hI;rintro⟨r4,a11,c18⟩ w6 ⟨c19,hI,h⟩
   try dsimp only at hI h ⊢
   rw[dL]at h
   rcases iM h with⟨⟨r5,s2⟩,hx2,h⟩ | ⟨pa_,pn_,hx2,hp_⟩
   rotate_left
   ·subst hp_
    refine aI [3,5,7] false (.c (0,.q) (.c (2,.q) (.two 1 (.c (3,.s) dk) 3 (.two 1 dk 4 (.c (1,.s) eu))))) hI (by kernel_rfl) (by kernel_rfl) ?_
    intro w13 hI
    refine V ?_
    refine da ?_ ?_
    ·skip
     refine bn rfl gn rfl (bo (v:=(vs a10 e1.Args.length c16)) rfl et HA rfl (CellsAt.of_blk (hI.blk (.s (.s .z))) rfl)) SX.self ?_
     refine bJ (F:=F) (C:=c19) rfl rfl ?_
     obtain⟨c20,f2,hB,hl2,hk2⟩:=hI.hands (.l (.r (.r (.r (.r (.r .n))))))
     refine fp rfl gn rfl (aF (vs:=[vp b1 0]) rfl qw ⟨et,trivial⟩) (Calls.mono (hrec HS hx2) ?_)
     intro e_ w_ hq_;obtain⟨rfl,C_,hB_⟩:=eY hq_;obtain⟨C9_,-,hI_⟩:=hk2 _ _ _ _ hB_;exact .inr ⟨_,rfl,iK (.inr ⟨_,_,rfl,rfl,⟨_,hI_.arr .n trivial⟩⟩)⟩
    refine bu (F:=F) (C:=c19) rfl rfl ?_
    obtain⟨c20,f2,hB,hl2,hk2⟩:=hI.hands (.l (.r (.r (.r (.r (.r .n))))))
    refine fp rfl gn rfl (aF (vs:=[vp b1 0]) rfl qw ⟨et,trivial⟩) (Calls.mono (hrec HS hx2) ?_)
    intro e_ w_ hq_;obtain⟨rfl,C_,hB_⟩:=eY hq_;obtain⟨C9_,-,hI_⟩:=hk2 _ _ _ _ hB_;exact .inr ⟨_,rfl,iK (.inr ⟨_,_,rfl,rfl,⟨_,hI_.arr .n trivial⟩⟩)⟩
   try dsimp only at h
   obtain⟨zs1,hx3,h⟩:=ae h
   refine aI [3,5,7] false (.c (0,.q) (.c (2,.q) (.two 1 (.c (3,.s) dk) 3 (.two 1 dk 4 (.c (1,.s) eu))))) hI (by kernel_rfl) (by kernel_rfl) ?_
   intro w14 hI
   refine cj (α:=(Option Addr)×Nat×(Option Addr)×Nat×(Option Addr)×Nat×(Option Addr)×Nat×Nat×NP) (T:=eu) (fun x=>[(0,vp b1 0),(6,vp b2 0),(7,vp b3 0),(13,vi many1),(14,vi i1),(21,vp b3 12),(22,vs a10 e1.Args.length c16),(23,vp b1 0),(24,(Value.agg (aq r5 (x.1) (x.2.1) (x.2.2.1) (x.2.2.2.1) (x.2.2.2.2.1) (x.2.2.2.2.2.1)))),(25,(vs (some ⟨(x.2.2.2.2.2.2.2.2.1),0,none⟩) ([r5]:List GExpr).length 1))]) (fun x w=>Bun C0 F w0 (x.2.2.2.2.2.2.2.2.2) w [MO.row an 39 (some ⟨(x.2.2.2.2.2.2.2.2.1),0,none⟩) 1 ([r5]:List GExpr),MO.box b1 67 (af s2 (x.2.2.2.2.2.2.1) (x.2.2.2.2.2.2.2.1)),MO.box b2 39 #[vi 0,(aE ([]:List UInt8)),vi 0,vi 0,vi 0,vi 0,vi 0,vi 0,vi 0,vi 0,vs none 0 0,vs none 0 0,vs none 0 0],MO.box b3 39 (aq e1 a8 c14 a9 c15 a10 c16),MO.row ai 64 a8 c14 e1.Lin.L,MO.row ak 132 a9 c15 e1.Idx,MO.row an 39 a10 c16 e1.Args] [Cl.sl ai (x.1) (x.2.1) r5.Lin.L,Cl.sl ak (x.2.2.1) (x.2.2.2.1) r5.Idx,Cl.sl an (x.2.2.2.2.1) (x.2.2.2.2.2.1) r5.Args,Cl.sl ag (x.2.2.2.2.2.2.1) (x.2.2.2.2.2.2.2.1) s2.l,Cl.sl ag a11 c18 r4.l,av]) (fun x w=>SN [] (DM true F (x.2.2.2.2.2.2.2.2.2)) w) ?_ ?_
   ·clear hI;rintro⟨a12,c21,a13,c22,a14,c23,a15,c24,b4,c32⟩ w12 hI
    try dsimp only at hI ⊢
    unfold eu
    refine rp (xs:=e1.Args) (ys:=([r5]:List GExpr)) hI (.s (.s (.s (.s (.s (.s .z)))))) (hI.rd .z) hx3 rfl gn rfl rfl HA jr rfl rfl et et ?_
    intro a16 c28 c29 w9 hI
    refine V ?_
    refine vS fun c30 w10 hI=> ?_
    refine V ?_
    refine T ?_
    refine aM ?_
    exact jY (fuel1,ar (i1+1),s2,(⟨e1.Op,e1.Name,e1.Val,e1.Type_,e1.Lin,e1.Idx,zs1⟩:GExpr),a15,c24,a8,c14,a9,c15,a16,c28) SB ⟨_,hI.arr GO SU,h⟩ (Nat.lt_succ_self _)
   intro hk_tr_parser_reader_call_w_3_1
   refine cj (α:=(Option Addr)×Nat×(Option Addr)×Nat×(Option Addr)×Nat×(Option Addr)×Nat×NP) (T:=dk) (fun x=>[(0,vp b1 0),(6,vp b2 0),(7,vp b3 0),(13,vi many1),(14,vi i1),(21,vp b3 12),(22,vs a10 e1.Args.length c16),(23,vp b1 0),(24,(Value.agg (aq r5 (x.1) (x.2.1) (x.2.2.1) (x.2.2.2.1) (x.2.2.2.2.1) (x.2.2.2.2.2.1))))]) (fun x w=>Bun C0 F w0 (x.2.2.2.2.2.2.2.2) w [MO.box b1 67 (af s2 (x.2.2.2.2.2.2.1) (x.2.2.2.2.2.2.2.1)),MO.box b2 39 #[vi 0,(aE ([]:List UInt8)),vi 0,vi 0,vi 0,vi 0,vi 0,vi 0,vi 0,vi 0,vs none 0 0,vs none 0 0,vs none 0 0],MO.box b3 39 (aq e1 a8 c14 a9 c15 a10 c16),MO.row ai 64 a8 c14 e1.Lin.L,MO.row ak 132 a9 c15 e1.Idx,MO.row an 39 a10 c16 e1.Args] [Cl.sl ai (x.1) (x.2.1) r5.Lin.L,Cl.sl ak (x.2.2.1) (x.2.2.2.1) r5.Idx,Cl.sl an (x.2.2.2.2.1) (x.2.2.2.2.2.1) r5.Args,Cl.sl ag (x.2.2.2.2.2.2.1) (x.2.2.2.2.2.2.2.1) s2.l,Cl.sl ag a11 c18 r4.l,av]) (fun x w=>SN [] (DM true F (x.2.2.2.2.2.2.2.2)) w) ?_ ?_
   ·clear hI;rintro⟨a12,c21,a13,c22,a14,c23,a15,c24,c31⟩ w11 hI
    try dsimp only at hI ⊢
    unfold dk
    refine vl hI an ([r5]:List GExpr) jr (.cs (dM ⟨a12,c21,a13,c22,a14,c23,rfl,hI.get .z,hI.get (.s .z),hI.get (.s (.s .z))⟩) .nl) fun b4 c27 w8 hI=> ?_
    exact aW (hk_tr_parser_reader_call_w_3_1 (a12,c21,a13,c22,a14,c23,a15,c24,b4,c27) _ (hI.arr GO SU)) SB
   intro hk_tr_parser_reader_call_w_3_0
   refine V ?_
   refine da ?_ ?_
   ·skip
    refine bn rfl gn rfl (bo (v:=(vs a10 e1.Args.length c16)) rfl et HA rfl (CellsAt.of_blk (hI.blk (.s (.s .z))) rfl)) SX.self ?_
    refine bJ (F:=F) (C:=c19) rfl rfl ?_
    obtain⟨c20,f2,hB,hl2,hk2⟩:=hI.hands (.l (.r (.r (.r (.r (.r .n))))))
    refine fo rfl gn rfl (aF (vs:=[vp b1 0]) rfl qw ⟨et,trivial⟩) (Calls.mono (hrec HS hx2) ?_)
    intro e_ w7 hq_;obtain⟨a12,c21,a13,c22,a14,c23,a15,c24,c25,rfl,hB2⟩:=eX hq_
    obtain⟨c26,hs2,hI⟩:=hk2 _ _ _ _ hB2
    dsimp only[ca,na]at hI
    refine⟨_,rfl,DM true F c26,hs2,?_⟩
    exact aW (hk_tr_parser_reader_call_w_3_0 (a12,c21,a13,c22,a14,c23,a15,c24,c26) _ (hI.arr GO SU)) SB
   refine bu (F:=F) (C:=c19) rfl rfl ?_
   obtain⟨c20,f2,hB,hl2,hk2⟩:=hI.hands (.l (.r (.r (.r (.r (.r .n))))))
   refine fo rfl gn rfl (aF (vs:=[vp b1 0]) rfl qw ⟨et,trivial⟩) (Calls.mono (hrec HS hx2) ?_)
   intro e_ w7 hq_;obtain⟨a12,c21,a13,c22,a14,c23,a15,c24,c25,rfl,hB2⟩:=eX hq_
   obtain⟨c26,hs2,hI⟩:=hk2 _ _ _ _ hB2
   dsimp only[ca,na]at hI
   refine⟨_,rfl,DM true F c26,hs2,?_⟩
   refine da ?_ ?_
   ·skip
    refine bn rfl gn rfl (bo (v:=(vs a10 e1.Args.length c16)) rfl et HA rfl (CellsAt.of_blk (hI.blk (.s (.s .z))) rfl)) SX.self ?_
    exact aW (hk_tr_parser_reader_call_w_3_0 (a12,c21,a13,c22,a14,c23,a15,c24,c26) _ (hI.arr GO SU)) SB
   refine vl hI an ([r5]:List GExpr) jr (.cs (dM ⟨a12,c21,a13,c22,a14,c23,rfl,hI.get .z,hI.get (.s .z),hI.get (.s (.s .z))⟩) .nl) fun b4 c27 w8 hI=> ?_
   refine bn rfl gn rfl (bo (v:=(vs a10 e1.Args.length c16)) rfl et HA rfl (CellsAt.of_blk (hI.blk (.s (.s (.s .z)))) rfl)) SX.self ?_
   exact aW (hk_tr_parser_reader_call_w_3_1 (a12,c21,a13,c22,a14,c23,a15,c24,b4,c27) _ (hI.arr GO SU)) SB
  refine TC (fun hb h=> ?_) fun hb h=> ?_
  ·refine T ?_
   obtain⟨c33,f3,hB,hl3,hk3⟩:=hI.hands (.r (.r (.r (.l (.r (.r .n))))))
   refine eG h (fun _ hx4=>aR HS hx4) (lw hk3) (Rc Tryz.func104) ?_
   rintro⟨r6,s3⟩ hx4 h _ w15 ⟨a17,c34,c35,rfl,hB2⟩
   try dsimp only at h
   refine HN hk3 hB2 fun c36 hI=> ?_
   refine⟨_,rfl,?_⟩
   refine aM ?_
   exact bi (s3,a17,c34) SB ⟨_,hI.arr GO SU,h⟩ rfl
  exact bf (bi (r3,a7,c13) SB ⟨_,hI.arr GO SU,h⟩ rfl)
 refine bk ?_
 refine eU ?_
 refine bb ?_
 refine T ?_
 obtain⟨c37,f4,hB,hl4,hk4⟩:=hI.hands (.r (.r (.r (.l (.r (.r .n))))))
 refine eG h (fun _ hx5=>kA HS hx5) (lw hk4) (Rc Tryz.func254) ?_
 rintro⟨r7,s4⟩ hx5 h _ w16 ⟨a18,c38,c39,rfl,hB2⟩
 try dsimp only at h
 refine HN hk4 hB2 fun c40 hI=> ?_
 refine⟨_,rfl,?_⟩
 refine T ?_
 refine lA fun c41 w17 hI=> ?_
 refine nk (aA ?_)
 obtain⟨c42,hI⟩:=hI.release (.s .z)
 obtain⟨c43,hI⟩:=hI.release (.s .z)
 obtain⟨c44,hI⟩:=hI.release (.s .z)
 obtain rfl:=aj h
 refine QG ?_
 exact .inl ⟨_,rfl,a8,c14,a9,c15,a10,c16,a18,c38,_,rfl,hI.arr GO SU⟩
def en:Tr:=(.c (6,.s) .n)
def eo:Tr:=(.c (5,.s) en)
def ep:Tr:=(.c (0,.s) (.c (4,.q) en))
def es:Tr:=(.c (3,.s) (.c (4,.q) en))
def dh:Tr:=(.two 0 es 3 ep)
def bS:Tr:=(.c (2,.s) es)
def di:Tr:=(.two 3 (.c (4,.q) eo) 5 es)
theorem qi {rec_:(aa→Option (bz (GExpr×aa)))} (hrec:x9 rec_) {r1:aa} (hI:Bun C0 F w0 C0 w0 [MO.box b1 67 (af r1 a1 c1)] [Cl.sl ag a1 c1 r1.l,av]) {r:bz (GExpr×aa)} (h:fi rec_ r1=some r):CP C0 F w0 257 #[vp b1 0] r fun rx e w=>∃ a2 c2 a3 c3 a4 c4 a5 c5 C,e= .returned (Value.agg (aq rx.1 a2 c2 a3 c3 a4 c4))∧Bun C0 F w0 C w [MO.box b1 67 (af rx.2 a5 c5)] [Cl.sl ai a2 c2 rx.1.Lin.L,Cl.sl ak a3 c3 rx.1.Idx,Cl.sl an a4 c4 rx.1.Args,Cl.sl ag a5 c5 rx.2.l]:=by
 refine fU (l:=[vp b1 0]) Tryz.func257 rfl Tryz.ntmps257 rfl ?_
 rw[fi]at h
 refine sr (cF (cs:=#[vi 0,(aE ([]:List UInt8)),vi 0,vi 0,vi 0,vi 0,vi 0,vi 0,vi 0,vi 0,vs none 0 0,vs none 0 0,vs none 0 0]) hI gn rfl rfl dN rfl ?_)
 intro b2 c6 w1 hI
 refine T ?_
 obtain⟨c7,f1,hB,hl1,hk1⟩:=hI.hands (.r (.l .n))
 refine eG h (fun _ hx1=>kQ HS hx1) (lw hk1) (Rc Tryz.func253) ?_
 rintro⟨r2,s1⟩ hx1 h _ w2 ⟨a6,c8,c9,rfl,hB2⟩
 try dsimp only at h
 refine HN hk1 hB2 fun c10 hI=> ?_
 refine⟨_,rfl,?_⟩
 refine T ?_
 obtain⟨c11,f2,hB,hl2,hk2⟩:=hI.hands (.l (.r .n))
 refine eG h (fun _ hx2=>nH HS hx2) (lw hk2) (Rc Tryz.func174) ?_
 rintro⟨r3,s2⟩ hx2 h _ w3 ⟨a7,c12,c13,rfl,hB2⟩
 try dsimp only at h
 refine HN hk2 hB2 fun c14 hI=> ?_
 refine⟨_,rfl,?_⟩
 refine lN fun b3 c15 w4 hI=> ?_
 refine lA fun c16 w5 hI=> ?_
 refine T ?_
 obtain⟨c17,f3,hB,hl3,hk3⟩:=hI.hands (.r (.l (.r .n)))
 refine eG h (fun _ hx3=>aR HS hx3) (lw hk3) (Rc Tryz.func104) ?_
 rintro⟨r4,s3⟩ hx3 h _ w6 ⟨a8,c18,c19,rfl,hB2⟩
 try dsimp only at h
 refine HN hk3 hB2 fun c20 hI=> ?_
 refine⟨_,rfl,?_⟩
 refine nk (al ?_)
 rcases iM h with⟨⟨r5,s4⟩,hx4,h⟩ | ⟨pa_,pn_,hx4,hp_⟩
 rotate_left
 ·subst hp_
  refine aI [2,6] false (.c (1,.q) (.three 0 (.two 2 di 5 bS) 2 (.three 0 di 3 (.two 0 (.c (4,.q) eo) 5 ep) 5 dh) 5 (.two 0 bS 2 dh))) hI (by kernel_rfl) (by kernel_rfl) ?_
  intro w18 hI
  refine cj (α:=Nat×NP) (T:=bS) (fun x=>[(0,vp b1 0),(2,vp b2 0),(3,vp b3 0),(4,(Value.pointer (some ⟨(x.1),0,none⟩))),(5,vp b1 0),(6,(Value.tuple #[])),(7,vp b1 0),(8,(Value.agg (co r3))),(9,vp b1 0),(10,(Value.tuple #[])),(11,(Value.agg (co r3))),(12,vp b1 0)]) (fun x w=>Bun C0 F w0 (x.2) w [MO.box (x.1) 39 #[vi 0,(aE ([]:List UInt8)),vi 0,vi 0,vi 0,vi 0,vi 0,vi 0,vi 0,vi 0,vs none 0 0,vs none 0 0,vs none 0 0],MO.box b1 67 (af s3 a8 c18),MO.box b3 35 (co r3),MO.box b2 39 #[vi 0,(aE ([]:List UInt8)),vi 0,vi 0,vi 0,vi 0,vi 0,vi 0,vi 0,vi 0,vs none 0 0,vs none 0 0,vs none 0 0]] [Cl.sl ag a8 c18 s3.l,Cl.sl ag a7 c12 s2.l,Cl.sl ag a6 c8 s1.l,Cl.sl ag a1 c1 r1.l,av]) (fun x w=>SN [2,6] (DM false F (x.2)) w) ?_ ?_
  ·clear hI;rintro⟨b5,c32⟩ w12 hI
   try dsimp only at hI ⊢
   unfold bS
   refine bJ (F:=F) (C:=c32) rfl rfl ?_
   obtain⟨c21,f4,hB,hl4,hk4⟩:=hI.hands (.r (.l (.r (.r .n))))
   refine fp rfl gn rfl (aF (vs:=[vp b1 0]) rfl qw ⟨et,trivial⟩) (Calls.mono (hrec HS hx4) ?_)
   intro e_ w_ hq_;obtain⟨rfl,C_,hB_⟩:=eY hq_;obtain⟨C9_,-,hI_⟩:=hk4 _ _ _ _ hB_;exact .inr ⟨_,rfl,iK (.inr ⟨_,_,rfl,rfl,⟨_,hI_.arr .n trivial⟩⟩)⟩
  intro hk_tr_parser_reader_cast_w_1_1
  refine V ?_
  refine tw ?_ ?_ ?_
  ·skip
   refine bn rfl gn rfl (am (l:=(dD r3)) rfl et qr rfl cD (CellsAt.of_blk (hI.blk (.s .z)) rfl)) SX.self ?_
   refine da ?_ ?_
   ·skip
    refine bu (F:=F) (C:=c20) rfl rfl ?_
    obtain⟨c21,f4,hB,hl4,hk4⟩:=hI.hands (.l (.r (.r .n)))
    refine fp rfl gn rfl (aF (vs:=[vp b1 0]) rfl qw ⟨et,trivial⟩) (Calls.mono (hrec HS hx4) ?_)
    intro e_ w_ hq_;obtain⟨rfl,C_,hB_⟩:=eY hq_;obtain⟨C9_,-,hI_⟩:=hk4 _ _ _ _ hB_;exact .inr ⟨_,rfl,iK (.inr ⟨_,_,rfl,rfl,⟨_,hI_.arr .n trivial⟩⟩)⟩
   refine gb (cs:=#[vi 0,(aE ([]:List UInt8)),vi 0,vi 0,vi 0,vi 0,vi 0,vi 0,vi 0,vi 0,vs none 0 0,vs none 0 0,vs none 0 0]) hI rfl gn rfl rfl dN rfl ?_
   intro b5 c29 w9 hI
   exact aW (hk_tr_parser_reader_cast_w_1_1 (b5,c29) _ (hI.arr GO SU)) SB
  ·skip
   refine bu (F:=F) (C:=c20) rfl rfl ?_
   obtain⟨c21,f4,hB,hl4,hk4⟩:=hI.hands (.l (.r (.r .n)))
   refine fp rfl gn rfl (aF (vs:=[vp b1 0]) rfl qw ⟨et,trivial⟩) (Calls.mono (hrec HS hx4) ?_)
   intro e_ w_ hq_;obtain⟨rfl,C_,hB_⟩:=eY hq_;obtain⟨C9_,-,hI_⟩:=hk4 _ _ _ _ hB_;exact .inr ⟨_,rfl,iK (.inr ⟨_,_,rfl,rfl,⟨_,hI_.arr .n trivial⟩⟩)⟩
  refine gb (cs:=#[vi 0,(aE ([]:List UInt8)),vi 0,vi 0,vi 0,vi 0,vi 0,vi 0,vi 0,vi 0,vs none 0 0,vs none 0 0,vs none 0 0]) hI rfl gn rfl rfl dN rfl ?_
  intro b5 c29 w9 hI
  refine da ?_ ?_
  ·skip
   refine bn rfl gn rfl (am (l:=(dD r3)) rfl et qr rfl cD (CellsAt.of_blk (hI.blk (.s (.s .z))) rfl)) SX.self ?_
   exact aW (hk_tr_parser_reader_cast_w_1_1 (b5,c29) _ (hI.arr GO SU)) SB
  refine bu (F:=F) (C:=c29) rfl rfl ?_
  obtain⟨c21,f4,hB,hl4,hk4⟩:=hI.hands (.r (.l (.r (.r .n))))
  refine fp rfl gn rfl (aF (vs:=[vp b1 0]) rfl qw ⟨et,trivial⟩) (Calls.mono (hrec HS hx4) ?_)
  intro e_ w_ hq_;obtain⟨rfl,C_,hB_⟩:=eY hq_;obtain⟨C9_,-,hI_⟩:=hk4 _ _ _ _ hB_;exact .inr ⟨_,rfl,iK (.inr ⟨_,_,rfl,rfl,⟨_,hI_.arr .n trivial⟩⟩)⟩
 try dsimp only at h
 refine aI [2,6] false (.c (1,.q) (.three 0 (.two 2 di 5 bS) 2 (.three 0 di 3 (.two 0 (.c (4,.q) eo) 5 ep) 5 dh) 5 (.two 0 bS 2 dh))) hI (by kernel_rfl) (by kernel_rfl) ?_
 intro w19 hI
 refine cj (α:=(Option Addr)×Nat×(Option Addr)×Nat×(Option Addr)×Nat×(Option Addr)×Nat×Nat×Nat×NP) (T:=en) (fun x=>[(0,vp b1 0),(2,vp b2 0),(3,vp b3 0),(4,(Value.pointer (some ⟨(x.2.2.2.2.2.2.2.2.2.1),0,none⟩))),(5,vp b1 0),(6,(Value.tuple #[])),(7,vp b1 0),(8,(Value.agg (co r3))),(9,vp b1 0),(10,(Value.tuple #[])),(11,(Value.agg (co r3))),(12,vp b1 0),(13,(Value.agg (aq r5 (x.1) (x.2.1) (x.2.2.1) (x.2.2.2.1) (x.2.2.2.2.1) (x.2.2.2.2.2.1)))),(14,(vs (some ⟨(x.2.2.2.2.2.2.2.2.1),0,none⟩) ([r5]:List GExpr).length 1)),(15,(Value.agg #[vi 12,(aE ([]:List UInt8)),vi 0,vi 0,vi r3.Kind,vi r3.Bits,vi r3.Frac,vi r3.Round,vi r3.Over,vi 0,vs none 0 0,vs none 0 0,(vs (some ⟨(x.2.2.2.2.2.2.2.2.1),0,none⟩) ([r5]:List GExpr).length 1)]))]) (fun x w=>Bun C0 F w0 (x.2.2.2.2.2.2.2.2.2.2) w [MO.row an 39 (some ⟨(x.2.2.2.2.2.2.2.2.1),0,none⟩) 1 ([r5]:List GExpr),MO.box (x.2.2.2.2.2.2.2.2.2.1) 39 #[vi 0,(aE ([]:List UInt8)),vi 0,vi 0,vi 0,vi 0,vi 0,vi 0,vi 0,vi 0,vs none 0 0,vs none 0 0,vs none 0 0],MO.box b1 67 (af s4 (x.2.2.2.2.2.2.1) (x.2.2.2.2.2.2.2.1)),MO.box b3 35 (co r3),MO.box b2 39 #[vi 0,(aE ([]:List UInt8)),vi 0,vi 0,vi 0,vi 0,vi 0,vi 0,vi 0,vi 0,vs none 0 0,vs none 0 0,vs none 0 0]] [Cl.sl ai (x.1) (x.2.1) r5.Lin.L,Cl.sl ak (x.2.2.1) (x.2.2.2.1) r5.Idx,Cl.sl an (x.2.2.2.2.1) (x.2.2.2.2.2.1) r5.Args,Cl.sl ag (x.2.2.2.2.2.2.1) (x.2.2.2.2.2.2.2.1) s4.l,Cl.sl ag a8 c18 s3.l,Cl.sl ag a7 c12 s2.l,Cl.sl ag a6 c8 s1.l,Cl.sl ag a1 c1 r1.l,av]) (fun x w=>SN [] (DM true F (x.2.2.2.2.2.2.2.2.2.2)) w) ?_ ?_
 ·clear hI;rintro⟨a9,c22,a10,c23,a11,c24,a12,c25,b4,b5,c37⟩ w17 hI
  try dsimp only at hI ⊢
  unfold en
  refine vA fun c30 w10 hI=> ?_
  refine V ?_
  refine T ?_
  obtain⟨c38,f5,hB,hl5,hk5⟩:=hI.hands (.r (.r (.l (.r (.r .n)))))
  refine eG h (fun _ hx5=>kA HS hx5) (lw hk5) (Rc Tryz.func254) ?_
  rintro⟨r6,s5⟩ hx5 h _ w20 ⟨a13,c39,c40,rfl,hB2⟩
  try dsimp only at h
  refine HN hk5 hB2 fun c41 hI=> ?_
  refine⟨_,rfl,?_⟩
  refine T ?_
  refine lA fun c42 w21 hI=> ?_
  refine nk (aA ?_)
  obtain⟨c43,hI⟩:=hI.release (.s .z)
  have hI:=hI.add (c:=Cl.sl ai none 0 ([]:List GMono)) SlC.nil
  have hI:=hI.add (c:=Cl.sl ak none 0 ([]:List GIndex)) SlC.nil
  obtain rfl:=aj h
  refine QG ?_
  exact .inl ⟨_,rfl,none,0,none,0,some ⟨b4,0,none⟩,1,a13,c39,_,rfl,hI.arr GO SU⟩
 intro hk_tr_parser_reader_cast_w_1_6
 refine cj (α:=(Option Addr)×Nat×(Option Addr)×Nat×(Option Addr)×Nat×(Option Addr)×Nat×Nat×NP) (T:=eo) (fun x=>[(0,vp b1 0),(2,vp b2 0),(3,vp b3 0),(5,vp b1 0),(6,(Value.tuple #[])),(7,vp b1 0),(8,(Value.agg (co r3))),(9,vp b1 0),(10,(Value.tuple #[])),(11,(Value.agg (co r3))),(12,vp b1 0),(13,(Value.agg (aq r5 (x.1) (x.2.1) (x.2.2.1) (x.2.2.2.1) (x.2.2.2.2.1) (x.2.2.2.2.2.1)))),(14,(vs (some ⟨(x.2.2.2.2.2.2.2.2.1),0,none⟩) ([r5]:List GExpr).length 1)),(15,(Value.agg #[vi 12,(aE ([]:List UInt8)),vi 0,vi 0,vi r3.Kind,vi r3.Bits,vi r3.Frac,vi r3.Round,vi r3.Over,vi 0,vs none 0 0,vs none 0 0,(vs (some ⟨(x.2.2.2.2.2.2.2.2.1),0,none⟩) ([r5]:List GExpr).length 1)]))]) (fun x w=>Bun C0 F w0 (x.2.2.2.2.2.2.2.2.2) w [MO.row an 39 (some ⟨(x.2.2.2.2.2.2.2.2.1),0,none⟩) 1 ([r5]:List GExpr),MO.box b1 67 (af s4 (x.2.2.2.2.2.2.1) (x.2.2.2.2.2.2.2.1)),MO.box b3 35 (co r3),MO.box b2 39 #[vi 0,(aE ([]:List UInt8)),vi 0,vi 0,vi 0,vi 0,vi 0,vi 0,vi 0,vi 0,vs none 0 0,vs none 0 0,vs none 0 0]] [Cl.sl ai (x.1) (x.2.1) r5.Lin.L,Cl.sl ak (x.2.2.1) (x.2.2.2.1) r5.Idx,Cl.sl an (x.2.2.2.2.1) (x.2.2.2.2.2.1) r5.Args,Cl.sl ag (x.2.2.2.2.2.2.1) (x.2.2.2.2.2.2.2.1) s4.l,Cl.sl ag a8 c18 s3.l,Cl.sl ag a7 c12 s2.l,Cl.sl ag a6 c8 s1.l,Cl.sl ag a1 c1 r1.l,av]) (fun x w=>SN [] (DM true F (x.2.2.2.2.2.2.2.2.2)) w) ?_ ?_
 ·clear hI;rintro⟨a9,c22,a10,c23,a11,c24,a12,c25,b4,c36⟩ w16 hI
  try dsimp only at hI ⊢
  unfold eo
  refine gb (cs:=#[vi 0,(aE ([]:List UInt8)),vi 0,vi 0,vi 0,vi 0,vi 0,vi 0,vi 0,vi 0,vs none 0 0,vs none 0 0,vs none 0 0]) hI rfl gn rfl rfl dN rfl ?_
  intro b5 c29 w9 hI
  exact aW (hk_tr_parser_reader_cast_w_1_6 (a9,c22,a10,c23,a11,c24,a12,c25,b4,b5,c29) _ (hI.arr GO SU)) SB
 intro hk_tr_parser_reader_cast_w_1_5
 refine cj (α:=(Option Addr)×Nat×(Option Addr)×Nat×(Option Addr)×Nat×(Option Addr)×Nat×Nat×Nat×NP) (T:=ep) (fun x=>[(0,vp b1 0),(2,vp b2 0),(3,vp b3 0),(4,(Value.pointer (some ⟨(x.2.2.2.2.2.2.2.2.2.1),0,none⟩))),(5,vp b1 0),(6,(Value.tuple #[])),(7,vp b1 0),(8,(Value.agg (co r3))),(9,vp b1 0),(10,(Value.tuple #[])),(12,vp b1 0),(13,(Value.agg (aq r5 (x.1) (x.2.1) (x.2.2.1) (x.2.2.2.1) (x.2.2.2.2.1) (x.2.2.2.2.2.1)))),(14,(vs (some ⟨(x.2.2.2.2.2.2.2.2.1),0,none⟩) ([r5]:List GExpr).length 1))]) (fun x w=>Bun C0 F w0 (x.2.2.2.2.2.2.2.2.2.2) w [MO.box (x.2.2.2.2.2.2.2.2.2.1) 39 #[vi 0,(aE ([]:List UInt8)),vi 0,vi 0,vi 0,vi 0,vi 0,vi 0,vi 0,vi 0,vs none 0 0,vs none 0 0,vs none 0 0],MO.row an 39 (some ⟨(x.2.2.2.2.2.2.2.2.1),0,none⟩) 1 ([r5]:List GExpr),MO.box b1 67 (af s4 (x.2.2.2.2.2.2.1) (x.2.2.2.2.2.2.2.1)),MO.box b3 35 (co r3),MO.box b2 39 #[vi 0,(aE ([]:List UInt8)),vi 0,vi 0,vi 0,vi 0,vi 0,vi 0,vi 0,vi 0,vs none 0 0,vs none 0 0,vs none 0 0]] [Cl.sl ai (x.1) (x.2.1) r5.Lin.L,Cl.sl ak (x.2.2.1) (x.2.2.2.1) r5.Idx,Cl.sl an (x.2.2.2.2.1) (x.2.2.2.2.2.1) r5.Args,Cl.sl ag (x.2.2.2.2.2.2.1) (x.2.2.2.2.2.2.2.1) s4.l,Cl.sl ag a8 c18 s3.l,Cl.sl ag a7 c12 s2.l,Cl.sl ag a6 c8 s1.l,Cl.sl ag a1 c1 r1.l,av]) (fun x w=>SN [] (DM true F (x.2.2.2.2.2.2.2.2.2.2)) w) ?_ ?_
 ·clear hI;rintro⟨a9,c22,a10,c23,a11,c24,a12,c25,b4,b5,c35⟩ w15 hI
  try dsimp only at hI ⊢
  unfold ep
  refine bn rfl gn rfl (am (l:=(dD r3)) rfl et qr rfl cD (CellsAt.of_blk (hI.blk (.s (.s (.s .z)))) rfl)) SX.self ?_
  refine l6 rfl gn rfl (fun w'=>(ax (vs:=[(0,vi 12),(3,(Value.agg (co r3))),(6,vs (some ⟨b4,0,none⟩) ([r5]:List GExpr).length 1)]) (cs:=#[vi 12,(aE ([]:List UInt8)),vi 0,vi 0,vi r3.Kind,vi r3.Bits,vi r3.Frac,vi r3.Round,vi r3.Over,vi 0,vs none 0 0,vs none 0 0,vs (some ⟨b4,0,none⟩) ([r5]:List GExpr).length 1]) rfl ⟨rfl,ao,⟨rfl,et,⟨rfl,et,trivial⟩⟩⟩ (by kernel_rfl))) ?_
  exact aW (hk_tr_parser_reader_cast_w_1_6 (a9,c22,a10,c23,a11,c24,a12,c25,b4,b5,c35) _ (hI.arr GO SU)) SB
 intro hk_tr_parser_reader_cast_w_1_4
 refine cj (α:=(Option Addr)×Nat×(Option Addr)×Nat×(Option Addr)×Nat×(Option Addr)×Nat×Nat×NP) (T:=es) (fun x=>[(0,vp b1 0),(2,vp b2 0),(3,vp b3 0),(4,(Value.pointer (some ⟨(x.2.2.2.2.2.2.2.2.1),0,none⟩))),(5,vp b1 0),(6,(Value.tuple #[])),(7,vp b1 0),(8,(Value.agg (co r3))),(9,vp b1 0),(10,(Value.tuple #[])),(11,(Value.agg (co r3))),(12,vp b1 0),(13,(Value.agg (aq r5 (x.1) (x.2.1) (x.2.2.1) (x.2.2.2.1) (x.2.2.2.2.1) (x.2.2.2.2.2.1))))]) (fun x w=>Bun C0 F w0 (x.2.2.2.2.2.2.2.2.2) w [MO.box (x.2.2.2.2.2.2.2.2.1) 39 #[vi 0,(aE ([]:List UInt8)),vi 0,vi 0,vi 0,vi 0,vi 0,vi 0,vi 0,vi 0,vs none 0 0,vs none 0 0,vs none 0 0],MO.box b1 67 (af s4 (x.2.2.2.2.2.2.1) (x.2.2.2.2.2.2.2.1)),MO.box b3 35 (co r3),MO.box b2 39 #[vi 0,(aE ([]:List UInt8)),vi 0,vi 0,vi 0,vi 0,vi 0,vi 0,vi 0,vi 0,vs none 0 0,vs none 0 0,vs none 0 0]] [Cl.sl ai (x.1) (x.2.1) r5.Lin.L,Cl.sl ak (x.2.2.1) (x.2.2.2.1) r5.Idx,Cl.sl an (x.2.2.2.2.1) (x.2.2.2.2.2.1) r5.Args,Cl.sl ag (x.2.2.2.2.2.2.1) (x.2.2.2.2.2.2.2.1) s4.l,Cl.sl ag a8 c18 s3.l,Cl.sl ag a7 c12 s2.l,Cl.sl ag a6 c8 s1.l,Cl.sl ag a1 c1 r1.l,av]) (fun x w=>SN [] (DM true F (x.2.2.2.2.2.2.2.2.2)) w) ?_ ?_
 ·clear hI;rintro⟨a9,c22,a10,c23,a11,c24,a12,c25,b5,c34⟩ w14 hI
  try dsimp only at hI ⊢
  unfold es
  refine vl hI an ([r5]:List GExpr) jr (.cs (dM ⟨a9,c22,a10,c23,a11,c24,rfl,hI.get .z,hI.get (.s .z),hI.get (.s (.s .z))⟩) .nl) fun b4 c28 w8 hI=> ?_
  refine l6 rfl gn rfl (fun w'=>(ax (vs:=[(0,vi 12),(3,(Value.agg (co r3))),(6,vs (some ⟨b4,0,none⟩) ([r5]:List GExpr).length 1)]) (cs:=#[vi 12,(aE ([]:List UInt8)),vi 0,vi 0,vi r3.Kind,vi r3.Bits,vi r3.Frac,vi r3.Round,vi r3.Over,vi 0,vs none 0 0,vs none 0 0,vs (some ⟨b4,0,none⟩) ([r5]:List GExpr).length 1]) rfl ⟨rfl,ao,⟨rfl,et,⟨rfl,et,trivial⟩⟩⟩ (by kernel_rfl))) ?_
  exact aW (hk_tr_parser_reader_cast_w_1_6 (a9,c22,a10,c23,a11,c24,a12,c25,b4,b5,c28) _ (hI.arr GO SU)) SB
 intro hk_tr_parser_reader_cast_w_1_3
 refine cj (α:=(Option Addr)×Nat×(Option Addr)×Nat×(Option Addr)×Nat×(Option Addr)×Nat×Nat×NP) (T:=dh) (fun x=>[(0,vp b1 0),(2,vp b2 0),(3,vp b3 0),(4,(Value.pointer (some ⟨(x.2.2.2.2.2.2.2.2.1),0,none⟩))),(5,vp b1 0),(6,(Value.tuple #[])),(7,vp b1 0),(8,(Value.agg (co r3))),(9,vp b1 0),(10,(Value.tuple #[])),(12,vp b1 0),(13,(Value.agg (aq r5 (x.1) (x.2.1) (x.2.2.1) (x.2.2.2.1) (x.2.2.2.2.1) (x.2.2.2.2.2.1))))]) (fun x w=>Bun C0 F w0 (x.2.2.2.2.2.2.2.2.2) w [MO.box (x.2.2.2.2.2.2.2.2.1) 39 #[vi 0,(aE ([]:List UInt8)),vi 0,vi 0,vi 0,vi 0,vi 0,vi 0,vi 0,vi 0,vs none 0 0,vs none 0 0,vs none 0 0],MO.box b1 67 (af s4 (x.2.2.2.2.2.2.1) (x.2.2.2.2.2.2.2.1)),MO.box b3 35 (co r3),MO.box b2 39 #[vi 0,(aE ([]:List UInt8)),vi 0,vi 0,vi 0,vi 0,vi 0,vi 0,vi 0,vi 0,vs none 0 0,vs none 0 0,vs none 0 0]] [Cl.sl ai (x.1) (x.2.1) r5.Lin.L,Cl.sl ak (x.2.2.1) (x.2.2.2.1) r5.Idx,Cl.sl an (x.2.2.2.2.1) (x.2.2.2.2.2.1) r5.Args,Cl.sl ag (x.2.2.2.2.2.2.1) (x.2.2.2.2.2.2.2.1) s4.l,Cl.sl ag a8 c18 s3.l,Cl.sl ag a7 c12 s2.l,Cl.sl ag a6 c8 s1.l,Cl.sl ag a1 c1 r1.l,av]) (fun x w=>SN [] (DM true F (x.2.2.2.2.2.2.2.2.2)) w) ?_ ?_
 ·clear hI;rintro⟨a9,c22,a10,c23,a11,c24,a12,c25,b5,c33⟩ w13 hI
  try dsimp only at hI ⊢
  unfold dh
  refine da ?_ ?_
  ·skip
   refine bn rfl gn rfl (am (l:=(dD r3)) rfl et qr rfl cD (CellsAt.of_blk (hI.blk (.s (.s .z))) rfl)) SX.self ?_
   exact aW (hk_tr_parser_reader_cast_w_1_3 (a9,c22,a10,c23,a11,c24,a12,c25,b5,c33) _ (hI.arr GO SU)) SB
  refine vl hI an ([r5]:List GExpr) jr (.cs (dM ⟨a9,c22,a10,c23,a11,c24,rfl,hI.get .z,hI.get (.s .z),hI.get (.s (.s .z))⟩) .nl) fun b4 c28 w8 hI=> ?_
  exact aW (hk_tr_parser_reader_cast_w_1_4 (a9,c22,a10,c23,a11,c24,a12,c25,b4,b5,c28) _ (hI.arr GO SU)) SB
 intro hk_tr_parser_reader_cast_w_1_2
 refine cj (α:=Nat×NP) (T:=bS) (fun x=>[(0,vp b1 0),(2,vp b2 0),(3,vp b3 0),(4,(Value.pointer (some ⟨(x.1),0,none⟩))),(5,vp b1 0),(6,(Value.tuple #[])),(7,vp b1 0),(8,(Value.agg (co r3))),(9,vp b1 0),(10,(Value.tuple #[])),(11,(Value.agg (co r3))),(12,vp b1 0)]) (fun x w=>Bun C0 F w0 (x.2) w [MO.box (x.1) 39 #[vi 0,(aE ([]:List UInt8)),vi 0,vi 0,vi 0,vi 0,vi 0,vi 0,vi 0,vi 0,vs none 0 0,vs none 0 0,vs none 0 0],MO.box b1 67 (af s3 a8 c18),MO.box b3 35 (co r3),MO.box b2 39 #[vi 0,(aE ([]:List UInt8)),vi 0,vi 0,vi 0,vi 0,vi 0,vi 0,vi 0,vi 0,vs none 0 0,vs none 0 0,vs none 0 0]] [Cl.sl ag a8 c18 s3.l,Cl.sl ag a7 c12 s2.l,Cl.sl ag a6 c8 s1.l,Cl.sl ag a1 c1 r1.l,av]) (fun x w=>SN [2,6] (DM false F (x.2)) w) ?_ ?_
 ·clear hI;rintro⟨b5,c32⟩ w12 hI
  try dsimp only at hI ⊢
  unfold bS
  refine bJ (F:=F) (C:=c32) rfl rfl ?_
  obtain⟨c21,f4,hB,hl4,hk4⟩:=hI.hands (.r (.l (.r (.r .n))))
  refine fo rfl gn rfl (aF (vs:=[vp b1 0]) rfl qw ⟨et,trivial⟩) (Calls.mono (hrec HS hx4) ?_)
  intro e_ w7 hq_;obtain⟨a9,c22,a10,c23,a11,c24,a12,c25,c26,rfl,hB2⟩:=eX hq_
  obtain⟨c27,hs4,hI⟩:=hk4 _ _ _ _ hB2
  dsimp only[ca,na]at hI
  refine⟨_,rfl,DM true F c27,hs4,?_⟩
  exact aW (hk_tr_parser_reader_cast_w_1_3 (a9,c22,a10,c23,a11,c24,a12,c25,b5,c27) _ (hI.arr GO SU)) SB
 intro hk_tr_parser_reader_cast_w_1_1
 refine cj (α:=(Option Addr)×Nat×(Option Addr)×Nat×(Option Addr)×Nat×(Option Addr)×Nat×NP) (T:=di) (fun x=>[(0,vp b1 0),(2,vp b2 0),(3,vp b3 0),(5,vp b1 0),(6,(Value.tuple #[])),(7,vp b1 0),(8,(Value.agg (co r3))),(9,vp b1 0),(10,(Value.tuple #[])),(11,(Value.agg (co r3))),(12,vp b1 0),(13,(Value.agg (aq r5 (x.1) (x.2.1) (x.2.2.1) (x.2.2.2.1) (x.2.2.2.2.1) (x.2.2.2.2.2.1))))]) (fun x w=>Bun C0 F w0 (x.2.2.2.2.2.2.2.2) w [MO.box b1 67 (af s4 (x.2.2.2.2.2.2.1) (x.2.2.2.2.2.2.2.1)),MO.box b3 35 (co r3),MO.box b2 39 #[vi 0,(aE ([]:List UInt8)),vi 0,vi 0,vi 0,vi 0,vi 0,vi 0,vi 0,vi 0,vs none 0 0,vs none 0 0,vs none 0 0]] [Cl.sl ai (x.1) (x.2.1) r5.Lin.L,Cl.sl ak (x.2.2.1) (x.2.2.2.1) r5.Idx,Cl.sl an (x.2.2.2.2.1) (x.2.2.2.2.2.1) r5.Args,Cl.sl ag (x.2.2.2.2.2.2.1) (x.2.2.2.2.2.2.2.1) s4.l,Cl.sl ag a8 c18 s3.l,Cl.sl ag a7 c12 s2.l,Cl.sl ag a6 c8 s1.l,Cl.sl ag a1 c1 r1.l,av]) (fun x w=>SN [] (DM true F (x.2.2.2.2.2.2.2.2)) w) ?_ ?_
 ·clear hI;rintro⟨a9,c22,a10,c23,a11,c24,a12,c25,c31⟩ w11 hI
  try dsimp only at hI ⊢
  unfold di
  refine da ?_ ?_
  ·skip
   refine vl hI an ([r5]:List GExpr) jr (.cs (dM ⟨a9,c22,a10,c23,a11,c24,rfl,hI.get .z,hI.get (.s .z),hI.get (.s (.s .z))⟩) .nl) fun b4 c28 w8 hI=> ?_
   refine l6 rfl gn rfl (fun w'=>(ax (vs:=[(0,vi 12),(3,(Value.agg (co r3))),(6,vs (some ⟨b4,0,none⟩) ([r5]:List GExpr).length 1)]) (cs:=#[vi 12,(aE ([]:List UInt8)),vi 0,vi 0,vi r3.Kind,vi r3.Bits,vi r3.Frac,vi r3.Round,vi r3.Over,vi 0,vs none 0 0,vs none 0 0,vs (some ⟨b4,0,none⟩) ([r5]:List GExpr).length 1]) rfl ⟨rfl,ao,⟨rfl,et,⟨rfl,et,trivial⟩⟩⟩ (by kernel_rfl))) ?_
   exact aW (hk_tr_parser_reader_cast_w_1_5 (a9,c22,a10,c23,a11,c24,a12,c25,b4,c28) _ (hI.arr GO SU)) SB
  refine gb (cs:=#[vi 0,(aE ([]:List UInt8)),vi 0,vi 0,vi 0,vi 0,vi 0,vi 0,vi 0,vi 0,vs none 0 0,vs none 0 0,vs none 0 0]) hI rfl gn rfl rfl dN rfl ?_
  intro b5 c29 w9 hI
  exact aW (hk_tr_parser_reader_cast_w_1_3 (a9,c22,a10,c23,a11,c24,a12,c25,b5,c29) _ (hI.arr GO SU)) SB
 intro hk_tr_parser_reader_cast_w_1_0
 refine V ?_
 refine tw ?_ ?_ ?_
 ·skip
  refine bn rfl gn rfl (am (l:=(dD r3)) rfl et qr rfl cD (CellsAt.of_blk (hI.blk (.s .z)) rfl)) SX.self ?_
  refine da ?_ ?_
  ·skip
   refine bu (F:=F) (C:=c20) rfl rfl ?_
   obtain⟨c21,f4,hB,hl4,hk4⟩:=hI.hands (.l (.r (.r .n)))
   refine fo rfl gn rfl (aF (vs:=[vp b1 0]) rfl qw ⟨et,trivial⟩) (Calls.mono (hrec HS hx4) ?_)
   intro e_ w7 hq_;obtain⟨a9,c22,a10,c23,a11,c24,a12,c25,c26,rfl,hB2⟩:=eX hq_
   obtain⟨c27,hs4,hI⟩:=hk4 _ _ _ _ hB2
   dsimp only[ca,na]at hI
   refine⟨_,rfl,DM true F c27,hs4,?_⟩
   exact aW (hk_tr_parser_reader_cast_w_1_0 (a9,c22,a10,c23,a11,c24,a12,c25,c27) _ (hI.arr GO SU)) SB
  refine gb (cs:=#[vi 0,(aE ([]:List UInt8)),vi 0,vi 0,vi 0,vi 0,vi 0,vi 0,vi 0,vi 0,vs none 0 0,vs none 0 0,vs none 0 0]) hI rfl gn rfl rfl dN rfl ?_
  intro b5 c29 w9 hI
  exact aW (hk_tr_parser_reader_cast_w_1_1 (b5,c29) _ (hI.arr GO SU)) SB
 ·skip
  refine bu (F:=F) (C:=c20) rfl rfl ?_
  obtain⟨c21,f4,hB,hl4,hk4⟩:=hI.hands (.l (.r (.r .n)))
  refine fo rfl gn rfl (aF (vs:=[vp b1 0]) rfl qw ⟨et,trivial⟩) (Calls.mono (hrec HS hx4) ?_)
  intro e_ w7 hq_;obtain⟨a9,c22,a10,c23,a11,c24,a12,c25,c26,rfl,hB2⟩:=eX hq_
  obtain⟨c27,hs4,hI⟩:=hk4 _ _ _ _ hB2
  dsimp only[ca,na]at hI
  refine⟨_,rfl,DM true F c27,hs4,?_⟩
  refine tw ?_ ?_ ?_
  ·skip
   refine bn rfl gn rfl (am (l:=(dD r3)) rfl et qr rfl cD (CellsAt.of_blk (hI.blk (.s .z)) rfl)) SX.self ?_
   exact aW (hk_tr_parser_reader_cast_w_1_0 (a9,c22,a10,c23,a11,c24,a12,c25,c27) _ (hI.arr GO SU)) SB
  ·skip
   refine vl hI an ([r5]:List GExpr) jr (.cs (dM ⟨a9,c22,a10,c23,a11,c24,rfl,hI.get .z,hI.get (.s .z),hI.get (.s (.s .z))⟩) .nl) fun b4 c28 w8 hI=> ?_
   refine da ?_ ?_
   ·skip
    refine bn rfl gn rfl (am (l:=(dD r3)) rfl et qr rfl cD (CellsAt.of_blk (hI.blk (.s (.s .z))) rfl)) SX.self ?_
    refine l6 rfl gn rfl (fun w'=>(ax (vs:=[(0,vi 12),(3,(Value.agg (co r3))),(6,vs (some ⟨b4,0,none⟩) ([r5]:List GExpr).length 1)]) (cs:=#[vi 12,(aE ([]:List UInt8)),vi 0,vi 0,vi r3.Kind,vi r3.Bits,vi r3.Frac,vi r3.Round,vi r3.Over,vi 0,vs none 0 0,vs none 0 0,vs (some ⟨b4,0,none⟩) ([r5]:List GExpr).length 1]) rfl ⟨rfl,ao,⟨rfl,et,⟨rfl,et,trivial⟩⟩⟩ (by kernel_rfl))) ?_
    exact aW (hk_tr_parser_reader_cast_w_1_5 (a9,c22,a10,c23,a11,c24,a12,c25,b4,c28) _ (hI.arr GO SU)) SB
   refine gb (cs:=#[vi 0,(aE ([]:List UInt8)),vi 0,vi 0,vi 0,vi 0,vi 0,vi 0,vi 0,vi 0,vs none 0 0,vs none 0 0,vs none 0 0]) hI rfl gn rfl rfl dN rfl ?_
   intro b5 c29 w9 hI
   exact aW (hk_tr_parser_reader_cast_w_1_4 (a9,c22,a10,c23,a11,c24,a12,c25,b4,b5,c29) _ (hI.arr GO SU)) SB
  refine gb (cs:=#[vi 0,(aE ([]:List UInt8)),vi 0,vi 0,vi 0,vi 0,vi 0,vi 0,vi 0,vi 0,vs none 0 0,vs none 0 0,vs none 0 0]) hI rfl gn rfl rfl dN rfl ?_
  intro b5 c29 w9 hI
  exact aW (hk_tr_parser_reader_cast_w_1_2 (a9,c22,a10,c23,a11,c24,a12,c25,b5,c29) _ (hI.arr GO SU)) SB
 refine gb (cs:=#[vi 0,(aE ([]:List UInt8)),vi 0,vi 0,vi 0,vi 0,vi 0,vi 0,vi 0,vi 0,vs none 0 0,vs none 0 0,vs none 0 0]) hI rfl gn rfl rfl dN rfl ?_
 intro b5 c29 w9 hI
 refine da ?_ ?_
 ·skip
  refine bn rfl gn rfl (am (l:=(dD r3)) rfl et qr rfl cD (CellsAt.of_blk (hI.blk (.s (.s .z))) rfl)) SX.self ?_
  exact aW (hk_tr_parser_reader_cast_w_1_1 (b5,c29) _ (hI.arr GO SU)) SB
 refine bu (F:=F) (C:=c29) rfl rfl ?_
 obtain⟨c21,f4,hB,hl4,hk4⟩:=hI.hands (.r (.l (.r (.r .n))))
 refine fo rfl gn rfl (aF (vs:=[vp b1 0]) rfl qw ⟨et,trivial⟩) (Calls.mono (hrec HS hx4) ?_)
 intro e_ w7 hq_;obtain⟨a9,c22,a10,c23,a11,c24,a12,c25,c26,rfl,hB2⟩:=eX hq_
 obtain⟨c27,hs4,hI⟩:=hk4 _ _ _ _ hB2
 dsimp only[ca,na]at hI
 refine⟨_,rfl,DM true F c27,hs4,?_⟩
 exact aW (hk_tr_parser_reader_cast_w_1_2 (a9,c22,a10,c23,a11,c24,a12,c25,b5,c27) _ (hI.arr GO SU)) SB
theorem pJ {r1:aa} (hI:Bun C0 F w0 C0 w0 [MO.box b1 67 (af r1 a1 c1)] [Cl.sl ag a1 c1 r1.l,av]) {r:bz (List GLin×aa)} (h:fZ r1=some r):CP C0 F w0 175 #[vp b1 0] r fun rx e w=>∃ a2 c2 a3 c3 C,e= .returned (vs a2 rx.1.length c2)∧Bun C0 F w0 C w [MO.box b1 67 (af rx.2 a3 c3)] [Cl.sl fS a2 c2 rx.1,Cl.sl ag a3 c3 rx.2.l]:=by
 refine fU (l:=[vp b1 0]) Tryz.func175 rfl Tryz.ntmps175 rfl ?_
 rw[fZ]at h
 refine T ?_
 refine al (T ?_)
 obtain⟨c4,f1,hB,hl1,hk1⟩:=hI.hands (.l .n)
 obtain⟨⟨r2,s1⟩,hx1,h⟩:=ae h
 try dsimp only at h
 refine aB gn rfl (Rc Tryz.func68) (Calls.mono (aO HS hx1) ?_)
 rintro _ w1 ⟨a4,c5,c6,rfl,hB2⟩
 refine HN hk1 hB2 fun c7 hI=> ?_
 refine⟨_,rfl,?_⟩
 refine TC (fun hb h=> ?_) fun hb h=> ?_
 ·refine T ?_
  refine aA ?_
  have hI:=hI.add (c:=Cl.sl fS none 0 ([]:List GLin)) SlC.nil
  obtain rfl:=aj h
  refine QG ?_
  exact .inl ⟨_,rfl,none,0,a4,c5,_,rfl,hI.arr GO SU⟩
 refine T ?_
 obtain⟨c8,f2,hB,hl2,hk2⟩:=hI.hands (.l .n)
 refine eG h (fun _ hx2=>gE HS hx2) (lw hk2) (Rc Tryz.func31) ?_
 rintro⟨r3,s2⟩ hx2 h _ w2 ⟨a5,c9,a6,c10,c11,rfl,hB2⟩
 try dsimp only at h
 refine HN hk2 hB2 fun c12 hI=> ?_
 refine⟨_,rfl,?_⟩
 refine ll hI fS ([r3]:List GLin) pd (.cs ⟨a5,c9,rfl,hI.get .z⟩ .nl) fun b2 c13 w3 hI=> ?_
 refine T ?_
 refine al (T ?_)
 refine bh (α:=Nat×(List GLin)×aa×(Option Addr)×Nat×(Option Addr)×Nat) (fun x=>fun w=>∃ C,Bun C0 F w0 C w [MO.row fS 27 (x.2.2.2.1) (x.2.2.2.2.1) (x.2.1),MO.box b1 67 (af (x.2.2.1) (x.2.2.2.2.2.1) (x.2.2.2.2.2.2))] [Cl.sl ag (x.2.2.2.2.2.1) (x.2.2.2.2.2.2) (x.2.2.1).l,av]∧cC (x.1) (x.2.1) (x.2.2.1)=some r) (fun x _=>x.1) (fun x=>[(0,vp b1 0),(3,vs (x.2.2.2.1) (x.2.1).length (x.2.2.2.2.1))]) (fu,([r3]:List GLin),s2,some ⟨b2,0,none⟩,1,a6,c10) BH SB ?_
 clear h hI;rintro⟨fuel1,bg,r4,a7,c14,a8,c15⟩ w4 ⟨c16,hI,h⟩
 dsimp only at hI h ⊢
 rcases fuel1 with _ | fuel1
 ·rw[cC]at h;cases h
 rw[cC]at h
 refine al (T ?_)
 obtain⟨c17,f3,hB,hl3,hk3⟩:=hI.hands (.r (.l .n))
 obtain⟨⟨r5,s3⟩,hx3,h⟩:=ae h
 try dsimp only at h
 refine aB gn rfl (Rc Tryz.func68) (Calls.mono (aO HS hx3) ?_)
 rintro _ w5 ⟨a9,c18,c19,rfl,hB2⟩
 refine HN hk3 hB2 fun c20 hI=> ?_
 refine⟨_,rfl,?_⟩
 refine TC (fun hb h=> ?_) fun hb h=> ?_
 ·have hk4:=hb
  refine T ?_
  obtain⟨c21,f4,hB,hl4,hk5⟩:=hI.hands (.l (.r .n))
  refine eG h (fun _ hx4=>gE HS hx4) (lw hk5) (Rc Tryz.func31) ?_
  rintro⟨r6,s4⟩ hx4 h _ w6 ⟨a10,c22,a11,c23,c24,rfl,hB2⟩
  try dsimp only at h
  refine HN hk5 hB2 fun c25 hI=> ?_
  refine⟨_,rfl,?_⟩
  refine ll hI fS ([r6]:List GLin) pd (.cs ⟨a10,c22,rfl,hI.get .z⟩ .nl) fun b3 c26 w7 hI=> ?_
  obtain⟨zs1,hx5,h⟩:=ae h
  refine lY (xs:=bg) (ys:=([r6]:List GLin)) hI (.s (.s .z)) (hI.rd .z) hx5 gn rfl rfl FU pd rfl rfl et et ?_
  intro a12 c27 c28 w8 hI
  refine sa ?_
  refine aM ?_
  exact kl (fuel1,zs1,s4,a12,c27,a11,c23)
 refine bk ?_
 refine eU ?_
 refine bb ?_
 refine T ?_
 obtain⟨c29,f5,hB,hl5,hk6⟩:=hI.hands (.l (.r .n))
 refine eG h (fun _ hx6=>aR HS hx6) (lw hk6) (Rc Tryz.func104) ?_
 rintro⟨r7,s5⟩ hx6 h _ w9 ⟨a13,c30,c31,rfl,hB2⟩
 try dsimp only at h
 refine HN hk6 hB2 fun c32 hI=> ?_
 refine⟨_,rfl,?_⟩
 refine T ?_
 refine aA ?_
 obtain⟨c33,hI⟩:=hI.release (.s .z)
 obtain rfl:=aj h
 refine QG ?_
 exact .inl ⟨_,rfl,a7,c14,a13,c30,_,rfl,hI.arr GO SU⟩
end Go.Proofs.YtmhoikfoogemnaaGreatDoor
