import Derived.Test.YtmhoikfoogemnaaGreatDoorJCQ2b
import Derived.Test.YtmhoikfoogemnaaGreatDoorJLfJ
namespace Go.Proofs.YtmhoikfoogemnaaGreatDoor
open Go Go.RowKit Go.Vc
set_option maxRecDepth 100000
set_option maxHeartbeats 4000000
set_option linter.unusedVariables false
set_option linter.unusedSimpArgs false
variable {σ:Type} {C0 F:NP} {w0:World} {a1 a2 a3 a4 a5 a6 a7 a8 a9 a10 a11 a12:Option Addr} {b1 b2 b3 b4 b5 b6 b7 b8 b9 b10 b11 b12 c1 c2 c3 c4 c5 c6 c7 c8 c9 c10 c11 c12:Nat}
theorem uB (hF:dy F w0) {op1:Int} (hc:AllCl [] F w0) {r:Int} (h:kM op1=some r):CR F w0 200 #[vi op1] (vi r) []:=by
 refine EN Tryz.func200 Tryz.ntmps200 hF hc fun hI=> ?_
 rw[kM]at h
 refine T ?_
 refine al (T ?_)
 refine bw (α:=Bool) (fun _=>⟨14,[]⟩) (fun x=>[(3,vi op1),(4,vb x)]) (fun x=>fun w=>∃ C,Bun noM F w0 C w [] []∧gI op1 x=some r) ?_ ?_
 ·clear h hI;rintro i1 w1 ⟨c1,hI,h⟩
  try dsimp only at hI h ⊢
  rw[gI]at h
  refine TR fun hb h=> ?_
  refine bw (α:=Bool) (fun _=>⟨14,[]⟩) (fun x=>[(3,vi op1),(8,vb x)]) (fun x=>fun w=>∃ C,Bun noM F w0 C w [] []∧gH op1 x=some r) ?_ ?_
  ·clear h hI;rintro i2 w2 ⟨c2,hI,h⟩
   try dsimp only at hI h ⊢
   rw[gH]at h
   refine TR fun hb h=> ?_
   refine TR fun hb h=> ?_
   exact RF
  refine TC (fun hb h=> ?_) fun hb h=> ?_
  ·exact bb (bj (decide (op1=8)) SB BH rfl)
  refine TC (fun hb h=> ?_) fun hb h=> ?_
  ·exact bb (bj (decide (op1=12)) SB BH rfl)
  refine T ?_
  refine aK ?_
  exact kj (decide (op1=18))
 refine TC (fun hb h=> ?_) fun hb h=> ?_
 ·exact bb (bj (decide (op1=1)) SB BH rfl)
 refine TC (fun hb h=> ?_) fun hb h=> ?_
 ·exact bb (bj (decide (op1=2)) SB BH rfl)
 refine T ?_
 refine aK ?_
 exact kj (decide (op1=3))
theorem xi (hF:dy F w0) {x1:GIndex} (hc:AllCl [Cl.sl ah a1 c1 x1.Lin.L,Cl.sl fE a2 c2 x1.At] F w0) {r:Bool} (h:mq x1=some r):CR F w0 201 #[(Value.agg (jG x1 a1 c1 a2 c2))] (vb r) []:=by
 refine EN Tryz.func201 Tryz.ntmps201 hF hc fun hI=> ?_
 rw[mq]at h
 refine sr (lX fun b1 c4 w1 hI=> ?_)
 exact RF
theorem zZ (hF:dy F w0) {e1:GExpr} (hc:AllCl [Cl.sl ah a1 c1 e1.Lin.L,Cl.sl ak a2 c2 e1.Idx,Cl.sl an a3 c3 e1.Args] F w0) {r:Bool} (h:nS e1=some r):CR F w0 146 #[(Value.agg (ap e1 a1 c1 a2 c2 a3 c3))] (vb r) []:=by
 refine EN Tryz.func146 Tryz.ntmps146 hF hc fun hI=> ?_
 rw[nS]at h
 refine sr (lX fun b1 c5 w1 hI=> ?_)
 refine T ?_
 refine al (al (aD [] false (.c (0,.q) (.c (1,.q) (.c (2,.q) (.c (3,.q) (.c (4,.q) (.c (5,.s) (.c (6,.q) (.c (7,.q) (.c (8,.q) (.c (9,.q) (.c (10,.q) (.c (11,.q) (.c (12,.q) .n))))))))))))) hI (by kernel_rfl) (by kernel_rfl) ?_))
 intro w2 hI
 refine V ?_
 obtain⟨r1,hx1,h⟩:=ae h
 refine dR rfl gn rfl (aI (vs:=[vi e1.Op]) rfl F9 ⟨et,trivial⟩) (Calls.mono (uB hI.lt trivial hx1) ?_)
 rintro _ w3 ⟨rfl,hx2,hl1⟩
 refine⟨_,rfl,hx2,?_⟩
 replace hI:=(hI.ext hx2)
 refine V ?_
 refine TR fun hb h=> ?_
 refine T ?_
 have hI:=hI.add (c:=rh (Value.func (.func 201) #[] #[]) mq) ⟨rfl,fun D' w' hs hl x_1 A_2 c_3 A_4 c_5 r k h=>CallV.fn (cap:=[]) F8 (xi hl ⟨k.1,k.2.1,trivial⟩ h)⟩
 refine sB h (fun _ k=>dP hI.lt FS k) (Rc Tryz.func196) fun r2 w4 h hI=> ?_
 exact RF
theorem se (hF:dy F w0) {e1:GExpr} (hc:AllCl [Cl.sl ah a1 c1 e1.Lin.L,Cl.sl ak a2 c2 e1.Idx,Cl.sl an a3 c3 e1.Args] F w0) {r:Bool} (h:kC e1=some r):CR F w0 203 #[(Value.agg (ap e1 a1 c1 a2 c2 a3 c3))] (vb r) []:=by
 refine EN Tryz.func203 Tryz.ntmps203 hF hc fun hI=> ?_
 rw[kC]at h
 refine sr (lX fun b1 c5 w1 hI=> ?_)
 exact RF
theorem pl (hF:dy F w0) {op1 i1:Int} (hc:AllCl [] F w0) {r:Bool} (h:fv op1 i1=some r):CR F w0 204 #[vi op1,vi i1] (vb r) []:=by
 refine EN Tryz.func204 Tryz.ntmps204 hF hc fun hI=> ?_
 rw[fv]at h
 refine T ?_
 refine al (T ?_)
 refine al (T ?_)
 refine TC (fun hb h=> ?_) fun hb h=> ?_
 ·refine TR fun hb h=> ?_
  exact RF
 refine TC (fun hb h=> ?_) fun hb h=> ?_
 ·refine TR fun hb h=> ?_
  exact RF
 refine TR fun hb h=> ?_
 exact RF
theorem yv (hF:dy F w0) {e1:GExpr} (hc:AllCl [Cl.sl ah a1 c1 e1.Lin.L,Cl.sl ak a2 c2 e1.Idx,Cl.sl an a3 c3 e1.Args] F w0) {r:Bool} (h:mU e1=some r):CR F w0 147 #[(Value.agg (ap e1 a1 c1 a2 c2 a3 c3))] (vb r) []:=by
 refine EN Tryz.func147 Tryz.ntmps147 hF hc fun hI=> ?_
 rw[mU]at h
 refine sr (lX fun b1 c5 w1 hI=> ?_)
 refine T ?_
 refine al (T ?_)
 refine ay (aT rfl rfl rfl rfl) rfl (fun hc=>(am (l:=(dx e1.Type_)) rfl (aO et hc) qf rfl cA (hI.kblk (l:=(dx e1.Type_)) .z rfl).1)) ?_
 obtain⟨r1,hx1,h⟩:=ae h
 replace hx1:=ax hx1
 refine sU (fun hc=>jw hI.lt trivial (hx1 hc)) (Rg Tryz.func202) fun w2 hI=> ?_
 refine TR fun hb h=> ?_
 refine T ?_
 refine al (T ?_)
 refine bc (α:=Nat×Int) (fun x=>fun w=>∃ C,Bun noM F w0 C w [] [Cl.blk b1 39 (ap e1 a1 c1 a2 c2 a3 c3),Cl.sl ah a1 c1 e1.Lin.L,Cl.sl ak a2 c2 e1.Idx,Cl.sl an a3 c3 e1.Args]∧fD e1 (x.1) (x.2)=some r) (fun x _=>x.1) (fun x=>[(1,vp b1 0),(20,vs a3 e1.Args.length c3),(21,vi (e1.Args.length:Int)),(22,vi (x.2))]) (fu,0) BH SB ?_
 clear h hI;rintro⟨fuel1,i1⟩ w3 ⟨c6,hI,h⟩
 dsimp only at hI h ⊢
 rcases fuel1 with _ | fuel1
 ·rw[fD]at h;cases h
 rw[fD]at h
 refine T ?_
 refine al (wJ h et (fun hb h=> ?_) (fun hb h=> ?_))
 ·refine T ?_
  refine al (T ?_)
  obtain⟨e2,hx3,h⟩:=ae h
  obtain⟨ad1,cs1,hA1,hr1,hq1⟩:=hI.clat (.s (.s (.s .z))) hx3
  obtain⟨a4,c7,a5,c8,a6,c9,rfl,hf1,hf2,hf3⟩:=ij hr1
  have hI:=hI.ads hf1
  have hI:=hI.ads hf2
  have hI:=hI.ads hf3
  refine sI ?_
  refine T ?_
  refine lN fun b2 c10 w4 hI=> ?_
  refine sa ?_
  refine lA fun c11 w5 hI=> ?_
  refine nk (al (aD [] false (.c (0,.q) (.c (2,.q) (.c (3,.q) (.c (4,.q) (.c (1,.s) (.c (5,.s) (.c (6,.q) .n))))))) hI (by kernel_rfl) (by kernel_rfl) ?_))
  intro w6 hI
  refine cp rfl gn rfl (fun w' hw'=>(am (l:=(aU e2 a4 c7 a5 c8 a6 c9)) rfl et jy rfl aC ((CA.blk (hI.blk .z) rfl).at_ (SX.any rfl hw')))) (by kernel_rfl) ?_
  refine V ?_
  obtain⟨r2,hx4,h⟩:=ae h
  refine dR rfl gn rfl (aI (vs:=[(Value.agg (ap e2 a4 c7 a5 c8 a6 c9))]) rfl F7 ⟨et,trivial⟩) (Calls.mono (se hI.lt FS hx4) ?_)
  rintro _ w7 ⟨rfl,hx5,hl2⟩
  refine⟨_,rfl,hx5,?_⟩
  replace hI:=(hI.ext hx5)
  obtain⟨r3,hx6,h⟩:=ae h
  refine dR rfl gn rfl (aI (vs:=[vi e1.Op,vi i1]) rfl F6 ⟨et,⟨et,trivial⟩⟩) (Calls.mono (pl hI.lt trivial hx6) ?_)
  rintro _ w8 ⟨rfl,hx7,hl3⟩
  refine⟨_,rfl,hx7,?_⟩
  replace hI:=(hI.ext hx7)
  refine kW rfl gn rfl (fun w'=>CD rfl u4 et et) ?_
  refine V ?_
  refine TR fun hb h=> ?_
  refine T ?_
  refine aK ?_
  exact kl (fuel1,aq (i1+1))
 refine bh ?_
 refine eD ?_
 refine aX ?_
 exact RF
theorem wK (hF:dy F w0) {n1:Int} (hc:AllCl [] F w0) {r:Bool} (h:nG n1=some r):CR F w0 206 #[vi n1] (vb r) []:=by
 refine EN Tryz.func206 Tryz.ntmps206 hF hc fun hI=> ?_
 rw[nG]at h
 exact RF
theorem wM (hF:dy F w0) {t1:GType} {v1:GVal} (hc:AllCl [] F w0) {r:Bool} (h:ma t1 v1=some r):CR F w0 148 #[(Value.agg (ck t1)),(Value.agg (oP v1))] (vb r) []:=by
 refine EN Tryz.func148 Tryz.ntmps148 hF hc fun hI=> ?_
 rw[ma]at h
 refine sr (lX fun b1 c2 w1 hI=> ?_)
 refine lX fun b2 c4 w2 hI=> ?_
 refine T ?_
 refine al (sr (sq (am (l:=(dx t1)) rfl et qf rfl cA (hI.kblk (l:=(dx t1)) (.s .z) rfl).1) ?_))
 refine sB h (fun _ k=>jw hI.lt trivial k) (Rc Tryz.func202) fun r1 w3 h hI=> ?_
 refine TR fun hb h=> ?_
 refine T ?_
 refine al (T ?_)
 refine TC (fun hb h=> ?_) fun hb h=> ?_
 ·refine sr (sq (am (l:=(dx t1)) rfl et qf rfl cA (hI.kblk (l:=(dx t1)) (.s .z) rfl).1) ?_)
  refine sq (am (l:=(qq v1)) rfl et D9 rfl mG (hI.kblk (l:=(qq v1)) .z rfl).1) ?_
  refine sB h (fun _ k=>rJ hI.lt trivial k) (Rc Tryz.func205) fun r2 w4 h hI=> ?_
  exact RF
 refine TC (fun hb h=> ?_) fun hb h=> ?_
 ·refine T ?_
  obtain⟨r3,hx5,h⟩:=ae h
  replace hx5:=ax hx5
  refine sU (fun hc=>wK hI.lt trivial (hx5 hc)) (Rg Tryz.func206) fun w5 hI=> ?_
  exact RF
 refine T ?_
 refine sq (am (l:=(qq v1)) rfl et D9 rfl mG (hI.kblk (l:=(qq v1)) .z rfl).1) ?_
 refine sB h (fun _ k=>sS hI.lt trivial k) (Rc Tryz.func207) fun r4 w6 h hI=> ?_
 exact RF
theorem yx (hF:dy F w0) {e1:GExpr} (hc:AllCl [Cl.sl ah a1 c1 e1.Lin.L,Cl.sl ak a2 c2 e1.Idx,Cl.sl an a3 c3 e1.Args] F w0) {r:GExpr} (h:mW e1=some r):Cg 149 #[(Value.agg (ap e1 a1 c1 a2 c2 a3 c3))] w0 fun e w=>∃ b1 a4 c4 a5 c5 a6 c6,e= .returned (Value.func (.func 208) #[] #[vp b1 0])∧Ext w0 w∧AllCl [Cl.sl ah a4 c4 r.Lin.L,Cl.sl ak a5 c5 r.Idx,Cl.sl an a6 c6 r.Args,Cl.blk b1 39 (ap r a4 c4 a5 c5 a6 c6)] F w:=by
 refine EN Tryz.func149 Tryz.ntmps149 hF hc fun hI=> ?_
 rw[mW]at h
 refine sr (lX fun b2 c8 w1 hI=> ?_)
 refine T ?_
 refine sq (no (vs:=[]) (cap:=[vp b2 0]) rfl rfl ⟨et,trivial⟩) ?_
 refine T ?_
 refine az ?_
 obtain rfl:=ai h
 refine QG ?_
 exact⟨b2,a1,c1,a2,c2,a3,c3,rfl,hI.ext0,hI.fin ⟨(.s .z),(.s (.s .z)),(.s (.s (.s .z))),.z,trivial⟩⟩
theorem tL {I:StI σ} {yield1:(GLin→σ→Option (Bool×σ))} {a1:GExpr} {s1:σ} {fv1:Value} (hI:Bun C0 F w0 C0 w0 [MO.st I s1] [nW I fv1 yield1,Cl.sl ah a2 c1 a1.Lin.L,Cl.sl ak a3 c2 a1.Idx,Cl.sl an a4 c3 a1.Args,Cl.blk b1 39 (ap a1 a2 c1 a3 c2 a4 c3)]) {r:Unit×σ} (h:j6 yield1 a1 s1=some r):Cg 208 #[fv1,vp b1 0] w0 fun e w=>∃ C,e= .returned (Value.tuple #[])∧Bun C0 F w0 C w [MO.st I r.2] []:=by
 refine o9 Tryz.func208 rfl Tryz.ntmps208 rfl ?_
 rw[j6]at h
 refine al (sr (sm ?_))
 refine sq (aL rfl et jy rfl bq rfl) ?_
 refine sq (am (l:=(fO a1.Lin a2 c1)) rfl et ob rfl bq (hI.kblk (l:=(fO a1.Lin a2 c1)) (.s (.s (.s (.s .z)))) rfl).1) ?_
 obtain⟨⟨r1,s2⟩,hx1,h⟩:=ae h
 try dsimp only at h
 obtain⟨c4,f1,hB,hl1,hk1⟩:=hI.hands (.l .n)
 refine sj (args:=[(Value.agg (bO a1.Lin a2 c1))]) gn rfl rfl et ⟨et,trivial⟩ (CallV.mono ((hI.get .z).2 c4 f1 w0 (Sp.less hl1) a1.Lin a2 c1 s1 _ (hB.subs ⟨(.s .z),trivial⟩) hx1) ?_)
 rintro _ w1 ⟨c5,rfl,hB2⟩
 obtain⟨c6,hs1,hI⟩:=hk1 _ _ _ _ hB2
 replace hI:Bun C0 F w0 c6 w1 [MO.st I s2] [nW I fv1 yield1,Cl.sl ah a2 c1 a1.Lin.L,Cl.sl ak a3 c2 a1.Idx,Cl.sl an a4 c3 a1.Args,Cl.blk b1 39 (ap a1 a2 c1 a3 c2 a4 c3)]:=hI
 refine⟨_,rfl,?_⟩
 refine sq (xo rfl et) ?_
 refine TC (fun hb h=> ?_) fun hb h=> ?_
 ·refine az ?_
  obtain rfl:=ai h
  exact eG (vs:=[]) Tryz.results208 trivial ⟨_,rfl,hI.arr GO SU⟩
 refine bb (aX (sr (sq (aL rfl et jy rfl si rfl) ?_)))
 refine sq (bf (v:=(vs a3 a1.Idx.length c2)) rfl et xO rfl (hI.kblk (l:=[vs a3 a1.Idx.length c2]) (.s (.s (.s (.s .z)))) rfl).1) ?_
 refine sq (np rfl xO et) ?_
 refine sq (fj rfl aj) ?_
 refine nk (om (bc (α:=Nat×Int×σ) (fun x=>fun w=>∃ C,Bun C0 F w0 C w [MO.st I (x.2.2)] [nW I fv1 yield1,Cl.sl ak a3 c2 a1.Idx]∧bt a1 yield1 (x.1) (x.2.1) (x.2.2)=some r) (fun x _=>x.1) (fun x=>[(0,fv1),(13,vs a3 a1.Idx.length c2),(14,vi (a1.Idx.length:Int)),(15,vi (x.2.1))]) (fu,0,s2) BH SB ?_))
 clear h hI;rintro⟨fuel1,i1,s3⟩ w2 ⟨c7,hI,h⟩
 dsimp only at hI h ⊢
 rcases fuel1 with _ | fuel1
 ·rw[bt]at h;cases h
 rw[bt]at h
 refine sr (sq (qr rfl et et) ?_)
 refine nk (al (wJ h et (fun hb h=> ?_) (fun hb h=> ?_)))
 ·refine bb (aX (bw (α:=σ) (fun _=>⟨37,[]⟩) (fun x=>[(0,fv1),(13,vs a3 a1.Idx.length c2),(14,vi (a1.Idx.length:Int)),(15,vi i1)]) (fun x=>fun w=>∃ C,Bun C0 F w0 C w [MO.st I x] [nW I fv1 yield1,Cl.sl ak a3 c2 a1.Idx]∧jQ (bt a1 yield1 fuel1) i1 x=some r) ?_ ?_))
  ·clear h hI;rintro s4 w3 ⟨c8,hI,h⟩
   try dsimp only at hI h ⊢
   rw[jQ]at h
   refine kN rfl ?_
   refine sq (qc rfl et aj) ?_
   refine sm ?_
   refine aK ?_
   exact kl (fuel1,aq (i1+1),s4)
  refine om (sr ?_)
  obtain⟨e1,hx2,h⟩:=ae h
  obtain⟨ad1,cs1,hA1,hr1,hq1⟩:=hI.clat (.s .z) hx2
  obtain⟨a5,c9,a6,c10,rfl,hf1,hf2⟩:=hr1
  have hI:=hI.ads hf1
  have hI:=hI.ads hf2
  refine sq (iD rfl xO ot et et (ox hx2) hA1) ?_
  refine sq (am (l:=(oy e1 a5 c9 a6 c10)) rfl et uj rfl ot hq1.1) ?_
  refine lN fun b2 c11 w4 hI=> ?_
  refine lA fun c12 w5 hI=> ?_
  refine nk (al (sr (sm ?_)))
  refine sq (aL rfl et uj rfl bq rfl) ?_
  refine sq (am (l:=(fO e1.Lin a5 c9)) rfl et ob rfl bq (CellsAt.of_blk (hI.blk .z) rfl)) ?_
  obtain⟨⟨r2,s5⟩,hx3,h⟩:=ae h
  try dsimp only at h
  obtain⟨c13,f2,hB,hl2,hk2⟩:=hI.hands (.r (.l .n))
  refine sj (args:=[(Value.agg (bO e1.Lin a5 c9))]) gn rfl rfl et ⟨et,trivial⟩ (CallV.mono ((hI.get (.s (.s .z))).2 c13 f2 w5 (Sp.less hl2) e1.Lin a5 c9 s3 _ (hB.subs ⟨(.s .z),trivial⟩) hx3) ?_)
  rintro _ w6 ⟨c14,rfl,hB2⟩
  obtain⟨c15,hs2,hI⟩:=hk2 _ _ _ _ hB2
  replace hI:Bun C0 F w0 c15 w6 [MO.st I s5,MO.box b2 132 (jG e1 a5 c9 a6 c10)] [Cl.sl fE a6 c10 e1.At,Cl.sl ah a5 c9 e1.Lin.L,nW I fv1 yield1,Cl.sl ak a3 c2 a1.Idx]:=hI
  refine⟨_,rfl,?_⟩
  refine sq (xo rfl et) ?_
  refine TC (fun hb h=> ?_) fun hb h=> ?_
  ·refine az ?_
   obtain rfl:=ai h
   exact eG (vs:=[]) Tryz.results208 trivial ⟨_,rfl,hI.arr GO SU⟩
  refine bb (aX (sr (sq (aL rfl et uj rfl Bk rfl) ?_)))
  refine sq (bf (v:=(vs a6 e1.At.length c10)) rfl et E8 rfl (CellsAt.of_blk (hI.blk (.s .z)) rfl)) ?_
  refine sq (np rfl E8 et) ?_
  refine sq (fj rfl aj) ?_
  refine nk (om (bc (α:=Nat×Int×σ) (fun x=>fun w=>∃ C,Bun C0 F w0 C w [MO.st I (x.2.2)] [nW I fv1 yield1,Cl.sl ak a3 c2 a1.Idx,Cl.sl fE a6 c10 e1.At]∧dk e1 yield1 (bt a1 yield1 fuel1) i1 (x.1) (x.2.1) (x.2.2)=some r) (fun x _=>x.1) (fun x=>[(0,fv1),(13,vs a3 a1.Idx.length c2),(14,vi (a1.Idx.length:Int)),(15,vi i1),(25,vs a6 e1.At.length c10),(26,vi (e1.At.length:Int)),(27,vi (x.2.1))]) (fu,0,s5) BH SB ?_))
  clear h hI;rintro⟨fuel2,i2,s6⟩ w7 ⟨c16,hI,h⟩
  dsimp only at hI h ⊢
  rcases fuel2 with _ | fuel2
  ·rw[dk]at h;cases h
  rw[dk]at h
  refine sr (sq (qr rfl et et) ?_)
  refine nk (al (wJ h et (fun hb h=> ?_) (fun hb h=> ?_)))
  ·refine bb (aX (al (om (sr ?_))))
   obtain⟨e2,hx4,h⟩:=ae h
   obtain⟨ad2,cs2,hA2,hr2,hq2⟩:=hI.clat (.s (.s .z)) hx4
   obtain⟨a7,c17,rfl,hf3⟩:=hr2
   have hI:=hI.ads hf3
   refine sq (iD rfl E8 bq et et (ox hx4) hA2) ?_
   refine sq (am (l:=(fO e2 a7 c17)) rfl et ob rfl bq hq2.1) ?_
   refine lN fun b3 c18 w8 hI=> ?_
   refine lA fun c19 w9 hI=> ?_
   refine nk (sr (sm ?_))
   refine sq (am (l:=(fO e2 a7 c17)) rfl et ob rfl bq (CellsAt.of_blk (hI.blk .z) rfl)) ?_
   obtain⟨⟨r3,s7⟩,hx5,h⟩:=ae h
   try dsimp only at h
   obtain⟨c20,f3,hB,hl3,hk3⟩:=hI.hands (.r (.l .n))
   refine sj (args:=[(Value.agg (bO e2 a7 c17))]) gn rfl rfl et ⟨et,trivial⟩ (CallV.mono ((hI.get (.s .z)).2 c20 f3 w9 (Sp.less hl3) e2 a7 c17 s6 _ (hB.subs ⟨.z,trivial⟩) hx5) ?_)
   rintro _ w10 ⟨c21,rfl,hB2⟩
   obtain⟨c22,hs3,hI⟩:=hk3 _ _ _ _ hB2
   replace hI:Bun C0 F w0 c22 w10 [MO.st I s7,MO.box b3 27 (bO e2 a7 c17)] [Cl.sl ah a7 c17 e2.L,nW I fv1 yield1,Cl.sl ak a3 c2 a1.Idx,Cl.sl fE a6 c10 e1.At]:=hI
   refine⟨_,rfl,?_⟩
   refine sq (xo rfl et) ?_
   refine TC (fun hb h=> ?_) fun hb h=> ?_
   ·refine az ?_
    obtain rfl:=ai h
    exact eG (vs:=[]) Tryz.results208 trivial ⟨_,rfl,hI.arr GO SU⟩
   refine bb (aX (kN rfl ?_))
   refine sq (qc rfl et aj) ?_
   refine sm ?_
   refine aK ?_
   exact kl (fuel2,aq (i2+1),s7)
  refine bh ?_
  refine eD ?_
  exact kj s6
 refine bh ?_
 refine eD ?_
 obtain rfl:=ai h
 exact eG (vs:=[]) Tryz.results208 trivial ⟨_,rfl,hI.arr GO SU⟩
theorem tK (hF:dy F w0) {e1:GExpr} (hc:AllCl [Cl.sl ah a1 c1 e1.Lin.L,Cl.sl ak a2 c2 e1.Idx,Cl.sl an a3 c3 e1.Args,au] F w0) {r:Int} (h:j4 e1=some r):CR F w0 79 #[(Value.agg (ap e1 a1 c1 a2 c2 a3 c3))] (vi r) []:=by
 refine EN Tryz.func79 Tryz.ntmps79 hF hc fun hI=> ?_
 rw[j4]at h
 refine sr (lX fun b1 c5 w1 hI=> ?_)
 refine lN fun b2 c6 w2 hI=> ?_
 refine nk (al (T ?_))
 refine sq (am (l:=(aU e1 a1 c1 a2 c2 a3 c3)) rfl et jy rfl aC (hI.kblk (l:=(aU e1 a1 c1 a2 c2 a3 c3)) .z rfl).1) ?_
 refine sB h (fun _ k=>xh hI.lt FS k) (Rc Tryz.func144) fun r1 w3 h hI=> ?_
 refine TC (fun hb h=> ?_) fun hb h=> ?_
 ·refine sr (bg (new:=[vi 5]) (cs':=#[vi 5]) hI .z gn rfl rfl et aj rfl jN rfl rfl rfl ?_)
  intro c7 w4 hI
  refine nk (az ?_)
  obtain rfl:=ai h
  exact eG (vs:=[vi 5]) Tryz.results79 ⟨⟨_,aH rfl rfl,j8 (v:=(vi 5)) Af rfl (CellsAt.of_blk (hI.blk .z) rfl)⟩,trivial⟩ (fq hI trivial)
 refine sr (sq (am (l:=(aU e1 a1 c1 a2 c2 a3 c3)) rfl et jy rfl aC (hI.kblk (l:=(aU e1 a1 c1 a2 c2 a3 c3)) .z rfl).1) ?_)
 refine sB h (fun _ k=>yw hI.lt FS k) (Rc Tryz.func145) fun r2 w5 h hI=> ?_
 refine TC (fun hb h=> ?_) fun hb h=> ?_
 ·refine sr (bg (new:=[vi 7]) (cs':=#[vi 7]) hI .z gn rfl rfl et aj rfl jN rfl rfl rfl ?_)
  intro c8 w6 hI
  refine nk (az ?_)
  obtain rfl:=ai h
  exact eG (vs:=[vi 7]) Tryz.results79 ⟨⟨_,aH rfl rfl,j8 (v:=(vi 7)) Af rfl (CellsAt.of_blk (hI.blk .z) rfl)⟩,trivial⟩ (fq hI trivial)
 refine sr (sq (am (l:=(aU e1 a1 c1 a2 c2 a3 c3)) rfl et jy rfl aC (hI.kblk (l:=(aU e1 a1 c1 a2 c2 a3 c3)) .z rfl).1) ?_)
 refine sB h (fun _ k=>zZ hI.lt FS k) (Rc Tryz.func146) fun r3 w7 h hI=> ?_
 refine TC (fun hb h=> ?_) fun hb h=> ?_
 ·refine sr (bg (new:=[vi 11]) (cs':=#[vi 11]) hI .z gn rfl rfl et aj rfl jN rfl rfl rfl ?_)
  intro c9 w8 hI
  refine nk (az ?_)
  obtain rfl:=ai h
  exact eG (vs:=[vi 11]) Tryz.results79 ⟨⟨_,aH rfl rfl,j8 (v:=(vi 11)) Af rfl (CellsAt.of_blk (hI.blk .z) rfl)⟩,trivial⟩ (fq hI trivial)
 refine sr (sq (am (l:=(aU e1 a1 c1 a2 c2 a3 c3)) rfl et jy rfl aC (hI.kblk (l:=(aU e1 a1 c1 a2 c2 a3 c3)) .z rfl).1) ?_)
 refine sB h (fun _ k=>yv hI.lt FS k) (Rc Tryz.func147) fun r4 w9 h hI=> ?_
 refine TC (fun hb h=> ?_) fun hb h=> ?_
 ·refine sr (bg (new:=[vi 10]) (cs':=#[vi 10]) hI .z gn rfl rfl et aj rfl jN rfl rfl rfl ?_)
  intro c10 w10 hI
  refine nk (az ?_)
  obtain rfl:=ai h
  exact eG (vs:=[vi 10]) Tryz.results79 ⟨⟨_,aH rfl rfl,j8 (v:=(vi 10)) Af rfl (CellsAt.of_blk (hI.blk .z) rfl)⟩,trivial⟩ (fq hI trivial)
 refine T ?_
 refine ay (aT rfl rfl rfl rfl) rfl (fun hc=>(am (l:=(dx e1.Type_)) rfl (aO et hc) qf rfl cA (hI.kblk (l:=(dx e1.Type_)) .z rfl).1)) ?_
 refine T ?_
 refine ay (aT rfl rfl rfl rfl) rfl (fun hc=>(am (l:=(qq e1.Val)) rfl (aO et hc) D9 rfl mG (hI.kblk (l:=(qq e1.Val)) .z rfl).1)) ?_
 obtain⟨r5,hx9,h⟩:=ae h
 replace hx9:=ax hx9
 refine sU (fun hc=>wM hI.lt trivial (hx9 hc)) (Rg Tryz.func148) fun w11 hI=> ?_
 refine TC (fun hb h=> ?_) fun hb h=> ?_
 ·refine sr (bg (new:=[vi 1]) (cs':=#[vi 1]) hI .z gn rfl rfl et aj rfl jN rfl rfl rfl ?_)
  intro c11 w12 hI
  refine nk (az ?_)
  obtain rfl:=ai h
  exact eG (vs:=[vi 1]) Tryz.results79 ⟨⟨_,aH rfl rfl,j8 (v:=(vi 1)) Af rfl (CellsAt.of_blk (hI.blk .z) rfl)⟩,trivial⟩ (fq hI trivial)
 refine T ?_
 refine al (sr (sq (am (l:=(aU e1 a1 c1 a2 c2 a3 c3)) rfl et jy rfl aC (hI.kblk (l:=(aU e1 a1 c1 a2 c2 a3 c3)) .z rfl).1) ?_))
 obtain⟨r6,hx11,h⟩:=ae h
 refine aA gn rfl (Rc Tryz.func149) (Calls.mono (yx hI.lt FS hx11) ?_)
 rintro _ w13 ⟨b3,a4,c12,a5,c13,a6,c14,rfl,hx12,hl6⟩
 refine⟨_,rfl,?_⟩
 replace hI:=(hI.ext hx12).adds hl6;dsimp only[ca,na]at hI
 refine T ?_
 refine qK [Code.ret] hI et F5 (fun l1 q1 fn1 tm1 rc1 hrc1 c16 w15 hE1 hI=> ?_)
 obtain⟨c17,f1,hB,hl7,hk1⟩:=hI.hands (.l (.r (.l .n)))
 have hB:Bun c17 f1 w15 c17 w15 [MO.st (StI.loop l1 rc1 (fun(s:Int) (b:Unit)=>[MO.box b2 28 #[vi s]]) (fun(s:Int) (b:Unit)=>[Cl.blk b3 39 (ap r6 a4 c12 a5 c13 a6 c14),Cl.sl ah a4 c12 r6.Lin.L,Cl.sl ak a5 c13 r6.Idx,Cl.sl an a6 c14 r6.Args,au])) (0,0)] _:=Bun.mkst (b:=()) hB ⟨(.s (.s (.s .z))),.z,(.s .z),(.s (.s .z)),(.s (.s (.s (.s (.s (.s (.s (.s .z)))))))),trivial⟩
 have hY1:fnS_k7 (StI.loop l1 rc1 (fun(s:Int) (b:Unit)=>[MO.box b2 28 #[vi s]]) (fun(s:Int) (b:Unit)=>[Cl.blk b3 39 (ap r6 a4 c12 a5 c13 a6 c14),Cl.sl ah a4 c12 r6.Lin.L,Cl.sl ak a5 c13 r6.Idx,Cl.sl an a6 c14 r6.Args,au])) (Value.func (.yield l1) #[] #[]) (fun k_0 q=>if q.1=0 then dZ k_0 q.2 else none) (Dj f1 c17) w15:=by
  refine⟨rfl,fun C0 F w0 _=> ?_⟩
  rintro y1 a7 c18 ⟨o_,v1⟩ r hB h
  replace h:o_=0∧dZ y1 v1=some r:=eu h
  have ho_:=h.1;subst ho_;replace h:=h.2
  rw[dZ]at h
  obtain⟨_,hI⟩:=Bun.unst hB
  subst hrc1
  dsimp only[ca,na]at hI
  clear hB
  refine qH hI rfl (rT (hE1 ⟨38,[]⟩ rfl rfl)) ?_
  refine T ?_
  refine lN fun b4 c19 w16 hI=> ?_
  refine lA fun c20 w17 hI=> ?_
  refine aK (x7 hI (.s .z) (fun c21 w18 hI=> ?_))
  refine T ?_
  refine sB h (fun _ k=>m6 hI.lt FS k) (Rc Tryz.func122) fun r7 w19 h hI=> ?_
  refine TC (fun hb h=> ?_) fun hb h=> ?_
  ·refine sr (bg (new:=[vi 1]) (cs':=#[vi 1]) hI (.s (.s .z)) gn rfl rfl et aj rfl jN rfl rfl rfl ?_)
   intro c22 w20 hI
   refine nk (az ?_)
   obtain rfl:=ai h
   exact fun _ _=>re (js:=[Code.ret]) (oS:=(fun(s:Int) (b:Unit)=>[MO.box b2 28 #[vi s]])) (cS:=(fun(s:Int) (b:Unit)=>[Cl.blk b3 39 (ap r6 a4 c12 a5 c13 a6 c14),Cl.sl ah a4 c12 r6.Lin.L,Cl.sl ak a5 c13 r6.Idx,Cl.sl an a6 c14 r6.Args,au])) (out:=1) (s:=1) (b:=()) (hI.arr GO SU) rfl (fun C w hB=>⟨C,rfl,hB⟩)
  refine bb ?_
  obtain rfl:=ai h
  exact fun _ _=>re (js:=[Code.ret]) (oS:=(fun(s:Int) (b:Unit)=>[MO.box b2 28 #[vi s]])) (cS:=(fun(s:Int) (b:Unit)=>[Cl.blk b3 39 (ap r6 a4 c12 a5 c13 a6 c14),Cl.sl ah a4 c12 r6.Lin.L,Cl.sl ak a5 c13 r6.Idx,Cl.sl an a6 c14 r6.Args,au])) (out:=0) (s:=v1) (b:=()) (hI.arr GO SU) rfl (fun C w hB=>⟨C,rfl,hB⟩)
 obtain⟨⟨u1,o1,v2⟩,hx15,h⟩:=ae h
 try dsimp only at h
 refine Calls.mono (tL ((hB.add (c:=nW (StI.loop l1 rc1 (fun(s:Int) (b:Unit)=>[MO.box b2 28 #[vi s]]) (fun(s:Int) (b:Unit)=>[Cl.blk b3 39 (ap r6 a4 c12 a5 c13 a6 c14),Cl.sl ah a4 c12 r6.Lin.L,Cl.sl ak a5 c13 r6.Idx,Cl.sl an a6 c14 r6.Args,au])) (Value.func (.yield l1) #[] #[]) (fun k_0 q=>if q.1=0 then dZ k_0 q.2 else none)) hY1).subs ⟨.z,(.s .z),(.s (.s .z)),(.s (.s (.s .z))),(.s (.s (.s (.s .z)))),trivial⟩) hx15) ?_
 rintro _ w22 ⟨c24,rfl,hB2⟩
 obtain⟨_,hB2⟩:=Bun.unst hB2
 subst hrc1
 refine HN hk1 hB2 fun c25 hI=> ?_
 refine⟨_,rfl,tv hI .z (fun c26 w23 hI=> ?_)⟩
 by_cases hz1:o1=0
 ·subst hz1;rw[if_pos rfl]at h
  refine aX (sr (bg (new:=[vi 0]) (cs':=#[vi 0]) hI (.s .z) gn rfl rfl et aj rfl jN rfl rfl rfl ?_))
  intro c27 w24 hI
  refine nk (az ?_)
  obtain⟨w25,hs2,c28,hI⟩:∃ w2,pC Tryz.prog [q1] w24 w2∧∃ C,Bun noM F w0 C w2 [MO.obj l1 _,MO.box b2 28 #[vi 0],MO.obj q1 (.deferred none)] [Cl.blk b3 39 (ap r6 a4 c12 a5 c13 a6 c14),Cl.sl ah a4 c12 r6.Lin.L,Cl.sl ak a5 c13 r6.Idx,Cl.sl an a6 c14 r6.Args,au,Cl.sl ah a4 c12 r6.Lin.L,Cl.sl ak a5 c13 r6.Idx,Cl.sl an a6 c14 r6.Args,Cl.blk b3 39 (ap r6 a4 c12 a5 c13 a6 c14),Cl.blk b1 39 (ap e1 a1 c1 a2 c2 a3 c3),Cl.sl ah a1 c1 e1.Lin.L,Cl.sl ak a2 c2 e1.Idx,Cl.sl an a3 c3 e1.Args,au]:=hI.shut (.s (.s .z)) fun C w hI=>pm ⟨_,hI⟩
  obtain rfl:=ai h
  exact rP (vs:=[vi 0]) hs2 Tryz.results79 ⟨⟨_,aH rfl rfl,j8 (v:=(vi 0)) Af rfl (CellsAt.of_blk (hI.blk (.s .z)) rfl)⟩,trivial⟩ (fq hI trivial)
 rw[if_neg hz1]at h
 by_cases hz2:o1=1
 ·subst hz2;rw[if_pos rfl]at h
  refine az ?_
  obtain⟨w26,hs3,c29,hI⟩:∃ w2,pC Tryz.prog [q1] w23 w2∧∃ C,Bun noM F w0 C w2 [MO.obj l1 _,MO.box b2 28 #[vi v2],MO.obj q1 (.deferred none)] [Cl.blk b3 39 (ap r6 a4 c12 a5 c13 a6 c14),Cl.sl ah a4 c12 r6.Lin.L,Cl.sl ak a5 c13 r6.Idx,Cl.sl an a6 c14 r6.Args,au,Cl.sl ah a4 c12 r6.Lin.L,Cl.sl ak a5 c13 r6.Idx,Cl.sl an a6 c14 r6.Args,Cl.blk b3 39 (ap r6 a4 c12 a5 c13 a6 c14),Cl.blk b1 39 (ap e1 a1 c1 a2 c2 a3 c3),Cl.sl ah a1 c1 e1.Lin.L,Cl.sl ak a2 c2 e1.Idx,Cl.sl an a3 c3 e1.Args,au]:=hI.shut (.s (.s .z)) fun C w hI=>pm ⟨_,hI⟩
  obtain rfl:=ai h
  exact rP (vs:=[vi v2]) hs3 Tryz.results79 ⟨⟨_,aH rfl rfl,j8 (v:=(vi v2)) Af rfl (CellsAt.of_blk (hI.blk (.s .z)) rfl)⟩,trivial⟩ (fq hI trivial)
 rw[if_neg hz2]at h
 cases h
theorem uC (hF:dy F w0) {e1:GExpr} (hc:AllCl [Cl.sl ah a1 c1 e1.Lin.L,Cl.sl ak a2 c2 e1.Idx,Cl.sl an a3 c3 e1.Args,au] F w0) {r:Int} (h:ii e1=some r):CR F w0 35 #[(Value.agg (ap e1 a1 c1 a2 c2 a3 c3))] (vi r) []:=by
 refine EN Tryz.func35 Tryz.ntmps35 hF hc fun hI=> ?_
 rw[ii]at h
 refine sr (lX fun b1 c5 w1 hI=> ?_)
 refine lN fun b2 c6 w2 hI=> ?_
 refine nk (al (sr (sq (am (l:=(aU e1 a1 c1 a2 c2 a3 c3)) rfl et jy rfl aC (hI.kblk (l:=(aU e1 a1 c1 a2 c2 a3 c3)) .z rfl).1) ?_)))
 refine sB h (fun _ k=>yz hI.lt FS k) (Rc Tryz.func76) fun r1 w3 h hI=> ?_
 refine TC (fun hb h=> ?_) fun hb h=> ?_
 ·refine sr (bg (new:=[vi 13]) (cs':=#[vi 13]) hI .z gn rfl rfl et aj rfl jN rfl rfl rfl ?_)
  intro c7 w4 hI
  refine nk (az ?_)
  obtain rfl:=ai h
  exact eG (vs:=[vi 13]) Tryz.results35 ⟨⟨_,aH rfl rfl,j8 (v:=(vi 13)) Af rfl (CellsAt.of_blk (hI.blk .z) rfl)⟩,trivial⟩ (fq hI trivial)
 refine T ?_
 refine al (sr (sq (am (l:=(aU e1 a1 c1 a2 c2 a3 c3)) rfl et jy rfl aC (hI.kblk (l:=(aU e1 a1 c1 a2 c2 a3 c3)) .z rfl).1) ?_))
 refine sB h (fun _ k=>z6 hI.lt FS k) (Rc Tryz.func77) fun r2 w5 h hI=> ?_
 refine TC (fun hb h=> ?_) fun hb h=> ?_
 ·refine sr (bg (new:=[vi 2]) (cs':=#[vi 2]) hI .z gn rfl rfl et aj rfl jN rfl rfl rfl ?_)
  intro c8 w6 hI
  refine nk (az ?_)
  obtain rfl:=ai h
  exact eG (vs:=[vi 2]) Tryz.results35 ⟨⟨_,aH rfl rfl,j8 (v:=(vi 2)) Af rfl (CellsAt.of_blk (hI.blk .z) rfl)⟩,trivial⟩ (fq hI trivial)
 refine T ?_
 refine al (sr (sq (am (l:=(aU e1 a1 c1 a2 c2 a3 c3)) rfl et jy rfl aC (hI.kblk (l:=(aU e1 a1 c1 a2 c2 a3 c3)) .z rfl).1) ?_))
 obtain⟨r3,hx5,h⟩:=ae h
 refine aA gn rfl (Rc Tryz.func78) (Calls.mono (ui hI.lt FS hx5) ?_)
 rintro _ w7 ⟨b3,a4,c9,a5,c10,a6,c11,rfl,hx6,hl3⟩
 refine⟨_,rfl,?_⟩
 replace hI:=(hI.ext hx6).adds hl3;dsimp only[ca,na]at hI
 refine T ?_
 refine qK [Code.ret] hI et Du (fun l1 q1 fn1 tm1 rc1 hrc1 c13 w9 hE1 hI=> ?_)
 obtain⟨c14,f1,hB,hl4,hk1⟩:=hI.hands (.l (.r (.l .n)))
 have hB:Bun c14 f1 w9 c14 w9 [MO.st (StI.loop l1 rc1 (fun(s:Int) (b:Unit)=>[MO.box b2 28 #[vi s]]) (fun(s:Int) (b:Unit)=>[Cl.blk b3 39 (ap r3 a4 c9 a5 c10 a6 c11),Cl.sl ah a4 c9 r3.Lin.L,Cl.sl ak a5 c10 r3.Idx,Cl.sl an a6 c11 r3.Args,au])) (0,0)] _:=Bun.mkst (b:=()) hB ⟨(.s (.s (.s .z))),.z,(.s .z),(.s (.s .z)),(.s (.s (.s (.s (.s (.s (.s (.s .z)))))))),trivial⟩
 have hY1:fnS_k5 (StI.loop l1 rc1 (fun(s:Int) (b:Unit)=>[MO.box b2 28 #[vi s]]) (fun(s:Int) (b:Unit)=>[Cl.blk b3 39 (ap r3 a4 c9 a5 c10 a6 c11),Cl.sl ah a4 c9 r3.Lin.L,Cl.sl ak a5 c10 r3.Idx,Cl.sl an a6 c11 r3.Args,au])) (Value.func (.yield l1) #[] #[]) (fun k_0 q=>if q.1=0 then dJ k_0 q.2 else none) (Dj f1 c14) w9:=by
  refine⟨rfl,fun C0 F w0 _=> ?_⟩
  rintro y1 a7 c15 a8 c16 a9 c17 ⟨o_,v1⟩ r hB h
  replace h:o_=0∧dJ y1 v1=some r:=eu h
  have ho_:=h.1;subst ho_;replace h:=h.2
  rw[dJ]at h
  obtain⟨_,hI⟩:=Bun.unst hB
  subst hrc1
  dsimp only[ca,na]at hI
  clear hB
  refine qH hI rfl (rT (hE1 ⟨19,[]⟩ rfl rfl)) ?_
  refine T ?_
  refine lN fun b4 c18 w10 hI=> ?_
  refine lA fun c19 w11 hI=> ?_
  refine aK (x7 hI (.s .z) (fun c20 w12 hI=> ?_))
  refine T ?_
  refine sB h (fun _ k=>tK hI.lt FS k) (Rc Tryz.func79) fun r4 w13 h hI=> ?_
  refine TC (fun hb h=> ?_) fun hb h=> ?_
  ·refine T ?_
   refine lS fun c21 w14 hI=> ?_
   refine nk (az ?_)
   obtain rfl:=ai h
   exact fun _ _=>re (js:=[Code.ret]) (oS:=(fun(s:Int) (b:Unit)=>[MO.box b2 28 #[vi s]])) (cS:=(fun(s:Int) (b:Unit)=>[Cl.blk b3 39 (ap r3 a4 c9 a5 c10 a6 c11),Cl.sl ah a4 c9 r3.Lin.L,Cl.sl ak a5 c10 r3.Idx,Cl.sl an a6 c11 r3.Args,au])) (out:=1) (s:=r4) (b:=()) (hI.arr GO SU) rfl (fun C w hB=>⟨C,rfl,hB⟩)
  refine bb ?_
  obtain rfl:=ai h
  exact fun _ _=>re (js:=[Code.ret]) (oS:=(fun(s:Int) (b:Unit)=>[MO.box b2 28 #[vi s]])) (cS:=(fun(s:Int) (b:Unit)=>[Cl.blk b3 39 (ap r3 a4 c9 a5 c10 a6 c11),Cl.sl ah a4 c9 r3.Lin.L,Cl.sl ak a5 c10 r3.Idx,Cl.sl an a6 c11 r3.Args,au])) (out:=0) (s:=v1) (b:=()) (hI.arr GO SU) rfl (fun C w hB=>⟨C,rfl,hB⟩)
 obtain⟨⟨u1,o1,v2⟩,hx9,h⟩:=ae h
 try dsimp only at h
 refine Calls.mono (qn ((hB.add (c:=pq (StI.loop l1 rc1 (fun(s:Int) (b:Unit)=>[MO.box b2 28 #[vi s]]) (fun(s:Int) (b:Unit)=>[Cl.blk b3 39 (ap r3 a4 c9 a5 c10 a6 c11),Cl.sl ah a4 c9 r3.Lin.L,Cl.sl ak a5 c10 r3.Idx,Cl.sl an a6 c11 r3.Args,au])) (Value.func (.yield l1) #[] #[]) (fun k_0 q=>if q.1=0 then dJ k_0 q.2 else none)) hY1).subs ⟨.z,(.s .z),(.s (.s .z)),(.s (.s (.s .z))),(.s (.s (.s (.s .z)))),trivial⟩) hx9) ?_
 rintro _ w16 ⟨c23,rfl,hB2⟩
 obtain⟨_,hB2⟩:=Bun.unst hB2
 subst hrc1
 refine HN hk1 hB2 fun c24 hI=> ?_
 refine⟨_,rfl,tv hI .z (fun c25 w17 hI=> ?_)⟩
 by_cases hz1:o1=0
 ·subst hz1;rw[if_pos rfl]at h
  refine aX (sr (bg (new:=[vi 0]) (cs':=#[vi 0]) hI (.s .z) gn rfl rfl et aj rfl jN rfl rfl rfl ?_))
  intro c26 w18 hI
  refine nk (az ?_)
  obtain⟨w19,hs2,c27,hI⟩:∃ w2,pC Tryz.prog [q1] w18 w2∧∃ C,Bun noM F w0 C w2 [MO.obj l1 _,MO.box b2 28 #[vi 0],MO.obj q1 (.deferred none)] [Cl.blk b3 39 (ap r3 a4 c9 a5 c10 a6 c11),Cl.sl ah a4 c9 r3.Lin.L,Cl.sl ak a5 c10 r3.Idx,Cl.sl an a6 c11 r3.Args,au,Cl.sl ah a4 c9 r3.Lin.L,Cl.sl ak a5 c10 r3.Idx,Cl.sl an a6 c11 r3.Args,Cl.blk b3 39 (ap r3 a4 c9 a5 c10 a6 c11),Cl.blk b1 39 (ap e1 a1 c1 a2 c2 a3 c3),Cl.sl ah a1 c1 e1.Lin.L,Cl.sl ak a2 c2 e1.Idx,Cl.sl an a3 c3 e1.Args,au]:=hI.shut (.s (.s .z)) fun C w hI=>pm ⟨_,hI⟩
  obtain rfl:=ai h
  exact rP (vs:=[vi 0]) hs2 Tryz.results35 ⟨⟨_,aH rfl rfl,j8 (v:=(vi 0)) Af rfl (CellsAt.of_blk (hI.blk (.s .z)) rfl)⟩,trivial⟩ (fq hI trivial)
 rw[if_neg hz1]at h
 by_cases hz2:o1=1
 ·subst hz2;rw[if_pos rfl]at h
  refine az ?_
  obtain⟨w20,hs3,c28,hI⟩:∃ w2,pC Tryz.prog [q1] w17 w2∧∃ C,Bun noM F w0 C w2 [MO.obj l1 _,MO.box b2 28 #[vi v2],MO.obj q1 (.deferred none)] [Cl.blk b3 39 (ap r3 a4 c9 a5 c10 a6 c11),Cl.sl ah a4 c9 r3.Lin.L,Cl.sl ak a5 c10 r3.Idx,Cl.sl an a6 c11 r3.Args,au,Cl.sl ah a4 c9 r3.Lin.L,Cl.sl ak a5 c10 r3.Idx,Cl.sl an a6 c11 r3.Args,Cl.blk b3 39 (ap r3 a4 c9 a5 c10 a6 c11),Cl.blk b1 39 (ap e1 a1 c1 a2 c2 a3 c3),Cl.sl ah a1 c1 e1.Lin.L,Cl.sl ak a2 c2 e1.Idx,Cl.sl an a3 c3 e1.Args,au]:=hI.shut (.s (.s .z)) fun C w hI=>pm ⟨_,hI⟩
  obtain rfl:=ai h
  exact rP (vs:=[vi v2]) hs3 Tryz.results35 ⟨⟨_,aH rfl rfl,j8 (v:=(vi v2)) Af rfl (CellsAt.of_blk (hI.blk (.s .z)) rfl)⟩,trivial⟩ (fq hI trivial)
 rw[if_neg hz2]at h
 cases h
theorem hV {r1:aa} (hI:Bun C0 F w0 C0 w0 [MO.box b1 67 (af r1 a1 c1)] [Cl.sl cGToken a1 c1 r1.l]) {r:bu (Unit×aa)} (h:bM r1=some r):CP C0 F w0 194 #[vp b1 0] r fun rx e w=>∃ a2 c2 C,e= .returned (Value.tuple #[])∧Bun C0 F w0 C w [MO.box b1 67 (af rx.2 a2 c2)] [Cl.sl cGToken a2 c2 rx.2.l]:=by
 refine fG (l:=[vp b1 0]) Tryz.func194 rfl Tryz.ntmps194 rfl ?_
 rw[bM]at h
 refine bw (α:=Unit) (fun _=>⟨27,[]⟩) (fun _=>[(0,vp b1 0)]) (fun _=>fun w=>∃ C,Bun C0 F w0 C w [MO.box b1 67 (af r1 a1 c1)] [Cl.sl cGToken a1 c1 r1.l]∧eC r1=some r) ?_ ?_
 ·clear h hI;rintro _ w1 ⟨c3,hI,h⟩
  try dsimp only at hI h ⊢
  rw[eC]at h
  refine T ?_
  refine lS fun c4 w2 hI=> ?_
  refine T ?_
  refine lS fun c5 w3 hI=> ?_
  refine aK ?_
  obtain rfl:=ai h
  refine QG ?_
  exact .inl ⟨_,rfl,a1,c1,_,rfl,hI.arr GO SU⟩
 refine TC (fun hb h=> ?_) fun hb h=> ?_
 ·refine T ?_
  rcases ir h with⟨r2,hx1,h⟩ | ⟨pa_,pn_,hx1,hp_⟩
  rotate_left
  ·subst hp_
   refine nD gn rfl (aI (vs:=[vp b1 0,vi r1.at_,vi 13]) rfl ss ⟨et,⟨et,⟨aj,trivial⟩⟩⟩) (Calls.mono (aR NE ⟨(hI.get0 .z),hI.lendBox .z,trivial⟩ hx1) ?_)
   intro e_ w_ hq_;obtain⟨rfl,hx_⟩:=eI hq_;have hI_:=hI.ext hx_;exact .inr ⟨_,rfl,ip (.inr ⟨_,_,rfl,rfl,⟨_,hI_.arr .n trivial⟩⟩)⟩
  try dsimp only at h
  refine aA gn rfl (Rc Tryz.func71) (Calls.mono (aR NE ⟨(hI.get0 .z),hI.lendBox .z,trivial⟩ hx1) ?_)
  intro e_ w4 hq_;obtain⟨rfl,hx2,hl1⟩:=eH hq_
  refine⟨_,rfl,?_⟩
  replace hI:=(hI.ext hx2)
  refine aK ?_
  exact kj ()
 exact bb (bj () ⟨rfl,trivial⟩ BH rfl)
theorem kF {r1:aa} (hI:Bun C0 F w0 C0 w0 [MO.box b1 67 (af r1 a1 c1)] [Cl.sl cGToken a1 c1 r1.l]) {r:bu (Unit×aa)} (h:cq r1=some r):CP C0 F w0 253 #[vp b1 0] r fun rx e w=>∃ a2 c2 C,e= .returned (Value.tuple #[])∧Bun C0 F w0 C w [MO.box b1 67 (af rx.2 a2 c2)] [Cl.sl cGToken a2 c2 rx.2.l]:=by
 refine fG (l:=[vp b1 0]) Tryz.func253 rfl Tryz.ntmps253 rfl ?_
 rw[cq]at h
 refine al (T ?_)
 refine sB h (fun _ k=>dL NE ⟨(hI.get0 .z),hI.lendBox .z,trivial⟩ k) (Rc Tryz.func121) fun r2 w1 h hI=> ?_
 refine TC (fun hb h=> ?_) fun hb h=> ?_
 ·refine T ?_
  obtain⟨c3,f1,hB,hl2,hk1⟩:=hI.hands (.l .n)
  refine ew h (fun _ hx3=>dv HS hx3) (li hk1) (Rc Tryz.func103) ?_
  rintro⟨r3,s1⟩ hx3 h _ w2 ⟨a3,c4,c5,rfl,hB2⟩
  try dsimp only at h
  refine HN hk1 hB2 fun c6 hI=> ?_
  refine⟨_,rfl,?_⟩
  refine T ?_
  obtain⟨c7,f2,hB,hl3,hk2⟩:=hI.hands (.l .n)
  refine ew h (fun _ hx4=>hV HS hx4) (li hk2) (Rc Tryz.func194) ?_
  rintro⟨r4,s2⟩ hx4 h _ w3 ⟨a4,c8,c9,rfl,hB2⟩
  try dsimp only at h
  refine HN hk2 hB2 fun c10 hI=> ?_
  refine⟨_,rfl,?_⟩
  refine aK ?_
  obtain rfl:=ai h
  refine QG ?_
  exact .inl ⟨_,rfl,a4,c8,_,rfl,hI.arr GO SU⟩
 refine T ?_
 obtain⟨c11,f3,hB,hl4,hk3⟩:=hI.hands (.l .n)
 refine ew h (fun _ hx5=>hV HS hx5) (li hk3) (Rc Tryz.func194) ?_
 rintro⟨r5,s3⟩ hx5 h _ w4 ⟨a5,c12,c13,rfl,hB2⟩
 try dsimp only at h
 refine HN hk3 hB2 fun c14 hI=> ?_
 refine⟨_,rfl,?_⟩
 refine aK ?_
 obtain rfl:=ai h
 refine QG ?_
 exact .inl ⟨_,rfl,a5,c12,_,rfl,hI.arr GO SU⟩
theorem aP {r1:aa} {s1:List UInt8} (hI:Bun C0 F w0 C0 w0 [MO.box b1 67 (af r1 a1 c1)] [Cl.sl cGToken a1 c1 r1.l]) {r:bu (Unit×aa)} (h:aF r1 s1=some r):CP C0 F w0 104 #[vp b1 0,(str s1)] r fun rx e w=>∃ a2 c2 C,e= .returned (Value.tuple #[])∧Bun C0 F w0 C w [MO.box b1 67 (af rx.2 a2 c2)] [Cl.sl cGToken a2 c2 rx.2.l]:=by
 refine fG (l:=[vp b1 0,(str s1)]) Tryz.func104 rfl Tryz.ntmps104 rfl ?_
 rw[aF]at h
 refine T ?_
 obtain⟨c3,f1,hB,hl1,hk1⟩:=hI.hands (.l .n)
 obtain⟨⟨r2,s2⟩,hx1,h⟩:=ae h
 try dsimp only at h
 refine aA gn rfl (Rc Tryz.func68) (Calls.mono (aM HS hx1) ?_)
 rintro _ w1 ⟨a3,c4,c5,rfl,hB2⟩
 refine HN hk1 hB2 fun c6 hI=> ?_
 refine⟨_,rfl,?_⟩
 refine TC (fun hb h=> ?_) fun hb h=> ?_
 ·refine T ?_
  obtain⟨c7,f2,hB,hl2,hk2⟩:=hI.hands (.l .n)
  refine ew h (fun _ hx2=>dv HS hx2) (li hk2) (Rc Tryz.func103) ?_
  rintro⟨r3,s3⟩ hx2 h _ w2 ⟨a4,c8,c9,rfl,hB2⟩
  try dsimp only at h
  refine HN hk2 hB2 fun c10 hI=> ?_
  refine⟨_,rfl,?_⟩
  refine aK ?_
  obtain rfl:=ai h
  refine QG ?_
  exact .inl ⟨_,rfl,a4,c8,_,rfl,hI.arr GO SU⟩
 refine bb ?_
 obtain rfl:=ai h
 refine QG ?_
 exact .inl ⟨_,rfl,a3,c4,_,rfl,hI.arr GO SU⟩
theorem ke {r1:aa} (hI:Bun C0 F w0 C0 w0 [MO.box b1 67 (af r1 a1 c1)] [Cl.sl cGToken a1 c1 r1.l]) {r:bu (Unit×aa)} (h:dt r1=some r):CP C0 F w0 254 #[vp b1 0] r fun rx e w=>∃ a2 c2 C,e= .returned (Value.tuple #[])∧Bun C0 F w0 C w [MO.box b1 67 (af rx.2 a2 c2)] [Cl.sl cGToken a2 c2 rx.2.l]:=by
 refine fG (l:=[vp b1 0]) Tryz.func254 rfl Tryz.ntmps254 rfl ?_
 rw[dt]at h
 refine T ?_
 obtain⟨c3,f1,hB,hl1,hk1⟩:=hI.hands (.l .n)
 refine ew h (fun _ hx1=>aP HS hx1) (li hk1) (Rc Tryz.func104) ?_
 rintro⟨r2,s1⟩ hx1 h _ w1 ⟨a3,c4,c5,rfl,hB2⟩
 try dsimp only at h
 refine HN hk1 hB2 fun c6 hI=> ?_
 refine⟨_,rfl,?_⟩
 refine T ?_
 refine lS fun c7 w2 hI=> ?_
 refine aK ?_
 obtain rfl:=ai h
 refine QG ?_
 exact .inl ⟨_,rfl,a3,c4,_,rfl,hI.arr GO SU⟩
theorem iB {r1:aa} {l1:List (List UInt8)} (hI:Bun C0 F w0 C0 w0 [MO.box b1 67 (af r1 a1 c1)] [Cl.sl cGToken a1 c1 r1.l,Cl.sl cStr a2 c2 l1]) {r:Int×aa} (h:cQ r1 l1=some r):Cg 98 #[vp b1 0,vs a2 l1.length c2] w0 fun e w=>∃ a3 c3 C,e= .returned (vi r.1)∧Bun C0 F w0 C w [MO.box b1 67 (af r.2 a3 c3)] [Cl.sl cGToken a3 c3 r.2.l]:=by
 refine o9 Tryz.func98 rfl Tryz.ntmps98 rfl ?_
 rw[cQ]at h
 refine T ?_
 refine al (T ?_)
 refine bc (α:=Nat×Int) (fun x=>fun w=>∃ C,Bun C0 F w0 C w [MO.box b1 67 (af r1 a1 c1)] [Cl.sl cGToken a1 c1 r1.l,Cl.sl cStr a2 c2 l1]∧cn l1 r1 (x.1) (x.2)=some r) (fun x _=>x.1) (fun x=>[(0,vp b1 0),(7,vs a2 l1.length c2),(8,vi (l1.length:Int)),(9,vi (x.2))]) (fu,0) BH SB ?_
 clear h hI;rintro⟨fuel1,i1⟩ w1 ⟨c4,hI,h⟩
 dsimp only at hI h ⊢
 rcases fuel1 with _ | fuel1
 ·rw[cn]at h;cases h
 rw[cn]at h
 refine T ?_
 refine al (wJ h et (fun hb h=> ?_) (fun hb h=> ?_))
 ·refine T ?_
  refine al (T ?_)
  obtain⟨e1,hx1,h⟩:=ae h
  obtain⟨ad1,cs1,hA1,hr1,hq1⟩:=hI.clat (.s .z) hx1
  obtain rfl:cs1=[(str e1)]:=hr1
  refine sI ?_
  refine T ?_
  refine sB h (fun _ k=>dL NE ⟨(hI.get0 .z),hI.lendBox .z,trivial⟩ k) (Rc Tryz.func121) fun r2 w2 h hI=> ?_
  refine TC (fun hb h=> ?_) fun hb h=> ?_
  ·refine T ?_
   refine lS fun c5 w3 hI=> ?_
   refine T ?_
   refine az ?_
   obtain rfl:=ai h
   refine QG ?_
   exact⟨a1,c1,_,rfl,hI.arr GO SU⟩
  refine T ?_
  refine aK ?_
  exact kl (fuel1,aq (i1+1))
 refine bh ?_
 refine eD ?_
 refine aX ?_
 refine T ?_
 refine az ?_
 obtain rfl:=ai h
 refine QG ?_
 exact⟨a1,c1,_,rfl,hI.arr GO SU⟩
theorem mC {r1:aa} (hI:Bun C0 F w0 C0 w0 [MO.box b1 67 (af r1 a1 c1)] [Cl.sl cGToken a1 c1 r1.l]) {r:bu (Int×aa)} (h:ey r1=some r):CP C0 F w0 219 #[vp b1 0] r fun rx e w=>∃ a2 c2 C,e= .returned (vi rx.1)∧Bun C0 F w0 C w [MO.box b1 67 (af rx.2 a2 c2)] [Cl.sl cGToken a2 c2 rx.2.l]:=by
 refine fG (l:=[vp b1 0]) Tryz.func219 rfl Tryz.ntmps219 rfl ?_
 rw[ey]at h
 refine T ?_
 obtain⟨c3,f1,hB,hl1,hk1⟩:=hI.hands (.l .n)
 refine ew h (fun _ hx1=>gQ HS hx1) (li hk1) (Rc Tryz.func130) ?_
 rintro⟨r2,s1⟩ hx1 h _ w1 ⟨a3,c4,c5,rfl,hB2⟩
 try dsimp only at h
 refine HN hk1 hB2 fun c6 hI=> ?_
 refine⟨_,rfl,?_⟩
 refine sB h (fun _ k=>qk hI.lt trivial k) (Rc Tryz.func131) fun r3 w2 h hI=> ?_
 refine T ?_
 refine al (T ?_)
 refine TC (fun hb h=> ?_) fun hb h=> ?_
 ·refine T ?_
  rcases ir h with⟨r4,hx4,h⟩ | ⟨pa_,pn_,hx4,hp_⟩
  rotate_left
  ·subst hp_
   refine nD gn rfl (aI (vs:=[vp b1 0,vi r1.at_,vi 3]) rfl ss ⟨et,⟨et,⟨aj,trivial⟩⟩⟩) (Calls.mono (aR NE ⟨(hI.get0 .z),hI.lendBox .z,trivial⟩ hx4) ?_)
   intro e_ w_ hq_;obtain⟨rfl,hx_⟩:=eI hq_;have hI_:=hI.ext hx_;exact .inr ⟨_,rfl,ip (.inr ⟨_,_,rfl,rfl,⟨_,hI_.arr .n trivial⟩⟩)⟩
  try dsimp only at h
  refine aA gn rfl (Rc Tryz.func71) (Calls.mono (aR NE ⟨(hI.get0 .z),hI.lendBox .z,trivial⟩ hx4) ?_)
  intro e_ w3 hq_;obtain⟨rfl,hx5,hl3⟩:=eH hq_
  refine⟨_,rfl,?_⟩
  replace hI:=(hI.ext hx5)
  refine T ?_
  refine az ?_
  obtain rfl:=ai h
  refine QG ?_
  exact .inl ⟨_,rfl,a3,c4,_,rfl,hI.arr GO SU⟩
 refine T ?_
 refine az ?_
 obtain rfl:=ai h
 refine QG ?_
 exact .inl ⟨_,rfl,a3,c4,_,rfl,hI.arr GO SU⟩
theorem ni {r1:aa} (hI:Bun C0 F w0 C0 w0 [MO.box b1 67 (af r1 a1 c1)] [Cl.sl cGToken a1 c1 r1.l]) {r:bu (GType×aa)} (h:fi r1=some r):CP C0 F w0 174 #[vp b1 0] r fun rx e w=>∃ a2 c2 C,e= .returned (Value.agg (ck rx.1))∧Bun C0 F w0 C w [MO.box b1 67 (af rx.2 a2 c2)] [Cl.sl cGToken a2 c2 rx.2.l]:=by
 refine fG (l:=[vp b1 0]) Tryz.func174 rfl Tryz.ntmps174 rfl ?_
 rw[fi]at h
 refine sr (cU (cs:=xH) hI gn rfl rfl Ec rfl ?_)
 intro b2 c3 w1 hI
 refine T ?_
 refine bw (α:=aa×(Option Addr)×Nat) (fun _=>⟨66,[]⟩) (fun x=>[(0,vp b1 0),(2,vp b2 0),(3,vi r1.at_)]) (fun x=>fun w=>∃ C,Bun C0 F w0 C w [MO.box b1 67 (af (x.1) (x.2.1) (x.2.2)),MO.box b2 35 xH] [Cl.sl cGToken (x.2.1) (x.2.2) (x.1).l]∧dV r1 (x.1)=some r) ?_ ?_
 ·clear h hI;rintro⟨r2,a3,c4⟩ w2 ⟨c5,hI,h⟩
  try dsimp only at hI h ⊢
  rw[dV]at h
  refine sr (sq (aw (vs:=[(0,vi 2)]) (cs:=#[vi 2,vi 0,vi 0,vi 0,vi 0]) rfl ⟨rfl,aj,trivial⟩ (by kernel_rfl)) ?_)
  refine lN fun b3 c6 w3 hI=> ?_
  refine lA fun c7 w4 hI=> ?_
  refine T ?_
  obtain⟨c8,f1,hB,hl1,hk1⟩:=hI.hands (.r (.l (.r .n)))
  refine ew h (fun _ hx1=>aP HS hx1) (li hk1) (Rc Tryz.func104) ?_
  rintro⟨r3,s1⟩ hx1 h _ w5 ⟨a4,c9,c10,rfl,hB2⟩
  try dsimp only at h
  refine HN hk1 hB2 fun c11 hI=> ?_
  refine⟨_,rfl,?_⟩
  refine T ?_
  obtain⟨c12,f2,hB,hl2,hk2⟩:=hI.hands (.l (.r (.r .n)))
  refine ew h (fun _ hx2=>mC HS hx2) (li hk2) (Rc Tryz.func219) ?_
  rintro⟨r4,s2⟩ hx2 h _ w6 ⟨a5,c13,c14,rfl,hB2⟩
  try dsimp only at h
  refine HN hk2 hB2 fun c15 hI=> ?_
  refine⟨_,rfl,?_⟩
  refine T ?_
  refine lS fun c16 w7 hI=> ?_
  refine T ?_
  obtain⟨c17,f3,hB,hl3,hk3⟩:=hI.hands (.l (.r (.r .n)))
  refine ew h (fun _ hx3=>aP HS hx3) (li hk3) (Rc Tryz.func104) ?_
  rintro⟨r5,s3⟩ hx3 h _ w8 ⟨a6,c18,c19,rfl,hB2⟩
  try dsimp only at h
  refine HN hk3 hB2 fun c20 hI=> ?_
  refine⟨_,rfl,?_⟩
  refine T ?_
  obtain⟨c21,f4,hB,hl4,hk4⟩:=hI.hands (.l (.r (.r .n)))
  refine ew h (fun _ hx4=>mC HS hx4) (li hk4) (Rc Tryz.func219) ?_
  rintro⟨r6,s4⟩ hx4 h _ w9 ⟨a7,c22,c23,rfl,hB2⟩
  try dsimp only at h
  refine HN hk4 hB2 fun c24 hI=> ?_
  refine⟨_,rfl,?_⟩
  refine T ?_
  refine lS fun c25 w10 hI=> ?_
  refine T ?_
  obtain⟨c26,f5,hB,hl5,hk5⟩:=hI.hands (.l (.r (.r .n)))
  refine ew h (fun _ hx5=>aP HS hx5) (li hk5) (Rc Tryz.func104) ?_
  rintro⟨r7,s5⟩ hx5 h _ w11 ⟨a8,c27,c28,rfl,hB2⟩
  try dsimp only at h
  refine HN hk5 hB2 fun c29 hI=> ?_
  refine⟨_,rfl,?_⟩
  refine T ?_
  refine j9 (c:=cStr) (xs:=([([102,108,111,111,114]:List UInt8),([99,101,105,108]:List UInt8),([122,101,114,111]:List UInt8),([101,118,101,110]:List UInt8)]:List (List UInt8))) (vs:=[(0,(str ([102,108,111,111,114]:List UInt8))),(1,(str ([99,101,105,108]:List UInt8))),(2,(str ([122,101,114,111]:List UInt8))),(3,(str ([101,118,101,110]:List UInt8)))]) (cs:=#[(str ([102,108,111,111,114]:List UInt8)),(str ([99,101,105,108]:List UInt8)),(str ([122,101,114,111]:List UInt8)),(str ([101,118,101,110]:List UInt8))]) (css:=[[(str ([102,108,111,111,114]:List UInt8))],[(str ([99,101,105,108]:List UInt8))],[(str ([122,101,114,111]:List UInt8))],[(str ([101,118,101,110]:List UInt8))]]) hI gn rfl rfl xq lM rfl ⟨rfl,aj,⟨rfl,aj,⟨rfl,aj,⟨rfl,aj,trivial⟩⟩⟩⟩ (by kernel_rfl) ⟨rfl,⟨rfl,⟨rfl,⟨rfl,trivial⟩⟩⟩⟩ rfl rfl rfl ?_
  intro b4 c30 w12 hI
  obtain⟨c31,hI⟩:=hI.release .z
  obtain⟨c32,f6,hB,hl6,hk6⟩:=hI.hands (.l (.r (.r .n)))
  obtain⟨⟨r8,s6⟩,hx6,h⟩:=ae h
  try dsimp only at h
  refine aA gn rfl (Rc Tryz.func98) (Calls.mono (iB HS hx6) ?_)
  rintro _ w13 ⟨a9,c33,c34,rfl,hB2⟩
  refine HN hk6 hB2 fun c35 hI=> ?_
  refine⟨_,rfl,?_⟩
  refine T ?_
  refine lS fun c36 w14 hI=> ?_
  refine nk (bw (α:=aa×(Option Addr)×Nat) (fun _=>⟨66,[]⟩) (fun x=>[(0,vp b1 0),(2,vp b2 0),(3,vi r1.at_),(4,vp b3 0)]) (fun x=>fun w=>∃ C,Bun C0 F w0 C w [MO.box b1 67 (af (x.1) (x.2.1) (x.2.2)),MO.box b2 35 xH,MO.box b3 35 #[vi 2,vi r4,vi r6,(vi (aq (r8+1))),vi 0]] [Cl.sl cGToken (x.2.1) (x.2.2) (x.1).l]∧dU r4 r6 r8 r1 (x.1)=some r) ?_ ?_)
  ·clear h hI;rintro⟨r9,a10,c37⟩ w15 ⟨c38,hI,h⟩
   try dsimp only at hI h ⊢
   rw[dU]at h
   refine T ?_
   obtain⟨c39,f7,hB,hl7,hk7⟩:=hI.hands (.l (.r (.r .n)))
   refine ew h (fun _ hx7=>aP HS hx7) (li hk7) (Rc Tryz.func104) ?_
   rintro⟨r10,s7⟩ hx7 h _ w16 ⟨a11,c40,c41,rfl,hB2⟩
   try dsimp only at h
   refine HN hk7 hB2 fun c42 hI=> ?_
   refine⟨_,rfl,?_⟩
   refine T ?_
   refine j9 (c:=cStr) (xs:=([([115,97,116]:List UInt8),([119,114,97,112]:List UInt8)]:List (List UInt8))) (vs:=[(0,(str ([115,97,116]:List UInt8))),(1,(str ([119,114,97,112]:List UInt8)))]) (cs:=#[(str ([115,97,116]:List UInt8)),(str ([119,114,97,112]:List UInt8))]) (css:=[[(str ([115,97,116]:List UInt8))],[(str ([119,114,97,112]:List UInt8))]]) hI gn rfl rfl xq lM rfl ⟨rfl,aj,⟨rfl,aj,trivial⟩⟩ (by kernel_rfl) ⟨rfl,⟨rfl,trivial⟩⟩ rfl rfl rfl ?_
   intro b5 c43 w17 hI
   obtain⟨c44,hI⟩:=hI.release .z
   obtain⟨c45,f8,hB,hl8,hk8⟩:=hI.hands (.l (.r (.r .n)))
   obtain⟨⟨r11,s8⟩,hx8,h⟩:=ae h
   try dsimp only at h
   refine aA gn rfl (Rc Tryz.func98) (Calls.mono (iB HS hx8) ?_)
   rintro _ w18 ⟨a12,c46,c47,rfl,hB2⟩
   refine HN hk8 hB2 fun c48 hI=> ?_
   refine⟨_,rfl,?_⟩
   refine T ?_
   refine lS fun c49 w19 hI=> ?_
   refine nk (bw (α:=aa×(Option Addr)×Nat) (fun _=>⟨66,[]⟩) (fun x=>[(0,vp b1 0),(2,vp b2 0),(3,vi r1.at_),(4,vp b3 0)]) (fun x=>fun w=>∃ C,Bun C0 F w0 C w [MO.box b1 67 (af (x.1) (x.2.1) (x.2.2)),MO.box b2 35 xH,MO.box b3 35 #[vi 2,vi r4,vi r6,(vi (aq (r8+1))),(vi (aq (r11+1)))]] [Cl.sl cGToken (x.2.1) (x.2.2) (x.1).l]∧dT r4 r6 r8 r11 r1 (x.1)=some r) ?_ ?_)
   ·clear h hI;rintro⟨r12,a13,c50⟩ w20 ⟨c51,hI,h⟩
    try dsimp only at hI h ⊢
    rw[dT]at h
    refine T ?_
    obtain⟨c52,f9,hB,hl9,hk9⟩:=hI.hands (.l (.r (.r .n)))
    refine ew h (fun _ hx9=>aP HS hx9) (li hk9) (Rc Tryz.func104) ?_
    rintro⟨r13,s9⟩ hx9 h _ w21 ⟨a14,c53,c54,rfl,hB2⟩
    try dsimp only at h
    refine HN hk9 hB2 fun c55 hI=> ?_
    refine⟨_,rfl,?_⟩
    refine nk (al (T ?_))
    refine sB h (fun _ k=>jw hI.lt trivial k) (Rc Tryz.func202) fun r14 w22 h hI=> ?_
    refine TC (fun hb h=> ?_) fun hb h=> ?_
    ·refine T ?_
     rcases ir h with⟨r15,hx12,h⟩ | ⟨pa_,pn_,hx12,hp_⟩
     rotate_left
     ·subst hp_
      refine nD gn rfl (aI (vs:=[vp b1 0,vi r1.at_,vi 10]) rfl ss ⟨et,⟨et,⟨aj,trivial⟩⟩⟩) (Calls.mono (aR NE ⟨(hI.get0 .z),hI.lendBox .z,trivial⟩ hx12) ?_)
      intro e_ w_ hq_;obtain⟨rfl,hx_⟩:=eI hq_;have hI_:=hI.ext hx_;exact .inr ⟨_,rfl,ip (.inr ⟨_,_,rfl,rfl,⟨_,hI_.arr .n trivial⟩⟩)⟩
     try dsimp only at h
     refine aA gn rfl (Rc Tryz.func71) (Calls.mono (aR NE ⟨(hI.get0 .z),hI.lendBox .z,trivial⟩ hx12) ?_)
     intro e_ w23 hq_;obtain⟨rfl,hx13,hl11⟩:=eH hq_
     refine⟨_,rfl,?_⟩
     replace hI:=(hI.ext hx13)
     refine T ?_
     refine lA fun c56 w24 hI=> ?_
     refine nk (az ?_)
     obtain rfl:=ai h
     refine QG ?_
     exact .inl ⟨_,rfl,a14,c53,_,rfl,hI.arr GO SU⟩
    refine T ?_
    refine lA fun c57 w25 hI=> ?_
    refine nk (az ?_)
    obtain rfl:=ai h
    refine QG ?_
    exact .inl ⟨_,rfl,a14,c53,_,rfl,hI.arr GO SU⟩
   refine TC (fun hb h=> ?_) fun hb h=> ?_
   ·refine T ?_
    obtain⟨c58,f10,hB,hl12,hk10⟩:=hI.hands (.l (.r (.r .n)))
    refine ew h (fun _ hx14=>dv HS hx14) (li hk10) (Rc Tryz.func103) ?_
    rintro⟨r16,s10⟩ hx14 h _ w26 ⟨a15,c59,c60,rfl,hB2⟩
    try dsimp only at h
    refine HN hk10 hB2 fun c61 hI=> ?_
    refine⟨_,rfl,?_⟩
    refine aK ?_
    exact kj (s10,a15,c59)
   exact bb (bj (s8,a12,c46) SB BH rfl)
  refine TC (fun hb h=> ?_) fun hb h=> ?_
  ·refine T ?_
   obtain⟨c62,f11,hB,hl13,hk11⟩:=hI.hands (.l (.r (.r .n)))
   refine ew h (fun _ hx15=>dv HS hx15) (li hk11) (Rc Tryz.func103) ?_
   rintro⟨r17,s11⟩ hx15 h _ w27 ⟨a16,c63,c64,rfl,hB2⟩
   try dsimp only at h
   refine HN hk11 hB2 fun c65 hI=> ?_
   refine⟨_,rfl,?_⟩
   refine aK ?_
   exact kj (s11,a16,c63)
  exact bb (bj (s6,a9,c33) SB BH rfl)
 refine T ?_
 refine j9 (c:=cStr) (xs:=([([102,114,97,99]:List UInt8),([105,110,116]:List UInt8),([102,105,120]:List UInt8)]:List (List UInt8))) (vs:=[(0,(str ([102,114,97,99]:List UInt8))),(1,(str ([105,110,116]:List UInt8))),(2,(str ([102,105,120]:List UInt8)))]) (cs:=#[(str ([102,114,97,99]:List UInt8)),(str ([105,110,116]:List UInt8)),(str ([102,105,120]:List UInt8))]) (css:=[[(str ([102,114,97,99]:List UInt8))],[(str ([105,110,116]:List UInt8))],[(str ([102,105,120]:List UInt8))]]) hI gn rfl rfl xq lM rfl ⟨rfl,aj,⟨rfl,aj,⟨rfl,aj,trivial⟩⟩⟩ (by kernel_rfl) ⟨rfl,⟨rfl,⟨rfl,trivial⟩⟩⟩ rfl rfl rfl ?_
 intro b6 c66 w28 hI
 obtain⟨c67,hI⟩:=hI.release .z
 obtain⟨c68,f12,hB,hl14,hk12⟩:=hI.hands (.r (.l .n))
 obtain⟨⟨r18,s12⟩,hx16,h⟩:=ae h
 try dsimp only at h
 refine aA gn rfl (Rc Tryz.func98) (Calls.mono (iB HS hx16) ?_)
 rintro _ w29 ⟨a17,c69,c70,rfl,hB2⟩
 refine HN hk12 hB2 fun c71 hI=> ?_
 refine⟨_,rfl,?_⟩
 refine TC (fun hb h=> ?_) fun hb h=> ?_
 ·refine sr (sq (aw (vs:=[(0,vi 1)]) (cs:=#[vi 1,vi 0,vi 0,vi 0,vi 0]) rfl ⟨rfl,aj,trivial⟩ (by kernel_rfl)) ?_)
  refine lA fun c72 w30 hI=> ?_
  refine nk (az ?_)
  obtain rfl:=ai h
  refine QG ?_
  exact .inl ⟨_,rfl,a17,c69,_,rfl,hI.arr GO SU⟩
 refine TC (fun hb h=> ?_) fun hb h=> ?_
 ·refine sr (sq (aw (vs:=[(0,vi 3)]) (cs:=#[vi 3,vi 0,vi 0,vi 0,vi 0]) rfl ⟨rfl,aj,trivial⟩ (by kernel_rfl)) ?_)
  refine lA fun c73 w31 hI=> ?_
  refine nk (az ?_)
  obtain rfl:=ai h
  refine QG ?_
  exact .inl ⟨_,rfl,a17,c69,_,rfl,hI.arr GO SU⟩
 refine TC (fun hb h=> ?_) fun hb h=> ?_
 ·refine T ?_
  obtain⟨c74,f13,hB,hl15,hk13⟩:=hI.hands (.l (.r .n))
  refine ew h (fun _ hx17=>dv HS hx17) (li hk13) (Rc Tryz.func103) ?_
  rintro⟨r19,s13⟩ hx17 h _ w32 ⟨a18,c75,c76,rfl,hB2⟩
  try dsimp only at h
  refine HN hk13 hB2 fun c77 hI=> ?_
  refine⟨_,rfl,?_⟩
  refine aK ?_
  exact kj (s13,a18,c75)
 exact bb (bj (s12,a17,c69) SB BH rfl)
theorem iU {r1:aa} (hI:Bun C0 F w0 C0 w0 [MO.box b1 67 (af r1 a1 c1)] [Cl.sl cGToken a1 c1 r1.l]) {r:bu (GExpr×aa)} (h:cc r1=some r):CP C0 F w0 255 #[vp b1 0] r fun rx e w=>∃ a2 c2 a3 c3 a4 c4 a5 c5 C,e= .returned (Value.agg (ap rx.1 a2 c2 a3 c3 a4 c4))∧Bun C0 F w0 C w [MO.box b1 67 (af rx.2 a5 c5)] [Cl.sl ah a2 c2 rx.1.Lin.L,Cl.sl ak a3 c3 rx.1.Idx,Cl.sl an a4 c4 rx.1.Args,Cl.sl cGToken a5 c5 rx.2.l]:=by
 refine fG (l:=[vp b1 0]) Tryz.func255 rfl Tryz.ntmps255 rfl ?_
 rw[cc]at h
 refine sr (cU (cs:=#[vi 0,(str ([]:List UInt8)),vi 0,vi 0,vi 0,vi 0,vi 0,vi 0,vi 0,vi 0,vs none 0 0,vs none 0 0,vs none 0 0]) hI gn rfl rfl dQ rfl ?_)
 intro b2 c6 w1 hI
 refine T ?_
 obtain⟨c7,f1,hB,hl1,hk1⟩:=hI.hands (.r (.l .n))
 refine ew h (fun _ hx1=>ni HS hx1) (li hk1) (Rc Tryz.func174) ?_
 rintro⟨r2,s1⟩ hx1 h _ w2 ⟨a6,c8,c9,rfl,hB2⟩
 try dsimp only at h
 refine HN hk1 hB2 fun c10 hI=> ?_
 refine⟨_,rfl,?_⟩
 refine lN fun b3 c11 w3 hI=> ?_
 refine lA fun c12 w4 hI=> ?_
 refine T ?_
 obtain⟨c13,f2,hB,hl2,hk2⟩:=hI.hands (.r (.l (.r .n)))
 refine ew h (fun _ hx2=>aP HS hx2) (li hk2) (Rc Tryz.func104) ?_
 rintro⟨r3,s2⟩ hx2 h _ w5 ⟨a7,c14,c15,rfl,hB2⟩
 try dsimp only at h
 refine HN hk2 hB2 fun c16 hI=> ?_
 refine⟨_,rfl,?_⟩
 refine T ?_
 refine bw (α:=(List UInt8)×aa×(Option Addr)×Nat) (fun _=>⟨46,[]⟩) (fun x=>[(0,vp b1 0),(2,vp b2 0),(3,vp b3 0),(4,vi s2.at_),(5,(str (x.1)))]) (fun x=>fun w=>∃ C,Bun C0 F w0 C w [MO.box b1 67 (af (x.2.1) (x.2.2.1) (x.2.2.2)),MO.box b2 39 #[vi 0,(str ([]:List UInt8)),vi 0,vi 0,vi 0,vi 0,vi 0,vi 0,vi 0,vi 0,vs none 0 0,vs none 0 0,vs none 0 0],MO.box b3 35 (ck r2)] [Cl.sl cGToken (x.2.2.1) (x.2.2.2) (x.2.1).l]∧cb r2 s2 (x.1) (x.2.1)=some r) ?_ ?_
 ·clear h hI;rintro⟨text1,r4,a8,c17⟩ w6 ⟨c18,hI,h⟩
  try dsimp only at hI h ⊢
  rw[cb]at h
  refine T ?_
  obtain⟨c19,f3,hB,hl3,hk3⟩:=hI.hands (.l (.r (.r .n)))
  refine ew h (fun _ hx3=>gQ HS hx3) (li hk3) (Rc Tryz.func130) ?_
  rintro⟨r5,s3⟩ hx3 h _ w7 ⟨a9,c20,c21,rfl,hB2⟩
  try dsimp only at h
  refine HN hk3 hB2 fun c22 hI=> ?_
  refine⟨_,rfl,?_⟩
  obtain⟨s4,hx4,h⟩:=ae h
  refine sq (tf rfl et et hx4) ?_
  refine T ?_
  refine bw (α:=(List UInt8)×aa×(Option Addr)×Nat) (fun _=>⟨46,[]⟩) (fun x=>[(0,vp b1 0),(2,vp b2 0),(3,vp b3 0),(4,vi s2.at_),(5,(str (x.1)))]) (fun x=>fun w=>∃ C,Bun C0 F w0 C w [MO.box b1 67 (af (x.2.1) (x.2.2.1) (x.2.2.2)),MO.box b2 39 #[vi 0,(str ([]:List UInt8)),vi 0,vi 0,vi 0,vi 0,vi 0,vi 0,vi 0,vi 0,vs none 0 0,vs none 0 0,vs none 0 0],MO.box b3 35 (ck r2)] [Cl.sl cGToken (x.2.2.1) (x.2.2.2) (x.2.1).l]∧cH r2 s2 (x.1) (x.2.1)=some r) ?_ ?_
  ·clear h hI;rintro⟨text2,r6,a10,c23⟩ w8 ⟨c24,hI,h⟩
   try dsimp only at hI h ⊢
   rw[cH]at h
   refine T ?_
   refine sB h (fun _ k=>wN hI.lt trivial k) (Rc Tryz.func260) fun r7 w9 h hI=> ?_
   refine T ?_
   refine lN fun b4 c25 w10 hI=> ?_
   refine lA fun c26 w11 hI=> ?_
   refine T ?_
   refine bw (α:=Unit) (fun _=>⟨46,[]⟩) (fun _=>[(0,vp b1 0),(2,vp b2 0),(3,vp b3 0),(6,vp b4 0)]) (fun _=>fun w=>∃ C,Bun C0 F w0 C w [MO.box b1 67 (af r6 a10 c23),MO.box b2 39 #[vi 0,(str ([]:List UInt8)),vi 0,vi 0,vi 0,vi 0,vi 0,vi 0,vi 0,vi 0,vs none 0 0,vs none 0 0,vs none 0 0],MO.box b3 35 (ck r2),MO.box b4 33 (oP r7.1)] [Cl.sl cGToken a10 c23 r6.l]∧dA r6 r7 r2=some r) ?_ ?_
   ·clear h hI;rintro _ w12 ⟨c27,hI,h⟩
    try dsimp only at hI h ⊢
    rw[dA]at h
    refine T ?_
    obtain⟨c28,f4,hB,hl5,hk4⟩:=hI.hands (.l (.r (.r (.r .n))))
    refine ew h (fun _ hx7=>aP HS hx7) (li hk4) (Rc Tryz.func104) ?_
    rintro⟨r8,s5⟩ hx7 h _ w13 ⟨a11,c29,c30,rfl,hB2⟩
    try dsimp only at h
    refine HN hk4 hB2 fun c31 hI=> ?_
    refine⟨_,rfl,?_⟩
    refine T ?_
    refine sq (aw (vs:=[(0,vi 1),(3,(Value.agg (ck r2))),(2,(Value.agg (oP r7.1)))]) (cs:=#[vi 1,(str ([]:List UInt8)),vi r7.1.N,vi r7.1.D,vi r2.Kind,vi r2.Bits,vi r2.Frac,vi r2.Round,vi r2.Over,vi 0,vs none 0 0,vs none 0 0,vs none 0 0]) rfl ⟨rfl,aj,⟨rfl,et,⟨rfl,et,trivial⟩⟩⟩ (by kernel_rfl)) ?_
    refine lA fun c32 w14 hI=> ?_
    refine nk (az ?_)
    have hI:=hI.add (c:=Cl.sl ah none 0 ([]:List GMono)) SlC.nil
    have hI:=hI.add (c:=Cl.sl ak none 0 ([]:List GIndex)) SlC.nil
    have hI:=hI.add (c:=Cl.sl an none 0 ([]:List GExpr)) SlC.nil
    obtain rfl:=ai h
    refine QG ?_
    exact .inl ⟨_,rfl,none,0,none,0,none,0,a11,c29,_,rfl,hI.arr GO SU⟩
   refine TC (fun hb h=> ?_) fun hb h=> ?_
   ·refine T ?_
    rcases ir h with⟨r9,hx8,h⟩ | ⟨pa_,pn_,hx8,hp_⟩
    rotate_left
    ·subst hp_
     refine nD gn rfl (aI (vs:=[vp b1 0,vi s2.at_,vi r7.2]) rfl ss ⟨et,⟨et,⟨et,trivial⟩⟩⟩) (Calls.mono (aR NE ⟨(hI.get0 .z),hI.lendBox (.s .z),trivial⟩ hx8) ?_)
     intro e_ w_ hq_;obtain⟨rfl,hx_⟩:=eI hq_;have hI_:=hI.ext hx_;exact .inr ⟨_,rfl,ip (.inr ⟨_,_,rfl,rfl,⟨_,hI_.arr .n trivial⟩⟩)⟩
    try dsimp only at h
    refine aA gn rfl (Rc Tryz.func71) (Calls.mono (aR NE ⟨(hI.get0 .z),hI.lendBox (.s .z),trivial⟩ hx8) ?_)
    intro e_ w15 hq_;obtain⟨rfl,hx9,hl6⟩:=eH hq_
    refine⟨_,rfl,?_⟩
    replace hI:=(hI.ext hx9)
    refine aK ?_
    exact kj ()
   exact bb (bj () SB BH rfl)
  refine T ?_
  obtain⟨c33,f5,hB,hl7,hk5⟩:=hI.hands (.l (.r (.r .n)))
  obtain⟨⟨r10,s6⟩,hx10,h⟩:=ae h
  try dsimp only at h
  refine aA gn rfl (Rc Tryz.func68) (Calls.mono (aM HS hx10) ?_)
  rintro _ w16 ⟨a12,c34,c35,rfl,hB2⟩
  refine HN hk5 hB2 fun c36 hI=> ?_
  refine⟨_,rfl,?_⟩
  refine TC (fun hb h=> ?_) fun hb h=> ?_
  ·refine T ?_
   obtain⟨c37,f6,hB,hl8,hk6⟩:=hI.hands (.l (.r (.r .n)))
   refine ew h (fun _ hx11=>gQ HS hx11) (li hk6) (Rc Tryz.func130) ?_
   rintro⟨r11,s7⟩ hx11 h _ w17 ⟨a13,c38,c39,rfl,hB2⟩
   try dsimp only at h
   refine HN hk6 hB2 fun c40 hI=> ?_
   refine⟨_,rfl,?_⟩
   obtain⟨s8,hx12,h⟩:=ae h
   refine sq (tf rfl aj et hx12) ?_
   obtain⟨s9,hx13,h⟩:=ae h
   refine sq (tf rfl et et hx13) ?_
   refine sa ?_
   refine aK ?_
   exact kj (s9,s7,a13,c38)
  exact bb (bj (s4,s6,a12,c34) SB BH rfl)
 refine T ?_
 obtain⟨c41,f7,hB,hl9,hk7⟩:=hI.hands (.l (.r (.r .n)))
 obtain⟨⟨r12,s10⟩,hx14,h⟩:=ae h
 try dsimp only at h
 refine aA gn rfl (Rc Tryz.func68) (Calls.mono (aM HS hx14) ?_)
 rintro _ w18 ⟨a14,c42,c43,rfl,hB2⟩
 refine HN hk7 hB2 fun c44 hI=> ?_
 refine⟨_,rfl,?_⟩
 refine TC (fun hb h=> ?_) fun hb h=> ?_
 ·refine T ?_
  refine aK ?_
  exact kj (([45]:List UInt8),s10,a14,c42)
 exact bb (bj (([]:List UInt8),s10,a14,c42) SB BH rfl)
def eg:Tr:=(.c (5,.s) (.c (6,.q) (.c (7,.s) .n)))
def de:Tr:=(.c (4,.s) eg)
abbrev xI (f_:(aa→Option (bu (GExpr×aa)))):Prop:=∀ ⦃C0 F:NP⦄ ⦃w0:World⦄ ⦃r1:aa⦄ ⦃b1 c1:Nat⦄ ⦃a1:Option Addr⦄ (hI:Bun C0 F w0 C0 w0 [MO.box b1 67 (af r1 a1 c1)] [Cl.sl cGToken a1 c1 r1.l,au]) ⦃r:bu (GExpr×aa)⦄ (h:f_ r1=some r),CP C0 F w0 34 #[vp b1 0] r fun rx e w=>∃ a2 c2 a3 c3 a4 c4 a5 c5 C,e= .returned (Value.agg (ap rx.1 a2 c2 a3 c3 a4 c4))∧Bun C0 F w0 C w [MO.box b1 67 (af rx.2 a5 c5)] [Cl.sl ah a2 c2 rx.1.Lin.L,Cl.sl ak a3 c3 rx.1.Idx,Cl.sl an a4 c4 rx.1.Args,Cl.sl cGToken a5 c5 rx.2.l]
theorem kH {rec_:(aa→Option (bu (GExpr×aa)))} (hrec:xI rec_) {r1:aa} {op1 many1:Int} (hI:Bun C0 F w0 C0 w0 [MO.box b1 67 (af r1 a1 c1)] [Cl.sl cGToken a1 c1 r1.l,au]) {r:bu (GExpr×aa)} (h:cT rec_ r1 op1 many1=some r):CP C0 F w0 256 #[vp b1 0,vi op1,vi many1] r fun rx e w=>∃ a2 c2 a3 c3 a4 c4 a5 c5 C,e= .returned (Value.agg (ap rx.1 a2 c2 a3 c3 a4 c4))∧Bun C0 F w0 C w [MO.box b1 67 (af rx.2 a5 c5)] [Cl.sl ah a2 c2 rx.1.Lin.L,Cl.sl ak a3 c3 rx.1.Idx,Cl.sl an a4 c4 rx.1.Args,Cl.sl cGToken a5 c5 rx.2.l]:=by
 refine fG (l:=[vp b1 0,vi op1,vi many1]) Tryz.func256 rfl Tryz.ntmps256 rfl ?_
 rw[cT]at h
 refine sr (cU (cs:=#[vi 0,(str ([]:List UInt8)),vi 0,vi 0,vi 0,vi 0,vi 0,vi 0,vi 0,vi 0,vs none 0 0,vs none 0 0,vs none 0 0]) hI gn rfl rfl dQ rfl ?_)
 intro b2 c6 w1 hI
 refine T ?_
 refine sq (aw (vs:=[(0,vi op1)]) (cs:=#[vi op1,(str ([]:List UInt8)),vi 0,vi 0,vi 0,vi 0,vi 0,vi 0,vi 0,vi 0,vs none 0 0,vs none 0 0,vs none 0 0]) rfl ⟨rfl,et,trivial⟩ (by kernel_rfl)) ?_
 refine lN fun b3 c7 w2 hI=> ?_
 refine lA fun c8 w3 hI=> ?_
 refine T ?_
 obtain⟨c9,f1,hB,hl1,hk1⟩:=hI.hands (.r (.r (.l .n)))
 refine ew h (fun _ hx1=>kF HS hx1) (li hk1) (Rc Tryz.func253) ?_
 rintro⟨r2,s1⟩ hx1 h _ w4 ⟨a6,c10,c11,rfl,hB2⟩
 try dsimp only at h
 refine HN hk1 hB2 fun c12 hI=> ?_
 refine⟨_,rfl,?_⟩
 refine nk (al (T ?_))
 have hI:=hI.nil ah 64 none
 have hI:=hI.nil ak 132 none
 have hI:=hI.nil an 39 none
 refine bc (α:=Nat×Int×aa×GExpr×(Option Addr)×Nat×(Option Addr)×Nat×(Option Addr)×Nat×(Option Addr)×Nat) (fun x=>fun w=>∃ C,Bun C0 F w0 C w [MO.row ah 64 (x.2.2.2.2.2.2.1) (x.2.2.2.2.2.2.2.1) (x.2.2.2.1).Lin.L,MO.row ak 132 (x.2.2.2.2.2.2.2.2.1) (x.2.2.2.2.2.2.2.2.2.1) (x.2.2.2.1).Idx,MO.row an 39 (x.2.2.2.2.2.2.2.2.2.2.1) (x.2.2.2.2.2.2.2.2.2.2.2) (x.2.2.2.1).Args,MO.box b1 67 (af (x.2.2.1) (x.2.2.2.2.1) (x.2.2.2.2.2.1)),MO.box b2 39 #[vi 0,(str ([]:List UInt8)),vi 0,vi 0,vi 0,vi 0,vi 0,vi 0,vi 0,vi 0,vs none 0 0,vs none 0 0,vs none 0 0],MO.box b3 39 (ap (x.2.2.2.1) (x.2.2.2.2.2.2.1) (x.2.2.2.2.2.2.2.1) (x.2.2.2.2.2.2.2.2.1) (x.2.2.2.2.2.2.2.2.2.1) (x.2.2.2.2.2.2.2.2.2.2.1) (x.2.2.2.2.2.2.2.2.2.2.2))] [Cl.sl cGToken (x.2.2.2.2.1) (x.2.2.2.2.2.1) (x.2.2.1).l,au]∧bp many1 rec_ (x.1) (x.2.1) (x.2.2.1) (x.2.2.2.1)=some r) (fun x _=>x.1) (fun x=>[(0,vp b1 0),(6,vp b2 0),(7,vp b3 0),(13,vi many1),(14,vi (x.2.1))]) (fu,0,s1,(⟨op1,([]:List UInt8),(⟨0,0⟩:GVal),(⟨0,0,0,0,0⟩:GType),(⟨0,([]:List GMono)⟩:GLin),([]:List GIndex),([]:List GExpr)⟩:GExpr),a6,c10,none,0,none,0,none,0) ⟨_,hI.arr (.c (.s (.s .z)) (.c (.s .z) (.c .z (.c .z (.c (.s .z) (.c .z .n)))))) ⟨.z,(.s (.s .z)),trivial⟩,h⟩ SB ?_
 clear h hI;rintro⟨fuel1,i1,r3,e1,a7,c13,a8,c14,a9,c15,a10,c16⟩ w5 ⟨c17,hI,h⟩
 dsimp only at hI h ⊢
 rcases fuel1 with _ | fuel1
 ·rw[bp]at h;cases h
 rw[bp]at h
 refine T ?_
 refine al (wJ h et (fun hb h=> ?_) (fun hb h=> ?_))
 ·refine T ?_
  refine al (T ?_)
  refine bw (α:=aa×(Option Addr)×Nat) (fun _=>⟨32,[]⟩) (fun x=>[(0,vp b1 0),(6,vp b2 0),(7,vp b3 0),(13,vi many1),(14,vi i1)]) (fun x=>fun w=>∃ C,Bun C0 F w0 C w [MO.box b1 67 (af (x.1) (x.2.1) (x.2.2)),MO.box b2 39 #[vi 0,(str ([]:List UInt8)),vi 0,vi 0,vi 0,vi 0,vi 0,vi 0,vi 0,vi 0,vs none 0 0,vs none 0 0,vs none 0 0],MO.box b3 39 (ap e1 a8 c14 a9 c15 a10 c16),MO.row ah 64 a8 c14 e1.Lin.L,MO.row ak 132 a9 c15 e1.Idx,MO.row an 39 a10 c16 e1.Args] [Cl.sl cGToken (x.2.1) (x.2.2) (x.1).l,au]∧dD rec_ e1 (bp many1 rec_ fuel1) i1 (x.1)=some r) ?_ ?_
  ·clear h hI;rintro⟨r4,a11,c18⟩ w6 ⟨c19,hI,h⟩
   try dsimp only at hI h ⊢
   rw[dD]at h
   rcases ir h with⟨⟨r5,s2⟩,hx2,h⟩ | ⟨pa_,pn_,hx2,hp_⟩
   rotate_left
   ·subst hp_
    refine aD [3,5,7] false (.c (0,.q) (.c (2,.q) (.two 1 (.c (3,.s) de) 3 (.two 1 de 4 (.c (1,.s) eg))))) hI (by kernel_rfl) (by kernel_rfl) ?_
    intro w13 hI
    refine V ?_
    refine cK ?_ ?_
    ·skip
     refine be rfl gn rfl (bf (v:=(vs a10 e1.Args.length c16)) rfl et FE rfl (CellsAt.of_blk (hI.blk (.s (.s .z))) rfl)) SX.self ?_
     refine bH (F:=F) (C:=c19) rfl rfl ?_
     obtain⟨c20,f2,hB,hl2,hk2⟩:=hI.hands (.l (.r (.r (.r (.r (.r .n))))))
     refine fa rfl gn rfl (aI (vs:=[vp b1 0]) rfl qi ⟨et,trivial⟩) (Calls.mono (hrec HS hx2) ?_)
     intro e_ w_ hq_;obtain⟨rfl,C_,hB_⟩:=eI hq_;obtain⟨C9_,-,hI_⟩:=hk2 _ _ _ _ hB_;exact .inr ⟨_,rfl,ip (.inr ⟨_,_,rfl,rfl,⟨_,hI_.arr .n trivial⟩⟩)⟩
    refine bo (F:=F) (C:=c19) rfl rfl ?_
    obtain⟨c20,f2,hB,hl2,hk2⟩:=hI.hands (.l (.r (.r (.r (.r (.r .n))))))
    refine fa rfl gn rfl (aI (vs:=[vp b1 0]) rfl qi ⟨et,trivial⟩) (Calls.mono (hrec HS hx2) ?_)
    intro e_ w_ hq_;obtain⟨rfl,C_,hB_⟩:=eI hq_;obtain⟨C9_,-,hI_⟩:=hk2 _ _ _ _ hB_;exact .inr ⟨_,rfl,ip (.inr ⟨_,_,rfl,rfl,⟨_,hI_.arr .n trivial⟩⟩)⟩
   try dsimp only at h
   obtain⟨zs1,hx3,h⟩:=ae h
   refine aD [3,5,7] false (.c (0,.q) (.c (2,.q) (.two 1 (.c (3,.s) de) 3 (.two 1 de 4 (.c (1,.s) eg))))) hI (by kernel_rfl) (by kernel_rfl) ?_
   intro w14 hI
   refine bP (α:=(Option Addr)×Nat×(Option Addr)×Nat×(Option Addr)×Nat×(Option Addr)×Nat×Nat×NP) (T:=eg) (fun x=>[(0,vp b1 0),(6,vp b2 0),(7,vp b3 0),(13,vi many1),(14,vi i1),(21,vp b3 12),(22,vs a10 e1.Args.length c16),(23,vp b1 0),(24,(Value.agg (ap r5 (x.1) (x.2.1) (x.2.2.1) (x.2.2.2.1) (x.2.2.2.2.1) (x.2.2.2.2.2.1)))),(25,(vs (some ⟨(x.2.2.2.2.2.2.2.2.1),0,none⟩) ([r5]:List GExpr).length 1))]) (fun x w=>Bun C0 F w0 (x.2.2.2.2.2.2.2.2.2) w [MO.row an 39 (some ⟨(x.2.2.2.2.2.2.2.2.1),0,none⟩) 1 ([r5]:List GExpr),MO.box b1 67 (af s2 (x.2.2.2.2.2.2.1) (x.2.2.2.2.2.2.2.1)),MO.box b2 39 #[vi 0,(str ([]:List UInt8)),vi 0,vi 0,vi 0,vi 0,vi 0,vi 0,vi 0,vi 0,vs none 0 0,vs none 0 0,vs none 0 0],MO.box b3 39 (ap e1 a8 c14 a9 c15 a10 c16),MO.row ah 64 a8 c14 e1.Lin.L,MO.row ak 132 a9 c15 e1.Idx,MO.row an 39 a10 c16 e1.Args] [Cl.sl ah (x.1) (x.2.1) r5.Lin.L,Cl.sl ak (x.2.2.1) (x.2.2.2.1) r5.Idx,Cl.sl an (x.2.2.2.2.1) (x.2.2.2.2.2.1) r5.Args,Cl.sl cGToken (x.2.2.2.2.2.2.1) (x.2.2.2.2.2.2.2.1) s2.l,Cl.sl cGToken a11 c18 r4.l,au]) (fun x w=>SN [] (DM true F (x.2.2.2.2.2.2.2.2.2)) w) ?_ ?_
   ·clear hI;rintro⟨a12,c21,a13,c22,a14,c23,a15,c24,b4,c32⟩ w12 hI
    try dsimp only at hI ⊢
    unfold eg
    refine rb (xs:=e1.Args) (ys:=([r5]:List GExpr)) hI (.s (.s (.s (.s (.s (.s .z)))))) (hI.rd .z) hx3 rfl gn rfl rfl FE iY rfl rfl et et ?_
    intro a16 c28 c29 w9 hI
    refine V ?_
    refine vS fun c30 w10 hI=> ?_
    refine V ?_
    refine T ?_
    refine aK ?_
    exact jE (fuel1,aq (i1+1),s2,(⟨e1.Op,e1.Name,e1.Val,e1.Type_,e1.Lin,e1.Idx,zs1⟩:GExpr),a15,c24,a8,c14,a9,c15,a16,c28) SB ⟨_,hI.arr GO SU,h⟩ (Nat.lt_succ_self _)
   intro hk_tr_parser_reader_call_w_3_1
   refine bP (α:=(Option Addr)×Nat×(Option Addr)×Nat×(Option Addr)×Nat×(Option Addr)×Nat×NP) (T:=de) (fun x=>[(0,vp b1 0),(6,vp b2 0),(7,vp b3 0),(13,vi many1),(14,vi i1),(21,vp b3 12),(22,vs a10 e1.Args.length c16),(23,vp b1 0),(24,(Value.agg (ap r5 (x.1) (x.2.1) (x.2.2.1) (x.2.2.2.1) (x.2.2.2.2.1) (x.2.2.2.2.2.1))))]) (fun x w=>Bun C0 F w0 (x.2.2.2.2.2.2.2.2) w [MO.box b1 67 (af s2 (x.2.2.2.2.2.2.1) (x.2.2.2.2.2.2.2.1)),MO.box b2 39 #[vi 0,(str ([]:List UInt8)),vi 0,vi 0,vi 0,vi 0,vi 0,vi 0,vi 0,vi 0,vs none 0 0,vs none 0 0,vs none 0 0],MO.box b3 39 (ap e1 a8 c14 a9 c15 a10 c16),MO.row ah 64 a8 c14 e1.Lin.L,MO.row ak 132 a9 c15 e1.Idx,MO.row an 39 a10 c16 e1.Args] [Cl.sl ah (x.1) (x.2.1) r5.Lin.L,Cl.sl ak (x.2.2.1) (x.2.2.2.1) r5.Idx,Cl.sl an (x.2.2.2.2.1) (x.2.2.2.2.2.1) r5.Args,Cl.sl cGToken (x.2.2.2.2.2.2.1) (x.2.2.2.2.2.2.2.1) s2.l,Cl.sl cGToken a11 c18 r4.l,au]) (fun x w=>SN [] (DM true F (x.2.2.2.2.2.2.2.2)) w) ?_ ?_
   ·clear hI;rintro⟨a12,c21,a13,c22,a14,c23,a15,c24,c31⟩ w11 hI
    try dsimp only at hI ⊢
    unfold de
    refine vl hI an ([r5]:List GExpr) iY (.cs (dF ⟨a12,c21,a13,c22,a14,c23,rfl,hI.get .z,hI.get (.s .z),hI.get (.s (.s .z))⟩) .nl) fun b4 c27 w8 hI=> ?_
    exact aQ (hk_tr_parser_reader_call_w_3_1 (a12,c21,a13,c22,a14,c23,a15,c24,b4,c27) _ (hI.arr GO SU)) SB
   intro hk_tr_parser_reader_call_w_3_0
   refine V ?_
   refine cK ?_ ?_
   ·skip
    refine be rfl gn rfl (bf (v:=(vs a10 e1.Args.length c16)) rfl et FE rfl (CellsAt.of_blk (hI.blk (.s (.s .z))) rfl)) SX.self ?_
    refine bH (F:=F) (C:=c19) rfl rfl ?_
    obtain⟨c20,f2,hB,hl2,hk2⟩:=hI.hands (.l (.r (.r (.r (.r (.r .n))))))
    refine eZ rfl gn rfl (aI (vs:=[vp b1 0]) rfl qi ⟨et,trivial⟩) (Calls.mono (hrec HS hx2) ?_)
    intro e_ w7 hq_;obtain⟨a12,c21,a13,c22,a14,c23,a15,c24,c25,rfl,hB2⟩:=eH hq_
    obtain⟨c26,hs2,hI⟩:=hk2 _ _ _ _ hB2
    dsimp only[ca,na]at hI
    refine⟨_,rfl,DM true F c26,hs2,?_⟩
    exact aQ (hk_tr_parser_reader_call_w_3_0 (a12,c21,a13,c22,a14,c23,a15,c24,c26) _ (hI.arr GO SU)) SB
   refine bo (F:=F) (C:=c19) rfl rfl ?_
   obtain⟨c20,f2,hB,hl2,hk2⟩:=hI.hands (.l (.r (.r (.r (.r (.r .n))))))
   refine eZ rfl gn rfl (aI (vs:=[vp b1 0]) rfl qi ⟨et,trivial⟩) (Calls.mono (hrec HS hx2) ?_)
   intro e_ w7 hq_;obtain⟨a12,c21,a13,c22,a14,c23,a15,c24,c25,rfl,hB2⟩:=eH hq_
   obtain⟨c26,hs2,hI⟩:=hk2 _ _ _ _ hB2
   dsimp only[ca,na]at hI
   refine⟨_,rfl,DM true F c26,hs2,?_⟩
   refine cK ?_ ?_
   ·skip
    refine be rfl gn rfl (bf (v:=(vs a10 e1.Args.length c16)) rfl et FE rfl (CellsAt.of_blk (hI.blk (.s (.s .z))) rfl)) SX.self ?_
    exact aQ (hk_tr_parser_reader_call_w_3_0 (a12,c21,a13,c22,a14,c23,a15,c24,c26) _ (hI.arr GO SU)) SB
   refine vl hI an ([r5]:List GExpr) iY (.cs (dF ⟨a12,c21,a13,c22,a14,c23,rfl,hI.get .z,hI.get (.s .z),hI.get (.s (.s .z))⟩) .nl) fun b4 c27 w8 hI=> ?_
   refine be rfl gn rfl (bf (v:=(vs a10 e1.Args.length c16)) rfl et FE rfl (CellsAt.of_blk (hI.blk (.s (.s (.s .z)))) rfl)) SX.self ?_
   exact aQ (hk_tr_parser_reader_call_w_3_1 (a12,c21,a13,c22,a14,c23,a15,c24,b4,c27) _ (hI.arr GO SU)) SB
  refine TC (fun hb h=> ?_) fun hb h=> ?_
  ·refine T ?_
   obtain⟨c33,f3,hB,hl3,hk3⟩:=hI.hands (.r (.r (.r (.l (.r (.r .n))))))
   refine ew h (fun _ hx4=>aP HS hx4) (li hk3) (Rc Tryz.func104) ?_
   rintro⟨r6,s3⟩ hx4 h _ w15 ⟨a17,c34,c35,rfl,hB2⟩
   try dsimp only at h
   refine HN hk3 hB2 fun c36 hI=> ?_
   refine⟨_,rfl,?_⟩
   refine aK ?_
   exact bj (s3,a17,c34) SB ⟨_,hI.arr GO SU,h⟩ rfl
  exact bb (bj (r3,a7,c13) SB ⟨_,hI.arr GO SU,h⟩ rfl)
 refine bh ?_
 refine eD ?_
 refine aX ?_
 refine T ?_
 obtain⟨c37,f4,hB,hl4,hk4⟩:=hI.hands (.r (.r (.r (.l (.r (.r .n))))))
 refine ew h (fun _ hx5=>ke HS hx5) (li hk4) (Rc Tryz.func254) ?_
 rintro⟨r7,s4⟩ hx5 h _ w16 ⟨a18,c38,c39,rfl,hB2⟩
 try dsimp only at h
 refine HN hk4 hB2 fun c40 hI=> ?_
 refine⟨_,rfl,?_⟩
 refine T ?_
 refine lA fun c41 w17 hI=> ?_
 refine nk (az ?_)
 obtain⟨c42,hI⟩:=hI.release (.s .z)
 obtain⟨c43,hI⟩:=hI.release (.s .z)
 obtain⟨c44,hI⟩:=hI.release (.s .z)
 obtain rfl:=ai h
 refine QG ?_
 exact .inl ⟨_,rfl,a8,c14,a9,c15,a10,c16,a18,c38,_,rfl,hI.arr GO SU⟩
def d7:Tr:=(.c (6,.s) .n)
def d8:Tr:=(.c (5,.s) d7)
def d9:Tr:=(.c (0,.s) (.c (4,.q) d7))
def ee:Tr:=(.c (3,.s) (.c (4,.q) d7))
def db:Tr:=(.two 0 ee 3 d9)
def bR:Tr:=(.c (2,.s) ee)
def dd:Tr:=(.two 3 (.c (4,.q) d8) 5 ee)
theorem pY {rec_:(aa→Option (bu (GExpr×aa)))} (hrec:xI rec_) {r1:aa} (hI:Bun C0 F w0 C0 w0 [MO.box b1 67 (af r1 a1 c1)] [Cl.sl cGToken a1 c1 r1.l,au]) {r:bu (GExpr×aa)} (h:eU rec_ r1=some r):CP C0 F w0 257 #[vp b1 0] r fun rx e w=>∃ a2 c2 a3 c3 a4 c4 a5 c5 C,e= .returned (Value.agg (ap rx.1 a2 c2 a3 c3 a4 c4))∧Bun C0 F w0 C w [MO.box b1 67 (af rx.2 a5 c5)] [Cl.sl ah a2 c2 rx.1.Lin.L,Cl.sl ak a3 c3 rx.1.Idx,Cl.sl an a4 c4 rx.1.Args,Cl.sl cGToken a5 c5 rx.2.l]:=by
 refine fG (l:=[vp b1 0]) Tryz.func257 rfl Tryz.ntmps257 rfl ?_
 rw[eU]at h
 refine sr (cU (cs:=#[vi 0,(str ([]:List UInt8)),vi 0,vi 0,vi 0,vi 0,vi 0,vi 0,vi 0,vi 0,vs none 0 0,vs none 0 0,vs none 0 0]) hI gn rfl rfl dQ rfl ?_)
 intro b2 c6 w1 hI
 refine T ?_
 obtain⟨c7,f1,hB,hl1,hk1⟩:=hI.hands (.r (.l .n))
 refine ew h (fun _ hx1=>kF HS hx1) (li hk1) (Rc Tryz.func253) ?_
 rintro⟨r2,s1⟩ hx1 h _ w2 ⟨a6,c8,c9,rfl,hB2⟩
 try dsimp only at h
 refine HN hk1 hB2 fun c10 hI=> ?_
 refine⟨_,rfl,?_⟩
 refine T ?_
 obtain⟨c11,f2,hB,hl2,hk2⟩:=hI.hands (.l (.r .n))
 refine ew h (fun _ hx2=>ni HS hx2) (li hk2) (Rc Tryz.func174) ?_
 rintro⟨r3,s2⟩ hx2 h _ w3 ⟨a7,c12,c13,rfl,hB2⟩
 try dsimp only at h
 refine HN hk2 hB2 fun c14 hI=> ?_
 refine⟨_,rfl,?_⟩
 refine lN fun b3 c15 w4 hI=> ?_
 refine lA fun c16 w5 hI=> ?_
 refine T ?_
 obtain⟨c17,f3,hB,hl3,hk3⟩:=hI.hands (.r (.l (.r .n)))
 refine ew h (fun _ hx3=>aP HS hx3) (li hk3) (Rc Tryz.func104) ?_
 rintro⟨r4,s3⟩ hx3 h _ w6 ⟨a8,c18,c19,rfl,hB2⟩
 try dsimp only at h
 refine HN hk3 hB2 fun c20 hI=> ?_
 refine⟨_,rfl,?_⟩
 refine nk (al ?_)
 rcases ir h with⟨⟨r5,s4⟩,hx4,h⟩ | ⟨pa_,pn_,hx4,hp_⟩
 rotate_left
 ·subst hp_
  refine aD [2,6] false (.c (1,.q) (.three 0 (.two 2 dd 5 bR) 2 (.three 0 dd 3 (.two 0 (.c (4,.q) d8) 5 d9) 5 db) 5 (.two 0 bR 2 db))) hI (by kernel_rfl) (by kernel_rfl) ?_
  intro w18 hI
  refine bP (α:=Nat×NP) (T:=bR) (fun x=>[(0,vp b1 0),(2,vp b2 0),(3,vp b3 0),(4,(Value.pointer (some ⟨(x.1),0,none⟩))),(5,vp b1 0),(6,(Value.tuple #[])),(7,vp b1 0),(8,(Value.agg (ck r3))),(9,vp b1 0),(10,(Value.tuple #[])),(11,(Value.agg (ck r3))),(12,vp b1 0)]) (fun x w=>Bun C0 F w0 (x.2) w [MO.box (x.1) 39 #[vi 0,(str ([]:List UInt8)),vi 0,vi 0,vi 0,vi 0,vi 0,vi 0,vi 0,vi 0,vs none 0 0,vs none 0 0,vs none 0 0],MO.box b1 67 (af s3 a8 c18),MO.box b3 35 (ck r3),MO.box b2 39 #[vi 0,(str ([]:List UInt8)),vi 0,vi 0,vi 0,vi 0,vi 0,vi 0,vi 0,vi 0,vs none 0 0,vs none 0 0,vs none 0 0]] [Cl.sl cGToken a8 c18 s3.l,Cl.sl cGToken a7 c12 s2.l,Cl.sl cGToken a6 c8 s1.l,Cl.sl cGToken a1 c1 r1.l,au]) (fun x w=>SN [2,6] (DM false F (x.2)) w) ?_ ?_
  ·clear hI;rintro⟨b5,c32⟩ w12 hI
   try dsimp only at hI ⊢
   unfold bR
   refine bH (F:=F) (C:=c32) rfl rfl ?_
   obtain⟨c21,f4,hB,hl4,hk4⟩:=hI.hands (.r (.l (.r (.r .n))))
   refine fa rfl gn rfl (aI (vs:=[vp b1 0]) rfl qi ⟨et,trivial⟩) (Calls.mono (hrec HS hx4) ?_)
   intro e_ w_ hq_;obtain⟨rfl,C_,hB_⟩:=eI hq_;obtain⟨C9_,-,hI_⟩:=hk4 _ _ _ _ hB_;exact .inr ⟨_,rfl,ip (.inr ⟨_,_,rfl,rfl,⟨_,hI_.arr .n trivial⟩⟩)⟩
  intro hk_tr_parser_reader_cast_w_1_1
  refine V ?_
  refine rl ?_ ?_ ?_
  ·skip
   refine be rfl gn rfl (am (l:=(dx r3)) rfl et qf rfl cA (CellsAt.of_blk (hI.blk (.s .z)) rfl)) SX.self ?_
   refine cK ?_ ?_
   ·skip
    refine bo (F:=F) (C:=c20) rfl rfl ?_
    obtain⟨c21,f4,hB,hl4,hk4⟩:=hI.hands (.l (.r (.r .n)))
    refine fa rfl gn rfl (aI (vs:=[vp b1 0]) rfl qi ⟨et,trivial⟩) (Calls.mono (hrec HS hx4) ?_)
    intro e_ w_ hq_;obtain⟨rfl,C_,hB_⟩:=eI hq_;obtain⟨C9_,-,hI_⟩:=hk4 _ _ _ _ hB_;exact .inr ⟨_,rfl,ip (.inr ⟨_,_,rfl,rfl,⟨_,hI_.arr .n trivial⟩⟩)⟩
   refine fN (cs:=#[vi 0,(str ([]:List UInt8)),vi 0,vi 0,vi 0,vi 0,vi 0,vi 0,vi 0,vi 0,vs none 0 0,vs none 0 0,vs none 0 0]) hI rfl gn rfl rfl dQ rfl ?_
   intro b5 c29 w9 hI
   exact aQ (hk_tr_parser_reader_cast_w_1_1 (b5,c29) _ (hI.arr GO SU)) SB
  ·skip
   refine bo (F:=F) (C:=c20) rfl rfl ?_
   obtain⟨c21,f4,hB,hl4,hk4⟩:=hI.hands (.l (.r (.r .n)))
   refine fa rfl gn rfl (aI (vs:=[vp b1 0]) rfl qi ⟨et,trivial⟩) (Calls.mono (hrec HS hx4) ?_)
   intro e_ w_ hq_;obtain⟨rfl,C_,hB_⟩:=eI hq_;obtain⟨C9_,-,hI_⟩:=hk4 _ _ _ _ hB_;exact .inr ⟨_,rfl,ip (.inr ⟨_,_,rfl,rfl,⟨_,hI_.arr .n trivial⟩⟩)⟩
  refine fN (cs:=#[vi 0,(str ([]:List UInt8)),vi 0,vi 0,vi 0,vi 0,vi 0,vi 0,vi 0,vi 0,vs none 0 0,vs none 0 0,vs none 0 0]) hI rfl gn rfl rfl dQ rfl ?_
  intro b5 c29 w9 hI
  refine cK ?_ ?_
  ·skip
   refine be rfl gn rfl (am (l:=(dx r3)) rfl et qf rfl cA (CellsAt.of_blk (hI.blk (.s (.s .z))) rfl)) SX.self ?_
   exact aQ (hk_tr_parser_reader_cast_w_1_1 (b5,c29) _ (hI.arr GO SU)) SB
  refine bo (F:=F) (C:=c29) rfl rfl ?_
  obtain⟨c21,f4,hB,hl4,hk4⟩:=hI.hands (.r (.l (.r (.r .n))))
  refine fa rfl gn rfl (aI (vs:=[vp b1 0]) rfl qi ⟨et,trivial⟩) (Calls.mono (hrec HS hx4) ?_)
  intro e_ w_ hq_;obtain⟨rfl,C_,hB_⟩:=eI hq_;obtain⟨C9_,-,hI_⟩:=hk4 _ _ _ _ hB_;exact .inr ⟨_,rfl,ip (.inr ⟨_,_,rfl,rfl,⟨_,hI_.arr .n trivial⟩⟩)⟩
 try dsimp only at h
 refine aD [2,6] false (.c (1,.q) (.three 0 (.two 2 dd 5 bR) 2 (.three 0 dd 3 (.two 0 (.c (4,.q) d8) 5 d9) 5 db) 5 (.two 0 bR 2 db))) hI (by kernel_rfl) (by kernel_rfl) ?_
 intro w19 hI
 refine bP (α:=(Option Addr)×Nat×(Option Addr)×Nat×(Option Addr)×Nat×(Option Addr)×Nat×Nat×Nat×NP) (T:=d7) (fun x=>[(0,vp b1 0),(2,vp b2 0),(3,vp b3 0),(4,(Value.pointer (some ⟨(x.2.2.2.2.2.2.2.2.2.1),0,none⟩))),(5,vp b1 0),(6,(Value.tuple #[])),(7,vp b1 0),(8,(Value.agg (ck r3))),(9,vp b1 0),(10,(Value.tuple #[])),(11,(Value.agg (ck r3))),(12,vp b1 0),(13,(Value.agg (ap r5 (x.1) (x.2.1) (x.2.2.1) (x.2.2.2.1) (x.2.2.2.2.1) (x.2.2.2.2.2.1)))),(14,(vs (some ⟨(x.2.2.2.2.2.2.2.2.1),0,none⟩) ([r5]:List GExpr).length 1)),(15,(Value.agg #[vi 12,(str ([]:List UInt8)),vi 0,vi 0,vi r3.Kind,vi r3.Bits,vi r3.Frac,vi r3.Round,vi r3.Over,vi 0,vs none 0 0,vs none 0 0,(vs (some ⟨(x.2.2.2.2.2.2.2.2.1),0,none⟩) ([r5]:List GExpr).length 1)]))]) (fun x w=>Bun C0 F w0 (x.2.2.2.2.2.2.2.2.2.2) w [MO.row an 39 (some ⟨(x.2.2.2.2.2.2.2.2.1),0,none⟩) 1 ([r5]:List GExpr),MO.box (x.2.2.2.2.2.2.2.2.2.1) 39 #[vi 0,(str ([]:List UInt8)),vi 0,vi 0,vi 0,vi 0,vi 0,vi 0,vi 0,vi 0,vs none 0 0,vs none 0 0,vs none 0 0],MO.box b1 67 (af s4 (x.2.2.2.2.2.2.1) (x.2.2.2.2.2.2.2.1)),MO.box b3 35 (ck r3),MO.box b2 39 #[vi 0,(str ([]:List UInt8)),vi 0,vi 0,vi 0,vi 0,vi 0,vi 0,vi 0,vi 0,vs none 0 0,vs none 0 0,vs none 0 0]] [Cl.sl ah (x.1) (x.2.1) r5.Lin.L,Cl.sl ak (x.2.2.1) (x.2.2.2.1) r5.Idx,Cl.sl an (x.2.2.2.2.1) (x.2.2.2.2.2.1) r5.Args,Cl.sl cGToken (x.2.2.2.2.2.2.1) (x.2.2.2.2.2.2.2.1) s4.l,Cl.sl cGToken a8 c18 s3.l,Cl.sl cGToken a7 c12 s2.l,Cl.sl cGToken a6 c8 s1.l,Cl.sl cGToken a1 c1 r1.l,au]) (fun x w=>SN [] (DM true F (x.2.2.2.2.2.2.2.2.2.2)) w) ?_ ?_
 ·clear hI;rintro⟨a9,c22,a10,c23,a11,c24,a12,c25,b4,b5,c37⟩ w17 hI
  try dsimp only at hI ⊢
  unfold d7
  refine vA fun c30 w10 hI=> ?_
  refine V ?_
  refine T ?_
  obtain⟨c38,f5,hB,hl5,hk5⟩:=hI.hands (.r (.r (.l (.r (.r .n)))))
  refine ew h (fun _ hx5=>ke HS hx5) (li hk5) (Rc Tryz.func254) ?_
  rintro⟨r6,s5⟩ hx5 h _ w20 ⟨a13,c39,c40,rfl,hB2⟩
  try dsimp only at h
  refine HN hk5 hB2 fun c41 hI=> ?_
  refine⟨_,rfl,?_⟩
  refine T ?_
  refine lA fun c42 w21 hI=> ?_
  refine nk (az ?_)
  obtain⟨c43,hI⟩:=hI.release (.s .z)
  have hI:=hI.add (c:=Cl.sl ah none 0 ([]:List GMono)) SlC.nil
  have hI:=hI.add (c:=Cl.sl ak none 0 ([]:List GIndex)) SlC.nil
  obtain rfl:=ai h
  refine QG ?_
  exact .inl ⟨_,rfl,none,0,none,0,some ⟨b4,0,none⟩,1,a13,c39,_,rfl,hI.arr GO SU⟩
 intro hk_tr_parser_reader_cast_w_1_6
 refine bP (α:=(Option Addr)×Nat×(Option Addr)×Nat×(Option Addr)×Nat×(Option Addr)×Nat×Nat×NP) (T:=d8) (fun x=>[(0,vp b1 0),(2,vp b2 0),(3,vp b3 0),(5,vp b1 0),(6,(Value.tuple #[])),(7,vp b1 0),(8,(Value.agg (ck r3))),(9,vp b1 0),(10,(Value.tuple #[])),(11,(Value.agg (ck r3))),(12,vp b1 0),(13,(Value.agg (ap r5 (x.1) (x.2.1) (x.2.2.1) (x.2.2.2.1) (x.2.2.2.2.1) (x.2.2.2.2.2.1)))),(14,(vs (some ⟨(x.2.2.2.2.2.2.2.2.1),0,none⟩) ([r5]:List GExpr).length 1)),(15,(Value.agg #[vi 12,(str ([]:List UInt8)),vi 0,vi 0,vi r3.Kind,vi r3.Bits,vi r3.Frac,vi r3.Round,vi r3.Over,vi 0,vs none 0 0,vs none 0 0,(vs (some ⟨(x.2.2.2.2.2.2.2.2.1),0,none⟩) ([r5]:List GExpr).length 1)]))]) (fun x w=>Bun C0 F w0 (x.2.2.2.2.2.2.2.2.2) w [MO.row an 39 (some ⟨(x.2.2.2.2.2.2.2.2.1),0,none⟩) 1 ([r5]:List GExpr),MO.box b1 67 (af s4 (x.2.2.2.2.2.2.1) (x.2.2.2.2.2.2.2.1)),MO.box b3 35 (ck r3),MO.box b2 39 #[vi 0,(str ([]:List UInt8)),vi 0,vi 0,vi 0,vi 0,vi 0,vi 0,vi 0,vi 0,vs none 0 0,vs none 0 0,vs none 0 0]] [Cl.sl ah (x.1) (x.2.1) r5.Lin.L,Cl.sl ak (x.2.2.1) (x.2.2.2.1) r5.Idx,Cl.sl an (x.2.2.2.2.1) (x.2.2.2.2.2.1) r5.Args,Cl.sl cGToken (x.2.2.2.2.2.2.1) (x.2.2.2.2.2.2.2.1) s4.l,Cl.sl cGToken a8 c18 s3.l,Cl.sl cGToken a7 c12 s2.l,Cl.sl cGToken a6 c8 s1.l,Cl.sl cGToken a1 c1 r1.l,au]) (fun x w=>SN [] (DM true F (x.2.2.2.2.2.2.2.2.2)) w) ?_ ?_
 ·clear hI;rintro⟨a9,c22,a10,c23,a11,c24,a12,c25,b4,c36⟩ w16 hI
  try dsimp only at hI ⊢
  unfold d8
  refine fN (cs:=#[vi 0,(str ([]:List UInt8)),vi 0,vi 0,vi 0,vi 0,vi 0,vi 0,vi 0,vi 0,vs none 0 0,vs none 0 0,vs none 0 0]) hI rfl gn rfl rfl dQ rfl ?_
  intro b5 c29 w9 hI
  exact aQ (hk_tr_parser_reader_cast_w_1_6 (a9,c22,a10,c23,a11,c24,a12,c25,b4,b5,c29) _ (hI.arr GO SU)) SB
 intro hk_tr_parser_reader_cast_w_1_5
 refine bP (α:=(Option Addr)×Nat×(Option Addr)×Nat×(Option Addr)×Nat×(Option Addr)×Nat×Nat×Nat×NP) (T:=d9) (fun x=>[(0,vp b1 0),(2,vp b2 0),(3,vp b3 0),(4,(Value.pointer (some ⟨(x.2.2.2.2.2.2.2.2.2.1),0,none⟩))),(5,vp b1 0),(6,(Value.tuple #[])),(7,vp b1 0),(8,(Value.agg (ck r3))),(9,vp b1 0),(10,(Value.tuple #[])),(12,vp b1 0),(13,(Value.agg (ap r5 (x.1) (x.2.1) (x.2.2.1) (x.2.2.2.1) (x.2.2.2.2.1) (x.2.2.2.2.2.1)))),(14,(vs (some ⟨(x.2.2.2.2.2.2.2.2.1),0,none⟩) ([r5]:List GExpr).length 1))]) (fun x w=>Bun C0 F w0 (x.2.2.2.2.2.2.2.2.2.2) w [MO.box (x.2.2.2.2.2.2.2.2.2.1) 39 #[vi 0,(str ([]:List UInt8)),vi 0,vi 0,vi 0,vi 0,vi 0,vi 0,vi 0,vi 0,vs none 0 0,vs none 0 0,vs none 0 0],MO.row an 39 (some ⟨(x.2.2.2.2.2.2.2.2.1),0,none⟩) 1 ([r5]:List GExpr),MO.box b1 67 (af s4 (x.2.2.2.2.2.2.1) (x.2.2.2.2.2.2.2.1)),MO.box b3 35 (ck r3),MO.box b2 39 #[vi 0,(str ([]:List UInt8)),vi 0,vi 0,vi 0,vi 0,vi 0,vi 0,vi 0,vi 0,vs none 0 0,vs none 0 0,vs none 0 0]] [Cl.sl ah (x.1) (x.2.1) r5.Lin.L,Cl.sl ak (x.2.2.1) (x.2.2.2.1) r5.Idx,Cl.sl an (x.2.2.2.2.1) (x.2.2.2.2.2.1) r5.Args,Cl.sl cGToken (x.2.2.2.2.2.2.1) (x.2.2.2.2.2.2.2.1) s4.l,Cl.sl cGToken a8 c18 s3.l,Cl.sl cGToken a7 c12 s2.l,Cl.sl cGToken a6 c8 s1.l,Cl.sl cGToken a1 c1 r1.l,au]) (fun x w=>SN [] (DM true F (x.2.2.2.2.2.2.2.2.2.2)) w) ?_ ?_
 ·clear hI;rintro⟨a9,c22,a10,c23,a11,c24,a12,c25,b4,b5,c35⟩ w15 hI
  try dsimp only at hI ⊢
  unfold d9
  refine be rfl gn rfl (am (l:=(dx r3)) rfl et qf rfl cA (CellsAt.of_blk (hI.blk (.s (.s (.s .z)))) rfl)) SX.self ?_
  refine kW rfl gn rfl (fun w'=>(aw (vs:=[(0,vi 12),(3,(Value.agg (ck r3))),(6,vs (some ⟨b4,0,none⟩) ([r5]:List GExpr).length 1)]) (cs:=#[vi 12,(str ([]:List UInt8)),vi 0,vi 0,vi r3.Kind,vi r3.Bits,vi r3.Frac,vi r3.Round,vi r3.Over,vi 0,vs none 0 0,vs none 0 0,vs (some ⟨b4,0,none⟩) ([r5]:List GExpr).length 1]) rfl ⟨rfl,aj,⟨rfl,et,⟨rfl,et,trivial⟩⟩⟩ (by kernel_rfl))) ?_
  exact aQ (hk_tr_parser_reader_cast_w_1_6 (a9,c22,a10,c23,a11,c24,a12,c25,b4,b5,c35) _ (hI.arr GO SU)) SB
 intro hk_tr_parser_reader_cast_w_1_4
 refine bP (α:=(Option Addr)×Nat×(Option Addr)×Nat×(Option Addr)×Nat×(Option Addr)×Nat×Nat×NP) (T:=ee) (fun x=>[(0,vp b1 0),(2,vp b2 0),(3,vp b3 0),(4,(Value.pointer (some ⟨(x.2.2.2.2.2.2.2.2.1),0,none⟩))),(5,vp b1 0),(6,(Value.tuple #[])),(7,vp b1 0),(8,(Value.agg (ck r3))),(9,vp b1 0),(10,(Value.tuple #[])),(11,(Value.agg (ck r3))),(12,vp b1 0),(13,(Value.agg (ap r5 (x.1) (x.2.1) (x.2.2.1) (x.2.2.2.1) (x.2.2.2.2.1) (x.2.2.2.2.2.1))))]) (fun x w=>Bun C0 F w0 (x.2.2.2.2.2.2.2.2.2) w [MO.box (x.2.2.2.2.2.2.2.2.1) 39 #[vi 0,(str ([]:List UInt8)),vi 0,vi 0,vi 0,vi 0,vi 0,vi 0,vi 0,vi 0,vs none 0 0,vs none 0 0,vs none 0 0],MO.box b1 67 (af s4 (x.2.2.2.2.2.2.1) (x.2.2.2.2.2.2.2.1)),MO.box b3 35 (ck r3),MO.box b2 39 #[vi 0,(str ([]:List UInt8)),vi 0,vi 0,vi 0,vi 0,vi 0,vi 0,vi 0,vi 0,vs none 0 0,vs none 0 0,vs none 0 0]] [Cl.sl ah (x.1) (x.2.1) r5.Lin.L,Cl.sl ak (x.2.2.1) (x.2.2.2.1) r5.Idx,Cl.sl an (x.2.2.2.2.1) (x.2.2.2.2.2.1) r5.Args,Cl.sl cGToken (x.2.2.2.2.2.2.1) (x.2.2.2.2.2.2.2.1) s4.l,Cl.sl cGToken a8 c18 s3.l,Cl.sl cGToken a7 c12 s2.l,Cl.sl cGToken a6 c8 s1.l,Cl.sl cGToken a1 c1 r1.l,au]) (fun x w=>SN [] (DM true F (x.2.2.2.2.2.2.2.2.2)) w) ?_ ?_
 ·clear hI;rintro⟨a9,c22,a10,c23,a11,c24,a12,c25,b5,c34⟩ w14 hI
  try dsimp only at hI ⊢
  unfold ee
  refine vl hI an ([r5]:List GExpr) iY (.cs (dF ⟨a9,c22,a10,c23,a11,c24,rfl,hI.get .z,hI.get (.s .z),hI.get (.s (.s .z))⟩) .nl) fun b4 c28 w8 hI=> ?_
  refine kW rfl gn rfl (fun w'=>(aw (vs:=[(0,vi 12),(3,(Value.agg (ck r3))),(6,vs (some ⟨b4,0,none⟩) ([r5]:List GExpr).length 1)]) (cs:=#[vi 12,(str ([]:List UInt8)),vi 0,vi 0,vi r3.Kind,vi r3.Bits,vi r3.Frac,vi r3.Round,vi r3.Over,vi 0,vs none 0 0,vs none 0 0,vs (some ⟨b4,0,none⟩) ([r5]:List GExpr).length 1]) rfl ⟨rfl,aj,⟨rfl,et,⟨rfl,et,trivial⟩⟩⟩ (by kernel_rfl))) ?_
  exact aQ (hk_tr_parser_reader_cast_w_1_6 (a9,c22,a10,c23,a11,c24,a12,c25,b4,b5,c28) _ (hI.arr GO SU)) SB
 intro hk_tr_parser_reader_cast_w_1_3
 refine bP (α:=(Option Addr)×Nat×(Option Addr)×Nat×(Option Addr)×Nat×(Option Addr)×Nat×Nat×NP) (T:=db) (fun x=>[(0,vp b1 0),(2,vp b2 0),(3,vp b3 0),(4,(Value.pointer (some ⟨(x.2.2.2.2.2.2.2.2.1),0,none⟩))),(5,vp b1 0),(6,(Value.tuple #[])),(7,vp b1 0),(8,(Value.agg (ck r3))),(9,vp b1 0),(10,(Value.tuple #[])),(12,vp b1 0),(13,(Value.agg (ap r5 (x.1) (x.2.1) (x.2.2.1) (x.2.2.2.1) (x.2.2.2.2.1) (x.2.2.2.2.2.1))))]) (fun x w=>Bun C0 F w0 (x.2.2.2.2.2.2.2.2.2) w [MO.box (x.2.2.2.2.2.2.2.2.1) 39 #[vi 0,(str ([]:List UInt8)),vi 0,vi 0,vi 0,vi 0,vi 0,vi 0,vi 0,vi 0,vs none 0 0,vs none 0 0,vs none 0 0],MO.box b1 67 (af s4 (x.2.2.2.2.2.2.1) (x.2.2.2.2.2.2.2.1)),MO.box b3 35 (ck r3),MO.box b2 39 #[vi 0,(str ([]:List UInt8)),vi 0,vi 0,vi 0,vi 0,vi 0,vi 0,vi 0,vi 0,vs none 0 0,vs none 0 0,vs none 0 0]] [Cl.sl ah (x.1) (x.2.1) r5.Lin.L,Cl.sl ak (x.2.2.1) (x.2.2.2.1) r5.Idx,Cl.sl an (x.2.2.2.2.1) (x.2.2.2.2.2.1) r5.Args,Cl.sl cGToken (x.2.2.2.2.2.2.1) (x.2.2.2.2.2.2.2.1) s4.l,Cl.sl cGToken a8 c18 s3.l,Cl.sl cGToken a7 c12 s2.l,Cl.sl cGToken a6 c8 s1.l,Cl.sl cGToken a1 c1 r1.l,au]) (fun x w=>SN [] (DM true F (x.2.2.2.2.2.2.2.2.2)) w) ?_ ?_
 ·clear hI;rintro⟨a9,c22,a10,c23,a11,c24,a12,c25,b5,c33⟩ w13 hI
  try dsimp only at hI ⊢
  unfold db
  refine cK ?_ ?_
  ·skip
   refine be rfl gn rfl (am (l:=(dx r3)) rfl et qf rfl cA (CellsAt.of_blk (hI.blk (.s (.s .z))) rfl)) SX.self ?_
   exact aQ (hk_tr_parser_reader_cast_w_1_3 (a9,c22,a10,c23,a11,c24,a12,c25,b5,c33) _ (hI.arr GO SU)) SB
  refine vl hI an ([r5]:List GExpr) iY (.cs (dF ⟨a9,c22,a10,c23,a11,c24,rfl,hI.get .z,hI.get (.s .z),hI.get (.s (.s .z))⟩) .nl) fun b4 c28 w8 hI=> ?_
  exact aQ (hk_tr_parser_reader_cast_w_1_4 (a9,c22,a10,c23,a11,c24,a12,c25,b4,b5,c28) _ (hI.arr GO SU)) SB
 intro hk_tr_parser_reader_cast_w_1_2
 refine bP (α:=Nat×NP) (T:=bR) (fun x=>[(0,vp b1 0),(2,vp b2 0),(3,vp b3 0),(4,(Value.pointer (some ⟨(x.1),0,none⟩))),(5,vp b1 0),(6,(Value.tuple #[])),(7,vp b1 0),(8,(Value.agg (ck r3))),(9,vp b1 0),(10,(Value.tuple #[])),(11,(Value.agg (ck r3))),(12,vp b1 0)]) (fun x w=>Bun C0 F w0 (x.2) w [MO.box (x.1) 39 #[vi 0,(str ([]:List UInt8)),vi 0,vi 0,vi 0,vi 0,vi 0,vi 0,vi 0,vi 0,vs none 0 0,vs none 0 0,vs none 0 0],MO.box b1 67 (af s3 a8 c18),MO.box b3 35 (ck r3),MO.box b2 39 #[vi 0,(str ([]:List UInt8)),vi 0,vi 0,vi 0,vi 0,vi 0,vi 0,vi 0,vi 0,vs none 0 0,vs none 0 0,vs none 0 0]] [Cl.sl cGToken a8 c18 s3.l,Cl.sl cGToken a7 c12 s2.l,Cl.sl cGToken a6 c8 s1.l,Cl.sl cGToken a1 c1 r1.l,au]) (fun x w=>SN [2,6] (DM false F (x.2)) w) ?_ ?_
 ·clear hI;rintro⟨b5,c32⟩ w12 hI
  try dsimp only at hI ⊢
  unfold bR
  refine bH (F:=F) (C:=c32) rfl rfl ?_
  obtain⟨c21,f4,hB,hl4,hk4⟩:=hI.hands (.r (.l (.r (.r .n))))
  refine eZ rfl gn rfl (aI (vs:=[vp b1 0]) rfl qi ⟨et,trivial⟩) (Calls.mono (hrec HS hx4) ?_)
  intro e_ w7 hq_;obtain⟨a9,c22,a10,c23,a11,c24,a12,c25,c26,rfl,hB2⟩:=eH hq_
  obtain⟨c27,hs4,hI⟩:=hk4 _ _ _ _ hB2
  dsimp only[ca,na]at hI
  refine⟨_,rfl,DM true F c27,hs4,?_⟩
  exact aQ (hk_tr_parser_reader_cast_w_1_3 (a9,c22,a10,c23,a11,c24,a12,c25,b5,c27) _ (hI.arr GO SU)) SB
 intro hk_tr_parser_reader_cast_w_1_1
 refine bP (α:=(Option Addr)×Nat×(Option Addr)×Nat×(Option Addr)×Nat×(Option Addr)×Nat×NP) (T:=dd) (fun x=>[(0,vp b1 0),(2,vp b2 0),(3,vp b3 0),(5,vp b1 0),(6,(Value.tuple #[])),(7,vp b1 0),(8,(Value.agg (ck r3))),(9,vp b1 0),(10,(Value.tuple #[])),(11,(Value.agg (ck r3))),(12,vp b1 0),(13,(Value.agg (ap r5 (x.1) (x.2.1) (x.2.2.1) (x.2.2.2.1) (x.2.2.2.2.1) (x.2.2.2.2.2.1))))]) (fun x w=>Bun C0 F w0 (x.2.2.2.2.2.2.2.2) w [MO.box b1 67 (af s4 (x.2.2.2.2.2.2.1) (x.2.2.2.2.2.2.2.1)),MO.box b3 35 (ck r3),MO.box b2 39 #[vi 0,(str ([]:List UInt8)),vi 0,vi 0,vi 0,vi 0,vi 0,vi 0,vi 0,vi 0,vs none 0 0,vs none 0 0,vs none 0 0]] [Cl.sl ah (x.1) (x.2.1) r5.Lin.L,Cl.sl ak (x.2.2.1) (x.2.2.2.1) r5.Idx,Cl.sl an (x.2.2.2.2.1) (x.2.2.2.2.2.1) r5.Args,Cl.sl cGToken (x.2.2.2.2.2.2.1) (x.2.2.2.2.2.2.2.1) s4.l,Cl.sl cGToken a8 c18 s3.l,Cl.sl cGToken a7 c12 s2.l,Cl.sl cGToken a6 c8 s1.l,Cl.sl cGToken a1 c1 r1.l,au]) (fun x w=>SN [] (DM true F (x.2.2.2.2.2.2.2.2)) w) ?_ ?_
 ·clear hI;rintro⟨a9,c22,a10,c23,a11,c24,a12,c25,c31⟩ w11 hI
  try dsimp only at hI ⊢
  unfold dd
  refine cK ?_ ?_
  ·skip
   refine vl hI an ([r5]:List GExpr) iY (.cs (dF ⟨a9,c22,a10,c23,a11,c24,rfl,hI.get .z,hI.get (.s .z),hI.get (.s (.s .z))⟩) .nl) fun b4 c28 w8 hI=> ?_
   refine kW rfl gn rfl (fun w'=>(aw (vs:=[(0,vi 12),(3,(Value.agg (ck r3))),(6,vs (some ⟨b4,0,none⟩) ([r5]:List GExpr).length 1)]) (cs:=#[vi 12,(str ([]:List UInt8)),vi 0,vi 0,vi r3.Kind,vi r3.Bits,vi r3.Frac,vi r3.Round,vi r3.Over,vi 0,vs none 0 0,vs none 0 0,vs (some ⟨b4,0,none⟩) ([r5]:List GExpr).length 1]) rfl ⟨rfl,aj,⟨rfl,et,⟨rfl,et,trivial⟩⟩⟩ (by kernel_rfl))) ?_
   exact aQ (hk_tr_parser_reader_cast_w_1_5 (a9,c22,a10,c23,a11,c24,a12,c25,b4,c28) _ (hI.arr GO SU)) SB
  refine fN (cs:=#[vi 0,(str ([]:List UInt8)),vi 0,vi 0,vi 0,vi 0,vi 0,vi 0,vi 0,vi 0,vs none 0 0,vs none 0 0,vs none 0 0]) hI rfl gn rfl rfl dQ rfl ?_
  intro b5 c29 w9 hI
  exact aQ (hk_tr_parser_reader_cast_w_1_3 (a9,c22,a10,c23,a11,c24,a12,c25,b5,c29) _ (hI.arr GO SU)) SB
 intro hk_tr_parser_reader_cast_w_1_0
 refine V ?_
 refine rl ?_ ?_ ?_
 ·skip
  refine be rfl gn rfl (am (l:=(dx r3)) rfl et qf rfl cA (CellsAt.of_blk (hI.blk (.s .z)) rfl)) SX.self ?_
  refine cK ?_ ?_
  ·skip
   refine bo (F:=F) (C:=c20) rfl rfl ?_
   obtain⟨c21,f4,hB,hl4,hk4⟩:=hI.hands (.l (.r (.r .n)))
   refine eZ rfl gn rfl (aI (vs:=[vp b1 0]) rfl qi ⟨et,trivial⟩) (Calls.mono (hrec HS hx4) ?_)
   intro e_ w7 hq_;obtain⟨a9,c22,a10,c23,a11,c24,a12,c25,c26,rfl,hB2⟩:=eH hq_
   obtain⟨c27,hs4,hI⟩:=hk4 _ _ _ _ hB2
   dsimp only[ca,na]at hI
   refine⟨_,rfl,DM true F c27,hs4,?_⟩
   exact aQ (hk_tr_parser_reader_cast_w_1_0 (a9,c22,a10,c23,a11,c24,a12,c25,c27) _ (hI.arr GO SU)) SB
  refine fN (cs:=#[vi 0,(str ([]:List UInt8)),vi 0,vi 0,vi 0,vi 0,vi 0,vi 0,vi 0,vi 0,vs none 0 0,vs none 0 0,vs none 0 0]) hI rfl gn rfl rfl dQ rfl ?_
  intro b5 c29 w9 hI
  exact aQ (hk_tr_parser_reader_cast_w_1_1 (b5,c29) _ (hI.arr GO SU)) SB
 ·skip
  refine bo (F:=F) (C:=c20) rfl rfl ?_
  obtain⟨c21,f4,hB,hl4,hk4⟩:=hI.hands (.l (.r (.r .n)))
  refine eZ rfl gn rfl (aI (vs:=[vp b1 0]) rfl qi ⟨et,trivial⟩) (Calls.mono (hrec HS hx4) ?_)
  intro e_ w7 hq_;obtain⟨a9,c22,a10,c23,a11,c24,a12,c25,c26,rfl,hB2⟩:=eH hq_
  obtain⟨c27,hs4,hI⟩:=hk4 _ _ _ _ hB2
  dsimp only[ca,na]at hI
  refine⟨_,rfl,DM true F c27,hs4,?_⟩
  refine rl ?_ ?_ ?_
  ·skip
   refine be rfl gn rfl (am (l:=(dx r3)) rfl et qf rfl cA (CellsAt.of_blk (hI.blk (.s .z)) rfl)) SX.self ?_
   exact aQ (hk_tr_parser_reader_cast_w_1_0 (a9,c22,a10,c23,a11,c24,a12,c25,c27) _ (hI.arr GO SU)) SB
  ·skip
   refine vl hI an ([r5]:List GExpr) iY (.cs (dF ⟨a9,c22,a10,c23,a11,c24,rfl,hI.get .z,hI.get (.s .z),hI.get (.s (.s .z))⟩) .nl) fun b4 c28 w8 hI=> ?_
   refine cK ?_ ?_
   ·skip
    refine be rfl gn rfl (am (l:=(dx r3)) rfl et qf rfl cA (CellsAt.of_blk (hI.blk (.s (.s .z))) rfl)) SX.self ?_
    refine kW rfl gn rfl (fun w'=>(aw (vs:=[(0,vi 12),(3,(Value.agg (ck r3))),(6,vs (some ⟨b4,0,none⟩) ([r5]:List GExpr).length 1)]) (cs:=#[vi 12,(str ([]:List UInt8)),vi 0,vi 0,vi r3.Kind,vi r3.Bits,vi r3.Frac,vi r3.Round,vi r3.Over,vi 0,vs none 0 0,vs none 0 0,vs (some ⟨b4,0,none⟩) ([r5]:List GExpr).length 1]) rfl ⟨rfl,aj,⟨rfl,et,⟨rfl,et,trivial⟩⟩⟩ (by kernel_rfl))) ?_
    exact aQ (hk_tr_parser_reader_cast_w_1_5 (a9,c22,a10,c23,a11,c24,a12,c25,b4,c28) _ (hI.arr GO SU)) SB
   refine fN (cs:=#[vi 0,(str ([]:List UInt8)),vi 0,vi 0,vi 0,vi 0,vi 0,vi 0,vi 0,vi 0,vs none 0 0,vs none 0 0,vs none 0 0]) hI rfl gn rfl rfl dQ rfl ?_
   intro b5 c29 w9 hI
   exact aQ (hk_tr_parser_reader_cast_w_1_4 (a9,c22,a10,c23,a11,c24,a12,c25,b4,b5,c29) _ (hI.arr GO SU)) SB
  refine fN (cs:=#[vi 0,(str ([]:List UInt8)),vi 0,vi 0,vi 0,vi 0,vi 0,vi 0,vi 0,vi 0,vs none 0 0,vs none 0 0,vs none 0 0]) hI rfl gn rfl rfl dQ rfl ?_
  intro b5 c29 w9 hI
  exact aQ (hk_tr_parser_reader_cast_w_1_2 (a9,c22,a10,c23,a11,c24,a12,c25,b5,c29) _ (hI.arr GO SU)) SB
 refine fN (cs:=#[vi 0,(str ([]:List UInt8)),vi 0,vi 0,vi 0,vi 0,vi 0,vi 0,vi 0,vi 0,vs none 0 0,vs none 0 0,vs none 0 0]) hI rfl gn rfl rfl dQ rfl ?_
 intro b5 c29 w9 hI
 refine cK ?_ ?_
 ·skip
  refine be rfl gn rfl (am (l:=(dx r3)) rfl et qf rfl cA (CellsAt.of_blk (hI.blk (.s (.s .z))) rfl)) SX.self ?_
  exact aQ (hk_tr_parser_reader_cast_w_1_1 (b5,c29) _ (hI.arr GO SU)) SB
 refine bo (F:=F) (C:=c29) rfl rfl ?_
 obtain⟨c21,f4,hB,hl4,hk4⟩:=hI.hands (.r (.l (.r (.r .n))))
 refine eZ rfl gn rfl (aI (vs:=[vp b1 0]) rfl qi ⟨et,trivial⟩) (Calls.mono (hrec HS hx4) ?_)
 intro e_ w7 hq_;obtain⟨a9,c22,a10,c23,a11,c24,a12,c25,c26,rfl,hB2⟩:=eH hq_
 obtain⟨c27,hs4,hI⟩:=hk4 _ _ _ _ hB2
 dsimp only[ca,na]at hI
 refine⟨_,rfl,DM true F c27,hs4,?_⟩
 exact aQ (hk_tr_parser_reader_cast_w_1_2 (a9,c22,a10,c23,a11,c24,a12,c25,b5,c27) _ (hI.arr GO SU)) SB
theorem py {r1:aa} (hI:Bun C0 F w0 C0 w0 [MO.box b1 67 (af r1 a1 c1)] [Cl.sl cGToken a1 c1 r1.l,au]) {r:bu (List GLin×aa)} (h:fL r1=some r):CP C0 F w0 175 #[vp b1 0] r fun rx e w=>∃ a2 c2 a3 c3 C,e= .returned (vs a2 rx.1.length c2)∧Bun C0 F w0 C w [MO.box b1 67 (af rx.2 a3 c3)] [Cl.sl fE a2 c2 rx.1,Cl.sl cGToken a3 c3 rx.2.l]:=by
 refine fG (l:=[vp b1 0]) Tryz.func175 rfl Tryz.ntmps175 rfl ?_
 rw[fL]at h
 refine T ?_
 refine al (T ?_)
 obtain⟨c4,f1,hB,hl1,hk1⟩:=hI.hands (.l .n)
 obtain⟨⟨r2,s1⟩,hx1,h⟩:=ae h
 try dsimp only at h
 refine aA gn rfl (Rc Tryz.func68) (Calls.mono (aM HS hx1) ?_)
 rintro _ w1 ⟨a4,c5,c6,rfl,hB2⟩
 refine HN hk1 hB2 fun c7 hI=> ?_
 refine⟨_,rfl,?_⟩
 refine TC (fun hb h=> ?_) fun hb h=> ?_
 ·refine T ?_
  refine az ?_
  have hI:=hI.add (c:=Cl.sl fE none 0 ([]:List GLin)) SlC.nil
  obtain rfl:=ai h
  refine QG ?_
  exact .inl ⟨_,rfl,none,0,a4,c5,_,rfl,hI.arr GO SU⟩
 refine T ?_
 obtain⟨c8,f2,hB,hl2,hk2⟩:=hI.hands (.l .n)
 refine ew h (fun _ hx2=>gk HS hx2) (li hk2) (Rc Tryz.func31) ?_
 rintro⟨r3,s2⟩ hx2 h _ w2 ⟨a5,c9,a6,c10,c11,rfl,hB2⟩
 try dsimp only at h
 refine HN hk2 hB2 fun c12 hI=> ?_
 refine⟨_,rfl,?_⟩
 refine ll hI fE ([r3]:List GLin) oW (.cs ⟨a5,c9,rfl,hI.get .z⟩ .nl) fun b2 c13 w3 hI=> ?_
 refine T ?_
 refine al (T ?_)
 refine bc (α:=Nat×(List GLin)×aa×(Option Addr)×Nat×(Option Addr)×Nat) (fun x=>fun w=>∃ C,Bun C0 F w0 C w [MO.row fE 27 (x.2.2.2.1) (x.2.2.2.2.1) (x.2.1),MO.box b1 67 (af (x.2.2.1) (x.2.2.2.2.2.1) (x.2.2.2.2.2.2))] [Cl.sl cGToken (x.2.2.2.2.2.1) (x.2.2.2.2.2.2) (x.2.2.1).l,au]∧cy (x.1) (x.2.1) (x.2.2.1)=some r) (fun x _=>x.1) (fun x=>[(0,vp b1 0),(3,vs (x.2.2.2.1) (x.2.1).length (x.2.2.2.2.1))]) (fu,([r3]:List GLin),s2,some ⟨b2,0,none⟩,1,a6,c10) BH SB ?_
 clear h hI;rintro⟨fuel1,ba,r4,a7,c14,a8,c15⟩ w4 ⟨c16,hI,h⟩
 dsimp only at hI h ⊢
 rcases fuel1 with _ | fuel1
 ·rw[cy]at h;cases h
 rw[cy]at h
 refine al (T ?_)
 obtain⟨c17,f3,hB,hl3,hk3⟩:=hI.hands (.r (.l .n))
 obtain⟨⟨r5,s3⟩,hx3,h⟩:=ae h
 try dsimp only at h
 refine aA gn rfl (Rc Tryz.func68) (Calls.mono (aM HS hx3) ?_)
 rintro _ w5 ⟨a9,c18,c19,rfl,hB2⟩
 refine HN hk3 hB2 fun c20 hI=> ?_
 refine⟨_,rfl,?_⟩
 refine TC (fun hb h=> ?_) fun hb h=> ?_
 ·have hk4:=hb
  refine T ?_
  obtain⟨c21,f4,hB,hl4,hk5⟩:=hI.hands (.l (.r .n))
  refine ew h (fun _ hx4=>gk HS hx4) (li hk5) (Rc Tryz.func31) ?_
  rintro⟨r6,s4⟩ hx4 h _ w6 ⟨a10,c22,a11,c23,c24,rfl,hB2⟩
  try dsimp only at h
  refine HN hk5 hB2 fun c25 hI=> ?_
  refine⟨_,rfl,?_⟩
  refine ll hI fE ([r6]:List GLin) oW (.cs ⟨a10,c22,rfl,hI.get .z⟩ .nl) fun b3 c26 w7 hI=> ?_
  obtain⟨zs1,hx5,h⟩:=ae h
  refine lL (xs:=ba) (ys:=([r6]:List GLin)) hI (.s (.s .z)) (hI.rd .z) hx5 gn rfl rfl E8 oW rfl rfl et et ?_
  intro a12 c27 c28 w8 hI
  refine sa ?_
  refine aK ?_
  exact kl (fuel1,zs1,s4,a12,c27,a11,c23)
 refine bh ?_
 refine eD ?_
 refine aX ?_
 refine T ?_
 obtain⟨c29,f5,hB,hl5,hk6⟩:=hI.hands (.l (.r .n))
 refine ew h (fun _ hx6=>aP HS hx6) (li hk6) (Rc Tryz.func104) ?_
 rintro⟨r7,s5⟩ hx6 h _ w9 ⟨a13,c30,c31,rfl,hB2⟩
 try dsimp only at h
 refine HN hk6 hB2 fun c32 hI=> ?_
 refine⟨_,rfl,?_⟩
 refine T ?_
 refine az ?_
 obtain⟨c33,hI⟩:=hI.release (.s .z)
 obtain rfl:=ai h
 refine QG ?_
 exact .inl ⟨_,rfl,a7,c14,a13,c30,_,rfl,hI.arr GO SU⟩
end Go.Proofs.YtmhoikfoogemnaaGreatDoor
