import Derived.Test.YtmhoikfoogemnaaGreatDoorGCQ8f
import Derived.Test.YtmhoikfoogemnaaGreatDoorGLfH
namespace Go.Proofs.YtmhoikfoogemnaaGreatDoor
open Go Go.RowKit Go.Vc
set_option maxRecDepth 100000
set_option maxHeartbeats 4000000
set_option linter.unusedVariables false
set_option linter.unusedSimpArgs false
def mn:Tr:=(.c (3,.s) .n)
variable {σ:Type} {C0 F:NP} {w0:World} {a1 a2 a3 a4 a5 a6 a7 a8 a9 a10 a11 a12:Option Addr} {b1 b2 b3 b4 b5 b6 b7 b8 b9 b10 b11 b12 c1 c2 c3 c4 c5 c6 c7 c8 c9 c10 c11 c12:Nat}
theorem Bn (hF:dK F w0) {p1:ab} (hc:AllCl [LT af a1 c1 p1.L] F w0) {r:GExpr×ab} (h:jt p1=some r):Cg 211 #[(Value.agg (ac p1 a1 c1))] w0 λe w=>∃ a2 c2 a3 c3 a4 c4 a5 c5,e= .returned (Value.tuple #[(Value.agg (aI r.1 a2 c2 a3 c3 a4 c4)),(Value.agg (ac r.2 a5 c5))])∧Ext w0 w∧AllCl [LT aj a2 c2 r.1.Lin.L,LT an a3 c3 r.1.Idx,LT ap a4 c4 r.1.Args,LT af a5 c5 r.2.L] F w:=by
 refine EN Tryz.func211 Tryz.ntmps211 hF hc λhI=>?_
 rw[jt]at h
 refine sr (kL (v:=(Value.agg (ac p1 a1 c1))) (cs:=(ac p1 a1 c1)) hI gn rfl rfl et rfl ?_)
 intro b1 c6 w1 hI
 refine lN λb2 c7 w2 hI=>?_
 refine lN λb3 c8 w3 hI=>?_
 refine T ?_
 obtain⟨r1,hx1,h⟩:=ae h
 refine aw gn rfl (Rc Tryz.func134) (Calls.mono (jy hI.lt FS hx1) ?_)
 rintro _ w4 ⟨a6,c9,rfl,hx2,hl1⟩
 refine⟨_,rfl,?_⟩
 replace hI:=(hI.ext hx2).adds hl1;dsimp only[ca,na]at hI
 refine T ?_
 refine lA λc10 w5 hI=>?_
 refine T ?_
 obtain⟨r2,hx3,h⟩:=ae h
 refine aw gn rfl (Rc Tryz.func110) (Calls.mono (bn hI.lt FS hx3) ?_)
 rintro _ w6 ⟨a7,c11,rfl,hx4,hl2⟩
 refine⟨_,rfl,?_⟩
 replace hI:=(hI.ext hx4).adds hl2;dsimp only[ca,na]at hI
 refine lA λc12 w7 hI=>?_
 refine T ?_
 refine sq (aC (vs:=[(0,vi 3),(1,(aT r1.1))]) (cs:=#[vi 3,(aT r1.1),vi 0,vi 0,vi 0,vi 0,vi 0,vi 0,vi 0,vi 0,vs none 0 0,vs none 0 0,vs none 0 0]) rfl ⟨rfl,ao,rfl,et,ah⟩ (by kernel_rfl)) ?_
 refine lN λb4 c13 w8 hI=>?_
 refine lA λc14 w9 hI=>?_
 refine nk (al (T ?_))
 refine sB h (λ_ k=>bx hI.lt FS k) (Rc Tryz.func72) λr3 w10 h hI=>?_
 refine TC (λhb h=>?_) λhb h=>?_
 ·refine T ?_
  refine lS λc15 w11 hI=>?_
  refine nk (al (aJ [2,3] false (.c (0,.q) (.two 1 (.c (2,.s) mn) 2 (.c (1,.s) mn))) hI (by kernel_rfl) (by kernel_rfl) ?_))
  intro w15 hI
  refine bT (α:=NP) (T:=mn) (λx=>[(2,vp b2 0),(3,vp b3 0),(23,(Value.agg #[vs a7 r2.L.length c11,(vi (au (r2.At+1))),vi r2.Deep,vi r2.E,vi r2.Pos]))]) (λx w=>Bun du F w0 x w [MO.box b4 39 #[vi 3,(aT r1.1),vi 0,vi 0,vi 0,vi 0,vi 0,vi 0,vi 0,vi 0,vs none 0 0,vs none 0 0,vs none 0 0],MO.box b3 72 av,MO.box b2 39 #[vi 3,(aT r1.1),vi 0,vi 0,vi 0,vi 0,vi 0,vi 0,vi 0,vi 0,vs none 0 0,vs none 0 0,vs none 0 0],MO.box b1 72 #[vs a7 r2.L.length c11,(vi (au (r2.At+1))),vi r2.Deep,vi r2.E,vi r2.Pos]] [LT af a7 c11 r2.L,LT af a6 c9 r1.2.L,LT af a1 c1 p1.L]) (λx w=>SN [] (DM true F x) w) ?_ ?_
  ·clear hI;rintro c18 w14 hI
   try dsimp only at hI ⊢
   unfold mn
   refine vA λc17 w13 hI=>?_
   refine V ?_
   refine aF ?_
   have hI:=hI.add (c:=LT aj none 0 ([]:List GMono)) SlC.nil
   have hI:=hI.add (c:=LT an none 0 ([]:List GIndex)) SlC.nil
   have hI:=hI.add (c:=LT ap none 0 ([]:List GExpr)) SlC.nil
   obtain rfl:=ak h
   refine QG ?_
   exact⟨none,0,none,0,none,0,a7,c11,rfl,hI.ext0,hI.fin ⟨.p2,.p1,.z,.p3,ah⟩⟩
  intro hk_tr_ref16_read_1_0
  refine bR rfl gn rfl (λw' hw'=>(am (l:=[vi 3,(aT r1.1),vi 0,vi 0,vi 0,vi 0,vi 0,vi 0,vi 0,vi 0,vs none 0 0,vs none 0 0,vs none 0 0]) rfl et mD rfl aS ((CA.blk (hI.blk .z) rfl).at_ (SX.any rfl hw')))) (by kernel_rfl) ?_
  refine cL ?_ ?_
  ·skip
   refine bq rfl gn rfl (am (l:=[vs a7 r2.L.length c11,(vi (au (r2.At+1))),vi r2.Deep,vi r2.E,vi r2.Pos]) rfl et jO rfl aG (LU (hI.blk .p3) rfl)) LW ?_
   refine bK (F:=F) (C:=c15) rfl rfl ?_
   refine vA λc16 w12 hI=>?_
   exact bc (hk_tr_ref16_read_1_0 c16 _ (hI.arr GO SU)) SB
  refine bB (F:=F) (C:=c15) rfl rfl ?_
  refine vA λc16 w12 hI=>?_
  refine bq rfl gn rfl (am (l:=[vs a7 r2.L.length c11,(vi (au (r2.At+1))),vi r2.Deep,vi r2.E,vi r2.Pos]) rfl et jO rfl aG (LU (hI.blk .p3) rfl)) LW ?_
  exact bc (hk_tr_ref16_read_1_0 c16 _ (hI.arr GO SU)) SB
 refine T ?_
 obtain⟨r4,hx7,h⟩:=ae h
 refine aw gn rfl (Rc Tryz.func237) (Calls.mono (uz hI.lt FS hx7) ?_)
 rintro _ w16 ⟨a8,c19,a9,c20,a10,c21,rfl,hx8,hl4⟩
 refine⟨_,rfl,?_⟩
 replace hI:=(hI.ext hx8).adds hl4;dsimp only[ca,na]at hI
 refine T ?_
 refine lN λb5 c22 w17 hI=>?_
 refine lA λc23 w18 hI=>?_
 refine lA λc24 w19 hI=>?_
 refine T ?_
 refine ll hI an ([r4.1]:List GIndex) pI (.cs ⟨a8,c19,a9,c20,rfl,hI.get .z,hI.get .p1⟩ .nl) λb6 c25 w20 hI=>?_
 obtain⟨zs1,hx9,h⟩:=ae h
 replace hI:=hI.nil an 132 none
 refine il (xs:=([]:List GIndex)) (ys:=([r4.1]:List GIndex)) hI .z (hI.rd .p1) hx9 gn rfl rfl Dh pI rfl rfl et et ?_
 intro a11 c26 c27 w21 hI
 refine T ?_
 refine lS λc28 w22 hI=>?_
 refine T ?_
 refine bM (α:=GIndex×GExpr×ab×(Option Addr)×Nat×(Option Addr)×Nat×(Option Addr)×Nat×(Option Addr)×Nat×(Option Addr)×Nat×(Option Addr)×Nat) (λ_=>⟨55,[]⟩) (λx=>[(1,vp b1 0),(2,vp b2 0),(3,vp b3 0),(5,vp b4 0)]) (λx=>λw=>∃ C,Bun du F w0 C w [LV aj 64 (x.2.2.2.2.2.2.2.1) (x.2.2.2.2.2.2.2.2.1) (x.2.1).Lin.L,LV an 132 (x.2.2.2.2.2.2.2.2.2.1) (x.2.2.2.2.2.2.2.2.2.2.1) (x.2.1).Idx,LV ap 39 (x.2.2.2.2.2.2.2.2.2.2.2.1) (x.2.2.2.2.2.2.2.2.2.2.2.2.1) (x.2.1).Args,MO.box b1 72 (ac (x.2.2.1) (x.2.2.2.2.2.2.2.2.2.2.2.2.2.1) (x.2.2.2.2.2.2.2.2.2.2.2.2.2.2)),MO.box b2 39 lp,MO.box b3 72 av,MO.box b4 39 (aI (x.2.1) (x.2.2.2.2.2.2.2.1) (x.2.2.2.2.2.2.2.2.1) (x.2.2.2.2.2.2.2.2.2.1) (x.2.2.2.2.2.2.2.2.2.2.1) (x.2.2.2.2.2.2.2.2.2.2.2.1) (x.2.2.2.2.2.2.2.2.2.2.2.2.1))] [LT aj (x.2.2.2.1) (x.2.2.2.2.1) (x.1).Lin.L,LT dQ (x.2.2.2.2.2.1) (x.2.2.2.2.2.2.1) (x.1).At,LT af (x.2.2.2.2.2.2.2.2.2.2.2.2.2.1) (x.2.2.2.2.2.2.2.2.2.2.2.2.2.2) (x.2.2.1).L]∧lT (x.1) (x.2.1) (x.2.2.1)=some r) ?_ ?_
 ·clear h hI;rintro⟨x1,aN,p2,a12,c29,a13,c30,a14,c31,a15,c32,a16,c33,a17,c34⟩ w23 ⟨c35,hI,h⟩
  try dsimp only at hI h ⊢
  rw[lT]at h
  refine al (aJ [3,4] false (.c (0,.q) (.c (1,.q) (.c (2,.s) (.c (3,.s) (.c (4,.s) .n))))) hI (by kernel_rfl) (by kernel_rfl) ?_)
  intro w24 hI
  refine bR rfl gn rfl (λw' hw'=>(am (l:=(bz aN a14 c31 a15 c32 a16 c33)) rfl et mD rfl aS ((CA.blk (hI.blk .p6) rfl).at_ (SX.any rfl hw')))) (by kernel_rfl) ?_
  refine bR rfl gn rfl (λw' hw'=>(am (l:=(ag p2 a17 c34)) rfl et jO rfl aG ((CA.blk (hI.blk .p3) rfl).at_ (SX.any rfl hw')))) (by kernel_rfl) ?_
  obtain⟨r5,hx10,h⟩:=ae h
  refine dk rfl gn rfl (aD (vs:=[(Value.agg (ac p2 a17 c34)),(aT [93])]) rfl wg ⟨et,ao,ah⟩) (Calls.mono (bn hI.lt FS hx10) ?_)
  rintro _ w25 ⟨a18,c36,rfl,hx11,hl5⟩
  refine⟨_,rfl,hx11,?_⟩
  replace hI:=(hI.ext hx11).adds hl5;dsimp only[ca,na]at hI
  refine bK (F:=F) (C:=c35) rfl rfl ?_
  refine vA λc37 w26 hI=>?_
  refine vA λc38 w27 hI=>?_
  refine V ?_
  refine aF ?_
  obtain⟨c39,hI⟩:=hI.release .z
  obtain⟨c40,hI⟩:=hI.release .z
  obtain⟨c41,hI⟩:=hI.release .z
  obtain rfl:=ak h
  refine QG ?_
  exact⟨a14,c31,a15,c32,a16,c33,a18,c36,rfl,hI.ext0,hI.fin ⟨.p2,.p1,.z,.p3,ah⟩⟩
 refine T ?_
 have hI:=hI.nil aj 64 none
 have hI:=hI.nil ap 39 none
 refine bs (α:=Nat×ab×GExpr×GIndex×(Option Addr)×Nat×(Option Addr)×Nat×(Option Addr)×Nat×(Option Addr)×Nat×(Option Addr)×Nat×(Option Addr)×Nat) (λx=>λw=>∃ C,Bun du F w0 C w [LV aj 64 (x.2.2.2.2.2.2.1) (x.2.2.2.2.2.2.2.1) (x.2.2.1).Lin.L,LV an 132 (x.2.2.2.2.2.2.2.2.1) (x.2.2.2.2.2.2.2.2.2.1) (x.2.2.1).Idx,LV ap 39 (x.2.2.2.2.2.2.2.2.2.2.1) (x.2.2.2.2.2.2.2.2.2.2.2.1) (x.2.2.1).Args,MO.box b1 72 (ac (x.2.1) (x.2.2.2.2.1) (x.2.2.2.2.2.1)),MO.box b2 39 lp,MO.box b3 72 av,MO.box b4 39 (aI (x.2.2.1) (x.2.2.2.2.2.2.1) (x.2.2.2.2.2.2.2.1) (x.2.2.2.2.2.2.2.2.1) (x.2.2.2.2.2.2.2.2.2.1) (x.2.2.2.2.2.2.2.2.2.2.1) (x.2.2.2.2.2.2.2.2.2.2.2.1)),MO.box b5 132 (oT (x.2.2.2.1) (x.2.2.2.2.2.2.2.2.2.2.2.2.1) (x.2.2.2.2.2.2.2.2.2.2.2.2.2.1) (x.2.2.2.2.2.2.2.2.2.2.2.2.2.2.1) (x.2.2.2.2.2.2.2.2.2.2.2.2.2.2.2))] [LT af (x.2.2.2.2.1) (x.2.2.2.2.2.1) (x.2.1).L,LT aj (x.2.2.2.2.2.2.2.2.2.2.2.2.1) (x.2.2.2.2.2.2.2.2.2.2.2.2.2.1) (x.2.2.2.1).Lin.L,LT dQ (x.2.2.2.2.2.2.2.2.2.2.2.2.2.2.1) (x.2.2.2.2.2.2.2.2.2.2.2.2.2.2.2) (x.2.2.2.1).At]∧fK (x.1) (x.2.1) (x.2.2.1) (x.2.2.2.1)=some r) (λx _=>x.1) (λx=>[(1,vp b1 0),(2,vp b2 0),(3,vp b3 0),(5,vp b4 0),(6,vp b5 0)]) (fu,r4.2,(⟨3,r1.1,⟨0,0⟩,⟨0,0,0,0,0⟩,⟨0,[]⟩,zs1,[]⟩:GExpr),r4.1,a10,c21,none,0,a11,c26,none,0,a8,c19,a9,c20) ⟨_,hI.arr (.c .p1 (.c .p1 (.c .z (.c .p5 (.c .p4 (.c .p3 (.c .p2 (.c .p1 .n)))))))) ⟨.p2,.z,.p1,ah⟩,h⟩ SB ?_
 clear h hI;rintro⟨fuel1,p3,out2,x2,a19,c42,a20,c43,a21,c44,a22,c45,a23,c46,a24,c47⟩ w28 ⟨c48,hI,h⟩
 dsimp only at hI h ⊢
 rcases fuel1 with _ | fuel1
 ·rw[fK]at h;cases h
 rw[fK]at h
 refine al (T ?_)
 refine sB h (λ_ k=>bx hI.lt FS k) (Rc Tryz.func72) λr6 w29 h hI=>?_
 refine TC (λhb h=>?_) λhb h=>?_
 ·have hk1:=hb
  refine T ?_
  refine lS λc49 w30 hI=>?_
  refine T ?_
  obtain⟨r7,hx14,h⟩:=ae h
  refine aw gn rfl (Rc Tryz.func237) (Calls.mono (uz hI.lt FS hx14) ?_)
  rintro _ w31 ⟨a25,c50,a26,c51,a27,c52,rfl,hx15,hl7⟩
  refine⟨_,rfl,?_⟩
  replace hI:=(hI.ext hx15).adds hl7;dsimp only[ca,na]at hI
  refine T ?_
  refine lA λc53 Dq hI=>?_
  refine lA λc54 w33 hI=>?_
  refine T ?_
  refine ll hI an ([r7.1]:List GIndex) pI (.cs ⟨a25,c50,a26,c51,rfl,hI.get .z,hI.get .p1⟩ .nl) λb7 c55 w34 hI=>?_
  obtain⟨zs2,hx16,h⟩:=ae h
  refine il (xs:=out2.Idx) (ys:=([r7.1]:List GIndex)) hI .p2 (hI.rd .z) hx16 gn rfl rfl Dh pI rfl rfl et et ?_
  intro a28 c56 c57 w35 hI
  refine T ?_
  refine lS λc58 w36 hI=>?_
  refine aO ?_
  exact ny (fuel1,r7.2,(⟨out2.Op,out2.Name,out2.Val,out2.Type_,out2.Lin,zs2,out2.Args⟩:GExpr),r7.1,a27,c52,a20,c43,a28,c56,a22,c45,a25,c50,a26,c51) SB ⟨_,hI.arr GO SU,h⟩ (Nat.lt_succ_self _)
 refine bv ?_
 refine fi ?_
 exact bu (x2,out2,p3,a23,c46,a24,c47,a20,c43,a21,c44,a22,c45,a19,c42) SB ⟨_,hI.arr GO SU,h⟩ rfl
def ko:Tr:=(.c (3,.s) .n)
def kn:Tr:=(.c (6,.s) .n)
def ki:Tr:=(.c (8,.s) (.c (9,.s) .n))
def km:Tr:=(.c (3,.s) (.c (4,.q) (.c (5,.q) (.c (6,.q) ki))))
theorem xj {rec_:(ab→Int→Option (GExpr×ab))} (hrec:LE rec_) (hF:dK F w0) {p1:ab} (hc:AllCl [LT af a1 c1 p1.L] F w0) {r:GExpr×ab} (h:gC rec_ p1=some r):Cg 151 #[(Value.agg (ac p1 a1 c1))] w0 λe w=>∃ a2 c2 a3 c3 a4 c4 a5 c5,e= .returned (Value.tuple #[(Value.agg (aI r.1 a2 c2 a3 c3 a4 c4)),(Value.agg (ac r.2 a5 c5))])∧Ext w0 w∧AllCl [LT aj a2 c2 r.1.Lin.L,LT an a3 c3 r.1.Idx,LT ap a4 c4 r.1.Args,LT af a5 c5 r.2.L] F w:=by
 refine EN Tryz.func151 Tryz.ntmps151 hF hc λhI=>?_
 rw[gC]at h
 refine sr (kL (v:=(Value.agg (ac p1 a1 c1))) (cs:=(ac p1 a1 c1)) hI gn rfl rfl et rfl ?_)
 intro b1 c6 w1 hI
 refine lN λb2 c7 w2 hI=>?_
 refine lN λb3 c8 w3 hI=>?_
 refine nk (al (T ?_))
 refine sB h (λ_ k=>bx hI.lt FS k) (Rc Tryz.func72) λr1 w4 h hI=>?_
 refine TC (λhb h=>?_) λhb h=>?_
 ·refine T ?_
  obtain⟨r2,hx3,h⟩:=ae h
  refine aw gn rfl (Rc Tryz.func209) (Calls.mono (oN hrec hI.lt FS hx3) ?_)
  rintro _ w5 ⟨a6,c9,a7,c10,a8,c11,a9,c12,rfl,hx4,hl2⟩
  refine⟨_,rfl,?_⟩
  replace hI:=(hI.ext hx4).adds hl2;dsimp only[ca,na]at hI
  refine T ?_
  refine lN λb4 c13 w6 hI=>?_
  refine lN λb5 c14 w7 hI=>?_
  refine lA λc15 w8 hI=>?_
  refine lA λc16 w9 hI=>?_
  refine nk (al (T ?_))
  refine TC (λhb h=>?_) λhb h=>?_
  ·refine al (aJ [2,3] false (.c (0,.q) (.two 1 (.c (2,.s) ko) 2 (.c (1,.s) ko))) hI (by kernel_rfl) (by kernel_rfl) ?_)
   intro w13 hI
   refine bT (α:=NP) (T:=ko) (λx=>[(2,vp b2 0),(3,vp b3 0),(25,(Value.agg (ac r2.2 a9 c12)))]) (λx w=>Bun du F w0 x w [MO.box b5 72 (ac r2.2 a9 c12),MO.box b4 39 (aI r2.1 a6 c9 a7 c10 a8 c11),MO.box b3 72 av,MO.box b2 39 lp,MO.box b1 72 (ac p1 a1 c1)] [LT aj a6 c9 r2.1.Lin.L,LT an a7 c10 r2.1.Idx,LT ap a8 c11 r2.1.Args,LT af a9 c12 r2.2.L,LT af a1 c1 p1.L]) (λx w=>SN [] (DM true F x) w) ?_ ?_
   ·clear hI;rintro c19 w12 hI
    try dsimp only at hI ⊢
    unfold ko
    refine vA λc18 w11 hI=>?_
    refine V ?_
    refine aF ?_
    have hI:=hI.add (c:=LT aj none 0 ([]:List GMono)) SlC.nil
    have hI:=hI.add (c:=LT an none 0 ([]:List GIndex)) SlC.nil
    have hI:=hI.add (c:=LT ap none 0 ([]:List GExpr)) SlC.nil
    obtain rfl:=ak h
    refine QG ?_
    exact⟨none,0,none,0,none,0,a9,c12,rfl,hI.ext0,hI.fin ⟨.p2,.p1,.z,.p6,ah⟩⟩
   intro hk_tr_ref16_primary_1_0
   refine nv rfl gn rfl (λw'=>(aC (vs:=[]) (cs:=lp) rfl trivial (by kernel_rfl))) ?_
   refine cL ?_ ?_
   ·skip
    refine bq rfl gn rfl (am (l:=(ag r2.2 a9 c12)) rfl et jO rfl aG (LU (hI.blk .z) rfl)) LW ?_
    refine bK (F:=F) (C:=c16) rfl rfl ?_
    refine vA λc17 w10 hI=>?_
    exact bc (hk_tr_ref16_primary_1_0 c17 _ (hI.arr GO SU)) SB
   refine bB (F:=F) (C:=c16) rfl rfl ?_
   refine vA λc17 w10 hI=>?_
   refine bq rfl gn rfl (am (l:=(ag r2.2 a9 c12)) rfl et jO rfl aG (LU (hI.blk .z) rfl)) LW ?_
   exact bc (hk_tr_ref16_primary_1_0 c17 _ (hI.arr GO SU)) SB
  refine T ?_
  refine al ?_
  obtain⟨e1,hx5,h⟩:=ae h
  refine aJ [5,6] false (.c (0,.q) (.c (1,.q) (.c (2,.q) (.c (3,.q) (.two 4 (.c (5,.s) kn) 5 (.c (4,.s) kn)))))) hI (by kernel_rfl) (by kernel_rfl) ?_
  intro w17 hI
  refine bT (α:=(Option Addr)×Nat×(Option Addr)×Nat×(Option Addr)×Nat×NP) (T:=kn) (λx=>[(2,vp b2 0),(3,vp b3 0),(30,(Value.agg (ac r2.2 a9 c12)))]) (λx w=>Bun du F w0 (x.2.2.2.2.2.2) w [MO.box b5 72 (ac r2.2 a9 c12),MO.box b4 39 (aI r2.1 a6 c9 a7 c10 a8 c11),MO.box b3 72 av,MO.box b2 39 (aI e1 (x.1) (x.2.1) (x.2.2.1) (x.2.2.2.1) (x.2.2.2.2.1) (x.2.2.2.2.2.1)),MO.box b1 72 (ac p1 a1 c1)] [LT ap (x.2.2.2.2.1) (x.2.2.2.2.2.1) e1.Args,LT an (x.2.2.1) (x.2.2.2.1) e1.Idx,LT aj (x.1) (x.2.1) e1.Lin.L,LT aj a6 c9 r2.1.Lin.L,LT an a7 c10 r2.1.Idx,LT ap a8 c11 r2.1.Args,LT af a9 c12 r2.2.L,LT af a1 c1 p1.L]) (λx w=>SN [] (DM true F (x.2.2.2.2.2.2)) w) ?_ ?_
  ·clear hI;rintro⟨a10,c20,a11,c21,a12,c22,c25⟩ w16 hI
   try dsimp only at hI ⊢
   unfold kn
   refine vA λc24 w15 hI=>?_
   refine V ?_
   refine aF ?_
   obtain rfl:=ak h
   refine QG ?_
   exact⟨a10,c20,a11,c21,a12,c22,a9,c12,rfl,hI.ext0,hI.fin ⟨.p2,.p1,.z,.p6,ah⟩⟩
  intro hk_tr_ref16_primary_2_0
  refine V ?_
  obtain⟨ad1,cs1,hA1,hr1,hq1⟩:=hI.clat .p2 hx5
  obtain⟨a10,c20,a11,c21,a12,c22,rfl,hf1,hf2,hf3⟩:=jm hr1
  have hI:=hI.ads hf1
  have hI:=hI.ads hf2
  have hI:=hI.ads hf3
  refine vI ?_
  refine bR rfl gn rfl (λw' hw'=>(am (l:=(bz e1 a10 c20 a11 c21 a12 c22)) rfl et mD rfl aS (hq1.at_ (SX.any rfl hw')))) (by kernel_rfl) ?_
  refine cL ?_ ?_
  ·skip
   refine bq rfl gn rfl (am (l:=(ag r2.2 a9 c12)) rfl et jO rfl aG (LU (hI.blk .z) rfl)) LW ?_
   refine bK (F:=F) (C:=c16) rfl rfl ?_
   refine vA λc23 w14 hI=>?_
   exact bc (hk_tr_ref16_primary_2_0 (a10,c20,a11,c21,a12,c22,c23) _ (hI.arr GO SU)) SB
  refine bB (F:=F) (C:=c16) rfl rfl ?_
  refine vA λc23 w14 hI=>?_
  refine bq rfl gn rfl (am (l:=(ag r2.2 a9 c12)) rfl et jO rfl aG (LU (hI.blk .z) rfl)) LW ?_
  exact bc (hk_tr_ref16_primary_2_0 (a10,c20,a11,c21,a12,c22,c23) _ (hI.arr GO SU)) SB
 refine T ?_
 refine al (T ?_)
 refine sB h (λ_ k=>bx hI.lt FS k) (Rc Tryz.func72) λr3 w18 h hI=>?_
 refine TC (λhb h=>?_) λhb h=>?_
 ·refine T ?_
  refine lS λc26 w19 hI=>?_
  refine T ?_
  obtain⟨r4,hx8,h⟩:=ae h
  refine aw gn rfl (Rc Tryz.func32) (Calls.mono (nt hI.lt FS hx8) ?_)
  rintro _ w20 ⟨a13,c27,a14,c28,rfl,hx9,hl4⟩
  refine⟨_,rfl,?_⟩
  replace hI:=(hI.ext hx9).adds hl4;dsimp only[ca,na]at hI
  refine T ?_
  refine lN λb6 c29 w21 hI=>?_
  refine lN λb7 c30 w22 hI=>?_
  refine lA λc31 w23 hI=>?_
  refine lA λc32 w24 hI=>?_
  refine nk (al (aJ [4,5] false (.c (0,.q) (.c (1,.q) (.c (2,.q) (.c (3,.s) (.c (4,.s) (.c (5,.s) .n)))))) hI (by kernel_rfl) (by kernel_rfl) ?_))
  intro w25 hI
  refine bR rfl gn rfl (λw' hw'=>(am (l:=(fI r4.1 a13 c27)) rfl et pk rfl bt ((CA.blk (hI.blk .p1) rfl).at_ (SX.any rfl hw')))) (by kernel_rfl) ?_
  refine nv rfl gn rfl (λw'=>(aC (vs:=[(0,vi 2),(4,(Value.agg (cx r4.1 a13 c27)))]) (cs:=#[vi 2,(aT []),vi 0,vi 0,vi 0,vi 0,vi 0,vi 0,vi 0,vi r4.1.K,vs a13 r4.1.L.length c27,vs none 0 0,vs none 0 0]) rfl ⟨rfl,ao,rfl,et,ah⟩ (by kernel_rfl))) ?_
  refine bR rfl gn rfl (λw' hw'=>(am (l:=(ag r4.2 a14 c28)) rfl et jO rfl aG ((CA.blk (hI.blk .z) rfl).at_ (SX.any rfl hw')))) (by kernel_rfl) ?_
  obtain⟨r5,hx10,h⟩:=ae h
  refine dk rfl gn rfl (aD (vs:=[(Value.agg (ac r4.2 a14 c28)),(aT [93])]) rfl wg ⟨et,ao,ah⟩) (Calls.mono (bn hI.lt FS hx10) ?_)
  rintro _ w26 ⟨a15,c33,rfl,hx11,hl5⟩
  refine⟨_,rfl,hx11,?_⟩
  replace hI:=(hI.ext hx11).adds hl5;dsimp only[ca,na]at hI
  refine bK (F:=F) (C:=c32) rfl rfl ?_
  refine vA λc34 w27 hI=>?_
  refine vA λc35 w28 hI=>?_
  refine V ?_
  refine aF ?_
  have hI:=hI.add (c:=LT an none 0 ([]:List GIndex)) SlC.nil
  have hI:=hI.add (c:=LT ap none 0 ([]:List GExpr)) SlC.nil
  obtain rfl:=ak h
  refine QG ?_
  exact⟨a13,c27,none,0,none,0,a15,c33,rfl,hI.ext0,hI.fin ⟨.p3,.p1,.z,.p2,ah⟩⟩
 refine T ?_
 refine al (T ?_)
 refine ll hI bk LM gK Rr λb8 c36 w29 hI=>?_
 refine sB h (λ_ k=>qL NE ⟨(hI.get0 .z),hI.lend .z,ah⟩ k) (Rc Tryz.func181) λr6 w30 h hI=>?_
 refine TC (λhb h=>?_) λhb h=>?_
 ·refine T ?_
  obtain⟨r7,hx14,h⟩:=ae h
  refine aw gn rfl (Rc Tryz.func178) (Calls.mono (qK hI.lt FS hx14) ?_)
  rintro _ w31 ⟨a16,c37,rfl,hx15,hl7⟩
  refine⟨_,rfl,?_⟩
  replace hI:=(hI.ext hx15).adds hl7;dsimp only[ca,na]at hI
  refine T ?_
  refine lN λb9 c38 Dq hI=>?_
  refine lN λb10 c39 w33 hI=>?_
  refine lA λc40 w34 hI=>?_
  refine lA λc41 w35 hI=>?_
  refine nk (al ?_)
  obtain⟨r8,hx16,h⟩:=ae h
  obtain⟨r9,hx18,h⟩:=ae h
  refine aJ [8,9] false (.c (0,.q) (.c (2,.q) (.two 1 (.two 3 (.c (4,.q) (.c (5,.q) (.c (6,.q) (.c (7,.s) ki)))) 7 km) 7 (.c (1,.s) km)))) hI (by kernel_rfl) (by kernel_rfl) ?_
  intro w43 hI
  refine bT (α:=(Option Addr)×Nat×(Option Addr)×Nat×Nat×NP) (T:=ki) (λx=>[(2,vp b2 0),(3,vp b3 0),(8,vp b9 0),(9,vp b10 0),(10,(Value.pointer (some ⟨(x.2.2.2.2.1),0,none⟩))),(59,(Value.agg (uk r9.1))),(60,(Value.agg (ac r9.2 (x.2.2.1) (x.2.2.2.1))))]) (λx w=>Bun du F w0 (x.2.2.2.2.2) w [MO.box (x.2.2.2.2.1) 33 #[vi 0,vi 0],MO.box b10 72 (ac r7.2 a16 c37),MO.box b9 35 (d9 r7.1),LV bk 9 (some ⟨b8,0,none⟩) 3 LM,MO.box b3 72 av,MO.box b2 39 lp,MO.box b1 72 (ac p1 a1 c1)] [LT af (x.2.2.1) (x.2.2.2.1) r9.2.L,LT af (x.1) (x.2.1) r8.L,LT af a16 c37 r7.2.L,LT af a1 c1 p1.L]) (λx w=>SN [8,9] (DM false F (x.2.2.2.2.2)) w) ?_ ?_
  ·clear hI;rintro⟨a17,c42,a18,c43,b11,c48⟩ w42 hI
   try dsimp only at hI ⊢
   unfold ki
   refine bK (F:=F) (C:=c48) rfl rfl ?_
   refine vA λc45 w39 hI=>?_
   refine vA λc46 w40 hI=>?_
   refine V ?_
   refine al (aJ [5,6] false (.c (0,.q) (.c (1,.q) (.c (2,.q) (.c (3,.q) (.c (4,.s) (.c (5,.s) (.c (6,.s) .n))))))) hI (by kernel_rfl) (by kernel_rfl) ?_)
   intro w44 hI
   refine bR rfl gn rfl (λw' hw'=>(am (l:=(cU r7.1)) rfl et qQ rfl bX ((CA.blk (hI.blk .p2) rfl).at_ (SX.any rfl hw')))) (by kernel_rfl) ?_
   refine bR rfl gn rfl (λw' hw'=>(am (l:=(sR r9.1)) rfl et HM rfl oe ((CA.blk (hI.blk .z) rfl).at_ (SX.any rfl hw')))) (by kernel_rfl) ?_
   refine nv rfl gn rfl (λw'=>(aC (vs:=[(0,vi 1),(3,(Value.agg (d9 r7.1))),(2,(Value.agg (uk r9.1)))]) (cs:=#[vi 1,(aT []),vi r9.1.N,vi r9.1.D,vi r7.1.Kind,vi r7.1.Bits,vi r7.1.Frac,vi r7.1.Round,vi r7.1.Over,vi 0,vs none 0 0,vs none 0 0,vs none 0 0]) rfl ⟨rfl,ao,rfl,et,rfl,et,ah⟩ (by kernel_rfl))) ?_
   refine bR rfl gn rfl (λw' hw'=>(am (l:=(ag r9.2 a18 c43)) rfl et jO rfl aG ((CA.blk (hI.blk .p1) rfl).at_ (SX.any rfl hw')))) (by kernel_rfl) ?_
   obtain⟨r10,hx20,h⟩:=ae h
   refine dk rfl gn rfl (aD (vs:=[(Value.agg (ac r9.2 a18 c43)),(aT [41])]) rfl wg ⟨et,ao,ah⟩) (Calls.mono (bn hI.lt FS hx20) ?_)
   rintro _ w45 ⟨a19,c49,rfl,hx21,hl10⟩
   refine⟨_,rfl,hx21,?_⟩
   replace hI:=(hI.ext hx21).adds hl10;dsimp only[ca,na]at hI
   refine bK (F:=F) (C:=c46) rfl rfl ?_
   refine vA λc50 w46 hI=>?_
   refine vA λc51 w47 hI=>?_
   refine V ?_
   refine aF ?_
   have hI:=hI.add (c:=LT aj none 0 ([]:List GMono)) SlC.nil
   have hI:=hI.add (c:=LT an none 0 ([]:List GIndex)) SlC.nil
   have hI:=hI.add (c:=LT ap none 0 ([]:List GExpr)) SlC.nil
   obtain rfl:=ak h
   refine QG ?_
   exact⟨none,0,none,0,none,0,a19,c49,rfl,hI.ext0,hI.fin ⟨.p2,.p1,.z,.p3,ah⟩⟩
  intro hk_tr_ref16_primary_3_1
  refine bT (α:=(Option Addr)×Nat×Nat×NP) (T:=km) (λx=>[(2,vp b2 0),(3,vp b3 0),(8,vp b9 0),(9,vp b10 0),(10,(Value.pointer (some ⟨(x.2.2.1),0,none⟩))),(56,(Value.agg (ac r8 (x.1) (x.2.1)))),(57,(Value.agg (d9 r7.1)))]) (λx w=>Bun du F w0 (x.2.2.2) w [MO.box (x.2.2.1) 33 #[vi 0,vi 0],MO.box b10 72 (ac r7.2 a16 c37),MO.box b9 35 (d9 r7.1),LV bk 9 (some ⟨b8,0,none⟩) 3 LM,MO.box b3 72 av,MO.box b2 39 lp,MO.box b1 72 (ac p1 a1 c1)] [LT af (x.1) (x.2.1) r8.L,LT af a16 c37 r7.2.L,LT af a1 c1 p1.L]) (λx w=>SN [8,9] (DM false F (x.2.2.2)) w) ?_ ?_
  ·clear hI;rintro⟨a17,c42,b11,c47⟩ w41 hI
   try dsimp only at hI ⊢
   unfold km
   refine dk rfl gn rfl (aD (vs:=[(Value.agg (ac r8 a17 c42)),(Value.agg (d9 r7.1))]) rfl GV ⟨et,et,ah⟩) (Calls.mono (ru hI.lt FS hx18) ?_)
   rintro _ w37 ⟨a18,c43,rfl,hx19,hl9⟩
   refine⟨_,rfl,hx19,?_⟩
   replace hI:=(hI.ext hx19).adds hl9;dsimp only[ca,na]at hI
   refine V ?_
   exact bc (hk_tr_ref16_primary_3_1 (a17,c42,a18,c43,b11,c47) _ (hI.arr GO SU)) SB
  intro hk_tr_ref16_primary_3_0
  refine bR rfl gn rfl (λw' hw'=>(am (l:=(ag r7.2 a16 c37)) rfl et jO rfl aG ((CA.blk (hI.blk .z) rfl).at_ (SX.any rfl hw')))) (by kernel_rfl) ?_
  refine bR rfl gn rfl (λw' hw'=>(am (l:=(cU r7.1)) rfl et qQ rfl bX ((CA.blk (hI.blk .p1) rfl).at_ (SX.any rfl hw')))) (by kernel_rfl) ?_
  refine cL ?_ ?_
  ·skip
   refine dk rfl gn rfl (aD (vs:=[(Value.agg (ac r7.2 a16 c37)),(aT [40])]) rfl wg ⟨et,ao,ah⟩) (Calls.mono (bn hI.lt FS hx16) ?_)
   rintro _ w36 ⟨a17,c42,rfl,hx17,hl8⟩
   refine⟨_,rfl,hx17,?_⟩
   replace hI:=(hI.ext hx17).adds hl8;dsimp only[ca,na]at hI
   refine cL ?_ ?_
   ·skip
    refine dk rfl gn rfl (aD (vs:=[(Value.agg (ac r8 a17 c42)),(Value.agg (d9 r7.1))]) rfl GV ⟨et,et,ah⟩) (Calls.mono (ru hI.lt FS hx18) ?_)
    rintro _ w37 ⟨a18,c43,rfl,hx19,hl9⟩
    refine⟨_,rfl,hx19,?_⟩
    replace hI:=(hI.ext hx19).adds hl9;dsimp only[ca,na]at hI
    refine V ?_
    refine gS (cs:=#[vi 0,vi 0]) hI rfl gn rfl rfl rH rfl ?_
    intro b11 c44 w38 hI
    exact bc (hk_tr_ref16_primary_3_1 (a17,c42,a18,c43,b11,c44) _ (hI.arr GO SU)) SB
   refine gS (cs:=#[vi 0,vi 0]) hI rfl gn rfl rfl rH rfl ?_
   intro b11 c44 w38 hI
   exact bc (hk_tr_ref16_primary_3_0 (a17,c42,b11,c44) _ (hI.arr GO SU)) SB
  refine gS (cs:=#[vi 0,vi 0]) hI rfl gn rfl rfl rH rfl ?_
  intro b11 c44 w38 hI
  refine dk rfl gn rfl (aD (vs:=[(Value.agg (ac r7.2 a16 c37)),(aT [40])]) rfl wg ⟨et,ao,ah⟩) (Calls.mono (bn hI.lt FS hx16) ?_)
  rintro _ w36 ⟨a17,c42,rfl,hx17,hl8⟩
  refine⟨_,rfl,hx17,?_⟩
  replace hI:=(hI.ext hx17).adds hl8;dsimp only[ca,na]at hI
  exact bc (hk_tr_ref16_primary_3_0 (a17,c42,b11,c44) _ (hI.arr GO SU)) SB
 refine T ?_
 refine ll hI bk ([[109,105,110],[109,97,120],[105,102],[99,97,115,116]]:List (List UInt8)) gK Rr λb12 c52 w48 hI=>?_
 refine T ?_
 refine al (T ?_)
 refine sB h (λ_ k=>qL NE ⟨(hI.get0 .z),hI.lend .z,ah⟩ k) (Rc Tryz.func181) λr11 w49 h hI=>?_
 refine TC (λhb h=>?_) λhb h=>?_
 ·refine T ?_
  obtain⟨c53,hI⟩:=hI.release .z
  obtain⟨r12,hx24,h⟩:=ae h
  refine aw gn rfl (Rc Tryz.func105) (Calls.mono (lm hI.lt FS hx24) ?_)
  rintro _ w50 ⟨a20,c54,rfl,hx25,hl12⟩
  refine⟨_,rfl,?_⟩
  replace hI:=(hI.ext hx25).adds hl12;dsimp only[ca,na]at hI
  refine T ?_
  refine lN λb13 c55 w51 hI=>?_
  refine sa ?_
  refine lA λc56 w52 hI=>?_
  refine nk (al (T ?_))
  refine TC (λhb h=>?_) λhb h=>?_
  ·refine T ?_
   obtain⟨r13,hx26,h⟩:=ae h
   refine aw gn rfl (Rc Tryz.func209) (Calls.mono (oN hrec hI.lt FS hx26) ?_)
   rintro _ w53 ⟨a21,c57,a22,c58,a23,c59,a24,c60,rfl,hx27,hl13⟩
   refine⟨_,rfl,?_⟩
   replace hI:=(hI.ext hx27).adds hl13;dsimp only[ca,na]at hI
   refine T ?_
   refine lA λc61 w54 hI=>?_
   refine lA λc62 w55 hI=>?_
   refine T ?_
   refine aF ?_
   obtain rfl:=ak h
   refine QG ?_
   exact⟨a21,c57,a22,c58,a23,c59,a24,c60,rfl,hI.ext0,hI.fin ⟨.z,.p1,.p2,.p3,ah⟩⟩
  refine TC (λhb h=>?_) λhb h=>?_
  ·refine T ?_
   obtain⟨r14,hx28,h⟩:=ae h
   refine aw gn rfl (Rc Tryz.func209) (Calls.mono (oN hrec hI.lt FS hx28) ?_)
   rintro _ w56 ⟨a25,c63,a26,c64,a27,c65,a28,c66,rfl,hx29,hl14⟩
   refine⟨_,rfl,?_⟩
   replace hI:=(hI.ext hx29).adds hl14;dsimp only[ca,na]at hI
   refine T ?_
   refine lA λc67 w57 hI=>?_
   refine lA λc68 w58 hI=>?_
   refine nk (aF ?_)
   obtain rfl:=ak h
   refine QG ?_
   exact⟨a25,c63,a26,c64,a27,c65,a28,c66,rfl,hI.ext0,hI.fin ⟨.z,.p1,.p2,.p3,ah⟩⟩
  refine TC (λhb h=>?_) λhb h=>?_
  ·refine T ?_
   obtain⟨r15,hx30,h⟩:=ae h
   refine aw gn rfl (Rc Tryz.func209) (Calls.mono (oN hrec hI.lt FS hx30) ?_)
   rintro _ w59 ⟨a29,c69,a30,c70,a31,c71,a32,c72,rfl,hx31,hl15⟩
   refine⟨_,rfl,?_⟩
   replace hI:=(hI.ext hx31).adds hl15;dsimp only[ca,na]at hI
   refine T ?_
   refine lA λc73 w60 hI=>?_
   refine lA λc74 w61 hI=>?_
   refine nk (aF ?_)
   obtain rfl:=ak h
   refine QG ?_
   exact⟨a29,c69,a30,c70,a31,c71,a32,c72,rfl,hI.ext0,hI.fin ⟨.z,.p1,.p2,.p3,ah⟩⟩
  refine T ?_
  obtain⟨r16,hx32,h⟩:=ae h
  refine aw gn rfl (Rc Tryz.func209) (Calls.mono (oN hrec hI.lt FS hx32) ?_)
  rintro _ w62 ⟨a33,c75,a34,c76,a35,c77,a36,c78,rfl,hx33,hl16⟩
  refine⟨_,rfl,?_⟩
  replace hI:=(hI.ext hx33).adds hl16;dsimp only[ca,na]at hI
  refine T ?_
  refine lA λc79 w63 hI=>?_
  refine lA λc80 w64 hI=>?_
  refine nk (aF ?_)
  obtain rfl:=ak h
  refine QG ?_
  exact⟨a33,c75,a34,c76,a35,c77,a36,c78,rfl,hI.ext0,hI.fin ⟨.z,.p1,.p2,.p3,ah⟩⟩
 refine T ?_
 obtain⟨r17,hx34,h⟩:=ae h
 refine aw gn rfl (Rc Tryz.func211) (Calls.mono (Bn hI.lt FS hx34) ?_)
 rintro _ w65 ⟨a37,c81,a38,c82,a39,c83,a40,c84,rfl,hx35,hl17⟩
 refine⟨_,rfl,?_⟩
 replace hI:=(hI.ext hx35).adds hl17;dsimp only[ca,na]at hI
 refine T ?_
 refine lA λc85 w66 hI=>?_
 refine lA λc86 w67 hI=>?_
 refine nk (aF ?_)
 obtain rfl:=ak h
 refine QG ?_
 exact⟨a37,c81,a38,c82,a39,c83,a40,c84,rfl,hI.ext0,hI.fin ⟨.z,.p1,.p2,.p3,ah⟩⟩
theorem rt (hF:dK F w0) {p1:ab} {n1:Int} (hc:AllCl [LT af a1 c1 p1.L] F w0) {r:Int} (h:eV p1 n1=some r):CR F w0 152 #[(Value.agg (ac p1 a1 c1)),vi n1] (vi r) []:=by
 refine EN Tryz.func152 Tryz.ntmps152 hF hc λhI=>?_
 rw[eV]at h
 refine sr (lX λb1 c3 w1 hI=>?_)
 refine T ?_
 refine al (T ?_)
 refine aH (bg rfl rfl rfl rfl) rfl (λhc=>(am (l:=(ag p1 a1 c1)) rfl et jO rfl aG (hI.kblk (l:=(ag p1 a1 c1)) .z rfl).1)) ?_
 obtain⟨r1,hx1,h⟩:=ae h
 replace hx1:=ay hx1
 refine sU (λhc=>bx hI.lt FS (hx1 hc)) (Rg Tryz.func72) λw2 hI=>?_
 refine TR λhb h=>?_
 refine T ?_
 refine aH (bg rfl rfl rfl rfl) rfl (λhc=>(am (l:=(ag p1 a1 c1)) rfl et jO rfl aG (hI.kblk (l:=(ag p1 a1 c1)) .z rfl).1)) ?_
 obtain⟨r2,hx3,h⟩:=ae h
 replace hx3:=ay hx3
 refine sU (λhc=>bx hI.lt FS (hx3 hc)) (Rg Tryz.func72) λw3 hI=>?_
 refine TR λhb h=>?_
 refine T ?_
 refine aH (bg rfl rfl rfl rfl) rfl (λhc=>(am (l:=(ag p1 a1 c1)) rfl et jO rfl aG (hI.kblk (l:=(ag p1 a1 c1)) .z rfl).1)) ?_
 obtain⟨r3,hx5,h⟩:=ae h
 replace hx5:=ay hx5
 refine sU (λhc=>bx hI.lt FS (hx5 hc)) (Rg Tryz.func72) λw4 hI=>?_
 refine TR λhb h=>?_
 refine T ?_
 refine aH (bg rfl rfl rfl rfl) rfl (λhc=>(am (l:=(ag p1 a1 c1)) rfl et jO rfl aG (hI.kblk (l:=(ag p1 a1 c1)) .z rfl).1)) ?_
 obtain⟨r4,hx7,h⟩:=ae h
 replace hx7:=ay hx7
 refine sU (λhc=>bx hI.lt FS (hx7 hc)) (Rg Tryz.func72) λw5 hI=>?_
 refine TR λhb h=>?_
 refine T ?_
 refine aH (bg rfl rfl rfl rfl) rfl (λhc=>(am (l:=(ag p1 a1 c1)) rfl et jO rfl aG (hI.kblk (l:=(ag p1 a1 c1)) .z rfl).1)) ?_
 obtain⟨r5,hx9,h⟩:=ae h
 replace hx9:=ay hx9
 refine sU (λhc=>bx hI.lt FS (hx9 hc)) (Rg Tryz.func72) λw6 hI=>?_
 refine TR λhb h=>?_
 refine T ?_
 refine aH (bg rfl rfl rfl rfl) rfl (λhc=>(am (l:=(ag p1 a1 c1)) rfl et jO rfl aG (hI.kblk (l:=(ag p1 a1 c1)) .z rfl).1)) ?_
 obtain⟨r6,hx11,h⟩:=ae h
 replace hx11:=ay hx11
 refine sU (λhc=>bx hI.lt FS (hx11 hc)) (Rg Tryz.func72) λw7 hI=>?_
 refine TR λhb h=>?_
 refine T ?_
 refine aH (bg rfl rfl rfl rfl) rfl (λhc=>(am (l:=(ag p1 a1 c1)) rfl et jO rfl aG (hI.kblk (l:=(ag p1 a1 c1)) .z rfl).1)) ?_
 obtain⟨r7,hx13,h⟩:=ae h
 replace hx13:=ay hx13
 refine sU (λhc=>bx hI.lt FS (hx13 hc)) (Rg Tryz.func72) λw8 hI=>?_
 refine TR λhb h=>?_
 refine T ?_
 refine aH (bg rfl rfl rfl rfl) rfl (λhc=>(am (l:=(ag p1 a1 c1)) rfl et jO rfl aG (hI.kblk (l:=(ag p1 a1 c1)) .z rfl).1)) ?_
 obtain⟨r8,hx15,h⟩:=ae h
 replace hx15:=ay hx15
 refine sU (λhc=>bx hI.lt FS (hx15 hc)) (Rg Tryz.func72) λw9 hI=>?_
 refine TR λhb h=>?_
 refine T ?_
 refine aH (bg rfl rfl rfl rfl) rfl (λhc=>(am (l:=(ag p1 a1 c1)) rfl et jO rfl aG (hI.kblk (l:=(ag p1 a1 c1)) .z rfl).1)) ?_
 obtain⟨r9,hx17,h⟩:=ae h
 replace hx17:=ay hx17
 refine sU (λhc=>bx hI.lt FS (hx17 hc)) (Rg Tryz.func72) λw10 hI=>?_
 refine TR λhb h=>?_
 exact RF
def lD:Tr:=(.c (3,.s) .n)
def lC:Tr:=(.c (3,.s) .n)
theorem xl {rec_:(ab→Int→Option (GExpr×ab))} (hrec:LE rec_) (hF:dK F w0) {p1:ab} {n1:Int} (hc:AllCl [LT af a1 c1 p1.L] F w0) {r:GExpr×ab} (h:bD rec_ p1 n1=some r):Cg 80 #[(Value.agg (ac p1 a1 c1)),vi n1] w0 λe w=>∃ a2 c2 a3 c3 a4 c4 a5 c5,e= .returned (Value.tuple #[(Value.agg (aI r.1 a2 c2 a3 c3 a4 c4)),(Value.agg (ac r.2 a5 c5))])∧Ext w0 w∧AllCl [LT aj a2 c2 r.1.Lin.L,LT an a3 c3 r.1.Idx,LT ap a4 c4 r.1.Args,LT af a5 c5 r.2.L] F w:=by
 refine EN Tryz.func80 Tryz.ntmps80 hF hc λhI=>?_
 rw[bD]at h
 refine sr (lX λb1 c7 w1 hI=>?_)
 refine lN λb2 c8 w2 hI=>?_
 refine lN λb3 c9 w3 hI=>?_
 refine nk (al (T ?_))
 refine aH (bg rfl rfl rfl rfl) rfl (λhc=>(am (l:=(ag p1 a1 c1)) rfl et jO rfl aG (hI.kblk (l:=(ag p1 a1 c1)) .z rfl).1)) ?_
 obtain⟨r1,hx1,h⟩:=ae h
 replace hx1:=ay hx1
 refine sU (λhc=>bx hI.lt FS (hx1 hc)) (Rg Tryz.func72) λw4 hI=>?_
 refine T ?_
 refine aH (iA rfl rfl rfl rfl) rfl (λhc=>(am (l:=(ag p1 a1 c1)) rfl et jO rfl aG (hI.kblk (l:=(ag p1 a1 c1)) .z rfl).1)) ?_
 obtain⟨r2,hx3,h⟩:=ae h
 replace hx3:=ay hx3
 refine sU (λhc=>bx hI.lt FS (hx3 hc)) (Rg Tryz.func72) λw5 hI=>?_
 refine TC (λhb h=>?_) λhb h=>?_
 ·refine sr (sq (aC (vs:=[(0,vi 18)]) (cs:=#[vi 18,(aT []),vi 0,vi 0,vi 0,vi 0,vi 0,vi 0,vi 0,vi 0,vs none 0 0,vs none 0 0,vs none 0 0]) rfl ⟨rfl,ao,ah⟩ (by kernel_rfl)) ?_)
  refine lN λb4 c10 w6 hI=>?_
  refine aQ (new:=[vi 18,(aT []),vi 0,vi 0,vi 0,vi 0,vi 0,vi 0,vi 0,vi 0,vs none 0 0,vs none 0 0,vs none 0 0]) (cs':=#[vi 18,(aT []),vi 0,vi 0,vi 0,vi 0,vi 0,vi 0,vi 0,vi 0,vs none 0 0,vs none 0 0,vs none 0 0]) hI .z gn rfl rfl et et rfl aS rfl rfl rfl ?_
  intro c11 w7 hI
  refine nk (bM (α:=GExpr×(Option Addr)×Nat×(Option Addr)×Nat×(Option Addr)×Nat) (λ_=>⟨86,[]⟩) (λx=>[(1,vi n1),(2,vp b1 0),(4,vp b2 0),(5,vp b3 0),(6,vp b4 0)]) (λx=>λw=>∃ C,Bun du F w0 C w [LV aj 64 (x.2.1) (x.2.2.1) (x.1).Lin.L,LV an 132 (x.2.2.2.1) (x.2.2.2.2.1) (x.1).Idx,LV ap 39 (x.2.2.2.2.2.1) (x.2.2.2.2.2.2) (x.1).Args,MO.box b2 39 lp,MO.box b3 72 av,MO.box b4 39 (aI (x.1) (x.2.1) (x.2.2.1) (x.2.2.2.1) (x.2.2.2.2.1) (x.2.2.2.2.2.1) (x.2.2.2.2.2.2))] [Cl.blk b1 72 (ac p1 a1 c1),LT af a1 c1 p1.L]∧jG p1 rec_ n1 (x.1)=some r) ?_ ?_)
  ·clear h hI;rintro⟨aN,a6,c12,a7,c13,a8,c14⟩ w8 ⟨c15,hI,h⟩
   try dsimp only at hI h ⊢
   rw[jG]at h
   refine sr (sq (am (l:=(ag p1 a1 c1)) rfl et jO rfl aG (hI.kblk (l:=(ag p1 a1 c1)) .z rfl).1) ?_)
   obtain⟨r3,hx5,h⟩:=ae h
   refine aw gn rfl (Rc Tryz.func150) (Calls.mono (tH hI.lt FS hx5) ?_)
   rintro _ w9 ⟨a9,c16,rfl,hx6,hl3⟩
   refine⟨_,rfl,?_⟩
   replace hI:=(hI.ext hx6).adds hl3;dsimp only[ca,na]at hI
   refine sm ?_
   obtain⟨r4,hx7,h⟩:=ae h
   refine aw gn rfl (Rc Tryz.func80) (Calls.mono (hrec hI.lt FS hx7) ?_)
   rintro _ w10 ⟨a10,c17,a11,c18,a12,c19,a13,c20,rfl,hx8,hl4⟩
   refine⟨_,rfl,?_⟩
   replace hI:=(hI.ext hx8).adds hl4;dsimp only[ca,na]at hI
   refine T ?_
   refine lN λb5 c21 w11 hI=>?_
   refine lN λb6 c22 w12 hI=>?_
   refine aQ (new:=(bz r4.1 a10 c17 a11 c18 a12 c19)) (cs':=(aI r4.1 a10 c17 a11 c18 a12 c19)) hI .p1 gn rfl rfl et et rfl aS rfl rfl rfl ?_
   intro c23 w13 hI
   refine aQ (new:=(ag r4.2 a13 c20)) (cs':=(ac r4.2 a13 c20)) hI .z gn rfl rfl et et rfl aG rfl rfl rfl ?_
   intro c24 w14 hI
   refine T ?_
   refine ll hI ap ([r4.1]:List GExpr) mC (.cs (jg ⟨a10,c17,a11,c18,a12,c19,rfl,hI.get .z,hI.get .p1,hI.get .p2⟩) .nl) λb7 c25 w15 hI=>?_
   refine T ?_
   refine aQ (new:=[vs (some ⟨b7,0,none⟩) ([r4.1]:List GExpr).length 1]) (cs':=#[vi aN.Op,(aT aN.Name),vi aN.Val.N,vi aN.Val.D,vi aN.Type_.Kind,vi aN.Type_.Bits,vi aN.Type_.Frac,vi aN.Type_.Round,vi aN.Type_.Over,vi aN.Lin.K,vs a6 aN.Lin.L.length c12,vs a7 aN.Idx.length c13,vs (some ⟨b7,0,none⟩) ([r4.1]:List GExpr).length 1]) hI .p8 gn rfl rfl et et rfl Ia rfl rfl rfl ?_
   intro c26 w16 hI
   refine T ?_
   refine lS λc27 w17 hI=>?_
   refine nk (al (aJ [2,3] false (.c (0,.q) (.two 1 (.c (2,.s) lD) 2 (.c (1,.s) lD))) hI (by kernel_rfl) (by kernel_rfl) ?_))
   intro w21 hI
   refine bT (α:=NP) (T:=lD) (λx=>[(4,vp b2 0),(5,vp b3 0),(46,(Value.agg #[vs a13 r4.2.L.length c20,vi r4.2.At,vi p1.Deep,vi r4.2.E,vi r4.2.Pos]))]) (λx w=>Bun du F w0 x w [LV ap 39 (some ⟨b7,0,none⟩) 1 ([r4.1]:List GExpr),MO.box b6 72 #[vs a13 r4.2.L.length c20,vi r4.2.At,vi p1.Deep,vi r4.2.E,vi r4.2.Pos],MO.box b5 39 (aI r4.1 a10 c17 a11 c18 a12 c19),LV aj 64 a6 c12 aN.Lin.L,LV an 132 a7 c13 aN.Idx,LV ap 39 a8 c14 aN.Args,MO.box b2 39 #[vi aN.Op,(aT aN.Name),vi aN.Val.N,vi aN.Val.D,vi aN.Type_.Kind,vi aN.Type_.Bits,vi aN.Type_.Frac,vi aN.Type_.Round,vi aN.Type_.Over,vi aN.Lin.K,vs a6 aN.Lin.L.length c12,vs a7 aN.Idx.length c13,vs (some ⟨b7,0,none⟩) ([r4.1]:List GExpr).length 1],MO.box b3 72 av,MO.box b4 39 #[vi aN.Op,(aT aN.Name),vi aN.Val.N,vi aN.Val.D,vi aN.Type_.Kind,vi aN.Type_.Bits,vi aN.Type_.Frac,vi aN.Type_.Round,vi aN.Type_.Over,vi aN.Lin.K,vs a6 aN.Lin.L.length c12,vs a7 aN.Idx.length c13,vs (some ⟨b7,0,none⟩) ([r4.1]:List GExpr).length 1]] [LT aj a10 c17 r4.1.Lin.L,LT an a11 c18 r4.1.Idx,LT ap a12 c19 r4.1.Args,LT af a13 c20 r4.2.L,LT af a9 c16 r3.L,Cl.blk b1 72 (ac p1 a1 c1),LT af a1 c1 p1.L]) (λx w=>SN [] (DM true F x) w) ?_ ?_
   ·clear hI;rintro c30 w20 hI
    try dsimp only at hI ⊢
    unfold lD
    refine vA λc29 w19 hI=>?_
    refine V ?_
    refine aF ?_
    obtain⟨c31,hI⟩:=hI.release .p3
    obtain⟨c32,hI⟩:=hI.release .p3
    obtain⟨c33,hI⟩:=hI.release .z
    obtain rfl:=ak h
    exact fY (vs:=[(Value.agg #[vi aN.Op,(aT aN.Name),vi aN.Val.N,vi aN.Val.D,vi aN.Type_.Kind,vi aN.Type_.Bits,vi aN.Type_.Frac,vi aN.Type_.Round,vi aN.Type_.Over,vi aN.Lin.K,vs a6 aN.Lin.L.length c12,vs a7 aN.Idx.length c13,vs (some ⟨b7,0,none⟩) ([r4.1]:List GExpr).length 1]),(Value.agg #[vs a13 r4.2.L.length c20,vi r4.2.At,vi p1.Deep,vi r4.2.E,vi r4.2.Pos])]) Tryz.results80 ⟨⟨_,aR rfl rfl,cv (l:=[vi aN.Op,(aT aN.Name),vi aN.Val.N,vi aN.Val.D,vi aN.Type_.Kind,vi aN.Type_.Bits,vi aN.Type_.Frac,vi aN.Type_.Round,vi aN.Type_.Over,vi aN.Lin.K,vs a6 aN.Lin.L.length c12,vs a7 aN.Idx.length c13,vs (some ⟨b7,0,none⟩) ([r4.1]:List GExpr).length 1]) mD rfl aS (LU (hI.blk .p3) rfl)⟩,⟨_,aR rfl rfl,cv (l:=[vs a13 r4.2.L.length c20,vi r4.2.At,vi p1.Deep,vi r4.2.E,vi r4.2.Pos]) jO rfl aG (LU (hI.blk .p4) rfl)⟩,ah⟩ ⟨a6,c12,a7,c13,some ⟨b7,0,none⟩,1,a13,c20,rfl,hI.ext0,hI.fin ⟨.p2,.p1,.z,.p6,ah⟩⟩
   intro hk_tr_ref16_level_1_0
   refine bR rfl gn rfl (λw' hw'=>(am (l:=[vi aN.Op,(aT aN.Name),vi aN.Val.N,vi aN.Val.D,vi aN.Type_.Kind,vi aN.Type_.Bits,vi aN.Type_.Frac,vi aN.Type_.Round,vi aN.Type_.Over,vi aN.Lin.K,vs a6 aN.Lin.L.length c12,vs a7 aN.Idx.length c13,vs (some ⟨b7,0,none⟩) ([r4.1]:List GExpr).length 1]) rfl et mD rfl aS ((CA.blk (hI.blk .p8) rfl).at_ (SX.any rfl hw')))) (by kernel_rfl) ?_
   refine cL ?_ ?_
   ·skip
    refine bq rfl gn rfl (am (l:=[vs a13 r4.2.L.length c20,vi r4.2.At,vi p1.Deep,vi r4.2.E,vi r4.2.Pos]) rfl et jO rfl aG (LU (hI.blk .p1) rfl)) LW ?_
    refine bK (F:=F) (C:=c27) rfl rfl ?_
    refine vA λc28 w18 hI=>?_
    exact bc (hk_tr_ref16_level_1_0 c28 _ (hI.arr (.c .z (.c .z (.c .z (.c .z (.c .z (.c .z (.c .z (.c .z (.c .z .n))))))))) ⟨.z,.p1,.p2,.p3,.p4,.p5,.p6,ah⟩)) ⟨rfl,rfl,rfl,ah⟩
   refine bB (F:=F) (C:=c27) rfl rfl ?_
   refine vA λc28 w18 hI=>?_
   refine bq rfl gn rfl (am (l:=[vs a13 r4.2.L.length c20,vi r4.2.At,vi p1.Deep,vi r4.2.E,vi r4.2.Pos]) rfl et jO rfl aG (LU (hI.blk .p1) rfl)) LW ?_
   exact bc (hk_tr_ref16_level_1_0 c28 _ (hI.arr (.c .z (.c .z (.c .z (.c .z (.c .z (.c .z (.c .z (.c .z (.c .z .n))))))))) ⟨.z,.p1,.p2,.p3,.p4,.p5,.p6,ah⟩)) ⟨rfl,rfl,rfl,ah⟩
  refine TC (λhb h=>?_) λhb h=>?_
  ·refine T ?_
   refine lS λc34 w22 hI=>?_
   refine aO ?_
   have hI:=hI.nil aj 64 none
   have hI:=hI.nil an 132 none
   have hI:=hI.nil ap 39 none
   exact bu ((⟨8,[],⟨0,0⟩,⟨0,0,0,0,0⟩,⟨0,[]⟩,[],[]⟩:GExpr),none,0,none,0,none,0) ⟨rfl,rfl,rfl,rfl,rfl,ah⟩ ⟨_,hI.arr (.c .p2 (.c .p1 (.c .z (.c .p2 (.c .p1 (.c .z .n)))))) ⟨.z,.p1,ah⟩,h⟩ rfl
  refine bl ?_
  have hI:=hI.nil aj 64 none
  have hI:=hI.nil an 132 none
  have hI:=hI.nil ap 39 none
  exact bu ((⟨18,[],⟨0,0⟩,⟨0,0,0,0,0⟩,⟨0,[]⟩,[],[]⟩:GExpr),none,0,none,0,none,0) ⟨rfl,rfl,rfl,rfl,rfl,ah⟩ ⟨_,hI.arr (.c .p2 (.c .p1 (.c .z (.c .p2 (.c .p1 (.c .z .n)))))) ⟨.z,.p1,ah⟩,h⟩ rfl
 refine T ?_
 refine al (T ?_)
 refine TC (λhb h=>?_) λhb h=>?_
 ·refine sr (sq (am (l:=(ag p1 a1 c1)) rfl et jO rfl aG (hI.kblk (l:=(ag p1 a1 c1)) .z rfl).1) ?_)
  obtain⟨r5,hx9,h⟩:=ae h
  refine aw gn rfl (Rc Tryz.func151) (Calls.mono (xj hrec hI.lt FS hx9) ?_)
  rintro _ w23 ⟨a14,c35,a15,c36,a16,c37,a17,c38,rfl,hx10,hl5⟩
  refine⟨_,rfl,?_⟩
  replace hI:=(hI.ext hx10).adds hl5;dsimp only[ca,na]at hI
  refine T ?_
  refine aQ (new:=(bz r5.1 a14 c35 a15 c36 a16 c37)) (cs':=(aI r5.1 a14 c35 a15 c36 a16 c37)) hI .p1 gn rfl rfl et et rfl aS rfl rfl rfl ?_
  intro c39 w24 hI
  refine aQ (new:=(ag r5.2 a17 c38)) (cs':=(ac r5.2 a17 c38)) hI .z gn rfl rfl et et rfl aG rfl rfl rfl ?_
  intro c40 w25 hI
  refine nk (aF ?_)
  obtain rfl:=ak h
  exact fY (vs:=[(Value.agg (aI r5.1 a14 c35 a15 c36 a16 c37)),(Value.agg (ac r5.2 a17 c38))]) Tryz.results80 ⟨⟨_,aR rfl rfl,cv (l:=(bz r5.1 a14 c35 a15 c36 a16 c37)) mD rfl aS (LU (hI.blk .p1) rfl)⟩,⟨_,aR rfl rfl,cv (l:=(ag r5.2 a17 c38)) jO rfl aG (LU (hI.blk .z) rfl)⟩,ah⟩ ⟨a14,c35,a15,c36,a16,c37,a17,c38,rfl,hI.ext0,hI.fin ⟨.z,.p1,.p2,.p3,ah⟩⟩
 refine T ?_
 refine sq (am (l:=(ag p1 a1 c1)) rfl et jO rfl aG (hI.kblk (l:=(ag p1 a1 c1)) .z rfl).1) ?_
 refine T ?_
 obtain⟨r6,hx11,h⟩:=ae h
 refine aw gn rfl (Rc Tryz.func80) (Calls.mono (hrec hI.lt FS hx11) ?_)
 rintro _ w26 ⟨a18,c41,a19,c42,a20,c43,a21,c44,rfl,hx12,hl6⟩
 refine⟨_,rfl,?_⟩
 replace hI:=(hI.ext hx12).adds hl6;dsimp only[ca,na]at hI
 refine T ?_
 refine lN λb8 c45 w27 hI=>?_
 refine lN λb9 c46 w28 hI=>?_
 refine aQ (new:=(bz r6.1 a18 c41 a19 c42 a20 c43)) (cs':=(aI r6.1 a18 c41 a19 c42 a20 c43)) hI .p1 gn rfl rfl et et rfl aS rfl rfl rfl ?_
 intro c47 w29 hI
 refine aQ (new:=(ag r6.2 a21 c44)) (cs':=(ac r6.2 a21 c44)) hI .z gn rfl rfl et et rfl aG rfl rfl rfl ?_
 intro c48 w30 hI
 refine T ?_
 refine al (T ?_)
 refine bs (α:=Nat×GExpr×ab×(Option Addr)×Nat×(Option Addr)×Nat×(Option Addr)×Nat×(Option Addr)×Nat) (λx=>λw=>∃ C,Bun du F w0 C w [MO.box b2 39 lp,MO.box b3 72 av,MO.box b8 39 (aI (x.2.1) (x.2.2.2.1) (x.2.2.2.2.1) (x.2.2.2.2.2.1) (x.2.2.2.2.2.2.1) (x.2.2.2.2.2.2.2.1) (x.2.2.2.2.2.2.2.2.1)),MO.box b9 72 (ac (x.2.2.1) (x.2.2.2.2.2.2.2.2.2.1) (x.2.2.2.2.2.2.2.2.2.2))] [LT aj (x.2.2.2.1) (x.2.2.2.2.1) (x.2.1).Lin.L,LT an (x.2.2.2.2.2.1) (x.2.2.2.2.2.2.1) (x.2.1).Idx,LT ap (x.2.2.2.2.2.2.2.1) (x.2.2.2.2.2.2.2.2.1) (x.2.1).Args,LT af (x.2.2.2.2.2.2.2.2.2.1) (x.2.2.2.2.2.2.2.2.2.2) (x.2.2.1).L]∧bE n1 rec_ (x.1) (x.2.1) (x.2.2.1)=some r) (λx _=>x.1) (λx=>[(1,vi n1),(4,vp b2 0),(5,vp b3 0),(9,vp b8 0),(10,vp b9 0)]) (fu,r6.1,r6.2,a18,c41,a19,c42,a20,c43,a21,c44) ⟨_,hI.arr (.c .p3 (.c .p2 (.c .p1 (.c .z .n)))) ⟨.z,.p1,.p2,.p3,ah⟩,h⟩ ⟨rfl,rfl,rfl,rfl,rfl,ah⟩ ?_
 clear h hI;rintro⟨fuel1,x1,q1,a22,c49,a23,c50,a24,c51,a25,c52⟩ w31 ⟨c53,hI,h⟩
 dsimp only at hI h ⊢
 rcases fuel1 with _ | fuel1
 ·rw[bE]at h;cases h
 rw[bE]at h
 refine al (T ?_)
 refine sB h (λ_ k=>rt hI.lt FS k) (Rc Tryz.func152) λr7 Dq h hI=>?_
 refine TC (λhb h=>?_) λhb h=>?_
 ·refine T ?_
  refine sB h (λ_ k=>rt hI.lt FS k) (Rc Tryz.func152) λr8 w33 h hI=>?_
  refine T ?_
  refine lS λc54 w34 hI=>?_
  refine T ?_
  obtain⟨r9,hx17,h⟩:=ae h
  refine aw gn rfl (Rc Tryz.func80) (Calls.mono (hrec hI.lt FS hx17) ?_)
  rintro _ w35 ⟨a26,c55,a27,c56,a28,c57,a29,c58,rfl,hx18,hl9⟩
  refine⟨_,rfl,?_⟩
  replace hI:=(hI.ext hx18).adds hl9;dsimp only[ca,na]at hI
  refine T ?_
  refine lN λb10 c59 w36 hI=>?_
  refine lN λb11 c60 w37 hI=>?_
  refine aQ (new:=(bz r9.1 a26 c55 a27 c56 a28 c57)) (cs':=(aI r9.1 a26 c55 a27 c56 a28 c57)) hI .p1 gn rfl rfl et et rfl aS rfl rfl rfl ?_
  intro c61 w38 hI
  refine aQ (new:=(ag r9.2 a29 c58)) (cs':=(ac r9.2 a29 c58)) hI .z gn rfl rfl et et rfl aG rfl rfl rfl ?_
  intro c62 w39 hI
  refine T ?_
  refine ll hI ap ([x1,r9.1]:List GExpr) mC (.cs (jg ⟨a22,c49,a23,c50,a24,c51,rfl,hI.get .p4,hI.get .p5,hI.get .p6⟩) (.cs (jg ⟨a26,c55,a27,c56,a28,c57,rfl,hI.get .z,hI.get .p1,hI.get .p2⟩) .nl)) λb12 c63 w40 hI=>?_
  refine sq (aC (vs:=[(0,vi r8),(6,vs (some ⟨b12,0,none⟩) ([x1,r9.1]:List GExpr).length 2)]) (cs:=#[vi r8,(aT []),vi 0,vi 0,vi 0,vi 0,vi 0,vi 0,vi 0,vi 0,vs none 0 0,vs none 0 0,vs (some ⟨b12,0,none⟩) ([x1,r9.1]:List GExpr).length 2]) rfl ⟨rfl,et,rfl,et,ah⟩ (by kernel_rfl)) ?_
  refine aQ (new:=[vi r8,(aT []),vi 0,vi 0,vi 0,vi 0,vi 0,vi 0,vi 0,vi 0,vs none 0 0,vs none 0 0,vs (some ⟨b12,0,none⟩) ([x1,r9.1]:List GExpr).length 2]) (cs':=#[vi r8,(aT []),vi 0,vi 0,vi 0,vi 0,vi 0,vi 0,vi 0,vi 0,vs none 0 0,vs none 0 0,vs (some ⟨b12,0,none⟩) ([x1,r9.1]:List GExpr).length 2]) hI .p5 gn rfl rfl et et rfl aS rfl rfl rfl ?_
  intro c64 w41 hI
  refine T ?_
  refine aQ (new:=(ag r9.2 a29 c58)) (cs':=(ac r9.2 a29 c58)) hI .p6 gn rfl rfl et et rfl aG rfl rfl rfl ?_
  intro c65 w42 hI
  refine aO ?_
  have hI:=hI.add (c:=LT aj none 0 ([]:List GMono)) SlC.nil
  have hI:=hI.add (c:=LT an none 0 ([]:List GIndex)) SlC.nil
  obtain⟨c66,hI⟩:=hI.release .z
  exact ny (fuel1,(⟨r8,[],⟨0,0⟩,⟨0,0,0,0,0⟩,⟨0,[]⟩,[],[x1,r9.1]⟩:GExpr),r9.2,none,0,none,0,some ⟨b12,0,none⟩,2,a29,c58) ⟨rfl,rfl,rfl,rfl,rfl,ah⟩ ⟨_,hI.arr (.c .p2 (.c .p2 (.c .p2 (.c .p2 .n)))) ⟨.p2,.p1,.z,.p6,ah⟩,h⟩ (Nat.lt_succ_self _)
 refine bv ?_
 refine fi ?_
 refine bh (al (aJ [2,3] false (.c (0,.q) (.two 1 (.c (2,.s) lC) 2 (.c (1,.s) lC))) hI (by kernel_rfl) (by kernel_rfl) ?_))
 intro w46 hI
 refine bT (α:=NP) (T:=lC) (λx=>[(4,vp b2 0),(5,vp b3 0),(85,(Value.agg (ac q1 a25 c52)))]) (λx w=>Bun du F w0 x w [MO.box b2 39 (aI x1 a22 c49 a23 c50 a24 c51),MO.box b3 72 av,MO.box b8 39 (aI x1 a22 c49 a23 c50 a24 c51),MO.box b9 72 (ac q1 a25 c52)] [LT aj a22 c49 x1.Lin.L,LT an a23 c50 x1.Idx,LT ap a24 c51 x1.Args,LT af a25 c52 q1.L]) (λx w=>SN [] (DM true F x) w) ?_ ?_
 ·clear hI;rintro c69 w45 hI
  try dsimp only at hI ⊢
  unfold lC
  refine vA λc68 w44 hI=>?_
  refine V ?_
  refine aF ?_
  obtain rfl:=ak h
  exact fY (vs:=[(Value.agg (aI x1 a22 c49 a23 c50 a24 c51)),(Value.agg (ac q1 a25 c52))]) Tryz.results80 ⟨⟨_,aR rfl rfl,cv (l:=(bz x1 a22 c49 a23 c50 a24 c51)) mD rfl aS (LU (hI.blk .z) rfl)⟩,⟨_,aR rfl rfl,cv (l:=(ag q1 a25 c52)) jO rfl aG (LU (hI.blk .p1) rfl)⟩,ah⟩ ⟨a22,c49,a23,c50,a24,c51,a25,c52,rfl,hI.ext0,hI.fin ⟨.z,.p1,.p2,.p3,ah⟩⟩
 intro hk_tr_ref16_level_4_0
 refine bR rfl gn rfl (λw' hw'=>(am (l:=(bz x1 a22 c49 a23 c50 a24 c51)) rfl et mD rfl aS ((CA.blk (hI.blk .p2) rfl).at_ (SX.any rfl hw')))) (by kernel_rfl) ?_
 refine cL ?_ ?_
 ·skip
  refine bq rfl gn rfl (am (l:=(ag q1 a25 c52)) rfl et jO rfl aG (LU (hI.blk .p3) rfl)) LW ?_
  refine bK (F:=F) (C:=c53) rfl rfl ?_
  refine vA λc67 w43 hI=>?_
  exact bc (hk_tr_ref16_level_4_0 c67 _ (hI.arr (.c .z (.c .z (.c .z (.c .z .n)))) ⟨.z,.p1,.p2,.p3,ah⟩)) ⟨rfl,rfl,rfl,ah⟩
 refine bB (F:=F) (C:=c53) rfl rfl ?_
 refine vA λc67 w43 hI=>?_
 refine bq rfl gn rfl (am (l:=(ag q1 a25 c52)) rfl et jO rfl aG (LU (hI.blk .p3) rfl)) LW ?_
 exact bc (hk_tr_ref16_level_4_0 c67 _ (hI.arr (.c .z (.c .z (.c .z (.c .z .n)))) ⟨.z,.p1,.p2,.p3,ah⟩)) ⟨rfl,rfl,rfl,ah⟩
theorem xk (n:Nat):LE (aL n):=by
 induction n with
 | zero=>intro F;intros;rename_i h;cases h
 | succ n ih=>intro F;intros;apply xl ih<;>assumption
theorem zr:LE (po):=xk fu
abbrev Qs8 (f_:(GExpr→Int→Option Int)):Prop:=∀ ⦃F:NP⦄ ⦃w0:World⦄ (hF:dK F w0) ⦃e1:GExpr⦄ ⦃most1:Int⦄ ⦃a1 a2 a3:Option Addr⦄ ⦃c1 c2 c3:Nat⦄ (hc:AllCl [LT aj a1 c1 e1.Lin.L,LT an a2 c2 e1.Idx,LT ap a3 c3 e1.Args] F w0) ⦃r:Int⦄ (h:f_ e1 most1=some r),CR F w0 160 #[(Value.agg (aI e1 a1 c1 a2 c2 a3 c3)),vi most1] (vi r) []
theorem xn {rec_:(GExpr→Int→Option Int)} (hrec:Qs8 rec_) (hF:dK F w0) {e1:GExpr} {most1:Int} (hc:AllCl [LT aj a1 c1 e1.Lin.L,LT an a2 c2 e1.Idx,LT ap a3 c3 e1.Args] F w0) {r:Int} (h:lV rec_ e1 most1=some r):CR F w0 160 #[(Value.agg (aI e1 a1 c1 a2 c2 a3 c3)),vi most1] (vi r) []:=by
 refine EN Tryz.func160 Tryz.ntmps160 hF hc λhI=>?_
 rw[lV]at h
 refine sr (lX λb1 c5 w1 hI=>?_)
 refine T ?_
 refine al (T ?_)
 refine bs (α:=Nat×Int×Int) (λx=>λw=>∃ C,Bun du F w0 C w [] [Cl.blk b1 39 (aI e1 a1 c1 a2 c2 a3 c3),LT aj a1 c1 e1.Lin.L,LT an a2 c2 e1.Idx,LT ap a3 c3 e1.Args]∧fT e1 most1 rec_ (x.1) (x.2.1) (x.2.2)=some r) (λx _=>x.1) (λx=>[(1,vi most1),(2,vp b1 0),(5,vi (x.2.1)),(6,vi (x.2.2))]) (fu,1,0) BH SB ?_
 clear h hI;rintro⟨fuel1,d1,i1⟩ w2 ⟨c6,hI,h⟩
 dsimp only at hI h ⊢
 rcases fuel1 with _ | fuel1
 ·rw[fT]at h;cases h
 rw[fT]at h
 refine al (T ?_)
 refine TC (λhb h=>?_) λhb h=>?_
 ·refine T ?_
  refine al (T ?_)
  obtain⟨e2,hx1,h⟩:=ae h
  obtain⟨ad1,cs1,hA1,hr1,hq1⟩:=hI.clat .p3 hx1
  obtain⟨a4,c7,a5,c8,a6,c9,rfl,hf1,hf2,hf3⟩:=jm hr1
  have hI:=hI.ads hf1
  have hI:=hI.ads hf2
  have hI:=hI.ads hf3
  refine sI ?_
  refine T ?_
  refine sB h (λ_ k=>hrec hI.lt FS k) (Rc Tryz.func160) λr1 w3 h hI=>?_
  refine T ?_
  refine sq (Gc rfl et et) ?_
  refine T ?_
  refine aO ?_
  exact kl (fuel1,max d1 (au (1+r1)),au (i1+1))
 refine bv ?_
 refine fi ?_
 refine bh ?_
 exact RF
theorem xm (n:Nat):Qs8 (j6 n):=by
 induction n with
 | zero=>intro F;intros;rename_i h;cases h
 | succ n ih=>intro F;intros;apply xn ih<;>assumption
theorem zy:Qs8 (qT):=xm fu
theorem zz (hF:dK F w0) {e1:GExpr} (hc:AllCl [LT aj a1 c1 e1.Lin.L,LT an a2 c2 e1.Idx,LT ap a3 c3 e1.Args] F w0) {r:Int} (h:pp e1=some r):CR F w0 85 #[(Value.agg (aI e1 a1 c1 a2 c2 a3 c3))] (vi r) []:=by
 refine EN Tryz.func85 Tryz.ntmps85 hF hc λhI=>?_
 rw[pp]at h
 refine sr (lX λb1 c5 w1 hI=>?_)
 refine T ?_
 refine sq (am (l:=(bz e1 a1 c1 a2 c2 a3 c3)) rfl et mD rfl aS (hI.kblk (l:=(bz e1 a1 c1 a2 c2 a3 c3)) .z rfl).1) ?_
 refine sB h (λ_ k=>zy hI.lt FS k) (Rc Tryz.func160) λr1 w2 h hI=>?_
 exact RF
abbrev Qs9 (f_:(GExpr→Int→Option Int)):Prop:=∀ ⦃F:NP⦄ ⦃w0:World⦄ (hF:dK F w0) ⦃e1:GExpr⦄ ⦃most1:Int⦄ ⦃a1 a2 a3:Option Addr⦄ ⦃c1 c2 c3:Nat⦄ (hc:AllCl [LT aj a1 c1 e1.Lin.L,LT an a2 c2 e1.Idx,LT ap a3 c3 e1.Args] F w0) ⦃r:Int⦄ (h:f_ e1 most1=some r),CR F w0 161 #[(Value.agg (aI e1 a1 c1 a2 c2 a3 c3)),vi most1] (vi r) []
theorem yL {rec_:(GExpr→Int→Option Int)} (hrec:Qs9 rec_) (hF:dK F w0) {e1:GExpr} {most1:Int} (hc:AllCl [LT aj a1 c1 e1.Lin.L,LT an a2 c2 e1.Idx,LT ap a3 c3 e1.Args] F w0) {r:Int} (h:mI rec_ e1 most1=some r):CR F w0 161 #[(Value.agg (aI e1 a1 c1 a2 c2 a3 c3)),vi most1] (vi r) []:=by
 refine EN Tryz.func161 Tryz.ntmps161 hF hc λhI=>?_
 rw[mI]at h
 refine sr (lX λb1 c5 w1 hI=>?_)
 refine T ?_
 refine al (T ?_)
 refine bs (α:=Nat×Int×Int) (λx=>λw=>∃ C,Bun du F w0 C w [] [Cl.blk b1 39 (aI e1 a1 c1 a2 c2 a3 c3),LT aj a1 c1 e1.Lin.L,LT an a2 c2 e1.Idx,LT ap a3 c3 e1.Args]∧dV e1 most1 rec_ (x.1) (x.2.1) (x.2.2)=some r) (λx _=>x.1) (λx=>[(1,vi most1),(2,vp b1 0),(5,vi (x.2.1)),(6,vi (x.2.2))]) (fu,1,0) BH SB ?_
 clear h hI;rintro⟨fuel1,n1,i1⟩ w2 ⟨c6,hI,h⟩
 dsimp only at hI h ⊢
 rcases fuel1 with _ | fuel1
 ·rw[dV]at h;cases h
 rw[dV]at h
 refine al (T ?_)
 refine TC (λhb h=>?_) λhb h=>?_
 ·refine T ?_
  refine al (T ?_)
  obtain⟨e2,hx1,h⟩:=ae h
  obtain⟨ad1,cs1,hA1,hr1,hq1⟩:=hI.clat .p3 hx1
  obtain⟨a4,c7,a5,c8,a6,c9,rfl,hf1,hf2,hf3⟩:=jm hr1
  have hI:=hI.ads hf1
  have hI:=hI.ads hf2
  have hI:=hI.ads hf3
  refine sI ?_
  refine T ?_
  refine sB h (λ_ k=>hrec hI.lt FS k) (Rc Tryz.func161) λr1 w3 h hI=>?_
  refine T ?_
  refine aO ?_
  exact kl (fuel1,au (n1+r1),au (i1+1))
 refine bv ?_
 refine fi ?_
 refine bh ?_
 exact RF
theorem yK (n:Nat):Qs9 (gu n):=by
 induction n with
 | zero=>intro F;intros;rename_i h;cases h
 | succ n ih=>intro F;intros;apply yL ih<;>assumption
theorem Bp:Qs9 (rN):=yK fu
theorem Bs (hF:dK F w0) {e1:GExpr} (hc:AllCl [LT aj a1 c1 e1.Lin.L,LT an a2 c2 e1.Idx,LT ap a3 c3 e1.Args] F w0) {r:Int} (h:ox e1=some r):CR F w0 86 #[(Value.agg (aI e1 a1 c1 a2 c2 a3 c3))] (vi r) []:=by
 refine EN Tryz.func86 Tryz.ntmps86 hF hc λhI=>?_
 rw[ox]at h
 refine sr (lX λb1 c5 w1 hI=>?_)
 refine T ?_
 refine sq (am (l:=(bz e1 a1 c1 a2 c2 a3 c3)) rfl et mD rfl aS (hI.kblk (l:=(bz e1 a1 c1 a2 c2 a3 c3)) .z rfl).1) ?_
 refine sB h (λ_ k=>Bp hI.lt FS k) (Rc Tryz.func161) λr1 w2 h hI=>?_
 refine sq (KM rfl et ao) ?_
 exact RF
theorem zw (hF:dK F w0) {e1:GExpr} (hc:AllCl [LT aj a1 c1 e1.Lin.L,LT an a2 c2 e1.Idx,LT ap a3 c3 e1.Args] F w0) {r:Bool} (h:nG e1=some r):CR F w0 162 #[(Value.agg (aI e1 a1 c1 a2 c2 a3 c3))] (vb r) []:=by
 refine EN Tryz.func162 Tryz.ntmps162 hF hc λhI=>?_
 rw[nG]at h
 refine sr (lX λb1 c5 w1 hI=>?_)
 refine tV ?_
 refine nk (al (sr (sq (aP rfl et mD rfl jP rfl) ?_)))
 refine sq (ba (v:=(vi e1.Op)) rfl et u3 rfl (hI.kblk (l:=[vi e1.Op]) .z rfl).1) ?_
 refine sq (sX rfl et ao) ?_
 refine sm ?_
 refine aH (bV rfl rfl rfl rfl) rfl (λhc=>aP rfl et mD rfl jP rfl) ?_
 refine aH (bV rfl rfl rfl rfl) rfl (λhc=>(ba (v:=(vi e1.Op)) rfl (aU et hc) u3 rfl (hI.kblk (l:=[vi e1.Op]) .z rfl).1)) ?_
 refine aH (bV rfl rfl rfl rfl) rfl (λhc=>um rfl (aU et hc) ao) ?_
 refine sq (As rfl et et) ?_
 refine TC (λhb h=>?_) λhb h=>?_
 ·refine sr (tV ?_)
  refine nk (aF ?_)
  obtain rfl:=ak h
  exact fY (vs:=[vb false]) Tryz.results162 ⟨aR rfl rfl,ah⟩ (fq hI ah)
 refine bl (bh (al (sr (sq (aP rfl et mD rfl jP rfl) ?_))))
 refine sq (ba (v:=(vi e1.Op)) rfl et u3 rfl (hI.kblk (l:=[vi e1.Op]) .z rfl).1) ?_
 refine sq (py rfl et ao) ?_
 refine sm ?_
 refine aH (bg rfl rfl rfl rfl) rfl (λhc=>aP rfl et mD rfl oe rfl) ?_
 refine aH (bg rfl rfl rfl rfl) rfl (λhc=>(am (l:=(sR e1.Val)) rfl (aU et hc) HM rfl oe (hI.kblk (l:=(sR e1.Val)) .z rfl).1)) ?_
 refine aH (bg rfl rfl rfl rfl) rfl (λhc=>aC (vs:=[]) (cs:=#[vi 0,vi 0]) rfl trivial (by kernel_rfl)) ?_
 refine aH (bg rfl rfl rfl rfl) rfl (λhc=>jn rfl (aU et hc) (aU et hc) (vy ..) (uS ..)) ?_
 refine sq (un rfl et et) ?_
 refine sm ?_
 refine aH (bV rfl rfl rfl rfl) rfl (λhc=>aP rfl et mD rfl jP rfl) ?_
 refine aH (bV rfl rfl rfl rfl) rfl (λhc=>(ba (v:=(vi e1.Op)) rfl (aU et hc) u3 rfl (hI.kblk (l:=[vi e1.Op]) .z rfl).1)) ?_
 refine aH (bV rfl rfl rfl rfl) rfl (λhc=>py rfl (aU et hc) ao) ?_
 refine aH (bV rfl rfl rfl rfl) rfl (λhc=>gp rfl (aU et hc)) ?_
 refine aH (iA rfl rfl rfl rfl) rfl (λhc=>aP rfl et mD rfl jP rfl) ?_
 refine aH (iA rfl rfl rfl rfl) rfl (λhc=>(ba (v:=(vi e1.Op)) rfl (aU et hc) u3 rfl (hI.kblk (l:=[vi e1.Op]) .z rfl).1)) ?_
 refine aH (iA rfl rfl rfl rfl) rfl (λhc=>py rfl (aU et hc) ao) ?_
 refine aH (bV rfl rfl rfl rfl) rfl (λhc=>xN rfl hc et et) ?_
 refine aH (bV rfl rfl rfl rfl) rfl (λhc=>gp rfl (aU et hc)) ?_
 refine aH (iA rfl rfl rfl rfl) rfl (λhc=>aP rfl et mD rfl bX rfl) ?_
 refine aH (iA rfl rfl rfl rfl) rfl (λhc=>(am (l:=(cU e1.Type_)) rfl (aU et hc) qQ rfl bX (hI.kblk (l:=(cU e1.Type_)) .z rfl).1)) ?_
 refine aH (iA rfl rfl rfl rfl) rfl (λhc=>aC (vs:=[]) (cs:=Ap) rfl trivial (by kernel_rfl)) ?_
 refine aH (iA rfl rfl rfl rfl) rfl (λhc=>jn rfl (aU et hc) (aU et hc) (rX ..) (pd ..)) ?_
 refine aH (bV rfl rfl rfl rfl) rfl (λhc=>xN rfl hc et et) ?_
 refine sq (As rfl et et) ?_
 refine aO ?_
 refine pc (e:=[(1,vp b1 0),(37,(vb (((!decide (e1.Op=1))&&(!((decide (e1.Val.N=0))&&(decide (e1.Val.D=0)))))||(((!decide (e1.Op=1))&&(!decide (e1.Op=12)))&&(!((decide (e1.Type_.Kind=0))&&(decide (e1.Type_.Bits=0))&&(decide (e1.Type_.Frac=0))&&(decide (e1.Type_.Round=0))&&(decide (e1.Type_.Over=0))))))))]) SB ?_
 refine TC (λhb h=>?_) λhb h=>?_
 ·refine sr (tV ?_)
  refine nk (aF ?_)
  obtain rfl:=ak h
  exact fY (vs:=[vb false]) Tryz.results162 ⟨aR rfl rfl,ah⟩ (fq hI ah)
 refine bl (bh (al (sr (sq (aP rfl et mD rfl jP rfl) ?_))))
 refine sq (ba (v:=(vi e1.Op)) rfl et u3 rfl (hI.kblk (l:=[vi e1.Op]) .z rfl).1) ?_
 refine sq (py rfl et ao) ?_
 refine sm ?_
 refine aH (bg rfl rfl rfl rfl) rfl (λhc=>aP rfl et mD rfl bt rfl) ?_
 refine aH (bg rfl rfl rfl rfl) rfl (λhc=>aP rfl (aU et hc) pk rfl Gv rfl) ?_
 refine aH (bg rfl rfl rfl rfl) rfl (λhc=>(ba (v:=(vi e1.Lin.K)) rfl (aU et hc) u2 rfl (hI.kblk (l:=[vi e1.Lin.K]) .z rfl).1)) ?_
 refine aH (bg rfl rfl rfl rfl) rfl (λhc=>py rfl (aU et hc) ao) ?_
 refine aH (bg rfl rfl rfl rfl) rfl (λhc=>gp rfl (aU et hc)) ?_
 refine aH (iC rfl rfl rfl rfl) rfl (λhc=>aP rfl et mD rfl bt rfl) ?_
 refine aH (iC rfl rfl rfl rfl) rfl (λhc=>aP rfl (aU et hc) pk rfl Es rfl) ?_
 refine aH (iC rfl rfl rfl rfl) rfl (λhc=>(ba (v:=(vs a1 e1.Lin.L.length c1)) rfl (aU et hc) E9 rfl (hI.kblk (l:=[vs a1 e1.Lin.L.length c1]) .z rfl).1)) ?_
 refine aH (iC rfl rfl rfl rfl) rfl (λhc=>oZ rfl E9 (aU et hc)) ?_
 refine aH (iC rfl rfl rfl rfl) rfl (λhc=>um rfl (aU et hc) ao) ?_
 refine aH (bg rfl rfl rfl rfl) rfl (λhc=>BU rfl hc et et) ?_
 refine sq (un rfl et et) ?_
 refine sm ?_
 refine aH (bV rfl rfl rfl rfl) rfl (λhc=>aP rfl et mD rfl jP rfl) ?_
 refine aH (bV rfl rfl rfl rfl) rfl (λhc=>(ba (v:=(vi e1.Op)) rfl (aU et hc) u3 rfl (hI.kblk (l:=[vi e1.Op]) .z rfl).1)) ?_
 refine aH (bV rfl rfl rfl rfl) rfl (λhc=>py rfl (aU et hc) ao) ?_
 refine aH (bV rfl rfl rfl rfl) rfl (λhc=>gp rfl (aU et hc)) ?_
 refine aH (iA rfl rfl rfl rfl) rfl (λhc=>aP rfl et mD rfl pO rfl) ?_
 refine aH (iA rfl rfl rfl rfl) rfl (λhc=>(ba (v:=(aT e1.Name)) rfl (aU et hc) u9 rfl (hI.kblk (l:=[(aT e1.Name)]) .z rfl).1)) ?_
 refine aH (iA rfl rfl rfl rfl) rfl (λhc=>Ek rfl (aU et hc) ao) ?_
 refine aH (iA rfl rfl rfl rfl) rfl (λhc=>gp rfl (aU et hc)) ?_
 refine aH (iC rfl rfl rfl rfl) rfl (λhc=>aP rfl et mD rfl ve rfl) ?_
 refine aH (iC rfl rfl rfl rfl) rfl (λhc=>(ba (v:=(vs a2 e1.Idx.length c2)) rfl (aU et hc) Dh rfl (hI.kblk (l:=[vs a2 e1.Idx.length c2]) .z rfl).1)) ?_
 refine aH (iC rfl rfl rfl rfl) rfl (λhc=>oZ rfl Dh (aU et hc)) ?_
 refine aH (iC rfl rfl rfl rfl) rfl (λhc=>um rfl (aU et hc) ao) ?_
 refine aH (iA rfl rfl rfl rfl) rfl (λhc=>BU rfl hc et et) ?_
 refine aH (bV rfl rfl rfl rfl) rfl (λhc=>xN rfl hc et et) ?_
 refine sq (As rfl et et) ?_
 refine aO ?_
 refine pc (e:=[(1,vp b1 0),(69,(vb (((!decide (e1.Op=2))&&((!decide (e1.Lin.K=0))||(decide (0<(e1.Lin.L.length:Int)))))||((!decide (e1.Op=3))&&((!decide (e1.Name=([]:List UInt8)))||(decide (0<(e1.Idx.length:Int))))))))]) SB ?_
 refine TC (λhb h=>?_) λhb h=>?_
 ·refine sr (tV ?_)
  refine nk (aF ?_)
  obtain rfl:=ak h
  exact fY (vs:=[vb false]) Tryz.results162 ⟨aR rfl rfl,ah⟩ (fq hI ah)
 refine bl (bh (al (sr (tV ?_))))
 refine nk (oR (bs (α:=Nat×Int) (λx=>λw=>∃ C,Bun du F w0 C w [] [Cl.blk b1 39 (aI e1 a1 c1 a2 c2 a3 c3),LT aj a1 c1 e1.Lin.L,LT an a2 c2 e1.Idx,LT ap a3 c3 e1.Args]∧fR e1 (x.1) (x.2)=some r) (λx _=>x.1) (λx=>[(1,vp b1 0),(3,vi (x.2))]) (fu,0) BH SB ?_))
 clear h hI;rintro⟨fuel1,i1⟩ w2 ⟨c6,hI,h⟩
 dsimp only at hI h ⊢
 rcases fuel1 with _ | fuel1
 ·rw[fR]at h;cases h
 rw[fR]at h
 refine al (sr (sm ?_))
 refine sq (aP rfl et mD rfl ve rfl) ?_
 refine sq (ba (v:=(vs a2 e1.Idx.length c2)) rfl et Dh rfl (hI.kblk (l:=[vs a2 e1.Idx.length c2]) .z rfl).1) ?_
 refine sq (oZ rfl Dh et) ?_
 refine sq (sX rfl et et) ?_
 refine TC (λhb h=>?_) λhb h=>?_
 ·refine bl (bh (al (oR (sr (sq (aP rfl et mD rfl ve rfl) ?_)))))
  refine sq (ba (v:=(vs a2 e1.Idx.length c2)) rfl et Dh rfl (hI.kblk (l:=[vs a2 e1.Idx.length c2]) .z rfl).1) ?_
  refine sm ?_
  obtain⟨e2,hx1,h⟩:=ae h
  obtain⟨ad1,cs1,hA1,hr1,hq1⟩:=hI.clat .p2 hx1
  obtain⟨a4,c7,a5,c8,rfl,hf1,hf2⟩:=hr1
  have hI:=hI.ads hf1
  have hI:=hI.ads hf2
  refine sq (jz rfl Dh qh et et (qm hx1) hA1) ?_
  refine sq (am (l:=(tr e2 a4 c7 a5 c8)) rfl et wY rfl qh hq1.1) ?_
  refine lN λb2 c9 w3 hI=>?_
  refine lA λc10 w4 hI=>?_
  refine nk (sr (sq (aP rfl et wY rfl pO rfl) ?_))
  refine sq (ba (v:=(aT e2.From)) rfl et u9 rfl (LU (hI.blk .z) rfl)) ?_
  refine sq (Gh rfl et ao) ?_
  refine sm ?_
  refine aH (bg rfl rfl rfl rfl) rfl (λhc=>aP rfl et wY rfl Er rfl) ?_
  refine aH (bg rfl rfl rfl rfl) rfl (λhc=>(ba (v:=(vs a5 e2.At.length c8)) rfl (aU et hc) IQ rfl (LU (hI.blk .z) rfl))) ?_
  refine aH (bg rfl rfl rfl rfl) rfl (λhc=>oZ rfl IQ (aU et hc)) ?_
  refine aH (bg rfl rfl rfl rfl) rfl (λhc=>um rfl (aU et hc) ao) ?_
  refine sq (un rfl et et) ?_
  refine sm ?_
  refine aH (bV rfl rfl rfl rfl) rfl (λhc=>aP rfl et wY rfl pO rfl) ?_
  refine aH (bV rfl rfl rfl rfl) rfl (λhc=>(ba (v:=(aT e2.From)) rfl (aU et hc) u9 rfl (LU (hI.blk .z) rfl))) ?_
  refine aH (bV rfl rfl rfl rfl) rfl (λhc=>Ek rfl (aU et hc) ao) ?_
  refine aH (bV rfl rfl rfl rfl) rfl (λhc=>gp rfl (aU et hc)) ?_
  refine aH (iA rfl rfl rfl rfl) rfl (λhc=>aP rfl et wY rfl bt rfl) ?_
  refine aH (iA rfl rfl rfl rfl) rfl (λhc=>aP rfl (aU et hc) pk rfl Gv rfl) ?_
  refine aH (iA rfl rfl rfl rfl) rfl (λhc=>(ba (v:=(vi e2.Lin.K)) rfl (aU et hc) u2 rfl (LU (hI.blk .z) rfl))) ?_
  refine aH (iA rfl rfl rfl rfl) rfl (λhc=>py rfl (aU et hc) ao) ?_
  refine aH (iA rfl rfl rfl rfl) rfl (λhc=>gp rfl (aU et hc)) ?_
  refine aH (iC rfl rfl rfl rfl) rfl (λhc=>aP rfl et wY rfl bt rfl) ?_
  refine aH (iC rfl rfl rfl rfl) rfl (λhc=>aP rfl (aU et hc) pk rfl Es rfl) ?_
  refine aH (iC rfl rfl rfl rfl) rfl (λhc=>(ba (v:=(vs a4 e2.Lin.L.length c7)) rfl (aU et hc) E9 rfl (LU (hI.blk .z) rfl))) ?_
  refine aH (iC rfl rfl rfl rfl) rfl (λhc=>oZ rfl E9 (aU et hc)) ?_
  refine aH (iC rfl rfl rfl rfl) rfl (λhc=>um rfl (aU et hc) ao) ?_
  refine aH (iA rfl rfl rfl rfl) rfl (λhc=>BU rfl hc et et) ?_
  refine aH (bV rfl rfl rfl rfl) rfl (λhc=>xN rfl hc et et) ?_
  refine sq (As rfl et et) ?_
  refine aO ?_
  refine pc (e:=[(1,vp b1 0),(3,vi i1),(108,(vb (((decide (e2.From=([]:List UInt8)))&&(decide (0<(e2.At.length:Int))))||((!decide (e2.From=([]:List UInt8)))&&((!decide (e2.Lin.K=0))||(decide (0<(e2.Lin.L.length:Int))))))))]) SB ?_
  refine TC (λhb h=>?_) λhb h=>?_
  ·refine sr (tV ?_)
   refine nk (aF ?_)
   obtain rfl:=ak h
   exact fY (vs:=[vb false]) Tryz.results162 ⟨aR rfl rfl,ah⟩ (fq hI ah)
  refine bl (bh (jX rfl ?_))
  refine sm ?_
  refine sq (sv rfl et ao) ?_
  refine sa ?_
  refine aO ?_
  exact kl (fuel1,au (i1+1))
 refine bv ?_
 refine fi ?_
 refine bh (sr (tV ?_))
 refine nk (aF ?_)
 obtain rfl:=ak h
 exact fY (vs:=[vb true]) Tryz.results162 ⟨aR rfl rfl,ah⟩ (fq hI ah)
theorem zx (hF:dK F w0) {e1:GExpr} (hc:AllCl [LT aj a1 c1 e1.Lin.L,LT an a2 c2 e1.Idx,LT ap a3 c3 e1.Args] F w0) {r:Bool} (h:nH e1=some r):CR F w0 163 #[(Value.agg (aI e1 a1 c1 a2 c2 a3 c3))] (vb r) []:=by
 refine EN Tryz.func163 Tryz.ntmps163 hF hc λhI=>?_
 rw[nH]at h
 refine sr (lX λb1 c5 w1 hI=>?_)
 refine T ?_
 refine al (T ?_)
 obtain⟨r1,hx1,h⟩:=ae h
 replace hx1:=ay hx1
 refine sU (λhc=>pM hI.lt trivial (hx1 hc)) (Rg Tryz.func61) λw2 hI=>?_
 refine TR λhb h=>?_
 refine T ?_
 refine al (T ?_)
 refine bs (α:=Nat×Int) (λx=>λw=>∃ C,Bun du F w0 C w [] [Cl.blk b1 39 (aI e1 a1 c1 a2 c2 a3 c3),LT aj a1 c1 e1.Lin.L,LT an a2 c2 e1.Idx,LT ap a3 c3 e1.Args]∧fS e1 (x.1) (x.2)=some r) (λx _=>x.1) (λx=>[(1,vp b1 0),(3,vi (x.2))]) (fu,0) BH SB ?_
 clear h hI;rintro⟨fuel1,i1⟩ w3 ⟨c6,hI,h⟩
 dsimp only at hI h ⊢
 rcases fuel1 with _ | fuel1
 ·rw[fS]at h;cases h
 rw[fS]at h
 refine al (T ?_)
 refine TC (λhb h=>?_) λhb h=>?_
 ·refine T ?_
  refine al (T ?_)
  obtain⟨e2,hx3,h⟩:=ae h
  obtain⟨ad1,cs1,hA1,hr1,hq1⟩:=hI.clat .p2 hx3
  obtain⟨a4,c7,a5,c8,rfl,hf1,hf2⟩:=hr1
  have hI:=hI.ads hf1
  have hI:=hI.ads hf2
  refine sI ?_
  refine T ?_
  obtain⟨e3,hx4,h⟩:=ae h
  replace hx4:=ay hx4
  obtain⟨ad2,cs2,hq2⟩:=hI.gclat .p4 hx4
  obtain⟨a6,c9,a7,c10,hq3⟩:∃ (a6:Option Addr) (c9:Nat) (a7:Option Addr) (c10:Nat),(!decide (e2.From=([]:List UInt8)))=true→(a2=some ad2∧cs2=(tr e3 a6 c9 a7 c10)∧CA (Dj F c6) w3 (ad2.add (Int.toNat i1 * 4)) cs2∧SlC aj (Dj F c6) w3 a6 c9 e3.Lin.L∧SlC dQ (Dj F c6) w3 a7 c10 e3.At):=by
   by_cases hc:(!decide (e2.From=([]:List UInt8)))=true
   ·obtain⟨k1,k2,k3⟩:=hq2 hc;obtain⟨a6,c9,a7,c10,rfl,hf3,hf4⟩:=k2;exact⟨a6,c9,a7,c10,λ_=>⟨k1,rfl,k3,hf3,hf4⟩⟩
   exact⟨default,default,default,default,λk=>absurd k hc⟩
  clear hq2
  have hI:=hI.add (c:=L1 (!decide (e2.From=([]:List UInt8))) aj a6 c9 e3.Lin.L) (λhc=>(hq3 hc).2.2.2.1)
  have hI:=hI.add (c:=L1 (!decide (e2.From=([]:List UInt8))) dQ a7 c10 e3.At) (λhc=>(hq3 hc).2.2.2.2)
  have hq4:(!decide (e2.From=([]:List UInt8)))=true→CA (Dj F c6) w3 (ad2.add (Int.toNat i1 * 4)) (tr e3 a6 c9 a7 c10):=λhc=>sW (hq3 hc).2.1 (hq3 hc).2.2.1
  refine sJ ?_
  refine T ?_
  obtain⟨r2,hx5,h⟩:=ae h
  replace hx5:=ay hx5
  refine sU (λhc=>pM hI.lt trivial (hx5 hc)) (Rg Tryz.func61) λw4 hI=>?_
  refine TR λhb h=>?_
  refine T ?_
  refine aO ?_
  exact kl (fuel1,au (i1+1))
 refine bv ?_
 refine fi ?_
 refine bh ?_
 exact RF
theorem Br (hF:dK F w0) {op1:Int} (hc:AllCl [] F w0) {r:Int} (h:ow op1=some r):CR F w0 212 #[vi op1] (vi r) []:=by
 refine EN Tryz.func212 Tryz.ntmps212 hF hc λhI=>?_
 rw[ow]at h
 refine T ?_
 refine al (T ?_)
 refine bM (α:=Bool) (λ_=>⟨14,[]⟩) (λx=>[(3,vi op1),(4,vb x)]) (λx=>λw=>∃ C,Bun du F w0 C w [] []∧j8 op1 x=some r) ?_ ?_
 ·clear h hI;rintro i1 w1 ⟨c1,hI,h⟩
  try dsimp only at hI h ⊢
  rw[j8]at h
  refine TR λhb h=>?_
  refine bM (α:=Bool) (λ_=>⟨14,[]⟩) (λx=>[(3,vi op1),(8,vb x)]) (λx=>λw=>∃ C,Bun du F w0 C w [] []∧j7 op1 x=some r) ?_ ?_
  ·clear h hI;rintro i2 w2 ⟨c2,hI,h⟩
   try dsimp only at hI h ⊢
   rw[j7]at h
   refine TR λhb h=>?_
   refine TR λhb h=>?_
   exact RF
  refine TC (λhb h=>?_) λhb h=>?_
  ·exact bl (bu (decide (op1=8)) SB BH rfl)
  refine TC (λhb h=>?_) λhb h=>?_
  ·exact bl (bu (decide (op1=12)) SB BH rfl)
  refine T ?_
  refine aO ?_
  exact kj (decide (op1=18))
 refine TC (λhb h=>?_) λhb h=>?_
 ·exact bl (bu (decide (op1=1)) SB BH rfl)
 refine TC (λhb h=>?_) λhb h=>?_
 ·exact bl (bu (decide (op1=2)) SB BH rfl)
 refine T ?_
 refine aO ?_
 exact kj (decide (op1=3))
theorem yM (hF:dK F w0) {e1:GExpr} (hc:AllCl [LT aj a1 c1 e1.Lin.L,LT an a2 c2 e1.Idx,LT ap a3 c3 e1.Args] F w0) {r:Bool} (h:mJ e1=some r):CR F w0 164 #[(Value.agg (aI e1 a1 c1 a2 c2 a3 c3))] (vb r) []:=by
 refine EN Tryz.func164 Tryz.ntmps164 hF hc λhI=>?_
 rw[mJ]at h
 refine sr (lX λb1 c5 w1 hI=>?_)
 refine T ?_
 refine al (al (aJ [] false (.c (0,.q) (.c (1,.q) (.c (2,.q) (.c (3,.q) (.c (4,.q) (.c (5,.s) (.c (6,.q) (.c (7,.q) (.c (8,.q) (.c (9,.q) (.c (10,.q) (.c (11,.q) (.c (12,.q) .n))))))))))))) hI (by kernel_rfl) (by kernel_rfl) ?_))
 intro w2 hI
 refine V ?_
 obtain⟨r1,hx1,h⟩:=ae h
 refine dk rfl gn rfl (aD (vs:=[vi e1.Op]) rfl JK ⟨et,ah⟩) (Calls.mono (Br hI.lt ah hx1) ?_)
 rintro _ w3 ⟨rfl,hx2,hl1⟩
 refine⟨_,rfl,hx2,?_⟩
 replace hI:=(hI.ext hx2)
 refine V ?_
 refine TR λhb h=>?_
 refine T ?_
 refine al (T ?_)
 refine bs (α:=Nat×Int) (λx=>λw=>∃ C,Bun du F w0 C w [] [Cl.blk b1 39 (aI e1 a1 c1 a2 c2 a3 c3),LT aj a1 c1 e1.Lin.L,LT an a2 c2 e1.Idx,LT ap a3 c3 e1.Args]∧fv e1 (x.1) (x.2)=some r) (λx _=>x.1) (λx=>[(1,vp b1 0),(3,vi (x.2))]) (fu,0) BH SB ?_
 clear h hI;rintro⟨fuel1,i1⟩ w4 ⟨c6,hI,h⟩
 dsimp only at hI h ⊢
 rcases fuel1 with _ | fuel1
 ·rw[fv]at h;cases h
 rw[fv]at h
 refine al (T ?_)
 refine TC (λhb h=>?_) λhb h=>?_
 ·refine T ?_
  refine al (T ?_)
  obtain⟨e2,hx3,h⟩:=ae h
  obtain⟨ad1,cs1,hA1,hr1,hq1⟩:=hI.clat .p2 hx3
  obtain⟨a4,c7,a5,c8,rfl,hf1,hf2⟩:=hr1
  have hI:=hI.ads hf1
  have hI:=hI.ads hf2
  refine sI ?_
  refine TR λhb h=>?_
  refine T ?_
  refine aO ?_
  exact kl (fuel1,au (i1+1))
 refine bv ?_
 refine fi ?_
 refine bh ?_
 exact RF
theorem ug (hF:dK F w0) {e1:GExpr} (hc:AllCl [LT aj a1 c1 e1.Lin.L,LT an a2 c2 e1.Idx,LT ap a3 c3 e1.Args] F w0) {r:Bool} (h:kN e1=some r):CR F w0 213 #[(Value.agg (aI e1 a1 c1 a2 c2 a3 c3))] (vb r) []:=by
 refine EN Tryz.func213 Tryz.ntmps213 hF hc λhI=>?_
 rw[kN]at h
 refine sr (lX λb1 c5 w1 hI=>?_)
 exact RF
theorem zt (hF:dK F w0) {op1 at1:Int} (hc:AllCl [] F w0) {r:Bool} (h:nD op1 at1=some r):CR F w0 214 #[vi op1,vi at1] (vb r) []:=by
 refine EN Tryz.func214 Tryz.ntmps214 hF hc λhI=>?_
 rw[nD]at h
 exact RF
theorem zu (hF:dK F w0) {e1:GExpr} (hc:AllCl [LT aj a1 c1 e1.Lin.L,LT an a2 c2 e1.Idx,LT ap a3 c3 e1.Args] F w0) {r:Bool} (h:nF e1=some r):CR F w0 165 #[(Value.agg (aI e1 a1 c1 a2 c2 a3 c3))] (vb r) []:=by
 refine EN Tryz.func165 Tryz.ntmps165 hF hc λhI=>?_
 rw[nF]at h
 refine sr (lX λb1 c5 w1 hI=>?_)
 refine T ?_
 refine al (T ?_)
 refine aH (bg rfl rfl rfl rfl) rfl (λhc=>(am (l:=(cU e1.Type_)) rfl (aU et hc) qQ rfl bX (hI.kblk (l:=(cU e1.Type_)) .z rfl).1)) ?_
 obtain⟨r1,hx1,h⟩:=ae h
 replace hx1:=ay hx1
 refine sU (λhc=>tM hI.lt trivial (hx1 hc)) (Rg Tryz.func62) λw2 hI=>?_
 refine TR λhb h=>?_
 refine T ?_
 refine al (T ?_)
 refine bs (α:=Nat×Int) (λx=>λw=>∃ C,Bun du F w0 C w [] [Cl.blk b1 39 (aI e1 a1 c1 a2 c2 a3 c3),LT aj a1 c1 e1.Lin.L,LT an a2 c2 e1.Idx,LT ap a3 c3 e1.Args]∧fQ e1 (x.1) (x.2)=some r) (λx _=>x.1) (λx=>[(1,vp b1 0),(3,vi (x.2))]) (fu,0) BH SB ?_
 clear h hI;rintro⟨fuel1,i1⟩ w3 ⟨c6,hI,h⟩
 dsimp only at hI h ⊢
 rcases fuel1 with _ | fuel1
 ·rw[fQ]at h;cases h
 rw[fQ]at h
 refine al (T ?_)
 refine TC (λhb h=>?_) λhb h=>?_
 ·refine T ?_
  refine al (T ?_)
  refine al (aJ [] false (.c (0,.q) (.c (1,.q) (.c (2,.q) (.c (3,.q) (.c (4,.q) (.c (6,.q) (.c (7,.q) (.c (8,.q) (.c (5,.s) (.c (9,.s) (.c (10,.q) .n))))))))))) hI (by kernel_rfl) (by kernel_rfl) ?_)
  intro w4 hI
  refine V ?_
  obtain⟨e2,hx3,h⟩:=ae h
  obtain⟨ad1,cs1,hA1,hr1,hq1⟩:=hI.clat .p3 hx3
  obtain⟨a4,c7,a5,c8,a6,c9,rfl,hf1,hf2,hf3⟩:=jm hr1
  have hI:=hI.ads hf1
  have hI:=hI.ads hf2
  have hI:=hI.ads hf3
  refine vI ?_
  refine bR rfl gn rfl (λw' hw'=>(am (l:=(bz e2 a4 c7 a5 c8 a6 c9)) rfl et mD rfl aS (hq1.at_ (SX.any rfl hw')))) (by kernel_rfl) ?_
  refine V ?_
  obtain⟨r2,hx4,h⟩:=ae h
  refine dk rfl gn rfl (aD (vs:=[(Value.agg (aI e2 a4 c7 a5 c8 a6 c9))]) rfl JJ ⟨et,ah⟩) (Calls.mono (ug hI.lt FS hx4) ?_)
  rintro _ w5 ⟨rfl,hx5,hl2⟩
  refine⟨_,rfl,hx5,?_⟩
  replace hI:=(hI.ext hx5)
  obtain⟨r3,hx6,h⟩:=ae h
  refine dk rfl gn rfl (aD (vs:=[vi e1.Op,vi i1]) rfl JI ⟨et,et,ah⟩) (Calls.mono (zt hI.lt ah hx6) ?_)
  rintro _ w6 ⟨rfl,hx7,hl3⟩
  refine⟨_,rfl,hx7,?_⟩
  replace hI:=(hI.ext hx7)
  refine nv rfl gn rfl (λw'=>Gb rfl u4 et et) ?_
  refine V ?_
  refine TR λhb h=>?_
  refine T ?_
  refine aO ?_
  exact kl (fuel1,au (i1+1))
 refine bv ?_
 refine fi ?_
 refine bh ?_
 exact RF
theorem yP (hF:dK F w0) {e1:GExpr} (hc:AllCl [LT aj a1 c1 e1.Lin.L,LT an a2 c2 e1.Idx,LT ap a3 c3 e1.Args] F w0) {r:Bool} (h:mL e1=some r):CR F w0 166 #[(Value.agg (aI e1 a1 c1 a2 c2 a3 c3))] (vb r) []:=by
 refine EN Tryz.func166 Tryz.ntmps166 hF hc λhI=>?_
 rw[mL]at h
 refine sr (lX λb1 c5 w1 hI=>?_)
 refine T ?_
 refine al (T ?_)
 refine aH (bg rfl rfl rfl rfl) rfl (λhc=>(am (l:=(cU e1.Type_)) rfl (aU et hc) qQ rfl bX (hI.kblk (l:=(cU e1.Type_)) .z rfl).1)) ?_
 refine T ?_
 refine aH (bg rfl rfl rfl rfl) rfl (λhc=>(am (l:=(sR e1.Val)) rfl (aU et hc) HM rfl oe (hI.kblk (l:=(sR e1.Val)) .z rfl).1)) ?_
 obtain⟨r1,hx1,h⟩:=ae h
 replace hx1:=ay hx1
 refine sU (λhc=>yZ hI.lt trivial (hx1 hc)) (Rg Tryz.func215) λw2 hI=>?_
 refine T ?_
 refine aH (bV rfl rfl rfl rfl) rfl (λhc=>(am (l:=(fI e1.Lin a1 c1)) rfl (aU et hc) pk rfl bt (hI.kblk (l:=(fI e1.Lin a1 c1)) .z rfl).1)) ?_
 obtain⟨r2,hx3,h⟩:=ae h
 replace hx3:=ay hx3
 refine sU (λhc=>nU hI.lt FS (hx3 hc)) (Rg Tryz.func114) λw3 hI=>?_
 refine TR λhb h=>?_
 refine T ?_
 refine al (T ?_)
 refine bs (α:=Nat×Int) (λx=>λw=>∃ C,Bun du F w0 C w [] [Cl.blk b1 39 (aI e1 a1 c1 a2 c2 a3 c3),LT aj a1 c1 e1.Lin.L,LT an a2 c2 e1.Idx,LT ap a3 c3 e1.Args]∧ck e1 (x.1) (x.2)=some r) (λx _=>x.1) (λx=>[(1,vp b1 0),(3,vi (x.2))]) (fu,0) BH SB ?_
 clear h hI;rintro⟨fuel1,i1⟩ w4 ⟨c6,hI,h⟩
 dsimp only at hI h ⊢
 rcases fuel1 with _ | fuel1
 ·rw[ck]at h;cases h
 rw[ck]at h
 refine al (T ?_)
 refine TC (λhb h=>?_) λhb h=>?_
 ·refine T ?_
  refine bM (α:=Unit) (λ_=>⟨59,[]⟩) (λ_=>[(1,vp b1 0),(3,vi i1)]) (λ_=>λw=>∃ C,Bun du F w0 C w [] [Cl.blk b1 39 (aI e1 a1 c1 a2 c2 a3 c3),LT aj a1 c1 e1.Lin.L,LT an a2 c2 e1.Idx,LT ap a3 c3 e1.Args]∧mw (ck e1 fuel1) i1=some r) ?_ ?_
  ·clear h hI;rintro _ w5 ⟨c7,hI,h⟩
   try dsimp only at hI h ⊢
   rw[mw]at h
   refine T ?_
   refine aO ?_
   exact kl (fuel1,au (i1+1))
  refine T ?_
  refine al (T ?_)
  obtain⟨e2,hx5,h⟩:=ae h
  obtain⟨ad1,cs1,hA1,hr1,hq1⟩:=hI.clat .p2 hx5
  obtain⟨a4,c8,a5,c9,rfl,hf1,hf2⟩:=hr1
  have hI:=hI.ads hf1
  have hI:=hI.ads hf2
  refine sI ?_
  refine T ?_
  refine sq (am (l:=(fI e2.Lin a4 c8)) rfl et pk rfl bt (CA.part hq1 rfl).1) ?_
  refine sB h (λ_ k=>nU hI.lt FS k) (Rc Tryz.func114) λr3 w6 h hI=>?_
  refine TR λhb h=>?_
  refine T ?_
  refine bs (α:=Nat×Int) (λx=>λw=>∃ C,Bun du F w0 C w [] [Cl.blk b1 39 (aI e1 a1 c1 a2 c2 a3 c3),LT aj a1 c1 e1.Lin.L,LT an a2 c2 e1.Idx,LT ap a3 c3 e1.Args]∧fw e1 i1 (ck e1 fuel1) (x.1) (x.2)=some r) (λx _=>x.1) (λx=>[(1,vp b1 0),(3,vi i1),(4,vi (x.2))]) (fu,0) BH SB ?_
  clear h hI;rintro⟨fuel2,k1⟩ w7 ⟨c10,hI,h⟩
  dsimp only at hI h ⊢
  rcases fuel2 with _ | fuel2
  ·rw[fw]at h;cases h
  rw[fw]at h
  refine al (T ?_)
  obtain⟨e3,hx8,h⟩:=ae h
  obtain⟨ad2,cs2,hA2,hr2,hq2⟩:=hI.clat .p2 hx8
  obtain⟨a6,c11,a7,c12,rfl,hf3,hf4⟩:=hr2
  have hI:=hI.ads hf3
  have hI:=hI.ads hf4
  refine sI ?_
  refine TC (λhb h=>?_) λhb h=>?_
  ·refine T ?_
   refine al (T ?_)
   obtain⟨e4,hx9,h⟩:=ae h
   obtain⟨ad3,cs3,hA3,hr3,hq3⟩:=hI.clat .p4 hx9
   obtain⟨a8,c13,a9,c14,rfl,hf5,hf6⟩:=hr3
   have hI:=hI.ads hf5
   have hI:=hI.ads hf6
   refine sI ?_
   refine T ?_
   obtain⟨e5,hx10,h⟩:=ae h
   obtain⟨ad4,cs4,hA4,hr4,hq4⟩:=hI.clat .z hx10
   obtain⟨a10,c15,rfl,hf7⟩:=hr4
   have hI:=hI.ads hf7
   refine sI ?_
   refine T ?_
   refine sB h (λ_ k=>nU hI.lt FS k) (Rc Tryz.func114) λr4 w8 h hI=>?_
   refine TR λhb h=>?_
   refine T ?_
   refine aO ?_
   exact kl (fuel2,au (k1+1))
  refine bv ?_
  refine fi ?_
  exact kj ()
 refine bv ?_
 refine fi ?_
 refine bh ?_
 exact RF
abbrev Kw (f_:(GExpr→Option Int)):Prop:=∀ ⦃F:NP⦄ ⦃w0:World⦄ (hF:dK F w0) ⦃e1:GExpr⦄ ⦃a1 a2 a3:Option Addr⦄ ⦃c1 c2 c3:Nat⦄ (hc:AllCl [LT aj a1 c1 e1.Lin.L,LT an a2 c2 e1.Idx,LT ap a3 c3 e1.Args] F w0) ⦃r:Int⦄ (h:f_ e1=some r),CR F w0 87 #[(Value.agg (aI e1 a1 c1 a2 c2 a3 c3))] (vi r) []
theorem yO {rec_:(GExpr→Option Int)} (hrec:Kw rec_) (hF:dK F w0) {e1:GExpr} (hc:AllCl [LT aj a1 c1 e1.Lin.L,LT an a2 c2 e1.Idx,LT ap a3 c3 e1.Args] F w0) {r:Int} (h:mK rec_ e1=some r):CR F w0 87 #[(Value.agg (aI e1 a1 c1 a2 c2 a3 c3))] (vi r) []:=by
 refine EN Tryz.func87 Tryz.ntmps87 hF hc λhI=>?_
 rw[mK]at h
 refine sr (lX λb1 c5 w1 hI=>?_)
 refine T ?_
 refine al (T ?_)
 refine sq (am (l:=(bz e1 a1 c1 a2 c2 a3 c3)) rfl et mD rfl aS (hI.kblk (l:=(bz e1 a1 c1 a2 c2 a3 c3)) .z rfl).1) ?_
 refine sB h (λ_ k=>zw hI.lt FS k) (Rc Tryz.func162) λr1 w2 h hI=>?_
 refine TR λhb h=>?_
 refine sr (sq (am (l:=(bz e1 a1 c1 a2 c2 a3 c3)) rfl et mD rfl aS (hI.kblk (l:=(bz e1 a1 c1 a2 c2 a3 c3)) .z rfl).1) ?_)
 refine sB h (λ_ k=>zx hI.lt FS k) (Rc Tryz.func163) λr2 w3 h hI=>?_
 refine TR λhb h=>?_
 refine sr (sq (am (l:=(bz e1 a1 c1 a2 c2 a3 c3)) rfl et mD rfl aS (hI.kblk (l:=(bz e1 a1 c1 a2 c2 a3 c3)) .z rfl).1) ?_)
 refine sB h (λ_ k=>yM hI.lt FS k) (Rc Tryz.func164) λr3 w4 h hI=>?_
 refine TR λhb h=>?_
 refine sr (sq (am (l:=(bz e1 a1 c1 a2 c2 a3 c3)) rfl et mD rfl aS (hI.kblk (l:=(bz e1 a1 c1 a2 c2 a3 c3)) .z rfl).1) ?_)
 refine sB h (λ_ k=>zu hI.lt FS k) (Rc Tryz.func165) λr4 w5 h hI=>?_
 refine TR λhb h=>?_
 refine sr (sq (am (l:=(bz e1 a1 c1 a2 c2 a3 c3)) rfl et mD rfl aS (hI.kblk (l:=(bz e1 a1 c1 a2 c2 a3 c3)) .z rfl).1) ?_)
 refine sB h (λ_ k=>yP hI.lt FS k) (Rc Tryz.func166) λr5 w6 h hI=>?_
 refine TR λhb h=>?_
 refine T ?_
 refine al (T ?_)
 refine bs (α:=Nat×Int) (λx=>λw=>∃ C,Bun du F w0 C w [] [Cl.blk b1 39 (aI e1 a1 c1 a2 c2 a3 c3),LT aj a1 c1 e1.Lin.L,LT an a2 c2 e1.Idx,LT ap a3 c3 e1.Args]∧ir e1 rec_ (x.1) (x.2)=some r) (λx _=>x.1) (λx=>[(1,vp b1 0),(3,vi (x.2))]) (fu,0) BH SB ?_
 clear h hI;rintro⟨fuel1,i1⟩ w7 ⟨c6,hI,h⟩
 dsimp only at hI h ⊢
 rcases fuel1 with _ | fuel1
 ·rw[ir]at h;cases h
 rw[ir]at h
 refine al (T ?_)
 refine TC (λhb h=>?_) λhb h=>?_
 ·refine T ?_
  refine al (T ?_)
  obtain⟨e2,hx11,h⟩:=ae h
  obtain⟨ad1,cs1,hA1,hr1,hq1⟩:=hI.clat .p3 hx11
  obtain⟨a4,c7,a5,c8,a6,c9,rfl,hf1,hf2,hf3⟩:=jm hr1
  have hI:=hI.ads hf1
  have hI:=hI.ads hf2
  have hI:=hI.ads hf3
  refine sI ?_
  refine T ?_
  refine sB h (λ_ k=>hrec hI.lt FS k) (Rc Tryz.func87) λr6 w8 h hI=>?_
  refine TR λhb h=>?_
  refine T ?_
  refine aO ?_
  exact kl (fuel1,au (i1+1))
 refine bv ?_
 refine fi ?_
 refine bh ?_
 exact RF
theorem yN (n:Nat):Kw (kS n):=by
 induction n with
 | zero=>intro F;intros;rename_i h;cases h
 | succ n ih=>intro F;intros;apply yO ih<;>assumption
theorem Bq:Kw (rO):=yN fu
theorem wt (hF:dK F w0) {e1:GExpr} (hc:AllCl [LT aj a1 c1 e1.Lin.L,LT an a2 c2 e1.Idx,LT ap a3 c3 e1.Args] F w0) {r:Int} (h:kT e1=some r):CR F w0 44 #[(Value.agg (aI e1 a1 c1 a2 c2 a3 c3))] (vi r) []:=by
 refine EN Tryz.func44 Tryz.ntmps44 hF hc λhI=>?_
 rw[kT]at h
 refine sr (lX λb1 c5 w1 hI=>?_)
 refine T ?_
 refine al (sr (sq (am (l:=(bz e1 a1 c1 a2 c2 a3 c3)) rfl et mD rfl aS (hI.kblk (l:=(bz e1 a1 c1 a2 c2 a3 c3)) .z rfl).1) ?_))
 refine sB h (λ_ k=>zz hI.lt FS k) (Rc Tryz.func85) λr1 w2 h hI=>?_
 refine TR λhb h=>?_
 refine T ?_
 refine al (sr (sq (am (l:=(bz e1 a1 c1 a2 c2 a3 c3)) rfl et mD rfl aS (hI.kblk (l:=(bz e1 a1 c1 a2 c2 a3 c3)) .z rfl).1) ?_))
 refine sB h (λ_ k=>Bs hI.lt FS k) (Rc Tryz.func86) λr2 w3 h hI=>?_
 refine TR λhb h=>?_
 refine T ?_
 refine sq (am (l:=(bz e1 a1 c1 a2 c2 a3 c3)) rfl et mD rfl aS (hI.kblk (l:=(bz e1 a1 c1 a2 c2 a3 c3)) .z rfl).1) ?_
 refine sB h (λ_ k=>Bq hI.lt FS k) (Rc Tryz.func87) λr3 w4 h hI=>?_
 exact RF
end Go.Proofs.YtmhoikfoogemnaaGreatDoor
