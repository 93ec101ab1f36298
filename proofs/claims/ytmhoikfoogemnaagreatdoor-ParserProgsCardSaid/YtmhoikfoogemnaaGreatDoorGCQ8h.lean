import Derived.Test.YtmhoikfoogemnaaGreatDoorGCQ8g
import Derived.Test.YtmhoikfoogemnaaGreatDoorGLfH
namespace Go.Proofs.YtmhoikfoogemnaaGreatDoor
open Go Go.RowKit Go.Vc
set_option maxRecDepth 100000
set_option maxHeartbeats 4000000
set_option linter.unusedVariables false
set_option linter.unusedSimpArgs false
def i8:Tr:=(.c (3,.s) .n)
def i7:Tr:=(.c (3,.s) .n)
def i6:Tr:=(.c (3,.s) .n)
variable {σ:Type} {C0 F:NP} {w0:World} {a1 a2 a3 a4 a5 a6 a7 a8 a9 a10 a11 a12:Option Addr} {b1 b2 b3 b4 b5 b6 b7 b8 b9 b10 b11 b12 c1 c2 c3 c4 c5 c6 c7 c8 c9 c10 c11 c12:Nat}
theorem uZ (hF:dK F w0) {p1:ab} (hc:AllCl [LT af a1 c1 p1.L] F w0) {r:GExpr×ab} (h:iF p1=some r):Cg 36 #[(Value.agg (ac p1 a1 c1))] w0 λe w=>∃ a2 c2 a3 c3 a4 c4 a5 c5,e= .returned (Value.tuple #[(Value.agg (aI r.1 a2 c2 a3 c3 a4 c4)),(Value.agg (ac r.2 a5 c5))])∧Ext w0 w∧AllCl [LT aj a2 c2 r.1.Lin.L,LT an a3 c3 r.1.Idx,LT ap a4 c4 r.1.Args,LT af a5 c5 r.2.L] F w:=by
 refine EN Tryz.func36 Tryz.ntmps36 hF hc λhI=>?_
 rw[iF]at h
 refine sr (kL (v:=(Value.agg (ac p1 a1 c1))) (cs:=(ac p1 a1 c1)) hI gn rfl rfl et rfl ?_)
 intro b1 c6 w1 hI
 refine lN λb2 c7 w2 hI=>?_
 refine lN λb3 c8 w3 hI=>?_
 refine T ?_
 obtain⟨r1,hx1,h⟩:=ae h
 refine aw gn rfl (Rc Tryz.func80) (Calls.mono (zr hI.lt FS hx1) ?_)
 rintro _ w4 ⟨a6,c9,a7,c10,a8,c11,a9,c12,rfl,hx2,hl1⟩
 refine⟨_,rfl,?_⟩
 replace hI:=(hI.ext hx2).adds hl1;dsimp only[ca,na]at hI
 refine T ?_
 refine lN λb4 c13 w5 hI=>?_
 refine lA λc14 w6 hI=>?_
 refine lA λc15 w7 hI=>?_
 refine nk (al (T ?_))
 refine TC (λhb h=>?_) λhb h=>?_
 ·refine T ?_
  refine sB h (λ_ k=>wt hI.lt FS k) (Rc Tryz.func44) λr2 w8 h hI=>?_
  refine TC (λhb h=>?_) λhb h=>?_
  ·refine T ?_
   obtain⟨r3,hx5,h⟩:=ae h
   refine aw gn rfl (Rc Tryz.func81) (Calls.mono (kC hI.lt FS hx5) ?_)
   rintro _ w9 ⟨a10,c16,rfl,hx6,hl3⟩
   refine⟨_,rfl,?_⟩
   replace hI:=(hI.ext hx6).adds hl3;dsimp only[ca,na]at hI
   refine lA λc17 w10 hI=>?_
   refine nk (al (aJ [2,3] false (.c (0,.q) (.two 1 (.c (2,.s) i8) 2 (.c (1,.s) i8))) hI (by kernel_rfl) (by kernel_rfl) ?_))
   intro w14 hI
   refine bT (α:=NP) (T:=i8) (λx=>[(2,vp b2 0),(3,vp b3 0),(26,(Value.agg (ac r3 a10 c16)))]) (λx w=>Bun du F w0 x w [MO.box b4 39 (aI r1.1 a6 c9 a7 c10 a8 c11),MO.box b3 72 av,MO.box b2 39 (aI r1.1 a6 c9 a7 c10 a8 c11),MO.box b1 72 (ac r3 a10 c16)] [LT af a10 c16 r3.L,LT aj a6 c9 r1.1.Lin.L,LT an a7 c10 r1.1.Idx,LT ap a8 c11 r1.1.Args,LT af a9 c12 r1.2.L,LT af a1 c1 p1.L]) (λx w=>SN [] (DM true F x) w) ?_ ?_
   ·clear hI;rintro c20 w13 hI
    try dsimp only at hI ⊢
    unfold i8
    refine vA λc19 w12 hI=>?_
    refine V ?_
    refine aF ?_
    obtain rfl:=ak h
    refine QG ?_
    exact⟨a6,c9,a7,c10,a8,c11,a10,c16,rfl,hI.ext0,hI.fin ⟨.p1,.p2,.p3,.z,ah⟩⟩
   intro hk_tr_ref16_expression_1_0
   refine bR rfl gn rfl (λw' hw'=>(am (l:=(bz r1.1 a6 c9 a7 c10 a8 c11)) rfl et mD rfl aS ((CA.blk (hI.blk .z) rfl).at_ (SX.any rfl hw')))) (by kernel_rfl) ?_
   refine cL ?_ ?_
   ·skip
    refine bq rfl gn rfl (am (l:=(ag r3 a10 c16)) rfl et jO rfl aG (LU (hI.blk .p3) rfl)) LW ?_
    refine bK (F:=F) (C:=c17) rfl rfl ?_
    refine vA λc18 w11 hI=>?_
    exact bc (hk_tr_ref16_expression_1_0 c18 _ (hI.arr GO SU)) SB
   refine bB (F:=F) (C:=c17) rfl rfl ?_
   refine vA λc18 w11 hI=>?_
   refine bq rfl gn rfl (am (l:=(ag r3 a10 c16)) rfl et jO rfl aG (LU (hI.blk .p3) rfl)) LW ?_
   exact bc (hk_tr_ref16_expression_1_0 c18 _ (hI.arr GO SU)) SB
  refine T ?_
  refine al (aJ [2,3] false (.c (0,.q) (.two 1 (.c (2,.s) i7) 2 (.c (1,.s) i7))) hI (by kernel_rfl) (by kernel_rfl) ?_)
  intro w18 hI
  refine bT (α:=NP) (T:=i7) (λx=>[(2,vp b2 0),(3,vp b3 0),(26,(Value.agg (ac r1.2 a9 c12)))]) (λx w=>Bun du F w0 x w [MO.box b4 39 (aI r1.1 a6 c9 a7 c10 a8 c11),MO.box b3 72 av,MO.box b2 39 (aI r1.1 a6 c9 a7 c10 a8 c11),MO.box b1 72 (ac r1.2 a9 c12)] [LT aj a6 c9 r1.1.Lin.L,LT an a7 c10 r1.1.Idx,LT ap a8 c11 r1.1.Args,LT af a9 c12 r1.2.L,LT af a1 c1 p1.L]) (λx w=>SN [] (DM true F x) w) ?_ ?_
  ·clear hI;rintro c23 w17 hI
   try dsimp only at hI ⊢
   unfold i7
   refine vA λc22 w16 hI=>?_
   refine V ?_
   refine aF ?_
   obtain rfl:=ak h
   refine QG ?_
   exact⟨a6,c9,a7,c10,a8,c11,a9,c12,rfl,hI.ext0,hI.fin ⟨.z,.p1,.p2,.p3,ah⟩⟩
  intro hk_tr_ref16_expression_2_0
  refine bR rfl gn rfl (λw' hw'=>(am (l:=(bz r1.1 a6 c9 a7 c10 a8 c11)) rfl et mD rfl aS ((CA.blk (hI.blk .z) rfl).at_ (SX.any rfl hw')))) (by kernel_rfl) ?_
  refine cL ?_ ?_
  ·skip
   refine bq rfl gn rfl (am (l:=(ag r1.2 a9 c12)) rfl et jO rfl aG (LU (hI.blk .p3) rfl)) LW ?_
   refine bK (F:=F) (C:=c15) rfl rfl ?_
   refine vA λc21 w15 hI=>?_
   exact bc (hk_tr_ref16_expression_2_0 c21 _ (hI.arr GO SU)) SB
  refine bB (F:=F) (C:=c15) rfl rfl ?_
  refine vA λc21 w15 hI=>?_
  refine bq rfl gn rfl (am (l:=(ag r1.2 a9 c12)) rfl et jO rfl aG (LU (hI.blk .p3) rfl)) LW ?_
  exact bc (hk_tr_ref16_expression_2_0 c21 _ (hI.arr GO SU)) SB
 refine T ?_
 refine al (aJ [2,3] false (.c (0,.q) (.two 1 (.c (2,.s) i6) 2 (.c (1,.s) i6))) hI (by kernel_rfl) (by kernel_rfl) ?_)
 intro w22 hI
 refine bT (α:=NP) (T:=i6) (λx=>[(2,vp b2 0),(3,vp b3 0),(26,(Value.agg (ac r1.2 a9 c12)))]) (λx w=>Bun du F w0 x w [MO.box b4 39 (aI r1.1 a6 c9 a7 c10 a8 c11),MO.box b3 72 av,MO.box b2 39 (aI r1.1 a6 c9 a7 c10 a8 c11),MO.box b1 72 (ac r1.2 a9 c12)] [LT aj a6 c9 r1.1.Lin.L,LT an a7 c10 r1.1.Idx,LT ap a8 c11 r1.1.Args,LT af a9 c12 r1.2.L,LT af a1 c1 p1.L]) (λx w=>SN [] (DM true F x) w) ?_ ?_
 ·clear hI;rintro c26 w21 hI
  try dsimp only at hI ⊢
  unfold i6
  refine vA λc25 w20 hI=>?_
  refine V ?_
  refine aF ?_
  obtain rfl:=ak h
  refine QG ?_
  exact⟨a6,c9,a7,c10,a8,c11,a9,c12,rfl,hI.ext0,hI.fin ⟨.z,.p1,.p2,.p3,ah⟩⟩
 intro hk_tr_ref16_expression_3_0
 refine bR rfl gn rfl (λw' hw'=>(am (l:=(bz r1.1 a6 c9 a7 c10 a8 c11)) rfl et mD rfl aS ((CA.blk (hI.blk .z) rfl).at_ (SX.any rfl hw')))) (by kernel_rfl) ?_
 refine cL ?_ ?_
 ·skip
  refine bq rfl gn rfl (am (l:=(ag r1.2 a9 c12)) rfl et jO rfl aG (LU (hI.blk .p3) rfl)) LW ?_
  refine bK (F:=F) (C:=c15) rfl rfl ?_
  refine vA λc24 w19 hI=>?_
  exact bc (hk_tr_ref16_expression_3_0 c24 _ (hI.arr GO SU)) SB
 refine bB (F:=F) (C:=c15) rfl rfl ?_
 refine vA λc24 w19 hI=>?_
 refine bq rfl gn rfl (am (l:=(ag r1.2 a9 c12)) rfl et jO rfl aG (LU (hI.blk .p3) rfl)) LW ?_
 exact bc (hk_tr_ref16_expression_3_0 c24 _ (hI.arr GO SU)) SB
theorem wW (hF:dK F w0) {a1 b1:List GLin} (hc:AllCl [LT dQ a2 c1 a1,LT dQ a3 c2 b1] F w0) {r:Bool} (h:lv a1 b1=some r):CR F w0 54 #[vs a2 a1.length c1,vs a3 b1.length c2] (vb r) []:=by
 refine EN Tryz.func54 Tryz.ntmps54 hF hc λhI=>?_
 rw[lv]at h
 refine T ?_
 refine al (T ?_)
 refine TR λhb h=>?_
 refine T ?_
 refine al (T ?_)
 refine bs (α:=Nat×Int) (λx=>λw=>∃ C,Bun du F w0 C w [] [LT dQ a2 c1 a1,LT dQ a3 c2 b1]∧gz a1 b1 (x.1) (x.2)=some r) (λx _=>x.1) (λx=>[(0,vs a2 a1.length c1),(1,vs a3 b1.length c2),(5,vi (x.2))]) (fu,0) BH SB ?_
 clear h hI;rintro⟨fuel1,i1⟩ w1 ⟨c3,hI,h⟩
 dsimp only at hI h ⊢
 rcases fuel1 with _ | fuel1
 ·rw[gz]at h;cases h
 rw[gz]at h
 refine al (T ?_)
 refine TC (λhb h=>?_) λhb h=>?_
 ·refine T ?_
  refine al (T ?_)
  refine al (aJ [] false (.c (0,.q) (.c (1,.q) (.c (2,.q) (.c (3,.q) (.c (4,.q) (.c (5,.q) (.c (6,.q) (.c (7,.q) (.c (8,.s) (.c (9,.q) .n)))))))))) hI (by kernel_rfl) (by kernel_rfl) ?_)
  intro w2 hI
  refine V ?_
  obtain⟨e1,hx1,h⟩:=ae h
  obtain⟨ad1,cs1,hA1,hr1,hq1⟩:=hI.clat .z hx1
  obtain⟨a4,c4,rfl,hf1⟩:=hr1
  have hI:=hI.ads hf1
  refine vI ?_
  refine bR rfl gn rfl (λw' hw'=>(am (l:=(fI e1 a4 c4)) rfl et pk rfl bt (hq1.at_ (SX.any rfl hw')))) (by kernel_rfl) ?_
  refine V ?_
  obtain⟨e2,hx2,h⟩:=ae h
  obtain⟨ad2,cs2,hA2,hr2,hq2⟩:=hI.clat .p2 hx2
  obtain⟨a5,c5,rfl,hf2⟩:=hr2
  have hI:=hI.ads hf2
  refine vI ?_
  refine bR rfl gn rfl (λw' hw'=>(am (l:=(fI e2 a5 c5)) rfl et pk rfl bt (hq2.at_ (SX.any rfl hw')))) (by kernel_rfl) ?_
  obtain⟨r1,hx3,h⟩:=ae h
  refine dk rfl gn rfl (aD (vs:=[(Value.agg (cx e1 a4 c4)),(Value.agg (cx e2 a5 c5))]) rfl G0 ⟨et,et,ah⟩) (Calls.mono (pg hI.lt FS hx3) ?_)
  rintro _ w3 ⟨rfl,hx4,hl1⟩
  refine⟨_,rfl,hx4,?_⟩
  replace hI:=(hI.ext hx4)
  refine V ?_
  refine TR λhb h=>?_
  refine T ?_
  refine aO ?_
  exact kl (fuel1,au (i1+1))
 refine bv ?_
 refine fi ?_
 refine bh ?_
 exact RF
theorem BD (hF:dK F w0) {a1 b1:GIndex} (hc:AllCl [LT aj a2 c1 a1.Lin.L,LT dQ a3 c2 a1.At,LT aj a4 c3 b1.Lin.L,LT dQ a5 c4 b1.At] F w0) {r:Bool} (h:oH a1 b1=some r):CR F w0 82 #[(Value.agg (oT a1 a2 c1 a3 c2)),(Value.agg (oT b1 a4 c3 a5 c4))] (vb r) []:=by
 refine EN Tryz.func82 Tryz.ntmps82 hF hc λhI=>?_
 rw[oH]at h
 refine sr (lX λb2 c6 w1 hI=>?_)
 refine lX λb3 c8 w2 hI=>?_
 refine T ?_
 refine aH (bg rfl rfl rfl rfl) rfl (λhc=>(am (l:=(fI a1.Lin a2 c1)) rfl (aU et hc) pk rfl bt (hI.kblk (l:=(fI a1.Lin a2 c1)) .p1 rfl).1)) ?_
 refine T ?_
 refine aH (bg rfl rfl rfl rfl) rfl (λhc=>(am (l:=(fI b1.Lin a4 c3)) rfl (aU et hc) pk rfl bt (hI.kblk (l:=(fI b1.Lin a4 c3)) .z rfl).1)) ?_
 obtain⟨r1,hx1,h⟩:=ae h
 replace hx1:=ay hx1
 refine sU (λhc=>pg hI.lt FS (hx1 hc)) (Rg Tryz.func14) λw3 hI=>?_
 refine T ?_
 obtain⟨r2,hx3,h⟩:=ae h
 replace hx3:=ay hx3
 refine sU (λhc=>wW hI.lt FS (hx3 hc)) (Rg Tryz.func54) λw4 hI=>?_
 exact RF
theorem y0 (hF:dK F w0) {a1 b1:List GIndex} (hc:AllCl [LT an a2 c1 a1,LT an a3 c2 b1] F w0) {r:Bool} (h:mX a1 b1=some r):CR F w0 37 #[vs a2 a1.length c1,vs a3 b1.length c2] (vb r) []:=by
 refine EN Tryz.func37 Tryz.ntmps37 hF hc λhI=>?_
 rw[mX]at h
 refine T ?_
 refine al (T ?_)
 refine TR λhb h=>?_
 refine T ?_
 refine al (T ?_)
 refine bs (α:=Nat×Int) (λx=>λw=>∃ C,Bun du F w0 C w [] [LT an a2 c1 a1,LT an a3 c2 b1]∧gj a1 b1 (x.1) (x.2)=some r) (λx _=>x.1) (λx=>[(0,vs a2 a1.length c1),(1,vs a3 b1.length c2),(5,vi (x.2))]) (fu,0) BH SB ?_
 clear h hI;rintro⟨fuel1,i1⟩ w1 ⟨c3,hI,h⟩
 dsimp only at hI h ⊢
 rcases fuel1 with _ | fuel1
 ·rw[gj]at h;cases h
 rw[gj]at h
 refine al (T ?_)
 refine TC (λhb h=>?_) λhb h=>?_
 ·refine T ?_
  refine al (T ?_)
  refine al (aJ [] false (.c (0,.q) (.c (1,.q) (.c (2,.q) (.c (3,.q) (.c (4,.q) (.c (5,.q) (.c (6,.q) (.c (7,.q) (.c (8,.s) (.c (9,.q) .n)))))))))) hI (by kernel_rfl) (by kernel_rfl) ?_)
  intro w2 hI
  refine V ?_
  obtain⟨e1,hx1,h⟩:=ae h
  obtain⟨ad1,cs1,hA1,hr1,hq1⟩:=hI.clat .z hx1
  obtain⟨a4,c4,a5,c5,rfl,hf1,hf2⟩:=hr1
  have hI:=hI.ads hf1
  have hI:=hI.ads hf2
  refine vI ?_
  refine bR rfl gn rfl (λw' hw'=>(am (l:=(tr e1 a4 c4 a5 c5)) rfl et wY rfl qh (hq1.at_ (SX.any rfl hw')))) (by kernel_rfl) ?_
  refine V ?_
  obtain⟨e2,hx2,h⟩:=ae h
  obtain⟨ad2,cs2,hA2,hr2,hq2⟩:=hI.clat .p3 hx2
  obtain⟨a6,c6,a7,c7,rfl,hf3,hf4⟩:=hr2
  have hI:=hI.ads hf3
  have hI:=hI.ads hf4
  refine vI ?_
  refine bR rfl gn rfl (λw' hw'=>(am (l:=(tr e2 a6 c6 a7 c7)) rfl et wY rfl qh (hq2.at_ (SX.any rfl hw')))) (by kernel_rfl) ?_
  obtain⟨r1,hx3,h⟩:=ae h
  refine dk rfl gn rfl (aD (vs:=[(Value.agg (oT e1 a4 c4 a5 c5)),(Value.agg (oT e2 a6 c6 a7 c7))]) rfl K9 ⟨et,et,ah⟩) (Calls.mono (BD hI.lt FS hx3) ?_)
  rintro _ w3 ⟨rfl,hx4,hl1⟩
  refine⟨_,rfl,hx4,?_⟩
  replace hI:=(hI.ext hx4)
  refine V ?_
  refine TR λhb h=>?_
  refine T ?_
  refine aO ?_
  exact kl (fuel1,au (i1+1))
 refine bv ?_
 refine fi ?_
 refine bh ?_
 exact RF
abbrev IE (f_:(GExpr→GExpr→Option Bool)):Prop:=∀ ⦃F:NP⦄ ⦃w0:World⦄ (hF:dK F w0) ⦃a1 b1:GExpr⦄ ⦃a2 a3 a4 a5 a6 a7:Option Addr⦄ ⦃c1 c2 c3 c4 c5 c6:Nat⦄ (hc:AllCl [LT aj a2 c1 a1.Lin.L,LT an a3 c2 a1.Idx,LT ap a4 c3 a1.Args,LT aj a5 c4 b1.Lin.L,LT an a6 c5 b1.Idx,LT ap a7 c6 b1.Args] F w0) ⦃r:Bool⦄ (h:f_ a1 b1=some r),CR F w0 17 #[(Value.agg (aI a1 a2 c1 a3 c2 a4 c3)),(Value.agg (aI b1 a5 c4 a6 c5 a7 c6))] (vb r) []
theorem BE {rec_:(GExpr→GExpr→Option Bool)} (hrec:IE rec_) (hF:dK F w0) {a1 b1:List GExpr} (hc:AllCl [LT ap a2 c1 a1,LT ap a3 c2 b1] F w0) {r:Bool} (h:oI rec_ a1 b1=some r):CR F w0 38 #[vs a2 a1.length c1,vs a3 b1.length c2] (vb r) []:=by
 refine EN Tryz.func38 Tryz.ntmps38 hF hc λhI=>?_
 rw[oI]at h
 refine T ?_
 refine al (T ?_)
 refine TR λhb h=>?_
 refine T ?_
 refine al (T ?_)
 refine bs (α:=Nat×Int) (λx=>λw=>∃ C,Bun du F w0 C w [] [LT ap a2 c1 a1,LT ap a3 c2 b1]∧iy a1 b1 rec_ (x.1) (x.2)=some r) (λx _=>x.1) (λx=>[(0,vs a2 a1.length c1),(1,vs a3 b1.length c2),(5,vi (x.2))]) (fu,0) BH SB ?_
 clear h hI;rintro⟨fuel1,i1⟩ w1 ⟨c3,hI,h⟩
 dsimp only at hI h ⊢
 rcases fuel1 with _ | fuel1
 ·rw[iy]at h;cases h
 rw[iy]at h
 refine al (T ?_)
 refine TC (λhb h=>?_) λhb h=>?_
 ·refine T ?_
  refine al (T ?_)
  refine al (aJ [] false (.c (0,.q) (.c (1,.q) (.c (2,.q) (.c (3,.q) (.c (4,.q) (.c (5,.q) (.c (6,.q) (.c (7,.q) (.c (8,.s) (.c (9,.q) .n)))))))))) hI (by kernel_rfl) (by kernel_rfl) ?_)
  intro w2 hI
  refine V ?_
  obtain⟨e1,hx1,h⟩:=ae h
  obtain⟨ad1,cs1,hA1,hr1,hq1⟩:=hI.clat .z hx1
  obtain⟨a4,c4,a5,c5,a6,c6,rfl,hf1,hf2,hf3⟩:=jm hr1
  have hI:=hI.ads hf1
  have hI:=hI.ads hf2
  have hI:=hI.ads hf3
  refine vI ?_
  refine bR rfl gn rfl (λw' hw'=>(am (l:=(bz e1 a4 c4 a5 c5 a6 c6)) rfl et mD rfl aS (hq1.at_ (SX.any rfl hw')))) (by kernel_rfl) ?_
  refine V ?_
  obtain⟨e2,hx2,h⟩:=ae h
  obtain⟨ad2,cs2,hA2,hr2,hq2⟩:=hI.clat .p4 hx2
  obtain⟨a7,c7,a8,c8,a9,c9,rfl,hf4,hf5,hf6⟩:=jm hr2
  have hI:=hI.ads hf4
  have hI:=hI.ads hf5
  have hI:=hI.ads hf6
  refine vI ?_
  refine bR rfl gn rfl (λw' hw'=>(am (l:=(bz e2 a7 c7 a8 c8 a9 c9)) rfl et mD rfl aS (hq2.at_ (SX.any rfl hw')))) (by kernel_rfl) ?_
  obtain⟨r1,hx3,h⟩:=ae h
  refine dk rfl gn rfl (aD (vs:=[(Value.agg (aI e1 a4 c4 a5 c5 a6 c6)),(Value.agg (aI e2 a7 c7 a8 c8 a9 c9))]) rfl Lg ⟨et,et,ah⟩) (Calls.mono (hrec hI.lt FS hx3) ?_)
  rintro _ w3 ⟨rfl,hx4,hl1⟩
  refine⟨_,rfl,hx4,?_⟩
  replace hI:=(hI.ext hx4)
  refine V ?_
  refine TR λhb h=>?_
  refine T ?_
  refine aO ?_
  exact kl (fuel1,au (i1+1))
 refine bv ?_
 refine fi ?_
 refine bh ?_
 exact RF
theorem zR {rec_:(GExpr→GExpr→Option Bool)} (hrec:IE rec_) (hF:dK F w0) {a1 b1:GExpr} (hc:AllCl [LT aj a2 c1 a1.Lin.L,LT an a3 c2 a1.Idx,LT ap a4 c3 a1.Args,LT aj a5 c4 b1.Lin.L,LT an a6 c5 b1.Idx,LT ap a7 c6 b1.Args] F w0) {r:Bool} (h:nR rec_ a1 b1=some r):CR F w0 17 #[(Value.agg (aI a1 a2 c1 a3 c2 a4 c3)),(Value.agg (aI b1 a5 c4 a6 c5 a7 c6))] (vb r) []:=by
 refine EN Tryz.func17 Tryz.ntmps17 hF hc λhI=>?_
 rw[nR]at h
 refine sr (lX λb2 c8 w1 hI=>?_)
 refine lX λb3 c10 w2 hI=>?_
 refine T ?_
 refine aH (bg rfl rfl rfl rfl) rfl (λhc=>(am (l:=(sR a1.Val)) rfl (aU et hc) HM rfl oe (hI.kblk (l:=(sR a1.Val)) .p1 rfl).1)) ?_
 refine T ?_
 refine aH (bg rfl rfl rfl rfl) rfl (λhc=>(am (l:=(sR b1.Val)) rfl (aU et hc) HM rfl oe (hI.kblk (l:=(sR b1.Val)) .z rfl).1)) ?_
 refine aH (bg rfl rfl rfl rfl) rfl (λhc=>jn rfl (aU et hc) (aU et hc) (CM ..) (uS ..)) ?_
 refine T ?_
 refine aH (bg rfl rfl rfl rfl) rfl (λhc=>(am (l:=(cU a1.Type_)) rfl (aU et hc) qQ rfl bX (hI.kblk (l:=(cU a1.Type_)) .p1 rfl).1)) ?_
 refine T ?_
 refine aH (bg rfl rfl rfl rfl) rfl (λhc=>(am (l:=(cU b1.Type_)) rfl (aU et hc) qQ rfl bX (hI.kblk (l:=(cU b1.Type_)) .z rfl).1)) ?_
 refine aH (bg rfl rfl rfl rfl) rfl (λhc=>jn rfl (aU et hc) (aU et hc) (tz ..) (pd ..)) ?_
 refine T ?_
 refine aH (bg rfl rfl rfl rfl) rfl (λhc=>(am (l:=(fI a1.Lin a2 c1)) rfl (aU et hc) pk rfl bt (hI.kblk (l:=(fI a1.Lin a2 c1)) .p1 rfl).1)) ?_
 refine T ?_
 refine aH (bg rfl rfl rfl rfl) rfl (λhc=>(am (l:=(fI b1.Lin a5 c4)) rfl (aU et hc) pk rfl bt (hI.kblk (l:=(fI b1.Lin a5 c4)) .z rfl).1)) ?_
 obtain⟨r1,hx1,h⟩:=ae h
 replace hx1:=ay hx1
 refine sU (λhc=>pg hI.lt FS (hx1 hc)) (Rg Tryz.func14) λw3 hI=>?_
 refine T ?_
 obtain⟨r2,hx3,h⟩:=ae h
 replace hx3:=ay hx3
 refine sU (λhc=>y0 hI.lt FS (hx3 hc)) (Rg Tryz.func37) λw4 hI=>?_
 refine T ?_
 obtain⟨r3,hx5,h⟩:=ae h
 replace hx5:=ay hx5
 refine sU (λhc=>BE hrec hI.lt FS (hx5 hc)) (Rg Tryz.func38) λw5 hI=>?_
 exact RF
theorem zQ (n:Nat):IE (kJ n):=by
 induction n with
 | zero=>intro F;intros;rename_i h;cases h
 | succ n ih=>intro F;intros;apply zR ih<;>assumption
theorem Db:IE (qH):=zQ fu
theorem tG (hF:dK F w0) {s1:List UInt8} {l1:List bm} {at1:Int} (hc:AllCl [LT af a1 c1 l1] F w0) {r:Int} (h:jR s1 l1 at1=some r):CR F w0 42 #[(aT s1),vs a1 l1.length c1,vi at1] (vi r) []:=by
 refine EN Tryz.func42 Tryz.ntmps42 hF hc λhI=>?_
 rw[jR]at h
 refine T ?_
 refine al (T ?_)
 refine TC (λhb h=>?_) λhb h=>?_
 ·refine T ?_
  obtain⟨e1,hx1,h⟩:=ae h
  obtain⟨ad1,cs1,hA1,hr1,hq1⟩:=hI.clat .z hx1
  obtain rfl:cs1=(jx e1):=hr1
  refine sI ?_
  exact RF
 exact RF
theorem dg {r1:aa} (hI:Bun C0 F w0 C0 w0 [MO.box b1 67 (ai r1 a1 c1)] [LT af a1 c1 r1.l,aA]) {r:bL (List (List UInt8)×aa)} (h:bO r1=some r):CP C0 F w0 99 #[vp b1 0] r λrx e w=>∃ a2 c2 a3 c3 C,e= .returned (vs a2 rx.1.length c2)∧Bun C0 F w0 C w [MO.box b1 67 (ai rx.2 a3 c3)] [LT bk a2 c2 rx.1,LT af a3 c3 rx.2.l]:=by
 refine fJ (l:=[vp b1 0]) Tryz.func99 rfl Tryz.ntmps99 rfl ?_
 rw[bO]at h
 refine T ?_
 obtain⟨c4,f1,hB,hl1,hk1⟩:=hI.hands (.l .n)
 refine dC h (λ_ hx1=>cr HS hx1) (kD hk1) (Rc Tryz.func128) ?_
 rintro⟨r2,s1⟩ hx1 h _ w1 ⟨a4,c5,c6,rfl,hB2⟩
 try dsimp only at h
 refine HN hk1 hB2 λc7 hI=>?_
 refine⟨_,rfl,?_⟩
 refine ll hI bk ([r2]:List (List UInt8)) gK Rr λb2 c8 w2 hI=>?_
 refine T ?_
 refine al (T ?_)
 refine bs (α:=Nat×(List (List UInt8))×aa×(Option Addr)×Nat×(Option Addr)×Nat) (λx=>λw=>∃ C,Bun C0 F w0 C w [LV bk 9 (x.2.2.2.1) (x.2.2.2.2.1) (x.2.1),MO.box b1 67 (ai (x.2.2.1) (x.2.2.2.2.2.1) (x.2.2.2.2.2.2))] [LT af (x.2.2.2.2.2.1) (x.2.2.2.2.2.2) (x.2.2.1).l,aA]∧cY (x.1) (x.2.1) (x.2.2.1)=some r) (λx _=>x.1) (λx=>[(0,vp b1 0),(3,vs (x.2.2.2.1) (x.2.1).length (x.2.2.2.2.1))]) (fu,([r2]:List (List UInt8)),s1,some ⟨b2,0,none⟩,1,a4,c5) BH SB ?_
 clear h hI;rintro⟨fuel1,aN,r3,a5,c9,a6,c10⟩ w3 ⟨c11,hI,h⟩
 dsimp only at hI h ⊢
 rcases fuel1 with _ | fuel1
 ·rw[cY]at h;cases h
 rw[cY]at h
 refine al (T ?_)
 obtain⟨c12,f2,hB,hl2,hk2⟩:=hI.hands (.r (.l .n))
 obtain⟨⟨r4,s2⟩,hx2,h⟩:=ae h
 try dsimp only at h
 refine aw gn rfl (Rc Tryz.func68) (Calls.mono (bb HS hx2) ?_)
 rintro _ w4 ⟨a7,c13,c14,rfl,hB2⟩
 refine HN hk2 hB2 λc15 hI=>?_
 refine⟨_,rfl,?_⟩
 refine TC (λhb h=>?_) λhb h=>?_
 ·have hk3:=hb
  refine T ?_
  obtain⟨c16,f3,hB,hl3,hk4⟩:=hI.hands (.l (.r .n))
  refine dC h (λ_ hx3=>cr HS hx3) (kD hk4) (Rc Tryz.func128) ?_
  rintro⟨r5,s3⟩ hx3 h _ w5 ⟨a8,c17,c18,rfl,hB2⟩
  try dsimp only at h
  refine HN hk4 hB2 λc19 hI=>?_
  refine⟨_,rfl,?_⟩
  refine ll hI bk ([r5]:List (List UInt8)) gK Rr λb3 c20 w6 hI=>?_
  obtain⟨zs1,hx4,h⟩:=ae h
  refine il (xs:=aN) (ys:=([r5]:List (List UInt8))) hI .p2 (hI.rd .z) hx4 gn rfl rfl zY gK rfl rfl et et ?_
  intro a9 c21 c22 w7 hI
  refine sa ?_
  refine aO ?_
  exact kl (fuel1,zs1,s3,a9,c21,a8,c17)
 refine bv ?_
 refine fi ?_
 refine bh ?_
 refine T ?_
 refine aF ?_
 obtain⟨c23,hI⟩:=hI.release .p1
 obtain rfl:=ak h
 refine QG ?_
 exact .inl ⟨_,rfl,a5,c9,a7,c13,_,rfl,hI.arr GO SU⟩
theorem gW {r1:aa} (hI:Bun C0 F w0 C0 w0 [MO.box b1 67 (ai r1 a1 c1)] [LT af a1 c1 r1.l,aA]) {r:bL (aX×aa)} (h:cO r1=some r):CP C0 F w0 100 #[vp b1 0] r λrx e w=>∃ a2 c2 a3 c3 C,e= .returned (Value.agg (m0 rx.1 a2 c2))∧Bun C0 F w0 C w [MO.box b1 67 (ai rx.2 a3 c3)] [LT aj a2 c2 rx.1.Lin.L,LT af a3 c3 rx.2.l]:=by
 refine fJ (l:=[vp b1 0]) Tryz.func100 rfl Tryz.ntmps100 rfl ?_
 rw[cO]at h
 refine sr (dl (cs:=qO) hI gn rfl rfl F5 rfl ?_)
 intro b2 c4 w1 hI
 refine nk (bM (α:=aa×(Option Addr)×Nat) (λ_=>⟨28,[]⟩) (λx=>[(0,vp b1 0),(2,vp b2 0)]) (λx=>λw=>∃ C,Bun C0 F w0 C w [MO.box b1 67 (ai (x.1) (x.2.1) (x.2.2)),MO.box b2 107 qO] [LT af (x.2.1) (x.2.2) (x.1).l,aA]∧d5 (x.1)=some r) ?_ ?_)
 ·clear h hI;rintro⟨r2,a4,c5⟩ w2 ⟨c6,hI,h⟩
  try dsimp only at hI h ⊢
  rw[d5]at h
  refine T ?_
  refine lS λc7 w3 hI=>?_
  refine T ?_
  obtain⟨c8,f1,hB,hl1,hk1⟩:=hI.hands (.l (.r .n))
  obtain⟨⟨r3,s1⟩,hx1,h⟩:=ae h
  try dsimp only at h
  refine aw gn rfl (Rc Tryz.func68) (Calls.mono (bb HS hx1) ?_)
  rintro _ w4 ⟨a5,c9,c10,rfl,hB2⟩
  refine HN hk1 hB2 λc11 hI=>?_
  refine⟨_,rfl,?_⟩
  refine sq (aC (vs:=[(1,vb r3)]) (cs:=#[vi 0,vs none 0 0,vb r3]) rfl ⟨rfl,et,ah⟩ (by kernel_rfl)) ?_
  refine lN λb3 c12 w5 hI=>?_
  refine aQ (new:=[vi 0,vs none 0 0,vb r3]) (cs':=#[vi 0,vs none 0 0,vb r3]) hI .z gn rfl rfl et et rfl vf rfl rfl rfl ?_
  intro c13 w6 hI
  refine nk (bM (α:=aa×(Option Addr)×Nat) (λ_=>⟨28,[]⟩) (λx=>[(0,vp b1 0),(2,vp b2 0),(3,vp b3 0)]) (λx=>λw=>∃ C,Bun C0 F w0 C w [MO.box b1 67 (ai (x.1) (x.2.1) (x.2.2)),MO.box b2 107 qO,MO.box b3 107 #[vi 0,vs none 0 0,vb r3]] [LT af (x.2.1) (x.2.2) (x.1).l,aA]∧cR r3 (x.1)=some r) ?_ ?_)
  ·clear h hI;rintro⟨r4,a6,c14⟩ w7 ⟨c15,hI,h⟩
   try dsimp only at hI h ⊢
   rw[cR]at h
   refine T ?_
   obtain⟨c16,f2,hB,hl2,hk2⟩:=hI.hands (.l (.r (.r .n)))
   refine dC h (λ_ hx2=>eE HS hx2) (kD hk2) (Rc Tryz.func31) ?_
   rintro⟨r5,s2⟩ hx2 h _ w8 ⟨a7,c17,a8,c18,c19,rfl,hB2⟩
   try dsimp only at h
   refine HN hk2 hB2 λc20 hI=>?_
   refine⟨_,rfl,?_⟩
   refine T ?_
   refine aQ (new:=(fI r5 a7 c17)) (cs':=#[vi r5.K,vs a7 r5.L.length c17,vb r3]) hI .p2 gn rfl rfl et et rfl bt rfl rfl rfl ?_
   intro c21 w9 hI
   refine T ?_
   refine aQ (new:=[vi r5.K,vs a7 r5.L.length c17,vb r3]) (cs':=#[vi r5.K,vs a7 r5.L.length c17,vb r3]) hI .p1 gn rfl rfl et et rfl vf rfl rfl rfl ?_
   intro c22 w10 hI
   refine nk (aF ?_)
   obtain rfl:=ak h
   refine QG ?_
   exact .inl ⟨_,rfl,a7,c17,a8,c18,_,rfl,hI.arr GO SU⟩
  refine TC (λhb h=>?_) λhb h=>?_
  ·refine T ?_
   obtain⟨c23,f3,hB,hl3,hk3⟩:=hI.hands (.r (.l (.r .n)))
   refine dC h (λ_ hx3=>ax HS hx3) (kD hk3) (Rc Tryz.func104) ?_
   rintro⟨r6,s3⟩ hx3 h _ w11 ⟨a9,c24,c25,rfl,hB2⟩
   try dsimp only at h
   refine HN hk3 hB2 λc26 hI=>?_
   refine⟨_,rfl,?_⟩
   refine aO ?_
   exact kj (s3,a9,c24)
  exact bl (bu (s1,a5,c9) SB BH rfl)
 refine T ?_
 refine sB h (λ_ k=>bW NE ⟨(hI.get0 .z),hI.lendBox .p1,ah⟩ k) (Rc Tryz.func121) λr7 w12 h hI=>?_
 refine TC (λhb h=>?_) λhb h=>?_
 ·refine T ?_
  obtain⟨c27,f4,hB,hl5,hk4⟩:=hI.hands (.r (.l .n))
  refine dC h (λ_ hx6=>cB HS hx6) (kD hk4) (Rc Tryz.func103) ?_
  rintro⟨r8,s4⟩ hx6 h _ w13 ⟨a10,c28,c29,rfl,hB2⟩
  try dsimp only at h
  refine HN hk4 hB2 λc30 hI=>?_
  refine⟨_,rfl,?_⟩
  refine aO ?_
  exact kj (s4,a10,c28)
 exact bl (bu (r1,a1,c1) SB BH rfl)
theorem je {r1:aa} (hI:Bun C0 F w0 C0 w0 [MO.box b1 67 (ai r1 a1 c1)] [LT af a1 c1 r1.l,aA]) {r:bL (iz×aa)} (h:d4 r1=some r):CP C0 F w0 101 #[vp b1 0] r λrx e w=>∃ a2 c2 a3 c3 C,e= .returned (Value.agg (Eg rx.1 a2 c2))∧Bun C0 F w0 C w [MO.box b1 67 (ai rx.2 a3 c3)] [LT dQ a2 c2 rx.1.Dims,LT af a3 c3 rx.2.l]:=by
 refine fJ (l:=[vp b1 0]) Tryz.func101 rfl Tryz.ntmps101 rfl ?_
 rw[d4]at h
 refine sr (dl (cs:=#[(aT []),vi 0,vi 0,vi 0,vi 0,vi 0,vs none 0 0]) hI gn rfl rfl HU rfl ?_)
 intro b2 c4 w1 hI
 refine T ?_
 obtain⟨c5,f1,hB,hl1,hk1⟩:=hI.hands (.r (.l .n))
 refine dC h (λ_ hx1=>cr HS hx1) (kD hk1) (Rc Tryz.func128) ?_
 rintro⟨r2,s1⟩ hx1 h _ w2 ⟨a4,c6,c7,rfl,hB2⟩
 try dsimp only at h
 refine HN hk1 hB2 λc8 hI=>?_
 refine⟨_,rfl,?_⟩
 refine sq (aC (vs:=[(0,(aT r2))]) (cs:=#[(aT r2),vi 0,vi 0,vi 0,vi 0,vi 0,vs none 0 0]) rfl ⟨rfl,et,ah⟩ (by kernel_rfl)) ?_
 refine lN λb3 c9 w3 hI=>?_
 refine aQ (new:=[(aT r2),vi 0,vi 0,vi 0,vi 0,vi 0,vs none 0 0]) (cs':=#[(aT r2),vi 0,vi 0,vi 0,vi 0,vi 0,vs none 0 0]) hI .z gn rfl rfl et et rfl Ep rfl rfl rfl ?_
 intro c10 w4 hI
 refine T ?_
 obtain⟨c11,f2,hB,hl2,hk2⟩:=hI.hands (.r (.l (.r .n)))
 refine dC h (λ_ hx2=>ax HS hx2) (kD hk2) (Rc Tryz.func104) ?_
 rintro⟨r3,s2⟩ hx2 h _ w5 ⟨a5,c12,c13,rfl,hB2⟩
 try dsimp only at h
 refine HN hk2 hB2 λc14 hI=>?_
 refine⟨_,rfl,?_⟩
 refine T ?_
 obtain⟨c15,f3,hB,hl3,hk3⟩:=hI.hands (.l (.r (.r .n)))
 refine dC h (λ_ hx3=>iD HS hx3) (kD hk3) (Rc Tryz.func174) ?_
 rintro⟨r4,s3⟩ hx3 h _ w6 ⟨a6,c16,c17,rfl,hB2⟩
 try dsimp only at h
 refine HN hk3 hB2 λc18 hI=>?_
 refine⟨_,rfl,?_⟩
 refine T ?_
 refine aQ (new:=(cU r4)) (cs':=#[(aT r2),vi r4.Kind,vi r4.Bits,vi r4.Frac,vi r4.Round,vi r4.Over,vs none 0 0]) hI .p1 gn rfl rfl et et rfl bX rfl rfl rfl ?_
 intro c19 w7 hI
 refine T ?_
 obtain⟨c20,f4,hB,hl4,hk4⟩:=hI.hands (.l (.r (.r .n)))
 refine dC h (λ_ hx4=>ax HS hx4) (kD hk4) (Rc Tryz.func104) ?_
 rintro⟨r5,s4⟩ hx4 h _ w8 ⟨a7,c21,c22,rfl,hB2⟩
 try dsimp only at h
 refine HN hk4 hB2 λc23 hI=>?_
 refine⟨_,rfl,?_⟩
 refine T ?_
 obtain⟨c24,f5,hB,hl5,hk5⟩:=hI.hands (.l (.r (.r .n)))
 refine dC h (λ_ hx5=>oa HS hx5) (kD hk5) (Rc Tryz.func175) ?_
 rintro⟨r6,s5⟩ hx5 h _ w9 ⟨a8,c25,a9,c26,c27,rfl,hB2⟩
 try dsimp only at h
 refine HN hk5 hB2 λc28 hI=>?_
 refine⟨_,rfl,?_⟩
 refine T ?_
 refine lS λc29 w10 hI=>?_
 refine T ?_
 refine aQ (new:=[(aT r2),vi r4.Kind,vi r4.Bits,vi r4.Frac,vi r4.Round,vi r4.Over,vs a8 r6.length c25]) (cs':=#[(aT r2),vi r4.Kind,vi r4.Bits,vi r4.Frac,vi r4.Round,vi r4.Over,vs a8 r6.length c25]) hI .p2 gn rfl rfl et et rfl Ep rfl rfl rfl ?_
 intro c30 w11 hI
 refine nk (aF ?_)
 obtain rfl:=ak h
 refine QG ?_
 exact .inl ⟨_,rfl,a8,c25,a9,c26,_,rfl,hI.arr GO SU⟩
end Go.Proofs.YtmhoikfoogemnaaGreatDoor
