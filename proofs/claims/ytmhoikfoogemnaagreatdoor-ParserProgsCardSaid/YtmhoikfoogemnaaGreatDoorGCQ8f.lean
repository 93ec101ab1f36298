import Derived.Test.YtmhoikfoogemnaaGreatDoorGCQ8e
import Derived.Test.YtmhoikfoogemnaaGreatDoorGLfH
namespace Go.Proofs.YtmhoikfoogemnaaGreatDoor
open Go Go.RowKit Go.Vc
set_option maxRecDepth 100000
set_option maxHeartbeats 4000000
set_option linter.unusedVariables false
set_option linter.unusedSimpArgs false
def ml:Tr:=(.c (3,.s) .n)
def mj:Tr:=(.c (3,.s) .n)
variable {σ:Type} {C0 F:NP} {w0:World} {a1 a2 a3 a4 a5 a6 a7 a8 a9 a10 a11 a12:Option Addr} {b1 b2 b3 b4 b5 b6 b7 b8 b9 b10 b11 b12 c1 c2 c3 c4 c5 c6 c7 c8 c9 c10 c11 c12:Nat}
theorem vF (hF:dK F w0) {p1:ab} {f1:GLin} {negative1:Bool} (hc:AllCl [LT af a1 c1 p1.L,LT aj a2 c2 f1.L] F w0) {r:GLin×ab} (h:ft p1 f1 negative1=some r):Cg 73 #[(Value.agg (ac p1 a1 c1)),(Value.agg (cx f1 a2 c2)),vb negative1] w0 λe w=>∃ a3 c3 a4 c4,e= .returned (Value.tuple #[(Value.agg (cx r.1 a3 c3)),(Value.agg (ac r.2 a4 c4))])∧Ext w0 w∧AllCl [LT aj a3 c3 r.1.L,LT af a4 c4 r.2.L] F w:=by
 refine EN Tryz.func73 Tryz.ntmps73 hF hc λhI=>?_
 rw[ft]at h
 refine sr (kL (v:=(Value.agg (ac p1 a1 c1))) (cs:=(ac p1 a1 c1)) hI gn rfl rfl et rfl ?_)
 intro b1 c5 w1 hI
 refine lX λb2 c7 w2 hI=>?_
 refine lN λb3 c8 w3 hI=>?_
 refine lN λb4 c9 w4 hI=>?_
 refine T ?_
 refine sq (aC (vs:=[(0,vi 1)]) (cs:=#[vi 1,vs none 0 0]) rfl ⟨rfl,ao,ah⟩ (by kernel_rfl)) ?_
 refine lN λb5 c10 w5 hI=>?_
 refine lA λc11 w6 hI=>?_
 refine nk (bM (α:=(List UInt8)×GLin×ab×(Option Addr)×Nat×(Option Addr)×Nat) (λ_=>⟨90,[]⟩) (λx=>[(2,vb negative1),(3,vp b1 0),(4,vp b2 0),(6,vp b3 0),(7,vp b4 0),(8,vi p1.At),(9,(aT (x.1))),(10,vp b5 0)]) (λx=>λw=>∃ C,Bun du F w0 C w [MO.box b1 72 (ac (x.2.2.1) (x.2.2.2.2.2.1) (x.2.2.2.2.2.2)),MO.box b3 27 #[vi 0,vs none 0 0],MO.box b4 72 av,MO.box b5 27 (cx (x.2.1) (x.2.2.2.1) (x.2.2.2.2.1))] [LT aj (x.2.2.2.1) (x.2.2.2.2.1) (x.2.1).L,LT af (x.2.2.2.2.2.1) (x.2.2.2.2.2.2) (x.2.2.1).L,Cl.blk b2 27 (cx f1 a2 c2),LT aj a2 c2 f1.L]∧bC negative1 f1 p1 (x.1) (x.2.1) (x.2.2.1)=some r) ?_ ?_)
 ·clear h hI;rintro⟨s1,x1,p2,a5,c12,a6,c13⟩ w7 ⟨c14,hI,h⟩
  try dsimp only at hI h ⊢
  rw[bC]at h
  refine al (T ?_)
  refine TC (λhb h=>?_) λhb h=>?_
  ·refine al (aJ [2,3] false (.c (0,.q) (.two 1 (.c (2,.s) ml) 2 (.c (1,.s) ml))) hI (by kernel_rfl) (by kernel_rfl) ?_)
   intro w11 hI
   refine bT (α:=NP) (T:=ml) (λx=>[(6,vp b3 0),(7,vp b4 0),(59,(Value.agg (ac p2 a6 c13)))]) (λx w=>Bun du F w0 x w [MO.box b1 72 (ac p2 a6 c13),MO.box b3 27 #[vi 0,vs none 0 0],MO.box b4 72 av,MO.box b5 27 (cx x1 a5 c12)] [LT aj a5 c12 x1.L,LT af a6 c13 p2.L,Cl.blk b2 27 (cx f1 a2 c2),LT aj a2 c2 f1.L]) (λx w=>SN [] (DM true F x) w) ?_ ?_
   ·clear hI;rintro c17 w10 hI
    try dsimp only at hI ⊢
    unfold ml
    refine vA λc16 w9 hI=>?_
    refine V ?_
    refine aF ?_
    have hI:=hI.add (c:=LT aj none 0 ([]:List GMono)) SlC.nil
    obtain rfl:=ak h
    exact fY (vs:=[(Value.agg #[vi 0,vs none 0 0]),(Value.agg (ac p2 a6 c13))]) Tryz.results73 ⟨⟨_,aR rfl rfl,cv (l:=[vi 0,vs none 0 0]) pk rfl bt (LU (hI.blk .p1) rfl)⟩,⟨_,aR rfl rfl,cv (l:=(ag p2 a6 c13)) jO rfl aG (LU (hI.blk .p2) rfl)⟩,ah⟩ ⟨none,0,a6,c13,rfl,hI.ext0,hI.fin ⟨.z,.p2,ah⟩⟩
   intro hk_tr_ref16_term_1_0
   refine nv rfl gn rfl (λw'=>aC (vs:=[]) (cs:=#[vi 0,vs none 0 0]) rfl trivial (by kernel_rfl)) ?_
   refine cL ?_ ?_
   ·skip
    refine bq rfl gn rfl (am (l:=(ag p2 a6 c13)) rfl et jO rfl aG (LU (hI.blk .z) rfl)) LW ?_
    refine bK (F:=F) (C:=c14) rfl rfl ?_
    refine vA λc15 w8 hI=>?_
    exact bc (hk_tr_ref16_term_1_0 c15 _ (hI.arr (.c .z (.c .z (.c .z (.c .z .n)))) ⟨.z,.p1,.p2,.p3,ah⟩)) ⟨rfl,rfl,rfl,ah⟩
   refine bB (F:=F) (C:=c14) rfl rfl ?_
   refine vA λc15 w8 hI=>?_
   refine bq rfl gn rfl (am (l:=(ag p2 a6 c13)) rfl et jO rfl aG (LU (hI.blk .z) rfl)) LW ?_
   exact bc (hk_tr_ref16_term_1_0 c15 _ (hI.arr (.c .z (.c .z (.c .z (.c .z .n)))) ⟨.z,.p1,.p2,.p3,ah⟩)) ⟨rfl,rfl,rfl,ah⟩
  refine T ?_
  refine sB h (λ_ k=>tF hI.lt trivial k) (Rc Tryz.func137) λr1 w12 h hI=>?_
  refine T ?_
  obtain⟨r2,hx3,h⟩:=ae h
  refine aw gn rfl (Rc Tryz.func138) (Calls.mono (zB hI.lt FS hx3) ?_)
  rintro _ w13 ⟨a7,c18,rfl,hx4,hl2⟩
  refine⟨_,rfl,?_⟩
  replace hI:=(hI.ext hx4).adds hl2;dsimp only[ca,na]at hI
  refine T ?_
  refine lA λc19 w14 hI=>?_
  refine T ?_
  refine sq (am (l:=(fI f1 a2 c2)) rfl et pk rfl bt (hI.kblk (l:=(fI f1 a2 c2)) .p3 rfl).1) ?_
  refine T ?_
  obtain⟨r3,hx5,h⟩:=ae h
  refine aw gn rfl (Rc Tryz.func139) (Calls.mono (CX hI.lt FS hx5) ?_)
  rintro _ w15 ⟨a8,c20,rfl,hx6,hl3⟩
  refine⟨_,rfl,?_⟩
  replace hI:=(hI.ext hx6).adds hl3;dsimp only[ca,na]at hI
  refine T ?_
  refine lN λb6 c21 w16 hI=>?_
  refine lA λc22 w17 hI=>?_
  refine T ?_
  refine al (T ?_)
  refine TC (λhb h=>?_) λhb h=>?_
  ·refine sr (sq (aC (vs:=[]) (cs:=#[vi 0,vs none 0 0]) rfl trivial (by kernel_rfl)) ?_)
   refine T ?_
   obtain⟨r4,hx7,h⟩:=ae h
   refine aw gn rfl (Rc Tryz.func81) (Calls.mono (kC hI.lt FS hx7) ?_)
   rintro _ w18 ⟨a9,c23,rfl,hx8,hl4⟩
   refine⟨_,rfl,?_⟩
   replace hI:=(hI.ext hx8).adds hl4;dsimp only[ca,na]at hI
   refine lA λc24 w19 hI=>?_
   refine lA λc25 w20 hI=>?_
   refine nk (aF ?_)
   have hI:=hI.add (c:=LT aj none 0 ([]:List GMono)) SlC.nil
   obtain rfl:=ak h
   exact fY (vs:=[(Value.agg #[vi 0,vs none 0 0]),(Value.agg (ac r4 a9 c23))]) Tryz.results73 ⟨⟨_,aR rfl rfl,cv (l:=[vi 0,vs none 0 0]) pk rfl bt (LU (hI.blk .p2) rfl)⟩,⟨_,aR rfl rfl,cv (l:=(ag r4 a9 c23)) jO rfl aG (LU (hI.blk .p3) rfl)⟩,ah⟩ ⟨none,0,a9,c23,rfl,hI.ext0,hI.fin ⟨.z,.p1,ah⟩⟩
  refine T ?_
  refine al (aJ [2,3] false (.c (0,.q) (.two 1 (.c (2,.s) mj) 2 (.c (1,.s) mj))) hI (by kernel_rfl) (by kernel_rfl) ?_)
  intro w24 hI
  refine bT (α:=NP) (T:=mj) (λx=>[(6,vp b3 0),(7,vp b4 0),(89,(Value.agg (ac p2 a6 c13)))]) (λx w=>Bun du F w0 x w [MO.box b6 27 (cx r3.1 a8 c20),MO.box b1 72 (ac p2 a6 c13),MO.box b3 27 (cx r3.1 a8 c20),MO.box b4 72 av,MO.box b5 27 (cx r2.1 a7 c18)] [LT aj a8 c20 r3.1.L,LT aj a7 c18 r2.1.L,LT aj a5 c12 x1.L,LT af a6 c13 p2.L,Cl.blk b2 27 (cx f1 a2 c2),LT aj a2 c2 f1.L]) (λx w=>SN [] (DM true F x) w) ?_ ?_
  ·clear hI;rintro c28 w23 hI
   try dsimp only at hI ⊢
   unfold mj
   refine vA λc27 w22 hI=>?_
   refine V ?_
   refine aF ?_
   obtain rfl:=ak h
   exact fY (vs:=[(Value.agg (cx r3.1 a8 c20)),(Value.agg (ac p2 a6 c13))]) Tryz.results73 ⟨⟨_,aR rfl rfl,cv (l:=(fI r3.1 a8 c20)) pk rfl bt (LU (hI.blk .p2) rfl)⟩,⟨_,aR rfl rfl,cv (l:=(ag p2 a6 c13)) jO rfl aG (LU (hI.blk .p3) rfl)⟩,ah⟩ ⟨a8,c20,a6,c13,rfl,hI.ext0,hI.fin ⟨.z,.p3,ah⟩⟩
  intro hk_tr_ref16_term_2_0
  refine bR rfl gn rfl (λw' hw'=>(am (l:=(fI r3.1 a8 c20)) rfl et pk rfl bt ((CA.blk (hI.blk .z) rfl).at_ (SX.any rfl hw')))) (by kernel_rfl) ?_
  refine cL ?_ ?_
  ·skip
   refine bq rfl gn rfl (am (l:=(ag p2 a6 c13)) rfl et jO rfl aG (LU (hI.blk .p1) rfl)) LW ?_
   refine bK (F:=F) (C:=c22) rfl rfl ?_
   refine vA λc26 w21 hI=>?_
   exact bc (hk_tr_ref16_term_2_0 c26 _ (hI.arr (.c .z (.c .z (.c .z (.c .z (.c .z .n))))) ⟨.z,.p1,.p2,.p3,.p4,.p5,ah⟩)) ⟨rfl,rfl,rfl,ah⟩
  refine bB (F:=F) (C:=c22) rfl rfl ?_
  refine vA λc26 w21 hI=>?_
  refine bq rfl gn rfl (am (l:=(ag p2 a6 c13)) rfl et jO rfl aG (LU (hI.blk .p1) rfl)) LW ?_
  exact bc (hk_tr_ref16_term_2_0 c26 _ (hI.arr (.c .z (.c .z (.c .z (.c .z (.c .z .n))))) ⟨.z,.p1,.p2,.p3,.p4,.p5,ah⟩)) ⟨rfl,rfl,rfl,ah⟩
 refine T ?_
 refine sB h (λ_ k=>qU hI.lt FS k) (Rc Tryz.func133) λr5 w25 h hI=>?_
 refine TC (λhb h=>?_) λhb h=>?_
 ·refine T ?_
  obtain⟨r6,hx11,h⟩:=ae h
  refine aw gn rfl (Rc Tryz.func134) (Calls.mono (jy hI.lt FS hx11) ?_)
  rintro _ w26 ⟨a10,c29,rfl,hx12,hl6⟩
  refine⟨_,rfl,?_⟩
  replace hI:=(hI.ext hx12).adds hl6;dsimp only[ca,na]at hI
  refine T ?_
  refine lN λb7 c30 w27 hI=>?_
  refine sa ?_
  refine lA λc31 w28 hI=>?_
  refine T ?_
  obtain⟨r7,hx13,h⟩:=ae h
  refine aw gn rfl (Rc Tryz.func135) (Calls.mono (wS hI.lt ah hx13) ?_)
  rintro _ w29 ⟨a11,c32,rfl,hx14,hl7⟩
  refine⟨_,rfl,?_⟩
  replace hI:=(hI.ext hx14).adds hl7;dsimp only[ca,na]at hI
  refine lA λc33 w30 hI=>?_
  refine T ?_
  refine lA λc34 w31 hI=>?_
  refine aO ?_
  exact bu (([49]:List UInt8),r7,r6.2,a11,c32,a10,c29) ⟨rfl,rfl,rfl,rfl,rfl,rfl,rfl,rfl,ah⟩ ⟨_,hI.arr (.c .p4 (.c .p3 (.c .p2 (.c .p1 .n)))) ⟨.z,.p1,.p2,.p4,ah⟩,h⟩ rfl
 refine T ?_
 obtain⟨r8,hx15,h⟩:=ae h
 refine aw gn rfl (Rc Tryz.func136) (Calls.mono (oM hI.lt FS hx15) ?_)
 rintro _ Dq ⟨a12,c35,rfl,hx16,hl8⟩
 refine⟨_,rfl,?_⟩
 replace hI:=(hI.ext hx16).adds hl8;dsimp only[ca,na]at hI
 refine T ?_
 refine lN λb8 c36 w33 hI=>?_
 refine sa ?_
 refine lA λc37 w34 hI=>?_
 refine T ?_
 refine lA λc38 w35 hI=>?_
 refine T ?_
 refine sB h (λ_ k=>bx hI.lt FS k) (Rc Tryz.func72) λr9 w36 h hI=>?_
 refine TC (λhb h=>?_) λhb h=>?_
 ·refine T ?_
  refine lS λc39 w37 hI=>?_
  refine T ?_
  obtain⟨r10,hx19,h⟩:=ae h
  refine aw gn rfl (Rc Tryz.func134) (Calls.mono (jy hI.lt FS hx19) ?_)
  rintro _ w38 ⟨a13,c40,rfl,hx20,hl10⟩
  refine⟨_,rfl,?_⟩
  replace hI:=(hI.ext hx20).adds hl10;dsimp only[ca,na]at hI
  refine T ?_
  refine lN λb9 c41 w39 hI=>?_
  refine sa ?_
  refine lA λc42 w40 hI=>?_
  refine T ?_
  obtain⟨r11,hx21,h⟩:=ae h
  refine aw gn rfl (Rc Tryz.func135) (Calls.mono (wS hI.lt ah hx21) ?_)
  rintro _ w41 ⟨a14,c43,rfl,hx22,hl11⟩
  refine⟨_,rfl,?_⟩
  replace hI:=(hI.ext hx22).adds hl11;dsimp only[ca,na]at hI
  refine lA λc44 w42 hI=>?_
  refine T ?_
  refine lA λc45 w43 hI=>?_
  refine aO ?_
  exact bu (r8.1,r11,r10.2,a14,c43,a13,c40) ⟨rfl,rfl,rfl,rfl,rfl,rfl,rfl,rfl,ah⟩ ⟨_,hI.arr (.c .p5 (.c .p4 (.c .p3 (.c .p2 .n)))) ⟨.z,.p1,.p3,.p5,ah⟩,h⟩ rfl
 refine bl ?_
 have hI:=hI.add (c:=LT aj none 0 ([]:List GMono)) SlC.nil
 exact bu (r8.1,(⟨1,[]⟩:GLin),r8.2,none,0,a12,c35) ⟨rfl,rfl,rfl,rfl,rfl,rfl,rfl,rfl,ah⟩ ⟨_,hI.arr (.c .p4 (.c .p3 (.c .p2 (.c .p1 .n)))) ⟨.z,.p1,.p2,.p4,ah⟩,h⟩ rfl
def mp:Tr:=(.c (3,.s) .n)
theorem nt (hF:dK F w0) {p1:ab} (hc:AllCl [LT af a1 c1 p1.L] F w0) {r:GLin×ab} (h:dR p1=some r):Cg 32 #[(Value.agg (ac p1 a1 c1))] w0 λe w=>∃ a2 c2 a3 c3,e= .returned (Value.tuple #[(Value.agg (cx r.1 a2 c2)),(Value.agg (ac r.2 a3 c3))])∧Ext w0 w∧AllCl [LT aj a2 c2 r.1.L,LT af a3 c3 r.2.L] F w:=by
 refine EN Tryz.func32 Tryz.ntmps32 hF hc λhI=>?_
 rw[dR]at h
 refine sr (kL (v:=(Value.agg (ac p1 a1 c1))) (cs:=(ac p1 a1 c1)) hI gn rfl rfl et rfl ?_)
 intro b1 c4 w1 hI
 refine lN λb2 c5 w2 hI=>?_
 refine lN λb3 c6 w3 hI=>?_
 refine T ?_
 refine sB h (λ_ k=>bx hI.lt FS k) (Rc Tryz.func72) λr1 w4 h hI=>?_
 refine T ?_
 refine bM (α:=ab×(Option Addr)×Nat) (λ_=>⟨41,[]⟩) (λx=>[(1,vp b1 0),(2,vp b2 0),(3,vp b3 0),(4,vb r1)]) (λx=>λw=>∃ C,Bun du F w0 C w [MO.box b1 72 (ac (x.1) (x.2.1) (x.2.2)),MO.box b2 27 #[vi 0,vs none 0 0],MO.box b3 72 av] [LT af (x.2.1) (x.2.2) (x.1).L]∧j5 r1 (x.1)=some r) ?_ ?_
 ·clear h hI;rintro⟨p2,a4,c7⟩ w5 ⟨c8,hI,h⟩
  try dsimp only at hI h ⊢
  rw[j5]at h
  refine T ?_
  refine sq (aC (vs:=[]) (cs:=#[vi 0,vs none 0 0]) rfl trivial (by kernel_rfl)) ?_
  refine sm ?_
  have hI:=hI.add (c:=LT aj none 0 ([]:List GMono)) SlC.nil
  obtain⟨r2,hx3,h⟩:=ae h
  refine aw gn rfl (Rc Tryz.func73) (Calls.mono (vF hI.lt FS hx3) ?_)
  rintro _ w6 ⟨a5,c9,a6,c10,rfl,hx4,hl2⟩
  refine⟨_,rfl,?_⟩
  replace hI:=(hI.ext hx4).adds hl2;dsimp only[ca,na]at hI
  refine T ?_
  refine lN λb4 c11 w7 hI=>?_
  refine lA λc12 w8 hI=>?_
  refine lA λc13 w9 hI=>?_
  refine nk (al (T ?_))
  refine bs (α:=Nat×ab×GLin×(Option Addr)×Nat×(Option Addr)×Nat) (λx=>λw=>∃ C,Bun du F w0 C w [MO.box b1 72 (ac (x.2.1) (x.2.2.2.1) (x.2.2.2.2.1)),MO.box b2 27 #[vi 0,vs none 0 0],MO.box b3 72 av,MO.box b4 27 (cx (x.2.2.1) (x.2.2.2.2.2.1) (x.2.2.2.2.2.2))] [LT af (x.2.2.2.1) (x.2.2.2.2.1) (x.2.1).L,LT aj (x.2.2.2.2.2.1) (x.2.2.2.2.2.2) (x.2.2.1).L]∧dU (x.1) (x.2.1) (x.2.2.1)=some r) (λx _=>x.1) (λx=>[(1,vp b1 0),(2,vp b2 0),(3,vp b3 0),(5,vp b4 0)]) (fu,r2.2,r2.1,a6,c10,a5,c9) BH SB ?_
  clear h hI;rintro⟨fuel1,p3,f1,a7,c14,a8,c15⟩ w10 ⟨c16,hI,h⟩
  dsimp only at hI h ⊢
  rcases fuel1 with _ | fuel1
  ·rw[dU]at h;cases h
  rw[dU]at h
  refine al (T ?_)
  refine sB h (λ_ k=>bx hI.lt FS k) (Rc Tryz.func72) λr3 w11 h hI=>?_
  refine sm ?_
  refine aH (bV rfl rfl rfl rfl) rfl (λhc=>(am (l:=(ag p3 a7 c14)) rfl et jO rfl aG (LU (hI.blk .z) rfl))) ?_
  obtain⟨r4,hx7,h⟩:=ae h
  replace hx7:=ay hx7
  refine sU (λhc=>bx hI.lt FS (hx7 hc)) (Rg Tryz.func72) λw12 hI=>?_
  refine TC (λhb h=>?_) λhb h=>?_
  ·refine T ?_
   refine sB h (λ_ k=>bx hI.lt FS k) (Rc Tryz.func72) λr5 w13 h hI=>?_
   refine T ?_
   refine lS λc17 w14 hI=>?_
   refine T ?_
   obtain⟨r6,hx11,h⟩:=ae h
   refine aw gn rfl (Rc Tryz.func73) (Calls.mono (vF hI.lt FS hx11) ?_)
   rintro _ w15 ⟨a9,c18,a10,c19,rfl,hx12,hl6⟩
   refine⟨_,rfl,?_⟩
   replace hI:=(hI.ext hx12).adds hl6;dsimp only[ca,na]at hI
   refine T ?_
   refine lA λc20 w16 hI=>?_
   refine lA λc21 w17 hI=>?_
   refine aO ?_
   exact kl (fuel1,r6.2,r6.1,a10,c19,a9,c18)
  refine bv ?_
  refine fi ?_
  refine bh (al (aJ [2,3] false (.c (0,.q) (.two 1 (.c (2,.s) mp) 2 (.c (1,.s) mp))) hI (by kernel_rfl) (by kernel_rfl) ?_))
  intro w21 hI
  refine bT (α:=NP) (T:=mp) (λx=>[(2,vp b2 0),(3,vp b3 0),(40,(Value.agg (ac p3 a7 c14)))]) (λx w=>Bun du F w0 x w [MO.box b1 72 (ac p3 a7 c14),MO.box b2 27 (cx f1 a8 c15),MO.box b3 72 av,MO.box b4 27 (cx f1 a8 c15)] [LT af a7 c14 p3.L,LT aj a8 c15 f1.L]) (λx w=>SN [] (DM true F x) w) ?_ ?_
  ·clear hI;rintro c24 w20 hI
   try dsimp only at hI ⊢
   unfold mp
   refine vA λc23 w19 hI=>?_
   refine V ?_
   refine aF ?_
   obtain rfl:=ak h
   refine QG ?_
   exact⟨a8,c15,a7,c14,rfl,hI.ext0,hI.fin ⟨.p1,.z,ah⟩⟩
  intro hk_tr_ref16_form_3_0
  refine bR rfl gn rfl (λw' hw'=>(am (l:=(fI f1 a8 c15)) rfl et pk rfl bt ((CA.blk (hI.blk .p3) rfl).at_ (SX.any rfl hw')))) (by kernel_rfl) ?_
  refine cL ?_ ?_
  ·skip
   refine bq rfl gn rfl (am (l:=(ag p3 a7 c14)) rfl et jO rfl aG (LU (hI.blk .z) rfl)) LW ?_
   refine bK (F:=F) (C:=c16) rfl rfl ?_
   refine vA λc22 w18 hI=>?_
   exact bc (hk_tr_ref16_form_3_0 c22 _ (hI.arr GO SU)) SB
  refine bB (F:=F) (C:=c16) rfl rfl ?_
  refine vA λc22 w18 hI=>?_
  refine bq rfl gn rfl (am (l:=(ag p3 a7 c14)) rfl et jO rfl aG (LU (hI.blk .z) rfl)) LW ?_
  exact bc (hk_tr_ref16_form_3_0 c22 _ (hI.arr GO SU)) SB
 refine TC (λhb h=>?_) λhb h=>?_
 ·refine T ?_
  refine lS λc25 w22 hI=>?_
  refine aO ?_
  exact kj ((⟨p1.L,au (p1.At+1),p1.Deep,p1.E,p1.Pos⟩:ab),a1,c1)
 exact bl (bu (p1,a1,c1) SB BH rfl)
theorem tH (hF:dK F w0) {p1:ab} (hc:AllCl [LT af a1 c1 p1.L] F w0) {r:ab} (h:gt p1=some r):Cg 150 #[(Value.agg (ac p1 a1 c1))] w0 λe w=>∃ a2 c2,e= .returned (Value.agg (ac r a2 c2))∧Ext w0 w∧AllCl [LT af a2 c2 r.L] F w:=by
 refine EN Tryz.func150 Tryz.ntmps150 hF hc λhI=>?_
 rw[gt]at h
 refine sr (kL (v:=(Value.agg (ac p1 a1 c1))) (cs:=(ac p1 a1 c1)) hI gn rfl rfl et rfl ?_)
 intro b1 c3 w1 hI
 refine lN λb2 c4 w2 hI=>?_
 refine nk (al (T ?_))
 refine TC (λhb h=>?_) λhb h=>?_
 ·refine T ?_
  obtain⟨r1,hx1,h⟩:=ae h
  refine aw gn rfl (Rc Tryz.func81) (Calls.mono (kC hI.lt FS hx1) ?_)
  rintro _ w3 ⟨a3,c5,rfl,hx2,hl1⟩
  refine⟨_,rfl,?_⟩
  replace hI:=(hI.ext hx2).adds hl1;dsimp only[ca,na]at hI
  refine lA λc6 w4 hI=>?_
  refine nk (aF ?_)
  obtain rfl:=ak h
  refine QG ?_
  exact⟨a3,c5,rfl,hI.ext0,hI.fin ⟨.z,ah⟩⟩
 refine T ?_
 refine lS λc7 w5 hI=>?_
 refine T ?_
 refine lS λc8 w6 hI=>?_
 refine T ?_
 refine lA λc9 w7 hI=>?_
 refine nk (aF ?_)
 obtain rfl:=ak h
 refine QG ?_
 exact⟨a1,c1,rfl,hI.ext0,hI.fin ⟨.z,ah⟩⟩
theorem bn (hF:dK F w0) {p1:ab} {s1:List UInt8} (hc:AllCl [LT af a1 c1 p1.L] F w0) {r:ab} (h:az p1 s1=some r):Cg 110 #[(Value.agg (ac p1 a1 c1)),(aT s1)] w0 λe w=>∃ a2 c2,e= .returned (Value.agg (ac r a2 c2))∧Ext w0 w∧AllCl [LT af a2 c2 r.L] F w:=by
 refine EN Tryz.func110 Tryz.ntmps110 hF hc λhI=>?_
 rw[az]at h
 refine sr (kL (v:=(Value.agg (ac p1 a1 c1))) (cs:=(ac p1 a1 c1)) hI gn rfl rfl et rfl ?_)
 intro b1 c3 w1 hI
 refine lN λb2 c4 w2 hI=>?_
 refine nk (al (T ?_))
 refine sB h (λ_ k=>bx hI.lt FS k) (Rc Tryz.func72) λr1 w3 h hI=>?_
 refine TC (λhb h=>?_) λhb h=>?_
 ·refine T ?_
  obtain⟨r2,hx3,h⟩:=ae h
  refine aw gn rfl (Rc Tryz.func41) (Calls.mono (mf hI.lt FS hx3) ?_)
  rintro _ w4 ⟨a3,c5,rfl,hx4,hl2⟩
  refine⟨_,rfl,?_⟩
  replace hI:=(hI.ext hx4).adds hl2;dsimp only[ca,na]at hI
  refine lA λc6 w5 hI=>?_
  refine nk (aF ?_)
  obtain rfl:=ak h
  refine QG ?_
  exact⟨a3,c5,rfl,hI.ext0,hI.fin ⟨.z,ah⟩⟩
 refine T ?_
 refine lS λc7 w6 hI=>?_
 refine T ?_
 refine lA λc8 w7 hI=>?_
 refine nk (aF ?_)
 obtain rfl:=ak h
 refine QG ?_
 exact⟨a1,c1,rfl,hI.ext0,hI.fin ⟨.z,ah⟩⟩
theorem sE (hF:dK F w0) {p1:ab} (hc:AllCl [LT af a1 c1 p1.L] F w0) {r:Int×ab} (h:iq p1=some r):Cg 220 #[(Value.agg (ac p1 a1 c1))] w0 λe w=>∃ a2 c2,e= .returned (Value.tuple #[vi r.1,(Value.agg (ac r.2 a2 c2))])∧Ext w0 w∧AllCl [LT af a2 c2 r.2.L] F w:=by
 refine EN Tryz.func220 Tryz.ntmps220 hF hc λhI=>?_
 rw[iq]at h
 refine sr (kL (v:=(Value.agg (ac p1 a1 c1))) (cs:=(ac p1 a1 c1)) hI gn rfl rfl et rfl ?_)
 intro b1 c3 w1 hI
 refine tV ?_
 refine lN λb2 c4 w2 hI=>?_
 refine T ?_
 obtain⟨r1,hx1,h⟩:=ae h
 refine aw gn rfl (Rc Tryz.func136) (Calls.mono (oM hI.lt FS hx1) ?_)
 rintro _ w3 ⟨a3,c5,rfl,hx2,hl1⟩
 refine⟨_,rfl,?_⟩
 replace hI:=(hI.ext hx2).adds hl1;dsimp only[ca,na]at hI
 refine T ?_
 refine lA λc6 w4 hI=>?_
 refine T ?_
 refine sB h (λ_ k=>tF hI.lt trivial k) (Rc Tryz.func137) λr2 w5 h hI=>?_
 refine T ?_
 refine al (T ?_)
 refine TC (λhb h=>?_) λhb h=>?_
 ·refine T ?_
  obtain⟨r3,hx5,h⟩:=ae h
  refine aw gn rfl (Rc Tryz.func81) (Calls.mono (kC hI.lt FS hx5) ?_)
  rintro _ w6 ⟨a4,c7,rfl,hx6,hl3⟩
  refine⟨_,rfl,?_⟩
  replace hI:=(hI.ext hx6).adds hl3;dsimp only[ca,na]at hI
  refine tV ?_
  refine lA λc8 w7 hI=>?_
  refine T ?_
  refine aF ?_
  obtain rfl:=ak h
  refine QG ?_
  exact⟨a4,c7,rfl,hI.ext0,hI.fin ⟨.z,ah⟩⟩
 refine T ?_
 refine al (aJ [3] false (.c (0,.q) (.c (1,.q) (.c (2,.q) (.c (3,.s) .n)))) hI (by kernel_rfl) (by kernel_rfl) ?_)
 intro w8 hI
 refine V ?_
 refine bR rfl gn rfl (λw' hw'=>(am (l:=(ag r1.2 a3 c5)) rfl et jO rfl aG ((CA.blk (hI.blk .p1) rfl).at_ (SX.any rfl hw')))) (by kernel_rfl) ?_
 refine V ?_
 refine bK (F:=F) (C:=c6) rfl rfl ?_
 refine vA λc9 w9 hI=>?_
 refine V ?_
 refine aF ?_
 obtain rfl:=ak h
 refine QG ?_
 exact⟨a3,c5,rfl,hI.ext0,hI.fin ⟨.z,ah⟩⟩
theorem lm (hF:dK F w0) {p1:ab} {l1:List (List UInt8)} (hc:AllCl [LT af a1 c1 p1.L,LT bk a2 c2 l1] F w0) {r:Int×ab} (h:cK p1 l1=some r):Cg 105 #[(Value.agg (ac p1 a1 c1)),vs a2 l1.length c2] w0 λe w=>∃ a3 c3,e= .returned (Value.tuple #[vi r.1,(Value.agg (ac r.2 a3 c3))])∧Ext w0 w∧AllCl [LT af a3 c3 r.2.L] F w:=by
 refine EN Tryz.func105 Tryz.ntmps105 hF hc λhI=>?_
 rw[cK]at h
 refine sr (kL (v:=(Value.agg (ac p1 a1 c1))) (cs:=(ac p1 a1 c1)) hI gn rfl rfl et rfl ?_)
 intro b1 c4 w1 hI
 refine tV ?_
 refine lN λb2 c5 w2 hI=>?_
 refine nk (al (T ?_))
 refine bs (α:=Nat×Int) (λx=>λw=>∃ C,Bun du F w0 C w [MO.box b1 72 (ac p1 a1 c1),MO.box b2 72 av] [LT bk a2 c2 l1,LT af a1 c1 p1.L]∧dy l1 p1 (x.1) (x.2)=some r) (λx _=>x.1) (λx=>[(1,vs a2 l1.length c2),(2,vp b1 0),(5,vp b2 0),(6,vi (x.2))]) (fu,0) BH SB ?_
 clear h hI;rintro⟨fuel1,i1⟩ w3 ⟨c6,hI,h⟩
 dsimp only at hI h ⊢
 rcases fuel1 with _ | fuel1
 ·rw[dy]at h;cases h
 rw[dy]at h
 refine al (T ?_)
 refine TC (λhb h=>?_) λhb h=>?_
 ·refine T ?_
  refine al (T ?_)
  refine al (aJ [] false (.c (0,.q) (.c (1,.q) (.c (2,.q) (.c (3,.q) (.c (4,.q) (.c (5,.s) .n)))))) hI (by kernel_rfl) (by kernel_rfl) ?_)
  intro w4 hI
  refine bR rfl gn rfl (λw' hw'=>(am (l:=(ag p1 a1 c1)) rfl et jO rfl aG ((CA.blk (hI.blk .z) rfl).at_ (SX.any rfl hw')))) (by kernel_rfl) ?_
  refine V ?_
  obtain⟨e1,hx1,h⟩:=ae h
  obtain⟨ad1,cs1,hA1,hr1,hq1⟩:=hI.clat .z hx1
  obtain rfl:cs1=[(aT e1)]:=hr1
  refine vI ?_
  refine V ?_
  obtain⟨r1,hx2,h⟩:=ae h
  refine dk rfl gn rfl (aD (vs:=[(Value.agg (ac p1 a1 c1)),vi 0,(aT e1)]) rfl GU ⟨et,ao,et,ah⟩) (Calls.mono (bx hI.lt FS hx2) ?_)
  rintro _ w5 ⟨rfl,hx3,hl1⟩
  refine⟨_,rfl,hx3,?_⟩
  replace hI:=(hI.ext hx3)
  refine V ?_
  refine TC (λhb h=>?_) λhb h=>?_
  ·refine T ?_
   refine lS λc7 w6 hI=>?_
   refine nk (al (aJ [4] false (.c (0,.q) (.c (1,.q) (.c (2,.q) (.c (3,.q) (.c (4,.s) .n))))) hI (by kernel_rfl) (by kernel_rfl) ?_))
   intro w7 hI
   refine V ?_
   refine bR rfl gn rfl (λw' hw'=>(am (l:=[vs a1 p1.L.length c1,(vi (au (p1.At+1))),vi p1.Deep,vi p1.E,vi p1.Pos]) rfl et jO rfl aG ((CA.blk (hI.blk .z) rfl).at_ (SX.any rfl hw')))) (by kernel_rfl) ?_
   refine V ?_
   refine bK (F:=F) (C:=c7) rfl rfl ?_
   refine vA λc8 w8 hI=>?_
   refine V ?_
   refine aF ?_
   obtain rfl:=ak h
   refine QG ?_
   exact⟨a1,c1,rfl,hI.ext0,hI.fin ⟨.p1,ah⟩⟩
  refine T ?_
  refine aO ?_
  exact kl (fuel1,au (i1+1))
 refine bv ?_
 refine fi ?_
 refine bh ?_
 refine T ?_
 obtain⟨r2,hx4,h⟩:=ae h
 refine aw gn rfl (Rc Tryz.func41) (Calls.mono (mf hI.lt FS hx4) ?_)
 rintro _ w9 ⟨a4,c9,rfl,hx5,hl2⟩
 refine⟨_,rfl,?_⟩
 replace hI:=(hI.ext hx5).adds hl2;dsimp only[ca,na]at hI
 refine tV ?_
 refine lA λc10 w10 hI=>?_
 refine nk (aF ?_)
 obtain rfl:=ak h
 refine QG ?_
 exact⟨a4,c9,rfl,hI.ext0,hI.fin ⟨.z,ah⟩⟩
theorem tM (hF:dK F w0) {t1:GType} (hc:AllCl [] F w0) {r:Bool} (h:mV t1=some r):CR F w0 62 #[(Value.agg (d9 t1))] (vb r) []:=by
 refine EN Tryz.func62 Tryz.ntmps62 hF hc λhI=>?_
 rw[mV]at h
 refine sr (lX λb1 c2 w1 hI=>?_)
 refine T ?_
 refine al (T ?_)
 refine TR λhb h=>?_
 exact RF
def m6:Tr:=(.c (3,.s) .n)
def m5:Tr:=(.c (3,.s) .n)
def m4:Tr:=(.c (3,.s) .n)
def m3:Tr:=(.c (3,.s) .n)
theorem qK (hF:dK F w0) {p1:ab} (hc:AllCl [LT af a1 c1 p1.L] F w0) {r:GType×ab} (h:ip p1=some r):Cg 178 #[(Value.agg (ac p1 a1 c1))] w0 λe w=>∃ a2 c2,e= .returned (Value.tuple #[(Value.agg (d9 r.1)),(Value.agg (ac r.2 a2 c2))])∧Ext w0 w∧AllCl [LT af a2 c2 r.2.L] F w:=by
 refine EN Tryz.func178 Tryz.ntmps178 hF hc λhI=>?_
 rw[ip]at h
 refine sr (kL (v:=(Value.agg (ac p1 a1 c1))) (cs:=(ac p1 a1 c1)) hI gn rfl rfl et rfl ?_)
 intro b1 c3 w1 hI
 refine lN λb2 c4 w2 hI=>?_
 refine lN λb3 c5 w3 hI=>?_
 refine T ?_
 refine al (T ?_)
 refine sB h (λ_ k=>bx hI.lt FS k) (Rc Tryz.func72) λr1 w4 h hI=>?_
 refine TC (λhb h=>?_) λhb h=>?_
 ·refine T ?_
  refine lS λc6 w5 hI=>?_
  refine nk (al (aJ [2,3] false (.c (0,.q) (.two 1 (.c (2,.s) m6) 2 (.c (1,.s) m6))) hI (by kernel_rfl) (by kernel_rfl) ?_))
  intro w9 hI
  refine bT (α:=NP) (T:=m6) (λx=>[(2,vp b2 0),(3,vp b3 0),(19,(Value.agg #[vs a1 p1.L.length c1,(vi (au (p1.At+1))),vi p1.Deep,vi p1.E,vi p1.Pos]))]) (λx w=>Bun du F w0 x w [MO.box b3 72 av,MO.box b2 35 #[vi 1,vi 0,vi 0,vi 0,vi 0],MO.box b1 72 #[vs a1 p1.L.length c1,(vi (au (p1.At+1))),vi p1.Deep,vi p1.E,vi p1.Pos]] [LT af a1 c1 p1.L]) (λx w=>SN [] (DM true F x) w) ?_ ?_
  ·clear hI;rintro c9 w8 hI
   try dsimp only at hI ⊢
   unfold m6
   refine vA λc8 w7 hI=>?_
   refine V ?_
   refine aF ?_
   obtain rfl:=ak h
   refine QG ?_
   exact⟨a1,c1,rfl,hI.ext0,hI.fin ⟨.z,ah⟩⟩
  intro hk_tr_ref16_typ_1_0
  refine nv rfl gn rfl (λw'=>(aC (vs:=[(0,vi 1)]) (cs:=#[vi 1,vi 0,vi 0,vi 0,vi 0]) rfl ⟨rfl,ao,ah⟩ (by kernel_rfl))) ?_
  refine cL ?_ ?_
  ·skip
   refine bq rfl gn rfl (am (l:=[vs a1 p1.L.length c1,(vi (au (p1.At+1))),vi p1.Deep,vi p1.E,vi p1.Pos]) rfl et jO rfl aG (LU (hI.blk .p2) rfl)) LW ?_
   refine bK (F:=F) (C:=c6) rfl rfl ?_
   refine vA λc7 w6 hI=>?_
   exact bc (hk_tr_ref16_typ_1_0 c7 _ (hI.arr GO SU)) SB
  refine bB (F:=F) (C:=c6) rfl rfl ?_
  refine vA λc7 w6 hI=>?_
  refine bq rfl gn rfl (am (l:=[vs a1 p1.L.length c1,(vi (au (p1.At+1))),vi p1.Deep,vi p1.E,vi p1.Pos]) rfl et jO rfl aG (LU (hI.blk .p2) rfl)) LW ?_
  exact bc (hk_tr_ref16_typ_1_0 c7 _ (hI.arr GO SU)) SB
 refine T ?_
 refine al (T ?_)
 refine sB h (λ_ k=>bx hI.lt FS k) (Rc Tryz.func72) λr2 w10 h hI=>?_
 refine TC (λhb h=>?_) λhb h=>?_
 ·refine T ?_
  refine lS λc10 w11 hI=>?_
  refine nk (al (aJ [2,3] false (.c (0,.q) (.two 1 (.c (2,.s) m5) 2 (.c (1,.s) m5))) hI (by kernel_rfl) (by kernel_rfl) ?_))
  intro w15 hI
  refine bT (α:=NP) (T:=m5) (λx=>[(2,vp b2 0),(3,vp b3 0),(27,(Value.agg #[vs a1 p1.L.length c1,(vi (au (p1.At+1))),vi p1.Deep,vi p1.E,vi p1.Pos]))]) (λx w=>Bun du F w0 x w [MO.box b3 72 av,MO.box b2 35 #[vi 3,vi 0,vi 0,vi 0,vi 0],MO.box b1 72 #[vs a1 p1.L.length c1,(vi (au (p1.At+1))),vi p1.Deep,vi p1.E,vi p1.Pos]] [LT af a1 c1 p1.L]) (λx w=>SN [] (DM true F x) w) ?_ ?_
  ·clear hI;rintro c13 w14 hI
   try dsimp only at hI ⊢
   unfold m5
   refine vA λc12 w13 hI=>?_
   refine V ?_
   refine aF ?_
   obtain rfl:=ak h
   refine QG ?_
   exact⟨a1,c1,rfl,hI.ext0,hI.fin ⟨.z,ah⟩⟩
  intro hk_tr_ref16_typ_2_0
  refine nv rfl gn rfl (λw'=>(aC (vs:=[(0,vi 3)]) (cs:=#[vi 3,vi 0,vi 0,vi 0,vi 0]) rfl ⟨rfl,ao,ah⟩ (by kernel_rfl))) ?_
  refine cL ?_ ?_
  ·skip
   refine bq rfl gn rfl (am (l:=[vs a1 p1.L.length c1,(vi (au (p1.At+1))),vi p1.Deep,vi p1.E,vi p1.Pos]) rfl et jO rfl aG (LU (hI.blk .p2) rfl)) LW ?_
   refine bK (F:=F) (C:=c10) rfl rfl ?_
   refine vA λc11 w12 hI=>?_
   exact bc (hk_tr_ref16_typ_2_0 c11 _ (hI.arr GO SU)) SB
  refine bB (F:=F) (C:=c10) rfl rfl ?_
  refine vA λc11 w12 hI=>?_
  refine bq rfl gn rfl (am (l:=[vs a1 p1.L.length c1,(vi (au (p1.At+1))),vi p1.Deep,vi p1.E,vi p1.Pos]) rfl et jO rfl aG (LU (hI.blk .p2) rfl)) LW ?_
  exact bc (hk_tr_ref16_typ_2_0 c11 _ (hI.arr GO SU)) SB
 refine T ?_
 obtain⟨r3,hx5,h⟩:=ae h
 refine aw gn rfl (Rc Tryz.func110) (Calls.mono (bn hI.lt FS hx5) ?_)
 rintro _ w16 ⟨a3,c14,rfl,hx6,hl3⟩
 refine⟨_,rfl,?_⟩
 replace hI:=(hI.ext hx6).adds hl3;dsimp only[ca,na]at hI
 obtain⟨r4,hx7,h⟩:=ae h
 refine aw gn rfl (Rc Tryz.func110) (Calls.mono (bn hI.lt FS hx7) ?_)
 rintro _ w17 ⟨a4,c15,rfl,hx8,hl4⟩
 refine⟨_,rfl,?_⟩
 replace hI:=(hI.ext hx8).adds hl4;dsimp only[ca,na]at hI
 refine lA λc16 w18 hI=>?_
 refine T ?_
 obtain⟨r5,hx9,h⟩:=ae h
 refine aw gn rfl (Rc Tryz.func220) (Calls.mono (sE hI.lt FS hx9) ?_)
 rintro _ w19 ⟨a5,c17,rfl,hx10,hl5⟩
 refine⟨_,rfl,?_⟩
 replace hI:=(hI.ext hx10).adds hl5;dsimp only[ca,na]at hI
 refine T ?_
 refine lA λc18 w20 hI=>?_
 refine T ?_
 obtain⟨r6,hx11,h⟩:=ae h
 refine aw gn rfl (Rc Tryz.func110) (Calls.mono (bn hI.lt FS hx11) ?_)
 rintro _ w21 ⟨a6,c19,rfl,hx12,hl6⟩
 refine⟨_,rfl,?_⟩
 replace hI:=(hI.ext hx12).adds hl6;dsimp only[ca,na]at hI
 refine lA λc20 w22 hI=>?_
 refine T ?_
 obtain⟨r7,hx13,h⟩:=ae h
 refine aw gn rfl (Rc Tryz.func220) (Calls.mono (sE hI.lt FS hx13) ?_)
 rintro _ w23 ⟨a7,c21,rfl,hx14,hl7⟩
 refine⟨_,rfl,?_⟩
 replace hI:=(hI.ext hx14).adds hl7;dsimp only[ca,na]at hI
 refine T ?_
 refine lA λc22 w24 hI=>?_
 refine T ?_
 obtain⟨r8,hx15,h⟩:=ae h
 refine aw gn rfl (Rc Tryz.func110) (Calls.mono (bn hI.lt FS hx15) ?_)
 rintro _ w25 ⟨a8,c23,rfl,hx16,hl8⟩
 refine⟨_,rfl,?_⟩
 replace hI:=(hI.ext hx16).adds hl8;dsimp only[ca,na]at hI
 refine lA λc24 w26 hI=>?_
 refine T ?_
 refine ll hI bk LO gK Rr λb4 c25 w27 hI=>?_
 obtain⟨c26,hI⟩:=hI.release .z
 obtain⟨r9,hx17,h⟩:=ae h
 refine aw gn rfl (Rc Tryz.func105) (Calls.mono (lm hI.lt FS hx17) ?_)
 rintro _ w28 ⟨a9,c27,rfl,hx18,hl9⟩
 refine⟨_,rfl,?_⟩
 replace hI:=(hI.ext hx18).adds hl9;dsimp only[ca,na]at hI
 refine T ?_
 refine lA λc28 w29 hI=>?_
 refine T ?_
 obtain⟨r10,hx19,h⟩:=ae h
 refine aw gn rfl (Rc Tryz.func110) (Calls.mono (bn hI.lt FS hx19) ?_)
 rintro _ w30 ⟨a10,c29,rfl,hx20,hl10⟩
 refine⟨_,rfl,?_⟩
 replace hI:=(hI.ext hx20).adds hl10;dsimp only[ca,na]at hI
 refine lA λc30 w31 hI=>?_
 refine T ?_
 refine ll hI bk LN gK Rr λb5 c31 Dq hI=>?_
 obtain⟨c32,hI⟩:=hI.release .z
 obtain⟨r11,hx21,h⟩:=ae h
 refine aw gn rfl (Rc Tryz.func105) (Calls.mono (lm hI.lt FS hx21) ?_)
 rintro _ w33 ⟨a11,c33,rfl,hx22,hl11⟩
 refine⟨_,rfl,?_⟩
 replace hI:=(hI.ext hx22).adds hl11;dsimp only[ca,na]at hI
 refine T ?_
 refine lA λc34 w34 hI=>?_
 refine T ?_
 obtain⟨r12,hx23,h⟩:=ae h
 refine aw gn rfl (Rc Tryz.func110) (Calls.mono (bn hI.lt FS hx23) ?_)
 rintro _ w35 ⟨a12,c35,rfl,hx24,hl12⟩
 refine⟨_,rfl,?_⟩
 replace hI:=(hI.ext hx24).adds hl12;dsimp only[ca,na]at hI
 refine lA λc36 w36 hI=>?_
 refine T ?_
 refine sq (aC (vs:=[(0,vi 2),(1,vi r5.1),(2,vi r7.1),(3,vi r9.1),(4,vi r11.1)]) (cs:=#[vi 2,vi r5.1,vi r7.1,vi r9.1,vi r11.1]) rfl ⟨rfl,ao,rfl,et,rfl,et,rfl,et,rfl,et,ah⟩ (by kernel_rfl)) ?_
 refine lN λb6 c37 w37 hI=>?_
 refine lA λc38 w38 hI=>?_
 refine T ?_
 refine al (T ?_)
 refine aH (bg rfl rfl rfl rfl) rfl (λhc=>(am (l:=[vi 2,vi r5.1,vi r7.1,vi r9.1,vi r11.1]) rfl et qQ rfl bX (LU (hI.blk .z) rfl))) ?_
 obtain⟨r13,hx25,h⟩:=ae h
 replace hx25:=ay hx25
 refine sU (λhc=>tM hI.lt trivial (hx25 hc)) (Rg Tryz.func62) λw39 hI=>?_
 refine TC (λhb h=>?_) λhb h=>?_
 ·refine T ?_
  obtain⟨r14,hx27,h⟩:=ae h
  refine aw gn rfl (Rc Tryz.func81) (Calls.mono (kC hI.lt FS hx27) ?_)
  rintro _ w40 ⟨a13,c39,rfl,hx28,hl14⟩
  refine⟨_,rfl,?_⟩
  replace hI:=(hI.ext hx28).adds hl14;dsimp only[ca,na]at hI
  refine lA λc40 w41 hI=>?_
  refine nk (al (aJ [2,3] false (.c (0,.q) (.two 1 (.c (2,.s) m4) 2 (.c (1,.s) m4))) hI (by kernel_rfl) (by kernel_rfl) ?_))
  intro w45 hI
  refine bT (α:=NP) (T:=m4) (λx=>[(2,vp b2 0),(3,vp b3 0),(78,(Value.agg (ac r14 a13 c39)))]) (λx w=>Bun du F w0 x w [MO.box b6 35 #[vi 2,vi r5.1,vi r7.1,vi r9.1,vi r11.1],MO.box b3 72 av,MO.box b2 35 #[vi 2,vi r5.1,vi r7.1,vi r9.1,vi r11.1],MO.box b1 72 (ac r14 a13 c39)] [LT af a13 c39 r14.L,LT af a12 c35 r12.L,LT af a11 c33 r11.2.L,LT bk (some ⟨b5,0,none⟩) 2 LN,LT af a10 c29 r10.L,LT af a9 c27 r9.2.L,LT bk (some ⟨b4,0,none⟩) 4 LO,LT af a8 c23 r8.L,LT af a7 c21 r7.2.L,LT af a6 c19 r6.L,LT af a5 c17 r5.2.L,LT af a4 c15 r4.L,LT af a3 c14 r3.L,LT af a1 c1 p1.L]) (λx w=>SN [] (DM true F x) w) ?_ ?_
  ·clear hI;rintro c43 w44 hI
   try dsimp only at hI ⊢
   unfold m4
   refine vA λc42 w43 hI=>?_
   refine V ?_
   refine aF ?_
   obtain rfl:=ak h
   refine QG ?_
   exact⟨a13,c39,rfl,hI.ext0,hI.fin ⟨.z,ah⟩⟩
  intro hk_tr_ref16_typ_3_0
  refine bR rfl gn rfl (λw' hw'=>(am (l:=[vi 2,vi r5.1,vi r7.1,vi r9.1,vi r11.1]) rfl et qQ rfl bX ((CA.blk (hI.blk .z) rfl).at_ (SX.any rfl hw')))) (by kernel_rfl) ?_
  refine cL ?_ ?_
  ·skip
   refine bq rfl gn rfl (am (l:=(ag r14 a13 c39)) rfl et jO rfl aG (LU (hI.blk .p3) rfl)) LW ?_
   refine bK (F:=F) (C:=c40) rfl rfl ?_
   refine vA λc41 w42 hI=>?_
   exact bc (hk_tr_ref16_typ_3_0 c41 _ (hI.arr GO SU)) SB
  refine bB (F:=F) (C:=c40) rfl rfl ?_
  refine vA λc41 w42 hI=>?_
  refine bq rfl gn rfl (am (l:=(ag r14 a13 c39)) rfl et jO rfl aG (LU (hI.blk .p3) rfl)) LW ?_
  exact bc (hk_tr_ref16_typ_3_0 c41 _ (hI.arr GO SU)) SB
 refine T ?_
 refine al (aJ [2,3] false (.c (0,.q) (.two 1 (.c (2,.s) m3) 2 (.c (1,.s) m3))) hI (by kernel_rfl) (by kernel_rfl) ?_)
 intro w49 hI
 refine bT (α:=NP) (T:=m3) (λx=>[(2,vp b2 0),(3,vp b3 0),(78,(Value.agg (ac r12 a12 c35)))]) (λx w=>Bun du F w0 x w [MO.box b6 35 #[vi 2,vi r5.1,vi r7.1,vi r9.1,vi r11.1],MO.box b3 72 av,MO.box b2 35 #[vi 2,vi r5.1,vi r7.1,vi r9.1,vi r11.1],MO.box b1 72 (ac r12 a12 c35)] [LT af a12 c35 r12.L,LT af a11 c33 r11.2.L,LT bk (some ⟨b5,0,none⟩) 2 LN,LT af a10 c29 r10.L,LT af a9 c27 r9.2.L,LT bk (some ⟨b4,0,none⟩) 4 LO,LT af a8 c23 r8.L,LT af a7 c21 r7.2.L,LT af a6 c19 r6.L,LT af a5 c17 r5.2.L,LT af a4 c15 r4.L,LT af a3 c14 r3.L,LT af a1 c1 p1.L]) (λx w=>SN [] (DM true F x) w) ?_ ?_
 ·clear hI;rintro c46 w48 hI
  try dsimp only at hI ⊢
  unfold m3
  refine vA λc45 w47 hI=>?_
  refine V ?_
  refine aF ?_
  obtain rfl:=ak h
  refine QG ?_
  exact⟨a12,c35,rfl,hI.ext0,hI.fin ⟨.z,ah⟩⟩
 intro hk_tr_ref16_typ_4_0
 refine bR rfl gn rfl (λw' hw'=>(am (l:=[vi 2,vi r5.1,vi r7.1,vi r9.1,vi r11.1]) rfl et qQ rfl bX ((CA.blk (hI.blk .z) rfl).at_ (SX.any rfl hw')))) (by kernel_rfl) ?_
 refine cL ?_ ?_
 ·skip
  refine bq rfl gn rfl (am (l:=(ag r12 a12 c35)) rfl et jO rfl aG (LU (hI.blk .p3) rfl)) LW ?_
  refine bK (F:=F) (C:=c38) rfl rfl ?_
  refine vA λc44 w46 hI=>?_
  exact bc (hk_tr_ref16_typ_4_0 c44 _ (hI.arr GO SU)) SB
 refine bB (F:=F) (C:=c38) rfl rfl ?_
 refine vA λc44 w46 hI=>?_
 refine bq rfl gn rfl (am (l:=(ag r12 a12 c35)) rfl et jO rfl aG (LU (hI.blk .p3) rfl)) LW ?_
 exact bc (hk_tr_ref16_typ_4_0 c44 _ (hI.arr GO SU)) SB
def mq:Tr:=(.c (3,.s) .n)
abbrev LE (f_:(ab→Int→Option (GExpr×ab))):Prop:=∀ ⦃F:NP⦄ ⦃w0:World⦄ (hF:dK F w0) ⦃p1:ab⦄ ⦃n1:Int⦄ ⦃a1:Option Addr⦄ ⦃c1:Nat⦄ (hc:AllCl [LT af a1 c1 p1.L] F w0) ⦃r:GExpr×ab⦄ (h:f_ p1 n1=some r),Cg 80 #[(Value.agg (ac p1 a1 c1)),vi n1] w0 λe w=>∃ a2 c2 a3 c3 a4 c4 a5 c5,e= .returned (Value.tuple #[(Value.agg (aI r.1 a2 c2 a3 c3 a4 c4)),(Value.agg (ac r.2 a5 c5))])∧Ext w0 w∧AllCl [LT aj a2 c2 r.1.Lin.L,LT an a3 c3 r.1.Idx,LT ap a4 c4 r.1.Args,LT af a5 c5 r.2.L] F w
theorem oN {rec_:(ab→Int→Option (GExpr×ab))} (hrec:LE rec_) (hF:dK F w0) {p1:ab} {op1 many1:Int} {typed1:Bool} (hc:AllCl [LT af a1 c1 p1.L] F w0) {r:GExpr×ab} (h:eu rec_ p1 op1 many1 typed1=some r):Cg 209 #[(Value.agg (ac p1 a1 c1)),vi op1,vi many1,vb typed1] w0 λe w=>∃ a2 c2 a3 c3 a4 c4 a5 c5,e= .returned (Value.tuple #[(Value.agg (aI r.1 a2 c2 a3 c3 a4 c4)),(Value.agg (ac r.2 a5 c5))])∧Ext w0 w∧AllCl [LT aj a2 c2 r.1.Lin.L,LT an a3 c3 r.1.Idx,LT ap a4 c4 r.1.Args,LT af a5 c5 r.2.L] F w:=by
 refine EN Tryz.func209 Tryz.ntmps209 hF hc λhI=>?_
 rw[eu]at h
 refine sr (kL (v:=(Value.agg (ac p1 a1 c1))) (cs:=(ac p1 a1 c1)) hI gn rfl rfl et rfl ?_)
 intro b1 c6 w1 hI
 refine lN λb2 c7 w2 hI=>?_
 refine lN λb3 c8 w3 hI=>?_
 refine T ?_
 refine sq (aC (vs:=[(0,vi op1)]) (cs:=#[vi op1,(aT []),vi 0,vi 0,vi 0,vi 0,vi 0,vi 0,vi 0,vi 0,vs none 0 0,vs none 0 0,vs none 0 0]) rfl ⟨rfl,et,ah⟩ (by kernel_rfl)) ?_
 refine lN λb4 c9 w4 hI=>?_
 refine aQ (new:=[vi op1,(aT []),vi 0,vi 0,vi 0,vi 0,vi 0,vi 0,vi 0,vi 0,vs none 0 0,vs none 0 0,vs none 0 0]) (cs':=#[vi op1,(aT []),vi 0,vi 0,vi 0,vi 0,vi 0,vi 0,vi 0,vi 0,vs none 0 0,vs none 0 0,vs none 0 0]) hI .z gn rfl rfl et et rfl aS rfl rfl rfl ?_
 intro c10 w5 hI
 refine T ?_
 refine al (T ?_)
 refine sB h (λ_ k=>bx hI.lt FS k) (Rc Tryz.func72) λr1 w6 h hI=>?_
 refine TC (λhb h=>?_) λhb h=>?_
 ·refine sr (sq (aC (vs:=[]) (cs:=lp) rfl trivial (by kernel_rfl)) ?_)
  refine T ?_
  obtain⟨r2,hx3,h⟩:=ae h
  refine aw gn rfl (Rc Tryz.func41) (Calls.mono (mf hI.lt FS hx3) ?_)
  rintro _ w7 ⟨a6,c11,rfl,hx4,hl2⟩
  refine⟨_,rfl,?_⟩
  replace hI:=(hI.ext hx4).adds hl2;dsimp only[ca,na]at hI
  refine aQ (new:=KH) (cs':=lp) hI .p2 gn rfl rfl et et rfl aS rfl rfl rfl ?_
  intro c12 w8 hI
  refine aQ (new:=(ag r2 a6 c11)) (cs':=(ac r2 a6 c11)) hI .p1 gn rfl rfl et et rfl aG rfl rfl rfl ?_
  intro c13 w9 hI
  refine nk (aF ?_)
  have hI:=hI.add (c:=LT aj none 0 ([]:List GMono)) SlC.nil
  have hI:=hI.add (c:=LT an none 0 ([]:List GIndex)) SlC.nil
  have hI:=hI.add (c:=LT ap none 0 ([]:List GExpr)) SlC.nil
  obtain rfl:=ak h
  exact fY (vs:=[(Value.agg lp),(Value.agg (ac r2 a6 c11))]) Tryz.results209 ⟨⟨_,aR rfl rfl,cv (l:=KH) mD rfl aS (LU (hI.blk .p2) rfl)⟩,⟨_,aR rfl rfl,cv (l:=(ag r2 a6 c11)) jO rfl aG (LU (hI.blk .p1) rfl)⟩,ah⟩ ⟨none,0,none,0,none,0,a6,c11,rfl,hI.ext0,hI.fin ⟨.p2,.p1,.z,.p3,ah⟩⟩
 refine T ?_
 obtain⟨r3,hx5,h⟩:=ae h
 refine aw gn rfl (Rc Tryz.func150) (Calls.mono (tH hI.lt FS hx5) ?_)
 rintro _ w10 ⟨a7,c14,rfl,hx6,hl3⟩
 refine⟨_,rfl,?_⟩
 replace hI:=(hI.ext hx6).adds hl3;dsimp only[ca,na]at hI
 refine aQ (new:=(ag r3 a7 c14)) (cs':=(ac r3 a7 c14)) hI .p3 gn rfl rfl et et rfl aG rfl rfl rfl ?_
 intro c15 w11 hI
 refine nk (bM (α:=GExpr×ab×(Option Addr)×Nat×(Option Addr)×Nat×(Option Addr)×Nat×(Option Addr)×Nat) (λ_=>⟨68,[]⟩) (λx=>[(2,vi many1),(3,vb typed1),(4,vp b1 0),(8,vp b2 0),(9,vp b3 0),(10,vp b4 0),(11,vi p1.Deep)]) (λx=>λw=>∃ C,Bun du F w0 C w [LV aj 64 (x.2.2.1) (x.2.2.2.1) (x.1).Lin.L,LV an 132 (x.2.2.2.2.1) (x.2.2.2.2.2.1) (x.1).Idx,LV ap 39 (x.2.2.2.2.2.2.1) (x.2.2.2.2.2.2.2.1) (x.1).Args,MO.box b1 72 (ac (x.2.1) (x.2.2.2.2.2.2.2.2.1) (x.2.2.2.2.2.2.2.2.2)),MO.box b2 39 lp,MO.box b3 72 av,MO.box b4 39 (aI (x.1) (x.2.2.1) (x.2.2.2.1) (x.2.2.2.2.1) (x.2.2.2.2.2.1) (x.2.2.2.2.2.2.1) (x.2.2.2.2.2.2.2.1))] [LT af (x.2.2.2.2.2.2.2.2.1) (x.2.2.2.2.2.2.2.2.2) (x.2.1).L]∧eO many1 typed1 rec_ p1 (x.1) (x.2.1)=some r) ?_ ?_)
 ·clear h hI;rintro⟨aN,p2,a8,c16,a9,c17,a10,c18,a11,c19⟩ w12 ⟨c20,hI,h⟩
  try dsimp only at hI h ⊢
  rw[eO]at h
  refine bM (α:=ab×GExpr×(Option Addr)×Nat×(Option Addr)×Nat×(Option Addr)×Nat×(Option Addr)×Nat) (λ_=>⟨68,[]⟩) (λx=>[(4,vp b1 0),(8,vp b2 0),(9,vp b3 0),(10,vp b4 0),(11,vi p1.Deep)]) (λx=>λw=>∃ C,Bun du F w0 C w [LV aj 64 (x.2.2.2.2.1) (x.2.2.2.2.2.1) (x.2.1).Lin.L,LV an 132 (x.2.2.2.2.2.2.1) (x.2.2.2.2.2.2.2.1) (x.2.1).Idx,LV ap 39 (x.2.2.2.2.2.2.2.2.1) (x.2.2.2.2.2.2.2.2.2) (x.2.1).Args,MO.box b1 72 (ac (x.1) (x.2.2.1) (x.2.2.2.1)),MO.box b2 39 lp,MO.box b3 72 av,MO.box b4 39 (aI (x.2.1) (x.2.2.2.2.1) (x.2.2.2.2.2.1) (x.2.2.2.2.2.2.1) (x.2.2.2.2.2.2.2.1) (x.2.2.2.2.2.2.2.2.1) (x.2.2.2.2.2.2.2.2.2))] [LT af (x.2.2.1) (x.2.2.2.1) (x.1).L]∧ji p1 (x.1) (x.2.1)=some r) ?_ ?_
  ·clear h hI;rintro⟨p3,out2,a12,c21,a13,c22,a14,c23,a15,c24⟩ w13 ⟨c25,hI,h⟩
   try dsimp only at hI h ⊢
   rw[ji]at h
   refine T ?_
   obtain⟨r4,hx7,h⟩:=ae h
   refine aw gn rfl (Rc Tryz.func110) (Calls.mono (bn hI.lt FS hx7) ?_)
   rintro _ w14 ⟨a16,c26,rfl,hx8,hl4⟩
   refine⟨_,rfl,?_⟩
   replace hI:=(hI.ext hx8).adds hl4;dsimp only[ca,na]at hI
   refine aQ (new:=(ag r4 a16 c26)) (cs':=(ac r4 a16 c26)) hI .p3 gn rfl rfl et et rfl aG rfl rfl rfl ?_
   intro c27 w15 hI
   refine T ?_
   refine lS λc28 w16 hI=>?_
   refine nk (al (aJ [2,3] false (.c (0,.q) (.two 1 (.c (2,.s) mq) 2 (.c (1,.s) mq))) hI (by kernel_rfl) (by kernel_rfl) ?_))
   intro w20 hI
   refine bT (α:=NP) (T:=mq) (λx=>[(8,vp b2 0),(9,vp b3 0),(67,(Value.agg #[vs a16 r4.L.length c26,vi r4.At,vi p1.Deep,vi r4.E,vi r4.Pos]))]) (λx w=>Bun du F w0 x w [LV aj 64 a13 c22 out2.Lin.L,LV an 132 a14 c23 out2.Idx,LV ap 39 a15 c24 out2.Args,MO.box b1 72 #[vs a16 r4.L.length c26,vi r4.At,vi p1.Deep,vi r4.E,vi r4.Pos],MO.box b2 39 (aI out2 a13 c22 a14 c23 a15 c24),MO.box b3 72 av,MO.box b4 39 (aI out2 a13 c22 a14 c23 a15 c24)] [LT af a16 c26 r4.L,LT af a12 c21 p3.L]) (λx w=>SN [] (DM true F x) w) ?_ ?_
   ·clear hI;rintro c31 w19 hI
    try dsimp only at hI ⊢
    unfold mq
    refine vA λc30 w18 hI=>?_
    refine V ?_
    refine aF ?_
    obtain⟨c32,hI⟩:=hI.release .z
    obtain⟨c33,hI⟩:=hI.release .z
    obtain⟨c34,hI⟩:=hI.release .z
    obtain rfl:=ak h
    exact fY (vs:=[(Value.agg (aI out2 a13 c22 a14 c23 a15 c24)),(Value.agg #[vs a16 r4.L.length c26,vi r4.At,vi p1.Deep,vi r4.E,vi r4.Pos])]) Tryz.results209 ⟨⟨_,aR rfl rfl,cv (l:=(bz out2 a13 c22 a14 c23 a15 c24)) mD rfl aS (LU (hI.blk .p1) rfl)⟩,⟨_,aR rfl rfl,cv (l:=[vs a16 r4.L.length c26,vi r4.At,vi p1.Deep,vi r4.E,vi r4.Pos]) jO rfl aG (LU (hI.blk .p2) rfl)⟩,ah⟩ ⟨a13,c22,a14,c23,a15,c24,a16,c26,rfl,hI.ext0,hI.fin ⟨.p2,.p1,.z,.p3,ah⟩⟩
   intro hk_tr_ref16_call_1_0
   refine bR rfl gn rfl (λw' hw'=>(am (l:=(bz out2 a13 c22 a14 c23 a15 c24)) rfl et mD rfl aS ((CA.blk (hI.blk .p6) rfl).at_ (SX.any rfl hw')))) (by kernel_rfl) ?_
   refine cL ?_ ?_
   ·skip
    refine bq rfl gn rfl (am (l:=[vs a16 r4.L.length c26,vi r4.At,vi p1.Deep,vi r4.E,vi r4.Pos]) rfl et jO rfl aG (LU (hI.blk .p3) rfl)) LW ?_
    refine bK (F:=F) (C:=c28) rfl rfl ?_
    refine vA λc29 w17 hI=>?_
    exact bc (hk_tr_ref16_call_1_0 c29 _ (hI.arr (.c .z (.c .z (.c .z (.c .z (.c .z (.c .z (.c .z .n))))))) ⟨.z,.p1,ah⟩)) ⟨rfl,rfl,rfl,ah⟩
   refine bB (F:=F) (C:=c28) rfl rfl ?_
   refine vA λc29 w17 hI=>?_
   refine bq rfl gn rfl (am (l:=[vs a16 r4.L.length c26,vi r4.At,vi p1.Deep,vi r4.E,vi r4.Pos]) rfl et jO rfl aG (LU (hI.blk .p3) rfl)) LW ?_
   exact bc (hk_tr_ref16_call_1_0 c29 _ (hI.arr (.c .z (.c .z (.c .z (.c .z (.c .z (.c .z (.c .z .n))))))) ⟨.z,.p1,ah⟩)) ⟨rfl,rfl,rfl,ah⟩
  refine T ?_
  refine bs (α:=Nat×Int×ab×GExpr×(Option Addr)×Nat×(Option Addr)×Nat×(Option Addr)×Nat×(Option Addr)×Nat) (λx=>λw=>∃ C,Bun du F w0 C w [LV aj 64 (x.2.2.2.2.2.2.1) (x.2.2.2.2.2.2.2.1) (x.2.2.2.1).Lin.L,LV an 132 (x.2.2.2.2.2.2.2.2.1) (x.2.2.2.2.2.2.2.2.2.1) (x.2.2.2.1).Idx,LV ap 39 (x.2.2.2.2.2.2.2.2.2.2.1) (x.2.2.2.2.2.2.2.2.2.2.2) (x.2.2.2.1).Args,MO.box b1 72 (ac (x.2.2.1) (x.2.2.2.2.1) (x.2.2.2.2.2.1)),MO.box b2 39 lp,MO.box b3 72 av,MO.box b4 39 (aI (x.2.2.2.1) (x.2.2.2.2.2.2.1) (x.2.2.2.2.2.2.2.1) (x.2.2.2.2.2.2.2.2.1) (x.2.2.2.2.2.2.2.2.2.1) (x.2.2.2.2.2.2.2.2.2.2.1) (x.2.2.2.2.2.2.2.2.2.2.2))] [LT af (x.2.2.2.2.1) (x.2.2.2.2.2.1) (x.2.2.1).L]∧bY many1 typed1 rec_ p1 (x.1) (x.2.1) (x.2.2.1) (x.2.2.2.1)=some r) (λx _=>x.1) (λx=>[(2,vi many1),(3,vb typed1),(4,vp b1 0),(8,vp b2 0),(9,vp b3 0),(10,vp b4 0),(11,vi p1.Deep),(14,vi (x.2.1))]) (fu,0,p2,aN,a11,c19,a8,c16,a9,c17,a10,c18) ⟨_,hI.arr (.c .z (.c .z (.c .z (.c .z (.c .z (.c .z (.c .z .n))))))) ⟨.z,ah⟩,h⟩ ⟨rfl,rfl,rfl,rfl,rfl,rfl,rfl,rfl,ah⟩ ?_
  clear h hI;rintro⟨fuel1,i1,p4,out3,a17,c35,a18,c36,a19,c37,a20,c38⟩ w21 ⟨c39,hI,h⟩
  dsimp only at hI h ⊢
  rcases fuel1 with _ | fuel1
  ·rw[bY]at h;cases h
  rw[bY]at h
  refine al (T ?_)
  refine TC (λhb h=>?_) λhb h=>?_
  ·refine T ?_
   refine al (T ?_)
   refine bM (α:=ab×(Option Addr)×Nat) (λ_=>⟨68,[]⟩) (λx=>[(2,vi many1),(3,vb typed1),(4,vp b1 0),(8,vp b2 0),(9,vp b3 0),(10,vp b4 0),(11,vi p1.Deep),(14,vi i1)]) (λx=>λw=>∃ C,Bun du F w0 C w [MO.box b1 72 (ac (x.1) (x.2.1) (x.2.2)),MO.box b2 39 lp,MO.box b3 72 av,MO.box b4 39 (aI out3 a18 c36 a19 c37 a20 c38),LV aj 64 a18 c36 out3.Lin.L,LV an 132 a19 c37 out3.Idx,LV ap 39 a20 c38 out3.Args] [LT af (x.2.1) (x.2.2) (x.1).L]∧eN rec_ out3 (bY many1 typed1 rec_ p1 fuel1) i1 (x.1)=some r) ?_ ?_
   ·clear h hI;rintro⟨p5,a21,c40⟩ w22 ⟨c41,hI,h⟩
    try dsimp only at hI h ⊢
    rw[eN]at h
    refine T ?_
    obtain⟨r5,hx9,h⟩:=ae h
    refine aw gn rfl (Rc Tryz.func80) (Calls.mono (hrec hI.lt FS hx9) ?_)
    rintro _ w23 ⟨a22,c42,a23,c43,a24,c44,a25,c45,rfl,hx10,hl5⟩
    refine⟨_,rfl,?_⟩
    replace hI:=(hI.ext hx10).adds hl5;dsimp only[ca,na]at hI
    refine T ?_
    refine lN λb5 c46 w24 hI=>?_
    refine lN λb6 c47 w25 hI=>?_
    refine aQ (new:=(bz r5.1 a22 c42 a23 c43 a24 c44)) (cs':=(aI r5.1 a22 c42 a23 c43 a24 c44)) hI .p1 gn rfl rfl et et rfl aS rfl rfl rfl ?_
    intro c48 w26 hI
    refine aQ (new:=(ag r5.2 a25 c45)) (cs':=(ac r5.2 a25 c45)) hI .z gn rfl rfl et et rfl aG rfl rfl rfl ?_
    intro c49 w27 hI
    refine T ?_
    refine ll hI ap ([r5.1]:List GExpr) mC (.cs (jg ⟨a22,c42,a23,c43,a24,c44,rfl,hI.get .z,hI.get .p1,hI.get .p2⟩) .nl) λb7 c50 w28 hI=>?_
    obtain⟨zs1,hx11,h⟩:=ae h
    refine il (xs:=out3.Args) (ys:=([r5.1]:List GExpr)) hI .p9 (hI.rd .z) hx11 gn rfl rfl KE mC rfl rfl et et ?_
    intro a26 c51 c52 w29 hI
    refine T ?_
    refine lS λc53 w30 hI=>?_
    refine T ?_
    refine aQ (new:=(ag r5.2 a25 c45)) (cs':=(ac r5.2 a25 c45)) hI .p3 gn rfl rfl et et rfl aG rfl rfl rfl ?_
    intro c54 w31 hI
    refine T ?_
    refine aO ?_
    exact ny (fuel1,au (i1+1),r5.2,(⟨out3.Op,out3.Name,out3.Val,out3.Type_,out3.Lin,out3.Idx,zs1⟩:GExpr),a25,c45,a18,c36,a19,c37,a26,c51) ⟨rfl,rfl,rfl,rfl,rfl,rfl,rfl,rfl,ah⟩ ⟨_,hI.arr (.c .p7 (.c .p7 (.c .p7 (.c .p3 (.c .p3 (.c .p3 (.c .p3 .n))))))) ⟨.p3,ah⟩,h⟩ (Nat.lt_succ_self _)
   refine TC (λhb h=>?_) λhb h=>?_
   ·refine T ?_
    obtain⟨r6,hx12,h⟩:=ae h
    refine aw gn rfl (Rc Tryz.func110) (Calls.mono (bn hI.lt FS hx12) ?_)
    rintro _ Dq ⟨a27,c55,rfl,hx13,hl6⟩
    refine⟨_,rfl,?_⟩
    replace hI:=(hI.ext hx13).adds hl6;dsimp only[ca,na]at hI
    refine aQ (new:=(ag r6 a27 c55)) (cs':=(ac r6 a27 c55)) hI .p3 gn rfl rfl et et rfl aG rfl rfl rfl ?_
    intro c56 w33 hI
    refine aO ?_
    exact bu (r6,a27,c55) ⟨rfl,rfl,rfl,rfl,rfl,rfl,rfl,rfl,ah⟩ ⟨_,hI.arr (.c .p3 (.c .p3 (.c .p3 (.c .p3 (.c .z (.c .z (.c .z .n))))))) ⟨.z,ah⟩,h⟩ rfl
   exact bl (bu (p4,a17,c35) ⟨rfl,rfl,rfl,rfl,rfl,rfl,rfl,rfl,ah⟩ ⟨_,hI.arr (.c .p3 (.c .p3 (.c .p3 (.c .p3 (.c .z (.c .z (.c .z .n))))))) ⟨.z,ah⟩,h⟩ rfl)
  refine bv ?_
  refine fi ?_
  exact bu (p4,out3,a17,c35,a18,c36,a19,c37,a20,c38) ⟨rfl,rfl,rfl,rfl,rfl,ah⟩ ⟨_,hI.arr (.c .z (.c .z (.c .z (.c .z (.c .z (.c .z (.c .z .n))))))) ⟨.z,ah⟩,h⟩ rfl
 refine TC (λhb h=>?_) λhb h=>?_
 ·refine T ?_
  obtain⟨r7,hx14,h⟩:=ae h
  refine aw gn rfl (Rc Tryz.func178) (Calls.mono (qK hI.lt FS hx14) ?_)
  rintro _ w34 ⟨a28,c57,rfl,hx15,hl7⟩
  refine⟨_,rfl,?_⟩
  replace hI:=(hI.ext hx15).adds hl7;dsimp only[ca,na]at hI
  refine T ?_
  refine lN λb8 c58 w35 hI=>?_
  refine lN λb9 c59 w36 hI=>?_
  refine aQ (new:=(cU r7.1)) (cs':=(d9 r7.1)) hI .p1 gn rfl rfl et et rfl bX rfl rfl rfl ?_
  intro c60 w37 hI
  refine aQ (new:=(ag r7.2 a28 c57)) (cs':=(ac r7.2 a28 c57)) hI .z gn rfl rfl et et rfl aG rfl rfl rfl ?_
  intro c61 w38 hI
  refine T ?_
  refine aQ (new:=(cU r7.1)) (cs':=#[vi op1,(aT []),vi 0,vi 0,vi r7.1.Kind,vi r7.1.Bits,vi r7.1.Frac,vi r7.1.Round,vi r7.1.Over,vi 0,vs none 0 0,vs none 0 0,vs none 0 0]) hI .p2 gn rfl rfl et et rfl bX rfl rfl rfl ?_
  intro c62 w39 hI
  refine T ?_
  refine aQ (new:=(ag r7.2 a28 c57)) (cs':=(ac r7.2 a28 c57)) hI .p5 gn rfl rfl et et rfl aG rfl rfl rfl ?_
  intro c63 w40 hI
  refine aO ?_
  have hI:=hI.nil aj 64 none
  have hI:=hI.nil an 132 none
  have hI:=hI.nil ap 39 none
  exact bu ((⟨op1,[],⟨0,0⟩,r7.1,⟨0,[]⟩,[],[]⟩:GExpr),r7.2,none,0,none,0,none,0,a28,c57) ⟨rfl,rfl,rfl,rfl,rfl,rfl,rfl,ah⟩ ⟨_,hI.arr (.c .p2 (.c .p1 (.c .z (.c .p5 (.c .p4 (.c .p3 (.c .p2 .n))))))) ⟨.z,ah⟩,h⟩ rfl
 refine bl ?_
 have hI:=hI.nil aj 64 none
 have hI:=hI.nil an 132 none
 have hI:=hI.nil ap 39 none
 exact bu ((⟨op1,[],⟨0,0⟩,⟨0,0,0,0,0⟩,⟨0,[]⟩,[],[]⟩:GExpr),r3,none,0,none,0,none,0,a7,c14) ⟨rfl,rfl,rfl,rfl,rfl,rfl,rfl,ah⟩ ⟨_,hI.arr (.c .p2 (.c .p1 (.c .z (.c .p3 (.c .p2 (.c .p1 (.c .z .n))))))) ⟨.z,ah⟩,h⟩ rfl
theorem qL (hF:dK F w0) {p1:ab} {l1:List (List UInt8)} (hc:AllCl [LT af a1 c1 p1.L,LT bk a2 c2 l1] F w0) {r:Bool} (h:iS p1 l1=some r):CR F w0 181 #[(Value.agg (ac p1 a1 c1)),vs a2 l1.length c2] (vb r) []:=by
 refine EN Tryz.func181 Tryz.ntmps181 hF hc λhI=>?_
 rw[iS]at h
 refine sr (lX λb1 c4 w1 hI=>?_)
 refine T ?_
 refine al (T ?_)
 refine bs (α:=Nat×Int) (λx=>λw=>∃ C,Bun du F w0 C w [] [LT bk a2 c2 l1,Cl.blk b1 72 (ac p1 a1 c1),LT af a1 c1 p1.L]∧fF l1 p1 (x.1) (x.2)=some r) (λx _=>x.1) (λx=>[(1,vs a2 l1.length c2),(2,vp b1 0),(5,vi (x.2))]) (fu,0) BH SB ?_
 clear h hI;rintro⟨fuel1,i1⟩ w2 ⟨c5,hI,h⟩
 dsimp only at hI h ⊢
 rcases fuel1 with _ | fuel1
 ·rw[fF]at h;cases h
 rw[fF]at h
 refine al (T ?_)
 refine TC (λhb h=>?_) λhb h=>?_
 ·refine T ?_
  refine al (T ?_)
  refine al (aJ [] false (.c (0,.q) (.c (1,.q) (.c (2,.q) (.c (3,.q) (.c (4,.q) (.c (5,.s) .n)))))) hI (by kernel_rfl) (by kernel_rfl) ?_)
  intro w3 hI
  refine bR rfl gn rfl (λw' hw'=>(am (l:=(ag p1 a1 c1)) rfl et jO rfl aG ((hI.kblk (l:=(ag p1 a1 c1)) .p1 rfl).at_ (SX.any rfl hw')))) (by kernel_rfl) ?_
  refine V ?_
  obtain⟨e1,hx1,h⟩:=ae h
  obtain⟨ad1,cs1,hA1,hr1,hq1⟩:=hI.clat .z hx1
  obtain rfl:cs1=[(aT e1)]:=hr1
  refine vI ?_
  refine V ?_
  obtain⟨r1,hx2,h⟩:=ae h
  refine dk rfl gn rfl (aD (vs:=[(Value.agg (ac p1 a1 c1)),vi 0,(aT e1)]) rfl GU ⟨et,ao,et,ah⟩) (Calls.mono (bx hI.lt FS hx2) ?_)
  rintro _ w4 ⟨rfl,hx3,hl1⟩
  refine⟨_,rfl,hx3,?_⟩
  replace hI:=(hI.ext hx3)
  refine V ?_
  refine TR λhb h=>?_
  refine T ?_
  refine aO ?_
  exact kl (fuel1,au (i1+1))
 refine bv ?_
 refine fi ?_
 refine bh ?_
 exact RF
theorem uE (hF:dK F w0) {s1:List UInt8} (hc:AllCl [] F w0) {r:Bool} (h:l8 s1=some r):CR F w0 249 #[(aT s1)] (vb r) []:=by
 refine EN Tryz.func249 Tryz.ntmps249 hF hc λhI=>?_
 rw[l8]at h
 refine T ?_
 refine bM (α:=Int) (λ_=>⟨45,[]⟩) (λx=>[(0,(aT s1)),(3,vi x)]) (λx=>λw=>∃ C,Bun du F w0 C w [] []∧fV s1 x=some r) ?_ ?_
 ·clear h hI;rintro from1 w1 ⟨c1,hI,h⟩
  try dsimp only at hI h ⊢
  rw[fV]at h
  refine bM (α:=Unit) (λ_=>⟨45,[]⟩) (λ_=>[(0,(aT s1)),(3,vi from1)]) (λ_=>λw=>∃ C,Bun du F w0 C w [] []∧iI from1 s1=some r) ?_ ?_
  ·clear h hI;rintro _ w2 ⟨c2,hI,h⟩
   try dsimp only at hI h ⊢
   rw[iI]at h
   refine T ?_
   obtain⟨b1,hx1,h⟩:=ae h
   replace hx1:=ay hx1
   refine sJ ?_
   exact RF
  refine T ?_
  refine bs (α:=Nat×Int) (λx=>λw=>∃ C,Bun du F w0 C w [] []∧jJ s1 from1 (x.1) (x.2)=some r) (λx _=>x.1) (λx=>[(0,(aT s1)),(3,vi from1),(4,vi (x.2))]) (fu,from1) BH SB ?_
  clear h hI;rintro⟨fuel1,i1⟩ w3 ⟨c3,hI,h⟩
  dsimp only at hI h ⊢
  rcases fuel1 with _ | fuel1
  ·rw[jJ]at h;cases h
  rw[jJ]at h
  refine al (T ?_)
  refine TC (λhb h=>?_) λhb h=>?_
  ·refine T ?_
   refine al (T ?_)
   obtain⟨b2,hx2,h⟩:=ae h
   refine sI ?_
   refine T ?_
   obtain⟨b3,hx3,h⟩:=ae h
   replace hx3:=ay hx3
   refine sJ ?_
   refine TR λhb h=>?_
   refine T ?_
   refine aO ?_
   exact kl (fuel1,au (i1+1))
  refine bv ?_
  refine fi ?_
  exact kj ()
 refine T ?_
 obtain⟨b4,hx4,h⟩:=ae h
 replace hx4:=ay hx4
 refine sJ ?_
 refine TC (λhb h=>?_) λhb h=>?_
 ·refine T ?_
  refine aO ?_
  exact kj 1
 exact bl (bu 0 SB BH rfl)
theorem uD (hF:dK F w0) {s1:List UInt8} (hc:AllCl [] F w0) {r:Int×Bool} (h:iN s1=some r):CR F w0 250 #[(aT s1)] (Value.tuple #[vi r.1,vb r.2]) []:=by
 refine EN Tryz.func250 Tryz.ntmps250 hF hc λhI=>?_
 rw[iN]at h
 refine T ?_
 refine bM (α:=Int) (λ_=>⟨37,[]⟩) (λx=>[(0,(aT s1)),(4,vi x)]) (λx=>λw=>∃ C,Bun du F w0 C w [] []∧fU s1 x=some r) ?_ ?_
 ·clear h hI;rintro n1 w1 ⟨c1,hI,h⟩
  try dsimp only at hI h ⊢
  rw[fU]at h
  refine al (T ?_)
  obtain⟨b1,hx1,h⟩:=ae h
  replace hx1:=ay hx1
  refine sJ ?_
  refine TR λhb h=>?_
  exact RF
 refine T ?_
 refine bs (α:=Nat×Int×Int) (λx=>λw=>∃ C,Bun du F w0 C w [] []∧cz s1 (x.1) (x.2.1) (x.2.2)=some r) (λx _=>x.1) (λx=>[(0,(aT s1)),(4,vi (x.2.1)),(5,vi (x.2.2))]) (fu,0,0) BH SB ?_
 clear h hI;rintro⟨fuel1,n2,i1⟩ w2 ⟨c2,hI,h⟩
 dsimp only at hI h ⊢
 rcases fuel1 with _ | fuel1
 ·rw[cz]at h;cases h
 rw[cz]at h
 refine al (T ?_)
 refine TC (λhb h=>?_) λhb h=>?_
 ·refine T ?_
  refine bM (α:=Int) (λ_=>⟨37,[]⟩) (λx=>[(0,(aT s1)),(4,vi x),(5,vi i1)]) (λx=>λw=>∃ C,Bun du F w0 C w [] []∧jI (cz s1 fuel1) i1 x=some r) ?_ ?_
  ·clear h hI;rintro n3 w3 ⟨c3,hI,h⟩
   try dsimp only at hI h ⊢
   rw[jI]at h
   refine T ?_
   refine aO ?_
   exact kl (fuel1,n3,au (i1+1))
  refine T ?_
  refine al (T ?_)
  obtain⟨b2,hx2,h⟩:=ae h
  refine sI ?_
  refine TC (λhb h=>?_) λhb h=>?_
  ·refine bv ?_
   refine fi ?_
   exact kj n2
  refine T ?_
  obtain⟨b3,hx3,h⟩:=ae h
  refine sq (F9 rfl u9 et et hx3) ?_
  refine sq (wD rfl et ao) ?_
  refine sq (Dp rfl (by rw[u5];rfl) u2 et) ?_
  refine sq (sv rfl et et) ?_
  obtain⟨n4,hx4,h⟩:=ae h
  refine sq (va (cP rfl et) (congrArg (Value.int .i64) (ak hx4))) ?_
  refine TR λhb h=>?_
  exact bl (bu n4 SB BH rfl)
 refine bv ?_
 refine fi ?_
 exact kj n2
theorem vN (hF:dK F w0) {n1:Int} (hc:AllCl [] F w0) {r:Int} (h:kx n1=some r):CR F w0 183 #[vi n1] (Value.int .u64 r) []:=by
 refine EN Tryz.func183 Tryz.ntmps183 hF hc λhI=>?_
 rw[kx]at h
 refine T ?_
 refine al (T ?_)
 refine TR λhb h=>?_
 exact RF
theorem CY (hF:dK F w0) {a1 b1:Int} (hc:AllCl [] F w0) {r:Int} (h:qG a1 b1=some r):CR F w0 245 #[(Value.int .u64 a1),(Value.int .u64 b1)] (Value.int .u64 r) []:=by
 refine EN Tryz.func245 Tryz.ntmps245 hF hc λhI=>?_
 rw[qG]at h
 refine T ?_
 refine al (T ?_)
 refine bs (α:=Nat×Int×Int) (λx=>λw=>∃ C,Bun du F w0 C w [] []∧kW (x.1) (x.2.1) (x.2.2)=some r) (λx _=>x.1) (λx=>[(0,(Value.int .u64 (x.2.1))),(1,(Value.int .u64 (x.2.2)))]) (fu,a1,b1) BH SB ?_
 clear h hI;rintro⟨fuel1,a2,b2⟩ w1 ⟨c1,hI,h⟩
 dsimp only at hI h ⊢
 rcases fuel1 with _ | fuel1
 ·rw[kW]at h;cases h
 rw[kW]at h
 refine al (T ?_)
 refine TC (λhb h=>?_) λhb h=>?_
 ·refine T ?_
  refine aJ [] false (.c (0,.q) (.c (1,.q) (.c (2,.q) (.c (3,.q) (.c (4,.q) (.c (5,.q) .n)))))) hI (by kernel_rfl) (by kernel_rfl) ?_
  intro w2 hI
  refine V ?_
  obtain⟨ho1,h⟩:=fC h
  refine nv rfl gn rfl (λw'=>BS rfl et et ho1) ?_
  refine V ?_
  refine oY ?_
  exact kl (fuel1,b2,Int.tmod a2 b2)
 refine bv ?_
 refine fi ?_
 refine bh ?_
 exact RF
theorem zF (hF:dK F w0) {s1:List UInt8} (hc:AllCl [] F w0) {r:GVal×Int} (h:nL s1=some r):CR F w0 244 #[(aT s1)] (Value.tuple #[(Value.agg (uk r.1)),vi r.2]) []:=by
 refine EN Tryz.func244 Tryz.ntmps244 hF hc λhI=>?_
 rw[nL]at h
 refine sr (dl (cs:=#[vi 0,vi 0]) hI gn rfl rfl rH rfl ?_)
 intro b1 c1 w1 hI
 refine T ?_
 refine bM (α:=(List UInt8)×(List UInt8)) (λ_=>⟨83,[]⟩) (λx=>[(2,vp b1 0),(4,(aT (x.1))),(5,(aT (x.2)))]) (λx=>λw=>∃ C,Bun du F w0 C w [MO.box b1 33 #[vi 0,vi 0]] []∧kX (x.1) (x.2)=some r) ?_ ?_
 ·clear h hI;rintro⟨up1,down1⟩ w2 ⟨c2,hI,h⟩
  try dsimp only at hI h ⊢
  rw[kX]at h
  refine al (T ?_)
  refine sB h (λ_ k=>uE hI.lt trivial k) (Rc Tryz.func249) λr1 w3 h hI=>?_
  refine TC (λhb h=>?_) λhb h=>?_
  ·refine sr (sq (aC (vs:=[]) (cs:=#[vi 0,vi 0]) rfl trivial (by kernel_rfl)) ?_)
   refine lA λc3 w4 hI=>?_
   exact RQ
  refine T ?_
  refine bM (α:=(List UInt8)) (λ_=>⟨83,[]⟩) (λx=>[(2,vp b1 0),(4,(aT up1)),(5,(aT x))]) (λx=>λw=>∃ C,Bun du F w0 C w [MO.box b1 33 #[vi 0,vi 0]] []∧jL up1 x=some r) ?_ ?_
  ·clear h hI;rintro down2 w5 ⟨c4,hI,h⟩
   try dsimp only at hI h ⊢
   rw[jL]at h
   refine T ?_
   refine sB h (λ_ k=>uD hI.lt trivial k) (Rc Tryz.func250) λr2 w6 h hI=>?_
   refine T ?_
   refine sB h (λ_ k=>uD hI.lt trivial k) (Rc Tryz.func250) λr3 w7 h hI=>?_
   refine T ?_
   refine al (T ?_)
   refine TC (λhb h=>?_) λhb h=>?_
   ·refine sr (sq (aC (vs:=[]) (cs:=#[vi 0,vi 0]) rfl trivial (by kernel_rfl)) ?_)
    refine lA λc5 w8 hI=>?_
    exact RQ
   refine T ?_
   refine al (T ?_)
   refine sB h (λ_ k=>vN hI.lt trivial k) (Rc Tryz.func183) λr4 w9 h hI=>?_
   refine sm ?_
   refine sB h (λ_ k=>vN hI.lt trivial k) (Rc Tryz.func183) λr5 w10 h hI=>?_
   refine sB h (λ_ k=>CY hI.lt trivial k) (Rc Tryz.func245) λr6 w11 h hI=>?_
   refine TC (λhb h=>?_) λhb h=>?_
   ·refine sr (sq (aC (vs:=[]) (cs:=#[vi 0,vi 0]) rfl trivial (by kernel_rfl)) ?_)
    refine lA λc6 w12 hI=>?_
    exact RQ
   refine T ?_
   refine sq (aC (vs:=[(0,vi r2.1),(1,vi r3.1)]) (cs:=#[vi r2.1,vi r3.1]) rfl ⟨rfl,et,rfl,et,ah⟩ (by kernel_rfl)) ?_
   refine lA λc7 w13 hI=>?_
   exact RQ
  refine TC (λhb h=>?_) λhb h=>?_
  ·refine T ?_
   refine aO ?_
   exact kj ([49]:List UInt8)
  exact bl (bu down1 SB BH rfl)
 refine T ?_
 refine bs (α:=Nat×(List UInt8)×(List UInt8)×Int) (λx=>λw=>∃ C,Bun du F w0 C w [MO.box b1 33 #[vi 0,vi 0]] []∧dZ s1 (x.1) (x.2.1) (x.2.2.1) (x.2.2.2)=some r) (λx _=>x.1) (λx=>[(0,(aT s1)),(2,vp b1 0),(4,(aT (x.2.1))),(5,(aT (x.2.2.1))),(6,vi (x.2.2.2))]) (fu,s1,([]:List UInt8),0) BH SB ?_
 clear h hI;rintro⟨fuel1,up2,down3,i1⟩ w14 ⟨c8,hI,h⟩
 dsimp only at hI h ⊢
 rcases fuel1 with _ | fuel1
 ·rw[dZ]at h;cases h
 rw[dZ]at h
 refine al (T ?_)
 refine TC (λhb h=>?_) λhb h=>?_
 ·refine T ?_
  refine bM (α:=(List UInt8)×(List UInt8)) (λ_=>⟨83,[]⟩) (λx=>[(0,(aT s1)),(2,vp b1 0),(4,(aT (x.1))),(5,(aT (x.2))),(6,vi i1)]) (λx=>λw=>∃ C,Bun du F w0 C w [MO.box b1 33 #[vi 0,vi 0]] []∧jK (dZ s1 fuel1) i1 (x.1) (x.2)=some r) ?_ ?_
  ·clear h hI;rintro⟨up3,down4⟩ w15 ⟨c9,hI,h⟩
   try dsimp only at hI h ⊢
   rw[jK]at h
   refine T ?_
   refine aO ?_
   exact kl (fuel1,up3,down4,au (i1+1))
  refine T ?_
  obtain⟨b2,hx13,h⟩:=ae h
  refine sI ?_
  refine TC (λhb h=>?_) λhb h=>?_
  ·refine T ?_
   obtain⟨s2,hx14,h⟩:=ae h
   refine sI ?_
   refine T ?_
   obtain⟨s3,hx15,h⟩:=ae h
   refine sI ?_
   refine T ?_
   refine sB h (λ_ k=>uE hI.lt trivial k) (Rc Tryz.func249) λr7 w16 h hI=>?_
   refine T ?_
   obtain⟨b3,hx18,h⟩:=ae h
   replace hx18:=ay hx18
   refine sJ ?_
   refine TC (λhb h=>?_) λhb h=>?_
   ·refine sr (sq (aC (vs:=[]) (cs:=#[vi 0,vi 0]) rfl trivial (by kernel_rfl)) ?_)
    refine lA λc10 w17 hI=>?_
    exact RQ
   exact bl (bu (s2,s3) SB BH rfl)
  exact bl (bu (up2,down3) SB BH rfl)
 refine bv ?_
 refine fi ?_
 exact kj (up2,down3)
theorem sb (hF:dK F w0) {t1:GType} (hc:AllCl [] F w0) {r:Int} (h:m9 t1=some r):CR F w0 218 #[(Value.agg (d9 t1))] (vi r) []:=by
 refine EN Tryz.func218 Tryz.ntmps218 hF hc λhI=>?_
 rw[m9]at h
 refine sr (lX λb1 c2 w1 hI=>?_)
 refine T ?_
 obtain⟨ho1,h⟩:=fC h
 refine sq (BR rfl ao et ho1) ?_
 exact RF
theorem Ea (hF:dK F w0) {a1 b1:Int} (hc:AllCl [] F w0) {r:Int} (h:rS a1 b1=some r):CR F w0 238 #[vi a1,vi b1] (vi r) []:=by
 refine EN Tryz.func238 Tryz.ntmps238 hF hc λhI=>?_
 rw[rS]at h
 refine T ?_
 refine al (T ?_)
 refine bs (α:=Nat×Int×Int) (λx=>λw=>∃ C,Bun du F w0 C w [] []∧me (x.1) (x.2.1) (x.2.2)=some r) (λx _=>x.1) (λx=>[(0,vi (x.2.1)),(1,vi (x.2.2))]) (fu,a1,b1) BH SB ?_
 clear h hI;rintro⟨fuel1,a2,b2⟩ w1 ⟨c1,hI,h⟩
 dsimp only at hI h ⊢
 rcases fuel1 with _ | fuel1
 ·rw[me]at h;cases h
 rw[me]at h
 refine al (T ?_)
 refine TC (λhb h=>?_) λhb h=>?_
 ·refine T ?_
  refine aJ [] false (.c (0,.q) (.c (1,.q) (.c (2,.q) (.c (3,.q) (.c (4,.q) (.c (5,.q) .n)))))) hI (by kernel_rfl) (by kernel_rfl) ?_
  intro w2 hI
  refine V ?_
  obtain⟨ho1,h⟩:=fC h
  refine nv rfl gn rfl (λw'=>BS rfl et et ho1) ?_
  refine V ?_
  refine oY ?_
  exact kl (fuel1,b2,Int.tmod a2 b2)
 refine bv ?_
 refine fi ?_
 refine bh ?_
 exact RF
theorem yZ (hF:dK F w0) {t1:GType} {v1:GVal} (hc:AllCl [] F w0) {r:Bool} (h:o8 t1 v1=some r):CR F w0 215 #[(Value.agg (d9 t1)),(Value.agg (uk v1))] (vb r) []:=by
 refine EN Tryz.func215 Tryz.ntmps215 hF hc λhI=>?_
 rw[o8]at h
 refine sr (lX λb1 c2 w1 hI=>?_)
 refine lX λb2 c4 w2 hI=>?_
 refine T ?_
 refine al (T ?_)
 refine TC (λhb h=>?_) λhb h=>?_
 ·refine T ?_
  obtain⟨ho1,h⟩:=fC h
  refine sq (BR rfl ao et ho1) ?_
  obtain⟨half1,hx1,h⟩:=ae h
  refine sq (va (cP rfl et) (congrArg (Value.int .i64) (ak hx1))) ?_
  exact RF
 refine T ?_
 refine al (T ?_)
 refine TR λhb h=>?_
 refine T ?_
 refine al (T ?_)
 refine TR λhb h=>?_
 refine T ?_
 refine sq (Gc rfl et et) ?_
 refine T ?_
 refine sB h (λ_ k=>Ea hI.lt trivial k) (Rc Tryz.func238) λr1 w3 h hI=>?_
 exact RF
def lG:Tr:=(.c (10,.s) .n)
theorem zE (hF:dK F w0) {t1:GType} {s1:List UInt8} (hc:AllCl [] F w0) {r:GVal×Int} (h:nK t1 s1=some r):CR F w0 236 #[(Value.agg (d9 t1)),(aT s1)] (Value.tuple #[(Value.agg (uk r.1)),vi r.2]) []:=by
 refine EN Tryz.func236 Tryz.ntmps236 hF hc λhI=>?_
 rw[nK]at h
 refine sr (lX λb1 c2 w1 hI=>?_)
 refine lN λb2 c3 w2 hI=>?_
 refine T ?_
 refine al (sr (sq (am (l:=(cU t1)) rfl et qQ rfl bX (hI.kblk (l:=(cU t1)) .z rfl).1) ?_))
 refine sB h (λ_ k=>tM hI.lt trivial k) (Rc Tryz.func62) λr1 w3 h hI=>?_
 refine TC (λhb h=>?_) λhb h=>?_
 ·refine sr (sq (aC (vs:=[]) (cs:=#[vi 0,vi 0]) rfl trivial (by kernel_rfl)) ?_)
  refine lA λc4 w4 hI=>?_
  exact RQ
 refine T ?_
 refine sB h (λ_ k=>zF hI.lt trivial k) (Rc Tryz.func244) λr2 w5 h hI=>?_
 refine T ?_
 refine lN λb3 c5 w6 hI=>?_
 refine lA λc6 w7 hI=>?_
 refine T ?_
 refine al (T ?_)
 refine TC (λhb h=>?_) λhb h=>?_
 ·refine T ?_
  refine lA λc7 w8 hI=>?_
  exact RQ
 refine T ?_
 refine al (T ?_)
 refine TC (λhb h=>?_) λhb h=>?_
 ·refine al (T ?_)
  refine TC (λhb h=>?_) λhb h=>?_
  ·refine sr (sq (aC (vs:=[]) (cs:=#[vi 0,vi 0]) rfl trivial (by kernel_rfl)) ?_)
   refine lA λc8 w9 hI=>?_
   exact RQ
  refine T ?_
  refine lA λc9 w10 hI=>?_
  exact RQ
 refine T ?_
 refine al (al (aJ [] false (.c (0,.q) (.c (2,.q) (.c (3,.q) (.c (1,.s) (.c (4,.q) (.c (5,.q) .n)))))) hI (by kernel_rfl) (by kernel_rfl) ?_))
 intro w11 hI
 refine bR rfl gn rfl (λw' hw'=>(am (l:=(cU t1)) rfl et qQ rfl bX ((hI.kblk (l:=(cU t1)) .z rfl).at_ (SX.any rfl hw')))) (by kernel_rfl) ?_
 refine V ?_
 obtain⟨r3,hx5,h⟩:=ae h
 refine dk rfl gn rfl (aD (vs:=[(Value.agg (d9 t1))]) rfl DG ⟨et,ah⟩) (Calls.mono (sb hI.lt ah hx5) ?_)
 rintro _ w12 ⟨rfl,hx6,hl3⟩
 refine⟨_,rfl,hx6,?_⟩
 replace hI:=(hI.ext hx6)
 obtain⟨ho1,h⟩:=fC h
 refine nv rfl gn rfl (λw'=>BS rfl et et ho1) ?_
 refine V ?_
 refine TC (λhb h=>?_) λhb h=>?_
 ·refine sr (sq (aC (vs:=[]) (cs:=#[vi 0,vi 0]) rfl trivial (by kernel_rfl)) ?_)
  refine lA λc10 w13 hI=>?_
  exact RQ
 refine T ?_
 refine al ?_
 obtain⟨r4,hx7,h⟩:=ae h
 refine aJ [10] false (.c (0,.q) (.c (1,.q) (.c (2,.q) (.c (4,.q) (.c (5,.q) (.two 3 (.c (6,.q) (.c (7,.q) (.c (8,.q) (.c (9,.s) lG)))) 9 (.c (3,.s) (.c (6,.q) (.c (7,.q) (.c (8,.q) lG)))))))))) hI (by kernel_rfl) (by kernel_rfl) ?_
 intro w18 hI
 refine bT (α:=Nat×NP) (T:=lG) (λx=>[(2,vp b1 0),(4,vp b2 0),(8,(Value.pointer (some ⟨(x.1),0,none⟩))),(50,(Value.agg #[(vi (au (r2.1.N * (au (Int.tdiv r4 r2.1.D))))),vi 1]))]) (λx w=>Bun du F w0 (x.2) w [MO.box (x.1) 33 #[vi 0,vi 0],MO.box b3 33 (uk r2.1),MO.box b2 33 #[vi 0,vi 0]] [Cl.blk b1 35 (d9 t1)]) (λx w=>SN [10] (DM false F (x.2)) w) ?_ ?_
 ·clear hI;rintro⟨b4,c13⟩ w17 hI
  try dsimp only at hI ⊢
  unfold lG
  refine bK (F:=F) (C:=c13) rfl rfl ?_
  refine vA λc12 w16 hI=>?_
  refine V ?_
  refine al (sr (sq (am (l:=(cU t1)) rfl et qQ rfl bX (hI.kblk (l:=(cU t1)) .z rfl).1) ?_))
  refine T ?_
  refine sB h (λ_ k=>yZ hI.lt trivial k) (Rc Tryz.func215) λr5 w19 h hI=>?_
  refine TC (λhb h=>?_) λhb h=>?_
  ·refine sr (sq (aC (vs:=[]) (cs:=#[vi 0,vi 0]) rfl trivial (by kernel_rfl)) ?_)
   refine lA λc14 w20 hI=>?_
   exact RQ
  refine T ?_
  refine lA λc15 w21 hI=>?_
  exact RQ
 intro hk_tr_ref04_Parse_1_0
 refine V ?_
 refine bR rfl gn rfl (λw' hw'=>(am (l:=(cU t1)) rfl et qQ rfl bX ((hI.kblk (l:=(cU t1)) .z rfl).at_ (SX.any rfl hw')))) (by kernel_rfl) ?_
 refine V ?_
 refine cL ?_ ?_
 ·skip
  refine dk rfl gn rfl (aD (vs:=[(Value.agg (d9 t1))]) rfl DG ⟨et,ah⟩) (Calls.mono (sb hI.lt ah hx7) ?_)
  rintro _ w14 ⟨rfl,hx8,hl4⟩
  refine⟨_,rfl,hx8,?_⟩
  replace hI:=(hI.ext hx8)
  refine nv rfl gn rfl (λw'=>BT rfl et et ho1) ?_
  refine V ?_
  refine nv rfl gn rfl (λw'=>(aC (vs:=[(0,(vi (au (r2.1.N * (au (Int.tdiv r4 r2.1.D)))))),(1,vi 1)]) (cs:=#[(vi (au (r2.1.N * (au (Int.tdiv r4 r2.1.D))))),vi 1]) rfl ⟨rfl,et,rfl,ao,ah⟩ (by kernel_rfl))) ?_
  refine gS (cs:=#[vi 0,vi 0]) hI rfl gn rfl rfl rH rfl ?_
  intro b4 c11 w15 hI
  exact bc (hk_tr_ref04_Parse_1_0 (b4,c11) _ (hI.arr GO SU)) SB
 refine gS (cs:=#[vi 0,vi 0]) hI rfl gn rfl rfl rH rfl ?_
 intro b4 c11 w15 hI
 refine dk rfl gn rfl (aD (vs:=[(Value.agg (d9 t1))]) rfl DG ⟨et,ah⟩) (Calls.mono (sb hI.lt ah hx7) ?_)
 rintro _ w14 ⟨rfl,hx8,hl4⟩
 refine⟨_,rfl,hx8,?_⟩
 replace hI:=(hI.ext hx8)
 refine nv rfl gn rfl (λw'=>BT rfl et et ho1) ?_
 refine V ?_
 refine nv rfl gn rfl (λw'=>(aC (vs:=[(0,(vi (au (r2.1.N * (au (Int.tdiv r4 r2.1.D)))))),(1,vi 1)]) (cs:=#[(vi (au (r2.1.N * (au (Int.tdiv r4 r2.1.D))))),vi 1]) rfl ⟨rfl,et,rfl,ao,ah⟩ (by kernel_rfl))) ?_
 exact bc (hk_tr_ref04_Parse_1_0 (b4,c11) _ (hI.arr GO SU)) SB
def j0:Tr:=(.c (3,.s) .n)
def jZ:Tr:=(.c (3,.s) .n)
theorem ru (hF:dK F w0) {p1:ab} {t1:GType} (hc:AllCl [LT af a1 c1 p1.L] F w0) {r:GVal×ab} (h:gM p1 t1=some r):Cg 210 #[(Value.agg (ac p1 a1 c1)),(Value.agg (d9 t1))] w0 λe w=>∃ a2 c2,e= .returned (Value.tuple #[(Value.agg (uk r.1)),(Value.agg (ac r.2 a2 c2))])∧Ext w0 w∧AllCl [LT af a2 c2 r.2.L] F w:=by
 refine EN Tryz.func210 Tryz.ntmps210 hF hc λhI=>?_
 rw[gM]at h
 refine sr (kL (v:=(Value.agg (ac p1 a1 c1))) (cs:=(ac p1 a1 c1)) hI gn rfl rfl et rfl ?_)
 intro b1 c3 w1 hI
 refine lX λb2 c5 w2 hI=>?_
 refine lN λb3 c6 w3 hI=>?_
 refine lN λb4 c7 w4 hI=>?_
 refine T ?_
 refine bM (α:=(List UInt8)×ab×(Option Addr)×Nat) (λ_=>⟨62,[]⟩) (λx=>[(2,vp b1 0),(3,vp b2 0),(4,vp b3 0),(5,vp b4 0),(6,vi p1.At),(7,(aT (x.1)))]) (λx=>λw=>∃ C,Bun du F w0 C w [MO.box b1 72 (ac (x.2.1) (x.2.2.1) (x.2.2.2)),MO.box b3 33 #[vi 0,vi 0],MO.box b4 72 av] [LT af (x.2.2.1) (x.2.2.2) (x.2.1).L,Cl.blk b2 35 (d9 t1)]∧fb t1 p1 (x.1) (x.2.1)=some r) ?_ ?_
 ·clear h hI;rintro⟨s1,p2,a3,c8⟩ w5 ⟨c9,hI,h⟩
  try dsimp only at hI h ⊢
  rw[fb]at h
  refine T ?_
  obtain⟨r1,hx1,h⟩:=ae h
  refine aw gn rfl (Rc Tryz.func136) (Calls.mono (oM hI.lt FS hx1) ?_)
  rintro _ w6 ⟨a4,c10,rfl,hx2,hl1⟩
  refine⟨_,rfl,?_⟩
  replace hI:=(hI.ext hx2).adds hl1;dsimp only[ca,na]at hI
  refine T ?_
  refine lA λc11 w7 hI=>?_
  refine T ?_
  obtain⟨s2,hx3,h⟩:=ae h
  refine sq (v6 rfl et et hx3) ?_
  refine T ?_
  refine bM (α:=(List UInt8)×ab×(Option Addr)×Nat) (λ_=>⟨62,[]⟩) (λx=>[(2,vp b1 0),(3,vp b2 0),(4,vp b3 0),(5,vp b4 0),(6,vi p1.At),(7,(aT (x.1)))]) (λx=>λw=>∃ C,Bun du F w0 C w [MO.box b1 72 (ac (x.2.1) (x.2.2.1) (x.2.2.2)),MO.box b3 33 #[vi 0,vi 0],MO.box b4 72 av] [LT af (x.2.2.1) (x.2.2.2) (x.2.1).L,Cl.blk b2 35 (d9 t1)]∧dh t1 p1 (x.1) (x.2.1)=some r) ?_ ?_
  ·clear h hI;rintro⟨s3,p3,a5,c12⟩ w8 ⟨c13,hI,h⟩
   try dsimp only at hI h ⊢
   rw[dh]at h
   refine al (T ?_)
   refine TC (λhb h=>?_) λhb h=>?_
   ·refine al (aJ [2,3] false (.c (0,.q) (.two 1 (.c (2,.s) j0) 2 (.c (1,.s) j0))) hI (by kernel_rfl) (by kernel_rfl) ?_)
    intro w12 hI
    refine bT (α:=NP) (T:=j0) (λx=>[(4,vp b3 0),(5,vp b4 0),(46,(Value.agg (ac p3 a5 c12)))]) (λx w=>Bun du F w0 x w [MO.box b1 72 (ac p3 a5 c12),MO.box b3 33 #[vi 0,vi 0],MO.box b4 72 av] [LT af a5 c12 p3.L,Cl.blk b2 35 (d9 t1)]) (λx w=>SN [] (DM true F x) w) ?_ ?_
    ·clear hI;rintro c16 w11 hI
     try dsimp only at hI ⊢
     unfold j0
     refine vA λc15 w10 hI=>?_
     refine V ?_
     refine aF ?_
     obtain rfl:=ak h
     refine QG ?_
     exact⟨a5,c12,rfl,hI.ext0,hI.fin ⟨.z,ah⟩⟩
    intro hk_tr_ref16_constant_1_0
    refine nv rfl gn rfl (λw'=>aC (vs:=[]) (cs:=#[vi 0,vi 0]) rfl trivial (by kernel_rfl)) ?_
    refine cL ?_ ?_
    ·skip
     refine bq rfl gn rfl (am (l:=(ag p3 a5 c12)) rfl et jO rfl aG (LU (hI.blk .z) rfl)) LW ?_
     refine bK (F:=F) (C:=c13) rfl rfl ?_
     refine vA λc14 w9 hI=>?_
     exact bc (hk_tr_ref16_constant_1_0 c14 _ (hI.arr GO SU)) SB
    refine bB (F:=F) (C:=c13) rfl rfl ?_
    refine vA λc14 w9 hI=>?_
    refine bq rfl gn rfl (am (l:=(ag p3 a5 c12)) rfl et jO rfl aG (LU (hI.blk .z) rfl)) LW ?_
    exact bc (hk_tr_ref16_constant_1_0 c14 _ (hI.arr GO SU)) SB
   refine T ?_
   refine sq (am (l:=(cU t1)) rfl et qQ rfl bX (hI.kblk (l:=(cU t1)) .p1 rfl).1) ?_
   refine sm ?_
   refine sB h (λ_ k=>zE hI.lt trivial k) (Rc Tryz.func236) λr2 w13 h hI=>?_
   refine T ?_
   refine lN λb5 c17 w14 hI=>?_
   refine lA λc18 w15 hI=>?_
   refine T ?_
   refine al (T ?_)
   refine TC (λhb h=>?_) λhb h=>?_
   ·refine sr (sq (aC (vs:=[]) (cs:=#[vi 0,vi 0]) rfl trivial (by kernel_rfl)) ?_)
    refine T ?_
    obtain⟨r3,hx6,h⟩:=ae h
    refine aw gn rfl (Rc Tryz.func81) (Calls.mono (kC hI.lt FS hx6) ?_)
    rintro _ w16 ⟨a6,c19,rfl,hx7,hl3⟩
    refine⟨_,rfl,?_⟩
    replace hI:=(hI.ext hx7).adds hl3;dsimp only[ca,na]at hI
    refine lA λc20 w17 hI=>?_
    refine lA λc21 w18 hI=>?_
    refine nk (aF ?_)
    obtain rfl:=ak h
    refine QG ?_
    exact⟨a6,c19,rfl,hI.ext0,hI.fin ⟨.z,ah⟩⟩
   refine T ?_
   refine al (aJ [2,3] false (.c (0,.q) (.two 1 (.c (2,.s) jZ) 2 (.c (1,.s) jZ))) hI (by kernel_rfl) (by kernel_rfl) ?_)
   intro w22 hI
   refine bT (α:=NP) (T:=jZ) (λx=>[(4,vp b3 0),(5,vp b4 0),(61,(Value.agg (ac p3 a5 c12)))]) (λx w=>Bun du F w0 x w [MO.box b5 33 (uk r2.1),MO.box b1 72 (ac p3 a5 c12),MO.box b3 33 (uk r2.1),MO.box b4 72 av] [LT af a5 c12 p3.L,Cl.blk b2 35 (d9 t1)]) (λx w=>SN [] (DM true F x) w) ?_ ?_
   ·clear hI;rintro c24 w21 hI
    try dsimp only at hI ⊢
    unfold jZ
    refine vA λc23 w20 hI=>?_
    refine V ?_
    refine aF ?_
    obtain rfl:=ak h
    refine QG ?_
    exact⟨a5,c12,rfl,hI.ext0,hI.fin ⟨.z,ah⟩⟩
   intro hk_tr_ref16_constant_2_0
   refine bR rfl gn rfl (λw' hw'=>(am (l:=(sR r2.1)) rfl et HM rfl oe ((CA.blk (hI.blk .z) rfl).at_ (SX.any rfl hw')))) (by kernel_rfl) ?_
   refine cL ?_ ?_
   ·skip
    refine bq rfl gn rfl (am (l:=(ag p3 a5 c12)) rfl et jO rfl aG (LU (hI.blk .p1) rfl)) LW ?_
    refine bK (F:=F) (C:=c18) rfl rfl ?_
    refine vA λc22 w19 hI=>?_
    exact bc (hk_tr_ref16_constant_2_0 c22 _ (hI.arr GO SU)) SB
   refine bB (F:=F) (C:=c18) rfl rfl ?_
   refine vA λc22 w19 hI=>?_
   refine bq rfl gn rfl (am (l:=(ag p3 a5 c12)) rfl et jO rfl aG (LU (hI.blk .p1) rfl)) LW ?_
   exact bc (hk_tr_ref16_constant_2_0 c22 _ (hI.arr GO SU)) SB
  refine T ?_
  refine sB h (λ_ k=>bx hI.lt FS k) (Rc Tryz.func72) λr4 w23 h hI=>?_
  refine TC (λhb h=>?_) λhb h=>?_
  ·refine T ?_
   refine lS λc25 w24 hI=>?_
   refine T ?_
   obtain⟨r5,hx10,h⟩:=ae h
   refine aw gn rfl (Rc Tryz.func136) (Calls.mono (oM hI.lt FS hx10) ?_)
   rintro _ w25 ⟨a7,c26,rfl,hx11,hl5⟩
   refine⟨_,rfl,?_⟩
   replace hI:=(hI.ext hx11).adds hl5;dsimp only[ca,na]at hI
   refine T ?_
   refine lA λc27 w26 hI=>?_
   refine T ?_
   obtain⟨s4,hx12,h⟩:=ae h
   refine sq (v6 rfl ao et hx12) ?_
   obtain⟨s5,hx13,h⟩:=ae h
   refine sq (v6 rfl et et hx13) ?_
   refine sa ?_
   refine aO ?_
   exact kj (s5,r5.2,a7,c26)
  exact bl (bu (s2,r1.2,a4,c10) SB BH rfl)
 refine T ?_
 refine sB h (λ_ k=>bx hI.lt FS k) (Rc Tryz.func72) λr6 w27 h hI=>?_
 refine TC (λhb h=>?_) λhb h=>?_
 ·refine T ?_
  refine lS λc28 w28 hI=>?_
  refine aO ?_
  exact kj (([45]:List UInt8),(⟨p1.L,au (p1.At+1),p1.Deep,p1.E,p1.Pos⟩:ab),a1,c1)
 exact bl (bu (([]:List UInt8),p1,a1,c1) SB BH rfl)
theorem uA (hF:dK F w0) {p1:ab} (hc:AllCl [LT af a1 c1 p1.L] F w0) {r:List GLin×ab} (h:jA p1=some r):Cg 179 #[(Value.agg (ac p1 a1 c1))] w0 λe w=>∃ a2 c2 a3 c3,e= .returned (Value.tuple #[vs a2 r.1.length c2,(Value.agg (ac r.2 a3 c3))])∧Ext w0 w∧AllCl [LT dQ a2 c2 r.1,LT af a3 c3 r.2.L] F w:=by
 refine EN Tryz.func179 Tryz.ntmps179 hF hc λhI=>?_
 rw[jA]at h
 refine sr (kL (v:=(Value.agg (ac p1 a1 c1))) (cs:=(ac p1 a1 c1)) hI gn rfl rfl et rfl ?_)
 intro b1 c4 w1 hI
 refine tV ?_
 refine lN λb2 c5 w2 hI=>?_
 refine T ?_
 refine al (T ?_)
 refine sB h (λ_ k=>bx hI.lt FS k) (Rc Tryz.func72) λr1 w3 h hI=>?_
 refine TC (λhb h=>?_) λhb h=>?_
 ·refine T ?_
  refine lS λc6 w4 hI=>?_
  refine nk (al (aJ [2] false (.c (0,.q) (.c (1,.q) (.c (2,.s) .n))) hI (by kernel_rfl) (by kernel_rfl) ?_))
  intro w5 hI
  refine bR rfl gn rfl (λw' hw'=>(am (l:=[vs a1 p1.L.length c1,(vi (au (p1.At+1))),vi p1.Deep,vi p1.E,vi p1.Pos]) rfl et jO rfl aG ((CA.blk (hI.blk .p1) rfl).at_ (SX.any rfl hw')))) (by kernel_rfl) ?_
  refine V ?_
  refine bK (F:=F) (C:=c6) rfl rfl ?_
  refine vA λc7 w6 hI=>?_
  refine V ?_
  refine aF ?_
  have hI:=hI.add (c:=LT dQ none 0 ([]:List GLin)) SlC.nil
  obtain rfl:=ak h
  refine QG ?_
  exact⟨none,0,a1,c1,rfl,hI.ext0,hI.fin ⟨.z,.p1,ah⟩⟩
 refine T ?_
 obtain⟨r2,hx3,h⟩:=ae h
 refine aw gn rfl (Rc Tryz.func32) (Calls.mono (nt hI.lt FS hx3) ?_)
 rintro _ w7 ⟨a4,c8,a5,c9,rfl,hx4,hl2⟩
 refine⟨_,rfl,?_⟩
 replace hI:=(hI.ext hx4).adds hl2;dsimp only[ca,na]at hI
 refine T ?_
 refine lN λb3 c10 w8 hI=>?_
 refine lA λc11 w9 hI=>?_
 refine lA λc12 w10 hI=>?_
 refine T ?_
 refine ll hI dQ ([r2.1]:List GLin) qI (.cs ⟨a4,c8,rfl,hI.get .z⟩ .nl) λb4 c13 w11 hI=>?_
 obtain⟨zs1,hx5,h⟩:=ae h
 replace hI:=hI.nil dQ 27 none
 refine il (xs:=([]:List GLin)) (ys:=([r2.1]:List GLin)) hI .z (hI.rd .p1) hx5 gn rfl rfl IQ qI rfl rfl et et ?_
 intro a6 c14 c15 w12 hI
 refine T ?_
 refine al (T ?_)
 refine bs (α:=Nat×(List GLin)×ab×GLin×(Option Addr)×Nat×(Option Addr)×Nat×(Option Addr)×Nat) (λx=>λw=>∃ C,Bun du F w0 C w [LV dQ 27 (x.2.2.2.2.1) (x.2.2.2.2.2.1) (x.2.1),MO.box b1 72 (ac (x.2.2.1) (x.2.2.2.2.2.2.1) (x.2.2.2.2.2.2.2.1)),MO.box b2 72 av,MO.box b3 27 (cx (x.2.2.2.1) (x.2.2.2.2.2.2.2.2.1) (x.2.2.2.2.2.2.2.2.2))] [LT af (x.2.2.2.2.2.2.1) (x.2.2.2.2.2.2.2.1) (x.2.2.1).L,LT aj (x.2.2.2.2.2.2.2.2.1) (x.2.2.2.2.2.2.2.2.2) (x.2.2.2.1).L]∧fP (x.1) (x.2.1) (x.2.2.1) (x.2.2.2.1)=some r) (λx _=>x.1) (λx=>[(1,vp b1 0),(3,vp b2 0),(4,vs (x.2.2.2.2.1) (x.2.1).length (x.2.2.2.2.2.1)),(5,vp b3 0)]) (fu,zs1,r2.2,r2.1,a6,c14,a5,c9,a4,c8) BH SB ?_
 clear h hI;rintro⟨fuel1,aN,p2,f1,a7,c16,a8,c17,a9,c18⟩ w13 ⟨c19,hI,h⟩
 dsimp only at hI h ⊢
 rcases fuel1 with _ | fuel1
 ·rw[fP]at h;cases h
 rw[fP]at h
 refine al (T ?_)
 refine sB h (λ_ k=>bx hI.lt FS k) (Rc Tryz.func72) λr3 w14 h hI=>?_
 refine TC (λhb h=>?_) λhb h=>?_
 ·have hk1:=hb
  refine T ?_
  refine lS λc20 w15 hI=>?_
  refine T ?_
  obtain⟨r4,hx8,h⟩:=ae h
  refine aw gn rfl (Rc Tryz.func32) (Calls.mono (nt hI.lt FS hx8) ?_)
  rintro _ w16 ⟨a10,c21,a11,c22,rfl,hx9,hl4⟩
  refine⟨_,rfl,?_⟩
  replace hI:=(hI.ext hx9).adds hl4;dsimp only[ca,na]at hI
  refine T ?_
  refine lA λc23 w17 hI=>?_
  refine lA λc24 w18 hI=>?_
  refine T ?_
  refine ll hI dQ ([r4.1]:List GLin) qI (.cs ⟨a10,c21,rfl,hI.get .z⟩ .nl) λb5 c25 w19 hI=>?_
  obtain⟨zs2,hx10,h⟩:=ae h
  refine il (xs:=aN) (ys:=([r4.1]:List GLin)) hI .p1 (hI.rd .z) hx10 gn rfl rfl IQ qI rfl rfl et et ?_
  intro a12 c26 c27 w20 hI
  refine sa ?_
  refine aO ?_
  exact kl (fuel1,zs2,r4.2,r4.1,a12,c26,a11,c22,a10,c21)
 refine bv ?_
 refine fi ?_
 refine bh ?_
 refine T ?_
 obtain⟨r5,hx11,h⟩:=ae h
 refine aw gn rfl (Rc Tryz.func110) (Calls.mono (bn hI.lt FS hx11) ?_)
 rintro _ w21 ⟨a13,c28,rfl,hx12,hl5⟩
 refine⟨_,rfl,?_⟩
 replace hI:=(hI.ext hx12).adds hl5;dsimp only[ca,na]at hI
 refine sa ?_
 refine lA λc29 w22 hI=>?_
 refine nk (aF ?_)
 obtain⟨c30,hI⟩:=hI.release .z
 obtain rfl:=ak h
 refine QG ?_
 exact⟨a7,c16,a13,c28,rfl,hI.ext0,hI.fin ⟨.z,.p1,ah⟩⟩
def lF:Tr:=(.c (5,.s) .n)
def lE:Tr:=(.c (4,.s) .n)
theorem uz (hF:dK F w0) {p1:ab} (hc:AllCl [LT af a1 c1 p1.L] F w0) {r:GIndex×ab} (h:gZ p1=some r):Cg 237 #[(Value.agg (ac p1 a1 c1))] w0 λe w=>∃ a2 c2 a3 c3 a4 c4,e= .returned (Value.tuple #[(Value.agg (oT r.1 a2 c2 a3 c3)),(Value.agg (ac r.2 a4 c4))])∧Ext w0 w∧AllCl [LT aj a2 c2 r.1.Lin.L,LT dQ a3 c3 r.1.At,LT af a4 c4 r.2.L] F w:=by
 refine EN Tryz.func237 Tryz.ntmps237 hF hc λhI=>?_
 rw[gZ]at h
 refine sr (kL (v:=(Value.agg (ac p1 a1 c1))) (cs:=(ac p1 a1 c1)) hI gn rfl rfl et rfl ?_)
 intro b1 c5 w1 hI
 refine lN λb2 c6 w2 hI=>?_
 refine lN λb3 c7 w3 hI=>?_
 refine nk (al (T ?_))
 refine sB h (λ_ k=>qU hI.lt FS k) (Rc Tryz.func133) λr1 w4 h hI=>?_
 refine sm ?_
 refine aH (bg rfl rfl rfl rfl) rfl (λhc=>(am (l:=(ag p1 a1 c1)) rfl et jO rfl aG (LU (hI.blk .p2) rfl))) ?_
 obtain⟨r2,hx3,h⟩:=ae h
 replace hx3:=ay hx3
 refine sU (λhc=>bx hI.lt FS (hx3 hc)) (Rg Tryz.func72) λw5 hI=>?_
 refine TC (λhb h=>?_) λhb h=>?_
 ·refine T ?_
  obtain⟨r3,hx5,h⟩:=ae h
  refine aw gn rfl (Rc Tryz.func134) (Calls.mono (jy hI.lt FS hx5) ?_)
  rintro _ w6 ⟨a5,c8,rfl,hx6,hl3⟩
  refine⟨_,rfl,?_⟩
  replace hI:=(hI.ext hx6).adds hl3;dsimp only[ca,na]at hI
  refine T ?_
  refine lN λb4 c9 w7 hI=>?_
  refine sa ?_
  refine lA λc10 w8 hI=>?_
  refine T ?_
  obtain⟨r4,hx7,h⟩:=ae h
  refine aw gn rfl (Rc Tryz.func110) (Calls.mono (bn hI.lt FS hx7) ?_)
  rintro _ w9 ⟨a6,c11,rfl,hx8,hl4⟩
  refine⟨_,rfl,?_⟩
  replace hI:=(hI.ext hx8).adds hl4;dsimp only[ca,na]at hI
  obtain⟨r5,hx9,h⟩:=ae h
  refine aw gn rfl (Rc Tryz.func179) (Calls.mono (uA hI.lt FS hx9) ?_)
  rintro _ w10 ⟨a7,c12,a8,c13,rfl,hx10,hl5⟩
  refine⟨_,rfl,?_⟩
  replace hI:=(hI.ext hx10).adds hl5;dsimp only[ca,na]at hI
  refine T ?_
  refine lA λc14 w11 hI=>?_
  refine nk (al (aJ [4,5] false (.c (0,.q) (.c (1,.q) (.c (2,.q) (.two 3 (.c (4,.s) lF) 4 (.c (3,.s) lF))))) hI (by kernel_rfl) (by kernel_rfl) ?_))
  intro w15 hI
  refine bT (α:=NP) (T:=lF) (λx=>[(2,vp b2 0),(3,vp b3 0),(28,(Value.agg (ac r5.2 a8 c13)))]) (λx w=>Bun du F w0 x w [MO.box b4 72 (ac r5.2 a8 c13),MO.box b3 72 av,MO.box b2 132 #[vi 0,vs none 0 0,(aT r3.1),vs a7 r5.1.length c12],MO.box b1 72 (ac p1 a1 c1)] [LT dQ a7 c12 r5.1,LT af a8 c13 r5.2.L,LT af a6 c11 r4.L,LT af a5 c8 r3.2.L,LT af a1 c1 p1.L]) (λx w=>SN [] (DM true F x) w) ?_ ?_
  ·clear hI;rintro c17 w14 hI
   try dsimp only at hI ⊢
   unfold lF
   refine vA λc16 w13 hI=>?_
   refine V ?_
   refine aF ?_
   have hI:=hI.add (c:=LT aj none 0 ([]:List GMono)) SlC.nil
   obtain rfl:=ak h
   refine QG ?_
   exact⟨none,0,a7,c12,a8,c13,rfl,hI.ext0,hI.fin ⟨.z,.p1,.p2,ah⟩⟩
  intro hk_tr_ref16_index_1_0
  refine V ?_
  refine nv rfl gn rfl (λw'=>(aC (vs:=[(1,(aT r3.1)),(2,vs a7 r5.1.length c12)]) (cs:=#[vi 0,vs none 0 0,(aT r3.1),vs a7 r5.1.length c12]) rfl ⟨rfl,et,rfl,et,ah⟩ (by kernel_rfl))) ?_
  refine cL ?_ ?_
  ·skip
   refine bq rfl gn rfl (am (l:=(ag r5.2 a8 c13)) rfl et jO rfl aG (LU (hI.blk .z) rfl)) LW ?_
   refine bK (F:=F) (C:=c14) rfl rfl ?_
   refine vA λc15 w12 hI=>?_
   exact bc (hk_tr_ref16_index_1_0 c15 _ (hI.arr GO SU)) SB
  refine bB (F:=F) (C:=c14) rfl rfl ?_
  refine vA λc15 w12 hI=>?_
  refine bq rfl gn rfl (am (l:=(ag r5.2 a8 c13)) rfl et jO rfl aG (LU (hI.blk .z) rfl)) LW ?_
  exact bc (hk_tr_ref16_index_1_0 c15 _ (hI.arr GO SU)) SB
 refine T ?_
 obtain⟨r6,hx11,h⟩:=ae h
 refine aw gn rfl (Rc Tryz.func32) (Calls.mono (nt hI.lt FS hx11) ?_)
 rintro _ w16 ⟨a9,c18,a10,c19,rfl,hx12,hl6⟩
 refine⟨_,rfl,?_⟩
 replace hI:=(hI.ext hx12).adds hl6;dsimp only[ca,na]at hI
 refine T ?_
 refine lN λb5 c20 w17 hI=>?_
 refine lA λc21 w18 hI=>?_
 refine lA λc22 w19 hI=>?_
 refine nk (al (aJ [3,4] false (.c (0,.q) (.c (1,.q) (.two 2 (.c (3,.s) lE) 3 (.c (2,.s) lE)))) hI (by kernel_rfl) (by kernel_rfl) ?_))
 intro w23 hI
 refine bT (α:=NP) (T:=lE) (λx=>[(2,vp b2 0),(3,vp b3 0),(36,(Value.agg (ac r6.2 a10 c19)))]) (λx w=>Bun du F w0 x w [MO.box b5 27 (cx r6.1 a9 c18),MO.box b3 72 av,MO.box b2 132 #[vi r6.1.K,vs a9 r6.1.L.length c18,(aT []),vs none 0 0],MO.box b1 72 (ac r6.2 a10 c19)] [LT aj a9 c18 r6.1.L,LT af a10 c19 r6.2.L,LT af a1 c1 p1.L]) (λx w=>SN [] (DM true F x) w) ?_ ?_
 ·clear hI;rintro c25 w22 hI
  try dsimp only at hI ⊢
  unfold lE
  refine vA λc24 w21 hI=>?_
  refine V ?_
  refine aF ?_
  have hI:=hI.add (c:=LT dQ none 0 ([]:List GLin)) SlC.nil
  obtain rfl:=ak h
  refine QG ?_
  exact⟨a9,c18,none,0,a10,c19,rfl,hI.ext0,hI.fin ⟨.p1,.z,.p2,ah⟩⟩
 intro hk_tr_ref16_index_2_0
 refine bR rfl gn rfl (λw' hw'=>(am (l:=(fI r6.1 a9 c18)) rfl et pk rfl bt ((CA.blk (hI.blk .z) rfl).at_ (SX.any rfl hw')))) (by kernel_rfl) ?_
 refine nv rfl gn rfl (λw'=>(aC (vs:=[(0,(Value.agg (cx r6.1 a9 c18)))]) (cs:=#[vi r6.1.K,vs a9 r6.1.L.length c18,(aT []),vs none 0 0]) rfl ⟨rfl,et,ah⟩ (by kernel_rfl))) ?_
 refine cL ?_ ?_
 ·skip
  refine bq rfl gn rfl (am (l:=(ag r6.2 a10 c19)) rfl et jO rfl aG (LU (hI.blk .p3) rfl)) LW ?_
  refine bK (F:=F) (C:=c22) rfl rfl ?_
  refine vA λc23 w20 hI=>?_
  exact bc (hk_tr_ref16_index_2_0 c23 _ (hI.arr GO SU)) SB
 refine bB (F:=F) (C:=c22) rfl rfl ?_
 refine vA λc23 w20 hI=>?_
 refine bq rfl gn rfl (am (l:=(ag r6.2 a10 c19)) rfl et jO rfl aG (LU (hI.blk .p3) rfl)) LW ?_
 exact bc (hk_tr_ref16_index_2_0 c23 _ (hI.arr GO SU)) SB
end Go.Proofs.YtmhoikfoogemnaaGreatDoor
