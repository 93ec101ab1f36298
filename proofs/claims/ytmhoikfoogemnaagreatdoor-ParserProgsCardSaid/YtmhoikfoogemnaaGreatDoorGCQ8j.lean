import Derived.Test.YtmhoikfoogemnaaGreatDoorGCQ8i
import Derived.Test.YtmhoikfoogemnaaGreatDoorGLfH
namespace Go.Proofs.YtmhoikfoogemnaaGreatDoor
open Go Go.RowKit Go.Vc
set_option maxRecDepth 100000
set_option maxHeartbeats 4000000
set_option linter.unusedVariables false
set_option linter.unusedSimpArgs false
variable {σ:Type} {C0 F:NP} {w0:World} {a1 a2 a3 a4 a5 a6 a7 a8 a9 a10 a11 a12:Option Addr} {b1 b2 b3 b4 b5 b6 b7 b8 b9 b10 b11 b12 c1 c2 c3 c4 c5 c6 c7 c8 c9 c10 c11 c12:Nat}
theorem yI {p1:ab} {aN:bI} (hI:Bun C0 F w0 C0 w0 [LV bk 9 a2 c2 aN.Sizes,LV aM 107 a3 c3 aN.Where,LV cn 95 a4 c4 aN.Params,LV gk 100 a5 c5 aN.Defs,LV bk 9 a6 c6 aN.Outs] [LT af a1 c1 p1.L]) {r:(bI×ab)} (h:cX p1 aN=some r):Cg 51 #[(Value.agg (ac p1 a1 c1)),(Value.agg (iY aN a2 c2 a3 c3 a4 c4 a5 c5 a6 c6))] w0 λe w=>∃ a7 c7 a8 c8 a9 c9 a10 c10 a11 c11 a12 c12 C,e= .returned (Value.tuple #[(Value.agg (iY r.1 a7 c7 a8 c8 a9 c9 a10 c10 a11 c11)),(Value.agg (ac r.2 a12 c12))])∧Bun C0 F w0 C w [LV bk 9 a7 c7 r.1.Sizes,LV aM 107 a8 c8 r.1.Where,LV cn 95 a9 c9 r.1.Params,LV gk 100 a10 c10 r.1.Defs,LV bk 9 a11 c11 r.1.Outs] [LT af a12 c12 r.2.L]:=by
 refine pR Tryz.func51 rfl Tryz.ntmps51 rfl ?_
 rw[cX]at h
 refine sr (kL (v:=(Value.agg (ac p1 a1 c1))) (cs:=(ac p1 a1 c1)) hI gn rfl rfl et rfl ?_)
 intro b1 c13 w1 hI
 refine kL (v:=(Value.agg (iY aN a2 c2 a3 c3 a4 c4 a5 c5 a6 c6))) (cs:=(iY aN a2 c2 a3 c3 a4 c4 a5 c5 a6 c6)) hI gn rfl rfl et rfl ?_
 intro b2 c14 w2 hI
 refine lN λb3 c15 w3 hI=>?_
 refine lN λb4 c16 w4 hI=>?_
 refine T ?_
 refine ll hI bk HQ gK Rr λb5 c17 w5 hI=>?_
 obtain⟨c18,hI⟩:=hI.release .z
 obtain⟨r1,hx1,h⟩:=ae h
 refine aw gn rfl (Rc Tryz.func105) (Calls.mono (lm hI.lt FS hx1) ?_)
 rintro _ w6 ⟨a13,c19,rfl,hx2,hl1⟩
 refine⟨_,rfl,?_⟩
 replace hI:=(hI.ext hx2).adds hl1;dsimp only[ca,na]at hI
 refine T ?_
 refine lA λc20 w7 hI=>?_
 refine nk (bM (α:=bI×ab×(Option Addr)×Nat×(Option Addr)×Nat×(Option Addr)×Nat×(Option Addr)×Nat×(Option Addr)×Nat×(Option Addr)×Nat) (λ_=>⟨93,[]⟩) (λx=>[(2,vp b1 0),(3,vp b2 0),(4,vp b3 0),(5,vp b4 0)]) (λx=>λw=>∃ C,Bun C0 F w0 C w [LV bk 9 (x.2.2.1) (x.2.2.2.1) (x.1).Sizes,LV aM 107 (x.2.2.2.2.1) (x.2.2.2.2.2.1) (x.1).Where,LV cn 95 (x.2.2.2.2.2.2.1) (x.2.2.2.2.2.2.2.1) (x.1).Params,LV gk 100 (x.2.2.2.2.2.2.2.2.1) (x.2.2.2.2.2.2.2.2.2.1) (x.1).Defs,LV bk 9 (x.2.2.2.2.2.2.2.2.2.2.1) (x.2.2.2.2.2.2.2.2.2.2.2.1) (x.1).Outs,MO.box b1 72 (ac (x.2.1) (x.2.2.2.2.2.2.2.2.2.2.2.2.1) (x.2.2.2.2.2.2.2.2.2.2.2.2.2)),MO.box b2 55 (iY (x.1) (x.2.2.1) (x.2.2.2.1) (x.2.2.2.2.1) (x.2.2.2.2.2.1) (x.2.2.2.2.2.2.1) (x.2.2.2.2.2.2.2.1) (x.2.2.2.2.2.2.2.2.1) (x.2.2.2.2.2.2.2.2.2.1) (x.2.2.2.2.2.2.2.2.2.2.1) (x.2.2.2.2.2.2.2.2.2.2.2.1)),MO.box b3 55 j3,MO.box b4 72 av] [LT af (x.2.2.2.2.2.2.2.2.2.2.2.2.1) (x.2.2.2.2.2.2.2.2.2.2.2.2.2) (x.2.1).L]∧bw (x.1) (x.2.1)=some r) ?_ ?_)
 ·clear h hI;rintro⟨out2,p2,a14,c21,a15,c22,a16,c23,a17,c24,a18,c25,a19,c26⟩ w8 ⟨c27,hI,h⟩
  try dsimp only at hI h ⊢
  rw[bw]at h
  refine al (aJ [3,4] false (.c (0,.q) (.c (1,.q) (.c (2,.s) (.c (3,.s) (.c (4,.s) .n))))) hI (by kernel_rfl) (by kernel_rfl) ?_)
  intro w9 hI
  refine bR rfl gn rfl (λw' hw'=>(am (l:=(EM out2 a14 c21 a15 c22 a16 c23 a17 c24 a18 c25)) rfl et Kz rfl tU ((CA.blk (hI.blk .p6) rfl).at_ (SX.any rfl hw')))) (by kernel_rfl) ?_
  refine bR rfl gn rfl (λw' hw'=>(am (l:=(ag p2 a19 c26)) rfl et jO rfl aG ((CA.blk (hI.blk .p5) rfl).at_ (SX.any rfl hw')))) (by kernel_rfl) ?_
  obtain⟨r2,hx3,h⟩:=ae h
  refine dk rfl gn rfl (aD (vs:=[(Value.agg (ac p2 a19 c26)),(aT [59])]) rfl wg ⟨et,ao,ah⟩) (Calls.mono (bn hI.lt FS hx3) ?_)
  rintro _ w10 ⟨a20,c28,rfl,hx4,hl2⟩
  refine⟨_,rfl,hx4,?_⟩
  replace hI:=(hI.ext hx4).adds hl2;dsimp only[ca,na]at hI
  refine bK (F:=F) (C:=c27) rfl rfl ?_
  refine vA λc29 w11 hI=>?_
  refine vA λc30 w12 hI=>?_
  refine V ?_
  refine aF ?_
  obtain rfl:=ak h
  refine QG ?_
  exact⟨a14,c21,a15,c22,a16,c23,a17,c24,a18,c25,a20,c28,_,rfl,hI.arr GO SU⟩
 refine TC (λhb h=>?_) λhb h=>?_
 ·refine T ?_
  obtain⟨c31,f1,hB,hl3,hk1⟩:=hI.hands (.r (.r (.r (.r (.l (.r (.r (.r (.r .n)))))))))
  obtain⟨r3,hx5,h⟩:=ae h
  try dsimp only at h
  refine aw gn rfl (Rc Tryz.func106) (Calls.mono (sD HS hx5) ?_)
  rintro _ w13 ⟨a21,c32,a22,c33,c34,rfl,hB2⟩
  refine HN hk1 hB2 λc35 hI=>?_
  refine⟨_,rfl,?_⟩
  refine T ?_
  refine lN λb6 c36 w14 hI=>?_
  refine sa ?_
  refine lA λc37 w15 hI=>?_
  refine T ?_
  refine lS λc38 w16 hI=>?_
  refine T ?_
  refine lA λc39 w17 hI=>?_
  refine aO ?_
  exact kj ((⟨r3.1,aN.Where,aN.Params,aN.Defs,aN.Outs⟩:bI),r3.2,a21,c32,a3,c3,a4,c4,a5,c5,a6,c6,a22,c33)
 refine TC (λhb h=>?_) λhb h=>?_
 ·refine T ?_
  obtain⟨r4,hx6,h⟩:=ae h
  refine aw gn rfl (Rc Tryz.func107) (Calls.mono (zp hI.lt FS hx6) ?_)
  rintro _ w18 ⟨a23,c40,a24,c41,rfl,hx7,hl4⟩
  refine⟨_,rfl,?_⟩
  replace hI:=(hI.ext hx7).adds hl4;dsimp only[ca,na]at hI
  refine T ?_
  refine lN λb7 c42 w19 hI=>?_
  refine lN λb8 c43 w20 hI=>?_
  refine lA λc44 w21 hI=>?_
  refine lA λc45 w22 hI=>?_
  refine T ?_
  refine ll hI aM ([r4.1]:List aX) tt (.cs ⟨a23,c40,rfl,hI.get .z⟩ .nl) λb9 c46 w23 hI=>?_
  obtain⟨zs1,hx8,h⟩:=ae h
  refine il (xs:=aN.Where) (ys:=([r4.1]:List aX)) hI .p8 (hI.rd .z) hx8 gn rfl rfl KD tt rfl rfl et et ?_
  intro a25 c47 c48 w24 hI
  refine T ?_
  refine lS λc49 w25 hI=>?_
  refine T ?_
  refine lA λc50 w26 hI=>?_
  refine aO ?_
  exact kj ((⟨aN.Sizes,zs1,aN.Params,aN.Defs,aN.Outs⟩:bI),r4.2,a2,c2,a25,c47,a4,c4,a5,c5,a6,c6,a24,c41)
 refine TC (λhb h=>?_) λhb h=>?_
 ·refine T ?_
  obtain⟨r5,hx9,h⟩:=ae h
  refine aw gn rfl (Rc Tryz.func108) (Calls.mono (zq hI.lt FS hx9) ?_)
  rintro _ w27 ⟨a26,c51,a27,c52,rfl,hx10,hl5⟩
  refine⟨_,rfl,?_⟩
  replace hI:=(hI.ext hx10).adds hl5;dsimp only[ca,na]at hI
  refine T ?_
  refine lN λb10 c53 w28 hI=>?_
  refine lN λb11 c54 w29 hI=>?_
  refine lA λc55 w30 hI=>?_
  refine lA λc56 w31 hI=>?_
  refine T ?_
  refine ll hI cn ([r5.1]:List iz) vu (.cs ⟨a26,c51,rfl,hI.get .z⟩ .nl) λb12 c57 Dq hI=>?_
  obtain⟨zs2,hx11,h⟩:=ae h
  refine il (xs:=aN.Params) (ys:=([r5.1]:List iz)) hI .p9 (hI.rd .z) hx11 gn rfl rfl KB vu rfl rfl et et ?_
  intro a28 c58 c59 w33 hI
  refine T ?_
  refine lS λc60 w34 hI=>?_
  refine T ?_
  refine lA λc61 w35 hI=>?_
  refine aO ?_
  exact kj ((⟨aN.Sizes,aN.Where,zs2,aN.Defs,aN.Outs⟩:bI),r5.2,a2,c2,a3,c3,a28,c58,a5,c5,a6,c6,a27,c52)
 refine TC (λhb h=>?_) λhb h=>?_
 ·refine T ?_
  obtain⟨r6,hx12,h⟩:=ae h
  refine aw gn rfl (Rc Tryz.func109) (Calls.mono (CV hI.lt FS hx12) ?_)
  rintro _ w36 ⟨a29,c62,a30,c63,a31,c64,a32,c65,a33,c66,a34,c67,rfl,hx13,hl6⟩
  refine⟨_,rfl,?_⟩
  replace hI:=(hI.ext hx13).adds hl6;dsimp only[ca,na]at hI
  refine T ?_
  refine lN λb13 c68 w37 hI=>?_
  refine lN λb14 c69 w38 hI=>?_
  refine lA λc70 w39 hI=>?_
  refine lA λc71 w40 hI=>?_
  refine T ?_
  refine ll hI gk ([r6.1]:List eF) tu (.cs ⟨a29,c62,a30,c63,a31,c64,a32,c65,a33,c66,rfl,hI.get .z,hI.get .p1,hI.get .p2,hI.get .p3,hI.get .p4⟩ .nl) λb15 c72 w41 hI=>?_
  obtain⟨zs3,hx14,h⟩:=ae h
  refine il (xs:=aN.Defs) (ys:=([r6.1]:List eF)) hI (.s .p9) (hI.rd .z) hx14 gn rfl rfl KA tu rfl rfl et et ?_
  intro a35 c73 c74 w42 hI
  refine T ?_
  refine lS λc75 w43 hI=>?_
  refine T ?_
  refine lA λc76 w44 hI=>?_
  refine aO ?_
  exact kj ((⟨aN.Sizes,aN.Where,aN.Params,zs3,aN.Outs⟩:bI),r6.2,a2,c2,a3,c3,a4,c4,a35,c73,a6,c6,a34,c67)
 refine TC (λhb h=>?_) λhb h=>?_
 ·refine T ?_
  obtain⟨c77,f2,hB,hl7,hk2⟩:=hI.hands (.r (.r (.r (.r (.r (.r (.r (.r (.l .n)))))))))
  obtain⟨r7,hx15,h⟩:=ae h
  try dsimp only at h
  refine aw gn rfl (Rc Tryz.func106) (Calls.mono (sD HS hx15) ?_)
  rintro _ w45 ⟨a36,c78,a37,c79,c80,rfl,hB2⟩
  refine HN hk2 hB2 λc81 hI=>?_
  refine⟨_,rfl,?_⟩
  refine T ?_
  refine lN λb16 c82 w46 hI=>?_
  refine sa ?_
  refine lA λc83 w47 hI=>?_
  refine T ?_
  refine lS λc84 w48 hI=>?_
  refine T ?_
  refine lA λc85 w49 hI=>?_
  refine aO ?_
  exact kj ((⟨aN.Sizes,aN.Where,aN.Params,aN.Defs,r7.1⟩:bI),r7.2,a2,c2,a3,c3,a4,c4,a5,c5,a36,c78,a37,c79)
 exact bl (bu (aN,r1.2,a2,c2,a3,c3,a4,c4,a5,c5,a6,c6,a13,c19) SB BH rfl)
def mr:Tr:= .n
def mt:Tr:=(.c (8,.s) (.c (9,.q) (.c (10,.q) mr)))
theorem Bo (hF:dK F w0) {s1:List UInt8} (hc:AllCl [] F w0) {r:bI×Int×Int} (h:ov s1=some r):Cg 25 #[(aT s1)] w0 λe w=>∃ a1 c1 a2 c2 a3 c3 a4 c4 a5 c5,e= .returned (Value.tuple #[(Value.agg (iY r.1 a1 c1 a2 c2 a3 c3 a4 c4 a5 c5)),vi r.2.1,vi r.2.2])∧Ext w0 w∧AllCl [LT bk a1 c1 r.1.Sizes,LT aM a2 c2 r.1.Where,LT cn a3 c3 r.1.Params,LT gk a4 c4 r.1.Defs,LT bk a5 c5 r.1.Outs] F w:=by
 refine EN Tryz.func25 Tryz.ntmps25 hF hc λhI=>?_
 rw[ov]at h
 refine sr (dl (cs:=j3) hI gn rfl rfl Ar rfl ?_)
 clear hI;intro b1 c6 w1 hI
 refine tV ?_
 refine tV ?_
 refine nk (sr (sm ?_))
 obtain⟨r1,hx1,h⟩:=ae h
 refine aw gn rfl (Rc Tryz.func22) (Calls.mono (rv hI.lt ah hx1) ?_)
 rintro _ w2 ⟨a6,c7,rfl,hx2,hl1⟩
 refine⟨_,rfl,?_⟩
 replace hI:=(hI.ext hx2).adds hl1
 refine sm ?_
 refine sq (fO rfl et rfl) ?_
 refine sq (fO rfl et rfl) ?_
 refine sq (fO rfl et rfl) ?_
 refine sa ?_
 refine sa ?_
 refine sa ?_
 refine nk (al (sr (sm ?_)))
 refine sq (py rfl et ao) ?_
 refine TC (λhb h=>?_) λhb h=>?_
 ·refine sr (sq (aC (vs:=[]) (cs:=j3) rfl trivial (by kernel_rfl)) ?_)
  refine sm ?_
  refine sm ?_
  refine lA λc8 w3 hI=>?_
  refine sa ?_
  refine sa ?_
  refine nk (aF ?_)
  have hI:=hI.add (c:=LT bk none 0 ([]:List (List UInt8))) SlC.nil
  have hI:=hI.add (c:=LT aM none 0 ([]:List aX)) SlC.nil
  have hI:=hI.add (c:=LT cn none 0 ([]:List iz)) SlC.nil
  have hI:=hI.add (c:=LT gk none 0 ([]:List eF)) SlC.nil
  obtain rfl:=ak h
  exact fY (vs:=[(Value.agg j3),vi r1.2.1,vi r1.2.2]) Tryz.results25 ⟨⟨_,aR rfl rfl,cv (l:=IJ) Kz rfl tU (LU (hI.blk .z) rfl)⟩,aR rfl rfl,aR rfl rfl,ah⟩ ⟨none,0,none,0,none,0,none,0,none,0,rfl,hI.ext0,hI.fin ⟨.p3,.p2,.p1,.z,.p3,ah⟩⟩
 refine bl (bh (sr (sm ?_)))
 refine sq (aC (vs:=[(0,vs a6 r1.1.length c7)]) (cs:=#[vs a6 r1.1.length c7,vi 0,vi 0,vi 0,vi 0]) rfl ⟨rfl,et,ah⟩ (by kernel_rfl)) ?_
 refine lN λb2 c9 w4 hI=>?_
 refine lA λc10 w5 hI=>?_
 refine nk (sr (sq (aC (vs:=[]) (cs:=j3) rfl trivial (by kernel_rfl)) ?_))
 refine lN λb3 c11 w6 hI=>?_
 refine lA λc12 w7 hI=>?_
 refine nk (bM (α:=bI×ab×(Option Addr)×Nat×(Option Addr)×Nat×(Option Addr)×Nat×(Option Addr)×Nat×(Option Addr)×Nat×(Option Addr)×Nat) (λ_=>⟨52,[]⟩) (λx=>[(0,(aT s1)),(2,vp b1 0),(5,vs a6 r1.1.length c7),(8,vp b2 0),(9,vp b3 0)]) (λx=>λw=>∃ C,Bun du F w0 C w [LV bk 9 (x.2.2.1) (x.2.2.2.1) (x.1).Sizes,LV aM 107 (x.2.2.2.2.1) (x.2.2.2.2.2.1) (x.1).Where,LV cn 95 (x.2.2.2.2.2.2.1) (x.2.2.2.2.2.2.2.1) (x.1).Params,LV gk 100 (x.2.2.2.2.2.2.2.2.1) (x.2.2.2.2.2.2.2.2.2.1) (x.1).Defs,LV bk 9 (x.2.2.2.2.2.2.2.2.2.2.1) (x.2.2.2.2.2.2.2.2.2.2.2.1) (x.1).Outs,MO.box b1 55 j3,MO.box b2 72 (ac (x.2.1) (x.2.2.2.2.2.2.2.2.2.2.2.2.1) (x.2.2.2.2.2.2.2.2.2.2.2.2.2)),MO.box b3 55 (iY (x.1) (x.2.2.1) (x.2.2.2.1) (x.2.2.2.2.1) (x.2.2.2.2.2.1) (x.2.2.2.2.2.2.1) (x.2.2.2.2.2.2.2.1) (x.2.2.2.2.2.2.2.2.1) (x.2.2.2.2.2.2.2.2.2.1) (x.2.2.2.2.2.2.2.2.2.2.1) (x.2.2.2.2.2.2.2.2.2.2.2.1))] [LT af (x.2.2.2.2.2.2.2.2.2.2.2.2.1) (x.2.2.2.2.2.2.2.2.2.2.2.2.2) (x.2.1).L,LT af a6 c7 r1.1]∧lU s1 r1 (x.1) (x.2.1)=some r) ?_ ?_)
 ·clear h hI;rintro⟨aN,p1,a7,c13,a8,c14,a9,c15,a10,c16,a11,c17,a12,c18⟩ w8 ⟨c19,hI,h⟩
  try dsimp only at hI h ⊢
  rw[lU]at h
  refine al (sr (sq (aP rfl et jO rfl ku rfl) ?_))
  refine sq (ba (v:=(vi p1.E)) rfl et Di rfl (LU (hI.blk .p6) rfl)) ?_
  refine sq (py rfl et ao) ?_
  refine TC (λhb h=>?_) λhb h=>?_
  ·refine al ?_
   obtain⟨r2,hx3,h⟩:=ae h
   refine aJ [8] false (.c (0,.q) (.c (1,.q) (.c (2,.q) (.c (3,.q) (.c (4,.q) (.c (6,.q) (.two 5 (.two 7 mt 8 (.c (9,.q) (.c (7,.s) (.c (10,.q) mr)))) 7 (.c (5,.s) mt)))))))) hI (by kernel_rfl) (by kernel_rfl) ?_
   clear hI;intro w13 hI
   refine bT (α:=NP) (T:=mr) (λx=>[(2,vp b1 0),(3,vi r2),(4,vi p1.E)]) (λx w=>Bun du F w0 x w [LV bk 9 a7 c13 aN.Sizes,LV aM 107 a8 c14 aN.Where,LV cn 95 a9 c15 aN.Params,LV gk 100 a10 c16 aN.Defs,LV bk 9 a11 c17 aN.Outs,MO.box b1 55 j3,MO.box b2 72 (ac p1 a12 c18),MO.box b3 55 (iY aN a7 c13 a8 c14 a9 c15 a10 c16 a11 c17)] [LT af a12 c18 p1.L,LT af a6 c7 r1.1]) (λx w=>SN [] (DM true F x) w) ?_ ?_
   ·clear hI;rintro c22 w12 hI
    try dsimp only at hI ⊢
    unfold mr
    refine oY ?_
    refine bh (aF ?_)
    have hI:=hI.add (c:=LT bk none 0 ([]:List (List UInt8))) SlC.nil
    have hI:=hI.add (c:=LT aM none 0 ([]:List aX)) SlC.nil
    have hI:=hI.add (c:=LT cn none 0 ([]:List iz)) SlC.nil
    have hI:=hI.add (c:=LT gk none 0 ([]:List eF)) SlC.nil
    obtain rfl:=ak h
    exact fY (vs:=[(Value.agg j3),vi r2,vi p1.E]) Tryz.results25 ⟨⟨_,aR rfl rfl,cv (l:=IJ) Kz rfl tU (LU (hI.blk .p5) rfl)⟩,aR rfl rfl,aR rfl rfl,ah⟩ ⟨none,0,none,0,none,0,none,0,none,0,rfl,hI.ext0,hI.fin ⟨.p3,.p2,.p1,.z,.p3,ah⟩⟩
   intro hk_tr_ref16_Prog_1_1
   refine bT (α:=NP) (T:=mt) (λx=>[(2,vp b1 0),(43,(Value.agg j3)),(48,vi r2),(50,vi p1.E)]) (λx w=>Bun du F w0 x w [LV bk 9 a7 c13 aN.Sizes,LV aM 107 a8 c14 aN.Where,LV cn 95 a9 c15 aN.Params,LV gk 100 a10 c16 aN.Defs,LV bk 9 a11 c17 aN.Outs,MO.box b1 55 j3,MO.box b2 72 (ac p1 a12 c18),MO.box b3 55 (iY aN a7 c13 a8 c14 a9 c15 a10 c16 a11 c17)] [LT af a12 c18 p1.L,LT af a6 c7 r1.1]) (λx w=>SN [8] (DM false F x) w) ?_ ?_
   ·clear hI;rintro c21 w11 hI
    try dsimp only at hI ⊢
    unfold mt
    refine bK (F:=F) (C:=c21) rfl rfl ?_
    refine vA λc20 w10 hI=>?_
    refine nv rfl gn rfl (λw'=>cP rfl et) ?_
    refine nv rfl gn rfl (λw'=>cP rfl et) ?_
    exact bc (hk_tr_ref16_Prog_1_1 c20 _ (hI.arr (.c .z (.c .z (.c .z (.c .z (.c .z (.c .z (.c .z (.c .z .n)))))))) ⟨.z,.p1,ah⟩)) ⟨rfl,rfl,rfl,ah⟩
   intro hk_tr_ref16_Prog_1_0
   refine nv rfl gn rfl (λw'=>aC (vs:=[]) (cs:=j3) rfl trivial (by kernel_rfl)) ?_
   refine nv rfl gn rfl (λw'=>gp rfl et) ?_
   refine nv rfl gn rfl (λw'=>gp rfl et) ?_
   refine nv rfl gn rfl (λw'=>aP rfl et jO rfl jP rfl) ?_
   refine bR rfl gn rfl (λw' hw'=>(ba (v:=(vi p1.Pos)) rfl et u3 rfl ((CA.blk (hI.blk .p6) rfl).at_ (SX.any rfl hw')))) (by kernel_rfl) ?_
   refine nv rfl gn rfl (λw'=>aP rfl et jO rfl ku rfl) ?_
   refine cL ?_ ?_
   ·skip
    refine dk rfl gn rfl (aD (vs:=[(aT s1),vs a6 r1.1.length c7,vi p1.Pos]) rfl IW ⟨et,et,et,ah⟩) (Calls.mono (tG hI.lt FS hx3) ?_)
    rintro _ w9 ⟨rfl,hx4,hl2⟩
    refine⟨_,rfl,hx4,?_⟩
    replace hI:=(hI.ext hx4)
    refine cL ?_ ?_
    ·skip
     refine bq rfl gn rfl (ba (v:=(vi p1.E)) rfl et Di rfl (LU (hI.blk .p6) rfl)) LW ?_
     exact bc (hk_tr_ref16_Prog_1_0 c19 _ (hI.arr (.c .z (.c .z (.c .z (.c .z (.c .z (.c .z (.c .z (.c .z .n)))))))) ⟨.z,.p1,ah⟩)) ⟨rfl,rfl,rfl,rfl,ah⟩
    refine bB (F:=F) (C:=c19) rfl rfl ?_
    refine vA λc20 w10 hI=>?_
    refine nv rfl gn rfl (λw'=>cP rfl et) ?_
    refine bq rfl gn rfl (ba (v:=(vi p1.E)) rfl et Di rfl (LU (hI.blk .p6) rfl)) LW ?_
    refine nv rfl gn rfl (λw'=>cP rfl et) ?_
    exact bc (hk_tr_ref16_Prog_1_1 c20 _ (hI.arr (.c .z (.c .z (.c .z (.c .z (.c .z (.c .z (.c .z (.c .z .n)))))))) ⟨.z,.p1,ah⟩)) ⟨rfl,rfl,rfl,ah⟩
   refine bq rfl gn rfl (ba (v:=(vi p1.E)) rfl et Di rfl (LU (hI.blk .p6) rfl)) LW ?_
   refine dk rfl gn rfl (aD (vs:=[(aT s1),vs a6 r1.1.length c7,vi p1.Pos]) rfl IW ⟨et,et,et,ah⟩) (Calls.mono (tG hI.lt FS hx3) ?_)
   rintro _ w9 ⟨rfl,hx4,hl2⟩
   refine⟨_,rfl,hx4,?_⟩
   replace hI:=(hI.ext hx4)
   exact bc (hk_tr_ref16_Prog_1_0 c19 _ (hI.arr (.c .z (.c .z (.c .z (.c .z (.c .z (.c .z (.c .z (.c .z .n)))))))) ⟨.z,.p1,ah⟩)) ⟨rfl,rfl,rfl,rfl,ah⟩
  refine bl (bh (sr (sq (am (l:=(EM aN a7 c13 a8 c14 a9 c15 a10 c16 a11 c17)) rfl et Kz rfl tU (LU (hI.blk .p7) rfl)) ?_)))
  refine lA λc23 w14 hI=>?_
  refine tV ?_
  refine tV ?_
  refine nk (aF ?_)
  obtain⟨c24,hI⟩:=hI.release .z
  obtain⟨c25,hI⟩:=hI.release .z
  obtain⟨c26,hI⟩:=hI.release .z
  obtain⟨c27,hI⟩:=hI.release .z
  obtain⟨c28,hI⟩:=hI.release .z
  obtain rfl:=ak h
  exact fY (vs:=[(Value.agg (iY aN a7 c13 a8 c14 a9 c15 a10 c16 a11 c17)),vi 0,vi 0]) Tryz.results25 ⟨⟨_,aR rfl rfl,cv (l:=(EM aN a7 c13 a8 c14 a9 c15 a10 c16 a11 c17)) Kz rfl tU (LU (hI.blk .z) rfl)⟩,aR rfl rfl,aR rfl rfl,ah⟩ ⟨a7,c13,a8,c14,a9,c15,a10,c16,a11,c17,rfl,hI.ext0,hI.fin ⟨.p4,.p3,.p2,.p1,.z,ah⟩⟩
 refine oR ?_
 have hI:=hI.nil bk 9 none
 have hI:=hI.nil aM 107 none
 have hI:=hI.nil cn 95 none
 have hI:=hI.nil gk 100 none
 have hI:=hI.nil bk 9 none
 refine bs (α:=Nat×ab×bI×(Option Addr)×Nat×(Option Addr)×Nat×(Option Addr)×Nat×(Option Addr)×Nat×(Option Addr)×Nat×(Option Addr)×Nat) (λx=>λw=>∃ C,Bun du F w0 C w [LV bk 9 (x.2.2.2.2.2.1) (x.2.2.2.2.2.2.1) (x.2.2.1).Sizes,LV aM 107 (x.2.2.2.2.2.2.2.1) (x.2.2.2.2.2.2.2.2.1) (x.2.2.1).Where,LV cn 95 (x.2.2.2.2.2.2.2.2.2.1) (x.2.2.2.2.2.2.2.2.2.2.1) (x.2.2.1).Params,LV gk 100 (x.2.2.2.2.2.2.2.2.2.2.2.1) (x.2.2.2.2.2.2.2.2.2.2.2.2.1) (x.2.2.1).Defs,LV bk 9 (x.2.2.2.2.2.2.2.2.2.2.2.2.2.1) (x.2.2.2.2.2.2.2.2.2.2.2.2.2.2) (x.2.2.1).Outs,MO.box b1 55 j3,MO.box b2 72 (ac (x.2.1) (x.2.2.2.1) (x.2.2.2.2.1)),MO.box b3 55 (iY (x.2.2.1) (x.2.2.2.2.2.1) (x.2.2.2.2.2.2.1) (x.2.2.2.2.2.2.2.1) (x.2.2.2.2.2.2.2.2.1) (x.2.2.2.2.2.2.2.2.2.1) (x.2.2.2.2.2.2.2.2.2.2.1) (x.2.2.2.2.2.2.2.2.2.2.2.1) (x.2.2.2.2.2.2.2.2.2.2.2.2.1) (x.2.2.2.2.2.2.2.2.2.2.2.2.2.1) (x.2.2.2.2.2.2.2.2.2.2.2.2.2.2))] [LT af (x.2.2.2.1) (x.2.2.2.2.1) (x.2.1).L,LT af a6 c7 r1.1]∧gE r1 s1 (x.1) (x.2.1) (x.2.2.1)=some r) (λx _=>x.1) (λx=>[(0,(aT s1)),(2,vp b1 0),(5,vs a6 r1.1.length c7),(8,vp b2 0),(9,vp b3 0)]) (fu,(⟨r1.1,0,0,0,0⟩:ab),(⟨[],[],[],[],[]⟩:bI),a6,c7,none,0,none,0,none,0,none,0,none,0) ⟨_,hI.arr (.c .p4 (.c .p3 (.c .p2 (.c .p1 (.c .z (.c .p2 (.c .p1 (.c .z .n)))))))) ⟨.z,.z,ah⟩,h⟩ ⟨rfl,rfl,rfl,rfl,rfl,ah⟩ ?_
 clear h hI;rintro⟨fuel1,p2,out2,a13,c29,a14,c30,a15,c31,a16,c32,a17,c33,a18,c34⟩ w15 ⟨c35,hI,h⟩
 dsimp only at hI h ⊢
 rcases fuel1 with _ | fuel1
 ·rw[gE]at h;cases h
 rw[gE]at h
 refine al (sr (sq (aP rfl et jO rfl jP rfl) ?_))
 refine sq (ba (v:=(vi p2.At)) rfl et u3 rfl (LU (hI.blk .p6) rfl)) ?_
 refine sm ?_
 refine sq (oZ rfl KV et) ?_
 refine sq (sX rfl et et) ?_
 refine sm ?_
 refine aH (bg rfl rfl rfl rfl) rfl (λhc=>aP rfl et jO rfl ku rfl) ?_
 refine aH (bg rfl rfl rfl rfl) rfl (λhc=>(ba (v:=(vi p2.E)) rfl (aU et hc) Di rfl (LU (hI.blk .p6) rfl))) ?_
 refine aH (bg rfl rfl rfl rfl) rfl (λhc=>BW rfl (aU et hc) ao) ?_
 refine sq (un rfl et et) ?_
 refine TC (λhb h=>?_) λhb h=>?_
 ·refine bl (bh (oR (jX rfl ?_)))
  refine sq (am (l:=(ag p2 a13 c29)) rfl et jO rfl aG (LU (hI.blk .p6) rfl)) ?_
  refine sq (am (l:=(EM out2 a14 c30 a15 c31 a16 c32 a17 c33 a18 c34)) rfl et Kz rfl tU (LU (hI.blk .p7) rfl)) ?_
  obtain⟨c36,f1,hB,hl3,hk1⟩:=hI.hands (.l (.l (.l (.l (.l (.r (.r (.r .n))))))))
  obtain⟨r3,hx5,h⟩:=ae h
  try dsimp only at h
  refine aw gn rfl (Rc Tryz.func51) (Calls.mono (yI HS hx5) ?_)
  rintro _ w16 ⟨a19,c37,a20,c38,a21,c39,a22,c40,a23,c41,a24,c42,c43,rfl,hB2⟩
  obtain⟨c44,hs1,hI⟩:=hk1 _ _ _ _ hB2
  replace hI:Bun du F w0 c44 w16 [LV bk 9 a19 c37 r3.1.Sizes,LV aM 107 a20 c38 r3.1.Where,LV cn 95 a21 c39 r3.1.Params,LV gk 100 a22 c40 r3.1.Defs,LV bk 9 a23 c41 r3.1.Outs,MO.box b1 55 j3,MO.box b2 72 (ac p2 a13 c29),MO.box b3 55 (iY out2 a14 c30 a15 c31 a16 c32 a17 c33 a18 c34)] [LT af a24 c42 r3.2.L,LT af a13 c29 p2.L,LT af a6 c7 r1.1]:=hI
  refine⟨_,rfl,?_⟩
  refine sm ?_
  refine sq (fO rfl et rfl) ?_
  refine sq (fO rfl et rfl) ?_
  refine lA λc45 w17 hI=>?_
  refine lA λc46 w18 hI=>?_
  refine aO ?_
  exact ny (fuel1,r3.2,r3.1,a24,c42,a19,c37,a20,c38,a21,c39,a22,c40,a23,c41) ⟨rfl,rfl,rfl,rfl,rfl,ah⟩ ⟨_,hI.arr (.c .z (.c .z (.c .z (.c .z (.c .z (.c .z (.c .z (.c .z .n)))))))) ⟨.z,.p2,ah⟩,h⟩ (Nat.lt_succ_self _)
 refine bv ?_
 refine fi ?_
 exact bu (out2,p2,a14,c30,a15,c31,a16,c32,a17,c33,a18,c34,a13,c29) ⟨rfl,rfl,rfl,rfl,rfl,ah⟩ ⟨_,hI.arr (.c .z (.c .z (.c .z (.c .z (.c .z (.c .z (.c .z (.c .z .n)))))))) ⟨.z,.p1,ah⟩,h⟩ rfl
theorem tN (hF:dK F w0) {a1 b1:List (List UInt8)} (hc:AllCl [LT bk a2 c1 a1,LT bk a3 c2 b1] F w0) {r:Bool} (h:lh a1 b1=some r):CR F w0 52 #[vs a2 a1.length c1,vs a3 b1.length c2] (vb r) []:=by
 refine EN Tryz.func52 Tryz.ntmps52 hF hc λhI=>?_
 rw[lh]at h
 refine T ?_
 refine al (T ?_)
 refine TR λhb h=>?_
 refine T ?_
 refine al (T ?_)
 refine bs (α:=Nat×Int) (λx=>λw=>∃ C,Bun du F w0 C w [] [LT bk a2 c1 a1,LT bk a3 c2 b1]∧ij a1 b1 (x.1) (x.2)=some r) (λx _=>x.1) (λx=>[(0,vs a2 a1.length c1),(1,vs a3 b1.length c2),(5,vi (x.2))]) (fu,0) BH SB ?_
 clear h hI;rintro⟨fuel1,i1⟩ w1 ⟨c3,hI,h⟩
 dsimp only at hI h ⊢
 rcases fuel1 with _ | fuel1
 ·rw[ij]at h;cases h
 rw[ij]at h
 refine al (T ?_)
 refine TC (λhb h=>?_) λhb h=>?_
 ·refine T ?_
  refine al (T ?_)
  refine al (aJ [] false (.c (0,.q) (.c (1,.q) (.c (2,.q) (.c (3,.q) (.c (4,.q) (.c (5,.q) (.c (6,.q) (.c (7,.q) (.c (8,.q) .n))))))))) hI (by kernel_rfl) (by kernel_rfl) ?_)
  intro w2 hI
  refine V ?_
  obtain⟨e1,hx1,h⟩:=ae h
  obtain⟨ad1,cs1,hA1,hr1,hq1⟩:=hI.clat .z hx1
  obtain rfl:cs1=[(aT e1)]:=hr1
  refine vI ?_
  refine V ?_
  obtain⟨e2,hx2,h⟩:=ae h
  obtain⟨ad2,cs2,hA2,hr2,hq2⟩:=hI.clat .p1 hx2
  obtain rfl:cs2=[(aT e2)]:=hr2
  refine vI ?_
  refine V ?_
  refine TR λhb h=>?_
  refine T ?_
  refine aO ?_
  exact kl (fuel1,au (i1+1))
 refine bv ?_
 refine fi ?_
 refine bh ?_
 exact RF
theorem Ec (hF:dK F w0) {a1 b1:aX} (hc:AllCl [LT aj a2 c1 a1.Lin.L,LT aj a3 c2 b1.Lin.L] F w0) {r:Bool} (h:rT a1 b1=some r):CR F w0 111 #[(Value.agg (m0 a1 a2 c1)),(Value.agg (m0 b1 a3 c2))] (vb r) []:=by
 refine EN Tryz.func111 Tryz.ntmps111 hF hc λhI=>?_
 rw[rT]at h
 refine sr (lX λb2 c4 w1 hI=>?_)
 refine lX λb3 c6 w2 hI=>?_
 refine T ?_
 refine sq (IM rfl u4 et et) ?_
 refine T ?_
 refine aH (bg rfl rfl rfl rfl) rfl (λhc=>(am (l:=(fI a1.Lin a2 c1)) rfl (aU et hc) pk rfl bt (hI.kblk (l:=(fI a1.Lin a2 c1)) .p1 rfl).1)) ?_
 refine T ?_
 refine aH (bg rfl rfl rfl rfl) rfl (λhc=>(am (l:=(fI b1.Lin a3 c2)) rfl (aU et hc) pk rfl bt (hI.kblk (l:=(fI b1.Lin a3 c2)) .z rfl).1)) ?_
 obtain⟨r1,hx1,h⟩:=ae h
 replace hx1:=ay hx1
 refine sU (λhc=>pg hI.lt FS (hx1 hc)) (Rg Tryz.func14) λw3 hI=>?_
 exact RF
theorem Dc (hF:dK F w0) {a1 b1:List aX} (hc:AllCl [LT aM a2 c1 a1,LT aM a3 c2 b1] F w0) {r:Bool} (h:pH a1 b1=some r):CR F w0 53 #[vs a2 a1.length c1,vs a3 b1.length c2] (vb r) []:=by
 refine EN Tryz.func53 Tryz.ntmps53 hF hc λhI=>?_
 rw[pH]at h
 refine T ?_
 refine al (T ?_)
 refine TR λhb h=>?_
 refine T ?_
 refine al (T ?_)
 refine bs (α:=Nat×Int) (λx=>λw=>∃ C,Bun du F w0 C w [] [LT aM a2 c1 a1,LT aM a3 c2 b1]∧jV a1 b1 (x.1) (x.2)=some r) (λx _=>x.1) (λx=>[(0,vs a2 a1.length c1),(1,vs a3 b1.length c2),(5,vi (x.2))]) (fu,0) BH SB ?_
 clear h hI;rintro⟨fuel1,i1⟩ w1 ⟨c3,hI,h⟩
 dsimp only at hI h ⊢
 rcases fuel1 with _ | fuel1
 ·rw[jV]at h;cases h
 rw[jV]at h
 refine al (T ?_)
 refine TC (λhb h=>?_) λhb h=>?_
 ·refine T ?_
  refine al (T ?_)
  refine al (aJ [] false (.c (0,.q) (.c (1,.q) (.c (2,.q) (.c (3,.q) (.c (4,.q) (.c (5,.q) (.c (6,.q) (.c (7,.q) (.c (8,.s) (.c (9,.q) .n)))))))))) hI (by kernel_rfl) (by kernel_rfl) ?_)
  intro w2 hI
  refine V ?_
  obtain⟨e1,hx1,h⟩:=ae h
  obtain⟨ad1,cs1,hA1,hr1,hq1⟩:=hI.clat .z hx1
  obtain⟨a4,c4,rfl,hf1⟩:=hr1
  have hI:=hI.ads hf1
  refine vI ?_
  refine bR rfl gn rfl (λw' hw'=>(am (l:=(wQ e1 a4 c4)) rfl et KW rfl vf (hq1.at_ (SX.any rfl hw')))) (by kernel_rfl) ?_
  refine V ?_
  obtain⟨e2,hx2,h⟩:=ae h
  obtain⟨ad2,cs2,hA2,hr2,hq2⟩:=hI.clat .p2 hx2
  obtain⟨a5,c5,rfl,hf2⟩:=hr2
  have hI:=hI.ads hf2
  refine vI ?_
  refine bR rfl gn rfl (λw' hw'=>(am (l:=(wQ e2 a5 c5)) rfl et KW rfl vf (hq2.at_ (SX.any rfl hw')))) (by kernel_rfl) ?_
  obtain⟨r1,hx3,h⟩:=ae h
  refine dk rfl gn rfl (aD (vs:=[(Value.agg (m0 e1 a4 c4)),(Value.agg (m0 e2 a5 c5))]) rfl J6 ⟨et,et,ah⟩) (Calls.mono (Ec hI.lt FS hx3) ?_)
  rintro _ w3 ⟨rfl,hx4,hl1⟩
  refine⟨_,rfl,hx4,?_⟩
  replace hI:=(hI.ext hx4)
  refine V ?_
  refine TR λhb h=>?_
  refine T ?_
  refine aO ?_
  exact kl (fuel1,au (i1+1))
 refine bv ?_
 refine fi ?_
 refine bh ?_
 exact RF
theorem wX (hF:dK F w0) {a1 b1:List gl} (hc:AllCl [LT cc a2 c1 a1,LT cc a3 c2 b1] F w0) {r:Bool} (h:n8 a1 b1=some r):CR F w0 112 #[vs a2 a1.length c1,vs a3 b1.length c2] (vb r) []:=by
 refine EN Tryz.func112 Tryz.ntmps112 hF hc λhI=>?_
 rw[n8]at h
 refine T ?_
 refine al (T ?_)
 refine TR λhb h=>?_
 refine T ?_
 refine al (T ?_)
 refine bs (α:=Nat×Int) (λx=>λw=>∃ C,Bun du F w0 C w [] [LT cc a2 c1 a1,LT cc a3 c2 b1]∧jW a1 b1 (x.1) (x.2)=some r) (λx _=>x.1) (λx=>[(0,vs a2 a1.length c1),(1,vs a3 b1.length c2),(5,vi (x.2))]) (fu,0) BH SB ?_
 clear h hI;rintro⟨fuel1,i1⟩ w1 ⟨c3,hI,h⟩
 dsimp only at hI h ⊢
 rcases fuel1 with _ | fuel1
 ·rw[jW]at h;cases h
 rw[jW]at h
 refine al (T ?_)
 refine TC (λhb h=>?_) λhb h=>?_
 ·refine T ?_
  refine al (T ?_)
  refine al (aJ [] false (.c (0,.q) (.c (1,.q) (.c (2,.q) (.c (3,.q) (.c (4,.q) (.c (5,.q) (.c (6,.q) (.c (7,.q) (.c (8,.q) (.c (9,.q) (.c (10,.q) (.c (11,.q) (.c (12,.q) (.c (13,.q) (.c (14,.q) (.c (15,.q) (.c (16,.q) (.c (17,.q) (.c (18,.q) (.c (19,.q) (.c (20,.q) (.c (21,.q) (.c (22,.s) (.c (23,.q) (.c (24,.q) .n))))))))))))))))))))))))) hI (by kernel_rfl) (by kernel_rfl) ?_)
  intro w2 hI
  refine V ?_
  obtain⟨e1,hx1,h⟩:=ae h
  obtain⟨ad1,cs1,hA1,hr1,hq1⟩:=hI.clat .z hx1
  obtain⟨a4,c4,rfl,hf1⟩:=hr1
  have hI:=hI.ads hf1
  refine vI ?_
  refine V ?_
  obtain⟨e2,hx2,h⟩:=ae h
  obtain⟨ad2,cs2,hA2,hr2,hq2⟩:=hI.clat .p2 hx2
  obtain⟨a5,c5,rfl,hf2⟩:=hr2
  have hI:=hI.ads hf2
  refine vI ?_
  refine V ?_
  obtain⟨e3,hx3,h⟩:=ae h
  replace hx3:=ay hx3
  obtain⟨ad3,cs3,hq3⟩:=hI.gclat .p2 hx3
  obtain⟨a6,c6,hq4⟩:∃ (a6:Option Addr) (c6:Nat),(!(!decide (e1.Name=e2.Name)))=true→(a2=some ad3∧cs3=(EO e3 a6 c6)∧CA (Dj F c3) w2 (ad3.add (Int.toNat i1 * 3)) cs3∧SlC aj (Dj F c3) w2 a6 c6 e3.Size.L):=by
   by_cases hc:(!(!decide (e1.Name=e2.Name)))=true
   ·obtain⟨k1,k2,k3⟩:=hq3 hc;obtain⟨a6,c6,rfl,hf3⟩:=k2;exact⟨a6,c6,λ_=>⟨k1,rfl,k3,hf3⟩⟩
   exact⟨default,default,λk=>absurd k hc⟩
  clear hq3
  have hI:=hI.add (c:=L1 (!(!decide (e1.Name=e2.Name))) aj a6 c6 e3.Size.L) (λhc=>(hq4 hc).2.2.2)
  have hq5:(!(!decide (e1.Name=e2.Name)))=true→CA (Dj F c3) w2 (ad3.add (Int.toNat i1 * 3)) (EO e3 a6 c6):=λhc=>sW (hq4 hc).2.1 (hq4 hc).2.2.1
  refine vJ ?_
  refine V ?_
  refine px rfl (bV rfl rfl rfl rfl) rfl (λhc=>λw' hw'=>(am (l:=(fI e3.Size a6 c6)) rfl (aU et hc) pk rfl bt ((CA.part (hq5 hc) rfl).at_ (SX.any rfl hw')))) (by kernel_rfl) ?_
  refine V ?_
  obtain⟨e4,hx4,h⟩:=ae h
  replace hx4:=ay hx4
  obtain⟨ad4,cs4,hq6⟩:=hI.gclat .p4 hx4
  obtain⟨a7,c7,hq7⟩:∃ (a7:Option Addr) (c7:Nat),(!(!decide (e1.Name=e2.Name)))=true→(a3=some ad4∧cs4=(EO e4 a7 c7)∧CA (Dj F c3) w2 (ad4.add (Int.toNat i1 * 3)) cs4∧SlC aj (Dj F c3) w2 a7 c7 e4.Size.L):=by
   by_cases hc:(!(!decide (e1.Name=e2.Name)))=true
   ·obtain⟨k1,k2,k3⟩:=hq6 hc;obtain⟨a7,c7,rfl,hf4⟩:=k2;exact⟨a7,c7,λ_=>⟨k1,rfl,k3,hf4⟩⟩
   exact⟨default,default,λk=>absurd k hc⟩
  clear hq6
  have hI:=hI.add (c:=L1 (!(!decide (e1.Name=e2.Name))) aj a7 c7 e4.Size.L) (λhc=>(hq7 hc).2.2.2)
  have hq8:(!(!decide (e1.Name=e2.Name)))=true→CA (Dj F c3) w2 (ad4.add (Int.toNat i1 * 3)) (EO e4 a7 c7):=λhc=>sW (hq7 hc).2.1 (hq7 hc).2.2.1
  refine vJ ?_
  refine V ?_
  refine px rfl (bV rfl rfl rfl rfl) rfl (λhc=>λw' hw'=>(am (l:=(fI e4.Size a7 c7)) rfl (aU et hc) pk rfl bt ((CA.part (hq8 hc) rfl).at_ (SX.any rfl hw')))) (by kernel_rfl) ?_
  obtain⟨r1,hx5,h⟩:=ae h
  replace hx5:=ay hx5
  refine lj (v:=(vb r1)) rfl (bV rfl rfl rfl rfl) rfl (λhc=>(aD (vs:=[(Value.agg (cx e3.Size a6 c6)),(Value.agg (cx e4.Size a7 c7))]) rfl G0 ⟨(aU et hc),(aU et hc),ah⟩)) (λhc=>(pg hI.lt ⟨(hI.get .p1 hc),(hI.get .z hc),ah⟩ (hx5 hc)).mono λ_ _ k=>⟨k.1,k.2.1⟩) ?_
  intro w3 hx6;replace hI:=hI.ext hx6
  refine V ?_
  refine TR λhb h=>?_
  refine T ?_
  refine aO ?_
  exact kl (fuel1,au (i1+1))
 refine bv ?_
 refine fi ?_
 refine bh ?_
 exact RF
theorem Eb (hF:dK F w0) {a1 b1:eF} (hc:AllCl [LT cc a2 c1 a1.Dims,LT cc a3 c2 a1.Red,LT aj a4 c3 a1.Body.Lin.L,LT an a5 c4 a1.Body.Idx,LT ap a6 c5 a1.Body.Args,LT cc a7 c6 b1.Dims,LT cc a8 c7 b1.Red,LT aj a9 c8 b1.Body.Lin.L,LT an a10 c9 b1.Body.Idx,LT ap a11 c10 b1.Body.Args] F w0) {r:Bool} (h:ql a1 b1=some r):CR F w0 55 #[(Value.agg (ul a1 a2 c1 a3 c2 a4 c3 a5 c4 a6 c5)),(Value.agg (ul b1 a7 c6 a8 c7 a9 c8 a10 c9 a11 c10))] (vb r) []:=by
 refine EN Tryz.func55 Tryz.ntmps55 hF hc λhI=>?_
 rw[ql]at h
 refine sr (lX λb2 c12 w1 hI=>?_)
 refine lX λb3 c14 w2 hI=>?_
 refine T ?_
 refine aH (bg rfl rfl rfl rfl) rfl (λhc=>(am (l:=(cU a1.Type_)) rfl (aU et hc) qQ rfl bX (hI.kblk (l:=(cU a1.Type_)) .p1 rfl).1)) ?_
 refine T ?_
 refine aH (bg rfl rfl rfl rfl) rfl (λhc=>(am (l:=(cU b1.Type_)) rfl (aU et hc) qQ rfl bX (hI.kblk (l:=(cU b1.Type_)) .z rfl).1)) ?_
 refine aH (bg rfl rfl rfl rfl) rfl (λhc=>jn rfl (aU et hc) (aU et hc) (tz ..) (pd ..)) ?_
 refine T ?_
 obtain⟨r1,hx1,h⟩:=ae h
 replace hx1:=ay hx1
 refine sU (λhc=>wX hI.lt FS (hx1 hc)) (Rg Tryz.func112) λw3 hI=>?_
 refine T ?_
 obtain⟨r2,hx3,h⟩:=ae h
 replace hx3:=ay hx3
 refine sU (λhc=>wX hI.lt FS (hx3 hc)) (Rg Tryz.func112) λw4 hI=>?_
 refine T ?_
 refine aH (bg rfl rfl rfl rfl) rfl (λhc=>(am (l:=(bz a1.Body a4 c3 a5 c4 a6 c5)) rfl (aU et hc) mD rfl aS (hI.kblk (l:=(bz a1.Body a4 c3 a5 c4 a6 c5)) .p1 rfl).1)) ?_
 refine T ?_
 refine aH (bg rfl rfl rfl rfl) rfl (λhc=>(am (l:=(bz b1.Body a9 c8 a10 c9 a11 c10)) rfl (aU et hc) mD rfl aS (hI.kblk (l:=(bz b1.Body a9 c8 a10 c9 a11 c10)) .z rfl).1)) ?_
 obtain⟨r3,hx5,h⟩:=ae h
 replace hx5:=ay hx5
 refine sU (λhc=>Db hI.lt FS (hx5 hc)) (Rg Tryz.func17) λw5 hI=>?_
 exact RF
theorem Da (hF:dK F w0) {a1 b1:bI} (hc:AllCl [LT bk a2 c1 a1.Sizes,LT aM a3 c2 a1.Where,LT cn a4 c3 a1.Params,LT gk a5 c4 a1.Defs,LT bk a6 c5 a1.Outs,LT bk a7 c6 b1.Sizes,LT aM a8 c7 b1.Where,LT cn a9 c8 b1.Params,LT gk a10 c9 b1.Defs,LT bk a11 c10 b1.Outs] F w0) {r:Bool} (h:pG a1 b1=some r):CR F w0 26 #[(Value.agg (iY a1 a2 c1 a3 c2 a4 c3 a5 c4 a6 c5)),(Value.agg (iY b1 a7 c6 a8 c7 a9 c8 a10 c9 a11 c10))] (vb r) []:=by
 refine EN Tryz.func26 Tryz.ntmps26 hF hc λhI=>?_
 rw[pG]at h
 refine sr (lX λb2 c12 w1 hI=>?_)
 refine lX λb3 c14 w2 hI=>?_
 refine T ?_
 refine al (T ?_)
 refine sB h (λ_ k=>tN hI.lt FS k) (Rc Tryz.func52) λr1 w3 h hI=>?_
 refine T ?_
 obtain⟨r2,hx3,h⟩:=ae h
 replace hx3:=ay hx3
 refine sU (λhc=>Dc hI.lt FS (hx3 hc)) (Rg Tryz.func53) λw4 hI=>?_
 refine T ?_
 obtain⟨r3,hx5,h⟩:=ae h
 replace hx5:=ay hx5
 refine sU (λhc=>tN hI.lt FS (hx5 hc)) (Rg Tryz.func52) λw5 hI=>?_
 refine TR λhb h=>?_
 refine T ?_
 refine bM (α:=Unit) (λ_=>⟨117,[]⟩) (λ_=>[(2,vp b2 0),(3,vp b3 0)]) (λ_=>λw=>∃ C,Bun du F w0 C w [] [Cl.blk b2 55 (iY a1 a2 c1 a3 c2 a4 c3 a5 c4 a6 c5),LT bk a2 c1 a1.Sizes,LT aM a3 c2 a1.Where,LT cn a4 c3 a1.Params,LT gk a5 c4 a1.Defs,LT bk a6 c5 a1.Outs,Cl.blk b3 55 (iY b1 a7 c6 a8 c7 a9 c8 a10 c9 a11 c10),LT bk a7 c6 b1.Sizes,LT aM a8 c7 b1.Where,LT cn a9 c8 b1.Params,LT gk a10 c9 b1.Defs,LT bk a11 c10 b1.Outs]∧qk a1 b1=some r) ?_ ?_
 ·clear h hI;rintro _ w6 ⟨c15,hI,h⟩
  try dsimp only at hI h ⊢
  rw[qk]at h
  refine al (T ?_)
  refine bs (α:=Nat×Int) (λx=>λw=>∃ C,Bun du F w0 C w [] [Cl.blk b2 55 (iY a1 a2 c1 a3 c2 a4 c3 a5 c4 a6 c5),LT bk a2 c1 a1.Sizes,LT aM a3 c2 a1.Where,LT cn a4 c3 a1.Params,LT gk a5 c4 a1.Defs,LT bk a6 c5 a1.Outs,Cl.blk b3 55 (iY b1 a7 c6 a8 c7 a9 c8 a10 c9 a11 c10),LT bk a7 c6 b1.Sizes,LT aM a8 c7 b1.Where,LT cn a9 c8 b1.Params,LT gk a10 c9 b1.Defs,LT bk a11 c10 b1.Outs]∧iW a1 b1 (x.1) (x.2)=some r) (λx _=>x.1) (λx=>[(2,vp b2 0),(3,vp b3 0),(6,vi (x.2))]) (fu,0) BH SB ?_
  clear h hI;rintro⟨fuel1,i1⟩ w7 ⟨c16,hI,h⟩
  dsimp only at hI h ⊢
  rcases fuel1 with _ | fuel1
  ·rw[iW]at h;cases h
  rw[iW]at h
  refine al (T ?_)
  refine TC (λhb h=>?_) λhb h=>?_
  ·refine T ?_
   refine al (T ?_)
   refine al (aJ [] false (.c (0,.q) (.c (1,.q) (.c (2,.q) (.c (3,.q) (.c (4,.q) (.c (5,.q) (.c (6,.q) (.c (7,.q) (.c (8,.q) (.c (9,.q) (.c (10,.s) (.c (11,.q) .n)))))))))))) hI (by kernel_rfl) (by kernel_rfl) ?_)
   intro w8 hI
   refine V ?_
   obtain⟨e1,hx7,h⟩:=ae h
   obtain⟨ad1,cs1,hA1,hr1,hq1⟩:=hI.clat .p4 hx7
   obtain⟨a12,c17,a13,c18,a14,c19,a15,c20,a16,c21,rfl,hf1,hf2,hf3,hf4,hf5⟩:=hr1
   have hI:=hI.ads hf1
   have hI:=hI.ads hf2
   have hI:=hI.ads hf3
   have hI:=hI.ads hf4
   have hI:=hI.ads hf5
   refine vI ?_
   refine bR rfl gn rfl (λw' hw'=>(am (l:=(Lm e1 a12 c17 a13 c18 a14 c19 a15 c20 a16 c21)) rfl et wZ rfl lR (hq1.at_ (SX.any rfl hw')))) (by kernel_rfl) ?_
   refine V ?_
   obtain⟨e2,hx8,h⟩:=ae h
   obtain⟨ad2,cs2,hA2,hr2,hq2⟩:=hI.clat (.s (.s (.s (.s (.s (.s .p9)))))) hx8
   obtain⟨a17,c22,a18,c23,a19,c24,a20,c25,a21,c26,rfl,hf6,hf7,hf8,hf9,hf10⟩:=hr2
   have hI:=hI.ads hf6
   have hI:=hI.ads hf7
   have hI:=hI.ads hf8
   have hI:=hI.ads hf9
   have hI:=hI.ads hf10
   refine vI ?_
   refine bR rfl gn rfl (λw' hw'=>(am (l:=(Lm e2 a17 c22 a18 c23 a19 c24 a20 c25 a21 c26)) rfl et wZ rfl lR (hq2.at_ (SX.any rfl hw')))) (by kernel_rfl) ?_
   obtain⟨r4,hx9,h⟩:=ae h
   refine dk rfl gn rfl (aD (vs:=[(Value.agg (ul e1 a12 c17 a13 c18 a14 c19 a15 c20 a16 c21)),(Value.agg (ul e2 a17 c22 a18 c23 a19 c24 a20 c25 a21 c26))]) rfl Ld ⟨et,et,ah⟩) (Calls.mono (Eb hI.lt FS hx9) ?_)
   rintro _ w9 ⟨rfl,hx10,hl4⟩
   refine⟨_,rfl,hx10,?_⟩
   replace hI:=(hI.ext hx10)
   refine V ?_
   refine TR λhb h=>?_
   refine T ?_
   refine aO ?_
   exact kl (fuel1,au (i1+1))
  refine bv ?_
  refine fi ?_
  refine bh ?_
  exact RF
 refine T ?_
 refine bs (α:=Nat×Int) (λx=>λw=>∃ C,Bun du F w0 C w [] [Cl.blk b2 55 (iY a1 a2 c1 a3 c2 a4 c3 a5 c4 a6 c5),LT bk a2 c1 a1.Sizes,LT aM a3 c2 a1.Where,LT cn a4 c3 a1.Params,LT gk a5 c4 a1.Defs,LT bk a6 c5 a1.Outs,Cl.blk b3 55 (iY b1 a7 c6 a8 c7 a9 c8 a10 c9 a11 c10),LT bk a7 c6 b1.Sizes,LT aM a8 c7 b1.Where,LT cn a9 c8 b1.Params,LT gk a10 c9 b1.Defs,LT bk a11 c10 b1.Outs]∧iV a1 b1 (x.1) (x.2)=some r) (λx _=>x.1) (λx=>[(2,vp b2 0),(3,vp b3 0),(5,vi (x.2))]) (fu,0) BH SB ?_
 clear h hI;rintro⟨fuel2,i2⟩ w10 ⟨c27,hI,h⟩
 dsimp only at hI h ⊢
 rcases fuel2 with _ | fuel2
 ·rw[iV]at h;cases h
 rw[iV]at h
 refine al (T ?_)
 refine TC (λhb h=>?_) λhb h=>?_
 ·refine T ?_
  refine al (T ?_)
  refine al (aJ [] false (.c (0,.q) (.c (1,.q) (.c (2,.q) (.c (3,.q) (.c (4,.q) (.c (5,.q) (.c (6,.q) (.c (7,.q) (.c (8,.q) (.c (9,.q) (.c (10,.q) (.c (11,.q) (.c (12,.q) (.c (13,.q) (.c (14,.q) (.c (15,.q) (.c (16,.q) (.c (17,.q) (.c (18,.q) (.c (19,.q) (.c (20,.q) (.c (21,.q) (.c (22,.q) (.c (23,.q) (.c (24,.q) (.c (25,.q) (.c (26,.q) (.c (27,.q) (.c (28,.q) (.c (29,.q) (.c (30,.q) (.c (31,.q) (.c (32,.q) (.c (33,.q) (.c (34,.q) (.c (35,.q) (.c (36,.q) (.c (37,.q) (.c (38,.q) (.c (39,.q) (.c (40,.q) (.c (41,.s) (.c (42,.q) (.c (43,.q) .n)))))))))))))))))))))))))))))))))))))))))))) hI (by kernel_rfl) (by kernel_rfl) ?_)
  intro w11 hI
  refine V ?_
  obtain⟨e3,hx11,h⟩:=ae h
  obtain⟨ad3,cs3,hA3,hr3,hq3⟩:=hI.clat .p3 hx11
  obtain⟨a22,c28,rfl,hf11⟩:=hr3
  have hI:=hI.ads hf11
  refine vI ?_
  refine V ?_
  obtain⟨e4,hx12,h⟩:=ae h
  obtain⟨ad4,cs4,hA4,hr4,hq4⟩:=hI.clat (.s .p9) hx12
  obtain⟨a23,c29,rfl,hf12⟩:=hr4
  have hI:=hI.ads hf12
  refine vI ?_
  refine V ?_
  obtain⟨e5,hx13,h⟩:=ae h
  replace hx13:=ay hx13
  obtain⟨ad5,cs5,hq5⟩:=hI.gclat .p5 hx13
  obtain⟨a24,c30,hq6⟩:∃ (a24:Option Addr) (c30:Nat),(!(!decide (e3.Name=e4.Name)))=true→(a4=some ad5∧cs5=(tq e5 a24 c30)∧CA (Dj F c27) w11 (ad5.add (Int.toNat i2 * 7)) cs5∧SlC dQ (Dj F c27) w11 a24 c30 e5.Dims):=by
   by_cases hc:(!(!decide (e3.Name=e4.Name)))=true
   ·obtain⟨k1,k2,k3⟩:=hq5 hc;obtain⟨a24,c30,rfl,hf13⟩:=k2;exact⟨a24,c30,λ_=>⟨k1,rfl,k3,hf13⟩⟩
   exact⟨default,default,λk=>absurd k hc⟩
  clear hq5
  have hI:=hI.add (c:=L1 (!(!decide (e3.Name=e4.Name))) dQ a24 c30 e5.Dims) (λhc=>(hq6 hc).2.2.2)
  have hq7:(!(!decide (e3.Name=e4.Name)))=true→CA (Dj F c27) w11 (ad5.add (Int.toNat i2 * 7)) (tq e5 a24 c30):=λhc=>sW (hq6 hc).2.1 (hq6 hc).2.2.1
  refine vJ ?_
  refine V ?_
  refine px rfl (bV rfl rfl rfl rfl) rfl (λhc=>λw' hw'=>(am (l:=(cU e5.Type_)) rfl (aU et hc) qQ rfl bX ((CA.part (hq7 hc) rfl).at_ (SX.any rfl hw')))) (by kernel_rfl) ?_
  refine V ?_
  obtain⟨e6,hx14,h⟩:=ae h
  replace hx14:=ay hx14
  obtain⟨ad6,cs6,hq8⟩:=hI.gclat (.s (.s (.s .p9))) hx14
  obtain⟨a25,c31,hq9⟩:∃ (a25:Option Addr) (c31:Nat),(!(!decide (e3.Name=e4.Name)))=true→(a9=some ad6∧cs6=(tq e6 a25 c31)∧CA (Dj F c27) w11 (ad6.add (Int.toNat i2 * 7)) cs6∧SlC dQ (Dj F c27) w11 a25 c31 e6.Dims):=by
   by_cases hc:(!(!decide (e3.Name=e4.Name)))=true
   ·obtain⟨k1,k2,k3⟩:=hq8 hc;obtain⟨a25,c31,rfl,hf14⟩:=k2;exact⟨a25,c31,λ_=>⟨k1,rfl,k3,hf14⟩⟩
   exact⟨default,default,λk=>absurd k hc⟩
  clear hq8
  have hI:=hI.add (c:=L1 (!(!decide (e3.Name=e4.Name))) dQ a25 c31 e6.Dims) (λhc=>(hq9 hc).2.2.2)
  have hq10:(!(!decide (e3.Name=e4.Name)))=true→CA (Dj F c27) w11 (ad6.add (Int.toNat i2 * 7)) (tq e6 a25 c31):=λhc=>sW (hq9 hc).2.1 (hq9 hc).2.2.1
  refine vJ ?_
  refine V ?_
  refine px rfl (bV rfl rfl rfl rfl) rfl (λhc=>λw' hw'=>(am (l:=(cU e6.Type_)) rfl (aU et hc) qQ rfl bX ((CA.part (hq10 hc) rfl).at_ (SX.any rfl hw')))) (by kernel_rfl) ?_
  refine pi rfl (bV rfl rfl rfl rfl) rfl (λhc=>λw'=>(jn rfl (aU et hc) (aU et hc) (rX ..) (pd ..))) ?_
  refine V ?_
  obtain⟨e7,hx15,h⟩:=ae h
  replace hx15:=ay hx15
  obtain⟨ad7,cs7,hq11⟩:=hI.gclat .p7 hx15
  obtain⟨a26,c32,hq12⟩:∃ (a26:Option Addr) (c32:Nat),(!((!decide (e3.Name=e4.Name))||(!((decide (e5.Type_.Kind=e6.Type_.Kind))&&(decide (e5.Type_.Bits=e6.Type_.Bits))&&(decide (e5.Type_.Frac=e6.Type_.Frac))&&(decide (e5.Type_.Round=e6.Type_.Round))&&(decide (e5.Type_.Over=e6.Type_.Over))))))=true→(a4=some ad7∧cs7=(tq e7 a26 c32)∧CA (Dj F c27) w11 (ad7.add (Int.toNat i2 * 7)) cs7∧SlC dQ (Dj F c27) w11 a26 c32 e7.Dims):=by
   by_cases hc:(!((!decide (e3.Name=e4.Name))||(!((decide (e5.Type_.Kind=e6.Type_.Kind))&&(decide (e5.Type_.Bits=e6.Type_.Bits))&&(decide (e5.Type_.Frac=e6.Type_.Frac))&&(decide (e5.Type_.Round=e6.Type_.Round))&&(decide (e5.Type_.Over=e6.Type_.Over))))))=true
   ·obtain⟨k1,k2,k3⟩:=hq11 hc;obtain⟨a26,c32,rfl,hf15⟩:=k2;exact⟨a26,c32,λ_=>⟨k1,rfl,k3,hf15⟩⟩
   exact⟨default,default,λk=>absurd k hc⟩
  clear hq11
  have hI:=hI.add (c:=L1 (!((!decide (e3.Name=e4.Name))||(!((decide (e5.Type_.Kind=e6.Type_.Kind))&&(decide (e5.Type_.Bits=e6.Type_.Bits))&&(decide (e5.Type_.Frac=e6.Type_.Frac))&&(decide (e5.Type_.Round=e6.Type_.Round))&&(decide (e5.Type_.Over=e6.Type_.Over)))))) dQ a26 c32 e7.Dims) (λhc=>(hq12 hc).2.2.2)
  have hq13:(!((!decide (e3.Name=e4.Name))||(!((decide (e5.Type_.Kind=e6.Type_.Kind))&&(decide (e5.Type_.Bits=e6.Type_.Bits))&&(decide (e5.Type_.Frac=e6.Type_.Frac))&&(decide (e5.Type_.Round=e6.Type_.Round))&&(decide (e5.Type_.Over=e6.Type_.Over))))))=true→CA (Dj F c27) w11 (ad7.add (Int.toNat i2 * 7)) (tq e7 a26 c32):=λhc=>sW (hq12 hc).2.1 (hq12 hc).2.2.1
  refine vJ ?_
  refine V ?_
  obtain⟨e8,hx16,h⟩:=ae h
  replace hx16:=ay hx16
  obtain⟨ad8,cs8,hq14⟩:=hI.gclat (.s (.s (.s (.s (.s .p9))))) hx16
  obtain⟨a27,c33,hq15⟩:∃ (a27:Option Addr) (c33:Nat),(!((!decide (e3.Name=e4.Name))||(!((decide (e5.Type_.Kind=e6.Type_.Kind))&&(decide (e5.Type_.Bits=e6.Type_.Bits))&&(decide (e5.Type_.Frac=e6.Type_.Frac))&&(decide (e5.Type_.Round=e6.Type_.Round))&&(decide (e5.Type_.Over=e6.Type_.Over))))))=true→(a9=some ad8∧cs8=(tq e8 a27 c33)∧CA (Dj F c27) w11 (ad8.add (Int.toNat i2 * 7)) cs8∧SlC dQ (Dj F c27) w11 a27 c33 e8.Dims):=by
   by_cases hc:(!((!decide (e3.Name=e4.Name))||(!((decide (e5.Type_.Kind=e6.Type_.Kind))&&(decide (e5.Type_.Bits=e6.Type_.Bits))&&(decide (e5.Type_.Frac=e6.Type_.Frac))&&(decide (e5.Type_.Round=e6.Type_.Round))&&(decide (e5.Type_.Over=e6.Type_.Over))))))=true
   ·obtain⟨k1,k2,k3⟩:=hq14 hc;obtain⟨a27,c33,rfl,hf16⟩:=k2;exact⟨a27,c33,λ_=>⟨k1,rfl,k3,hf16⟩⟩
   exact⟨default,default,λk=>absurd k hc⟩
  clear hq14
  have hI:=hI.add (c:=L1 (!((!decide (e3.Name=e4.Name))||(!((decide (e5.Type_.Kind=e6.Type_.Kind))&&(decide (e5.Type_.Bits=e6.Type_.Bits))&&(decide (e5.Type_.Frac=e6.Type_.Frac))&&(decide (e5.Type_.Round=e6.Type_.Round))&&(decide (e5.Type_.Over=e6.Type_.Over)))))) dQ a27 c33 e8.Dims) (λhc=>(hq15 hc).2.2.2)
  have hq16:(!((!decide (e3.Name=e4.Name))||(!((decide (e5.Type_.Kind=e6.Type_.Kind))&&(decide (e5.Type_.Bits=e6.Type_.Bits))&&(decide (e5.Type_.Frac=e6.Type_.Frac))&&(decide (e5.Type_.Round=e6.Type_.Round))&&(decide (e5.Type_.Over=e6.Type_.Over))))))=true→CA (Dj F c27) w11 (ad8.add (Int.toNat i2 * 7)) (tq e8 a27 c33):=λhc=>sW (hq15 hc).2.1 (hq15 hc).2.2.1
  refine vJ ?_
  refine V ?_
  obtain⟨r5,hx17,h⟩:=ae h
  replace hx17:=ay hx17
  refine lj (v:=(vb r5)) rfl (bV rfl rfl rfl rfl) rfl (λhc=>(aD (vs:=[vs a26 e7.Dims.length c32,vs a27 e8.Dims.length c33]) rfl Le ⟨(aU et hc),(aU et hc),ah⟩)) (λhc=>(wW hI.lt ⟨(hI.get .p1 hc),(hI.get .z hc),ah⟩ (hx17 hc)).mono λ_ _ k=>⟨k.1,k.2.1⟩) ?_
  intro w12 hx18;replace hI:=hI.ext hx18
  refine V ?_
  refine TR λhb h=>?_
  refine T ?_
  refine aO ?_
  exact kl (fuel2,au (i2+1))
 refine bv ?_
 refine fi ?_
 exact kj ()
theorem uh (F:NP) (w0:World) (hF:∀ k,F k→k<w0.heap.size) (s1:List UInt8) (hc:AllCl [aA] F w0) (r:Bool)
  (h:kO s1=some r):
  Calls Tryz.prog 8 #[(aT s1)] w0 λe w=>e= .returned (vb r)∧Ext w0 w∧AllCl [] F w:=by
 refine EN Tryz.func8 Tryz.ntmps8 hF hc λhI=>?_
 rw[kO]at h
 refine T ?_
 refine al (T ?_)
 refine TC (λhb h=>?_) λhb h=>?_
 ·refine sr ?_
  refine sB h (λ_ k=>rE hI.lt FS k) (Rc Tryz.func11) λr1 w1 h hI=>?_
  exact RF
 refine T ?_
 obtain⟨r2,hx3,h⟩:=ae h
 refine aw gn rfl (Rc Tryz.func24) (Calls.mono (zG hI.lt FS hx3) ?_)
 rintro _ w2 ⟨a1,c1,a2,c2,a3,c3,a4,c4,a5,c5,rfl,hx4,hl2⟩
 refine⟨_,rfl,?_⟩
 replace hI:=(hI.ext hx4).adds hl2;dsimp only[ca,na]at hI
 refine T ?_
 refine lN λb1 c6 w3 hI=>?_
 refine lA λc7 w4 hI=>?_
 refine T ?_
 obtain⟨r3,hx5,h⟩:=ae h
 refine aw gn rfl (Rc Tryz.func25) (Calls.mono (Bo hI.lt ah hx5) ?_)
 rintro _ w5 ⟨a6,c8,a7,c9,a8,c10,a9,c11,a10,c12,rfl,hx6,hl3⟩
 refine⟨_,rfl,?_⟩
 replace hI:=(hI.ext hx6).adds hl3;dsimp only[ca,na]at hI
 refine T ?_
 refine lN λb2 c13 w6 hI=>?_
 refine lA λc14 w7 hI=>?_
 refine T ?_
 refine sB h (λ_ k=>Da hI.lt FS k) (Rc Tryz.func26) λr4 w8 h hI=>?_
 refine T ?_
 obtain⟨r5,hx9,h⟩:=ae h
 replace hx9:=ay hx9
 refine sU (λhc=>rE hI.lt FS (hx9 hc)) (Rg Tryz.func11) λw9 hI=>?_
 exact RF
end Go.Proofs.YtmhoikfoogemnaaGreatDoor
