import Derived.Test.YtmhoikfoogemnaaGreatDoorGCQ8a
import Derived.Test.YtmhoikfoogemnaaGreatDoorGLfH
namespace Go.Proofs.YtmhoikfoogemnaaGreatDoor
open Go Go.RowKit Go.Vc
set_option maxRecDepth 100000
set_option maxHeartbeats 4000000
set_option linter.unusedVariables false
set_option linter.unusedSimpArgs false
variable {σ:Type} {C0 F:NP} {w0:World} {a1 a2 a3 a4 a5 a6 a7 a8 a9 a10 a11 a12:Option Addr} {b1 b2 b3 b4 b5 b6 b7 b8 b9 b10 b11 b12 c1 c2 c3 c4 c5 c6 c7 c8 c9 c10 c11 c12:Nat}
theorem dB {r1:aa} {negative1:Bool} (hI:Bun C0 F w0 C0 w0 [MO.box b1 67 (ai r1 a1 c1)] [LT af a1 c1 r1.l,aA]) {r:bL (GLin×aa)} (h:ey r1 negative1=some r):CP C0 F w0 70 #[vp b1 0,vb negative1] r λrx e w=>∃ a2 c2 a3 c3 C,e= .returned (Value.agg (cx rx.1 a2 c2))∧Bun C0 F w0 C w [MO.box b1 67 (ai rx.2 a3 c3)] [LT aj a2 c2 rx.1.L,LT af a3 c3 rx.2.l]:=by
 refine fJ (l:=[vp b1 0,vb negative1]) Tryz.func70 rfl Tryz.ntmps70 rfl ?_
 rw[ey]at h
 refine sr (dl (cs:=#[vi 0,vs none 0 0]) hI gn rfl rfl mi rfl ?_)
 intro b2 c4 w1 hI
 refine T ?_
 refine al (T ?_)
 refine sB h (λ_ k=>lO NE ⟨(hI.get0 .z),hI.lendBox .p1,hI.get0 .p1,ah⟩ k) (Rc Tryz.func126) λr2 w2 h hI=>?_
 refine TC (λhb h=>?_) λhb h=>?_
 ·refine T ?_
  obtain⟨c5,f1,hB,hl2,hk1⟩:=hI.hands (.r (.l .n))
  refine dC h (λ_ hx3=>cr HS hx3) (kD hk1) (Rc Tryz.func128) ?_
  rintro⟨r3,s1⟩ hx3 h _ w3 ⟨a4,c6,c7,rfl,hB2⟩
  try dsimp only at h
  refine HN hk1 hB2 λc8 hI=>?_
  refine⟨_,rfl,?_⟩
  obtain⟨r4,hx4,h⟩:=ae h
  refine aw gn rfl (Rc Tryz.func127) (Calls.mono (Aj hI.lt ah hx4) ?_)
  rintro _ w4 ⟨a5,c9,rfl,hx5,hl3⟩
  refine⟨_,rfl,?_⟩
  replace hI:=(hI.ext hx5).adds hl3;dsimp only[ca,na]at hI
  refine lN λb3 c10 w5 hI=>?_
  refine lA λc11 w6 hI=>?_
  refine nk (al (T ?_))
  refine TC (λhb h=>?_) λhb h=>?_
  ·refine T ?_
   obtain⟨r5,hx6,h⟩:=ae h
   refine aw gn rfl (Rc Tryz.func129) (Calls.mono (wU hI.lt FS hx6) ?_)
   rintro _ w7 ⟨a6,c12,rfl,hx7,hl4⟩
   refine⟨_,rfl,?_⟩
   replace hI:=(hI.ext hx7).adds hl4;dsimp only[ca,na]at hI
   refine T ?_
   refine lA λc13 w8 hI=>?_
   refine T ?_
   refine lA λc14 w9 hI=>?_
   refine nk (aF ?_)
   obtain rfl:=ak h
   refine QG ?_
   exact .inl ⟨_,rfl,a6,c12,a4,c6,_,rfl,hI.arr GO SU⟩
  refine T ?_
  refine lA λc15 w10 hI=>?_
  refine nk (aF ?_)
  obtain rfl:=ak h
  refine QG ?_
  exact .inl ⟨_,rfl,a5,c9,a4,c6,_,rfl,hI.arr GO SU⟩
 refine T ?_
 obtain⟨c16,f2,hB,hl5,hk2⟩:=hI.hands (.r (.l .n))
 refine dC h (λ_ hx8=>iQ HS hx8) (kD hk2) (Rc Tryz.func130) ?_
 rintro⟨r6,s2⟩ hx8 h _ w11 ⟨a7,c17,c18,rfl,hB2⟩
 try dsimp only at h
 refine HN hk2 hB2 λc19 hI=>?_
 refine⟨_,rfl,?_⟩
 refine T ?_
 refine bM (α:=(List UInt8)×aa×(Option Addr)×Nat) (λ_=>⟨58,[]⟩) (λx=>[(0,vp b1 0),(1,vb negative1),(4,vp b2 0),(5,vi r1.at_),(7,(aT r6)),(8,(aT (x.1)))]) (λx=>λw=>∃ C,Bun C0 F w0 C w [MO.box b1 67 (ai (x.2.1) (x.2.2.1) (x.2.2.2)),MO.box b2 27 #[vi 0,vs none 0 0]] [LT af (x.2.2.1) (x.2.2.2) (x.2.1).l,aA]∧bo r6 negative1 r1 (x.1) (x.2.1)=some r) ?_ ?_
 ·clear h hI;rintro⟨name1,r7,a8,c20⟩ w12 ⟨c21,hI,h⟩
  try dsimp only at hI h ⊢
  rw[bo]at h
  refine T ?_
  refine sB h (λ_ k=>sF hI.lt trivial k) (Rc Tryz.func131) λr8 w13 h hI=>?_
  refine T ?_
  refine bM (α:=Unit) (λ_=>⟨58,[]⟩) (λ_=>[(4,vp b2 0),(8,(aT name1)),(9,vi r8.1)]) (λ_=>λw=>∃ C,Bun C0 F w0 C w [MO.box b2 27 #[vi 0,vs none 0 0],MO.box b1 67 (ai r7 a8 c20)] [LT af a8 c20 r7.l,aA]∧eh name1 r8 r7=some r) ?_ ?_
  ·clear h hI;rintro _ w14 ⟨c22,hI,h⟩
   try dsimp only at hI h ⊢
   rw[eh]at h
   refine al (T ?_)
   refine TC (λhb h=>?_) λhb h=>?_
   ·refine T ?_
    obtain⟨r9,hx11,h⟩:=ae h
    refine aw gn rfl (Rc Tryz.func132) (Calls.mono (C6 hI.lt ah hx11) ?_)
    rintro _ w15 ⟨a9,c23,rfl,hx12,hl7⟩
    refine⟨_,rfl,?_⟩
    replace hI:=(hI.ext hx12).adds hl7;dsimp only[ca,na]at hI
    refine lA λc24 w16 hI=>?_
    refine nk (aF ?_)
    obtain rfl:=ak h
    refine QG ?_
    exact .inl ⟨_,rfl,a9,c23,a8,c20,_,rfl,hI.arr GO SU⟩
   refine T ?_
   obtain⟨r10,hx13,h⟩:=ae h
   refine aw gn rfl (Rc Tryz.func127) (Calls.mono (Aj hI.lt ah hx13) ?_)
   rintro _ w17 ⟨a10,c25,rfl,hx14,hl8⟩
   refine⟨_,rfl,?_⟩
   replace hI:=(hI.ext hx14).adds hl8;dsimp only[ca,na]at hI
   refine sm ?_
   obtain⟨r11,hx15,h⟩:=ae h
   refine aw gn rfl (Rc Tryz.func129) (Calls.mono (wU hI.lt FS hx15) ?_)
   rintro _ w18 ⟨a11,c26,rfl,hx16,hl9⟩
   refine⟨_,rfl,?_⟩
   replace hI:=(hI.ext hx16).adds hl9;dsimp only[ca,na]at hI
   refine T ?_
   refine lN λb4 c27 w19 hI=>?_
   refine lA λc28 w20 hI=>?_
   refine T ?_
   refine lA λc29 w21 hI=>?_
   refine nk (aF ?_)
   obtain rfl:=ak h
   refine QG ?_
   exact .inl ⟨_,rfl,a11,c26,a8,c20,_,rfl,hI.arr GO SU⟩
  refine TC (λhb h=>?_) λhb h=>?_
  ·refine T ?_
   rcases eU h with⟨r12,hx17,h⟩ | ⟨pa_,pn_,hx17,hp_⟩
   rotate_left
   ·subst hp_
    refine ja gn rfl (aD (vs:=[vp b1 0,vi r1.at_,vi 3]) rfl uw ⟨et,et,ao,ah⟩) (Calls.mono (aZ NE ⟨(hI.get0 .z),hI.lendBox .z,ah⟩ hx17) ?_)
    intro e_ w_ hq_;obtain⟨rfl,hx_⟩:=cW hq_;have hI_:=hI.ext hx_;exact .inr ⟨_,rfl,gc (.inr ⟨_,_,rfl,rfl,_,hI_.arr .n trivial⟩)⟩
   try dsimp only at h
   refine aw gn rfl (Rc Tryz.func71) (Calls.mono (aZ NE ⟨(hI.get0 .z),hI.lendBox .z,ah⟩ hx17) ?_)
   intro e_ w22 hq_;obtain⟨rfl,hx18,hl10⟩:=cV hq_
   refine⟨_,rfl,?_⟩
   replace hI:=(hI.ext hx18)
   refine aO ?_
   exact kj ()
  exact bl (bu () SB BH rfl)
 refine T ?_
 obtain⟨c30,f3,hB,hl11,hk3⟩:=hI.hands (.l (.r .n))
 obtain⟨⟨r13,s3⟩,hx19,h⟩:=ae h
 try dsimp only at h
 refine aw gn rfl (Rc Tryz.func68) (Calls.mono (bb HS hx19) ?_)
 rintro _ w23 ⟨a12,c31,c32,rfl,hB2⟩
 refine HN hk3 hB2 λc33 hI=>?_
 refine⟨_,rfl,?_⟩
 refine TC (λhb h=>?_) λhb h=>?_
 ·refine T ?_
  obtain⟨c34,f4,hB,hl12,hk4⟩:=hI.hands (.l (.r .n))
  refine dC h (λ_ hx20=>cr HS hx20) (kD hk4) (Rc Tryz.func128) ?_
  rintro⟨r14,s4⟩ hx20 h _ w24 ⟨a13,c35,c36,rfl,hB2⟩
  try dsimp only at h
  refine HN hk4 hB2 λc37 hI=>?_
  refine⟨_,rfl,?_⟩
  refine sa ?_
  refine aO ?_
  exact kj (r14,s4,a13,c35)
 exact bl (bu (([]:List UInt8),s3,a12,c31) SB BH rfl)
def gV:Tr:=(.c (9,.s) (.c (10,.q) .n))
def fj:Tr:=(.c (4,.s) (.c (5,.q) (.c (6,.q) (.c (7,.q) gV))))
def dF:Tr:=(.c (0,.s) fj)
def ci:Tr:=(.c (3,.s) fj)
def dG:Tr:=(.two 4 (.c (5,.q) (.c (6,.q) (.c (7,.q) (.c (8,.s) gV)))) 8 fj)
theorem eE {r1:aa} (hI:Bun C0 F w0 C0 w0 [MO.box b1 67 (ai r1 a1 c1)] [LT af a1 c1 r1.l,aA]) {r:bL (GLin×aa)} (h:bG r1=some r):CP C0 F w0 31 #[vp b1 0] r λrx e w=>∃ a2 c2 a3 c3 C,e= .returned (Value.agg (cx rx.1 a2 c2))∧Bun C0 F w0 C w [MO.box b1 67 (ai rx.2 a3 c3)] [LT aj a2 c2 rx.1.L,LT af a3 c3 rx.2.l]:=by
 refine fJ (l:=[vp b1 0]) Tryz.func31 rfl Tryz.ntmps31 rfl ?_
 rw[bG]at h
 refine sr (dl (cs:=#[vi 0,vs none 0 0]) hI gn rfl rfl mi rfl ?_)
 intro b2 c4 w1 hI
 refine T ?_
 obtain⟨c5,f1,hB,hl1,hk1⟩:=hI.hands (.r (.l .n))
 obtain⟨⟨r2,s1⟩,hx1,h⟩:=ae h
 try dsimp only at h
 refine aw gn rfl (Rc Tryz.func68) (Calls.mono (bb HS hx1) ?_)
 rintro _ w2 ⟨a4,c6,c7,rfl,hB2⟩
 refine HN hk1 hB2 λc8 hI=>?_
 refine⟨_,rfl,?_⟩
 refine T ?_
 refine sq (aC (vs:=[]) (cs:=#[vi 0,vs none 0 0]) rfl trivial (by kernel_rfl)) ?_
 refine lN λb3 c9 w3 hI=>?_
 refine lA λc10 w4 hI=>?_
 refine T ?_
 have hI:=hI.add (c:=LT aj none 0 ([]:List GMono)) SlC.nil
 refine bs (α:=Nat×Bool×aa×GLin×(Option Addr)×Nat×(Option Addr)×Nat) (λx=>λw=>∃ C,Bun C0 F w0 C w [MO.box b1 67 (ai (x.2.2.1) (x.2.2.2.2.1) (x.2.2.2.2.2.1)),MO.box b2 27 #[vi 0,vs none 0 0],MO.box b3 27 (cx (x.2.2.2.1) (x.2.2.2.2.2.2.1) (x.2.2.2.2.2.2.2))] [LT af (x.2.2.2.2.1) (x.2.2.2.2.2.1) (x.2.2.1).l,LT aj (x.2.2.2.2.2.2.1) (x.2.2.2.2.2.2.2) (x.2.2.2.1).L,aA]∧bp (x.1) (x.2.1) (x.2.2.1) (x.2.2.2.1)=some r) (λx _=>x.1) (λx=>[(0,vp b1 0),(2,vp b2 0),(3,vb (x.2.1)),(4,vp b3 0)]) (fu,r2,s1,(⟨0,[]⟩:GLin),a4,c6,none,0) ⟨_,hI.arr (.c .p1 (.c .p1 (.c .z .n))) ⟨.p1,.z,.p3,ah⟩,h⟩ SB ?_
 clear h hI;rintro⟨fuel1,negative1,r3,sum1,a5,c11,a6,c12⟩ w5 ⟨c13,hI,h⟩
 dsimp only at hI h ⊢
 rcases fuel1 with _ | fuel1
 ·rw[bp]at h;cases h
 rw[bp]at h
 refine T ?_
 refine al ?_
 rcases eU h with⟨⟨r4,s2⟩,hx2,h⟩ | ⟨pa_,pn_,hx2,hp_⟩
 rotate_left
 ·subst hp_
  refine aJ [3,9] false (.c (1,.q) (.c (2,.q) (.three 0 (.two 3 dG 8 ci) 3 (.two 0 dG 8 dF) 8 (.two 0 ci 3 dF)))) hI (by kernel_rfl) (by kernel_rfl) ?_
  intro w15 hI
  refine bT (α:=Nat×NP) (T:=ci) (λx=>[(0,vp b1 0),(2,vp b2 0),(4,vp b3 0),(5,vi r3.at_),(6,(Value.pointer (some ⟨(x.1),0,none⟩))),(16,(Value.agg (cx sum1 a6 c12))),(17,vp b1 0),(18,vb negative1)]) (λx w=>Bun C0 F w0 (x.2) w [MO.box (x.1) 27 #[vi 0,vs none 0 0],MO.box b1 67 (ai r3 a5 c11),MO.box b2 27 #[vi 0,vs none 0 0],MO.box b3 27 (cx sum1 a6 c12)] [LT af a5 c11 r3.l,LT aj a6 c12 sum1.L,aA]) (λx w=>SN [3,9] (DM false F (x.2)) w) ?_ ?_
  ·clear hI;rintro⟨b4,c23⟩ w11 hI
   try dsimp only at hI ⊢
   unfold ci
   refine bK (F:=F) (C:=c23) rfl rfl ?_
   obtain⟨c14,f2,hB,hl2,hk2⟩:=hI.hands (.r (.l (.r (.r .n))))
   refine fB rfl gn rfl (aD (vs:=[vp b1 0,vb negative1]) rfl wN ⟨et,et,ah⟩) (Calls.mono (dB HS hx2) ?_)
   intro e_ w_ hq_;obtain⟨rfl,C_,hB_⟩:=cW hq_;obtain⟨C9_,-,hI_⟩:=hk2 _ _ _ _ hB_;exact .inr ⟨_,rfl,gc (.inr ⟨_,_,rfl,rfl,_,hI_.arr .n trivial⟩)⟩
  intro hk_tr_parser_reader_form_w_3_1
  refine V ?_
  refine vV ?_ ?_ ?_
  ·skip
   refine bq rfl gn rfl (am (l:=(fI sum1 a6 c12)) rfl et pk rfl bt (LU (hI.blk .p2) rfl)) LW ?_
   refine cL ?_ ?_
   ·skip
    refine bB (F:=F) (C:=c13) rfl rfl ?_
    obtain⟨c14,f2,hB,hl2,hk2⟩:=hI.hands (.l (.r (.r .n)))
    refine fB rfl gn rfl (aD (vs:=[vp b1 0,vb negative1]) rfl wN ⟨et,et,ah⟩) (Calls.mono (dB HS hx2) ?_)
    intro e_ w_ hq_;obtain⟨rfl,C_,hB_⟩:=cW hq_;obtain⟨C9_,-,hI_⟩:=hk2 _ _ _ _ hB_;exact .inr ⟨_,rfl,gc (.inr ⟨_,_,rfl,rfl,_,hI_.arr .n trivial⟩)⟩
   refine gS (cs:=#[vi 0,vs none 0 0]) hI rfl gn rfl rfl mi rfl ?_
   intro b4 c20 w8 hI
   exact bc (hk_tr_parser_reader_form_w_3_1 (b4,c20) _ (hI.arr GO SU)) SB
  ·skip
   refine bB (F:=F) (C:=c13) rfl rfl ?_
   obtain⟨c14,f2,hB,hl2,hk2⟩:=hI.hands (.l (.r (.r .n)))
   refine fB rfl gn rfl (aD (vs:=[vp b1 0,vb negative1]) rfl wN ⟨et,et,ah⟩) (Calls.mono (dB HS hx2) ?_)
   intro e_ w_ hq_;obtain⟨rfl,C_,hB_⟩:=cW hq_;obtain⟨C9_,-,hI_⟩:=hk2 _ _ _ _ hB_;exact .inr ⟨_,rfl,gc (.inr ⟨_,_,rfl,rfl,_,hI_.arr .n trivial⟩)⟩
  refine gS (cs:=#[vi 0,vs none 0 0]) hI rfl gn rfl rfl mi rfl ?_
  intro b4 c20 w8 hI
  refine cL ?_ ?_
  ·skip
   refine bq rfl gn rfl (am (l:=(fI sum1 a6 c12)) rfl et pk rfl bt (LU (hI.blk .p3) rfl)) LW ?_
   exact bc (hk_tr_parser_reader_form_w_3_1 (b4,c20) _ (hI.arr GO SU)) SB
  refine bB (F:=F) (C:=c20) rfl rfl ?_
  obtain⟨c14,f2,hB,hl2,hk2⟩:=hI.hands (.r (.l (.r (.r .n))))
  refine fB rfl gn rfl (aD (vs:=[vp b1 0,vb negative1]) rfl wN ⟨et,et,ah⟩) (Calls.mono (dB HS hx2) ?_)
  intro e_ w_ hq_;obtain⟨rfl,C_,hB_⟩:=cW hq_;obtain⟨C9_,-,hI_⟩:=hk2 _ _ _ _ hB_;exact .inr ⟨_,rfl,gc (.inr ⟨_,_,rfl,rfl,_,hI_.arr .n trivial⟩)⟩
 try dsimp only at h
 obtain⟨r5,hx3,h⟩:=ae h
 refine aJ [3,9] false (.c (1,.q) (.c (2,.q) (.three 0 (.two 3 dG 8 ci) 3 (.two 0 dG 8 dF) 8 (.two 0 ci 3 dF)))) hI (by kernel_rfl) (by kernel_rfl) ?_
 intro w16 hI
 refine bT (α:=(Option Addr)×Nat×(Option Addr)×Nat×(Option Addr)×Nat×Nat×NP) (T:=gV) (λx=>[(0,vp b1 0),(2,vp b2 0),(4,vp b3 0),(5,vi r3.at_),(6,(Value.pointer (some ⟨(x.2.2.2.2.2.2.1),0,none⟩))),(21,(Value.agg (cx r5.1 (x.2.2.2.2.1) (x.2.2.2.2.2.1)))),(22,vi r5.2)]) (λx w=>Bun C0 F w0 (x.2.2.2.2.2.2.2) w [MO.box (x.2.2.2.2.2.2.1) 27 #[vi 0,vs none 0 0],MO.box b1 67 (ai s2 (x.2.2.1) (x.2.2.2.1)),MO.box b2 27 #[vi 0,vs none 0 0],MO.box b3 27 (cx sum1 a6 c12)] [LT aj (x.2.2.2.2.1) (x.2.2.2.2.2.1) r5.1.L,LT aj (x.1) (x.2.1) r4.L,LT af (x.2.2.1) (x.2.2.2.1) s2.l,LT af a5 c11 r3.l,LT aj a6 c12 sum1.L,aA]) (λx w=>SN [] (DM true F (x.2.2.2.2.2.2.2)) w) ?_ ?_
 ·clear hI;rintro⟨a7,c15,a8,c16,a9,c19,b4,c26⟩ w14 hI
  try dsimp only at hI ⊢
  unfold gV
  refine vA λc21 w9 hI=>?_
  refine V ?_
  refine bM (α:=Unit) (λ_=>⟨36,[]⟩) (λ_=>[(0,vp b1 0),(2,vp b2 0),(4,vp b3 0),(6,vp b4 0)]) (λ_=>λw=>∃ C,Bun C0 F w0 C w [MO.box b1 67 (ai s2 a8 c16),MO.box b2 27 #[vi 0,vs none 0 0],MO.box b3 27 (cx sum1 a6 c12),MO.box b4 27 (cx r5.1 a9 c19)] [LT af a8 c16 s2.l,LT aj a6 c12 sum1.L,LT aj a9 c19 r5.1.L,aA]∧gb s2 (bp fuel1) r5=some r) ?_ ?_
  ·clear h hI;rintro _ w17 ⟨c27,hI,h⟩
   try dsimp only at hI h ⊢
   rw[gb]at h
   refine T ?_
   refine lA λc28 w18 hI=>?_
   refine T ?_
   obtain⟨c29,f3,hB,hl4,hk3⟩:=hI.hands (.l (.r (.r (.r .n))))
   obtain⟨⟨r6,s3⟩,hx5,h⟩:=ae h
   try dsimp only at h
   refine aw gn rfl (Rc Tryz.func68) (Calls.mono (bb HS hx5) ?_)
   rintro _ w19 ⟨a10,c30,c31,rfl,hB2⟩
   refine HN hk3 hB2 λc32 hI=>?_
   refine⟨_,rfl,?_⟩
   refine TC (λhb h=>?_) λhb h=>?_
   ·refine T ?_
    refine aO ?_
    exact ny (fuel1,false,s3,r5.1,a10,c30,a9,c19) SB ⟨_,hI.arr GO SU,h⟩ (Nat.lt_succ_self _)
   refine T ?_
   obtain⟨c33,f4,hB,hl5,hk4⟩:=hI.hands (.l (.r (.r (.r .n))))
   obtain⟨⟨r7,s4⟩,hx6,h⟩:=ae h
   try dsimp only at h
   refine aw gn rfl (Rc Tryz.func68) (Calls.mono (bb HS hx6) ?_)
   rintro _ w20 ⟨a11,c34,c35,rfl,hB2⟩
   refine HN hk4 hB2 λc36 hI=>?_
   refine⟨_,rfl,?_⟩
   refine TC (λhb h=>?_) λhb h=>?_
   ·refine T ?_
    refine aO ?_
    exact ny (fuel1,true,s4,r5.1,a11,c34,a9,c19) SB ⟨_,hI.arr GO SU,h⟩ (Nat.lt_succ_self _)
   refine T ?_
   refine lA λc37 w21 hI=>?_
   refine nk (aF ?_)
   obtain rfl:=ak h
   refine QG ?_
   exact .inl ⟨_,rfl,a9,c19,a11,c34,_,rfl,hI.arr GO SU⟩
  refine TC (λhb h=>?_) λhb h=>?_
  ·refine T ?_
   rcases eU h with⟨r8,hx7,h⟩ | ⟨pa_,pn_,hx7,hp_⟩
   rotate_left
   ·subst hp_
    refine ja gn rfl (aD (vs:=[vp b1 0,vi r3.at_,vi 3]) rfl uw ⟨et,et,ao,ah⟩) (Calls.mono (aZ NE ⟨(hI.get0 .p2),hI.lendBox .p1,ah⟩ hx7) ?_)
    intro e_ w_ hq_;obtain⟨rfl,hx_⟩:=cW hq_;have hI_:=hI.ext hx_;exact .inr ⟨_,rfl,gc (.inr ⟨_,_,rfl,rfl,_,hI_.arr .n trivial⟩)⟩
   try dsimp only at h
   refine aw gn rfl (Rc Tryz.func71) (Calls.mono (aZ NE ⟨(hI.get0 .p2),hI.lendBox .p1,ah⟩ hx7) ?_)
   intro e_ w22 hq_;obtain⟨rfl,hx8,hl6⟩:=cV hq_
   refine⟨_,rfl,?_⟩
   replace hI:=(hI.ext hx8)
   refine aO ?_
   exact bu () SB ⟨_,hI.arr GO SU,h⟩ rfl
  exact bl (bu () SB ⟨_,hI.arr GO SU,h⟩ rfl)
 intro hk_tr_parser_reader_form_w_3_4
 refine bT (α:=(Option Addr)×Nat×(Option Addr)×Nat×Nat×NP) (T:=fj) (λx=>[(0,vp b1 0),(2,vp b2 0),(4,vp b3 0),(5,vi r3.at_),(6,(Value.pointer (some ⟨(x.2.2.2.2.1),0,none⟩))),(16,(Value.agg (cx sum1 a6 c12))),(19,(Value.agg (cx r4 (x.1) (x.2.1))))]) (λx w=>Bun C0 F w0 (x.2.2.2.2.2) w [MO.box (x.2.2.2.2.1) 27 #[vi 0,vs none 0 0],MO.box b1 67 (ai s2 (x.2.2.1) (x.2.2.2.1)),MO.box b2 27 #[vi 0,vs none 0 0],MO.box b3 27 (cx sum1 a6 c12)] [LT aj (x.1) (x.2.1) r4.L,LT af (x.2.2.1) (x.2.2.2.1) s2.l,LT af a5 c11 r3.l,LT aj a6 c12 sum1.L,aA]) (λx w=>SN [] (DM true F (x.2.2.2.2.2)) w) ?_ ?_
 ·clear hI;rintro⟨a7,c15,a8,c16,b4,c25⟩ w13 hI
  try dsimp only at hI ⊢
  unfold fj
  refine dk rfl gn rfl (aD (vs:=[(Value.agg (cx sum1 a6 c12)),(Value.agg (cx r4 a7 c15))]) rfl IU ⟨et,et,ah⟩) (Calls.mono (Ak hI.lt FS hx3) ?_)
  rintro _ w7 ⟨a9,c19,rfl,hx4,hl3⟩
  refine⟨_,rfl,hx4,?_⟩
  replace hI:=(hI.ext hx4).adds hl3;dsimp only[ca,na]at hI
  refine V ?_
  exact bc (hk_tr_parser_reader_form_w_3_4 (a7,c15,a8,c16,a9,c19,b4,c25) _ (hI.arr GO SU)) SB
 intro hk_tr_parser_reader_form_w_3_3
 refine bT (α:=(Option Addr)×Nat×(Option Addr)×Nat×Nat×NP) (T:=dF) (λx=>[(0,vp b1 0),(2,vp b2 0),(4,vp b3 0),(5,vi r3.at_),(6,(Value.pointer (some ⟨(x.2.2.2.2.1),0,none⟩))),(19,(Value.agg (cx r4 (x.1) (x.2.1))))]) (λx w=>Bun C0 F w0 (x.2.2.2.2.2) w [MO.box (x.2.2.2.2.1) 27 #[vi 0,vs none 0 0],MO.box b1 67 (ai s2 (x.2.2.1) (x.2.2.2.1)),MO.box b2 27 #[vi 0,vs none 0 0],MO.box b3 27 (cx sum1 a6 c12)] [LT aj (x.1) (x.2.1) r4.L,LT af (x.2.2.1) (x.2.2.2.1) s2.l,LT af a5 c11 r3.l,LT aj a6 c12 sum1.L,aA]) (λx w=>SN [] (DM true F (x.2.2.2.2.2)) w) ?_ ?_
 ·clear hI;rintro⟨a7,c15,a8,c16,b4,c24⟩ w12 hI
  try dsimp only at hI ⊢
  unfold dF
  refine bq rfl gn rfl (am (l:=(fI sum1 a6 c12)) rfl et pk rfl bt (LU (hI.blk .p3) rfl)) LW ?_
  exact bc (hk_tr_parser_reader_form_w_3_3 (a7,c15,a8,c16,b4,c24) _ (hI.arr GO SU)) SB
 intro hk_tr_parser_reader_form_w_3_2
 refine bT (α:=Nat×NP) (T:=ci) (λx=>[(0,vp b1 0),(2,vp b2 0),(4,vp b3 0),(5,vi r3.at_),(6,(Value.pointer (some ⟨(x.1),0,none⟩))),(16,(Value.agg (cx sum1 a6 c12))),(17,vp b1 0),(18,vb negative1)]) (λx w=>Bun C0 F w0 (x.2) w [MO.box (x.1) 27 #[vi 0,vs none 0 0],MO.box b1 67 (ai r3 a5 c11),MO.box b2 27 #[vi 0,vs none 0 0],MO.box b3 27 (cx sum1 a6 c12)] [LT af a5 c11 r3.l,LT aj a6 c12 sum1.L,aA]) (λx w=>SN [3,9] (DM false F (x.2)) w) ?_ ?_
 ·clear hI;rintro⟨b4,c23⟩ w11 hI
  try dsimp only at hI ⊢
  unfold ci
  refine bK (F:=F) (C:=c23) rfl rfl ?_
  obtain⟨c14,f2,hB,hl2,hk2⟩:=hI.hands (.r (.l (.r (.r .n))))
  refine fA rfl gn rfl (aD (vs:=[vp b1 0,vb negative1]) rfl wN ⟨et,et,ah⟩) (Calls.mono (dB HS hx2) ?_)
  intro e_ w6 hq_;obtain⟨a7,c15,a8,c16,c17,rfl,hB2⟩:=cV hq_
  obtain⟨c18,hs2,hI⟩:=hk2 _ _ _ _ hB2
  dsimp only[ca,na]at hI
  refine⟨_,rfl,DM true F c18,hs2,?_⟩
  exact bc (hk_tr_parser_reader_form_w_3_3 (a7,c15,a8,c16,b4,c18) _ (hI.arr GO SU)) SB
 intro hk_tr_parser_reader_form_w_3_1
 refine bT (α:=(Option Addr)×Nat×(Option Addr)×Nat×NP) (T:=dG) (λx=>[(0,vp b1 0),(2,vp b2 0),(4,vp b3 0),(5,vi r3.at_),(16,(Value.agg (cx sum1 a6 c12))),(19,(Value.agg (cx r4 (x.1) (x.2.1))))]) (λx w=>Bun C0 F w0 (x.2.2.2.2) w [MO.box b1 67 (ai s2 (x.2.2.1) (x.2.2.2.1)),MO.box b2 27 #[vi 0,vs none 0 0],MO.box b3 27 (cx sum1 a6 c12)] [LT aj (x.1) (x.2.1) r4.L,LT af (x.2.2.1) (x.2.2.2.1) s2.l,LT af a5 c11 r3.l,LT aj a6 c12 sum1.L,aA]) (λx w=>SN [] (DM true F (x.2.2.2.2)) w) ?_ ?_
 ·clear hI;rintro⟨a7,c15,a8,c16,c22⟩ w10 hI
  try dsimp only at hI ⊢
  unfold dG
  refine cL ?_ ?_
  ·skip
   refine dk rfl gn rfl (aD (vs:=[(Value.agg (cx sum1 a6 c12)),(Value.agg (cx r4 a7 c15))]) rfl IU ⟨et,et,ah⟩) (Calls.mono (Ak hI.lt FS hx3) ?_)
   rintro _ w7 ⟨a9,c19,rfl,hx4,hl3⟩
   refine⟨_,rfl,hx4,?_⟩
   replace hI:=(hI.ext hx4).adds hl3;dsimp only[ca,na]at hI
   refine V ?_
   refine gS (cs:=#[vi 0,vs none 0 0]) hI rfl gn rfl rfl mi rfl ?_
   intro b4 c20 w8 hI
   exact bc (hk_tr_parser_reader_form_w_3_4 (a7,c15,a8,c16,a9,c19,b4,c20) _ (hI.arr GO SU)) SB
  refine gS (cs:=#[vi 0,vs none 0 0]) hI rfl gn rfl rfl mi rfl ?_
  intro b4 c20 w8 hI
  exact bc (hk_tr_parser_reader_form_w_3_3 (a7,c15,a8,c16,b4,c20) _ (hI.arr GO SU)) SB
 intro hk_tr_parser_reader_form_w_3_0
 refine V ?_
 refine vV ?_ ?_ ?_
 ·skip
  refine bq rfl gn rfl (am (l:=(fI sum1 a6 c12)) rfl et pk rfl bt (LU (hI.blk .p2) rfl)) LW ?_
  refine cL ?_ ?_
  ·skip
   refine bB (F:=F) (C:=c13) rfl rfl ?_
   obtain⟨c14,f2,hB,hl2,hk2⟩:=hI.hands (.l (.r (.r .n)))
   refine fA rfl gn rfl (aD (vs:=[vp b1 0,vb negative1]) rfl wN ⟨et,et,ah⟩) (Calls.mono (dB HS hx2) ?_)
   intro e_ w6 hq_;obtain⟨a7,c15,a8,c16,c17,rfl,hB2⟩:=cV hq_
   obtain⟨c18,hs2,hI⟩:=hk2 _ _ _ _ hB2
   dsimp only[ca,na]at hI
   refine⟨_,rfl,DM true F c18,hs2,?_⟩
   exact bc (hk_tr_parser_reader_form_w_3_0 (a7,c15,a8,c16,c18) _ (hI.arr GO SU)) SB
  refine gS (cs:=#[vi 0,vs none 0 0]) hI rfl gn rfl rfl mi rfl ?_
  intro b4 c20 w8 hI
  exact bc (hk_tr_parser_reader_form_w_3_1 (b4,c20) _ (hI.arr GO SU)) SB
 ·skip
  refine bB (F:=F) (C:=c13) rfl rfl ?_
  obtain⟨c14,f2,hB,hl2,hk2⟩:=hI.hands (.l (.r (.r .n)))
  refine fA rfl gn rfl (aD (vs:=[vp b1 0,vb negative1]) rfl wN ⟨et,et,ah⟩) (Calls.mono (dB HS hx2) ?_)
  intro e_ w6 hq_;obtain⟨a7,c15,a8,c16,c17,rfl,hB2⟩:=cV hq_
  obtain⟨c18,hs2,hI⟩:=hk2 _ _ _ _ hB2
  dsimp only[ca,na]at hI
  refine⟨_,rfl,DM true F c18,hs2,?_⟩
  refine cL ?_ ?_
  ·skip
   refine bq rfl gn rfl (am (l:=(fI sum1 a6 c12)) rfl et pk rfl bt (LU (hI.blk .p2) rfl)) LW ?_
   exact bc (hk_tr_parser_reader_form_w_3_0 (a7,c15,a8,c16,c18) _ (hI.arr GO SU)) SB
  refine gS (cs:=#[vi 0,vs none 0 0]) hI rfl gn rfl rfl mi rfl ?_
  intro b4 c20 w8 hI
  exact bc (hk_tr_parser_reader_form_w_3_2 (a7,c15,a8,c16,b4,c20) _ (hI.arr GO SU)) SB
 refine gS (cs:=#[vi 0,vs none 0 0]) hI rfl gn rfl rfl mi rfl ?_
 intro b4 c20 w8 hI
 refine cL ?_ ?_
 ·skip
  refine bq rfl gn rfl (am (l:=(fI sum1 a6 c12)) rfl et pk rfl bt (LU (hI.blk .p3) rfl)) LW ?_
  exact bc (hk_tr_parser_reader_form_w_3_1 (b4,c20) _ (hI.arr GO SU)) SB
 refine bB (F:=F) (C:=c20) rfl rfl ?_
 obtain⟨c14,f2,hB,hl2,hk2⟩:=hI.hands (.r (.l (.r (.r .n))))
 refine fA rfl gn rfl (aD (vs:=[vp b1 0,vb negative1]) rfl wN ⟨et,et,ah⟩) (Calls.mono (dB HS hx2) ?_)
 intro e_ w6 hq_;obtain⟨a7,c15,a8,c16,c17,rfl,hB2⟩:=cV hq_
 obtain⟨c18,hs2,hI⟩:=hk2 _ _ _ _ hB2
 dsimp only[ca,na]at hI
 refine⟨_,rfl,DM true F c18,hs2,?_⟩
 exact bc (hk_tr_parser_reader_form_w_3_2 (a7,c15,a8,c16,b4,c18) _ (hI.arr GO SU)) SB
theorem qM {a1:aa} {a3:GLin} (hI:Bun C0 F w0 C0 w0 [MO.box b2 67 (ai a1 a2 c1),MO.box b3 27 (cx a3 a4 c2)] [LT af a2 c1 a1.l,Cl.blk b1 65 #[vp b2 0],LT aj a4 c2 a3.L,aA]) {r:bL (Unit×aa×GLin)} (h:oz a1 a3=some r):CP C0 F w0 30 #[vp b1 0,vp b3 0] r λrx e w=>∃ a5 c3 a6 c4 C,e= .returned (Value.tuple #[])∧Bun C0 F w0 C w [MO.box b2 67 (ai rx.2.1 a5 c3),MO.box b3 27 (cx rx.2.2 a6 c4)] [LT af a5 c3 rx.2.1.l,LT aj a6 c4 rx.2.2.L]:=by
 refine fJ (l:=[vp b1 0,vp b3 0]) Tryz.func30 rfl Tryz.ntmps30 rfl ?_
 rw[oz]at h
 refine T ?_
 obtain⟨c5,f1,hB,hl1,hk1⟩:=hI.hands (.l (.r .n))
 refine dC h (λ_ hx1=>eE HS hx1) (kD hk1) (Rc Tryz.func31) ?_
 rintro⟨r1,s1⟩ hx1 h _ w1 ⟨a7,c6,a8,c7,c8,rfl,hB2⟩
 try dsimp only at h
 refine HN hk1 hB2 λc9 hI=>?_
 refine⟨_,rfl,?_⟩
 refine lA λc10 w2 hI=>?_
 refine aO ?_
 obtain rfl:=ak h
 refine QG ?_
 exact .inl ⟨_,rfl,a8,c7,a7,c6,_,rfl,hI.arr GO SU⟩
def mu:Tr:= .n
def mv:Tr:=(.c (4,.s) (.c (6,.q) (.c (7,.q) mu)))
theorem Bt (hF:dK F w0) {l1:List bm} {at1:Int} (hc:AllCl [LT af a1 c1 l1,aA] F w0) {r:GLin×Int×Int} (h:rP l1 at1=some r):Cg 12 #[vs a1 l1.length c1,vi at1] w0 λe w=>∃ a2 c2,e= .returned (Value.tuple #[(Value.agg (cx r.1 a2 c2)),vi r.2.1,vi r.2.2])∧Ext w0 w∧AllCl [LT aj a2 c2 r.1.L] F w:=by
 refine EN Tryz.func12 Tryz.ntmps12 hF hc λhI=>?_
 rw[rP]at h
 refine sr (dl (cs:=#[vi 0,vs none 0 0]) hI gn rfl rfl mi rfl ?_)
 intro b1 c3 w1 hI
 refine tV ?_
 refine tV ?_
 refine nk (al (sr (sm ?_)))
 refine sq (sX rfl et ao) ?_
 refine sm ?_
 refine aH (bV rfl rfl rfl rfl) rfl (λhc=>gp rfl et) ?_
 refine aH (bV rfl rfl rfl rfl) rfl (λhc=>gp rfl et) ?_
 refine aH (bV rfl rfl rfl rfl) rfl (λhc=>oZ rfl KV (aU et hc)) ?_
 refine aH (bV rfl rfl rfl rfl) rfl (λhc=>um rfl (aU et hc) (aU et hc)) ?_
 refine sq (As rfl et et) ?_
 refine TC (λhb h=>?_) λhb h=>?_
 ·refine sr (sq (aC (vs:=[]) (cs:=#[vi 0,vs none 0 0]) rfl trivial (by kernel_rfl)) ?_)
  refine lA λc4 w2 hI=>?_
  refine tV ?_
  refine tV ?_
  refine nk (aF ?_)
  have hI:=hI.add (c:=LT aj none 0 ([]:List GMono)) SlC.nil
  obtain rfl:=ak h
  exact fY (vs:=[(Value.agg #[vi 0,vs none 0 0]),vi 0,vi 1]) Tryz.results12 ⟨⟨_,aR rfl rfl,cv (l:=[vi 0,vs none 0 0]) pk rfl bt (LU (hI.blk .z) rfl)⟩,aR rfl rfl,aR rfl rfl,ah⟩ ⟨none,0,rfl,hI.ext0,hI.fin ⟨.z,ah⟩⟩
 refine bl (bh (sr (sm ?_)))
 refine sm ?_
 refine sq (aC (vs:=[(0,vs a1 l1.length c1),(1,vi at1)]) (cs:=#[vs a1 l1.length c1,vi at1,vi 0]) rfl ⟨rfl,et,rfl,et,ah⟩ (by kernel_rfl)) ?_
 refine kL (v:=(Value.agg #[vs a1 l1.length c1,vi at1,vi 0])) (cs:=#[vs a1 l1.length c1,vi at1,vi 0]) hI gn rfl rfl et rfl ?_
 intro b2 c5 w3 hI
 refine lN λb3 c6 w4 hI=>?_
 refine lS λc7 w5 hI=>?_
 refine nk (sr (sq (aC (vs:=[]) (cs:=#[vi 0,vs none 0 0]) rfl trivial (by kernel_rfl)) ?_))
 refine lN λb4 c8 w6 hI=>?_
 refine lA λc9 w7 hI=>?_
 refine nk (al (sr (sq (nW (vs:=[]) (cap:=[vp b3 0,vp b4 0]) rfl rfl ⟨et,et,ah⟩) ?_)))
 obtain⟨c10,hI⟩:=hI.relBox .p1
 have hI:=hI.add (c:=LT aj none 0 ([]:List GMono)) SlC.nil
 obtain⟨c11,f1,hB,hl1,hk1⟩:=hI.hands (.l (.l (.r .n)))
 replace hB:=hB.ord (.c .p1 (.c .z .n))
 rcases th h with⟨⟨r1,s1,s2⟩,hx1,h⟩ | ⟨pa1,pn1,hx1,hn1,h⟩
 ·skip
  try dsimp only at h
  refine aw gn rfl (Rc Tryz.func29) (Calls.mono (sj (β:=(Option Addr)×Nat×(Option Addr)×Nat) (λx=>[MO.box b2 67 (ai s1 (x.1) (x.2.1)),MO.box b4 27 (cx s2 (x.2.2.1) (x.2.2.2))]) (λx=>[LT af (x.1) (x.2.1) s1.l,LT aj (x.2.2.1) (x.2.2.2) s2.L]) (cl:=[LT af a1 c1 l1,Cl.blk b3 65 #[vp b2 0],LT aj none 0 ([]:List GMono),aA]) IY (hB.subs ⟨.p2,.p1,.z,.p3,ah⟩) (λC1_ F1_ w1_ hB_=>(qM hB_ hx1).mono λe_ w_ hq_=>(let ⟨a3,c12,a4,c13,C_,he_,hB2_⟩:=cV hq_;⟨he_,(a3,c12,a4,c13),C_,hB2_⟩))) ?_)
  rintro _ w8 ⟨rfl,⟨a3,c12,a4,c13⟩,c14,hB2⟩
  obtain⟨c15,hs1,hI⟩:=hk1 _ _ _ _ hB2
  replace hI:Bun du F w0 c15 w8 [MO.box b2 67 (ai s1 a3 c12),MO.box b4 27 (cx s2 a4 c13),MO.box b1 27 #[vi 0,vs none 0 0]] [LT af a3 c12 s1.l,LT aj a4 c13 s2.L,LT aj none 0 ([]:List GMono),Cl.blk b3 65 #[vp b2 0],LT af a1 c1 l1,aA]:=hI
  refine⟨_,rfl,?_⟩
  refine sm ?_
  refine sq (fO rfl et rfl) ?_
  refine sq (fO rfl et rfl) ?_
  refine sa ?_
  refine sa ?_
  refine nk (sr (sm ?_))
  refine sq (py rfl et ao) ?_
  refine TC (λhb h=>?_) λhb h=>?_
  ·refine sr (sq (aC (vs:=[]) (cs:=#[vi 0,vs none 0 0]) rfl trivial (by kernel_rfl)) ?_)
   refine sm ?_
   refine sm ?_
   refine lA λc16 w9 hI=>?_
   refine sa ?_
   refine sa ?_
   refine aO ?_
   refine pc (e:=[(4,vp b1 0),(5,vi 0),(6,vi 0)]) SB ?_
   refine aF ?_
   obtain rfl:=ak h
   exact fY (vs:=[(Value.agg #[vi 0,vs none 0 0]),vi 0,vi 0]) Tryz.results12 ⟨⟨_,aR rfl rfl,cv (l:=[vi 0,vs none 0 0]) pk rfl bt (LU (hI.blk .p2) rfl)⟩,aR rfl rfl,aR rfl rfl,ah⟩ ⟨none,0,rfl,hI.ext0,hI.fin ⟨.p2,ah⟩⟩
  refine bl (pc (e:=[(4,vp b1 0),(7,vp b3 0),(8,vp b4 0)]) ⟨rfl,rfl,rfl,ah⟩ ?_)
  refine al (aJ [5] false (.c (0,.q) (.two 1 (.c (2,.q) (.c (3,.q) (.two 4 (.c (5,.s) (.c (6,.q) (.c (7,.q) mu))) 5 mv))) 5 (.c (1,.s) (.c (2,.q) (.c (3,.q) mv))))) hI (by kernel_rfl) (by kernel_rfl) ?_)
  intro w13 hI
  refine bT (α:=NP) (T:=mu) (λx=>[(4,vp b1 0),(5,vi s1.at_),(6,vi 0)]) (λx w=>Bun du F w0 x w [MO.box b2 67 (ai s1 a3 c12),MO.box b4 27 (cx s2 a4 c13),MO.box b1 27 (cx s2 a4 c13)] [LT af a3 c12 s1.l,LT aj a4 c13 s2.L,LT aj none 0 ([]:List GMono),Cl.blk b3 65 #[vp b2 0],LT af a1 c1 l1,aA]) (λx w=>SN [] (DM true F x) w) ?_ ?_
  ·clear hI;rintro c19 w12 hI
   try dsimp only at hI ⊢
   unfold mu
   refine oY ?_
   refine bh (aF ?_)
   obtain rfl:=ak h
   exact fY (vs:=[(Value.agg (cx s2 a4 c13)),vi s1.at_,vi 0]) Tryz.results12 ⟨⟨_,aR rfl rfl,cv (l:=(fI s2 a4 c13)) pk rfl bt (LU (hI.blk .p2) rfl)⟩,aR rfl rfl,aR rfl rfl,ah⟩ ⟨a4,c13,rfl,hI.ext0,hI.fin ⟨.p1,ah⟩⟩
  intro hk_tr_parser_Lin_1_1
  refine bT (α:=NP) (T:=mv) (λx=>[(4,vp b1 0),(38,vp b2 1)]) (λx w=>Bun du F w0 x w [MO.box b2 67 (ai s1 a3 c12),MO.box b4 27 (cx s2 a4 c13),MO.box b1 27 (cx s2 a4 c13)] [LT af a3 c12 s1.l,LT aj a4 c13 s2.L,LT aj none 0 ([]:List GMono),Cl.blk b3 65 #[vp b2 0],LT af a1 c1 l1,aA]) (λx w=>SN [] (DM true F x) w) ?_ ?_
  ·clear hI;rintro c18 w11 hI
   try dsimp only at hI ⊢
   unfold mv
   refine bq rfl gn rfl (ba (v:=(vi s1.at_)) rfl et u3 rfl (LU (hI.blk .z) rfl)) LW ?_
   refine nv rfl gn rfl (λw'=>cP rfl et) ?_
   refine nv rfl gn rfl (λw'=>cP rfl ao) ?_
   exact bc (hk_tr_parser_Lin_1_1 c18 _ (hI.arr GO SU)) SB
  intro hk_tr_parser_Lin_1_0
  refine bR rfl gn rfl (λw' hw'=>(am (l:=(fI s2 a4 c13)) rfl et pk rfl bt ((CA.blk (hI.blk .p1) rfl).at_ (SX.any rfl hw')))) (by kernel_rfl) ?_
  refine cL ?_ ?_
  ·skip
   refine bq rfl gn rfl (ba (v:=(vp b2 0)) rfl et LH rfl (hI.kblk (l:=[vp b2 0]) .p3 rfl).1) LW ?_
   refine nv rfl gn rfl (λw'=>nV rfl et) ?_
   refine nv rfl gn rfl (λw'=>aP rfl et KU rfl jP rfl) ?_
   refine cL ?_ ?_
   ·skip
    refine bq rfl gn rfl (ba (v:=(vi s1.at_)) rfl et u3 rfl (LU (hI.blk .z) rfl)) LW ?_
    refine bK (F:=F) (C:=c15) rfl rfl ?_
    refine vA λc17 w10 hI=>?_
    refine nv rfl gn rfl (λw'=>cP rfl et) ?_
    refine nv rfl gn rfl (λw'=>cP rfl ao) ?_
    exact bc (hk_tr_parser_Lin_1_1 c17 _ (hI.arr GO SU)) SB
   refine bB (F:=F) (C:=c15) rfl rfl ?_
   refine vA λc17 w10 hI=>?_
   exact bc (hk_tr_parser_Lin_1_0 c17 _ (hI.arr GO SU)) SB
  refine bB (F:=F) (C:=c15) rfl rfl ?_
  refine vA λc17 w10 hI=>?_
  refine bq rfl gn rfl (ba (v:=(vp b2 0)) rfl et LH rfl (hI.kblk (l:=[vp b2 0]) .p3 rfl).1) LW ?_
  refine nv rfl gn rfl (λw'=>nV rfl et) ?_
  refine nv rfl gn rfl (λw'=>aP rfl et KU rfl jP rfl) ?_
  exact bc (hk_tr_parser_Lin_1_0 c17 _ (hI.arr GO SU)) SB
 try dsimp only at h
 refine aw gn rfl (Rc Tryz.func29) (Calls.mono (sk (cl:=[LT af a1 c1 l1,Cl.blk b3 65 #[vp b2 0],LT aj none 0 ([]:List GMono),aA]) IY (hB.subs ⟨.p2,.p1,.z,.p3,ah⟩) (λC1_ F1_ w1_ hB_=>(qM hB_ hx1).mono λe_ w_ hq_=>cW hq_)) ?_)
 rintro _ w14 ⟨rfl,c20,hB2⟩
 obtain⟨c21,hs2,hI⟩:=hk1 _ _ _ _ hB2
 replace hI:Bun du F w0 c21 w14 [MO.box b1 27 #[vi 0,vs none 0 0]] [LT aj none 0 ([]:List GMono),Cl.blk b3 65 #[vp b2 0],LT af a1 c1 l1,aA]:=hI
 refine⟨_,rfl,?_⟩
 have hk2:(!decide (pn1=0))=true:=by simp[hn1]
 refine sm ?_
 refine sq (fO rfl et rfl) ?_
 refine sq (fO rfl et rfl) ?_
 refine sa ?_
 refine sa ?_
 refine nk (sr (sm ?_))
 refine sq (py rfl et ao) ?_
 refine nk (sg (b:= !decide (pn1=0)) et (λ_=>?_) (λhb=>absurd (hb.symm.trans hk2) (by simp)))
 refine sr (sq (aC (vs:=[]) (cs:=#[vi 0,vs none 0 0]) rfl trivial (by kernel_rfl)) ?_)
 refine sm ?_
 refine sm ?_
 refine lA λc22 w15 hI=>?_
 refine sa ?_
 refine sa ?_
 refine aO ?_
 refine pc (e:=[(4,vp b1 0),(5,vi pa1),(6,vi pn1)]) SB ?_
 refine aF ?_
 obtain rfl:=ak h
 exact fY (vs:=[(Value.agg #[vi 0,vs none 0 0]),vi pa1,vi pn1]) Tryz.results12 ⟨⟨_,aR rfl rfl,cv (l:=[vi 0,vs none 0 0]) pk rfl bt (LU (hI.blk .z) rfl)⟩,aR rfl rfl,aR rfl rfl,ah⟩ ⟨none,0,rfl,hI.ext0,hI.fin ⟨.z,ah⟩⟩
theorem zK (hF:dK F w0) {r1:Int} (hc:AllCl [] F w0) {r:Bool} (h:nO r1=some r):CR F w0 153 #[(Value.int .i32 r1)] (vb r) []:=by
 refine EN Tryz.func153 Tryz.ntmps153 hF hc λhI=>?_
 rw[nO]at h
 refine T ?_
 refine al (T ?_)
 refine al (T ?_)
 refine TC (λhb h=>?_) λhb h=>?_
 ·refine TR λhb h=>?_
  exact RF
 refine TC (λhb h=>?_) λhb h=>?_
 ·refine TR λhb h=>?_
  exact RF
 refine TC (λhb h=>?_) λhb h=>?_
 ·refine TR λhb h=>?_
  exact RF
 refine TR λhb h=>?_
 exact RF
theorem yU (hF:dK F w0) {r1:Int} (hc:AllCl [] F w0) {r:Bool} (h:oB r1=some r):CR F w0 155 #[(Value.int .i32 r1)] (vb r) []:=by
 refine EN Tryz.func155 Tryz.ntmps155 hF hc λhI=>?_
 rw[oB]at h
 exact RF
theorem vO (hF:dK F w0) {s1:List UInt8} (hc:AllCl [] F w0) {r:Int} (h:ni s1=some r):CR F w0 83 #[(aT s1)] (vi r) []:=by
 refine EN Tryz.func83 Tryz.ntmps83 hF hc λhI=>?_
 rw[ni]at h
 refine T ?_
 refine al (T ?_)
 refine bs (α:=Nat×Int) (λx=>λw=>∃ C,Bun du F w0 C w [] []∧iu s1 (x.1) (x.2)=some r) (λx _=>x.1) (λx=>[(0,(aT s1)),(3,vi (x.2))]) (fu,0) BH SB ?_
 clear h hI;rintro⟨fuel1,at1⟩ w1 ⟨c1,hI,h⟩
 dsimp only at hI h ⊢
 rcases fuel1 with _ | fuel1
 ·rw[iu]at h;cases h
 rw[iu]at h
 refine al (T ?_)
 refine TC (λhb h=>?_) λhb h=>?_
 ·refine T ?_
  obtain⟨b1,hx1,h⟩:=ae h
  refine sI ?_
  refine T ?_
  refine sB h (λ_ k=>zK hI.lt trivial k) (Rc Tryz.func153) λr1 w2 h hI=>?_
  refine TC (λhb h=>?_) λhb h=>?_
  ·refine T ?_
   refine aO ?_
   exact kl (fuel1,au (at1+1))
  refine TC (λhb h=>?_) λhb h=>?_
  ·refine T ?_
   obtain⟨s2,hx4,h⟩:=ae h
   refine sI ?_
   have hI:=hI.add (c:=ub (Value.func (.func 155) #[] #[]) oB) ⟨rfl,λD' w' hs hl x_1 r k h=>CallV.fn (cap:=[]) J0 (yU hl ah h)⟩
   refine sB h (λ_ k=>qf hI.lt FS k) (Rc Tryz.func154) λr2 w3 h hI=>?_
   refine T ?_
   refine aO ?_
   exact kl (fuel1,au (at1+r2))
  exact RF
 refine bv ?_
 refine fi ?_
 refine bh ?_
 exact RF
theorem yT (hF:dK F w0) {r1:Int} (hc:AllCl [] F w0) {r:Bool} (h:mS r1=some r):CR F w0 159 #[(Value.int .i32 r1)] (vb r) []:=by
 refine EN Tryz.func159 Tryz.ntmps159 hF hc λhI=>?_
 rw[mS]at h
 refine T ?_
 refine al (T ?_)
 refine al (T ?_)
 refine TC (λhb h=>?_) λhb h=>?_
 ·refine TR λhb h=>?_
  exact RF
 refine TC (λhb h=>?_) λhb h=>?_
 ·refine TR λhb h=>?_
  exact RF
 refine TC (λhb h=>?_) λhb h=>?_
 ·refine TR λhb h=>?_
  exact RF
 refine TC (λhb h=>?_) λhb h=>?_
 ·refine TR λhb h=>?_
  exact RF
 refine TC (λhb h=>?_) λhb h=>?_
 ·refine TR λhb h=>?_
  exact RF
 refine TC (λhb h=>?_) λhb h=>?_
 ·refine TR λhb h=>?_
  exact RF
 refine TC (λhb h=>?_) λhb h=>?_
 ·refine TR λhb h=>?_
  exact RF
 refine TC (λhb h=>?_) λhb h=>?_
 ·refine TR λhb h=>?_
  exact RF
 refine TC (λhb h=>?_) λhb h=>?_
 ·refine TR λhb h=>?_
  exact RF
 refine TC (λhb h=>?_) λhb h=>?_
 ·refine TR λhb h=>?_
  exact RF
 refine TC (λhb h=>?_) λhb h=>?_
 ·refine TR λhb h=>?_
  exact RF
 refine TC (λhb h=>?_) λhb h=>?_
 ·refine TR λhb h=>?_
  exact RF
 refine TC (λhb h=>?_) λhb h=>?_
 ·refine TR λhb h=>?_
  exact RF
 refine TC (λhb h=>?_) λhb h=>?_
 ·refine TR λhb h=>?_
  exact RF
 refine TC (λhb h=>?_) λhb h=>?_
 ·refine TR λhb h=>?_
  exact RF
 refine TC (λhb h=>?_) λhb h=>?_
 ·refine TR λhb h=>?_
  exact RF
 refine TC (λhb h=>?_) λhb h=>?_
 ·refine TR λhb h=>?_
  exact RF
 refine TC (λhb h=>?_) λhb h=>?_
 ·refine TR λhb h=>?_
  exact RF
 refine TC (λhb h=>?_) λhb h=>?_
 ·refine TR λhb h=>?_
  exact RF
 refine TR λhb h=>?_
 exact RF
theorem Bu (hF:dK F w0) {s1:List UInt8} (hc:AllCl [] F w0) {r:Int×Int} (h:oC s1=some r):CR F w0 84 #[(aT s1)] (Value.tuple #[vi r.1,vi r.2]) []:=by
 refine EN Tryz.func84 Tryz.ntmps84 hF hc λhI=>?_
 rw[oC]at h
 refine T ?_
 obtain⟨b1,hx1,h⟩:=ae h
 refine sI ?_
 refine T ?_
 refine al (T ?_)
 refine sB h (λ_ k=>qs hI.lt trivial k) (Rc Tryz.func156) λr1 w1 h hI=>?_
 refine TC (λhb h=>?_) λhb h=>?_
 ·refine T ?_
  have hI:=hI.add (c:=ub (Value.func (.func 157) #[] #[]) eS) ⟨rfl,λD' w' hs hl x_1 r k h=>CallV.fn (cap:=[]) GY (tJ hl ah h)⟩
  refine sB h (λ_ k=>qf hI.lt FS k) (Rc Tryz.func154) λr2 w2 h hI=>?_
  exact RF
 refine T ?_
 refine sB h (λ_ k=>q8 hI.lt trivial k) (Rc Tryz.func158) λr3 w3 h hI=>?_
 refine TC (λhb h=>?_) λhb h=>?_
 ·refine T ?_
  have hI:=hI.add (c:=ub (Value.func (.func 158) #[] #[]) jC) ⟨rfl,λD' w' hs hl x_1 r k h=>CallV.fn (cap:=[]) JZ (q8 hl ah h)⟩
  refine sB h (λ_ k=>qf hI.lt FS k) (Rc Tryz.func154) λr4 w4 h hI=>?_
  exact RF
 refine T ?_
 obtain⟨b2,hx10,h⟩:=ae h
 replace hx10:=ay hx10
 refine sJ ?_
 refine TR λhb h=>?_
 refine T ?_
 refine sB h (λ_ k=>yT hI.lt trivial k) (Rc Tryz.func159) λr5 w5 h hI=>?_
 refine TR λhb h=>?_
 exact RF
theorem rD (hF:dK F w0) {s1:List UInt8} (hc:AllCl [] F w0) {r:List bm×Int×Int} (h:jN s1=some r):Cg 39 #[(aT s1)] w0 λe w=>∃ a1 c1,e= .returned (Value.tuple #[vs a1 r.1.length c1,vi r.2.1,vi r.2.2])∧Ext w0 w∧AllCl [LT af a1 c1 r.1] F w:=by
 refine EN Tryz.func39 Tryz.ntmps39 hF hc λhI=>?_
 rw[jN]at h
 refine T ?_
 refine al (T ?_)
 refine TC (λhb h=>?_) λhb h=>?_
 ·refine T ?_
  refine aF ?_
  have hI:=hI.add (c:=LT af none 0 ([]:List bm)) SlC.nil
  obtain rfl:=ak h
  refine QG ?_
  exact⟨none,0,rfl,hI.ext0,hI.fin ⟨.z,ah⟩⟩
 refine T ?_
 refine al (T ?_)
 refine sB h (λ_ k=>vO hI.lt trivial k) (Rc Tryz.func83) λr1 w1 h hI=>?_
 refine T ?_
 have hI:=hI.nil af 62 none
 refine bs (α:=Nat×(List bm)×Int×(Option Addr)×Nat) (λx=>λw=>∃ C,Bun du F w0 C w [LV af 62 (x.2.2.2.1) (x.2.2.2.2) (x.2.1)] []∧gg s1 (x.1) (x.2.1) (x.2.2.1)=some r) (λx _=>x.1) (λx=>[(0,(aT s1)),(5,vs (x.2.2.2.1) (x.2.1).length (x.2.2.2.2)),(6,vi (x.2.2.1))]) (fu,([]:List bm),r1,none,0) BH SB ?_
 clear h hI;rintro⟨fuel1,aN,at1,a2,c2⟩ w2 ⟨c3,hI,h⟩
 dsimp only at hI h ⊢
 rcases fuel1 with _ | fuel1
 ·rw[gg]at h;cases h
 rw[gg]at h
 refine al (T ?_)
 refine TC (λhb h=>?_) λhb h=>?_
 ·refine T ?_
  refine al (T ?_)
  obtain⟨s2,hx3,h⟩:=ae h
  refine sI ?_
  refine sB h (λ_ k=>Bu hI.lt trivial k) (Rc Tryz.func84) λr2 w3 h hI=>?_
  refine T ?_
  refine al (T ?_)
  refine TC (λhb h=>?_) λhb h=>?_
  ·refine T ?_
   refine aF ?_
   have hI:=hI.add (c:=LT af none 0 ([]:List bm)) SlC.nil
   obtain rfl:=ak h
   refine QG ?_
   exact⟨none,0,rfl,hI.ext0,hI.fin ⟨.z,ah⟩⟩
  refine TC (λhb h=>?_) λhb h=>?_
  ·refine T ?_
   refine aF ?_
   have hI:=hI.add (c:=LT af none 0 ([]:List bm)) SlC.nil
   obtain rfl:=ak h
   refine QG ?_
   exact⟨none,0,rfl,hI.ext0,hI.fin ⟨.z,ah⟩⟩
  refine T ?_
  obtain⟨s3,hx6,h⟩:=ae h
  refine sq (F7 rfl u9 et et et hx6) ?_
  refine sq (aC (vs:=[(0,vi r2.1),(1,vi at1),(2,(aT s3))]) (cs:=#[vi r2.1,vi at1,(aT s3)]) rfl ⟨rfl,et,rfl,et,rfl,et,ah⟩ (by kernel_rfl)) ?_
  refine ll hI af ([⟨r2.1,at1,s3⟩]:List bm) xJ Rr λb1 c4 w4 hI=>?_
  obtain⟨zs1,hx7,h⟩:=ae h
  refine il (xs:=aN) (ys:=([⟨r2.1,at1,s3⟩]:List bm)) hI .p1 (hI.rd .z) hx7 gn rfl rfl KV xJ rfl rfl et et ?_
  intro a3 c5 c6 w5 hI
  refine T ?_
  obtain⟨s4,hx8,h⟩:=ae h
  refine sI ?_
  refine sB h (λ_ k=>vO hI.lt trivial k) (Rc Tryz.func83) λr3 w6 h hI=>?_
  refine sq (sv rfl et et) ?_
  obtain⟨at2,hx11,h⟩:=ae h
  refine sq (va (cP rfl et) (congrArg (Value.int .i64) (ak hx11))) ?_
  refine aO ?_
  exact kl (fuel1,zs1,at2,a3,c5)
 refine bv ?_
 refine fi ?_
 refine bh ?_
 refine T ?_
 refine aF ?_
 obtain⟨c7,hI⟩:=hI.release .z
 obtain rfl:=ak h
 refine QG ?_
 exact⟨a2,c2,rfl,hI.ext0,hI.fin ⟨.z,ah⟩⟩
theorem zl (hF:dK F w0) {t1:GType} (hc:AllCl [] F w0) {r:Bool} (h:nz t1=some r):CR F w0 229 #[(Value.agg (d9 t1))] (vb r) []:=by
 refine EN Tryz.func229 Tryz.ntmps229 hF hc λhI=>?_
 rw[nz]at h
 refine sr (lX λb1 c2 w1 hI=>?_)
 refine T ?_
 refine sq (am (l:=(cU t1)) rfl et qQ rfl bX (hI.kblk (l:=(cU t1)) .z rfl).1) ?_
 refine T ?_
 refine sq (aC (vs:=[(0,vi t1.Kind)]) (cs:=#[vi t1.Kind,vi 0,vi 0,vi 0,vi 0]) rfl ⟨rfl,et,ah⟩ (by kernel_rfl)) ?_
 refine sq (jn rfl et et (tz ..) (pd ..)) ?_
 exact RF
theorem pL (hF:dK F w0) {t1:GType} (hc:AllCl [] F w0) {r:Int} (h:gR t1=some r):CR F w0 230 #[(Value.agg (d9 t1))] (vi r) []:=by
 refine EN Tryz.func230 Tryz.ntmps230 hF hc λhI=>?_
 rw[gR]at h
 refine sr (lX λb1 c2 w1 hI=>?_)
 refine tV ?_
 refine nk (sr (sq (aP rfl et qQ rfl jP rfl) ?_))
 refine sq (ba (v:=(vi t1.Round)) rfl et u3 rfl (hI.kblk (l:=[vi t1.Round]) .z rfl).1) ?_
 refine sq (Gg rfl et ao) ?_
 refine sm ?_
 refine aH (bg rfl rfl rfl rfl) rfl (λhc=>aP rfl et qQ rfl jP rfl) ?_
 refine aH (bg rfl rfl rfl rfl) rfl (λhc=>(ba (v:=(vi t1.Round)) rfl (aU et hc) u3 rfl (hI.kblk (l:=[vi t1.Round]) .z rfl).1)) ?_
 refine aH (bg rfl rfl rfl rfl) rfl (λhc=>Gd rfl (aU et hc) ao) ?_
 refine sq (un rfl et et) ?_
 refine sm ?_
 refine aH (bg rfl rfl rfl rfl) rfl (λhc=>aP rfl et qQ rfl jP rfl) ?_
 refine aH (bg rfl rfl rfl rfl) rfl (λhc=>(ba (v:=(vi t1.Over)) rfl (aU et hc) u3 rfl (hI.kblk (l:=[vi t1.Over]) .z rfl).1)) ?_
 refine aH (bg rfl rfl rfl rfl) rfl (λhc=>BW rfl (aU et hc) ao) ?_
 refine aH (bg rfl rfl rfl rfl) rfl (λhc=>gp rfl (aU et hc)) ?_
 refine aH (iC rfl rfl rfl rfl) rfl (λhc=>aP rfl et qQ rfl jP rfl) ?_
 refine aH (iC rfl rfl rfl rfl) rfl (λhc=>(ba (v:=(vi t1.Over)) rfl (aU et hc) u3 rfl (hI.kblk (l:=[vi t1.Over]) .z rfl).1)) ?_
 refine aH (iC rfl rfl rfl rfl) rfl (λhc=>BW rfl (aU et hc) ao) ?_
 refine aH (bg rfl rfl rfl rfl) rfl (λhc=>BU rfl hc et et) ?_
 refine sq (un rfl et et) ?_
 obtain⟨modes1,hx1,h⟩:=ae h
 refine sq (va (cP rfl et) (congrArg Value.bool (ak hx1))) ?_
 refine nk (al (T ?_))
 refine TR λhb h=>?_
 exact RF
theorem kB (hF:dK F w0) {t1:GType} (hc:AllCl [] F w0) {r:Int} (h:ee t1=some r):CR F w0 202 #[(Value.agg (d9 t1))] (vi r) []:=by
 refine EN Tryz.func202 Tryz.ntmps202 hF hc λhI=>?_
 rw[ee]at h
 refine sr (lX λb1 c2 w1 hI=>?_)
 refine T ?_
 refine al (T ?_)
 refine bM (α:=Bool) (λ_=>⟨15,[]⟩) (λx=>[(1,vp b1 0),(4,vi t1.Kind),(5,vb x)]) (λx=>λw=>∃ C,Bun du F w0 C w [] [Cl.blk b1 35 (d9 t1)]∧gL t1 x=some r) ?_ ?_
 ·clear h hI;rintro i1 w2 ⟨c3,hI,h⟩
  try dsimp only at hI h ⊢
  rw[gL]at h
  refine TC (λhb h=>?_) λhb h=>?_
  ·refine sr (sq (am (l:=(cU t1)) rfl et qQ rfl bX (hI.kblk (l:=(cU t1)) .z rfl).1) ?_)
   refine sB h (λ_ k=>zl hI.lt trivial k) (Rc Tryz.func229) λr1 w3 h hI=>?_
   refine TR λhb h=>?_
   exact RF
  refine TC (λhb h=>?_) λhb h=>?_
  ·refine sr (sq (am (l:=(cU t1)) rfl et qQ rfl bX (hI.kblk (l:=(cU t1)) .z rfl).1) ?_)
   refine sB h (λ_ k=>pL hI.lt trivial k) (Rc Tryz.func230) λr2 w4 h hI=>?_
   refine TR λhb h=>?_
   exact RF
  exact RF
 refine TC (λhb h=>?_) λhb h=>?_
 ·exact bl (bu (decide (t1.Kind=1)) SB BH rfl)
 refine T ?_
 refine aO ?_
 exact kj (decide (t1.Kind=3))
theorem qw (hF:dK F w0) {s1 sep1:List UInt8} (hc:AllCl [] F w0) {r:List UInt8×List UInt8×Bool} (h:ii s1 sep1=some r):CR F w0 268 #[(aT s1),(aT sep1)] (Value.tuple #[(aT r.1),(aT r.2.1),vb r.2.2]) []:=by
 refine EN Tryz.func268 Tryz.ntmps268 hF hc λhI=>?_
 rw[ii]at h
 refine T ?_
 refine al (T ?_)
 obtain⟨r1,hx1,h⟩:=ae h
 refine aw gn rfl (aD (vs:=[(aT s1),(aT sep1)]) rfl Jy ⟨et,et,ah⟩) (Calls.mono (pU (Dj F du) w0 hI.lt s1 sep1 trivial r1 hx1) ?_)
 rintro _ w1 ⟨rfl,hx2,hl1⟩
 refine⟨_,rfl,?_⟩
 replace hI:=(hI.ext hx2)
 refine TC (λhb h=>?_) λhb h=>?_
 ·refine al (aJ [] false (.c (0,.q) (.c (1,.q) (.c (2,.q) (.c (3,.q) (.c (4,.q) (.c (5,.q) (.c (6,.q) (.c (7,.q) (.c (8,.q) (.c (9,.q) (.c (10,.q) (.c (11,.q) .n)))))))))))) hI (by kernel_rfl) (by kernel_rfl) ?_)
  intro w2 hI
  refine V ?_
  obtain⟨s2,hx3,h⟩:=ae h
  refine vI ?_
  refine V ?_
  obtain⟨s3,hx4,h⟩:=ae h
  refine vI ?_
  refine V ?_
  exact RF
 exact RF
theorem zo (hF:dK F w0) {s1 sep1:List UInt8} (hc:AllCl [] F w0) {r:List UInt8×List UInt8×Bool} (h:nC s1 sep1=some r):CR F w0 264 #[(aT s1),(aT sep1)] (Value.tuple #[(aT r.1),(aT r.2.1),vb r.2.2]) []:=by
 refine EN Tryz.func264 Tryz.ntmps264 hF hc λhI=>?_
 rw[nC]at h
 refine T ?_
 refine sB h (λ_ k=>qw hI.lt trivial k) (Rc Tryz.func268) λr1 w1 h hI=>?_
 exact RF
theorem oP (hF:dK F w0) {s1 prefix1:List UInt8} (hc:AllCl [] F w0) {r:Bool} (h:fy s1 prefix1=some r):CR F w0 272 #[(aT s1),(aT prefix1)] (vb r) []:=by
 refine EN Tryz.func272 Tryz.ntmps272 hF hc λhI=>?_
 rw[fy]at h
 refine T ?_
 obtain⟨s2,hx1,h⟩:=ae h
 replace hx1:=ay hx1
 refine sJ ?_
 exact RF
theorem oQ (hF:dK F w0) {s1 prefix1:List UInt8} (hc:AllCl [] F w0) {r:List UInt8×Bool} (h:fz s1 prefix1=some r):CR F w0 269 #[(aT s1),(aT prefix1)] (Value.tuple #[(aT r.1),vb r.2]) []:=by
 refine EN Tryz.func269 Tryz.ntmps269 hF hc λhI=>?_
 rw[fz]at h
 refine T ?_
 refine al (T ?_)
 refine sB h (λ_ k=>oP hI.lt trivial k) (Rc Tryz.func272) λr1 w1 h hI=>?_
 refine TR λhb h=>?_
 refine T ?_
 obtain⟨s2,hx3,h⟩:=ae h
 refine sI ?_
 exact RF
theorem uf (hF:dK F w0) {s1 prefix1:List UInt8} (hc:AllCl [] F w0) {r:List UInt8×Bool} (h:jp s1 prefix1=some r):CR F w0 265 #[(aT s1),(aT prefix1)] (Value.tuple #[(aT r.1),vb r.2]) []:=by
 refine EN Tryz.func265 Tryz.ntmps265 hF hc λhI=>?_
 rw[jp]at h
 refine T ?_
 refine sB h (λ_ k=>oQ hI.lt trivial k) (Rc Tryz.func269) λr1 w1 h hI=>?_
 exact RF
theorem tK (hF:dK F w0) {s1:List UInt8} (hc:AllCl [] F w0) {r:Bool} (h:k8 s1=some r):CR F w0 266 #[(aT s1)] (vb r) []:=by
 refine EN Tryz.func266 Tryz.ntmps266 hF hc λhI=>?_
 rw[k8]at h
 refine T ?_
 refine bM (α:=Unit) (λ_=>⟨31,[]⟩) (λ_=>[(0,(aT s1))]) (λ_=>λw=>∃ C,Bun du F w0 C w [] []∧kA s1=some r) ?_ ?_
 ·clear h hI;rintro _ w1 ⟨c1,hI,h⟩
  try dsimp only at hI h ⊢
  rw[kA]at h
  refine T ?_
  obtain⟨b1,hx1,h⟩:=ae h
  replace hx1:=ay hx1
  refine sJ ?_
  exact RF
 refine T ?_
 refine bs (α:=Nat×Int) (λx=>λw=>∃ C,Bun du F w0 C w [] []∧jc s1 (x.1) (x.2)=some r) (λx _=>x.1) (λx=>[(0,(aT s1)),(3,vi (x.2))]) (fu,0) BH SB ?_
 clear h hI;rintro⟨fuel1,i1⟩ w2 ⟨c2,hI,h⟩
 dsimp only at hI h ⊢
 rcases fuel1 with _ | fuel1
 ·rw[jc]at h;cases h
 rw[jc]at h
 refine al (T ?_)
 refine TC (λhb h=>?_) λhb h=>?_
 ·refine T ?_
  refine al (T ?_)
  obtain⟨b2,hx2,h⟩:=ae h
  refine sI ?_
  refine T ?_
  obtain⟨b3,hx3,h⟩:=ae h
  replace hx3:=ay hx3
  refine sJ ?_
  refine TR λhb h=>?_
  refine T ?_
  refine aO ?_
  exact kl (fuel1,au (i1+1))
 refine bv ?_
 refine fi ?_
 exact kj ()
theorem tL (hF:dK F w0) {s1:List UInt8} (hc:AllCl [] F w0) {r:Int×Bool} (h:k9 s1=some r):CR F w0 267 #[(aT s1)] (Value.tuple #[vi r.1,vb r.2]) []:=by
 refine EN Tryz.func267 Tryz.ntmps267 hF hc λhI=>?_
 rw[k9]at h
 refine T ?_
 refine al (T ?_)
 refine TR λhb h=>?_
 refine T ?_
 obtain⟨r1,hx1,h⟩:=ae h
 refine aw gn rfl (Rc Tryz.func270) (Calls.mono (uY (Dj F du) w0 hI.lt s1 10 64 trivial r1 hx1) ?_)
 rintro _ w1 ⟨v1,rfl,hx2,hl1⟩
 refine⟨_,rfl,?_⟩
 replace hI:=(hI.ext hx2)
 exact RF
theorem yV (hF:dK F w0) {n1:Int} (hc:AllCl [] F w0) {r:Bool} (h:mT n1=some r):CR F w0 233 #[vi n1] (vb r) []:=by
 refine EN Tryz.func233 Tryz.ntmps233 hF hc λhI=>?_
 rw[mT]at h
 exact RF
theorem wy (hF:dK F w0) {n1:Int} (hc:AllCl [] F w0) {r:Int} (h:k7 n1=some r):CR F w0 235 #[vi n1] (Value.int .u64 r) []:=by
 refine EN Tryz.func235 Tryz.ntmps235 hF hc λhI=>?_
 rw[k7]at h
 refine T ?_
 refine al (T ?_)
 refine TR λhb h=>?_
 exact RF
theorem D9 (hF:dK F w0) {a1 b1:Int} (hc:AllCl [] F w0) {r:Int} (h:rQ a1 b1=some r):CR F w0 234 #[(Value.int .u64 a1),(Value.int .u64 b1)] (Value.int .u64 r) []:=by
 refine EN Tryz.func234 Tryz.ntmps234 hF hc λhI=>?_
 rw[rQ]at h
 refine T ?_
 refine al (T ?_)
 refine bs (α:=Nat×Int×Int) (λx=>λw=>∃ C,Bun du F w0 C w [] []∧ma (x.1) (x.2.1) (x.2.2)=some r) (λx _=>x.1) (λx=>[(0,(Value.int .u64 (x.2.1))),(1,(Value.int .u64 (x.2.2)))]) (fu,a1,b1) BH SB ?_
 clear h hI;rintro⟨fuel1,a2,b2⟩ w1 ⟨c1,hI,h⟩
 dsimp only at hI h ⊢
 rcases fuel1 with _ | fuel1
 ·rw[ma]at h;cases h
 rw[ma]at h
 refine al (T ?_)
 refine TC (λhb h=>?_) λhb h=>?_
 ·refine T ?_
  refine aJ [] false (.c (0,.q) (.c (1,.q) (.c (2,.q) (.c (3,.q) (.c (4,.q) (.c (5,.q) .n)))))) hI (by kernel_rfl) (by kernel_rfl) ?_
  intro w2 hI
  refine V ?_
  obtain⟨ho1,h⟩:=fC h
  refine nv rfl gn rfl (λw'=>BS rfl et et ho1) ?_
  refine V ?_
  refine oY ?_
  exact kl (fuel1,b2,Int.tmod a2 b2)
 refine bv ?_
 refine fi ?_
 refine bh ?_
 exact RF
theorem vQ (hF:dK F w0) {v1:GVal} (hc:AllCl [] F w0) {r:Bool} (h:nn v1=some r):CR F w0 207 #[(Value.agg (uk v1))] (vb r) []:=by
 refine EN Tryz.func207 Tryz.ntmps207 hF hc λhI=>?_
 rw[nn]at h
 refine sr (lX λb1 c2 w1 hI=>?_)
 refine T ?_
 refine al (aJ [] false (.c (0,.q) (.c (1,.q) (.c (2,.q) (.c (3,.q) (.c (4,.q) (.c (5,.q) (.c (6,.q) (.c (7,.q) (.c (8,.q) (.c (9,.q) (.c (10,.q) (.c (11,.s) (.c (12,.q) (.c (13,.q) (.c (14,.q) (.c (15,.q) (.c (17,.q) (.c (18,.q) (.c (19,.q) (.c (16,.s) (.c (20,.s) (.c (21,.q) (.c (22,.q) (.c (23,.q) .n)))))))))))))))))))))))) hI (by kernel_rfl) (by kernel_rfl) ?_)
 intro w2 hI
 refine V ?_
 obtain⟨r1,hx1,h⟩:=ae h
 replace hx1:=ay hx1
 refine lj (v:=(vb r1)) rfl (bg rfl rfl rfl rfl) rfl (λhc=>(aD (vs:=[vi v1.N]) rfl JC ⟨(aU et hc),ah⟩)) (λhc=>(yV hI.lt ah (hx1 hc)).mono λ_ _ k=>⟨k.1,k.2.1⟩) ?_
 intro w3 hx2;replace hI:=hI.ext hx2
 refine V ?_
 obtain⟨r2,hx3,h⟩:=ae h
 replace hx3:=ay hx3
 refine lj (v:=(Value.int .u64 r2)) rfl (bg rfl rfl rfl rfl) rfl (λhc=>(aD (vs:=[vi v1.N]) rfl JA ⟨(aU et hc),ah⟩)) (λhc=>(wy hI.lt ah (hx3 hc)).mono λ_ _ k=>⟨k.1,k.2.1⟩) ?_
 intro w4 hx4;replace hI:=hI.ext hx4
 obtain⟨r3,hx5,h⟩:=ae h
 replace hx5:=ay hx5
 refine lj (v:=(Value.int .u64 r3)) rfl (bg rfl rfl rfl rfl) rfl (λhc=>(aD (vs:=[(Value.int .u64 r2),(Value.int .u64 (lr v1.D))]) rfl JB ⟨(aU et hc),(aU et hc),ah⟩)) (λhc=>(D9 hI.lt ah (hx5 hc)).mono λ_ _ k=>⟨k.1,k.2.1⟩) ?_
 intro w5 hx6;replace hI:=hI.ext hx6
 refine V ?_
 exact RF
theorem Bv (hF:dK F w0) {s1:List UInt8} (hc:AllCl [] F w0) {r:GVal×Int} (h:oD s1=some r):CR F w0 263 #[(aT s1)] (Value.tuple #[(Value.agg (uk r.1)),vi r.2]) []:=by
 refine EN Tryz.func263 Tryz.ntmps263 hF hc λhI=>?_
 rw[oD]at h
 refine sr (dl (cs:=#[vi 0,vi 0]) hI gn rfl rfl rH rfl ?_)
 intro b1 c1 w1 hI
 refine T ?_
 refine sB h (λ_ k=>zo hI.lt trivial k) (Rc Tryz.func264) λr1 w2 h hI=>?_
 refine T ?_
 refine sB h (λ_ k=>uf hI.lt trivial k) (Rc Tryz.func265) λr2 w3 h hI=>?_
 refine T ?_
 refine al (T ?_)
 refine sB h (λ_ k=>tK hI.lt trivial k) (Rc Tryz.func266) λr3 w4 h hI=>?_
 refine TC (λhb h=>?_) λhb h=>?_
 ·refine sr (sq (aC (vs:=[]) (cs:=#[vi 0,vi 0]) rfl trivial (by kernel_rfl)) ?_)
  refine lA λc2 w5 hI=>?_
  exact RQ
 refine T ?_
 refine bM (α:=(List UInt8)) (λ_=>⟨78,[]⟩) (λx=>[(2,vp b1 0),(5,(aT x)),(7,(aT r2.1)),(8,vb r2.2)]) (λx=>λw=>∃ C,Bun du F w0 C w [MO.box b1 33 #[vi 0,vi 0]] []∧ka r2 x=some r) ?_ ?_
 ·clear h hI;rintro bottom1 w6 ⟨c3,hI,h⟩
  try dsimp only at hI h ⊢
  rw[ka]at h
  refine T ?_
  refine sB h (λ_ k=>tL hI.lt trivial k) (Rc Tryz.func267) λr4 w7 h hI=>?_
  refine T ?_
  refine sB h (λ_ k=>tL hI.lt trivial k) (Rc Tryz.func267) λr5 w8 h hI=>?_
  refine T ?_
  refine al (T ?_)
  refine TC (λhb h=>?_) λhb h=>?_
  ·refine sr (sq (aC (vs:=[]) (cs:=#[vi 0,vi 0]) rfl trivial (by kernel_rfl)) ?_)
   refine lA λc4 w9 hI=>?_
   exact RQ
  refine T ?_
  refine bM (α:=Int) (λ_=>⟨78,[]⟩) (λx=>[(2,vp b1 0),(9,vi x),(11,vi r5.1)]) (λx=>λw=>∃ C,Bun du F w0 C w [MO.box b1 33 #[vi 0,vi 0]] []∧lY r5 x=some r) ?_ ?_
  ·clear h hI;rintro n1 w10 ⟨c5,hI,h⟩
   try dsimp only at hI h ⊢
   rw[lY]at h
   refine T ?_
   refine sq (aC (vs:=[(0,vi n1),(1,vi r5.1)]) (cs:=#[vi n1,vi r5.1]) rfl ⟨rfl,et,rfl,et,ah⟩ (by kernel_rfl)) ?_
   refine lN λb2 c6 w11 hI=>?_
   refine lA λc7 w12 hI=>?_
   refine nk (al (T ?_))
   refine sB h (λ_ k=>vQ hI.lt trivial k) (Rc Tryz.func207) λr6 w13 h hI=>?_
   refine TC (λhb h=>?_) λhb h=>?_
   ·refine sr (sq (aC (vs:=[]) (cs:=#[vi 0,vi 0]) rfl trivial (by kernel_rfl)) ?_)
    refine lA λc8 w14 hI=>?_
    exact RQ
   refine T ?_
   refine lA λc9 w15 hI=>?_
   exact RQ
  refine TC (λhb h=>?_) λhb h=>?_
  ·refine T ?_
   refine aO ?_
   exact kj (au (-r4.1))
  exact bl (bu r4.1 SB BH rfl)
 refine TC (λhb h=>?_) λhb h=>?_
 ·refine T ?_
  refine aO ?_
  exact kj ([49]:List UInt8)
 refine T ?_
 refine sB h (λ_ k=>tK hI.lt trivial k) (Rc Tryz.func266) λr7 w16 h hI=>?_
 refine TC (λhb h=>?_) λhb h=>?_
 ·refine sr (sq (aC (vs:=[]) (cs:=#[vi 0,vi 0]) rfl trivial (by kernel_rfl)) ?_)
  refine lA λc10 w17 hI=>?_
  exact RQ
 exact bl (bu r1.2.1 SB BH rfl)
theorem uy (hF:dK F w0) {bits1:Int} (hc:AllCl [] F w0) {r:Bool} (h:l5 bits1=some r):CR F w0 243 #[vi bits1] (vb r) []:=by
 refine EN Tryz.func243 Tryz.ntmps243 hF hc λhI=>?_
 rw[l5]at h
 exact RF
theorem yG (hF:dK F w0) {bits1:Int} (hc:AllCl [] F w0) {r:Int} (h:mG bits1=some r):CR F w0 231 #[vi bits1] (vi r) []:=by
 refine EN Tryz.func231 Tryz.ntmps231 hF hc λhI=>?_
 rw[mG]at h
 refine T ?_
 refine al (T ?_)
 refine sB h (λ_ k=>uy hI.lt trivial k) (Rc Tryz.func243) λr1 w1 h hI=>?_
 refine TR λhb h=>?_
 refine T ?_
 obtain⟨ho1,h⟩:=fC h
 refine sq (BR rfl ao et ho1) ?_
 exact RF
theorem yH (hF:dK F w0) {bits1:Int} (hc:AllCl [] F w0) {r:Int} (h:mH bits1=some r):CR F w0 232 #[vi bits1] (vi r) []:=by
 refine EN Tryz.func232 Tryz.ntmps232 hF hc λhI=>?_
 rw[mH]at h
 refine T ?_
 refine al (T ?_)
 refine sB h (λ_ k=>uy hI.lt trivial k) (Rc Tryz.func243) λr1 w1 h hI=>?_
 refine TR λhb h=>?_
 refine T ?_
 obtain⟨ho1,h⟩:=fC h
 refine sq (BR rfl ao et ho1) ?_
 exact RF
theorem uF (hF:dK F w0) {t1:GType} {v1:GVal} (hc:AllCl [] F w0) {r:Bool} (h:mb t1 v1=some r):CR F w0 205 #[(Value.agg (d9 t1)),(Value.agg (uk v1))] (vb r) []:=by
 refine EN Tryz.func205 Tryz.ntmps205 hF hc λhI=>?_
 rw[mb]at h
 refine sr (lX λb1 c2 w1 hI=>?_)
 refine lX λb2 c4 w2 hI=>?_
 refine T ?_
 refine al (aJ [] false (.c (0,.q) (.c (1,.s) (.c (2,.q) (.c (3,.q) (.c (4,.q) (.c (5,.q) (.c (6,.q) (.c (7,.q) (.c (8,.q) (.c (9,.q) (.c (10,.q) (.c (11,.q) (.c (12,.q) (.c (13,.s) (.c (14,.q) (.c (15,.q) (.c (16,.q) (.c (17,.q) (.c (18,.q) (.c (19,.q) (.c (20,.q) (.c (21,.s) (.c (22,.q) (.c (23,.q) (.c (24,.q) .n))))))))))))))))))))))))) hI (by kernel_rfl) (by kernel_rfl) ?_)
 intro w3 hI
 refine bR rfl gn rfl (λw' hw'=>(am (l:=(cU t1)) rfl et qQ rfl bX ((hI.kblk (l:=(cU t1)) .p1 rfl).at_ (SX.any rfl hw')))) (by kernel_rfl) ?_
 obtain⟨r1,hx1,h⟩:=ae h
 refine dk rfl gn rfl (aD (vs:=[(Value.agg (d9 t1))]) rfl JF ⟨et,ah⟩) (Calls.mono (pL hI.lt ah hx1) ?_)
 rintro _ w4 ⟨rfl,hx2,hl1⟩
 refine⟨_,rfl,hx2,?_⟩
 replace hI:=(hI.ext hx2)
 refine V ?_
 obtain⟨r2,hx3,h⟩:=ae h
 replace hx3:=ay hx3
 refine lj (v:=(vi r2)) rfl (bg rfl rfl rfl rfl) rfl (λhc=>(aD (vs:=[vi t1.Bits]) rfl JE ⟨(aU et hc),ah⟩)) (λhc=>(yG hI.lt ah (hx3 hc)).mono λ_ _ k=>⟨k.1,k.2.1⟩) ?_
 intro w5 hx4;replace hI:=hI.ext hx4
 refine V ?_
 obtain⟨r3,hx5,h⟩:=ae h
 replace hx5:=ay hx5
 refine lj (v:=(vi r3)) rfl (bg rfl rfl rfl rfl) rfl (λhc=>(aD (vs:=[vi t1.Bits]) rfl JD ⟨(aU et hc),ah⟩)) (λhc=>(yH hI.lt ah (hx5 hc)).mono λ_ _ k=>⟨k.1,k.2.1⟩) ?_
 intro w6 hx6;replace hI:=hI.ext hx6
 refine V ?_
 exact RF
theorem zn (hF:dK F w0) {t1:GType} {s1:List UInt8} (hc:AllCl [] F w0) {r:GVal×Int} (h:nB t1 s1=some r):CR F w0 260 #[(Value.agg (d9 t1)),(aT s1)] (Value.tuple #[(Value.agg (uk r.1)),vi r.2]) []:=by
 refine EN Tryz.func260 Tryz.ntmps260 hF hc λhI=>?_
 rw[nB]at h
 refine sr (lX λb1 c2 w1 hI=>?_)
 refine lN λb2 c3 w2 hI=>?_
 refine T ?_
 refine al (sr (sq (am (l:=(cU t1)) rfl et qQ rfl bX (hI.kblk (l:=(cU t1)) .z rfl).1) ?_))
 refine sB h (λ_ k=>kB hI.lt trivial k) (Rc Tryz.func202) λr1 w3 h hI=>?_
 refine TC (λhb h=>?_) λhb h=>?_
 ·refine sr (sq (aC (vs:=[]) (cs:=#[vi 0,vi 0]) rfl trivial (by kernel_rfl)) ?_)
  refine lA λc4 w4 hI=>?_
  exact RQ
 refine T ?_
 refine sB h (λ_ k=>Bv hI.lt trivial k) (Rc Tryz.func263) λr2 w5 h hI=>?_
 refine T ?_
 refine lN λb3 c5 w6 hI=>?_
 refine lA λc6 w7 hI=>?_
 refine T ?_
 refine al (T ?_)
 refine TC (λhb h=>?_) λhb h=>?_
 ·refine sr (sq (aC (vs:=[]) (cs:=#[vi 0,vi 0]) rfl trivial (by kernel_rfl)) ?_)
  refine sm ?_
  refine lA λc7 w8 hI=>?_
  exact RQ
 refine T ?_
 refine al (T ?_)
 refine TC (λhb h=>?_) λhb h=>?_
 ·refine TC (λhb h=>?_) λhb h=>?_
  ·refine sr (sq (aC (vs:=[]) (cs:=#[vi 0,vi 0]) rfl trivial (by kernel_rfl)) ?_)
   refine lA λc8 w9 hI=>?_
   exact RQ
  refine T ?_
  refine lA λc9 w10 hI=>?_
  exact RQ
 refine TC (λhb h=>?_) λhb h=>?_
 ·refine T ?_
  obtain⟨ho1,h⟩:=fC h
  refine sq (BR rfl ao et ho1) ?_
  obtain⟨one1,hx5,h⟩:=ae h
  refine sq (va (cP rfl et) (congrArg (Value.int .i64) (ak hx5))) ?_
  refine nk (al (T ?_))
  obtain⟨ho2,h⟩:=fC h
  refine sq (BS rfl et et ho2) ?_
  refine TC (λhb h=>?_) λhb h=>?_
  ·refine sr (sq (aC (vs:=[]) (cs:=#[vi 0,vi 0]) rfl trivial (by kernel_rfl)) ?_)
   refine lA λc10 w11 hI=>?_
   exact RQ
  refine T ?_
  refine al (aJ [8] false (.c (0,.q) (.c (1,.q) (.c (2,.q) (.c (3,.q) (.c (4,.q) (.c (5,.q) (.c (6,.q) (.c (7,.q) (.c (8,.s) .n))))))))) hI (by kernel_rfl) (by kernel_rfl) ?_)
  intro w12 hI
  refine V ?_
  refine nv rfl gn rfl (λw'=>BT rfl et et ho2) ?_
  refine V ?_
  refine nv rfl gn rfl (λw'=>(aC (vs:=[(0,(vi (au (r2.1.N * (au (Int.tdiv one1 r2.1.D)))))),(1,vi 1)]) (cs:=#[(vi (au (r2.1.N * (au (Int.tdiv one1 r2.1.D))))),vi 1]) rfl ⟨rfl,et,rfl,ao,ah⟩ (by kernel_rfl))) ?_
  refine bK (F:=F) (C:=c6) rfl rfl ?_
  refine vA λc11 w13 hI=>?_
  refine V ?_
  refine sr (sq (am (l:=(cU t1)) rfl et qQ rfl bX (hI.kblk (l:=(cU t1)) .z rfl).1) ?_)
  refine T ?_
  refine sB h (λ_ k=>uF hI.lt trivial k) (Rc Tryz.func205) λr3 w14 h hI=>?_
  refine TC (λhb h=>?_) λhb h=>?_
  ·refine sr (sq (aC (vs:=[]) (cs:=#[vi 0,vi 0]) rfl trivial (by kernel_rfl)) ?_)
   refine lA λc12 w15 hI=>?_
   exact RQ
  refine T ?_
  refine lA λc13 w16 hI=>?_
  exact RQ
 refine T ?_
 refine lA λc14 w17 hI=>?_
 exact RQ
abbrev Qs1 (f_:(GExpr→Int→Option Int)):Prop:=∀ ⦃F:NP⦄ ⦃w0:World⦄ (hF:dK F w0) ⦃e1:GExpr⦄ ⦃limit1:Int⦄ ⦃a1 a2 a3:Option Addr⦄ ⦃c1 c2 c3:Nat⦄ (hc:AllCl [LT aj a1 c1 e1.Lin.L,LT an a2 c2 e1.Idx,LT ap a3 c3 e1.Args] F w0) ⦃r:Int⦄ (h:f_ e1 limit1=some r),CR F w0 141 #[(Value.agg (aI e1 a1 c1 a2 c2 a3 c3)),vi limit1] (vi r) []
theorem yY {rec_:(GExpr→Int→Option Int)} (hrec:Qs1 rec_) (hF:dK F w0) {e1:GExpr} {limit1:Int} (hc:AllCl [LT aj a1 c1 e1.Lin.L,LT an a2 c2 e1.Idx,LT ap a3 c3 e1.Args] F w0) {r:Int} (h:mU rec_ e1 limit1=some r):CR F w0 141 #[(Value.agg (aI e1 a1 c1 a2 c2 a3 c3)),vi limit1] (vi r) []:=by
 refine EN Tryz.func141 Tryz.ntmps141 hF hc λhI=>?_
 rw[mU]at h
 refine sr (lX λb1 c5 w1 hI=>?_)
 refine T ?_
 refine al (T ?_)
 refine TR λhb h=>?_
 refine T ?_
 refine al (T ?_)
 refine bs (α:=Nat×Int×Int) (λx=>λw=>∃ C,Bun du F w0 C w [] [LT ap a3 c3 e1.Args]∧iv e1 rec_ limit1 (x.1) (x.2.1) (x.2.2)=some r) (λx _=>x.1) (λx=>[(1,vi limit1),(5,vi (x.2.1)),(12,vs a3 e1.Args.length c3),(13,vi (e1.Args.length:Int)),(14,vi (x.2.2))]) (fu,1,0) BH SB ?_
 clear h hI;rintro⟨fuel1,d1,i1⟩ w2 ⟨c6,hI,h⟩
 dsimp only at hI h ⊢
 rcases fuel1 with _ | fuel1
 ·rw[iv]at h;cases h
 rw[iv]at h
 refine T ?_
 refine al (CU h et (λhb h=>?_) (λhb h=>?_))
 ·refine T ?_
  refine al (T ?_)
  obtain⟨e2,hx1,h⟩:=ae h
  obtain⟨ad1,cs1,hA1,hr1,hq1⟩:=hI.clat .z hx1
  obtain⟨a4,c7,a5,c8,a6,c9,rfl,hf1,hf2,hf3⟩:=jm hr1
  have hI:=hI.ads hf1
  have hI:=hI.ads hf2
  have hI:=hI.ads hf3
  refine sI ?_
  refine T ?_
  refine lN λb2 c10 w3 hI=>?_
  refine lA λc11 w4 hI=>?_
  refine T ?_
  refine sB h (λ_ k=>hrec hI.lt FS k) (Rc Tryz.func141) λr1 w5 h hI=>?_
  refine T ?_
  refine sq (Gc rfl et et) ?_
  refine T ?_
  refine aO ?_
  exact kl (fuel1,max d1 (au (1+r1)),au (i1+1))
 refine bv ?_
 refine fi ?_
 refine bh ?_
 exact RF
theorem yX (n:Nat):Qs1 (lg n):=by
 induction n with
 | zero=>intro F;intros;rename_i h;cases h
 | succ n ih=>intro F;intros;apply yY ih<;>assumption
theorem BA:Qs1 (rR):=yX fu
theorem BB (hF:dK F w0) {e1:GExpr} (hc:AllCl [LT aj a1 c1 e1.Lin.L,LT an a2 c2 e1.Idx,LT ap a3 c3 e1.Args] F w0) {r:Int} (h:qd e1=some r):CR F w0 76 #[(Value.agg (aI e1 a1 c1 a2 c2 a3 c3))] (vi r) []:=by
 refine EN Tryz.func76 Tryz.ntmps76 hF hc λhI=>?_
 rw[qd]at h
 refine sr (lX λb1 c5 w1 hI=>?_)
 refine T ?_
 refine sq (am (l:=(bz e1 a1 c1 a2 c2 a3 c3)) rfl et mD rfl aS (hI.kblk (l:=(bz e1 a1 c1 a2 c2 a3 c3)) .z rfl).1) ?_
 refine sB h (λ_ k=>BA hI.lt FS k) (Rc Tryz.func141) λr1 w2 h hI=>?_
 exact RF
theorem wV (hF:dK F w0) {e1:GExpr} (hc:AllCl [LT aj a1 c1 e1.Lin.L,LT an a2 c2 e1.Idx,LT ap a3 c3 e1.Args] F w0) {r:GExpr} (h:n7 e1=some r):Cg 78 #[(Value.agg (aI e1 a1 c1 a2 c2 a3 c3))] w0 λe w=>∃ b1 a4 c4 a5 c5 a6 c6,e= .returned (Value.func (.func 142) #[] #[vp b1 0])∧Ext w0 w∧AllCl [LT aj a4 c4 r.Lin.L,LT an a5 c5 r.Idx,LT ap a6 c6 r.Args,Cl.blk b1 39 (aI r a4 c4 a5 c5 a6 c6)] F w:=by
 refine EN Tryz.func78 Tryz.ntmps78 hF hc λhI=>?_
 rw[n7]at h
 refine sr (lX λb2 c8 w1 hI=>?_)
 refine T ?_
 refine sq (nW (vs:=[]) (cap:=[vp b2 0]) rfl rfl ⟨et,ah⟩) ?_
 refine T ?_
 refine aF ?_
 obtain rfl:=ak h
 refine QG ?_
 exact⟨b2,a1,c1,a2,c2,a3,c3,rfl,hI.ext0,hI.fin ⟨.p1,.p2,.p3,.z,ah⟩⟩
abbrev Qs3 (I:StI σ) (f_:(GExpr→(GExpr→σ→Option (Bool×σ))→σ→Option (Bool×σ))):Prop:=∀ ⦃C0 F:NP⦄ ⦃w0:World⦄ ⦃e1:GExpr⦄ ⦃yield1:(GExpr→σ→Option (Bool×σ))⦄ ⦃s1:σ⦄ ⦃a1 a2 a3:Option Addr⦄ ⦃c1 c2 c3:Nat⦄ ⦃fv1:Value⦄ (hI:Bun C0 F w0 C0 w0 [MO.st I s1] [LT aj a1 c1 e1.Lin.L,LT an a2 c2 e1.Idx,LT ap a3 c3 e1.Args,rq I fv1 yield1]) ⦃r:Bool×σ⦄ (h:f_ e1 yield1 s1=some r),Cg 143 #[(Value.agg (aI e1 a1 c1 a2 c2 a3 c3)),fv1] w0 λe w=>∃ C,e= .returned (vb r.1)∧Bun C0 F w0 C w [MO.st I r.2] []
theorem xr {I:StI σ} {rec_:(GExpr→(GExpr→σ→Option (Bool×σ))→σ→Option (Bool×σ))} (hrec:Qs3 I rec_) {e1:GExpr} {yield1:(GExpr→σ→Option (Bool×σ))} {s1:σ} {fv1:Value} (hI:Bun C0 F w0 C0 w0 [MO.st I s1] [LT aj a1 c1 e1.Lin.L,LT an a2 c2 e1.Idx,LT ap a3 c3 e1.Args,rq I fv1 yield1]) {r:Bool×σ} (h:jl rec_ e1 yield1 s1=some r):Cg 143 #[(Value.agg (aI e1 a1 c1 a2 c2 a3 c3)),fv1] w0 λe w=>∃ C,e= .returned (vb r.1)∧Bun C0 F w0 C w [MO.st I r.2] []:=by
 refine pR Tryz.func143 rfl Tryz.ntmps143 rfl ?_
 rw[jl]at h
 refine sr (lX λb1 c5 w1 hI=>?_)
 refine T ?_
 refine al (T ?_)
 refine sq (am (l:=(bz e1 a1 c1 a2 c2 a3 c3)) rfl et mD rfl aS (hI.kblk (l:=(bz e1 a1 c1 a2 c2 a3 c3)) .z rfl).1) ?_
 obtain⟨⟨r1,s2⟩,hx1,h⟩:=ae h
 try dsimp only at h
 obtain⟨c6,f1,hB,hl1,hk1⟩:=hI.hands (.l .n)
 refine vg (args:=[(Value.agg (aI e1 a1 c1 a2 c2 a3 c3))]) gn rfl rfl et ⟨et,ah⟩ (CallV.mono ((hI.get .p4).2 c6 f1 w1 (LZ hl1) e1 a1 c1 a2 c2 a3 c3 s1 _ (hB.subs ⟨.p1,.p2,.p3,ah⟩) hx1) ?_)
 rintro _ w2 ⟨c7,rfl,hB2⟩
 refine HN hk1 hB2 λc8 hI=>?_
 refine⟨_,rfl,?_⟩
 refine TC (λhb h=>?_) λhb h=>?_
 ·refine T ?_
  refine aF ?_
  obtain rfl:=ak h
  refine QG ?_
  exact⟨_,rfl,hI.arr GO SU⟩
 refine T ?_
 refine al (T ?_)
 refine bs (α:=Nat×Int×σ) (λx=>λw=>∃ C,Bun C0 F w0 C w [MO.st I (x.2.2)] [rq I fv1 yield1,LT ap a3 c3 e1.Args]∧d7 e1 rec_ yield1 (x.1) (x.2.1) (x.2.2)=some r) (λx _=>x.1) (λx=>[(1,fv1),(12,vs a3 e1.Args.length c3),(13,vi (e1.Args.length:Int)),(14,vi (x.2.1))]) (fu,0,s2) BH SB ?_
 clear h hI;rintro⟨fuel1,i1,s3⟩ w3 ⟨c9,hI,h⟩
 dsimp only at hI h ⊢
 rcases fuel1 with _ | fuel1
 ·rw[d7]at h;cases h
 rw[d7]at h
 refine T ?_
 refine al (CU h et (λhb h=>?_) (λhb h=>?_))
 ·refine T ?_
  refine al (T ?_)
  obtain⟨e2,hx2,h⟩:=ae h
  obtain⟨ad1,cs1,hA1,hr1,hq1⟩:=hI.clat .p1 hx2
  obtain⟨a4,c10,a5,c11,a6,c12,rfl,hf1,hf2,hf3⟩:=jm hr1
  have hI:=hI.ads hf1
  have hI:=hI.ads hf2
  have hI:=hI.ads hf3
  refine sI ?_
  refine T ?_
  refine lN λb2 c13 w4 hI=>?_
  refine lA λc14 w5 hI=>?_
  refine T ?_
  obtain⟨c15,f2,hB,hl2,hk2⟩:=hI.hands (.r (.l .n))
  obtain⟨⟨r2,s4⟩,hx3,h⟩:=ae h
  try dsimp only at h
  refine aw gn rfl (Rc Tryz.func143) (Calls.mono (hrec HS hx3) ?_)
  rintro _ w6 ⟨c16,rfl,hB2⟩
  refine HN hk2 hB2 λc17 hI=>?_
  refine⟨_,rfl,?_⟩
  refine TC (λhb h=>?_) λhb h=>?_
  ·refine T ?_
   refine aF ?_
   obtain rfl:=ak h
   refine QG ?_
   exact⟨_,rfl,hI.arr GO SU⟩
  refine T ?_
  refine aO ?_
  exact kl (fuel1,au (i1+1),s4)
 refine bv ?_
 refine fi ?_
 refine bh ?_
 refine T ?_
 refine aF ?_
 obtain rfl:=ak h
 refine QG ?_
 exact⟨_,rfl,hI.arr GO SU⟩
theorem xq {I:StI σ} (n:Nat):Qs3 I (gI n):=by
 induction n with
 | zero=>intro F;intros;rename_i h;cases h
 | succ n ih=>intro F;intros;apply xr ih<;>assumption
theorem zM {I:StI σ} :Qs3 I (pu):=xq fu
theorem sK {I:StI σ} {yield1:(GExpr→σ→Option (Bool×σ))} {a1:GExpr} {s1:σ} {fv1:Value} (hI:Bun C0 F w0 C0 w0 [MO.st I s1] [rq I fv1 yield1,LT aj a2 c1 a1.Lin.L,LT an a3 c2 a1.Idx,LT ap a4 c3 a1.Args,Cl.blk b1 39 (aI a1 a2 c1 a3 c2 a4 c3)]) {r:Unit×σ} (h:ke yield1 a1 s1=some r):Cg 142 #[fv1,vp b1 0] w0 λe w=>∃ C,e= .returned (Value.tuple #[])∧Bun C0 F w0 C w [MO.st I r.2] []:=by
 refine pR Tryz.func142 rfl Tryz.ntmps142 rfl ?_
 rw[ke]at h
 refine T ?_
 refine sq (am (l:=(bz a1 a2 c1 a3 c2 a4 c3)) rfl et mD rfl aS (hI.kblk (l:=(bz a1 a2 c1 a3 c2 a4 c3)) .p4 rfl).1) ?_
 refine sm ?_
 obtain⟨c4,f1,hB,hl1,hk1⟩:=hI.hands (.l .n)
 obtain⟨⟨r1,s2⟩,hx1,h⟩:=ae h
 try dsimp only at h
 refine aw gn rfl (Rc Tryz.func143) (Calls.mono (zM HS hx1) ?_)
 rintro _ w1 ⟨c5,rfl,hB2⟩
 refine HN hk1 hB2 λc6 hI=>?_
 refine⟨_,rfl,?_⟩
 refine aO ?_
 obtain rfl:=ak h
 refine QG ?_
 exact⟨_,rfl,hI.arr GO SU⟩
theorem C8 (hF:dK F w0) {e1:GExpr} (hc:AllCl [LT aj a1 c1 e1.Lin.L,LT an a2 c2 e1.Idx,LT ap a3 c3 e1.Args] F w0) {r:Int} (h:pF e1=some r):CR F w0 77 #[(Value.agg (aI e1 a1 c1 a2 c2 a3 c3))] (vi r) []:=by
 refine EN Tryz.func77 Tryz.ntmps77 hF hc λhI=>?_
 rw[pF]at h
 refine sr (lX λb1 c5 w1 hI=>?_)
 refine T ?_
 refine lN λb2 c6 w2 hI=>?_
 refine lS λc7 w3 hI=>?_
 refine nk (al (sr (sq (am (l:=(bz e1 a1 c1 a2 c2 a3 c3)) rfl et mD rfl aS (hI.kblk (l:=(bz e1 a1 c1 a2 c2 a3 c3)) .z rfl).1) ?_)))
 obtain⟨r1,hx1,h⟩:=ae h
 refine aw gn rfl (Rc Tryz.func78) (Calls.mono (wV hI.lt FS hx1) ?_)
 rintro _ w4 ⟨b3,a4,c8,a5,c9,a6,c10,rfl,hx2,hl1⟩
 refine⟨_,rfl,?_⟩
 replace hI:=(hI.ext hx2).adds hl1;dsimp only[ca,na]at hI
 refine T ?_
 refine tI [Code.exit 0] hI et GZ (λl1 q1 fn1 tm1 rc1 hrc1 c12 w6 hE1 hI=>?_)
 obtain⟨c13,f1,hB,hl2,hk1⟩:=hI.hands (.l (.r (.l .n)))
 have hB:Bun c13 f1 w6 c13 w6 [MO.st (StI.loop l1 rc1 (λ(s:Int) (b:Unit)=>[MO.box b2 3 #[vi s]]) (λ(s:Int) (b:Unit)=>[Cl.blk b3 39 (aI r1 a4 c8 a5 c9 a6 c10),LT aj a4 c8 r1.Lin.L,LT an a5 c9 r1.Idx,LT ap a6 c10 r1.Args])) (0,0)] _:=Bun.mkst (b:=()) hB ⟨.p3,.z,.p1,.p2,ah⟩
 have hY1:fnS_k5 (StI.loop l1 rc1 (λ(s:Int) (b:Unit)=>[MO.box b2 3 #[vi s]]) (λ(s:Int) (b:Unit)=>[Cl.blk b3 39 (aI r1 a4 c8 a5 c9 a6 c10),LT aj a4 c8 r1.Lin.L,LT an a5 c9 r1.Idx,LT ap a6 c10 r1.Args])) (Value.func (.yield l1) #[] #[]) (λk_0 q=>if q.1=0 then gy k_0 q.2 else none) (Dj f1 c13) w6:=by
  refine⟨rfl,λC0 F w0 _=>?_⟩
  rintro y1 a7 c14 a8 c15 a9 c16 ⟨o_,n1⟩ r hB h
  replace h:o_=0∧gy y1 n1=some r:=fC h
  have ho_:=h.1;subst ho_;replace h:=h.2
  rw[gy]at h
  obtain⟨_,hI⟩:=Bun.unst hB
  subst hrc1
  dsimp only[ca,na]at hI
  clear hB
  refine tE hI rfl (uQ (hE1 ⟨12,[]⟩ rfl rfl)) ?_
  refine bl (AY hI .z (λc17 w7 hI=>?_))
  refine T ?_
  refine lS λc18 w8 hI=>?_
  refine TC (λhb h=>?_) λhb h=>?_
  ·refine bv ?_
   refine Lo rfl ?_
   obtain rfl:=ak h
   exact λ_ _=>tX (js:=[Code.exit 0]) (oS:=(λ(s:Int) (b:Unit)=>[MO.box b2 3 #[vi s]])) (cS:=(λ(s:Int) (b:Unit)=>[Cl.blk b3 39 (aI r1 a4 c8 a5 c9 a6 c10),LT aj a4 c8 r1.Lin.L,LT an a5 c9 r1.Idx,LT ap a6 c10 r1.Args])) (out:=1) (s:=(au (n1+1))) (b:=()) (hI.arr GO SU) rfl (λC w hB=>⟨C,rfl,hB⟩)
  refine bl ?_
  obtain rfl:=ak h
  exact λ_ _=>tX (js:=[Code.exit 0]) (oS:=(λ(s:Int) (b:Unit)=>[MO.box b2 3 #[vi s]])) (cS:=(λ(s:Int) (b:Unit)=>[Cl.blk b3 39 (aI r1 a4 c8 a5 c9 a6 c10),LT aj a4 c8 r1.Lin.L,LT an a5 c9 r1.Idx,LT ap a6 c10 r1.Args])) (out:=0) (s:=(au (n1+1))) (b:=()) (hI.arr GO SU) rfl (λC w hB=>⟨C,rfl,hB⟩)
 obtain⟨⟨u1,o1,n2⟩,hx3,h⟩:=ae h
 try dsimp only at h
 refine Calls.mono (sK ((hB.add (c:=rq (StI.loop l1 rc1 (λ(s:Int) (b:Unit)=>[MO.box b2 3 #[vi s]]) (λ(s:Int) (b:Unit)=>[Cl.blk b3 39 (aI r1 a4 c8 a5 c9 a6 c10),LT aj a4 c8 r1.Lin.L,LT an a5 c9 r1.Idx,LT ap a6 c10 r1.Args])) (Value.func (.yield l1) #[] #[]) (λk_0 q=>if q.1=0 then gy k_0 q.2 else none)) hY1).subs ⟨.z,.p1,.p2,.p3,.p4,ah⟩) hx3) ?_
 rintro _ w10 ⟨c20,rfl,hB2⟩
 obtain⟨_,hB2⟩:=Bun.unst hB2
 subst hrc1
 refine HN hk1 hB2 λc21 hI=>?_
 refine⟨_,rfl,wo hI .z (λc22 w11 hI=>?_)⟩
 by_cases hz1:o1=0
 ·subst hz1;rw[if_pos rfl]at h
  refine bh ?_
  refine T ?_
  refine aF ?_
  obtain⟨w12,hs2,c23,hI⟩:∃ w2,rG Tryz.prog [q1] w11 w2∧∃ C,Bun du F w0 C w2 [LY l1 _,MO.box b2 3 #[vi n2],LY q1 (.deferred none)] [Cl.blk b3 39 (aI r1 a4 c8 a5 c9 a6 c10),LT aj a4 c8 r1.Lin.L,LT an a5 c9 r1.Idx,LT ap a6 c10 r1.Args,LT aj a4 c8 r1.Lin.L,LT an a5 c9 r1.Idx,LT ap a6 c10 r1.Args,Cl.blk b3 39 (aI r1 a4 c8 a5 c9 a6 c10),Cl.blk b1 39 (aI e1 a1 c1 a2 c2 a3 c3),LT aj a1 c1 e1.Lin.L,LT an a2 c2 e1.Idx,LT ap a3 c3 e1.Args]:=hI.shut .p2 λC w hI=>rg ⟨_,hI⟩
  obtain rfl:=ak h
  exact uL (vs:=[vi n2]) hs2 Tryz.results77 ⟨aR rfl rfl,ah⟩ (fq hI ah)
 rw[if_neg hz1]at h
 by_cases hz2:o1=1
 ·subst hz2;rw[if_pos rfl]at h
  refine bv ?_
  refine fi ?_
  refine bh ?_
  refine T ?_
  refine aF ?_
  obtain⟨w13,hs3,c24,hI⟩:∃ w2,rG Tryz.prog [q1] w11 w2∧∃ C,Bun du F w0 C w2 [LY l1 _,MO.box b2 3 #[vi n2],LY q1 (.deferred none)] [Cl.blk b3 39 (aI r1 a4 c8 a5 c9 a6 c10),LT aj a4 c8 r1.Lin.L,LT an a5 c9 r1.Idx,LT ap a6 c10 r1.Args,LT aj a4 c8 r1.Lin.L,LT an a5 c9 r1.Idx,LT ap a6 c10 r1.Args,Cl.blk b3 39 (aI r1 a4 c8 a5 c9 a6 c10),Cl.blk b1 39 (aI e1 a1 c1 a2 c2 a3 c3),LT aj a1 c1 e1.Lin.L,LT an a2 c2 e1.Idx,LT ap a3 c3 e1.Args]:=hI.shut .p2 λC w hI=>rg ⟨_,hI⟩
  obtain rfl:=ak h
  exact uL (vs:=[vi n2]) hs3 Tryz.results77 ⟨aR rfl rfl,ah⟩ (fq hI ah)
 rw[if_neg hz2]at h
 cases h
theorem uG (hF:dK F w0) {l1:GLin} (hc:AllCl [LT aj a1 c1 l1.L] F w0) {r:Bool} (h:mc l1=some r):CR F w0 195 #[(Value.agg (cx l1 a1 c1))] (vb r) []:=by
 refine EN Tryz.func195 Tryz.ntmps195 hF hc λhI=>?_
 rw[mc]at h
 refine sr (lX λb1 c3 w1 hI=>?_)
 exact RF
theorem mY (hF:dK F w0) {s1:List GIndex} {f1:(GIndex→Option Bool)} {fv1:Value} (hc:AllCl [LT an a1 c1 s1,ua fv1 f1] F w0) {r:Int} (h:dx s1 f1=some r):CR F w0 228 #[vs a1 s1.length c1,fv1] (vi r) []:=by
 refine EN Tryz.func228 Tryz.ntmps228 hF hc λhI=>?_
 rw[dx]at h
 refine T ?_
 refine al (T ?_)
 refine bs (α:=Nat×Int) (λx=>λw=>∃ C,Bun du F w0 C w [] [LT an a1 c1 s1,ua fv1 f1]∧aY s1 f1 (x.1) (x.2)=some r) (λx _=>x.1) (λx=>[(0,vs a1 s1.length c1),(1,fv1),(7,vi (s1.length:Int)),(8,vi (x.2))]) (fu,0) BH SB ?_
 clear h hI;rintro⟨fuel1,i1⟩ w1 ⟨c2,hI,h⟩
 dsimp only at hI h ⊢
 rcases fuel1 with _ | fuel1
 ·rw[aY]at h;cases h
 rw[aY]at h
 refine T ?_
 refine al (CU h et (λhb h=>?_) (λhb h=>?_))
 ·refine T ?_
  refine al (T ?_)
  obtain⟨e1,hx1,h⟩:=ae h
  obtain⟨ad1,cs1,hA1,hr1,hq1⟩:=hI.clat .z hx1
  obtain⟨a2,c3,a3,c4,rfl,hf1,hf2⟩:=hr1
  have hI:=hI.ads hf1
  have hI:=hI.ads hf2
  refine sI ?_
  refine T ?_
  obtain⟨r1,hx2,h⟩:=ae h
  refine vg (args:=[(Value.agg (oT e1 a2 c3 a3 c4))]) gn rfl rfl et ⟨et,ah⟩ (CallV.mono ((hI.get .p3).2 (Dj F c2) w1 (L0 .rfl') hI.lt e1 a2 c3 a3 c4 r1 ⟨(hI.get .p1),(hI.get .z),ah⟩ hx2) ?_)
  rintro _ w2 ⟨rfl,hx3,hl1⟩
  refine⟨_,rfl,?_⟩
  replace hI:=(hI.ext hx3)
  refine TR λhb h=>?_
  refine T ?_
  refine aO ?_
  exact kl (fuel1,au (i1+1))
 refine bv ?_
 refine fi ?_
 refine bh ?_
 exact RF
theorem eT (hF:dK F w0) {s1:List GIndex} {f1:(GIndex→Option Bool)} {fv1:Value} (hc:AllCl [LT an a1 c1 s1,ua fv1 f1] F w0) {r:Bool} (h:br s1 f1=some r):CR F w0 196 #[vs a1 s1.length c1,fv1] (vb r) []:=by
 refine EN Tryz.func196 Tryz.ntmps196 hF hc λhI=>?_
 rw[br]at h
 refine T ?_
 refine sB h (λ_ k=>mY hI.lt FS k) (Rc Tryz.func228) λr1 w1 h hI=>?_
 exact RF
theorem vR (hF:dK F w0) {x1:GIndex} (hc:AllCl [LT aj a1 c1 x1.Lin.L,LT dQ a2 c2 x1.At] F w0) {r:Bool} (h:mB x1=some r):CR F w0 198 #[(Value.agg (oT x1 a1 c1 a2 c2))] (vb r) []:=by
 refine EN Tryz.func198 Tryz.ntmps198 hF hc λhI=>?_
 rw[mB]at h
 refine sr (lX λb1 c4 w1 hI=>?_)
 refine T ?_
 refine al (T ?_)
 refine TR λhb h=>?_
 refine T ?_
 refine sq (am (l:=(fI x1.Lin a1 c1)) rfl et pk rfl bt (hI.kblk (l:=(fI x1.Lin a1 c1)) .z rfl).1) ?_
 refine sB h (λ_ k=>uG hI.lt FS k) (Rc Tryz.func195) λr1 w2 h hI=>?_
 exact RF
theorem xt (hF:dK F w0) {x1:GIndex} (hc:AllCl [LT aj a1 c1 x1.Lin.L,LT dQ a2 c2 x1.At] F w0) {r:Bool} (h:kb x1=some r):CR F w0 197 #[(Value.agg (oT x1 a1 c1 a2 c2))] (vb r) []:=by
 refine EN Tryz.func197 Tryz.ntmps197 hF hc λhI=>?_
 rw[kb]at h
 refine sr (lX λb1 c4 w1 hI=>?_)
 refine T ?_
 refine sq (am (l:=(tr x1 a1 c1 a2 c2)) rfl et wY rfl qh (hI.kblk (l:=(tr x1 a1 c1 a2 c2)) .z rfl).1) ?_
 refine sB h (λ_ k=>vR hI.lt FS k) (Rc Tryz.func198) λr1 w2 h hI=>?_
 exact RF
theorem zN (hF:dK F w0) {e1:GExpr} (hc:AllCl [LT aj a1 c1 e1.Lin.L,LT an a2 c2 e1.Idx,LT ap a3 c3 e1.Args] F w0) {r:Bool} (h:nP e1=some r):CR F w0 144 #[(Value.agg (aI e1 a1 c1 a2 c2 a3 c3))] (vb r) []:=by
 refine EN Tryz.func144 Tryz.ntmps144 hF hc λhI=>?_
 rw[nP]at h
 refine sr (lX λb1 c5 w1 hI=>?_)
 refine T ?_
 refine al (aJ [] false (.c (0,.q) (.c (1,.q) (.c (2,.q) (.c (3,.q) (.c (4,.q) (.c (5,.q) (.c (6,.q) (.c (7,.q) (.c (8,.q) (.c (9,.q) (.c (10,.q) (.c (11,.q) (.c (12,.q) .n))))))))))))) hI (by kernel_rfl) (by kernel_rfl) ?_)
 intro w2 hI
 refine V ?_
 refine al (aJ [] false (.c (0,.q) (.c (1,.q) (.c (2,.q) (.c (3,.q) (.c (4,.q) (.c (5,.q) (.c (6,.q) (.c (7,.q) .n)))))))) hI (by kernel_rfl) (by kernel_rfl) ?_)
 intro w3 hI
 refine V ?_
 refine al (T ?_)
 refine TR λhb h=>?_
 refine T ?_
 refine aH (bg rfl rfl rfl rfl) rfl (λhc=>(am (l:=(sR e1.Val)) rfl (aU et hc) HM rfl oe (hI.kblk (l:=(sR e1.Val)) .z rfl).1)) ?_
 refine aH (bg rfl rfl rfl rfl) rfl (λhc=>aC (vs:=[]) (cs:=#[vi 0,vi 0]) rfl trivial (by kernel_rfl)) ?_
 refine aH (bg rfl rfl rfl rfl) rfl (λhc=>jn rfl (aU et hc) (aU et hc) (vy ..) (uS ..)) ?_
 refine TR λhb h=>?_
 refine T ?_
 refine aH (bg rfl rfl rfl rfl) rfl (λhc=>(am (l:=(cU e1.Type_)) rfl (aU et hc) qQ rfl bX (hI.kblk (l:=(cU e1.Type_)) .z rfl).1)) ?_
 refine aH (bg rfl rfl rfl rfl) rfl (λhc=>aC (vs:=[]) (cs:=Ap) rfl trivial (by kernel_rfl)) ?_
 refine aH (bg rfl rfl rfl rfl) rfl (λhc=>jn rfl (aU et hc) (aU et hc) (rX ..) (pd ..)) ?_
 refine TR λhb h=>?_
 refine T ?_
 refine aH (bg rfl rfl rfl rfl) rfl (λhc=>(am (l:=(fI e1.Lin a1 c1)) rfl (aU et hc) pk rfl bt (hI.kblk (l:=(fI e1.Lin a1 c1)) .z rfl).1)) ?_
 obtain⟨r1,hx1,h⟩:=ae h
 replace hx1:=ay hx1
 refine sU (λhc=>uG hI.lt FS (hx1 hc)) (Rg Tryz.func195) λw4 hI=>?_
 refine TR λhb h=>?_
 refine TR λhb h=>?_
 refine T ?_
 have hI:=hI.add (c:=ua (Value.func (.func 197) #[] #[]) kb) ⟨rfl,λD' w' hs hl x_1 A_2 c_3 A_4 c_5 r k h=>CallV.fn (cap:=[]) JR (xt hl ⟨k.1,k.2.1,ah⟩ h)⟩
 refine sB h (λ_ k=>eT hI.lt FS k) (Rc Tryz.func196) λr2 w5 h hI=>?_
 exact RF
theorem yW (hF:dK F w0) {x1:GIndex} (hc:AllCl [LT aj a1 c1 x1.Lin.L,LT dQ a2 c2 x1.At,aA] F w0) {r:Bool} (h:ld x1=some r):CR F w0 199 #[(Value.agg (oT x1 a1 c1 a2 c2))] (vb r) []:=by
 refine EN Tryz.func199 Tryz.ntmps199 hF hc λhI=>?_
 rw[ld]at h
 refine sr (lX λb1 c4 w1 hI=>?_)
 refine T ?_
 obtain⟨r1,hx1,h⟩:=ae h
 replace hx1:=ay hx1
 refine sU (λhc=>qt hI.lt FS (hx1 hc)) (Rg Tryz.func185) λw2 hI=>?_
 exact RF
theorem Bx (hF:dK F w0) {e1:GExpr} (hc:AllCl [LT aj a1 c1 e1.Lin.L,LT an a2 c2 e1.Idx,LT ap a3 c3 e1.Args,aA] F w0) {r:Bool} (h:oF e1=some r):CR F w0 145 #[(Value.agg (aI e1 a1 c1 a2 c2 a3 c3))] (vb r) []:=by
 refine EN Tryz.func145 Tryz.ntmps145 hF hc λhI=>?_
 rw[oF]at h
 refine sr (lX λb1 c5 w1 hI=>?_)
 refine T ?_
 refine al (T ?_)
 obtain⟨r1,hx1,h⟩:=ae h
 replace hx1:=ay hx1
 refine sU (λhc=>qt hI.lt FS (hx1 hc)) (Rg Tryz.func185) λw2 hI=>?_
 refine TR λhb h=>?_
 refine T ?_
 have hI:=hI.add (c:=ua (Value.func (.func 199) #[] #[]) ld) ⟨rfl,λD' w' hs hl x_1 A_2 c_3 A_4 c_5 r k h=>CallV.fn (cap:=[]) JQ (yW hl ⟨k.1,k.2.1,(Cl.sp _ hs (hI.get .p4)),ah⟩ h)⟩
 refine sB h (λ_ k=>eT hI.lt FS k) (Rc Tryz.func196) λr2 w3 h hI=>?_
 exact RF
theorem xu (hF:dK F w0) {op1:Int} (hc:AllCl [] F w0) {r:Int} (h:lZ op1=some r):CR F w0 200 #[vi op1] (vi r) []:=by
 refine EN Tryz.func200 Tryz.ntmps200 hF hc λhI=>?_
 rw[lZ]at h
 refine T ?_
 refine al (T ?_)
 refine bM (α:=Bool) (λ_=>⟨14,[]⟩) (λx=>[(3,vi op1),(4,vb x)]) (λx=>λw=>∃ C,Bun du F w0 C w [] []∧iL op1 x=some r) ?_ ?_
 ·clear h hI;rintro i1 w1 ⟨c1,hI,h⟩
  try dsimp only at hI h ⊢
  rw[iL]at h
  refine TR λhb h=>?_
  refine bM (α:=Bool) (λ_=>⟨14,[]⟩) (λx=>[(3,vi op1),(8,vb x)]) (λx=>λw=>∃ C,Bun du F w0 C w [] []∧iK op1 x=some r) ?_ ?_
  ·clear h hI;rintro i2 w2 ⟨c2,hI,h⟩
   try dsimp only at hI h ⊢
   rw[iK]at h
   refine TR λhb h=>?_
   refine TR λhb h=>?_
   exact RF
  refine TC (λhb h=>?_) λhb h=>?_
  ·exact bl (bu (decide (op1=8)) SB BH rfl)
  refine TC (λhb h=>?_) λhb h=>?_
  ·exact bl (bu (decide (op1=12)) SB BH rfl)
  refine T ?_
  refine aO ?_
  exact kj (decide (op1=18))
 refine TC (λhb h=>?_) λhb h=>?_
 ·exact bl (bu (decide (op1=1)) SB BH rfl)
 refine TC (λhb h=>?_) λhb h=>?_
 ·exact bl (bu (decide (op1=2)) SB BH rfl)
 refine T ?_
 refine aO ?_
 exact kj (decide (op1=3))
end Go.Proofs.YtmhoikfoogemnaaGreatDoor
