import Derived.Test.YtmhoikfoogemnaaGreatDoorHCQ8a
import Derived.Test.YtmhoikfoogemnaaGreatDoorHLfH
namespace Go.Proofs.YtmhoikfoogemnaaGreatDoor
open Go Go.RowKit Go.Vc
set_option maxRecDepth 100000
set_option maxHeartbeats 4000000
set_option linter.unusedVariables false
set_option linter.unusedSimpArgs false
variable {σ:Type} {C0 F:NP} {w0:World} {a1 a2 a3 a4 a5 a6 a7 a8 a9 a10 a11 a12:Option Addr} {b1 b2 b3 b4 b5 b6 b7 b8 b9 b10 b11 b12 c1 c2 c3 c4 c5 c6 c7 c8 c9 c10 c11 c12:Nat}
theorem de {r1:aa} {negative1:Bool} (hI:Bun C0 F w0 C0 w0 [MO.box b1 67 (ac r1 a1 c1)] [Cl.sl ag a1 c1 r1.l,au]) {r:bZ (aC×aa)} (h:gy r1 negative1=some r):CP C0 F w0 70 #[vp b1 0,vb negative1] r λrx e w=>∃ a2 c2 a3 c3 C,e= .returned (Value.agg (eP rx.1 a2 c2))∧Bun C0 F w0 C w [MO.box b1 67 (ac rx.2 a3 c3)] [Cl.sl ai a2 c2 rx.1.L,Cl.sl ag a3 c3 rx.2.l]:=by
 refine fa (l:=[vp b1 0,vb negative1]) Tryz.func70 rfl Tryz.ntmps70 rfl ?_
 rw[gy]at h
 refine sr (cY (cs:=#[vi 0,vs none 0 0]) hI gn rfl rfl mj rfl ?_)
 intro b2 c4 w1 hI
 refine T ?_
 refine aj (T ?_)
 refine sB h (λ_ k=>kT NE ⟨(hI.get0 .z),hI.lendBox .p1,hI.get0 .p1,af⟩ k) (Rc Tryz.func126) λr2 w2 h hI=>?_
 refine TC (λhb h=>?_) λhb h=>?_
 ·refine T ?_
  obtain⟨c5,f1,hB,hl2,hk1⟩:=hI.hands (.r (.l .n))
  refine dh h (λ_ hx3=>bT HS hx3) (jL hk1) (Rc Tryz.func128) ?_
  rintro⟨r3,s1⟩ hx3 h _ w3 ⟨a4,c6,c7,rfl,hB2⟩
  try dsimp only at h
  refine HN hk1 hB2 λc8 hI=>?_
  refine⟨_,rfl,?_⟩
  obtain⟨r4,hx4,h⟩:=ab h
  refine bf gn rfl (Rc Tryz.func127) (Calls.mono (Bu hI.lt af hx4) ?_)
  rintro _ w4 ⟨a5,c9,rfl,hx5,hl3⟩
  refine⟨_,rfl,?_⟩
  replace hI:=(hI.ext hx5).adds hl3;dsimp only[ca,na]at hI
  refine lN λb3 c10 w5 hI=>?_
  refine lA λc11 w6 hI=>?_
  refine nk (aj (T ?_))
  refine TC (λhb h=>?_) λhb h=>?_
  ·refine T ?_
   obtain⟨r5,hx6,h⟩:=ab h
   refine bf gn rfl (Rc Tryz.func129) (Calls.mono (xL hI.lt FS hx6) ?_)
   rintro _ w7 ⟨a6,c12,rfl,hx7,hl4⟩
   refine⟨_,rfl,?_⟩
   replace hI:=(hI.ext hx7).adds hl4;dsimp only[ca,na]at hI
   refine T ?_
   refine lA λc13 w8 hI=>?_
   refine T ?_
   refine lA λc14 w9 hI=>?_
   refine nk (aO ?_)
   obtain rfl:=ak h
   refine QG ?_
   exact .inl ⟨_,rfl,a6,c12,a4,c6,_,rfl,hI.arr GO SU⟩
  refine T ?_
  refine lA λc15 w10 hI=>?_
  refine nk (aO ?_)
  obtain rfl:=ak h
  refine QG ?_
  exact .inl ⟨_,rfl,a5,c9,a4,c6,_,rfl,hI.arr GO SU⟩
 refine T ?_
 obtain⟨c16,f2,hB,hl5,hk2⟩:=hI.hands (.r (.l .n))
 refine dh h (λ_ hx8=>ic HS hx8) (jL hk2) (Rc Tryz.func130) ?_
 rintro⟨r6,s2⟩ hx8 h _ w11 ⟨a7,c17,c18,rfl,hB2⟩
 try dsimp only at h
 refine HN hk2 hB2 λc19 hI=>?_
 refine⟨_,rfl,?_⟩
 refine T ?_
 refine bO (α:=(List UInt8)×aa×(Option Addr)×Nat) (λ_=>⟨58,[]⟩) (λx=>[(0,vp b1 0),(1,vb negative1),(4,vp b2 0),(5,vi r1.at_),(7,(str r6)),(8,(str (x.1)))]) (λx=>λw=>∃ C,Bun C0 F w0 C w [MO.box b1 67 (ac (x.2.1) (x.2.2.1) (x.2.2.2)),MO.box b2 27 #[vi 0,vs none 0 0]] [Cl.sl ag (x.2.2.1) (x.2.2.2) (x.2.1).l,au]∧dV r6 negative1 r1 (x.1) (x.2.1)=some r) ?_ ?_
 ·clear h hI;rintro⟨name1,r7,a8,c20⟩ w12 ⟨c21,hI,h⟩
  try dsimp only at hI h ⊢
  rw[dV]at h
  refine T ?_
  refine sB h (λ_ k=>sZ hI.lt trivial k) (Rc Tryz.func131) λr8 w13 h hI=>?_
  refine T ?_
  refine bO (α:=Unit) (λ_=>⟨58,[]⟩) (λ_=>[(4,vp b2 0),(8,(str name1)),(9,vi r8.1)]) (λ_=>λw=>∃ C,Bun C0 F w0 C w [MO.box b2 27 #[vi 0,vs none 0 0],MO.box b1 67 (ac r7 a8 c20)] [Cl.sl ag a8 c20 r7.l,au]∧fz name1 r8 r7=some r) ?_ ?_
  ·clear h hI;rintro _ w14 ⟨c22,hI,h⟩
   try dsimp only at hI h ⊢
   rw[fz]at h
   refine aj (T ?_)
   refine TC (λhb h=>?_) λhb h=>?_
   ·refine T ?_
    obtain⟨r9,hx11,h⟩:=ab h
    refine bf gn rfl (Rc Tryz.func132) (Calls.mono (EP hI.lt af hx11) ?_)
    rintro _ w15 ⟨a9,c23,rfl,hx12,hl7⟩
    refine⟨_,rfl,?_⟩
    replace hI:=(hI.ext hx12).adds hl7;dsimp only[ca,na]at hI
    refine lA λc24 w16 hI=>?_
    refine nk (aO ?_)
    obtain rfl:=ak h
    refine QG ?_
    exact .inl ⟨_,rfl,a9,c23,a8,c20,_,rfl,hI.arr GO SU⟩
   refine T ?_
   obtain⟨r10,hx13,h⟩:=ab h
   refine bf gn rfl (Rc Tryz.func127) (Calls.mono (Bu hI.lt af hx13) ?_)
   rintro _ w17 ⟨a10,c25,rfl,hx14,hl8⟩
   refine⟨_,rfl,?_⟩
   replace hI:=(hI.ext hx14).adds hl8;dsimp only[ca,na]at hI
   refine sm ?_
   obtain⟨r11,hx15,h⟩:=ab h
   refine bf gn rfl (Rc Tryz.func129) (Calls.mono (xL hI.lt FS hx15) ?_)
   rintro _ w18 ⟨a11,c26,rfl,hx16,hl9⟩
   refine⟨_,rfl,?_⟩
   replace hI:=(hI.ext hx16).adds hl9;dsimp only[ca,na]at hI
   refine T ?_
   refine lN λb4 c27 w19 hI=>?_
   refine lA λc28 w20 hI=>?_
   refine T ?_
   refine lA λc29 w21 hI=>?_
   refine nk (aO ?_)
   obtain rfl:=ak h
   refine QG ?_
   exact .inl ⟨_,rfl,a11,c26,a8,c20,_,rfl,hI.arr GO SU⟩
  refine TC (λhb h=>?_) λhb h=>?_
  ·refine T ?_
   rcases en h with⟨r12,hx17,h⟩ | ⟨pa_,pn_,hx17,hp_⟩
   rotate_left
   ·subst hp_
    refine iw gn rfl (ar (vs:=[vp b1 0,vi r1.at_,vi 3]) rfl uO ⟨et,et,ah,af⟩) (Calls.mono (aP NE ⟨(hI.get0 .z),hI.lendBox .z,af⟩ hx17) ?_)
    intro e_ w_ hq_;obtain⟨rfl,hx_⟩:=cz hq_;have hI_:=hI.ext hx_;exact .inr ⟨_,rfl,fB (.inr ⟨_,_,rfl,rfl,_,hI_.arr .n trivial⟩)⟩
   try dsimp only at h
   refine bf gn rfl (Rc Tryz.func71) (Calls.mono (aP NE ⟨(hI.get0 .z),hI.lendBox .z,af⟩ hx17) ?_)
   intro e_ w22 hq_;obtain⟨rfl,hx18,hl10⟩:=cy hq_
   refine⟨_,rfl,?_⟩
   replace hI:=(hI.ext hx18)
   refine aG ?_
   exact kj ()
  exact aZ (bI () SB BH rfl)
 refine T ?_
 obtain⟨c30,f3,hB,hl11,hk3⟩:=hI.hands (.l (.r .n))
 obtain⟨⟨r13,s3⟩,hx19,h⟩:=ab h
 try dsimp only at h
 refine bf gn rfl (Rc Tryz.func68) (Calls.mono (aQ HS hx19) ?_)
 rintro _ w23 ⟨a12,c31,c32,rfl,hB2⟩
 refine HN hk3 hB2 λc33 hI=>?_
 refine⟨_,rfl,?_⟩
 refine TC (λhb h=>?_) λhb h=>?_
 ·refine T ?_
  obtain⟨c34,f4,hB,hl12,hk4⟩:=hI.hands (.l (.r .n))
  refine dh h (λ_ hx20=>bT HS hx20) (jL hk4) (Rc Tryz.func128) ?_
  rintro⟨r14,s4⟩ hx20 h _ w24 ⟨a13,c35,c36,rfl,hB2⟩
  try dsimp only at h
  refine HN hk4 hB2 λc37 hI=>?_
  refine⟨_,rfl,?_⟩
  refine sa ?_
  refine aG ?_
  exact kj (r14,s4,a13,c35)
 exact aZ (bI (([]:List UInt8),s3,a12,c31) SB BH rfl)
def gm:Tr:=(.c (9,.s) (.c (10,.q) .n))
def ez:Tr:=(.c (4,.s) (.c (5,.q) (.c (6,.q) (.c (7,.q) gm))))
def dm:Tr:=(.c (0,.s) ez)
def bP:Tr:=(.c (3,.s) ez)
def dn:Tr:=(.two 4 (.c (5,.q) (.c (6,.q) (.c (7,.q) (.c (8,.s) gm)))) 8 ez)
theorem d7 {r1:aa} (hI:Bun C0 F w0 C0 w0 [MO.box b1 67 (ac r1 a1 c1)] [Cl.sl ag a1 c1 r1.l,au]) {r:bZ (aC×aa)} (h:bz r1=some r):CP C0 F w0 31 #[vp b1 0] r λrx e w=>∃ a2 c2 a3 c3 C,e= .returned (Value.agg (eP rx.1 a2 c2))∧Bun C0 F w0 C w [MO.box b1 67 (ac rx.2 a3 c3)] [Cl.sl ai a2 c2 rx.1.L,Cl.sl ag a3 c3 rx.2.l]:=by
 refine fa (l:=[vp b1 0]) Tryz.func31 rfl Tryz.ntmps31 rfl ?_
 rw[bz]at h
 refine sr (cY (cs:=#[vi 0,vs none 0 0]) hI gn rfl rfl mj rfl ?_)
 intro b2 c4 w1 hI
 refine T ?_
 obtain⟨c5,f1,hB,hl1,hk1⟩:=hI.hands (.r (.l .n))
 obtain⟨⟨r2,s1⟩,hx1,h⟩:=ab h
 try dsimp only at h
 refine bf gn rfl (Rc Tryz.func68) (Calls.mono (aQ HS hx1) ?_)
 rintro _ w2 ⟨a4,c6,c7,rfl,hB2⟩
 refine HN hk1 hB2 λc8 hI=>?_
 refine⟨_,rfl,?_⟩
 refine T ?_
 refine sq (aK (vs:=[]) (cs:=#[vi 0,vs none 0 0]) rfl trivial (by kernel_rfl)) ?_
 refine lN λb3 c9 w3 hI=>?_
 refine lA λc10 w4 hI=>?_
 refine T ?_
 have hI:=hI.add (c:=Cl.sl ai none 0 ([]:List bv)) SlC.nil
 refine bk (α:=Nat×Bool×aa×aC×(Option Addr)×Nat×(Option Addr)×Nat) (λx=>λw=>∃ C,Bun C0 F w0 C w [MO.box b1 67 (ac (x.2.2.1) (x.2.2.2.2.1) (x.2.2.2.2.2.1)),MO.box b2 27 #[vi 0,vs none 0 0],MO.box b3 27 (eP (x.2.2.2.1) (x.2.2.2.2.2.2.1) (x.2.2.2.2.2.2.2))] [Cl.sl ag (x.2.2.2.2.1) (x.2.2.2.2.2.1) (x.2.2.1).l,Cl.sl ai (x.2.2.2.2.2.2.1) (x.2.2.2.2.2.2.2) (x.2.2.2.1).L,au]∧bq (x.1) (x.2.1) (x.2.2.1) (x.2.2.2.1)=some r) (λx _=>x.1) (λx=>[(0,vp b1 0),(2,vp b2 0),(3,vb (x.2.1)),(4,vp b3 0)]) (fu,r2,s1,(⟨0,[]⟩:aC),a4,c6,none,0) ⟨_,hI.arr (.c .p1 (.c .p1 (.c .z .n))) ⟨.p1,.z,.p3,af⟩,h⟩ SB ?_
 clear h hI;rintro⟨fuel1,negative1,r3,sum1,a5,c11,a6,c12⟩ w5 ⟨c13,hI,h⟩
 dsimp only at hI h ⊢
 rcases fuel1 with _ | fuel1
 ·rw[bq]at h;cases h
 rw[bq]at h
 refine T ?_
 refine aj ?_
 rcases en h with⟨⟨r4,s2⟩,hx2,h⟩ | ⟨pa_,pn_,hx2,hp_⟩
 rotate_left
 ·subst hp_
  refine aL [3,9] false (.c (1,.q) (.c (2,.q) (.three 0 (.two 3 dn 8 bP) 3 (.two 0 dn 8 dm) 8 (.two 0 bP 3 dm)))) hI (by kernel_rfl) (by kernel_rfl) ?_
  intro w15 hI
  refine fU (α:=Nat×NP) (T:=bP) (λx=>[(0,vp b1 0),(2,vp b2 0),(4,vp b3 0),(5,vi r3.at_),(6,(Value.pointer (some ⟨(x.1),0,none⟩))),(16,(Value.agg (eP sum1 a6 c12))),(17,vp b1 0),(18,vb negative1)]) (λx w=>Bun C0 F w0 (x.2) w [MO.box (x.1) 27 #[vi 0,vs none 0 0],MO.box b1 67 (ac r3 a5 c11),MO.box b2 27 #[vi 0,vs none 0 0],MO.box b3 27 (eP sum1 a6 c12)] [Cl.sl ag a5 c11 r3.l,Cl.sl ai a6 c12 sum1.L,au]) (λx w=>SN [3,9] (DM false F (x.2)) w) ?_ ?_
  ·clear hI;rintro⟨b4,c23⟩ w11 hI
   try dsimp only at hI ⊢
   unfold bP
   refine gQ (F:=F) (C:=c23) rfl rfl ?_
   obtain⟨c14,f2,hB,hl2,hk2⟩:=hI.hands (.r (.l (.r (.r .n))))
   refine eO rfl gn rfl (ar (vs:=[vp b1 0,vb negative1]) rfl xx ⟨et,et,af⟩) (Calls.mono (de HS hx2) ?_)
   intro e_ w_ hq_;obtain⟨rfl,C_,hB_⟩:=cz hq_;obtain⟨C9_,-,hI_⟩:=hk2 _ _ _ _ hB_;exact .inr ⟨_,rfl,fB (.inr ⟨_,_,rfl,rfl,_,hI_.arr .n trivial⟩)⟩
  intro hk_tr_parser_reader_form_w_3_1
  refine V ?_
  refine wH ?_ ?_ ?_
  ·skip
   refine dz rfl gn rfl (am (l:=(fS sum1 a6 c12)) rfl et pr rfl bc (Q5 (hI.blk .p2) rfl)) Q7 ?_
   refine gG ?_ ?_
   ·skip
    refine dC (F:=F) (C:=c13) rfl rfl ?_
    obtain⟨c14,f2,hB,hl2,hk2⟩:=hI.hands (.l (.r (.r .n)))
    refine eO rfl gn rfl (ar (vs:=[vp b1 0,vb negative1]) rfl xx ⟨et,et,af⟩) (Calls.mono (de HS hx2) ?_)
    intro e_ w_ hq_;obtain⟨rfl,C_,hB_⟩:=cz hq_;obtain⟨C9_,-,hI_⟩:=hk2 _ _ _ _ hB_;exact .inr ⟨_,rfl,fB (.inr ⟨_,_,rfl,rfl,_,hI_.arr .n trivial⟩)⟩
   refine ji (cs:=#[vi 0,vs none 0 0]) hI rfl gn rfl rfl mj rfl ?_
   intro b4 c20 w8 hI
   exact cn (hk_tr_parser_reader_form_w_3_1 (b4,c20) _ (hI.arr GO SU)) SB
  ·skip
   refine dC (F:=F) (C:=c13) rfl rfl ?_
   obtain⟨c14,f2,hB,hl2,hk2⟩:=hI.hands (.l (.r (.r .n)))
   refine eO rfl gn rfl (ar (vs:=[vp b1 0,vb negative1]) rfl xx ⟨et,et,af⟩) (Calls.mono (de HS hx2) ?_)
   intro e_ w_ hq_;obtain⟨rfl,C_,hB_⟩:=cz hq_;obtain⟨C9_,-,hI_⟩:=hk2 _ _ _ _ hB_;exact .inr ⟨_,rfl,fB (.inr ⟨_,_,rfl,rfl,_,hI_.arr .n trivial⟩)⟩
  refine ji (cs:=#[vi 0,vs none 0 0]) hI rfl gn rfl rfl mj rfl ?_
  intro b4 c20 w8 hI
  refine gG ?_ ?_
  ·skip
   refine dz rfl gn rfl (am (l:=(fS sum1 a6 c12)) rfl et pr rfl bc (Q5 (hI.blk .p3) rfl)) Q7 ?_
   exact cn (hk_tr_parser_reader_form_w_3_1 (b4,c20) _ (hI.arr GO SU)) SB
  refine dC (F:=F) (C:=c20) rfl rfl ?_
  obtain⟨c14,f2,hB,hl2,hk2⟩:=hI.hands (.r (.l (.r (.r .n))))
  refine eO rfl gn rfl (ar (vs:=[vp b1 0,vb negative1]) rfl xx ⟨et,et,af⟩) (Calls.mono (de HS hx2) ?_)
  intro e_ w_ hq_;obtain⟨rfl,C_,hB_⟩:=cz hq_;obtain⟨C9_,-,hI_⟩:=hk2 _ _ _ _ hB_;exact .inr ⟨_,rfl,fB (.inr ⟨_,_,rfl,rfl,_,hI_.arr .n trivial⟩)⟩
 try dsimp only at h
 obtain⟨r5,hx3,h⟩:=ab h
 refine aL [3,9] false (.c (1,.q) (.c (2,.q) (.three 0 (.two 3 dn 8 bP) 3 (.two 0 dn 8 dm) 8 (.two 0 bP 3 dm)))) hI (by kernel_rfl) (by kernel_rfl) ?_
 intro w16 hI
 refine fU (α:=(Option Addr)×Nat×(Option Addr)×Nat×(Option Addr)×Nat×Nat×NP) (T:=gm) (λx=>[(0,vp b1 0),(2,vp b2 0),(4,vp b3 0),(5,vi r3.at_),(6,(Value.pointer (some ⟨(x.2.2.2.2.2.2.1),0,none⟩))),(21,(Value.agg (eP r5.1 (x.2.2.2.2.1) (x.2.2.2.2.2.1)))),(22,vi r5.2)]) (λx w=>Bun C0 F w0 (x.2.2.2.2.2.2.2) w [MO.box (x.2.2.2.2.2.2.1) 27 #[vi 0,vs none 0 0],MO.box b1 67 (ac s2 (x.2.2.1) (x.2.2.2.1)),MO.box b2 27 #[vi 0,vs none 0 0],MO.box b3 27 (eP sum1 a6 c12)] [Cl.sl ai (x.2.2.2.2.1) (x.2.2.2.2.2.1) r5.1.L,Cl.sl ai (x.1) (x.2.1) r4.L,Cl.sl ag (x.2.2.1) (x.2.2.2.1) s2.l,Cl.sl ag a5 c11 r3.l,Cl.sl ai a6 c12 sum1.L,au]) (λx w=>SN [] (DM true F (x.2.2.2.2.2.2.2)) w) ?_ ?_
 ·clear hI;rintro⟨a7,c15,a8,c16,a9,c19,b4,c26⟩ w14 hI
  try dsimp only at hI ⊢
  unfold gm
  refine vA λc21 w9 hI=>?_
  refine V ?_
  refine bO (α:=Unit) (λ_=>⟨36,[]⟩) (λ_=>[(0,vp b1 0),(2,vp b2 0),(4,vp b3 0),(6,vp b4 0)]) (λ_=>λw=>∃ C,Bun C0 F w0 C w [MO.box b1 67 (ac s2 a8 c16),MO.box b2 27 #[vi 0,vs none 0 0],MO.box b3 27 (eP sum1 a6 c12),MO.box b4 27 (eP r5.1 a9 c19)] [Cl.sl ag a8 c16 s2.l,Cl.sl ai a6 c12 sum1.L,Cl.sl ai a9 c19 r5.1.L,au]∧dW s2 (bq fuel1) r5=some r) ?_ ?_
  ·clear h hI;rintro _ w17 ⟨c27,hI,h⟩
   try dsimp only at hI h ⊢
   rw[dW]at h
   refine T ?_
   refine lA λc28 w18 hI=>?_
   refine T ?_
   obtain⟨c29,f3,hB,hl4,hk3⟩:=hI.hands (.l (.r (.r (.r .n))))
   obtain⟨⟨r6,s3⟩,hx5,h⟩:=ab h
   try dsimp only at h
   refine bf gn rfl (Rc Tryz.func68) (Calls.mono (aQ HS hx5) ?_)
   rintro _ w19 ⟨a10,c30,c31,rfl,hB2⟩
   refine HN hk3 hB2 λc32 hI=>?_
   refine⟨_,rfl,?_⟩
   refine TC (λhb h=>?_) λhb h=>?_
   ·refine T ?_
    refine aG ?_
    exact qo (fuel1,false,s3,r5.1,a10,c30,a9,c19) SB ⟨_,hI.arr GO SU,h⟩ (Nat.lt_succ_self _)
   refine T ?_
   obtain⟨c33,f4,hB,hl5,hk4⟩:=hI.hands (.l (.r (.r (.r .n))))
   obtain⟨⟨r7,s4⟩,hx6,h⟩:=ab h
   try dsimp only at h
   refine bf gn rfl (Rc Tryz.func68) (Calls.mono (aQ HS hx6) ?_)
   rintro _ w20 ⟨a11,c34,c35,rfl,hB2⟩
   refine HN hk4 hB2 λc36 hI=>?_
   refine⟨_,rfl,?_⟩
   refine TC (λhb h=>?_) λhb h=>?_
   ·refine T ?_
    refine aG ?_
    exact qo (fuel1,true,s4,r5.1,a11,c34,a9,c19) SB ⟨_,hI.arr GO SU,h⟩ (Nat.lt_succ_self _)
   refine T ?_
   refine lA λc37 w21 hI=>?_
   refine nk (aO ?_)
   obtain rfl:=ak h
   refine QG ?_
   exact .inl ⟨_,rfl,a9,c19,a11,c34,_,rfl,hI.arr GO SU⟩
  refine TC (λhb h=>?_) λhb h=>?_
  ·refine T ?_
   rcases en h with⟨r8,hx7,h⟩ | ⟨pa_,pn_,hx7,hp_⟩
   rotate_left
   ·subst hp_
    refine iw gn rfl (ar (vs:=[vp b1 0,vi r3.at_,vi 3]) rfl uO ⟨et,et,ah,af⟩) (Calls.mono (aP NE ⟨(hI.get0 .p2),hI.lendBox .p1,af⟩ hx7) ?_)
    intro e_ w_ hq_;obtain⟨rfl,hx_⟩:=cz hq_;have hI_:=hI.ext hx_;exact .inr ⟨_,rfl,fB (.inr ⟨_,_,rfl,rfl,_,hI_.arr .n trivial⟩)⟩
   try dsimp only at h
   refine bf gn rfl (Rc Tryz.func71) (Calls.mono (aP NE ⟨(hI.get0 .p2),hI.lendBox .p1,af⟩ hx7) ?_)
   intro e_ w22 hq_;obtain⟨rfl,hx8,hl6⟩:=cy hq_
   refine⟨_,rfl,?_⟩
   replace hI:=(hI.ext hx8)
   refine aG ?_
   exact bI () SB ⟨_,hI.arr GO SU,h⟩ rfl
  exact aZ (bI () SB ⟨_,hI.arr GO SU,h⟩ rfl)
 intro hk_tr_parser_reader_form_w_3_4
 refine fU (α:=(Option Addr)×Nat×(Option Addr)×Nat×Nat×NP) (T:=ez) (λx=>[(0,vp b1 0),(2,vp b2 0),(4,vp b3 0),(5,vi r3.at_),(6,(Value.pointer (some ⟨(x.2.2.2.2.1),0,none⟩))),(16,(Value.agg (eP sum1 a6 c12))),(19,(Value.agg (eP r4 (x.1) (x.2.1))))]) (λx w=>Bun C0 F w0 (x.2.2.2.2.2) w [MO.box (x.2.2.2.2.1) 27 #[vi 0,vs none 0 0],MO.box b1 67 (ac s2 (x.2.2.1) (x.2.2.2.1)),MO.box b2 27 #[vi 0,vs none 0 0],MO.box b3 27 (eP sum1 a6 c12)] [Cl.sl ai (x.1) (x.2.1) r4.L,Cl.sl ag (x.2.2.1) (x.2.2.2.1) s2.l,Cl.sl ag a5 c11 r3.l,Cl.sl ai a6 c12 sum1.L,au]) (λx w=>SN [] (DM true F (x.2.2.2.2.2)) w) ?_ ?_
 ·clear hI;rintro⟨a7,c15,a8,c16,b4,c25⟩ w13 hI
  try dsimp only at hI ⊢
  unfold ez
  refine bF rfl gn rfl (ar (vs:=[(Value.agg (eP sum1 a6 c12)),(Value.agg (eP r4 a7 c15))]) rfl Mw ⟨et,et,af⟩) (Calls.mono (Bv hI.lt FS hx3) ?_)
  rintro _ w7 ⟨a9,c19,rfl,hx4,hl3⟩
  refine⟨_,rfl,hx4,?_⟩
  replace hI:=(hI.ext hx4).adds hl3;dsimp only[ca,na]at hI
  refine V ?_
  exact cn (hk_tr_parser_reader_form_w_3_4 (a7,c15,a8,c16,a9,c19,b4,c25) _ (hI.arr GO SU)) SB
 intro hk_tr_parser_reader_form_w_3_3
 refine fU (α:=(Option Addr)×Nat×(Option Addr)×Nat×Nat×NP) (T:=dm) (λx=>[(0,vp b1 0),(2,vp b2 0),(4,vp b3 0),(5,vi r3.at_),(6,(Value.pointer (some ⟨(x.2.2.2.2.1),0,none⟩))),(19,(Value.agg (eP r4 (x.1) (x.2.1))))]) (λx w=>Bun C0 F w0 (x.2.2.2.2.2) w [MO.box (x.2.2.2.2.1) 27 #[vi 0,vs none 0 0],MO.box b1 67 (ac s2 (x.2.2.1) (x.2.2.2.1)),MO.box b2 27 #[vi 0,vs none 0 0],MO.box b3 27 (eP sum1 a6 c12)] [Cl.sl ai (x.1) (x.2.1) r4.L,Cl.sl ag (x.2.2.1) (x.2.2.2.1) s2.l,Cl.sl ag a5 c11 r3.l,Cl.sl ai a6 c12 sum1.L,au]) (λx w=>SN [] (DM true F (x.2.2.2.2.2)) w) ?_ ?_
 ·clear hI;rintro⟨a7,c15,a8,c16,b4,c24⟩ w12 hI
  try dsimp only at hI ⊢
  unfold dm
  refine dz rfl gn rfl (am (l:=(fS sum1 a6 c12)) rfl et pr rfl bc (Q5 (hI.blk .p3) rfl)) Q7 ?_
  exact cn (hk_tr_parser_reader_form_w_3_3 (a7,c15,a8,c16,b4,c24) _ (hI.arr GO SU)) SB
 intro hk_tr_parser_reader_form_w_3_2
 refine fU (α:=Nat×NP) (T:=bP) (λx=>[(0,vp b1 0),(2,vp b2 0),(4,vp b3 0),(5,vi r3.at_),(6,(Value.pointer (some ⟨(x.1),0,none⟩))),(16,(Value.agg (eP sum1 a6 c12))),(17,vp b1 0),(18,vb negative1)]) (λx w=>Bun C0 F w0 (x.2) w [MO.box (x.1) 27 #[vi 0,vs none 0 0],MO.box b1 67 (ac r3 a5 c11),MO.box b2 27 #[vi 0,vs none 0 0],MO.box b3 27 (eP sum1 a6 c12)] [Cl.sl ag a5 c11 r3.l,Cl.sl ai a6 c12 sum1.L,au]) (λx w=>SN [3,9] (DM false F (x.2)) w) ?_ ?_
 ·clear hI;rintro⟨b4,c23⟩ w11 hI
  try dsimp only at hI ⊢
  unfold bP
  refine gQ (F:=F) (C:=c23) rfl rfl ?_
  obtain⟨c14,f2,hB,hl2,hk2⟩:=hI.hands (.r (.l (.r (.r .n))))
  refine eN rfl gn rfl (ar (vs:=[vp b1 0,vb negative1]) rfl xx ⟨et,et,af⟩) (Calls.mono (de HS hx2) ?_)
  intro e_ w6 hq_;obtain⟨a7,c15,a8,c16,c17,rfl,hB2⟩:=cy hq_
  obtain⟨c18,hs2,hI⟩:=hk2 _ _ _ _ hB2
  dsimp only[ca,na]at hI
  refine⟨_,rfl,DM true F c18,hs2,?_⟩
  exact cn (hk_tr_parser_reader_form_w_3_3 (a7,c15,a8,c16,b4,c18) _ (hI.arr GO SU)) SB
 intro hk_tr_parser_reader_form_w_3_1
 refine fU (α:=(Option Addr)×Nat×(Option Addr)×Nat×NP) (T:=dn) (λx=>[(0,vp b1 0),(2,vp b2 0),(4,vp b3 0),(5,vi r3.at_),(16,(Value.agg (eP sum1 a6 c12))),(19,(Value.agg (eP r4 (x.1) (x.2.1))))]) (λx w=>Bun C0 F w0 (x.2.2.2.2) w [MO.box b1 67 (ac s2 (x.2.2.1) (x.2.2.2.1)),MO.box b2 27 #[vi 0,vs none 0 0],MO.box b3 27 (eP sum1 a6 c12)] [Cl.sl ai (x.1) (x.2.1) r4.L,Cl.sl ag (x.2.2.1) (x.2.2.2.1) s2.l,Cl.sl ag a5 c11 r3.l,Cl.sl ai a6 c12 sum1.L,au]) (λx w=>SN [] (DM true F (x.2.2.2.2)) w) ?_ ?_
 ·clear hI;rintro⟨a7,c15,a8,c16,c22⟩ w10 hI
  try dsimp only at hI ⊢
  unfold dn
  refine gG ?_ ?_
  ·skip
   refine bF rfl gn rfl (ar (vs:=[(Value.agg (eP sum1 a6 c12)),(Value.agg (eP r4 a7 c15))]) rfl Mw ⟨et,et,af⟩) (Calls.mono (Bv hI.lt FS hx3) ?_)
   rintro _ w7 ⟨a9,c19,rfl,hx4,hl3⟩
   refine⟨_,rfl,hx4,?_⟩
   replace hI:=(hI.ext hx4).adds hl3;dsimp only[ca,na]at hI
   refine V ?_
   refine ji (cs:=#[vi 0,vs none 0 0]) hI rfl gn rfl rfl mj rfl ?_
   intro b4 c20 w8 hI
   exact cn (hk_tr_parser_reader_form_w_3_4 (a7,c15,a8,c16,a9,c19,b4,c20) _ (hI.arr GO SU)) SB
  refine ji (cs:=#[vi 0,vs none 0 0]) hI rfl gn rfl rfl mj rfl ?_
  intro b4 c20 w8 hI
  exact cn (hk_tr_parser_reader_form_w_3_3 (a7,c15,a8,c16,b4,c20) _ (hI.arr GO SU)) SB
 intro hk_tr_parser_reader_form_w_3_0
 refine V ?_
 refine wH ?_ ?_ ?_
 ·skip
  refine dz rfl gn rfl (am (l:=(fS sum1 a6 c12)) rfl et pr rfl bc (Q5 (hI.blk .p2) rfl)) Q7 ?_
  refine gG ?_ ?_
  ·skip
   refine dC (F:=F) (C:=c13) rfl rfl ?_
   obtain⟨c14,f2,hB,hl2,hk2⟩:=hI.hands (.l (.r (.r .n)))
   refine eN rfl gn rfl (ar (vs:=[vp b1 0,vb negative1]) rfl xx ⟨et,et,af⟩) (Calls.mono (de HS hx2) ?_)
   intro e_ w6 hq_;obtain⟨a7,c15,a8,c16,c17,rfl,hB2⟩:=cy hq_
   obtain⟨c18,hs2,hI⟩:=hk2 _ _ _ _ hB2
   dsimp only[ca,na]at hI
   refine⟨_,rfl,DM true F c18,hs2,?_⟩
   exact cn (hk_tr_parser_reader_form_w_3_0 (a7,c15,a8,c16,c18) _ (hI.arr GO SU)) SB
  refine ji (cs:=#[vi 0,vs none 0 0]) hI rfl gn rfl rfl mj rfl ?_
  intro b4 c20 w8 hI
  exact cn (hk_tr_parser_reader_form_w_3_1 (b4,c20) _ (hI.arr GO SU)) SB
 ·skip
  refine dC (F:=F) (C:=c13) rfl rfl ?_
  obtain⟨c14,f2,hB,hl2,hk2⟩:=hI.hands (.l (.r (.r .n)))
  refine eN rfl gn rfl (ar (vs:=[vp b1 0,vb negative1]) rfl xx ⟨et,et,af⟩) (Calls.mono (de HS hx2) ?_)
  intro e_ w6 hq_;obtain⟨a7,c15,a8,c16,c17,rfl,hB2⟩:=cy hq_
  obtain⟨c18,hs2,hI⟩:=hk2 _ _ _ _ hB2
  dsimp only[ca,na]at hI
  refine⟨_,rfl,DM true F c18,hs2,?_⟩
  refine gG ?_ ?_
  ·skip
   refine dz rfl gn rfl (am (l:=(fS sum1 a6 c12)) rfl et pr rfl bc (Q5 (hI.blk .p2) rfl)) Q7 ?_
   exact cn (hk_tr_parser_reader_form_w_3_0 (a7,c15,a8,c16,c18) _ (hI.arr GO SU)) SB
  refine ji (cs:=#[vi 0,vs none 0 0]) hI rfl gn rfl rfl mj rfl ?_
  intro b4 c20 w8 hI
  exact cn (hk_tr_parser_reader_form_w_3_2 (a7,c15,a8,c16,b4,c20) _ (hI.arr GO SU)) SB
 refine ji (cs:=#[vi 0,vs none 0 0]) hI rfl gn rfl rfl mj rfl ?_
 intro b4 c20 w8 hI
 refine gG ?_ ?_
 ·skip
  refine dz rfl gn rfl (am (l:=(fS sum1 a6 c12)) rfl et pr rfl bc (Q5 (hI.blk .p3) rfl)) Q7 ?_
  exact cn (hk_tr_parser_reader_form_w_3_1 (b4,c20) _ (hI.arr GO SU)) SB
 refine dC (F:=F) (C:=c20) rfl rfl ?_
 obtain⟨c14,f2,hB,hl2,hk2⟩:=hI.hands (.r (.l (.r (.r .n))))
 refine eN rfl gn rfl (ar (vs:=[vp b1 0,vb negative1]) rfl xx ⟨et,et,af⟩) (Calls.mono (de HS hx2) ?_)
 intro e_ w6 hq_;obtain⟨a7,c15,a8,c16,c17,rfl,hB2⟩:=cy hq_
 obtain⟨c18,hs2,hI⟩:=hk2 _ _ _ _ hB2
 dsimp only[ca,na]at hI
 refine⟨_,rfl,DM true F c18,hs2,?_⟩
 exact cn (hk_tr_parser_reader_form_w_3_2 (a7,c15,a8,c16,b4,c18) _ (hI.arr GO SU)) SB
theorem qW {a1:aa} {a3:aC} (hI:Bun C0 F w0 C0 w0 [MO.box b2 67 (ac a1 a2 c1),MO.box b3 27 (eP a3 a4 c2)] [Cl.sl ag a2 c1 a1.l,Cl.blk b1 65 #[vp b2 0],Cl.sl ai a4 c2 a3.L,au]) {r:bZ (Unit×aa×aC)} (h:nZ a1 a3=some r):CP C0 F w0 30 #[vp b1 0,vp b3 0] r λrx e w=>∃ a5 c3 a6 c4 C,e= .returned (Value.tuple #[])∧Bun C0 F w0 C w [MO.box b2 67 (ac rx.2.1 a5 c3),MO.box b3 27 (eP rx.2.2 a6 c4)] [Cl.sl ag a5 c3 rx.2.1.l,Cl.sl ai a6 c4 rx.2.2.L]:=by
 refine fa (l:=[vp b1 0,vp b3 0]) Tryz.func30 rfl Tryz.ntmps30 rfl ?_
 rw[nZ]at h
 refine T ?_
 obtain⟨c5,f1,hB,hl1,hk1⟩:=hI.hands (.l (.r .n))
 refine dh h (λ_ hx1=>d7 HS hx1) (jL hk1) (Rc Tryz.func31) ?_
 rintro⟨r1,s1⟩ hx1 h _ w1 ⟨a7,c6,a8,c7,c8,rfl,hB2⟩
 try dsimp only at h
 refine HN hk1 hB2 λc9 hI=>?_
 refine⟨_,rfl,?_⟩
 refine lA λc10 w2 hI=>?_
 refine aG ?_
 obtain rfl:=ak h
 refine QG ?_
 exact .inl ⟨_,rfl,a8,c7,a7,c6,_,rfl,hI.arr GO SU⟩
def ly:Tr:= .n
def lz:Tr:=(.c (4,.s) (.c (6,.q) (.c (7,.q) ly)))
theorem C7 (hF:dF F w0) {l1:List bp} {at1:Int} (hc:AllCl [Cl.sl ag a1 c1 l1,au] F w0) {r:aC×Int×Int} (h:se l1 at1=some r):Cg 12 #[vs a1 l1.length c1,vi at1] w0 λe w=>∃ a2 c2,e= .returned (Value.tuple #[(Value.agg (eP r.1 a2 c2)),vi r.2.1,vi r.2.2])∧Ext w0 w∧AllCl [Cl.sl ai a2 c2 r.1.L] F w:=by
 refine EN Tryz.func12 Tryz.ntmps12 hF hc λhI=>?_
 rw[se]at h
 refine sr (cY (cs:=#[vi 0,vs none 0 0]) hI gn rfl rfl mj rfl ?_)
 intro b1 c3 w1 hI
 refine xp ?_
 refine xp ?_
 refine nk (aj (sr (sm ?_)))
 refine sq (rp rfl et ah) ?_
 refine sm ?_
 refine aw (bj rfl rfl rfl rfl) rfl (λhc=>fC rfl et) ?_
 refine aw (bj rfl rfl rfl rfl) rfl (λhc=>fC rfl et) ?_
 refine aw (bj rfl rfl rfl rfl) rfl (λhc=>jM rfl QT (aI et hc)) ?_
 refine aw (bj rfl rfl rfl rfl) rfl (λhc=>tn rfl (aI et hc) (aI et hc)) ?_
 refine sq (xP rfl et et) ?_
 refine TC (λhb h=>?_) λhb h=>?_
 ·refine sr (sq (aK (vs:=[]) (cs:=#[vi 0,vs none 0 0]) rfl trivial (by kernel_rfl)) ?_)
  refine lA λc4 w2 hI=>?_
  refine xp ?_
  refine xp ?_
  refine nk (aO ?_)
  have hI:=hI.add (c:=Cl.sl ai none 0 ([]:List bv)) SlC.nil
  obtain rfl:=ak h
  exact gR (vs:=[(Value.agg #[vi 0,vs none 0 0]),vi 0,vi 1]) Tryz.results12 ⟨⟨_,aT rfl rfl,jI (l:=[vi 0,vs none 0 0]) pr rfl bc (Q5 (hI.blk .z) rfl)⟩,aT rfl rfl,aT rfl rfl,af⟩ ⟨none,0,rfl,hI.ext0,hI.fin ⟨.z,af⟩⟩
 refine aZ (aS (sr (sm ?_)))
 refine sm ?_
 refine sq (aK (vs:=[(0,vs a1 l1.length c1),(1,vi at1)]) (cs:=#[vs a1 l1.length c1,vi at1,vi 0]) rfl ⟨rfl,et,rfl,et,af⟩ (by kernel_rfl)) ?_
 refine Ei (v:=(Value.agg #[vs a1 l1.length c1,vi at1,vi 0])) (cs:=#[vs a1 l1.length c1,vi at1,vi 0]) hI gn rfl rfl et rfl ?_
 intro b2 c5 w3 hI
 refine lN λb3 c6 w4 hI=>?_
 refine lS λc7 w5 hI=>?_
 refine nk (sr (sq (aK (vs:=[]) (cs:=#[vi 0,vs none 0 0]) rfl trivial (by kernel_rfl)) ?_))
 refine lN λb4 c8 w6 hI=>?_
 refine lA λc9 w7 hI=>?_
 refine nk (aj (sr (sq (np (vs:=[]) (cap:=[vp b3 0,vp b4 0]) rfl rfl ⟨et,et,af⟩) ?_)))
 obtain⟨c10,hI⟩:=hI.relBox .p1
 have hI:=hI.add (c:=Cl.sl ai none 0 ([]:List bv)) SlC.nil
 obtain⟨c11,f1,hB,hl1,hk1⟩:=hI.hands (.l (.l (.r .n)))
 replace hB:=hB.ord (.c .p1 (.c .z .n))
 rcases tC h with⟨⟨r1,s1,s2⟩,hx1,h⟩ | ⟨pa1,pn1,hx1,hn1,h⟩
 ·skip
  try dsimp only at h
  refine bf gn rfl (Rc Tryz.func29) (Calls.mono (sQ (β:=(Option Addr)×Nat×(Option Addr)×Nat) (λx=>[MO.box b2 67 (ac s1 (x.1) (x.2.1)),MO.box b4 27 (eP s2 (x.2.2.1) (x.2.2.2))]) (λx=>[Cl.sl ag (x.1) (x.2.1) s1.l,Cl.sl ai (x.2.2.1) (x.2.2.2) s2.L]) (cl:=[Cl.sl ag a1 c1 l1,Cl.blk b3 65 #[vp b2 0],Cl.sl ai none 0 ([]:List bv),au]) MA (hB.subs ⟨.p2,.p1,.z,.p3,af⟩) (λC1_ F1_ w1_ hB_=>(qW hB_ hx1).mono λe_ w_ hq_=>(let ⟨a3,c12,a4,c13,C_,he_,hB2_⟩:=cy hq_;⟨he_,(a3,c12,a4,c13),C_,hB2_⟩))) ?_)
  rintro _ w8 ⟨rfl,⟨a3,c12,a4,c13⟩,c14,hB2⟩
  obtain⟨c15,hs1,hI⟩:=hk1 _ _ _ _ hB2
  replace hI:Bun cH F w0 c15 w8 [MO.box b2 67 (ac s1 a3 c12),MO.box b4 27 (eP s2 a4 c13),MO.box b1 27 #[vi 0,vs none 0 0]] [Cl.sl ag a3 c12 s1.l,Cl.sl ai a4 c13 s2.L,Cl.sl ai none 0 ([]:List bv),Cl.blk b3 65 #[vp b2 0],Cl.sl ag a1 c1 l1,au]:=hI
  refine⟨_,rfl,?_⟩
  refine sm ?_
  refine sq (ir rfl et rfl) ?_
  refine sq (ir rfl et rfl) ?_
  refine sa ?_
  refine sa ?_
  refine nk (sr (sm ?_))
  refine sq (pE rfl et ah) ?_
  refine TC (λhb h=>?_) λhb h=>?_
  ·refine sr (sq (aK (vs:=[]) (cs:=#[vi 0,vs none 0 0]) rfl trivial (by kernel_rfl)) ?_)
   refine sm ?_
   refine sm ?_
   refine lA λc16 w9 hI=>?_
   refine sa ?_
   refine sa ?_
   refine aG ?_
   refine oq (e:=[(4,vp b1 0),(5,vi 0),(6,vi 0)]) SB ?_
   refine aO ?_
   obtain rfl:=ak h
   exact gR (vs:=[(Value.agg #[vi 0,vs none 0 0]),vi 0,vi 0]) Tryz.results12 ⟨⟨_,aT rfl rfl,jI (l:=[vi 0,vs none 0 0]) pr rfl bc (Q5 (hI.blk .p2) rfl)⟩,aT rfl rfl,aT rfl rfl,af⟩ ⟨none,0,rfl,hI.ext0,hI.fin ⟨.p2,af⟩⟩
  refine aZ (oq (e:=[(4,vp b1 0),(7,vp b3 0),(8,vp b4 0)]) ⟨rfl,rfl,rfl,af⟩ ?_)
  refine aj (aL [5] false (.c (0,.q) (.two 1 (.c (2,.q) (.c (3,.q) (.two 4 (.c (5,.s) (.c (6,.q) (.c (7,.q) ly))) 5 lz))) 5 (.c (1,.s) (.c (2,.q) (.c (3,.q) lz))))) hI (by kernel_rfl) (by kernel_rfl) ?_)
  intro w13 hI
  refine fU (α:=NP) (T:=ly) (λx=>[(4,vp b1 0),(5,vi s1.at_),(6,vi 0)]) (λx w=>Bun cH F w0 x w [MO.box b2 67 (ac s1 a3 c12),MO.box b4 27 (eP s2 a4 c13),MO.box b1 27 (eP s2 a4 c13)] [Cl.sl ag a3 c12 s1.l,Cl.sl ai a4 c13 s2.L,Cl.sl ai none 0 ([]:List bv),Cl.blk b3 65 #[vp b2 0],Cl.sl ag a1 c1 l1,au]) (λx w=>SN [] (DM true F x) w) ?_ ?_
  ·clear hI;rintro c19 w12 hI
   try dsimp only at hI ⊢
   unfold ly
   refine pp ?_
   refine aS (aO ?_)
   obtain rfl:=ak h
   exact gR (vs:=[(Value.agg (eP s2 a4 c13)),vi s1.at_,vi 0]) Tryz.results12 ⟨⟨_,aT rfl rfl,jI (l:=(fS s2 a4 c13)) pr rfl bc (Q5 (hI.blk .p2) rfl)⟩,aT rfl rfl,aT rfl rfl,af⟩ ⟨a4,c13,rfl,hI.ext0,hI.fin ⟨.p1,af⟩⟩
  intro hk_tr_parser_Lin_1_1
  refine fU (α:=NP) (T:=lz) (λx=>[(4,vp b1 0),(38,vp b2 1)]) (λx w=>Bun cH F w0 x w [MO.box b2 67 (ac s1 a3 c12),MO.box b4 27 (eP s2 a4 c13),MO.box b1 27 (eP s2 a4 c13)] [Cl.sl ag a3 c12 s1.l,Cl.sl ai a4 c13 s2.L,Cl.sl ai none 0 ([]:List bv),Cl.blk b3 65 #[vp b2 0],Cl.sl ag a1 c1 l1,au]) (λx w=>SN [] (DM true F x) w) ?_ ?_
  ·clear hI;rintro c18 w11 hI
   try dsimp only at hI ⊢
   unfold lz
   refine dz rfl gn rfl (aF (v:=(vi s1.at_)) rfl et u3 rfl (Q5 (hI.blk .z) rfl)) Q7 ?_
   refine iq rfl gn rfl (λw'=>cx rfl et) ?_
   refine iq rfl gn rfl (λw'=>cx rfl ah) ?_
   exact cn (hk_tr_parser_Lin_1_1 c18 _ (hI.arr GO SU)) SB
  intro hk_tr_parser_Lin_1_0
  refine dl rfl gn rfl (λw' hw'=>(am (l:=(fS s2 a4 c13)) rfl et pr rfl bc ((CA.blk (hI.blk .p1) rfl).at_ (SX.any rfl hw')))) (by kernel_rfl) ?_
  refine gG ?_ ?_
  ·skip
   refine dz rfl gn rfl (aF (v:=(vp b2 0)) rfl et QR rfl (hI.kblk (l:=[vp b2 0]) .p3 rfl).1) Q7 ?_
   refine iq rfl gn rfl (λw'=>nn rfl et) ?_
   refine iq rfl gn rfl (λw'=>aq rfl et PK rfl jQ rfl) ?_
   refine gG ?_ ?_
   ·skip
    refine dz rfl gn rfl (aF (v:=(vi s1.at_)) rfl et u3 rfl (Q5 (hI.blk .z) rfl)) Q7 ?_
    refine gQ (F:=F) (C:=c15) rfl rfl ?_
    refine vA λc17 w10 hI=>?_
    refine iq rfl gn rfl (λw'=>cx rfl et) ?_
    refine iq rfl gn rfl (λw'=>cx rfl ah) ?_
    exact cn (hk_tr_parser_Lin_1_1 c17 _ (hI.arr GO SU)) SB
   refine dC (F:=F) (C:=c15) rfl rfl ?_
   refine vA λc17 w10 hI=>?_
   exact cn (hk_tr_parser_Lin_1_0 c17 _ (hI.arr GO SU)) SB
  refine dC (F:=F) (C:=c15) rfl rfl ?_
  refine vA λc17 w10 hI=>?_
  refine dz rfl gn rfl (aF (v:=(vp b2 0)) rfl et QR rfl (hI.kblk (l:=[vp b2 0]) .p3 rfl).1) Q7 ?_
  refine iq rfl gn rfl (λw'=>nn rfl et) ?_
  refine iq rfl gn rfl (λw'=>aq rfl et PK rfl jQ rfl) ?_
  exact cn (hk_tr_parser_Lin_1_0 c17 _ (hI.arr GO SU)) SB
 try dsimp only at h
 refine bf gn rfl (Rc Tryz.func29) (Calls.mono (sR (cl:=[Cl.sl ag a1 c1 l1,Cl.blk b3 65 #[vp b2 0],Cl.sl ai none 0 ([]:List bv),au]) MA (hB.subs ⟨.p2,.p1,.z,.p3,af⟩) (λC1_ F1_ w1_ hB_=>(qW hB_ hx1).mono λe_ w_ hq_=>cz hq_)) ?_)
 rintro _ w14 ⟨rfl,c20,hB2⟩
 obtain⟨c21,hs2,hI⟩:=hk1 _ _ _ _ hB2
 replace hI:Bun cH F w0 c21 w14 [MO.box b1 27 #[vi 0,vs none 0 0]] [Cl.sl ai none 0 ([]:List bv),Cl.blk b3 65 #[vp b2 0],Cl.sl ag a1 c1 l1,au]:=hI
 refine⟨_,rfl,?_⟩
 have hk2:(!decide (pn1=0))=true:=by simp[hn1]
 refine sm ?_
 refine sq (ir rfl et rfl) ?_
 refine sq (ir rfl et rfl) ?_
 refine sa ?_
 refine sa ?_
 refine nk (sr (sm ?_))
 refine sq (pE rfl et ah) ?_
 refine nk (sO (b:= !decide (pn1=0)) et (λ_=>?_) (λhb=>absurd (hb.symm.trans hk2) (by simp)))
 refine sr (sq (aK (vs:=[]) (cs:=#[vi 0,vs none 0 0]) rfl trivial (by kernel_rfl)) ?_)
 refine sm ?_
 refine sm ?_
 refine lA λc22 w15 hI=>?_
 refine sa ?_
 refine sa ?_
 refine aG ?_
 refine oq (e:=[(4,vp b1 0),(5,vi pa1),(6,vi pn1)]) SB ?_
 refine aO ?_
 obtain rfl:=ak h
 exact gR (vs:=[(Value.agg #[vi 0,vs none 0 0]),vi pa1,vi pn1]) Tryz.results12 ⟨⟨_,aT rfl rfl,jI (l:=[vi 0,vs none 0 0]) pr rfl bc (Q5 (hI.blk .z) rfl)⟩,aT rfl rfl,aT rfl rfl,af⟩ ⟨none,0,rfl,hI.ext0,hI.fin ⟨.z,af⟩⟩
theorem AG (hF:dF F w0) {r1:Int} (hc:AllCl [] F w0) {r:Bool} (h:iW r1=some r):CR F w0 153 #[(Value.int .i32 r1)] (vb r) []:=by
 refine EN Tryz.func153 Tryz.ntmps153 hF hc λhI=>?_
 rw[iW]at h
 refine T ?_
 refine aj (T ?_)
 refine aj (T ?_)
 refine TC (λhb h=>?_) λhb h=>?_
 ·refine TR λhb h=>?_
  exact RF
 refine TC (λhb h=>?_) λhb h=>?_
 ·refine TR λhb h=>?_
  exact RF
 refine TC (λhb h=>?_) λhb h=>?_
 ·refine TR λhb h=>?_
  exact RF
 refine TR λhb h=>?_
 exact RF
theorem zN (hF:dF F w0) {r1:Int} (hc:AllCl [] F w0) {r:Bool} (h:ob r1=some r):CR F w0 155 #[(Value.int .i32 r1)] (vb r) []:=by
 refine EN Tryz.func155 Tryz.ntmps155 hF hc λhI=>?_
 rw[ob]at h
 exact RF
theorem wy (hF:dF F w0) {s1:List UInt8} (hc:AllCl [] F w0) {r:Int} (h:iQ s1=some r):CR F w0 83 #[(str s1)] (vi r) []:=by
 refine EN Tryz.func83 Tryz.ntmps83 hF hc λhI=>?_
 rw[iQ]at h
 refine T ?_
 refine aj (T ?_)
 refine bk (α:=Nat×Int) (λx=>λw=>∃ C,Bun cH F w0 C w [] []∧ei s1 (x.1) (x.2)=some r) (λx _=>x.1) (λx=>[(0,(str s1)),(3,vi (x.2))]) (fu,0) BH SB ?_
 clear h hI;rintro⟨fuel1,at1⟩ w1 ⟨c1,hI,h⟩
 dsimp only at hI h ⊢
 rcases fuel1 with _ | fuel1
 ·rw[ei]at h;cases h
 rw[ei]at h
 refine aj (T ?_)
 refine TC (λhb h=>?_) λhb h=>?_
 ·refine T ?_
  obtain⟨b1,hx1,h⟩:=ab h
  refine sI ?_
  refine T ?_
  refine sB h (λ_ k=>AG hI.lt trivial k) (Rc Tryz.func153) λr1 w2 h hI=>?_
  refine TC (λhb h=>?_) λhb h=>?_
  ·refine T ?_
   refine aG ?_
   exact kl (fuel1,av (at1+1))
  refine TC (λhb h=>?_) λhb h=>?_
  ·refine T ?_
   obtain⟨s2,hx4,h⟩:=ab h
   refine sI ?_
   have hI:=hI.add (c:=uy (Value.func (.func 155) #[] #[]) ob) ⟨rfl,λD' w' hs hl x_1 r k h=>CallV.fn (cap:=[]) Ou (zN hl af h)⟩
   refine sB h (λ_ k=>pS hI.lt FS k) (Rc Tryz.func154) λr2 w3 h hI=>?_
   refine T ?_
   refine aG ?_
   exact kl (fuel1,av (at1+r2))
  exact RF
 refine bl ?_
 refine eZ ?_
 refine aS ?_
 exact RF
theorem zM (hF:dF F w0) {r1:Int} (hc:AllCl [] F w0) {r:Bool} (h:je r1=some r):CR F w0 159 #[(Value.int .i32 r1)] (vb r) []:=by
 refine EN Tryz.func159 Tryz.ntmps159 hF hc λhI=>?_
 rw[je]at h
 refine T ?_
 refine aj (T ?_)
 refine aj (T ?_)
 refine TC (λhb h=>?_) λhb h=>?_
 ·refine TR λhb h=>?_
  exact RF
 refine TC (λhb h=>?_) λhb h=>?_
 ·refine TR λhb h=>?_
  exact RF
 refine TC (λhb h=>?_) λhb h=>?_
 ·refine TR λhb h=>?_
  exact RF
 refine TC (λhb h=>?_) λhb h=>?_
 ·refine TR λhb h=>?_
  exact RF
 refine TC (λhb h=>?_) λhb h=>?_
 ·refine TR λhb h=>?_
  exact RF
 refine TC (λhb h=>?_) λhb h=>?_
 ·refine TR λhb h=>?_
  exact RF
 refine TC (λhb h=>?_) λhb h=>?_
 ·refine TR λhb h=>?_
  exact RF
 refine TC (λhb h=>?_) λhb h=>?_
 ·refine TR λhb h=>?_
  exact RF
 refine TC (λhb h=>?_) λhb h=>?_
 ·refine TR λhb h=>?_
  exact RF
 refine TC (λhb h=>?_) λhb h=>?_
 ·refine TR λhb h=>?_
  exact RF
 refine TC (λhb h=>?_) λhb h=>?_
 ·refine TR λhb h=>?_
  exact RF
 refine TC (λhb h=>?_) λhb h=>?_
 ·refine TR λhb h=>?_
  exact RF
 refine TC (λhb h=>?_) λhb h=>?_
 ·refine TR λhb h=>?_
  exact RF
 refine TC (λhb h=>?_) λhb h=>?_
 ·refine TR λhb h=>?_
  exact RF
 refine TC (λhb h=>?_) λhb h=>?_
 ·refine TR λhb h=>?_
  exact RF
 refine TC (λhb h=>?_) λhb h=>?_
 ·refine TR λhb h=>?_
  exact RF
 refine TC (λhb h=>?_) λhb h=>?_
 ·refine TR λhb h=>?_
  exact RF
 refine TC (λhb h=>?_) λhb h=>?_
 ·refine TR λhb h=>?_
  exact RF
 refine TC (λhb h=>?_) λhb h=>?_
 ·refine TR λhb h=>?_
  exact RF
 refine TR λhb h=>?_
 exact RF
theorem C8 (hF:dF F w0) {s1:List UInt8} (hc:AllCl [] F w0) {r:Int×Int} (h:jE s1=some r):CR F w0 84 #[(str s1)] (Value.tuple #[vi r.1,vi r.2]) []:=by
 refine EN Tryz.func84 Tryz.ntmps84 hF hc λhI=>?_
 rw[jE]at h
 refine T ?_
 obtain⟨b1,hx1,h⟩:=ab h
 refine sI ?_
 refine T ?_
 refine aj (T ?_)
 refine sB h (λ_ k=>qy hI.lt trivial k) (Rc Tryz.func156) λr1 w1 h hI=>?_
 refine TC (λhb h=>?_) λhb h=>?_
 ·refine T ?_
  have hI:=hI.add (c:=uy (Value.func (.func 157) #[] #[]) ej) ⟨rfl,λD' w' hs hl x_1 r k h=>CallV.fn (cap:=[]) Jv (tZ hl af h)⟩
  refine sB h (λ_ k=>pS hI.lt FS k) (Rc Tryz.func154) λr2 w2 h hI=>?_
  exact RF
 refine T ?_
 refine sB h (λ_ k=>rk hI.lt trivial k) (Rc Tryz.func158) λr3 w3 h hI=>?_
 refine TC (λhb h=>?_) λhb h=>?_
 ·refine T ?_
  have hI:=hI.add (c:=uy (Value.func (.func 158) #[] #[]) fP) ⟨rfl,λD' w' hs hl x_1 r k h=>CallV.fn (cap:=[]) Ot (rk hl af h)⟩
  refine sB h (λ_ k=>pS hI.lt FS k) (Rc Tryz.func154) λr4 w4 h hI=>?_
  exact RF
 refine T ?_
 obtain⟨b2,hx10,h⟩:=ab h
 replace hx10:=ax hx10
 refine sJ ?_
 refine TR λhb h=>?_
 refine T ?_
 refine sB h (λ_ k=>zM hI.lt trivial k) (Rc Tryz.func159) λr5 w5 h hI=>?_
 refine TR λhb h=>?_
 exact RF
theorem rN (hF:dF F w0) {s1:List UInt8} (hc:AllCl [] F w0) {r:List bp×Int×Int} (h:es s1=some r):Cg 39 #[(str s1)] w0 λe w=>∃ a1 c1,e= .returned (Value.tuple #[vs a1 r.1.length c1,vi r.2.1,vi r.2.2])∧Ext w0 w∧AllCl [Cl.sl ag a1 c1 r.1] F w:=by
 refine EN Tryz.func39 Tryz.ntmps39 hF hc λhI=>?_
 rw[es]at h
 refine T ?_
 refine aj (T ?_)
 refine TC (λhb h=>?_) λhb h=>?_
 ·refine T ?_
  refine aO ?_
  have hI:=hI.add (c:=Cl.sl ag none 0 ([]:List bp)) SlC.nil
  obtain rfl:=ak h
  refine QG ?_
  exact⟨none,0,rfl,hI.ext0,hI.fin ⟨.z,af⟩⟩
 refine T ?_
 refine aj (T ?_)
 refine sB h (λ_ k=>wy hI.lt trivial k) (Rc Tryz.func83) λr1 w1 h hI=>?_
 refine T ?_
 have hI:=hI.nil ag 62 none
 refine bk (α:=Nat×(List bp)×Int×(Option Addr)×Nat) (λx=>λw=>∃ C,Bun cH F w0 C w [Q6 ag 62 (x.2.2.2.1) (x.2.2.2.2) (x.2.1)] []∧cG s1 (x.1) (x.2.1) (x.2.2.1)=some r) (λx _=>x.1) (λx=>[(0,(str s1)),(5,vs (x.2.2.2.1) (x.2.1).length (x.2.2.2.2)),(6,vi (x.2.2.1))]) (fu,([]:List bp),r1,none,0) BH SB ?_
 clear h hI;rintro⟨fuel1,lv,at1,a2,c2⟩ w2 ⟨c3,hI,h⟩
 dsimp only at hI h ⊢
 rcases fuel1 with _ | fuel1
 ·rw[cG]at h;cases h
 rw[cG]at h
 refine aj (T ?_)
 refine TC (λhb h=>?_) λhb h=>?_
 ·refine T ?_
  refine aj (T ?_)
  obtain⟨s2,hx3,h⟩:=ab h
  refine sI ?_
  refine sB h (λ_ k=>C8 hI.lt trivial k) (Rc Tryz.func84) λr2 w3 h hI=>?_
  refine T ?_
  refine aj (T ?_)
  refine TC (λhb h=>?_) λhb h=>?_
  ·refine T ?_
   refine aO ?_
   have hI:=hI.add (c:=Cl.sl ag none 0 ([]:List bp)) SlC.nil
   obtain rfl:=ak h
   refine QG ?_
   exact⟨none,0,rfl,hI.ext0,hI.fin ⟨.z,af⟩⟩
  refine TC (λhb h=>?_) λhb h=>?_
  ·refine T ?_
   refine aO ?_
   have hI:=hI.add (c:=Cl.sl ag none 0 ([]:List bp)) SlC.nil
   obtain rfl:=ak h
   refine QG ?_
   exact⟨none,0,rfl,hI.ext0,hI.fin ⟨.z,af⟩⟩
  refine T ?_
  obtain⟨s3,hx6,h⟩:=ab h
  refine sq (BE rfl u9 et et et hx6) ?_
  refine sq (aK (vs:=[(0,vi r2.1),(1,vi at1),(2,(str s3))]) (cs:=#[vi r2.1,vi at1,(str s3)]) rfl ⟨rfl,et,rfl,et,rfl,et,af⟩ (by kernel_rfl)) ?_
  refine ll hI ag ([⟨r2.1,at1,s3⟩]:List bp) yn Rr λb1 c4 w4 hI=>?_
  obtain⟨zs1,hx7,h⟩:=ab h
  refine qn (xs:=lv) (ys:=([⟨r2.1,at1,s3⟩]:List bp)) hI .p1 (hI.rd .z) hx7 gn rfl rfl QT yn rfl rfl et et ?_
  intro a3 c5 c6 w5 hI
  refine T ?_
  obtain⟨s4,hx8,h⟩:=ab h
  refine sI ?_
  refine sB h (λ_ k=>wy hI.lt trivial k) (Rc Tryz.func83) λr3 w6 h hI=>?_
  refine sq (nB rfl et et) ?_
  obtain⟨at2,hx11,h⟩:=ab h
  refine sq (vz (cx rfl et) (congrArg (Value.int .i64) (ak hx11))) ?_
  refine aG ?_
  exact kl (fuel1,zs1,at2,a3,c5)
 refine bl ?_
 refine eZ ?_
 refine aS ?_
 refine T ?_
 refine aO ?_
 obtain⟨c7,hI⟩:=hI.release .z
 obtain rfl:=ak h
 refine QG ?_
 exact⟨a2,c2,rfl,hI.ext0,hI.fin ⟨.z,af⟩⟩
theorem Aj (hF:dF F w0) {t1:bu} (hc:AllCl [] F w0) {r:Bool} (h:mK t1=some r):CR F w0 229 #[(Value.agg (fV t1))] (vb r) []:=by
 refine EN Tryz.func229 Tryz.ntmps229 hF hc λhI=>?_
 rw[mK]at h
 refine sr (lX λb1 c2 w1 hI=>?_)
 refine T ?_
 refine sq (am (l:=(bU t1)) rfl et qF rfl bN (hI.kblk (l:=(bU t1)) .z rfl).1) ?_
 refine T ?_
 refine sq (aK (vs:=[(0,vi t1.Kind)]) (cs:=#[vi t1.Kind,vi 0,vi 0,vi 0,vi 0]) rfl ⟨rfl,et,af⟩ (by kernel_rfl)) ?_
 refine sq (iT rfl et et (tN ..) (oK ..)) ?_
 exact RF
theorem pm (hF:dF F w0) {t1:bu} (hc:AllCl [] F w0) {r:Int} (h:gk t1=some r):CR F w0 230 #[(Value.agg (fV t1))] (vi r) []:=by
 refine EN Tryz.func230 Tryz.ntmps230 hF hc λhI=>?_
 rw[gk]at h
 refine sr (lX λb1 c2 w1 hI=>?_)
 refine xp ?_
 refine nk (sr (sq (aq rfl et qF rfl jQ rfl) ?_))
 refine sq (aF (v:=(vi t1.Round)) rfl et u3 rfl (hI.kblk (l:=[vi t1.Round]) .z rfl).1) ?_
 refine sq (IC rfl et ah) ?_
 refine sm ?_
 refine aw (bg rfl rfl rfl rfl) rfl (λhc=>aq rfl et qF rfl jQ rfl) ?_
 refine aw (bg rfl rfl rfl rfl) rfl (λhc=>(aF (v:=(vi t1.Round)) rfl (aI et hc) u3 rfl (hI.kblk (l:=[vi t1.Round]) .z rfl).1)) ?_
 refine aw (bg rfl rfl rfl rfl) rfl (λhc=>AU rfl (aI et hc) ah) ?_
 refine sq (tq rfl et et) ?_
 refine sm ?_
 refine aw (bg rfl rfl rfl rfl) rfl (λhc=>aq rfl et qF rfl jQ rfl) ?_
 refine aw (bg rfl rfl rfl rfl) rfl (λhc=>(aF (v:=(vi t1.Over)) rfl (aI et hc) u3 rfl (hI.kblk (l:=[vi t1.Over]) .z rfl).1)) ?_
 refine aw (bg rfl rfl rfl rfl) rfl (λhc=>Gr rfl (aI et hc) ah) ?_
 refine aw (bg rfl rfl rfl rfl) rfl (λhc=>fC rfl (aI et hc)) ?_
 refine aw (gV rfl rfl rfl rfl) rfl (λhc=>aq rfl et qF rfl jQ rfl) ?_
 refine aw (gV rfl rfl rfl rfl) rfl (λhc=>(aF (v:=(vi t1.Over)) rfl (aI et hc) u3 rfl (hI.kblk (l:=[vi t1.Over]) .z rfl).1)) ?_
 refine aw (gV rfl rfl rfl rfl) rfl (λhc=>Gr rfl (aI et hc) ah) ?_
 refine aw (bg rfl rfl rfl rfl) rfl (λhc=>DC rfl hc et et) ?_
 refine sq (tq rfl et et) ?_
 obtain⟨modes1,hx1,h⟩:=ab h
 refine sq (vz (cx rfl et) (congrArg Value.bool (ak hx1))) ?_
 refine nk (aj (T ?_))
 refine TR λhb h=>?_
 exact RF
theorem jK (hF:dF F w0) {t1:bu} (hc:AllCl [] F w0) {r:Int} (h:dR t1=some r):CR F w0 202 #[(Value.agg (fV t1))] (vi r) []:=by
 refine EN Tryz.func202 Tryz.ntmps202 hF hc λhI=>?_
 rw[dR]at h
 refine sr (lX λb1 c2 w1 hI=>?_)
 refine T ?_
 refine aj (T ?_)
 refine bO (α:=Bool) (λ_=>⟨15,[]⟩) (λx=>[(1,vp b1 0),(4,vi t1.Kind),(5,vb x)]) (λx=>λw=>∃ C,Bun cH F w0 C w [] [Cl.blk b1 35 (fV t1)]∧gc t1 x=some r) ?_ ?_
 ·clear h hI;rintro i1 w2 ⟨c3,hI,h⟩
  try dsimp only at hI h ⊢
  rw[gc]at h
  refine TC (λhb h=>?_) λhb h=>?_
  ·refine sr (sq (am (l:=(bU t1)) rfl et qF rfl bN (hI.kblk (l:=(bU t1)) .z rfl).1) ?_)
   refine sB h (λ_ k=>Aj hI.lt trivial k) (Rc Tryz.func229) λr1 w3 h hI=>?_
   refine TR λhb h=>?_
   exact RF
  refine TC (λhb h=>?_) λhb h=>?_
  ·refine sr (sq (am (l:=(bU t1)) rfl et qF rfl bN (hI.kblk (l:=(bU t1)) .z rfl).1) ?_)
   refine sB h (λ_ k=>pm hI.lt trivial k) (Rc Tryz.func230) λr2 w4 h hI=>?_
   refine TR λhb h=>?_
   exact RF
  exact RF
 refine TC (λhb h=>?_) λhb h=>?_
 ·exact aZ (bI (decide (t1.Kind=1)) SB BH rfl)
 refine T ?_
 refine aG ?_
 exact kj (decide (t1.Kind=3))
theorem qB (hF:dF F w0) {s1 sep1:List UInt8} (hc:AllCl [] F w0) {r:List UInt8×List UInt8×Bool} (h:gC s1 sep1=some r):CR F w0 268 #[(str s1),(str sep1)] (Value.tuple #[(str r.1),(str r.2.1),vb r.2.2]) []:=by
 refine EN Tryz.func268 Tryz.ntmps268 hF hc λhI=>?_
 rw[gC]at h
 refine T ?_
 refine aj (T ?_)
 obtain⟨r1,hx1,h⟩:=ab h
 refine bf gn rfl (ar (vs:=[(str s1),(str sep1)]) rfl NV ⟨et,et,af⟩) (Calls.mono (pD (Dj F cH) w0 hI.lt s1 sep1 trivial r1 hx1) ?_)
 rintro _ w1 ⟨rfl,hx2,hl1⟩
 refine⟨_,rfl,?_⟩
 replace hI:=(hI.ext hx2)
 refine TC (λhb h=>?_) λhb h=>?_
 ·refine aj (aL [] false (.c (0,.q) (.c (1,.q) (.c (2,.q) (.c (3,.q) (.c (4,.q) (.c (5,.q) (.c (6,.q) (.c (7,.q) (.c (8,.q) (.c (9,.q) (.c (10,.q) (.c (11,.q) .n)))))))))))) hI (by kernel_rfl) (by kernel_rfl) ?_)
  intro w2 hI
  refine V ?_
  obtain⟨s2,hx3,h⟩:=ab h
  refine vI ?_
  refine V ?_
  obtain⟨s3,hx4,h⟩:=ab h
  refine vI ?_
  refine V ?_
  exact RF
 exact RF
theorem Am (hF:dF F w0) {s1 sep1:List UInt8} (hc:AllCl [] F w0) {r:List UInt8×List UInt8×Bool} (h:mN s1 sep1=some r):CR F w0 264 #[(str s1),(str sep1)] (Value.tuple #[(str r.1),(str r.2.1),vb r.2.2]) []:=by
 refine EN Tryz.func264 Tryz.ntmps264 hF hc λhI=>?_
 rw[mN]at h
 refine T ?_
 refine sB h (λ_ k=>qB hI.lt trivial k) (Rc Tryz.func268) λr1 w1 h hI=>?_
 exact RF
theorem ox (hF:dF F w0) {s1 prefix1:List UInt8} (hc:AllCl [] F w0) {r:Bool} (h:eJ s1 prefix1=some r):CR F w0 272 #[(str s1),(str prefix1)] (vb r) []:=by
 refine EN Tryz.func272 Tryz.ntmps272 hF hc λhI=>?_
 rw[eJ]at h
 refine T ?_
 obtain⟨s2,hx1,h⟩:=ab h
 replace hx1:=ax hx1
 refine sJ ?_
 exact RF
theorem oy (hF:dF F w0) {s1 prefix1:List UInt8} (hc:AllCl [] F w0) {r:List UInt8×Bool} (h:eK s1 prefix1=some r):CR F w0 269 #[(str s1),(str prefix1)] (Value.tuple #[(str r.1),vb r.2]) []:=by
 refine EN Tryz.func269 Tryz.ntmps269 hF hc λhI=>?_
 rw[eK]at h
 refine T ?_
 refine aj (T ?_)
 refine sB h (λ_ k=>ox hI.lt trivial k) (Rc Tryz.func272) λr1 w1 h hI=>?_
 refine TR λhb h=>?_
 refine T ?_
 obtain⟨s2,hx3,h⟩:=ab h
 refine sI ?_
 exact RF
theorem uD (hF:dF F w0) {s1 prefix1:List UInt8} (hc:AllCl [] F w0) {r:List UInt8×Bool} (h:iH s1 prefix1=some r):CR F w0 265 #[(str s1),(str prefix1)] (Value.tuple #[(str r.1),vb r.2]) []:=by
 refine EN Tryz.func265 Tryz.ntmps265 hF hc λhI=>?_
 rw[iH]at h
 refine T ?_
 refine sB h (λ_ k=>oy hI.lt trivial k) (Rc Tryz.func269) λr1 w1 h hI=>?_
 exact RF
theorem ua (hF:dF F w0) {s1:List UInt8} (hc:AllCl [] F w0) {r:Bool} (h:kr s1=some r):CR F w0 266 #[(str s1)] (vb r) []:=by
 refine EN Tryz.func266 Tryz.ntmps266 hF hc λhI=>?_
 rw[kr]at h
 refine T ?_
 refine bO (α:=Unit) (λ_=>⟨31,[]⟩) (λ_=>[(0,(str s1))]) (λ_=>λw=>∃ C,Bun cH F w0 C w [] []∧jG s1=some r) ?_ ?_
 ·clear h hI;rintro _ w1 ⟨c1,hI,h⟩
  try dsimp only at hI h ⊢
  rw[jG]at h
  refine T ?_
  obtain⟨b1,hx1,h⟩:=ab h
  replace hx1:=ax hx1
  refine sJ ?_
  exact RF
 refine T ?_
 refine bk (α:=Nat×Int) (λx=>λw=>∃ C,Bun cH F w0 C w [] []∧iz s1 (x.1) (x.2)=some r) (λx _=>x.1) (λx=>[(0,(str s1)),(3,vi (x.2))]) (fu,0) BH SB ?_
 clear h hI;rintro⟨fuel1,i1⟩ w2 ⟨c2,hI,h⟩
 dsimp only at hI h ⊢
 rcases fuel1 with _ | fuel1
 ·rw[iz]at h;cases h
 rw[iz]at h
 refine aj (T ?_)
 refine TC (λhb h=>?_) λhb h=>?_
 ·refine T ?_
  refine aj (T ?_)
  obtain⟨b2,hx2,h⟩:=ab h
  refine sI ?_
  refine T ?_
  obtain⟨b3,hx3,h⟩:=ab h
  replace hx3:=ax hx3
  refine sJ ?_
  refine TR λhb h=>?_
  refine T ?_
  refine aG ?_
  exact kl (fuel1,av (i1+1))
 refine bl ?_
 refine eZ ?_
 exact kj ()
theorem ub (hF:dF F w0) {s1:List UInt8} (hc:AllCl [] F w0) {r:Int×Bool} (h:ku s1=some r):CR F w0 267 #[(str s1)] (Value.tuple #[vi r.1,vb r.2]) []:=by
 refine EN Tryz.func267 Tryz.ntmps267 hF hc λhI=>?_
 rw[ku]at h
 refine T ?_
 refine aj (T ?_)
 refine TR λhb h=>?_
 refine T ?_
 obtain⟨r1,hx1,h⟩:=ab h
 refine bf gn rfl (Rc Tryz.func270) (Calls.mono (vw (Dj F cH) w0 hI.lt s1 10 64 trivial r1 hx1) ?_)
 rintro _ w1 ⟨v1,rfl,hx2,hl1⟩
 refine⟨_,rfl,?_⟩
 replace hI:=(hI.ext hx2)
 exact RF
theorem zO (hF:dF F w0) {n1:Int} (hc:AllCl [] F w0) {r:Bool} (h:l9 n1=some r):CR F w0 233 #[vi n1] (vb r) []:=by
 refine EN Tryz.func233 Tryz.ntmps233 hF hc λhI=>?_
 rw[l9]at h
 exact RF
theorem xg (hF:dF F w0) {n1:Int} (hc:AllCl [] F w0) {r:Int} (h:kq n1=some r):CR F w0 235 #[vi n1] (Value.int .u64 r) []:=by
 refine EN Tryz.func235 Tryz.ntmps235 hF hc λhI=>?_
 rw[kq]at h
 refine T ?_
 refine aj (T ?_)
 refine TR λhb h=>?_
 exact RF
theorem F8 (hF:dF F w0) {a1 b1:Int} (hc:AllCl [] F w0) {r:Int} (h:sf a1 b1=some r):CR F w0 234 #[(Value.int .u64 a1),(Value.int .u64 b1)] (Value.int .u64 r) []:=by
 refine EN Tryz.func234 Tryz.ntmps234 hF hc λhI=>?_
 rw[sf]at h
 refine T ?_
 refine aj (T ?_)
 refine bk (α:=Nat×Int×Int) (λx=>λw=>∃ C,Bun cH F w0 C w [] []∧lp (x.1) (x.2.1) (x.2.2)=some r) (λx _=>x.1) (λx=>[(0,(Value.int .u64 (x.2.1))),(1,(Value.int .u64 (x.2.2)))]) (fu,a1,b1) BH SB ?_
 clear h hI;rintro⟨fuel1,a2,b2⟩ w1 ⟨c1,hI,h⟩
 dsimp only at hI h ⊢
 rcases fuel1 with _ | fuel1
 ·rw[lp]at h;cases h
 rw[lp]at h
 refine aj (T ?_)
 refine TC (λhb h=>?_) λhb h=>?_
 ·refine T ?_
  refine aL [] false (.c (0,.q) (.c (1,.q) (.c (2,.q) (.c (3,.q) (.c (4,.q) (.c (5,.q) .n)))))) hI (by kernel_rfl) (by kernel_rfl) ?_
  intro w2 hI
  refine V ?_
  obtain⟨ho1,h⟩:=fT h
  refine iq rfl gn rfl (λw'=>yr rfl et et ho1) ?_
  refine V ?_
  refine pp ?_
  exact kl (fuel1,b2,Int.tmod a2 b2)
 refine bl ?_
 refine eZ ?_
 refine aS ?_
 exact RF
theorem wA (hF:dF F w0) {v1:co} (hc:AllCl [] F w0) {r:Bool} (h:mt v1=some r):CR F w0 207 #[(Value.agg (sT v1))] (vb r) []:=by
 refine EN Tryz.func207 Tryz.ntmps207 hF hc λhI=>?_
 rw[mt]at h
 refine sr (lX λb1 c2 w1 hI=>?_)
 refine T ?_
 refine aj (aL [] false (.c (0,.q) (.c (1,.q) (.c (2,.q) (.c (3,.q) (.c (4,.q) (.c (5,.q) (.c (6,.q) (.c (7,.q) (.c (8,.q) (.c (9,.q) (.c (10,.q) (.c (11,.s) (.c (12,.q) (.c (13,.q) (.c (14,.q) (.c (15,.q) (.c (17,.q) (.c (18,.q) (.c (19,.q) (.c (16,.s) (.c (20,.s) (.c (21,.q) (.c (22,.q) (.c (23,.q) .n)))))))))))))))))))))))) hI (by kernel_rfl) (by kernel_rfl) ?_)
 intro w2 hI
 refine V ?_
 obtain⟨r1,hx1,h⟩:=ab h
 replace hx1:=ax hx1
 refine my (v:=(vb r1)) rfl (bg rfl rfl rfl rfl) rfl (λhc=>(ar (vs:=[vi v1.N]) rfl NZ ⟨(aI et hc),af⟩)) (λhc=>(zO hI.lt af (hx1 hc)).mono λ_ _ k=>⟨k.1,k.2.1⟩) ?_
 intro w3 hx2;replace hI:=hI.ext hx2
 refine V ?_
 obtain⟨r2,hx3,h⟩:=ab h
 replace hx3:=ax hx3
 refine my (v:=(Value.int .u64 r2)) rfl (bg rfl rfl rfl rfl) rfl (λhc=>(ar (vs:=[vi v1.N]) rfl NX ⟨(aI et hc),af⟩)) (λhc=>(xg hI.lt af (hx3 hc)).mono λ_ _ k=>⟨k.1,k.2.1⟩) ?_
 intro w4 hx4;replace hI:=hI.ext hx4
 obtain⟨r3,hx5,h⟩:=ab h
 replace hx5:=ax hx5
 refine my (v:=(Value.int .u64 r3)) rfl (bg rfl rfl rfl rfl) rfl (λhc=>(ar (vs:=[(Value.int .u64 r2),(Value.int .u64 (fi v1.D))]) rfl NY ⟨(aI et hc),(aI et hc),af⟩)) (λhc=>(F8 hI.lt af (hx5 hc)).mono λ_ _ k=>⟨k.1,k.2.1⟩) ?_
 intro w5 hx6;replace hI:=hI.ext hx6
 refine V ?_
 exact RF
theorem Da (hF:dF F w0) {s1:List UInt8} (hc:AllCl [] F w0) {r:co×Int} (h:oc s1=some r):CR F w0 263 #[(str s1)] (Value.tuple #[(Value.agg (sT r.1)),vi r.2]) []:=by
 refine EN Tryz.func263 Tryz.ntmps263 hF hc λhI=>?_
 rw[oc]at h
 refine sr (cY (cs:=#[vi 0,vi 0]) hI gn rfl rfl BC rfl ?_)
 intro b1 c1 w1 hI
 refine T ?_
 refine sB h (λ_ k=>Am hI.lt trivial k) (Rc Tryz.func264) λr1 w2 h hI=>?_
 refine T ?_
 refine sB h (λ_ k=>uD hI.lt trivial k) (Rc Tryz.func265) λr2 w3 h hI=>?_
 refine T ?_
 refine aj (T ?_)
 refine sB h (λ_ k=>ua hI.lt trivial k) (Rc Tryz.func266) λr3 w4 h hI=>?_
 refine TC (λhb h=>?_) λhb h=>?_
 ·refine sr (sq (aK (vs:=[]) (cs:=#[vi 0,vi 0]) rfl trivial (by kernel_rfl)) ?_)
  refine lA λc2 w5 hI=>?_
  exact RQ
 refine T ?_
 refine bO (α:=(List UInt8)) (λ_=>⟨78,[]⟩) (λx=>[(2,vp b1 0),(5,(str x)),(7,(str r2.1)),(8,vb r2.2)]) (λx=>λw=>∃ C,Bun cH F w0 C w [MO.box b1 33 #[vi 0,vi 0]] []∧ju r2 x=some r) ?_ ?_
 ·clear h hI;rintro bottom1 w6 ⟨c3,hI,h⟩
  try dsimp only at hI h ⊢
  rw[ju]at h
  refine T ?_
  refine sB h (λ_ k=>ub hI.lt trivial k) (Rc Tryz.func267) λr4 w7 h hI=>?_
  refine T ?_
  refine sB h (λ_ k=>ub hI.lt trivial k) (Rc Tryz.func267) λr5 w8 h hI=>?_
  refine T ?_
  refine aj (T ?_)
  refine TC (λhb h=>?_) λhb h=>?_
  ·refine sr (sq (aK (vs:=[]) (cs:=#[vi 0,vi 0]) rfl trivial (by kernel_rfl)) ?_)
   refine lA λc4 w9 hI=>?_
   exact RQ
  refine T ?_
  refine bO (α:=Int) (λ_=>⟨78,[]⟩) (λx=>[(2,vp b1 0),(9,vi x),(11,vi r5.1)]) (λx=>λw=>∃ C,Bun cH F w0 C w [MO.box b1 33 #[vi 0,vi 0]] []∧lg r5 x=some r) ?_ ?_
  ·clear h hI;rintro n1 w10 ⟨c5,hI,h⟩
   try dsimp only at hI h ⊢
   rw[lg]at h
   refine T ?_
   refine sq (aK (vs:=[(0,vi n1),(1,vi r5.1)]) (cs:=#[vi n1,vi r5.1]) rfl ⟨rfl,et,rfl,et,af⟩ (by kernel_rfl)) ?_
   refine lN λb2 c6 w11 hI=>?_
   refine lA λc7 w12 hI=>?_
   refine nk (aj (T ?_))
   refine sB h (λ_ k=>wA hI.lt trivial k) (Rc Tryz.func207) λr6 w13 h hI=>?_
   refine TC (λhb h=>?_) λhb h=>?_
   ·refine sr (sq (aK (vs:=[]) (cs:=#[vi 0,vi 0]) rfl trivial (by kernel_rfl)) ?_)
    refine lA λc8 w14 hI=>?_
    exact RQ
   refine T ?_
   refine lA λc9 w15 hI=>?_
   exact RQ
  refine TC (λhb h=>?_) λhb h=>?_
  ·refine T ?_
   refine aG ?_
   exact kj (av (-r4.1))
  exact aZ (bI r4.1 SB BH rfl)
 refine TC (λhb h=>?_) λhb h=>?_
 ·refine T ?_
  refine aG ?_
  exact kj ([49]:List UInt8)
 refine T ?_
 refine sB h (λ_ k=>ua hI.lt trivial k) (Rc Tryz.func266) λr7 w16 h hI=>?_
 refine TC (λhb h=>?_) λhb h=>?_
 ·refine sr (sq (aK (vs:=[]) (cs:=#[vi 0,vi 0]) rfl trivial (by kernel_rfl)) ?_)
  refine lA λc10 w17 hI=>?_
  exact RQ
 exact aZ (bI r1.2.1 SB BH rfl)
theorem uU (hF:dF F w0) {bits1:Int} (hc:AllCl [] F w0) {r:Bool} (h:lk bits1=some r):CR F w0 243 #[vi bits1] (vb r) []:=by
 refine EN Tryz.func243 Tryz.ntmps243 hF hc λhI=>?_
 rw[lk]at h
 exact RF
theorem zu (hF:dF F w0) {bits1:Int} (hc:AllCl [] F w0) {r:Int} (h:lO bits1=some r):CR F w0 231 #[vi bits1] (vi r) []:=by
 refine EN Tryz.func231 Tryz.ntmps231 hF hc λhI=>?_
 rw[lO]at h
 refine T ?_
 refine aj (T ?_)
 refine sB h (λ_ k=>uU hI.lt trivial k) (Rc Tryz.func243) λr1 w1 h hI=>?_
 refine TR λhb h=>?_
 refine T ?_
 obtain⟨ho1,h⟩:=fT h
 refine sq (DB rfl ah et ho1) ?_
 exact RF
theorem zw (hF:dF F w0) {bits1:Int} (hc:AllCl [] F w0) {r:Int} (h:lP bits1=some r):CR F w0 232 #[vi bits1] (vi r) []:=by
 refine EN Tryz.func232 Tryz.ntmps232 hF hc λhI=>?_
 rw[lP]at h
 refine T ?_
 refine aj (T ?_)
 refine sB h (λ_ k=>uU hI.lt trivial k) (Rc Tryz.func243) λr1 w1 h hI=>?_
 refine TR λhb h=>?_
 refine T ?_
 obtain⟨ho1,h⟩:=fT h
 refine sq (DB rfl ah et ho1) ?_
 exact RF
theorem u0 (hF:dF F w0) {t1:bu} {v1:co} (hc:AllCl [] F w0) {r:Bool} (h:lq t1 v1=some r):CR F w0 205 #[(Value.agg (fV t1)),(Value.agg (sT v1))] (vb r) []:=by
 refine EN Tryz.func205 Tryz.ntmps205 hF hc λhI=>?_
 rw[lq]at h
 refine sr (lX λb1 c2 w1 hI=>?_)
 refine lX λb2 c4 w2 hI=>?_
 refine T ?_
 refine aj (aL [] false (.c (0,.q) (.c (1,.s) (.c (2,.q) (.c (3,.q) (.c (4,.q) (.c (5,.q) (.c (6,.q) (.c (7,.q) (.c (8,.q) (.c (9,.q) (.c (10,.q) (.c (11,.q) (.c (12,.q) (.c (13,.s) (.c (14,.q) (.c (15,.q) (.c (16,.q) (.c (17,.q) (.c (18,.q) (.c (19,.q) (.c (20,.q) (.c (21,.s) (.c (22,.q) (.c (23,.q) (.c (24,.q) .n))))))))))))))))))))))))) hI (by kernel_rfl) (by kernel_rfl) ?_)
 intro w3 hI
 refine dl rfl gn rfl (λw' hw'=>(am (l:=(bU t1)) rfl et qF rfl bN ((hI.kblk (l:=(bU t1)) .p1 rfl).at_ (SX.any rfl hw')))) (by kernel_rfl) ?_
 obtain⟨r1,hx1,h⟩:=ab h
 refine bF rfl gn rfl (ar (vs:=[(Value.agg (fV t1))]) rfl N2 ⟨et,af⟩) (Calls.mono (pm hI.lt af hx1) ?_)
 rintro _ w4 ⟨rfl,hx2,hl1⟩
 refine⟨_,rfl,hx2,?_⟩
 replace hI:=(hI.ext hx2)
 refine V ?_
 obtain⟨r2,hx3,h⟩:=ab h
 replace hx3:=ax hx3
 refine my (v:=(vi r2)) rfl (bg rfl rfl rfl rfl) rfl (λhc=>(ar (vs:=[vi t1.Bits]) rfl N1 ⟨(aI et hc),af⟩)) (λhc=>(zu hI.lt af (hx3 hc)).mono λ_ _ k=>⟨k.1,k.2.1⟩) ?_
 intro w5 hx4;replace hI:=hI.ext hx4
 refine V ?_
 obtain⟨r3,hx5,h⟩:=ab h
 replace hx5:=ax hx5
 refine my (v:=(vi r3)) rfl (bg rfl rfl rfl rfl) rfl (λhc=>(ar (vs:=[vi t1.Bits]) rfl N0 ⟨(aI et hc),af⟩)) (λhc=>(zw hI.lt af (hx5 hc)).mono λ_ _ k=>⟨k.1,k.2.1⟩) ?_
 intro w6 hx6;replace hI:=hI.ext hx6
 refine V ?_
 exact RF
theorem Al (hF:dF F w0) {t1:bu} {s1:List UInt8} (hc:AllCl [] F w0) {r:co×Int} (h:mM t1 s1=some r):CR F w0 260 #[(Value.agg (fV t1)),(str s1)] (Value.tuple #[(Value.agg (sT r.1)),vi r.2]) []:=by
 refine EN Tryz.func260 Tryz.ntmps260 hF hc λhI=>?_
 rw[mM]at h
 refine sr (lX λb1 c2 w1 hI=>?_)
 refine lN λb2 c3 w2 hI=>?_
 refine T ?_
 refine aj (sr (sq (am (l:=(bU t1)) rfl et qF rfl bN (hI.kblk (l:=(bU t1)) .z rfl).1) ?_))
 refine sB h (λ_ k=>jK hI.lt trivial k) (Rc Tryz.func202) λr1 w3 h hI=>?_
 refine TC (λhb h=>?_) λhb h=>?_
 ·refine sr (sq (aK (vs:=[]) (cs:=#[vi 0,vi 0]) rfl trivial (by kernel_rfl)) ?_)
  refine lA λc4 w4 hI=>?_
  exact RQ
 refine T ?_
 refine sB h (λ_ k=>Da hI.lt trivial k) (Rc Tryz.func263) λr2 w5 h hI=>?_
 refine T ?_
 refine lN λb3 c5 w6 hI=>?_
 refine lA λc6 w7 hI=>?_
 refine T ?_
 refine aj (T ?_)
 refine TC (λhb h=>?_) λhb h=>?_
 ·refine sr (sq (aK (vs:=[]) (cs:=#[vi 0,vi 0]) rfl trivial (by kernel_rfl)) ?_)
  refine sm ?_
  refine lA λc7 w8 hI=>?_
  exact RQ
 refine T ?_
 refine aj (T ?_)
 refine TC (λhb h=>?_) λhb h=>?_
 ·refine TC (λhb h=>?_) λhb h=>?_
  ·refine sr (sq (aK (vs:=[]) (cs:=#[vi 0,vi 0]) rfl trivial (by kernel_rfl)) ?_)
   refine lA λc8 w9 hI=>?_
   exact RQ
  refine T ?_
  refine lA λc9 w10 hI=>?_
  exact RQ
 refine TC (λhb h=>?_) λhb h=>?_
 ·refine T ?_
  obtain⟨ho1,h⟩:=fT h
  refine sq (DB rfl ah et ho1) ?_
  obtain⟨one1,hx5,h⟩:=ab h
  refine sq (vz (cx rfl et) (congrArg (Value.int .i64) (ak hx5))) ?_
  refine nk (aj (T ?_))
  obtain⟨ho2,h⟩:=fT h
  refine sq (yr rfl et et ho2) ?_
  refine TC (λhb h=>?_) λhb h=>?_
  ·refine sr (sq (aK (vs:=[]) (cs:=#[vi 0,vi 0]) rfl trivial (by kernel_rfl)) ?_)
   refine lA λc10 w11 hI=>?_
   exact RQ
  refine T ?_
  refine aj (aL [8] false (.c (0,.q) (.c (1,.q) (.c (2,.q) (.c (3,.q) (.c (4,.q) (.c (5,.q) (.c (6,.q) (.c (7,.q) (.c (8,.s) .n))))))))) hI (by kernel_rfl) (by kernel_rfl) ?_)
  intro w12 hI
  refine V ?_
  refine iq rfl gn rfl (λw'=>AR rfl et et ho2) ?_
  refine V ?_
  refine iq rfl gn rfl (λw'=>(aK (vs:=[(0,(vi (av (r2.1.N * (av (Int.tdiv one1 r2.1.D)))))),(1,vi 1)]) (cs:=#[(vi (av (r2.1.N * (av (Int.tdiv one1 r2.1.D))))),vi 1]) rfl ⟨rfl,et,rfl,ah,af⟩ (by kernel_rfl))) ?_
  refine gQ (F:=F) (C:=c6) rfl rfl ?_
  refine vA λc11 w13 hI=>?_
  refine V ?_
  refine sr (sq (am (l:=(bU t1)) rfl et qF rfl bN (hI.kblk (l:=(bU t1)) .z rfl).1) ?_)
  refine T ?_
  refine sB h (λ_ k=>u0 hI.lt trivial k) (Rc Tryz.func205) λr3 w14 h hI=>?_
  refine TC (λhb h=>?_) λhb h=>?_
  ·refine sr (sq (aK (vs:=[]) (cs:=#[vi 0,vi 0]) rfl trivial (by kernel_rfl)) ?_)
   refine lA λc12 w15 hI=>?_
   exact RQ
  refine T ?_
  refine lA λc13 w16 hI=>?_
  exact RQ
 refine T ?_
 refine lA λc14 w17 hI=>?_
 exact RQ
abbrev Qs1 (f_:(ae→Int→Option Int)):Prop:=∀ ⦃F:NP⦄ ⦃w0:World⦄ (hF:dF F w0) ⦃e1:ae⦄ ⦃limit1:Int⦄ ⦃a1 a2 a3:Option Addr⦄ ⦃c1 c2 c3:Nat⦄ (hc:AllCl [Cl.sl ai a1 c1 e1.Lin.L,Cl.sl al a2 c2 e1.Idx,Cl.sl an a3 c3 e1.Args] F w0) ⦃r:Int⦄ (h:f_ e1 limit1=some r),CR F w0 141 #[(Value.agg (aA e1 a1 c1 a2 c2 a3 c3)),vi limit1] (vi r) []
theorem zR {rec_:(ae→Int→Option Int)} (hrec:Qs1 rec_) (hF:dF F w0) {e1:ae} {limit1:Int} (hc:AllCl [Cl.sl ai a1 c1 e1.Lin.L,Cl.sl al a2 c2 e1.Idx,Cl.sl an a3 c3 e1.Args] F w0) {r:Int} (h:ma rec_ e1 limit1=some r):CR F w0 141 #[(Value.agg (aA e1 a1 c1 a2 c2 a3 c3)),vi limit1] (vi r) []:=by
 refine EN Tryz.func141 Tryz.ntmps141 hF hc λhI=>?_
 rw[ma]at h
 refine sr (lX λb1 c5 w1 hI=>?_)
 refine T ?_
 refine aj (T ?_)
 refine TR λhb h=>?_
 refine T ?_
 refine aj (T ?_)
 refine bk (α:=Nat×Int×Int) (λx=>λw=>∃ C,Bun cH F w0 C w [] [Cl.sl an a3 c3 e1.Args]∧gL e1 rec_ limit1 (x.1) (x.2.1) (x.2.2)=some r) (λx _=>x.1) (λx=>[(1,vi limit1),(5,vi (x.2.1)),(12,vs a3 e1.Args.length c3),(13,vi (e1.Args.length:Int)),(14,vi (x.2.2))]) (fu,1,0) BH SB ?_
 clear h hI;rintro⟨fuel1,d1,i1⟩ w2 ⟨c6,hI,h⟩
 dsimp only at hI h ⊢
 rcases fuel1 with _ | fuel1
 ·rw[gL]at h;cases h
 rw[gL]at h
 refine T ?_
 refine aj (E7 h et (λhb h=>?_) (λhb h=>?_))
 ·refine T ?_
  refine aj (T ?_)
  obtain⟨e2,hx1,h⟩:=ab h
  obtain⟨ad1,cs1,hA1,hr1,hq1⟩:=hI.clat .z hx1
  obtain⟨a4,c7,a5,c8,a6,c9,rfl,hf1,hf2,hf3⟩:=ci hr1
  have hI:=hI.ads hf1
  have hI:=hI.ads hf2
  have hI:=hI.ads hf3
  refine sI ?_
  refine T ?_
  refine lN λb2 c10 w3 hI=>?_
  refine lA λc11 w4 hI=>?_
  refine T ?_
  refine sB h (λ_ k=>hrec hI.lt FS k) (Rc Tryz.func141) λr1 w5 h hI=>?_
  refine T ?_
  refine sq (Iz rfl et et) ?_
  refine T ?_
  refine aG ?_
  exact kl (fuel1,max d1 (av (1+r1)),av (i1+1))
 refine bl ?_
 refine eZ ?_
 refine aS ?_
 exact RF
theorem zQ (n:Nat):Qs1 (kz n):=by
 induction n with
 | zero=>intro F;intros;rename_i h;cases h
 | succ n ih=>intro F;intros;apply zR ih<;>assumption
theorem De:Qs1 (sg):=zQ fu
theorem Df (hF:dF F w0) {e1:ae} (hc:AllCl [Cl.sl ai a1 c1 e1.Lin.L,Cl.sl al a2 c2 e1.Idx,Cl.sl an a3 c3 e1.Args] F w0) {r:Int} (h:pP e1=some r):CR F w0 76 #[(Value.agg (aA e1 a1 c1 a2 c2 a3 c3))] (vi r) []:=by
 refine EN Tryz.func76 Tryz.ntmps76 hF hc λhI=>?_
 rw[pP]at h
 refine sr (lX λb1 c5 w1 hI=>?_)
 refine T ?_
 refine sq (am (l:=(ba e1 a1 c1 a2 c2 a3 c3)) rfl et jZ rfl aJ (hI.kblk (l:=(ba e1 a1 c1 a2 c2 a3 c3)) .z rfl).1) ?_
 refine sB h (λ_ k=>De hI.lt FS k) (Rc Tryz.func141) λr1 w2 h hI=>?_
 exact RF
theorem xM (hF:dF F w0) {e1:ae} (hc:AllCl [Cl.sl ai a1 c1 e1.Lin.L,Cl.sl al a2 c2 e1.Idx,Cl.sl an a3 c3 e1.Args] F w0) {r:ae} (h:mb e1=some r):Cg 78 #[(Value.agg (aA e1 a1 c1 a2 c2 a3 c3))] w0 λe w=>∃ b1 a4 c4 a5 c5 a6 c6,e= .returned (Value.func (.func 142) #[] #[vp b1 0])∧Ext w0 w∧AllCl [Cl.sl ai a4 c4 r.Lin.L,Cl.sl al a5 c5 r.Idx,Cl.sl an a6 c6 r.Args,Cl.blk b1 39 (aA r a4 c4 a5 c5 a6 c6)] F w:=by
 refine EN Tryz.func78 Tryz.ntmps78 hF hc λhI=>?_
 rw[mb]at h
 refine sr (lX λb2 c8 w1 hI=>?_)
 refine T ?_
 refine sq (np (vs:=[]) (cap:=[vp b2 0]) rfl rfl ⟨et,af⟩) ?_
 refine T ?_
 refine aO ?_
 obtain rfl:=ak h
 refine QG ?_
 exact⟨b2,a1,c1,a2,c2,a3,c3,rfl,hI.ext0,hI.fin ⟨.p1,.p2,.p3,.z,af⟩⟩
abbrev Qs3 (I:StI σ) (f_:(ae→(ae→σ→Option (Bool×σ))→σ→Option (Bool×σ))):Prop:=∀ ⦃C0 F:NP⦄ ⦃w0:World⦄ ⦃e1:ae⦄ ⦃yield1:(ae→σ→Option (Bool×σ))⦄ ⦃s1:σ⦄ ⦃a1 a2 a3:Option Addr⦄ ⦃c1 c2 c3:Nat⦄ ⦃fv1:Value⦄ (hI:Bun C0 F w0 C0 w0 [MO.st I s1] [Cl.sl ai a1 c1 e1.Lin.L,Cl.sl al a2 c2 e1.Idx,Cl.sl an a3 c3 e1.Args,rF I fv1 yield1]) ⦃r:Bool×σ⦄ (h:f_ e1 yield1 s1=some r),Cg 143 #[(Value.agg (aA e1 a1 c1 a2 c2 a3 c3)),fv1] w0 λe w=>∃ C,e= .returned (vb r.1)∧Bun C0 F w0 C w [MO.st I r.2] []
theorem x8 {I:StI σ} {rec_:(ae→(ae→σ→Option (Bool×σ))→σ→Option (Bool×σ))} (hrec:Qs3 I rec_) {e1:ae} {yield1:(ae→σ→Option (Bool×σ))} {s1:σ} {fv1:Value} (hI:Bun C0 F w0 C0 w0 [MO.st I s1] [Cl.sl ai a1 c1 e1.Lin.L,Cl.sl al a2 c2 e1.Idx,Cl.sl an a3 c3 e1.Args,rF I fv1 yield1]) {r:Bool×σ} (h:fZ rec_ e1 yield1 s1=some r):Cg 143 #[(Value.agg (aA e1 a1 c1 a2 c2 a3 c3)),fv1] w0 λe w=>∃ C,e= .returned (vb r.1)∧Bun C0 F w0 C w [MO.st I r.2] []:=by
 refine sw Tryz.func143 rfl Tryz.ntmps143 rfl ?_
 rw[fZ]at h
 refine sr (lX λb1 c5 w1 hI=>?_)
 refine T ?_
 refine aj (T ?_)
 refine sq (am (l:=(ba e1 a1 c1 a2 c2 a3 c3)) rfl et jZ rfl aJ (hI.kblk (l:=(ba e1 a1 c1 a2 c2 a3 c3)) .z rfl).1) ?_
 obtain⟨⟨r1,s2⟩,hx1,h⟩:=ab h
 try dsimp only at h
 obtain⟨c6,f1,hB,hl1,hk1⟩:=hI.hands (.l .n)
 refine vR (args:=[(Value.agg (aA e1 a1 c1 a2 c2 a3 c3))]) gn rfl rfl et ⟨et,af⟩ (CallV.mono ((hI.get .p4).2 c6 f1 w1 (Ra hl1) e1 a1 c1 a2 c2 a3 c3 s1 _ (hB.subs ⟨.p1,.p2,.p3,af⟩) hx1) ?_)
 rintro _ w2 ⟨c7,rfl,hB2⟩
 refine HN hk1 hB2 λc8 hI=>?_
 refine⟨_,rfl,?_⟩
 refine TC (λhb h=>?_) λhb h=>?_
 ·refine T ?_
  refine aO ?_
  obtain rfl:=ak h
  refine QG ?_
  exact⟨_,rfl,hI.arr GO SU⟩
 refine T ?_
 refine aj (T ?_)
 refine bk (α:=Nat×Int×σ) (λx=>λw=>∃ C,Bun C0 F w0 C w [MO.st I (x.2.2)] [rF I fv1 yield1,Cl.sl an a3 c3 e1.Args]∧ce e1 rec_ yield1 (x.1) (x.2.1) (x.2.2)=some r) (λx _=>x.1) (λx=>[(1,fv1),(12,vs a3 e1.Args.length c3),(13,vi (e1.Args.length:Int)),(14,vi (x.2.1))]) (fu,0,s2) BH SB ?_
 clear h hI;rintro⟨fuel1,i1,s3⟩ w3 ⟨c9,hI,h⟩
 dsimp only at hI h ⊢
 rcases fuel1 with _ | fuel1
 ·rw[ce]at h;cases h
 rw[ce]at h
 refine T ?_
 refine aj (E7 h et (λhb h=>?_) (λhb h=>?_))
 ·refine T ?_
  refine aj (T ?_)
  obtain⟨e2,hx2,h⟩:=ab h
  obtain⟨ad1,cs1,hA1,hr1,hq1⟩:=hI.clat .p1 hx2
  obtain⟨a4,c10,a5,c11,a6,c12,rfl,hf1,hf2,hf3⟩:=ci hr1
  have hI:=hI.ads hf1
  have hI:=hI.ads hf2
  have hI:=hI.ads hf3
  refine sI ?_
  refine T ?_
  refine lN λb2 c13 w4 hI=>?_
  refine lA λc14 w5 hI=>?_
  refine T ?_
  obtain⟨c15,f2,hB,hl2,hk2⟩:=hI.hands (.r (.l .n))
  obtain⟨⟨r2,s4⟩,hx3,h⟩:=ab h
  try dsimp only at h
  refine bf gn rfl (Rc Tryz.func143) (Calls.mono (hrec HS hx3) ?_)
  rintro _ w6 ⟨c16,rfl,hB2⟩
  refine HN hk2 hB2 λc17 hI=>?_
  refine⟨_,rfl,?_⟩
  refine TC (λhb h=>?_) λhb h=>?_
  ·refine T ?_
   refine aO ?_
   obtain rfl:=ak h
   refine QG ?_
   exact⟨_,rfl,hI.arr GO SU⟩
  refine T ?_
  refine aG ?_
  exact kl (fuel1,av (i1+1),s4)
 refine bl ?_
 refine eZ ?_
 refine aS ?_
 refine T ?_
 refine aO ?_
 obtain rfl:=ak h
 refine QG ?_
 exact⟨_,rfl,hI.arr GO SU⟩
theorem x7 {I:StI σ} (n:Nat):Qs3 I (dG n):=by
 induction n with
 | zero=>intro F;intros;rename_i h;cases h
 | succ n ih=>intro F;intros;apply x8 ih<;>assumption
theorem AH {I:StI σ} :Qs3 I (m3):=x7 fu
theorem tb {I:StI σ} {yield1:(ae→σ→Option (Bool×σ))} {a1:ae} {s1:σ} {fv1:Value} (hI:Bun C0 F w0 C0 w0 [MO.st I s1] [rF I fv1 yield1,Cl.sl ai a2 c1 a1.Lin.L,Cl.sl al a3 c2 a1.Idx,Cl.sl an a4 c3 a1.Args,Cl.blk b1 39 (aA a1 a2 c1 a3 c2 a4 c3)]) {r:Unit×σ} (h:iE yield1 a1 s1=some r):Cg 142 #[fv1,vp b1 0] w0 λe w=>∃ C,e= .returned (Value.tuple #[])∧Bun C0 F w0 C w [MO.st I r.2] []:=by
 refine sw Tryz.func142 rfl Tryz.ntmps142 rfl ?_
 rw[iE]at h
 refine T ?_
 refine sq (am (l:=(ba a1 a2 c1 a3 c2 a4 c3)) rfl et jZ rfl aJ (hI.kblk (l:=(ba a1 a2 c1 a3 c2 a4 c3)) .p4 rfl).1) ?_
 refine sm ?_
 obtain⟨c4,f1,hB,hl1,hk1⟩:=hI.hands (.l .n)
 obtain⟨⟨r1,s2⟩,hx1,h⟩:=ab h
 try dsimp only at h
 refine bf gn rfl (Rc Tryz.func143) (Calls.mono (AH HS hx1) ?_)
 rintro _ w1 ⟨c5,rfl,hB2⟩
 refine HN hk1 hB2 λc6 hI=>?_
 refine⟨_,rfl,?_⟩
 refine aG ?_
 obtain rfl:=ak h
 refine QG ?_
 exact⟨_,rfl,hI.arr GO SU⟩
theorem ER (hF:dF F w0) {e1:ae} (hc:AllCl [Cl.sl ai a1 c1 e1.Lin.L,Cl.sl al a2 c2 e1.Idx,Cl.sl an a3 c3 e1.Args] F w0) {r:Int} (h:mc e1=some r):CR F w0 77 #[(Value.agg (aA e1 a1 c1 a2 c2 a3 c3))] (vi r) []:=by
 refine EN Tryz.func77 Tryz.ntmps77 hF hc λhI=>?_
 rw[mc]at h
 refine sr (lX λb1 c5 w1 hI=>?_)
 refine T ?_
 refine lN λb2 c6 w2 hI=>?_
 refine lS λc7 w3 hI=>?_
 refine nk (aj (sr (sq (am (l:=(ba e1 a1 c1 a2 c2 a3 c3)) rfl et jZ rfl aJ (hI.kblk (l:=(ba e1 a1 c1 a2 c2 a3 c3)) .z rfl).1) ?_)))
 obtain⟨r1,hx1,h⟩:=ab h
 refine bf gn rfl (Rc Tryz.func78) (Calls.mono (xM hI.lt FS hx1) ?_)
 rintro _ w4 ⟨b3,a4,c8,a5,c9,a6,c10,rfl,hx2,hl1⟩
 refine⟨_,rfl,?_⟩
 replace hI:=(hI.ext hx2).adds hl1;dsimp only[ca,na]at hI
 refine T ?_
 refine tY [Code.exit 0] hI et Jw (λl1 q1 fn1 tm1 rc1 hrc1 c12 w6 hE1 hI=>?_)
 obtain⟨c13,f1,hB,hl2,hk1⟩:=hI.hands (.l (.r (.l .n)))
 have hB:Bun c13 f1 w6 c13 w6 [MO.st (StI.loop l1 rc1 (λ(s:Int) (b:Unit)=>[MO.box b2 3 #[vi s]]) (λ(s:Int) (b:Unit)=>[Cl.blk b3 39 (aA r1 a4 c8 a5 c9 a6 c10),Cl.sl ai a4 c8 r1.Lin.L,Cl.sl al a5 c9 r1.Idx,Cl.sl an a6 c10 r1.Args])) (0,0)] _:=Bun.mkst (b:=()) hB ⟨.p3,.z,.p1,.p2,af⟩
 have hY1:fnS_k5 (StI.loop l1 rc1 (λ(s:Int) (b:Unit)=>[MO.box b2 3 #[vi s]]) (λ(s:Int) (b:Unit)=>[Cl.blk b3 39 (aA r1 a4 c8 a5 c9 a6 c10),Cl.sl ai a4 c8 r1.Lin.L,Cl.sl al a5 c9 r1.Idx,Cl.sl an a6 c10 r1.Args])) (Value.func (.yield l1) #[] #[]) (λk_0 q=>if q.1=0 then cA k_0 q.2 else none) (Dj f1 c13) w6:=by
  refine⟨rfl,λC0 F w0 _=>?_⟩
  rintro y1 a7 c14 a8 c15 a9 c16 ⟨o_,n1⟩ r hB h
  replace h:o_=0∧cA y1 n1=some r:=fT h
  have ho_:=h.1;subst ho_;replace h:=h.2
  rw[cA]at h
  obtain⟨_,hI⟩:=Bun.unst hB
  subst hrc1
  dsimp only[ca,na]at hI
  clear hB
  refine tW hI rfl (vk (hE1 ⟨12,[]⟩ rfl rfl)) ?_
  refine aZ (Cp hI .z (λc17 w7 hI=>?_))
  refine T ?_
  refine lS λc18 w8 hI=>?_
  refine TC (λhb h=>?_) λhb h=>?_
  ·refine bl ?_
   refine Qs rfl ?_
   obtain rfl:=ak h
   exact λ_ _=>ut (js:=[Code.exit 0]) (oS:=(λ(s:Int) (b:Unit)=>[MO.box b2 3 #[vi s]])) (cS:=(λ(s:Int) (b:Unit)=>[Cl.blk b3 39 (aA r1 a4 c8 a5 c9 a6 c10),Cl.sl ai a4 c8 r1.Lin.L,Cl.sl al a5 c9 r1.Idx,Cl.sl an a6 c10 r1.Args])) (out:=1) (s:=(av (n1+1))) (b:=()) (hI.arr GO SU) rfl (λC w hB=>⟨C,rfl,hB⟩)
  refine aZ ?_
  obtain rfl:=ak h
  exact λ_ _=>ut (js:=[Code.exit 0]) (oS:=(λ(s:Int) (b:Unit)=>[MO.box b2 3 #[vi s]])) (cS:=(λ(s:Int) (b:Unit)=>[Cl.blk b3 39 (aA r1 a4 c8 a5 c9 a6 c10),Cl.sl ai a4 c8 r1.Lin.L,Cl.sl al a5 c9 r1.Idx,Cl.sl an a6 c10 r1.Args])) (out:=0) (s:=(av (n1+1))) (b:=()) (hI.arr GO SU) rfl (λC w hB=>⟨C,rfl,hB⟩)
 obtain⟨⟨u1,o1,n2⟩,hx3,h⟩:=ab h
 try dsimp only at h
 refine Calls.mono (tb ((hB.add (c:=rF (StI.loop l1 rc1 (λ(s:Int) (b:Unit)=>[MO.box b2 3 #[vi s]]) (λ(s:Int) (b:Unit)=>[Cl.blk b3 39 (aA r1 a4 c8 a5 c9 a6 c10),Cl.sl ai a4 c8 r1.Lin.L,Cl.sl al a5 c9 r1.Idx,Cl.sl an a6 c10 r1.Args])) (Value.func (.yield l1) #[] #[]) (λk_0 q=>if q.1=0 then cA k_0 q.2 else none)) hY1).subs ⟨.z,.p1,.p2,.p3,.p4,af⟩) hx3) ?_
 rintro _ w10 ⟨c20,rfl,hB2⟩
 obtain⟨_,hB2⟩:=Bun.unst hB2
 subst hrc1
 refine HN hk1 hB2 λc21 hI=>?_
 refine⟨_,rfl,wU hI .z (λc22 w11 hI=>?_)⟩
 by_cases hz1:o1=0
 ·subst hz1;rw[if_pos rfl]at h
  refine aS ?_
  refine T ?_
  refine aO ?_
  obtain⟨w12,hs2,c23,hI⟩:∃ w2,rP Tryz.prog [q1] w11 w2∧∃ C,Bun cH F w0 C w2 [Q9 l1 _,MO.box b2 3 #[vi n2],Q9 q1 (.deferred none)] [Cl.blk b3 39 (aA r1 a4 c8 a5 c9 a6 c10),Cl.sl ai a4 c8 r1.Lin.L,Cl.sl al a5 c9 r1.Idx,Cl.sl an a6 c10 r1.Args,Cl.sl ai a4 c8 r1.Lin.L,Cl.sl al a5 c9 r1.Idx,Cl.sl an a6 c10 r1.Args,Cl.blk b3 39 (aA r1 a4 c8 a5 c9 a6 c10),Cl.blk b1 39 (aA e1 a1 c1 a2 c2 a3 c3),Cl.sl ai a1 c1 e1.Lin.L,Cl.sl al a2 c2 e1.Idx,Cl.sl an a3 c3 e1.Args]:=hI.shut .p2 λC w hI=>rr ⟨_,hI⟩
  obtain rfl:=ak h
  exact vc (vs:=[vi n2]) hs2 Tryz.results77 ⟨aT rfl rfl,af⟩ (fq hI af)
 rw[if_neg hz1]at h
 by_cases hz2:o1=1
 ·subst hz2;rw[if_pos rfl]at h
  refine bl ?_
  refine eZ ?_
  refine aS ?_
  refine T ?_
  refine aO ?_
  obtain⟨w13,hs3,c24,hI⟩:∃ w2,rP Tryz.prog [q1] w11 w2∧∃ C,Bun cH F w0 C w2 [Q9 l1 _,MO.box b2 3 #[vi n2],Q9 q1 (.deferred none)] [Cl.blk b3 39 (aA r1 a4 c8 a5 c9 a6 c10),Cl.sl ai a4 c8 r1.Lin.L,Cl.sl al a5 c9 r1.Idx,Cl.sl an a6 c10 r1.Args,Cl.sl ai a4 c8 r1.Lin.L,Cl.sl al a5 c9 r1.Idx,Cl.sl an a6 c10 r1.Args,Cl.blk b3 39 (aA r1 a4 c8 a5 c9 a6 c10),Cl.blk b1 39 (aA e1 a1 c1 a2 c2 a3 c3),Cl.sl ai a1 c1 e1.Lin.L,Cl.sl al a2 c2 e1.Idx,Cl.sl an a3 c3 e1.Args]:=hI.shut .p2 λC w hI=>rr ⟨_,hI⟩
  obtain rfl:=ak h
  exact vc (vs:=[vi n2]) hs3 Tryz.results77 ⟨aT rfl rfl,af⟩ (fq hI af)
 rw[if_neg hz2]at h
 cases h
theorem u6 (hF:dF F w0) {l1:aC} (hc:AllCl [Cl.sl ai a1 c1 l1.L] F w0) {r:Bool} (h:lr l1=some r):CR F w0 195 #[(Value.agg (eP l1 a1 c1))] (vb r) []:=by
 refine EN Tryz.func195 Tryz.ntmps195 hF hc λhI=>?_
 rw[lr]at h
 refine sr (lX λb1 c3 w1 hI=>?_)
 exact RF
theorem mg (hF:dF F w0) {s1:List aM} {f1:(aM→Option Bool)} {fv1:Value} (hc:AllCl [Cl.sl al a1 c1 s1,ux fv1 f1] F w0) {r:Int} (h:cV s1 f1=some r):CR F w0 228 #[vs a1 s1.length c1,fv1] (vi r) []:=by
 refine EN Tryz.func228 Tryz.ntmps228 hF hc λhI=>?_
 rw[cV]at h
 refine T ?_
 refine aj (T ?_)
 refine bk (α:=Nat×Int) (λx=>λw=>∃ C,Bun cH F w0 C w [] [Cl.sl al a1 c1 s1,ux fv1 f1]∧aN s1 f1 (x.1) (x.2)=some r) (λx _=>x.1) (λx=>[(0,vs a1 s1.length c1),(1,fv1),(7,vi (s1.length:Int)),(8,vi (x.2))]) (fu,0) BH SB ?_
 clear h hI;rintro⟨fuel1,i1⟩ w1 ⟨c2,hI,h⟩
 dsimp only at hI h ⊢
 rcases fuel1 with _ | fuel1
 ·rw[aN]at h;cases h
 rw[aN]at h
 refine T ?_
 refine aj (E7 h et (λhb h=>?_) (λhb h=>?_))
 ·refine T ?_
  refine aj (T ?_)
  obtain⟨e1,hx1,h⟩:=ab h
  obtain⟨ad1,cs1,hA1,hr1,hq1⟩:=hI.clat .z hx1
  obtain⟨a2,c3,a3,c4,rfl,hf1,hf2⟩:=hr1
  have hI:=hI.ads hf1
  have hI:=hI.ads hf2
  refine sI ?_
  refine T ?_
  obtain⟨r1,hx2,h⟩:=ab h
  refine vR (args:=[(Value.agg (oN e1 a2 c3 a3 c4))]) gn rfl rfl et ⟨et,af⟩ (CallV.mono ((hI.get .p3).2 (Dj F c2) w1 (Rb .rfl') hI.lt e1 a2 c3 a3 c4 r1 ⟨(hI.get .p1),(hI.get .z),af⟩ hx2) ?_)
  rintro _ w2 ⟨rfl,hx3,hl1⟩
  refine⟨_,rfl,?_⟩
  replace hI:=(hI.ext hx3)
  refine TR λhb h=>?_
  refine T ?_
  refine aG ?_
  exact kl (fuel1,av (i1+1))
 refine bl ?_
 refine eZ ?_
 refine aS ?_
 exact RF
theorem el (hF:dF F w0) {s1:List aM} {f1:(aM→Option Bool)} {fv1:Value} (hc:AllCl [Cl.sl al a1 c1 s1,ux fv1 f1] F w0) {r:Bool} (h:bb s1 f1=some r):CR F w0 196 #[vs a1 s1.length c1,fv1] (vb r) []:=by
 refine EN Tryz.func196 Tryz.ntmps196 hF hc λhI=>?_
 rw[bb]at h
 refine T ?_
 refine sB h (λ_ k=>mg hI.lt FS k) (Rc Tryz.func228) λr1 w1 h hI=>?_
 exact RF
theorem wB (hF:dF F w0) {x1:aM} (hc:AllCl [Cl.sl ai a1 c1 x1.Lin.L,Cl.sl dU a2 c2 x1.At] F w0) {r:Bool} (h:lH x1=some r):CR F w0 198 #[(Value.agg (oN x1 a1 c1 a2 c2))] (vb r) []:=by
 refine EN Tryz.func198 Tryz.ntmps198 hF hc λhI=>?_
 rw[lH]at h
 refine sr (lX λb1 c4 w1 hI=>?_)
 refine T ?_
 refine aj (T ?_)
 refine TR λhb h=>?_
 refine T ?_
 refine sq (am (l:=(fS x1.Lin a1 c1)) rfl et pr rfl bc (hI.kblk (l:=(fS x1.Lin a1 c1)) .z rfl).1) ?_
 refine sB h (λ_ k=>u6 hI.lt FS k) (Rc Tryz.func195) λr1 w2 h hI=>?_
 exact RF
theorem x9 (hF:dF F w0) {x1:aM} (hc:AllCl [Cl.sl ai a1 c1 x1.Lin.L,Cl.sl dU a2 c2 x1.At] F w0) {r:Bool} (h:jv x1=some r):CR F w0 197 #[(Value.agg (oN x1 a1 c1 a2 c2))] (vb r) []:=by
 refine EN Tryz.func197 Tryz.ntmps197 hF hc λhI=>?_
 rw[jv]at h
 refine sr (lX λb1 c4 w1 hI=>?_)
 refine T ?_
 refine sq (am (l:=(tJ x1 a1 c1 a2 c2)) rfl et o0 rfl lL (hI.kblk (l:=(tJ x1 a1 c1 a2 c2)) .z rfl).1) ?_
 refine sB h (λ_ k=>wB hI.lt FS k) (Rc Tryz.func198) λr1 w2 h hI=>?_
 exact RF
theorem AJ (hF:dF F w0) {e1:ae} (hc:AllCl [Cl.sl ai a1 c1 e1.Lin.L,Cl.sl al a2 c2 e1.Idx,Cl.sl an a3 c3 e1.Args] F w0) {r:Bool} (h:m4 e1=some r):CR F w0 144 #[(Value.agg (aA e1 a1 c1 a2 c2 a3 c3))] (vb r) []:=by
 refine EN Tryz.func144 Tryz.ntmps144 hF hc λhI=>?_
 rw[m4]at h
 refine sr (lX λb1 c5 w1 hI=>?_)
 refine T ?_
 refine aj (aL [] false (.c (0,.q) (.c (1,.q) (.c (2,.q) (.c (3,.q) (.c (4,.q) (.c (5,.q) (.c (6,.q) (.c (7,.q) (.c (8,.q) (.c (9,.q) (.c (10,.q) (.c (11,.q) (.c (12,.q) .n))))))))))))) hI (by kernel_rfl) (by kernel_rfl) ?_)
 intro w2 hI
 refine V ?_
 refine aj (aL [] false (.c (0,.q) (.c (1,.q) (.c (2,.q) (.c (3,.q) (.c (4,.q) (.c (5,.q) (.c (6,.q) (.c (7,.q) .n)))))))) hI (by kernel_rfl) (by kernel_rfl) ?_)
 intro w3 hI
 refine V ?_
 refine aj (T ?_)
 refine TR λhb h=>?_
 refine T ?_
 refine aw (bg rfl rfl rfl rfl) rfl (λhc=>(am (l:=(oA e1.Val)) rfl (aI et hc) Gy rfl kM (hI.kblk (l:=(oA e1.Val)) .z rfl).1)) ?_
 refine aw (bg rfl rfl rfl rfl) rfl (λhc=>aK (vs:=[]) (cs:=#[vi 0,vi 0]) rfl trivial (by kernel_rfl)) ?_
 refine aw (bg rfl rfl rfl rfl) rfl (λhc=>iT rfl (aI et hc) (aI et hc) (wo ..) (vr ..)) ?_
 refine TR λhb h=>?_
 refine T ?_
 refine aw (bg rfl rfl rfl rfl) rfl (λhc=>(am (l:=(bU e1.Type_)) rfl (aI et hc) qF rfl bN (hI.kblk (l:=(bU e1.Type_)) .z rfl).1)) ?_
 refine aw (bg rfl rfl rfl rfl) rfl (λhc=>aK (vs:=[]) (cs:=BA) rfl trivial (by kernel_rfl)) ?_
 refine aw (bg rfl rfl rfl rfl) rfl (λhc=>iT rfl (aI et hc) (aI et hc) (sv ..) (oK ..)) ?_
 refine TR λhb h=>?_
 refine T ?_
 refine aw (bg rfl rfl rfl rfl) rfl (λhc=>(am (l:=(fS e1.Lin a1 c1)) rfl (aI et hc) pr rfl bc (hI.kblk (l:=(fS e1.Lin a1 c1)) .z rfl).1)) ?_
 obtain⟨r1,hx1,h⟩:=ab h
 replace hx1:=ax hx1
 refine sU (λhc=>u6 hI.lt FS (hx1 hc)) (Rg Tryz.func195) λw4 hI=>?_
 refine TR λhb h=>?_
 refine TR λhb h=>?_
 refine T ?_
 have hI:=hI.add (c:=ux (Value.func (.func 197) #[] #[]) jv) ⟨rfl,λD' w' hs hl x_1 A_2 c_3 A_4 c_5 r k h=>CallV.fn (cap:=[]) Og (x9 hl ⟨k.1,k.2.1,af⟩ h)⟩
 refine sB h (λ_ k=>el hI.lt FS k) (Rc Tryz.func196) λr2 w5 h hI=>?_
 exact RF
theorem zP (hF:dF F w0) {x1:aM} (hc:AllCl [Cl.sl ai a1 c1 x1.Lin.L,Cl.sl dU a2 c2 x1.At,au] F w0) {r:Bool} (h:kw x1=some r):CR F w0 199 #[(Value.agg (oN x1 a1 c1 a2 c2))] (vb r) []:=by
 refine EN Tryz.func199 Tryz.ntmps199 hF hc λhI=>?_
 rw[kw]at h
 refine sr (lX λb1 c4 w1 hI=>?_)
 refine T ?_
 obtain⟨r1,hx1,h⟩:=ab h
 replace hx1:=ax hx1
 refine sU (λhc=>qz hI.lt FS (hx1 hc)) (Rg Tryz.func185) λw2 hI=>?_
 exact RF
theorem Dc (hF:dF F w0) {e1:ae} (hc:AllCl [Cl.sl ai a1 c1 e1.Lin.L,Cl.sl al a2 c2 e1.Idx,Cl.sl an a3 c3 e1.Args,au] F w0) {r:Bool} (h:oe e1=some r):CR F w0 145 #[(Value.agg (aA e1 a1 c1 a2 c2 a3 c3))] (vb r) []:=by
 refine EN Tryz.func145 Tryz.ntmps145 hF hc λhI=>?_
 rw[oe]at h
 refine sr (lX λb1 c5 w1 hI=>?_)
 refine T ?_
 refine aj (T ?_)
 obtain⟨r1,hx1,h⟩:=ab h
 replace hx1:=ax hx1
 refine sU (λhc=>qz hI.lt FS (hx1 hc)) (Rg Tryz.func185) λw2 hI=>?_
 refine TR λhb h=>?_
 refine T ?_
 have hI:=hI.add (c:=ux (Value.func (.func 199) #[] #[]) kw) ⟨rfl,λD' w' hs hl x_1 A_2 c_3 A_4 c_5 r k h=>CallV.fn (cap:=[]) Of (zP hl ⟨k.1,k.2.1,(Cl.sp _ hs (hI.get .p4)),af⟩ h)⟩
 refine sB h (λ_ k=>el hI.lt FS k) (Rc Tryz.func196) λr2 w3 h hI=>?_
 exact RF
theorem ya (hF:dF F w0) {op1:Int} (hc:AllCl [] F w0) {r:Int} (h:lh op1=some r):CR F w0 200 #[vi op1] (vi r) []:=by
 refine EN Tryz.func200 Tryz.ntmps200 hF hc λhI=>?_
 rw[lh]at h
 refine T ?_
 refine aj (T ?_)
 refine bO (α:=Bool) (λ_=>⟨14,[]⟩) (λx=>[(3,vi op1),(4,vb x)]) (λx=>λw=>∃ C,Bun cH F w0 C w [] []∧hG op1 x=some r) ?_ ?_
 ·clear h hI;rintro i1 w1 ⟨c1,hI,h⟩
  try dsimp only at hI h ⊢
  rw[hG]at h
  refine TR λhb h=>?_
  refine bO (α:=Bool) (λ_=>⟨14,[]⟩) (λx=>[(3,vi op1),(8,vb x)]) (λx=>λw=>∃ C,Bun cH F w0 C w [] []∧g9 op1 x=some r) ?_ ?_
  ·clear h hI;rintro i2 w2 ⟨c2,hI,h⟩
   try dsimp only at hI h ⊢
   rw[g9]at h
   refine TR λhb h=>?_
   refine TR λhb h=>?_
   exact RF
  refine TC (λhb h=>?_) λhb h=>?_
  ·exact aZ (bI (decide (op1=8)) SB BH rfl)
  refine TC (λhb h=>?_) λhb h=>?_
  ·exact aZ (bI (decide (op1=12)) SB BH rfl)
  refine T ?_
  refine aG ?_
  exact kj (decide (op1=18))
 refine TC (λhb h=>?_) λhb h=>?_
 ·exact aZ (bI (decide (op1=1)) SB BH rfl)
 refine TC (λhb h=>?_) λhb h=>?_
 ·exact aZ (bI (decide (op1=2)) SB BH rfl)
 refine T ?_
 refine aG ?_
 exact kj (decide (op1=3))
end Go.Proofs.YtmhoikfoogemnaaGreatDoor
