import Derived.Test.YtmhoikfoogemnaaGreatDoorMCQ4a
import Derived.Test.YtmhoikfoogemnaaGreatDoorMLfJ
namespace Go.Proofs.YtmhoikfoogemnaaGreatDoor
open Go Go.RowKit Go.Vc
set_option maxRecDepth 100000
set_option maxHeartbeats 4000000
set_option linter.unusedVariables false
set_option linter.unusedSimpArgs false
variable {σ:Type} {C0 F:NP} {w0:World} {a1 a2 a3 a4 a5 a6 a7 a8 a9 a10 a11 a12:Option Addr} {b1 b2 b3 b4 b5 b6 b7 b8 b9 b10 b11 b12 c1 c2 c3 c4 c5 c6 c7 c8 c9 c10 c11 c12:Nat}
theorem cC {r1:aa} {negative1:Bool} (hI:Bun C0 F w0 C0 w0 [MO.box b1 67 (ae r1 a1 c1)] [Cl.sl ah a1 c1 r1.l,ap]) {r:bC (ay×aa)} (h:fy r1 negative1=some r):CP C0 F w0 70 #[vp b1 0,vb negative1] r fun rx e w=>∃ a2 c2 a3 c3 C,e= .returned (Value.agg (dM rx.1 a2 c2))∧Bun C0 F w0 C w [MO.box b1 67 (ae rx.2 a3 c3)] [Cl.sl ag a2 c2 rx.1.L,Cl.sl ah a3 c3 rx.2.l]:=by
 refine eY (l:=[vp b1 0,vb negative1]) Tryz.func70 rfl Tryz.ntmps70 rfl ?_
 rw[fy]at h
 refine sr (cP (cs:=#[vi 0,vs none 0 0]) hI gn rfl rfl kS rfl ?_)
 intro b2 c4 w1 hI
 refine T ?_
 refine aj (T ?_)
 refine sB h (fun _ k=>jO NE ⟨(hI.get0 .z),hI.lendBox (.s .z),hI.get0 (.s .z),trivial⟩ k) (Rc Tryz.func126) fun r2 w2 h hI=> ?_
 refine TC (fun hb h=> ?_) fun hb h=> ?_
 ·refine T ?_
  obtain⟨c5,f1,hB,hl2,hk1⟩:=hI.hands (.r (.l .n))
  refine dZ h (fun _ hx3=>hG HS hx3) (ko hk1) (Rc Tryz.func128) ?_
  rintro⟨r3,s1⟩ hx3 h _ w3 ⟨a4,c6,c7,rfl,hB2⟩
  try dsimp only at h
  refine HN hk1 hB2 fun c8 hI=> ?_
  refine⟨_,rfl,?_⟩
  obtain⟨r4,hx4,h⟩:=ab h
  refine bq gn rfl (Rc Tryz.func127) (Calls.mono (xZ hI.lt trivial hx4) ?_)
  rintro _ w4 ⟨a5,c9,rfl,hx5,hl3⟩
  refine⟨_,rfl,?_⟩
  replace hI:=(hI.ext hx5).adds hl3;dsimp only[ca,na]at hI
  refine lN fun b3 c10 w5 hI=> ?_
  refine lA fun c11 w6 hI=> ?_
  refine nk (aj (T ?_))
  refine TC (fun hb h=> ?_) fun hb h=> ?_
  ·refine T ?_
   obtain⟨r5,hx6,h⟩:=ab h
   refine bq gn rfl (Rc Tryz.func129) (Calls.mono (ul hI.lt FS hx6) ?_)
   rintro _ w7 ⟨a6,c12,rfl,hx7,hl4⟩
   refine⟨_,rfl,?_⟩
   replace hI:=(hI.ext hx7).adds hl4;dsimp only[ca,na]at hI
   refine T ?_
   refine lA fun c13 w8 hI=> ?_
   refine T ?_
   refine lA fun c14 w9 hI=> ?_
   refine nk (aJ ?_)
   obtain rfl:=ak h
   refine QG ?_
   exact .inl ⟨_,rfl,a6,c12,a4,c6,_,rfl,hI.arr GO SU⟩
  refine T ?_
  refine lA fun c15 w10 hI=> ?_
  refine nk (aJ ?_)
  obtain rfl:=ak h
  refine QG ?_
  exact .inl ⟨_,rfl,a5,c9,a4,c6,_,rfl,hI.arr GO SU⟩
 refine T ?_
 obtain⟨c16,f2,hB,hl5,hk2⟩:=hI.hands (.r (.l .n))
 refine dZ h (fun _ hx8=>gk HS hx8) (ko hk2) (Rc Tryz.func130) ?_
 rintro⟨r6,s2⟩ hx8 h _ w11 ⟨a7,c17,c18,rfl,hB2⟩
 try dsimp only at h
 refine HN hk2 hB2 fun c19 hI=> ?_
 refine⟨_,rfl,?_⟩
 refine T ?_
 refine bJ (α:=(List UInt8)×aa×(Option Addr)×Nat) (fun _=>⟨58,[]⟩) (fun x=>[(0,vp b1 0),(1,vb negative1),(4,vp b2 0),(5,vi r1.at_),(7,(str r6)),(8,(str (x.1)))]) (fun x=>fun w=>∃ C,Bun C0 F w0 C w [MO.box b1 67 (ae (x.2.1) (x.2.2.1) (x.2.2.2)),MO.box b2 27 #[vi 0,vs none 0 0]] [Cl.sl ah (x.2.2.1) (x.2.2.2) (x.2.1).l,ap]∧dn r6 negative1 r1 (x.1) (x.2.1)=some r) ?_ ?_
 ·clear h hI;rintro⟨name1,r7,a8,c20⟩ w12 ⟨c21,hI,h⟩
  try dsimp only at hI h ⊢
  rw[dn]at h
  refine T ?_
  refine sB h (fun _ k=>p7 hI.lt trivial k) (Rc Tryz.func131) fun r8 w13 h hI=> ?_
  refine T ?_
  refine bJ (α:=Unit) (fun _=>⟨58,[]⟩) (fun _=>[(4,vp b2 0),(8,(str name1)),(9,vi r8.1)]) (fun _=>fun w=>∃ C,Bun C0 F w0 C w [MO.box b2 27 #[vi 0,vs none 0 0],MO.box b1 67 (ae r7 a8 c20)] [Cl.sl ah a8 c20 r7.l,ap]∧eA name1 r8 r7=some r) ?_ ?_
  ·clear h hI;rintro _ w14 ⟨c22,hI,h⟩
   try dsimp only at hI h ⊢
   rw[eA]at h
   refine aj (T ?_)
   refine TC (fun hb h=> ?_) fun hb h=> ?_
   ·refine T ?_
    obtain⟨r9,hx11,h⟩:=ab h
    refine bq gn rfl (Rc Tryz.func132) (Calls.mono (AN hI.lt trivial hx11) ?_)
    rintro _ w15 ⟨a9,c23,rfl,hx12,hl7⟩
    refine⟨_,rfl,?_⟩
    replace hI:=(hI.ext hx12).adds hl7;dsimp only[ca,na]at hI
    refine lA fun c24 w16 hI=> ?_
    refine nk (aJ ?_)
    obtain rfl:=ak h
    refine QG ?_
    exact .inl ⟨_,rfl,a9,c23,a8,c20,_,rfl,hI.arr GO SU⟩
   refine T ?_
   obtain⟨r10,hx13,h⟩:=ab h
   refine bq gn rfl (Rc Tryz.func127) (Calls.mono (xZ hI.lt trivial hx13) ?_)
   rintro _ w17 ⟨a10,c25,rfl,hx14,hl8⟩
   refine⟨_,rfl,?_⟩
   replace hI:=(hI.ext hx14).adds hl8;dsimp only[ca,na]at hI
   refine sm ?_
   obtain⟨r11,hx15,h⟩:=ab h
   refine bq gn rfl (Rc Tryz.func129) (Calls.mono (ul hI.lt FS hx15) ?_)
   rintro _ w18 ⟨a11,c26,rfl,hx16,hl9⟩
   refine⟨_,rfl,?_⟩
   replace hI:=(hI.ext hx16).adds hl9;dsimp only[ca,na]at hI
   refine T ?_
   refine lN fun b4 c27 w19 hI=> ?_
   refine lA fun c28 w20 hI=> ?_
   refine T ?_
   refine lA fun c29 w21 hI=> ?_
   refine nk (aJ ?_)
   obtain rfl:=ak h
   refine QG ?_
   exact .inl ⟨_,rfl,a11,c26,a8,c20,_,rfl,hI.arr GO SU⟩
  refine TC (fun hb h=> ?_) fun hb h=> ?_
  ·refine T ?_
   rcases gR h with⟨r12,hx17,h⟩ | ⟨pa_,pn_,hx17,hp_⟩
   rotate_left
   ·subst hp_
    refine mP gn rfl (ax (vs:=[vp b1 0,vi r1.at_,vi 3]) rfl su ⟨et,⟨et,⟨af,trivial⟩⟩⟩) (Calls.mono (aN NE ⟨(hI.get0 .z),hI.lendBox .z,trivial⟩ hx17) ?_)
    intro e_ w_ hq_;obtain⟨rfl,hx_⟩:=el hq_;have hI_:=hI.ext hx_;exact .inr ⟨_,rfl,gO (.inr ⟨_,_,rfl,rfl,⟨_,hI_.arr .n trivial⟩⟩)⟩
   try dsimp only at h
   refine bq gn rfl (Rc Tryz.func71) (Calls.mono (aN NE ⟨(hI.get0 .z),hI.lendBox .z,trivial⟩ hx17) ?_)
   intro e_ w22 hq_;obtain⟨rfl,hx18,hl10⟩:=ej hq_
   refine⟨_,rfl,?_⟩
   replace hI:=(hI.ext hx18)
   refine aG ?_
   exact kj ()
  exact aT (br () SB BH rfl)
 refine T ?_
 obtain⟨c30,f3,hB,hl11,hk3⟩:=hI.hands (.l (.r .n))
 obtain⟨⟨r13,s3⟩,hx19,h⟩:=ab h
 try dsimp only at h
 refine bq gn rfl (Rc Tryz.func68) (Calls.mono (aD HS hx19) ?_)
 rintro _ w23 ⟨a12,c31,c32,rfl,hB2⟩
 refine HN hk3 hB2 fun c33 hI=> ?_
 refine⟨_,rfl,?_⟩
 refine TC (fun hb h=> ?_) fun hb h=> ?_
 ·refine T ?_
  obtain⟨c34,f4,hB,hl12,hk4⟩:=hI.hands (.l (.r .n))
  refine dZ h (fun _ hx20=>hG HS hx20) (ko hk4) (Rc Tryz.func128) ?_
  rintro⟨r14,s4⟩ hx20 h _ w24 ⟨a13,c35,c36,rfl,hB2⟩
  try dsimp only at h
  refine HN hk4 hB2 fun c37 hI=> ?_
  refine⟨_,rfl,?_⟩
  refine sa ?_
  refine aG ?_
  exact kj (r14,s4,a13,c35)
 exact aT (br (([]:List UInt8),s3,a12,c31) SB BH rfl)
def fi:Tr:=(.c (9,.s) (.c (10,.q) .n))
def dO:Tr:=(.c (4,.s) (.c (5,.q) (.c (6,.q) (.c (7,.q) fi))))
def cJ:Tr:=(.c (0,.s) dO)
def bt:Tr:=(.c (3,.s) dO)
def cK:Tr:=(.two 4 (.c (5,.q) (.c (6,.q) (.c (7,.q) (.c (8,.s) fi)))) 8 dO)
theorem fF {r1:aa} (hI:Bun C0 F w0 C0 w0 [MO.box b1 67 (ae r1 a1 c1)] [Cl.sl ah a1 c1 r1.l,ap]) {r:bC (ay×aa)} (h:bV r1=some r):CP C0 F w0 31 #[vp b1 0] r fun rx e w=>∃ a2 c2 a3 c3 C,e= .returned (Value.agg (dM rx.1 a2 c2))∧Bun C0 F w0 C w [MO.box b1 67 (ae rx.2 a3 c3)] [Cl.sl ag a2 c2 rx.1.L,Cl.sl ah a3 c3 rx.2.l]:=by
 refine eY (l:=[vp b1 0]) Tryz.func31 rfl Tryz.ntmps31 rfl ?_
 rw[bV]at h
 refine sr (cP (cs:=#[vi 0,vs none 0 0]) hI gn rfl rfl kS rfl ?_)
 intro b2 c4 w1 hI
 refine T ?_
 obtain⟨c5,f1,hB,hl1,hk1⟩:=hI.hands (.r (.l .n))
 obtain⟨⟨r2,s1⟩,hx1,h⟩:=ab h
 try dsimp only at h
 refine bq gn rfl (Rc Tryz.func68) (Calls.mono (aD HS hx1) ?_)
 rintro _ w2 ⟨a4,c6,c7,rfl,hB2⟩
 refine HN hk1 hB2 fun c8 hI=> ?_
 refine⟨_,rfl,?_⟩
 refine T ?_
 refine sq (aH (vs:=[]) (cs:=#[vi 0,vs none 0 0]) rfl trivial (by kernel_rfl)) ?_
 refine lN fun b3 c9 w3 hI=> ?_
 refine lA fun c10 w4 hI=> ?_
 refine T ?_
 have hI:=hI.add (c:=Cl.sl ag none 0 ([]:List aw)) SlC.nil
 refine bh (α:=Nat×Bool×aa×ay×(Option Addr)×Nat×(Option Addr)×Nat) (fun x=>fun w=>∃ C,Bun C0 F w0 C w [MO.box b1 67 (ae (x.2.2.1) (x.2.2.2.2.1) (x.2.2.2.2.2.1)),MO.box b2 27 #[vi 0,vs none 0 0],MO.box b3 27 (dM (x.2.2.2.1) (x.2.2.2.2.2.2.1) (x.2.2.2.2.2.2.2))] [Cl.sl ah (x.2.2.2.2.1) (x.2.2.2.2.2.1) (x.2.2.1).l,Cl.sl ag (x.2.2.2.2.2.2.1) (x.2.2.2.2.2.2.2) (x.2.2.2.1).L,ap]∧aY (x.1) (x.2.1) (x.2.2.1) (x.2.2.2.1)=some r) (fun x _=>x.1) (fun x=>[(0,vp b1 0),(2,vp b2 0),(3,vb (x.2.1)),(4,vp b3 0)]) (fu,r2,s1,(⟨0,([]:List aw)⟩:ay),a4,c6,none,0) ⟨_,hI.arr (.c (.s .z) (.c (.s .z) (.c .z .n))) ⟨(.s .z),.z,(.s (.s (.s .z))),trivial⟩,h⟩ SB ?_
 clear h hI;rintro⟨fuel1,negative1,r3,sum1,a5,c11,a6,c12⟩ w5 ⟨c13,hI,h⟩
 dsimp only at hI h ⊢
 rcases fuel1 with _ | fuel1
 ·rw[aY]at h;cases h
 rw[aY]at h
 refine T ?_
 refine aj ?_
 rcases gR h with⟨⟨r4,s2⟩,hx2,h⟩ | ⟨pa_,pn_,hx2,hp_⟩
 rotate_left
 ·subst hp_
  refine aP [3,9] false (.c (1,.q) (.c (2,.q) (.three 0 (.two 3 cK 8 bt) 3 (.two 0 cK 8 cJ) 8 (.two 0 bt 3 cJ)))) hI (by kernel_rfl) (by kernel_rfl) ?_
  intro w15 hI
  refine fQ (α:=Nat×NP) (T:=bt) (fun x=>[(0,vp b1 0),(2,vp b2 0),(3,vb negative1),(4,vp b3 0),(5,vi r3.at_),(6,(Value.pointer (some ⟨(x.1),0,none⟩))),(11,vp b1 0),(12,vp b1 0),(13,vp b1 1),(14,vi r3.at_),(16,(Value.agg (dM sum1 a6 c12))),(17,vp b1 0),(18,vb negative1)]) (fun x w=>Bun C0 F w0 (x.2) w [MO.box (x.1) 27 #[vi 0,vs none 0 0],MO.box b1 67 (ae r3 a5 c11),MO.box b2 27 #[vi 0,vs none 0 0],MO.box b3 27 (dM sum1 a6 c12)] [Cl.sl ah a5 c11 r3.l,Cl.sl ag a6 c12 sum1.L,ap]) (fun x w=>SN [3,9] (DM false F (x.2)) w) ?_ ?_
  ·clear hI;rintro⟨b4,c23⟩ w11 hI
   try dsimp only at hI ⊢
   unfold bt
   refine gt (F:=F) (C:=c23) rfl rfl ?_
   obtain⟨c14,f2,hB,hl2,hk2⟩:=hI.hands (.r (.l (.r (.r .n))))
   refine eD rfl gn rfl (ax (vs:=[vp b1 0,vb negative1]) rfl tY ⟨et,⟨et,trivial⟩⟩) (Calls.mono (cC HS hx2) ?_)
   intro e_ w_ hq_;obtain⟨rfl,C_,hB_⟩:=el hq_;obtain⟨C9_,-,hI_⟩:=hk2 _ _ _ _ hB_;exact .inr ⟨_,rfl,gO (.inr ⟨_,_,rfl,rfl,⟨_,hI_.arr .n trivial⟩⟩)⟩
  intro hk_tr_parser_reader_form_w_3_1
  refine V ?_
  refine th ?_ ?_ ?_
  ·skip
   refine dI rfl gn rfl (am (l:=(gY sum1 a6 c12)) rfl et oH rfl bk (CellsAt.of_blk (hI.blk (.s (.s .z))) rfl)) SX.self ?_
   refine gC ?_ ?_
   ·skip
    refine dx (F:=F) (C:=c13) rfl rfl ?_
    obtain⟨c14,f2,hB,hl2,hk2⟩:=hI.hands (.l (.r (.r .n)))
    refine eD rfl gn rfl (ax (vs:=[vp b1 0,vb negative1]) rfl tY ⟨et,⟨et,trivial⟩⟩) (Calls.mono (cC HS hx2) ?_)
    intro e_ w_ hq_;obtain⟨rfl,C_,hB_⟩:=el hq_;obtain⟨C9_,-,hI_⟩:=hk2 _ _ _ _ hB_;exact .inr ⟨_,rfl,gO (.inr ⟨_,_,rfl,rfl,⟨_,hI_.arr .n trivial⟩⟩)⟩
   refine ir (cs:=#[vi 0,vs none 0 0]) hI rfl gn rfl rfl kS rfl ?_
   intro b4 c20 w8 hI
   exact cD (hk_tr_parser_reader_form_w_3_1 (b4,c20) _ (hI.arr GO SU)) SB
  ·skip
   refine dx (F:=F) (C:=c13) rfl rfl ?_
   obtain⟨c14,f2,hB,hl2,hk2⟩:=hI.hands (.l (.r (.r .n)))
   refine eD rfl gn rfl (ax (vs:=[vp b1 0,vb negative1]) rfl tY ⟨et,⟨et,trivial⟩⟩) (Calls.mono (cC HS hx2) ?_)
   intro e_ w_ hq_;obtain⟨rfl,C_,hB_⟩:=el hq_;obtain⟨C9_,-,hI_⟩:=hk2 _ _ _ _ hB_;exact .inr ⟨_,rfl,gO (.inr ⟨_,_,rfl,rfl,⟨_,hI_.arr .n trivial⟩⟩)⟩
  refine ir (cs:=#[vi 0,vs none 0 0]) hI rfl gn rfl rfl kS rfl ?_
  intro b4 c20 w8 hI
  refine gC ?_ ?_
  ·skip
   refine dI rfl gn rfl (am (l:=(gY sum1 a6 c12)) rfl et oH rfl bk (CellsAt.of_blk (hI.blk (.s (.s (.s .z)))) rfl)) SX.self ?_
   exact cD (hk_tr_parser_reader_form_w_3_1 (b4,c20) _ (hI.arr GO SU)) SB
  refine dx (F:=F) (C:=c20) rfl rfl ?_
  obtain⟨c14,f2,hB,hl2,hk2⟩:=hI.hands (.r (.l (.r (.r .n))))
  refine eD rfl gn rfl (ax (vs:=[vp b1 0,vb negative1]) rfl tY ⟨et,⟨et,trivial⟩⟩) (Calls.mono (cC HS hx2) ?_)
  intro e_ w_ hq_;obtain⟨rfl,C_,hB_⟩:=el hq_;obtain⟨C9_,-,hI_⟩:=hk2 _ _ _ _ hB_;exact .inr ⟨_,rfl,gO (.inr ⟨_,_,rfl,rfl,⟨_,hI_.arr .n trivial⟩⟩)⟩
 try dsimp only at h
 obtain⟨r5,hx3,h⟩:=ab h
 refine aP [3,9] false (.c (1,.q) (.c (2,.q) (.three 0 (.two 3 cK 8 bt) 3 (.two 0 cK 8 cJ) 8 (.two 0 bt 3 cJ)))) hI (by kernel_rfl) (by kernel_rfl) ?_
 intro w16 hI
 refine fQ (α:=(Option Addr)×Nat×(Option Addr)×Nat×(Option Addr)×Nat×Nat×NP) (T:=fi) (fun x=>[(0,vp b1 0),(2,vp b2 0),(3,vb negative1),(4,vp b3 0),(5,vi r3.at_),(6,(Value.pointer (some ⟨(x.2.2.2.2.2.2.1),0,none⟩))),(11,vp b1 0),(12,vp b1 0),(13,vp b1 1),(14,vi r3.at_),(15,(Value.tuple #[(Value.agg (dM r5.1 (x.2.2.2.2.1) (x.2.2.2.2.2.1))),vi r5.2])),(16,(Value.agg (dM sum1 a6 c12))),(17,vp b1 0),(18,vb negative1),(19,(Value.agg (dM r4 (x.1) (x.2.1)))),(20,(Value.tuple #[(Value.agg (dM r5.1 (x.2.2.2.2.1) (x.2.2.2.2.2.1))),vi r5.2])),(21,(Value.agg (dM r5.1 (x.2.2.2.2.1) (x.2.2.2.2.2.1)))),(22,vi r5.2)]) (fun x w=>Bun C0 F w0 (x.2.2.2.2.2.2.2) w [MO.box (x.2.2.2.2.2.2.1) 27 #[vi 0,vs none 0 0],MO.box b1 67 (ae s2 (x.2.2.1) (x.2.2.2.1)),MO.box b2 27 #[vi 0,vs none 0 0],MO.box b3 27 (dM sum1 a6 c12)] [Cl.sl ag (x.2.2.2.2.1) (x.2.2.2.2.2.1) r5.1.L,Cl.sl ag (x.1) (x.2.1) r4.L,Cl.sl ah (x.2.2.1) (x.2.2.2.1) s2.l,Cl.sl ah a5 c11 r3.l,Cl.sl ag a6 c12 sum1.L,ap]) (fun x w=>SN [] (DM true F (x.2.2.2.2.2.2.2)) w) ?_ ?_
 ·clear hI;rintro⟨a7,c15,a8,c16,a9,c19,b4,c26⟩ w14 hI
  try dsimp only at hI ⊢
  unfold fi
  refine vA fun c21 w9 hI=> ?_
  refine V ?_
  refine bJ (α:=Unit) (fun _=>⟨36,[]⟩) (fun _=>[(0,vp b1 0),(2,vp b2 0),(4,vp b3 0),(6,vp b4 0)]) (fun _=>fun w=>∃ C,Bun C0 F w0 C w [MO.box b1 67 (ae s2 a8 c16),MO.box b2 27 #[vi 0,vs none 0 0],MO.box b3 27 (dM sum1 a6 c12),MO.box b4 27 (dM r5.1 a9 c19)] [Cl.sl ah a8 c16 s2.l,Cl.sl ag a6 c12 sum1.L,Cl.sl ag a9 c19 r5.1.L,ap]∧dp s2 (aY fuel1) r5=some r) ?_ ?_
  ·clear h hI;rintro _ w17 ⟨c27,hI,h⟩
   try dsimp only at hI h ⊢
   rw[dp]at h
   refine T ?_
   refine lA fun c28 w18 hI=> ?_
   refine T ?_
   obtain⟨c29,f3,hB,hl4,hk3⟩:=hI.hands (.l (.r (.r (.r .n))))
   obtain⟨⟨r6,s3⟩,hx5,h⟩:=ab h
   try dsimp only at h
   refine bq gn rfl (Rc Tryz.func68) (Calls.mono (aD HS hx5) ?_)
   rintro _ w19 ⟨a10,c30,c31,rfl,hB2⟩
   refine HN hk3 hB2 fun c32 hI=> ?_
   refine⟨_,rfl,?_⟩
   refine TC (fun hb h=> ?_) fun hb h=> ?_
   ·refine T ?_
    refine aG ?_
    exact kP (fuel1,false,s3,r5.1,a10,c30,a9,c19) SB ⟨_,hI.arr GO SU,h⟩ (Nat.lt_succ_self _)
   refine T ?_
   obtain⟨c33,f4,hB,hl5,hk4⟩:=hI.hands (.l (.r (.r (.r .n))))
   obtain⟨⟨r7,s4⟩,hx6,h⟩:=ab h
   try dsimp only at h
   refine bq gn rfl (Rc Tryz.func68) (Calls.mono (aD HS hx6) ?_)
   rintro _ w20 ⟨a11,c34,c35,rfl,hB2⟩
   refine HN hk4 hB2 fun c36 hI=> ?_
   refine⟨_,rfl,?_⟩
   refine TC (fun hb h=> ?_) fun hb h=> ?_
   ·refine T ?_
    refine aG ?_
    exact kP (fuel1,true,s4,r5.1,a11,c34,a9,c19) SB ⟨_,hI.arr GO SU,h⟩ (Nat.lt_succ_self _)
   refine T ?_
   refine lA fun c37 w21 hI=> ?_
   refine nk (aJ ?_)
   obtain rfl:=ak h
   refine QG ?_
   exact .inl ⟨_,rfl,a9,c19,a11,c34,_,rfl,hI.arr GO SU⟩
  refine TC (fun hb h=> ?_) fun hb h=> ?_
  ·refine T ?_
   rcases gR h with⟨r8,hx7,h⟩ | ⟨pa_,pn_,hx7,hp_⟩
   rotate_left
   ·subst hp_
    refine mP gn rfl (ax (vs:=[vp b1 0,vi r3.at_,vi 3]) rfl su ⟨et,⟨et,⟨af,trivial⟩⟩⟩) (Calls.mono (aN NE ⟨(hI.get0 (.s (.s .z))),hI.lendBox (.s .z),trivial⟩ hx7) ?_)
    intro e_ w_ hq_;obtain⟨rfl,hx_⟩:=el hq_;have hI_:=hI.ext hx_;exact .inr ⟨_,rfl,gO (.inr ⟨_,_,rfl,rfl,⟨_,hI_.arr .n trivial⟩⟩)⟩
   try dsimp only at h
   refine bq gn rfl (Rc Tryz.func71) (Calls.mono (aN NE ⟨(hI.get0 (.s (.s .z))),hI.lendBox (.s .z),trivial⟩ hx7) ?_)
   intro e_ w22 hq_;obtain⟨rfl,hx8,hl6⟩:=ej hq_
   refine⟨_,rfl,?_⟩
   replace hI:=(hI.ext hx8)
   refine aG ?_
   exact br () SB ⟨_,hI.arr GO SU,h⟩ rfl
  exact aT (br () SB ⟨_,hI.arr GO SU,h⟩ rfl)
 intro hk_tr_parser_reader_form_w_3_4
 refine fQ (α:=(Option Addr)×Nat×(Option Addr)×Nat×Nat×NP) (T:=dO) (fun x=>[(0,vp b1 0),(2,vp b2 0),(3,vb negative1),(4,vp b3 0),(5,vi r3.at_),(6,(Value.pointer (some ⟨(x.2.2.2.2.1),0,none⟩))),(11,vp b1 0),(12,vp b1 0),(13,vp b1 1),(14,vi r3.at_),(16,(Value.agg (dM sum1 a6 c12))),(17,vp b1 0),(18,vb negative1),(19,(Value.agg (dM r4 (x.1) (x.2.1))))]) (fun x w=>Bun C0 F w0 (x.2.2.2.2.2) w [MO.box (x.2.2.2.2.1) 27 #[vi 0,vs none 0 0],MO.box b1 67 (ae s2 (x.2.2.1) (x.2.2.2.1)),MO.box b2 27 #[vi 0,vs none 0 0],MO.box b3 27 (dM sum1 a6 c12)] [Cl.sl ag (x.1) (x.2.1) r4.L,Cl.sl ah (x.2.2.1) (x.2.2.2.1) s2.l,Cl.sl ah a5 c11 r3.l,Cl.sl ag a6 c12 sum1.L,ap]) (fun x w=>SN [] (DM true F (x.2.2.2.2.2)) w) ?_ ?_
 ·clear hI;rintro⟨a7,c15,a8,c16,b4,c25⟩ w13 hI
  try dsimp only at hI ⊢
  unfold dO
  refine bN rfl gn rfl (ax (vs:=[(Value.agg (dM sum1 a6 c12)),(Value.agg (dM r4 a7 c15))]) rfl HC ⟨et,⟨et,trivial⟩⟩) (Calls.mono (x7 hI.lt FS hx3) ?_)
  rintro _ w7 ⟨a9,c19,rfl,hx4,hl3⟩
  refine⟨_,rfl,hx4,?_⟩
  replace hI:=(hI.ext hx4).adds hl3;dsimp only[ca,na]at hI
  refine V ?_
  exact cD (hk_tr_parser_reader_form_w_3_4 (a7,c15,a8,c16,a9,c19,b4,c25) _ (hI.arr GO SU)) SB
 intro hk_tr_parser_reader_form_w_3_3
 refine fQ (α:=(Option Addr)×Nat×(Option Addr)×Nat×Nat×NP) (T:=cJ) (fun x=>[(0,vp b1 0),(2,vp b2 0),(3,vb negative1),(4,vp b3 0),(5,vi r3.at_),(6,(Value.pointer (some ⟨(x.2.2.2.2.1),0,none⟩))),(11,vp b1 0),(12,vp b1 0),(13,vp b1 1),(14,vi r3.at_),(17,vp b1 0),(18,vb negative1),(19,(Value.agg (dM r4 (x.1) (x.2.1))))]) (fun x w=>Bun C0 F w0 (x.2.2.2.2.2) w [MO.box (x.2.2.2.2.1) 27 #[vi 0,vs none 0 0],MO.box b1 67 (ae s2 (x.2.2.1) (x.2.2.2.1)),MO.box b2 27 #[vi 0,vs none 0 0],MO.box b3 27 (dM sum1 a6 c12)] [Cl.sl ag (x.1) (x.2.1) r4.L,Cl.sl ah (x.2.2.1) (x.2.2.2.1) s2.l,Cl.sl ah a5 c11 r3.l,Cl.sl ag a6 c12 sum1.L,ap]) (fun x w=>SN [] (DM true F (x.2.2.2.2.2)) w) ?_ ?_
 ·clear hI;rintro⟨a7,c15,a8,c16,b4,c24⟩ w12 hI
  try dsimp only at hI ⊢
  unfold cJ
  refine dI rfl gn rfl (am (l:=(gY sum1 a6 c12)) rfl et oH rfl bk (CellsAt.of_blk (hI.blk (.s (.s (.s .z)))) rfl)) SX.self ?_
  exact cD (hk_tr_parser_reader_form_w_3_3 (a7,c15,a8,c16,b4,c24) _ (hI.arr GO SU)) SB
 intro hk_tr_parser_reader_form_w_3_2
 refine fQ (α:=Nat×NP) (T:=bt) (fun x=>[(0,vp b1 0),(2,vp b2 0),(3,vb negative1),(4,vp b3 0),(5,vi r3.at_),(6,(Value.pointer (some ⟨(x.1),0,none⟩))),(11,vp b1 0),(12,vp b1 0),(13,vp b1 1),(14,vi r3.at_),(16,(Value.agg (dM sum1 a6 c12))),(17,vp b1 0),(18,vb negative1)]) (fun x w=>Bun C0 F w0 (x.2) w [MO.box (x.1) 27 #[vi 0,vs none 0 0],MO.box b1 67 (ae r3 a5 c11),MO.box b2 27 #[vi 0,vs none 0 0],MO.box b3 27 (dM sum1 a6 c12)] [Cl.sl ah a5 c11 r3.l,Cl.sl ag a6 c12 sum1.L,ap]) (fun x w=>SN [3,9] (DM false F (x.2)) w) ?_ ?_
 ·clear hI;rintro⟨b4,c23⟩ w11 hI
  try dsimp only at hI ⊢
  unfold bt
  refine gt (F:=F) (C:=c23) rfl rfl ?_
  obtain⟨c14,f2,hB,hl2,hk2⟩:=hI.hands (.r (.l (.r (.r .n))))
  refine eC rfl gn rfl (ax (vs:=[vp b1 0,vb negative1]) rfl tY ⟨et,⟨et,trivial⟩⟩) (Calls.mono (cC HS hx2) ?_)
  intro e_ w6 hq_;obtain⟨a7,c15,a8,c16,c17,rfl,hB2⟩:=ej hq_
  obtain⟨c18,hs2,hI⟩:=hk2 _ _ _ _ hB2
  dsimp only[ca,na]at hI
  refine⟨_,rfl,DM true F c18,hs2,?_⟩
  exact cD (hk_tr_parser_reader_form_w_3_3 (a7,c15,a8,c16,b4,c18) _ (hI.arr GO SU)) SB
 intro hk_tr_parser_reader_form_w_3_1
 refine fQ (α:=(Option Addr)×Nat×(Option Addr)×Nat×NP) (T:=cK) (fun x=>[(0,vp b1 0),(2,vp b2 0),(3,vb negative1),(4,vp b3 0),(5,vi r3.at_),(11,vp b1 0),(12,vp b1 0),(13,vp b1 1),(14,vi r3.at_),(16,(Value.agg (dM sum1 a6 c12))),(17,vp b1 0),(18,vb negative1),(19,(Value.agg (dM r4 (x.1) (x.2.1))))]) (fun x w=>Bun C0 F w0 (x.2.2.2.2) w [MO.box b1 67 (ae s2 (x.2.2.1) (x.2.2.2.1)),MO.box b2 27 #[vi 0,vs none 0 0],MO.box b3 27 (dM sum1 a6 c12)] [Cl.sl ag (x.1) (x.2.1) r4.L,Cl.sl ah (x.2.2.1) (x.2.2.2.1) s2.l,Cl.sl ah a5 c11 r3.l,Cl.sl ag a6 c12 sum1.L,ap]) (fun x w=>SN [] (DM true F (x.2.2.2.2)) w) ?_ ?_
 ·clear hI;rintro⟨a7,c15,a8,c16,c22⟩ w10 hI
  try dsimp only at hI ⊢
  unfold cK
  refine gC ?_ ?_
  ·skip
   refine bN rfl gn rfl (ax (vs:=[(Value.agg (dM sum1 a6 c12)),(Value.agg (dM r4 a7 c15))]) rfl HC ⟨et,⟨et,trivial⟩⟩) (Calls.mono (x7 hI.lt FS hx3) ?_)
   rintro _ w7 ⟨a9,c19,rfl,hx4,hl3⟩
   refine⟨_,rfl,hx4,?_⟩
   replace hI:=(hI.ext hx4).adds hl3;dsimp only[ca,na]at hI
   refine V ?_
   refine ir (cs:=#[vi 0,vs none 0 0]) hI rfl gn rfl rfl kS rfl ?_
   intro b4 c20 w8 hI
   exact cD (hk_tr_parser_reader_form_w_3_4 (a7,c15,a8,c16,a9,c19,b4,c20) _ (hI.arr GO SU)) SB
  refine ir (cs:=#[vi 0,vs none 0 0]) hI rfl gn rfl rfl kS rfl ?_
  intro b4 c20 w8 hI
  exact cD (hk_tr_parser_reader_form_w_3_3 (a7,c15,a8,c16,b4,c20) _ (hI.arr GO SU)) SB
 intro hk_tr_parser_reader_form_w_3_0
 refine V ?_
 refine th ?_ ?_ ?_
 ·skip
  refine dI rfl gn rfl (am (l:=(gY sum1 a6 c12)) rfl et oH rfl bk (CellsAt.of_blk (hI.blk (.s (.s .z))) rfl)) SX.self ?_
  refine gC ?_ ?_
  ·skip
   refine dx (F:=F) (C:=c13) rfl rfl ?_
   obtain⟨c14,f2,hB,hl2,hk2⟩:=hI.hands (.l (.r (.r .n)))
   refine eC rfl gn rfl (ax (vs:=[vp b1 0,vb negative1]) rfl tY ⟨et,⟨et,trivial⟩⟩) (Calls.mono (cC HS hx2) ?_)
   intro e_ w6 hq_;obtain⟨a7,c15,a8,c16,c17,rfl,hB2⟩:=ej hq_
   obtain⟨c18,hs2,hI⟩:=hk2 _ _ _ _ hB2
   dsimp only[ca,na]at hI
   refine⟨_,rfl,DM true F c18,hs2,?_⟩
   exact cD (hk_tr_parser_reader_form_w_3_0 (a7,c15,a8,c16,c18) _ (hI.arr GO SU)) SB
  refine ir (cs:=#[vi 0,vs none 0 0]) hI rfl gn rfl rfl kS rfl ?_
  intro b4 c20 w8 hI
  exact cD (hk_tr_parser_reader_form_w_3_1 (b4,c20) _ (hI.arr GO SU)) SB
 ·skip
  refine dx (F:=F) (C:=c13) rfl rfl ?_
  obtain⟨c14,f2,hB,hl2,hk2⟩:=hI.hands (.l (.r (.r .n)))
  refine eC rfl gn rfl (ax (vs:=[vp b1 0,vb negative1]) rfl tY ⟨et,⟨et,trivial⟩⟩) (Calls.mono (cC HS hx2) ?_)
  intro e_ w6 hq_;obtain⟨a7,c15,a8,c16,c17,rfl,hB2⟩:=ej hq_
  obtain⟨c18,hs2,hI⟩:=hk2 _ _ _ _ hB2
  dsimp only[ca,na]at hI
  refine⟨_,rfl,DM true F c18,hs2,?_⟩
  refine gC ?_ ?_
  ·skip
   refine dI rfl gn rfl (am (l:=(gY sum1 a6 c12)) rfl et oH rfl bk (CellsAt.of_blk (hI.blk (.s (.s .z))) rfl)) SX.self ?_
   exact cD (hk_tr_parser_reader_form_w_3_0 (a7,c15,a8,c16,c18) _ (hI.arr GO SU)) SB
  refine ir (cs:=#[vi 0,vs none 0 0]) hI rfl gn rfl rfl kS rfl ?_
  intro b4 c20 w8 hI
  exact cD (hk_tr_parser_reader_form_w_3_2 (a7,c15,a8,c16,b4,c20) _ (hI.arr GO SU)) SB
 refine ir (cs:=#[vi 0,vs none 0 0]) hI rfl gn rfl rfl kS rfl ?_
 intro b4 c20 w8 hI
 refine gC ?_ ?_
 ·skip
  refine dI rfl gn rfl (am (l:=(gY sum1 a6 c12)) rfl et oH rfl bk (CellsAt.of_blk (hI.blk (.s (.s (.s .z)))) rfl)) SX.self ?_
  exact cD (hk_tr_parser_reader_form_w_3_1 (b4,c20) _ (hI.arr GO SU)) SB
 refine dx (F:=F) (C:=c20) rfl rfl ?_
 obtain⟨c14,f2,hB,hl2,hk2⟩:=hI.hands (.r (.l (.r (.r .n))))
 refine eC rfl gn rfl (ax (vs:=[vp b1 0,vb negative1]) rfl tY ⟨et,⟨et,trivial⟩⟩) (Calls.mono (cC HS hx2) ?_)
 intro e_ w6 hq_;obtain⟨a7,c15,a8,c16,c17,rfl,hB2⟩:=ej hq_
 obtain⟨c18,hs2,hI⟩:=hk2 _ _ _ _ hB2
 dsimp only[ca,na]at hI
 refine⟨_,rfl,DM true F c18,hs2,?_⟩
 exact cD (hk_tr_parser_reader_form_w_3_2 (a7,c15,a8,c16,b4,c18) _ (hI.arr GO SU)) SB
theorem oE {a1:aa} {a3:ay} (hI:Bun C0 F w0 C0 w0 [MO.box b2 67 (ae a1 a2 c1),MO.box b3 27 (dM a3 a4 c2)] [Cl.sl ah a2 c1 a1.l,Cl.blk b1 65 #[vp b2 0],Cl.sl ag a4 c2 a3.L,ap]) {r:bC (Unit×aa×ay)} (h:mf a1 a3=some r):CP C0 F w0 30 #[vp b1 0,vp b3 0] r fun rx e w=>∃ a5 c3 a6 c4 C,e= .returned (Value.tuple #[])∧Bun C0 F w0 C w [MO.box b2 67 (ae rx.2.1 a5 c3),MO.box b3 27 (dM rx.2.2 a6 c4)] [Cl.sl ah a5 c3 rx.2.1.l,Cl.sl ag a6 c4 rx.2.2.L]:=by
 refine eY (l:=[vp b1 0,vp b3 0]) Tryz.func30 rfl Tryz.ntmps30 rfl ?_
 rw[mf]at h
 refine T ?_
 obtain⟨c5,f1,hB,hl1,hk1⟩:=hI.hands (.l (.r .n))
 refine dZ h (fun _ hx1=>fF HS hx1) (ko hk1) (Rc Tryz.func31) ?_
 rintro⟨r1,s1⟩ hx1 h _ w1 ⟨a7,c6,a8,c7,c8,rfl,hB2⟩
 try dsimp only at h
 refine HN hk1 hB2 fun c9 hI=> ?_
 refine⟨_,rfl,?_⟩
 refine lA fun c10 w2 hI=> ?_
 refine aG ?_
 obtain rfl:=ak h
 refine QG ?_
 exact .inl ⟨_,rfl,a8,c7,a7,c6,_,rfl,hI.arr GO SU⟩
def j9:Tr:= .n
def ka:Tr:=(.c (4,.s) (.c (6,.q) (.c (7,.q) j9)))
theorem zh (hF:dL F w0) {l1:List aU} {at1:Int} (hc:AllCl [Cl.sl ah a1 c1 l1,ap] F w0) {r:ay×Int×Int} (h:pF l1 at1=some r):Cg 12 #[vs a1 l1.length c1,vi at1] w0 fun e w=>∃ a2 c2,e= .returned (Value.tuple #[(Value.agg (dM r.1 a2 c2)),vi r.2.1,vi r.2.2])∧Ext w0 w∧AllCl [Cl.sl ag a2 c2 r.1.L] F w:=by
 refine EN Tryz.func12 Tryz.ntmps12 hF hc fun hI=> ?_
 rw[pF]at h
 refine sr (cP (cs:=#[vi 0,vs none 0 0]) hI gn rfl rfl kS rfl ?_)
 intro b1 c3 w1 hI
 refine tS ?_
 refine tS ?_
 refine nk (aj (sr (sm ?_)))
 refine sq (oY rfl et af) ?_
 refine sm ?_
 refine ar (bo rfl rfl rfl rfl) rfl (fun hc=>eF rfl et) ?_
 refine ar (bo rfl rfl rfl rfl) rfl (fun hc=>eF rfl et) ?_
 refine ar (bo rfl rfl rfl rfl) rfl (fun hc=>jc rfl JM (aF et hc)) ?_
 refine ar (bo rfl rfl rfl rfl) rfl (fun hc=>qh rfl (aF et hc) (aF et hc)) ?_
 refine sq (un rfl et et) ?_
 refine TC (fun hb h=> ?_) fun hb h=> ?_
 ·refine sr (sq (aH (vs:=[]) (cs:=#[vi 0,vs none 0 0]) rfl trivial (by kernel_rfl)) ?_)
  refine lA fun c4 w2 hI=> ?_
  refine tS ?_
  refine tS ?_
  refine nk (aJ ?_)
  have hI:=hI.add (c:=Cl.sl ag none 0 ([]:List aw)) SlC.nil
  obtain rfl:=ak h
  exact fr (vs:=[(Value.agg #[vi 0,vs none 0 0]),vi 0,vi 1]) Tryz.results12 ⟨⟨_,aI rfl rfl,gM (l:=[vi 0,vs none 0 0]) oH rfl bk (CellsAt.of_blk (hI.blk .z) rfl)⟩,⟨aI rfl rfl,⟨aI rfl rfl,trivial⟩⟩⟩ ⟨none,0,rfl,hI.ext0,hI.fin ⟨.z,trivial⟩⟩
 refine aT (aS (sr (sm ?_)))
 refine sm ?_
 refine sq (aH (vs:=[(0,vs a1 l1.length c1),(1,vi at1)]) (cs:=#[vs a1 l1.length c1,vi at1,vi 0]) rfl ⟨rfl,et,⟨rfl,et,trivial⟩⟩ (by kernel_rfl)) ?_
 refine C6 (v:=(Value.agg #[vs a1 l1.length c1,vi at1,vi 0])) (cs:=#[vs a1 l1.length c1,vi at1,vi 0]) hI gn rfl rfl et rfl ?_
 intro b2 c5 w3 hI
 refine lN fun b3 c6 w4 hI=> ?_
 refine lS fun c7 w5 hI=> ?_
 refine nk (sr (sq (aH (vs:=[]) (cs:=#[vi 0,vs none 0 0]) rfl trivial (by kernel_rfl)) ?_))
 refine lN fun b4 c8 w6 hI=> ?_
 refine lA fun c9 w7 hI=> ?_
 refine nk (aj (sr (sq (mF (vs:=[]) (cap:=[vp b3 0,vp b4 0]) rfl rfl ⟨et,⟨et,trivial⟩⟩) ?_)))
 obtain⟨c10,hI⟩:=hI.relBox (.s .z)
 have hI:=hI.add (c:=Cl.sl ag none 0 ([]:List aw)) SlC.nil
 obtain⟨c11,f1,hB,hl1,hk1⟩:=hI.hands (.l (.l (.r .n)))
 replace hB:=hB.ord (.c (.s .z) (.c .z .n))
 rcases tW h with⟨⟨r1,s1,s2⟩,hx1,h⟩ | ⟨pa1,pn1,hx1,hn1,h⟩
 ·skip
  try dsimp only at h
  refine bq gn rfl (Rc Tryz.func29) (Calls.mono (tb (β:=(Option Addr)×Nat×(Option Addr)×Nat) (fun x=>[MO.box b2 67 (ae s1 (x.1) (x.2.1)),MO.box b4 27 (dM s2 (x.2.2.1) (x.2.2.2))]) (fun x=>[Cl.sl ah (x.1) (x.2.1) s1.l,Cl.sl ag (x.2.2.1) (x.2.2.2) s2.L]) (cl:=[Cl.sl ah a1 c1 l1,Cl.blk b3 65 #[vp b2 0],Cl.sl ag none 0 ([]:List aw),ap]) HF (hB.subs ⟨(.s (.s .z)),(.s .z),.z,(.s (.s (.s .z))),trivial⟩) (fun C1_ F1_ w1_ hB_=>(oE hB_ hx1).mono fun e_ w_ hq_=>(let ⟨a3,c12,a4,c13,C_,he_,hB2_⟩:=ej hq_;⟨he_,(a3,c12,a4,c13),C_,hB2_⟩))) ?_)
  rintro _ w8 ⟨rfl,⟨a3,c12,a4,c13⟩,c14,hB2⟩
  obtain⟨c15,hs1,hI⟩:=hk1 _ _ _ _ hB2
  replace hI:Bun d7 F w0 c15 w8 [MO.box b2 67 (ae s1 a3 c12),MO.box b4 27 (dM s2 a4 c13),MO.box b1 27 #[vi 0,vs none 0 0]] [Cl.sl ah a3 c12 s1.l,Cl.sl ag a4 c13 s2.L,Cl.sl ag none 0 ([]:List aw),Cl.blk b3 65 #[vp b2 0],Cl.sl ah a1 c1 l1,ap]:=hI
  refine⟨_,rfl,?_⟩
  refine sm ?_
  refine sq (gu rfl et rfl) ?_
  refine sq (gu rfl et rfl) ?_
  refine sa ?_
  refine sa ?_
  refine nk (sr (sm ?_))
  refine sq (nJ rfl et af) ?_
  refine TC (fun hb h=> ?_) fun hb h=> ?_
  ·refine sr (sq (aH (vs:=[]) (cs:=#[vi 0,vs none 0 0]) rfl trivial (by kernel_rfl)) ?_)
   refine sm ?_
   refine sm ?_
   refine lA fun c16 w9 hI=> ?_
   refine sa ?_
   refine sa ?_
   refine aG ?_
   refine mN (e:=[(4,vp b1 0),(5,vi 0),(6,vi 0)]) SB ?_
   refine aJ ?_
   obtain rfl:=ak h
   exact fr (vs:=[(Value.agg #[vi 0,vs none 0 0]),vi 0,vi 0]) Tryz.results12 ⟨⟨_,aI rfl rfl,gM (l:=[vi 0,vs none 0 0]) oH rfl bk (CellsAt.of_blk (hI.blk (.s (.s .z))) rfl)⟩,⟨aI rfl rfl,⟨aI rfl rfl,trivial⟩⟩⟩ ⟨none,0,rfl,hI.ext0,hI.fin ⟨(.s (.s .z)),trivial⟩⟩
  refine aT (mN (e:=[(4,vp b1 0),(7,vp b3 0),(8,vp b4 0)]) ⟨rfl,rfl,rfl,trivial⟩ ?_)
  refine aj (aP [5] false (.c (0,.q) (.two 1 (.c (2,.q) (.c (3,.q) (.two 4 (.c (5,.s) (.c (6,.q) (.c (7,.q) j9))) 5 ka))) 5 (.c (1,.s) (.c (2,.q) (.c (3,.q) ka))))) hI (by kernel_rfl) (by kernel_rfl) ?_)
  intro w13 hI
  refine fQ (α:=NP) (T:=j9) (fun x=>[(4,vp b1 0),(5,vi s1.at_),(6,vi 0),(7,vp b3 0),(8,vp b4 0),(35,(Value.agg (dM s2 a4 c13))),(36,vp b2 0),(37,vp b2 0),(38,vp b2 1),(39,vi s1.at_)]) (fun x w=>Bun d7 F w0 x w [MO.box b2 67 (ae s1 a3 c12),MO.box b4 27 (dM s2 a4 c13),MO.box b1 27 (dM s2 a4 c13)] [Cl.sl ah a3 c12 s1.l,Cl.sl ag a4 c13 s2.L,Cl.sl ag none 0 ([]:List aw),Cl.blk b3 65 #[vp b2 0],Cl.sl ah a1 c1 l1,ap]) (fun x w=>SN [] (DM true F x) w) ?_ ?_
  ·clear hI;rintro c19 w12 hI
   try dsimp only at hI ⊢
   unfold j9
   refine nu ?_
   refine aS (aJ ?_)
   obtain rfl:=ak h
   exact fr (vs:=[(Value.agg (dM s2 a4 c13)),vi s1.at_,vi 0]) Tryz.results12 ⟨⟨_,aI rfl rfl,gM (l:=(gY s2 a4 c13)) oH rfl bk (CellsAt.of_blk (hI.blk (.s (.s .z))) rfl)⟩,⟨aI rfl rfl,⟨aI rfl rfl,trivial⟩⟩⟩ ⟨a4,c13,rfl,hI.ext0,hI.fin ⟨(.s .z),trivial⟩⟩
  intro hk_tr_parser_Lin_1_1
  refine fQ (α:=NP) (T:=ka) (fun x=>[(4,vp b1 0),(7,vp b3 0),(8,vp b4 0),(35,(Value.agg (dM s2 a4 c13))),(36,vp b2 0),(37,vp b2 0),(38,vp b2 1)]) (fun x w=>Bun d7 F w0 x w [MO.box b2 67 (ae s1 a3 c12),MO.box b4 27 (dM s2 a4 c13),MO.box b1 27 (dM s2 a4 c13)] [Cl.sl ah a3 c12 s1.l,Cl.sl ag a4 c13 s2.L,Cl.sl ag none 0 ([]:List aw),Cl.blk b3 65 #[vp b2 0],Cl.sl ah a1 c1 l1,ap]) (fun x w=>SN [] (DM true F x) w) ?_ ?_
  ·clear hI;rintro c18 w11 hI
   try dsimp only at hI ⊢
   unfold ka
   refine dI rfl gn rfl (aO (v:=(vi s1.at_)) rfl et u3 rfl (CellsAt.of_blk (hI.blk .z) rfl)) SX.self ?_
   refine iy rfl gn rfl (fun w'=>cb rfl et) ?_
   refine iy rfl gn rfl (fun w'=>cb rfl af) ?_
   exact cD (hk_tr_parser_Lin_1_1 c18 _ (hI.arr GO SU)) SB
  intro hk_tr_parser_Lin_1_0
  refine d5 rfl gn rfl (fun w' hw'=>(am (l:=(gY s2 a4 c13)) rfl et oH rfl bk ((CA.blk (hI.blk (.s .z)) rfl).at_ (SX.any rfl hw')))) (by kernel_rfl) ?_
  refine gC ?_ ?_
  ·skip
   refine dI rfl gn rfl (aO (v:=(vp b2 0)) rfl et K2 rfl (hI.kblk (l:=[vp b2 0]) (.s (.s (.s .z))) rfl).1) SX.self ?_
   refine iy rfl gn rfl (fun w'=>mE rfl et) ?_
   refine iy rfl gn rfl (fun w'=>ao rfl et K1 rfl jk rfl) ?_
   refine gC ?_ ?_
   ·skip
    refine dI rfl gn rfl (aO (v:=(vi s1.at_)) rfl et u3 rfl (CellsAt.of_blk (hI.blk .z) rfl)) SX.self ?_
    refine gt (F:=F) (C:=c15) rfl rfl ?_
    refine vA fun c17 w10 hI=> ?_
    refine iy rfl gn rfl (fun w'=>cb rfl et) ?_
    refine iy rfl gn rfl (fun w'=>cb rfl af) ?_
    exact cD (hk_tr_parser_Lin_1_1 c17 _ (hI.arr GO SU)) SB
   refine dx (F:=F) (C:=c15) rfl rfl ?_
   refine vA fun c17 w10 hI=> ?_
   exact cD (hk_tr_parser_Lin_1_0 c17 _ (hI.arr GO SU)) SB
  refine dx (F:=F) (C:=c15) rfl rfl ?_
  refine vA fun c17 w10 hI=> ?_
  refine dI rfl gn rfl (aO (v:=(vp b2 0)) rfl et K2 rfl (hI.kblk (l:=[vp b2 0]) (.s (.s (.s .z))) rfl).1) SX.self ?_
  refine iy rfl gn rfl (fun w'=>mE rfl et) ?_
  refine iy rfl gn rfl (fun w'=>ao rfl et K1 rfl jk rfl) ?_
  exact cD (hk_tr_parser_Lin_1_0 c17 _ (hI.arr GO SU)) SB
 try dsimp only at h
 refine bq gn rfl (Rc Tryz.func29) (Calls.mono (tc (cl:=[Cl.sl ah a1 c1 l1,Cl.blk b3 65 #[vp b2 0],Cl.sl ag none 0 ([]:List aw),ap]) HF (hB.subs ⟨(.s (.s .z)),(.s .z),.z,(.s (.s (.s .z))),trivial⟩) (fun C1_ F1_ w1_ hB_=>(oE hB_ hx1).mono fun e_ w_ hq_=>el hq_)) ?_)
 rintro _ w14 ⟨rfl,c20,hB2⟩
 obtain⟨c21,hs2,hI⟩:=hk1 _ _ _ _ hB2
 replace hI:Bun d7 F w0 c21 w14 [MO.box b1 27 #[vi 0,vs none 0 0]] [Cl.sl ag none 0 ([]:List aw),Cl.blk b3 65 #[vp b2 0],Cl.sl ah a1 c1 l1,ap]:=hI
 refine⟨_,rfl,?_⟩
 have hk2:(!decide (pn1=0))=true:=by simp[hn1]
 refine sm ?_
 refine sq (gu rfl et rfl) ?_
 refine sq (gu rfl et rfl) ?_
 refine sa ?_
 refine sa ?_
 refine nk (sr (sm ?_))
 refine sq (nJ rfl et af) ?_
 refine nk (qL (b:= !decide (pn1=0)) et (fun _=> ?_) (fun hb=>absurd (hb.symm.trans hk2) (by simp)))
 refine sr (sq (aH (vs:=[]) (cs:=#[vi 0,vs none 0 0]) rfl trivial (by kernel_rfl)) ?_)
 refine sm ?_
 refine sm ?_
 refine lA fun c22 w15 hI=> ?_
 refine sa ?_
 refine sa ?_
 refine aG ?_
 refine mN (e:=[(4,vp b1 0),(5,vi pa1),(6,vi pn1)]) SB ?_
 refine aJ ?_
 obtain rfl:=ak h
 exact fr (vs:=[(Value.agg #[vi 0,vs none 0 0]),vi pa1,vi pn1]) Tryz.results12 ⟨⟨_,aI rfl rfl,gM (l:=[vi 0,vs none 0 0]) oH rfl bk (CellsAt.of_blk (hI.blk .z) rfl)⟩,⟨aI rfl rfl,⟨aI rfl rfl,trivial⟩⟩⟩ ⟨none,0,rfl,hI.ext0,hI.fin ⟨.z,trivial⟩⟩
theorem xo (hF:dL F w0) {r1:Int} (hc:AllCl [] F w0) {r:Bool} (h:ia r1=some r):CR F w0 153 #[(Value.int .i32 r1)] (vb r) []:=by
 refine EN Tryz.func153 Tryz.ntmps153 hF hc fun hI=> ?_
 rw[ia]at h
 refine T ?_
 refine aj (T ?_)
 refine aj (T ?_)
 refine TC (fun hb h=> ?_) fun hb h=> ?_
 ·refine TR fun hb h=> ?_
  exact RF
 refine TC (fun hb h=> ?_) fun hb h=> ?_
 ·refine TR fun hb h=> ?_
  exact RF
 refine TC (fun hb h=> ?_) fun hb h=> ?_
 ·refine TR fun hb h=> ?_
  exact RF
 refine TR fun hb h=> ?_
 exact RF
theorem wt (hF:dL F w0) {r1:Int} (hc:AllCl [] F w0) {r:Bool} (h:mh r1=some r):CR F w0 155 #[(Value.int .i32 r1)] (vb r) []:=by
 refine EN Tryz.func155 Tryz.ntmps155 hF hc fun hI=> ?_
 rw[mh]at h
 exact RF
theorem sX (hF:dL F w0) {s1:List UInt8} (hc:AllCl [] F w0) {r:Int} (h:gX s1=some r):CR F w0 83 #[(str s1)] (vi r) []:=by
 refine EN Tryz.func83 Tryz.ntmps83 hF hc fun hI=> ?_
 rw[gX]at h
 refine T ?_
 refine aj (T ?_)
 refine bh (α:=Nat×Int) (fun x=>fun w=>∃ C,Bun d7 F w0 C w [] []∧dz s1 (x.1) (x.2)=some r) (fun x _=>x.1) (fun x=>[(0,(str s1)),(3,vi (x.2))]) (fu,0) BH SB ?_
 clear h hI;rintro⟨fuel1,at1⟩ w1 ⟨c1,hI,h⟩
 dsimp only at hI h ⊢
 rcases fuel1 with _ | fuel1
 ·rw[dz]at h;cases h
 rw[dz]at h
 refine aj (T ?_)
 refine TC (fun hb h=> ?_) fun hb h=> ?_
 ·refine T ?_
  obtain⟨b1,hx1,h⟩:=ab h
  refine sI ?_
  refine T ?_
  refine sB h (fun _ k=>xo hI.lt trivial k) (Rc Tryz.func153) fun r1 w2 h hI=> ?_
  refine TC (fun hb h=> ?_) fun hb h=> ?_
  ·refine T ?_
   refine aG ?_
   exact kl (fuel1,au (at1+1))
  refine TC (fun hb h=> ?_) fun hb h=> ?_
  ·refine T ?_
   obtain⟨s2,hx4,h⟩:=ab h
   refine sI ?_
   have hI:=hI.add (c:=q9 (Value.func (.func 155) #[] #[]) mh) ⟨rfl,fun D' w' hs hl x_1 r k h=>CallV.fn (cap:=[]) I6 (wt hl trivial h)⟩
   refine sB h (fun _ k=>nD hI.lt FS k) (Rc Tryz.func154) fun r2 w3 h hI=> ?_
   refine T ?_
   refine aG ?_
   exact kl (fuel1,au (at1+r2))
  exact RF
 refine bp ?_
 refine fE ?_
 refine aS ?_
 exact RF
theorem ws (hF:dL F w0) {r1:Int} (hc:AllCl [] F w0) {r:Bool} (h:iq r1=some r):CR F w0 159 #[(Value.int .i32 r1)] (vb r) []:=by
 refine EN Tryz.func159 Tryz.ntmps159 hF hc fun hI=> ?_
 rw[iq]at h
 refine T ?_
 refine aj (T ?_)
 refine aj (T ?_)
 refine TC (fun hb h=> ?_) fun hb h=> ?_
 ·refine TR fun hb h=> ?_
  exact RF
 refine TC (fun hb h=> ?_) fun hb h=> ?_
 ·refine TR fun hb h=> ?_
  exact RF
 refine TC (fun hb h=> ?_) fun hb h=> ?_
 ·refine TR fun hb h=> ?_
  exact RF
 refine TC (fun hb h=> ?_) fun hb h=> ?_
 ·refine TR fun hb h=> ?_
  exact RF
 refine TC (fun hb h=> ?_) fun hb h=> ?_
 ·refine TR fun hb h=> ?_
  exact RF
 refine TC (fun hb h=> ?_) fun hb h=> ?_
 ·refine TR fun hb h=> ?_
  exact RF
 refine TC (fun hb h=> ?_) fun hb h=> ?_
 ·refine TR fun hb h=> ?_
  exact RF
 refine TC (fun hb h=> ?_) fun hb h=> ?_
 ·refine TR fun hb h=> ?_
  exact RF
 refine TC (fun hb h=> ?_) fun hb h=> ?_
 ·refine TR fun hb h=> ?_
  exact RF
 refine TC (fun hb h=> ?_) fun hb h=> ?_
 ·refine TR fun hb h=> ?_
  exact RF
 refine TC (fun hb h=> ?_) fun hb h=> ?_
 ·refine TR fun hb h=> ?_
  exact RF
 refine TC (fun hb h=> ?_) fun hb h=> ?_
 ·refine TR fun hb h=> ?_
  exact RF
 refine TC (fun hb h=> ?_) fun hb h=> ?_
 ·refine TR fun hb h=> ?_
  exact RF
 refine TC (fun hb h=> ?_) fun hb h=> ?_
 ·refine TR fun hb h=> ?_
  exact RF
 refine TC (fun hb h=> ?_) fun hb h=> ?_
 ·refine TR fun hb h=> ?_
  exact RF
 refine TC (fun hb h=> ?_) fun hb h=> ?_
 ·refine TR fun hb h=> ?_
  exact RF
 refine TC (fun hb h=> ?_) fun hb h=> ?_
 ·refine TR fun hb h=> ?_
  exact RF
 refine TC (fun hb h=> ?_) fun hb h=> ?_
 ·refine TR fun hb h=> ?_
  exact RF
 refine TC (fun hb h=> ?_) fun hb h=> ?_
 ·refine TR fun hb h=> ?_
  exact RF
 refine TR fun hb h=> ?_
 exact RF
theorem zi (hF:dL F w0) {s1:List UInt8} (hc:AllCl [] F w0) {r:Int×Int} (h:iY s1=some r):CR F w0 84 #[(str s1)] (Value.tuple #[vi r.1,vi r.2]) []:=by
 refine EN Tryz.func84 Tryz.ntmps84 hF hc fun hI=> ?_
 rw[iY]at h
 refine T ?_
 obtain⟨b1,hx1,h⟩:=ab h
 refine sI ?_
 refine T ?_
 refine aj (T ?_)
 refine sB h (fun _ k=>ob hI.lt trivial k) (Rc Tryz.func156) fun r1 w1 h hI=> ?_
 refine TC (fun hb h=> ?_) fun hb h=> ?_
 ·refine T ?_
  have hI:=hI.add (c:=q9 (Value.func (.func 157) #[] #[]) dA) ⟨rfl,fun D' w' hs hl x_1 r k h=>CallV.fn (cap:=[]) E8 (qI hl trivial h)⟩
  refine sB h (fun _ k=>nD hI.lt FS k) (Rc Tryz.func154) fun r2 w2 h hI=> ?_
  exact RF
 refine T ?_
 refine sB h (fun _ k=>oW hI.lt trivial k) (Rc Tryz.func158) fun r3 w3 h hI=> ?_
 refine TC (fun hb h=> ?_) fun hb h=> ?_
 ·refine T ?_
  have hI:=hI.add (c:=q9 (Value.func (.func 158) #[] #[]) eP) ⟨rfl,fun D' w' hs hl x_1 r k h=>CallV.fn (cap:=[]) I5 (oW hl trivial h)⟩
  refine sB h (fun _ k=>nD hI.lt FS k) (Rc Tryz.func154) fun r4 w4 h hI=> ?_
  exact RF
 refine T ?_
 obtain⟨b2,hx10,h⟩:=ab h
 replace hx10:=aC hx10
 refine sJ ?_
 refine TR fun hb h=> ?_
 refine T ?_
 refine sB h (fun _ k=>ws hI.lt trivial k) (Rc Tryz.func159) fun r5 w5 h hI=> ?_
 refine TR fun hb h=> ?_
 exact RF
theorem tI (hF:dL F w0) {s1:List UInt8} (hc:AllCl [] F w0) {r:List aU×Int×Int} (h:fc s1=some r):Cg 39 #[(str s1)] w0 fun e w=>∃ a1 c1,e= .returned (Value.tuple #[vs a1 r.1.length c1,vi r.2.1,vi r.2.2])∧Ext w0 w∧AllCl [Cl.sl ah a1 c1 r.1] F w:=by
 refine EN Tryz.func39 Tryz.ntmps39 hF hc fun hI=> ?_
 rw[fc]at h
 refine T ?_
 refine aj (T ?_)
 refine TC (fun hb h=> ?_) fun hb h=> ?_
 ·refine T ?_
  refine aJ ?_
  have hI:=hI.add (c:=Cl.sl ah none 0 ([]:List aU)) SlC.nil
  obtain rfl:=ak h
  refine QG ?_
  exact⟨none,0,rfl,hI.ext0,hI.fin ⟨.z,trivial⟩⟩
 refine T ?_
 refine aj (T ?_)
 refine sB h (fun _ k=>sX hI.lt trivial k) (Rc Tryz.func83) fun r1 w1 h hI=> ?_
 refine T ?_
 have hI:=hI.nil ah 62 none
 refine bh (α:=Nat×(List aU)×Int×(Option Addr)×Nat) (fun x=>fun w=>∃ C,Bun d7 F w0 C w [MO.row ah 62 (x.2.2.2.1) (x.2.2.2.2) (x.2.1)] []∧co s1 (x.1) (x.2.1) (x.2.2.1)=some r) (fun x _=>x.1) (fun x=>[(0,(str s1)),(5,vs (x.2.2.2.1) (x.2.1).length (x.2.2.2.2)),(6,vi (x.2.2.1))]) (fu,([]:List aU),r1,none,0) BH SB ?_
 clear h hI;rintro⟨fuel1,mz,at1,a2,c2⟩ w2 ⟨c3,hI,h⟩
 dsimp only at hI h ⊢
 rcases fuel1 with _ | fuel1
 ·rw[co]at h;cases h
 rw[co]at h
 refine aj (T ?_)
 refine TC (fun hb h=> ?_) fun hb h=> ?_
 ·refine T ?_
  refine aj (T ?_)
  obtain⟨s2,hx3,h⟩:=ab h
  refine sI ?_
  refine sB h (fun _ k=>zi hI.lt trivial k) (Rc Tryz.func84) fun r2 w3 h hI=> ?_
  refine T ?_
  refine aj (T ?_)
  refine TC (fun hb h=> ?_) fun hb h=> ?_
  ·refine T ?_
   refine aJ ?_
   have hI:=hI.add (c:=Cl.sl ah none 0 ([]:List aU)) SlC.nil
   obtain rfl:=ak h
   refine QG ?_
   exact⟨none,0,rfl,hI.ext0,hI.fin ⟨.z,trivial⟩⟩
  refine TC (fun hb h=> ?_) fun hb h=> ?_
  ·refine T ?_
   refine aJ ?_
   have hI:=hI.add (c:=Cl.sl ah none 0 ([]:List aU)) SlC.nil
   obtain rfl:=ak h
   refine QG ?_
   exact⟨none,0,rfl,hI.ext0,hI.fin ⟨.z,trivial⟩⟩
  refine T ?_
  obtain⟨s3,hx6,h⟩:=ab h
  refine sq (ye rfl u9 et et et hx6) ?_
  refine sq (aH (vs:=[(0,vi r2.1),(1,vi at1),(2,(str s3))]) (cs:=#[vi r2.1,vi at1,(str s3)]) rfl ⟨rfl,et,⟨rfl,et,⟨rfl,et,trivial⟩⟩⟩ (by kernel_rfl)) ?_
  refine jZ (c:=ah) (xs:=([(⟨r2.1,at1,s3⟩:aU)]:List aU)) (vs:=[(0,(Value.agg #[vi r2.1,vi at1,(str s3)]))]) (cs:=#[vi r2.1,vi at1,(str s3)]) (css:=[[vi r2.1,vi at1,(str s3)]]) hI gn rfl rfl JM uQ rfl ⟨rfl,et,trivial⟩ (by kernel_rfl) ⟨rfl,trivial⟩ rfl rfl rfl ?_
  intro b1 c4 w4 hI
  obtain⟨zs1,hx7,h⟩:=ab h
  refine qq (xs:=mz) (ys:=([(⟨r2.1,at1,s3⟩:aU)]:List aU)) hI (.s .z) (hI.rd .z) hx7 gn rfl rfl JM uQ rfl rfl et et ?_
  intro a3 c5 c6 w5 hI
  refine T ?_
  obtain⟨s4,hx8,h⟩:=ab h
  refine sI ?_
  refine sB h (fun _ k=>sX hI.lt trivial k) (Rc Tryz.func83) fun r3 w6 h hI=> ?_
  refine sq (lO rfl et et) ?_
  obtain⟨at2,hx11,h⟩:=ab h
  refine sq (rS (cb rfl et) (congrArg (Value.int .i64) (ak hx11))) ?_
  refine aG ?_
  exact kl (fuel1,zs1,at2,a3,c5)
 refine bp ?_
 refine fE ?_
 refine aS ?_
 refine T ?_
 refine aJ ?_
 obtain⟨c7,hI⟩:=hI.release .z
 obtain rfl:=ak h
 refine QG ?_
 exact⟨a2,c2,rfl,hI.ext0,hI.fin ⟨.z,trivial⟩⟩
theorem wT (hF:dL F w0) {t1:aM} (hc:AllCl [] F w0) {r:Bool} (h:lf t1=some r):CR F w0 229 #[(Value.agg (dC t1))] (vb r) []:=by
 refine EN Tryz.func229 Tryz.ntmps229 hF hc fun hI=> ?_
 rw[lf]at h
 refine sr (lX fun b1 c2 w1 hI=> ?_)
 refine T ?_
 refine sq (am (l:=(cH t1)) rfl et qc rfl cO (hI.kblk (l:=(cH t1)) .z rfl).1) ?_
 refine T ?_
 refine sq (aH (vs:=[(0,vi t1.Kind)]) (cs:=#[vi t1.Kind,vi 0,vi 0,vi 0,vi 0]) rfl ⟨rfl,et,trivial⟩ (by kernel_rfl)) ?_
 refine sq (iB rfl et et (ui ..) (pN ..)) ?_
 exact RF
theorem nc (hF:dL F w0) {t1:aM} (hc:AllCl [] F w0) {r:Int} (h:fe t1=some r):CR F w0 230 #[(Value.agg (dC t1))] (vi r) []:=by
 refine EN Tryz.func230 Tryz.ntmps230 hF hc fun hI=> ?_
 rw[fe]at h
 refine sr (lX fun b1 c2 w1 hI=> ?_)
 refine tS ?_
 refine nk (sr (sq (ao rfl et qc rfl jk rfl) ?_))
 refine sq (aO (v:=(vi t1.Round)) rfl et u3 rfl (hI.kblk (l:=[vi t1.Round]) .z rfl).1) ?_
 refine sq (Ei rfl et af) ?_
 refine sm ?_
 refine ar (aV rfl rfl rfl rfl) rfl (fun hc=>ao rfl et qc rfl jk rfl) ?_
 refine ar (aV rfl rfl rfl rfl) rfl (fun hc=>(aO (v:=(vi t1.Round)) rfl (aF et hc) u3 rfl (hI.kblk (l:=[vi t1.Round]) .z rfl).1)) ?_
 refine ar (aV rfl rfl rfl rfl) rfl (fun hc=>xz rfl (aF et hc) af) ?_
 refine sq (qi rfl et et) ?_
 refine sm ?_
 refine ar (aV rfl rfl rfl rfl) rfl (fun hc=>ao rfl et qc rfl jk rfl) ?_
 refine ar (aV rfl rfl rfl rfl) rfl (fun hc=>(aO (v:=(vi t1.Over)) rfl (aF et hc) u3 rfl (hI.kblk (l:=[vi t1.Over]) .z rfl).1)) ?_
 refine ar (aV rfl rfl rfl rfl) rfl (fun hc=>Cj rfl (aF et hc) af) ?_
 refine ar (aV rfl rfl rfl rfl) rfl (fun hc=>eF rfl (aF et hc)) ?_
 refine ar (fS rfl rfl rfl rfl) rfl (fun hc=>ao rfl et qc rfl jk rfl) ?_
 refine ar (fS rfl rfl rfl rfl) rfl (fun hc=>(aO (v:=(vi t1.Over)) rfl (aF et hc) u3 rfl (hI.kblk (l:=[vi t1.Over]) .z rfl).1)) ?_
 refine ar (fS rfl rfl rfl rfl) rfl (fun hc=>Cj rfl (aF et hc) af) ?_
 refine ar (aV rfl rfl rfl rfl) rfl (fun hc=>zI rfl hc et et) ?_
 refine sq (qi rfl et et) ?_
 obtain⟨modes1,hx1,h⟩:=ab h
 refine sq (rS (cb rfl et) (congrArg Value.bool (ak hx1))) ?_
 refine nk (aj (T ?_))
 refine TR fun hb h=> ?_
 exact RF
theorem jb (hF:dL F w0) {t1:aM} (hc:AllCl [] F w0) {r:Int} (h:dl t1=some r):CR F w0 202 #[(Value.agg (dC t1))] (vi r) []:=by
 refine EN Tryz.func202 Tryz.ntmps202 hF hc fun hI=> ?_
 rw[dl]at h
 refine sr (lX fun b1 c2 w1 hI=> ?_)
 refine T ?_
 refine aj (T ?_)
 refine bJ (α:=Bool) (fun _=>⟨15,[]⟩) (fun x=>[(1,vp b1 0),(4,vi t1.Kind),(5,vb x)]) (fun x=>fun w=>∃ C,Bun d7 F w0 C w [] [Cl.blk b1 35 (dC t1)]∧eZ t1 x=some r) ?_ ?_
 ·clear h hI;rintro i1 w2 ⟨c3,hI,h⟩
  try dsimp only at hI h ⊢
  rw[eZ]at h
  refine TC (fun hb h=> ?_) fun hb h=> ?_
  ·refine sr (sq (am (l:=(cH t1)) rfl et qc rfl cO (hI.kblk (l:=(cH t1)) .z rfl).1) ?_)
   refine sB h (fun _ k=>wT hI.lt trivial k) (Rc Tryz.func229) fun r1 w3 h hI=> ?_
   refine TR fun hb h=> ?_
   exact RF
  refine TC (fun hb h=> ?_) fun hb h=> ?_
  ·refine sr (sq (am (l:=(cH t1)) rfl et qc rfl cO (hI.kblk (l:=(cH t1)) .z rfl).1) ?_)
   refine sB h (fun _ k=>nc hI.lt trivial k) (Rc Tryz.func230) fun r2 w4 h hI=> ?_
   refine TR fun hb h=> ?_
   exact RF
  exact RF
 refine TC (fun hb h=> ?_) fun hb h=> ?_
 ·exact aT (br (decide (t1.Kind=1)) SB BH rfl)
 refine T ?_
 refine aG ?_
 exact kj (decide (t1.Kind=3))
theorem od (hF:dL F w0) {s1 sep1:List UInt8} (hc:AllCl [] F w0) {r:List UInt8×List UInt8×Bool} (h:fC s1 sep1=some r):CR F w0 268 #[(str s1),(str sep1)] (Value.tuple #[(str r.1),(str r.2.1),vb r.2.2]) []:=by
 refine EN Tryz.func268 Tryz.ntmps268 hF hc fun hI=> ?_
 rw[fC]at h
 refine T ?_
 refine aj (T ?_)
 obtain⟨r1,hx1,h⟩:=ab h
 refine bq gn rfl (ax (vs:=[(str s1),(str sep1)]) rfl IC ⟨et,⟨et,trivial⟩⟩) (Calls.mono (nt (Dj F d7) w0 hI.lt s1 sep1 trivial r1 hx1) ?_)
 rintro _ w1 ⟨rfl,hx2,hl1⟩
 refine⟨_,rfl,?_⟩
 replace hI:=(hI.ext hx2)
 refine TC (fun hb h=> ?_) fun hb h=> ?_
 ·refine aj (aP [] false (.c (0,.q) (.c (1,.q) (.c (2,.q) (.c (3,.q) (.c (4,.q) (.c (5,.q) (.c (6,.q) (.c (7,.q) (.c (8,.q) (.c (9,.q) (.c (10,.q) (.c (11,.q) .n)))))))))))) hI (by kernel_rfl) (by kernel_rfl) ?_)
  intro w2 hI
  refine V ?_
  obtain⟨s2,hx3,h⟩:=ab h
  refine vI ?_
  refine V ?_
  obtain⟨s3,hx4,h⟩:=ab h
  refine vI ?_
  refine V ?_
  exact RF
 exact RF
theorem wW (hF:dL F w0) {s1 sep1:List UInt8} (hc:AllCl [] F w0) {r:List UInt8×List UInt8×Bool} (h:li s1 sep1=some r):CR F w0 264 #[(str s1),(str sep1)] (Value.tuple #[(str r.1),(str r.2.1),vb r.2.2]) []:=by
 refine EN Tryz.func264 Tryz.ntmps264 hF hc fun hI=> ?_
 rw[li]at h
 refine T ?_
 refine sB h (fun _ k=>od hI.lt trivial k) (Rc Tryz.func268) fun r1 w1 h hI=> ?_
 exact RF
theorem mx (hF:dL F w0) {s1 prefix1:List UInt8} (hc:AllCl [] F w0) {r:Bool} (h:dX s1 prefix1=some r):CR F w0 272 #[(str s1),(str prefix1)] (vb r) []:=by
 refine EN Tryz.func272 Tryz.ntmps272 hF hc fun hI=> ?_
 rw[dX]at h
 refine T ?_
 obtain⟨s2,hx1,h⟩:=ab h
 replace hx1:=aC hx1
 refine sJ ?_
 exact RF
theorem my (hF:dL F w0) {s1 prefix1:List UInt8} (hc:AllCl [] F w0) {r:List UInt8×Bool} (h:dY s1 prefix1=some r):CR F w0 269 #[(str s1),(str prefix1)] (Value.tuple #[(str r.1),vb r.2]) []:=by
 refine EN Tryz.func269 Tryz.ntmps269 hF hc fun hI=> ?_
 rw[dY]at h
 refine T ?_
 refine aj (T ?_)
 refine sB h (fun _ k=>mx hI.lt trivial k) (Rc Tryz.func272) fun r1 w1 h hI=> ?_
 refine TR fun hb h=> ?_
 refine T ?_
 obtain⟨s2,hx3,h⟩:=ab h
 refine sI ?_
 exact RF
theorem re (hF:dL F w0) {s1 prefix1:List UInt8} (hc:AllCl [] F w0) {r:List UInt8×Bool} (h:gK s1 prefix1=some r):CR F w0 265 #[(str s1),(str prefix1)] (Value.tuple #[(str r.1),vb r.2]) []:=by
 refine EN Tryz.func265 Tryz.ntmps265 hF hc fun hI=> ?_
 rw[gK]at h
 refine T ?_
 refine sB h (fun _ k=>my hI.lt trivial k) (Rc Tryz.func269) fun r1 w1 h hI=> ?_
 exact RF
theorem qJ (hF:dL F w0) {s1:List UInt8} (hc:AllCl [] F w0) {r:Bool} (h:jw s1=some r):CR F w0 266 #[(str s1)] (vb r) []:=by
 refine EN Tryz.func266 Tryz.ntmps266 hF hc fun hI=> ?_
 rw[jw]at h
 refine T ?_
 refine bJ (α:=Unit) (fun _=>⟨31,[]⟩) (fun _=>[(0,(str s1))]) (fun _=>fun w=>∃ C,Bun d7 F w0 C w [] []∧i6 s1=some r) ?_ ?_
 ·clear h hI;rintro _ w1 ⟨c1,hI,h⟩
  try dsimp only at hI h ⊢
  rw[i6]at h
  refine T ?_
  obtain⟨b1,hx1,h⟩:=ab h
  replace hx1:=aC hx1
  refine sJ ?_
  exact RF
 refine T ?_
 refine bh (α:=Nat×Int) (fun x=>fun w=>∃ C,Bun d7 F w0 C w [] []∧gz s1 (x.1) (x.2)=some r) (fun x _=>x.1) (fun x=>[(0,(str s1)),(3,vi (x.2))]) (fu,0) BH SB ?_
 clear h hI;rintro⟨fuel1,i1⟩ w2 ⟨c2,hI,h⟩
 dsimp only at hI h ⊢
 rcases fuel1 with _ | fuel1
 ·rw[gz]at h;cases h
 rw[gz]at h
 refine aj (T ?_)
 refine TC (fun hb h=> ?_) fun hb h=> ?_
 ·refine T ?_
  refine aj (T ?_)
  obtain⟨b2,hx2,h⟩:=ab h
  refine sI ?_
  refine T ?_
  obtain⟨b3,hx3,h⟩:=ab h
  replace hx3:=aC hx3
  refine sJ ?_
  refine TR fun hb h=> ?_
  refine T ?_
  refine aG ?_
  exact kl (fuel1,au (i1+1))
 refine bp ?_
 refine fE ?_
 exact kj ()
theorem qK (hF:dL F w0) {s1:List UInt8} (hc:AllCl [] F w0) {r:Int×Bool} (h:jx s1=some r):CR F w0 267 #[(str s1)] (Value.tuple #[vi r.1,vb r.2]) []:=by
 refine EN Tryz.func267 Tryz.ntmps267 hF hc fun hI=> ?_
 rw[jx]at h
 refine T ?_
 refine aj (T ?_)
 refine TR fun hb h=> ?_
 refine T ?_
 obtain⟨r1,hx1,h⟩:=ab h
 refine bq gn rfl (Rc Tryz.func270) (Calls.mono (rP (Dj F d7) w0 hI.lt s1 10 64 trivial r1 hx1) ?_)
 rintro _ w1 ⟨v1,rfl,hx2,hl1⟩
 refine⟨_,rfl,?_⟩
 replace hI:=(hI.ext hx2)
 exact RF
theorem wv (hF:dL F w0) {n1:Int} (hc:AllCl [] F w0) {r:Bool} (h:kH n1=some r):CR F w0 233 #[vi n1] (vb r) []:=by
 refine EN Tryz.func233 Tryz.ntmps233 hF hc fun hI=> ?_
 rw[kH]at h
 exact RF
theorem tJ (hF:dL F w0) {n1:Int} (hc:AllCl [] F w0) {r:Int} (h:jv n1=some r):CR F w0 235 #[vi n1] (Value.int .u64 r) []:=by
 refine EN Tryz.func235 Tryz.ntmps235 hF hc fun hI=> ?_
 rw[jv]at h
 refine T ?_
 refine aj (T ?_)
 refine TR fun hb h=> ?_
 exact RF
theorem B1 (hF:dL F w0) {a1 b1:Int} (hc:AllCl [] F w0) {r:Int} (h:pG a1 b1=some r):CR F w0 234 #[(Value.int .u64 a1),(Value.int .u64 b1)] (Value.int .u64 r) []:=by
 refine EN Tryz.func234 Tryz.ntmps234 hF hc fun hI=> ?_
 rw[pG]at h
 refine T ?_
 refine aj (T ?_)
 refine bh (α:=Nat×Int×Int) (fun x=>fun w=>∃ C,Bun d7 F w0 C w [] []∧j4 (x.1) (x.2.1) (x.2.2)=some r) (fun x _=>x.1) (fun x=>[(0,(Value.int .u64 (x.2.1))),(1,(Value.int .u64 (x.2.2)))]) (fu,a1,b1) BH SB ?_
 clear h hI;rintro⟨fuel1,a2,b2⟩ w1 ⟨c1,hI,h⟩
 dsimp only at hI h ⊢
 rcases fuel1 with _ | fuel1
 ·rw[j4]at h;cases h
 rw[j4]at h
 refine aj (T ?_)
 refine TC (fun hb h=> ?_) fun hb h=> ?_
 ·refine T ?_
  refine aP [] false (.c (0,.q) (.c (1,.q) (.c (2,.q) (.c (3,.q) (.c (4,.q) (.c (5,.q) .n)))))) hI (by kernel_rfl) (by kernel_rfl) ?_
  intro w2 hI
  refine V ?_
  obtain⟨ho1,h⟩:=eS h
  refine iy rfl gn rfl (fun w'=>uS rfl et et ho1) ?_
  refine V ?_
  refine nu ?_
  exact kl (fuel1,b2,Int.tmod a2 b2)
 refine bp ?_
 refine fE ?_
 refine aS ?_
 exact RF
theorem sZ (hF:dL F w0) {v1:bj} (hc:AllCl [] F w0) {r:Bool} (h:kX v1=some r):CR F w0 207 #[(Value.agg (pW v1))] (vb r) []:=by
 refine EN Tryz.func207 Tryz.ntmps207 hF hc fun hI=> ?_
 rw[kX]at h
 refine sr (lX fun b1 c2 w1 hI=> ?_)
 refine T ?_
 refine aj (aP [] false (.c (0,.q) (.c (1,.q) (.c (2,.q) (.c (3,.q) (.c (4,.q) (.c (5,.q) (.c (6,.q) (.c (7,.q) (.c (8,.q) (.c (9,.q) (.c (10,.q) (.c (11,.s) (.c (12,.q) (.c (13,.q) (.c (14,.q) (.c (15,.q) (.c (17,.q) (.c (18,.q) (.c (19,.q) (.c (16,.s) (.c (20,.s) (.c (21,.q) (.c (22,.q) (.c (23,.q) .n)))))))))))))))))))))))) hI (by kernel_rfl) (by kernel_rfl) ?_)
 intro w2 hI
 refine V ?_
 obtain⟨r1,hx1,h⟩:=ab h
 replace hx1:=aC hx1
 refine mM (v:=(vb r1)) rfl (aV rfl rfl rfl rfl) rfl (fun hc=>(ax (vs:=[vi v1.N]) rfl IF ⟨(aF et hc),trivial⟩)) (fun hc=>(wv hI.lt trivial (hx1 hc)).mono fun _ _ k=>⟨k.1,k.2.1⟩) ?_
 intro w3 hx2;replace hI:=hI.ext hx2
 refine V ?_
 obtain⟨r2,hx3,h⟩:=ab h
 replace hx3:=aC hx3
 refine mM (v:=(Value.int .u64 r2)) rfl (aV rfl rfl rfl rfl) rfl (fun hc=>(ax (vs:=[vi v1.N]) rfl ID ⟨(aF et hc),trivial⟩)) (fun hc=>(tJ hI.lt trivial (hx3 hc)).mono fun _ _ k=>⟨k.1,k.2.1⟩) ?_
 intro w4 hx4;replace hI:=hI.ext hx4
 obtain⟨r3,hx5,h⟩:=ab h
 replace hx5:=aC hx5
 refine mM (v:=(Value.int .u64 r3)) rfl (aV rfl rfl rfl rfl) rfl (fun hc=>(ax (vs:=[(Value.int .u64 r2),(Value.int .u64 (ei v1.D))]) rfl IE ⟨(aF et hc),⟨(aF et hc),trivial⟩⟩)) (fun hc=>(B1 hI.lt trivial (hx5 hc)).mono fun _ _ k=>⟨k.1,k.2.1⟩) ?_
 intro w5 hx6;replace hI:=hI.ext hx6
 refine V ?_
 exact RF
theorem zj (hF:dL F w0) {s1:List UInt8} (hc:AllCl [] F w0) {r:bj×Int} (h:mi s1=some r):CR F w0 263 #[(str s1)] (Value.tuple #[(Value.agg (pW r.1)),vi r.2]) []:=by
 refine EN Tryz.func263 Tryz.ntmps263 hF hc fun hI=> ?_
 rw[mi]at h
 refine sr (cP (cs:=#[vi 0,vi 0]) hI gn rfl rfl yc rfl ?_)
 intro b1 c1 w1 hI
 refine T ?_
 refine sB h (fun _ k=>wW hI.lt trivial k) (Rc Tryz.func264) fun r1 w2 h hI=> ?_
 refine T ?_
 refine sB h (fun _ k=>re hI.lt trivial k) (Rc Tryz.func265) fun r2 w3 h hI=> ?_
 refine T ?_
 refine aj (T ?_)
 refine sB h (fun _ k=>qJ hI.lt trivial k) (Rc Tryz.func266) fun r3 w4 h hI=> ?_
 refine TC (fun hb h=> ?_) fun hb h=> ?_
 ·refine sr (sq (aH (vs:=[]) (cs:=#[vi 0,vi 0]) rfl trivial (by kernel_rfl)) ?_)
  refine lA fun c2 w5 hI=> ?_
  exact RQ
 refine T ?_
 refine bJ (α:=(List UInt8)) (fun _=>⟨78,[]⟩) (fun x=>[(2,vp b1 0),(5,(str x)),(7,(str r2.1)),(8,vb r2.2)]) (fun x=>fun w=>∃ C,Bun d7 F w0 C w [MO.box b1 33 #[vi 0,vi 0]] []∧iL r2 x=some r) ?_ ?_
 ·clear h hI;rintro bottom1 w6 ⟨c3,hI,h⟩
  try dsimp only at hI h ⊢
  rw[iL]at h
  refine T ?_
  refine sB h (fun _ k=>qK hI.lt trivial k) (Rc Tryz.func267) fun r4 w7 h hI=> ?_
  refine T ?_
  refine sB h (fun _ k=>qK hI.lt trivial k) (Rc Tryz.func267) fun r5 w8 h hI=> ?_
  refine T ?_
  refine aj (T ?_)
  refine TC (fun hb h=> ?_) fun hb h=> ?_
  ·refine sr (sq (aH (vs:=[]) (cs:=#[vi 0,vi 0]) rfl trivial (by kernel_rfl)) ?_)
   refine lA fun c4 w9 hI=> ?_
   exact RQ
  refine T ?_
  refine bJ (α:=Int) (fun _=>⟨78,[]⟩) (fun x=>[(2,vp b1 0),(9,vi x),(11,vi r5.1)]) (fun x=>fun w=>∃ C,Bun d7 F w0 C w [MO.box b1 33 #[vi 0,vi 0]] []∧jX r5 x=some r) ?_ ?_
  ·clear h hI;rintro n1 w10 ⟨c5,hI,h⟩
   try dsimp only at hI h ⊢
   rw[jX]at h
   refine T ?_
   refine sq (aH (vs:=[(0,vi n1),(1,vi r5.1)]) (cs:=#[vi n1,vi r5.1]) rfl ⟨rfl,et,⟨rfl,et,trivial⟩⟩ (by kernel_rfl)) ?_
   refine lN fun b2 c6 w11 hI=> ?_
   refine lA fun c7 w12 hI=> ?_
   refine nk (aj (T ?_))
   refine sB h (fun _ k=>sZ hI.lt trivial k) (Rc Tryz.func207) fun r6 w13 h hI=> ?_
   refine TC (fun hb h=> ?_) fun hb h=> ?_
   ·refine sr (sq (aH (vs:=[]) (cs:=#[vi 0,vi 0]) rfl trivial (by kernel_rfl)) ?_)
    refine lA fun c8 w14 hI=> ?_
    exact RQ
   refine T ?_
   refine lA fun c9 w15 hI=> ?_
   exact RQ
  refine TC (fun hb h=> ?_) fun hb h=> ?_
  ·refine T ?_
   refine aG ?_
   exact kj (au (-r4.1))
  exact aT (br r4.1 SB BH rfl)
 refine TC (fun hb h=> ?_) fun hb h=> ?_
 ·refine T ?_
  refine aG ?_
  exact kj ([49]:List UInt8)
 refine T ?_
 refine sB h (fun _ k=>qJ hI.lt trivial k) (Rc Tryz.func266) fun r7 w16 h hI=> ?_
 refine TC (fun hb h=> ?_) fun hb h=> ?_
 ·refine sr (sq (aH (vs:=[]) (cs:=#[vi 0,vi 0]) rfl trivial (by kernel_rfl)) ?_)
  refine lA fun c10 w17 hI=> ?_
  exact RQ
 exact aT (br r1.2.1 SB BH rfl)
theorem rp (hF:dL F w0) {bits1:Int} (hc:AllCl [] F w0) {r:Bool} (h:j3 bits1=some r):CR F w0 243 #[vi bits1] (vb r) []:=by
 refine EN Tryz.func243 Tryz.ntmps243 hF hc fun hI=> ?_
 rw[j3]at h
 exact RF
theorem v7 (hF:dL F w0) {bits1:Int} (hc:AllCl [] F w0) {r:Int} (h:kv bits1=some r):CR F w0 231 #[vi bits1] (vi r) []:=by
 refine EN Tryz.func231 Tryz.ntmps231 hF hc fun hI=> ?_
 rw[kv]at h
 refine T ?_
 refine aj (T ?_)
 refine sB h (fun _ k=>rp hI.lt trivial k) (Rc Tryz.func243) fun r1 w1 h hI=> ?_
 refine TR fun hb h=> ?_
 refine T ?_
 obtain⟨ho1,h⟩:=eS h
 refine sq (zH rfl af et ho1) ?_
 exact RF
theorem v8 (hF:dL F w0) {bits1:Int} (hc:AllCl [] F w0) {r:Int} (h:kw bits1=some r):CR F w0 232 #[vi bits1] (vi r) []:=by
 refine EN Tryz.func232 Tryz.ntmps232 hF hc fun hI=> ?_
 rw[kw]at h
 refine T ?_
 refine aj (T ?_)
 refine sB h (fun _ k=>rp hI.lt trivial k) (Rc Tryz.func243) fun r1 w1 h hI=> ?_
 refine TR fun hb h=> ?_
 refine T ?_
 obtain⟨ho1,h⟩:=eS h
 refine sq (zH rfl af et ho1) ?_
 exact RF
theorem rt (hF:dL F w0) {t1:aM} {v1:bj} (hc:AllCl [] F w0) {r:Bool} (h:j5 t1 v1=some r):CR F w0 205 #[(Value.agg (dC t1)),(Value.agg (pW v1))] (vb r) []:=by
 refine EN Tryz.func205 Tryz.ntmps205 hF hc fun hI=> ?_
 rw[j5]at h
 refine sr (lX fun b1 c2 w1 hI=> ?_)
 refine lX fun b2 c4 w2 hI=> ?_
 refine T ?_
 refine aj (aP [] false (.c (0,.q) (.c (1,.s) (.c (2,.q) (.c (3,.q) (.c (4,.q) (.c (5,.q) (.c (6,.q) (.c (7,.q) (.c (8,.q) (.c (9,.q) (.c (10,.q) (.c (11,.q) (.c (12,.q) (.c (13,.s) (.c (14,.q) (.c (15,.q) (.c (16,.q) (.c (17,.q) (.c (18,.q) (.c (19,.q) (.c (20,.q) (.c (21,.s) (.c (22,.q) (.c (23,.q) (.c (24,.q) .n))))))))))))))))))))))))) hI (by kernel_rfl) (by kernel_rfl) ?_)
 intro w3 hI
 refine d5 rfl gn rfl (fun w' hw'=>(am (l:=(cH t1)) rfl et qc rfl cO ((hI.kblk (l:=(cH t1)) (.s .z) rfl).at_ (SX.any rfl hw')))) (by kernel_rfl) ?_
 obtain⟨r1,hx1,h⟩:=ab h
 refine bN rfl gn rfl (ax (vs:=[(Value.agg (dC t1))]) rfl II ⟨et,trivial⟩) (Calls.mono (nc hI.lt trivial hx1) ?_)
 rintro _ w4 ⟨rfl,hx2,hl1⟩
 refine⟨_,rfl,hx2,?_⟩
 replace hI:=(hI.ext hx2)
 refine V ?_
 obtain⟨r2,hx3,h⟩:=ab h
 replace hx3:=aC hx3
 refine mM (v:=(vi r2)) rfl (aV rfl rfl rfl rfl) rfl (fun hc=>(ax (vs:=[vi t1.Bits]) rfl IH ⟨(aF et hc),trivial⟩)) (fun hc=>(v7 hI.lt trivial (hx3 hc)).mono fun _ _ k=>⟨k.1,k.2.1⟩) ?_
 intro w5 hx4;replace hI:=hI.ext hx4
 refine V ?_
 obtain⟨r3,hx5,h⟩:=ab h
 replace hx5:=aC hx5
 refine mM (v:=(vi r3)) rfl (aV rfl rfl rfl rfl) rfl (fun hc=>(ax (vs:=[vi t1.Bits]) rfl IG ⟨(aF et hc),trivial⟩)) (fun hc=>(v8 hI.lt trivial (hx5 hc)).mono fun _ _ k=>⟨k.1,k.2.1⟩) ?_
 intro w6 hx6;replace hI:=hI.ext hx6
 refine V ?_
 exact RF
theorem wV (hF:dL F w0) {t1:aM} {s1:List UInt8} (hc:AllCl [] F w0) {r:bj×Int} (h:lh t1 s1=some r):CR F w0 260 #[(Value.agg (dC t1)),(str s1)] (Value.tuple #[(Value.agg (pW r.1)),vi r.2]) []:=by
 refine EN Tryz.func260 Tryz.ntmps260 hF hc fun hI=> ?_
 rw[lh]at h
 refine sr (lX fun b1 c2 w1 hI=> ?_)
 refine lN fun b2 c3 w2 hI=> ?_
 refine T ?_
 refine aj (sr (sq (am (l:=(cH t1)) rfl et qc rfl cO (hI.kblk (l:=(cH t1)) .z rfl).1) ?_))
 refine sB h (fun _ k=>jb hI.lt trivial k) (Rc Tryz.func202) fun r1 w3 h hI=> ?_
 refine TC (fun hb h=> ?_) fun hb h=> ?_
 ·refine sr (sq (aH (vs:=[]) (cs:=#[vi 0,vi 0]) rfl trivial (by kernel_rfl)) ?_)
  refine lA fun c4 w4 hI=> ?_
  exact RQ
 refine T ?_
 refine sB h (fun _ k=>zj hI.lt trivial k) (Rc Tryz.func263) fun r2 w5 h hI=> ?_
 refine T ?_
 refine lN fun b3 c5 w6 hI=> ?_
 refine lA fun c6 w7 hI=> ?_
 refine T ?_
 refine aj (T ?_)
 refine TC (fun hb h=> ?_) fun hb h=> ?_
 ·refine sr (sq (aH (vs:=[]) (cs:=#[vi 0,vi 0]) rfl trivial (by kernel_rfl)) ?_)
  refine sm ?_
  refine lA fun c7 w8 hI=> ?_
  exact RQ
 refine T ?_
 refine aj (T ?_)
 refine TC (fun hb h=> ?_) fun hb h=> ?_
 ·refine TC (fun hb h=> ?_) fun hb h=> ?_
  ·refine sr (sq (aH (vs:=[]) (cs:=#[vi 0,vi 0]) rfl trivial (by kernel_rfl)) ?_)
   refine lA fun c8 w9 hI=> ?_
   exact RQ
  refine T ?_
  refine lA fun c9 w10 hI=> ?_
  exact RQ
 refine TC (fun hb h=> ?_) fun hb h=> ?_
 ·refine T ?_
  obtain⟨ho1,h⟩:=eS h
  refine sq (zH rfl af et ho1) ?_
  obtain⟨one1,hx5,h⟩:=ab h
  refine sq (rS (cb rfl et) (congrArg (Value.int .i64) (ak hx5))) ?_
  refine nk (aj (T ?_))
  obtain⟨ho2,h⟩:=eS h
  refine sq (uS rfl et et ho2) ?_
  refine TC (fun hb h=> ?_) fun hb h=> ?_
  ·refine sr (sq (aH (vs:=[]) (cs:=#[vi 0,vi 0]) rfl trivial (by kernel_rfl)) ?_)
   refine lA fun c10 w11 hI=> ?_
   exact RQ
  refine T ?_
  refine aj (aP [8] false (.c (0,.q) (.c (1,.q) (.c (2,.q) (.c (3,.q) (.c (4,.q) (.c (5,.q) (.c (6,.q) (.c (7,.q) (.c (8,.s) .n))))))))) hI (by kernel_rfl) (by kernel_rfl) ?_)
  intro w12 hI
  refine V ?_
  refine iy rfl gn rfl (fun w'=>xy rfl et et ho2) ?_
  refine V ?_
  refine iy rfl gn rfl (fun w'=>(aH (vs:=[(0,(vi (au (r2.1.N * (au (Int.tdiv one1 r2.1.D)))))),(1,vi 1)]) (cs:=#[(vi (au (r2.1.N * (au (Int.tdiv one1 r2.1.D))))),vi 1]) rfl ⟨rfl,et,⟨rfl,af,trivial⟩⟩ (by kernel_rfl))) ?_
  refine gt (F:=F) (C:=c6) rfl rfl ?_
  refine vA fun c11 w13 hI=> ?_
  refine V ?_
  refine sr (sq (am (l:=(cH t1)) rfl et qc rfl cO (hI.kblk (l:=(cH t1)) .z rfl).1) ?_)
  refine T ?_
  refine sB h (fun _ k=>rt hI.lt trivial k) (Rc Tryz.func205) fun r3 w14 h hI=> ?_
  refine TC (fun hb h=> ?_) fun hb h=> ?_
  ·refine sr (sq (aH (vs:=[]) (cs:=#[vi 0,vi 0]) rfl trivial (by kernel_rfl)) ?_)
   refine lA fun c12 w15 hI=> ?_
   exact RQ
  refine T ?_
  refine lA fun c13 w16 hI=> ?_
  exact RQ
 refine T ?_
 refine lA fun c14 w17 hI=> ?_
 exact RQ
abbrev Qs1 (f_:(ac→Int→Option Int)):Prop:=∀ ⦃F:NP⦄ ⦃w0:World⦄ (hF:dL F w0) ⦃e1:ac⦄ ⦃limit1:Int⦄ ⦃a1 a2 a3:Option Addr⦄ ⦃c1 c2 c3:Nat⦄ (hc:AllCl [Cl.sl ag a1 c1 e1.Lin.L,Cl.sl ai a2 c2 e1.Idx,Cl.sl al a3 c3 e1.Args] F w0) ⦃r:Int⦄ (h:f_ e1 limit1=some r),CR F w0 141 #[(Value.agg (an e1 a1 c1 a2 c2 a3 c3)),vi limit1] (vi r) []
theorem wy {rec_:(ac→Int→Option Int)} (hrec:Qs1 rec_) (hF:dL F w0) {e1:ac} {limit1:Int} (hc:AllCl [Cl.sl ag a1 c1 e1.Lin.L,Cl.sl ai a2 c2 e1.Idx,Cl.sl al a3 c3 e1.Args] F w0) {r:Int} (h:kI rec_ e1 limit1=some r):CR F w0 141 #[(Value.agg (an e1 a1 c1 a2 c2 a3 c3)),vi limit1] (vi r) []:=by
 refine EN Tryz.func141 Tryz.ntmps141 hF hc fun hI=> ?_
 rw[kI]at h
 refine sr (lX fun b1 c5 w1 hI=> ?_)
 refine T ?_
 refine aj (T ?_)
 refine TR fun hb h=> ?_
 refine T ?_
 refine aj (T ?_)
 refine bh (α:=Nat×Int×Int) (fun x=>fun w=>∃ C,Bun d7 F w0 C w [] [Cl.sl al a3 c3 e1.Args]∧fK e1 rec_ limit1 (x.1) (x.2.1) (x.2.2)=some r) (fun x _=>x.1) (fun x=>[(1,vi limit1),(5,vi (x.2.1)),(12,vs a3 e1.Args.length c3),(13,vi (e1.Args.length:Int)),(14,vi (x.2.2))]) (fu,1,0) BH SB ?_
 clear h hI;rintro⟨fuel1,d1,i1⟩ w2 ⟨c6,hI,h⟩
 dsimp only at hI h ⊢
 rcases fuel1 with _ | fuel1
 ·rw[fK]at h;cases h
 rw[fK]at h
 refine T ?_
 refine aj (xY h et (fun hb h=> ?_) (fun hb h=> ?_))
 ·refine T ?_
  refine aj (T ?_)
  obtain⟨e2,hx1,h⟩:=ab h
  obtain⟨ad1,cs1,hA1,hr1,hq1⟩:=hI.clat .z hx1
  obtain⟨a4,c7,a5,c8,a6,c9,rfl,hf1,hf2,hf3⟩:=bP hr1
  have hI:=hI.ads hf1
  have hI:=hI.ads hf2
  have hI:=hI.ads hf3
  refine sI ?_
  refine T ?_
  refine lN fun b2 c10 w3 hI=> ?_
  refine lA fun c11 w4 hI=> ?_
  refine T ?_
  refine sB h (fun _ k=>hrec hI.lt FS k) (Rc Tryz.func141) fun r1 w5 h hI=> ?_
  refine T ?_
  refine sq (Ef rfl et et) ?_
  refine T ?_
  refine aG ?_
  exact kl (fuel1,max d1 (au (1+r1)),au (i1+1))
 refine bp ?_
 refine fE ?_
 refine aS ?_
 exact RF
theorem wx (n:Nat):Qs1 (jB n):=by
 induction n with
 | zero=>intro F;intros;rename_i h;cases h
 | succ n ih=>intro F;intros;apply wy ih<;>assumption
theorem zn:Qs1 (pH):=wx fu
theorem zo (hF:dL F w0) {e1:ac} (hc:AllCl [Cl.sl ag a1 c1 e1.Lin.L,Cl.sl ai a2 c2 e1.Idx,Cl.sl al a3 c3 e1.Args] F w0) {r:Int} (h:nB e1=some r):CR F w0 76 #[(Value.agg (an e1 a1 c1 a2 c2 a3 c3))] (vi r) []:=by
 refine EN Tryz.func76 Tryz.ntmps76 hF hc fun hI=> ?_
 rw[nB]at h
 refine sr (lX fun b1 c5 w1 hI=> ?_)
 refine T ?_
 refine sq (am (l:=(aK e1 a1 c1 a2 c2 a3 c3)) rfl et gP rfl aB (hI.kblk (l:=(aK e1 a1 c1 a2 c2 a3 c3)) .z rfl).1) ?_
 refine sB h (fun _ k=>zn hI.lt FS k) (Rc Tryz.func141) fun r1 w2 h hI=> ?_
 exact RF
theorem um (hF:dL F w0) {e1:ac} (hc:AllCl [Cl.sl ag a1 c1 e1.Lin.L,Cl.sl ai a2 c2 e1.Idx,Cl.sl al a3 c3 e1.Args] F w0) {r:ac} (h:kJ e1=some r):Cg 78 #[(Value.agg (an e1 a1 c1 a2 c2 a3 c3))] w0 fun e w=>∃ b1 a4 c4 a5 c5 a6 c6,e= .returned (Value.func (.func 142) #[] #[vp b1 0])∧Ext w0 w∧AllCl [Cl.sl ag a4 c4 r.Lin.L,Cl.sl ai a5 c5 r.Idx,Cl.sl al a6 c6 r.Args,Cl.blk b1 39 (an r a4 c4 a5 c5 a6 c6)] F w:=by
 refine EN Tryz.func78 Tryz.ntmps78 hF hc fun hI=> ?_
 rw[kJ]at h
 refine sr (lX fun b2 c8 w1 hI=> ?_)
 refine T ?_
 refine sq (mF (vs:=[]) (cap:=[vp b2 0]) rfl rfl ⟨et,trivial⟩) ?_
 refine T ?_
 refine aJ ?_
 obtain rfl:=ak h
 refine QG ?_
 exact⟨b2,a1,c1,a2,c2,a3,c3,rfl,hI.ext0,hI.fin ⟨(.s .z),(.s (.s .z)),(.s (.s (.s .z))),.z,trivial⟩⟩
abbrev Qs3 (I:StI σ) (f_:(ac→(ac→σ→Option (Bool×σ))→σ→Option (Bool×σ))):Prop:=∀ ⦃C0 F:NP⦄ ⦃w0:World⦄ ⦃e1:ac⦄ ⦃yield1:(ac→σ→Option (Bool×σ))⦄ ⦃s1:σ⦄ ⦃a1 a2 a3:Option Addr⦄ ⦃c1 c2 c3:Nat⦄ ⦃fv1:Value⦄ (hI:Bun C0 F w0 C0 w0 [MO.st I s1] [Cl.sl ag a1 c1 e1.Lin.L,Cl.sl ai a2 c2 e1.Idx,Cl.sl al a3 c3 e1.Args,ph I fv1 yield1]) ⦃r:Bool×σ⦄ (h:f_ e1 yield1 s1=some r),Cg 143 #[(Value.agg (an e1 a1 c1 a2 c2 a3 c3)),fv1] w0 fun e w=>∃ C,e= .returned (vb r.1)∧Bun C0 F w0 C w [MO.st I r.2] []
theorem uB {I:StI σ} {rec_:(ac→(ac→σ→Option (Bool×σ))→σ→Option (Bool×σ))} (hrec:Qs3 I rec_) {e1:ac} {yield1:(ac→σ→Option (Bool×σ))} {s1:σ} {fv1:Value} (hI:Bun C0 F w0 C0 w0 [MO.st I s1] [Cl.sl ag a1 c1 e1.Lin.L,Cl.sl ai a2 c2 e1.Idx,Cl.sl al a3 c3 e1.Args,ph I fv1 yield1]) {r:Bool×σ} (h:eV rec_ e1 yield1 s1=some r):Cg 143 #[(Value.agg (an e1 a1 c1 a2 c2 a3 c3)),fv1] w0 fun e w=>∃ C,e= .returned (vb r.1)∧Bun C0 F w0 C w [MO.st I r.2] []:=by
 refine pO Tryz.func143 rfl Tryz.ntmps143 rfl ?_
 rw[eV]at h
 refine sr (lX fun b1 c5 w1 hI=> ?_)
 refine T ?_
 refine aj (T ?_)
 refine sq (am (l:=(aK e1 a1 c1 a2 c2 a3 c3)) rfl et gP rfl aB (hI.kblk (l:=(aK e1 a1 c1 a2 c2 a3 c3)) .z rfl).1) ?_
 obtain⟨⟨r1,s2⟩,hx1,h⟩:=ab h
 try dsimp only at h
 obtain⟨c6,f1,hB,hl1,hk1⟩:=hI.hands (.l .n)
 refine se (args:=[(Value.agg (an e1 a1 c1 a2 c2 a3 c3))]) gn rfl rfl et ⟨et,trivial⟩ (CallV.mono ((hI.get (.s (.s (.s (.s .z))))).2 c6 f1 w1 (Sp.less hl1) e1 a1 c1 a2 c2 a3 c3 s1 _ (hB.subs ⟨(.s .z),(.s (.s .z)),(.s (.s (.s .z))),trivial⟩) hx1) ?_)
 rintro _ w2 ⟨c7,rfl,hB2⟩
 refine HN hk1 hB2 fun c8 hI=> ?_
 refine⟨_,rfl,?_⟩
 refine TC (fun hb h=> ?_) fun hb h=> ?_
 ·refine T ?_
  refine aJ ?_
  obtain rfl:=ak h
  refine QG ?_
  exact⟨_,rfl,hI.arr GO SU⟩
 refine T ?_
 refine aj (T ?_)
 refine bh (α:=Nat×Int×σ) (fun x=>fun w=>∃ C,Bun C0 F w0 C w [MO.st I (x.2.2)] [ph I fv1 yield1,Cl.sl al a3 c3 e1.Args]∧bM e1 rec_ yield1 (x.1) (x.2.1) (x.2.2)=some r) (fun x _=>x.1) (fun x=>[(1,fv1),(12,vs a3 e1.Args.length c3),(13,vi (e1.Args.length:Int)),(14,vi (x.2.1))]) (fu,0,s2) BH SB ?_
 clear h hI;rintro⟨fuel1,i1,s3⟩ w3 ⟨c9,hI,h⟩
 dsimp only at hI h ⊢
 rcases fuel1 with _ | fuel1
 ·rw[bM]at h;cases h
 rw[bM]at h
 refine T ?_
 refine aj (xY h et (fun hb h=> ?_) (fun hb h=> ?_))
 ·refine T ?_
  refine aj (T ?_)
  obtain⟨e2,hx2,h⟩:=ab h
  obtain⟨ad1,cs1,hA1,hr1,hq1⟩:=hI.clat (.s .z) hx2
  obtain⟨a4,c10,a5,c11,a6,c12,rfl,hf1,hf2,hf3⟩:=bP hr1
  have hI:=hI.ads hf1
  have hI:=hI.ads hf2
  have hI:=hI.ads hf3
  refine sI ?_
  refine T ?_
  refine lN fun b2 c13 w4 hI=> ?_
  refine lA fun c14 w5 hI=> ?_
  refine T ?_
  obtain⟨c15,f2,hB,hl2,hk2⟩:=hI.hands (.r (.l .n))
  obtain⟨⟨r2,s4⟩,hx3,h⟩:=ab h
  try dsimp only at h
  refine bq gn rfl (Rc Tryz.func143) (Calls.mono (hrec HS hx3) ?_)
  rintro _ w6 ⟨c16,rfl,hB2⟩
  refine HN hk2 hB2 fun c17 hI=> ?_
  refine⟨_,rfl,?_⟩
  refine TC (fun hb h=> ?_) fun hb h=> ?_
  ·refine T ?_
   refine aJ ?_
   obtain rfl:=ak h
   refine QG ?_
   exact⟨_,rfl,hI.arr GO SU⟩
  refine T ?_
  refine aG ?_
  exact kl (fuel1,au (i1+1),s4)
 refine bp ?_
 refine fE ?_
 refine aS ?_
 refine T ?_
 refine aJ ?_
 obtain rfl:=ak h
 refine QG ?_
 exact⟨_,rfl,hI.arr GO SU⟩
theorem uA {I:StI σ} (n:Nat):Qs3 I (cW n):=by
 induction n with
 | zero=>intro F;intros;rename_i h;cases h
 | succ n ih=>intro F;intros;apply uB ih<;>assumption
theorem xp {I:StI σ} :Qs3 I (ly):=uA fu
theorem p9 {I:StI σ} {yield1:(ac→σ→Option (Bool×σ))} {a1:ac} {s1:σ} {fv1:Value} (hI:Bun C0 F w0 C0 w0 [MO.st I s1] [ph I fv1 yield1,Cl.sl ag a2 c1 a1.Lin.L,Cl.sl ai a3 c2 a1.Idx,Cl.sl al a4 c3 a1.Args,Cl.blk b1 39 (an a1 a2 c1 a3 c2 a4 c3)]) {r:Unit×σ} (h:gG yield1 a1 s1=some r):Cg 142 #[fv1,vp b1 0] w0 fun e w=>∃ C,e= .returned (Value.tuple #[])∧Bun C0 F w0 C w [MO.st I r.2] []:=by
 refine pO Tryz.func142 rfl Tryz.ntmps142 rfl ?_
 rw[gG]at h
 refine T ?_
 refine sq (am (l:=(aK a1 a2 c1 a3 c2 a4 c3)) rfl et gP rfl aB (hI.kblk (l:=(aK a1 a2 c1 a3 c2 a4 c3)) (.s (.s (.s (.s .z)))) rfl).1) ?_
 refine sm ?_
 obtain⟨c4,f1,hB,hl1,hk1⟩:=hI.hands (.l .n)
 obtain⟨⟨r1,s2⟩,hx1,h⟩:=ab h
 try dsimp only at h
 refine bq gn rfl (Rc Tryz.func143) (Calls.mono (xp HS hx1) ?_)
 rintro _ w1 ⟨c5,rfl,hB2⟩
 refine HN hk1 hB2 fun c6 hI=> ?_
 refine⟨_,rfl,?_⟩
 refine aG ?_
 obtain rfl:=ak h
 refine QG ?_
 exact⟨_,rfl,hI.arr GO SU⟩
theorem AP (hF:dL F w0) {e1:ac} (hc:AllCl [Cl.sl ag a1 c1 e1.Lin.L,Cl.sl ai a2 c2 e1.Idx,Cl.sl al a3 c3 e1.Args] F w0) {r:Int} (h:kK e1=some r):CR F w0 77 #[(Value.agg (an e1 a1 c1 a2 c2 a3 c3))] (vi r) []:=by
 refine EN Tryz.func77 Tryz.ntmps77 hF hc fun hI=> ?_
 rw[kK]at h
 refine sr (lX fun b1 c5 w1 hI=> ?_)
 refine T ?_
 refine lN fun b2 c6 w2 hI=> ?_
 refine lS fun c7 w3 hI=> ?_
 refine nk (aj (sr (sq (am (l:=(aK e1 a1 c1 a2 c2 a3 c3)) rfl et gP rfl aB (hI.kblk (l:=(aK e1 a1 c1 a2 c2 a3 c3)) .z rfl).1) ?_)))
 obtain⟨r1,hx1,h⟩:=ab h
 refine bq gn rfl (Rc Tryz.func78) (Calls.mono (um hI.lt FS hx1) ?_)
 rintro _ w4 ⟨b3,a4,c8,a5,c9,a6,c10,rfl,hx2,hl1⟩
 refine⟨_,rfl,?_⟩
 replace hI:=(hI.ext hx2).adds hl1;dsimp only[ca,na]at hI
 refine T ?_
 refine qG [Code.exit 0] hI et E9 (fun l1 q1 fn1 tm1 rc1 hrc1 c12 w6 hE1 hI=> ?_)
 obtain⟨c13,f1,hB,hl2,hk1⟩:=hI.hands (.l (.r (.l .n)))
 have hB:Bun c13 f1 w6 c13 w6 [MO.st (StI.loop l1 rc1 (fun(s:Int) (b:Unit)=>[MO.box b2 3 #[vi s]]) (fun(s:Int) (b:Unit)=>[Cl.blk b3 39 (an r1 a4 c8 a5 c9 a6 c10),Cl.sl ag a4 c8 r1.Lin.L,Cl.sl ai a5 c9 r1.Idx,Cl.sl al a6 c10 r1.Args])) (0,0)] _:=Bun.mkst (b:=()) hB ⟨(.s (.s (.s .z))),.z,(.s .z),(.s (.s .z)),trivial⟩
 have hY1:fnS_k5 (StI.loop l1 rc1 (fun(s:Int) (b:Unit)=>[MO.box b2 3 #[vi s]]) (fun(s:Int) (b:Unit)=>[Cl.blk b3 39 (an r1 a4 c8 a5 c9 a6 c10),Cl.sl ag a4 c8 r1.Lin.L,Cl.sl ai a5 c9 r1.Idx,Cl.sl al a6 c10 r1.Args])) (Value.func (.yield l1) #[] #[]) (fun k_0 q=>if q.1=0 then cc k_0 q.2 else none) (Dj f1 c13) w6:=by
  refine⟨rfl,fun C0 F w0 _=> ?_⟩
  rintro y1 a7 c14 a8 c15 a9 c16 ⟨o_,n1⟩ r hB h
  replace h:o_=0∧cc y1 n1=some r:=eS h
  have ho_:=h.1;subst ho_;replace h:=h.2
  rw[cc]at h
  obtain⟨_,hI⟩:=Bun.unst hB
  subst hrc1
  dsimp only[ca,na]at hI
  clear hB
  refine qE hI rfl (rH (hE1 ⟨12,[]⟩ rfl rfl)) ?_
  refine aT (yJ hI .z (fun c17 w7 hI=> ?_))
  refine T ?_
  refine lS fun c18 w8 hI=> ?_
  refine TC (fun hb h=> ?_) fun hb h=> ?_
  ·refine bp ?_
   refine KF rfl ?_
   obtain rfl:=ak h
   exact fun _ _=>qW (js:=[Code.exit 0]) (oS:=(fun(s:Int) (b:Unit)=>[MO.box b2 3 #[vi s]])) (cS:=(fun(s:Int) (b:Unit)=>[Cl.blk b3 39 (an r1 a4 c8 a5 c9 a6 c10),Cl.sl ag a4 c8 r1.Lin.L,Cl.sl ai a5 c9 r1.Idx,Cl.sl al a6 c10 r1.Args])) (out:=1) (s:=(au (n1+1))) (b:=()) (hI.arr GO SU) rfl (fun C w hB=>⟨C,rfl,hB⟩)
  refine aT ?_
  obtain rfl:=ak h
  exact fun _ _=>qW (js:=[Code.exit 0]) (oS:=(fun(s:Int) (b:Unit)=>[MO.box b2 3 #[vi s]])) (cS:=(fun(s:Int) (b:Unit)=>[Cl.blk b3 39 (an r1 a4 c8 a5 c9 a6 c10),Cl.sl ag a4 c8 r1.Lin.L,Cl.sl ai a5 c9 r1.Idx,Cl.sl al a6 c10 r1.Args])) (out:=0) (s:=(au (n1+1))) (b:=()) (hI.arr GO SU) rfl (fun C w hB=>⟨C,rfl,hB⟩)
 obtain⟨⟨u1,o1,n2⟩,hx3,h⟩:=ab h
 try dsimp only at h
 refine Calls.mono (p9 ((hB.add (c:=ph (StI.loop l1 rc1 (fun(s:Int) (b:Unit)=>[MO.box b2 3 #[vi s]]) (fun(s:Int) (b:Unit)=>[Cl.blk b3 39 (an r1 a4 c8 a5 c9 a6 c10),Cl.sl ag a4 c8 r1.Lin.L,Cl.sl ai a5 c9 r1.Idx,Cl.sl al a6 c10 r1.Args])) (Value.func (.yield l1) #[] #[]) (fun k_0 q=>if q.1=0 then cc k_0 q.2 else none)) hY1).subs ⟨.z,(.s .z),(.s (.s .z)),(.s (.s (.s .z))),(.s (.s (.s (.s .z)))),trivial⟩) hx3) ?_
 rintro _ w10 ⟨c20,rfl,hB2⟩
 obtain⟨_,hB2⟩:=Bun.unst hB2
 subst hrc1
 refine HN hk1 hB2 fun c21 hI=> ?_
 refine⟨_,rfl,tw hI .z (fun c22 w11 hI=> ?_)⟩
 by_cases hz1:o1=0
 ·subst hz1;rw[if_pos rfl]at h
  refine aS ?_
  refine T ?_
  refine aJ ?_
  obtain⟨w12,hs2,c23,hI⟩:∃ w2,pq Tryz.prog [q1] w11 w2∧∃ C,Bun d7 F w0 C w2 [MO.obj l1 _,MO.box b2 3 #[vi n2],MO.obj q1 (.deferred none)] [Cl.blk b3 39 (an r1 a4 c8 a5 c9 a6 c10),Cl.sl ag a4 c8 r1.Lin.L,Cl.sl ai a5 c9 r1.Idx,Cl.sl al a6 c10 r1.Args,Cl.sl ag a4 c8 r1.Lin.L,Cl.sl ai a5 c9 r1.Idx,Cl.sl al a6 c10 r1.Args,Cl.blk b3 39 (an r1 a4 c8 a5 c9 a6 c10),Cl.blk b1 39 (an e1 a1 c1 a2 c2 a3 c3),Cl.sl ag a1 c1 e1.Lin.L,Cl.sl ai a2 c2 e1.Idx,Cl.sl al a3 c3 e1.Args]:=hI.shut (.s (.s .z)) fun C w hI=>o0 ⟨_,hI⟩
  obtain rfl:=ak h
  exact rB (vs:=[vi n2]) hs2 Tryz.results77 ⟨aI rfl rfl,trivial⟩ (fq hI trivial)
 rw[if_neg hz1]at h
 by_cases hz2:o1=1
 ·subst hz2;rw[if_pos rfl]at h
  refine bp ?_
  refine fE ?_
  refine aS ?_
  refine T ?_
  refine aJ ?_
  obtain⟨w13,hs3,c24,hI⟩:∃ w2,pq Tryz.prog [q1] w11 w2∧∃ C,Bun d7 F w0 C w2 [MO.obj l1 _,MO.box b2 3 #[vi n2],MO.obj q1 (.deferred none)] [Cl.blk b3 39 (an r1 a4 c8 a5 c9 a6 c10),Cl.sl ag a4 c8 r1.Lin.L,Cl.sl ai a5 c9 r1.Idx,Cl.sl al a6 c10 r1.Args,Cl.sl ag a4 c8 r1.Lin.L,Cl.sl ai a5 c9 r1.Idx,Cl.sl al a6 c10 r1.Args,Cl.blk b3 39 (an r1 a4 c8 a5 c9 a6 c10),Cl.blk b1 39 (an e1 a1 c1 a2 c2 a3 c3),Cl.sl ag a1 c1 e1.Lin.L,Cl.sl ai a2 c2 e1.Idx,Cl.sl al a3 c3 e1.Args]:=hI.shut (.s (.s .z)) fun C w hI=>o0 ⟨_,hI⟩
  obtain rfl:=ak h
  exact rB (vs:=[vi n2]) hs3 Tryz.results77 ⟨aI rfl rfl,trivial⟩ (fq hI trivial)
 rw[if_neg hz2]at h
 cases h
theorem ru (hF:dL F w0) {l1:ay} (hc:AllCl [Cl.sl ag a1 c1 l1.L] F w0) {r:Bool} (h:j6 l1=some r):CR F w0 195 #[(Value.agg (dM l1 a1 c1))] (vb r) []:=by
 refine EN Tryz.func195 Tryz.ntmps195 hF hc fun hI=> ?_
 rw[j6]at h
 refine sr (lX fun b1 c3 w1 hI=> ?_)
 exact RF
theorem kQ (hF:dL F w0) {s1:List av} {f1:(av→Option Bool)} {fv1:Value} (hc:AllCl [Cl.sl ai a1 c1 s1,q8 fv1 f1] F w0) {r:Int} (h:cy s1 f1=some r):CR F w0 228 #[vs a1 s1.length c1,fv1] (vi r) []:=by
 refine EN Tryz.func228 Tryz.ntmps228 hF hc fun hI=> ?_
 rw[cy]at h
 refine T ?_
 refine aj (T ?_)
 refine bh (α:=Nat×Int) (fun x=>fun w=>∃ C,Bun d7 F w0 C w [] [Cl.sl ai a1 c1 s1,q8 fv1 f1]∧aE s1 f1 (x.1) (x.2)=some r) (fun x _=>x.1) (fun x=>[(0,vs a1 s1.length c1),(1,fv1),(7,vi (s1.length:Int)),(8,vi (x.2))]) (fu,0) BH SB ?_
 clear h hI;rintro⟨fuel1,i1⟩ w1 ⟨c2,hI,h⟩
 dsimp only at hI h ⊢
 rcases fuel1 with _ | fuel1
 ·rw[aE]at h;cases h
 rw[aE]at h
 refine T ?_
 refine aj (xY h et (fun hb h=> ?_) (fun hb h=> ?_))
 ·refine T ?_
  refine aj (T ?_)
  obtain⟨e1,hx1,h⟩:=ab h
  obtain⟨ad1,cs1,hA1,hr1,hq1⟩:=hI.clat .z hx1
  obtain⟨a2,c3,a3,c4,rfl,hf1,hf2⟩:=hr1
  have hI:=hI.ads hf1
  have hI:=hI.ads hf2
  refine sI ?_
  refine T ?_
  obtain⟨r1,hx2,h⟩:=ab h
  refine se (args:=[(Value.agg (jE e1 a2 c3 a3 c4))]) gn rfl rfl et ⟨et,trivial⟩ (CallV.mono ((hI.get (.s (.s (.s .z)))).2 (Dj F c2) w1 (Sp.of_ext .rfl') hI.lt e1 a2 c3 a3 c4 r1 ⟨(hI.get (.s .z)),(hI.get .z),trivial⟩ hx2) ?_)
  rintro _ w2 ⟨rfl,hx3,hl1⟩
  refine⟨_,rfl,?_⟩
  replace hI:=(hI.ext hx3)
  refine TR fun hb h=> ?_
  refine T ?_
  refine aG ?_
  exact kl (fuel1,au (i1+1))
 refine bp ?_
 refine fE ?_
 refine aS ?_
 exact RF
theorem dB (hF:dL F w0) {s1:List av} {f1:(av→Option Bool)} {fv1:Value} (hc:AllCl [Cl.sl ai a1 c1 s1,q8 fv1 f1] F w0) {r:Bool} (h:aR s1 f1=some r):CR F w0 196 #[vs a1 s1.length c1,fv1] (vb r) []:=by
 refine EN Tryz.func196 Tryz.ntmps196 hF hc fun hI=> ?_
 rw[aR]at h
 refine T ?_
 refine sB h (fun _ k=>kQ hI.lt FS k) (Rc Tryz.func228) fun r1 w1 h hI=> ?_
 exact RF
theorem ta (hF:dL F w0) {x1:av} (hc:AllCl [Cl.sl ag a1 c1 x1.Lin.L,Cl.sl ga a2 c2 x1.At] F w0) {r:Bool} (h:kh x1=some r):CR F w0 198 #[(Value.agg (jE x1 a1 c1 a2 c2))] (vb r) []:=by
 refine EN Tryz.func198 Tryz.ntmps198 hF hc fun hI=> ?_
 rw[kh]at h
 refine sr (lX fun b1 c4 w1 hI=> ?_)
 refine T ?_
 refine aj (T ?_)
 refine TR fun hb h=> ?_
 refine T ?_
 refine sq (am (l:=(gY x1.Lin a1 c1)) rfl et oH rfl bk (hI.kblk (l:=(gY x1.Lin a1 c1)) .z rfl).1) ?_
 refine sB h (fun _ k=>ru hI.lt FS k) (Rc Tryz.func195) fun r1 w2 h hI=> ?_
 exact RF
theorem uC (hF:dL F w0) {x1:av} (hc:AllCl [Cl.sl ag a1 c1 x1.Lin.L,Cl.sl ga a2 c2 x1.At] F w0) {r:Bool} (h:iM x1=some r):CR F w0 197 #[(Value.agg (jE x1 a1 c1 a2 c2))] (vb r) []:=by
 refine EN Tryz.func197 Tryz.ntmps197 hF hc fun hI=> ?_
 rw[iM]at h
 refine sr (lX fun b1 c4 w1 hI=> ?_)
 refine T ?_
 refine sq (am (l:=(nR x1 a1 c1 a2 c2)) rfl et mY rfl kr (hI.kblk (l:=(nR x1 a1 c1 a2 c2)) .z rfl).1) ?_
 refine sB h (fun _ k=>ta hI.lt FS k) (Rc Tryz.func198) fun r1 w2 h hI=> ?_
 exact RF
theorem xq (hF:dL F w0) {e1:ac} (hc:AllCl [Cl.sl ag a1 c1 e1.Lin.L,Cl.sl ai a2 c2 e1.Idx,Cl.sl al a3 c3 e1.Args] F w0) {r:Bool} (h:lz e1=some r):CR F w0 144 #[(Value.agg (an e1 a1 c1 a2 c2 a3 c3))] (vb r) []:=by
 refine EN Tryz.func144 Tryz.ntmps144 hF hc fun hI=> ?_
 rw[lz]at h
 refine sr (lX fun b1 c5 w1 hI=> ?_)
 refine T ?_
 refine aj (aP [] false (.c (0,.q) (.c (1,.q) (.c (2,.q) (.c (3,.q) (.c (4,.q) (.c (5,.q) (.c (6,.q) (.c (7,.q) (.c (8,.q) (.c (9,.q) (.c (10,.q) (.c (11,.q) (.c (12,.q) .n))))))))))))) hI (by kernel_rfl) (by kernel_rfl) ?_)
 intro w2 hI
 refine V ?_
 refine aj (aP [] false (.c (0,.q) (.c (1,.q) (.c (2,.q) (.c (3,.q) (.c (4,.q) (.c (5,.q) (.c (6,.q) (.c (7,.q) .n)))))))) hI (by kernel_rfl) (by kernel_rfl) ?_)
 intro w3 hI
 refine V ?_
 refine aj (T ?_)
 refine TR fun hb h=> ?_
 refine T ?_
 refine ar (aV rfl rfl rfl rfl) rfl (fun hc=>(am (l:=(mA e1.Val)) rfl (aF et hc) Cs rfl jI (hI.kblk (l:=(mA e1.Val)) .z rfl).1)) ?_
 refine ar (aV rfl rfl rfl rfl) rfl (fun hc=>aH (vs:=[]) (cs:=#[vi 0,vi 0]) rfl trivial (by kernel_rfl)) ?_
 refine ar (aV rfl rfl rfl rfl) rfl (fun hc=>iB rfl (aF et hc) (aF et hc) (sP ..) (rL ..)) ?_
 refine TR fun hb h=> ?_
 refine T ?_
 refine ar (aV rfl rfl rfl rfl) rfl (fun hc=>(am (l:=(cH e1.Type_)) rfl (aF et hc) qc rfl cO (hI.kblk (l:=(cH e1.Type_)) .z rfl).1)) ?_
 refine ar (aV rfl rfl rfl rfl) rfl (fun hc=>aH (vs:=[]) (cs:=ya) rfl trivial (by kernel_rfl)) ?_
 refine ar (aV rfl rfl rfl rfl) rfl (fun hc=>iB rfl (aF et hc) (aF et hc) (sO ..) (pN ..)) ?_
 refine TR fun hb h=> ?_
 refine T ?_
 refine ar (aV rfl rfl rfl rfl) rfl (fun hc=>(am (l:=(gY e1.Lin a1 c1)) rfl (aF et hc) oH rfl bk (hI.kblk (l:=(gY e1.Lin a1 c1)) .z rfl).1)) ?_
 obtain⟨r1,hx1,h⟩:=ab h
 replace hx1:=aC hx1
 refine sU (fun hc=>ru hI.lt FS (hx1 hc)) (Rg Tryz.func195) fun w4 hI=> ?_
 refine TR fun hb h=> ?_
 refine TR fun hb h=> ?_
 refine T ?_
 have hI:=hI.add (c:=q8 (Value.func (.func 197) #[] #[]) iM) ⟨rfl,fun D' w' hs hl x_1 A_2 c_3 A_4 c_5 r k h=>CallV.fn (cap:=[]) IZ (uC hl ⟨k.1,k.2.1,trivial⟩ h)⟩
 refine sB h (fun _ k=>dB hI.lt FS k) (Rc Tryz.func196) fun r2 w5 h hI=> ?_
 exact RF
theorem ww (hF:dL F w0) {x1:av} (hc:AllCl [Cl.sl ag a1 c1 x1.Lin.L,Cl.sl ga a2 c2 x1.At,ap] F w0) {r:Bool} (h:jz x1=some r):CR F w0 199 #[(Value.agg (jE x1 a1 c1 a2 c2))] (vb r) []:=by
 refine EN Tryz.func199 Tryz.ntmps199 hF hc fun hI=> ?_
 rw[jz]at h
 refine sr (lX fun b1 c4 w1 hI=> ?_)
 refine T ?_
 obtain⟨r1,hx1,h⟩:=ab h
 replace hx1:=aC hx1
 refine sU (fun hc=>oc hI.lt FS (hx1 hc)) (Rg Tryz.func185) fun w2 hI=> ?_
 exact RF
theorem zl (hF:dL F w0) {e1:ac} (hc:AllCl [Cl.sl ag a1 c1 e1.Lin.L,Cl.sl ai a2 c2 e1.Idx,Cl.sl al a3 c3 e1.Args,ap] F w0) {r:Bool} (h:ml e1=some r):CR F w0 145 #[(Value.agg (an e1 a1 c1 a2 c2 a3 c3))] (vb r) []:=by
 refine EN Tryz.func145 Tryz.ntmps145 hF hc fun hI=> ?_
 rw[ml]at h
 refine sr (lX fun b1 c5 w1 hI=> ?_)
 refine T ?_
 refine aj (T ?_)
 obtain⟨r1,hx1,h⟩:=ab h
 replace hx1:=aC hx1
 refine sU (fun hc=>oc hI.lt FS (hx1 hc)) (Rg Tryz.func185) fun w2 hI=> ?_
 refine TR fun hb h=> ?_
 refine T ?_
 have hI:=hI.add (c:=q8 (Value.func (.func 199) #[] #[]) jz) ⟨rfl,fun D' w' hs hl x_1 A_2 c_3 A_4 c_5 r k h=>CallV.fn (cap:=[]) IY (ww hl ⟨k.1,k.2.1,(Cl.sp _ hs (hI.get (.s (.s (.s (.s .z)))))),trivial⟩ h)⟩
 refine sB h (fun _ k=>dB hI.lt FS k) (Rc Tryz.func196) fun r2 w3 h hI=> ?_
 exact RF
end Go.Proofs.YtmhoikfoogemnaaGreatDoor
