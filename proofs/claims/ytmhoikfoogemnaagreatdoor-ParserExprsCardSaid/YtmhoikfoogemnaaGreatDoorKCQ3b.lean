import Derived.Test.YtmhoikfoogemnaaGreatDoorKCQ3a
import Derived.Test.YtmhoikfoogemnaaGreatDoorKLfJ
namespace Go.Proofs.YtmhoikfoogemnaaGreatDoor
open Go Go.RowKit Go.Vc
set_option maxRecDepth 100000
set_option maxHeartbeats 4000000
set_option linter.unusedVariables false
set_option linter.unusedSimpArgs false
variable {σ:Type} {C0 F:NP} {w0:World} {a1 a2 a3 a4 a5 a6 a7 a8 a9 a10 a11 a12:Option Addr} {b1 b2 b3 b4 b5 b6 b7 b8 b9 b10 b11 b12 c1 c2 c3 c4 c5 c6 c7 c8 c9 c10 c11 c12:Nat}
theorem cZ {r1:aa} {negative1:Bool} (hI:Bun C0 F w0 C0 w0 [MO.box b1 67 (af r1 a1 c1)] [Cl.sl ag a1 c1 r1.l,av]) {r:bz (GLin×aa)} (h:dQ r1 negative1=some r):CP C0 F w0 70 #[vp b1 0,vb negative1] r fun rx e w=>∃ a2 c2 a3 c3 C,e= .returned (Value.agg (bQ rx.1 a2 c2))∧Bun C0 F w0 C w [MO.box b1 67 (af rx.2 a3 c3)] [Cl.sl ai a2 c2 rx.1.L,Cl.sl ag a3 c3 rx.2.l]:=by
 refine fU (l:=[vp b1 0,vb negative1]) Tryz.func70 rfl Tryz.ntmps70 rfl ?_
 rw[dQ]at h
 refine sr (cF (cs:=#[vi 0,vs none 0 0]) hI gn rfl rfl lg rfl ?_)
 intro b2 c4 w1 hI
 refine T ?_
 refine al (T ?_)
 refine sB h (fun _ k=>kR NE ⟨(hI.get0 .z),hI.lendBox (.s .z),hI.get0 (.s .z),trivial⟩ k) (Rc Tryz.func126) fun r2 w2 h hI=> ?_
 refine TC (fun hb h=> ?_) fun hb h=> ?_
 ·refine T ?_
  obtain⟨c5,f1,hB,hl2,hk1⟩:=hI.hands (.r (.l .n))
  refine eG h (fun _ hx3=>iV HS hx3) (lw hk1) (Rc Tryz.func128) ?_
  rintro⟨r3,s1⟩ hx3 h _ w3 ⟨a4,c6,c7,rfl,hB2⟩
  try dsimp only at h
  refine HN hk1 hB2 fun c8 hI=> ?_
  refine⟨_,rfl,?_⟩
  obtain⟨r4,hx4,h⟩:=ae h
  refine aB gn rfl (Rc Tryz.func127) (Calls.mono (xZ hI.lt trivial hx4) ?_)
  rintro _ w4 ⟨a5,c9,rfl,hx5,hl3⟩
  refine⟨_,rfl,?_⟩
  replace hI:=(hI.ext hx5).adds hl3;dsimp only[ca,na]at hI
  refine lN fun b3 c10 w5 hI=> ?_
  refine lA fun c11 w6 hI=> ?_
  refine nk (al (T ?_))
  refine TC (fun hb h=> ?_) fun hb h=> ?_
  ·refine T ?_
   obtain⟨r5,hx6,h⟩:=ae h
   refine aB gn rfl (Rc Tryz.func129) (Calls.mono (uv hI.lt FS hx6) ?_)
   rintro _ w7 ⟨a6,c12,rfl,hx7,hl4⟩
   refine⟨_,rfl,?_⟩
   replace hI:=(hI.ext hx7).adds hl4;dsimp only[ca,na]at hI
   refine T ?_
   refine lA fun c13 w8 hI=> ?_
   refine T ?_
   refine lA fun c14 w9 hI=> ?_
   refine nk (aA ?_)
   obtain rfl:=aj h
   refine QG ?_
   exact .inl ⟨_,rfl,a6,c12,a4,c6,_,rfl,hI.arr GO SU⟩
  refine T ?_
  refine lA fun c15 w10 hI=> ?_
  refine nk (aA ?_)
  obtain rfl:=aj h
  refine QG ?_
  exact .inl ⟨_,rfl,a5,c9,a4,c6,_,rfl,hI.arr GO SU⟩
 refine T ?_
 obtain⟨c16,f2,hB,hl5,hk2⟩:=hI.hands (.r (.l .n))
 refine eG h (fun _ hx8=>ib HS hx8) (lw hk2) (Rc Tryz.func130) ?_
 rintro⟨r6,s2⟩ hx8 h _ w11 ⟨a7,c17,c18,rfl,hB2⟩
 try dsimp only at h
 refine HN hk2 hB2 fun c19 hI=> ?_
 refine⟨_,rfl,?_⟩
 refine T ?_
 refine bw (α:=(List UInt8)×aa×(Option Addr)×Nat) (fun _=>⟨58,[]⟩) (fun x=>[(0,vp b1 0),(1,vb negative1),(4,vp b2 0),(5,vi r1.at_),(7,(aE r6)),(8,(aE (x.1)))]) (fun x=>fun w=>∃ C,Bun C0 F w0 C w [MO.box b1 67 (af (x.2.1) (x.2.2.1) (x.2.2.2)),MO.box b2 27 #[vi 0,vs none 0 0]] [Cl.sl ag (x.2.2.1) (x.2.2.2) (x.2.1).l,av]∧aY r6 negative1 r1 (x.1) (x.2.1)=some r) ?_ ?_
 ·clear h hI;rintro⟨name1,r7,a8,c20⟩ w12 ⟨c21,hI,h⟩
  try dsimp only at hI h ⊢
  rw[aY]at h
  refine T ?_
  refine sB h (fun _ k=>qy hI.lt trivial k) (Rc Tryz.func131) fun r8 w13 h hI=> ?_
  refine T ?_
  refine bw (α:=Unit) (fun _=>⟨58,[]⟩) (fun _=>[(4,vp b2 0),(8,(aE name1)),(9,vi r8.1)]) (fun _=>fun w=>∃ C,Bun C0 F w0 C w [MO.box b2 27 #[vi 0,vs none 0 0],MO.box b1 67 (af r7 a8 c20)] [Cl.sl ag a8 c20 r7.l,av]∧dJ name1 r8 r7=some r) ?_ ?_
  ·clear h hI;rintro _ w14 ⟨c22,hI,h⟩
   try dsimp only at hI h ⊢
   rw[dJ]at h
   refine al (T ?_)
   refine TC (fun hb h=> ?_) fun hb h=> ?_
   ·refine T ?_
    obtain⟨r9,hx11,h⟩:=ae h
    refine aB gn rfl (Rc Tryz.func132) (Calls.mono (Aw hI.lt trivial hx11) ?_)
    rintro _ w15 ⟨a9,c23,rfl,hx12,hl7⟩
    refine⟨_,rfl,?_⟩
    replace hI:=(hI.ext hx12).adds hl7;dsimp only[ca,na]at hI
    refine lA fun c24 w16 hI=> ?_
    refine nk (aA ?_)
    obtain rfl:=aj h
    refine QG ?_
    exact .inl ⟨_,rfl,a9,c23,a8,c20,_,rfl,hI.arr GO SU⟩
   refine T ?_
   obtain⟨r10,hx13,h⟩:=ae h
   refine aB gn rfl (Rc Tryz.func127) (Calls.mono (xZ hI.lt trivial hx13) ?_)
   rintro _ w17 ⟨a10,c25,rfl,hx14,hl8⟩
   refine⟨_,rfl,?_⟩
   replace hI:=(hI.ext hx14).adds hl8;dsimp only[ca,na]at hI
   refine sm ?_
   obtain⟨r11,hx15,h⟩:=ae h
   refine aB gn rfl (Rc Tryz.func129) (Calls.mono (uv hI.lt FS hx15) ?_)
   rintro _ w18 ⟨a11,c26,rfl,hx16,hl9⟩
   refine⟨_,rfl,?_⟩
   replace hI:=(hI.ext hx16).adds hl9;dsimp only[ca,na]at hI
   refine T ?_
   refine lN fun b4 c27 w19 hI=> ?_
   refine lA fun c28 w20 hI=> ?_
   refine T ?_
   refine lA fun c29 w21 hI=> ?_
   refine nk (aA ?_)
   obtain rfl:=aj h
   refine QG ?_
   exact .inl ⟨_,rfl,a11,c26,a8,c20,_,rfl,hI.arr GO SU⟩
  refine TC (fun hb h=> ?_) fun hb h=> ?_
  ·refine T ?_
   rcases iM h with⟨r12,hx17,h⟩ | ⟨pa_,pn_,hx17,hp_⟩
   rotate_left
   ·subst hp_
    refine nU gn rfl (aF (vs:=[vp b1 0,vi r1.at_,vi 3]) rfl sO ⟨et,⟨et,⟨ao,trivial⟩⟩⟩) (Calls.mono (aU NE ⟨(hI.get0 .z),hI.lendBox .z,trivial⟩ hx17) ?_)
    intro e_ w_ hq_;obtain⟨rfl,hx_⟩:=eY hq_;have hI_:=hI.ext hx_;exact .inr ⟨_,rfl,iK (.inr ⟨_,_,rfl,rfl,⟨_,hI_.arr .n trivial⟩⟩)⟩
   try dsimp only at h
   refine aB gn rfl (Rc Tryz.func71) (Calls.mono (aU NE ⟨(hI.get0 .z),hI.lendBox .z,trivial⟩ hx17) ?_)
   intro e_ w22 hq_;obtain⟨rfl,hx18,hl10⟩:=eX hq_
   refine⟨_,rfl,?_⟩
   replace hI:=(hI.ext hx18)
   refine aM ?_
   exact kj ()
  exact bf (bi () SB BH rfl)
 refine T ?_
 obtain⟨c30,f3,hB,hl11,hk3⟩:=hI.hands (.l (.r .n))
 obtain⟨⟨r13,s3⟩,hx19,h⟩:=ae h
 try dsimp only at h
 refine aB gn rfl (Rc Tryz.func68) (Calls.mono (aO HS hx19) ?_)
 rintro _ w23 ⟨a12,c31,c32,rfl,hB2⟩
 refine HN hk3 hB2 fun c33 hI=> ?_
 refine⟨_,rfl,?_⟩
 refine TC (fun hb h=> ?_) fun hb h=> ?_
 ·refine T ?_
  obtain⟨c34,f4,hB,hl12,hk4⟩:=hI.hands (.l (.r .n))
  refine eG h (fun _ hx20=>iV HS hx20) (lw hk4) (Rc Tryz.func128) ?_
  rintro⟨r14,s4⟩ hx20 h _ w24 ⟨a13,c35,c36,rfl,hB2⟩
  try dsimp only at h
  refine HN hk4 hB2 fun c37 hI=> ?_
  refine⟨_,rfl,?_⟩
  refine sa ?_
  refine aM ?_
  exact kj (r14,s4,a13,c35)
 exact bf (bi (([]:List UInt8),s3,a12,c31) SB BH rfl)
def gh:Tr:=(.c (9,.s) (.c (10,.q) .n))
def el:Tr:=(.c (4,.s) (.c (5,.q) (.c (6,.q) (.c (7,.q) gh))))
def de:Tr:=(.c (0,.s) el)
def bR:Tr:=(.c (3,.s) el)
def dg:Tr:=(.two 4 (.c (5,.q) (.c (6,.q) (.c (7,.q) (.c (8,.s) gh)))) 8 el)
theorem gE {r1:aa} (hI:Bun C0 F w0 C0 w0 [MO.box b1 67 (af r1 a1 c1)] [Cl.sl ag a1 c1 r1.l,av]) {r:bz (GLin×aa)} (h:bH r1=some r):CP C0 F w0 31 #[vp b1 0] r fun rx e w=>∃ a2 c2 a3 c3 C,e= .returned (Value.agg (bQ rx.1 a2 c2))∧Bun C0 F w0 C w [MO.box b1 67 (af rx.2 a3 c3)] [Cl.sl ai a2 c2 rx.1.L,Cl.sl ag a3 c3 rx.2.l]:=by
 refine fU (l:=[vp b1 0]) Tryz.func31 rfl Tryz.ntmps31 rfl ?_
 rw[bH]at h
 refine sr (cF (cs:=#[vi 0,vs none 0 0]) hI gn rfl rfl lg rfl ?_)
 intro b2 c4 w1 hI
 refine T ?_
 obtain⟨c5,f1,hB,hl1,hk1⟩:=hI.hands (.r (.l .n))
 obtain⟨⟨r2,s1⟩,hx1,h⟩:=ae h
 try dsimp only at h
 refine aB gn rfl (Rc Tryz.func68) (Calls.mono (aO HS hx1) ?_)
 rintro _ w2 ⟨a4,c6,c7,rfl,hB2⟩
 refine HN hk1 hB2 fun c8 hI=> ?_
 refine⟨_,rfl,?_⟩
 refine T ?_
 refine sq (ax (vs:=[]) (cs:=#[vi 0,vs none 0 0]) rfl trivial (by kernel_rfl)) ?_
 refine lN fun b3 c9 w3 hI=> ?_
 refine lA fun c10 w4 hI=> ?_
 refine T ?_
 have hI:=hI.add (c:=Cl.sl ai none 0 ([]:List GMono)) SlC.nil
 refine bh (α:=Nat×Bool×aa×GLin×(Option Addr)×Nat×(Option Addr)×Nat) (fun x=>fun w=>∃ C,Bun C0 F w0 C w [MO.box b1 67 (af (x.2.2.1) (x.2.2.2.2.1) (x.2.2.2.2.2.1)),MO.box b2 27 #[vi 0,vs none 0 0],MO.box b3 27 (bQ (x.2.2.2.1) (x.2.2.2.2.2.2.1) (x.2.2.2.2.2.2.2))] [Cl.sl ag (x.2.2.2.2.1) (x.2.2.2.2.2.1) (x.2.2.1).l,Cl.sl ai (x.2.2.2.2.2.2.1) (x.2.2.2.2.2.2.2) (x.2.2.2.1).L,av]∧aZ (x.1) (x.2.1) (x.2.2.1) (x.2.2.2.1)=some r) (fun x _=>x.1) (fun x=>[(0,vp b1 0),(2,vp b2 0),(3,vb (x.2.1)),(4,vp b3 0)]) (fu,r2,s1,(⟨0,([]:List GMono)⟩:GLin),a4,c6,none,0) ⟨_,hI.arr (.c (.s .z) (.c (.s .z) (.c .z .n))) ⟨(.s .z),.z,(.s (.s (.s .z))),trivial⟩,h⟩ SB ?_
 clear h hI;rintro⟨fuel1,negative1,r3,sum1,a5,c11,a6,c12⟩ w5 ⟨c13,hI,h⟩
 dsimp only at hI h ⊢
 rcases fuel1 with _ | fuel1
 ·rw[aZ]at h;cases h
 rw[aZ]at h
 refine T ?_
 refine al ?_
 rcases iM h with⟨⟨r4,s2⟩,hx2,h⟩ | ⟨pa_,pn_,hx2,hp_⟩
 rotate_left
 ·subst hp_
  refine aI [3,9] false (.c (1,.q) (.c (2,.q) (.three 0 (.two 3 dg 8 bR) 3 (.two 0 dg 8 de) 8 (.two 0 bR 3 de)))) hI (by kernel_rfl) (by kernel_rfl) ?_
  intro w15 hI
  refine cj (α:=Nat×NP) (T:=bR) (fun x=>[(0,vp b1 0),(2,vp b2 0),(3,vb negative1),(4,vp b3 0),(5,vi r3.at_),(6,(Value.pointer (some ⟨(x.1),0,none⟩))),(11,vp b1 0),(12,vp b1 0),(13,vp b1 1),(14,vi r3.at_),(16,(Value.agg (bQ sum1 a6 c12))),(17,vp b1 0),(18,vb negative1)]) (fun x w=>Bun C0 F w0 (x.2) w [MO.box (x.1) 27 #[vi 0,vs none 0 0],MO.box b1 67 (af r3 a5 c11),MO.box b2 27 #[vi 0,vs none 0 0],MO.box b3 27 (bQ sum1 a6 c12)] [Cl.sl ag a5 c11 r3.l,Cl.sl ai a6 c12 sum1.L,av]) (fun x w=>SN [3,9] (DM false F (x.2)) w) ?_ ?_
  ·clear hI;rintro⟨b4,c23⟩ w11 hI
   try dsimp only at hI ⊢
   unfold bR
   refine bJ (F:=F) (C:=c23) rfl rfl ?_
   obtain⟨c14,f2,hB,hl2,hk2⟩:=hI.hands (.r (.l (.r (.r .n))))
   refine fp rfl gn rfl (aF (vs:=[vp b1 0,vb negative1]) rfl uj ⟨et,⟨et,trivial⟩⟩) (Calls.mono (cZ HS hx2) ?_)
   intro e_ w_ hq_;obtain⟨rfl,C_,hB_⟩:=eY hq_;obtain⟨C9_,-,hI_⟩:=hk2 _ _ _ _ hB_;exact .inr ⟨_,rfl,iK (.inr ⟨_,_,rfl,rfl,⟨_,hI_.arr .n trivial⟩⟩)⟩
  intro hk_tr_parser_reader_form_w_3_1
  refine V ?_
  refine tw ?_ ?_ ?_
  ·skip
   refine bn rfl gn rfl (am (l:=(gc sum1 a6 c12)) rfl et oy rfl bt (CellsAt.of_blk (hI.blk (.s (.s .z))) rfl)) SX.self ?_
   refine da ?_ ?_
   ·skip
    refine bu (F:=F) (C:=c13) rfl rfl ?_
    obtain⟨c14,f2,hB,hl2,hk2⟩:=hI.hands (.l (.r (.r .n)))
    refine fp rfl gn rfl (aF (vs:=[vp b1 0,vb negative1]) rfl uj ⟨et,⟨et,trivial⟩⟩) (Calls.mono (cZ HS hx2) ?_)
    intro e_ w_ hq_;obtain⟨rfl,C_,hB_⟩:=eY hq_;obtain⟨C9_,-,hI_⟩:=hk2 _ _ _ _ hB_;exact .inr ⟨_,rfl,iK (.inr ⟨_,_,rfl,rfl,⟨_,hI_.arr .n trivial⟩⟩)⟩
   refine gb (cs:=#[vi 0,vs none 0 0]) hI rfl gn rfl rfl lg rfl ?_
   intro b4 c20 w8 hI
   exact aW (hk_tr_parser_reader_form_w_3_1 (b4,c20) _ (hI.arr GO SU)) SB
  ·skip
   refine bu (F:=F) (C:=c13) rfl rfl ?_
   obtain⟨c14,f2,hB,hl2,hk2⟩:=hI.hands (.l (.r (.r .n)))
   refine fp rfl gn rfl (aF (vs:=[vp b1 0,vb negative1]) rfl uj ⟨et,⟨et,trivial⟩⟩) (Calls.mono (cZ HS hx2) ?_)
   intro e_ w_ hq_;obtain⟨rfl,C_,hB_⟩:=eY hq_;obtain⟨C9_,-,hI_⟩:=hk2 _ _ _ _ hB_;exact .inr ⟨_,rfl,iK (.inr ⟨_,_,rfl,rfl,⟨_,hI_.arr .n trivial⟩⟩)⟩
  refine gb (cs:=#[vi 0,vs none 0 0]) hI rfl gn rfl rfl lg rfl ?_
  intro b4 c20 w8 hI
  refine da ?_ ?_
  ·skip
   refine bn rfl gn rfl (am (l:=(gc sum1 a6 c12)) rfl et oy rfl bt (CellsAt.of_blk (hI.blk (.s (.s (.s .z)))) rfl)) SX.self ?_
   exact aW (hk_tr_parser_reader_form_w_3_1 (b4,c20) _ (hI.arr GO SU)) SB
  refine bu (F:=F) (C:=c20) rfl rfl ?_
  obtain⟨c14,f2,hB,hl2,hk2⟩:=hI.hands (.r (.l (.r (.r .n))))
  refine fp rfl gn rfl (aF (vs:=[vp b1 0,vb negative1]) rfl uj ⟨et,⟨et,trivial⟩⟩) (Calls.mono (cZ HS hx2) ?_)
  intro e_ w_ hq_;obtain⟨rfl,C_,hB_⟩:=eY hq_;obtain⟨C9_,-,hI_⟩:=hk2 _ _ _ _ hB_;exact .inr ⟨_,rfl,iK (.inr ⟨_,_,rfl,rfl,⟨_,hI_.arr .n trivial⟩⟩)⟩
 try dsimp only at h
 obtain⟨r5,hx3,h⟩:=ae h
 refine aI [3,9] false (.c (1,.q) (.c (2,.q) (.three 0 (.two 3 dg 8 bR) 3 (.two 0 dg 8 de) 8 (.two 0 bR 3 de)))) hI (by kernel_rfl) (by kernel_rfl) ?_
 intro w16 hI
 refine cj (α:=(Option Addr)×Nat×(Option Addr)×Nat×(Option Addr)×Nat×Nat×NP) (T:=gh) (fun x=>[(0,vp b1 0),(2,vp b2 0),(3,vb negative1),(4,vp b3 0),(5,vi r3.at_),(6,(Value.pointer (some ⟨(x.2.2.2.2.2.2.1),0,none⟩))),(11,vp b1 0),(12,vp b1 0),(13,vp b1 1),(14,vi r3.at_),(15,(Value.tuple #[(Value.agg (bQ r5.1 (x.2.2.2.2.1) (x.2.2.2.2.2.1))),vi r5.2])),(16,(Value.agg (bQ sum1 a6 c12))),(17,vp b1 0),(18,vb negative1),(19,(Value.agg (bQ r4 (x.1) (x.2.1)))),(20,(Value.tuple #[(Value.agg (bQ r5.1 (x.2.2.2.2.1) (x.2.2.2.2.2.1))),vi r5.2])),(21,(Value.agg (bQ r5.1 (x.2.2.2.2.1) (x.2.2.2.2.2.1)))),(22,vi r5.2)]) (fun x w=>Bun C0 F w0 (x.2.2.2.2.2.2.2) w [MO.box (x.2.2.2.2.2.2.1) 27 #[vi 0,vs none 0 0],MO.box b1 67 (af s2 (x.2.2.1) (x.2.2.2.1)),MO.box b2 27 #[vi 0,vs none 0 0],MO.box b3 27 (bQ sum1 a6 c12)] [Cl.sl ai (x.2.2.2.2.1) (x.2.2.2.2.2.1) r5.1.L,Cl.sl ai (x.1) (x.2.1) r4.L,Cl.sl ag (x.2.2.1) (x.2.2.2.1) s2.l,Cl.sl ag a5 c11 r3.l,Cl.sl ai a6 c12 sum1.L,av]) (fun x w=>SN [] (DM true F (x.2.2.2.2.2.2.2)) w) ?_ ?_
 ·clear hI;rintro⟨a7,c15,a8,c16,a9,c19,b4,c26⟩ w14 hI
  try dsimp only at hI ⊢
  unfold gh
  refine vA fun c21 w9 hI=> ?_
  refine V ?_
  refine bw (α:=Unit) (fun _=>⟨36,[]⟩) (fun _=>[(0,vp b1 0),(2,vp b2 0),(4,vp b3 0),(6,vp b4 0)]) (fun _=>fun w=>∃ C,Bun C0 F w0 C w [MO.box b1 67 (af s2 a8 c16),MO.box b2 27 #[vi 0,vs none 0 0],MO.box b3 27 (bQ sum1 a6 c12),MO.box b4 27 (bQ r5.1 a9 c19)] [Cl.sl ag a8 c16 s2.l,Cl.sl ai a6 c12 sum1.L,Cl.sl ai a9 c19 r5.1.L,av]∧fm s2 (aZ fuel1) r5=some r) ?_ ?_
  ·clear h hI;rintro _ w17 ⟨c27,hI,h⟩
   try dsimp only at hI h ⊢
   rw[fm]at h
   refine T ?_
   refine lA fun c28 w18 hI=> ?_
   refine T ?_
   obtain⟨c29,f3,hB,hl4,hk3⟩:=hI.hands (.l (.r (.r (.r .n))))
   obtain⟨⟨r6,s3⟩,hx5,h⟩:=ae h
   try dsimp only at h
   refine aB gn rfl (Rc Tryz.func68) (Calls.mono (aO HS hx5) ?_)
   rintro _ w19 ⟨a10,c30,c31,rfl,hB2⟩
   refine HN hk3 hB2 fun c32 hI=> ?_
   refine⟨_,rfl,?_⟩
   refine TC (fun hb h=> ?_) fun hb h=> ?_
   ·refine T ?_
    refine aM ?_
    exact jY (fuel1,false,s3,r5.1,a10,c30,a9,c19) SB ⟨_,hI.arr GO SU,h⟩ (Nat.lt_succ_self _)
   refine T ?_
   obtain⟨c33,f4,hB,hl5,hk4⟩:=hI.hands (.l (.r (.r (.r .n))))
   obtain⟨⟨r7,s4⟩,hx6,h⟩:=ae h
   try dsimp only at h
   refine aB gn rfl (Rc Tryz.func68) (Calls.mono (aO HS hx6) ?_)
   rintro _ w20 ⟨a11,c34,c35,rfl,hB2⟩
   refine HN hk4 hB2 fun c36 hI=> ?_
   refine⟨_,rfl,?_⟩
   refine TC (fun hb h=> ?_) fun hb h=> ?_
   ·refine T ?_
    refine aM ?_
    exact jY (fuel1,true,s4,r5.1,a11,c34,a9,c19) SB ⟨_,hI.arr GO SU,h⟩ (Nat.lt_succ_self _)
   refine T ?_
   refine lA fun c37 w21 hI=> ?_
   refine nk (aA ?_)
   obtain rfl:=aj h
   refine QG ?_
   exact .inl ⟨_,rfl,a9,c19,a11,c34,_,rfl,hI.arr GO SU⟩
  refine TC (fun hb h=> ?_) fun hb h=> ?_
  ·refine T ?_
   rcases iM h with⟨r8,hx7,h⟩ | ⟨pa_,pn_,hx7,hp_⟩
   rotate_left
   ·subst hp_
    refine nU gn rfl (aF (vs:=[vp b1 0,vi r3.at_,vi 3]) rfl sO ⟨et,⟨et,⟨ao,trivial⟩⟩⟩) (Calls.mono (aU NE ⟨(hI.get0 (.s (.s .z))),hI.lendBox (.s .z),trivial⟩ hx7) ?_)
    intro e_ w_ hq_;obtain⟨rfl,hx_⟩:=eY hq_;have hI_:=hI.ext hx_;exact .inr ⟨_,rfl,iK (.inr ⟨_,_,rfl,rfl,⟨_,hI_.arr .n trivial⟩⟩)⟩
   try dsimp only at h
   refine aB gn rfl (Rc Tryz.func71) (Calls.mono (aU NE ⟨(hI.get0 (.s (.s .z))),hI.lendBox (.s .z),trivial⟩ hx7) ?_)
   intro e_ w22 hq_;obtain⟨rfl,hx8,hl6⟩:=eX hq_
   refine⟨_,rfl,?_⟩
   replace hI:=(hI.ext hx8)
   refine aM ?_
   exact bi () SB ⟨_,hI.arr GO SU,h⟩ rfl
  exact bf (bi () SB ⟨_,hI.arr GO SU,h⟩ rfl)
 intro hk_tr_parser_reader_form_w_3_4
 refine cj (α:=(Option Addr)×Nat×(Option Addr)×Nat×Nat×NP) (T:=el) (fun x=>[(0,vp b1 0),(2,vp b2 0),(3,vb negative1),(4,vp b3 0),(5,vi r3.at_),(6,(Value.pointer (some ⟨(x.2.2.2.2.1),0,none⟩))),(11,vp b1 0),(12,vp b1 0),(13,vp b1 1),(14,vi r3.at_),(16,(Value.agg (bQ sum1 a6 c12))),(17,vp b1 0),(18,vb negative1),(19,(Value.agg (bQ r4 (x.1) (x.2.1))))]) (fun x w=>Bun C0 F w0 (x.2.2.2.2.2) w [MO.box (x.2.2.2.2.1) 27 #[vi 0,vs none 0 0],MO.box b1 67 (af s2 (x.2.2.1) (x.2.2.2.1)),MO.box b2 27 #[vi 0,vs none 0 0],MO.box b3 27 (bQ sum1 a6 c12)] [Cl.sl ai (x.1) (x.2.1) r4.L,Cl.sl ag (x.2.2.1) (x.2.2.2.1) s2.l,Cl.sl ag a5 c11 r3.l,Cl.sl ai a6 c12 sum1.L,av]) (fun x w=>SN [] (DM true F (x.2.2.2.2.2)) w) ?_ ?_
 ·clear hI;rintro⟨a7,c15,a8,c16,b4,c25⟩ w13 hI
  try dsimp only at hI ⊢
  unfold el
  refine dC rfl gn rfl (aF (vs:=[(Value.agg (bQ sum1 a6 c12)),(Value.agg (bQ r4 a7 c15))]) rfl FZ ⟨et,⟨et,trivial⟩⟩) (Calls.mono (x5 hI.lt FS hx3) ?_)
  rintro _ w7 ⟨a9,c19,rfl,hx4,hl3⟩
  refine⟨_,rfl,hx4,?_⟩
  replace hI:=(hI.ext hx4).adds hl3;dsimp only[ca,na]at hI
  refine V ?_
  exact aW (hk_tr_parser_reader_form_w_3_4 (a7,c15,a8,c16,a9,c19,b4,c25) _ (hI.arr GO SU)) SB
 intro hk_tr_parser_reader_form_w_3_3
 refine cj (α:=(Option Addr)×Nat×(Option Addr)×Nat×Nat×NP) (T:=de) (fun x=>[(0,vp b1 0),(2,vp b2 0),(3,vb negative1),(4,vp b3 0),(5,vi r3.at_),(6,(Value.pointer (some ⟨(x.2.2.2.2.1),0,none⟩))),(11,vp b1 0),(12,vp b1 0),(13,vp b1 1),(14,vi r3.at_),(17,vp b1 0),(18,vb negative1),(19,(Value.agg (bQ r4 (x.1) (x.2.1))))]) (fun x w=>Bun C0 F w0 (x.2.2.2.2.2) w [MO.box (x.2.2.2.2.1) 27 #[vi 0,vs none 0 0],MO.box b1 67 (af s2 (x.2.2.1) (x.2.2.2.1)),MO.box b2 27 #[vi 0,vs none 0 0],MO.box b3 27 (bQ sum1 a6 c12)] [Cl.sl ai (x.1) (x.2.1) r4.L,Cl.sl ag (x.2.2.1) (x.2.2.2.1) s2.l,Cl.sl ag a5 c11 r3.l,Cl.sl ai a6 c12 sum1.L,av]) (fun x w=>SN [] (DM true F (x.2.2.2.2.2)) w) ?_ ?_
 ·clear hI;rintro⟨a7,c15,a8,c16,b4,c24⟩ w12 hI
  try dsimp only at hI ⊢
  unfold de
  refine bn rfl gn rfl (am (l:=(gc sum1 a6 c12)) rfl et oy rfl bt (CellsAt.of_blk (hI.blk (.s (.s (.s .z)))) rfl)) SX.self ?_
  exact aW (hk_tr_parser_reader_form_w_3_3 (a7,c15,a8,c16,b4,c24) _ (hI.arr GO SU)) SB
 intro hk_tr_parser_reader_form_w_3_2
 refine cj (α:=Nat×NP) (T:=bR) (fun x=>[(0,vp b1 0),(2,vp b2 0),(3,vb negative1),(4,vp b3 0),(5,vi r3.at_),(6,(Value.pointer (some ⟨(x.1),0,none⟩))),(11,vp b1 0),(12,vp b1 0),(13,vp b1 1),(14,vi r3.at_),(16,(Value.agg (bQ sum1 a6 c12))),(17,vp b1 0),(18,vb negative1)]) (fun x w=>Bun C0 F w0 (x.2) w [MO.box (x.1) 27 #[vi 0,vs none 0 0],MO.box b1 67 (af r3 a5 c11),MO.box b2 27 #[vi 0,vs none 0 0],MO.box b3 27 (bQ sum1 a6 c12)] [Cl.sl ag a5 c11 r3.l,Cl.sl ai a6 c12 sum1.L,av]) (fun x w=>SN [3,9] (DM false F (x.2)) w) ?_ ?_
 ·clear hI;rintro⟨b4,c23⟩ w11 hI
  try dsimp only at hI ⊢
  unfold bR
  refine bJ (F:=F) (C:=c23) rfl rfl ?_
  obtain⟨c14,f2,hB,hl2,hk2⟩:=hI.hands (.r (.l (.r (.r .n))))
  refine fo rfl gn rfl (aF (vs:=[vp b1 0,vb negative1]) rfl uj ⟨et,⟨et,trivial⟩⟩) (Calls.mono (cZ HS hx2) ?_)
  intro e_ w6 hq_;obtain⟨a7,c15,a8,c16,c17,rfl,hB2⟩:=eX hq_
  obtain⟨c18,hs2,hI⟩:=hk2 _ _ _ _ hB2
  dsimp only[ca,na]at hI
  refine⟨_,rfl,DM true F c18,hs2,?_⟩
  exact aW (hk_tr_parser_reader_form_w_3_3 (a7,c15,a8,c16,b4,c18) _ (hI.arr GO SU)) SB
 intro hk_tr_parser_reader_form_w_3_1
 refine cj (α:=(Option Addr)×Nat×(Option Addr)×Nat×NP) (T:=dg) (fun x=>[(0,vp b1 0),(2,vp b2 0),(3,vb negative1),(4,vp b3 0),(5,vi r3.at_),(11,vp b1 0),(12,vp b1 0),(13,vp b1 1),(14,vi r3.at_),(16,(Value.agg (bQ sum1 a6 c12))),(17,vp b1 0),(18,vb negative1),(19,(Value.agg (bQ r4 (x.1) (x.2.1))))]) (fun x w=>Bun C0 F w0 (x.2.2.2.2) w [MO.box b1 67 (af s2 (x.2.2.1) (x.2.2.2.1)),MO.box b2 27 #[vi 0,vs none 0 0],MO.box b3 27 (bQ sum1 a6 c12)] [Cl.sl ai (x.1) (x.2.1) r4.L,Cl.sl ag (x.2.2.1) (x.2.2.2.1) s2.l,Cl.sl ag a5 c11 r3.l,Cl.sl ai a6 c12 sum1.L,av]) (fun x w=>SN [] (DM true F (x.2.2.2.2)) w) ?_ ?_
 ·clear hI;rintro⟨a7,c15,a8,c16,c22⟩ w10 hI
  try dsimp only at hI ⊢
  unfold dg
  refine da ?_ ?_
  ·skip
   refine dC rfl gn rfl (aF (vs:=[(Value.agg (bQ sum1 a6 c12)),(Value.agg (bQ r4 a7 c15))]) rfl FZ ⟨et,⟨et,trivial⟩⟩) (Calls.mono (x5 hI.lt FS hx3) ?_)
   rintro _ w7 ⟨a9,c19,rfl,hx4,hl3⟩
   refine⟨_,rfl,hx4,?_⟩
   replace hI:=(hI.ext hx4).adds hl3;dsimp only[ca,na]at hI
   refine V ?_
   refine gb (cs:=#[vi 0,vs none 0 0]) hI rfl gn rfl rfl lg rfl ?_
   intro b4 c20 w8 hI
   exact aW (hk_tr_parser_reader_form_w_3_4 (a7,c15,a8,c16,a9,c19,b4,c20) _ (hI.arr GO SU)) SB
  refine gb (cs:=#[vi 0,vs none 0 0]) hI rfl gn rfl rfl lg rfl ?_
  intro b4 c20 w8 hI
  exact aW (hk_tr_parser_reader_form_w_3_3 (a7,c15,a8,c16,b4,c20) _ (hI.arr GO SU)) SB
 intro hk_tr_parser_reader_form_w_3_0
 refine V ?_
 refine tw ?_ ?_ ?_
 ·skip
  refine bn rfl gn rfl (am (l:=(gc sum1 a6 c12)) rfl et oy rfl bt (CellsAt.of_blk (hI.blk (.s (.s .z))) rfl)) SX.self ?_
  refine da ?_ ?_
  ·skip
   refine bu (F:=F) (C:=c13) rfl rfl ?_
   obtain⟨c14,f2,hB,hl2,hk2⟩:=hI.hands (.l (.r (.r .n)))
   refine fo rfl gn rfl (aF (vs:=[vp b1 0,vb negative1]) rfl uj ⟨et,⟨et,trivial⟩⟩) (Calls.mono (cZ HS hx2) ?_)
   intro e_ w6 hq_;obtain⟨a7,c15,a8,c16,c17,rfl,hB2⟩:=eX hq_
   obtain⟨c18,hs2,hI⟩:=hk2 _ _ _ _ hB2
   dsimp only[ca,na]at hI
   refine⟨_,rfl,DM true F c18,hs2,?_⟩
   exact aW (hk_tr_parser_reader_form_w_3_0 (a7,c15,a8,c16,c18) _ (hI.arr GO SU)) SB
  refine gb (cs:=#[vi 0,vs none 0 0]) hI rfl gn rfl rfl lg rfl ?_
  intro b4 c20 w8 hI
  exact aW (hk_tr_parser_reader_form_w_3_1 (b4,c20) _ (hI.arr GO SU)) SB
 ·skip
  refine bu (F:=F) (C:=c13) rfl rfl ?_
  obtain⟨c14,f2,hB,hl2,hk2⟩:=hI.hands (.l (.r (.r .n)))
  refine fo rfl gn rfl (aF (vs:=[vp b1 0,vb negative1]) rfl uj ⟨et,⟨et,trivial⟩⟩) (Calls.mono (cZ HS hx2) ?_)
  intro e_ w6 hq_;obtain⟨a7,c15,a8,c16,c17,rfl,hB2⟩:=eX hq_
  obtain⟨c18,hs2,hI⟩:=hk2 _ _ _ _ hB2
  dsimp only[ca,na]at hI
  refine⟨_,rfl,DM true F c18,hs2,?_⟩
  refine da ?_ ?_
  ·skip
   refine bn rfl gn rfl (am (l:=(gc sum1 a6 c12)) rfl et oy rfl bt (CellsAt.of_blk (hI.blk (.s (.s .z))) rfl)) SX.self ?_
   exact aW (hk_tr_parser_reader_form_w_3_0 (a7,c15,a8,c16,c18) _ (hI.arr GO SU)) SB
  refine gb (cs:=#[vi 0,vs none 0 0]) hI rfl gn rfl rfl lg rfl ?_
  intro b4 c20 w8 hI
  exact aW (hk_tr_parser_reader_form_w_3_2 (a7,c15,a8,c16,b4,c20) _ (hI.arr GO SU)) SB
 refine gb (cs:=#[vi 0,vs none 0 0]) hI rfl gn rfl rfl lg rfl ?_
 intro b4 c20 w8 hI
 refine da ?_ ?_
 ·skip
  refine bn rfl gn rfl (am (l:=(gc sum1 a6 c12)) rfl et oy rfl bt (CellsAt.of_blk (hI.blk (.s (.s (.s .z)))) rfl)) SX.self ?_
  exact aW (hk_tr_parser_reader_form_w_3_1 (b4,c20) _ (hI.arr GO SU)) SB
 refine bu (F:=F) (C:=c20) rfl rfl ?_
 obtain⟨c14,f2,hB,hl2,hk2⟩:=hI.hands (.r (.l (.r (.r .n))))
 refine fo rfl gn rfl (aF (vs:=[vp b1 0,vb negative1]) rfl uj ⟨et,⟨et,trivial⟩⟩) (Calls.mono (cZ HS hx2) ?_)
 intro e_ w6 hq_;obtain⟨a7,c15,a8,c16,c17,rfl,hB2⟩:=eX hq_
 obtain⟨c18,hs2,hI⟩:=hk2 _ _ _ _ hB2
 dsimp only[ca,na]at hI
 refine⟨_,rfl,DM true F c18,hs2,?_⟩
 exact aW (hk_tr_parser_reader_form_w_3_2 (a7,c15,a8,c16,b4,c18) _ (hI.arr GO SU)) SB
theorem pg {a1:aa} {a3:GLin} (hI:Bun C0 F w0 C0 w0 [MO.box b2 67 (af a1 a2 c1),MO.box b3 27 (bQ a3 a4 c2)] [Cl.sl ag a2 c1 a1.l,Cl.blk b1 65 #[vp b2 0],Cl.sl ai a4 c2 a3.L,av]) {r:bz (Unit×aa×GLin)} (h:nc a1 a3=some r):CP C0 F w0 30 #[vp b1 0,vp b3 0] r fun rx e w=>∃ a5 c3 a6 c4 C,e= .returned (Value.tuple #[])∧Bun C0 F w0 C w [MO.box b2 67 (af rx.2.1 a5 c3),MO.box b3 27 (bQ rx.2.2 a6 c4)] [Cl.sl ag a5 c3 rx.2.1.l,Cl.sl ai a6 c4 rx.2.2.L]:=by
 refine fU (l:=[vp b1 0,vp b3 0]) Tryz.func30 rfl Tryz.ntmps30 rfl ?_
 rw[nc]at h
 refine T ?_
 obtain⟨c5,f1,hB,hl1,hk1⟩:=hI.hands (.l (.r .n))
 refine eG h (fun _ hx1=>gE HS hx1) (lw hk1) (Rc Tryz.func31) ?_
 rintro⟨r1,s1⟩ hx1 h _ w1 ⟨a7,c6,a8,c7,c8,rfl,hB2⟩
 try dsimp only at h
 refine HN hk1 hB2 fun c9 hI=> ?_
 refine⟨_,rfl,?_⟩
 refine lA fun c10 w2 hI=> ?_
 refine aM ?_
 obtain rfl:=aj h
 refine QG ?_
 exact .inl ⟨_,rfl,a8,c7,a7,c6,_,rfl,hI.arr GO SU⟩
def lq:Tr:= .n
def lr:Tr:=(.c (4,.s) (.c (6,.q) (.c (7,.q) lq)))
theorem yS (hF:dG F w0) {l1:List aS} {at1:Int} (hc:AllCl [Cl.sl ag a1 c1 l1,av] F w0) {r:GLin×Int×Int} (h:pY l1 at1=some r):Cg 12 #[vs a1 l1.length c1,vi at1] w0 fun e w=>∃ a2 c2,e= .returned (Value.tuple #[(Value.agg (bQ r.1 a2 c2)),vi r.2.1,vi r.2.2])∧Ext w0 w∧AllCl [Cl.sl ai a2 c2 r.1.L] F w:=by
 refine EN Tryz.func12 Tryz.ntmps12 hF hc fun hI=> ?_
 rw[pY]at h
 refine sr (cF (cs:=#[vi 0,vs none 0 0]) hI gn rfl rfl lg rfl ?_)
 intro b1 c3 w1 hI
 refine rJ ?_
 refine rJ ?_
 refine nk (al (sr (sm ?_)))
 refine sq (qE rfl et ao) ?_
 refine sm ?_
 refine az (cq rfl rfl rfl rfl) rfl (fun hc=>ft rfl et) ?_
 refine az (cq rfl rfl rfl rfl) rfl (fun hc=>ft rfl et) ?_
 refine az (cq rfl rfl rfl rfl) rfl (fun hc=>nK rfl HT (aQ et hc)) ?_
 refine az (cq rfl rfl rfl rfl) rfl (fun hc=>rF rfl (aQ et hc) (aQ et hc)) ?_
 refine sq (ya rfl et et) ?_
 refine TC (fun hb h=> ?_) fun hb h=> ?_
 ·refine sr (sq (ax (vs:=[]) (cs:=#[vi 0,vs none 0 0]) rfl trivial (by kernel_rfl)) ?_)
  refine lA fun c4 w2 hI=> ?_
  refine rJ ?_
  refine rJ ?_
  refine nk (aA ?_)
  have hI:=hI.add (c:=Cl.sl ai none 0 ([]:List GMono)) SlC.nil
  obtain rfl:=aj h
  exact eV (vs:=[(Value.agg #[vi 0,vs none 0 0]),vi 0,vi 1]) Tryz.results12 ⟨⟨_,aK rfl rfl,ci (l:=[vi 0,vs none 0 0]) oy rfl bt (CellsAt.of_blk (hI.blk .z) rfl)⟩,⟨aK rfl rfl,⟨aK rfl rfl,trivial⟩⟩⟩ ⟨none,0,rfl,hI.ext0,hI.fin ⟨.z,trivial⟩⟩
 refine bf (bb (sr (sm ?_)))
 refine sm ?_
 refine sq (ax (vs:=[(0,vs a1 l1.length c1),(1,vi at1)]) (cs:=#[vs a1 l1.length c1,vi at1,vi 0]) rfl ⟨rfl,et,⟨rfl,et,trivial⟩⟩ (by kernel_rfl)) ?_
 refine mS (v:=(Value.agg #[vs a1 l1.length c1,vi at1,vi 0])) (cs:=#[vs a1 l1.length c1,vi at1,vi 0]) hI gn rfl rfl et rfl ?_
 intro b2 c5 w3 hI
 refine lN fun b3 c6 w4 hI=> ?_
 refine lS fun c7 w5 hI=> ?_
 refine nk (sr (sq (ax (vs:=[]) (cs:=#[vi 0,vs none 0 0]) rfl trivial (by kernel_rfl)) ?_))
 refine lN fun b4 c8 w6 hI=> ?_
 refine lA fun c9 w7 hI=> ?_
 refine nk (al (sr (sq (nJ (vs:=[]) (cap:=[vp b3 0,vp b4 0]) rfl rfl ⟨et,⟨et,trivial⟩⟩) ?_)))
 obtain⟨c10,hI⟩:=hI.relBox (.s .z)
 have hI:=hI.add (c:=Cl.sl ai none 0 ([]:List GMono)) SlC.nil
 obtain⟨c11,f1,hB,hl1,hk1⟩:=hI.hands (.l (.l (.r .n)))
 replace hB:=hB.ord (.c (.s .z) (.c .z .n))
 rcases uh h with⟨⟨r1,s1,s2⟩,hx1,h⟩ | ⟨pa1,pn1,hx1,hn1,h⟩
 ·skip
  try dsimp only at h
  refine aB gn rfl (Rc Tryz.func29) (Calls.mono (tq (β:=(Option Addr)×Nat×(Option Addr)×Nat) (fun x=>[MO.box b2 67 (af s1 (x.1) (x.2.1)),MO.box b4 27 (bQ s2 (x.2.2.1) (x.2.2.2))]) (fun x=>[Cl.sl ag (x.1) (x.2.1) s1.l,Cl.sl ai (x.2.2.1) (x.2.2.2) s2.L]) (cl:=[Cl.sl ag a1 c1 l1,Cl.blk b3 65 #[vp b2 0],Cl.sl ai none 0 ([]:List GMono),av]) F3 (hB.subs ⟨(.s (.s .z)),(.s .z),.z,(.s (.s (.s .z))),trivial⟩) (fun C1_ F1_ w1_ hB_=>(pg hB_ hx1).mono fun e_ w_ hq_=>(let ⟨a3,c12,a4,c13,C_,he_,hB2_⟩:=eX hq_;⟨he_,(a3,c12,a4,c13),C_,hB2_⟩))) ?_)
  rintro _ w8 ⟨rfl,⟨a3,c12,a4,c13⟩,c14,hB2⟩
  obtain⟨c15,hs1,hI⟩:=hk1 _ _ _ _ hB2
  replace hI:Bun du F w0 c15 w8 [MO.box b2 67 (af s1 a3 c12),MO.box b4 27 (bQ s2 a4 c13),MO.box b1 27 #[vi 0,vs none 0 0]] [Cl.sl ag a3 c12 s1.l,Cl.sl ai a4 c13 s2.L,Cl.sl ai none 0 ([]:List GMono),Cl.blk b3 65 #[vp b2 0],Cl.sl ag a1 c1 l1,av]:=hI
  refine⟨_,rfl,?_⟩
  refine sm ?_
  refine sq (eW rfl et rfl) ?_
  refine sq (eW rfl et rfl) ?_
  refine sa ?_
  refine sa ?_
  refine nk (sr (sm ?_))
  refine sq (ow rfl et ao) ?_
  refine TC (fun hb h=> ?_) fun hb h=> ?_
  ·refine sr (sq (ax (vs:=[]) (cs:=#[vi 0,vs none 0 0]) rfl trivial (by kernel_rfl)) ?_)
   refine sm ?_
   refine sm ?_
   refine lA fun c16 w9 hI=> ?_
   refine sa ?_
   refine sa ?_
   refine aM ?_
   refine nR (e:=[(4,vp b1 0),(5,vi 0),(6,vi 0)]) SB ?_
   refine aA ?_
   obtain rfl:=aj h
   exact eV (vs:=[(Value.agg #[vi 0,vs none 0 0]),vi 0,vi 0]) Tryz.results12 ⟨⟨_,aK rfl rfl,ci (l:=[vi 0,vs none 0 0]) oy rfl bt (CellsAt.of_blk (hI.blk (.s (.s .z))) rfl)⟩,⟨aK rfl rfl,⟨aK rfl rfl,trivial⟩⟩⟩ ⟨none,0,rfl,hI.ext0,hI.fin ⟨(.s (.s .z)),trivial⟩⟩
  refine bf (nR (e:=[(4,vp b1 0),(7,vp b3 0),(8,vp b4 0)]) ⟨rfl,rfl,rfl,trivial⟩ ?_)
  refine al (aI [5] false (.c (0,.q) (.two 1 (.c (2,.q) (.c (3,.q) (.two 4 (.c (5,.s) (.c (6,.q) (.c (7,.q) lq))) 5 lr))) 5 (.c (1,.s) (.c (2,.q) (.c (3,.q) lr))))) hI (by kernel_rfl) (by kernel_rfl) ?_)
  intro w13 hI
  refine cj (α:=NP) (T:=lq) (fun x=>[(4,vp b1 0),(5,vi s1.at_),(6,vi 0),(7,vp b3 0),(8,vp b4 0),(35,(Value.agg (bQ s2 a4 c13))),(36,vp b2 0),(37,vp b2 0),(38,vp b2 1),(39,vi s1.at_)]) (fun x w=>Bun du F w0 x w [MO.box b2 67 (af s1 a3 c12),MO.box b4 27 (bQ s2 a4 c13),MO.box b1 27 (bQ s2 a4 c13)] [Cl.sl ag a3 c12 s1.l,Cl.sl ai a4 c13 s2.L,Cl.sl ai none 0 ([]:List GMono),Cl.blk b3 65 #[vp b2 0],Cl.sl ag a1 c1 l1,av]) (fun x w=>SN [] (DM true F x) w) ?_ ?_
  ·clear hI;rintro c19 w12 hI
   try dsimp only at hI ⊢
   unfold lq
   refine oq ?_
   refine bb (aA ?_)
   obtain rfl:=aj h
   exact eV (vs:=[(Value.agg (bQ s2 a4 c13)),vi s1.at_,vi 0]) Tryz.results12 ⟨⟨_,aK rfl rfl,ci (l:=(gc s2 a4 c13)) oy rfl bt (CellsAt.of_blk (hI.blk (.s (.s .z))) rfl)⟩,⟨aK rfl rfl,⟨aK rfl rfl,trivial⟩⟩⟩ ⟨a4,c13,rfl,hI.ext0,hI.fin ⟨(.s .z),trivial⟩⟩
  intro hk_tr_parser_Lin_1_1
  refine cj (α:=NP) (T:=lr) (fun x=>[(4,vp b1 0),(7,vp b3 0),(8,vp b4 0),(35,(Value.agg (bQ s2 a4 c13))),(36,vp b2 0),(37,vp b2 0),(38,vp b2 1)]) (fun x w=>Bun du F w0 x w [MO.box b2 67 (af s1 a3 c12),MO.box b4 27 (bQ s2 a4 c13),MO.box b1 27 (bQ s2 a4 c13)] [Cl.sl ag a3 c12 s1.l,Cl.sl ai a4 c13 s2.L,Cl.sl ai none 0 ([]:List GMono),Cl.blk b3 65 #[vp b2 0],Cl.sl ag a1 c1 l1,av]) (fun x w=>SN [] (DM true F x) w) ?_ ?_
  ·clear hI;rintro c18 w11 hI
   try dsimp only at hI ⊢
   unfold lr
   refine bn rfl gn rfl (bo (v:=(vi s1.at_)) rfl et u3 rfl (CellsAt.of_blk (hI.blk .z) rfl)) SX.self ?_
   refine l6 rfl gn rfl (fun w'=>cy rfl et) ?_
   refine l6 rfl gn rfl (fun w'=>cy rfl ao) ?_
   exact aW (hk_tr_parser_Lin_1_1 c18 _ (hI.arr GO SU)) SB
  intro hk_tr_parser_Lin_1_0
  refine ct rfl gn rfl (fun w' hw'=>(am (l:=(gc s2 a4 c13)) rfl et oy rfl bt ((CA.blk (hI.blk (.s .z)) rfl).at_ (SX.any rfl hw')))) (by kernel_rfl) ?_
  refine da ?_ ?_
  ·skip
   refine bn rfl gn rfl (bo (v:=(vp b2 0)) rfl et Iy rfl (hI.kblk (l:=[vp b2 0]) (.s (.s (.s .z))) rfl).1) SX.self ?_
   refine l6 rfl gn rfl (fun w'=>nI rfl et) ?_
   refine l6 rfl gn rfl (fun w'=>aN rfl et Ix rfl jt rfl) ?_
   refine da ?_ ?_
   ·skip
    refine bn rfl gn rfl (bo (v:=(vi s1.at_)) rfl et u3 rfl (CellsAt.of_blk (hI.blk .z) rfl)) SX.self ?_
    refine bJ (F:=F) (C:=c15) rfl rfl ?_
    refine vA fun c17 w10 hI=> ?_
    refine l6 rfl gn rfl (fun w'=>cy rfl et) ?_
    refine l6 rfl gn rfl (fun w'=>cy rfl ao) ?_
    exact aW (hk_tr_parser_Lin_1_1 c17 _ (hI.arr GO SU)) SB
   refine bu (F:=F) (C:=c15) rfl rfl ?_
   refine vA fun c17 w10 hI=> ?_
   exact aW (hk_tr_parser_Lin_1_0 c17 _ (hI.arr GO SU)) SB
  refine bu (F:=F) (C:=c15) rfl rfl ?_
  refine vA fun c17 w10 hI=> ?_
  refine bn rfl gn rfl (bo (v:=(vp b2 0)) rfl et Iy rfl (hI.kblk (l:=[vp b2 0]) (.s (.s (.s .z))) rfl).1) SX.self ?_
  refine l6 rfl gn rfl (fun w'=>nI rfl et) ?_
  refine l6 rfl gn rfl (fun w'=>aN rfl et Ix rfl jt rfl) ?_
  exact aW (hk_tr_parser_Lin_1_0 c17 _ (hI.arr GO SU)) SB
 try dsimp only at h
 refine aB gn rfl (Rc Tryz.func29) (Calls.mono (tr (cl:=[Cl.sl ag a1 c1 l1,Cl.blk b3 65 #[vp b2 0],Cl.sl ai none 0 ([]:List GMono),av]) F3 (hB.subs ⟨(.s (.s .z)),(.s .z),.z,(.s (.s (.s .z))),trivial⟩) (fun C1_ F1_ w1_ hB_=>(pg hB_ hx1).mono fun e_ w_ hq_=>eY hq_)) ?_)
 rintro _ w14 ⟨rfl,c20,hB2⟩
 obtain⟨c21,hs2,hI⟩:=hk1 _ _ _ _ hB2
 replace hI:Bun du F w0 c21 w14 [MO.box b1 27 #[vi 0,vs none 0 0]] [Cl.sl ai none 0 ([]:List GMono),Cl.blk b3 65 #[vp b2 0],Cl.sl ag a1 c1 l1,av]:=hI
 refine⟨_,rfl,?_⟩
 have hk2:(!decide (pn1=0))=true:=by simp[hn1]
 refine sm ?_
 refine sq (eW rfl et rfl) ?_
 refine sq (eW rfl et rfl) ?_
 refine sa ?_
 refine sa ?_
 refine nk (sr (sm ?_))
 refine sq (ow rfl et ao) ?_
 refine nk (q8 (b:= !decide (pn1=0)) et (fun _=> ?_) (fun hb=>absurd (hb.symm.trans hk2) (by simp)))
 refine sr (sq (ax (vs:=[]) (cs:=#[vi 0,vs none 0 0]) rfl trivial (by kernel_rfl)) ?_)
 refine sm ?_
 refine sm ?_
 refine lA fun c22 w15 hI=> ?_
 refine sa ?_
 refine sa ?_
 refine aM ?_
 refine nR (e:=[(4,vp b1 0),(5,vi pa1),(6,vi pn1)]) SB ?_
 refine aA ?_
 obtain rfl:=aj h
 exact eV (vs:=[(Value.agg #[vi 0,vs none 0 0]),vi pa1,vi pn1]) Tryz.results12 ⟨⟨_,aK rfl rfl,ci (l:=[vi 0,vs none 0 0]) oy rfl bt (CellsAt.of_blk (hI.blk .z) rfl)⟩,⟨aK rfl rfl,⟨aK rfl rfl,trivial⟩⟩⟩ ⟨none,0,rfl,hI.ext0,hI.fin ⟨.z,trivial⟩⟩
theorem xD (hF:dG F w0) {r1:Int} (hc:AllCl [] F w0) {r:Bool} (h:mE r1=some r):CR F w0 153 #[(Value.int .i32 r1)] (vb r) []:=by
 refine EN Tryz.func153 Tryz.ntmps153 hF hc fun hI=> ?_
 rw[mE]at h
 refine T ?_
 refine al (T ?_)
 refine al (T ?_)
 refine TC (fun hb h=> ?_) fun hb h=> ?_
 ·refine TR fun hb h=> ?_
  exact RF
 refine TC (fun hb h=> ?_) fun hb h=> ?_
 ·refine TR fun hb h=> ?_
  exact RF
 refine TC (fun hb h=> ?_) fun hb h=> ?_
 ·refine TR fun hb h=> ?_
  exact RF
 refine TR fun hb h=> ?_
 exact RF
theorem wN (hF:dG F w0) {r1:Int} (hc:AllCl [] F w0) {r:Bool} (h:ni r1=some r):CR F w0 155 #[(Value.int .i32 r1)] (vb r) []:=by
 refine EN Tryz.func155 Tryz.ntmps155 hF hc fun hI=> ?_
 rw[ni]at h
 exact RF
theorem tg (hF:dG F w0) {s1:List UInt8} (hc:AllCl [] F w0) {r:Int} (h:mg s1=some r):CR F w0 83 #[(aE s1)] (vi r) []:=by
 refine EN Tryz.func83 Tryz.ntmps83 hF hc fun hI=> ?_
 rw[mg]at h
 refine T ?_
 refine al (T ?_)
 refine bh (α:=Nat×Int) (fun x=>fun w=>∃ C,Bun du F w0 C w [] []∧gK s1 (x.1) (x.2)=some r) (fun x _=>x.1) (fun x=>[(0,(aE s1)),(3,vi (x.2))]) (fu,0) BH SB ?_
 clear h hI;rintro⟨fuel1,at1⟩ w1 ⟨c1,hI,h⟩
 dsimp only at hI h ⊢
 rcases fuel1 with _ | fuel1
 ·rw[gK]at h;cases h
 rw[gK]at h
 refine al (T ?_)
 refine TC (fun hb h=> ?_) fun hb h=> ?_
 ·refine T ?_
  obtain⟨b1,hx1,h⟩:=ae h
  refine sI ?_
  refine T ?_
  refine sB h (fun _ k=>xD hI.lt trivial k) (Rc Tryz.func153) fun r1 w2 h hI=> ?_
  refine TC (fun hb h=> ?_) fun hb h=> ?_
  ·refine T ?_
   refine aM ?_
   exact kl (fuel1,ar (at1+1))
  refine TC (fun hb h=> ?_) fun hb h=> ?_
  ·refine T ?_
   obtain⟨s2,hx4,h⟩:=ae h
   refine sI ?_
   have hI:=hI.add (c:=rv (Value.func (.func 155) #[] #[]) ni) ⟨rfl,fun D' w' hs hl x_1 r k h=>CallV.fn (cap:=[]) G8 (wN hl trivial h)⟩
   refine sB h (fun _ k=>oD hI.lt FS k) (Rc Tryz.func154) fun r2 w3 h hI=> ?_
   refine T ?_
   refine aM ?_
   exact kl (fuel1,ar (at1+r2))
  exact RF
 refine bk ?_
 refine eU ?_
 refine bb ?_
 exact RF
theorem wM (hF:dG F w0) {r1:Int} (hc:AllCl [] F w0) {r:Bool} (h:lP r1=some r):CR F w0 159 #[(Value.int .i32 r1)] (vb r) []:=by
 refine EN Tryz.func159 Tryz.ntmps159 hF hc fun hI=> ?_
 rw[lP]at h
 refine T ?_
 refine al (T ?_)
 refine al (T ?_)
 refine TC (fun hb h=> ?_) fun hb h=> ?_
 ·refine TR fun hb h=> ?_
  exact RF
 refine TC (fun hb h=> ?_) fun hb h=> ?_
 ·refine TR fun hb h=> ?_
  exact RF
 refine TC (fun hb h=> ?_) fun hb h=> ?_
 ·refine TR fun hb h=> ?_
  exact RF
 refine TC (fun hb h=> ?_) fun hb h=> ?_
 ·refine TR fun hb h=> ?_
  exact RF
 refine TC (fun hb h=> ?_) fun hb h=> ?_
 ·refine TR fun hb h=> ?_
  exact RF
 refine TC (fun hb h=> ?_) fun hb h=> ?_
 ·refine TR fun hb h=> ?_
  exact RF
 refine TC (fun hb h=> ?_) fun hb h=> ?_
 ·refine TR fun hb h=> ?_
  exact RF
 refine TC (fun hb h=> ?_) fun hb h=> ?_
 ·refine TR fun hb h=> ?_
  exact RF
 refine TC (fun hb h=> ?_) fun hb h=> ?_
 ·refine TR fun hb h=> ?_
  exact RF
 refine TC (fun hb h=> ?_) fun hb h=> ?_
 ·refine TR fun hb h=> ?_
  exact RF
 refine TC (fun hb h=> ?_) fun hb h=> ?_
 ·refine TR fun hb h=> ?_
  exact RF
 refine TC (fun hb h=> ?_) fun hb h=> ?_
 ·refine TR fun hb h=> ?_
  exact RF
 refine TC (fun hb h=> ?_) fun hb h=> ?_
 ·refine TR fun hb h=> ?_
  exact RF
 refine TC (fun hb h=> ?_) fun hb h=> ?_
 ·refine TR fun hb h=> ?_
  exact RF
 refine TC (fun hb h=> ?_) fun hb h=> ?_
 ·refine TR fun hb h=> ?_
  exact RF
 refine TC (fun hb h=> ?_) fun hb h=> ?_
 ·refine TR fun hb h=> ?_
  exact RF
 refine TC (fun hb h=> ?_) fun hb h=> ?_
 ·refine TR fun hb h=> ?_
  exact RF
 refine TC (fun hb h=> ?_) fun hb h=> ?_
 ·refine TR fun hb h=> ?_
  exact RF
 refine TC (fun hb h=> ?_) fun hb h=> ?_
 ·refine TR fun hb h=> ?_
  exact RF
 refine TR fun hb h=> ?_
 exact RF
theorem yT (hF:dG F w0) {s1:List UInt8} (hc:AllCl [] F w0) {r:Int×Int} (h:nj s1=some r):CR F w0 84 #[(aE s1)] (Value.tuple #[vi r.1,vi r.2]) []:=by
 refine EN Tryz.func84 Tryz.ntmps84 hF hc fun hI=> ?_
 rw[nj]at h
 refine T ?_
 obtain⟨b1,hx1,h⟩:=ae h
 refine sI ?_
 refine T ?_
 refine al (T ?_)
 refine sB h (fun _ k=>oQ hI.lt trivial k) (Rc Tryz.func156) fun r1 w1 h hI=> ?_
 refine TC (fun hb h=> ?_) fun hb h=> ?_
 ·refine T ?_
  have hI:=hI.add (c:=rv (Value.func (.func 157) #[] #[]) dX) ⟨rfl,fun D' w' hs hl x_1 r k h=>CallV.fn (cap:=[]) D7 (qX hl trivial h)⟩
  refine sB h (fun _ k=>oD hI.lt FS k) (Rc Tryz.func154) fun r2 w2 h hI=> ?_
  exact RF
 refine T ?_
 refine sB h (fun _ k=>pu hI.lt trivial k) (Rc Tryz.func158) fun r3 w3 h hI=> ?_
 refine TC (fun hb h=> ?_) fun hb h=> ?_
 ·refine T ?_
  have hI:=hI.add (c:=rv (Value.func (.func 158) #[] #[]) iZ) ⟨rfl,fun D' w' hs hl x_1 r k h=>CallV.fn (cap:=[]) G7 (pu hl trivial h)⟩
  refine sB h (fun _ k=>oD hI.lt FS k) (Rc Tryz.func154) fun r4 w4 h hI=> ?_
  exact RF
 refine T ?_
 obtain⟨b2,hx10,h⟩:=ae h
 replace hx10:=ay hx10
 refine sJ ?_
 refine TR fun hb h=> ?_
 refine T ?_
 refine sB h (fun _ k=>wM hI.lt trivial k) (Rc Tryz.func159) fun r5 w5 h hI=> ?_
 refine TR fun hb h=> ?_
 exact RF
theorem tW (hF:dG F w0) {s1:List UInt8} (hc:AllCl [] F w0) {r:List aS×Int×Int} (h:jh s1=some r):Cg 39 #[(aE s1)] w0 fun e w=>∃ a1 c1,e= .returned (Value.tuple #[vs a1 r.1.length c1,vi r.2.1,vi r.2.2])∧Ext w0 w∧AllCl [Cl.sl ag a1 c1 r.1] F w:=by
 refine EN Tryz.func39 Tryz.ntmps39 hF hc fun hI=> ?_
 rw[jh]at h
 refine T ?_
 refine al (T ?_)
 refine TC (fun hb h=> ?_) fun hb h=> ?_
 ·refine T ?_
  refine aA ?_
  have hI:=hI.add (c:=Cl.sl ag none 0 ([]:List aS)) SlC.nil
  obtain rfl:=aj h
  refine QG ?_
  exact⟨none,0,rfl,hI.ext0,hI.fin ⟨.z,trivial⟩⟩
 refine T ?_
 refine al (T ?_)
 refine sB h (fun _ k=>tg hI.lt trivial k) (Rc Tryz.func83) fun r1 w1 h hI=> ?_
 refine T ?_
 have hI:=hI.nil ag 62 none
 refine bh (α:=Nat×(List aS)×Int×(Option Addr)×Nat) (fun x=>fun w=>∃ C,Bun du F w0 C w [MO.row ag 62 (x.2.2.2.1) (x.2.2.2.2) (x.2.1)] []∧fw s1 (x.1) (x.2.1) (x.2.2.1)=some r) (fun x _=>x.1) (fun x=>[(0,(aE s1)),(5,vs (x.2.2.2.1) (x.2.1).length (x.2.2.2.2)),(6,vi (x.2.2.1))]) (fu,([]:List aS),r1,none,0) BH SB ?_
 clear h hI;rintro⟨fuel1,bg,at1,a2,c2⟩ w2 ⟨c3,hI,h⟩
 dsimp only at hI h ⊢
 rcases fuel1 with _ | fuel1
 ·rw[fw]at h;cases h
 rw[fw]at h
 refine al (T ?_)
 refine TC (fun hb h=> ?_) fun hb h=> ?_
 ·refine T ?_
  refine al (T ?_)
  obtain⟨s2,hx3,h⟩:=ae h
  refine sI ?_
  refine sB h (fun _ k=>yT hI.lt trivial k) (Rc Tryz.func84) fun r2 w3 h hI=> ?_
  refine T ?_
  refine al (T ?_)
  refine TC (fun hb h=> ?_) fun hb h=> ?_
  ·refine T ?_
   refine aA ?_
   have hI:=hI.add (c:=Cl.sl ag none 0 ([]:List aS)) SlC.nil
   obtain rfl:=aj h
   refine QG ?_
   exact⟨none,0,rfl,hI.ext0,hI.fin ⟨.z,trivial⟩⟩
  refine TC (fun hb h=> ?_) fun hb h=> ?_
  ·refine T ?_
   refine aA ?_
   have hI:=hI.add (c:=Cl.sl ag none 0 ([]:List aS)) SlC.nil
   obtain rfl:=aj h
   refine QG ?_
   exact⟨none,0,rfl,hI.ext0,hI.fin ⟨.z,trivial⟩⟩
  refine T ?_
  obtain⟨s3,hx6,h⟩:=ae h
  refine sq (Dh rfl u9 et et et hx6) ?_
  refine sq (ax (vs:=[(0,vi r2.1),(1,vi at1),(2,(aE s3))]) (cs:=#[vi r2.1,vi at1,(aE s3)]) rfl ⟨rfl,et,⟨rfl,et,⟨rfl,et,trivial⟩⟩⟩ (by kernel_rfl)) ?_
  refine ll hI ag ([(⟨r2.1,at1,s3⟩:aS)]:List aS) vj Rr fun b1 c4 w4 hI=> ?_
  obtain⟨zs1,hx7,h⟩:=ae h
  refine lY (xs:=bg) (ys:=([(⟨r2.1,at1,s3⟩:aS)]:List aS)) hI (.s .z) (hI.rd .z) hx7 gn rfl rfl HT vj rfl rfl et et ?_
  intro a3 c5 c6 w5 hI
  refine T ?_
  obtain⟨s4,hx8,h⟩:=ae h
  refine sI ?_
  refine sB h (fun _ k=>tg hI.lt trivial k) (Rc Tryz.func83) fun r3 w6 h hI=> ?_
  refine sq (qo rfl et et) ?_
  obtain⟨at2,hx11,h⟩:=ae h
  refine sq (tu (cy rfl et) (congrArg (Value.int .i64) (aj hx11))) ?_
  refine aM ?_
  exact kl (fuel1,zs1,at2,a3,c5)
 refine bk ?_
 refine eU ?_
 refine bb ?_
 refine T ?_
 refine aA ?_
 obtain⟨c7,hI⟩:=hI.release .z
 obtain rfl:=aj h
 refine QG ?_
 exact⟨a2,c2,rfl,hI.ext0,hI.fin ⟨.z,trivial⟩⟩
theorem xi (hF:dG F w0) {t1:GType} (hc:AllCl [] F w0) {r:Bool} (h:mq t1=some r):CR F w0 229 #[(Value.agg (co t1))] (vb r) []:=by
 refine EN Tryz.func229 Tryz.ntmps229 hF hc fun hI=> ?_
 rw[mq]at h
 refine sr (lX fun b1 c2 w1 hI=> ?_)
 refine T ?_
 refine sq (am (l:=(dD t1)) rfl et qr rfl cD (hI.kblk (l:=(dD t1)) .z rfl).1) ?_
 refine T ?_
 refine sq (ax (vs:=[(0,vi t1.Kind)]) (cs:=#[vi t1.Kind,vi 0,vi 0,vi 0,vi 0]) rfl ⟨rfl,et,trivial⟩ (by kernel_rfl)) ?_
 refine sq (ji rfl et et (uo ..) (qd ..)) ?_
 exact RF
theorem ol (hF:dG F w0) {t1:GType} (hc:AllCl [] F w0) {r:Int} (h:ga t1=some r):CR F w0 230 #[(Value.agg (co t1))] (vi r) []:=by
 refine EN Tryz.func230 Tryz.ntmps230 hF hc fun hI=> ?_
 rw[ga]at h
 refine sr (lX fun b1 c2 w1 hI=> ?_)
 refine rJ ?_
 refine nk (sr (sq (aN rfl et qr rfl jt rfl) ?_))
 refine sq (bo (v:=(vi t1.Round)) rfl et u3 rfl (hI.kblk (l:=[vi t1.Round]) .z rfl).1) ?_
 refine sq (Dq rfl et ao) ?_
 refine sm ?_
 refine az (aT rfl rfl rfl rfl) rfl (fun hc=>aN rfl et qr rfl jt rfl) ?_
 refine az (aT rfl rfl rfl rfl) rfl (fun hc=>(bo (v:=(vi t1.Round)) rfl (aQ et hc) u3 rfl (hI.kblk (l:=[vi t1.Round]) .z rfl).1)) ?_
 refine az (aT rfl rfl rfl rfl) rfl (fun hc=>Dn rfl (aQ et hc) ao) ?_
 refine sq (rG rfl et et) ?_
 refine sm ?_
 refine az (aT rfl rfl rfl rfl) rfl (fun hc=>aN rfl et qr rfl jt rfl) ?_
 refine az (aT rfl rfl rfl rfl) rfl (fun hc=>(bo (v:=(vi t1.Over)) rfl (aQ et hc) u3 rfl (hI.kblk (l:=[vi t1.Over]) .z rfl).1)) ?_
 refine az (aT rfl rfl rfl rfl) rfl (fun hc=>zp rfl (aQ et hc) ao) ?_
 refine az (aT rfl rfl rfl rfl) rfl (fun hc=>ft rfl (aQ et hc)) ?_
 refine az (gP rfl rfl rfl rfl) rfl (fun hc=>aN rfl et qr rfl jt rfl) ?_
 refine az (gP rfl rfl rfl rfl) rfl (fun hc=>(bo (v:=(vi t1.Over)) rfl (aQ et hc) u3 rfl (hI.kblk (l:=[vi t1.Over]) .z rfl).1)) ?_
 refine az (gP rfl rfl rfl rfl) rfl (fun hc=>zp rfl (aQ et hc) ao) ?_
 refine az (aT rfl rfl rfl rfl) rfl (fun hc=>zn rfl hc et et) ?_
 refine sq (rG rfl et et) ?_
 obtain⟨modes1,hx1,h⟩:=ae h
 refine sq (tu (cy rfl et) (congrArg Value.bool (aj hx1))) ?_
 refine nk (al (T ?_))
 refine TR fun hb h=> ?_
 exact RF
theorem jR (hF:dG F w0) {t1:GType} (hc:AllCl [] F w0) {r:Int} (h:dH t1=some r):CR F w0 202 #[(Value.agg (co t1))] (vi r) []:=by
 refine EN Tryz.func202 Tryz.ntmps202 hF hc fun hI=> ?_
 rw[dH]at h
 refine sr (lX fun b1 c2 w1 hI=> ?_)
 refine T ?_
 refine al (T ?_)
 refine bw (α:=Bool) (fun _=>⟨15,[]⟩) (fun x=>[(1,vp b1 0),(4,vi t1.Kind),(5,vb x)]) (fun x=>fun w=>∃ C,Bun du F w0 C w [] [Cl.blk b1 35 (co t1)]∧fV t1 x=some r) ?_ ?_
 ·clear h hI;rintro i1 w2 ⟨c3,hI,h⟩
  try dsimp only at hI h ⊢
  rw[fV]at h
  refine TC (fun hb h=> ?_) fun hb h=> ?_
  ·refine sr (sq (am (l:=(dD t1)) rfl et qr rfl cD (hI.kblk (l:=(dD t1)) .z rfl).1) ?_)
   refine sB h (fun _ k=>xi hI.lt trivial k) (Rc Tryz.func229) fun r1 w3 h hI=> ?_
   refine TR fun hb h=> ?_
   exact RF
  refine TC (fun hb h=> ?_) fun hb h=> ?_
  ·refine sr (sq (am (l:=(dD t1)) rfl et qr rfl cD (hI.kblk (l:=(dD t1)) .z rfl).1) ?_)
   refine sB h (fun _ k=>ol hI.lt trivial k) (Rc Tryz.func230) fun r2 w4 h hI=> ?_
   refine TR fun hb h=> ?_
   exact RF
  exact RF
 refine TC (fun hb h=> ?_) fun hb h=> ?_
 ·exact bf (bi (decide (t1.Kind=1)) SB BH rfl)
 refine T ?_
 refine aM ?_
 exact kj (decide (t1.Kind=3))
theorem oT (hF:dG F w0) {s1 sep1:List UInt8} (hc:AllCl [] F w0) {r:List UInt8×List UInt8×Bool} (h:gC s1 sep1=some r):CR F w0 268 #[(aE s1),(aE sep1)] (Value.tuple #[(aE r.1),(aE r.2.1),vb r.2.2]) []:=by
 refine EN Tryz.func268 Tryz.ntmps268 hF hc fun hI=> ?_
 rw[gC]at h
 refine T ?_
 refine al (T ?_)
 obtain⟨r1,hx1,h⟩:=ae h
 refine aB gn rfl (aF (vs:=[(aE s1),(aE sep1)]) rfl GJ ⟨et,⟨et,trivial⟩⟩) (Calls.mono (ov (Dj F du) w0 hI.lt s1 sep1 trivial r1 hx1) ?_)
 rintro _ w1 ⟨rfl,hx2,hl1⟩
 refine⟨_,rfl,?_⟩
 replace hI:=(hI.ext hx2)
 refine TC (fun hb h=> ?_) fun hb h=> ?_
 ·refine al (aI [] false (.c (0,.q) (.c (1,.q) (.c (2,.q) (.c (3,.q) (.c (4,.q) (.c (5,.q) (.c (6,.q) (.c (7,.q) (.c (8,.q) (.c (9,.q) (.c (10,.q) (.c (11,.q) .n)))))))))))) hI (by kernel_rfl) (by kernel_rfl) ?_)
  intro w2 hI
  refine V ?_
  obtain⟨s2,hx3,h⟩:=ae h
  refine vI ?_
  refine V ?_
  obtain⟨s3,hx4,h⟩:=ae h
  refine vI ?_
  refine V ?_
  exact RF
 exact RF
theorem xl (hF:dG F w0) {s1 sep1:List UInt8} (hc:AllCl [] F w0) {r:List UInt8×List UInt8×Bool} (h:mu s1 sep1=some r):CR F w0 264 #[(aE s1),(aE sep1)] (Value.tuple #[(aE r.1),(aE r.2.1),vb r.2.2]) []:=by
 refine EN Tryz.func264 Tryz.ntmps264 hF hc fun hI=> ?_
 rw[mu]at h
 refine T ?_
 refine sB h (fun _ k=>oT hI.lt trivial k) (Rc Tryz.func268) fun r1 w1 h hI=> ?_
 exact RF
theorem nA (hF:dG F w0) {s1 prefix1:List UInt8} (hc:AllCl [] F w0) {r:Bool} (h:eC s1 prefix1=some r):CR F w0 272 #[(aE s1),(aE prefix1)] (vb r) []:=by
 refine EN Tryz.func272 Tryz.ntmps272 hF hc fun hI=> ?_
 rw[eC]at h
 refine T ?_
 obtain⟨s2,hx1,h⟩:=ae h
 replace hx1:=ay hx1
 refine sJ ?_
 exact RF
theorem nB (hF:dG F w0) {s1 prefix1:List UInt8} (hc:AllCl [] F w0) {r:List UInt8×Bool} (h:eD s1 prefix1=some r):CR F w0 269 #[(aE s1),(aE prefix1)] (Value.tuple #[(aE r.1),vb r.2]) []:=by
 refine EN Tryz.func269 Tryz.ntmps269 hF hc fun hI=> ?_
 rw[eD]at h
 refine T ?_
 refine al (T ?_)
 refine sB h (fun _ k=>nA hI.lt trivial k) (Rc Tryz.func272) fun r1 w1 h hI=> ?_
 refine TR fun hb h=> ?_
 refine T ?_
 obtain⟨s2,hx3,h⟩:=ae h
 refine sI ?_
 exact RF
theorem rB (hF:dG F w0) {s1 prefix1:List UInt8} (hc:AllCl [] F w0) {r:List UInt8×Bool} (h:iI s1 prefix1=some r):CR F w0 265 #[(aE s1),(aE prefix1)] (Value.tuple #[(aE r.1),vb r.2]) []:=by
 refine EN Tryz.func265 Tryz.ntmps265 hF hc fun hI=> ?_
 rw[iI]at h
 refine T ?_
 refine sB h (fun _ k=>nB hI.lt trivial k) (Rc Tryz.func269) fun r1 w1 h hI=> ?_
 exact RF
theorem qY (hF:dG F w0) {s1:List UInt8} (hc:AllCl [] F w0) {r:Bool} (h:kn s1=some r):CR F w0 266 #[(aE s1)] (vb r) []:=by
 refine EN Tryz.func266 Tryz.ntmps266 hF hc fun hI=> ?_
 rw[kn]at h
 refine T ?_
 refine bw (α:=Unit) (fun _=>⟨31,[]⟩) (fun _=>[(0,(aE s1))]) (fun _=>fun w=>∃ C,Bun du F w0 C w [] []∧jQ s1=some r) ?_ ?_
 ·clear h hI;rintro _ w1 ⟨c1,hI,h⟩
  try dsimp only at hI h ⊢
  rw[jQ]at h
  refine T ?_
  obtain⟨b1,hx1,h⟩:=ae h
  replace hx1:=ay hx1
  refine sJ ?_
  exact RF
 refine T ?_
 refine bh (α:=Nat×Int) (fun x=>fun w=>∃ C,Bun du F w0 C w [] []∧iw s1 (x.1) (x.2)=some r) (fun x _=>x.1) (fun x=>[(0,(aE s1)),(3,vi (x.2))]) (fu,0) BH SB ?_
 clear h hI;rintro⟨fuel1,i1⟩ w2 ⟨c2,hI,h⟩
 dsimp only at hI h ⊢
 rcases fuel1 with _ | fuel1
 ·rw[iw]at h;cases h
 rw[iw]at h
 refine al (T ?_)
 refine TC (fun hb h=> ?_) fun hb h=> ?_
 ·refine T ?_
  refine al (T ?_)
  obtain⟨b2,hx2,h⟩:=ae h
  refine sI ?_
  refine T ?_
  obtain⟨b3,hx3,h⟩:=ae h
  replace hx3:=ay hx3
  refine sJ ?_
  refine TR fun hb h=> ?_
  refine T ?_
  refine aM ?_
  exact kl (fuel1,ar (i1+1))
 refine bk ?_
 refine eU ?_
 exact kj ()
theorem qZ (hF:dG F w0) {s1:List UInt8} (hc:AllCl [] F w0) {r:Int×Bool} (h:ko s1=some r):CR F w0 267 #[(aE s1)] (Value.tuple #[vi r.1,vb r.2]) []:=by
 refine EN Tryz.func267 Tryz.ntmps267 hF hc fun hI=> ?_
 rw[ko]at h
 refine T ?_
 refine al (T ?_)
 refine TR fun hb h=> ?_
 refine T ?_
 obtain⟨r1,hx1,h⟩:=ae h
 refine aB gn rfl (Rc Tryz.func270) (Calls.mono (sv (Dj F du) w0 hI.lt s1 10 64 trivial r1 hx1) ?_)
 rintro _ w1 ⟨v1,rfl,hx2,hl1⟩
 refine⟨_,rfl,?_⟩
 replace hI:=(hI.ext hx2)
 exact RF
theorem wO (hF:dG F w0) {n1:Int} (hc:AllCl [] F w0) {r:Bool} (h:lQ n1=some r):CR F w0 233 #[vi n1] (vb r) []:=by
 refine EN Tryz.func233 Tryz.ntmps233 hF hc fun hI=> ?_
 rw[lQ]at h
 exact RF
theorem tX (hF:dG F w0) {n1:Int} (hc:AllCl [] F w0) {r:Int} (h:km n1=some r):CR F w0 235 #[vi n1] (Value.int .u64 r) []:=by
 refine EN Tryz.func235 Tryz.ntmps235 hF hc fun hI=> ?_
 rw[km]at h
 refine T ?_
 refine al (T ?_)
 refine TR fun hb h=> ?_
 exact RF
theorem Bv (hF:dG F w0) {a1 b1:Int} (hc:AllCl [] F w0) {r:Int} (h:pZ a1 b1=some r):CR F w0 234 #[(Value.int .u64 a1),(Value.int .u64 b1)] (Value.int .u64 r) []:=by
 refine EN Tryz.func234 Tryz.ntmps234 hF hc fun hI=> ?_
 rw[pZ]at h
 refine T ?_
 refine al (T ?_)
 refine bh (α:=Nat×Int×Int) (fun x=>fun w=>∃ C,Bun du F w0 C w [] []∧k0 (x.1) (x.2.1) (x.2.2)=some r) (fun x _=>x.1) (fun x=>[(0,(Value.int .u64 (x.2.1))),(1,(Value.int .u64 (x.2.2)))]) (fu,a1,b1) BH SB ?_
 clear h hI;rintro⟨fuel1,a2,b2⟩ w1 ⟨c1,hI,h⟩
 dsimp only at hI h ⊢
 rcases fuel1 with _ | fuel1
 ·rw[k0]at h;cases h
 rw[k0]at h
 refine al (T ?_)
 refine TC (fun hb h=> ?_) fun hb h=> ?_
 ·refine T ?_
  refine aI [] false (.c (0,.q) (.c (1,.q) (.c (2,.q) (.c (3,.q) (.c (4,.q) (.c (5,.q) .n)))))) hI (by kernel_rfl) (by kernel_rfl) ?_
  intro w2 hI
  refine V ?_
  obtain⟨ho1,h⟩:=eF h
  refine l6 rfl gn rfl (fun w'=>zl rfl et et ho1) ?_
  refine V ?_
  refine oq ?_
  exact kl (fuel1,b2,Int.tmod a2 b2)
 refine bk ?_
 refine eU ?_
 refine bb ?_
 exact RF
theorem tj (hF:dG F w0) {v1:GVal} (hc:AllCl [] F w0) {r:Bool} (h:mi v1=some r):CR F w0 207 #[(Value.agg (o6 v1))] (vb r) []:=by
 refine EN Tryz.func207 Tryz.ntmps207 hF hc fun hI=> ?_
 rw[mi]at h
 refine sr (lX fun b1 c2 w1 hI=> ?_)
 refine T ?_
 refine al (aI [] false (.c (0,.q) (.c (1,.q) (.c (2,.q) (.c (3,.q) (.c (4,.q) (.c (5,.q) (.c (6,.q) (.c (7,.q) (.c (8,.q) (.c (9,.q) (.c (10,.q) (.c (11,.s) (.c (12,.q) (.c (13,.q) (.c (14,.q) (.c (15,.q) (.c (17,.q) (.c (18,.q) (.c (19,.q) (.c (16,.s) (.c (20,.s) (.c (21,.q) (.c (22,.q) (.c (23,.q) .n)))))))))))))))))))))))) hI (by kernel_rfl) (by kernel_rfl) ?_)
 intro w2 hI
 refine V ?_
 obtain⟨r1,hx1,h⟩:=ae h
 replace hx1:=ay hx1
 refine nQ (v:=(vb r1)) rfl (aT rfl rfl rfl rfl) rfl (fun hc=>(aF (vs:=[vi v1.N]) rfl GM ⟨(aQ et hc),trivial⟩)) (fun hc=>(wO hI.lt trivial (hx1 hc)).mono fun _ _ k=>⟨k.1,k.2.1⟩) ?_
 intro w3 hx2;replace hI:=hI.ext hx2
 refine V ?_
 obtain⟨r2,hx3,h⟩:=ae h
 replace hx3:=ay hx3
 refine nQ (v:=(Value.int .u64 r2)) rfl (aT rfl rfl rfl rfl) rfl (fun hc=>(aF (vs:=[vi v1.N]) rfl GK ⟨(aQ et hc),trivial⟩)) (fun hc=>(tX hI.lt trivial (hx3 hc)).mono fun _ _ k=>⟨k.1,k.2.1⟩) ?_
 intro w4 hx4;replace hI:=hI.ext hx4
 obtain⟨r3,hx5,h⟩:=ae h
 replace hx5:=ay hx5
 refine nQ (v:=(Value.int .u64 r3)) rfl (aT rfl rfl rfl rfl) rfl (fun hc=>(aF (vs:=[(Value.int .u64 r2),(Value.int .u64 (kC v1.D))]) rfl GL ⟨(aQ et hc),⟨(aQ et hc),trivial⟩⟩)) (fun hc=>(Bv hI.lt trivial (hx5 hc)).mono fun _ _ k=>⟨k.1,k.2.1⟩) ?_
 intro w5 hx6;replace hI:=hI.ext hx6
 refine V ?_
 exact RF
theorem yU (hF:dG F w0) {s1:List UInt8} (hc:AllCl [] F w0) {r:GVal×Int} (h:nn s1=some r):CR F w0 263 #[(aE s1)] (Value.tuple #[(Value.agg (o6 r.1)),vi r.2]) []:=by
 refine EN Tryz.func263 Tryz.ntmps263 hF hc fun hI=> ?_
 rw[nn]at h
 refine sr (cF (cs:=#[vi 0,vi 0]) hI gn rfl rfl pP rfl ?_)
 intro b1 c1 w1 hI
 refine T ?_
 refine sB h (fun _ k=>xl hI.lt trivial k) (Rc Tryz.func264) fun r1 w2 h hI=> ?_
 refine T ?_
 refine sB h (fun _ k=>rB hI.lt trivial k) (Rc Tryz.func265) fun r2 w3 h hI=> ?_
 refine T ?_
 refine al (T ?_)
 refine sB h (fun _ k=>qY hI.lt trivial k) (Rc Tryz.func266) fun r3 w4 h hI=> ?_
 refine TC (fun hb h=> ?_) fun hb h=> ?_
 ·refine sr (sq (ax (vs:=[]) (cs:=#[vi 0,vi 0]) rfl trivial (by kernel_rfl)) ?_)
  refine lA fun c2 w5 hI=> ?_
  exact RQ
 refine T ?_
 refine bw (α:=(List UInt8)) (fun _=>⟨78,[]⟩) (fun x=>[(2,vp b1 0),(5,(aE x)),(7,(aE r2.1)),(8,vb r2.2)]) (fun x=>fun w=>∃ C,Bun du F w0 C w [MO.box b1 33 #[vi 0,vi 0]] []∧jB r2 x=some r) ?_ ?_
 ·clear h hI;rintro bottom1 w6 ⟨c3,hI,h⟩
  try dsimp only at hI h ⊢
  rw[jB]at h
  refine T ?_
  refine sB h (fun _ k=>qZ hI.lt trivial k) (Rc Tryz.func267) fun r4 w7 h hI=> ?_
  refine T ?_
  refine sB h (fun _ k=>qZ hI.lt trivial k) (Rc Tryz.func267) fun r5 w8 h hI=> ?_
  refine T ?_
  refine al (T ?_)
  refine TC (fun hb h=> ?_) fun hb h=> ?_
  ·refine sr (sq (ax (vs:=[]) (cs:=#[vi 0,vi 0]) rfl trivial (by kernel_rfl)) ?_)
   refine lA fun c4 w9 hI=> ?_
   exact RQ
  refine T ?_
  refine bw (α:=Int) (fun _=>⟨78,[]⟩) (fun x=>[(2,vp b1 0),(9,vi x),(11,vi r5.1)]) (fun x=>fun w=>∃ C,Bun du F w0 C w [MO.box b1 33 #[vi 0,vi 0]] []∧kV r5 x=some r) ?_ ?_
  ·clear h hI;rintro n1 w10 ⟨c5,hI,h⟩
   try dsimp only at hI h ⊢
   rw[kV]at h
   refine T ?_
   refine sq (ax (vs:=[(0,vi n1),(1,vi r5.1)]) (cs:=#[vi n1,vi r5.1]) rfl ⟨rfl,et,⟨rfl,et,trivial⟩⟩ (by kernel_rfl)) ?_
   refine lN fun b2 c6 w11 hI=> ?_
   refine lA fun c7 w12 hI=> ?_
   refine nk (al (T ?_))
   refine sB h (fun _ k=>tj hI.lt trivial k) (Rc Tryz.func207) fun r6 w13 h hI=> ?_
   refine TC (fun hb h=> ?_) fun hb h=> ?_
   ·refine sr (sq (ax (vs:=[]) (cs:=#[vi 0,vi 0]) rfl trivial (by kernel_rfl)) ?_)
    refine lA fun c8 w14 hI=> ?_
    exact RQ
   refine T ?_
   refine lA fun c9 w15 hI=> ?_
   exact RQ
  refine TC (fun hb h=> ?_) fun hb h=> ?_
  ·refine T ?_
   refine aM ?_
   exact kj (ar (-r4.1))
  exact bf (bi r4.1 SB BH rfl)
 refine TC (fun hb h=> ?_) fun hb h=> ?_
 ·refine T ?_
  refine aM ?_
  exact kj ([49]:List UInt8)
 refine T ?_
 refine sB h (fun _ k=>qY hI.lt trivial k) (Rc Tryz.func266) fun r7 w16 h hI=> ?_
 refine TC (fun hb h=> ?_) fun hb h=> ?_
 ·refine sr (sq (ax (vs:=[]) (cs:=#[vi 0,vi 0]) rfl trivial (by kernel_rfl)) ?_)
  refine lA fun c10 w17 hI=> ?_
  exact RQ
 exact bf (bi r1.2.1 SB BH rfl)
theorem rO (hF:dG F w0) {bits1:Int} (hc:AllCl [] F w0) {r:Bool} (h:kX bits1=some r):CR F w0 243 #[vi bits1] (vb r) []:=by
 refine EN Tryz.func243 Tryz.ntmps243 hF hc fun hI=> ?_
 rw[kX]at h
 exact RF
theorem wy (hF:dG F w0) {bits1:Int} (hc:AllCl [] F w0) {r:Int} (h:lC bits1=some r):CR F w0 231 #[vi bits1] (vi r) []:=by
 refine EN Tryz.func231 Tryz.ntmps231 hF hc fun hI=> ?_
 rw[lC]at h
 refine T ?_
 refine al (T ?_)
 refine sB h (fun _ k=>rO hI.lt trivial k) (Rc Tryz.func243) fun r1 w1 h hI=> ?_
 refine TR fun hb h=> ?_
 refine T ?_
 obtain⟨ho1,h⟩:=eF h
 refine sq (zk rfl ao et ho1) ?_
 exact RF
theorem wz (hF:dG F w0) {bits1:Int} (hc:AllCl [] F w0) {r:Int} (h:lD bits1=some r):CR F w0 232 #[vi bits1] (vi r) []:=by
 refine EN Tryz.func232 Tryz.ntmps232 hF hc fun hI=> ?_
 rw[lD]at h
 refine T ?_
 refine al (T ?_)
 refine sB h (fun _ k=>rO hI.lt trivial k) (Rc Tryz.func243) fun r1 w1 h hI=> ?_
 refine TR fun hb h=> ?_
 refine T ?_
 obtain⟨ho1,h⟩:=eF h
 refine sq (zk rfl ao et ho1) ?_
 exact RF
theorem rU (hF:dG F w0) {t1:GType} {v1:GVal} (hc:AllCl [] F w0) {r:Bool} (h:k7 t1 v1=some r):CR F w0 205 #[(Value.agg (co t1)),(Value.agg (o6 v1))] (vb r) []:=by
 refine EN Tryz.func205 Tryz.ntmps205 hF hc fun hI=> ?_
 rw[k7]at h
 refine sr (lX fun b1 c2 w1 hI=> ?_)
 refine lX fun b2 c4 w2 hI=> ?_
 refine T ?_
 refine al (aI [] false (.c (0,.q) (.c (1,.s) (.c (2,.q) (.c (3,.q) (.c (4,.q) (.c (5,.q) (.c (6,.q) (.c (7,.q) (.c (8,.q) (.c (9,.q) (.c (10,.q) (.c (11,.q) (.c (12,.q) (.c (13,.s) (.c (14,.q) (.c (15,.q) (.c (16,.q) (.c (17,.q) (.c (18,.q) (.c (19,.q) (.c (20,.q) (.c (21,.s) (.c (22,.q) (.c (23,.q) (.c (24,.q) .n))))))))))))))))))))))))) hI (by kernel_rfl) (by kernel_rfl) ?_)
 intro w3 hI
 refine ct rfl gn rfl (fun w' hw'=>(am (l:=(dD t1)) rfl et qr rfl cD ((hI.kblk (l:=(dD t1)) (.s .z) rfl).at_ (SX.any rfl hw')))) (by kernel_rfl) ?_
 obtain⟨r1,hx1,h⟩:=ae h
 refine dC rfl gn rfl (aF (vs:=[(Value.agg (co t1))]) rfl GQ ⟨et,trivial⟩) (Calls.mono (ol hI.lt trivial hx1) ?_)
 rintro _ w4 ⟨rfl,hx2,hl1⟩
 refine⟨_,rfl,hx2,?_⟩
 replace hI:=(hI.ext hx2)
 refine V ?_
 obtain⟨r2,hx3,h⟩:=ae h
 replace hx3:=ay hx3
 refine nQ (v:=(vi r2)) rfl (aT rfl rfl rfl rfl) rfl (fun hc=>(aF (vs:=[vi t1.Bits]) rfl GP ⟨(aQ et hc),trivial⟩)) (fun hc=>(wy hI.lt trivial (hx3 hc)).mono fun _ _ k=>⟨k.1,k.2.1⟩) ?_
 intro w5 hx4;replace hI:=hI.ext hx4
 refine V ?_
 obtain⟨r3,hx5,h⟩:=ae h
 replace hx5:=ay hx5
 refine nQ (v:=(vi r3)) rfl (aT rfl rfl rfl rfl) rfl (fun hc=>(aF (vs:=[vi t1.Bits]) rfl GN ⟨(aQ et hc),trivial⟩)) (fun hc=>(wz hI.lt trivial (hx5 hc)).mono fun _ _ k=>⟨k.1,k.2.1⟩) ?_
 intro w6 hx6;replace hI:=hI.ext hx6
 refine V ?_
 exact RF
theorem xk (hF:dG F w0) {t1:GType} {s1:List UInt8} (hc:AllCl [] F w0) {r:GVal×Int} (h:mt t1 s1=some r):CR F w0 260 #[(Value.agg (co t1)),(aE s1)] (Value.tuple #[(Value.agg (o6 r.1)),vi r.2]) []:=by
 refine EN Tryz.func260 Tryz.ntmps260 hF hc fun hI=> ?_
 rw[mt]at h
 refine sr (lX fun b1 c2 w1 hI=> ?_)
 refine lN fun b2 c3 w2 hI=> ?_
 refine T ?_
 refine al (sr (sq (am (l:=(dD t1)) rfl et qr rfl cD (hI.kblk (l:=(dD t1)) .z rfl).1) ?_))
 refine sB h (fun _ k=>jR hI.lt trivial k) (Rc Tryz.func202) fun r1 w3 h hI=> ?_
 refine TC (fun hb h=> ?_) fun hb h=> ?_
 ·refine sr (sq (ax (vs:=[]) (cs:=#[vi 0,vi 0]) rfl trivial (by kernel_rfl)) ?_)
  refine lA fun c4 w4 hI=> ?_
  exact RQ
 refine T ?_
 refine sB h (fun _ k=>yU hI.lt trivial k) (Rc Tryz.func263) fun r2 w5 h hI=> ?_
 refine T ?_
 refine lN fun b3 c5 w6 hI=> ?_
 refine lA fun c6 w7 hI=> ?_
 refine T ?_
 refine al (T ?_)
 refine TC (fun hb h=> ?_) fun hb h=> ?_
 ·refine sr (sq (ax (vs:=[]) (cs:=#[vi 0,vi 0]) rfl trivial (by kernel_rfl)) ?_)
  refine sm ?_
  refine lA fun c7 w8 hI=> ?_
  exact RQ
 refine T ?_
 refine al (T ?_)
 refine TC (fun hb h=> ?_) fun hb h=> ?_
 ·refine TC (fun hb h=> ?_) fun hb h=> ?_
  ·refine sr (sq (ax (vs:=[]) (cs:=#[vi 0,vi 0]) rfl trivial (by kernel_rfl)) ?_)
   refine lA fun c8 w9 hI=> ?_
   exact RQ
  refine T ?_
  refine lA fun c9 w10 hI=> ?_
  exact RQ
 refine TC (fun hb h=> ?_) fun hb h=> ?_
 ·refine T ?_
  obtain⟨ho1,h⟩:=eF h
  refine sq (zk rfl ao et ho1) ?_
  obtain⟨one1,hx5,h⟩:=ae h
  refine sq (tu (cy rfl et) (congrArg (Value.int .i64) (aj hx5))) ?_
  refine nk (al (T ?_))
  obtain⟨ho2,h⟩:=eF h
  refine sq (zl rfl et et ho2) ?_
  refine TC (fun hb h=> ?_) fun hb h=> ?_
  ·refine sr (sq (ax (vs:=[]) (cs:=#[vi 0,vi 0]) rfl trivial (by kernel_rfl)) ?_)
   refine lA fun c10 w11 hI=> ?_
   exact RQ
  refine T ?_
  refine al (aI [8] false (.c (0,.q) (.c (1,.q) (.c (2,.q) (.c (3,.q) (.c (4,.q) (.c (5,.q) (.c (6,.q) (.c (7,.q) (.c (8,.s) .n))))))))) hI (by kernel_rfl) (by kernel_rfl) ?_)
  intro w12 hI
  refine V ?_
  refine l6 rfl gn rfl (fun w'=>zm rfl et et ho2) ?_
  refine V ?_
  refine l6 rfl gn rfl (fun w'=>(ax (vs:=[(0,(vi (ar (r2.1.N * (ar (Int.tdiv one1 r2.1.D)))))),(1,vi 1)]) (cs:=#[(vi (ar (r2.1.N * (ar (Int.tdiv one1 r2.1.D))))),vi 1]) rfl ⟨rfl,et,⟨rfl,ao,trivial⟩⟩ (by kernel_rfl))) ?_
  refine bJ (F:=F) (C:=c6) rfl rfl ?_
  refine vA fun c11 w13 hI=> ?_
  refine V ?_
  refine sr (sq (am (l:=(dD t1)) rfl et qr rfl cD (hI.kblk (l:=(dD t1)) .z rfl).1) ?_)
  refine T ?_
  refine sB h (fun _ k=>rU hI.lt trivial k) (Rc Tryz.func205) fun r3 w14 h hI=> ?_
  refine TC (fun hb h=> ?_) fun hb h=> ?_
  ·refine sr (sq (ax (vs:=[]) (cs:=#[vi 0,vi 0]) rfl trivial (by kernel_rfl)) ?_)
   refine lA fun c12 w15 hI=> ?_
   exact RQ
  refine T ?_
  refine lA fun c13 w16 hI=> ?_
  exact RQ
 refine T ?_
 refine lA fun c14 w17 hI=> ?_
 exact RQ
abbrev Qs1 (f_:(GExpr→Int→Option Int)):Prop:=∀ ⦃F:NP⦄ ⦃w0:World⦄ (hF:dG F w0) ⦃e1:GExpr⦄ ⦃limit1:Int⦄ ⦃a1 a2 a3:Option Addr⦄ ⦃c1 c2 c3:Nat⦄ (hc:AllCl [Cl.sl ai a1 c1 e1.Lin.L,Cl.sl ak a2 c2 e1.Idx,Cl.sl an a3 c3 e1.Args] F w0) ⦃r:Int⦄ (h:f_ e1 limit1=some r),CR F w0 141 #[(Value.agg (aq e1 a1 c1 a2 c2 a3 c3)),vi limit1] (vi r) []
theorem wR {rec_:(GExpr→Int→Option Int)} (hrec:Qs1 rec_) (hF:dG F w0) {e1:GExpr} {limit1:Int} (hc:AllCl [Cl.sl ai a1 c1 e1.Lin.L,Cl.sl ak a2 c2 e1.Idx,Cl.sl an a3 c3 e1.Args] F w0) {r:Int} (h:lR rec_ e1 limit1=some r):CR F w0 141 #[(Value.agg (aq e1 a1 c1 a2 c2 a3 c3)),vi limit1] (vi r) []:=by
 refine EN Tryz.func141 Tryz.ntmps141 hF hc fun hI=> ?_
 rw[lR]at h
 refine sr (lX fun b1 c5 w1 hI=> ?_)
 refine T ?_
 refine al (T ?_)
 refine TR fun hb h=> ?_
 refine T ?_
 refine al (T ?_)
 refine bh (α:=Nat×Int×Int) (fun x=>fun w=>∃ C,Bun du F w0 C w [] [Cl.sl an a3 c3 e1.Args]∧gL e1 rec_ limit1 (x.1) (x.2.1) (x.2.2)=some r) (fun x _=>x.1) (fun x=>[(1,vi limit1),(5,vi (x.2.1)),(12,vs a3 e1.Args.length c3),(13,vi (e1.Args.length:Int)),(14,vi (x.2.2))]) (fu,1,0) BH SB ?_
 clear h hI;rintro⟨fuel1,d1,i1⟩ w2 ⟨c6,hI,h⟩
 dsimp only at hI h ⊢
 rcases fuel1 with _ | fuel1
 ·rw[gL]at h;cases h
 rw[gL]at h
 refine T ?_
 refine al (vm h et (fun hb h=> ?_) (fun hb h=> ?_))
 ·refine T ?_
  refine al (T ?_)
  obtain⟨e2,hx1,h⟩:=ae h
  obtain⟨ad1,cs1,hA1,hr1,hq1⟩:=hI.clat .z hx1
  obtain⟨a4,c7,a5,c8,a6,c9,rfl,hf1,hf2,hf3⟩:=iG hr1
  have hI:=hI.ads hf1
  have hI:=hI.ads hf2
  have hI:=hI.ads hf3
  refine sI ?_
  refine T ?_
  refine lN fun b2 c10 w3 hI=> ?_
  refine lA fun c11 w4 hI=> ?_
  refine T ?_
  refine sB h (fun _ k=>hrec hI.lt FS k) (Rc Tryz.func141) fun r1 w5 h hI=> ?_
  refine T ?_
  refine sq (Dm rfl et et) ?_
  refine T ?_
  refine aM ?_
  exact kl (fuel1,max d1 (ar (1+r1)),ar (i1+1))
 refine bk ?_
 refine eU ?_
 refine bb ?_
 exact RF
theorem wQ (n:Nat):Qs1 (kv n):=by
 induction n with
 | zero=>intro F;intros;rename_i h;cases h
 | succ n ih=>intro F;intros;apply wR ih<;>assumption
theorem yY:Qs1 (p7):=wQ fu
theorem yZ (hF:dG F w0) {e1:GExpr} (hc:AllCl [Cl.sl ai a1 c1 e1.Lin.L,Cl.sl ak a2 c2 e1.Idx,Cl.sl an a3 c3 e1.Args] F w0) {r:Int} (h:oz e1=some r):CR F w0 76 #[(Value.agg (aq e1 a1 c1 a2 c2 a3 c3))] (vi r) []:=by
 refine EN Tryz.func76 Tryz.ntmps76 hF hc fun hI=> ?_
 rw[oz]at h
 refine sr (lX fun b1 c5 w1 hI=> ?_)
 refine T ?_
 refine sq (am (l:=(aX e1 a1 c1 a2 c2 a3 c3)) rfl et jT rfl aC (hI.kblk (l:=(aX e1 a1 c1 a2 c2 a3 c3)) .z rfl).1) ?_
 refine sB h (fun _ k=>yY hI.lt FS k) (Rc Tryz.func141) fun r1 w2 h hI=> ?_
 exact RF
theorem uw (hF:dG F w0) {e1:GExpr} (hc:AllCl [Cl.sl ai a1 c1 e1.Lin.L,Cl.sl ak a2 c2 e1.Idx,Cl.sl an a3 c3 e1.Args] F w0) {r:GExpr} (h:mR e1=some r):Cg 78 #[(Value.agg (aq e1 a1 c1 a2 c2 a3 c3))] w0 fun e w=>∃ b1 a4 c4 a5 c5 a6 c6,e= .returned (Value.func (.func 142) #[] #[vp b1 0])∧Ext w0 w∧AllCl [Cl.sl ai a4 c4 r.Lin.L,Cl.sl ak a5 c5 r.Idx,Cl.sl an a6 c6 r.Args,Cl.blk b1 39 (aq r a4 c4 a5 c5 a6 c6)] F w:=by
 refine EN Tryz.func78 Tryz.ntmps78 hF hc fun hI=> ?_
 rw[mR]at h
 refine sr (lX fun b2 c8 w1 hI=> ?_)
 refine T ?_
 refine sq (nJ (vs:=[]) (cap:=[vp b2 0]) rfl rfl ⟨et,trivial⟩) ?_
 refine T ?_
 refine aA ?_
 obtain rfl:=aj h
 refine QG ?_
 exact⟨b2,a1,c1,a2,c2,a3,c3,rfl,hI.ext0,hI.fin ⟨(.s .z),(.s (.s .z)),(.s (.s (.s .z))),.z,trivial⟩⟩
abbrev Qs3 (I:StI σ) (f_:(GExpr→(GExpr→σ→Option (Bool×σ))→σ→Option (Bool×σ))):Prop:=∀ ⦃C0 F:NP⦄ ⦃w0:World⦄ ⦃e1:GExpr⦄ ⦃yield1:(GExpr→σ→Option (Bool×σ))⦄ ⦃s1:σ⦄ ⦃a1 a2 a3:Option Addr⦄ ⦃c1 c2 c3:Nat⦄ ⦃fv1:Value⦄ (hI:Bun C0 F w0 C0 w0 [MO.st I s1] [Cl.sl ai a1 c1 e1.Lin.L,Cl.sl ak a2 c2 e1.Idx,Cl.sl an a3 c3 e1.Args,pC I fv1 yield1]) ⦃r:Bool×σ⦄ (h:f_ e1 yield1 s1=some r),Cg 143 #[(Value.agg (aq e1 a1 c1 a2 c2 a3 c3)),fv1] w0 fun e w=>∃ C,e= .returned (vb r.1)∧Bun C0 F w0 C w [MO.st I r.2] []
theorem uQ {I:StI σ} {rec_:(GExpr→(GExpr→σ→Option (Bool×σ))→σ→Option (Bool×σ))} (hrec:Qs3 I rec_) {e1:GExpr} {yield1:(GExpr→σ→Option (Bool×σ))} {s1:σ} {fv1:Value} (hI:Bun C0 F w0 C0 w0 [MO.st I s1] [Cl.sl ai a1 c1 e1.Lin.L,Cl.sl ak a2 c2 e1.Idx,Cl.sl an a3 c3 e1.Args,pC I fv1 yield1]) {r:Bool×σ} (h:iE rec_ e1 yield1 s1=some r):Cg 143 #[(Value.agg (aq e1 a1 c1 a2 c2 a3 c3)),fv1] w0 fun e w=>∃ C,e= .returned (vb r.1)∧Bun C0 F w0 C w [MO.st I r.2] []:=by
 refine oN Tryz.func143 rfl Tryz.ntmps143 rfl ?_
 rw[iE]at h
 refine sr (lX fun b1 c5 w1 hI=> ?_)
 refine T ?_
 refine al (T ?_)
 refine sq (am (l:=(aX e1 a1 c1 a2 c2 a3 c3)) rfl et jT rfl aC (hI.kblk (l:=(aX e1 a1 c1 a2 c2 a3 c3)) .z rfl).1) ?_
 obtain⟨⟨r1,s2⟩,hx1,h⟩:=ae h
 try dsimp only at h
 obtain⟨c6,f1,hB,hl1,hk1⟩:=hI.hands (.l .n)
 refine sE (args:=[(Value.agg (aq e1 a1 c1 a2 c2 a3 c3))]) gn rfl rfl et ⟨et,trivial⟩ (CallV.mono ((hI.get (.s (.s (.s (.s .z))))).2 c6 f1 w1 (Sp.less hl1) e1 a1 c1 a2 c2 a3 c3 s1 _ (hB.subs ⟨(.s .z),(.s (.s .z)),(.s (.s (.s .z))),trivial⟩) hx1) ?_)
 rintro _ w2 ⟨c7,rfl,hB2⟩
 refine HN hk1 hB2 fun c8 hI=> ?_
 refine⟨_,rfl,?_⟩
 refine TC (fun hb h=> ?_) fun hb h=> ?_
 ·refine T ?_
  refine aA ?_
  obtain rfl:=aj h
  refine QG ?_
  exact⟨_,rfl,hI.arr GO SU⟩
 refine T ?_
 refine al (T ?_)
 refine bh (α:=Nat×Int×σ) (fun x=>fun w=>∃ C,Bun C0 F w0 C w [MO.st I (x.2.2)] [pC I fv1 yield1,Cl.sl an a3 c3 e1.Args]∧dz e1 rec_ yield1 (x.1) (x.2.1) (x.2.2)=some r) (fun x _=>x.1) (fun x=>[(1,fv1),(12,vs a3 e1.Args.length c3),(13,vi (e1.Args.length:Int)),(14,vi (x.2.1))]) (fu,0,s2) BH SB ?_
 clear h hI;rintro⟨fuel1,i1,s3⟩ w3 ⟨c9,hI,h⟩
 dsimp only at hI h ⊢
 rcases fuel1 with _ | fuel1
 ·rw[dz]at h;cases h
 rw[dz]at h
 refine T ?_
 refine al (vm h et (fun hb h=> ?_) (fun hb h=> ?_))
 ·refine T ?_
  refine al (T ?_)
  obtain⟨e2,hx2,h⟩:=ae h
  obtain⟨ad1,cs1,hA1,hr1,hq1⟩:=hI.clat (.s .z) hx2
  obtain⟨a4,c10,a5,c11,a6,c12,rfl,hf1,hf2,hf3⟩:=iG hr1
  have hI:=hI.ads hf1
  have hI:=hI.ads hf2
  have hI:=hI.ads hf3
  refine sI ?_
  refine T ?_
  refine lN fun b2 c13 w4 hI=> ?_
  refine lA fun c14 w5 hI=> ?_
  refine T ?_
  obtain⟨c15,f2,hB,hl2,hk2⟩:=hI.hands (.r (.l .n))
  obtain⟨⟨r2,s4⟩,hx3,h⟩:=ae h
  try dsimp only at h
  refine aB gn rfl (Rc Tryz.func143) (Calls.mono (hrec HS hx3) ?_)
  rintro _ w6 ⟨c16,rfl,hB2⟩
  refine HN hk2 hB2 fun c17 hI=> ?_
  refine⟨_,rfl,?_⟩
  refine TC (fun hb h=> ?_) fun hb h=> ?_
  ·refine T ?_
   refine aA ?_
   obtain rfl:=aj h
   refine QG ?_
   exact⟨_,rfl,hI.arr GO SU⟩
  refine T ?_
  refine aM ?_
  exact kl (fuel1,ar (i1+1),s4)
 refine bk ?_
 refine eU ?_
 refine bb ?_
 refine T ?_
 refine aA ?_
 obtain rfl:=aj h
 refine QG ?_
 exact⟨_,rfl,hI.arr GO SU⟩
theorem uP {I:StI σ} (n:Nat):Qs3 I (fQ n):=by
 induction n with
 | zero=>intro F;intros;rename_i h;cases h
 | succ n ih=>intro F;intros;apply uQ ih<;>assumption
theorem xE {I:StI σ} :Qs3 I (n6):=uP fu
theorem qA {I:StI σ} {yield1:(GExpr→σ→Option (Bool×σ))} {a1:GExpr} {s1:σ} {fv1:Value} (hI:Bun C0 F w0 C0 w0 [MO.st I s1] [pC I fv1 yield1,Cl.sl ai a2 c1 a1.Lin.L,Cl.sl ak a3 c2 a1.Idx,Cl.sl an a4 c3 a1.Args,Cl.blk b1 39 (aq a1 a2 c1 a3 c2 a4 c3)]) {r:Unit×σ} (h:jD yield1 a1 s1=some r):Cg 142 #[fv1,vp b1 0] w0 fun e w=>∃ C,e= .returned (Value.tuple #[])∧Bun C0 F w0 C w [MO.st I r.2] []:=by
 refine oN Tryz.func142 rfl Tryz.ntmps142 rfl ?_
 rw[jD]at h
 refine T ?_
 refine sq (am (l:=(aX a1 a2 c1 a3 c2 a4 c3)) rfl et jT rfl aC (hI.kblk (l:=(aX a1 a2 c1 a3 c2 a4 c3)) (.s (.s (.s (.s .z)))) rfl).1) ?_
 refine sm ?_
 obtain⟨c4,f1,hB,hl1,hk1⟩:=hI.hands (.l .n)
 obtain⟨⟨r1,s2⟩,hx1,h⟩:=ae h
 try dsimp only at h
 refine aB gn rfl (Rc Tryz.func143) (Calls.mono (xE HS hx1) ?_)
 rintro _ w1 ⟨c5,rfl,hB2⟩
 refine HN hk1 hB2 fun c6 hI=> ?_
 refine⟨_,rfl,?_⟩
 refine aM ?_
 obtain rfl:=aj h
 refine QG ?_
 exact⟨_,rfl,hI.arr GO SU⟩
theorem Ay (hF:dG F w0) {e1:GExpr} (hc:AllCl [Cl.sl ai a1 c1 e1.Lin.L,Cl.sl ak a2 c2 e1.Idx,Cl.sl an a3 c3 e1.Args] F w0) {r:Int} (h:oc e1=some r):CR F w0 77 #[(Value.agg (aq e1 a1 c1 a2 c2 a3 c3))] (vi r) []:=by
 refine EN Tryz.func77 Tryz.ntmps77 hF hc fun hI=> ?_
 rw[oc]at h
 refine sr (lX fun b1 c5 w1 hI=> ?_)
 refine T ?_
 refine lN fun b2 c6 w2 hI=> ?_
 refine lS fun c7 w3 hI=> ?_
 refine nk (al (sr (sq (am (l:=(aX e1 a1 c1 a2 c2 a3 c3)) rfl et jT rfl aC (hI.kblk (l:=(aX e1 a1 c1 a2 c2 a3 c3)) .z rfl).1) ?_)))
 obtain⟨r1,hx1,h⟩:=ae h
 refine aB gn rfl (Rc Tryz.func78) (Calls.mono (uw hI.lt FS hx1) ?_)
 rintro _ w4 ⟨b3,a4,c8,a5,c9,a6,c10,rfl,hx2,hl1⟩
 refine⟨_,rfl,?_⟩
 replace hI:=(hI.ext hx2).adds hl1;dsimp only[ca,na]at hI
 refine T ?_
 refine qV [Code.exit 0] hI et D8 (fun l1 q1 fn1 tm1 rc1 hrc1 c12 w6 hE1 hI=> ?_)
 obtain⟨c13,f1,hB,hl2,hk1⟩:=hI.hands (.l (.r (.l .n)))
 have hB:Bun c13 f1 w6 c13 w6 [MO.st (StI.loop l1 rc1 (fun(s:Int) (b:Unit)=>[MO.box b2 3 #[vi s]]) (fun(s:Int) (b:Unit)=>[Cl.blk b3 39 (aq r1 a4 c8 a5 c9 a6 c10),Cl.sl ai a4 c8 r1.Lin.L,Cl.sl ak a5 c9 r1.Idx,Cl.sl an a6 c10 r1.Args])) (0,0)] _:=Bun.mkst (b:=()) hB ⟨(.s (.s (.s .z))),.z,(.s .z),(.s (.s .z)),trivial⟩
 have hY1:fnS_k5 (StI.loop l1 rc1 (fun(s:Int) (b:Unit)=>[MO.box b2 3 #[vi s]]) (fun(s:Int) (b:Unit)=>[Cl.blk b3 39 (aq r1 a4 c8 a5 c9 a6 c10),Cl.sl ai a4 c8 r1.Lin.L,Cl.sl ak a5 c9 r1.Idx,Cl.sl an a6 c10 r1.Args])) (Value.func (.yield l1) #[] #[]) (fun k_0 q=>if q.1=0 then fK k_0 q.2 else none) (Dj f1 c13) w6:=by
  refine⟨rfl,fun C0 F w0 _=> ?_⟩
  rintro y1 a7 c14 a8 c15 a9 c16 ⟨o_,n1⟩ r hB h
  replace h:o_=0∧fK y1 n1=some r:=eF h
  have ho_:=h.1;subst ho_;replace h:=h.2
  rw[fK]at h
  obtain⟨_,hI⟩:=Bun.unst hB
  subst hrc1
  dsimp only[ca,na]at hI
  clear hB
  refine qR hI rfl (sg (hE1 ⟨12,[]⟩ rfl rfl)) ?_
  refine bf (yx hI .z (fun c17 w7 hI=> ?_))
  refine T ?_
  refine lS fun c18 w8 hI=> ?_
  refine TC (fun hb h=> ?_) fun hb h=> ?_
  ·refine bk ?_
   refine Ik rfl ?_
   obtain rfl:=aj h
   exact fun _ _=>rq (js:=[Code.exit 0]) (oS:=(fun(s:Int) (b:Unit)=>[MO.box b2 3 #[vi s]])) (cS:=(fun(s:Int) (b:Unit)=>[Cl.blk b3 39 (aq r1 a4 c8 a5 c9 a6 c10),Cl.sl ai a4 c8 r1.Lin.L,Cl.sl ak a5 c9 r1.Idx,Cl.sl an a6 c10 r1.Args])) (out:=1) (s:=(ar (n1+1))) (b:=()) (hI.arr GO SU) rfl (fun C w hB=>⟨C,rfl,hB⟩)
  refine bf ?_
  obtain rfl:=aj h
  exact fun _ _=>rq (js:=[Code.exit 0]) (oS:=(fun(s:Int) (b:Unit)=>[MO.box b2 3 #[vi s]])) (cS:=(fun(s:Int) (b:Unit)=>[Cl.blk b3 39 (aq r1 a4 c8 a5 c9 a6 c10),Cl.sl ai a4 c8 r1.Lin.L,Cl.sl ak a5 c9 r1.Idx,Cl.sl an a6 c10 r1.Args])) (out:=0) (s:=(ar (n1+1))) (b:=()) (hI.arr GO SU) rfl (fun C w hB=>⟨C,rfl,hB⟩)
 obtain⟨⟨u1,o1,n2⟩,hx3,h⟩:=ae h
 try dsimp only at h
 refine Calls.mono (qA ((hB.add (c:=pC (StI.loop l1 rc1 (fun(s:Int) (b:Unit)=>[MO.box b2 3 #[vi s]]) (fun(s:Int) (b:Unit)=>[Cl.blk b3 39 (aq r1 a4 c8 a5 c9 a6 c10),Cl.sl ai a4 c8 r1.Lin.L,Cl.sl ak a5 c9 r1.Idx,Cl.sl an a6 c10 r1.Args])) (Value.func (.yield l1) #[] #[]) (fun k_0 q=>if q.1=0 then fK k_0 q.2 else none)) hY1).subs ⟨.z,(.s .z),(.s (.s .z)),(.s (.s (.s .z))),(.s (.s (.s (.s .z)))),trivial⟩) hx3) ?_
 rintro _ w10 ⟨c20,rfl,hB2⟩
 obtain⟨_,hB2⟩:=Bun.unst hB2
 subst hrc1
 refine HN hk1 hB2 fun c21 hI=> ?_
 refine⟨_,rfl,tM hI .z (fun c22 w11 hI=> ?_)⟩
 by_cases hz1:o1=0
 ·subst hz1;rw[if_pos rfl]at h
  refine bb ?_
  refine T ?_
  refine aA ?_
  obtain⟨w12,hs2,c23,hI⟩:∃ w2,pO Tryz.prog [q1] w11 w2∧∃ C,Bun du F w0 C w2 [MO.obj l1 _,MO.box b2 3 #[vi n2],MO.obj q1 (.deferred none)] [Cl.blk b3 39 (aq r1 a4 c8 a5 c9 a6 c10),Cl.sl ai a4 c8 r1.Lin.L,Cl.sl ak a5 c9 r1.Idx,Cl.sl an a6 c10 r1.Args,Cl.sl ai a4 c8 r1.Lin.L,Cl.sl ak a5 c9 r1.Idx,Cl.sl an a6 c10 r1.Args,Cl.blk b3 39 (aq r1 a4 c8 a5 c9 a6 c10),Cl.blk b1 39 (aq e1 a1 c1 a2 c2 a3 c3),Cl.sl ai a1 c1 e1.Lin.L,Cl.sl ak a2 c2 e1.Idx,Cl.sl an a3 c3 e1.Args]:=hI.shut (.s (.s .z)) fun C w hI=>py ⟨_,hI⟩
  obtain rfl:=aj h
  exact sc (vs:=[vi n2]) hs2 Tryz.results77 ⟨aK rfl rfl,trivial⟩ (fq hI trivial)
 rw[if_neg hz1]at h
 by_cases hz2:o1=1
 ·subst hz2;rw[if_pos rfl]at h
  refine bk ?_
  refine eU ?_
  refine bb ?_
  refine T ?_
  refine aA ?_
  obtain⟨w13,hs3,c24,hI⟩:∃ w2,pO Tryz.prog [q1] w11 w2∧∃ C,Bun du F w0 C w2 [MO.obj l1 _,MO.box b2 3 #[vi n2],MO.obj q1 (.deferred none)] [Cl.blk b3 39 (aq r1 a4 c8 a5 c9 a6 c10),Cl.sl ai a4 c8 r1.Lin.L,Cl.sl ak a5 c9 r1.Idx,Cl.sl an a6 c10 r1.Args,Cl.sl ai a4 c8 r1.Lin.L,Cl.sl ak a5 c9 r1.Idx,Cl.sl an a6 c10 r1.Args,Cl.blk b3 39 (aq r1 a4 c8 a5 c9 a6 c10),Cl.blk b1 39 (aq e1 a1 c1 a2 c2 a3 c3),Cl.sl ai a1 c1 e1.Lin.L,Cl.sl ak a2 c2 e1.Idx,Cl.sl an a3 c3 e1.Args]:=hI.shut (.s (.s .z)) fun C w hI=>py ⟨_,hI⟩
  obtain rfl:=aj h
  exact sc (vs:=[vi n2]) hs3 Tryz.results77 ⟨aK rfl rfl,trivial⟩ (fq hI trivial)
 rw[if_neg hz2]at h
 cases h
theorem rV (hF:dG F w0) {l1:GLin} (hc:AllCl [Cl.sl ai a1 c1 l1.L] F w0) {r:Bool} (h:k8 l1=some r):CR F w0 195 #[(Value.agg (bQ l1 a1 c1))] (vb r) []:=by
 refine EN Tryz.func195 Tryz.ntmps195 hF hc fun hI=> ?_
 rw[k8]at h
 refine sr (lX fun b1 c3 w1 hI=> ?_)
 exact RF
theorem l0 (hF:dG F w0) {s1:List GIndex} {f1:(GIndex→Option Bool)} {fv1:Value} (hc:AllCl [Cl.sl ak a1 c1 s1,ru fv1 f1] F w0) {r:Int} (h:cU s1 f1=some r):CR F w0 228 #[vs a1 s1.length c1,fv1] (vi r) []:=by
 refine EN Tryz.func228 Tryz.ntmps228 hF hc fun hI=> ?_
 rw[cU]at h
 refine T ?_
 refine al (T ?_)
 refine bh (α:=Nat×Int) (fun x=>fun w=>∃ C,Bun du F w0 C w [] [Cl.sl ak a1 c1 s1,ru fv1 f1]∧aP s1 f1 (x.1) (x.2)=some r) (fun x _=>x.1) (fun x=>[(0,vs a1 s1.length c1),(1,fv1),(7,vi (s1.length:Int)),(8,vi (x.2))]) (fu,0) BH SB ?_
 clear h hI;rintro⟨fuel1,i1⟩ w1 ⟨c2,hI,h⟩
 dsimp only at hI h ⊢
 rcases fuel1 with _ | fuel1
 ·rw[aP]at h;cases h
 rw[aP]at h
 refine T ?_
 refine al (vm h et (fun hb h=> ?_) (fun hb h=> ?_))
 ·refine T ?_
  refine al (T ?_)
  obtain⟨e1,hx1,h⟩:=ae h
  obtain⟨ad1,cs1,hA1,hr1,hq1⟩:=hI.clat .z hx1
  obtain⟨a2,c3,a3,c4,rfl,hf1,hf2⟩:=hr1
  have hI:=hI.ads hf1
  have hI:=hI.ads hf2
  refine sI ?_
  refine T ?_
  obtain⟨r1,hx2,h⟩:=ae h
  refine sE (args:=[(Value.agg (mO e1 a2 c3 a3 c4))]) gn rfl rfl et ⟨et,trivial⟩ (CallV.mono ((hI.get (.s (.s (.s .z)))).2 (Dj F c2) w1 (Sp.of_ext .rfl') hI.lt e1 a2 c3 a3 c4 r1 ⟨(hI.get (.s .z)),(hI.get .z),trivial⟩ hx2) ?_)
  rintro _ w2 ⟨rfl,hx3,hl1⟩
  refine⟨_,rfl,?_⟩
  replace hI:=(hI.ext hx3)
  refine TR fun hb h=> ?_
  refine T ?_
  refine aM ?_
  exact kl (fuel1,ar (i1+1))
 refine bk ?_
 refine eU ?_
 refine bb ?_
 exact RF
theorem dY (hF:dG F w0) {s1:List GIndex} {f1:(GIndex→Option Bool)} {fv1:Value} (hc:AllCl [Cl.sl ak a1 c1 s1,ru fv1 f1] F w0) {r:Bool} (h:be s1 f1=some r):CR F w0 196 #[vs a1 s1.length c1,fv1] (vb r) []:=by
 refine EN Tryz.func196 Tryz.ntmps196 hF hc fun hI=> ?_
 rw[be]at h
 refine T ?_
 refine sB h (fun _ k=>l0 hI.lt FS k) (Rc Tryz.func228) fun r1 w1 h hI=> ?_
 exact RF
theorem tn (hF:dG F w0) {x1:GIndex} (hc:AllCl [Cl.sl ai a1 c1 x1.Lin.L,Cl.sl fS a2 c2 x1.At] F w0) {r:Bool} (h:lv x1=some r):CR F w0 198 #[(Value.agg (mO x1 a1 c1 a2 c2))] (vb r) []:=by
 refine EN Tryz.func198 Tryz.ntmps198 hF hc fun hI=> ?_
 rw[lv]at h
 refine sr (lX fun b1 c4 w1 hI=> ?_)
 refine T ?_
 refine al (T ?_)
 refine TR fun hb h=> ?_
 refine T ?_
 refine sq (am (l:=(gc x1.Lin a1 c1)) rfl et oy rfl bt (hI.kblk (l:=(gc x1.Lin a1 c1)) .z rfl).1) ?_
 refine sB h (fun _ k=>rV hI.lt FS k) (Rc Tryz.func195) fun r1 w2 h hI=> ?_
 exact RF
theorem uR (hF:dG F w0) {x1:GIndex} (hc:AllCl [Cl.sl ai a1 c1 x1.Lin.L,Cl.sl fS a2 c2 x1.At] F w0) {r:Bool} (h:jC x1=some r):CR F w0 197 #[(Value.agg (mO x1 a1 c1 a2 c2))] (vb r) []:=by
 refine EN Tryz.func197 Tryz.ntmps197 hF hc fun hI=> ?_
 rw[jC]at h
 refine sr (lX fun b1 c4 w1 hI=> ?_)
 refine T ?_
 refine sq (am (l:=(qK x1 a1 c1 a2 c2)) rfl et ux rfl oG (hI.kblk (l:=(qK x1 a1 c1 a2 c2)) .z rfl).1) ?_
 refine sB h (fun _ k=>tn hI.lt FS k) (Rc Tryz.func198) fun r1 w2 h hI=> ?_
 exact RF
theorem xF (hF:dG F w0) {e1:GExpr} (hc:AllCl [Cl.sl ai a1 c1 e1.Lin.L,Cl.sl ak a2 c2 e1.Idx,Cl.sl an a3 c3 e1.Args] F w0) {r:Bool} (h:mF e1=some r):CR F w0 144 #[(Value.agg (aq e1 a1 c1 a2 c2 a3 c3))] (vb r) []:=by
 refine EN Tryz.func144 Tryz.ntmps144 hF hc fun hI=> ?_
 rw[mF]at h
 refine sr (lX fun b1 c5 w1 hI=> ?_)
 refine T ?_
 refine al (aI [] false (.c (0,.q) (.c (1,.q) (.c (2,.q) (.c (3,.q) (.c (4,.q) (.c (5,.q) (.c (6,.q) (.c (7,.q) (.c (8,.q) (.c (9,.q) (.c (10,.q) (.c (11,.q) (.c (12,.q) .n))))))))))))) hI (by kernel_rfl) (by kernel_rfl) ?_)
 intro w2 hI
 refine V ?_
 refine al (aI [] false (.c (0,.q) (.c (1,.q) (.c (2,.q) (.c (3,.q) (.c (4,.q) (.c (5,.q) (.c (6,.q) (.c (7,.q) .n)))))))) hI (by kernel_rfl) (by kernel_rfl) ?_)
 intro w3 hI
 refine V ?_
 refine al (T ?_)
 refine TR fun hb h=> ?_
 refine T ?_
 refine az (aT rfl rfl rfl rfl) rfl (fun hc=>(am (l:=(qD e1.Val)) rfl (aQ et hc) ES rfl mY (hI.kblk (l:=(qD e1.Val)) .z rfl).1)) ?_
 refine az (aT rfl rfl rfl rfl) rfl (fun hc=>ax (vs:=[]) (cs:=#[vi 0,vi 0]) rfl trivial (by kernel_rfl)) ?_
 refine az (aT rfl rfl rfl rfl) rfl (fun hc=>ji rfl (aQ et hc) (aQ et hc) (sX ..) (sj ..)) ?_
 refine TR fun hb h=> ?_
 refine T ?_
 refine az (aT rfl rfl rfl rfl) rfl (fun hc=>(am (l:=(dD e1.Type_)) rfl (aQ et hc) qr rfl cD (hI.kblk (l:=(dD e1.Type_)) .z rfl).1)) ?_
 refine az (aT rfl rfl rfl rfl) rfl (fun hc=>ax (vs:=[]) (cs:=x8) rfl trivial (by kernel_rfl)) ?_
 refine az (aT rfl rfl rfl rfl) rfl (fun hc=>ji rfl (aQ et hc) (aQ et hc) (sW ..) (qd ..)) ?_
 refine TR fun hb h=> ?_
 refine T ?_
 refine az (aT rfl rfl rfl rfl) rfl (fun hc=>(am (l:=(gc e1.Lin a1 c1)) rfl (aQ et hc) oy rfl bt (hI.kblk (l:=(gc e1.Lin a1 c1)) .z rfl).1)) ?_
 obtain⟨r1,hx1,h⟩:=ae h
 replace hx1:=ay hx1
 refine sU (fun hc=>rV hI.lt FS (hx1 hc)) (Rg Tryz.func195) fun w4 hI=> ?_
 refine TR fun hb h=> ?_
 refine TR fun hb h=> ?_
 refine T ?_
 have hI:=hI.add (c:=ru (Value.func (.func 197) #[] #[]) jC) ⟨rfl,fun D' w' hs hl x_1 A_2 c_3 A_4 c_5 r k h=>CallV.fn (cap:=[]) G3 (uR hl ⟨k.1,k.2.1,trivial⟩ h)⟩
 refine sB h (fun _ k=>dY hI.lt FS k) (Rc Tryz.func196) fun r2 w5 h hI=> ?_
 exact RF
theorem wP (hF:dG F w0) {x1:GIndex} (hc:AllCl [Cl.sl ai a1 c1 x1.Lin.L,Cl.sl fS a2 c2 x1.At,av] F w0) {r:Bool} (h:kr x1=some r):CR F w0 199 #[(Value.agg (mO x1 a1 c1 a2 c2))] (vb r) []:=by
 refine EN Tryz.func199 Tryz.ntmps199 hF hc fun hI=> ?_
 rw[kr]at h
 refine sr (lX fun b1 c4 w1 hI=> ?_)
 refine T ?_
 obtain⟨r1,hx1,h⟩:=ae h
 replace hx1:=ay hx1
 refine sU (fun hc=>oR hI.lt FS (hx1 hc)) (Rg Tryz.func185) fun w2 hI=> ?_
 exact RF
theorem yW (hF:dG F w0) {e1:GExpr} (hc:AllCl [Cl.sl ai a1 c1 e1.Lin.L,Cl.sl ak a2 c2 e1.Idx,Cl.sl an a3 c3 e1.Args,av] F w0) {r:Bool} (h:np e1=some r):CR F w0 145 #[(Value.agg (aq e1 a1 c1 a2 c2 a3 c3))] (vb r) []:=by
 refine EN Tryz.func145 Tryz.ntmps145 hF hc fun hI=> ?_
 rw[np]at h
 refine sr (lX fun b1 c5 w1 hI=> ?_)
 refine T ?_
 refine al (T ?_)
 obtain⟨r1,hx1,h⟩:=ae h
 replace hx1:=ay hx1
 refine sU (fun hc=>oR hI.lt FS (hx1 hc)) (Rg Tryz.func185) fun w2 hI=> ?_
 refine TR fun hb h=> ?_
 refine T ?_
 have hI:=hI.add (c:=ru (Value.func (.func 199) #[] #[]) kr) ⟨rfl,fun D' w' hs hl x_1 A_2 c_3 A_4 c_5 r k h=>CallV.fn (cap:=[]) G0 (wP hl ⟨k.1,k.2.1,(Cl.sp _ hs (hI.get (.s (.s (.s (.s .z)))))),trivial⟩ h)⟩
 refine sB h (fun _ k=>dY hI.lt FS k) (Rc Tryz.func196) fun r2 w3 h hI=> ?_
 exact RF
end Go.Proofs.YtmhoikfoogemnaaGreatDoor
