import Derived.Test.YtmhoikfoogemnaaGreatDoorJCQ2c
import Derived.Test.YtmhoikfoogemnaaGreatDoorJLfJ
namespace Go.Proofs.YtmhoikfoogemnaaGreatDoor
open Go Go.RowKit Go.Vc
set_option maxRecDepth 100000
set_option maxHeartbeats 4000000
set_option linter.unusedVariables false
set_option linter.unusedSimpArgs false
variable {σ:Type} {C0 F:NP} {w0:World} {a1 a2 a3 a4 a5 a6 a7 a8 a9 a10 a11 a12:Option Addr} {b1 b2 b3 b4 b5 b6 b7 b8 b9 b10 b11 b12 c1 c2 c3 c4 c5 c6 c7 c8 c9 c10 c11 c12:Nat}
theorem fQ {r1:aa} (hI:Bun C0 F w0 C0 w0 [MO.box b1 67 (af r1 a1 c1)] [Cl.sl cGToken a1 c1 r1.l,au]) {r:bu (GIndex×aa)} (h:cG r1=some r):CP C0 F w0 258 #[vp b1 0] r fun rx e w=>∃ a2 c2 a3 c3 a4 c4 C,e= .returned (Value.agg (jG rx.1 a2 c2 a3 c3))∧Bun C0 F w0 C w [MO.box b1 67 (af rx.2 a4 c4)] [Cl.sl ah a2 c2 rx.1.Lin.L,Cl.sl fE a3 c3 rx.1.At,Cl.sl cGToken a4 c4 rx.2.l]:=by
 refine fG (l:=[vp b1 0]) Tryz.func258 rfl Tryz.ntmps258 rfl ?_
 rw[cG]at h
 refine sr (cU (cs:=#[vi 0,vs none 0 0,(str ([]:List UInt8)),vs none 0 0]) hI gn rfl rfl Cv rfl ?_)
 intro b2 c5 w1 hI
 refine nk (al (aD [] false (.c (0,.q) (.c (1,.s) (.c (2,.q) (.c (3,.q) (.c (4,.q) (.c (5,.q) (.c (6,.q) (.c (7,.q) (.c (8,.q) (.c (9,.q) (.c (10,.q) (.c (11,.q) (.c (12,.q) (.c (13,.q) (.c (14,.q) (.c (15,.q) (.c (16,.q) (.c (17,.q) (.c (18,.q) (.c (19,.q) (.c (20,.q) (.c (21,.q) (.c (22,.q) (.c (23,.q) (.c (24,.q) (.c (25,.q) (.c (26,.q) (.c (27,.q) (.c (28,.q) (.c (29,.q) (.c (30,.q) (.c (31,.q) (.c (32,.q) (.c (33,.q) (.c (34,.q) (.c (35,.q) (.c (36,.q) (.c (37,.q) (.c (38,.q) (.c (39,.q) (.c (40,.q) (.c (41,.q) (.c (42,.q) (.c (43,.q) (.c (44,.q) (.c (45,.q) .n)))))))))))))))))))))))))))))))))))))))))))))) hI (by kernel_rfl) (by kernel_rfl) ?_))
 intro w2 hI
 refine V ?_
 obtain⟨r2,hx1,h⟩:=ae h
 refine dR rfl gn rfl (aI (vs:=[vp b1 0]) rfl Gh ⟨et,trivial⟩) (Calls.mono (kG NE ⟨(hI.get0 .z),hI.lendBox (.s .z),hI.get0 (.s .z),trivial⟩ hx1) ?_)
 rintro _ w3 ⟨rfl,hx2,hl1⟩
 refine⟨_,rfl,hx2,?_⟩
 replace hI:=(hI.ext hx2)
 refine V ?_
 obtain⟨e1,hx3,h⟩:=ae h
 replace hx3:=ax hx3
 obtain⟨ad1,cs1,hq1⟩:=hI.gclat .z hx3
 have hq2:(r2&&(decide (aq (r1.at_+1)<(r1.l.length:Int))))=true→CA (Dj F c5) w3 (ad1.add (Int.toNat (aq (r1.at_+1)) * 3)) (ka e1):=fun hc=>uc (hq1 hc).2.1 (hq1 hc).2.2
 refine vJ ?_
 refine V ?_
 obtain⟨e2,hx4,h⟩:=ae h
 replace hx4:=ax hx4
 obtain⟨ad2,cs2,hq3⟩:=hI.gclat .z hx4
 have hq4:((r2&&(decide (aq (r1.at_+1)<(r1.l.length:Int))))&&(decide (e1.Kind=3)))=true→CA (Dj F c5) w3 (ad2.add (Int.toNat (aq (r1.at_+1)) * 3)) (ka e2):=fun hc=>uc (hq3 hc).2.1 (hq3 hc).2.2
 refine vJ ?_
 refine V ?_
 refine al (T ?_)
 refine TC (fun hb h=> ?_) fun hb h=> ?_
 ·refine T ?_
  obtain⟨c6,f1,hB,hl2,hk1⟩:=hI.hands (.r (.l .n))
  refine ew h (fun _ hx5=>gk HS hx5) (li hk1) (Rc Tryz.func31) ?_
  rintro⟨r3,s1⟩ hx5 h _ w4 ⟨a5,c7,a6,c8,c9,rfl,hB2⟩
  try dsimp only at h
  refine HN hk1 hB2 fun c10 hI=> ?_
  refine⟨_,rfl,?_⟩
  refine sq (aw (vs:=[(0,(Value.agg (bO r3 a5 c7)))]) (cs:=#[vi r3.K,vs a5 r3.L.length c7,(str ([]:List UInt8)),vs none 0 0]) rfl ⟨rfl,et,trivial⟩ (by kernel_rfl)) ?_
  refine lA fun c11 w5 hI=> ?_
  refine nk (az ?_)
  have hI:=hI.add (c:=Cl.sl fE none 0 ([]:List GLin)) SlC.nil
  obtain rfl:=ai h
  refine QG ?_
  exact .inl ⟨_,rfl,a5,c7,none,0,a6,c8,_,rfl,hI.arr GO SU⟩
 refine T ?_
 obtain⟨c12,f2,hB,hl3,hk2⟩:=hI.hands (.r (.l .n))
 refine ew h (fun _ hx6=>iC HS hx6) (li hk2) (Rc Tryz.func128) ?_
 rintro⟨r4,s2⟩ hx6 h _ w6 ⟨a7,c13,c14,rfl,hB2⟩
 try dsimp only at h
 refine HN hk2 hB2 fun c15 hI=> ?_
 refine⟨_,rfl,?_⟩
 refine sq (aw (vs:=[(1,(str r4))]) (cs:=#[vi 0,vs none 0 0,(str r4),vs none 0 0]) rfl ⟨rfl,et,trivial⟩ (by kernel_rfl)) ?_
 refine lN fun b3 c16 w7 hI=> ?_
 refine lA fun c17 w8 hI=> ?_
 refine T ?_
 obtain⟨c18,f3,hB,hl4,hk3⟩:=hI.hands (.r (.l (.r .n)))
 refine ew h (fun _ hx7=>aP HS hx7) (li hk3) (Rc Tryz.func104) ?_
 rintro⟨r5,s3⟩ hx7 h _ w9 ⟨a8,c19,c20,rfl,hB2⟩
 try dsimp only at h
 refine HN hk3 hB2 fun c21 hI=> ?_
 refine⟨_,rfl,?_⟩
 refine T ?_
 obtain⟨c22,f4,hB,hl5,hk4⟩:=hI.hands (.l (.r (.r .n)))
 refine ew h (fun _ hx8=>py HS hx8) (li hk4) (Rc Tryz.func175) ?_
 rintro⟨r6,s4⟩ hx8 h _ w10 ⟨a9,c23,a10,c24,c25,rfl,hB2⟩
 try dsimp only at h
 refine HN hk4 hB2 fun c26 hI=> ?_
 refine⟨_,rfl,?_⟩
 refine T ?_
 refine lS fun c27 w11 hI=> ?_
 refine T ?_
 refine lA fun c28 w12 hI=> ?_
 refine nk (az ?_)
 have hI:=hI.add (c:=Cl.sl ah none 0 ([]:List GMono)) SlC.nil
 obtain rfl:=ai h
 refine QG ?_
 exact .inl ⟨_,rfl,none,0,a9,c23,a10,c24,_,rfl,hI.arr GO SU⟩
def dn:Tr:=(.c (5,.s) (.c (6,.q) (.c (7,.s) .n)))
def cu:Tr:=(.c (4,.s) dn)
theorem oO {rec_:(aa→Option (bu (GExpr×aa)))} (hrec:xI rec_) {r1:aa} (hI:Bun C0 F w0 C0 w0 [MO.box b1 67 (af r1 a1 c1)] [Cl.sl cGToken a1 c1 r1.l,au]) {r:bu (GExpr×aa)} (h:dC rec_ r1=some r):CP C0 F w0 248 #[vp b1 0] r fun rx e w=>∃ a2 c2 a3 c3 a4 c4 a5 c5 C,e= .returned (Value.agg (ap rx.1 a2 c2 a3 c3 a4 c4))∧Bun C0 F w0 C w [MO.box b1 67 (af rx.2 a5 c5)] [Cl.sl ah a2 c2 rx.1.Lin.L,Cl.sl ak a3 c3 rx.1.Idx,Cl.sl an a4 c4 rx.1.Args,Cl.sl cGToken a5 c5 rx.2.l]:=by
 refine fG (l:=[vp b1 0]) Tryz.func248 rfl Tryz.ntmps248 rfl ?_
 rw[dC]at h
 refine sr (cU (cs:=#[vi 0,(str ([]:List UInt8)),vi 0,vi 0,vi 0,vi 0,vi 0,vi 0,vi 0,vi 0,vs none 0 0,vs none 0 0,vs none 0 0]) hI gn rfl rfl dQ rfl ?_)
 intro b2 c6 w1 hI
 refine nk (al (T ?_))
 refine sB h (fun _ k=>dL NE ⟨(hI.get0 .z),hI.lendBox (.s .z),trivial⟩ k) (Rc Tryz.func121) fun r2 w2 h hI=> ?_
 refine TC (fun hb h=> ?_) fun hb h=> ?_
 ·refine T ?_
  obtain⟨c7,f1,hB,hl2,hk1⟩:=hI.hands (.r (.l .n))
  refine ew h (fun _ hx3=>kF HS hx3) (li hk1) (Rc Tryz.func253) ?_
  rintro⟨r3,s1⟩ hx3 h _ w3 ⟨a6,c8,c9,rfl,hB2⟩
  try dsimp only at h
  refine HN hk1 hB2 fun c10 hI=> ?_
  refine⟨_,rfl,?_⟩
  refine T ?_
  obtain⟨c11,f2,hB,hl3,hk2⟩:=hI.hands (.l (.r .n))
  refine ew h (fun _ hx4=>hrec HS hx4) (li hk2) (Rc Tryz.func34) ?_
  rintro⟨r4,s2⟩ hx4 h _ w4 ⟨a7,c12,a8,c13,a9,c14,a10,c15,c16,rfl,hB2⟩
  try dsimp only at h
  refine HN hk2 hB2 fun c17 hI=> ?_
  refine⟨_,rfl,?_⟩
  refine lN fun b3 c18 w5 hI=> ?_
  refine bg (new:=(aU r4 a7 c12 a8 c13 a9 c14)) (cs':=(ap r4 a7 c12 a8 c13 a9 c14)) hI .z gn rfl rfl et et rfl aC rfl rfl rfl ?_
  intro c19 w6 hI
  refine T ?_
  obtain⟨c20,f3,hB,hl4,hk3⟩:=hI.hands (.r (.l (.r .n)))
  refine ew h (fun _ hx5=>ke HS hx5) (li hk3) (Rc Tryz.func254) ?_
  rintro⟨r5,s3⟩ hx5 h _ w7 ⟨a11,c21,c22,rfl,hB2⟩
  try dsimp only at h
  refine HN hk3 hB2 fun c23 hI=> ?_
  refine⟨_,rfl,?_⟩
  refine T ?_
  refine bg (new:=(aU r4 a7 c12 a8 c13 a9 c14)) (cs':=(ap r4 a7 c12 a8 c13 a9 c14)) hI (.s (.s .z)) gn rfl rfl et et rfl aC rfl rfl rfl ?_
  intro c24 w8 hI
  refine nk (az ?_)
  obtain rfl:=ai h
  refine QG ?_
  exact .inl ⟨_,rfl,a7,c12,a8,c13,a9,c14,a11,c21,_,rfl,hI.arr GO SU⟩
 refine T ?_
 obtain⟨c25,f4,hB,hl5,hk4⟩:=hI.hands (.r (.l .n))
 obtain⟨⟨r6,s4⟩,hx6,h⟩:=ae h
 try dsimp only at h
 refine aA gn rfl (Rc Tryz.func68) (Calls.mono (aM HS hx6) ?_)
 rintro _ w9 ⟨a12,c26,c27,rfl,hB2⟩
 refine HN hk4 hB2 fun c28 hI=> ?_
 refine⟨_,rfl,?_⟩
 refine TC (fun hb h=> ?_) fun hb h=> ?_
 ·refine T ?_
  obtain⟨c29,f5,hB,hl6,hk5⟩:=hI.hands (.l (.r .n))
  refine ew h (fun _ hx7=>gk HS hx7) (li hk5) (Rc Tryz.func31) ?_
  rintro⟨r7,s5⟩ hx7 h _ w10 ⟨a13,c30,a14,c31,c32,rfl,hB2⟩
  try dsimp only at h
  refine HN hk5 hB2 fun c33 hI=> ?_
  refine⟨_,rfl,?_⟩
  refine lN fun b4 c34 w11 hI=> ?_
  refine bg (new:=(fO r7 a13 c30)) (cs':=(bO r7 a13 c30)) hI .z gn rfl rfl et et rfl bq rfl rfl rfl ?_
  intro c35 w12 hI
  refine T ?_
  obtain⟨c36,f6,hB,hl7,hk6⟩:=hI.hands (.r (.l (.r .n)))
  refine ew h (fun _ hx8=>aP HS hx8) (li hk6) (Rc Tryz.func104) ?_
  rintro⟨r8,s6⟩ hx8 h _ w13 ⟨a15,c37,c38,rfl,hB2⟩
  try dsimp only at h
  refine HN hk6 hB2 fun c39 hI=> ?_
  refine⟨_,rfl,?_⟩
  refine T ?_
  refine sq (aw (vs:=[(0,vi 2),(4,(Value.agg (bO r7 a13 c30)))]) (cs:=#[vi 2,(str ([]:List UInt8)),vi 0,vi 0,vi 0,vi 0,vi 0,vi 0,vi 0,vi r7.K,vs a13 r7.L.length c30,vs none 0 0,vs none 0 0]) rfl ⟨rfl,aj,⟨rfl,et,trivial⟩⟩ (by kernel_rfl)) ?_
  refine bg (new:=[vi 2,(str ([]:List UInt8)),vi 0,vi 0,vi 0,vi 0,vi 0,vi 0,vi 0,vi r7.K,vs a13 r7.L.length c30,vs none 0 0,vs none 0 0]) (cs':=#[vi 2,(str ([]:List UInt8)),vi 0,vi 0,vi 0,vi 0,vi 0,vi 0,vi 0,vi r7.K,vs a13 r7.L.length c30,vs none 0 0,vs none 0 0]) hI (.s (.s .z)) gn rfl rfl et et rfl aC rfl rfl rfl ?_
  intro c40 w14 hI
  refine nk (az ?_)
  have hI:=hI.add (c:=Cl.sl ak none 0 ([]:List GIndex)) SlC.nil
  have hI:=hI.add (c:=Cl.sl an none 0 ([]:List GExpr)) SlC.nil
  obtain rfl:=ai h
  refine QG ?_
  exact .inl ⟨_,rfl,a13,c30,none,0,none,0,a15,c37,_,rfl,hI.arr GO SU⟩
 refine al (T ?_)
 refine sB h (fun _ k=>dL NE ⟨(hI.get0 .z),hI.lendBox .z,trivial⟩ k) (Rc Tryz.func121) fun r9 w15 h hI=> ?_
 refine TC (fun hb h=> ?_) fun hb h=> ?_
 ·have hk7:=hb
  refine T ?_
  refine qQ (b:=r9) et (fun _=> ?_) (fun hb=>absurd (hb.symm.trans hk7) (by simp))
  refine T ?_
  obtain⟨c41,f7,hB,hl9,hk8⟩:=hI.hands (.l (.r .n))
  refine ew h (fun _ hx11=>iU HS hx11) (li hk8) (Rc Tryz.func255) ?_
  rintro⟨r10,s7⟩ hx11 h _ w16 ⟨a16,c42,a17,c43,a18,c44,a19,c45,c46,rfl,hB2⟩
  try dsimp only at h
  refine HN hk8 hB2 fun c47 hI=> ?_
  refine⟨_,rfl,?_⟩
  refine bg (new:=(aU r10 a16 c42 a17 c43 a18 c44)) (cs':=(ap r10 a16 c42 a17 c43 a18 c44)) hI (.s .z) gn rfl rfl et et rfl aC rfl rfl rfl ?_
  intro c48 w17 hI
  refine nk (az ?_)
  obtain rfl:=ai h
  refine QG ?_
  exact .inl ⟨_,rfl,a16,c42,a17,c43,a18,c44,a19,c45,_,rfl,hI.arr GO SU⟩
 refine T ?_
 refine sB h (fun _ k=>dL NE ⟨(hI.get0 .z),hI.lendBox .z,trivial⟩ k) (Rc Tryz.func121) fun r11 w18 h hI=> ?_
 refine TC (fun hb h=> ?_) fun hb h=> ?_
 ·have hk9:=hb
  refine T ?_
  refine qQ (b:=r11) et (fun _=> ?_) (fun hb=>absurd (hb.symm.trans hk9) (by simp))
  refine T ?_
  obtain⟨c49,f8,hB,hl11,hk10⟩:=hI.hands (.l (.r .n))
  refine ew h (fun _ hx14=>iU HS hx14) (li hk10) (Rc Tryz.func255) ?_
  rintro⟨r12,s8⟩ hx14 h _ w19 ⟨a20,c50,a21,c51,a22,c52,a23,c53,c54,rfl,hB2⟩
  try dsimp only at h
  refine HN hk10 hB2 fun c55 hI=> ?_
  refine⟨_,rfl,?_⟩
  refine bg (new:=(aU r12 a20 c50 a21 c51 a22 c52)) (cs':=(ap r12 a20 c50 a21 c51 a22 c52)) hI (.s .z) gn rfl rfl et et rfl aC rfl rfl rfl ?_
  intro c56 w20 hI
  refine nk (az ?_)
  obtain rfl:=ai h
  refine QG ?_
  exact .inl ⟨_,rfl,a20,c50,a21,c51,a22,c52,a23,c53,_,rfl,hI.arr GO SU⟩
 refine T ?_
 refine sB h (fun _ k=>dL NE ⟨(hI.get0 .z),hI.lendBox .z,trivial⟩ k) (Rc Tryz.func121) fun r13 w21 h hI=> ?_
 refine TC (fun hb h=> ?_) fun hb h=> ?_
 ·refine T ?_
  obtain⟨c57,f9,hB,hl13,hk11⟩:=hI.hands (.l (.r .n))
  refine ew h (fun _ hx17=>iU HS hx17) (li hk11) (Rc Tryz.func255) ?_
  rintro⟨r14,s9⟩ hx17 h _ w22 ⟨a24,c58,a25,c59,a26,c60,a27,c61,c62,rfl,hB2⟩
  try dsimp only at h
  refine HN hk11 hB2 fun c63 hI=> ?_
  refine⟨_,rfl,?_⟩
  refine bg (new:=(aU r14 a24 c58 a25 c59 a26 c60)) (cs':=(ap r14 a24 c58 a25 c59 a26 c60)) hI (.s .z) gn rfl rfl et et rfl aC rfl rfl rfl ?_
  intro c64 w23 hI
  refine nk (az ?_)
  obtain rfl:=ai h
  refine QG ?_
  exact .inl ⟨_,rfl,a24,c58,a25,c59,a26,c60,a27,c61,_,rfl,hI.arr GO SU⟩
 refine T ?_
 refine al (T ?_)
 refine j9 (c:=cStr) (xs:=([([109,105,110]:List UInt8),([109,97,120]:List UInt8),([105,102]:List UInt8),([99,97,115,116]:List UInt8)]:List (List UInt8))) (vs:=[(0,(str ([109,105,110]:List UInt8))),(1,(str ([109,97,120]:List UInt8))),(2,(str ([105,102]:List UInt8))),(3,(str ([99,97,115,116]:List UInt8)))]) (cs:=#[(str ([109,105,110]:List UInt8)),(str ([109,97,120]:List UInt8)),(str ([105,102]:List UInt8)),(str ([99,97,115,116]:List UInt8))]) (css:=[[(str ([109,105,110]:List UInt8))],[(str ([109,97,120]:List UInt8))],[(str ([105,102]:List UInt8))],[(str ([99,97,115,116]:List UInt8))]]) hI gn rfl rfl xq lM rfl ⟨rfl,aj,⟨rfl,aj,⟨rfl,aj,⟨rfl,aj,trivial⟩⟩⟩⟩ (by kernel_rfl) ⟨rfl,⟨rfl,⟨rfl,⟨rfl,trivial⟩⟩⟩⟩ rfl rfl rfl ?_
 intro b5 c65 w24 hI
 obtain⟨c66,hI⟩:=hI.release .z
 obtain⟨c67,f10,hB,hl14,hk12⟩:=hI.hands (.l (.r .n))
 obtain⟨⟨r15,s10⟩,hx18,h⟩:=ae h
 try dsimp only at h
 refine aA gn rfl (Rc Tryz.func98) (Calls.mono (iB HS hx18) ?_)
 rintro _ w25 ⟨a28,c68,c69,rfl,hB2⟩
 refine HN hk12 hB2 fun c70 hI=> ?_
 refine⟨_,rfl,?_⟩
 refine TC (fun hb h=> ?_) fun hb h=> ?_
 ·refine T ?_
  obtain⟨c71,f11,hB,hl15,hk13⟩:=hI.hands (.l (.r .n))
  refine ew h (fun _ hx19=>kH hrec HS hx19) (li hk13) (Rc Tryz.func256) ?_
  rintro⟨r16,s11⟩ hx19 h _ w26 ⟨a29,c72,a30,c73,a31,c74,a32,c75,c76,rfl,hB2⟩
  try dsimp only at h
  refine HN hk13 hB2 fun c77 hI=> ?_
  refine⟨_,rfl,?_⟩
  refine bg (new:=(aU r16 a29 c72 a30 c73 a31 c74)) (cs':=(ap r16 a29 c72 a30 c73 a31 c74)) hI (.s .z) gn rfl rfl et et rfl aC rfl rfl rfl ?_
  intro c78 w27 hI
  refine nk (az ?_)
  obtain rfl:=ai h
  refine QG ?_
  exact .inl ⟨_,rfl,a29,c72,a30,c73,a31,c74,a32,c75,_,rfl,hI.arr GO SU⟩
 refine TC (fun hb h=> ?_) fun hb h=> ?_
 ·refine T ?_
  obtain⟨c79,f12,hB,hl16,hk14⟩:=hI.hands (.l (.r .n))
  refine ew h (fun _ hx20=>kH hrec HS hx20) (li hk14) (Rc Tryz.func256) ?_
  rintro⟨r17,s12⟩ hx20 h _ w28 ⟨a33,c80,a34,c81,a35,c82,a36,c83,c84,rfl,hB2⟩
  try dsimp only at h
  refine HN hk14 hB2 fun c85 hI=> ?_
  refine⟨_,rfl,?_⟩
  refine bg (new:=(aU r17 a33 c80 a34 c81 a35 c82)) (cs':=(ap r17 a33 c80 a34 c81 a35 c82)) hI (.s .z) gn rfl rfl et et rfl aC rfl rfl rfl ?_
  intro c86 w29 hI
  refine nk (az ?_)
  obtain rfl:=ai h
  refine QG ?_
  exact .inl ⟨_,rfl,a33,c80,a34,c81,a35,c82,a36,c83,_,rfl,hI.arr GO SU⟩
 refine TC (fun hb h=> ?_) fun hb h=> ?_
 ·refine T ?_
  obtain⟨c87,f13,hB,hl17,hk15⟩:=hI.hands (.l (.r .n))
  refine ew h (fun _ hx21=>kH hrec HS hx21) (li hk15) (Rc Tryz.func256) ?_
  rintro⟨r18,s13⟩ hx21 h _ w30 ⟨a37,c88,a38,c89,a39,c90,a40,c91,c92,rfl,hB2⟩
  try dsimp only at h
  refine HN hk15 hB2 fun c93 hI=> ?_
  refine⟨_,rfl,?_⟩
  refine bg (new:=(aU r18 a37 c88 a38 c89 a39 c90)) (cs':=(ap r18 a37 c88 a38 c89 a39 c90)) hI (.s .z) gn rfl rfl et et rfl aC rfl rfl rfl ?_
  intro c94 w31 hI
  refine T ?_
  refine az ?_
  obtain rfl:=ai h
  refine QG ?_
  exact .inl ⟨_,rfl,a37,c88,a38,c89,a39,c90,a40,c91,_,rfl,hI.arr GO SU⟩
 refine TC (fun hb h=> ?_) fun hb h=> ?_
 ·refine T ?_
  obtain⟨c95,f14,hB,hl18,hk16⟩:=hI.hands (.l (.r .n))
  refine ew h (fun _ hx22=>pY hrec HS hx22) (li hk16) (Rc Tryz.func257) ?_
  rintro⟨r19,s14⟩ hx22 h _ w32 ⟨a41,c96,a42,c97,a43,c98,a44,c99,c100,rfl,hB2⟩
  try dsimp only at h
  refine HN hk16 hB2 fun c101 hI=> ?_
  refine⟨_,rfl,?_⟩
  refine bg (new:=(aU r19 a41 c96 a42 c97 a43 c98)) (cs':=(ap r19 a41 c96 a42 c97 a43 c98)) hI (.s .z) gn rfl rfl et et rfl aC rfl rfl rfl ?_
  intro c102 w33 hI
  refine T ?_
  refine az ?_
  obtain rfl:=ai h
  refine QG ?_
  exact .inl ⟨_,rfl,a41,c96,a42,c97,a43,c98,a44,c99,_,rfl,hI.arr GO SU⟩
 refine T ?_
 obtain⟨c103,f15,hB,hl19,hk17⟩:=hI.hands (.l (.r .n))
 refine ew h (fun _ hx23=>iC HS hx23) (li hk17) (Rc Tryz.func128) ?_
 rintro⟨r20,s15⟩ hx23 h _ w34 ⟨a45,c104,c105,rfl,hB2⟩
 try dsimp only at h
 refine HN hk17 hB2 fun c106 hI=> ?_
 refine⟨_,rfl,?_⟩
 refine sq (aw (vs:=[(0,vi 3),(1,(str r20))]) (cs:=#[vi 3,(str r20),vi 0,vi 0,vi 0,vi 0,vi 0,vi 0,vi 0,vi 0,vs none 0 0,vs none 0 0,vs none 0 0]) rfl ⟨rfl,aj,⟨rfl,et,trivial⟩⟩ (by kernel_rfl)) ?_
 refine lN fun b6 c107 w35 hI=> ?_
 refine bg (new:=[vi 3,(str r20),vi 0,vi 0,vi 0,vi 0,vi 0,vi 0,vi 0,vi 0,vs none 0 0,vs none 0 0,vs none 0 0]) (cs':=#[vi 3,(str r20),vi 0,vi 0,vi 0,vi 0,vi 0,vi 0,vi 0,vi 0,vs none 0 0,vs none 0 0,vs none 0 0]) hI .z gn rfl rfl et et rfl aC rfl rfl rfl ?_
 intro c108 w36 hI
 refine T ?_
 obtain⟨c109,f16,hB,hl20,hk18⟩:=hI.hands (.r (.l (.r .n)))
 refine ew h (fun _ hx24=>aP HS hx24) (li hk18) (Rc Tryz.func104) ?_
 rintro⟨r21,s16⟩ hx24 h _ w37 ⟨a46,c110,c111,rfl,hB2⟩
 try dsimp only at h
 refine HN hk18 hB2 fun c112 hI=> ?_
 refine⟨_,rfl,?_⟩
 refine nk (al (T ?_))
 obtain⟨c113,f17,hB,hl21,hk19⟩:=hI.hands (.l (.r (.r .n)))
 obtain⟨⟨r22,s17⟩,hx25,h⟩:=ae h
 try dsimp only at h
 refine aA gn rfl (Rc Tryz.func68) (Calls.mono (aM HS hx25) ?_)
 rintro _ w38 ⟨a47,c114,c115,rfl,hB2⟩
 refine HN hk19 hB2 fun c116 hI=> ?_
 refine⟨_,rfl,?_⟩
 refine TC (fun hb h=> ?_) fun hb h=> ?_
 ·refine T ?_
  refine bg (new:=[vi 3,(str r20),vi 0,vi 0,vi 0,vi 0,vi 0,vi 0,vi 0,vi 0,vs none 0 0,vs none 0 0,vs none 0 0]) (cs':=#[vi 3,(str r20),vi 0,vi 0,vi 0,vi 0,vi 0,vi 0,vi 0,vi 0,vs none 0 0,vs none 0 0,vs none 0 0]) hI (.s (.s .z)) gn rfl rfl et et rfl aC rfl rfl rfl ?_
  intro c117 w39 hI
  refine nk (az ?_)
  have hI:=hI.add (c:=Cl.sl ah none 0 ([]:List GMono)) SlC.nil
  have hI:=hI.add (c:=Cl.sl ak none 0 ([]:List GIndex)) SlC.nil
  have hI:=hI.add (c:=Cl.sl an none 0 ([]:List GExpr)) SlC.nil
  obtain rfl:=ai h
  refine QG ?_
  exact .inl ⟨_,rfl,none,0,none,0,none,0,a47,c114,_,rfl,hI.arr GO SU⟩
 refine T ?_
 obtain⟨c118,f18,hB,hl22,hk20⟩:=hI.hands (.l (.r (.r .n)))
 refine ew h (fun _ hx26=>fQ HS hx26) (li hk20) (Rc Tryz.func258) ?_
 rintro⟨r23,s18⟩ hx26 h _ w40 ⟨a48,c119,a49,c120,a50,c121,c122,rfl,hB2⟩
 try dsimp only at h
 refine HN hk20 hB2 fun c123 hI=> ?_
 refine⟨_,rfl,?_⟩
 refine j9 (c:=ak) (xs:=([r23]:List GIndex)) (vs:=[(0,(Value.agg (jG r23 a48 c119 a49 c120)))]) (cs:=(jG r23 a48 c119 a49 c120)) (css:=[(oy r23 a48 c119 a49 c120)]) hI gn rfl rfl xO nV rfl ⟨rfl,et,trivial⟩ (by kernel_rfl) ⟨⟨a48,c119,a49,c120,rfl,hI.get .z,hI.get (.s .z)⟩,trivial⟩ rfl rfl rfl ?_
 intro b7 c124 w41 hI
 refine T ?_
 refine bg (new:=[vs (some ⟨b7,0,none⟩) ([r23]:List GIndex).length 1]) (cs':=#[vi 3,(str r20),vi 0,vi 0,vi 0,vi 0,vi 0,vi 0,vi 0,vi 0,vs none 0 0,vs (some ⟨b7,0,none⟩) ([r23]:List GIndex).length 1,vs none 0 0]) hI (.s (.s .z)) gn rfl rfl et et rfl si rfl rfl rfl ?_
 intro c125 w42 hI
 refine nk (al (T ?_))
 have hI:=hI.nil ah 64 none
 have hI:=hI.nil an 39 none
 refine bc (α:=Nat×aa×GExpr×(Option Addr)×Nat×(Option Addr)×Nat×(Option Addr)×Nat×(Option Addr)×Nat) (fun x=>fun w=>∃ C,Bun C0 F w0 C w [MO.row ah 64 (x.2.2.2.2.2.1) (x.2.2.2.2.2.2.1) (x.2.2.1).Lin.L,MO.row ak 132 (x.2.2.2.2.2.2.2.1) (x.2.2.2.2.2.2.2.2.1) (x.2.2.1).Idx,MO.row an 39 (x.2.2.2.2.2.2.2.2.2.1) (x.2.2.2.2.2.2.2.2.2.2) (x.2.2.1).Args,MO.box b1 67 (af (x.2.1) (x.2.2.2.1) (x.2.2.2.2.1)),MO.box b2 39 #[vi 0,(str ([]:List UInt8)),vi 0,vi 0,vi 0,vi 0,vi 0,vi 0,vi 0,vi 0,vs none 0 0,vs none 0 0,vs none 0 0],MO.box b6 39 (ap (x.2.2.1) (x.2.2.2.2.2.1) (x.2.2.2.2.2.2.1) (x.2.2.2.2.2.2.2.1) (x.2.2.2.2.2.2.2.2.1) (x.2.2.2.2.2.2.2.2.2.1) (x.2.2.2.2.2.2.2.2.2.2))] [Cl.sl cGToken (x.2.2.2.1) (x.2.2.2.2.1) (x.2.1).l,au]∧bJ (x.1) (x.2.1) (x.2.2.1)=some r) (fun x _=>x.1) (fun x=>[(0,vp b1 0),(2,vp b2 0),(5,vp b6 0)]) (fu,s18,(⟨3,r20,(⟨0,0⟩:GVal),(⟨0,0,0,0,0⟩:GType),(⟨0,([]:List GMono)⟩:GLin),([r23]:List GIndex),([]:List GExpr)⟩:GExpr),a50,c121,none,0,some ⟨b7,0,none⟩,1,none,0) ⟨_,hI.arr (.c (.s .z) (.c (.s .z) (.c .z (.c .z (.c (.s .z) (.c .z .n)))))) ⟨(.s (.s .z)),(.s (.s (.s (.s (.s (.s (.s (.s (.s (.s .z)))))))))),trivial⟩,h⟩ SB ?_
 clear h hI;rintro⟨fuel1,r24,e1,a51,c126,a52,c127,a53,c128,a54,c129⟩ w43 ⟨c130,hI,h⟩
 dsimp only at hI h ⊢
 rcases fuel1 with _ | fuel1
 ·rw[bJ]at h;cases h
 rw[bJ]at h
 refine al (T ?_)
 obtain⟨c131,f19,hB,hl23,hk21⟩:=hI.hands (.r (.r (.r (.l (.r (.r .n))))))
 obtain⟨⟨r25,s19⟩,hx27,h⟩:=ae h
 try dsimp only at h
 refine aA gn rfl (Rc Tryz.func68) (Calls.mono (aM HS hx27) ?_)
 rintro _ w44 ⟨a55,c132,c133,rfl,hB2⟩
 refine HN hk21 hB2 fun c134 hI=> ?_
 refine⟨_,rfl,?_⟩
 refine TC (fun hb h=> ?_) fun hb h=> ?_
 ·have hk22:=hb
  refine T ?_
  rcases ir h with⟨⟨r26,s20⟩,hx28,h⟩ | ⟨pa_,pn_,hx28,hp_⟩
  rotate_left
  ·subst hp_
   refine aD [3,5,7] false (.c (0,.q) (.c (2,.q) (.two 1 (.c (3,.s) cu) 3 (.two 1 cu 4 (.c (1,.s) dn))))) hI (by kernel_rfl) (by kernel_rfl) ?_
   intro w51 hI
   refine V ?_
   refine cK ?_ ?_
   ·skip
    refine be rfl gn rfl (bf (v:=(vs a53 e1.Idx.length c128)) rfl et xO rfl (CellsAt.of_blk (hI.blk (.s (.s (.s (.s (.s .z)))))) rfl)) SX.self ?_
    refine bH (F:=F) (C:=c134) rfl rfl ?_
    obtain⟨c135,f20,hB,hl24,hk23⟩:=hI.hands (.l (.r (.r (.r (.r (.r .n))))))
    refine fa rfl gn rfl (aI (vs:=[vp b1 0]) rfl xZ ⟨et,trivial⟩) (Calls.mono (fQ HS hx28) ?_)
    intro e_ w_ hq_;obtain⟨rfl,C_,hB_⟩:=eI hq_;obtain⟨C9_,-,hI_⟩:=hk23 _ _ _ _ hB_;exact .inr ⟨_,rfl,ip (.inr ⟨_,_,rfl,rfl,⟨_,hI_.arr .n trivial⟩⟩)⟩
   refine bo (F:=F) (C:=c134) rfl rfl ?_
   obtain⟨c135,f20,hB,hl24,hk23⟩:=hI.hands (.l (.r (.r (.r (.r (.r .n))))))
   refine fa rfl gn rfl (aI (vs:=[vp b1 0]) rfl xZ ⟨et,trivial⟩) (Calls.mono (fQ HS hx28) ?_)
   intro e_ w_ hq_;obtain⟨rfl,C_,hB_⟩:=eI hq_;obtain⟨C9_,-,hI_⟩:=hk23 _ _ _ _ hB_;exact .inr ⟨_,rfl,ip (.inr ⟨_,_,rfl,rfl,⟨_,hI_.arr .n trivial⟩⟩)⟩
  try dsimp only at h
  obtain⟨zs1,hx29,h⟩:=ae h
  refine aD [3,5,7] false (.c (0,.q) (.c (2,.q) (.two 1 (.c (3,.s) cu) 3 (.two 1 cu 4 (.c (1,.s) dn))))) hI (by kernel_rfl) (by kernel_rfl) ?_
  intro w52 hI
  refine bP (α:=(Option Addr)×Nat×(Option Addr)×Nat×(Option Addr)×Nat×Nat×NP) (T:=dn) (fun x=>[(0,vp b1 0),(2,vp b2 0),(5,vp b6 0),(65,vp b1 0),(66,vb r25),(67,vp b6 11),(68,vs a53 e1.Idx.length c128),(69,vp b1 0),(70,(Value.agg (jG r26 (x.1) (x.2.1) (x.2.2.1) (x.2.2.2.1)))),(71,(vs (some ⟨(x.2.2.2.2.2.2.1),0,none⟩) ([r26]:List GIndex).length 1))]) (fun x w=>Bun C0 F w0 (x.2.2.2.2.2.2.2) w [MO.row ak 132 (some ⟨(x.2.2.2.2.2.2.1),0,none⟩) 1 ([r26]:List GIndex),MO.box b1 67 (af s20 (x.2.2.2.2.1) (x.2.2.2.2.2.1)),MO.row ah 64 a52 c127 e1.Lin.L,MO.row ak 132 a53 c128 e1.Idx,MO.row an 39 a54 c129 e1.Args,MO.box b2 39 #[vi 0,(str ([]:List UInt8)),vi 0,vi 0,vi 0,vi 0,vi 0,vi 0,vi 0,vi 0,vs none 0 0,vs none 0 0,vs none 0 0],MO.box b6 39 (ap e1 a52 c127 a53 c128 a54 c129)] [Cl.sl ah (x.1) (x.2.1) r26.Lin.L,Cl.sl fE (x.2.2.1) (x.2.2.2.1) r26.At,Cl.sl cGToken (x.2.2.2.2.1) (x.2.2.2.2.2.1) s20.l,Cl.sl cGToken a55 c132 s19.l,Cl.sl cGToken a51 c126 r24.l,au]) (fun x w=>SN [] (DM true F (x.2.2.2.2.2.2.2)) w) ?_ ?_
  ·clear hI;rintro⟨a56,c136,a57,c137,a58,c138,b8,c146⟩ w50 hI
   try dsimp only at hI ⊢
   unfold dn
   refine rb (xs:=e1.Idx) (ys:=([r26]:List GIndex)) hI (.s (.s (.s .z))) (hI.rd .z) hx29 rfl gn rfl rfl xO nV rfl rfl et et ?_
   intro a59 c142 c143 w47 hI
   refine V ?_
   refine vS fun c144 w48 hI=> ?_
   refine nj ?_
   exact jE (fuel1,s20,(⟨e1.Op,e1.Name,e1.Val,e1.Type_,e1.Lin,zs1,e1.Args⟩:GExpr),a58,c138,a52,c127,a59,c142,a54,c129) SB ⟨_,hI.arr GO SU,h⟩ (Nat.lt_succ_self _)
  intro hk_tr_parser_reader_primary_w_3_1
  refine bP (α:=(Option Addr)×Nat×(Option Addr)×Nat×(Option Addr)×Nat×NP) (T:=cu) (fun x=>[(0,vp b1 0),(2,vp b2 0),(5,vp b6 0),(65,vp b1 0),(66,vb r25),(67,vp b6 11),(68,vs a53 e1.Idx.length c128),(69,vp b1 0),(70,(Value.agg (jG r26 (x.1) (x.2.1) (x.2.2.1) (x.2.2.2.1))))]) (fun x w=>Bun C0 F w0 (x.2.2.2.2.2.2) w [MO.box b1 67 (af s20 (x.2.2.2.2.1) (x.2.2.2.2.2.1)),MO.row ah 64 a52 c127 e1.Lin.L,MO.row ak 132 a53 c128 e1.Idx,MO.row an 39 a54 c129 e1.Args,MO.box b2 39 #[vi 0,(str ([]:List UInt8)),vi 0,vi 0,vi 0,vi 0,vi 0,vi 0,vi 0,vi 0,vs none 0 0,vs none 0 0,vs none 0 0],MO.box b6 39 (ap e1 a52 c127 a53 c128 a54 c129)] [Cl.sl ah (x.1) (x.2.1) r26.Lin.L,Cl.sl fE (x.2.2.1) (x.2.2.2.1) r26.At,Cl.sl cGToken (x.2.2.2.2.1) (x.2.2.2.2.2.1) s20.l,Cl.sl cGToken a55 c132 s19.l,Cl.sl cGToken a51 c126 r24.l,au]) (fun x w=>SN [] (DM true F (x.2.2.2.2.2.2)) w) ?_ ?_
  ·clear hI;rintro⟨a56,c136,a57,c137,a58,c138,c145⟩ w49 hI
   try dsimp only at hI ⊢
   unfold cu
   refine AJ (c:=ak) (xs:=([r26]:List GIndex)) (vs:=[(0,(Value.agg (jG r26 a56 c136 a57 c137)))]) (cs:=(jG r26 a56 c136 a57 c137)) (css:=[(oy r26 a56 c136 a57 c137)]) hI rfl gn rfl rfl xO nV rfl ⟨rfl,et,trivial⟩ (by kernel_rfl) ⟨⟨a56,c136,a57,c137,rfl,hI.get .z,hI.get (.s .z)⟩,trivial⟩ rfl rfl rfl ?_
   intro b8 c141 w46 hI
   exact aQ (hk_tr_parser_reader_primary_w_3_1 (a56,c136,a57,c137,a58,c138,b8,c141) _ (hI.arr GO SU)) SB
  intro hk_tr_parser_reader_primary_w_3_0
  refine V ?_
  refine cK ?_ ?_
  ·skip
   refine be rfl gn rfl (bf (v:=(vs a53 e1.Idx.length c128)) rfl et xO rfl (CellsAt.of_blk (hI.blk (.s (.s (.s (.s (.s .z)))))) rfl)) SX.self ?_
   refine bH (F:=F) (C:=c134) rfl rfl ?_
   obtain⟨c135,f20,hB,hl24,hk23⟩:=hI.hands (.l (.r (.r (.r (.r (.r .n))))))
   refine eZ rfl gn rfl (aI (vs:=[vp b1 0]) rfl xZ ⟨et,trivial⟩) (Calls.mono (fQ HS hx28) ?_)
   intro e_ w45 hq_;obtain⟨a56,c136,a57,c137,a58,c138,c139,rfl,hB2⟩:=eH hq_
   obtain⟨c140,hs20,hI⟩:=hk23 _ _ _ _ hB2
   dsimp only[ca,na]at hI
   refine⟨_,rfl,DM true F c140,hs20,?_⟩
   exact aQ (hk_tr_parser_reader_primary_w_3_0 (a56,c136,a57,c137,a58,c138,c140) _ (hI.arr GO SU)) SB
  refine bo (F:=F) (C:=c134) rfl rfl ?_
  obtain⟨c135,f20,hB,hl24,hk23⟩:=hI.hands (.l (.r (.r (.r (.r (.r .n))))))
  refine eZ rfl gn rfl (aI (vs:=[vp b1 0]) rfl xZ ⟨et,trivial⟩) (Calls.mono (fQ HS hx28) ?_)
  intro e_ w45 hq_;obtain⟨a56,c136,a57,c137,a58,c138,c139,rfl,hB2⟩:=eH hq_
  obtain⟨c140,hs20,hI⟩:=hk23 _ _ _ _ hB2
  dsimp only[ca,na]at hI
  refine⟨_,rfl,DM true F c140,hs20,?_⟩
  refine cK ?_ ?_
  ·skip
   refine be rfl gn rfl (bf (v:=(vs a53 e1.Idx.length c128)) rfl et xO rfl (CellsAt.of_blk (hI.blk (.s (.s (.s (.s (.s .z)))))) rfl)) SX.self ?_
   exact aQ (hk_tr_parser_reader_primary_w_3_0 (a56,c136,a57,c137,a58,c138,c140) _ (hI.arr GO SU)) SB
  refine AJ (c:=ak) (xs:=([r26]:List GIndex)) (vs:=[(0,(Value.agg (jG r26 a56 c136 a57 c137)))]) (cs:=(jG r26 a56 c136 a57 c137)) (css:=[(oy r26 a56 c136 a57 c137)]) hI rfl gn rfl rfl xO nV rfl ⟨rfl,et,trivial⟩ (by kernel_rfl) ⟨⟨a56,c136,a57,c137,rfl,hI.get .z,hI.get (.s .z)⟩,trivial⟩ rfl rfl rfl ?_
  intro b8 c141 w46 hI
  refine be rfl gn rfl (bf (v:=(vs a53 e1.Idx.length c128)) rfl et xO rfl (CellsAt.of_blk (hI.blk (.s (.s (.s (.s (.s (.s .z))))))) rfl)) SX.self ?_
  exact aQ (hk_tr_parser_reader_primary_w_3_1 (a56,c136,a57,c137,a58,c138,b8,c141) _ (hI.arr GO SU)) SB
 refine bh ?_
 refine eD ?_
 refine aX ?_
 refine T ?_
 obtain⟨c147,f21,hB,hl25,hk24⟩:=hI.hands (.l (.r (.r (.r (.r (.r .n))))))
 refine ew h (fun _ hx30=>aP HS hx30) (li hk24) (Rc Tryz.func104) ?_
 rintro⟨r27,s21⟩ hx30 h _ w53 ⟨a60,c148,c149,rfl,hB2⟩
 try dsimp only at h
 refine HN hk24 hB2 fun c150 hI=> ?_
 refine⟨_,rfl,?_⟩
 refine T ?_
 refine bg (new:=(aU e1 a52 c127 a53 c128 a54 c129)) (cs':=(ap e1 a52 c127 a53 c128 a54 c129)) hI (.s (.s (.s (.s .z)))) gn rfl rfl et et rfl aC rfl rfl rfl ?_
 intro c151 w54 hI
 refine nk (az ?_)
 obtain⟨c152,hI⟩:=hI.release (.s .z)
 obtain⟨c153,hI⟩:=hI.release (.s .z)
 obtain⟨c154,hI⟩:=hI.release (.s .z)
 obtain rfl:=ai h
 refine QG ?_
 exact .inl ⟨_,rfl,a52,c127,a53,c128,a54,c129,a60,c148,_,rfl,hI.arr GO SU⟩
abbrev Qs5 (f_:(aa→Option (bu (GExpr×aa)))):Prop:=∀ ⦃C0 F:NP⦄ ⦃w0:World⦄ ⦃r1:aa⦄ ⦃b1 c1:Nat⦄ ⦃a1:Option Addr⦄ (hI:Bun C0 F w0 C0 w0 [MO.box b1 67 (af r1 a1 c1)] [Cl.sl cGToken a1 c1 r1.l,au]) ⦃r:bu (GExpr×aa)⦄ (h:f_ r1=some r),CP C0 F w0 242 #[vp b1 0] r fun rx e w=>∃ a2 c2 a3 c3 a4 c4 a5 c5 C,e= .returned (Value.agg (ap rx.1 a2 c2 a3 c3 a4 c4))∧Bun C0 F w0 C w [MO.box b1 67 (af rx.2 a5 c5)] [Cl.sl ah a2 c2 rx.1.Lin.L,Cl.sl ak a3 c3 rx.1.Idx,Cl.sl an a4 c4 rx.1.Args,Cl.sl cGToken a5 c5 rx.2.l]
theorem oN {rec_:(aa→Option (bu (GExpr×aa)))} (hrec:xI rec_) {recs_:(aa→Option (bu (GExpr×aa)))} (hrecs_:Qs5 recs_) {r1:aa} (hI:Bun C0 F w0 C0 w0 [MO.box b1 67 (af r1 a1 c1)] [Cl.sl cGToken a1 c1 r1.l,au]) {r:bu (GExpr×aa)} (h:eW rec_ recs_ r1=some r):CP C0 F w0 242 #[vp b1 0] r fun rx e w=>∃ a2 c2 a3 c3 a4 c4 a5 c5 C,e= .returned (Value.agg (ap rx.1 a2 c2 a3 c3 a4 c4))∧Bun C0 F w0 C w [MO.box b1 67 (af rx.2 a5 c5)] [Cl.sl ah a2 c2 rx.1.Lin.L,Cl.sl ak a3 c3 rx.1.Idx,Cl.sl an a4 c4 rx.1.Args,Cl.sl cGToken a5 c5 rx.2.l]:=by
 refine fG (l:=[vp b1 0]) Tryz.func242 rfl Tryz.ntmps242 rfl ?_
 rw[eW]at h
 refine sr (cU (cs:=#[vi 0,(str ([]:List UInt8)),vi 0,vi 0,vi 0,vi 0,vi 0,vi 0,vi 0,vi 0,vs none 0 0,vs none 0 0,vs none 0 0]) hI gn rfl rfl dQ rfl ?_)
 intro b2 c6 w1 hI
 refine nk (al (T ?_))
 refine sB h (fun _ k=>dL NE ⟨(hI.get0 .z),hI.lendBox (.s .z),trivial⟩ k) (Rc Tryz.func121) fun r2 w2 h hI=> ?_
 refine TC (fun hb h=> ?_) fun hb h=> ?_
 ·refine T ?_
  obtain⟨c7,f1,hB,hl2,hk1⟩:=hI.hands (.r (.l .n))
  refine ew h (fun _ hx3=>oO hrec HS hx3) (li hk1) (Rc Tryz.func248) ?_
  rintro⟨r3,s1⟩ hx3 h _ w3 ⟨a6,c8,a7,c9,a8,c10,a9,c11,c12,rfl,hB2⟩
  try dsimp only at h
  refine HN hk1 hB2 fun c13 hI=> ?_
  refine⟨_,rfl,?_⟩
  refine lA fun c14 w4 hI=> ?_
  refine nk (az ?_)
  obtain rfl:=ai h
  refine QG ?_
  exact .inl ⟨_,rfl,a6,c8,a7,c9,a8,c10,a9,c11,_,rfl,hI.arr GO SU⟩
 refine T ?_
 obtain⟨c15,f2,hB,hl3,hk2⟩:=hI.hands (.r (.l .n))
 refine ew h (fun _ hx4=>hV HS hx4) (li hk2) (Rc Tryz.func194) ?_
 rintro⟨r4,s2⟩ hx4 h _ w5 ⟨a10,c16,c17,rfl,hB2⟩
 try dsimp only at h
 refine HN hk2 hB2 fun c18 hI=> ?_
 refine⟨_,rfl,?_⟩
 refine T ?_
 obtain⟨c19,f3,hB,hl4,hk3⟩:=hI.hands (.l (.r .n))
 refine ew h (fun _ hx5=>hrecs_ HS hx5) (li hk3) (Rc Tryz.func242) ?_
 rintro⟨r5,s3⟩ hx5 h _ w6 ⟨a11,c20,a12,c21,a13,c22,a14,c23,c24,rfl,hB2⟩
 try dsimp only at h
 refine HN hk3 hB2 fun c25 hI=> ?_
 refine⟨_,rfl,?_⟩
 refine ll hI an ([r5]:List GExpr) iY (.cs (dF ⟨a11,c20,a12,c21,a13,c22,rfl,hI.get .z,hI.get (.s .z),hI.get (.s (.s .z))⟩) .nl) fun b3 c26 w7 hI=> ?_
 refine sq (aw (vs:=[(0,vi 8),(6,vs (some ⟨b3,0,none⟩) ([r5]:List GExpr).length 1)]) (cs:=#[vi 8,(str ([]:List UInt8)),vi 0,vi 0,vi 0,vi 0,vi 0,vi 0,vi 0,vi 0,vs none 0 0,vs none 0 0,vs (some ⟨b3,0,none⟩) ([r5]:List GExpr).length 1]) rfl ⟨rfl,aj,⟨rfl,et,trivial⟩⟩ (by kernel_rfl)) ?_
 refine lN fun b4 c27 w8 hI=> ?_
 refine lA fun c28 w9 hI=> ?_
 refine T ?_
 refine lS fun c29 w10 hI=> ?_
 refine T ?_
 refine lA fun c30 w11 hI=> ?_
 refine nk (az ?_)
 obtain⟨c31,hI⟩:=hI.release (.s .z)
 have hI:=hI.add (c:=Cl.sl ah none 0 ([]:List GMono)) SlC.nil
 have hI:=hI.add (c:=Cl.sl ak none 0 ([]:List GIndex)) SlC.nil
 obtain rfl:=ai h
 refine QG ?_
 exact .inl ⟨_,rfl,none,0,none,0,some ⟨b3,0,none⟩,1,a14,c23,_,rfl,hI.arr GO SU⟩
theorem oM {rec_:(aa→Option (bu (GExpr×aa)))} (hrec:xI rec_) (n:Nat):Qs5 (bN rec_ n):=by
 induction n with
 | zero=>intro F;intros;rename_i h;cases h
 | succ n ih=>intro F;intros;apply oN hrec ih<;>assumption
theorem fP {rec_:(aa→Option (bu (GExpr×aa)))} (hrec:xI rec_):Qs5 (hO rec_):=oM hrec fu
def cB:Tr:=(.c (4,.s) (.c (5,.q) (.c (6,.s) .n)))
theorem pf {rec_:(aa→Option (bu (GExpr×aa)))} (hrec:xI rec_) {r1:aa} {signs1:List (List UInt8)} {ops1:List Int} (hI:Bun C0 F w0 C0 w0 [MO.box b1 67 (af r1 a1 c1)] [Cl.sl cGToken a1 c1 r1.l,Cl.sl cStr a2 c2 signs1,Cl.sl (cInt .i64) a3 c3 ops1,au]) {r:bu (GExpr×aa)} (h:gM rec_ r1 signs1 ops1=some r):CP C0 F w0 74 #[vp b1 0,(Value.func (.func 242) #[vp b1 0] #[]),vs a2 signs1.length c2,vs a3 ops1.length c3] r fun rx e w=>∃ a4 c4 a5 c5 a6 c6 a7 c7 C,e= .returned (Value.agg (ap rx.1 a4 c4 a5 c5 a6 c6))∧Bun C0 F w0 C w [MO.box b1 67 (af rx.2 a7 c7)] [Cl.sl ah a4 c4 rx.1.Lin.L,Cl.sl ak a5 c5 rx.1.Idx,Cl.sl an a6 c6 rx.1.Args,Cl.sl cGToken a7 c7 rx.2.l]:=by
 refine fG (l:=[vp b1 0,(Value.func (.func 242) #[vp b1 0] #[]),vs a2 signs1.length c2,vs a3 ops1.length c3]) Tryz.func74 rfl Tryz.ntmps74 rfl ?_
 rw[gM]at h
 refine sr (cU (cs:=#[vi 0,(str ([]:List UInt8)),vi 0,vi 0,vi 0,vi 0,vi 0,vi 0,vi 0,vi 0,vs none 0 0,vs none 0 0,vs none 0 0]) hI gn rfl rfl dQ rfl ?_)
 intro b2 c8 w1 hI
 refine T ?_
 obtain⟨c9,f1,hB,hl1,hk1⟩:=hI.hands (.r (.l .n))
 refine ew h (fun _ hx1=>fP hrec HS hx1) (li hk1) (gx (fs:=[vp b1 0]) (vs:=[]) (cap:=[]) rfl et vr trivial) ?_
 rintro⟨r2,s1⟩ hx1 h _ w2 ⟨a8,c10,a9,c11,a10,c12,a11,c13,c14,rfl,hB2⟩
 try dsimp only at h
 refine HN hk1 hB2 fun c15 hI=> ?_
 refine⟨_,rfl,?_⟩
 refine lN fun b3 c16 w3 hI=> ?_
 refine lA fun c17 w4 hI=> ?_
 refine T ?_
 refine bc (α:=Nat×aa×GExpr×(Option Addr)×Nat×(Option Addr)×Nat×(Option Addr)×Nat×(Option Addr)×Nat) (fun x=>fun w=>∃ C,Bun C0 F w0 C w [MO.box b1 67 (af (x.2.1) (x.2.2.2.1) (x.2.2.2.2.1)),MO.box b2 39 #[vi 0,(str ([]:List UInt8)),vi 0,vi 0,vi 0,vi 0,vi 0,vi 0,vi 0,vi 0,vs none 0 0,vs none 0 0,vs none 0 0],MO.box b3 39 (ap (x.2.2.1) (x.2.2.2.2.2.1) (x.2.2.2.2.2.2.1) (x.2.2.2.2.2.2.2.1) (x.2.2.2.2.2.2.2.2.1) (x.2.2.2.2.2.2.2.2.2.1) (x.2.2.2.2.2.2.2.2.2.2))] [Cl.sl cGToken (x.2.2.2.1) (x.2.2.2.2.1) (x.2.1).l,Cl.sl ah (x.2.2.2.2.2.1) (x.2.2.2.2.2.2.1) (x.2.2.1).Lin.L,Cl.sl ak (x.2.2.2.2.2.2.2.1) (x.2.2.2.2.2.2.2.2.1) (x.2.2.1).Idx,Cl.sl an (x.2.2.2.2.2.2.2.2.2.1) (x.2.2.2.2.2.2.2.2.2.2) (x.2.2.1).Args,Cl.sl cStr a2 c2 signs1,Cl.sl (cInt .i64) a3 c3 ops1,au]∧bx signs1 ops1 rec_ (x.1) (x.2.1) (x.2.2.1)=some r) (fun x _=>x.1) (fun x=>[(0,vp b1 0),(1,(Value.func (.func 242) #[vp b1 0] #[])),(2,vs a2 signs1.length c2),(3,vs a3 ops1.length c3),(8,vp b2 0),(9,vp b3 0)]) (fu,s1,r2,a11,c13,a8,c10,a9,c11,a10,c12) ⟨_,hI.arr (.c (.s .z) (.c (.s .z) (.c .z .n))) ⟨(.s (.s (.s .z))),.z,(.s .z),(.s (.s .z)),(.s (.s (.s (.s (.s .z))))),(.s (.s (.s (.s (.s (.s .z)))))),(.s (.s (.s (.s (.s (.s (.s .z))))))),trivial⟩,h⟩ ⟨rfl,rfl,rfl,rfl,rfl,rfl,trivial⟩ ?_
 clear h hI;rintro⟨fuel1,r3,e1,a12,c18,a13,c19,a14,c20,a15,c21⟩ w5 ⟨c22,hI,h⟩
 dsimp only at hI h ⊢
 rcases fuel1 with _ | fuel1
 ·rw[bx]at h;cases h
 rw[bx]at h
 refine T ?_
 refine bw (α:=Int×aa×(Option Addr)×Nat) (fun _=>⟨43,[]⟩) (fun x=>[(0,vp b1 0),(1,(Value.func (.func 242) #[vp b1 0] #[])),(2,vs a2 signs1.length c2),(3,vs a3 ops1.length c3),(8,vp b2 0),(9,vp b3 0),(10,vi (x.1))]) (fun x=>fun w=>∃ C,Bun C0 F w0 C w [MO.box b1 67 (af (x.2.1) (x.2.2.1) (x.2.2.2)),MO.box b2 39 #[vi 0,(str ([]:List UInt8)),vi 0,vi 0,vi 0,vi 0,vi 0,vi 0,vi 0,vi 0,vs none 0 0,vs none 0 0,vs none 0 0],MO.box b3 39 (ap e1 a13 c19 a14 c20 a15 c21)] [Cl.sl cGToken (x.2.2.1) (x.2.2.2) (x.2.1).l,Cl.sl cStr a2 c2 signs1,Cl.sl (cInt .i64) a3 c3 ops1,Cl.sl ah a13 c19 e1.Lin.L,Cl.sl ak a14 c20 e1.Idx,Cl.sl an a15 c21 e1.Args,au]∧iv e1 rec_ (bx signs1 ops1 rec_ fuel1) (x.1) (x.2.1)=some r) ?_ ?_
 ·clear h hI;rintro⟨op1,r4,a16,c23⟩ w6 ⟨c24,hI,h⟩
  try dsimp only at hI h ⊢
  rw[iv]at h
  refine al (T ?_)
  refine TC (fun hb h=> ?_) fun hb h=> ?_
  ·refine T ?_
   refine lA fun c25 w7 hI=> ?_
   refine nk (az ?_)
   obtain rfl:=ai h
   exact eG (vs:=[(Value.agg (ap e1 a13 c19 a14 c20 a15 c21))]) Tryz.results74 ⟨⟨_,aH rfl rfl,cg (l:=(aU e1 a13 c19 a14 c20 a15 c21)) jy rfl aC (CellsAt.of_blk (hI.blk (.s .z)) rfl)⟩,trivial⟩ (.inl ⟨_,rfl,a13,c19,a14,c20,a15,c21,a16,c23,_,rfl,hI.arr (.c .z .n) ⟨(.s (.s (.s .z))),(.s (.s (.s (.s .z)))),(.s (.s (.s (.s (.s .z))))),.z,trivial⟩⟩)
  refine T ?_
  rcases ir h with⟨⟨r5,s2⟩,hx2,h⟩ | ⟨pa_,pn_,hx2,hp_⟩
  rotate_left
  ·subst hp_
   refine aD [3,6] false (.c (0,.q) (.c (2,.q) (.two 1 (.c (3,.s) cB) 3 (.c (1,.s) cB)))) hI (by kernel_rfl) (by kernel_rfl) ?_
   intro w12 hI
   refine V ?_
   refine cK ?_ ?_
   ·skip
    refine be rfl gn rfl (am (l:=(aU e1 a13 c19 a14 c20 a15 c21)) rfl et jy rfl aC (CellsAt.of_blk (hI.blk (.s (.s .z))) rfl)) SX.self ?_
    refine bH (F:=F) (C:=c24) rfl rfl ?_
    obtain⟨c26,f2,hB,hl2,hk2⟩:=hI.hands (.l (.r (.r .n)))
    refine fa rfl gn rfl (gx (fs:=[vp b1 0]) (vs:=[]) (cap:=[]) rfl et vr trivial) (Calls.mono (fP hrec HS hx2) ?_)
    intro e_ w_ hq_;obtain⟨rfl,C_,hB_⟩:=eI hq_;obtain⟨C9_,-,hI_⟩:=hk2 _ _ _ _ hB_;exact .inr ⟨_,rfl,ip (.inr ⟨_,_,rfl,rfl,⟨_,hI_.arr .n trivial⟩⟩)⟩
   refine bo (F:=F) (C:=c24) rfl rfl ?_
   obtain⟨c26,f2,hB,hl2,hk2⟩:=hI.hands (.l (.r (.r .n)))
   refine fa rfl gn rfl (gx (fs:=[vp b1 0]) (vs:=[]) (cap:=[]) rfl et vr trivial) (Calls.mono (fP hrec HS hx2) ?_)
   intro e_ w_ hq_;obtain⟨rfl,C_,hB_⟩:=eI hq_;obtain⟨C9_,-,hI_⟩:=hk2 _ _ _ _ hB_;exact .inr ⟨_,rfl,ip (.inr ⟨_,_,rfl,rfl,⟨_,hI_.arr .n trivial⟩⟩)⟩
  try dsimp only at h
  refine aD [3,6] false (.c (0,.q) (.c (2,.q) (.two 1 (.c (3,.s) cB) 3 (.c (1,.s) cB)))) hI (by kernel_rfl) (by kernel_rfl) ?_
  intro w13 hI
  refine bP (α:=(Option Addr)×Nat×(Option Addr)×Nat×(Option Addr)×Nat×(Option Addr)×Nat×NP) (T:=cB) (fun x=>[(0,vp b1 0),(1,(Value.func (.func 242) #[vp b1 0] #[])),(2,vs a2 signs1.length c2),(3,vs a3 ops1.length c3),(8,vp b2 0),(9,vp b3 0),(10,vi op1),(34,vi op1),(35,(vb (decide (op1=0)))),(37,vi op1),(38,(Value.agg (ap e1 a13 c19 a14 c20 a15 c21))),(39,(Value.func (.func 242) #[vp b1 0] #[])),(40,(Value.agg (ap r5 (x.1) (x.2.1) (x.2.2.1) (x.2.2.2.1) (x.2.2.2.2.1) (x.2.2.2.2.2.1))))]) (fun x w=>Bun C0 F w0 (x.2.2.2.2.2.2.2.2) w [MO.box b1 67 (af s2 (x.2.2.2.2.2.2.1) (x.2.2.2.2.2.2.2.1)),MO.box b2 39 #[vi 0,(str ([]:List UInt8)),vi 0,vi 0,vi 0,vi 0,vi 0,vi 0,vi 0,vi 0,vs none 0 0,vs none 0 0,vs none 0 0],MO.box b3 39 (ap e1 a13 c19 a14 c20 a15 c21)] [Cl.sl ah (x.1) (x.2.1) r5.Lin.L,Cl.sl ak (x.2.2.1) (x.2.2.2.1) r5.Idx,Cl.sl an (x.2.2.2.2.1) (x.2.2.2.2.2.1) r5.Args,Cl.sl cGToken (x.2.2.2.2.2.2.1) (x.2.2.2.2.2.2.2.1) s2.l,Cl.sl cGToken a16 c23 r4.l,Cl.sl cStr a2 c2 signs1,Cl.sl (cInt .i64) a3 c3 ops1,Cl.sl ah a13 c19 e1.Lin.L,Cl.sl ak a14 c20 e1.Idx,Cl.sl an a15 c21 e1.Args,au]) (fun x w=>SN [] (DM true F (x.2.2.2.2.2.2.2.2)) w) ?_ ?_
  ·clear hI;rintro⟨a17,c27,a18,c28,a19,c29,a20,c30,c35⟩ w11 hI
   try dsimp only at hI ⊢
   unfold cB
   refine vl hI an ([e1,r5]:List GExpr) iY (.cs (dF ⟨a13,c19,a14,c20,a15,c21,rfl,hI.get (.s (.s (.s (.s (.s (.s (.s .z))))))),hI.get (.s (.s (.s (.s (.s (.s (.s (.s .z)))))))),hI.get (.s (.s (.s (.s (.s (.s (.s (.s (.s .z)))))))))⟩) (.cs (dF ⟨a17,c27,a18,c28,a19,c29,rfl,hI.get .z,hI.get (.s .z),hI.get (.s (.s .z))⟩) .nl)) fun b4 c33 w9 hI=> ?_
   refine kW rfl gn rfl (fun w'=>(aw (vs:=[(0,vi op1),(6,vs (some ⟨b4,0,none⟩) ([e1,r5]:List GExpr).length 2)]) (cs:=#[vi op1,(str ([]:List UInt8)),vi 0,vi 0,vi 0,vi 0,vi 0,vi 0,vi 0,vi 0,vs none 0 0,vs none 0 0,vs (some ⟨b4,0,none⟩) ([e1,r5]:List GExpr).length 2]) rfl ⟨rfl,et,⟨rfl,et,trivial⟩⟩ (by kernel_rfl))) ?_
   refine vA fun c34 w10 hI=> ?_
   refine nj ?_
   have hI:=hI.add (c:=Cl.sl ah none 0 ([]:List GMono)) SlC.nil
   have hI:=hI.add (c:=Cl.sl ak none 0 ([]:List GIndex)) SlC.nil
   obtain⟨c36,hI⟩:=hI.release .z
   exact jE (fuel1,s2,(⟨op1,([]:List UInt8),(⟨0,0⟩:GVal),(⟨0,0,0,0,0⟩:GType),(⟨0,([]:List GMono)⟩:GLin),([]:List GIndex),([e1,r5]:List GExpr)⟩:GExpr),a20,c30,none,0,none,0,some ⟨b4,0,none⟩,2) ⟨rfl,rfl,rfl,rfl,rfl,rfl,trivial⟩ ⟨_,hI.arr (.c .z (.c .z (.c .z .n))) ⟨(.s (.s (.s (.s (.s (.s .z)))))),(.s (.s .z)),(.s .z),.z,(.s (.s (.s (.s (.s (.s (.s (.s .z)))))))),(.s (.s (.s (.s (.s (.s (.s (.s (.s .z))))))))),(.s (.s (.s (.s (.s (.s (.s (.s (.s (.s (.s (.s (.s .z))))))))))))),trivial⟩,h⟩ (Nat.lt_succ_self _)
  intro hk_tr_parser_reader_chain_w5_3_0
  refine V ?_
  refine cK ?_ ?_
  ·skip
   refine be rfl gn rfl (am (l:=(aU e1 a13 c19 a14 c20 a15 c21)) rfl et jy rfl aC (CellsAt.of_blk (hI.blk (.s (.s .z))) rfl)) SX.self ?_
   refine bH (F:=F) (C:=c24) rfl rfl ?_
   obtain⟨c26,f2,hB,hl2,hk2⟩:=hI.hands (.l (.r (.r .n)))
   refine eZ rfl gn rfl (gx (fs:=[vp b1 0]) (vs:=[]) (cap:=[]) rfl et vr trivial) (Calls.mono (fP hrec HS hx2) ?_)
   intro e_ w8 hq_;obtain⟨a17,c27,a18,c28,a19,c29,a20,c30,c31,rfl,hB2⟩:=eH hq_
   obtain⟨c32,hs2,hI⟩:=hk2 _ _ _ _ hB2
   dsimp only[ca,na]at hI
   refine⟨_,rfl,DM true F c32,hs2,?_⟩
   exact aQ (hk_tr_parser_reader_chain_w5_3_0 (a17,c27,a18,c28,a19,c29,a20,c30,c32) _ (hI.arr (.c .z (.c .z (.c .z .n))) ⟨.z,(.s .z),(.s (.s .z)),(.s (.s (.s .z))),(.s (.s (.s (.s .z)))),(.s (.s (.s (.s (.s .z))))),(.s (.s (.s (.s (.s (.s .z)))))),(.s (.s (.s (.s (.s (.s (.s .z))))))),(.s (.s (.s (.s (.s (.s (.s (.s .z)))))))),(.s (.s (.s (.s (.s (.s (.s (.s (.s .z))))))))),(.s (.s (.s (.s (.s (.s (.s (.s (.s (.s .z)))))))))),trivial⟩)) ⟨rfl,rfl,rfl,rfl,rfl,rfl,rfl,rfl,rfl,rfl,rfl,rfl,rfl,trivial⟩
  refine bo (F:=F) (C:=c24) rfl rfl ?_
  obtain⟨c26,f2,hB,hl2,hk2⟩:=hI.hands (.l (.r (.r .n)))
  refine eZ rfl gn rfl (gx (fs:=[vp b1 0]) (vs:=[]) (cap:=[]) rfl et vr trivial) (Calls.mono (fP hrec HS hx2) ?_)
  intro e_ w8 hq_;obtain⟨a17,c27,a18,c28,a19,c29,a20,c30,c31,rfl,hB2⟩:=eH hq_
  obtain⟨c32,hs2,hI⟩:=hk2 _ _ _ _ hB2
  dsimp only[ca,na]at hI
  refine⟨_,rfl,DM true F c32,hs2,?_⟩
  refine be rfl gn rfl (am (l:=(aU e1 a13 c19 a14 c20 a15 c21)) rfl et jy rfl aC (CellsAt.of_blk (hI.blk (.s (.s .z))) rfl)) SX.self ?_
  exact aQ (hk_tr_parser_reader_chain_w5_3_0 (a17,c27,a18,c28,a19,c29,a20,c30,c32) _ (hI.arr (.c .z (.c .z (.c .z .n))) ⟨.z,(.s .z),(.s (.s .z)),(.s (.s (.s .z))),(.s (.s (.s (.s .z)))),(.s (.s (.s (.s (.s .z))))),(.s (.s (.s (.s (.s (.s .z)))))),(.s (.s (.s (.s (.s (.s (.s .z))))))),(.s (.s (.s (.s (.s (.s (.s (.s .z)))))))),(.s (.s (.s (.s (.s (.s (.s (.s (.s .z))))))))),(.s (.s (.s (.s (.s (.s (.s (.s (.s (.s .z)))))))))),trivial⟩)) ⟨rfl,rfl,rfl,rfl,rfl,rfl,rfl,rfl,rfl,rfl,rfl,rfl,rfl,trivial⟩
 refine T ?_
 refine bc (α:=Nat×Int×Int×aa×(Option Addr)×Nat) (fun x=>fun w=>∃ C,Bun C0 F w0 C w [MO.box b1 67 (af (x.2.2.2.1) (x.2.2.2.2.1) (x.2.2.2.2.2)),MO.box b2 39 #[vi 0,(str ([]:List UInt8)),vi 0,vi 0,vi 0,vi 0,vi 0,vi 0,vi 0,vi 0,vs none 0 0,vs none 0 0,vs none 0 0],MO.box b3 39 (ap e1 a13 c19 a14 c20 a15 c21)] [Cl.sl cGToken (x.2.2.2.2.1) (x.2.2.2.2.2) (x.2.2.2.1).l,Cl.sl cStr a2 c2 signs1,Cl.sl (cInt .i64) a3 c3 ops1,Cl.sl ah a13 c19 e1.Lin.L,Cl.sl ak a14 c20 e1.Idx,Cl.sl an a15 c21 e1.Args,au]∧bT signs1 ops1 e1 rec_ (bx signs1 ops1 rec_ fuel1) (x.1) (x.2.1) (x.2.2.1) (x.2.2.2.1)=some r) (fun x _=>x.1) (fun x=>[(0,vp b1 0),(1,(Value.func (.func 242) #[vp b1 0] #[])),(2,vs a2 signs1.length c2),(3,vs a3 ops1.length c3),(8,vp b2 0),(9,vp b3 0),(10,vi (x.2.1)),(15,vs a2 signs1.length c2),(16,vi (signs1.length:Int)),(17,vi (x.2.2.1))]) (fu,0,0,r3,a12,c18) ⟨_,hI.arr (.c .z (.c .z (.c .z .n))) ⟨.z,(.s (.s (.s (.s .z)))),(.s (.s (.s (.s (.s .z))))),(.s .z),(.s (.s .z)),(.s (.s (.s .z))),(.s (.s (.s (.s (.s (.s .z)))))),trivial⟩,h⟩ ⟨rfl,rfl,rfl,rfl,rfl,rfl,rfl,rfl,rfl,rfl,trivial⟩ ?_
 clear h hI;rintro⟨fuel2,op2,i1,r6,a21,c37⟩ w14 ⟨c38,hI,h⟩
 dsimp only at hI h ⊢
 rcases fuel2 with _ | fuel2
 ·rw[bT]at h;cases h
 rw[bT]at h
 refine T ?_
 refine al (wJ h et (fun hb h=> ?_) (fun hb h=> ?_))
 ·refine T ?_
  refine bw (α:=Int×aa×(Option Addr)×Nat) (fun _=>⟨43,[]⟩) (fun x=>[(0,vp b1 0),(1,(Value.func (.func 242) #[vp b1 0] #[])),(2,vs a2 signs1.length c2),(3,vs a3 ops1.length c3),(8,vp b2 0),(9,vp b3 0),(10,vi (x.1)),(15,vs a2 signs1.length c2),(16,vi (signs1.length:Int)),(17,vi i1)]) (fun x=>fun w=>∃ C,Bun C0 F w0 C w [MO.box b1 67 (af (x.2.1) (x.2.2.1) (x.2.2.2)),MO.box b2 39 #[vi 0,(str ([]:List UInt8)),vi 0,vi 0,vi 0,vi 0,vi 0,vi 0,vi 0,vi 0,vs none 0 0,vs none 0 0,vs none 0 0],MO.box b3 39 (ap e1 a13 c19 a14 c20 a15 c21)] [Cl.sl cGToken (x.2.2.1) (x.2.2.2) (x.2.1).l,Cl.sl cStr a2 c2 signs1,Cl.sl (cInt .i64) a3 c3 ops1,Cl.sl ah a13 c19 e1.Lin.L,Cl.sl ak a14 c20 e1.Idx,Cl.sl an a15 c21 e1.Args,au]∧fT (bT signs1 ops1 e1 rec_ (bx signs1 ops1 rec_ fuel1) fuel2) i1 (x.1) (x.2.1)=some r) ?_ ?_
  ·clear h hI;rintro⟨op3,r7,a22,c39⟩ w15 ⟨c40,hI,h⟩
   try dsimp only at hI h ⊢
   rw[fT]at h
   refine T ?_
   refine aK ?_
   exact jE (fuel2,op3,aq (i1+1),r7,a22,c39) ⟨rfl,rfl,rfl,rfl,rfl,rfl,rfl,rfl,rfl,rfl,trivial⟩ ⟨_,hI.arr (.c .z (.c .z (.c .z .n))) ⟨.z,(.s .z),(.s (.s .z)),(.s (.s (.s .z))),(.s (.s (.s (.s .z)))),(.s (.s (.s (.s (.s .z))))),(.s (.s (.s (.s (.s (.s .z)))))),trivial⟩,h⟩ (Nat.lt_succ_self _)
  refine T ?_
  obtain⟨e2,hx3,h⟩:=ae h
  obtain⟨ad1,cs1,hA1,hr1,hq1⟩:=hI.clat (.s .z) hx3
  obtain rfl:cs1=[(str e2)]:=hr1
  refine sI ?_
  refine T ?_
  obtain⟨c41,f3,hB,hl3,hk3⟩:=hI.hands (.l (.r (.r .n)))
  obtain⟨⟨r8,s3⟩,hx4,h⟩:=ae h
  try dsimp only at h
  refine pG (fun v_ w_=>v_=(vb r8)∧∃ (a23:Option Addr),∃ (c42:Nat),∃ C_:NP,Bun c41 f3 w14 C_ w_ [MO.box b1 67 (af s3 a23 c42)] [Cl.sl cGToken a23 c42 s3.l]) (aT rfl rfl rfl rfl) rfl (fun hc=>(aI (vs:=[vp b1 0,(str e2)]) rfl zt ⟨(aO et hc),⟨(aO et hc),trivial⟩⟩)) (fun hc=>(aM HS (zF hc hx4)).mono fun e_ w_ hq_=>(let ⟨a23,c42,C_,he_,hB_⟩:=hq_;⟨_,he_,rfl,a23,c42,C_,hB_⟩)) ?_
  intro v_ w16 h1_ h2_
  obtain⟨hv_,a23,c42,c43,hB2⟩:gv (decide (op2=0)) v_=gv (decide (op2=0)) (vb r8)∧∃ (a23:Option Addr),∃ (c42:Nat),∃ C_:NP,Bun c41 f3 w14 C_ w16 [MO.box b1 67 (af s3 a23 c42)] [Cl.sl cGToken a23 c42 s3.l]:=by
   rcases Bool.eq_false_or_eq_true (decide (op2=0))with hc | hc
   ·obtain⟨rfl,hq_⟩:=h1_ hc;exact⟨rfl,hq_⟩
   have e1_:=h2_ hc;subst e1_;obtain⟨rfl,rfl⟩:=zG hc hx4;exact⟨by rw[o8 hc,o8 hc],a21,c37,_,hB.subs ⟨.z,trivial⟩⟩
  rw[hv_];clear h1_ h2_
  refine HN hk3 hB2 fun c44 hI=> ?_
  refine TC (fun hb h=> ?_) fun hb h=> ?_
  ·refine T ?_
   obtain⟨e3,hx5,h⟩:=ae h
   obtain⟨ad2,cs2,hA2,hr2,hq2⟩:=hI.clat (.s (.s (.s .z))) hx5
   obtain rfl:cs2=[vi e3]:=hr2
   refine sI ?_
   refine T ?_
   refine aK ?_
   exact bj (e3,s3,a23,c42) ⟨rfl,rfl,rfl,rfl,rfl,rfl,rfl,rfl,rfl,rfl,trivial⟩ ⟨_,hI.arr (.c .z (.c .z (.c .z .n))) ⟨.z,(.s (.s .z)),(.s (.s (.s .z))),(.s (.s (.s (.s .z)))),(.s (.s (.s (.s (.s .z))))),(.s (.s (.s (.s (.s (.s .z)))))),(.s (.s (.s (.s (.s (.s (.s .z))))))),trivial⟩,h⟩ rfl
  exact bb (bj (op2,s3,a23,c42) ⟨rfl,rfl,rfl,rfl,rfl,rfl,rfl,rfl,rfl,rfl,trivial⟩ ⟨_,hI.arr (.c .z (.c .z (.c .z .n))) ⟨.z,(.s (.s .z)),(.s (.s (.s .z))),(.s (.s (.s (.s .z)))),(.s (.s (.s (.s (.s .z))))),(.s (.s (.s (.s (.s (.s .z)))))),(.s (.s (.s (.s (.s (.s (.s .z))))))),trivial⟩,h⟩ rfl)
 refine bh ?_
 refine eD ?_
 exact bj (op2,r6,a21,c37) ⟨rfl,rfl,rfl,rfl,rfl,rfl,rfl,trivial⟩ ⟨_,hI.arr (.c .z (.c .z (.c .z .n))) ⟨.z,(.s .z),(.s (.s .z)),(.s (.s (.s .z))),(.s (.s (.s (.s .z)))),(.s (.s (.s (.s (.s .z))))),(.s (.s (.s (.s (.s (.s .z)))))),trivial⟩,h⟩ rfl
theorem fb {rec_:(aa→Option (bu (GExpr×aa)))} (hrec:xI rec_) {r1:aa} (hI:Bun C0 F w0 C0 w0 [MO.box b1 67 (af r1 a1 c1)] [Cl.sl cGToken a1 c1 r1.l,au]) {r:bu (GExpr×aa)} (h:cL rec_ r1=some r):CP C0 F w0 227 #[vp b1 0] r fun rx e w=>∃ a2 c2 a3 c3 a4 c4 a5 c5 C,e= .returned (Value.agg (ap rx.1 a2 c2 a3 c3 a4 c4))∧Bun C0 F w0 C w [MO.box b1 67 (af rx.2 a5 c5)] [Cl.sl ah a2 c2 rx.1.Lin.L,Cl.sl ak a3 c3 rx.1.Idx,Cl.sl an a4 c4 rx.1.Args,Cl.sl cGToken a5 c5 rx.2.l]:=by
 refine fG (l:=[vp b1 0]) Tryz.func227 rfl Tryz.ntmps227 rfl ?_
 rw[cL]at h
 refine sr (cU (cs:=#[vi 0,(str ([]:List UInt8)),vi 0,vi 0,vi 0,vi 0,vi 0,vi 0,vi 0,vi 0,vs none 0 0,vs none 0 0,vs none 0 0]) hI gn rfl rfl dQ rfl ?_)
 intro b2 c6 w1 hI
 refine T ?_
 refine sq (nO (vs:=[vp b1 0]) rfl rfl ⟨et,trivial⟩) ?_
 refine j9 (c:=cStr) (xs:=([([42]:List UInt8),([47]:List UInt8)]:List (List UInt8))) (vs:=[(0,(str ([42]:List UInt8))),(1,(str ([47]:List UInt8)))]) (cs:=#[(str ([42]:List UInt8)),(str ([47]:List UInt8))]) (css:=[[(str ([42]:List UInt8))],[(str ([47]:List UInt8))]]) hI gn rfl rfl xq lM rfl ⟨rfl,aj,⟨rfl,aj,trivial⟩⟩ (by kernel_rfl) ⟨rfl,⟨rfl,trivial⟩⟩ rfl rfl rfl ?_
 intro b3 c7 w2 hI
 refine j9 (c:=(cInt .i64)) (xs:=([6,7]:List Int)) (vs:=[(0,vi 6),(1,vi 7)]) (cs:=#[vi 6,vi 7]) (css:=[[vi 6],[vi 7]]) hI gn rfl rfl CO vK rfl ⟨rfl,aj,⟨rfl,aj,trivial⟩⟩ (by kernel_rfl) ⟨rfl,⟨rfl,trivial⟩⟩ rfl rfl rfl ?_
 intro b4 c8 w3 hI
 obtain⟨c9,hI⟩:=hI.release (.s .z)
 obtain⟨c10,hI⟩:=hI.release .z
 obtain⟨c11,f1,hB,hl1,hk1⟩:=hI.hands (.r (.l .n))
 refine ew h (fun _ hx1=>pf hrec HS hx1) (li hk1) (Rc Tryz.func74) ?_
 rintro⟨r2,s1⟩ hx1 h _ w4 ⟨a6,c12,a7,c13,a8,c14,a9,c15,c16,rfl,hB2⟩
 try dsimp only at h
 refine HN hk1 hB2 fun c17 hI=> ?_
 refine⟨_,rfl,?_⟩
 refine lA fun c18 w5 hI=> ?_
 refine nk (az ?_)
 obtain rfl:=ai h
 refine QG ?_
 exact .inl ⟨_,rfl,a6,c12,a7,c13,a8,c14,a9,c15,_,rfl,hI.arr GO SU⟩
def cC:Tr:=(.c (4,.s) (.c (5,.q) (.c (6,.s) .n)))
theorem pg {rec_:(aa→Option (bu (GExpr×aa)))} (hrec:xI rec_) {r1:aa} {signs1:List (List UInt8)} {ops1:List Int} (hI:Bun C0 F w0 C0 w0 [MO.box b1 67 (af r1 a1 c1)] [Cl.sl cGToken a1 c1 r1.l,Cl.sl cStr a2 c2 signs1,Cl.sl (cInt .i64) a3 c3 ops1,au]) {r:bu (GExpr×aa)} (h:gN rec_ r1 signs1 ops1=some r):CP C0 F w0 74 #[vp b1 0,(Value.func (.func 227) #[vp b1 0] #[]),vs a2 signs1.length c2,vs a3 ops1.length c3] r fun rx e w=>∃ a4 c4 a5 c5 a6 c6 a7 c7 C,e= .returned (Value.agg (ap rx.1 a4 c4 a5 c5 a6 c6))∧Bun C0 F w0 C w [MO.box b1 67 (af rx.2 a7 c7)] [Cl.sl ah a4 c4 rx.1.Lin.L,Cl.sl ak a5 c5 rx.1.Idx,Cl.sl an a6 c6 rx.1.Args,Cl.sl cGToken a7 c7 rx.2.l]:=by
 refine fG (l:=[vp b1 0,(Value.func (.func 227) #[vp b1 0] #[]),vs a2 signs1.length c2,vs a3 ops1.length c3]) Tryz.func74 rfl Tryz.ntmps74 rfl ?_
 rw[gN]at h
 refine sr (cU (cs:=#[vi 0,(str ([]:List UInt8)),vi 0,vi 0,vi 0,vi 0,vi 0,vi 0,vi 0,vi 0,vs none 0 0,vs none 0 0,vs none 0 0]) hI gn rfl rfl dQ rfl ?_)
 intro b2 c8 w1 hI
 refine T ?_
 obtain⟨c9,f1,hB,hl1,hk1⟩:=hI.hands (.r (.l .n))
 refine ew h (fun _ hx1=>fb hrec HS hx1) (li hk1) (gx (fs:=[vp b1 0]) (vs:=[]) (cap:=[]) rfl et vt trivial) ?_
 rintro⟨r2,s1⟩ hx1 h _ w2 ⟨a8,c10,a9,c11,a10,c12,a11,c13,c14,rfl,hB2⟩
 try dsimp only at h
 refine HN hk1 hB2 fun c15 hI=> ?_
 refine⟨_,rfl,?_⟩
 refine lN fun b3 c16 w3 hI=> ?_
 refine lA fun c17 w4 hI=> ?_
 refine T ?_
 refine bc (α:=Nat×aa×GExpr×(Option Addr)×Nat×(Option Addr)×Nat×(Option Addr)×Nat×(Option Addr)×Nat) (fun x=>fun w=>∃ C,Bun C0 F w0 C w [MO.box b1 67 (af (x.2.1) (x.2.2.2.1) (x.2.2.2.2.1)),MO.box b2 39 #[vi 0,(str ([]:List UInt8)),vi 0,vi 0,vi 0,vi 0,vi 0,vi 0,vi 0,vi 0,vs none 0 0,vs none 0 0,vs none 0 0],MO.box b3 39 (ap (x.2.2.1) (x.2.2.2.2.2.1) (x.2.2.2.2.2.2.1) (x.2.2.2.2.2.2.2.1) (x.2.2.2.2.2.2.2.2.1) (x.2.2.2.2.2.2.2.2.2.1) (x.2.2.2.2.2.2.2.2.2.2))] [Cl.sl cGToken (x.2.2.2.1) (x.2.2.2.2.1) (x.2.1).l,Cl.sl ah (x.2.2.2.2.2.1) (x.2.2.2.2.2.2.1) (x.2.2.1).Lin.L,Cl.sl ak (x.2.2.2.2.2.2.2.1) (x.2.2.2.2.2.2.2.2.1) (x.2.2.1).Idx,Cl.sl an (x.2.2.2.2.2.2.2.2.2.1) (x.2.2.2.2.2.2.2.2.2.2) (x.2.2.1).Args,Cl.sl cStr a2 c2 signs1,Cl.sl (cInt .i64) a3 c3 ops1,au]∧bz signs1 ops1 rec_ (x.1) (x.2.1) (x.2.2.1)=some r) (fun x _=>x.1) (fun x=>[(0,vp b1 0),(1,(Value.func (.func 227) #[vp b1 0] #[])),(2,vs a2 signs1.length c2),(3,vs a3 ops1.length c3),(8,vp b2 0),(9,vp b3 0)]) (fu,s1,r2,a11,c13,a8,c10,a9,c11,a10,c12) ⟨_,hI.arr (.c (.s .z) (.c (.s .z) (.c .z .n))) ⟨(.s (.s (.s .z))),.z,(.s .z),(.s (.s .z)),(.s (.s (.s (.s (.s .z))))),(.s (.s (.s (.s (.s (.s .z)))))),(.s (.s (.s (.s (.s (.s (.s .z))))))),trivial⟩,h⟩ ⟨rfl,rfl,rfl,rfl,rfl,rfl,trivial⟩ ?_
 clear h hI;rintro⟨fuel1,r3,e1,a12,c18,a13,c19,a14,c20,a15,c21⟩ w5 ⟨c22,hI,h⟩
 dsimp only at hI h ⊢
 rcases fuel1 with _ | fuel1
 ·rw[bz]at h;cases h
 rw[bz]at h
 refine T ?_
 refine bw (α:=Int×aa×(Option Addr)×Nat) (fun _=>⟨43,[]⟩) (fun x=>[(0,vp b1 0),(1,(Value.func (.func 227) #[vp b1 0] #[])),(2,vs a2 signs1.length c2),(3,vs a3 ops1.length c3),(8,vp b2 0),(9,vp b3 0),(10,vi (x.1))]) (fun x=>fun w=>∃ C,Bun C0 F w0 C w [MO.box b1 67 (af (x.2.1) (x.2.2.1) (x.2.2.2)),MO.box b2 39 #[vi 0,(str ([]:List UInt8)),vi 0,vi 0,vi 0,vi 0,vi 0,vi 0,vi 0,vi 0,vs none 0 0,vs none 0 0,vs none 0 0],MO.box b3 39 (ap e1 a13 c19 a14 c20 a15 c21)] [Cl.sl cGToken (x.2.2.1) (x.2.2.2) (x.2.1).l,Cl.sl cStr a2 c2 signs1,Cl.sl (cInt .i64) a3 c3 ops1,Cl.sl ah a13 c19 e1.Lin.L,Cl.sl ak a14 c20 e1.Idx,Cl.sl an a15 c21 e1.Args,au]∧iw e1 rec_ (bz signs1 ops1 rec_ fuel1) (x.1) (x.2.1)=some r) ?_ ?_
 ·clear h hI;rintro⟨op1,r4,a16,c23⟩ w6 ⟨c24,hI,h⟩
  try dsimp only at hI h ⊢
  rw[iw]at h
  refine al (T ?_)
  refine TC (fun hb h=> ?_) fun hb h=> ?_
  ·refine T ?_
   refine lA fun c25 w7 hI=> ?_
   refine nk (az ?_)
   obtain rfl:=ai h
   exact eG (vs:=[(Value.agg (ap e1 a13 c19 a14 c20 a15 c21))]) Tryz.results74 ⟨⟨_,aH rfl rfl,cg (l:=(aU e1 a13 c19 a14 c20 a15 c21)) jy rfl aC (CellsAt.of_blk (hI.blk (.s .z)) rfl)⟩,trivial⟩ (.inl ⟨_,rfl,a13,c19,a14,c20,a15,c21,a16,c23,_,rfl,hI.arr (.c .z .n) ⟨(.s (.s (.s .z))),(.s (.s (.s (.s .z)))),(.s (.s (.s (.s (.s .z))))),.z,trivial⟩⟩)
  refine T ?_
  rcases ir h with⟨⟨r5,s2⟩,hx2,h⟩ | ⟨pa_,pn_,hx2,hp_⟩
  rotate_left
  ·subst hp_
   refine aD [3,6] false (.c (0,.q) (.c (2,.q) (.two 1 (.c (3,.s) cC) 3 (.c (1,.s) cC)))) hI (by kernel_rfl) (by kernel_rfl) ?_
   intro w12 hI
   refine V ?_
   refine cK ?_ ?_
   ·skip
    refine be rfl gn rfl (am (l:=(aU e1 a13 c19 a14 c20 a15 c21)) rfl et jy rfl aC (CellsAt.of_blk (hI.blk (.s (.s .z))) rfl)) SX.self ?_
    refine bH (F:=F) (C:=c24) rfl rfl ?_
    obtain⟨c26,f2,hB,hl2,hk2⟩:=hI.hands (.l (.r (.r .n)))
    refine fa rfl gn rfl (gx (fs:=[vp b1 0]) (vs:=[]) (cap:=[]) rfl et vt trivial) (Calls.mono (fb hrec HS hx2) ?_)
    intro e_ w_ hq_;obtain⟨rfl,C_,hB_⟩:=eI hq_;obtain⟨C9_,-,hI_⟩:=hk2 _ _ _ _ hB_;exact .inr ⟨_,rfl,ip (.inr ⟨_,_,rfl,rfl,⟨_,hI_.arr .n trivial⟩⟩)⟩
   refine bo (F:=F) (C:=c24) rfl rfl ?_
   obtain⟨c26,f2,hB,hl2,hk2⟩:=hI.hands (.l (.r (.r .n)))
   refine fa rfl gn rfl (gx (fs:=[vp b1 0]) (vs:=[]) (cap:=[]) rfl et vt trivial) (Calls.mono (fb hrec HS hx2) ?_)
   intro e_ w_ hq_;obtain⟨rfl,C_,hB_⟩:=eI hq_;obtain⟨C9_,-,hI_⟩:=hk2 _ _ _ _ hB_;exact .inr ⟨_,rfl,ip (.inr ⟨_,_,rfl,rfl,⟨_,hI_.arr .n trivial⟩⟩)⟩
  try dsimp only at h
  refine aD [3,6] false (.c (0,.q) (.c (2,.q) (.two 1 (.c (3,.s) cC) 3 (.c (1,.s) cC)))) hI (by kernel_rfl) (by kernel_rfl) ?_
  intro w13 hI
  refine bP (α:=(Option Addr)×Nat×(Option Addr)×Nat×(Option Addr)×Nat×(Option Addr)×Nat×NP) (T:=cC) (fun x=>[(0,vp b1 0),(1,(Value.func (.func 227) #[vp b1 0] #[])),(2,vs a2 signs1.length c2),(3,vs a3 ops1.length c3),(8,vp b2 0),(9,vp b3 0),(10,vi op1),(34,vi op1),(35,(vb (decide (op1=0)))),(37,vi op1),(38,(Value.agg (ap e1 a13 c19 a14 c20 a15 c21))),(39,(Value.func (.func 227) #[vp b1 0] #[])),(40,(Value.agg (ap r5 (x.1) (x.2.1) (x.2.2.1) (x.2.2.2.1) (x.2.2.2.2.1) (x.2.2.2.2.2.1))))]) (fun x w=>Bun C0 F w0 (x.2.2.2.2.2.2.2.2) w [MO.box b1 67 (af s2 (x.2.2.2.2.2.2.1) (x.2.2.2.2.2.2.2.1)),MO.box b2 39 #[vi 0,(str ([]:List UInt8)),vi 0,vi 0,vi 0,vi 0,vi 0,vi 0,vi 0,vi 0,vs none 0 0,vs none 0 0,vs none 0 0],MO.box b3 39 (ap e1 a13 c19 a14 c20 a15 c21)] [Cl.sl ah (x.1) (x.2.1) r5.Lin.L,Cl.sl ak (x.2.2.1) (x.2.2.2.1) r5.Idx,Cl.sl an (x.2.2.2.2.1) (x.2.2.2.2.2.1) r5.Args,Cl.sl cGToken (x.2.2.2.2.2.2.1) (x.2.2.2.2.2.2.2.1) s2.l,Cl.sl cGToken a16 c23 r4.l,Cl.sl cStr a2 c2 signs1,Cl.sl (cInt .i64) a3 c3 ops1,Cl.sl ah a13 c19 e1.Lin.L,Cl.sl ak a14 c20 e1.Idx,Cl.sl an a15 c21 e1.Args,au]) (fun x w=>SN [] (DM true F (x.2.2.2.2.2.2.2.2)) w) ?_ ?_
  ·clear hI;rintro⟨a17,c27,a18,c28,a19,c29,a20,c30,c35⟩ w11 hI
   try dsimp only at hI ⊢
   unfold cC
   refine vl hI an ([e1,r5]:List GExpr) iY (.cs (dF ⟨a13,c19,a14,c20,a15,c21,rfl,hI.get (.s (.s (.s (.s (.s (.s (.s .z))))))),hI.get (.s (.s (.s (.s (.s (.s (.s (.s .z)))))))),hI.get (.s (.s (.s (.s (.s (.s (.s (.s (.s .z)))))))))⟩) (.cs (dF ⟨a17,c27,a18,c28,a19,c29,rfl,hI.get .z,hI.get (.s .z),hI.get (.s (.s .z))⟩) .nl)) fun b4 c33 w9 hI=> ?_
   refine kW rfl gn rfl (fun w'=>(aw (vs:=[(0,vi op1),(6,vs (some ⟨b4,0,none⟩) ([e1,r5]:List GExpr).length 2)]) (cs:=#[vi op1,(str ([]:List UInt8)),vi 0,vi 0,vi 0,vi 0,vi 0,vi 0,vi 0,vi 0,vs none 0 0,vs none 0 0,vs (some ⟨b4,0,none⟩) ([e1,r5]:List GExpr).length 2]) rfl ⟨rfl,et,⟨rfl,et,trivial⟩⟩ (by kernel_rfl))) ?_
   refine vA fun c34 w10 hI=> ?_
   refine nj ?_
   have hI:=hI.add (c:=Cl.sl ah none 0 ([]:List GMono)) SlC.nil
   have hI:=hI.add (c:=Cl.sl ak none 0 ([]:List GIndex)) SlC.nil
   obtain⟨c36,hI⟩:=hI.release .z
   exact jE (fuel1,s2,(⟨op1,([]:List UInt8),(⟨0,0⟩:GVal),(⟨0,0,0,0,0⟩:GType),(⟨0,([]:List GMono)⟩:GLin),([]:List GIndex),([e1,r5]:List GExpr)⟩:GExpr),a20,c30,none,0,none,0,some ⟨b4,0,none⟩,2) ⟨rfl,rfl,rfl,rfl,rfl,rfl,trivial⟩ ⟨_,hI.arr (.c .z (.c .z (.c .z .n))) ⟨(.s (.s (.s (.s (.s (.s .z)))))),(.s (.s .z)),(.s .z),.z,(.s (.s (.s (.s (.s (.s (.s (.s .z)))))))),(.s (.s (.s (.s (.s (.s (.s (.s (.s .z))))))))),(.s (.s (.s (.s (.s (.s (.s (.s (.s (.s (.s (.s (.s .z))))))))))))),trivial⟩,h⟩ (Nat.lt_succ_self _)
  intro hk_tr_parser_reader_chain_w4_3_0
  refine V ?_
  refine cK ?_ ?_
  ·skip
   refine be rfl gn rfl (am (l:=(aU e1 a13 c19 a14 c20 a15 c21)) rfl et jy rfl aC (CellsAt.of_blk (hI.blk (.s (.s .z))) rfl)) SX.self ?_
   refine bH (F:=F) (C:=c24) rfl rfl ?_
   obtain⟨c26,f2,hB,hl2,hk2⟩:=hI.hands (.l (.r (.r .n)))
   refine eZ rfl gn rfl (gx (fs:=[vp b1 0]) (vs:=[]) (cap:=[]) rfl et vt trivial) (Calls.mono (fb hrec HS hx2) ?_)
   intro e_ w8 hq_;obtain⟨a17,c27,a18,c28,a19,c29,a20,c30,c31,rfl,hB2⟩:=eH hq_
   obtain⟨c32,hs2,hI⟩:=hk2 _ _ _ _ hB2
   dsimp only[ca,na]at hI
   refine⟨_,rfl,DM true F c32,hs2,?_⟩
   exact aQ (hk_tr_parser_reader_chain_w4_3_0 (a17,c27,a18,c28,a19,c29,a20,c30,c32) _ (hI.arr (.c .z (.c .z (.c .z .n))) ⟨.z,(.s .z),(.s (.s .z)),(.s (.s (.s .z))),(.s (.s (.s (.s .z)))),(.s (.s (.s (.s (.s .z))))),(.s (.s (.s (.s (.s (.s .z)))))),(.s (.s (.s (.s (.s (.s (.s .z))))))),(.s (.s (.s (.s (.s (.s (.s (.s .z)))))))),(.s (.s (.s (.s (.s (.s (.s (.s (.s .z))))))))),(.s (.s (.s (.s (.s (.s (.s (.s (.s (.s .z)))))))))),trivial⟩)) ⟨rfl,rfl,rfl,rfl,rfl,rfl,rfl,rfl,rfl,rfl,rfl,rfl,rfl,trivial⟩
  refine bo (F:=F) (C:=c24) rfl rfl ?_
  obtain⟨c26,f2,hB,hl2,hk2⟩:=hI.hands (.l (.r (.r .n)))
  refine eZ rfl gn rfl (gx (fs:=[vp b1 0]) (vs:=[]) (cap:=[]) rfl et vt trivial) (Calls.mono (fb hrec HS hx2) ?_)
  intro e_ w8 hq_;obtain⟨a17,c27,a18,c28,a19,c29,a20,c30,c31,rfl,hB2⟩:=eH hq_
  obtain⟨c32,hs2,hI⟩:=hk2 _ _ _ _ hB2
  dsimp only[ca,na]at hI
  refine⟨_,rfl,DM true F c32,hs2,?_⟩
  refine be rfl gn rfl (am (l:=(aU e1 a13 c19 a14 c20 a15 c21)) rfl et jy rfl aC (CellsAt.of_blk (hI.blk (.s (.s .z))) rfl)) SX.self ?_
  exact aQ (hk_tr_parser_reader_chain_w4_3_0 (a17,c27,a18,c28,a19,c29,a20,c30,c32) _ (hI.arr (.c .z (.c .z (.c .z .n))) ⟨.z,(.s .z),(.s (.s .z)),(.s (.s (.s .z))),(.s (.s (.s (.s .z)))),(.s (.s (.s (.s (.s .z))))),(.s (.s (.s (.s (.s (.s .z)))))),(.s (.s (.s (.s (.s (.s (.s .z))))))),(.s (.s (.s (.s (.s (.s (.s (.s .z)))))))),(.s (.s (.s (.s (.s (.s (.s (.s (.s .z))))))))),(.s (.s (.s (.s (.s (.s (.s (.s (.s (.s .z)))))))))),trivial⟩)) ⟨rfl,rfl,rfl,rfl,rfl,rfl,rfl,rfl,rfl,rfl,rfl,rfl,rfl,trivial⟩
 refine T ?_
 refine bc (α:=Nat×Int×Int×aa×(Option Addr)×Nat) (fun x=>fun w=>∃ C,Bun C0 F w0 C w [MO.box b1 67 (af (x.2.2.2.1) (x.2.2.2.2.1) (x.2.2.2.2.2)),MO.box b2 39 #[vi 0,(str ([]:List UInt8)),vi 0,vi 0,vi 0,vi 0,vi 0,vi 0,vi 0,vi 0,vs none 0 0,vs none 0 0,vs none 0 0],MO.box b3 39 (ap e1 a13 c19 a14 c20 a15 c21)] [Cl.sl cGToken (x.2.2.2.2.1) (x.2.2.2.2.2) (x.2.2.2.1).l,Cl.sl cStr a2 c2 signs1,Cl.sl (cInt .i64) a3 c3 ops1,Cl.sl ah a13 c19 e1.Lin.L,Cl.sl ak a14 c20 e1.Idx,Cl.sl an a15 c21 e1.Args,au]∧bU signs1 ops1 e1 rec_ (bz signs1 ops1 rec_ fuel1) (x.1) (x.2.1) (x.2.2.1) (x.2.2.2.1)=some r) (fun x _=>x.1) (fun x=>[(0,vp b1 0),(1,(Value.func (.func 227) #[vp b1 0] #[])),(2,vs a2 signs1.length c2),(3,vs a3 ops1.length c3),(8,vp b2 0),(9,vp b3 0),(10,vi (x.2.1)),(15,vs a2 signs1.length c2),(16,vi (signs1.length:Int)),(17,vi (x.2.2.1))]) (fu,0,0,r3,a12,c18) ⟨_,hI.arr (.c .z (.c .z (.c .z .n))) ⟨.z,(.s (.s (.s (.s .z)))),(.s (.s (.s (.s (.s .z))))),(.s .z),(.s (.s .z)),(.s (.s (.s .z))),(.s (.s (.s (.s (.s (.s .z)))))),trivial⟩,h⟩ ⟨rfl,rfl,rfl,rfl,rfl,rfl,rfl,rfl,rfl,rfl,trivial⟩ ?_
 clear h hI;rintro⟨fuel2,op2,i1,r6,a21,c37⟩ w14 ⟨c38,hI,h⟩
 dsimp only at hI h ⊢
 rcases fuel2 with _ | fuel2
 ·rw[bU]at h;cases h
 rw[bU]at h
 refine T ?_
 refine al (wJ h et (fun hb h=> ?_) (fun hb h=> ?_))
 ·refine T ?_
  refine bw (α:=Int×aa×(Option Addr)×Nat) (fun _=>⟨43,[]⟩) (fun x=>[(0,vp b1 0),(1,(Value.func (.func 227) #[vp b1 0] #[])),(2,vs a2 signs1.length c2),(3,vs a3 ops1.length c3),(8,vp b2 0),(9,vp b3 0),(10,vi (x.1)),(15,vs a2 signs1.length c2),(16,vi (signs1.length:Int)),(17,vi i1)]) (fun x=>fun w=>∃ C,Bun C0 F w0 C w [MO.box b1 67 (af (x.2.1) (x.2.2.1) (x.2.2.2)),MO.box b2 39 #[vi 0,(str ([]:List UInt8)),vi 0,vi 0,vi 0,vi 0,vi 0,vi 0,vi 0,vi 0,vs none 0 0,vs none 0 0,vs none 0 0],MO.box b3 39 (ap e1 a13 c19 a14 c20 a15 c21)] [Cl.sl cGToken (x.2.2.1) (x.2.2.2) (x.2.1).l,Cl.sl cStr a2 c2 signs1,Cl.sl (cInt .i64) a3 c3 ops1,Cl.sl ah a13 c19 e1.Lin.L,Cl.sl ak a14 c20 e1.Idx,Cl.sl an a15 c21 e1.Args,au]∧fU (bU signs1 ops1 e1 rec_ (bz signs1 ops1 rec_ fuel1) fuel2) i1 (x.1) (x.2.1)=some r) ?_ ?_
  ·clear h hI;rintro⟨op3,r7,a22,c39⟩ w15 ⟨c40,hI,h⟩
   try dsimp only at hI h ⊢
   rw[fU]at h
   refine T ?_
   refine aK ?_
   exact jE (fuel2,op3,aq (i1+1),r7,a22,c39) ⟨rfl,rfl,rfl,rfl,rfl,rfl,rfl,rfl,rfl,rfl,trivial⟩ ⟨_,hI.arr (.c .z (.c .z (.c .z .n))) ⟨.z,(.s .z),(.s (.s .z)),(.s (.s (.s .z))),(.s (.s (.s (.s .z)))),(.s (.s (.s (.s (.s .z))))),(.s (.s (.s (.s (.s (.s .z)))))),trivial⟩,h⟩ (Nat.lt_succ_self _)
  refine T ?_
  obtain⟨e2,hx3,h⟩:=ae h
  obtain⟨ad1,cs1,hA1,hr1,hq1⟩:=hI.clat (.s .z) hx3
  obtain rfl:cs1=[(str e2)]:=hr1
  refine sI ?_
  refine T ?_
  obtain⟨c41,f3,hB,hl3,hk3⟩:=hI.hands (.l (.r (.r .n)))
  obtain⟨⟨r8,s3⟩,hx4,h⟩:=ae h
  try dsimp only at h
  refine pG (fun v_ w_=>v_=(vb r8)∧∃ (a23:Option Addr),∃ (c42:Nat),∃ C_:NP,Bun c41 f3 w14 C_ w_ [MO.box b1 67 (af s3 a23 c42)] [Cl.sl cGToken a23 c42 s3.l]) (aT rfl rfl rfl rfl) rfl (fun hc=>(aI (vs:=[vp b1 0,(str e2)]) rfl zt ⟨(aO et hc),⟨(aO et hc),trivial⟩⟩)) (fun hc=>(aM HS (zF hc hx4)).mono fun e_ w_ hq_=>(let ⟨a23,c42,C_,he_,hB_⟩:=hq_;⟨_,he_,rfl,a23,c42,C_,hB_⟩)) ?_
  intro v_ w16 h1_ h2_
  obtain⟨hv_,a23,c42,c43,hB2⟩:gv (decide (op2=0)) v_=gv (decide (op2=0)) (vb r8)∧∃ (a23:Option Addr),∃ (c42:Nat),∃ C_:NP,Bun c41 f3 w14 C_ w16 [MO.box b1 67 (af s3 a23 c42)] [Cl.sl cGToken a23 c42 s3.l]:=by
   rcases Bool.eq_false_or_eq_true (decide (op2=0))with hc | hc
   ·obtain⟨rfl,hq_⟩:=h1_ hc;exact⟨rfl,hq_⟩
   have e1_:=h2_ hc;subst e1_;obtain⟨rfl,rfl⟩:=zG hc hx4;exact⟨by rw[o8 hc,o8 hc],a21,c37,_,hB.subs ⟨.z,trivial⟩⟩
  rw[hv_];clear h1_ h2_
  refine HN hk3 hB2 fun c44 hI=> ?_
  refine TC (fun hb h=> ?_) fun hb h=> ?_
  ·refine T ?_
   obtain⟨e3,hx5,h⟩:=ae h
   obtain⟨ad2,cs2,hA2,hr2,hq2⟩:=hI.clat (.s (.s (.s .z))) hx5
   obtain rfl:cs2=[vi e3]:=hr2
   refine sI ?_
   refine T ?_
   refine aK ?_
   exact bj (e3,s3,a23,c42) ⟨rfl,rfl,rfl,rfl,rfl,rfl,rfl,rfl,rfl,rfl,trivial⟩ ⟨_,hI.arr (.c .z (.c .z (.c .z .n))) ⟨.z,(.s (.s .z)),(.s (.s (.s .z))),(.s (.s (.s (.s .z)))),(.s (.s (.s (.s (.s .z))))),(.s (.s (.s (.s (.s (.s .z)))))),(.s (.s (.s (.s (.s (.s (.s .z))))))),trivial⟩,h⟩ rfl
  exact bb (bj (op2,s3,a23,c42) ⟨rfl,rfl,rfl,rfl,rfl,rfl,rfl,rfl,rfl,rfl,trivial⟩ ⟨_,hI.arr (.c .z (.c .z (.c .z .n))) ⟨.z,(.s (.s .z)),(.s (.s (.s .z))),(.s (.s (.s (.s .z)))),(.s (.s (.s (.s (.s .z))))),(.s (.s (.s (.s (.s (.s .z)))))),(.s (.s (.s (.s (.s (.s (.s .z))))))),trivial⟩,h⟩ rfl)
 refine bh ?_
 refine eD ?_
 exact bj (op2,r6,a21,c37) ⟨rfl,rfl,rfl,rfl,rfl,rfl,rfl,trivial⟩ ⟨_,hI.arr (.c .z (.c .z (.c .z .n))) ⟨.z,(.s .z),(.s (.s .z)),(.s (.s (.s .z))),(.s (.s (.s (.s .z)))),(.s (.s (.s (.s (.s .z))))),(.s (.s (.s (.s (.s (.s .z)))))),trivial⟩,h⟩ rfl
theorem gz {rec_:(aa→Option (bu (GExpr×aa)))} (hrec:xI rec_) {r1:aa} (hI:Bun C0 F w0 C0 w0 [MO.box b1 67 (af r1 a1 c1)] [Cl.sl cGToken a1 c1 r1.l,au]) {r:bu (GExpr×aa)} (h:d4 rec_ r1=some r):CP C0 F w0 193 #[vp b1 0] r fun rx e w=>∃ a2 c2 a3 c3 a4 c4 a5 c5 C,e= .returned (Value.agg (ap rx.1 a2 c2 a3 c3 a4 c4))∧Bun C0 F w0 C w [MO.box b1 67 (af rx.2 a5 c5)] [Cl.sl ah a2 c2 rx.1.Lin.L,Cl.sl ak a3 c3 rx.1.Idx,Cl.sl an a4 c4 rx.1.Args,Cl.sl cGToken a5 c5 rx.2.l]:=by
 refine fG (l:=[vp b1 0]) Tryz.func193 rfl Tryz.ntmps193 rfl ?_
 rw[d4]at h
 refine sr (cU (cs:=#[vi 0,(str ([]:List UInt8)),vi 0,vi 0,vi 0,vi 0,vi 0,vi 0,vi 0,vi 0,vs none 0 0,vs none 0 0,vs none 0 0]) hI gn rfl rfl dQ rfl ?_)
 intro b2 c6 w1 hI
 refine T ?_
 refine sq (nO (vs:=[vp b1 0]) rfl rfl ⟨et,trivial⟩) ?_
 refine j9 (c:=cStr) (xs:=([([43]:List UInt8),([45]:List UInt8)]:List (List UInt8))) (vs:=[(0,(str ([43]:List UInt8))),(1,(str ([45]:List UInt8)))]) (cs:=#[(str ([43]:List UInt8)),(str ([45]:List UInt8))]) (css:=[[(str ([43]:List UInt8))],[(str ([45]:List UInt8))]]) hI gn rfl rfl xq lM rfl ⟨rfl,aj,⟨rfl,aj,trivial⟩⟩ (by kernel_rfl) ⟨rfl,⟨rfl,trivial⟩⟩ rfl rfl rfl ?_
 intro b3 c7 w2 hI
 refine j9 (c:=(cInt .i64)) (xs:=([4,5]:List Int)) (vs:=[(0,vi 4),(1,vi 5)]) (cs:=#[vi 4,vi 5]) (css:=[[vi 4],[vi 5]]) hI gn rfl rfl CO vK rfl ⟨rfl,aj,⟨rfl,aj,trivial⟩⟩ (by kernel_rfl) ⟨rfl,⟨rfl,trivial⟩⟩ rfl rfl rfl ?_
 intro b4 c8 w3 hI
 obtain⟨c9,hI⟩:=hI.release (.s .z)
 obtain⟨c10,hI⟩:=hI.release .z
 obtain⟨c11,f1,hB,hl1,hk1⟩:=hI.hands (.r (.l .n))
 refine ew h (fun _ hx1=>pg hrec HS hx1) (li hk1) (Rc Tryz.func74) ?_
 rintro⟨r2,s1⟩ hx1 h _ w4 ⟨a6,c12,a7,c13,a8,c14,a9,c15,c16,rfl,hB2⟩
 try dsimp only at h
 refine HN hk1 hB2 fun c17 hI=> ?_
 refine⟨_,rfl,?_⟩
 refine lA fun c18 w5 hI=> ?_
 refine nk (az ?_)
 obtain rfl:=ai h
 refine QG ?_
 exact .inl ⟨_,rfl,a6,c12,a7,c13,a8,c14,a9,c15,_,rfl,hI.arr GO SU⟩
def cD:Tr:=(.c (4,.s) (.c (5,.q) (.c (6,.s) .n)))
theorem ph {rec_:(aa→Option (bu (GExpr×aa)))} (hrec:xI rec_) {r1:aa} {signs1:List (List UInt8)} {ops1:List Int} (hI:Bun C0 F w0 C0 w0 [MO.box b1 67 (af r1 a1 c1)] [Cl.sl cGToken a1 c1 r1.l,Cl.sl cStr a2 c2 signs1,Cl.sl (cInt .i64) a3 c3 ops1,au]) {r:bu (GExpr×aa)} (h:fr rec_ r1 signs1 ops1=some r):CP C0 F w0 74 #[vp b1 0,(Value.func (.func 193) #[vp b1 0] #[]),vs a2 signs1.length c2,vs a3 ops1.length c3] r fun rx e w=>∃ a4 c4 a5 c5 a6 c6 a7 c7 C,e= .returned (Value.agg (ap rx.1 a4 c4 a5 c5 a6 c6))∧Bun C0 F w0 C w [MO.box b1 67 (af rx.2 a7 c7)] [Cl.sl ah a4 c4 rx.1.Lin.L,Cl.sl ak a5 c5 rx.1.Idx,Cl.sl an a6 c6 rx.1.Args,Cl.sl cGToken a7 c7 rx.2.l]:=by
 refine fG (l:=[vp b1 0,(Value.func (.func 193) #[vp b1 0] #[]),vs a2 signs1.length c2,vs a3 ops1.length c3]) Tryz.func74 rfl Tryz.ntmps74 rfl ?_
 rw[fr]at h
 refine sr (cU (cs:=#[vi 0,(str ([]:List UInt8)),vi 0,vi 0,vi 0,vi 0,vi 0,vi 0,vi 0,vi 0,vs none 0 0,vs none 0 0,vs none 0 0]) hI gn rfl rfl dQ rfl ?_)
 intro b2 c8 w1 hI
 refine T ?_
 obtain⟨c9,f1,hB,hl1,hk1⟩:=hI.hands (.r (.l .n))
 refine ew h (fun _ hx1=>gz hrec HS hx1) (li hk1) (gx (fs:=[vp b1 0]) (vs:=[]) (cap:=[]) rfl et vu trivial) ?_
 rintro⟨r2,s1⟩ hx1 h _ w2 ⟨a8,c10,a9,c11,a10,c12,a11,c13,c14,rfl,hB2⟩
 try dsimp only at h
 refine HN hk1 hB2 fun c15 hI=> ?_
 refine⟨_,rfl,?_⟩
 refine lN fun b3 c16 w3 hI=> ?_
 refine lA fun c17 w4 hI=> ?_
 refine T ?_
 refine bc (α:=Nat×aa×GExpr×(Option Addr)×Nat×(Option Addr)×Nat×(Option Addr)×Nat×(Option Addr)×Nat) (fun x=>fun w=>∃ C,Bun C0 F w0 C w [MO.box b1 67 (af (x.2.1) (x.2.2.2.1) (x.2.2.2.2.1)),MO.box b2 39 #[vi 0,(str ([]:List UInt8)),vi 0,vi 0,vi 0,vi 0,vi 0,vi 0,vi 0,vi 0,vs none 0 0,vs none 0 0,vs none 0 0],MO.box b3 39 (ap (x.2.2.1) (x.2.2.2.2.2.1) (x.2.2.2.2.2.2.1) (x.2.2.2.2.2.2.2.1) (x.2.2.2.2.2.2.2.2.1) (x.2.2.2.2.2.2.2.2.2.1) (x.2.2.2.2.2.2.2.2.2.2))] [Cl.sl cGToken (x.2.2.2.1) (x.2.2.2.2.1) (x.2.1).l,Cl.sl ah (x.2.2.2.2.2.1) (x.2.2.2.2.2.2.1) (x.2.2.1).Lin.L,Cl.sl ak (x.2.2.2.2.2.2.2.1) (x.2.2.2.2.2.2.2.2.1) (x.2.2.1).Idx,Cl.sl an (x.2.2.2.2.2.2.2.2.2.1) (x.2.2.2.2.2.2.2.2.2.2) (x.2.2.1).Args,Cl.sl cStr a2 c2 signs1,Cl.sl (cInt .i64) a3 c3 ops1,au]∧bA signs1 ops1 rec_ (x.1) (x.2.1) (x.2.2.1)=some r) (fun x _=>x.1) (fun x=>[(0,vp b1 0),(1,(Value.func (.func 193) #[vp b1 0] #[])),(2,vs a2 signs1.length c2),(3,vs a3 ops1.length c3),(8,vp b2 0),(9,vp b3 0)]) (fu,s1,r2,a11,c13,a8,c10,a9,c11,a10,c12) ⟨_,hI.arr (.c (.s .z) (.c (.s .z) (.c .z .n))) ⟨(.s (.s (.s .z))),.z,(.s .z),(.s (.s .z)),(.s (.s (.s (.s (.s .z))))),(.s (.s (.s (.s (.s (.s .z)))))),(.s (.s (.s (.s (.s (.s (.s .z))))))),trivial⟩,h⟩ ⟨rfl,rfl,rfl,rfl,rfl,rfl,trivial⟩ ?_
 clear h hI;rintro⟨fuel1,r3,e1,a12,c18,a13,c19,a14,c20,a15,c21⟩ w5 ⟨c22,hI,h⟩
 dsimp only at hI h ⊢
 rcases fuel1 with _ | fuel1
 ·rw[bA]at h;cases h
 rw[bA]at h
 refine T ?_
 refine bw (α:=Int×aa×(Option Addr)×Nat) (fun _=>⟨43,[]⟩) (fun x=>[(0,vp b1 0),(1,(Value.func (.func 193) #[vp b1 0] #[])),(2,vs a2 signs1.length c2),(3,vs a3 ops1.length c3),(8,vp b2 0),(9,vp b3 0),(10,vi (x.1))]) (fun x=>fun w=>∃ C,Bun C0 F w0 C w [MO.box b1 67 (af (x.2.1) (x.2.2.1) (x.2.2.2)),MO.box b2 39 #[vi 0,(str ([]:List UInt8)),vi 0,vi 0,vi 0,vi 0,vi 0,vi 0,vi 0,vi 0,vs none 0 0,vs none 0 0,vs none 0 0],MO.box b3 39 (ap e1 a13 c19 a14 c20 a15 c21)] [Cl.sl cGToken (x.2.2.1) (x.2.2.2) (x.2.1).l,Cl.sl cStr a2 c2 signs1,Cl.sl (cInt .i64) a3 c3 ops1,Cl.sl ah a13 c19 e1.Lin.L,Cl.sl ak a14 c20 e1.Idx,Cl.sl an a15 c21 e1.Args,au]∧iy e1 rec_ (bA signs1 ops1 rec_ fuel1) (x.1) (x.2.1)=some r) ?_ ?_
 ·clear h hI;rintro⟨op1,r4,a16,c23⟩ w6 ⟨c24,hI,h⟩
  try dsimp only at hI h ⊢
  rw[iy]at h
  refine al (T ?_)
  refine TC (fun hb h=> ?_) fun hb h=> ?_
  ·refine T ?_
   refine lA fun c25 w7 hI=> ?_
   refine nk (az ?_)
   obtain rfl:=ai h
   exact eG (vs:=[(Value.agg (ap e1 a13 c19 a14 c20 a15 c21))]) Tryz.results74 ⟨⟨_,aH rfl rfl,cg (l:=(aU e1 a13 c19 a14 c20 a15 c21)) jy rfl aC (CellsAt.of_blk (hI.blk (.s .z)) rfl)⟩,trivial⟩ (.inl ⟨_,rfl,a13,c19,a14,c20,a15,c21,a16,c23,_,rfl,hI.arr (.c .z .n) ⟨(.s (.s (.s .z))),(.s (.s (.s (.s .z)))),(.s (.s (.s (.s (.s .z))))),.z,trivial⟩⟩)
  refine T ?_
  rcases ir h with⟨⟨r5,s2⟩,hx2,h⟩ | ⟨pa_,pn_,hx2,hp_⟩
  rotate_left
  ·subst hp_
   refine aD [3,6] false (.c (0,.q) (.c (2,.q) (.two 1 (.c (3,.s) cD) 3 (.c (1,.s) cD)))) hI (by kernel_rfl) (by kernel_rfl) ?_
   intro w12 hI
   refine V ?_
   refine cK ?_ ?_
   ·skip
    refine be rfl gn rfl (am (l:=(aU e1 a13 c19 a14 c20 a15 c21)) rfl et jy rfl aC (CellsAt.of_blk (hI.blk (.s (.s .z))) rfl)) SX.self ?_
    refine bH (F:=F) (C:=c24) rfl rfl ?_
    obtain⟨c26,f2,hB,hl2,hk2⟩:=hI.hands (.l (.r (.r .n)))
    refine fa rfl gn rfl (gx (fs:=[vp b1 0]) (vs:=[]) (cap:=[]) rfl et vu trivial) (Calls.mono (gz hrec HS hx2) ?_)
    intro e_ w_ hq_;obtain⟨rfl,C_,hB_⟩:=eI hq_;obtain⟨C9_,-,hI_⟩:=hk2 _ _ _ _ hB_;exact .inr ⟨_,rfl,ip (.inr ⟨_,_,rfl,rfl,⟨_,hI_.arr .n trivial⟩⟩)⟩
   refine bo (F:=F) (C:=c24) rfl rfl ?_
   obtain⟨c26,f2,hB,hl2,hk2⟩:=hI.hands (.l (.r (.r .n)))
   refine fa rfl gn rfl (gx (fs:=[vp b1 0]) (vs:=[]) (cap:=[]) rfl et vu trivial) (Calls.mono (gz hrec HS hx2) ?_)
   intro e_ w_ hq_;obtain⟨rfl,C_,hB_⟩:=eI hq_;obtain⟨C9_,-,hI_⟩:=hk2 _ _ _ _ hB_;exact .inr ⟨_,rfl,ip (.inr ⟨_,_,rfl,rfl,⟨_,hI_.arr .n trivial⟩⟩)⟩
  try dsimp only at h
  refine aD [3,6] false (.c (0,.q) (.c (2,.q) (.two 1 (.c (3,.s) cD) 3 (.c (1,.s) cD)))) hI (by kernel_rfl) (by kernel_rfl) ?_
  intro w13 hI
  refine bP (α:=(Option Addr)×Nat×(Option Addr)×Nat×(Option Addr)×Nat×(Option Addr)×Nat×NP) (T:=cD) (fun x=>[(0,vp b1 0),(1,(Value.func (.func 193) #[vp b1 0] #[])),(2,vs a2 signs1.length c2),(3,vs a3 ops1.length c3),(8,vp b2 0),(9,vp b3 0),(10,vi op1),(34,vi op1),(35,(vb (decide (op1=0)))),(37,vi op1),(38,(Value.agg (ap e1 a13 c19 a14 c20 a15 c21))),(39,(Value.func (.func 193) #[vp b1 0] #[])),(40,(Value.agg (ap r5 (x.1) (x.2.1) (x.2.2.1) (x.2.2.2.1) (x.2.2.2.2.1) (x.2.2.2.2.2.1))))]) (fun x w=>Bun C0 F w0 (x.2.2.2.2.2.2.2.2) w [MO.box b1 67 (af s2 (x.2.2.2.2.2.2.1) (x.2.2.2.2.2.2.2.1)),MO.box b2 39 #[vi 0,(str ([]:List UInt8)),vi 0,vi 0,vi 0,vi 0,vi 0,vi 0,vi 0,vi 0,vs none 0 0,vs none 0 0,vs none 0 0],MO.box b3 39 (ap e1 a13 c19 a14 c20 a15 c21)] [Cl.sl ah (x.1) (x.2.1) r5.Lin.L,Cl.sl ak (x.2.2.1) (x.2.2.2.1) r5.Idx,Cl.sl an (x.2.2.2.2.1) (x.2.2.2.2.2.1) r5.Args,Cl.sl cGToken (x.2.2.2.2.2.2.1) (x.2.2.2.2.2.2.2.1) s2.l,Cl.sl cGToken a16 c23 r4.l,Cl.sl cStr a2 c2 signs1,Cl.sl (cInt .i64) a3 c3 ops1,Cl.sl ah a13 c19 e1.Lin.L,Cl.sl ak a14 c20 e1.Idx,Cl.sl an a15 c21 e1.Args,au]) (fun x w=>SN [] (DM true F (x.2.2.2.2.2.2.2.2)) w) ?_ ?_
  ·clear hI;rintro⟨a17,c27,a18,c28,a19,c29,a20,c30,c35⟩ w11 hI
   try dsimp only at hI ⊢
   unfold cD
   refine vl hI an ([e1,r5]:List GExpr) iY (.cs (dF ⟨a13,c19,a14,c20,a15,c21,rfl,hI.get (.s (.s (.s (.s (.s (.s (.s .z))))))),hI.get (.s (.s (.s (.s (.s (.s (.s (.s .z)))))))),hI.get (.s (.s (.s (.s (.s (.s (.s (.s (.s .z)))))))))⟩) (.cs (dF ⟨a17,c27,a18,c28,a19,c29,rfl,hI.get .z,hI.get (.s .z),hI.get (.s (.s .z))⟩) .nl)) fun b4 c33 w9 hI=> ?_
   refine kW rfl gn rfl (fun w'=>(aw (vs:=[(0,vi op1),(6,vs (some ⟨b4,0,none⟩) ([e1,r5]:List GExpr).length 2)]) (cs:=#[vi op1,(str ([]:List UInt8)),vi 0,vi 0,vi 0,vi 0,vi 0,vi 0,vi 0,vi 0,vs none 0 0,vs none 0 0,vs (some ⟨b4,0,none⟩) ([e1,r5]:List GExpr).length 2]) rfl ⟨rfl,et,⟨rfl,et,trivial⟩⟩ (by kernel_rfl))) ?_
   refine vA fun c34 w10 hI=> ?_
   refine nj ?_
   have hI:=hI.add (c:=Cl.sl ah none 0 ([]:List GMono)) SlC.nil
   have hI:=hI.add (c:=Cl.sl ak none 0 ([]:List GIndex)) SlC.nil
   obtain⟨c36,hI⟩:=hI.release .z
   exact jE (fuel1,s2,(⟨op1,([]:List UInt8),(⟨0,0⟩:GVal),(⟨0,0,0,0,0⟩:GType),(⟨0,([]:List GMono)⟩:GLin),([]:List GIndex),([e1,r5]:List GExpr)⟩:GExpr),a20,c30,none,0,none,0,some ⟨b4,0,none⟩,2) ⟨rfl,rfl,rfl,rfl,rfl,rfl,trivial⟩ ⟨_,hI.arr (.c .z (.c .z (.c .z .n))) ⟨(.s (.s (.s (.s (.s (.s .z)))))),(.s (.s .z)),(.s .z),.z,(.s (.s (.s (.s (.s (.s (.s (.s .z)))))))),(.s (.s (.s (.s (.s (.s (.s (.s (.s .z))))))))),(.s (.s (.s (.s (.s (.s (.s (.s (.s (.s (.s (.s (.s .z))))))))))))),trivial⟩,h⟩ (Nat.lt_succ_self _)
  intro hk_tr_parser_reader_chain_w3_3_0
  refine V ?_
  refine cK ?_ ?_
  ·skip
   refine be rfl gn rfl (am (l:=(aU e1 a13 c19 a14 c20 a15 c21)) rfl et jy rfl aC (CellsAt.of_blk (hI.blk (.s (.s .z))) rfl)) SX.self ?_
   refine bH (F:=F) (C:=c24) rfl rfl ?_
   obtain⟨c26,f2,hB,hl2,hk2⟩:=hI.hands (.l (.r (.r .n)))
   refine eZ rfl gn rfl (gx (fs:=[vp b1 0]) (vs:=[]) (cap:=[]) rfl et vu trivial) (Calls.mono (gz hrec HS hx2) ?_)
   intro e_ w8 hq_;obtain⟨a17,c27,a18,c28,a19,c29,a20,c30,c31,rfl,hB2⟩:=eH hq_
   obtain⟨c32,hs2,hI⟩:=hk2 _ _ _ _ hB2
   dsimp only[ca,na]at hI
   refine⟨_,rfl,DM true F c32,hs2,?_⟩
   exact aQ (hk_tr_parser_reader_chain_w3_3_0 (a17,c27,a18,c28,a19,c29,a20,c30,c32) _ (hI.arr (.c .z (.c .z (.c .z .n))) ⟨.z,(.s .z),(.s (.s .z)),(.s (.s (.s .z))),(.s (.s (.s (.s .z)))),(.s (.s (.s (.s (.s .z))))),(.s (.s (.s (.s (.s (.s .z)))))),(.s (.s (.s (.s (.s (.s (.s .z))))))),(.s (.s (.s (.s (.s (.s (.s (.s .z)))))))),(.s (.s (.s (.s (.s (.s (.s (.s (.s .z))))))))),(.s (.s (.s (.s (.s (.s (.s (.s (.s (.s .z)))))))))),trivial⟩)) ⟨rfl,rfl,rfl,rfl,rfl,rfl,rfl,rfl,rfl,rfl,rfl,rfl,rfl,trivial⟩
  refine bo (F:=F) (C:=c24) rfl rfl ?_
  obtain⟨c26,f2,hB,hl2,hk2⟩:=hI.hands (.l (.r (.r .n)))
  refine eZ rfl gn rfl (gx (fs:=[vp b1 0]) (vs:=[]) (cap:=[]) rfl et vu trivial) (Calls.mono (gz hrec HS hx2) ?_)
  intro e_ w8 hq_;obtain⟨a17,c27,a18,c28,a19,c29,a20,c30,c31,rfl,hB2⟩:=eH hq_
  obtain⟨c32,hs2,hI⟩:=hk2 _ _ _ _ hB2
  dsimp only[ca,na]at hI
  refine⟨_,rfl,DM true F c32,hs2,?_⟩
  refine be rfl gn rfl (am (l:=(aU e1 a13 c19 a14 c20 a15 c21)) rfl et jy rfl aC (CellsAt.of_blk (hI.blk (.s (.s .z))) rfl)) SX.self ?_
  exact aQ (hk_tr_parser_reader_chain_w3_3_0 (a17,c27,a18,c28,a19,c29,a20,c30,c32) _ (hI.arr (.c .z (.c .z (.c .z .n))) ⟨.z,(.s .z),(.s (.s .z)),(.s (.s (.s .z))),(.s (.s (.s (.s .z)))),(.s (.s (.s (.s (.s .z))))),(.s (.s (.s (.s (.s (.s .z)))))),(.s (.s (.s (.s (.s (.s (.s .z))))))),(.s (.s (.s (.s (.s (.s (.s (.s .z)))))))),(.s (.s (.s (.s (.s (.s (.s (.s (.s .z))))))))),(.s (.s (.s (.s (.s (.s (.s (.s (.s (.s .z)))))))))),trivial⟩)) ⟨rfl,rfl,rfl,rfl,rfl,rfl,rfl,rfl,rfl,rfl,rfl,rfl,rfl,trivial⟩
 refine T ?_
 refine bc (α:=Nat×Int×Int×aa×(Option Addr)×Nat) (fun x=>fun w=>∃ C,Bun C0 F w0 C w [MO.box b1 67 (af (x.2.2.2.1) (x.2.2.2.2.1) (x.2.2.2.2.2)),MO.box b2 39 #[vi 0,(str ([]:List UInt8)),vi 0,vi 0,vi 0,vi 0,vi 0,vi 0,vi 0,vi 0,vs none 0 0,vs none 0 0,vs none 0 0],MO.box b3 39 (ap e1 a13 c19 a14 c20 a15 c21)] [Cl.sl cGToken (x.2.2.2.2.1) (x.2.2.2.2.2) (x.2.2.2.1).l,Cl.sl cStr a2 c2 signs1,Cl.sl (cInt .i64) a3 c3 ops1,Cl.sl ah a13 c19 e1.Lin.L,Cl.sl ak a14 c20 e1.Idx,Cl.sl an a15 c21 e1.Args,au]∧bV signs1 ops1 e1 rec_ (bA signs1 ops1 rec_ fuel1) (x.1) (x.2.1) (x.2.2.1) (x.2.2.2.1)=some r) (fun x _=>x.1) (fun x=>[(0,vp b1 0),(1,(Value.func (.func 193) #[vp b1 0] #[])),(2,vs a2 signs1.length c2),(3,vs a3 ops1.length c3),(8,vp b2 0),(9,vp b3 0),(10,vi (x.2.1)),(15,vs a2 signs1.length c2),(16,vi (signs1.length:Int)),(17,vi (x.2.2.1))]) (fu,0,0,r3,a12,c18) ⟨_,hI.arr (.c .z (.c .z (.c .z .n))) ⟨.z,(.s (.s (.s (.s .z)))),(.s (.s (.s (.s (.s .z))))),(.s .z),(.s (.s .z)),(.s (.s (.s .z))),(.s (.s (.s (.s (.s (.s .z)))))),trivial⟩,h⟩ ⟨rfl,rfl,rfl,rfl,rfl,rfl,rfl,rfl,rfl,rfl,trivial⟩ ?_
 clear h hI;rintro⟨fuel2,op2,i1,r6,a21,c37⟩ w14 ⟨c38,hI,h⟩
 dsimp only at hI h ⊢
 rcases fuel2 with _ | fuel2
 ·rw[bV]at h;cases h
 rw[bV]at h
 refine T ?_
 refine al (wJ h et (fun hb h=> ?_) (fun hb h=> ?_))
 ·refine T ?_
  refine bw (α:=Int×aa×(Option Addr)×Nat) (fun _=>⟨43,[]⟩) (fun x=>[(0,vp b1 0),(1,(Value.func (.func 193) #[vp b1 0] #[])),(2,vs a2 signs1.length c2),(3,vs a3 ops1.length c3),(8,vp b2 0),(9,vp b3 0),(10,vi (x.1)),(15,vs a2 signs1.length c2),(16,vi (signs1.length:Int)),(17,vi i1)]) (fun x=>fun w=>∃ C,Bun C0 F w0 C w [MO.box b1 67 (af (x.2.1) (x.2.2.1) (x.2.2.2)),MO.box b2 39 #[vi 0,(str ([]:List UInt8)),vi 0,vi 0,vi 0,vi 0,vi 0,vi 0,vi 0,vi 0,vs none 0 0,vs none 0 0,vs none 0 0],MO.box b3 39 (ap e1 a13 c19 a14 c20 a15 c21)] [Cl.sl cGToken (x.2.2.1) (x.2.2.2) (x.2.1).l,Cl.sl cStr a2 c2 signs1,Cl.sl (cInt .i64) a3 c3 ops1,Cl.sl ah a13 c19 e1.Lin.L,Cl.sl ak a14 c20 e1.Idx,Cl.sl an a15 c21 e1.Args,au]∧fV (bV signs1 ops1 e1 rec_ (bA signs1 ops1 rec_ fuel1) fuel2) i1 (x.1) (x.2.1)=some r) ?_ ?_
  ·clear h hI;rintro⟨op3,r7,a22,c39⟩ w15 ⟨c40,hI,h⟩
   try dsimp only at hI h ⊢
   rw[fV]at h
   refine T ?_
   refine aK ?_
   exact jE (fuel2,op3,aq (i1+1),r7,a22,c39) ⟨rfl,rfl,rfl,rfl,rfl,rfl,rfl,rfl,rfl,rfl,trivial⟩ ⟨_,hI.arr (.c .z (.c .z (.c .z .n))) ⟨.z,(.s .z),(.s (.s .z)),(.s (.s (.s .z))),(.s (.s (.s (.s .z)))),(.s (.s (.s (.s (.s .z))))),(.s (.s (.s (.s (.s (.s .z)))))),trivial⟩,h⟩ (Nat.lt_succ_self _)
  refine T ?_
  obtain⟨e2,hx3,h⟩:=ae h
  obtain⟨ad1,cs1,hA1,hr1,hq1⟩:=hI.clat (.s .z) hx3
  obtain rfl:cs1=[(str e2)]:=hr1
  refine sI ?_
  refine T ?_
  obtain⟨c41,f3,hB,hl3,hk3⟩:=hI.hands (.l (.r (.r .n)))
  obtain⟨⟨r8,s3⟩,hx4,h⟩:=ae h
  try dsimp only at h
  refine pG (fun v_ w_=>v_=(vb r8)∧∃ (a23:Option Addr),∃ (c42:Nat),∃ C_:NP,Bun c41 f3 w14 C_ w_ [MO.box b1 67 (af s3 a23 c42)] [Cl.sl cGToken a23 c42 s3.l]) (aT rfl rfl rfl rfl) rfl (fun hc=>(aI (vs:=[vp b1 0,(str e2)]) rfl zt ⟨(aO et hc),⟨(aO et hc),trivial⟩⟩)) (fun hc=>(aM HS (zF hc hx4)).mono fun e_ w_ hq_=>(let ⟨a23,c42,C_,he_,hB_⟩:=hq_;⟨_,he_,rfl,a23,c42,C_,hB_⟩)) ?_
  intro v_ w16 h1_ h2_
  obtain⟨hv_,a23,c42,c43,hB2⟩:gv (decide (op2=0)) v_=gv (decide (op2=0)) (vb r8)∧∃ (a23:Option Addr),∃ (c42:Nat),∃ C_:NP,Bun c41 f3 w14 C_ w16 [MO.box b1 67 (af s3 a23 c42)] [Cl.sl cGToken a23 c42 s3.l]:=by
   rcases Bool.eq_false_or_eq_true (decide (op2=0))with hc | hc
   ·obtain⟨rfl,hq_⟩:=h1_ hc;exact⟨rfl,hq_⟩
   have e1_:=h2_ hc;subst e1_;obtain⟨rfl,rfl⟩:=zG hc hx4;exact⟨by rw[o8 hc,o8 hc],a21,c37,_,hB.subs ⟨.z,trivial⟩⟩
  rw[hv_];clear h1_ h2_
  refine HN hk3 hB2 fun c44 hI=> ?_
  refine TC (fun hb h=> ?_) fun hb h=> ?_
  ·refine T ?_
   obtain⟨e3,hx5,h⟩:=ae h
   obtain⟨ad2,cs2,hA2,hr2,hq2⟩:=hI.clat (.s (.s (.s .z))) hx5
   obtain rfl:cs2=[vi e3]:=hr2
   refine sI ?_
   refine T ?_
   refine aK ?_
   exact bj (e3,s3,a23,c42) ⟨rfl,rfl,rfl,rfl,rfl,rfl,rfl,rfl,rfl,rfl,trivial⟩ ⟨_,hI.arr (.c .z (.c .z (.c .z .n))) ⟨.z,(.s (.s .z)),(.s (.s (.s .z))),(.s (.s (.s (.s .z)))),(.s (.s (.s (.s (.s .z))))),(.s (.s (.s (.s (.s (.s .z)))))),(.s (.s (.s (.s (.s (.s (.s .z))))))),trivial⟩,h⟩ rfl
  exact bb (bj (op2,s3,a23,c42) ⟨rfl,rfl,rfl,rfl,rfl,rfl,rfl,rfl,rfl,rfl,trivial⟩ ⟨_,hI.arr (.c .z (.c .z (.c .z .n))) ⟨.z,(.s (.s .z)),(.s (.s (.s .z))),(.s (.s (.s (.s .z)))),(.s (.s (.s (.s (.s .z))))),(.s (.s (.s (.s (.s (.s .z)))))),(.s (.s (.s (.s (.s (.s (.s .z))))))),trivial⟩,h⟩ rfl)
 refine bh ?_
 refine eD ?_
 exact bj (op2,r6,a21,c37) ⟨rfl,rfl,rfl,rfl,rfl,rfl,rfl,trivial⟩ ⟨_,hI.arr (.c .z (.c .z (.c .z .n))) ⟨.z,(.s .z),(.s (.s .z)),(.s (.s (.s .z))),(.s (.s (.s (.s .z)))),(.s (.s (.s (.s (.s .z))))),(.s (.s (.s (.s (.s (.s .z)))))),trivial⟩,h⟩ rfl
abbrev Qs6 (f_:(aa→Option (bu (GExpr×aa)))):Prop:=∀ ⦃C0 F:NP⦄ ⦃w0:World⦄ ⦃r1:aa⦄ ⦃b1 c1:Nat⦄ ⦃a1:Option Addr⦄ (hI:Bun C0 F w0 C0 w0 [MO.box b1 67 (af r1 a1 c1)] [Cl.sl cGToken a1 c1 r1.l,au]) ⦃r:bu (GExpr×aa)⦄ (h:f_ r1=some r),CP C0 F w0 140 #[vp b1 0] r fun rx e w=>∃ a2 c2 a3 c3 a4 c4 a5 c5 C,e= .returned (Value.agg (ap rx.1 a2 c2 a3 c3 a4 c4))∧Bun C0 F w0 C w [MO.box b1 67 (af rx.2 a5 c5)] [Cl.sl ah a2 c2 rx.1.Lin.L,Cl.sl ak a3 c3 rx.1.Idx,Cl.sl an a4 c4 rx.1.Args,Cl.sl cGToken a5 c5 rx.2.l]
theorem px {rec_:(aa→Option (bu (GExpr×aa)))} (hrec:xI rec_) {recs_:(aa→Option (bu (GExpr×aa)))} (hrecs_:Qs6 recs_) {r1:aa} (hI:Bun C0 F w0 C0 w0 [MO.box b1 67 (af r1 a1 c1)] [Cl.sl cGToken a1 c1 r1.l,au]) {r:bu (GExpr×aa)} (h:fK rec_ recs_ r1=some r):CP C0 F w0 140 #[vp b1 0] r fun rx e w=>∃ a2 c2 a3 c3 a4 c4 a5 c5 C,e= .returned (Value.agg (ap rx.1 a2 c2 a3 c3 a4 c4))∧Bun C0 F w0 C w [MO.box b1 67 (af rx.2 a5 c5)] [Cl.sl ah a2 c2 rx.1.Lin.L,Cl.sl ak a3 c3 rx.1.Idx,Cl.sl an a4 c4 rx.1.Args,Cl.sl cGToken a5 c5 rx.2.l]:=by
 refine fG (l:=[vp b1 0]) Tryz.func140 rfl Tryz.ntmps140 rfl ?_
 rw[fK]at h
 refine sr (cU (cs:=#[vi 0,(str ([]:List UInt8)),vi 0,vi 0,vi 0,vi 0,vi 0,vi 0,vi 0,vi 0,vs none 0 0,vs none 0 0,vs none 0 0]) hI gn rfl rfl dQ rfl ?_)
 intro b2 c6 w1 hI
 refine nk (al (T ?_))
 refine sB h (fun _ k=>dL NE ⟨(hI.get0 .z),hI.lendBox (.s .z),trivial⟩ k) (Rc Tryz.func121) fun r2 w2 h hI=> ?_
 refine TC (fun hb h=> ?_) fun hb h=> ?_
 ·refine T ?_
  refine sq (nO (vs:=[vp b1 0]) rfl rfl ⟨et,trivial⟩) ?_
  refine j9 (c:=cStr) (xs:=([([60]:List UInt8),([60,61]:List UInt8),([61,61]:List UInt8)]:List (List UInt8))) (vs:=[(0,(str ([60]:List UInt8))),(1,(str ([60,61]:List UInt8))),(2,(str ([61,61]:List UInt8)))]) (cs:=#[(str ([60]:List UInt8)),(str ([60,61]:List UInt8)),(str ([61,61]:List UInt8))]) (css:=[[(str ([60]:List UInt8))],[(str ([60,61]:List UInt8))],[(str ([61,61]:List UInt8))]]) hI gn rfl rfl xq lM rfl ⟨rfl,aj,⟨rfl,aj,⟨rfl,aj,trivial⟩⟩⟩ (by kernel_rfl) ⟨rfl,⟨rfl,⟨rfl,trivial⟩⟩⟩ rfl rfl rfl ?_
  intro b3 c7 w3 hI
  refine j9 (c:=(cInt .i64)) (xs:=([13,14,15]:List Int)) (vs:=[(0,vi 13),(1,vi 14),(2,vi 15)]) (cs:=#[vi 13,vi 14,vi 15]) (css:=[[vi 13],[vi 14],[vi 15]]) hI gn rfl rfl CO vK rfl ⟨rfl,aj,⟨rfl,aj,⟨rfl,aj,trivial⟩⟩⟩ (by kernel_rfl) ⟨rfl,⟨rfl,⟨rfl,trivial⟩⟩⟩ rfl rfl rfl ?_
  intro b4 c8 w4 hI
  obtain⟨c9,hI⟩:=hI.release (.s .z)
  obtain⟨c10,hI⟩:=hI.release .z
  obtain⟨c11,f1,hB,hl2,hk1⟩:=hI.hands (.r (.l .n))
  refine ew h (fun _ hx3=>ph hrec HS hx3) (li hk1) (Rc Tryz.func74) ?_
  rintro⟨r3,s1⟩ hx3 h _ w5 ⟨a6,c12,a7,c13,a8,c14,a9,c15,c16,rfl,hB2⟩
  try dsimp only at h
  refine HN hk1 hB2 fun c17 hI=> ?_
  refine⟨_,rfl,?_⟩
  refine lA fun c18 w6 hI=> ?_
  refine nk (az ?_)
  obtain rfl:=ai h
  refine QG ?_
  exact .inl ⟨_,rfl,a6,c12,a7,c13,a8,c14,a9,c15,_,rfl,hI.arr GO SU⟩
 refine T ?_
 obtain⟨c19,f2,hB,hl3,hk2⟩:=hI.hands (.r (.l .n))
 refine ew h (fun _ hx4=>hV HS hx4) (li hk2) (Rc Tryz.func194) ?_
 rintro⟨r4,s2⟩ hx4 h _ w7 ⟨a10,c20,c21,rfl,hB2⟩
 try dsimp only at h
 refine HN hk2 hB2 fun c22 hI=> ?_
 refine⟨_,rfl,?_⟩
 refine T ?_
 obtain⟨c23,f3,hB,hl4,hk3⟩:=hI.hands (.l (.r .n))
 refine ew h (fun _ hx5=>hrecs_ HS hx5) (li hk3) (Rc Tryz.func140) ?_
 rintro⟨r5,s3⟩ hx5 h _ w8 ⟨a11,c24,a12,c25,a13,c26,a14,c27,c28,rfl,hB2⟩
 try dsimp only at h
 refine HN hk3 hB2 fun c29 hI=> ?_
 refine⟨_,rfl,?_⟩
 refine j9 (c:=an) (xs:=([r5]:List GExpr)) (vs:=[(0,(Value.agg (ap r5 a11 c24 a12 c25 a13 c26)))]) (cs:=(ap r5 a11 c24 a12 c25 a13 c26)) (css:=[(aU r5 a11 c24 a12 c25 a13 c26)]) hI gn rfl rfl FE iY rfl ⟨rfl,et,trivial⟩ (by kernel_rfl) ⟨(dF ⟨a11,c24,a12,c25,a13,c26,rfl,hI.get .z,hI.get (.s .z),hI.get (.s (.s .z))⟩),trivial⟩ rfl rfl rfl ?_
 intro b5 c30 w9 hI
 refine sq (aw (vs:=[(0,vi 18),(6,vs (some ⟨b5,0,none⟩) ([r5]:List GExpr).length 1)]) (cs:=#[vi 18,(str ([]:List UInt8)),vi 0,vi 0,vi 0,vi 0,vi 0,vi 0,vi 0,vi 0,vs none 0 0,vs none 0 0,vs (some ⟨b5,0,none⟩) ([r5]:List GExpr).length 1]) rfl ⟨rfl,aj,⟨rfl,et,trivial⟩⟩ (by kernel_rfl)) ?_
 refine lN fun b6 c31 w10 hI=> ?_
 refine lA fun c32 w11 hI=> ?_
 refine T ?_
 refine lS fun c33 w12 hI=> ?_
 refine T ?_
 refine lA fun c34 w13 hI=> ?_
 refine nk (az ?_)
 obtain⟨c35,hI⟩:=hI.release (.s .z)
 have hI:=hI.add (c:=Cl.sl ah none 0 ([]:List GMono)) SlC.nil
 have hI:=hI.add (c:=Cl.sl ak none 0 ([]:List GIndex)) SlC.nil
 obtain rfl:=ai h
 refine QG ?_
 exact .inl ⟨_,rfl,none,0,none,0,some ⟨b5,0,none⟩,1,a14,c27,_,rfl,hI.arr GO SU⟩
theorem pv {rec_:(aa→Option (bu (GExpr×aa)))} (hrec:xI rec_) (n:Nat):Qs6 (cj rec_ n):=by
 induction n with
 | zero=>intro F;intros;rename_i h;cases h
 | succ n ih=>intro F;intros;apply px hrec ih<;>assumption
theorem gA {rec_:(aa→Option (bu (GExpr×aa)))} (hrec:xI rec_):Qs6 (iX rec_):=pv hrec fu
end Go.Proofs.YtmhoikfoogemnaaGreatDoor
