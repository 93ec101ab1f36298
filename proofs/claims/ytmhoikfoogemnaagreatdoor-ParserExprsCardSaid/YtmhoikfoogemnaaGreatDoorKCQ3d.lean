import Derived.Test.YtmhoikfoogemnaaGreatDoorKCQ3c
import Derived.Test.YtmhoikfoogemnaaGreatDoorKLfJ
namespace Go.Proofs.YtmhoikfoogemnaaGreatDoor
open Go Go.RowKit Go.Vc
set_option maxRecDepth 100000
set_option maxHeartbeats 4000000
set_option linter.unusedVariables false
set_option linter.unusedSimpArgs false
variable {σ:Type} {C0 F:NP} {w0:World} {a1 a2 a3 a4 a5 a6 a7 a8 a9 a10 a11 a12:Option Addr} {b1 b2 b3 b4 b5 b6 b7 b8 b9 b10 b11 b12 c1 c2 c3 c4 c5 c6 c7 c8 c9 c10 c11 c12:Nat}
theorem gg {r1:aa} (hI:Bun C0 F w0 C0 w0 [MO.box b1 67 (af r1 a1 c1)] [Cl.sl ag a1 c1 r1.l,av]) {r:bz (GIndex×aa)} (h:cK r1=some r):CP C0 F w0 258 #[vp b1 0] r fun rx e w=>∃ a2 c2 a3 c3 a4 c4 C,e= .returned (Value.agg (mO rx.1 a2 c2 a3 c3))∧Bun C0 F w0 C w [MO.box b1 67 (af rx.2 a4 c4)] [Cl.sl ai a2 c2 rx.1.Lin.L,Cl.sl fS a3 c3 rx.1.At,Cl.sl ag a4 c4 rx.2.l]:=by
 refine fU (l:=[vp b1 0]) Tryz.func258 rfl Tryz.ntmps258 rfl ?_
 rw[cK]at h
 refine sr (cF (cs:=#[vi 0,vs none 0 0,(aE ([]:List UInt8)),vs none 0 0]) hI gn rfl rfl Df rfl ?_)
 intro b2 c5 w1 hI
 refine nk (al (aI [] false (.c (0,.q) (.c (1,.s) (.c (2,.q) (.c (3,.q) (.c (4,.q) (.c (5,.q) (.c (6,.q) (.c (7,.q) (.c (8,.q) (.c (9,.q) (.c (10,.q) (.c (11,.q) (.c (12,.q) (.c (13,.q) (.c (14,.q) (.c (15,.q) (.c (16,.q) (.c (17,.q) (.c (18,.q) (.c (19,.q) (.c (20,.q) (.c (21,.q) (.c (22,.q) (.c (23,.q) (.c (24,.q) (.c (25,.q) (.c (26,.q) (.c (27,.q) (.c (28,.q) (.c (29,.q) (.c (30,.q) (.c (31,.q) (.c (32,.q) (.c (33,.q) (.c (34,.q) (.c (35,.q) (.c (36,.q) (.c (37,.q) (.c (38,.q) (.c (39,.q) (.c (40,.q) (.c (41,.q) (.c (42,.q) (.c (43,.q) (.c (44,.q) (.c (45,.q) .n)))))))))))))))))))))))))))))))))))))))))))))) hI (by kernel_rfl) (by kernel_rfl) ?_))
 intro w2 hI
 refine V ?_
 obtain⟨r2,hx1,h⟩:=ae h
 refine dC rfl gn rfl (aF (vs:=[vp b1 0]) rfl G9 ⟨et,trivial⟩) (Calls.mono (kR NE ⟨(hI.get0 .z),hI.lendBox (.s .z),hI.get0 (.s .z),trivial⟩ hx1) ?_)
 rintro _ w3 ⟨rfl,hx2,hl1⟩
 refine⟨_,rfl,hx2,?_⟩
 replace hI:=(hI.ext hx2)
 refine V ?_
 obtain⟨e1,hx3,h⟩:=ae h
 replace hx3:=ay hx3
 obtain⟨ad1,cs1,hq1⟩:=hI.gclat .z hx3
 have hq2:(r2&&(decide (ar (r1.at_+1)<(r1.l.length:Int))))=true→CA (Dj F c5) w3 (ad1.add (Int.toNat (ar (r1.at_+1)) * 3)) (kx e1):=fun hc=>uq (hq1 hc).2.1 (hq1 hc).2.2
 refine vJ ?_
 refine V ?_
 obtain⟨e2,hx4,h⟩:=ae h
 replace hx4:=ay hx4
 obtain⟨ad2,cs2,hq3⟩:=hI.gclat .z hx4
 have hq4:((r2&&(decide (ar (r1.at_+1)<(r1.l.length:Int))))&&(decide (e1.Kind=3)))=true→CA (Dj F c5) w3 (ad2.add (Int.toNat (ar (r1.at_+1)) * 3)) (kx e2):=fun hc=>uq (hq3 hc).2.1 (hq3 hc).2.2
 refine vJ ?_
 refine V ?_
 refine al (T ?_)
 refine TC (fun hb h=> ?_) fun hb h=> ?_
 ·refine T ?_
  obtain⟨c6,f1,hB,hl2,hk1⟩:=hI.hands (.r (.l .n))
  refine eG h (fun _ hx5=>gE HS hx5) (lw hk1) (Rc Tryz.func31) ?_
  rintro⟨r3,s1⟩ hx5 h _ w4 ⟨a5,c7,a6,c8,c9,rfl,hB2⟩
  try dsimp only at h
  refine HN hk1 hB2 fun c10 hI=> ?_
  refine⟨_,rfl,?_⟩
  refine sq (ax (vs:=[(0,(Value.agg (bQ r3 a5 c7)))]) (cs:=#[vi r3.K,vs a5 r3.L.length c7,(aE ([]:List UInt8)),vs none 0 0]) rfl ⟨rfl,et,trivial⟩ (by kernel_rfl)) ?_
  refine lA fun c11 w5 hI=> ?_
  refine nk (aA ?_)
  have hI:=hI.add (c:=Cl.sl fS none 0 ([]:List GLin)) SlC.nil
  obtain rfl:=aj h
  refine QG ?_
  exact .inl ⟨_,rfl,a5,c7,none,0,a6,c8,_,rfl,hI.arr GO SU⟩
 refine T ?_
 obtain⟨c12,f2,hB,hl3,hk2⟩:=hI.hands (.r (.l .n))
 refine eG h (fun _ hx6=>iV HS hx6) (lw hk2) (Rc Tryz.func128) ?_
 rintro⟨r4,s2⟩ hx6 h _ w6 ⟨a7,c13,c14,rfl,hB2⟩
 try dsimp only at h
 refine HN hk2 hB2 fun c15 hI=> ?_
 refine⟨_,rfl,?_⟩
 refine sq (ax (vs:=[(1,(aE r4))]) (cs:=#[vi 0,vs none 0 0,(aE r4),vs none 0 0]) rfl ⟨rfl,et,trivial⟩ (by kernel_rfl)) ?_
 refine lN fun b3 c16 w7 hI=> ?_
 refine lA fun c17 w8 hI=> ?_
 refine T ?_
 obtain⟨c18,f3,hB,hl4,hk3⟩:=hI.hands (.r (.l (.r .n)))
 refine eG h (fun _ hx7=>aR HS hx7) (lw hk3) (Rc Tryz.func104) ?_
 rintro⟨r5,s3⟩ hx7 h _ w9 ⟨a8,c19,c20,rfl,hB2⟩
 try dsimp only at h
 refine HN hk3 hB2 fun c21 hI=> ?_
 refine⟨_,rfl,?_⟩
 refine T ?_
 obtain⟨c22,f4,hB,hl5,hk4⟩:=hI.hands (.l (.r (.r .n)))
 refine eG h (fun _ hx8=>pJ HS hx8) (lw hk4) (Rc Tryz.func175) ?_
 rintro⟨r6,s4⟩ hx8 h _ w10 ⟨a9,c23,a10,c24,c25,rfl,hB2⟩
 try dsimp only at h
 refine HN hk4 hB2 fun c26 hI=> ?_
 refine⟨_,rfl,?_⟩
 refine T ?_
 refine lS fun c27 w11 hI=> ?_
 refine T ?_
 refine lA fun c28 w12 hI=> ?_
 refine nk (aA ?_)
 have hI:=hI.add (c:=Cl.sl ai none 0 ([]:List GMono)) SlC.nil
 obtain rfl:=aj h
 refine QG ?_
 exact .inl ⟨_,rfl,none,0,a9,c23,a10,c24,_,rfl,hI.arr GO SU⟩
def dt:Tr:=(.c (5,.s) (.c (6,.q) (.c (7,.s) .n)))
def cA:Tr:=(.c (4,.s) dt)
theorem o5 {rec_:(aa→Option (bz (GExpr×aa)))} (hrec:x9 rec_) {r1:aa} (hI:Bun C0 F w0 C0 w0 [MO.box b1 67 (af r1 a1 c1)] [Cl.sl ag a1 c1 r1.l,av]) {r:bz (GExpr×aa)} (h:dK rec_ r1=some r):CP C0 F w0 248 #[vp b1 0] r fun rx e w=>∃ a2 c2 a3 c3 a4 c4 a5 c5 C,e= .returned (Value.agg (aq rx.1 a2 c2 a3 c3 a4 c4))∧Bun C0 F w0 C w [MO.box b1 67 (af rx.2 a5 c5)] [Cl.sl ai a2 c2 rx.1.Lin.L,Cl.sl ak a3 c3 rx.1.Idx,Cl.sl an a4 c4 rx.1.Args,Cl.sl ag a5 c5 rx.2.l]:=by
 refine fU (l:=[vp b1 0]) Tryz.func248 rfl Tryz.ntmps248 rfl ?_
 rw[dK]at h
 refine sr (cF (cs:=#[vi 0,(aE ([]:List UInt8)),vi 0,vi 0,vi 0,vi 0,vi 0,vi 0,vi 0,vi 0,vs none 0 0,vs none 0 0,vs none 0 0]) hI gn rfl rfl dN rfl ?_)
 intro b2 c6 w1 hI
 refine nk (al (T ?_))
 refine sB h (fun _ k=>dT NE ⟨(hI.get0 .z),hI.lendBox (.s .z),trivial⟩ k) (Rc Tryz.func121) fun r2 w2 h hI=> ?_
 refine TC (fun hb h=> ?_) fun hb h=> ?_
 ·refine T ?_
  obtain⟨c7,f1,hB,hl2,hk1⟩:=hI.hands (.r (.l .n))
  refine eG h (fun _ hx3=>kQ HS hx3) (lw hk1) (Rc Tryz.func253) ?_
  rintro⟨r3,s1⟩ hx3 h _ w3 ⟨a6,c8,c9,rfl,hB2⟩
  try dsimp only at h
  refine HN hk1 hB2 fun c10 hI=> ?_
  refine⟨_,rfl,?_⟩
  refine T ?_
  obtain⟨c11,f2,hB,hl3,hk2⟩:=hI.hands (.l (.r .n))
  refine eG h (fun _ hx4=>hrec HS hx4) (lw hk2) (Rc Tryz.func34) ?_
  rintro⟨r4,s2⟩ hx4 h _ w4 ⟨a7,c12,a8,c13,a9,c14,a10,c15,c16,rfl,hB2⟩
  try dsimp only at h
  refine HN hk2 hB2 fun c17 hI=> ?_
  refine⟨_,rfl,?_⟩
  refine lN fun b3 c18 w5 hI=> ?_
  refine ba (new:=(aX r4 a7 c12 a8 c13 a9 c14)) (cs':=(aq r4 a7 c12 a8 c13 a9 c14)) hI .z gn rfl rfl et et rfl aC rfl rfl rfl ?_
  intro c19 w6 hI
  refine T ?_
  obtain⟨c20,f3,hB,hl4,hk3⟩:=hI.hands (.r (.l (.r .n)))
  refine eG h (fun _ hx5=>kA HS hx5) (lw hk3) (Rc Tryz.func254) ?_
  rintro⟨r5,s3⟩ hx5 h _ w7 ⟨a11,c21,c22,rfl,hB2⟩
  try dsimp only at h
  refine HN hk3 hB2 fun c23 hI=> ?_
  refine⟨_,rfl,?_⟩
  refine T ?_
  refine ba (new:=(aX r4 a7 c12 a8 c13 a9 c14)) (cs':=(aq r4 a7 c12 a8 c13 a9 c14)) hI (.s (.s .z)) gn rfl rfl et et rfl aC rfl rfl rfl ?_
  intro c24 w8 hI
  refine nk (aA ?_)
  obtain rfl:=aj h
  refine QG ?_
  exact .inl ⟨_,rfl,a7,c12,a8,c13,a9,c14,a11,c21,_,rfl,hI.arr GO SU⟩
 refine T ?_
 obtain⟨c25,f4,hB,hl5,hk4⟩:=hI.hands (.r (.l .n))
 obtain⟨⟨r6,s4⟩,hx6,h⟩:=ae h
 try dsimp only at h
 refine aB gn rfl (Rc Tryz.func68) (Calls.mono (aO HS hx6) ?_)
 rintro _ w9 ⟨a12,c26,c27,rfl,hB2⟩
 refine HN hk4 hB2 fun c28 hI=> ?_
 refine⟨_,rfl,?_⟩
 refine TC (fun hb h=> ?_) fun hb h=> ?_
 ·refine T ?_
  obtain⟨c29,f5,hB,hl6,hk5⟩:=hI.hands (.l (.r .n))
  refine eG h (fun _ hx7=>gE HS hx7) (lw hk5) (Rc Tryz.func31) ?_
  rintro⟨r7,s5⟩ hx7 h _ w10 ⟨a13,c30,a14,c31,c32,rfl,hB2⟩
  try dsimp only at h
  refine HN hk5 hB2 fun c33 hI=> ?_
  refine⟨_,rfl,?_⟩
  refine lN fun b4 c34 w11 hI=> ?_
  refine ba (new:=(gc r7 a13 c30)) (cs':=(bQ r7 a13 c30)) hI .z gn rfl rfl et et rfl bt rfl rfl rfl ?_
  intro c35 w12 hI
  refine T ?_
  obtain⟨c36,f6,hB,hl7,hk6⟩:=hI.hands (.r (.l (.r .n)))
  refine eG h (fun _ hx8=>aR HS hx8) (lw hk6) (Rc Tryz.func104) ?_
  rintro⟨r8,s6⟩ hx8 h _ w13 ⟨a15,c37,c38,rfl,hB2⟩
  try dsimp only at h
  refine HN hk6 hB2 fun c39 hI=> ?_
  refine⟨_,rfl,?_⟩
  refine T ?_
  refine sq (ax (vs:=[(0,vi 2),(4,(Value.agg (bQ r7 a13 c30)))]) (cs:=#[vi 2,(aE ([]:List UInt8)),vi 0,vi 0,vi 0,vi 0,vi 0,vi 0,vi 0,vi r7.K,vs a13 r7.L.length c30,vs none 0 0,vs none 0 0]) rfl ⟨rfl,ao,⟨rfl,et,trivial⟩⟩ (by kernel_rfl)) ?_
  refine ba (new:=[vi 2,(aE ([]:List UInt8)),vi 0,vi 0,vi 0,vi 0,vi 0,vi 0,vi 0,vi r7.K,vs a13 r7.L.length c30,vs none 0 0,vs none 0 0]) (cs':=#[vi 2,(aE ([]:List UInt8)),vi 0,vi 0,vi 0,vi 0,vi 0,vi 0,vi 0,vi r7.K,vs a13 r7.L.length c30,vs none 0 0,vs none 0 0]) hI (.s (.s .z)) gn rfl rfl et et rfl aC rfl rfl rfl ?_
  intro c40 w14 hI
  refine nk (aA ?_)
  have hI:=hI.add (c:=Cl.sl ak none 0 ([]:List GIndex)) SlC.nil
  have hI:=hI.add (c:=Cl.sl an none 0 ([]:List GExpr)) SlC.nil
  obtain rfl:=aj h
  refine QG ?_
  exact .inl ⟨_,rfl,a13,c30,none,0,none,0,a15,c37,_,rfl,hI.arr GO SU⟩
 refine al (T ?_)
 refine sB h (fun _ k=>dT NE ⟨(hI.get0 .z),hI.lendBox .z,trivial⟩ k) (Rc Tryz.func121) fun r9 w15 h hI=> ?_
 refine TC (fun hb h=> ?_) fun hb h=> ?_
 ·have hk7:=hb
  refine T ?_
  refine q8 (b:=r9) et (fun _=> ?_) (fun hb=>absurd (hb.symm.trans hk7) (by simp))
  refine T ?_
  obtain⟨c41,f7,hB,hl9,hk8⟩:=hI.hands (.l (.r .n))
  refine eG h (fun _ hx11=>jn HS hx11) (lw hk8) (Rc Tryz.func255) ?_
  rintro⟨r10,s7⟩ hx11 h _ w16 ⟨a16,c42,a17,c43,a18,c44,a19,c45,c46,rfl,hB2⟩
  try dsimp only at h
  refine HN hk8 hB2 fun c47 hI=> ?_
  refine⟨_,rfl,?_⟩
  refine ba (new:=(aX r10 a16 c42 a17 c43 a18 c44)) (cs':=(aq r10 a16 c42 a17 c43 a18 c44)) hI (.s .z) gn rfl rfl et et rfl aC rfl rfl rfl ?_
  intro c48 w17 hI
  refine nk (aA ?_)
  obtain rfl:=aj h
  refine QG ?_
  exact .inl ⟨_,rfl,a16,c42,a17,c43,a18,c44,a19,c45,_,rfl,hI.arr GO SU⟩
 refine T ?_
 refine sB h (fun _ k=>dT NE ⟨(hI.get0 .z),hI.lendBox .z,trivial⟩ k) (Rc Tryz.func121) fun r11 w18 h hI=> ?_
 refine TC (fun hb h=> ?_) fun hb h=> ?_
 ·have hk9:=hb
  refine T ?_
  refine q8 (b:=r11) et (fun _=> ?_) (fun hb=>absurd (hb.symm.trans hk9) (by simp))
  refine T ?_
  obtain⟨c49,f8,hB,hl11,hk10⟩:=hI.hands (.l (.r .n))
  refine eG h (fun _ hx14=>jn HS hx14) (lw hk10) (Rc Tryz.func255) ?_
  rintro⟨r12,s8⟩ hx14 h _ w19 ⟨a20,c50,a21,c51,a22,c52,a23,c53,c54,rfl,hB2⟩
  try dsimp only at h
  refine HN hk10 hB2 fun c55 hI=> ?_
  refine⟨_,rfl,?_⟩
  refine ba (new:=(aX r12 a20 c50 a21 c51 a22 c52)) (cs':=(aq r12 a20 c50 a21 c51 a22 c52)) hI (.s .z) gn rfl rfl et et rfl aC rfl rfl rfl ?_
  intro c56 w20 hI
  refine nk (aA ?_)
  obtain rfl:=aj h
  refine QG ?_
  exact .inl ⟨_,rfl,a20,c50,a21,c51,a22,c52,a23,c53,_,rfl,hI.arr GO SU⟩
 refine T ?_
 refine sB h (fun _ k=>dT NE ⟨(hI.get0 .z),hI.lendBox .z,trivial⟩ k) (Rc Tryz.func121) fun r13 w21 h hI=> ?_
 refine TC (fun hb h=> ?_) fun hb h=> ?_
 ·refine T ?_
  obtain⟨c57,f9,hB,hl13,hk11⟩:=hI.hands (.l (.r .n))
  refine eG h (fun _ hx17=>jn HS hx17) (lw hk11) (Rc Tryz.func255) ?_
  rintro⟨r14,s9⟩ hx17 h _ w22 ⟨a24,c58,a25,c59,a26,c60,a27,c61,c62,rfl,hB2⟩
  try dsimp only at h
  refine HN hk11 hB2 fun c63 hI=> ?_
  refine⟨_,rfl,?_⟩
  refine ba (new:=(aX r14 a24 c58 a25 c59 a26 c60)) (cs':=(aq r14 a24 c58 a25 c59 a26 c60)) hI (.s .z) gn rfl rfl et et rfl aC rfl rfl rfl ?_
  intro c64 w23 hI
  refine nk (aA ?_)
  obtain rfl:=aj h
  refine QG ?_
  exact .inl ⟨_,rfl,a24,c58,a25,c59,a26,c60,a27,c61,_,rfl,hI.arr GO SU⟩
 refine T ?_
 refine al (T ?_)
 refine ll hI dF ([([109,105,110]:List UInt8),([109,97,120]:List UInt8),([105,102]:List UInt8),([99,97,115,116]:List UInt8)]:List (List UInt8)) lZ Rr fun b5 c65 w24 hI=> ?_
 obtain⟨c66,hI⟩:=hI.release .z
 obtain⟨c67,f10,hB,hl14,hk12⟩:=hI.hands (.l (.r .n))
 obtain⟨⟨r15,s10⟩,hx18,h⟩:=ae h
 try dsimp only at h
 refine aB gn rfl (Rc Tryz.func98) (Calls.mono (iU HS hx18) ?_)
 rintro _ w25 ⟨a28,c68,c69,rfl,hB2⟩
 refine HN hk12 hB2 fun c70 hI=> ?_
 refine⟨_,rfl,?_⟩
 refine TC (fun hb h=> ?_) fun hb h=> ?_
 ·refine T ?_
  obtain⟨c71,f11,hB,hl15,hk13⟩:=hI.hands (.l (.r .n))
  refine eG h (fun _ hx19=>kS hrec HS hx19) (lw hk13) (Rc Tryz.func256) ?_
  rintro⟨r16,s11⟩ hx19 h _ w26 ⟨a29,c72,a30,c73,a31,c74,a32,c75,c76,rfl,hB2⟩
  try dsimp only at h
  refine HN hk13 hB2 fun c77 hI=> ?_
  refine⟨_,rfl,?_⟩
  refine ba (new:=(aX r16 a29 c72 a30 c73 a31 c74)) (cs':=(aq r16 a29 c72 a30 c73 a31 c74)) hI (.s .z) gn rfl rfl et et rfl aC rfl rfl rfl ?_
  intro c78 w27 hI
  refine nk (aA ?_)
  obtain rfl:=aj h
  refine QG ?_
  exact .inl ⟨_,rfl,a29,c72,a30,c73,a31,c74,a32,c75,_,rfl,hI.arr GO SU⟩
 refine TC (fun hb h=> ?_) fun hb h=> ?_
 ·refine T ?_
  obtain⟨c79,f12,hB,hl16,hk14⟩:=hI.hands (.l (.r .n))
  refine eG h (fun _ hx20=>kS hrec HS hx20) (lw hk14) (Rc Tryz.func256) ?_
  rintro⟨r17,s12⟩ hx20 h _ w28 ⟨a33,c80,a34,c81,a35,c82,a36,c83,c84,rfl,hB2⟩
  try dsimp only at h
  refine HN hk14 hB2 fun c85 hI=> ?_
  refine⟨_,rfl,?_⟩
  refine ba (new:=(aX r17 a33 c80 a34 c81 a35 c82)) (cs':=(aq r17 a33 c80 a34 c81 a35 c82)) hI (.s .z) gn rfl rfl et et rfl aC rfl rfl rfl ?_
  intro c86 w29 hI
  refine nk (aA ?_)
  obtain rfl:=aj h
  refine QG ?_
  exact .inl ⟨_,rfl,a33,c80,a34,c81,a35,c82,a36,c83,_,rfl,hI.arr GO SU⟩
 refine TC (fun hb h=> ?_) fun hb h=> ?_
 ·refine T ?_
  obtain⟨c87,f13,hB,hl17,hk15⟩:=hI.hands (.l (.r .n))
  refine eG h (fun _ hx21=>kS hrec HS hx21) (lw hk15) (Rc Tryz.func256) ?_
  rintro⟨r18,s13⟩ hx21 h _ w30 ⟨a37,c88,a38,c89,a39,c90,a40,c91,c92,rfl,hB2⟩
  try dsimp only at h
  refine HN hk15 hB2 fun c93 hI=> ?_
  refine⟨_,rfl,?_⟩
  refine ba (new:=(aX r18 a37 c88 a38 c89 a39 c90)) (cs':=(aq r18 a37 c88 a38 c89 a39 c90)) hI (.s .z) gn rfl rfl et et rfl aC rfl rfl rfl ?_
  intro c94 w31 hI
  refine T ?_
  refine aA ?_
  obtain rfl:=aj h
  refine QG ?_
  exact .inl ⟨_,rfl,a37,c88,a38,c89,a39,c90,a40,c91,_,rfl,hI.arr GO SU⟩
 refine TC (fun hb h=> ?_) fun hb h=> ?_
 ·refine T ?_
  obtain⟨c95,f14,hB,hl18,hk16⟩:=hI.hands (.l (.r .n))
  refine eG h (fun _ hx22=>qi hrec HS hx22) (lw hk16) (Rc Tryz.func257) ?_
  rintro⟨r19,s14⟩ hx22 h _ Dv ⟨a41,c96,a42,c97,a43,c98,a44,c99,c100,rfl,hB2⟩
  try dsimp only at h
  refine HN hk16 hB2 fun c101 hI=> ?_
  refine⟨_,rfl,?_⟩
  refine ba (new:=(aX r19 a41 c96 a42 c97 a43 c98)) (cs':=(aq r19 a41 c96 a42 c97 a43 c98)) hI (.s .z) gn rfl rfl et et rfl aC rfl rfl rfl ?_
  intro c102 w33 hI
  refine T ?_
  refine aA ?_
  obtain rfl:=aj h
  refine QG ?_
  exact .inl ⟨_,rfl,a41,c96,a42,c97,a43,c98,a44,c99,_,rfl,hI.arr GO SU⟩
 refine T ?_
 obtain⟨c103,f15,hB,hl19,hk17⟩:=hI.hands (.l (.r .n))
 refine eG h (fun _ hx23=>iV HS hx23) (lw hk17) (Rc Tryz.func128) ?_
 rintro⟨r20,s15⟩ hx23 h _ w34 ⟨a45,c104,c105,rfl,hB2⟩
 try dsimp only at h
 refine HN hk17 hB2 fun c106 hI=> ?_
 refine⟨_,rfl,?_⟩
 refine sq (ax (vs:=[(0,vi 3),(1,(aE r20))]) (cs:=#[vi 3,(aE r20),vi 0,vi 0,vi 0,vi 0,vi 0,vi 0,vi 0,vi 0,vs none 0 0,vs none 0 0,vs none 0 0]) rfl ⟨rfl,ao,⟨rfl,et,trivial⟩⟩ (by kernel_rfl)) ?_
 refine lN fun b6 c107 w35 hI=> ?_
 refine ba (new:=[vi 3,(aE r20),vi 0,vi 0,vi 0,vi 0,vi 0,vi 0,vi 0,vi 0,vs none 0 0,vs none 0 0,vs none 0 0]) (cs':=#[vi 3,(aE r20),vi 0,vi 0,vi 0,vi 0,vi 0,vi 0,vi 0,vi 0,vs none 0 0,vs none 0 0,vs none 0 0]) hI .z gn rfl rfl et et rfl aC rfl rfl rfl ?_
 intro c108 w36 hI
 refine T ?_
 obtain⟨c109,f16,hB,hl20,hk18⟩:=hI.hands (.r (.l (.r .n)))
 refine eG h (fun _ hx24=>aR HS hx24) (lw hk18) (Rc Tryz.func104) ?_
 rintro⟨r21,s16⟩ hx24 h _ w37 ⟨a46,c110,c111,rfl,hB2⟩
 try dsimp only at h
 refine HN hk18 hB2 fun c112 hI=> ?_
 refine⟨_,rfl,?_⟩
 refine nk (al (T ?_))
 obtain⟨c113,f17,hB,hl21,hk19⟩:=hI.hands (.l (.r (.r .n)))
 obtain⟨⟨r22,s17⟩,hx25,h⟩:=ae h
 try dsimp only at h
 refine aB gn rfl (Rc Tryz.func68) (Calls.mono (aO HS hx25) ?_)
 rintro _ w38 ⟨a47,c114,c115,rfl,hB2⟩
 refine HN hk19 hB2 fun c116 hI=> ?_
 refine⟨_,rfl,?_⟩
 refine TC (fun hb h=> ?_) fun hb h=> ?_
 ·refine T ?_
  refine ba (new:=[vi 3,(aE r20),vi 0,vi 0,vi 0,vi 0,vi 0,vi 0,vi 0,vi 0,vs none 0 0,vs none 0 0,vs none 0 0]) (cs':=#[vi 3,(aE r20),vi 0,vi 0,vi 0,vi 0,vi 0,vi 0,vi 0,vi 0,vs none 0 0,vs none 0 0,vs none 0 0]) hI (.s (.s .z)) gn rfl rfl et et rfl aC rfl rfl rfl ?_
  intro c117 w39 hI
  refine nk (aA ?_)
  have hI:=hI.add (c:=Cl.sl ai none 0 ([]:List GMono)) SlC.nil
  have hI:=hI.add (c:=Cl.sl ak none 0 ([]:List GIndex)) SlC.nil
  have hI:=hI.add (c:=Cl.sl an none 0 ([]:List GExpr)) SlC.nil
  obtain rfl:=aj h
  refine QG ?_
  exact .inl ⟨_,rfl,none,0,none,0,none,0,a47,c114,_,rfl,hI.arr GO SU⟩
 refine T ?_
 obtain⟨c118,f18,hB,hl22,hk20⟩:=hI.hands (.l (.r (.r .n)))
 refine eG h (fun _ hx26=>gg HS hx26) (lw hk20) (Rc Tryz.func258) ?_
 rintro⟨r23,s18⟩ hx26 h _ w40 ⟨a48,c119,a49,c120,a50,c121,c122,rfl,hB2⟩
 try dsimp only at h
 refine HN hk20 hB2 fun c123 hI=> ?_
 refine⟨_,rfl,?_⟩
 refine ll hI ak ([r23]:List GIndex) oe (.cs ⟨a48,c119,a49,c120,rfl,hI.get .z,hI.get (.s .z)⟩ .nl) fun b7 c124 w41 hI=> ?_
 refine T ?_
 refine ba (new:=[vs (some ⟨b7,0,none⟩) ([r23]:List GIndex).length 1]) (cs':=#[vi 3,(aE r20),vi 0,vi 0,vi 0,vi 0,vi 0,vi 0,vi 0,vi 0,vs none 0 0,vs (some ⟨b7,0,none⟩) ([r23]:List GIndex).length 1,vs none 0 0]) hI (.s (.s .z)) gn rfl rfl et et rfl sD rfl rfl rfl ?_
 intro c125 w42 hI
 refine nk (al (T ?_))
 have hI:=hI.nil ai 64 none
 have hI:=hI.nil an 39 none
 refine bh (α:=Nat×aa×GExpr×(Option Addr)×Nat×(Option Addr)×Nat×(Option Addr)×Nat×(Option Addr)×Nat) (fun x=>fun w=>∃ C,Bun C0 F w0 C w [MO.row ai 64 (x.2.2.2.2.2.1) (x.2.2.2.2.2.2.1) (x.2.2.1).Lin.L,MO.row ak 132 (x.2.2.2.2.2.2.2.1) (x.2.2.2.2.2.2.2.2.1) (x.2.2.1).Idx,MO.row an 39 (x.2.2.2.2.2.2.2.2.2.1) (x.2.2.2.2.2.2.2.2.2.2) (x.2.2.1).Args,MO.box b1 67 (af (x.2.1) (x.2.2.2.1) (x.2.2.2.2.1)),MO.box b2 39 #[vi 0,(aE ([]:List UInt8)),vi 0,vi 0,vi 0,vi 0,vi 0,vi 0,vi 0,vi 0,vs none 0 0,vs none 0 0,vs none 0 0],MO.box b6 39 (aq (x.2.2.1) (x.2.2.2.2.2.1) (x.2.2.2.2.2.2.1) (x.2.2.2.2.2.2.2.1) (x.2.2.2.2.2.2.2.2.1) (x.2.2.2.2.2.2.2.2.2.1) (x.2.2.2.2.2.2.2.2.2.2))] [Cl.sl ag (x.2.2.2.1) (x.2.2.2.2.1) (x.2.1).l,av]∧bL (x.1) (x.2.1) (x.2.2.1)=some r) (fun x _=>x.1) (fun x=>[(0,vp b1 0),(2,vp b2 0),(5,vp b6 0)]) (fu,s18,(⟨3,r20,(⟨0,0⟩:GVal),(⟨0,0,0,0,0⟩:GType),(⟨0,([]:List GMono)⟩:GLin),([r23]:List GIndex),([]:List GExpr)⟩:GExpr),a50,c121,none,0,some ⟨b7,0,none⟩,1,none,0) ⟨_,hI.arr (.c (.s .z) (.c (.s .z) (.c .z (.c .z (.c (.s .z) (.c .z .n)))))) ⟨(.s (.s .z)),(.s (.s (.s (.s (.s (.s (.s (.s (.s (.s .z)))))))))),trivial⟩,h⟩ SB ?_
 clear h hI;rintro⟨fuel1,r24,e1,a51,c126,a52,c127,a53,c128,a54,c129⟩ w43 ⟨c130,hI,h⟩
 dsimp only at hI h ⊢
 rcases fuel1 with _ | fuel1
 ·rw[bL]at h;cases h
 rw[bL]at h
 refine al (T ?_)
 obtain⟨c131,f19,hB,hl23,hk21⟩:=hI.hands (.r (.r (.r (.l (.r (.r .n))))))
 obtain⟨⟨r25,s19⟩,hx27,h⟩:=ae h
 try dsimp only at h
 refine aB gn rfl (Rc Tryz.func68) (Calls.mono (aO HS hx27) ?_)
 rintro _ w44 ⟨a55,c132,c133,rfl,hB2⟩
 refine HN hk21 hB2 fun c134 hI=> ?_
 refine⟨_,rfl,?_⟩
 refine TC (fun hb h=> ?_) fun hb h=> ?_
 ·have hk22:=hb
  refine T ?_
  rcases iM h with⟨⟨r26,s20⟩,hx28,h⟩ | ⟨pa_,pn_,hx28,hp_⟩
  rotate_left
  ·subst hp_
   refine aI [3,5,7] false (.c (0,.q) (.c (2,.q) (.two 1 (.c (3,.s) cA) 3 (.two 1 cA 4 (.c (1,.s) dt))))) hI (by kernel_rfl) (by kernel_rfl) ?_
   intro w51 hI
   refine V ?_
   refine da ?_ ?_
   ·skip
    refine bn rfl gn rfl (bo (v:=(vs a53 e1.Idx.length c128)) rfl et AF rfl (CellsAt.of_blk (hI.blk (.s (.s (.s (.s (.s .z)))))) rfl)) SX.self ?_
    refine bJ (F:=F) (C:=c134) rfl rfl ?_
    obtain⟨c135,f20,hB,hl24,hk23⟩:=hI.hands (.l (.r (.r (.r (.r (.r .n))))))
    refine fp rfl gn rfl (aF (vs:=[vp b1 0]) rfl yr ⟨et,trivial⟩) (Calls.mono (gg HS hx28) ?_)
    intro e_ w_ hq_;obtain⟨rfl,C_,hB_⟩:=eY hq_;obtain⟨C9_,-,hI_⟩:=hk23 _ _ _ _ hB_;exact .inr ⟨_,rfl,iK (.inr ⟨_,_,rfl,rfl,⟨_,hI_.arr .n trivial⟩⟩)⟩
   refine bu (F:=F) (C:=c134) rfl rfl ?_
   obtain⟨c135,f20,hB,hl24,hk23⟩:=hI.hands (.l (.r (.r (.r (.r (.r .n))))))
   refine fp rfl gn rfl (aF (vs:=[vp b1 0]) rfl yr ⟨et,trivial⟩) (Calls.mono (gg HS hx28) ?_)
   intro e_ w_ hq_;obtain⟨rfl,C_,hB_⟩:=eY hq_;obtain⟨C9_,-,hI_⟩:=hk23 _ _ _ _ hB_;exact .inr ⟨_,rfl,iK (.inr ⟨_,_,rfl,rfl,⟨_,hI_.arr .n trivial⟩⟩)⟩
  try dsimp only at h
  obtain⟨zs1,hx29,h⟩:=ae h
  refine aI [3,5,7] false (.c (0,.q) (.c (2,.q) (.two 1 (.c (3,.s) cA) 3 (.two 1 cA 4 (.c (1,.s) dt))))) hI (by kernel_rfl) (by kernel_rfl) ?_
  intro w52 hI
  refine cj (α:=(Option Addr)×Nat×(Option Addr)×Nat×(Option Addr)×Nat×Nat×NP) (T:=dt) (fun x=>[(0,vp b1 0),(2,vp b2 0),(5,vp b6 0),(65,vp b1 0),(66,vb r25),(67,vp b6 11),(68,vs a53 e1.Idx.length c128),(69,vp b1 0),(70,(Value.agg (mO r26 (x.1) (x.2.1) (x.2.2.1) (x.2.2.2.1)))),(71,(vs (some ⟨(x.2.2.2.2.2.2.1),0,none⟩) ([r26]:List GIndex).length 1))]) (fun x w=>Bun C0 F w0 (x.2.2.2.2.2.2.2) w [MO.row ak 132 (some ⟨(x.2.2.2.2.2.2.1),0,none⟩) 1 ([r26]:List GIndex),MO.box b1 67 (af s20 (x.2.2.2.2.1) (x.2.2.2.2.2.1)),MO.row ai 64 a52 c127 e1.Lin.L,MO.row ak 132 a53 c128 e1.Idx,MO.row an 39 a54 c129 e1.Args,MO.box b2 39 #[vi 0,(aE ([]:List UInt8)),vi 0,vi 0,vi 0,vi 0,vi 0,vi 0,vi 0,vi 0,vs none 0 0,vs none 0 0,vs none 0 0],MO.box b6 39 (aq e1 a52 c127 a53 c128 a54 c129)] [Cl.sl ai (x.1) (x.2.1) r26.Lin.L,Cl.sl fS (x.2.2.1) (x.2.2.2.1) r26.At,Cl.sl ag (x.2.2.2.2.1) (x.2.2.2.2.2.1) s20.l,Cl.sl ag a55 c132 s19.l,Cl.sl ag a51 c126 r24.l,av]) (fun x w=>SN [] (DM true F (x.2.2.2.2.2.2.2)) w) ?_ ?_
  ·clear hI;rintro⟨a56,c136,a57,c137,a58,c138,b8,c146⟩ w50 hI
   try dsimp only at hI ⊢
   unfold dt
   refine rp (xs:=e1.Idx) (ys:=([r26]:List GIndex)) hI (.s (.s (.s .z))) (hI.rd .z) hx29 rfl gn rfl rfl AF oe rfl rfl et et ?_
   intro a59 c142 c143 w47 hI
   refine V ?_
   refine vS fun c144 w48 hI=> ?_
   refine oq ?_
   exact jY (fuel1,s20,(⟨e1.Op,e1.Name,e1.Val,e1.Type_,e1.Lin,zs1,e1.Args⟩:GExpr),a58,c138,a52,c127,a59,c142,a54,c129) SB ⟨_,hI.arr GO SU,h⟩ (Nat.lt_succ_self _)
  intro hk_tr_parser_reader_primary_w_3_1
  refine cj (α:=(Option Addr)×Nat×(Option Addr)×Nat×(Option Addr)×Nat×NP) (T:=cA) (fun x=>[(0,vp b1 0),(2,vp b2 0),(5,vp b6 0),(65,vp b1 0),(66,vb r25),(67,vp b6 11),(68,vs a53 e1.Idx.length c128),(69,vp b1 0),(70,(Value.agg (mO r26 (x.1) (x.2.1) (x.2.2.1) (x.2.2.2.1))))]) (fun x w=>Bun C0 F w0 (x.2.2.2.2.2.2) w [MO.box b1 67 (af s20 (x.2.2.2.2.1) (x.2.2.2.2.2.1)),MO.row ai 64 a52 c127 e1.Lin.L,MO.row ak 132 a53 c128 e1.Idx,MO.row an 39 a54 c129 e1.Args,MO.box b2 39 #[vi 0,(aE ([]:List UInt8)),vi 0,vi 0,vi 0,vi 0,vi 0,vi 0,vi 0,vi 0,vs none 0 0,vs none 0 0,vs none 0 0],MO.box b6 39 (aq e1 a52 c127 a53 c128 a54 c129)] [Cl.sl ai (x.1) (x.2.1) r26.Lin.L,Cl.sl fS (x.2.2.1) (x.2.2.2.1) r26.At,Cl.sl ag (x.2.2.2.2.1) (x.2.2.2.2.2.1) s20.l,Cl.sl ag a55 c132 s19.l,Cl.sl ag a51 c126 r24.l,av]) (fun x w=>SN [] (DM true F (x.2.2.2.2.2.2)) w) ?_ ?_
  ·clear hI;rintro⟨a56,c136,a57,c137,a58,c138,c145⟩ w49 hI
   try dsimp only at hI ⊢
   unfold cA
   refine vl hI ak ([r26]:List GIndex) oe (.cs ⟨a56,c136,a57,c137,rfl,hI.get .z,hI.get (.s .z)⟩ .nl) fun b8 c141 w46 hI=> ?_
   exact aW (hk_tr_parser_reader_primary_w_3_1 (a56,c136,a57,c137,a58,c138,b8,c141) _ (hI.arr GO SU)) SB
  intro hk_tr_parser_reader_primary_w_3_0
  refine V ?_
  refine da ?_ ?_
  ·skip
   refine bn rfl gn rfl (bo (v:=(vs a53 e1.Idx.length c128)) rfl et AF rfl (CellsAt.of_blk (hI.blk (.s (.s (.s (.s (.s .z)))))) rfl)) SX.self ?_
   refine bJ (F:=F) (C:=c134) rfl rfl ?_
   obtain⟨c135,f20,hB,hl24,hk23⟩:=hI.hands (.l (.r (.r (.r (.r (.r .n))))))
   refine fo rfl gn rfl (aF (vs:=[vp b1 0]) rfl yr ⟨et,trivial⟩) (Calls.mono (gg HS hx28) ?_)
   intro e_ w45 hq_;obtain⟨a56,c136,a57,c137,a58,c138,c139,rfl,hB2⟩:=eX hq_
   obtain⟨c140,hs20,hI⟩:=hk23 _ _ _ _ hB2
   dsimp only[ca,na]at hI
   refine⟨_,rfl,DM true F c140,hs20,?_⟩
   exact aW (hk_tr_parser_reader_primary_w_3_0 (a56,c136,a57,c137,a58,c138,c140) _ (hI.arr GO SU)) SB
  refine bu (F:=F) (C:=c134) rfl rfl ?_
  obtain⟨c135,f20,hB,hl24,hk23⟩:=hI.hands (.l (.r (.r (.r (.r (.r .n))))))
  refine fo rfl gn rfl (aF (vs:=[vp b1 0]) rfl yr ⟨et,trivial⟩) (Calls.mono (gg HS hx28) ?_)
  intro e_ w45 hq_;obtain⟨a56,c136,a57,c137,a58,c138,c139,rfl,hB2⟩:=eX hq_
  obtain⟨c140,hs20,hI⟩:=hk23 _ _ _ _ hB2
  dsimp only[ca,na]at hI
  refine⟨_,rfl,DM true F c140,hs20,?_⟩
  refine da ?_ ?_
  ·skip
   refine bn rfl gn rfl (bo (v:=(vs a53 e1.Idx.length c128)) rfl et AF rfl (CellsAt.of_blk (hI.blk (.s (.s (.s (.s (.s .z)))))) rfl)) SX.self ?_
   exact aW (hk_tr_parser_reader_primary_w_3_0 (a56,c136,a57,c137,a58,c138,c140) _ (hI.arr GO SU)) SB
  refine vl hI ak ([r26]:List GIndex) oe (.cs ⟨a56,c136,a57,c137,rfl,hI.get .z,hI.get (.s .z)⟩ .nl) fun b8 c141 w46 hI=> ?_
  refine bn rfl gn rfl (bo (v:=(vs a53 e1.Idx.length c128)) rfl et AF rfl (CellsAt.of_blk (hI.blk (.s (.s (.s (.s (.s (.s .z))))))) rfl)) SX.self ?_
  exact aW (hk_tr_parser_reader_primary_w_3_1 (a56,c136,a57,c137,a58,c138,b8,c141) _ (hI.arr GO SU)) SB
 refine bk ?_
 refine eU ?_
 refine bb ?_
 refine T ?_
 obtain⟨c147,f21,hB,hl25,hk24⟩:=hI.hands (.l (.r (.r (.r (.r (.r .n))))))
 refine eG h (fun _ hx30=>aR HS hx30) (lw hk24) (Rc Tryz.func104) ?_
 rintro⟨r27,s21⟩ hx30 h _ w53 ⟨a60,c148,c149,rfl,hB2⟩
 try dsimp only at h
 refine HN hk24 hB2 fun c150 hI=> ?_
 refine⟨_,rfl,?_⟩
 refine T ?_
 refine ba (new:=(aX e1 a52 c127 a53 c128 a54 c129)) (cs':=(aq e1 a52 c127 a53 c128 a54 c129)) hI (.s (.s (.s (.s .z)))) gn rfl rfl et et rfl aC rfl rfl rfl ?_
 intro c151 w54 hI
 refine nk (aA ?_)
 obtain⟨c152,hI⟩:=hI.release (.s .z)
 obtain⟨c153,hI⟩:=hI.release (.s .z)
 obtain⟨c154,hI⟩:=hI.release (.s .z)
 obtain rfl:=aj h
 refine QG ?_
 exact .inl ⟨_,rfl,a52,c127,a53,c128,a54,c129,a60,c148,_,rfl,hI.arr GO SU⟩
abbrev Qs5 (f_:(aa→Option (bz (GExpr×aa)))):Prop:=∀ ⦃C0 F:NP⦄ ⦃w0:World⦄ ⦃r1:aa⦄ ⦃b1 c1:Nat⦄ ⦃a1:Option Addr⦄ (hI:Bun C0 F w0 C0 w0 [MO.box b1 67 (af r1 a1 c1)] [Cl.sl ag a1 c1 r1.l,av]) ⦃r:bz (GExpr×aa)⦄ (h:f_ r1=some r),CP C0 F w0 242 #[vp b1 0] r fun rx e w=>∃ a2 c2 a3 c3 a4 c4 a5 c5 C,e= .returned (Value.agg (aq rx.1 a2 c2 a3 c3 a4 c4))∧Bun C0 F w0 C w [MO.box b1 67 (af rx.2 a5 c5)] [Cl.sl ai a2 c2 rx.1.Lin.L,Cl.sl ak a3 c3 rx.1.Idx,Cl.sl an a4 c4 rx.1.Args,Cl.sl ag a5 c5 rx.2.l]
theorem o4 {rec_:(aa→Option (bz (GExpr×aa)))} (hrec:x9 rec_) {recs_:(aa→Option (bz (GExpr×aa)))} (hrecs_:Qs5 recs_) {r1:aa} (hI:Bun C0 F w0 C0 w0 [MO.box b1 67 (af r1 a1 c1)] [Cl.sl ag a1 c1 r1.l,av]) {r:bz (GExpr×aa)} (h:fj rec_ recs_ r1=some r):CP C0 F w0 242 #[vp b1 0] r fun rx e w=>∃ a2 c2 a3 c3 a4 c4 a5 c5 C,e= .returned (Value.agg (aq rx.1 a2 c2 a3 c3 a4 c4))∧Bun C0 F w0 C w [MO.box b1 67 (af rx.2 a5 c5)] [Cl.sl ai a2 c2 rx.1.Lin.L,Cl.sl ak a3 c3 rx.1.Idx,Cl.sl an a4 c4 rx.1.Args,Cl.sl ag a5 c5 rx.2.l]:=by
 refine fU (l:=[vp b1 0]) Tryz.func242 rfl Tryz.ntmps242 rfl ?_
 rw[fj]at h
 refine sr (cF (cs:=#[vi 0,(aE ([]:List UInt8)),vi 0,vi 0,vi 0,vi 0,vi 0,vi 0,vi 0,vi 0,vs none 0 0,vs none 0 0,vs none 0 0]) hI gn rfl rfl dN rfl ?_)
 intro b2 c6 w1 hI
 refine nk (al (T ?_))
 refine sB h (fun _ k=>dT NE ⟨(hI.get0 .z),hI.lendBox (.s .z),trivial⟩ k) (Rc Tryz.func121) fun r2 w2 h hI=> ?_
 refine TC (fun hb h=> ?_) fun hb h=> ?_
 ·refine T ?_
  obtain⟨c7,f1,hB,hl2,hk1⟩:=hI.hands (.r (.l .n))
  refine eG h (fun _ hx3=>o5 hrec HS hx3) (lw hk1) (Rc Tryz.func248) ?_
  rintro⟨r3,s1⟩ hx3 h _ w3 ⟨a6,c8,a7,c9,a8,c10,a9,c11,c12,rfl,hB2⟩
  try dsimp only at h
  refine HN hk1 hB2 fun c13 hI=> ?_
  refine⟨_,rfl,?_⟩
  refine lA fun c14 w4 hI=> ?_
  refine nk (aA ?_)
  obtain rfl:=aj h
  refine QG ?_
  exact .inl ⟨_,rfl,a6,c8,a7,c9,a8,c10,a9,c11,_,rfl,hI.arr GO SU⟩
 refine T ?_
 obtain⟨c15,f2,hB,hl3,hk2⟩:=hI.hands (.r (.l .n))
 refine eG h (fun _ hx4=>iz HS hx4) (lw hk2) (Rc Tryz.func194) ?_
 rintro⟨r4,s2⟩ hx4 h _ w5 ⟨a10,c16,c17,rfl,hB2⟩
 try dsimp only at h
 refine HN hk2 hB2 fun c18 hI=> ?_
 refine⟨_,rfl,?_⟩
 refine T ?_
 obtain⟨c19,f3,hB,hl4,hk3⟩:=hI.hands (.l (.r .n))
 refine eG h (fun _ hx5=>hrecs_ HS hx5) (lw hk3) (Rc Tryz.func242) ?_
 rintro⟨r5,s3⟩ hx5 h _ w6 ⟨a11,c20,a12,c21,a13,c22,a14,c23,c24,rfl,hB2⟩
 try dsimp only at h
 refine HN hk3 hB2 fun c25 hI=> ?_
 refine⟨_,rfl,?_⟩
 refine ll hI an ([r5]:List GExpr) jr (.cs (dM ⟨a11,c20,a12,c21,a13,c22,rfl,hI.get .z,hI.get (.s .z),hI.get (.s (.s .z))⟩) .nl) fun b3 c26 w7 hI=> ?_
 refine sq (ax (vs:=[(0,vi 8),(6,vs (some ⟨b3,0,none⟩) ([r5]:List GExpr).length 1)]) (cs:=#[vi 8,(aE ([]:List UInt8)),vi 0,vi 0,vi 0,vi 0,vi 0,vi 0,vi 0,vi 0,vs none 0 0,vs none 0 0,vs (some ⟨b3,0,none⟩) ([r5]:List GExpr).length 1]) rfl ⟨rfl,ao,⟨rfl,et,trivial⟩⟩ (by kernel_rfl)) ?_
 refine lN fun b4 c27 w8 hI=> ?_
 refine lA fun c28 w9 hI=> ?_
 refine T ?_
 refine lS fun c29 w10 hI=> ?_
 refine T ?_
 refine lA fun c30 w11 hI=> ?_
 refine nk (aA ?_)
 obtain⟨c31,hI⟩:=hI.release (.s .z)
 have hI:=hI.add (c:=Cl.sl ai none 0 ([]:List GMono)) SlC.nil
 have hI:=hI.add (c:=Cl.sl ak none 0 ([]:List GIndex)) SlC.nil
 obtain rfl:=aj h
 refine QG ?_
 exact .inl ⟨_,rfl,none,0,none,0,some ⟨b3,0,none⟩,1,a14,c23,_,rfl,hI.arr GO SU⟩
theorem oZ {rec_:(aa→Option (bz (GExpr×aa)))} (hrec:x9 rec_) (n:Nat):Qs5 (bP rec_ n):=by
 induction n with
 | zero=>intro F;intros;rename_i h;cases h
 | succ n ih=>intro F;intros;apply o4 hrec ih<;>assumption
theorem ge {rec_:(aa→Option (bz (GExpr×aa)))} (hrec:x9 rec_):Qs5 (iu rec_):=oZ hrec fu
def cG:Tr:=(.c (4,.s) (.c (5,.q) (.c (6,.s) .n)))
theorem pp {rec_:(aa→Option (bz (GExpr×aa)))} (hrec:x9 rec_) {r1:aa} {signs1:List (List UInt8)} {ops1:List Int} (hI:Bun C0 F w0 C0 w0 [MO.box b1 67 (af r1 a1 c1)] [Cl.sl ag a1 c1 r1.l,Cl.sl dF a2 c2 signs1,Cl.sl (l5 .i64) a3 c3 ops1,av]) {r:bz (GExpr×aa)} (h:hT rec_ r1 signs1 ops1=some r):CP C0 F w0 74 #[vp b1 0,(Value.func (.func 242) #[vp b1 0] #[]),vs a2 signs1.length c2,vs a3 ops1.length c3] r fun rx e w=>∃ a4 c4 a5 c5 a6 c6 a7 c7 C,e= .returned (Value.agg (aq rx.1 a4 c4 a5 c5 a6 c6))∧Bun C0 F w0 C w [MO.box b1 67 (af rx.2 a7 c7)] [Cl.sl ai a4 c4 rx.1.Lin.L,Cl.sl ak a5 c5 rx.1.Idx,Cl.sl an a6 c6 rx.1.Args,Cl.sl ag a7 c7 rx.2.l]:=by
 refine fU (l:=[vp b1 0,(Value.func (.func 242) #[vp b1 0] #[]),vs a2 signs1.length c2,vs a3 ops1.length c3]) Tryz.func74 rfl Tryz.ntmps74 rfl ?_
 rw[hT]at h
 refine sr (cF (cs:=#[vi 0,(aE ([]:List UInt8)),vi 0,vi 0,vi 0,vi 0,vi 0,vi 0,vi 0,vi 0,vs none 0 0,vs none 0 0,vs none 0 0]) hI gn rfl rfl dN rfl ?_)
 intro b2 c8 w1 hI
 refine T ?_
 obtain⟨c9,f1,hB,hl1,hk1⟩:=hI.hands (.r (.l .n))
 refine eG h (fun _ hx1=>ge hrec HS hx1) (lw hk1) (gO (fs:=[vp b1 0]) (vs:=[]) (cap:=[]) rfl et vR trivial) ?_
 rintro⟨r2,s1⟩ hx1 h _ w2 ⟨a8,c10,a9,c11,a10,c12,a11,c13,c14,rfl,hB2⟩
 try dsimp only at h
 refine HN hk1 hB2 fun c15 hI=> ?_
 refine⟨_,rfl,?_⟩
 refine lN fun b3 c16 w3 hI=> ?_
 refine lA fun c17 w4 hI=> ?_
 refine T ?_
 refine bh (α:=Nat×aa×GExpr×(Option Addr)×Nat×(Option Addr)×Nat×(Option Addr)×Nat×(Option Addr)×Nat) (fun x=>fun w=>∃ C,Bun C0 F w0 C w [MO.box b1 67 (af (x.2.1) (x.2.2.2.1) (x.2.2.2.2.1)),MO.box b2 39 #[vi 0,(aE ([]:List UInt8)),vi 0,vi 0,vi 0,vi 0,vi 0,vi 0,vi 0,vi 0,vs none 0 0,vs none 0 0,vs none 0 0],MO.box b3 39 (aq (x.2.2.1) (x.2.2.2.2.2.1) (x.2.2.2.2.2.2.1) (x.2.2.2.2.2.2.2.1) (x.2.2.2.2.2.2.2.2.1) (x.2.2.2.2.2.2.2.2.2.1) (x.2.2.2.2.2.2.2.2.2.2))] [Cl.sl ag (x.2.2.2.1) (x.2.2.2.2.1) (x.2.1).l,Cl.sl ai (x.2.2.2.2.2.1) (x.2.2.2.2.2.2.1) (x.2.2.1).Lin.L,Cl.sl ak (x.2.2.2.2.2.2.2.1) (x.2.2.2.2.2.2.2.2.1) (x.2.2.1).Idx,Cl.sl an (x.2.2.2.2.2.2.2.2.2.1) (x.2.2.2.2.2.2.2.2.2.2) (x.2.2.1).Args,Cl.sl dF a2 c2 signs1,Cl.sl (l5 .i64) a3 c3 ops1,av]∧bB signs1 ops1 rec_ (x.1) (x.2.1) (x.2.2.1)=some r) (fun x _=>x.1) (fun x=>[(0,vp b1 0),(1,(Value.func (.func 242) #[vp b1 0] #[])),(2,vs a2 signs1.length c2),(3,vs a3 ops1.length c3),(8,vp b2 0),(9,vp b3 0)]) (fu,s1,r2,a11,c13,a8,c10,a9,c11,a10,c12) ⟨_,hI.arr (.c (.s .z) (.c (.s .z) (.c .z .n))) ⟨(.s (.s (.s .z))),.z,(.s .z),(.s (.s .z)),(.s (.s (.s (.s (.s .z))))),(.s (.s (.s (.s (.s (.s .z)))))),(.s (.s (.s (.s (.s (.s (.s .z))))))),trivial⟩,h⟩ ⟨rfl,rfl,rfl,rfl,rfl,rfl,trivial⟩ ?_
 clear h hI;rintro⟨fuel1,r3,e1,a12,c18,a13,c19,a14,c20,a15,c21⟩ w5 ⟨c22,hI,h⟩
 dsimp only at hI h ⊢
 rcases fuel1 with _ | fuel1
 ·rw[bB]at h;cases h
 rw[bB]at h
 refine T ?_
 refine bw (α:=Int×aa×(Option Addr)×Nat) (fun _=>⟨43,[]⟩) (fun x=>[(0,vp b1 0),(1,(Value.func (.func 242) #[vp b1 0] #[])),(2,vs a2 signs1.length c2),(3,vs a3 ops1.length c3),(8,vp b2 0),(9,vp b3 0),(10,vi (x.1))]) (fun x=>fun w=>∃ C,Bun C0 F w0 C w [MO.box b1 67 (af (x.2.1) (x.2.2.1) (x.2.2.2)),MO.box b2 39 #[vi 0,(aE ([]:List UInt8)),vi 0,vi 0,vi 0,vi 0,vi 0,vi 0,vi 0,vi 0,vs none 0 0,vs none 0 0,vs none 0 0],MO.box b3 39 (aq e1 a13 c19 a14 c20 a15 c21)] [Cl.sl ag (x.2.2.1) (x.2.2.2) (x.2.1).l,Cl.sl dF a2 c2 signs1,Cl.sl (l5 .i64) a3 c3 ops1,Cl.sl ai a13 c19 e1.Lin.L,Cl.sl ak a14 c20 e1.Idx,Cl.sl an a15 c21 e1.Args,av]∧iO e1 rec_ (bB signs1 ops1 rec_ fuel1) (x.1) (x.2.1)=some r) ?_ ?_
 ·clear h hI;rintro⟨op1,r4,a16,c23⟩ w6 ⟨c24,hI,h⟩
  try dsimp only at hI h ⊢
  rw[iO]at h
  refine al (T ?_)
  refine TC (fun hb h=> ?_) fun hb h=> ?_
  ·refine T ?_
   refine lA fun c25 w7 hI=> ?_
   refine nk (aA ?_)
   obtain rfl:=aj h
   exact eV (vs:=[(Value.agg (aq e1 a13 c19 a14 c20 a15 c21))]) Tryz.results74 ⟨⟨_,aK rfl rfl,ci (l:=(aX e1 a13 c19 a14 c20 a15 c21)) jT rfl aC (CellsAt.of_blk (hI.blk (.s .z)) rfl)⟩,trivial⟩ (.inl ⟨_,rfl,a13,c19,a14,c20,a15,c21,a16,c23,_,rfl,hI.arr (.c .z .n) ⟨(.s (.s (.s .z))),(.s (.s (.s (.s .z)))),(.s (.s (.s (.s (.s .z))))),.z,trivial⟩⟩)
  refine T ?_
  rcases iM h with⟨⟨r5,s2⟩,hx2,h⟩ | ⟨pa_,pn_,hx2,hp_⟩
  rotate_left
  ·subst hp_
   refine aI [3,6] false (.c (0,.q) (.c (2,.q) (.two 1 (.c (3,.s) cG) 3 (.c (1,.s) cG)))) hI (by kernel_rfl) (by kernel_rfl) ?_
   intro w12 hI
   refine V ?_
   refine da ?_ ?_
   ·skip
    refine bn rfl gn rfl (am (l:=(aX e1 a13 c19 a14 c20 a15 c21)) rfl et jT rfl aC (CellsAt.of_blk (hI.blk (.s (.s .z))) rfl)) SX.self ?_
    refine bJ (F:=F) (C:=c24) rfl rfl ?_
    obtain⟨c26,f2,hB,hl2,hk2⟩:=hI.hands (.l (.r (.r .n)))
    refine fp rfl gn rfl (gO (fs:=[vp b1 0]) (vs:=[]) (cap:=[]) rfl et vR trivial) (Calls.mono (ge hrec HS hx2) ?_)
    intro e_ w_ hq_;obtain⟨rfl,C_,hB_⟩:=eY hq_;obtain⟨C9_,-,hI_⟩:=hk2 _ _ _ _ hB_;exact .inr ⟨_,rfl,iK (.inr ⟨_,_,rfl,rfl,⟨_,hI_.arr .n trivial⟩⟩)⟩
   refine bu (F:=F) (C:=c24) rfl rfl ?_
   obtain⟨c26,f2,hB,hl2,hk2⟩:=hI.hands (.l (.r (.r .n)))
   refine fp rfl gn rfl (gO (fs:=[vp b1 0]) (vs:=[]) (cap:=[]) rfl et vR trivial) (Calls.mono (ge hrec HS hx2) ?_)
   intro e_ w_ hq_;obtain⟨rfl,C_,hB_⟩:=eY hq_;obtain⟨C9_,-,hI_⟩:=hk2 _ _ _ _ hB_;exact .inr ⟨_,rfl,iK (.inr ⟨_,_,rfl,rfl,⟨_,hI_.arr .n trivial⟩⟩)⟩
  try dsimp only at h
  refine aI [3,6] false (.c (0,.q) (.c (2,.q) (.two 1 (.c (3,.s) cG) 3 (.c (1,.s) cG)))) hI (by kernel_rfl) (by kernel_rfl) ?_
  intro w13 hI
  refine cj (α:=(Option Addr)×Nat×(Option Addr)×Nat×(Option Addr)×Nat×(Option Addr)×Nat×NP) (T:=cG) (fun x=>[(0,vp b1 0),(1,(Value.func (.func 242) #[vp b1 0] #[])),(2,vs a2 signs1.length c2),(3,vs a3 ops1.length c3),(8,vp b2 0),(9,vp b3 0),(10,vi op1),(34,vi op1),(35,(vb (decide (op1=0)))),(37,vi op1),(38,(Value.agg (aq e1 a13 c19 a14 c20 a15 c21))),(39,(Value.func (.func 242) #[vp b1 0] #[])),(40,(Value.agg (aq r5 (x.1) (x.2.1) (x.2.2.1) (x.2.2.2.1) (x.2.2.2.2.1) (x.2.2.2.2.2.1))))]) (fun x w=>Bun C0 F w0 (x.2.2.2.2.2.2.2.2) w [MO.box b1 67 (af s2 (x.2.2.2.2.2.2.1) (x.2.2.2.2.2.2.2.1)),MO.box b2 39 #[vi 0,(aE ([]:List UInt8)),vi 0,vi 0,vi 0,vi 0,vi 0,vi 0,vi 0,vi 0,vs none 0 0,vs none 0 0,vs none 0 0],MO.box b3 39 (aq e1 a13 c19 a14 c20 a15 c21)] [Cl.sl ai (x.1) (x.2.1) r5.Lin.L,Cl.sl ak (x.2.2.1) (x.2.2.2.1) r5.Idx,Cl.sl an (x.2.2.2.2.1) (x.2.2.2.2.2.1) r5.Args,Cl.sl ag (x.2.2.2.2.2.2.1) (x.2.2.2.2.2.2.2.1) s2.l,Cl.sl ag a16 c23 r4.l,Cl.sl dF a2 c2 signs1,Cl.sl (l5 .i64) a3 c3 ops1,Cl.sl ai a13 c19 e1.Lin.L,Cl.sl ak a14 c20 e1.Idx,Cl.sl an a15 c21 e1.Args,av]) (fun x w=>SN [] (DM true F (x.2.2.2.2.2.2.2.2)) w) ?_ ?_
  ·clear hI;rintro⟨a17,c27,a18,c28,a19,c29,a20,c30,c35⟩ w11 hI
   try dsimp only at hI ⊢
   unfold cG
   refine vl hI an ([e1,r5]:List GExpr) jr (.cs (dM ⟨a13,c19,a14,c20,a15,c21,rfl,hI.get (.s (.s (.s (.s (.s (.s (.s .z))))))),hI.get (.s (.s (.s (.s (.s (.s (.s (.s .z)))))))),hI.get (.s (.s (.s (.s (.s (.s (.s (.s (.s .z)))))))))⟩) (.cs (dM ⟨a17,c27,a18,c28,a19,c29,rfl,hI.get .z,hI.get (.s .z),hI.get (.s (.s .z))⟩) .nl)) fun b4 c33 w9 hI=> ?_
   refine l6 rfl gn rfl (fun w'=>(ax (vs:=[(0,vi op1),(6,vs (some ⟨b4,0,none⟩) ([e1,r5]:List GExpr).length 2)]) (cs:=#[vi op1,(aE ([]:List UInt8)),vi 0,vi 0,vi 0,vi 0,vi 0,vi 0,vi 0,vi 0,vs none 0 0,vs none 0 0,vs (some ⟨b4,0,none⟩) ([e1,r5]:List GExpr).length 2]) rfl ⟨rfl,et,⟨rfl,et,trivial⟩⟩ (by kernel_rfl))) ?_
   refine vA fun c34 w10 hI=> ?_
   refine oq ?_
   have hI:=hI.add (c:=Cl.sl ai none 0 ([]:List GMono)) SlC.nil
   have hI:=hI.add (c:=Cl.sl ak none 0 ([]:List GIndex)) SlC.nil
   obtain⟨c36,hI⟩:=hI.release .z
   exact jY (fuel1,s2,(⟨op1,([]:List UInt8),(⟨0,0⟩:GVal),(⟨0,0,0,0,0⟩:GType),(⟨0,([]:List GMono)⟩:GLin),([]:List GIndex),([e1,r5]:List GExpr)⟩:GExpr),a20,c30,none,0,none,0,some ⟨b4,0,none⟩,2) ⟨rfl,rfl,rfl,rfl,rfl,rfl,trivial⟩ ⟨_,hI.arr (.c .z (.c .z (.c .z .n))) ⟨(.s (.s (.s (.s (.s (.s .z)))))),(.s (.s .z)),(.s .z),.z,(.s (.s (.s (.s (.s (.s (.s (.s .z)))))))),(.s (.s (.s (.s (.s (.s (.s (.s (.s .z))))))))),(.s (.s (.s (.s (.s (.s (.s (.s (.s (.s (.s (.s (.s .z))))))))))))),trivial⟩,h⟩ (Nat.lt_succ_self _)
  intro hk_tr_parser_reader_chain_w5_3_0
  refine V ?_
  refine da ?_ ?_
  ·skip
   refine bn rfl gn rfl (am (l:=(aX e1 a13 c19 a14 c20 a15 c21)) rfl et jT rfl aC (CellsAt.of_blk (hI.blk (.s (.s .z))) rfl)) SX.self ?_
   refine bJ (F:=F) (C:=c24) rfl rfl ?_
   obtain⟨c26,f2,hB,hl2,hk2⟩:=hI.hands (.l (.r (.r .n)))
   refine fo rfl gn rfl (gO (fs:=[vp b1 0]) (vs:=[]) (cap:=[]) rfl et vR trivial) (Calls.mono (ge hrec HS hx2) ?_)
   intro e_ w8 hq_;obtain⟨a17,c27,a18,c28,a19,c29,a20,c30,c31,rfl,hB2⟩:=eX hq_
   obtain⟨c32,hs2,hI⟩:=hk2 _ _ _ _ hB2
   dsimp only[ca,na]at hI
   refine⟨_,rfl,DM true F c32,hs2,?_⟩
   exact aW (hk_tr_parser_reader_chain_w5_3_0 (a17,c27,a18,c28,a19,c29,a20,c30,c32) _ (hI.arr (.c .z (.c .z (.c .z .n))) ⟨.z,(.s .z),(.s (.s .z)),(.s (.s (.s .z))),(.s (.s (.s (.s .z)))),(.s (.s (.s (.s (.s .z))))),(.s (.s (.s (.s (.s (.s .z)))))),(.s (.s (.s (.s (.s (.s (.s .z))))))),(.s (.s (.s (.s (.s (.s (.s (.s .z)))))))),(.s (.s (.s (.s (.s (.s (.s (.s (.s .z))))))))),(.s (.s (.s (.s (.s (.s (.s (.s (.s (.s .z)))))))))),trivial⟩)) ⟨rfl,rfl,rfl,rfl,rfl,rfl,rfl,rfl,rfl,rfl,rfl,rfl,rfl,trivial⟩
  refine bu (F:=F) (C:=c24) rfl rfl ?_
  obtain⟨c26,f2,hB,hl2,hk2⟩:=hI.hands (.l (.r (.r .n)))
  refine fo rfl gn rfl (gO (fs:=[vp b1 0]) (vs:=[]) (cap:=[]) rfl et vR trivial) (Calls.mono (ge hrec HS hx2) ?_)
  intro e_ w8 hq_;obtain⟨a17,c27,a18,c28,a19,c29,a20,c30,c31,rfl,hB2⟩:=eX hq_
  obtain⟨c32,hs2,hI⟩:=hk2 _ _ _ _ hB2
  dsimp only[ca,na]at hI
  refine⟨_,rfl,DM true F c32,hs2,?_⟩
  refine bn rfl gn rfl (am (l:=(aX e1 a13 c19 a14 c20 a15 c21)) rfl et jT rfl aC (CellsAt.of_blk (hI.blk (.s (.s .z))) rfl)) SX.self ?_
  exact aW (hk_tr_parser_reader_chain_w5_3_0 (a17,c27,a18,c28,a19,c29,a20,c30,c32) _ (hI.arr (.c .z (.c .z (.c .z .n))) ⟨.z,(.s .z),(.s (.s .z)),(.s (.s (.s .z))),(.s (.s (.s (.s .z)))),(.s (.s (.s (.s (.s .z))))),(.s (.s (.s (.s (.s (.s .z)))))),(.s (.s (.s (.s (.s (.s (.s .z))))))),(.s (.s (.s (.s (.s (.s (.s (.s .z)))))))),(.s (.s (.s (.s (.s (.s (.s (.s (.s .z))))))))),(.s (.s (.s (.s (.s (.s (.s (.s (.s (.s .z)))))))))),trivial⟩)) ⟨rfl,rfl,rfl,rfl,rfl,rfl,rfl,rfl,rfl,rfl,rfl,rfl,rfl,trivial⟩
 refine T ?_
 refine bh (α:=Nat×Int×Int×aa×(Option Addr)×Nat) (fun x=>fun w=>∃ C,Bun C0 F w0 C w [MO.box b1 67 (af (x.2.2.2.1) (x.2.2.2.2.1) (x.2.2.2.2.2)),MO.box b2 39 #[vi 0,(aE ([]:List UInt8)),vi 0,vi 0,vi 0,vi 0,vi 0,vi 0,vi 0,vi 0,vs none 0 0,vs none 0 0,vs none 0 0],MO.box b3 39 (aq e1 a13 c19 a14 c20 a15 c21)] [Cl.sl ag (x.2.2.2.2.1) (x.2.2.2.2.2) (x.2.2.2.1).l,Cl.sl dF a2 c2 signs1,Cl.sl (l5 .i64) a3 c3 ops1,Cl.sl ai a13 c19 e1.Lin.L,Cl.sl ak a14 c20 e1.Idx,Cl.sl an a15 c21 e1.Args,av]∧bU signs1 ops1 e1 rec_ (bB signs1 ops1 rec_ fuel1) (x.1) (x.2.1) (x.2.2.1) (x.2.2.2.1)=some r) (fun x _=>x.1) (fun x=>[(0,vp b1 0),(1,(Value.func (.func 242) #[vp b1 0] #[])),(2,vs a2 signs1.length c2),(3,vs a3 ops1.length c3),(8,vp b2 0),(9,vp b3 0),(10,vi (x.2.1)),(15,vs a2 signs1.length c2),(16,vi (signs1.length:Int)),(17,vi (x.2.2.1))]) (fu,0,0,r3,a12,c18) ⟨_,hI.arr (.c .z (.c .z (.c .z .n))) ⟨.z,(.s (.s (.s (.s .z)))),(.s (.s (.s (.s (.s .z))))),(.s .z),(.s (.s .z)),(.s (.s (.s .z))),(.s (.s (.s (.s (.s (.s .z)))))),trivial⟩,h⟩ ⟨rfl,rfl,rfl,rfl,rfl,rfl,rfl,rfl,rfl,rfl,trivial⟩ ?_
 clear h hI;rintro⟨fuel2,op2,i1,r6,a21,c37⟩ w14 ⟨c38,hI,h⟩
 dsimp only at hI h ⊢
 rcases fuel2 with _ | fuel2
 ·rw[bU]at h;cases h
 rw[bU]at h
 refine T ?_
 refine al (vm h et (fun hb h=> ?_) (fun hb h=> ?_))
 ·refine T ?_
  refine bw (α:=Int×aa×(Option Addr)×Nat) (fun _=>⟨43,[]⟩) (fun x=>[(0,vp b1 0),(1,(Value.func (.func 242) #[vp b1 0] #[])),(2,vs a2 signs1.length c2),(3,vs a3 ops1.length c3),(8,vp b2 0),(9,vp b3 0),(10,vi (x.1)),(15,vs a2 signs1.length c2),(16,vi (signs1.length:Int)),(17,vi i1)]) (fun x=>fun w=>∃ C,Bun C0 F w0 C w [MO.box b1 67 (af (x.2.1) (x.2.2.1) (x.2.2.2)),MO.box b2 39 #[vi 0,(aE ([]:List UInt8)),vi 0,vi 0,vi 0,vi 0,vi 0,vi 0,vi 0,vi 0,vs none 0 0,vs none 0 0,vs none 0 0],MO.box b3 39 (aq e1 a13 c19 a14 c20 a15 c21)] [Cl.sl ag (x.2.2.1) (x.2.2.2) (x.2.1).l,Cl.sl dF a2 c2 signs1,Cl.sl (l5 .i64) a3 c3 ops1,Cl.sl ai a13 c19 e1.Lin.L,Cl.sl ak a14 c20 e1.Idx,Cl.sl an a15 c21 e1.Args,av]∧gi (bU signs1 ops1 e1 rec_ (bB signs1 ops1 rec_ fuel1) fuel2) i1 (x.1) (x.2.1)=some r) ?_ ?_
  ·clear h hI;rintro⟨op3,r7,a22,c39⟩ w15 ⟨c40,hI,h⟩
   try dsimp only at hI h ⊢
   rw[gi]at h
   refine T ?_
   refine aM ?_
   exact jY (fuel2,op3,ar (i1+1),r7,a22,c39) ⟨rfl,rfl,rfl,rfl,rfl,rfl,rfl,rfl,rfl,rfl,trivial⟩ ⟨_,hI.arr (.c .z (.c .z (.c .z .n))) ⟨.z,(.s .z),(.s (.s .z)),(.s (.s (.s .z))),(.s (.s (.s (.s .z)))),(.s (.s (.s (.s (.s .z))))),(.s (.s (.s (.s (.s (.s .z)))))),trivial⟩,h⟩ (Nat.lt_succ_self _)
  refine T ?_
  obtain⟨e2,hx3,h⟩:=ae h
  obtain⟨ad1,cs1,hA1,hr1,hq1⟩:=hI.clat (.s .z) hx3
  obtain rfl:cs1=[(aE e2)]:=hr1
  refine sI ?_
  refine T ?_
  obtain⟨c41,f3,hB,hl3,hk3⟩:=hI.hands (.l (.r (.r .n)))
  obtain⟨⟨r8,s3⟩,hx4,h⟩:=ae h
  try dsimp only at h
  refine pT (fun v_ w_=>v_=(vb r8)∧∃ (a23:Option Addr),∃ (c42:Nat),∃ C_:NP,Bun c41 f3 w14 C_ w_ [MO.box b1 67 (af s3 a23 c42)] [Cl.sl ag a23 c42 s3.l]) (aT rfl rfl rfl rfl) rfl (fun hc=>(aF (vs:=[vp b1 0,(aE e2)]) rfl zY ⟨(aQ et hc),⟨(aQ et hc),trivial⟩⟩)) (fun hc=>(aO HS (Ag hc hx4)).mono fun e_ w_ hq_=>(let ⟨a23,c42,C_,he_,hB_⟩:=hq_;⟨_,he_,rfl,a23,c42,C_,hB_⟩)) ?_
  intro v_ w16 h1_ h2_
  obtain⟨hv_,a23,c42,c43,hB2⟩:gv (decide (op2=0)) v_=gv (decide (op2=0)) (vb r8)∧∃ (a23:Option Addr),∃ (c42:Nat),∃ C_:NP,Bun c41 f3 w14 C_ w16 [MO.box b1 67 (af s3 a23 c42)] [Cl.sl ag a23 c42 s3.l]:=by
   rcases Bool.eq_false_or_eq_true (decide (op2=0))with hc | hc
   ·obtain⟨rfl,hq_⟩:=h1_ hc;exact⟨rfl,hq_⟩
   have e1_:=h2_ hc;subst e1_;obtain⟨rfl,rfl⟩:=Ah hc hx4;exact⟨by rw[pl hc,pl hc],a21,c37,_,hB.subs ⟨.z,trivial⟩⟩
  rw[hv_];clear h1_ h2_
  refine HN hk3 hB2 fun c44 hI=> ?_
  refine TC (fun hb h=> ?_) fun hb h=> ?_
  ·refine T ?_
   obtain⟨e3,hx5,h⟩:=ae h
   obtain⟨ad2,cs2,hA2,hr2,hq2⟩:=hI.clat (.s (.s (.s .z))) hx5
   obtain rfl:cs2=[vi e3]:=hr2
   refine sI ?_
   refine T ?_
   refine aM ?_
   exact bi (e3,s3,a23,c42) ⟨rfl,rfl,rfl,rfl,rfl,rfl,rfl,rfl,rfl,rfl,trivial⟩ ⟨_,hI.arr (.c .z (.c .z (.c .z .n))) ⟨.z,(.s (.s .z)),(.s (.s (.s .z))),(.s (.s (.s (.s .z)))),(.s (.s (.s (.s (.s .z))))),(.s (.s (.s (.s (.s (.s .z)))))),(.s (.s (.s (.s (.s (.s (.s .z))))))),trivial⟩,h⟩ rfl
  exact bf (bi (op2,s3,a23,c42) ⟨rfl,rfl,rfl,rfl,rfl,rfl,rfl,rfl,rfl,rfl,trivial⟩ ⟨_,hI.arr (.c .z (.c .z (.c .z .n))) ⟨.z,(.s (.s .z)),(.s (.s (.s .z))),(.s (.s (.s (.s .z)))),(.s (.s (.s (.s (.s .z))))),(.s (.s (.s (.s (.s (.s .z)))))),(.s (.s (.s (.s (.s (.s (.s .z))))))),trivial⟩,h⟩ rfl)
 refine bk ?_
 refine eU ?_
 exact bi (op2,r6,a21,c37) ⟨rfl,rfl,rfl,rfl,rfl,rfl,rfl,trivial⟩ ⟨_,hI.arr (.c .z (.c .z (.c .z .n))) ⟨.z,(.s .z),(.s (.s .z)),(.s (.s (.s .z))),(.s (.s (.s (.s .z)))),(.s (.s (.s (.s (.s .z))))),(.s (.s (.s (.s (.s (.s .z)))))),trivial⟩,h⟩ rfl
theorem fr {rec_:(aa→Option (bz (GExpr×aa)))} (hrec:x9 rec_) {r1:aa} (hI:Bun C0 F w0 C0 w0 [MO.box b1 67 (af r1 a1 c1)] [Cl.sl ag a1 c1 r1.l,av]) {r:bz (GExpr×aa)} (h:cP rec_ r1=some r):CP C0 F w0 227 #[vp b1 0] r fun rx e w=>∃ a2 c2 a3 c3 a4 c4 a5 c5 C,e= .returned (Value.agg (aq rx.1 a2 c2 a3 c3 a4 c4))∧Bun C0 F w0 C w [MO.box b1 67 (af rx.2 a5 c5)] [Cl.sl ai a2 c2 rx.1.Lin.L,Cl.sl ak a3 c3 rx.1.Idx,Cl.sl an a4 c4 rx.1.Args,Cl.sl ag a5 c5 rx.2.l]:=by
 refine fU (l:=[vp b1 0]) Tryz.func227 rfl Tryz.ntmps227 rfl ?_
 rw[cP]at h
 refine sr (cF (cs:=#[vi 0,(aE ([]:List UInt8)),vi 0,vi 0,vi 0,vi 0,vi 0,vi 0,vi 0,vi 0,vs none 0 0,vs none 0 0,vs none 0 0]) hI gn rfl rfl dN rfl ?_)
 intro b2 c6 w1 hI
 refine T ?_
 refine sq (n7 (vs:=[vp b1 0]) rfl rfl ⟨et,trivial⟩) ?_
 refine ll hI dF ([([42]:List UInt8),([47]:List UInt8)]:List (List UInt8)) lZ Rr fun b3 c7 w2 hI=> ?_
 refine ll hI (l5 .i64) ([6,7]:List Int) wh Rr fun b4 c8 w3 hI=> ?_
 obtain⟨c9,hI⟩:=hI.release (.s .z)
 obtain⟨c10,hI⟩:=hI.release .z
 obtain⟨c11,f1,hB,hl1,hk1⟩:=hI.hands (.r (.l .n))
 refine eG h (fun _ hx1=>pp hrec HS hx1) (lw hk1) (Rc Tryz.func74) ?_
 rintro⟨r2,s1⟩ hx1 h _ w4 ⟨a6,c12,a7,c13,a8,c14,a9,c15,c16,rfl,hB2⟩
 try dsimp only at h
 refine HN hk1 hB2 fun c17 hI=> ?_
 refine⟨_,rfl,?_⟩
 refine lA fun c18 w5 hI=> ?_
 refine nk (aA ?_)
 obtain rfl:=aj h
 refine QG ?_
 exact .inl ⟨_,rfl,a6,c12,a7,c13,a8,c14,a9,c15,_,rfl,hI.arr GO SU⟩
def cH:Tr:=(.c (4,.s) (.c (5,.q) (.c (6,.s) .n)))
theorem pq {rec_:(aa→Option (bz (GExpr×aa)))} (hrec:x9 rec_) {r1:aa} {signs1:List (List UInt8)} {ops1:List Int} (hI:Bun C0 F w0 C0 w0 [MO.box b1 67 (af r1 a1 c1)] [Cl.sl ag a1 c1 r1.l,Cl.sl dF a2 c2 signs1,Cl.sl (l5 .i64) a3 c3 ops1,av]) {r:bz (GExpr×aa)} (h:hU rec_ r1 signs1 ops1=some r):CP C0 F w0 74 #[vp b1 0,(Value.func (.func 227) #[vp b1 0] #[]),vs a2 signs1.length c2,vs a3 ops1.length c3] r fun rx e w=>∃ a4 c4 a5 c5 a6 c6 a7 c7 C,e= .returned (Value.agg (aq rx.1 a4 c4 a5 c5 a6 c6))∧Bun C0 F w0 C w [MO.box b1 67 (af rx.2 a7 c7)] [Cl.sl ai a4 c4 rx.1.Lin.L,Cl.sl ak a5 c5 rx.1.Idx,Cl.sl an a6 c6 rx.1.Args,Cl.sl ag a7 c7 rx.2.l]:=by
 refine fU (l:=[vp b1 0,(Value.func (.func 227) #[vp b1 0] #[]),vs a2 signs1.length c2,vs a3 ops1.length c3]) Tryz.func74 rfl Tryz.ntmps74 rfl ?_
 rw[hU]at h
 refine sr (cF (cs:=#[vi 0,(aE ([]:List UInt8)),vi 0,vi 0,vi 0,vi 0,vi 0,vi 0,vi 0,vi 0,vs none 0 0,vs none 0 0,vs none 0 0]) hI gn rfl rfl dN rfl ?_)
 intro b2 c8 w1 hI
 refine T ?_
 obtain⟨c9,f1,hB,hl1,hk1⟩:=hI.hands (.r (.l .n))
 refine eG h (fun _ hx1=>fr hrec HS hx1) (lw hk1) (gO (fs:=[vp b1 0]) (vs:=[]) (cap:=[]) rfl et vT trivial) ?_
 rintro⟨r2,s1⟩ hx1 h _ w2 ⟨a8,c10,a9,c11,a10,c12,a11,c13,c14,rfl,hB2⟩
 try dsimp only at h
 refine HN hk1 hB2 fun c15 hI=> ?_
 refine⟨_,rfl,?_⟩
 refine lN fun b3 c16 w3 hI=> ?_
 refine lA fun c17 w4 hI=> ?_
 refine T ?_
 refine bh (α:=Nat×aa×GExpr×(Option Addr)×Nat×(Option Addr)×Nat×(Option Addr)×Nat×(Option Addr)×Nat) (fun x=>fun w=>∃ C,Bun C0 F w0 C w [MO.box b1 67 (af (x.2.1) (x.2.2.2.1) (x.2.2.2.2.1)),MO.box b2 39 #[vi 0,(aE ([]:List UInt8)),vi 0,vi 0,vi 0,vi 0,vi 0,vi 0,vi 0,vi 0,vs none 0 0,vs none 0 0,vs none 0 0],MO.box b3 39 (aq (x.2.2.1) (x.2.2.2.2.2.1) (x.2.2.2.2.2.2.1) (x.2.2.2.2.2.2.2.1) (x.2.2.2.2.2.2.2.2.1) (x.2.2.2.2.2.2.2.2.2.1) (x.2.2.2.2.2.2.2.2.2.2))] [Cl.sl ag (x.2.2.2.1) (x.2.2.2.2.1) (x.2.1).l,Cl.sl ai (x.2.2.2.2.2.1) (x.2.2.2.2.2.2.1) (x.2.2.1).Lin.L,Cl.sl ak (x.2.2.2.2.2.2.2.1) (x.2.2.2.2.2.2.2.2.1) (x.2.2.1).Idx,Cl.sl an (x.2.2.2.2.2.2.2.2.2.1) (x.2.2.2.2.2.2.2.2.2.2) (x.2.2.1).Args,Cl.sl dF a2 c2 signs1,Cl.sl (l5 .i64) a3 c3 ops1,av]∧bC signs1 ops1 rec_ (x.1) (x.2.1) (x.2.2.1)=some r) (fun x _=>x.1) (fun x=>[(0,vp b1 0),(1,(Value.func (.func 227) #[vp b1 0] #[])),(2,vs a2 signs1.length c2),(3,vs a3 ops1.length c3),(8,vp b2 0),(9,vp b3 0)]) (fu,s1,r2,a11,c13,a8,c10,a9,c11,a10,c12) ⟨_,hI.arr (.c (.s .z) (.c (.s .z) (.c .z .n))) ⟨(.s (.s (.s .z))),.z,(.s .z),(.s (.s .z)),(.s (.s (.s (.s (.s .z))))),(.s (.s (.s (.s (.s (.s .z)))))),(.s (.s (.s (.s (.s (.s (.s .z))))))),trivial⟩,h⟩ ⟨rfl,rfl,rfl,rfl,rfl,rfl,trivial⟩ ?_
 clear h hI;rintro⟨fuel1,r3,e1,a12,c18,a13,c19,a14,c20,a15,c21⟩ w5 ⟨c22,hI,h⟩
 dsimp only at hI h ⊢
 rcases fuel1 with _ | fuel1
 ·rw[bC]at h;cases h
 rw[bC]at h
 refine T ?_
 refine bw (α:=Int×aa×(Option Addr)×Nat) (fun _=>⟨43,[]⟩) (fun x=>[(0,vp b1 0),(1,(Value.func (.func 227) #[vp b1 0] #[])),(2,vs a2 signs1.length c2),(3,vs a3 ops1.length c3),(8,vp b2 0),(9,vp b3 0),(10,vi (x.1))]) (fun x=>fun w=>∃ C,Bun C0 F w0 C w [MO.box b1 67 (af (x.2.1) (x.2.2.1) (x.2.2.2)),MO.box b2 39 #[vi 0,(aE ([]:List UInt8)),vi 0,vi 0,vi 0,vi 0,vi 0,vi 0,vi 0,vi 0,vs none 0 0,vs none 0 0,vs none 0 0],MO.box b3 39 (aq e1 a13 c19 a14 c20 a15 c21)] [Cl.sl ag (x.2.2.1) (x.2.2.2) (x.2.1).l,Cl.sl dF a2 c2 signs1,Cl.sl (l5 .i64) a3 c3 ops1,Cl.sl ai a13 c19 e1.Lin.L,Cl.sl ak a14 c20 e1.Idx,Cl.sl an a15 c21 e1.Args,av]∧iP e1 rec_ (bC signs1 ops1 rec_ fuel1) (x.1) (x.2.1)=some r) ?_ ?_
 ·clear h hI;rintro⟨op1,r4,a16,c23⟩ w6 ⟨c24,hI,h⟩
  try dsimp only at hI h ⊢
  rw[iP]at h
  refine al (T ?_)
  refine TC (fun hb h=> ?_) fun hb h=> ?_
  ·refine T ?_
   refine lA fun c25 w7 hI=> ?_
   refine nk (aA ?_)
   obtain rfl:=aj h
   exact eV (vs:=[(Value.agg (aq e1 a13 c19 a14 c20 a15 c21))]) Tryz.results74 ⟨⟨_,aK rfl rfl,ci (l:=(aX e1 a13 c19 a14 c20 a15 c21)) jT rfl aC (CellsAt.of_blk (hI.blk (.s .z)) rfl)⟩,trivial⟩ (.inl ⟨_,rfl,a13,c19,a14,c20,a15,c21,a16,c23,_,rfl,hI.arr (.c .z .n) ⟨(.s (.s (.s .z))),(.s (.s (.s (.s .z)))),(.s (.s (.s (.s (.s .z))))),.z,trivial⟩⟩)
  refine T ?_
  rcases iM h with⟨⟨r5,s2⟩,hx2,h⟩ | ⟨pa_,pn_,hx2,hp_⟩
  rotate_left
  ·subst hp_
   refine aI [3,6] false (.c (0,.q) (.c (2,.q) (.two 1 (.c (3,.s) cH) 3 (.c (1,.s) cH)))) hI (by kernel_rfl) (by kernel_rfl) ?_
   intro w12 hI
   refine V ?_
   refine da ?_ ?_
   ·skip
    refine bn rfl gn rfl (am (l:=(aX e1 a13 c19 a14 c20 a15 c21)) rfl et jT rfl aC (CellsAt.of_blk (hI.blk (.s (.s .z))) rfl)) SX.self ?_
    refine bJ (F:=F) (C:=c24) rfl rfl ?_
    obtain⟨c26,f2,hB,hl2,hk2⟩:=hI.hands (.l (.r (.r .n)))
    refine fp rfl gn rfl (gO (fs:=[vp b1 0]) (vs:=[]) (cap:=[]) rfl et vT trivial) (Calls.mono (fr hrec HS hx2) ?_)
    intro e_ w_ hq_;obtain⟨rfl,C_,hB_⟩:=eY hq_;obtain⟨C9_,-,hI_⟩:=hk2 _ _ _ _ hB_;exact .inr ⟨_,rfl,iK (.inr ⟨_,_,rfl,rfl,⟨_,hI_.arr .n trivial⟩⟩)⟩
   refine bu (F:=F) (C:=c24) rfl rfl ?_
   obtain⟨c26,f2,hB,hl2,hk2⟩:=hI.hands (.l (.r (.r .n)))
   refine fp rfl gn rfl (gO (fs:=[vp b1 0]) (vs:=[]) (cap:=[]) rfl et vT trivial) (Calls.mono (fr hrec HS hx2) ?_)
   intro e_ w_ hq_;obtain⟨rfl,C_,hB_⟩:=eY hq_;obtain⟨C9_,-,hI_⟩:=hk2 _ _ _ _ hB_;exact .inr ⟨_,rfl,iK (.inr ⟨_,_,rfl,rfl,⟨_,hI_.arr .n trivial⟩⟩)⟩
  try dsimp only at h
  refine aI [3,6] false (.c (0,.q) (.c (2,.q) (.two 1 (.c (3,.s) cH) 3 (.c (1,.s) cH)))) hI (by kernel_rfl) (by kernel_rfl) ?_
  intro w13 hI
  refine cj (α:=(Option Addr)×Nat×(Option Addr)×Nat×(Option Addr)×Nat×(Option Addr)×Nat×NP) (T:=cH) (fun x=>[(0,vp b1 0),(1,(Value.func (.func 227) #[vp b1 0] #[])),(2,vs a2 signs1.length c2),(3,vs a3 ops1.length c3),(8,vp b2 0),(9,vp b3 0),(10,vi op1),(34,vi op1),(35,(vb (decide (op1=0)))),(37,vi op1),(38,(Value.agg (aq e1 a13 c19 a14 c20 a15 c21))),(39,(Value.func (.func 227) #[vp b1 0] #[])),(40,(Value.agg (aq r5 (x.1) (x.2.1) (x.2.2.1) (x.2.2.2.1) (x.2.2.2.2.1) (x.2.2.2.2.2.1))))]) (fun x w=>Bun C0 F w0 (x.2.2.2.2.2.2.2.2) w [MO.box b1 67 (af s2 (x.2.2.2.2.2.2.1) (x.2.2.2.2.2.2.2.1)),MO.box b2 39 #[vi 0,(aE ([]:List UInt8)),vi 0,vi 0,vi 0,vi 0,vi 0,vi 0,vi 0,vi 0,vs none 0 0,vs none 0 0,vs none 0 0],MO.box b3 39 (aq e1 a13 c19 a14 c20 a15 c21)] [Cl.sl ai (x.1) (x.2.1) r5.Lin.L,Cl.sl ak (x.2.2.1) (x.2.2.2.1) r5.Idx,Cl.sl an (x.2.2.2.2.1) (x.2.2.2.2.2.1) r5.Args,Cl.sl ag (x.2.2.2.2.2.2.1) (x.2.2.2.2.2.2.2.1) s2.l,Cl.sl ag a16 c23 r4.l,Cl.sl dF a2 c2 signs1,Cl.sl (l5 .i64) a3 c3 ops1,Cl.sl ai a13 c19 e1.Lin.L,Cl.sl ak a14 c20 e1.Idx,Cl.sl an a15 c21 e1.Args,av]) (fun x w=>SN [] (DM true F (x.2.2.2.2.2.2.2.2)) w) ?_ ?_
  ·clear hI;rintro⟨a17,c27,a18,c28,a19,c29,a20,c30,c35⟩ w11 hI
   try dsimp only at hI ⊢
   unfold cH
   refine vl hI an ([e1,r5]:List GExpr) jr (.cs (dM ⟨a13,c19,a14,c20,a15,c21,rfl,hI.get (.s (.s (.s (.s (.s (.s (.s .z))))))),hI.get (.s (.s (.s (.s (.s (.s (.s (.s .z)))))))),hI.get (.s (.s (.s (.s (.s (.s (.s (.s (.s .z)))))))))⟩) (.cs (dM ⟨a17,c27,a18,c28,a19,c29,rfl,hI.get .z,hI.get (.s .z),hI.get (.s (.s .z))⟩) .nl)) fun b4 c33 w9 hI=> ?_
   refine l6 rfl gn rfl (fun w'=>(ax (vs:=[(0,vi op1),(6,vs (some ⟨b4,0,none⟩) ([e1,r5]:List GExpr).length 2)]) (cs:=#[vi op1,(aE ([]:List UInt8)),vi 0,vi 0,vi 0,vi 0,vi 0,vi 0,vi 0,vi 0,vs none 0 0,vs none 0 0,vs (some ⟨b4,0,none⟩) ([e1,r5]:List GExpr).length 2]) rfl ⟨rfl,et,⟨rfl,et,trivial⟩⟩ (by kernel_rfl))) ?_
   refine vA fun c34 w10 hI=> ?_
   refine oq ?_
   have hI:=hI.add (c:=Cl.sl ai none 0 ([]:List GMono)) SlC.nil
   have hI:=hI.add (c:=Cl.sl ak none 0 ([]:List GIndex)) SlC.nil
   obtain⟨c36,hI⟩:=hI.release .z
   exact jY (fuel1,s2,(⟨op1,([]:List UInt8),(⟨0,0⟩:GVal),(⟨0,0,0,0,0⟩:GType),(⟨0,([]:List GMono)⟩:GLin),([]:List GIndex),([e1,r5]:List GExpr)⟩:GExpr),a20,c30,none,0,none,0,some ⟨b4,0,none⟩,2) ⟨rfl,rfl,rfl,rfl,rfl,rfl,trivial⟩ ⟨_,hI.arr (.c .z (.c .z (.c .z .n))) ⟨(.s (.s (.s (.s (.s (.s .z)))))),(.s (.s .z)),(.s .z),.z,(.s (.s (.s (.s (.s (.s (.s (.s .z)))))))),(.s (.s (.s (.s (.s (.s (.s (.s (.s .z))))))))),(.s (.s (.s (.s (.s (.s (.s (.s (.s (.s (.s (.s (.s .z))))))))))))),trivial⟩,h⟩ (Nat.lt_succ_self _)
  intro hk_tr_parser_reader_chain_w4_3_0
  refine V ?_
  refine da ?_ ?_
  ·skip
   refine bn rfl gn rfl (am (l:=(aX e1 a13 c19 a14 c20 a15 c21)) rfl et jT rfl aC (CellsAt.of_blk (hI.blk (.s (.s .z))) rfl)) SX.self ?_
   refine bJ (F:=F) (C:=c24) rfl rfl ?_
   obtain⟨c26,f2,hB,hl2,hk2⟩:=hI.hands (.l (.r (.r .n)))
   refine fo rfl gn rfl (gO (fs:=[vp b1 0]) (vs:=[]) (cap:=[]) rfl et vT trivial) (Calls.mono (fr hrec HS hx2) ?_)
   intro e_ w8 hq_;obtain⟨a17,c27,a18,c28,a19,c29,a20,c30,c31,rfl,hB2⟩:=eX hq_
   obtain⟨c32,hs2,hI⟩:=hk2 _ _ _ _ hB2
   dsimp only[ca,na]at hI
   refine⟨_,rfl,DM true F c32,hs2,?_⟩
   exact aW (hk_tr_parser_reader_chain_w4_3_0 (a17,c27,a18,c28,a19,c29,a20,c30,c32) _ (hI.arr (.c .z (.c .z (.c .z .n))) ⟨.z,(.s .z),(.s (.s .z)),(.s (.s (.s .z))),(.s (.s (.s (.s .z)))),(.s (.s (.s (.s (.s .z))))),(.s (.s (.s (.s (.s (.s .z)))))),(.s (.s (.s (.s (.s (.s (.s .z))))))),(.s (.s (.s (.s (.s (.s (.s (.s .z)))))))),(.s (.s (.s (.s (.s (.s (.s (.s (.s .z))))))))),(.s (.s (.s (.s (.s (.s (.s (.s (.s (.s .z)))))))))),trivial⟩)) ⟨rfl,rfl,rfl,rfl,rfl,rfl,rfl,rfl,rfl,rfl,rfl,rfl,rfl,trivial⟩
  refine bu (F:=F) (C:=c24) rfl rfl ?_
  obtain⟨c26,f2,hB,hl2,hk2⟩:=hI.hands (.l (.r (.r .n)))
  refine fo rfl gn rfl (gO (fs:=[vp b1 0]) (vs:=[]) (cap:=[]) rfl et vT trivial) (Calls.mono (fr hrec HS hx2) ?_)
  intro e_ w8 hq_;obtain⟨a17,c27,a18,c28,a19,c29,a20,c30,c31,rfl,hB2⟩:=eX hq_
  obtain⟨c32,hs2,hI⟩:=hk2 _ _ _ _ hB2
  dsimp only[ca,na]at hI
  refine⟨_,rfl,DM true F c32,hs2,?_⟩
  refine bn rfl gn rfl (am (l:=(aX e1 a13 c19 a14 c20 a15 c21)) rfl et jT rfl aC (CellsAt.of_blk (hI.blk (.s (.s .z))) rfl)) SX.self ?_
  exact aW (hk_tr_parser_reader_chain_w4_3_0 (a17,c27,a18,c28,a19,c29,a20,c30,c32) _ (hI.arr (.c .z (.c .z (.c .z .n))) ⟨.z,(.s .z),(.s (.s .z)),(.s (.s (.s .z))),(.s (.s (.s (.s .z)))),(.s (.s (.s (.s (.s .z))))),(.s (.s (.s (.s (.s (.s .z)))))),(.s (.s (.s (.s (.s (.s (.s .z))))))),(.s (.s (.s (.s (.s (.s (.s (.s .z)))))))),(.s (.s (.s (.s (.s (.s (.s (.s (.s .z))))))))),(.s (.s (.s (.s (.s (.s (.s (.s (.s (.s .z)))))))))),trivial⟩)) ⟨rfl,rfl,rfl,rfl,rfl,rfl,rfl,rfl,rfl,rfl,rfl,rfl,rfl,trivial⟩
 refine T ?_
 refine bh (α:=Nat×Int×Int×aa×(Option Addr)×Nat) (fun x=>fun w=>∃ C,Bun C0 F w0 C w [MO.box b1 67 (af (x.2.2.2.1) (x.2.2.2.2.1) (x.2.2.2.2.2)),MO.box b2 39 #[vi 0,(aE ([]:List UInt8)),vi 0,vi 0,vi 0,vi 0,vi 0,vi 0,vi 0,vi 0,vs none 0 0,vs none 0 0,vs none 0 0],MO.box b3 39 (aq e1 a13 c19 a14 c20 a15 c21)] [Cl.sl ag (x.2.2.2.2.1) (x.2.2.2.2.2) (x.2.2.2.1).l,Cl.sl dF a2 c2 signs1,Cl.sl (l5 .i64) a3 c3 ops1,Cl.sl ai a13 c19 e1.Lin.L,Cl.sl ak a14 c20 e1.Idx,Cl.sl an a15 c21 e1.Args,av]∧bV signs1 ops1 e1 rec_ (bC signs1 ops1 rec_ fuel1) (x.1) (x.2.1) (x.2.2.1) (x.2.2.2.1)=some r) (fun x _=>x.1) (fun x=>[(0,vp b1 0),(1,(Value.func (.func 227) #[vp b1 0] #[])),(2,vs a2 signs1.length c2),(3,vs a3 ops1.length c3),(8,vp b2 0),(9,vp b3 0),(10,vi (x.2.1)),(15,vs a2 signs1.length c2),(16,vi (signs1.length:Int)),(17,vi (x.2.2.1))]) (fu,0,0,r3,a12,c18) ⟨_,hI.arr (.c .z (.c .z (.c .z .n))) ⟨.z,(.s (.s (.s (.s .z)))),(.s (.s (.s (.s (.s .z))))),(.s .z),(.s (.s .z)),(.s (.s (.s .z))),(.s (.s (.s (.s (.s (.s .z)))))),trivial⟩,h⟩ ⟨rfl,rfl,rfl,rfl,rfl,rfl,rfl,rfl,rfl,rfl,trivial⟩ ?_
 clear h hI;rintro⟨fuel2,op2,i1,r6,a21,c37⟩ w14 ⟨c38,hI,h⟩
 dsimp only at hI h ⊢
 rcases fuel2 with _ | fuel2
 ·rw[bV]at h;cases h
 rw[bV]at h
 refine T ?_
 refine al (vm h et (fun hb h=> ?_) (fun hb h=> ?_))
 ·refine T ?_
  refine bw (α:=Int×aa×(Option Addr)×Nat) (fun _=>⟨43,[]⟩) (fun x=>[(0,vp b1 0),(1,(Value.func (.func 227) #[vp b1 0] #[])),(2,vs a2 signs1.length c2),(3,vs a3 ops1.length c3),(8,vp b2 0),(9,vp b3 0),(10,vi (x.1)),(15,vs a2 signs1.length c2),(16,vi (signs1.length:Int)),(17,vi i1)]) (fun x=>fun w=>∃ C,Bun C0 F w0 C w [MO.box b1 67 (af (x.2.1) (x.2.2.1) (x.2.2.2)),MO.box b2 39 #[vi 0,(aE ([]:List UInt8)),vi 0,vi 0,vi 0,vi 0,vi 0,vi 0,vi 0,vi 0,vs none 0 0,vs none 0 0,vs none 0 0],MO.box b3 39 (aq e1 a13 c19 a14 c20 a15 c21)] [Cl.sl ag (x.2.2.1) (x.2.2.2) (x.2.1).l,Cl.sl dF a2 c2 signs1,Cl.sl (l5 .i64) a3 c3 ops1,Cl.sl ai a13 c19 e1.Lin.L,Cl.sl ak a14 c20 e1.Idx,Cl.sl an a15 c21 e1.Args,av]∧gj (bV signs1 ops1 e1 rec_ (bC signs1 ops1 rec_ fuel1) fuel2) i1 (x.1) (x.2.1)=some r) ?_ ?_
  ·clear h hI;rintro⟨op3,r7,a22,c39⟩ w15 ⟨c40,hI,h⟩
   try dsimp only at hI h ⊢
   rw[gj]at h
   refine T ?_
   refine aM ?_
   exact jY (fuel2,op3,ar (i1+1),r7,a22,c39) ⟨rfl,rfl,rfl,rfl,rfl,rfl,rfl,rfl,rfl,rfl,trivial⟩ ⟨_,hI.arr (.c .z (.c .z (.c .z .n))) ⟨.z,(.s .z),(.s (.s .z)),(.s (.s (.s .z))),(.s (.s (.s (.s .z)))),(.s (.s (.s (.s (.s .z))))),(.s (.s (.s (.s (.s (.s .z)))))),trivial⟩,h⟩ (Nat.lt_succ_self _)
  refine T ?_
  obtain⟨e2,hx3,h⟩:=ae h
  obtain⟨ad1,cs1,hA1,hr1,hq1⟩:=hI.clat (.s .z) hx3
  obtain rfl:cs1=[(aE e2)]:=hr1
  refine sI ?_
  refine T ?_
  obtain⟨c41,f3,hB,hl3,hk3⟩:=hI.hands (.l (.r (.r .n)))
  obtain⟨⟨r8,s3⟩,hx4,h⟩:=ae h
  try dsimp only at h
  refine pT (fun v_ w_=>v_=(vb r8)∧∃ (a23:Option Addr),∃ (c42:Nat),∃ C_:NP,Bun c41 f3 w14 C_ w_ [MO.box b1 67 (af s3 a23 c42)] [Cl.sl ag a23 c42 s3.l]) (aT rfl rfl rfl rfl) rfl (fun hc=>(aF (vs:=[vp b1 0,(aE e2)]) rfl zY ⟨(aQ et hc),⟨(aQ et hc),trivial⟩⟩)) (fun hc=>(aO HS (Ag hc hx4)).mono fun e_ w_ hq_=>(let ⟨a23,c42,C_,he_,hB_⟩:=hq_;⟨_,he_,rfl,a23,c42,C_,hB_⟩)) ?_
  intro v_ w16 h1_ h2_
  obtain⟨hv_,a23,c42,c43,hB2⟩:gv (decide (op2=0)) v_=gv (decide (op2=0)) (vb r8)∧∃ (a23:Option Addr),∃ (c42:Nat),∃ C_:NP,Bun c41 f3 w14 C_ w16 [MO.box b1 67 (af s3 a23 c42)] [Cl.sl ag a23 c42 s3.l]:=by
   rcases Bool.eq_false_or_eq_true (decide (op2=0))with hc | hc
   ·obtain⟨rfl,hq_⟩:=h1_ hc;exact⟨rfl,hq_⟩
   have e1_:=h2_ hc;subst e1_;obtain⟨rfl,rfl⟩:=Ah hc hx4;exact⟨by rw[pl hc,pl hc],a21,c37,_,hB.subs ⟨.z,trivial⟩⟩
  rw[hv_];clear h1_ h2_
  refine HN hk3 hB2 fun c44 hI=> ?_
  refine TC (fun hb h=> ?_) fun hb h=> ?_
  ·refine T ?_
   obtain⟨e3,hx5,h⟩:=ae h
   obtain⟨ad2,cs2,hA2,hr2,hq2⟩:=hI.clat (.s (.s (.s .z))) hx5
   obtain rfl:cs2=[vi e3]:=hr2
   refine sI ?_
   refine T ?_
   refine aM ?_
   exact bi (e3,s3,a23,c42) ⟨rfl,rfl,rfl,rfl,rfl,rfl,rfl,rfl,rfl,rfl,trivial⟩ ⟨_,hI.arr (.c .z (.c .z (.c .z .n))) ⟨.z,(.s (.s .z)),(.s (.s (.s .z))),(.s (.s (.s (.s .z)))),(.s (.s (.s (.s (.s .z))))),(.s (.s (.s (.s (.s (.s .z)))))),(.s (.s (.s (.s (.s (.s (.s .z))))))),trivial⟩,h⟩ rfl
  exact bf (bi (op2,s3,a23,c42) ⟨rfl,rfl,rfl,rfl,rfl,rfl,rfl,rfl,rfl,rfl,trivial⟩ ⟨_,hI.arr (.c .z (.c .z (.c .z .n))) ⟨.z,(.s (.s .z)),(.s (.s (.s .z))),(.s (.s (.s (.s .z)))),(.s (.s (.s (.s (.s .z))))),(.s (.s (.s (.s (.s (.s .z)))))),(.s (.s (.s (.s (.s (.s (.s .z))))))),trivial⟩,h⟩ rfl)
 refine bk ?_
 refine eU ?_
 exact bi (op2,r6,a21,c37) ⟨rfl,rfl,rfl,rfl,rfl,rfl,rfl,trivial⟩ ⟨_,hI.arr (.c .z (.c .z (.c .z .n))) ⟨.z,(.s .z),(.s (.s .z)),(.s (.s (.s .z))),(.s (.s (.s (.s .z)))),(.s (.s (.s (.s (.s .z))))),(.s (.s (.s (.s (.s (.s .z)))))),trivial⟩,h⟩ rfl
theorem gQ {rec_:(aa→Option (bz (GExpr×aa)))} (hrec:x9 rec_) {r1:aa} (hI:Bun C0 F w0 C0 w0 [MO.box b1 67 (af r1 a1 c1)] [Cl.sl ag a1 c1 r1.l,av]) {r:bz (GExpr×aa)} (h:eg rec_ r1=some r):CP C0 F w0 193 #[vp b1 0] r fun rx e w=>∃ a2 c2 a3 c3 a4 c4 a5 c5 C,e= .returned (Value.agg (aq rx.1 a2 c2 a3 c3 a4 c4))∧Bun C0 F w0 C w [MO.box b1 67 (af rx.2 a5 c5)] [Cl.sl ai a2 c2 rx.1.Lin.L,Cl.sl ak a3 c3 rx.1.Idx,Cl.sl an a4 c4 rx.1.Args,Cl.sl ag a5 c5 rx.2.l]:=by
 refine fU (l:=[vp b1 0]) Tryz.func193 rfl Tryz.ntmps193 rfl ?_
 rw[eg]at h
 refine sr (cF (cs:=#[vi 0,(aE ([]:List UInt8)),vi 0,vi 0,vi 0,vi 0,vi 0,vi 0,vi 0,vi 0,vs none 0 0,vs none 0 0,vs none 0 0]) hI gn rfl rfl dN rfl ?_)
 intro b2 c6 w1 hI
 refine T ?_
 refine sq (n7 (vs:=[vp b1 0]) rfl rfl ⟨et,trivial⟩) ?_
 refine ll hI dF ([([43]:List UInt8),([45]:List UInt8)]:List (List UInt8)) lZ Rr fun b3 c7 w2 hI=> ?_
 refine ll hI (l5 .i64) ([4,5]:List Int) wh Rr fun b4 c8 w3 hI=> ?_
 obtain⟨c9,hI⟩:=hI.release (.s .z)
 obtain⟨c10,hI⟩:=hI.release .z
 obtain⟨c11,f1,hB,hl1,hk1⟩:=hI.hands (.r (.l .n))
 refine eG h (fun _ hx1=>pq hrec HS hx1) (lw hk1) (Rc Tryz.func74) ?_
 rintro⟨r2,s1⟩ hx1 h _ w4 ⟨a6,c12,a7,c13,a8,c14,a9,c15,c16,rfl,hB2⟩
 try dsimp only at h
 refine HN hk1 hB2 fun c17 hI=> ?_
 refine⟨_,rfl,?_⟩
 refine lA fun c18 w5 hI=> ?_
 refine nk (aA ?_)
 obtain rfl:=aj h
 refine QG ?_
 exact .inl ⟨_,rfl,a6,c12,a7,c13,a8,c14,a9,c15,_,rfl,hI.arr GO SU⟩
def cI:Tr:=(.c (4,.s) (.c (5,.q) (.c (6,.s) .n)))
theorem pr {rec_:(aa→Option (bz (GExpr×aa)))} (hrec:x9 rec_) {r1:aa} {signs1:List (List UInt8)} {ops1:List Int} (hI:Bun C0 F w0 C0 w0 [MO.box b1 67 (af r1 a1 c1)] [Cl.sl ag a1 c1 r1.l,Cl.sl dF a2 c2 signs1,Cl.sl (l5 .i64) a3 c3 ops1,av]) {r:bz (GExpr×aa)} (h:fI rec_ r1 signs1 ops1=some r):CP C0 F w0 74 #[vp b1 0,(Value.func (.func 193) #[vp b1 0] #[]),vs a2 signs1.length c2,vs a3 ops1.length c3] r fun rx e w=>∃ a4 c4 a5 c5 a6 c6 a7 c7 C,e= .returned (Value.agg (aq rx.1 a4 c4 a5 c5 a6 c6))∧Bun C0 F w0 C w [MO.box b1 67 (af rx.2 a7 c7)] [Cl.sl ai a4 c4 rx.1.Lin.L,Cl.sl ak a5 c5 rx.1.Idx,Cl.sl an a6 c6 rx.1.Args,Cl.sl ag a7 c7 rx.2.l]:=by
 refine fU (l:=[vp b1 0,(Value.func (.func 193) #[vp b1 0] #[]),vs a2 signs1.length c2,vs a3 ops1.length c3]) Tryz.func74 rfl Tryz.ntmps74 rfl ?_
 rw[fI]at h
 refine sr (cF (cs:=#[vi 0,(aE ([]:List UInt8)),vi 0,vi 0,vi 0,vi 0,vi 0,vi 0,vi 0,vi 0,vs none 0 0,vs none 0 0,vs none 0 0]) hI gn rfl rfl dN rfl ?_)
 intro b2 c8 w1 hI
 refine T ?_
 obtain⟨c9,f1,hB,hl1,hk1⟩:=hI.hands (.r (.l .n))
 refine eG h (fun _ hx1=>gQ hrec HS hx1) (lw hk1) (gO (fs:=[vp b1 0]) (vs:=[]) (cap:=[]) rfl et vU trivial) ?_
 rintro⟨r2,s1⟩ hx1 h _ w2 ⟨a8,c10,a9,c11,a10,c12,a11,c13,c14,rfl,hB2⟩
 try dsimp only at h
 refine HN hk1 hB2 fun c15 hI=> ?_
 refine⟨_,rfl,?_⟩
 refine lN fun b3 c16 w3 hI=> ?_
 refine lA fun c17 w4 hI=> ?_
 refine T ?_
 refine bh (α:=Nat×aa×GExpr×(Option Addr)×Nat×(Option Addr)×Nat×(Option Addr)×Nat×(Option Addr)×Nat) (fun x=>fun w=>∃ C,Bun C0 F w0 C w [MO.box b1 67 (af (x.2.1) (x.2.2.2.1) (x.2.2.2.2.1)),MO.box b2 39 #[vi 0,(aE ([]:List UInt8)),vi 0,vi 0,vi 0,vi 0,vi 0,vi 0,vi 0,vi 0,vs none 0 0,vs none 0 0,vs none 0 0],MO.box b3 39 (aq (x.2.2.1) (x.2.2.2.2.2.1) (x.2.2.2.2.2.2.1) (x.2.2.2.2.2.2.2.1) (x.2.2.2.2.2.2.2.2.1) (x.2.2.2.2.2.2.2.2.2.1) (x.2.2.2.2.2.2.2.2.2.2))] [Cl.sl ag (x.2.2.2.1) (x.2.2.2.2.1) (x.2.1).l,Cl.sl ai (x.2.2.2.2.2.1) (x.2.2.2.2.2.2.1) (x.2.2.1).Lin.L,Cl.sl ak (x.2.2.2.2.2.2.2.1) (x.2.2.2.2.2.2.2.2.1) (x.2.2.1).Idx,Cl.sl an (x.2.2.2.2.2.2.2.2.2.1) (x.2.2.2.2.2.2.2.2.2.2) (x.2.2.1).Args,Cl.sl dF a2 c2 signs1,Cl.sl (l5 .i64) a3 c3 ops1,av]∧bD signs1 ops1 rec_ (x.1) (x.2.1) (x.2.2.1)=some r) (fun x _=>x.1) (fun x=>[(0,vp b1 0),(1,(Value.func (.func 193) #[vp b1 0] #[])),(2,vs a2 signs1.length c2),(3,vs a3 ops1.length c3),(8,vp b2 0),(9,vp b3 0)]) (fu,s1,r2,a11,c13,a8,c10,a9,c11,a10,c12) ⟨_,hI.arr (.c (.s .z) (.c (.s .z) (.c .z .n))) ⟨(.s (.s (.s .z))),.z,(.s .z),(.s (.s .z)),(.s (.s (.s (.s (.s .z))))),(.s (.s (.s (.s (.s (.s .z)))))),(.s (.s (.s (.s (.s (.s (.s .z))))))),trivial⟩,h⟩ ⟨rfl,rfl,rfl,rfl,rfl,rfl,trivial⟩ ?_
 clear h hI;rintro⟨fuel1,r3,e1,a12,c18,a13,c19,a14,c20,a15,c21⟩ w5 ⟨c22,hI,h⟩
 dsimp only at hI h ⊢
 rcases fuel1 with _ | fuel1
 ·rw[bD]at h;cases h
 rw[bD]at h
 refine T ?_
 refine bw (α:=Int×aa×(Option Addr)×Nat) (fun _=>⟨43,[]⟩) (fun x=>[(0,vp b1 0),(1,(Value.func (.func 193) #[vp b1 0] #[])),(2,vs a2 signs1.length c2),(3,vs a3 ops1.length c3),(8,vp b2 0),(9,vp b3 0),(10,vi (x.1))]) (fun x=>fun w=>∃ C,Bun C0 F w0 C w [MO.box b1 67 (af (x.2.1) (x.2.2.1) (x.2.2.2)),MO.box b2 39 #[vi 0,(aE ([]:List UInt8)),vi 0,vi 0,vi 0,vi 0,vi 0,vi 0,vi 0,vi 0,vs none 0 0,vs none 0 0,vs none 0 0],MO.box b3 39 (aq e1 a13 c19 a14 c20 a15 c21)] [Cl.sl ag (x.2.2.1) (x.2.2.2) (x.2.1).l,Cl.sl dF a2 c2 signs1,Cl.sl (l5 .i64) a3 c3 ops1,Cl.sl ai a13 c19 e1.Lin.L,Cl.sl ak a14 c20 e1.Idx,Cl.sl an a15 c21 e1.Args,av]∧iQ e1 rec_ (bD signs1 ops1 rec_ fuel1) (x.1) (x.2.1)=some r) ?_ ?_
 ·clear h hI;rintro⟨op1,r4,a16,c23⟩ w6 ⟨c24,hI,h⟩
  try dsimp only at hI h ⊢
  rw[iQ]at h
  refine al (T ?_)
  refine TC (fun hb h=> ?_) fun hb h=> ?_
  ·refine T ?_
   refine lA fun c25 w7 hI=> ?_
   refine nk (aA ?_)
   obtain rfl:=aj h
   exact eV (vs:=[(Value.agg (aq e1 a13 c19 a14 c20 a15 c21))]) Tryz.results74 ⟨⟨_,aK rfl rfl,ci (l:=(aX e1 a13 c19 a14 c20 a15 c21)) jT rfl aC (CellsAt.of_blk (hI.blk (.s .z)) rfl)⟩,trivial⟩ (.inl ⟨_,rfl,a13,c19,a14,c20,a15,c21,a16,c23,_,rfl,hI.arr (.c .z .n) ⟨(.s (.s (.s .z))),(.s (.s (.s (.s .z)))),(.s (.s (.s (.s (.s .z))))),.z,trivial⟩⟩)
  refine T ?_
  rcases iM h with⟨⟨r5,s2⟩,hx2,h⟩ | ⟨pa_,pn_,hx2,hp_⟩
  rotate_left
  ·subst hp_
   refine aI [3,6] false (.c (0,.q) (.c (2,.q) (.two 1 (.c (3,.s) cI) 3 (.c (1,.s) cI)))) hI (by kernel_rfl) (by kernel_rfl) ?_
   intro w12 hI
   refine V ?_
   refine da ?_ ?_
   ·skip
    refine bn rfl gn rfl (am (l:=(aX e1 a13 c19 a14 c20 a15 c21)) rfl et jT rfl aC (CellsAt.of_blk (hI.blk (.s (.s .z))) rfl)) SX.self ?_
    refine bJ (F:=F) (C:=c24) rfl rfl ?_
    obtain⟨c26,f2,hB,hl2,hk2⟩:=hI.hands (.l (.r (.r .n)))
    refine fp rfl gn rfl (gO (fs:=[vp b1 0]) (vs:=[]) (cap:=[]) rfl et vU trivial) (Calls.mono (gQ hrec HS hx2) ?_)
    intro e_ w_ hq_;obtain⟨rfl,C_,hB_⟩:=eY hq_;obtain⟨C9_,-,hI_⟩:=hk2 _ _ _ _ hB_;exact .inr ⟨_,rfl,iK (.inr ⟨_,_,rfl,rfl,⟨_,hI_.arr .n trivial⟩⟩)⟩
   refine bu (F:=F) (C:=c24) rfl rfl ?_
   obtain⟨c26,f2,hB,hl2,hk2⟩:=hI.hands (.l (.r (.r .n)))
   refine fp rfl gn rfl (gO (fs:=[vp b1 0]) (vs:=[]) (cap:=[]) rfl et vU trivial) (Calls.mono (gQ hrec HS hx2) ?_)
   intro e_ w_ hq_;obtain⟨rfl,C_,hB_⟩:=eY hq_;obtain⟨C9_,-,hI_⟩:=hk2 _ _ _ _ hB_;exact .inr ⟨_,rfl,iK (.inr ⟨_,_,rfl,rfl,⟨_,hI_.arr .n trivial⟩⟩)⟩
  try dsimp only at h
  refine aI [3,6] false (.c (0,.q) (.c (2,.q) (.two 1 (.c (3,.s) cI) 3 (.c (1,.s) cI)))) hI (by kernel_rfl) (by kernel_rfl) ?_
  intro w13 hI
  refine cj (α:=(Option Addr)×Nat×(Option Addr)×Nat×(Option Addr)×Nat×(Option Addr)×Nat×NP) (T:=cI) (fun x=>[(0,vp b1 0),(1,(Value.func (.func 193) #[vp b1 0] #[])),(2,vs a2 signs1.length c2),(3,vs a3 ops1.length c3),(8,vp b2 0),(9,vp b3 0),(10,vi op1),(34,vi op1),(35,(vb (decide (op1=0)))),(37,vi op1),(38,(Value.agg (aq e1 a13 c19 a14 c20 a15 c21))),(39,(Value.func (.func 193) #[vp b1 0] #[])),(40,(Value.agg (aq r5 (x.1) (x.2.1) (x.2.2.1) (x.2.2.2.1) (x.2.2.2.2.1) (x.2.2.2.2.2.1))))]) (fun x w=>Bun C0 F w0 (x.2.2.2.2.2.2.2.2) w [MO.box b1 67 (af s2 (x.2.2.2.2.2.2.1) (x.2.2.2.2.2.2.2.1)),MO.box b2 39 #[vi 0,(aE ([]:List UInt8)),vi 0,vi 0,vi 0,vi 0,vi 0,vi 0,vi 0,vi 0,vs none 0 0,vs none 0 0,vs none 0 0],MO.box b3 39 (aq e1 a13 c19 a14 c20 a15 c21)] [Cl.sl ai (x.1) (x.2.1) r5.Lin.L,Cl.sl ak (x.2.2.1) (x.2.2.2.1) r5.Idx,Cl.sl an (x.2.2.2.2.1) (x.2.2.2.2.2.1) r5.Args,Cl.sl ag (x.2.2.2.2.2.2.1) (x.2.2.2.2.2.2.2.1) s2.l,Cl.sl ag a16 c23 r4.l,Cl.sl dF a2 c2 signs1,Cl.sl (l5 .i64) a3 c3 ops1,Cl.sl ai a13 c19 e1.Lin.L,Cl.sl ak a14 c20 e1.Idx,Cl.sl an a15 c21 e1.Args,av]) (fun x w=>SN [] (DM true F (x.2.2.2.2.2.2.2.2)) w) ?_ ?_
  ·clear hI;rintro⟨a17,c27,a18,c28,a19,c29,a20,c30,c35⟩ w11 hI
   try dsimp only at hI ⊢
   unfold cI
   refine vl hI an ([e1,r5]:List GExpr) jr (.cs (dM ⟨a13,c19,a14,c20,a15,c21,rfl,hI.get (.s (.s (.s (.s (.s (.s (.s .z))))))),hI.get (.s (.s (.s (.s (.s (.s (.s (.s .z)))))))),hI.get (.s (.s (.s (.s (.s (.s (.s (.s (.s .z)))))))))⟩) (.cs (dM ⟨a17,c27,a18,c28,a19,c29,rfl,hI.get .z,hI.get (.s .z),hI.get (.s (.s .z))⟩) .nl)) fun b4 c33 w9 hI=> ?_
   refine l6 rfl gn rfl (fun w'=>(ax (vs:=[(0,vi op1),(6,vs (some ⟨b4,0,none⟩) ([e1,r5]:List GExpr).length 2)]) (cs:=#[vi op1,(aE ([]:List UInt8)),vi 0,vi 0,vi 0,vi 0,vi 0,vi 0,vi 0,vi 0,vs none 0 0,vs none 0 0,vs (some ⟨b4,0,none⟩) ([e1,r5]:List GExpr).length 2]) rfl ⟨rfl,et,⟨rfl,et,trivial⟩⟩ (by kernel_rfl))) ?_
   refine vA fun c34 w10 hI=> ?_
   refine oq ?_
   have hI:=hI.add (c:=Cl.sl ai none 0 ([]:List GMono)) SlC.nil
   have hI:=hI.add (c:=Cl.sl ak none 0 ([]:List GIndex)) SlC.nil
   obtain⟨c36,hI⟩:=hI.release .z
   exact jY (fuel1,s2,(⟨op1,([]:List UInt8),(⟨0,0⟩:GVal),(⟨0,0,0,0,0⟩:GType),(⟨0,([]:List GMono)⟩:GLin),([]:List GIndex),([e1,r5]:List GExpr)⟩:GExpr),a20,c30,none,0,none,0,some ⟨b4,0,none⟩,2) ⟨rfl,rfl,rfl,rfl,rfl,rfl,trivial⟩ ⟨_,hI.arr (.c .z (.c .z (.c .z .n))) ⟨(.s (.s (.s (.s (.s (.s .z)))))),(.s (.s .z)),(.s .z),.z,(.s (.s (.s (.s (.s (.s (.s (.s .z)))))))),(.s (.s (.s (.s (.s (.s (.s (.s (.s .z))))))))),(.s (.s (.s (.s (.s (.s (.s (.s (.s (.s (.s (.s (.s .z))))))))))))),trivial⟩,h⟩ (Nat.lt_succ_self _)
  intro hk_tr_parser_reader_chain_w3_3_0
  refine V ?_
  refine da ?_ ?_
  ·skip
   refine bn rfl gn rfl (am (l:=(aX e1 a13 c19 a14 c20 a15 c21)) rfl et jT rfl aC (CellsAt.of_blk (hI.blk (.s (.s .z))) rfl)) SX.self ?_
   refine bJ (F:=F) (C:=c24) rfl rfl ?_
   obtain⟨c26,f2,hB,hl2,hk2⟩:=hI.hands (.l (.r (.r .n)))
   refine fo rfl gn rfl (gO (fs:=[vp b1 0]) (vs:=[]) (cap:=[]) rfl et vU trivial) (Calls.mono (gQ hrec HS hx2) ?_)
   intro e_ w8 hq_;obtain⟨a17,c27,a18,c28,a19,c29,a20,c30,c31,rfl,hB2⟩:=eX hq_
   obtain⟨c32,hs2,hI⟩:=hk2 _ _ _ _ hB2
   dsimp only[ca,na]at hI
   refine⟨_,rfl,DM true F c32,hs2,?_⟩
   exact aW (hk_tr_parser_reader_chain_w3_3_0 (a17,c27,a18,c28,a19,c29,a20,c30,c32) _ (hI.arr (.c .z (.c .z (.c .z .n))) ⟨.z,(.s .z),(.s (.s .z)),(.s (.s (.s .z))),(.s (.s (.s (.s .z)))),(.s (.s (.s (.s (.s .z))))),(.s (.s (.s (.s (.s (.s .z)))))),(.s (.s (.s (.s (.s (.s (.s .z))))))),(.s (.s (.s (.s (.s (.s (.s (.s .z)))))))),(.s (.s (.s (.s (.s (.s (.s (.s (.s .z))))))))),(.s (.s (.s (.s (.s (.s (.s (.s (.s (.s .z)))))))))),trivial⟩)) ⟨rfl,rfl,rfl,rfl,rfl,rfl,rfl,rfl,rfl,rfl,rfl,rfl,rfl,trivial⟩
  refine bu (F:=F) (C:=c24) rfl rfl ?_
  obtain⟨c26,f2,hB,hl2,hk2⟩:=hI.hands (.l (.r (.r .n)))
  refine fo rfl gn rfl (gO (fs:=[vp b1 0]) (vs:=[]) (cap:=[]) rfl et vU trivial) (Calls.mono (gQ hrec HS hx2) ?_)
  intro e_ w8 hq_;obtain⟨a17,c27,a18,c28,a19,c29,a20,c30,c31,rfl,hB2⟩:=eX hq_
  obtain⟨c32,hs2,hI⟩:=hk2 _ _ _ _ hB2
  dsimp only[ca,na]at hI
  refine⟨_,rfl,DM true F c32,hs2,?_⟩
  refine bn rfl gn rfl (am (l:=(aX e1 a13 c19 a14 c20 a15 c21)) rfl et jT rfl aC (CellsAt.of_blk (hI.blk (.s (.s .z))) rfl)) SX.self ?_
  exact aW (hk_tr_parser_reader_chain_w3_3_0 (a17,c27,a18,c28,a19,c29,a20,c30,c32) _ (hI.arr (.c .z (.c .z (.c .z .n))) ⟨.z,(.s .z),(.s (.s .z)),(.s (.s (.s .z))),(.s (.s (.s (.s .z)))),(.s (.s (.s (.s (.s .z))))),(.s (.s (.s (.s (.s (.s .z)))))),(.s (.s (.s (.s (.s (.s (.s .z))))))),(.s (.s (.s (.s (.s (.s (.s (.s .z)))))))),(.s (.s (.s (.s (.s (.s (.s (.s (.s .z))))))))),(.s (.s (.s (.s (.s (.s (.s (.s (.s (.s .z)))))))))),trivial⟩)) ⟨rfl,rfl,rfl,rfl,rfl,rfl,rfl,rfl,rfl,rfl,rfl,rfl,rfl,trivial⟩
 refine T ?_
 refine bh (α:=Nat×Int×Int×aa×(Option Addr)×Nat) (fun x=>fun w=>∃ C,Bun C0 F w0 C w [MO.box b1 67 (af (x.2.2.2.1) (x.2.2.2.2.1) (x.2.2.2.2.2)),MO.box b2 39 #[vi 0,(aE ([]:List UInt8)),vi 0,vi 0,vi 0,vi 0,vi 0,vi 0,vi 0,vi 0,vs none 0 0,vs none 0 0,vs none 0 0],MO.box b3 39 (aq e1 a13 c19 a14 c20 a15 c21)] [Cl.sl ag (x.2.2.2.2.1) (x.2.2.2.2.2) (x.2.2.2.1).l,Cl.sl dF a2 c2 signs1,Cl.sl (l5 .i64) a3 c3 ops1,Cl.sl ai a13 c19 e1.Lin.L,Cl.sl ak a14 c20 e1.Idx,Cl.sl an a15 c21 e1.Args,av]∧bW signs1 ops1 e1 rec_ (bD signs1 ops1 rec_ fuel1) (x.1) (x.2.1) (x.2.2.1) (x.2.2.2.1)=some r) (fun x _=>x.1) (fun x=>[(0,vp b1 0),(1,(Value.func (.func 193) #[vp b1 0] #[])),(2,vs a2 signs1.length c2),(3,vs a3 ops1.length c3),(8,vp b2 0),(9,vp b3 0),(10,vi (x.2.1)),(15,vs a2 signs1.length c2),(16,vi (signs1.length:Int)),(17,vi (x.2.2.1))]) (fu,0,0,r3,a12,c18) ⟨_,hI.arr (.c .z (.c .z (.c .z .n))) ⟨.z,(.s (.s (.s (.s .z)))),(.s (.s (.s (.s (.s .z))))),(.s .z),(.s (.s .z)),(.s (.s (.s .z))),(.s (.s (.s (.s (.s (.s .z)))))),trivial⟩,h⟩ ⟨rfl,rfl,rfl,rfl,rfl,rfl,rfl,rfl,rfl,rfl,trivial⟩ ?_
 clear h hI;rintro⟨fuel2,op2,i1,r6,a21,c37⟩ w14 ⟨c38,hI,h⟩
 dsimp only at hI h ⊢
 rcases fuel2 with _ | fuel2
 ·rw[bW]at h;cases h
 rw[bW]at h
 refine T ?_
 refine al (vm h et (fun hb h=> ?_) (fun hb h=> ?_))
 ·refine T ?_
  refine bw (α:=Int×aa×(Option Addr)×Nat) (fun _=>⟨43,[]⟩) (fun x=>[(0,vp b1 0),(1,(Value.func (.func 193) #[vp b1 0] #[])),(2,vs a2 signs1.length c2),(3,vs a3 ops1.length c3),(8,vp b2 0),(9,vp b3 0),(10,vi (x.1)),(15,vs a2 signs1.length c2),(16,vi (signs1.length:Int)),(17,vi i1)]) (fun x=>fun w=>∃ C,Bun C0 F w0 C w [MO.box b1 67 (af (x.2.1) (x.2.2.1) (x.2.2.2)),MO.box b2 39 #[vi 0,(aE ([]:List UInt8)),vi 0,vi 0,vi 0,vi 0,vi 0,vi 0,vi 0,vi 0,vs none 0 0,vs none 0 0,vs none 0 0],MO.box b3 39 (aq e1 a13 c19 a14 c20 a15 c21)] [Cl.sl ag (x.2.2.1) (x.2.2.2) (x.2.1).l,Cl.sl dF a2 c2 signs1,Cl.sl (l5 .i64) a3 c3 ops1,Cl.sl ai a13 c19 e1.Lin.L,Cl.sl ak a14 c20 e1.Idx,Cl.sl an a15 c21 e1.Args,av]∧gk (bW signs1 ops1 e1 rec_ (bD signs1 ops1 rec_ fuel1) fuel2) i1 (x.1) (x.2.1)=some r) ?_ ?_
  ·clear h hI;rintro⟨op3,r7,a22,c39⟩ w15 ⟨c40,hI,h⟩
   try dsimp only at hI h ⊢
   rw[gk]at h
   refine T ?_
   refine aM ?_
   exact jY (fuel2,op3,ar (i1+1),r7,a22,c39) ⟨rfl,rfl,rfl,rfl,rfl,rfl,rfl,rfl,rfl,rfl,trivial⟩ ⟨_,hI.arr (.c .z (.c .z (.c .z .n))) ⟨.z,(.s .z),(.s (.s .z)),(.s (.s (.s .z))),(.s (.s (.s (.s .z)))),(.s (.s (.s (.s (.s .z))))),(.s (.s (.s (.s (.s (.s .z)))))),trivial⟩,h⟩ (Nat.lt_succ_self _)
  refine T ?_
  obtain⟨e2,hx3,h⟩:=ae h
  obtain⟨ad1,cs1,hA1,hr1,hq1⟩:=hI.clat (.s .z) hx3
  obtain rfl:cs1=[(aE e2)]:=hr1
  refine sI ?_
  refine T ?_
  obtain⟨c41,f3,hB,hl3,hk3⟩:=hI.hands (.l (.r (.r .n)))
  obtain⟨⟨r8,s3⟩,hx4,h⟩:=ae h
  try dsimp only at h
  refine pT (fun v_ w_=>v_=(vb r8)∧∃ (a23:Option Addr),∃ (c42:Nat),∃ C_:NP,Bun c41 f3 w14 C_ w_ [MO.box b1 67 (af s3 a23 c42)] [Cl.sl ag a23 c42 s3.l]) (aT rfl rfl rfl rfl) rfl (fun hc=>(aF (vs:=[vp b1 0,(aE e2)]) rfl zY ⟨(aQ et hc),⟨(aQ et hc),trivial⟩⟩)) (fun hc=>(aO HS (Ag hc hx4)).mono fun e_ w_ hq_=>(let ⟨a23,c42,C_,he_,hB_⟩:=hq_;⟨_,he_,rfl,a23,c42,C_,hB_⟩)) ?_
  intro v_ w16 h1_ h2_
  obtain⟨hv_,a23,c42,c43,hB2⟩:gv (decide (op2=0)) v_=gv (decide (op2=0)) (vb r8)∧∃ (a23:Option Addr),∃ (c42:Nat),∃ C_:NP,Bun c41 f3 w14 C_ w16 [MO.box b1 67 (af s3 a23 c42)] [Cl.sl ag a23 c42 s3.l]:=by
   rcases Bool.eq_false_or_eq_true (decide (op2=0))with hc | hc
   ·obtain⟨rfl,hq_⟩:=h1_ hc;exact⟨rfl,hq_⟩
   have e1_:=h2_ hc;subst e1_;obtain⟨rfl,rfl⟩:=Ah hc hx4;exact⟨by rw[pl hc,pl hc],a21,c37,_,hB.subs ⟨.z,trivial⟩⟩
  rw[hv_];clear h1_ h2_
  refine HN hk3 hB2 fun c44 hI=> ?_
  refine TC (fun hb h=> ?_) fun hb h=> ?_
  ·refine T ?_
   obtain⟨e3,hx5,h⟩:=ae h
   obtain⟨ad2,cs2,hA2,hr2,hq2⟩:=hI.clat (.s (.s (.s .z))) hx5
   obtain rfl:cs2=[vi e3]:=hr2
   refine sI ?_
   refine T ?_
   refine aM ?_
   exact bi (e3,s3,a23,c42) ⟨rfl,rfl,rfl,rfl,rfl,rfl,rfl,rfl,rfl,rfl,trivial⟩ ⟨_,hI.arr (.c .z (.c .z (.c .z .n))) ⟨.z,(.s (.s .z)),(.s (.s (.s .z))),(.s (.s (.s (.s .z)))),(.s (.s (.s (.s (.s .z))))),(.s (.s (.s (.s (.s (.s .z)))))),(.s (.s (.s (.s (.s (.s (.s .z))))))),trivial⟩,h⟩ rfl
  exact bf (bi (op2,s3,a23,c42) ⟨rfl,rfl,rfl,rfl,rfl,rfl,rfl,rfl,rfl,rfl,trivial⟩ ⟨_,hI.arr (.c .z (.c .z (.c .z .n))) ⟨.z,(.s (.s .z)),(.s (.s (.s .z))),(.s (.s (.s (.s .z)))),(.s (.s (.s (.s (.s .z))))),(.s (.s (.s (.s (.s (.s .z)))))),(.s (.s (.s (.s (.s (.s (.s .z))))))),trivial⟩,h⟩ rfl)
 refine bk ?_
 refine eU ?_
 exact bi (op2,r6,a21,c37) ⟨rfl,rfl,rfl,rfl,rfl,rfl,rfl,trivial⟩ ⟨_,hI.arr (.c .z (.c .z (.c .z .n))) ⟨.z,(.s .z),(.s (.s .z)),(.s (.s (.s .z))),(.s (.s (.s (.s .z)))),(.s (.s (.s (.s (.s .z))))),(.s (.s (.s (.s (.s (.s .z)))))),trivial⟩,h⟩ rfl
abbrev Qs6 (f_:(aa→Option (bz (GExpr×aa)))):Prop:=∀ ⦃C0 F:NP⦄ ⦃w0:World⦄ ⦃r1:aa⦄ ⦃b1 c1:Nat⦄ ⦃a1:Option Addr⦄ (hI:Bun C0 F w0 C0 w0 [MO.box b1 67 (af r1 a1 c1)] [Cl.sl ag a1 c1 r1.l,av]) ⦃r:bz (GExpr×aa)⦄ (h:f_ r1=some r),CP C0 F w0 140 #[vp b1 0] r fun rx e w=>∃ a2 c2 a3 c3 a4 c4 a5 c5 C,e= .returned (Value.agg (aq rx.1 a2 c2 a3 c3 a4 c4))∧Bun C0 F w0 C w [MO.box b1 67 (af rx.2 a5 c5)] [Cl.sl ai a2 c2 rx.1.Lin.L,Cl.sl ak a3 c3 rx.1.Idx,Cl.sl an a4 c4 rx.1.Args,Cl.sl ag a5 c5 rx.2.l]
theorem pI {rec_:(aa→Option (bz (GExpr×aa)))} (hrec:x9 rec_) {recs_:(aa→Option (bz (GExpr×aa)))} (hrecs_:Qs6 recs_) {r1:aa} (hI:Bun C0 F w0 C0 w0 [MO.box b1 67 (af r1 a1 c1)] [Cl.sl ag a1 c1 r1.l,av]) {r:bz (GExpr×aa)} (h:fY rec_ recs_ r1=some r):CP C0 F w0 140 #[vp b1 0] r fun rx e w=>∃ a2 c2 a3 c3 a4 c4 a5 c5 C,e= .returned (Value.agg (aq rx.1 a2 c2 a3 c3 a4 c4))∧Bun C0 F w0 C w [MO.box b1 67 (af rx.2 a5 c5)] [Cl.sl ai a2 c2 rx.1.Lin.L,Cl.sl ak a3 c3 rx.1.Idx,Cl.sl an a4 c4 rx.1.Args,Cl.sl ag a5 c5 rx.2.l]:=by
 refine fU (l:=[vp b1 0]) Tryz.func140 rfl Tryz.ntmps140 rfl ?_
 rw[fY]at h
 refine sr (cF (cs:=#[vi 0,(aE ([]:List UInt8)),vi 0,vi 0,vi 0,vi 0,vi 0,vi 0,vi 0,vi 0,vs none 0 0,vs none 0 0,vs none 0 0]) hI gn rfl rfl dN rfl ?_)
 intro b2 c6 w1 hI
 refine nk (al (T ?_))
 refine sB h (fun _ k=>dT NE ⟨(hI.get0 .z),hI.lendBox (.s .z),trivial⟩ k) (Rc Tryz.func121) fun r2 w2 h hI=> ?_
 refine TC (fun hb h=> ?_) fun hb h=> ?_
 ·refine T ?_
  refine sq (n7 (vs:=[vp b1 0]) rfl rfl ⟨et,trivial⟩) ?_
  refine ll hI dF ([([60]:List UInt8),([60,61]:List UInt8),([61,61]:List UInt8)]:List (List UInt8)) lZ Rr fun b3 c7 w3 hI=> ?_
  refine ll hI (l5 .i64) ([13,14,15]:List Int) wh Rr fun b4 c8 w4 hI=> ?_
  obtain⟨c9,hI⟩:=hI.release (.s .z)
  obtain⟨c10,hI⟩:=hI.release .z
  obtain⟨c11,f1,hB,hl2,hk1⟩:=hI.hands (.r (.l .n))
  refine eG h (fun _ hx3=>pr hrec HS hx3) (lw hk1) (Rc Tryz.func74) ?_
  rintro⟨r3,s1⟩ hx3 h _ w5 ⟨a6,c12,a7,c13,a8,c14,a9,c15,c16,rfl,hB2⟩
  try dsimp only at h
  refine HN hk1 hB2 fun c17 hI=> ?_
  refine⟨_,rfl,?_⟩
  refine lA fun c18 w6 hI=> ?_
  refine nk (aA ?_)
  obtain rfl:=aj h
  refine QG ?_
  exact .inl ⟨_,rfl,a6,c12,a7,c13,a8,c14,a9,c15,_,rfl,hI.arr GO SU⟩
 refine T ?_
 obtain⟨c19,f2,hB,hl3,hk2⟩:=hI.hands (.r (.l .n))
 refine eG h (fun _ hx4=>iz HS hx4) (lw hk2) (Rc Tryz.func194) ?_
 rintro⟨r4,s2⟩ hx4 h _ w7 ⟨a10,c20,c21,rfl,hB2⟩
 try dsimp only at h
 refine HN hk2 hB2 fun c22 hI=> ?_
 refine⟨_,rfl,?_⟩
 refine T ?_
 obtain⟨c23,f3,hB,hl4,hk3⟩:=hI.hands (.l (.r .n))
 refine eG h (fun _ hx5=>hrecs_ HS hx5) (lw hk3) (Rc Tryz.func140) ?_
 rintro⟨r5,s3⟩ hx5 h _ w8 ⟨a11,c24,a12,c25,a13,c26,a14,c27,c28,rfl,hB2⟩
 try dsimp only at h
 refine HN hk3 hB2 fun c29 hI=> ?_
 refine⟨_,rfl,?_⟩
 refine ll hI an ([r5]:List GExpr) jr (.cs (dM ⟨a11,c24,a12,c25,a13,c26,rfl,hI.get .z,hI.get (.s .z),hI.get (.s (.s .z))⟩) .nl) fun b5 c30 w9 hI=> ?_
 refine sq (ax (vs:=[(0,vi 18),(6,vs (some ⟨b5,0,none⟩) ([r5]:List GExpr).length 1)]) (cs:=#[vi 18,(aE ([]:List UInt8)),vi 0,vi 0,vi 0,vi 0,vi 0,vi 0,vi 0,vi 0,vs none 0 0,vs none 0 0,vs (some ⟨b5,0,none⟩) ([r5]:List GExpr).length 1]) rfl ⟨rfl,ao,⟨rfl,et,trivial⟩⟩ (by kernel_rfl)) ?_
 refine lN fun b6 c31 w10 hI=> ?_
 refine lA fun c32 w11 hI=> ?_
 refine T ?_
 refine lS fun c33 w12 hI=> ?_
 refine T ?_
 refine lA fun c34 w13 hI=> ?_
 refine nk (aA ?_)
 obtain⟨c35,hI⟩:=hI.release (.s .z)
 have hI:=hI.add (c:=Cl.sl ai none 0 ([]:List GMono)) SlC.nil
 have hI:=hI.add (c:=Cl.sl ak none 0 ([]:List GIndex)) SlC.nil
 obtain rfl:=aj h
 refine QG ?_
 exact .inl ⟨_,rfl,none,0,none,0,some ⟨b5,0,none⟩,1,a14,c27,_,rfl,hI.arr GO SU⟩
theorem pH {rec_:(aa→Option (bz (GExpr×aa)))} (hrec:x9 rec_) (n:Nat):Qs6 (cn rec_ n):=by
 induction n with
 | zero=>intro F;intros;rename_i h;cases h
 | succ n ih=>intro F;intros;apply pI hrec ih<;>assumption
theorem gR {rec_:(aa→Option (bz (GExpr×aa)))} (hrec:x9 rec_):Qs6 (jq rec_):=pH hrec fu
end Go.Proofs.YtmhoikfoogemnaaGreatDoor
