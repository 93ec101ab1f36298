import Derived.Test.YtmhoikfoogemnaaGreatDoorMCQ4c
import Derived.Test.YtmhoikfoogemnaaGreatDoorMLfJ
namespace Go.Proofs.YtmhoikfoogemnaaGreatDoor
open Go Go.RowKit Go.Vc
set_option maxRecDepth 100000
set_option maxHeartbeats 4000000
set_option linter.unusedVariables false
set_option linter.unusedSimpArgs false
variable {σ:Type} {C0 F:NP} {w0:World} {a1 a2 a3 a4 a5 a6 a7 a8 a9 a10 a11 a12:Option Addr} {b1 b2 b3 b4 b5 b6 b7 b8 b9 b10 b11 b12 c1 c2 c3 c4 c5 c6 c7 c8 c9 c10 c11 c12:Nat}
theorem fh {r1:aa} (hI:Bun C0 F w0 C0 w0 [MO.box b1 67 (ae r1 a1 c1)] [Cl.sl ah a1 c1 r1.l,ap]) {r:bC (av×aa)} (h:de r1=some r):CP C0 F w0 258 #[vp b1 0] r fun rx e w=>∃ a2 c2 a3 c3 a4 c4 C,e= .returned (Value.agg (jE rx.1 a2 c2 a3 c3))∧Bun C0 F w0 C w [MO.box b1 67 (ae rx.2 a4 c4)] [Cl.sl ag a2 c2 rx.1.Lin.L,Cl.sl ga a3 c3 rx.1.At,Cl.sl ah a4 c4 rx.2.l]:=by
 refine eY (l:=[vp b1 0]) Tryz.func258 rfl Tryz.ntmps258 rfl ?_
 rw[de]at h
 refine sr (cP (cs:=#[vi 0,vs none 0 0,(str ([]:List UInt8)),vs none 0 0]) hI gn rfl rfl Ec rfl ?_)
 intro b2 c5 w1 hI
 refine nk (aj (aP [] false (.c (0,.q) (.c (1,.s) (.c (2,.q) (.c (3,.q) (.c (4,.q) (.c (5,.q) (.c (6,.q) (.c (7,.q) (.c (8,.q) (.c (9,.q) (.c (10,.q) (.c (11,.q) (.c (12,.q) (.c (13,.q) (.c (14,.q) (.c (15,.q) (.c (16,.q) (.c (17,.q) (.c (18,.q) (.c (19,.q) (.c (20,.q) (.c (21,.q) (.c (22,.q) (.c (23,.q) (.c (24,.q) (.c (25,.q) (.c (26,.q) (.c (27,.q) (.c (28,.q) (.c (29,.q) (.c (30,.q) (.c (31,.q) (.c (32,.q) (.c (33,.q) (.c (34,.q) (.c (35,.q) (.c (36,.q) (.c (37,.q) (.c (38,.q) (.c (39,.q) (.c (40,.q) (.c (41,.q) (.c (42,.q) (.c (43,.q) (.c (44,.q) (.c (45,.q) .n)))))))))))))))))))))))))))))))))))))))))))))) hI (by kernel_rfl) (by kernel_rfl) ?_))
 intro w2 hI
 refine V ?_
 obtain⟨r2,hx1,h⟩:=ab h
 refine bN rfl gn rfl (ax (vs:=[vp b1 0]) rfl I7 ⟨et,trivial⟩) (Calls.mono (jO NE ⟨(hI.get0 .z),hI.lendBox (.s .z),hI.get0 (.s .z),trivial⟩ hx1) ?_)
 rintro _ w3 ⟨rfl,hx2,hl1⟩
 refine⟨_,rfl,hx2,?_⟩
 replace hI:=(hI.ext hx2)
 refine V ?_
 obtain⟨e1,hx3,h⟩:=ab h
 replace hx3:=aC hx3
 obtain⟨ad1,cs1,hq1⟩:=hI.gclat .z hx3
 have hq2:(r2&&(decide (au (r1.at_+1)<(r1.l.length:Int))))=true→CA (Dj F c5) w3 (ad1.add (Int.toNat (au (r1.at_+1)) * 3)) (nQ e1):=fun hc=>wR (hq1 hc).2.1 (hq1 hc).2.2
 refine vJ ?_
 refine V ?_
 obtain⟨e2,hx4,h⟩:=ab h
 replace hx4:=aC hx4
 obtain⟨ad2,cs2,hq3⟩:=hI.gclat .z hx4
 have hq4:((r2&&(decide (au (r1.at_+1)<(r1.l.length:Int))))&&(decide (e1.Kind=3)))=true→CA (Dj F c5) w3 (ad2.add (Int.toNat (au (r1.at_+1)) * 3)) (nQ e2):=fun hc=>wR (hq3 hc).2.1 (hq3 hc).2.2
 refine vJ ?_
 refine V ?_
 refine aj (T ?_)
 refine TC (fun hb h=> ?_) fun hb h=> ?_
 ·refine T ?_
  obtain⟨c6,f1,hB,hl2,hk1⟩:=hI.hands (.r (.l .n))
  refine dZ h (fun _ hx5=>fF HS hx5) (ko hk1) (Rc Tryz.func31) ?_
  rintro⟨r3,s1⟩ hx5 h _ w4 ⟨a5,c7,a6,c8,c9,rfl,hB2⟩
  try dsimp only at h
  refine HN hk1 hB2 fun c10 hI=> ?_
  refine⟨_,rfl,?_⟩
  refine sq (aH (vs:=[(0,(Value.agg (dM r3 a5 c7)))]) (cs:=#[vi r3.K,vs a5 r3.L.length c7,(str ([]:List UInt8)),vs none 0 0]) rfl ⟨rfl,et,trivial⟩ (by kernel_rfl)) ?_
  refine lA fun c11 w5 hI=> ?_
  refine nk (aJ ?_)
  have hI:=hI.add (c:=Cl.sl ga none 0 ([]:List ay)) SlC.nil
  obtain rfl:=ak h
  refine QG ?_
  exact .inl ⟨_,rfl,a5,c7,none,0,a6,c8,_,rfl,hI.arr GO SU⟩
 refine T ?_
 obtain⟨c12,f2,hB,hl3,hk2⟩:=hI.hands (.r (.l .n))
 refine dZ h (fun _ hx6=>hG HS hx6) (ko hk2) (Rc Tryz.func128) ?_
 rintro⟨r4,s2⟩ hx6 h _ w6 ⟨a7,c13,c14,rfl,hB2⟩
 try dsimp only at h
 refine HN hk2 hB2 fun c15 hI=> ?_
 refine⟨_,rfl,?_⟩
 refine sq (aH (vs:=[(1,(str r4))]) (cs:=#[vi 0,vs none 0 0,(str r4),vs none 0 0]) rfl ⟨rfl,et,trivial⟩ (by kernel_rfl)) ?_
 refine lN fun b3 c16 w7 hI=> ?_
 refine lA fun c17 w8 hI=> ?_
 refine T ?_
 obtain⟨c18,f3,hB,hl4,hk3⟩:=hI.hands (.r (.l (.r .n)))
 refine dZ h (fun _ hx7=>aL HS hx7) (ko hk3) (Rc Tryz.func104) ?_
 rintro⟨r5,s3⟩ hx7 h _ w9 ⟨a8,c19,c20,rfl,hB2⟩
 try dsimp only at h
 refine HN hk3 hB2 fun c21 hI=> ?_
 refine⟨_,rfl,?_⟩
 refine T ?_
 obtain⟨c22,f4,hB,hl5,hk4⟩:=hI.hands (.l (.r (.r .n)))
 refine dZ h (fun _ hx8=>pl HS hx8) (ko hk4) (Rc Tryz.func175) ?_
 rintro⟨r6,s4⟩ hx8 h _ w10 ⟨a9,c23,a10,c24,c25,rfl,hB2⟩
 try dsimp only at h
 refine HN hk4 hB2 fun c26 hI=> ?_
 refine⟨_,rfl,?_⟩
 refine T ?_
 refine lS fun c27 w11 hI=> ?_
 refine T ?_
 refine lA fun c28 w12 hI=> ?_
 refine nk (aJ ?_)
 have hI:=hI.add (c:=Cl.sl ag none 0 ([]:List aw)) SlC.nil
 obtain rfl:=ak h
 refine QG ?_
 exact .inl ⟨_,rfl,none,0,a9,c23,a10,c24,_,rfl,hI.arr GO SU⟩
def cX:Tr:=(.c (5,.s) (.c (6,.q) (.c (7,.s) .n)))
def bW:Tr:=(.c (4,.s) cX)
theorem ot {rec_:(aa→Option (bC (ac×aa)))} (hrec:yb rec_) {r1:aa} (hI:Bun C0 F w0 C0 w0 [MO.box b1 67 (ae r1 a1 c1)] [Cl.sl ah a1 c1 r1.l,ap]) {r:bC (ac×aa)} (h:aQ rec_ r1=some r):CP C0 F w0 248 #[vp b1 0] r fun rx e w=>∃ a2 c2 a3 c3 a4 c4 a5 c5 C,e= .returned (Value.agg (an rx.1 a2 c2 a3 c3 a4 c4))∧Bun C0 F w0 C w [MO.box b1 67 (ae rx.2 a5 c5)] [Cl.sl ag a2 c2 rx.1.Lin.L,Cl.sl ai a3 c3 rx.1.Idx,Cl.sl al a4 c4 rx.1.Args,Cl.sl ah a5 c5 rx.2.l]:=by
 refine eY (l:=[vp b1 0]) Tryz.func248 rfl Tryz.ntmps248 rfl ?_
 rw[aQ]at h
 refine sr (cP (cs:=#[vi 0,(str ([]:List UInt8)),vi 0,vi 0,vi 0,vi 0,vi 0,vi 0,vi 0,vi 0,vs none 0 0,vs none 0 0,vs none 0 0]) hI gn rfl rfl dN rfl ?_)
 intro b2 c6 w1 hI
 refine nk (aj (T ?_))
 refine sB h (fun _ k=>dw NE ⟨(hI.get0 .z),hI.lendBox (.s .z),trivial⟩ k) (Rc Tryz.func121) fun r2 w2 h hI=> ?_
 refine TC (fun hb h=> ?_) fun hb h=> ?_
 ·refine T ?_
  obtain⟨c7,f1,hB,hl2,hk1⟩:=hI.hands (.r (.l .n))
  refine dZ h (fun _ hx3=>jN HS hx3) (ko hk1) (Rc Tryz.func253) ?_
  rintro⟨r3,s1⟩ hx3 h _ w3 ⟨a6,c8,c9,rfl,hB2⟩
  try dsimp only at h
  refine HN hk1 hB2 fun c10 hI=> ?_
  refine⟨_,rfl,?_⟩
  refine T ?_
  obtain⟨c11,f2,hB,hl3,hk2⟩:=hI.hands (.l (.r .n))
  refine dZ h (fun _ hx4=>hrec HS hx4) (ko hk2) (Rc Tryz.func34) ?_
  rintro⟨r4,s2⟩ hx4 h _ w4 ⟨a7,c12,a8,c13,a9,c14,a10,c15,c16,rfl,hB2⟩
  try dsimp only at h
  refine HN hk2 hB2 fun c17 hI=> ?_
  refine⟨_,rfl,?_⟩
  refine lN fun b3 c18 w5 hI=> ?_
  refine cU (new:=(aK r4 a7 c12 a8 c13 a9 c14)) (cs':=(an r4 a7 c12 a8 c13 a9 c14)) hI .z gn rfl rfl et et rfl aB rfl rfl rfl ?_
  intro c19 w6 hI
  refine T ?_
  obtain⟨c20,f3,hB,hl4,hk3⟩:=hI.hands (.r (.l (.r .n)))
  refine dZ h (fun _ hx5=>jD HS hx5) (ko hk3) (Rc Tryz.func254) ?_
  rintro⟨r5,s3⟩ hx5 h _ w7 ⟨a11,c21,c22,rfl,hB2⟩
  try dsimp only at h
  refine HN hk3 hB2 fun c23 hI=> ?_
  refine⟨_,rfl,?_⟩
  refine T ?_
  refine cU (new:=(aK r4 a7 c12 a8 c13 a9 c14)) (cs':=(an r4 a7 c12 a8 c13 a9 c14)) hI (.s (.s .z)) gn rfl rfl et et rfl aB rfl rfl rfl ?_
  intro c24 w8 hI
  refine nk (aJ ?_)
  obtain rfl:=ak h
  refine QG ?_
  exact .inl ⟨_,rfl,a7,c12,a8,c13,a9,c14,a11,c21,_,rfl,hI.arr GO SU⟩
 refine T ?_
 obtain⟨c25,f4,hB,hl5,hk4⟩:=hI.hands (.r (.l .n))
 obtain⟨⟨r6,s4⟩,hx6,h⟩:=ab h
 try dsimp only at h
 refine bq gn rfl (Rc Tryz.func68) (Calls.mono (aD HS hx6) ?_)
 rintro _ w9 ⟨a12,c26,c27,rfl,hB2⟩
 refine HN hk4 hB2 fun c28 hI=> ?_
 refine⟨_,rfl,?_⟩
 refine TC (fun hb h=> ?_) fun hb h=> ?_
 ·refine T ?_
  obtain⟨c29,f5,hB,hl6,hk5⟩:=hI.hands (.l (.r .n))
  refine dZ h (fun _ hx7=>fF HS hx7) (ko hk5) (Rc Tryz.func31) ?_
  rintro⟨r7,s5⟩ hx7 h _ w10 ⟨a13,c30,a14,c31,c32,rfl,hB2⟩
  try dsimp only at h
  refine HN hk5 hB2 fun c33 hI=> ?_
  refine⟨_,rfl,?_⟩
  refine lN fun b4 c34 w11 hI=> ?_
  refine cU (new:=(gY r7 a13 c30)) (cs':=(dM r7 a13 c30)) hI .z gn rfl rfl et et rfl bk rfl rfl rfl ?_
  intro c35 w12 hI
  refine T ?_
  obtain⟨c36,f6,hB,hl7,hk6⟩:=hI.hands (.r (.l (.r .n)))
  refine dZ h (fun _ hx8=>aL HS hx8) (ko hk6) (Rc Tryz.func104) ?_
  rintro⟨r8,s6⟩ hx8 h _ w13 ⟨a15,c37,c38,rfl,hB2⟩
  try dsimp only at h
  refine HN hk6 hB2 fun c39 hI=> ?_
  refine⟨_,rfl,?_⟩
  refine T ?_
  refine sq (aH (vs:=[(0,vi 2),(4,(Value.agg (dM r7 a13 c30)))]) (cs:=#[vi 2,(str ([]:List UInt8)),vi 0,vi 0,vi 0,vi 0,vi 0,vi 0,vi 0,vi r7.K,vs a13 r7.L.length c30,vs none 0 0,vs none 0 0]) rfl ⟨rfl,af,⟨rfl,et,trivial⟩⟩ (by kernel_rfl)) ?_
  refine cU (new:=[vi 2,(str ([]:List UInt8)),vi 0,vi 0,vi 0,vi 0,vi 0,vi 0,vi 0,vi r7.K,vs a13 r7.L.length c30,vs none 0 0,vs none 0 0]) (cs':=#[vi 2,(str ([]:List UInt8)),vi 0,vi 0,vi 0,vi 0,vi 0,vi 0,vi 0,vi r7.K,vs a13 r7.L.length c30,vs none 0 0,vs none 0 0]) hI (.s (.s .z)) gn rfl rfl et et rfl aB rfl rfl rfl ?_
  intro c40 w14 hI
  refine nk (aJ ?_)
  have hI:=hI.add (c:=Cl.sl ai none 0 ([]:List av)) SlC.nil
  have hI:=hI.add (c:=Cl.sl al none 0 ([]:List ac)) SlC.nil
  obtain rfl:=ak h
  refine QG ?_
  exact .inl ⟨_,rfl,a13,c30,none,0,none,0,a15,c37,_,rfl,hI.arr GO SU⟩
 refine aj (T ?_)
 refine sB h (fun _ k=>dw NE ⟨(hI.get0 .z),hI.lendBox .z,trivial⟩ k) (Rc Tryz.func121) fun r9 w15 h hI=> ?_
 refine TC (fun hb h=> ?_) fun hb h=> ?_
 ·have hk7:=hb
  refine T ?_
  refine qL (b:=r9) et (fun _=> ?_) (fun hb=>absurd (hb.symm.trans hk7) (by simp))
  refine T ?_
  obtain⟨c41,f7,hB,hl9,hk8⟩:=hI.hands (.l (.r .n))
  refine dZ h (fun _ hx11=>iw HS hx11) (ko hk8) (Rc Tryz.func255) ?_
  rintro⟨r10,s7⟩ hx11 h _ w16 ⟨a16,c42,a17,c43,a18,c44,a19,c45,c46,rfl,hB2⟩
  try dsimp only at h
  refine HN hk8 hB2 fun c47 hI=> ?_
  refine⟨_,rfl,?_⟩
  refine cU (new:=(aK r10 a16 c42 a17 c43 a18 c44)) (cs':=(an r10 a16 c42 a17 c43 a18 c44)) hI (.s .z) gn rfl rfl et et rfl aB rfl rfl rfl ?_
  intro c48 w17 hI
  refine nk (aJ ?_)
  obtain rfl:=ak h
  refine QG ?_
  exact .inl ⟨_,rfl,a16,c42,a17,c43,a18,c44,a19,c45,_,rfl,hI.arr GO SU⟩
 refine T ?_
 refine sB h (fun _ k=>dw NE ⟨(hI.get0 .z),hI.lendBox .z,trivial⟩ k) (Rc Tryz.func121) fun r11 w18 h hI=> ?_
 refine TC (fun hb h=> ?_) fun hb h=> ?_
 ·have hk9:=hb
  refine T ?_
  refine qL (b:=r11) et (fun _=> ?_) (fun hb=>absurd (hb.symm.trans hk9) (by simp))
  refine T ?_
  obtain⟨c49,f8,hB,hl11,hk10⟩:=hI.hands (.l (.r .n))
  refine dZ h (fun _ hx14=>iw HS hx14) (ko hk10) (Rc Tryz.func255) ?_
  rintro⟨r12,s8⟩ hx14 h _ w19 ⟨a20,c50,a21,c51,a22,c52,a23,c53,c54,rfl,hB2⟩
  try dsimp only at h
  refine HN hk10 hB2 fun c55 hI=> ?_
  refine⟨_,rfl,?_⟩
  refine cU (new:=(aK r12 a20 c50 a21 c51 a22 c52)) (cs':=(an r12 a20 c50 a21 c51 a22 c52)) hI (.s .z) gn rfl rfl et et rfl aB rfl rfl rfl ?_
  intro c56 w20 hI
  refine nk (aJ ?_)
  obtain rfl:=ak h
  refine QG ?_
  exact .inl ⟨_,rfl,a20,c50,a21,c51,a22,c52,a23,c53,_,rfl,hI.arr GO SU⟩
 refine T ?_
 refine sB h (fun _ k=>dw NE ⟨(hI.get0 .z),hI.lendBox .z,trivial⟩ k) (Rc Tryz.func121) fun r13 w21 h hI=> ?_
 refine TC (fun hb h=> ?_) fun hb h=> ?_
 ·refine T ?_
  obtain⟨c57,f9,hB,hl13,hk11⟩:=hI.hands (.l (.r .n))
  refine dZ h (fun _ hx17=>iw HS hx17) (ko hk11) (Rc Tryz.func255) ?_
  rintro⟨r14,s9⟩ hx17 h _ w22 ⟨a24,c58,a25,c59,a26,c60,a27,c61,c62,rfl,hB2⟩
  try dsimp only at h
  refine HN hk11 hB2 fun c63 hI=> ?_
  refine⟨_,rfl,?_⟩
  refine cU (new:=(aK r14 a24 c58 a25 c59 a26 c60)) (cs':=(an r14 a24 c58 a25 c59 a26 c60)) hI (.s .z) gn rfl rfl et et rfl aB rfl rfl rfl ?_
  intro c64 w23 hI
  refine nk (aJ ?_)
  obtain rfl:=ak h
  refine QG ?_
  exact .inl ⟨_,rfl,a24,c58,a25,c59,a26,c60,a27,c61,_,rfl,hI.arr GO SU⟩
 refine T ?_
 refine aj (T ?_)
 refine jZ (c:=fp) (xs:=([([109,105,110]:List UInt8),([109,97,120]:List UInt8),([105,102]:List UInt8),([99,97,115,116]:List UInt8)]:List (List UInt8))) (vs:=[(0,(str ([109,105,110]:List UInt8))),(1,(str ([109,97,120]:List UInt8))),(2,(str ([105,102]:List UInt8))),(3,(str ([99,97,115,116]:List UInt8)))]) (cs:=#[(str ([109,105,110]:List UInt8)),(str ([109,97,120]:List UInt8)),(str ([105,102]:List UInt8)),(str ([99,97,115,116]:List UInt8))]) (css:=[[(str ([109,105,110]:List UInt8))],[(str ([109,97,120]:List UInt8))],[(str ([105,102]:List UInt8))],[(str ([99,97,115,116]:List UInt8))]]) hI gn rfl rfl Ep nT rfl ⟨rfl,af,⟨rfl,af,⟨rfl,af,⟨rfl,af,trivial⟩⟩⟩⟩ (by kernel_rfl) ⟨rfl,⟨rfl,⟨rfl,⟨rfl,trivial⟩⟩⟩⟩ rfl rfl rfl ?_
 intro b5 c65 w24 hI
 obtain⟨c66,hI⟩:=hI.release .z
 obtain⟨c67,f10,hB,hl14,hk12⟩:=hI.hands (.l (.r .n))
 obtain⟨⟨r15,s10⟩,hx18,h⟩:=ab h
 try dsimp only at h
 refine bq gn rfl (Rc Tryz.func98) (Calls.mono (g9 HS hx18) ?_)
 rintro _ w25 ⟨a28,c68,c69,rfl,hB2⟩
 refine HN hk12 hB2 fun c70 hI=> ?_
 refine⟨_,rfl,?_⟩
 refine TC (fun hb h=> ?_) fun hb h=> ?_
 ·refine T ?_
  obtain⟨c71,f11,hB,hl15,hk13⟩:=hI.hands (.l (.r .n))
  refine dZ h (fun _ hx19=>jP hrec HS hx19) (ko hk13) (Rc Tryz.func256) ?_
  rintro⟨r16,s11⟩ hx19 h _ w26 ⟨a29,c72,a30,c73,a31,c74,a32,c75,c76,rfl,hB2⟩
  try dsimp only at h
  refine HN hk13 hB2 fun c77 hI=> ?_
  refine⟨_,rfl,?_⟩
  refine cU (new:=(aK r16 a29 c72 a30 c73 a31 c74)) (cs':=(an r16 a29 c72 a30 c73 a31 c74)) hI (.s .z) gn rfl rfl et et rfl aB rfl rfl rfl ?_
  intro c78 w27 hI
  refine nk (aJ ?_)
  obtain rfl:=ak h
  refine QG ?_
  exact .inl ⟨_,rfl,a29,c72,a30,c73,a31,c74,a32,c75,_,rfl,hI.arr GO SU⟩
 refine TC (fun hb h=> ?_) fun hb h=> ?_
 ·refine T ?_
  obtain⟨c79,f12,hB,hl16,hk14⟩:=hI.hands (.l (.r .n))
  refine dZ h (fun _ hx20=>jP hrec HS hx20) (ko hk14) (Rc Tryz.func256) ?_
  rintro⟨r17,s12⟩ hx20 h _ w28 ⟨a33,c80,a34,c81,a35,c82,a36,c83,c84,rfl,hB2⟩
  try dsimp only at h
  refine HN hk14 hB2 fun c85 hI=> ?_
  refine⟨_,rfl,?_⟩
  refine cU (new:=(aK r17 a33 c80 a34 c81 a35 c82)) (cs':=(an r17 a33 c80 a34 c81 a35 c82)) hI (.s .z) gn rfl rfl et et rfl aB rfl rfl rfl ?_
  intro c86 w29 hI
  refine nk (aJ ?_)
  obtain rfl:=ak h
  refine QG ?_
  exact .inl ⟨_,rfl,a33,c80,a34,c81,a35,c82,a36,c83,_,rfl,hI.arr GO SU⟩
 refine TC (fun hb h=> ?_) fun hb h=> ?_
 ·refine T ?_
  obtain⟨c87,f13,hB,hl17,hk15⟩:=hI.hands (.l (.r .n))
  refine dZ h (fun _ hx21=>jP hrec HS hx21) (ko hk15) (Rc Tryz.func256) ?_
  rintro⟨r18,s13⟩ hx21 h _ w30 ⟨a37,c88,a38,c89,a39,c90,a40,c91,c92,rfl,hB2⟩
  try dsimp only at h
  refine HN hk15 hB2 fun c93 hI=> ?_
  refine⟨_,rfl,?_⟩
  refine cU (new:=(aK r18 a37 c88 a38 c89 a39 c90)) (cs':=(an r18 a37 c88 a38 c89 a39 c90)) hI (.s .z) gn rfl rfl et et rfl aB rfl rfl rfl ?_
  intro c94 w31 hI
  refine T ?_
  refine aJ ?_
  obtain rfl:=ak h
  refine QG ?_
  exact .inl ⟨_,rfl,a37,c88,a38,c89,a39,c90,a40,c91,_,rfl,hI.arr GO SU⟩
 refine TC (fun hb h=> ?_) fun hb h=> ?_
 ·refine T ?_
  obtain⟨c95,f14,hB,hl18,hk16⟩:=hI.hands (.l (.r .n))
  refine dZ h (fun _ hx22=>pT hrec HS hx22) (ko hk16) (Rc Tryz.func257) ?_
  rintro⟨r19,s14⟩ hx22 h _ J4 ⟨a41,c96,a42,c97,a43,c98,a44,c99,c100,rfl,hB2⟩
  try dsimp only at h
  refine HN hk16 hB2 fun c101 hI=> ?_
  refine⟨_,rfl,?_⟩
  refine cU (new:=(aK r19 a41 c96 a42 c97 a43 c98)) (cs':=(an r19 a41 c96 a42 c97 a43 c98)) hI (.s .z) gn rfl rfl et et rfl aB rfl rfl rfl ?_
  intro c102 w33 hI
  refine T ?_
  refine aJ ?_
  obtain rfl:=ak h
  refine QG ?_
  exact .inl ⟨_,rfl,a41,c96,a42,c97,a43,c98,a44,c99,_,rfl,hI.arr GO SU⟩
 refine T ?_
 obtain⟨c103,f15,hB,hl19,hk17⟩:=hI.hands (.l (.r .n))
 refine dZ h (fun _ hx23=>hG HS hx23) (ko hk17) (Rc Tryz.func128) ?_
 rintro⟨r20,s15⟩ hx23 h _ w34 ⟨a45,c104,c105,rfl,hB2⟩
 try dsimp only at h
 refine HN hk17 hB2 fun c106 hI=> ?_
 refine⟨_,rfl,?_⟩
 refine sq (aH (vs:=[(0,vi 3),(1,(str r20))]) (cs:=#[vi 3,(str r20),vi 0,vi 0,vi 0,vi 0,vi 0,vi 0,vi 0,vi 0,vs none 0 0,vs none 0 0,vs none 0 0]) rfl ⟨rfl,af,⟨rfl,et,trivial⟩⟩ (by kernel_rfl)) ?_
 refine lN fun b6 c107 w35 hI=> ?_
 refine cU (new:=[vi 3,(str r20),vi 0,vi 0,vi 0,vi 0,vi 0,vi 0,vi 0,vi 0,vs none 0 0,vs none 0 0,vs none 0 0]) (cs':=#[vi 3,(str r20),vi 0,vi 0,vi 0,vi 0,vi 0,vi 0,vi 0,vi 0,vs none 0 0,vs none 0 0,vs none 0 0]) hI .z gn rfl rfl et et rfl aB rfl rfl rfl ?_
 intro c108 w36 hI
 refine T ?_
 obtain⟨c109,f16,hB,hl20,hk18⟩:=hI.hands (.r (.l (.r .n)))
 refine dZ h (fun _ hx24=>aL HS hx24) (ko hk18) (Rc Tryz.func104) ?_
 rintro⟨r21,s16⟩ hx24 h _ w37 ⟨a46,c110,c111,rfl,hB2⟩
 try dsimp only at h
 refine HN hk18 hB2 fun c112 hI=> ?_
 refine⟨_,rfl,?_⟩
 refine nk (aj (T ?_))
 obtain⟨c113,f17,hB,hl21,hk19⟩:=hI.hands (.l (.r (.r .n)))
 obtain⟨⟨r22,s17⟩,hx25,h⟩:=ab h
 try dsimp only at h
 refine bq gn rfl (Rc Tryz.func68) (Calls.mono (aD HS hx25) ?_)
 rintro _ w38 ⟨a47,c114,c115,rfl,hB2⟩
 refine HN hk19 hB2 fun c116 hI=> ?_
 refine⟨_,rfl,?_⟩
 refine TC (fun hb h=> ?_) fun hb h=> ?_
 ·refine T ?_
  refine cU (new:=[vi 3,(str r20),vi 0,vi 0,vi 0,vi 0,vi 0,vi 0,vi 0,vi 0,vs none 0 0,vs none 0 0,vs none 0 0]) (cs':=#[vi 3,(str r20),vi 0,vi 0,vi 0,vi 0,vi 0,vi 0,vi 0,vi 0,vs none 0 0,vs none 0 0,vs none 0 0]) hI (.s (.s .z)) gn rfl rfl et et rfl aB rfl rfl rfl ?_
  intro c117 w39 hI
  refine nk (aJ ?_)
  have hI:=hI.add (c:=Cl.sl ag none 0 ([]:List aw)) SlC.nil
  have hI:=hI.add (c:=Cl.sl ai none 0 ([]:List av)) SlC.nil
  have hI:=hI.add (c:=Cl.sl al none 0 ([]:List ac)) SlC.nil
  obtain rfl:=ak h
  refine QG ?_
  exact .inl ⟨_,rfl,none,0,none,0,none,0,a47,c114,_,rfl,hI.arr GO SU⟩
 refine T ?_
 obtain⟨c118,f18,hB,hl22,hk20⟩:=hI.hands (.l (.r (.r .n)))
 refine dZ h (fun _ hx26=>fh HS hx26) (ko hk20) (Rc Tryz.func258) ?_
 rintro⟨r23,s18⟩ hx26 h _ w40 ⟨a48,c119,a49,c120,a50,c121,c122,rfl,hB2⟩
 try dsimp only at h
 refine HN hk20 hB2 fun c123 hI=> ?_
 refine⟨_,rfl,?_⟩
 refine jZ (c:=ai) (xs:=([r23]:List av)) (vs:=[(0,(Value.agg (jE r23 a48 c119 a49 c120)))]) (cs:=(jE r23 a48 c119 a49 c120)) (css:=[(nR r23 a48 c119 a49 c120)]) hI gn rfl rfl rX sE rfl ⟨rfl,et,trivial⟩ (by kernel_rfl) ⟨⟨a48,c119,a49,c120,rfl,hI.get .z,hI.get (.s .z)⟩,trivial⟩ rfl rfl rfl ?_
 intro b7 c124 w41 hI
 refine T ?_
 refine cU (new:=[vs (some ⟨b7,0,none⟩) ([r23]:List av).length 1]) (cs':=#[vi 3,(str r20),vi 0,vi 0,vi 0,vi 0,vi 0,vi 0,vi 0,vi 0,vs none 0 0,vs (some ⟨b7,0,none⟩) ([r23]:List av).length 1,vs none 0 0]) hI (.s (.s .z)) gn rfl rfl et et rfl lV rfl rfl rfl ?_
 intro c125 w42 hI
 refine nk (aj (T ?_))
 have hI:=hI.nil ag 64 none
 have hI:=hI.nil al 39 none
 refine bh (α:=Nat×aa×ac×(Option Addr)×Nat×(Option Addr)×Nat×(Option Addr)×Nat×(Option Addr)×Nat) (fun x=>fun w=>∃ C,Bun C0 F w0 C w [MO.row ag 64 (x.2.2.2.2.2.1) (x.2.2.2.2.2.2.1) (x.2.2.1).Lin.L,MO.row ai 132 (x.2.2.2.2.2.2.2.1) (x.2.2.2.2.2.2.2.2.1) (x.2.2.1).Idx,MO.row al 39 (x.2.2.2.2.2.2.2.2.2.1) (x.2.2.2.2.2.2.2.2.2.2) (x.2.2.1).Args,MO.box b1 67 (ae (x.2.1) (x.2.2.2.1) (x.2.2.2.2.1)),MO.box b2 39 #[vi 0,(str ([]:List UInt8)),vi 0,vi 0,vi 0,vi 0,vi 0,vi 0,vi 0,vi 0,vs none 0 0,vs none 0 0,vs none 0 0],MO.box b6 39 (an (x.2.2.1) (x.2.2.2.2.2.1) (x.2.2.2.2.2.2.1) (x.2.2.2.2.2.2.2.1) (x.2.2.2.2.2.2.2.2.1) (x.2.2.2.2.2.2.2.2.2.1) (x.2.2.2.2.2.2.2.2.2.2))] [Cl.sl ah (x.2.2.2.1) (x.2.2.2.2.1) (x.2.1).l,ap]∧bi (x.1) (x.2.1) (x.2.2.1)=some r) (fun x _=>x.1) (fun x=>[(0,vp b1 0),(2,vp b2 0),(5,vp b6 0)]) (fu,s18,(⟨3,r20,(⟨0,0⟩:bj),(⟨0,0,0,0,0⟩:aM),(⟨0,([]:List aw)⟩:ay),([r23]:List av),([]:List ac)⟩:ac),a50,c121,none,0,some ⟨b7,0,none⟩,1,none,0) ⟨_,hI.arr (.c (.s .z) (.c (.s .z) (.c .z (.c .z (.c (.s .z) (.c .z .n)))))) ⟨(.s (.s .z)),(.s (.s (.s (.s (.s (.s (.s (.s (.s (.s .z)))))))))),trivial⟩,h⟩ SB ?_
 clear h hI;rintro⟨fuel1,r24,e1,a51,c126,a52,c127,a53,c128,a54,c129⟩ w43 ⟨c130,hI,h⟩
 dsimp only at hI h ⊢
 rcases fuel1 with _ | fuel1
 ·rw[bi]at h;cases h
 rw[bi]at h
 refine aj (T ?_)
 obtain⟨c131,f19,hB,hl23,hk21⟩:=hI.hands (.r (.r (.r (.l (.r (.r .n))))))
 obtain⟨⟨r25,s19⟩,hx27,h⟩:=ab h
 try dsimp only at h
 refine bq gn rfl (Rc Tryz.func68) (Calls.mono (aD HS hx27) ?_)
 rintro _ w44 ⟨a55,c132,c133,rfl,hB2⟩
 refine HN hk21 hB2 fun c134 hI=> ?_
 refine⟨_,rfl,?_⟩
 refine TC (fun hb h=> ?_) fun hb h=> ?_
 ·have hk22:=hb
  refine T ?_
  rcases gR h with⟨⟨r26,s20⟩,hx28,h⟩ | ⟨pa_,pn_,hx28,hp_⟩
  rotate_left
  ·subst hp_
   refine aP [3,5,7] false (.c (0,.q) (.c (2,.q) (.two 1 (.c (3,.s) bW) 3 (.two 1 bW 4 (.c (1,.s) cX))))) hI (by kernel_rfl) (by kernel_rfl) ?_
   intro w51 hI
   refine V ?_
   refine gC ?_ ?_
   ·skip
    refine dI rfl gn rfl (aO (v:=(vs a53 e1.Idx.length c128)) rfl et rX rfl (CellsAt.of_blk (hI.blk (.s (.s (.s (.s (.s .z)))))) rfl)) SX.self ?_
    refine gt (F:=F) (C:=c134) rfl rfl ?_
    obtain⟨c135,f20,hB,hl24,hk23⟩:=hI.hands (.l (.r (.r (.r (.r (.r .n))))))
    refine eD rfl gn rfl (ax (vs:=[vp b1 0]) rfl yx ⟨et,trivial⟩) (Calls.mono (fh HS hx28) ?_)
    intro e_ w_ hq_;obtain⟨rfl,C_,hB_⟩:=el hq_;obtain⟨C9_,-,hI_⟩:=hk23 _ _ _ _ hB_;exact .inr ⟨_,rfl,gO (.inr ⟨_,_,rfl,rfl,⟨_,hI_.arr .n trivial⟩⟩)⟩
   refine dx (F:=F) (C:=c134) rfl rfl ?_
   obtain⟨c135,f20,hB,hl24,hk23⟩:=hI.hands (.l (.r (.r (.r (.r (.r .n))))))
   refine eD rfl gn rfl (ax (vs:=[vp b1 0]) rfl yx ⟨et,trivial⟩) (Calls.mono (fh HS hx28) ?_)
   intro e_ w_ hq_;obtain⟨rfl,C_,hB_⟩:=el hq_;obtain⟨C9_,-,hI_⟩:=hk23 _ _ _ _ hB_;exact .inr ⟨_,rfl,gO (.inr ⟨_,_,rfl,rfl,⟨_,hI_.arr .n trivial⟩⟩)⟩
  try dsimp only at h
  obtain⟨zs1,hx29,h⟩:=ab h
  refine aP [3,5,7] false (.c (0,.q) (.c (2,.q) (.two 1 (.c (3,.s) bW) 3 (.two 1 bW 4 (.c (1,.s) cX))))) hI (by kernel_rfl) (by kernel_rfl) ?_
  intro w52 hI
  refine fQ (α:=(Option Addr)×Nat×(Option Addr)×Nat×(Option Addr)×Nat×Nat×NP) (T:=cX) (fun x=>[(0,vp b1 0),(2,vp b2 0),(5,vp b6 0),(65,vp b1 0),(66,vb r25),(67,vp b6 11),(68,vs a53 e1.Idx.length c128),(69,vp b1 0),(70,(Value.agg (jE r26 (x.1) (x.2.1) (x.2.2.1) (x.2.2.2.1)))),(71,(vs (some ⟨(x.2.2.2.2.2.2.1),0,none⟩) ([r26]:List av).length 1))]) (fun x w=>Bun C0 F w0 (x.2.2.2.2.2.2.2) w [MO.row ai 132 (some ⟨(x.2.2.2.2.2.2.1),0,none⟩) 1 ([r26]:List av),MO.box b1 67 (ae s20 (x.2.2.2.2.1) (x.2.2.2.2.2.1)),MO.row ag 64 a52 c127 e1.Lin.L,MO.row ai 132 a53 c128 e1.Idx,MO.row al 39 a54 c129 e1.Args,MO.box b2 39 #[vi 0,(str ([]:List UInt8)),vi 0,vi 0,vi 0,vi 0,vi 0,vi 0,vi 0,vi 0,vs none 0 0,vs none 0 0,vs none 0 0],MO.box b6 39 (an e1 a52 c127 a53 c128 a54 c129)] [Cl.sl ag (x.1) (x.2.1) r26.Lin.L,Cl.sl ga (x.2.2.1) (x.2.2.2.1) r26.At,Cl.sl ah (x.2.2.2.2.1) (x.2.2.2.2.2.1) s20.l,Cl.sl ah a55 c132 s19.l,Cl.sl ah a51 c126 r24.l,ap]) (fun x w=>SN [] (DM true F (x.2.2.2.2.2.2.2)) w) ?_ ?_
  ·clear hI;rintro⟨a56,c136,a57,c137,a58,c138,b8,c146⟩ w50 hI
   try dsimp only at hI ⊢
   unfold cX
   refine xN (xs:=e1.Idx) (ys:=([r26]:List av)) hI (.s (.s (.s .z))) (hI.rd .z) hx29 rfl gn rfl rfl rX sE rfl rfl et et ?_
   intro a59 c142 c143 w47 hI
   refine V ?_
   refine vS fun c144 w48 hI=> ?_
   refine nu ?_
   exact kP (fuel1,s20,(⟨e1.Op,e1.Name,e1.Val,e1.Type_,e1.Lin,zs1,e1.Args⟩:ac),a58,c138,a52,c127,a59,c142,a54,c129) SB ⟨_,hI.arr GO SU,h⟩ (Nat.lt_succ_self _)
  intro hk_tr_parser_reader_primary_w_3_1
  refine fQ (α:=(Option Addr)×Nat×(Option Addr)×Nat×(Option Addr)×Nat×NP) (T:=bW) (fun x=>[(0,vp b1 0),(2,vp b2 0),(5,vp b6 0),(65,vp b1 0),(66,vb r25),(67,vp b6 11),(68,vs a53 e1.Idx.length c128),(69,vp b1 0),(70,(Value.agg (jE r26 (x.1) (x.2.1) (x.2.2.1) (x.2.2.2.1))))]) (fun x w=>Bun C0 F w0 (x.2.2.2.2.2.2) w [MO.box b1 67 (ae s20 (x.2.2.2.2.1) (x.2.2.2.2.2.1)),MO.row ag 64 a52 c127 e1.Lin.L,MO.row ai 132 a53 c128 e1.Idx,MO.row al 39 a54 c129 e1.Args,MO.box b2 39 #[vi 0,(str ([]:List UInt8)),vi 0,vi 0,vi 0,vi 0,vi 0,vi 0,vi 0,vi 0,vs none 0 0,vs none 0 0,vs none 0 0],MO.box b6 39 (an e1 a52 c127 a53 c128 a54 c129)] [Cl.sl ag (x.1) (x.2.1) r26.Lin.L,Cl.sl ga (x.2.2.1) (x.2.2.2.1) r26.At,Cl.sl ah (x.2.2.2.2.1) (x.2.2.2.2.2.1) s20.l,Cl.sl ah a55 c132 s19.l,Cl.sl ah a51 c126 r24.l,ap]) (fun x w=>SN [] (DM true F (x.2.2.2.2.2.2)) w) ?_ ?_
  ·clear hI;rintro⟨a56,c136,a57,c137,a58,c138,c145⟩ w49 hI
   try dsimp only at hI ⊢
   unfold bW
   refine BI (c:=ai) (xs:=([r26]:List av)) (vs:=[(0,(Value.agg (jE r26 a56 c136 a57 c137)))]) (cs:=(jE r26 a56 c136 a57 c137)) (css:=[(nR r26 a56 c136 a57 c137)]) hI rfl gn rfl rfl rX sE rfl ⟨rfl,et,trivial⟩ (by kernel_rfl) ⟨⟨a56,c136,a57,c137,rfl,hI.get .z,hI.get (.s .z)⟩,trivial⟩ rfl rfl rfl ?_
   intro b8 c141 w46 hI
   exact cD (hk_tr_parser_reader_primary_w_3_1 (a56,c136,a57,c137,a58,c138,b8,c141) _ (hI.arr GO SU)) SB
  intro hk_tr_parser_reader_primary_w_3_0
  refine V ?_
  refine gC ?_ ?_
  ·skip
   refine dI rfl gn rfl (aO (v:=(vs a53 e1.Idx.length c128)) rfl et rX rfl (CellsAt.of_blk (hI.blk (.s (.s (.s (.s (.s .z)))))) rfl)) SX.self ?_
   refine gt (F:=F) (C:=c134) rfl rfl ?_
   obtain⟨c135,f20,hB,hl24,hk23⟩:=hI.hands (.l (.r (.r (.r (.r (.r .n))))))
   refine eC rfl gn rfl (ax (vs:=[vp b1 0]) rfl yx ⟨et,trivial⟩) (Calls.mono (fh HS hx28) ?_)
   intro e_ w45 hq_;obtain⟨a56,c136,a57,c137,a58,c138,c139,rfl,hB2⟩:=ej hq_
   obtain⟨c140,hs20,hI⟩:=hk23 _ _ _ _ hB2
   dsimp only[ca,na]at hI
   refine⟨_,rfl,DM true F c140,hs20,?_⟩
   exact cD (hk_tr_parser_reader_primary_w_3_0 (a56,c136,a57,c137,a58,c138,c140) _ (hI.arr GO SU)) SB
  refine dx (F:=F) (C:=c134) rfl rfl ?_
  obtain⟨c135,f20,hB,hl24,hk23⟩:=hI.hands (.l (.r (.r (.r (.r (.r .n))))))
  refine eC rfl gn rfl (ax (vs:=[vp b1 0]) rfl yx ⟨et,trivial⟩) (Calls.mono (fh HS hx28) ?_)
  intro e_ w45 hq_;obtain⟨a56,c136,a57,c137,a58,c138,c139,rfl,hB2⟩:=ej hq_
  obtain⟨c140,hs20,hI⟩:=hk23 _ _ _ _ hB2
  dsimp only[ca,na]at hI
  refine⟨_,rfl,DM true F c140,hs20,?_⟩
  refine gC ?_ ?_
  ·skip
   refine dI rfl gn rfl (aO (v:=(vs a53 e1.Idx.length c128)) rfl et rX rfl (CellsAt.of_blk (hI.blk (.s (.s (.s (.s (.s .z)))))) rfl)) SX.self ?_
   exact cD (hk_tr_parser_reader_primary_w_3_0 (a56,c136,a57,c137,a58,c138,c140) _ (hI.arr GO SU)) SB
  refine BI (c:=ai) (xs:=([r26]:List av)) (vs:=[(0,(Value.agg (jE r26 a56 c136 a57 c137)))]) (cs:=(jE r26 a56 c136 a57 c137)) (css:=[(nR r26 a56 c136 a57 c137)]) hI rfl gn rfl rfl rX sE rfl ⟨rfl,et,trivial⟩ (by kernel_rfl) ⟨⟨a56,c136,a57,c137,rfl,hI.get .z,hI.get (.s .z)⟩,trivial⟩ rfl rfl rfl ?_
  intro b8 c141 w46 hI
  refine dI rfl gn rfl (aO (v:=(vs a53 e1.Idx.length c128)) rfl et rX rfl (CellsAt.of_blk (hI.blk (.s (.s (.s (.s (.s (.s .z))))))) rfl)) SX.self ?_
  exact cD (hk_tr_parser_reader_primary_w_3_1 (a56,c136,a57,c137,a58,c138,b8,c141) _ (hI.arr GO SU)) SB
 refine bp ?_
 refine fE ?_
 refine aS ?_
 refine T ?_
 obtain⟨c147,f21,hB,hl25,hk24⟩:=hI.hands (.l (.r (.r (.r (.r (.r .n))))))
 refine dZ h (fun _ hx30=>aL HS hx30) (ko hk24) (Rc Tryz.func104) ?_
 rintro⟨r27,s21⟩ hx30 h _ w53 ⟨a60,c148,c149,rfl,hB2⟩
 try dsimp only at h
 refine HN hk24 hB2 fun c150 hI=> ?_
 refine⟨_,rfl,?_⟩
 refine T ?_
 refine cU (new:=(aK e1 a52 c127 a53 c128 a54 c129)) (cs':=(an e1 a52 c127 a53 c128 a54 c129)) hI (.s (.s (.s (.s .z)))) gn rfl rfl et et rfl aB rfl rfl rfl ?_
 intro c151 w54 hI
 refine nk (aJ ?_)
 obtain⟨c152,hI⟩:=hI.release (.s .z)
 obtain⟨c153,hI⟩:=hI.release (.s .z)
 obtain⟨c154,hI⟩:=hI.release (.s .z)
 obtain rfl:=ak h
 refine QG ?_
 exact .inl ⟨_,rfl,a52,c127,a53,c128,a54,c129,a60,c148,_,rfl,hI.arr GO SU⟩
abbrev Qs5 (f_:(aa→Option (bC (ac×aa)))):Prop:=∀ ⦃C0 F:NP⦄ ⦃w0:World⦄ ⦃r1:aa⦄ ⦃b1 c1:Nat⦄ ⦃a1:Option Addr⦄ (hI:Bun C0 F w0 C0 w0 [MO.box b1 67 (ae r1 a1 c1)] [Cl.sl ah a1 c1 r1.l,ap]) ⦃r:bC (ac×aa)⦄ (h:f_ r1=some r),CP C0 F w0 242 #[vp b1 0] r fun rx e w=>∃ a2 c2 a3 c3 a4 c4 a5 c5 C,e= .returned (Value.agg (an rx.1 a2 c2 a3 c3 a4 c4))∧Bun C0 F w0 C w [MO.box b1 67 (ae rx.2 a5 c5)] [Cl.sl ag a2 c2 rx.1.Lin.L,Cl.sl ai a3 c3 rx.1.Idx,Cl.sl al a4 c4 rx.1.Args,Cl.sl ah a5 c5 rx.2.l]
theorem oq {rec_:(aa→Option (bC (ac×aa)))} (hrec:yb rec_) {recs_:(aa→Option (bC (ac×aa)))} (hrecs_:Qs5 recs_) {r1:aa} (hI:Bun C0 F w0 C0 w0 [MO.box b1 67 (ae r1 a1 c1)] [Cl.sl ah a1 c1 r1.l,ap]) {r:bC (ac×aa)} (h:cr rec_ recs_ r1=some r):CP C0 F w0 242 #[vp b1 0] r fun rx e w=>∃ a2 c2 a3 c3 a4 c4 a5 c5 C,e= .returned (Value.agg (an rx.1 a2 c2 a3 c3 a4 c4))∧Bun C0 F w0 C w [MO.box b1 67 (ae rx.2 a5 c5)] [Cl.sl ag a2 c2 rx.1.Lin.L,Cl.sl ai a3 c3 rx.1.Idx,Cl.sl al a4 c4 rx.1.Args,Cl.sl ah a5 c5 rx.2.l]:=by
 refine eY (l:=[vp b1 0]) Tryz.func242 rfl Tryz.ntmps242 rfl ?_
 rw[cr]at h
 refine sr (cP (cs:=#[vi 0,(str ([]:List UInt8)),vi 0,vi 0,vi 0,vi 0,vi 0,vi 0,vi 0,vi 0,vs none 0 0,vs none 0 0,vs none 0 0]) hI gn rfl rfl dN rfl ?_)
 intro b2 c6 w1 hI
 refine nk (aj (T ?_))
 refine sB h (fun _ k=>dw NE ⟨(hI.get0 .z),hI.lendBox (.s .z),trivial⟩ k) (Rc Tryz.func121) fun r2 w2 h hI=> ?_
 refine TC (fun hb h=> ?_) fun hb h=> ?_
 ·refine T ?_
  obtain⟨c7,f1,hB,hl2,hk1⟩:=hI.hands (.r (.l .n))
  refine dZ h (fun _ hx3=>ot hrec HS hx3) (ko hk1) (Rc Tryz.func248) ?_
  rintro⟨r3,s1⟩ hx3 h _ w3 ⟨a6,c8,a7,c9,a8,c10,a9,c11,c12,rfl,hB2⟩
  try dsimp only at h
  refine HN hk1 hB2 fun c13 hI=> ?_
  refine⟨_,rfl,?_⟩
  refine lA fun c14 w4 hI=> ?_
  refine nk (aJ ?_)
  obtain rfl:=ak h
  refine QG ?_
  exact .inl ⟨_,rfl,a6,c8,a7,c9,a8,c10,a9,c11,_,rfl,hI.arr GO SU⟩
 refine T ?_
 obtain⟨c15,f2,hB,hl3,hk2⟩:=hI.hands (.r (.l .n))
 refine dZ h (fun _ hx4=>gB HS hx4) (ko hk2) (Rc Tryz.func194) ?_
 rintro⟨r4,s2⟩ hx4 h _ w5 ⟨a10,c16,c17,rfl,hB2⟩
 try dsimp only at h
 refine HN hk2 hB2 fun c18 hI=> ?_
 refine⟨_,rfl,?_⟩
 refine T ?_
 obtain⟨c19,f3,hB,hl4,hk3⟩:=hI.hands (.l (.r .n))
 refine dZ h (fun _ hx5=>hrecs_ HS hx5) (ko hk3) (Rc Tryz.func242) ?_
 rintro⟨r5,s3⟩ hx5 h _ w6 ⟨a11,c20,a12,c21,a13,c22,a14,c23,c24,rfl,hB2⟩
 try dsimp only at h
 refine HN hk3 hB2 fun c25 hI=> ?_
 refine⟨_,rfl,?_⟩
 refine ll hI al ([r5]:List ac) km (.cs (ez ⟨a11,c20,a12,c21,a13,c22,rfl,hI.get .z,hI.get (.s .z),hI.get (.s (.s .z))⟩) .nl) fun b3 c26 w7 hI=> ?_
 refine sq (aH (vs:=[(0,vi 8),(6,vs (some ⟨b3,0,none⟩) ([r5]:List ac).length 1)]) (cs:=#[vi 8,(str ([]:List UInt8)),vi 0,vi 0,vi 0,vi 0,vi 0,vi 0,vi 0,vi 0,vs none 0 0,vs none 0 0,vs (some ⟨b3,0,none⟩) ([r5]:List ac).length 1]) rfl ⟨rfl,af,⟨rfl,et,trivial⟩⟩ (by kernel_rfl)) ?_
 refine lN fun b4 c27 w8 hI=> ?_
 refine lA fun c28 w9 hI=> ?_
 refine T ?_
 refine lS fun c29 w10 hI=> ?_
 refine T ?_
 refine lA fun c30 w11 hI=> ?_
 refine nk (aJ ?_)
 obtain⟨c31,hI⟩:=hI.release (.s .z)
 have hI:=hI.add (c:=Cl.sl ag none 0 ([]:List aw)) SlC.nil
 have hI:=hI.add (c:=Cl.sl ai none 0 ([]:List av)) SlC.nil
 obtain rfl:=ak h
 refine QG ?_
 exact .inl ⟨_,rfl,none,0,none,0,some ⟨b3,0,none⟩,1,a14,c23,_,rfl,hI.arr GO SU⟩
theorem oo {rec_:(aa→Option (bC (ac×aa)))} (hrec:yb rec_) (n:Nat):Qs5 (cq rec_ n):=by
 induction n with
 | zero=>intro F;intros;rename_i h;cases h
 | succ n ih=>intro F;intros;apply oq hrec ih<;>assumption
theorem ff {rec_:(aa→Option (bC (ac×aa)))} (hrec:yb rec_):Qs5 (gx rec_):=oo hrec fu
def ce:Tr:=(.c (4,.s) (.c (5,.q) (.c (6,.s) .n)))
theorem oR {rec_:(aa→Option (bC (ac×aa)))} (hrec:yb rec_) {r1:aa} {signs1:List (List UInt8)} {ops1:List Int} (hI:Bun C0 F w0 C0 w0 [MO.box b1 67 (ae r1 a1 c1)] [Cl.sl ah a1 c1 r1.l,Cl.sl fp a2 c2 signs1,Cl.sl (hH .i64) a3 c3 ops1,ap]) {r:bC (ac×aa)} (h:gc rec_ r1 signs1 ops1=some r):CP C0 F w0 74 #[vp b1 0,(Value.func (.func 242) #[vp b1 0] #[]),vs a2 signs1.length c2,vs a3 ops1.length c3] r fun rx e w=>∃ a4 c4 a5 c5 a6 c6 a7 c7 C,e= .returned (Value.agg (an rx.1 a4 c4 a5 c5 a6 c6))∧Bun C0 F w0 C w [MO.box b1 67 (ae rx.2 a7 c7)] [Cl.sl ag a4 c4 rx.1.Lin.L,Cl.sl ai a5 c5 rx.1.Idx,Cl.sl al a6 c6 rx.1.Args,Cl.sl ah a7 c7 rx.2.l]:=by
 refine eY (l:=[vp b1 0,(Value.func (.func 242) #[vp b1 0] #[]),vs a2 signs1.length c2,vs a3 ops1.length c3]) Tryz.func74 rfl Tryz.ntmps74 rfl ?_
 rw[gc]at h
 refine sr (cP (cs:=#[vi 0,(str ([]:List UInt8)),vi 0,vi 0,vi 0,vi 0,vi 0,vi 0,vi 0,vi 0,vs none 0 0,vs none 0 0,vs none 0 0]) hI gn rfl rfl dN rfl ?_)
 intro b2 c8 w1 hI
 refine T ?_
 obtain⟨c9,f1,hB,hl1,hk1⟩:=hI.hands (.r (.l .n))
 refine dZ h (fun _ hx1=>ff hrec HS hx1) (ko hk1) (fP (fs:=[vp b1 0]) (vs:=[]) (cap:=[]) rfl et vo trivial) ?_
 rintro⟨r2,s1⟩ hx1 h _ w2 ⟨a8,c10,a9,c11,a10,c12,a11,c13,c14,rfl,hB2⟩
 try dsimp only at h
 refine HN hk1 hB2 fun c15 hI=> ?_
 refine⟨_,rfl,?_⟩
 refine lN fun b3 c16 w3 hI=> ?_
 refine lA fun c17 w4 hI=> ?_
 refine T ?_
 refine bh (α:=Nat×aa×ac×(Option Addr)×Nat×(Option Addr)×Nat×(Option Addr)×Nat×(Option Addr)×Nat) (fun x=>fun w=>∃ C,Bun C0 F w0 C w [MO.box b1 67 (ae (x.2.1) (x.2.2.2.1) (x.2.2.2.2.1)),MO.box b2 39 #[vi 0,(str ([]:List UInt8)),vi 0,vi 0,vi 0,vi 0,vi 0,vi 0,vi 0,vi 0,vs none 0 0,vs none 0 0,vs none 0 0],MO.box b3 39 (an (x.2.2.1) (x.2.2.2.2.2.1) (x.2.2.2.2.2.2.1) (x.2.2.2.2.2.2.2.1) (x.2.2.2.2.2.2.2.2.1) (x.2.2.2.2.2.2.2.2.2.1) (x.2.2.2.2.2.2.2.2.2.2))] [Cl.sl ah (x.2.2.2.1) (x.2.2.2.2.1) (x.2.1).l,Cl.sl ag (x.2.2.2.2.2.1) (x.2.2.2.2.2.2.1) (x.2.2.1).Lin.L,Cl.sl ai (x.2.2.2.2.2.2.2.1) (x.2.2.2.2.2.2.2.2.1) (x.2.2.1).Idx,Cl.sl al (x.2.2.2.2.2.2.2.2.2.1) (x.2.2.2.2.2.2.2.2.2.2) (x.2.2.1).Args,Cl.sl fp a2 c2 signs1,Cl.sl (hH .i64) a3 c3 ops1,ap]∧ba signs1 ops1 rec_ (x.1) (x.2.1) (x.2.2.1)=some r) (fun x _=>x.1) (fun x=>[(0,vp b1 0),(1,(Value.func (.func 242) #[vp b1 0] #[])),(2,vs a2 signs1.length c2),(3,vs a3 ops1.length c3),(8,vp b2 0),(9,vp b3 0)]) (fu,s1,r2,a11,c13,a8,c10,a9,c11,a10,c12) ⟨_,hI.arr (.c (.s .z) (.c (.s .z) (.c .z .n))) ⟨(.s (.s (.s .z))),.z,(.s .z),(.s (.s .z)),(.s (.s (.s (.s (.s .z))))),(.s (.s (.s (.s (.s (.s .z)))))),(.s (.s (.s (.s (.s (.s (.s .z))))))),trivial⟩,h⟩ ⟨rfl,rfl,rfl,rfl,rfl,rfl,trivial⟩ ?_
 clear h hI;rintro⟨fuel1,r3,e1,a12,c18,a13,c19,a14,c20,a15,c21⟩ w5 ⟨c22,hI,h⟩
 dsimp only at hI h ⊢
 rcases fuel1 with _ | fuel1
 ·rw[ba]at h;cases h
 rw[ba]at h
 refine T ?_
 refine bJ (α:=Int×aa×(Option Addr)×Nat) (fun _=>⟨43,[]⟩) (fun x=>[(0,vp b1 0),(1,(Value.func (.func 242) #[vp b1 0] #[])),(2,vs a2 signs1.length c2),(3,vs a3 ops1.length c3),(8,vp b2 0),(9,vp b3 0),(10,vi (x.1))]) (fun x=>fun w=>∃ C,Bun C0 F w0 C w [MO.box b1 67 (ae (x.2.1) (x.2.2.1) (x.2.2.2)),MO.box b2 39 #[vi 0,(str ([]:List UInt8)),vi 0,vi 0,vi 0,vi 0,vi 0,vi 0,vi 0,vi 0,vs none 0 0,vs none 0 0,vs none 0 0],MO.box b3 39 (an e1 a13 c19 a14 c20 a15 c21)] [Cl.sl ah (x.2.2.1) (x.2.2.2) (x.2.1).l,Cl.sl fp a2 c2 signs1,Cl.sl (hH .i64) a3 c3 ops1,Cl.sl ag a13 c19 e1.Lin.L,Cl.sl ai a14 c20 e1.Idx,Cl.sl al a15 c21 e1.Args,ap]∧gS e1 rec_ (ba signs1 ops1 rec_ fuel1) (x.1) (x.2.1)=some r) ?_ ?_
 ·clear h hI;rintro⟨op1,r4,a16,c23⟩ w6 ⟨c24,hI,h⟩
  try dsimp only at hI h ⊢
  rw[gS]at h
  refine aj (T ?_)
  refine TC (fun hb h=> ?_) fun hb h=> ?_
  ·refine T ?_
   refine lA fun c25 w7 hI=> ?_
   refine nk (aJ ?_)
   obtain rfl:=ak h
   exact fr (vs:=[(Value.agg (an e1 a13 c19 a14 c20 a15 c21))]) Tryz.results74 ⟨⟨_,aI rfl rfl,gM (l:=(aK e1 a13 c19 a14 c20 a15 c21)) gP rfl aB (CellsAt.of_blk (hI.blk (.s .z)) rfl)⟩,trivial⟩ (.inl ⟨_,rfl,a13,c19,a14,c20,a15,c21,a16,c23,_,rfl,hI.arr (.c .z .n) ⟨(.s (.s (.s .z))),(.s (.s (.s (.s .z)))),(.s (.s (.s (.s (.s .z))))),.z,trivial⟩⟩)
  refine T ?_
  rcases gR h with⟨⟨r5,s2⟩,hx2,h⟩ | ⟨pa_,pn_,hx2,hp_⟩
  rotate_left
  ·subst hp_
   refine aP [3,6] false (.c (0,.q) (.c (2,.q) (.two 1 (.c (3,.s) ce) 3 (.c (1,.s) ce)))) hI (by kernel_rfl) (by kernel_rfl) ?_
   intro w12 hI
   refine V ?_
   refine gC ?_ ?_
   ·skip
    refine dI rfl gn rfl (am (l:=(aK e1 a13 c19 a14 c20 a15 c21)) rfl et gP rfl aB (CellsAt.of_blk (hI.blk (.s (.s .z))) rfl)) SX.self ?_
    refine gt (F:=F) (C:=c24) rfl rfl ?_
    obtain⟨c26,f2,hB,hl2,hk2⟩:=hI.hands (.l (.r (.r .n)))
    refine eD rfl gn rfl (fP (fs:=[vp b1 0]) (vs:=[]) (cap:=[]) rfl et vo trivial) (Calls.mono (ff hrec HS hx2) ?_)
    intro e_ w_ hq_;obtain⟨rfl,C_,hB_⟩:=el hq_;obtain⟨C9_,-,hI_⟩:=hk2 _ _ _ _ hB_;exact .inr ⟨_,rfl,gO (.inr ⟨_,_,rfl,rfl,⟨_,hI_.arr .n trivial⟩⟩)⟩
   refine dx (F:=F) (C:=c24) rfl rfl ?_
   obtain⟨c26,f2,hB,hl2,hk2⟩:=hI.hands (.l (.r (.r .n)))
   refine eD rfl gn rfl (fP (fs:=[vp b1 0]) (vs:=[]) (cap:=[]) rfl et vo trivial) (Calls.mono (ff hrec HS hx2) ?_)
   intro e_ w_ hq_;obtain⟨rfl,C_,hB_⟩:=el hq_;obtain⟨C9_,-,hI_⟩:=hk2 _ _ _ _ hB_;exact .inr ⟨_,rfl,gO (.inr ⟨_,_,rfl,rfl,⟨_,hI_.arr .n trivial⟩⟩)⟩
  try dsimp only at h
  refine aP [3,6] false (.c (0,.q) (.c (2,.q) (.two 1 (.c (3,.s) ce) 3 (.c (1,.s) ce)))) hI (by kernel_rfl) (by kernel_rfl) ?_
  intro w13 hI
  refine fQ (α:=(Option Addr)×Nat×(Option Addr)×Nat×(Option Addr)×Nat×(Option Addr)×Nat×NP) (T:=ce) (fun x=>[(0,vp b1 0),(1,(Value.func (.func 242) #[vp b1 0] #[])),(2,vs a2 signs1.length c2),(3,vs a3 ops1.length c3),(8,vp b2 0),(9,vp b3 0),(10,vi op1),(34,vi op1),(35,(vb (decide (op1=0)))),(37,vi op1),(38,(Value.agg (an e1 a13 c19 a14 c20 a15 c21))),(39,(Value.func (.func 242) #[vp b1 0] #[])),(40,(Value.agg (an r5 (x.1) (x.2.1) (x.2.2.1) (x.2.2.2.1) (x.2.2.2.2.1) (x.2.2.2.2.2.1))))]) (fun x w=>Bun C0 F w0 (x.2.2.2.2.2.2.2.2) w [MO.box b1 67 (ae s2 (x.2.2.2.2.2.2.1) (x.2.2.2.2.2.2.2.1)),MO.box b2 39 #[vi 0,(str ([]:List UInt8)),vi 0,vi 0,vi 0,vi 0,vi 0,vi 0,vi 0,vi 0,vs none 0 0,vs none 0 0,vs none 0 0],MO.box b3 39 (an e1 a13 c19 a14 c20 a15 c21)] [Cl.sl ag (x.1) (x.2.1) r5.Lin.L,Cl.sl ai (x.2.2.1) (x.2.2.2.1) r5.Idx,Cl.sl al (x.2.2.2.2.1) (x.2.2.2.2.2.1) r5.Args,Cl.sl ah (x.2.2.2.2.2.2.1) (x.2.2.2.2.2.2.2.1) s2.l,Cl.sl ah a16 c23 r4.l,Cl.sl fp a2 c2 signs1,Cl.sl (hH .i64) a3 c3 ops1,Cl.sl ag a13 c19 e1.Lin.L,Cl.sl ai a14 c20 e1.Idx,Cl.sl al a15 c21 e1.Args,ap]) (fun x w=>SN [] (DM true F (x.2.2.2.2.2.2.2.2)) w) ?_ ?_
  ·clear hI;rintro⟨a17,c27,a18,c28,a19,c29,a20,c30,c35⟩ w11 hI
   try dsimp only at hI ⊢
   unfold ce
   refine vl hI al ([e1,r5]:List ac) km (.cs (ez ⟨a13,c19,a14,c20,a15,c21,rfl,hI.get (.s (.s (.s (.s (.s (.s (.s .z))))))),hI.get (.s (.s (.s (.s (.s (.s (.s (.s .z)))))))),hI.get (.s (.s (.s (.s (.s (.s (.s (.s (.s .z)))))))))⟩) (.cs (ez ⟨a17,c27,a18,c28,a19,c29,rfl,hI.get .z,hI.get (.s .z),hI.get (.s (.s .z))⟩) .nl)) fun b4 c33 w9 hI=> ?_
   refine iy rfl gn rfl (fun w'=>(aH (vs:=[(0,vi op1),(6,vs (some ⟨b4,0,none⟩) ([e1,r5]:List ac).length 2)]) (cs:=#[vi op1,(str ([]:List UInt8)),vi 0,vi 0,vi 0,vi 0,vi 0,vi 0,vi 0,vi 0,vs none 0 0,vs none 0 0,vs (some ⟨b4,0,none⟩) ([e1,r5]:List ac).length 2]) rfl ⟨rfl,et,⟨rfl,et,trivial⟩⟩ (by kernel_rfl))) ?_
   refine vA fun c34 w10 hI=> ?_
   refine nu ?_
   have hI:=hI.add (c:=Cl.sl ag none 0 ([]:List aw)) SlC.nil
   have hI:=hI.add (c:=Cl.sl ai none 0 ([]:List av)) SlC.nil
   obtain⟨c36,hI⟩:=hI.release .z
   exact kP (fuel1,s2,(⟨op1,([]:List UInt8),(⟨0,0⟩:bj),(⟨0,0,0,0,0⟩:aM),(⟨0,([]:List aw)⟩:ay),([]:List av),([e1,r5]:List ac)⟩:ac),a20,c30,none,0,none,0,some ⟨b4,0,none⟩,2) ⟨rfl,rfl,rfl,rfl,rfl,rfl,trivial⟩ ⟨_,hI.arr (.c .z (.c .z (.c .z .n))) ⟨(.s (.s (.s (.s (.s (.s .z)))))),(.s (.s .z)),(.s .z),.z,(.s (.s (.s (.s (.s (.s (.s (.s .z)))))))),(.s (.s (.s (.s (.s (.s (.s (.s (.s .z))))))))),(.s (.s (.s (.s (.s (.s (.s (.s (.s (.s (.s (.s (.s .z))))))))))))),trivial⟩,h⟩ (Nat.lt_succ_self _)
  intro hk_tr_parser_reader_chain_w5_3_0
  refine V ?_
  refine gC ?_ ?_
  ·skip
   refine dI rfl gn rfl (am (l:=(aK e1 a13 c19 a14 c20 a15 c21)) rfl et gP rfl aB (CellsAt.of_blk (hI.blk (.s (.s .z))) rfl)) SX.self ?_
   refine gt (F:=F) (C:=c24) rfl rfl ?_
   obtain⟨c26,f2,hB,hl2,hk2⟩:=hI.hands (.l (.r (.r .n)))
   refine eC rfl gn rfl (fP (fs:=[vp b1 0]) (vs:=[]) (cap:=[]) rfl et vo trivial) (Calls.mono (ff hrec HS hx2) ?_)
   intro e_ w8 hq_;obtain⟨a17,c27,a18,c28,a19,c29,a20,c30,c31,rfl,hB2⟩:=ej hq_
   obtain⟨c32,hs2,hI⟩:=hk2 _ _ _ _ hB2
   dsimp only[ca,na]at hI
   refine⟨_,rfl,DM true F c32,hs2,?_⟩
   exact cD (hk_tr_parser_reader_chain_w5_3_0 (a17,c27,a18,c28,a19,c29,a20,c30,c32) _ (hI.arr (.c .z (.c .z (.c .z .n))) ⟨.z,(.s .z),(.s (.s .z)),(.s (.s (.s .z))),(.s (.s (.s (.s .z)))),(.s (.s (.s (.s (.s .z))))),(.s (.s (.s (.s (.s (.s .z)))))),(.s (.s (.s (.s (.s (.s (.s .z))))))),(.s (.s (.s (.s (.s (.s (.s (.s .z)))))))),(.s (.s (.s (.s (.s (.s (.s (.s (.s .z))))))))),(.s (.s (.s (.s (.s (.s (.s (.s (.s (.s .z)))))))))),trivial⟩)) ⟨rfl,rfl,rfl,rfl,rfl,rfl,rfl,rfl,rfl,rfl,rfl,rfl,rfl,trivial⟩
  refine dx (F:=F) (C:=c24) rfl rfl ?_
  obtain⟨c26,f2,hB,hl2,hk2⟩:=hI.hands (.l (.r (.r .n)))
  refine eC rfl gn rfl (fP (fs:=[vp b1 0]) (vs:=[]) (cap:=[]) rfl et vo trivial) (Calls.mono (ff hrec HS hx2) ?_)
  intro e_ w8 hq_;obtain⟨a17,c27,a18,c28,a19,c29,a20,c30,c31,rfl,hB2⟩:=ej hq_
  obtain⟨c32,hs2,hI⟩:=hk2 _ _ _ _ hB2
  dsimp only[ca,na]at hI
  refine⟨_,rfl,DM true F c32,hs2,?_⟩
  refine dI rfl gn rfl (am (l:=(aK e1 a13 c19 a14 c20 a15 c21)) rfl et gP rfl aB (CellsAt.of_blk (hI.blk (.s (.s .z))) rfl)) SX.self ?_
  exact cD (hk_tr_parser_reader_chain_w5_3_0 (a17,c27,a18,c28,a19,c29,a20,c30,c32) _ (hI.arr (.c .z (.c .z (.c .z .n))) ⟨.z,(.s .z),(.s (.s .z)),(.s (.s (.s .z))),(.s (.s (.s (.s .z)))),(.s (.s (.s (.s (.s .z))))),(.s (.s (.s (.s (.s (.s .z)))))),(.s (.s (.s (.s (.s (.s (.s .z))))))),(.s (.s (.s (.s (.s (.s (.s (.s .z)))))))),(.s (.s (.s (.s (.s (.s (.s (.s (.s .z))))))))),(.s (.s (.s (.s (.s (.s (.s (.s (.s (.s .z)))))))))),trivial⟩)) ⟨rfl,rfl,rfl,rfl,rfl,rfl,rfl,rfl,rfl,rfl,rfl,rfl,rfl,trivial⟩
 refine T ?_
 refine bh (α:=Nat×Int×Int×aa×(Option Addr)×Nat) (fun x=>fun w=>∃ C,Bun C0 F w0 C w [MO.box b1 67 (ae (x.2.2.2.1) (x.2.2.2.2.1) (x.2.2.2.2.2)),MO.box b2 39 #[vi 0,(str ([]:List UInt8)),vi 0,vi 0,vi 0,vi 0,vi 0,vi 0,vi 0,vi 0,vs none 0 0,vs none 0 0,vs none 0 0],MO.box b3 39 (an e1 a13 c19 a14 c20 a15 c21)] [Cl.sl ah (x.2.2.2.2.1) (x.2.2.2.2.2) (x.2.2.2.1).l,Cl.sl fp a2 c2 signs1,Cl.sl (hH .i64) a3 c3 ops1,Cl.sl ag a13 c19 e1.Lin.L,Cl.sl ai a14 c20 e1.Idx,Cl.sl al a15 c21 e1.Args,ap]∧bw signs1 ops1 e1 rec_ (ba signs1 ops1 rec_ fuel1) (x.1) (x.2.1) (x.2.2.1) (x.2.2.2.1)=some r) (fun x _=>x.1) (fun x=>[(0,vp b1 0),(1,(Value.func (.func 242) #[vp b1 0] #[])),(2,vs a2 signs1.length c2),(3,vs a3 ops1.length c3),(8,vp b2 0),(9,vp b3 0),(10,vi (x.2.1)),(15,vs a2 signs1.length c2),(16,vi (signs1.length:Int)),(17,vi (x.2.2.1))]) (fu,0,0,r3,a12,c18) ⟨_,hI.arr (.c .z (.c .z (.c .z .n))) ⟨.z,(.s (.s (.s (.s .z)))),(.s (.s (.s (.s (.s .z))))),(.s .z),(.s (.s .z)),(.s (.s (.s .z))),(.s (.s (.s (.s (.s (.s .z)))))),trivial⟩,h⟩ ⟨rfl,rfl,rfl,rfl,rfl,rfl,rfl,rfl,rfl,rfl,trivial⟩ ?_
 clear h hI;rintro⟨fuel2,op2,i1,r6,a21,c37⟩ w14 ⟨c38,hI,h⟩
 dsimp only at hI h ⊢
 rcases fuel2 with _ | fuel2
 ·rw[bw]at h;cases h
 rw[bw]at h
 refine T ?_
 refine aj (xY h et (fun hb h=> ?_) (fun hb h=> ?_))
 ·refine T ?_
  refine bJ (α:=Int×aa×(Option Addr)×Nat) (fun _=>⟨43,[]⟩) (fun x=>[(0,vp b1 0),(1,(Value.func (.func 242) #[vp b1 0] #[])),(2,vs a2 signs1.length c2),(3,vs a3 ops1.length c3),(8,vp b2 0),(9,vp b3 0),(10,vi (x.1)),(15,vs a2 signs1.length c2),(16,vi (signs1.length:Int)),(17,vi i1)]) (fun x=>fun w=>∃ C,Bun C0 F w0 C w [MO.box b1 67 (ae (x.2.1) (x.2.2.1) (x.2.2.2)),MO.box b2 39 #[vi 0,(str ([]:List UInt8)),vi 0,vi 0,vi 0,vi 0,vi 0,vi 0,vi 0,vi 0,vs none 0 0,vs none 0 0,vs none 0 0],MO.box b3 39 (an e1 a13 c19 a14 c20 a15 c21)] [Cl.sl ah (x.2.2.1) (x.2.2.2) (x.2.1).l,Cl.sl fp a2 c2 signs1,Cl.sl (hH .i64) a3 c3 ops1,Cl.sl ag a13 c19 e1.Lin.L,Cl.sl ai a14 c20 e1.Idx,Cl.sl al a15 c21 e1.Args,ap]∧fj (bw signs1 ops1 e1 rec_ (ba signs1 ops1 rec_ fuel1) fuel2) i1 (x.1) (x.2.1)=some r) ?_ ?_
  ·clear h hI;rintro⟨op3,r7,a22,c39⟩ w15 ⟨c40,hI,h⟩
   try dsimp only at hI h ⊢
   rw[fj]at h
   refine T ?_
   refine aG ?_
   exact kP (fuel2,op3,au (i1+1),r7,a22,c39) ⟨rfl,rfl,rfl,rfl,rfl,rfl,rfl,rfl,rfl,rfl,trivial⟩ ⟨_,hI.arr (.c .z (.c .z (.c .z .n))) ⟨.z,(.s .z),(.s (.s .z)),(.s (.s (.s .z))),(.s (.s (.s (.s .z)))),(.s (.s (.s (.s (.s .z))))),(.s (.s (.s (.s (.s (.s .z)))))),trivial⟩,h⟩ (Nat.lt_succ_self _)
  refine T ?_
  obtain⟨e2,hx3,h⟩:=ab h
  obtain⟨ad1,cs1,hA1,hr1,hq1⟩:=hI.clat (.s .z) hx3
  obtain rfl:cs1=[(str e2)]:=hr1
  refine sI ?_
  refine T ?_
  obtain⟨c41,f3,hB,hl3,hk3⟩:=hI.hands (.l (.r (.r .n)))
  obtain⟨⟨r8,s3⟩,hx4,h⟩:=ab h
  try dsimp only at h
  refine px (fun v_ w_=>v_=(vb r8)∧∃ (a23:Option Addr),∃ (c42:Nat),∃ C_:NP,Bun c41 f3 w14 C_ w_ [MO.box b1 67 (ae s3 a23 c42)] [Cl.sl ah a23 c42 s3.l]) (aV rfl rfl rfl rfl) rfl (fun hc=>(ax (vs:=[vp b1 0,(str e2)]) rfl Ak ⟨(aF et hc),⟨(aF et hc),trivial⟩⟩)) (fun hc=>(aD HS (Aw hc hx4)).mono fun e_ w_ hq_=>(let ⟨a23,c42,C_,he_,hB_⟩:=hq_;⟨_,he_,rfl,a23,c42,C_,hB_⟩)) ?_
  intro v_ w16 h1_ h2_
  obtain⟨hv_,a23,c42,c43,hB2⟩:gv (decide (op2=0)) v_=gv (decide (op2=0)) (vb r8)∧∃ (a23:Option Addr),∃ (c42:Nat),∃ C_:NP,Bun c41 f3 w14 C_ w16 [MO.box b1 67 (ae s3 a23 c42)] [Cl.sl ah a23 c42 s3.l]:=by
   rcases Bool.eq_false_or_eq_true (decide (op2=0))with hc | hc
   ·obtain⟨rfl,hq_⟩:=h1_ hc;exact⟨rfl,hq_⟩
   have e1_:=h2_ hc;subst e1_;obtain⟨rfl,rfl⟩:=Ax hc hx4;exact⟨by rw[oN hc,oN hc],a21,c37,_,hB.subs ⟨.z,trivial⟩⟩
  rw[hv_];clear h1_ h2_
  refine HN hk3 hB2 fun c44 hI=> ?_
  refine TC (fun hb h=> ?_) fun hb h=> ?_
  ·refine T ?_
   obtain⟨e3,hx5,h⟩:=ab h
   obtain⟨ad2,cs2,hA2,hr2,hq2⟩:=hI.clat (.s (.s (.s .z))) hx5
   obtain rfl:cs2=[vi e3]:=hr2
   refine sI ?_
   refine T ?_
   refine aG ?_
   exact br (e3,s3,a23,c42) ⟨rfl,rfl,rfl,rfl,rfl,rfl,rfl,rfl,rfl,rfl,trivial⟩ ⟨_,hI.arr (.c .z (.c .z (.c .z .n))) ⟨.z,(.s (.s .z)),(.s (.s (.s .z))),(.s (.s (.s (.s .z)))),(.s (.s (.s (.s (.s .z))))),(.s (.s (.s (.s (.s (.s .z)))))),(.s (.s (.s (.s (.s (.s (.s .z))))))),trivial⟩,h⟩ rfl
  exact aT (br (op2,s3,a23,c42) ⟨rfl,rfl,rfl,rfl,rfl,rfl,rfl,rfl,rfl,rfl,trivial⟩ ⟨_,hI.arr (.c .z (.c .z (.c .z .n))) ⟨.z,(.s (.s .z)),(.s (.s (.s .z))),(.s (.s (.s (.s .z)))),(.s (.s (.s (.s (.s .z))))),(.s (.s (.s (.s (.s (.s .z)))))),(.s (.s (.s (.s (.s (.s (.s .z))))))),trivial⟩,h⟩ rfl)
 refine bp ?_
 refine fE ?_
 exact br (op2,r6,a21,c37) ⟨rfl,rfl,rfl,rfl,rfl,rfl,rfl,trivial⟩ ⟨_,hI.arr (.c .z (.c .z (.c .z .n))) ⟨.z,(.s .z),(.s (.s .z)),(.s (.s (.s .z))),(.s (.s (.s (.s .z)))),(.s (.s (.s (.s (.s .z))))),(.s (.s (.s (.s (.s (.s .z)))))),trivial⟩,h⟩ rfl
theorem eE {rec_:(aa→Option (bC (ac×aa)))} (hrec:yb rec_) {r1:aa} (hI:Bun C0 F w0 C0 w0 [MO.box b1 67 (ae r1 a1 c1)] [Cl.sl ah a1 c1 r1.l,ap]) {r:bC (ac×aa)} (h:ct rec_ r1=some r):CP C0 F w0 227 #[vp b1 0] r fun rx e w=>∃ a2 c2 a3 c3 a4 c4 a5 c5 C,e= .returned (Value.agg (an rx.1 a2 c2 a3 c3 a4 c4))∧Bun C0 F w0 C w [MO.box b1 67 (ae rx.2 a5 c5)] [Cl.sl ag a2 c2 rx.1.Lin.L,Cl.sl ai a3 c3 rx.1.Idx,Cl.sl al a4 c4 rx.1.Args,Cl.sl ah a5 c5 rx.2.l]:=by
 refine eY (l:=[vp b1 0]) Tryz.func227 rfl Tryz.ntmps227 rfl ?_
 rw[ct]at h
 refine sr (cP (cs:=#[vi 0,(str ([]:List UInt8)),vi 0,vi 0,vi 0,vi 0,vi 0,vi 0,vi 0,vi 0,vs none 0 0,vs none 0 0,vs none 0 0]) hI gn rfl rfl dN rfl ?_)
 intro b2 c6 w1 hI
 refine T ?_
 refine sq (mX (vs:=[vp b1 0]) rfl rfl ⟨et,trivial⟩) ?_
 refine jZ (c:=fp) (xs:=([([42]:List UInt8),([47]:List UInt8)]:List (List UInt8))) (vs:=[(0,(str ([42]:List UInt8))),(1,(str ([47]:List UInt8)))]) (cs:=#[(str ([42]:List UInt8)),(str ([47]:List UInt8))]) (css:=[[(str ([42]:List UInt8))],[(str ([47]:List UInt8))]]) hI gn rfl rfl Ep nT rfl ⟨rfl,af,⟨rfl,af,trivial⟩⟩ (by kernel_rfl) ⟨rfl,⟨rfl,trivial⟩⟩ rfl rfl rfl ?_
 intro b3 c7 w2 hI
 refine jZ (c:=(hH .i64)) (xs:=([6,7]:List Int)) (vs:=[(0,vi 6),(1,vi 7)]) (cs:=#[vi 6,vi 7]) (css:=[[vi 6],[vi 7]]) hI gn rfl rfl Er vK rfl ⟨rfl,af,⟨rfl,af,trivial⟩⟩ (by kernel_rfl) ⟨rfl,⟨rfl,trivial⟩⟩ rfl rfl rfl ?_
 intro b4 c8 w3 hI
 obtain⟨c9,hI⟩:=hI.release (.s .z)
 obtain⟨c10,hI⟩:=hI.release .z
 obtain⟨c11,f1,hB,hl1,hk1⟩:=hI.hands (.r (.l .n))
 refine dZ h (fun _ hx1=>oR hrec HS hx1) (ko hk1) (Rc Tryz.func74) ?_
 rintro⟨r2,s1⟩ hx1 h _ w4 ⟨a6,c12,a7,c13,a8,c14,a9,c15,c16,rfl,hB2⟩
 try dsimp only at h
 refine HN hk1 hB2 fun c17 hI=> ?_
 refine⟨_,rfl,?_⟩
 refine lA fun c18 w5 hI=> ?_
 refine nk (aJ ?_)
 obtain rfl:=ak h
 refine QG ?_
 exact .inl ⟨_,rfl,a6,c12,a7,c13,a8,c14,a9,c15,_,rfl,hI.arr GO SU⟩
def cg:Tr:=(.c (4,.s) (.c (5,.q) (.c (6,.s) .n)))
theorem oT {rec_:(aa→Option (bC (ac×aa)))} (hrec:yb rec_) {r1:aa} {signs1:List (List UInt8)} {ops1:List Int} (hI:Bun C0 F w0 C0 w0 [MO.box b1 67 (ae r1 a1 c1)] [Cl.sl ah a1 c1 r1.l,Cl.sl fp a2 c2 signs1,Cl.sl (hH .i64) a3 c3 ops1,ap]) {r:bC (ac×aa)} (h:ge rec_ r1 signs1 ops1=some r):CP C0 F w0 74 #[vp b1 0,(Value.func (.func 227) #[vp b1 0] #[]),vs a2 signs1.length c2,vs a3 ops1.length c3] r fun rx e w=>∃ a4 c4 a5 c5 a6 c6 a7 c7 C,e= .returned (Value.agg (an rx.1 a4 c4 a5 c5 a6 c6))∧Bun C0 F w0 C w [MO.box b1 67 (ae rx.2 a7 c7)] [Cl.sl ag a4 c4 rx.1.Lin.L,Cl.sl ai a5 c5 rx.1.Idx,Cl.sl al a6 c6 rx.1.Args,Cl.sl ah a7 c7 rx.2.l]:=by
 refine eY (l:=[vp b1 0,(Value.func (.func 227) #[vp b1 0] #[]),vs a2 signs1.length c2,vs a3 ops1.length c3]) Tryz.func74 rfl Tryz.ntmps74 rfl ?_
 rw[ge]at h
 refine sr (cP (cs:=#[vi 0,(str ([]:List UInt8)),vi 0,vi 0,vi 0,vi 0,vi 0,vi 0,vi 0,vi 0,vs none 0 0,vs none 0 0,vs none 0 0]) hI gn rfl rfl dN rfl ?_)
 intro b2 c8 w1 hI
 refine T ?_
 obtain⟨c9,f1,hB,hl1,hk1⟩:=hI.hands (.r (.l .n))
 refine dZ h (fun _ hx1=>eE hrec HS hx1) (ko hk1) (fP (fs:=[vp b1 0]) (vs:=[]) (cap:=[]) rfl et vq trivial) ?_
 rintro⟨r2,s1⟩ hx1 h _ w2 ⟨a8,c10,a9,c11,a10,c12,a11,c13,c14,rfl,hB2⟩
 try dsimp only at h
 refine HN hk1 hB2 fun c15 hI=> ?_
 refine⟨_,rfl,?_⟩
 refine lN fun b3 c16 w3 hI=> ?_
 refine lA fun c17 w4 hI=> ?_
 refine T ?_
 refine bh (α:=Nat×aa×ac×(Option Addr)×Nat×(Option Addr)×Nat×(Option Addr)×Nat×(Option Addr)×Nat) (fun x=>fun w=>∃ C,Bun C0 F w0 C w [MO.box b1 67 (ae (x.2.1) (x.2.2.2.1) (x.2.2.2.2.1)),MO.box b2 39 #[vi 0,(str ([]:List UInt8)),vi 0,vi 0,vi 0,vi 0,vi 0,vi 0,vi 0,vi 0,vs none 0 0,vs none 0 0,vs none 0 0],MO.box b3 39 (an (x.2.2.1) (x.2.2.2.2.2.1) (x.2.2.2.2.2.2.1) (x.2.2.2.2.2.2.2.1) (x.2.2.2.2.2.2.2.2.1) (x.2.2.2.2.2.2.2.2.2.1) (x.2.2.2.2.2.2.2.2.2.2))] [Cl.sl ah (x.2.2.2.1) (x.2.2.2.2.1) (x.2.1).l,Cl.sl ag (x.2.2.2.2.2.1) (x.2.2.2.2.2.2.1) (x.2.2.1).Lin.L,Cl.sl ai (x.2.2.2.2.2.2.2.1) (x.2.2.2.2.2.2.2.2.1) (x.2.2.1).Idx,Cl.sl al (x.2.2.2.2.2.2.2.2.2.1) (x.2.2.2.2.2.2.2.2.2.2) (x.2.2.1).Args,Cl.sl fp a2 c2 signs1,Cl.sl (hH .i64) a3 c3 ops1,ap]∧bb signs1 ops1 rec_ (x.1) (x.2.1) (x.2.2.1)=some r) (fun x _=>x.1) (fun x=>[(0,vp b1 0),(1,(Value.func (.func 227) #[vp b1 0] #[])),(2,vs a2 signs1.length c2),(3,vs a3 ops1.length c3),(8,vp b2 0),(9,vp b3 0)]) (fu,s1,r2,a11,c13,a8,c10,a9,c11,a10,c12) ⟨_,hI.arr (.c (.s .z) (.c (.s .z) (.c .z .n))) ⟨(.s (.s (.s .z))),.z,(.s .z),(.s (.s .z)),(.s (.s (.s (.s (.s .z))))),(.s (.s (.s (.s (.s (.s .z)))))),(.s (.s (.s (.s (.s (.s (.s .z))))))),trivial⟩,h⟩ ⟨rfl,rfl,rfl,rfl,rfl,rfl,trivial⟩ ?_
 clear h hI;rintro⟨fuel1,r3,e1,a12,c18,a13,c19,a14,c20,a15,c21⟩ w5 ⟨c22,hI,h⟩
 dsimp only at hI h ⊢
 rcases fuel1 with _ | fuel1
 ·rw[bb]at h;cases h
 rw[bb]at h
 refine T ?_
 refine bJ (α:=Int×aa×(Option Addr)×Nat) (fun _=>⟨43,[]⟩) (fun x=>[(0,vp b1 0),(1,(Value.func (.func 227) #[vp b1 0] #[])),(2,vs a2 signs1.length c2),(3,vs a3 ops1.length c3),(8,vp b2 0),(9,vp b3 0),(10,vi (x.1))]) (fun x=>fun w=>∃ C,Bun C0 F w0 C w [MO.box b1 67 (ae (x.2.1) (x.2.2.1) (x.2.2.2)),MO.box b2 39 #[vi 0,(str ([]:List UInt8)),vi 0,vi 0,vi 0,vi 0,vi 0,vi 0,vi 0,vi 0,vs none 0 0,vs none 0 0,vs none 0 0],MO.box b3 39 (an e1 a13 c19 a14 c20 a15 c21)] [Cl.sl ah (x.2.2.1) (x.2.2.2) (x.2.1).l,Cl.sl fp a2 c2 signs1,Cl.sl (hH .i64) a3 c3 ops1,Cl.sl ag a13 c19 e1.Lin.L,Cl.sl ai a14 c20 e1.Idx,Cl.sl al a15 c21 e1.Args,ap]∧gU e1 rec_ (bb signs1 ops1 rec_ fuel1) (x.1) (x.2.1)=some r) ?_ ?_
 ·clear h hI;rintro⟨op1,r4,a16,c23⟩ w6 ⟨c24,hI,h⟩
  try dsimp only at hI h ⊢
  rw[gU]at h
  refine aj (T ?_)
  refine TC (fun hb h=> ?_) fun hb h=> ?_
  ·refine T ?_
   refine lA fun c25 w7 hI=> ?_
   refine nk (aJ ?_)
   obtain rfl:=ak h
   exact fr (vs:=[(Value.agg (an e1 a13 c19 a14 c20 a15 c21))]) Tryz.results74 ⟨⟨_,aI rfl rfl,gM (l:=(aK e1 a13 c19 a14 c20 a15 c21)) gP rfl aB (CellsAt.of_blk (hI.blk (.s .z)) rfl)⟩,trivial⟩ (.inl ⟨_,rfl,a13,c19,a14,c20,a15,c21,a16,c23,_,rfl,hI.arr (.c .z .n) ⟨(.s (.s (.s .z))),(.s (.s (.s (.s .z)))),(.s (.s (.s (.s (.s .z))))),.z,trivial⟩⟩)
  refine T ?_
  rcases gR h with⟨⟨r5,s2⟩,hx2,h⟩ | ⟨pa_,pn_,hx2,hp_⟩
  rotate_left
  ·subst hp_
   refine aP [3,6] false (.c (0,.q) (.c (2,.q) (.two 1 (.c (3,.s) cg) 3 (.c (1,.s) cg)))) hI (by kernel_rfl) (by kernel_rfl) ?_
   intro w12 hI
   refine V ?_
   refine gC ?_ ?_
   ·skip
    refine dI rfl gn rfl (am (l:=(aK e1 a13 c19 a14 c20 a15 c21)) rfl et gP rfl aB (CellsAt.of_blk (hI.blk (.s (.s .z))) rfl)) SX.self ?_
    refine gt (F:=F) (C:=c24) rfl rfl ?_
    obtain⟨c26,f2,hB,hl2,hk2⟩:=hI.hands (.l (.r (.r .n)))
    refine eD rfl gn rfl (fP (fs:=[vp b1 0]) (vs:=[]) (cap:=[]) rfl et vq trivial) (Calls.mono (eE hrec HS hx2) ?_)
    intro e_ w_ hq_;obtain⟨rfl,C_,hB_⟩:=el hq_;obtain⟨C9_,-,hI_⟩:=hk2 _ _ _ _ hB_;exact .inr ⟨_,rfl,gO (.inr ⟨_,_,rfl,rfl,⟨_,hI_.arr .n trivial⟩⟩)⟩
   refine dx (F:=F) (C:=c24) rfl rfl ?_
   obtain⟨c26,f2,hB,hl2,hk2⟩:=hI.hands (.l (.r (.r .n)))
   refine eD rfl gn rfl (fP (fs:=[vp b1 0]) (vs:=[]) (cap:=[]) rfl et vq trivial) (Calls.mono (eE hrec HS hx2) ?_)
   intro e_ w_ hq_;obtain⟨rfl,C_,hB_⟩:=el hq_;obtain⟨C9_,-,hI_⟩:=hk2 _ _ _ _ hB_;exact .inr ⟨_,rfl,gO (.inr ⟨_,_,rfl,rfl,⟨_,hI_.arr .n trivial⟩⟩)⟩
  try dsimp only at h
  refine aP [3,6] false (.c (0,.q) (.c (2,.q) (.two 1 (.c (3,.s) cg) 3 (.c (1,.s) cg)))) hI (by kernel_rfl) (by kernel_rfl) ?_
  intro w13 hI
  refine fQ (α:=(Option Addr)×Nat×(Option Addr)×Nat×(Option Addr)×Nat×(Option Addr)×Nat×NP) (T:=cg) (fun x=>[(0,vp b1 0),(1,(Value.func (.func 227) #[vp b1 0] #[])),(2,vs a2 signs1.length c2),(3,vs a3 ops1.length c3),(8,vp b2 0),(9,vp b3 0),(10,vi op1),(34,vi op1),(35,(vb (decide (op1=0)))),(37,vi op1),(38,(Value.agg (an e1 a13 c19 a14 c20 a15 c21))),(39,(Value.func (.func 227) #[vp b1 0] #[])),(40,(Value.agg (an r5 (x.1) (x.2.1) (x.2.2.1) (x.2.2.2.1) (x.2.2.2.2.1) (x.2.2.2.2.2.1))))]) (fun x w=>Bun C0 F w0 (x.2.2.2.2.2.2.2.2) w [MO.box b1 67 (ae s2 (x.2.2.2.2.2.2.1) (x.2.2.2.2.2.2.2.1)),MO.box b2 39 #[vi 0,(str ([]:List UInt8)),vi 0,vi 0,vi 0,vi 0,vi 0,vi 0,vi 0,vi 0,vs none 0 0,vs none 0 0,vs none 0 0],MO.box b3 39 (an e1 a13 c19 a14 c20 a15 c21)] [Cl.sl ag (x.1) (x.2.1) r5.Lin.L,Cl.sl ai (x.2.2.1) (x.2.2.2.1) r5.Idx,Cl.sl al (x.2.2.2.2.1) (x.2.2.2.2.2.1) r5.Args,Cl.sl ah (x.2.2.2.2.2.2.1) (x.2.2.2.2.2.2.2.1) s2.l,Cl.sl ah a16 c23 r4.l,Cl.sl fp a2 c2 signs1,Cl.sl (hH .i64) a3 c3 ops1,Cl.sl ag a13 c19 e1.Lin.L,Cl.sl ai a14 c20 e1.Idx,Cl.sl al a15 c21 e1.Args,ap]) (fun x w=>SN [] (DM true F (x.2.2.2.2.2.2.2.2)) w) ?_ ?_
  ·clear hI;rintro⟨a17,c27,a18,c28,a19,c29,a20,c30,c35⟩ w11 hI
   try dsimp only at hI ⊢
   unfold cg
   refine vl hI al ([e1,r5]:List ac) km (.cs (ez ⟨a13,c19,a14,c20,a15,c21,rfl,hI.get (.s (.s (.s (.s (.s (.s (.s .z))))))),hI.get (.s (.s (.s (.s (.s (.s (.s (.s .z)))))))),hI.get (.s (.s (.s (.s (.s (.s (.s (.s (.s .z)))))))))⟩) (.cs (ez ⟨a17,c27,a18,c28,a19,c29,rfl,hI.get .z,hI.get (.s .z),hI.get (.s (.s .z))⟩) .nl)) fun b4 c33 w9 hI=> ?_
   refine iy rfl gn rfl (fun w'=>(aH (vs:=[(0,vi op1),(6,vs (some ⟨b4,0,none⟩) ([e1,r5]:List ac).length 2)]) (cs:=#[vi op1,(str ([]:List UInt8)),vi 0,vi 0,vi 0,vi 0,vi 0,vi 0,vi 0,vi 0,vs none 0 0,vs none 0 0,vs (some ⟨b4,0,none⟩) ([e1,r5]:List ac).length 2]) rfl ⟨rfl,et,⟨rfl,et,trivial⟩⟩ (by kernel_rfl))) ?_
   refine vA fun c34 w10 hI=> ?_
   refine nu ?_
   have hI:=hI.add (c:=Cl.sl ag none 0 ([]:List aw)) SlC.nil
   have hI:=hI.add (c:=Cl.sl ai none 0 ([]:List av)) SlC.nil
   obtain⟨c36,hI⟩:=hI.release .z
   exact kP (fuel1,s2,(⟨op1,([]:List UInt8),(⟨0,0⟩:bj),(⟨0,0,0,0,0⟩:aM),(⟨0,([]:List aw)⟩:ay),([]:List av),([e1,r5]:List ac)⟩:ac),a20,c30,none,0,none,0,some ⟨b4,0,none⟩,2) ⟨rfl,rfl,rfl,rfl,rfl,rfl,trivial⟩ ⟨_,hI.arr (.c .z (.c .z (.c .z .n))) ⟨(.s (.s (.s (.s (.s (.s .z)))))),(.s (.s .z)),(.s .z),.z,(.s (.s (.s (.s (.s (.s (.s (.s .z)))))))),(.s (.s (.s (.s (.s (.s (.s (.s (.s .z))))))))),(.s (.s (.s (.s (.s (.s (.s (.s (.s (.s (.s (.s (.s .z))))))))))))),trivial⟩,h⟩ (Nat.lt_succ_self _)
  intro hk_tr_parser_reader_chain_w4_3_0
  refine V ?_
  refine gC ?_ ?_
  ·skip
   refine dI rfl gn rfl (am (l:=(aK e1 a13 c19 a14 c20 a15 c21)) rfl et gP rfl aB (CellsAt.of_blk (hI.blk (.s (.s .z))) rfl)) SX.self ?_
   refine gt (F:=F) (C:=c24) rfl rfl ?_
   obtain⟨c26,f2,hB,hl2,hk2⟩:=hI.hands (.l (.r (.r .n)))
   refine eC rfl gn rfl (fP (fs:=[vp b1 0]) (vs:=[]) (cap:=[]) rfl et vq trivial) (Calls.mono (eE hrec HS hx2) ?_)
   intro e_ w8 hq_;obtain⟨a17,c27,a18,c28,a19,c29,a20,c30,c31,rfl,hB2⟩:=ej hq_
   obtain⟨c32,hs2,hI⟩:=hk2 _ _ _ _ hB2
   dsimp only[ca,na]at hI
   refine⟨_,rfl,DM true F c32,hs2,?_⟩
   exact cD (hk_tr_parser_reader_chain_w4_3_0 (a17,c27,a18,c28,a19,c29,a20,c30,c32) _ (hI.arr (.c .z (.c .z (.c .z .n))) ⟨.z,(.s .z),(.s (.s .z)),(.s (.s (.s .z))),(.s (.s (.s (.s .z)))),(.s (.s (.s (.s (.s .z))))),(.s (.s (.s (.s (.s (.s .z)))))),(.s (.s (.s (.s (.s (.s (.s .z))))))),(.s (.s (.s (.s (.s (.s (.s (.s .z)))))))),(.s (.s (.s (.s (.s (.s (.s (.s (.s .z))))))))),(.s (.s (.s (.s (.s (.s (.s (.s (.s (.s .z)))))))))),trivial⟩)) ⟨rfl,rfl,rfl,rfl,rfl,rfl,rfl,rfl,rfl,rfl,rfl,rfl,rfl,trivial⟩
  refine dx (F:=F) (C:=c24) rfl rfl ?_
  obtain⟨c26,f2,hB,hl2,hk2⟩:=hI.hands (.l (.r (.r .n)))
  refine eC rfl gn rfl (fP (fs:=[vp b1 0]) (vs:=[]) (cap:=[]) rfl et vq trivial) (Calls.mono (eE hrec HS hx2) ?_)
  intro e_ w8 hq_;obtain⟨a17,c27,a18,c28,a19,c29,a20,c30,c31,rfl,hB2⟩:=ej hq_
  obtain⟨c32,hs2,hI⟩:=hk2 _ _ _ _ hB2
  dsimp only[ca,na]at hI
  refine⟨_,rfl,DM true F c32,hs2,?_⟩
  refine dI rfl gn rfl (am (l:=(aK e1 a13 c19 a14 c20 a15 c21)) rfl et gP rfl aB (CellsAt.of_blk (hI.blk (.s (.s .z))) rfl)) SX.self ?_
  exact cD (hk_tr_parser_reader_chain_w4_3_0 (a17,c27,a18,c28,a19,c29,a20,c30,c32) _ (hI.arr (.c .z (.c .z (.c .z .n))) ⟨.z,(.s .z),(.s (.s .z)),(.s (.s (.s .z))),(.s (.s (.s (.s .z)))),(.s (.s (.s (.s (.s .z))))),(.s (.s (.s (.s (.s (.s .z)))))),(.s (.s (.s (.s (.s (.s (.s .z))))))),(.s (.s (.s (.s (.s (.s (.s (.s .z)))))))),(.s (.s (.s (.s (.s (.s (.s (.s (.s .z))))))))),(.s (.s (.s (.s (.s (.s (.s (.s (.s (.s .z)))))))))),trivial⟩)) ⟨rfl,rfl,rfl,rfl,rfl,rfl,rfl,rfl,rfl,rfl,rfl,rfl,rfl,trivial⟩
 refine T ?_
 refine bh (α:=Nat×Int×Int×aa×(Option Addr)×Nat) (fun x=>fun w=>∃ C,Bun C0 F w0 C w [MO.box b1 67 (ae (x.2.2.2.1) (x.2.2.2.2.1) (x.2.2.2.2.2)),MO.box b2 39 #[vi 0,(str ([]:List UInt8)),vi 0,vi 0,vi 0,vi 0,vi 0,vi 0,vi 0,vi 0,vs none 0 0,vs none 0 0,vs none 0 0],MO.box b3 39 (an e1 a13 c19 a14 c20 a15 c21)] [Cl.sl ah (x.2.2.2.2.1) (x.2.2.2.2.2) (x.2.2.2.1).l,Cl.sl fp a2 c2 signs1,Cl.sl (hH .i64) a3 c3 ops1,Cl.sl ag a13 c19 e1.Lin.L,Cl.sl ai a14 c20 e1.Idx,Cl.sl al a15 c21 e1.Args,ap]∧bx signs1 ops1 e1 rec_ (bb signs1 ops1 rec_ fuel1) (x.1) (x.2.1) (x.2.2.1) (x.2.2.2.1)=some r) (fun x _=>x.1) (fun x=>[(0,vp b1 0),(1,(Value.func (.func 227) #[vp b1 0] #[])),(2,vs a2 signs1.length c2),(3,vs a3 ops1.length c3),(8,vp b2 0),(9,vp b3 0),(10,vi (x.2.1)),(15,vs a2 signs1.length c2),(16,vi (signs1.length:Int)),(17,vi (x.2.2.1))]) (fu,0,0,r3,a12,c18) ⟨_,hI.arr (.c .z (.c .z (.c .z .n))) ⟨.z,(.s (.s (.s (.s .z)))),(.s (.s (.s (.s (.s .z))))),(.s .z),(.s (.s .z)),(.s (.s (.s .z))),(.s (.s (.s (.s (.s (.s .z)))))),trivial⟩,h⟩ ⟨rfl,rfl,rfl,rfl,rfl,rfl,rfl,rfl,rfl,rfl,trivial⟩ ?_
 clear h hI;rintro⟨fuel2,op2,i1,r6,a21,c37⟩ w14 ⟨c38,hI,h⟩
 dsimp only at hI h ⊢
 rcases fuel2 with _ | fuel2
 ·rw[bx]at h;cases h
 rw[bx]at h
 refine T ?_
 refine aj (xY h et (fun hb h=> ?_) (fun hb h=> ?_))
 ·refine T ?_
  refine bJ (α:=Int×aa×(Option Addr)×Nat) (fun _=>⟨43,[]⟩) (fun x=>[(0,vp b1 0),(1,(Value.func (.func 227) #[vp b1 0] #[])),(2,vs a2 signs1.length c2),(3,vs a3 ops1.length c3),(8,vp b2 0),(9,vp b3 0),(10,vi (x.1)),(15,vs a2 signs1.length c2),(16,vi (signs1.length:Int)),(17,vi i1)]) (fun x=>fun w=>∃ C,Bun C0 F w0 C w [MO.box b1 67 (ae (x.2.1) (x.2.2.1) (x.2.2.2)),MO.box b2 39 #[vi 0,(str ([]:List UInt8)),vi 0,vi 0,vi 0,vi 0,vi 0,vi 0,vi 0,vi 0,vs none 0 0,vs none 0 0,vs none 0 0],MO.box b3 39 (an e1 a13 c19 a14 c20 a15 c21)] [Cl.sl ah (x.2.2.1) (x.2.2.2) (x.2.1).l,Cl.sl fp a2 c2 signs1,Cl.sl (hH .i64) a3 c3 ops1,Cl.sl ag a13 c19 e1.Lin.L,Cl.sl ai a14 c20 e1.Idx,Cl.sl al a15 c21 e1.Args,ap]∧fk (bx signs1 ops1 e1 rec_ (bb signs1 ops1 rec_ fuel1) fuel2) i1 (x.1) (x.2.1)=some r) ?_ ?_
  ·clear h hI;rintro⟨op3,r7,a22,c39⟩ w15 ⟨c40,hI,h⟩
   try dsimp only at hI h ⊢
   rw[fk]at h
   refine T ?_
   refine aG ?_
   exact kP (fuel2,op3,au (i1+1),r7,a22,c39) ⟨rfl,rfl,rfl,rfl,rfl,rfl,rfl,rfl,rfl,rfl,trivial⟩ ⟨_,hI.arr (.c .z (.c .z (.c .z .n))) ⟨.z,(.s .z),(.s (.s .z)),(.s (.s (.s .z))),(.s (.s (.s (.s .z)))),(.s (.s (.s (.s (.s .z))))),(.s (.s (.s (.s (.s (.s .z)))))),trivial⟩,h⟩ (Nat.lt_succ_self _)
  refine T ?_
  obtain⟨e2,hx3,h⟩:=ab h
  obtain⟨ad1,cs1,hA1,hr1,hq1⟩:=hI.clat (.s .z) hx3
  obtain rfl:cs1=[(str e2)]:=hr1
  refine sI ?_
  refine T ?_
  obtain⟨c41,f3,hB,hl3,hk3⟩:=hI.hands (.l (.r (.r .n)))
  obtain⟨⟨r8,s3⟩,hx4,h⟩:=ab h
  try dsimp only at h
  refine px (fun v_ w_=>v_=(vb r8)∧∃ (a23:Option Addr),∃ (c42:Nat),∃ C_:NP,Bun c41 f3 w14 C_ w_ [MO.box b1 67 (ae s3 a23 c42)] [Cl.sl ah a23 c42 s3.l]) (aV rfl rfl rfl rfl) rfl (fun hc=>(ax (vs:=[vp b1 0,(str e2)]) rfl Ak ⟨(aF et hc),⟨(aF et hc),trivial⟩⟩)) (fun hc=>(aD HS (Aw hc hx4)).mono fun e_ w_ hq_=>(let ⟨a23,c42,C_,he_,hB_⟩:=hq_;⟨_,he_,rfl,a23,c42,C_,hB_⟩)) ?_
  intro v_ w16 h1_ h2_
  obtain⟨hv_,a23,c42,c43,hB2⟩:gv (decide (op2=0)) v_=gv (decide (op2=0)) (vb r8)∧∃ (a23:Option Addr),∃ (c42:Nat),∃ C_:NP,Bun c41 f3 w14 C_ w16 [MO.box b1 67 (ae s3 a23 c42)] [Cl.sl ah a23 c42 s3.l]:=by
   rcases Bool.eq_false_or_eq_true (decide (op2=0))with hc | hc
   ·obtain⟨rfl,hq_⟩:=h1_ hc;exact⟨rfl,hq_⟩
   have e1_:=h2_ hc;subst e1_;obtain⟨rfl,rfl⟩:=Ax hc hx4;exact⟨by rw[oN hc,oN hc],a21,c37,_,hB.subs ⟨.z,trivial⟩⟩
  rw[hv_];clear h1_ h2_
  refine HN hk3 hB2 fun c44 hI=> ?_
  refine TC (fun hb h=> ?_) fun hb h=> ?_
  ·refine T ?_
   obtain⟨e3,hx5,h⟩:=ab h
   obtain⟨ad2,cs2,hA2,hr2,hq2⟩:=hI.clat (.s (.s (.s .z))) hx5
   obtain rfl:cs2=[vi e3]:=hr2
   refine sI ?_
   refine T ?_
   refine aG ?_
   exact br (e3,s3,a23,c42) ⟨rfl,rfl,rfl,rfl,rfl,rfl,rfl,rfl,rfl,rfl,trivial⟩ ⟨_,hI.arr (.c .z (.c .z (.c .z .n))) ⟨.z,(.s (.s .z)),(.s (.s (.s .z))),(.s (.s (.s (.s .z)))),(.s (.s (.s (.s (.s .z))))),(.s (.s (.s (.s (.s (.s .z)))))),(.s (.s (.s (.s (.s (.s (.s .z))))))),trivial⟩,h⟩ rfl
  exact aT (br (op2,s3,a23,c42) ⟨rfl,rfl,rfl,rfl,rfl,rfl,rfl,rfl,rfl,rfl,trivial⟩ ⟨_,hI.arr (.c .z (.c .z (.c .z .n))) ⟨.z,(.s (.s .z)),(.s (.s (.s .z))),(.s (.s (.s (.s .z)))),(.s (.s (.s (.s (.s .z))))),(.s (.s (.s (.s (.s (.s .z)))))),(.s (.s (.s (.s (.s (.s (.s .z))))))),trivial⟩,h⟩ rfl)
 refine bp ?_
 refine fE ?_
 exact br (op2,r6,a21,c37) ⟨rfl,rfl,rfl,rfl,rfl,rfl,rfl,trivial⟩ ⟨_,hI.arr (.c .z (.c .z (.c .z .n))) ⟨.z,(.s .z),(.s (.s .z)),(.s (.s (.s .z))),(.s (.s (.s (.s .z)))),(.s (.s (.s (.s (.s .z))))),(.s (.s (.s (.s (.s (.s .z)))))),trivial⟩,h⟩ rfl
theorem fT {rec_:(aa→Option (bC (ac×aa)))} (hrec:yb rec_) {r1:aa} (hI:Bun C0 F w0 C0 w0 [MO.box b1 67 (ae r1 a1 c1)] [Cl.sl ah a1 c1 r1.l,ap]) {r:bC (ac×aa)} (h:dJ rec_ r1=some r):CP C0 F w0 193 #[vp b1 0] r fun rx e w=>∃ a2 c2 a3 c3 a4 c4 a5 c5 C,e= .returned (Value.agg (an rx.1 a2 c2 a3 c3 a4 c4))∧Bun C0 F w0 C w [MO.box b1 67 (ae rx.2 a5 c5)] [Cl.sl ag a2 c2 rx.1.Lin.L,Cl.sl ai a3 c3 rx.1.Idx,Cl.sl al a4 c4 rx.1.Args,Cl.sl ah a5 c5 rx.2.l]:=by
 refine eY (l:=[vp b1 0]) Tryz.func193 rfl Tryz.ntmps193 rfl ?_
 rw[dJ]at h
 refine sr (cP (cs:=#[vi 0,(str ([]:List UInt8)),vi 0,vi 0,vi 0,vi 0,vi 0,vi 0,vi 0,vi 0,vs none 0 0,vs none 0 0,vs none 0 0]) hI gn rfl rfl dN rfl ?_)
 intro b2 c6 w1 hI
 refine T ?_
 refine sq (mX (vs:=[vp b1 0]) rfl rfl ⟨et,trivial⟩) ?_
 refine jZ (c:=fp) (xs:=([([43]:List UInt8),([45]:List UInt8)]:List (List UInt8))) (vs:=[(0,(str ([43]:List UInt8))),(1,(str ([45]:List UInt8)))]) (cs:=#[(str ([43]:List UInt8)),(str ([45]:List UInt8))]) (css:=[[(str ([43]:List UInt8))],[(str ([45]:List UInt8))]]) hI gn rfl rfl Ep nT rfl ⟨rfl,af,⟨rfl,af,trivial⟩⟩ (by kernel_rfl) ⟨rfl,⟨rfl,trivial⟩⟩ rfl rfl rfl ?_
 intro b3 c7 w2 hI
 refine jZ (c:=(hH .i64)) (xs:=([4,5]:List Int)) (vs:=[(0,vi 4),(1,vi 5)]) (cs:=#[vi 4,vi 5]) (css:=[[vi 4],[vi 5]]) hI gn rfl rfl Er vK rfl ⟨rfl,af,⟨rfl,af,trivial⟩⟩ (by kernel_rfl) ⟨rfl,⟨rfl,trivial⟩⟩ rfl rfl rfl ?_
 intro b4 c8 w3 hI
 obtain⟨c9,hI⟩:=hI.release (.s .z)
 obtain⟨c10,hI⟩:=hI.release .z
 obtain⟨c11,f1,hB,hl1,hk1⟩:=hI.hands (.r (.l .n))
 refine dZ h (fun _ hx1=>oT hrec HS hx1) (ko hk1) (Rc Tryz.func74) ?_
 rintro⟨r2,s1⟩ hx1 h _ w4 ⟨a6,c12,a7,c13,a8,c14,a9,c15,c16,rfl,hB2⟩
 try dsimp only at h
 refine HN hk1 hB2 fun c17 hI=> ?_
 refine⟨_,rfl,?_⟩
 refine lA fun c18 w5 hI=> ?_
 refine nk (aJ ?_)
 obtain rfl:=ak h
 refine QG ?_
 exact .inl ⟨_,rfl,a6,c12,a7,c13,a8,c14,a9,c15,_,rfl,hI.arr GO SU⟩
def ci:Tr:=(.c (4,.s) (.c (5,.q) (.c (6,.s) .n)))
theorem oU {rec_:(aa→Option (bC (ac×aa)))} (hrec:yb rec_) {r1:aa} {signs1:List (List UInt8)} {ops1:List Int} (hI:Bun C0 F w0 C0 w0 [MO.box b1 67 (ae r1 a1 c1)] [Cl.sl ah a1 c1 r1.l,Cl.sl fp a2 c2 signs1,Cl.sl (hH .i64) a3 c3 ops1,ap]) {r:bC (ac×aa)} (h:dF rec_ r1 signs1 ops1=some r):CP C0 F w0 74 #[vp b1 0,(Value.func (.func 193) #[vp b1 0] #[]),vs a2 signs1.length c2,vs a3 ops1.length c3] r fun rx e w=>∃ a4 c4 a5 c5 a6 c6 a7 c7 C,e= .returned (Value.agg (an rx.1 a4 c4 a5 c5 a6 c6))∧Bun C0 F w0 C w [MO.box b1 67 (ae rx.2 a7 c7)] [Cl.sl ag a4 c4 rx.1.Lin.L,Cl.sl ai a5 c5 rx.1.Idx,Cl.sl al a6 c6 rx.1.Args,Cl.sl ah a7 c7 rx.2.l]:=by
 refine eY (l:=[vp b1 0,(Value.func (.func 193) #[vp b1 0] #[]),vs a2 signs1.length c2,vs a3 ops1.length c3]) Tryz.func74 rfl Tryz.ntmps74 rfl ?_
 rw[dF]at h
 refine sr (cP (cs:=#[vi 0,(str ([]:List UInt8)),vi 0,vi 0,vi 0,vi 0,vi 0,vi 0,vi 0,vi 0,vs none 0 0,vs none 0 0,vs none 0 0]) hI gn rfl rfl dN rfl ?_)
 intro b2 c8 w1 hI
 refine T ?_
 obtain⟨c9,f1,hB,hl1,hk1⟩:=hI.hands (.r (.l .n))
 refine dZ h (fun _ hx1=>fT hrec HS hx1) (ko hk1) (fP (fs:=[vp b1 0]) (vs:=[]) (cap:=[]) rfl et vr trivial) ?_
 rintro⟨r2,s1⟩ hx1 h _ w2 ⟨a8,c10,a9,c11,a10,c12,a11,c13,c14,rfl,hB2⟩
 try dsimp only at h
 refine HN hk1 hB2 fun c15 hI=> ?_
 refine⟨_,rfl,?_⟩
 refine lN fun b3 c16 w3 hI=> ?_
 refine lA fun c17 w4 hI=> ?_
 refine T ?_
 refine bh (α:=Nat×aa×ac×(Option Addr)×Nat×(Option Addr)×Nat×(Option Addr)×Nat×(Option Addr)×Nat) (fun x=>fun w=>∃ C,Bun C0 F w0 C w [MO.box b1 67 (ae (x.2.1) (x.2.2.2.1) (x.2.2.2.2.1)),MO.box b2 39 #[vi 0,(str ([]:List UInt8)),vi 0,vi 0,vi 0,vi 0,vi 0,vi 0,vi 0,vi 0,vs none 0 0,vs none 0 0,vs none 0 0],MO.box b3 39 (an (x.2.2.1) (x.2.2.2.2.2.1) (x.2.2.2.2.2.2.1) (x.2.2.2.2.2.2.2.1) (x.2.2.2.2.2.2.2.2.1) (x.2.2.2.2.2.2.2.2.2.1) (x.2.2.2.2.2.2.2.2.2.2))] [Cl.sl ah (x.2.2.2.1) (x.2.2.2.2.1) (x.2.1).l,Cl.sl ag (x.2.2.2.2.2.1) (x.2.2.2.2.2.2.1) (x.2.2.1).Lin.L,Cl.sl ai (x.2.2.2.2.2.2.2.1) (x.2.2.2.2.2.2.2.2.1) (x.2.2.1).Idx,Cl.sl al (x.2.2.2.2.2.2.2.2.2.1) (x.2.2.2.2.2.2.2.2.2.2) (x.2.2.1).Args,Cl.sl fp a2 c2 signs1,Cl.sl (hH .i64) a3 c3 ops1,ap]∧bc signs1 ops1 rec_ (x.1) (x.2.1) (x.2.2.1)=some r) (fun x _=>x.1) (fun x=>[(0,vp b1 0),(1,(Value.func (.func 193) #[vp b1 0] #[])),(2,vs a2 signs1.length c2),(3,vs a3 ops1.length c3),(8,vp b2 0),(9,vp b3 0)]) (fu,s1,r2,a11,c13,a8,c10,a9,c11,a10,c12) ⟨_,hI.arr (.c (.s .z) (.c (.s .z) (.c .z .n))) ⟨(.s (.s (.s .z))),.z,(.s .z),(.s (.s .z)),(.s (.s (.s (.s (.s .z))))),(.s (.s (.s (.s (.s (.s .z)))))),(.s (.s (.s (.s (.s (.s (.s .z))))))),trivial⟩,h⟩ ⟨rfl,rfl,rfl,rfl,rfl,rfl,trivial⟩ ?_
 clear h hI;rintro⟨fuel1,r3,e1,a12,c18,a13,c19,a14,c20,a15,c21⟩ w5 ⟨c22,hI,h⟩
 dsimp only at hI h ⊢
 rcases fuel1 with _ | fuel1
 ·rw[bc]at h;cases h
 rw[bc]at h
 refine T ?_
 refine bJ (α:=Int×aa×(Option Addr)×Nat) (fun _=>⟨43,[]⟩) (fun x=>[(0,vp b1 0),(1,(Value.func (.func 193) #[vp b1 0] #[])),(2,vs a2 signs1.length c2),(3,vs a3 ops1.length c3),(8,vp b2 0),(9,vp b3 0),(10,vi (x.1))]) (fun x=>fun w=>∃ C,Bun C0 F w0 C w [MO.box b1 67 (ae (x.2.1) (x.2.2.1) (x.2.2.2)),MO.box b2 39 #[vi 0,(str ([]:List UInt8)),vi 0,vi 0,vi 0,vi 0,vi 0,vi 0,vi 0,vi 0,vs none 0 0,vs none 0 0,vs none 0 0],MO.box b3 39 (an e1 a13 c19 a14 c20 a15 c21)] [Cl.sl ah (x.2.2.1) (x.2.2.2) (x.2.1).l,Cl.sl fp a2 c2 signs1,Cl.sl (hH .i64) a3 c3 ops1,Cl.sl ag a13 c19 e1.Lin.L,Cl.sl ai a14 c20 e1.Idx,Cl.sl al a15 c21 e1.Args,ap]∧gV e1 rec_ (bc signs1 ops1 rec_ fuel1) (x.1) (x.2.1)=some r) ?_ ?_
 ·clear h hI;rintro⟨op1,r4,a16,c23⟩ w6 ⟨c24,hI,h⟩
  try dsimp only at hI h ⊢
  rw[gV]at h
  refine aj (T ?_)
  refine TC (fun hb h=> ?_) fun hb h=> ?_
  ·refine T ?_
   refine lA fun c25 w7 hI=> ?_
   refine nk (aJ ?_)
   obtain rfl:=ak h
   exact fr (vs:=[(Value.agg (an e1 a13 c19 a14 c20 a15 c21))]) Tryz.results74 ⟨⟨_,aI rfl rfl,gM (l:=(aK e1 a13 c19 a14 c20 a15 c21)) gP rfl aB (CellsAt.of_blk (hI.blk (.s .z)) rfl)⟩,trivial⟩ (.inl ⟨_,rfl,a13,c19,a14,c20,a15,c21,a16,c23,_,rfl,hI.arr (.c .z .n) ⟨(.s (.s (.s .z))),(.s (.s (.s (.s .z)))),(.s (.s (.s (.s (.s .z))))),.z,trivial⟩⟩)
  refine T ?_
  rcases gR h with⟨⟨r5,s2⟩,hx2,h⟩ | ⟨pa_,pn_,hx2,hp_⟩
  rotate_left
  ·subst hp_
   refine aP [3,6] false (.c (0,.q) (.c (2,.q) (.two 1 (.c (3,.s) ci) 3 (.c (1,.s) ci)))) hI (by kernel_rfl) (by kernel_rfl) ?_
   intro w12 hI
   refine V ?_
   refine gC ?_ ?_
   ·skip
    refine dI rfl gn rfl (am (l:=(aK e1 a13 c19 a14 c20 a15 c21)) rfl et gP rfl aB (CellsAt.of_blk (hI.blk (.s (.s .z))) rfl)) SX.self ?_
    refine gt (F:=F) (C:=c24) rfl rfl ?_
    obtain⟨c26,f2,hB,hl2,hk2⟩:=hI.hands (.l (.r (.r .n)))
    refine eD rfl gn rfl (fP (fs:=[vp b1 0]) (vs:=[]) (cap:=[]) rfl et vr trivial) (Calls.mono (fT hrec HS hx2) ?_)
    intro e_ w_ hq_;obtain⟨rfl,C_,hB_⟩:=el hq_;obtain⟨C9_,-,hI_⟩:=hk2 _ _ _ _ hB_;exact .inr ⟨_,rfl,gO (.inr ⟨_,_,rfl,rfl,⟨_,hI_.arr .n trivial⟩⟩)⟩
   refine dx (F:=F) (C:=c24) rfl rfl ?_
   obtain⟨c26,f2,hB,hl2,hk2⟩:=hI.hands (.l (.r (.r .n)))
   refine eD rfl gn rfl (fP (fs:=[vp b1 0]) (vs:=[]) (cap:=[]) rfl et vr trivial) (Calls.mono (fT hrec HS hx2) ?_)
   intro e_ w_ hq_;obtain⟨rfl,C_,hB_⟩:=el hq_;obtain⟨C9_,-,hI_⟩:=hk2 _ _ _ _ hB_;exact .inr ⟨_,rfl,gO (.inr ⟨_,_,rfl,rfl,⟨_,hI_.arr .n trivial⟩⟩)⟩
  try dsimp only at h
  refine aP [3,6] false (.c (0,.q) (.c (2,.q) (.two 1 (.c (3,.s) ci) 3 (.c (1,.s) ci)))) hI (by kernel_rfl) (by kernel_rfl) ?_
  intro w13 hI
  refine fQ (α:=(Option Addr)×Nat×(Option Addr)×Nat×(Option Addr)×Nat×(Option Addr)×Nat×NP) (T:=ci) (fun x=>[(0,vp b1 0),(1,(Value.func (.func 193) #[vp b1 0] #[])),(2,vs a2 signs1.length c2),(3,vs a3 ops1.length c3),(8,vp b2 0),(9,vp b3 0),(10,vi op1),(34,vi op1),(35,(vb (decide (op1=0)))),(37,vi op1),(38,(Value.agg (an e1 a13 c19 a14 c20 a15 c21))),(39,(Value.func (.func 193) #[vp b1 0] #[])),(40,(Value.agg (an r5 (x.1) (x.2.1) (x.2.2.1) (x.2.2.2.1) (x.2.2.2.2.1) (x.2.2.2.2.2.1))))]) (fun x w=>Bun C0 F w0 (x.2.2.2.2.2.2.2.2) w [MO.box b1 67 (ae s2 (x.2.2.2.2.2.2.1) (x.2.2.2.2.2.2.2.1)),MO.box b2 39 #[vi 0,(str ([]:List UInt8)),vi 0,vi 0,vi 0,vi 0,vi 0,vi 0,vi 0,vi 0,vs none 0 0,vs none 0 0,vs none 0 0],MO.box b3 39 (an e1 a13 c19 a14 c20 a15 c21)] [Cl.sl ag (x.1) (x.2.1) r5.Lin.L,Cl.sl ai (x.2.2.1) (x.2.2.2.1) r5.Idx,Cl.sl al (x.2.2.2.2.1) (x.2.2.2.2.2.1) r5.Args,Cl.sl ah (x.2.2.2.2.2.2.1) (x.2.2.2.2.2.2.2.1) s2.l,Cl.sl ah a16 c23 r4.l,Cl.sl fp a2 c2 signs1,Cl.sl (hH .i64) a3 c3 ops1,Cl.sl ag a13 c19 e1.Lin.L,Cl.sl ai a14 c20 e1.Idx,Cl.sl al a15 c21 e1.Args,ap]) (fun x w=>SN [] (DM true F (x.2.2.2.2.2.2.2.2)) w) ?_ ?_
  ·clear hI;rintro⟨a17,c27,a18,c28,a19,c29,a20,c30,c35⟩ w11 hI
   try dsimp only at hI ⊢
   unfold ci
   refine vl hI al ([e1,r5]:List ac) km (.cs (ez ⟨a13,c19,a14,c20,a15,c21,rfl,hI.get (.s (.s (.s (.s (.s (.s (.s .z))))))),hI.get (.s (.s (.s (.s (.s (.s (.s (.s .z)))))))),hI.get (.s (.s (.s (.s (.s (.s (.s (.s (.s .z)))))))))⟩) (.cs (ez ⟨a17,c27,a18,c28,a19,c29,rfl,hI.get .z,hI.get (.s .z),hI.get (.s (.s .z))⟩) .nl)) fun b4 c33 w9 hI=> ?_
   refine iy rfl gn rfl (fun w'=>(aH (vs:=[(0,vi op1),(6,vs (some ⟨b4,0,none⟩) ([e1,r5]:List ac).length 2)]) (cs:=#[vi op1,(str ([]:List UInt8)),vi 0,vi 0,vi 0,vi 0,vi 0,vi 0,vi 0,vi 0,vs none 0 0,vs none 0 0,vs (some ⟨b4,0,none⟩) ([e1,r5]:List ac).length 2]) rfl ⟨rfl,et,⟨rfl,et,trivial⟩⟩ (by kernel_rfl))) ?_
   refine vA fun c34 w10 hI=> ?_
   refine nu ?_
   have hI:=hI.add (c:=Cl.sl ag none 0 ([]:List aw)) SlC.nil
   have hI:=hI.add (c:=Cl.sl ai none 0 ([]:List av)) SlC.nil
   obtain⟨c36,hI⟩:=hI.release .z
   exact kP (fuel1,s2,(⟨op1,([]:List UInt8),(⟨0,0⟩:bj),(⟨0,0,0,0,0⟩:aM),(⟨0,([]:List aw)⟩:ay),([]:List av),([e1,r5]:List ac)⟩:ac),a20,c30,none,0,none,0,some ⟨b4,0,none⟩,2) ⟨rfl,rfl,rfl,rfl,rfl,rfl,trivial⟩ ⟨_,hI.arr (.c .z (.c .z (.c .z .n))) ⟨(.s (.s (.s (.s (.s (.s .z)))))),(.s (.s .z)),(.s .z),.z,(.s (.s (.s (.s (.s (.s (.s (.s .z)))))))),(.s (.s (.s (.s (.s (.s (.s (.s (.s .z))))))))),(.s (.s (.s (.s (.s (.s (.s (.s (.s (.s (.s (.s (.s .z))))))))))))),trivial⟩,h⟩ (Nat.lt_succ_self _)
  intro hk_tr_parser_reader_chain_w3_3_0
  refine V ?_
  refine gC ?_ ?_
  ·skip
   refine dI rfl gn rfl (am (l:=(aK e1 a13 c19 a14 c20 a15 c21)) rfl et gP rfl aB (CellsAt.of_blk (hI.blk (.s (.s .z))) rfl)) SX.self ?_
   refine gt (F:=F) (C:=c24) rfl rfl ?_
   obtain⟨c26,f2,hB,hl2,hk2⟩:=hI.hands (.l (.r (.r .n)))
   refine eC rfl gn rfl (fP (fs:=[vp b1 0]) (vs:=[]) (cap:=[]) rfl et vr trivial) (Calls.mono (fT hrec HS hx2) ?_)
   intro e_ w8 hq_;obtain⟨a17,c27,a18,c28,a19,c29,a20,c30,c31,rfl,hB2⟩:=ej hq_
   obtain⟨c32,hs2,hI⟩:=hk2 _ _ _ _ hB2
   dsimp only[ca,na]at hI
   refine⟨_,rfl,DM true F c32,hs2,?_⟩
   exact cD (hk_tr_parser_reader_chain_w3_3_0 (a17,c27,a18,c28,a19,c29,a20,c30,c32) _ (hI.arr (.c .z (.c .z (.c .z .n))) ⟨.z,(.s .z),(.s (.s .z)),(.s (.s (.s .z))),(.s (.s (.s (.s .z)))),(.s (.s (.s (.s (.s .z))))),(.s (.s (.s (.s (.s (.s .z)))))),(.s (.s (.s (.s (.s (.s (.s .z))))))),(.s (.s (.s (.s (.s (.s (.s (.s .z)))))))),(.s (.s (.s (.s (.s (.s (.s (.s (.s .z))))))))),(.s (.s (.s (.s (.s (.s (.s (.s (.s (.s .z)))))))))),trivial⟩)) ⟨rfl,rfl,rfl,rfl,rfl,rfl,rfl,rfl,rfl,rfl,rfl,rfl,rfl,trivial⟩
  refine dx (F:=F) (C:=c24) rfl rfl ?_
  obtain⟨c26,f2,hB,hl2,hk2⟩:=hI.hands (.l (.r (.r .n)))
  refine eC rfl gn rfl (fP (fs:=[vp b1 0]) (vs:=[]) (cap:=[]) rfl et vr trivial) (Calls.mono (fT hrec HS hx2) ?_)
  intro e_ w8 hq_;obtain⟨a17,c27,a18,c28,a19,c29,a20,c30,c31,rfl,hB2⟩:=ej hq_
  obtain⟨c32,hs2,hI⟩:=hk2 _ _ _ _ hB2
  dsimp only[ca,na]at hI
  refine⟨_,rfl,DM true F c32,hs2,?_⟩
  refine dI rfl gn rfl (am (l:=(aK e1 a13 c19 a14 c20 a15 c21)) rfl et gP rfl aB (CellsAt.of_blk (hI.blk (.s (.s .z))) rfl)) SX.self ?_
  exact cD (hk_tr_parser_reader_chain_w3_3_0 (a17,c27,a18,c28,a19,c29,a20,c30,c32) _ (hI.arr (.c .z (.c .z (.c .z .n))) ⟨.z,(.s .z),(.s (.s .z)),(.s (.s (.s .z))),(.s (.s (.s (.s .z)))),(.s (.s (.s (.s (.s .z))))),(.s (.s (.s (.s (.s (.s .z)))))),(.s (.s (.s (.s (.s (.s (.s .z))))))),(.s (.s (.s (.s (.s (.s (.s (.s .z)))))))),(.s (.s (.s (.s (.s (.s (.s (.s (.s .z))))))))),(.s (.s (.s (.s (.s (.s (.s (.s (.s (.s .z)))))))))),trivial⟩)) ⟨rfl,rfl,rfl,rfl,rfl,rfl,rfl,rfl,rfl,rfl,rfl,rfl,rfl,trivial⟩
 refine T ?_
 refine bh (α:=Nat×Int×Int×aa×(Option Addr)×Nat) (fun x=>fun w=>∃ C,Bun C0 F w0 C w [MO.box b1 67 (ae (x.2.2.2.1) (x.2.2.2.2.1) (x.2.2.2.2.2)),MO.box b2 39 #[vi 0,(str ([]:List UInt8)),vi 0,vi 0,vi 0,vi 0,vi 0,vi 0,vi 0,vi 0,vs none 0 0,vs none 0 0,vs none 0 0],MO.box b3 39 (an e1 a13 c19 a14 c20 a15 c21)] [Cl.sl ah (x.2.2.2.2.1) (x.2.2.2.2.2) (x.2.2.2.1).l,Cl.sl fp a2 c2 signs1,Cl.sl (hH .i64) a3 c3 ops1,Cl.sl ag a13 c19 e1.Lin.L,Cl.sl ai a14 c20 e1.Idx,Cl.sl al a15 c21 e1.Args,ap]∧bz signs1 ops1 e1 rec_ (bc signs1 ops1 rec_ fuel1) (x.1) (x.2.1) (x.2.2.1) (x.2.2.2.1)=some r) (fun x _=>x.1) (fun x=>[(0,vp b1 0),(1,(Value.func (.func 193) #[vp b1 0] #[])),(2,vs a2 signs1.length c2),(3,vs a3 ops1.length c3),(8,vp b2 0),(9,vp b3 0),(10,vi (x.2.1)),(15,vs a2 signs1.length c2),(16,vi (signs1.length:Int)),(17,vi (x.2.2.1))]) (fu,0,0,r3,a12,c18) ⟨_,hI.arr (.c .z (.c .z (.c .z .n))) ⟨.z,(.s (.s (.s (.s .z)))),(.s (.s (.s (.s (.s .z))))),(.s .z),(.s (.s .z)),(.s (.s (.s .z))),(.s (.s (.s (.s (.s (.s .z)))))),trivial⟩,h⟩ ⟨rfl,rfl,rfl,rfl,rfl,rfl,rfl,rfl,rfl,rfl,trivial⟩ ?_
 clear h hI;rintro⟨fuel2,op2,i1,r6,a21,c37⟩ w14 ⟨c38,hI,h⟩
 dsimp only at hI h ⊢
 rcases fuel2 with _ | fuel2
 ·rw[bz]at h;cases h
 rw[bz]at h
 refine T ?_
 refine aj (xY h et (fun hb h=> ?_) (fun hb h=> ?_))
 ·refine T ?_
  refine bJ (α:=Int×aa×(Option Addr)×Nat) (fun _=>⟨43,[]⟩) (fun x=>[(0,vp b1 0),(1,(Value.func (.func 193) #[vp b1 0] #[])),(2,vs a2 signs1.length c2),(3,vs a3 ops1.length c3),(8,vp b2 0),(9,vp b3 0),(10,vi (x.1)),(15,vs a2 signs1.length c2),(16,vi (signs1.length:Int)),(17,vi i1)]) (fun x=>fun w=>∃ C,Bun C0 F w0 C w [MO.box b1 67 (ae (x.2.1) (x.2.2.1) (x.2.2.2)),MO.box b2 39 #[vi 0,(str ([]:List UInt8)),vi 0,vi 0,vi 0,vi 0,vi 0,vi 0,vi 0,vi 0,vs none 0 0,vs none 0 0,vs none 0 0],MO.box b3 39 (an e1 a13 c19 a14 c20 a15 c21)] [Cl.sl ah (x.2.2.1) (x.2.2.2) (x.2.1).l,Cl.sl fp a2 c2 signs1,Cl.sl (hH .i64) a3 c3 ops1,Cl.sl ag a13 c19 e1.Lin.L,Cl.sl ai a14 c20 e1.Idx,Cl.sl al a15 c21 e1.Args,ap]∧fm (bz signs1 ops1 e1 rec_ (bc signs1 ops1 rec_ fuel1) fuel2) i1 (x.1) (x.2.1)=some r) ?_ ?_
  ·clear h hI;rintro⟨op3,r7,a22,c39⟩ w15 ⟨c40,hI,h⟩
   try dsimp only at hI h ⊢
   rw[fm]at h
   refine T ?_
   refine aG ?_
   exact kP (fuel2,op3,au (i1+1),r7,a22,c39) ⟨rfl,rfl,rfl,rfl,rfl,rfl,rfl,rfl,rfl,rfl,trivial⟩ ⟨_,hI.arr (.c .z (.c .z (.c .z .n))) ⟨.z,(.s .z),(.s (.s .z)),(.s (.s (.s .z))),(.s (.s (.s (.s .z)))),(.s (.s (.s (.s (.s .z))))),(.s (.s (.s (.s (.s (.s .z)))))),trivial⟩,h⟩ (Nat.lt_succ_self _)
  refine T ?_
  obtain⟨e2,hx3,h⟩:=ab h
  obtain⟨ad1,cs1,hA1,hr1,hq1⟩:=hI.clat (.s .z) hx3
  obtain rfl:cs1=[(str e2)]:=hr1
  refine sI ?_
  refine T ?_
  obtain⟨c41,f3,hB,hl3,hk3⟩:=hI.hands (.l (.r (.r .n)))
  obtain⟨⟨r8,s3⟩,hx4,h⟩:=ab h
  try dsimp only at h
  refine px (fun v_ w_=>v_=(vb r8)∧∃ (a23:Option Addr),∃ (c42:Nat),∃ C_:NP,Bun c41 f3 w14 C_ w_ [MO.box b1 67 (ae s3 a23 c42)] [Cl.sl ah a23 c42 s3.l]) (aV rfl rfl rfl rfl) rfl (fun hc=>(ax (vs:=[vp b1 0,(str e2)]) rfl Ak ⟨(aF et hc),⟨(aF et hc),trivial⟩⟩)) (fun hc=>(aD HS (Aw hc hx4)).mono fun e_ w_ hq_=>(let ⟨a23,c42,C_,he_,hB_⟩:=hq_;⟨_,he_,rfl,a23,c42,C_,hB_⟩)) ?_
  intro v_ w16 h1_ h2_
  obtain⟨hv_,a23,c42,c43,hB2⟩:gv (decide (op2=0)) v_=gv (decide (op2=0)) (vb r8)∧∃ (a23:Option Addr),∃ (c42:Nat),∃ C_:NP,Bun c41 f3 w14 C_ w16 [MO.box b1 67 (ae s3 a23 c42)] [Cl.sl ah a23 c42 s3.l]:=by
   rcases Bool.eq_false_or_eq_true (decide (op2=0))with hc | hc
   ·obtain⟨rfl,hq_⟩:=h1_ hc;exact⟨rfl,hq_⟩
   have e1_:=h2_ hc;subst e1_;obtain⟨rfl,rfl⟩:=Ax hc hx4;exact⟨by rw[oN hc,oN hc],a21,c37,_,hB.subs ⟨.z,trivial⟩⟩
  rw[hv_];clear h1_ h2_
  refine HN hk3 hB2 fun c44 hI=> ?_
  refine TC (fun hb h=> ?_) fun hb h=> ?_
  ·refine T ?_
   obtain⟨e3,hx5,h⟩:=ab h
   obtain⟨ad2,cs2,hA2,hr2,hq2⟩:=hI.clat (.s (.s (.s .z))) hx5
   obtain rfl:cs2=[vi e3]:=hr2
   refine sI ?_
   refine T ?_
   refine aG ?_
   exact br (e3,s3,a23,c42) ⟨rfl,rfl,rfl,rfl,rfl,rfl,rfl,rfl,rfl,rfl,trivial⟩ ⟨_,hI.arr (.c .z (.c .z (.c .z .n))) ⟨.z,(.s (.s .z)),(.s (.s (.s .z))),(.s (.s (.s (.s .z)))),(.s (.s (.s (.s (.s .z))))),(.s (.s (.s (.s (.s (.s .z)))))),(.s (.s (.s (.s (.s (.s (.s .z))))))),trivial⟩,h⟩ rfl
  exact aT (br (op2,s3,a23,c42) ⟨rfl,rfl,rfl,rfl,rfl,rfl,rfl,rfl,rfl,rfl,trivial⟩ ⟨_,hI.arr (.c .z (.c .z (.c .z .n))) ⟨.z,(.s (.s .z)),(.s (.s (.s .z))),(.s (.s (.s (.s .z)))),(.s (.s (.s (.s (.s .z))))),(.s (.s (.s (.s (.s (.s .z)))))),(.s (.s (.s (.s (.s (.s (.s .z))))))),trivial⟩,h⟩ rfl)
 refine bp ?_
 refine fE ?_
 exact br (op2,r6,a21,c37) ⟨rfl,rfl,rfl,rfl,rfl,rfl,rfl,trivial⟩ ⟨_,hI.arr (.c .z (.c .z (.c .z .n))) ⟨.z,(.s .z),(.s (.s .z)),(.s (.s (.s .z))),(.s (.s (.s (.s .z)))),(.s (.s (.s (.s (.s .z))))),(.s (.s (.s (.s (.s (.s .z)))))),trivial⟩,h⟩ rfl
abbrev Qs6 (f_:(aa→Option (bC (ac×aa)))):Prop:=∀ ⦃C0 F:NP⦄ ⦃w0:World⦄ ⦃r1:aa⦄ ⦃b1 c1:Nat⦄ ⦃a1:Option Addr⦄ (hI:Bun C0 F w0 C0 w0 [MO.box b1 67 (ae r1 a1 c1)] [Cl.sl ah a1 c1 r1.l,ap]) ⦃r:bC (ac×aa)⦄ (h:f_ r1=some r),CP C0 F w0 140 #[vp b1 0] r fun rx e w=>∃ a2 c2 a3 c3 a4 c4 a5 c5 C,e= .returned (Value.agg (an rx.1 a2 c2 a3 c3 a4 c4))∧Bun C0 F w0 C w [MO.box b1 67 (ae rx.2 a5 c5)] [Cl.sl ag a2 c2 rx.1.Lin.L,Cl.sl ai a3 c3 rx.1.Idx,Cl.sl al a4 c4 rx.1.Args,Cl.sl ah a5 c5 rx.2.l]
theorem pk {rec_:(aa→Option (bC (ac×aa)))} (hrec:yb rec_) {recs_:(aa→Option (bC (ac×aa)))} (hrecs_:Qs6 recs_) {r1:aa} (hI:Bun C0 F w0 C0 w0 [MO.box b1 67 (ae r1 a1 c1)] [Cl.sl ah a1 c1 r1.l,ap]) {r:bC (ac×aa)} (h:cZ rec_ recs_ r1=some r):CP C0 F w0 140 #[vp b1 0] r fun rx e w=>∃ a2 c2 a3 c3 a4 c4 a5 c5 C,e= .returned (Value.agg (an rx.1 a2 c2 a3 c3 a4 c4))∧Bun C0 F w0 C w [MO.box b1 67 (ae rx.2 a5 c5)] [Cl.sl ag a2 c2 rx.1.Lin.L,Cl.sl ai a3 c3 rx.1.Idx,Cl.sl al a4 c4 rx.1.Args,Cl.sl ah a5 c5 rx.2.l]:=by
 refine eY (l:=[vp b1 0]) Tryz.func140 rfl Tryz.ntmps140 rfl ?_
 rw[cZ]at h
 refine sr (cP (cs:=#[vi 0,(str ([]:List UInt8)),vi 0,vi 0,vi 0,vi 0,vi 0,vi 0,vi 0,vi 0,vs none 0 0,vs none 0 0,vs none 0 0]) hI gn rfl rfl dN rfl ?_)
 intro b2 c6 w1 hI
 refine nk (aj (T ?_))
 refine sB h (fun _ k=>dw NE ⟨(hI.get0 .z),hI.lendBox (.s .z),trivial⟩ k) (Rc Tryz.func121) fun r2 w2 h hI=> ?_
 refine TC (fun hb h=> ?_) fun hb h=> ?_
 ·refine T ?_
  refine sq (mX (vs:=[vp b1 0]) rfl rfl ⟨et,trivial⟩) ?_
  refine jZ (c:=fp) (xs:=([([60]:List UInt8),([60,61]:List UInt8),([61,61]:List UInt8)]:List (List UInt8))) (vs:=[(0,(str ([60]:List UInt8))),(1,(str ([60,61]:List UInt8))),(2,(str ([61,61]:List UInt8)))]) (cs:=#[(str ([60]:List UInt8)),(str ([60,61]:List UInt8)),(str ([61,61]:List UInt8))]) (css:=[[(str ([60]:List UInt8))],[(str ([60,61]:List UInt8))],[(str ([61,61]:List UInt8))]]) hI gn rfl rfl Ep nT rfl ⟨rfl,af,⟨rfl,af,⟨rfl,af,trivial⟩⟩⟩ (by kernel_rfl) ⟨rfl,⟨rfl,⟨rfl,trivial⟩⟩⟩ rfl rfl rfl ?_
  intro b3 c7 w3 hI
  refine jZ (c:=(hH .i64)) (xs:=([13,14,15]:List Int)) (vs:=[(0,vi 13),(1,vi 14),(2,vi 15)]) (cs:=#[vi 13,vi 14,vi 15]) (css:=[[vi 13],[vi 14],[vi 15]]) hI gn rfl rfl Er vK rfl ⟨rfl,af,⟨rfl,af,⟨rfl,af,trivial⟩⟩⟩ (by kernel_rfl) ⟨rfl,⟨rfl,⟨rfl,trivial⟩⟩⟩ rfl rfl rfl ?_
  intro b4 c8 w4 hI
  obtain⟨c9,hI⟩:=hI.release (.s .z)
  obtain⟨c10,hI⟩:=hI.release .z
  obtain⟨c11,f1,hB,hl2,hk1⟩:=hI.hands (.r (.l .n))
  refine dZ h (fun _ hx3=>oU hrec HS hx3) (ko hk1) (Rc Tryz.func74) ?_
  rintro⟨r3,s1⟩ hx3 h _ w5 ⟨a6,c12,a7,c13,a8,c14,a9,c15,c16,rfl,hB2⟩
  try dsimp only at h
  refine HN hk1 hB2 fun c17 hI=> ?_
  refine⟨_,rfl,?_⟩
  refine lA fun c18 w6 hI=> ?_
  refine nk (aJ ?_)
  obtain rfl:=ak h
  refine QG ?_
  exact .inl ⟨_,rfl,a6,c12,a7,c13,a8,c14,a9,c15,_,rfl,hI.arr GO SU⟩
 refine T ?_
 obtain⟨c19,f2,hB,hl3,hk2⟩:=hI.hands (.r (.l .n))
 refine dZ h (fun _ hx4=>gB HS hx4) (ko hk2) (Rc Tryz.func194) ?_
 rintro⟨r4,s2⟩ hx4 h _ w7 ⟨a10,c20,c21,rfl,hB2⟩
 try dsimp only at h
 refine HN hk2 hB2 fun c22 hI=> ?_
 refine⟨_,rfl,?_⟩
 refine T ?_
 obtain⟨c23,f3,hB,hl4,hk3⟩:=hI.hands (.l (.r .n))
 refine dZ h (fun _ hx5=>hrecs_ HS hx5) (ko hk3) (Rc Tryz.func140) ?_
 rintro⟨r5,s3⟩ hx5 h _ w8 ⟨a11,c24,a12,c25,a13,c26,a14,c27,c28,rfl,hB2⟩
 try dsimp only at h
 refine HN hk3 hB2 fun c29 hI=> ?_
 refine⟨_,rfl,?_⟩
 refine jZ (c:=al) (xs:=([r5]:List ac)) (vs:=[(0,(Value.agg (an r5 a11 c24 a12 c25 a13 c26)))]) (cs:=(an r5 a11 c24 a12 c25 a13 c26)) (css:=[(aK r5 a11 c24 a12 c25 a13 c26)]) hI gn rfl rfl F6 km rfl ⟨rfl,et,trivial⟩ (by kernel_rfl) ⟨(ez ⟨a11,c24,a12,c25,a13,c26,rfl,hI.get .z,hI.get (.s .z),hI.get (.s (.s .z))⟩),trivial⟩ rfl rfl rfl ?_
 intro b5 c30 w9 hI
 refine sq (aH (vs:=[(0,vi 18),(6,vs (some ⟨b5,0,none⟩) ([r5]:List ac).length 1)]) (cs:=#[vi 18,(str ([]:List UInt8)),vi 0,vi 0,vi 0,vi 0,vi 0,vi 0,vi 0,vi 0,vs none 0 0,vs none 0 0,vs (some ⟨b5,0,none⟩) ([r5]:List ac).length 1]) rfl ⟨rfl,af,⟨rfl,et,trivial⟩⟩ (by kernel_rfl)) ?_
 refine lN fun b6 c31 w10 hI=> ?_
 refine lA fun c32 w11 hI=> ?_
 refine T ?_
 refine lS fun c33 w12 hI=> ?_
 refine T ?_
 refine lA fun c34 w13 hI=> ?_
 refine nk (aJ ?_)
 obtain⟨c35,hI⟩:=hI.release (.s .z)
 have hI:=hI.add (c:=Cl.sl ag none 0 ([]:List aw)) SlC.nil
 have hI:=hI.add (c:=Cl.sl ai none 0 ([]:List av)) SlC.nil
 obtain rfl:=ak h
 refine QG ?_
 exact .inl ⟨_,rfl,none,0,none,0,some ⟨b5,0,none⟩,1,a14,c27,_,rfl,hI.arr GO SU⟩
theorem pj {rec_:(aa→Option (bC (ac×aa)))} (hrec:yb rec_) (n:Nat):Qs6 (cY rec_ n):=by
 induction n with
 | zero=>intro F;intros;rename_i h;cases h
 | succ n ih=>intro F;intros;apply pk hrec ih<;>assumption
theorem fU {rec_:(aa→Option (bC (ac×aa)))} (hrec:yb rec_):Qs6 (iz rec_):=pj hrec fu
end Go.Proofs.YtmhoikfoogemnaaGreatDoor
