import Derived.Test.YtmhoikfoogemnaaGreatDoorHCQ8c
import Derived.Test.YtmhoikfoogemnaaGreatDoorHLfH
namespace Go.Proofs.YtmhoikfoogemnaaGreatDoor
open Go Go.RowKit Go.Vc
set_option maxRecDepth 100000
set_option maxHeartbeats 4000000
set_option linter.unusedVariables false
set_option linter.unusedSimpArgs false
def dI:Tr:=(.c (5,.s) (.c (6,.q) (.c (7,.s) .n)))
def ct:Tr:=(.c (4,.s) dI)
variable {σ:Type} {C0 F:NP} {w0:World} {a1 a2 a3 a4 a5 a6 a7 a8 a9 a10 a11 a12:Option Addr} {b1 b2 b3 b4 b5 b6 b7 b8 b9 b10 b11 b12 c1 c2 c3 c4 c5 c6 c7 c8 c9 c10 c11 c12:Nat}
theorem qL {rec_:(aa→Option (bZ (ae×aa)))} (hrec:BB rec_):KO 248 (aX rec_):=by
 intro C0 F w0 r1 b1 c1 a1 hI r h
 refine fa (l:=[vp b1 0]) Tryz.func248 rfl Tryz.ntmps248 rfl ?_
 rw[aX]at h
 refine sr (cY (cs:=mD) hI gn rfl rfl fW rfl ?_)
 intro b2 c6 w1 hI
 refine nk (aj (T ?_))
 refine sB h (λ_ k=>bG NE ⟨(hI.get0 .z),hI.lendBox .p1,af⟩ k) (Rc Tryz.func121) λr2 w2 h hI=>?_
 refine TC (λhb h=>?_) λhb h=>?_
 ·refine T ?_
  obtain⟨c7,f1,hB,hl2,hk1⟩:=hI.hands (.r (.l .n))
  refine dh h (λ_ hx3=>kS HS hx3) (jL hk1) (Rc Tryz.func253) ?_
  rintro⟨r3,s1⟩ hx3 h _ w3 ⟨a6,c8,c9,rfl,hB2⟩
  try dsimp only at h
  refine HN hk1 hB2 λc10 hI=>?_
  refine⟨_,rfl,?_⟩
  refine T ?_
  obtain⟨c11,f2,hB,hl3,hk2⟩:=hI.hands (.l (.r .n))
  refine dh h (λ_ hx4=>hrec HS hx4) (jL hk2) (Rc Tryz.func34) ?_
  rintro⟨r4,s2⟩ hx4 h _ w4 ⟨a7,c12,a8,c13,a9,c14,a10,c15,c16,rfl,hB2⟩
  try dsimp only at h
  refine HN hk2 hB2 λc17 hI=>?_
  refine⟨_,rfl,?_⟩
  refine lN λb3 c18 w5 hI=>?_
  refine bJ (new:=(ba r4 a7 c12 a8 c13 a9 c14)) (cs':=(aA r4 a7 c12 a8 c13 a9 c14)) hI .z gn rfl rfl et et rfl aJ rfl rfl rfl ?_
  intro c19 w6 hI
  refine T ?_
  obtain⟨c20,f3,hB,hl4,hk3⟩:=hI.hands (.r (.l (.r .n)))
  refine dh h (λ_ hx5=>kD HS hx5) (jL hk3) (Rc Tryz.func254) ?_
  rintro⟨r5,s3⟩ hx5 h _ w7 ⟨a11,c21,c22,rfl,hB2⟩
  try dsimp only at h
  refine HN hk3 hB2 λc23 hI=>?_
  refine⟨_,rfl,?_⟩
  refine T ?_
  refine bJ (new:=(ba r4 a7 c12 a8 c13 a9 c14)) (cs':=(aA r4 a7 c12 a8 c13 a9 c14)) hI .p2 gn rfl rfl et et rfl aJ rfl rfl rfl ?_
  intro c24 w8 hI
  refine nk (aO ?_)
  obtain rfl:=ak h
  refine QG ?_
  exact .inl ⟨_,rfl,a7,c12,a8,c13,a9,c14,a11,c21,_,rfl,hI.arr GO SU⟩
 refine T ?_
 obtain⟨c25,f4,hB,hl5,hk4⟩:=hI.hands (.r (.l .n))
 obtain⟨⟨r6,s4⟩,hx6,h⟩:=ab h
 try dsimp only at h
 refine bf gn rfl (Rc Tryz.func68) (Calls.mono (aQ HS hx6) ?_)
 rintro _ w9 ⟨a12,c26,c27,rfl,hB2⟩
 refine HN hk4 hB2 λc28 hI=>?_
 refine⟨_,rfl,?_⟩
 refine TC (λhb h=>?_) λhb h=>?_
 ·refine T ?_
  obtain⟨c29,f5,hB,hl6,hk5⟩:=hI.hands (.l (.r .n))
  refine dh h (λ_ hx7=>d7 HS hx7) (jL hk5) (Rc Tryz.func31) ?_
  rintro⟨r7,s5⟩ hx7 h _ w10 ⟨a13,c30,a14,c31,c32,rfl,hB2⟩
  try dsimp only at h
  refine HN hk5 hB2 λc33 hI=>?_
  refine⟨_,rfl,?_⟩
  refine lN λb4 c34 w11 hI=>?_
  refine bJ (new:=(fS r7 a13 c30)) (cs':=(eP r7 a13 c30)) hI .z gn rfl rfl et et rfl bc rfl rfl rfl ?_
  intro c35 w12 hI
  refine T ?_
  obtain⟨c36,f6,hB,hl7,hk6⟩:=hI.hands (.r (.l (.r .n)))
  refine dh h (λ_ hx8=>ap HS hx8) (jL hk6) (Rc Tryz.func104) ?_
  rintro⟨r8,s6⟩ hx8 h _ w13 ⟨a15,c37,c38,rfl,hB2⟩
  try dsimp only at h
  refine HN hk6 hB2 λc39 hI=>?_
  refine⟨_,rfl,?_⟩
  refine T ?_
  refine sq (aK (vs:=[(0,vi 2),(4,(Value.agg (eP r7 a13 c30)))]) (cs:=#[vi 2,(str []),vi 0,vi 0,vi 0,vi 0,vi 0,vi 0,vi 0,vi r7.K,vs a13 r7.L.length c30,vs none 0 0,vs none 0 0]) rfl ⟨rfl,ah,rfl,et,af⟩ (by kernel_rfl)) ?_
  refine bJ (new:=[vi 2,(str []),vi 0,vi 0,vi 0,vi 0,vi 0,vi 0,vi 0,vi r7.K,vs a13 r7.L.length c30,vs none 0 0,vs none 0 0]) (cs':=#[vi 2,(str []),vi 0,vi 0,vi 0,vi 0,vi 0,vi 0,vi 0,vi r7.K,vs a13 r7.L.length c30,vs none 0 0,vs none 0 0]) hI .p2 gn rfl rfl et et rfl aJ rfl rfl rfl ?_
  intro c40 w14 hI
  refine nk (aO ?_)
  have hI:=hI.add (c:=Cl.sl al none 0 ([]:List aM)) SlC.nil
  have hI:=hI.add (c:=Cl.sl an none 0 ([]:List ae)) SlC.nil
  obtain rfl:=ak h
  refine QG ?_
  exact .inl ⟨_,rfl,a13,c30,none,0,none,0,a15,c37,_,rfl,hI.arr GO SU⟩
 refine aj (T ?_)
 refine sB h (λ_ k=>bG NE ⟨(hI.get0 .z),hI.lendBox .z,af⟩ k) (Rc Tryz.func121) λr9 w15 h hI=>?_
 refine TC (λhb h=>?_) λhb h=>?_
 ·have hk7:=hb
  refine T ?_
  refine sO (b:=r9) et (λ_=>?_) (λhb=>absurd (hb.symm.trans hk7) (by simp))
  refine T ?_
  obtain⟨c41,f7,hB,hl9,hk8⟩:=hI.hands (.l (.r .n))
  refine dh h (λ_ hx11=>jj HS hx11) (jL hk8) (Rc Tryz.func255) ?_
  rintro⟨r10,s7⟩ hx11 h _ w16 ⟨a16,c42,a17,c43,a18,c44,a19,c45,c46,rfl,hB2⟩
  try dsimp only at h
  refine HN hk8 hB2 λc47 hI=>?_
  refine⟨_,rfl,?_⟩
  refine bJ (new:=(ba r10 a16 c42 a17 c43 a18 c44)) (cs':=(aA r10 a16 c42 a17 c43 a18 c44)) hI .p1 gn rfl rfl et et rfl aJ rfl rfl rfl ?_
  intro c48 w17 hI
  refine nk (aO ?_)
  obtain rfl:=ak h
  refine QG ?_
  exact .inl ⟨_,rfl,a16,c42,a17,c43,a18,c44,a19,c45,_,rfl,hI.arr GO SU⟩
 refine T ?_
 refine sB h (λ_ k=>bG NE ⟨(hI.get0 .z),hI.lendBox .z,af⟩ k) (Rc Tryz.func121) λr11 w18 h hI=>?_
 refine TC (λhb h=>?_) λhb h=>?_
 ·have hk9:=hb
  refine T ?_
  refine sO (b:=r11) et (λ_=>?_) (λhb=>absurd (hb.symm.trans hk9) (by simp))
  refine T ?_
  obtain⟨c49,f8,hB,hl11,hk10⟩:=hI.hands (.l (.r .n))
  refine dh h (λ_ hx14=>jj HS hx14) (jL hk10) (Rc Tryz.func255) ?_
  rintro⟨r12,s8⟩ hx14 h _ w19 ⟨a20,c50,a21,c51,a22,c52,a23,c53,c54,rfl,hB2⟩
  try dsimp only at h
  refine HN hk10 hB2 λc55 hI=>?_
  refine⟨_,rfl,?_⟩
  refine bJ (new:=(ba r12 a20 c50 a21 c51 a22 c52)) (cs':=(aA r12 a20 c50 a21 c51 a22 c52)) hI .p1 gn rfl rfl et et rfl aJ rfl rfl rfl ?_
  intro c56 w20 hI
  refine nk (aO ?_)
  obtain rfl:=ak h
  refine QG ?_
  exact .inl ⟨_,rfl,a20,c50,a21,c51,a22,c52,a23,c53,_,rfl,hI.arr GO SU⟩
 refine T ?_
 refine sB h (λ_ k=>bG NE ⟨(hI.get0 .z),hI.lendBox .z,af⟩ k) (Rc Tryz.func121) λr13 w21 h hI=>?_
 refine TC (λhb h=>?_) λhb h=>?_
 ·refine T ?_
  obtain⟨c57,f9,hB,hl13,hk11⟩:=hI.hands (.l (.r .n))
  refine dh h (λ_ hx17=>jj HS hx17) (jL hk11) (Rc Tryz.func255) ?_
  rintro⟨r14,s9⟩ hx17 h _ w22 ⟨a24,c58,a25,c59,a26,c60,a27,c61,c62,rfl,hB2⟩
  try dsimp only at h
  refine HN hk11 hB2 λc63 hI=>?_
  refine⟨_,rfl,?_⟩
  refine bJ (new:=(ba r14 a24 c58 a25 c59 a26 c60)) (cs':=(aA r14 a24 c58 a25 c59 a26 c60)) hI .p1 gn rfl rfl et et rfl aJ rfl rfl rfl ?_
  intro c64 w23 hI
  refine nk (aO ?_)
  obtain rfl:=ak h
  refine QG ?_
  exact .inl ⟨_,rfl,a24,c58,a25,c59,a26,c60,a27,c61,_,rfl,hI.arr GO SU⟩
 refine T ?_
 refine aj (T ?_)
 refine ll hI be ([[109,105,110],[109,97,120],[105,102],[99,97,115,116]]:List (List UInt8)) lw Rr λb5 c65 w24 hI=>?_
 obtain⟨c66,hI⟩:=hI.release .z
 obtain⟨c67,f10,hB,hl14,hk12⟩:=hI.hands (.l (.r .n))
 obtain⟨⟨r15,s10⟩,hx18,h⟩:=ab h
 try dsimp only at h
 refine bf gn rfl (Rc Tryz.func98) (Calls.mono (fy HS hx18) ?_)
 rintro _ w25 ⟨a28,c68,c69,rfl,hB2⟩
 refine HN hk12 hB2 λc70 hI=>?_
 refine⟨_,rfl,?_⟩
 refine TC (λhb h=>?_) λhb h=>?_
 ·refine T ?_
  obtain⟨c71,f11,hB,hl15,hk13⟩:=hI.hands (.l (.r .n))
  refine dh h (λ_ hx19=>kU hrec HS hx19) (jL hk13) (Rc Tryz.func256) ?_
  rintro⟨r16,s11⟩ hx19 h _ w26 ⟨a29,c72,a30,c73,a31,c74,a32,c75,c76,rfl,hB2⟩
  try dsimp only at h
  refine HN hk13 hB2 λc77 hI=>?_
  refine⟨_,rfl,?_⟩
  refine bJ (new:=(ba r16 a29 c72 a30 c73 a31 c74)) (cs':=(aA r16 a29 c72 a30 c73 a31 c74)) hI .p1 gn rfl rfl et et rfl aJ rfl rfl rfl ?_
  intro c78 w27 hI
  refine nk (aO ?_)
  obtain rfl:=ak h
  refine QG ?_
  exact .inl ⟨_,rfl,a29,c72,a30,c73,a31,c74,a32,c75,_,rfl,hI.arr GO SU⟩
 refine TC (λhb h=>?_) λhb h=>?_
 ·refine T ?_
  obtain⟨c79,f12,hB,hl16,hk14⟩:=hI.hands (.l (.r .n))
  refine dh h (λ_ hx20=>kU hrec HS hx20) (jL hk14) (Rc Tryz.func256) ?_
  rintro⟨r17,s12⟩ hx20 h _ w28 ⟨a33,c80,a34,c81,a35,c82,a36,c83,c84,rfl,hB2⟩
  try dsimp only at h
  refine HN hk14 hB2 λc85 hI=>?_
  refine⟨_,rfl,?_⟩
  refine bJ (new:=(ba r17 a33 c80 a34 c81 a35 c82)) (cs':=(aA r17 a33 c80 a34 c81 a35 c82)) hI .p1 gn rfl rfl et et rfl aJ rfl rfl rfl ?_
  intro c86 w29 hI
  refine nk (aO ?_)
  obtain rfl:=ak h
  refine QG ?_
  exact .inl ⟨_,rfl,a33,c80,a34,c81,a35,c82,a36,c83,_,rfl,hI.arr GO SU⟩
 refine TC (λhb h=>?_) λhb h=>?_
 ·refine T ?_
  obtain⟨c87,f13,hB,hl17,hk15⟩:=hI.hands (.l (.r .n))
  refine dh h (λ_ hx21=>kU hrec HS hx21) (jL hk15) (Rc Tryz.func256) ?_
  rintro⟨r18,s13⟩ hx21 h _ w30 ⟨a37,c88,a38,c89,a39,c90,a40,c91,c92,rfl,hB2⟩
  try dsimp only at h
  refine HN hk15 hB2 λc93 hI=>?_
  refine⟨_,rfl,?_⟩
  refine bJ (new:=(ba r18 a37 c88 a38 c89 a39 c90)) (cs':=(aA r18 a37 c88 a38 c89 a39 c90)) hI .p1 gn rfl rfl et et rfl aJ rfl rfl rfl ?_
  intro c94 w31 hI
  refine T ?_
  refine aO ?_
  obtain rfl:=ak h
  refine QG ?_
  exact .inl ⟨_,rfl,a37,c88,a38,c89,a39,c90,a40,c91,_,rfl,hI.arr GO SU⟩
 refine TC (λhb h=>?_) λhb h=>?_
 ·refine T ?_
  obtain⟨c95,f14,hB,hl18,hk16⟩:=hI.hands (.l (.r .n))
  refine dh h (λ_ hx22=>sK hrec HS hx22) (jL hk16) (Rc Tryz.func257) ?_
  rintro⟨r19,s14⟩ hx22 h _ Ni ⟨a41,c96,a42,c97,a43,c98,a44,c99,c100,rfl,hB2⟩
  try dsimp only at h
  refine HN hk16 hB2 λc101 hI=>?_
  refine⟨_,rfl,?_⟩
  refine bJ (new:=(ba r19 a41 c96 a42 c97 a43 c98)) (cs':=(aA r19 a41 c96 a42 c97 a43 c98)) hI .p1 gn rfl rfl et et rfl aJ rfl rfl rfl ?_
  intro c102 w33 hI
  refine T ?_
  refine aO ?_
  obtain rfl:=ak h
  refine QG ?_
  exact .inl ⟨_,rfl,a41,c96,a42,c97,a43,c98,a44,c99,_,rfl,hI.arr GO SU⟩
 refine T ?_
 obtain⟨c103,f15,hB,hl19,hk17⟩:=hI.hands (.l (.r .n))
 refine dh h (λ_ hx23=>bT HS hx23) (jL hk17) (Rc Tryz.func128) ?_
 rintro⟨r20,s15⟩ hx23 h _ w34 ⟨a45,c104,c105,rfl,hB2⟩
 try dsimp only at h
 refine HN hk17 hB2 λc106 hI=>?_
 refine⟨_,rfl,?_⟩
 refine sq (aK (vs:=[(0,vi 3),(1,(str r20))]) (cs:=#[vi 3,(str r20),vi 0,vi 0,vi 0,vi 0,vi 0,vi 0,vi 0,vi 0,vs none 0 0,vs none 0 0,vs none 0 0]) rfl ⟨rfl,ah,rfl,et,af⟩ (by kernel_rfl)) ?_
 refine lN λb6 c107 w35 hI=>?_
 refine bJ (new:=[vi 3,(str r20),vi 0,vi 0,vi 0,vi 0,vi 0,vi 0,vi 0,vi 0,vs none 0 0,vs none 0 0,vs none 0 0]) (cs':=#[vi 3,(str r20),vi 0,vi 0,vi 0,vi 0,vi 0,vi 0,vi 0,vi 0,vs none 0 0,vs none 0 0,vs none 0 0]) hI .z gn rfl rfl et et rfl aJ rfl rfl rfl ?_
 intro c108 w36 hI
 refine T ?_
 obtain⟨c109,f16,hB,hl20,hk18⟩:=hI.hands (.r (.l (.r .n)))
 refine dh h (λ_ hx24=>ap HS hx24) (jL hk18) (Rc Tryz.func104) ?_
 rintro⟨r21,s16⟩ hx24 h _ w37 ⟨a46,c110,c111,rfl,hB2⟩
 try dsimp only at h
 refine HN hk18 hB2 λc112 hI=>?_
 refine⟨_,rfl,?_⟩
 refine nk (aj (T ?_))
 obtain⟨c113,f17,hB,hl21,hk19⟩:=hI.hands (.l (.r (.r .n)))
 obtain⟨⟨r22,s17⟩,hx25,h⟩:=ab h
 try dsimp only at h
 refine bf gn rfl (Rc Tryz.func68) (Calls.mono (aQ HS hx25) ?_)
 rintro _ w38 ⟨a47,c114,c115,rfl,hB2⟩
 refine HN hk19 hB2 λc116 hI=>?_
 refine⟨_,rfl,?_⟩
 refine TC (λhb h=>?_) λhb h=>?_
 ·refine T ?_
  refine bJ (new:=[vi 3,(str r20),vi 0,vi 0,vi 0,vi 0,vi 0,vi 0,vi 0,vi 0,vs none 0 0,vs none 0 0,vs none 0 0]) (cs':=#[vi 3,(str r20),vi 0,vi 0,vi 0,vi 0,vi 0,vi 0,vi 0,vi 0,vs none 0 0,vs none 0 0,vs none 0 0]) hI .p2 gn rfl rfl et et rfl aJ rfl rfl rfl ?_
  intro c117 w39 hI
  refine nk (aO ?_)
  have hI:=hI.add (c:=Cl.sl ai none 0 ([]:List bv)) SlC.nil
  have hI:=hI.add (c:=Cl.sl al none 0 ([]:List aM)) SlC.nil
  have hI:=hI.add (c:=Cl.sl an none 0 ([]:List ae)) SlC.nil
  obtain rfl:=ak h
  refine QG ?_
  exact .inl ⟨_,rfl,none,0,none,0,none,0,a47,c114,_,rfl,hI.arr GO SU⟩
 refine T ?_
 obtain⟨c118,f18,hB,hl22,hk20⟩:=hI.hands (.l (.r (.r .n)))
 refine dh h (λ_ hx26=>gl HS hx26) (jL hk20) (Rc Tryz.func258) ?_
 rintro⟨r23,s18⟩ hx26 h _ w40 ⟨a48,c119,a49,c120,a50,c121,c122,rfl,hB2⟩
 try dsimp only at h
 refine HN hk20 hB2 λc123 hI=>?_
 refine⟨_,rfl,?_⟩
 refine ll hI al ([r23]:List aM) wk (.cs ⟨a48,c119,a49,c120,rfl,hI.get .z,hI.get .p1⟩ .nl) λb7 c124 w41 hI=>?_
 refine T ?_
 refine bJ (new:=[vs (some ⟨b7,0,none⟩) ([r23]:List aM).length 1]) (cs':=#[vi 3,(str r20),vi 0,vi 0,vi 0,vi 0,vi 0,vi 0,vi 0,vi 0,vs none 0 0,vs (some ⟨b7,0,none⟩) ([r23]:List aM).length 1,vs none 0 0]) hI .p2 gn rfl rfl et et rfl nK rfl rfl rfl ?_
 intro c125 w42 hI
 refine nk (aj (T ?_))
 have hI:=hI.nil ai 64 none
 have hI:=hI.nil an 39 none
 refine bk (α:=Nat×aa×ae×(Option Addr)×Nat×(Option Addr)×Nat×(Option Addr)×Nat×(Option Addr)×Nat) (λx=>λw=>∃ C,Bun C0 F w0 C w [Q6 ai 64 (x.2.2.2.2.2.1) (x.2.2.2.2.2.2.1) (x.2.2.1).Lin.L,Q6 al 132 (x.2.2.2.2.2.2.2.1) (x.2.2.2.2.2.2.2.2.1) (x.2.2.1).Idx,Q6 an 39 (x.2.2.2.2.2.2.2.2.2.1) (x.2.2.2.2.2.2.2.2.2.2) (x.2.2.1).Args,MO.box b1 67 (ac (x.2.1) (x.2.2.2.1) (x.2.2.2.2.1)),MO.box b2 39 mD,MO.box b6 39 (aA (x.2.2.1) (x.2.2.2.2.2.1) (x.2.2.2.2.2.2.1) (x.2.2.2.2.2.2.2.1) (x.2.2.2.2.2.2.2.2.1) (x.2.2.2.2.2.2.2.2.2.1) (x.2.2.2.2.2.2.2.2.2.2))] [Cl.sl ag (x.2.2.2.1) (x.2.2.2.2.1) (x.2.1).l,au]∧bx (x.1) (x.2.1) (x.2.2.1)=some r) (λx _=>x.1) (λx=>[(0,vp b1 0),(2,vp b2 0),(5,vp b6 0)]) (fu,s18,(⟨3,r20,⟨0,0⟩,⟨0,0,0,0,0⟩,⟨0,[]⟩,[r23],[]⟩:ae),a50,c121,none,0,some ⟨b7,0,none⟩,1,none,0) ⟨_,hI.arr (.c .p1 (.c .p1 (.c .z (.c .z (.c .p1 (.c .z .n)))))) ⟨.p2,(.s .p9),af⟩,h⟩ SB ?_
 clear h hI;rintro⟨fuel1,r24,e1,a51,c126,a52,c127,a53,c128,a54,c129⟩ w43 ⟨c130,hI,h⟩
 dsimp only at hI h ⊢
 rcases fuel1 with _ | fuel1
 ·rw[bx]at h;cases h
 rw[bx]at h
 refine aj (T ?_)
 obtain⟨c131,f19,hB,hl23,hk21⟩:=hI.hands (.r (.r (.r (.l (.r (.r .n))))))
 obtain⟨⟨r25,s19⟩,hx27,h⟩:=ab h
 try dsimp only at h
 refine bf gn rfl (Rc Tryz.func68) (Calls.mono (aQ HS hx27) ?_)
 rintro _ w44 ⟨a55,c132,c133,rfl,hB2⟩
 refine HN hk21 hB2 λc134 hI=>?_
 refine⟨_,rfl,?_⟩
 refine TC (λhb h=>?_) λhb h=>?_
 ·have hk22:=hb
  refine T ?_
  rcases en h with⟨⟨r26,s20⟩,hx28,h⟩ | ⟨pa_,pn_,hx28,hp_⟩
  rotate_left
  ·subst hp_
   refine aL [3,5,7] false (.c (0,.q) (.c (2,.q) (.two 1 (.c (3,.s) ct) 3 (.two 1 ct 4 (.c (1,.s) dI))))) hI (by kernel_rfl) (by kernel_rfl) ?_
   intro w51 hI
   refine V ?_
   refine gG ?_ ?_
   ·skip
    refine dz rfl gn rfl (aF (v:=(vs a53 e1.Idx.length c128)) rfl et xm rfl (Q5 (hI.blk .p5) rfl)) Q7 ?_
    refine gQ (F:=F) (C:=c134) rfl rfl ?_
    obtain⟨c135,f20,hB,hl24,hk23⟩:=hI.hands (.l (.r (.r (.r (.r (.r .n))))))
    refine eO rfl gn rfl (ar (vs:=[vp b1 0]) rfl B4 ⟨et,af⟩) (Calls.mono (gl HS hx28) ?_)
    intro e_ w_ hq_;obtain⟨rfl,C_,hB_⟩:=cz hq_;obtain⟨C9_,-,hI_⟩:=hk23 _ _ _ _ hB_;exact .inr ⟨_,rfl,fB (.inr ⟨_,_,rfl,rfl,_,hI_.arr .n trivial⟩)⟩
   refine dC (F:=F) (C:=c134) rfl rfl ?_
   obtain⟨c135,f20,hB,hl24,hk23⟩:=hI.hands (.l (.r (.r (.r (.r (.r .n))))))
   refine eO rfl gn rfl (ar (vs:=[vp b1 0]) rfl B4 ⟨et,af⟩) (Calls.mono (gl HS hx28) ?_)
   intro e_ w_ hq_;obtain⟨rfl,C_,hB_⟩:=cz hq_;obtain⟨C9_,-,hI_⟩:=hk23 _ _ _ _ hB_;exact .inr ⟨_,rfl,fB (.inr ⟨_,_,rfl,rfl,_,hI_.arr .n trivial⟩)⟩
  try dsimp only at h
  obtain⟨zs1,hx29,h⟩:=ab h
  refine aL [3,5,7] false (.c (0,.q) (.c (2,.q) (.two 1 (.c (3,.s) ct) 3 (.two 1 ct 4 (.c (1,.s) dI))))) hI (by kernel_rfl) (by kernel_rfl) ?_
  intro w52 hI
  refine fU (α:=(Option Addr)×Nat×(Option Addr)×Nat×(Option Addr)×Nat×Nat×NP) (T:=dI) (λx=>[(0,vp b1 0),(2,vp b2 0),(5,vp b6 0),(68,vs a53 e1.Idx.length c128),(71,(vs (some ⟨(x.2.2.2.2.2.2.1),0,none⟩) ([r26]:List aM).length 1))]) (λx w=>Bun C0 F w0 (x.2.2.2.2.2.2.2) w [Q6 al 132 (some ⟨(x.2.2.2.2.2.2.1),0,none⟩) 1 ([r26]:List aM),MO.box b1 67 (ac s20 (x.2.2.2.2.1) (x.2.2.2.2.2.1)),Q6 ai 64 a52 c127 e1.Lin.L,Q6 al 132 a53 c128 e1.Idx,Q6 an 39 a54 c129 e1.Args,MO.box b2 39 mD,MO.box b6 39 (aA e1 a52 c127 a53 c128 a54 c129)] [Cl.sl ai (x.1) (x.2.1) r26.Lin.L,Cl.sl dU (x.2.2.1) (x.2.2.2.1) r26.At,Cl.sl ag (x.2.2.2.2.1) (x.2.2.2.2.2.1) s20.l,Cl.sl ag a55 c132 s19.l,Cl.sl ag a51 c126 r24.l,au]) (λx w=>SN [] (DM true F (x.2.2.2.2.2.2.2)) w) ?_ ?_
  ·clear hI;rintro⟨a56,c136,a57,c137,a58,c138,b8,c146⟩ w50 hI
   try dsimp only at hI ⊢
   unfold dI
   refine oI (xs:=e1.Idx) (ys:=([r26]:List aM)) hI .p3 (hI.rd .z) hx29 rfl gn rfl rfl xm wk rfl rfl et et ?_
   intro a59 c142 c143 w47 hI
   refine V ?_
   refine vS λc144 w48 hI=>?_
   refine pp ?_
   exact qo (fuel1,s20,(⟨e1.Op,e1.Name,e1.Val,e1.Type_,e1.Lin,zs1,e1.Args⟩:ae),a58,c138,a52,c127,a59,c142,a54,c129) SB ⟨_,hI.arr GO SU,h⟩ (Nat.lt_succ_self _)
  intro hk_tr_parser_reader_primary_w_3_1
  refine fU (α:=(Option Addr)×Nat×(Option Addr)×Nat×(Option Addr)×Nat×NP) (T:=ct) (λx=>[(0,vp b1 0),(2,vp b2 0),(5,vp b6 0),(68,vs a53 e1.Idx.length c128),(70,(Value.agg (oN r26 (x.1) (x.2.1) (x.2.2.1) (x.2.2.2.1))))]) (λx w=>Bun C0 F w0 (x.2.2.2.2.2.2) w [MO.box b1 67 (ac s20 (x.2.2.2.2.1) (x.2.2.2.2.2.1)),Q6 ai 64 a52 c127 e1.Lin.L,Q6 al 132 a53 c128 e1.Idx,Q6 an 39 a54 c129 e1.Args,MO.box b2 39 mD,MO.box b6 39 (aA e1 a52 c127 a53 c128 a54 c129)] [Cl.sl ai (x.1) (x.2.1) r26.Lin.L,Cl.sl dU (x.2.2.1) (x.2.2.2.1) r26.At,Cl.sl ag (x.2.2.2.2.1) (x.2.2.2.2.2.1) s20.l,Cl.sl ag a55 c132 s19.l,Cl.sl ag a51 c126 r24.l,au]) (λx w=>SN [] (DM true F (x.2.2.2.2.2.2)) w) ?_ ?_
  ·clear hI;rintro⟨a56,c136,a57,c137,a58,c138,c145⟩ w49 hI
   try dsimp only at hI ⊢
   unfold ct
   refine vl hI al ([r26]:List aM) wk (.cs ⟨a56,c136,a57,c137,rfl,hI.get .z,hI.get .p1⟩ .nl) λb8 c141 w46 hI=>?_
   exact cn (hk_tr_parser_reader_primary_w_3_1 (a56,c136,a57,c137,a58,c138,b8,c141) _ (hI.arr GO SU)) SB
  intro hk_tr_parser_reader_primary_w_3_0
  refine V ?_
  refine gG ?_ ?_
  ·skip
   refine dz rfl gn rfl (aF (v:=(vs a53 e1.Idx.length c128)) rfl et xm rfl (Q5 (hI.blk .p5) rfl)) Q7 ?_
   refine gQ (F:=F) (C:=c134) rfl rfl ?_
   obtain⟨c135,f20,hB,hl24,hk23⟩:=hI.hands (.l (.r (.r (.r (.r (.r .n))))))
   refine eN rfl gn rfl (ar (vs:=[vp b1 0]) rfl B4 ⟨et,af⟩) (Calls.mono (gl HS hx28) ?_)
   intro e_ w45 hq_;obtain⟨a56,c136,a57,c137,a58,c138,c139,rfl,hB2⟩:=cy hq_
   obtain⟨c140,hs20,hI⟩:=hk23 _ _ _ _ hB2
   dsimp only[ca,na]at hI
   refine⟨_,rfl,DM true F c140,hs20,?_⟩
   exact cn (hk_tr_parser_reader_primary_w_3_0 (a56,c136,a57,c137,a58,c138,c140) _ (hI.arr GO SU)) SB
  refine dC (F:=F) (C:=c134) rfl rfl ?_
  obtain⟨c135,f20,hB,hl24,hk23⟩:=hI.hands (.l (.r (.r (.r (.r (.r .n))))))
  refine eN rfl gn rfl (ar (vs:=[vp b1 0]) rfl B4 ⟨et,af⟩) (Calls.mono (gl HS hx28) ?_)
  intro e_ w45 hq_;obtain⟨a56,c136,a57,c137,a58,c138,c139,rfl,hB2⟩:=cy hq_
  obtain⟨c140,hs20,hI⟩:=hk23 _ _ _ _ hB2
  dsimp only[ca,na]at hI
  refine⟨_,rfl,DM true F c140,hs20,?_⟩
  refine gG ?_ ?_
  ·skip
   refine dz rfl gn rfl (aF (v:=(vs a53 e1.Idx.length c128)) rfl et xm rfl (Q5 (hI.blk .p5) rfl)) Q7 ?_
   exact cn (hk_tr_parser_reader_primary_w_3_0 (a56,c136,a57,c137,a58,c138,c140) _ (hI.arr GO SU)) SB
  refine vl hI al ([r26]:List aM) wk (.cs ⟨a56,c136,a57,c137,rfl,hI.get .z,hI.get .p1⟩ .nl) λb8 c141 w46 hI=>?_
  refine dz rfl gn rfl (aF (v:=(vs a53 e1.Idx.length c128)) rfl et xm rfl (Q5 (hI.blk .p6) rfl)) Q7 ?_
  exact cn (hk_tr_parser_reader_primary_w_3_1 (a56,c136,a57,c137,a58,c138,b8,c141) _ (hI.arr GO SU)) SB
 refine bl ?_
 refine eZ ?_
 refine aS ?_
 refine T ?_
 obtain⟨c147,f21,hB,hl25,hk24⟩:=hI.hands (.l (.r (.r (.r (.r (.r .n))))))
 refine dh h (λ_ hx30=>ap HS hx30) (jL hk24) (Rc Tryz.func104) ?_
 rintro⟨r27,s21⟩ hx30 h _ w53 ⟨a60,c148,c149,rfl,hB2⟩
 try dsimp only at h
 refine HN hk24 hB2 λc150 hI=>?_
 refine⟨_,rfl,?_⟩
 refine T ?_
 refine bJ (new:=(ba e1 a52 c127 a53 c128 a54 c129)) (cs':=(aA e1 a52 c127 a53 c128 a54 c129)) hI .p4 gn rfl rfl et et rfl aJ rfl rfl rfl ?_
 intro c151 w54 hI
 refine nk (aO ?_)
 obtain⟨c152,hI⟩:=hI.release .p1
 obtain⟨c153,hI⟩:=hI.release .p1
 obtain⟨c154,hI⟩:=hI.release .p1
 obtain rfl:=ak h
 refine QG ?_
 exact .inl ⟨_,rfl,a52,c127,a53,c128,a54,c129,a60,c148,_,rfl,hI.arr GO SU⟩
abbrev Qs5 (f_:(aa→Option (bZ (ae×aa)))):Prop:=KO 242 f_
theorem qJ {rec_:(aa→Option (bZ (ae×aa)))} (hrec:BB rec_) {recs_:(aa→Option (bZ (ae×aa)))} (hrecs_:Qs5 recs_) {r1:aa} (hI:Bun C0 F w0 C0 w0 [MO.box b1 67 (ac r1 a1 c1)] [Cl.sl ag a1 c1 r1.l,au]) {r:bZ (ae×aa)} (h:cJ rec_ recs_ r1=some r):CP C0 F w0 242 #[vp b1 0] r λrx e w=>∃ a2 c2 a3 c3 a4 c4 a5 c5 C,e= .returned (Value.agg (aA rx.1 a2 c2 a3 c3 a4 c4))∧Bun C0 F w0 C w [MO.box b1 67 (ac rx.2 a5 c5)] [Cl.sl ai a2 c2 rx.1.Lin.L,Cl.sl al a3 c3 rx.1.Idx,Cl.sl an a4 c4 rx.1.Args,Cl.sl ag a5 c5 rx.2.l]:=by
 refine fa (l:=[vp b1 0]) Tryz.func242 rfl Tryz.ntmps242 rfl ?_
 rw[cJ]at h
 refine sr (cY (cs:=mD) hI gn rfl rfl fW rfl ?_)
 intro b2 c6 w1 hI
 refine nk (aj (T ?_))
 refine sB h (λ_ k=>bG NE ⟨(hI.get0 .z),hI.lendBox .p1,af⟩ k) (Rc Tryz.func121) λr2 w2 h hI=>?_
 refine TC (λhb h=>?_) λhb h=>?_
 ·refine T ?_
  obtain⟨c7,f1,hB,hl2,hk1⟩:=hI.hands (.r (.l .n))
  refine dh h (λ_ hx3=>qL hrec HS hx3) (jL hk1) (Rc Tryz.func248) ?_
  rintro⟨r3,s1⟩ hx3 h _ w3 ⟨a6,c8,a7,c9,a8,c10,a9,c11,c12,rfl,hB2⟩
  try dsimp only at h
  refine HN hk1 hB2 λc13 hI=>?_
  refine⟨_,rfl,?_⟩
  refine lA λc14 w4 hI=>?_
  refine nk (aO ?_)
  obtain rfl:=ak h
  refine QG ?_
  exact .inl ⟨_,rfl,a6,c8,a7,c9,a8,c10,a9,c11,_,rfl,hI.arr GO SU⟩
 refine T ?_
 obtain⟨c15,f2,hB,hl3,hk2⟩:=hI.hands (.r (.l .n))
 refine dh h (λ_ hx4=>iB HS hx4) (jL hk2) (Rc Tryz.func194) ?_
 rintro⟨r4,s2⟩ hx4 h _ w5 ⟨a10,c16,c17,rfl,hB2⟩
 try dsimp only at h
 refine HN hk2 hB2 λc18 hI=>?_
 refine⟨_,rfl,?_⟩
 refine T ?_
 obtain⟨c19,f3,hB,hl4,hk3⟩:=hI.hands (.l (.r .n))
 refine dh h (λ_ hx5=>hrecs_ HS hx5) (jL hk3) (Rc Tryz.func242) ?_
 rintro⟨r5,s3⟩ hx5 h _ w6 ⟨a11,c20,a12,c21,a13,c22,a14,c23,c24,rfl,hB2⟩
 try dsimp only at h
 refine HN hk3 hB2 λc25 hI=>?_
 refine⟨_,rfl,?_⟩
 refine ll hI an ([r5]:List ae) oW (.cs (kE ⟨a11,c20,a12,c21,a13,c22,rfl,hI.get .z,hI.get .p1,hI.get .p2⟩) .nl) λb3 c26 w7 hI=>?_
 refine sq (aK (vs:=[(0,vi 8),(6,vs (some ⟨b3,0,none⟩) ([r5]:List ae).length 1)]) (cs:=#[vi 8,(str []),vi 0,vi 0,vi 0,vi 0,vi 0,vi 0,vi 0,vi 0,vs none 0 0,vs none 0 0,vs (some ⟨b3,0,none⟩) ([r5]:List ae).length 1]) rfl ⟨rfl,ah,rfl,et,af⟩ (by kernel_rfl)) ?_
 refine lN λb4 c27 w8 hI=>?_
 refine lA λc28 w9 hI=>?_
 refine T ?_
 refine lS λc29 w10 hI=>?_
 refine T ?_
 refine lA λc30 w11 hI=>?_
 refine nk (aO ?_)
 obtain⟨c31,hI⟩:=hI.release .p1
 have hI:=hI.add (c:=Cl.sl ai none 0 ([]:List bv)) SlC.nil
 have hI:=hI.add (c:=Cl.sl al none 0 ([]:List aM)) SlC.nil
 obtain rfl:=ak h
 refine QG ?_
 exact .inl ⟨_,rfl,none,0,none,0,some ⟨b3,0,none⟩,1,a14,c23,_,rfl,hI.arr GO SU⟩
theorem qI {rec_:(aa→Option (bZ (ae×aa)))} (hrec:BB rec_) (n:Nat):Qs5 (cI rec_ n):=by
 induction n with
 | zero=>intro F;intros;rename_i h;cases h
 | succ n ih=>intro F;intros;apply qJ hrec ih<;>assumption
theorem rI {rec_:(aa→Option (bZ (ae×aa)))} (hrec:BB rec_):Qs5 (gi rec_):=qI hrec fu
def cB:Tr:=(.c (4,.s) (.c (5,.q) (.c (6,.s) .n)))
theorem EO {K_:Nat} {nx:(aa→Option (bZ (ae×aa)))} (hnx:KO K_ nx) (okK:dv Tryz.prog K_) {r1:aa} {signs1:List (List UInt8)} {ops1:List Int} (hI:Bun C0 F w0 C0 w0 [MO.box b1 67 (ac r1 a1 c1)] [Cl.sl ag a1 c1 r1.l,Cl.sl be a2 c2 signs1,Cl.sl (nz .i64) a3 c3 ops1,au]) {r:bZ (ae×aa)} (h:MI nx r1 signs1 ops1=some r):CP C0 F w0 74 #[vp b1 0,(Value.func (.func K_) #[vp b1 0] #[]),vs a2 signs1.length c2,vs a3 ops1.length c3] r λrx e w=>∃ a4 c4 a5 c5 a6 c6 a7 c7 C,e= .returned (Value.agg (aA rx.1 a4 c4 a5 c5 a6 c6))∧Bun C0 F w0 C w [MO.box b1 67 (ac rx.2 a7 c7)] [Cl.sl ai a4 c4 rx.1.Lin.L,Cl.sl al a5 c5 rx.1.Idx,Cl.sl an a6 c6 rx.1.Args,Cl.sl ag a7 c7 rx.2.l]:=by
 refine fa (l:=[vp b1 0,(Value.func (.func K_) #[vp b1 0] #[]),vs a2 signs1.length c2,vs a3 ops1.length c3]) Tryz.func74 rfl Tryz.ntmps74 rfl ?_
 rw[MI]at h
 refine sr (cY (cs:=mD) hI gn rfl rfl fW rfl ?_)
 intro b2 c8 w1 hI
 refine T ?_
 obtain⟨c9,f1,hB,hl1,hk1⟩:=hI.hands (.r (.l .n))
 refine dh h (λ_ hx1=>hnx HS hx1) (jL hk1) (tA (fs:=[vp b1 0]) (vs:=[]) (cap:=[]) rfl et okK trivial) ?_
 rintro⟨r2,s1⟩ hx1 h _ w2 ⟨a8,c10,a9,c11,a10,c12,a11,c13,c14,rfl,hB2⟩
 try dsimp only at h
 refine HN hk1 hB2 λc15 hI=>?_
 refine⟨_,rfl,?_⟩
 refine lN λb3 c16 w3 hI=>?_
 refine lA λc17 w4 hI=>?_
 refine T ?_
 refine bk (α:=Nat×aa×ae×(Option Addr)×Nat×(Option Addr)×Nat×(Option Addr)×Nat×(Option Addr)×Nat) (λx=>λw=>∃ C,Bun C0 F w0 C w [MO.box b1 67 (ac (x.2.1) (x.2.2.2.1) (x.2.2.2.2.1)),MO.box b2 39 mD,MO.box b3 39 (aA (x.2.2.1) (x.2.2.2.2.2.1) (x.2.2.2.2.2.2.1) (x.2.2.2.2.2.2.2.1) (x.2.2.2.2.2.2.2.2.1) (x.2.2.2.2.2.2.2.2.2.1) (x.2.2.2.2.2.2.2.2.2.2))] [Cl.sl ag (x.2.2.2.1) (x.2.2.2.2.1) (x.2.1).l,Cl.sl ai (x.2.2.2.2.2.1) (x.2.2.2.2.2.2.1) (x.2.2.1).Lin.L,Cl.sl al (x.2.2.2.2.2.2.2.1) (x.2.2.2.2.2.2.2.2.1) (x.2.2.1).Idx,Cl.sl an (x.2.2.2.2.2.2.2.2.2.1) (x.2.2.2.2.2.2.2.2.2.2) (x.2.2.1).Args,Cl.sl be a2 c2 signs1,Cl.sl (nz .i64) a3 c3 ops1,au]∧kn signs1 ops1 nx (x.1) (x.2.1) (x.2.2.1)=some r) (λx _=>x.1) (λx=>[(0,vp b1 0),(1,(Value.func (.func K_) #[vp b1 0] #[])),(2,vs a2 signs1.length c2),(3,vs a3 ops1.length c3),(8,vp b2 0),(9,vp b3 0)]) (fu,s1,r2,a11,c13,a8,c10,a9,c11,a10,c12) ⟨_,hI.arr (.c .p1 (.c .p1 (.c .z .n))) ⟨.p3,.z,.p1,.p2,.p5,.p6,.p7,af⟩,h⟩ ⟨rfl,rfl,rfl,rfl,rfl,rfl,af⟩ ?_
 clear h hI;rintro⟨fuel1,r3,e1,a12,c18,a13,c19,a14,c20,a15,c21⟩ w5 ⟨c22,hI,h⟩
 dsimp only at hI h ⊢
 rcases fuel1 with _ | fuel1
 ·rw[kn]at h;cases h
 rw[kn]at h
 refine T ?_
 refine bO (α:=Int×aa×(Option Addr)×Nat) (λ_=>⟨43,[]⟩) (λx=>[(0,vp b1 0),(1,(Value.func (.func K_) #[vp b1 0] #[])),(2,vs a2 signs1.length c2),(3,vs a3 ops1.length c3),(8,vp b2 0),(9,vp b3 0),(10,vi (x.1))]) (λx=>λw=>∃ C,Bun C0 F w0 C w [MO.box b1 67 (ac (x.2.1) (x.2.2.1) (x.2.2.2)),MO.box b2 39 mD,MO.box b3 39 (aA e1 a13 c19 a14 c20 a15 c21)] [Cl.sl ag (x.2.2.1) (x.2.2.2) (x.2.1).l,Cl.sl be a2 c2 signs1,Cl.sl (nz .i64) a3 c3 ops1,Cl.sl ai a13 c19 e1.Lin.L,Cl.sl al a14 c20 e1.Idx,Cl.sl an a15 c21 e1.Args,au]∧yS e1 nx (kn signs1 ops1 nx fuel1) (x.1) (x.2.1)=some r) ?_ ?_
 ·clear h hI;rintro⟨op1,r4,a16,c23⟩ w6 ⟨c24,hI,h⟩
  try dsimp only at hI h ⊢
  rw[yS]at h
  refine aj (T ?_)
  refine TC (λhb h=>?_) λhb h=>?_
  ·refine T ?_
   refine lA λc25 w7 hI=>?_
   refine nk (aO ?_)
   obtain rfl:=ak h
   exact gR (vs:=[(Value.agg (aA e1 a13 c19 a14 c20 a15 c21))]) Tryz.results74 ⟨⟨_,aT rfl rfl,jI (l:=(ba e1 a13 c19 a14 c20 a15 c21)) jZ rfl aJ (Q5 (hI.blk .p1) rfl)⟩,af⟩ (.inl ⟨_,rfl,a13,c19,a14,c20,a15,c21,a16,c23,_,rfl,hI.arr (.c .z .n) ⟨.p3,.p4,.p5,.z,af⟩⟩)
  refine T ?_
  rcases en h with⟨⟨r5,s2⟩,hx2,h⟩ | ⟨pa_,pn_,hx2,hp_⟩
  rotate_left
  ·subst hp_
   refine aL [3,6] false (.c (0,.q) (.c (2,.q) (.two 1 (.c (3,.s) cB) 3 (.c (1,.s) cB)))) hI (by kernel_rfl) (by kernel_rfl) ?_
   intro w12 hI
   refine V ?_
   refine gG ?_ ?_
   ·skip
    refine dz rfl gn rfl (am (l:=(ba e1 a13 c19 a14 c20 a15 c21)) rfl et jZ rfl aJ (Q5 (hI.blk .p2) rfl)) Q7 ?_
    refine gQ (F:=F) (C:=c24) rfl rfl ?_
    obtain⟨c26,f2,hB,hl2,hk2⟩:=hI.hands (.l (.r (.r .n)))
    refine eO rfl gn rfl (tA (fs:=[vp b1 0]) (vs:=[]) (cap:=[]) rfl et okK trivial) (Calls.mono (hnx HS hx2) ?_)
    intro e_ w_ hq_;obtain⟨rfl,C_,hB_⟩:=cz hq_;obtain⟨C9_,-,hI_⟩:=hk2 _ _ _ _ hB_;exact .inr ⟨_,rfl,fB (.inr ⟨_,_,rfl,rfl,_,hI_.arr .n trivial⟩)⟩
   refine dC (F:=F) (C:=c24) rfl rfl ?_
   obtain⟨c26,f2,hB,hl2,hk2⟩:=hI.hands (.l (.r (.r .n)))
   refine eO rfl gn rfl (tA (fs:=[vp b1 0]) (vs:=[]) (cap:=[]) rfl et okK trivial) (Calls.mono (hnx HS hx2) ?_)
   intro e_ w_ hq_;obtain⟨rfl,C_,hB_⟩:=cz hq_;obtain⟨C9_,-,hI_⟩:=hk2 _ _ _ _ hB_;exact .inr ⟨_,rfl,fB (.inr ⟨_,_,rfl,rfl,_,hI_.arr .n trivial⟩)⟩
  try dsimp only at h
  refine aL [3,6] false (.c (0,.q) (.c (2,.q) (.two 1 (.c (3,.s) cB) 3 (.c (1,.s) cB)))) hI (by kernel_rfl) (by kernel_rfl) ?_
  intro w13 hI
  refine fU (α:=(Option Addr)×Nat×(Option Addr)×Nat×(Option Addr)×Nat×(Option Addr)×Nat×NP) (T:=cB) (λx=>[(0,vp b1 0),(1,(Value.func (.func K_) #[vp b1 0] #[])),(2,vs a2 signs1.length c2),(3,vs a3 ops1.length c3),(8,vp b2 0),(9,vp b3 0),(37,vi op1),(38,(Value.agg (aA e1 a13 c19 a14 c20 a15 c21))),(40,(Value.agg (aA r5 (x.1) (x.2.1) (x.2.2.1) (x.2.2.2.1) (x.2.2.2.2.1) (x.2.2.2.2.2.1))))]) (λx w=>Bun C0 F w0 (x.2.2.2.2.2.2.2.2) w [MO.box b1 67 (ac s2 (x.2.2.2.2.2.2.1) (x.2.2.2.2.2.2.2.1)),MO.box b2 39 mD,MO.box b3 39 (aA e1 a13 c19 a14 c20 a15 c21)] [Cl.sl ai (x.1) (x.2.1) r5.Lin.L,Cl.sl al (x.2.2.1) (x.2.2.2.1) r5.Idx,Cl.sl an (x.2.2.2.2.1) (x.2.2.2.2.2.1) r5.Args,Cl.sl ag (x.2.2.2.2.2.2.1) (x.2.2.2.2.2.2.2.1) s2.l,Cl.sl ag a16 c23 r4.l,Cl.sl be a2 c2 signs1,Cl.sl (nz .i64) a3 c3 ops1,Cl.sl ai a13 c19 e1.Lin.L,Cl.sl al a14 c20 e1.Idx,Cl.sl an a15 c21 e1.Args,au]) (λx w=>SN [] (DM true F (x.2.2.2.2.2.2.2.2)) w) ?_ ?_
  ·clear hI;rintro⟨a17,c27,a18,c28,a19,c29,a20,c30,c35⟩ w11 hI
   try dsimp only at hI ⊢
   unfold cB
   refine vl hI an ([e1,r5]:List ae) oW (.cs (kE ⟨a13,c19,a14,c20,a15,c21,rfl,hI.get .p7,hI.get .p8,hI.get .p9⟩) (.cs (kE ⟨a17,c27,a18,c28,a19,c29,rfl,hI.get .z,hI.get .p1,hI.get .p2⟩) .nl)) λb4 c33 w9 hI=>?_
   refine iq rfl gn rfl (λw'=>(aK (vs:=[(0,vi op1),(6,vs (some ⟨b4,0,none⟩) ([e1,r5]:List ae).length 2)]) (cs:=#[vi op1,(str []),vi 0,vi 0,vi 0,vi 0,vi 0,vi 0,vi 0,vi 0,vs none 0 0,vs none 0 0,vs (some ⟨b4,0,none⟩) ([e1,r5]:List ae).length 2]) rfl ⟨rfl,et,rfl,et,af⟩ (by kernel_rfl))) ?_
   refine vA λc34 w10 hI=>?_
   refine pp ?_
   have hI:=hI.add (c:=Cl.sl ai none 0 ([]:List bv)) SlC.nil
   have hI:=hI.add (c:=Cl.sl al none 0 ([]:List aM)) SlC.nil
   obtain⟨c36,hI⟩:=hI.release .z
   exact qo (fuel1,s2,(⟨op1,[],⟨0,0⟩,⟨0,0,0,0,0⟩,⟨0,[]⟩,[],[e1,r5]⟩:ae),a20,c30,none,0,none,0,some ⟨b4,0,none⟩,2) ⟨rfl,rfl,rfl,rfl,rfl,rfl,af⟩ ⟨_,hI.arr (.c .z (.c .z (.c .z .n))) ⟨.p6,.p2,.p1,.z,.p8,.p9,(.s (.s (.s (.s .p9)))),af⟩,h⟩ (Nat.lt_succ_self _)
  intro hk_tr_parser_reader_chain_w5_3_0
  refine V ?_
  refine gG ?_ ?_
  ·skip
   refine dz rfl gn rfl (am (l:=(ba e1 a13 c19 a14 c20 a15 c21)) rfl et jZ rfl aJ (Q5 (hI.blk .p2) rfl)) Q7 ?_
   refine gQ (F:=F) (C:=c24) rfl rfl ?_
   obtain⟨c26,f2,hB,hl2,hk2⟩:=hI.hands (.l (.r (.r .n)))
   refine eN rfl gn rfl (tA (fs:=[vp b1 0]) (vs:=[]) (cap:=[]) rfl et okK trivial) (Calls.mono (hnx HS hx2) ?_)
   intro e_ w8 hq_;obtain⟨a17,c27,a18,c28,a19,c29,a20,c30,c31,rfl,hB2⟩:=cy hq_
   obtain⟨c32,hs2,hI⟩:=hk2 _ _ _ _ hB2
   dsimp only[ca,na]at hI
   refine⟨_,rfl,DM true F c32,hs2,?_⟩
   exact cn (hk_tr_parser_reader_chain_w5_3_0 (a17,c27,a18,c28,a19,c29,a20,c30,c32) _ (hI.arr (.c .z (.c .z (.c .z .n))) ⟨.z,.p1,.p2,.p3,.p4,.p5,.p6,.p7,.p8,.p9,(.s .p9),af⟩)) ⟨rfl,rfl,rfl,rfl,rfl,rfl,rfl,rfl,rfl,af⟩
  refine dC (F:=F) (C:=c24) rfl rfl ?_
  obtain⟨c26,f2,hB,hl2,hk2⟩:=hI.hands (.l (.r (.r .n)))
  refine eN rfl gn rfl (tA (fs:=[vp b1 0]) (vs:=[]) (cap:=[]) rfl et okK trivial) (Calls.mono (hnx HS hx2) ?_)
  intro e_ w8 hq_;obtain⟨a17,c27,a18,c28,a19,c29,a20,c30,c31,rfl,hB2⟩:=cy hq_
  obtain⟨c32,hs2,hI⟩:=hk2 _ _ _ _ hB2
  dsimp only[ca,na]at hI
  refine⟨_,rfl,DM true F c32,hs2,?_⟩
  refine dz rfl gn rfl (am (l:=(ba e1 a13 c19 a14 c20 a15 c21)) rfl et jZ rfl aJ (Q5 (hI.blk .p2) rfl)) Q7 ?_
  exact cn (hk_tr_parser_reader_chain_w5_3_0 (a17,c27,a18,c28,a19,c29,a20,c30,c32) _ (hI.arr (.c .z (.c .z (.c .z .n))) ⟨.z,.p1,.p2,.p3,.p4,.p5,.p6,.p7,.p8,.p9,(.s .p9),af⟩)) ⟨rfl,rfl,rfl,rfl,rfl,rfl,rfl,rfl,rfl,af⟩
 refine T ?_
 refine bk (α:=Nat×Int×Int×aa×(Option Addr)×Nat) (λx=>λw=>∃ C,Bun C0 F w0 C w [MO.box b1 67 (ac (x.2.2.2.1) (x.2.2.2.2.1) (x.2.2.2.2.2)),MO.box b2 39 mD,MO.box b3 39 (aA e1 a13 c19 a14 c20 a15 c21)] [Cl.sl ag (x.2.2.2.2.1) (x.2.2.2.2.2) (x.2.2.2.1).l,Cl.sl be a2 c2 signs1,Cl.sl (nz .i64) a3 c3 ops1,Cl.sl ai a13 c19 e1.Lin.L,Cl.sl al a14 c20 e1.Idx,Cl.sl an a15 c21 e1.Args,au]∧ld signs1 ops1 e1 nx (kn signs1 ops1 nx fuel1) (x.1) (x.2.1) (x.2.2.1) (x.2.2.2.1)=some r) (λx _=>x.1) (λx=>[(0,vp b1 0),(1,(Value.func (.func K_) #[vp b1 0] #[])),(2,vs a2 signs1.length c2),(3,vs a3 ops1.length c3),(8,vp b2 0),(9,vp b3 0),(10,vi (x.2.1)),(15,vs a2 signs1.length c2),(16,vi (signs1.length:Int)),(17,vi (x.2.2.1))]) (fu,0,0,r3,a12,c18) ⟨_,hI.arr (.c .z (.c .z (.c .z .n))) ⟨.z,.p4,.p5,.p1,.p2,.p3,.p6,af⟩,h⟩ ⟨rfl,rfl,rfl,rfl,rfl,rfl,rfl,rfl,rfl,rfl,af⟩ ?_
 clear h hI;rintro⟨fuel2,op2,i1,r6,a21,c37⟩ w14 ⟨c38,hI,h⟩
 dsimp only at hI h ⊢
 rcases fuel2 with _ | fuel2
 ·rw[ld]at h;cases h
 rw[ld]at h
 refine T ?_
 refine aj (E7 h et (λhb h=>?_) (λhb h=>?_))
 ·refine T ?_
  refine bO (α:=Int×aa×(Option Addr)×Nat) (λ_=>⟨43,[]⟩) (λx=>[(0,vp b1 0),(1,(Value.func (.func K_) #[vp b1 0] #[])),(2,vs a2 signs1.length c2),(3,vs a3 ops1.length c3),(8,vp b2 0),(9,vp b3 0),(10,vi (x.1)),(15,vs a2 signs1.length c2),(16,vi (signs1.length:Int)),(17,vi i1)]) (λx=>λw=>∃ C,Bun C0 F w0 C w [MO.box b1 67 (ac (x.2.1) (x.2.2.1) (x.2.2.2)),MO.box b2 39 mD,MO.box b3 39 (aA e1 a13 c19 a14 c20 a15 c21)] [Cl.sl ag (x.2.2.1) (x.2.2.2) (x.2.1).l,Cl.sl be a2 c2 signs1,Cl.sl (nz .i64) a3 c3 ops1,Cl.sl ai a13 c19 e1.Lin.L,Cl.sl al a14 c20 e1.Idx,Cl.sl an a15 c21 e1.Args,au]∧wh (ld signs1 ops1 e1 nx (kn signs1 ops1 nx fuel1) fuel2) i1 (x.1) (x.2.1)=some r) ?_ ?_
  ·clear h hI;rintro⟨op3,r7,a22,c39⟩ w15 ⟨c40,hI,h⟩
   try dsimp only at hI h ⊢
   rw[wh]at h
   refine T ?_
   refine aG ?_
   exact qo (fuel2,op3,av (i1+1),r7,a22,c39) ⟨rfl,rfl,rfl,rfl,rfl,rfl,rfl,rfl,rfl,rfl,af⟩ ⟨_,hI.arr (.c .z (.c .z (.c .z .n))) ⟨.z,.p1,.p2,.p3,.p4,.p5,.p6,af⟩,h⟩ (Nat.lt_succ_self _)
  refine T ?_
  obtain⟨e2,hx3,h⟩:=ab h
  obtain⟨ad1,cs1,hA1,hr1,hq1⟩:=hI.clat .p1 hx3
  obtain rfl:cs1=[(str e2)]:=hr1
  refine sI ?_
  refine T ?_
  obtain⟨c41,f3,hB,hl3,hk3⟩:=hI.hands (.l (.r (.r .n)))
  obtain⟨⟨r8,s3⟩,hx4,h⟩:=ab h
  try dsimp only at h
  refine BT (λv_ w_=>v_=(vb r8)∧∃ (a23:Option Addr),∃ (c42:Nat),∃ C_:NP,Bun c41 f3 w14 C_ w_ [MO.box b1 67 (ac s3 a23 c42)] [Cl.sl ag a23 c42 s3.l]) (bg rfl rfl rfl rfl) rfl (λhc=>(ar (vs:=[vp b1 0,(str e2)]) rfl Qc ⟨(aI et hc),(aI et hc),af⟩)) (λhc=>(aQ HS (Qv hc hx4)).mono λe_ w_ hq_=>(let ⟨a23,c42,C_,he_,hB_⟩:=hq_;⟨_,he_,rfl,a23,c42,C_,hB_⟩)) ?_
  intro v_ w16 h1_ h2_
  obtain⟨hv_,a23,c42,c43,hB2⟩:gv (decide (op2=0)) v_=gv (decide (op2=0)) (vb r8)∧∃ (a23:Option Addr),∃ (c42:Nat),∃ C_:NP,Bun c41 f3 w14 C_ w16 [MO.box b1 67 (ac s3 a23 c42)] [Cl.sl ag a23 c42 s3.l]:=by
   rcases Bool.eq_false_or_eq_true (decide (op2=0))with hc | hc
   ·obtain⟨rfl,hq_⟩:=h1_ hc;exact⟨rfl,hq_⟩
   have e1_:=h2_ hc;subst e1_;obtain⟨rfl,rfl⟩:=Qw hc hx4;exact⟨by rw[J0 hc,J0 hc],a21,c37,_,hB.subs ⟨.z,af⟩⟩
  rw[hv_];clear h1_ h2_
  refine HN hk3 hB2 λc44 hI=>?_
  refine TC (λhb h=>?_) λhb h=>?_
  ·refine T ?_
   obtain⟨e3,hx5,h⟩:=ab h
   obtain⟨ad2,cs2,hA2,hr2,hq2⟩:=hI.clat .p3 hx5
   obtain rfl:cs2=[vi e3]:=hr2
   refine sI ?_
   refine T ?_
   refine aG ?_
   exact bI (e3,s3,a23,c42) ⟨rfl,rfl,rfl,rfl,rfl,rfl,rfl,rfl,rfl,rfl,af⟩ ⟨_,hI.arr (.c .z (.c .z (.c .z .n))) ⟨.z,.p2,.p3,.p4,.p5,.p6,.p7,af⟩,h⟩ rfl
  exact aZ (bI (op2,s3,a23,c42) ⟨rfl,rfl,rfl,rfl,rfl,rfl,rfl,rfl,rfl,rfl,af⟩ ⟨_,hI.arr (.c .z (.c .z (.c .z .n))) ⟨.z,.p2,.p3,.p4,.p5,.p6,.p7,af⟩,h⟩ rfl)
 refine bl ?_
 refine eZ ?_
 exact bI (op2,r6,a21,c37) ⟨rfl,rfl,rfl,rfl,rfl,rfl,rfl,af⟩ ⟨_,hI.arr (.c .z (.c .z (.c .z .n))) ⟨.z,.p1,.p2,.p3,.p4,.p5,.p6,af⟩,h⟩ rfl
theorem rg {rec_:(aa→Option (bZ (ae×aa)))} (hrec:BB rec_) {r1:aa} {signs1:List (List UInt8)} {ops1:List Int} (hI:Bun C0 F w0 C0 w0 [MO.box b1 67 (ac r1 a1 c1)] [Cl.sl ag a1 c1 r1.l,Cl.sl be a2 c2 signs1,Cl.sl (nz .i64) a3 c3 ops1,au]) {r:bZ (ae×aa)} (h:jU rec_ r1 signs1 ops1=some r):CP C0 F w0 74 #[vp b1 0,(Value.func (.func 242) #[vp b1 0] #[]),vs a2 signs1.length c2,vs a3 ops1.length c3] r λrx e w=>∃ a4 c4 a5 c5 a6 c6 a7 c7 C,e= .returned (Value.agg (aA rx.1 a4 c4 a5 c5 a6 c6))∧Bun C0 F w0 C w [MO.box b1 67 (ac rx.2 a7 c7)] [Cl.sl ai a4 c4 rx.1.Lin.L,Cl.sl al a5 c5 rx.1.Idx,Cl.sl an a6 c6 rx.1.Args,Cl.sl ag a7 c7 rx.2.l]:=EO (rI hrec) NW hI h
theorem qK {rec_:(aa→Option (bZ (ae×aa)))} (hrec:BB rec_):KO 227 (ck rec_):=by
 intro C0 F w0 r1 b1 c1 a1 hI r h
 refine fa (l:=[vp b1 0]) Tryz.func227 rfl Tryz.ntmps227 rfl ?_
 rw[ck]at h
 refine sr (cY (cs:=mD) hI gn rfl rfl fW rfl ?_)
 intro b2 c6 w1 hI
 refine T ?_
 refine sq (oZ (vs:=[vp b1 0]) rfl rfl ⟨et,af⟩) ?_
 refine ll hI be ([[42],[47]]:List (List UInt8)) lw Rr λb3 c7 w2 hI=>?_
 refine ll hI (nz .i64) ([6,7]:List Int) zb Rr λb4 c8 w3 hI=>?_
 obtain⟨c9,hI⟩:=hI.release .p1
 obtain⟨c10,hI⟩:=hI.release .z
 obtain⟨c11,f1,hB,hl1,hk1⟩:=hI.hands (.r (.l .n))
 refine dh h (λ_ hx1=>rg hrec HS hx1) (jL hk1) (Rc Tryz.func74) ?_
 rintro⟨r2,s1⟩ hx1 h _ w4 ⟨a6,c12,a7,c13,a8,c14,a9,c15,c16,rfl,hB2⟩
 try dsimp only at h
 refine HN hk1 hB2 λc17 hI=>?_
 refine⟨_,rfl,?_⟩
 refine lA λc18 w5 hI=>?_
 refine nk (aO ?_)
 obtain rfl:=ak h
 refine QG ?_
 exact .inl ⟨_,rfl,a6,c12,a7,c13,a8,c14,a9,c15,_,rfl,hI.arr GO SU⟩
theorem rh {rec_:(aa→Option (bZ (ae×aa)))} (hrec:BB rec_) {r1:aa} {signs1:List (List UInt8)} {ops1:List Int} (hI:Bun C0 F w0 C0 w0 [MO.box b1 67 (ac r1 a1 c1)] [Cl.sl ag a1 c1 r1.l,Cl.sl be a2 c2 signs1,Cl.sl (nz .i64) a3 c3 ops1,au]) {r:bZ (ae×aa)} (h:jV rec_ r1 signs1 ops1=some r):CP C0 F w0 74 #[vp b1 0,(Value.func (.func 227) #[vp b1 0] #[]),vs a2 signs1.length c2,vs a3 ops1.length c3] r λrx e w=>∃ a4 c4 a5 c5 a6 c6 a7 c7 C,e= .returned (Value.agg (aA rx.1 a4 c4 a5 c5 a6 c6))∧Bun C0 F w0 C w [MO.box b1 67 (ac rx.2 a7 c7)] [Cl.sl ai a4 c4 rx.1.Lin.L,Cl.sl al a5 c5 rx.1.Idx,Cl.sl an a6 c6 rx.1.Args,Cl.sl ag a7 c7 rx.2.l]:=EO (qK hrec) N3 hI h
theorem tf {rec_:(aa→Option (bZ (ae×aa)))} (hrec:BB rec_):KO 193 (dx rec_):=by
 intro C0 F w0 r1 b1 c1 a1 hI r h
 refine fa (l:=[vp b1 0]) Tryz.func193 rfl Tryz.ntmps193 rfl ?_
 rw[dx]at h
 refine sr (cY (cs:=mD) hI gn rfl rfl fW rfl ?_)
 intro b2 c6 w1 hI
 refine T ?_
 refine sq (oZ (vs:=[vp b1 0]) rfl rfl ⟨et,af⟩) ?_
 refine ll hI be ([[43],[45]]:List (List UInt8)) lw Rr λb3 c7 w2 hI=>?_
 refine ll hI (nz .i64) ([4,5]:List Int) zb Rr λb4 c8 w3 hI=>?_
 obtain⟨c9,hI⟩:=hI.release .p1
 obtain⟨c10,hI⟩:=hI.release .z
 obtain⟨c11,f1,hB,hl1,hk1⟩:=hI.hands (.r (.l .n))
 refine dh h (λ_ hx1=>rh hrec HS hx1) (jL hk1) (Rc Tryz.func74) ?_
 rintro⟨r2,s1⟩ hx1 h _ w4 ⟨a6,c12,a7,c13,a8,c14,a9,c15,c16,rfl,hB2⟩
 try dsimp only at h
 refine HN hk1 hB2 λc17 hI=>?_
 refine⟨_,rfl,?_⟩
 refine lA λc18 w5 hI=>?_
 refine nk (aO ?_)
 obtain rfl:=ak h
 refine QG ?_
 exact .inl ⟨_,rfl,a6,c12,a7,c13,a8,c14,a9,c15,_,rfl,hI.arr GO SU⟩
theorem ri {rec_:(aa→Option (bZ (ae×aa)))} (hrec:BB rec_) {r1:aa} {signs1:List (List UInt8)} {ops1:List Int} (hI:Bun C0 F w0 C0 w0 [MO.box b1 67 (ac r1 a1 c1)] [Cl.sl ag a1 c1 r1.l,Cl.sl be a2 c2 signs1,Cl.sl (nz .i64) a3 c3 ops1,au]) {r:bZ (ae×aa)} (h:fN rec_ r1 signs1 ops1=some r):CP C0 F w0 74 #[vp b1 0,(Value.func (.func 193) #[vp b1 0] #[]),vs a2 signs1.length c2,vs a3 ops1.length c3] r λrx e w=>∃ a4 c4 a5 c5 a6 c6 a7 c7 C,e= .returned (Value.agg (aA rx.1 a4 c4 a5 c5 a6 c6))∧Bun C0 F w0 C w [MO.box b1 67 (ac rx.2 a7 c7)] [Cl.sl ai a4 c4 rx.1.Lin.L,Cl.sl al a5 c5 rx.1.Idx,Cl.sl an a6 c6 rx.1.Args,Cl.sl ag a7 c7 rx.2.l]:=EO (tf hrec) Oh hI h
abbrev Qs6 (f_:(aa→Option (bZ (ae×aa)))):Prop:=KO 140 f_
theorem rK {rec_:(aa→Option (bZ (ae×aa)))} (hrec:BB rec_) {recs_:(aa→Option (bZ (ae×aa)))} (hrecs_:Qs6 recs_) {r1:aa} (hI:Bun C0 F w0 C0 w0 [MO.box b1 67 (ac r1 a1 c1)] [Cl.sl ag a1 c1 r1.l,au]) {r:bZ (ae×aa)} (h:dK rec_ recs_ r1=some r):CP C0 F w0 140 #[vp b1 0] r λrx e w=>∃ a2 c2 a3 c3 a4 c4 a5 c5 C,e= .returned (Value.agg (aA rx.1 a2 c2 a3 c3 a4 c4))∧Bun C0 F w0 C w [MO.box b1 67 (ac rx.2 a5 c5)] [Cl.sl ai a2 c2 rx.1.Lin.L,Cl.sl al a3 c3 rx.1.Idx,Cl.sl an a4 c4 rx.1.Args,Cl.sl ag a5 c5 rx.2.l]:=by
 refine fa (l:=[vp b1 0]) Tryz.func140 rfl Tryz.ntmps140 rfl ?_
 rw[dK]at h
 refine sr (cY (cs:=mD) hI gn rfl rfl fW rfl ?_)
 intro b2 c6 w1 hI
 refine nk (aj (T ?_))
 refine sB h (λ_ k=>bG NE ⟨(hI.get0 .z),hI.lendBox .p1,af⟩ k) (Rc Tryz.func121) λr2 w2 h hI=>?_
 refine TC (λhb h=>?_) λhb h=>?_
 ·refine T ?_
  refine sq (oZ (vs:=[vp b1 0]) rfl rfl ⟨et,af⟩) ?_
  refine ll hI be ([[60],[60,61],[61,61]]:List (List UInt8)) lw Rr λb3 c7 w3 hI=>?_
  refine ll hI (nz .i64) ([13,14,15]:List Int) zb Rr λb4 c8 w4 hI=>?_
  obtain⟨c9,hI⟩:=hI.release .p1
  obtain⟨c10,hI⟩:=hI.release .z
  obtain⟨c11,f1,hB,hl2,hk1⟩:=hI.hands (.r (.l .n))
  refine dh h (λ_ hx3=>ri hrec HS hx3) (jL hk1) (Rc Tryz.func74) ?_
  rintro⟨r3,s1⟩ hx3 h _ w5 ⟨a6,c12,a7,c13,a8,c14,a9,c15,c16,rfl,hB2⟩
  try dsimp only at h
  refine HN hk1 hB2 λc17 hI=>?_
  refine⟨_,rfl,?_⟩
  refine lA λc18 w6 hI=>?_
  refine nk (aO ?_)
  obtain rfl:=ak h
  refine QG ?_
  exact .inl ⟨_,rfl,a6,c12,a7,c13,a8,c14,a9,c15,_,rfl,hI.arr GO SU⟩
 refine T ?_
 obtain⟨c19,f2,hB,hl3,hk2⟩:=hI.hands (.r (.l .n))
 refine dh h (λ_ hx4=>iB HS hx4) (jL hk2) (Rc Tryz.func194) ?_
 rintro⟨r4,s2⟩ hx4 h _ w7 ⟨a10,c20,c21,rfl,hB2⟩
 try dsimp only at h
 refine HN hk2 hB2 λc22 hI=>?_
 refine⟨_,rfl,?_⟩
 refine T ?_
 obtain⟨c23,f3,hB,hl4,hk3⟩:=hI.hands (.l (.r .n))
 refine dh h (λ_ hx5=>hrecs_ HS hx5) (jL hk3) (Rc Tryz.func140) ?_
 rintro⟨r5,s3⟩ hx5 h _ w8 ⟨a11,c24,a12,c25,a13,c26,a14,c27,c28,rfl,hB2⟩
 try dsimp only at h
 refine HN hk3 hB2 λc29 hI=>?_
 refine⟨_,rfl,?_⟩
 refine ll hI an ([r5]:List ae) oW (.cs (kE ⟨a11,c24,a12,c25,a13,c26,rfl,hI.get .z,hI.get .p1,hI.get .p2⟩) .nl) λb5 c30 w9 hI=>?_
 refine sq (aK (vs:=[(0,vi 18),(6,vs (some ⟨b5,0,none⟩) ([r5]:List ae).length 1)]) (cs:=#[vi 18,(str []),vi 0,vi 0,vi 0,vi 0,vi 0,vi 0,vi 0,vi 0,vs none 0 0,vs none 0 0,vs (some ⟨b5,0,none⟩) ([r5]:List ae).length 1]) rfl ⟨rfl,ah,rfl,et,af⟩ (by kernel_rfl)) ?_
 refine lN λb6 c31 w10 hI=>?_
 refine lA λc32 w11 hI=>?_
 refine T ?_
 refine lS λc33 w12 hI=>?_
 refine T ?_
 refine lA λc34 w13 hI=>?_
 refine nk (aO ?_)
 obtain⟨c35,hI⟩:=hI.release .p1
 have hI:=hI.add (c:=Cl.sl ai none 0 ([]:List bv)) SlC.nil
 have hI:=hI.add (c:=Cl.sl al none 0 ([]:List aM)) SlC.nil
 obtain rfl:=ak h
 refine QG ?_
 exact .inl ⟨_,rfl,none,0,none,0,some ⟨b5,0,none⟩,1,a14,c27,_,rfl,hI.arr GO SU⟩
theorem rJ {rec_:(aa→Option (bZ (ae×aa)))} (hrec:BB rec_) (n:Nat):Qs6 (dJ rec_ n):=by
 induction n with
 | zero=>intro F;intros;rename_i h;cases h
 | succ n ih=>intro F;intros;apply rK hrec ih<;>assumption
theorem tg {rec_:(aa→Option (bZ (ae×aa)))} (hrec:BB rec_):Qs6 (gS rec_):=rJ hrec fu
theorem rj {rec_:(aa→Option (bZ (ae×aa)))} (hrec:BB rec_) {r1:aa} {signs1:List (List UInt8)} {ops1:List Int} (hI:Bun C0 F w0 C0 w0 [MO.box b1 67 (ac r1 a1 c1)] [Cl.sl ag a1 c1 r1.l,Cl.sl be a2 c2 signs1,Cl.sl (nz .i64) a3 c3 ops1,au]) {r:bZ (ae×aa)} (h:jW rec_ r1 signs1 ops1=some r):CP C0 F w0 74 #[vp b1 0,(Value.func (.func 140) #[vp b1 0] #[]),vs a2 signs1.length c2,vs a3 ops1.length c3] r λrx e w=>∃ a4 c4 a5 c5 a6 c6 a7 c7 C,e= .returned (Value.agg (aA rx.1 a4 c4 a5 c5 a6 c6))∧Bun C0 F w0 C w [MO.box b1 67 (ac rx.2 a7 c7)] [Cl.sl ai a4 c4 rx.1.Lin.L,Cl.sl al a5 c5 rx.1.Idx,Cl.sl an a6 c6 rx.1.Args,Cl.sl ag a7 c7 rx.2.l]:=EO (tg hrec) Ov hI h
end Go.Proofs.YtmhoikfoogemnaaGreatDoor
