import Derived.Test.YtmhoikfoogemnaaGreatDoorMCQ5c
import Derived.Test.YtmhoikfoogemnaaGreatDoorMLfW
namespace Go.Proofs.YtmhoikfoogemnaaGreatDoor
open Go Go.RowKit Go.Vc
set_option maxRecDepth 100000
set_option maxHeartbeats 4000000
set_option linter.unusedVariables false
set_option linter.unusedSimpArgs false
def cZ:Tr:=(.c (5,.s) (.c (6,.q) (.c (7,.s) .n)))
def ce:Tr:=(.c (4,.s) cZ)
theorem nQ (rec_:(aa→Option (bk (GExpr×aa)))) (hrec:∀ (C0 F:NP) (w0:World) (r1:aa) (b1:Nat) (a1:Option Addr) (c1:Nat) (hI:Bun C0 F w0 C0 w0 [MO.box b1 67 (ab r1 a1 c1)] [Cl.sl ah a1 c1 r1.l,aA]) (r:bk (GExpr×aa)) (h:rec_ r1=some r),Calls Tryz.prog 34 #[vp b1 0] w0 fun e w=>(∃ rx:GExpr×aa,r= .ret rx∧∃ (a2:Option Addr) (c2:Nat) (a3:Option Addr) (c3:Nat) (a4:Option Addr) (c4:Nat) (a5:Option Addr) (c5:Nat) (C:NP),e= .returned (Value.agg (am rx.1 a2 c2 a3 c3 a4 c4))∧Bun C0 F w0 C w [MO.box b1 67 (ab rx.2 a5 c5)] [Cl.sl aj a2 c2 rx.1.Lin.L,Cl.sl ak a3 c3 rx.1.Idx,Cl.sl au a4 c4 rx.1.Args,Cl.sl ah a5 c5 rx.2.l])∨∃ (pa pn:Int),r= .pan pa pn∧e= .panicked [pe 114 pa pn]∧∃ C:NP,Bun C0 F w0 C w [] []) (C0 F:NP) (w0:World) (r1:aa) (b1:Nat) (a1:Option Addr) (c1:Nat) (hI:Bun C0 F w0 C0 w0 [MO.box b1 67 (ab r1 a1 c1)] [Cl.sl ah a1 c1 r1.l,aA]) (r:bk (GExpr×aa))
  (h:dl rec_ r1=some r):
  Calls Tryz.prog 248 #[vp b1 0] w0 fun e w=>(∃ rx:GExpr×aa,r= .ret rx∧∃ (a2:Option Addr) (c2:Nat) (a3:Option Addr) (c3:Nat) (a4:Option Addr) (c4:Nat) (a5:Option Addr) (c5:Nat) (C:NP),e= .returned (Value.agg (am rx.1 a2 c2 a3 c3 a4 c4))∧Bun C0 F w0 C w [MO.box b1 67 (ab rx.2 a5 c5)] [Cl.sl aj a2 c2 rx.1.Lin.L,Cl.sl ak a3 c3 rx.1.Idx,Cl.sl au a4 c4 rx.1.Args,Cl.sl ah a5 c5 rx.2.l])∨∃ (pa pn:Int),r= .pan pa pn∧e= .panicked [pe 114 pa pn]∧∃ C:NP,Bun C0 F w0 C w [] []:=by
 refine fj (l:=[vp b1 0]) Tryz.func248 rfl Tryz.ntmps248 rfl ?_
 rw[dl]at h
 refine sr (aN (cs:=#[vi 0,(aC ([]:List UInt8)),vi 0,vi 0,vi 0,vi 0,vi 0,vi 0,vi 0,vi 0,vs none 0 0,vs none 0 0,vs none 0 0]) hI gn rfl rfl bA rfl ?_)
 clear hI;intro b2 c6 w1 hI
 refine nk (aB (T ?_))
 obtain⟨r2,hx1,h⟩:=af h
 refine aE gn rfl (ag (vs:=[vp b1 0,vi 3,(aC ([40]:List UInt8))]) rfl oQ ⟨et,⟨ai,⟨ai,trivial⟩⟩⟩) (Calls.mono (dt d5 w1 (fun _ k=>k.elim) r1 3 ([40]:List UInt8) b1 a1 c1 ⟨(hI.get0 .z),hI.lendBox (.s .z),trivial⟩ r2 hx1) ?_)
 rintro _ w2 ⟨rfl,hx2,hl1⟩
 refine⟨_,rfl,?_⟩
 replace hI:=(hI.ext hx2)
 refine T ?_
 refine bc h et (fun hb h=> ?_) (fun hb h=> ?_)
 ·refine T ?_
  obtain⟨c7,f1,hB,hl2,hk1⟩:=hI.hands (.r (.l .n))
  refine dY h (fun _ hx3=>j3 c7 f1 w2 r1 b1 a1 c1 (hB.subs ⟨.z,trivial⟩) _ hx3) (ky hk1) (ag rfl zu ⟨et,trivial⟩) ?_
  rintro⟨r3,s1⟩ hx3 h _ w3 ⟨a6,c8,c9,rfl,hB2⟩
  try dsimp only at h
  obtain⟨c10,hs1,hI⟩:=hk1 _ _ _ _ hB2
  dsimp only[ca,na]at hI
  refine⟨_,rfl,?_⟩
  refine T ?_
  obtain⟨c11,f2,hB,hl3,hk2⟩:=hI.hands (.l (.r .n))
  refine dY h (fun _ hx4=>hrec c11 f2 w3 s1 b1 a6 c8 (hB.subs ⟨.z,(.s (.s .z)),trivial⟩) _ hx4) (ky hk2) (ag rfl nS ⟨et,trivial⟩) ?_
  rintro⟨r4,s2⟩ hx4 h _ w4 ⟨a7,c12,a8,c13,a9,c14,a10,c15,c16,rfl,hB2⟩
  try dsimp only at h
  obtain⟨c17,hs2,hI⟩:=hk2 _ _ _ _ hB2
  dsimp only[ca,na]at hI
  refine⟨_,rfl,?_⟩
  refine aN (cs:=#[vi 0,(aC ([]:List UInt8)),vi 0,vi 0,vi 0,vi 0,vi 0,vi 0,vi 0,vi 0,vs none 0 0,vs none 0 0,vs none 0 0]) hI gn rfl rfl bA rfl ?_
  clear hI;intro b3 c18 w5 hI
  refine ay (new:=(aQ r4 a7 c12 a8 c13 a9 c14)) (cs':=(am r4 a7 c12 a8 c13 a9 c14)) hI .z gn rfl rfl et et rfl aF rfl rfl rfl ?_
  clear hI;intro c19 w6 hI
  refine T ?_
  obtain⟨c20,f3,hB,hl4,hk3⟩:=hI.hands (.r (.l (.r .n)))
  refine dY h (fun _ hx5=>jN c20 f3 w6 s2 b1 a10 c15 (hB.subs ⟨(.s (.s (.s .z))),trivial⟩) _ hx5) (ky hk3) (ag rfl zt ⟨et,trivial⟩) ?_
  rintro⟨r5,s3⟩ hx5 h _ w7 ⟨a11,c21,c22,rfl,hB2⟩
  try dsimp only at h
  obtain⟨c23,hs3,hI⟩:=hk3 _ _ _ _ hB2
  dsimp only[ca,na]at hI
  refine⟨_,rfl,?_⟩
  refine T ?_
  refine ay (new:=(aQ r4 a7 c12 a8 c13 a9 c14)) (cs':=(am r4 a7 c12 a8 c13 a9 c14)) hI (.s (.s .z)) gn rfl rfl et et rfl aF rfl rfl rfl ?_
  clear hI;intro c24 w8 hI
  refine nk (al ?_)
  obtain rfl:=ac h
  refine QG ?_
  exact .inl ⟨_,rfl,a7,c12,a8,c13,a9,c14,a11,c21,_,rfl,hI.arr GO SU⟩
 refine T ?_
 obtain⟨c25,f4,hB,hl5,hk4⟩:=hI.hands (.r (.l .n))
 obtain⟨⟨r6,s4⟩,hx6,h⟩:=af h
 try dsimp only at h
 refine aE gn rfl (ag (vs:=[vp b1 0,(aC ([91]:List UInt8))]) rfl mK ⟨et,⟨ai,trivial⟩⟩) (Calls.mono (aM c25 f4 w2 r1 ([91]:List UInt8) b1 a1 c1 (hB.subs ⟨.z,trivial⟩) _ hx6) ?_)
 rintro _ w9 ⟨a12,c26,c27,rfl,hB2⟩
 obtain⟨c28,hs4,hI⟩:=hk4 _ _ _ _ hB2
 dsimp only[ca,na]at hI
 refine⟨_,rfl,?_⟩
 refine T ?_
 refine bc h et (fun hb h=> ?_) (fun hb h=> ?_)
 ·refine T ?_
  obtain⟨c29,f5,hB,hl6,hk5⟩:=hI.hands (.l (.r .n))
  refine dY h (fun _ hx7=>fV c29 f5 w9 s4 b1 a12 c26 (hB.subs ⟨.z,(.s (.s .z)),trivial⟩) _ hx7) (ky hk5) (ag rfl yt ⟨et,trivial⟩) ?_
  rintro⟨r7,s5⟩ hx7 h _ w10 ⟨a13,c30,a14,c31,c32,rfl,hB2⟩
  try dsimp only at h
  obtain⟨c33,hs5,hI⟩:=hk5 _ _ _ _ hB2
  dsimp only[ca,na]at hI
  refine⟨_,rfl,?_⟩
  refine aN (cs:=#[vi 0,vs none 0 0]) hI gn rfl rfl fA rfl ?_
  clear hI;intro b4 c34 w11 hI
  refine ay (new:=(gx r7 a13 c30)) (cs':=(bI r7 a13 c30)) hI .z gn rfl rfl et et rfl aW rfl rfl rfl ?_
  clear hI;intro c35 w12 hI
  refine T ?_
  obtain⟨c36,f6,hB,hl7,hk6⟩:=hI.hands (.r (.l (.r .n)))
  refine dY h (fun _ hx8=>aR c36 f6 w12 s5 ([93]:List UInt8) b1 a14 c31 (hB.subs ⟨(.s .z),trivial⟩) _ hx8) (ky hk6) (ag rfl lC ⟨et,⟨ai,trivial⟩⟩) ?_
  rintro⟨r8,s6⟩ hx8 h _ w13 ⟨a15,c37,c38,rfl,hB2⟩
  try dsimp only at h
  obtain⟨c39,hs6,hI⟩:=hk6 _ _ _ _ hB2
  dsimp only[ca,na]at hI
  refine⟨_,rfl,?_⟩
  refine T ?_
  refine sq (aV (vs:=[(0,vi 2),(4,(Value.agg (bI r7 a13 c30)))]) (cs:=#[vi 2,(aC ([]:List UInt8)),vi 0,vi 0,vi 0,vi 0,vi 0,vi 0,vi 0,vi r7.K,vs a13 r7.L.length c30,vs none 0 0,vs none 0 0]) rfl ⟨rfl,ai,⟨rfl,et,trivial⟩⟩ (by kernel_rfl)) ?_
  refine ay (new:=[vi 2,(aC ([]:List UInt8)),vi 0,vi 0,vi 0,vi 0,vi 0,vi 0,vi 0,vi r7.K,vs a13 r7.L.length c30,vs none 0 0,vs none 0 0]) (cs':=#[vi 2,(aC ([]:List UInt8)),vi 0,vi 0,vi 0,vi 0,vi 0,vi 0,vi 0,vi r7.K,vs a13 r7.L.length c30,vs none 0 0,vs none 0 0]) hI (.s (.s .z)) gn rfl rfl et et rfl aF rfl rfl rfl ?_
  clear hI;intro c40 w14 hI
  refine nk (al ?_)
  have hI:=hI.add (c:=Cl.sl ak none 0 ([]:List GIndex)) SlC.nil
  have hI:=hI.add (c:=Cl.sl au none 0 ([]:List GExpr)) SlC.nil
  obtain rfl:=ac h
  refine QG ?_
  exact .inl ⟨_,rfl,a13,c30,none,0,none,0,a15,c37,_,rfl,hI.arr GO SU⟩
 refine aB (T ?_)
 obtain⟨r9,hx9,h⟩:=af h
 refine aE gn rfl (ag (vs:=[vp b1 0,vi 1,(aC ([102,114,97,99]:List UInt8))]) rfl oQ ⟨et,⟨ai,⟨ai,trivial⟩⟩⟩) (Calls.mono (dt d5 w9 (fun _ k=>k.elim) s4 1 ([102,114,97,99]:List UInt8) b1 a12 c26 ⟨(hI.get0 .z),hI.lendBox .z,trivial⟩ r9 hx9) ?_)
 rintro _ w15 ⟨rfl,hx10,hl8⟩
 refine⟨_,rfl,?_⟩
 replace hI:=(hI.ext hx10)
 refine T ?_
 refine bc h et (fun hb h=> ?_) (fun hb h=> ?_)
 ·have hk7:=hb
  refine T ?_
  refine q8 (b:=r9) et (fun _=> ?_) (fun hb=>absurd (hb.symm.trans hk7) (by simp))
  refine T ?_
  obtain⟨c41,f7,hB,hl9,hk8⟩:=hI.hands (.l (.r .n))
  refine dY h (fun _ hx11=>iU c41 f7 w15 s4 b1 a12 c26 (hB.subs ⟨.z,trivial⟩) _ hx11) (ky hk8) (ag rfl zr ⟨et,trivial⟩) ?_
  rintro⟨r10,s7⟩ hx11 h _ w16 ⟨a16,c42,a17,c43,a18,c44,a19,c45,c46,rfl,hB2⟩
  try dsimp only at h
  obtain⟨c47,hs7,hI⟩:=hk8 _ _ _ _ hB2
  dsimp only[ca,na]at hI
  refine⟨_,rfl,?_⟩
  refine ay (new:=(aQ r10 a16 c42 a17 c43 a18 c44)) (cs':=(am r10 a16 c42 a17 c43 a18 c44)) hI (.s .z) gn rfl rfl et et rfl aF rfl rfl rfl ?_
  clear hI;intro c48 w17 hI
  refine nk (al ?_)
  obtain rfl:=ac h
  refine QG ?_
  exact .inl ⟨_,rfl,a16,c42,a17,c43,a18,c44,a19,c45,_,rfl,hI.arr GO SU⟩
 refine T ?_
 obtain⟨r11,hx12,h⟩:=af h
 refine aE gn rfl (ag (vs:=[vp b1 0,vi 1,(aC ([105,110,116]:List UInt8))]) rfl oQ ⟨et,⟨ai,⟨ai,trivial⟩⟩⟩) (Calls.mono (dt d5 w15 (fun _ k=>k.elim) s4 1 ([105,110,116]:List UInt8) b1 a12 c26 ⟨(hI.get0 .z),hI.lendBox .z,trivial⟩ r11 hx12) ?_)
 rintro _ w18 ⟨rfl,hx13,hl10⟩
 refine⟨_,rfl,?_⟩
 replace hI:=(hI.ext hx13)
 refine T ?_
 refine bc h et (fun hb h=> ?_) (fun hb h=> ?_)
 ·have hk9:=hb
  refine T ?_
  refine q8 (b:=r11) et (fun _=> ?_) (fun hb=>absurd (hb.symm.trans hk9) (by simp))
  refine T ?_
  obtain⟨c49,f8,hB,hl11,hk10⟩:=hI.hands (.l (.r .n))
  refine dY h (fun _ hx14=>iU c49 f8 w18 s4 b1 a12 c26 (hB.subs ⟨.z,trivial⟩) _ hx14) (ky hk10) (ag rfl zr ⟨et,trivial⟩) ?_
  rintro⟨r12,s8⟩ hx14 h _ w19 ⟨a20,c50,a21,c51,a22,c52,a23,c53,c54,rfl,hB2⟩
  try dsimp only at h
  obtain⟨c55,hs8,hI⟩:=hk10 _ _ _ _ hB2
  dsimp only[ca,na]at hI
  refine⟨_,rfl,?_⟩
  refine ay (new:=(aQ r12 a20 c50 a21 c51 a22 c52)) (cs':=(am r12 a20 c50 a21 c51 a22 c52)) hI (.s .z) gn rfl rfl et et rfl aF rfl rfl rfl ?_
  clear hI;intro c56 w20 hI
  refine nk (al ?_)
  obtain rfl:=ac h
  refine QG ?_
  exact .inl ⟨_,rfl,a20,c50,a21,c51,a22,c52,a23,c53,_,rfl,hI.arr GO SU⟩
 refine T ?_
 obtain⟨r13,hx15,h⟩:=af h
 refine aE gn rfl (ag (vs:=[vp b1 0,vi 1,(aC ([102,105,120]:List UInt8))]) rfl oQ ⟨et,⟨ai,⟨ai,trivial⟩⟩⟩) (Calls.mono (dt d5 w18 (fun _ k=>k.elim) s4 1 ([102,105,120]:List UInt8) b1 a12 c26 ⟨(hI.get0 .z),hI.lendBox .z,trivial⟩ r13 hx15) ?_)
 rintro _ w21 ⟨rfl,hx16,hl12⟩
 refine⟨_,rfl,?_⟩
 replace hI:=(hI.ext hx16)
 refine T ?_
 refine bc h et (fun hb h=> ?_) (fun hb h=> ?_)
 ·refine T ?_
  obtain⟨c57,f9,hB,hl13,hk11⟩:=hI.hands (.l (.r .n))
  refine dY h (fun _ hx17=>iU c57 f9 w21 s4 b1 a12 c26 (hB.subs ⟨.z,trivial⟩) _ hx17) (ky hk11) (ag rfl zr ⟨et,trivial⟩) ?_
  rintro⟨r14,s9⟩ hx17 h _ w22 ⟨a24,c58,a25,c59,a26,c60,a27,c61,c62,rfl,hB2⟩
  try dsimp only at h
  obtain⟨c63,hs9,hI⟩:=hk11 _ _ _ _ hB2
  dsimp only[ca,na]at hI
  refine⟨_,rfl,?_⟩
  refine ay (new:=(aQ r14 a24 c58 a25 c59 a26 c60)) (cs':=(am r14 a24 c58 a25 c59 a26 c60)) hI (.s .z) gn rfl rfl et et rfl aF rfl rfl rfl ?_
  clear hI;intro c64 w23 hI
  refine nk (al ?_)
  obtain rfl:=ac h
  refine QG ?_
  exact .inl ⟨_,rfl,a24,c58,a25,c59,a26,c60,a27,c61,_,rfl,hI.arr GO SU⟩
 refine T ?_
 refine aB (T ?_)
 refine jR (c:=ie) (xs:=([([109,105,110]:List UInt8),([109,97,120]:List UInt8),([105,102]:List UInt8),([99,97,115,116]:List UInt8)]:List (List UInt8))) (vs:=[(0,(aC ([109,105,110]:List UInt8))),(1,(aC ([109,97,120]:List UInt8))),(2,(aC ([105,102]:List UInt8))),(3,(aC ([99,97,115,116]:List UInt8)))]) (cs:=#[(aC ([109,105,110]:List UInt8)),(aC ([109,97,120]:List UInt8)),(aC ([105,102]:List UInt8)),(aC ([99,97,115,116]:List UInt8))]) (css:=[[(aC ([109,105,110]:List UInt8))],[(aC ([109,97,120]:List UInt8))],[(aC ([105,102]:List UInt8))],[(aC ([99,97,115,116]:List UInt8))]]) hI gn rfl rfl DO ol rfl ⟨rfl,ai,⟨rfl,ai,⟨rfl,ai,⟨rfl,ai,trivial⟩⟩⟩⟩ (by kernel_rfl) ⟨rfl,⟨rfl,⟨rfl,⟨rfl,trivial⟩⟩⟩⟩ rfl rfl rfl ?_
 clear hI;intro b5 c65 w24 hI
 obtain⟨c66,hI⟩:=hI.release .z
 obtain⟨c67,f10,hB,hl14,hk12⟩:=hI.hands (.l (.r .n))
 obtain⟨⟨r15,s10⟩,hx18,h⟩:=af h
 try dsimp only at h
 refine aE gn rfl (ag (vs:=[vp b1 0,(vs (some ⟨b5,0,none⟩) ([([109,105,110]:List UInt8),([109,97,120]:List UInt8),([105,102]:List UInt8),([99,97,115,116]:List UInt8)]:List (List UInt8)).length 4)]) rfl AG ⟨et,⟨et,trivial⟩⟩) (Calls.mono (ip c67 f10 w24 s4 ([([109,105,110]:List UInt8),([109,97,120]:List UInt8),([105,102]:List UInt8),([99,97,115,116]:List UInt8)]:List (List UInt8)) b1 a12 c26 (some ⟨b5,0,none⟩) 4 (hB.subs ⟨(.s .z),.z,trivial⟩) _ hx18) ?_)
 rintro _ w25 ⟨a28,c68,c69,rfl,hB2⟩
 obtain⟨c70,hs10,hI⟩:=hk12 _ _ _ _ hB2
 dsimp only[ca,na]at hI
 refine⟨_,rfl,?_⟩
 refine T ?_
 refine bc h et (fun hb h=> ?_) (fun hb h=> ?_)
 ·refine T ?_
  obtain⟨c71,f11,hB,hl15,hk13⟩:=hI.hands (.l (.r .n))
  refine dY h (fun _ hx19=>j5 rec_ hrec c71 f11 w25 s10 9 2 b1 a28 c68 (hB.subs ⟨.z,(.s (.s (.s (.s .z)))),trivial⟩) _ hx19) (ky hk13) (ag rfl zq ⟨et,⟨ai,⟨ai,trivial⟩⟩⟩) ?_
  rintro⟨r16,s11⟩ hx19 h _ w26 ⟨a29,c72,a30,c73,a31,c74,a32,c75,c76,rfl,hB2⟩
  try dsimp only at h
  obtain⟨c77,hs11,hI⟩:=hk13 _ _ _ _ hB2
  dsimp only[ca,na]at hI
  refine⟨_,rfl,?_⟩
  refine ay (new:=(aQ r16 a29 c72 a30 c73 a31 c74)) (cs':=(am r16 a29 c72 a30 c73 a31 c74)) hI (.s .z) gn rfl rfl et et rfl aF rfl rfl rfl ?_
  clear hI;intro c78 w27 hI
  refine nk (al ?_)
  obtain rfl:=ac h
  refine QG ?_
  exact .inl ⟨_,rfl,a29,c72,a30,c73,a31,c74,a32,c75,_,rfl,hI.arr GO SU⟩
 refine T ?_
 refine bc h et (fun hb h=> ?_) (fun hb h=> ?_)
 ·refine T ?_
  obtain⟨c79,f12,hB,hl16,hk14⟩:=hI.hands (.l (.r .n))
  refine dY h (fun _ hx20=>j5 rec_ hrec c79 f12 w25 s10 10 2 b1 a28 c68 (hB.subs ⟨.z,(.s (.s (.s (.s .z)))),trivial⟩) _ hx20) (ky hk14) (ag rfl zq ⟨et,⟨ai,⟨ai,trivial⟩⟩⟩) ?_
  rintro⟨r17,s12⟩ hx20 h _ w28 ⟨a33,c80,a34,c81,a35,c82,a36,c83,c84,rfl,hB2⟩
  try dsimp only at h
  obtain⟨c85,hs12,hI⟩:=hk14 _ _ _ _ hB2
  dsimp only[ca,na]at hI
  refine⟨_,rfl,?_⟩
  refine ay (new:=(aQ r17 a33 c80 a34 c81 a35 c82)) (cs':=(am r17 a33 c80 a34 c81 a35 c82)) hI (.s .z) gn rfl rfl et et rfl aF rfl rfl rfl ?_
  clear hI;intro c86 w29 hI
  refine nk (al ?_)
  obtain rfl:=ac h
  refine QG ?_
  exact .inl ⟨_,rfl,a33,c80,a34,c81,a35,c82,a36,c83,_,rfl,hI.arr GO SU⟩
 refine T ?_
 refine bc h et (fun hb h=> ?_) (fun hb h=> ?_)
 ·refine T ?_
  obtain⟨c87,f13,hB,hl17,hk15⟩:=hI.hands (.l (.r .n))
  refine dY h (fun _ hx21=>j5 rec_ hrec c87 f13 w25 s10 11 3 b1 a28 c68 (hB.subs ⟨.z,(.s (.s (.s (.s .z)))),trivial⟩) _ hx21) (ky hk15) (ag rfl zq ⟨et,⟨ai,⟨ai,trivial⟩⟩⟩) ?_
  rintro⟨r18,s13⟩ hx21 h _ w30 ⟨a37,c88,a38,c89,a39,c90,a40,c91,c92,rfl,hB2⟩
  try dsimp only at h
  obtain⟨c93,hs13,hI⟩:=hk15 _ _ _ _ hB2
  dsimp only[ca,na]at hI
  refine⟨_,rfl,?_⟩
  refine ay (new:=(aQ r18 a37 c88 a38 c89 a39 c90)) (cs':=(am r18 a37 c88 a38 c89 a39 c90)) hI (.s .z) gn rfl rfl et et rfl aF rfl rfl rfl ?_
  clear hI;intro c94 w31 hI
  refine T ?_
  refine al ?_
  obtain rfl:=ac h
  refine QG ?_
  exact .inl ⟨_,rfl,a37,c88,a38,c89,a39,c90,a40,c91,_,rfl,hI.arr GO SU⟩
 refine T ?_
 refine bc h et (fun hb h=> ?_) (fun hb h=> ?_)
 ·refine T ?_
  obtain⟨c95,f14,hB,hl18,hk16⟩:=hI.hands (.l (.r .n))
  refine dY h (fun _ hx22=>pd rec_ hrec c95 f14 w25 s10 b1 a28 c68 (hB.subs ⟨.z,(.s (.s (.s (.s .z)))),trivial⟩) _ hx22) (ky hk16) (ag rfl FU ⟨et,trivial⟩) ?_
  rintro⟨r19,s14⟩ hx22 h _ Hg ⟨a41,c96,a42,c97,a43,c98,a44,c99,c100,rfl,hB2⟩
  try dsimp only at h
  obtain⟨c101,hs14,hI⟩:=hk16 _ _ _ _ hB2
  dsimp only[ca,na]at hI
  refine⟨_,rfl,?_⟩
  refine ay (new:=(aQ r19 a41 c96 a42 c97 a43 c98)) (cs':=(am r19 a41 c96 a42 c97 a43 c98)) hI (.s .z) gn rfl rfl et et rfl aF rfl rfl rfl ?_
  clear hI;intro c102 w33 hI
  refine T ?_
  refine al ?_
  obtain rfl:=ac h
  refine QG ?_
  exact .inl ⟨_,rfl,a41,c96,a42,c97,a43,c98,a44,c99,_,rfl,hI.arr GO SU⟩
 refine T ?_
 obtain⟨c103,f15,hB,hl19,hk17⟩:=hI.hands (.l (.r .n))
 refine dY h (fun _ hx23=>iq c103 f15 w25 s10 b1 a28 c68 (hB.subs ⟨.z,(.s (.s (.s (.s .z)))),trivial⟩) _ hx23) (ky hk17) (ag rfl wU ⟨et,trivial⟩) ?_
 rintro⟨r20,s15⟩ hx23 h _ w34 ⟨a45,c104,c105,rfl,hB2⟩
 try dsimp only at h
 obtain⟨c106,hs15,hI⟩:=hk17 _ _ _ _ hB2
 dsimp only[ca,na]at hI
 refine⟨_,rfl,?_⟩
 refine sq (aV (vs:=[(0,vi 3),(1,(aC r20))]) (cs:=#[vi 3,(aC r20),vi 0,vi 0,vi 0,vi 0,vi 0,vi 0,vi 0,vi 0,vs none 0 0,vs none 0 0,vs none 0 0]) rfl ⟨rfl,ai,⟨rfl,et,trivial⟩⟩ (by kernel_rfl)) ?_
 refine aN (cs:=#[vi 0,(aC ([]:List UInt8)),vi 0,vi 0,vi 0,vi 0,vi 0,vi 0,vi 0,vi 0,vs none 0 0,vs none 0 0,vs none 0 0]) hI gn rfl rfl bA rfl ?_
 clear hI;intro b6 c107 w35 hI
 refine ay (new:=[vi 3,(aC r20),vi 0,vi 0,vi 0,vi 0,vi 0,vi 0,vi 0,vi 0,vs none 0 0,vs none 0 0,vs none 0 0]) (cs':=#[vi 3,(aC r20),vi 0,vi 0,vi 0,vi 0,vi 0,vi 0,vi 0,vi 0,vs none 0 0,vs none 0 0,vs none 0 0]) hI .z gn rfl rfl et et rfl aF rfl rfl rfl ?_
 clear hI;intro c108 w36 hI
 refine T ?_
 obtain⟨c109,f16,hB,hl20,hk18⟩:=hI.hands (.r (.l (.r .n)))
 refine dY h (fun _ hx24=>aR c109 f16 w36 s15 ([91]:List UInt8) b1 a45 c104 (hB.subs ⟨.z,trivial⟩) _ hx24) (ky hk18) (ag rfl lC ⟨et,⟨ai,trivial⟩⟩) ?_
 rintro⟨r21,s16⟩ hx24 h _ w37 ⟨a46,c110,c111,rfl,hB2⟩
 try dsimp only at h
 obtain⟨c112,hs16,hI⟩:=hk18 _ _ _ _ hB2
 dsimp only[ca,na]at hI
 refine⟨_,rfl,?_⟩
 refine nk (aB (T ?_))
 obtain⟨c113,f17,hB,hl21,hk19⟩:=hI.hands (.l (.r (.r .n)))
 obtain⟨⟨r22,s17⟩,hx25,h⟩:=af h
 try dsimp only at h
 refine aE gn rfl (ag (vs:=[vp b1 0,(aC ([93]:List UInt8))]) rfl mK ⟨et,⟨ai,trivial⟩⟩) (Calls.mono (aM c113 f17 w37 s16 ([93]:List UInt8) b1 a46 c110 (hB.subs ⟨.z,trivial⟩) _ hx25) ?_)
 rintro _ w38 ⟨a47,c114,c115,rfl,hB2⟩
 obtain⟨c116,hs17,hI⟩:=hk19 _ _ _ _ hB2
 dsimp only[ca,na]at hI
 refine⟨_,rfl,?_⟩
 refine nk (bc h et (fun hb h=> ?_) (fun hb h=> ?_))
 ·refine T ?_
  refine ay (new:=[vi 3,(aC r20),vi 0,vi 0,vi 0,vi 0,vi 0,vi 0,vi 0,vi 0,vs none 0 0,vs none 0 0,vs none 0 0]) (cs':=#[vi 3,(aC r20),vi 0,vi 0,vi 0,vi 0,vi 0,vi 0,vi 0,vi 0,vs none 0 0,vs none 0 0,vs none 0 0]) hI (.s (.s .z)) gn rfl rfl et et rfl aF rfl rfl rfl ?_
  clear hI;intro c117 w39 hI
  refine nk (al ?_)
  have hI:=hI.add (c:=Cl.sl aj none 0 ([]:List GMono)) SlC.nil
  have hI:=hI.add (c:=Cl.sl ak none 0 ([]:List GIndex)) SlC.nil
  have hI:=hI.add (c:=Cl.sl au none 0 ([]:List GExpr)) SlC.nil
  obtain rfl:=ac h
  refine QG ?_
  exact .inl ⟨_,rfl,none,0,none,0,none,0,a47,c114,_,rfl,hI.arr GO SU⟩
 refine T ?_
 obtain⟨c118,f18,hB,hl22,hk20⟩:=hI.hands (.l (.r (.r .n)))
 refine dY h (fun _ hx26=>fz c118 f18 w38 s17 b1 a47 c114 (hB.subs ⟨.z,(.s (.s (.s (.s (.s (.s (.s .z))))))),trivial⟩) _ hx26) (ky hk20) (ag rfl ux ⟨et,trivial⟩) ?_
 rintro⟨r23,s18⟩ hx26 h _ w40 ⟨a48,c119,a49,c120,a50,c121,c122,rfl,hB2⟩
 try dsimp only at h
 obtain⟨c123,hs18,hI⟩:=hk20 _ _ _ _ hB2
 dsimp only[ca,na]at hI
 refine⟨_,rfl,?_⟩
 refine jR (c:=ak) (xs:=([r23]:List GIndex)) (vs:=[(0,(Value.agg (eF r23 a48 c119 a49 c120)))]) (cs:=(eF r23 a48 c119 a49 c120)) (css:=[(o4 r23 a48 c119 a49 c120)]) hI gn rfl rfl B3 ry rfl ⟨rfl,et,trivial⟩ (by kernel_rfl) ⟨⟨a48,c119,a49,c120,rfl,hI.get .z,hI.get (.s .z)⟩,trivial⟩ rfl rfl rfl ?_
 clear hI;intro b7 c124 w41 hI
 refine T ?_
 refine ay (new:=[vs (some ⟨b7,0,none⟩) ([r23]:List GIndex).length 1]) (cs':=#[vi 3,(aC r20),vi 0,vi 0,vi 0,vi 0,vi 0,vi 0,vi 0,vi 0,vs none 0 0,vs (some ⟨b7,0,none⟩) ([r23]:List GIndex).length 1,vs none 0 0]) hI (.s (.s .z)) gn rfl rfl et et rfl wH rfl rfl rfl ?_
 clear hI;intro c125 w42 hI
 refine nk (aB (T ?_))
 have hI:=hI.nil aj 64 none
 have hI:=hI.nil au 39 none
 refine cO (α:=Nat×aa×GExpr×(Option Addr)×Nat×(Option Addr)×Nat×(Option Addr)×Nat×(Option Addr)×Nat) (fun x=>fun w=>∃ C,Bun C0 F w0 C w [MO.row aj 64 (x.2.2.2.2.2.1) (x.2.2.2.2.2.2.1) (x.2.2.1).Lin.L,MO.row ak 132 (x.2.2.2.2.2.2.2.1) (x.2.2.2.2.2.2.2.2.1) (x.2.2.1).Idx,MO.row au 39 (x.2.2.2.2.2.2.2.2.2.1) (x.2.2.2.2.2.2.2.2.2.2) (x.2.2.1).Args,MO.box b1 67 (ab (x.2.1) (x.2.2.2.1) (x.2.2.2.2.1)),MO.box b2 39 #[vi 0,(aC ([]:List UInt8)),vi 0,vi 0,vi 0,vi 0,vi 0,vi 0,vi 0,vi 0,vs none 0 0,vs none 0 0,vs none 0 0],MO.box b6 39 (am (x.2.2.1) (x.2.2.2.2.2.1) (x.2.2.2.2.2.2.1) (x.2.2.2.2.2.2.2.1) (x.2.2.2.2.2.2.2.2.1) (x.2.2.2.2.2.2.2.2.2.1) (x.2.2.2.2.2.2.2.2.2.2))] [Cl.sl ah (x.2.2.2.1) (x.2.2.2.2.1) (x.2.1).l,aA]∧bF (x.1) (x.2.1) (x.2.2.1)=some r) (fun x _=>x.1) (fun x=>[(0,vp b1 0),(2,vp b2 0),(5,vp b6 0)]) (fu,s18,(⟨3,r20,(⟨0,0⟩:GVal),(⟨0,0,0,0,0⟩:GType),(⟨0,([]:List GMono)⟩:GLin),([r23]:List GIndex),([]:List GExpr)⟩:GExpr),a50,c121,none,0,some ⟨b7,0,none⟩,1,none,0) ⟨_,hI.arr (.c (.s .z) (.c (.s .z) (.c .z (.c .z (.c (.s .z) (.c .z .n)))))) ⟨(.s (.s .z)),(.s (.s (.s (.s (.s (.s (.s (.s (.s (.s .z)))))))))),trivial⟩,h⟩ SB ?_
 clear h hI;rintro⟨fuel1,r24,e1,a51,c126,a52,c127,a53,c128,a54,c129⟩ w43 ⟨c130,hI,h⟩
 dsimp only at hI h
 rcases fuel1 with _ | fuel1
 ·rw[bF]at h;cases h
 rw[bF]at h
 refine bz (e:=[(0,vp b1 0),(2,vp b2 0),(5,vp b6 0)]) SB ?_
 refine aB (T ?_)
 obtain⟨c131,f19,hB,hl23,hk21⟩:=hI.hands (.r (.r (.r (.l (.r (.r .n))))))
 obtain⟨⟨r25,s19⟩,hx27,h⟩:=af h
 try dsimp only at h
 refine aE gn rfl (ag (vs:=[vp b1 0,(aC ([44]:List UInt8))]) rfl mK ⟨et,⟨ai,trivial⟩⟩) (Calls.mono (aM c131 f19 w43 r24 ([44]:List UInt8) b1 a51 c126 (hB.subs ⟨.z,trivial⟩) _ hx27) ?_)
 rintro _ w44 ⟨a55,c132,c133,rfl,hB2⟩
 obtain⟨c134,hs19,hI⟩:=hk21 _ _ _ _ hB2
 dsimp only[ca,na]at hI
 refine⟨_,rfl,?_⟩
 refine nk (bc h et (fun hb h=> ?_) (fun hb h=> ?_))
 ·have hk22:=hb
  refine T ?_
  rcases ii h with⟨⟨r26,s20⟩,hx28,h⟩ | ⟨pa_,pn_,hx28,hp_⟩
  rotate_left
  ·subst hp_
   refine bx [3,5,7] false (.c (0,.q) (.c (2,.q) (.two 1 (.c (3,.s) ce) 3 (.two 1 ce 4 (.c (1,.s) cZ))))) hI (by kernel_rfl) (by kernel_rfl) ?_
   clear hI;intro w51 hI
   refine V ?_
   refine gV ?_ ?_
   ·skip
    refine dK rfl gn rfl (eG (v:=(vs a53 e1.Idx.length c128)) rfl et B3 rfl (CellsAt.of_blk (hI.blk (.s (.s (.s (.s (.s .z)))))) rfl)) SX.self ?_
    refine hO (F:=F) (C:=c134) rfl rfl ?_
    obtain⟨c135,f20,hB,hl24,hk23⟩:=hI.hands (.l (.r (.r (.r (.r (.r .n))))))
    refine eB rfl gn rfl (ag (vs:=[vp b1 0]) rfl ux ⟨et,trivial⟩) (Calls.mono (fz c135 f20 w51 s19 b1 a55 c132 (hB.subs ⟨.z,(.s (.s .z)),trivial⟩) _ hx28) ?_)
    intro e_ w_ hq_;obtain⟨rfl,C_,hB_⟩:=eo hq_;obtain⟨C9_,-,hI_⟩:=hk23 _ _ _ _ hB_;exact .inr ⟨_,rfl,ib (.inr ⟨_,_,rfl,rfl,⟨_,hI_.arr .n trivial⟩⟩)⟩
   refine dw (F:=F) (C:=c134) rfl rfl ?_
   obtain⟨c135,f20,hB,hl24,hk23⟩:=hI.hands (.l (.r (.r (.r (.r (.r .n))))))
   refine eB rfl gn rfl (ag (vs:=[vp b1 0]) rfl ux ⟨et,trivial⟩) (Calls.mono (fz c135 f20 w51 s19 b1 a55 c132 (hB.subs ⟨.z,(.s (.s .z)),trivial⟩) _ hx28) ?_)
   intro e_ w_ hq_;obtain⟨rfl,C_,hB_⟩:=eo hq_;obtain⟨C9_,-,hI_⟩:=hk23 _ _ _ _ hB_;exact .inr ⟨_,rfl,ib (.inr ⟨_,_,rfl,rfl,⟨_,hI_.arr .n trivial⟩⟩)⟩
  try dsimp only at h
  obtain⟨zs1,hx29,h⟩:=af h
  refine bx [3,5,7] false (.c (0,.q) (.c (2,.q) (.two 1 (.c (3,.s) ce) 3 (.two 1 ce 4 (.c (1,.s) cZ))))) hI (by kernel_rfl) (by kernel_rfl) ?_
  clear hI;intro w52 hI
  refine ge (α:=(Option Addr)×Nat×(Option Addr)×Nat×(Option Addr)×Nat×Nat×NP) (T:=cZ) (fun x=>[(0,vp b1 0),(2,vp b2 0),(5,vp b6 0),(65,vp b1 0),(66,vb r25),(67,vp b6 11),(68,vs a53 e1.Idx.length c128),(69,vp b1 0),(70,(Value.agg (eF r26 (x.1) (x.2.1) (x.2.2.1) (x.2.2.2.1)))),(71,(vs (some ⟨(x.2.2.2.2.2.2.1),0,none⟩) ([r26]:List GIndex).length 1))]) (fun x w=>Bun C0 F w0 (x.2.2.2.2.2.2.2) w [MO.row ak 132 (some ⟨(x.2.2.2.2.2.2.1),0,none⟩) 1 ([r26]:List GIndex),MO.box b1 67 (ab s20 (x.2.2.2.2.1) (x.2.2.2.2.2.1)),MO.row aj 64 a52 c127 e1.Lin.L,MO.row ak 132 a53 c128 e1.Idx,MO.row au 39 a54 c129 e1.Args,MO.box b2 39 #[vi 0,(aC ([]:List UInt8)),vi 0,vi 0,vi 0,vi 0,vi 0,vi 0,vi 0,vi 0,vs none 0 0,vs none 0 0,vs none 0 0],MO.box b6 39 (am e1 a52 c127 a53 c128 a54 c129)] [Cl.sl aj (x.1) (x.2.1) r26.Lin.L,Cl.sl ju (x.2.2.1) (x.2.2.2.1) r26.At,Cl.sl ah (x.2.2.2.2.1) (x.2.2.2.2.2.1) s20.l,Cl.sl ah a55 c132 s19.l,Cl.sl ah a51 c126 r24.l,aA]) (fun x w=>SN [] (DM true F (x.2.2.2.2.2.2.2)) w) ?_ ?_
  ·clear hI;rintro⟨a56,c136,a57,c137,a58,c138,b8,c146⟩ w50 hI
   try dsimp only at hI ⊢
   unfold cZ
   refine wl (xs:=e1.Idx) (ys:=([r26]:List GIndex)) hI (.s (.s (.s .z))) (hI.rd .z) hx29 rfl gn rfl rfl B3 ry rfl rfl et et ?_
   clear hI;intro a59 c142 c143 w47 hI
   refine V ?_
   refine fT (new:=[vs a59 zs1.length c142]) (cs':=#[vi e1.Op,(aC e1.Name),vi e1.Val.N,vi e1.Val.D,vi e1.Type_.Kind,vi e1.Type_.Bits,vi e1.Type_.Frac,vi e1.Type_.Round,vi e1.Type_.Over,vi e1.Lin.K,vs a52 e1.Lin.L.length c127,vs a59 zs1.length c142,vs a54 e1.Args.length c129]) hI (.s (.s (.s (.s (.s (.s .z)))))) rfl gn rfl rfl et et rfl wH rfl rfl rfl ?_
   clear hI;intro c144 w48 hI
   refine pu ?_
   exact cg (fuel1,s20,(⟨e1.Op,e1.Name,e1.Val,e1.Type_,e1.Lin,zs1,e1.Args⟩:GExpr),a58,c138,a52,c127,a59,c142,a54,c129) SB ⟨_,hI.arr GO SU,h⟩ (Nat.lt_succ_self _)
  intro hk_tr_parser_reader_primary_w_3_1
  refine ge (α:=(Option Addr)×Nat×(Option Addr)×Nat×(Option Addr)×Nat×NP) (T:=ce) (fun x=>[(0,vp b1 0),(2,vp b2 0),(5,vp b6 0),(65,vp b1 0),(66,vb r25),(67,vp b6 11),(68,vs a53 e1.Idx.length c128),(69,vp b1 0),(70,(Value.agg (eF r26 (x.1) (x.2.1) (x.2.2.1) (x.2.2.2.1))))]) (fun x w=>Bun C0 F w0 (x.2.2.2.2.2.2) w [MO.box b1 67 (ab s20 (x.2.2.2.2.1) (x.2.2.2.2.2.1)),MO.row aj 64 a52 c127 e1.Lin.L,MO.row ak 132 a53 c128 e1.Idx,MO.row au 39 a54 c129 e1.Args,MO.box b2 39 #[vi 0,(aC ([]:List UInt8)),vi 0,vi 0,vi 0,vi 0,vi 0,vi 0,vi 0,vi 0,vs none 0 0,vs none 0 0,vs none 0 0],MO.box b6 39 (am e1 a52 c127 a53 c128 a54 c129)] [Cl.sl aj (x.1) (x.2.1) r26.Lin.L,Cl.sl ju (x.2.2.1) (x.2.2.2.1) r26.At,Cl.sl ah (x.2.2.2.2.1) (x.2.2.2.2.2.1) s20.l,Cl.sl ah a55 c132 s19.l,Cl.sl ah a51 c126 r24.l,aA]) (fun x w=>SN [] (DM true F (x.2.2.2.2.2.2)) w) ?_ ?_
  ·clear hI;rintro⟨a56,c136,a57,c137,a58,c138,c145⟩ w49 hI
   try dsimp only at hI ⊢
   unfold ce
   refine mw (c:=ak) (xs:=([r26]:List GIndex)) (vs:=[(0,(Value.agg (eF r26 a56 c136 a57 c137)))]) (cs:=(eF r26 a56 c136 a57 c137)) (css:=[(o4 r26 a56 c136 a57 c137)]) hI rfl gn rfl rfl B3 ry rfl ⟨rfl,et,trivial⟩ (by kernel_rfl) ⟨⟨a56,c136,a57,c137,rfl,hI.get .z,hI.get (.s .z)⟩,trivial⟩ rfl rfl rfl ?_
   clear hI;intro b8 c141 w46 hI
   exact cM (hk_tr_parser_reader_primary_w_3_1 (a56,c136,a57,c137,a58,c138,b8,c141) _ (hI.arr GO SU)) SB
  intro hk_tr_parser_reader_primary_w_3_0
  refine V ?_
  refine gV ?_ ?_
  ·skip
   refine dK rfl gn rfl (eG (v:=(vs a53 e1.Idx.length c128)) rfl et B3 rfl (CellsAt.of_blk (hI.blk (.s (.s (.s (.s (.s .z)))))) rfl)) SX.self ?_
   refine hO (F:=F) (C:=c134) rfl rfl ?_
   obtain⟨c135,f20,hB,hl24,hk23⟩:=hI.hands (.l (.r (.r (.r (.r (.r .n))))))
   refine ez rfl gn rfl (ag (vs:=[vp b1 0]) rfl ux ⟨et,trivial⟩) (Calls.mono (fz c135 f20 w52 s19 b1 a55 c132 (hB.subs ⟨.z,(.s (.s .z)),trivial⟩) _ hx28) ?_)
   intro e_ w45 hq_;obtain⟨a56,c136,a57,c137,a58,c138,c139,rfl,hB2⟩:=en hq_
   obtain⟨c140,hs20,hI⟩:=hk23 _ _ _ _ hB2
   dsimp only[ca,na]at hI
   refine⟨_,rfl,DM true F c140,hs20,?_⟩
   exact cM (hk_tr_parser_reader_primary_w_3_0 (a56,c136,a57,c137,a58,c138,c140) _ (hI.arr GO SU)) SB
  refine dw (F:=F) (C:=c134) rfl rfl ?_
  obtain⟨c135,f20,hB,hl24,hk23⟩:=hI.hands (.l (.r (.r (.r (.r (.r .n))))))
  refine ez rfl gn rfl (ag (vs:=[vp b1 0]) rfl ux ⟨et,trivial⟩) (Calls.mono (fz c135 f20 w52 s19 b1 a55 c132 (hB.subs ⟨.z,(.s (.s .z)),trivial⟩) _ hx28) ?_)
  intro e_ w45 hq_;obtain⟨a56,c136,a57,c137,a58,c138,c139,rfl,hB2⟩:=en hq_
  obtain⟨c140,hs20,hI⟩:=hk23 _ _ _ _ hB2
  dsimp only[ca,na]at hI
  refine⟨_,rfl,DM true F c140,hs20,?_⟩
  refine gV ?_ ?_
  ·skip
   refine dK rfl gn rfl (eG (v:=(vs a53 e1.Idx.length c128)) rfl et B3 rfl (CellsAt.of_blk (hI.blk (.s (.s (.s (.s (.s .z)))))) rfl)) SX.self ?_
   exact cM (hk_tr_parser_reader_primary_w_3_0 (a56,c136,a57,c137,a58,c138,c140) _ (hI.arr GO SU)) SB
  refine mw (c:=ak) (xs:=([r26]:List GIndex)) (vs:=[(0,(Value.agg (eF r26 a56 c136 a57 c137)))]) (cs:=(eF r26 a56 c136 a57 c137)) (css:=[(o4 r26 a56 c136 a57 c137)]) hI rfl gn rfl rfl B3 ry rfl ⟨rfl,et,trivial⟩ (by kernel_rfl) ⟨⟨a56,c136,a57,c137,rfl,hI.get .z,hI.get (.s .z)⟩,trivial⟩ rfl rfl rfl ?_
  clear hI;intro b8 c141 w46 hI
  refine dK rfl gn rfl (eG (v:=(vs a53 e1.Idx.length c128)) rfl et B3 rfl (CellsAt.of_blk (hI.blk (.s (.s (.s (.s (.s (.s .z))))))) rfl)) SX.self ?_
  exact cM (hk_tr_parser_reader_primary_w_3_1 (a56,c136,a57,c137,a58,c138,b8,c141) _ (hI.arr GO SU)) SB
 refine dv ?_
 refine kb ?_
 refine cA ?_
 refine T ?_
 obtain⟨c147,f21,hB,hl25,hk24⟩:=hI.hands (.l (.r (.r (.r (.r (.r .n))))))
 refine dY h (fun _ hx30=>aR c147 f21 w44 s19 ([93]:List UInt8) b1 a55 c132 (hB.subs ⟨.z,trivial⟩) _ hx30) (ky hk24) (ag rfl lC ⟨et,⟨ai,trivial⟩⟩) ?_
 rintro⟨r27,s21⟩ hx30 h _ w53 ⟨a60,c148,c149,rfl,hB2⟩
 try dsimp only at h
 obtain⟨c150,hs21,hI⟩:=hk24 _ _ _ _ hB2
 dsimp only[ca,na]at hI
 refine⟨_,rfl,?_⟩
 refine T ?_
 refine ay (new:=(aQ e1 a52 c127 a53 c128 a54 c129)) (cs':=(am e1 a52 c127 a53 c128 a54 c129)) hI (.s (.s (.s (.s .z)))) gn rfl rfl et et rfl aF rfl rfl rfl ?_
 clear hI;intro c151 w54 hI
 refine nk (al ?_)
 obtain⟨c152,hI⟩:=hI.release (.s .z)
 obtain⟨c153,hI⟩:=hI.release (.s .z)
 obtain⟨c154,hI⟩:=hI.release (.s .z)
 obtain rfl:=ac h
 refine QG ?_
 exact .inl ⟨_,rfl,a52,c127,a53,c128,a54,c129,a60,c148,_,rfl,hI.arr GO SU⟩
theorem nP (rec_:(aa→Option (bk (GExpr×aa)))) (hrec:∀ (C0 F:NP) (w0:World) (r1:aa) (b1:Nat) (a1:Option Addr) (c1:Nat) (hI:Bun C0 F w0 C0 w0 [MO.box b1 67 (ab r1 a1 c1)] [Cl.sl ah a1 c1 r1.l,aA]) (r:bk (GExpr×aa)) (h:rec_ r1=some r),Calls Tryz.prog 34 #[vp b1 0] w0 fun e w=>(∃ rx:GExpr×aa,r= .ret rx∧∃ (a2:Option Addr) (c2:Nat) (a3:Option Addr) (c3:Nat) (a4:Option Addr) (c4:Nat) (a5:Option Addr) (c5:Nat) (C:NP),e= .returned (Value.agg (am rx.1 a2 c2 a3 c3 a4 c4))∧Bun C0 F w0 C w [MO.box b1 67 (ab rx.2 a5 c5)] [Cl.sl aj a2 c2 rx.1.Lin.L,Cl.sl ak a3 c3 rx.1.Idx,Cl.sl au a4 c4 rx.1.Args,Cl.sl ah a5 c5 rx.2.l])∨∃ (pa pn:Int),r= .pan pa pn∧e= .panicked [pe 114 pa pn]∧∃ C:NP,Bun C0 F w0 C w [] []) (recs_:(aa→Option (bk (GExpr×aa)))) (hrecs_:∀ (C0 F:NP) (w0:World) (r1:aa) (b1:Nat) (a1:Option Addr) (c1:Nat) (hI:Bun C0 F w0 C0 w0 [MO.box b1 67 (ab r1 a1 c1)] [Cl.sl ah a1 c1 r1.l,aA]) (r:bk (GExpr×aa)) (h:recs_ r1=some r),Calls Tryz.prog 242 #[vp b1 0] w0 fun e w=>(∃ rx:GExpr×aa,r= .ret rx∧∃ (a2:Option Addr) (c2:Nat) (a3:Option Addr) (c3:Nat) (a4:Option Addr) (c4:Nat) (a5:Option Addr) (c5:Nat) (C:NP),e= .returned (Value.agg (am rx.1 a2 c2 a3 c3 a4 c4))∧Bun C0 F w0 C w [MO.box b1 67 (ab rx.2 a5 c5)] [Cl.sl aj a2 c2 rx.1.Lin.L,Cl.sl ak a3 c3 rx.1.Idx,Cl.sl au a4 c4 rx.1.Args,Cl.sl ah a5 c5 rx.2.l])∨∃ (pa pn:Int),r= .pan pa pn∧e= .panicked [pe 114 pa pn]∧∃ C:NP,Bun C0 F w0 C w [] [])
  (C0 F:NP) (w0:World) (r1:aa) (b1:Nat) (a1:Option Addr) (c1:Nat) (hI:Bun C0 F w0 C0 w0 [MO.box b1 67 (ab r1 a1 c1)] [Cl.sl ah a1 c1 r1.l,aA]) (r:bk (GExpr×aa)) (h:eu rec_ recs_ r1=some r):Calls Tryz.prog 242 #[vp b1 0] w0 fun e w=>(∃ rx:GExpr×aa,r= .ret rx∧∃ (a2:Option Addr) (c2:Nat) (a3:Option Addr) (c3:Nat) (a4:Option Addr) (c4:Nat) (a5:Option Addr) (c5:Nat) (C:NP),e= .returned (Value.agg (am rx.1 a2 c2 a3 c3 a4 c4))∧Bun C0 F w0 C w [MO.box b1 67 (ab rx.2 a5 c5)] [Cl.sl aj a2 c2 rx.1.Lin.L,Cl.sl ak a3 c3 rx.1.Idx,Cl.sl au a4 c4 rx.1.Args,Cl.sl ah a5 c5 rx.2.l])∨∃ (pa pn:Int),r= .pan pa pn∧e= .panicked [pe 114 pa pn]∧∃ C:NP,Bun C0 F w0 C w [] []:=by
 refine fj (l:=[vp b1 0]) Tryz.func242 rfl Tryz.ntmps242 rfl ?_
 rw[eu]at h
 refine sr (aN (cs:=#[vi 0,(aC ([]:List UInt8)),vi 0,vi 0,vi 0,vi 0,vi 0,vi 0,vi 0,vi 0,vs none 0 0,vs none 0 0,vs none 0 0]) hI gn rfl rfl bA rfl ?_)
 clear hI;intro b2 c6 w1 hI
 refine nk (aB (T ?_))
 obtain⟨r2,hx1,h⟩:=af h
 refine aE gn rfl (ag (vs:=[vp b1 0,vi 3,(aC ([45]:List UInt8))]) rfl oQ ⟨et,⟨ai,⟨ai,trivial⟩⟩⟩) (Calls.mono (dt d5 w1 (fun _ k=>k.elim) r1 3 ([45]:List UInt8) b1 a1 c1 ⟨(hI.get0 .z),hI.lendBox (.s .z),trivial⟩ r2 hx1) ?_)
 rintro _ w2 ⟨rfl,hx2,hl1⟩
 refine⟨_,rfl,?_⟩
 replace hI:=(hI.ext hx2)
 refine T ?_
 refine bc h et (fun hb h=> ?_) (fun hb h=> ?_)
 ·refine T ?_
  obtain⟨c7,f1,hB,hl2,hk1⟩:=hI.hands (.r (.l .n))
  refine dY h (fun _ hx3=>nQ rec_ hrec c7 f1 w2 r1 b1 a1 c1 (hB.subs ⟨.z,(.s .z),trivial⟩) _ hx3) (ky hk1) (ag rfl FV ⟨et,trivial⟩) ?_
  rintro⟨r3,s1⟩ hx3 h _ w3 ⟨a6,c8,a7,c9,a8,c10,a9,c11,c12,rfl,hB2⟩
  try dsimp only at h
  obtain⟨c13,hs1,hI⟩:=hk1 _ _ _ _ hB2
  dsimp only[ca,na]at hI
  refine⟨_,rfl,?_⟩
  refine ay (new:=(aQ r3 a6 c8 a7 c9 a8 c10)) (cs':=(am r3 a6 c8 a7 c9 a8 c10)) hI (.s .z) gn rfl rfl et et rfl aF rfl rfl rfl ?_
  clear hI;intro c14 w4 hI
  refine nk (al ?_)
  obtain rfl:=ac h
  refine QG ?_
  exact .inl ⟨_,rfl,a6,c8,a7,c9,a8,c10,a9,c11,_,rfl,hI.arr GO SU⟩
 refine T ?_
 obtain⟨c15,f2,hB,hl3,hk2⟩:=hI.hands (.r (.l .n))
 refine dY h (fun _ hx4=>gU c15 f2 w2 r1 b1 a1 c1 (hB.subs ⟨.z,trivial⟩) _ hx4) (ky hk2) (ag rfl wR ⟨et,trivial⟩) ?_
 rintro⟨r4,s2⟩ hx4 h _ w5 ⟨a10,c16,c17,rfl,hB2⟩
 try dsimp only at h
 obtain⟨c18,hs2,hI⟩:=hk2 _ _ _ _ hB2
 dsimp only[ca,na]at hI
 refine⟨_,rfl,?_⟩
 refine T ?_
 obtain⟨c19,f3,hB,hl4,hk3⟩:=hI.hands (.l (.r .n))
 refine dY h (fun _ hx5=>hrecs_ c19 f3 w5 s2 b1 a10 c16 (hB.subs ⟨.z,(.s (.s .z)),trivial⟩) _ hx5) (ky hk3) (ag rfl sf ⟨et,trivial⟩) ?_
 rintro⟨r5,s3⟩ hx5 h _ w6 ⟨a11,c20,a12,c21,a13,c22,a14,c23,c24,rfl,hB2⟩
 try dsimp only at h
 obtain⟨c25,hs3,hI⟩:=hk3 _ _ _ _ hB2
 dsimp only[ca,na]at hI
 refine⟨_,rfl,?_⟩
 refine jR (c:=au) (xs:=([r5]:List GExpr)) (vs:=[(0,(Value.agg (am r5 a11 c20 a12 c21 a13 c22)))]) (cs:=(am r5 a11 c20 a12 c21 a13 c22)) (css:=[(aQ r5 a11 c20 a12 c21 a13 c22)]) hI gn rfl rfl xP kx rfl ⟨rfl,et,trivial⟩ (by kernel_rfl) ⟨(eQ ⟨a11,c20,a12,c21,a13,c22,rfl,hI.get .z,hI.get (.s .z),hI.get (.s (.s .z))⟩),trivial⟩ rfl rfl rfl ?_
 clear hI;intro b3 c26 w7 hI
 refine sq (aV (vs:=[(0,vi 8),(6,vs (some ⟨b3,0,none⟩) ([r5]:List GExpr).length 1)]) (cs:=#[vi 8,(aC ([]:List UInt8)),vi 0,vi 0,vi 0,vi 0,vi 0,vi 0,vi 0,vi 0,vs none 0 0,vs none 0 0,vs (some ⟨b3,0,none⟩) ([r5]:List GExpr).length 1]) rfl ⟨rfl,ai,⟨rfl,et,trivial⟩⟩ (by kernel_rfl)) ?_
 refine aN (cs:=#[vi 0,(aC ([]:List UInt8)),vi 0,vi 0,vi 0,vi 0,vi 0,vi 0,vi 0,vi 0,vs none 0 0,vs none 0 0,vs none 0 0]) hI gn rfl rfl bA rfl ?_
 clear hI;intro b4 c27 w8 hI
 refine ay (new:=[vi 8,(aC ([]:List UInt8)),vi 0,vi 0,vi 0,vi 0,vi 0,vi 0,vi 0,vi 0,vs none 0 0,vs none 0 0,vs (some ⟨b3,0,none⟩) ([r5]:List GExpr).length 1]) (cs':=#[vi 8,(aC ([]:List UInt8)),vi 0,vi 0,vi 0,vi 0,vi 0,vi 0,vi 0,vi 0,vs none 0 0,vs none 0 0,vs (some ⟨b3,0,none⟩) ([r5]:List GExpr).length 1]) hI .z gn rfl rfl et et rfl aF rfl rfl rfl ?_
 clear hI;intro c28 w9 hI
 refine T ?_
 refine ay (new:=[(vi (az (s3.deep - 1)))]) (cs':=#[vs a14 s3.l.length c23,vi s3.at_,(vi (az (s3.deep - 1)))]) hI (.s (.s .z)) gn rfl rfl et et rfl gb rfl rfl rfl ?_
 clear hI;intro c29 w10 hI
 refine T ?_
 refine ay (new:=[vi 8,(aC ([]:List UInt8)),vi 0,vi 0,vi 0,vi 0,vi 0,vi 0,vi 0,vi 0,vs none 0 0,vs none 0 0,vs (some ⟨b3,0,none⟩) ([r5]:List GExpr).length 1]) (cs':=#[vi 8,(aC ([]:List UInt8)),vi 0,vi 0,vi 0,vi 0,vi 0,vi 0,vi 0,vi 0,vs none 0 0,vs none 0 0,vs (some ⟨b3,0,none⟩) ([r5]:List GExpr).length 1]) hI (.s (.s (.s .z))) gn rfl rfl et et rfl aF rfl rfl rfl ?_
 clear hI;intro c30 w11 hI
 refine nk (al ?_)
 obtain⟨c31,hI⟩:=hI.release (.s .z)
 have hI:=hI.add (c:=Cl.sl aj none 0 ([]:List GMono)) SlC.nil
 have hI:=hI.add (c:=Cl.sl ak none 0 ([]:List GIndex)) SlC.nil
 obtain rfl:=ac h
 refine QG ?_
 exact .inl ⟨_,rfl,none,0,none,0,some ⟨b3,0,none⟩,1,a14,c23,_,rfl,hI.arr GO SU⟩
theorem nO (rec_:(aa→Option (bk (GExpr×aa)))) (hrec:∀ (C0 F:NP) (w0:World) (r1:aa) (b1:Nat) (a1:Option Addr) (c1:Nat) (hI:Bun C0 F w0 C0 w0 [MO.box b1 67 (ab r1 a1 c1)] [Cl.sl ah a1 c1 r1.l,aA]) (r:bk (GExpr×aa)) (h:rec_ r1=some r),Calls Tryz.prog 34 #[vp b1 0] w0 fun e w=>(∃ rx:GExpr×aa,r= .ret rx∧∃ (a2:Option Addr) (c2:Nat) (a3:Option Addr) (c3:Nat) (a4:Option Addr) (c4:Nat) (a5:Option Addr) (c5:Nat) (C:NP),e= .returned (Value.agg (am rx.1 a2 c2 a3 c3 a4 c4))∧Bun C0 F w0 C w [MO.box b1 67 (ab rx.2 a5 c5)] [Cl.sl aj a2 c2 rx.1.Lin.L,Cl.sl ak a3 c3 rx.1.Idx,Cl.sl au a4 c4 rx.1.Args,Cl.sl ah a5 c5 rx.2.l])∨∃ (pa pn:Int),r= .pan pa pn∧e= .panicked [pe 114 pa pn]∧∃ C:NP,Bun C0 F w0 C w [] []) (n:Nat):∀ (C0 F:NP) (w0:World) (r1:aa) (b1:Nat) (a1:Option Addr) (c1:Nat) (hI:Bun C0 F w0 C0 w0 [MO.box b1 67 (ab r1 a1 c1)] [Cl.sl ah a1 c1 r1.l,aA]) (r:bk (GExpr×aa)) (h:br rec_ n r1=some r),Calls Tryz.prog 242 #[vp b1 0] w0 fun e w=>(∃ rx:GExpr×aa,r= .ret rx∧∃ (a2:Option Addr) (c2:Nat) (a3:Option Addr) (c3:Nat) (a4:Option Addr) (c4:Nat) (a5:Option Addr) (c5:Nat) (C:NP),e= .returned (Value.agg (am rx.1 a2 c2 a3 c3 a4 c4))∧Bun C0 F w0 C w [MO.box b1 67 (ab rx.2 a5 c5)] [Cl.sl aj a2 c2 rx.1.Lin.L,Cl.sl ak a3 c3 rx.1.Idx,Cl.sl au a4 c4 rx.1.Args,Cl.sl ah a5 c5 rx.2.l])∨∃ (pa pn:Int),r= .pan pa pn∧e= .panicked [pe 114 pa pn]∧∃ C:NP,Bun C0 F w0 C w [] []:=by
 induction n with
 | zero=>intro C0 F w0 r1 b1 a1 c1 hI r h;cases h
 | succ n ih=>intro C0 F w0 r1 b1 a1 c1 hI r h;exact nP rec_ hrec (br rec_ n) ih C0 F w0 r1 b1 a1 c1 hI r h
theorem fy (rec_:(aa→Option (bk (GExpr×aa)))) (hrec:∀ (C0 F:NP) (w0:World) (r1:aa) (b1:Nat) (a1:Option Addr) (c1:Nat) (hI:Bun C0 F w0 C0 w0 [MO.box b1 67 (ab r1 a1 c1)] [Cl.sl ah a1 c1 r1.l,aA]) (r:bk (GExpr×aa)) (h:rec_ r1=some r),Calls Tryz.prog 34 #[vp b1 0] w0 fun e w=>(∃ rx:GExpr×aa,r= .ret rx∧∃ (a2:Option Addr) (c2:Nat) (a3:Option Addr) (c3:Nat) (a4:Option Addr) (c4:Nat) (a5:Option Addr) (c5:Nat) (C:NP),e= .returned (Value.agg (am rx.1 a2 c2 a3 c3 a4 c4))∧Bun C0 F w0 C w [MO.box b1 67 (ab rx.2 a5 c5)] [Cl.sl aj a2 c2 rx.1.Lin.L,Cl.sl ak a3 c3 rx.1.Idx,Cl.sl au a4 c4 rx.1.Args,Cl.sl ah a5 c5 rx.2.l])∨∃ (pa pn:Int),r= .pan pa pn∧e= .panicked [pe 114 pa pn]∧∃ C:NP,Bun C0 F w0 C w [] []) (C0 F:NP) (w0:World) (r1:aa) (b1:Nat) (a1:Option Addr) (c1:Nat) (hI:Bun C0 F w0 C0 w0 [MO.box b1 67 (ab r1 a1 c1)] [Cl.sl ah a1 c1 r1.l,aA]) (r:bk (GExpr×aa)) (h:gQ rec_ r1=some r):Calls Tryz.prog 242 #[vp b1 0] w0 fun e w=>(∃ rx:GExpr×aa,r= .ret rx∧∃ (a2:Option Addr) (c2:Nat) (a3:Option Addr) (c3:Nat) (a4:Option Addr) (c4:Nat) (a5:Option Addr) (c5:Nat) (C:NP),e= .returned (Value.agg (am rx.1 a2 c2 a3 c3 a4 c4))∧Bun C0 F w0 C w [MO.box b1 67 (ab rx.2 a5 c5)] [Cl.sl aj a2 c2 rx.1.Lin.L,Cl.sl ak a3 c3 rx.1.Idx,Cl.sl au a4 c4 rx.1.Args,Cl.sl ah a5 c5 rx.2.l])∨∃ (pa pn:Int),r= .pan pa pn∧e= .panicked [pe 114 pa pn]∧∃ C:NP,Bun C0 F w0 C w [] []:=nO rec_ hrec fu C0 F w0 r1 b1 a1 c1 hI r h
def cn:Tr:=(.c (4,.s) (.c (5,.q) (.c (6,.s) .n)))
theorem oq (rec_:(aa→Option (bk (GExpr×aa)))) (hrec:∀ (C0 F:NP) (w0:World) (r1:aa) (b1:Nat) (a1:Option Addr) (c1:Nat) (hI:Bun C0 F w0 C0 w0 [MO.box b1 67 (ab r1 a1 c1)] [Cl.sl ah a1 c1 r1.l,aA]) (r:bk (GExpr×aa)) (h:rec_ r1=some r),Calls Tryz.prog 34 #[vp b1 0] w0 fun e w=>(∃ rx:GExpr×aa,r= .ret rx∧∃ (a2:Option Addr) (c2:Nat) (a3:Option Addr) (c3:Nat) (a4:Option Addr) (c4:Nat) (a5:Option Addr) (c5:Nat) (C:NP),e= .returned (Value.agg (am rx.1 a2 c2 a3 c3 a4 c4))∧Bun C0 F w0 C w [MO.box b1 67 (ab rx.2 a5 c5)] [Cl.sl aj a2 c2 rx.1.Lin.L,Cl.sl ak a3 c3 rx.1.Idx,Cl.sl au a4 c4 rx.1.Args,Cl.sl ah a5 c5 rx.2.l])∨∃ (pa pn:Int),r= .pan pa pn∧e= .panicked [pe 114 pa pn]∧∃ C:NP,Bun C0 F w0 C w [] []) (C0 F:NP) (w0:World) (r1:aa) (signs1:List (List UInt8)) (ops1:List Int) (b1:Nat) (a1:Option Addr) (c1:Nat) (a2:Option Addr) (c2:Nat) (a3:Option Addr) (c3:Nat) (hI:Bun C0 F w0 C0 w0 [MO.box b1 67 (ab r1 a1 c1)] [Cl.sl ah a1 c1 r1.l,Cl.sl ie a2 c2 signs1,Cl.sl (kQ .i64) a3 c3 ops1,aA]) (r:bk (GExpr×aa))
  (h:gB rec_ r1 signs1 ops1=some r):
  Calls Tryz.prog 74 #[vp b1 0,(Value.func (.func 242) #[vp b1 0] #[]),vs a2 signs1.length c2,vs a3 ops1.length c3] w0 fun e w=>(∃ rx:GExpr×aa,r= .ret rx∧∃ (a4:Option Addr) (c4:Nat) (a5:Option Addr) (c5:Nat) (a6:Option Addr) (c6:Nat) (a7:Option Addr) (c7:Nat) (C:NP),e= .returned (Value.agg (am rx.1 a4 c4 a5 c5 a6 c6))∧Bun C0 F w0 C w [MO.box b1 67 (ab rx.2 a7 c7)] [Cl.sl aj a4 c4 rx.1.Lin.L,Cl.sl ak a5 c5 rx.1.Idx,Cl.sl au a6 c6 rx.1.Args,Cl.sl ah a7 c7 rx.2.l])∨∃ (pa pn:Int),r= .pan pa pn∧e= .panicked [pe 114 pa pn]∧∃ C:NP,Bun C0 F w0 C w [] []:=by
 refine fj (l:=[vp b1 0,(Value.func (.func 242) #[vp b1 0] #[]),vs a2 signs1.length c2,vs a3 ops1.length c3]) Tryz.func74 rfl Tryz.ntmps74 rfl ?_
 rw[gB]at h
 refine sr (aN (cs:=#[vi 0,(aC ([]:List UInt8)),vi 0,vi 0,vi 0,vi 0,vi 0,vi 0,vi 0,vi 0,vs none 0 0,vs none 0 0,vs none 0 0]) hI gn rfl rfl bA rfl ?_)
 clear hI;intro b2 c8 w1 hI
 refine T ?_
 obtain⟨c9,f1,hB,hl1,hk1⟩:=hI.hands (.r (.l .n))
 refine dY h (fun _ hx1=>fy rec_ hrec c9 f1 w1 r1 b1 a1 c1 (hB.subs ⟨.z,(.s (.s (.s .z))),trivial⟩) _ hx1) (ky hk1) (gc (fs:=[vp b1 0]) (vs:=[]) (cap:=[]) rfl et sf trivial) ?_
 rintro⟨r2,s1⟩ hx1 h _ w2 ⟨a8,c10,a9,c11,a10,c12,a11,c13,c14,rfl,hB2⟩
 try dsimp only at h
 obtain⟨c15,hs1,hI⟩:=hk1 _ _ _ _ hB2
 dsimp only[ca,na]at hI
 refine⟨_,rfl,?_⟩
 refine aN (cs:=#[vi 0,(aC ([]:List UInt8)),vi 0,vi 0,vi 0,vi 0,vi 0,vi 0,vi 0,vi 0,vs none 0 0,vs none 0 0,vs none 0 0]) hI gn rfl rfl bA rfl ?_
 clear hI;intro b3 c16 w3 hI
 refine ay (new:=(aQ r2 a8 c10 a9 c11 a10 c12)) (cs':=(am r2 a8 c10 a9 c11 a10 c12)) hI .z gn rfl rfl et et rfl aF rfl rfl rfl ?_
 clear hI;intro c17 w4 hI
 refine T ?_
 refine cO (α:=Nat×aa×GExpr×(Option Addr)×Nat×(Option Addr)×Nat×(Option Addr)×Nat×(Option Addr)×Nat) (fun x=>fun w=>∃ C,Bun C0 F w0 C w [MO.box b1 67 (ab (x.2.1) (x.2.2.2.1) (x.2.2.2.2.1)),MO.box b2 39 #[vi 0,(aC ([]:List UInt8)),vi 0,vi 0,vi 0,vi 0,vi 0,vi 0,vi 0,vi 0,vs none 0 0,vs none 0 0,vs none 0 0],MO.box b3 39 (am (x.2.2.1) (x.2.2.2.2.2.1) (x.2.2.2.2.2.2.1) (x.2.2.2.2.2.2.2.1) (x.2.2.2.2.2.2.2.2.1) (x.2.2.2.2.2.2.2.2.2.1) (x.2.2.2.2.2.2.2.2.2.2))] [Cl.sl ah (x.2.2.2.1) (x.2.2.2.2.1) (x.2.1).l,Cl.sl aj (x.2.2.2.2.2.1) (x.2.2.2.2.2.2.1) (x.2.2.1).Lin.L,Cl.sl ak (x.2.2.2.2.2.2.2.1) (x.2.2.2.2.2.2.2.2.1) (x.2.2.1).Idx,Cl.sl au (x.2.2.2.2.2.2.2.2.2.1) (x.2.2.2.2.2.2.2.2.2.2) (x.2.2.1).Args,Cl.sl ie a2 c2 signs1,Cl.sl (kQ .i64) a3 c3 ops1,aA]∧bt signs1 ops1 rec_ (x.1) (x.2.1) (x.2.2.1)=some r) (fun x _=>x.1) (fun x=>[(0,vp b1 0),(1,(Value.func (.func 242) #[vp b1 0] #[])),(2,vs a2 signs1.length c2),(3,vs a3 ops1.length c3),(8,vp b2 0),(9,vp b3 0)]) (fu,s1,r2,a11,c13,a8,c10,a9,c11,a10,c12) ⟨_,hI.arr (.c (.s .z) (.c (.s .z) (.c .z .n))) ⟨(.s (.s (.s .z))),.z,(.s .z),(.s (.s .z)),(.s (.s (.s (.s (.s .z))))),(.s (.s (.s (.s (.s (.s .z)))))),(.s (.s (.s (.s (.s (.s (.s .z))))))),trivial⟩,h⟩ ⟨rfl,rfl,rfl,rfl,rfl,rfl,trivial⟩ ?_
 clear h hI;rintro⟨fuel1,r3,e1,a12,c18,a13,c19,a14,c20,a15,c21⟩ w5 ⟨c22,hI,h⟩
 dsimp only at hI h
 rcases fuel1 with _ | fuel1
 ·rw[bt]at h;cases h
 rw[bt]at h
 refine bz (e:=[(0,vp b1 0),(1,(Value.func (.func 242) #[vp b1 0] #[])),(2,vs a2 signs1.length c2),(3,vs a3 ops1.length c3),(8,vp b2 0),(9,vp b3 0)]) ⟨rfl,rfl,rfl,rfl,rfl,rfl,trivial⟩ ?_
 refine T ?_
 refine du (α:=Int×aa×(Option Addr)×Nat) (fun _=>⟨43,[]⟩) (fun x=>[(0,vp b1 0),(1,(Value.func (.func 242) #[vp b1 0] #[])),(2,vs a2 signs1.length c2),(3,vs a3 ops1.length c3),(8,vp b2 0),(9,vp b3 0),(10,vi (x.1))]) (fun x=>fun w=>∃ C,Bun C0 F w0 C w [MO.box b1 67 (ab (x.2.1) (x.2.2.1) (x.2.2.2)),MO.box b2 39 #[vi 0,(aC ([]:List UInt8)),vi 0,vi 0,vi 0,vi 0,vi 0,vi 0,vi 0,vi 0,vs none 0 0,vs none 0 0,vs none 0 0],MO.box b3 39 (am e1 a13 c19 a14 c20 a15 c21)] [Cl.sl ah (x.2.2.1) (x.2.2.2) (x.2.1).l,Cl.sl ie a2 c2 signs1,Cl.sl (kQ .i64) a3 c3 ops1,Cl.sl aj a13 c19 e1.Lin.L,Cl.sl ak a14 c20 e1.Idx,Cl.sl au a15 c21 e1.Args,aA]∧ij e1 rec_ (bt signs1 ops1 rec_ fuel1) (x.1) (x.2.1)=some r) ?_ ?_
 ·clear h hI;rintro⟨op1,r4,a16,c23⟩ w6 ⟨c24,hI,h⟩
  try dsimp only at hI h
  rw[ij]at h
  refine bz (e:=[(0,vp b1 0),(1,(Value.func (.func 242) #[vp b1 0] #[])),(2,vs a2 signs1.length c2),(3,vs a3 ops1.length c3),(8,vp b2 0),(9,vp b3 0),(10,vi op1)]) ⟨rfl,rfl,rfl,rfl,rfl,rfl,rfl,trivial⟩ ?_
  refine aB (T ?_)
  refine bc h et (fun hb h=> ?_) (fun hb h=> ?_)
  ·refine T ?_
   refine ay (new:=(aQ e1 a13 c19 a14 c20 a15 c21)) (cs':=(am e1 a13 c19 a14 c20 a15 c21)) hI (.s .z) gn rfl rfl et et rfl aF rfl rfl rfl ?_
   clear hI;intro c25 w7 hI
   refine nk (al ?_)
   obtain rfl:=ac h
   exact jt (vs:=[(Value.agg (am e1 a13 c19 a14 c20 a15 c21))]) Tryz.results74 ⟨⟨_,aZ rfl rfl,ia (l:=(aQ e1 a13 c19 a14 c20 a15 c21)) nq rfl aF (CellsAt.of_blk (hI.blk (.s .z)) rfl)⟩,trivial⟩ (.inl ⟨_,rfl,a13,c19,a14,c20,a15,c21,a16,c23,_,rfl,hI.arr (.c .z .n) ⟨(.s (.s (.s .z))),(.s (.s (.s (.s .z)))),(.s (.s (.s (.s (.s .z))))),.z,trivial⟩⟩)
  refine T ?_
  rcases ii h with⟨⟨r5,s2⟩,hx2,h⟩ | ⟨pa_,pn_,hx2,hp_⟩
  rotate_left
  ·subst hp_
   refine bx [3,6] false (.c (0,.q) (.c (2,.q) (.two 1 (.c (3,.s) cn) 3 (.c (1,.s) cn)))) hI (by kernel_rfl) (by kernel_rfl) ?_
   clear hI;intro w12 hI
   refine V ?_
   refine gV ?_ ?_
   ·skip
    refine dK rfl gn rfl (aJ (l:=(aQ e1 a13 c19 a14 c20 a15 c21)) rfl et nq rfl aF (CellsAt.of_blk (hI.blk (.s (.s .z))) rfl)) SX.self ?_
    refine hO (F:=F) (C:=c24) rfl rfl ?_
    obtain⟨c26,f2,hB,hl2,hk2⟩:=hI.hands (.l (.r (.r .n)))
    refine eB rfl gn rfl (gc (fs:=[vp b1 0]) (vs:=[]) (cap:=[]) rfl et sf trivial) (Calls.mono (fy rec_ hrec c26 f2 w12 r4 b1 a16 c23 (hB.subs ⟨.z,(.s (.s (.s (.s (.s (.s .z)))))),trivial⟩) _ hx2) ?_)
    intro e_ w_ hq_;obtain⟨rfl,C_,hB_⟩:=eo hq_;obtain⟨C9_,-,hI_⟩:=hk2 _ _ _ _ hB_;exact .inr ⟨_,rfl,ib (.inr ⟨_,_,rfl,rfl,⟨_,hI_.arr .n trivial⟩⟩)⟩
   refine dw (F:=F) (C:=c24) rfl rfl ?_
   obtain⟨c26,f2,hB,hl2,hk2⟩:=hI.hands (.l (.r (.r .n)))
   refine eB rfl gn rfl (gc (fs:=[vp b1 0]) (vs:=[]) (cap:=[]) rfl et sf trivial) (Calls.mono (fy rec_ hrec c26 f2 w12 r4 b1 a16 c23 (hB.subs ⟨.z,(.s (.s (.s (.s (.s (.s .z)))))),trivial⟩) _ hx2) ?_)
   intro e_ w_ hq_;obtain⟨rfl,C_,hB_⟩:=eo hq_;obtain⟨C9_,-,hI_⟩:=hk2 _ _ _ _ hB_;exact .inr ⟨_,rfl,ib (.inr ⟨_,_,rfl,rfl,⟨_,hI_.arr .n trivial⟩⟩)⟩
  try dsimp only at h
  refine bx [3,6] false (.c (0,.q) (.c (2,.q) (.two 1 (.c (3,.s) cn) 3 (.c (1,.s) cn)))) hI (by kernel_rfl) (by kernel_rfl) ?_
  clear hI;intro w13 hI
  refine ge (α:=(Option Addr)×Nat×(Option Addr)×Nat×(Option Addr)×Nat×(Option Addr)×Nat×NP) (T:=cn) (fun x=>[(0,vp b1 0),(1,(Value.func (.func 242) #[vp b1 0] #[])),(2,vs a2 signs1.length c2),(3,vs a3 ops1.length c3),(8,vp b2 0),(9,vp b3 0),(10,vi op1),(34,vi op1),(35,(vb (decide (op1=0)))),(37,vi op1),(38,(Value.agg (am e1 a13 c19 a14 c20 a15 c21))),(39,(Value.func (.func 242) #[vp b1 0] #[])),(40,(Value.agg (am r5 (x.1) (x.2.1) (x.2.2.1) (x.2.2.2.1) (x.2.2.2.2.1) (x.2.2.2.2.2.1))))]) (fun x w=>Bun C0 F w0 (x.2.2.2.2.2.2.2.2) w [MO.box b1 67 (ab s2 (x.2.2.2.2.2.2.1) (x.2.2.2.2.2.2.2.1)),MO.box b2 39 #[vi 0,(aC ([]:List UInt8)),vi 0,vi 0,vi 0,vi 0,vi 0,vi 0,vi 0,vi 0,vs none 0 0,vs none 0 0,vs none 0 0],MO.box b3 39 (am e1 a13 c19 a14 c20 a15 c21)] [Cl.sl aj (x.1) (x.2.1) r5.Lin.L,Cl.sl ak (x.2.2.1) (x.2.2.2.1) r5.Idx,Cl.sl au (x.2.2.2.2.1) (x.2.2.2.2.2.1) r5.Args,Cl.sl ah (x.2.2.2.2.2.2.1) (x.2.2.2.2.2.2.2.1) s2.l,Cl.sl ah a16 c23 r4.l,Cl.sl ie a2 c2 signs1,Cl.sl (kQ .i64) a3 c3 ops1,Cl.sl aj a13 c19 e1.Lin.L,Cl.sl ak a14 c20 e1.Idx,Cl.sl au a15 c21 e1.Args,aA]) (fun x w=>SN [] (DM true F (x.2.2.2.2.2.2.2.2)) w) ?_ ?_
  ·clear hI;rintro⟨a17,c27,a18,c28,a19,c29,a20,c30,c35⟩ w11 hI
   try dsimp only at hI ⊢
   unfold cn
   refine mw (c:=au) (xs:=([e1,r5]:List GExpr)) (vs:=[(0,(Value.agg (am e1 a13 c19 a14 c20 a15 c21))),(1,(Value.agg (am r5 a17 c27 a18 c28 a19 c29)))]) (cs:=#[vi e1.Op,(aC e1.Name),vi e1.Val.N,vi e1.Val.D,vi e1.Type_.Kind,vi e1.Type_.Bits,vi e1.Type_.Frac,vi e1.Type_.Round,vi e1.Type_.Over,vi e1.Lin.K,vs a13 e1.Lin.L.length c19,vs a14 e1.Idx.length c20,vs a15 e1.Args.length c21,vi r5.Op,(aC r5.Name),vi r5.Val.N,vi r5.Val.D,vi r5.Type_.Kind,vi r5.Type_.Bits,vi r5.Type_.Frac,vi r5.Type_.Round,vi r5.Type_.Over,vi r5.Lin.K,vs a17 r5.Lin.L.length c27,vs a18 r5.Idx.length c28,vs a19 r5.Args.length c29]) (css:=[(aQ e1 a13 c19 a14 c20 a15 c21),(aQ r5 a17 c27 a18 c28 a19 c29)]) hI rfl gn rfl rfl xP kx rfl ⟨rfl,et,⟨rfl,et,trivial⟩⟩ (by kernel_rfl) ⟨(eQ ⟨a13,c19,a14,c20,a15,c21,rfl,hI.get (.s (.s (.s (.s (.s (.s (.s .z))))))),hI.get (.s (.s (.s (.s (.s (.s (.s (.s .z)))))))),hI.get (.s (.s (.s (.s (.s (.s (.s (.s (.s .z)))))))))⟩),⟨(eQ ⟨a17,c27,a18,c28,a19,c29,rfl,hI.get .z,hI.get (.s .z),hI.get (.s (.s .z))⟩),trivial⟩⟩ rfl rfl rfl ?_
   clear hI;intro b4 c33 w9 hI
   refine pt rfl gn rfl (fun w'=>(aV (vs:=[(0,vi op1),(6,vs (some ⟨b4,0,none⟩) ([e1,r5]:List GExpr).length 2)]) (cs:=#[vi op1,(aC ([]:List UInt8)),vi 0,vi 0,vi 0,vi 0,vi 0,vi 0,vi 0,vi 0,vs none 0 0,vs none 0 0,vs (some ⟨b4,0,none⟩) ([e1,r5]:List GExpr).length 2]) rfl ⟨rfl,et,⟨rfl,et,trivial⟩⟩ (by kernel_rfl))) ?_
   refine fT (new:=[vi op1,(aC ([]:List UInt8)),vi 0,vi 0,vi 0,vi 0,vi 0,vi 0,vi 0,vi 0,vs none 0 0,vs none 0 0,vs (some ⟨b4,0,none⟩) ([e1,r5]:List GExpr).length 2]) (cs':=#[vi op1,(aC ([]:List UInt8)),vi 0,vi 0,vi 0,vi 0,vi 0,vi 0,vi 0,vi 0,vs none 0 0,vs none 0 0,vs (some ⟨b4,0,none⟩) ([e1,r5]:List GExpr).length 2]) hI (.s (.s (.s .z))) rfl gn rfl rfl et et rfl aF rfl rfl rfl ?_
   clear hI;intro c34 w10 hI
   refine pu ?_
   have hI:=hI.add (c:=Cl.sl aj none 0 ([]:List GMono)) SlC.nil
   have hI:=hI.add (c:=Cl.sl ak none 0 ([]:List GIndex)) SlC.nil
   obtain⟨c36,hI⟩:=hI.release .z
   exact cg (fuel1,s2,(⟨op1,([]:List UInt8),(⟨0,0⟩:GVal),(⟨0,0,0,0,0⟩:GType),(⟨0,([]:List GMono)⟩:GLin),([]:List GIndex),([e1,r5]:List GExpr)⟩:GExpr),a20,c30,none,0,none,0,some ⟨b4,0,none⟩,2) ⟨rfl,rfl,rfl,rfl,rfl,rfl,trivial⟩ ⟨_,hI.arr (.c .z (.c .z (.c .z .n))) ⟨(.s (.s (.s (.s (.s (.s .z)))))),(.s (.s .z)),(.s .z),.z,(.s (.s (.s (.s (.s (.s (.s (.s .z)))))))),(.s (.s (.s (.s (.s (.s (.s (.s (.s .z))))))))),(.s (.s (.s (.s (.s (.s (.s (.s (.s (.s (.s (.s (.s .z))))))))))))),trivial⟩,h⟩ (Nat.lt_succ_self _)
  intro hk_tr_parser_reader_chain_w5_3_0
  refine V ?_
  refine gV ?_ ?_
  ·skip
   refine dK rfl gn rfl (aJ (l:=(aQ e1 a13 c19 a14 c20 a15 c21)) rfl et nq rfl aF (CellsAt.of_blk (hI.blk (.s (.s .z))) rfl)) SX.self ?_
   refine hO (F:=F) (C:=c24) rfl rfl ?_
   obtain⟨c26,f2,hB,hl2,hk2⟩:=hI.hands (.l (.r (.r .n)))
   refine ez rfl gn rfl (gc (fs:=[vp b1 0]) (vs:=[]) (cap:=[]) rfl et sf trivial) (Calls.mono (fy rec_ hrec c26 f2 w13 r4 b1 a16 c23 (hB.subs ⟨.z,(.s (.s (.s (.s (.s (.s .z)))))),trivial⟩) _ hx2) ?_)
   intro e_ w8 hq_;obtain⟨a17,c27,a18,c28,a19,c29,a20,c30,c31,rfl,hB2⟩:=en hq_
   obtain⟨c32,hs2,hI⟩:=hk2 _ _ _ _ hB2
   dsimp only[ca,na]at hI
   refine⟨_,rfl,DM true F c32,hs2,?_⟩
   exact cM (hk_tr_parser_reader_chain_w5_3_0 (a17,c27,a18,c28,a19,c29,a20,c30,c32) _ (hI.arr (.c .z (.c .z (.c .z .n))) ⟨.z,(.s .z),(.s (.s .z)),(.s (.s (.s .z))),(.s (.s (.s (.s .z)))),(.s (.s (.s (.s (.s .z))))),(.s (.s (.s (.s (.s (.s .z)))))),(.s (.s (.s (.s (.s (.s (.s .z))))))),(.s (.s (.s (.s (.s (.s (.s (.s .z)))))))),(.s (.s (.s (.s (.s (.s (.s (.s (.s .z))))))))),(.s (.s (.s (.s (.s (.s (.s (.s (.s (.s .z)))))))))),trivial⟩)) ⟨rfl,rfl,rfl,rfl,rfl,rfl,rfl,rfl,rfl,rfl,rfl,rfl,rfl,trivial⟩
  refine dw (F:=F) (C:=c24) rfl rfl ?_
  obtain⟨c26,f2,hB,hl2,hk2⟩:=hI.hands (.l (.r (.r .n)))
  refine ez rfl gn rfl (gc (fs:=[vp b1 0]) (vs:=[]) (cap:=[]) rfl et sf trivial) (Calls.mono (fy rec_ hrec c26 f2 w13 r4 b1 a16 c23 (hB.subs ⟨.z,(.s (.s (.s (.s (.s (.s .z)))))),trivial⟩) _ hx2) ?_)
  intro e_ w8 hq_;obtain⟨a17,c27,a18,c28,a19,c29,a20,c30,c31,rfl,hB2⟩:=en hq_
  obtain⟨c32,hs2,hI⟩:=hk2 _ _ _ _ hB2
  dsimp only[ca,na]at hI
  refine⟨_,rfl,DM true F c32,hs2,?_⟩
  refine dK rfl gn rfl (aJ (l:=(aQ e1 a13 c19 a14 c20 a15 c21)) rfl et nq rfl aF (CellsAt.of_blk (hI.blk (.s (.s .z))) rfl)) SX.self ?_
  exact cM (hk_tr_parser_reader_chain_w5_3_0 (a17,c27,a18,c28,a19,c29,a20,c30,c32) _ (hI.arr (.c .z (.c .z (.c .z .n))) ⟨.z,(.s .z),(.s (.s .z)),(.s (.s (.s .z))),(.s (.s (.s (.s .z)))),(.s (.s (.s (.s (.s .z))))),(.s (.s (.s (.s (.s (.s .z)))))),(.s (.s (.s (.s (.s (.s (.s .z))))))),(.s (.s (.s (.s (.s (.s (.s (.s .z)))))))),(.s (.s (.s (.s (.s (.s (.s (.s (.s .z))))))))),(.s (.s (.s (.s (.s (.s (.s (.s (.s (.s .z)))))))))),trivial⟩)) ⟨rfl,rfl,rfl,rfl,rfl,rfl,rfl,rfl,rfl,rfl,rfl,rfl,rfl,trivial⟩
 refine T ?_
 refine cO (α:=Nat×Int×Int×aa×(Option Addr)×Nat) (fun x=>fun w=>∃ C,Bun C0 F w0 C w [MO.box b1 67 (ab (x.2.2.2.1) (x.2.2.2.2.1) (x.2.2.2.2.2)),MO.box b2 39 #[vi 0,(aC ([]:List UInt8)),vi 0,vi 0,vi 0,vi 0,vi 0,vi 0,vi 0,vi 0,vs none 0 0,vs none 0 0,vs none 0 0],MO.box b3 39 (am e1 a13 c19 a14 c20 a15 c21)] [Cl.sl ah (x.2.2.2.2.1) (x.2.2.2.2.2) (x.2.2.2.1).l,Cl.sl ie a2 c2 signs1,Cl.sl (kQ .i64) a3 c3 ops1,Cl.sl aj a13 c19 e1.Lin.L,Cl.sl ak a14 c20 e1.Idx,Cl.sl au a15 c21 e1.Args,aA]∧bN signs1 ops1 e1 rec_ (bt signs1 ops1 rec_ fuel1) (x.1) (x.2.1) (x.2.2.1) (x.2.2.2.1)=some r) (fun x _=>x.1) (fun x=>[(0,vp b1 0),(1,(Value.func (.func 242) #[vp b1 0] #[])),(2,vs a2 signs1.length c2),(3,vs a3 ops1.length c3),(8,vp b2 0),(9,vp b3 0),(10,vi (x.2.1)),(15,vs a2 signs1.length c2),(16,vi (signs1.length:Int)),(17,vi (x.2.2.1))]) (fu,0,0,r3,a12,c18) ⟨_,hI.arr (.c .z (.c .z (.c .z .n))) ⟨.z,(.s (.s (.s (.s .z)))),(.s (.s (.s (.s (.s .z))))),(.s .z),(.s (.s .z)),(.s (.s (.s .z))),(.s (.s (.s (.s (.s (.s .z)))))),trivial⟩,h⟩ ⟨rfl,rfl,rfl,rfl,rfl,rfl,rfl,rfl,rfl,rfl,trivial⟩ ?_
 clear h hI;rintro⟨fuel2,op2,i1,r6,a21,c37⟩ w14 ⟨c38,hI,h⟩
 dsimp only at hI h
 rcases fuel2 with _ | fuel2
 ·rw[bN]at h;cases h
 rw[bN]at h
 refine bz (e:=[(0,vp b1 0),(1,(Value.func (.func 242) #[vp b1 0] #[])),(2,vs a2 signs1.length c2),(3,vs a3 ops1.length c3),(8,vp b2 0),(9,vp b3 0),(10,vi op2),(15,vs a2 signs1.length c2),(16,vi (signs1.length:Int)),(17,vi i1)]) ⟨rfl,rfl,rfl,rfl,rfl,rfl,rfl,rfl,rfl,rfl,trivial⟩ ?_
 refine T ?_
 refine aB (bc h et (fun hb h=> ?_) (fun hb h=> ?_))
 ·refine T ?_
  refine du (α:=Int×aa×(Option Addr)×Nat) (fun _=>⟨43,[]⟩) (fun x=>[(0,vp b1 0),(1,(Value.func (.func 242) #[vp b1 0] #[])),(2,vs a2 signs1.length c2),(3,vs a3 ops1.length c3),(8,vp b2 0),(9,vp b3 0),(10,vi (x.1)),(15,vs a2 signs1.length c2),(16,vi (signs1.length:Int)),(17,vi i1)]) (fun x=>fun w=>∃ C,Bun C0 F w0 C w [MO.box b1 67 (ab (x.2.1) (x.2.2.1) (x.2.2.2)),MO.box b2 39 #[vi 0,(aC ([]:List UInt8)),vi 0,vi 0,vi 0,vi 0,vi 0,vi 0,vi 0,vi 0,vs none 0 0,vs none 0 0,vs none 0 0],MO.box b3 39 (am e1 a13 c19 a14 c20 a15 c21)] [Cl.sl ah (x.2.2.1) (x.2.2.2) (x.2.1).l,Cl.sl ie a2 c2 signs1,Cl.sl (kQ .i64) a3 c3 ops1,Cl.sl aj a13 c19 e1.Lin.L,Cl.sl ak a14 c20 e1.Idx,Cl.sl au a15 c21 e1.Args,aA]∧fC (bN signs1 ops1 e1 rec_ (bt signs1 ops1 rec_ fuel1) fuel2) i1 (x.1) (x.2.1)=some r) ?_ ?_
  ·clear h hI;rintro⟨op3,r7,a22,c39⟩ w15 ⟨c40,hI,h⟩
   try dsimp only at hI h
   rw[fC]at h
   refine bz (e:=[(0,vp b1 0),(1,(Value.func (.func 242) #[vp b1 0] #[])),(2,vs a2 signs1.length c2),(3,vs a3 ops1.length c3),(8,vp b2 0),(9,vp b3 0),(10,vi op3),(15,vs a2 signs1.length c2),(16,vi (signs1.length:Int)),(17,vi i1)]) ⟨rfl,rfl,rfl,rfl,rfl,rfl,rfl,rfl,rfl,rfl,trivial⟩ ?_
   refine T ?_
   refine bl ?_
   exact cg (fuel2,op3,az (i1+1),r7,a22,c39) ⟨rfl,rfl,rfl,rfl,rfl,rfl,rfl,rfl,rfl,rfl,trivial⟩ ⟨_,hI.arr (.c .z (.c .z (.c .z .n))) ⟨.z,(.s .z),(.s (.s .z)),(.s (.s (.s .z))),(.s (.s (.s (.s .z)))),(.s (.s (.s (.s (.s .z))))),(.s (.s (.s (.s (.s (.s .z)))))),trivial⟩,h⟩ (Nat.lt_succ_self _)
  refine T ?_
  obtain⟨e2,hx3,h⟩:=af h
  obtain⟨ad1,cs1,hA1,hr1,hq1⟩:=hI.clat (.s .z) hx3
  obtain rfl:cs1=[(aC e2)]:=hr1
  refine sI ?_
  refine T ?_
  obtain⟨c41,f3,hB,hl3,hk3⟩:=hI.hands (.l (.r (.r .n)))
  obtain⟨⟨r8,s3⟩,hx4,h⟩:=af h
  try dsimp only at h
  refine p7 (fun v_ w_=>v_=(vb r8)∧∃ (a23:Option Addr),∃ (c42:Nat),∃ C_:NP,Bun c41 f3 w14 C_ w_ [MO.box b1 67 (ab s3 a23 c42)] [Cl.sl ah a23 c42 s3.l]) (bE rfl rfl rfl rfl) rfl (fun hc=>(ag (vs:=[vp b1 0,(aC e2)]) rfl mK ⟨(bg et hc),⟨(bg et hc),trivial⟩⟩)) (fun hc=>(aM c41 f3 w14 r6 e2 b1 a21 c37 (hB.subs ⟨.z,trivial⟩) _ (yE hc hx4)).mono fun e_ w_ hq_=>(let ⟨a23,c42,C_,he_,hB_⟩:=hq_;⟨_,he_,rfl,a23,c42,C_,hB_⟩)) ?_
  intro v_ w16 h1_ h2_
  obtain⟨hv_,a23,c42,c43,hB2⟩:gv (decide (op2=0)) v_=gv (decide (op2=0)) (vb r8)∧∃ (a23:Option Addr),∃ (c42:Nat),∃ C_:NP,Bun c41 f3 w14 C_ w16 [MO.box b1 67 (ab s3 a23 c42)] [Cl.sl ah a23 c42 s3.l]:=by
   rcases Bool.eq_false_or_eq_true (decide (op2=0))with hc | hc
   ·obtain⟨rfl,hq_⟩:=h1_ hc;exact⟨rfl,hq_⟩
   have e1_:=h2_ hc;subst e1_;obtain⟨rfl,rfl⟩:=yF hc hx4;exact⟨by rw[om hc,om hc],a21,c37,_,hB.subs ⟨.z,trivial⟩⟩
  rw[hv_];clear h1_ h2_
  obtain⟨c44,hs3,hI⟩:=hk3 _ _ _ _ hB2
  dsimp only[ca,na]at hI
  refine T ?_
  refine bc h et (fun hb h=> ?_) (fun hb h=> ?_)
  ·refine T ?_
   obtain⟨e3,hx5,h⟩:=af h
   obtain⟨ad2,cs2,hA2,hr2,hq2⟩:=hI.clat (.s (.s (.s .z))) hx5
   obtain rfl:cs2=[vi e3]:=hr2
   refine sI ?_
   refine T ?_
   refine bl ?_
   exact bi (e3,s3,a23,c42) ⟨rfl,rfl,rfl,rfl,rfl,rfl,rfl,rfl,rfl,rfl,trivial⟩ ⟨_,hI.arr (.c .z (.c .z (.c .z .n))) ⟨.z,(.s (.s .z)),(.s (.s (.s .z))),(.s (.s (.s (.s .z)))),(.s (.s (.s (.s (.s .z))))),(.s (.s (.s (.s (.s (.s .z)))))),(.s (.s (.s (.s (.s (.s (.s .z))))))),trivial⟩,h⟩ rfl
  exact cc (bi (op2,s3,a23,c42) ⟨rfl,rfl,rfl,rfl,rfl,rfl,rfl,rfl,rfl,rfl,trivial⟩ ⟨_,hI.arr (.c .z (.c .z (.c .z .n))) ⟨.z,(.s (.s .z)),(.s (.s (.s .z))),(.s (.s (.s (.s .z)))),(.s (.s (.s (.s (.s .z))))),(.s (.s (.s (.s (.s (.s .z)))))),(.s (.s (.s (.s (.s (.s (.s .z))))))),trivial⟩,h⟩ rfl)
 refine dv ?_
 refine kb ?_
 exact bi (op2,r6,a21,c37) ⟨rfl,rfl,rfl,rfl,rfl,rfl,rfl,trivial⟩ ⟨_,hI.arr (.c .z (.c .z (.c .z .n))) ⟨.z,(.s .z),(.s (.s .z)),(.s (.s (.s .z))),(.s (.s (.s (.s .z)))),(.s (.s (.s (.s (.s .z))))),(.s (.s (.s (.s (.s (.s .z)))))),trivial⟩,h⟩ rfl
theorem eC (rec_:(aa→Option (bk (GExpr×aa)))) (hrec:∀ (C0 F:NP) (w0:World) (r1:aa) (b1:Nat) (a1:Option Addr) (c1:Nat) (hI:Bun C0 F w0 C0 w0 [MO.box b1 67 (ab r1 a1 c1)] [Cl.sl ah a1 c1 r1.l,aA]) (r:bk (GExpr×aa)) (h:rec_ r1=some r),Calls Tryz.prog 34 #[vp b1 0] w0 fun e w=>(∃ rx:GExpr×aa,r= .ret rx∧∃ (a2:Option Addr) (c2:Nat) (a3:Option Addr) (c3:Nat) (a4:Option Addr) (c4:Nat) (a5:Option Addr) (c5:Nat) (C:NP),e= .returned (Value.agg (am rx.1 a2 c2 a3 c3 a4 c4))∧Bun C0 F w0 C w [MO.box b1 67 (ab rx.2 a5 c5)] [Cl.sl aj a2 c2 rx.1.Lin.L,Cl.sl ak a3 c3 rx.1.Idx,Cl.sl au a4 c4 rx.1.Args,Cl.sl ah a5 c5 rx.2.l])∨∃ (pa pn:Int),r= .pan pa pn∧e= .panicked [pe 114 pa pn]∧∃ C:NP,Bun C0 F w0 C w [] []) (C0 F:NP) (w0:World) (r1:aa) (b1:Nat) (a1:Option Addr) (c1:Nat) (hI:Bun C0 F w0 C0 w0 [MO.box b1 67 (ab r1 a1 c1)] [Cl.sl ah a1 c1 r1.l,aA]) (r:bk (GExpr×aa))
  (h:cz rec_ r1=some r):
  Calls Tryz.prog 227 #[vp b1 0] w0 fun e w=>(∃ rx:GExpr×aa,r= .ret rx∧∃ (a2:Option Addr) (c2:Nat) (a3:Option Addr) (c3:Nat) (a4:Option Addr) (c4:Nat) (a5:Option Addr) (c5:Nat) (C:NP),e= .returned (Value.agg (am rx.1 a2 c2 a3 c3 a4 c4))∧Bun C0 F w0 C w [MO.box b1 67 (ab rx.2 a5 c5)] [Cl.sl aj a2 c2 rx.1.Lin.L,Cl.sl ak a3 c3 rx.1.Idx,Cl.sl au a4 c4 rx.1.Args,Cl.sl ah a5 c5 rx.2.l])∨∃ (pa pn:Int),r= .pan pa pn∧e= .panicked [pe 114 pa pn]∧∃ C:NP,Bun C0 F w0 C w [] []:=by
 refine fj (l:=[vp b1 0]) Tryz.func227 rfl Tryz.ntmps227 rfl ?_
 rw[cz]at h
 refine sr (aN (cs:=#[vi 0,(aC ([]:List UInt8)),vi 0,vi 0,vi 0,vi 0,vi 0,vi 0,vi 0,vi 0,vs none 0 0,vs none 0 0,vs none 0 0]) hI gn rfl rfl bA rfl ?_)
 clear hI;intro b2 c6 w1 hI
 refine T ?_
 refine sq (mI (vs:=[vp b1 0]) rfl rfl ⟨et,trivial⟩) ?_
 refine jR (c:=ie) (xs:=([([42]:List UInt8),([47]:List UInt8)]:List (List UInt8))) (vs:=[(0,(aC ([42]:List UInt8))),(1,(aC ([47]:List UInt8)))]) (cs:=#[(aC ([42]:List UInt8)),(aC ([47]:List UInt8))]) (css:=[[(aC ([42]:List UInt8))],[(aC ([47]:List UInt8))]]) hI gn rfl rfl DO ol rfl ⟨rfl,ai,⟨rfl,ai,trivial⟩⟩ (by kernel_rfl) ⟨rfl,⟨rfl,trivial⟩⟩ rfl rfl rfl ?_
 clear hI;intro b3 c7 w2 hI
 refine jR (c:=(kQ .i64)) (xs:=([6,7]:List Int)) (vs:=[(0,vi 6),(1,vi 7)]) (cs:=#[vi 6,vi 7]) (css:=[[vi 6],[vi 7]]) hI gn rfl rfl B5 uM rfl ⟨rfl,ai,⟨rfl,ai,trivial⟩⟩ (by kernel_rfl) ⟨rfl,⟨rfl,trivial⟩⟩ rfl rfl rfl ?_
 clear hI;intro b4 c8 w3 hI
 obtain⟨c9,hI⟩:=hI.release (.s .z)
 obtain⟨c10,hI⟩:=hI.release .z
 obtain⟨c11,f1,hB,hl1,hk1⟩:=hI.hands (.r (.l .n))
 refine dY h (fun _ hx1=>oq rec_ hrec c11 f1 w3 r1 ([([42]:List UInt8),([47]:List UInt8)]:List (List UInt8)) ([6,7]:List Int) b1 a1 c1 (some ⟨b3,0,none⟩) 2 (some ⟨b4,0,none⟩) 2 (hB.subs ⟨(.s (.s .z)),(.s .z),.z,(.s (.s (.s .z))),trivial⟩) _ hx1) (ky hk1) (ag rfl yr ⟨et,⟨et,⟨et,⟨et,trivial⟩⟩⟩⟩) ?_
 rintro⟨r2,s1⟩ hx1 h _ w4 ⟨a6,c12,a7,c13,a8,c14,a9,c15,c16,rfl,hB2⟩
 try dsimp only at h
 obtain⟨c17,hs1,hI⟩:=hk1 _ _ _ _ hB2
 dsimp only[ca,na]at hI
 refine⟨_,rfl,?_⟩
 refine ay (new:=(aQ r2 a6 c12 a7 c13 a8 c14)) (cs':=(am r2 a6 c12 a7 c13 a8 c14)) hI (.s .z) gn rfl rfl et et rfl aF rfl rfl rfl ?_
 clear hI;intro c18 w5 hI
 refine nk (al ?_)
 obtain rfl:=ac h
 refine QG ?_
 exact .inl ⟨_,rfl,a6,c12,a7,c13,a8,c14,a9,c15,_,rfl,hI.arr GO SU⟩
def co:Tr:=(.c (4,.s) (.c (5,.q) (.c (6,.s) .n)))
theorem ot (rec_:(aa→Option (bk (GExpr×aa)))) (hrec:∀ (C0 F:NP) (w0:World) (r1:aa) (b1:Nat) (a1:Option Addr) (c1:Nat) (hI:Bun C0 F w0 C0 w0 [MO.box b1 67 (ab r1 a1 c1)] [Cl.sl ah a1 c1 r1.l,aA]) (r:bk (GExpr×aa)) (h:rec_ r1=some r),Calls Tryz.prog 34 #[vp b1 0] w0 fun e w=>(∃ rx:GExpr×aa,r= .ret rx∧∃ (a2:Option Addr) (c2:Nat) (a3:Option Addr) (c3:Nat) (a4:Option Addr) (c4:Nat) (a5:Option Addr) (c5:Nat) (C:NP),e= .returned (Value.agg (am rx.1 a2 c2 a3 c3 a4 c4))∧Bun C0 F w0 C w [MO.box b1 67 (ab rx.2 a5 c5)] [Cl.sl aj a2 c2 rx.1.Lin.L,Cl.sl ak a3 c3 rx.1.Idx,Cl.sl au a4 c4 rx.1.Args,Cl.sl ah a5 c5 rx.2.l])∨∃ (pa pn:Int),r= .pan pa pn∧e= .panicked [pe 114 pa pn]∧∃ C:NP,Bun C0 F w0 C w [] []) (C0 F:NP) (w0:World) (r1:aa) (signs1:List (List UInt8)) (ops1:List Int) (b1:Nat) (a1:Option Addr) (c1:Nat) (a2:Option Addr) (c2:Nat) (a3:Option Addr) (c3:Nat) (hI:Bun C0 F w0 C0 w0 [MO.box b1 67 (ab r1 a1 c1)] [Cl.sl ah a1 c1 r1.l,Cl.sl ie a2 c2 signs1,Cl.sl (kQ .i64) a3 c3 ops1,aA]) (r:bk (GExpr×aa))
  (h:gC rec_ r1 signs1 ops1=some r):
  Calls Tryz.prog 74 #[vp b1 0,(Value.func (.func 227) #[vp b1 0] #[]),vs a2 signs1.length c2,vs a3 ops1.length c3] w0 fun e w=>(∃ rx:GExpr×aa,r= .ret rx∧∃ (a4:Option Addr) (c4:Nat) (a5:Option Addr) (c5:Nat) (a6:Option Addr) (c6:Nat) (a7:Option Addr) (c7:Nat) (C:NP),e= .returned (Value.agg (am rx.1 a4 c4 a5 c5 a6 c6))∧Bun C0 F w0 C w [MO.box b1 67 (ab rx.2 a7 c7)] [Cl.sl aj a4 c4 rx.1.Lin.L,Cl.sl ak a5 c5 rx.1.Idx,Cl.sl au a6 c6 rx.1.Args,Cl.sl ah a7 c7 rx.2.l])∨∃ (pa pn:Int),r= .pan pa pn∧e= .panicked [pe 114 pa pn]∧∃ C:NP,Bun C0 F w0 C w [] []:=by
 refine fj (l:=[vp b1 0,(Value.func (.func 227) #[vp b1 0] #[]),vs a2 signs1.length c2,vs a3 ops1.length c3]) Tryz.func74 rfl Tryz.ntmps74 rfl ?_
 rw[gC]at h
 refine sr (aN (cs:=#[vi 0,(aC ([]:List UInt8)),vi 0,vi 0,vi 0,vi 0,vi 0,vi 0,vi 0,vi 0,vs none 0 0,vs none 0 0,vs none 0 0]) hI gn rfl rfl bA rfl ?_)
 clear hI;intro b2 c8 w1 hI
 refine T ?_
 obtain⟨c9,f1,hB,hl1,hk1⟩:=hI.hands (.r (.l .n))
 refine dY h (fun _ hx1=>eC rec_ hrec c9 f1 w1 r1 b1 a1 c1 (hB.subs ⟨.z,(.s (.s (.s .z))),trivial⟩) _ hx1) (ky hk1) (gc (fs:=[vp b1 0]) (vs:=[]) (cap:=[]) rfl et uy trivial) ?_
 rintro⟨r2,s1⟩ hx1 h _ w2 ⟨a8,c10,a9,c11,a10,c12,a11,c13,c14,rfl,hB2⟩
 try dsimp only at h
 obtain⟨c15,hs1,hI⟩:=hk1 _ _ _ _ hB2
 dsimp only[ca,na]at hI
 refine⟨_,rfl,?_⟩
 refine aN (cs:=#[vi 0,(aC ([]:List UInt8)),vi 0,vi 0,vi 0,vi 0,vi 0,vi 0,vi 0,vi 0,vs none 0 0,vs none 0 0,vs none 0 0]) hI gn rfl rfl bA rfl ?_
 clear hI;intro b3 c16 w3 hI
 refine ay (new:=(aQ r2 a8 c10 a9 c11 a10 c12)) (cs':=(am r2 a8 c10 a9 c11 a10 c12)) hI .z gn rfl rfl et et rfl aF rfl rfl rfl ?_
 clear hI;intro c17 w4 hI
 refine T ?_
 refine cO (α:=Nat×aa×GExpr×(Option Addr)×Nat×(Option Addr)×Nat×(Option Addr)×Nat×(Option Addr)×Nat) (fun x=>fun w=>∃ C,Bun C0 F w0 C w [MO.box b1 67 (ab (x.2.1) (x.2.2.2.1) (x.2.2.2.2.1)),MO.box b2 39 #[vi 0,(aC ([]:List UInt8)),vi 0,vi 0,vi 0,vi 0,vi 0,vi 0,vi 0,vi 0,vs none 0 0,vs none 0 0,vs none 0 0],MO.box b3 39 (am (x.2.2.1) (x.2.2.2.2.2.1) (x.2.2.2.2.2.2.1) (x.2.2.2.2.2.2.2.1) (x.2.2.2.2.2.2.2.2.1) (x.2.2.2.2.2.2.2.2.2.1) (x.2.2.2.2.2.2.2.2.2.2))] [Cl.sl ah (x.2.2.2.1) (x.2.2.2.2.1) (x.2.1).l,Cl.sl aj (x.2.2.2.2.2.1) (x.2.2.2.2.2.2.1) (x.2.2.1).Lin.L,Cl.sl ak (x.2.2.2.2.2.2.2.1) (x.2.2.2.2.2.2.2.2.1) (x.2.2.1).Idx,Cl.sl au (x.2.2.2.2.2.2.2.2.2.1) (x.2.2.2.2.2.2.2.2.2.2) (x.2.2.1).Args,Cl.sl ie a2 c2 signs1,Cl.sl (kQ .i64) a3 c3 ops1,aA]∧bu signs1 ops1 rec_ (x.1) (x.2.1) (x.2.2.1)=some r) (fun x _=>x.1) (fun x=>[(0,vp b1 0),(1,(Value.func (.func 227) #[vp b1 0] #[])),(2,vs a2 signs1.length c2),(3,vs a3 ops1.length c3),(8,vp b2 0),(9,vp b3 0)]) (fu,s1,r2,a11,c13,a8,c10,a9,c11,a10,c12) ⟨_,hI.arr (.c (.s .z) (.c (.s .z) (.c .z .n))) ⟨(.s (.s (.s .z))),.z,(.s .z),(.s (.s .z)),(.s (.s (.s (.s (.s .z))))),(.s (.s (.s (.s (.s (.s .z)))))),(.s (.s (.s (.s (.s (.s (.s .z))))))),trivial⟩,h⟩ ⟨rfl,rfl,rfl,rfl,rfl,rfl,trivial⟩ ?_
 clear h hI;rintro⟨fuel1,r3,e1,a12,c18,a13,c19,a14,c20,a15,c21⟩ w5 ⟨c22,hI,h⟩
 dsimp only at hI h
 rcases fuel1 with _ | fuel1
 ·rw[bu]at h;cases h
 rw[bu]at h
 refine bz (e:=[(0,vp b1 0),(1,(Value.func (.func 227) #[vp b1 0] #[])),(2,vs a2 signs1.length c2),(3,vs a3 ops1.length c3),(8,vp b2 0),(9,vp b3 0)]) ⟨rfl,rfl,rfl,rfl,rfl,rfl,trivial⟩ ?_
 refine T ?_
 refine du (α:=Int×aa×(Option Addr)×Nat) (fun _=>⟨43,[]⟩) (fun x=>[(0,vp b1 0),(1,(Value.func (.func 227) #[vp b1 0] #[])),(2,vs a2 signs1.length c2),(3,vs a3 ops1.length c3),(8,vp b2 0),(9,vp b3 0),(10,vi (x.1))]) (fun x=>fun w=>∃ C,Bun C0 F w0 C w [MO.box b1 67 (ab (x.2.1) (x.2.2.1) (x.2.2.2)),MO.box b2 39 #[vi 0,(aC ([]:List UInt8)),vi 0,vi 0,vi 0,vi 0,vi 0,vi 0,vi 0,vi 0,vs none 0 0,vs none 0 0,vs none 0 0],MO.box b3 39 (am e1 a13 c19 a14 c20 a15 c21)] [Cl.sl ah (x.2.2.1) (x.2.2.2) (x.2.1).l,Cl.sl ie a2 c2 signs1,Cl.sl (kQ .i64) a3 c3 ops1,Cl.sl aj a13 c19 e1.Lin.L,Cl.sl ak a14 c20 e1.Idx,Cl.sl au a15 c21 e1.Args,aA]∧ik e1 rec_ (bu signs1 ops1 rec_ fuel1) (x.1) (x.2.1)=some r) ?_ ?_
 ·clear h hI;rintro⟨op1,r4,a16,c23⟩ w6 ⟨c24,hI,h⟩
  try dsimp only at hI h
  rw[ik]at h
  refine bz (e:=[(0,vp b1 0),(1,(Value.func (.func 227) #[vp b1 0] #[])),(2,vs a2 signs1.length c2),(3,vs a3 ops1.length c3),(8,vp b2 0),(9,vp b3 0),(10,vi op1)]) ⟨rfl,rfl,rfl,rfl,rfl,rfl,rfl,trivial⟩ ?_
  refine aB (T ?_)
  refine bc h et (fun hb h=> ?_) (fun hb h=> ?_)
  ·refine T ?_
   refine ay (new:=(aQ e1 a13 c19 a14 c20 a15 c21)) (cs':=(am e1 a13 c19 a14 c20 a15 c21)) hI (.s .z) gn rfl rfl et et rfl aF rfl rfl rfl ?_
   clear hI;intro c25 w7 hI
   refine nk (al ?_)
   obtain rfl:=ac h
   exact jt (vs:=[(Value.agg (am e1 a13 c19 a14 c20 a15 c21))]) Tryz.results74 ⟨⟨_,aZ rfl rfl,ia (l:=(aQ e1 a13 c19 a14 c20 a15 c21)) nq rfl aF (CellsAt.of_blk (hI.blk (.s .z)) rfl)⟩,trivial⟩ (.inl ⟨_,rfl,a13,c19,a14,c20,a15,c21,a16,c23,_,rfl,hI.arr (.c .z .n) ⟨(.s (.s (.s .z))),(.s (.s (.s (.s .z)))),(.s (.s (.s (.s (.s .z))))),.z,trivial⟩⟩)
  refine T ?_
  rcases ii h with⟨⟨r5,s2⟩,hx2,h⟩ | ⟨pa_,pn_,hx2,hp_⟩
  rotate_left
  ·subst hp_
   refine bx [3,6] false (.c (0,.q) (.c (2,.q) (.two 1 (.c (3,.s) co) 3 (.c (1,.s) co)))) hI (by kernel_rfl) (by kernel_rfl) ?_
   clear hI;intro w12 hI
   refine V ?_
   refine gV ?_ ?_
   ·skip
    refine dK rfl gn rfl (aJ (l:=(aQ e1 a13 c19 a14 c20 a15 c21)) rfl et nq rfl aF (CellsAt.of_blk (hI.blk (.s (.s .z))) rfl)) SX.self ?_
    refine hO (F:=F) (C:=c24) rfl rfl ?_
    obtain⟨c26,f2,hB,hl2,hk2⟩:=hI.hands (.l (.r (.r .n)))
    refine eB rfl gn rfl (gc (fs:=[vp b1 0]) (vs:=[]) (cap:=[]) rfl et uy trivial) (Calls.mono (eC rec_ hrec c26 f2 w12 r4 b1 a16 c23 (hB.subs ⟨.z,(.s (.s (.s (.s (.s (.s .z)))))),trivial⟩) _ hx2) ?_)
    intro e_ w_ hq_;obtain⟨rfl,C_,hB_⟩:=eo hq_;obtain⟨C9_,-,hI_⟩:=hk2 _ _ _ _ hB_;exact .inr ⟨_,rfl,ib (.inr ⟨_,_,rfl,rfl,⟨_,hI_.arr .n trivial⟩⟩)⟩
   refine dw (F:=F) (C:=c24) rfl rfl ?_
   obtain⟨c26,f2,hB,hl2,hk2⟩:=hI.hands (.l (.r (.r .n)))
   refine eB rfl gn rfl (gc (fs:=[vp b1 0]) (vs:=[]) (cap:=[]) rfl et uy trivial) (Calls.mono (eC rec_ hrec c26 f2 w12 r4 b1 a16 c23 (hB.subs ⟨.z,(.s (.s (.s (.s (.s (.s .z)))))),trivial⟩) _ hx2) ?_)
   intro e_ w_ hq_;obtain⟨rfl,C_,hB_⟩:=eo hq_;obtain⟨C9_,-,hI_⟩:=hk2 _ _ _ _ hB_;exact .inr ⟨_,rfl,ib (.inr ⟨_,_,rfl,rfl,⟨_,hI_.arr .n trivial⟩⟩)⟩
  try dsimp only at h
  refine bx [3,6] false (.c (0,.q) (.c (2,.q) (.two 1 (.c (3,.s) co) 3 (.c (1,.s) co)))) hI (by kernel_rfl) (by kernel_rfl) ?_
  clear hI;intro w13 hI
  refine ge (α:=(Option Addr)×Nat×(Option Addr)×Nat×(Option Addr)×Nat×(Option Addr)×Nat×NP) (T:=co) (fun x=>[(0,vp b1 0),(1,(Value.func (.func 227) #[vp b1 0] #[])),(2,vs a2 signs1.length c2),(3,vs a3 ops1.length c3),(8,vp b2 0),(9,vp b3 0),(10,vi op1),(34,vi op1),(35,(vb (decide (op1=0)))),(37,vi op1),(38,(Value.agg (am e1 a13 c19 a14 c20 a15 c21))),(39,(Value.func (.func 227) #[vp b1 0] #[])),(40,(Value.agg (am r5 (x.1) (x.2.1) (x.2.2.1) (x.2.2.2.1) (x.2.2.2.2.1) (x.2.2.2.2.2.1))))]) (fun x w=>Bun C0 F w0 (x.2.2.2.2.2.2.2.2) w [MO.box b1 67 (ab s2 (x.2.2.2.2.2.2.1) (x.2.2.2.2.2.2.2.1)),MO.box b2 39 #[vi 0,(aC ([]:List UInt8)),vi 0,vi 0,vi 0,vi 0,vi 0,vi 0,vi 0,vi 0,vs none 0 0,vs none 0 0,vs none 0 0],MO.box b3 39 (am e1 a13 c19 a14 c20 a15 c21)] [Cl.sl aj (x.1) (x.2.1) r5.Lin.L,Cl.sl ak (x.2.2.1) (x.2.2.2.1) r5.Idx,Cl.sl au (x.2.2.2.2.1) (x.2.2.2.2.2.1) r5.Args,Cl.sl ah (x.2.2.2.2.2.2.1) (x.2.2.2.2.2.2.2.1) s2.l,Cl.sl ah a16 c23 r4.l,Cl.sl ie a2 c2 signs1,Cl.sl (kQ .i64) a3 c3 ops1,Cl.sl aj a13 c19 e1.Lin.L,Cl.sl ak a14 c20 e1.Idx,Cl.sl au a15 c21 e1.Args,aA]) (fun x w=>SN [] (DM true F (x.2.2.2.2.2.2.2.2)) w) ?_ ?_
  ·clear hI;rintro⟨a17,c27,a18,c28,a19,c29,a20,c30,c35⟩ w11 hI
   try dsimp only at hI ⊢
   unfold co
   refine mw (c:=au) (xs:=([e1,r5]:List GExpr)) (vs:=[(0,(Value.agg (am e1 a13 c19 a14 c20 a15 c21))),(1,(Value.agg (am r5 a17 c27 a18 c28 a19 c29)))]) (cs:=#[vi e1.Op,(aC e1.Name),vi e1.Val.N,vi e1.Val.D,vi e1.Type_.Kind,vi e1.Type_.Bits,vi e1.Type_.Frac,vi e1.Type_.Round,vi e1.Type_.Over,vi e1.Lin.K,vs a13 e1.Lin.L.length c19,vs a14 e1.Idx.length c20,vs a15 e1.Args.length c21,vi r5.Op,(aC r5.Name),vi r5.Val.N,vi r5.Val.D,vi r5.Type_.Kind,vi r5.Type_.Bits,vi r5.Type_.Frac,vi r5.Type_.Round,vi r5.Type_.Over,vi r5.Lin.K,vs a17 r5.Lin.L.length c27,vs a18 r5.Idx.length c28,vs a19 r5.Args.length c29]) (css:=[(aQ e1 a13 c19 a14 c20 a15 c21),(aQ r5 a17 c27 a18 c28 a19 c29)]) hI rfl gn rfl rfl xP kx rfl ⟨rfl,et,⟨rfl,et,trivial⟩⟩ (by kernel_rfl) ⟨(eQ ⟨a13,c19,a14,c20,a15,c21,rfl,hI.get (.s (.s (.s (.s (.s (.s (.s .z))))))),hI.get (.s (.s (.s (.s (.s (.s (.s (.s .z)))))))),hI.get (.s (.s (.s (.s (.s (.s (.s (.s (.s .z)))))))))⟩),⟨(eQ ⟨a17,c27,a18,c28,a19,c29,rfl,hI.get .z,hI.get (.s .z),hI.get (.s (.s .z))⟩),trivial⟩⟩ rfl rfl rfl ?_
   clear hI;intro b4 c33 w9 hI
   refine pt rfl gn rfl (fun w'=>(aV (vs:=[(0,vi op1),(6,vs (some ⟨b4,0,none⟩) ([e1,r5]:List GExpr).length 2)]) (cs:=#[vi op1,(aC ([]:List UInt8)),vi 0,vi 0,vi 0,vi 0,vi 0,vi 0,vi 0,vi 0,vs none 0 0,vs none 0 0,vs (some ⟨b4,0,none⟩) ([e1,r5]:List GExpr).length 2]) rfl ⟨rfl,et,⟨rfl,et,trivial⟩⟩ (by kernel_rfl))) ?_
   refine fT (new:=[vi op1,(aC ([]:List UInt8)),vi 0,vi 0,vi 0,vi 0,vi 0,vi 0,vi 0,vi 0,vs none 0 0,vs none 0 0,vs (some ⟨b4,0,none⟩) ([e1,r5]:List GExpr).length 2]) (cs':=#[vi op1,(aC ([]:List UInt8)),vi 0,vi 0,vi 0,vi 0,vi 0,vi 0,vi 0,vi 0,vs none 0 0,vs none 0 0,vs (some ⟨b4,0,none⟩) ([e1,r5]:List GExpr).length 2]) hI (.s (.s (.s .z))) rfl gn rfl rfl et et rfl aF rfl rfl rfl ?_
   clear hI;intro c34 w10 hI
   refine pu ?_
   have hI:=hI.add (c:=Cl.sl aj none 0 ([]:List GMono)) SlC.nil
   have hI:=hI.add (c:=Cl.sl ak none 0 ([]:List GIndex)) SlC.nil
   obtain⟨c36,hI⟩:=hI.release .z
   exact cg (fuel1,s2,(⟨op1,([]:List UInt8),(⟨0,0⟩:GVal),(⟨0,0,0,0,0⟩:GType),(⟨0,([]:List GMono)⟩:GLin),([]:List GIndex),([e1,r5]:List GExpr)⟩:GExpr),a20,c30,none,0,none,0,some ⟨b4,0,none⟩,2) ⟨rfl,rfl,rfl,rfl,rfl,rfl,trivial⟩ ⟨_,hI.arr (.c .z (.c .z (.c .z .n))) ⟨(.s (.s (.s (.s (.s (.s .z)))))),(.s (.s .z)),(.s .z),.z,(.s (.s (.s (.s (.s (.s (.s (.s .z)))))))),(.s (.s (.s (.s (.s (.s (.s (.s (.s .z))))))))),(.s (.s (.s (.s (.s (.s (.s (.s (.s (.s (.s (.s (.s .z))))))))))))),trivial⟩,h⟩ (Nat.lt_succ_self _)
  intro hk_tr_parser_reader_chain_w4_3_0
  refine V ?_
  refine gV ?_ ?_
  ·skip
   refine dK rfl gn rfl (aJ (l:=(aQ e1 a13 c19 a14 c20 a15 c21)) rfl et nq rfl aF (CellsAt.of_blk (hI.blk (.s (.s .z))) rfl)) SX.self ?_
   refine hO (F:=F) (C:=c24) rfl rfl ?_
   obtain⟨c26,f2,hB,hl2,hk2⟩:=hI.hands (.l (.r (.r .n)))
   refine ez rfl gn rfl (gc (fs:=[vp b1 0]) (vs:=[]) (cap:=[]) rfl et uy trivial) (Calls.mono (eC rec_ hrec c26 f2 w13 r4 b1 a16 c23 (hB.subs ⟨.z,(.s (.s (.s (.s (.s (.s .z)))))),trivial⟩) _ hx2) ?_)
   intro e_ w8 hq_;obtain⟨a17,c27,a18,c28,a19,c29,a20,c30,c31,rfl,hB2⟩:=en hq_
   obtain⟨c32,hs2,hI⟩:=hk2 _ _ _ _ hB2
   dsimp only[ca,na]at hI
   refine⟨_,rfl,DM true F c32,hs2,?_⟩
   exact cM (hk_tr_parser_reader_chain_w4_3_0 (a17,c27,a18,c28,a19,c29,a20,c30,c32) _ (hI.arr (.c .z (.c .z (.c .z .n))) ⟨.z,(.s .z),(.s (.s .z)),(.s (.s (.s .z))),(.s (.s (.s (.s .z)))),(.s (.s (.s (.s (.s .z))))),(.s (.s (.s (.s (.s (.s .z)))))),(.s (.s (.s (.s (.s (.s (.s .z))))))),(.s (.s (.s (.s (.s (.s (.s (.s .z)))))))),(.s (.s (.s (.s (.s (.s (.s (.s (.s .z))))))))),(.s (.s (.s (.s (.s (.s (.s (.s (.s (.s .z)))))))))),trivial⟩)) ⟨rfl,rfl,rfl,rfl,rfl,rfl,rfl,rfl,rfl,rfl,rfl,rfl,rfl,trivial⟩
  refine dw (F:=F) (C:=c24) rfl rfl ?_
  obtain⟨c26,f2,hB,hl2,hk2⟩:=hI.hands (.l (.r (.r .n)))
  refine ez rfl gn rfl (gc (fs:=[vp b1 0]) (vs:=[]) (cap:=[]) rfl et uy trivial) (Calls.mono (eC rec_ hrec c26 f2 w13 r4 b1 a16 c23 (hB.subs ⟨.z,(.s (.s (.s (.s (.s (.s .z)))))),trivial⟩) _ hx2) ?_)
  intro e_ w8 hq_;obtain⟨a17,c27,a18,c28,a19,c29,a20,c30,c31,rfl,hB2⟩:=en hq_
  obtain⟨c32,hs2,hI⟩:=hk2 _ _ _ _ hB2
  dsimp only[ca,na]at hI
  refine⟨_,rfl,DM true F c32,hs2,?_⟩
  refine dK rfl gn rfl (aJ (l:=(aQ e1 a13 c19 a14 c20 a15 c21)) rfl et nq rfl aF (CellsAt.of_blk (hI.blk (.s (.s .z))) rfl)) SX.self ?_
  exact cM (hk_tr_parser_reader_chain_w4_3_0 (a17,c27,a18,c28,a19,c29,a20,c30,c32) _ (hI.arr (.c .z (.c .z (.c .z .n))) ⟨.z,(.s .z),(.s (.s .z)),(.s (.s (.s .z))),(.s (.s (.s (.s .z)))),(.s (.s (.s (.s (.s .z))))),(.s (.s (.s (.s (.s (.s .z)))))),(.s (.s (.s (.s (.s (.s (.s .z))))))),(.s (.s (.s (.s (.s (.s (.s (.s .z)))))))),(.s (.s (.s (.s (.s (.s (.s (.s (.s .z))))))))),(.s (.s (.s (.s (.s (.s (.s (.s (.s (.s .z)))))))))),trivial⟩)) ⟨rfl,rfl,rfl,rfl,rfl,rfl,rfl,rfl,rfl,rfl,rfl,rfl,rfl,trivial⟩
 refine T ?_
 refine cO (α:=Nat×Int×Int×aa×(Option Addr)×Nat) (fun x=>fun w=>∃ C,Bun C0 F w0 C w [MO.box b1 67 (ab (x.2.2.2.1) (x.2.2.2.2.1) (x.2.2.2.2.2)),MO.box b2 39 #[vi 0,(aC ([]:List UInt8)),vi 0,vi 0,vi 0,vi 0,vi 0,vi 0,vi 0,vi 0,vs none 0 0,vs none 0 0,vs none 0 0],MO.box b3 39 (am e1 a13 c19 a14 c20 a15 c21)] [Cl.sl ah (x.2.2.2.2.1) (x.2.2.2.2.2) (x.2.2.2.1).l,Cl.sl ie a2 c2 signs1,Cl.sl (kQ .i64) a3 c3 ops1,Cl.sl aj a13 c19 e1.Lin.L,Cl.sl ak a14 c20 e1.Idx,Cl.sl au a15 c21 e1.Args,aA]∧bO signs1 ops1 e1 rec_ (bu signs1 ops1 rec_ fuel1) (x.1) (x.2.1) (x.2.2.1) (x.2.2.2.1)=some r) (fun x _=>x.1) (fun x=>[(0,vp b1 0),(1,(Value.func (.func 227) #[vp b1 0] #[])),(2,vs a2 signs1.length c2),(3,vs a3 ops1.length c3),(8,vp b2 0),(9,vp b3 0),(10,vi (x.2.1)),(15,vs a2 signs1.length c2),(16,vi (signs1.length:Int)),(17,vi (x.2.2.1))]) (fu,0,0,r3,a12,c18) ⟨_,hI.arr (.c .z (.c .z (.c .z .n))) ⟨.z,(.s (.s (.s (.s .z)))),(.s (.s (.s (.s (.s .z))))),(.s .z),(.s (.s .z)),(.s (.s (.s .z))),(.s (.s (.s (.s (.s (.s .z)))))),trivial⟩,h⟩ ⟨rfl,rfl,rfl,rfl,rfl,rfl,rfl,rfl,rfl,rfl,trivial⟩ ?_
 clear h hI;rintro⟨fuel2,op2,i1,r6,a21,c37⟩ w14 ⟨c38,hI,h⟩
 dsimp only at hI h
 rcases fuel2 with _ | fuel2
 ·rw[bO]at h;cases h
 rw[bO]at h
 refine bz (e:=[(0,vp b1 0),(1,(Value.func (.func 227) #[vp b1 0] #[])),(2,vs a2 signs1.length c2),(3,vs a3 ops1.length c3),(8,vp b2 0),(9,vp b3 0),(10,vi op2),(15,vs a2 signs1.length c2),(16,vi (signs1.length:Int)),(17,vi i1)]) ⟨rfl,rfl,rfl,rfl,rfl,rfl,rfl,rfl,rfl,rfl,trivial⟩ ?_
 refine T ?_
 refine aB (bc h et (fun hb h=> ?_) (fun hb h=> ?_))
 ·refine T ?_
  refine du (α:=Int×aa×(Option Addr)×Nat) (fun _=>⟨43,[]⟩) (fun x=>[(0,vp b1 0),(1,(Value.func (.func 227) #[vp b1 0] #[])),(2,vs a2 signs1.length c2),(3,vs a3 ops1.length c3),(8,vp b2 0),(9,vp b3 0),(10,vi (x.1)),(15,vs a2 signs1.length c2),(16,vi (signs1.length:Int)),(17,vi i1)]) (fun x=>fun w=>∃ C,Bun C0 F w0 C w [MO.box b1 67 (ab (x.2.1) (x.2.2.1) (x.2.2.2)),MO.box b2 39 #[vi 0,(aC ([]:List UInt8)),vi 0,vi 0,vi 0,vi 0,vi 0,vi 0,vi 0,vi 0,vs none 0 0,vs none 0 0,vs none 0 0],MO.box b3 39 (am e1 a13 c19 a14 c20 a15 c21)] [Cl.sl ah (x.2.2.1) (x.2.2.2) (x.2.1).l,Cl.sl ie a2 c2 signs1,Cl.sl (kQ .i64) a3 c3 ops1,Cl.sl aj a13 c19 e1.Lin.L,Cl.sl ak a14 c20 e1.Idx,Cl.sl au a15 c21 e1.Args,aA]∧fD (bO signs1 ops1 e1 rec_ (bu signs1 ops1 rec_ fuel1) fuel2) i1 (x.1) (x.2.1)=some r) ?_ ?_
  ·clear h hI;rintro⟨op3,r7,a22,c39⟩ w15 ⟨c40,hI,h⟩
   try dsimp only at hI h
   rw[fD]at h
   refine bz (e:=[(0,vp b1 0),(1,(Value.func (.func 227) #[vp b1 0] #[])),(2,vs a2 signs1.length c2),(3,vs a3 ops1.length c3),(8,vp b2 0),(9,vp b3 0),(10,vi op3),(15,vs a2 signs1.length c2),(16,vi (signs1.length:Int)),(17,vi i1)]) ⟨rfl,rfl,rfl,rfl,rfl,rfl,rfl,rfl,rfl,rfl,trivial⟩ ?_
   refine T ?_
   refine bl ?_
   exact cg (fuel2,op3,az (i1+1),r7,a22,c39) ⟨rfl,rfl,rfl,rfl,rfl,rfl,rfl,rfl,rfl,rfl,trivial⟩ ⟨_,hI.arr (.c .z (.c .z (.c .z .n))) ⟨.z,(.s .z),(.s (.s .z)),(.s (.s (.s .z))),(.s (.s (.s (.s .z)))),(.s (.s (.s (.s (.s .z))))),(.s (.s (.s (.s (.s (.s .z)))))),trivial⟩,h⟩ (Nat.lt_succ_self _)
  refine T ?_
  obtain⟨e2,hx3,h⟩:=af h
  obtain⟨ad1,cs1,hA1,hr1,hq1⟩:=hI.clat (.s .z) hx3
  obtain rfl:cs1=[(aC e2)]:=hr1
  refine sI ?_
  refine T ?_
  obtain⟨c41,f3,hB,hl3,hk3⟩:=hI.hands (.l (.r (.r .n)))
  obtain⟨⟨r8,s3⟩,hx4,h⟩:=af h
  try dsimp only at h
  refine p7 (fun v_ w_=>v_=(vb r8)∧∃ (a23:Option Addr),∃ (c42:Nat),∃ C_:NP,Bun c41 f3 w14 C_ w_ [MO.box b1 67 (ab s3 a23 c42)] [Cl.sl ah a23 c42 s3.l]) (bE rfl rfl rfl rfl) rfl (fun hc=>(ag (vs:=[vp b1 0,(aC e2)]) rfl mK ⟨(bg et hc),⟨(bg et hc),trivial⟩⟩)) (fun hc=>(aM c41 f3 w14 r6 e2 b1 a21 c37 (hB.subs ⟨.z,trivial⟩) _ (yE hc hx4)).mono fun e_ w_ hq_=>(let ⟨a23,c42,C_,he_,hB_⟩:=hq_;⟨_,he_,rfl,a23,c42,C_,hB_⟩)) ?_
  intro v_ w16 h1_ h2_
  obtain⟨hv_,a23,c42,c43,hB2⟩:gv (decide (op2=0)) v_=gv (decide (op2=0)) (vb r8)∧∃ (a23:Option Addr),∃ (c42:Nat),∃ C_:NP,Bun c41 f3 w14 C_ w16 [MO.box b1 67 (ab s3 a23 c42)] [Cl.sl ah a23 c42 s3.l]:=by
   rcases Bool.eq_false_or_eq_true (decide (op2=0))with hc | hc
   ·obtain⟨rfl,hq_⟩:=h1_ hc;exact⟨rfl,hq_⟩
   have e1_:=h2_ hc;subst e1_;obtain⟨rfl,rfl⟩:=yF hc hx4;exact⟨by rw[om hc,om hc],a21,c37,_,hB.subs ⟨.z,trivial⟩⟩
  rw[hv_];clear h1_ h2_
  obtain⟨c44,hs3,hI⟩:=hk3 _ _ _ _ hB2
  dsimp only[ca,na]at hI
  refine T ?_
  refine bc h et (fun hb h=> ?_) (fun hb h=> ?_)
  ·refine T ?_
   obtain⟨e3,hx5,h⟩:=af h
   obtain⟨ad2,cs2,hA2,hr2,hq2⟩:=hI.clat (.s (.s (.s .z))) hx5
   obtain rfl:cs2=[vi e3]:=hr2
   refine sI ?_
   refine T ?_
   refine bl ?_
   exact bi (e3,s3,a23,c42) ⟨rfl,rfl,rfl,rfl,rfl,rfl,rfl,rfl,rfl,rfl,trivial⟩ ⟨_,hI.arr (.c .z (.c .z (.c .z .n))) ⟨.z,(.s (.s .z)),(.s (.s (.s .z))),(.s (.s (.s (.s .z)))),(.s (.s (.s (.s (.s .z))))),(.s (.s (.s (.s (.s (.s .z)))))),(.s (.s (.s (.s (.s (.s (.s .z))))))),trivial⟩,h⟩ rfl
  exact cc (bi (op2,s3,a23,c42) ⟨rfl,rfl,rfl,rfl,rfl,rfl,rfl,rfl,rfl,rfl,trivial⟩ ⟨_,hI.arr (.c .z (.c .z (.c .z .n))) ⟨.z,(.s (.s .z)),(.s (.s (.s .z))),(.s (.s (.s (.s .z)))),(.s (.s (.s (.s (.s .z))))),(.s (.s (.s (.s (.s (.s .z)))))),(.s (.s (.s (.s (.s (.s (.s .z))))))),trivial⟩,h⟩ rfl)
 refine dv ?_
 refine kb ?_
 exact bi (op2,r6,a21,c37) ⟨rfl,rfl,rfl,rfl,rfl,rfl,rfl,trivial⟩ ⟨_,hI.arr (.c .z (.c .z (.c .z .n))) ⟨.z,(.s .z),(.s (.s .z)),(.s (.s (.s .z))),(.s (.s (.s (.s .z)))),(.s (.s (.s (.s (.s .z))))),(.s (.s (.s (.s (.s (.s .z)))))),trivial⟩,h⟩ rfl
theorem gi (rec_:(aa→Option (bk (GExpr×aa)))) (hrec:∀ (C0 F:NP) (w0:World) (r1:aa) (b1:Nat) (a1:Option Addr) (c1:Nat) (hI:Bun C0 F w0 C0 w0 [MO.box b1 67 (ab r1 a1 c1)] [Cl.sl ah a1 c1 r1.l,aA]) (r:bk (GExpr×aa)) (h:rec_ r1=some r),Calls Tryz.prog 34 #[vp b1 0] w0 fun e w=>(∃ rx:GExpr×aa,r= .ret rx∧∃ (a2:Option Addr) (c2:Nat) (a3:Option Addr) (c3:Nat) (a4:Option Addr) (c4:Nat) (a5:Option Addr) (c5:Nat) (C:NP),e= .returned (Value.agg (am rx.1 a2 c2 a3 c3 a4 c4))∧Bun C0 F w0 C w [MO.box b1 67 (ab rx.2 a5 c5)] [Cl.sl aj a2 c2 rx.1.Lin.L,Cl.sl ak a3 c3 rx.1.Idx,Cl.sl au a4 c4 rx.1.Args,Cl.sl ah a5 c5 rx.2.l])∨∃ (pa pn:Int),r= .pan pa pn∧e= .panicked [pe 114 pa pn]∧∃ C:NP,Bun C0 F w0 C w [] []) (C0 F:NP) (w0:World) (r1:aa) (b1:Nat) (a1:Option Addr) (c1:Nat) (hI:Bun C0 F w0 C0 w0 [MO.box b1 67 (ab r1 a1 c1)] [Cl.sl ah a1 c1 r1.l,aA]) (r:bk (GExpr×aa))
  (h:dL rec_ r1=some r):
  Calls Tryz.prog 193 #[vp b1 0] w0 fun e w=>(∃ rx:GExpr×aa,r= .ret rx∧∃ (a2:Option Addr) (c2:Nat) (a3:Option Addr) (c3:Nat) (a4:Option Addr) (c4:Nat) (a5:Option Addr) (c5:Nat) (C:NP),e= .returned (Value.agg (am rx.1 a2 c2 a3 c3 a4 c4))∧Bun C0 F w0 C w [MO.box b1 67 (ab rx.2 a5 c5)] [Cl.sl aj a2 c2 rx.1.Lin.L,Cl.sl ak a3 c3 rx.1.Idx,Cl.sl au a4 c4 rx.1.Args,Cl.sl ah a5 c5 rx.2.l])∨∃ (pa pn:Int),r= .pan pa pn∧e= .panicked [pe 114 pa pn]∧∃ C:NP,Bun C0 F w0 C w [] []:=by
 refine fj (l:=[vp b1 0]) Tryz.func193 rfl Tryz.ntmps193 rfl ?_
 rw[dL]at h
 refine sr (aN (cs:=#[vi 0,(aC ([]:List UInt8)),vi 0,vi 0,vi 0,vi 0,vi 0,vi 0,vi 0,vi 0,vs none 0 0,vs none 0 0,vs none 0 0]) hI gn rfl rfl bA rfl ?_)
 clear hI;intro b2 c6 w1 hI
 refine T ?_
 refine sq (mI (vs:=[vp b1 0]) rfl rfl ⟨et,trivial⟩) ?_
 refine jR (c:=ie) (xs:=([([43]:List UInt8),([45]:List UInt8)]:List (List UInt8))) (vs:=[(0,(aC ([43]:List UInt8))),(1,(aC ([45]:List UInt8)))]) (cs:=#[(aC ([43]:List UInt8)),(aC ([45]:List UInt8))]) (css:=[[(aC ([43]:List UInt8))],[(aC ([45]:List UInt8))]]) hI gn rfl rfl DO ol rfl ⟨rfl,ai,⟨rfl,ai,trivial⟩⟩ (by kernel_rfl) ⟨rfl,⟨rfl,trivial⟩⟩ rfl rfl rfl ?_
 clear hI;intro b3 c7 w2 hI
 refine jR (c:=(kQ .i64)) (xs:=([4,5]:List Int)) (vs:=[(0,vi 4),(1,vi 5)]) (cs:=#[vi 4,vi 5]) (css:=[[vi 4],[vi 5]]) hI gn rfl rfl B5 uM rfl ⟨rfl,ai,⟨rfl,ai,trivial⟩⟩ (by kernel_rfl) ⟨rfl,⟨rfl,trivial⟩⟩ rfl rfl rfl ?_
 clear hI;intro b4 c8 w3 hI
 obtain⟨c9,hI⟩:=hI.release (.s .z)
 obtain⟨c10,hI⟩:=hI.release .z
 obtain⟨c11,f1,hB,hl1,hk1⟩:=hI.hands (.r (.l .n))
 refine dY h (fun _ hx1=>ot rec_ hrec c11 f1 w3 r1 ([([43]:List UInt8),([45]:List UInt8)]:List (List UInt8)) ([4,5]:List Int) b1 a1 c1 (some ⟨b3,0,none⟩) 2 (some ⟨b4,0,none⟩) 2 (hB.subs ⟨(.s (.s .z)),(.s .z),.z,(.s (.s (.s .z))),trivial⟩) _ hx1) (ky hk1) (ag rfl yr ⟨et,⟨et,⟨et,⟨et,trivial⟩⟩⟩⟩) ?_
 rintro⟨r2,s1⟩ hx1 h _ w4 ⟨a6,c12,a7,c13,a8,c14,a9,c15,c16,rfl,hB2⟩
 try dsimp only at h
 obtain⟨c17,hs1,hI⟩:=hk1 _ _ _ _ hB2
 dsimp only[ca,na]at hI
 refine⟨_,rfl,?_⟩
 refine ay (new:=(aQ r2 a6 c12 a7 c13 a8 c14)) (cs':=(am r2 a6 c12 a7 c13 a8 c14)) hI (.s .z) gn rfl rfl et et rfl aF rfl rfl rfl ?_
 clear hI;intro c18 w5 hI
 refine nk (al ?_)
 obtain rfl:=ac h
 refine QG ?_
 exact .inl ⟨_,rfl,a6,c12,a7,c13,a8,c14,a9,c15,_,rfl,hI.arr GO SU⟩
def cp:Tr:=(.c (4,.s) (.c (5,.q) (.c (6,.s) .n)))
theorem ou (rec_:(aa→Option (bk (GExpr×aa)))) (hrec:∀ (C0 F:NP) (w0:World) (r1:aa) (b1:Nat) (a1:Option Addr) (c1:Nat) (hI:Bun C0 F w0 C0 w0 [MO.box b1 67 (ab r1 a1 c1)] [Cl.sl ah a1 c1 r1.l,aA]) (r:bk (GExpr×aa)) (h:rec_ r1=some r),Calls Tryz.prog 34 #[vp b1 0] w0 fun e w=>(∃ rx:GExpr×aa,r= .ret rx∧∃ (a2:Option Addr) (c2:Nat) (a3:Option Addr) (c3:Nat) (a4:Option Addr) (c4:Nat) (a5:Option Addr) (c5:Nat) (C:NP),e= .returned (Value.agg (am rx.1 a2 c2 a3 c3 a4 c4))∧Bun C0 F w0 C w [MO.box b1 67 (ab rx.2 a5 c5)] [Cl.sl aj a2 c2 rx.1.Lin.L,Cl.sl ak a3 c3 rx.1.Idx,Cl.sl au a4 c4 rx.1.Args,Cl.sl ah a5 c5 rx.2.l])∨∃ (pa pn:Int),r= .pan pa pn∧e= .panicked [pe 114 pa pn]∧∃ C:NP,Bun C0 F w0 C w [] []) (C0 F:NP) (w0:World) (r1:aa) (signs1:List (List UInt8)) (ops1:List Int) (b1:Nat) (a1:Option Addr) (c1:Nat) (a2:Option Addr) (c2:Nat) (a3:Option Addr) (c3:Nat) (hI:Bun C0 F w0 C0 w0 [MO.box b1 67 (ab r1 a1 c1)] [Cl.sl ah a1 c1 r1.l,Cl.sl ie a2 c2 signs1,Cl.sl (kQ .i64) a3 c3 ops1,aA]) (r:bk (GExpr×aa))
  (h:eW rec_ r1 signs1 ops1=some r):
  Calls Tryz.prog 74 #[vp b1 0,(Value.func (.func 193) #[vp b1 0] #[]),vs a2 signs1.length c2,vs a3 ops1.length c3] w0 fun e w=>(∃ rx:GExpr×aa,r= .ret rx∧∃ (a4:Option Addr) (c4:Nat) (a5:Option Addr) (c5:Nat) (a6:Option Addr) (c6:Nat) (a7:Option Addr) (c7:Nat) (C:NP),e= .returned (Value.agg (am rx.1 a4 c4 a5 c5 a6 c6))∧Bun C0 F w0 C w [MO.box b1 67 (ab rx.2 a7 c7)] [Cl.sl aj a4 c4 rx.1.Lin.L,Cl.sl ak a5 c5 rx.1.Idx,Cl.sl au a6 c6 rx.1.Args,Cl.sl ah a7 c7 rx.2.l])∨∃ (pa pn:Int),r= .pan pa pn∧e= .panicked [pe 114 pa pn]∧∃ C:NP,Bun C0 F w0 C w [] []:=by
 refine fj (l:=[vp b1 0,(Value.func (.func 193) #[vp b1 0] #[]),vs a2 signs1.length c2,vs a3 ops1.length c3]) Tryz.func74 rfl Tryz.ntmps74 rfl ?_
 rw[eW]at h
 refine sr (aN (cs:=#[vi 0,(aC ([]:List UInt8)),vi 0,vi 0,vi 0,vi 0,vi 0,vi 0,vi 0,vi 0,vs none 0 0,vs none 0 0,vs none 0 0]) hI gn rfl rfl bA rfl ?_)
 clear hI;intro b2 c8 w1 hI
 refine T ?_
 obtain⟨c9,f1,hB,hl1,hk1⟩:=hI.hands (.r (.l .n))
 refine dY h (fun _ hx1=>gi rec_ hrec c9 f1 w1 r1 b1 a1 c1 (hB.subs ⟨.z,(.s (.s (.s .z))),trivial⟩) _ hx1) (ky hk1) (gc (fs:=[vp b1 0]) (vs:=[]) (cap:=[]) rfl et uz trivial) ?_
 rintro⟨r2,s1⟩ hx1 h _ w2 ⟨a8,c10,a9,c11,a10,c12,a11,c13,c14,rfl,hB2⟩
 try dsimp only at h
 obtain⟨c15,hs1,hI⟩:=hk1 _ _ _ _ hB2
 dsimp only[ca,na]at hI
 refine⟨_,rfl,?_⟩
 refine aN (cs:=#[vi 0,(aC ([]:List UInt8)),vi 0,vi 0,vi 0,vi 0,vi 0,vi 0,vi 0,vi 0,vs none 0 0,vs none 0 0,vs none 0 0]) hI gn rfl rfl bA rfl ?_
 clear hI;intro b3 c16 w3 hI
 refine ay (new:=(aQ r2 a8 c10 a9 c11 a10 c12)) (cs':=(am r2 a8 c10 a9 c11 a10 c12)) hI .z gn rfl rfl et et rfl aF rfl rfl rfl ?_
 clear hI;intro c17 w4 hI
 refine T ?_
 refine cO (α:=Nat×aa×GExpr×(Option Addr)×Nat×(Option Addr)×Nat×(Option Addr)×Nat×(Option Addr)×Nat) (fun x=>fun w=>∃ C,Bun C0 F w0 C w [MO.box b1 67 (ab (x.2.1) (x.2.2.2.1) (x.2.2.2.2.1)),MO.box b2 39 #[vi 0,(aC ([]:List UInt8)),vi 0,vi 0,vi 0,vi 0,vi 0,vi 0,vi 0,vi 0,vs none 0 0,vs none 0 0,vs none 0 0],MO.box b3 39 (am (x.2.2.1) (x.2.2.2.2.2.1) (x.2.2.2.2.2.2.1) (x.2.2.2.2.2.2.2.1) (x.2.2.2.2.2.2.2.2.1) (x.2.2.2.2.2.2.2.2.2.1) (x.2.2.2.2.2.2.2.2.2.2))] [Cl.sl ah (x.2.2.2.1) (x.2.2.2.2.1) (x.2.1).l,Cl.sl aj (x.2.2.2.2.2.1) (x.2.2.2.2.2.2.1) (x.2.2.1).Lin.L,Cl.sl ak (x.2.2.2.2.2.2.2.1) (x.2.2.2.2.2.2.2.2.1) (x.2.2.1).Idx,Cl.sl au (x.2.2.2.2.2.2.2.2.2.1) (x.2.2.2.2.2.2.2.2.2.2) (x.2.2.1).Args,Cl.sl ie a2 c2 signs1,Cl.sl (kQ .i64) a3 c3 ops1,aA]∧bv signs1 ops1 rec_ (x.1) (x.2.1) (x.2.2.1)=some r) (fun x _=>x.1) (fun x=>[(0,vp b1 0),(1,(Value.func (.func 193) #[vp b1 0] #[])),(2,vs a2 signs1.length c2),(3,vs a3 ops1.length c3),(8,vp b2 0),(9,vp b3 0)]) (fu,s1,r2,a11,c13,a8,c10,a9,c11,a10,c12) ⟨_,hI.arr (.c (.s .z) (.c (.s .z) (.c .z .n))) ⟨(.s (.s (.s .z))),.z,(.s .z),(.s (.s .z)),(.s (.s (.s (.s (.s .z))))),(.s (.s (.s (.s (.s (.s .z)))))),(.s (.s (.s (.s (.s (.s (.s .z))))))),trivial⟩,h⟩ ⟨rfl,rfl,rfl,rfl,rfl,rfl,trivial⟩ ?_
 clear h hI;rintro⟨fuel1,r3,e1,a12,c18,a13,c19,a14,c20,a15,c21⟩ w5 ⟨c22,hI,h⟩
 dsimp only at hI h
 rcases fuel1 with _ | fuel1
 ·rw[bv]at h;cases h
 rw[bv]at h
 refine bz (e:=[(0,vp b1 0),(1,(Value.func (.func 193) #[vp b1 0] #[])),(2,vs a2 signs1.length c2),(3,vs a3 ops1.length c3),(8,vp b2 0),(9,vp b3 0)]) ⟨rfl,rfl,rfl,rfl,rfl,rfl,trivial⟩ ?_
 refine T ?_
 refine du (α:=Int×aa×(Option Addr)×Nat) (fun _=>⟨43,[]⟩) (fun x=>[(0,vp b1 0),(1,(Value.func (.func 193) #[vp b1 0] #[])),(2,vs a2 signs1.length c2),(3,vs a3 ops1.length c3),(8,vp b2 0),(9,vp b3 0),(10,vi (x.1))]) (fun x=>fun w=>∃ C,Bun C0 F w0 C w [MO.box b1 67 (ab (x.2.1) (x.2.2.1) (x.2.2.2)),MO.box b2 39 #[vi 0,(aC ([]:List UInt8)),vi 0,vi 0,vi 0,vi 0,vi 0,vi 0,vi 0,vi 0,vs none 0 0,vs none 0 0,vs none 0 0],MO.box b3 39 (am e1 a13 c19 a14 c20 a15 c21)] [Cl.sl ah (x.2.2.1) (x.2.2.2) (x.2.1).l,Cl.sl ie a2 c2 signs1,Cl.sl (kQ .i64) a3 c3 ops1,Cl.sl aj a13 c19 e1.Lin.L,Cl.sl ak a14 c20 e1.Idx,Cl.sl au a15 c21 e1.Args,aA]∧il e1 rec_ (bv signs1 ops1 rec_ fuel1) (x.1) (x.2.1)=some r) ?_ ?_
 ·clear h hI;rintro⟨op1,r4,a16,c23⟩ w6 ⟨c24,hI,h⟩
  try dsimp only at hI h
  rw[il]at h
  refine bz (e:=[(0,vp b1 0),(1,(Value.func (.func 193) #[vp b1 0] #[])),(2,vs a2 signs1.length c2),(3,vs a3 ops1.length c3),(8,vp b2 0),(9,vp b3 0),(10,vi op1)]) ⟨rfl,rfl,rfl,rfl,rfl,rfl,rfl,trivial⟩ ?_
  refine aB (T ?_)
  refine bc h et (fun hb h=> ?_) (fun hb h=> ?_)
  ·refine T ?_
   refine ay (new:=(aQ e1 a13 c19 a14 c20 a15 c21)) (cs':=(am e1 a13 c19 a14 c20 a15 c21)) hI (.s .z) gn rfl rfl et et rfl aF rfl rfl rfl ?_
   clear hI;intro c25 w7 hI
   refine nk (al ?_)
   obtain rfl:=ac h
   exact jt (vs:=[(Value.agg (am e1 a13 c19 a14 c20 a15 c21))]) Tryz.results74 ⟨⟨_,aZ rfl rfl,ia (l:=(aQ e1 a13 c19 a14 c20 a15 c21)) nq rfl aF (CellsAt.of_blk (hI.blk (.s .z)) rfl)⟩,trivial⟩ (.inl ⟨_,rfl,a13,c19,a14,c20,a15,c21,a16,c23,_,rfl,hI.arr (.c .z .n) ⟨(.s (.s (.s .z))),(.s (.s (.s (.s .z)))),(.s (.s (.s (.s (.s .z))))),.z,trivial⟩⟩)
  refine T ?_
  rcases ii h with⟨⟨r5,s2⟩,hx2,h⟩ | ⟨pa_,pn_,hx2,hp_⟩
  rotate_left
  ·subst hp_
   refine bx [3,6] false (.c (0,.q) (.c (2,.q) (.two 1 (.c (3,.s) cp) 3 (.c (1,.s) cp)))) hI (by kernel_rfl) (by kernel_rfl) ?_
   clear hI;intro w12 hI
   refine V ?_
   refine gV ?_ ?_
   ·skip
    refine dK rfl gn rfl (aJ (l:=(aQ e1 a13 c19 a14 c20 a15 c21)) rfl et nq rfl aF (CellsAt.of_blk (hI.blk (.s (.s .z))) rfl)) SX.self ?_
    refine hO (F:=F) (C:=c24) rfl rfl ?_
    obtain⟨c26,f2,hB,hl2,hk2⟩:=hI.hands (.l (.r (.r .n)))
    refine eB rfl gn rfl (gc (fs:=[vp b1 0]) (vs:=[]) (cap:=[]) rfl et uz trivial) (Calls.mono (gi rec_ hrec c26 f2 w12 r4 b1 a16 c23 (hB.subs ⟨.z,(.s (.s (.s (.s (.s (.s .z)))))),trivial⟩) _ hx2) ?_)
    intro e_ w_ hq_;obtain⟨rfl,C_,hB_⟩:=eo hq_;obtain⟨C9_,-,hI_⟩:=hk2 _ _ _ _ hB_;exact .inr ⟨_,rfl,ib (.inr ⟨_,_,rfl,rfl,⟨_,hI_.arr .n trivial⟩⟩)⟩
   refine dw (F:=F) (C:=c24) rfl rfl ?_
   obtain⟨c26,f2,hB,hl2,hk2⟩:=hI.hands (.l (.r (.r .n)))
   refine eB rfl gn rfl (gc (fs:=[vp b1 0]) (vs:=[]) (cap:=[]) rfl et uz trivial) (Calls.mono (gi rec_ hrec c26 f2 w12 r4 b1 a16 c23 (hB.subs ⟨.z,(.s (.s (.s (.s (.s (.s .z)))))),trivial⟩) _ hx2) ?_)
   intro e_ w_ hq_;obtain⟨rfl,C_,hB_⟩:=eo hq_;obtain⟨C9_,-,hI_⟩:=hk2 _ _ _ _ hB_;exact .inr ⟨_,rfl,ib (.inr ⟨_,_,rfl,rfl,⟨_,hI_.arr .n trivial⟩⟩)⟩
  try dsimp only at h
  refine bx [3,6] false (.c (0,.q) (.c (2,.q) (.two 1 (.c (3,.s) cp) 3 (.c (1,.s) cp)))) hI (by kernel_rfl) (by kernel_rfl) ?_
  clear hI;intro w13 hI
  refine ge (α:=(Option Addr)×Nat×(Option Addr)×Nat×(Option Addr)×Nat×(Option Addr)×Nat×NP) (T:=cp) (fun x=>[(0,vp b1 0),(1,(Value.func (.func 193) #[vp b1 0] #[])),(2,vs a2 signs1.length c2),(3,vs a3 ops1.length c3),(8,vp b2 0),(9,vp b3 0),(10,vi op1),(34,vi op1),(35,(vb (decide (op1=0)))),(37,vi op1),(38,(Value.agg (am e1 a13 c19 a14 c20 a15 c21))),(39,(Value.func (.func 193) #[vp b1 0] #[])),(40,(Value.agg (am r5 (x.1) (x.2.1) (x.2.2.1) (x.2.2.2.1) (x.2.2.2.2.1) (x.2.2.2.2.2.1))))]) (fun x w=>Bun C0 F w0 (x.2.2.2.2.2.2.2.2) w [MO.box b1 67 (ab s2 (x.2.2.2.2.2.2.1) (x.2.2.2.2.2.2.2.1)),MO.box b2 39 #[vi 0,(aC ([]:List UInt8)),vi 0,vi 0,vi 0,vi 0,vi 0,vi 0,vi 0,vi 0,vs none 0 0,vs none 0 0,vs none 0 0],MO.box b3 39 (am e1 a13 c19 a14 c20 a15 c21)] [Cl.sl aj (x.1) (x.2.1) r5.Lin.L,Cl.sl ak (x.2.2.1) (x.2.2.2.1) r5.Idx,Cl.sl au (x.2.2.2.2.1) (x.2.2.2.2.2.1) r5.Args,Cl.sl ah (x.2.2.2.2.2.2.1) (x.2.2.2.2.2.2.2.1) s2.l,Cl.sl ah a16 c23 r4.l,Cl.sl ie a2 c2 signs1,Cl.sl (kQ .i64) a3 c3 ops1,Cl.sl aj a13 c19 e1.Lin.L,Cl.sl ak a14 c20 e1.Idx,Cl.sl au a15 c21 e1.Args,aA]) (fun x w=>SN [] (DM true F (x.2.2.2.2.2.2.2.2)) w) ?_ ?_
  ·clear hI;rintro⟨a17,c27,a18,c28,a19,c29,a20,c30,c35⟩ w11 hI
   try dsimp only at hI ⊢
   unfold cp
   refine mw (c:=au) (xs:=([e1,r5]:List GExpr)) (vs:=[(0,(Value.agg (am e1 a13 c19 a14 c20 a15 c21))),(1,(Value.agg (am r5 a17 c27 a18 c28 a19 c29)))]) (cs:=#[vi e1.Op,(aC e1.Name),vi e1.Val.N,vi e1.Val.D,vi e1.Type_.Kind,vi e1.Type_.Bits,vi e1.Type_.Frac,vi e1.Type_.Round,vi e1.Type_.Over,vi e1.Lin.K,vs a13 e1.Lin.L.length c19,vs a14 e1.Idx.length c20,vs a15 e1.Args.length c21,vi r5.Op,(aC r5.Name),vi r5.Val.N,vi r5.Val.D,vi r5.Type_.Kind,vi r5.Type_.Bits,vi r5.Type_.Frac,vi r5.Type_.Round,vi r5.Type_.Over,vi r5.Lin.K,vs a17 r5.Lin.L.length c27,vs a18 r5.Idx.length c28,vs a19 r5.Args.length c29]) (css:=[(aQ e1 a13 c19 a14 c20 a15 c21),(aQ r5 a17 c27 a18 c28 a19 c29)]) hI rfl gn rfl rfl xP kx rfl ⟨rfl,et,⟨rfl,et,trivial⟩⟩ (by kernel_rfl) ⟨(eQ ⟨a13,c19,a14,c20,a15,c21,rfl,hI.get (.s (.s (.s (.s (.s (.s (.s .z))))))),hI.get (.s (.s (.s (.s (.s (.s (.s (.s .z)))))))),hI.get (.s (.s (.s (.s (.s (.s (.s (.s (.s .z)))))))))⟩),⟨(eQ ⟨a17,c27,a18,c28,a19,c29,rfl,hI.get .z,hI.get (.s .z),hI.get (.s (.s .z))⟩),trivial⟩⟩ rfl rfl rfl ?_
   clear hI;intro b4 c33 w9 hI
   refine pt rfl gn rfl (fun w'=>(aV (vs:=[(0,vi op1),(6,vs (some ⟨b4,0,none⟩) ([e1,r5]:List GExpr).length 2)]) (cs:=#[vi op1,(aC ([]:List UInt8)),vi 0,vi 0,vi 0,vi 0,vi 0,vi 0,vi 0,vi 0,vs none 0 0,vs none 0 0,vs (some ⟨b4,0,none⟩) ([e1,r5]:List GExpr).length 2]) rfl ⟨rfl,et,⟨rfl,et,trivial⟩⟩ (by kernel_rfl))) ?_
   refine fT (new:=[vi op1,(aC ([]:List UInt8)),vi 0,vi 0,vi 0,vi 0,vi 0,vi 0,vi 0,vi 0,vs none 0 0,vs none 0 0,vs (some ⟨b4,0,none⟩) ([e1,r5]:List GExpr).length 2]) (cs':=#[vi op1,(aC ([]:List UInt8)),vi 0,vi 0,vi 0,vi 0,vi 0,vi 0,vi 0,vi 0,vs none 0 0,vs none 0 0,vs (some ⟨b4,0,none⟩) ([e1,r5]:List GExpr).length 2]) hI (.s (.s (.s .z))) rfl gn rfl rfl et et rfl aF rfl rfl rfl ?_
   clear hI;intro c34 w10 hI
   refine pu ?_
   have hI:=hI.add (c:=Cl.sl aj none 0 ([]:List GMono)) SlC.nil
   have hI:=hI.add (c:=Cl.sl ak none 0 ([]:List GIndex)) SlC.nil
   obtain⟨c36,hI⟩:=hI.release .z
   exact cg (fuel1,s2,(⟨op1,([]:List UInt8),(⟨0,0⟩:GVal),(⟨0,0,0,0,0⟩:GType),(⟨0,([]:List GMono)⟩:GLin),([]:List GIndex),([e1,r5]:List GExpr)⟩:GExpr),a20,c30,none,0,none,0,some ⟨b4,0,none⟩,2) ⟨rfl,rfl,rfl,rfl,rfl,rfl,trivial⟩ ⟨_,hI.arr (.c .z (.c .z (.c .z .n))) ⟨(.s (.s (.s (.s (.s (.s .z)))))),(.s (.s .z)),(.s .z),.z,(.s (.s (.s (.s (.s (.s (.s (.s .z)))))))),(.s (.s (.s (.s (.s (.s (.s (.s (.s .z))))))))),(.s (.s (.s (.s (.s (.s (.s (.s (.s (.s (.s (.s (.s .z))))))))))))),trivial⟩,h⟩ (Nat.lt_succ_self _)
  intro hk_tr_parser_reader_chain_w3_3_0
  refine V ?_
  refine gV ?_ ?_
  ·skip
   refine dK rfl gn rfl (aJ (l:=(aQ e1 a13 c19 a14 c20 a15 c21)) rfl et nq rfl aF (CellsAt.of_blk (hI.blk (.s (.s .z))) rfl)) SX.self ?_
   refine hO (F:=F) (C:=c24) rfl rfl ?_
   obtain⟨c26,f2,hB,hl2,hk2⟩:=hI.hands (.l (.r (.r .n)))
   refine ez rfl gn rfl (gc (fs:=[vp b1 0]) (vs:=[]) (cap:=[]) rfl et uz trivial) (Calls.mono (gi rec_ hrec c26 f2 w13 r4 b1 a16 c23 (hB.subs ⟨.z,(.s (.s (.s (.s (.s (.s .z)))))),trivial⟩) _ hx2) ?_)
   intro e_ w8 hq_;obtain⟨a17,c27,a18,c28,a19,c29,a20,c30,c31,rfl,hB2⟩:=en hq_
   obtain⟨c32,hs2,hI⟩:=hk2 _ _ _ _ hB2
   dsimp only[ca,na]at hI
   refine⟨_,rfl,DM true F c32,hs2,?_⟩
   exact cM (hk_tr_parser_reader_chain_w3_3_0 (a17,c27,a18,c28,a19,c29,a20,c30,c32) _ (hI.arr (.c .z (.c .z (.c .z .n))) ⟨.z,(.s .z),(.s (.s .z)),(.s (.s (.s .z))),(.s (.s (.s (.s .z)))),(.s (.s (.s (.s (.s .z))))),(.s (.s (.s (.s (.s (.s .z)))))),(.s (.s (.s (.s (.s (.s (.s .z))))))),(.s (.s (.s (.s (.s (.s (.s (.s .z)))))))),(.s (.s (.s (.s (.s (.s (.s (.s (.s .z))))))))),(.s (.s (.s (.s (.s (.s (.s (.s (.s (.s .z)))))))))),trivial⟩)) ⟨rfl,rfl,rfl,rfl,rfl,rfl,rfl,rfl,rfl,rfl,rfl,rfl,rfl,trivial⟩
  refine dw (F:=F) (C:=c24) rfl rfl ?_
  obtain⟨c26,f2,hB,hl2,hk2⟩:=hI.hands (.l (.r (.r .n)))
  refine ez rfl gn rfl (gc (fs:=[vp b1 0]) (vs:=[]) (cap:=[]) rfl et uz trivial) (Calls.mono (gi rec_ hrec c26 f2 w13 r4 b1 a16 c23 (hB.subs ⟨.z,(.s (.s (.s (.s (.s (.s .z)))))),trivial⟩) _ hx2) ?_)
  intro e_ w8 hq_;obtain⟨a17,c27,a18,c28,a19,c29,a20,c30,c31,rfl,hB2⟩:=en hq_
  obtain⟨c32,hs2,hI⟩:=hk2 _ _ _ _ hB2
  dsimp only[ca,na]at hI
  refine⟨_,rfl,DM true F c32,hs2,?_⟩
  refine dK rfl gn rfl (aJ (l:=(aQ e1 a13 c19 a14 c20 a15 c21)) rfl et nq rfl aF (CellsAt.of_blk (hI.blk (.s (.s .z))) rfl)) SX.self ?_
  exact cM (hk_tr_parser_reader_chain_w3_3_0 (a17,c27,a18,c28,a19,c29,a20,c30,c32) _ (hI.arr (.c .z (.c .z (.c .z .n))) ⟨.z,(.s .z),(.s (.s .z)),(.s (.s (.s .z))),(.s (.s (.s (.s .z)))),(.s (.s (.s (.s (.s .z))))),(.s (.s (.s (.s (.s (.s .z)))))),(.s (.s (.s (.s (.s (.s (.s .z))))))),(.s (.s (.s (.s (.s (.s (.s (.s .z)))))))),(.s (.s (.s (.s (.s (.s (.s (.s (.s .z))))))))),(.s (.s (.s (.s (.s (.s (.s (.s (.s (.s .z)))))))))),trivial⟩)) ⟨rfl,rfl,rfl,rfl,rfl,rfl,rfl,rfl,rfl,rfl,rfl,rfl,rfl,trivial⟩
 refine T ?_
 refine cO (α:=Nat×Int×Int×aa×(Option Addr)×Nat) (fun x=>fun w=>∃ C,Bun C0 F w0 C w [MO.box b1 67 (ab (x.2.2.2.1) (x.2.2.2.2.1) (x.2.2.2.2.2)),MO.box b2 39 #[vi 0,(aC ([]:List UInt8)),vi 0,vi 0,vi 0,vi 0,vi 0,vi 0,vi 0,vi 0,vs none 0 0,vs none 0 0,vs none 0 0],MO.box b3 39 (am e1 a13 c19 a14 c20 a15 c21)] [Cl.sl ah (x.2.2.2.2.1) (x.2.2.2.2.2) (x.2.2.2.1).l,Cl.sl ie a2 c2 signs1,Cl.sl (kQ .i64) a3 c3 ops1,Cl.sl aj a13 c19 e1.Lin.L,Cl.sl ak a14 c20 e1.Idx,Cl.sl au a15 c21 e1.Args,aA]∧bP signs1 ops1 e1 rec_ (bv signs1 ops1 rec_ fuel1) (x.1) (x.2.1) (x.2.2.1) (x.2.2.2.1)=some r) (fun x _=>x.1) (fun x=>[(0,vp b1 0),(1,(Value.func (.func 193) #[vp b1 0] #[])),(2,vs a2 signs1.length c2),(3,vs a3 ops1.length c3),(8,vp b2 0),(9,vp b3 0),(10,vi (x.2.1)),(15,vs a2 signs1.length c2),(16,vi (signs1.length:Int)),(17,vi (x.2.2.1))]) (fu,0,0,r3,a12,c18) ⟨_,hI.arr (.c .z (.c .z (.c .z .n))) ⟨.z,(.s (.s (.s (.s .z)))),(.s (.s (.s (.s (.s .z))))),(.s .z),(.s (.s .z)),(.s (.s (.s .z))),(.s (.s (.s (.s (.s (.s .z)))))),trivial⟩,h⟩ ⟨rfl,rfl,rfl,rfl,rfl,rfl,rfl,rfl,rfl,rfl,trivial⟩ ?_
 clear h hI;rintro⟨fuel2,op2,i1,r6,a21,c37⟩ w14 ⟨c38,hI,h⟩
 dsimp only at hI h
 rcases fuel2 with _ | fuel2
 ·rw[bP]at h;cases h
 rw[bP]at h
 refine bz (e:=[(0,vp b1 0),(1,(Value.func (.func 193) #[vp b1 0] #[])),(2,vs a2 signs1.length c2),(3,vs a3 ops1.length c3),(8,vp b2 0),(9,vp b3 0),(10,vi op2),(15,vs a2 signs1.length c2),(16,vi (signs1.length:Int)),(17,vi i1)]) ⟨rfl,rfl,rfl,rfl,rfl,rfl,rfl,rfl,rfl,rfl,trivial⟩ ?_
 refine T ?_
 refine aB (bc h et (fun hb h=> ?_) (fun hb h=> ?_))
 ·refine T ?_
  refine du (α:=Int×aa×(Option Addr)×Nat) (fun _=>⟨43,[]⟩) (fun x=>[(0,vp b1 0),(1,(Value.func (.func 193) #[vp b1 0] #[])),(2,vs a2 signs1.length c2),(3,vs a3 ops1.length c3),(8,vp b2 0),(9,vp b3 0),(10,vi (x.1)),(15,vs a2 signs1.length c2),(16,vi (signs1.length:Int)),(17,vi i1)]) (fun x=>fun w=>∃ C,Bun C0 F w0 C w [MO.box b1 67 (ab (x.2.1) (x.2.2.1) (x.2.2.2)),MO.box b2 39 #[vi 0,(aC ([]:List UInt8)),vi 0,vi 0,vi 0,vi 0,vi 0,vi 0,vi 0,vi 0,vs none 0 0,vs none 0 0,vs none 0 0],MO.box b3 39 (am e1 a13 c19 a14 c20 a15 c21)] [Cl.sl ah (x.2.2.1) (x.2.2.2) (x.2.1).l,Cl.sl ie a2 c2 signs1,Cl.sl (kQ .i64) a3 c3 ops1,Cl.sl aj a13 c19 e1.Lin.L,Cl.sl ak a14 c20 e1.Idx,Cl.sl au a15 c21 e1.Args,aA]∧fE (bP signs1 ops1 e1 rec_ (bv signs1 ops1 rec_ fuel1) fuel2) i1 (x.1) (x.2.1)=some r) ?_ ?_
  ·clear h hI;rintro⟨op3,r7,a22,c39⟩ w15 ⟨c40,hI,h⟩
   try dsimp only at hI h
   rw[fE]at h
   refine bz (e:=[(0,vp b1 0),(1,(Value.func (.func 193) #[vp b1 0] #[])),(2,vs a2 signs1.length c2),(3,vs a3 ops1.length c3),(8,vp b2 0),(9,vp b3 0),(10,vi op3),(15,vs a2 signs1.length c2),(16,vi (signs1.length:Int)),(17,vi i1)]) ⟨rfl,rfl,rfl,rfl,rfl,rfl,rfl,rfl,rfl,rfl,trivial⟩ ?_
   refine T ?_
   refine bl ?_
   exact cg (fuel2,op3,az (i1+1),r7,a22,c39) ⟨rfl,rfl,rfl,rfl,rfl,rfl,rfl,rfl,rfl,rfl,trivial⟩ ⟨_,hI.arr (.c .z (.c .z (.c .z .n))) ⟨.z,(.s .z),(.s (.s .z)),(.s (.s (.s .z))),(.s (.s (.s (.s .z)))),(.s (.s (.s (.s (.s .z))))),(.s (.s (.s (.s (.s (.s .z)))))),trivial⟩,h⟩ (Nat.lt_succ_self _)
  refine T ?_
  obtain⟨e2,hx3,h⟩:=af h
  obtain⟨ad1,cs1,hA1,hr1,hq1⟩:=hI.clat (.s .z) hx3
  obtain rfl:cs1=[(aC e2)]:=hr1
  refine sI ?_
  refine T ?_
  obtain⟨c41,f3,hB,hl3,hk3⟩:=hI.hands (.l (.r (.r .n)))
  obtain⟨⟨r8,s3⟩,hx4,h⟩:=af h
  try dsimp only at h
  refine p7 (fun v_ w_=>v_=(vb r8)∧∃ (a23:Option Addr),∃ (c42:Nat),∃ C_:NP,Bun c41 f3 w14 C_ w_ [MO.box b1 67 (ab s3 a23 c42)] [Cl.sl ah a23 c42 s3.l]) (bE rfl rfl rfl rfl) rfl (fun hc=>(ag (vs:=[vp b1 0,(aC e2)]) rfl mK ⟨(bg et hc),⟨(bg et hc),trivial⟩⟩)) (fun hc=>(aM c41 f3 w14 r6 e2 b1 a21 c37 (hB.subs ⟨.z,trivial⟩) _ (yE hc hx4)).mono fun e_ w_ hq_=>(let ⟨a23,c42,C_,he_,hB_⟩:=hq_;⟨_,he_,rfl,a23,c42,C_,hB_⟩)) ?_
  intro v_ w16 h1_ h2_
  obtain⟨hv_,a23,c42,c43,hB2⟩:gv (decide (op2=0)) v_=gv (decide (op2=0)) (vb r8)∧∃ (a23:Option Addr),∃ (c42:Nat),∃ C_:NP,Bun c41 f3 w14 C_ w16 [MO.box b1 67 (ab s3 a23 c42)] [Cl.sl ah a23 c42 s3.l]:=by
   rcases Bool.eq_false_or_eq_true (decide (op2=0))with hc | hc
   ·obtain⟨rfl,hq_⟩:=h1_ hc;exact⟨rfl,hq_⟩
   have e1_:=h2_ hc;subst e1_;obtain⟨rfl,rfl⟩:=yF hc hx4;exact⟨by rw[om hc,om hc],a21,c37,_,hB.subs ⟨.z,trivial⟩⟩
  rw[hv_];clear h1_ h2_
  obtain⟨c44,hs3,hI⟩:=hk3 _ _ _ _ hB2
  dsimp only[ca,na]at hI
  refine T ?_
  refine bc h et (fun hb h=> ?_) (fun hb h=> ?_)
  ·refine T ?_
   obtain⟨e3,hx5,h⟩:=af h
   obtain⟨ad2,cs2,hA2,hr2,hq2⟩:=hI.clat (.s (.s (.s .z))) hx5
   obtain rfl:cs2=[vi e3]:=hr2
   refine sI ?_
   refine T ?_
   refine bl ?_
   exact bi (e3,s3,a23,c42) ⟨rfl,rfl,rfl,rfl,rfl,rfl,rfl,rfl,rfl,rfl,trivial⟩ ⟨_,hI.arr (.c .z (.c .z (.c .z .n))) ⟨.z,(.s (.s .z)),(.s (.s (.s .z))),(.s (.s (.s (.s .z)))),(.s (.s (.s (.s (.s .z))))),(.s (.s (.s (.s (.s (.s .z)))))),(.s (.s (.s (.s (.s (.s (.s .z))))))),trivial⟩,h⟩ rfl
  exact cc (bi (op2,s3,a23,c42) ⟨rfl,rfl,rfl,rfl,rfl,rfl,rfl,rfl,rfl,rfl,trivial⟩ ⟨_,hI.arr (.c .z (.c .z (.c .z .n))) ⟨.z,(.s (.s .z)),(.s (.s (.s .z))),(.s (.s (.s (.s .z)))),(.s (.s (.s (.s (.s .z))))),(.s (.s (.s (.s (.s (.s .z)))))),(.s (.s (.s (.s (.s (.s (.s .z))))))),trivial⟩,h⟩ rfl)
 refine dv ?_
 refine kb ?_
 exact bi (op2,r6,a21,c37) ⟨rfl,rfl,rfl,rfl,rfl,rfl,rfl,trivial⟩ ⟨_,hI.arr (.c .z (.c .z (.c .z .n))) ⟨.z,(.s .z),(.s (.s .z)),(.s (.s (.s .z))),(.s (.s (.s (.s .z)))),(.s (.s (.s (.s (.s .z))))),(.s (.s (.s (.s (.s (.s .z)))))),trivial⟩,h⟩ rfl
theorem oH (rec_:(aa→Option (bk (GExpr×aa)))) (hrec:∀ (C0 F:NP) (w0:World) (r1:aa) (b1:Nat) (a1:Option Addr) (c1:Nat) (hI:Bun C0 F w0 C0 w0 [MO.box b1 67 (ab r1 a1 c1)] [Cl.sl ah a1 c1 r1.l,aA]) (r:bk (GExpr×aa)) (h:rec_ r1=some r),Calls Tryz.prog 34 #[vp b1 0] w0 fun e w=>(∃ rx:GExpr×aa,r= .ret rx∧∃ (a2:Option Addr) (c2:Nat) (a3:Option Addr) (c3:Nat) (a4:Option Addr) (c4:Nat) (a5:Option Addr) (c5:Nat) (C:NP),e= .returned (Value.agg (am rx.1 a2 c2 a3 c3 a4 c4))∧Bun C0 F w0 C w [MO.box b1 67 (ab rx.2 a5 c5)] [Cl.sl aj a2 c2 rx.1.Lin.L,Cl.sl ak a3 c3 rx.1.Idx,Cl.sl au a4 c4 rx.1.Args,Cl.sl ah a5 c5 rx.2.l])∨∃ (pa pn:Int),r= .pan pa pn∧e= .panicked [pe 114 pa pn]∧∃ C:NP,Bun C0 F w0 C w [] []) (recs_:(aa→Option (bk (GExpr×aa)))) (hrecs_:∀ (C0 F:NP) (w0:World) (r1:aa) (b1:Nat) (a1:Option Addr) (c1:Nat) (hI:Bun C0 F w0 C0 w0 [MO.box b1 67 (ab r1 a1 c1)] [Cl.sl ah a1 c1 r1.l,aA]) (r:bk (GExpr×aa)) (h:recs_ r1=some r),Calls Tryz.prog 140 #[vp b1 0] w0 fun e w=>(∃ rx:GExpr×aa,r= .ret rx∧∃ (a2:Option Addr) (c2:Nat) (a3:Option Addr) (c3:Nat) (a4:Option Addr) (c4:Nat) (a5:Option Addr) (c5:Nat) (C:NP),e= .returned (Value.agg (am rx.1 a2 c2 a3 c3 a4 c4))∧Bun C0 F w0 C w [MO.box b1 67 (ab rx.2 a5 c5)] [Cl.sl aj a2 c2 rx.1.Lin.L,Cl.sl ak a3 c3 rx.1.Idx,Cl.sl au a4 c4 rx.1.Args,Cl.sl ah a5 c5 rx.2.l])∨∃ (pa pn:Int),r= .pan pa pn∧e= .panicked [pe 114 pa pn]∧∃ C:NP,Bun C0 F w0 C w [] [])
  (C0 F:NP) (w0:World) (r1:aa) (b1:Nat) (a1:Option Addr) (c1:Nat) (hI:Bun C0 F w0 C0 w0 [MO.box b1 67 (ab r1 a1 c1)] [Cl.sl ah a1 c1 r1.l,aA]) (r:bk (GExpr×aa)) (h:ft rec_ recs_ r1=some r):Calls Tryz.prog 140 #[vp b1 0] w0 fun e w=>(∃ rx:GExpr×aa,r= .ret rx∧∃ (a2:Option Addr) (c2:Nat) (a3:Option Addr) (c3:Nat) (a4:Option Addr) (c4:Nat) (a5:Option Addr) (c5:Nat) (C:NP),e= .returned (Value.agg (am rx.1 a2 c2 a3 c3 a4 c4))∧Bun C0 F w0 C w [MO.box b1 67 (ab rx.2 a5 c5)] [Cl.sl aj a2 c2 rx.1.Lin.L,Cl.sl ak a3 c3 rx.1.Idx,Cl.sl au a4 c4 rx.1.Args,Cl.sl ah a5 c5 rx.2.l])∨∃ (pa pn:Int),r= .pan pa pn∧e= .panicked [pe 114 pa pn]∧∃ C:NP,Bun C0 F w0 C w [] []:=by
 refine fj (l:=[vp b1 0]) Tryz.func140 rfl Tryz.ntmps140 rfl ?_
 rw[ft]at h
 refine sr (aN (cs:=#[vi 0,(aC ([]:List UInt8)),vi 0,vi 0,vi 0,vi 0,vi 0,vi 0,vi 0,vi 0,vs none 0 0,vs none 0 0,vs none 0 0]) hI gn rfl rfl bA rfl ?_)
 clear hI;intro b2 c6 w1 hI
 refine nk (aB (T ?_))
 obtain⟨r2,hx1,h⟩:=af h
 refine aE gn rfl (ag (vs:=[vp b1 0,vi 3,(aC ([33]:List UInt8))]) rfl oQ ⟨et,⟨ai,⟨ai,trivial⟩⟩⟩) (Calls.mono (dt d5 w1 (fun _ k=>k.elim) r1 3 ([33]:List UInt8) b1 a1 c1 ⟨(hI.get0 .z),hI.lendBox (.s .z),trivial⟩ r2 hx1) ?_)
 rintro _ w2 ⟨rfl,hx2,hl1⟩
 refine⟨_,rfl,?_⟩
 replace hI:=(hI.ext hx2)
 refine T ?_
 refine bc h et (fun hb h=> ?_) (fun hb h=> ?_)
 ·refine T ?_
  refine sq (mI (vs:=[vp b1 0]) rfl rfl ⟨et,trivial⟩) ?_
  refine jR (c:=ie) (xs:=([([60]:List UInt8),([60,61]:List UInt8),([61,61]:List UInt8)]:List (List UInt8))) (vs:=[(0,(aC ([60]:List UInt8))),(1,(aC ([60,61]:List UInt8))),(2,(aC ([61,61]:List UInt8)))]) (cs:=#[(aC ([60]:List UInt8)),(aC ([60,61]:List UInt8)),(aC ([61,61]:List UInt8))]) (css:=[[(aC ([60]:List UInt8))],[(aC ([60,61]:List UInt8))],[(aC ([61,61]:List UInt8))]]) hI gn rfl rfl DO ol rfl ⟨rfl,ai,⟨rfl,ai,⟨rfl,ai,trivial⟩⟩⟩ (by kernel_rfl) ⟨rfl,⟨rfl,⟨rfl,trivial⟩⟩⟩ rfl rfl rfl ?_
  clear hI;intro b3 c7 w3 hI
  refine jR (c:=(kQ .i64)) (xs:=([13,14,15]:List Int)) (vs:=[(0,vi 13),(1,vi 14),(2,vi 15)]) (cs:=#[vi 13,vi 14,vi 15]) (css:=[[vi 13],[vi 14],[vi 15]]) hI gn rfl rfl B5 uM rfl ⟨rfl,ai,⟨rfl,ai,⟨rfl,ai,trivial⟩⟩⟩ (by kernel_rfl) ⟨rfl,⟨rfl,⟨rfl,trivial⟩⟩⟩ rfl rfl rfl ?_
  clear hI;intro b4 c8 w4 hI
  obtain⟨c9,hI⟩:=hI.release (.s .z)
  obtain⟨c10,hI⟩:=hI.release .z
  obtain⟨c11,f1,hB,hl2,hk1⟩:=hI.hands (.r (.l .n))
  refine dY h (fun _ hx3=>ou rec_ hrec c11 f1 w4 r1 ([([60]:List UInt8),([60,61]:List UInt8),([61,61]:List UInt8)]:List (List UInt8)) ([13,14,15]:List Int) b1 a1 c1 (some ⟨b3,0,none⟩) 3 (some ⟨b4,0,none⟩) 3 (hB.subs ⟨(.s (.s .z)),(.s .z),.z,(.s (.s (.s .z))),trivial⟩) _ hx3) (ky hk1) (ag rfl yr ⟨et,⟨et,⟨et,⟨et,trivial⟩⟩⟩⟩) ?_
  rintro⟨r3,s1⟩ hx3 h _ w5 ⟨a6,c12,a7,c13,a8,c14,a9,c15,c16,rfl,hB2⟩
  try dsimp only at h
  obtain⟨c17,hs1,hI⟩:=hk1 _ _ _ _ hB2
  dsimp only[ca,na]at hI
  refine⟨_,rfl,?_⟩
  refine ay (new:=(aQ r3 a6 c12 a7 c13 a8 c14)) (cs':=(am r3 a6 c12 a7 c13 a8 c14)) hI (.s .z) gn rfl rfl et et rfl aF rfl rfl rfl ?_
  clear hI;intro c18 w6 hI
  refine nk (al ?_)
  obtain rfl:=ac h
  refine QG ?_
  exact .inl ⟨_,rfl,a6,c12,a7,c13,a8,c14,a9,c15,_,rfl,hI.arr GO SU⟩
 refine T ?_
 obtain⟨c19,f2,hB,hl3,hk2⟩:=hI.hands (.r (.l .n))
 refine dY h (fun _ hx4=>gU c19 f2 w2 r1 b1 a1 c1 (hB.subs ⟨.z,trivial⟩) _ hx4) (ky hk2) (ag rfl wR ⟨et,trivial⟩) ?_
 rintro⟨r4,s2⟩ hx4 h _ w7 ⟨a10,c20,c21,rfl,hB2⟩
 try dsimp only at h
 obtain⟨c22,hs2,hI⟩:=hk2 _ _ _ _ hB2
 dsimp only[ca,na]at hI
 refine⟨_,rfl,?_⟩
 refine T ?_
 obtain⟨c23,f3,hB,hl4,hk3⟩:=hI.hands (.l (.r .n))
 refine dY h (fun _ hx5=>hrecs_ c23 f3 w7 s2 b1 a10 c20 (hB.subs ⟨.z,(.s (.s .z)),trivial⟩) _ hx5) (ky hk3) (ag rfl sg ⟨et,trivial⟩) ?_
 rintro⟨r5,s3⟩ hx5 h _ w8 ⟨a11,c24,a12,c25,a13,c26,a14,c27,c28,rfl,hB2⟩
 try dsimp only at h
 obtain⟨c29,hs3,hI⟩:=hk3 _ _ _ _ hB2
 dsimp only[ca,na]at hI
 refine⟨_,rfl,?_⟩
 refine jR (c:=au) (xs:=([r5]:List GExpr)) (vs:=[(0,(Value.agg (am r5 a11 c24 a12 c25 a13 c26)))]) (cs:=(am r5 a11 c24 a12 c25 a13 c26)) (css:=[(aQ r5 a11 c24 a12 c25 a13 c26)]) hI gn rfl rfl xP kx rfl ⟨rfl,et,trivial⟩ (by kernel_rfl) ⟨(eQ ⟨a11,c24,a12,c25,a13,c26,rfl,hI.get .z,hI.get (.s .z),hI.get (.s (.s .z))⟩),trivial⟩ rfl rfl rfl ?_
 clear hI;intro b5 c30 w9 hI
 refine sq (aV (vs:=[(0,vi 18),(6,vs (some ⟨b5,0,none⟩) ([r5]:List GExpr).length 1)]) (cs:=#[vi 18,(aC ([]:List UInt8)),vi 0,vi 0,vi 0,vi 0,vi 0,vi 0,vi 0,vi 0,vs none 0 0,vs none 0 0,vs (some ⟨b5,0,none⟩) ([r5]:List GExpr).length 1]) rfl ⟨rfl,ai,⟨rfl,et,trivial⟩⟩ (by kernel_rfl)) ?_
 refine aN (cs:=#[vi 0,(aC ([]:List UInt8)),vi 0,vi 0,vi 0,vi 0,vi 0,vi 0,vi 0,vi 0,vs none 0 0,vs none 0 0,vs none 0 0]) hI gn rfl rfl bA rfl ?_
 clear hI;intro b6 c31 w10 hI
 refine ay (new:=[vi 18,(aC ([]:List UInt8)),vi 0,vi 0,vi 0,vi 0,vi 0,vi 0,vi 0,vi 0,vs none 0 0,vs none 0 0,vs (some ⟨b5,0,none⟩) ([r5]:List GExpr).length 1]) (cs':=#[vi 18,(aC ([]:List UInt8)),vi 0,vi 0,vi 0,vi 0,vi 0,vi 0,vi 0,vi 0,vs none 0 0,vs none 0 0,vs (some ⟨b5,0,none⟩) ([r5]:List GExpr).length 1]) hI .z gn rfl rfl et et rfl aF rfl rfl rfl ?_
 clear hI;intro c32 w11 hI
 refine T ?_
 refine ay (new:=[(vi (az (s3.deep - 1)))]) (cs':=#[vs a14 s3.l.length c27,vi s3.at_,(vi (az (s3.deep - 1)))]) hI (.s (.s .z)) gn rfl rfl et et rfl gb rfl rfl rfl ?_
 clear hI;intro c33 w12 hI
 refine T ?_
 refine ay (new:=[vi 18,(aC ([]:List UInt8)),vi 0,vi 0,vi 0,vi 0,vi 0,vi 0,vi 0,vi 0,vs none 0 0,vs none 0 0,vs (some ⟨b5,0,none⟩) ([r5]:List GExpr).length 1]) (cs':=#[vi 18,(aC ([]:List UInt8)),vi 0,vi 0,vi 0,vi 0,vi 0,vi 0,vi 0,vi 0,vs none 0 0,vs none 0 0,vs (some ⟨b5,0,none⟩) ([r5]:List GExpr).length 1]) hI (.s (.s (.s .z))) gn rfl rfl et et rfl aF rfl rfl rfl ?_
 clear hI;intro c34 w13 hI
 refine nk (al ?_)
 obtain⟨c35,hI⟩:=hI.release (.s .z)
 have hI:=hI.add (c:=Cl.sl aj none 0 ([]:List GMono)) SlC.nil
 have hI:=hI.add (c:=Cl.sl ak none 0 ([]:List GIndex)) SlC.nil
 obtain rfl:=ac h
 refine QG ?_
 exact .inl ⟨_,rfl,none,0,none,0,some ⟨b5,0,none⟩,1,a14,c27,_,rfl,hI.arr GO SU⟩
theorem oG (rec_:(aa→Option (bk (GExpr×aa)))) (hrec:∀ (C0 F:NP) (w0:World) (r1:aa) (b1:Nat) (a1:Option Addr) (c1:Nat) (hI:Bun C0 F w0 C0 w0 [MO.box b1 67 (ab r1 a1 c1)] [Cl.sl ah a1 c1 r1.l,aA]) (r:bk (GExpr×aa)) (h:rec_ r1=some r),Calls Tryz.prog 34 #[vp b1 0] w0 fun e w=>(∃ rx:GExpr×aa,r= .ret rx∧∃ (a2:Option Addr) (c2:Nat) (a3:Option Addr) (c3:Nat) (a4:Option Addr) (c4:Nat) (a5:Option Addr) (c5:Nat) (C:NP),e= .returned (Value.agg (am rx.1 a2 c2 a3 c3 a4 c4))∧Bun C0 F w0 C w [MO.box b1 67 (ab rx.2 a5 c5)] [Cl.sl aj a2 c2 rx.1.Lin.L,Cl.sl ak a3 c3 rx.1.Idx,Cl.sl au a4 c4 rx.1.Args,Cl.sl ah a5 c5 rx.2.l])∨∃ (pa pn:Int),r= .pan pa pn∧e= .panicked [pe 114 pa pn]∧∃ C:NP,Bun C0 F w0 C w [] []) (n:Nat):∀ (C0 F:NP) (w0:World) (r1:aa) (b1:Nat) (a1:Option Addr) (c1:Nat) (hI:Bun C0 F w0 C0 w0 [MO.box b1 67 (ab r1 a1 c1)] [Cl.sl ah a1 c1 r1.l,aA]) (r:bk (GExpr×aa)) (h:bJ rec_ n r1=some r),Calls Tryz.prog 140 #[vp b1 0] w0 fun e w=>(∃ rx:GExpr×aa,r= .ret rx∧∃ (a2:Option Addr) (c2:Nat) (a3:Option Addr) (c3:Nat) (a4:Option Addr) (c4:Nat) (a5:Option Addr) (c5:Nat) (C:NP),e= .returned (Value.agg (am rx.1 a2 c2 a3 c3 a4 c4))∧Bun C0 F w0 C w [MO.box b1 67 (ab rx.2 a5 c5)] [Cl.sl aj a2 c2 rx.1.Lin.L,Cl.sl ak a3 c3 rx.1.Idx,Cl.sl au a4 c4 rx.1.Args,Cl.sl ah a5 c5 rx.2.l])∨∃ (pa pn:Int),r= .pan pa pn∧e= .panicked [pe 114 pa pn]∧∃ C:NP,Bun C0 F w0 C w [] []:=by
 induction n with
 | zero=>intro C0 F w0 r1 b1 a1 c1 hI r h;cases h
 | succ n ih=>intro C0 F w0 r1 b1 a1 c1 hI r h;exact oH rec_ hrec (bJ rec_ n) ih C0 F w0 r1 b1 a1 c1 hI r h
theorem gj (rec_:(aa→Option (bk (GExpr×aa)))) (hrec:∀ (C0 F:NP) (w0:World) (r1:aa) (b1:Nat) (a1:Option Addr) (c1:Nat) (hI:Bun C0 F w0 C0 w0 [MO.box b1 67 (ab r1 a1 c1)] [Cl.sl ah a1 c1 r1.l,aA]) (r:bk (GExpr×aa)) (h:rec_ r1=some r),Calls Tryz.prog 34 #[vp b1 0] w0 fun e w=>(∃ rx:GExpr×aa,r= .ret rx∧∃ (a2:Option Addr) (c2:Nat) (a3:Option Addr) (c3:Nat) (a4:Option Addr) (c4:Nat) (a5:Option Addr) (c5:Nat) (C:NP),e= .returned (Value.agg (am rx.1 a2 c2 a3 c3 a4 c4))∧Bun C0 F w0 C w [MO.box b1 67 (ab rx.2 a5 c5)] [Cl.sl aj a2 c2 rx.1.Lin.L,Cl.sl ak a3 c3 rx.1.Idx,Cl.sl au a4 c4 rx.1.Args,Cl.sl ah a5 c5 rx.2.l])∨∃ (pa pn:Int),r= .pan pa pn∧e= .panicked [pe 114 pa pn]∧∃ C:NP,Bun C0 F w0 C w [] []) (C0 F:NP) (w0:World) (r1:aa) (b1:Nat) (a1:Option Addr) (c1:Nat) (hI:Bun C0 F w0 C0 w0 [MO.box b1 67 (ab r1 a1 c1)] [Cl.sl ah a1 c1 r1.l,aA]) (r:bk (GExpr×aa)) (h:iV rec_ r1=some r):Calls Tryz.prog 140 #[vp b1 0] w0 fun e w=>(∃ rx:GExpr×aa,r= .ret rx∧∃ (a2:Option Addr) (c2:Nat) (a3:Option Addr) (c3:Nat) (a4:Option Addr) (c4:Nat) (a5:Option Addr) (c5:Nat) (C:NP),e= .returned (Value.agg (am rx.1 a2 c2 a3 c3 a4 c4))∧Bun C0 F w0 C w [MO.box b1 67 (ab rx.2 a5 c5)] [Cl.sl aj a2 c2 rx.1.Lin.L,Cl.sl ak a3 c3 rx.1.Idx,Cl.sl au a4 c4 rx.1.Args,Cl.sl ah a5 c5 rx.2.l])∨∃ (pa pn:Int),r= .pan pa pn∧e= .panicked [pe 114 pa pn]∧∃ C:NP,Bun C0 F w0 C w [] []:=oG rec_ hrec fu C0 F w0 r1 b1 a1 c1 hI r h
def cr:Tr:=(.c (4,.s) (.c (5,.q) (.c (6,.s) .n)))
theorem ov (rec_:(aa→Option (bk (GExpr×aa)))) (hrec:∀ (C0 F:NP) (w0:World) (r1:aa) (b1:Nat) (a1:Option Addr) (c1:Nat) (hI:Bun C0 F w0 C0 w0 [MO.box b1 67 (ab r1 a1 c1)] [Cl.sl ah a1 c1 r1.l,aA]) (r:bk (GExpr×aa)) (h:rec_ r1=some r),Calls Tryz.prog 34 #[vp b1 0] w0 fun e w=>(∃ rx:GExpr×aa,r= .ret rx∧∃ (a2:Option Addr) (c2:Nat) (a3:Option Addr) (c3:Nat) (a4:Option Addr) (c4:Nat) (a5:Option Addr) (c5:Nat) (C:NP),e= .returned (Value.agg (am rx.1 a2 c2 a3 c3 a4 c4))∧Bun C0 F w0 C w [MO.box b1 67 (ab rx.2 a5 c5)] [Cl.sl aj a2 c2 rx.1.Lin.L,Cl.sl ak a3 c3 rx.1.Idx,Cl.sl au a4 c4 rx.1.Args,Cl.sl ah a5 c5 rx.2.l])∨∃ (pa pn:Int),r= .pan pa pn∧e= .panicked [pe 114 pa pn]∧∃ C:NP,Bun C0 F w0 C w [] []) (C0 F:NP) (w0:World) (r1:aa) (signs1:List (List UInt8)) (ops1:List Int) (b1:Nat) (a1:Option Addr) (c1:Nat) (a2:Option Addr) (c2:Nat) (a3:Option Addr) (c3:Nat) (hI:Bun C0 F w0 C0 w0 [MO.box b1 67 (ab r1 a1 c1)] [Cl.sl ah a1 c1 r1.l,Cl.sl ie a2 c2 signs1,Cl.sl (kQ .i64) a3 c3 ops1,aA]) (r:bk (GExpr×aa))
  (h:gD rec_ r1 signs1 ops1=some r):
  Calls Tryz.prog 74 #[vp b1 0,(Value.func (.func 140) #[vp b1 0] #[]),vs a2 signs1.length c2,vs a3 ops1.length c3] w0 fun e w=>(∃ rx:GExpr×aa,r= .ret rx∧∃ (a4:Option Addr) (c4:Nat) (a5:Option Addr) (c5:Nat) (a6:Option Addr) (c6:Nat) (a7:Option Addr) (c7:Nat) (C:NP),e= .returned (Value.agg (am rx.1 a4 c4 a5 c5 a6 c6))∧Bun C0 F w0 C w [MO.box b1 67 (ab rx.2 a7 c7)] [Cl.sl aj a4 c4 rx.1.Lin.L,Cl.sl ak a5 c5 rx.1.Idx,Cl.sl au a6 c6 rx.1.Args,Cl.sl ah a7 c7 rx.2.l])∨∃ (pa pn:Int),r= .pan pa pn∧e= .panicked [pe 114 pa pn]∧∃ C:NP,Bun C0 F w0 C w [] []:=by
 refine fj (l:=[vp b1 0,(Value.func (.func 140) #[vp b1 0] #[]),vs a2 signs1.length c2,vs a3 ops1.length c3]) Tryz.func74 rfl Tryz.ntmps74 rfl ?_
 rw[gD]at h
 refine sr (aN (cs:=#[vi 0,(aC ([]:List UInt8)),vi 0,vi 0,vi 0,vi 0,vi 0,vi 0,vi 0,vi 0,vs none 0 0,vs none 0 0,vs none 0 0]) hI gn rfl rfl bA rfl ?_)
 clear hI;intro b2 c8 w1 hI
 refine T ?_
 obtain⟨c9,f1,hB,hl1,hk1⟩:=hI.hands (.r (.l .n))
 refine dY h (fun _ hx1=>gj rec_ hrec c9 f1 w1 r1 b1 a1 c1 (hB.subs ⟨.z,(.s (.s (.s .z))),trivial⟩) _ hx1) (ky hk1) (gc (fs:=[vp b1 0]) (vs:=[]) (cap:=[]) rfl et sg trivial) ?_
 rintro⟨r2,s1⟩ hx1 h _ w2 ⟨a8,c10,a9,c11,a10,c12,a11,c13,c14,rfl,hB2⟩
 try dsimp only at h
 obtain⟨c15,hs1,hI⟩:=hk1 _ _ _ _ hB2
 dsimp only[ca,na]at hI
 refine⟨_,rfl,?_⟩
 refine aN (cs:=#[vi 0,(aC ([]:List UInt8)),vi 0,vi 0,vi 0,vi 0,vi 0,vi 0,vi 0,vi 0,vs none 0 0,vs none 0 0,vs none 0 0]) hI gn rfl rfl bA rfl ?_
 clear hI;intro b3 c16 w3 hI
 refine ay (new:=(aQ r2 a8 c10 a9 c11 a10 c12)) (cs':=(am r2 a8 c10 a9 c11 a10 c12)) hI .z gn rfl rfl et et rfl aF rfl rfl rfl ?_
 clear hI;intro c17 w4 hI
 refine T ?_
 refine cO (α:=Nat×aa×GExpr×(Option Addr)×Nat×(Option Addr)×Nat×(Option Addr)×Nat×(Option Addr)×Nat) (fun x=>fun w=>∃ C,Bun C0 F w0 C w [MO.box b1 67 (ab (x.2.1) (x.2.2.2.1) (x.2.2.2.2.1)),MO.box b2 39 #[vi 0,(aC ([]:List UInt8)),vi 0,vi 0,vi 0,vi 0,vi 0,vi 0,vi 0,vi 0,vs none 0 0,vs none 0 0,vs none 0 0],MO.box b3 39 (am (x.2.2.1) (x.2.2.2.2.2.1) (x.2.2.2.2.2.2.1) (x.2.2.2.2.2.2.2.1) (x.2.2.2.2.2.2.2.2.1) (x.2.2.2.2.2.2.2.2.2.1) (x.2.2.2.2.2.2.2.2.2.2))] [Cl.sl ah (x.2.2.2.1) (x.2.2.2.2.1) (x.2.1).l,Cl.sl aj (x.2.2.2.2.2.1) (x.2.2.2.2.2.2.1) (x.2.2.1).Lin.L,Cl.sl ak (x.2.2.2.2.2.2.2.1) (x.2.2.2.2.2.2.2.2.1) (x.2.2.1).Idx,Cl.sl au (x.2.2.2.2.2.2.2.2.2.1) (x.2.2.2.2.2.2.2.2.2.2) (x.2.2.1).Args,Cl.sl ie a2 c2 signs1,Cl.sl (kQ .i64) a3 c3 ops1,aA]∧bw signs1 ops1 rec_ (x.1) (x.2.1) (x.2.2.1)=some r) (fun x _=>x.1) (fun x=>[(0,vp b1 0),(1,(Value.func (.func 140) #[vp b1 0] #[])),(2,vs a2 signs1.length c2),(3,vs a3 ops1.length c3),(8,vp b2 0),(9,vp b3 0)]) (fu,s1,r2,a11,c13,a8,c10,a9,c11,a10,c12) ⟨_,hI.arr (.c (.s .z) (.c (.s .z) (.c .z .n))) ⟨(.s (.s (.s .z))),.z,(.s .z),(.s (.s .z)),(.s (.s (.s (.s (.s .z))))),(.s (.s (.s (.s (.s (.s .z)))))),(.s (.s (.s (.s (.s (.s (.s .z))))))),trivial⟩,h⟩ ⟨rfl,rfl,rfl,rfl,rfl,rfl,trivial⟩ ?_
 clear h hI;rintro⟨fuel1,r3,e1,a12,c18,a13,c19,a14,c20,a15,c21⟩ w5 ⟨c22,hI,h⟩
 dsimp only at hI h
 rcases fuel1 with _ | fuel1
 ·rw[bw]at h;cases h
 rw[bw]at h
 refine bz (e:=[(0,vp b1 0),(1,(Value.func (.func 140) #[vp b1 0] #[])),(2,vs a2 signs1.length c2),(3,vs a3 ops1.length c3),(8,vp b2 0),(9,vp b3 0)]) ⟨rfl,rfl,rfl,rfl,rfl,rfl,trivial⟩ ?_
 refine T ?_
 refine du (α:=Int×aa×(Option Addr)×Nat) (fun _=>⟨43,[]⟩) (fun x=>[(0,vp b1 0),(1,(Value.func (.func 140) #[vp b1 0] #[])),(2,vs a2 signs1.length c2),(3,vs a3 ops1.length c3),(8,vp b2 0),(9,vp b3 0),(10,vi (x.1))]) (fun x=>fun w=>∃ C,Bun C0 F w0 C w [MO.box b1 67 (ab (x.2.1) (x.2.2.1) (x.2.2.2)),MO.box b2 39 #[vi 0,(aC ([]:List UInt8)),vi 0,vi 0,vi 0,vi 0,vi 0,vi 0,vi 0,vi 0,vs none 0 0,vs none 0 0,vs none 0 0],MO.box b3 39 (am e1 a13 c19 a14 c20 a15 c21)] [Cl.sl ah (x.2.2.1) (x.2.2.2) (x.2.1).l,Cl.sl ie a2 c2 signs1,Cl.sl (kQ .i64) a3 c3 ops1,Cl.sl aj a13 c19 e1.Lin.L,Cl.sl ak a14 c20 e1.Idx,Cl.sl au a15 c21 e1.Args,aA]∧im e1 rec_ (bw signs1 ops1 rec_ fuel1) (x.1) (x.2.1)=some r) ?_ ?_
 ·clear h hI;rintro⟨op1,r4,a16,c23⟩ w6 ⟨c24,hI,h⟩
  try dsimp only at hI h
  rw[im]at h
  refine bz (e:=[(0,vp b1 0),(1,(Value.func (.func 140) #[vp b1 0] #[])),(2,vs a2 signs1.length c2),(3,vs a3 ops1.length c3),(8,vp b2 0),(9,vp b3 0),(10,vi op1)]) ⟨rfl,rfl,rfl,rfl,rfl,rfl,rfl,trivial⟩ ?_
  refine aB (T ?_)
  refine bc h et (fun hb h=> ?_) (fun hb h=> ?_)
  ·refine T ?_
   refine ay (new:=(aQ e1 a13 c19 a14 c20 a15 c21)) (cs':=(am e1 a13 c19 a14 c20 a15 c21)) hI (.s .z) gn rfl rfl et et rfl aF rfl rfl rfl ?_
   clear hI;intro c25 w7 hI
   refine nk (al ?_)
   obtain rfl:=ac h
   exact jt (vs:=[(Value.agg (am e1 a13 c19 a14 c20 a15 c21))]) Tryz.results74 ⟨⟨_,aZ rfl rfl,ia (l:=(aQ e1 a13 c19 a14 c20 a15 c21)) nq rfl aF (CellsAt.of_blk (hI.blk (.s .z)) rfl)⟩,trivial⟩ (.inl ⟨_,rfl,a13,c19,a14,c20,a15,c21,a16,c23,_,rfl,hI.arr (.c .z .n) ⟨(.s (.s (.s .z))),(.s (.s (.s (.s .z)))),(.s (.s (.s (.s (.s .z))))),.z,trivial⟩⟩)
  refine T ?_
  rcases ii h with⟨⟨r5,s2⟩,hx2,h⟩ | ⟨pa_,pn_,hx2,hp_⟩
  rotate_left
  ·subst hp_
   refine bx [3,6] false (.c (0,.q) (.c (2,.q) (.two 1 (.c (3,.s) cr) 3 (.c (1,.s) cr)))) hI (by kernel_rfl) (by kernel_rfl) ?_
   clear hI;intro w12 hI
   refine V ?_
   refine gV ?_ ?_
   ·skip
    refine dK rfl gn rfl (aJ (l:=(aQ e1 a13 c19 a14 c20 a15 c21)) rfl et nq rfl aF (CellsAt.of_blk (hI.blk (.s (.s .z))) rfl)) SX.self ?_
    refine hO (F:=F) (C:=c24) rfl rfl ?_
    obtain⟨c26,f2,hB,hl2,hk2⟩:=hI.hands (.l (.r (.r .n)))
    refine eB rfl gn rfl (gc (fs:=[vp b1 0]) (vs:=[]) (cap:=[]) rfl et sg trivial) (Calls.mono (gj rec_ hrec c26 f2 w12 r4 b1 a16 c23 (hB.subs ⟨.z,(.s (.s (.s (.s (.s (.s .z)))))),trivial⟩) _ hx2) ?_)
    intro e_ w_ hq_;obtain⟨rfl,C_,hB_⟩:=eo hq_;obtain⟨C9_,-,hI_⟩:=hk2 _ _ _ _ hB_;exact .inr ⟨_,rfl,ib (.inr ⟨_,_,rfl,rfl,⟨_,hI_.arr .n trivial⟩⟩)⟩
   refine dw (F:=F) (C:=c24) rfl rfl ?_
   obtain⟨c26,f2,hB,hl2,hk2⟩:=hI.hands (.l (.r (.r .n)))
   refine eB rfl gn rfl (gc (fs:=[vp b1 0]) (vs:=[]) (cap:=[]) rfl et sg trivial) (Calls.mono (gj rec_ hrec c26 f2 w12 r4 b1 a16 c23 (hB.subs ⟨.z,(.s (.s (.s (.s (.s (.s .z)))))),trivial⟩) _ hx2) ?_)
   intro e_ w_ hq_;obtain⟨rfl,C_,hB_⟩:=eo hq_;obtain⟨C9_,-,hI_⟩:=hk2 _ _ _ _ hB_;exact .inr ⟨_,rfl,ib (.inr ⟨_,_,rfl,rfl,⟨_,hI_.arr .n trivial⟩⟩)⟩
  try dsimp only at h
  refine bx [3,6] false (.c (0,.q) (.c (2,.q) (.two 1 (.c (3,.s) cr) 3 (.c (1,.s) cr)))) hI (by kernel_rfl) (by kernel_rfl) ?_
  clear hI;intro w13 hI
  refine ge (α:=(Option Addr)×Nat×(Option Addr)×Nat×(Option Addr)×Nat×(Option Addr)×Nat×NP) (T:=cr) (fun x=>[(0,vp b1 0),(1,(Value.func (.func 140) #[vp b1 0] #[])),(2,vs a2 signs1.length c2),(3,vs a3 ops1.length c3),(8,vp b2 0),(9,vp b3 0),(10,vi op1),(34,vi op1),(35,(vb (decide (op1=0)))),(37,vi op1),(38,(Value.agg (am e1 a13 c19 a14 c20 a15 c21))),(39,(Value.func (.func 140) #[vp b1 0] #[])),(40,(Value.agg (am r5 (x.1) (x.2.1) (x.2.2.1) (x.2.2.2.1) (x.2.2.2.2.1) (x.2.2.2.2.2.1))))]) (fun x w=>Bun C0 F w0 (x.2.2.2.2.2.2.2.2) w [MO.box b1 67 (ab s2 (x.2.2.2.2.2.2.1) (x.2.2.2.2.2.2.2.1)),MO.box b2 39 #[vi 0,(aC ([]:List UInt8)),vi 0,vi 0,vi 0,vi 0,vi 0,vi 0,vi 0,vi 0,vs none 0 0,vs none 0 0,vs none 0 0],MO.box b3 39 (am e1 a13 c19 a14 c20 a15 c21)] [Cl.sl aj (x.1) (x.2.1) r5.Lin.L,Cl.sl ak (x.2.2.1) (x.2.2.2.1) r5.Idx,Cl.sl au (x.2.2.2.2.1) (x.2.2.2.2.2.1) r5.Args,Cl.sl ah (x.2.2.2.2.2.2.1) (x.2.2.2.2.2.2.2.1) s2.l,Cl.sl ah a16 c23 r4.l,Cl.sl ie a2 c2 signs1,Cl.sl (kQ .i64) a3 c3 ops1,Cl.sl aj a13 c19 e1.Lin.L,Cl.sl ak a14 c20 e1.Idx,Cl.sl au a15 c21 e1.Args,aA]) (fun x w=>SN [] (DM true F (x.2.2.2.2.2.2.2.2)) w) ?_ ?_
  ·clear hI;rintro⟨a17,c27,a18,c28,a19,c29,a20,c30,c35⟩ w11 hI
   try dsimp only at hI ⊢
   unfold cr
   refine mw (c:=au) (xs:=([e1,r5]:List GExpr)) (vs:=[(0,(Value.agg (am e1 a13 c19 a14 c20 a15 c21))),(1,(Value.agg (am r5 a17 c27 a18 c28 a19 c29)))]) (cs:=#[vi e1.Op,(aC e1.Name),vi e1.Val.N,vi e1.Val.D,vi e1.Type_.Kind,vi e1.Type_.Bits,vi e1.Type_.Frac,vi e1.Type_.Round,vi e1.Type_.Over,vi e1.Lin.K,vs a13 e1.Lin.L.length c19,vs a14 e1.Idx.length c20,vs a15 e1.Args.length c21,vi r5.Op,(aC r5.Name),vi r5.Val.N,vi r5.Val.D,vi r5.Type_.Kind,vi r5.Type_.Bits,vi r5.Type_.Frac,vi r5.Type_.Round,vi r5.Type_.Over,vi r5.Lin.K,vs a17 r5.Lin.L.length c27,vs a18 r5.Idx.length c28,vs a19 r5.Args.length c29]) (css:=[(aQ e1 a13 c19 a14 c20 a15 c21),(aQ r5 a17 c27 a18 c28 a19 c29)]) hI rfl gn rfl rfl xP kx rfl ⟨rfl,et,⟨rfl,et,trivial⟩⟩ (by kernel_rfl) ⟨(eQ ⟨a13,c19,a14,c20,a15,c21,rfl,hI.get (.s (.s (.s (.s (.s (.s (.s .z))))))),hI.get (.s (.s (.s (.s (.s (.s (.s (.s .z)))))))),hI.get (.s (.s (.s (.s (.s (.s (.s (.s (.s .z)))))))))⟩),⟨(eQ ⟨a17,c27,a18,c28,a19,c29,rfl,hI.get .z,hI.get (.s .z),hI.get (.s (.s .z))⟩),trivial⟩⟩ rfl rfl rfl ?_
   clear hI;intro b4 c33 w9 hI
   refine pt rfl gn rfl (fun w'=>(aV (vs:=[(0,vi op1),(6,vs (some ⟨b4,0,none⟩) ([e1,r5]:List GExpr).length 2)]) (cs:=#[vi op1,(aC ([]:List UInt8)),vi 0,vi 0,vi 0,vi 0,vi 0,vi 0,vi 0,vi 0,vs none 0 0,vs none 0 0,vs (some ⟨b4,0,none⟩) ([e1,r5]:List GExpr).length 2]) rfl ⟨rfl,et,⟨rfl,et,trivial⟩⟩ (by kernel_rfl))) ?_
   refine fT (new:=[vi op1,(aC ([]:List UInt8)),vi 0,vi 0,vi 0,vi 0,vi 0,vi 0,vi 0,vi 0,vs none 0 0,vs none 0 0,vs (some ⟨b4,0,none⟩) ([e1,r5]:List GExpr).length 2]) (cs':=#[vi op1,(aC ([]:List UInt8)),vi 0,vi 0,vi 0,vi 0,vi 0,vi 0,vi 0,vi 0,vs none 0 0,vs none 0 0,vs (some ⟨b4,0,none⟩) ([e1,r5]:List GExpr).length 2]) hI (.s (.s (.s .z))) rfl gn rfl rfl et et rfl aF rfl rfl rfl ?_
   clear hI;intro c34 w10 hI
   refine pu ?_
   have hI:=hI.add (c:=Cl.sl aj none 0 ([]:List GMono)) SlC.nil
   have hI:=hI.add (c:=Cl.sl ak none 0 ([]:List GIndex)) SlC.nil
   obtain⟨c36,hI⟩:=hI.release .z
   exact cg (fuel1,s2,(⟨op1,([]:List UInt8),(⟨0,0⟩:GVal),(⟨0,0,0,0,0⟩:GType),(⟨0,([]:List GMono)⟩:GLin),([]:List GIndex),([e1,r5]:List GExpr)⟩:GExpr),a20,c30,none,0,none,0,some ⟨b4,0,none⟩,2) ⟨rfl,rfl,rfl,rfl,rfl,rfl,trivial⟩ ⟨_,hI.arr (.c .z (.c .z (.c .z .n))) ⟨(.s (.s (.s (.s (.s (.s .z)))))),(.s (.s .z)),(.s .z),.z,(.s (.s (.s (.s (.s (.s (.s (.s .z)))))))),(.s (.s (.s (.s (.s (.s (.s (.s (.s .z))))))))),(.s (.s (.s (.s (.s (.s (.s (.s (.s (.s (.s (.s (.s .z))))))))))))),trivial⟩,h⟩ (Nat.lt_succ_self _)
  intro hk_tr_parser_reader_chain_w2_3_0
  refine V ?_
  refine gV ?_ ?_
  ·skip
   refine dK rfl gn rfl (aJ (l:=(aQ e1 a13 c19 a14 c20 a15 c21)) rfl et nq rfl aF (CellsAt.of_blk (hI.blk (.s (.s .z))) rfl)) SX.self ?_
   refine hO (F:=F) (C:=c24) rfl rfl ?_
   obtain⟨c26,f2,hB,hl2,hk2⟩:=hI.hands (.l (.r (.r .n)))
   refine ez rfl gn rfl (gc (fs:=[vp b1 0]) (vs:=[]) (cap:=[]) rfl et sg trivial) (Calls.mono (gj rec_ hrec c26 f2 w13 r4 b1 a16 c23 (hB.subs ⟨.z,(.s (.s (.s (.s (.s (.s .z)))))),trivial⟩) _ hx2) ?_)
   intro e_ w8 hq_;obtain⟨a17,c27,a18,c28,a19,c29,a20,c30,c31,rfl,hB2⟩:=en hq_
   obtain⟨c32,hs2,hI⟩:=hk2 _ _ _ _ hB2
   dsimp only[ca,na]at hI
   refine⟨_,rfl,DM true F c32,hs2,?_⟩
   exact cM (hk_tr_parser_reader_chain_w2_3_0 (a17,c27,a18,c28,a19,c29,a20,c30,c32) _ (hI.arr (.c .z (.c .z (.c .z .n))) ⟨.z,(.s .z),(.s (.s .z)),(.s (.s (.s .z))),(.s (.s (.s (.s .z)))),(.s (.s (.s (.s (.s .z))))),(.s (.s (.s (.s (.s (.s .z)))))),(.s (.s (.s (.s (.s (.s (.s .z))))))),(.s (.s (.s (.s (.s (.s (.s (.s .z)))))))),(.s (.s (.s (.s (.s (.s (.s (.s (.s .z))))))))),(.s (.s (.s (.s (.s (.s (.s (.s (.s (.s .z)))))))))),trivial⟩)) ⟨rfl,rfl,rfl,rfl,rfl,rfl,rfl,rfl,rfl,rfl,rfl,rfl,rfl,trivial⟩
  refine dw (F:=F) (C:=c24) rfl rfl ?_
  obtain⟨c26,f2,hB,hl2,hk2⟩:=hI.hands (.l (.r (.r .n)))
  refine ez rfl gn rfl (gc (fs:=[vp b1 0]) (vs:=[]) (cap:=[]) rfl et sg trivial) (Calls.mono (gj rec_ hrec c26 f2 w13 r4 b1 a16 c23 (hB.subs ⟨.z,(.s (.s (.s (.s (.s (.s .z)))))),trivial⟩) _ hx2) ?_)
  intro e_ w8 hq_;obtain⟨a17,c27,a18,c28,a19,c29,a20,c30,c31,rfl,hB2⟩:=en hq_
  obtain⟨c32,hs2,hI⟩:=hk2 _ _ _ _ hB2
  dsimp only[ca,na]at hI
  refine⟨_,rfl,DM true F c32,hs2,?_⟩
  refine dK rfl gn rfl (aJ (l:=(aQ e1 a13 c19 a14 c20 a15 c21)) rfl et nq rfl aF (CellsAt.of_blk (hI.blk (.s (.s .z))) rfl)) SX.self ?_
  exact cM (hk_tr_parser_reader_chain_w2_3_0 (a17,c27,a18,c28,a19,c29,a20,c30,c32) _ (hI.arr (.c .z (.c .z (.c .z .n))) ⟨.z,(.s .z),(.s (.s .z)),(.s (.s (.s .z))),(.s (.s (.s (.s .z)))),(.s (.s (.s (.s (.s .z))))),(.s (.s (.s (.s (.s (.s .z)))))),(.s (.s (.s (.s (.s (.s (.s .z))))))),(.s (.s (.s (.s (.s (.s (.s (.s .z)))))))),(.s (.s (.s (.s (.s (.s (.s (.s (.s .z))))))))),(.s (.s (.s (.s (.s (.s (.s (.s (.s (.s .z)))))))))),trivial⟩)) ⟨rfl,rfl,rfl,rfl,rfl,rfl,rfl,rfl,rfl,rfl,rfl,rfl,rfl,trivial⟩
 refine T ?_
 refine cO (α:=Nat×Int×Int×aa×(Option Addr)×Nat) (fun x=>fun w=>∃ C,Bun C0 F w0 C w [MO.box b1 67 (ab (x.2.2.2.1) (x.2.2.2.2.1) (x.2.2.2.2.2)),MO.box b2 39 #[vi 0,(aC ([]:List UInt8)),vi 0,vi 0,vi 0,vi 0,vi 0,vi 0,vi 0,vi 0,vs none 0 0,vs none 0 0,vs none 0 0],MO.box b3 39 (am e1 a13 c19 a14 c20 a15 c21)] [Cl.sl ah (x.2.2.2.2.1) (x.2.2.2.2.2) (x.2.2.2.1).l,Cl.sl ie a2 c2 signs1,Cl.sl (kQ .i64) a3 c3 ops1,Cl.sl aj a13 c19 e1.Lin.L,Cl.sl ak a14 c20 e1.Idx,Cl.sl au a15 c21 e1.Args,aA]∧bQ signs1 ops1 e1 rec_ (bw signs1 ops1 rec_ fuel1) (x.1) (x.2.1) (x.2.2.1) (x.2.2.2.1)=some r) (fun x _=>x.1) (fun x=>[(0,vp b1 0),(1,(Value.func (.func 140) #[vp b1 0] #[])),(2,vs a2 signs1.length c2),(3,vs a3 ops1.length c3),(8,vp b2 0),(9,vp b3 0),(10,vi (x.2.1)),(15,vs a2 signs1.length c2),(16,vi (signs1.length:Int)),(17,vi (x.2.2.1))]) (fu,0,0,r3,a12,c18) ⟨_,hI.arr (.c .z (.c .z (.c .z .n))) ⟨.z,(.s (.s (.s (.s .z)))),(.s (.s (.s (.s (.s .z))))),(.s .z),(.s (.s .z)),(.s (.s (.s .z))),(.s (.s (.s (.s (.s (.s .z)))))),trivial⟩,h⟩ ⟨rfl,rfl,rfl,rfl,rfl,rfl,rfl,rfl,rfl,rfl,trivial⟩ ?_
 clear h hI;rintro⟨fuel2,op2,i1,r6,a21,c37⟩ w14 ⟨c38,hI,h⟩
 dsimp only at hI h
 rcases fuel2 with _ | fuel2
 ·rw[bQ]at h;cases h
 rw[bQ]at h
 refine bz (e:=[(0,vp b1 0),(1,(Value.func (.func 140) #[vp b1 0] #[])),(2,vs a2 signs1.length c2),(3,vs a3 ops1.length c3),(8,vp b2 0),(9,vp b3 0),(10,vi op2),(15,vs a2 signs1.length c2),(16,vi (signs1.length:Int)),(17,vi i1)]) ⟨rfl,rfl,rfl,rfl,rfl,rfl,rfl,rfl,rfl,rfl,trivial⟩ ?_
 refine T ?_
 refine aB (bc h et (fun hb h=> ?_) (fun hb h=> ?_))
 ·refine T ?_
  refine du (α:=Int×aa×(Option Addr)×Nat) (fun _=>⟨43,[]⟩) (fun x=>[(0,vp b1 0),(1,(Value.func (.func 140) #[vp b1 0] #[])),(2,vs a2 signs1.length c2),(3,vs a3 ops1.length c3),(8,vp b2 0),(9,vp b3 0),(10,vi (x.1)),(15,vs a2 signs1.length c2),(16,vi (signs1.length:Int)),(17,vi i1)]) (fun x=>fun w=>∃ C,Bun C0 F w0 C w [MO.box b1 67 (ab (x.2.1) (x.2.2.1) (x.2.2.2)),MO.box b2 39 #[vi 0,(aC ([]:List UInt8)),vi 0,vi 0,vi 0,vi 0,vi 0,vi 0,vi 0,vi 0,vs none 0 0,vs none 0 0,vs none 0 0],MO.box b3 39 (am e1 a13 c19 a14 c20 a15 c21)] [Cl.sl ah (x.2.2.1) (x.2.2.2) (x.2.1).l,Cl.sl ie a2 c2 signs1,Cl.sl (kQ .i64) a3 c3 ops1,Cl.sl aj a13 c19 e1.Lin.L,Cl.sl ak a14 c20 e1.Idx,Cl.sl au a15 c21 e1.Args,aA]∧fF (bQ signs1 ops1 e1 rec_ (bw signs1 ops1 rec_ fuel1) fuel2) i1 (x.1) (x.2.1)=some r) ?_ ?_
  ·clear h hI;rintro⟨op3,r7,a22,c39⟩ w15 ⟨c40,hI,h⟩
   try dsimp only at hI h
   rw[fF]at h
   refine bz (e:=[(0,vp b1 0),(1,(Value.func (.func 140) #[vp b1 0] #[])),(2,vs a2 signs1.length c2),(3,vs a3 ops1.length c3),(8,vp b2 0),(9,vp b3 0),(10,vi op3),(15,vs a2 signs1.length c2),(16,vi (signs1.length:Int)),(17,vi i1)]) ⟨rfl,rfl,rfl,rfl,rfl,rfl,rfl,rfl,rfl,rfl,trivial⟩ ?_
   refine T ?_
   refine bl ?_
   exact cg (fuel2,op3,az (i1+1),r7,a22,c39) ⟨rfl,rfl,rfl,rfl,rfl,rfl,rfl,rfl,rfl,rfl,trivial⟩ ⟨_,hI.arr (.c .z (.c .z (.c .z .n))) ⟨.z,(.s .z),(.s (.s .z)),(.s (.s (.s .z))),(.s (.s (.s (.s .z)))),(.s (.s (.s (.s (.s .z))))),(.s (.s (.s (.s (.s (.s .z)))))),trivial⟩,h⟩ (Nat.lt_succ_self _)
  refine T ?_
  obtain⟨e2,hx3,h⟩:=af h
  obtain⟨ad1,cs1,hA1,hr1,hq1⟩:=hI.clat (.s .z) hx3
  obtain rfl:cs1=[(aC e2)]:=hr1
  refine sI ?_
  refine T ?_
  obtain⟨c41,f3,hB,hl3,hk3⟩:=hI.hands (.l (.r (.r .n)))
  obtain⟨⟨r8,s3⟩,hx4,h⟩:=af h
  try dsimp only at h
  refine p7 (fun v_ w_=>v_=(vb r8)∧∃ (a23:Option Addr),∃ (c42:Nat),∃ C_:NP,Bun c41 f3 w14 C_ w_ [MO.box b1 67 (ab s3 a23 c42)] [Cl.sl ah a23 c42 s3.l]) (bE rfl rfl rfl rfl) rfl (fun hc=>(ag (vs:=[vp b1 0,(aC e2)]) rfl mK ⟨(bg et hc),⟨(bg et hc),trivial⟩⟩)) (fun hc=>(aM c41 f3 w14 r6 e2 b1 a21 c37 (hB.subs ⟨.z,trivial⟩) _ (yE hc hx4)).mono fun e_ w_ hq_=>(let ⟨a23,c42,C_,he_,hB_⟩:=hq_;⟨_,he_,rfl,a23,c42,C_,hB_⟩)) ?_
  intro v_ w16 h1_ h2_
  obtain⟨hv_,a23,c42,c43,hB2⟩:gv (decide (op2=0)) v_=gv (decide (op2=0)) (vb r8)∧∃ (a23:Option Addr),∃ (c42:Nat),∃ C_:NP,Bun c41 f3 w14 C_ w16 [MO.box b1 67 (ab s3 a23 c42)] [Cl.sl ah a23 c42 s3.l]:=by
   rcases Bool.eq_false_or_eq_true (decide (op2=0))with hc | hc
   ·obtain⟨rfl,hq_⟩:=h1_ hc;exact⟨rfl,hq_⟩
   have e1_:=h2_ hc;subst e1_;obtain⟨rfl,rfl⟩:=yF hc hx4;exact⟨by rw[om hc,om hc],a21,c37,_,hB.subs ⟨.z,trivial⟩⟩
  rw[hv_];clear h1_ h2_
  obtain⟨c44,hs3,hI⟩:=hk3 _ _ _ _ hB2
  dsimp only[ca,na]at hI
  refine T ?_
  refine bc h et (fun hb h=> ?_) (fun hb h=> ?_)
  ·refine T ?_
   obtain⟨e3,hx5,h⟩:=af h
   obtain⟨ad2,cs2,hA2,hr2,hq2⟩:=hI.clat (.s (.s (.s .z))) hx5
   obtain rfl:cs2=[vi e3]:=hr2
   refine sI ?_
   refine T ?_
   refine bl ?_
   exact bi (e3,s3,a23,c42) ⟨rfl,rfl,rfl,rfl,rfl,rfl,rfl,rfl,rfl,rfl,trivial⟩ ⟨_,hI.arr (.c .z (.c .z (.c .z .n))) ⟨.z,(.s (.s .z)),(.s (.s (.s .z))),(.s (.s (.s (.s .z)))),(.s (.s (.s (.s (.s .z))))),(.s (.s (.s (.s (.s (.s .z)))))),(.s (.s (.s (.s (.s (.s (.s .z))))))),trivial⟩,h⟩ rfl
  exact cc (bi (op2,s3,a23,c42) ⟨rfl,rfl,rfl,rfl,rfl,rfl,rfl,rfl,rfl,rfl,trivial⟩ ⟨_,hI.arr (.c .z (.c .z (.c .z .n))) ⟨.z,(.s (.s .z)),(.s (.s (.s .z))),(.s (.s (.s (.s .z)))),(.s (.s (.s (.s (.s .z))))),(.s (.s (.s (.s (.s (.s .z)))))),(.s (.s (.s (.s (.s (.s (.s .z))))))),trivial⟩,h⟩ rfl)
 refine dv ?_
 refine kb ?_
 exact bi (op2,r6,a21,c37) ⟨rfl,rfl,rfl,rfl,rfl,rfl,rfl,trivial⟩ ⟨_,hI.arr (.c .z (.c .z (.c .z .n))) ⟨.z,(.s .z),(.s (.s .z)),(.s (.s (.s .z))),(.s (.s (.s (.s .z)))),(.s (.s (.s (.s (.s .z))))),(.s (.s (.s (.s (.s (.s .z)))))),trivial⟩,h⟩ rfl
end Go.Proofs.YtmhoikfoogemnaaGreatDoor
