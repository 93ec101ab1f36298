import Derived.Test.YtmhoikfoogemnaaGreatDoorHCQ8h
import Derived.Test.YtmhoikfoogemnaaGreatDoorHLfH
namespace Go.Proofs.YtmhoikfoogemnaaGreatDoor
open Go Go.RowKit Go.Vc
set_option maxRecDepth 100000
set_option maxHeartbeats 4000000
set_option linter.unusedVariables false
set_option linter.unusedSimpArgs false
variable {σ:Type} {C0 F:NP} {w0:World} {a1 a2 a3 a4 a5 a6 a7 a8 a9 a10 a11 a12:Option Addr} {b1 b2 b3 b4 b5 b6 b7 b8 b9 b10 b11 b12 c1 c2 c3 c4 c5 c6 c7 c8 c9 c10 c11 c12:Nat}
theorem kV {r1:aa} (hI:Bun C0 F w0 C0 w0 [MO.box b1 67 (ac r1 a1 c1)] [Cl.sl ag a1 c1 r1.l,au]) {r:bZ (List fG×aa)} (h:dZ r1=some r):CP C0 F w0 176 #[vp b1 0] r λrx e w=>∃ a2 c2 a3 c3 C,e= .returned (vs a2 rx.1.length c2)∧Bun C0 F w0 C w [MO.box b1 67 (ac rx.2 a3 c3)] [Cl.sl cb a2 c2 rx.1,Cl.sl ag a3 c3 rx.2.l]:=by
 refine fa (l:=[vp b1 0]) Tryz.func176 rfl Tryz.ntmps176 rfl ?_
 rw[dZ]at h
 refine T ?_
 have hI:=hI.nil cb 204 none
 refine bk (α:=Nat×(List fG)×aa×(Option Addr)×Nat×(Option Addr)×Nat) (λx=>λw=>∃ C,Bun C0 F w0 C w [Q6 cb 204 (x.2.2.2.1) (x.2.2.2.2.1) (x.2.1),MO.box b1 67 (ac (x.2.2.1) (x.2.2.2.2.2.1) (x.2.2.2.2.2.2))] [Cl.sl ag (x.2.2.2.2.2.1) (x.2.2.2.2.2.2) (x.2.2.1).l,au]∧cK (x.1) (x.2.1) (x.2.2.1)=some r) (λx _=>x.1) (λx=>[(0,vp b1 0),(3,vs (x.2.2.2.1) (x.2.1).length (x.2.2.2.2.1))]) (fu,([]:List fG),r1,none,0,a1,c1) BH SB ?_
 clear h hI;rintro⟨fuel1,lv,r2,a4,c4,a5,c5⟩ w1 ⟨c6,hI,h⟩
 dsimp only at hI h ⊢
 rcases fuel1 with _ | fuel1
 ·rw[cK]at h;cases h
 rw[cK]at h
 refine T ?_
 obtain⟨c7,f1,hB,hl1,hk1⟩:=hI.hands (.r (.l .n))
 refine dh h (λ_ hx1=>bT HS hx1) (jL hk1) (Rc Tryz.func128) ?_
 rintro⟨r3,s1⟩ hx1 h _ w2 ⟨a6,c8,c9,rfl,hB2⟩
 try dsimp only at h
 refine HN hk1 hB2 λc10 hI=>?_
 refine⟨_,rfl,?_⟩
 refine sq (aK (vs:=[(0,(str r3))]) (cs:=#[(str r3),vi 0,vs none 0 0]) rfl ⟨rfl,et,af⟩ (by kernel_rfl)) ?_
 refine lN λb2 c11 w3 hI=>?_
 refine bJ (new:=[(str r3),vi 0,vs none 0 0]) (cs':=#[(str r3),vi 0,vs none 0 0]) hI .z gn rfl rfl et et rfl I9 rfl rfl rfl ?_
 intro c12 w4 hI
 refine T ?_
 obtain⟨c13,f2,hB,hl2,hk2⟩:=hI.hands (.r (.l (.r .n)))
 refine dh h (λ_ hx2=>ap HS hx2) (jL hk2) (Rc Tryz.func104) ?_
 rintro⟨r4,s2⟩ hx2 h _ w5 ⟨a7,c14,c15,rfl,hB2⟩
 try dsimp only at h
 refine HN hk2 hB2 λc16 hI=>?_
 refine⟨_,rfl,?_⟩
 refine T ?_
 obtain⟨c17,f3,hB,hl3,hk3⟩:=hI.hands (.l (.r (.r .n)))
 refine dh h (λ_ hx3=>d7 HS hx3) (jL hk3) (Rc Tryz.func31) ?_
 rintro⟨r5,s3⟩ hx3 h _ w6 ⟨a8,c18,a9,c19,c20,rfl,hB2⟩
 try dsimp only at h
 refine HN hk3 hB2 λc21 hI=>?_
 refine⟨_,rfl,?_⟩
 refine T ?_
 refine bJ (new:=(fS r5 a8 c18)) (cs':=#[(str r3),vi r5.K,vs a8 r5.L.length c18]) hI .p1 gn rfl rfl et et rfl bc rfl rfl rfl ?_
 intro c22 w7 hI
 refine T ?_
 refine ll hI cb ([⟨r3,r5⟩]:List fG) Em (.cs ⟨a8,c18,rfl,hI.get .z⟩ .nl) λb3 c23 w8 hI=>?_
 obtain⟨zs1,hx4,h⟩:=ab h
 refine qn (xs:=lv) (ys:=([⟨r3,r5⟩]:List fG)) hI .p3 (hI.rd .z) hx4 gn rfl rfl u98 Em rfl rfl et et ?_
 intro a10 c24 c25 w9 hI
 refine T ?_
 obtain⟨c26,f4,hB,hl4,hk4⟩:=hI.hands (.r (.l (.r (.r .n))))
 obtain⟨⟨r6,s4⟩,hx5,h⟩:=ab h
 try dsimp only at h
 refine bf gn rfl (Rc Tryz.func68) (Calls.mono (aQ HS hx5) ?_)
 rintro _ w10 ⟨a11,c27,c28,rfl,hB2⟩
 refine HN hk4 hB2 λc29 hI=>?_
 refine⟨_,rfl,?_⟩
 refine TC (λhb h=>?_) λhb h=>?_
 ·refine T ?_
  refine aO ?_
  obtain⟨c30,hI⟩:=hI.release .p3
  obtain rfl:=ak h
  refine QG ?_
  exact .inl ⟨_,rfl,a10,c24,a11,c27,_,rfl,hI.arr GO SU⟩
 exact aZ (qo (fuel1,zs1,s4,a10,c24,a11,c27) SB BH (Nat.lt_succ_self _))
theorem nI {r1:aa} {d1:cU} (hI:Bun C0 F w0 C0 w0 [MO.box b1 67 (ac r1 a1 c1),MO.box b2 100 (vC d1 a2 c2 a3 c3 a4 c4 a5 c5 a6 c6),Q6 ai 64 a4 c4 d1.Body.Lin.L,Q6 al 132 a5 c5 d1.Body.Idx,Q6 an 39 a6 c6 d1.Body.Args] [Cl.sl ag a1 c1 r1.l,Cl.sl cb a2 c2 d1.Dims,Cl.sl cb a3 c3 d1.Red,au]) {r:bZ (Unit×aa×cU)} (h:eU r1 d1=some r):CP C0 F w0 177 #[vp b1 0,vp b2 0] r λrx e w=>∃ a7 c7 a8 c8 a9 c9 a10 c10 a11 c11 a12 c12 C,e= .returned (Value.tuple #[])∧Bun C0 F w0 C w [MO.box b1 67 (ac rx.2.1 a7 c7),MO.box b2 100 (vC rx.2.2 a8 c8 a9 c9 a10 c10 a11 c11 a12 c12),Q6 ai 64 a10 c10 rx.2.2.Body.Lin.L,Q6 al 132 a11 c11 rx.2.2.Body.Idx,Q6 an 39 a12 c12 rx.2.2.Body.Args] [Cl.sl ag a7 c7 rx.2.1.l,Cl.sl cb a8 c8 rx.2.2.Dims,Cl.sl cb a9 c9 rx.2.2.Red]:=by
 refine fa (l:=[vp b1 0,vp b2 0]) Tryz.func177 rfl Tryz.ntmps177 rfl ?_
 rw[eU]at h
 refine aj (aL [] false (.c (0,.q) (.c (1,.q) (.c (2,.q) (.c (3,.q) (.c (4,.q) (.c (5,.q) (.c (6,.q) (.c (7,.q) (.c (8,.q) (.c (9,.q) (.c (10,.q) (.c (11,.q) (.c (12,.q) (.c (13,.q) (.c (14,.q) (.c (15,.q) (.c (16,.q) (.c (17,.q) (.c (18,.q) (.c (19,.q) (.c (20,.q) (.c (21,.q) (.c (22,.q) (.c (23,.q) (.c (24,.q) (.c (25,.q) (.c (26,.q) (.c (27,.q) (.c (28,.q) (.c (29,.q) (.c (30,.q) (.c (31,.q) (.c (32,.q) (.c (33,.q) (.c (34,.q) (.c (35,.q) (.c (36,.q) (.c (37,.q) (.c (38,.q) (.c (39,.q) (.c (40,.q) (.c (41,.q) .n)))))))))))))))))))))))))))))))))))))))))) hI (by kernel_rfl) (by kernel_rfl) ?_)
 intro w1 hI
 refine V ?_
 obtain⟨e1,hx1,h⟩:=ab h
 replace hx1:=ax hx1
 obtain⟨ad1,cs1,hq1⟩:=hI.gclat .z hx1
 have hq2:(decide (av (r1.at_+1)<(r1.l.length:Int)))=true→CA (Dj F C0) w1 (ad1.add (Int.toNat (av (r1.at_+1)) * 3)) (oJ e1):=λhc=>vF (hq1 hc).2.1 (hq1 hc).2.2
 refine vJ ?_
 refine V ?_
 obtain⟨e2,hx2,h⟩:=ab h
 replace hx2:=ax hx2
 obtain⟨ad2,cs2,hq3⟩:=hI.gclat .z hx2
 have hq4:((decide (av (r1.at_+1)<(r1.l.length:Int)))&&(decide (e1.Kind=3)))=true→CA (Dj F C0) w1 (ad2.add (Int.toNat (av (r1.at_+1)) * 3)) (oJ e2):=λhc=>vF (hq3 hc).2.1 (hq3 hc).2.2
 refine vJ ?_
 refine V ?_
 refine aj (T ?_)
 obtain⟨r2,hx3,h⟩:=ab h
 replace hx3:=ax hx3
 refine sU (λhc=>bG NE ⟨(hI.get0 .z),hI.lendBox .z,af⟩ (hx3 hc)) (Rg Tryz.func121) λw2 hI=>?_
 refine T ?_
 obtain⟨r3,hx5,h⟩:=ab h
 replace hx5:=ax hx5
 refine sU (λhc=>bG NE ⟨(hI.get0 .z),hI.lendBox .z,af⟩ (hx5 hc)) (Rg Tryz.func121) λw3 hI=>?_
 refine TC (λhb h=>?_) λhb h=>?_
 ·refine aO ?_
  obtain rfl:=ak h
  refine QG ?_
  exact .inl ⟨_,rfl,a1,c1,a2,c2,a3,c3,a4,c4,a5,c5,a6,c6,_,rfl,hI.arr GO SU⟩
 refine T ?_
 refine ll hI be YW6 lw Rr λb3 c13 w4 hI=>?_
 obtain⟨c14,hI⟩:=hI.release .z
 obtain⟨c15,f1,hB,hl3,hk1⟩:=hI.hands (.l (.r (.r (.r (.r .n)))))
 obtain⟨⟨r4,s1⟩,hx7,h⟩:=ab h
 try dsimp only at h
 refine bf gn rfl (Rc Tryz.func98) (Calls.mono (fy HS hx7) ?_)
 rintro _ w5 ⟨a13,c16,c17,rfl,hB2⟩
 refine HN hk1 hB2 λc18 hI=>?_
 refine⟨_,rfl,?_⟩
 refine T ?_
 refine lS λc19 w6 hI=>?_
 refine nk (aj (T ?_))
 refine TC (λhb h=>?_) λhb h=>?_
 ·refine aO ?_
  obtain rfl:=ak h
  refine QG ?_
  exact .inl ⟨_,rfl,a13,c16,a2,c2,a3,c3,a4,c4,a5,c5,a6,c6,_,rfl,hI.arr GO SU⟩
 refine T ?_
 refine aj (T ?_)
 refine sB h (λ_ k=>bG NE ⟨(hI.get0 .z),hI.lendBox .z,af⟩ k) (Rc Tryz.func121) λr5 w7 h hI=>?_
 refine TC (λhb h=>?_) λhb h=>?_
 ·refine T ?_
  obtain⟨c20,f2,hB,hl5,hk2⟩:=hI.hands (.l (.r (.r (.r (.r .n)))))
  refine dh h (λ_ hx10=>kV HS hx10) (jL hk2) (Rc Tryz.func176) ?_
  rintro⟨r6,s2⟩ hx10 h _ w8 ⟨a14,c21,a15,c22,c23,rfl,hB2⟩
  try dsimp only at h
  refine HN hk2 hB2 λc24 hI=>?_
  refine⟨_,rfl,?_⟩
  refine T ?_
  refine lS λc25 w9 hI=>?_
  refine T ?_
  obtain⟨c26,f3,hB,hl6,hk3⟩:=hI.hands (.l (.r (.r (.r (.r .n)))))
  refine dh h (λ_ hx11=>ap HS hx11) (jL hk3) (Rc Tryz.func104) ?_
  rintro⟨r7,s3⟩ hx11 h _ w10 ⟨a16,c27,c28,rfl,hB2⟩
  try dsimp only at h
  refine HN hk3 hB2 λc29 hI=>?_
  refine⟨_,rfl,?_⟩
  refine aG ?_
  obtain rfl:=ak h
  refine QG ?_
  exact .inl ⟨_,rfl,a16,c27,a2,c2,a14,c21,a4,c4,a5,c5,a6,c6,_,rfl,hI.arr GO SU⟩
 refine T ?_
 obtain⟨c30,f4,hB,hl7,hk4⟩:=hI.hands (.l (.r (.r (.r (.r .n)))))
 refine dh h (λ_ hx12=>ap HS hx12) (jL hk4) (Rc Tryz.func104) ?_
 rintro⟨r8,s4⟩ hx12 h _ w11 ⟨a17,c31,c32,rfl,hB2⟩
 try dsimp only at h
 refine HN hk4 hB2 λc33 hI=>?_
 refine⟨_,rfl,?_⟩
 refine aG ?_
 obtain rfl:=ak h
 refine QG ?_
 exact .inl ⟨_,rfl,a17,c31,a2,c2,a3,c3,a4,c4,a5,c5,a6,c6,_,rfl,hI.arr GO SU⟩
theorem jk {r1:aa} (hI:Bun C0 F w0 C0 w0 [MO.box b1 67 (ac r1 a1 c1)] [Cl.sl ag a1 c1 r1.l,au]) {r:bZ (cU×aa)} (h:gU r1=some r):CP C0 F w0 102 #[vp b1 0] r λrx e w=>∃ a2 c2 a3 c3 a4 c4 a5 c5 a6 c6 a7 c7 C,e= .returned (Value.agg (vC rx.1 a2 c2 a3 c3 a4 c4 a5 c5 a6 c6))∧Bun C0 F w0 C w [MO.box b1 67 (ac rx.2 a7 c7)] [Cl.sl cb a2 c2 rx.1.Dims,Cl.sl cb a3 c3 rx.1.Red,Cl.sl ai a4 c4 rx.1.Body.Lin.L,Cl.sl al a5 c5 rx.1.Body.Idx,Cl.sl an a6 c6 rx.1.Body.Args,Cl.sl ag a7 c7 rx.2.l]:=by
 refine fa (l:=[vp b1 0]) Tryz.func102 rfl Tryz.ntmps102 rfl ?_
 rw[gU]at h
 refine sr (cY (cs:=Kx) hI gn rfl rfl Ix rfl ?_)
 intro b2 c8 w1 hI
 refine nk (sr (sm ?_))
 obtain⟨c9,f1,hB,hl1,hk1⟩:=hI.hands (.r (.l .n))
 rcases en h with⟨⟨r2,s1⟩,hx1,h⟩ | ⟨pa_,pn_,hx1,hp_⟩
 rotate_left
 ·subst hp_
  refine iw gn rfl (ar (vs:=[vp b1 0]) rfl Ow ⟨et,af⟩) (Calls.mono (bT HS hx1) ?_)
  intro e_ w_ hq_;obtain⟨rfl,C_,hB_⟩:=cz hq_;obtain⟨C9_,-,hI_⟩:=hk1 _ _ _ _ hB_;exact .inr ⟨_,rfl,fB (.inr ⟨_,_,rfl,rfl,_,hI_.arr .n trivial⟩)⟩
 try dsimp only at h
 refine bf gn rfl (Rc Tryz.func128) (Calls.mono (bT HS hx1) ?_)
 intro e_ w2 hq_;obtain⟨a8,c10,c11,rfl,hB2⟩:=cy hq_
 obtain⟨c12,hs1,hI⟩:=hk1 _ _ _ _ hB2
 replace hI:Bun C0 F w0 c12 w2 [MO.box b1 67 (ac s1 a8 c10),MO.box b2 100 Kx] [Cl.sl ag a8 c10 s1.l,Cl.sl ag a1 c1 r1.l,au]:=hI
 refine⟨_,rfl,?_⟩
 refine sq (aK (vs:=[(0,(str r2))]) (cs:=#[(str r2),vi 0,vi 0,vi 0,vi 0,vi 0,vs none 0 0,vs none 0 0,vi 0,vi 0,(str []),vi 0,vi 0,vi 0,vi 0,vi 0,vi 0,vi 0,vi 0,vs none 0 0,vs none 0 0,vs none 0 0]) rfl ⟨rfl,et,af⟩ (by kernel_rfl)) ?_
 refine lN λb3 c13 w3 hI=>?_
 refine bJ (new:=[(str r2),vi 0,vi 0,vi 0,vi 0,vi 0,vs none 0 0,vs none 0 0,vi 0,vi 0,(str []),vi 0,vi 0,vi 0,vi 0,vi 0,vi 0,vi 0,vi 0,vs none 0 0,vs none 0 0,vs none 0 0]) (cs':=#[(str r2),vi 0,vi 0,vi 0,vi 0,vi 0,vs none 0 0,vs none 0 0,vi 0,vi 0,(str []),vi 0,vi 0,vi 0,vi 0,vi 0,vi 0,vi 0,vi 0,vs none 0 0,vs none 0 0,vs none 0 0]) hI .z gn rfl rfl et et rfl nL rfl rfl rfl ?_
 intro c14 w4 hI
 refine nk (sr (sm ?_))
 obtain⟨c15,f2,hB,hl2,hk2⟩:=hI.hands (.r (.l (.r .n)))
 rcases en h with⟨⟨r3,s2⟩,hx2,h⟩ | ⟨pa_,pn_,hx2,hp_⟩
 rotate_left
 ·subst hp_
  refine iw gn rfl (ar (vs:=[vp b1 0,(str [58])]) rfl B6 ⟨et,ah,af⟩) (Calls.mono (ap HS hx2) ?_)
  intro e_ w_ hq_;obtain⟨rfl,C_,hB_⟩:=cz hq_;obtain⟨C9_,-,hI_⟩:=hk2 _ _ _ _ hB_;exact .inr ⟨_,rfl,fB (.inr ⟨_,_,rfl,rfl,_,hI_.arr .n trivial⟩)⟩
 try dsimp only at h
 refine bf gn rfl (Rc Tryz.func104) (Calls.mono (ap HS hx2) ?_)
 intro e_ w5 hq_;obtain⟨a9,c16,c17,rfl,hB2⟩:=cy hq_
 obtain⟨c18,hs2,hI⟩:=hk2 _ _ _ _ hB2
 replace hI:Bun C0 F w0 c18 w5 [MO.box b1 67 (ac s2 a9 c16),MO.box b3 100 #[(str r2),vi 0,vi 0,vi 0,vi 0,vi 0,vs none 0 0,vs none 0 0,vi 0,vi 0,(str []),vi 0,vi 0,vi 0,vi 0,vi 0,vi 0,vi 0,vi 0,vs none 0 0,vs none 0 0,vs none 0 0],MO.box b2 100 Kx] [Cl.sl ag a9 c16 s2.l,Cl.sl ag a8 c10 s1.l,Cl.sl ag a1 c1 r1.l,au]:=hI
 refine⟨_,rfl,?_⟩
 refine nk (sr (sm ?_))
 obtain⟨c19,f3,hB,hl3,hk3⟩:=hI.hands (.l (.r (.r .n)))
 rcases en h with⟨⟨r4,s3⟩,hx3,h⟩ | ⟨pa_,pn_,hx3,hp_⟩
 rotate_left
 ·subst hp_
  refine iw gn rfl (ar (vs:=[vp b1 0]) rfl Om ⟨et,af⟩) (Calls.mono (gW HS hx3) ?_)
  intro e_ w_ hq_;obtain⟨rfl,C_,hB_⟩:=cz hq_;obtain⟨C9_,-,hI_⟩:=hk3 _ _ _ _ hB_;exact .inr ⟨_,rfl,fB (.inr ⟨_,_,rfl,rfl,_,hI_.arr .n trivial⟩)⟩
 try dsimp only at h
 refine bf gn rfl (Rc Tryz.func174) (Calls.mono (gW HS hx3) ?_)
 intro e_ w6 hq_;obtain⟨a10,c20,c21,rfl,hB2⟩:=cy hq_
 obtain⟨c22,hs3,hI⟩:=hk3 _ _ _ _ hB2
 replace hI:Bun C0 F w0 c22 w6 [MO.box b1 67 (ac s3 a10 c20),MO.box b3 100 #[(str r2),vi 0,vi 0,vi 0,vi 0,vi 0,vs none 0 0,vs none 0 0,vi 0,vi 0,(str []),vi 0,vi 0,vi 0,vi 0,vi 0,vi 0,vi 0,vi 0,vs none 0 0,vs none 0 0,vs none 0 0],MO.box b2 100 Kx] [Cl.sl ag a10 c20 s3.l,Cl.sl ag a9 c16 s2.l,Cl.sl ag a8 c10 s1.l,Cl.sl ag a1 c1 r1.l,au]:=hI
 refine⟨_,rfl,?_⟩
 refine sq (aq rfl et Ac rfl bN rfl) ?_
 refine bJ (new:=(bU r4)) (cs':=#[(str r2),vi r4.Kind,vi r4.Bits,vi r4.Frac,vi r4.Round,vi r4.Over,vs none 0 0,vs none 0 0,vi 0,vi 0,(str []),vi 0,vi 0,vi 0,vi 0,vi 0,vi 0,vi 0,vi 0,vs none 0 0,vs none 0 0,vs none 0 0]) hI .p1 gn rfl rfl et et rfl bN rfl rfl rfl ?_
 intro c23 w7 hI
 refine nk (sr (sm ?_))
 obtain⟨c24,f4,hB,hl4,hk4⟩:=hI.hands (.l (.r (.r .n)))
 rcases en h with⟨⟨r5,s4⟩,hx4,h⟩ | ⟨pa_,pn_,hx4,hp_⟩
 rotate_left
 ·subst hp_
  refine iw gn rfl (ar (vs:=[vp b1 0,(str [91])]) rfl B6 ⟨et,ah,af⟩) (Calls.mono (ap HS hx4) ?_)
  intro e_ w_ hq_;obtain⟨rfl,C_,hB_⟩:=cz hq_;obtain⟨C9_,-,hI_⟩:=hk4 _ _ _ _ hB_;exact .inr ⟨_,rfl,fB (.inr ⟨_,_,rfl,rfl,_,hI_.arr .n trivial⟩)⟩
 try dsimp only at h
 refine bf gn rfl (Rc Tryz.func104) (Calls.mono (ap HS hx4) ?_)
 intro e_ w8 hq_;obtain⟨a11,c25,c26,rfl,hB2⟩:=cy hq_
 obtain⟨c27,hs4,hI⟩:=hk4 _ _ _ _ hB2
 replace hI:Bun C0 F w0 c27 w8 [MO.box b1 67 (ac s4 a11 c25),MO.box b3 100 #[(str r2),vi r4.Kind,vi r4.Bits,vi r4.Frac,vi r4.Round,vi r4.Over,vs none 0 0,vs none 0 0,vi 0,vi 0,(str []),vi 0,vi 0,vi 0,vi 0,vi 0,vi 0,vi 0,vi 0,vs none 0 0,vs none 0 0,vs none 0 0],MO.box b2 100 Kx] [Cl.sl ag a11 c25 s4.l,Cl.sl ag a10 c20 s3.l,Cl.sl ag a9 c16 s2.l,Cl.sl ag a8 c10 s1.l,Cl.sl ag a1 c1 r1.l,au]:=hI
 refine⟨_,rfl,?_⟩
 refine nk (bO (α:=aa×cU×(Option Addr)×Nat×(Option Addr)×Nat×(Option Addr)×Nat×(Option Addr)×Nat×(Option Addr)×Nat×(Option Addr)×Nat) (λ_=>⟨45,[]⟩) (λx=>[(0,vp b1 0),(2,vp b2 0),(3,vp b3 0)]) (λx=>λw=>∃ C,Bun C0 F w0 C w [Q6 cb 204 (x.2.2.2.2.2.2.1) (x.2.2.2.2.2.2.2.1) (x.2.1).Red,Q6 ai 64 (x.2.2.2.2.2.2.2.2.1) (x.2.2.2.2.2.2.2.2.2.1) (x.2.1).Body.Lin.L,Q6 al 132 (x.2.2.2.2.2.2.2.2.2.2.1) (x.2.2.2.2.2.2.2.2.2.2.2.1) (x.2.1).Body.Idx,Q6 an 39 (x.2.2.2.2.2.2.2.2.2.2.2.2.1) (x.2.2.2.2.2.2.2.2.2.2.2.2.2) (x.2.1).Body.Args,MO.box b1 67 (ac (x.1) (x.2.2.1) (x.2.2.2.1)),MO.box b2 100 Kx,MO.box b3 100 (vC (x.2.1) (x.2.2.2.2.1) (x.2.2.2.2.2.1) (x.2.2.2.2.2.2.1) (x.2.2.2.2.2.2.2.1) (x.2.2.2.2.2.2.2.2.1) (x.2.2.2.2.2.2.2.2.2.1) (x.2.2.2.2.2.2.2.2.2.2.1) (x.2.2.2.2.2.2.2.2.2.2.2.1) (x.2.2.2.2.2.2.2.2.2.2.2.2.1) (x.2.2.2.2.2.2.2.2.2.2.2.2.2))] [Cl.sl ag (x.2.2.1) (x.2.2.2.1) (x.1).l,Cl.sl cb (x.2.2.2.2.1) (x.2.2.2.2.2.1) (x.2.1).Dims,au]∧er (x.1) (x.2.1)=some r) ?_ ?_)
 ·clear h hI;rintro⟨r6,d1,a12,c28,a13,c29,a14,c30,a15,c31,a16,c32,a17,c33⟩ w9 ⟨c34,hI,h⟩
  try dsimp only at hI h ⊢
  rw[er]at h
  refine sr (sm ?_)
  obtain⟨c35,f5,hB,hl5,hk5⟩:=hI.hands (.r (.r (.r (.r (.l (.r (.r .n)))))))
  rcases en h with⟨⟨r7,s5⟩,hx5,h⟩ | ⟨pa_,pn_,hx5,hp_⟩
  rotate_left
  ·subst hp_
   refine iw gn rfl (ar (vs:=[vp b1 0,(str [93])]) rfl B6 ⟨et,ah,af⟩) (Calls.mono (ap HS hx5) ?_)
   intro e_ w_ hq_;obtain⟨rfl,C_,hB_⟩:=cz hq_;obtain⟨C9_,-,hI_⟩:=hk5 _ _ _ _ hB_;exact .inr ⟨_,rfl,fB (.inr ⟨_,_,rfl,rfl,_,hI_.arr .n trivial⟩)⟩
  try dsimp only at h
  refine bf gn rfl (Rc Tryz.func104) (Calls.mono (ap HS hx5) ?_)
  intro e_ w10 hq_;obtain⟨a18,c36,c37,rfl,hB2⟩:=cy hq_
  obtain⟨c38,hs5,hI⟩:=hk5 _ _ _ _ hB2
  replace hI:Bun C0 F w0 c38 w10 [MO.box b1 67 (ac s5 a18 c36),Q6 cb 204 a14 c30 d1.Red,Q6 ai 64 a15 c31 d1.Body.Lin.L,Q6 al 132 a16 c32 d1.Body.Idx,Q6 an 39 a17 c33 d1.Body.Args,MO.box b2 100 Kx,MO.box b3 100 (vC d1 a13 c29 a14 c30 a15 c31 a16 c32 a17 c33)] [Cl.sl ag a18 c36 s5.l,Cl.sl ag a12 c28 r6.l,Cl.sl cb a13 c29 d1.Dims,au]:=hI
  refine⟨_,rfl,?_⟩
  refine nk (sr (sm ?_))
  obtain⟨c39,f6,hB,hl6,hk6⟩:=hI.hands (.l (.r (.r (.r (.r (.r (.r .n)))))))
  rcases en h with⟨⟨r8,s6⟩,hx6,h⟩ | ⟨pa_,pn_,hx6,hp_⟩
  rotate_left
  ·subst hp_
   refine iw gn rfl (ar (vs:=[vp b1 0,(str [61])]) rfl B6 ⟨et,ah,af⟩) (Calls.mono (ap HS hx6) ?_)
   intro e_ w_ hq_;obtain⟨rfl,C_,hB_⟩:=cz hq_;obtain⟨C9_,-,hI_⟩:=hk6 _ _ _ _ hB_;exact .inr ⟨_,rfl,fB (.inr ⟨_,_,rfl,rfl,_,hI_.arr .n trivial⟩)⟩
  try dsimp only at h
  refine bf gn rfl (Rc Tryz.func104) (Calls.mono (ap HS hx6) ?_)
  intro e_ w11 hq_;obtain⟨a19,c40,c41,rfl,hB2⟩:=cy hq_
  obtain⟨c42,hs6,hI⟩:=hk6 _ _ _ _ hB2
  replace hI:Bun C0 F w0 c42 w11 [MO.box b1 67 (ac s6 a19 c40),Q6 cb 204 a14 c30 d1.Red,Q6 ai 64 a15 c31 d1.Body.Lin.L,Q6 al 132 a16 c32 d1.Body.Idx,Q6 an 39 a17 c33 d1.Body.Args,MO.box b2 100 Kx,MO.box b3 100 (vC d1 a13 c29 a14 c30 a15 c31 a16 c32 a17 c33)] [Cl.sl ag a19 c40 s6.l,Cl.sl ag a18 c36 s5.l,Cl.sl ag a12 c28 r6.l,Cl.sl cb a13 c29 d1.Dims,au]:=hI
  refine⟨_,rfl,?_⟩
  refine nk (sr (sm ?_))
  obtain⟨c43,hI⟩:=hI.release .p1
  obtain⟨c44,f7,hB,hl7,hk7⟩:=hI.hands (.l (.l (.l (.l (.r (.l .n))))))
  replace hB:=hB.ord (.c .z (.c .p3 (.c .z (.c .z (.c .z .n)))))
  rcases en h with⟨⟨r9,s7,s8⟩,hx7,h⟩ | ⟨pa_,pn_,hx7,hp_⟩
  rotate_left
  ·subst hp_
   refine iw gn rfl (ar (vs:=[vp b1 0,vp b3 0]) rfl Ok ⟨et,et,af⟩) (Calls.mono (nI HS hx7) ?_)
   intro e_ w_ hq_;obtain⟨rfl,C_,hB_⟩:=cz hq_;obtain⟨C9_,-,hI_⟩:=hk7 _ _ _ _ hB_;exact .inr ⟨_,rfl,fB (.inr ⟨_,_,rfl,rfl,_,hI_.arr .n trivial⟩)⟩
  try dsimp only at h
  refine bf gn rfl (Rc Tryz.func177) (Calls.mono (nI HS hx7) ?_)
  intro e_ w12 hq_;obtain⟨a20,c45,a21,c46,a22,c47,a23,c48,a24,c49,a25,c50,c51,rfl,hB2⟩:=cy hq_
  obtain⟨c52,hs7,hI⟩:=hk7 _ _ _ _ hB2
  replace hI:Bun C0 F w0 c52 w12 [MO.box b1 67 (ac s7 a20 c45),MO.box b3 100 (vC s8 a21 c46 a22 c47 a23 c48 a24 c49 a25 c50),Q6 ai 64 a23 c48 s8.Body.Lin.L,Q6 al 132 a24 c49 s8.Body.Idx,Q6 an 39 a25 c50 s8.Body.Args,MO.box b2 100 Kx] [Cl.sl ag a20 c45 s7.l,Cl.sl cb a21 c46 s8.Dims,Cl.sl cb a22 c47 s8.Red,Cl.sl cb a14 c30 d1.Red,Cl.sl ag a19 c40 s6.l,Cl.sl ag a18 c36 s5.l,Cl.sl ag a12 c28 r6.l,Cl.sl cb a13 c29 d1.Dims,au]:=hI
  refine⟨_,rfl,?_⟩
  refine nk (sr (sm ?_))
  refine sq (nn rfl et) ?_
  refine sq (aq rfl et PK rfl jQ rfl) ?_
  refine sq (aF (v:=(vi s7.at_)) rfl et u3 rfl (Q5 (hI.blk .z) rfl)) ?_
  refine sa ?_
  refine nk (sr (sm ?_))
  obtain⟨c53,f8,hB,hl8,hk8⟩:=hI.hands (.l (.r (.r (.r (.r (.r .n))))))
  rcases en h with⟨⟨r10,s9⟩,hx8,h⟩ | ⟨pa_,pn_,hx8,hp_⟩
  rotate_left
  ·subst hp_
   refine iw gn rfl (ar (vs:=[vp b1 0]) rfl ru ⟨et,af⟩) (Calls.mono (mi HS hx8) ?_)
   intro e_ w_ hq_;obtain⟨rfl,C_,hB_⟩:=cz hq_;obtain⟨C9_,-,hI_⟩:=hk8 _ _ _ _ hB_;exact .inr ⟨_,rfl,fB (.inr ⟨_,_,rfl,rfl,_,hI_.arr .n trivial⟩)⟩
  try dsimp only at h
  refine bf gn rfl (Rc Tryz.func34) (Calls.mono (mi HS hx8) ?_)
  intro e_ w13 hq_;obtain⟨a26,c54,a27,c55,a28,c56,a29,c57,c58,rfl,hB2⟩:=cy hq_
  obtain⟨c59,hs8,hI⟩:=hk8 _ _ _ _ hB2
  replace hI:Bun C0 F w0 c59 w13 [MO.box b1 67 (ac s9 a29 c57),MO.box b3 100 (vC s8 a21 c46 a22 c47 a23 c48 a24 c49 a25 c50),Q6 ai 64 a23 c48 s8.Body.Lin.L,Q6 al 132 a24 c49 s8.Body.Idx,Q6 an 39 a25 c50 s8.Body.Args,MO.box b2 100 Kx] [Cl.sl ai a26 c54 r10.Lin.L,Cl.sl al a27 c55 r10.Idx,Cl.sl an a28 c56 r10.Args,Cl.sl ag a29 c57 s9.l,Cl.sl ag a20 c45 s7.l,Cl.sl cb a21 c46 s8.Dims,Cl.sl cb a22 c47 s8.Red,Cl.sl cb a14 c30 d1.Red,Cl.sl ag a19 c40 s6.l,Cl.sl ag a18 c36 s5.l,Cl.sl ag a12 c28 r6.l,Cl.sl cb a13 c29 d1.Dims,au]:=hI
  refine⟨_,rfl,?_⟩
  refine sq (aq rfl et Ac rfl aJ rfl) ?_
  refine bJ (new:=(ba r10 a26 c54 a27 c55 a28 c56)) (cs':=#[(str s8.Name),vi s8.Type_.Kind,vi s8.Type_.Bits,vi s8.Type_.Frac,vi s8.Type_.Round,vi s8.Type_.Over,vs a21 s8.Dims.length c46,vs a22 s8.Red.length c47,vi s8.Fold,vi r10.Op,(str r10.Name),vi r10.Val.N,vi r10.Val.D,vi r10.Type_.Kind,vi r10.Type_.Bits,vi r10.Type_.Frac,vi r10.Type_.Round,vi r10.Type_.Over,vi r10.Lin.K,vs a26 r10.Lin.L.length c54,vs a27 r10.Idx.length c55,vs a28 r10.Args.length c56]) hI .p1 gn rfl rfl et et rfl aJ rfl rfl rfl ?_
  intro c60 w14 hI
  refine nk (aj (sr (sq (aq rfl et Ac rfl aJ rfl) ?_)))
  refine sq (am (l:=(ba r10 a26 c54 a27 c55 a28 c56)) rfl et jZ rfl aJ (Q5 (hI.blk .p1) rfl)) ?_
  refine sB h (λ_ k=>tc hI.lt FS k) (Rc Tryz.func35) λr11 w15 h hI=>?_
  refine sa ?_
  refine nk (sr (sm ?_))
  refine sq (pE rfl et ah) ?_
  refine TC (λhb h=>?_) λhb h=>?_
  ·refine ip rfl ?_
   refine sm ?_
   refine sm ?_
   refine sm ?_
   rcases en h with⟨r12,hx11,h⟩ | ⟨pa_,pn_,hx11,hp_⟩
   rotate_left
   ·subst hp_
    refine iw gn rfl (ar (vs:=[vp b1 0,vi s7.at_,vi r11]) rfl uO ⟨et,et,et,af⟩) (Calls.mono (aP NE ⟨(hI.get0 .p3),hI.lendBox .z,af⟩ hx11) ?_)
    intro e_ w_ hq_;obtain⟨rfl,hx_⟩:=cz hq_;have hI_:=hI.ext hx_;exact .inr ⟨_,rfl,fB (.inr ⟨_,_,rfl,rfl,_,hI_.arr .n trivial⟩)⟩
   try dsimp only at h
   refine bf gn rfl (Rc Tryz.func71) (Calls.mono (aP NE ⟨(hI.get0 .p3),hI.lendBox .z,af⟩ hx11) ?_)
   intro e_ w16 hq_;obtain⟨rfl,hx12,hl10⟩:=cy hq_
   refine⟨_,rfl,?_⟩
   replace hI:=(hI.ext hx12)
   refine aG ?_
   refine oq (e:=[(2,vp b2 0),(3,vp b3 0)]) ⟨rfl,rfl,af⟩ ?_
   refine sr (sq (am (l:=[(str s8.Name),vi s8.Type_.Kind,vi s8.Type_.Bits,vi s8.Type_.Frac,vi s8.Type_.Round,vi s8.Type_.Over,vs a21 s8.Dims.length c46,vs a22 s8.Red.length c47,vi s8.Fold,vi r10.Op,(str r10.Name),vi r10.Val.N,vi r10.Val.D,vi r10.Type_.Kind,vi r10.Type_.Bits,vi r10.Type_.Frac,vi r10.Type_.Round,vi r10.Type_.Over,vi r10.Lin.K,vs a26 r10.Lin.L.length c54,vs a27 r10.Idx.length c55,vs a28 r10.Args.length c56]) rfl et Ac rfl nL (Q5 (hI.blk .p1) rfl)) ?_)
   refine bJ (new:=[(str s8.Name),vi s8.Type_.Kind,vi s8.Type_.Bits,vi s8.Type_.Frac,vi s8.Type_.Round,vi s8.Type_.Over,vs a21 s8.Dims.length c46,vs a22 s8.Red.length c47,vi s8.Fold,vi r10.Op,(str r10.Name),vi r10.Val.N,vi r10.Val.D,vi r10.Type_.Kind,vi r10.Type_.Bits,vi r10.Type_.Frac,vi r10.Type_.Round,vi r10.Type_.Over,vi r10.Lin.K,vs a26 r10.Lin.L.length c54,vs a27 r10.Idx.length c55,vs a28 r10.Args.length c56]) (cs':=#[(str s8.Name),vi s8.Type_.Kind,vi s8.Type_.Bits,vi s8.Type_.Frac,vi s8.Type_.Round,vi s8.Type_.Over,vs a21 s8.Dims.length c46,vs a22 s8.Red.length c47,vi s8.Fold,vi r10.Op,(str r10.Name),vi r10.Val.N,vi r10.Val.D,vi r10.Type_.Kind,vi r10.Type_.Bits,vi r10.Type_.Frac,vi r10.Type_.Round,vi r10.Type_.Over,vi r10.Lin.K,vs a26 r10.Lin.L.length c54,vs a27 r10.Idx.length c55,vs a28 r10.Args.length c56]) hI .p5 gn rfl rfl et et rfl nL rfl rfl rfl ?_
   intro c61 w17 hI
   refine nk (aO ?_)
   obtain rfl:=ak h
   exact gR (vs:=[(Value.agg #[(str s8.Name),vi s8.Type_.Kind,vi s8.Type_.Bits,vi s8.Type_.Frac,vi s8.Type_.Round,vi s8.Type_.Over,vs a21 s8.Dims.length c46,vs a22 s8.Red.length c47,vi s8.Fold,vi r10.Op,(str r10.Name),vi r10.Val.N,vi r10.Val.D,vi r10.Type_.Kind,vi r10.Type_.Bits,vi r10.Type_.Frac,vi r10.Type_.Round,vi r10.Type_.Over,vi r10.Lin.K,vs a26 r10.Lin.L.length c54,vs a27 r10.Idx.length c55,vs a28 r10.Args.length c56])]) Tryz.results102 ⟨⟨_,aT rfl rfl,jI (l:=[(str s8.Name),vi s8.Type_.Kind,vi s8.Type_.Bits,vi s8.Type_.Frac,vi s8.Type_.Round,vi s8.Type_.Over,vs a21 s8.Dims.length c46,vs a22 s8.Red.length c47,vi s8.Fold,vi r10.Op,(str r10.Name),vi r10.Val.N,vi r10.Val.D,vi r10.Type_.Kind,vi r10.Type_.Bits,vi r10.Type_.Frac,vi r10.Type_.Round,vi r10.Type_.Over,vi r10.Lin.K,vs a26 r10.Lin.L.length c54,vs a27 r10.Idx.length c55,vs a28 r10.Args.length c56]) Ac rfl nL (Q5 (hI.blk .p5) rfl)⟩,af⟩ (.inl ⟨_,rfl,a21,c46,a22,c47,a26,c54,a27,c55,a28,c56,a29,c57,_,rfl,hI.arr (.c .z .n) ⟨.p5,.p6,.z,.p1,.p2,.p3,af⟩⟩)
  refine aZ (aS (sr (sq (am (l:=[(str s8.Name),vi s8.Type_.Kind,vi s8.Type_.Bits,vi s8.Type_.Frac,vi s8.Type_.Round,vi s8.Type_.Over,vs a21 s8.Dims.length c46,vs a22 s8.Red.length c47,vi s8.Fold,vi r10.Op,(str r10.Name),vi r10.Val.N,vi r10.Val.D,vi r10.Type_.Kind,vi r10.Type_.Bits,vi r10.Type_.Frac,vi r10.Type_.Round,vi r10.Type_.Over,vi r10.Lin.K,vs a26 r10.Lin.L.length c54,vs a27 r10.Idx.length c55,vs a28 r10.Args.length c56]) rfl et Ac rfl nL (Q5 (hI.blk .p1) rfl)) ?_)))
  refine bJ (new:=[(str s8.Name),vi s8.Type_.Kind,vi s8.Type_.Bits,vi s8.Type_.Frac,vi s8.Type_.Round,vi s8.Type_.Over,vs a21 s8.Dims.length c46,vs a22 s8.Red.length c47,vi s8.Fold,vi r10.Op,(str r10.Name),vi r10.Val.N,vi r10.Val.D,vi r10.Type_.Kind,vi r10.Type_.Bits,vi r10.Type_.Frac,vi r10.Type_.Round,vi r10.Type_.Over,vi r10.Lin.K,vs a26 r10.Lin.L.length c54,vs a27 r10.Idx.length c55,vs a28 r10.Args.length c56]) (cs':=#[(str s8.Name),vi s8.Type_.Kind,vi s8.Type_.Bits,vi s8.Type_.Frac,vi s8.Type_.Round,vi s8.Type_.Over,vs a21 s8.Dims.length c46,vs a22 s8.Red.length c47,vi s8.Fold,vi r10.Op,(str r10.Name),vi r10.Val.N,vi r10.Val.D,vi r10.Type_.Kind,vi r10.Type_.Bits,vi r10.Type_.Frac,vi r10.Type_.Round,vi r10.Type_.Over,vi r10.Lin.K,vs a26 r10.Lin.L.length c54,vs a27 r10.Idx.length c55,vs a28 r10.Args.length c56]) hI .p5 gn rfl rfl et et rfl nL rfl rfl rfl ?_
  intro c62 w18 hI
  refine nk (aO ?_)
  obtain rfl:=ak h
  exact gR (vs:=[(Value.agg #[(str s8.Name),vi s8.Type_.Kind,vi s8.Type_.Bits,vi s8.Type_.Frac,vi s8.Type_.Round,vi s8.Type_.Over,vs a21 s8.Dims.length c46,vs a22 s8.Red.length c47,vi s8.Fold,vi r10.Op,(str r10.Name),vi r10.Val.N,vi r10.Val.D,vi r10.Type_.Kind,vi r10.Type_.Bits,vi r10.Type_.Frac,vi r10.Type_.Round,vi r10.Type_.Over,vi r10.Lin.K,vs a26 r10.Lin.L.length c54,vs a27 r10.Idx.length c55,vs a28 r10.Args.length c56])]) Tryz.results102 ⟨⟨_,aT rfl rfl,jI (l:=[(str s8.Name),vi s8.Type_.Kind,vi s8.Type_.Bits,vi s8.Type_.Frac,vi s8.Type_.Round,vi s8.Type_.Over,vs a21 s8.Dims.length c46,vs a22 s8.Red.length c47,vi s8.Fold,vi r10.Op,(str r10.Name),vi r10.Val.N,vi r10.Val.D,vi r10.Type_.Kind,vi r10.Type_.Bits,vi r10.Type_.Frac,vi r10.Type_.Round,vi r10.Type_.Over,vi r10.Lin.K,vs a26 r10.Lin.L.length c54,vs a27 r10.Idx.length c55,vs a28 r10.Args.length c56]) Ac rfl nL (Q5 (hI.blk .p5) rfl)⟩,af⟩ (.inl ⟨_,rfl,a21,c46,a22,c47,a26,c54,a27,c55,a28,c56,a29,c57,_,rfl,hI.arr (.c .z .n) ⟨.p5,.p6,.z,.p1,.p2,.p3,af⟩⟩)
 refine sr (sm ?_)
 refine sB h (λ_ k=>bG NE ⟨(hI.get0 .z),hI.lendBox .z,af⟩ k) (Rc Tryz.func121) λr13 w19 h hI=>?_
 refine sq (uH rfl et) ?_
 refine TC (λhb h=>?_) λhb h=>?_
 ·refine ip rfl ?_
  refine sm ?_
  obtain⟨c63,f9,hB,hl12,hk9⟩:=hI.hands (.l (.r (.r .n)))
  rcases en h with⟨⟨r14,s10⟩,hx15,h⟩ | ⟨pa_,pn_,hx15,hp_⟩
  rotate_left
  ·subst hp_
   refine iw gn rfl (ar (vs:=[vp b1 0]) rfl Ol ⟨et,af⟩) (Calls.mono (kV HS hx15) ?_)
   intro e_ w_ hq_;obtain⟨rfl,C_,hB_⟩:=cz hq_;obtain⟨C9_,-,hI_⟩:=hk9 _ _ _ _ hB_;exact .inr ⟨_,rfl,fB (.inr ⟨_,_,rfl,rfl,_,hI_.arr .n trivial⟩)⟩
  try dsimp only at h
  refine bf gn rfl (Rc Tryz.func176) (Calls.mono (kV HS hx15) ?_)
  intro e_ w20 hq_;obtain⟨a30,c64,a31,c65,c66,rfl,hB2⟩:=cy hq_
  obtain⟨c67,hs9,hI⟩:=hk9 _ _ _ _ hB2
  replace hI:Bun C0 F w0 c67 w20 [MO.box b1 67 (ac s10 a31 c65),MO.box b3 100 #[(str r2),vi r4.Kind,vi r4.Bits,vi r4.Frac,vi r4.Round,vi r4.Over,vs none 0 0,vs none 0 0,vi 0,vi 0,(str []),vi 0,vi 0,vi 0,vi 0,vi 0,vi 0,vi 0,vi 0,vs none 0 0,vs none 0 0,vs none 0 0],MO.box b2 100 Kx] [Cl.sl cb a30 c64 r14,Cl.sl ag a31 c65 s10.l,Cl.sl ag a11 c25 s4.l,Cl.sl ag a10 c20 s3.l,Cl.sl ag a9 c16 s2.l,Cl.sl ag a8 c10 s1.l,Cl.sl ag a1 c1 r1.l,au]:=hI
  refine⟨_,rfl,?_⟩
  refine sq (aq rfl et Ac rfl Lh rfl) ?_
  refine lS λc68 w21 hI=>?_
  refine aG ?_
  have hI:=hI.nil cb 204 none
  have hI:=hI.nil ai 64 none
  have hI:=hI.nil al 132 none
  have hI:=hI.nil an 39 none
  exact bI (s10,(⟨r2,r4,r14,[],0,(⟨0,[],⟨0,0⟩,⟨0,0,0,0,0⟩,⟨0,[]⟩,[],[]⟩:ae)⟩:cU),a31,c65,a30,c64,none,0,none,0,none,0,none,0) ⟨rfl,rfl,rfl,af⟩ ⟨_,hI.arr (.c .p3 (.c .p2 (.c .p1 (.c .z (.c .z (.c .p1 (.c .z .n))))))) ⟨.p1,.z,.p7,af⟩,h⟩ rfl
 refine aZ ?_
 have hI:=hI.add (c:=Cl.sl cb none 0 ([]:List fG)) SlC.nil
 have hI:=hI.nil cb 204 none
 have hI:=hI.nil ai 64 none
 have hI:=hI.nil al 132 none
 have hI:=hI.nil an 39 none
 exact bI (s4,(⟨r2,r4,[],[],0,(⟨0,[],⟨0,0⟩,⟨0,0,0,0,0⟩,⟨0,[]⟩,[],[]⟩:ae)⟩:cU),a11,c25,none,0,none,0,none,0,none,0,none,0) ⟨rfl,rfl,rfl,af⟩ ⟨_,hI.arr (.c .p3 (.c .p2 (.c .p1 (.c .z (.c .z (.c .p1 (.c .z .n))))))) ⟨.p1,.z,.p6,af⟩,h⟩ rfl
def cP:Tr:=(.c (4,.s) (.c (5,.q) (.c (6,.s) .n)))
def ec:Tr:=(.c (5,.s) (.c (6,.q) (.c (7,.s) .n)))
def cO:Tr:=(.c (4,.s) ec)
def d9:Tr:=(.c (5,.s) (.c (6,.q) (.c (7,.s) .n)))
def cN:Tr:=(.c (4,.s) d9)
def d8:Tr:=(.c (5,.s) (.c (6,.q) (.c (7,.s) .n)))
def cM:Tr:=(.c (4,.s) d8)
def cL:Tr:=(.c (4,.s) (.c (5,.q) (.c (6,.s) .n)))
theorem sE {r1:aa} (hI:Bun C0 F w0 C0 w0 [MO.box b1 67 (ac r1 a1 c1)] [Cl.sl ag a1 c1 r1.l,au]) {r:bZ (aV×aa)} (h:iL r1=some r):CP C0 F w0 50 #[vp b1 0] r λrx e w=>∃ a2 c2 a3 c3 a4 c4 a5 c5 a6 c6 a7 c7 C,e= .returned (Value.agg (hP rx.1 a2 c2 a3 c3 a4 c4 a5 c5 a6 c6))∧Bun C0 F w0 C w [MO.box b1 67 (ac rx.2 a7 c7)] [Cl.sl be a2 c2 rx.1.Sizes,Cl.sl az a3 c3 rx.1.Where,Cl.sl bH a4 c4 rx.1.Params,Cl.sl fb a5 c5 rx.1.Defs,Cl.sl be a6 c6 rx.1.Outs,Cl.sl ag a7 c7 rx.2.l]:=by
 refine fa (l:=[vp b1 0]) Tryz.func50 rfl Tryz.ntmps50 rfl ?_
 rw[iL]at h
 refine sr (cY (cs:=pq) hI gn rfl rfl Gi rfl ?_)
 intro b2 c8 w1 hI
 refine T ?_
 refine sq (aK (vs:=[]) (cs:=pq) rfl trivial (by kernel_rfl)) ?_
 refine lN λb3 c9 w2 hI=>?_
 refine lA λc10 w3 hI=>?_
 refine nk (aj (T ?_))
 have hI:=hI.nil be 9 none
 have hI:=hI.nil az 107 none
 have hI:=hI.nil bH 95 none
 have hI:=hI.nil fb 100 none
 have hI:=hI.nil be 9 none
 refine bk (α:=Nat×aa×aV×(Option Addr)×Nat×(Option Addr)×Nat×(Option Addr)×Nat×(Option Addr)×Nat×(Option Addr)×Nat×(Option Addr)×Nat) (λx=>λw=>∃ C,Bun C0 F w0 C w [Q6 be 9 (x.2.2.2.2.2.1) (x.2.2.2.2.2.2.1) (x.2.2.1).Sizes,Q6 az 107 (x.2.2.2.2.2.2.2.1) (x.2.2.2.2.2.2.2.2.1) (x.2.2.1).Where,Q6 bH 95 (x.2.2.2.2.2.2.2.2.2.1) (x.2.2.2.2.2.2.2.2.2.2.1) (x.2.2.1).Params,Q6 fb 100 (x.2.2.2.2.2.2.2.2.2.2.2.1) (x.2.2.2.2.2.2.2.2.2.2.2.2.1) (x.2.2.1).Defs,Q6 be 9 (x.2.2.2.2.2.2.2.2.2.2.2.2.2.1) (x.2.2.2.2.2.2.2.2.2.2.2.2.2.2) (x.2.2.1).Outs,MO.box b1 67 (ac (x.2.1) (x.2.2.2.1) (x.2.2.2.2.1)),MO.box b2 55 pq,MO.box b3 55 (hP (x.2.2.1) (x.2.2.2.2.2.1) (x.2.2.2.2.2.2.1) (x.2.2.2.2.2.2.2.1) (x.2.2.2.2.2.2.2.2.1) (x.2.2.2.2.2.2.2.2.2.1) (x.2.2.2.2.2.2.2.2.2.2.1) (x.2.2.2.2.2.2.2.2.2.2.2.1) (x.2.2.2.2.2.2.2.2.2.2.2.2.1) (x.2.2.2.2.2.2.2.2.2.2.2.2.2.1) (x.2.2.2.2.2.2.2.2.2.2.2.2.2.2))] [Cl.sl ag (x.2.2.2.1) (x.2.2.2.2.1) (x.2.1).l,au]∧aE (x.1) (x.2.1) (x.2.2.1)=some r) (λx _=>x.1) (λx=>[(0,vp b1 0),(2,vp b2 0),(3,vp b3 0)]) (fu,r1,(⟨[],[],[],[],[]⟩:aV),a1,c1,none,0,none,0,none,0,none,0,none,0) ⟨_,hI.arr (.c .p4 (.c .p3 (.c .p2 (.c .p1 (.c .z (.c .p2 (.c .p1 (.c .z .n)))))))) ⟨.z,.p1,af⟩,h⟩ SB ?_
 clear h hI;rintro⟨fuel1,r2,p1,a8,c11,a9,c12,a10,c13,a11,c14,a12,c15,a13,c16⟩ w4 ⟨c17,hI,h⟩
 dsimp only at hI h ⊢
 rcases fuel1 with _ | fuel1
 ·rw[aE]at h;cases h
 rw[aE]at h
 refine aj (aj (aL [] false (.c (0,.q) (.c (1,.q) (.c (2,.q) (.c (3,.q) (.c (4,.q) (.c (5,.q) (.c (6,.q) (.c (7,.q) (.c (8,.q) (.c (9,.q) .n)))))))))) hI (by kernel_rfl) (by kernel_rfl) ?_))
 intro w5 hI
 refine V ?_
 refine TC (λhb h=>?_) λhb h=>?_
 ·refine T ?_
  refine bO (α:=aa×aV×(Option Addr)×Nat×(Option Addr)×Nat×(Option Addr)×Nat×(Option Addr)×Nat×(Option Addr)×Nat×(Option Addr)×Nat) (λ_=>⟨66,[]⟩) (λx=>[(0,vp b1 0),(2,vp b2 0),(3,vp b3 0)]) (λx=>λw=>∃ C,Bun C0 F w0 C w [Q6 be 9 (x.2.2.2.2.1) (x.2.2.2.2.2.1) (x.2.1).Sizes,Q6 az 107 (x.2.2.2.2.2.2.1) (x.2.2.2.2.2.2.2.1) (x.2.1).Where,Q6 bH 95 (x.2.2.2.2.2.2.2.2.1) (x.2.2.2.2.2.2.2.2.2.1) (x.2.1).Params,Q6 fb 100 (x.2.2.2.2.2.2.2.2.2.2.1) (x.2.2.2.2.2.2.2.2.2.2.2.1) (x.2.1).Defs,Q6 be 9 (x.2.2.2.2.2.2.2.2.2.2.2.2.1) (x.2.2.2.2.2.2.2.2.2.2.2.2.2) (x.2.1).Outs,MO.box b1 67 (ac (x.1) (x.2.2.1) (x.2.2.2.1)),MO.box b2 55 pq,MO.box b3 55 (hP (x.2.1) (x.2.2.2.2.1) (x.2.2.2.2.2.1) (x.2.2.2.2.2.2.1) (x.2.2.2.2.2.2.2.1) (x.2.2.2.2.2.2.2.2.1) (x.2.2.2.2.2.2.2.2.2.1) (x.2.2.2.2.2.2.2.2.2.2.1) (x.2.2.2.2.2.2.2.2.2.2.2.1) (x.2.2.2.2.2.2.2.2.2.2.2.2.1) (x.2.2.2.2.2.2.2.2.2.2.2.2.2))] [Cl.sl ag (x.2.2.1) (x.2.2.2.1) (x.1).l,au]∧bB (aE fuel1) (x.1) (x.2.1)=some r) ?_ ?_
  ·clear h hI;rintro⟨r3,p2,a14,c18,a15,c19,a16,c20,a17,c21,a18,c22,a19,c23⟩ w6 ⟨c24,hI,h⟩
   try dsimp only at hI h ⊢
   rw[bB]at h
   refine T ?_
   obtain⟨c25,f1,hB,hl1,hk1⟩:=hI.hands (.r (.r (.r (.r (.r (.l (.r (.r .n))))))))
   refine dh h (λ_ hx1=>ap HS hx1) (jL hk1) (Rc Tryz.func104) ?_
   rintro⟨r4,s1⟩ hx1 h _ w7 ⟨a20,c26,c27,rfl,hB2⟩
   try dsimp only at h
   refine HN hk1 hB2 λc28 hI=>?_
   refine⟨_,rfl,?_⟩
   refine aG ?_
   exact qo (fuel1,s1,p2,a20,c26,a15,c19,a16,c20,a17,c21,a18,c22,a19,c23) SB ⟨_,hI.arr GO SU,h⟩ (Nat.lt_succ_self _)
  refine T ?_
  refine ll hI be Md lw Rr λb4 c29 w8 hI=>?_
  obtain⟨c30,hI⟩:=hI.release .z
  obtain⟨c31,f2,hB,hl2,hk2⟩:=hI.hands (.r (.r (.r (.r (.r (.l (.r (.r .n))))))))
  obtain⟨⟨r5,s2⟩,hx2,h⟩:=ab h
  try dsimp only at h
  refine bf gn rfl (Rc Tryz.func98) (Calls.mono (fy HS hx2) ?_)
  rintro _ w9 ⟨a21,c32,c33,rfl,hB2⟩
  refine HN hk2 hB2 λc34 hI=>?_
  refine⟨_,rfl,?_⟩
  refine TC (λhb h=>?_) λhb h=>?_
  ·rcases en h with⟨⟨r6,s3⟩,hx3,h⟩ | ⟨pa_,pn_,hx3,hp_⟩
   rotate_left
   ·subst hp_
    refine aL [3,4,6] false (.c (0,.q) (.c (2,.q) (.two 1 (.c (3,.s) cP) 3 (.c (1,.s) cP)))) hI (by kernel_rfl) (by kernel_rfl) ?_
    intro w14 hI
    refine V ?_
    refine gG ?_ ?_
    ·skip
     refine dz rfl gn rfl (aF (v:=(vs a9 p1.Sizes.length c12)) rfl et K1 rfl (Q5 (hI.blk .p7) rfl)) Q7 ?_
     refine gQ (F:=F) (C:=c34) rfl rfl ?_
     obtain⟨c35,f3,hB,hl3,hk3⟩:=hI.hands (.l (.r (.r (.r (.r (.r (.r (.r .n))))))))
     refine eO rfl gn rfl (ar (vs:=[vp b1 0]) rfl xw ⟨et,af⟩) (Calls.mono (cF HS hx3) ?_)
     intro e_ w_ hq_;obtain⟨rfl,C_,hB_⟩:=cz hq_;obtain⟨C9_,-,hI_⟩:=hk3 _ _ _ _ hB_;exact .inr ⟨_,rfl,fB (.inr ⟨_,_,rfl,rfl,_,hI_.arr .n trivial⟩)⟩
    refine dC (F:=F) (C:=c34) rfl rfl ?_
    obtain⟨c35,f3,hB,hl3,hk3⟩:=hI.hands (.l (.r (.r (.r (.r (.r (.r (.r .n))))))))
    refine eO rfl gn rfl (ar (vs:=[vp b1 0]) rfl xw ⟨et,af⟩) (Calls.mono (cF HS hx3) ?_)
    intro e_ w_ hq_;obtain⟨rfl,C_,hB_⟩:=cz hq_;obtain⟨C9_,-,hI_⟩:=hk3 _ _ _ _ hB_;exact .inr ⟨_,rfl,fB (.inr ⟨_,_,rfl,rfl,_,hI_.arr .n trivial⟩)⟩
   try dsimp only at h
   obtain⟨zs1,hx4,h⟩:=ab h
   refine aL [3,4,6] false (.c (0,.q) (.c (2,.q) (.two 1 (.c (3,.s) cP) 3 (.c (1,.s) cP)))) hI (by kernel_rfl) (by kernel_rfl) ?_
   intro w15 hI
   refine fU (α:=(Option Addr)×Nat×(Option Addr)×Nat×NP) (T:=cP) (λx=>[(0,vp b1 0),(2,vp b2 0),(3,vp b3 0),(23,vs a9 p1.Sizes.length c12),(25,vs (x.1) r6.length (x.2.1))]) (λx w=>Bun C0 F w0 (x.2.2.2.2) w [MO.box b1 67 (ac s3 (x.2.2.1) (x.2.2.2.1)),Q6 be 9 a9 c12 p1.Sizes,Q6 az 107 a10 c13 p1.Where,Q6 bH 95 a11 c14 p1.Params,Q6 fb 100 a12 c15 p1.Defs,Q6 be 9 a13 c16 p1.Outs,MO.box b2 55 pq,MO.box b3 55 (hP p1 a9 c12 a10 c13 a11 c14 a12 c15 a13 c16)] [Cl.sl be (x.1) (x.2.1) r6,Cl.sl ag (x.2.2.1) (x.2.2.2.1) s3.l,Cl.sl ag a21 c32 s2.l,Cl.sl be (some ⟨b4,0,none⟩) 5 Md,Cl.sl ag a8 c11 r2.l,au]) (λx w=>SN [] (DM true F (x.2.2.2.2)) w) ?_ ?_
   ·clear hI;rintro⟨a22,c36,a23,c37,c43⟩ w13 hI
    try dsimp only at hI ⊢
    unfold cP
    refine oI (xs:=p1.Sizes) (ys:=r6) hI .p1 (hI.crd .z) hx4 rfl gn rfl rfl K1 lw rfl rfl et et ?_
    intro a24 c40 c41 w11 hI
    refine V ?_
    refine vS λc42 w12 hI=>?_
    refine pp ?_
    exact bI (s3,(⟨zs1,p1.Where,p1.Params,p1.Defs,p1.Outs⟩:aV),a23,c37,a24,c40,a10,c13,a11,c14,a12,c15,a13,c16) SB ⟨_,hI.arr GO SU,h⟩ rfl
   intro hk_tr_parser_reader_prog_w_16_0
   refine V ?_
   refine gG ?_ ?_
   ·skip
    refine dz rfl gn rfl (aF (v:=(vs a9 p1.Sizes.length c12)) rfl et K1 rfl (Q5 (hI.blk .p7) rfl)) Q7 ?_
    refine gQ (F:=F) (C:=c34) rfl rfl ?_
    obtain⟨c35,f3,hB,hl3,hk3⟩:=hI.hands (.l (.r (.r (.r (.r (.r (.r (.r .n))))))))
    refine eN rfl gn rfl (ar (vs:=[vp b1 0]) rfl xw ⟨et,af⟩) (Calls.mono (cF HS hx3) ?_)
    intro e_ w10 hq_;obtain⟨a22,c36,a23,c37,c38,rfl,hB2⟩:=cy hq_
    obtain⟨c39,hs3,hI⟩:=hk3 _ _ _ _ hB2
    dsimp only[ca,na]at hI
    refine⟨_,rfl,DM true F c39,hs3,?_⟩
    exact cn (hk_tr_parser_reader_prog_w_16_0 (a22,c36,a23,c37,c39) _ (hI.arr GO SU)) SB
   refine dC (F:=F) (C:=c34) rfl rfl ?_
   obtain⟨c35,f3,hB,hl3,hk3⟩:=hI.hands (.l (.r (.r (.r (.r (.r (.r (.r .n))))))))
   refine eN rfl gn rfl (ar (vs:=[vp b1 0]) rfl xw ⟨et,af⟩) (Calls.mono (cF HS hx3) ?_)
   intro e_ w10 hq_;obtain⟨a22,c36,a23,c37,c38,rfl,hB2⟩:=cy hq_
   obtain⟨c39,hs3,hI⟩:=hk3 _ _ _ _ hB2
   dsimp only[ca,na]at hI
   refine⟨_,rfl,DM true F c39,hs3,?_⟩
   refine dz rfl gn rfl (aF (v:=(vs a9 p1.Sizes.length c12)) rfl et K1 rfl (Q5 (hI.blk .p7) rfl)) Q7 ?_
   exact cn (hk_tr_parser_reader_prog_w_16_0 (a22,c36,a23,c37,c39) _ (hI.arr GO SU)) SB
  refine TC (λhb h=>?_) λhb h=>?_
  ·rcases en h with⟨⟨r7,s4⟩,hx5,h⟩ | ⟨pa_,pn_,hx5,hp_⟩
   rotate_left
   ·subst hp_
    refine aL [3,5,7] false (.c (0,.q) (.c (2,.q) (.two 1 (.c (3,.s) cO) 3 (.two 1 cO 4 (.c (1,.s) ec))))) hI (by kernel_rfl) (by kernel_rfl) ?_
    intro w22 hI
    refine V ?_
    refine gG ?_ ?_
    ·skip
     refine dz rfl gn rfl (aF (v:=(vs a10 p1.Where.length c13)) rfl et PP rfl (Q5 (hI.blk .p7) rfl)) Q7 ?_
     refine gQ (F:=F) (C:=c34) rfl rfl ?_
     obtain⟨c44,f4,hB,hl4,hk4⟩:=hI.hands (.l (.r (.r (.r (.r (.r (.r (.r .n))))))))
     refine eO rfl gn rfl (ar (vs:=[vp b1 0]) rfl B9 ⟨et,af⟩) (Calls.mono (gq HS hx5) ?_)
     intro e_ w_ hq_;obtain⟨rfl,C_,hB_⟩:=cz hq_;obtain⟨C9_,-,hI_⟩:=hk4 _ _ _ _ hB_;exact .inr ⟨_,rfl,fB (.inr ⟨_,_,rfl,rfl,_,hI_.arr .n trivial⟩)⟩
    refine dC (F:=F) (C:=c34) rfl rfl ?_
    obtain⟨c44,f4,hB,hl4,hk4⟩:=hI.hands (.l (.r (.r (.r (.r (.r (.r (.r .n))))))))
    refine eO rfl gn rfl (ar (vs:=[vp b1 0]) rfl B9 ⟨et,af⟩) (Calls.mono (gq HS hx5) ?_)
    intro e_ w_ hq_;obtain⟨rfl,C_,hB_⟩:=cz hq_;obtain⟨C9_,-,hI_⟩:=hk4 _ _ _ _ hB_;exact .inr ⟨_,rfl,fB (.inr ⟨_,_,rfl,rfl,_,hI_.arr .n trivial⟩)⟩
   try dsimp only at h
   obtain⟨zs2,hx6,h⟩:=ab h
   refine aL [3,5,7] false (.c (0,.q) (.c (2,.q) (.two 1 (.c (3,.s) cO) 3 (.two 1 cO 4 (.c (1,.s) ec))))) hI (by kernel_rfl) (by kernel_rfl) ?_
   intro w23 hI
   refine fU (α:=(Option Addr)×Nat×(Option Addr)×Nat×Nat×NP) (T:=ec) (λx=>[(0,vp b1 0),(2,vp b2 0),(3,vp b3 0),(31,vs a10 p1.Where.length c13),(34,(vs (some ⟨(x.2.2.2.2.1),0,none⟩) ([r7]:List aD).length 1))]) (λx w=>Bun C0 F w0 (x.2.2.2.2.2) w [Q6 az 107 (some ⟨(x.2.2.2.2.1),0,none⟩) 1 ([r7]:List aD),MO.box b1 67 (ac s4 (x.2.2.1) (x.2.2.2.1)),Q6 be 9 a9 c12 p1.Sizes,Q6 az 107 a10 c13 p1.Where,Q6 bH 95 a11 c14 p1.Params,Q6 fb 100 a12 c15 p1.Defs,Q6 be 9 a13 c16 p1.Outs,MO.box b2 55 pq,MO.box b3 55 (hP p1 a9 c12 a10 c13 a11 c14 a12 c15 a13 c16)] [Cl.sl ai (x.1) (x.2.1) r7.Lin.L,Cl.sl ag (x.2.2.1) (x.2.2.2.1) s4.l,Cl.sl ag a21 c32 s2.l,Cl.sl be (some ⟨b4,0,none⟩) 5 Md,Cl.sl ag a8 c11 r2.l,au]) (λx w=>SN [] (DM true F (x.2.2.2.2.2)) w) ?_ ?_
   ·clear hI;rintro⟨a25,c45,a26,c46,b5,c54⟩ w21 hI
    try dsimp only at hI ⊢
    unfold ec
    refine oI (xs:=p1.Where) (ys:=([r7]:List aD)) hI .p3 (hI.rd .z) hx6 rfl gn rfl rfl PP zc rfl rfl et et ?_
    intro a27 c50 c51 w18 hI
    refine V ?_
    refine vS λc52 w19 hI=>?_
    refine pp ?_
    exact bI (s4,(⟨p1.Sizes,zs2,p1.Params,p1.Defs,p1.Outs⟩:aV),a26,c46,a9,c12,a27,c50,a11,c14,a12,c15,a13,c16) SB ⟨_,hI.arr GO SU,h⟩ rfl
   intro hk_tr_parser_reader_prog_w_17_1
   refine fU (α:=(Option Addr)×Nat×(Option Addr)×Nat×NP) (T:=cO) (λx=>[(0,vp b1 0),(2,vp b2 0),(3,vp b3 0),(31,vs a10 p1.Where.length c13),(33,(Value.agg (kK r7 (x.1) (x.2.1))))]) (λx w=>Bun C0 F w0 (x.2.2.2.2) w [MO.box b1 67 (ac s4 (x.2.2.1) (x.2.2.2.1)),Q6 be 9 a9 c12 p1.Sizes,Q6 az 107 a10 c13 p1.Where,Q6 bH 95 a11 c14 p1.Params,Q6 fb 100 a12 c15 p1.Defs,Q6 be 9 a13 c16 p1.Outs,MO.box b2 55 pq,MO.box b3 55 (hP p1 a9 c12 a10 c13 a11 c14 a12 c15 a13 c16)] [Cl.sl ai (x.1) (x.2.1) r7.Lin.L,Cl.sl ag (x.2.2.1) (x.2.2.2.1) s4.l,Cl.sl ag a21 c32 s2.l,Cl.sl be (some ⟨b4,0,none⟩) 5 Md,Cl.sl ag a8 c11 r2.l,au]) (λx w=>SN [] (DM true F (x.2.2.2.2)) w) ?_ ?_
   ·clear hI;rintro⟨a25,c45,a26,c46,c53⟩ w20 hI
    try dsimp only at hI ⊢
    unfold cO
    refine vl hI az ([r7]:List aD) zc (.cs ⟨a25,c45,rfl,hI.get .z⟩ .nl) λb5 c49 w17 hI=>?_
    exact cn (hk_tr_parser_reader_prog_w_17_1 (a25,c45,a26,c46,b5,c49) _ (hI.arr GO SU)) SB
   intro hk_tr_parser_reader_prog_w_17_0
   refine V ?_
   refine gG ?_ ?_
   ·skip
    refine dz rfl gn rfl (aF (v:=(vs a10 p1.Where.length c13)) rfl et PP rfl (Q5 (hI.blk .p7) rfl)) Q7 ?_
    refine gQ (F:=F) (C:=c34) rfl rfl ?_
    obtain⟨c44,f4,hB,hl4,hk4⟩:=hI.hands (.l (.r (.r (.r (.r (.r (.r (.r .n))))))))
    refine eN rfl gn rfl (ar (vs:=[vp b1 0]) rfl B9 ⟨et,af⟩) (Calls.mono (gq HS hx5) ?_)
    intro e_ w16 hq_;obtain⟨a25,c45,a26,c46,c47,rfl,hB2⟩:=cy hq_
    obtain⟨c48,hs4,hI⟩:=hk4 _ _ _ _ hB2
    dsimp only[ca,na]at hI
    refine⟨_,rfl,DM true F c48,hs4,?_⟩
    exact cn (hk_tr_parser_reader_prog_w_17_0 (a25,c45,a26,c46,c48) _ (hI.arr GO SU)) SB
   refine dC (F:=F) (C:=c34) rfl rfl ?_
   obtain⟨c44,f4,hB,hl4,hk4⟩:=hI.hands (.l (.r (.r (.r (.r (.r (.r (.r .n))))))))
   refine eN rfl gn rfl (ar (vs:=[vp b1 0]) rfl B9 ⟨et,af⟩) (Calls.mono (gq HS hx5) ?_)
   intro e_ w16 hq_;obtain⟨a25,c45,a26,c46,c47,rfl,hB2⟩:=cy hq_
   obtain⟨c48,hs4,hI⟩:=hk4 _ _ _ _ hB2
   dsimp only[ca,na]at hI
   refine⟨_,rfl,DM true F c48,hs4,?_⟩
   refine gG ?_ ?_
   ·skip
    refine dz rfl gn rfl (aF (v:=(vs a10 p1.Where.length c13)) rfl et PP rfl (Q5 (hI.blk .p7) rfl)) Q7 ?_
    exact cn (hk_tr_parser_reader_prog_w_17_0 (a25,c45,a26,c46,c48) _ (hI.arr GO SU)) SB
   refine vl hI az ([r7]:List aD) zc (.cs ⟨a25,c45,rfl,hI.get .z⟩ .nl) λb5 c49 w17 hI=>?_
   refine dz rfl gn rfl (aF (v:=(vs a10 p1.Where.length c13)) rfl et PP rfl (Q5 (hI.blk .p8) rfl)) Q7 ?_
   exact cn (hk_tr_parser_reader_prog_w_17_1 (a25,c45,a26,c46,b5,c49) _ (hI.arr GO SU)) SB
  refine TC (λhb h=>?_) λhb h=>?_
  ·rcases en h with⟨⟨r8,s5⟩,hx7,h⟩ | ⟨pa_,pn_,hx7,hp_⟩
   rotate_left
   ·subst hp_
    refine aL [3,5,7] false (.c (0,.q) (.c (2,.q) (.two 1 (.c (3,.s) cN) 3 (.two 1 cN 4 (.c (1,.s) d9))))) hI (by kernel_rfl) (by kernel_rfl) ?_
    intro w30 hI
    refine V ?_
    refine gG ?_ ?_
    ·skip
     refine dz rfl gn rfl (aF (v:=(vs a11 p1.Params.length c14)) rfl et PN rfl (Q5 (hI.blk .p7) rfl)) Q7 ?_
     refine gQ (F:=F) (C:=c34) rfl rfl ?_
     obtain⟨c55,f5,hB,hl5,hk5⟩:=hI.hands (.l (.r (.r (.r (.r (.r (.r (.r .n))))))))
     refine eO rfl gn rfl (ar (vs:=[vp b1 0]) rfl B8 ⟨et,af⟩) (Calls.mono (iA HS hx7) ?_)
     intro e_ w_ hq_;obtain⟨rfl,C_,hB_⟩:=cz hq_;obtain⟨C9_,-,hI_⟩:=hk5 _ _ _ _ hB_;exact .inr ⟨_,rfl,fB (.inr ⟨_,_,rfl,rfl,_,hI_.arr .n trivial⟩)⟩
    refine dC (F:=F) (C:=c34) rfl rfl ?_
    obtain⟨c55,f5,hB,hl5,hk5⟩:=hI.hands (.l (.r (.r (.r (.r (.r (.r (.r .n))))))))
    refine eO rfl gn rfl (ar (vs:=[vp b1 0]) rfl B8 ⟨et,af⟩) (Calls.mono (iA HS hx7) ?_)
    intro e_ w_ hq_;obtain⟨rfl,C_,hB_⟩:=cz hq_;obtain⟨C9_,-,hI_⟩:=hk5 _ _ _ _ hB_;exact .inr ⟨_,rfl,fB (.inr ⟨_,_,rfl,rfl,_,hI_.arr .n trivial⟩)⟩
   try dsimp only at h
   obtain⟨zs3,hx8,h⟩:=ab h
   refine aL [3,5,7] false (.c (0,.q) (.c (2,.q) (.two 1 (.c (3,.s) cN) 3 (.two 1 cN 4 (.c (1,.s) d9))))) hI (by kernel_rfl) (by kernel_rfl) ?_
   intro w31 hI
   refine fU (α:=(Option Addr)×Nat×(Option Addr)×Nat×Nat×NP) (T:=d9) (λx=>[(0,vp b1 0),(2,vp b2 0),(3,vp b3 0),(40,vs a11 p1.Params.length c14),(43,(vs (some ⟨(x.2.2.2.2.1),0,none⟩) ([r8]:List fE).length 1))]) (λx w=>Bun C0 F w0 (x.2.2.2.2.2) w [Q6 bH 95 (some ⟨(x.2.2.2.2.1),0,none⟩) 1 ([r8]:List fE),MO.box b1 67 (ac s5 (x.2.2.1) (x.2.2.2.1)),Q6 be 9 a9 c12 p1.Sizes,Q6 az 107 a10 c13 p1.Where,Q6 bH 95 a11 c14 p1.Params,Q6 fb 100 a12 c15 p1.Defs,Q6 be 9 a13 c16 p1.Outs,MO.box b2 55 pq,MO.box b3 55 (hP p1 a9 c12 a10 c13 a11 c14 a12 c15 a13 c16)] [Cl.sl dU (x.1) (x.2.1) r8.Dims,Cl.sl ag (x.2.2.1) (x.2.2.2.1) s5.l,Cl.sl ag a21 c32 s2.l,Cl.sl be (some ⟨b4,0,none⟩) 5 Md,Cl.sl ag a8 c11 r2.l,au]) (λx w=>SN [] (DM true F (x.2.2.2.2.2)) w) ?_ ?_
   ·clear hI;rintro⟨a28,c56,a29,c57,b6,c65⟩ w29 hI
    try dsimp only at hI ⊢
    unfold d9
    refine oI (xs:=p1.Params) (ys:=([r8]:List fE)) hI .p4 (hI.rd .z) hx8 rfl gn rfl rfl PN Cs rfl rfl et et ?_
    intro a30 c61 c62 w26 hI
    refine V ?_
    refine vS λc63 w27 hI=>?_
    refine pp ?_
    exact bI (s5,(⟨p1.Sizes,p1.Where,zs3,p1.Defs,p1.Outs⟩:aV),a29,c57,a9,c12,a10,c13,a30,c61,a12,c15,a13,c16) SB ⟨_,hI.arr GO SU,h⟩ rfl
   intro hk_tr_parser_reader_prog_w_18_1
   refine fU (α:=(Option Addr)×Nat×(Option Addr)×Nat×NP) (T:=cN) (λx=>[(0,vp b1 0),(2,vp b2 0),(3,vp b3 0),(40,vs a11 p1.Params.length c14),(42,(Value.agg (KF r8 (x.1) (x.2.1))))]) (λx w=>Bun C0 F w0 (x.2.2.2.2) w [MO.box b1 67 (ac s5 (x.2.2.1) (x.2.2.2.1)),Q6 be 9 a9 c12 p1.Sizes,Q6 az 107 a10 c13 p1.Where,Q6 bH 95 a11 c14 p1.Params,Q6 fb 100 a12 c15 p1.Defs,Q6 be 9 a13 c16 p1.Outs,MO.box b2 55 pq,MO.box b3 55 (hP p1 a9 c12 a10 c13 a11 c14 a12 c15 a13 c16)] [Cl.sl dU (x.1) (x.2.1) r8.Dims,Cl.sl ag (x.2.2.1) (x.2.2.2.1) s5.l,Cl.sl ag a21 c32 s2.l,Cl.sl be (some ⟨b4,0,none⟩) 5 Md,Cl.sl ag a8 c11 r2.l,au]) (λx w=>SN [] (DM true F (x.2.2.2.2)) w) ?_ ?_
   ·clear hI;rintro⟨a28,c56,a29,c57,c64⟩ w28 hI
    try dsimp only at hI ⊢
    unfold cN
    refine vl hI bH ([r8]:List fE) Cs (.cs ⟨a28,c56,rfl,hI.get .z⟩ .nl) λb6 c60 w25 hI=>?_
    exact cn (hk_tr_parser_reader_prog_w_18_1 (a28,c56,a29,c57,b6,c60) _ (hI.arr GO SU)) SB
   intro hk_tr_parser_reader_prog_w_18_0
   refine V ?_
   refine gG ?_ ?_
   ·skip
    refine dz rfl gn rfl (aF (v:=(vs a11 p1.Params.length c14)) rfl et PN rfl (Q5 (hI.blk .p7) rfl)) Q7 ?_
    refine gQ (F:=F) (C:=c34) rfl rfl ?_
    obtain⟨c55,f5,hB,hl5,hk5⟩:=hI.hands (.l (.r (.r (.r (.r (.r (.r (.r .n))))))))
    refine eN rfl gn rfl (ar (vs:=[vp b1 0]) rfl B8 ⟨et,af⟩) (Calls.mono (iA HS hx7) ?_)
    intro e_ w24 hq_;obtain⟨a28,c56,a29,c57,c58,rfl,hB2⟩:=cy hq_
    obtain⟨c59,hs5,hI⟩:=hk5 _ _ _ _ hB2
    dsimp only[ca,na]at hI
    refine⟨_,rfl,DM true F c59,hs5,?_⟩
    exact cn (hk_tr_parser_reader_prog_w_18_0 (a28,c56,a29,c57,c59) _ (hI.arr GO SU)) SB
   refine dC (F:=F) (C:=c34) rfl rfl ?_
   obtain⟨c55,f5,hB,hl5,hk5⟩:=hI.hands (.l (.r (.r (.r (.r (.r (.r (.r .n))))))))
   refine eN rfl gn rfl (ar (vs:=[vp b1 0]) rfl B8 ⟨et,af⟩) (Calls.mono (iA HS hx7) ?_)
   intro e_ w24 hq_;obtain⟨a28,c56,a29,c57,c58,rfl,hB2⟩:=cy hq_
   obtain⟨c59,hs5,hI⟩:=hk5 _ _ _ _ hB2
   dsimp only[ca,na]at hI
   refine⟨_,rfl,DM true F c59,hs5,?_⟩
   refine gG ?_ ?_
   ·skip
    refine dz rfl gn rfl (aF (v:=(vs a11 p1.Params.length c14)) rfl et PN rfl (Q5 (hI.blk .p7) rfl)) Q7 ?_
    exact cn (hk_tr_parser_reader_prog_w_18_0 (a28,c56,a29,c57,c59) _ (hI.arr GO SU)) SB
   refine vl hI bH ([r8]:List fE) Cs (.cs ⟨a28,c56,rfl,hI.get .z⟩ .nl) λb6 c60 w25 hI=>?_
   refine dz rfl gn rfl (aF (v:=(vs a11 p1.Params.length c14)) rfl et PN rfl (Q5 (hI.blk .p8) rfl)) Q7 ?_
   exact cn (hk_tr_parser_reader_prog_w_18_1 (a28,c56,a29,c57,b6,c60) _ (hI.arr GO SU)) SB
  refine TC (λhb h=>?_) λhb h=>?_
  ·rcases en h with⟨⟨r9,s6⟩,hx9,h⟩ | ⟨pa_,pn_,hx9,hp_⟩
   rotate_left
   ·subst hp_
    refine aL [3,5,7] false (.c (0,.q) (.c (2,.q) (.two 1 (.c (3,.s) cM) 3 (.two 1 cM 4 (.c (1,.s) d8))))) hI (by kernel_rfl) (by kernel_rfl) ?_
    intro w38 hI
    refine V ?_
    refine gG ?_ ?_
    ·skip
     refine dz rfl gn rfl (aF (v:=(vs a12 p1.Defs.length c15)) rfl et PM rfl (Q5 (hI.blk .p7) rfl)) Q7 ?_
     refine gQ (F:=F) (C:=c34) rfl rfl ?_
     obtain⟨c66,f6,hB,hl6,hk6⟩:=hI.hands (.l (.r (.r (.r (.r (.r (.r (.r .n))))))))
     refine eO rfl gn rfl (ar (vs:=[vp b1 0]) rfl B7 ⟨et,af⟩) (Calls.mono (jk HS hx9) ?_)
     intro e_ w_ hq_;obtain⟨rfl,C_,hB_⟩:=cz hq_;obtain⟨C9_,-,hI_⟩:=hk6 _ _ _ _ hB_;exact .inr ⟨_,rfl,fB (.inr ⟨_,_,rfl,rfl,_,hI_.arr .n trivial⟩)⟩
    refine dC (F:=F) (C:=c34) rfl rfl ?_
    obtain⟨c66,f6,hB,hl6,hk6⟩:=hI.hands (.l (.r (.r (.r (.r (.r (.r (.r .n))))))))
    refine eO rfl gn rfl (ar (vs:=[vp b1 0]) rfl B7 ⟨et,af⟩) (Calls.mono (jk HS hx9) ?_)
    intro e_ w_ hq_;obtain⟨rfl,C_,hB_⟩:=cz hq_;obtain⟨C9_,-,hI_⟩:=hk6 _ _ _ _ hB_;exact .inr ⟨_,rfl,fB (.inr ⟨_,_,rfl,rfl,_,hI_.arr .n trivial⟩)⟩
   try dsimp only at h
   obtain⟨zs4,hx10,h⟩:=ab h
   refine aL [3,5,7] false (.c (0,.q) (.c (2,.q) (.two 1 (.c (3,.s) cM) 3 (.two 1 cM 4 (.c (1,.s) d8))))) hI (by kernel_rfl) (by kernel_rfl) ?_
   intro w39 hI
   refine fU (α:=(Option Addr)×Nat×(Option Addr)×Nat×(Option Addr)×Nat×(Option Addr)×Nat×(Option Addr)×Nat×(Option Addr)×Nat×Nat×NP) (T:=d8) (λx=>[(0,vp b1 0),(2,vp b2 0),(3,vp b3 0),(49,vs a12 p1.Defs.length c15),(52,(vs (some ⟨(x.2.2.2.2.2.2.2.2.2.2.2.2.1),0,none⟩) ([r9]:List cU).length 1))]) (λx w=>Bun C0 F w0 (x.2.2.2.2.2.2.2.2.2.2.2.2.2) w [Q6 fb 100 (some ⟨(x.2.2.2.2.2.2.2.2.2.2.2.2.1),0,none⟩) 1 ([r9]:List cU),MO.box b1 67 (ac s6 (x.2.2.2.2.2.2.2.2.2.2.1) (x.2.2.2.2.2.2.2.2.2.2.2.1)),Q6 be 9 a9 c12 p1.Sizes,Q6 az 107 a10 c13 p1.Where,Q6 bH 95 a11 c14 p1.Params,Q6 fb 100 a12 c15 p1.Defs,Q6 be 9 a13 c16 p1.Outs,MO.box b2 55 pq,MO.box b3 55 (hP p1 a9 c12 a10 c13 a11 c14 a12 c15 a13 c16)] [Cl.sl cb (x.1) (x.2.1) r9.Dims,Cl.sl cb (x.2.2.1) (x.2.2.2.1) r9.Red,Cl.sl ai (x.2.2.2.2.1) (x.2.2.2.2.2.1) r9.Body.Lin.L,Cl.sl al (x.2.2.2.2.2.2.1) (x.2.2.2.2.2.2.2.1) r9.Body.Idx,Cl.sl an (x.2.2.2.2.2.2.2.2.1) (x.2.2.2.2.2.2.2.2.2.1) r9.Body.Args,Cl.sl ag (x.2.2.2.2.2.2.2.2.2.2.1) (x.2.2.2.2.2.2.2.2.2.2.2.1) s6.l,Cl.sl ag a21 c32 s2.l,Cl.sl be (some ⟨b4,0,none⟩) 5 Md,Cl.sl ag a8 c11 r2.l,au]) (λx w=>SN [] (DM true F (x.2.2.2.2.2.2.2.2.2.2.2.2.2)) w) ?_ ?_
   ·clear hI;rintro⟨a31,c67,a32,c68,a33,c69,a34,c70,a35,c71,a36,c72,b7,c80⟩ w37 hI
    try dsimp only at hI ⊢
    unfold d8
    refine oI (xs:=p1.Defs) (ys:=([r9]:List cU)) hI .p5 (hI.rd .z) hx10 rfl gn rfl rfl PM zd rfl rfl et et ?_
    intro a37 c76 c77 w34 hI
    refine V ?_
    refine vS λc78 w35 hI=>?_
    refine pp ?_
    exact bI (s6,(⟨p1.Sizes,p1.Where,p1.Params,zs4,p1.Outs⟩:aV),a36,c72,a9,c12,a10,c13,a11,c14,a37,c76,a13,c16) SB ⟨_,hI.arr GO SU,h⟩ rfl
   intro hk_tr_parser_reader_prog_w_19_1
   refine fU (α:=(Option Addr)×Nat×(Option Addr)×Nat×(Option Addr)×Nat×(Option Addr)×Nat×(Option Addr)×Nat×(Option Addr)×Nat×NP) (T:=cM) (λx=>[(0,vp b1 0),(2,vp b2 0),(3,vp b3 0),(49,vs a12 p1.Defs.length c15),(51,(Value.agg (vC r9 (x.1) (x.2.1) (x.2.2.1) (x.2.2.2.1) (x.2.2.2.2.1) (x.2.2.2.2.2.1) (x.2.2.2.2.2.2.1) (x.2.2.2.2.2.2.2.1) (x.2.2.2.2.2.2.2.2.1) (x.2.2.2.2.2.2.2.2.2.1))))]) (λx w=>Bun C0 F w0 (x.2.2.2.2.2.2.2.2.2.2.2.2) w [MO.box b1 67 (ac s6 (x.2.2.2.2.2.2.2.2.2.2.1) (x.2.2.2.2.2.2.2.2.2.2.2.1)),Q6 be 9 a9 c12 p1.Sizes,Q6 az 107 a10 c13 p1.Where,Q6 bH 95 a11 c14 p1.Params,Q6 fb 100 a12 c15 p1.Defs,Q6 be 9 a13 c16 p1.Outs,MO.box b2 55 pq,MO.box b3 55 (hP p1 a9 c12 a10 c13 a11 c14 a12 c15 a13 c16)] [Cl.sl cb (x.1) (x.2.1) r9.Dims,Cl.sl cb (x.2.2.1) (x.2.2.2.1) r9.Red,Cl.sl ai (x.2.2.2.2.1) (x.2.2.2.2.2.1) r9.Body.Lin.L,Cl.sl al (x.2.2.2.2.2.2.1) (x.2.2.2.2.2.2.2.1) r9.Body.Idx,Cl.sl an (x.2.2.2.2.2.2.2.2.1) (x.2.2.2.2.2.2.2.2.2.1) r9.Body.Args,Cl.sl ag (x.2.2.2.2.2.2.2.2.2.2.1) (x.2.2.2.2.2.2.2.2.2.2.2.1) s6.l,Cl.sl ag a21 c32 s2.l,Cl.sl be (some ⟨b4,0,none⟩) 5 Md,Cl.sl ag a8 c11 r2.l,au]) (λx w=>SN [] (DM true F (x.2.2.2.2.2.2.2.2.2.2.2.2)) w) ?_ ?_
   ·clear hI;rintro⟨a31,c67,a32,c68,a33,c69,a34,c70,a35,c71,a36,c72,c79⟩ w36 hI
    try dsimp only at hI ⊢
    unfold cM
    refine vl hI fb ([r9]:List cU) zd (.cs ⟨a31,c67,a32,c68,a33,c69,a34,c70,a35,c71,rfl,hI.get .z,hI.get .p1,hI.get .p2,hI.get .p3,hI.get .p4⟩ .nl) λb7 c75 w33 hI=>?_
    exact cn (hk_tr_parser_reader_prog_w_19_1 (a31,c67,a32,c68,a33,c69,a34,c70,a35,c71,a36,c72,b7,c75) _ (hI.arr GO SU)) SB
   intro hk_tr_parser_reader_prog_w_19_0
   refine V ?_
   refine gG ?_ ?_
   ·skip
    refine dz rfl gn rfl (aF (v:=(vs a12 p1.Defs.length c15)) rfl et PM rfl (Q5 (hI.blk .p7) rfl)) Q7 ?_
    refine gQ (F:=F) (C:=c34) rfl rfl ?_
    obtain⟨c66,f6,hB,hl6,hk6⟩:=hI.hands (.l (.r (.r (.r (.r (.r (.r (.r .n))))))))
    refine eN rfl gn rfl (ar (vs:=[vp b1 0]) rfl B7 ⟨et,af⟩) (Calls.mono (jk HS hx9) ?_)
    intro e_ Ni hq_;obtain⟨a31,c67,a32,c68,a33,c69,a34,c70,a35,c71,a36,c72,c73,rfl,hB2⟩:=cy hq_
    obtain⟨c74,hs6,hI⟩:=hk6 _ _ _ _ hB2
    dsimp only[ca,na]at hI
    refine⟨_,rfl,DM true F c74,hs6,?_⟩
    exact cn (hk_tr_parser_reader_prog_w_19_0 (a31,c67,a32,c68,a33,c69,a34,c70,a35,c71,a36,c72,c74) _ (hI.arr GO SU)) SB
   refine dC (F:=F) (C:=c34) rfl rfl ?_
   obtain⟨c66,f6,hB,hl6,hk6⟩:=hI.hands (.l (.r (.r (.r (.r (.r (.r (.r .n))))))))
   refine eN rfl gn rfl (ar (vs:=[vp b1 0]) rfl B7 ⟨et,af⟩) (Calls.mono (jk HS hx9) ?_)
   intro e_ Ni hq_;obtain⟨a31,c67,a32,c68,a33,c69,a34,c70,a35,c71,a36,c72,c73,rfl,hB2⟩:=cy hq_
   obtain⟨c74,hs6,hI⟩:=hk6 _ _ _ _ hB2
   dsimp only[ca,na]at hI
   refine⟨_,rfl,DM true F c74,hs6,?_⟩
   refine gG ?_ ?_
   ·skip
    refine dz rfl gn rfl (aF (v:=(vs a12 p1.Defs.length c15)) rfl et PM rfl (Q5 (hI.blk .p7) rfl)) Q7 ?_
    exact cn (hk_tr_parser_reader_prog_w_19_0 (a31,c67,a32,c68,a33,c69,a34,c70,a35,c71,a36,c72,c74) _ (hI.arr GO SU)) SB
   refine vl hI fb ([r9]:List cU) zd (.cs ⟨a31,c67,a32,c68,a33,c69,a34,c70,a35,c71,rfl,hI.get .z,hI.get .p1,hI.get .p2,hI.get .p3,hI.get .p4⟩ .nl) λb7 c75 w33 hI=>?_
   refine dz rfl gn rfl (aF (v:=(vs a12 p1.Defs.length c15)) rfl et PM rfl (Q5 (hI.blk .p8) rfl)) Q7 ?_
   exact cn (hk_tr_parser_reader_prog_w_19_1 (a31,c67,a32,c68,a33,c69,a34,c70,a35,c71,a36,c72,b7,c75) _ (hI.arr GO SU)) SB
  refine TC (λhb h=>?_) λhb h=>?_
  ·rcases en h with⟨⟨r10,s7⟩,hx11,h⟩ | ⟨pa_,pn_,hx11,hp_⟩
   rotate_left
   ·subst hp_
    refine aL [3,4,6] false (.c (0,.q) (.c (2,.q) (.two 1 (.c (3,.s) cL) 3 (.c (1,.s) cL)))) hI (by kernel_rfl) (by kernel_rfl) ?_
    intro w44 hI
    refine V ?_
    refine gG ?_ ?_
    ·skip
     refine dz rfl gn rfl (aF (v:=(vs a13 p1.Outs.length c16)) rfl et K1 rfl (Q5 (hI.blk .p7) rfl)) Q7 ?_
     refine gQ (F:=F) (C:=c34) rfl rfl ?_
     obtain⟨c81,f7,hB,hl7,hk7⟩:=hI.hands (.l (.r (.r (.r (.r (.r (.r (.r .n))))))))
     refine eO rfl gn rfl (ar (vs:=[vp b1 0]) rfl xw ⟨et,af⟩) (Calls.mono (cF HS hx11) ?_)
     intro e_ w_ hq_;obtain⟨rfl,C_,hB_⟩:=cz hq_;obtain⟨C9_,-,hI_⟩:=hk7 _ _ _ _ hB_;exact .inr ⟨_,rfl,fB (.inr ⟨_,_,rfl,rfl,_,hI_.arr .n trivial⟩)⟩
    refine dC (F:=F) (C:=c34) rfl rfl ?_
    obtain⟨c81,f7,hB,hl7,hk7⟩:=hI.hands (.l (.r (.r (.r (.r (.r (.r (.r .n))))))))
    refine eO rfl gn rfl (ar (vs:=[vp b1 0]) rfl xw ⟨et,af⟩) (Calls.mono (cF HS hx11) ?_)
    intro e_ w_ hq_;obtain⟨rfl,C_,hB_⟩:=cz hq_;obtain⟨C9_,-,hI_⟩:=hk7 _ _ _ _ hB_;exact .inr ⟨_,rfl,fB (.inr ⟨_,_,rfl,rfl,_,hI_.arr .n trivial⟩)⟩
   try dsimp only at h
   obtain⟨zs5,hx12,h⟩:=ab h
   refine aL [3,4,6] false (.c (0,.q) (.c (2,.q) (.two 1 (.c (3,.s) cL) 3 (.c (1,.s) cL)))) hI (by kernel_rfl) (by kernel_rfl) ?_
   intro w45 hI
   refine fU (α:=(Option Addr)×Nat×(Option Addr)×Nat×NP) (T:=cL) (λx=>[(0,vp b1 0),(2,vp b2 0),(3,vp b3 0),(58,vs a13 p1.Outs.length c16),(60,vs (x.1) r10.length (x.2.1))]) (λx w=>Bun C0 F w0 (x.2.2.2.2) w [MO.box b1 67 (ac s7 (x.2.2.1) (x.2.2.2.1)),Q6 be 9 a9 c12 p1.Sizes,Q6 az 107 a10 c13 p1.Where,Q6 bH 95 a11 c14 p1.Params,Q6 fb 100 a12 c15 p1.Defs,Q6 be 9 a13 c16 p1.Outs,MO.box b2 55 pq,MO.box b3 55 (hP p1 a9 c12 a10 c13 a11 c14 a12 c15 a13 c16)] [Cl.sl be (x.1) (x.2.1) r10,Cl.sl ag (x.2.2.1) (x.2.2.2.1) s7.l,Cl.sl ag a21 c32 s2.l,Cl.sl be (some ⟨b4,0,none⟩) 5 Md,Cl.sl ag a8 c11 r2.l,au]) (λx w=>SN [] (DM true F (x.2.2.2.2)) w) ?_ ?_
   ·clear hI;rintro⟨a38,c82,a39,c83,c89⟩ w43 hI
    try dsimp only at hI ⊢
    unfold cL
    refine oI (xs:=p1.Outs) (ys:=r10) hI .p5 (hI.crd .z) hx12 rfl gn rfl rfl K1 lw rfl rfl et et ?_
    intro a40 c86 c87 w41 hI
    refine V ?_
    refine vS λc88 w42 hI=>?_
    refine pp ?_
    exact bI (s7,(⟨p1.Sizes,p1.Where,p1.Params,p1.Defs,zs5⟩:aV),a39,c83,a9,c12,a10,c13,a11,c14,a12,c15,a40,c86) SB ⟨_,hI.arr GO SU,h⟩ rfl
   intro hk_tr_parser_reader_prog_w_20_0
   refine V ?_
   refine gG ?_ ?_
   ·skip
    refine dz rfl gn rfl (aF (v:=(vs a13 p1.Outs.length c16)) rfl et K1 rfl (Q5 (hI.blk .p7) rfl)) Q7 ?_
    refine gQ (F:=F) (C:=c34) rfl rfl ?_
    obtain⟨c81,f7,hB,hl7,hk7⟩:=hI.hands (.l (.r (.r (.r (.r (.r (.r (.r .n))))))))
    refine eN rfl gn rfl (ar (vs:=[vp b1 0]) rfl xw ⟨et,af⟩) (Calls.mono (cF HS hx11) ?_)
    intro e_ w40 hq_;obtain⟨a38,c82,a39,c83,c84,rfl,hB2⟩:=cy hq_
    obtain⟨c85,hs7,hI⟩:=hk7 _ _ _ _ hB2
    dsimp only[ca,na]at hI
    refine⟨_,rfl,DM true F c85,hs7,?_⟩
    exact cn (hk_tr_parser_reader_prog_w_20_0 (a38,c82,a39,c83,c85) _ (hI.arr GO SU)) SB
   refine dC (F:=F) (C:=c34) rfl rfl ?_
   obtain⟨c81,f7,hB,hl7,hk7⟩:=hI.hands (.l (.r (.r (.r (.r (.r (.r (.r .n))))))))
   refine eN rfl gn rfl (ar (vs:=[vp b1 0]) rfl xw ⟨et,af⟩) (Calls.mono (cF HS hx11) ?_)
   intro e_ w40 hq_;obtain⟨a38,c82,a39,c83,c84,rfl,hB2⟩:=cy hq_
   obtain⟨c85,hs7,hI⟩:=hk7 _ _ _ _ hB2
   dsimp only[ca,na]at hI
   refine⟨_,rfl,DM true F c85,hs7,?_⟩
   refine dz rfl gn rfl (aF (v:=(vs a13 p1.Outs.length c16)) rfl et K1 rfl (Q5 (hI.blk .p7) rfl)) Q7 ?_
   exact cn (hk_tr_parser_reader_prog_w_20_0 (a38,c82,a39,c83,c85) _ (hI.arr GO SU)) SB
  refine T ?_
  obtain⟨c90,f8,hB,hl8,hk8⟩:=hI.hands (.l (.r (.r (.r (.r (.r (.r (.r .n))))))))
  refine dh h (λ_ hx13=>cg HS hx13) (jL hk8) (Rc Tryz.func103) ?_
  rintro⟨r11,s8⟩ hx13 h _ w46 ⟨a41,c91,c92,rfl,hB2⟩
  try dsimp only at h
  refine HN hk8 hB2 λc93 hI=>?_
  refine⟨_,rfl,?_⟩
  refine aG ?_
  exact bI (s8,p1,a41,c91,a9,c12,a10,c13,a11,c14,a12,c15,a13,c16) SB ⟨_,hI.arr GO SU,h⟩ rfl
 refine bl ?_
 refine eZ ?_
 refine aS ?_
 refine T ?_
 refine lA λc94 w47 hI=>?_
 refine nk (aO ?_)
 obtain⟨c95,hI⟩:=hI.release .z
 obtain⟨c96,hI⟩:=hI.release .z
 obtain⟨c97,hI⟩:=hI.release .z
 obtain⟨c98,hI⟩:=hI.release .z
 obtain⟨c99,hI⟩:=hI.release .z
 obtain rfl:=ak h
 refine QG ?_
 exact .inl ⟨_,rfl,a9,c12,a10,c13,a11,c14,a12,c15,a13,c16,a8,c11,_,rfl,hI.arr GO SU⟩
theorem qx {a1:aa} {a3:aV} (hI:Bun C0 F w0 C0 w0 [MO.box b2 67 (ac a1 a2 c1),MO.box b3 55 (hP a3 a4 c2 a5 c3 a6 c4 a7 c5 a8 c6)] [Cl.sl ag a2 c1 a1.l,Cl.blk b1 65 #[vp b2 0],Cl.sl be a4 c2 a3.Sizes,Cl.sl az a5 c3 a3.Where,Cl.sl bH a6 c4 a3.Params,Cl.sl fb a7 c5 a3.Defs,Cl.sl be a8 c6 a3.Outs,au]) {r:bZ (Unit×aa×aV)} (h:kQ a1 a3=some r):CP C0 F w0 49 #[vp b1 0,vp b3 0] r λrx e w=>∃ a9 c7 a10 c8 a11 c9 a12 c10 a13 c11 a14 c12 C,e= .returned (Value.tuple #[])∧Bun C0 F w0 C w [MO.box b2 67 (ac rx.2.1 a9 c7),MO.box b3 55 (hP rx.2.2 a10 c8 a11 c9 a12 c10 a13 c11 a14 c12)] [Cl.sl ag a9 c7 rx.2.1.l,Cl.sl be a10 c8 rx.2.2.Sizes,Cl.sl az a11 c9 rx.2.2.Where,Cl.sl bH a12 c10 rx.2.2.Params,Cl.sl fb a13 c11 rx.2.2.Defs,Cl.sl be a14 c12 rx.2.2.Outs]:=by
 refine fa (l:=[vp b1 0,vp b3 0]) Tryz.func49 rfl Tryz.ntmps49 rfl ?_
 rw[kQ]at h
 refine T ?_
 obtain⟨c13,f1,hB,hl1,hk1⟩:=hI.hands (.l (.r .n))
 refine dh h (λ_ hx1=>sE HS hx1) (jL hk1) (Rc Tryz.func50) ?_
 rintro⟨r1,s1⟩ hx1 h _ w1 ⟨a15,c14,a16,c15,a17,c16,a18,c17,a19,c18,a20,c19,c20,rfl,hB2⟩
 try dsimp only at h
 refine HN hk1 hB2 λc21 hI=>?_
 refine⟨_,rfl,?_⟩
 refine lA λc22 w2 hI=>?_
 refine aG ?_
 obtain rfl:=ak h
 refine QG ?_
 exact .inl ⟨_,rfl,a20,c19,a15,c14,a16,c15,a17,c16,a18,c17,a19,c18,_,rfl,hI.arr GO SU⟩
theorem AC (hF:dF F w0) {s1:List UInt8} (hc:AllCl [au] F w0) {r:aV×Int×Int} (h:mY s1=some r):Cg 24 #[(str s1)] w0 λe w=>∃ a1 c1 a2 c2 a3 c3 a4 c4 a5 c5,e= .returned (Value.tuple #[(Value.agg (hP r.1 a1 c1 a2 c2 a3 c3 a4 c4 a5 c5)),vi r.2.1,vi r.2.2])∧Ext w0 w∧AllCl [Cl.sl be a1 c1 r.1.Sizes,Cl.sl az a2 c2 r.1.Where,Cl.sl bH a3 c3 r.1.Params,Cl.sl fb a4 c4 r.1.Defs,Cl.sl be a5 c5 r.1.Outs] F w:=by
 refine EN Tryz.func24 Tryz.ntmps24 hF hc λhI=>?_
 rw[mY]at h
 refine sr (cY (cs:=pq) hI gn rfl rfl Gi rfl ?_)
 intro b1 c6 w1 hI
 refine T ?_
 obtain⟨r1,hx1,h⟩:=ab h
 refine bf gn rfl (Rc Tryz.func39) (Calls.mono (rN hI.lt af hx1) ?_)
 rintro _ w2 ⟨a6,c7,rfl,hx2,hl1⟩
 refine⟨_,rfl,?_⟩
 replace hI:=(hI.ext hx2).adds hl1;dsimp only[ca,na]at hI
 refine T ?_
 refine aj (T ?_)
 refine TC (λhb h=>?_) λhb h=>?_
 ·refine sr (sq (aK (vs:=[]) (cs:=pq) rfl trivial (by kernel_rfl)) ?_)
  refine T ?_
  refine lA λc8 w3 hI=>?_
  refine T ?_
  refine aO ?_
  have hI:=hI.add (c:=Cl.sl be none 0 ([]:List (List UInt8))) SlC.nil
  have hI:=hI.add (c:=Cl.sl az none 0 ([]:List aD)) SlC.nil
  have hI:=hI.add (c:=Cl.sl bH none 0 ([]:List fE)) SlC.nil
  have hI:=hI.add (c:=Cl.sl fb none 0 ([]:List cU)) SlC.nil
  obtain rfl:=ak h
  refine QG ?_
  exact⟨none,0,none,0,none,0,none,0,none,0,rfl,hI.ext0,hI.fin ⟨.p3,.p2,.p1,.z,.p3,af⟩⟩
 refine T ?_
 refine sq (aK (vs:=[(0,vs a6 r1.1.length c7)]) (cs:=#[vs a6 r1.1.length c7,vi 0,vi 0]) rfl ⟨rfl,et,af⟩ (by kernel_rfl)) ?_
 refine Ei (v:=(Value.agg #[vs a6 r1.1.length c7,vi 0,vi 0])) (cs:=#[vs a6 r1.1.length c7,vi 0,vi 0]) hI gn rfl rfl et rfl ?_
 intro b2 c9 w4 hI
 refine lN λb3 c10 w5 hI=>?_
 refine lS λc11 w6 hI=>?_
 refine T ?_
 refine sq (aK (vs:=[]) (cs:=pq) rfl trivial (by kernel_rfl)) ?_
 refine lN λb4 c12 w7 hI=>?_
 refine lA λc13 w8 hI=>?_
 refine nk (aj (sr (sq (np (vs:=[]) (cap:=[vp b3 0,vp b4 0]) rfl rfl ⟨et,et,af⟩) ?_)))
 obtain⟨c14,hI⟩:=hI.relBox .p1
 have hI:=hI.add (c:=Cl.sl be none 0 ([]:List (List UInt8))) SlC.nil
 have hI:=hI.add (c:=Cl.sl az none 0 ([]:List aD)) SlC.nil
 have hI:=hI.add (c:=Cl.sl bH none 0 ([]:List fE)) SlC.nil
 have hI:=hI.add (c:=Cl.sl fb none 0 ([]:List cU)) SlC.nil
 obtain⟨c15,f1,hB,hl2,hk1⟩:=hI.hands (.l (.l (.r .n)))
 replace hB:=hB.ord (.c .p1 (.c .z .n))
 rcases tC h with⟨⟨r2,s2,s3⟩,hx3,h⟩ | ⟨pa1,pn1,hx3,hn1,h⟩
 ·skip
  try dsimp only at h
  refine bf gn rfl (Rc Tryz.func29) (Calls.mono (sQ (β:=(Option Addr)×Nat×(Option Addr)×Nat×(Option Addr)×Nat×(Option Addr)×Nat×(Option Addr)×Nat×(Option Addr)×Nat) (λx=>[MO.box b2 67 (ac s2 (x.1) (x.2.1)),MO.box b4 55 (hP s3 (x.2.2.1) (x.2.2.2.1) (x.2.2.2.2.1) (x.2.2.2.2.2.1) (x.2.2.2.2.2.2.1) (x.2.2.2.2.2.2.2.1) (x.2.2.2.2.2.2.2.2.1) (x.2.2.2.2.2.2.2.2.2.1) (x.2.2.2.2.2.2.2.2.2.2.1) (x.2.2.2.2.2.2.2.2.2.2.2))]) (λx=>[Cl.sl ag (x.1) (x.2.1) s2.l,Cl.sl be (x.2.2.1) (x.2.2.2.1) s3.Sizes,Cl.sl az (x.2.2.2.2.1) (x.2.2.2.2.2.1) s3.Where,Cl.sl bH (x.2.2.2.2.2.2.1) (x.2.2.2.2.2.2.2.1) s3.Params,Cl.sl fb (x.2.2.2.2.2.2.2.2.1) (x.2.2.2.2.2.2.2.2.2.1) s3.Defs,Cl.sl be (x.2.2.2.2.2.2.2.2.2.2.1) (x.2.2.2.2.2.2.2.2.2.2.2) s3.Outs]) (cl:=[Cl.sl ag a6 c7 r1.1,Cl.blk b3 65 #[vp b2 0],Cl.sl be none 0 ([]:List (List UInt8)),Cl.sl az none 0 ([]:List aD),Cl.sl bH none 0 ([]:List fE),Cl.sl fb none 0 ([]:List cU),Cl.sl be none 0 ([]:List (List UInt8)),au]) My (hB.subs ⟨.p5,.p4,.p3,.p2,.p1,.z,.p3,.p6,af⟩) (λC1_ F1_ w1_ hB_=>(qx hB_ hx3).mono λe_ w_ hq_=>(let ⟨a7,c16,a8,c17,a9,c18,a10,c19,a11,c20,a12,c21,C_,he_,hB2_⟩:=cy hq_;⟨he_,(a7,c16,a8,c17,a9,c18,a10,c19,a11,c20,a12,c21),C_,hB2_⟩))) ?_)
  rintro _ w9 ⟨rfl,⟨a7,c16,a8,c17,a9,c18,a10,c19,a11,c20,a12,c21⟩,c22,hB2⟩
  refine HN hk1 hB2 λc23 hI=>?_
  refine⟨_,rfl,?_⟩
  refine TC (λhb h=>?_) λhb h=>?_
  ·refine sr (sq (aK (vs:=[]) (cs:=pq) rfl trivial (by kernel_rfl)) ?_)
   refine T ?_
   refine sB h (λ_ k=>pC hI.lt FS k) (Rc Tryz.func40) λr3 w10 h hI=>?_
   refine sm ?_
   refine lA λc24 w11 hI=>?_
   refine T ?_
   refine aO ?_
   obtain rfl:=ak h
   refine QG ?_
   exact⟨none,0,none,0,none,0,none,0,none,0,rfl,hI.ext0,hI.fin ⟨.p9,.p8,.p7,.p6,.p9,af⟩⟩
  refine T ?_
  refine lA λc25 w12 hI=>?_
  refine T ?_
  refine aO ?_
  obtain rfl:=ak h
  refine QG ?_
  exact⟨a8,c17,a9,c18,a10,c19,a11,c20,a12,c21,rfl,hI.ext0,hI.fin ⟨.p1,.p2,.p3,.p4,.p5,af⟩⟩
 try dsimp only at h
 refine bf gn rfl (Rc Tryz.func29) (Calls.mono (sR (cl:=[Cl.sl ag a6 c7 r1.1,Cl.blk b3 65 #[vp b2 0],Cl.sl be none 0 ([]:List (List UInt8)),Cl.sl az none 0 ([]:List aD),Cl.sl bH none 0 ([]:List fE),Cl.sl fb none 0 ([]:List cU),Cl.sl be none 0 ([]:List (List UInt8)),au]) My (hB.subs ⟨.p5,.p4,.p3,.p2,.p1,.z,.p3,.p6,af⟩) (λC1_ F1_ w1_ hB_=>(qx hB_ hx3).mono λe_ w_ hq_=>cz hq_)) ?_)
 rintro _ w13 ⟨rfl,c26,hB2⟩
 refine HN hk1 hB2 λc27 hI=>?_
 refine⟨_,rfl,?_⟩
 have hk2:(!decide (pn1=0))=true:=by simp[hn1]
 refine T ?_
 refine sO (b:= !decide (pn1=0)) et (λ_=>?_) (λhb=>absurd (hb.symm.trans hk2) (by simp))
 refine sr (sq (aK (vs:=[]) (cs:=pq) rfl trivial (by kernel_rfl)) ?_)
 refine T ?_
 refine sB h (λ_ k=>pC hI.lt FS k) (Rc Tryz.func40) λr4 w14 h hI=>?_
 refine sm ?_
 refine lA λc28 w15 hI=>?_
 refine T ?_
 refine aO ?_
 obtain rfl:=ak h
 refine QG ?_
 exact⟨none,0,none,0,none,0,none,0,none,0,rfl,hI.ext0,hI.fin ⟨.p3,.p2,.p1,.z,.p3,af⟩⟩
end Go.Proofs.YtmhoikfoogemnaaGreatDoor
