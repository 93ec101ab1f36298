import Derived.Test.YtmhoikfoogemnaaGreatDoorGCQ8h
import Derived.Test.YtmhoikfoogemnaaGreatDoorGLfH
namespace Go.Proofs.YtmhoikfoogemnaaGreatDoor
open Go Go.RowKit Go.Vc
set_option maxRecDepth 100000
set_option maxHeartbeats 4000000
set_option linter.unusedVariables false
set_option linter.unusedSimpArgs false
variable {σ:Type} {C0 F:NP} {w0:World} {a1 a2 a3 a4 a5 a6 a7 a8 a9 a10 a11 a12:Option Addr} {b1 b2 b3 b4 b5 b6 b7 b8 b9 b10 b11 b12 c1 c2 c3 c4 c5 c6 c7 c8 c9 c10 c11 c12:Nat}
theorem lQ {r1:aa} (hI:Bun C0 F w0 C0 w0 [MO.box b1 67 (ai r1 a1 c1)] [LT af a1 c1 r1.l,aA]) {r:bL (List gl×aa)} (h:ez r1=some r):CP C0 F w0 176 #[vp b1 0] r λrx e w=>∃ a2 c2 a3 c3 C,e= .returned (vs a2 rx.1.length c2)∧Bun C0 F w0 C w [MO.box b1 67 (ai rx.2 a3 c3)] [LT cc a2 c2 rx.1,LT af a3 c3 rx.2.l]:=by
 refine fJ (l:=[vp b1 0]) Tryz.func176 rfl Tryz.ntmps176 rfl ?_
 rw[ez]at h
 refine T ?_
 have hI:=hI.nil cc 204 none
 refine bs (α:=Nat×(List gl)×aa×(Option Addr)×Nat×(Option Addr)×Nat) (λx=>λw=>∃ C,Bun C0 F w0 C w [LV cc 204 (x.2.2.2.1) (x.2.2.2.2.1) (x.2.1),MO.box b1 67 (ai (x.2.2.1) (x.2.2.2.2.2.1) (x.2.2.2.2.2.2))] [LT af (x.2.2.2.2.2.1) (x.2.2.2.2.2.2) (x.2.2.1).l,aA]∧cI (x.1) (x.2.1) (x.2.2.1)=some r) (λx _=>x.1) (λx=>[(0,vp b1 0),(3,vs (x.2.2.2.1) (x.2.1).length (x.2.2.2.2.1))]) (fu,([]:List gl),r1,none,0,a1,c1) BH SB ?_
 clear h hI;rintro⟨fuel1,aN,r2,a4,c4,a5,c5⟩ w1 ⟨c6,hI,h⟩
 dsimp only at hI h ⊢
 rcases fuel1 with _ | fuel1
 ·rw[cI]at h;cases h
 rw[cI]at h
 refine T ?_
 obtain⟨c7,f1,hB,hl1,hk1⟩:=hI.hands (.r (.l .n))
 refine dC h (λ_ hx1=>cr HS hx1) (kD hk1) (Rc Tryz.func128) ?_
 rintro⟨r3,s1⟩ hx1 h _ w2 ⟨a6,c8,c9,rfl,hB2⟩
 try dsimp only at h
 refine HN hk1 hB2 λc10 hI=>?_
 refine⟨_,rfl,?_⟩
 refine sq (aC (vs:=[(0,(aT r3))]) (cs:=#[(aT r3),vi 0,vs none 0 0]) rfl ⟨rfl,et,ah⟩ (by kernel_rfl)) ?_
 refine lN λb2 c11 w3 hI=>?_
 refine aQ (new:=[(aT r3),vi 0,vs none 0 0]) (cs':=#[(aT r3),vi 0,vs none 0 0]) hI .z gn rfl rfl et et rfl Gu rfl rfl rfl ?_
 intro c12 w4 hI
 refine T ?_
 obtain⟨c13,f2,hB,hl2,hk2⟩:=hI.hands (.r (.l (.r .n)))
 refine dC h (λ_ hx2=>ax HS hx2) (kD hk2) (Rc Tryz.func104) ?_
 rintro⟨r4,s2⟩ hx2 h _ w5 ⟨a7,c14,c15,rfl,hB2⟩
 try dsimp only at h
 refine HN hk2 hB2 λc16 hI=>?_
 refine⟨_,rfl,?_⟩
 refine T ?_
 obtain⟨c17,f3,hB,hl3,hk3⟩:=hI.hands (.l (.r (.r .n)))
 refine dC h (λ_ hx3=>eE HS hx3) (kD hk3) (Rc Tryz.func31) ?_
 rintro⟨r5,s3⟩ hx3 h _ w6 ⟨a8,c18,a9,c19,c20,rfl,hB2⟩
 try dsimp only at h
 refine HN hk3 hB2 λc21 hI=>?_
 refine⟨_,rfl,?_⟩
 refine T ?_
 refine aQ (new:=(fI r5 a8 c18)) (cs':=#[(aT r3),vi r5.K,vs a8 r5.L.length c18]) hI .p1 gn rfl rfl et et rfl bt rfl rfl rfl ?_
 intro c22 w7 hI
 refine T ?_
 refine ll hI cc ([⟨r3,r5⟩]:List gl) vv (.cs ⟨a8,c18,rfl,hI.get .z⟩ .nl) λb3 c23 w8 hI=>?_
 obtain⟨zs1,hx4,h⟩:=ae h
 refine il (xs:=aN) (ys:=([⟨r3,r5⟩]:List gl)) hI .p3 (hI.rd .z) hx4 gn rfl rfl u98 vv rfl rfl et et ?_
 intro a10 c24 c25 w9 hI
 refine T ?_
 obtain⟨c26,f4,hB,hl4,hk4⟩:=hI.hands (.r (.l (.r (.r .n))))
 obtain⟨⟨r6,s4⟩,hx5,h⟩:=ae h
 try dsimp only at h
 refine aw gn rfl (Rc Tryz.func68) (Calls.mono (bb HS hx5) ?_)
 rintro _ w10 ⟨a11,c27,c28,rfl,hB2⟩
 refine HN hk4 hB2 λc29 hI=>?_
 refine⟨_,rfl,?_⟩
 refine TC (λhb h=>?_) λhb h=>?_
 ·refine T ?_
  refine aF ?_
  obtain⟨c30,hI⟩:=hI.release .p3
  obtain rfl:=ak h
  refine QG ?_
  exact .inl ⟨_,rfl,a10,c24,a11,c27,_,rfl,hI.arr GO SU⟩
 exact bl (ny (fuel1,zs1,s4,a10,c24,a11,c27) SB BH (Nat.lt_succ_self _))
theorem ob {r1:aa} {d1:eF} (hI:Bun C0 F w0 C0 w0 [MO.box b1 67 (ai r1 a1 c1),MO.box b2 100 (ul d1 a2 c2 a3 c3 a4 c4 a5 c5 a6 c6),LV aj 64 a4 c4 d1.Body.Lin.L,LV an 132 a5 c5 d1.Body.Idx,LV ap 39 a6 c6 d1.Body.Args] [LT af a1 c1 r1.l,LT cc a2 c2 d1.Dims,LT cc a3 c3 d1.Red,aA]) {r:bL (Unit×aa×eF)} (h:gQ r1 d1=some r):CP C0 F w0 177 #[vp b1 0,vp b2 0] r λrx e w=>∃ a7 c7 a8 c8 a9 c9 a10 c10 a11 c11 a12 c12 C,e= .returned (Value.tuple #[])∧Bun C0 F w0 C w [MO.box b1 67 (ai rx.2.1 a7 c7),MO.box b2 100 (ul rx.2.2 a8 c8 a9 c9 a10 c10 a11 c11 a12 c12),LV aj 64 a10 c10 rx.2.2.Body.Lin.L,LV an 132 a11 c11 rx.2.2.Body.Idx,LV ap 39 a12 c12 rx.2.2.Body.Args] [LT af a7 c7 rx.2.1.l,LT cc a8 c8 rx.2.2.Dims,LT cc a9 c9 rx.2.2.Red]:=by
 refine fJ (l:=[vp b1 0,vp b2 0]) Tryz.func177 rfl Tryz.ntmps177 rfl ?_
 rw[gQ]at h
 refine al (aJ [] false (.c (0,.q) (.c (1,.q) (.c (2,.q) (.c (3,.q) (.c (4,.q) (.c (5,.q) (.c (6,.q) (.c (7,.q) (.c (8,.q) (.c (9,.q) (.c (10,.q) (.c (11,.q) (.c (12,.q) (.c (13,.q) (.c (14,.q) (.c (15,.q) (.c (16,.q) (.c (17,.q) (.c (18,.q) (.c (19,.q) (.c (20,.q) (.c (21,.q) (.c (22,.q) (.c (23,.q) (.c (24,.q) (.c (25,.q) (.c (26,.q) (.c (27,.q) (.c (28,.q) (.c (29,.q) (.c (30,.q) (.c (31,.q) (.c (32,.q) (.c (33,.q) (.c (34,.q) (.c (35,.q) (.c (36,.q) (.c (37,.q) (.c (38,.q) (.c (39,.q) (.c (40,.q) (.c (41,.q) .n)))))))))))))))))))))))))))))))))))))))))) hI (by kernel_rfl) (by kernel_rfl) ?_)
 intro w1 hI
 refine V ?_
 obtain⟨e1,hx1,h⟩:=ae h
 replace hx1:=ay hx1
 obtain⟨ad1,cs1,hq1⟩:=hI.gclat .z hx1
 have hq2:(decide (au (r1.at_+1)<(r1.l.length:Int)))=true→CA (Dj F C0) w1 (ad1.add (Int.toNat (au (r1.at_+1)) * 3)) (jx e1):=λhc=>sW (hq1 hc).2.1 (hq1 hc).2.2
 refine vJ ?_
 refine V ?_
 obtain⟨e2,hx2,h⟩:=ae h
 replace hx2:=ay hx2
 obtain⟨ad2,cs2,hq3⟩:=hI.gclat .z hx2
 have hq4:((decide (au (r1.at_+1)<(r1.l.length:Int)))&&(decide (e1.Kind=3)))=true→CA (Dj F C0) w1 (ad2.add (Int.toNat (au (r1.at_+1)) * 3)) (jx e2):=λhc=>sW (hq3 hc).2.1 (hq3 hc).2.2
 refine vJ ?_
 refine V ?_
 refine al (T ?_)
 obtain⟨r2,hx3,h⟩:=ae h
 replace hx3:=ay hx3
 refine sU (λhc=>bW NE ⟨(hI.get0 .z),hI.lendBox .z,ah⟩ (hx3 hc)) (Rg Tryz.func121) λw2 hI=>?_
 refine T ?_
 obtain⟨r3,hx5,h⟩:=ae h
 replace hx5:=ay hx5
 refine sU (λhc=>bW NE ⟨(hI.get0 .z),hI.lendBox .z,ah⟩ (hx5 hc)) (Rg Tryz.func121) λw3 hI=>?_
 refine TC (λhb h=>?_) λhb h=>?_
 ·refine aF ?_
  obtain rfl:=ak h
  refine QG ?_
  exact .inl ⟨_,rfl,a1,c1,a2,c2,a3,c3,a4,c4,a5,c5,a6,c6,_,rfl,hI.arr GO SU⟩
 refine T ?_
 refine ll hI bk LB gK Rr λb3 c13 w4 hI=>?_
 obtain⟨c14,hI⟩:=hI.release .z
 obtain⟨c15,f1,hB,hl3,hk1⟩:=hI.hands (.l (.r (.r (.r (.r .n)))))
 obtain⟨⟨r4,s1⟩,hx7,h⟩:=ae h
 try dsimp only at h
 refine aw gn rfl (Rc Tryz.func98) (Calls.mono (fX HS hx7) ?_)
 rintro _ w5 ⟨a13,c16,c17,rfl,hB2⟩
 refine HN hk1 hB2 λc18 hI=>?_
 refine⟨_,rfl,?_⟩
 refine T ?_
 refine lS λc19 w6 hI=>?_
 refine nk (al (T ?_))
 refine TC (λhb h=>?_) λhb h=>?_
 ·refine aF ?_
  obtain rfl:=ak h
  refine QG ?_
  exact .inl ⟨_,rfl,a13,c16,a2,c2,a3,c3,a4,c4,a5,c5,a6,c6,_,rfl,hI.arr GO SU⟩
 refine T ?_
 refine al (T ?_)
 refine sB h (λ_ k=>bW NE ⟨(hI.get0 .z),hI.lendBox .z,ah⟩ k) (Rc Tryz.func121) λr5 w7 h hI=>?_
 refine TC (λhb h=>?_) λhb h=>?_
 ·refine T ?_
  obtain⟨c20,f2,hB,hl5,hk2⟩:=hI.hands (.l (.r (.r (.r (.r .n)))))
  refine dC h (λ_ hx10=>lQ HS hx10) (kD hk2) (Rc Tryz.func176) ?_
  rintro⟨r6,s2⟩ hx10 h _ w8 ⟨a14,c21,a15,c22,c23,rfl,hB2⟩
  try dsimp only at h
  refine HN hk2 hB2 λc24 hI=>?_
  refine⟨_,rfl,?_⟩
  refine T ?_
  refine lS λc25 w9 hI=>?_
  refine T ?_
  obtain⟨c26,f3,hB,hl6,hk3⟩:=hI.hands (.l (.r (.r (.r (.r .n)))))
  refine dC h (λ_ hx11=>ax HS hx11) (kD hk3) (Rc Tryz.func104) ?_
  rintro⟨r7,s3⟩ hx11 h _ w10 ⟨a16,c27,c28,rfl,hB2⟩
  try dsimp only at h
  refine HN hk3 hB2 λc29 hI=>?_
  refine⟨_,rfl,?_⟩
  refine aO ?_
  obtain rfl:=ak h
  refine QG ?_
  exact .inl ⟨_,rfl,a16,c27,a2,c2,a14,c21,a4,c4,a5,c5,a6,c6,_,rfl,hI.arr GO SU⟩
 refine T ?_
 obtain⟨c30,f4,hB,hl7,hk4⟩:=hI.hands (.l (.r (.r (.r (.r .n)))))
 refine dC h (λ_ hx12=>ax HS hx12) (kD hk4) (Rc Tryz.func104) ?_
 rintro⟨r8,s4⟩ hx12 h _ w11 ⟨a17,c31,c32,rfl,hB2⟩
 try dsimp only at h
 refine HN hk4 hB2 λc33 hI=>?_
 refine⟨_,rfl,?_⟩
 refine aO ?_
 obtain rfl:=ak h
 refine QG ?_
 exact .inl ⟨_,rfl,a17,c31,a2,c2,a3,c3,a4,c4,a5,c5,a6,c6,_,rfl,hI.arr GO SU⟩
theorem j1 {r1:aa} (hI:Bun C0 F w0 C0 w0 [MO.box b1 67 (ai r1 a1 c1)] [LT af a1 c1 r1.l,aA]) {r:bL (eF×aa)} (h:fh r1=some r):CP C0 F w0 102 #[vp b1 0] r λrx e w=>∃ a2 c2 a3 c3 a4 c4 a5 c5 a6 c6 a7 c7 C,e= .returned (Value.agg (ul rx.1 a2 c2 a3 c3 a4 c4 a5 c5 a6 c6))∧Bun C0 F w0 C w [MO.box b1 67 (ai rx.2 a7 c7)] [LT cc a2 c2 rx.1.Dims,LT cc a3 c3 rx.1.Red,LT aj a4 c4 rx.1.Body.Lin.L,LT an a5 c5 rx.1.Body.Idx,LT ap a6 c6 rx.1.Body.Args,LT af a7 c7 rx.2.l]:=by
 refine fJ (l:=[vp b1 0]) Tryz.func102 rfl Tryz.ntmps102 rfl ?_
 rw[fh]at h
 refine sr (dl (cs:=FV) hI gn rfl rfl F6 rfl ?_)
 intro b2 c8 w1 hI
 refine nk (sr (sm ?_))
 obtain⟨c9,f1,hB,hl1,hk1⟩:=hI.hands (.r (.l .n))
 rcases eU h with⟨⟨r2,s1⟩,hx1,h⟩ | ⟨pa_,pn_,hx1,hp_⟩
 rotate_left
 ·subst hp_
  refine ja gn rfl (aD (vs:=[vp b1 0]) rfl J2 ⟨et,ah⟩) (Calls.mono (cr HS hx1) ?_)
  intro e_ w_ hq_;obtain⟨rfl,C_,hB_⟩:=cW hq_;obtain⟨C9_,-,hI_⟩:=hk1 _ _ _ _ hB_;exact .inr ⟨_,rfl,gc (.inr ⟨_,_,rfl,rfl,_,hI_.arr .n trivial⟩)⟩
 try dsimp only at h
 refine aw gn rfl (Rc Tryz.func128) (Calls.mono (cr HS hx1) ?_)
 intro e_ w2 hq_;obtain⟨a8,c10,c11,rfl,hB2⟩:=cV hq_
 obtain⟨c12,hs1,hI⟩:=hk1 _ _ _ _ hB2
 replace hI:Bun C0 F w0 c12 w2 [MO.box b1 67 (ai s1 a8 c10),MO.box b2 100 FV] [LT af a8 c10 s1.l,LT af a1 c1 r1.l,aA]:=hI
 refine⟨_,rfl,?_⟩
 refine sq (aC (vs:=[(0,(aT r2))]) (cs:=#[(aT r2),vi 0,vi 0,vi 0,vi 0,vi 0,vs none 0 0,vs none 0 0,vi 0,vi 0,(aT []),vi 0,vi 0,vi 0,vi 0,vi 0,vi 0,vi 0,vi 0,vs none 0 0,vs none 0 0,vs none 0 0]) rfl ⟨rfl,et,ah⟩ (by kernel_rfl)) ?_
 refine lN λb3 c13 w3 hI=>?_
 refine aQ (new:=[(aT r2),vi 0,vi 0,vi 0,vi 0,vi 0,vs none 0 0,vs none 0 0,vi 0,vi 0,(aT []),vi 0,vi 0,vi 0,vi 0,vi 0,vi 0,vi 0,vi 0,vs none 0 0,vs none 0 0,vs none 0 0]) (cs':=#[(aT r2),vi 0,vi 0,vi 0,vi 0,vi 0,vs none 0 0,vs none 0 0,vi 0,vi 0,(aT []),vi 0,vi 0,vi 0,vi 0,vi 0,vi 0,vi 0,vi 0,vs none 0 0,vs none 0 0,vs none 0 0]) hI .z gn rfl rfl et et rfl lR rfl rfl rfl ?_
 intro c14 w4 hI
 refine nk (sr (sm ?_))
 obtain⟨c15,f2,hB,hl2,hk2⟩:=hI.hands (.r (.l (.r .n)))
 rcases eU h with⟨⟨r3,s2⟩,hx2,h⟩ | ⟨pa_,pn_,hx2,hp_⟩
 rotate_left
 ·subst hp_
  refine ja gn rfl (aD (vs:=[vp b1 0,(aT [58])]) rfl AO ⟨et,ao,ah⟩) (Calls.mono (ax HS hx2) ?_)
  intro e_ w_ hq_;obtain⟨rfl,C_,hB_⟩:=cW hq_;obtain⟨C9_,-,hI_⟩:=hk2 _ _ _ _ hB_;exact .inr ⟨_,rfl,gc (.inr ⟨_,_,rfl,rfl,_,hI_.arr .n trivial⟩)⟩
 try dsimp only at h
 refine aw gn rfl (Rc Tryz.func104) (Calls.mono (ax HS hx2) ?_)
 intro e_ w5 hq_;obtain⟨a9,c16,c17,rfl,hB2⟩:=cV hq_
 obtain⟨c18,hs2,hI⟩:=hk2 _ _ _ _ hB2
 replace hI:Bun C0 F w0 c18 w5 [MO.box b1 67 (ai s2 a9 c16),MO.box b3 100 #[(aT r2),vi 0,vi 0,vi 0,vi 0,vi 0,vs none 0 0,vs none 0 0,vi 0,vi 0,(aT []),vi 0,vi 0,vi 0,vi 0,vi 0,vi 0,vi 0,vi 0,vs none 0 0,vs none 0 0,vs none 0 0],MO.box b2 100 FV] [LT af a9 c16 s2.l,LT af a8 c10 s1.l,LT af a1 c1 r1.l,aA]:=hI
 refine⟨_,rfl,?_⟩
 refine nk (sr (sm ?_))
 obtain⟨c19,f3,hB,hl3,hk3⟩:=hI.hands (.l (.r (.r .n)))
 rcases eU h with⟨⟨r4,s3⟩,hx3,h⟩ | ⟨pa_,pn_,hx3,hp_⟩
 rotate_left
 ·subst hp_
  refine ja gn rfl (aD (vs:=[vp b1 0]) rfl JY ⟨et,ah⟩) (Calls.mono (iD HS hx3) ?_)
  intro e_ w_ hq_;obtain⟨rfl,C_,hB_⟩:=cW hq_;obtain⟨C9_,-,hI_⟩:=hk3 _ _ _ _ hB_;exact .inr ⟨_,rfl,gc (.inr ⟨_,_,rfl,rfl,_,hI_.arr .n trivial⟩)⟩
 try dsimp only at h
 refine aw gn rfl (Rc Tryz.func174) (Calls.mono (iD HS hx3) ?_)
 intro e_ w6 hq_;obtain⟨a10,c20,c21,rfl,hB2⟩:=cV hq_
 obtain⟨c22,hs3,hI⟩:=hk3 _ _ _ _ hB2
 replace hI:Bun C0 F w0 c22 w6 [MO.box b1 67 (ai s3 a10 c20),MO.box b3 100 #[(aT r2),vi 0,vi 0,vi 0,vi 0,vi 0,vs none 0 0,vs none 0 0,vi 0,vi 0,(aT []),vi 0,vi 0,vi 0,vi 0,vi 0,vi 0,vi 0,vi 0,vs none 0 0,vs none 0 0,vs none 0 0],MO.box b2 100 FV] [LT af a10 c20 s3.l,LT af a9 c16 s2.l,LT af a8 c10 s1.l,LT af a1 c1 r1.l,aA]:=hI
 refine⟨_,rfl,?_⟩
 refine sq (aP rfl et wZ rfl bX rfl) ?_
 refine aQ (new:=(cU r4)) (cs':=#[(aT r2),vi r4.Kind,vi r4.Bits,vi r4.Frac,vi r4.Round,vi r4.Over,vs none 0 0,vs none 0 0,vi 0,vi 0,(aT []),vi 0,vi 0,vi 0,vi 0,vi 0,vi 0,vi 0,vi 0,vs none 0 0,vs none 0 0,vs none 0 0]) hI .p1 gn rfl rfl et et rfl bX rfl rfl rfl ?_
 intro c23 w7 hI
 refine nk (sr (sm ?_))
 obtain⟨c24,f4,hB,hl4,hk4⟩:=hI.hands (.l (.r (.r .n)))
 rcases eU h with⟨⟨r5,s4⟩,hx4,h⟩ | ⟨pa_,pn_,hx4,hp_⟩
 rotate_left
 ·subst hp_
  refine ja gn rfl (aD (vs:=[vp b1 0,(aT [91])]) rfl AO ⟨et,ao,ah⟩) (Calls.mono (ax HS hx4) ?_)
  intro e_ w_ hq_;obtain⟨rfl,C_,hB_⟩:=cW hq_;obtain⟨C9_,-,hI_⟩:=hk4 _ _ _ _ hB_;exact .inr ⟨_,rfl,gc (.inr ⟨_,_,rfl,rfl,_,hI_.arr .n trivial⟩)⟩
 try dsimp only at h
 refine aw gn rfl (Rc Tryz.func104) (Calls.mono (ax HS hx4) ?_)
 intro e_ w8 hq_;obtain⟨a11,c25,c26,rfl,hB2⟩:=cV hq_
 obtain⟨c27,hs4,hI⟩:=hk4 _ _ _ _ hB2
 replace hI:Bun C0 F w0 c27 w8 [MO.box b1 67 (ai s4 a11 c25),MO.box b3 100 #[(aT r2),vi r4.Kind,vi r4.Bits,vi r4.Frac,vi r4.Round,vi r4.Over,vs none 0 0,vs none 0 0,vi 0,vi 0,(aT []),vi 0,vi 0,vi 0,vi 0,vi 0,vi 0,vi 0,vi 0,vs none 0 0,vs none 0 0,vs none 0 0],MO.box b2 100 FV] [LT af a11 c25 s4.l,LT af a10 c20 s3.l,LT af a9 c16 s2.l,LT af a8 c10 s1.l,LT af a1 c1 r1.l,aA]:=hI
 refine⟨_,rfl,?_⟩
 refine nk (bM (α:=aa×eF×(Option Addr)×Nat×(Option Addr)×Nat×(Option Addr)×Nat×(Option Addr)×Nat×(Option Addr)×Nat×(Option Addr)×Nat) (λ_=>⟨45,[]⟩) (λx=>[(0,vp b1 0),(2,vp b2 0),(3,vp b3 0)]) (λx=>λw=>∃ C,Bun C0 F w0 C w [LV cc 204 (x.2.2.2.2.2.2.1) (x.2.2.2.2.2.2.2.1) (x.2.1).Red,LV aj 64 (x.2.2.2.2.2.2.2.2.1) (x.2.2.2.2.2.2.2.2.2.1) (x.2.1).Body.Lin.L,LV an 132 (x.2.2.2.2.2.2.2.2.2.2.1) (x.2.2.2.2.2.2.2.2.2.2.2.1) (x.2.1).Body.Idx,LV ap 39 (x.2.2.2.2.2.2.2.2.2.2.2.2.1) (x.2.2.2.2.2.2.2.2.2.2.2.2.2) (x.2.1).Body.Args,MO.box b1 67 (ai (x.1) (x.2.2.1) (x.2.2.2.1)),MO.box b2 100 FV,MO.box b3 100 (ul (x.2.1) (x.2.2.2.2.1) (x.2.2.2.2.2.1) (x.2.2.2.2.2.2.1) (x.2.2.2.2.2.2.2.1) (x.2.2.2.2.2.2.2.2.1) (x.2.2.2.2.2.2.2.2.2.1) (x.2.2.2.2.2.2.2.2.2.2.1) (x.2.2.2.2.2.2.2.2.2.2.2.1) (x.2.2.2.2.2.2.2.2.2.2.2.2.1) (x.2.2.2.2.2.2.2.2.2.2.2.2.2))] [LT af (x.2.2.1) (x.2.2.2.1) (x.1).l,LT cc (x.2.2.2.2.1) (x.2.2.2.2.2.1) (x.2.1).Dims,aA]∧fa (x.1) (x.2.1)=some r) ?_ ?_)
 ·clear h hI;rintro⟨r6,d1,a12,c28,a13,c29,a14,c30,a15,c31,a16,c32,a17,c33⟩ w9 ⟨c34,hI,h⟩
  try dsimp only at hI h ⊢
  rw[fa]at h
  refine sr (sm ?_)
  obtain⟨c35,f5,hB,hl5,hk5⟩:=hI.hands (.r (.r (.r (.r (.l (.r (.r .n)))))))
  rcases eU h with⟨⟨r7,s5⟩,hx5,h⟩ | ⟨pa_,pn_,hx5,hp_⟩
  rotate_left
  ·subst hp_
   refine ja gn rfl (aD (vs:=[vp b1 0,(aT [93])]) rfl AO ⟨et,ao,ah⟩) (Calls.mono (ax HS hx5) ?_)
   intro e_ w_ hq_;obtain⟨rfl,C_,hB_⟩:=cW hq_;obtain⟨C9_,-,hI_⟩:=hk5 _ _ _ _ hB_;exact .inr ⟨_,rfl,gc (.inr ⟨_,_,rfl,rfl,_,hI_.arr .n trivial⟩)⟩
  try dsimp only at h
  refine aw gn rfl (Rc Tryz.func104) (Calls.mono (ax HS hx5) ?_)
  intro e_ w10 hq_;obtain⟨a18,c36,c37,rfl,hB2⟩:=cV hq_
  obtain⟨c38,hs5,hI⟩:=hk5 _ _ _ _ hB2
  replace hI:Bun C0 F w0 c38 w10 [MO.box b1 67 (ai s5 a18 c36),LV cc 204 a14 c30 d1.Red,LV aj 64 a15 c31 d1.Body.Lin.L,LV an 132 a16 c32 d1.Body.Idx,LV ap 39 a17 c33 d1.Body.Args,MO.box b2 100 FV,MO.box b3 100 (ul d1 a13 c29 a14 c30 a15 c31 a16 c32 a17 c33)] [LT af a18 c36 s5.l,LT af a12 c28 r6.l,LT cc a13 c29 d1.Dims,aA]:=hI
  refine⟨_,rfl,?_⟩
  refine nk (sr (sm ?_))
  obtain⟨c39,f6,hB,hl6,hk6⟩:=hI.hands (.l (.r (.r (.r (.r (.r (.r .n)))))))
  rcases eU h with⟨⟨r8,s6⟩,hx6,h⟩ | ⟨pa_,pn_,hx6,hp_⟩
  rotate_left
  ·subst hp_
   refine ja gn rfl (aD (vs:=[vp b1 0,(aT [61])]) rfl AO ⟨et,ao,ah⟩) (Calls.mono (ax HS hx6) ?_)
   intro e_ w_ hq_;obtain⟨rfl,C_,hB_⟩:=cW hq_;obtain⟨C9_,-,hI_⟩:=hk6 _ _ _ _ hB_;exact .inr ⟨_,rfl,gc (.inr ⟨_,_,rfl,rfl,_,hI_.arr .n trivial⟩)⟩
  try dsimp only at h
  refine aw gn rfl (Rc Tryz.func104) (Calls.mono (ax HS hx6) ?_)
  intro e_ w11 hq_;obtain⟨a19,c40,c41,rfl,hB2⟩:=cV hq_
  obtain⟨c42,hs6,hI⟩:=hk6 _ _ _ _ hB2
  replace hI:Bun C0 F w0 c42 w11 [MO.box b1 67 (ai s6 a19 c40),LV cc 204 a14 c30 d1.Red,LV aj 64 a15 c31 d1.Body.Lin.L,LV an 132 a16 c32 d1.Body.Idx,LV ap 39 a17 c33 d1.Body.Args,MO.box b2 100 FV,MO.box b3 100 (ul d1 a13 c29 a14 c30 a15 c31 a16 c32 a17 c33)] [LT af a19 c40 s6.l,LT af a18 c36 s5.l,LT af a12 c28 r6.l,LT cc a13 c29 d1.Dims,aA]:=hI
  refine⟨_,rfl,?_⟩
  refine nk (sr (sm ?_))
  obtain⟨c43,hI⟩:=hI.release .p1
  obtain⟨c44,f7,hB,hl7,hk7⟩:=hI.hands (.l (.l (.l (.l (.r (.l .n))))))
  replace hB:=hB.ord (.c .z (.c .p3 (.c .z (.c .z (.c .z .n)))))
  rcases eU h with⟨⟨r9,s7,s8⟩,hx7,h⟩ | ⟨pa_,pn_,hx7,hp_⟩
  rotate_left
  ·subst hp_
   refine ja gn rfl (aD (vs:=[vp b1 0,vp b3 0]) rfl JW ⟨et,et,ah⟩) (Calls.mono (ob HS hx7) ?_)
   intro e_ w_ hq_;obtain⟨rfl,C_,hB_⟩:=cW hq_;obtain⟨C9_,-,hI_⟩:=hk7 _ _ _ _ hB_;exact .inr ⟨_,rfl,gc (.inr ⟨_,_,rfl,rfl,_,hI_.arr .n trivial⟩)⟩
  try dsimp only at h
  refine aw gn rfl (Rc Tryz.func177) (Calls.mono (ob HS hx7) ?_)
  intro e_ w12 hq_;obtain⟨a20,c45,a21,c46,a22,c47,a23,c48,a24,c49,a25,c50,c51,rfl,hB2⟩:=cV hq_
  obtain⟨c52,hs7,hI⟩:=hk7 _ _ _ _ hB2
  replace hI:Bun C0 F w0 c52 w12 [MO.box b1 67 (ai s7 a20 c45),MO.box b3 100 (ul s8 a21 c46 a22 c47 a23 c48 a24 c49 a25 c50),LV aj 64 a23 c48 s8.Body.Lin.L,LV an 132 a24 c49 s8.Body.Idx,LV ap 39 a25 c50 s8.Body.Args,MO.box b2 100 FV] [LT af a20 c45 s7.l,LT cc a21 c46 s8.Dims,LT cc a22 c47 s8.Red,LT cc a14 c30 d1.Red,LT af a19 c40 s6.l,LT af a18 c36 s5.l,LT af a12 c28 r6.l,LT cc a13 c29 d1.Dims,aA]:=hI
  refine⟨_,rfl,?_⟩
  refine nk (sr (sm ?_))
  refine sq (nV rfl et) ?_
  refine sq (aP rfl et KU rfl jP rfl) ?_
  refine sq (ba (v:=(vi s7.at_)) rfl et u3 rfl (LU (hI.blk .z) rfl)) ?_
  refine sa ?_
  refine nk (sr (sm ?_))
  obtain⟨c53,f8,hB,hl8,hk8⟩:=hI.hands (.l (.r (.r (.r (.r (.r .n))))))
  rcases eU h with⟨⟨r10,s9⟩,hx8,h⟩ | ⟨pa_,pn_,hx8,hp_⟩
  rotate_left
  ·subst hp_
   refine ja gn rfl (aD (vs:=[vp b1 0]) rfl rj ⟨et,ah⟩) (Calls.mono (mZ HS hx8) ?_)
   intro e_ w_ hq_;obtain⟨rfl,C_,hB_⟩:=cW hq_;obtain⟨C9_,-,hI_⟩:=hk8 _ _ _ _ hB_;exact .inr ⟨_,rfl,gc (.inr ⟨_,_,rfl,rfl,_,hI_.arr .n trivial⟩)⟩
  try dsimp only at h
  refine aw gn rfl (Rc Tryz.func34) (Calls.mono (mZ HS hx8) ?_)
  intro e_ w13 hq_;obtain⟨a26,c54,a27,c55,a28,c56,a29,c57,c58,rfl,hB2⟩:=cV hq_
  obtain⟨c59,hs8,hI⟩:=hk8 _ _ _ _ hB2
  replace hI:Bun C0 F w0 c59 w13 [MO.box b1 67 (ai s9 a29 c57),MO.box b3 100 (ul s8 a21 c46 a22 c47 a23 c48 a24 c49 a25 c50),LV aj 64 a23 c48 s8.Body.Lin.L,LV an 132 a24 c49 s8.Body.Idx,LV ap 39 a25 c50 s8.Body.Args,MO.box b2 100 FV] [LT aj a26 c54 r10.Lin.L,LT an a27 c55 r10.Idx,LT ap a28 c56 r10.Args,LT af a29 c57 s9.l,LT af a20 c45 s7.l,LT cc a21 c46 s8.Dims,LT cc a22 c47 s8.Red,LT cc a14 c30 d1.Red,LT af a19 c40 s6.l,LT af a18 c36 s5.l,LT af a12 c28 r6.l,LT cc a13 c29 d1.Dims,aA]:=hI
  refine⟨_,rfl,?_⟩
  refine sq (aP rfl et wZ rfl aS rfl) ?_
  refine aQ (new:=(bz r10 a26 c54 a27 c55 a28 c56)) (cs':=#[(aT s8.Name),vi s8.Type_.Kind,vi s8.Type_.Bits,vi s8.Type_.Frac,vi s8.Type_.Round,vi s8.Type_.Over,vs a21 s8.Dims.length c46,vs a22 s8.Red.length c47,vi s8.Fold,vi r10.Op,(aT r10.Name),vi r10.Val.N,vi r10.Val.D,vi r10.Type_.Kind,vi r10.Type_.Bits,vi r10.Type_.Frac,vi r10.Type_.Round,vi r10.Type_.Over,vi r10.Lin.K,vs a26 r10.Lin.L.length c54,vs a27 r10.Idx.length c55,vs a28 r10.Args.length c56]) hI .p1 gn rfl rfl et et rfl aS rfl rfl rfl ?_
  intro c60 w14 hI
  refine nk (al (sr (sq (aP rfl et wZ rfl aS rfl) ?_)))
  refine sq (am (l:=(bz r10 a26 c54 a27 c55 a28 c56)) rfl et mD rfl aS (LU (hI.blk .p1) rfl)) ?_
  refine sB h (λ_ k=>sO hI.lt FS k) (Rc Tryz.func35) λr11 w15 h hI=>?_
  refine sa ?_
  refine nk (sr (sm ?_))
  refine sq (py rfl et ao) ?_
  refine TC (λhb h=>?_) λhb h=>?_
  ·refine jX rfl ?_
   refine sm ?_
   refine sm ?_
   refine sm ?_
   rcases eU h with⟨r12,hx11,h⟩ | ⟨pa_,pn_,hx11,hp_⟩
   rotate_left
   ·subst hp_
    refine ja gn rfl (aD (vs:=[vp b1 0,vi s7.at_,vi r11]) rfl uw ⟨et,et,et,ah⟩) (Calls.mono (aZ NE ⟨(hI.get0 .p3),hI.lendBox .z,ah⟩ hx11) ?_)
    intro e_ w_ hq_;obtain⟨rfl,hx_⟩:=cW hq_;have hI_:=hI.ext hx_;exact .inr ⟨_,rfl,gc (.inr ⟨_,_,rfl,rfl,_,hI_.arr .n trivial⟩)⟩
   try dsimp only at h
   refine aw gn rfl (Rc Tryz.func71) (Calls.mono (aZ NE ⟨(hI.get0 .p3),hI.lendBox .z,ah⟩ hx11) ?_)
   intro e_ w16 hq_;obtain⟨rfl,hx12,hl10⟩:=cV hq_
   refine⟨_,rfl,?_⟩
   replace hI:=(hI.ext hx12)
   refine aO ?_
   refine pc (e:=[(2,vp b2 0),(3,vp b3 0)]) ⟨rfl,rfl,ah⟩ ?_
   refine sr (sq (am (l:=[(aT s8.Name),vi s8.Type_.Kind,vi s8.Type_.Bits,vi s8.Type_.Frac,vi s8.Type_.Round,vi s8.Type_.Over,vs a21 s8.Dims.length c46,vs a22 s8.Red.length c47,vi s8.Fold,vi r10.Op,(aT r10.Name),vi r10.Val.N,vi r10.Val.D,vi r10.Type_.Kind,vi r10.Type_.Bits,vi r10.Type_.Frac,vi r10.Type_.Round,vi r10.Type_.Over,vi r10.Lin.K,vs a26 r10.Lin.L.length c54,vs a27 r10.Idx.length c55,vs a28 r10.Args.length c56]) rfl et wZ rfl lR (LU (hI.blk .p1) rfl)) ?_)
   refine aQ (new:=[(aT s8.Name),vi s8.Type_.Kind,vi s8.Type_.Bits,vi s8.Type_.Frac,vi s8.Type_.Round,vi s8.Type_.Over,vs a21 s8.Dims.length c46,vs a22 s8.Red.length c47,vi s8.Fold,vi r10.Op,(aT r10.Name),vi r10.Val.N,vi r10.Val.D,vi r10.Type_.Kind,vi r10.Type_.Bits,vi r10.Type_.Frac,vi r10.Type_.Round,vi r10.Type_.Over,vi r10.Lin.K,vs a26 r10.Lin.L.length c54,vs a27 r10.Idx.length c55,vs a28 r10.Args.length c56]) (cs':=#[(aT s8.Name),vi s8.Type_.Kind,vi s8.Type_.Bits,vi s8.Type_.Frac,vi s8.Type_.Round,vi s8.Type_.Over,vs a21 s8.Dims.length c46,vs a22 s8.Red.length c47,vi s8.Fold,vi r10.Op,(aT r10.Name),vi r10.Val.N,vi r10.Val.D,vi r10.Type_.Kind,vi r10.Type_.Bits,vi r10.Type_.Frac,vi r10.Type_.Round,vi r10.Type_.Over,vi r10.Lin.K,vs a26 r10.Lin.L.length c54,vs a27 r10.Idx.length c55,vs a28 r10.Args.length c56]) hI .p5 gn rfl rfl et et rfl lR rfl rfl rfl ?_
   intro c61 w17 hI
   refine nk (aF ?_)
   obtain rfl:=ak h
   exact fY (vs:=[(Value.agg #[(aT s8.Name),vi s8.Type_.Kind,vi s8.Type_.Bits,vi s8.Type_.Frac,vi s8.Type_.Round,vi s8.Type_.Over,vs a21 s8.Dims.length c46,vs a22 s8.Red.length c47,vi s8.Fold,vi r10.Op,(aT r10.Name),vi r10.Val.N,vi r10.Val.D,vi r10.Type_.Kind,vi r10.Type_.Bits,vi r10.Type_.Frac,vi r10.Type_.Round,vi r10.Type_.Over,vi r10.Lin.K,vs a26 r10.Lin.L.length c54,vs a27 r10.Idx.length c55,vs a28 r10.Args.length c56])]) Tryz.results102 ⟨⟨_,aR rfl rfl,cv (l:=[(aT s8.Name),vi s8.Type_.Kind,vi s8.Type_.Bits,vi s8.Type_.Frac,vi s8.Type_.Round,vi s8.Type_.Over,vs a21 s8.Dims.length c46,vs a22 s8.Red.length c47,vi s8.Fold,vi r10.Op,(aT r10.Name),vi r10.Val.N,vi r10.Val.D,vi r10.Type_.Kind,vi r10.Type_.Bits,vi r10.Type_.Frac,vi r10.Type_.Round,vi r10.Type_.Over,vi r10.Lin.K,vs a26 r10.Lin.L.length c54,vs a27 r10.Idx.length c55,vs a28 r10.Args.length c56]) wZ rfl lR (LU (hI.blk .p5) rfl)⟩,ah⟩ (.inl ⟨_,rfl,a21,c46,a22,c47,a26,c54,a27,c55,a28,c56,a29,c57,_,rfl,hI.arr (.c .z .n) ⟨.p5,.p6,.z,.p1,.p2,.p3,ah⟩⟩)
  refine bl (bh (sr (sq (am (l:=[(aT s8.Name),vi s8.Type_.Kind,vi s8.Type_.Bits,vi s8.Type_.Frac,vi s8.Type_.Round,vi s8.Type_.Over,vs a21 s8.Dims.length c46,vs a22 s8.Red.length c47,vi s8.Fold,vi r10.Op,(aT r10.Name),vi r10.Val.N,vi r10.Val.D,vi r10.Type_.Kind,vi r10.Type_.Bits,vi r10.Type_.Frac,vi r10.Type_.Round,vi r10.Type_.Over,vi r10.Lin.K,vs a26 r10.Lin.L.length c54,vs a27 r10.Idx.length c55,vs a28 r10.Args.length c56]) rfl et wZ rfl lR (LU (hI.blk .p1) rfl)) ?_)))
  refine aQ (new:=[(aT s8.Name),vi s8.Type_.Kind,vi s8.Type_.Bits,vi s8.Type_.Frac,vi s8.Type_.Round,vi s8.Type_.Over,vs a21 s8.Dims.length c46,vs a22 s8.Red.length c47,vi s8.Fold,vi r10.Op,(aT r10.Name),vi r10.Val.N,vi r10.Val.D,vi r10.Type_.Kind,vi r10.Type_.Bits,vi r10.Type_.Frac,vi r10.Type_.Round,vi r10.Type_.Over,vi r10.Lin.K,vs a26 r10.Lin.L.length c54,vs a27 r10.Idx.length c55,vs a28 r10.Args.length c56]) (cs':=#[(aT s8.Name),vi s8.Type_.Kind,vi s8.Type_.Bits,vi s8.Type_.Frac,vi s8.Type_.Round,vi s8.Type_.Over,vs a21 s8.Dims.length c46,vs a22 s8.Red.length c47,vi s8.Fold,vi r10.Op,(aT r10.Name),vi r10.Val.N,vi r10.Val.D,vi r10.Type_.Kind,vi r10.Type_.Bits,vi r10.Type_.Frac,vi r10.Type_.Round,vi r10.Type_.Over,vi r10.Lin.K,vs a26 r10.Lin.L.length c54,vs a27 r10.Idx.length c55,vs a28 r10.Args.length c56]) hI .p5 gn rfl rfl et et rfl lR rfl rfl rfl ?_
  intro c62 w18 hI
  refine nk (aF ?_)
  obtain rfl:=ak h
  exact fY (vs:=[(Value.agg #[(aT s8.Name),vi s8.Type_.Kind,vi s8.Type_.Bits,vi s8.Type_.Frac,vi s8.Type_.Round,vi s8.Type_.Over,vs a21 s8.Dims.length c46,vs a22 s8.Red.length c47,vi s8.Fold,vi r10.Op,(aT r10.Name),vi r10.Val.N,vi r10.Val.D,vi r10.Type_.Kind,vi r10.Type_.Bits,vi r10.Type_.Frac,vi r10.Type_.Round,vi r10.Type_.Over,vi r10.Lin.K,vs a26 r10.Lin.L.length c54,vs a27 r10.Idx.length c55,vs a28 r10.Args.length c56])]) Tryz.results102 ⟨⟨_,aR rfl rfl,cv (l:=[(aT s8.Name),vi s8.Type_.Kind,vi s8.Type_.Bits,vi s8.Type_.Frac,vi s8.Type_.Round,vi s8.Type_.Over,vs a21 s8.Dims.length c46,vs a22 s8.Red.length c47,vi s8.Fold,vi r10.Op,(aT r10.Name),vi r10.Val.N,vi r10.Val.D,vi r10.Type_.Kind,vi r10.Type_.Bits,vi r10.Type_.Frac,vi r10.Type_.Round,vi r10.Type_.Over,vi r10.Lin.K,vs a26 r10.Lin.L.length c54,vs a27 r10.Idx.length c55,vs a28 r10.Args.length c56]) wZ rfl lR (LU (hI.blk .p5) rfl)⟩,ah⟩ (.inl ⟨_,rfl,a21,c46,a22,c47,a26,c54,a27,c55,a28,c56,a29,c57,_,rfl,hI.arr (.c .z .n) ⟨.p5,.p6,.z,.p1,.p2,.p3,ah⟩⟩)
 refine sr (sm ?_)
 refine sB h (λ_ k=>bW NE ⟨(hI.get0 .z),hI.lendBox .z,ah⟩ k) (Rc Tryz.func121) λr13 w19 h hI=>?_
 refine sq (xL rfl et) ?_
 refine TC (λhb h=>?_) λhb h=>?_
 ·refine jX rfl ?_
  refine sm ?_
  obtain⟨c63,f9,hB,hl12,hk9⟩:=hI.hands (.l (.r (.r .n)))
  rcases eU h with⟨⟨r14,s10⟩,hx15,h⟩ | ⟨pa_,pn_,hx15,hp_⟩
  rotate_left
  ·subst hp_
   refine ja gn rfl (aD (vs:=[vp b1 0]) rfl JX ⟨et,ah⟩) (Calls.mono (lQ HS hx15) ?_)
   intro e_ w_ hq_;obtain⟨rfl,C_,hB_⟩:=cW hq_;obtain⟨C9_,-,hI_⟩:=hk9 _ _ _ _ hB_;exact .inr ⟨_,rfl,gc (.inr ⟨_,_,rfl,rfl,_,hI_.arr .n trivial⟩)⟩
  try dsimp only at h
  refine aw gn rfl (Rc Tryz.func176) (Calls.mono (lQ HS hx15) ?_)
  intro e_ w20 hq_;obtain⟨a30,c64,a31,c65,c66,rfl,hB2⟩:=cV hq_
  obtain⟨c67,hs9,hI⟩:=hk9 _ _ _ _ hB2
  replace hI:Bun C0 F w0 c67 w20 [MO.box b1 67 (ai s10 a31 c65),MO.box b3 100 #[(aT r2),vi r4.Kind,vi r4.Bits,vi r4.Frac,vi r4.Round,vi r4.Over,vs none 0 0,vs none 0 0,vi 0,vi 0,(aT []),vi 0,vi 0,vi 0,vi 0,vi 0,vi 0,vi 0,vi 0,vs none 0 0,vs none 0 0,vs none 0 0],MO.box b2 100 FV] [LT cc a30 c64 r14,LT af a31 c65 s10.l,LT af a11 c25 s4.l,LT af a10 c20 s3.l,LT af a9 c16 s2.l,LT af a8 c10 s1.l,LT af a1 c1 r1.l,aA]:=hI
  refine⟨_,rfl,?_⟩
  refine sq (aP rfl et wZ rfl H9 rfl) ?_
  refine lS λc68 w21 hI=>?_
  refine aO ?_
  have hI:=hI.nil cc 204 none
  have hI:=hI.nil aj 64 none
  have hI:=hI.nil an 132 none
  have hI:=hI.nil ap 39 none
  exact bu (s10,(⟨r2,r4,r14,[],0,(⟨0,[],⟨0,0⟩,⟨0,0,0,0,0⟩,⟨0,[]⟩,[],[]⟩:GExpr)⟩:eF),a31,c65,a30,c64,none,0,none,0,none,0,none,0) ⟨rfl,rfl,rfl,ah⟩ ⟨_,hI.arr (.c .p3 (.c .p2 (.c .p1 (.c .z (.c .z (.c .p1 (.c .z .n))))))) ⟨.p1,.z,.p7,ah⟩,h⟩ rfl
 refine bl ?_
 have hI:=hI.add (c:=LT cc none 0 ([]:List gl)) SlC.nil
 have hI:=hI.nil cc 204 none
 have hI:=hI.nil aj 64 none
 have hI:=hI.nil an 132 none
 have hI:=hI.nil ap 39 none
 exact bu (s4,(⟨r2,r4,[],[],0,(⟨0,[],⟨0,0⟩,⟨0,0,0,0,0⟩,⟨0,[]⟩,[],[]⟩:GExpr)⟩:eF),a11,c25,none,0,none,0,none,0,none,0,none,0) ⟨rfl,rfl,rfl,ah⟩ ⟨_,hI.arr (.c .p3 (.c .p2 (.c .p1 (.c .z (.c .z (.c .p1 (.c .z .n))))))) ⟨.p1,.z,.p6,ah⟩,h⟩ rfl
def dt:Tr:=(.c (4,.s) (.c (5,.q) (.c (6,.s) .n)))
def eJ:Tr:=(.c (5,.s) (.c (6,.q) (.c (7,.s) .n)))
def dr:Tr:=(.c (4,.s) eJ)
def eI:Tr:=(.c (5,.s) (.c (6,.q) (.c (7,.s) .n)))
def dq:Tr:=(.c (4,.s) eI)
def eH:Tr:=(.c (5,.s) (.c (6,.q) (.c (7,.s) .n)))
def dp:Tr:=(.c (4,.s) eH)
def dn:Tr:=(.c (4,.s) (.c (5,.q) (.c (6,.s) .n)))
theorem sc {r1:aa} (hI:Bun C0 F w0 C0 w0 [MO.box b1 67 (ai r1 a1 c1)] [LT af a1 c1 r1.l,aA]) {r:bL (bI×aa)} (h:ju r1=some r):CP C0 F w0 50 #[vp b1 0] r λrx e w=>∃ a2 c2 a3 c3 a4 c4 a5 c5 a6 c6 a7 c7 C,e= .returned (Value.agg (iY rx.1 a2 c2 a3 c3 a4 c4 a5 c5 a6 c6))∧Bun C0 F w0 C w [MO.box b1 67 (ai rx.2 a7 c7)] [LT bk a2 c2 rx.1.Sizes,LT aM a3 c3 rx.1.Where,LT cn a4 c4 rx.1.Params,LT gk a5 c5 rx.1.Defs,LT bk a6 c6 rx.1.Outs,LT af a7 c7 rx.2.l]:=by
 refine fJ (l:=[vp b1 0]) Tryz.func50 rfl Tryz.ntmps50 rfl ?_
 rw[ju]at h
 refine sr (dl (cs:=j3) hI gn rfl rfl Ar rfl ?_)
 intro b2 c8 w1 hI
 refine T ?_
 refine sq (aC (vs:=[]) (cs:=j3) rfl trivial (by kernel_rfl)) ?_
 refine lN λb3 c9 w2 hI=>?_
 refine lA λc10 w3 hI=>?_
 refine nk (al (T ?_))
 have hI:=hI.nil bk 9 none
 have hI:=hI.nil aM 107 none
 have hI:=hI.nil cn 95 none
 have hI:=hI.nil gk 100 none
 have hI:=hI.nil bk 9 none
 refine bs (α:=Nat×aa×bI×(Option Addr)×Nat×(Option Addr)×Nat×(Option Addr)×Nat×(Option Addr)×Nat×(Option Addr)×Nat×(Option Addr)×Nat) (λx=>λw=>∃ C,Bun C0 F w0 C w [LV bk 9 (x.2.2.2.2.2.1) (x.2.2.2.2.2.2.1) (x.2.2.1).Sizes,LV aM 107 (x.2.2.2.2.2.2.2.1) (x.2.2.2.2.2.2.2.2.1) (x.2.2.1).Where,LV cn 95 (x.2.2.2.2.2.2.2.2.2.1) (x.2.2.2.2.2.2.2.2.2.2.1) (x.2.2.1).Params,LV gk 100 (x.2.2.2.2.2.2.2.2.2.2.2.1) (x.2.2.2.2.2.2.2.2.2.2.2.2.1) (x.2.2.1).Defs,LV bk 9 (x.2.2.2.2.2.2.2.2.2.2.2.2.2.1) (x.2.2.2.2.2.2.2.2.2.2.2.2.2.2) (x.2.2.1).Outs,MO.box b1 67 (ai (x.2.1) (x.2.2.2.1) (x.2.2.2.2.1)),MO.box b2 55 j3,MO.box b3 55 (iY (x.2.2.1) (x.2.2.2.2.2.1) (x.2.2.2.2.2.2.1) (x.2.2.2.2.2.2.2.1) (x.2.2.2.2.2.2.2.2.1) (x.2.2.2.2.2.2.2.2.2.1) (x.2.2.2.2.2.2.2.2.2.2.1) (x.2.2.2.2.2.2.2.2.2.2.2.1) (x.2.2.2.2.2.2.2.2.2.2.2.2.1) (x.2.2.2.2.2.2.2.2.2.2.2.2.2.1) (x.2.2.2.2.2.2.2.2.2.2.2.2.2.2))] [LT af (x.2.2.2.1) (x.2.2.2.2.1) (x.2.1).l,aA]∧bf (x.1) (x.2.1) (x.2.2.1)=some r) (λx _=>x.1) (λx=>[(0,vp b1 0),(2,vp b2 0),(3,vp b3 0)]) (fu,r1,(⟨[],[],[],[],[]⟩:bI),a1,c1,none,0,none,0,none,0,none,0,none,0) ⟨_,hI.arr (.c .p4 (.c .p3 (.c .p2 (.c .p1 (.c .z (.c .p2 (.c .p1 (.c .z .n)))))))) ⟨.z,.p1,ah⟩,h⟩ SB ?_
 clear h hI;rintro⟨fuel1,r2,p1,a8,c11,a9,c12,a10,c13,a11,c14,a12,c15,a13,c16⟩ w4 ⟨c17,hI,h⟩
 dsimp only at hI h ⊢
 rcases fuel1 with _ | fuel1
 ·rw[bf]at h;cases h
 rw[bf]at h
 refine al (al (aJ [] false (.c (0,.q) (.c (1,.q) (.c (2,.q) (.c (3,.q) (.c (4,.q) (.c (5,.q) (.c (6,.q) (.c (7,.q) (.c (8,.q) (.c (9,.q) .n)))))))))) hI (by kernel_rfl) (by kernel_rfl) ?_))
 intro w5 hI
 refine V ?_
 refine TC (λhb h=>?_) λhb h=>?_
 ·refine T ?_
  refine bM (α:=aa×bI×(Option Addr)×Nat×(Option Addr)×Nat×(Option Addr)×Nat×(Option Addr)×Nat×(Option Addr)×Nat×(Option Addr)×Nat) (λ_=>⟨66,[]⟩) (λx=>[(0,vp b1 0),(2,vp b2 0),(3,vp b3 0)]) (λx=>λw=>∃ C,Bun C0 F w0 C w [LV bk 9 (x.2.2.2.2.1) (x.2.2.2.2.2.1) (x.2.1).Sizes,LV aM 107 (x.2.2.2.2.2.2.1) (x.2.2.2.2.2.2.2.1) (x.2.1).Where,LV cn 95 (x.2.2.2.2.2.2.2.2.1) (x.2.2.2.2.2.2.2.2.2.1) (x.2.1).Params,LV gk 100 (x.2.2.2.2.2.2.2.2.2.2.1) (x.2.2.2.2.2.2.2.2.2.2.2.1) (x.2.1).Defs,LV bk 9 (x.2.2.2.2.2.2.2.2.2.2.2.2.1) (x.2.2.2.2.2.2.2.2.2.2.2.2.2) (x.2.1).Outs,MO.box b1 67 (ai (x.1) (x.2.2.1) (x.2.2.2.1)),MO.box b2 55 j3,MO.box b3 55 (iY (x.2.1) (x.2.2.2.2.1) (x.2.2.2.2.2.1) (x.2.2.2.2.2.2.1) (x.2.2.2.2.2.2.2.1) (x.2.2.2.2.2.2.2.2.1) (x.2.2.2.2.2.2.2.2.2.1) (x.2.2.2.2.2.2.2.2.2.2.1) (x.2.2.2.2.2.2.2.2.2.2.2.1) (x.2.2.2.2.2.2.2.2.2.2.2.2.1) (x.2.2.2.2.2.2.2.2.2.2.2.2.2))] [LT af (x.2.2.1) (x.2.2.2.1) (x.1).l,aA]∧aB (bf fuel1) (x.1) (x.2.1)=some r) ?_ ?_
  ·clear h hI;rintro⟨r3,p2,a14,c18,a15,c19,a16,c20,a17,c21,a18,c22,a19,c23⟩ w6 ⟨c24,hI,h⟩
   try dsimp only at hI h ⊢
   rw[aB]at h
   refine T ?_
   obtain⟨c25,f1,hB,hl1,hk1⟩:=hI.hands (.r (.r (.r (.r (.r (.l (.r (.r .n))))))))
   refine dC h (λ_ hx1=>ax HS hx1) (kD hk1) (Rc Tryz.func104) ?_
   rintro⟨r4,s1⟩ hx1 h _ w7 ⟨a20,c26,c27,rfl,hB2⟩
   try dsimp only at h
   refine HN hk1 hB2 λc28 hI=>?_
   refine⟨_,rfl,?_⟩
   refine aO ?_
   exact ny (fuel1,s1,p2,a20,c26,a15,c19,a16,c20,a17,c21,a18,c22,a19,c23) SB ⟨_,hI.arr GO SU,h⟩ (Nat.lt_succ_self _)
  refine T ?_
  refine ll hI bk HQ gK Rr λb4 c29 w8 hI=>?_
  obtain⟨c30,hI⟩:=hI.release .z
  obtain⟨c31,f2,hB,hl2,hk2⟩:=hI.hands (.r (.r (.r (.r (.r (.l (.r (.r .n))))))))
  obtain⟨⟨r5,s2⟩,hx2,h⟩:=ae h
  try dsimp only at h
  refine aw gn rfl (Rc Tryz.func98) (Calls.mono (fX HS hx2) ?_)
  rintro _ w9 ⟨a21,c32,c33,rfl,hB2⟩
  refine HN hk2 hB2 λc34 hI=>?_
  refine⟨_,rfl,?_⟩
  refine TC (λhb h=>?_) λhb h=>?_
  ·rcases eU h with⟨⟨r6,s3⟩,hx3,h⟩ | ⟨pa_,pn_,hx3,hp_⟩
   rotate_left
   ·subst hp_
    refine aJ [3,4,6] false (.c (0,.q) (.c (2,.q) (.two 1 (.c (3,.s) dt) 3 (.c (1,.s) dt)))) hI (by kernel_rfl) (by kernel_rfl) ?_
    intro w14 hI
    refine V ?_
    refine cL ?_ ?_
    ·skip
     refine bq rfl gn rfl (ba (v:=(vs a9 p1.Sizes.length c12)) rfl et zY rfl (LU (hI.blk .p7) rfl)) LW ?_
     refine bK (F:=F) (C:=c34) rfl rfl ?_
     obtain⟨c35,f3,hB,hl3,hk3⟩:=hI.hands (.l (.r (.r (.r (.r (.r (.r (.r .n))))))))
     refine fB rfl gn rfl (aD (vs:=[vp b1 0]) rfl wM ⟨et,ah⟩) (Calls.mono (dg HS hx3) ?_)
     intro e_ w_ hq_;obtain⟨rfl,C_,hB_⟩:=cW hq_;obtain⟨C9_,-,hI_⟩:=hk3 _ _ _ _ hB_;exact .inr ⟨_,rfl,gc (.inr ⟨_,_,rfl,rfl,_,hI_.arr .n trivial⟩)⟩
    refine bB (F:=F) (C:=c34) rfl rfl ?_
    obtain⟨c35,f3,hB,hl3,hk3⟩:=hI.hands (.l (.r (.r (.r (.r (.r (.r (.r .n))))))))
    refine fB rfl gn rfl (aD (vs:=[vp b1 0]) rfl wM ⟨et,ah⟩) (Calls.mono (dg HS hx3) ?_)
    intro e_ w_ hq_;obtain⟨rfl,C_,hB_⟩:=cW hq_;obtain⟨C9_,-,hI_⟩:=hk3 _ _ _ _ hB_;exact .inr ⟨_,rfl,gc (.inr ⟨_,_,rfl,rfl,_,hI_.arr .n trivial⟩)⟩
   try dsimp only at h
   obtain⟨zs1,hx4,h⟩:=ae h
   refine aJ [3,4,6] false (.c (0,.q) (.c (2,.q) (.two 1 (.c (3,.s) dt) 3 (.c (1,.s) dt)))) hI (by kernel_rfl) (by kernel_rfl) ?_
   intro w15 hI
   refine bT (α:=(Option Addr)×Nat×(Option Addr)×Nat×NP) (T:=dt) (λx=>[(0,vp b1 0),(2,vp b2 0),(3,vp b3 0),(23,vs a9 p1.Sizes.length c12),(25,vs (x.1) r6.length (x.2.1))]) (λx w=>Bun C0 F w0 (x.2.2.2.2) w [MO.box b1 67 (ai s3 (x.2.2.1) (x.2.2.2.1)),LV bk 9 a9 c12 p1.Sizes,LV aM 107 a10 c13 p1.Where,LV cn 95 a11 c14 p1.Params,LV gk 100 a12 c15 p1.Defs,LV bk 9 a13 c16 p1.Outs,MO.box b2 55 j3,MO.box b3 55 (iY p1 a9 c12 a10 c13 a11 c14 a12 c15 a13 c16)] [LT bk (x.1) (x.2.1) r6,LT af (x.2.2.1) (x.2.2.2.1) s3.l,LT af a21 c32 s2.l,LT bk (some ⟨b4,0,none⟩) 5 HQ,LT af a8 c11 r2.l,aA]) (λx w=>SN [] (DM true F (x.2.2.2.2)) w) ?_ ?_
   ·clear hI;rintro⟨a22,c36,a23,c37,c43⟩ w13 hI
    try dsimp only at hI ⊢
    unfold dt
    refine nr (xs:=p1.Sizes) (ys:=r6) hI .p1 (hI.crd .z) hx4 rfl gn rfl rfl zY gK rfl rfl et et ?_
    intro a24 c40 c41 w11 hI
    refine V ?_
    refine vS λc42 w12 hI=>?_
    refine oY ?_
    exact bu (s3,(⟨zs1,p1.Where,p1.Params,p1.Defs,p1.Outs⟩:bI),a23,c37,a24,c40,a10,c13,a11,c14,a12,c15,a13,c16) SB ⟨_,hI.arr GO SU,h⟩ rfl
   intro hk_tr_parser_reader_prog_w_16_0
   refine V ?_
   refine cL ?_ ?_
   ·skip
    refine bq rfl gn rfl (ba (v:=(vs a9 p1.Sizes.length c12)) rfl et zY rfl (LU (hI.blk .p7) rfl)) LW ?_
    refine bK (F:=F) (C:=c34) rfl rfl ?_
    obtain⟨c35,f3,hB,hl3,hk3⟩:=hI.hands (.l (.r (.r (.r (.r (.r (.r (.r .n))))))))
    refine fA rfl gn rfl (aD (vs:=[vp b1 0]) rfl wM ⟨et,ah⟩) (Calls.mono (dg HS hx3) ?_)
    intro e_ w10 hq_;obtain⟨a22,c36,a23,c37,c38,rfl,hB2⟩:=cV hq_
    obtain⟨c39,hs3,hI⟩:=hk3 _ _ _ _ hB2
    dsimp only[ca,na]at hI
    refine⟨_,rfl,DM true F c39,hs3,?_⟩
    exact bc (hk_tr_parser_reader_prog_w_16_0 (a22,c36,a23,c37,c39) _ (hI.arr GO SU)) SB
   refine bB (F:=F) (C:=c34) rfl rfl ?_
   obtain⟨c35,f3,hB,hl3,hk3⟩:=hI.hands (.l (.r (.r (.r (.r (.r (.r (.r .n))))))))
   refine fA rfl gn rfl (aD (vs:=[vp b1 0]) rfl wM ⟨et,ah⟩) (Calls.mono (dg HS hx3) ?_)
   intro e_ w10 hq_;obtain⟨a22,c36,a23,c37,c38,rfl,hB2⟩:=cV hq_
   obtain⟨c39,hs3,hI⟩:=hk3 _ _ _ _ hB2
   dsimp only[ca,na]at hI
   refine⟨_,rfl,DM true F c39,hs3,?_⟩
   refine bq rfl gn rfl (ba (v:=(vs a9 p1.Sizes.length c12)) rfl et zY rfl (LU (hI.blk .p7) rfl)) LW ?_
   exact bc (hk_tr_parser_reader_prog_w_16_0 (a22,c36,a23,c37,c39) _ (hI.arr GO SU)) SB
  refine TC (λhb h=>?_) λhb h=>?_
  ·rcases eU h with⟨⟨r7,s4⟩,hx5,h⟩ | ⟨pa_,pn_,hx5,hp_⟩
   rotate_left
   ·subst hp_
    refine aJ [3,5,7] false (.c (0,.q) (.c (2,.q) (.two 1 (.c (3,.s) dr) 3 (.two 1 dr 4 (.c (1,.s) eJ))))) hI (by kernel_rfl) (by kernel_rfl) ?_
    intro w22 hI
    refine V ?_
    refine cL ?_ ?_
    ·skip
     refine bq rfl gn rfl (ba (v:=(vs a10 p1.Where.length c13)) rfl et KD rfl (LU (hI.blk .p7) rfl)) LW ?_
     refine bK (F:=F) (C:=c34) rfl rfl ?_
     obtain⟨c44,f4,hB,hl4,hk4⟩:=hI.hands (.l (.r (.r (.r (.r (.r (.r (.r .n))))))))
     refine fB rfl gn rfl (aD (vs:=[vp b1 0]) rfl AR ⟨et,ah⟩) (Calls.mono (gW HS hx5) ?_)
     intro e_ w_ hq_;obtain⟨rfl,C_,hB_⟩:=cW hq_;obtain⟨C9_,-,hI_⟩:=hk4 _ _ _ _ hB_;exact .inr ⟨_,rfl,gc (.inr ⟨_,_,rfl,rfl,_,hI_.arr .n trivial⟩)⟩
    refine bB (F:=F) (C:=c34) rfl rfl ?_
    obtain⟨c44,f4,hB,hl4,hk4⟩:=hI.hands (.l (.r (.r (.r (.r (.r (.r (.r .n))))))))
    refine fB rfl gn rfl (aD (vs:=[vp b1 0]) rfl AR ⟨et,ah⟩) (Calls.mono (gW HS hx5) ?_)
    intro e_ w_ hq_;obtain⟨rfl,C_,hB_⟩:=cW hq_;obtain⟨C9_,-,hI_⟩:=hk4 _ _ _ _ hB_;exact .inr ⟨_,rfl,gc (.inr ⟨_,_,rfl,rfl,_,hI_.arr .n trivial⟩)⟩
   try dsimp only at h
   obtain⟨zs2,hx6,h⟩:=ae h
   refine aJ [3,5,7] false (.c (0,.q) (.c (2,.q) (.two 1 (.c (3,.s) dr) 3 (.two 1 dr 4 (.c (1,.s) eJ))))) hI (by kernel_rfl) (by kernel_rfl) ?_
   intro w23 hI
   refine bT (α:=(Option Addr)×Nat×(Option Addr)×Nat×Nat×NP) (T:=eJ) (λx=>[(0,vp b1 0),(2,vp b2 0),(3,vp b3 0),(31,vs a10 p1.Where.length c13),(34,(vs (some ⟨(x.2.2.2.2.1),0,none⟩) ([r7]:List aX).length 1))]) (λx w=>Bun C0 F w0 (x.2.2.2.2.2) w [LV aM 107 (some ⟨(x.2.2.2.2.1),0,none⟩) 1 ([r7]:List aX),MO.box b1 67 (ai s4 (x.2.2.1) (x.2.2.2.1)),LV bk 9 a9 c12 p1.Sizes,LV aM 107 a10 c13 p1.Where,LV cn 95 a11 c14 p1.Params,LV gk 100 a12 c15 p1.Defs,LV bk 9 a13 c16 p1.Outs,MO.box b2 55 j3,MO.box b3 55 (iY p1 a9 c12 a10 c13 a11 c14 a12 c15 a13 c16)] [LT aj (x.1) (x.2.1) r7.Lin.L,LT af (x.2.2.1) (x.2.2.2.1) s4.l,LT af a21 c32 s2.l,LT bk (some ⟨b4,0,none⟩) 5 HQ,LT af a8 c11 r2.l,aA]) (λx w=>SN [] (DM true F (x.2.2.2.2.2)) w) ?_ ?_
   ·clear hI;rintro⟨a25,c45,a26,c46,b5,c54⟩ w21 hI
    try dsimp only at hI ⊢
    unfold eJ
    refine nr (xs:=p1.Where) (ys:=([r7]:List aX)) hI .p3 (hI.rd .z) hx6 rfl gn rfl rfl KD tt rfl rfl et et ?_
    intro a27 c50 c51 w18 hI
    refine V ?_
    refine vS λc52 w19 hI=>?_
    refine oY ?_
    exact bu (s4,(⟨p1.Sizes,zs2,p1.Params,p1.Defs,p1.Outs⟩:bI),a26,c46,a9,c12,a27,c50,a11,c14,a12,c15,a13,c16) SB ⟨_,hI.arr GO SU,h⟩ rfl
   intro hk_tr_parser_reader_prog_w_17_1
   refine bT (α:=(Option Addr)×Nat×(Option Addr)×Nat×NP) (T:=dr) (λx=>[(0,vp b1 0),(2,vp b2 0),(3,vp b3 0),(31,vs a10 p1.Where.length c13),(33,(Value.agg (m0 r7 (x.1) (x.2.1))))]) (λx w=>Bun C0 F w0 (x.2.2.2.2) w [MO.box b1 67 (ai s4 (x.2.2.1) (x.2.2.2.1)),LV bk 9 a9 c12 p1.Sizes,LV aM 107 a10 c13 p1.Where,LV cn 95 a11 c14 p1.Params,LV gk 100 a12 c15 p1.Defs,LV bk 9 a13 c16 p1.Outs,MO.box b2 55 j3,MO.box b3 55 (iY p1 a9 c12 a10 c13 a11 c14 a12 c15 a13 c16)] [LT aj (x.1) (x.2.1) r7.Lin.L,LT af (x.2.2.1) (x.2.2.2.1) s4.l,LT af a21 c32 s2.l,LT bk (some ⟨b4,0,none⟩) 5 HQ,LT af a8 c11 r2.l,aA]) (λx w=>SN [] (DM true F (x.2.2.2.2)) w) ?_ ?_
   ·clear hI;rintro⟨a25,c45,a26,c46,c53⟩ w20 hI
    try dsimp only at hI ⊢
    unfold dr
    refine vl hI aM ([r7]:List aX) tt (.cs ⟨a25,c45,rfl,hI.get .z⟩ .nl) λb5 c49 w17 hI=>?_
    exact bc (hk_tr_parser_reader_prog_w_17_1 (a25,c45,a26,c46,b5,c49) _ (hI.arr GO SU)) SB
   intro hk_tr_parser_reader_prog_w_17_0
   refine V ?_
   refine cL ?_ ?_
   ·skip
    refine bq rfl gn rfl (ba (v:=(vs a10 p1.Where.length c13)) rfl et KD rfl (LU (hI.blk .p7) rfl)) LW ?_
    refine bK (F:=F) (C:=c34) rfl rfl ?_
    obtain⟨c44,f4,hB,hl4,hk4⟩:=hI.hands (.l (.r (.r (.r (.r (.r (.r (.r .n))))))))
    refine fA rfl gn rfl (aD (vs:=[vp b1 0]) rfl AR ⟨et,ah⟩) (Calls.mono (gW HS hx5) ?_)
    intro e_ w16 hq_;obtain⟨a25,c45,a26,c46,c47,rfl,hB2⟩:=cV hq_
    obtain⟨c48,hs4,hI⟩:=hk4 _ _ _ _ hB2
    dsimp only[ca,na]at hI
    refine⟨_,rfl,DM true F c48,hs4,?_⟩
    exact bc (hk_tr_parser_reader_prog_w_17_0 (a25,c45,a26,c46,c48) _ (hI.arr GO SU)) SB
   refine bB (F:=F) (C:=c34) rfl rfl ?_
   obtain⟨c44,f4,hB,hl4,hk4⟩:=hI.hands (.l (.r (.r (.r (.r (.r (.r (.r .n))))))))
   refine fA rfl gn rfl (aD (vs:=[vp b1 0]) rfl AR ⟨et,ah⟩) (Calls.mono (gW HS hx5) ?_)
   intro e_ w16 hq_;obtain⟨a25,c45,a26,c46,c47,rfl,hB2⟩:=cV hq_
   obtain⟨c48,hs4,hI⟩:=hk4 _ _ _ _ hB2
   dsimp only[ca,na]at hI
   refine⟨_,rfl,DM true F c48,hs4,?_⟩
   refine cL ?_ ?_
   ·skip
    refine bq rfl gn rfl (ba (v:=(vs a10 p1.Where.length c13)) rfl et KD rfl (LU (hI.blk .p7) rfl)) LW ?_
    exact bc (hk_tr_parser_reader_prog_w_17_0 (a25,c45,a26,c46,c48) _ (hI.arr GO SU)) SB
   refine vl hI aM ([r7]:List aX) tt (.cs ⟨a25,c45,rfl,hI.get .z⟩ .nl) λb5 c49 w17 hI=>?_
   refine bq rfl gn rfl (ba (v:=(vs a10 p1.Where.length c13)) rfl et KD rfl (LU (hI.blk .p8) rfl)) LW ?_
   exact bc (hk_tr_parser_reader_prog_w_17_1 (a25,c45,a26,c46,b5,c49) _ (hI.arr GO SU)) SB
  refine TC (λhb h=>?_) λhb h=>?_
  ·rcases eU h with⟨⟨r8,s5⟩,hx7,h⟩ | ⟨pa_,pn_,hx7,hp_⟩
   rotate_left
   ·subst hp_
    refine aJ [3,5,7] false (.c (0,.q) (.c (2,.q) (.two 1 (.c (3,.s) dq) 3 (.two 1 dq 4 (.c (1,.s) eI))))) hI (by kernel_rfl) (by kernel_rfl) ?_
    intro w30 hI
    refine V ?_
    refine cL ?_ ?_
    ·skip
     refine bq rfl gn rfl (ba (v:=(vs a11 p1.Params.length c14)) rfl et KB rfl (LU (hI.blk .p7) rfl)) LW ?_
     refine bK (F:=F) (C:=c34) rfl rfl ?_
     obtain⟨c55,f5,hB,hl5,hk5⟩:=hI.hands (.l (.r (.r (.r (.r (.r (.r (.r .n))))))))
     refine fB rfl gn rfl (aD (vs:=[vp b1 0]) rfl AQ ⟨et,ah⟩) (Calls.mono (je HS hx7) ?_)
     intro e_ w_ hq_;obtain⟨rfl,C_,hB_⟩:=cW hq_;obtain⟨C9_,-,hI_⟩:=hk5 _ _ _ _ hB_;exact .inr ⟨_,rfl,gc (.inr ⟨_,_,rfl,rfl,_,hI_.arr .n trivial⟩)⟩
    refine bB (F:=F) (C:=c34) rfl rfl ?_
    obtain⟨c55,f5,hB,hl5,hk5⟩:=hI.hands (.l (.r (.r (.r (.r (.r (.r (.r .n))))))))
    refine fB rfl gn rfl (aD (vs:=[vp b1 0]) rfl AQ ⟨et,ah⟩) (Calls.mono (je HS hx7) ?_)
    intro e_ w_ hq_;obtain⟨rfl,C_,hB_⟩:=cW hq_;obtain⟨C9_,-,hI_⟩:=hk5 _ _ _ _ hB_;exact .inr ⟨_,rfl,gc (.inr ⟨_,_,rfl,rfl,_,hI_.arr .n trivial⟩)⟩
   try dsimp only at h
   obtain⟨zs3,hx8,h⟩:=ae h
   refine aJ [3,5,7] false (.c (0,.q) (.c (2,.q) (.two 1 (.c (3,.s) dq) 3 (.two 1 dq 4 (.c (1,.s) eI))))) hI (by kernel_rfl) (by kernel_rfl) ?_
   intro w31 hI
   refine bT (α:=(Option Addr)×Nat×(Option Addr)×Nat×Nat×NP) (T:=eI) (λx=>[(0,vp b1 0),(2,vp b2 0),(3,vp b3 0),(40,vs a11 p1.Params.length c14),(43,(vs (some ⟨(x.2.2.2.2.1),0,none⟩) ([r8]:List iz).length 1))]) (λx w=>Bun C0 F w0 (x.2.2.2.2.2) w [LV cn 95 (some ⟨(x.2.2.2.2.1),0,none⟩) 1 ([r8]:List iz),MO.box b1 67 (ai s5 (x.2.2.1) (x.2.2.2.1)),LV bk 9 a9 c12 p1.Sizes,LV aM 107 a10 c13 p1.Where,LV cn 95 a11 c14 p1.Params,LV gk 100 a12 c15 p1.Defs,LV bk 9 a13 c16 p1.Outs,MO.box b2 55 j3,MO.box b3 55 (iY p1 a9 c12 a10 c13 a11 c14 a12 c15 a13 c16)] [LT dQ (x.1) (x.2.1) r8.Dims,LT af (x.2.2.1) (x.2.2.2.1) s5.l,LT af a21 c32 s2.l,LT bk (some ⟨b4,0,none⟩) 5 HQ,LT af a8 c11 r2.l,aA]) (λx w=>SN [] (DM true F (x.2.2.2.2.2)) w) ?_ ?_
   ·clear hI;rintro⟨a28,c56,a29,c57,b6,c65⟩ w29 hI
    try dsimp only at hI ⊢
    unfold eI
    refine nr (xs:=p1.Params) (ys:=([r8]:List iz)) hI .p4 (hI.rd .z) hx8 rfl gn rfl rfl KB vu rfl rfl et et ?_
    intro a30 c61 c62 w26 hI
    refine V ?_
    refine vS λc63 w27 hI=>?_
    refine oY ?_
    exact bu (s5,(⟨p1.Sizes,p1.Where,zs3,p1.Defs,p1.Outs⟩:bI),a29,c57,a9,c12,a10,c13,a30,c61,a12,c15,a13,c16) SB ⟨_,hI.arr GO SU,h⟩ rfl
   intro hk_tr_parser_reader_prog_w_18_1
   refine bT (α:=(Option Addr)×Nat×(Option Addr)×Nat×NP) (T:=dq) (λx=>[(0,vp b1 0),(2,vp b2 0),(3,vp b3 0),(40,vs a11 p1.Params.length c14),(42,(Value.agg (Eg r8 (x.1) (x.2.1))))]) (λx w=>Bun C0 F w0 (x.2.2.2.2) w [MO.box b1 67 (ai s5 (x.2.2.1) (x.2.2.2.1)),LV bk 9 a9 c12 p1.Sizes,LV aM 107 a10 c13 p1.Where,LV cn 95 a11 c14 p1.Params,LV gk 100 a12 c15 p1.Defs,LV bk 9 a13 c16 p1.Outs,MO.box b2 55 j3,MO.box b3 55 (iY p1 a9 c12 a10 c13 a11 c14 a12 c15 a13 c16)] [LT dQ (x.1) (x.2.1) r8.Dims,LT af (x.2.2.1) (x.2.2.2.1) s5.l,LT af a21 c32 s2.l,LT bk (some ⟨b4,0,none⟩) 5 HQ,LT af a8 c11 r2.l,aA]) (λx w=>SN [] (DM true F (x.2.2.2.2)) w) ?_ ?_
   ·clear hI;rintro⟨a28,c56,a29,c57,c64⟩ w28 hI
    try dsimp only at hI ⊢
    unfold dq
    refine vl hI cn ([r8]:List iz) vu (.cs ⟨a28,c56,rfl,hI.get .z⟩ .nl) λb6 c60 w25 hI=>?_
    exact bc (hk_tr_parser_reader_prog_w_18_1 (a28,c56,a29,c57,b6,c60) _ (hI.arr GO SU)) SB
   intro hk_tr_parser_reader_prog_w_18_0
   refine V ?_
   refine cL ?_ ?_
   ·skip
    refine bq rfl gn rfl (ba (v:=(vs a11 p1.Params.length c14)) rfl et KB rfl (LU (hI.blk .p7) rfl)) LW ?_
    refine bK (F:=F) (C:=c34) rfl rfl ?_
    obtain⟨c55,f5,hB,hl5,hk5⟩:=hI.hands (.l (.r (.r (.r (.r (.r (.r (.r .n))))))))
    refine fA rfl gn rfl (aD (vs:=[vp b1 0]) rfl AQ ⟨et,ah⟩) (Calls.mono (je HS hx7) ?_)
    intro e_ w24 hq_;obtain⟨a28,c56,a29,c57,c58,rfl,hB2⟩:=cV hq_
    obtain⟨c59,hs5,hI⟩:=hk5 _ _ _ _ hB2
    dsimp only[ca,na]at hI
    refine⟨_,rfl,DM true F c59,hs5,?_⟩
    exact bc (hk_tr_parser_reader_prog_w_18_0 (a28,c56,a29,c57,c59) _ (hI.arr GO SU)) SB
   refine bB (F:=F) (C:=c34) rfl rfl ?_
   obtain⟨c55,f5,hB,hl5,hk5⟩:=hI.hands (.l (.r (.r (.r (.r (.r (.r (.r .n))))))))
   refine fA rfl gn rfl (aD (vs:=[vp b1 0]) rfl AQ ⟨et,ah⟩) (Calls.mono (je HS hx7) ?_)
   intro e_ w24 hq_;obtain⟨a28,c56,a29,c57,c58,rfl,hB2⟩:=cV hq_
   obtain⟨c59,hs5,hI⟩:=hk5 _ _ _ _ hB2
   dsimp only[ca,na]at hI
   refine⟨_,rfl,DM true F c59,hs5,?_⟩
   refine cL ?_ ?_
   ·skip
    refine bq rfl gn rfl (ba (v:=(vs a11 p1.Params.length c14)) rfl et KB rfl (LU (hI.blk .p7) rfl)) LW ?_
    exact bc (hk_tr_parser_reader_prog_w_18_0 (a28,c56,a29,c57,c59) _ (hI.arr GO SU)) SB
   refine vl hI cn ([r8]:List iz) vu (.cs ⟨a28,c56,rfl,hI.get .z⟩ .nl) λb6 c60 w25 hI=>?_
   refine bq rfl gn rfl (ba (v:=(vs a11 p1.Params.length c14)) rfl et KB rfl (LU (hI.blk .p8) rfl)) LW ?_
   exact bc (hk_tr_parser_reader_prog_w_18_1 (a28,c56,a29,c57,b6,c60) _ (hI.arr GO SU)) SB
  refine TC (λhb h=>?_) λhb h=>?_
  ·rcases eU h with⟨⟨r9,s6⟩,hx9,h⟩ | ⟨pa_,pn_,hx9,hp_⟩
   rotate_left
   ·subst hp_
    refine aJ [3,5,7] false (.c (0,.q) (.c (2,.q) (.two 1 (.c (3,.s) dp) 3 (.two 1 dp 4 (.c (1,.s) eH))))) hI (by kernel_rfl) (by kernel_rfl) ?_
    intro w38 hI
    refine V ?_
    refine cL ?_ ?_
    ·skip
     refine bq rfl gn rfl (ba (v:=(vs a12 p1.Defs.length c15)) rfl et KA rfl (LU (hI.blk .p7) rfl)) LW ?_
     refine bK (F:=F) (C:=c34) rfl rfl ?_
     obtain⟨c66,f6,hB,hl6,hk6⟩:=hI.hands (.l (.r (.r (.r (.r (.r (.r (.r .n))))))))
     refine fB rfl gn rfl (aD (vs:=[vp b1 0]) rfl AP ⟨et,ah⟩) (Calls.mono (j1 HS hx9) ?_)
     intro e_ w_ hq_;obtain⟨rfl,C_,hB_⟩:=cW hq_;obtain⟨C9_,-,hI_⟩:=hk6 _ _ _ _ hB_;exact .inr ⟨_,rfl,gc (.inr ⟨_,_,rfl,rfl,_,hI_.arr .n trivial⟩)⟩
    refine bB (F:=F) (C:=c34) rfl rfl ?_
    obtain⟨c66,f6,hB,hl6,hk6⟩:=hI.hands (.l (.r (.r (.r (.r (.r (.r (.r .n))))))))
    refine fB rfl gn rfl (aD (vs:=[vp b1 0]) rfl AP ⟨et,ah⟩) (Calls.mono (j1 HS hx9) ?_)
    intro e_ w_ hq_;obtain⟨rfl,C_,hB_⟩:=cW hq_;obtain⟨C9_,-,hI_⟩:=hk6 _ _ _ _ hB_;exact .inr ⟨_,rfl,gc (.inr ⟨_,_,rfl,rfl,_,hI_.arr .n trivial⟩)⟩
   try dsimp only at h
   obtain⟨zs4,hx10,h⟩:=ae h
   refine aJ [3,5,7] false (.c (0,.q) (.c (2,.q) (.two 1 (.c (3,.s) dp) 3 (.two 1 dp 4 (.c (1,.s) eH))))) hI (by kernel_rfl) (by kernel_rfl) ?_
   intro w39 hI
   refine bT (α:=(Option Addr)×Nat×(Option Addr)×Nat×(Option Addr)×Nat×(Option Addr)×Nat×(Option Addr)×Nat×(Option Addr)×Nat×Nat×NP) (T:=eH) (λx=>[(0,vp b1 0),(2,vp b2 0),(3,vp b3 0),(49,vs a12 p1.Defs.length c15),(52,(vs (some ⟨(x.2.2.2.2.2.2.2.2.2.2.2.2.1),0,none⟩) ([r9]:List eF).length 1))]) (λx w=>Bun C0 F w0 (x.2.2.2.2.2.2.2.2.2.2.2.2.2) w [LV gk 100 (some ⟨(x.2.2.2.2.2.2.2.2.2.2.2.2.1),0,none⟩) 1 ([r9]:List eF),MO.box b1 67 (ai s6 (x.2.2.2.2.2.2.2.2.2.2.1) (x.2.2.2.2.2.2.2.2.2.2.2.1)),LV bk 9 a9 c12 p1.Sizes,LV aM 107 a10 c13 p1.Where,LV cn 95 a11 c14 p1.Params,LV gk 100 a12 c15 p1.Defs,LV bk 9 a13 c16 p1.Outs,MO.box b2 55 j3,MO.box b3 55 (iY p1 a9 c12 a10 c13 a11 c14 a12 c15 a13 c16)] [LT cc (x.1) (x.2.1) r9.Dims,LT cc (x.2.2.1) (x.2.2.2.1) r9.Red,LT aj (x.2.2.2.2.1) (x.2.2.2.2.2.1) r9.Body.Lin.L,LT an (x.2.2.2.2.2.2.1) (x.2.2.2.2.2.2.2.1) r9.Body.Idx,LT ap (x.2.2.2.2.2.2.2.2.1) (x.2.2.2.2.2.2.2.2.2.1) r9.Body.Args,LT af (x.2.2.2.2.2.2.2.2.2.2.1) (x.2.2.2.2.2.2.2.2.2.2.2.1) s6.l,LT af a21 c32 s2.l,LT bk (some ⟨b4,0,none⟩) 5 HQ,LT af a8 c11 r2.l,aA]) (λx w=>SN [] (DM true F (x.2.2.2.2.2.2.2.2.2.2.2.2.2)) w) ?_ ?_
   ·clear hI;rintro⟨a31,c67,a32,c68,a33,c69,a34,c70,a35,c71,a36,c72,b7,c80⟩ w37 hI
    try dsimp only at hI ⊢
    unfold eH
    refine nr (xs:=p1.Defs) (ys:=([r9]:List eF)) hI .p5 (hI.rd .z) hx10 rfl gn rfl rfl KA tu rfl rfl et et ?_
    intro a37 c76 c77 w34 hI
    refine V ?_
    refine vS λc78 w35 hI=>?_
    refine oY ?_
    exact bu (s6,(⟨p1.Sizes,p1.Where,p1.Params,zs4,p1.Outs⟩:bI),a36,c72,a9,c12,a10,c13,a11,c14,a37,c76,a13,c16) SB ⟨_,hI.arr GO SU,h⟩ rfl
   intro hk_tr_parser_reader_prog_w_19_1
   refine bT (α:=(Option Addr)×Nat×(Option Addr)×Nat×(Option Addr)×Nat×(Option Addr)×Nat×(Option Addr)×Nat×(Option Addr)×Nat×NP) (T:=dp) (λx=>[(0,vp b1 0),(2,vp b2 0),(3,vp b3 0),(49,vs a12 p1.Defs.length c15),(51,(Value.agg (ul r9 (x.1) (x.2.1) (x.2.2.1) (x.2.2.2.1) (x.2.2.2.2.1) (x.2.2.2.2.2.1) (x.2.2.2.2.2.2.1) (x.2.2.2.2.2.2.2.1) (x.2.2.2.2.2.2.2.2.1) (x.2.2.2.2.2.2.2.2.2.1))))]) (λx w=>Bun C0 F w0 (x.2.2.2.2.2.2.2.2.2.2.2.2) w [MO.box b1 67 (ai s6 (x.2.2.2.2.2.2.2.2.2.2.1) (x.2.2.2.2.2.2.2.2.2.2.2.1)),LV bk 9 a9 c12 p1.Sizes,LV aM 107 a10 c13 p1.Where,LV cn 95 a11 c14 p1.Params,LV gk 100 a12 c15 p1.Defs,LV bk 9 a13 c16 p1.Outs,MO.box b2 55 j3,MO.box b3 55 (iY p1 a9 c12 a10 c13 a11 c14 a12 c15 a13 c16)] [LT cc (x.1) (x.2.1) r9.Dims,LT cc (x.2.2.1) (x.2.2.2.1) r9.Red,LT aj (x.2.2.2.2.1) (x.2.2.2.2.2.1) r9.Body.Lin.L,LT an (x.2.2.2.2.2.2.1) (x.2.2.2.2.2.2.2.1) r9.Body.Idx,LT ap (x.2.2.2.2.2.2.2.2.1) (x.2.2.2.2.2.2.2.2.2.1) r9.Body.Args,LT af (x.2.2.2.2.2.2.2.2.2.2.1) (x.2.2.2.2.2.2.2.2.2.2.2.1) s6.l,LT af a21 c32 s2.l,LT bk (some ⟨b4,0,none⟩) 5 HQ,LT af a8 c11 r2.l,aA]) (λx w=>SN [] (DM true F (x.2.2.2.2.2.2.2.2.2.2.2.2)) w) ?_ ?_
   ·clear hI;rintro⟨a31,c67,a32,c68,a33,c69,a34,c70,a35,c71,a36,c72,c79⟩ w36 hI
    try dsimp only at hI ⊢
    unfold dp
    refine vl hI gk ([r9]:List eF) tu (.cs ⟨a31,c67,a32,c68,a33,c69,a34,c70,a35,c71,rfl,hI.get .z,hI.get .p1,hI.get .p2,hI.get .p3,hI.get .p4⟩ .nl) λb7 c75 w33 hI=>?_
    exact bc (hk_tr_parser_reader_prog_w_19_1 (a31,c67,a32,c68,a33,c69,a34,c70,a35,c71,a36,c72,b7,c75) _ (hI.arr GO SU)) SB
   intro hk_tr_parser_reader_prog_w_19_0
   refine V ?_
   refine cL ?_ ?_
   ·skip
    refine bq rfl gn rfl (ba (v:=(vs a12 p1.Defs.length c15)) rfl et KA rfl (LU (hI.blk .p7) rfl)) LW ?_
    refine bK (F:=F) (C:=c34) rfl rfl ?_
    obtain⟨c66,f6,hB,hl6,hk6⟩:=hI.hands (.l (.r (.r (.r (.r (.r (.r (.r .n))))))))
    refine fA rfl gn rfl (aD (vs:=[vp b1 0]) rfl AP ⟨et,ah⟩) (Calls.mono (j1 HS hx9) ?_)
    intro e_ Dq hq_;obtain⟨a31,c67,a32,c68,a33,c69,a34,c70,a35,c71,a36,c72,c73,rfl,hB2⟩:=cV hq_
    obtain⟨c74,hs6,hI⟩:=hk6 _ _ _ _ hB2
    dsimp only[ca,na]at hI
    refine⟨_,rfl,DM true F c74,hs6,?_⟩
    exact bc (hk_tr_parser_reader_prog_w_19_0 (a31,c67,a32,c68,a33,c69,a34,c70,a35,c71,a36,c72,c74) _ (hI.arr GO SU)) SB
   refine bB (F:=F) (C:=c34) rfl rfl ?_
   obtain⟨c66,f6,hB,hl6,hk6⟩:=hI.hands (.l (.r (.r (.r (.r (.r (.r (.r .n))))))))
   refine fA rfl gn rfl (aD (vs:=[vp b1 0]) rfl AP ⟨et,ah⟩) (Calls.mono (j1 HS hx9) ?_)
   intro e_ Dq hq_;obtain⟨a31,c67,a32,c68,a33,c69,a34,c70,a35,c71,a36,c72,c73,rfl,hB2⟩:=cV hq_
   obtain⟨c74,hs6,hI⟩:=hk6 _ _ _ _ hB2
   dsimp only[ca,na]at hI
   refine⟨_,rfl,DM true F c74,hs6,?_⟩
   refine cL ?_ ?_
   ·skip
    refine bq rfl gn rfl (ba (v:=(vs a12 p1.Defs.length c15)) rfl et KA rfl (LU (hI.blk .p7) rfl)) LW ?_
    exact bc (hk_tr_parser_reader_prog_w_19_0 (a31,c67,a32,c68,a33,c69,a34,c70,a35,c71,a36,c72,c74) _ (hI.arr GO SU)) SB
   refine vl hI gk ([r9]:List eF) tu (.cs ⟨a31,c67,a32,c68,a33,c69,a34,c70,a35,c71,rfl,hI.get .z,hI.get .p1,hI.get .p2,hI.get .p3,hI.get .p4⟩ .nl) λb7 c75 w33 hI=>?_
   refine bq rfl gn rfl (ba (v:=(vs a12 p1.Defs.length c15)) rfl et KA rfl (LU (hI.blk .p8) rfl)) LW ?_
   exact bc (hk_tr_parser_reader_prog_w_19_1 (a31,c67,a32,c68,a33,c69,a34,c70,a35,c71,a36,c72,b7,c75) _ (hI.arr GO SU)) SB
  refine TC (λhb h=>?_) λhb h=>?_
  ·rcases eU h with⟨⟨r10,s7⟩,hx11,h⟩ | ⟨pa_,pn_,hx11,hp_⟩
   rotate_left
   ·subst hp_
    refine aJ [3,4,6] false (.c (0,.q) (.c (2,.q) (.two 1 (.c (3,.s) dn) 3 (.c (1,.s) dn)))) hI (by kernel_rfl) (by kernel_rfl) ?_
    intro w44 hI
    refine V ?_
    refine cL ?_ ?_
    ·skip
     refine bq rfl gn rfl (ba (v:=(vs a13 p1.Outs.length c16)) rfl et zY rfl (LU (hI.blk .p7) rfl)) LW ?_
     refine bK (F:=F) (C:=c34) rfl rfl ?_
     obtain⟨c81,f7,hB,hl7,hk7⟩:=hI.hands (.l (.r (.r (.r (.r (.r (.r (.r .n))))))))
     refine fB rfl gn rfl (aD (vs:=[vp b1 0]) rfl wM ⟨et,ah⟩) (Calls.mono (dg HS hx11) ?_)
     intro e_ w_ hq_;obtain⟨rfl,C_,hB_⟩:=cW hq_;obtain⟨C9_,-,hI_⟩:=hk7 _ _ _ _ hB_;exact .inr ⟨_,rfl,gc (.inr ⟨_,_,rfl,rfl,_,hI_.arr .n trivial⟩)⟩
    refine bB (F:=F) (C:=c34) rfl rfl ?_
    obtain⟨c81,f7,hB,hl7,hk7⟩:=hI.hands (.l (.r (.r (.r (.r (.r (.r (.r .n))))))))
    refine fB rfl gn rfl (aD (vs:=[vp b1 0]) rfl wM ⟨et,ah⟩) (Calls.mono (dg HS hx11) ?_)
    intro e_ w_ hq_;obtain⟨rfl,C_,hB_⟩:=cW hq_;obtain⟨C9_,-,hI_⟩:=hk7 _ _ _ _ hB_;exact .inr ⟨_,rfl,gc (.inr ⟨_,_,rfl,rfl,_,hI_.arr .n trivial⟩)⟩
   try dsimp only at h
   obtain⟨zs5,hx12,h⟩:=ae h
   refine aJ [3,4,6] false (.c (0,.q) (.c (2,.q) (.two 1 (.c (3,.s) dn) 3 (.c (1,.s) dn)))) hI (by kernel_rfl) (by kernel_rfl) ?_
   intro w45 hI
   refine bT (α:=(Option Addr)×Nat×(Option Addr)×Nat×NP) (T:=dn) (λx=>[(0,vp b1 0),(2,vp b2 0),(3,vp b3 0),(58,vs a13 p1.Outs.length c16),(60,vs (x.1) r10.length (x.2.1))]) (λx w=>Bun C0 F w0 (x.2.2.2.2) w [MO.box b1 67 (ai s7 (x.2.2.1) (x.2.2.2.1)),LV bk 9 a9 c12 p1.Sizes,LV aM 107 a10 c13 p1.Where,LV cn 95 a11 c14 p1.Params,LV gk 100 a12 c15 p1.Defs,LV bk 9 a13 c16 p1.Outs,MO.box b2 55 j3,MO.box b3 55 (iY p1 a9 c12 a10 c13 a11 c14 a12 c15 a13 c16)] [LT bk (x.1) (x.2.1) r10,LT af (x.2.2.1) (x.2.2.2.1) s7.l,LT af a21 c32 s2.l,LT bk (some ⟨b4,0,none⟩) 5 HQ,LT af a8 c11 r2.l,aA]) (λx w=>SN [] (DM true F (x.2.2.2.2)) w) ?_ ?_
   ·clear hI;rintro⟨a38,c82,a39,c83,c89⟩ w43 hI
    try dsimp only at hI ⊢
    unfold dn
    refine nr (xs:=p1.Outs) (ys:=r10) hI .p5 (hI.crd .z) hx12 rfl gn rfl rfl zY gK rfl rfl et et ?_
    intro a40 c86 c87 w41 hI
    refine V ?_
    refine vS λc88 w42 hI=>?_
    refine oY ?_
    exact bu (s7,(⟨p1.Sizes,p1.Where,p1.Params,p1.Defs,zs5⟩:bI),a39,c83,a9,c12,a10,c13,a11,c14,a12,c15,a40,c86) SB ⟨_,hI.arr GO SU,h⟩ rfl
   intro hk_tr_parser_reader_prog_w_20_0
   refine V ?_
   refine cL ?_ ?_
   ·skip
    refine bq rfl gn rfl (ba (v:=(vs a13 p1.Outs.length c16)) rfl et zY rfl (LU (hI.blk .p7) rfl)) LW ?_
    refine bK (F:=F) (C:=c34) rfl rfl ?_
    obtain⟨c81,f7,hB,hl7,hk7⟩:=hI.hands (.l (.r (.r (.r (.r (.r (.r (.r .n))))))))
    refine fA rfl gn rfl (aD (vs:=[vp b1 0]) rfl wM ⟨et,ah⟩) (Calls.mono (dg HS hx11) ?_)
    intro e_ w40 hq_;obtain⟨a38,c82,a39,c83,c84,rfl,hB2⟩:=cV hq_
    obtain⟨c85,hs7,hI⟩:=hk7 _ _ _ _ hB2
    dsimp only[ca,na]at hI
    refine⟨_,rfl,DM true F c85,hs7,?_⟩
    exact bc (hk_tr_parser_reader_prog_w_20_0 (a38,c82,a39,c83,c85) _ (hI.arr GO SU)) SB
   refine bB (F:=F) (C:=c34) rfl rfl ?_
   obtain⟨c81,f7,hB,hl7,hk7⟩:=hI.hands (.l (.r (.r (.r (.r (.r (.r (.r .n))))))))
   refine fA rfl gn rfl (aD (vs:=[vp b1 0]) rfl wM ⟨et,ah⟩) (Calls.mono (dg HS hx11) ?_)
   intro e_ w40 hq_;obtain⟨a38,c82,a39,c83,c84,rfl,hB2⟩:=cV hq_
   obtain⟨c85,hs7,hI⟩:=hk7 _ _ _ _ hB2
   dsimp only[ca,na]at hI
   refine⟨_,rfl,DM true F c85,hs7,?_⟩
   refine bq rfl gn rfl (ba (v:=(vs a13 p1.Outs.length c16)) rfl et zY rfl (LU (hI.blk .p7) rfl)) LW ?_
   exact bc (hk_tr_parser_reader_prog_w_20_0 (a38,c82,a39,c83,c85) _ (hI.arr GO SU)) SB
  refine T ?_
  obtain⟨c90,f8,hB,hl8,hk8⟩:=hI.hands (.l (.r (.r (.r (.r (.r (.r (.r .n))))))))
  refine dC h (λ_ hx13=>cB HS hx13) (kD hk8) (Rc Tryz.func103) ?_
  rintro⟨r11,s8⟩ hx13 h _ w46 ⟨a41,c91,c92,rfl,hB2⟩
  try dsimp only at h
  refine HN hk8 hB2 λc93 hI=>?_
  refine⟨_,rfl,?_⟩
  refine aO ?_
  exact bu (s8,p1,a41,c91,a9,c12,a10,c13,a11,c14,a12,c15,a13,c16) SB ⟨_,hI.arr GO SU,h⟩ rfl
 refine bv ?_
 refine fi ?_
 refine bh ?_
 refine T ?_
 refine lA λc94 w47 hI=>?_
 refine nk (aF ?_)
 obtain⟨c95,hI⟩:=hI.release .z
 obtain⟨c96,hI⟩:=hI.release .z
 obtain⟨c97,hI⟩:=hI.release .z
 obtain⟨c98,hI⟩:=hI.release .z
 obtain⟨c99,hI⟩:=hI.release .z
 obtain rfl:=ak h
 refine QG ?_
 exact .inl ⟨_,rfl,a9,c12,a10,c13,a11,c14,a12,c15,a13,c16,a8,c11,_,rfl,hI.arr GO SU⟩
theorem qr {a1:aa} {a3:bI} (hI:Bun C0 F w0 C0 w0 [MO.box b2 67 (ai a1 a2 c1),MO.box b3 55 (iY a3 a4 c2 a5 c3 a6 c4 a7 c5 a8 c6)] [LT af a2 c1 a1.l,Cl.blk b1 65 #[vp b2 0],LT bk a4 c2 a3.Sizes,LT aM a5 c3 a3.Where,LT cn a6 c4 a3.Params,LT gk a7 c5 a3.Defs,LT bk a8 c6 a3.Outs,aA]) {r:bL (Unit×aa×bI)} (h:lI a1 a3=some r):CP C0 F w0 49 #[vp b1 0,vp b3 0] r λrx e w=>∃ a9 c7 a10 c8 a11 c9 a12 c10 a13 c11 a14 c12 C,e= .returned (Value.tuple #[])∧Bun C0 F w0 C w [MO.box b2 67 (ai rx.2.1 a9 c7),MO.box b3 55 (iY rx.2.2 a10 c8 a11 c9 a12 c10 a13 c11 a14 c12)] [LT af a9 c7 rx.2.1.l,LT bk a10 c8 rx.2.2.Sizes,LT aM a11 c9 rx.2.2.Where,LT cn a12 c10 rx.2.2.Params,LT gk a13 c11 rx.2.2.Defs,LT bk a14 c12 rx.2.2.Outs]:=by
 refine fJ (l:=[vp b1 0,vp b3 0]) Tryz.func49 rfl Tryz.ntmps49 rfl ?_
 rw[lI]at h
 refine T ?_
 obtain⟨c13,f1,hB,hl1,hk1⟩:=hI.hands (.l (.r .n))
 refine dC h (λ_ hx1=>sc HS hx1) (kD hk1) (Rc Tryz.func50) ?_
 rintro⟨r1,s1⟩ hx1 h _ w1 ⟨a15,c14,a16,c15,a17,c16,a18,c17,a19,c18,a20,c19,c20,rfl,hB2⟩
 try dsimp only at h
 refine HN hk1 hB2 λc21 hI=>?_
 refine⟨_,rfl,?_⟩
 refine lA λc22 w2 hI=>?_
 refine aO ?_
 obtain rfl:=ak h
 refine QG ?_
 exact .inl ⟨_,rfl,a20,c19,a15,c14,a16,c15,a17,c16,a18,c17,a19,c18,_,rfl,hI.arr GO SU⟩
theorem zG (hF:dK F w0) {s1:List UInt8} (hc:AllCl [aA] F w0) {r:bI×Int×Int} (h:nM s1=some r):Cg 24 #[(aT s1)] w0 λe w=>∃ a1 c1 a2 c2 a3 c3 a4 c4 a5 c5,e= .returned (Value.tuple #[(Value.agg (iY r.1 a1 c1 a2 c2 a3 c3 a4 c4 a5 c5)),vi r.2.1,vi r.2.2])∧Ext w0 w∧AllCl [LT bk a1 c1 r.1.Sizes,LT aM a2 c2 r.1.Where,LT cn a3 c3 r.1.Params,LT gk a4 c4 r.1.Defs,LT bk a5 c5 r.1.Outs] F w:=by
 refine EN Tryz.func24 Tryz.ntmps24 hF hc λhI=>?_
 rw[nM]at h
 refine sr (dl (cs:=j3) hI gn rfl rfl Ar rfl ?_)
 intro b1 c6 w1 hI
 refine T ?_
 obtain⟨r1,hx1,h⟩:=ae h
 refine aw gn rfl (Rc Tryz.func39) (Calls.mono (rD hI.lt ah hx1) ?_)
 rintro _ w2 ⟨a6,c7,rfl,hx2,hl1⟩
 refine⟨_,rfl,?_⟩
 replace hI:=(hI.ext hx2).adds hl1;dsimp only[ca,na]at hI
 refine T ?_
 refine al (T ?_)
 refine TC (λhb h=>?_) λhb h=>?_
 ·refine sr (sq (aC (vs:=[]) (cs:=j3) rfl trivial (by kernel_rfl)) ?_)
  refine T ?_
  refine lA λc8 w3 hI=>?_
  refine T ?_
  refine aF ?_
  have hI:=hI.add (c:=LT bk none 0 ([]:List (List UInt8))) SlC.nil
  have hI:=hI.add (c:=LT aM none 0 ([]:List aX)) SlC.nil
  have hI:=hI.add (c:=LT cn none 0 ([]:List iz)) SlC.nil
  have hI:=hI.add (c:=LT gk none 0 ([]:List eF)) SlC.nil
  obtain rfl:=ak h
  refine QG ?_
  exact⟨none,0,none,0,none,0,none,0,none,0,rfl,hI.ext0,hI.fin ⟨.p3,.p2,.p1,.z,.p3,ah⟩⟩
 refine T ?_
 refine sq (aC (vs:=[(0,vs a6 r1.1.length c7)]) (cs:=#[vs a6 r1.1.length c7,vi 0,vi 0]) rfl ⟨rfl,et,ah⟩ (by kernel_rfl)) ?_
 refine kL (v:=(Value.agg #[vs a6 r1.1.length c7,vi 0,vi 0])) (cs:=#[vs a6 r1.1.length c7,vi 0,vi 0]) hI gn rfl rfl et rfl ?_
 intro b2 c9 w4 hI
 refine lN λb3 c10 w5 hI=>?_
 refine lS λc11 w6 hI=>?_
 refine T ?_
 refine sq (aC (vs:=[]) (cs:=j3) rfl trivial (by kernel_rfl)) ?_
 refine lN λb4 c12 w7 hI=>?_
 refine lA λc13 w8 hI=>?_
 refine nk (al (sr (sq (nW (vs:=[]) (cap:=[vp b3 0,vp b4 0]) rfl rfl ⟨et,et,ah⟩) ?_)))
 obtain⟨c14,hI⟩:=hI.relBox .p1
 have hI:=hI.add (c:=LT bk none 0 ([]:List (List UInt8))) SlC.nil
 have hI:=hI.add (c:=LT aM none 0 ([]:List aX)) SlC.nil
 have hI:=hI.add (c:=LT cn none 0 ([]:List iz)) SlC.nil
 have hI:=hI.add (c:=LT gk none 0 ([]:List eF)) SlC.nil
 obtain⟨c15,f1,hB,hl2,hk1⟩:=hI.hands (.l (.l (.r .n)))
 replace hB:=hB.ord (.c .p1 (.c .z .n))
 rcases th h with⟨⟨r2,s2,s3⟩,hx3,h⟩ | ⟨pa1,pn1,hx3,hn1,h⟩
 ·skip
  try dsimp only at h
  refine aw gn rfl (Rc Tryz.func29) (Calls.mono (sj (β:=(Option Addr)×Nat×(Option Addr)×Nat×(Option Addr)×Nat×(Option Addr)×Nat×(Option Addr)×Nat×(Option Addr)×Nat) (λx=>[MO.box b2 67 (ai s2 (x.1) (x.2.1)),MO.box b4 55 (iY s3 (x.2.2.1) (x.2.2.2.1) (x.2.2.2.2.1) (x.2.2.2.2.2.1) (x.2.2.2.2.2.2.1) (x.2.2.2.2.2.2.2.1) (x.2.2.2.2.2.2.2.2.1) (x.2.2.2.2.2.2.2.2.2.1) (x.2.2.2.2.2.2.2.2.2.2.1) (x.2.2.2.2.2.2.2.2.2.2.2))]) (λx=>[LT af (x.1) (x.2.1) s2.l,LT bk (x.2.2.1) (x.2.2.2.1) s3.Sizes,LT aM (x.2.2.2.2.1) (x.2.2.2.2.2.1) s3.Where,LT cn (x.2.2.2.2.2.2.1) (x.2.2.2.2.2.2.2.1) s3.Params,LT gk (x.2.2.2.2.2.2.2.2.1) (x.2.2.2.2.2.2.2.2.2.1) s3.Defs,LT bk (x.2.2.2.2.2.2.2.2.2.2.1) (x.2.2.2.2.2.2.2.2.2.2.2) s3.Outs]) (cl:=[LT af a6 c7 r1.1,Cl.blk b3 65 #[vp b2 0],LT bk none 0 ([]:List (List UInt8)),LT aM none 0 ([]:List aX),LT cn none 0 ([]:List iz),LT gk none 0 ([]:List eF),LT bk none 0 ([]:List (List UInt8)),aA]) IV (hB.subs ⟨.p5,.p4,.p3,.p2,.p1,.z,.p3,.p6,ah⟩) (λC1_ F1_ w1_ hB_=>(qr hB_ hx3).mono λe_ w_ hq_=>(let ⟨a7,c16,a8,c17,a9,c18,a10,c19,a11,c20,a12,c21,C_,he_,hB2_⟩:=cV hq_;⟨he_,(a7,c16,a8,c17,a9,c18,a10,c19,a11,c20,a12,c21),C_,hB2_⟩))) ?_)
  rintro _ w9 ⟨rfl,⟨a7,c16,a8,c17,a9,c18,a10,c19,a11,c20,a12,c21⟩,c22,hB2⟩
  refine HN hk1 hB2 λc23 hI=>?_
  refine⟨_,rfl,?_⟩
  refine TC (λhb h=>?_) λhb h=>?_
  ·refine sr (sq (aC (vs:=[]) (cs:=j3) rfl trivial (by kernel_rfl)) ?_)
   refine T ?_
   refine sB h (λ_ k=>pT hI.lt FS k) (Rc Tryz.func40) λr3 w10 h hI=>?_
   refine sm ?_
   refine lA λc24 w11 hI=>?_
   refine T ?_
   refine aF ?_
   obtain rfl:=ak h
   refine QG ?_
   exact⟨none,0,none,0,none,0,none,0,none,0,rfl,hI.ext0,hI.fin ⟨.p9,.p8,.p7,.p6,.p9,ah⟩⟩
  refine T ?_
  refine lA λc25 w12 hI=>?_
  refine T ?_
  refine aF ?_
  obtain rfl:=ak h
  refine QG ?_
  exact⟨a8,c17,a9,c18,a10,c19,a11,c20,a12,c21,rfl,hI.ext0,hI.fin ⟨.p1,.p2,.p3,.p4,.p5,ah⟩⟩
 try dsimp only at h
 refine aw gn rfl (Rc Tryz.func29) (Calls.mono (sk (cl:=[LT af a6 c7 r1.1,Cl.blk b3 65 #[vp b2 0],LT bk none 0 ([]:List (List UInt8)),LT aM none 0 ([]:List aX),LT cn none 0 ([]:List iz),LT gk none 0 ([]:List eF),LT bk none 0 ([]:List (List UInt8)),aA]) IV (hB.subs ⟨.p5,.p4,.p3,.p2,.p1,.z,.p3,.p6,ah⟩) (λC1_ F1_ w1_ hB_=>(qr hB_ hx3).mono λe_ w_ hq_=>cW hq_)) ?_)
 rintro _ w13 ⟨rfl,c26,hB2⟩
 refine HN hk1 hB2 λc27 hI=>?_
 refine⟨_,rfl,?_⟩
 have hk2:(!decide (pn1=0))=true:=by simp[hn1]
 refine T ?_
 refine sg (b:= !decide (pn1=0)) et (λ_=>?_) (λhb=>absurd (hb.symm.trans hk2) (by simp))
 refine sr (sq (aC (vs:=[]) (cs:=j3) rfl trivial (by kernel_rfl)) ?_)
 refine T ?_
 refine sB h (λ_ k=>pT hI.lt FS k) (Rc Tryz.func40) λr4 w14 h hI=>?_
 refine sm ?_
 refine lA λc28 w15 hI=>?_
 refine T ?_
 refine aF ?_
 obtain rfl:=ak h
 refine QG ?_
 exact⟨none,0,none,0,none,0,none,0,none,0,rfl,hI.ext0,hI.fin ⟨.p3,.p2,.p1,.z,.p3,ah⟩⟩
def lz:Tr:=(.c (6,.s) .n)
theorem zp (hF:dK F w0) {p1:ab} (hc:AllCl [LT af a1 c1 p1.L] F w0) {r:aX×ab} (h:kF p1=some r):Cg 107 #[(Value.agg (ac p1 a1 c1))] w0 λe w=>∃ a2 c2 a3 c3,e= .returned (Value.tuple #[(Value.agg (m0 r.1 a2 c2)),(Value.agg (ac r.2 a3 c3))])∧Ext w0 w∧AllCl [LT aj a2 c2 r.1.Lin.L,LT af a3 c3 r.2.L] F w:=by
 refine EN Tryz.func107 Tryz.ntmps107 hF hc λhI=>?_
 rw[kF]at h
 refine sr (kL (v:=(Value.agg (ac p1 a1 c1))) (cs:=(ac p1 a1 c1)) hI gn rfl rfl et rfl ?_)
 intro b1 c4 w1 hI
 refine lN λb2 c5 w2 hI=>?_
 refine lN λb3 c6 w3 hI=>?_
 refine nk (al (T ?_))
 obtain⟨e1,hx1,h⟩:=ae h
 replace hx1:=ay hx1
 obtain⟨ad1,cs1,hq1⟩:=hI.gclat .z hx1
 have hq2:((decide (p1.E=0))&& !(decide ((p1.L.length:Int)≤p1.At)))=true→CA (Dj F c6) w3 (ad1.add (Int.toNat p1.At * 3)) (jx e1):=λhc=>sW (hq1 hc).2.1 (hq1 hc).2.2
 refine sJ ?_
 refine T ?_
 obtain⟨e2,hx2,h⟩:=ae h
 replace hx2:=ay hx2
 obtain⟨ad2,cs2,hq3⟩:=hI.gclat .z hx2
 have hq4:((decide (p1.E=0))&& !((decide ((p1.L.length:Int)≤p1.At))||(!decide (e1.Kind=2))))=true→CA (Dj F c6) w3 (ad2.add (Int.toNat p1.At * 3)) (jx e2):=λhc=>sW (hq3 hc).2.1 (hq3 hc).2.2
 refine sJ ?_
 refine TC (λhb h=>?_) λhb h=>?_
 ·refine sr (sq (aC (vs:=[]) (cs:=qO) rfl trivial (by kernel_rfl)) ?_)
  refine T ?_
  obtain⟨r1,hx3,h⟩:=ae h
  refine aw gn rfl (Rc Tryz.func41) (Calls.mono (mf hI.lt FS hx3) ?_)
  rintro _ w4 ⟨a4,c7,rfl,hx4,hl1⟩
  refine⟨_,rfl,?_⟩
  replace hI:=(hI.ext hx4).adds hl1;dsimp only[ca,na]at hI
  refine lA λc8 w5 hI=>?_
  refine lA λc9 w6 hI=>?_
  refine nk (aF ?_)
  have hI:=hI.add (c:=LT aj none 0 ([]:List GMono)) SlC.nil
  obtain rfl:=ak h
  refine QG ?_
  exact⟨none,0,a4,c7,rfl,hI.ext0,hI.fin ⟨.z,.p1,ah⟩⟩
 refine T ?_
 refine lS λc10 w7 hI=>?_
 refine T ?_
 refine ll hI bk ([[61,61],[60,61]]:List (List UInt8)) gK Rr λb4 c11 w8 hI=>?_
 obtain⟨c12,hI⟩:=hI.release .z
 obtain⟨r2,hx5,h⟩:=ae h
 refine aw gn rfl (Rc Tryz.func105) (Calls.mono (lm hI.lt FS hx5) ?_)
 rintro _ w9 ⟨a5,c13,rfl,hx6,hl2⟩
 refine⟨_,rfl,?_⟩
 replace hI:=(hI.ext hx6).adds hl2;dsimp only[ca,na]at hI
 refine T ?_
 refine lA λc14 w10 hI=>?_
 refine T ?_
 obtain⟨r3,hx7,h⟩:=ae h
 refine aw gn rfl (Rc Tryz.func32) (Calls.mono (nt hI.lt FS hx7) ?_)
 rintro _ w11 ⟨a6,c15,a7,c16,rfl,hx8,hl3⟩
 refine⟨_,rfl,?_⟩
 replace hI:=(hI.ext hx8).adds hl3;dsimp only[ca,na]at hI
 refine T ?_
 refine lN λb5 c17 w12 hI=>?_
 refine lA λc18 w13 hI=>?_
 refine lA λc19 w14 hI=>?_
 refine nk (al (aJ [5,6] false (.c (0,.q) (.c (1,.q) (.c (2,.q) (.c (3,.q) (.two 4 (.c (5,.s) lz) 5 (.c (4,.s) lz)))))) hI (by kernel_rfl) (by kernel_rfl) ?_))
 intro w18 hI
 refine bT (α:=NP) (T:=lz) (λx=>[(2,vp b2 0),(3,vp b3 0),(59,(Value.agg (ac r3.2 a7 c16)))]) (λx w=>Bun du F w0 x w [MO.box b5 27 (cx r3.1 a6 c15),MO.box b3 72 av,MO.box b2 107 #[vi r3.1.K,vs a6 r3.1.L.length c15,(vb (decide (r2.1=1)))],MO.box b1 72 (ac r3.2 a7 c16)] [LT aj a6 c15 r3.1.L,LT af a7 c16 r3.2.L,LT af a5 c13 r2.2.L,LT bk (some ⟨b4,0,none⟩) 2 ([[61,61],[60,61]]:List (List UInt8)),LT af a1 c1 p1.L]) (λx w=>SN [] (DM true F x) w) ?_ ?_
 ·clear hI;rintro c22 w17 hI
  try dsimp only at hI ⊢
  unfold lz
  refine vA λc21 w16 hI=>?_
  refine V ?_
  refine aF ?_
  obtain rfl:=ak h
  refine QG ?_
  exact⟨a6,c15,a7,c16,rfl,hI.ext0,hI.fin ⟨.z,.p1,ah⟩⟩
 intro hk_tr_ref16_where_1_0
 refine bR rfl gn rfl (λw' hw'=>(am (l:=(fI r3.1 a6 c15)) rfl et pk rfl bt ((CA.blk (hI.blk .z) rfl).at_ (SX.any rfl hw')))) (by kernel_rfl) ?_
 refine V ?_
 refine nv rfl gn rfl (λw'=>(aC (vs:=[(0,(Value.agg (cx r3.1 a6 c15))),(1,(vb (decide (r2.1=1))))]) (cs:=#[vi r3.1.K,vs a6 r3.1.L.length c15,(vb (decide (r2.1=1)))]) rfl ⟨rfl,et,rfl,et,ah⟩ (by kernel_rfl))) ?_
 refine cL ?_ ?_
 ·skip
  refine bq rfl gn rfl (am (l:=(ag r3.2 a7 c16)) rfl et jO rfl aG (LU (hI.blk .p3) rfl)) LW ?_
  refine bK (F:=F) (C:=c19) rfl rfl ?_
  refine vA λc20 w15 hI=>?_
  exact bc (hk_tr_ref16_where_1_0 c20 _ (hI.arr GO SU)) SB
 refine bB (F:=F) (C:=c19) rfl rfl ?_
 refine vA λc20 w15 hI=>?_
 refine bq rfl gn rfl (am (l:=(ag r3.2 a7 c16)) rfl et jO rfl aG (LU (hI.blk .p3) rfl)) LW ?_
 exact bc (hk_tr_ref16_where_1_0 c20 _ (hI.arr GO SU)) SB
def lB:Tr:=(.c (6,.s) .n)
theorem zq (hF:dK F w0) {p1:ab} (hc:AllCl [LT af a1 c1 p1.L] F w0) {r:iz×ab} (h:l6 p1=some r):Cg 108 #[(Value.agg (ac p1 a1 c1))] w0 λe w=>∃ a2 c2 a3 c3,e= .returned (Value.tuple #[(Value.agg (Eg r.1 a2 c2)),(Value.agg (ac r.2 a3 c3))])∧Ext w0 w∧AllCl [LT dQ a2 c2 r.1.Dims,LT af a3 c3 r.2.L] F w:=by
 refine EN Tryz.func108 Tryz.ntmps108 hF hc λhI=>?_
 rw[l6]at h
 refine sr (kL (v:=(Value.agg (ac p1 a1 c1))) (cs:=(ac p1 a1 c1)) hI gn rfl rfl et rfl ?_)
 intro b1 c4 w1 hI
 refine lN λb2 c5 w2 hI=>?_
 refine lN λb3 c6 w3 hI=>?_
 refine T ?_
 obtain⟨r1,hx1,h⟩:=ae h
 refine aw gn rfl (Rc Tryz.func134) (Calls.mono (jy hI.lt FS hx1) ?_)
 rintro _ w4 ⟨a4,c7,rfl,hx2,hl1⟩
 refine⟨_,rfl,?_⟩
 replace hI:=(hI.ext hx2).adds hl1;dsimp only[ca,na]at hI
 refine T ?_
 refine lA λc8 w5 hI=>?_
 refine T ?_
 obtain⟨r2,hx3,h⟩:=ae h
 refine aw gn rfl (Rc Tryz.func110) (Calls.mono (bn hI.lt FS hx3) ?_)
 rintro _ w6 ⟨a5,c9,rfl,hx4,hl2⟩
 refine⟨_,rfl,?_⟩
 replace hI:=(hI.ext hx4).adds hl2;dsimp only[ca,na]at hI
 obtain⟨r3,hx5,h⟩:=ae h
 refine aw gn rfl (Rc Tryz.func178) (Calls.mono (qK hI.lt FS hx5) ?_)
 rintro _ w7 ⟨a6,c10,rfl,hx6,hl3⟩
 refine⟨_,rfl,?_⟩
 replace hI:=(hI.ext hx6).adds hl3;dsimp only[ca,na]at hI
 refine T ?_
 refine lN λb4 c11 w8 hI=>?_
 refine lA λc12 w9 hI=>?_
 refine lA λc13 w10 hI=>?_
 refine T ?_
 obtain⟨r4,hx7,h⟩:=ae h
 refine aw gn rfl (Rc Tryz.func110) (Calls.mono (bn hI.lt FS hx7) ?_)
 rintro _ w11 ⟨a7,c14,rfl,hx8,hl4⟩
 refine⟨_,rfl,?_⟩
 replace hI:=(hI.ext hx8).adds hl4;dsimp only[ca,na]at hI
 obtain⟨r5,hx9,h⟩:=ae h
 refine aw gn rfl (Rc Tryz.func179) (Calls.mono (uA hI.lt FS hx9) ?_)
 rintro _ w12 ⟨a8,c15,a9,c16,rfl,hx10,hl5⟩
 refine⟨_,rfl,?_⟩
 replace hI:=(hI.ext hx10).adds hl5;dsimp only[ca,na]at hI
 refine T ?_
 refine lA λc17 w13 hI=>?_
 refine nk (al (aJ [5,6] false (.c (0,.q) (.c (1,.q) (.c (2,.q) (.c (3,.q) (.two 4 (.c (5,.s) lB) 5 (.c (4,.s) lB)))))) hI (by kernel_rfl) (by kernel_rfl) ?_))
 intro w17 hI
 refine bT (α:=NP) (T:=lB) (λx=>[(2,vp b2 0),(3,vp b3 0),(28,(Value.agg (ac r5.2 a9 c16)))]) (λx w=>Bun du F w0 x w [MO.box b4 35 (d9 r3.1),MO.box b3 72 av,MO.box b2 95 #[(aT r1.1),vi r3.1.Kind,vi r3.1.Bits,vi r3.1.Frac,vi r3.1.Round,vi r3.1.Over,vs a8 r5.1.length c15],MO.box b1 72 (ac r5.2 a9 c16)] [LT dQ a8 c15 r5.1,LT af a9 c16 r5.2.L,LT af a7 c14 r4.L,LT af a6 c10 r3.2.L,LT af a5 c9 r2.L,LT af a4 c7 r1.2.L,LT af a1 c1 p1.L]) (λx w=>SN [] (DM true F x) w) ?_ ?_
 ·clear hI;rintro c20 w16 hI
  try dsimp only at hI ⊢
  unfold lB
  refine vA λc19 w15 hI=>?_
  refine V ?_
  refine aF ?_
  obtain rfl:=ak h
  refine QG ?_
  exact⟨a8,c15,a9,c16,rfl,hI.ext0,hI.fin ⟨.z,.p1,ah⟩⟩
 intro hk_tr_ref16_param_1_0
 refine V ?_
 refine bR rfl gn rfl (λw' hw'=>(am (l:=(cU r3.1)) rfl et qQ rfl bX ((CA.blk (hI.blk .z) rfl).at_ (SX.any rfl hw')))) (by kernel_rfl) ?_
 refine V ?_
 refine nv rfl gn rfl (λw'=>(aC (vs:=[(0,(aT r1.1)),(1,(Value.agg (d9 r3.1))),(2,vs a8 r5.1.length c15)]) (cs:=#[(aT r1.1),vi r3.1.Kind,vi r3.1.Bits,vi r3.1.Frac,vi r3.1.Round,vi r3.1.Over,vs a8 r5.1.length c15]) rfl ⟨rfl,et,rfl,et,rfl,et,ah⟩ (by kernel_rfl))) ?_
 refine cL ?_ ?_
 ·skip
  refine bq rfl gn rfl (am (l:=(ag r5.2 a9 c16)) rfl et jO rfl aG (LU (hI.blk .p3) rfl)) LW ?_
  refine bK (F:=F) (C:=c17) rfl rfl ?_
  refine vA λc18 w14 hI=>?_
  exact bc (hk_tr_ref16_param_1_0 c18 _ (hI.arr GO SU)) SB
 refine bB (F:=F) (C:=c17) rfl rfl ?_
 refine vA λc18 w14 hI=>?_
 refine bq rfl gn rfl (am (l:=(ag r5.2 a9 c16)) rfl et jO rfl aG (LU (hI.blk .p3) rfl)) LW ?_
 exact bc (hk_tr_ref16_param_1_0 c18 _ (hI.arr GO SU)) SB
theorem vH (hF:dK F w0) {p1:ab} (hc:AllCl [LT af a1 c1 p1.L] F w0) {r:List gl×ab} (h:ia p1=some r):Cg 180 #[(Value.agg (ac p1 a1 c1))] w0 λe w=>∃ a2 c2 a3 c3,e= .returned (Value.tuple #[vs a2 r.1.length c2,(Value.agg (ac r.2 a3 c3))])∧Ext w0 w∧AllCl [LT cc a2 c2 r.1,LT af a3 c3 r.2.L] F w:=by
 refine EN Tryz.func180 Tryz.ntmps180 hF hc λhI=>?_
 rw[ia]at h
 refine sr (kL (v:=(Value.agg (ac p1 a1 c1))) (cs:=(ac p1 a1 c1)) hI gn rfl rfl et rfl ?_)
 intro b1 c4 w1 hI
 refine tV ?_
 refine lN λb2 c5 w2 hI=>?_
 refine T ?_
 have hI:=hI.nil cc 204 none
 refine bs (α:=Nat×(List gl)×ab×(Option Addr)×Nat×(Option Addr)×Nat) (λx=>λw=>∃ C,Bun du F w0 C w [LV cc 204 (x.2.2.2.1) (x.2.2.2.2.1) (x.2.1),MO.box b1 72 (ac (x.2.2.1) (x.2.2.2.2.2.1) (x.2.2.2.2.2.2)),MO.box b2 72 av] [LT af (x.2.2.2.2.2.1) (x.2.2.2.2.2.2) (x.2.2.1).L]∧eQ (x.1) (x.2.1) (x.2.2.1)=some r) (λx _=>x.1) (λx=>[(1,vp b1 0),(3,vp b2 0),(4,vs (x.2.2.2.1) (x.2.1).length (x.2.2.2.2.1))]) (fu,([]:List gl),p1,none,0,a1,c1) BH SB ?_
 clear h hI;rintro⟨fuel1,aN,p2,a4,c6,a5,c7⟩ w3 ⟨c8,hI,h⟩
 dsimp only at hI h ⊢
 rcases fuel1 with _ | fuel1
 ·rw[eQ]at h;cases h
 rw[eQ]at h
 refine T ?_
 obtain⟨r1,hx1,h⟩:=ae h
 refine aw gn rfl (Rc Tryz.func134) (Calls.mono (jy hI.lt FS hx1) ?_)
 rintro _ w4 ⟨a6,c9,rfl,hx2,hl1⟩
 refine⟨_,rfl,?_⟩
 replace hI:=(hI.ext hx2).adds hl1;dsimp only[ca,na]at hI
 refine T ?_
 refine lN λb3 c10 w5 hI=>?_
 refine sa ?_
 refine lA λc11 w6 hI=>?_
 refine T ?_
 obtain⟨r2,hx3,h⟩:=ae h
 refine aw gn rfl (Rc Tryz.func110) (Calls.mono (bn hI.lt FS hx3) ?_)
 rintro _ w7 ⟨a7,c12,rfl,hx4,hl2⟩
 refine⟨_,rfl,?_⟩
 replace hI:=(hI.ext hx4).adds hl2;dsimp only[ca,na]at hI
 obtain⟨r3,hx5,h⟩:=ae h
 refine aw gn rfl (Rc Tryz.func32) (Calls.mono (nt hI.lt FS hx5) ?_)
 rintro _ w8 ⟨a8,c13,a9,c14,rfl,hx6,hl3⟩
 refine⟨_,rfl,?_⟩
 replace hI:=(hI.ext hx6).adds hl3;dsimp only[ca,na]at hI
 refine T ?_
 refine lN λb4 c15 w9 hI=>?_
 refine lA λc16 w10 hI=>?_
 refine lA λc17 w11 hI=>?_
 refine T ?_
 refine sq (aC (vs:=[(0,(aT r1.1)),(1,(Value.agg (cx r3.1 a8 c13)))]) (cs:=#[(aT r1.1),vi r3.1.K,vs a8 r3.1.L.length c13]) rfl ⟨rfl,et,rfl,et,ah⟩ (by kernel_rfl)) ?_
 refine ll hI cc ([⟨r1.1,r3.1⟩]:List gl) vv (.cs ⟨a8,c13,rfl,hI.get .z⟩ .nl) λb5 c18 w12 hI=>?_
 obtain⟨zs1,hx7,h⟩:=ae h
 refine il (xs:=aN) (ys:=([⟨r1.1,r3.1⟩]:List gl)) hI .p3 (hI.rd .z) hx7 gn rfl rfl u98 vv rfl rfl et et ?_
 intro a10 c19 c20 w13 hI
 refine T ?_
 refine lA λc21 w14 hI=>?_
 refine nk (al (T ?_))
 refine sB h (λ_ k=>bx hI.lt FS k) (Rc Tryz.func72) λr4 w15 h hI=>?_
 refine TC (λhb h=>?_) λhb h=>?_
 ·refine al (aJ [3] false (.c (0,.q) (.c (1,.q) (.c (2,.q) (.c (3,.s) .n)))) hI (by kernel_rfl) (by kernel_rfl) ?_)
  intro w16 hI
  refine V ?_
  refine bR rfl gn rfl (λw' hw'=>(am (l:=(ag r3.2 a9 c14)) rfl et jO rfl aG ((CA.blk (hI.blk .p4) rfl).at_ (SX.any rfl hw')))) (by kernel_rfl) ?_
  refine V ?_
  refine bK (F:=F) (C:=c21) rfl rfl ?_
  refine vA λc22 w17 hI=>?_
  refine V ?_
  refine aF ?_
  obtain⟨c23,hI⟩:=hI.release .p3
  obtain rfl:=ak h
  refine QG ?_
  exact⟨a10,c19,a9,c14,rfl,hI.ext0,hI.fin ⟨.z,.p2,ah⟩⟩
 refine T ?_
 refine lS λc24 w18 hI=>?_
 refine aO ?_
 exact kl (fuel1,zs1,(⟨r3.2.L,au (r3.2.At+1),r3.2.Deep,r3.2.E,r3.2.Pos⟩:ab),a10,c19,a9,c14)
def m7:Tr:=(.c (3,.s) .n)
theorem CV (hF:dK F w0) {p1:ab} (hc:AllCl [LT af a1 c1 p1.L] F w0) {r:eF×ab} (h:nZ p1=some r):Cg 109 #[(Value.agg (ac p1 a1 c1))] w0 λe w=>∃ a2 c2 a3 c3 a4 c4 a5 c5 a6 c6 a7 c7,e= .returned (Value.tuple #[(Value.agg (ul r.1 a2 c2 a3 c3 a4 c4 a5 c5 a6 c6)),(Value.agg (ac r.2 a7 c7))])∧Ext w0 w∧AllCl [LT cc a2 c2 r.1.Dims,LT cc a3 c3 r.1.Red,LT aj a4 c4 r.1.Body.Lin.L,LT an a5 c5 r.1.Body.Idx,LT ap a6 c6 r.1.Body.Args,LT af a7 c7 r.2.L] F w:=by
 refine EN Tryz.func109 Tryz.ntmps109 hF hc λhI=>?_
 rw[nZ]at h
 refine sr (kL (v:=(Value.agg (ac p1 a1 c1))) (cs:=(ac p1 a1 c1)) hI gn rfl rfl et rfl ?_)
 intro b1 c8 w1 hI
 refine lN λb2 c9 w2 hI=>?_
 refine lN λb3 c10 w3 hI=>?_
 refine T ?_
 obtain⟨r1,hx1,h⟩:=ae h
 refine aw gn rfl (Rc Tryz.func134) (Calls.mono (jy hI.lt FS hx1) ?_)
 rintro _ w4 ⟨a8,c11,rfl,hx2,hl1⟩
 refine⟨_,rfl,?_⟩
 replace hI:=(hI.ext hx2).adds hl1;dsimp only[ca,na]at hI
 refine T ?_
 refine aQ (new:=(ag r1.2 a8 c11)) (cs':=(ac r1.2 a8 c11)) hI .p2 gn rfl rfl et et rfl aG rfl rfl rfl ?_
 intro c12 w5 hI
 refine T ?_
 obtain⟨r2,hx3,h⟩:=ae h
 refine aw gn rfl (Rc Tryz.func110) (Calls.mono (bn hI.lt FS hx3) ?_)
 rintro _ w6 ⟨a9,c13,rfl,hx4,hl2⟩
 refine⟨_,rfl,?_⟩
 replace hI:=(hI.ext hx4).adds hl2;dsimp only[ca,na]at hI
 obtain⟨r3,hx5,h⟩:=ae h
 refine aw gn rfl (Rc Tryz.func178) (Calls.mono (qK hI.lt FS hx5) ?_)
 rintro _ w7 ⟨a10,c14,rfl,hx6,hl3⟩
 refine⟨_,rfl,?_⟩
 replace hI:=(hI.ext hx6).adds hl3;dsimp only[ca,na]at hI
 refine T ?_
 refine lN λb4 c15 w8 hI=>?_
 refine aQ (new:=(cU r3.1)) (cs':=(d9 r3.1)) hI .z gn rfl rfl et et rfl bX rfl rfl rfl ?_
 intro c16 w9 hI
 refine aQ (new:=(ag r3.2 a10 c14)) (cs':=(ac r3.2 a10 c14)) hI .p3 gn rfl rfl et et rfl aG rfl rfl rfl ?_
 intro c17 w10 hI
 refine T ?_
 refine sq (aC (vs:=[(0,(aT r1.1)),(1,(Value.agg (d9 r3.1)))]) (cs:=#[(aT r1.1),vi r3.1.Kind,vi r3.1.Bits,vi r3.1.Frac,vi r3.1.Round,vi r3.1.Over,vs none 0 0,vs none 0 0,vi 0,vi 0,(aT []),vi 0,vi 0,vi 0,vi 0,vi 0,vi 0,vi 0,vi 0,vs none 0 0,vs none 0 0,vs none 0 0]) rfl ⟨rfl,et,rfl,et,ah⟩ (by kernel_rfl)) ?_
 refine lN λb5 c18 w11 hI=>?_
 refine aQ (new:=[(aT r1.1),vi r3.1.Kind,vi r3.1.Bits,vi r3.1.Frac,vi r3.1.Round,vi r3.1.Over,vs none 0 0,vs none 0 0,vi 0,vi 0,(aT []),vi 0,vi 0,vi 0,vi 0,vi 0,vi 0,vi 0,vi 0,vs none 0 0,vs none 0 0,vs none 0 0]) (cs':=#[(aT r1.1),vi r3.1.Kind,vi r3.1.Bits,vi r3.1.Frac,vi r3.1.Round,vi r3.1.Over,vs none 0 0,vs none 0 0,vi 0,vi 0,(aT []),vi 0,vi 0,vi 0,vi 0,vi 0,vi 0,vi 0,vi 0,vs none 0 0,vs none 0 0,vs none 0 0]) hI .z gn rfl rfl et et rfl lR rfl rfl rfl ?_
 intro c19 w12 hI
 refine T ?_
 obtain⟨r4,hx7,h⟩:=ae h
 refine aw gn rfl (Rc Tryz.func110) (Calls.mono (bn hI.lt FS hx7) ?_)
 rintro _ w13 ⟨a11,c20,rfl,hx8,hl4⟩
 refine⟨_,rfl,?_⟩
 replace hI:=(hI.ext hx8).adds hl4;dsimp only[ca,na]at hI
 refine aQ (new:=(ag r4 a11 c20)) (cs':=(ac r4 a11 c20)) hI .p4 gn rfl rfl et et rfl aG rfl rfl rfl ?_
 intro c21 w14 hI
 refine nk (bM (α:=eF×ab×(Option Addr)×Nat×(Option Addr)×Nat×(Option Addr)×Nat×(Option Addr)×Nat×(Option Addr)×Nat×(Option Addr)×Nat) (λ_=>⟨91,[]⟩) (λx=>[(1,vp b1 0),(2,vp b2 0),(3,vp b3 0),(6,vp b5 0)]) (λx=>λw=>∃ C,Bun du F w0 C w [LV cc 204 (x.2.2.2.2.1) (x.2.2.2.2.2.1) (x.1).Red,LV aj 64 (x.2.2.2.2.2.2.1) (x.2.2.2.2.2.2.2.1) (x.1).Body.Lin.L,LV an 132 (x.2.2.2.2.2.2.2.2.1) (x.2.2.2.2.2.2.2.2.2.1) (x.1).Body.Idx,LV ap 39 (x.2.2.2.2.2.2.2.2.2.2.1) (x.2.2.2.2.2.2.2.2.2.2.2.1) (x.1).Body.Args,MO.box b1 72 (ac (x.2.1) (x.2.2.2.2.2.2.2.2.2.2.2.2.1) (x.2.2.2.2.2.2.2.2.2.2.2.2.2)),MO.box b2 100 FV,MO.box b3 72 av,MO.box b5 100 (ul (x.1) (x.2.2.1) (x.2.2.2.1) (x.2.2.2.2.1) (x.2.2.2.2.2.1) (x.2.2.2.2.2.2.1) (x.2.2.2.2.2.2.2.1) (x.2.2.2.2.2.2.2.2.1) (x.2.2.2.2.2.2.2.2.2.1) (x.2.2.2.2.2.2.2.2.2.2.1) (x.2.2.2.2.2.2.2.2.2.2.2.1))] [LT cc (x.2.2.1) (x.2.2.2.1) (x.1).Dims,LT af (x.2.2.2.2.2.2.2.2.2.2.2.2.1) (x.2.2.2.2.2.2.2.2.2.2.2.2.2) (x.2.1).L]∧hV (x.1) (x.2.1)=some r) ?_ ?_)
 ·clear h hI;rintro⟨d1,p2,a12,c22,a13,c23,a14,c24,a15,c25,a16,c26,a17,c27⟩ w15 ⟨c28,hI,h⟩
  try dsimp only at hI h ⊢
  rw[hV]at h
  refine T ?_
  obtain⟨r5,hx9,h⟩:=ae h
  refine aw gn rfl (Rc Tryz.func110) (Calls.mono (bn hI.lt FS hx9) ?_)
  rintro _ w16 ⟨a18,c29,rfl,hx10,hl5⟩
  refine⟨_,rfl,?_⟩
  replace hI:=(hI.ext hx10).adds hl5;dsimp only[ca,na]at hI
  obtain⟨r6,hx11,h⟩:=ae h
  refine aw gn rfl (Rc Tryz.func110) (Calls.mono (bn hI.lt FS hx11) ?_)
  rintro _ w17 ⟨a19,c30,rfl,hx12,hl6⟩
  refine⟨_,rfl,?_⟩
  replace hI:=(hI.ext hx12).adds hl6;dsimp only[ca,na]at hI
  refine aQ (new:=(ag r6 a19 c30)) (cs':=(ac r6 a19 c30)) hI .p4 gn rfl rfl et et rfl aG rfl rfl rfl ?_
  intro c31 w18 hI
  refine T ?_
  refine ll hI bk LB gK Rr λb6 c32 w19 hI=>?_
  refine T ?_
  refine bM (α:=ab×eF×(Option Addr)×Nat×(Option Addr)×Nat×(Option Addr)×Nat×(Option Addr)×Nat×(Option Addr)×Nat×(Option Addr)×Nat) (λ_=>⟨91,[]⟩) (λx=>[(1,vp b1 0),(2,vp b2 0),(3,vp b3 0),(6,vp b5 0)]) (λx=>λw=>∃ C,Bun du F w0 C w [LV aj 64 (x.2.2.2.2.2.2.2.2.1) (x.2.2.2.2.2.2.2.2.2.1) (x.2.1).Body.Lin.L,LV an 132 (x.2.2.2.2.2.2.2.2.2.2.1) (x.2.2.2.2.2.2.2.2.2.2.2.1) (x.2.1).Body.Idx,LV ap 39 (x.2.2.2.2.2.2.2.2.2.2.2.2.1) (x.2.2.2.2.2.2.2.2.2.2.2.2.2) (x.2.1).Body.Args,MO.box b1 72 (ac (x.1) (x.2.2.1) (x.2.2.2.1)),MO.box b2 100 FV,MO.box b3 72 av,MO.box b5 100 (ul (x.2.1) (x.2.2.2.2.1) (x.2.2.2.2.2.1) (x.2.2.2.2.2.2.1) (x.2.2.2.2.2.2.2.1) (x.2.2.2.2.2.2.2.2.1) (x.2.2.2.2.2.2.2.2.2.1) (x.2.2.2.2.2.2.2.2.2.2.1) (x.2.2.2.2.2.2.2.2.2.2.2.1) (x.2.2.2.2.2.2.2.2.2.2.2.2.1) (x.2.2.2.2.2.2.2.2.2.2.2.2.2))] [LT af (x.2.2.1) (x.2.2.2.1) (x.1).L,LT cc (x.2.2.2.2.1) (x.2.2.2.2.2.1) (x.2.1).Dims,LT cc (x.2.2.2.2.2.2.1) (x.2.2.2.2.2.2.2.1) (x.2.1).Red]∧hU (x.1) (x.2.1)=some r) ?_ ?_
  ·clear h hI;rintro⟨p3,d2,a20,c33,a21,c34,a22,c35,a23,c36,a24,c37,a25,c38⟩ w20 ⟨c39,hI,h⟩
   try dsimp only at hI h ⊢
   rw[hU]at h
   refine T ?_
   obtain⟨r7,hx13,h⟩:=ae h
   refine aw gn rfl (Rc Tryz.func36) (Calls.mono (uZ hI.lt FS hx13) ?_)
   rintro _ w21 ⟨a26,c40,a27,c41,a28,c42,a29,c43,rfl,hx14,hl7⟩
   refine⟨_,rfl,?_⟩
   replace hI:=(hI.ext hx14).adds hl7;dsimp only[ca,na]at hI
   refine T ?_
   refine lN λb7 c44 w22 hI=>?_
   refine aQ (new:=(bz r7.1 a26 c40 a27 c41 a28 c42)) (cs':=(aI r7.1 a26 c40 a27 c41 a28 c42)) hI .z gn rfl rfl et et rfl aS rfl rfl rfl ?_
   intro c45 w23 hI
   refine aQ (new:=(ag r7.2 a29 c43)) (cs':=(ac r7.2 a29 c43)) hI .p4 gn rfl rfl et et rfl aG rfl rfl rfl ?_
   intro c46 w24 hI
   refine T ?_
   refine aQ (new:=(bz r7.1 a26 c40 a27 c41 a28 c42)) (cs':=#[(aT d2.Name),vi d2.Type_.Kind,vi d2.Type_.Bits,vi d2.Type_.Frac,vi d2.Type_.Round,vi d2.Type_.Over,vs a21 d2.Dims.length c34,vs a22 d2.Red.length c35,vi d2.Fold,vi r7.1.Op,(aT r7.1.Name),vi r7.1.Val.N,vi r7.1.Val.D,vi r7.1.Type_.Kind,vi r7.1.Type_.Bits,vi r7.1.Type_.Frac,vi r7.1.Type_.Round,vi r7.1.Type_.Over,vi r7.1.Lin.K,vs a26 r7.1.Lin.L.length c40,vs a27 r7.1.Idx.length c41,vs a28 r7.1.Args.length c42]) hI .p7 gn rfl rfl et et rfl aS rfl rfl rfl ?_
   intro c47 w25 hI
   refine nk (al (aJ [2,3] false (.c (0,.q) (.two 1 (.c (2,.s) m7) 2 (.c (1,.s) m7))) hI (by kernel_rfl) (by kernel_rfl) ?_))
   intro w29 hI
   refine bT (α:=NP) (T:=m7) (λx=>[(2,vp b2 0),(3,vp b3 0),(90,(Value.agg (ac r7.2 a29 c43)))]) (λx w=>Bun du F w0 x w [MO.box b7 39 (aI r7.1 a26 c40 a27 c41 a28 c42),LV aj 64 a23 c36 d2.Body.Lin.L,LV an 132 a24 c37 d2.Body.Idx,LV ap 39 a25 c38 d2.Body.Args,MO.box b1 72 (ac r7.2 a29 c43),MO.box b2 100 #[(aT d2.Name),vi d2.Type_.Kind,vi d2.Type_.Bits,vi d2.Type_.Frac,vi d2.Type_.Round,vi d2.Type_.Over,vs a21 d2.Dims.length c34,vs a22 d2.Red.length c35,vi d2.Fold,vi r7.1.Op,(aT r7.1.Name),vi r7.1.Val.N,vi r7.1.Val.D,vi r7.1.Type_.Kind,vi r7.1.Type_.Bits,vi r7.1.Type_.Frac,vi r7.1.Type_.Round,vi r7.1.Type_.Over,vi r7.1.Lin.K,vs a26 r7.1.Lin.L.length c40,vs a27 r7.1.Idx.length c41,vs a28 r7.1.Args.length c42],MO.box b3 72 av,MO.box b5 100 #[(aT d2.Name),vi d2.Type_.Kind,vi d2.Type_.Bits,vi d2.Type_.Frac,vi d2.Type_.Round,vi d2.Type_.Over,vs a21 d2.Dims.length c34,vs a22 d2.Red.length c35,vi d2.Fold,vi r7.1.Op,(aT r7.1.Name),vi r7.1.Val.N,vi r7.1.Val.D,vi r7.1.Type_.Kind,vi r7.1.Type_.Bits,vi r7.1.Type_.Frac,vi r7.1.Type_.Round,vi r7.1.Type_.Over,vi r7.1.Lin.K,vs a26 r7.1.Lin.L.length c40,vs a27 r7.1.Idx.length c41,vs a28 r7.1.Args.length c42]] [LT aj a26 c40 r7.1.Lin.L,LT an a27 c41 r7.1.Idx,LT ap a28 c42 r7.1.Args,LT af a29 c43 r7.2.L,LT af a20 c33 p3.L,LT cc a21 c34 d2.Dims,LT cc a22 c35 d2.Red]) (λx w=>SN [] (DM true F x) w) ?_ ?_
   ·clear hI;rintro c50 w28 hI
    try dsimp only at hI ⊢
    unfold m7
    refine vA λc49 w27 hI=>?_
    refine V ?_
    refine aF ?_
    obtain rfl:=ak h
    exact fY (vs:=[(Value.agg #[(aT d2.Name),vi d2.Type_.Kind,vi d2.Type_.Bits,vi d2.Type_.Frac,vi d2.Type_.Round,vi d2.Type_.Over,vs a21 d2.Dims.length c34,vs a22 d2.Red.length c35,vi d2.Fold,vi r7.1.Op,(aT r7.1.Name),vi r7.1.Val.N,vi r7.1.Val.D,vi r7.1.Type_.Kind,vi r7.1.Type_.Bits,vi r7.1.Type_.Frac,vi r7.1.Type_.Round,vi r7.1.Type_.Over,vi r7.1.Lin.K,vs a26 r7.1.Lin.L.length c40,vs a27 r7.1.Idx.length c41,vs a28 r7.1.Args.length c42]),(Value.agg (ac r7.2 a29 c43))]) Tryz.results109 ⟨⟨_,aR rfl rfl,cv (l:=[(aT d2.Name),vi d2.Type_.Kind,vi d2.Type_.Bits,vi d2.Type_.Frac,vi d2.Type_.Round,vi d2.Type_.Over,vs a21 d2.Dims.length c34,vs a22 d2.Red.length c35,vi d2.Fold,vi r7.1.Op,(aT r7.1.Name),vi r7.1.Val.N,vi r7.1.Val.D,vi r7.1.Type_.Kind,vi r7.1.Type_.Bits,vi r7.1.Type_.Frac,vi r7.1.Type_.Round,vi r7.1.Type_.Over,vi r7.1.Lin.K,vs a26 r7.1.Lin.L.length c40,vs a27 r7.1.Idx.length c41,vs a28 r7.1.Args.length c42]) wZ rfl lR (LU (hI.blk .p5) rfl)⟩,⟨_,aR rfl rfl,cv (l:=(ag r7.2 a29 c43)) jO rfl aG (LU (hI.blk .p6) rfl)⟩,ah⟩ ⟨a21,c34,a22,c35,a26,c40,a27,c41,a28,c42,a29,c43,rfl,hI.ext0,hI.fin ⟨.p5,.p6,.z,.p1,.p2,.p3,ah⟩⟩
   intro hk_tr_ref16_def_1_0
   refine bR rfl gn rfl (λw' hw'=>(am (l:=[(aT d2.Name),vi d2.Type_.Kind,vi d2.Type_.Bits,vi d2.Type_.Frac,vi d2.Type_.Round,vi d2.Type_.Over,vs a21 d2.Dims.length c34,vs a22 d2.Red.length c35,vi d2.Fold,vi r7.1.Op,(aT r7.1.Name),vi r7.1.Val.N,vi r7.1.Val.D,vi r7.1.Type_.Kind,vi r7.1.Type_.Bits,vi r7.1.Type_.Frac,vi r7.1.Type_.Round,vi r7.1.Type_.Over,vi r7.1.Lin.K,vs a26 r7.1.Lin.L.length c40,vs a27 r7.1.Idx.length c41,vs a28 r7.1.Args.length c42]) rfl et wZ rfl lR ((CA.blk (hI.blk .p7) rfl).at_ (SX.any rfl hw')))) (by kernel_rfl) ?_
   refine cL ?_ ?_
   ·skip
    refine bq rfl gn rfl (am (l:=(ag r7.2 a29 c43)) rfl et jO rfl aG (LU (hI.blk .p4) rfl)) LW ?_
    refine bK (F:=F) (C:=c47) rfl rfl ?_
    refine vA λc48 w26 hI=>?_
    exact bc (hk_tr_ref16_def_1_0 c48 _ (hI.arr (.c .z (.c .z (.c .z (.c .z (.c .z (.c .z (.c .z (.c .z .n)))))))) ⟨.z,.p1,.p2,.p3,.p4,.p5,.p6,ah⟩)) ⟨rfl,rfl,rfl,ah⟩
   refine bB (F:=F) (C:=c47) rfl rfl ?_
   refine vA λc48 w26 hI=>?_
   refine bq rfl gn rfl (am (l:=(ag r7.2 a29 c43)) rfl et jO rfl aG (LU (hI.blk .p4) rfl)) LW ?_
   exact bc (hk_tr_ref16_def_1_0 c48 _ (hI.arr (.c .z (.c .z (.c .z (.c .z (.c .z (.c .z (.c .z (.c .z .n)))))))) ⟨.z,.p1,.p2,.p3,.p4,.p5,.p6,ah⟩)) ⟨rfl,rfl,rfl,ah⟩
  refine al (aJ [] false (.c (0,.q) (.c (1,.q) (.c (2,.s) (.c (3,.q) (.c (4,.q) (.c (5,.q) (.c (6,.q) (.c (7,.s) (.c (8,.q) (.c (9,.q) (.c (10,.s) (.c (11,.q) (.c (12,.q) (.c (13,.q) .n)))))))))))))) hI (by kernel_rfl) (by kernel_rfl) ?_)
  intro w30 hI
  refine bR rfl gn rfl (λw' hw'=>(am (l:=(ag r6 a19 c30)) rfl et jO rfl aG ((CA.blk (hI.blk .p5) rfl).at_ (SX.any rfl hw')))) (by kernel_rfl) ?_
  refine V ?_
  obtain⟨r8,hx15,h⟩:=ae h
  refine dk rfl gn rfl (aD (vs:=[(Value.agg (ac r6 a19 c30)),(vs (some ⟨b6,0,none⟩) LB.length 5)]) rfl GX ⟨et,et,ah⟩) (Calls.mono (qL NE ⟨(hI.get0 .z),hI.lend .z,ah⟩ hx15) ?_)
  rintro _ w31 ⟨rfl,hx16,hl8⟩
  refine⟨_,rfl,hx16,?_⟩
  replace hI:=(hI.ext hx16)
  refine V ?_
  refine px rfl (bg rfl rfl rfl rfl) rfl (λhc=>λw' hw'=>(am (l:=(ag r6 a19 c30)) rfl et jO rfl aG ((CA.blk (hI.blk .p5) rfl).at_ (SX.any rfl hw')))) (by kernel_rfl) ?_
  refine V ?_
  obtain⟨c51,hJ⟩:=hI.restart.release .z
  obtain⟨hs1,hI⟩:=hI.back hJ
  clear hJ
  refine Kv hs1 ?_
  obtain⟨a30,hB1⟩:∃ B:Option Addr,B=(if 5=Int.toNat 2 then some ⟨b6,0,none⟩else Option.map (·.add (Int.toNat 2 * 1)) (some ⟨b6,0,none⟩:Option Addr)):=⟨_,rfl⟩
  refine pi rfl (bg rfl rfl rfl rfl) rfl (λhc=>λw'=>(Jd rfl zY pO (aU et hc) ao ao (show yk LB 2 4=some YW8 by kernel_rfl) (hI.cap_ .z) hB1)) ?_
  replace hI:=hI.sub .z (show yk LB 2 4=some YW8 by kernel_rfl) hB1
  obtain⟨r9,hx17,h⟩:=ae h
  replace hx17:=ay hx17
  refine lj (v:=(vb r9)) rfl (bg rfl rfl rfl rfl) rfl (λhc=>(aD (vs:=[(Value.agg (ac r6 a19 c30)),(vs a30 YW8.length (5 - Int.toNat 2))]) rfl GX ⟨(aU et hc),(aU et hc),ah⟩)) (λhc=>(qL hI.lt FS (hx17 hc)).mono λ_ _ k=>⟨k.1,k.2.1⟩) ?_
  intro Dq hx18;replace hI:=hI.ext hx18
  refine V ?_
  refine px rfl (iA rfl rfl rfl rfl) rfl (λhc=>λw' hw'=>(am (l:=(ag r6 a19 c30)) rfl et jO rfl aG ((CA.blk (hI.blk .p4) rfl).at_ (SX.any rfl hw')))) (by kernel_rfl) ?_
  obtain⟨r10,hx19,h⟩:=ae h
  replace hx19:=ay hx19
  refine lj (v:=(vb r10)) rfl (iA rfl rfl rfl rfl) rfl (λhc=>(aD (vs:=[(Value.agg (ac r6 a19 c30)),vi 1,(aT [40])]) rfl GU ⟨(aU et hc),ao,ao,ah⟩)) (λhc=>(bx hI.lt FS (hx19 hc)).mono λ_ _ k=>⟨k.1,k.2.1⟩) ?_
  intro w33 hx20;replace hI:=hI.ext hx20
  refine V ?_
  refine TC (λhb h=>?_) λhb h=>?_
  ·refine T ?_
   obtain⟨r11,hx21,h⟩:=ae h
   refine aw gn rfl (Rc Tryz.func105) (Calls.mono (lm hI.lt FS hx21) ?_)
   rintro _ w34 ⟨a31,c52,rfl,hx22,hl11⟩
   refine⟨_,rfl,?_⟩
   replace hI:=(hI.ext hx22).adds hl11;dsimp only[ca,na]at hI
   refine T ?_
   refine lN λb8 c53 w35 hI=>?_
   refine sa ?_
   refine aQ (new:=(ag r11.2 a31 c52)) (cs':=(ac r11.2 a31 c52)) hI .z gn rfl rfl et et rfl aG rfl rfl rfl ?_
   intro c54 w36 hI
   refine T ?_
   refine lS λc55 w37 hI=>?_
   refine T ?_
   refine aQ (new:=(ag r11.2 a31 c52)) (cs':=(ac r11.2 a31 c52)) hI .p5 gn rfl rfl et et rfl aG rfl rfl rfl ?_
   intro c56 w38 hI
   refine nk (al (T ?_))
   refine sB h (λ_ k=>bx hI.lt FS k) (Rc Tryz.func72) λr12 w39 h hI=>?_
   refine TC (λhb h=>?_) λhb h=>?_
   ·refine T ?_
    obtain⟨r13,hx25,h⟩:=ae h
    refine aw gn rfl (Rc Tryz.func180) (Calls.mono (vH hI.lt FS hx25) ?_)
    rintro _ w40 ⟨a32,c57,a33,c58,rfl,hx26,hl13⟩
    refine⟨_,rfl,?_⟩
    replace hI:=(hI.ext hx26).adds hl13;dsimp only[ca,na]at hI
    refine T ?_
    refine lN λb9 c59 w41 hI=>?_
    refine sa ?_
    refine aQ (new:=(ag r13.2 a33 c58)) (cs':=(ac r13.2 a33 c58)) hI .z gn rfl rfl et et rfl aG rfl rfl rfl ?_
    intro c60 w42 hI
    refine T ?_
    refine lS λc61 w43 hI=>?_
    refine T ?_
    refine aQ (new:=(ag r13.2 a33 c58)) (cs':=(ac r13.2 a33 c58)) hI .p6 gn rfl rfl et et rfl aG rfl rfl rfl ?_
    intro c62 w44 hI
    refine T ?_
    obtain⟨r14,hx27,h⟩:=ae h
    refine aw gn rfl (Rc Tryz.func110) (Calls.mono (bn hI.lt FS hx27) ?_)
    rintro _ w45 ⟨a34,c63,rfl,hx28,hl14⟩
    refine⟨_,rfl,?_⟩
    replace hI:=(hI.ext hx28).adds hl14;dsimp only[ca,na]at hI
    refine aQ (new:=(ag r14 a34 c63)) (cs':=(ac r14 a34 c63)) hI .p6 gn rfl rfl et et rfl aG rfl rfl rfl ?_
    intro c64 w46 hI
    refine aO ?_
    exact bu (r14,(⟨d1.Name,d1.Type_,d1.Dims,r13.1,r11.1,d1.Body⟩:eF),a34,c63,a12,c22,a32,c57,a14,c24,a15,c25,a16,c26) ⟨rfl,rfl,rfl,rfl,ah⟩ ⟨_,hI.arr (.c .p3 (.c .p3 (.c .p3 (.c .p3 (.c .p3 (.c .p3 (.c .p3 .n))))))) ⟨.z,.p8,.p1,ah⟩,h⟩ rfl
   refine T ?_
   obtain⟨r15,hx29,h⟩:=ae h
   refine aw gn rfl (Rc Tryz.func110) (Calls.mono (bn hI.lt FS hx29) ?_)
   rintro _ w47 ⟨a35,c65,rfl,hx30,hl15⟩
   refine⟨_,rfl,?_⟩
   replace hI:=(hI.ext hx30).adds hl15;dsimp only[ca,na]at hI
   refine aQ (new:=(ag r15 a35 c65)) (cs':=(ac r15 a35 c65)) hI .p5 gn rfl rfl et et rfl aG rfl rfl rfl ?_
   intro c66 w48 hI
   refine aO ?_
   obtain⟨c67,hI⟩:=hI.release .p1
   exact bu (r15,(⟨d1.Name,d1.Type_,d1.Dims,d1.Red,r11.1,d1.Body⟩:eF),a35,c65,a12,c22,a13,c23,a14,c24,a15,c25,a16,c26) ⟨rfl,rfl,rfl,rfl,ah⟩ ⟨_,hI.arr (.c .p1 (.c .p1 (.c .p1 (.c .p1 (.c .p1 (.c .p1 (.c .p1 .n))))))) ⟨.p1,.p7,.z,ah⟩,h⟩ rfl
  refine bl ?_
  obtain⟨c68,hI⟩:=hI.release .z
  exact bu (r6,d1,a19,c30,a12,c22,a13,c23,a14,c24,a15,c25,a16,c26) ⟨rfl,rfl,rfl,rfl,ah⟩ ⟨_,hI.arr (.c .z (.c .z (.c .z (.c .z (.c .z (.c .z (.c .z .n))))))) ⟨.p3,.p5,.z,ah⟩,h⟩ rfl
 refine T ?_
 refine sB h (λ_ k=>bx hI.lt FS k) (Rc Tryz.func72) λr16 w49 h hI=>?_
 refine TC (λhb h=>?_) λhb h=>?_
 ·refine T ?_
  obtain⟨r17,hx33,h⟩:=ae h
  refine aw gn rfl (Rc Tryz.func180) (Calls.mono (vH hI.lt FS hx33) ?_)
  rintro _ w50 ⟨a36,c69,a37,c70,rfl,hx34,hl17⟩
  refine⟨_,rfl,?_⟩
  replace hI:=(hI.ext hx34).adds hl17;dsimp only[ca,na]at hI
  refine T ?_
  refine lN λb10 c71 w51 hI=>?_
  refine sa ?_
  refine aQ (new:=(ag r17.2 a37 c70)) (cs':=(ac r17.2 a37 c70)) hI .z gn rfl rfl et et rfl aG rfl rfl rfl ?_
  intro c72 w52 hI
  refine T ?_
  refine lS λc73 w53 hI=>?_
  refine T ?_
  refine aQ (new:=(ag r17.2 a37 c70)) (cs':=(ac r17.2 a37 c70)) hI .p5 gn rfl rfl et et rfl aG rfl rfl rfl ?_
  intro c74 w54 hI
  refine aO ?_
  have hI:=hI.nil cc 204 none
  have hI:=hI.nil aj 64 none
  have hI:=hI.nil an 132 none
  have hI:=hI.nil ap 39 none
  exact bu ((⟨r1.1,r3.1,r17.1,[],0,(⟨0,[],⟨0,0⟩,⟨0,0,0,0,0⟩,⟨0,[]⟩,[],[]⟩:GExpr)⟩:eF),r17.2,a36,c69,none,0,none,0,none,0,none,0,a37,c70) ⟨rfl,rfl,rfl,rfl,ah⟩ ⟨_,hI.arr (.c .p3 (.c .p2 (.c .p1 (.c .z (.c .p5 (.c .p4 (.c .p3 (.c .p1 .n)))))))) ⟨.z,.p1,ah⟩,h⟩ rfl
 refine bl ?_
 have hI:=hI.add (c:=LT cc none 0 ([]:List gl)) SlC.nil
 have hI:=hI.nil cc 204 none
 have hI:=hI.nil aj 64 none
 have hI:=hI.nil an 132 none
 have hI:=hI.nil ap 39 none
 exact bu ((⟨r1.1,r3.1,[],[],0,(⟨0,[],⟨0,0⟩,⟨0,0,0,0,0⟩,⟨0,[]⟩,[],[]⟩:GExpr)⟩:eF),r4,none,0,none,0,none,0,none,0,none,0,a11,c20) ⟨rfl,rfl,rfl,rfl,ah⟩ ⟨_,hI.arr (.c .p3 (.c .p2 (.c .p1 (.c .z (.c .p4 (.c .p3 (.c .p2 (.c .z .n)))))))) ⟨.z,.p1,ah⟩,h⟩ rfl
theorem sD {p1:ab} {l1:List (List UInt8)} (hI:Bun C0 F w0 C0 w0 [LV bk 9 a2 c2 l1] [LT af a1 c1 p1.L]) {r:(List (List UInt8)×ab)} (h:gD p1 l1=some r):Cg 106 #[(Value.agg (ac p1 a1 c1)),vs a2 l1.length c2] w0 λe w=>∃ a3 c3 a4 c4 C,e= .returned (Value.tuple #[vs a3 r.1.length c3,(Value.agg (ac r.2 a4 c4))])∧Bun C0 F w0 C w [LV bk 9 a3 c3 r.1] [LT af a4 c4 r.2.L]:=by
 refine pR Tryz.func106 rfl Tryz.ntmps106 rfl ?_
 rw[gD]at h
 refine sr (kL (v:=(Value.agg (ac p1 a1 c1))) (cs:=(ac p1 a1 c1)) hI gn rfl rfl et rfl ?_)
 intro b1 c5 w1 hI
 refine tV ?_
 refine lN λb2 c6 w2 hI=>?_
 refine T ?_
 obtain⟨r1,hx1,h⟩:=ae h
 refine aw gn rfl (Rc Tryz.func134) (Calls.mono (jy hI.lt FS hx1) ?_)
 rintro _ w3 ⟨a5,c7,rfl,hx2,hl1⟩
 refine⟨_,rfl,?_⟩
 replace hI:=(hI.ext hx2).adds hl1;dsimp only[ca,na]at hI
 refine T ?_
 refine lA λc8 w4 hI=>?_
 refine T ?_
 refine ll hI bk ([r1.1]:List (List UInt8)) gK Rr λb3 c9 w5 hI=>?_
 obtain⟨zs1,hx3,h⟩:=ae h
 refine il (xs:=l1) (ys:=([r1.1]:List (List UInt8))) hI .p3 (hI.rd .z) hx3 gn rfl rfl zY gK rfl rfl et et ?_
 intro a6 c10 c11 w6 hI
 refine T ?_
 refine al (T ?_)
 refine bs (α:=Nat×(List (List UInt8))×ab×(Option Addr)×Nat×(Option Addr)×Nat) (λx=>λw=>∃ C,Bun C0 F w0 C w [LV bk 9 (x.2.2.2.1) (x.2.2.2.2.1) (x.2.1),MO.box b1 72 (ac (x.2.2.1) (x.2.2.2.2.2.1) (x.2.2.2.2.2.2)),MO.box b2 72 av] [LT af (x.2.2.2.2.2.1) (x.2.2.2.2.2.2) (x.2.2.1).L]∧es (x.1) (x.2.1) (x.2.2.1)=some r) (λx _=>x.1) (λx=>[(1,vs (x.2.2.2.1) (x.2.1).length (x.2.2.2.2.1)),(2,vp b1 0),(5,vp b2 0)]) (fu,zs1,r1.2,a6,c10,a5,c7) BH SB ?_
 clear h hI;rintro⟨fuel1,l2,p2,a7,c12,a8,c13⟩ w7 ⟨c14,hI,h⟩
 dsimp only at hI h ⊢
 rcases fuel1 with _ | fuel1
 ·rw[es]at h;cases h
 rw[es]at h
 refine al (T ?_)
 refine sB h (λ_ k=>bx hI.lt FS k) (Rc Tryz.func72) λr2 w8 h hI=>?_
 refine TC (λhb h=>?_) λhb h=>?_
 ·have hk1:=hb
  refine T ?_
  refine lS λc15 w9 hI=>?_
  refine T ?_
  obtain⟨r3,hx6,h⟩:=ae h
  refine aw gn rfl (Rc Tryz.func134) (Calls.mono (jy hI.lt FS hx6) ?_)
  rintro _ w10 ⟨a9,c16,rfl,hx7,hl3⟩
  refine⟨_,rfl,?_⟩
  replace hI:=(hI.ext hx7).adds hl3;dsimp only[ca,na]at hI
  refine T ?_
  refine lA λc17 w11 hI=>?_
  refine T ?_
  refine ll hI bk ([r3.1]:List (List UInt8)) gK Rr λb4 c18 w12 hI=>?_
  obtain⟨zs2,hx8,h⟩:=ae h
  refine il (xs:=l2) (ys:=([r3.1]:List (List UInt8))) hI .p1 (hI.rd .z) hx8 gn rfl rfl zY gK rfl rfl et et ?_
  intro a10 c19 c20 w13 hI
  refine sa ?_
  refine aO ?_
  exact kl (fuel1,zs2,r3.2,a10,c19,a9,c16)
 refine bv ?_
 refine fi ?_
 refine bh (al (aJ [3] false (.c (0,.q) (.c (1,.q) (.c (2,.q) (.c (3,.s) .n)))) hI (by kernel_rfl) (by kernel_rfl) ?_))
 intro w14 hI
 refine V ?_
 refine bR rfl gn rfl (λw' hw'=>(am (l:=(ag p2 a8 c13)) rfl et jO rfl aG ((CA.blk (hI.blk .p1) rfl).at_ (SX.any rfl hw')))) (by kernel_rfl) ?_
 refine V ?_
 refine bK (F:=F) (C:=c14) rfl rfl ?_
 refine vA λc21 w15 hI=>?_
 refine V ?_
 refine aF ?_
 obtain rfl:=ak h
 refine QG ?_
 exact⟨a7,c12,a8,c13,_,rfl,hI.arr GO SU⟩
end Go.Proofs.YtmhoikfoogemnaaGreatDoor
