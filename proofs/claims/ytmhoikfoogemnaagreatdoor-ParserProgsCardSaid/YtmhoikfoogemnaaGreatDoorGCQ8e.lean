import Derived.Test.YtmhoikfoogemnaaGreatDoorGCQ8d
import Derived.Test.YtmhoikfoogemnaaGreatDoorGLfH
namespace Go.Proofs.YtmhoikfoogemnaaGreatDoor
open Go Go.RowKit Go.Vc
set_option maxRecDepth 100000
set_option maxHeartbeats 4000000
set_option linter.unusedVariables false
set_option linter.unusedSimpArgs false
variable {σ:Type} {C0 F:NP} {w0:World} {a1 a2 a3 a4 a5 a6 a7 a8 a9 a10 a11 a12:Option Addr} {b1 b2 b3 b4 b5 b6 b7 b8 b9 b10 b11 b12 c1 c2 c3 c4 c5 c6 c7 c8 c9 c10 c11 c12:Nat}
theorem sV {rec_:(aa→Option (bL (GExpr×aa)))} (hrec:Aq rec_):HR 75 (dP rec_):=by
 intro C0 F w0 r1 b1 c1 a1 hI r h
 refine fJ (l:=[vp b1 0]) Tryz.func75 rfl Tryz.ntmps75 rfl ?_
 rw[dP]at h
 refine sr (dl (cs:=lp) hI gn rfl rfl gA rfl ?_)
 intro b2 c6 w1 hI
 refine T ?_
 refine sq (pA (vs:=[vp b1 0]) rfl rfl ⟨et,ah⟩) ?_
 refine ll hI bk ([[38]]:List (List UInt8)) gK Rr λb3 c7 w2 hI=>?_
 refine ll hI (ui .i64) ([16]:List Int) yr Rr λb4 c8 w3 hI=>?_
 obtain⟨c9,hI⟩:=hI.release .p1
 obtain⟨c10,hI⟩:=hI.release .z
 obtain⟨c11,f1,hB,hl1,hk1⟩:=hI.hands (.r (.l .n))
 refine dC h (λ_ hx1=>qZ hrec HS hx1) (kD hk1) (Rc Tryz.func74) ?_
 rintro⟨r2,s1⟩ hx1 h _ w4 ⟨a6,c12,a7,c13,a8,c14,a9,c15,c16,rfl,hB2⟩
 try dsimp only at h
 refine HN hk1 hB2 λc17 hI=>?_
 refine⟨_,rfl,?_⟩
 refine lA λc18 w5 hI=>?_
 refine nk (aF ?_)
 obtain rfl:=ak h
 refine QG ?_
 exact .inl ⟨_,rfl,a6,c12,a7,c13,a8,c14,a9,c15,_,rfl,hI.arr GO SU⟩
theorem rB {rec_:(aa→Option (bL (GExpr×aa)))} (hrec:Aq rec_) {r1:aa} {signs1:List (List UInt8)} {ops1:List Int} (hI:Bun C0 F w0 C0 w0 [MO.box b1 67 (ai r1 a1 c1)] [LT af a1 c1 r1.l,LT bk a2 c2 signs1,LT (ui .i64) a3 c3 ops1,aA]) {r:bL (GExpr×aa)} (h:kZ rec_ r1 signs1 ops1=some r):CP C0 F w0 74 #[vp b1 0,(Value.func (.func 75) #[vp b1 0] #[]),vs a2 signs1.length c2,vs a3 ops1.length c3] r λrx e w=>∃ a4 c4 a5 c5 a6 c6 a7 c7 C,e= .returned (Value.agg (aI rx.1 a4 c4 a5 c5 a6 c6))∧Bun C0 F w0 C w [MO.box b1 67 (ai rx.2 a7 c7)] [LT aj a4 c4 rx.1.Lin.L,LT an a5 c5 rx.1.Idx,LT ap a6 c6 rx.1.Args,LT af a7 c7 rx.2.l]:=CZ (sV hrec) La hI h
theorem se {rec_:(aa→Option (bL (GExpr×aa)))} (hrec:Aq rec_):HR 34 (ic rec_):=by
 intro C0 F w0 r1 b1 c1 a1 hI r h
 refine fJ (l:=[vp b1 0]) Tryz.func34 rfl Tryz.ntmps34 rfl ?_
 rw[ic]at h
 refine sr (dl (cs:=lp) hI gn rfl rfl gA rfl ?_)
 intro b2 c6 w1 hI
 refine T ?_
 refine sq (pA (vs:=[vp b1 0]) rfl rfl ⟨et,ah⟩) ?_
 refine ll hI bk ([[124]]:List (List UInt8)) gK Rr λb3 c7 w2 hI=>?_
 refine ll hI (ui .i64) ([17]:List Int) yr Rr λb4 c8 w3 hI=>?_
 obtain⟨c9,hI⟩:=hI.release .p1
 obtain⟨c10,hI⟩:=hI.release .z
 obtain⟨c11,f1,hB,hl1,hk1⟩:=hI.hands (.r (.l .n))
 refine dC h (λ_ hx1=>rB hrec HS hx1) (kD hk1) (Rc Tryz.func74) ?_
 rintro⟨r2,s1⟩ hx1 h _ w4 ⟨a6,c12,a7,c13,a8,c14,a9,c15,c16,rfl,hB2⟩
 try dsimp only at h
 refine HN hk1 hB2 λc17 hI=>?_
 refine⟨_,rfl,?_⟩
 refine lA λc18 w5 hI=>?_
 refine nk (aF ?_)
 obtain rfl:=ak h
 refine QG ?_
 exact .inl ⟨_,rfl,a6,c12,a7,c13,a8,c14,a9,c15,_,rfl,hI.arr GO SU⟩
theorem sd (n:Nat):Aq (aq n):=by
 induction n with
 | zero=>intro F;intros;rename_i h;cases h
 | succ n ih=>intro F;intros;apply se ih<;>assumption
theorem mZ:Aq (ky):=sd fu
theorem pK {a1:aa} {a3:GExpr} (hI:Bun C0 F w0 C0 w0 [MO.box b2 67 (ai a1 a2 c1),MO.box b3 39 (aI a3 a4 c2 a5 c3 a6 c4)] [LT af a2 c1 a1.l,Cl.blk b1 65 #[vp b2 0],LT aj a4 c2 a3.Lin.L,LT an a5 c3 a3.Idx,LT ap a6 c4 a3.Args,aA]) {r:bL (Unit×aa×GExpr)} (h:mQ a1 a3=some r):CP C0 F w0 33 #[vp b1 0,vp b3 0] r λrx e w=>∃ a7 c5 a8 c6 a9 c7 a10 c8 C,e= .returned (Value.tuple #[])∧Bun C0 F w0 C w [MO.box b2 67 (ai rx.2.1 a7 c5),MO.box b3 39 (aI rx.2.2 a8 c6 a9 c7 a10 c8)] [LT af a7 c5 rx.2.1.l,LT aj a8 c6 rx.2.2.Lin.L,LT an a9 c7 rx.2.2.Idx,LT ap a10 c8 rx.2.2.Args]:=by
 refine fJ (l:=[vp b1 0,vp b3 0]) Tryz.func33 rfl Tryz.ntmps33 rfl ?_
 rw[mQ]at h
 refine T ?_
 obtain⟨c9,f1,hB,hl1,hk1⟩:=hI.hands (.l (.r .n))
 refine dC h (λ_ hx1=>mZ HS hx1) (kD hk1) (Rc Tryz.func34) ?_
 rintro⟨r1,s1⟩ hx1 h _ w1 ⟨a11,c10,a12,c11,a13,c12,a14,c13,c14,rfl,hB2⟩
 try dsimp only at h
 refine HN hk1 hB2 λc15 hI=>?_
 refine⟨_,rfl,?_⟩
 refine lA λc16 w2 hI=>?_
 refine aO ?_
 obtain rfl:=ak h
 refine QG ?_
 exact .inl ⟨_,rfl,a14,c13,a11,c10,a12,c11,a13,c12,_,rfl,hI.arr GO SU⟩
def kq:Tr:= .n
def kr:Tr:=(.c (4,.s) (.c (6,.q) (.c (7,.q) kq)))
theorem xp (hF:dK F w0) {l1:List bm} {at1:Int} (hc:AllCl [LT af a1 c1 l1,aA] F w0) {r:GExpr×Int×Int} (h:pQ l1 at1=some r):Cg 15 #[vs a1 l1.length c1,vi at1] w0 λe w=>∃ a2 c2 a3 c3 a4 c4,e= .returned (Value.tuple #[(Value.agg (aI r.1 a2 c2 a3 c3 a4 c4)),vi r.2.1,vi r.2.2])∧Ext w0 w∧AllCl [LT aj a2 c2 r.1.Lin.L,LT an a3 c3 r.1.Idx,LT ap a4 c4 r.1.Args] F w:=by
 refine EN Tryz.func15 Tryz.ntmps15 hF hc λhI=>?_
 rw[pQ]at h
 refine sr (dl (cs:=lp) hI gn rfl rfl gA rfl ?_)
 intro b1 c5 w1 hI
 refine tV ?_
 refine tV ?_
 refine nk (al (sr (sm ?_)))
 refine sq (sX rfl et ao) ?_
 refine sm ?_
 refine aH (bV rfl rfl rfl rfl) rfl (λhc=>gp rfl et) ?_
 refine aH (bV rfl rfl rfl rfl) rfl (λhc=>gp rfl et) ?_
 refine aH (bV rfl rfl rfl rfl) rfl (λhc=>oZ rfl KV (aU et hc)) ?_
 refine aH (bV rfl rfl rfl rfl) rfl (λhc=>um rfl (aU et hc) (aU et hc)) ?_
 refine sq (As rfl et et) ?_
 refine TC (λhb h=>?_) λhb h=>?_
 ·refine sr (sq (aC (vs:=[]) (cs:=lp) rfl trivial (by kernel_rfl)) ?_)
  refine lA λc6 w2 hI=>?_
  refine tV ?_
  refine tV ?_
  refine nk (aF ?_)
  have hI:=hI.add (c:=LT aj none 0 ([]:List GMono)) SlC.nil
  have hI:=hI.add (c:=LT an none 0 ([]:List GIndex)) SlC.nil
  have hI:=hI.add (c:=LT ap none 0 ([]:List GExpr)) SlC.nil
  obtain rfl:=ak h
  exact fY (vs:=[(Value.agg lp),vi 0,vi 1]) Tryz.results15 ⟨⟨_,aR rfl rfl,cv (l:=KH) mD rfl aS (LU (hI.blk .z) rfl)⟩,aR rfl rfl,aR rfl rfl,ah⟩ ⟨none,0,none,0,none,0,rfl,hI.ext0,hI.fin ⟨.p2,.p1,.z,ah⟩⟩
 refine bl (bh (sr (sm ?_)))
 refine sm ?_
 refine sq (aC (vs:=[(0,vs a1 l1.length c1),(1,vi at1)]) (cs:=#[vs a1 l1.length c1,vi at1,vi 0]) rfl ⟨rfl,et,rfl,et,ah⟩ (by kernel_rfl)) ?_
 refine kL (v:=(Value.agg #[vs a1 l1.length c1,vi at1,vi 0])) (cs:=#[vs a1 l1.length c1,vi at1,vi 0]) hI gn rfl rfl et rfl ?_
 intro b2 c7 w3 hI
 refine lN λb3 c8 w4 hI=>?_
 refine lS λc9 w5 hI=>?_
 refine nk (sr (sq (aC (vs:=[]) (cs:=lp) rfl trivial (by kernel_rfl)) ?_))
 refine lN λb4 c10 w6 hI=>?_
 refine lA λc11 w7 hI=>?_
 refine nk (al (sr (sq (nW (vs:=[]) (cap:=[vp b3 0,vp b4 0]) rfl rfl ⟨et,et,ah⟩) ?_)))
 obtain⟨c12,hI⟩:=hI.relBox .p1
 have hI:=hI.add (c:=LT aj none 0 ([]:List GMono)) SlC.nil
 have hI:=hI.add (c:=LT an none 0 ([]:List GIndex)) SlC.nil
 have hI:=hI.add (c:=LT ap none 0 ([]:List GExpr)) SlC.nil
 obtain⟨c13,f1,hB,hl1,hk1⟩:=hI.hands (.l (.l (.r .n)))
 replace hB:=hB.ord (.c .p1 (.c .z .n))
 rcases th h with⟨⟨r1,s1,s2⟩,hx1,h⟩ | ⟨pa1,pn1,hx1,hn1,h⟩
 ·skip
  try dsimp only at h
  refine aw gn rfl (Rc Tryz.func29) (Calls.mono (sj (β:=(Option Addr)×Nat×(Option Addr)×Nat×(Option Addr)×Nat×(Option Addr)×Nat) (λx=>[MO.box b2 67 (ai s1 (x.1) (x.2.1)),MO.box b4 39 (aI s2 (x.2.2.1) (x.2.2.2.1) (x.2.2.2.2.1) (x.2.2.2.2.2.1) (x.2.2.2.2.2.2.1) (x.2.2.2.2.2.2.2))]) (λx=>[LT af (x.1) (x.2.1) s1.l,LT aj (x.2.2.1) (x.2.2.2.1) s2.Lin.L,LT an (x.2.2.2.2.1) (x.2.2.2.2.2.1) s2.Idx,LT ap (x.2.2.2.2.2.2.1) (x.2.2.2.2.2.2.2) s2.Args]) (cl:=[LT af a1 c1 l1,Cl.blk b3 65 #[vp b2 0],LT aj none 0 ([]:List GMono),LT an none 0 ([]:List GIndex),LT ap none 0 ([]:List GExpr),aA]) IX (hB.subs ⟨.p4,.p3,.p2,.p1,.z,.p5,ah⟩) (λC1_ F1_ w1_ hB_=>(pK hB_ hx1).mono λe_ w_ hq_=>(let ⟨a5,c14,a6,c15,a7,c16,a8,c17,C_,he_,hB2_⟩:=cV hq_;⟨he_,(a5,c14,a6,c15,a7,c16,a8,c17),C_,hB2_⟩))) ?_)
  rintro _ w8 ⟨rfl,⟨a5,c14,a6,c15,a7,c16,a8,c17⟩,c18,hB2⟩
  obtain⟨c19,hs1,hI⟩:=hk1 _ _ _ _ hB2
  replace hI:Bun du F w0 c19 w8 [MO.box b2 67 (ai s1 a5 c14),MO.box b4 39 (aI s2 a6 c15 a7 c16 a8 c17),MO.box b1 39 lp] [LT af a5 c14 s1.l,LT aj a6 c15 s2.Lin.L,LT an a7 c16 s2.Idx,LT ap a8 c17 s2.Args,LT ap none 0 ([]:List GExpr),LT an none 0 ([]:List GIndex),LT aj none 0 ([]:List GMono),Cl.blk b3 65 #[vp b2 0],LT af a1 c1 l1,aA]:=hI
  refine⟨_,rfl,?_⟩
  refine sm ?_
  refine sq (fO rfl et rfl) ?_
  refine sq (fO rfl et rfl) ?_
  refine sa ?_
  refine sa ?_
  refine nk (sr (sm ?_))
  refine sq (py rfl et ao) ?_
  refine TC (λhb h=>?_) λhb h=>?_
  ·refine sr (sq (aC (vs:=[]) (cs:=lp) rfl trivial (by kernel_rfl)) ?_)
   refine sm ?_
   refine sm ?_
   refine lA λc20 w9 hI=>?_
   refine sa ?_
   refine sa ?_
   refine aO ?_
   refine pc (e:=[(4,vp b1 0),(5,vi 0),(6,vi 0)]) SB ?_
   refine aF ?_
   obtain rfl:=ak h
   exact fY (vs:=[(Value.agg lp),vi 0,vi 0]) Tryz.results15 ⟨⟨_,aR rfl rfl,cv (l:=KH) mD rfl aS (LU (hI.blk .p2) rfl)⟩,aR rfl rfl,aR rfl rfl,ah⟩ ⟨none,0,none,0,none,0,rfl,hI.ext0,hI.fin ⟨.p6,.p5,.p4,ah⟩⟩
  refine bl (pc (e:=[(1,vi at1),(4,vp b1 0),(7,vp b3 0),(8,vp b4 0)]) ⟨rfl,rfl,rfl,rfl,ah⟩ ?_)
  refine al (sr (sq (am (l:=(bz s2 a6 c15 a7 c16 a8 c17)) rfl et mD rfl aS (LU (hI.blk .p1) rfl)) ?_))
  refine sB h (λ_ k=>sO hI.lt FS k) (Rc Tryz.func35) λr2 w10 h hI=>?_
  refine sa ?_
  refine nk (sr (sm ?_))
  refine sq (py rfl et ao) ?_
  refine TC (λhb h=>?_) λhb h=>?_
  ·refine sr (sq (aC (vs:=[]) (cs:=lp) rfl trivial (by kernel_rfl)) ?_)
   refine sm ?_
   refine sm ?_
   refine lA λc21 w11 hI=>?_
   refine sa ?_
   refine sa ?_
   refine nk (aF ?_)
   obtain rfl:=ak h
   exact fY (vs:=[(Value.agg lp),vi at1,vi r2]) Tryz.results15 ⟨⟨_,aR rfl rfl,cv (l:=KH) mD rfl aS (LU (hI.blk .p2) rfl)⟩,aR rfl rfl,aR rfl rfl,ah⟩ ⟨none,0,none,0,none,0,rfl,hI.ext0,hI.fin ⟨.p6,.p5,.p4,ah⟩⟩
  refine bl (bh (al (aJ [5] false (.c (0,.q) (.two 1 (.c (2,.q) (.c (3,.q) (.two 4 (.c (5,.s) (.c (6,.q) (.c (7,.q) kq))) 5 kr))) 5 (.c (1,.s) (.c (2,.q) (.c (3,.q) kr))))) hI (by kernel_rfl) (by kernel_rfl) ?_)))
  intro w15 hI
  refine bT (α:=NP) (T:=kq) (λx=>[(4,vp b1 0),(5,vi s1.at_),(6,vi 0)]) (λx w=>Bun du F w0 x w [MO.box b2 67 (ai s1 a5 c14),MO.box b4 39 (aI s2 a6 c15 a7 c16 a8 c17),MO.box b1 39 (aI s2 a6 c15 a7 c16 a8 c17)] [LT af a5 c14 s1.l,LT aj a6 c15 s2.Lin.L,LT an a7 c16 s2.Idx,LT ap a8 c17 s2.Args,LT ap none 0 ([]:List GExpr),LT an none 0 ([]:List GIndex),LT aj none 0 ([]:List GMono),Cl.blk b3 65 #[vp b2 0],LT af a1 c1 l1,aA]) (λx w=>SN [] (DM true F x) w) ?_ ?_
  ·clear hI;rintro c24 w14 hI
   try dsimp only at hI ⊢
   unfold kq
   refine oY ?_
   refine bh (aF ?_)
   obtain rfl:=ak h
   exact fY (vs:=[(Value.agg (aI s2 a6 c15 a7 c16 a8 c17)),vi s1.at_,vi 0]) Tryz.results15 ⟨⟨_,aR rfl rfl,cv (l:=(bz s2 a6 c15 a7 c16 a8 c17)) mD rfl aS (LU (hI.blk .p2) rfl)⟩,aR rfl rfl,aR rfl rfl,ah⟩ ⟨a6,c15,a7,c16,a8,c17,rfl,hI.ext0,hI.fin ⟨.p1,.p2,.p3,ah⟩⟩
  intro hk_tr_parser_ExprAt_1_1
  refine bT (α:=NP) (T:=kr) (λx=>[(4,vp b1 0),(46,vp b2 1)]) (λx w=>Bun du F w0 x w [MO.box b2 67 (ai s1 a5 c14),MO.box b4 39 (aI s2 a6 c15 a7 c16 a8 c17),MO.box b1 39 (aI s2 a6 c15 a7 c16 a8 c17)] [LT af a5 c14 s1.l,LT aj a6 c15 s2.Lin.L,LT an a7 c16 s2.Idx,LT ap a8 c17 s2.Args,LT ap none 0 ([]:List GExpr),LT an none 0 ([]:List GIndex),LT aj none 0 ([]:List GMono),Cl.blk b3 65 #[vp b2 0],LT af a1 c1 l1,aA]) (λx w=>SN [] (DM true F x) w) ?_ ?_
  ·clear hI;rintro c23 w13 hI
   try dsimp only at hI ⊢
   unfold kr
   refine bq rfl gn rfl (ba (v:=(vi s1.at_)) rfl et u3 rfl (LU (hI.blk .z) rfl)) LW ?_
   refine nv rfl gn rfl (λw'=>cP rfl et) ?_
   refine nv rfl gn rfl (λw'=>cP rfl ao) ?_
   exact bc (hk_tr_parser_ExprAt_1_1 c23 _ (hI.arr GO SU)) SB
  intro hk_tr_parser_ExprAt_1_0
  refine bR rfl gn rfl (λw' hw'=>(am (l:=(bz s2 a6 c15 a7 c16 a8 c17)) rfl et mD rfl aS ((CA.blk (hI.blk .p1) rfl).at_ (SX.any rfl hw')))) (by kernel_rfl) ?_
  refine cL ?_ ?_
  ·skip
   refine bq rfl gn rfl (ba (v:=(vp b2 0)) rfl et LH rfl (hI.kblk (l:=[vp b2 0]) .p7 rfl).1) LW ?_
   refine nv rfl gn rfl (λw'=>nV rfl et) ?_
   refine nv rfl gn rfl (λw'=>aP rfl et KU rfl jP rfl) ?_
   refine cL ?_ ?_
   ·skip
    refine bq rfl gn rfl (ba (v:=(vi s1.at_)) rfl et u3 rfl (LU (hI.blk .z) rfl)) LW ?_
    refine bK (F:=F) (C:=c19) rfl rfl ?_
    refine vA λc22 w12 hI=>?_
    refine nv rfl gn rfl (λw'=>cP rfl et) ?_
    refine nv rfl gn rfl (λw'=>cP rfl ao) ?_
    exact bc (hk_tr_parser_ExprAt_1_1 c22 _ (hI.arr GO SU)) SB
   refine bB (F:=F) (C:=c19) rfl rfl ?_
   refine vA λc22 w12 hI=>?_
   exact bc (hk_tr_parser_ExprAt_1_0 c22 _ (hI.arr GO SU)) SB
  refine bB (F:=F) (C:=c19) rfl rfl ?_
  refine vA λc22 w12 hI=>?_
  refine bq rfl gn rfl (ba (v:=(vp b2 0)) rfl et LH rfl (hI.kblk (l:=[vp b2 0]) .p7 rfl).1) LW ?_
  refine nv rfl gn rfl (λw'=>nV rfl et) ?_
  refine nv rfl gn rfl (λw'=>aP rfl et KU rfl jP rfl) ?_
  exact bc (hk_tr_parser_ExprAt_1_0 c22 _ (hI.arr GO SU)) SB
 try dsimp only at h
 refine aw gn rfl (Rc Tryz.func29) (Calls.mono (sk (cl:=[LT af a1 c1 l1,Cl.blk b3 65 #[vp b2 0],LT aj none 0 ([]:List GMono),LT an none 0 ([]:List GIndex),LT ap none 0 ([]:List GExpr),aA]) IX (hB.subs ⟨.p4,.p3,.p2,.p1,.z,.p5,ah⟩) (λC1_ F1_ w1_ hB_=>(pK hB_ hx1).mono λe_ w_ hq_=>cW hq_)) ?_)
 rintro _ w16 ⟨rfl,c25,hB2⟩
 obtain⟨c26,hs2,hI⟩:=hk1 _ _ _ _ hB2
 replace hI:Bun du F w0 c26 w16 [MO.box b1 39 lp] [LT ap none 0 ([]:List GExpr),LT an none 0 ([]:List GIndex),LT aj none 0 ([]:List GMono),Cl.blk b3 65 #[vp b2 0],LT af a1 c1 l1,aA]:=hI
 refine⟨_,rfl,?_⟩
 have hk2:(!decide (pn1=0))=true:=by simp[hn1]
 refine sm ?_
 refine sq (fO rfl et rfl) ?_
 refine sq (fO rfl et rfl) ?_
 refine sa ?_
 refine sa ?_
 refine nk (sr (sm ?_))
 refine sq (py rfl et ao) ?_
 refine nk (sg (b:= !decide (pn1=0)) et (λ_=>?_) (λhb=>absurd (hb.symm.trans hk2) (by simp)))
 refine sr (sq (aC (vs:=[]) (cs:=lp) rfl trivial (by kernel_rfl)) ?_)
 refine sm ?_
 refine sm ?_
 refine lA λc27 w17 hI=>?_
 refine sa ?_
 refine sa ?_
 refine aO ?_
 refine pc (e:=[(4,vp b1 0),(5,vi pa1),(6,vi pn1)]) SB ?_
 refine aF ?_
 obtain rfl:=ak h
 exact fY (vs:=[(Value.agg lp),vi pa1,vi pn1]) Tryz.results15 ⟨⟨_,aR rfl rfl,cv (l:=KH) mD rfl aS (LU (hI.blk .z) rfl)⟩,aR rfl rfl,aR rfl rfl,ah⟩ ⟨none,0,none,0,none,0,rfl,hI.ext0,hI.fin ⟨.p2,.p1,.z,ah⟩⟩
theorem pT (hF:dK F w0) {s1:List UInt8} {l1:List bm} {at1:Int} (hc:AllCl [LT af a1 c1 l1] F w0) {r:Int} (h:fL s1 l1 at1=some r):CR F w0 40 #[(aT s1),vs a1 l1.length c1,vi at1] (vi r) []:=by
 refine EN Tryz.func40 Tryz.ntmps40 hF hc λhI=>?_
 rw[fL]at h
 refine T ?_
 refine al (T ?_)
 refine TR λhb h=>?_
 refine T ?_
 obtain⟨e1,hx1,h⟩:=ae h
 obtain⟨ad1,cs1,hA1,hr1,hq1⟩:=hI.clat .z hx1
 obtain rfl:cs1=(jx e1):=hr1
 refine sI ?_
 exact RF
theorem pv (hF:dK F w0) {s1:List UInt8} (hc:AllCl [aA] F w0) {r:GExpr×Int×Int} (h:l9 s1=some r):Cg 18 #[(aT s1)] w0 λe w=>∃ a1 c1 a2 c2 a3 c3,e= .returned (Value.tuple #[(Value.agg (aI r.1 a1 c1 a2 c2 a3 c3)),vi r.2.1,vi r.2.2])∧Ext w0 w∧AllCl [LT aj a1 c1 r.1.Lin.L,LT an a2 c2 r.1.Idx,LT ap a3 c3 r.1.Args] F w:=by
 refine EN Tryz.func18 Tryz.ntmps18 hF hc λhI=>?_
 rw[l9]at h
 refine sr (dl (cs:=lp) hI gn rfl rfl gA rfl ?_)
 intro b1 c4 w1 hI
 refine T ?_
 obtain⟨r1,hx1,h⟩:=ae h
 refine aw gn rfl (Rc Tryz.func39) (Calls.mono (rD hI.lt ah hx1) ?_)
 rintro _ w2 ⟨a4,c5,rfl,hx2,hl1⟩
 refine⟨_,rfl,?_⟩
 replace hI:=(hI.ext hx2).adds hl1;dsimp only[ca,na]at hI
 refine T ?_
 refine al (T ?_)
 refine TC (λhb h=>?_) λhb h=>?_
 ·refine sr (sq (aC (vs:=[]) (cs:=lp) rfl trivial (by kernel_rfl)) ?_)
  refine T ?_
  refine lA λc6 w3 hI=>?_
  refine T ?_
  refine aF ?_
  have hI:=hI.add (c:=LT aj none 0 ([]:List GMono)) SlC.nil
  have hI:=hI.add (c:=LT an none 0 ([]:List GIndex)) SlC.nil
  have hI:=hI.add (c:=LT ap none 0 ([]:List GExpr)) SlC.nil
  obtain rfl:=ak h
  refine QG ?_
  exact⟨none,0,none,0,none,0,rfl,hI.ext0,hI.fin ⟨.p2,.p1,.z,ah⟩⟩
 refine T ?_
 obtain⟨r2,hx3,h⟩:=ae h
 refine aw gn rfl (Rc Tryz.func15) (Calls.mono (xp hI.lt FS hx3) ?_)
 rintro _ w4 ⟨a5,c7,a6,c8,a7,c9,rfl,hx4,hl2⟩
 refine⟨_,rfl,?_⟩
 replace hI:=(hI.ext hx4).adds hl2;dsimp only[ca,na]at hI
 refine T ?_
 refine lN λb2 c10 w5 hI=>?_
 refine lA λc11 w6 hI=>?_
 refine T ?_
 refine bM (α:=Int) (λ_=>⟨44,[]⟩) (λx=>[(0,(aT s1)),(2,vp b1 0),(5,vs a4 r1.1.length c5),(7,vi x),(8,vp b2 0),(9,vi r2.2.1)]) (λx=>λw=>∃ C,Bun du F w0 C w [MO.box b1 39 lp,MO.box b2 39 (aI r2.1 a5 c7 a6 c8 a7 c9)] [LT af a4 c5 r1.1,LT aj a5 c7 r2.1.Lin.L,LT an a6 c8 r2.1.Idx,LT ap a7 c9 r2.1.Args,aA]∧nc s1 r1 r2 x=some r) ?_ ?_
 ·clear h hI;rintro e1 w7 ⟨c12,hI,h⟩
  try dsimp only at hI h ⊢
  rw[nc]at h
  refine al (T ?_)
  refine TC (λhb h=>?_) λhb h=>?_
  ·refine sr (sq (aC (vs:=[]) (cs:=lp) rfl trivial (by kernel_rfl)) ?_)
   refine T ?_
   refine sB h (λ_ k=>pT hI.lt FS k) (Rc Tryz.func40) λr3 w8 h hI=>?_
   refine sm ?_
   refine lA λc13 w9 hI=>?_
   refine T ?_
   refine aF ?_
   have hI:=hI.add (c:=LT aj none 0 ([]:List GMono)) SlC.nil
   have hI:=hI.add (c:=LT an none 0 ([]:List GIndex)) SlC.nil
   have hI:=hI.add (c:=LT ap none 0 ([]:List GExpr)) SlC.nil
   obtain rfl:=ak h
   refine QG ?_
   exact⟨none,0,none,0,none,0,rfl,hI.ext0,hI.fin ⟨.p2,.p1,.z,ah⟩⟩
  refine T ?_
  refine lA λc14 w10 hI=>?_
  refine T ?_
  refine aF ?_
  obtain rfl:=ak h
  refine QG ?_
  exact⟨a5,c7,a6,c8,a7,c9,rfl,hI.ext0,hI.fin ⟨.p1,.p2,.p3,ah⟩⟩
 refine TC (λhb h=>?_) λhb h=>?_
 ·refine T ?_
  refine aO ?_
  exact kj 5
 exact bl (bu r2.2.2 SB BH rfl)
theorem pg (hF:dK F w0) {a1 b1:GLin} (hc:AllCl [LT aj a2 c1 a1.L,LT aj a3 c2 b1.L] F w0) {r:Bool} (h:jU a1 b1=some r):CR F w0 14 #[(Value.agg (cx a1 a2 c1)),(Value.agg (cx b1 a3 c2))] (vb r) []:=by
 refine EN Tryz.func14 Tryz.ntmps14 hF hc λhI=>?_
 rw[jU]at h
 refine sr (lX λb2 c4 w1 hI=>?_)
 refine lX λb3 c6 w2 hI=>?_
 refine T ?_
 refine al (T ?_)
 refine TR λhb h=>?_
 refine T ?_
 refine al (T ?_)
 refine bs (α:=Nat×Int) (λx=>λw=>∃ C,Bun du F w0 C w [] [Cl.blk b2 27 (cx a1 a2 c1),LT aj a2 c1 a1.L,Cl.blk b3 27 (cx b1 a3 c2),LT aj a3 c2 b1.L]∧jD a1 b1 (x.1) (x.2)=some r) (λx _=>x.1) (λx=>[(2,vp b2 0),(3,vp b3 0),(5,vi (x.2))]) (fu,0) BH SB ?_
 clear h hI;rintro⟨fuel1,i1⟩ w3 ⟨c7,hI,h⟩
 dsimp only at hI h ⊢
 rcases fuel1 with _ | fuel1
 ·rw[jD]at h;cases h
 rw[jD]at h
 refine al (T ?_)
 refine TC (λhb h=>?_) λhb h=>?_
 ·refine T ?_
  refine al (T ?_)
  refine al (aJ [] false (.c (0,.q) (.c (1,.q) (.c (2,.q) (.c (3,.q) (.c (4,.q) (.c (5,.q) (.c (6,.q) (.c (7,.q) (.c (8,.q) (.c (9,.q) (.c (10,.q) .n))))))))))) hI (by kernel_rfl) (by kernel_rfl) ?_)
  intro w4 hI
  refine V ?_
  obtain⟨e1,hx1,h⟩:=ae h
  obtain⟨ad1,cs1,hA1,hr1,hq1⟩:=hI.clat .p1 hx1
  obtain rfl:cs1=(lk e1):=hr1
  refine vI ?_
  refine bR rfl gn rfl (λw' hw'=>(am (l:=(lk e1)) rfl et u64 rfl tT (hq1.at_ (SX.any rfl hw')))) (by kernel_rfl) ?_
  refine V ?_
  obtain⟨e2,hx2,h⟩:=ae h
  obtain⟨ad2,cs2,hA2,hr2,hq2⟩:=hI.clat .p3 hx2
  obtain rfl:cs2=(lk e2):=hr2
  refine vI ?_
  refine bR rfl gn rfl (λw' hw'=>(am (l:=(lk e2)) rfl et u64 rfl tT (hq2.at_ (SX.any rfl hw')))) (by kernel_rfl) ?_
  refine nv rfl gn rfl (λw'=>jn rfl et et (Bg ..) (DY ..)) ?_
  refine V ?_
  refine TR λhb h=>?_
  refine T ?_
  refine aO ?_
  exact kl (fuel1,au (i1+1))
 refine bv ?_
 refine fi ?_
 refine bh ?_
 exact RF
theorem rE (hF:dK F w0) (hc:AllCl [aA] F w0) {r:Bool} (h:k0=some r):CR F w0 11 #[] (vb r) []:=by
 refine pR Tryz.func11 rfl Tryz.ntmps11 rfl ?_
 have hI:=Bun.start hF hc
 clear hc
 rw[k0]at h
 refine T ?_
 obtain⟨r1,hx1,h⟩:=ae h
 refine aw gn rfl (aD (vs:=[(aT [50,42,105,32,45,32,51,32,43,32,105])]) rfl Lf ⟨ao,ah⟩) (Calls.mono (rv (F:=(Dj F du)) (w0:=w0) hI.lt (s1:=([50,42,105,32,45,32,51,32,43,32,105]:List UInt8)) trivial (r:=r1) hx1) ?_)
 rintro _ w1 ⟨a1,c1,rfl,hx2,hl1⟩
 refine⟨_,rfl,?_⟩
 replace hI:=(hI.ext hx2).adds hl1;dsimp only[ca,na]at hI
 refine T ?_
 obtain⟨r2,hx3,h⟩:=ae h
 refine aw gn rfl (aD (vs:=[vs a1 r1.1.length c1,vi 0]) rfl Lh ⟨et,ao,ah⟩) (Calls.mono (Bt (F:=(Dj F du)) (w0:=w1) hI.lt (l1:=r1.1) (at1:=0) (a1:=a1) (c1:=c1) ⟨(hI.get .z),(hI.get .p1),ah⟩ (r:=r2) hx3) ?_)
 rintro _ w2 ⟨a2,c2,rfl,hx4,hl2⟩
 refine⟨_,rfl,?_⟩
 replace hI:=(hI.ext hx4).adds hl2;dsimp only[ca,na]at hI
 refine T ?_
 refine dl (cs:=#[vi 0,vs none 0 0]) hI gn rfl rfl mi rfl ?_
 clear hI;intro b1 c3 w3 hI
 refine aQ (new:=(fI r2.1 a2 c2)) (cs':=(cx r2.1 a2 c2)) hI .z gn rfl rfl et et rfl bt rfl rfl rfl ?_
 clear hI;intro c4 w4 hI
 refine T ?_
 obtain⟨r3,hx5,h⟩:=ae h
 refine aw gn rfl (aD (vs:=[(aT [97,91,105,93,32,43,32,98,91,93,32,42,32,91,50,93])]) rfl EF ⟨ao,ah⟩) (Calls.mono (pv (F:=(Dj F c4)) (w0:=w4) hI.lt (s1:=([97,91,105,93,32,43,32,98,91,93,32,42,32,91,50,93]:List UInt8)) ⟨(hI.get .p2),ah⟩ (r:=r3) hx5) ?_)
 rintro _ w5 ⟨a3,c5,a4,c6,a5,c7,rfl,hx6,hl3⟩
 refine⟨_,rfl,?_⟩
 replace hI:=(hI.ext hx6).adds hl3;dsimp only[ca,na]at hI
 refine T ?_
 refine dl (cs:=lp) hI gn rfl rfl gA rfl ?_
 clear hI;intro b2 c8 w6 hI
 refine aQ (new:=(bz r3.1 a3 c5 a4 c6 a5 c7)) (cs':=(aI r3.1 a3 c5 a4 c6 a5 c7)) hI .z gn rfl rfl et et rfl aS rfl rfl rfl ?_
 clear hI;intro c9 w7 hI
 refine T ?_
 obtain⟨r4,hx7,h⟩:=ae h
 refine aw gn rfl (aD (vs:=[(aT [97,91])]) rfl EF ⟨ao,ah⟩) (Calls.mono (pv (F:=(Dj F c9)) (w0:=w7) hI.lt (s1:=([97,91]:List UInt8)) ⟨(hI.get .p5),ah⟩ (r:=r4) hx7) ?_)
 rintro _ w8 ⟨a6,c10,a7,c11,a8,c12,rfl,hx8,hl4⟩
 refine⟨_,rfl,?_⟩
 replace hI:=(hI.ext hx8).adds hl4;dsimp only[ca,na]at hI
 refine T ?_
 refine dl (cs:=lp) hI gn rfl rfl gA rfl ?_
 clear hI;intro b3 c13 w9 hI
 refine aQ (new:=(bz r4.1 a6 c10 a7 c11 a8 c12)) (cs':=(aI r4.1 a6 c10 a7 c11 a8 c12)) hI .z gn rfl rfl et et rfl aS rfl rfl rfl ?_
 clear hI;intro c14 w10 hI
 refine T ?_
 obtain⟨r5,hx9,h⟩:=ae h
 refine aw gn rfl (aD (vs:=[(aT [97,91,105,93,32,43,42,32,50])]) rfl EF ⟨ao,ah⟩) (Calls.mono (pv (F:=(Dj F c14)) (w0:=w10) hI.lt (s1:=([97,91,105,93,32,43,42,32,50]:List UInt8)) ⟨(hI.get .p8),ah⟩ (r:=r5) hx9) ?_)
 rintro _ w11 ⟨a9,c15,a10,c16,a11,c17,rfl,hx10,hl5⟩
 refine⟨_,rfl,?_⟩
 replace hI:=(hI.ext hx10).adds hl5;dsimp only[ca,na]at hI
 refine T ?_
 refine dl (cs:=lp) hI gn rfl rfl gA rfl ?_
 clear hI;intro b4 c18 w12 hI
 refine aQ (new:=(bz r5.1 a9 c15 a10 c16 a11 c17)) (cs':=(aI r5.1 a9 c15 a10 c16 a11 c17)) hI .z gn rfl rfl et et rfl aS rfl rfl rfl ?_
 clear hI;intro c19 w13 hI
 refine T ?_
 obtain⟨r6,hx11,h⟩:=ae h
 refine aw gn rfl (aD (vs:=[(aT [102,114,97,99,40,50,47,52,41])]) rfl EF ⟨ao,ah⟩) (Calls.mono (pv (F:=(Dj F c19)) (w0:=w13) hI.lt (s1:=([102,114,97,99,40,50,47,52,41]:List UInt8)) ⟨(hI.get (.s (.s .p9))),ah⟩ (r:=r6) hx11) ?_)
 rintro _ w14 ⟨a12,c20,a13,c21,a14,c22,rfl,hx12,hl6⟩
 refine⟨_,rfl,?_⟩
 replace hI:=(hI.ext hx12).adds hl6;dsimp only[ca,na]at hI
 refine T ?_
 refine dl (cs:=lp) hI gn rfl rfl gA rfl ?_
 clear hI;intro b5 c23 w15 hI
 refine aQ (new:=(bz r6.1 a12 c20 a13 c21 a14 c22)) (cs':=(aI r6.1 a12 c20 a13 c21 a14 c22)) hI .z gn rfl rfl et et rfl aS rfl rfl rfl ?_
 clear hI;intro c24 w16 hI
 refine T ?_
 refine al (T ?_)
 refine aH (bV rfl rfl rfl rfl) rfl (λhc=>(am (l:=(fI r2.1 a2 c2)) rfl et pk rfl bt (LU (hI.blk .p4) rfl))) ?_
 refine aH (bV rfl rfl rfl rfl) rfl (λhc=>(aC (vs:=[(0,(aT [105])),(1,vi 3)]) (cs:=#[(aT [105]),vi 3]) rfl ⟨rfl,ao,rfl,ao,ah⟩ (by kernel_rfl))) ?_
 obtain⟨ho1,h⟩:=fC h
 refine I3 (c:=aj) (xs:=([⟨[105],3⟩]:List GMono)) (vs:=[(0,(Value.agg #[(aT [105]),vi 3]))]) (cs:=#[(aT [105]),vi 3]) (css:=[[(aT [105]),vi 3]]) hI (Hp (bV rfl rfl rfl rfl) ho1) rfl rfl E9 oK rfl ⟨rfl,(aU et ho1),ah⟩ (by kernel_rfl) ⟨rfl,ah⟩ rfl rfl rfl ?_
 clear hI;intro b6 c25 w17 hI
 refine aH (bV rfl rfl rfl rfl) rfl (λhc=>(aC (vs:=[(0,vi (-3)),(1,(vs (some ⟨b6,0,none⟩) ([⟨[105],3⟩]:List GMono).length 1))]) (cs:=#[vi (-3),(vs (some ⟨b6,0,none⟩) ([⟨[105],3⟩]:List GMono).length 1)]) rfl ⟨rfl,ao,rfl,et,ah⟩ (by kernel_rfl))) ?_
 obtain⟨r7,hx13,h⟩:=ae h
 refine aw (Hp (bV rfl rfl rfl rfl) ho1) rfl (aD (vs:=[(Value.agg (cx r2.1 a2 c2)),(Value.agg #[vi (-3),(vs (some ⟨b6,0,none⟩) ([⟨[105],3⟩]:List GMono).length 1)])]) rfl G0 ⟨(aU et ho1),(aU et ho1),ah⟩) (Calls.mono (pg (F:=du) (w0:=w17) NE (a1:=r2.1) (b1:=(⟨(-3),([⟨[105],3⟩]:List GMono)⟩:GLin)) (a2:=a2) (c1:=c2) (a3:=(some ⟨b6,0,none⟩)) (c2:=1) ⟨(hI.get0 (.s (.s (.s .p9)))),hI.lend .z,ah⟩ (r:=r7) hx13) ?_)
 rintro _ w18 ⟨rfl,hx14,hl7⟩
 refine⟨_,rfl,?_⟩
 replace hI:=(hI.ext hx14)
 refine T ?_
 refine CU h et (λhb h=>?_) (λhb h=>?_)
 ·refine T ?_
  refine aF ?_
  obtain rfl:=ak h
  exact QF hI
 refine T ?_
 obtain⟨e1,hx15,h⟩:=ae h
 replace hx15:=ay hx15
 obtain⟨ad1,cs1,hq1⟩:=hI.gclat (.s (.s .p9)) hx15
 obtain⟨a15,c26,a16,c27,a17,c28,hq2⟩:∃ (a15:Option Addr) (c26:Nat) (a16:Option Addr) (c27:Nat) (a17:Option Addr) (c28:Nat),(decide (r3.1.Op=4))=true→(a5=some ad1∧cs1=(bz e1 a15 c26 a16 c27 a17 c28)∧CA (Dj F c25) w18 (ad1.add (Int.toNat 0 * 13)) cs1∧SlC aj (Dj F c25) w18 a15 c26 e1.Lin.L∧SlC an (Dj F c25) w18 a16 c27 e1.Idx∧SlC ap (Dj F c25) w18 a17 c28 e1.Args):=by
  by_cases hc:(decide (r3.1.Op=4))=true
  ·obtain⟨k1,k2,k3⟩:=hq1 hc;obtain⟨a15,c26,a16,c27,a17,c28,rfl,hf1,hf2,hf3⟩:=jm k2;exact⟨a15,c26,a16,c27,a17,c28,λ_=>⟨k1,rfl,k3,hf1,hf2,hf3⟩⟩
  exact⟨default,default,default,default,default,default,λk=>absurd k hc⟩
 clear hq1
 have hI:=hI.add (c:=L1 (decide (r3.1.Op=4)) aj a15 c26 e1.Lin.L) (λhc=>(hq2 hc).2.2.2.1)
 have hI:=hI.add (c:=L1 (decide (r3.1.Op=4)) an a16 c27 e1.Idx) (λhc=>(hq2 hc).2.2.2.2.1)
 have hI:=hI.add (c:=L1 (decide (r3.1.Op=4)) ap a17 c28 e1.Args) (λhc=>(hq2 hc).2.2.2.2.2)
 have hq3:(decide (r3.1.Op=4))=true→CA (Dj F c25) w18 (ad1.add (Int.toNat 0 * 13)) (bz e1 a15 c26 a16 c27 a17 c28):=λhc=>sW (hq2 hc).2.1 (hq2 hc).2.2.1
 refine sJ ?_
 refine T ?_
 obtain⟨e2,hx16,h⟩:=ae h
 replace hx16:=ay hx16
 obtain⟨ad2,cs2,hq4⟩:=hI.gclat (.s (.s (.s (.s (.s .p9))))) hx16
 obtain⟨a18,c29,a19,c30,a20,c31,hq5⟩:∃ (a18:Option Addr) (c29:Nat) (a19:Option Addr) (c30:Nat) (a20:Option Addr) (c31:Nat),((decide (r3.1.Op=4))&&(decide (e1.Op=3)))=true→(a5=some ad2∧cs2=(bz e2 a18 c29 a19 c30 a20 c31)∧CA (Dj F c25) w18 (ad2.add (Int.toNat 1 * 13)) cs2∧SlC aj (Dj F c25) w18 a18 c29 e2.Lin.L∧SlC an (Dj F c25) w18 a19 c30 e2.Idx∧SlC ap (Dj F c25) w18 a20 c31 e2.Args):=by
  by_cases hc:((decide (r3.1.Op=4))&&(decide (e1.Op=3)))=true
  ·obtain⟨k1,k2,k3⟩:=hq4 hc;obtain⟨a18,c29,a19,c30,a20,c31,rfl,hf4,hf5,hf6⟩:=jm k2;exact⟨a18,c29,a19,c30,a20,c31,λ_=>⟨k1,rfl,k3,hf4,hf5,hf6⟩⟩
  exact⟨default,default,default,default,default,default,λk=>absurd k hc⟩
 clear hq4
 have hI:=hI.add (c:=L1 ((decide (r3.1.Op=4))&&(decide (e1.Op=3))) aj a18 c29 e2.Lin.L) (λhc=>(hq5 hc).2.2.2.1)
 have hI:=hI.add (c:=L1 ((decide (r3.1.Op=4))&&(decide (e1.Op=3))) an a19 c30 e2.Idx) (λhc=>(hq5 hc).2.2.2.2.1)
 have hI:=hI.add (c:=L1 ((decide (r3.1.Op=4))&&(decide (e1.Op=3))) ap a20 c31 e2.Args) (λhc=>(hq5 hc).2.2.2.2.2)
 have hq6:((decide (r3.1.Op=4))&&(decide (e1.Op=3)))=true→CA (Dj F c25) w18 (ad2.add (Int.toNat 1 * 13)) (bz e2 a18 c29 a19 c30 a20 c31):=λhc=>sW (hq5 hc).2.1 (hq5 hc).2.2.1
 refine sJ ?_
 refine T ?_
 refine aF ?_
 obtain rfl:=ak h
 exact QF hI
theorem bx (hF:dK F w0) {p1:ab} {k1:Int} {s1:List UInt8} (hc:AllCl [LT af a1 c1 p1.L] F w0) {r:Bool} (h:aK p1 k1 s1=some r):CR F w0 72 #[(Value.agg (ac p1 a1 c1)),vi k1,(aT s1)] (vb r) []:=by
 refine EN Tryz.func72 Tryz.ntmps72 hF hc λhI=>?_
 rw[aK]at h
 refine sr (lX λb1 c3 w1 hI=>?_)
 refine T ?_
 refine al (T ?_)
 refine TR λhb h=>?_
 refine T ?_
 refine bM (α:=Int) (λ_=>⟨53,[]⟩) (λx=>[(1,vi k1),(2,(aT s1)),(3,vp b1 0),(7,vi x)]) (λx=>λw=>∃ C,Bun du F w0 C w [] [Cl.blk b1 72 (ac p1 a1 c1),LT af a1 c1 p1.L]∧l7 p1 k1 s1 x=some r) ?_ ?_
 ·clear h hI;rintro kind1 w2 ⟨c4,hI,h⟩
  try dsimp only at hI h ⊢
  rw[l7]at h
  refine T ?_
  obtain⟨e1,hx1,h⟩:=ae h
  obtain⟨ad1,cs1,hA1,hr1,hq1⟩:=hI.clat .p1 hx1
  obtain rfl:cs1=(jx e1):=hr1
  refine sI ?_
  refine T ?_
  obtain⟨e2,hx2,h⟩:=ae h
  replace hx2:=ay hx2
  obtain⟨ad2,cs2,hq2⟩:=hI.gclat .p1 hx2
  have hq3:(decide (e1.Kind=kind1))=true→CA (Dj F c4) w2 (ad2.add (Int.toNat (au (p1.At+k1)) * 3)) (jx e2):=λhc=>sW (hq2 hc).2.1 (hq2 hc).2.2
  refine sJ ?_
  exact RF
 refine T ?_
 obtain⟨b2,hx3,h⟩:=ae h
 refine sI ?_
 refine T ?_
 obtain⟨b3,hx4,h⟩:=ae h
 replace hx4:=ay hx4
 refine sJ ?_
 refine TC (λhb h=>?_) λhb h=>?_
 ·refine T ?_
  refine aO ?_
  exact kj 1
 exact bl (bu 3 SB BH rfl)
theorem BC (hF:dK F w0) (hc:AllCl [] F w0) {r:List (List UInt8)} (h:no=some r):Cg 116 #[] w0 λe w=>∃ a1 c1,e= .returned (vs a1 r.length c1)∧Ext w0 w∧AllCl [LT bk a1 c1 r] F w:=by
 refine EN Tryz.func116 Tryz.ntmps116 hF hc λhI=>?_
 rw[no]at h
 refine T ?_
 refine ll hI bk ([[115,105,122,101],[119,104,101,114,101],[105,110],[100,101,102],[111,117,116],[115,117,109],[112,114,111,100],[109,105,110],[109,97,120],[115,99,97,110],[111,118,101,114],[105,102],[99,97,115,116],[102,114,97,99],[105,110,116],[102,105,120],[99,101,105,108],[102,108,111,111,114],[122,101,114,111],[101,118,101,110],[115,97,116],[119,114,97,112]]:List (List UInt8)) gK Rr λb1 c2 w1 hI=>?_
 refine T ?_
 refine aF ?_
 obtain⟨c3,hI⟩:=hI.release .z
 obtain rfl:=ak h
 refine QG ?_
 exact⟨some ⟨b1,0,none⟩,22,rfl,hI.ext0,hI.fin ⟨.z,ah⟩⟩
theorem y6 (hF:dK F w0) {l1:List (List UInt8)} {s1:List UInt8} (hc:AllCl [LT bk a1 c1 l1] F w0) {r:Bool} (h:o9 l1 s1=some r):CR F w0 115 #[vs a1 l1.length c1,(aT s1)] (vb r) []:=by
 refine EN Tryz.func115 Tryz.ntmps115 hF hc λhI=>?_
 rw[o9]at h
 refine T ?_
 refine al (T ?_)
 refine bs (α:=Nat×Int) (λx=>λw=>∃ C,Bun du F w0 C w [] [LT bk a1 c1 l1]∧iP l1 s1 (x.1) (x.2)=some r) (λx _=>x.1) (λx=>[(0,vs a1 l1.length c1),(1,(aT s1)),(5,vi (x.2))]) (fu,0) BH SB ?_
 clear h hI;rintro⟨fuel1,i1⟩ w1 ⟨c2,hI,h⟩
 dsimp only at hI h ⊢
 rcases fuel1 with _ | fuel1
 ·rw[iP]at h;cases h
 rw[iP]at h
 refine al (T ?_)
 refine TC (λhb h=>?_) λhb h=>?_
 ·refine T ?_
  refine al (T ?_)
  obtain⟨e1,hx1,h⟩:=ae h
  obtain⟨ad1,cs1,hA1,hr1,hq1⟩:=hI.clat .z hx1
  obtain rfl:cs1=[(aT e1)]:=hr1
  refine sI ?_
  refine TR λhb h=>?_
  refine T ?_
  refine aO ?_
  exact kl (fuel1,au (i1+1))
 refine bv ?_
 refine fi ?_
 refine bh ?_
 exact RF
theorem pM (hF:dK F w0) {s1:List UInt8} (hc:AllCl [] F w0) {r:Bool} (h:iX s1=some r):CR F w0 61 #[(aT s1)] (vb r) []:=by
 refine EN Tryz.func61 Tryz.ntmps61 hF hc λhI=>?_
 rw[iX]at h
 refine T ?_
 refine al (T ?_)
 obtain⟨r1,hx1,h⟩:=ae h
 replace hx1:=ay hx1
 refine GA (β:=(Option Addr)×Nat) (λx=>(vs (x.1) r1.length (x.2))) (λx w'=>AllCl [LT bk (x.1) (x.2) r1] (Dj F du) w') (bV rfl rfl rfl rfl) rfl (λhc=>(aD (vs:=[]) rfl J5 trivial)) (λhc=>(BC hI.lt ah (hx1 hc)).mono λ_ _ ⟨a1,c1,k1_,k2_,k3_⟩=>⟨(a1,c1),k1_,k2_,k3_⟩) ?_
 rintro⟨a1,c1⟩ w1 hx2 hl1;replace hI:=hI.ext hx2
 have hI:=hI.add (c:=L1 (!((decide ((s1.length:Int)<1))||(decide (16<(s1.length:Int))))) bk a1 c1 r1) (λhc=>(hl1 hc).1)
 refine T ?_
 obtain⟨r2,hx3,h⟩:=ae h
 replace hx3:=ay hx3
 refine sU (λhc=>y6 hI.lt ⟨(hI.get .z hc),ah⟩ (hx3 hc)) (Rg Tryz.func115) λw2 hI=>?_
 refine TR λhb h=>?_
 refine T ?_
 refine al (T ?_)
 refine bs (α:=Nat×Int) (λx=>λw=>∃ C,Bun du F w0 C w [] []∧ik s1 (x.1) (x.2)=some r) (λx _=>x.1) (λx=>[(0,(aT s1)),(3,vi (x.2))]) (fu,0) BH SB ?_
 clear h hI;rintro⟨fuel1,i1⟩ w3 ⟨c2,hI,h⟩
 dsimp only at hI h ⊢
 rcases fuel1 with _ | fuel1
 ·rw[ik]at h;cases h
 rw[ik]at h
 refine al (T ?_)
 refine TC (λhb h=>?_) λhb h=>?_
 ·refine T ?_
  refine al (T ?_)
  obtain⟨b1,hx5,h⟩:=ae h
  refine sI ?_
  refine TR λhb h=>?_
  refine T ?_
  refine aO ?_
  exact kl (fuel1,au (i1+1))
 refine bv ?_
 refine fi ?_
 refine bh ?_
 exact RF
theorem qU (hF:dK F w0) {p1:ab} (hc:AllCl [LT af a1 c1 p1.L] F w0) {r:Bool} (h:iM p1=some r):CR F w0 133 #[(Value.agg (ac p1 a1 c1))] (vb r) []:=by
 refine EN Tryz.func133 Tryz.ntmps133 hF hc λhI=>?_
 rw[iM]at h
 refine sr (lX λb1 c3 w1 hI=>?_)
 refine T ?_
 obtain⟨e1,hx1,h⟩:=ae h
 replace hx1:=ay hx1
 obtain⟨ad1,cs1,hq1⟩:=hI.gclat .p1 hx1
 have hq2:((decide (p1.E=0))&&(decide (p1.At<(p1.L.length:Int))))=true→CA (Dj F c3) w1 (ad1.add (Int.toNat p1.At * 3)) (jx e1):=λhc=>sW (hq1 hc).2.1 (hq1 hc).2.2
 refine sJ ?_
 refine T ?_
 obtain⟨e2,hx2,h⟩:=ae h
 replace hx2:=ay hx2
 obtain⟨ad2,cs2,hq3⟩:=hI.gclat .p1 hx2
 have hq4:(((decide (p1.E=0))&&(decide (p1.At<(p1.L.length:Int))))&&(decide (e1.Kind=1)))=true→CA (Dj F c3) w1 (ad2.add (Int.toNat p1.At * 3)) (jx e2):=λhc=>sW (hq3 hc).2.1 (hq3 hc).2.2
 refine sJ ?_
 refine T ?_
 obtain⟨r1,hx3,h⟩:=ae h
 replace hx3:=ay hx3
 refine sU (λhc=>pM hI.lt trivial (hx3 hc)) (Rg Tryz.func61) λw2 hI=>?_
 exact RF
theorem kC (hF:dK F w0) {p1:ab} {at1 e1:Int} (hc:AllCl [LT af a1 c1 p1.L] F w0) {r:ab} (h:bJ p1 at1 e1=some r):Cg 81 #[(Value.agg (ac p1 a1 c1)),vi at1,vi e1] w0 λe w=>∃ a2 c2,e= .returned (Value.agg (ac r a2 c2))∧Ext w0 w∧AllCl [LT af a2 c2 r.L] F w:=by
 refine EN Tryz.func81 Tryz.ntmps81 hF hc λhI=>?_
 rw[bJ]at h
 refine sr (kL (v:=(Value.agg (ac p1 a1 c1))) (cs:=(ac p1 a1 c1)) hI gn rfl rfl et rfl ?_)
 intro b1 c3 w1 hI
 refine lN λb2 c4 w2 hI=>?_
 refine nk (al (T ?_))
 refine TC (λhb h=>?_) λhb h=>?_
 ·refine T ?_
  refine lS λc5 w3 hI=>?_
  refine T ?_
  refine lS λc6 w4 hI=>?_
  refine T ?_
  refine lA λc7 w5 hI=>?_
  refine nk (aF ?_)
  obtain rfl:=ak h
  refine QG ?_
  exact⟨a1,c1,rfl,hI.ext0,hI.fin ⟨.z,ah⟩⟩
 refine T ?_
 refine lA λc8 w6 hI=>?_
 refine nk (aF ?_)
 obtain rfl:=ak h
 refine QG ?_
 exact⟨a1,c1,rfl,hI.ext0,hI.fin ⟨.z,ah⟩⟩
theorem mf (hF:dK F w0) {p1:ab} (hc:AllCl [LT af a1 c1 p1.L] F w0) {r:ab} (h:cq p1=some r):Cg 41 #[(Value.agg (ac p1 a1 c1))] w0 λe w=>∃ a2 c2,e= .returned (Value.agg (ac r a2 c2))∧Ext w0 w∧AllCl [LT af a2 c2 r.L] F w:=by
 refine EN Tryz.func41 Tryz.ntmps41 hF hc λhI=>?_
 rw[cq]at h
 refine sr (lX λb1 c4 w1 hI=>?_)
 refine lN λb2 c5 w2 hI=>?_
 refine nk (al (T ?_))
 refine TC (λhb h=>?_) λhb h=>?_
 ·refine sr (sq (am (l:=(ag p1 a1 c1)) rfl et jO rfl aG (hI.kblk (l:=(ag p1 a1 c1)) .z rfl).1) ?_)
  refine T ?_
  obtain⟨r1,hx1,h⟩:=ae h
  refine aw gn rfl (Rc Tryz.func81) (Calls.mono (kC hI.lt FS hx1) ?_)
  rintro _ w3 ⟨a3,c6,rfl,hx2,hl1⟩
  refine⟨_,rfl,?_⟩
  replace hI:=(hI.ext hx2).adds hl1;dsimp only[ca,na]at hI
  refine lA λc7 w4 hI=>?_
  refine nk (aF ?_)
  obtain rfl:=ak h
  refine QG ?_
  exact⟨a3,c6,rfl,hI.ext0,hI.fin ⟨.z,ah⟩⟩
 refine T ?_
 refine sq (am (l:=(ag p1 a1 c1)) rfl et jO rfl aG (hI.kblk (l:=(ag p1 a1 c1)) .z rfl).1) ?_
 refine T ?_
 obtain⟨r2,hx3,h⟩:=ae h
 refine aw gn rfl (Rc Tryz.func81) (Calls.mono (kC hI.lt FS hx3) ?_)
 rintro _ w5 ⟨a4,c8,rfl,hx4,hl2⟩
 refine⟨_,rfl,?_⟩
 replace hI:=(hI.ext hx4).adds hl2;dsimp only[ca,na]at hI
 refine lA λc9 w6 hI=>?_
 refine nk (aF ?_)
 obtain rfl:=ak h
 refine QG ?_
 exact⟨a4,c8,rfl,hI.ext0,hI.fin ⟨.z,ah⟩⟩
theorem jy (hF:dK F w0) {p1:ab} (hc:AllCl [LT af a1 c1 p1.L] F w0) {r:List UInt8×ab} (h:cy p1=some r):Cg 134 #[(Value.agg (ac p1 a1 c1))] w0 λe w=>∃ a2 c2,e= .returned (Value.tuple #[(aT r.1),(Value.agg (ac r.2 a2 c2))])∧Ext w0 w∧AllCl [LT af a2 c2 r.2.L] F w:=by
 refine EN Tryz.func134 Tryz.ntmps134 hF hc λhI=>?_
 rw[cy]at h
 refine sr (kL (v:=(Value.agg (ac p1 a1 c1))) (cs:=(ac p1 a1 c1)) hI gn rfl rfl et rfl ?_)
 intro b1 c3 w1 hI
 refine tV ?_
 refine lN λb2 c4 w2 hI=>?_
 refine nk (al (T ?_))
 refine sB h (λ_ k=>qU hI.lt FS k) (Rc Tryz.func133) λr1 w3 h hI=>?_
 refine TC (λhb h=>?_) λhb h=>?_
 ·refine T ?_
  obtain⟨r2,hx3,h⟩:=ae h
  refine aw gn rfl (Rc Tryz.func41) (Calls.mono (mf hI.lt FS hx3) ?_)
  rintro _ w4 ⟨a3,c5,rfl,hx4,hl2⟩
  refine⟨_,rfl,?_⟩
  replace hI:=(hI.ext hx4).adds hl2;dsimp only[ca,na]at hI
  refine tV ?_
  refine lA λc6 w5 hI=>?_
  refine nk (aF ?_)
  obtain rfl:=ak h
  refine QG ?_
  exact⟨a3,c5,rfl,hI.ext0,hI.fin ⟨.z,ah⟩⟩
 refine T ?_
 refine lS λc7 w6 hI=>?_
 refine nk (al (aJ [10] false (.c (0,.q) (.c (1,.q) (.c (2,.q) (.c (3,.q) (.c (4,.q) (.c (5,.q) (.c (6,.q) (.c (7,.q) (.c (8,.q) (.c (9,.q) (.c (10,.s) .n))))))))))) hI (by kernel_rfl) (by kernel_rfl) ?_))
 intro w7 hI
 refine V ?_
 obtain⟨e1,hx5,h⟩:=ae h
 obtain⟨ad1,cs1,hA1,hr1,hq1⟩:=hI.clat .z hx5
 obtain rfl:cs1=(jx e1):=hr1
 refine vI ?_
 refine V ?_
 refine bR rfl gn rfl (λw' hw'=>(am (l:=[vs a1 p1.L.length c1,(vi (au (p1.At+1))),vi p1.Deep,vi p1.E,vi p1.Pos]) rfl et jO rfl aG ((CA.blk (hI.blk .p1) rfl).at_ (SX.any rfl hw')))) (by kernel_rfl) ?_
 refine V ?_
 refine bK (F:=F) (C:=c7) rfl rfl ?_
 refine vA λc8 w8 hI=>?_
 refine V ?_
 refine aF ?_
 obtain rfl:=ak h
 refine QG ?_
 exact⟨a1,c1,rfl,hI.ext0,hI.fin ⟨.z,ah⟩⟩
theorem wS (hF:dK F w0) {name1:List UInt8} (hc:AllCl [] F w0) {r:GLin} (h:fG name1=some r):Cg 135 #[(aT name1)] w0 λe w=>∃ a1 c1,e= .returned (Value.agg (cx r a1 c1))∧Ext w0 w∧AllCl [LT aj a1 c1 r.L] F w:=by
 refine EN Tryz.func135 Tryz.ntmps135 hF hc λhI=>?_
 rw[fG]at h
 refine sr (dl (cs:=#[vi 0,vs none 0 0]) hI gn rfl rfl mi rfl ?_)
 intro b1 c2 w1 hI
 refine nk (al (T ?_))
 refine sB h (λ_ k=>pM hI.lt trivial k) (Rc Tryz.func61) λr1 w2 h hI=>?_
 refine TC (λhb h=>?_) λhb h=>?_
 ·refine sr (sq (aC (vs:=[]) (cs:=#[vi 0,vs none 0 0]) rfl trivial (by kernel_rfl)) ?_)
  refine lA λc3 w3 hI=>?_
  refine nk (aF ?_)
  have hI:=hI.add (c:=LT aj none 0 ([]:List GMono)) SlC.nil
  obtain rfl:=ak h
  refine QG ?_
  exact⟨none,0,rfl,hI.ext0,hI.fin ⟨.z,ah⟩⟩
 refine T ?_
 refine sq (aC (vs:=[(0,(aT name1)),(1,vi 1)]) (cs:=#[(aT name1),vi 1]) rfl ⟨rfl,et,rfl,ao,ah⟩ (by kernel_rfl)) ?_
 refine ll hI aj ([⟨name1,1⟩]:List GMono) oK Rr λb2 c4 w4 hI=>?_
 refine sq (aC (vs:=[(1,(vs (some ⟨b2,0,none⟩) ([⟨name1,1⟩]:List GMono).length 1))]) (cs:=#[vi 0,(vs (some ⟨b2,0,none⟩) ([⟨name1,1⟩]:List GMono).length 1)]) rfl ⟨rfl,et,ah⟩ (by kernel_rfl)) ?_
 refine lA λc5 w5 hI=>?_
 refine nk (aF ?_)
 obtain⟨c6,hI⟩:=hI.release .z
 obtain rfl:=ak h
 refine QG ?_
 exact⟨some ⟨b2,0,none⟩,1,rfl,hI.ext0,hI.fin ⟨.z,ah⟩⟩
theorem yJ (hF:dK F w0) {s1:List UInt8} (hc:AllCl [] F w0) {r:Bool} (h:ot s1=some r):CR F w0 188 #[(aT s1)] (vb r) []:=by
 refine EN Tryz.func188 Tryz.ntmps188 hF hc λhI=>?_
 rw[ot]at h
 refine T ?_
 refine bM (α:=Unit) (λ_=>⟨32,[]⟩) (λ_=>[(0,(aT s1))]) (λ_=>λw=>∃ C,Bun du F w0 C w [] []∧kw s1=some r) ?_ ?_
 ·clear h hI;rintro _ w1 ⟨c1,hI,h⟩
  try dsimp only at hI h ⊢
  rw[kw]at h
  refine T ?_
  obtain⟨b1,hx1,h⟩:=ae h
  replace hx1:=ay hx1
  refine sJ ?_
  exact RF
 refine T ?_
 refine bs (α:=Nat×Int) (λx=>λw=>∃ C,Bun du F w0 C w [] []∧gh s1 (x.1) (x.2)=some r) (λx _=>x.1) (λx=>[(0,(aT s1)),(3,vi (x.2))]) (fu,0) BH SB ?_
 clear h hI;rintro⟨fuel1,i1⟩ w2 ⟨c2,hI,h⟩
 dsimp only at hI h ⊢
 rcases fuel1 with _ | fuel1
 ·rw[gh]at h;cases h
 rw[gh]at h
 refine al (T ?_)
 refine TC (λhb h=>?_) λhb h=>?_
 ·refine T ?_
  refine al (T ?_)
  obtain⟨b2,hx2,h⟩:=ae h
  refine sI ?_
  refine T ?_
  obtain⟨b3,hx3,h⟩:=ae h
  replace hx3:=ay hx3
  refine sJ ?_
  refine TR λhb h=>?_
  refine T ?_
  refine aO ?_
  exact kl (fuel1,au (i1+1))
 refine bv ?_
 refine fi ?_
 exact kj ()
theorem oM (hF:dK F w0) {p1:ab} (hc:AllCl [LT af a1 c1 p1.L] F w0) {r:List UInt8×ab} (h:eK p1=some r):Cg 136 #[(Value.agg (ac p1 a1 c1))] w0 λe w=>∃ a2 c2,e= .returned (Value.tuple #[(aT r.1),(Value.agg (ac r.2 a2 c2))])∧Ext w0 w∧AllCl [LT af a2 c2 r.2.L] F w:=by
 refine EN Tryz.func136 Tryz.ntmps136 hF hc λhI=>?_
 rw[eK]at h
 refine sr (kL (v:=(Value.agg (ac p1 a1 c1))) (cs:=(ac p1 a1 c1)) hI gn rfl rfl et rfl ?_)
 intro b1 c3 w1 hI
 refine tV ?_
 refine lN λb2 c4 w2 hI=>?_
 refine nk (al (T ?_))
 obtain⟨e1,hx1,h⟩:=ae h
 replace hx1:=ay hx1
 obtain⟨ad1,cs1,hq1⟩:=hI.gclat .z hx1
 have hq2:(!((!decide (p1.E=0))||(decide ((p1.L.length:Int)≤p1.At))))=true→CA (Dj F c4) w2 (ad1.add (Int.toNat p1.At * 3)) (jx e1):=λhc=>sW (hq1 hc).2.1 (hq1 hc).2.2
 refine sJ ?_
 refine T ?_
 obtain⟨e2,hx2,h⟩:=ae h
 replace hx2:=ay hx2
 obtain⟨ad2,cs2,hq3⟩:=hI.gclat .z hx2
 have hq4:(!(((!decide (p1.E=0))||(decide ((p1.L.length:Int)≤p1.At)))||(!decide (e1.Kind=2))))=true→CA (Dj F c4) w2 (ad2.add (Int.toNat p1.At * 3)) (jx e2):=λhc=>sW (hq3 hc).2.1 (hq3 hc).2.2
 refine sJ ?_
 refine T ?_
 obtain⟨r1,hx3,h⟩:=ae h
 replace hx3:=ay hx3
 refine sU (λhc=>yJ hI.lt trivial (hx3 hc)) (Rg Tryz.func188) λw3 hI=>?_
 refine TC (λhb h=>?_) λhb h=>?_
 ·refine T ?_
  obtain⟨r2,hx5,h⟩:=ae h
  refine aw gn rfl (Rc Tryz.func41) (Calls.mono (mf hI.lt FS hx5) ?_)
  rintro _ w4 ⟨a3,c5,rfl,hx6,hl2⟩
  refine⟨_,rfl,?_⟩
  replace hI:=(hI.ext hx6).adds hl2;dsimp only[ca,na]at hI
  refine tV ?_
  refine lA λc6 w5 hI=>?_
  refine nk (aF ?_)
  obtain rfl:=ak h
  refine QG ?_
  exact⟨a3,c5,rfl,hI.ext0,hI.fin ⟨.z,ah⟩⟩
 refine T ?_
 refine lS λc7 w6 hI=>?_
 refine nk (al (aJ [10] false (.c (0,.q) (.c (1,.q) (.c (2,.q) (.c (3,.q) (.c (4,.q) (.c (5,.q) (.c (6,.q) (.c (7,.q) (.c (8,.q) (.c (9,.q) (.c (10,.s) .n))))))))))) hI (by kernel_rfl) (by kernel_rfl) ?_))
 intro w7 hI
 refine V ?_
 obtain⟨e3,hx7,h⟩:=ae h
 obtain⟨ad3,cs3,hA3,hr3,hq5⟩:=hI.clat .z hx7
 obtain rfl:cs3=(jx e3):=hr3
 refine vI ?_
 refine V ?_
 refine bR rfl gn rfl (λw' hw'=>(am (l:=[vs a1 p1.L.length c1,(vi (au (p1.At+1))),vi p1.Deep,vi p1.E,vi p1.Pos]) rfl et jO rfl aG ((CA.blk (hI.blk .p1) rfl).at_ (SX.any rfl hw')))) (by kernel_rfl) ?_
 refine V ?_
 refine bK (F:=F) (C:=c7) rfl rfl ?_
 refine vA λc8 w8 hI=>?_
 refine V ?_
 refine aF ?_
 obtain rfl:=ak h
 refine QG ?_
 exact⟨a1,c1,rfl,hI.ext0,hI.fin ⟨.z,ah⟩⟩
theorem sn (hF:dK F w0) {a1 b1:Int} (hc:AllCl [] F w0) {r:Int×Bool} (h:jw a1 b1=some r):CR F w0 189 #[vi a1,vi b1] (Value.tuple #[vi r.1,vb r.2]) []:=by
 refine EN Tryz.func189 Tryz.ntmps189 hF hc λhI=>?_
 rw[jw]at h
 refine T ?_
 refine al (T ?_)
 refine TR λhb h=>?_
 refine T ?_
 refine al (T ?_)
 obtain⟨ho1,h⟩:=fC h
 refine aH (bV rfl rfl rfl rfl) rfl (λhc=>BT rfl (aU et hc) (aU et hc) (ho1 hc)) ?_
 refine TR λhb h=>?_
 exact RF
theorem tO (hF:dK F w0) {a1 b1:Int} (hc:AllCl [] F w0) {r:Int×Bool} (h:mW a1 b1=some r):CR F w0 190 #[vi a1,vi b1] (Value.tuple #[vi r.1,vb r.2]) []:=by
 refine EN Tryz.func190 Tryz.ntmps190 hF hc λhI=>?_
 rw[mW]at h
 refine T ?_
 refine al (T ?_)
 refine TR λhb h=>?_
 exact RF
theorem tF (hF:dK F w0) {s1:List UInt8} {negative1:Bool} (hc:AllCl [] F w0) {r:Int×Bool} (h:hT s1 negative1=some r):CR F w0 137 #[(aT s1),vb negative1] (Value.tuple #[vi r.1,vb r.2]) []:=by
 refine EN Tryz.func137 Tryz.ntmps137 hF hc λhI=>?_
 rw[hT]at h
 refine T ?_
 refine al (T ?_)
 refine bs (α:=Nat×Int×Int) (λx=>λw=>∃ C,Bun du F w0 C w [] []∧cT s1 negative1 (x.1) (x.2.1) (x.2.2)=some r) (λx _=>x.1) (λx=>[(0,(aT s1)),(1,vb negative1),(6,vi (x.2.1)),(7,vi (x.2.2))]) (fu,0,0) BH SB ?_
 clear h hI;rintro⟨fuel1,n1,i1⟩ w1 ⟨c1,hI,h⟩
 dsimp only at hI h ⊢
 rcases fuel1 with _ | fuel1
 ·rw[cT]at h;cases h
 rw[cT]at h
 refine al (T ?_)
 refine TC (λhb h=>?_) λhb h=>?_
 ·refine T ?_
  refine al (T ?_)
  obtain⟨b1,hx1,h⟩:=ae h
  refine sI ?_
  refine T ?_
  refine bM (α:=Int) (λ_=>⟨46,[]⟩) (λx=>[(0,(aT s1)),(1,vb negative1),(6,vi n1),(7,vi i1),(8,vi x)]) (λx=>λw=>∃ C,Bun du F w0 C w [] []∧jb n1 (cT s1 negative1 fuel1) i1 x=some r) ?_ ?_
  ·clear h hI;rintro d1 w2 ⟨c2,hI,h⟩
   try dsimp only at hI h ⊢
   rw[jb]at h
   refine T ?_
   refine sB h (λ_ k=>sn hI.lt trivial k) (Rc Tryz.func189) λr1 w3 h hI=>?_
   refine T ?_
   refine sB h (λ_ k=>tO hI.lt trivial k) (Rc Tryz.func190) λr2 w4 h hI=>?_
   refine T ?_
   refine al (T ?_)
   refine TR λhb h=>?_
   refine T ?_
   refine aO ?_
   exact kl (fuel1,r2.1,au (i1+1))
  refine TC (λhb h=>?_) λhb h=>?_
  ·refine jX rfl ?_
   refine sm ?_
   refine sq (Ga rfl et) ?_
   obtain⟨d2,hx6,h⟩:=ae h
   refine sq (va (cP rfl et) (congrArg (Value.int .i64) (ak hx6))) ?_
   refine aO ?_
   exact kj d2
  exact bl (bu (au (HY (b1 - 48))) SB BH rfl)
 refine bv ?_
 refine fi ?_
 refine bh ?_
 exact RF
theorem nU (hF:dK F w0) {l1:GLin} (hc:AllCl [LT aj a1 c1 l1.L] F w0) {r:Bool} (h:iw l1=some r):CR F w0 114 #[(Value.agg (cx l1 a1 c1))] (vb r) []:=by
 refine EN Tryz.func114 Tryz.ntmps114 hF hc λhI=>?_
 rw[iw]at h
 refine sr (lX λb1 c3 w1 hI=>?_)
 refine T ?_
 refine al (T ?_)
 refine bs (α:=Nat×Int) (λx=>λw=>∃ C,Bun du F w0 C w [] [Cl.blk b1 27 (cx l1 a1 c1),LT aj a1 c1 l1.L]∧dD l1 (x.1) (x.2)=some r) (λx _=>x.1) (λx=>[(1,vp b1 0),(3,vi (x.2))]) (fu,0) BH SB ?_
 clear h hI;rintro⟨fuel1,i1⟩ w2 ⟨c4,hI,h⟩
 dsimp only at hI h ⊢
 rcases fuel1 with _ | fuel1
 ·rw[dD]at h;cases h
 rw[dD]at h
 refine al (T ?_)
 refine TC (λhb h=>?_) λhb h=>?_
 ·refine T ?_
  refine al (T ?_)
  refine al (aJ [] false (.c (0,.q) (.c (1,.q) (.c (2,.q) (.c (3,.q) (.c (4,.q) (.c (5,.q) (.c (6,.s) (.c (7,.q) (.c (8,.q) (.c (9,.q) (.c (10,.q) (.c (11,.q) (.c (12,.q) (.c (13,.q) (.c (14,.q) (.c (15,.q) (.c (16,.q) (.c (17,.q) (.c (18,.q) (.c (19,.q) (.c (20,.q) (.c (21,.q) (.c (22,.q) (.c (23,.q) (.c (24,.q) (.c (25,.q) (.c (26,.q) (.c (27,.q) (.c (28,.q) (.c (29,.q) (.c (30,.q) (.c (31,.q) (.c (32,.q) (.c (33,.q) (.c (34,.q) (.c (35,.q) (.c (36,.q) .n))))))))))))))))))))))))))))))))))))) hI (by kernel_rfl) (by kernel_rfl) ?_)
  intro w3 hI
  refine V ?_
  obtain⟨e1,hx1,h⟩:=ae h
  obtain⟨ad1,cs1,hA1,hr1,hq1⟩:=hI.clat .p1 hx1
  obtain rfl:cs1=(lk e1):=hr1
  refine vI ?_
  refine V ?_
  obtain⟨r1,hx2,h⟩:=ae h
  refine dk rfl gn rfl (aD (vs:=[(aT e1.Name)]) rfl Lc ⟨et,ah⟩) (Calls.mono (pM hI.lt ah hx2) ?_)
  rintro _ w4 ⟨rfl,hx3,hl1⟩
  refine⟨_,rfl,hx3,?_⟩
  replace hI:=(hI.ext hx3)
  refine V ?_
  obtain⟨e2,hx4,h⟩:=ae h
  replace hx4:=ay hx4
  obtain⟨ad2,cs2,hq2⟩:=hI.gclat .p1 hx4
  have hq3:(!(!r1))=true→CA (Dj F c4) w4 (ad2.add (Int.toNat i1 * 2)) (lk e2):=λhc=>sW (hq2 hc).2.1 (hq2 hc).2.2
  refine vJ ?_
  refine V ?_
  obtain⟨e3,hx5,h⟩:=ae h
  replace hx5:=ay hx5
  obtain⟨ad3,cs3,hq4⟩:=hI.gclat .p1 hx5
  have hq5:((!((!r1)||(decide (e2.By=0))))&&(decide (0<i1)))=true→CA (Dj F c4) w4 (ad3.add (Int.toNat (au (i1 - 1)) * 2)) (lk e3):=λhc=>sW (hq4 hc).2.1 (hq4 hc).2.2
  refine vJ ?_
  refine V ?_
  obtain⟨e4,hx6,h⟩:=ae h
  replace hx6:=ay hx6
  obtain⟨ad4,cs4,hq6⟩:=hI.gclat .p1 hx6
  have hq7:((!((!r1)||(decide (e2.By=0))))&&(decide (0<i1)))=true→CA (Dj F c4) w4 (ad4.add (Int.toNat i1 * 2)) (lk e4):=λhc=>sW (hq6 hc).2.1 (hq6 hc).2.2
  refine vJ ?_
  refine V ?_
  refine TR λhb h=>?_
  refine T ?_
  refine aO ?_
  exact kl (fuel1,au (i1+1))
 refine bv ?_
 refine fi ?_
 refine bh ?_
 exact RF
theorem pf (hF:dK F w0) {l1:GLin} (hc:AllCl [LT aj a1 c1 l1.L] F w0) {r:Int} (h:iG l1=some r):CR F w0 170 #[(Value.agg (cx l1 a1 c1))] (vi r) []:=by
 refine EN Tryz.func170 Tryz.ntmps170 hF hc λhI=>?_
 rw[iG]at h
 refine sr (lX λb1 c3 w1 hI=>?_)
 refine T ?_
 refine al (sr (sq (am (l:=(fI l1 a1 c1)) rfl et pk rfl bt (hI.kblk (l:=(fI l1 a1 c1)) .z rfl).1) ?_))
 refine sB h (λ_ k=>nU hI.lt FS k) (Rc Tryz.func114) λr1 w2 h hI=>?_
 refine TR λhb h=>?_
 exact RF
theorem zB (hF:dK F w0) {a1:GLin} {by1:Int} (hc:AllCl [LT aj a2 c1 a1.L] F w0) {r:GLin×Int} (h:g9 a1 by1=some r):Cg 138 #[(Value.agg (cx a1 a2 c1)),vi by1] w0 λe w=>∃ a3 c2,e= .returned (Value.tuple #[(Value.agg (cx r.1 a3 c2)),vi r.2])∧Ext w0 w∧AllCl [LT aj a3 c2 r.1.L] F w:=by
 refine EN Tryz.func138 Tryz.ntmps138 hF hc λhI=>?_
 rw[g9]at h
 refine sr (lX λb1 c4 w1 hI=>?_)
 refine lN λb2 c5 w2 hI=>?_
 refine T ?_
 refine al (sr (sq (am (l:=(fI a1 a2 c1)) rfl et pk rfl bt (hI.kblk (l:=(fI a1 a2 c1)) .z rfl).1) ?_))
 refine sB h (λ_ k=>pf hI.lt FS k) (Rc Tryz.func170) λr1 w3 h hI=>?_
 refine TC (λhb h=>?_) λhb h=>?_
 ·refine sr (sq (aC (vs:=[]) (cs:=#[vi 0,vs none 0 0]) rfl trivial (by kernel_rfl)) ?_)
  refine lA λc6 w4 hI=>?_
  refine T ?_
  refine aF ?_
  have hI:=hI.add (c:=LT aj none 0 ([]:List GMono)) SlC.nil
  obtain rfl:=ak h
  refine QG ?_
  exact⟨none,0,rfl,hI.ext0,hI.fin ⟨.z,ah⟩⟩
 refine T ?_
 refine al (T ?_)
 refine TC (λhb h=>?_) λhb h=>?_
 ·refine sr (sq (aC (vs:=[]) (cs:=#[vi 0,vs none 0 0]) rfl trivial (by kernel_rfl)) ?_)
  refine lA λc7 w5 hI=>?_
  refine T ?_
  refine aF ?_
  have hI:=hI.add (c:=LT aj none 0 ([]:List GMono)) SlC.nil
  obtain rfl:=ak h
  refine QG ?_
  exact⟨none,0,rfl,hI.ext0,hI.fin ⟨.z,ah⟩⟩
 refine T ?_
 refine sB h (λ_ k=>sn hI.lt trivial k) (Rc Tryz.func189) λr2 w6 h hI=>?_
 refine T ?_
 refine al (T ?_)
 refine TC (λhb h=>?_) λhb h=>?_
 ·refine sr (sq (aC (vs:=[]) (cs:=#[vi 0,vs none 0 0]) rfl trivial (by kernel_rfl)) ?_)
  refine lA λc8 w7 hI=>?_
  refine T ?_
  refine aF ?_
  have hI:=hI.add (c:=LT aj none 0 ([]:List GMono)) SlC.nil
  obtain rfl:=ak h
  refine QG ?_
  exact⟨none,0,rfl,hI.ext0,hI.fin ⟨.z,ah⟩⟩
 refine T ?_
 refine sq (aC (vs:=[(0,vi r2.1)]) (cs:=#[vi r2.1,vs none 0 0]) rfl ⟨rfl,et,ah⟩ (by kernel_rfl)) ?_
 refine lN λb3 c9 w8 hI=>?_
 refine lA λc10 w9 hI=>?_
 refine nk (al (T ?_))
 have hI:=hI.nil aj 64 none
 refine bs (α:=Nat×Int×GLin×(Option Addr)×Nat) (λx=>λw=>∃ C,Bun du F w0 C w [LV aj 64 (x.2.2.2.1) (x.2.2.2.2) (x.2.2.1).L,MO.box b2 27 #[vi 0,vs none 0 0],MO.box b3 27 (cx (x.2.2.1) (x.2.2.2.1) (x.2.2.2.2))] [Cl.blk b1 27 (cx a1 a2 c1),LT aj a2 c1 a1.L]∧iH a1 by1 (x.1) (x.2.1) (x.2.2.1)=some r) (λx _=>x.1) (λx=>[(1,vi by1),(2,vp b1 0),(4,vp b2 0),(8,vp b3 0),(9,vi (x.2.1))]) (fu,0,(⟨r2.1,[]⟩:GLin),none,0) ⟨_,hI.arr (.c .z (.c .p1 (.c .z .n))) ⟨.z,.p1,ah⟩,h⟩ SB ?_
 clear h hI;rintro⟨fuel1,i1,aN,a4,c11⟩ w10 ⟨c12,hI,h⟩
 dsimp only at hI h ⊢
 rcases fuel1 with _ | fuel1
 ·rw[iH]at h;cases h
 rw[iH]at h
 refine al (T ?_)
 refine TC (λhb h=>?_) λhb h=>?_
 ·refine T ?_
  refine al (T ?_)
  obtain⟨e1,hx5,h⟩:=ae h
  obtain⟨ad1,cs1,hA1,hr1,hq1⟩:=hI.clat .p1 hx5
  obtain rfl:cs1=(lk e1):=hr1
  refine sI ?_
  refine T ?_
  refine sB h (λ_ k=>sn hI.lt trivial k) (Rc Tryz.func189) λr3 w11 h hI=>?_
  refine T ?_
  refine al (T ?_)
  refine TC (λhb h=>?_) λhb h=>?_
  ·refine sr (sq (aC (vs:=[]) (cs:=#[vi 0,vs none 0 0]) rfl trivial (by kernel_rfl)) ?_)
   refine lA λc13 w12 hI=>?_
   refine T ?_
   refine aF ?_
   have hI:=hI.add (c:=LT aj none 0 ([]:List GMono)) SlC.nil
   obtain rfl:=ak h
   refine QG ?_
   exact⟨none,0,rfl,hI.ext0,hI.fin ⟨.z,ah⟩⟩
  refine T ?_
  refine aJ [11,13] false (.c (0,.q) (.c (1,.q) (.c (2,.q) (.c (3,.q) (.c (4,.q) (.c (5,.q) (.c (6,.q) (.c (7,.q) (.c (8,.q) (.c (9,.q) (.c (10,.s) (.c (11,.s) (.c (12,.q) (.c (13,.s) .n)))))))))))))) hI (by kernel_rfl) (by kernel_rfl) ?_
  intro w13 hI
  refine V ?_
  obtain⟨e2,hx8,h⟩:=ae h
  obtain⟨ad2,cs2,hA2,hr2,hq2⟩:=hI.clat .p1 hx8
  obtain rfl:cs2=(lk e2):=hr2
  refine vI ?_
  refine V ?_
  refine nv rfl gn rfl (λw'=>(aC (vs:=[(0,(aT e2.Name)),(1,vi r3.1)]) (cs:=#[(aT e2.Name),vi r3.1]) rfl ⟨rfl,et,rfl,et,ah⟩ (by kernel_rfl))) ?_
  refine vl hI aj ([⟨e2.Name,r3.1⟩]:List GMono) oK Rr λb4 c14 w14 hI=>?_
  refine bK (F:=F) (C:=c14) rfl rfl ?_
  obtain⟨zs1,hx9,h⟩:=ae h
  refine nr (xs:=aN.L) (ys:=([⟨e2.Name,r3.1⟩]:List GMono)) hI .p1 (hI.rd .z) hx9 rfl gn rfl rfl E9 oK rfl rfl et et ?_
  intro a5 c15 c16 w15 hI
  refine V ?_
  refine vS λc17 w16 hI=>?_
  refine V ?_
  refine T ?_
  refine aO ?_
  exact ny (fuel1,au (i1+1),(⟨aN.K,zs1⟩:GLin),a5,c15) SB ⟨_,hI.arr GO SU,h⟩ (Nat.lt_succ_self _)
 refine bv ?_
 refine fi ?_
 refine bh ?_
 refine T ?_
 refine lA λc18 w17 hI=>?_
 refine T ?_
 refine aF ?_
 obtain⟨c19,hI⟩:=hI.release .z
 obtain rfl:=ak h
 refine QG ?_
 exact⟨a4,c11,rfl,hI.ext0,hI.fin ⟨.z,ah⟩⟩
theorem wv {l1:List (List UInt8)} {s1:List UInt8} (hI:Bun C0 F w0 C0 w0 [LV bk 9 a1 c1 l1] []) {r:List (List UInt8)} (h:kU l1 s1=some r):Cg 226 #[vs a1 l1.length c1,(aT s1)] w0 λe w=>∃ a2 c2 C,e= .returned (vs a2 r.length c2)∧Bun C0 F w0 C w [LV bk 9 a2 c2 r] []:=by
 refine pR Tryz.func226 rfl Tryz.ntmps226 rfl ?_
 rw[kU]at h
 refine sr (tV ?_)
 refine nk (al (sr (sm ?_)))
 refine sm ?_
 refine sB h (λ_ k=>y6 NE ⟨hI.lend .z,ah⟩ k) (Rc Tryz.func115) λr1 w1 h hI=>?_
 refine TC (λhb h=>?_) λhb h=>?_
 ·refine sr (sm ?_)
  refine sa ?_
  refine nk (aF ?_)
  obtain rfl:=ak h
  exact fY (vs:=[vs a1 l1.length c1]) Tryz.results226 ⟨aR rfl rfl,ah⟩ ⟨a1,c1,_,rfl,hI.arr GO SU⟩
 refine bl (bh (sr (sm ?_)))
 refine sm ?_
 refine ll hI bk ([s1]:List (List UInt8)) gK Rr λb1 c3 w2 hI=>?_
 obtain⟨zs1,hx3,h⟩:=ae h
 refine il (xs:=l1) (ys:=([s1]:List (List UInt8))) hI .p1 (hI.rd .z) hx3 gn rfl rfl zY gK rfl rfl et et ?_
 intro a3 c4 c5 w3 hI
 refine sa ?_
 refine nk (al (sr (sm ?_)))
 refine sq (oZ rfl zY et) ?_
 refine sq (wD rfl et ao) ?_
 obtain⟨i1,hx4,h⟩:=ae h
 refine sq (va (cP rfl et) (congrArg (Value.int .i64) (ak hx4))) ?_
 refine nk (oR (bs (α:=Nat×(List (List UInt8))×Int×(Option Addr)×Nat) (λx=>λw=>∃ C,Bun C0 F w0 C w [LV bk 9 (x.2.2.2.1) (x.2.2.2.2) (x.2.1)] []∧fc (x.1) (x.2.1) (x.2.2.1)=some r) (λx _=>x.1) (λx=>[(0,vs (x.2.2.2.1) (x.2.1).length (x.2.2.2.2)),(5,vi (x.2.2.1))]) (fu,zs1,i1,a3,c4) BH SB ?_))
 clear h hI;rintro⟨fuel1,l2,i2,a4,c6⟩ w4 ⟨c7,hI,h⟩
 dsimp only at hI h ⊢
 rcases fuel1 with _ | fuel1
 ·rw[fc]at h;cases h
 rw[fc]at h
 refine al (al (aJ [] false (.c (0,.q) (.c (1,.q) (.c (2,.q) (.c (3,.q) (.c (4,.q) (.c (5,.q) (.c (6,.q) (.c (7,.q) (.c (8,.q) (.c (9,.q) (.c (10,.q) (.c (11,.q) (.c (12,.q) (.c (13,.q) .n)))))))))))))) hI (by kernel_rfl) (by kernel_rfl) ?_))
 intro w5 hI
 refine nv rfl gn rfl (λw'=>gp rfl et) ?_
 refine nv rfl gn rfl (λw'=>um rfl et ao) ?_
 refine nv rfl gn rfl (λw'=>gp rfl et) ?_
 refine pi rfl (bg rfl rfl rfl rfl) rfl (λhc=>λw'=>(gp rfl et)) ?_
 refine pi rfl (bg rfl rfl rfl rfl) rfl (λhc=>λw'=>(gp rfl et)) ?_
 refine pi rfl (bg rfl rfl rfl rfl) rfl (λhc=>λw'=>(wD rfl (aU et hc) ao)) ?_
 obtain⟨e1,hx5,h⟩:=ae h
 replace hx5:=ay hx5
 obtain⟨ad1,cs1,hq1⟩:=hI.golat .z hx5
 have hq2:(decide (0<i2))=true→CA du w5 (ad1.add (Int.toNat (au (i2 - 1)) * 1)) [(aT e1)]:=λhc=>by have k:=hq1 hc;have e:cs1=_:=k.2.1;rw[← e];exact k.2.2
 refine pi rfl (bg rfl rfl rfl rfl) rfl (λhc=>λw'=>(jz rfl zY pO (aU et hc) (aU et hc) (qm (hx5 hc)) (hq1 hc).1)) ?_
 refine px rfl (bg rfl rfl rfl rfl) rfl (λhc=>λw' hw'=>(ba (v:=(aT e1)) rfl (aU et hc) u9 rfl ((hq2 hc).at_ (SX.any rfl hw')))) (by kernel_rfl) ?_
 refine pi rfl (bg rfl rfl rfl rfl) rfl (λhc=>λw'=>(gp rfl et)) ?_
 refine pi rfl (bg rfl rfl rfl rfl) rfl (λhc=>λw'=>(gp rfl et)) ?_
 obtain⟨e2,hx6,h⟩:=ae h
 replace hx6:=ay hx6
 obtain⟨ad2,cs2,hq3⟩:=hI.golat .z hx6
 have hq4:(decide (0<i2))=true→CA du w5 (ad2.add (Int.toNat i2 * 1)) [(aT e2)]:=λhc=>by have k:=hq3 hc;have e:cs2=_:=k.2.1;rw[← e];exact k.2.2
 refine pi rfl (bg rfl rfl rfl rfl) rfl (λhc=>λw'=>(jz rfl zY pO (aU et hc) (aU et hc) (qm (hx6 hc)) (hq3 hc).1)) ?_
 refine px rfl (bg rfl rfl rfl rfl) rfl (λhc=>λw' hw'=>(ba (v:=(aT e2)) rfl (aU et hc) u9 rfl ((hq4 hc).at_ (SX.any rfl hw')))) (by kernel_rfl) ?_
 refine pi rfl (bg rfl rfl rfl rfl) rfl (λhc=>λw'=>(KO rfl (aU et hc) (aU et hc))) ?_
 refine nv rfl gn rfl (λw'=>un rfl et et) ?_
 refine oY ?_
 refine bh (CU h et (λhb h=>?_) (λhb h=>?_))
 ·refine bl (bh (al (oR (sr (sm ?_)))))
  refine sm ?_
  obtain⟨e3,hx7,h⟩:=ae h
  obtain⟨ad3,cs3,hA3,hr3,hq5⟩:=hI.olat .z hx7
  obtain rfl:cs3=[(aT e3)]:=hr3
  refine sq (jz rfl zY pO et et (qm hx7) hA3) ?_
  refine sq (ba (v:=(aT e3)) rfl et u9 rfl hq5.1) ?_
  refine sa ?_
  refine nk (sr (sm ?_))
  refine sm ?_
  refine sm ?_
  refine sm ?_
  refine sq (wD rfl et ao) ?_
  obtain⟨e4,hx8,h⟩:=ae h
  obtain⟨ad4,cs4,hA4,hr4,hq6⟩:=hI.olat .z hx8
  obtain rfl:cs4=[(aT e4)]:=hr4
  refine sq (jz rfl zY pO et et (qm hx8) hA4) ?_
  refine sq (ba (v:=(aT e4)) rfl et u9 rfl hq6.1) ?_
  obtain⟨ho1,h⟩:=fC h
  obtain⟨ad5,hA5⟩:=hI.addr .z ho1
  refine sq (jz rfl zY pO et et ho1 hA5) ?_
  refine yp (p:=Int.toNat i2) (new:=[(aT e4)]) (off:=0) (x':=e4) hI .z gn rfl rfl (by have:=ho1;first | omega | (simp only[List.length_set];omega)) hA5 rfl et et rfl pO rfl (by show 0+1≤1;omega) (λ_ cs0 _ hr0=>by rw[Ce (by have e:=Cod.len _ hr0;exact e)];exact rfl) ?_
  intro c8 w6 hI
  refine aO ?_
  refine pc (e:=[(0,(vs a4 (l2.set (Int.toNat i2) e4).length c6)),(5,vi i2),(6,(aT e3))]) ⟨(EJ rfl),rfl,rfl,ah⟩ ?_
  refine jX rfl ?_
  refine sm ?_
  refine sm ?_
  refine sq (wD rfl et ao) ?_
  refine sm ?_
  obtain⟨ho2,h⟩:=fC h
  obtain⟨ad6,hA6⟩:=hI.addr .z ho2
  refine sq (jz rfl zY pO et et ho2 hA6) ?_
  refine yp (p:=Int.toNat (au (i2 - 1))) (new:=[(aT e3)]) (off:=0) (x':=e3) hI .z gn rfl rfl (by have:=ho2;first | omega | (simp only[List.length_set];omega)) hA6 rfl et et rfl pO rfl (by show 0+1≤1;omega) (λ_ cs0 _ hr0=>by rw[Ce (by have e:=Cod.len _ hr0;exact e)];exact rfl) ?_
  intro c9 w7 hI
  refine aO ?_
  refine pc (e:=[(0,(vs a4 ((l2.set (Int.toNat i2) e4).set (Int.toNat (au (i2 - 1))) e3).length c6)),(5,vi i2)]) ⟨(EJ rfl),rfl,ah⟩ ?_
  refine jX rfl ?_
  refine sm ?_
  refine sq (wD rfl et ao) ?_
  refine sa ?_
  refine aO ?_
  exact kl (fuel1,(l2.set (Int.toNat i2) e4).set (Int.toNat (au (i2 - 1))) e3,au (i2 - 1),a4,c6)
 refine bv ?_
 refine fi ?_
 refine bh (sr (sm ?_))
 refine sa ?_
 refine nk (aF ?_)
 obtain rfl:=ak h
 exact fY (vs:=[vs a4 l2.length c6]) Tryz.results226 ⟨aR rfl rfl,ah⟩ ⟨a4,c6,_,rfl,hI.arr GO SU⟩
theorem zC (hF:dK F w0) {l1:List GLin} (hc:AllCl [LT dQ a1 c1 l1] F w0) {r:List (List UInt8)} (h:nI l1=some r):Cg 191 #[vs a1 l1.length c1] w0 λe w=>∃ a2 c2,e= .returned (vs a2 r.length c2)∧Ext w0 w∧AllCl [LT bk a2 c2 r] F w:=by
 refine EN Tryz.func191 Tryz.ntmps191 hF hc λhI=>?_
 rw[nI]at h
 refine T ?_
 refine al (T ?_)
 have hI:=hI.nil bk 9 none
 refine bs (α:=Nat×(List (List UInt8))×Int×(Option Addr)×Nat) (λx=>λw=>∃ C,Bun du F w0 C w [LV bk 9 (x.2.2.2.1) (x.2.2.2.2) (x.2.1)] [LT dQ a1 c1 l1]∧co l1 (x.1) (x.2.1) (x.2.2.1)=some r) (λx _=>x.1) (λx=>[(0,vs a1 l1.length c1),(3,vs (x.2.2.2.1) (x.2.1).length (x.2.2.2.2)),(4,vi (x.2.2.1))]) (fu,([]:List (List UInt8)),0,none,0) BH SB ?_
 clear h hI;rintro⟨fuel1,aN,i1,a3,c3⟩ w1 ⟨c4,hI,h⟩
 dsimp only at hI h ⊢
 rcases fuel1 with _ | fuel1
 ·rw[co]at h;cases h
 rw[co]at h
 refine al (T ?_)
 refine TC (λhb h=>?_) λhb h=>?_
 ·refine T ?_
  refine bM (α:=(List (List UInt8))×(Option Addr)×Nat) (λ_=>⟨34,[]⟩) (λx=>[(0,vs a1 l1.length c1),(3,vs (x.2.1) (x.1).length (x.2.2)),(4,vi i1)]) (λx=>λw=>∃ C,Bun du F w0 C w [LV bk 9 (x.2.1) (x.2.2) (x.1)] [LT dQ a1 c1 l1]∧o6 (co l1 fuel1) i1 (x.1)=some r) ?_ ?_
  ·clear h hI;rintro⟨out2,a4,c5⟩ w2 ⟨c6,hI,h⟩
   try dsimp only at hI h ⊢
   rw[o6]at h
   refine T ?_
   refine aO ?_
   exact kl (fuel1,out2,au (i1+1),a4,c5)
  refine T ?_
  refine bs (α:=Nat×(List (List UInt8))×Int×(Option Addr)×Nat) (λx=>λw=>∃ C,Bun du F w0 C w [LV bk 9 (x.2.2.2.1) (x.2.2.2.2) (x.2.1)] [LT dQ a1 c1 l1]∧dX l1 i1 (co l1 fuel1) (x.1) (x.2.1) (x.2.2.1)=some r) (λx _=>x.1) (λx=>[(0,vs a1 l1.length c1),(3,vs (x.2.2.2.1) (x.2.1).length (x.2.2.2.2)),(4,vi i1),(5,vi (x.2.2.1))]) (fu,aN,0,a3,c3) BH SB ?_
  clear h hI;rintro⟨fuel2,out3,k1,a5,c7⟩ w3 ⟨c8,hI,h⟩
  dsimp only at hI h ⊢
  rcases fuel2 with _ | fuel2
  ·rw[dX]at h;cases h
  rw[dX]at h
  refine al (T ?_)
  obtain⟨e1,hx1,h⟩:=ae h
  obtain⟨ad1,cs1,hA1,hr1,hq1⟩:=hI.clat .z hx1
  obtain⟨a6,c9,rfl,hf1⟩:=hr1
  have hI:=hI.ads hf1
  refine sI ?_
  refine TC (λhb h=>?_) λhb h=>?_
  ·refine T ?_
   refine al (T ?_)
   obtain⟨e2,hx2,h⟩:=ae h
   obtain⟨ad2,cs2,hA2,hr2,hq2⟩:=hI.clat .p1 hx2
   obtain⟨a7,c10,rfl,hf2⟩:=hr2
   have hI:=hI.ads hf2
   refine sI ?_
   refine T ?_
   obtain⟨e3,hx3,h⟩:=ae h
   obtain⟨ad3,cs3,hA3,hr3,hq3⟩:=hI.clat .z hx3
   obtain rfl:cs3=(lk e3):=hr3
   refine sI ?_
   refine T ?_
   obtain⟨c11,f1,hB,hl1,hk1⟩:=hI.hands (.l .n)
   obtain⟨r1,hx4,h⟩:=ae h
   try dsimp only at h
   refine aw gn rfl (Rc Tryz.func226) (Calls.mono (wv HS hx4) ?_)
   rintro _ w4 ⟨a8,c12,c13,rfl,hB2⟩
   refine HN hk1 hB2 λc14 hI=>?_
   refine⟨_,rfl,?_⟩
   refine T ?_
   refine aO ?_
   exact kl (fuel2,r1,au (k1+1),a8,c12)
  refine bv ?_
  refine fi ?_
  exact kj (out3,a5,c7)
 refine bv ?_
 refine fi ?_
 refine bh ?_
 refine T ?_
 refine aF ?_
 obtain⟨c15,hI⟩:=hI.release .z
 obtain rfl:=ak h
 refine QG ?_
 exact⟨a3,c3,rfl,hI.ext0,hI.fin ⟨.z,ah⟩⟩
theorem uC (hF:dK F w0) {l1:GLin} {name1:List UInt8} (hc:AllCl [LT aj a1 c1 l1.L] F w0) {r:Int} (h:nJ l1 name1=some r):CR F w0 192 #[(Value.agg (cx l1 a1 c1)),(aT name1)] (vi r) []:=by
 refine EN Tryz.func192 Tryz.ntmps192 hF hc λhI=>?_
 rw[nJ]at h
 refine sr (lX λb1 c3 w1 hI=>?_)
 refine T ?_
 refine al (T ?_)
 refine bs (α:=Nat×Int) (λx=>λw=>∃ C,Bun du F w0 C w [] [Cl.blk b1 27 (cx l1 a1 c1),LT aj a1 c1 l1.L]∧gN l1 name1 (x.1) (x.2)=some r) (λx _=>x.1) (λx=>[(1,(aT name1)),(2,vp b1 0),(5,vi (x.2))]) (fu,0) BH SB ?_
 clear h hI;rintro⟨fuel1,i1⟩ w2 ⟨c4,hI,h⟩
 dsimp only at hI h ⊢
 rcases fuel1 with _ | fuel1
 ·rw[gN]at h;cases h
 rw[gN]at h
 refine al (T ?_)
 refine TC (λhb h=>?_) λhb h=>?_
 ·refine T ?_
  refine al (T ?_)
  obtain⟨e1,hx1,h⟩:=ae h
  obtain⟨ad1,cs1,hA1,hr1,hq1⟩:=hI.clat .p1 hx1
  obtain rfl:cs1=(lk e1):=hr1
  refine sI ?_
  refine TC (λhb h=>?_) λhb h=>?_
  ·refine T ?_
   obtain⟨e2,hx2,h⟩:=ae h
   obtain⟨ad2,cs2,hA2,hr2,hq2⟩:=hI.clat .p1 hx2
   obtain rfl:cs2=(lk e2):=hr2
   refine sI ?_
   exact RF
  refine T ?_
  refine aO ?_
  exact kl (fuel1,au (i1+1))
 refine bv ?_
 refine fi ?_
 refine bh ?_
 exact RF
theorem CX (hF:dK F w0) {a1 b1:GLin} (hc:AllCl [LT aj a2 c1 a1.L,LT aj a3 c2 b1.L] F w0) {r:GLin×Int} (h:n0 a1 b1=some r):Cg 139 #[(Value.agg (cx a1 a2 c1)),(Value.agg (cx b1 a3 c2))] w0 λe w=>∃ a4 c3,e= .returned (Value.tuple #[(Value.agg (cx r.1 a4 c3)),vi r.2])∧Ext w0 w∧AllCl [LT aj a4 c3 r.1.L] F w:=by
 refine EN Tryz.func139 Tryz.ntmps139 hF hc λhI=>?_
 rw[n0]at h
 refine sr (lX λb2 c5 w1 hI=>?_)
 refine lX λb3 c7 w2 hI=>?_
 refine lN λb4 c8 w3 hI=>?_
 refine T ?_
 refine al (sr (sq (am (l:=(fI a1 a2 c1)) rfl et pk rfl bt (hI.kblk (l:=(fI a1 a2 c1)) .p1 rfl).1) ?_))
 refine sB h (λ_ k=>pf hI.lt FS k) (Rc Tryz.func170) λr1 w4 h hI=>?_
 refine T ?_
 refine aH (bV rfl rfl rfl rfl) rfl (λhc=>(am (l:=(fI b1 a3 c2)) rfl et pk rfl bt (hI.kblk (l:=(fI b1 a3 c2)) .z rfl).1)) ?_
 obtain⟨r2,hx3,h⟩:=ae h
 replace hx3:=ay hx3
 refine sU (λhc=>pf hI.lt FS (hx3 hc)) (Rg Tryz.func170) λw5 hI=>?_
 refine TC (λhb h=>?_) λhb h=>?_
 ·refine sr (sq (aC (vs:=[]) (cs:=#[vi 0,vs none 0 0]) rfl trivial (by kernel_rfl)) ?_)
  refine lA λc9 w6 hI=>?_
  refine T ?_
  refine aF ?_
  have hI:=hI.add (c:=LT aj none 0 ([]:List GMono)) SlC.nil
  obtain rfl:=ak h
  refine QG ?_
  exact⟨none,0,rfl,hI.ext0,hI.fin ⟨.z,ah⟩⟩
 refine T ?_
 refine sB h (λ_ k=>tO hI.lt trivial k) (Rc Tryz.func190) λr3 w7 h hI=>?_
 refine T ?_
 refine al (T ?_)
 refine TC (λhb h=>?_) λhb h=>?_
 ·refine sr (sq (aC (vs:=[]) (cs:=#[vi 0,vs none 0 0]) rfl trivial (by kernel_rfl)) ?_)
  refine lA λc10 w8 hI=>?_
  refine T ?_
  refine aF ?_
  have hI:=hI.add (c:=LT aj none 0 ([]:List GMono)) SlC.nil
  obtain rfl:=ak h
  refine QG ?_
  exact⟨none,0,rfl,hI.ext0,hI.fin ⟨.z,ah⟩⟩
 refine T ?_
 refine sq (aC (vs:=[(0,vi r3.1)]) (cs:=#[vi r3.1,vs none 0 0]) rfl ⟨rfl,et,ah⟩ (by kernel_rfl)) ?_
 refine lN λb5 c11 w9 hI=>?_
 refine lA λc12 w10 hI=>?_
 refine T ?_
 refine sq (am (l:=(fI a1 a2 c1)) rfl et pk rfl bt (hI.kblk (l:=(fI a1 a2 c1)) .p1 rfl).1) ?_
 refine sq (am (l:=(fI b1 a3 c2)) rfl et pk rfl bt (hI.kblk (l:=(fI b1 a3 c2)) .z rfl).1) ?_
 refine ll hI dQ ([a1,b1]:List GLin) qI (.cs ⟨a2,c1,rfl,hI.get .p2⟩ (.cs ⟨a3,c2,rfl,hI.get .p3⟩ .nl)) λb6 c13 w11 hI=>?_
 obtain⟨c14,hI⟩:=hI.release .z
 obtain⟨r4,hx7,h⟩:=ae h
 refine aw gn rfl (Rc Tryz.func191) (Calls.mono (zC hI.lt FS hx7) ?_)
 rintro _ w12 ⟨a5,c15,rfl,hx8,hl4⟩
 refine⟨_,rfl,?_⟩
 replace hI:=(hI.ext hx8).adds hl4;dsimp only[ca,na]at hI
 refine T ?_
 refine al (T ?_)
 have hI:=hI.nil aj 64 none
 refine bs (α:=Nat×Int×GLin×(Option Addr)×Nat) (λx=>λw=>∃ C,Bun du F w0 C w [LV aj 64 (x.2.2.2.1) (x.2.2.2.2) (x.2.2.1).L,MO.box b4 27 #[vi 0,vs none 0 0],MO.box b5 27 (cx (x.2.2.1) (x.2.2.2.1) (x.2.2.2.2))] [Cl.blk b2 27 (cx a1 a2 c1),LT aj a2 c1 a1.L,Cl.blk b3 27 (cx b1 a3 c2),LT aj a3 c2 b1.L,LT bk a5 c15 r4]∧dY r4 a1 b1 (x.1) (x.2.1) (x.2.2.1)=some r) (λx _=>x.1) (λx=>[(2,vp b2 0),(3,vp b3 0),(4,vp b4 0),(8,vp b5 0),(9,vs a5 r4.length c15),(10,vi (x.2.1))]) (fu,0,(⟨r3.1,[]⟩:GLin),none,0) ⟨_,hI.arr (.c .z (.c .p1 (.c .z .n))) ⟨.p3,.p4,.p2,.p5,.z,ah⟩,h⟩ SB ?_
 clear h hI;rintro⟨fuel1,i1,aN,a6,c16⟩ w13 ⟨c17,hI,h⟩
 dsimp only at hI h ⊢
 rcases fuel1 with _ | fuel1
 ·rw[dY]at h;cases h
 rw[dY]at h
 refine al (T ?_)
 refine TC (λhb h=>?_) λhb h=>?_
 ·refine T ?_
  refine bM (α:=GLin×(Option Addr)×Nat) (λ_=>⟨78,[]⟩) (λx=>[(2,vp b2 0),(3,vp b3 0),(4,vp b4 0),(8,vp b5 0),(9,vs a5 r4.length c15),(10,vi i1)]) (λx=>λw=>∃ C,Bun du F w0 C w [LV aj 64 (x.2.1) (x.2.2) (x.1).L,MO.box b4 27 #[vi 0,vs none 0 0],MO.box b5 27 (cx (x.1) (x.2.1) (x.2.2))] [Cl.blk b2 27 (cx a1 a2 c1),LT aj a2 c1 a1.L,Cl.blk b3 27 (cx b1 a3 c2),LT aj a3 c2 b1.L,LT bk a5 c15 r4]∧kV (dY r4 a1 b1 fuel1) i1 (x.1)=some r) ?_ ?_
  ·clear h hI;rintro⟨out2,a7,c18⟩ w14 ⟨c19,hI,h⟩
   try dsimp only at hI h ⊢
   rw[kV]at h
   refine T ?_
   refine aO ?_
   exact ny (fuel1,au (i1+1),out2,a7,c18) SB ⟨_,hI.arr GO SU,h⟩ (Nat.lt_succ_self _)
  refine T ?_
  refine al (aJ [] false (.c (0,.q) (.c (1,.q) (.c (2,.q) (.c (3,.q) (.c (4,.q) (.c (6,.q) (.c (7,.q) (.c (8,.q) (.c (9,.q) (.c (10,.q) (.c (5,.s) (.c (11,.s) (.c (12,.s) (.c (13,.q) (.c (14,.q) (.c (15,.q) (.c (16,.q) (.c (17,.q) .n)))))))))))))))))) hI (by kernel_rfl) (by kernel_rfl) ?_)
  intro w15 hI
  refine bR rfl gn rfl (λw' hw'=>(am (l:=(fI a1 a2 c1)) rfl et pk rfl bt ((hI.kblk (l:=(fI a1 a2 c1)) .z rfl).at_ (SX.any rfl hw')))) (by kernel_rfl) ?_
  refine V ?_
  obtain⟨e1,hx9,h⟩:=ae h
  obtain⟨ad1,cs1,hA1,hr1,hq1⟩:=hI.clat .p4 hx9
  obtain rfl:cs1=[(aT e1)]:=hr1
  refine vI ?_
  refine V ?_
  refine bR rfl gn rfl (λw' hw'=>(am (l:=(fI b1 a3 c2)) rfl et pk rfl bt ((hI.kblk (l:=(fI b1 a3 c2)) .p2 rfl).at_ (SX.any rfl hw')))) (by kernel_rfl) ?_
  refine V ?_
  obtain⟨e2,hx10,h⟩:=ae h
  obtain⟨ad2,cs2,hA2,hr2,hq2⟩:=hI.clat .p4 hx10
  obtain rfl:cs2=[(aT e2)]:=hr2
  refine vI ?_
  refine V ?_
  obtain⟨r5,hx11,h⟩:=ae h
  refine dk rfl gn rfl (aD (vs:=[(Value.agg (cx a1 a2 c1)),(aT e1)]) rfl GW ⟨et,et,ah⟩) (Calls.mono (uC hI.lt FS hx11) ?_)
  rintro _ w16 ⟨rfl,hx12,hl5⟩
  refine⟨_,rfl,hx12,?_⟩
  replace hI:=(hI.ext hx12)
  obtain⟨r6,hx13,h⟩:=ae h
  refine dk rfl gn rfl (aD (vs:=[(Value.agg (cx b1 a3 c2)),(aT e2)]) rfl GW ⟨et,et,ah⟩) (Calls.mono (uC hI.lt FS hx13) ?_)
  rintro _ w17 ⟨rfl,hx14,hl6⟩
  refine⟨_,rfl,hx14,?_⟩
  replace hI:=(hI.ext hx14)
  obtain⟨r7,hx15,h⟩:=ae h
  refine dk rfl gn rfl (aD (vs:=[vi r5,vi r6]) rfl JT ⟨et,et,ah⟩) (Calls.mono (tO hI.lt ah hx15) ?_)
  rintro _ w18 ⟨rfl,hx16,hl7⟩
  refine⟨_,rfl,hx16,?_⟩
  replace hI:=(hI.ext hx16)
  refine V ?_
  refine al (T ?_)
  refine TC (λhb h=>?_) λhb h=>?_
  ·refine sr (sq (aC (vs:=[]) (cs:=#[vi 0,vs none 0 0]) rfl trivial (by kernel_rfl)) ?_)
   refine lA λc20 w19 hI=>?_
   refine T ?_
   refine aF ?_
   have hI:=hI.add (c:=LT aj none 0 ([]:List GMono)) SlC.nil
   obtain rfl:=ak h
   refine QG ?_
   exact⟨none,0,rfl,hI.ext0,hI.fin ⟨.z,ah⟩⟩
  refine TC (λhb h=>?_) λhb h=>?_
  ·refine aJ [9,11] false (.c (0,.q) (.c (1,.q) (.c (2,.q) (.c (3,.q) (.c (4,.q) (.c (5,.q) (.c (6,.q) (.c (7,.q) (.c (8,.s) (.c (9,.s) (.c (10,.q) (.c (11,.s) .n)))))))))))) hI (by kernel_rfl) (by kernel_rfl) ?_
   intro w20 hI
   refine V ?_
   obtain⟨e3,hx17,h⟩:=ae h
   obtain⟨ad3,cs3,hA3,hr3,hq3⟩:=hI.clat .p4 hx17
   obtain rfl:cs3=[(aT e3)]:=hr3
   refine vI ?_
   refine V ?_
   refine nv rfl gn rfl (λw'=>(aC (vs:=[(0,(aT e3)),(1,vi r7.1)]) (cs:=#[(aT e3),vi r7.1]) rfl ⟨rfl,et,rfl,et,ah⟩ (by kernel_rfl))) ?_
   refine vl hI aj ([⟨e3,r7.1⟩]:List GMono) oK Rr λb7 c21 w21 hI=>?_
   refine bK (F:=F) (C:=c21) rfl rfl ?_
   obtain⟨zs1,hx18,h⟩:=ae h
   refine nr (xs:=aN.L) (ys:=([⟨e3,r7.1⟩]:List GMono)) hI .p1 (hI.rd .z) hx18 rfl gn rfl rfl E9 oK rfl rfl et et ?_
   intro a8 c22 c23 w22 hI
   refine V ?_
   refine vS λc24 w23 hI=>?_
   refine oY ?_
   exact bu ((⟨aN.K,zs1⟩:GLin),a8,c22) SB ⟨_,hI.arr GO SU,h⟩ rfl
  exact bl (bu (aN,a6,c16) SB ⟨_,hI.arr GO SU,h⟩ rfl)
 refine bv ?_
 refine fi ?_
 refine bh ?_
 refine T ?_
 refine lA λc25 w24 hI=>?_
 refine T ?_
 refine aF ?_
 obtain⟨c26,hI⟩:=hI.release .z
 obtain rfl:=ak h
 refine QG ?_
 exact⟨a6,c16,rfl,hI.ext0,hI.fin ⟨.z,ah⟩⟩
end Go.Proofs.YtmhoikfoogemnaaGreatDoor
