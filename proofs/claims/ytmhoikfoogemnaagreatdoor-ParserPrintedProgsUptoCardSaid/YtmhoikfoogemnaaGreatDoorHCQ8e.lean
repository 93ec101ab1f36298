import Derived.Test.YtmhoikfoogemnaaGreatDoorHCQ8d
import Derived.Test.YtmhoikfoogemnaaGreatDoorHLfH
namespace Go.Proofs.YtmhoikfoogemnaaGreatDoor
open Go Go.RowKit Go.Vc
set_option maxRecDepth 100000
set_option maxHeartbeats 4000000
set_option linter.unusedVariables false
set_option linter.unusedSimpArgs false
variable {σ:Type} {C0 F:NP} {w0:World} {a1 a2 a3 a4 a5 a6 a7 a8 a9 a10 a11 a12:Option Addr} {b1 b2 b3 b4 b5 b6 b7 b8 b9 b10 b11 b12 c1 c2 c3 c4 c5 c6 c7 c8 c9 c10 c11 c12:Nat}
theorem th {rec_:(aa→Option (bZ (ae×aa)))} (hrec:BB rec_):KO 75 (dy rec_):=by
 intro C0 F w0 r1 b1 c1 a1 hI r h
 refine fa (l:=[vp b1 0]) Tryz.func75 rfl Tryz.ntmps75 rfl ?_
 rw[dy]at h
 refine sr (cY (cs:=mD) hI gn rfl rfl fW rfl ?_)
 intro b2 c6 w1 hI
 refine T ?_
 refine sq (oZ (vs:=[vp b1 0]) rfl rfl ⟨et,af⟩) ?_
 refine ll hI be ([[38]]:List (List UInt8)) lw Rr λb3 c7 w2 hI=>?_
 refine ll hI (nz .i64) ([16]:List Int) zb Rr λb4 c8 w3 hI=>?_
 obtain⟨c9,hI⟩:=hI.release .p1
 obtain⟨c10,hI⟩:=hI.release .z
 obtain⟨c11,f1,hB,hl1,hk1⟩:=hI.hands (.r (.l .n))
 refine dh h (λ_ hx1=>rj hrec HS hx1) (jL hk1) (Rc Tryz.func74) ?_
 rintro⟨r2,s1⟩ hx1 h _ w4 ⟨a6,c12,a7,c13,a8,c14,a9,c15,c16,rfl,hB2⟩
 try dsimp only at h
 refine HN hk1 hB2 λc17 hI=>?_
 refine⟨_,rfl,?_⟩
 refine lA λc18 w5 hI=>?_
 refine nk (aO ?_)
 obtain rfl:=ak h
 refine QG ?_
 exact .inl ⟨_,rfl,a6,c12,a7,c13,a8,c14,a9,c15,_,rfl,hI.arr GO SU⟩
theorem rL {rec_:(aa→Option (bZ (ae×aa)))} (hrec:BB rec_) {r1:aa} {signs1:List (List UInt8)} {ops1:List Int} (hI:Bun C0 F w0 C0 w0 [MO.box b1 67 (ac r1 a1 c1)] [Cl.sl ag a1 c1 r1.l,Cl.sl be a2 c2 signs1,Cl.sl (nz .i64) a3 c3 ops1,au]) {r:bZ (ae×aa)} (h:ko rec_ r1 signs1 ops1=some r):CP C0 F w0 74 #[vp b1 0,(Value.func (.func 75) #[vp b1 0] #[]),vs a2 signs1.length c2,vs a3 ops1.length c3] r λrx e w=>∃ a4 c4 a5 c5 a6 c6 a7 c7 C,e= .returned (Value.agg (aA rx.1 a4 c4 a5 c5 a6 c6))∧Bun C0 F w0 C w [MO.box b1 67 (ac rx.2 a7 c7)] [Cl.sl ai a4 c4 rx.1.Lin.L,Cl.sl al a5 c5 rx.1.Idx,Cl.sl an a6 c6 rx.1.Args,Cl.sl ag a7 c7 rx.2.l]:=EO (th hrec) Qb hI h
theorem sH {rec_:(aa→Option (bZ (ae×aa)))} (hrec:BB rec_):KO 34 (fr rec_):=by
 intro C0 F w0 r1 b1 c1 a1 hI r h
 refine fa (l:=[vp b1 0]) Tryz.func34 rfl Tryz.ntmps34 rfl ?_
 rw[fr]at h
 refine sr (cY (cs:=mD) hI gn rfl rfl fW rfl ?_)
 intro b2 c6 w1 hI
 refine T ?_
 refine sq (oZ (vs:=[vp b1 0]) rfl rfl ⟨et,af⟩) ?_
 refine ll hI be ([[124]]:List (List UInt8)) lw Rr λb3 c7 w2 hI=>?_
 refine ll hI (nz .i64) ([17]:List Int) zb Rr λb4 c8 w3 hI=>?_
 obtain⟨c9,hI⟩:=hI.release .p1
 obtain⟨c10,hI⟩:=hI.release .z
 obtain⟨c11,f1,hB,hl1,hk1⟩:=hI.hands (.r (.l .n))
 refine dh h (λ_ hx1=>rL hrec HS hx1) (jL hk1) (Rc Tryz.func74) ?_
 rintro⟨r2,s1⟩ hx1 h _ w4 ⟨a6,c12,a7,c13,a8,c14,a9,c15,c16,rfl,hB2⟩
 try dsimp only at h
 refine HN hk1 hB2 λc17 hI=>?_
 refine⟨_,rfl,?_⟩
 refine lA λc18 w5 hI=>?_
 refine nk (aO ?_)
 obtain rfl:=ak h
 refine QG ?_
 exact .inl ⟨_,rfl,a6,c12,a7,c13,a8,c14,a9,c15,_,rfl,hI.arr GO SU⟩
theorem sF (n:Nat):BB (aB n):=by
 induction n with
 | zero=>intro F;intros;rename_i h;cases h
 | succ n ih=>intro F;intros;apply sH ih<;>assumption
theorem mi:BB (ii):=sF fu
theorem pl {a1:aa} {a3:ae} (hI:Bun C0 F w0 C0 w0 [MO.box b2 67 (ac a1 a2 c1),MO.box b3 39 (aA a3 a4 c2 a5 c3 a6 c4)] [Cl.sl ag a2 c1 a1.l,Cl.blk b1 65 #[vp b2 0],Cl.sl ai a4 c2 a3.Lin.L,Cl.sl al a5 c3 a3.Idx,Cl.sl an a6 c4 a3.Args,au]) {r:bZ (Unit×aa×ae)} (h:l7 a1 a3=some r):CP C0 F w0 33 #[vp b1 0,vp b3 0] r λrx e w=>∃ a7 c5 a8 c6 a9 c7 a10 c8 C,e= .returned (Value.tuple #[])∧Bun C0 F w0 C w [MO.box b2 67 (ac rx.2.1 a7 c5),MO.box b3 39 (aA rx.2.2 a8 c6 a9 c7 a10 c8)] [Cl.sl ag a7 c5 rx.2.1.l,Cl.sl ai a8 c6 rx.2.2.Lin.L,Cl.sl al a9 c7 rx.2.2.Idx,Cl.sl an a10 c8 rx.2.2.Args]:=by
 refine fa (l:=[vp b1 0,vp b3 0]) Tryz.func33 rfl Tryz.ntmps33 rfl ?_
 rw[l7]at h
 refine T ?_
 obtain⟨c9,f1,hB,hl1,hk1⟩:=hI.hands (.l (.r .n))
 refine dh h (λ_ hx1=>mi HS hx1) (jL hk1) (Rc Tryz.func34) ?_
 rintro⟨r1,s1⟩ hx1 h _ w1 ⟨a11,c10,a12,c11,a13,c12,a14,c13,c14,rfl,hB2⟩
 try dsimp only at h
 refine HN hk1 hB2 λc15 hI=>?_
 refine⟨_,rfl,?_⟩
 refine lA λc16 w2 hI=>?_
 refine aG ?_
 obtain rfl:=ak h
 refine QG ?_
 exact .inl ⟨_,rfl,a14,c13,a11,c10,a12,c11,a13,c12,_,rfl,hI.arr GO SU⟩
def jy:Tr:= .n
def jz:Tr:=(.c (4,.s) (.c (6,.q) (.c (7,.q) jy)))
theorem xZ (hF:dF F w0) {l1:List bp} {at1:Int} (hc:AllCl [Cl.sl ag a1 c1 l1,au] F w0) {r:ae×Int×Int} (h:py l1 at1=some r):Cg 15 #[vs a1 l1.length c1,vi at1] w0 λe w=>∃ a2 c2 a3 c3 a4 c4,e= .returned (Value.tuple #[(Value.agg (aA r.1 a2 c2 a3 c3 a4 c4)),vi r.2.1,vi r.2.2])∧Ext w0 w∧AllCl [Cl.sl ai a2 c2 r.1.Lin.L,Cl.sl al a3 c3 r.1.Idx,Cl.sl an a4 c4 r.1.Args] F w:=by
 refine EN Tryz.func15 Tryz.ntmps15 hF hc λhI=>?_
 rw[py]at h
 refine sr (cY (cs:=mD) hI gn rfl rfl fW rfl ?_)
 intro b1 c5 w1 hI
 refine xp ?_
 refine xp ?_
 refine nk (aj (sr (sm ?_)))
 refine sq (rp rfl et ah) ?_
 refine sm ?_
 refine aw (bj rfl rfl rfl rfl) rfl (λhc=>fC rfl et) ?_
 refine aw (bj rfl rfl rfl rfl) rfl (λhc=>fC rfl et) ?_
 refine aw (bj rfl rfl rfl rfl) rfl (λhc=>jM rfl QT (aI et hc)) ?_
 refine aw (bj rfl rfl rfl rfl) rfl (λhc=>tn rfl (aI et hc) (aI et hc)) ?_
 refine sq (xP rfl et et) ?_
 refine TC (λhb h=>?_) λhb h=>?_
 ·refine sr (sq (aK (vs:=[]) (cs:=mD) rfl trivial (by kernel_rfl)) ?_)
  refine lA λc6 w2 hI=>?_
  refine xp ?_
  refine xp ?_
  refine nk (aO ?_)
  have hI:=hI.add (c:=Cl.sl ai none 0 ([]:List bv)) SlC.nil
  have hI:=hI.add (c:=Cl.sl al none 0 ([]:List aM)) SlC.nil
  have hI:=hI.add (c:=Cl.sl an none 0 ([]:List ae)) SlC.nil
  obtain rfl:=ak h
  exact gR (vs:=[(Value.agg mD),vi 0,vi 1]) Tryz.results15 ⟨⟨_,aT rfl rfl,jI (l:=Q2) jZ rfl aJ (Q5 (hI.blk .z) rfl)⟩,aT rfl rfl,aT rfl rfl,af⟩ ⟨none,0,none,0,none,0,rfl,hI.ext0,hI.fin ⟨.p2,.p1,.z,af⟩⟩
 refine aZ (aS (sr (sm ?_)))
 refine sm ?_
 refine sq (aK (vs:=[(0,vs a1 l1.length c1),(1,vi at1)]) (cs:=#[vs a1 l1.length c1,vi at1,vi 0]) rfl ⟨rfl,et,rfl,et,af⟩ (by kernel_rfl)) ?_
 refine Ei (v:=(Value.agg #[vs a1 l1.length c1,vi at1,vi 0])) (cs:=#[vs a1 l1.length c1,vi at1,vi 0]) hI gn rfl rfl et rfl ?_
 intro b2 c7 w3 hI
 refine lN λb3 c8 w4 hI=>?_
 refine lS λc9 w5 hI=>?_
 refine nk (sr (sq (aK (vs:=[]) (cs:=mD) rfl trivial (by kernel_rfl)) ?_))
 refine lN λb4 c10 w6 hI=>?_
 refine lA λc11 w7 hI=>?_
 refine nk (aj (sr (sq (np (vs:=[]) (cap:=[vp b3 0,vp b4 0]) rfl rfl ⟨et,et,af⟩) ?_)))
 obtain⟨c12,hI⟩:=hI.relBox .p1
 have hI:=hI.add (c:=Cl.sl ai none 0 ([]:List bv)) SlC.nil
 have hI:=hI.add (c:=Cl.sl al none 0 ([]:List aM)) SlC.nil
 have hI:=hI.add (c:=Cl.sl an none 0 ([]:List ae)) SlC.nil
 obtain⟨c13,f1,hB,hl1,hk1⟩:=hI.hands (.l (.l (.r .n)))
 replace hB:=hB.ord (.c .p1 (.c .z .n))
 rcases tC h with⟨⟨r1,s1,s2⟩,hx1,h⟩ | ⟨pa1,pn1,hx1,hn1,h⟩
 ·skip
  try dsimp only at h
  refine bf gn rfl (Rc Tryz.func29) (Calls.mono (sQ (β:=(Option Addr)×Nat×(Option Addr)×Nat×(Option Addr)×Nat×(Option Addr)×Nat) (λx=>[MO.box b2 67 (ac s1 (x.1) (x.2.1)),MO.box b4 39 (aA s2 (x.2.2.1) (x.2.2.2.1) (x.2.2.2.2.1) (x.2.2.2.2.2.1) (x.2.2.2.2.2.2.1) (x.2.2.2.2.2.2.2))]) (λx=>[Cl.sl ag (x.1) (x.2.1) s1.l,Cl.sl ai (x.2.2.1) (x.2.2.2.1) s2.Lin.L,Cl.sl al (x.2.2.2.2.1) (x.2.2.2.2.2.1) s2.Idx,Cl.sl an (x.2.2.2.2.2.2.1) (x.2.2.2.2.2.2.2) s2.Args]) (cl:=[Cl.sl ag a1 c1 l1,Cl.blk b3 65 #[vp b2 0],Cl.sl ai none 0 ([]:List bv),Cl.sl al none 0 ([]:List aM),Cl.sl an none 0 ([]:List ae),au]) Mz (hB.subs ⟨.p4,.p3,.p2,.p1,.z,.p5,af⟩) (λC1_ F1_ w1_ hB_=>(pl hB_ hx1).mono λe_ w_ hq_=>(let ⟨a5,c14,a6,c15,a7,c16,a8,c17,C_,he_,hB2_⟩:=cy hq_;⟨he_,(a5,c14,a6,c15,a7,c16,a8,c17),C_,hB2_⟩))) ?_)
  rintro _ w8 ⟨rfl,⟨a5,c14,a6,c15,a7,c16,a8,c17⟩,c18,hB2⟩
  obtain⟨c19,hs1,hI⟩:=hk1 _ _ _ _ hB2
  replace hI:Bun cH F w0 c19 w8 [MO.box b2 67 (ac s1 a5 c14),MO.box b4 39 (aA s2 a6 c15 a7 c16 a8 c17),MO.box b1 39 mD] [Cl.sl ag a5 c14 s1.l,Cl.sl ai a6 c15 s2.Lin.L,Cl.sl al a7 c16 s2.Idx,Cl.sl an a8 c17 s2.Args,Cl.sl an none 0 ([]:List ae),Cl.sl al none 0 ([]:List aM),Cl.sl ai none 0 ([]:List bv),Cl.blk b3 65 #[vp b2 0],Cl.sl ag a1 c1 l1,au]:=hI
  refine⟨_,rfl,?_⟩
  refine sm ?_
  refine sq (ir rfl et rfl) ?_
  refine sq (ir rfl et rfl) ?_
  refine sa ?_
  refine sa ?_
  refine nk (sr (sm ?_))
  refine sq (pE rfl et ah) ?_
  refine TC (λhb h=>?_) λhb h=>?_
  ·refine sr (sq (aK (vs:=[]) (cs:=mD) rfl trivial (by kernel_rfl)) ?_)
   refine sm ?_
   refine sm ?_
   refine lA λc20 w9 hI=>?_
   refine sa ?_
   refine sa ?_
   refine aG ?_
   refine oq (e:=[(4,vp b1 0),(5,vi 0),(6,vi 0)]) SB ?_
   refine aO ?_
   obtain rfl:=ak h
   exact gR (vs:=[(Value.agg mD),vi 0,vi 0]) Tryz.results15 ⟨⟨_,aT rfl rfl,jI (l:=Q2) jZ rfl aJ (Q5 (hI.blk .p2) rfl)⟩,aT rfl rfl,aT rfl rfl,af⟩ ⟨none,0,none,0,none,0,rfl,hI.ext0,hI.fin ⟨.p6,.p5,.p4,af⟩⟩
  refine aZ (oq (e:=[(1,vi at1),(4,vp b1 0),(7,vp b3 0),(8,vp b4 0)]) ⟨rfl,rfl,rfl,rfl,af⟩ ?_)
  refine aj (sr (sq (am (l:=(ba s2 a6 c15 a7 c16 a8 c17)) rfl et jZ rfl aJ (Q5 (hI.blk .p1) rfl)) ?_))
  refine sB h (λ_ k=>tc hI.lt FS k) (Rc Tryz.func35) λr2 w10 h hI=>?_
  refine sa ?_
  refine nk (sr (sm ?_))
  refine sq (pE rfl et ah) ?_
  refine TC (λhb h=>?_) λhb h=>?_
  ·refine sr (sq (aK (vs:=[]) (cs:=mD) rfl trivial (by kernel_rfl)) ?_)
   refine sm ?_
   refine sm ?_
   refine lA λc21 w11 hI=>?_
   refine sa ?_
   refine sa ?_
   refine nk (aO ?_)
   obtain rfl:=ak h
   exact gR (vs:=[(Value.agg mD),vi at1,vi r2]) Tryz.results15 ⟨⟨_,aT rfl rfl,jI (l:=Q2) jZ rfl aJ (Q5 (hI.blk .p2) rfl)⟩,aT rfl rfl,aT rfl rfl,af⟩ ⟨none,0,none,0,none,0,rfl,hI.ext0,hI.fin ⟨.p6,.p5,.p4,af⟩⟩
  refine aZ (aS (aj (aL [5] false (.c (0,.q) (.two 1 (.c (2,.q) (.c (3,.q) (.two 4 (.c (5,.s) (.c (6,.q) (.c (7,.q) jy))) 5 jz))) 5 (.c (1,.s) (.c (2,.q) (.c (3,.q) jz))))) hI (by kernel_rfl) (by kernel_rfl) ?_)))
  intro w15 hI
  refine fU (α:=NP) (T:=jy) (λx=>[(4,vp b1 0),(5,vi s1.at_),(6,vi 0)]) (λx w=>Bun cH F w0 x w [MO.box b2 67 (ac s1 a5 c14),MO.box b4 39 (aA s2 a6 c15 a7 c16 a8 c17),MO.box b1 39 (aA s2 a6 c15 a7 c16 a8 c17)] [Cl.sl ag a5 c14 s1.l,Cl.sl ai a6 c15 s2.Lin.L,Cl.sl al a7 c16 s2.Idx,Cl.sl an a8 c17 s2.Args,Cl.sl an none 0 ([]:List ae),Cl.sl al none 0 ([]:List aM),Cl.sl ai none 0 ([]:List bv),Cl.blk b3 65 #[vp b2 0],Cl.sl ag a1 c1 l1,au]) (λx w=>SN [] (DM true F x) w) ?_ ?_
  ·clear hI;rintro c24 w14 hI
   try dsimp only at hI ⊢
   unfold jy
   refine pp ?_
   refine aS (aO ?_)
   obtain rfl:=ak h
   exact gR (vs:=[(Value.agg (aA s2 a6 c15 a7 c16 a8 c17)),vi s1.at_,vi 0]) Tryz.results15 ⟨⟨_,aT rfl rfl,jI (l:=(ba s2 a6 c15 a7 c16 a8 c17)) jZ rfl aJ (Q5 (hI.blk .p2) rfl)⟩,aT rfl rfl,aT rfl rfl,af⟩ ⟨a6,c15,a7,c16,a8,c17,rfl,hI.ext0,hI.fin ⟨.p1,.p2,.p3,af⟩⟩
  intro hk_tr_parser_ExprAt_1_1
  refine fU (α:=NP) (T:=jz) (λx=>[(4,vp b1 0),(46,vp b2 1)]) (λx w=>Bun cH F w0 x w [MO.box b2 67 (ac s1 a5 c14),MO.box b4 39 (aA s2 a6 c15 a7 c16 a8 c17),MO.box b1 39 (aA s2 a6 c15 a7 c16 a8 c17)] [Cl.sl ag a5 c14 s1.l,Cl.sl ai a6 c15 s2.Lin.L,Cl.sl al a7 c16 s2.Idx,Cl.sl an a8 c17 s2.Args,Cl.sl an none 0 ([]:List ae),Cl.sl al none 0 ([]:List aM),Cl.sl ai none 0 ([]:List bv),Cl.blk b3 65 #[vp b2 0],Cl.sl ag a1 c1 l1,au]) (λx w=>SN [] (DM true F x) w) ?_ ?_
  ·clear hI;rintro c23 w13 hI
   try dsimp only at hI ⊢
   unfold jz
   refine dz rfl gn rfl (aF (v:=(vi s1.at_)) rfl et u3 rfl (Q5 (hI.blk .z) rfl)) Q7 ?_
   refine iq rfl gn rfl (λw'=>cx rfl et) ?_
   refine iq rfl gn rfl (λw'=>cx rfl ah) ?_
   exact cn (hk_tr_parser_ExprAt_1_1 c23 _ (hI.arr GO SU)) SB
  intro hk_tr_parser_ExprAt_1_0
  refine dl rfl gn rfl (λw' hw'=>(am (l:=(ba s2 a6 c15 a7 c16 a8 c17)) rfl et jZ rfl aJ ((CA.blk (hI.blk .p1) rfl).at_ (SX.any rfl hw')))) (by kernel_rfl) ?_
  refine gG ?_ ?_
  ·skip
   refine dz rfl gn rfl (aF (v:=(vp b2 0)) rfl et QR rfl (hI.kblk (l:=[vp b2 0]) .p7 rfl).1) Q7 ?_
   refine iq rfl gn rfl (λw'=>nn rfl et) ?_
   refine iq rfl gn rfl (λw'=>aq rfl et PK rfl jQ rfl) ?_
   refine gG ?_ ?_
   ·skip
    refine dz rfl gn rfl (aF (v:=(vi s1.at_)) rfl et u3 rfl (Q5 (hI.blk .z) rfl)) Q7 ?_
    refine gQ (F:=F) (C:=c19) rfl rfl ?_
    refine vA λc22 w12 hI=>?_
    refine iq rfl gn rfl (λw'=>cx rfl et) ?_
    refine iq rfl gn rfl (λw'=>cx rfl ah) ?_
    exact cn (hk_tr_parser_ExprAt_1_1 c22 _ (hI.arr GO SU)) SB
   refine dC (F:=F) (C:=c19) rfl rfl ?_
   refine vA λc22 w12 hI=>?_
   exact cn (hk_tr_parser_ExprAt_1_0 c22 _ (hI.arr GO SU)) SB
  refine dC (F:=F) (C:=c19) rfl rfl ?_
  refine vA λc22 w12 hI=>?_
  refine dz rfl gn rfl (aF (v:=(vp b2 0)) rfl et QR rfl (hI.kblk (l:=[vp b2 0]) .p7 rfl).1) Q7 ?_
  refine iq rfl gn rfl (λw'=>nn rfl et) ?_
  refine iq rfl gn rfl (λw'=>aq rfl et PK rfl jQ rfl) ?_
  exact cn (hk_tr_parser_ExprAt_1_0 c22 _ (hI.arr GO SU)) SB
 try dsimp only at h
 refine bf gn rfl (Rc Tryz.func29) (Calls.mono (sR (cl:=[Cl.sl ag a1 c1 l1,Cl.blk b3 65 #[vp b2 0],Cl.sl ai none 0 ([]:List bv),Cl.sl al none 0 ([]:List aM),Cl.sl an none 0 ([]:List ae),au]) Mz (hB.subs ⟨.p4,.p3,.p2,.p1,.z,.p5,af⟩) (λC1_ F1_ w1_ hB_=>(pl hB_ hx1).mono λe_ w_ hq_=>cz hq_)) ?_)
 rintro _ w16 ⟨rfl,c25,hB2⟩
 obtain⟨c26,hs2,hI⟩:=hk1 _ _ _ _ hB2
 replace hI:Bun cH F w0 c26 w16 [MO.box b1 39 mD] [Cl.sl an none 0 ([]:List ae),Cl.sl al none 0 ([]:List aM),Cl.sl ai none 0 ([]:List bv),Cl.blk b3 65 #[vp b2 0],Cl.sl ag a1 c1 l1,au]:=hI
 refine⟨_,rfl,?_⟩
 have hk2:(!decide (pn1=0))=true:=by simp[hn1]
 refine sm ?_
 refine sq (ir rfl et rfl) ?_
 refine sq (ir rfl et rfl) ?_
 refine sa ?_
 refine sa ?_
 refine nk (sr (sm ?_))
 refine sq (pE rfl et ah) ?_
 refine nk (sO (b:= !decide (pn1=0)) et (λ_=>?_) (λhb=>absurd (hb.symm.trans hk2) (by simp)))
 refine sr (sq (aK (vs:=[]) (cs:=mD) rfl trivial (by kernel_rfl)) ?_)
 refine sm ?_
 refine sm ?_
 refine lA λc27 w17 hI=>?_
 refine sa ?_
 refine sa ?_
 refine aG ?_
 refine oq (e:=[(4,vp b1 0),(5,vi pa1),(6,vi pn1)]) SB ?_
 refine aO ?_
 obtain rfl:=ak h
 exact gR (vs:=[(Value.agg mD),vi pa1,vi pn1]) Tryz.results15 ⟨⟨_,aT rfl rfl,jI (l:=Q2) jZ rfl aJ (Q5 (hI.blk .z) rfl)⟩,aT rfl rfl,aT rfl rfl,af⟩ ⟨none,0,none,0,none,0,rfl,hI.ext0,hI.fin ⟨.p2,.p1,.z,af⟩⟩
theorem pC (hF:dF F w0) {s1:List UInt8} {l1:List bp} {at1:Int} (hc:AllCl [Cl.sl ag a1 c1 l1] F w0) {r:Int} (h:lf s1 l1 at1=some r):CR F w0 40 #[(str s1),vs a1 l1.length c1,vi at1] (vi r) []:=by
 refine EN Tryz.func40 Tryz.ntmps40 hF hc λhI=>?_
 rw[lf]at h
 refine T ?_
 refine aj (T ?_)
 refine TR λhb h=>?_
 refine T ?_
 obtain⟨e1,hx1,h⟩:=ab h
 obtain⟨ad1,cs1,hA1,hr1,hq1⟩:=hI.clat .z hx1
 obtain rfl:cs1=(oJ e1):=hr1
 refine sI ?_
 exact RF
theorem oY (hF:dF F w0) {s1:List UInt8} (hc:AllCl [au] F w0) {r:ae×Int×Int} (h:ln s1=some r):Cg 18 #[(str s1)] w0 λe w=>∃ a1 c1 a2 c2 a3 c3,e= .returned (Value.tuple #[(Value.agg (aA r.1 a1 c1 a2 c2 a3 c3)),vi r.2.1,vi r.2.2])∧Ext w0 w∧AllCl [Cl.sl ai a1 c1 r.1.Lin.L,Cl.sl al a2 c2 r.1.Idx,Cl.sl an a3 c3 r.1.Args] F w:=by
 refine EN Tryz.func18 Tryz.ntmps18 hF hc λhI=>?_
 rw[ln]at h
 refine sr (cY (cs:=mD) hI gn rfl rfl fW rfl ?_)
 intro b1 c4 w1 hI
 refine T ?_
 obtain⟨r1,hx1,h⟩:=ab h
 refine bf gn rfl (Rc Tryz.func39) (Calls.mono (rN hI.lt af hx1) ?_)
 rintro _ w2 ⟨a4,c5,rfl,hx2,hl1⟩
 refine⟨_,rfl,?_⟩
 replace hI:=(hI.ext hx2).adds hl1;dsimp only[ca,na]at hI
 refine T ?_
 refine aj (T ?_)
 refine TC (λhb h=>?_) λhb h=>?_
 ·refine sr (sq (aK (vs:=[]) (cs:=mD) rfl trivial (by kernel_rfl)) ?_)
  refine T ?_
  refine lA λc6 w3 hI=>?_
  refine T ?_
  refine aO ?_
  have hI:=hI.add (c:=Cl.sl ai none 0 ([]:List bv)) SlC.nil
  have hI:=hI.add (c:=Cl.sl al none 0 ([]:List aM)) SlC.nil
  have hI:=hI.add (c:=Cl.sl an none 0 ([]:List ae)) SlC.nil
  obtain rfl:=ak h
  refine QG ?_
  exact⟨none,0,none,0,none,0,rfl,hI.ext0,hI.fin ⟨.p2,.p1,.z,af⟩⟩
 refine T ?_
 obtain⟨r2,hx3,h⟩:=ab h
 refine bf gn rfl (Rc Tryz.func15) (Calls.mono (xZ hI.lt FS hx3) ?_)
 rintro _ w4 ⟨a5,c7,a6,c8,a7,c9,rfl,hx4,hl2⟩
 refine⟨_,rfl,?_⟩
 replace hI:=(hI.ext hx4).adds hl2;dsimp only[ca,na]at hI
 refine T ?_
 refine lN λb2 c10 w5 hI=>?_
 refine lA λc11 w6 hI=>?_
 refine T ?_
 refine bO (α:=Int) (λ_=>⟨44,[]⟩) (λx=>[(0,(str s1)),(2,vp b1 0),(5,vs a4 r1.1.length c5),(7,vi x),(8,vp b2 0),(9,vi r2.2.1)]) (λx=>λw=>∃ C,Bun cH F w0 C w [MO.box b1 39 mD,MO.box b2 39 (aA r2.1 a5 c7 a6 c8 a7 c9)] [Cl.sl ag a4 c5 r1.1,Cl.sl ai a5 c7 r2.1.Lin.L,Cl.sl al a6 c8 r2.1.Idx,Cl.sl an a7 c9 r2.1.Args,au]∧mq s1 r1 r2 x=some r) ?_ ?_
 ·clear h hI;rintro e1 w7 ⟨c12,hI,h⟩
  try dsimp only at hI h ⊢
  rw[mq]at h
  refine aj (T ?_)
  refine TC (λhb h=>?_) λhb h=>?_
  ·refine sr (sq (aK (vs:=[]) (cs:=mD) rfl trivial (by kernel_rfl)) ?_)
   refine T ?_
   refine sB h (λ_ k=>pC hI.lt FS k) (Rc Tryz.func40) λr3 w8 h hI=>?_
   refine sm ?_
   refine lA λc13 w9 hI=>?_
   refine T ?_
   refine aO ?_
   have hI:=hI.add (c:=Cl.sl ai none 0 ([]:List bv)) SlC.nil
   have hI:=hI.add (c:=Cl.sl al none 0 ([]:List aM)) SlC.nil
   have hI:=hI.add (c:=Cl.sl an none 0 ([]:List ae)) SlC.nil
   obtain rfl:=ak h
   refine QG ?_
   exact⟨none,0,none,0,none,0,rfl,hI.ext0,hI.fin ⟨.p2,.p1,.z,af⟩⟩
  refine T ?_
  refine lA λc14 w10 hI=>?_
  refine T ?_
  refine aO ?_
  obtain rfl:=ak h
  refine QG ?_
  exact⟨a5,c7,a6,c8,a7,c9,rfl,hI.ext0,hI.fin ⟨.p1,.p2,.p3,af⟩⟩
 refine TC (λhb h=>?_) λhb h=>?_
 ·refine T ?_
  refine aG ?_
  exact kj 5
 exact aZ (bI r2.2.2 SB BH rfl)
theorem oM (hF:dF F w0) {a1 b1:aC} (hc:AllCl [Cl.sl ai a2 c1 a1.L,Cl.sl ai a3 c2 b1.L] F w0) {r:Bool} (h:jf a1 b1=some r):CR F w0 14 #[(Value.agg (eP a1 a2 c1)),(Value.agg (eP b1 a3 c2))] (vb r) []:=by
 refine EN Tryz.func14 Tryz.ntmps14 hF hc λhI=>?_
 rw[jf]at h
 refine sr (lX λb2 c4 w1 hI=>?_)
 refine lX λb3 c6 w2 hI=>?_
 refine T ?_
 refine aj (T ?_)
 refine TR λhb h=>?_
 refine T ?_
 refine aj (T ?_)
 refine bk (α:=Nat×Int) (λx=>λw=>∃ C,Bun cH F w0 C w [] [Cl.blk b2 27 (eP a1 a2 c1),Cl.sl ai a2 c1 a1.L,Cl.blk b3 27 (eP b1 a3 c2),Cl.sl ai a3 c2 b1.L]∧iX a1 b1 (x.1) (x.2)=some r) (λx _=>x.1) (λx=>[(2,vp b2 0),(3,vp b3 0),(5,vi (x.2))]) (fu,0) BH SB ?_
 clear h hI;rintro⟨fuel1,i1⟩ w3 ⟨c7,hI,h⟩
 dsimp only at hI h ⊢
 rcases fuel1 with _ | fuel1
 ·rw[iX]at h;cases h
 rw[iX]at h
 refine aj (T ?_)
 refine TC (λhb h=>?_) λhb h=>?_
 ·refine T ?_
  refine aj (T ?_)
  refine aj (aL [] false (.c (0,.q) (.c (1,.q) (.c (2,.q) (.c (3,.q) (.c (4,.q) (.c (5,.q) (.c (6,.q) (.c (7,.q) (.c (8,.q) (.c (9,.q) (.c (10,.q) .n))))))))))) hI (by kernel_rfl) (by kernel_rfl) ?_)
  intro w4 hI
  refine V ?_
  obtain⟨e1,hx1,h⟩:=ab h
  obtain⟨ad1,cs1,hA1,hr1,hq1⟩:=hI.clat .p1 hx1
  obtain rfl:cs1=(li e1):=hr1
  refine vI ?_
  refine dl rfl gn rfl (λw' hw'=>(am (l:=(li e1)) rfl et u64 rfl uk (hq1.at_ (SX.any rfl hw')))) (by kernel_rfl) ?_
  refine V ?_
  obtain⟨e2,hx2,h⟩:=ab h
  obtain⟨ad2,cs2,hA2,hr2,hq2⟩:=hI.clat .p3 hx2
  obtain rfl:cs2=(li e2):=hr2
  refine vI ?_
  refine dl rfl gn rfl (λw' hw'=>(am (l:=(li e2)) rfl et u64 rfl uk (hq2.at_ (SX.any rfl hw')))) (by kernel_rfl) ?_
  refine iq rfl gn rfl (λw'=>iT rfl et et (CD ..) (FY ..)) ?_
  refine V ?_
  refine TR λhb h=>?_
  refine T ?_
  refine aG ?_
  exact kl (fuel1,av (i1+1))
 refine bl ?_
 refine eZ ?_
 refine aS ?_
 exact RF
theorem oL (hF:dF F w0) (hc:AllCl [au] F w0) {r:Bool} (h:i8=some r):CR F w0 11 #[] (vb r) []:=by
 refine sw Tryz.func11 rfl Tryz.ntmps11 rfl ?_
 have hI:=Bun.start hF hc
 clear hc
 rw[i8]at h
 refine T ?_
 obtain⟨r1,hx1,h⟩:=ab h
 refine bf gn rfl (ar (vs:=[(str [50,42,105,32,45,32,51,32,43,32,105])]) rfl Qg ⟨ah,af⟩) (Calls.mono (xc (F:=(Dj F cH)) (w0:=w0) hI.lt (s1:=([50,42,105,32,45,32,51,32,43,32,105]:List UInt8)) trivial (r:=r1) hx1) ?_)
 rintro _ w1 ⟨a1,c1,rfl,hx2,hl1⟩
 refine⟨_,rfl,?_⟩
 replace hI:=(hI.ext hx2).adds hl1;dsimp only[ca,na]at hI
 refine T ?_
 obtain⟨r2,hx3,h⟩:=ab h
 refine bf gn rfl (ar (vs:=[vs a1 r1.1.length c1,vi 0]) rfl Qi ⟨et,ah,af⟩) (Calls.mono (C7 (F:=(Dj F cH)) (w0:=w1) hI.lt (l1:=r1.1) (at1:=0) (a1:=a1) (c1:=c1) ⟨(hI.get .z),(hI.get .p1),af⟩ (r:=r2) hx3) ?_)
 rintro _ w2 ⟨a2,c2,rfl,hx4,hl2⟩
 refine⟨_,rfl,?_⟩
 replace hI:=(hI.ext hx4).adds hl2;dsimp only[ca,na]at hI
 refine T ?_
 refine cY (cs:=#[vi 0,vs none 0 0]) hI gn rfl rfl mj rfl ?_
 clear hI;intro b1 c3 w3 hI
 refine bJ (new:=(fS r2.1 a2 c2)) (cs':=(eP r2.1 a2 c2)) hI .z gn rfl rfl et et rfl bc rfl rfl rfl ?_
 clear hI;intro c4 w4 hI
 refine T ?_
 obtain⟨r3,hx5,h⟩:=ab h
 refine bf gn rfl (ar (vs:=[(str [97,91,105,93,32,43,32,98,91,93,32,42,32,91,50,93])]) rfl GW ⟨ah,af⟩) (Calls.mono (oY (F:=(Dj F c4)) (w0:=w4) hI.lt (s1:=([97,91,105,93,32,43,32,98,91,93,32,42,32,91,50,93]:List UInt8)) ⟨(hI.get .p2),af⟩ (r:=r3) hx5) ?_)
 rintro _ w5 ⟨a3,c5,a4,c6,a5,c7,rfl,hx6,hl3⟩
 refine⟨_,rfl,?_⟩
 replace hI:=(hI.ext hx6).adds hl3;dsimp only[ca,na]at hI
 refine T ?_
 refine cY (cs:=mD) hI gn rfl rfl fW rfl ?_
 clear hI;intro b2 c8 w6 hI
 refine bJ (new:=(ba r3.1 a3 c5 a4 c6 a5 c7)) (cs':=(aA r3.1 a3 c5 a4 c6 a5 c7)) hI .z gn rfl rfl et et rfl aJ rfl rfl rfl ?_
 clear hI;intro c9 w7 hI
 refine T ?_
 obtain⟨r4,hx7,h⟩:=ab h
 refine bf gn rfl (ar (vs:=[(str [97,91])]) rfl GW ⟨ah,af⟩) (Calls.mono (oY (F:=(Dj F c9)) (w0:=w7) hI.lt (s1:=([97,91]:List UInt8)) ⟨(hI.get .p5),af⟩ (r:=r4) hx7) ?_)
 rintro _ w8 ⟨a6,c10,a7,c11,a8,c12,rfl,hx8,hl4⟩
 refine⟨_,rfl,?_⟩
 replace hI:=(hI.ext hx8).adds hl4;dsimp only[ca,na]at hI
 refine T ?_
 refine cY (cs:=mD) hI gn rfl rfl fW rfl ?_
 clear hI;intro b3 c13 w9 hI
 refine bJ (new:=(ba r4.1 a6 c10 a7 c11 a8 c12)) (cs':=(aA r4.1 a6 c10 a7 c11 a8 c12)) hI .z gn rfl rfl et et rfl aJ rfl rfl rfl ?_
 clear hI;intro c14 w10 hI
 refine T ?_
 obtain⟨r5,hx9,h⟩:=ab h
 refine bf gn rfl (ar (vs:=[(str [97,91,105,93,32,43,42,32,50])]) rfl GW ⟨ah,af⟩) (Calls.mono (oY (F:=(Dj F c14)) (w0:=w10) hI.lt (s1:=([97,91,105,93,32,43,42,32,50]:List UInt8)) ⟨(hI.get .p8),af⟩ (r:=r5) hx9) ?_)
 rintro _ w11 ⟨a9,c15,a10,c16,a11,c17,rfl,hx10,hl5⟩
 refine⟨_,rfl,?_⟩
 replace hI:=(hI.ext hx10).adds hl5;dsimp only[ca,na]at hI
 refine T ?_
 refine cY (cs:=mD) hI gn rfl rfl fW rfl ?_
 clear hI;intro b4 c18 w12 hI
 refine bJ (new:=(ba r5.1 a9 c15 a10 c16 a11 c17)) (cs':=(aA r5.1 a9 c15 a10 c16 a11 c17)) hI .z gn rfl rfl et et rfl aJ rfl rfl rfl ?_
 clear hI;intro c19 w13 hI
 refine T ?_
 obtain⟨r6,hx11,h⟩:=ab h
 refine bf gn rfl (ar (vs:=[(str [102,114,97,99,40,50,47,52,41])]) rfl GW ⟨ah,af⟩) (Calls.mono (oY (F:=(Dj F c19)) (w0:=w13) hI.lt (s1:=([102,114,97,99,40,50,47,52,41]:List UInt8)) ⟨(hI.get (.s (.s .p9))),af⟩ (r:=r6) hx11) ?_)
 rintro _ w14 ⟨a12,c20,a13,c21,a14,c22,rfl,hx12,hl6⟩
 refine⟨_,rfl,?_⟩
 replace hI:=(hI.ext hx12).adds hl6;dsimp only[ca,na]at hI
 refine T ?_
 refine cY (cs:=mD) hI gn rfl rfl fW rfl ?_
 clear hI;intro b5 c23 w15 hI
 refine bJ (new:=(ba r6.1 a12 c20 a13 c21 a14 c22)) (cs':=(aA r6.1 a12 c20 a13 c21 a14 c22)) hI .z gn rfl rfl et et rfl aJ rfl rfl rfl ?_
 clear hI;intro c24 w16 hI
 refine T ?_
 refine aj (T ?_)
 refine aw (bj rfl rfl rfl rfl) rfl (λhc=>(am (l:=(fS r2.1 a2 c2)) rfl et pr rfl bc (Q5 (hI.blk .p4) rfl))) ?_
 refine aw (bj rfl rfl rfl rfl) rfl (λhc=>(aK (vs:=[(0,(str [105])),(1,vi 3)]) (cs:=#[(str [105]),vi 3]) rfl ⟨rfl,ah,rfl,ah,af⟩ (by kernel_rfl))) ?_
 obtain⟨ho1,h⟩:=fT h
 refine MM (c:=ai) (xs:=([⟨[105],3⟩]:List bv)) (vs:=[(0,(Value.agg #[(str [105]),vi 3]))]) (cs:=#[(str [105]),vi 3]) (css:=[[(str [105]),vi 3]]) hI (J1 (bj rfl rfl rfl rfl) ho1) rfl rfl BL uu rfl ⟨rfl,(aI et ho1),af⟩ (by kernel_rfl) ⟨rfl,af⟩ rfl rfl rfl ?_
 clear hI;intro b6 c25 w17 hI
 refine aw (bj rfl rfl rfl rfl) rfl (λhc=>(aK (vs:=[(0,vi (-3)),(1,(vs (some ⟨b6,0,none⟩) ([⟨[105],3⟩]:List bv).length 1))]) (cs:=#[vi (-3),(vs (some ⟨b6,0,none⟩) ([⟨[105],3⟩]:List bv).length 1)]) rfl ⟨rfl,ah,rfl,et,af⟩ (by kernel_rfl))) ?_
 obtain⟨r7,hx13,h⟩:=ab h
 refine bf (J1 (bj rfl rfl rfl rfl) ho1) rfl (ar (vs:=[(Value.agg (eP r2.1 a2 c2)),(Value.agg #[vi (-3),(vs (some ⟨b6,0,none⟩) ([⟨[105],3⟩]:List bv).length 1)])]) rfl Jx ⟨(aI et ho1),(aI et ho1),af⟩) (Calls.mono (oM (F:=cH) (w0:=w17) NE (a1:=r2.1) (b1:=(⟨(-3),([⟨[105],3⟩]:List bv)⟩:aC)) (a2:=a2) (c1:=c2) (a3:=(some ⟨b6,0,none⟩)) (c2:=1) ⟨(hI.get0 (.s (.s (.s .p9)))),hI.lend .z,af⟩ (r:=r7) hx13) ?_)
 rintro _ w18 ⟨rfl,hx14,hl7⟩
 refine⟨_,rfl,?_⟩
 replace hI:=(hI.ext hx14)
 refine T ?_
 refine E7 h et (λhb h=>?_) (λhb h=>?_)
 ·refine T ?_
  refine aO ?_
  obtain rfl:=ak h
  exact QF hI
 refine T ?_
 obtain⟨e1,hx15,h⟩:=ab h
 replace hx15:=ax hx15
 obtain⟨ad1,cs1,hq1⟩:=hI.gclat (.s (.s .p9)) hx15
 obtain⟨a15,c26,a16,c27,a17,c28,hq2⟩:∃ (a15:Option Addr) (c26:Nat) (a16:Option Addr) (c27:Nat) (a17:Option Addr) (c28:Nat),(decide (r3.1.Op=4))=true→(a5=some ad1∧cs1=(ba e1 a15 c26 a16 c27 a17 c28)∧CA (Dj F c25) w18 (ad1.add (Int.toNat 0 * 13)) cs1∧SlC ai (Dj F c25) w18 a15 c26 e1.Lin.L∧SlC al (Dj F c25) w18 a16 c27 e1.Idx∧SlC an (Dj F c25) w18 a17 c28 e1.Args):=by
  by_cases hc:(decide (r3.1.Op=4))=true
  ·obtain⟨k1,k2,k3⟩:=hq1 hc;obtain⟨a15,c26,a16,c27,a17,c28,rfl,hf1,hf2,hf3⟩:=ci k2;exact⟨a15,c26,a16,c27,a17,c28,λ_=>⟨k1,rfl,k3,hf1,hf2,hf3⟩⟩
  exact⟨default,default,default,default,default,default,λk=>absurd k hc⟩
 clear hq1
 have hI:=hI.add (c:=Rf (decide (r3.1.Op=4)) ai a15 c26 e1.Lin.L) (λhc=>(hq2 hc).2.2.2.1)
 have hI:=hI.add (c:=Rf (decide (r3.1.Op=4)) al a16 c27 e1.Idx) (λhc=>(hq2 hc).2.2.2.2.1)
 have hI:=hI.add (c:=Rf (decide (r3.1.Op=4)) an a17 c28 e1.Args) (λhc=>(hq2 hc).2.2.2.2.2)
 have hq3:(decide (r3.1.Op=4))=true→CA (Dj F c25) w18 (ad1.add (Int.toNat 0 * 13)) (ba e1 a15 c26 a16 c27 a17 c28):=λhc=>vF (hq2 hc).2.1 (hq2 hc).2.2.1
 refine sJ ?_
 refine T ?_
 obtain⟨e2,hx16,h⟩:=ab h
 replace hx16:=ax hx16
 obtain⟨ad2,cs2,hq4⟩:=hI.gclat (.s (.s (.s (.s (.s .p9))))) hx16
 obtain⟨a18,c29,a19,c30,a20,c31,hq5⟩:∃ (a18:Option Addr) (c29:Nat) (a19:Option Addr) (c30:Nat) (a20:Option Addr) (c31:Nat),((decide (r3.1.Op=4))&&(decide (e1.Op=3)))=true→(a5=some ad2∧cs2=(ba e2 a18 c29 a19 c30 a20 c31)∧CA (Dj F c25) w18 (ad2.add (Int.toNat 1 * 13)) cs2∧SlC ai (Dj F c25) w18 a18 c29 e2.Lin.L∧SlC al (Dj F c25) w18 a19 c30 e2.Idx∧SlC an (Dj F c25) w18 a20 c31 e2.Args):=by
  by_cases hc:((decide (r3.1.Op=4))&&(decide (e1.Op=3)))=true
  ·obtain⟨k1,k2,k3⟩:=hq4 hc;obtain⟨a18,c29,a19,c30,a20,c31,rfl,hf4,hf5,hf6⟩:=ci k2;exact⟨a18,c29,a19,c30,a20,c31,λ_=>⟨k1,rfl,k3,hf4,hf5,hf6⟩⟩
  exact⟨default,default,default,default,default,default,λk=>absurd k hc⟩
 clear hq4
 have hI:=hI.add (c:=Rf ((decide (r3.1.Op=4))&&(decide (e1.Op=3))) ai a18 c29 e2.Lin.L) (λhc=>(hq5 hc).2.2.2.1)
 have hI:=hI.add (c:=Rf ((decide (r3.1.Op=4))&&(decide (e1.Op=3))) al a19 c30 e2.Idx) (λhc=>(hq5 hc).2.2.2.2.1)
 have hI:=hI.add (c:=Rf ((decide (r3.1.Op=4))&&(decide (e1.Op=3))) an a20 c31 e2.Args) (λhc=>(hq5 hc).2.2.2.2.2)
 have hq6:((decide (r3.1.Op=4))&&(decide (e1.Op=3)))=true→CA (Dj F c25) w18 (ad2.add (Int.toNat 1 * 13)) (ba e2 a18 c29 a19 c30 a20 c31):=λhc=>vF (hq5 hc).2.1 (hq5 hc).2.2.1
 refine sJ ?_
 refine T ?_
 refine aO ?_
 obtain rfl:=ak h
 exact QF hI
theorem Dg (hF:dF F w0) (hc:AllCl [] F w0) {r:List (List UInt8)} (h:mu=some r):Cg 116 #[] w0 λe w=>∃ a1 c1,e= .returned (vs a1 r.length c1)∧Ext w0 w∧AllCl [Cl.sl be a1 c1 r] F w:=by
 refine EN Tryz.func116 Tryz.ntmps116 hF hc λhI=>?_
 rw[mu]at h
 refine T ?_
 refine ll hI be ([[115,105,122,101],[119,104,101,114,101],[105,110],[100,101,102],[111,117,116],[115,117,109],[112,114,111,100],[109,105,110],[109,97,120],[115,99,97,110],[111,118,101,114],[105,102],[99,97,115,116],[102,114,97,99],[105,110,116],[102,105,120],[99,101,105,108],[102,108,111,111,114],[122,101,114,111],[101,118,101,110],[115,97,116],[119,114,97,112]]:List (List UInt8)) lw Rr λb1 c2 w1 hI=>?_
 refine T ?_
 refine aO ?_
 obtain⟨c3,hI⟩:=hI.release .z
 obtain rfl:=ak h
 refine QG ?_
 exact⟨some ⟨b1,0,none⟩,22,rfl,hI.ext0,hI.fin ⟨.z,af⟩⟩
theorem Ga (hF:dF F w0) {l1:List (List UInt8)} {s1:List UInt8} (hc:AllCl [Cl.sl be a1 c1 l1] F w0) {r:Bool} (h:ql l1 s1=some r):CR F w0 115 #[vs a1 l1.length c1,(str s1)] (vb r) []:=by
 refine EN Tryz.func115 Tryz.ntmps115 hF hc λhI=>?_
 rw[ql]at h
 refine T ?_
 refine aj (T ?_)
 refine bk (α:=Nat×Int) (λx=>λw=>∃ C,Bun cH F w0 C w [] [Cl.sl be a1 c1 l1]∧ia l1 s1 (x.1) (x.2)=some r) (λx _=>x.1) (λx=>[(0,vs a1 l1.length c1),(1,(str s1)),(5,vi (x.2))]) (fu,0) BH SB ?_
 clear h hI;rintro⟨fuel1,i1⟩ w1 ⟨c2,hI,h⟩
 dsimp only at hI h ⊢
 rcases fuel1 with _ | fuel1
 ·rw[ia]at h;cases h
 rw[ia]at h
 refine aj (T ?_)
 refine TC (λhb h=>?_) λhb h=>?_
 ·refine T ?_
  refine aj (T ?_)
  obtain⟨e1,hx1,h⟩:=ab h
  obtain⟨ad1,cs1,hA1,hr1,hq1⟩:=hI.clat .z hx1
  obtain rfl:cs1=[(str e1)]:=hr1
  refine sI ?_
  refine TR λhb h=>?_
  refine T ?_
  refine aG ?_
  exact kl (fuel1,av (i1+1))
 refine bl ?_
 refine eZ ?_
 refine aS ?_
 exact RF
theorem kJ (hF:dF F w0) {s1:List UInt8} (hc:AllCl [] F w0) {r:Bool} (h:eY s1=some r):CR F w0 61 #[(str s1)] (vb r) []:=by
 refine EN Tryz.func61 Tryz.ntmps61 hF hc λhI=>?_
 rw[eY]at h
 refine T ?_
 refine aj (T ?_)
 obtain⟨r1,hx1,h⟩:=ab h
 replace hx1:=ax hx1
 refine Jh (β:=(Option Addr)×Nat) (λx=>(vs (x.1) r1.length (x.2))) (λx w'=>AllCl [Cl.sl be (x.1) (x.2) r1] (Dj F cH) w') (bj rfl rfl rfl rfl) rfl (λhc=>(ar (vs:=[]) rfl OA trivial)) (λhc=>(Dg hI.lt af (hx1 hc)).mono λ_ _ ⟨a1,c1,k1_,k2_,k3_⟩=>⟨(a1,c1),k1_,k2_,k3_⟩) ?_
 rintro⟨a1,c1⟩ w1 hx2 hl1;replace hI:=hI.ext hx2
 have hI:=hI.add (c:=Rf (!((decide ((s1.length:Int)<1))||(decide (16<(s1.length:Int))))) be a1 c1 r1) (λhc=>(hl1 hc).1)
 refine T ?_
 obtain⟨r2,hx3,h⟩:=ab h
 replace hx3:=ax hx3
 refine sU (λhc=>Ga hI.lt ⟨(hI.get .z hc),af⟩ (hx3 hc)) (Rg Tryz.func115) λw2 hI=>?_
 refine TR λhb h=>?_
 refine T ?_
 refine aj (T ?_)
 refine bk (α:=Nat×Int) (λx=>λw=>∃ C,Bun cH F w0 C w [] []∧gE s1 (x.1) (x.2)=some r) (λx _=>x.1) (λx=>[(0,(str s1)),(3,vi (x.2))]) (fu,0) BH SB ?_
 clear h hI;rintro⟨fuel1,i1⟩ w3 ⟨c2,hI,h⟩
 dsimp only at hI h ⊢
 rcases fuel1 with _ | fuel1
 ·rw[gE]at h;cases h
 rw[gE]at h
 refine aj (T ?_)
 refine TC (λhb h=>?_) λhb h=>?_
 ·refine T ?_
  refine aj (T ?_)
  obtain⟨b1,hx5,h⟩:=ab h
  refine sI ?_
  refine TR λhb h=>?_
  refine T ?_
  refine aG ?_
  exact kl (fuel1,av (i1+1))
 refine bl ?_
 refine eZ ?_
 refine aS ?_
 exact RF
theorem gP (hF:dF F w0) {l1:aC} (hc:AllCl [Cl.sl ai a1 c1 l1.L] F w0) {r:Bool} (h:dH l1=some r):CR F w0 114 #[(Value.agg (eP l1 a1 c1))] (vb r) []:=by
 refine EN Tryz.func114 Tryz.ntmps114 hF hc λhI=>?_
 rw[dH]at h
 refine sr (lX λb1 c3 w1 hI=>?_)
 refine T ?_
 refine aj (T ?_)
 refine bk (α:=Nat×Int) (λx=>λw=>∃ C,Bun cH F w0 C w [] [Cl.blk b1 27 (eP l1 a1 c1),Cl.sl ai a1 c1 l1.L]∧dk l1 (x.1) (x.2)=some r) (λx _=>x.1) (λx=>[(1,vp b1 0),(3,vi (x.2))]) (fu,0) BH SB ?_
 clear h hI;rintro⟨fuel1,i1⟩ w2 ⟨c4,hI,h⟩
 dsimp only at hI h ⊢
 rcases fuel1 with _ | fuel1
 ·rw[dk]at h;cases h
 rw[dk]at h
 refine aj (T ?_)
 refine TC (λhb h=>?_) λhb h=>?_
 ·refine T ?_
  refine aj (T ?_)
  refine aj (aL [] false (.c (0,.q) (.c (1,.q) (.c (2,.q) (.c (3,.q) (.c (4,.q) (.c (5,.q) (.c (6,.s) (.c (7,.q) (.c (8,.q) (.c (9,.q) (.c (10,.q) (.c (11,.q) (.c (12,.q) (.c (13,.q) (.c (14,.q) (.c (15,.q) (.c (16,.q) (.c (17,.q) (.c (18,.q) (.c (19,.q) (.c (20,.q) (.c (21,.q) (.c (22,.q) (.c (23,.q) (.c (24,.q) (.c (25,.q) (.c (26,.q) (.c (27,.q) (.c (28,.q) (.c (29,.q) (.c (30,.q) (.c (31,.q) (.c (32,.q) (.c (33,.q) (.c (34,.q) (.c (35,.q) (.c (36,.q) .n))))))))))))))))))))))))))))))))))))) hI (by kernel_rfl) (by kernel_rfl) ?_)
  intro w3 hI
  refine V ?_
  obtain⟨e1,hx1,h⟩:=ab h
  obtain⟨ad1,cs1,hA1,hr1,hq1⟩:=hI.clat .p1 hx1
  obtain rfl:cs1=(li e1):=hr1
  refine vI ?_
  refine V ?_
  obtain⟨r1,hx2,h⟩:=ab h
  refine bF rfl gn rfl (ar (vs:=[(str e1.Name)]) rfl Qd ⟨et,af⟩) (Calls.mono (kJ hI.lt af hx2) ?_)
  rintro _ w4 ⟨rfl,hx3,hl1⟩
  refine⟨_,rfl,hx3,?_⟩
  replace hI:=(hI.ext hx3)
  refine V ?_
  obtain⟨e2,hx4,h⟩:=ab h
  replace hx4:=ax hx4
  obtain⟨ad2,cs2,hq2⟩:=hI.gclat .p1 hx4
  have hq3:(!(!r1))=true→CA (Dj F c4) w4 (ad2.add (Int.toNat i1 * 2)) (li e2):=λhc=>vF (hq2 hc).2.1 (hq2 hc).2.2
  refine vJ ?_
  refine V ?_
  obtain⟨e3,hx5,h⟩:=ab h
  replace hx5:=ax hx5
  obtain⟨ad3,cs3,hq4⟩:=hI.gclat .p1 hx5
  have hq5:((!((!r1)||(decide (e2.By=0))))&&(decide (0<i1)))=true→CA (Dj F c4) w4 (ad3.add (Int.toNat (av (i1 - 1)) * 2)) (li e3):=λhc=>vF (hq4 hc).2.1 (hq4 hc).2.2
  refine vJ ?_
  refine V ?_
  obtain⟨e4,hx6,h⟩:=ab h
  replace hx6:=ax hx6
  obtain⟨ad4,cs4,hq6⟩:=hI.gclat .p1 hx6
  have hq7:((!((!r1)||(decide (e2.By=0))))&&(decide (0<i1)))=true→CA (Dj F c4) w4 (ad4.add (Int.toNat i1 * 2)) (li e4):=λhc=>vF (hq6 hc).2.1 (hq6 hc).2.2
  refine vJ ?_
  refine V ?_
  refine TR λhb h=>?_
  refine T ?_
  refine aG ?_
  exact kl (fuel1,av (i1+1))
 refine bl ?_
 refine eZ ?_
 refine aS ?_
 exact RF
theorem xd (hF:dF F w0) {l1:aC} (hc:AllCl [Cl.sl ai a1 c1 l1.L] F w0) {r:Int} (h:gZ l1=some r):CR F w0 170 #[(Value.agg (eP l1 a1 c1))] (vi r) []:=by
 refine EN Tryz.func170 Tryz.ntmps170 hF hc λhI=>?_
 rw[gZ]at h
 refine sr (lX λb1 c3 w1 hI=>?_)
 refine T ?_
 refine aj (sr (sq (am (l:=(fS l1 a1 c1)) rfl et pr rfl bc (hI.kblk (l:=(fS l1 a1 c1)) .z rfl).1) ?_))
 refine sB h (λ_ k=>gP hI.lt FS k) (Rc Tryz.func114) λr1 w2 h hI=>?_
 refine TR λhb h=>?_
 exact RF
end Go.Proofs.YtmhoikfoogemnaaGreatDoor
