import Derived.Test.YtebpdmfmknfkjaaGreatDoorSCtb
namespace Go.Proofs.YtebpdmfmknfkjaaGreatDoor
open Go Go.RowKit Go.Vc
set_option linter.unusedVariables false
set_option linter.unusedSimpArgs false
set_option maxRecDepth 100000 in
set_option maxHeartbeats 4000000 in
theorem c_printer_writer_expr_w_b (rec_ : ((List UInt8) → GExpr → Option (Unit × List UInt8))) (hrec : ∀ (C0 F : NP) (w0 : World) (w1 : List UInt8) (e1 : GExpr) (b1 : Nat) (a1 : Option Addr) (c1 : Nat) (a2 : Option Addr) (c2 : Nat) (a3 : Option Addr) (c3 : Nat) (hI : Bun C0 F w0 C0 w0 [MO.bld 5 82 b1 w1] [Cl.sl cGMono a1 c1 e1.Lin.L, Cl.sl cGIndex a2 c2 e1.Idx, Cl.sl cGExpr a3 c3 e1.Args, clPow10, clSpace]) (r : Unit × List UInt8) (h : rec_ w1 e1 = some r), Calls Tryz.prog 46 #[(vp b1 0), (Value.agg #[(vi e1.Op), (str e1.Name), (vi e1.Val.N), (vi e1.Val.D), (vi e1.Type_.Kind), (vi e1.Type_.Bits), (vi e1.Type_.Frac), (vi e1.Type_.Round), (vi e1.Type_.Over), (vi e1.Lin.K), (vs a1 e1.Lin.L.length c1), (vs a2 e1.Idx.length c2), (vs a3 e1.Args.length c3)])] w0 fun e w => ∃ (C : NP), e = .returned (Value.tuple #[]) ∧ Bun C0 F w0 C w [MO.bld 5 82 b1 r.2] [])
  (C0 F : NP) (w0 : World) (w1 : List UInt8) (e1 : GExpr) (b1 : Nat) (a1 : Option Addr) (c1 : Nat) (a2 : Option Addr) (c2 : Nat) (a3 : Option Addr) (c3 : Nat) (hI : Bun C0 F w0 C0 w0 [MO.bld 5 82 b1 w1] [Cl.sl cGMono a1 c1 e1.Lin.L, Cl.sl cGIndex a2 c2 e1.Idx, Cl.sl cGExpr a3 c3 e1.Args, clPow10, clSpace]) (r : Unit × List UInt8) (h : m_printer_writer_expr_w_b rec_ w1 e1 = some r) : Calls Tryz.prog 46 #[(vp b1 0), (Value.agg #[(vi e1.Op), (str e1.Name), (vi e1.Val.N), (vi e1.Val.D), (vi e1.Type_.Kind), (vi e1.Type_.Bits), (vi e1.Type_.Frac), (vi e1.Type_.Round), (vi e1.Type_.Over), (vi e1.Lin.K), (vs a1 e1.Lin.L.length c1), (vs a2 e1.Idx.length c2), (vs a3 e1.Args.length c3)])] w0 fun e w => ∃ (C : NP), e = .returned (Value.tuple #[]) ∧ Bun C0 F w0 C w [MO.bld 5 82 b1 r.2] [] := by
 refine enterK (l := [(vp b1 0), (Value.agg #[(vi e1.Op), (str e1.Name), (vi e1.Val.N), (vi e1.Val.D), (vi e1.Type_.Kind), (vi e1.Type_.Bits), (vi e1.Type_.Frac), (vi e1.Type_.Round), (vi e1.Type_.Over), (vi e1.Lin.K), (vs a1 e1.Lin.L.length c1), (vs a2 e1.Idx.length c2), (vs a3 e1.Args.length c3)])]) Tryz.func46 rfl Tryz.ntmps46 rfl ?_
 rw [m_printer_writer_expr_w_b] at h
 refine sr ?_
 refine l_box (v := (Value.agg #[(vi e1.Op), (str e1.Name), (vi e1.Val.N), (vi e1.Val.D), (vi e1.Type_.Kind), (vi e1.Type_.Bits), (vi e1.Type_.Frac), (vi e1.Type_.Round), (vi e1.Type_.Over), (vi e1.Lin.K), (vs a1 e1.Lin.L.length c1), (vs a2 e1.Idx.length c2), (vs a3 e1.Args.length c3)])) (cs := #[(vi e1.Op), (str e1.Name), (vi e1.Val.N), (vi e1.Val.D), (vi e1.Type_.Kind), (vi e1.Type_.Bits), (vi e1.Type_.Frac), (vi e1.Type_.Round), (vi e1.Type_.Over), (vi e1.Lin.K), (vs a1 e1.Lin.L.length c1), (vs a2 e1.Idx.length c2), (vs a3 e1.Args.length c3)]) hI gn rfl rfl et rfl ?_
 clear hI; intro b2 c4 w2 hI
 obtain ⟨c5, hI⟩ := hI.relBox .z
 refine nk ?_
 refine sr ?_
 refine sq (y_fieldAddr rfl et Tryz.underlying39 rfl size_3 rfl) ?_
 refine sq (y_load1 (v := (vi e1.Op)) rfl et Tryz.underlying3 rfl (hI.kblk (l := [(vi e1.Op)]) .z rfl).1) ?_
 obtain ⟨r1, hx1, h⟩ := bnd_some h
 refine s_call gn rfl (r_callF (vs := [(vi e1.Op)]) rfl ok_95 ⟨et, trivial⟩) (Calls.mono (c_printer_precedence (Dj F c5) w2 hI.lt e1.Op trivial r1 hx1) ?_)
 rintro _ w3 ⟨rfl, hx2, hl1⟩
 refine ⟨_, rfl, ?_⟩
 replace hI := (hI.ext hx2)
 refine sa ?_
 refine nk ?_
 refine sr ?_
 refine sq (y_fieldAddr rfl et Tryz.underlying39 rfl size_3 rfl) ?_
 refine sq (y_load1 (v := (vi e1.Op)) rfl et Tryz.underlying3 rfl (hI.kblk (l := [(vi e1.Op)]) .z rfl).1) ?_
 refine nk ?_
 refine c_block ?_
 refine sr ?_
 refine sq (y_eql rfl et ev_const) ?_
 refine sa ?_
 refine nk ?_
 refine c_cond (b := decide (e1.Op = 1)) et (fun hb => ?_) (fun hb => ?_)
 ·replace h := ite_t hb h
  refine c_drawX [14] false (.c (0, .q) (.c (1, .q) (.c (2, .q) (.c (3, .q) (.c (4, .q) (.c (7, .q) (.c (8, .q) (.c (9, .q) (.c (10, .q) (.c (5, .s) (.c (6, .q) (.c (11, .s) (.c (12, .q) (.c (13, .q) (.c (14, .s) .n))))))))))))))) hI (by kernel_rfl) (by kernel_rfl) ?_
  clear hI; intro w4 hI
  refine a_q rfl gn rfl (fun w' => (y_move rfl et)) ?_
  refine a_q rfl gn rfl (fun w' => (y_nilCheck rfl et)) ?_
  refine a_q rfl gn rfl (fun w' => (y_fieldAddr rfl et Tryz.underlying82 rfl size_80 rfl)) ?_
  refine a_q rfl gn rfl (fun w' => (y_fieldAddr rfl et Tryz.underlying39 rfl size_23 rfl)) ?_
  refine a_read rfl gn rfl (fun w' hw' => (y_loadN (l := [(vi e1.Type_.Kind), (vi e1.Type_.Bits), (vi e1.Type_.Frac), (vi e1.Type_.Round), (vi e1.Type_.Over)]) rfl et Tryz.underlying23 rfl size_23 ((hI.kblk (l := [(vi e1.Type_.Kind), (vi e1.Type_.Bits), (vi e1.Type_.Frac), (vi e1.Type_.Round), (vi e1.Type_.Over)]) .z rfl).at_ (SX.any rfl hw')))) (by kernel_rfl) ?_
  refine a_q rfl gn rfl (fun w' => (y_fieldAddr rfl et Tryz.underlying39 rfl size_23 rfl)) ?_
  refine a_read rfl gn rfl (fun w' hw' => (y_loadN (l := [(vi e1.Type_.Kind), (vi e1.Type_.Bits), (vi e1.Type_.Frac), (vi e1.Type_.Round), (vi e1.Type_.Over)]) rfl et Tryz.underlying23 rfl size_23 ((hI.kblk (l := [(vi e1.Type_.Kind), (vi e1.Type_.Bits), (vi e1.Type_.Frac), (vi e1.Type_.Round), (vi e1.Type_.Over)]) .z rfl).at_ (SX.any rfl hw')))) (by kernel_rfl) ?_
  refine a_q rfl gn rfl (fun w' => (y_fieldAddr rfl et Tryz.underlying39 rfl size_36 rfl)) ?_
  refine a_read rfl gn rfl (fun w' hw' => (y_loadN (l := [(vi e1.Val.N), (vi e1.Val.D)]) rfl et Tryz.underlying36 rfl size_36 ((hI.kblk (l := [(vi e1.Val.N), (vi e1.Val.D)]) .z rfl).at_ (SX.any rfl hw')))) (by kernel_rfl) ?_
  obtain ⟨r2, hx3, h⟩ := bnd_some h
  refine la_call rfl gn rfl (r_callF (vs := [(Value.agg #[(vi e1.Type_.Kind), (vi e1.Type_.Bits), (vi e1.Type_.Frac), (vi e1.Type_.Round), (vi e1.Type_.Over)])]) rfl ok_10 ⟨et, trivial⟩) (Calls.mono (c_printer_Type (Dj F c5) w4 hI.lt e1.Type_ ⟨(hI.get (.s (.s (.s (.s .z))))), trivial⟩ r2 hx3) ?_)
  rintro _ w5 ⟨rfl, hx4, hl2⟩
  refine ⟨_, rfl, hx4, ?_⟩
  replace hI := (hI.ext hx4)
  obtain ⟨s1, hx5, h⟩ := bnd_some h
  refine a_q rfl gn rfl (fun w' => (y_catl rfl et ev_const hx5)) ?_
  obtain ⟨r3, hx6, h⟩ := bnd_some h
  refine la_call rfl gn rfl (r_callF (vs := [(Value.agg #[(vi e1.Type_.Kind), (vi e1.Type_.Bits), (vi e1.Type_.Frac), (vi e1.Type_.Round), (vi e1.Type_.Over)]), (Value.agg #[(vi e1.Val.N), (vi e1.Val.D)])]) rfl ok_96 ⟨et, ⟨et, trivial⟩⟩) (Calls.mono (c_value_Format (Dj F c5) w5 hI.lt e1.Type_ e1.Val ⟨(hI.get (.s (.s (.s (.s .z))))), trivial⟩ r3 hx6) ?_)
  rintro _ w6 ⟨rfl, hx7, hl3⟩
  refine ⟨_, rfl, hx7, ?_⟩
  replace hI := (hI.ext hx7)
  obtain ⟨s2, hx8, h⟩ := bnd_some h
  refine a_q rfl gn rfl (fun w' => (y_catl rfl et et hx8)) ?_
  obtain ⟨s3, hx9, h⟩ := bnd_some h
  refine a_q rfl gn rfl (fun w' => (y_catl rfl et ev_const hx9)) ?_
  refine a_turn (F := F) (C := c5) rfl rfl ?_
  obtain ⟨zs1, hx10, h⟩ := bnd_some h
  obtain ⟨c6, f1, hB, hl4, hk1⟩ := hI.hands (.l .n)
  refine la_callX rfl gn rfl (r_callF (vs := [(vp b1 0), (str s3)]) rfl ok_66 ⟨et, ⟨et, trivial⟩⟩) (Calls.mono (c_bldWrite bldT_82 c6 f1 w6 b1 w1 s3 zs1 (hB.subs trivial) hx10) ?_)
  rintro _ w7 ⟨c7, rfl, hB2⟩
  obtain ⟨c8, hs1, hI⟩ := hk1 _ _ _ _ hB2
  replace hI : Bun C0 F w0 c8 w7 [MO.bld 5 82 b1 zs1] [Cl.blk b2 39 #[(vi e1.Op), (str e1.Name), (vi e1.Val.N), (vi e1.Val.D), (vi e1.Type_.Kind), (vi e1.Type_.Bits), (vi e1.Type_.Frac), (vi e1.Type_.Round), (vi e1.Type_.Over), (vi e1.Lin.K), (vs a1 e1.Lin.L.length c1), (vs a2 e1.Idx.length c2), (vs a3 e1.Args.length c3)], Cl.sl cGMono a1 c1 e1.Lin.L, Cl.sl cGIndex a2 c2 e1.Idx, Cl.sl cGExpr a3 c3 e1.Args, clPow10, clSpace] := hI
  refine ⟨_, rfl, DM true F c8, hs1, ?_⟩
  refine a_nil ?_
  obtain rfl := some_inj h
  exact q_ret (vs := []) Tryz.results46 trivial ⟨_, rfl, hI.arr (.c .z .n) trivial⟩
 ·replace h := ite_f hb h
  refine sr ?_
  refine sq (y_eql rfl et ev_const) ?_
  refine sa ?_
  refine nk ?_
  refine c_cond (b := decide (e1.Op = 2)) et (fun hb => ?_) (fun hb => ?_)
  ·replace h := ite_t hb h
   refine c_drawX [8] false (.c (0, .q) (.c (1, .q) (.c (2, .q) (.c (3, .q) (.c (4, .q) (.c (5, .s) (.c (6, .q) (.c (7, .q) (.c (8, .s) .n))))))))) hI (by kernel_rfl) (by kernel_rfl) ?_
   clear hI; intro w8 hI
   refine a_q rfl gn rfl (fun w' => (y_move rfl et)) ?_
   refine a_q rfl gn rfl (fun w' => (y_nilCheck rfl et)) ?_
   refine a_q rfl gn rfl (fun w' => (y_fieldAddr rfl et Tryz.underlying82 rfl size_80 rfl)) ?_
   refine a_q rfl gn rfl (fun w' => (y_fieldAddr rfl et Tryz.underlying39 rfl size_29 rfl)) ?_
   refine a_read rfl gn rfl (fun w' hw' => (y_loadN (l := [(vi e1.Lin.K), (vs a1 e1.Lin.L.length c1)]) rfl et Tryz.underlying29 rfl size_29 ((hI.kblk (l := [(vi e1.Lin.K), (vs a1 e1.Lin.L.length c1)]) .z rfl).at_ (SX.any rfl hw')))) (by kernel_rfl) ?_
   obtain ⟨r4, hx11, h⟩ := bnd_some h
   refine la_call rfl gn rfl (r_callF (vs := [(Value.agg #[(vi e1.Lin.K), (vs a1 e1.Lin.L.length c1)])]) rfl ok_36 ⟨et, trivial⟩) (Calls.mono (c_lin_Format (Dj F c5) w8 hI.lt e1.Lin a1 c1 ⟨(hI.get (.s .z)), (hI.get (.s (.s (.s (.s .z))))), trivial⟩ r4 hx11) ?_)
   rintro _ w9 ⟨rfl, hx12, hl5⟩
   refine ⟨_, rfl, hx12, ?_⟩
   replace hI := (hI.ext hx12)
   obtain ⟨s4, hx13, h⟩ := bnd_some h
   refine a_q rfl gn rfl (fun w' => (y_catl rfl ev_const et hx13)) ?_
   obtain ⟨s5, hx14, h⟩ := bnd_some h
   refine a_q rfl gn rfl (fun w' => (y_catl rfl et ev_const hx14)) ?_
   refine a_turn (F := F) (C := c5) rfl rfl ?_
   obtain ⟨zs2, hx15, h⟩ := bnd_some h
   obtain ⟨c9, f2, hB, hl6, hk2⟩ := hI.hands (.l .n)
   refine la_callX rfl gn rfl (r_callF (vs := [(vp b1 0), (str s5)]) rfl ok_66 ⟨et, ⟨et, trivial⟩⟩) (Calls.mono (c_bldWrite bldT_82 c9 f2 w9 b1 w1 s5 zs2 (hB.subs trivial) hx15) ?_)
   rintro _ w10 ⟨c10, rfl, hB2⟩
   obtain ⟨c11, hs2, hI⟩ := hk2 _ _ _ _ hB2
   replace hI : Bun C0 F w0 c11 w10 [MO.bld 5 82 b1 zs2] [Cl.blk b2 39 #[(vi e1.Op), (str e1.Name), (vi e1.Val.N), (vi e1.Val.D), (vi e1.Type_.Kind), (vi e1.Type_.Bits), (vi e1.Type_.Frac), (vi e1.Type_.Round), (vi e1.Type_.Over), (vi e1.Lin.K), (vs a1 e1.Lin.L.length c1), (vs a2 e1.Idx.length c2), (vs a3 e1.Args.length c3)], Cl.sl cGMono a1 c1 e1.Lin.L, Cl.sl cGIndex a2 c2 e1.Idx, Cl.sl cGExpr a3 c3 e1.Args, clPow10, clSpace] := hI
   refine ⟨_, rfl, DM true F c11, hs2, ?_⟩
   refine a_nil ?_
   obtain rfl := some_inj h
   exact q_ret (vs := []) Tryz.results46 trivial ⟨_, rfl, hI.arr (.c .z .n) trivial⟩
  ·replace h := ite_f hb h
   refine sr ?_
   refine sq (y_eql rfl et ev_const) ?_
   refine sa ?_
   refine nk ?_
   refine c_cond (b := decide (e1.Op = 3)) et (fun hb => ?_) (fun hb => ?_)
   ·replace h := ite_t hb h
    refine sr ?_
    refine sq (y_fieldAddr rfl et Tryz.underlying39 rfl size_34 rfl) ?_
    refine sq (y_load1 (v := (vs a2 e1.Idx.length c2)) rfl et Tryz.underlying34 rfl (hI.kblk (l := [(vs a2 e1.Idx.length c2)]) .z rfl).1) ?_
    refine sa ?_
    refine nk ?_
    refine c_drawX [13] false (.c (0, .q) (.c (1, .q) (.c (2, .q) (.c (3, .q) (.c (4, .q) (.c (5, .q) (.c (6, .q) (.c (7, .q) (.c (8, .q) (.c (9, .q) (.c (10, .s) (.c (11, .q) (.c (12, .q) (.c (13, .s) .n)))))))))))))) hI (by kernel_rfl) (by kernel_rfl) ?_
    clear hI; intro w11 hI
    refine a_q rfl gn rfl (fun w' => (y_move rfl et)) ?_
    refine a_q rfl gn rfl (fun w' => (y_nilCheck rfl et)) ?_
    refine a_q rfl gn rfl (fun w' => (y_fieldAddr rfl et Tryz.underlying82 rfl size_80 rfl)) ?_
    refine a_q rfl gn rfl (fun w' => (y_fieldAddr rfl et Tryz.underlying39 rfl size_9 rfl)) ?_
    refine a_read rfl gn rfl (fun w' hw' => (y_load1 (v := (str e1.Name)) rfl et Tryz.underlying9 rfl ((hI.kblk (l := [(str e1.Name)]) .z rfl).at_ (SX.any rfl hw')))) (by kernel_rfl) ?_
    obtain ⟨s6, hx16, h⟩ := bnd_some h
    refine a_q rfl gn rfl (fun w' => (y_catl rfl et ev_const hx16)) ?_
    refine a_q rfl gn rfl (fun w' => (y_move rfl et)) ?_
    refine a_q rfl gn rfl (fun w' => (y_lenl rfl Tryz.underlying126 et)) ?_
    refine a_q rfl gn rfl (fun w' => (y_move rfl et)) ?_
    refine a_q rfl gn rfl (fun w' => (y_makeBound (vs := [(vs a2 e1.Idx.length c2)]) rfl rfl ⟨et, trivial⟩)) ?_
    have hI := hI.add (c := clFn_k5 (Value.func (.func 97) #[(vs a2 e1.Idx.length c2)] #[]) (m_printer_indices_item e1.Idx)) ⟨rfl, fun D' w' hs hl x_1 r k h => CallV.fnB (fs := [(vs a2 e1.Idx.length c2)]) ok_97 (c_printer_indices_item D' w' hl e1.Idx x_1 a2 c2 ⟨(Cl.sp _ hs (hI.get (.s (.s .z)))), (Cl.sp _ hs (hI.get (.s (.s (.s (.s .z)))))), (Cl.sp _ hs (hI.get (.s (.s (.s (.s (.s .z))))))), trivial⟩ r h)⟩
    obtain ⟨r5, hx17, h⟩ := bnd_some h
    refine la_call rfl gn rfl (r_callF (vs := [(vi (e1.Idx.length : Int)), (Value.func (.func 97) #[(vs a2 e1.Idx.length c2)] #[])]) rfl ok_38 ⟨et, ⟨et, trivial⟩⟩) (Calls.mono (c_printer_list (Dj F c5) w11 hI.lt (e1.Idx.length : Int) (m_printer_indices_item e1.Idx) (Value.func (.func 97) #[(vs a2 e1.Idx.length c2)] #[]) ⟨(hI.get .z), trivial⟩ r5 hx17) ?_)
    rintro _ w12 ⟨rfl, hx18, hl7⟩
    refine ⟨_, rfl, hx18, ?_⟩
    replace hI := (hI.ext hx18)
    obtain ⟨s7, hx19, h⟩ := bnd_some h
    refine a_q rfl gn rfl (fun w' => (y_catl rfl et et hx19)) ?_
    obtain ⟨s8, hx20, h⟩ := bnd_some h
    refine a_q rfl gn rfl (fun w' => (y_catl rfl et ev_const hx20)) ?_
    refine a_turn (F := F) (C := c5) rfl rfl ?_
    obtain ⟨zs3, hx21, h⟩ := bnd_some h
    obtain ⟨c12, f3, hB, hl8, hk3⟩ := hI.hands (.l .n)
    refine la_callX rfl gn rfl (r_callF (vs := [(vp b1 0), (str s8)]) rfl ok_66 ⟨et, ⟨et, trivial⟩⟩) (Calls.mono (c_bldWrite bldT_82 c12 f3 w12 b1 w1 s8 zs3 (hB.subs trivial) hx21) ?_)
    rintro _ w13 ⟨c13, rfl, hB2⟩
    obtain ⟨c14, hs3, hI⟩ := hk3 _ _ _ _ hB2
    replace hI : Bun C0 F w0 c14 w13 [MO.bld 5 82 b1 zs3] [clFn_k5 (Value.func (.func 97) #[(vs a2 e1.Idx.length c2)] #[]) (m_printer_indices_item e1.Idx), Cl.blk b2 39 #[(vi e1.Op), (str e1.Name), (vi e1.Val.N), (vi e1.Val.D), (vi e1.Type_.Kind), (vi e1.Type_.Bits), (vi e1.Type_.Frac), (vi e1.Type_.Round), (vi e1.Type_.Over), (vi e1.Lin.K), (vs a1 e1.Lin.L.length c1), (vs a2 e1.Idx.length c2), (vs a3 e1.Args.length c3)], Cl.sl cGMono a1 c1 e1.Lin.L, Cl.sl cGIndex a2 c2 e1.Idx, Cl.sl cGExpr a3 c3 e1.Args, clPow10, clSpace] := hI
    refine ⟨_, rfl, DM true F c14, hs3, ?_⟩
    refine a_nil ?_
    obtain rfl := some_inj h
    exact q_ret (vs := []) Tryz.results46 trivial ⟨_, rfl, hI.arr (.c .z .n) trivial⟩
   ·replace h := ite_f hb h
    refine sr ?_
    refine sq (y_eql rfl et ev_const) ?_
    refine sa ?_
    refine nk ?_
    refine c_cond (b := decide (e1.Op = 8)) et (fun hb => ?_) (fun hb => ?_)
    ·replace h := ite_t hb h
     refine sr ?_
     refine sm ?_
     refine sq (y_nilCheck rfl et) ?_
     refine sq (y_fieldAddr rfl et Tryz.underlying82 rfl size_80 rfl) ?_
     obtain ⟨zs4, hx22, h⟩ := bnd_some h
     obtain ⟨c15, f4, hB, hl9, hk4⟩ := hI.hands (.l .n)
     refine s_call gn rfl (r_callF (vs := [(vp b1 0), (str ([45] : List UInt8))]) rfl ok_66 ⟨et, ⟨ev_const, trivial⟩⟩) (Calls.mono (c_bldWrite bldT_82 c15 f4 w3 b1 w1 ([45] : List UInt8) zs4 (hB.subs trivial) hx22) ?_)
     rintro _ w14 ⟨c16, rfl, hB2⟩
     obtain ⟨c17, hs4, hI⟩ := hk4 _ _ _ _ hB2
     replace hI : Bun C0 F w0 c17 w14 [MO.bld 5 82 b1 zs4] [Cl.blk b2 39 #[(vi e1.Op), (str e1.Name), (vi e1.Val.N), (vi e1.Val.D), (vi e1.Type_.Kind), (vi e1.Type_.Bits), (vi e1.Type_.Frac), (vi e1.Type_.Round), (vi e1.Type_.Over), (vi e1.Lin.K), (vs a1 e1.Lin.L.length c1), (vs a2 e1.Idx.length c2), (vs a3 e1.Args.length c3)], Cl.sl cGMono a1 c1 e1.Lin.L, Cl.sl cGIndex a2 c2 e1.Idx, Cl.sl cGExpr a3 c3 e1.Args, clPow10, clSpace] := hI
     refine ⟨_, rfl, ?_⟩
     refine nk ?_
     refine c_region rfl ?_
     refine sm ?_
     refine sq (y_fieldAddr rfl et Tryz.underlying39 rfl size_37 rfl) ?_
     refine sq (y_load1 (v := (vs a3 e1.Args.length c3)) rfl et Tryz.underlying37 rfl (hI.kblk (l := [(vs a3 e1.Args.length c3)]) .z rfl).1) ?_
     obtain ⟨e2, hx23, h⟩ := bnd_some h
     obtain ⟨ad1, cs1, hA1, hr1, hq1⟩ := hI.clat (.s (.s (.s .z))) hx23
     obtain ⟨a4, c18, a5, c19, a6, c20, rfl, hf1, hf2, hf3⟩ := cGExpr_out hr1
     have hI := hI.add (c := Cl.sl cGMono a4 c18 e2.Lin.L) hf1
     have hI := hI.add (c := Cl.sl cGIndex a5 c19 e2.Idx) hf2
     have hI := hI.add (c := Cl.sl cGExpr a6 c20 e2.Args) hf3
     refine sq (y_indexAddr rfl Tryz.underlying37 size_39 et ev_const (lat_bd hx23) hA1) ?_
     refine sq (y_loadN (l := [(vi e2.Op), (str e2.Name), (vi e2.Val.N), (vi e2.Val.D), (vi e2.Type_.Kind), (vi e2.Type_.Bits), (vi e2.Type_.Frac), (vi e2.Type_.Round), (vi e2.Type_.Over), (vi e2.Lin.K), (vs a4 e2.Lin.L.length c18), (vs a5 e2.Idx.length c19), (vs a6 e2.Args.length c20)]) rfl et Tryz.underlying39 rfl size_39 hq1.1) ?_
     refine sm ?_
     obtain ⟨c21, f5, hB, hl10, hk5⟩ := hI.hands (.l .n)
     obtain ⟨⟨r6, s9⟩, hx24, h⟩ := bnd_some h
     try dsimp only at h
     refine s_call gn rfl (r_callF (vs := [(vp b1 0), (Value.agg #[(vi e2.Op), (str e2.Name), (vi e2.Val.N), (vi e2.Val.D), (vi e2.Type_.Kind), (vi e2.Type_.Bits), (vi e2.Type_.Frac), (vi e2.Type_.Round), (vi e2.Type_.Over), (vi e2.Lin.K), (vs a4 e2.Lin.L.length c18), (vs a5 e2.Idx.length c19), (vs a6 e2.Args.length c20)]), (vi r1)]) rfl ok_98 ⟨et, ⟨et, ⟨et, trivial⟩⟩⟩) (Calls.mono (c_printer_writer_operand_w rec_ hrec c21 f5 w14 zs4 e2 r1 b1 a4 c18 a5 c19 a6 c20 (hB.subs ⟨(.s (.s .z)), (.s .z), .z, (.s (.s (.s (.s (.s (.s (.s .z))))))), (.s (.s (.s (.s (.s (.s (.s (.s .z)))))))), trivial⟩) _ hx24) ?_)
     rintro _ w15 ⟨c22, rfl, hB2⟩
     obtain ⟨c23, hs5, hI⟩ := hk5 _ _ _ _ hB2
     replace hI : Bun C0 F w0 c23 w15 [MO.bld 5 82 b1 s9] [Cl.sl cGExpr a6 c20 e2.Args, Cl.sl cGIndex a5 c19 e2.Idx, Cl.sl cGMono a4 c18 e2.Lin.L, Cl.blk b2 39 #[(vi e1.Op), (str e1.Name), (vi e1.Val.N), (vi e1.Val.D), (vi e1.Type_.Kind), (vi e1.Type_.Bits), (vi e1.Type_.Frac), (vi e1.Type_.Round), (vi e1.Type_.Over), (vi e1.Lin.K), (vs a1 e1.Lin.L.length c1), (vs a2 e1.Idx.length c2), (vs a3 e1.Args.length c3)], Cl.sl cGMono a1 c1 e1.Lin.L, Cl.sl cGIndex a2 c2 e1.Idx, Cl.sl cGExpr a3 c3 e1.Args, clPow10, clSpace] := hI
     refine ⟨_, rfl, ?_⟩
     refine s_nil ?_
     obtain rfl := some_inj h
     exact q_ret (vs := []) Tryz.results46 trivial ⟨_, rfl, hI.arr (.c .z .n) trivial⟩
    ·replace h := ite_f hb h
     refine sr ?_
     refine sq (y_eql rfl et ev_const) ?_
     refine sa ?_
     refine nk ?_
     refine c_cond (b := decide (e1.Op = 18)) et (fun hb => ?_) (fun hb => ?_)
     ·replace h := ite_t hb h
      refine sr ?_
      refine sm ?_
      refine sq (y_nilCheck rfl et) ?_
      refine sq (y_fieldAddr rfl et Tryz.underlying82 rfl size_80 rfl) ?_
      obtain ⟨zs5, hx25, h⟩ := bnd_some h
      obtain ⟨c24, f6, hB, hl11, hk6⟩ := hI.hands (.l .n)
      refine s_call gn rfl (r_callF (vs := [(vp b1 0), (str ([33] : List UInt8))]) rfl ok_66 ⟨et, ⟨ev_const, trivial⟩⟩) (Calls.mono (c_bldWrite bldT_82 c24 f6 w3 b1 w1 ([33] : List UInt8) zs5 (hB.subs trivial) hx25) ?_)
      rintro _ w16 ⟨c25, rfl, hB2⟩
      obtain ⟨c26, hs6, hI⟩ := hk6 _ _ _ _ hB2
      replace hI : Bun C0 F w0 c26 w16 [MO.bld 5 82 b1 zs5] [Cl.blk b2 39 #[(vi e1.Op), (str e1.Name), (vi e1.Val.N), (vi e1.Val.D), (vi e1.Type_.Kind), (vi e1.Type_.Bits), (vi e1.Type_.Frac), (vi e1.Type_.Round), (vi e1.Type_.Over), (vi e1.Lin.K), (vs a1 e1.Lin.L.length c1), (vs a2 e1.Idx.length c2), (vs a3 e1.Args.length c3)], Cl.sl cGMono a1 c1 e1.Lin.L, Cl.sl cGIndex a2 c2 e1.Idx, Cl.sl cGExpr a3 c3 e1.Args, clPow10, clSpace] := hI
      refine ⟨_, rfl, ?_⟩
      refine nk ?_
      refine c_region rfl ?_
      refine sm ?_
      refine sq (y_fieldAddr rfl et Tryz.underlying39 rfl size_37 rfl) ?_
      refine sq (y_load1 (v := (vs a3 e1.Args.length c3)) rfl et Tryz.underlying37 rfl (hI.kblk (l := [(vs a3 e1.Args.length c3)]) .z rfl).1) ?_
      obtain ⟨e3, hx26, h⟩ := bnd_some h
      obtain ⟨ad2, cs2, hA2, hr2, hq2⟩ := hI.clat (.s (.s (.s .z))) hx26
      obtain ⟨a7, c27, a8, c28, a9, c29, rfl, hf4, hf5, hf6⟩ := cGExpr_out hr2
      have hI := hI.add (c := Cl.sl cGMono a7 c27 e3.Lin.L) hf4
      have hI := hI.add (c := Cl.sl cGIndex a8 c28 e3.Idx) hf5
      have hI := hI.add (c := Cl.sl cGExpr a9 c29 e3.Args) hf6
      refine sq (y_indexAddr rfl Tryz.underlying37 size_39 et ev_const (lat_bd hx26) hA2) ?_
      refine sq (y_loadN (l := [(vi e3.Op), (str e3.Name), (vi e3.Val.N), (vi e3.Val.D), (vi e3.Type_.Kind), (vi e3.Type_.Bits), (vi e3.Type_.Frac), (vi e3.Type_.Round), (vi e3.Type_.Over), (vi e3.Lin.K), (vs a7 e3.Lin.L.length c27), (vs a8 e3.Idx.length c28), (vs a9 e3.Args.length c29)]) rfl et Tryz.underlying39 rfl size_39 hq2.1) ?_
      refine sm ?_
      obtain ⟨c30, f7, hB, hl12, hk7⟩ := hI.hands (.l .n)
      obtain ⟨⟨r7, s10⟩, hx27, h⟩ := bnd_some h
      try dsimp only at h
      refine s_call gn rfl (r_callF (vs := [(vp b1 0), (Value.agg #[(vi e3.Op), (str e3.Name), (vi e3.Val.N), (vi e3.Val.D), (vi e3.Type_.Kind), (vi e3.Type_.Bits), (vi e3.Type_.Frac), (vi e3.Type_.Round), (vi e3.Type_.Over), (vi e3.Lin.K), (vs a7 e3.Lin.L.length c27), (vs a8 e3.Idx.length c28), (vs a9 e3.Args.length c29)]), (vi r1)]) rfl ok_98 ⟨et, ⟨et, ⟨et, trivial⟩⟩⟩) (Calls.mono (c_printer_writer_operand_w rec_ hrec c30 f7 w16 zs5 e3 r1 b1 a7 c27 a8 c28 a9 c29 (hB.subs ⟨(.s (.s .z)), (.s .z), .z, (.s (.s (.s (.s (.s (.s (.s .z))))))), (.s (.s (.s (.s (.s (.s (.s (.s .z)))))))), trivial⟩) _ hx27) ?_)
      rintro _ w17 ⟨c31, rfl, hB2⟩
      obtain ⟨c32, hs7, hI⟩ := hk7 _ _ _ _ hB2
      replace hI : Bun C0 F w0 c32 w17 [MO.bld 5 82 b1 s10] [Cl.sl cGExpr a9 c29 e3.Args, Cl.sl cGIndex a8 c28 e3.Idx, Cl.sl cGMono a7 c27 e3.Lin.L, Cl.blk b2 39 #[(vi e1.Op), (str e1.Name), (vi e1.Val.N), (vi e1.Val.D), (vi e1.Type_.Kind), (vi e1.Type_.Bits), (vi e1.Type_.Frac), (vi e1.Type_.Round), (vi e1.Type_.Over), (vi e1.Lin.K), (vs a1 e1.Lin.L.length c1), (vs a2 e1.Idx.length c2), (vs a3 e1.Args.length c3)], Cl.sl cGMono a1 c1 e1.Lin.L, Cl.sl cGIndex a2 c2 e1.Idx, Cl.sl cGExpr a3 c3 e1.Args, clPow10, clSpace] := hI
      refine ⟨_, rfl, ?_⟩
      refine s_nil ?_
      obtain rfl := some_inj h
      exact q_ret (vs := []) Tryz.results46 trivial ⟨_, rfl, hI.arr (.c .z .n) trivial⟩
     ·replace h := ite_f hb h
      refine sr ?_
      refine sq (y_eql rfl et ev_const) ?_
      refine sa ?_
      refine nk ?_
      refine c_cond (b := decide (e1.Op = 9)) et (fun hb => ?_) (fun hb => ?_)
      ·replace h := ite_t hb h
       refine c_region rfl ?_
       refine sm ?_
       refine sq (y_fieldAddr rfl et Tryz.underlying39 rfl size_37 rfl) ?_
       refine sq (y_load1 (v := (vs a3 e1.Args.length c3)) rfl et Tryz.underlying37 rfl (hI.kblk (l := [(vs a3 e1.Args.length c3)]) .z rfl).1) ?_
       obtain ⟨c33, f8, hB, hl13, hk8⟩ := hI.hands (.l .n)
       obtain ⟨⟨r8, s11⟩, hx28, h⟩ := bnd_some h
       try dsimp only at h
       refine s_call gn rfl (r_callF (vs := [(vp b1 0), (str ([109, 105, 110] : List UInt8)), (str ([] : List UInt8)), (vs a3 e1.Args.length c3)]) rfl ok_99 ⟨et, ⟨ev_const, ⟨ev_const, ⟨et, trivial⟩⟩⟩⟩) (Calls.mono (c_printer_writer_call_w rec_ hrec c33 f8 w3 w1 ([109, 105, 110] : List UInt8) ([] : List UInt8) e1.Args b1 a3 c3 (hB.subs ⟨(.s (.s (.s .z))), (.s (.s (.s (.s .z)))), (.s (.s (.s (.s (.s .z))))), trivial⟩) _ hx28) ?_)
       rintro _ w18 ⟨c34, rfl, hB2⟩
       obtain ⟨c35, hs8, hI⟩ := hk8 _ _ _ _ hB2
       replace hI : Bun C0 F w0 c35 w18 [MO.bld 5 82 b1 s11] [Cl.blk b2 39 #[(vi e1.Op), (str e1.Name), (vi e1.Val.N), (vi e1.Val.D), (vi e1.Type_.Kind), (vi e1.Type_.Bits), (vi e1.Type_.Frac), (vi e1.Type_.Round), (vi e1.Type_.Over), (vi e1.Lin.K), (vs a1 e1.Lin.L.length c1), (vs a2 e1.Idx.length c2), (vs a3 e1.Args.length c3)], Cl.sl cGMono a1 c1 e1.Lin.L, Cl.sl cGIndex a2 c2 e1.Idx, Cl.sl cGExpr a3 c3 e1.Args, clPow10, clSpace] := hI
       refine ⟨_, rfl, ?_⟩
       refine s_nil ?_
       obtain rfl := some_inj h
       exact q_ret (vs := []) Tryz.results46 trivial ⟨_, rfl, hI.arr (.c .z .n) trivial⟩
      ·replace h := ite_f hb h
       refine sr ?_
       refine sq (y_eql rfl et ev_const) ?_
       refine sa ?_
       refine nk ?_
       refine c_cond (b := decide (e1.Op = 10)) et (fun hb => ?_) (fun hb => ?_)
       ·replace h := ite_t hb h
        refine c_region rfl ?_
        refine sm ?_
        refine sq (y_fieldAddr rfl et Tryz.underlying39 rfl size_37 rfl) ?_
        refine sq (y_load1 (v := (vs a3 e1.Args.length c3)) rfl et Tryz.underlying37 rfl (hI.kblk (l := [(vs a3 e1.Args.length c3)]) .z rfl).1) ?_
        obtain ⟨c36, f9, hB, hl14, hk9⟩ := hI.hands (.l .n)
        obtain ⟨⟨r9, s12⟩, hx29, h⟩ := bnd_some h
        try dsimp only at h
        refine s_call gn rfl (r_callF (vs := [(vp b1 0), (str ([109, 97, 120] : List UInt8)), (str ([] : List UInt8)), (vs a3 e1.Args.length c3)]) rfl ok_99 ⟨et, ⟨ev_const, ⟨ev_const, ⟨et, trivial⟩⟩⟩⟩) (Calls.mono (c_printer_writer_call_w rec_ hrec c36 f9 w3 w1 ([109, 97, 120] : List UInt8) ([] : List UInt8) e1.Args b1 a3 c3 (hB.subs ⟨(.s (.s (.s .z))), (.s (.s (.s (.s .z)))), (.s (.s (.s (.s (.s .z))))), trivial⟩) _ hx29) ?_)
        rintro _ w19 ⟨c37, rfl, hB2⟩
        obtain ⟨c38, hs9, hI⟩ := hk9 _ _ _ _ hB2
        replace hI : Bun C0 F w0 c38 w19 [MO.bld 5 82 b1 s12] [Cl.blk b2 39 #[(vi e1.Op), (str e1.Name), (vi e1.Val.N), (vi e1.Val.D), (vi e1.Type_.Kind), (vi e1.Type_.Bits), (vi e1.Type_.Frac), (vi e1.Type_.Round), (vi e1.Type_.Over), (vi e1.Lin.K), (vs a1 e1.Lin.L.length c1), (vs a2 e1.Idx.length c2), (vs a3 e1.Args.length c3)], Cl.sl cGMono a1 c1 e1.Lin.L, Cl.sl cGIndex a2 c2 e1.Idx, Cl.sl cGExpr a3 c3 e1.Args, clPow10, clSpace] := hI
        refine ⟨_, rfl, ?_⟩
        refine s_nil ?_
        obtain rfl := some_inj h
        exact q_ret (vs := []) Tryz.results46 trivial ⟨_, rfl, hI.arr (.c .z .n) trivial⟩
       ·replace h := ite_f hb h
        refine sr ?_
        refine sq (y_eql rfl et ev_const) ?_
        refine sa ?_
        refine nk ?_
        refine c_cond (b := decide (e1.Op = 11)) et (fun hb => ?_) (fun hb => ?_)
        ·replace h := ite_t hb h
         refine c_region rfl ?_
         refine sm ?_
         refine sq (y_fieldAddr rfl et Tryz.underlying39 rfl size_37 rfl) ?_
         refine sq (y_load1 (v := (vs a3 e1.Args.length c3)) rfl et Tryz.underlying37 rfl (hI.kblk (l := [(vs a3 e1.Args.length c3)]) .z rfl).1) ?_
         obtain ⟨c39, f10, hB, hl15, hk10⟩ := hI.hands (.l .n)
         obtain ⟨⟨r10, s13⟩, hx30, h⟩ := bnd_some h
         try dsimp only at h
         refine s_call gn rfl (r_callF (vs := [(vp b1 0), (str ([105, 102] : List UInt8)), (str ([] : List UInt8)), (vs a3 e1.Args.length c3)]) rfl ok_99 ⟨et, ⟨ev_const, ⟨ev_const, ⟨et, trivial⟩⟩⟩⟩) (Calls.mono (c_printer_writer_call_w rec_ hrec c39 f10 w3 w1 ([105, 102] : List UInt8) ([] : List UInt8) e1.Args b1 a3 c3 (hB.subs ⟨(.s (.s (.s .z))), (.s (.s (.s (.s .z)))), (.s (.s (.s (.s (.s .z))))), trivial⟩) _ hx30) ?_)
         rintro _ w20 ⟨c40, rfl, hB2⟩
         obtain ⟨c41, hs10, hI⟩ := hk10 _ _ _ _ hB2
         replace hI : Bun C0 F w0 c41 w20 [MO.bld 5 82 b1 s13] [Cl.blk b2 39 #[(vi e1.Op), (str e1.Name), (vi e1.Val.N), (vi e1.Val.D), (vi e1.Type_.Kind), (vi e1.Type_.Bits), (vi e1.Type_.Frac), (vi e1.Type_.Round), (vi e1.Type_.Over), (vi e1.Lin.K), (vs a1 e1.Lin.L.length c1), (vs a2 e1.Idx.length c2), (vs a3 e1.Args.length c3)], Cl.sl cGMono a1 c1 e1.Lin.L, Cl.sl cGIndex a2 c2 e1.Idx, Cl.sl cGExpr a3 c3 e1.Args, clPow10, clSpace] := hI
         refine ⟨_, rfl, ?_⟩
         refine s_nil ?_
         obtain rfl := some_inj h
         exact q_ret (vs := []) Tryz.results46 trivial ⟨_, rfl, hI.arr (.c .z .n) trivial⟩
        ·replace h := ite_f hb h
         refine sr ?_
         refine sq (y_eql rfl et ev_const) ?_
         refine sa ?_
         refine nk ?_
         refine c_cond (b := decide (e1.Op = 12)) et (fun hb => ?_) (fun hb => ?_)
         ·replace h := ite_t hb h
          refine c_drawX [6] false (.c (0, .q) (.c (1, .q) (.c (2, .q) (.c (4, .q) (.c (5, .q) (.c (3, .s) (.c (6, .s) .n))))))) hI (by kernel_rfl) (by kernel_rfl) ?_
          clear hI; intro w21 hI
          refine a_q rfl gn rfl (fun w' => (y_move rfl et)) ?_
          refine a_q rfl gn rfl (fun w' => (y_fieldAddr rfl et Tryz.underlying39 rfl size_23 rfl)) ?_
          refine a_read rfl gn rfl (fun w' hw' => (y_loadN (l := [(vi e1.Type_.Kind), (vi e1.Type_.Bits), (vi e1.Type_.Frac), (vi e1.Type_.Round), (vi e1.Type_.Over)]) rfl et Tryz.underlying23 rfl size_23 ((hI.kblk (l := [(vi e1.Type_.Kind), (vi e1.Type_.Bits), (vi e1.Type_.Frac), (vi e1.Type_.Round), (vi e1.Type_.Over)]) .z rfl).at_ (SX.any rfl hw')))) (by kernel_rfl) ?_
          refine a_q rfl gn rfl (fun w' => (y_fieldAddr rfl et Tryz.underlying39 rfl size_37 rfl)) ?_
          refine a_read rfl gn rfl (fun w' hw' => (y_load1 (v := (vs a3 e1.Args.length c3)) rfl et Tryz.underlying37 rfl ((hI.kblk (l := [(vs a3 e1.Args.length c3)]) .z rfl).at_ (SX.any rfl hw')))) (by kernel_rfl) ?_
          obtain ⟨r11, hx31, h⟩ := bnd_some h
          refine la_call rfl gn rfl (r_callF (vs := [(Value.agg #[(vi e1.Type_.Kind), (vi e1.Type_.Bits), (vi e1.Type_.Frac), (vi e1.Type_.Round), (vi e1.Type_.Over)])]) rfl ok_10 ⟨et, trivial⟩) (Calls.mono (c_printer_Type (Dj F c5) w21 hI.lt e1.Type_ ⟨(hI.get (.s (.s (.s (.s .z))))), trivial⟩ r11 hx31) ?_)
          rintro _ w22 ⟨rfl, hx32, hl16⟩
          refine ⟨_, rfl, hx32, ?_⟩
          replace hI := (hI.ext hx32)
          refine a_turn (F := F) (C := c5) rfl rfl ?_
          obtain ⟨c42, f11, hB, hl17, hk11⟩ := hI.hands (.l .n)
          obtain ⟨⟨r12, s14⟩, hx33, h⟩ := bnd_some h
          try dsimp only at h
          refine la_callX rfl gn rfl (r_callF (vs := [(vp b1 0), (str ([99, 97, 115, 116] : List UInt8)), (str r11), (vs a3 e1.Args.length c3)]) rfl ok_99 ⟨et, ⟨ev_const, ⟨et, ⟨et, trivial⟩⟩⟩⟩) (Calls.mono (c_printer_writer_call_w rec_ hrec c42 f11 w22 w1 ([99, 97, 115, 116] : List UInt8) r11 e1.Args b1 a3 c3 (hB.subs ⟨(.s (.s (.s .z))), (.s (.s (.s (.s .z)))), (.s (.s (.s (.s (.s .z))))), trivial⟩) _ hx33) ?_)
          rintro _ w23 ⟨c43, rfl, hB2⟩
          obtain ⟨c44, hs11, hI⟩ := hk11 _ _ _ _ hB2
          replace hI : Bun C0 F w0 c44 w23 [MO.bld 5 82 b1 s14] [Cl.blk b2 39 #[(vi e1.Op), (str e1.Name), (vi e1.Val.N), (vi e1.Val.D), (vi e1.Type_.Kind), (vi e1.Type_.Bits), (vi e1.Type_.Frac), (vi e1.Type_.Round), (vi e1.Type_.Over), (vi e1.Lin.K), (vs a1 e1.Lin.L.length c1), (vs a2 e1.Idx.length c2), (vs a3 e1.Args.length c3)], Cl.sl cGMono a1 c1 e1.Lin.L, Cl.sl cGIndex a2 c2 e1.Idx, Cl.sl cGExpr a3 c3 e1.Args, clPow10, clSpace] := hI
          refine ⟨_, rfl, DM true F c44, hs11, ?_⟩
          refine a_nil ?_
          obtain rfl := some_inj h
          exact q_ret (vs := []) Tryz.results46 trivial ⟨_, rfl, hI.arr (.c .z .n) trivial⟩
         ·replace h := ite_f hb h
          refine sr ?_
          refine sm ?_
          refine sq (y_fieldAddr rfl et Tryz.underlying39 rfl size_37 rfl) ?_
          refine sq (y_load1 (v := (vs a3 e1.Args.length c3)) rfl et Tryz.underlying37 rfl (hI.kblk (l := [(vs a3 e1.Args.length c3)]) .z rfl).1) ?_
          obtain ⟨e4, hx34, h⟩ := bnd_some h
          obtain ⟨ad3, cs3, hA3, hr3, hq3⟩ := hI.clat (.s (.s (.s .z))) hx34
          obtain ⟨a10, c45, a11, c46, a12, c47, rfl, hf7, hf8, hf9⟩ := cGExpr_out hr3
          have hI := hI.add (c := Cl.sl cGMono a10 c45 e4.Lin.L) hf7
          have hI := hI.add (c := Cl.sl cGIndex a11 c46 e4.Idx) hf8
          have hI := hI.add (c := Cl.sl cGExpr a12 c47 e4.Args) hf9
          refine sq (y_indexAddr rfl Tryz.underlying37 size_39 et ev_const (lat_bd hx34) hA3) ?_
          refine sq (y_loadN (l := [(vi e4.Op), (str e4.Name), (vi e4.Val.N), (vi e4.Val.D), (vi e4.Type_.Kind), (vi e4.Type_.Bits), (vi e4.Type_.Frac), (vi e4.Type_.Round), (vi e4.Type_.Over), (vi e4.Lin.K), (vs a10 e4.Lin.L.length c45), (vs a11 e4.Idx.length c46), (vs a12 e4.Args.length c47)]) rfl et Tryz.underlying39 rfl size_39 hq3.1) ?_
          refine sm ?_
          obtain ⟨c48, f12, hB, hl18, hk12⟩ := hI.hands (.l .n)
          obtain ⟨⟨r13, s15⟩, hx35, h⟩ := bnd_some h
          try dsimp only at h
          refine s_call gn rfl (r_callF (vs := [(vp b1 0), (Value.agg #[(vi e4.Op), (str e4.Name), (vi e4.Val.N), (vi e4.Val.D), (vi e4.Type_.Kind), (vi e4.Type_.Bits), (vi e4.Type_.Frac), (vi e4.Type_.Round), (vi e4.Type_.Over), (vi e4.Lin.K), (vs a10 e4.Lin.L.length c45), (vs a11 e4.Idx.length c46), (vs a12 e4.Args.length c47)]), (vi r1)]) rfl ok_98 ⟨et, ⟨et, ⟨et, trivial⟩⟩⟩) (Calls.mono (c_printer_writer_operand_w rec_ hrec c48 f12 w3 w1 e4 r1 b1 a10 c45 a11 c46 a12 c47 (hB.subs ⟨(.s (.s .z)), (.s .z), .z, (.s (.s (.s (.s (.s (.s (.s .z))))))), (.s (.s (.s (.s (.s (.s (.s (.s .z)))))))), trivial⟩) _ hx35) ?_)
          rintro _ w24 ⟨c49, rfl, hB2⟩
          obtain ⟨c50, hs12, hI⟩ := hk12 _ _ _ _ hB2
          replace hI : Bun C0 F w0 c50 w24 [MO.bld 5 82 b1 s15] [Cl.sl cGExpr a12 c47 e4.Args, Cl.sl cGIndex a11 c46 e4.Idx, Cl.sl cGMono a10 c45 e4.Lin.L, Cl.blk b2 39 #[(vi e1.Op), (str e1.Name), (vi e1.Val.N), (vi e1.Val.D), (vi e1.Type_.Kind), (vi e1.Type_.Bits), (vi e1.Type_.Frac), (vi e1.Type_.Round), (vi e1.Type_.Over), (vi e1.Lin.K), (vs a1 e1.Lin.L.length c1), (vs a2 e1.Idx.length c2), (vs a3 e1.Args.length c3)], Cl.sl cGMono a1 c1 e1.Lin.L, Cl.sl cGIndex a2 c2 e1.Idx, Cl.sl cGExpr a3 c3 e1.Args, clPow10, clSpace] := hI
          refine ⟨_, rfl, ?_⟩
          refine s_nil ?_
          refine k_next (e := [(0, (vp b1 0)), (3, (vp b2 0)), (4, (vi r1))]) ⟨rfl, rfl, rfl, trivial⟩ ?_
          refine c_seq ?_
          refine c_drawX [8] false (.c (0, .q) (.c (1, .q) (.c (2, .q) (.c (3, .q) (.c (4, .q) (.c (5, .s) (.c (6, .q) (.c (7, .q) (.c (8, .s) .n))))))))) hI (by kernel_rfl) (by kernel_rfl) ?_
          clear hI; intro w25 hI
          refine a_q rfl gn rfl (fun w' => (y_move rfl et)) ?_
          refine a_q rfl gn rfl (fun w' => (y_nilCheck rfl et)) ?_
          refine a_q rfl gn rfl (fun w' => (y_fieldAddr rfl et Tryz.underlying82 rfl size_80 rfl)) ?_
          refine a_q rfl gn rfl (fun w' => (y_fieldAddr rfl et Tryz.underlying39 rfl size_3 rfl)) ?_
          refine a_read rfl gn rfl (fun w' hw' => (y_load1 (v := (vi e1.Op)) rfl et Tryz.underlying3 rfl ((hI.kblk (l := [(vi e1.Op)]) (.s (.s (.s .z))) rfl).at_ (SX.any rfl hw')))) (by kernel_rfl) ?_
          obtain ⟨r14, hx36, h⟩ := bnd_some h
          refine la_call rfl gn rfl (r_callF (vs := [(vi e1.Op)]) rfl ok_100 ⟨et, trivial⟩) (Calls.mono (c_printer_symbol (Dj F c50) w25 hI.lt e1.Op trivial r14 hx36) ?_)
          rintro _ w26 ⟨rfl, hx37, hl19⟩
          refine ⟨_, rfl, hx37, ?_⟩
          replace hI := (hI.ext hx37)
          obtain ⟨s16, hx38, h⟩ := bnd_some h
          refine a_q rfl gn rfl (fun w' => (y_catl rfl ev_const et hx38)) ?_
          obtain ⟨s17, hx39, h⟩ := bnd_some h
          refine a_q rfl gn rfl (fun w' => (y_catl rfl et ev_const hx39)) ?_
          refine a_turn (F := F) (C := c50) rfl rfl ?_
          obtain ⟨zs6, hx40, h⟩ := bnd_some h
          obtain ⟨c51, f13, hB, hl20, hk13⟩ := hI.hands (.l .n)
          refine la_callX rfl gn rfl (r_callF (vs := [(vp b1 0), (str s17)]) rfl ok_66 ⟨et, ⟨et, trivial⟩⟩) (Calls.mono (c_bldWrite bldT_82 c51 f13 w26 b1 s15 s17 zs6 (hB.subs trivial) hx40) ?_)
          rintro _ w27 ⟨c52, rfl, hB2⟩
          obtain ⟨c53, hs13, hI⟩ := hk13 _ _ _ _ hB2
          replace hI : Bun C0 F w0 c53 w27 [MO.bld 5 82 b1 zs6] [Cl.sl cGExpr a12 c47 e4.Args, Cl.sl cGIndex a11 c46 e4.Idx, Cl.sl cGMono a10 c45 e4.Lin.L, Cl.blk b2 39 #[(vi e1.Op), (str e1.Name), (vi e1.Val.N), (vi e1.Val.D), (vi e1.Type_.Kind), (vi e1.Type_.Bits), (vi e1.Type_.Frac), (vi e1.Type_.Round), (vi e1.Type_.Over), (vi e1.Lin.K), (vs a1 e1.Lin.L.length c1), (vs a2 e1.Idx.length c2), (vs a3 e1.Args.length c3)], Cl.sl cGMono a1 c1 e1.Lin.L, Cl.sl cGIndex a2 c2 e1.Idx, Cl.sl cGExpr a3 c3 e1.Args, clPow10, clSpace] := hI
          refine ⟨_, rfl, DM true F c53, hs13, ?_⟩
          refine a_nil ?_
          refine k_same ?_
          refine c_region rfl ?_
          refine sm ?_
          refine sq (y_fieldAddr rfl et Tryz.underlying39 rfl size_37 rfl) ?_
          refine sq (y_load1 (v := (vs a3 e1.Args.length c3)) rfl et Tryz.underlying37 rfl (hI.kblk (l := [(vs a3 e1.Args.length c3)]) (.s (.s (.s .z))) rfl).1) ?_
          obtain ⟨e5, hx41, h⟩ := bnd_some h
          obtain ⟨ad4, cs4, hA4, hr4, hq4⟩ := hI.clat (.s (.s (.s (.s (.s (.s .z)))))) hx41
          obtain ⟨a13, c54, a14, c55, a15, c56, rfl, hf10, hf11, hf12⟩ := cGExpr_out hr4
          have hI := hI.add (c := Cl.sl cGMono a13 c54 e5.Lin.L) hf10
          have hI := hI.add (c := Cl.sl cGIndex a14 c55 e5.Idx) hf11
          have hI := hI.add (c := Cl.sl cGExpr a15 c56 e5.Args) hf12
          refine sq (y_indexAddr rfl Tryz.underlying37 size_39 et ev_const (lat_bd hx41) hA4) ?_
          refine sq (y_loadN (l := [(vi e5.Op), (str e5.Name), (vi e5.Val.N), (vi e5.Val.D), (vi e5.Type_.Kind), (vi e5.Type_.Bits), (vi e5.Type_.Frac), (vi e5.Type_.Round), (vi e5.Type_.Over), (vi e5.Lin.K), (vs a13 e5.Lin.L.length c54), (vs a14 e5.Idx.length c55), (vs a15 e5.Args.length c56)]) rfl et Tryz.underlying39 rfl size_39 hq4.1) ?_
          refine sm ?_
          refine sq (y_add rfl et ev_const) ?_
          obtain ⟨c57, f14, hB, hl21, hk14⟩ := hI.hands (.l .n)
          obtain ⟨⟨r15, s18⟩, hx42, h⟩ := bnd_some h
          try dsimp only at h
          refine s_call gn rfl (r_callF (vs := [(vp b1 0), (Value.agg #[(vi e5.Op), (str e5.Name), (vi e5.Val.N), (vi e5.Val.D), (vi e5.Type_.Kind), (vi e5.Type_.Bits), (vi e5.Type_.Frac), (vi e5.Type_.Round), (vi e5.Type_.Over), (vi e5.Lin.K), (vs a13 e5.Lin.L.length c54), (vs a14 e5.Idx.length c55), (vs a15 e5.Args.length c56)]), (vi (wi64 (r1 + 1)))]) rfl ok_98 ⟨et, ⟨et, ⟨et, trivial⟩⟩⟩) (Calls.mono (c_printer_writer_operand_w rec_ hrec c57 f14 w27 zs6 e5 (wi64 (r1 + 1)) b1 a13 c54 a14 c55 a15 c56 (hB.subs ⟨(.s (.s .z)), (.s .z), .z, (.s (.s (.s (.s (.s (.s (.s (.s (.s (.s .z)))))))))), (.s (.s (.s (.s (.s (.s (.s (.s (.s (.s (.s .z))))))))))), trivial⟩) _ hx42) ?_)
          rintro _ w28 ⟨c58, rfl, hB2⟩
          obtain ⟨c59, hs14, hI⟩ := hk14 _ _ _ _ hB2
          replace hI : Bun C0 F w0 c59 w28 [MO.bld 5 82 b1 s18] [Cl.sl cGExpr a15 c56 e5.Args, Cl.sl cGIndex a14 c55 e5.Idx, Cl.sl cGMono a13 c54 e5.Lin.L, Cl.sl cGExpr a12 c47 e4.Args, Cl.sl cGIndex a11 c46 e4.Idx, Cl.sl cGMono a10 c45 e4.Lin.L, Cl.blk b2 39 #[(vi e1.Op), (str e1.Name), (vi e1.Val.N), (vi e1.Val.D), (vi e1.Type_.Kind), (vi e1.Type_.Bits), (vi e1.Type_.Frac), (vi e1.Type_.Round), (vi e1.Type_.Over), (vi e1.Lin.K), (vs a1 e1.Lin.L.length c1), (vs a2 e1.Idx.length c2), (vs a3 e1.Args.length c3)], Cl.sl cGMono a1 c1 e1.Lin.L, Cl.sl cGIndex a2 c2 e1.Idx, Cl.sl cGExpr a3 c3 e1.Args, clPow10, clSpace] := hI
          refine ⟨_, rfl, ?_⟩
          refine s_nil ?_
          obtain rfl := some_inj h
          exact q_ret (vs := []) Tryz.results46 trivial ⟨_, rfl, hI.arr (.c .z .n) trivial⟩
theorem c_printer_writer_expr_w_r (n : Nat) : ∀ (C0 F : NP) (w0 : World) (w1 : List UInt8) (e1 : GExpr) (b1 : Nat) (a1 : Option Addr) (c1 : Nat) (a2 : Option Addr) (c2 : Nat) (a3 : Option Addr) (c3 : Nat) (hI : Bun C0 F w0 C0 w0 [MO.bld 5 82 b1 w1] [Cl.sl cGMono a1 c1 e1.Lin.L, Cl.sl cGIndex a2 c2 e1.Idx, Cl.sl cGExpr a3 c3 e1.Args, clPow10, clSpace]) (r : Unit × List UInt8) (h : m_printer_writer_expr_w_r n w1 e1 = some r), Calls Tryz.prog 46 #[(vp b1 0), (Value.agg #[(vi e1.Op), (str e1.Name), (vi e1.Val.N), (vi e1.Val.D), (vi e1.Type_.Kind), (vi e1.Type_.Bits), (vi e1.Type_.Frac), (vi e1.Type_.Round), (vi e1.Type_.Over), (vi e1.Lin.K), (vs a1 e1.Lin.L.length c1), (vs a2 e1.Idx.length c2), (vs a3 e1.Args.length c3)])] w0 fun e w => ∃ (C : NP), e = .returned (Value.tuple #[]) ∧ Bun C0 F w0 C w [MO.bld 5 82 b1 r.2] [] := by
 induction n with
 | zero => intro C0 F w0 w1 e1 b1 a1 c1 a2 c2 a3 c3 hI r h; cases h
 | succ n ih => intro C0 F w0 w1 e1 b1 a1 c1 a2 c2 a3 c3 hI r h; exact c_printer_writer_expr_w_b (m_printer_writer_expr_w_r n) ih C0 F w0 w1 e1 b1 a1 c1 a2 c2 a3 c3 hI r h
theorem c_printer_writer_expr_w (C0 F : NP) (w0 : World) (w1 : List UInt8) (e1 : GExpr) (b1 : Nat) (a1 : Option Addr) (c1 : Nat) (a2 : Option Addr) (c2 : Nat) (a3 : Option Addr) (c3 : Nat) (hI : Bun C0 F w0 C0 w0 [MO.bld 5 82 b1 w1] [Cl.sl cGMono a1 c1 e1.Lin.L, Cl.sl cGIndex a2 c2 e1.Idx, Cl.sl cGExpr a3 c3 e1.Args, clPow10, clSpace]) (r : Unit × List UInt8) (h : m_printer_writer_expr_w w1 e1 = some r) : Calls Tryz.prog 46 #[(vp b1 0), (Value.agg #[(vi e1.Op), (str e1.Name), (vi e1.Val.N), (vi e1.Val.D), (vi e1.Type_.Kind), (vi e1.Type_.Bits), (vi e1.Type_.Frac), (vi e1.Type_.Round), (vi e1.Type_.Over), (vi e1.Lin.K), (vs a1 e1.Lin.L.length c1), (vs a2 e1.Idx.length c2), (vs a3 e1.Args.length c3)])] w0 fun e w => ∃ (C : NP), e = .returned (Value.tuple #[]) ∧ Bun C0 F w0 C w [MO.bld 5 82 b1 r.2] [] := c_printer_writer_expr_w_r fu C0 F w0 w1 e1 b1 a1 c1 a2 c2 a3 c3 hI r h
set_option maxRecDepth 100000 in
set_option maxHeartbeats 4000000 in
theorem c_printer_Expr (F : NP) (w0 : World) (hF : ∀ k, F k → k < w0.heap.size) (e1 : GExpr) (a1 : Option Addr) (c1 : Nat) (a2 : Option Addr) (c2 : Nat) (a3 : Option Addr) (c3 : Nat) (hc : AllCl [Cl.sl cGMono a1 c1 e1.Lin.L, Cl.sl cGIndex a2 c2 e1.Idx, Cl.sl cGExpr a3 c3 e1.Args, clSpace, clPow10] F w0) (r : List UInt8)
  (h : m_printer_Expr e1 = some r) :
  Calls Tryz.prog 17 #[(Value.agg #[(vi e1.Op), (str e1.Name), (vi e1.Val.N), (vi e1.Val.D), (vi e1.Type_.Kind), (vi e1.Type_.Bits), (vi e1.Type_.Frac), (vi e1.Type_.Round), (vi e1.Type_.Over), (vi e1.Lin.K), (vs a1 e1.Lin.L.length c1), (vs a2 e1.Idx.length c2), (vs a3 e1.Args.length c3)])] w0 fun e w => e = .returned (str r) ∧ Ext w0 w ∧ AllCl [] F w := by
 refine enterK (l := [(Value.agg #[(vi e1.Op), (str e1.Name), (vi e1.Val.N), (vi e1.Val.D), (vi e1.Type_.Kind), (vi e1.Type_.Bits), (vi e1.Type_.Frac), (vi e1.Type_.Round), (vi e1.Type_.Over), (vi e1.Lin.K), (vs a1 e1.Lin.L.length c1), (vs a2 e1.Idx.length c2), (vs a3 e1.Args.length c3)])]) Tryz.func17 rfl Tryz.ntmps17 rfl ?_
 have hI := Bun.start hF hc
 clear hc
 rw [m_printer_Expr] at h
 refine sr ?_
 refine l_box (v := (Value.agg #[(vi e1.Op), (str e1.Name), (vi e1.Val.N), (vi e1.Val.D), (vi e1.Type_.Kind), (vi e1.Type_.Bits), (vi e1.Type_.Frac), (vi e1.Type_.Round), (vi e1.Type_.Over), (vi e1.Lin.K), (vs a1 e1.Lin.L.length c1), (vs a2 e1.Idx.length c2), (vs a3 e1.Args.length c3)])) (cs := #[(vi e1.Op), (str e1.Name), (vi e1.Val.N), (vi e1.Val.D), (vi e1.Type_.Kind), (vi e1.Type_.Bits), (vi e1.Type_.Frac), (vi e1.Type_.Round), (vi e1.Type_.Over), (vi e1.Lin.K), (vs a1 e1.Lin.L.length c1), (vs a2 e1.Idx.length c2), (vs a3 e1.Args.length c3)]) hI gn rfl rfl et rfl ?_
 clear hI; intro b1 c4 w1 hI
 obtain ⟨c5, hI⟩ := hI.relBox .z
 refine sac ?_
 refine nk ?_
 refine c_seq ?_
 refine sr ?_
 refine sq (y_loadN (l := [(vi e1.Op), (str e1.Name), (vi e1.Val.N), (vi e1.Val.D), (vi e1.Type_.Kind), (vi e1.Type_.Bits), (vi e1.Type_.Frac), (vi e1.Type_.Round), (vi e1.Type_.Over), (vi e1.Lin.K), (vs a1 e1.Lin.L.length c1), (vs a2 e1.Idx.length c2), (vs a3 e1.Args.length c3)]) rfl et Tryz.underlying39 rfl size_39 (hI.kblk (l := [(vi e1.Op), (str e1.Name), (vi e1.Val.N), (vi e1.Val.D), (vi e1.Type_.Kind), (vi e1.Type_.Bits), (vi e1.Type_.Frac), (vi e1.Type_.Round), (vi e1.Type_.Over), (vi e1.Lin.K), (vs a1 e1.Lin.L.length c1), (vs a2 e1.Idx.length c2), (vs a3 e1.Args.length c3)]) .z rfl).1) ?_
 obtain ⟨r1, hx1, h⟩ := bnd_some h
 refine s_call gn rfl (r_callF (vs := [(Value.agg #[(vi e1.Op), (str e1.Name), (vi e1.Val.N), (vi e1.Val.D), (vi e1.Type_.Kind), (vi e1.Type_.Bits), (vi e1.Type_.Frac), (vi e1.Type_.Round), (vi e1.Type_.Over), (vi e1.Lin.K), (vs a1 e1.Lin.L.length c1), (vs a2 e1.Idx.length c2), (vs a3 e1.Args.length c3)])]) rfl ok_45 ⟨et, trivial⟩) (Calls.mono (c_expr_Validate (Dj F c5) w1 hI.lt e1 a1 c1 a2 c2 a3 c3 ⟨(hI.get (.s .z)), (hI.get (.s (.s .z))), (hI.get (.s (.s (.s .z)))), (hI.get (.s (.s (.s (.s .z))))), trivial⟩ r1 hx1) ?_)
 rintro _ w2 ⟨rfl, hx2, hl1⟩
 refine ⟨_, rfl, ?_⟩
 replace hI := (hI.ext hx2)
 refine sq (y_neq rfl et ev_const) ?_
 refine nk ?_
 refine c_cond (b := !decide (r1 = 0)) et (fun hb => ?_) (fun hb => ?_)
 ·replace h := ite_t hb h
  refine sr ?_
  refine sac ?_
  refine nk ?_
  refine c_ret ?_
  obtain rfl := some_inj h
  exact q_ret (vs := [(str ([] : List UInt8))]) Tryz.results17 ⟨ev_tmp rfl rfl, trivial⟩ ⟨rfl, hI.ext0, hI.fin trivial⟩
 ·replace h := ite_f hb h
  refine c_skip ?_
  refine k_same ?_
  refine sr ?_
  refine sq (y_build (vs := []) (cs := #[(Value.pointer none), (vs none 0 0)]) rfl trivial (by kernel_rfl)) ?_
  refine l_box (v := (Value.agg #[(Value.pointer none), (vs none 0 0)])) (cs := #[(Value.pointer none), (vs none 0 0)]) hI gn rfl rfl et rfl ?_
  clear hI; intro b2 c6 w3 hI
  obtain ⟨c7, hI⟩ := hI.toBld (tb := 5) .z
  refine sa ?_
  refine nk ?_
  refine sr ?_
  refine sm ?_
  refine sq (y_loadN (l := [(vi e1.Op), (str e1.Name), (vi e1.Val.N), (vi e1.Val.D), (vi e1.Type_.Kind), (vi e1.Type_.Bits), (vi e1.Type_.Frac), (vi e1.Type_.Round), (vi e1.Type_.Over), (vi e1.Lin.K), (vs a1 e1.Lin.L.length c1), (vs a2 e1.Idx.length c2), (vs a3 e1.Args.length c3)]) rfl et Tryz.underlying39 rfl size_39 (hI.kblk (l := [(vi e1.Op), (str e1.Name), (vi e1.Val.N), (vi e1.Val.D), (vi e1.Type_.Kind), (vi e1.Type_.Bits), (vi e1.Type_.Frac), (vi e1.Type_.Round), (vi e1.Type_.Over), (vi e1.Lin.K), (vs a1 e1.Lin.L.length c1), (vs a2 e1.Idx.length c2), (vs a3 e1.Args.length c3)]) .z rfl).1) ?_
  obtain ⟨c8, f1, hB, hl2, hk1⟩ := hI.hands (.l .n)
  obtain ⟨⟨r2, s1⟩, hx3, h⟩ := bnd_some h
  try dsimp only at h
  refine s_call gn rfl (r_callF (vs := [(vp b2 0), (Value.agg #[(vi e1.Op), (str e1.Name), (vi e1.Val.N), (vi e1.Val.D), (vi e1.Type_.Kind), (vi e1.Type_.Bits), (vi e1.Type_.Frac), (vi e1.Type_.Round), (vi e1.Type_.Over), (vi e1.Lin.K), (vs a1 e1.Lin.L.length c1), (vs a2 e1.Idx.length c2), (vs a3 e1.Args.length c3)])]) rfl ok_46 ⟨et, ⟨et, trivial⟩⟩) (Calls.mono (c_printer_writer_expr_w c8 f1 w3 ([] : List UInt8) e1 b2 a1 c1 a2 c2 a3 c3 (hB.subs ⟨(.s .z), (.s (.s .z)), (.s (.s (.s .z))), (.s (.s (.s (.s (.s .z))))), (.s (.s (.s (.s .z)))), trivial⟩) _ hx3) ?_)
  rintro _ w4 ⟨c9, rfl, hB2⟩
  obtain ⟨c10, hs1, hI⟩ := hk1 _ _ _ _ hB2
  replace hI : Bun noM F w0 c10 w4 [MO.bld 5 82 b2 s1] [Cl.blk b1 39 #[(vi e1.Op), (str e1.Name), (vi e1.Val.N), (vi e1.Val.D), (vi e1.Type_.Kind), (vi e1.Type_.Bits), (vi e1.Type_.Frac), (vi e1.Type_.Round), (vi e1.Type_.Over), (vi e1.Lin.K), (vs a1 e1.Lin.L.length c1), (vs a2 e1.Idx.length c2), (vs a3 e1.Args.length c3)], Cl.sl cGMono a1 c1 e1.Lin.L, Cl.sl cGIndex a2 c2 e1.Idx, Cl.sl cGExpr a3 c3 e1.Args, clSpace, clPow10] := hI
  refine ⟨_, rfl, ?_⟩
  refine nk ?_
  refine sr ?_
  refine sm ?_
  refine sq (y_nilCheck rfl et) ?_
  refine sq (y_fieldAddr rfl et Tryz.underlying82 rfl size_80 rfl) ?_
  refine s_call gn rfl (r_callF (vs := [(vp b2 0)]) rfl ok_47 ⟨et, trivial⟩) (Calls.mono (c_bldString bldT_82 hI .z) ?_)
  clear hI; rintro _ w5 ⟨rfl, c11, hs2, hI⟩
  refine ⟨_, rfl, ?_⟩
  refine sa ?_
  refine nk ?_
  refine c_ret ?_
  obtain rfl := some_inj h
  exact q_ret (vs := [(str s1)]) Tryz.results17 ⟨ev_tmp rfl rfl, trivial⟩ ⟨rfl, hI.ext0, hI.fin trivial⟩
set_option maxRecDepth 100000 in
set_option maxHeartbeats 4000000 in
theorem c_law15_alive (F : NP) (w0 : World) (hF : ∀ k, F k → k < w0.heap.size) (hc : AllCl [clPow10, clSpace] F w0) (r : Bool)
  (h : m_law15_alive = some r) :
  Calls Tryz.prog 12 #[] w0 fun e w => e = .returned (vb r) ∧ Ext w0 w ∧ AllCl [] F w := by
 refine enterK (l := []) Tryz.func12 rfl Tryz.ntmps12 rfl ?_
 have hI := Bun.start hF hc
 clear hc
 rw [m_law15_alive] at h
 refine sr ?_
 refine sac ?_
 refine nk ?_
 refine sr ?_
 refine sq (y_build (vs := [(0, (vi 3))]) (cs := #[(vi 3), (vi 0), (vi 0), (vi 0), (vi 0)]) rfl ⟨rfl, ev_const, trivial⟩ (by kernel_rfl)) ?_
 obtain ⟨r1, hx1, h⟩ := bnd_some h
 refine s_call gn rfl (r_callF (vs := [(Value.agg #[(vi 3), (vi 0), (vi 0), (vi 0), (vi 0)])]) rfl ok_10 ⟨et, trivial⟩) (Calls.mono (c_printer_Type (Dj F noM) w0 hI.lt (⟨3, 0, 0, 0, 0⟩ : GType) ⟨(hI.get .z), trivial⟩ r1 hx1) ?_)
 rintro _ w1 ⟨rfl, hx2, hl1⟩
 refine ⟨_, rfl, ?_⟩
 replace hI := (hI.ext hx2)
 refine sq (y_eqs rfl et ev_const) ?_
 refine sm ?_
 refine s_gval (g_true rfl rfl rfl rfl) rfl (fun hc => (y_build (vs := [(0, (vi 3)), (1, (str ([97] : List UInt8)))]) (cs := #[(vi 3), (str ([97] : List UInt8)), (vi 0), (vi 0), (vi 0), (vi 0), (vi 0), (vi 0), (vi 0), (vi 0), (vs none 0 0), (vs none 0 0), (vs none 0 0)]) rfl ⟨rfl, ev_const, ⟨rfl, ev_const, trivial⟩⟩ (by kernel_rfl))) ?_
 obtain ⟨ho1, h⟩ := chk_some h
 have hI := hI.add (c := Cl.sl cGMono none 0 ([] : List GMono)) SlC.nil
 have hI := hI.add (c := Cl.sl cGIndex none 0 ([] : List GIndex)) SlC.nil
 have hI := hI.add (c := Cl.sl cGExpr none 0 ([] : List GExpr)) SlC.nil
 obtain ⟨r2, hx3, h⟩ := bnd_some h
 refine s_call (grd_as (g_true rfl rfl rfl rfl) ho1) rfl (r_callF (vs := [(Value.agg #[(vi 3), (str ([97] : List UInt8)), (vi 0), (vi 0), (vi 0), (vi 0), (vi 0), (vi 0), (vi 0), (vi 0), (vs none 0 0), (vs none 0 0), (vs none 0 0)])]) rfl ok_17 ⟨(ev_gv et ho1), trivial⟩) (Calls.mono (c_printer_Expr (Dj F noM) w1 hI.lt (⟨3, ([97] : List UInt8), (⟨0, 0⟩ : GVal), (⟨0, 0, 0, 0, 0⟩ : GType), (⟨0, ([] : List GMono)⟩ : GLin), ([] : List GIndex), ([] : List GExpr)⟩ : GExpr) none 0 none 0 none 0 ⟨(hI.get (.s (.s .z))), (hI.get (.s .z)), (hI.get .z), (hI.get (.s (.s (.s (.s .z))))), (hI.get (.s (.s (.s .z)))), trivial⟩ r2 hx3) ?_)
 rintro _ w2 ⟨rfl, hx4, hl2⟩
 refine ⟨_, rfl, ?_⟩
 replace hI := (hI.ext hx4)
 refine s_gval (g_true rfl rfl rfl rfl) rfl (fun hc => (y_eqs rfl et ev_const)) ?_
 refine sq (y_and rfl et et) ?_
 refine sa ?_
 refine nk ?_
 refine c_ret ?_
 obtain rfl := some_inj h
 exact q_ret (vs := [(vb ((decide (r1 = ([105, 110, 116] : List UInt8))) && (decide (r2 = ([97, 91, 93] : List UInt8)))))]) Tryz.results12 ⟨ev_tmp rfl rfl, trivial⟩ ⟨rfl, hI.ext0, hI.fin trivial⟩
set_option maxRecDepth 100000 in
set_option maxHeartbeats 4000000 in
theorem c_base_Weigh_b (rec_ : (GExpr → Int → Option Int)) (hrec : ∀ (F : NP) (w0 : World) (hF : ∀ k, F k → k < w0.heap.size) (e1 : GExpr) (most1 : Int) (a1 : Option Addr) (c1 : Nat) (a2 : Option Addr) (c2 : Nat) (a3 : Option Addr) (c3 : Nat) (hc : AllCl [Cl.sl cGMono a1 c1 e1.Lin.L, Cl.sl cGIndex a2 c2 e1.Idx, Cl.sl cGExpr a3 c3 e1.Args] F w0) (r : Int) (h : rec_ e1 most1 = some r), Calls Tryz.prog 13 #[(Value.agg #[(vi e1.Op), (str e1.Name), (vi e1.Val.N), (vi e1.Val.D), (vi e1.Type_.Kind), (vi e1.Type_.Bits), (vi e1.Type_.Frac), (vi e1.Type_.Round), (vi e1.Type_.Over), (vi e1.Lin.K), (vs a1 e1.Lin.L.length c1), (vs a2 e1.Idx.length c2), (vs a3 e1.Args.length c3)]), (vi most1)] w0 fun e w => e = .returned (vi r) ∧ Ext w0 w ∧ AllCl [] F w)
  (F : NP) (w0 : World) (hF : ∀ k, F k → k < w0.heap.size) (e1 : GExpr) (most1 : Int) (a1 : Option Addr) (c1 : Nat) (a2 : Option Addr) (c2 : Nat) (a3 : Option Addr) (c3 : Nat) (hc : AllCl [Cl.sl cGMono a1 c1 e1.Lin.L, Cl.sl cGIndex a2 c2 e1.Idx, Cl.sl cGExpr a3 c3 e1.Args] F w0) (r : Int) (h : m_base_Weigh_b rec_ e1 most1 = some r) : Calls Tryz.prog 13 #[(Value.agg #[(vi e1.Op), (str e1.Name), (vi e1.Val.N), (vi e1.Val.D), (vi e1.Type_.Kind), (vi e1.Type_.Bits), (vi e1.Type_.Frac), (vi e1.Type_.Round), (vi e1.Type_.Over), (vi e1.Lin.K), (vs a1 e1.Lin.L.length c1), (vs a2 e1.Idx.length c2), (vs a3 e1.Args.length c3)]), (vi most1)] w0 fun e w => e = .returned (vi r) ∧ Ext w0 w ∧ AllCl [] F w := by
 refine enterK (l := [(Value.agg #[(vi e1.Op), (str e1.Name), (vi e1.Val.N), (vi e1.Val.D), (vi e1.Type_.Kind), (vi e1.Type_.Bits), (vi e1.Type_.Frac), (vi e1.Type_.Round), (vi e1.Type_.Over), (vi e1.Lin.K), (vs a1 e1.Lin.L.length c1), (vs a2 e1.Idx.length c2), (vs a3 e1.Args.length c3)]), (vi most1)]) Tryz.func13 rfl Tryz.ntmps13 rfl ?_
 have hI := Bun.start hF hc
 clear hc
 rw [m_base_Weigh_b] at h
 refine sr ?_
 refine l_box (v := (Value.agg #[(vi e1.Op), (str e1.Name), (vi e1.Val.N), (vi e1.Val.D), (vi e1.Type_.Kind), (vi e1.Type_.Bits), (vi e1.Type_.Frac), (vi e1.Type_.Round), (vi e1.Type_.Over), (vi e1.Lin.K), (vs a1 e1.Lin.L.length c1), (vs a2 e1.Idx.length c2), (vs a3 e1.Args.length c3)])) (cs := #[(vi e1.Op), (str e1.Name), (vi e1.Val.N), (vi e1.Val.D), (vi e1.Type_.Kind), (vi e1.Type_.Bits), (vi e1.Type_.Frac), (vi e1.Type_.Round), (vi e1.Type_.Over), (vi e1.Lin.K), (vs a1 e1.Lin.L.length c1), (vs a2 e1.Idx.length c2), (vs a3 e1.Args.length c3)]) hI gn rfl rfl et rfl ?_
 clear hI; intro b1 c4 w1 hI
 obtain ⟨c5, hI⟩ := hI.relBox .z
 refine sac ?_
 refine nk ?_
 refine sr ?_
 refine sq (y_fieldAddr rfl et Tryz.underlying39 rfl size_29 rfl) ?_
 refine sq (y_fieldAddr rfl et Tryz.underlying29 rfl size_27 rfl) ?_
 refine sq (y_load1 (v := (vs a1 e1.Lin.L.length c1)) rfl et Tryz.underlying27 rfl (hI.kblk (l := [(vs a1 e1.Lin.L.length c1)]) .z rfl).1) ?_
 refine sq (y_lenl rfl Tryz.underlying27 et) ?_
 refine sq (y_add rfl ev_const et) ?_
 refine sq (y_fieldAddr rfl et Tryz.underlying39 rfl size_34 rfl) ?_
 refine sq (y_load1 (v := (vs a2 e1.Idx.length c2)) rfl et Tryz.underlying34 rfl (hI.kblk (l := [(vs a2 e1.Idx.length c2)]) .z rfl).1) ?_
 refine sq (y_lenl rfl Tryz.underlying34 et) ?_
 refine sq (y_add rfl et et) ?_
 obtain ⟨n1, hx1, h⟩ := bnd_some h
 refine sq (binU (y_assign rfl et) (congrArg (Value.int .i64) (some_inj hx1))) ?_
 refine nk ?_
 refine c_join (α := Int) (fun _ => ⟨101, []⟩) (fun x => [(1, (vi most1)), (2, (vp b1 0)), (5, (vi x))]) (fun x => fun w => ∃ C, Bun noM F w0 C w [] [Cl.blk b1 39 #[(vi e1.Op), (str e1.Name), (vi e1.Val.N), (vi e1.Val.D), (vi e1.Type_.Kind), (vi e1.Type_.Bits), (vi e1.Type_.Frac), (vi e1.Type_.Round), (vi e1.Type_.Over), (vi e1.Lin.K), (vs a1 e1.Lin.L.length c1), (vs a2 e1.Idx.length c2), (vs a3 e1.Args.length c3)], Cl.sl cGMono a1 c1 e1.Lin.L, Cl.sl cGIndex a2 c2 e1.Idx, Cl.sl cGExpr a3 c3 e1.Args] ∧ m_base_Weigh_j1 e1 most1 rec_ x = some r) ?_ ?_
 ·clear h hI; rintro n2 w2 ⟨c6, hI, h⟩
  try dsimp only at hI h
  rw [m_base_Weigh_j1] at h
  refine c_sub (e := [(1, (vi most1)), (2, (vp b1 0)), (5, (vi n2))]) ⟨rfl, rfl, rfl, trivial⟩ ?_
  refine c_seq ?_
  refine sr ?_
  refine sac ?_
  refine nk ?_
  refine c_block ?_
  refine c_loop (α := Nat × Int × Int) (fun x => fun w => ∃ C, Bun noM F w0 C w [] [Cl.blk b1 39 #[(vi e1.Op), (str e1.Name), (vi e1.Val.N), (vi e1.Val.D), (vi e1.Type_.Kind), (vi e1.Type_.Bits), (vi e1.Type_.Frac), (vi e1.Type_.Round), (vi e1.Type_.Over), (vi e1.Lin.K), (vs a1 e1.Lin.L.length c1), (vs a2 e1.Idx.length c2), (vs a3 e1.Args.length c3)], Cl.sl cGMono a1 c1 e1.Lin.L, Cl.sl cGIndex a2 c2 e1.Idx, Cl.sl cGExpr a3 c3 e1.Args] ∧ m_base_Weigh_l1 e1 most1 rec_ (x.1) (x.2.1) (x.2.2) = some r) (fun x _ => x.1) (fun x => [(1, (vi most1)), (2, (vp b1 0)), (5, (vi (x.2.1))), (8, (vi (x.2.2)))]) (fu, n2, 0) ⟨_, hI.arr .n ⟨.z, (.s .z), (.s (.s .z)), (.s (.s (.s .z))), trivial⟩, h⟩ ⟨rfl, rfl, rfl, rfl, trivial⟩ ?_
  clear h hI; rintro ⟨fuel1, n3, i1⟩ w3 ⟨c7, hI, h⟩
  dsimp only at hI h
  rcases fuel1 with _ | fuel1
  ·rw [m_base_Weigh_l1] at h; cases h
  rw [m_base_Weigh_l1] at h
  refine c_sub (e := [(1, (vi most1)), (2, (vp b1 0)), (5, (vi n3)), (8, (vi i1))]) ⟨rfl, rfl, rfl, rfl, trivial⟩ ?_
  refine c_seq ?_
  refine sr ?_
  refine sm ?_
  refine sq (y_fieldAddr rfl et Tryz.underlying39 rfl size_37 rfl) ?_
  refine sq (y_load1 (v := (vs a3 e1.Args.length c3)) rfl et Tryz.underlying37 rfl (hI.kblk (l := [(vs a3 e1.Args.length c3)]) .z rfl).1) ?_
  refine sq (y_lenl rfl Tryz.underlying37 et) ?_
  refine sq (y_lss rfl et et) ?_
  refine sm ?_
  refine s_gval (g_true rfl rfl rfl rfl) rfl (fun hc => (y_move rfl et)) ?_
  refine s_gval (g_true rfl rfl rfl rfl) rfl (fun hc => (y_move rfl et)) ?_
  refine s_gval (g_true rfl rfl rfl rfl) rfl (fun hc => (y_leq rfl (ev_gv et hc) (ev_gv et hc))) ?_
  refine sq (y_and rfl et et) ?_
  refine nk ?_
  refine c_cond (b := (decide (i1 < (e1.Args.length : Int))) && (decide (n3 ≤ most1))) et (fun hb => ?_) (fun hb => ?_)
  ·replace h := ite_t hb h
   refine c_skip ?_
   refine k_same ?_
   refine c_seq ?_
   refine c_block ?_
   refine c_region rfl ?_
   refine sm ?_
   refine sq (y_fieldAddr rfl et Tryz.underlying39 rfl size_37 rfl) ?_
   refine sq (y_load1 (v := (vs a3 e1.Args.length c3)) rfl et Tryz.underlying37 rfl (hI.kblk (l := [(vs a3 e1.Args.length c3)]) .z rfl).1) ?_
   refine sm ?_
   obtain ⟨e2, hx2, h⟩ := bnd_some h
   obtain ⟨ad1, cs1, hA1, hr1, hq1⟩ := hI.clat (.s (.s (.s .z))) hx2
   obtain ⟨a4, c8, a5, c9, a6, c10, rfl, hf1, hf2, hf3⟩ := cGExpr_out hr1
   have hI := hI.add (c := Cl.sl cGMono a4 c8 e2.Lin.L) hf1
   have hI := hI.add (c := Cl.sl cGIndex a5 c9 e2.Idx) hf2
   have hI := hI.add (c := Cl.sl cGExpr a6 c10 e2.Args) hf3
   refine sq (y_indexAddr rfl Tryz.underlying37 size_39 et et (lat_bd hx2) hA1) ?_
   refine sq (y_loadN (l := [(vi e2.Op), (str e2.Name), (vi e2.Val.N), (vi e2.Val.D), (vi e2.Type_.Kind), (vi e2.Type_.Bits), (vi e2.Type_.Frac), (vi e2.Type_.Round), (vi e2.Type_.Over), (vi e2.Lin.K), (vs a4 e2.Lin.L.length c8), (vs a5 e2.Idx.length c9), (vs a6 e2.Args.length c10)]) rfl et Tryz.underlying39 rfl size_39 hq1.1) ?_
   refine sm ?_
   refine sm ?_
   refine sq (y_sub rfl et et) ?_
   obtain ⟨r1, hx3, h⟩ := bnd_some h
   refine s_call gn rfl (r_callF (vs := [(Value.agg #[(vi e2.Op), (str e2.Name), (vi e2.Val.N), (vi e2.Val.D), (vi e2.Type_.Kind), (vi e2.Type_.Bits), (vi e2.Type_.Frac), (vi e2.Type_.Round), (vi e2.Type_.Over), (vi e2.Lin.K), (vs a4 e2.Lin.L.length c8), (vs a5 e2.Idx.length c9), (vs a6 e2.Args.length c10)]), (vi (wi64 (most1 - n3)))]) rfl ok_13 ⟨et, ⟨et, trivial⟩⟩) (Calls.mono (hrec (Dj F c7) w3 hI.lt e2 (wi64 (most1 - n3)) a4 c8 a5 c9 a6 c10 ⟨(hI.get (.s (.s .z))), (hI.get (.s .z)), (hI.get .z), trivial⟩ r1 hx3) ?_)
   rintro _ w4 ⟨rfl, hx4, hl1⟩
   refine ⟨_, rfl, ?_⟩
   replace hI := (hI.ext hx4)
   refine sq (y_add rfl et et) ?_
   refine sa ?_
   refine nk ?_
   refine c_region rfl ?_
   refine sm ?_
   refine sq (y_add rfl et ev_const) ?_
   refine sa ?_
   refine s_nil ?_
   exact k_loop (fuel1, wi64 (n3 + r1), wi64 (i1 + 1)) ⟨rfl, rfl, rfl, rfl, trivial⟩ ⟨_, hI.arr .n ⟨(.s (.s (.s .z))), (.s (.s (.s (.s .z)))), (.s (.s (.s (.s (.s .z))))), (.s (.s (.s (.s (.s (.s .z)))))), trivial⟩, h⟩ (Nat.lt_succ_self _)
  ·replace h := ite_f hb h
   refine c_exit ?_
   refine k_in ?_
   refine k_same ?_
   refine sr ?_
   refine sm ?_
   refine sa ?_
   refine nk ?_
   refine c_ret ?_
   obtain rfl := some_inj h
   exact q_ret (vs := [(vi n3)]) Tryz.results13 ⟨ev_tmp rfl rfl, trivial⟩ ⟨rfl, hI.ext0, hI.fin trivial⟩
 ·skip
  refine sr ?_
  refine sac ?_
  refine nk ?_
  refine c_block ?_
  refine c_loop (α := Nat × Int × Int) (fun x => fun w => ∃ C, Bun noM F w0 C w [] [Cl.blk b1 39 #[(vi e1.Op), (str e1.Name), (vi e1.Val.N), (vi e1.Val.D), (vi e1.Type_.Kind), (vi e1.Type_.Bits), (vi e1.Type_.Frac), (vi e1.Type_.Round), (vi e1.Type_.Over), (vi e1.Lin.K), (vs a1 e1.Lin.L.length c1), (vs a2 e1.Idx.length c2), (vs a3 e1.Args.length c3)], Cl.sl cGMono a1 c1 e1.Lin.L, Cl.sl cGIndex a2 c2 e1.Idx, Cl.sl cGExpr a3 c3 e1.Args] ∧ m_base_Weigh_l2 e1 most1 rec_ (x.1) (x.2.1) (x.2.2) = some r) (fun x _ => x.1) (fun x => [(1, (vi most1)), (2, (vp b1 0)), (5, (vi (x.2.1))), (6, (vi (x.2.2)))]) (fu, n1, 0) ⟨_, hI.arr .n ⟨.z, (.s .z), (.s (.s .z)), (.s (.s (.s .z))), trivial⟩, h⟩ ⟨rfl, rfl, rfl, rfl, trivial⟩ ?_
  clear h hI; rintro ⟨fuel2, n4, i2⟩ w5 ⟨c11, hI, h⟩
  dsimp only at hI h
  rcases fuel2 with _ | fuel2
  ·rw [m_base_Weigh_l2] at h; cases h
  rw [m_base_Weigh_l2] at h
  refine c_sub (e := [(1, (vi most1)), (2, (vp b1 0)), (5, (vi n4)), (6, (vi i2))]) ⟨rfl, rfl, rfl, rfl, trivial⟩ ?_
  refine c_seq ?_
  refine sr ?_
  refine sm ?_
  refine sq (y_fieldAddr rfl et Tryz.underlying39 rfl size_34 rfl) ?_
  refine sq (y_load1 (v := (vs a2 e1.Idx.length c2)) rfl et Tryz.underlying34 rfl (hI.kblk (l := [(vs a2 e1.Idx.length c2)]) .z rfl).1) ?_
  refine sq (y_lenl rfl Tryz.underlying34 et) ?_
  refine sq (y_lss rfl et et) ?_
  refine sm ?_
  refine s_gval (g_true rfl rfl rfl rfl) rfl (fun hc => (y_move rfl et)) ?_
  refine s_gval (g_true rfl rfl rfl rfl) rfl (fun hc => (y_move rfl et)) ?_
  refine s_gval (g_true rfl rfl rfl rfl) rfl (fun hc => (y_leq rfl (ev_gv et hc) (ev_gv et hc))) ?_
  refine sq (y_and rfl et et) ?_
  refine nk ?_
  refine c_cond (b := (decide (i2 < (e1.Idx.length : Int))) && (decide (n4 ≤ most1))) et (fun hb => ?_) (fun hb => ?_)
  ·replace h := ite_t hb h
   refine c_skip ?_
   refine k_same ?_
   refine c_join (α := Int) (fun _ => ⟨101, []⟩) (fun x => [(1, (vi most1)), (2, (vp b1 0)), (5, (vi x)), (6, (vi i2))]) (fun x => fun w => ∃ C, Bun noM F w0 C w [] [Cl.blk b1 39 #[(vi e1.Op), (str e1.Name), (vi e1.Val.N), (vi e1.Val.D), (vi e1.Type_.Kind), (vi e1.Type_.Bits), (vi e1.Type_.Frac), (vi e1.Type_.Round), (vi e1.Type_.Over), (vi e1.Lin.K), (vs a1 e1.Lin.L.length c1), (vs a2 e1.Idx.length c2), (vs a3 e1.Args.length c3)], Cl.sl cGMono a1 c1 e1.Lin.L, Cl.sl cGIndex a2 c2 e1.Idx, Cl.sl cGExpr a3 c3 e1.Args] ∧ m_base_Weigh_j2 (m_base_Weigh_l2 e1 most1 rec_ fuel2) i2 x = some r) ?_ ?_
   ·clear h hI; rintro n5 w6 ⟨c12, hI, h⟩
    try dsimp only at hI h
    rw [m_base_Weigh_j2] at h
    refine c_sub (e := [(1, (vi most1)), (2, (vp b1 0)), (5, (vi n5)), (6, (vi i2))]) ⟨rfl, rfl, rfl, rfl, trivial⟩ ?_
    refine c_region rfl ?_
    refine sm ?_
    refine sq (y_add rfl et ev_const) ?_
    refine sa ?_
    refine s_nil ?_
    exact k_loop (fuel2, n5, wi64 (i2 + 1)) ⟨rfl, rfl, rfl, rfl, trivial⟩ ⟨_, hI.arr .n ⟨.z, (.s .z), (.s (.s .z)), (.s (.s (.s .z))), trivial⟩, h⟩ (Nat.lt_succ_self _)
   ·skip
    refine c_block ?_
    refine c_seq ?_
    refine c_drawX [] false (.c (0, .q) (.c (1, .q) (.c (2, .q) (.c (3, .q) (.c (4, .q) (.c (5, .q) (.c (6, .q) (.c (7, .q) (.c (8, .q) (.c (9, .q) (.c (10, .q) (.c (11, .q) (.c (12, .q) (.c (13, .q) (.c (14, .q) (.c (15, .q) (.c (16, .q) (.c (17, .q) (.c (18, .q) .n))))))))))))))))))) hI (by kernel_rfl) (by kernel_rfl) ?_
    clear hI; intro w7 hI
    refine a_q rfl gn rfl (fun w' => (y_move rfl et)) ?_
    refine a_q rfl gn rfl (fun w' => (y_fieldAddr rfl et Tryz.underlying39 rfl size_34 rfl)) ?_
    refine a_read rfl gn rfl (fun w' hw' => (y_load1 (v := (vs a2 e1.Idx.length c2)) rfl et Tryz.underlying34 rfl ((hI.kblk (l := [(vs a2 e1.Idx.length c2)]) .z rfl).at_ (SX.any rfl hw')))) (by kernel_rfl) ?_
    refine a_q rfl gn rfl (fun w' => (y_move rfl et)) ?_
    obtain ⟨e3, hx5, h⟩ := bnd_some h
    obtain ⟨ad2, cs2, hA2, hr2, hq2⟩ := hI.clat (.s (.s .z)) hx5
    obtain ⟨a7, c13, a8, c14, rfl, hf4, hf5⟩ := hr2
    have hI := hI.add (c := Cl.sl cGMono a7 c13 e3.Lin.L) hf4
    have hI := hI.add (c := Cl.sl cGLin a8 c14 e3.At) hf5
    refine a_q rfl gn rfl (fun w' => (y_indexAddr rfl Tryz.underlying34 size_32 et et (lat_bd hx5) hA2)) ?_
    refine a_q rfl gn rfl (fun w' => (y_fieldAddr rfl et Tryz.underlying32 rfl size_29 rfl)) ?_
    refine a_q rfl gn rfl (fun w' => (y_fieldAddr2 rfl et Tryz.underlying29 rfl size_27 rfl)) ?_
    refine a_read rfl gn rfl (fun w' hw' => (y_load1 (v := (vs a7 e3.Lin.L.length c13)) rfl et Tryz.underlying27 rfl ((CA.part hq2 rfl).at_ (SX.any rfl hw')))) (by kernel_rfl) ?_
    refine a_q rfl gn rfl (fun w' => (y_lenl rfl Tryz.underlying27 et)) ?_
    refine a_q rfl gn rfl (fun w' => (y_add rfl et et)) ?_
    refine a_q rfl gn rfl (fun w' => (y_fieldAddr rfl et Tryz.underlying39 rfl size_34 rfl)) ?_
    refine a_read rfl gn rfl (fun w' hw' => (y_load1 (v := (vs a2 e1.Idx.length c2)) rfl et Tryz.underlying34 rfl ((hI.kblk (l := [(vs a2 e1.Idx.length c2)]) (.s (.s .z)) rfl).at_ (SX.any rfl hw')))) (by kernel_rfl) ?_
    refine a_q rfl gn rfl (fun w' => (y_move rfl et)) ?_
    obtain ⟨e4, hx6, h⟩ := bnd_some h
    obtain ⟨ad3, cs3, hA3, hr3, hq3⟩ := hI.clat (.s (.s (.s (.s .z)))) hx6
    obtain ⟨a9, c15, a10, c16, rfl, hf6, hf7⟩ := hr3
    have hI := hI.add (c := Cl.sl cGMono a9 c15 e4.Lin.L) hf6
    have hI := hI.add (c := Cl.sl cGLin a10 c16 e4.At) hf7
    refine a_q rfl gn rfl (fun w' => (y_indexAddr rfl Tryz.underlying34 size_32 et et (lat_bd hx6) hA3)) ?_
    refine a_q rfl gn rfl (fun w' => (y_fieldAddr rfl et Tryz.underlying32 rfl size_30 rfl)) ?_
    refine a_read rfl gn rfl (fun w' hw' => (y_load1 (v := (vs a10 e4.At.length c16)) rfl et Tryz.underlying30 rfl ((CA.part hq3 rfl).at_ (SX.any rfl hw')))) (by kernel_rfl) ?_
    refine a_q rfl gn rfl (fun w' => (y_lenl rfl Tryz.underlying30 et)) ?_
    refine a_q rfl gn rfl (fun w' => (y_add rfl et et)) ?_
    refine a_q rfl gn rfl (fun w' => (y_assign rfl et)) ?_
    refine a_nil ?_
    refine k_next (e := [(1, (vi most1)), (2, (vp b1 0)), (5, (vi (wi64 ((wi64 (n4 + (e3.Lin.L.length : Int))) + (e4.At.length : Int))))), (6, (vi i2))]) ⟨rfl, rfl, rfl, rfl, trivial⟩ ?_
    refine sr ?_
    refine sac ?_
    refine nk ?_
    refine c_block ?_
    refine c_loop (α := Nat × Int × Int) (fun x => fun w => ∃ C, Bun noM F w0 C w [] [Cl.blk b1 39 #[(vi e1.Op), (str e1.Name), (vi e1.Val.N), (vi e1.Val.D), (vi e1.Type_.Kind), (vi e1.Type_.Bits), (vi e1.Type_.Frac), (vi e1.Type_.Round), (vi e1.Type_.Over), (vi e1.Lin.K), (vs a1 e1.Lin.L.length c1), (vs a2 e1.Idx.length c2), (vs a3 e1.Args.length c3)], Cl.sl cGMono a1 c1 e1.Lin.L, Cl.sl cGIndex a2 c2 e1.Idx, Cl.sl cGExpr a3 c3 e1.Args] ∧ m_base_Weigh_l3 e1 i2 most1 (m_base_Weigh_l2 e1 most1 rec_ fuel2) (x.1) (x.2.1) (x.2.2) = some r) (fun x _ => x.1) (fun x => [(1, (vi most1)), (2, (vp b1 0)), (5, (vi (x.2.1))), (6, (vi i2)), (7, (vi (x.2.2)))]) (fu, wi64 ((wi64 (n4 + (e3.Lin.L.length : Int))) + (e4.At.length : Int)), 0) ⟨_, hI.arr .n ⟨(.s (.s (.s (.s .z)))), (.s (.s (.s (.s (.s .z))))), (.s (.s (.s (.s (.s (.s .z)))))), (.s (.s (.s (.s (.s (.s (.s .z))))))), trivial⟩, h⟩ ⟨rfl, rfl, rfl, rfl, rfl, trivial⟩ ?_
    clear h hI; rintro ⟨fuel3, n6, k1⟩ w8 ⟨c17, hI, h⟩
    dsimp only at hI h
    rcases fuel3 with _ | fuel3
    ·rw [m_base_Weigh_l3] at h; cases h
    rw [m_base_Weigh_l3] at h
    refine c_sub (e := [(1, (vi most1)), (2, (vp b1 0)), (5, (vi n6)), (6, (vi i2)), (7, (vi k1))]) ⟨rfl, rfl, rfl, rfl, rfl, trivial⟩ ?_
    refine c_seq ?_
    refine sr ?_
    refine sm ?_
    refine sq (y_fieldAddr rfl et Tryz.underlying39 rfl size_34 rfl) ?_
    refine sq (y_load1 (v := (vs a2 e1.Idx.length c2)) rfl et Tryz.underlying34 rfl (hI.kblk (l := [(vs a2 e1.Idx.length c2)]) .z rfl).1) ?_
    refine sm ?_
    obtain ⟨e5, hx7, h⟩ := bnd_some h
    obtain ⟨ad4, cs4, hA4, hr4, hq4⟩ := hI.clat (.s (.s .z)) hx7
    obtain ⟨a11, c18, a12, c19, rfl, hf8, hf9⟩ := hr4
    have hI := hI.add (c := Cl.sl cGMono a11 c18 e5.Lin.L) hf8
    have hI := hI.add (c := Cl.sl cGLin a12 c19 e5.At) hf9
    refine sq (y_indexAddr rfl Tryz.underlying34 size_32 et et (lat_bd hx7) hA4) ?_
    refine sq (y_fieldAddr rfl et Tryz.underlying32 rfl size_30 rfl) ?_
    refine sq (y_load1 (v := (vs a12 e5.At.length c19)) rfl et Tryz.underlying30 rfl (CA.part hq4 rfl).1) ?_
    refine sq (y_lenl rfl Tryz.underlying30 et) ?_
    refine sq (y_lss rfl et et) ?_
    refine sm ?_
    refine s_gval (g_true rfl rfl rfl rfl) rfl (fun hc => (y_move rfl et)) ?_
    refine s_gval (g_true rfl rfl rfl rfl) rfl (fun hc => (y_move rfl et)) ?_
    refine s_gval (g_true rfl rfl rfl rfl) rfl (fun hc => (y_leq rfl (ev_gv et hc) (ev_gv et hc))) ?_
    refine sq (y_and rfl et et) ?_
    refine nk ?_
    refine c_cond (b := (decide (k1 < (e5.At.length : Int))) && (decide (n6 ≤ most1))) et (fun hb => ?_) (fun hb => ?_)
    ·replace h := ite_t hb h
     refine c_skip ?_
     refine k_same ?_
     refine c_seq ?_
     refine c_block ?_
     refine c_region rfl ?_
     refine sm ?_
     refine sq (y_fieldAddr rfl et Tryz.underlying39 rfl size_34 rfl) ?_
     refine sq (y_load1 (v := (vs a2 e1.Idx.length c2)) rfl et Tryz.underlying34 rfl (hI.kblk (l := [(vs a2 e1.Idx.length c2)]) (.s (.s .z)) rfl).1) ?_
     refine sm ?_
     obtain ⟨e6, hx8, h⟩ := bnd_some h
     obtain ⟨ad5, cs5, hA5, hr5, hq5⟩ := hI.clat (.s (.s (.s (.s .z)))) hx8
     obtain ⟨a13, c20, a14, c21, rfl, hf10, hf11⟩ := hr5
     have hI := hI.add (c := Cl.sl cGMono a13 c20 e6.Lin.L) hf10
     have hI := hI.add (c := Cl.sl cGLin a14 c21 e6.At) hf11
     refine sq (y_indexAddr rfl Tryz.underlying34 size_32 et et (lat_bd hx8) hA5) ?_
     refine sq (y_fieldAddr rfl et Tryz.underlying32 rfl size_30 rfl) ?_
     refine sq (y_load1 (v := (vs a14 e6.At.length c21)) rfl et Tryz.underlying30 rfl (CA.part hq5 rfl).1) ?_
     refine sm ?_
     obtain ⟨e7, hx9, h⟩ := bnd_some h
     obtain ⟨ad6, cs6, hA6, hr6, hq6⟩ := hI.clat .z hx9
     obtain ⟨a15, c22, rfl, hf12⟩ := hr6
     have hI := hI.add (c := Cl.sl cGMono a15 c22 e7.L) hf12
     refine sq (y_indexAddr rfl Tryz.underlying30 size_29 et et (lat_bd hx9) hA6) ?_
     refine sq (y_fieldAddr rfl et Tryz.underlying29 rfl size_27 rfl) ?_
     refine sq (y_load1 (v := (vs a15 e7.L.length c22)) rfl et Tryz.underlying27 rfl (CA.part hq6 rfl).1) ?_
     refine sq (y_lenl rfl Tryz.underlying27 et) ?_
     refine sq (y_add rfl et et) ?_
     obtain ⟨n7, hx10, h⟩ := bnd_some h
     refine sq (binU (y_assign rfl et) (congrArg (Value.int .i64) (some_inj hx10))) ?_
     refine s_nil ?_
     refine k_next (e := [(1, (vi most1)), (2, (vp b1 0)), (5, (vi n7)), (6, (vi i2)), (7, (vi k1))]) ⟨rfl, rfl, rfl, rfl, rfl, trivial⟩ ?_
     refine c_region rfl ?_
     refine sm ?_
     refine sq (y_add rfl et ev_const) ?_
     refine sa ?_
     refine s_nil ?_
     exact k_loop (fuel3, n7, wi64 (k1 + 1)) ⟨rfl, rfl, rfl, rfl, rfl, trivial⟩ ⟨_, hI.arr .n ⟨(.s (.s (.s (.s (.s .z))))), (.s (.s (.s (.s (.s (.s .z)))))), (.s (.s (.s (.s (.s (.s (.s .z))))))), (.s (.s (.s (.s (.s (.s (.s (.s .z)))))))), trivial⟩, h⟩ (Nat.lt_succ_self _)
    ·replace h := ite_f hb h
     refine c_exit ?_
     refine k_in ?_
     exact k_join n6 ⟨rfl, rfl, rfl, rfl, trivial⟩ ⟨_, hI.arr .n ⟨(.s (.s .z)), (.s (.s (.s .z))), (.s (.s (.s (.s .z)))), (.s (.s (.s (.s (.s .z))))), trivial⟩, h⟩ rfl
  ·replace h := ite_f hb h
   refine c_exit ?_
   refine k_in ?_
   exact k_join n4 ⟨rfl, rfl, rfl, trivial⟩ ⟨_, hI.arr .n ⟨.z, (.s .z), (.s (.s .z)), (.s (.s (.s .z))), trivial⟩, h⟩ rfl
theorem c_base_Weigh_r (n : Nat) : ∀ (F : NP) (w0 : World) (hF : ∀ k, F k → k < w0.heap.size) (e1 : GExpr) (most1 : Int) (a1 : Option Addr) (c1 : Nat) (a2 : Option Addr) (c2 : Nat) (a3 : Option Addr) (c3 : Nat) (hc : AllCl [Cl.sl cGMono a1 c1 e1.Lin.L, Cl.sl cGIndex a2 c2 e1.Idx, Cl.sl cGExpr a3 c3 e1.Args] F w0) (r : Int) (h : m_base_Weigh_r n e1 most1 = some r), Calls Tryz.prog 13 #[(Value.agg #[(vi e1.Op), (str e1.Name), (vi e1.Val.N), (vi e1.Val.D), (vi e1.Type_.Kind), (vi e1.Type_.Bits), (vi e1.Type_.Frac), (vi e1.Type_.Round), (vi e1.Type_.Over), (vi e1.Lin.K), (vs a1 e1.Lin.L.length c1), (vs a2 e1.Idx.length c2), (vs a3 e1.Args.length c3)]), (vi most1)] w0 fun e w => e = .returned (vi r) ∧ Ext w0 w ∧ AllCl [] F w := by
 induction n with
 | zero => intro F w0 hF e1 most1 a1 c1 a2 c2 a3 c3 hc r h; cases h
 | succ n ih => intro F w0 hF e1 most1 a1 c1 a2 c2 a3 c3 hc r h; exact c_base_Weigh_b (m_base_Weigh_r n) ih F w0 hF e1 most1 a1 c1 a2 c2 a3 c3 hc r h
theorem c_base_Weigh (F : NP) (w0 : World) (hF : ∀ k, F k → k < w0.heap.size) (e1 : GExpr) (most1 : Int) (a1 : Option Addr) (c1 : Nat) (a2 : Option Addr) (c2 : Nat) (a3 : Option Addr) (c3 : Nat) (hc : AllCl [Cl.sl cGMono a1 c1 e1.Lin.L, Cl.sl cGIndex a2 c2 e1.Idx, Cl.sl cGExpr a3 c3 e1.Args] F w0) (r : Int) (h : m_base_Weigh e1 most1 = some r) : Calls Tryz.prog 13 #[(Value.agg #[(vi e1.Op), (str e1.Name), (vi e1.Val.N), (vi e1.Val.D), (vi e1.Type_.Kind), (vi e1.Type_.Bits), (vi e1.Type_.Frac), (vi e1.Type_.Round), (vi e1.Type_.Over), (vi e1.Lin.K), (vs a1 e1.Lin.L.length c1), (vs a2 e1.Idx.length c2), (vs a3 e1.Args.length c3)]), (vi most1)] w0 fun e w => e = .returned (vi r) ∧ Ext w0 w ∧ AllCl [] F w := c_base_Weigh_r fu F w0 hF e1 most1 a1 c1 a2 c2 a3 c3 hc r h
set_option maxRecDepth 100000 in
set_option maxHeartbeats 4000000 in
theorem c_base_Words (F : NP) (w0 : World) (hF : ∀ k, F k → k < w0.heap.size) (hc : AllCl [] F w0) (r : List (List UInt8))
  (h : m_base_Words = some r) :
  Calls Tryz.prog 90 #[] w0 fun e w => ∃ (a1 : Option Addr) (c1 : Nat), e = .returned (vs a1 r.length c1) ∧ Ext w0 w ∧ AllCl [Cl.sl cStr a1 c1 r] F w := by
 refine enterK (l := []) Tryz.func90 rfl Tryz.ntmps90 rfl ?_
 have hI := Bun.start hF hc
 clear hc
 rw [m_base_Words] at h
 refine sr ?_
 refine sac ?_
 refine nk ?_
 refine sr ?_
 refine l_lit (c := cStr) (xs := ([([115, 105, 122, 101] : List UInt8), ([119, 104, 101, 114, 101] : List UInt8), ([105, 110] : List UInt8), ([100, 101, 102] : List UInt8), ([111, 117, 116] : List UInt8), ([115, 117, 109] : List UInt8), ([112, 114, 111, 100] : List UInt8), ([109, 105, 110] : List UInt8), ([109, 97, 120] : List UInt8), ([115, 99, 97, 110] : List UInt8), ([111, 118, 101, 114] : List UInt8), ([105, 102] : List UInt8), ([99, 97, 115, 116] : List UInt8), ([102, 114, 97, 99] : List UInt8), ([105, 110, 116] : List UInt8), ([102, 105, 120] : List UInt8), ([99, 101, 105, 108] : List UInt8), ([102, 108, 111, 111, 114] : List UInt8), ([122, 101, 114, 111] : List UInt8), ([101, 118, 101, 110] : List UInt8), ([115, 97, 116] : List UInt8), ([119, 114, 97, 112] : List UInt8)] : List (List UInt8))) (vs := [(0, (str ([115, 105, 122, 101] : List UInt8))), (1, (str ([119, 104, 101, 114, 101] : List UInt8))), (2, (str ([105, 110] : List UInt8))), (3, (str ([100, 101, 102] : List UInt8))), (4, (str ([111, 117, 116] : List UInt8))), (5, (str ([115, 117, 109] : List UInt8))), (6, (str ([112, 114, 111, 100] : List UInt8))), (7, (str ([109, 105, 110] : List UInt8))), (8, (str ([109, 97, 120] : List UInt8))), (9, (str ([115, 99, 97, 110] : List UInt8))), (10, (str ([111, 118, 101, 114] : List UInt8))), (11, (str ([105, 102] : List UInt8))), (12, (str ([99, 97, 115, 116] : List UInt8))), (13, (str ([102, 114, 97, 99] : List UInt8))), (14, (str ([105, 110, 116] : List UInt8))), (15, (str ([102, 105, 120] : List UInt8))), (16, (str ([99, 101, 105, 108] : List UInt8))), (17, (str ([102, 108, 111, 111, 114] : List UInt8))), (18, (str ([122, 101, 114, 111] : List UInt8))), (19, (str ([101, 118, 101, 110] : List UInt8))), (20, (str ([115, 97, 116] : List UInt8))), (21, (str ([119, 114, 97, 112] : List UInt8)))]) (cs := #[(str ([115, 105, 122, 101] : List UInt8)), (str ([119, 104, 101, 114, 101] : List UInt8)), (str ([105, 110] : List UInt8)), (str ([100, 101, 102] : List UInt8)), (str ([111, 117, 116] : List UInt8)), (str ([115, 117, 109] : List UInt8)), (str ([112, 114, 111, 100] : List UInt8)), (str ([109, 105, 110] : List UInt8)), (str ([109, 97, 120] : List UInt8)), (str ([115, 99, 97, 110] : List UInt8)), (str ([111, 118, 101, 114] : List UInt8)), (str ([105, 102] : List UInt8)), (str ([99, 97, 115, 116] : List UInt8)), (str ([102, 114, 97, 99] : List UInt8)), (str ([105, 110, 116] : List UInt8)), (str ([102, 105, 120] : List UInt8)), (str ([99, 101, 105, 108] : List UInt8)), (str ([102, 108, 111, 111, 114] : List UInt8)), (str ([122, 101, 114, 111] : List UInt8)), (str ([101, 118, 101, 110] : List UInt8)), (str ([115, 97, 116] : List UInt8)), (str ([119, 114, 97, 112] : List UInt8))]) (css := [[(str ([115, 105, 122, 101] : List UInt8))], [(str ([119, 104, 101, 114, 101] : List UInt8))], [(str ([105, 110] : List UInt8))], [(str ([100, 101, 102] : List UInt8))], [(str ([111, 117, 116] : List UInt8))], [(str ([115, 117, 109] : List UInt8))], [(str ([112, 114, 111, 100] : List UInt8))], [(str ([109, 105, 110] : List UInt8))], [(str ([109, 97, 120] : List UInt8))], [(str ([115, 99, 97, 110] : List UInt8))], [(str ([111, 118, 101, 114] : List UInt8))], [(str ([105, 102] : List UInt8))], [(str ([99, 97, 115, 116] : List UInt8))], [(str ([102, 114, 97, 99] : List UInt8))], [(str ([105, 110, 116] : List UInt8))], [(str ([102, 105, 120] : List UInt8))], [(str ([99, 101, 105, 108] : List UInt8))], [(str ([102, 108, 111, 111, 114] : List UInt8))], [(str ([122, 101, 114, 111] : List UInt8))], [(str ([101, 118, 101, 110] : List UInt8))], [(str ([115, 97, 116] : List UInt8))], [(str ([119, 114, 97, 112] : List UInt8))]]) hI gn rfl rfl Tryz.underlying55 info_9 rfl ⟨rfl, ev_const, ⟨rfl, ev_const, ⟨rfl, ev_const, ⟨rfl, ev_const, ⟨rfl, ev_const, ⟨rfl, ev_const, ⟨rfl, ev_const, ⟨rfl, ev_const, ⟨rfl, ev_const, ⟨rfl, ev_const, ⟨rfl, ev_const, ⟨rfl, ev_const, ⟨rfl, ev_const, ⟨rfl, ev_const, ⟨rfl, ev_const, ⟨rfl, ev_const, ⟨rfl, ev_const, ⟨rfl, ev_const, ⟨rfl, ev_const, ⟨rfl, ev_const, ⟨rfl, ev_const, ⟨rfl, ev_const, trivial⟩⟩⟩⟩⟩⟩⟩⟩⟩⟩⟩⟩⟩⟩⟩⟩⟩⟩⟩⟩⟩⟩ (by kernel_rfl) ⟨rfl, ⟨rfl, ⟨rfl, ⟨rfl, ⟨rfl, ⟨rfl, ⟨rfl, ⟨rfl, ⟨rfl, ⟨rfl, ⟨rfl, ⟨rfl, ⟨rfl, ⟨rfl, ⟨rfl, ⟨rfl, ⟨rfl, ⟨rfl, ⟨rfl, ⟨rfl, ⟨rfl, ⟨rfl, trivial⟩⟩⟩⟩⟩⟩⟩⟩⟩⟩⟩⟩⟩⟩⟩⟩⟩⟩⟩⟩⟩⟩ rfl rfl rfl ?_
 clear hI; intro b1 c2 w1 hI
 refine sa ?_
 refine nk ?_
 refine c_ret ?_
 obtain ⟨c3, hI⟩ := hI.release .z
 obtain rfl := some_inj h
 exact q_ret (vs := [(vs (some ⟨b1, 0, none⟩) ([([115, 105, 122, 101] : List UInt8), ([119, 104, 101, 114, 101] : List UInt8), ([105, 110] : List UInt8), ([100, 101, 102] : List UInt8), ([111, 117, 116] : List UInt8), ([115, 117, 109] : List UInt8), ([112, 114, 111, 100] : List UInt8), ([109, 105, 110] : List UInt8), ([109, 97, 120] : List UInt8), ([115, 99, 97, 110] : List UInt8), ([111, 118, 101, 114] : List UInt8), ([105, 102] : List UInt8), ([99, 97, 115, 116] : List UInt8), ([102, 114, 97, 99] : List UInt8), ([105, 110, 116] : List UInt8), ([102, 105, 120] : List UInt8), ([99, 101, 105, 108] : List UInt8), ([102, 108, 111, 111, 114] : List UInt8), ([122, 101, 114, 111] : List UInt8), ([101, 118, 101, 110] : List UInt8), ([115, 97, 116] : List UInt8), ([119, 114, 97, 112] : List UInt8)] : List (List UInt8)).length 22)]) Tryz.results90 ⟨ev_tmp rfl rfl, trivial⟩ ⟨some ⟨b1, 0, none⟩, 22, rfl, hI.ext0, hI.fin ⟨.z, trivial⟩⟩
set_option maxRecDepth 100000 in
set_option maxHeartbeats 4000000 in
theorem c_base_Has (F : NP) (w0 : World) (hF : ∀ k, F k → k < w0.heap.size) (l1 : List (List UInt8)) (s1 : List UInt8) (a1 : Option Addr) (c1 : Nat) (hc : AllCl [Cl.sl cStr a1 c1 l1] F w0) (r : Bool)
  (h : m_base_Has l1 s1 = some r) :
  Calls Tryz.prog 89 #[(vs a1 l1.length c1), (str s1)] w0 fun e w => e = .returned (vb r) ∧ Ext w0 w ∧ AllCl [] F w := by
 refine enterK (l := [(vs a1 l1.length c1), (str s1)]) Tryz.func89 rfl Tryz.ntmps89 rfl ?_
 have hI := Bun.start hF hc
 clear hc
 rw [m_base_Has] at h
 refine sr ?_
 refine sac ?_
 refine nk ?_
 refine c_seq ?_
 refine sr ?_
 refine sac ?_
 refine nk ?_
 refine c_block ?_
 refine c_loop (α := Nat × Int) (fun x => fun w => ∃ C, Bun noM F w0 C w [] [Cl.sl cStr a1 c1 l1] ∧ m_base_Has_l1 l1 s1 (x.1) (x.2) = some r) (fun x _ => x.1) (fun x => [(0, (vs a1 l1.length c1)), (1, (str s1)), (5, (vi (x.2)))]) (fu, 0) ⟨_, hI.arr .n ⟨.z, trivial⟩, h⟩ ⟨rfl, rfl, rfl, trivial⟩ ?_
 clear h hI; rintro ⟨fuel1, i1⟩ w1 ⟨c2, hI, h⟩
 dsimp only at hI h
 rcases fuel1 with _ | fuel1
 ·rw [m_base_Has_l1] at h; cases h
 rw [m_base_Has_l1] at h
 refine c_sub (e := [(0, (vs a1 l1.length c1)), (1, (str s1)), (5, (vi i1))]) ⟨rfl, rfl, rfl, trivial⟩ ?_
 refine c_seq ?_
 refine sr ?_
 refine sm ?_
 refine sm ?_
 refine sq (y_lenl rfl Tryz.underlying55 et) ?_
 refine sq (y_lss rfl et et) ?_
 refine nk ?_
 refine c_cond (b := decide (i1 < (l1.length : Int))) et (fun hb => ?_) (fun hb => ?_)
 ·replace h := ite_t hb h
  refine c_skip ?_
  refine k_same ?_
  refine c_seq ?_
  refine c_block ?_
  refine sr ?_
  refine sm ?_
  refine sm ?_
  obtain ⟨e1, hx1, h⟩ := bnd_some h
  obtain ⟨ad1, cs1, hA1, hr1, hq1⟩ := hI.clat .z hx1
  obtain rfl : cs1 = [(str e1)] := hr1
  refine sq (y_indexAddr rfl Tryz.underlying55 size_9 et et (lat_bd hx1) hA1) ?_
  refine sq (y_load1 (v := (str e1)) rfl et Tryz.underlying9 rfl hq1.1) ?_
  refine sm ?_
  refine sq (y_eqs rfl et et) ?_
  refine nk ?_
  refine c_cond (b := decide (e1 = s1)) et (fun hb => ?_) (fun hb => ?_)
  ·replace h := ite_t hb h
   refine sr ?_
   refine sac ?_
   refine nk ?_
   refine c_ret ?_
   obtain rfl := some_inj h
   exact q_ret (vs := [(vb true)]) Tryz.results89 ⟨ev_tmp rfl rfl, trivial⟩ ⟨rfl, hI.ext0, hI.fin trivial⟩
  ·replace h := ite_f hb h
   refine c_skip ?_
   refine k_same ?_
   refine c_region rfl ?_
   refine sm ?_
   refine sq (y_add rfl et ev_const) ?_
   refine sa ?_
   refine s_nil ?_
   exact k_loop (fuel1, wi64 (i1 + 1)) ⟨rfl, rfl, rfl, trivial⟩ ⟨_, hI.arr .n ⟨.z, trivial⟩, h⟩ (Nat.lt_succ_self _)
 ·replace h := ite_f hb h
  refine c_exit ?_
  refine k_in ?_
  refine k_same ?_
  refine sr ?_
  refine sac ?_
  refine nk ?_
  refine c_ret ?_
  obtain rfl := some_inj h
  exact q_ret (vs := [(vb false)]) Tryz.results89 ⟨ev_tmp rfl rfl, trivial⟩ ⟨rfl, hI.ext0, hI.fin trivial⟩
set_option maxRecDepth 100000 in
set_option maxHeartbeats 4000000 in
theorem c_base_Name (F : NP) (w0 : World) (hF : ∀ k, F k → k < w0.heap.size) (s1 : List UInt8) (hc : AllCl [] F w0) (r : Bool)
  (h : m_base_Name s1 = some r) :
  Calls Tryz.prog 43 #[(str s1)] w0 fun e w => e = .returned (vb r) ∧ Ext w0 w ∧ AllCl [] F w := by
 refine enterK (l := [(str s1)]) Tryz.func43 rfl Tryz.ntmps43 rfl ?_
 have hI := Bun.start hF hc
 clear hc
 rw [m_base_Name] at h
 refine sr ?_
 refine sac ?_
 refine nk ?_
 refine c_seq ?_
 refine sr ?_
 refine sm ?_
 refine sq (y_lens rfl Tryz.underlying9 et) ?_
 refine sq (y_lss rfl et ev_const) ?_
 refine sm ?_
 refine s_gval (g_false rfl rfl rfl rfl) rfl (fun hc => (y_move rfl et)) ?_
 refine s_gval (g_false rfl rfl rfl rfl) rfl (fun hc => (y_lens rfl Tryz.underlying9 (ev_gv et hc))) ?_
 refine s_gval (g_false rfl rfl rfl rfl) rfl (fun hc => (y_gtr rfl (ev_gv et hc) ev_const)) ?_
 refine sq (y_or rfl et et) ?_
 refine sm ?_
 obtain ⟨r1, hx1, h⟩ := bnd_some h
 replace hx1 := gd_some hx1
 refine s_gcallS (β := (Option Addr) × Nat) (fun x => (vs (x.1) r1.length (x.2))) (fun x w' => AllCl [Cl.sl cStr (x.1) (x.2) r1] (Dj F noM) w') (g_false rfl rfl rfl rfl) rfl (fun hc => (r_callF (vs := []) rfl ok_90 trivial)) (fun hc => (c_base_Words (Dj F noM) w0 hI.lt trivial r1 (hx1 hc)).mono fun _ _ ⟨a1, c1, k1_, k2_, k3_⟩ => ⟨(a1, c1), k1_, k2_, k3_⟩) ?_
 rintro ⟨a1, c1⟩ w1 hx2 hl1; replace hI := hI.ext hx2
 have hI := hI.add (c := Cl.gsl (!((decide ((s1.length : Int) < 1)) || (decide (16 < (s1.length : Int))))) cStr a1 c1 r1) (fun hc => (hl1 hc).1)
 refine s_gval (g_false rfl rfl rfl rfl) rfl (fun hc => (y_move rfl et)) ?_
 obtain ⟨r2, hx3, h⟩ := bnd_some h
 replace hx3 := gd_some hx3
 refine s_gcallU (v := (vb r2)) (g_false rfl rfl rfl rfl) rfl (fun hc => (r_callF (vs := [(vs a1 r1.length c1), (str s1)]) rfl ok_89 ⟨(ev_gv et hc), ⟨(ev_gv et hc), trivial⟩⟩)) (fun hc => (c_base_Has (Dj F noM) w1 hI.lt r1 s1 a1 c1 ⟨(hI.get .z hc), trivial⟩ r2 (hx3 hc)).mono fun _ _ k => ⟨k.1, k.2.1⟩) ?_
 intro w2 hx4; replace hI := hI.ext hx4
 refine sq (y_or rfl et et) ?_
 refine nk ?_
 refine c_cond (b := ((decide ((s1.length : Int) < 1)) || (decide (16 < (s1.length : Int)))) || r2) et (fun hb => ?_) (fun hb => ?_)
 ·replace h := ite_t hb h
  refine sr ?_
  refine sac ?_
  refine nk ?_
  refine c_ret ?_
  obtain rfl := some_inj h
  exact q_ret (vs := [(vb false)]) Tryz.results43 ⟨ev_tmp rfl rfl, trivial⟩ ⟨rfl, hI.ext0, hI.fin trivial⟩
 ·replace h := ite_f hb h
  refine c_skip ?_
  refine k_same ?_
  refine c_seq ?_
  refine sr ?_
  refine sac ?_
  refine nk ?_
  refine c_block ?_
  refine c_loop (α := Nat × Int) (fun x => fun w => ∃ C, Bun noM F w0 C w [] [] ∧ m_base_Name_l1 s1 (x.1) (x.2) = some r) (fun x _ => x.1) (fun x => [(0, (str s1)), (3, (vi (x.2)))]) (fu, 0) ⟨_, hI.arr .n trivial, h⟩ ⟨rfl, rfl, trivial⟩ ?_
  clear h hI; rintro ⟨fuel1, i1⟩ w3 ⟨c2, hI, h⟩
  dsimp only at hI h
  rcases fuel1 with _ | fuel1
  ·rw [m_base_Name_l1] at h; cases h
  rw [m_base_Name_l1] at h
  refine c_sub (e := [(0, (str s1)), (3, (vi i1))]) ⟨rfl, rfl, trivial⟩ ?_
  refine c_seq ?_
  refine sr ?_
  refine sm ?_
  refine sm ?_
  refine sq (y_lens rfl Tryz.underlying9 et) ?_
  refine sq (y_lss rfl et et) ?_
  refine nk ?_
  refine c_cond (b := decide (i1 < (s1.length : Int))) et (fun hb => ?_) (fun hb => ?_)
  ·replace h := ite_t hb h
   refine c_skip ?_
   refine k_same ?_
   refine c_seq ?_
   refine c_block ?_
   refine sr ?_
   refine sm ?_
   refine sm ?_
   obtain ⟨b1, hx5, h⟩ := bnd_some h
   refine sq (y_satl rfl Tryz.underlying9 et et hx5) ?_
   refine sa ?_
   refine nk ?_
   refine sr ?_
   refine sm ?_
   refine sq (y_geq rfl et ev_const) ?_
   refine sm ?_
   refine s_gval (g_true rfl rfl rfl rfl) rfl (fun hc => (y_move rfl et)) ?_
   refine s_gval (g_true rfl rfl rfl rfl) rfl (fun hc => (y_leq rfl (ev_gv et hc) ev_const)) ?_
   refine sq (y_and rfl et et) ?_
   refine sm ?_
   refine s_gval (g_false rfl rfl rfl rfl) rfl (fun hc => (y_move rfl et)) ?_
   refine s_gval (g_false rfl rfl rfl rfl) rfl (fun hc => (y_gtr rfl (ev_gv et hc) ev_const)) ?_
   refine s_gval (g_false rfl rfl rfl rfl) rfl (fun hc => (y_move rfl (ev_gv et hc))) ?_
   refine s_gval (g_true2 rfl rfl rfl rfl) rfl (fun hc => (y_move rfl et)) ?_
   refine s_gval (g_true2 rfl rfl rfl rfl) rfl (fun hc => (y_geq rfl (ev_gv et hc) ev_const)) ?_
   refine s_gval (g_true2 rfl rfl rfl rfl) rfl (fun hc => (y_move rfl (ev_gv et hc))) ?_
   refine s_gval (g_true2 rfl rfl rfl rfl) rfl (fun hc => (y_move rfl et)) ?_
   refine s_gval (g_true2 rfl rfl rfl rfl) rfl (fun hc => (y_leq rfl (ev_gv et hc) ev_const)) ?_
   refine s_gval (g_true2 rfl rfl rfl rfl) rfl (fun hc => (y_and2 rfl hc et et)) ?_
   refine s_gval (g_true2 rfl rfl rfl rfl) rfl (fun hc => (y_move rfl (ev_gv et hc))) ?_
   refine s_gval (g_false2 rfl rfl rfl rfl) rfl (fun hc => (y_move rfl et)) ?_
   refine s_gval (g_false2 rfl rfl rfl rfl) rfl (fun hc => (y_eql rfl (ev_gv et hc) ev_const)) ?_
   refine s_gval (g_true2 rfl rfl rfl rfl) rfl (fun hc => (y_or2 rfl hc et et)) ?_
   refine s_gval (g_false rfl rfl rfl rfl) rfl (fun hc => (y_and2 rfl hc et et)) ?_
   refine sq (y_or rfl et et) ?_
   refine sq (y_not rfl et) ?_
   refine s_nil ?_
   refine k_next (e := [(0, (str s1)), (3, (vi i1)), (49, (vb (!(((decide (97 ≤ b1)) && (decide (b1 ≤ 122))) || ((decide (0 < i1)) && (((decide (48 ≤ b1)) && (decide (b1 ≤ 57))) || (decide (b1 = 95))))))))]) ⟨rfl, rfl, rfl, trivial⟩ ?_
   refine c_cond (b := !(((decide (97 ≤ b1)) && (decide (b1 ≤ 122))) || ((decide (0 < i1)) && (((decide (48 ≤ b1)) && (decide (b1 ≤ 57))) || (decide (b1 = 95)))))) et (fun hb => ?_) (fun hb => ?_)
   ·replace h := ite_t hb h
    refine sr ?_
    refine sac ?_
    refine nk ?_
    refine c_ret ?_
    obtain rfl := some_inj h
    exact q_ret (vs := [(vb false)]) Tryz.results43 ⟨ev_tmp rfl rfl, trivial⟩ ⟨rfl, hI.ext0, hI.fin trivial⟩
   ·replace h := ite_f hb h
    refine c_skip ?_
    refine k_same ?_
    refine c_region rfl ?_
    refine sm ?_
    refine sq (y_add rfl et ev_const) ?_
    refine sa ?_
    refine s_nil ?_
    exact k_loop (fuel1, wi64 (i1 + 1)) ⟨rfl, rfl, trivial⟩ ⟨_, hI.arr .n trivial, h⟩ (Nat.lt_succ_self _)
  ·replace h := ite_f hb h
   refine c_exit ?_
   refine k_in ?_
   refine k_same ?_
   refine sr ?_
   refine sac ?_
   refine nk ?_
   refine c_ret ?_
   obtain rfl := some_inj h
   exact q_ret (vs := [(vb true)]) Tryz.results43 ⟨ev_tmp rfl rfl, trivial⟩ ⟨rfl, hI.ext0, hI.fin trivial⟩
set_option maxRecDepth 100000 in
set_option maxHeartbeats 4000000 in
theorem c_base_LinRight (F : NP) (w0 : World) (hF : ∀ k, F k → k < w0.heap.size) (l1 : GLin) (a1 : Option Addr) (c1 : Nat) (hc : AllCl [Cl.sl cGMono a1 c1 l1.L] F w0) (r : Bool)
  (h : m_base_LinRight l1 = some r) :
  Calls Tryz.prog 40 #[(Value.agg #[(vi l1.K), (vs a1 l1.L.length c1)])] w0 fun e w => e = .returned (vb r) ∧ Ext w0 w ∧ AllCl [] F w := by
 refine enterK (l := [(Value.agg #[(vi l1.K), (vs a1 l1.L.length c1)])]) Tryz.func40 rfl Tryz.ntmps40 rfl ?_
 have hI := Bun.start hF hc
 clear hc
 rw [m_base_LinRight] at h
 refine sr ?_
 refine l_box (v := (Value.agg #[(vi l1.K), (vs a1 l1.L.length c1)])) (cs := #[(vi l1.K), (vs a1 l1.L.length c1)]) hI gn rfl rfl et rfl ?_
 clear hI; intro b1 c2 w1 hI
 obtain ⟨c3, hI⟩ := hI.relBox .z
 refine sac ?_
 refine nk ?_
 refine c_seq ?_
 refine sr ?_
 refine sac ?_
 refine nk ?_
 refine c_block ?_
 refine c_loop (α := Nat × Int) (fun x => fun w => ∃ C, Bun noM F w0 C w [] [Cl.blk b1 29 #[(vi l1.K), (vs a1 l1.L.length c1)], Cl.sl cGMono a1 c1 l1.L] ∧ m_base_LinRight_l1 l1 (x.1) (x.2) = some r) (fun x _ => x.1) (fun x => [(1, (vp b1 0)), (3, (vi (x.2)))]) (fu, 0) ⟨_, hI.arr .n ⟨.z, (.s .z), trivial⟩, h⟩ ⟨rfl, rfl, trivial⟩ ?_
 clear h hI; rintro ⟨fuel1, i1⟩ w2 ⟨c4, hI, h⟩
 dsimp only at hI h
 rcases fuel1 with _ | fuel1
 ·rw [m_base_LinRight_l1] at h; cases h
 rw [m_base_LinRight_l1] at h
 refine c_sub (e := [(1, (vp b1 0)), (3, (vi i1))]) ⟨rfl, rfl, trivial⟩ ?_
 refine c_seq ?_
 refine sr ?_
 refine sm ?_
 refine sq (y_fieldAddr rfl et Tryz.underlying29 rfl size_27 rfl) ?_
 refine sq (y_load1 (v := (vs a1 l1.L.length c1)) rfl et Tryz.underlying27 rfl (hI.kblk (l := [(vs a1 l1.L.length c1)]) .z rfl).1) ?_
 refine sq (y_lenl rfl Tryz.underlying27 et) ?_
 refine sq (y_lss rfl et et) ?_
 refine nk ?_
 refine c_cond (b := decide (i1 < (l1.L.length : Int))) et (fun hb => ?_) (fun hb => ?_)
 ·replace h := ite_t hb h
  refine c_skip ?_
  refine k_same ?_
  refine c_seq ?_
  refine c_block ?_
  refine c_seq ?_
  refine c_drawX [] false (.c (0, .q) (.c (1, .q) (.c (2, .q) (.c (3, .q) (.c (4, .q) (.c (5, .q) (.c (6, .s) (.c (7, .q) (.c (8, .q) (.c (9, .q) (.c (10, .q) (.c (11, .q) (.c (12, .q) (.c (13, .q) (.c (14, .q) (.c (15, .q) (.c (16, .q) (.c (17, .q) (.c (18, .q) (.c (19, .q) (.c (20, .q) (.c (21, .q) (.c (22, .q) (.c (23, .q) (.c (24, .q) (.c (25, .q) (.c (26, .q) (.c (27, .q) (.c (28, .q) (.c (29, .q) (.c (30, .q) (.c (31, .q) (.c (32, .q) (.c (33, .q) (.c (34, .q) (.c (35, .q) (.c (36, .q) .n))))))))))))))))))))))))))))))))))))) hI (by kernel_rfl) (by kernel_rfl) ?_
  clear hI; intro w3 hI
  refine a_q rfl gn rfl (fun w' => (y_fieldAddr rfl et Tryz.underlying29 rfl size_27 rfl)) ?_
  refine a_read rfl gn rfl (fun w' hw' => (y_load1 (v := (vs a1 l1.L.length c1)) rfl et Tryz.underlying27 rfl ((hI.kblk (l := [(vs a1 l1.L.length c1)]) .z rfl).at_ (SX.any rfl hw')))) (by kernel_rfl) ?_
  refine a_q rfl gn rfl (fun w' => (y_move rfl et)) ?_
  obtain ⟨e1, hx1, h⟩ := bnd_some h
  obtain ⟨ad1, cs1, hA1, hr1, hq1⟩ := hI.clat (.s .z) hx1
  obtain rfl : cs1 = [(str e1.Name), (vi e1.By)] := hr1
  refine a_q rfl gn rfl (fun w' => (y_indexAddr rfl Tryz.underlying27 size_112 et et (lat_bd hx1) hA1)) ?_
  refine a_q rfl gn rfl (fun w' => (y_fieldAddr rfl et Tryz.underlying112 rfl size_9 rfl)) ?_
  refine a_read rfl gn rfl (fun w' hw' => (y_load1 (v := (str e1.Name)) rfl et Tryz.underlying9 rfl ((CA.part hq1 rfl).at_ (SX.any rfl hw')))) (by kernel_rfl) ?_
  obtain ⟨r1, hx2, h⟩ := bnd_some h
  refine la_call rfl gn rfl (r_callF (vs := [(str e1.Name)]) rfl ok_43 ⟨et, trivial⟩) (Calls.mono (c_base_Name (Dj F c4) w3 hI.lt e1.Name trivial r1 hx2) ?_)
  rintro _ w4 ⟨rfl, hx3, hl1⟩
  refine ⟨_, rfl, hx3, ?_⟩
  replace hI := (hI.ext hx3)
  refine a_q rfl gn rfl (fun w' => (y_not rfl et)) ?_
  refine a_q rfl gn rfl (fun w' => (y_move rfl et)) ?_
  refine a_gval rfl (g_false rfl rfl rfl rfl) rfl (fun hc => fun w' => (y_fieldAddr rfl et Tryz.underlying29 rfl size_27 rfl)) ?_
  refine a_gread rfl (g_false rfl rfl rfl rfl) rfl (fun hc => fun w' hw' => (y_load1 (v := (vs a1 l1.L.length c1)) rfl (ev_gv et hc) Tryz.underlying27 rfl ((hI.kblk (l := [(vs a1 l1.L.length c1)]) .z rfl).at_ (SX.any rfl hw')))) (by kernel_rfl) ?_
  refine a_gval rfl (g_false rfl rfl rfl rfl) rfl (fun hc => fun w' => (y_move rfl et)) ?_
  obtain ⟨e2, hx4, h⟩ := bnd_some h
  replace hx4 := gd_some hx4
  obtain ⟨ad2, cs2, hq2⟩ := hI.gclat (.s .z) hx4
  have hq3 : (!(!r1)) = true → CA (Dj F c4) w4 (ad2.add (Int.toNat i1 * 2)) [(str e2.Name), (vi e2.By)] := fun hc => by have k := hq2 hc; have e : cs2 = _ := k.2.1; rw [← e]; exact k.2.2
  refine a_gval rfl (g_false rfl rfl rfl rfl) rfl (fun hc => fun w' => (y_indexAddr rfl Tryz.underlying27 size_112 (ev_gv et hc) (ev_gv et hc) (lat_bd (hx4 hc)) (hq2 hc).1)) ?_
  refine a_gval rfl (g_false rfl rfl rfl rfl) rfl (fun hc => fun w' => (y_fieldAddr rfl (ev_gv et hc) Tryz.underlying112 rfl size_2 rfl)) ?_
  refine a_gread rfl (g_false rfl rfl rfl rfl) rfl (fun hc => fun w' hw' => (y_load1 (v := (vi e2.By)) rfl (ev_gv et hc) Tryz.underlying2 rfl ((CA.part (hq3 hc) rfl).at_ (SX.any rfl hw')))) (by kernel_rfl) ?_
  refine a_gval rfl (g_false rfl rfl rfl rfl) rfl (fun hc => fun w' => (y_eql rfl (ev_gv et hc) ev_const)) ?_
  refine a_q rfl gn rfl (fun w' => (y_or rfl et et)) ?_
  refine a_q rfl gn rfl (fun w' => (y_move rfl et)) ?_
  refine a_gval rfl (g_false rfl rfl rfl rfl) rfl (fun hc => fun w' => (y_move rfl et)) ?_
  refine a_gval rfl (g_false rfl rfl rfl rfl) rfl (fun hc => fun w' => (y_gtr rfl (ev_gv et hc) ev_const)) ?_
  refine a_gval rfl (g_false rfl rfl rfl rfl) rfl (fun hc => fun w' => (y_move rfl (ev_gv et hc))) ?_
  refine a_gval rfl (g_true2 rfl rfl rfl rfl) rfl (fun hc => fun w' => (y_fieldAddr rfl et Tryz.underlying29 rfl size_27 rfl)) ?_
  refine a_gread rfl (g_true2 rfl rfl rfl rfl) rfl (fun hc => fun w' hw' => (y_load1 (v := (vs a1 l1.L.length c1)) rfl (ev_gv et hc) Tryz.underlying27 rfl ((hI.kblk (l := [(vs a1 l1.L.length c1)]) .z rfl).at_ (SX.any rfl hw')))) (by kernel_rfl) ?_
  refine a_gval rfl (g_true2 rfl rfl rfl rfl) rfl (fun hc => fun w' => (y_move rfl et)) ?_
  refine a_gval rfl (g_true2 rfl rfl rfl rfl) rfl (fun hc => fun w' => (y_sub rfl (ev_gv et hc) ev_const)) ?_
  obtain ⟨e3, hx5, h⟩ := bnd_some h
  replace hx5 := gd_some hx5
  obtain ⟨ad3, cs3, hq4⟩ := hI.gclat (.s .z) hx5
  have hq5 : ((!((!r1) || (decide (e2.By = 0)))) && (decide (0 < i1))) = true → CA (Dj F c4) w4 (ad3.add (Int.toNat (wi64 (i1 - 1)) * 2)) [(str e3.Name), (vi e3.By)] := fun hc => by have k := hq4 hc; have e : cs3 = _ := k.2.1; rw [← e]; exact k.2.2
  refine a_gval rfl (g_true2 rfl rfl rfl rfl) rfl (fun hc => fun w' => (y_indexAddr rfl Tryz.underlying27 size_112 (ev_gv et hc) (ev_gv et hc) (lat_bd (hx5 hc)) (hq4 hc).1)) ?_
  refine a_gval rfl (g_true2 rfl rfl rfl rfl) rfl (fun hc => fun w' => (y_fieldAddr rfl (ev_gv et hc) Tryz.underlying112 rfl size_9 rfl)) ?_
  refine a_gread rfl (g_true2 rfl rfl rfl rfl) rfl (fun hc => fun w' hw' => (y_load1 (v := (str e3.Name)) rfl (ev_gv et hc) Tryz.underlying9 rfl ((CA.part (hq5 hc) rfl).at_ (SX.any rfl hw')))) (by kernel_rfl) ?_
  refine a_gval rfl (g_true2 rfl rfl rfl rfl) rfl (fun hc => fun w' => (y_fieldAddr rfl et Tryz.underlying29 rfl size_27 rfl)) ?_
  refine a_gread rfl (g_true2 rfl rfl rfl rfl) rfl (fun hc => fun w' hw' => (y_load1 (v := (vs a1 l1.L.length c1)) rfl (ev_gv et hc) Tryz.underlying27 rfl ((hI.kblk (l := [(vs a1 l1.L.length c1)]) .z rfl).at_ (SX.any rfl hw')))) (by kernel_rfl) ?_
  refine a_gval rfl (g_true2 rfl rfl rfl rfl) rfl (fun hc => fun w' => (y_move rfl et)) ?_
  obtain ⟨e4, hx6, h⟩ := bnd_some h
  replace hx6 := gd_some hx6
  obtain ⟨ad4, cs4, hq6⟩ := hI.gclat (.s .z) hx6
  have hq7 : ((!((!r1) || (decide (e2.By = 0)))) && (decide (0 < i1))) = true → CA (Dj F c4) w4 (ad4.add (Int.toNat i1 * 2)) [(str e4.Name), (vi e4.By)] := fun hc => by have k := hq6 hc; have e : cs4 = _ := k.2.1; rw [← e]; exact k.2.2
  refine a_gval rfl (g_true2 rfl rfl rfl rfl) rfl (fun hc => fun w' => (y_indexAddr rfl Tryz.underlying27 size_112 (ev_gv et hc) (ev_gv et hc) (lat_bd (hx6 hc)) (hq6 hc).1)) ?_
  refine a_gval rfl (g_true2 rfl rfl rfl rfl) rfl (fun hc => fun w' => (y_fieldAddr rfl (ev_gv et hc) Tryz.underlying112 rfl size_9 rfl)) ?_
  refine a_gread rfl (g_true2 rfl rfl rfl rfl) rfl (fun hc => fun w' hw' => (y_load1 (v := (str e4.Name)) rfl (ev_gv et hc) Tryz.underlying9 rfl ((CA.part (hq7 hc) rfl).at_ (SX.any rfl hw')))) (by kernel_rfl) ?_
  refine a_gval rfl (g_true2 rfl rfl rfl rfl) rfl (fun hc => fun w' => (y_ges rfl (ev_gv et hc) (ev_gv et hc))) ?_
  refine a_gval rfl (g_false rfl rfl rfl rfl) rfl (fun hc => fun w' => (y_and2 rfl hc et et)) ?_
  refine a_q rfl gn rfl (fun w' => (y_or rfl et et)) ?_
  refine a_nil ?_
  refine k_next (e := [(1, (vp b1 0)), (3, (vi i1)), (47, (vb (((!r1) || (decide (e2.By = 0))) || ((decide (0 < i1)) && (!Op.bytesLess e3.Name e4.Name)))))]) ⟨rfl, rfl, rfl, trivial⟩ ?_
  refine c_cond (b := ((!r1) || (decide (e2.By = 0))) || ((decide (0 < i1)) && (!Op.bytesLess e3.Name e4.Name))) et (fun hb => ?_) (fun hb => ?_)
  ·replace h := ite_t hb h
   refine sr ?_
   refine sac ?_
   refine nk ?_
   refine c_ret ?_
   obtain rfl := some_inj h
   exact q_ret (vs := [(vb false)]) Tryz.results40 ⟨ev_tmp rfl rfl, trivial⟩ ⟨rfl, hI.ext0, hI.fin trivial⟩
  ·replace h := ite_f hb h
   refine c_skip ?_
   refine k_same ?_
   refine c_region rfl ?_
   refine sm ?_
   refine sq (y_add rfl et ev_const) ?_
   refine sa ?_
   refine s_nil ?_
   exact k_loop (fuel1, wi64 (i1 + 1)) ⟨rfl, rfl, trivial⟩ ⟨_, hI.arr .n ⟨.z, (.s .z), trivial⟩, h⟩ (Nat.lt_succ_self _)
 ·replace h := ite_f hb h
  refine c_exit ?_
  refine k_in ?_
  refine k_same ?_
  refine sr ?_
  refine sac ?_
  refine nk ?_
  refine c_ret ?_
  obtain rfl := some_inj h
  exact q_ret (vs := [(vb true)]) Tryz.results40 ⟨ev_tmp rfl rfl, trivial⟩ ⟨rfl, hI.ext0, hI.fin trivial⟩
set_option maxRecDepth 100000 in
set_option maxHeartbeats 4000000 in
theorem c_ref15_valid (F : NP) (w0 : World) (hF : ∀ k, F k → k < w0.heap.size) (l1 : List GLin) (a1 : Option Addr) (c1 : Nat) (hc : AllCl [Cl.sl cGLin a1 c1 l1] F w0) (r : Bool)
  (h : m_ref15_valid l1 = some r) :
  Calls Tryz.prog 41 #[(vs a1 l1.length c1)] w0 fun e w => e = .returned (vb r) ∧ Ext w0 w ∧ AllCl [] F w := by
 refine enterK (l := [(vs a1 l1.length c1)]) Tryz.func41 rfl Tryz.ntmps41 rfl ?_
 have hI := Bun.start hF hc
 clear hc
 rw [m_ref15_valid] at h
 refine sr ?_
 refine sac ?_
 refine nk ?_
 refine c_seq ?_
 refine sr ?_
 refine sac ?_
 refine nk ?_
 refine c_block ?_
 refine c_loop (α := Nat × Int) (fun x => fun w => ∃ C, Bun noM F w0 C w [] [Cl.sl cGLin a1 c1 l1] ∧ m_ref15_valid_l1 l1 (x.1) (x.2) = some r) (fun x _ => x.1) (fun x => [(0, (vs a1 l1.length c1)), (3, (vi (x.2)))]) (fu, 0) ⟨_, hI.arr .n ⟨.z, trivial⟩, h⟩ ⟨rfl, rfl, trivial⟩ ?_
 clear h hI; rintro ⟨fuel1, i1⟩ w1 ⟨c2, hI, h⟩
 dsimp only at hI h
 rcases fuel1 with _ | fuel1
 ·rw [m_ref15_valid_l1] at h; cases h
 rw [m_ref15_valid_l1] at h
 refine c_sub (e := [(0, (vs a1 l1.length c1)), (3, (vi i1))]) ⟨rfl, rfl, trivial⟩ ?_
 refine c_seq ?_
 refine sr ?_
 refine sm ?_
 refine sm ?_
 refine sq (y_lenl rfl Tryz.underlying30 et) ?_
 refine sq (y_lss rfl et et) ?_
 refine nk ?_
 refine c_cond (b := decide (i1 < (l1.length : Int))) et (fun hb => ?_) (fun hb => ?_)
 ·replace h := ite_t hb h
  refine c_skip ?_
  refine k_same ?_
  refine c_seq ?_
  refine c_block ?_
  refine sr ?_
  refine sm ?_
  refine sm ?_
  obtain ⟨e1, hx1, h⟩ := bnd_some h
  obtain ⟨ad1, cs1, hA1, hr1, hq1⟩ := hI.clat .z hx1
  obtain ⟨a2, c3, rfl, hf1⟩ := hr1
  have hI := hI.add (c := Cl.sl cGMono a2 c3 e1.L) hf1
  refine sq (y_indexAddr rfl Tryz.underlying30 size_29 et et (lat_bd hx1) hA1) ?_
  refine sq (y_loadN (l := [(vi e1.K), (vs a2 e1.L.length c3)]) rfl et Tryz.underlying29 rfl size_29 hq1.1) ?_
  obtain ⟨r1, hx2, h⟩ := bnd_some h
  refine s_call gn rfl (r_callF (vs := [(Value.agg #[(vi e1.K), (vs a2 e1.L.length c3)])]) rfl ok_40 ⟨et, trivial⟩) (Calls.mono (c_base_LinRight (Dj F c2) w1 hI.lt e1 a2 c3 ⟨(hI.get .z), trivial⟩ r1 hx2) ?_)
  rintro _ w2 ⟨rfl, hx3, hl1⟩
  refine ⟨_, rfl, ?_⟩
  replace hI := (hI.ext hx3)
  refine sq (y_not rfl et) ?_
  refine nk ?_
  refine c_cond (b := !r1) et (fun hb => ?_) (fun hb => ?_)
  ·replace h := ite_t hb h
   refine sr ?_
   refine sac ?_
   refine nk ?_
   refine c_ret ?_
   obtain rfl := some_inj h
   exact q_ret (vs := [(vb false)]) Tryz.results41 ⟨ev_tmp rfl rfl, trivial⟩ ⟨rfl, hI.ext0, hI.fin trivial⟩
  ·replace h := ite_f hb h
   refine c_skip ?_
   refine k_same ?_
   refine c_region rfl ?_
   refine sm ?_
   refine sq (y_add rfl et ev_const) ?_
   refine sa ?_
   refine s_nil ?_
   exact k_loop (fuel1, wi64 (i1 + 1)) ⟨rfl, rfl, trivial⟩ ⟨_, hI.arr .n ⟨(.s .z), trivial⟩, h⟩ (Nat.lt_succ_self _)
 ·replace h := ite_f hb h
  refine c_exit ?_
  refine k_in ?_
  refine k_same ?_
  refine sr ?_
  refine sac ?_
  refine nk ?_
  refine c_ret ?_
  obtain rfl := some_inj h
  exact q_ret (vs := [(vb true)]) Tryz.results41 ⟨ev_tmp rfl rfl, trivial⟩ ⟨rfl, hI.ext0, hI.fin trivial⟩
set_option maxRecDepth 100000 in
set_option maxHeartbeats 4000000 in
theorem c_ref05_Validate (F : NP) (w0 : World) (hF : ∀ k, F k → k < w0.heap.size) (l1 : GLin) (a1 : Option Addr) (c1 : Nat) (hc : AllCl [Cl.sl cGMono a1 c1 l1.L] F w0) (r : Int)
  (h : m_ref05_Validate l1 = some r) :
  Calls Tryz.prog 85 #[(Value.agg #[(vi l1.K), (vs a1 l1.L.length c1)])] w0 fun e w => e = .returned (vi r) ∧ Ext w0 w ∧ AllCl [] F w := by
 refine enterK (l := [(Value.agg #[(vi l1.K), (vs a1 l1.L.length c1)])]) Tryz.func85 rfl Tryz.ntmps85 rfl ?_
 have hI := Bun.start hF hc
 clear hc
 rw [m_ref05_Validate] at h
 refine sr ?_
 refine l_box (v := (Value.agg #[(vi l1.K), (vs a1 l1.L.length c1)])) (cs := #[(vi l1.K), (vs a1 l1.L.length c1)]) hI gn rfl rfl et rfl ?_
 clear hI; intro b1 c2 w1 hI
 obtain ⟨c3, hI⟩ := hI.relBox .z
 refine sac ?_
 refine nk ?_
 refine c_seq ?_
 refine sr ?_
 refine sq (y_loadN (l := [(vi l1.K), (vs a1 l1.L.length c1)]) rfl et Tryz.underlying29 rfl size_29 (hI.kblk (l := [(vi l1.K), (vs a1 l1.L.length c1)]) .z rfl).1) ?_
 obtain ⟨r1, hx1, h⟩ := bnd_some h
 refine s_call gn rfl (r_callF (vs := [(Value.agg #[(vi l1.K), (vs a1 l1.L.length c1)])]) rfl ok_40 ⟨et, trivial⟩) (Calls.mono (c_base_LinRight (Dj F c3) w1 hI.lt l1 a1 c1 ⟨(hI.get (.s .z)), trivial⟩ r1 hx1) ?_)
 rintro _ w2 ⟨rfl, hx2, hl1⟩
 refine ⟨_, rfl, ?_⟩
 replace hI := (hI.ext hx2)
 refine sq (y_not rfl et) ?_
 refine nk ?_
 refine c_cond (b := !r1) et (fun hb => ?_) (fun hb => ?_)
 ·replace h := ite_t hb h
  refine sr ?_
  refine sac ?_
  refine nk ?_
  refine c_ret ?_
  obtain rfl := some_inj h
  exact q_ret (vs := [(vi 1)]) Tryz.results85 ⟨ev_tmp rfl rfl, trivial⟩ ⟨rfl, hI.ext0, hI.fin trivial⟩
 ·replace h := ite_f hb h
  refine c_skip ?_
  refine k_same ?_
  refine sr ?_
  refine sac ?_
  refine nk ?_
  refine c_ret ?_
  obtain rfl := some_inj h
  exact q_ret (vs := [(vi 0)]) Tryz.results85 ⟨ev_tmp rfl rfl, trivial⟩ ⟨rfl, hI.ext0, hI.fin trivial⟩
set_option maxRecDepth 100000 in
set_option maxHeartbeats 4000000 in
theorem c_ref05_size (F : NP) (w0 : World) (hF : ∀ k, F k → k < w0.heap.size) (n1 : Int) (hc : AllCl [] F w0) (r : Int)
  (h : m_ref05_size n1 = some r) :
  Calls Tryz.prog 86 #[(vi n1)] w0 fun e w => e = .returned (Value.int .u64 r) ∧ Ext w0 w ∧ AllCl [] F w := by
 refine enterK (l := [(vi n1)]) Tryz.func86 rfl Tryz.ntmps86 rfl ?_
 have hI := Bun.start hF hc
 clear hc
 rw [m_ref05_size] at h
 refine sr ?_
 refine sac ?_
 refine nk ?_
 refine c_seq ?_
 refine sr ?_
 refine sm ?_
 refine sq (y_lss rfl et ev_const) ?_
 refine nk ?_
 refine c_cond (b := decide (n1 < 0)) et (fun hb => ?_) (fun hb => ?_)
 ·replace h := ite_t hb h
  refine sr ?_
  refine sm ?_
  refine sq (y_add rfl et ev_const) ?_
  refine sq (y_neg rfl et) ?_
  refine sq (y_conv rfl (by rw [Tryz.underlying2]; rfl) Tryz.underlying109 et) ?_
  refine sq (y_add rfl et ev_const) ?_
  refine sa ?_
  refine nk ?_
  refine c_ret ?_
  obtain rfl := some_inj h
  exact q_ret (vs := [(Value.int .u64 (wu64 ((wu64 (wi64 (-(wi64 (n1 + 1))))) + 1)))]) Tryz.results86 ⟨ev_tmp rfl rfl, trivial⟩ ⟨rfl, hI.ext0, hI.fin trivial⟩
 ·replace h := ite_f hb h
  refine c_skip ?_
  refine k_same ?_
  refine sr ?_
  refine sm ?_
  refine sq (y_conv rfl (by rw [Tryz.underlying2]; rfl) Tryz.underlying109 et) ?_
  refine sa ?_
  refine nk ?_
  refine c_ret ?_
  obtain rfl := some_inj h
  exact q_ret (vs := [(Value.int .u64 (wu64 n1))]) Tryz.results86 ⟨ev_tmp rfl rfl, trivial⟩ ⟨rfl, hI.ext0, hI.fin trivial⟩
set_option maxRecDepth 100000 in
set_option maxHeartbeats 4000000 in
theorem c_ref05_digits (F : NP) (w0 : World) (hF : ∀ k, F k → k < w0.heap.size) (n1 : Int) (hc : AllCl [] F w0) (r : List UInt8)
  (h : m_ref05_digits n1 = some r) :
  Calls Tryz.prog 87 #[(Value.int .u64 n1)] w0 fun e w => e = .returned (str r) ∧ Ext w0 w ∧ AllCl [] F w := by
 refine enterK (l := [(Value.int .u64 n1)]) Tryz.func87 rfl Tryz.ntmps87 rfl ?_
 have hI := Bun.start hF hc
 clear hc
 rw [m_ref05_digits] at h
 refine sr ?_
 refine sac ?_
 refine nk ?_
 refine sr ?_
 refine sac ?_
 refine nk ?_
 refine c_block ?_
 refine c_loop (α := Nat × Int × (List UInt8)) (fun x => fun w => ∃ C, Bun noM F w0 C w [] [] ∧ m_ref05_digits_l1 (x.1) (x.2.1) (x.2.2) = some r) (fun x _ => x.1) (fun x => [(0, (Value.int .u64 (x.2.1))), (3, (str (x.2.2)))]) (fu, n1, ([] : List UInt8)) ⟨_, hI.arr .n trivial, h⟩ ⟨rfl, rfl, trivial⟩ ?_
 clear h hI; rintro ⟨fuel1, n2, s1⟩ w1 ⟨c1, hI, h⟩
 dsimp only at hI h
 rcases fuel1 with _ | fuel1
 ·rw [m_ref05_digits_l1] at h; cases h
 rw [m_ref05_digits_l1] at h
 refine c_sub (e := [(0, (Value.int .u64 n2)), (3, (str s1))]) ⟨rfl, rfl, trivial⟩ ?_
 refine c_block ?_
 refine sr ?_
 refine sm ?_
 refine sq (y_rem rfl et ev_const (by decide)) ?_
 refine sq (y_add rfl ev_const et) ?_
 refine sq (y_conv rfl (by rw [Tryz.underlying109]; rfl) Tryz.underlying5 et) ?_
 refine l_lit (c := (cInt .u8)) (xs := ([wu8 (wu64 (48 + (Int.tmod n2 10)))] : List Int)) (vs := [(0, (Value.int .u8 (wu8 (wu64 (48 + (Int.tmod n2 10))))))]) (cs := #[(Value.int .u8 (wu8 (wu64 (48 + (Int.tmod n2 10)))))]) (css := [[(Value.int .u8 (wu8 (wu64 (48 + (Int.tmod n2 10)))))]]) hI gn rfl rfl Tryz.underlying78 info_5 rfl ⟨rfl, et, trivial⟩ (by kernel_rfl) ⟨rfl, trivial⟩ rfl rfl rfl ?_
 clear hI; intro b1 c2 w2 hI
 refine sq (y_bytesStr rfl et Tryz.underlying78 Tryz.underlying9 Tryz.underlying5 (hI.rd .z)) ?_
 refine sm ?_
 obtain ⟨s2, hx1, h⟩ := bnd_some h
 refine sq (y_catl rfl et et hx1) ?_
 refine sa ?_
 refine nk ?_
 refine sr ?_
 refine sm ?_
 refine sq (y_quo rfl et ev_const (by decide)) ?_
 refine sa ?_
 refine nk ?_
 refine sr ?_
 refine sm ?_
 refine sq (y_eql rfl et ev_const) ?_
 refine nk ?_
 refine c_cond (b := decide (wu64 (Int.tdiv n2 10) = 0)) et (fun hb => ?_) (fun hb => ?_)
 ·replace h := ite_t hb h
  refine sr ?_
  refine sm ?_
  refine sa ?_
  refine nk ?_
  refine c_ret ?_
  obtain rfl := some_inj h
  exact q_ret (vs := [(str s2)]) Tryz.results87 ⟨ev_tmp rfl rfl, trivial⟩ ⟨rfl, hI.ext0, hI.fin trivial⟩
 ·replace h := ite_f hb h
  refine c_skip ?_
  exact k_loop (fuel1, wu64 (Int.tdiv n2 10), s2) ⟨rfl, rfl, trivial⟩ ⟨_, hI.arr .n trivial, h⟩ (Nat.lt_succ_self _)
set_option maxRecDepth 100000 in
set_option maxHeartbeats 4000000 in
theorem c_ref05_term (F : NP) (w0 : World) (hF : ∀ k, F k → k < w0.heap.size) (s1 : List UInt8) (negative1 : Bool) (t1 : List UInt8) (hc : AllCl [] F w0) (r : List UInt8)
  (h : m_ref05_term s1 negative1 t1 = some r) :
  Calls Tryz.prog 88 #[(str s1), (vb negative1), (str t1)] w0 fun e w => e = .returned (str r) ∧ Ext w0 w ∧ AllCl [] F w := by
 refine enterK (l := [(str s1), (vb negative1), (str t1)]) Tryz.func88 rfl Tryz.ntmps88 rfl ?_
 have hI := Bun.start hF hc
 clear hc
 rw [m_ref05_term] at h
 refine sr ?_
 refine sac ?_
 refine nk ?_
 refine c_seq ?_
 refine sr ?_
 refine sm ?_
 refine sq (y_eqs rfl et ev_const) ?_
 refine sm ?_
 refine s_gval (g_true rfl rfl rfl rfl) rfl (fun hc => (y_move rfl et)) ?_
 refine sq (y_and rfl et et) ?_
 refine nk ?_
 refine c_cond (b := (decide (s1 = ([] : List UInt8))) && negative1) et (fun hb => ?_) (fun hb => ?_)
 ·replace h := ite_t hb h
  refine sr ?_
  refine sm ?_
  obtain ⟨s2, hx1, h⟩ := bnd_some h
  refine sq (y_catl rfl ev_const et hx1) ?_
  refine sa ?_
  refine nk ?_
  refine c_ret ?_
  obtain rfl := some_inj h
  exact q_ret (vs := [(str s2)]) Tryz.results88 ⟨ev_tmp rfl rfl, trivial⟩ ⟨rfl, hI.ext0, hI.fin trivial⟩
 ·replace h := ite_f hb h
  refine c_skip ?_
  refine k_same ?_
  refine c_seq ?_
  refine sr ?_
  refine sm ?_
  refine sq (y_eqs rfl et ev_const) ?_
  refine nk ?_
  refine c_cond (b := decide (s1 = ([] : List UInt8))) et (fun hb => ?_) (fun hb => ?_)
  ·replace h := ite_t hb h
   refine sr ?_
   refine sm ?_
   refine sa ?_
   refine nk ?_
   refine c_ret ?_
   obtain rfl := some_inj h
   exact q_ret (vs := [(str t1)]) Tryz.results88 ⟨ev_tmp rfl rfl, trivial⟩ ⟨rfl, hI.ext0, hI.fin trivial⟩
  ·replace h := ite_f hb h
   refine c_skip ?_
   refine k_same ?_
   refine c_seq ?_
   refine sr ?_
   refine sm ?_
   refine nk ?_
   refine c_cond (b := negative1) et (fun hb => ?_) (fun hb => ?_)
   ·replace h := ite_t hb h
    refine sr ?_
    refine sm ?_
    obtain ⟨s3, hx2, h⟩ := bnd_some h
    refine sq (y_catl rfl et ev_const hx2) ?_
    refine sm ?_
    obtain ⟨s4, hx3, h⟩ := bnd_some h
    refine sq (y_catl rfl et et hx3) ?_
    refine sa ?_
    refine nk ?_
    refine c_ret ?_
    obtain rfl := some_inj h
    exact q_ret (vs := [(str s4)]) Tryz.results88 ⟨ev_tmp rfl rfl, trivial⟩ ⟨rfl, hI.ext0, hI.fin trivial⟩
   ·replace h := ite_f hb h
    refine c_skip ?_
    refine k_same ?_
    refine sr ?_
    refine sm ?_
    obtain ⟨s5, hx4, h⟩ := bnd_some h
    refine sq (y_catl rfl et ev_const hx4) ?_
    refine sm ?_
    obtain ⟨s6, hx5, h⟩ := bnd_some h
    refine sq (y_catl rfl et et hx5) ?_
    refine sa ?_
    refine nk ?_
    refine c_ret ?_
    obtain rfl := some_inj h
    exact q_ret (vs := [(str s6)]) Tryz.results88 ⟨ev_tmp rfl rfl, trivial⟩ ⟨rfl, hI.ext0, hI.fin trivial⟩
set_option maxRecDepth 100000 in
set_option maxHeartbeats 4000000 in
theorem c_ref05_Format (F : NP) (w0 : World) (hF : ∀ k, F k → k < w0.heap.size) (l1 : GLin) (a1 : Option Addr) (c1 : Nat) (hc : AllCl [Cl.sl cGMono a1 c1 l1.L] F w0) (r : List UInt8)
  (h : m_ref05_Format l1 = some r) :
  Calls Tryz.prog 42 #[(Value.agg #[(vi l1.K), (vs a1 l1.L.length c1)])] w0 fun e w => e = .returned (str r) ∧ Ext w0 w ∧ AllCl [] F w := by
 refine enterK (l := [(Value.agg #[(vi l1.K), (vs a1 l1.L.length c1)])]) Tryz.func42 rfl Tryz.ntmps42 rfl ?_
 have hI := Bun.start hF hc
 clear hc
 rw [m_ref05_Format] at h
 refine sr ?_
 refine l_box (v := (Value.agg #[(vi l1.K), (vs a1 l1.L.length c1)])) (cs := #[(vi l1.K), (vs a1 l1.L.length c1)]) hI gn rfl rfl et rfl ?_
 clear hI; intro b1 c2 w1 hI
 obtain ⟨c3, hI⟩ := hI.relBox .z
 refine sac ?_
 refine nk ?_
 refine c_seq ?_
 refine sr ?_
 refine sq (y_loadN (l := [(vi l1.K), (vs a1 l1.L.length c1)]) rfl et Tryz.underlying29 rfl size_29 (hI.kblk (l := [(vi l1.K), (vs a1 l1.L.length c1)]) .z rfl).1) ?_
 obtain ⟨r1, hx1, h⟩ := bnd_some h
 refine s_call gn rfl (r_callF (vs := [(Value.agg #[(vi l1.K), (vs a1 l1.L.length c1)])]) rfl ok_85 ⟨et, trivial⟩) (Calls.mono (c_ref05_Validate (Dj F c3) w1 hI.lt l1 a1 c1 ⟨(hI.get (.s .z)), trivial⟩ r1 hx1) ?_)
 rintro _ w2 ⟨rfl, hx2, hl1⟩
 refine ⟨_, rfl, ?_⟩
 replace hI := (hI.ext hx2)
 refine sq (y_neq rfl et ev_const) ?_
 refine nk ?_
 refine c_cond (b := !decide (r1 = 0)) et (fun hb => ?_) (fun hb => ?_)
 ·replace h := ite_t hb h
  refine sr ?_
  refine sac ?_
  refine nk ?_
  refine c_ret ?_
  obtain rfl := some_inj h
  exact q_ret (vs := [(str ([] : List UInt8))]) Tryz.results42 ⟨ev_tmp rfl rfl, trivial⟩ ⟨rfl, hI.ext0, hI.fin trivial⟩
 ·replace h := ite_f hb h
  refine c_skip ?_
  refine k_same ?_
  refine sr ?_
  refine sac ?_
  refine nk ?_
  refine c_join (α := (List UInt8)) (fun _ => ⟨62, []⟩) (fun x => [(1, (vp b1 0)), (3, (str x))]) (fun x => fun w => ∃ C, Bun noM F w0 C w [] [Cl.blk b1 29 #[(vi l1.K), (vs a1 l1.L.length c1)], Cl.sl cGMono a1 c1 l1.L] ∧ m_ref05_Format_j1 l1 x = some r) ?_ ?_
  ·clear h hI; rintro s1 w3 ⟨c4, hI, h⟩
   try dsimp only at hI h
   rw [m_ref05_Format_j1] at h
   refine c_sub (e := [(1, (vp b1 0)), (3, (str s1))]) ⟨rfl, rfl, trivial⟩ ?_
   refine c_seq ?_
   refine sr ?_
   refine sq (y_fieldAddr rfl et Tryz.underlying29 rfl size_2 rfl) ?_
   refine sq (y_load1 (v := (vi l1.K)) rfl et Tryz.underlying2 rfl (hI.kblk (l := [(vi l1.K)]) .z rfl).1) ?_
   refine sq (y_neq rfl et ev_const) ?_
   refine sm ?_
   refine s_gval (g_false rfl rfl rfl rfl) rfl (fun hc => (y_fieldAddr rfl et Tryz.underlying29 rfl size_27 rfl)) ?_
   refine s_gval (g_false rfl rfl rfl rfl) rfl (fun hc => (y_load1 (v := (vs a1 l1.L.length c1)) rfl (ev_gv et hc) Tryz.underlying27 rfl (hI.kblk (l := [(vs a1 l1.L.length c1)]) .z rfl).1)) ?_
   refine s_gval (g_false rfl rfl rfl rfl) rfl (fun hc => (y_lenl rfl Tryz.underlying27 (ev_gv et hc))) ?_
   refine s_gval (g_false rfl rfl rfl rfl) rfl (fun hc => (y_eql rfl (ev_gv et hc) ev_const)) ?_
   refine sq (y_or rfl et et) ?_
   refine nk ?_
   refine c_cond (b := (!decide (l1.K = 0)) || (decide ((l1.L.length : Int) = 0))) et (fun hb => ?_) (fun hb => ?_)
   ·replace h := ite_t hb h
    refine c_drawX [] false (.c (0, .q) (.c (1, .q) (.c (2, .q) (.c (3, .q) (.c (4, .q) (.c (5, .q) (.c (6, .s) (.c (7, .s) (.c (8, .s) (.c (9, .q) .n)))))))))) hI (by kernel_rfl) (by kernel_rfl) ?_
    clear hI; intro w4 hI
    refine a_q rfl gn rfl (fun w' => (y_move rfl et)) ?_
    refine a_q rfl gn rfl (fun w' => (y_fieldAddr rfl et Tryz.underlying29 rfl size_2 rfl)) ?_
    refine a_read rfl gn rfl (fun w' hw' => (y_load1 (v := (vi l1.K)) rfl et Tryz.underlying2 rfl ((hI.kblk (l := [(vi l1.K)]) .z rfl).at_ (SX.any rfl hw')))) (by kernel_rfl) ?_
    refine a_q rfl gn rfl (fun w' => (y_lss rfl et ev_const)) ?_
    refine a_q rfl gn rfl (fun w' => (y_fieldAddr rfl et Tryz.underlying29 rfl size_2 rfl)) ?_
    refine a_read rfl gn rfl (fun w' hw' => (y_load1 (v := (vi l1.K)) rfl et Tryz.underlying2 rfl ((hI.kblk (l := [(vi l1.K)]) .z rfl).at_ (SX.any rfl hw')))) (by kernel_rfl) ?_
    obtain ⟨r2, hx3, h⟩ := bnd_some h
    refine la_call rfl gn rfl (r_callF (vs := [(vi l1.K)]) rfl ok_86 ⟨et, trivial⟩) (Calls.mono (c_ref05_size (Dj F c4) w4 hI.lt l1.K trivial r2 hx3) ?_)
    rintro _ w5 ⟨rfl, hx4, hl2⟩
    refine ⟨_, rfl, hx4, ?_⟩
    replace hI := (hI.ext hx4)
    obtain ⟨r3, hx5, h⟩ := bnd_some h
    refine la_call rfl gn rfl (r_callF (vs := [(Value.int .u64 r2)]) rfl ok_87 ⟨et, trivial⟩) (Calls.mono (c_ref05_digits (Dj F c4) w5 hI.lt r2 trivial r3 hx5) ?_)
    rintro _ w6 ⟨rfl, hx6, hl3⟩
    refine ⟨_, rfl, hx6, ?_⟩
    replace hI := (hI.ext hx6)
    obtain ⟨r4, hx7, h⟩ := bnd_some h
    refine la_call rfl gn rfl (r_callF (vs := [(str s1), (vb (decide (l1.K < 0))), (str r3)]) rfl ok_88 ⟨et, ⟨et, ⟨et, trivial⟩⟩⟩) (Calls.mono (c_ref05_term (Dj F c4) w6 hI.lt s1 (decide (l1.K < 0)) r3 trivial r4 hx7) ?_)
    rintro _ w7 ⟨rfl, hx8, hl4⟩
    refine ⟨_, rfl, hx8, ?_⟩
    replace hI := (hI.ext hx8)
    refine a_q rfl gn rfl (fun w' => (y_assign rfl et)) ?_
    refine a_nil ?_
    refine k_same ?_
    refine sr ?_
    refine sm ?_
    refine sa ?_
    refine nk ?_
    refine c_ret ?_
    obtain rfl := some_inj h
    exact q_ret (vs := [(str r4)]) Tryz.results42 ⟨ev_tmp rfl rfl, trivial⟩ ⟨rfl, hI.ext0, hI.fin trivial⟩
   ·replace h := ite_f hb h
    refine c_skip ?_
    refine k_same ?_
    refine sr ?_
    refine sm ?_
    refine sa ?_
    refine nk ?_
    refine c_ret ?_
    obtain rfl := some_inj h
    exact q_ret (vs := [(str s1)]) Tryz.results42 ⟨ev_tmp rfl rfl, trivial⟩ ⟨rfl, hI.ext0, hI.fin trivial⟩
  ·skip
   refine sr ?_
   refine sac ?_
   refine nk ?_
   refine c_block ?_
   refine c_loop (α := Nat × (List UInt8) × Int) (fun x => fun w => ∃ C, Bun noM F w0 C w [] [Cl.blk b1 29 #[(vi l1.K), (vs a1 l1.L.length c1)], Cl.sl cGMono a1 c1 l1.L] ∧ m_ref05_Format_l1 l1 (x.1) (x.2.1) (x.2.2) = some r) (fun x _ => x.1) (fun x => [(1, (vp b1 0)), (3, (str (x.2.1))), (4, (vi (x.2.2)))]) (fu, ([] : List UInt8), 0) ⟨_, hI.arr .n ⟨.z, (.s .z), trivial⟩, h⟩ ⟨rfl, rfl, rfl, trivial⟩ ?_
   clear h hI; rintro ⟨fuel1, s2, i1⟩ w8 ⟨c5, hI, h⟩
   dsimp only at hI h
   rcases fuel1 with _ | fuel1
   ·rw [m_ref05_Format_l1] at h; cases h
   rw [m_ref05_Format_l1] at h
   refine c_sub (e := [(1, (vp b1 0)), (3, (str s2)), (4, (vi i1))]) ⟨rfl, rfl, rfl, trivial⟩ ?_
   refine c_seq ?_
   refine sr ?_
   refine sm ?_
   refine sq (y_fieldAddr rfl et Tryz.underlying29 rfl size_27 rfl) ?_
   refine sq (y_load1 (v := (vs a1 l1.L.length c1)) rfl et Tryz.underlying27 rfl (hI.kblk (l := [(vs a1 l1.L.length c1)]) .z rfl).1) ?_
   refine sq (y_lenl rfl Tryz.underlying27 et) ?_
   refine sq (y_lss rfl et et) ?_
   refine nk ?_
   refine c_cond (b := decide (i1 < (l1.L.length : Int))) et (fun hb => ?_) (fun hb => ?_)
   ·replace h := ite_t hb h
    refine c_skip ?_
    refine k_same ?_
    refine c_seq ?_
    refine c_block ?_
    refine sr ?_
    refine sq (y_fieldAddr rfl et Tryz.underlying29 rfl size_27 rfl) ?_
    refine sq (y_load1 (v := (vs a1 l1.L.length c1)) rfl et Tryz.underlying27 rfl (hI.kblk (l := [(vs a1 l1.L.length c1)]) .z rfl).1) ?_
    refine sm ?_
    obtain ⟨e1, hx9, h⟩ := bnd_some h
    obtain ⟨ad1, cs1, hA1, hr1, hq1⟩ := hI.clat (.s .z) hx9
    obtain rfl : cs1 = [(str e1.Name), (vi e1.By)] := hr1
    refine sq (y_indexAddr rfl Tryz.underlying27 size_112 et et (lat_bd hx9) hA1) ?_
    refine sq (y_fieldAddr rfl et Tryz.underlying112 rfl size_2 rfl) ?_
    refine sq (y_load1 (v := (vi e1.By)) rfl et Tryz.underlying2 rfl (CA.part hq1 rfl).1) ?_
    refine sa ?_
    refine nk ?_
    refine sr ?_
    refine sq (y_fieldAddr rfl et Tryz.underlying29 rfl size_27 rfl) ?_
    refine sq (y_load1 (v := (vs a1 l1.L.length c1)) rfl et Tryz.underlying27 rfl (hI.kblk (l := [(vs a1 l1.L.length c1)]) .z rfl).1) ?_
    refine sm ?_
    obtain ⟨e2, hx10, h⟩ := bnd_some h
    obtain ⟨ad2, cs2, hA2, hr2, hq2⟩ := hI.clat (.s .z) hx10
    obtain rfl : cs2 = [(str e2.Name), (vi e2.By)] := hr2
    refine sq (y_indexAddr rfl Tryz.underlying27 size_112 et et (lat_bd hx10) hA2) ?_
    refine sq (y_fieldAddr rfl et Tryz.underlying112 rfl size_9 rfl) ?_
    refine sq (y_load1 (v := (str e2.Name)) rfl et Tryz.underlying9 rfl (CA.part hq2 rfl).1) ?_
    refine sa ?_
    refine nk ?_
    refine c_join (α := (List UInt8)) (fun _ => ⟨62, []⟩) (fun x => [(1, (vp b1 0)), (3, (str s2)), (4, (vi i1)), (5, (vi e1.By)), (6, (str x))]) (fun x => fun w => ∃ C, Bun noM F w0 C w [] [Cl.blk b1 29 #[(vi l1.K), (vs a1 l1.L.length c1)], Cl.sl cGMono a1 c1 l1.L] ∧ m_ref05_Format_j2 s2 e1 (m_ref05_Format_l1 l1 fuel1) i1 x = some r) ?_ ?_
    ·clear h hI; rintro t1 w9 ⟨c6, hI, h⟩
     try dsimp only at hI h
     rw [m_ref05_Format_j2] at h
     refine c_sub (e := [(1, (vp b1 0)), (3, (str s2)), (4, (vi i1)), (5, (vi e1.By)), (6, (str t1))]) ⟨rfl, rfl, rfl, rfl, rfl, trivial⟩ ?_
     refine c_region rfl ?_
     refine sm ?_
     refine sm ?_
     refine sq (y_lss rfl et ev_const) ?_
     refine sm ?_
     obtain ⟨r5, hx11, h⟩ := bnd_some h
     refine s_call gn rfl (r_callF (vs := [(str s2), (vb (decide (e1.By < 0))), (str t1)]) rfl ok_88 ⟨et, ⟨et, ⟨et, trivial⟩⟩⟩) (Calls.mono (c_ref05_term (Dj F c6) w9 hI.lt s2 (decide (e1.By < 0)) t1 trivial r5 hx11) ?_)
     rintro _ w10 ⟨rfl, hx12, hl5⟩
     refine ⟨_, rfl, ?_⟩
     replace hI := (hI.ext hx12)
     refine sa ?_
     refine nk ?_
     refine c_region rfl ?_
     refine sm ?_
     refine sq (y_add rfl et ev_const) ?_
     refine sa ?_
     refine s_nil ?_
     exact k_loop (fuel1, r5, wi64 (i1 + 1)) ⟨rfl, rfl, rfl, trivial⟩ ⟨_, hI.arr .n ⟨.z, (.s .z), trivial⟩, h⟩ (Nat.lt_succ_self _)
    ·skip
     refine sr ?_
     refine sm ?_
     obtain ⟨r6, hx13, h⟩ := bnd_some h
     refine s_call gn rfl (r_callF (vs := [(vi e1.By)]) rfl ok_86 ⟨et, trivial⟩) (Calls.mono (c_ref05_size (Dj F c5) w8 hI.lt e1.By trivial r6 hx13) ?_)
     rintro _ w11 ⟨rfl, hx14, hl6⟩
     refine ⟨_, rfl, ?_⟩
     replace hI := (hI.ext hx14)
     refine sq (y_neq rfl et ev_const) ?_
     refine nk ?_
     refine c_cond (b := !decide (r6 = 1)) et (fun hb => ?_) (fun hb => ?_)
     ·replace h := ite_t hb h
      refine c_region rfl ?_
      refine sm ?_
      obtain ⟨r7, hx15, h⟩ := bnd_some h
      refine s_call gn rfl (r_callF (vs := [(vi e1.By)]) rfl ok_86 ⟨et, trivial⟩) (Calls.mono (c_ref05_size (Dj F c5) w11 hI.lt e1.By trivial r7 hx15) ?_)
      rintro _ w12 ⟨rfl, hx16, hl7⟩
      refine ⟨_, rfl, ?_⟩
      replace hI := (hI.ext hx16)
      obtain ⟨r8, hx17, h⟩ := bnd_some h
      refine s_call gn rfl (r_callF (vs := [(Value.int .u64 r7)]) rfl ok_87 ⟨et, trivial⟩) (Calls.mono (c_ref05_digits (Dj F c5) w12 hI.lt r7 trivial r8 hx17) ?_)
      rintro _ w13 ⟨rfl, hx18, hl8⟩
      refine ⟨_, rfl, ?_⟩
      replace hI := (hI.ext hx18)
      obtain ⟨s3, hx19, h⟩ := bnd_some h
      refine sq (y_catl rfl et ev_const hx19) ?_
      refine sm ?_
      obtain ⟨s4, hx20, h⟩ := bnd_some h
      refine sq (y_catl rfl et et hx20) ?_
      refine sa ?_
      refine s_nil ?_
      exact k_join s4 ⟨rfl, rfl, rfl, rfl, rfl, trivial⟩ ⟨_, hI.arr .n ⟨.z, (.s .z), trivial⟩, h⟩ rfl
     ·replace h := ite_f hb h
      refine c_skip ?_
      exact k_join e2.Name ⟨rfl, rfl, rfl, rfl, rfl, trivial⟩ ⟨_, hI.arr .n ⟨.z, (.s .z), trivial⟩, h⟩ rfl
   ·replace h := ite_f hb h
    refine c_exit ?_
    refine k_in ?_
    exact k_join s2 ⟨rfl, rfl, trivial⟩ ⟨_, hI.arr .n ⟨.z, (.s .z), trivial⟩, h⟩ rfl
set_option maxRecDepth 100000 in
set_option maxHeartbeats 4000000 in
theorem c_ref15_forms (F : NP) (w0 : World) (hF : ∀ k, F k → k < w0.heap.size) (l1 : List GLin) (a1 : Option Addr) (c1 : Nat) (hc : AllCl [Cl.sl cGLin a1 c1 l1] F w0) (r : List UInt8)
  (h : m_ref15_forms l1 = some r) :
  Calls Tryz.prog 44 #[(vs a1 l1.length c1)] w0 fun e w => e = .returned (str r) ∧ Ext w0 w ∧ AllCl [] F w := by
 refine enterK (l := [(vs a1 l1.length c1)]) Tryz.func44 rfl Tryz.ntmps44 rfl ?_
 have hI := Bun.start hF hc
 clear hc
 rw [m_ref15_forms] at h
 refine sr ?_
 refine sac ?_
 refine nk ?_
 refine sr ?_
 refine sac ?_
 refine nk ?_
 refine c_seq ?_
 refine sr ?_
 refine sac ?_
 refine nk ?_
 refine c_block ?_
 refine c_loop (α := Nat × (List UInt8) × Int) (fun x => fun w => ∃ C, Bun noM F w0 C w [] [Cl.sl cGLin a1 c1 l1] ∧ m_ref15_forms_l1 l1 (x.1) (x.2.1) (x.2.2) = some r) (fun x _ => x.1) (fun x => [(0, (vs a1 l1.length c1)), (3, (str (x.2.1))), (4, (vi (x.2.2)))]) (fu, ([] : List UInt8), 0) ⟨_, hI.arr .n ⟨.z, trivial⟩, h⟩ ⟨rfl, rfl, rfl, trivial⟩ ?_
 clear h hI; rintro ⟨fuel1, s1, i1⟩ w1 ⟨c2, hI, h⟩
 dsimp only at hI h
 rcases fuel1 with _ | fuel1
 ·rw [m_ref15_forms_l1] at h; cases h
 rw [m_ref15_forms_l1] at h
 refine c_sub (e := [(0, (vs a1 l1.length c1)), (3, (str s1)), (4, (vi i1))]) ⟨rfl, rfl, rfl, trivial⟩ ?_
 refine c_seq ?_
 refine sr ?_
 refine sm ?_
 refine sm ?_
 refine sq (y_lenl rfl Tryz.underlying30 et) ?_
 refine sq (y_lss rfl et et) ?_
 refine nk ?_
 refine c_cond (b := decide (i1 < (l1.length : Int))) et (fun hb => ?_) (fun hb => ?_)
 ·replace h := ite_t hb h
  refine c_skip ?_
  refine k_same ?_
  refine c_seq ?_
  refine c_block ?_
  refine c_join (α := (List UInt8)) (fun _ => ⟨23, []⟩) (fun x => [(0, (vs a1 l1.length c1)), (3, (str x)), (4, (vi i1))]) (fun x => fun w => ∃ C, Bun noM F w0 C w [] [Cl.sl cGLin a1 c1 l1] ∧ m_ref15_forms_j1 l1 i1 (m_ref15_forms_l1 l1 fuel1) x = some r) ?_ ?_
  ·clear h hI; rintro s2 w2 ⟨c3, hI, h⟩
   try dsimp only at hI h
   rw [m_ref15_forms_j1] at h
   refine c_sub (e := [(0, (vs a1 l1.length c1)), (3, (str s2)), (4, (vi i1))]) ⟨rfl, rfl, rfl, trivial⟩ ?_
   refine c_region rfl ?_
   refine sm ?_
   refine sm ?_
   refine sm ?_
   obtain ⟨e1, hx1, h⟩ := bnd_some h
   obtain ⟨ad1, cs1, hA1, hr1, hq1⟩ := hI.clat .z hx1
   obtain ⟨a2, c4, rfl, hf1⟩ := hr1
   have hI := hI.add (c := Cl.sl cGMono a2 c4 e1.L) hf1
   refine sq (y_indexAddr rfl Tryz.underlying30 size_29 et et (lat_bd hx1) hA1) ?_
   refine sq (y_loadN (l := [(vi e1.K), (vs a2 e1.L.length c4)]) rfl et Tryz.underlying29 rfl size_29 hq1.1) ?_
   obtain ⟨r1, hx2, h⟩ := bnd_some h
   refine s_call gn rfl (r_callF (vs := [(Value.agg #[(vi e1.K), (vs a2 e1.L.length c4)])]) rfl ok_42 ⟨et, trivial⟩) (Calls.mono (c_ref05_Format (Dj F c3) w2 hI.lt e1 a2 c4 ⟨(hI.get .z), trivial⟩ r1 hx2) ?_)
   rintro _ w3 ⟨rfl, hx3, hl1⟩
   refine ⟨_, rfl, ?_⟩
   replace hI := (hI.ext hx3)
   obtain ⟨s3, hx4, h⟩ := bnd_some h
   refine sq (y_catl rfl et et hx4) ?_
   refine sa ?_
   refine nk ?_
   refine c_region rfl ?_
   refine sm ?_
   refine sq (y_add rfl et ev_const) ?_
   refine sa ?_
   refine s_nil ?_
   exact k_loop (fuel1, s3, wi64 (i1 + 1)) ⟨rfl, rfl, rfl, trivial⟩ ⟨_, hI.arr .n ⟨(.s .z), trivial⟩, h⟩ (Nat.lt_succ_self _)
  ·skip
   refine sr ?_
   refine sm ?_
   refine sq (y_gtr rfl et ev_const) ?_
   refine nk ?_
   refine c_cond (b := decide (0 < i1)) et (fun hb => ?_) (fun hb => ?_)
   ·replace h := ite_t hb h
    refine c_region rfl ?_
    refine sm ?_
    obtain ⟨s4, hx5, h⟩ := bnd_some h
    refine sq (y_catl rfl et ev_const hx5) ?_
    refine sa ?_
    refine s_nil ?_
    exact k_join s4 ⟨rfl, rfl, rfl, trivial⟩ ⟨_, hI.arr .n ⟨.z, trivial⟩, h⟩ rfl
   ·replace h := ite_f hb h
    refine c_skip ?_
    exact k_join s1 ⟨rfl, rfl, rfl, trivial⟩ ⟨_, hI.arr .n ⟨.z, trivial⟩, h⟩ rfl
 ·replace h := ite_f hb h
  refine c_exit ?_
  refine k_in ?_
  refine k_same ?_
  refine sr ?_
  refine sm ?_
  refine sa ?_
  refine nk ?_
  refine c_ret ?_
  obtain rfl := some_inj h
  exact q_ret (vs := [(str s1)]) Tryz.results44 ⟨ev_tmp rfl rfl, trivial⟩ ⟨rfl, hI.ext0, hI.fin trivial⟩
set_option maxRecDepth 100000 in
set_option maxHeartbeats 4000000 in
theorem c_ref15_Index (F : NP) (w0 : World) (hF : ∀ k, F k → k < w0.heap.size) (x1 : GIndex) (a1 : Option Addr) (c1 : Nat) (a2 : Option Addr) (c2 : Nat) (hc : AllCl [Cl.sl cGMono a1 c1 x1.Lin.L, Cl.sl cGLin a2 c2 x1.At] F w0) (r : List UInt8)
  (h : m_ref15_Index x1 = some r) :
  Calls Tryz.prog 15 #[(Value.agg #[(vi x1.Lin.K), (vs a1 x1.Lin.L.length c1), (str x1.From), (vs a2 x1.At.length c2)])] w0 fun e w => e = .returned (str r) ∧ Ext w0 w ∧ AllCl [] F w := by
 refine enterK (l := [(Value.agg #[(vi x1.Lin.K), (vs a1 x1.Lin.L.length c1), (str x1.From), (vs a2 x1.At.length c2)])]) Tryz.func15 rfl Tryz.ntmps15 rfl ?_
 have hI := Bun.start hF hc
 clear hc
 rw [m_ref15_Index] at h
 refine sr ?_
 refine l_box (v := (Value.agg #[(vi x1.Lin.K), (vs a1 x1.Lin.L.length c1), (str x1.From), (vs a2 x1.At.length c2)])) (cs := #[(vi x1.Lin.K), (vs a1 x1.Lin.L.length c1), (str x1.From), (vs a2 x1.At.length c2)]) hI gn rfl rfl et rfl ?_
 clear hI; intro b1 c3 w1 hI
 obtain ⟨c4, hI⟩ := hI.relBox .z
 refine sac ?_
 refine nk ?_
 refine c_seq ?_
 refine sr ?_
 refine sq (y_fieldAddr rfl et Tryz.underlying32 rfl size_29 rfl) ?_
 refine sq (y_loadN (l := [(vi x1.Lin.K), (vs a1 x1.Lin.L.length c1)]) rfl et Tryz.underlying29 rfl size_29 (hI.kblk (l := [(vi x1.Lin.K), (vs a1 x1.Lin.L.length c1)]) .z rfl).1) ?_
 obtain ⟨r1, hx1, h⟩ := bnd_some h
 refine s_call gn rfl (r_callF (vs := [(Value.agg #[(vi x1.Lin.K), (vs a1 x1.Lin.L.length c1)])]) rfl ok_40 ⟨et, trivial⟩) (Calls.mono (c_base_LinRight (Dj F c4) w1 hI.lt x1.Lin a1 c1 ⟨(hI.get (.s .z)), trivial⟩ r1 hx1) ?_)
 rintro _ w2 ⟨rfl, hx2, hl1⟩
 refine ⟨_, rfl, ?_⟩
 replace hI := (hI.ext hx2)
 refine sq (y_not rfl et) ?_
 refine sm ?_
 refine s_gval (g_false rfl rfl rfl rfl) rfl (fun hc => (y_fieldAddr rfl et Tryz.underlying32 rfl size_30 rfl)) ?_
 refine s_gval (g_false rfl rfl rfl rfl) rfl (fun hc => (y_load1 (v := (vs a2 x1.At.length c2)) rfl (ev_gv et hc) Tryz.underlying30 rfl (hI.kblk (l := [(vs a2 x1.At.length c2)]) .z rfl).1)) ?_
 obtain ⟨r2, hx3, h⟩ := bnd_some h
 replace hx3 := gd_some hx3
 refine s_gcallU (v := (vb r2)) (g_false rfl rfl rfl rfl) rfl (fun hc => (r_callF (vs := [(vs a2 x1.At.length c2)]) rfl ok_41 ⟨(ev_gv et hc), trivial⟩)) (fun hc => (c_ref15_valid (Dj F c4) w2 hI.lt x1.At a2 c2 ⟨(hI.get (.s (.s .z))), trivial⟩ r2 (hx3 hc)).mono fun _ _ k => ⟨k.1, k.2.1⟩) ?_
 intro w3 hx4; replace hI := hI.ext hx4
 refine s_gval (g_false rfl rfl rfl rfl) rfl (fun hc => (y_not rfl (ev_gv et hc))) ?_
 refine sq (y_or rfl et et) ?_
 refine nk ?_
 refine c_cond (b := (!r1) || (!r2)) et (fun hb => ?_) (fun hb => ?_)
 ·replace h := ite_t hb h
  refine sr ?_
  refine sac ?_
  refine nk ?_
  refine c_ret ?_
  obtain rfl := some_inj h
  exact q_ret (vs := [(str ([] : List UInt8))]) Tryz.results15 ⟨ev_tmp rfl rfl, trivial⟩ ⟨rfl, hI.ext0, hI.fin trivial⟩
 ·replace h := ite_f hb h
  refine c_skip ?_
  refine k_same ?_
  refine c_seq ?_
  refine sr ?_
  refine sq (y_fieldAddr rfl et Tryz.underlying32 rfl size_9 rfl) ?_
  refine sq (y_load1 (v := (str x1.From)) rfl et Tryz.underlying9 rfl (hI.kblk (l := [(str x1.From)]) .z rfl).1) ?_
  refine sq (y_eqs rfl et ev_const) ?_
  refine nk ?_
  refine c_cond (b := decide (x1.From = ([] : List UInt8))) et (fun hb => ?_) (fun hb => ?_)
  ·replace h := ite_t hb h
   refine c_seq ?_
   refine sr ?_
   refine sq (y_fieldAddr rfl et Tryz.underlying32 rfl size_30 rfl) ?_
   refine sq (y_load1 (v := (vs a2 x1.At.length c2)) rfl et Tryz.underlying30 rfl (hI.kblk (l := [(vs a2 x1.At.length c2)]) .z rfl).1) ?_
   refine sq (y_lenl rfl Tryz.underlying30 et) ?_
   refine sq (y_gtr rfl et ev_const) ?_
   refine nk ?_
   refine c_cond (b := decide (0 < (x1.At.length : Int))) et (fun hb => ?_) (fun hb => ?_)
   ·replace h := ite_t hb h
    refine sr ?_
    refine sac ?_
    refine nk ?_
    refine c_ret ?_
    obtain rfl := some_inj h
    exact q_ret (vs := [(str ([] : List UInt8))]) Tryz.results15 ⟨ev_tmp rfl rfl, trivial⟩ ⟨rfl, hI.ext0, hI.fin trivial⟩
   ·replace h := ite_f hb h
    refine c_skip ?_
    refine k_same ?_
    refine sr ?_
    refine sq (y_fieldAddr rfl et Tryz.underlying32 rfl size_29 rfl) ?_
    refine sq (y_loadN (l := [(vi x1.Lin.K), (vs a1 x1.Lin.L.length c1)]) rfl et Tryz.underlying29 rfl size_29 (hI.kblk (l := [(vi x1.Lin.K), (vs a1 x1.Lin.L.length c1)]) .z rfl).1) ?_
    obtain ⟨r3, hx5, h⟩ := bnd_some h
    refine s_call gn rfl (r_callF (vs := [(Value.agg #[(vi x1.Lin.K), (vs a1 x1.Lin.L.length c1)])]) rfl ok_42 ⟨et, trivial⟩) (Calls.mono (c_ref05_Format (Dj F c4) w3 hI.lt x1.Lin a1 c1 ⟨(hI.get (.s .z)), trivial⟩ r3 hx5) ?_)
    rintro _ w4 ⟨rfl, hx6, hl3⟩
    refine ⟨_, rfl, ?_⟩
    replace hI := (hI.ext hx6)
    refine sa ?_
    refine nk ?_
    refine c_ret ?_
    obtain rfl := some_inj h
    exact q_ret (vs := [(str r3)]) Tryz.results15 ⟨ev_tmp rfl rfl, trivial⟩ ⟨rfl, hI.ext0, hI.fin trivial⟩
  ·replace h := ite_f hb h
   refine c_skip ?_
   refine k_same ?_
   refine c_seq ?_
   refine sr ?_
   refine sq (y_fieldAddr rfl et Tryz.underlying32 rfl size_9 rfl) ?_
   refine sq (y_load1 (v := (str x1.From)) rfl et Tryz.underlying9 rfl (hI.kblk (l := [(str x1.From)]) .z rfl).1) ?_
   obtain ⟨r4, hx7, h⟩ := bnd_some h
   refine s_call gn rfl (r_callF (vs := [(str x1.From)]) rfl ok_43 ⟨et, trivial⟩) (Calls.mono (c_base_Name (Dj F c4) w3 hI.lt x1.From trivial r4 hx7) ?_)
   rintro _ w5 ⟨rfl, hx8, hl4⟩
   refine ⟨_, rfl, ?_⟩
   replace hI := (hI.ext hx8)
   refine sq (y_not rfl et) ?_
   refine sm ?_
   refine s_gval (g_false rfl rfl rfl rfl) rfl (fun hc => (y_fieldAddr rfl et Tryz.underlying32 rfl size_29 rfl)) ?_
   refine s_gval (g_false rfl rfl rfl rfl) rfl (fun hc => (y_fieldAddr rfl (ev_gv et hc) Tryz.underlying29 rfl size_2 rfl)) ?_
   refine s_gval (g_false rfl rfl rfl rfl) rfl (fun hc => (y_load1 (v := (vi x1.Lin.K)) rfl (ev_gv et hc) Tryz.underlying2 rfl (hI.kblk (l := [(vi x1.Lin.K)]) .z rfl).1)) ?_
   refine s_gval (g_false rfl rfl rfl rfl) rfl (fun hc => (y_neq rfl (ev_gv et hc) ev_const)) ?_
   refine sq (y_or rfl et et) ?_
   refine sm ?_
   refine s_gval (g_false rfl rfl rfl rfl) rfl (fun hc => (y_fieldAddr rfl et Tryz.underlying32 rfl size_29 rfl)) ?_
   refine s_gval (g_false rfl rfl rfl rfl) rfl (fun hc => (y_fieldAddr rfl (ev_gv et hc) Tryz.underlying29 rfl size_27 rfl)) ?_
   refine s_gval (g_false rfl rfl rfl rfl) rfl (fun hc => (y_load1 (v := (vs a1 x1.Lin.L.length c1)) rfl (ev_gv et hc) Tryz.underlying27 rfl (hI.kblk (l := [(vs a1 x1.Lin.L.length c1)]) .z rfl).1)) ?_
   refine s_gval (g_false rfl rfl rfl rfl) rfl (fun hc => (y_lenl rfl Tryz.underlying27 (ev_gv et hc))) ?_
   refine s_gval (g_false rfl rfl rfl rfl) rfl (fun hc => (y_gtr rfl (ev_gv et hc) ev_const)) ?_
   refine sq (y_or rfl et et) ?_
   refine s_nil ?_
   refine k_next (e := [(1, (vp b1 0)), (39, (vb (((!r4) || (!decide (x1.Lin.K = 0))) || (decide (0 < (x1.Lin.L.length : Int))))))]) ⟨rfl, rfl, trivial⟩ ?_
   refine c_cond (b := ((!r4) || (!decide (x1.Lin.K = 0))) || (decide (0 < (x1.Lin.L.length : Int)))) et (fun hb => ?_) (fun hb => ?_)
   ·replace h := ite_t hb h
    refine sr ?_
    refine sac ?_
    refine nk ?_
    refine c_ret ?_
    obtain rfl := some_inj h
    exact q_ret (vs := [(str ([] : List UInt8))]) Tryz.results15 ⟨ev_tmp rfl rfl, trivial⟩ ⟨rfl, hI.ext0, hI.fin trivial⟩
   ·replace h := ite_f hb h
    refine c_skip ?_
    refine k_same ?_
    refine c_seq ?_
    refine c_drawX [] false (.c (0, .q) (.c (1, .q) (.c (2, .q) (.c (3, .q) (.c (4, .q) (.c (5, .s) (.c (6, .q) (.c (7, .q) (.c (8, .q) .n))))))))) hI (by kernel_rfl) (by kernel_rfl) ?_
    clear hI; intro w6 hI
    refine a_q rfl gn rfl (fun w' => (y_fieldAddr rfl et Tryz.underlying32 rfl size_9 rfl)) ?_
    refine a_read rfl gn rfl (fun w' hw' => (y_load1 (v := (str x1.From)) rfl et Tryz.underlying9 rfl ((hI.kblk (l := [(str x1.From)]) .z rfl).at_ (SX.any rfl hw')))) (by kernel_rfl) ?_
    obtain ⟨s1, hx9, h⟩ := bnd_some h
    refine a_q rfl gn rfl (fun w' => (y_catl rfl et ev_const hx9)) ?_
    refine a_q rfl gn rfl (fun w' => (y_fieldAddr rfl et Tryz.underlying32 rfl size_30 rfl)) ?_
    refine a_read rfl gn rfl (fun w' hw' => (y_load1 (v := (vs a2 x1.At.length c2)) rfl et Tryz.underlying30 rfl ((hI.kblk (l := [(vs a2 x1.At.length c2)]) .z rfl).at_ (SX.any rfl hw')))) (by kernel_rfl) ?_
    obtain ⟨r5, hx10, h⟩ := bnd_some h
    refine la_call rfl gn rfl (r_callF (vs := [(vs a2 x1.At.length c2)]) rfl ok_44 ⟨et, trivial⟩) (Calls.mono (c_ref15_forms (Dj F c4) w6 hI.lt x1.At a2 c2 ⟨(hI.get (.s (.s .z))), trivial⟩ r5 hx10) ?_)
    rintro _ w7 ⟨rfl, hx11, hl5⟩
    refine ⟨_, rfl, hx11, ?_⟩
    replace hI := (hI.ext hx11)
    obtain ⟨s2, hx12, h⟩ := bnd_some h
    refine a_q rfl gn rfl (fun w' => (y_catl rfl et et hx12)) ?_
    obtain ⟨s3, hx13, h⟩ := bnd_some h
    refine a_q rfl gn rfl (fun w' => (y_catl rfl et ev_const hx13)) ?_
    refine a_q rfl gn rfl (fun w' => (y_assign rfl et)) ?_
    refine a_nil ?_
    refine k_same ?_
    refine c_ret ?_
    obtain rfl := some_inj h
    exact q_ret (vs := [(str s3)]) Tryz.results15 ⟨ev_tmp rfl rfl, trivial⟩ ⟨rfl, hI.ext0, hI.fin trivial⟩
set_option maxRecDepth 100000 in
set_option maxHeartbeats 4000000 in
theorem c_ref15_Small (F : NP) (w0 : World) (hF : ∀ k, F k → k < w0.heap.size) (e1 : GExpr) (a1 : Option Addr) (c1 : Nat) (a2 : Option Addr) (c2 : Nat) (a3 : Option Addr) (c3 : Nat) (hc : AllCl [Cl.sl cGMono a1 c1 e1.Lin.L, Cl.sl cGIndex a2 c2 e1.Idx, Cl.sl cGExpr a3 c3 e1.Args] F w0) (r : Bool)
  (h : m_ref15_Small e1 = some r) :
  Calls Tryz.prog 16 #[(Value.agg #[(vi e1.Op), (str e1.Name), (vi e1.Val.N), (vi e1.Val.D), (vi e1.Type_.Kind), (vi e1.Type_.Bits), (vi e1.Type_.Frac), (vi e1.Type_.Round), (vi e1.Type_.Over), (vi e1.Lin.K), (vs a1 e1.Lin.L.length c1), (vs a2 e1.Idx.length c2), (vs a3 e1.Args.length c3)])] w0 fun e w => e = .returned (vb r) ∧ Ext w0 w ∧ AllCl [] F w := by
 refine enterK (l := [(Value.agg #[(vi e1.Op), (str e1.Name), (vi e1.Val.N), (vi e1.Val.D), (vi e1.Type_.Kind), (vi e1.Type_.Bits), (vi e1.Type_.Frac), (vi e1.Type_.Round), (vi e1.Type_.Over), (vi e1.Lin.K), (vs a1 e1.Lin.L.length c1), (vs a2 e1.Idx.length c2), (vs a3 e1.Args.length c3)])]) Tryz.func16 rfl Tryz.ntmps16 rfl ?_
 have hI := Bun.start hF hc
 clear hc
 rw [m_ref15_Small] at h
 refine sr ?_
 refine l_box (v := (Value.agg #[(vi e1.Op), (str e1.Name), (vi e1.Val.N), (vi e1.Val.D), (vi e1.Type_.Kind), (vi e1.Type_.Bits), (vi e1.Type_.Frac), (vi e1.Type_.Round), (vi e1.Type_.Over), (vi e1.Lin.K), (vs a1 e1.Lin.L.length c1), (vs a2 e1.Idx.length c2), (vs a3 e1.Args.length c3)])) (cs := #[(vi e1.Op), (str e1.Name), (vi e1.Val.N), (vi e1.Val.D), (vi e1.Type_.Kind), (vi e1.Type_.Bits), (vi e1.Type_.Frac), (vi e1.Type_.Round), (vi e1.Type_.Over), (vi e1.Lin.K), (vs a1 e1.Lin.L.length c1), (vs a2 e1.Idx.length c2), (vs a3 e1.Args.length c3)]) hI gn rfl rfl et rfl ?_
 clear hI; intro b1 c4 w1 hI
 obtain ⟨c5, hI⟩ := hI.relBox .z
 refine sac ?_
 refine nk ?_
 refine sr ?_
 refine sq (y_loadN (l := [(vi e1.Op), (str e1.Name), (vi e1.Val.N), (vi e1.Val.D), (vi e1.Type_.Kind), (vi e1.Type_.Bits), (vi e1.Type_.Frac), (vi e1.Type_.Round), (vi e1.Type_.Over), (vi e1.Lin.K), (vs a1 e1.Lin.L.length c1), (vs a2 e1.Idx.length c2), (vs a3 e1.Args.length c3)]) rfl et Tryz.underlying39 rfl size_39 (hI.kblk (l := [(vi e1.Op), (str e1.Name), (vi e1.Val.N), (vi e1.Val.D), (vi e1.Type_.Kind), (vi e1.Type_.Bits), (vi e1.Type_.Frac), (vi e1.Type_.Round), (vi e1.Type_.Over), (vi e1.Lin.K), (vs a1 e1.Lin.L.length c1), (vs a2 e1.Idx.length c2), (vs a3 e1.Args.length c3)]) .z rfl).1) ?_
 obtain ⟨r1, hx1, h⟩ := bnd_some h
 refine s_call gn rfl (r_callF (vs := [(Value.agg #[(vi e1.Op), (str e1.Name), (vi e1.Val.N), (vi e1.Val.D), (vi e1.Type_.Kind), (vi e1.Type_.Bits), (vi e1.Type_.Frac), (vi e1.Type_.Round), (vi e1.Type_.Over), (vi e1.Lin.K), (vs a1 e1.Lin.L.length c1), (vs a2 e1.Idx.length c2), (vs a3 e1.Args.length c3)]), (vi 300)]) rfl ok_13 ⟨et, ⟨ev_const, trivial⟩⟩) (Calls.mono (c_base_Weigh (Dj F c5) w1 hI.lt e1 300 a1 c1 a2 c2 a3 c3 ⟨(hI.get (.s .z)), (hI.get (.s (.s .z))), (hI.get (.s (.s (.s .z)))), trivial⟩ r1 hx1) ?_)
 rintro _ w2 ⟨rfl, hx2, hl1⟩
 refine ⟨_, rfl, ?_⟩
 replace hI := (hI.ext hx2)
 refine sq (y_leq rfl et ev_const) ?_
 refine sa ?_
 refine nk ?_
 refine c_ret ?_
 obtain rfl := some_inj h
 exact q_ret (vs := [(vb (decide (r1 ≤ 300)))]) Tryz.results16 ⟨ev_tmp rfl rfl, trivial⟩ ⟨rfl, hI.ext0, hI.fin trivial⟩
set_option maxRecDepth 100000 in
set_option maxHeartbeats 4000000 in
theorem c_ref14_depth_b (rec_ : (GExpr → Int → Option Int)) (hrec : ∀ (F : NP) (w0 : World) (hF : ∀ k, F k → k < w0.heap.size) (e1 : GExpr) (most1 : Int) (a1 : Option Addr) (c1 : Nat) (a2 : Option Addr) (c2 : Nat) (a3 : Option Addr) (c3 : Nat) (hc : AllCl [Cl.sl cGMono a1 c1 e1.Lin.L, Cl.sl cGIndex a2 c2 e1.Idx, Cl.sl cGExpr a3 c3 e1.Args] F w0) (r : Int) (h : rec_ e1 most1 = some r), Calls Tryz.prog 105 #[(Value.agg #[(vi e1.Op), (str e1.Name), (vi e1.Val.N), (vi e1.Val.D), (vi e1.Type_.Kind), (vi e1.Type_.Bits), (vi e1.Type_.Frac), (vi e1.Type_.Round), (vi e1.Type_.Over), (vi e1.Lin.K), (vs a1 e1.Lin.L.length c1), (vs a2 e1.Idx.length c2), (vs a3 e1.Args.length c3)]), (vi most1)] w0 fun e w => e = .returned (vi r) ∧ Ext w0 w ∧ AllCl [] F w)
  (F : NP) (w0 : World) (hF : ∀ k, F k → k < w0.heap.size) (e1 : GExpr) (most1 : Int) (a1 : Option Addr) (c1 : Nat) (a2 : Option Addr) (c2 : Nat) (a3 : Option Addr) (c3 : Nat) (hc : AllCl [Cl.sl cGMono a1 c1 e1.Lin.L, Cl.sl cGIndex a2 c2 e1.Idx, Cl.sl cGExpr a3 c3 e1.Args] F w0) (r : Int) (h : m_ref14_depth_b rec_ e1 most1 = some r) : Calls Tryz.prog 105 #[(Value.agg #[(vi e1.Op), (str e1.Name), (vi e1.Val.N), (vi e1.Val.D), (vi e1.Type_.Kind), (vi e1.Type_.Bits), (vi e1.Type_.Frac), (vi e1.Type_.Round), (vi e1.Type_.Over), (vi e1.Lin.K), (vs a1 e1.Lin.L.length c1), (vs a2 e1.Idx.length c2), (vs a3 e1.Args.length c3)]), (vi most1)] w0 fun e w => e = .returned (vi r) ∧ Ext w0 w ∧ AllCl [] F w := by
 refine enterK (l := [(Value.agg #[(vi e1.Op), (str e1.Name), (vi e1.Val.N), (vi e1.Val.D), (vi e1.Type_.Kind), (vi e1.Type_.Bits), (vi e1.Type_.Frac), (vi e1.Type_.Round), (vi e1.Type_.Over), (vi e1.Lin.K), (vs a1 e1.Lin.L.length c1), (vs a2 e1.Idx.length c2), (vs a3 e1.Args.length c3)]), (vi most1)]) Tryz.func105 rfl Tryz.ntmps105 rfl ?_
 have hI := Bun.start hF hc
 clear hc
 rw [m_ref14_depth_b] at h
 refine sr ?_
 refine l_box (v := (Value.agg #[(vi e1.Op), (str e1.Name), (vi e1.Val.N), (vi e1.Val.D), (vi e1.Type_.Kind), (vi e1.Type_.Bits), (vi e1.Type_.Frac), (vi e1.Type_.Round), (vi e1.Type_.Over), (vi e1.Lin.K), (vs a1 e1.Lin.L.length c1), (vs a2 e1.Idx.length c2), (vs a3 e1.Args.length c3)])) (cs := #[(vi e1.Op), (str e1.Name), (vi e1.Val.N), (vi e1.Val.D), (vi e1.Type_.Kind), (vi e1.Type_.Bits), (vi e1.Type_.Frac), (vi e1.Type_.Round), (vi e1.Type_.Over), (vi e1.Lin.K), (vs a1 e1.Lin.L.length c1), (vs a2 e1.Idx.length c2), (vs a3 e1.Args.length c3)]) hI gn rfl rfl et rfl ?_
 clear hI; intro b1 c4 w1 hI
 obtain ⟨c5, hI⟩ := hI.relBox .z
 refine sac ?_
 refine nk ?_
 refine sr ?_
 refine sac ?_
 refine nk ?_
 refine c_seq ?_
 refine sr ?_
 refine sac ?_
 refine nk ?_
 refine c_block ?_
 refine c_loop (α := Nat × Int × Int) (fun x => fun w => ∃ C, Bun noM F w0 C w [] [Cl.blk b1 39 #[(vi e1.Op), (str e1.Name), (vi e1.Val.N), (vi e1.Val.D), (vi e1.Type_.Kind), (vi e1.Type_.Bits), (vi e1.Type_.Frac), (vi e1.Type_.Round), (vi e1.Type_.Over), (vi e1.Lin.K), (vs a1 e1.Lin.L.length c1), (vs a2 e1.Idx.length c2), (vs a3 e1.Args.length c3)], Cl.sl cGMono a1 c1 e1.Lin.L, Cl.sl cGIndex a2 c2 e1.Idx, Cl.sl cGExpr a3 c3 e1.Args] ∧ m_ref14_depth_l1 e1 most1 rec_ (x.1) (x.2.1) (x.2.2) = some r) (fun x _ => x.1) (fun x => [(1, (vi most1)), (2, (vp b1 0)), (5, (vi (x.2.1))), (6, (vi (x.2.2)))]) (fu, 1, 0) ⟨_, hI.arr .n ⟨.z, (.s .z), (.s (.s .z)), (.s (.s (.s .z))), trivial⟩, h⟩ ⟨rfl, rfl, rfl, rfl, trivial⟩ ?_
 clear h hI; rintro ⟨fuel1, d1, i1⟩ w2 ⟨c6, hI, h⟩
 dsimp only at hI h
 rcases fuel1 with _ | fuel1
 ·rw [m_ref14_depth_l1] at h; cases h
 rw [m_ref14_depth_l1] at h
 refine c_sub (e := [(1, (vi most1)), (2, (vp b1 0)), (5, (vi d1)), (6, (vi i1))]) ⟨rfl, rfl, rfl, rfl, trivial⟩ ?_
 refine c_seq ?_
 refine sr ?_
 refine sm ?_
 refine sq (y_fieldAddr rfl et Tryz.underlying39 rfl size_37 rfl) ?_
 refine sq (y_load1 (v := (vs a3 e1.Args.length c3)) rfl et Tryz.underlying37 rfl (hI.kblk (l := [(vs a3 e1.Args.length c3)]) .z rfl).1) ?_
 refine sq (y_lenl rfl Tryz.underlying37 et) ?_
 refine sq (y_lss rfl et et) ?_
 refine sm ?_
 refine s_gval (g_true rfl rfl rfl rfl) rfl (fun hc => (y_move rfl et)) ?_
 refine s_gval (g_true rfl rfl rfl rfl) rfl (fun hc => (y_gtr rfl (ev_gv et hc) ev_const)) ?_
 refine sq (y_and rfl et et) ?_
 refine nk ?_
 refine c_cond (b := (decide (i1 < (e1.Args.length : Int))) && (decide (1 < most1))) et (fun hb => ?_) (fun hb => ?_)
 ·replace h := ite_t hb h
  refine c_skip ?_
  refine k_same ?_
  refine c_seq ?_
  refine c_block ?_
  refine c_region rfl ?_
  refine sm ?_
  refine sq (y_fieldAddr rfl et Tryz.underlying39 rfl size_37 rfl) ?_
  refine sq (y_load1 (v := (vs a3 e1.Args.length c3)) rfl et Tryz.underlying37 rfl (hI.kblk (l := [(vs a3 e1.Args.length c3)]) .z rfl).1) ?_
  refine sm ?_
  obtain ⟨e2, hx1, h⟩ := bnd_some h
  obtain ⟨ad1, cs1, hA1, hr1, hq1⟩ := hI.clat (.s (.s (.s .z))) hx1
  obtain ⟨a4, c7, a5, c8, a6, c9, rfl, hf1, hf2, hf3⟩ := cGExpr_out hr1
  have hI := hI.add (c := Cl.sl cGMono a4 c7 e2.Lin.L) hf1
  have hI := hI.add (c := Cl.sl cGIndex a5 c8 e2.Idx) hf2
  have hI := hI.add (c := Cl.sl cGExpr a6 c9 e2.Args) hf3
  refine sq (y_indexAddr rfl Tryz.underlying37 size_39 et et (lat_bd hx1) hA1) ?_
  refine sq (y_loadN (l := [(vi e2.Op), (str e2.Name), (vi e2.Val.N), (vi e2.Val.D), (vi e2.Type_.Kind), (vi e2.Type_.Bits), (vi e2.Type_.Frac), (vi e2.Type_.Round), (vi e2.Type_.Over), (vi e2.Lin.K), (vs a4 e2.Lin.L.length c7), (vs a5 e2.Idx.length c8), (vs a6 e2.Args.length c9)]) rfl et Tryz.underlying39 rfl size_39 hq1.1) ?_
  refine sm ?_
  refine sq (y_sub rfl et ev_const) ?_
  obtain ⟨r1, hx2, h⟩ := bnd_some h
  refine s_call gn rfl (r_callF (vs := [(Value.agg #[(vi e2.Op), (str e2.Name), (vi e2.Val.N), (vi e2.Val.D), (vi e2.Type_.Kind), (vi e2.Type_.Bits), (vi e2.Type_.Frac), (vi e2.Type_.Round), (vi e2.Type_.Over), (vi e2.Lin.K), (vs a4 e2.Lin.L.length c7), (vs a5 e2.Idx.length c8), (vs a6 e2.Args.length c9)]), (vi (wi64 (most1 - 1)))]) rfl ok_105 ⟨et, ⟨et, trivial⟩⟩) (Calls.mono (hrec (Dj F c6) w2 hI.lt e2 (wi64 (most1 - 1)) a4 c7 a5 c8 a6 c9 ⟨(hI.get (.s (.s .z))), (hI.get (.s .z)), (hI.get .z), trivial⟩ r1 hx2) ?_)
  rintro _ w3 ⟨rfl, hx3, hl1⟩
  refine ⟨_, rfl, ?_⟩
  replace hI := (hI.ext hx3)
  refine sq (y_add rfl ev_const et) ?_
  refine sq (y_max rfl et et) ?_
  refine sa ?_
  refine nk ?_
  refine c_region rfl ?_
  refine sm ?_
  refine sq (y_add rfl et ev_const) ?_
  refine sa ?_
  refine s_nil ?_
  exact k_loop (fuel1, max d1 (wi64 (1 + r1)), wi64 (i1 + 1)) ⟨rfl, rfl, rfl, rfl, trivial⟩ ⟨_, hI.arr .n ⟨(.s (.s (.s .z))), (.s (.s (.s (.s .z)))), (.s (.s (.s (.s (.s .z))))), (.s (.s (.s (.s (.s (.s .z)))))), trivial⟩, h⟩ (Nat.lt_succ_self _)
 ·replace h := ite_f hb h
  refine c_exit ?_
  refine k_in ?_
  refine k_same ?_
  refine sr ?_
  refine sm ?_
  refine sa ?_
  refine nk ?_
  refine c_ret ?_
  obtain rfl := some_inj h
  exact q_ret (vs := [(vi d1)]) Tryz.results105 ⟨ev_tmp rfl rfl, trivial⟩ ⟨rfl, hI.ext0, hI.fin trivial⟩
theorem c_ref14_depth_r (n : Nat) : ∀ (F : NP) (w0 : World) (hF : ∀ k, F k → k < w0.heap.size) (e1 : GExpr) (most1 : Int) (a1 : Option Addr) (c1 : Nat) (a2 : Option Addr) (c2 : Nat) (a3 : Option Addr) (c3 : Nat) (hc : AllCl [Cl.sl cGMono a1 c1 e1.Lin.L, Cl.sl cGIndex a2 c2 e1.Idx, Cl.sl cGExpr a3 c3 e1.Args] F w0) (r : Int) (h : m_ref14_depth_r n e1 most1 = some r), Calls Tryz.prog 105 #[(Value.agg #[(vi e1.Op), (str e1.Name), (vi e1.Val.N), (vi e1.Val.D), (vi e1.Type_.Kind), (vi e1.Type_.Bits), (vi e1.Type_.Frac), (vi e1.Type_.Round), (vi e1.Type_.Over), (vi e1.Lin.K), (vs a1 e1.Lin.L.length c1), (vs a2 e1.Idx.length c2), (vs a3 e1.Args.length c3)]), (vi most1)] w0 fun e w => e = .returned (vi r) ∧ Ext w0 w ∧ AllCl [] F w := by
 induction n with
 | zero => intro F w0 hF e1 most1 a1 c1 a2 c2 a3 c3 hc r h; cases h
 | succ n ih => intro F w0 hF e1 most1 a1 c1 a2 c2 a3 c3 hc r h; exact c_ref14_depth_b (m_ref14_depth_r n) ih F w0 hF e1 most1 a1 c1 a2 c2 a3 c3 hc r h
theorem c_ref14_depth (F : NP) (w0 : World) (hF : ∀ k, F k → k < w0.heap.size) (e1 : GExpr) (most1 : Int) (a1 : Option Addr) (c1 : Nat) (a2 : Option Addr) (c2 : Nat) (a3 : Option Addr) (c3 : Nat) (hc : AllCl [Cl.sl cGMono a1 c1 e1.Lin.L, Cl.sl cGIndex a2 c2 e1.Idx, Cl.sl cGExpr a3 c3 e1.Args] F w0) (r : Int) (h : m_ref14_depth e1 most1 = some r) : Calls Tryz.prog 105 #[(Value.agg #[(vi e1.Op), (str e1.Name), (vi e1.Val.N), (vi e1.Val.D), (vi e1.Type_.Kind), (vi e1.Type_.Bits), (vi e1.Type_.Frac), (vi e1.Type_.Round), (vi e1.Type_.Over), (vi e1.Lin.K), (vs a1 e1.Lin.L.length c1), (vs a2 e1.Idx.length c2), (vs a3 e1.Args.length c3)]), (vi most1)] w0 fun e w => e = .returned (vi r) ∧ Ext w0 w ∧ AllCl [] F w := c_ref14_depth_r fu F w0 hF e1 most1 a1 c1 a2 c2 a3 c3 hc r h
set_option maxRecDepth 100000 in
set_option maxHeartbeats 4000000 in
theorem c_ref14_Depth (F : NP) (w0 : World) (hF : ∀ k, F k → k < w0.heap.size) (e1 : GExpr) (a1 : Option Addr) (c1 : Nat) (a2 : Option Addr) (c2 : Nat) (a3 : Option Addr) (c3 : Nat) (hc : AllCl [Cl.sl cGMono a1 c1 e1.Lin.L, Cl.sl cGIndex a2 c2 e1.Idx, Cl.sl cGExpr a3 c3 e1.Args] F w0) (r : Int)
  (h : m_ref14_Depth e1 = some r) :
  Calls Tryz.prog 49 #[(Value.agg #[(vi e1.Op), (str e1.Name), (vi e1.Val.N), (vi e1.Val.D), (vi e1.Type_.Kind), (vi e1.Type_.Bits), (vi e1.Type_.Frac), (vi e1.Type_.Round), (vi e1.Type_.Over), (vi e1.Lin.K), (vs a1 e1.Lin.L.length c1), (vs a2 e1.Idx.length c2), (vs a3 e1.Args.length c3)])] w0 fun e w => e = .returned (vi r) ∧ Ext w0 w ∧ AllCl [] F w := by
 refine enterK (l := [(Value.agg #[(vi e1.Op), (str e1.Name), (vi e1.Val.N), (vi e1.Val.D), (vi e1.Type_.Kind), (vi e1.Type_.Bits), (vi e1.Type_.Frac), (vi e1.Type_.Round), (vi e1.Type_.Over), (vi e1.Lin.K), (vs a1 e1.Lin.L.length c1), (vs a2 e1.Idx.length c2), (vs a3 e1.Args.length c3)])]) Tryz.func49 rfl Tryz.ntmps49 rfl ?_
 have hI := Bun.start hF hc
 clear hc
 rw [m_ref14_Depth] at h
 refine sr ?_
 refine l_box (v := (Value.agg #[(vi e1.Op), (str e1.Name), (vi e1.Val.N), (vi e1.Val.D), (vi e1.Type_.Kind), (vi e1.Type_.Bits), (vi e1.Type_.Frac), (vi e1.Type_.Round), (vi e1.Type_.Over), (vi e1.Lin.K), (vs a1 e1.Lin.L.length c1), (vs a2 e1.Idx.length c2), (vs a3 e1.Args.length c3)])) (cs := #[(vi e1.Op), (str e1.Name), (vi e1.Val.N), (vi e1.Val.D), (vi e1.Type_.Kind), (vi e1.Type_.Bits), (vi e1.Type_.Frac), (vi e1.Type_.Round), (vi e1.Type_.Over), (vi e1.Lin.K), (vs a1 e1.Lin.L.length c1), (vs a2 e1.Idx.length c2), (vs a3 e1.Args.length c3)]) hI gn rfl rfl et rfl ?_
 clear hI; intro b1 c4 w1 hI
 obtain ⟨c5, hI⟩ := hI.relBox .z
 refine sac ?_
 refine nk ?_
 refine sr ?_
 refine sq (y_loadN (l := [(vi e1.Op), (str e1.Name), (vi e1.Val.N), (vi e1.Val.D), (vi e1.Type_.Kind), (vi e1.Type_.Bits), (vi e1.Type_.Frac), (vi e1.Type_.Round), (vi e1.Type_.Over), (vi e1.Lin.K), (vs a1 e1.Lin.L.length c1), (vs a2 e1.Idx.length c2), (vs a3 e1.Args.length c3)]) rfl et Tryz.underlying39 rfl size_39 (hI.kblk (l := [(vi e1.Op), (str e1.Name), (vi e1.Val.N), (vi e1.Val.D), (vi e1.Type_.Kind), (vi e1.Type_.Bits), (vi e1.Type_.Frac), (vi e1.Type_.Round), (vi e1.Type_.Over), (vi e1.Lin.K), (vs a1 e1.Lin.L.length c1), (vs a2 e1.Idx.length c2), (vs a3 e1.Args.length c3)]) .z rfl).1) ?_
 obtain ⟨r1, hx1, h⟩ := bnd_some h
 refine s_call gn rfl (r_callF (vs := [(Value.agg #[(vi e1.Op), (str e1.Name), (vi e1.Val.N), (vi e1.Val.D), (vi e1.Type_.Kind), (vi e1.Type_.Bits), (vi e1.Type_.Frac), (vi e1.Type_.Round), (vi e1.Type_.Over), (vi e1.Lin.K), (vs a1 e1.Lin.L.length c1), (vs a2 e1.Idx.length c2), (vs a3 e1.Args.length c3)]), (vi 41)]) rfl ok_105 ⟨et, ⟨ev_const, trivial⟩⟩) (Calls.mono (c_ref14_depth (Dj F c5) w1 hI.lt e1 41 a1 c1 a2 c2 a3 c3 ⟨(hI.get (.s .z)), (hI.get (.s (.s .z))), (hI.get (.s (.s (.s .z)))), trivial⟩ r1 hx1) ?_)
 rintro _ w2 ⟨rfl, hx2, hl1⟩
 refine ⟨_, rfl, ?_⟩
 replace hI := (hI.ext hx2)
 refine sa ?_
 refine nk ?_
 refine c_ret ?_
 obtain rfl := some_inj h
 exact q_ret (vs := [(vi r1)]) Tryz.results49 ⟨ev_tmp rfl rfl, trivial⟩ ⟨rfl, hI.ext0, hI.fin trivial⟩
set_option maxRecDepth 100000 in
set_option maxHeartbeats 4000000 in
theorem c_ref14_size_b (rec_ : (GExpr → Int → Option Int)) (hrec : ∀ (F : NP) (w0 : World) (hF : ∀ k, F k → k < w0.heap.size) (e1 : GExpr) (most1 : Int) (a1 : Option Addr) (c1 : Nat) (a2 : Option Addr) (c2 : Nat) (a3 : Option Addr) (c3 : Nat) (hc : AllCl [Cl.sl cGMono a1 c1 e1.Lin.L, Cl.sl cGIndex a2 c2 e1.Idx, Cl.sl cGExpr a3 c3 e1.Args] F w0) (r : Int) (h : rec_ e1 most1 = some r), Calls Tryz.prog 106 #[(Value.agg #[(vi e1.Op), (str e1.Name), (vi e1.Val.N), (vi e1.Val.D), (vi e1.Type_.Kind), (vi e1.Type_.Bits), (vi e1.Type_.Frac), (vi e1.Type_.Round), (vi e1.Type_.Over), (vi e1.Lin.K), (vs a1 e1.Lin.L.length c1), (vs a2 e1.Idx.length c2), (vs a3 e1.Args.length c3)]), (vi most1)] w0 fun e w => e = .returned (vi r) ∧ Ext w0 w ∧ AllCl [] F w)
  (F : NP) (w0 : World) (hF : ∀ k, F k → k < w0.heap.size) (e1 : GExpr) (most1 : Int) (a1 : Option Addr) (c1 : Nat) (a2 : Option Addr) (c2 : Nat) (a3 : Option Addr) (c3 : Nat) (hc : AllCl [Cl.sl cGMono a1 c1 e1.Lin.L, Cl.sl cGIndex a2 c2 e1.Idx, Cl.sl cGExpr a3 c3 e1.Args] F w0) (r : Int) (h : m_ref14_size_b rec_ e1 most1 = some r) : Calls Tryz.prog 106 #[(Value.agg #[(vi e1.Op), (str e1.Name), (vi e1.Val.N), (vi e1.Val.D), (vi e1.Type_.Kind), (vi e1.Type_.Bits), (vi e1.Type_.Frac), (vi e1.Type_.Round), (vi e1.Type_.Over), (vi e1.Lin.K), (vs a1 e1.Lin.L.length c1), (vs a2 e1.Idx.length c2), (vs a3 e1.Args.length c3)]), (vi most1)] w0 fun e w => e = .returned (vi r) ∧ Ext w0 w ∧ AllCl [] F w := by
 refine enterK (l := [(Value.agg #[(vi e1.Op), (str e1.Name), (vi e1.Val.N), (vi e1.Val.D), (vi e1.Type_.Kind), (vi e1.Type_.Bits), (vi e1.Type_.Frac), (vi e1.Type_.Round), (vi e1.Type_.Over), (vi e1.Lin.K), (vs a1 e1.Lin.L.length c1), (vs a2 e1.Idx.length c2), (vs a3 e1.Args.length c3)]), (vi most1)]) Tryz.func106 rfl Tryz.ntmps106 rfl ?_
 have hI := Bun.start hF hc
 clear hc
 rw [m_ref14_size_b] at h
 refine sr ?_
 refine l_box (v := (Value.agg #[(vi e1.Op), (str e1.Name), (vi e1.Val.N), (vi e1.Val.D), (vi e1.Type_.Kind), (vi e1.Type_.Bits), (vi e1.Type_.Frac), (vi e1.Type_.Round), (vi e1.Type_.Over), (vi e1.Lin.K), (vs a1 e1.Lin.L.length c1), (vs a2 e1.Idx.length c2), (vs a3 e1.Args.length c3)])) (cs := #[(vi e1.Op), (str e1.Name), (vi e1.Val.N), (vi e1.Val.D), (vi e1.Type_.Kind), (vi e1.Type_.Bits), (vi e1.Type_.Frac), (vi e1.Type_.Round), (vi e1.Type_.Over), (vi e1.Lin.K), (vs a1 e1.Lin.L.length c1), (vs a2 e1.Idx.length c2), (vs a3 e1.Args.length c3)]) hI gn rfl rfl et rfl ?_
 clear hI; intro b1 c4 w1 hI
 obtain ⟨c5, hI⟩ := hI.relBox .z
 refine sac ?_
 refine nk ?_
 refine sr ?_
 refine sac ?_
 refine nk ?_
 refine c_seq ?_
 refine sr ?_
 refine sac ?_
 refine nk ?_
 refine c_block ?_
 refine c_loop (α := Nat × Int × Int) (fun x => fun w => ∃ C, Bun noM F w0 C w [] [Cl.blk b1 39 #[(vi e1.Op), (str e1.Name), (vi e1.Val.N), (vi e1.Val.D), (vi e1.Type_.Kind), (vi e1.Type_.Bits), (vi e1.Type_.Frac), (vi e1.Type_.Round), (vi e1.Type_.Over), (vi e1.Lin.K), (vs a1 e1.Lin.L.length c1), (vs a2 e1.Idx.length c2), (vs a3 e1.Args.length c3)], Cl.sl cGMono a1 c1 e1.Lin.L, Cl.sl cGIndex a2 c2 e1.Idx, Cl.sl cGExpr a3 c3 e1.Args] ∧ m_ref14_size_l1 e1 most1 rec_ (x.1) (x.2.1) (x.2.2) = some r) (fun x _ => x.1) (fun x => [(1, (vi most1)), (2, (vp b1 0)), (5, (vi (x.2.1))), (6, (vi (x.2.2)))]) (fu, 1, 0) ⟨_, hI.arr .n ⟨.z, (.s .z), (.s (.s .z)), (.s (.s (.s .z))), trivial⟩, h⟩ ⟨rfl, rfl, rfl, rfl, trivial⟩ ?_
 clear h hI; rintro ⟨fuel1, n1, i1⟩ w2 ⟨c6, hI, h⟩
 dsimp only at hI h
 rcases fuel1 with _ | fuel1
 ·rw [m_ref14_size_l1] at h; cases h
 rw [m_ref14_size_l1] at h
 refine c_sub (e := [(1, (vi most1)), (2, (vp b1 0)), (5, (vi n1)), (6, (vi i1))]) ⟨rfl, rfl, rfl, rfl, trivial⟩ ?_
 refine c_seq ?_
 refine sr ?_
 refine sm ?_
 refine sq (y_fieldAddr rfl et Tryz.underlying39 rfl size_37 rfl) ?_
 refine sq (y_load1 (v := (vs a3 e1.Args.length c3)) rfl et Tryz.underlying37 rfl (hI.kblk (l := [(vs a3 e1.Args.length c3)]) .z rfl).1) ?_
 refine sq (y_lenl rfl Tryz.underlying37 et) ?_
 refine sq (y_lss rfl et et) ?_
 refine sm ?_
 refine s_gval (g_true rfl rfl rfl rfl) rfl (fun hc => (y_move rfl et)) ?_
 refine s_gval (g_true rfl rfl rfl rfl) rfl (fun hc => (y_move rfl et)) ?_
 refine s_gval (g_true rfl rfl rfl rfl) rfl (fun hc => (y_leq rfl (ev_gv et hc) (ev_gv et hc))) ?_
 refine sq (y_and rfl et et) ?_
 refine nk ?_
 refine c_cond (b := (decide (i1 < (e1.Args.length : Int))) && (decide (n1 ≤ most1))) et (fun hb => ?_) (fun hb => ?_)
 ·replace h := ite_t hb h
  refine c_skip ?_
  refine k_same ?_
  refine c_seq ?_
  refine c_block ?_
  refine c_region rfl ?_
  refine sm ?_
  refine sq (y_fieldAddr rfl et Tryz.underlying39 rfl size_37 rfl) ?_
  refine sq (y_load1 (v := (vs a3 e1.Args.length c3)) rfl et Tryz.underlying37 rfl (hI.kblk (l := [(vs a3 e1.Args.length c3)]) .z rfl).1) ?_
  refine sm ?_
  obtain ⟨e2, hx1, h⟩ := bnd_some h
  obtain ⟨ad1, cs1, hA1, hr1, hq1⟩ := hI.clat (.s (.s (.s .z))) hx1
  obtain ⟨a4, c7, a5, c8, a6, c9, rfl, hf1, hf2, hf3⟩ := cGExpr_out hr1
  have hI := hI.add (c := Cl.sl cGMono a4 c7 e2.Lin.L) hf1
  have hI := hI.add (c := Cl.sl cGIndex a5 c8 e2.Idx) hf2
  have hI := hI.add (c := Cl.sl cGExpr a6 c9 e2.Args) hf3
  refine sq (y_indexAddr rfl Tryz.underlying37 size_39 et et (lat_bd hx1) hA1) ?_
  refine sq (y_loadN (l := [(vi e2.Op), (str e2.Name), (vi e2.Val.N), (vi e2.Val.D), (vi e2.Type_.Kind), (vi e2.Type_.Bits), (vi e2.Type_.Frac), (vi e2.Type_.Round), (vi e2.Type_.Over), (vi e2.Lin.K), (vs a4 e2.Lin.L.length c7), (vs a5 e2.Idx.length c8), (vs a6 e2.Args.length c9)]) rfl et Tryz.underlying39 rfl size_39 hq1.1) ?_
  refine sm ?_
  refine sm ?_
  refine sq (y_sub rfl et et) ?_
  obtain ⟨r1, hx2, h⟩ := bnd_some h
  refine s_call gn rfl (r_callF (vs := [(Value.agg #[(vi e2.Op), (str e2.Name), (vi e2.Val.N), (vi e2.Val.D), (vi e2.Type_.Kind), (vi e2.Type_.Bits), (vi e2.Type_.Frac), (vi e2.Type_.Round), (vi e2.Type_.Over), (vi e2.Lin.K), (vs a4 e2.Lin.L.length c7), (vs a5 e2.Idx.length c8), (vs a6 e2.Args.length c9)]), (vi (wi64 (most1 - n1)))]) rfl ok_106 ⟨et, ⟨et, trivial⟩⟩) (Calls.mono (hrec (Dj F c6) w2 hI.lt e2 (wi64 (most1 - n1)) a4 c7 a5 c8 a6 c9 ⟨(hI.get (.s (.s .z))), (hI.get (.s .z)), (hI.get .z), trivial⟩ r1 hx2) ?_)
  rintro _ w3 ⟨rfl, hx3, hl1⟩
  refine ⟨_, rfl, ?_⟩
  replace hI := (hI.ext hx3)
  refine sq (y_add rfl et et) ?_
  refine sa ?_
  refine nk ?_
  refine c_region rfl ?_
  refine sm ?_
  refine sq (y_add rfl et ev_const) ?_
  refine sa ?_
  refine s_nil ?_
  exact k_loop (fuel1, wi64 (n1 + r1), wi64 (i1 + 1)) ⟨rfl, rfl, rfl, rfl, trivial⟩ ⟨_, hI.arr .n ⟨(.s (.s (.s .z))), (.s (.s (.s (.s .z)))), (.s (.s (.s (.s (.s .z))))), (.s (.s (.s (.s (.s (.s .z)))))), trivial⟩, h⟩ (Nat.lt_succ_self _)
 ·replace h := ite_f hb h
  refine c_exit ?_
  refine k_in ?_
  refine k_same ?_
  refine sr ?_
  refine sm ?_
  refine sa ?_
  refine nk ?_
  refine c_ret ?_
  obtain rfl := some_inj h
  exact q_ret (vs := [(vi n1)]) Tryz.results106 ⟨ev_tmp rfl rfl, trivial⟩ ⟨rfl, hI.ext0, hI.fin trivial⟩
theorem c_ref14_size_r (n : Nat) : ∀ (F : NP) (w0 : World) (hF : ∀ k, F k → k < w0.heap.size) (e1 : GExpr) (most1 : Int) (a1 : Option Addr) (c1 : Nat) (a2 : Option Addr) (c2 : Nat) (a3 : Option Addr) (c3 : Nat) (hc : AllCl [Cl.sl cGMono a1 c1 e1.Lin.L, Cl.sl cGIndex a2 c2 e1.Idx, Cl.sl cGExpr a3 c3 e1.Args] F w0) (r : Int) (h : m_ref14_size_r n e1 most1 = some r), Calls Tryz.prog 106 #[(Value.agg #[(vi e1.Op), (str e1.Name), (vi e1.Val.N), (vi e1.Val.D), (vi e1.Type_.Kind), (vi e1.Type_.Bits), (vi e1.Type_.Frac), (vi e1.Type_.Round), (vi e1.Type_.Over), (vi e1.Lin.K), (vs a1 e1.Lin.L.length c1), (vs a2 e1.Idx.length c2), (vs a3 e1.Args.length c3)]), (vi most1)] w0 fun e w => e = .returned (vi r) ∧ Ext w0 w ∧ AllCl [] F w := by
 induction n with
 | zero => intro F w0 hF e1 most1 a1 c1 a2 c2 a3 c3 hc r h; cases h
 | succ n ih => intro F w0 hF e1 most1 a1 c1 a2 c2 a3 c3 hc r h; exact c_ref14_size_b (m_ref14_size_r n) ih F w0 hF e1 most1 a1 c1 a2 c2 a3 c3 hc r h
theorem c_ref14_size (F : NP) (w0 : World) (hF : ∀ k, F k → k < w0.heap.size) (e1 : GExpr) (most1 : Int) (a1 : Option Addr) (c1 : Nat) (a2 : Option Addr) (c2 : Nat) (a3 : Option Addr) (c3 : Nat) (hc : AllCl [Cl.sl cGMono a1 c1 e1.Lin.L, Cl.sl cGIndex a2 c2 e1.Idx, Cl.sl cGExpr a3 c3 e1.Args] F w0) (r : Int) (h : m_ref14_size e1 most1 = some r) : Calls Tryz.prog 106 #[(Value.agg #[(vi e1.Op), (str e1.Name), (vi e1.Val.N), (vi e1.Val.D), (vi e1.Type_.Kind), (vi e1.Type_.Bits), (vi e1.Type_.Frac), (vi e1.Type_.Round), (vi e1.Type_.Over), (vi e1.Lin.K), (vs a1 e1.Lin.L.length c1), (vs a2 e1.Idx.length c2), (vs a3 e1.Args.length c3)]), (vi most1)] w0 fun e w => e = .returned (vi r) ∧ Ext w0 w ∧ AllCl [] F w := c_ref14_size_r fu F w0 hF e1 most1 a1 c1 a2 c2 a3 c3 hc r h
set_option maxRecDepth 100000 in
set_option maxHeartbeats 4000000 in
theorem c_ref14_Size (F : NP) (w0 : World) (hF : ∀ k, F k → k < w0.heap.size) (e1 : GExpr) (a1 : Option Addr) (c1 : Nat) (a2 : Option Addr) (c2 : Nat) (a3 : Option Addr) (c3 : Nat) (hc : AllCl [Cl.sl cGMono a1 c1 e1.Lin.L, Cl.sl cGIndex a2 c2 e1.Idx, Cl.sl cGExpr a3 c3 e1.Args] F w0) (r : Int)
  (h : m_ref14_Size e1 = some r) :
  Calls Tryz.prog 50 #[(Value.agg #[(vi e1.Op), (str e1.Name), (vi e1.Val.N), (vi e1.Val.D), (vi e1.Type_.Kind), (vi e1.Type_.Bits), (vi e1.Type_.Frac), (vi e1.Type_.Round), (vi e1.Type_.Over), (vi e1.Lin.K), (vs a1 e1.Lin.L.length c1), (vs a2 e1.Idx.length c2), (vs a3 e1.Args.length c3)])] w0 fun e w => e = .returned (vi r) ∧ Ext w0 w ∧ AllCl [] F w := by
 refine enterK (l := [(Value.agg #[(vi e1.Op), (str e1.Name), (vi e1.Val.N), (vi e1.Val.D), (vi e1.Type_.Kind), (vi e1.Type_.Bits), (vi e1.Type_.Frac), (vi e1.Type_.Round), (vi e1.Type_.Over), (vi e1.Lin.K), (vs a1 e1.Lin.L.length c1), (vs a2 e1.Idx.length c2), (vs a3 e1.Args.length c3)])]) Tryz.func50 rfl Tryz.ntmps50 rfl ?_
 have hI := Bun.start hF hc
 clear hc
 rw [m_ref14_Size] at h
 refine sr ?_
 refine l_box (v := (Value.agg #[(vi e1.Op), (str e1.Name), (vi e1.Val.N), (vi e1.Val.D), (vi e1.Type_.Kind), (vi e1.Type_.Bits), (vi e1.Type_.Frac), (vi e1.Type_.Round), (vi e1.Type_.Over), (vi e1.Lin.K), (vs a1 e1.Lin.L.length c1), (vs a2 e1.Idx.length c2), (vs a3 e1.Args.length c3)])) (cs := #[(vi e1.Op), (str e1.Name), (vi e1.Val.N), (vi e1.Val.D), (vi e1.Type_.Kind), (vi e1.Type_.Bits), (vi e1.Type_.Frac), (vi e1.Type_.Round), (vi e1.Type_.Over), (vi e1.Lin.K), (vs a1 e1.Lin.L.length c1), (vs a2 e1.Idx.length c2), (vs a3 e1.Args.length c3)]) hI gn rfl rfl et rfl ?_
 clear hI; intro b1 c4 w1 hI
 obtain ⟨c5, hI⟩ := hI.relBox .z
 refine sac ?_
 refine nk ?_
 refine sr ?_
 refine sq (y_loadN (l := [(vi e1.Op), (str e1.Name), (vi e1.Val.N), (vi e1.Val.D), (vi e1.Type_.Kind), (vi e1.Type_.Bits), (vi e1.Type_.Frac), (vi e1.Type_.Round), (vi e1.Type_.Over), (vi e1.Lin.K), (vs a1 e1.Lin.L.length c1), (vs a2 e1.Idx.length c2), (vs a3 e1.Args.length c3)]) rfl et Tryz.underlying39 rfl size_39 (hI.kblk (l := [(vi e1.Op), (str e1.Name), (vi e1.Val.N), (vi e1.Val.D), (vi e1.Type_.Kind), (vi e1.Type_.Bits), (vi e1.Type_.Frac), (vi e1.Type_.Round), (vi e1.Type_.Over), (vi e1.Lin.K), (vs a1 e1.Lin.L.length c1), (vs a2 e1.Idx.length c2), (vs a3 e1.Args.length c3)]) .z rfl).1) ?_
 obtain ⟨r1, hx1, h⟩ := bnd_some h
 refine s_call gn rfl (r_callF (vs := [(Value.agg #[(vi e1.Op), (str e1.Name), (vi e1.Val.N), (vi e1.Val.D), (vi e1.Type_.Kind), (vi e1.Type_.Bits), (vi e1.Type_.Frac), (vi e1.Type_.Round), (vi e1.Type_.Over), (vi e1.Lin.K), (vs a1 e1.Lin.L.length c1), (vs a2 e1.Idx.length c2), (vs a3 e1.Args.length c3)]), (vi 2000)]) rfl ok_106 ⟨et, ⟨ev_const, trivial⟩⟩) (Calls.mono (c_ref14_size (Dj F c5) w1 hI.lt e1 2000 a1 c1 a2 c2 a3 c3 ⟨(hI.get (.s .z)), (hI.get (.s (.s .z))), (hI.get (.s (.s (.s .z)))), trivial⟩ r1 hx1) ?_)
 rintro _ w2 ⟨rfl, hx2, hl1⟩
 refine ⟨_, rfl, ?_⟩
 replace hI := (hI.ext hx2)
 refine sq (y_min rfl et ev_const) ?_
 refine sa ?_
 refine nk ?_
 refine c_ret ?_
 obtain rfl := some_inj h
 exact q_ret (vs := [(vi (min r1 2001))]) Tryz.results50 ⟨ev_tmp rfl rfl, trivial⟩ ⟨rfl, hI.ext0, hI.fin trivial⟩
set_option maxRecDepth 100000 in
set_option maxHeartbeats 4000000 in
theorem c_ref14_plain (F : NP) (w0 : World) (hF : ∀ k, F k → k < w0.heap.size) (e1 : GExpr) (a1 : Option Addr) (c1 : Nat) (a2 : Option Addr) (c2 : Nat) (a3 : Option Addr) (c3 : Nat) (hc : AllCl [Cl.sl cGMono a1 c1 e1.Lin.L, Cl.sl cGIndex a2 c2 e1.Idx, Cl.sl cGExpr a3 c3 e1.Args] F w0) (r : Bool)
  (h : m_ref14_plain e1 = some r) :
  Calls Tryz.prog 107 #[(Value.agg #[(vi e1.Op), (str e1.Name), (vi e1.Val.N), (vi e1.Val.D), (vi e1.Type_.Kind), (vi e1.Type_.Bits), (vi e1.Type_.Frac), (vi e1.Type_.Round), (vi e1.Type_.Over), (vi e1.Lin.K), (vs a1 e1.Lin.L.length c1), (vs a2 e1.Idx.length c2), (vs a3 e1.Args.length c3)])] w0 fun e w => e = .returned (vb r) ∧ Ext w0 w ∧ AllCl [] F w := by
 refine enterK (l := [(Value.agg #[(vi e1.Op), (str e1.Name), (vi e1.Val.N), (vi e1.Val.D), (vi e1.Type_.Kind), (vi e1.Type_.Bits), (vi e1.Type_.Frac), (vi e1.Type_.Round), (vi e1.Type_.Over), (vi e1.Lin.K), (vs a1 e1.Lin.L.length c1), (vs a2 e1.Idx.length c2), (vs a3 e1.Args.length c3)])]) Tryz.func107 rfl Tryz.ntmps107 rfl ?_
 have hI := Bun.start hF hc
 clear hc
 rw [m_ref14_plain] at h
 refine sr ?_
 refine l_box (v := (Value.agg #[(vi e1.Op), (str e1.Name), (vi e1.Val.N), (vi e1.Val.D), (vi e1.Type_.Kind), (vi e1.Type_.Bits), (vi e1.Type_.Frac), (vi e1.Type_.Round), (vi e1.Type_.Over), (vi e1.Lin.K), (vs a1 e1.Lin.L.length c1), (vs a2 e1.Idx.length c2), (vs a3 e1.Args.length c3)])) (cs := #[(vi e1.Op), (str e1.Name), (vi e1.Val.N), (vi e1.Val.D), (vi e1.Type_.Kind), (vi e1.Type_.Bits), (vi e1.Type_.Frac), (vi e1.Type_.Round), (vi e1.Type_.Over), (vi e1.Lin.K), (vs a1 e1.Lin.L.length c1), (vs a2 e1.Idx.length c2), (vs a3 e1.Args.length c3)]) hI gn rfl rfl et rfl ?_
 clear hI; intro b1 c4 w1 hI
 obtain ⟨c5, hI⟩ := hI.relBox .z
 refine sac ?_
 refine nk ?_
 refine c_seq ?_
 refine sr ?_
 refine sq (y_fieldAddr rfl et Tryz.underlying39 rfl size_3 rfl) ?_
 refine sq (y_load1 (v := (vi e1.Op)) rfl et Tryz.underlying3 rfl (hI.kblk (l := [(vi e1.Op)]) .z rfl).1) ?_
 refine sq (y_lss rfl et ev_const) ?_
 refine sm ?_
 refine s_gval (g_false rfl rfl rfl rfl) rfl (fun hc => (y_fieldAddr rfl et Tryz.underlying39 rfl size_3 rfl)) ?_
 refine s_gval (g_false rfl rfl rfl rfl) rfl (fun hc => (y_load1 (v := (vi e1.Op)) rfl (ev_gv et hc) Tryz.underlying3 rfl (hI.kblk (l := [(vi e1.Op)]) .z rfl).1)) ?_
 refine s_gval (g_false rfl rfl rfl rfl) rfl (fun hc => (y_gtr rfl (ev_gv et hc) ev_const)) ?_
 refine sq (y_or rfl et et) ?_
 refine nk ?_
 refine c_cond (b := (decide (e1.Op < 1)) || (decide (18 < e1.Op))) et (fun hb => ?_) (fun hb => ?_)
 ·replace h := ite_t hb h
  refine sr ?_
  refine sac ?_
  refine nk ?_
  refine c_ret ?_
  obtain rfl := some_inj h
  exact q_ret (vs := [(vb false)]) Tryz.results107 ⟨ev_tmp rfl rfl, trivial⟩ ⟨rfl, hI.ext0, hI.fin trivial⟩
 ·replace h := ite_f hb h
  refine c_skip ?_
  refine k_same ?_
  refine c_seq ?_
  refine sr ?_
  refine sq (y_fieldAddr rfl et Tryz.underlying39 rfl size_3 rfl) ?_
  refine sq (y_load1 (v := (vi e1.Op)) rfl et Tryz.underlying3 rfl (hI.kblk (l := [(vi e1.Op)]) .z rfl).1) ?_
  refine sq (y_neq rfl et ev_const) ?_
  refine sm ?_
  refine s_gval (g_true rfl rfl rfl rfl) rfl (fun hc => (y_fieldAddr rfl et Tryz.underlying39 rfl size_36 rfl)) ?_
  refine s_gval (g_true rfl rfl rfl rfl) rfl (fun hc => (y_loadN (l := [(vi e1.Val.N), (vi e1.Val.D)]) rfl (ev_gv et hc) Tryz.underlying36 rfl size_36 (hI.kblk (l := [(vi e1.Val.N), (vi e1.Val.D)]) .z rfl).1)) ?_
  refine s_gval (g_true rfl rfl rfl rfl) rfl (fun hc => (y_build (vs := []) (cs := #[(vi 0), (vi 0)]) rfl trivial (by kernel_rfl))) ?_
  refine s_gval (g_true rfl rfl rfl rfl) rfl (fun hc => (y_bin rfl (ev_gv et hc) (ev_gv et hc) (eqstruct_36n ..) (eqguard_36 ..))) ?_
  refine sq (y_and rfl et et) ?_
  refine sm ?_
  refine s_gval (g_false rfl rfl rfl rfl) rfl (fun hc => (y_fieldAddr rfl et Tryz.underlying39 rfl size_3 rfl)) ?_
  refine s_gval (g_false rfl rfl rfl rfl) rfl (fun hc => (y_load1 (v := (vi e1.Op)) rfl (ev_gv et hc) Tryz.underlying3 rfl (hI.kblk (l := [(vi e1.Op)]) .z rfl).1)) ?_
  refine s_gval (g_false rfl rfl rfl rfl) rfl (fun hc => (y_neq rfl (ev_gv et hc) ev_const)) ?_
  refine s_gval (g_false rfl rfl rfl rfl) rfl (fun hc => (y_move rfl (ev_gv et hc))) ?_
  refine s_gval (g_true2 rfl rfl rfl rfl) rfl (fun hc => (y_fieldAddr rfl et Tryz.underlying39 rfl size_3 rfl)) ?_
  refine s_gval (g_true2 rfl rfl rfl rfl) rfl (fun hc => (y_load1 (v := (vi e1.Op)) rfl (ev_gv et hc) Tryz.underlying3 rfl (hI.kblk (l := [(vi e1.Op)]) .z rfl).1)) ?_
  refine s_gval (g_true2 rfl rfl rfl rfl) rfl (fun hc => (y_neq rfl (ev_gv et hc) ev_const)) ?_
  refine s_gval (g_false rfl rfl rfl rfl) rfl (fun hc => (y_and2 rfl hc et et)) ?_
  refine s_gval (g_false rfl rfl rfl rfl) rfl (fun hc => (y_move rfl (ev_gv et hc))) ?_
  refine s_gval (g_true2 rfl rfl rfl rfl) rfl (fun hc => (y_fieldAddr rfl et Tryz.underlying39 rfl size_23 rfl)) ?_
  refine s_gval (g_true2 rfl rfl rfl rfl) rfl (fun hc => (y_loadN (l := [(vi e1.Type_.Kind), (vi e1.Type_.Bits), (vi e1.Type_.Frac), (vi e1.Type_.Round), (vi e1.Type_.Over)]) rfl (ev_gv et hc) Tryz.underlying23 rfl size_23 (hI.kblk (l := [(vi e1.Type_.Kind), (vi e1.Type_.Bits), (vi e1.Type_.Frac), (vi e1.Type_.Round), (vi e1.Type_.Over)]) .z rfl).1)) ?_
  refine s_gval (g_true2 rfl rfl rfl rfl) rfl (fun hc => (y_build (vs := []) (cs := #[(vi 0), (vi 0), (vi 0), (vi 0), (vi 0)]) rfl trivial (by kernel_rfl))) ?_
  refine s_gval (g_true2 rfl rfl rfl rfl) rfl (fun hc => (y_bin rfl (ev_gv et hc) (ev_gv et hc) (eqstruct_23n ..) (eqguard_23 ..))) ?_
  refine s_gval (g_false rfl rfl rfl rfl) rfl (fun hc => (y_and2 rfl hc et et)) ?_
  refine sq (y_or rfl et et) ?_
  refine s_nil ?_
  refine k_next (e := [(1, (vp b1 0)), (37, (vb (((!decide (e1.Op = 1)) && (!((decide (e1.Val.N = 0)) && (decide (e1.Val.D = 0))))) || (((!decide (e1.Op = 1)) && (!decide (e1.Op = 12))) && (!((decide (e1.Type_.Kind = 0)) && (decide (e1.Type_.Bits = 0)) && (decide (e1.Type_.Frac = 0)) && (decide (e1.Type_.Round = 0)) && (decide (e1.Type_.Over = 0))))))))]) ⟨rfl, rfl, trivial⟩ ?_
  refine c_cond (b := ((!decide (e1.Op = 1)) && (!((decide (e1.Val.N = 0)) && (decide (e1.Val.D = 0))))) || (((!decide (e1.Op = 1)) && (!decide (e1.Op = 12))) && (!((decide (e1.Type_.Kind = 0)) && (decide (e1.Type_.Bits = 0)) && (decide (e1.Type_.Frac = 0)) && (decide (e1.Type_.Round = 0)) && (decide (e1.Type_.Over = 0)))))) et (fun hb => ?_) (fun hb => ?_)
  ·replace h := ite_t hb h
   refine sr ?_
   refine sac ?_
   refine nk ?_
   refine c_ret ?_
   obtain rfl := some_inj h
   exact q_ret (vs := [(vb false)]) Tryz.results107 ⟨ev_tmp rfl rfl, trivial⟩ ⟨rfl, hI.ext0, hI.fin trivial⟩
  ·replace h := ite_f hb h
   refine c_skip ?_
   refine k_same ?_
   refine c_seq ?_
   refine sr ?_
   refine sq (y_fieldAddr rfl et Tryz.underlying39 rfl size_3 rfl) ?_
   refine sq (y_load1 (v := (vi e1.Op)) rfl et Tryz.underlying3 rfl (hI.kblk (l := [(vi e1.Op)]) .z rfl).1) ?_
   refine sq (y_neq rfl et ev_const) ?_
   refine sm ?_
   refine s_gval (g_true rfl rfl rfl rfl) rfl (fun hc => (y_fieldAddr rfl et Tryz.underlying39 rfl size_29 rfl)) ?_
   refine s_gval (g_true rfl rfl rfl rfl) rfl (fun hc => (y_fieldAddr rfl (ev_gv et hc) Tryz.underlying29 rfl size_2 rfl)) ?_
   refine s_gval (g_true rfl rfl rfl rfl) rfl (fun hc => (y_load1 (v := (vi e1.Lin.K)) rfl (ev_gv et hc) Tryz.underlying2 rfl (hI.kblk (l := [(vi e1.Lin.K)]) .z rfl).1)) ?_
   refine s_gval (g_true rfl rfl rfl rfl) rfl (fun hc => (y_neq rfl (ev_gv et hc) ev_const)) ?_
   refine s_gval (g_true rfl rfl rfl rfl) rfl (fun hc => (y_move rfl (ev_gv et hc))) ?_
   refine s_gval (g_false2 rfl rfl rfl rfl) rfl (fun hc => (y_fieldAddr rfl et Tryz.underlying39 rfl size_29 rfl)) ?_
   refine s_gval (g_false2 rfl rfl rfl rfl) rfl (fun hc => (y_fieldAddr rfl (ev_gv et hc) Tryz.underlying29 rfl size_27 rfl)) ?_
   refine s_gval (g_false2 rfl rfl rfl rfl) rfl (fun hc => (y_load1 (v := (vs a1 e1.Lin.L.length c1)) rfl (ev_gv et hc) Tryz.underlying27 rfl (hI.kblk (l := [(vs a1 e1.Lin.L.length c1)]) .z rfl).1)) ?_
   refine s_gval (g_false2 rfl rfl rfl rfl) rfl (fun hc => (y_lenl rfl Tryz.underlying27 (ev_gv et hc))) ?_
   refine s_gval (g_false2 rfl rfl rfl rfl) rfl (fun hc => (y_gtr rfl (ev_gv et hc) ev_const)) ?_
   refine s_gval (g_true rfl rfl rfl rfl) rfl (fun hc => (y_or2 rfl hc et et)) ?_
   refine sq (y_and rfl et et) ?_
   refine sm ?_
   refine s_gval (g_false rfl rfl rfl rfl) rfl (fun hc => (y_fieldAddr rfl et Tryz.underlying39 rfl size_3 rfl)) ?_
   refine s_gval (g_false rfl rfl rfl rfl) rfl (fun hc => (y_load1 (v := (vi e1.Op)) rfl (ev_gv et hc) Tryz.underlying3 rfl (hI.kblk (l := [(vi e1.Op)]) .z rfl).1)) ?_
   refine s_gval (g_false rfl rfl rfl rfl) rfl (fun hc => (y_neq rfl (ev_gv et hc) ev_const)) ?_
   refine s_gval (g_false rfl rfl rfl rfl) rfl (fun hc => (y_move rfl (ev_gv et hc))) ?_
   refine s_gval (g_true2 rfl rfl rfl rfl) rfl (fun hc => (y_fieldAddr rfl et Tryz.underlying39 rfl size_9 rfl)) ?_
   refine s_gval (g_true2 rfl rfl rfl rfl) rfl (fun hc => (y_load1 (v := (str e1.Name)) rfl (ev_gv et hc) Tryz.underlying9 rfl (hI.kblk (l := [(str e1.Name)]) .z rfl).1)) ?_
   refine s_gval (g_true2 rfl rfl rfl rfl) rfl (fun hc => (y_nes rfl (ev_gv et hc) ev_const)) ?_
   refine s_gval (g_true2 rfl rfl rfl rfl) rfl (fun hc => (y_move rfl (ev_gv et hc))) ?_
   refine s_gval (g_false2 rfl rfl rfl rfl) rfl (fun hc => (y_fieldAddr rfl et Tryz.underlying39 rfl size_34 rfl)) ?_
   refine s_gval (g_false2 rfl rfl rfl rfl) rfl (fun hc => (y_load1 (v := (vs a2 e1.Idx.length c2)) rfl (ev_gv et hc) Tryz.underlying34 rfl (hI.kblk (l := [(vs a2 e1.Idx.length c2)]) .z rfl).1)) ?_
   refine s_gval (g_false2 rfl rfl rfl rfl) rfl (fun hc => (y_lenl rfl Tryz.underlying34 (ev_gv et hc))) ?_
   refine s_gval (g_false2 rfl rfl rfl rfl) rfl (fun hc => (y_gtr rfl (ev_gv et hc) ev_const)) ?_
   refine s_gval (g_true2 rfl rfl rfl rfl) rfl (fun hc => (y_or2 rfl hc et et)) ?_
   refine s_gval (g_false rfl rfl rfl rfl) rfl (fun hc => (y_and2 rfl hc et et)) ?_
   refine sq (y_or rfl et et) ?_
   refine s_nil ?_
   refine k_next (e := [(1, (vp b1 0)), (69, (vb (((!decide (e1.Op = 2)) && ((!decide (e1.Lin.K = 0)) || (decide (0 < (e1.Lin.L.length : Int))))) || ((!decide (e1.Op = 3)) && ((!decide (e1.Name = ([] : List UInt8))) || (decide (0 < (e1.Idx.length : Int))))))))]) ⟨rfl, rfl, trivial⟩ ?_
   refine c_cond (b := ((!decide (e1.Op = 2)) && ((!decide (e1.Lin.K = 0)) || (decide (0 < (e1.Lin.L.length : Int))))) || ((!decide (e1.Op = 3)) && ((!decide (e1.Name = ([] : List UInt8))) || (decide (0 < (e1.Idx.length : Int)))))) et (fun hb => ?_) (fun hb => ?_)
   ·replace h := ite_t hb h
    refine sr ?_
    refine sac ?_
    refine nk ?_
    refine c_ret ?_
    obtain rfl := some_inj h
    exact q_ret (vs := [(vb false)]) Tryz.results107 ⟨ev_tmp rfl rfl, trivial⟩ ⟨rfl, hI.ext0, hI.fin trivial⟩
   ·replace h := ite_f hb h
    refine c_skip ?_
    refine k_same ?_
    refine c_seq ?_
    refine sr ?_
    refine sac ?_
    refine nk ?_
    refine c_block ?_
    refine c_loop (α := Nat × Int) (fun x => fun w => ∃ C, Bun noM F w0 C w [] [Cl.blk b1 39 #[(vi e1.Op), (str e1.Name), (vi e1.Val.N), (vi e1.Val.D), (vi e1.Type_.Kind), (vi e1.Type_.Bits), (vi e1.Type_.Frac), (vi e1.Type_.Round), (vi e1.Type_.Over), (vi e1.Lin.K), (vs a1 e1.Lin.L.length c1), (vs a2 e1.Idx.length c2), (vs a3 e1.Args.length c3)], Cl.sl cGMono a1 c1 e1.Lin.L, Cl.sl cGIndex a2 c2 e1.Idx, Cl.sl cGExpr a3 c3 e1.Args] ∧ m_ref14_plain_l1 e1 (x.1) (x.2) = some r) (fun x _ => x.1) (fun x => [(1, (vp b1 0)), (3, (vi (x.2)))]) (fu, 0) ⟨_, hI.arr .n ⟨.z, (.s .z), (.s (.s .z)), (.s (.s (.s .z))), trivial⟩, h⟩ ⟨rfl, rfl, trivial⟩ ?_
    clear h hI; rintro ⟨fuel1, i1⟩ w2 ⟨c6, hI, h⟩
    dsimp only at hI h
    rcases fuel1 with _ | fuel1
    ·rw [m_ref14_plain_l1] at h; cases h
    rw [m_ref14_plain_l1] at h
    refine c_sub (e := [(1, (vp b1 0)), (3, (vi i1))]) ⟨rfl, rfl, trivial⟩ ?_
    refine c_seq ?_
    refine sr ?_
    refine sm ?_
    refine sq (y_fieldAddr rfl et Tryz.underlying39 rfl size_34 rfl) ?_
    refine sq (y_load1 (v := (vs a2 e1.Idx.length c2)) rfl et Tryz.underlying34 rfl (hI.kblk (l := [(vs a2 e1.Idx.length c2)]) .z rfl).1) ?_
    refine sq (y_lenl rfl Tryz.underlying34 et) ?_
    refine sq (y_lss rfl et et) ?_
    refine nk ?_
    refine c_cond (b := decide (i1 < (e1.Idx.length : Int))) et (fun hb => ?_) (fun hb => ?_)
    ·replace h := ite_t hb h
     refine c_skip ?_
     refine k_same ?_
     refine c_seq ?_
     refine c_block ?_
     refine sr ?_
     refine sq (y_fieldAddr rfl et Tryz.underlying39 rfl size_34 rfl) ?_
     refine sq (y_load1 (v := (vs a2 e1.Idx.length c2)) rfl et Tryz.underlying34 rfl (hI.kblk (l := [(vs a2 e1.Idx.length c2)]) .z rfl).1) ?_
     refine sm ?_
     obtain ⟨e2, hx1, h⟩ := bnd_some h
     obtain ⟨ad1, cs1, hA1, hr1, hq1⟩ := hI.clat (.s (.s .z)) hx1
     obtain ⟨a4, c7, a5, c8, rfl, hf1, hf2⟩ := hr1
     have hI := hI.add (c := Cl.sl cGMono a4 c7 e2.Lin.L) hf1
     have hI := hI.add (c := Cl.sl cGLin a5 c8 e2.At) hf2
     refine sq (y_indexAddr rfl Tryz.underlying34 size_32 et et (lat_bd hx1) hA1) ?_
     refine sq (y_loadN (l := [(vi e2.Lin.K), (vs a4 e2.Lin.L.length c7), (str e2.From), (vs a5 e2.At.length c8)]) rfl et Tryz.underlying32 rfl size_32 hq1.1) ?_
     refine l_alloc (cs := #[(vi 0), (vs none 0 0), (str ([] : List UInt8)), (vs none 0 0)]) hI gn rfl rfl zero_32 rfl ?_
     clear hI; intro b2 c9 w3 hI
     refine l_store (new := [(vi e2.Lin.K), (vs a4 e2.Lin.L.length c7), (str e2.From), (vs a5 e2.At.length c8)]) (cs' := #[(vi e2.Lin.K), (vs a4 e2.Lin.L.length c7), (str e2.From), (vs a5 e2.At.length c8)]) hI .z gn rfl rfl et et rfl size_32 rfl rfl rfl ?_
     clear hI; intro c10 w4 hI
     refine nk ?_
     refine sr ?_
     refine sq (y_fieldAddr rfl et Tryz.underlying32 rfl size_9 rfl) ?_
     refine sq (y_load1 (v := (str e2.From)) rfl et Tryz.underlying9 rfl (CellsAt.of_blk (hI.blk .z) rfl)) ?_
     refine sq (y_eqs rfl et ev_const) ?_
     refine sm ?_
     refine s_gval (g_true rfl rfl rfl rfl) rfl (fun hc => (y_fieldAddr rfl et Tryz.underlying32 rfl size_30 rfl)) ?_
     refine s_gval (g_true rfl rfl rfl rfl) rfl (fun hc => (y_load1 (v := (vs a5 e2.At.length c8)) rfl (ev_gv et hc) Tryz.underlying30 rfl (CellsAt.of_blk (hI.blk .z) rfl))) ?_
     refine s_gval (g_true rfl rfl rfl rfl) rfl (fun hc => (y_lenl rfl Tryz.underlying30 (ev_gv et hc))) ?_
     refine s_gval (g_true rfl rfl rfl rfl) rfl (fun hc => (y_gtr rfl (ev_gv et hc) ev_const)) ?_
     refine sq (y_and rfl et et) ?_
     refine sm ?_
     refine s_gval (g_false rfl rfl rfl rfl) rfl (fun hc => (y_fieldAddr rfl et Tryz.underlying32 rfl size_9 rfl)) ?_
     refine s_gval (g_false rfl rfl rfl rfl) rfl (fun hc => (y_load1 (v := (str e2.From)) rfl (ev_gv et hc) Tryz.underlying9 rfl (CellsAt.of_blk (hI.blk .z) rfl))) ?_
     refine s_gval (g_false rfl rfl rfl rfl) rfl (fun hc => (y_nes rfl (ev_gv et hc) ev_const)) ?_
     refine s_gval (g_false rfl rfl rfl rfl) rfl (fun hc => (y_move rfl (ev_gv et hc))) ?_
     refine s_gval (g_true2 rfl rfl rfl rfl) rfl (fun hc => (y_fieldAddr rfl et Tryz.underlying32 rfl size_29 rfl)) ?_
     refine s_gval (g_true2 rfl rfl rfl rfl) rfl (fun hc => (y_fieldAddr rfl (ev_gv et hc) Tryz.underlying29 rfl size_2 rfl)) ?_
     refine s_gval (g_true2 rfl rfl rfl rfl) rfl (fun hc => (y_load1 (v := (vi e2.Lin.K)) rfl (ev_gv et hc) Tryz.underlying2 rfl (CellsAt.of_blk (hI.blk .z) rfl))) ?_
     refine s_gval (g_true2 rfl rfl rfl rfl) rfl (fun hc => (y_neq rfl (ev_gv et hc) ev_const)) ?_
     refine s_gval (g_true2 rfl rfl rfl rfl) rfl (fun hc => (y_move rfl (ev_gv et hc))) ?_
     refine s_gval (g_false2 rfl rfl rfl rfl) rfl (fun hc => (y_fieldAddr rfl et Tryz.underlying32 rfl size_29 rfl)) ?_
     refine s_gval (g_false2 rfl rfl rfl rfl) rfl (fun hc => (y_fieldAddr rfl (ev_gv et hc) Tryz.underlying29 rfl size_27 rfl)) ?_
     refine s_gval (g_false2 rfl rfl rfl rfl) rfl (fun hc => (y_load1 (v := (vs a4 e2.Lin.L.length c7)) rfl (ev_gv et hc) Tryz.underlying27 rfl (CellsAt.of_blk (hI.blk .z) rfl))) ?_
     refine s_gval (g_false2 rfl rfl rfl rfl) rfl (fun hc => (y_lenl rfl Tryz.underlying27 (ev_gv et hc))) ?_
     refine s_gval (g_false2 rfl rfl rfl rfl) rfl (fun hc => (y_gtr rfl (ev_gv et hc) ev_const)) ?_
     refine s_gval (g_true2 rfl rfl rfl rfl) rfl (fun hc => (y_or2 rfl hc et et)) ?_
     refine s_gval (g_false rfl rfl rfl rfl) rfl (fun hc => (y_and2 rfl hc et et)) ?_
     refine sq (y_or rfl et et) ?_
     refine s_nil ?_
     refine k_next (e := [(1, (vp b1 0)), (3, (vi i1)), (108, (vb (((decide (e2.From = ([] : List UInt8))) && (decide (0 < (e2.At.length : Int)))) || ((!decide (e2.From = ([] : List UInt8))) && ((!decide (e2.Lin.K = 0)) || (decide (0 < (e2.Lin.L.length : Int))))))))]) ⟨rfl, rfl, rfl, trivial⟩ ?_
     refine c_cond (b := ((decide (e2.From = ([] : List UInt8))) && (decide (0 < (e2.At.length : Int)))) || ((!decide (e2.From = ([] : List UInt8))) && ((!decide (e2.Lin.K = 0)) || (decide (0 < (e2.Lin.L.length : Int)))))) et (fun hb => ?_) (fun hb => ?_)
     ·replace h := ite_t hb h
      refine sr ?_
      refine sac ?_
      refine nk ?_
      refine c_ret ?_
      obtain rfl := some_inj h
      exact q_ret (vs := [(vb false)]) Tryz.results107 ⟨ev_tmp rfl rfl, trivial⟩ ⟨rfl, hI.ext0, hI.fin trivial⟩
     ·replace h := ite_f hb h
      refine c_skip ?_
      refine k_same ?_
      refine c_region rfl ?_
      refine sm ?_
      refine sq (y_add rfl et ev_const) ?_
      refine sa ?_
      refine s_nil ?_
      exact k_loop (fuel1, wi64 (i1 + 1)) ⟨rfl, rfl, trivial⟩ ⟨_, hI.arr .n ⟨(.s (.s .z)), (.s (.s (.s .z))), (.s (.s (.s (.s .z)))), (.s (.s (.s (.s (.s .z))))), trivial⟩, h⟩ (Nat.lt_succ_self _)
    ·replace h := ite_f hb h
     refine c_exit ?_
     refine k_in ?_
     refine k_same ?_
     refine sr ?_
     refine sac ?_
     refine nk ?_
     refine c_ret ?_
     obtain rfl := some_inj h
     exact q_ret (vs := [(vb true)]) Tryz.results107 ⟨ev_tmp rfl rfl, trivial⟩ ⟨rfl, hI.ext0, hI.fin trivial⟩
set_option maxRecDepth 100000 in
set_option maxHeartbeats 4000000 in
theorem c_ref14_named (F : NP) (w0 : World) (hF : ∀ k, F k → k < w0.heap.size) (e1 : GExpr) (a1 : Option Addr) (c1 : Nat) (a2 : Option Addr) (c2 : Nat) (a3 : Option Addr) (c3 : Nat) (hc : AllCl [Cl.sl cGMono a1 c1 e1.Lin.L, Cl.sl cGIndex a2 c2 e1.Idx, Cl.sl cGExpr a3 c3 e1.Args] F w0) (r : Bool)
  (h : m_ref14_named e1 = some r) :
  Calls Tryz.prog 108 #[(Value.agg #[(vi e1.Op), (str e1.Name), (vi e1.Val.N), (vi e1.Val.D), (vi e1.Type_.Kind), (vi e1.Type_.Bits), (vi e1.Type_.Frac), (vi e1.Type_.Round), (vi e1.Type_.Over), (vi e1.Lin.K), (vs a1 e1.Lin.L.length c1), (vs a2 e1.Idx.length c2), (vs a3 e1.Args.length c3)])] w0 fun e w => e = .returned (vb r) ∧ Ext w0 w ∧ AllCl [] F w := by
 refine enterK (l := [(Value.agg #[(vi e1.Op), (str e1.Name), (vi e1.Val.N), (vi e1.Val.D), (vi e1.Type_.Kind), (vi e1.Type_.Bits), (vi e1.Type_.Frac), (vi e1.Type_.Round), (vi e1.Type_.Over), (vi e1.Lin.K), (vs a1 e1.Lin.L.length c1), (vs a2 e1.Idx.length c2), (vs a3 e1.Args.length c3)])]) Tryz.func108 rfl Tryz.ntmps108 rfl ?_
 have hI := Bun.start hF hc
 clear hc
 rw [m_ref14_named] at h
 refine sr ?_
 refine l_box (v := (Value.agg #[(vi e1.Op), (str e1.Name), (vi e1.Val.N), (vi e1.Val.D), (vi e1.Type_.Kind), (vi e1.Type_.Bits), (vi e1.Type_.Frac), (vi e1.Type_.Round), (vi e1.Type_.Over), (vi e1.Lin.K), (vs a1 e1.Lin.L.length c1), (vs a2 e1.Idx.length c2), (vs a3 e1.Args.length c3)])) (cs := #[(vi e1.Op), (str e1.Name), (vi e1.Val.N), (vi e1.Val.D), (vi e1.Type_.Kind), (vi e1.Type_.Bits), (vi e1.Type_.Frac), (vi e1.Type_.Round), (vi e1.Type_.Over), (vi e1.Lin.K), (vs a1 e1.Lin.L.length c1), (vs a2 e1.Idx.length c2), (vs a3 e1.Args.length c3)]) hI gn rfl rfl et rfl ?_
 clear hI; intro b1 c4 w1 hI
 obtain ⟨c5, hI⟩ := hI.relBox .z
 refine sac ?_
 refine nk ?_
 refine c_seq ?_
 refine sr ?_
 refine sq (y_fieldAddr rfl et Tryz.underlying39 rfl size_3 rfl) ?_
 refine sq (y_load1 (v := (vi e1.Op)) rfl et Tryz.underlying3 rfl (hI.kblk (l := [(vi e1.Op)]) .z rfl).1) ?_
 refine sq (y_eql rfl et ev_const) ?_
 refine sm ?_
 refine s_gval (g_true rfl rfl rfl rfl) rfl (fun hc => (y_fieldAddr rfl et Tryz.underlying39 rfl size_9 rfl)) ?_
 refine s_gval (g_true rfl rfl rfl rfl) rfl (fun hc => (y_load1 (v := (str e1.Name)) rfl (ev_gv et hc) Tryz.underlying9 rfl (hI.kblk (l := [(str e1.Name)]) .z rfl).1)) ?_
 obtain ⟨r1, hx1, h⟩ := bnd_some h
 replace hx1 := gd_some hx1
 refine s_gcallU (v := (vb r1)) (g_true rfl rfl rfl rfl) rfl (fun hc => (r_callF (vs := [(str e1.Name)]) rfl ok_43 ⟨(ev_gv et hc), trivial⟩)) (fun hc => (c_base_Name (Dj F c5) w1 hI.lt e1.Name trivial r1 (hx1 hc)).mono fun _ _ k => ⟨k.1, k.2.1⟩) ?_
 intro w2 hx2; replace hI := hI.ext hx2
 refine s_gval (g_true rfl rfl rfl rfl) rfl (fun hc => (y_not rfl (ev_gv et hc))) ?_
 refine sq (y_and rfl et et) ?_
 refine nk ?_
 refine c_cond (b := (decide (e1.Op = 3)) && (!r1)) et (fun hb => ?_) (fun hb => ?_)
 ·replace h := ite_t hb h
  refine sr ?_
  refine sac ?_
  refine nk ?_
  refine c_ret ?_
  obtain rfl := some_inj h
  exact q_ret (vs := [(vb false)]) Tryz.results108 ⟨ev_tmp rfl rfl, trivial⟩ ⟨rfl, hI.ext0, hI.fin trivial⟩
 ·replace h := ite_f hb h
  refine c_skip ?_
  refine k_same ?_
  refine c_seq ?_
  refine sr ?_
  refine sac ?_
  refine nk ?_
  refine c_block ?_
  refine c_loop (α := Nat × Int) (fun x => fun w => ∃ C, Bun noM F w0 C w [] [Cl.blk b1 39 #[(vi e1.Op), (str e1.Name), (vi e1.Val.N), (vi e1.Val.D), (vi e1.Type_.Kind), (vi e1.Type_.Bits), (vi e1.Type_.Frac), (vi e1.Type_.Round), (vi e1.Type_.Over), (vi e1.Lin.K), (vs a1 e1.Lin.L.length c1), (vs a2 e1.Idx.length c2), (vs a3 e1.Args.length c3)], Cl.sl cGMono a1 c1 e1.Lin.L, Cl.sl cGIndex a2 c2 e1.Idx, Cl.sl cGExpr a3 c3 e1.Args] ∧ m_ref14_named_l1 e1 (x.1) (x.2) = some r) (fun x _ => x.1) (fun x => [(1, (vp b1 0)), (3, (vi (x.2)))]) (fu, 0) ⟨_, hI.arr .n ⟨.z, (.s .z), (.s (.s .z)), (.s (.s (.s .z))), trivial⟩, h⟩ ⟨rfl, rfl, trivial⟩ ?_
  clear h hI; rintro ⟨fuel1, i1⟩ w3 ⟨c6, hI, h⟩
  dsimp only at hI h
  rcases fuel1 with _ | fuel1
  ·rw [m_ref14_named_l1] at h; cases h
  rw [m_ref14_named_l1] at h
  refine c_sub (e := [(1, (vp b1 0)), (3, (vi i1))]) ⟨rfl, rfl, trivial⟩ ?_
  refine c_seq ?_
  refine sr ?_
  refine sm ?_
  refine sq (y_fieldAddr rfl et Tryz.underlying39 rfl size_34 rfl) ?_
  refine sq (y_load1 (v := (vs a2 e1.Idx.length c2)) rfl et Tryz.underlying34 rfl (hI.kblk (l := [(vs a2 e1.Idx.length c2)]) .z rfl).1) ?_
  refine sq (y_lenl rfl Tryz.underlying34 et) ?_
  refine sq (y_lss rfl et et) ?_
  refine nk ?_
  refine c_cond (b := decide (i1 < (e1.Idx.length : Int))) et (fun hb => ?_) (fun hb => ?_)
  ·replace h := ite_t hb h
   refine c_skip ?_
   refine k_same ?_
   refine c_seq ?_
   refine c_block ?_
   refine sr ?_
   refine sq (y_fieldAddr rfl et Tryz.underlying39 rfl size_34 rfl) ?_
   refine sq (y_load1 (v := (vs a2 e1.Idx.length c2)) rfl et Tryz.underlying34 rfl (hI.kblk (l := [(vs a2 e1.Idx.length c2)]) .z rfl).1) ?_
   refine sm ?_
   obtain ⟨e2, hx3, h⟩ := bnd_some h
   obtain ⟨ad1, cs1, hA1, hr1, hq1⟩ := hI.clat (.s (.s .z)) hx3
   obtain ⟨a4, c7, a5, c8, rfl, hf1, hf2⟩ := hr1
   have hI := hI.add (c := Cl.sl cGMono a4 c7 e2.Lin.L) hf1
   have hI := hI.add (c := Cl.sl cGLin a5 c8 e2.At) hf2
   refine sq (y_indexAddr rfl Tryz.underlying34 size_32 et et (lat_bd hx3) hA1) ?_
   refine sq (y_fieldAddr rfl et Tryz.underlying32 rfl size_9 rfl) ?_
   refine sq (y_load1 (v := (str e2.From)) rfl et Tryz.underlying9 rfl (CA.part hq1 rfl).1) ?_
   refine sq (y_nes rfl et ev_const) ?_
   refine sm ?_
   refine s_gval (g_true rfl rfl rfl rfl) rfl (fun hc => (y_fieldAddr rfl et Tryz.underlying39 rfl size_34 rfl)) ?_
   refine s_gval (g_true rfl rfl rfl rfl) rfl (fun hc => (y_load1 (v := (vs a2 e1.Idx.length c2)) rfl (ev_gv et hc) Tryz.underlying34 rfl (hI.kblk (l := [(vs a2 e1.Idx.length c2)]) (.s (.s .z)) rfl).1)) ?_
   refine s_gval (g_true rfl rfl rfl rfl) rfl (fun hc => (y_move rfl et)) ?_
   obtain ⟨e3, hx4, h⟩ := bnd_some h
   replace hx4 := gd_some hx4
   obtain ⟨ad2, cs2, hq2⟩ := hI.gclat (.s (.s (.s (.s .z)))) hx4
   obtain ⟨a6, c9, a7, c10, hq3⟩ : ∃ (a6 : Option Addr) (c9 : Nat) (a7 : Option Addr) (c10 : Nat), (!decide (e2.From = ([] : List UInt8))) = true → (a2 = some ad2 ∧ cs2 = [(vi e3.Lin.K), (vs a6 e3.Lin.L.length c9), (str e3.From), (vs a7 e3.At.length c10)] ∧ CA (Dj F c6) w3 (ad2.add (Int.toNat i1 * 4)) cs2 ∧ SlC cGMono (Dj F c6) w3 a6 c9 e3.Lin.L ∧ SlC cGLin (Dj F c6) w3 a7 c10 e3.At) := by
    by_cases hc : (!decide (e2.From = ([] : List UInt8))) = true
    ·obtain ⟨k1, k2, k3⟩ := hq2 hc; obtain ⟨a6, c9, a7, c10, rfl, hf3, hf4⟩ := k2; exact ⟨a6, c9, a7, c10, fun _ => ⟨k1, rfl, k3, hf3, hf4⟩⟩
    ·exact ⟨default, default, default, default, fun k => absurd k hc⟩
   clear hq2
   have hI := hI.add (c := Cl.gsl (!decide (e2.From = ([] : List UInt8))) cGMono a6 c9 e3.Lin.L) (fun hc => (hq3 hc).2.2.2.1)
   have hI := hI.add (c := Cl.gsl (!decide (e2.From = ([] : List UInt8))) cGLin a7 c10 e3.At) (fun hc => (hq3 hc).2.2.2.2)
   have hq4 : (!decide (e2.From = ([] : List UInt8))) = true → CA (Dj F c6) w3 (ad2.add (Int.toNat i1 * 4)) [(vi e3.Lin.K), (vs a6 e3.Lin.L.length c9), (str e3.From), (vs a7 e3.At.length c10)] := fun hc => by have k := hq3 hc; have e : cs2 = _ := k.2.1; rw [← e]; exact k.2.2.1
   refine s_gval (g_true rfl rfl rfl rfl) rfl (fun hc => (y_indexAddr rfl Tryz.underlying34 size_32 (ev_gv et hc) (ev_gv et hc) (lat_bd (hx4 hc)) (hq3 hc).1)) ?_
   refine s_gval (g_true rfl rfl rfl rfl) rfl (fun hc => (y_fieldAddr rfl (ev_gv et hc) Tryz.underlying32 rfl size_9 rfl)) ?_
   refine s_gval (g_true rfl rfl rfl rfl) rfl (fun hc => (y_load1 (v := (str e3.From)) rfl (ev_gv et hc) Tryz.underlying9 rfl (CA.part (hq4 hc) rfl).1)) ?_
   obtain ⟨r2, hx5, h⟩ := bnd_some h
   replace hx5 := gd_some hx5
   refine s_gcallU (v := (vb r2)) (g_true rfl rfl rfl rfl) rfl (fun hc => (r_callF (vs := [(str e3.From)]) rfl ok_43 ⟨(ev_gv et hc), trivial⟩)) (fun hc => (c_base_Name (Dj F c6) w3 hI.lt e3.From trivial r2 (hx5 hc)).mono fun _ _ k => ⟨k.1, k.2.1⟩) ?_
   intro w4 hx6; replace hI := hI.ext hx6
   refine s_gval (g_true rfl rfl rfl rfl) rfl (fun hc => (y_not rfl (ev_gv et hc))) ?_
   refine sq (y_and rfl et et) ?_
   refine nk ?_
   refine c_cond (b := (!decide (e2.From = ([] : List UInt8))) && (!r2)) et (fun hb => ?_) (fun hb => ?_)
   ·replace h := ite_t hb h
    refine sr ?_
    refine sac ?_
    refine s_nil ?_
    refine k_next (e := [(2, (vb false))]) ⟨rfl, trivial⟩ ?_
    refine c_ret ?_
    obtain rfl := some_inj h
    exact q_ret (vs := [(vb false)]) Tryz.results108 ⟨ev_tmp rfl rfl, trivial⟩ ⟨rfl, hI.ext0, hI.fin trivial⟩
   ·replace h := ite_f hb h
    refine c_skip ?_
    refine k_same ?_
    refine c_region rfl ?_
    refine sm ?_
    refine sq (y_add rfl et ev_const) ?_
    refine sa ?_
    refine s_nil ?_
    exact k_loop (fuel1, wi64 (i1 + 1)) ⟨rfl, rfl, trivial⟩ ⟨_, hI.arr .n ⟨(.s (.s (.s (.s .z)))), (.s (.s (.s (.s (.s .z))))), (.s (.s (.s (.s (.s (.s .z)))))), (.s (.s (.s (.s (.s (.s (.s .z))))))), trivial⟩, h⟩ (Nat.lt_succ_self _)
  ·replace h := ite_f hb h
   refine c_exit ?_
   refine k_in ?_
   refine k_same ?_
   refine sr ?_
   refine sac ?_
   refine nk ?_
   refine c_ret ?_
   obtain rfl := some_inj h
   exact q_ret (vs := [(vb true)]) Tryz.results108 ⟨ev_tmp rfl rfl, trivial⟩ ⟨rfl, hI.ext0, hI.fin trivial⟩
set_option maxRecDepth 100000 in
set_option maxHeartbeats 4000000 in
theorem c_ref14_args (F : NP) (w0 : World) (hF : ∀ k, F k → k < w0.heap.size) (op1 : Int) (hc : AllCl [] F w0) (r : Int)
  (h : m_ref14_args op1 = some r) :
  Calls Tryz.prog 139 #[(vi op1)] w0 fun e w => e = .returned (vi r) ∧ Ext w0 w ∧ AllCl [] F w := by
 refine enterK (l := [(vi op1)]) Tryz.func139 rfl Tryz.ntmps139 rfl ?_
 have hI := Bun.start hF hc
 clear hc
 rw [m_ref14_args] at h
 refine sr ?_
 refine sac ?_
 refine nk ?_
 refine c_seq ?_
 refine sr ?_
 refine sm ?_
 refine nk ?_
 refine c_block ?_
 refine c_join (α := Bool) (fun _ => ⟨14, []⟩) (fun x => [(3, (vi op1)), (4, (vb x))]) (fun x => fun w => ∃ C, Bun noM F w0 C w [] [] ∧ m_ref14_args_j1 op1 x = some r) ?_ ?_
 ·clear h hI; rintro i1 w1 ⟨c1, hI, h⟩
  try dsimp only at hI h
  rw [m_ref14_args_j1] at h
  refine c_sub (e := [(3, (vi op1)), (4, (vb i1))]) ⟨rfl, rfl, trivial⟩ ?_
  refine c_cond (b := i1) et (fun hb => ?_) (fun hb => ?_)
  ·replace h := ite_t hb h
   refine sr ?_
   refine sac ?_
   refine nk ?_
   refine c_ret ?_
   obtain rfl := some_inj h
   exact q_ret (vs := [(vi 0)]) Tryz.results139 ⟨ev_tmp rfl rfl, trivial⟩ ⟨rfl, hI.ext0, hI.fin trivial⟩
  ·replace h := ite_f hb h
   refine c_join (α := Bool) (fun _ => ⟨14, []⟩) (fun x => [(3, (vi op1)), (8, (vb x))]) (fun x => fun w => ∃ C, Bun noM F w0 C w [] [] ∧ m_ref14_args_j2 op1 x = some r) ?_ ?_
   ·clear h hI; rintro i2 w2 ⟨c2, hI, h⟩
    try dsimp only at hI h
    rw [m_ref14_args_j2] at h
    refine c_sub (e := [(3, (vi op1)), (8, (vb i2))]) ⟨rfl, rfl, trivial⟩ ?_
    refine c_cond (b := i2) et (fun hb => ?_) (fun hb => ?_)
    ·replace h := ite_t hb h
     refine sr ?_
     refine sac ?_
     refine nk ?_
     refine c_ret ?_
     obtain rfl := some_inj h
     exact q_ret (vs := [(vi 1)]) Tryz.results139 ⟨ev_tmp rfl rfl, trivial⟩ ⟨rfl, hI.ext0, hI.fin trivial⟩
    ·replace h := ite_f hb h
     refine sr ?_
     refine sq (y_eql rfl et ev_const) ?_
     refine sa ?_
     refine nk ?_
     refine c_cond (b := decide (op1 = 11)) et (fun hb => ?_) (fun hb => ?_)
     ·replace h := ite_t hb h
      refine sr ?_
      refine sac ?_
      refine nk ?_
      refine c_ret ?_
      obtain rfl := some_inj h
      exact q_ret (vs := [(vi 3)]) Tryz.results139 ⟨ev_tmp rfl rfl, trivial⟩ ⟨rfl, hI.ext0, hI.fin trivial⟩
     ·replace h := ite_f hb h
      refine c_skip ?_
      refine k_same ?_
      refine sr ?_
      refine sac ?_
      refine nk ?_
      refine c_ret ?_
      obtain rfl := some_inj h
      exact q_ret (vs := [(vi 2)]) Tryz.results139 ⟨ev_tmp rfl rfl, trivial⟩ ⟨rfl, hI.ext0, hI.fin trivial⟩
   ·skip
    refine sr ?_
    refine sq (y_eql rfl et ev_const) ?_
    refine sa ?_
    refine nk ?_
    refine c_cond (b := decide (op1 = 8)) et (fun hb => ?_) (fun hb => ?_)
    ·replace h := ite_t hb h
     refine c_skip ?_
     exact k_join (decide (op1 = 8)) ⟨rfl, rfl, trivial⟩ ⟨_, hI.arr .n trivial, h⟩ rfl
    ·replace h := ite_f hb h
     refine sr ?_
     refine sq (y_eql rfl et ev_const) ?_
     refine sa ?_
     refine nk ?_
     refine c_cond (b := decide (op1 = 12)) et (fun hb => ?_) (fun hb => ?_)
     ·replace h := ite_t hb h
      refine c_skip ?_
      exact k_join (decide (op1 = 12)) ⟨rfl, rfl, trivial⟩ ⟨_, hI.arr .n trivial, h⟩ rfl
     ·replace h := ite_f hb h
      refine c_region rfl ?_
      refine sq (y_eql rfl et ev_const) ?_
      refine sa ?_
      refine s_nil ?_
      exact k_join (decide (op1 = 18)) ⟨rfl, rfl, trivial⟩ ⟨_, hI.arr .n trivial, h⟩ rfl
 ·skip
  refine sr ?_
  refine sq (y_eql rfl et ev_const) ?_
  refine sa ?_
  refine nk ?_
  refine c_cond (b := decide (op1 = 1)) et (fun hb => ?_) (fun hb => ?_)
  ·replace h := ite_t hb h
   refine c_skip ?_
   exact k_join (decide (op1 = 1)) ⟨rfl, rfl, trivial⟩ ⟨_, hI.arr .n trivial, h⟩ rfl
  ·replace h := ite_f hb h
   refine sr ?_
   refine sq (y_eql rfl et ev_const) ?_
   refine sa ?_
   refine nk ?_
   refine c_cond (b := decide (op1 = 2)) et (fun hb => ?_) (fun hb => ?_)
   ·replace h := ite_t hb h
    refine c_skip ?_
    exact k_join (decide (op1 = 2)) ⟨rfl, rfl, trivial⟩ ⟨_, hI.arr .n trivial, h⟩ rfl
   ·replace h := ite_f hb h
    refine c_region rfl ?_
    refine sq (y_eql rfl et ev_const) ?_
    refine sa ?_
    refine s_nil ?_
    exact k_join (decide (op1 = 3)) ⟨rfl, rfl, trivial⟩ ⟨_, hI.arr .n trivial, h⟩ rfl
set_option maxRecDepth 100000 in
set_option maxHeartbeats 4000000 in
theorem c_ref14_ranked (F : NP) (w0 : World) (hF : ∀ k, F k → k < w0.heap.size) (e1 : GExpr) (a1 : Option Addr) (c1 : Nat) (a2 : Option Addr) (c2 : Nat) (a3 : Option Addr) (c3 : Nat) (hc : AllCl [Cl.sl cGMono a1 c1 e1.Lin.L, Cl.sl cGIndex a2 c2 e1.Idx, Cl.sl cGExpr a3 c3 e1.Args] F w0) (r : Bool)
  (h : m_ref14_ranked e1 = some r) :
  Calls Tryz.prog 109 #[(Value.agg #[(vi e1.Op), (str e1.Name), (vi e1.Val.N), (vi e1.Val.D), (vi e1.Type_.Kind), (vi e1.Type_.Bits), (vi e1.Type_.Frac), (vi e1.Type_.Round), (vi e1.Type_.Over), (vi e1.Lin.K), (vs a1 e1.Lin.L.length c1), (vs a2 e1.Idx.length c2), (vs a3 e1.Args.length c3)])] w0 fun e w => e = .returned (vb r) ∧ Ext w0 w ∧ AllCl [] F w := by
 refine enterK (l := [(Value.agg #[(vi e1.Op), (str e1.Name), (vi e1.Val.N), (vi e1.Val.D), (vi e1.Type_.Kind), (vi e1.Type_.Bits), (vi e1.Type_.Frac), (vi e1.Type_.Round), (vi e1.Type_.Over), (vi e1.Lin.K), (vs a1 e1.Lin.L.length c1), (vs a2 e1.Idx.length c2), (vs a3 e1.Args.length c3)])]) Tryz.func109 rfl Tryz.ntmps109 rfl ?_
 have hI := Bun.start hF hc
 clear hc
 rw [m_ref14_ranked] at h
 refine sr ?_
 refine l_box (v := (Value.agg #[(vi e1.Op), (str e1.Name), (vi e1.Val.N), (vi e1.Val.D), (vi e1.Type_.Kind), (vi e1.Type_.Bits), (vi e1.Type_.Frac), (vi e1.Type_.Round), (vi e1.Type_.Over), (vi e1.Lin.K), (vs a1 e1.Lin.L.length c1), (vs a2 e1.Idx.length c2), (vs a3 e1.Args.length c3)])) (cs := #[(vi e1.Op), (str e1.Name), (vi e1.Val.N), (vi e1.Val.D), (vi e1.Type_.Kind), (vi e1.Type_.Bits), (vi e1.Type_.Frac), (vi e1.Type_.Round), (vi e1.Type_.Over), (vi e1.Lin.K), (vs a1 e1.Lin.L.length c1), (vs a2 e1.Idx.length c2), (vs a3 e1.Args.length c3)]) hI gn rfl rfl et rfl ?_
 clear hI; intro b1 c4 w1 hI
 obtain ⟨c5, hI⟩ := hI.relBox .z
 refine sac ?_
 refine nk ?_
 refine c_seq ?_
 refine c_seq ?_
 refine c_drawX [] false (.c (0, .q) (.c (1, .q) (.c (2, .q) (.c (3, .q) (.c (4, .q) (.c (5, .s) (.c (6, .q) (.c (7, .q) (.c (8, .q) (.c (9, .q) (.c (10, .q) (.c (11, .q) (.c (12, .q) .n))))))))))))) hI (by kernel_rfl) (by kernel_rfl) ?_
 clear hI; intro w2 hI
 refine a_q rfl gn rfl (fun w' => (y_fieldAddr rfl et Tryz.underlying39 rfl size_37 rfl)) ?_
 refine a_read rfl gn rfl (fun w' hw' => (y_load1 (v := (vs a3 e1.Args.length c3)) rfl et Tryz.underlying37 rfl ((hI.kblk (l := [(vs a3 e1.Args.length c3)]) .z rfl).at_ (SX.any rfl hw')))) (by kernel_rfl) ?_
 refine a_q rfl gn rfl (fun w' => (y_lenl rfl Tryz.underlying37 et)) ?_
 refine a_q rfl gn rfl (fun w' => (y_fieldAddr rfl et Tryz.underlying39 rfl size_3 rfl)) ?_
 refine a_read rfl gn rfl (fun w' hw' => (y_load1 (v := (vi e1.Op)) rfl et Tryz.underlying3 rfl ((hI.kblk (l := [(vi e1.Op)]) .z rfl).at_ (SX.any rfl hw')))) (by kernel_rfl) ?_
 obtain ⟨r1, hx1, h⟩ := bnd_some h
 refine la_call rfl gn rfl (r_callF (vs := [(vi e1.Op)]) rfl ok_139 ⟨et, trivial⟩) (Calls.mono (c_ref14_args (Dj F c5) w2 hI.lt e1.Op trivial r1 hx1) ?_)
 rintro _ w3 ⟨rfl, hx2, hl1⟩
 refine ⟨_, rfl, hx2, ?_⟩
 replace hI := (hI.ext hx2)
 refine a_q rfl gn rfl (fun w' => (y_neq rfl et et)) ?_
 refine a_q rfl gn rfl (fun w' => (y_move rfl et)) ?_
 refine a_gval rfl (g_false rfl rfl rfl rfl) rfl (fun hc => fun w' => (y_fieldAddr rfl et Tryz.underlying39 rfl size_34 rfl)) ?_
 refine a_gread rfl (g_false rfl rfl rfl rfl) rfl (fun hc => fun w' hw' => (y_load1 (v := (vs a2 e1.Idx.length c2)) rfl (ev_gv et hc) Tryz.underlying34 rfl ((hI.kblk (l := [(vs a2 e1.Idx.length c2)]) .z rfl).at_ (SX.any rfl hw')))) (by kernel_rfl) ?_
 refine a_gval rfl (g_false rfl rfl rfl rfl) rfl (fun hc => fun w' => (y_lenl rfl Tryz.underlying34 (ev_gv et hc))) ?_
 refine a_gval rfl (g_false rfl rfl rfl rfl) rfl (fun hc => fun w' => (y_gtr rfl (ev_gv et hc) ev_const)) ?_
 refine a_q rfl gn rfl (fun w' => (y_or rfl et et)) ?_
 refine a_nil ?_
 refine k_same ?_
 refine c_cond (b := (!decide ((e1.Args.length : Int) = r1)) || (decide (6 < (e1.Idx.length : Int)))) et (fun hb => ?_) (fun hb => ?_)
 ·replace h := ite_t hb h
  refine sr ?_
  refine sac ?_
  refine nk ?_
  refine c_ret ?_
  obtain rfl := some_inj h
  exact q_ret (vs := [(vb false)]) Tryz.results109 ⟨ev_tmp rfl rfl, trivial⟩ ⟨rfl, hI.ext0, hI.fin trivial⟩
 ·replace h := ite_f hb h
  refine c_skip ?_
  refine k_same ?_
  refine c_seq ?_
  refine sr ?_
  refine sac ?_
  refine nk ?_
  refine c_block ?_
  refine c_loop (α := Nat × Int) (fun x => fun w => ∃ C, Bun noM F w0 C w [] [Cl.blk b1 39 #[(vi e1.Op), (str e1.Name), (vi e1.Val.N), (vi e1.Val.D), (vi e1.Type_.Kind), (vi e1.Type_.Bits), (vi e1.Type_.Frac), (vi e1.Type_.Round), (vi e1.Type_.Over), (vi e1.Lin.K), (vs a1 e1.Lin.L.length c1), (vs a2 e1.Idx.length c2), (vs a3 e1.Args.length c3)], Cl.sl cGMono a1 c1 e1.Lin.L, Cl.sl cGIndex a2 c2 e1.Idx, Cl.sl cGExpr a3 c3 e1.Args] ∧ m_ref14_ranked_l1 e1 (x.1) (x.2) = some r) (fun x _ => x.1) (fun x => [(1, (vp b1 0)), (3, (vi (x.2)))]) (fu, 0) ⟨_, hI.arr .n ⟨.z, (.s .z), (.s (.s .z)), (.s (.s (.s .z))), trivial⟩, h⟩ ⟨rfl, rfl, trivial⟩ ?_
  clear h hI; rintro ⟨fuel1, i1⟩ w4 ⟨c6, hI, h⟩
  dsimp only at hI h
  rcases fuel1 with _ | fuel1
  ·rw [m_ref14_ranked_l1] at h; cases h
  rw [m_ref14_ranked_l1] at h
  refine c_sub (e := [(1, (vp b1 0)), (3, (vi i1))]) ⟨rfl, rfl, trivial⟩ ?_
  refine c_seq ?_
  refine sr ?_
  refine sm ?_
  refine sq (y_fieldAddr rfl et Tryz.underlying39 rfl size_34 rfl) ?_
  refine sq (y_load1 (v := (vs a2 e1.Idx.length c2)) rfl et Tryz.underlying34 rfl (hI.kblk (l := [(vs a2 e1.Idx.length c2)]) .z rfl).1) ?_
  refine sq (y_lenl rfl Tryz.underlying34 et) ?_
  refine sq (y_lss rfl et et) ?_
  refine nk ?_
  refine c_cond (b := decide (i1 < (e1.Idx.length : Int))) et (fun hb => ?_) (fun hb => ?_)
  ·replace h := ite_t hb h
   refine c_skip ?_
   refine k_same ?_
   refine c_seq ?_
   refine c_block ?_
   refine sr ?_
   refine sq (y_fieldAddr rfl et Tryz.underlying39 rfl size_34 rfl) ?_
   refine sq (y_load1 (v := (vs a2 e1.Idx.length c2)) rfl et Tryz.underlying34 rfl (hI.kblk (l := [(vs a2 e1.Idx.length c2)]) .z rfl).1) ?_
   refine sm ?_
   obtain ⟨e2, hx3, h⟩ := bnd_some h
   obtain ⟨ad1, cs1, hA1, hr1, hq1⟩ := hI.clat (.s (.s .z)) hx3
   obtain ⟨a4, c7, a5, c8, rfl, hf1, hf2⟩ := hr1
   have hI := hI.add (c := Cl.sl cGMono a4 c7 e2.Lin.L) hf1
   have hI := hI.add (c := Cl.sl cGLin a5 c8 e2.At) hf2
   refine sq (y_indexAddr rfl Tryz.underlying34 size_32 et et (lat_bd hx3) hA1) ?_
   refine sq (y_fieldAddr rfl et Tryz.underlying32 rfl size_30 rfl) ?_
   refine sq (y_load1 (v := (vs a5 e2.At.length c8)) rfl et Tryz.underlying30 rfl (CA.part hq1 rfl).1) ?_
   refine sq (y_lenl rfl Tryz.underlying30 et) ?_
   refine sq (y_gtr rfl et ev_const) ?_
   refine nk ?_
   refine c_cond (b := decide (6 < (e2.At.length : Int))) et (fun hb => ?_) (fun hb => ?_)
   ·replace h := ite_t hb h
    refine sr ?_
    refine sac ?_
    refine nk ?_
    refine c_ret ?_
    obtain rfl := some_inj h
    exact q_ret (vs := [(vb false)]) Tryz.results109 ⟨ev_tmp rfl rfl, trivial⟩ ⟨rfl, hI.ext0, hI.fin trivial⟩
   ·replace h := ite_f hb h
    refine c_skip ?_
    refine k_same ?_
    refine c_region rfl ?_
    refine sm ?_
    refine sq (y_add rfl et ev_const) ?_
    refine sa ?_
    refine s_nil ?_
    exact k_loop (fuel1, wi64 (i1 + 1)) ⟨rfl, rfl, trivial⟩ ⟨_, hI.arr .n ⟨(.s (.s .z)), (.s (.s (.s .z))), (.s (.s (.s (.s .z)))), (.s (.s (.s (.s (.s .z))))), trivial⟩, h⟩ (Nat.lt_succ_self _)
  ·replace h := ite_f hb h
   refine c_exit ?_
   refine k_in ?_
   refine k_same ?_
   refine sr ?_
   refine sac ?_
   refine nk ?_
   refine c_ret ?_
   obtain rfl := some_inj h
   exact q_ret (vs := [(vb true)]) Tryz.results109 ⟨ev_tmp rfl rfl, trivial⟩ ⟨rfl, hI.ext0, hI.fin trivial⟩
set_option maxRecDepth 100000 in
set_option maxHeartbeats 4000000 in
theorem c_ref14_IsCondition (F : NP) (w0 : World) (hF : ∀ k, F k → k < w0.heap.size) (e1 : GExpr) (a1 : Option Addr) (c1 : Nat) (a2 : Option Addr) (c2 : Nat) (a3 : Option Addr) (c3 : Nat) (hc : AllCl [Cl.sl cGMono a1 c1 e1.Lin.L, Cl.sl cGIndex a2 c2 e1.Idx, Cl.sl cGExpr a3 c3 e1.Args] F w0) (r : Bool)
  (h : m_ref14_IsCondition e1 = some r) :
  Calls Tryz.prog 140 #[(Value.agg #[(vi e1.Op), (str e1.Name), (vi e1.Val.N), (vi e1.Val.D), (vi e1.Type_.Kind), (vi e1.Type_.Bits), (vi e1.Type_.Frac), (vi e1.Type_.Round), (vi e1.Type_.Over), (vi e1.Lin.K), (vs a1 e1.Lin.L.length c1), (vs a2 e1.Idx.length c2), (vs a3 e1.Args.length c3)])] w0 fun e w => e = .returned (vb r) ∧ Ext w0 w ∧ AllCl [] F w := by
 refine enterK (l := [(Value.agg #[(vi e1.Op), (str e1.Name), (vi e1.Val.N), (vi e1.Val.D), (vi e1.Type_.Kind), (vi e1.Type_.Bits), (vi e1.Type_.Frac), (vi e1.Type_.Round), (vi e1.Type_.Over), (vi e1.Lin.K), (vs a1 e1.Lin.L.length c1), (vs a2 e1.Idx.length c2), (vs a3 e1.Args.length c3)])]) Tryz.func140 rfl Tryz.ntmps140 rfl ?_
 have hI := Bun.start hF hc
 clear hc
 rw [m_ref14_IsCondition] at h
 refine sr ?_
 refine l_box (v := (Value.agg #[(vi e1.Op), (str e1.Name), (vi e1.Val.N), (vi e1.Val.D), (vi e1.Type_.Kind), (vi e1.Type_.Bits), (vi e1.Type_.Frac), (vi e1.Type_.Round), (vi e1.Type_.Over), (vi e1.Lin.K), (vs a1 e1.Lin.L.length c1), (vs a2 e1.Idx.length c2), (vs a3 e1.Args.length c3)])) (cs := #[(vi e1.Op), (str e1.Name), (vi e1.Val.N), (vi e1.Val.D), (vi e1.Type_.Kind), (vi e1.Type_.Bits), (vi e1.Type_.Frac), (vi e1.Type_.Round), (vi e1.Type_.Over), (vi e1.Lin.K), (vs a1 e1.Lin.L.length c1), (vs a2 e1.Idx.length c2), (vs a3 e1.Args.length c3)]) hI gn rfl rfl et rfl ?_
 clear hI; intro b1 c4 w1 hI
 obtain ⟨c5, hI⟩ := hI.relBox .z
 refine sac ?_
 refine nk ?_
 refine sr ?_
 refine sq (y_fieldAddr rfl et Tryz.underlying39 rfl size_3 rfl) ?_
 refine sq (y_load1 (v := (vi e1.Op)) rfl et Tryz.underlying3 rfl (hI.kblk (l := [(vi e1.Op)]) .z rfl).1) ?_
 refine sq (y_geq rfl et ev_const) ?_
 refine sm ?_
 refine s_gval (g_true rfl rfl rfl rfl) rfl (fun hc => (y_fieldAddr rfl et Tryz.underlying39 rfl size_3 rfl)) ?_
 refine s_gval (g_true rfl rfl rfl rfl) rfl (fun hc => (y_load1 (v := (vi e1.Op)) rfl (ev_gv et hc) Tryz.underlying3 rfl (hI.kblk (l := [(vi e1.Op)]) .z rfl).1)) ?_
 refine s_gval (g_true rfl rfl rfl rfl) rfl (fun hc => (y_leq rfl (ev_gv et hc) ev_const)) ?_
 refine sq (y_and rfl et et) ?_
 refine sa ?_
 refine nk ?_
 refine c_ret ?_
 obtain rfl := some_inj h
 exact q_ret (vs := [(vb ((decide (13 ≤ e1.Op)) && (decide (e1.Op ≤ 18))))]) Tryz.results140 ⟨ev_tmp rfl rfl, trivial⟩ ⟨rfl, hI.ext0, hI.fin trivial⟩
set_option maxRecDepth 100000 in
set_option maxHeartbeats 4000000 in
theorem c_ref14_wants (F : NP) (w0 : World) (hF : ∀ k, F k → k < w0.heap.size) (op1 : Int) (at1 : Int) (hc : AllCl [] F w0) (r : Bool)
  (h : m_ref14_wants op1 at1 = some r) :
  Calls Tryz.prog 141 #[(vi op1), (vi at1)] w0 fun e w => e = .returned (vb r) ∧ Ext w0 w ∧ AllCl [] F w := by
 refine enterK (l := [(vi op1), (vi at1)]) Tryz.func141 rfl Tryz.ntmps141 rfl ?_
 have hI := Bun.start hF hc
 clear hc
 rw [m_ref14_wants] at h
 refine sr ?_
 refine sac ?_
 refine nk ?_
 refine sr ?_
 refine sm ?_
 refine sq (y_eql rfl et ev_const) ?_
 refine sm ?_
 refine s_gval (g_true rfl rfl rfl rfl) rfl (fun hc => (y_move rfl et)) ?_
 refine s_gval (g_true rfl rfl rfl rfl) rfl (fun hc => (y_eql rfl (ev_gv et hc) ev_const)) ?_
 refine sq (y_and rfl et et) ?_
 refine sm ?_
 refine s_gval (g_false rfl rfl rfl rfl) rfl (fun hc => (y_move rfl et)) ?_
 refine s_gval (g_false rfl rfl rfl rfl) rfl (fun hc => (y_eql rfl (ev_gv et hc) ev_const)) ?_
 refine sq (y_or rfl et et) ?_
 refine sm ?_
 refine s_gval (g_false rfl rfl rfl rfl) rfl (fun hc => (y_move rfl et)) ?_
 refine s_gval (g_false rfl rfl rfl rfl) rfl (fun hc => (y_eql rfl (ev_gv et hc) ev_const)) ?_
 refine sq (y_or rfl et et) ?_
 refine sm ?_
 refine s_gval (g_false rfl rfl rfl rfl) rfl (fun hc => (y_move rfl et)) ?_
 refine s_gval (g_false rfl rfl rfl rfl) rfl (fun hc => (y_eql rfl (ev_gv et hc) ev_const)) ?_
 refine sq (y_or rfl et et) ?_
 refine sa ?_
 refine nk ?_
 refine c_ret ?_
 obtain rfl := some_inj h
 exact q_ret (vs := [(vb (((((decide (op1 = 11)) && (decide (at1 = 0))) || (decide (op1 = 16))) || (decide (op1 = 17))) || (decide (op1 = 18))))]) Tryz.results141 ⟨ev_tmp rfl rfl, trivial⟩ ⟨rfl, hI.ext0, hI.fin trivial⟩
set_option maxRecDepth 100000 in
set_option maxHeartbeats 4000000 in
theorem c_ref14_typed (F : NP) (w0 : World) (hF : ∀ k, F k → k < w0.heap.size) (e1 : GExpr) (a1 : Option Addr) (c1 : Nat) (a2 : Option Addr) (c2 : Nat) (a3 : Option Addr) (c3 : Nat) (hc : AllCl [Cl.sl cGMono a1 c1 e1.Lin.L, Cl.sl cGIndex a2 c2 e1.Idx, Cl.sl cGExpr a3 c3 e1.Args] F w0) (r : Bool)
  (h : m_ref14_typed e1 = some r) :
  Calls Tryz.prog 110 #[(Value.agg #[(vi e1.Op), (str e1.Name), (vi e1.Val.N), (vi e1.Val.D), (vi e1.Type_.Kind), (vi e1.Type_.Bits), (vi e1.Type_.Frac), (vi e1.Type_.Round), (vi e1.Type_.Over), (vi e1.Lin.K), (vs a1 e1.Lin.L.length c1), (vs a2 e1.Idx.length c2), (vs a3 e1.Args.length c3)])] w0 fun e w => e = .returned (vb r) ∧ Ext w0 w ∧ AllCl [] F w := by
 refine enterK (l := [(Value.agg #[(vi e1.Op), (str e1.Name), (vi e1.Val.N), (vi e1.Val.D), (vi e1.Type_.Kind), (vi e1.Type_.Bits), (vi e1.Type_.Frac), (vi e1.Type_.Round), (vi e1.Type_.Over), (vi e1.Lin.K), (vs a1 e1.Lin.L.length c1), (vs a2 e1.Idx.length c2), (vs a3 e1.Args.length c3)])]) Tryz.func110 rfl Tryz.ntmps110 rfl ?_
 have hI := Bun.start hF hc
 clear hc
 rw [m_ref14_typed] at h
 refine sr ?_
 refine l_box (v := (Value.agg #[(vi e1.Op), (str e1.Name), (vi e1.Val.N), (vi e1.Val.D), (vi e1.Type_.Kind), (vi e1.Type_.Bits), (vi e1.Type_.Frac), (vi e1.Type_.Round), (vi e1.Type_.Over), (vi e1.Lin.K), (vs a1 e1.Lin.L.length c1), (vs a2 e1.Idx.length c2), (vs a3 e1.Args.length c3)])) (cs := #[(vi e1.Op), (str e1.Name), (vi e1.Val.N), (vi e1.Val.D), (vi e1.Type_.Kind), (vi e1.Type_.Bits), (vi e1.Type_.Frac), (vi e1.Type_.Round), (vi e1.Type_.Over), (vi e1.Lin.K), (vs a1 e1.Lin.L.length c1), (vs a2 e1.Idx.length c2), (vs a3 e1.Args.length c3)]) hI gn rfl rfl et rfl ?_
 clear hI; intro b1 c4 w1 hI
 obtain ⟨c5, hI⟩ := hI.relBox .z
 refine sac ?_
 refine nk ?_
 refine c_seq ?_
 refine sr ?_
 refine sq (y_fieldAddr rfl et Tryz.underlying39 rfl size_3 rfl) ?_
 refine sq (y_load1 (v := (vi e1.Op)) rfl et Tryz.underlying3 rfl (hI.kblk (l := [(vi e1.Op)]) .z rfl).1) ?_
 refine sq (y_eql rfl et ev_const) ?_
 refine sm ?_
 refine s_gval (g_false rfl rfl rfl rfl) rfl (fun hc => (y_fieldAddr rfl et Tryz.underlying39 rfl size_3 rfl)) ?_
 refine s_gval (g_false rfl rfl rfl rfl) rfl (fun hc => (y_load1 (v := (vi e1.Op)) rfl (ev_gv et hc) Tryz.underlying3 rfl (hI.kblk (l := [(vi e1.Op)]) .z rfl).1)) ?_
 refine s_gval (g_false rfl rfl rfl rfl) rfl (fun hc => (y_eql rfl (ev_gv et hc) ev_const)) ?_
 refine sq (y_or rfl et et) ?_
 refine sm ?_
 refine s_gval (g_true rfl rfl rfl rfl) rfl (fun hc => (y_fieldAddr rfl et Tryz.underlying39 rfl size_23 rfl)) ?_
 refine s_gval (g_true rfl rfl rfl rfl) rfl (fun hc => (y_loadN (l := [(vi e1.Type_.Kind), (vi e1.Type_.Bits), (vi e1.Type_.Frac), (vi e1.Type_.Round), (vi e1.Type_.Over)]) rfl (ev_gv et hc) Tryz.underlying23 rfl size_23 (hI.kblk (l := [(vi e1.Type_.Kind), (vi e1.Type_.Bits), (vi e1.Type_.Frac), (vi e1.Type_.Round), (vi e1.Type_.Over)]) .z rfl).1)) ?_
 obtain ⟨r1, hx1, h⟩ := bnd_some h
 replace hx1 := gd_some hx1
 refine s_gcallU (v := (vb r1)) (g_true rfl rfl rfl rfl) rfl (fun hc => (r_callF (vs := [(Value.agg #[(vi e1.Type_.Kind), (vi e1.Type_.Bits), (vi e1.Type_.Frac), (vi e1.Type_.Round), (vi e1.Type_.Over)])]) rfl ok_31 ⟨(ev_gv et hc), trivial⟩)) (fun hc => (c_base_Type (Dj F c5) w1 hI.lt e1.Type_ trivial r1 (hx1 hc)).mono fun _ _ k => ⟨k.1, k.2.1⟩) ?_
 intro w2 hx2; replace hI := hI.ext hx2
 refine s_gval (g_true rfl rfl rfl rfl) rfl (fun hc => (y_not rfl (ev_gv et hc))) ?_
 refine sq (y_and rfl et et) ?_
 refine nk ?_
 refine c_cond (b := ((decide (e1.Op = 1)) || (decide (e1.Op = 12))) && (!r1)) et (fun hb => ?_) (fun hb => ?_)
 ·replace h := ite_t hb h
  refine sr ?_
  refine sac ?_
  refine nk ?_
  refine c_ret ?_
  obtain rfl := some_inj h
  exact q_ret (vs := [(vb false)]) Tryz.results110 ⟨ev_tmp rfl rfl, trivial⟩ ⟨rfl, hI.ext0, hI.fin trivial⟩
 ·replace h := ite_f hb h
  refine c_skip ?_
  refine k_same ?_
  refine c_seq ?_
  refine sr ?_
  refine sac ?_
  refine nk ?_
  refine c_block ?_
  refine c_loop (α := Nat × Int) (fun x => fun w => ∃ C, Bun noM F w0 C w [] [Cl.blk b1 39 #[(vi e1.Op), (str e1.Name), (vi e1.Val.N), (vi e1.Val.D), (vi e1.Type_.Kind), (vi e1.Type_.Bits), (vi e1.Type_.Frac), (vi e1.Type_.Round), (vi e1.Type_.Over), (vi e1.Lin.K), (vs a1 e1.Lin.L.length c1), (vs a2 e1.Idx.length c2), (vs a3 e1.Args.length c3)], Cl.sl cGMono a1 c1 e1.Lin.L, Cl.sl cGIndex a2 c2 e1.Idx, Cl.sl cGExpr a3 c3 e1.Args] ∧ m_ref14_typed_l1 e1 (x.1) (x.2) = some r) (fun x _ => x.1) (fun x => [(1, (vp b1 0)), (3, (vi (x.2)))]) (fu, 0) ⟨_, hI.arr .n ⟨.z, (.s .z), (.s (.s .z)), (.s (.s (.s .z))), trivial⟩, h⟩ ⟨rfl, rfl, trivial⟩ ?_
  clear h hI; rintro ⟨fuel1, i1⟩ w3 ⟨c6, hI, h⟩
  dsimp only at hI h
  rcases fuel1 with _ | fuel1
  ·rw [m_ref14_typed_l1] at h; cases h
  rw [m_ref14_typed_l1] at h
  refine c_sub (e := [(1, (vp b1 0)), (3, (vi i1))]) ⟨rfl, rfl, trivial⟩ ?_
  refine c_seq ?_
  refine sr ?_
  refine sm ?_
  refine sq (y_fieldAddr rfl et Tryz.underlying39 rfl size_37 rfl) ?_
  refine sq (y_load1 (v := (vs a3 e1.Args.length c3)) rfl et Tryz.underlying37 rfl (hI.kblk (l := [(vs a3 e1.Args.length c3)]) .z rfl).1) ?_
  refine sq (y_lenl rfl Tryz.underlying37 et) ?_
  refine sq (y_lss rfl et et) ?_
  refine nk ?_
  refine c_cond (b := decide (i1 < (e1.Args.length : Int))) et (fun hb => ?_) (fun hb => ?_)
  ·replace h := ite_t hb h
   refine c_skip ?_
   refine k_same ?_
   refine c_seq ?_
   refine c_block ?_
   refine c_seq ?_
   refine c_drawX [] false (.c (0, .q) (.c (1, .q) (.c (2, .q) (.c (3, .q) (.c (4, .q) (.c (6, .q) (.c (7, .q) (.c (8, .q) (.c (5, .s) (.c (9, .s) (.c (10, .q) .n))))))))))) hI (by kernel_rfl) (by kernel_rfl) ?_
   clear hI; intro w4 hI
   refine a_q rfl gn rfl (fun w' => (y_fieldAddr rfl et Tryz.underlying39 rfl size_37 rfl)) ?_
   refine a_read rfl gn rfl (fun w' hw' => (y_load1 (v := (vs a3 e1.Args.length c3)) rfl et Tryz.underlying37 rfl ((hI.kblk (l := [(vs a3 e1.Args.length c3)]) .z rfl).at_ (SX.any rfl hw')))) (by kernel_rfl) ?_
   refine a_q rfl gn rfl (fun w' => (y_move rfl et)) ?_
   obtain ⟨e2, hx3, h⟩ := bnd_some h
   obtain ⟨ad1, cs1, hA1, hr1, hq1⟩ := hI.clat (.s (.s (.s .z))) hx3
   obtain ⟨a4, c7, a5, c8, a6, c9, rfl, hf1, hf2, hf3⟩ := cGExpr_out hr1
   have hI := hI.add (c := Cl.sl cGMono a4 c7 e2.Lin.L) hf1
   have hI := hI.add (c := Cl.sl cGIndex a5 c8 e2.Idx) hf2
   have hI := hI.add (c := Cl.sl cGExpr a6 c9 e2.Args) hf3
   refine a_q rfl gn rfl (fun w' => (y_indexAddr rfl Tryz.underlying37 size_39 et et (lat_bd hx3) hA1)) ?_
   refine a_read rfl gn rfl (fun w' hw' => (y_loadN (l := [(vi e2.Op), (str e2.Name), (vi e2.Val.N), (vi e2.Val.D), (vi e2.Type_.Kind), (vi e2.Type_.Bits), (vi e2.Type_.Frac), (vi e2.Type_.Round), (vi e2.Type_.Over), (vi e2.Lin.K), (vs a4 e2.Lin.L.length c7), (vs a5 e2.Idx.length c8), (vs a6 e2.Args.length c9)]) rfl et Tryz.underlying39 rfl size_39 (hq1.at_ (SX.any rfl hw')))) (by kernel_rfl) ?_
   refine a_q rfl gn rfl (fun w' => (y_fieldAddr rfl et Tryz.underlying39 rfl size_3 rfl)) ?_
   refine a_read rfl gn rfl (fun w' hw' => (y_load1 (v := (vi e1.Op)) rfl et Tryz.underlying3 rfl ((hI.kblk (l := [(vi e1.Op)]) (.s (.s (.s .z))) rfl).at_ (SX.any rfl hw')))) (by kernel_rfl) ?_
   refine a_q rfl gn rfl (fun w' => (y_move rfl et)) ?_
   obtain ⟨r2, hx4, h⟩ := bnd_some h
   refine la_call rfl gn rfl (r_callF (vs := [(Value.agg #[(vi e2.Op), (str e2.Name), (vi e2.Val.N), (vi e2.Val.D), (vi e2.Type_.Kind), (vi e2.Type_.Bits), (vi e2.Type_.Frac), (vi e2.Type_.Round), (vi e2.Type_.Over), (vi e2.Lin.K), (vs a4 e2.Lin.L.length c7), (vs a5 e2.Idx.length c8), (vs a6 e2.Args.length c9)])]) rfl ok_140 ⟨et, trivial⟩) (Calls.mono (c_ref14_IsCondition (Dj F c6) w4 hI.lt e2 a4 c7 a5 c8 a6 c9 ⟨(hI.get (.s (.s .z))), (hI.get (.s .z)), (hI.get .z), trivial⟩ r2 hx4) ?_)
   rintro _ w5 ⟨rfl, hx5, hl2⟩
   refine ⟨_, rfl, hx5, ?_⟩
   replace hI := (hI.ext hx5)
   obtain ⟨r3, hx6, h⟩ := bnd_some h
   refine la_call rfl gn rfl (r_callF (vs := [(vi e1.Op), (vi i1)]) rfl ok_141 ⟨et, ⟨et, trivial⟩⟩) (Calls.mono (c_ref14_wants (Dj F c6) w5 hI.lt e1.Op i1 trivial r3 hx6) ?_)
   rintro _ w6 ⟨rfl, hx7, hl3⟩
   refine ⟨_, rfl, hx7, ?_⟩
   replace hI := (hI.ext hx7)
   refine a_q rfl gn rfl (fun w' => (y_neb rfl Tryz.underlying4 et et)) ?_
   refine a_nil ?_
   refine k_same ?_
   refine c_cond (b := r2 != r3) et (fun hb => ?_) (fun hb => ?_)
   ·replace h := ite_t hb h
    refine sr ?_
    refine sac ?_
    refine nk ?_
    refine c_ret ?_
    obtain rfl := some_inj h
    exact q_ret (vs := [(vb false)]) Tryz.results110 ⟨ev_tmp rfl rfl, trivial⟩ ⟨rfl, hI.ext0, hI.fin trivial⟩
   ·replace h := ite_f hb h
    refine c_skip ?_
    refine k_same ?_
    refine c_region rfl ?_
    refine sm ?_
    refine sq (y_add rfl et ev_const) ?_
    refine sa ?_
    refine s_nil ?_
    exact k_loop (fuel1, wi64 (i1 + 1)) ⟨rfl, rfl, trivial⟩ ⟨_, hI.arr .n ⟨(.s (.s (.s .z))), (.s (.s (.s (.s .z)))), (.s (.s (.s (.s (.s .z))))), (.s (.s (.s (.s (.s (.s .z)))))), trivial⟩, h⟩ (Nat.lt_succ_self _)
  ·replace h := ite_f hb h
   refine c_exit ?_
   refine k_in ?_
   refine k_same ?_
   refine sr ?_
   refine sac ?_
   refine nk ?_
   refine c_ret ?_
   obtain rfl := some_inj h
   exact q_ret (vs := [(vb true)]) Tryz.results110 ⟨ev_tmp rfl rfl, trivial⟩ ⟨rfl, hI.ext0, hI.fin trivial⟩
set_option maxRecDepth 100000 in
set_option maxHeartbeats 4000000 in
theorem c_base_gcd (F : NP) (w0 : World) (hF : ∀ k, F k → k < w0.heap.size) (a1 : Int) (b1 : Int) (hc : AllCl [] F w0) (r : Int)
  (h : m_base_gcd a1 b1 = some r) :
  Calls Tryz.prog 169 #[(vi a1), (vi b1)] w0 fun e w => e = .returned (vi r) ∧ Ext w0 w ∧ AllCl [] F w := by
 refine enterK (l := [(vi a1), (vi b1)]) Tryz.func169 rfl Tryz.ntmps169 rfl ?_
 have hI := Bun.start hF hc
 clear hc
 rw [m_base_gcd] at h
 refine sr ?_
 refine sac ?_
 refine nk ?_
 refine c_seq ?_
 refine c_block ?_
 refine c_loop (α := Nat × Int × Int) (fun x => fun w => ∃ C, Bun noM F w0 C w [] [] ∧ m_base_gcd_l1 (x.1) (x.2.1) (x.2.2) = some r) (fun x _ => x.1) (fun x => [(0, (vi (x.2.1))), (1, (vi (x.2.2)))]) (fu, a1, b1) ⟨_, hI.arr .n trivial, h⟩ ⟨rfl, rfl, trivial⟩ ?_
 clear h hI; rintro ⟨fuel1, a2, b2⟩ w1 ⟨c1, hI, h⟩
 dsimp only at hI h
 rcases fuel1 with _ | fuel1
 ·rw [m_base_gcd_l1] at h; cases h
 rw [m_base_gcd_l1] at h
 refine c_sub (e := [(0, (vi a2)), (1, (vi b2))]) ⟨rfl, rfl, trivial⟩ ?_
 refine c_seq ?_
 refine sr ?_
 refine sm ?_
 refine sq (y_neq rfl et ev_const) ?_
 refine nk ?_
 refine c_cond (b := !decide (b2 = 0)) et (fun hb => ?_) (fun hb => ?_)
 ·replace h := ite_t hb h
  refine c_skip ?_
  refine k_same ?_
  refine c_block ?_
  refine c_drawX [] false (.c (0, .q) (.c (1, .q) (.c (2, .q) (.c (3, .q) (.c (4, .q) (.c (5, .q) .n)))))) hI (by kernel_rfl) (by kernel_rfl) ?_
  clear hI; intro w2 hI
  refine a_q rfl gn rfl (fun w' => (y_move rfl et)) ?_
  refine a_q rfl gn rfl (fun w' => (y_move rfl et)) ?_
  refine a_q rfl gn rfl (fun w' => (y_move rfl et)) ?_
  obtain ⟨ho1, h⟩ := chk_some h
  refine a_q rfl gn rfl (fun w' => (y_rem rfl et et ho1)) ?_
  refine a_q rfl gn rfl (fun w' => (y_assign rfl et)) ?_
  refine a_q rfl gn rfl (fun w' => (y_assign rfl et)) ?_
  refine a_nil ?_
  exact k_loop (fuel1, b2, Int.tmod a2 b2) ⟨rfl, rfl, trivial⟩ ⟨_, hI.arr .n trivial, h⟩ (Nat.lt_succ_self _)
 ·replace h := ite_f hb h
  refine c_exit ?_
  refine k_in ?_
  refine k_same ?_
  refine sr ?_
  refine sm ?_
  refine sa ?_
  refine nk ?_
  refine c_ret ?_
  obtain rfl := some_inj h
  exact q_ret (vs := [(vi a2)]) Tryz.results169 ⟨ev_tmp rfl rfl, trivial⟩ ⟨rfl, hI.ext0, hI.fin trivial⟩
set_option maxRecDepth 100000 in
set_option maxHeartbeats 4000000 in
theorem c_base_Val (F : NP) (w0 : World) (hF : ∀ k, F k → k < w0.heap.size) (t1 : GType) (v1 : GVal) (hc : AllCl [] F w0) (r : Bool)
  (h : m_base_Val t1 v1 = some r) :
  Calls Tryz.prog 142 #[(Value.agg #[(vi t1.Kind), (vi t1.Bits), (vi t1.Frac), (vi t1.Round), (vi t1.Over)]), (Value.agg #[(vi v1.N), (vi v1.D)])] w0 fun e w => e = .returned (vb r) ∧ Ext w0 w ∧ AllCl [] F w := by
 refine enterK (l := [(Value.agg #[(vi t1.Kind), (vi t1.Bits), (vi t1.Frac), (vi t1.Round), (vi t1.Over)]), (Value.agg #[(vi v1.N), (vi v1.D)])]) Tryz.func142 rfl Tryz.ntmps142 rfl ?_
 have hI := Bun.start hF hc
 clear hc
 rw [m_base_Val] at h
 refine sr ?_
 refine l_box (v := (Value.agg #[(vi t1.Kind), (vi t1.Bits), (vi t1.Frac), (vi t1.Round), (vi t1.Over)])) (cs := #[(vi t1.Kind), (vi t1.Bits), (vi t1.Frac), (vi t1.Round), (vi t1.Over)]) hI gn rfl rfl et rfl ?_
 clear hI; intro b1 c1 w1 hI
 obtain ⟨c2, hI⟩ := hI.relBox .z
 refine l_box (v := (Value.agg #[(vi v1.N), (vi v1.D)])) (cs := #[(vi v1.N), (vi v1.D)]) hI gn rfl rfl et rfl ?_
 clear hI; intro b2 c3 w2 hI
 obtain ⟨c4, hI⟩ := hI.relBox .z
 refine sac ?_
 refine nk ?_
 refine c_seq ?_
 refine sr ?_
 refine sq (y_fieldAddr rfl et Tryz.underlying23 rfl size_3 rfl) ?_
 refine sq (y_load1 (v := (vi t1.Kind)) rfl et Tryz.underlying3 rfl (hI.kblk (l := [(vi t1.Kind)]) (.s .z) rfl).1) ?_
 refine sq (y_eql rfl et ev_const) ?_
 refine nk ?_
 refine c_cond (b := decide (t1.Kind = 2)) et (fun hb => ?_) (fun hb => ?_)
 ·replace h := ite_t hb h
  refine sr ?_
  refine sq (y_fieldAddr rfl et Tryz.underlying23 rfl size_3 rfl) ?_
  refine sq (y_load1 (v := (vi t1.Bits)) rfl et Tryz.underlying3 rfl (hI.kblk (l := [(vi t1.Bits)]) (.s .z) rfl).1) ?_
  refine sq (y_sub rfl et ev_const) ?_
  obtain ⟨ho1, h⟩ := chk_some h
  refine sq (y_shl rfl ev_const et ho1) ?_
  obtain ⟨half1, hx1, h⟩ := bnd_some h
  refine sq (binU (y_assign rfl et) (congrArg (Value.int .i64) (some_inj hx1))) ?_
  refine nk ?_
  refine sr ?_
  refine sq (y_fieldAddr rfl et Tryz.underlying36 rfl size_2 rfl) ?_
  refine sq (y_load1 (v := (vi v1.D)) rfl et Tryz.underlying2 rfl (hI.kblk (l := [(vi v1.D)]) .z rfl).1) ?_
  refine sq (y_eql rfl et ev_const) ?_
  refine sm ?_
  refine s_gval (g_true rfl rfl rfl rfl) rfl (fun hc => (y_fieldAddr rfl et Tryz.underlying36 rfl size_2 rfl)) ?_
  refine s_gval (g_true rfl rfl rfl rfl) rfl (fun hc => (y_load1 (v := (vi v1.N)) rfl (ev_gv et hc) Tryz.underlying2 rfl (hI.kblk (l := [(vi v1.N)]) .z rfl).1)) ?_
  refine s_gval (g_true rfl rfl rfl rfl) rfl (fun hc => (y_move rfl et)) ?_
  refine s_gval (g_true rfl rfl rfl rfl) rfl (fun hc => (y_neg rfl (ev_gv et hc))) ?_
  refine s_gval (g_true rfl rfl rfl rfl) rfl (fun hc => (y_geq rfl (ev_gv et hc) (ev_gv et hc))) ?_
  refine sq (y_and rfl et et) ?_
  refine sm ?_
  refine s_gval (g_true rfl rfl rfl rfl) rfl (fun hc => (y_fieldAddr rfl et Tryz.underlying36 rfl size_2 rfl)) ?_
  refine s_gval (g_true rfl rfl rfl rfl) rfl (fun hc => (y_load1 (v := (vi v1.N)) rfl (ev_gv et hc) Tryz.underlying2 rfl (hI.kblk (l := [(vi v1.N)]) .z rfl).1)) ?_
  refine s_gval (g_true rfl rfl rfl rfl) rfl (fun hc => (y_move rfl et)) ?_
  refine s_gval (g_true rfl rfl rfl rfl) rfl (fun hc => (y_lss rfl (ev_gv et hc) (ev_gv et hc))) ?_
  refine sq (y_and rfl et et) ?_
  refine sa ?_
  refine s_nil ?_
  refine k_next (e := [(4, (vb (((decide (v1.D = 1)) && (decide (wi64 (-half1) ≤ v1.N))) && (decide (v1.N < half1)))))]) ⟨rfl, trivial⟩ ?_
  refine c_ret ?_
  obtain rfl := some_inj h
  exact q_ret (vs := [(vb (((decide (v1.D = 1)) && (decide (wi64 (-half1) ≤ v1.N))) && (decide (v1.N < half1))))]) Tryz.results142 ⟨ev_tmp rfl rfl, trivial⟩ ⟨rfl, hI.ext0, hI.fin trivial⟩
 ·replace h := ite_f hb h
  refine c_skip ?_
  refine k_same ?_
  refine c_seq ?_
  refine sr ?_
  refine sq (y_fieldAddr rfl et Tryz.underlying36 rfl size_2 rfl) ?_
  refine sq (y_load1 (v := (vi v1.N)) rfl et Tryz.underlying2 rfl (hI.kblk (l := [(vi v1.N)]) .z rfl).1) ?_
  refine sq (y_gtr rfl et ev_const) ?_
  refine sm ?_
  refine s_gval (g_false rfl rfl rfl rfl) rfl (fun hc => (y_fieldAddr rfl et Tryz.underlying36 rfl size_2 rfl)) ?_
  refine s_gval (g_false rfl rfl rfl rfl) rfl (fun hc => (y_load1 (v := (vi v1.N)) rfl (ev_gv et hc) Tryz.underlying2 rfl (hI.kblk (l := [(vi v1.N)]) .z rfl).1)) ?_
  refine s_gval (g_false rfl rfl rfl rfl) rfl (fun hc => (y_lss rfl (ev_gv et hc) ev_const)) ?_
  refine sq (y_or rfl et et) ?_
  refine sm ?_
  refine s_gval (g_false rfl rfl rfl rfl) rfl (fun hc => (y_fieldAddr rfl et Tryz.underlying36 rfl size_2 rfl)) ?_
  refine s_gval (g_false rfl rfl rfl rfl) rfl (fun hc => (y_load1 (v := (vi v1.D)) rfl (ev_gv et hc) Tryz.underlying2 rfl (hI.kblk (l := [(vi v1.D)]) .z rfl).1)) ?_
  refine s_gval (g_false rfl rfl rfl rfl) rfl (fun hc => (y_lss rfl (ev_gv et hc) ev_const)) ?_
  refine sq (y_or rfl et et) ?_
  refine sm ?_
  refine s_gval (g_false rfl rfl rfl rfl) rfl (fun hc => (y_fieldAddr rfl et Tryz.underlying36 rfl size_2 rfl)) ?_
  refine s_gval (g_false rfl rfl rfl rfl) rfl (fun hc => (y_load1 (v := (vi v1.D)) rfl (ev_gv et hc) Tryz.underlying2 rfl (hI.kblk (l := [(vi v1.D)]) .z rfl).1)) ?_
  refine s_gval (g_false rfl rfl rfl rfl) rfl (fun hc => (y_gtr rfl (ev_gv et hc) ev_const)) ?_
  refine sq (y_or rfl et et) ?_
  refine nk ?_
  refine c_cond (b := (((decide (2147483647 < v1.N)) || (decide (v1.N < (-2147483647)))) || (decide (v1.D < 1))) || (decide (2147483647 < v1.D))) et (fun hb => ?_) (fun hb => ?_)
  ·replace h := ite_t hb h
   refine sr ?_
   refine sac ?_
   refine s_nil ?_
   refine k_next (e := [(4, (vb false))]) ⟨rfl, trivial⟩ ?_
   refine c_ret ?_
   obtain rfl := some_inj h
   exact q_ret (vs := [(vb false)]) Tryz.results142 ⟨ev_tmp rfl rfl, trivial⟩ ⟨rfl, hI.ext0, hI.fin trivial⟩
  ·replace h := ite_f hb h
   refine c_skip ?_
   refine k_next (e := [(2, (vp b1 0)), (3, (vp b2 0))]) ⟨rfl, rfl, trivial⟩ ?_
   refine c_seq ?_
   refine sr ?_
   refine sq (y_fieldAddr rfl et Tryz.underlying23 rfl size_3 rfl) ?_
   refine sq (y_load1 (v := (vi t1.Kind)) rfl et Tryz.underlying3 rfl (hI.kblk (l := [(vi t1.Kind)]) (.s .z) rfl).1) ?_
   refine sq (y_eql rfl et ev_const) ?_
   refine nk ?_
   refine c_cond (b := decide (t1.Kind = 3)) et (fun hb => ?_) (fun hb => ?_)
   ·replace h := ite_t hb h
    refine sr ?_
    refine sq (y_fieldAddr rfl et Tryz.underlying36 rfl size_2 rfl) ?_
    refine sq (y_load1 (v := (vi v1.D)) rfl et Tryz.underlying2 rfl (hI.kblk (l := [(vi v1.D)]) .z rfl).1) ?_
    refine sq (y_eql rfl et ev_const) ?_
    refine sa ?_
    refine nk ?_
    refine c_ret ?_
    obtain rfl := some_inj h
    exact q_ret (vs := [(vb (decide (v1.D = 1)))]) Tryz.results142 ⟨ev_tmp rfl rfl, trivial⟩ ⟨rfl, hI.ext0, hI.fin trivial⟩
   ·replace h := ite_f hb h
    refine c_skip ?_
    refine k_same ?_
    refine sr ?_
    refine sq (y_fieldAddr rfl et Tryz.underlying36 rfl size_2 rfl) ?_
    refine sq (y_load1 (v := (vi v1.N)) rfl et Tryz.underlying2 rfl (hI.kblk (l := [(vi v1.N)]) .z rfl).1) ?_
    refine sq (y_fieldAddr rfl et Tryz.underlying36 rfl size_2 rfl) ?_
    refine sq (y_load1 (v := (vi v1.N)) rfl et Tryz.underlying2 rfl (hI.kblk (l := [(vi v1.N)]) .z rfl).1) ?_
    refine sq (y_neg rfl et) ?_
    refine sq (y_max rfl et et) ?_
    refine sq (y_fieldAddr rfl et Tryz.underlying36 rfl size_2 rfl) ?_
    refine sq (y_load1 (v := (vi v1.D)) rfl et Tryz.underlying2 rfl (hI.kblk (l := [(vi v1.D)]) .z rfl).1) ?_
    obtain ⟨r1, hx2, h⟩ := bnd_some h
    refine s_call gn rfl (r_callF (vs := [(vi (max v1.N (wi64 (-v1.N)))), (vi v1.D)]) rfl ok_169 ⟨et, ⟨et, trivial⟩⟩) (Calls.mono (c_base_gcd (Dj F c4) w2 hI.lt (max v1.N (wi64 (-v1.N))) v1.D trivial r1 hx2) ?_)
    rintro _ w3 ⟨rfl, hx3, hl1⟩
    refine ⟨_, rfl, ?_⟩
    replace hI := (hI.ext hx3)
    refine sq (y_eql rfl et ev_const) ?_
    refine sa ?_
    refine nk ?_
    refine c_ret ?_
    obtain rfl := some_inj h
    exact q_ret (vs := [(vb (decide (r1 = 1)))]) Tryz.results142 ⟨ev_tmp rfl rfl, trivial⟩ ⟨rfl, hI.ext0, hI.fin trivial⟩
end Go.Proofs.YtebpdmfmknfkjaaGreatDoor
