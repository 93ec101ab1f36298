import Derived.Test.YtebpdmfmknfkjaaGreatDoorSCtb
namespace Go.Proofs.YtebpdmfmknfkjaaGreatDoor
open Go Go.RowKit Go.Vc
set_option linter.unusedVariables false
set_option linter.unusedSimpArgs false
set_option maxRecDepth 100000 in
set_option maxHeartbeats 4000000 in
theorem c_printer_writer_expr_w_b (rec_ : ((List UInt8) → GExpr → Option (Unit × List UInt8))) (hrec : ∀ (C0 F : NP) (w0 : World) (w1 : List UInt8) (e1 : GExpr) (b1 : Nat) (a1 : Option Addr) (c1 : Nat) (a2 : Option Addr) (c2 : Nat) (a3 : Option Addr) (c3 : Nat) (hI : Bun C0 F w0 C0 w0 [MO.bld 5 82 b1 w1] [Cl.sl cGMono a1 c1 e1.Lin.L, Cl.sl cGIndex a2 c2 e1.Idx, Cl.sl cGExpr a3 c3 e1.Args, clPow10, clSpace]) (r : Unit × List UInt8) (h : rec_ w1 e1 = some r), Calls Tryz.prog 46 #[(vp b1 0), (Value.agg #[(vi e1.Op), (str e1.Name), (vi e1.Val.N), (vi e1.Val.D), (vi e1.Type_.Kind), (vi e1.Type_.Bits), (vi e1.Type_.Frac), (vi e1.Type_.Round), (vi e1.Type_.Over), (vi e1.Lin.K), (vs a1 e1.Lin.L.length c1), (vs a2 e1.Idx.length c2), (vs a3 e1.Args.length c3)])] w0 fun e w => ∃ (C : NP), e = .returned (Value.tuple #[]) ∧ Bun C0 F w0 C w [MO.bld 5 82 b1 r.2] [])
  (C0 F : NP) (w0 : World) (w1 : List UInt8) (e1 : GExpr) (b1 : Nat) (a1 : Option Addr) (c1 : Nat) (a2 : Option Addr) (c2 : Nat) (a3 : Option Addr) (c3 : Nat) (hI : Bun C0 F w0 C0 w0 [MO.bld 5 82 b1 w1] [Cl.sl cGMono a1 c1 e1.Lin.L, Cl.sl cGIndex a2 c2 e1.Idx, Cl.sl cGExpr a3 c3 e1.Args, clPow10, clSpace]) (r : Unit × List UInt8) (h : m_printer_writer_expr_w_b rec_ w1 e1 = some r) : Calls Tryz.prog 46 #[(vp b1 0), (Value.agg #[(vi e1.Op), (str e1.Name), (vi e1.Val.N), (vi e1.Val.D), (vi e1.Type_.Kind), (vi e1.Type_.Bits), (vi e1.Type_.Frac), (vi e1.Type_.Round), (vi e1.Type_.Over), (vi e1.Lin.K), (vs a1 e1.Lin.L.length c1), (vs a2 e1.Idx.length c2), (vs a3 e1.Args.length c3)])] w0 fun e w => ∃ (C : NP), e = .returned (Value.tuple #[]) ∧ Bun C0 F w0 C w [MO.bld 5 82 b1 r.2] [] := by
 refine enterK (l := [(vp b1 0), (Value.agg #[(vi e1.Op), (str e1.Name), (vi e1.Val.N), (vi e1.Val.D), (vi e1.Type_.Kind), (vi e1.Type_.Bits), (vi e1.Type_.Frac), (vi e1.Type_.Round), (vi e1.Type_.Over), (vi e1.Lin.K), (vs a1 e1.Lin.L.length c1), (vs a2 e1.Idx.length c2), (vs a3 e1.Args.length c3)])]) Tryz.func46 rfl Tryz.ntmps46 rfl ?_
 rw [m_printer_writer_expr_w_b] at h
 refine sr ?_
 refine l_box (v := (Value.agg #[(vi e1.Op), (str e1.Name), (vi e1.Val.N), (vi e1.Val.D), (vi e1.Type_.Kind), (vi e1.Type_.Bits), (vi e1.Type_.Frac), (vi e1.Type_.Round), (vi e1.Type_.Over), (vi e1.Lin.K), (vs a1 e1.Lin.L.length c1), (vs a2 e1.Idx.length c2), (vs a3 e1.Args.length c3)])) (cs := #[(vi e1.Op), (str e1.Name), (vi e1.Val.N), (vi e1.Val.D), (vi e1.Type_.Kind), (vi e1.Type_.Bits), (vi e1.Type_.Frac), (vi e1.Type_.Round), (vi e1.Type_.Over), (vi e1.Lin.K), (vs a1 e1.Lin.L.length c1), (vs a2 e1.Idx.length c2), (vs a3 e1.Args.length c3)]) hI gn rfl rfl et rfl ?_
 clear hI; intro b2 c4 w2 hI
 obtain ⟨c5, hI⟩ := hI.relBox .z
 refine nk ?_
 refine sr ?_
 refine sq (y_fieldAddr rfl et Tryz.underlying39 rfl size_3 rfl) ?_
 refine sq (y_load1 (v := (vi e1.Op)) rfl et Tryz.underlying3 rfl (hI.kblk (l := [(vi e1.Op)]) .z rfl).1) ?_
 obtain ⟨r1, hx1, h⟩ := bnd_some h
 refine s_call gn rfl (r_callF (vs := [(vi e1.Op)]) rfl ok_95 ⟨et, trivial⟩) (Calls.mono (c_printer_precedence (Dj F c5) w2 hI.lt e1.Op trivial r1 hx1) ?_)
 rintro _ w3 ⟨rfl, hx2, hl1⟩
 refine ⟨_, rfl, ?_⟩
 replace hI := (hI.ext hx2)
 refine sa ?_
 refine nk ?_
 refine sr ?_
 refine sq (y_fieldAddr rfl et Tryz.underlying39 rfl size_3 rfl) ?_
 refine sq (y_load1 (v := (vi e1.Op)) rfl et Tryz.underlying3 rfl (hI.kblk (l := [(vi e1.Op)]) .z rfl).1) ?_
 refine nk ?_
 refine c_block ?_
 refine sr ?_
 refine sq (y_eql rfl et ev_const) ?_
 refine sa ?_
 refine nk ?_
 refine c_cond (b := decide (e1.Op = 1)) et (fun hb => ?_) (fun hb => ?_)
 ·replace h := ite_t hb h
  refine c_drawX [14] false (.c (0, .q) (.c (1, .q) (.c (2, .q) (.c (3, .q) (.c (4, .q) (.c (7, .q) (.c (8, .q) (.c (9, .q) (.c (10, .q) (.c (5, .s) (.c (6, .q) (.c (11, .s) (.c (12, .q) (.c (13, .q) (.c (14, .s) .n))))))))))))))) hI (by kernel_rfl) (by kernel_rfl) ?_
  clear hI; intro w4 hI
  refine a_q rfl gn rfl (fun w' => (y_move rfl et)) ?_
  refine a_q rfl gn rfl (fun w' => (y_nilCheck rfl et)) ?_
  refine a_q rfl gn rfl (fun w' => (y_fieldAddr rfl et Tryz.underlying82 rfl size_80 rfl)) ?_
  refine a_q rfl gn rfl (fun w' => (y_fieldAddr rfl et Tryz.underlying39 rfl size_23 rfl)) ?_
  refine a_read rfl gn rfl (fun w' hw' => (y_loadN (l := [(vi e1.Type_.Kind), (vi e1.Type_.Bits), (vi e1.Type_.Frac), (vi e1.Type_.Round), (vi e1.Type_.Over)]) rfl et Tryz.underlying23 rfl size_23 ((hI.kblk (l := [(vi e1.Type_.Kind), (vi e1.Type_.Bits), (vi e1.Type_.Frac), (vi e1.Type_.Round), (vi e1.Type_.Over)]) .z rfl).at_ (SX.any rfl hw')))) (by kernel_rfl) ?_
  refine a_q rfl gn rfl (fun w' => (y_fieldAddr rfl et Tryz.underlying39 rfl size_23 rfl)) ?_
  refine a_read rfl gn rfl (fun w' hw' => (y_loadN (l := [(vi e1.Type_.Kind), (vi e1.Type_.Bits), (vi e1.Type_.Frac), (vi e1.Type_.Round), (vi e1.Type_.Over)]) rfl et Tryz.underlying23 rfl size_23 ((hI.kblk (l := [(vi e1.Type_.Kind), (vi e1.Type_.Bits), (vi e1.Type_.Frac), (vi e1.Type_.Round), (vi e1.Type_.Over)]) .z rfl).at_ (SX.any rfl hw')))) (by kernel_rfl) ?_
  refine a_q rfl gn rfl (fun w' => (y_fieldAddr rfl et Tryz.underlying39 rfl size_36 rfl)) ?_
  refine a_read rfl gn rfl (fun w' hw' => (y_loadN (l := [(vi e1.Val.N), (vi e1.Val.D)]) rfl et Tryz.underlying36 rfl size_36 ((hI.kblk (l := [(vi e1.Val.N), (vi e1.Val.D)]) .z rfl).at_ (SX.any rfl hw')))) (by kernel_rfl) ?_
  obtain ⟨r2, hx3, h⟩ := bnd_some h
  refine la_call rfl gn rfl (r_callF (vs := [(Value.agg #[(vi e1.Type_.Kind), (vi e1.Type_.Bits), (vi e1.Type_.Frac), (vi e1.Type_.Round), (vi e1.Type_.Over)])]) rfl ok_10 ⟨et, trivial⟩) (Calls.mono (c_printer_Type (Dj F c5) w4 hI.lt e1.Type_ ⟨(hI.get (.s (.s (.s (.s .z))))), trivial⟩ r2 hx3) ?_)
  rintro _ w5 ⟨rfl, hx4, hl2⟩
  refine ⟨_, rfl, hx4, ?_⟩
  replace hI := (hI.ext hx4)
  obtain ⟨s1, hx5, h⟩ := bnd_some h
  refine a_q rfl gn rfl (fun w' => (y_catl rfl et ev_const hx5)) ?_
  obtain ⟨r3, hx6, h⟩ := bnd_some h
  refine la_call rfl gn rfl (r_callF (vs := [(Value.agg #[(vi e1.Type_.Kind), (vi e1.Type_.Bits), (vi e1.Type_.Frac), (vi e1.Type_.Round), (vi e1.Type_.Over)]), (Value.agg #[(vi e1.Val.N), (vi e1.Val.D)])]) rfl ok_96 ⟨et, ⟨et, trivial⟩⟩) (Calls.mono (c_value_Format (Dj F c5) w5 hI.lt e1.Type_ e1.Val ⟨(hI.get (.s (.s (.s (.s .z))))), trivial⟩ r3 hx6) ?_)
  rintro _ w6 ⟨rfl, hx7, hl3⟩
  refine ⟨_, rfl, hx7, ?_⟩
  replace hI := (hI.ext hx7)
  obtain ⟨s2, hx8, h⟩ := bnd_some h
  refine a_q rfl gn rfl (fun w' => (y_catl rfl et et hx8)) ?_
  obtain ⟨s3, hx9, h⟩ := bnd_some h
  refine a_q rfl gn rfl (fun w' => (y_catl rfl et ev_const hx9)) ?_
  refine a_turn (F := F) (C := c5) rfl rfl ?_
  obtain ⟨zs1, hx10, h⟩ := bnd_some h
  obtain ⟨c6, f1, hB, hl4, hk1⟩ := hI.hands (.l .n)
  refine la_callX rfl gn rfl (r_callF (vs := [(vp b1 0), (str s3)]) rfl ok_66 ⟨et, ⟨et, trivial⟩⟩) (Calls.mono (c_bldWrite bldT_82 c6 f1 w6 b1 w1 s3 zs1 (hB.subs trivial) hx10) ?_)
  rintro _ w7 ⟨c7, rfl, hB2⟩
  obtain ⟨c8, hs1, hI⟩ := hk1 _ _ _ _ hB2
  replace hI : Bun C0 F w0 c8 w7 [MO.bld 5 82 b1 zs1] [Cl.blk b2 39 #[(vi e1.Op), (str e1.Name), (vi e1.Val.N), (vi e1.Val.D), (vi e1.Type_.Kind), (vi e1.Type_.Bits), (vi e1.Type_.Frac), (vi e1.Type_.Round), (vi e1.Type_.Over), (vi e1.Lin.K), (vs a1 e1.Lin.L.length c1), (vs a2 e1.Idx.length c2), (vs a3 e1.Args.length c3)], Cl.sl cGMono a1 c1 e1.Lin.L, Cl.sl cGIndex a2 c2 e1.Idx, Cl.sl cGExpr a3 c3 e1.Args, clPow10, clSpace] := hI
  refine ⟨_, rfl, DM true F c8, hs1, ?_⟩
  refine a_nil ?_
  obtain rfl := some_inj h
  exact q_ret (vs := []) Tryz.results46 trivial ⟨_, rfl, hI.arr (.c .z .n) trivial⟩
 ·replace h := ite_f hb h
  refine sr ?_
  refine sq (y_eql rfl et ev_const) ?_
  refine sa ?_
  refine nk ?_
  refine c_cond (b := decide (e1.Op = 2)) et (fun hb => ?_) (fun hb => ?_)
  ·replace h := ite_t hb h
   refine c_drawX [8] false (.c (0, .q) (.c (1, .q) (.c (2, .q) (.c (3, .q) (.c (4, .q) (.c (5, .s) (.c (6, .q) (.c (7, .q) (.c (8, .s) .n))))))))) hI (by kernel_rfl) (by kernel_rfl) ?_
   clear hI; intro w8 hI
   refine a_q rfl gn rfl (fun w' => (y_move rfl et)) ?_
   refine a_q rfl gn rfl (fun w' => (y_nilCheck rfl et)) ?_
   refine a_q rfl gn rfl (fun w' => (y_fieldAddr rfl et Tryz.underlying82 rfl size_80 rfl)) ?_
   refine a_q rfl gn rfl (fun w' => (y_fieldAddr rfl et Tryz.underlying39 rfl size_29 rfl)) ?_
   refine a_read rfl gn rfl (fun w' hw' => (y_loadN (l := [(vi e1.Lin.K), (vs a1 e1.Lin.L.length c1)]) rfl et Tryz.underlying29 rfl size_29 ((hI.kblk (l := [(vi e1.Lin.K), (vs a1 e1.Lin.L.length c1)]) .z rfl).at_ (SX.any rfl hw')))) (by kernel_rfl) ?_
   obtain ⟨r4, hx11, h⟩ := bnd_some h
   refine la_call rfl gn rfl (r_callF (vs := [(Value.agg #[(vi e1.Lin.K), (vs a1 e1.Lin.L.length c1)])]) rfl ok_36 ⟨et, trivial⟩) (Calls.mono (c_lin_Format (Dj F c5) w8 hI.lt e1.Lin a1 c1 ⟨(hI.get (.s .z)), (hI.get (.s (.s (.s (.s .z))))), trivial⟩ r4 hx11) ?_)
   rintro _ w9 ⟨rfl, hx12, hl5⟩
   refine ⟨_, rfl, hx12, ?_⟩
   replace hI := (hI.ext hx12)
   obtain ⟨s4, hx13, h⟩ := bnd_some h
   refine a_q rfl gn rfl (fun w' => (y_catl rfl ev_const et hx13)) ?_
   obtain ⟨s5, hx14, h⟩ := bnd_some h
   refine a_q rfl gn rfl (fun w' => (y_catl rfl et ev_const hx14)) ?_
   refine a_turn (F := F) (C := c5) rfl rfl ?_
   obtain ⟨zs2, hx15, h⟩ := bnd_some h
   obtain ⟨c9, f2, hB, hl6, hk2⟩ := hI.hands (.l .n)
   refine la_callX rfl gn rfl (r_callF (vs := [(vp b1 0), (str s5)]) rfl ok_66 ⟨et, ⟨et, trivial⟩⟩) (Calls.mono (c_bldWrite bldT_82 c9 f2 w9 b1 w1 s5 zs2 (hB.subs trivial) hx15) ?_)
   rintro _ w10 ⟨c10, rfl, hB2⟩
   obtain ⟨c11, hs2, hI⟩ := hk2 _ _ _ _ hB2
   replace hI : Bun C0 F w0 c11 w10 [MO.bld 5 82 b1 zs2] [Cl.blk b2 39 #[(vi e1.Op), (str e1.Name), (vi e1.Val.N), (vi e1.Val.D), (vi e1.Type_.Kind), (vi e1.Type_.Bits), (vi e1.Type_.Frac), (vi e1.Type_.Round), (vi e1.Type_.Over), (vi e1.Lin.K), (vs a1 e1.Lin.L.length c1), (vs a2 e1.Idx.length c2), (vs a3 e1.Args.length c3)], Cl.sl cGMono a1 c1 e1.Lin.L, Cl.sl cGIndex a2 c2 e1.Idx, Cl.sl cGExpr a3 c3 e1.Args, clPow10, clSpace] := hI
   refine ⟨_, rfl, DM true F c11, hs2, ?_⟩
   refine a_nil ?_
   obtain rfl := some_inj h
   exact q_ret (vs := []) Tryz.results46 trivial ⟨_, rfl, hI.arr (.c .z .n) trivial⟩
  ·replace h := ite_f hb h
   refine sr ?_
   refine sq (y_eql rfl et ev_const) ?_
   refine sa ?_
   refine nk ?_
   refine c_cond (b := decide (e1.Op = 3)) et (fun hb => ?_) (fun hb => ?_)
   ·replace h := ite_t hb h
    refine sr ?_
    refine sq (y_fieldAddr rfl et Tryz.underlying39 rfl size_34 rfl) ?_
    refine sq (y_load1 (v := (vs a2 e1.Idx.length c2)) rfl et Tryz.underlying34 rfl (hI.kblk (l := [(vs a2 e1.Idx.length c2)]) .z rfl).1) ?_
    refine sa ?_
    refine nk ?_
    refine c_drawX [13] false (.c (0, .q) (.c (1, .q) (.c (2, .q) (.c (3, .q) (.c (4, .q) (.c (5, .q) (.c (6, .q) (.c (7, .q) (.c (8, .q) (.c (9, .q) (.c (10, .s) (.c (11, .q) (.c (12, .q) (.c (13, .s) .n)))))))))))))) hI (by kernel_rfl) (by kernel_rfl) ?_
    clear hI; intro w11 hI
    refine a_q rfl gn rfl (fun w' => (y_move rfl et)) ?_
    refine a_q rfl gn rfl (fun w' => (y_nilCheck rfl et)) ?_
    refine a_q rfl gn rfl (fun w' => (y_fieldAddr rfl et Tryz.underlying82 rfl size_80 rfl)) ?_
    refine a_q rfl gn rfl (fun w' => (y_fieldAddr rfl et Tryz.underlying39 rfl size_9 rfl)) ?_
    refine a_read rfl gn rfl (fun w' hw' => (y_load1 (v := (str e1.Name)) rfl et Tryz.underlying9 rfl ((hI.kblk (l := [(str e1.Name)]) .z rfl).at_ (SX.any rfl hw')))) (by kernel_rfl) ?_
    obtain ⟨s6, hx16, h⟩ := bnd_some h
    refine a_q rfl gn rfl (fun w' => (y_catl rfl et ev_const hx16)) ?_
    refine a_q rfl gn rfl (fun w' => (y_move rfl et)) ?_
    refine a_q rfl gn rfl (fun w' => (y_lenl rfl Tryz.underlying126 et)) ?_
    refine a_q rfl gn rfl (fun w' => (y_move rfl et)) ?_
    refine a_q rfl gn rfl (fun w' => (y_makeBound (vs := [(vs a2 e1.Idx.length c2)]) rfl rfl ⟨et, trivial⟩)) ?_
    have hI := hI.add (c := clFn_k5 (Value.func (.func 97) #[(vs a2 e1.Idx.length c2)] #[]) (m_printer_indices_item e1.Idx)) ⟨rfl, fun D' w' hs hl x_1 r k h => CallV.fnB (fs := [(vs a2 e1.Idx.length c2)]) ok_97 (c_printer_indices_item D' w' hl e1.Idx x_1 a2 c2 ⟨(Cl.sp _ hs (hI.get (.s (.s .z)))), (Cl.sp _ hs (hI.get (.s (.s (.s (.s .z)))))), (Cl.sp _ hs (hI.get (.s (.s (.s (.s (.s .z))))))), trivial⟩ r h)⟩
    obtain ⟨r5, hx17, h⟩ := bnd_some h
    refine la_call rfl gn rfl (r_callF (vs := [(vi (e1.Idx.length : Int)), (Value.func (.func 97) #[(vs a2 e1.Idx.length c2)] #[])]) rfl ok_38 ⟨et, ⟨et, trivial⟩⟩) (Calls.mono (c_printer_list (Dj F c5) w11 hI.lt (e1.Idx.length : Int) (m_printer_indices_item e1.Idx) (Value.func (.func 97) #[(vs a2 e1.Idx.length c2)] #[]) ⟨(hI.get .z), trivial⟩ r5 hx17) ?_)
    rintro _ w12 ⟨rfl, hx18, hl7⟩
    refine ⟨_, rfl, hx18, ?_⟩
    replace hI := (hI.ext hx18)
    obtain ⟨s7, hx19, h⟩ := bnd_some h
    refine a_q rfl gn rfl (fun w' => (y_catl rfl et et hx19)) ?_
    obtain ⟨s8, hx20, h⟩ := bnd_some h
    refine a_q rfl gn rfl (fun w' => (y_catl rfl et ev_const hx20)) ?_
    refine a_turn (F := F) (C := c5) rfl rfl ?_
    obtain ⟨zs3, hx21, h⟩ := bnd_some h
    obtain ⟨c12, f3, hB, hl8, hk3⟩ := hI.hands (.l .n)
    refine la_callX rfl gn rfl (r_callF (vs := [(vp b1 0), (str s8)]) rfl ok_66 ⟨et, ⟨et, trivial⟩⟩) (Calls.mono (c_bldWrite bldT_82 c12 f3 w12 b1 w1 s8 zs3 (hB.subs trivial) hx21) ?_)
    rintro _ w13 ⟨c13, rfl, hB2⟩
    obtain ⟨c14, hs3, hI⟩ := hk3 _ _ _ _ hB2
    replace hI : Bun C0 F w0 c14 w13 [MO.bld 5 82 b1 zs3] [clFn_k5 (Value.func (.func 97) #[(vs a2 e1.Idx.length c2)] #[]) (m_printer_indices_item e1.Idx), Cl.blk b2 39 #[(vi e1.Op), (str e1.Name), (vi e1.Val.N), (vi e1.Val.D), (vi e1.Type_.Kind), (vi e1.Type_.Bits), (vi e1.Type_.Frac), (vi e1.Type_.Round), (vi e1.Type_.Over), (vi e1.Lin.K), (vs a1 e1.Lin.L.length c1), (vs a2 e1.Idx.length c2), (vs a3 e1.Args.length c3)], Cl.sl cGMono a1 c1 e1.Lin.L, Cl.sl cGIndex a2 c2 e1.Idx, Cl.sl cGExpr a3 c3 e1.Args, clPow10, clSpace] := hI
    refine ⟨_, rfl, DM true F c14, hs3, ?_⟩
    refine a_nil ?_
    obtain rfl := some_inj h
    exact q_ret (vs := []) Tryz.results46 trivial ⟨_, rfl, hI.arr (.c .z .n) trivial⟩
   ·replace h := ite_f hb h
    refine sr ?_
    refine sq (y_eql rfl et ev_const) ?_
    refine sa ?_
    refine nk ?_
    refine c_cond (b := decide (e1.Op = 8)) et (fun hb => ?_) (fun hb => ?_)
    ·replace h := ite_t hb h
     refine sr ?_
     refine sm ?_
     refine sq (y_nilCheck rfl et) ?_
     refine sq (y_fieldAddr rfl et Tryz.underlying82 rfl size_80 rfl) ?_
     obtain ⟨zs4, hx22, h⟩ := bnd_some h
     obtain ⟨c15, f4, hB, hl9, hk4⟩ := hI.hands (.l .n)
     refine s_call gn rfl (r_callF (vs := [(vp b1 0), (str ([45] : List UInt8))]) rfl ok_66 ⟨et, ⟨ev_const, trivial⟩⟩) (Calls.mono (c_bldWrite bldT_82 c15 f4 w3 b1 w1 ([45] : List UInt8) zs4 (hB.subs trivial) hx22) ?_)
     rintro _ w14 ⟨c16, rfl, hB2⟩
     obtain ⟨c17, hs4, hI⟩ := hk4 _ _ _ _ hB2
     replace hI : Bun C0 F w0 c17 w14 [MO.bld 5 82 b1 zs4] [Cl.blk b2 39 #[(vi e1.Op), (str e1.Name), (vi e1.Val.N), (vi e1.Val.D), (vi e1.Type_.Kind), (vi e1.Type_.Bits), (vi e1.Type_.Frac), (vi e1.Type_.Round), (vi e1.Type_.Over), (vi e1.Lin.K), (vs a1 e1.Lin.L.length c1), (vs a2 e1.Idx.length c2), (vs a3 e1.Args.length c3)], Cl.sl cGMono a1 c1 e1.Lin.L, Cl.sl cGIndex a2 c2 e1.Idx, Cl.sl cGExpr a3 c3 e1.Args, clPow10, clSpace] := hI
     refine ⟨_, rfl, ?_⟩
     refine nk ?_
     refine c_region rfl ?_
     refine sm ?_
     refine sq (y_fieldAddr rfl et Tryz.underlying39 rfl size_37 rfl) ?_
     refine sq (y_load1 (v := (vs a3 e1.Args.length c3)) rfl et Tryz.underlying37 rfl (hI.kblk (l := [(vs a3 e1.Args.length c3)]) .z rfl).1) ?_
     obtain ⟨e2, hx23, h⟩ := bnd_some h
     obtain ⟨ad1, cs1, hA1, hr1, hq1⟩ := hI.clat (.s (.s (.s .z))) hx23
     obtain ⟨a4, c18, a5, c19, a6, c20, rfl, hf1, hf2, hf3⟩ := cGExpr_out hr1
     have hI := hI.add (c := Cl.sl cGMono a4 c18 e2.Lin.L) hf1
     have hI := hI.add (c := Cl.sl cGIndex a5 c19 e2.Idx) hf2
     have hI := hI.add (c := Cl.sl cGExpr a6 c20 e2.Args) hf3
     refine sq (y_indexAddr rfl Tryz.underlying37 size_39 et ev_const (lat_bd hx23) hA1) ?_
     refine sq (y_loadN (l := [(vi e2.Op), (str e2.Name), (vi e2.Val.N), (vi e2.Val.D), (vi e2.Type_.Kind), (vi e2.Type_.Bits), (vi e2.Type_.Frac), (vi e2.Type_.Round), (vi e2.Type_.Over), (vi e2.Lin.K), (vs a4 e2.Lin.L.length c18), (vs a5 e2.Idx.length c19), (vs a6 e2.Args.length c20)]) rfl et Tryz.underlying39 rfl size_39 hq1.1) ?_
     refine sm ?_
     obtain ⟨c21, f5, hB, hl10, hk5⟩ := hI.hands (.l .n)
     obtain ⟨⟨r6, s9⟩, hx24, h⟩ := bnd_some h
     try dsimp only at h
     refine s_call gn rfl (r_callF (vs := [(vp b1 0), (Value.agg #[(vi e2.Op), (str e2.Name), (vi e2.Val.N), (vi e2.Val.D), (vi e2.Type_.Kind), (vi e2.Type_.Bits), (vi e2.Type_.Frac), (vi e2.Type_.Round), (vi e2.Type_.Over), (vi e2.Lin.K), (vs a4 e2.Lin.L.length c18), (vs a5 e2.Idx.length c19), (vs a6 e2.Args.length c20)]), (vi r1)]) rfl ok_98 ⟨et, ⟨et, ⟨et, trivial⟩⟩⟩) (Calls.mono (c_printer_writer_operand_w rec_ hrec c21 f5 w14 zs4 e2 r1 b1 a4 c18 a5 c19 a6 c20 (hB.subs ⟨(.s (.s .z)), (.s .z), .z, (.s (.s (.s (.s (.s (.s (.s .z))))))), (.s (.s (.s (.s (.s (.s (.s (.s .z)))))))), trivial⟩) _ hx24) ?_)
     rintro _ w15 ⟨c22, rfl, hB2⟩
     obtain ⟨c23, hs5, hI⟩ := hk5 _ _ _ _ hB2
     replace hI : Bun C0 F w0 c23 w15 [MO.bld 5 82 b1 s9] [Cl.sl cGExpr a6 c20 e2.Args, Cl.sl cGIndex a5 c19 e2.Idx, Cl.sl cGMono a4 c18 e2.Lin.L, Cl.blk b2 39 #[(vi e1.Op), (str e1.Name), (vi e1.Val.N), (vi e1.Val.D), (vi e1.Type_.Kind), (vi e1.Type_.Bits), (vi e1.Type_.Frac), (vi e1.Type_.Round), (vi e1.Type_.Over), (vi e1.Lin.K), (vs a1 e1.Lin.L.length c1), (vs a2 e1.Idx.length c2), (vs a3 e1.Args.length c3)], Cl.sl cGMono a1 c1 e1.Lin.L, Cl.sl cGIndex a2 c2 e1.Idx, Cl.sl cGExpr a3 c3 e1.Args, clPow10, clSpace] := hI
     refine ⟨_, rfl, ?_⟩
     refine s_nil ?_
     obtain rfl := some_inj h
     exact q_ret (vs := []) Tryz.results46 trivial ⟨_, rfl, hI.arr (.c .z .n) trivial⟩
    ·replace h := ite_f hb h
     refine sr ?_
     refine sq (y_eql rfl et ev_const) ?_
     refine sa ?_
     refine nk ?_
     refine c_cond (b := decide (e1.Op = 18)) et (fun hb => ?_) (fun hb => ?_)
     ·replace h := ite_t hb h
      refine sr ?_
      refine sm ?_
      refine sq (y_nilCheck rfl et) ?_
      refine sq (y_fieldAddr rfl et Tryz.underlying82 rfl size_80 rfl) ?_
      obtain ⟨zs5, hx25, h⟩ := bnd_some h
      obtain ⟨c24, f6, hB, hl11, hk6⟩ := hI.hands (.l .n)
      refine s_call gn rfl (r_callF (vs := [(vp b1 0), (str ([33] : List UInt8))]) rfl ok_66 ⟨et, ⟨ev_const, trivial⟩⟩) (Calls.mono (c_bldWrite bldT_82 c24 f6 w3 b1 w1 ([33] : List UInt8) zs5 (hB.subs trivial) hx25) ?_)
      rintro _ w16 ⟨c25, rfl, hB2⟩
      obtain ⟨c26, hs6, hI⟩ := hk6 _ _ _ _ hB2
      replace hI : Bun C0 F w0 c26 w16 [MO.bld 5 82 b1 zs5] [Cl.blk b2 39 #[(vi e1.Op), (str e1.Name), (vi e1.Val.N), (vi e1.Val.D), (vi e1.Type_.Kind), (vi e1.Type_.Bits), (vi e1.Type_.Frac), (vi e1.Type_.Round), (vi e1.Type_.Over), (vi e1.Lin.K), (vs a1 e1.Lin.L.length c1), (vs a2 e1.Idx.length c2), (vs a3 e1.Args.length c3)], Cl.sl cGMono a1 c1 e1.Lin.L, Cl.sl cGIndex a2 c2 e1.Idx, Cl.sl cGExpr a3 c3 e1.Args, clPow10, clSpace] := hI
      refine ⟨_, rfl, ?_⟩
      refine nk ?_
      refine c_region rfl ?_
      refine sm ?_
      refine sq (y_fieldAddr rfl et Tryz.underlying39 rfl size_37 rfl) ?_
      refine sq (y_load1 (v := (vs a3 e1.Args.length c3)) rfl et Tryz.underlying37 rfl (hI.kblk (l := [(vs a3 e1.Args.length c3)]) .z rfl).1) ?_
      obtain ⟨e3, hx26, h⟩ := bnd_some h
      obtain ⟨ad2, cs2, hA2, hr2, hq2⟩ := hI.clat (.s (.s (.s .z))) hx26
      obtain ⟨a7, c27, a8, c28, a9, c29, rfl, hf4, hf5, hf6⟩ := cGExpr_out hr2
      have hI := hI.add (c := Cl.sl cGMono a7 c27 e3.Lin.L) hf4
      have hI := hI.add (c := Cl.sl cGIndex a8 c28 e3.Idx) hf5
      have hI := hI.add (c := Cl.sl cGExpr a9 c29 e3.Args) hf6
      refine sq (y_indexAddr rfl Tryz.underlying37 size_39 et ev_const (lat_bd hx26) hA2) ?_
      refine sq (y_loadN (l := [(vi e3.Op), (str e3.Name), (vi e3.Val.N), (vi e3.Val.D), (vi e3.Type_.Kind), (vi e3.Type_.Bits), (vi e3.Type_.Frac), (vi e3.Type_.Round), (vi e3.Type_.Over), (vi e3.Lin.K), (vs a7 e3.Lin.L.length c27), (vs a8 e3.Idx.length c28), (vs a9 e3.Args.length c29)]) rfl et Tryz.underlying39 rfl size_39 hq2.1) ?_
      refine sm ?_
      obtain ⟨c30, f7, hB, hl12, hk7⟩ := hI.hands (.l .n)
      obtain ⟨⟨r7, s10⟩, hx27, h⟩ := bnd_some h
      try dsimp only at h
      refine s_call gn rfl (r_callF (vs := [(vp b1 0), (Value.agg #[(vi e3.Op), (str e3.Name), (vi e3.Val.N), (vi e3.Val.D), (vi e3.Type_.Kind), (vi e3.Type_.Bits), (vi e3.Type_.Frac), (vi e3.Type_.Round), (vi e3.Type_.Over), (vi e3.Lin.K), (vs a7 e3.Lin.L.length c27), (vs a8 e3.Idx.length c28), (vs a9 e3.Args.length c29)]), (vi r1)]) rfl ok_98 ⟨et, ⟨et, ⟨et, trivial⟩⟩⟩) (Calls.mono (c_printer_writer_operand_w rec_ hrec c30 f7 w16 zs5 e3 r1 b1 a7 c27 a8 c28 a9 c29 (hB.subs ⟨(.s (.s .z)), (.s .z), .z, (.s (.s (.s (.s (.s (.s (.s .z))))))), (.s (.s (.s (.s (.s (.s (.s (.s .z)))))))), trivial⟩) _ hx27) ?_)
      rintro _ w17 ⟨c31, rfl, hB2⟩
      obtain ⟨c32, hs7, hI⟩ := hk7 _ _ _ _ hB2
      replace hI : Bun C0 F w0 c32 w17 [MO.bld 5 82 b1 s10] [Cl.sl cGExpr a9 c29 e3.Args, Cl.sl cGIndex a8 c28 e3.Idx, Cl.sl cGMono a7 c27 e3.Lin.L, Cl.blk b2 39 #[(vi e1.Op), (str e1.Name), (vi e1.Val.N), (vi e1.Val.D), (vi e1.Type_.Kind), (vi e1.Type_.Bits), (vi e1.Type_.Frac), (vi e1.Type_.Round), (vi e1.Type_.Over), (vi e1.Lin.K), (vs a1 e1.Lin.L.length c1), (vs a2 e1.Idx.length c2), (vs a3 e1.Args.length c3)], Cl.sl cGMono a1 c1 e1.Lin.L, Cl.sl cGIndex a2 c2 e1.Idx, Cl.sl cGExpr a3 c3 e1.Args, clPow10, clSpace] := hI
      refine ⟨_, rfl, ?_⟩
      refine s_nil ?_
      obtain rfl := some_inj h
      exact q_ret (vs := []) Tryz.results46 trivial ⟨_, rfl, hI.arr (.c .z .n) trivial⟩
     ·replace h := ite_f hb h
      refine sr ?_
      refine sq (y_eql rfl et ev_const) ?_
      refine sa ?_
      refine nk ?_
      refine c_cond (b := decide (e1.Op = 9)) et (fun hb => ?_) (fun hb => ?_)
      ·replace h := ite_t hb h
       refine c_region rfl ?_
       refine sm ?_
       refine sq (y_fieldAddr rfl et Tryz.underlying39 rfl size_37 rfl) ?_
       refine sq (y_load1 (v := (vs a3 e1.Args.length c3)) rfl et Tryz.underlying37 rfl (hI.kblk (l := [(vs a3 e1.Args.length c3)]) .z rfl).1) ?_
       obtain ⟨c33, f8, hB, hl13, hk8⟩ := hI.hands (.l .n)
       obtain ⟨⟨r8, s11⟩, hx28, h⟩ := bnd_some h
       try dsimp only at h
       refine s_call gn rfl (r_callF (vs := [(vp b1 0), (str ([109, 105, 110] : List UInt8)), (str ([] : List UInt8)), (vs a3 e1.Args.length c3)]) rfl ok_99 ⟨et, ⟨ev_const, ⟨ev_const, ⟨et, trivial⟩⟩⟩⟩) (Calls.mono (c_printer_writer_call_w rec_ hrec c33 f8 w3 w1 ([109, 105, 110] : List UInt8) ([] : List UInt8) e1.Args b1 a3 c3 (hB.subs ⟨(.s (.s (.s .z))), (.s (.s (.s (.s .z)))), (.s (.s (.s (.s (.s .z))))), trivial⟩) _ hx28) ?_)
       rintro _ w18 ⟨c34, rfl, hB2⟩
       obtain ⟨c35, hs8, hI⟩ := hk8 _ _ _ _ hB2
       replace hI : Bun C0 F w0 c35 w18 [MO.bld 5 82 b1 s11] [Cl.blk b2 39 #[(vi e1.Op), (str e1.Name), (vi e1.Val.N), (vi e1.Val.D), (vi e1.Type_.Kind), (vi e1.Type_.Bits), (vi e1.Type_.Frac), (vi e1.Type_.Round), (vi e1.Type_.Over), (vi e1.Lin.K), (vs a1 e1.Lin.L.length c1), (vs a2 e1.Idx.length c2), (vs a3 e1.Args.length c3)], Cl.sl cGMono a1 c1 e1.Lin.L, Cl.sl cGIndex a2 c2 e1.Idx, Cl.sl cGExpr a3 c3 e1.Args, clPow10, clSpace] := hI
       refine ⟨_, rfl, ?_⟩
       refine s_nil ?_
       obtain rfl := some_inj h
       exact q_ret (vs := []) Tryz.results46 trivial ⟨_, rfl, hI.arr (.c .z .n) trivial⟩
      ·replace h := ite_f hb h
       refine sr ?_
       refine sq (y_eql rfl et ev_const) ?_
       refine sa ?_
       refine nk ?_
       refine c_cond (b := decide (e1.Op = 10)) et (fun hb => ?_) (fun hb => ?_)
       ·replace h := ite_t hb h
        refine c_region rfl ?_
        refine sm ?_
        refine sq (y_fieldAddr rfl et Tryz.underlying39 rfl size_37 rfl) ?_
        refine sq (y_load1 (v := (vs a3 e1.Args.length c3)) rfl et Tryz.underlying37 rfl (hI.kblk (l := [(vs a3 e1.Args.length c3)]) .z rfl).1) ?_
        obtain ⟨c36, f9, hB, hl14, hk9⟩ := hI.hands (.l .n)
        obtain ⟨⟨r9, s12⟩, hx29, h⟩ := bnd_some h
        try dsimp only at h
        refine s_call gn rfl (r_callF (vs := [(vp b1 0), (str ([109, 97, 120] : List UInt8)), (str ([] : List UInt8)), (vs a3 e1.Args.length c3)]) rfl ok_99 ⟨et, ⟨ev_const, ⟨ev_const, ⟨et, trivial⟩⟩⟩⟩) (Calls.mono (c_printer_writer_call_w rec_ hrec c36 f9 w3 w1 ([109, 97, 120] : List UInt8) ([] : List UInt8) e1.Args b1 a3 c3 (hB.subs ⟨(.s (.s (.s .z))), (.s (.s (.s (.s .z)))), (.s (.s (.s (.s (.s .z))))), trivial⟩) _ hx29) ?_)
        rintro _ w19 ⟨c37, rfl, hB2⟩
        obtain ⟨c38, hs9, hI⟩ := hk9 _ _ _ _ hB2
        replace hI : Bun C0 F w0 c38 w19 [MO.bld 5 82 b1 s12] [Cl.blk b2 39 #[(vi e1.Op), (str e1.Name), (vi e1.Val.N), (vi e1.Val.D), (vi e1.Type_.Kind), (vi e1.Type_.Bits), (vi e1.Type_.Frac), (vi e1.Type_.Round), (vi e1.Type_.Over), (vi e1.Lin.K), (vs a1 e1.Lin.L.length c1), (vs a2 e1.Idx.length c2), (vs a3 e1.Args.length c3)], Cl.sl cGMono a1 c1 e1.Lin.L, Cl.sl cGIndex a2 c2 e1.Idx, Cl.sl cGExpr a3 c3 e1.Args, clPow10, clSpace] := hI
        refine ⟨_, rfl, ?_⟩
        refine s_nil ?_
        obtain rfl := some_inj h
        exact q_ret (vs := []) Tryz.results46 trivial ⟨_, rfl, hI.arr (.c .z .n) trivial⟩
       ·replace h := ite_f hb h
        refine sr ?_
        refine sq (y_eql rfl et ev_const) ?_
        refine sa ?_
        refine nk ?_
        refine c_cond (b := decide (e1.Op = 11)) et (fun hb => ?_) (fun hb => ?_)
        ·replace h := ite_t hb h
         refine c_region rfl ?_
         refine sm ?_
         refine sq (y_fieldAddr rfl et Tryz.underlying39 rfl size_37 rfl) ?_
         refine sq (y_load1 (v := (vs a3 e1.Args.length c3)) rfl et Tryz.underlying37 rfl (hI.kblk (l := [(vs a3 e1.Args.length c3)]) .z rfl).1) ?_
         obtain ⟨c39, f10, hB, hl15, hk10⟩ := hI.hands (.l .n)
         obtain ⟨⟨r10, s13⟩, hx30, h⟩ := bnd_some h
         try dsimp only at h
         refine s_call gn rfl (r_callF (vs := [(vp b1 0), (str ([105, 102] : List UInt8)), (str ([] : List UInt8)), (vs a3 e1.Args.length c3)]) rfl ok_99 ⟨et, ⟨ev_const, ⟨ev_const, ⟨et, trivial⟩⟩⟩⟩) (Calls.mono (c_printer_writer_call_w rec_ hrec c39 f10 w3 w1 ([105, 102] : List UInt8) ([] : List UInt8) e1.Args b1 a3 c3 (hB.subs ⟨(.s (.s (.s .z))), (.s (.s (.s (.s .z)))), (.s (.s (.s (.s (.s .z))))), trivial⟩) _ hx30) ?_)
         rintro _ w20 ⟨c40, rfl, hB2⟩
         obtain ⟨c41, hs10, hI⟩ := hk10 _ _ _ _ hB2
         replace hI : Bun C0 F w0 c41 w20 [MO.bld 5 82 b1 s13] [Cl.blk b2 39 #[(vi e1.Op), (str e1.Name), (vi e1.Val.N), (vi e1.Val.D), (vi e1.Type_.Kind), (vi e1.Type_.Bits), (vi e1.Type_.Frac), (vi e1.Type_.Round), (vi e1.Type_.Over), (vi e1.Lin.K), (vs a1 e1.Lin.L.length c1), (vs a2 e1.Idx.length c2), (vs a3 e1.Args.length c3)], Cl.sl cGMono a1 c1 e1.Lin.L, Cl.sl cGIndex a2 c2 e1.Idx, Cl.sl cGExpr a3 c3 e1.Args, clPow10, clSpace] := hI
         refine ⟨_, rfl, ?_⟩
         refine s_nil ?_
         obtain rfl := some_inj h
         exact q_ret (vs := []) Tryz.results46 trivial ⟨_, rfl, hI.arr (.c .z .n) trivial⟩
        ·replace h := ite_f hb h
         refine sr ?_
         refine sq (y_eql rfl et ev_const) ?_
         refine sa ?_
         refine nk ?_
         refine c_cond (b := decide (e1.Op = 12)) et (fun hb => ?_) (fun hb => ?_)
         ·replace h := ite_t hb h
          refine c_drawX [6] false (.c (0, .q) (.c (1, .q) (.c (2, .q) (.c (4, .q) (.c (5, .q) (.c (3, .s) (.c (6, .s) .n))))))) hI (by kernel_rfl) (by kernel_rfl) ?_
          clear hI; intro w21 hI
          refine a_q rfl gn rfl (fun w' => (y_move rfl et)) ?_
          refine a_q rfl gn rfl (fun w' => (y_fieldAddr rfl et Tryz.underlying39 rfl size_23 rfl)) ?_
          refine a_read rfl gn rfl (fun w' hw' => (y_loadN (l := [(vi e1.Type_.Kind), (vi e1.Type_.Bits), (vi e1.Type_.Frac), (vi e1.Type_.Round), (vi e1.Type_.Over)]) rfl et Tryz.underlying23 rfl size_23 ((hI.kblk (l := [(vi e1.Type_.Kind), (vi e1.Type_.Bits), (vi e1.Type_.Frac), (vi e1.Type_.Round), (vi e1.Type_.Over)]) .z rfl).at_ (SX.any rfl hw')))) (by kernel_rfl) ?_
          refine a_q rfl gn rfl (fun w' => (y_fieldAddr rfl et Tryz.underlying39 rfl size_37 rfl)) ?_
          refine a_read rfl gn rfl (fun w' hw' => (y_load1 (v := (vs a3 e1.Args.length c3)) rfl et Tryz.underlying37 rfl ((hI.kblk (l := [(vs a3 e1.Args.length c3)]) .z rfl).at_ (SX.any rfl hw')))) (by kernel_rfl) ?_
          obtain ⟨r11, hx31, h⟩ := bnd_some h
          refine la_call rfl gn rfl (r_callF (vs := [(Value.agg #[(vi e1.Type_.Kind), (vi e1.Type_.Bits), (vi e1.Type_.Frac), (vi e1.Type_.Round), (vi e1.Type_.Over)])]) rfl ok_10 ⟨et, trivial⟩) (Calls.mono (c_printer_Type (Dj F c5) w21 hI.lt e1.Type_ ⟨(hI.get (.s (.s (.s (.s .z))))), trivial⟩ r11 hx31) ?_)
          rintro _ w22 ⟨rfl, hx32, hl16⟩
          refine ⟨_, rfl, hx32, ?_⟩
          replace hI := (hI.ext hx32)
          refine a_turn (F := F) (C := c5) rfl rfl ?_
          obtain ⟨c42, f11, hB, hl17, hk11⟩ := hI.hands (.l .n)
          obtain ⟨⟨r12, s14⟩, hx33, h⟩ := bnd_some h
          try dsimp only at h
          refine la_callX rfl gn rfl (r_callF (vs := [(vp b1 0), (str ([99, 97, 115, 116] : List UInt8)), (str r11), (vs a3 e1.Args.length c3)]) rfl ok_99 ⟨et, ⟨ev_const, ⟨et, ⟨et, trivial⟩⟩⟩⟩) (Calls.mono (c_printer_writer_call_w rec_ hrec c42 f11 w22 w1 ([99, 97, 115, 116] : List UInt8) r11 e1.Args b1 a3 c3 (hB.subs ⟨(.s (.s (.s .z))), (.s (.s (.s (.s .z)))), (.s (.s (.s (.s (.s .z))))), trivial⟩) _ hx33) ?_)
          rintro _ w23 ⟨c43, rfl, hB2⟩
          obtain ⟨c44, hs11, hI⟩ := hk11 _ _ _ _ hB2
          replace hI : Bun C0 F w0 c44 w23 [MO.bld 5 82 b1 s14] [Cl.blk b2 39 #[(vi e1.Op), (str e1.Name), (vi e1.Val.N), (vi e1.Val.D), (vi e1.Type_.Kind), (vi e1.Type_.Bits), (vi e1.Type_.Frac), (vi e1.Type_.Round), (vi e1.Type_.Over), (vi e1.Lin.K), (vs a1 e1.Lin.L.length c1), (vs a2 e1.Idx.length c2), (vs a3 e1.Args.length c3)], Cl.sl cGMono a1 c1 e1.Lin.L, Cl.sl cGIndex a2 c2 e1.Idx, Cl.sl cGExpr a3 c3 e1.Args, clPow10, clSpace] := hI
          refine ⟨_, rfl, DM true F c44, hs11, ?_⟩
          refine a_nil ?_
          obtain rfl := some_inj h
          exact q_ret (vs := []) Tryz.results46 trivial ⟨_, rfl, hI.arr (.c .z .n) trivial⟩
         ·replace h := ite_f hb h
          refine sr ?_
          refine sm ?_
          refine sq (y_fieldAddr rfl et Tryz.underlying39 rfl size_37 rfl) ?_
          refine sq (y_load1 (v := (vs a3 e1.Args.length c3)) rfl et Tryz.underlying37 rfl (hI.kblk (l := [(vs a3 e1.Args.length c3)]) .z rfl).1) ?_
          obtain ⟨e4, hx34, h⟩ := bnd_some h
          obtain ⟨ad3, cs3, hA3, hr3, hq3⟩ := hI.clat (.s (.s (.s .z))) hx34
          obtain ⟨a10, c45, a11, c46, a12, c47, rfl, hf7, hf8, hf9⟩ := cGExpr_out hr3
          have hI := hI.add (c := Cl.sl cGMono a10 c45 e4.Lin.L) hf7
          have hI := hI.add (c := Cl.sl cGIndex a11 c46 e4.Idx) hf8
          have hI := hI.add (c := Cl.sl cGExpr a12 c47 e4.Args) hf9
          refine sq (y_indexAddr rfl Tryz.underlying37 size_39 et ev_const (lat_bd hx34) hA3) ?_
          refine sq (y_loadN (l := [(vi e4.Op), (str e4.Name), (vi e4.Val.N), (vi e4.Val.D), (vi e4.Type_.Kind), (vi e4.Type_.Bits), (vi e4.Type_.Frac), (vi e4.Type_.Round), (vi e4.Type_.Over), (vi e4.Lin.K), (vs a10 e4.Lin.L.length c45), (vs a11 e4.Idx.length c46), (vs a12 e4.Args.length c47)]) rfl et Tryz.underlying39 rfl size_39 hq3.1) ?_
          refine sm ?_
          obtain ⟨c48, f12, hB, hl18, hk12⟩ := hI.hands (.l .n)
          obtain ⟨⟨r13, s15⟩, hx35, h⟩ := bnd_some h
          try dsimp only at h
          refine s_call gn rfl (r_callF (vs := [(vp b1 0), (Value.agg #[(vi e4.Op), (str e4.Name), (vi e4.Val.N), (vi e4.Val.D), (vi e4.Type_.Kind), (vi e4.Type_.Bits), (vi e4.Type_.Frac), (vi e4.Type_.Round), (vi e4.Type_.Over), (vi e4.Lin.K), (vs a10 e4.Lin.L.length c45), (vs a11 e4.Idx.length c46), (vs a12 e4.Args.length c47)]), (vi r1)]) rfl ok_98 ⟨et, ⟨et, ⟨et, trivial⟩⟩⟩) (Calls.mono (c_printer_writer_operand_w rec_ hrec c48 f12 w3 w1 e4 r1 b1 a10 c45 a11 c46 a12 c47 (hB.subs ⟨(.s (.s .z)), (.s .z), .z, (.s (.s (.s (.s (.s (.s (.s .z))))))), (.s (.s (.s (.s (.s (.s (.s (.s .z)))))))), trivial⟩) _ hx35) ?_)
          rintro _ w24 ⟨c49, rfl, hB2⟩
          obtain ⟨c50, hs12, hI⟩ := hk12 _ _ _ _ hB2
          replace hI : Bun C0 F w0 c50 w24 [MO.bld 5 82 b1 s15] [Cl.sl cGExpr a12 c47 e4.Args, Cl.sl cGIndex a11 c46 e4.Idx, Cl.sl cGMono a10 c45 e4.Lin.L, Cl.blk b2 39 #[(vi e1.Op), (str e1.Name), (vi e1.Val.N), (vi e1.Val.D), (vi e1.Type_.Kind), (vi e1.Type_.Bits), (vi e1.Type_.Frac), (vi e1.Type_.Round), (vi e1.Type_.Over), (vi e1.Lin.K), (vs a1 e1.Lin.L.length c1), (vs a2 e1.Idx.length c2), (vs a3 e1.Args.length c3)], Cl.sl cGMono a1 c1 e1.Lin.L, Cl.sl cGIndex a2 c2 e1.Idx, Cl.sl cGExpr a3 c3 e1.Args, clPow10, clSpace] := hI
          refine ⟨_, rfl, ?_⟩
          refine s_nil ?_
          refine k_next (e := [(0, (vp b1 0)), (3, (vp b2 0)), (4, (vi r1))]) ⟨rfl, rfl, rfl, trivial⟩ ?_
          refine c_seq ?_
          refine c_drawX [8] false (.c (0, .q) (.c (1, .q) (.c (2, .q) (.c (3, .q) (.c (4, .q) (.c (5, .s) (.c (6, .q) (.c (7, .q) (.c (8, .s) .n))))))))) hI (by kernel_rfl) (by kernel_rfl) ?_
          clear hI; intro w25 hI
          refine a_q rfl gn rfl (fun w' => (y_move rfl et)) ?_
          refine a_q rfl gn rfl (fun w' => (y_nilCheck rfl et)) ?_
          refine a_q rfl gn rfl (fun w' => (y_fieldAddr rfl et Tryz.underlying82 rfl size_80 rfl)) ?_
          refine a_q rfl gn rfl (fun w' => (y_fieldAddr rfl et Tryz.underlying39 rfl size_3 rfl)) ?_
          refine a_read rfl gn rfl (fun w' hw' => (y_load1 (v := (vi e1.Op)) rfl et Tryz.underlying3 rfl ((hI.kblk (l := [(vi e1.Op)]) (.s (.s (.s .z))) rfl).at_ (SX.any rfl hw')))) (by kernel_rfl) ?_
          obtain ⟨r14, hx36, h⟩ := bnd_some h
          refine la_call rfl gn rfl (r_callF (vs := [(vi e1.Op)]) rfl ok_100 ⟨et, trivial⟩) (Calls.mono (c_printer_symbol (Dj F c50) w25 hI.lt e1.Op trivial r14 hx36) ?_)
          rintro _ w26 ⟨rfl, hx37, hl19⟩
          refine ⟨_, rfl, hx37, ?_⟩
          replace hI := (hI.ext hx37)
          obtain ⟨s16, hx38, h⟩ := bnd_some h
          refine a_q rfl gn rfl (fun w' => (y_catl rfl ev_const et hx38)) ?_
          obtain ⟨s17, hx39, h⟩ := bnd_some h
          refine a_q rfl gn rfl (fun w' => (y_catl rfl et ev_const hx39)) ?_
          refine a_turn (F := F) (C := c50) rfl rfl ?_
          obtain ⟨zs6, hx40, h⟩ := bnd_some h
          obtain ⟨c51, f13, hB, hl20, hk13⟩ := hI.hands (.l .n)
          refine la_callX rfl gn rfl (r_callF (vs := [(vp b1 0), (str s17)]) rfl ok_66 ⟨et, ⟨et, trivial⟩⟩) (Calls.mono (c_bldWrite bldT_82 c51 f13 w26 b1 s15 s17 zs6 (hB.subs trivial) hx40) ?_)
          rintro _ w27 ⟨c52, rfl, hB2⟩
          obtain ⟨c53, hs13, hI⟩ := hk13 _ _ _ _ hB2
          replace hI : Bun C0 F w0 c53 w27 [MO.bld 5 82 b1 zs6] [Cl.sl cGExpr a12 c47 e4.Args, Cl.sl cGIndex a11 c46 e4.Idx, Cl.sl cGMono a10 c45 e4.Lin.L, Cl.blk b2 39 #[(vi e1.Op), (str e1.Name), (vi e1.Val.N), (vi e1.Val.D), (vi e1.Type_.Kind), (vi e1.Type_.Bits), (vi e1.Type_.Frac), (vi e1.Type_.Round), (vi e1.Type_.Over), (vi e1.Lin.K), (vs a1 e1.Lin.L.length c1), (vs a2 e1.Idx.length c2), (vs a3 e1.Args.length c3)], Cl.sl cGMono a1 c1 e1.Lin.L, Cl.sl cGIndex a2 c2 e1.Idx, Cl.sl cGExpr a3 c3 e1.Args, clPow10, clSpace] := hI
          refine ⟨_, rfl, DM true F c53, hs13, ?_⟩
          refine a_nil ?_
          refine k_same ?_
          refine c_region rfl ?_
          refine sm ?_
          refine sq (y_fieldAddr rfl et Tryz.underlying39 rfl size_37 rfl) ?_
          refine sq (y_load1 (v := (vs a3 e1.Args.length c3)) rfl et Tryz.underlying37 rfl (hI.kblk (l := [(vs a3 e1.Args.length c3)]) (.s (.s (.s .z))) rfl).1) ?_
          obtain ⟨e5, hx41, h⟩ := bnd_some h
          obtain ⟨ad4, cs4, hA4, hr4, hq4⟩ := hI.clat (.s (.s (.s (.s (.s (.s .z)))))) hx41
          obtain ⟨a13, c54, a14, c55, a15, c56, rfl, hf10, hf11, hf12⟩ := cGExpr_out hr4
          have hI := hI.add (c := Cl.sl cGMono a13 c54 e5.Lin.L) hf10
          have hI := hI.add (c := Cl.sl cGIndex a14 c55 e5.Idx) hf11
          have hI := hI.add (c := Cl.sl cGExpr a15 c56 e5.Args) hf12
          refine sq (y_indexAddr rfl Tryz.underlying37 size_39 et ev_const (lat_bd hx41) hA4) ?_
          refine sq (y_loadN (l := [(vi e5.Op), (str e5.Name), (vi e5.Val.N), (vi e5.Val.D), (vi e5.Type_.Kind), (vi e5.Type_.Bits), (vi e5.Type_.Frac), (vi e5.Type_.Round), (vi e5.Type_.Over), (vi e5.Lin.K), (vs a13 e5.Lin.L.length c54), (vs a14 e5.Idx.length c55), (vs a15 e5.Args.length c56)]) rfl et Tryz.underlying39 rfl size_39 hq4.1) ?_
          refine sm ?_
          refine sq (y_add rfl et ev_const) ?_
          obtain ⟨c57, f14, hB, hl21, hk14⟩ := hI.hands (.l .n)
          obtain ⟨⟨r15, s18⟩, hx42, h⟩ := bnd_some h
          try dsimp only at h
          refine s_call gn rfl (r_callF (vs := [(vp b1 0), (Value.agg #[(vi e5.Op), (str e5.Name), (vi e5.Val.N), (vi e5.Val.D), (vi e5.Type_.Kind), (vi e5.Type_.Bits), (vi e5.Type_.Frac), (vi e5.Type_.Round), (vi e5.Type_.Over), (vi e5.Lin.K), (vs a13 e5.Lin.L.length c54), (vs a14 e5.Idx.length c55), (vs a15 e5.Args.length c56)]), (vi (wi64 (r1 + 1)))]) rfl ok_98 ⟨et, ⟨et, ⟨et, trivial⟩⟩⟩) (Calls.mono (c_printer_writer_operand_w rec_ hrec c57 f14 w27 zs6 e5 (wi64 (r1 + 1)) b1 a13 c54 a14 c55 a15 c56 (hB.subs ⟨(.s (.s .z)), (.s .z), .z, (.s (.s (.s (.s (.s (.s (.s (.s (.s (.s .z)))))))))), (.s (.s (.s (.s (.s (.s (.s (.s (.s (.s (.s .z))))))))))), trivial⟩) _ hx42) ?_)
          rintro _ w28 ⟨c58, rfl, hB2⟩
          obtain ⟨c59, hs14, hI⟩ := hk14 _ _ _ _ hB2
          replace hI : Bun C0 F w0 c59 w28 [MO.bld 5 82 b1 s18] [Cl.sl cGExpr a15 c56 e5.Args, Cl.sl cGIndex a14 c55 e5.Idx, Cl.sl cGMono a13 c54 e5.Lin.L, Cl.sl cGExpr a12 c47 e4.Args, Cl.sl cGIndex a11 c46 e4.Idx, Cl.sl cGMono a10 c45 e4.Lin.L, Cl.blk b2 39 #[(vi e1.Op), (str e1.Name), (vi e1.Val.N), (vi e1.Val.D), (vi e1.Type_.Kind), (vi e1.Type_.Bits), (vi e1.Type_.Frac), (vi e1.Type_.Round), (vi e1.Type_.Over), (vi e1.Lin.K), (vs a1 e1.Lin.L.length c1), (vs a2 e1.Idx.length c2), (vs a3 e1.Args.length c3)], Cl.sl cGMono a1 c1 e1.Lin.L, Cl.sl cGIndex a2 c2 e1.Idx, Cl.sl cGExpr a3 c3 e1.Args, clPow10, clSpace] := hI
          refine ⟨_, rfl, ?_⟩
          refine s_nil ?_
          obtain rfl := some_inj h
          exact q_ret (vs := []) Tryz.results46 trivial ⟨_, rfl, hI.arr (.c .z .n) trivial⟩
theorem c_printer_writer_expr_w_r (n : Nat) : ∀ (C0 F : NP) (w0 : World) (w1 : List UInt8) (e1 : GExpr) (b1 : Nat) (a1 : Option Addr) (c1 : Nat) (a2 : Option Addr) (c2 : Nat) (a3 : Option Addr) (c3 : Nat) (hI : Bun C0 F w0 C0 w0 [MO.bld 5 82 b1 w1] [Cl.sl cGMono a1 c1 e1.Lin.L, Cl.sl cGIndex a2 c2 e1.Idx, Cl.sl cGExpr a3 c3 e1.Args, clPow10, clSpace]) (r : Unit × List UInt8) (h : m_printer_writer_expr_w_r n w1 e1 = some r), Calls Tryz.prog 46 #[(vp b1 0), (Value.agg #[(vi e1.Op), (str e1.Name), (vi e1.Val.N), (vi e1.Val.D), (vi e1.Type_.Kind), (vi e1.Type_.Bits), (vi e1.Type_.Frac), (vi e1.Type_.Round), (vi e1.Type_.Over), (vi e1.Lin.K), (vs a1 e1.Lin.L.length c1), (vs a2 e1.Idx.length c2), (vs a3 e1.Args.length c3)])] w0 fun e w => ∃ (C : NP), e = .returned (Value.tuple #[]) ∧ Bun C0 F w0 C w [MO.bld 5 82 b1 r.2] [] := by
 induction n with
 | zero => intro C0 F w0 w1 e1 b1 a1 c1 a2 c2 a3 c3 hI r h; cases h
 | succ n ih => intro C0 F w0 w1 e1 b1 a1 c1 a2 c2 a3 c3 hI r h; exact c_printer_writer_expr_w_b (m_printer_writer_expr_w_r n) ih C0 F w0 w1 e1 b1 a1 c1 a2 c2 a3 c3 hI r h
theorem c_printer_writer_expr_w (C0 F : NP) (w0 : World) (w1 : List UInt8) (e1 : GExpr) (b1 : Nat) (a1 : Option Addr) (c1 : Nat) (a2 : Option Addr) (c2 : Nat) (a3 : Option Addr) (c3 : Nat) (hI : Bun C0 F w0 C0 w0 [MO.bld 5 82 b1 w1] [Cl.sl cGMono a1 c1 e1.Lin.L, Cl.sl cGIndex a2 c2 e1.Idx, Cl.sl cGExpr a3 c3 e1.Args, clPow10, clSpace]) (r : Unit × List UInt8) (h : m_printer_writer_expr_w w1 e1 = some r) : Calls Tryz.prog 46 #[(vp b1 0), (Value.agg #[(vi e1.Op), (str e1.Name), (vi e1.Val.N), (vi e1.Val.D), (vi e1.Type_.Kind), (vi e1.Type_.Bits), (vi e1.Type_.Frac), (vi e1.Type_.Round), (vi e1.Type_.Over), (vi e1.Lin.K), (vs a1 e1.Lin.L.length c1), (vs a2 e1.Idx.length c2), (vs a3 e1.Args.length c3)])] w0 fun e w => ∃ (C : NP), e = .returned (Value.tuple #[]) ∧ Bun C0 F w0 C w [MO.bld 5 82 b1 r.2] [] := c_printer_writer_expr_w_r fu C0 F w0 w1 e1 b1 a1 c1 a2 c2 a3 c3 hI r h
set_option maxRecDepth 100000 in
set_option maxHeartbeats 4000000 in
theorem c_printer_Expr (F : NP) (w0 : World) (hF : ∀ k, F k → k < w0.heap.size) (e1 : GExpr) (a1 : Option Addr) (c1 : Nat) (a2 : Option Addr) (c2 : Nat) (a3 : Option Addr) (c3 : Nat) (hc : AllCl [Cl.sl cGMono a1 c1 e1.Lin.L, Cl.sl cGIndex a2 c2 e1.Idx, Cl.sl cGExpr a3 c3 e1.Args, clSpace, clPow10] F w0) (r : List UInt8)
  (h : m_printer_Expr e1 = some r) :
  Calls Tryz.prog 17 #[(Value.agg #[(vi e1.Op), (str e1.Name), (vi e1.Val.N), (vi e1.Val.D), (vi e1.Type_.Kind), (vi e1.Type_.Bits), (vi e1.Type_.Frac), (vi e1.Type_.Round), (vi e1.Type_.Over), (vi e1.Lin.K), (vs a1 e1.Lin.L.length c1), (vs a2 e1.Idx.length c2), (vs a3 e1.Args.length c3)])] w0 fun e w => e = .returned (str r) ∧ Ext w0 w ∧ AllCl [] F w := by
 refine enterK (l := [(Value.agg #[(vi e1.Op), (str e1.Name), (vi e1.Val.N), (vi e1.Val.D), (vi e1.Type_.Kind), (vi e1.Type_.Bits), (vi e1.Type_.Frac), (vi e1.Type_.Round), (vi e1.Type_.Over), (vi e1.Lin.K), (vs a1 e1.Lin.L.length c1), (vs a2 e1.Idx.length c2), (vs a3 e1.Args.length c3)])]) Tryz.func17 rfl Tryz.ntmps17 rfl ?_
 have hI := Bun.start hF hc
 clear hc
 rw [m_printer_Expr] at h
 refine sr ?_
 refine l_box (v := (Value.agg #[(vi e1.Op), (str e1.Name), (vi e1.Val.N), (vi e1.Val.D), (vi e1.Type_.Kind), (vi e1.Type_.Bits), (vi e1.Type_.Frac), (vi e1.Type_.Round), (vi e1.Type_.Over), (vi e1.Lin.K), (vs a1 e1.Lin.L.length c1), (vs a2 e1.Idx.length c2), (vs a3 e1.Args.length c3)])) (cs := #[(vi e1.Op), (str e1.Name), (vi e1.Val.N), (vi e1.Val.D), (vi e1.Type_.Kind), (vi e1.Type_.Bits), (vi e1.Type_.Frac), (vi e1.Type_.Round), (vi e1.Type_.Over), (vi e1.Lin.K), (vs a1 e1.Lin.L.length c1), (vs a2 e1.Idx.length c2), (vs a3 e1.Args.length c3)]) hI gn rfl rfl et rfl ?_
 clear hI; intro b1 c4 w1 hI
 obtain ⟨c5, hI⟩ := hI.relBox .z
 refine sac ?_
 refine nk ?_
 refine c_seq ?_
 refine sr ?_
 refine sq (y_loadN (l := [(vi e1.Op), (str e1.Name), (vi e1.Val.N), (vi e1.Val.D), (vi e1.Type_.Kind), (vi e1.Type_.Bits), (vi e1.Type_.Frac), (vi e1.Type_.Round), (vi e1.Type_.Over), (vi e1.Lin.K), (vs a1 e1.Lin.L.length c1), (vs a2 e1.Idx.length c2), (vs a3 e1.Args.length c3)]) rfl et Tryz.underlying39 rfl size_39 (hI.kblk (l := [(vi e1.Op), (str e1.Name), (vi e1.Val.N), (vi e1.Val.D), (vi e1.Type_.Kind), (vi e1.Type_.Bits), (vi e1.Type_.Frac), (vi e1.Type_.Round), (vi e1.Type_.Over), (vi e1.Lin.K), (vs a1 e1.Lin.L.length c1), (vs a2 e1.Idx.length c2), (vs a3 e1.Args.length c3)]) .z rfl).1) ?_
 obtain ⟨r1, hx1, h⟩ := bnd_some h
 refine s_call gn rfl (r_callF (vs := [(Value.agg #[(vi e1.Op), (str e1.Name), (vi e1.Val.N), (vi e1.Val.D), (vi e1.Type_.Kind), (vi e1.Type_.Bits), (vi e1.Type_.Frac), (vi e1.Type_.Round), (vi e1.Type_.Over), (vi e1.Lin.K), (vs a1 e1.Lin.L.length c1), (vs a2 e1.Idx.length c2), (vs a3 e1.Args.length c3)])]) rfl ok_45 ⟨et, trivial⟩) (Calls.mono (c_expr_Validate (Dj F c5) w1 hI.lt e1 a1 c1 a2 c2 a3 c3 ⟨(hI.get (.s .z)), (hI.get (.s (.s .z))), (hI.get (.s (.s (.s .z)))), (hI.get (.s (.s (.s (.s .z))))), trivial⟩ r1 hx1) ?_)
 rintro _ w2 ⟨rfl, hx2, hl1⟩
 refine ⟨_, rfl, ?_⟩
 replace hI := (hI.ext hx2)
 refine sq (y_neq rfl et ev_const) ?_
 refine nk ?_
 refine c_cond (b := !decide (r1 = 0)) et (fun hb => ?_) (fun hb => ?_)
 ·replace h := ite_t hb h
  refine sr ?_
  refine sac ?_
  refine nk ?_
  refine c_ret ?_
  obtain rfl := some_inj h
  exact q_ret (vs := [(str ([] : List UInt8))]) Tryz.results17 ⟨ev_tmp rfl rfl, trivial⟩ ⟨rfl, hI.ext0, hI.fin trivial⟩
 ·replace h := ite_f hb h
  refine c_skip ?_
  refine k_same ?_
  refine sr ?_
  refine sq (y_build (vs := []) (cs := #[(Value.pointer none), (vs none 0 0)]) rfl trivial (by kernel_rfl)) ?_
  refine l_box (v := (Value.agg #[(Value.pointer none), (vs none 0 0)])) (cs := #[(Value.pointer none), (vs none 0 0)]) hI gn rfl rfl et rfl ?_
  clear hI; intro b2 c6 w3 hI
  obtain ⟨c7, hI⟩ := hI.toBld (tb := 5) .z
  refine sa ?_
  refine nk ?_
  refine sr ?_
  refine sm ?_
  refine sq (y_loadN (l := [(vi e1.Op), (str e1.Name), (vi e1.Val.N), (vi e1.Val.D), (vi e1.Type_.Kind), (vi e1.Type_.Bits), (vi e1.Type_.Frac), (vi e1.Type_.Round), (vi e1.Type_.Over), (vi e1.Lin.K), (vs a1 e1.Lin.L.length c1), (vs a2 e1.Idx.length c2), (vs a3 e1.Args.length c3)]) rfl et Tryz.underlying39 rfl size_39 (hI.kblk (l := [(vi e1.Op), (str e1.Name), (vi e1.Val.N), (vi e1.Val.D), (vi e1.Type_.Kind), (vi e1.Type_.Bits), (vi e1.Type_.Frac), (vi e1.Type_.Round), (vi e1.Type_.Over), (vi e1.Lin.K), (vs a1 e1.Lin.L.length c1), (vs a2 e1.Idx.length c2), (vs a3 e1.Args.length c3)]) .z rfl).1) ?_
  obtain ⟨c8, f1, hB, hl2, hk1⟩ := hI.hands (.l .n)
  obtain ⟨⟨r2, s1⟩, hx3, h⟩ := bnd_some h
  try dsimp only at h
  refine s_call gn rfl (r_callF (vs := [(vp b2 0), (Value.agg #[(vi e1.Op), (str e1.Name), (vi e1.Val.N), (vi e1.Val.D), (vi e1.Type_.Kind), (vi e1.Type_.Bits), (vi e1.Type_.Frac), (vi e1.Type_.Round), (vi e1.Type_.Over), (vi e1.Lin.K), (vs a1 e1.Lin.L.length c1), (vs a2 e1.Idx.length c2), (vs a3 e1.Args.length c3)])]) rfl ok_46 ⟨et, ⟨et, trivial⟩⟩) (Calls.mono (c_printer_writer_expr_w c8 f1 w3 ([] : List UInt8) e1 b2 a1 c1 a2 c2 a3 c3 (hB.subs ⟨(.s .z), (.s (.s .z)), (.s (.s (.s .z))), (.s (.s (.s (.s (.s .z))))), (.s (.s (.s (.s .z)))), trivial⟩) _ hx3) ?_)
  rintro _ w4 ⟨c9, rfl, hB2⟩
  obtain ⟨c10, hs1, hI⟩ := hk1 _ _ _ _ hB2
  replace hI : Bun noM F w0 c10 w4 [MO.bld 5 82 b2 s1] [Cl.blk b1 39 #[(vi e1.Op), (str e1.Name), (vi e1.Val.N), (vi e1.Val.D), (vi e1.Type_.Kind), (vi e1.Type_.Bits), (vi e1.Type_.Frac), (vi e1.Type_.Round), (vi e1.Type_.Over), (vi e1.Lin.K), (vs a1 e1.Lin.L.length c1), (vs a2 e1.Idx.length c2), (vs a3 e1.Args.length c3)], Cl.sl cGMono a1 c1 e1.Lin.L, Cl.sl cGIndex a2 c2 e1.Idx, Cl.sl cGExpr a3 c3 e1.Args, clSpace, clPow10] := hI
  refine ⟨_, rfl, ?_⟩
  refine nk ?_
  refine sr ?_
  refine sm ?_
  refine sq (y_nilCheck rfl et) ?_
  refine sq (y_fieldAddr rfl et Tryz.underlying82 rfl size_80 rfl) ?_
  refine s_call gn rfl (r_callF (vs := [(vp b2 0)]) rfl ok_47 ⟨et, trivial⟩) (Calls.mono (c_bldString bldT_82 hI .z) ?_)
  clear hI; rintro _ w5 ⟨rfl, c11, hs2, hI⟩
  refine ⟨_, rfl, ?_⟩
  refine sa ?_
  refine nk ?_
  refine c_ret ?_
  obtain rfl := some_inj h
  exact q_ret (vs := [(str s1)]) Tryz.results17 ⟨ev_tmp rfl rfl, trivial⟩ ⟨rfl, hI.ext0, hI.fin trivial⟩
set_option maxRecDepth 100000 in
set_option maxHeartbeats 4000000 in
theorem c_law15_alive (F : NP) (w0 : World) (hF : ∀ k, F k → k < w0.heap.size) (hc : AllCl [clPow10, clSpace] F w0) (r : Bool)
  (h : m_law15_alive = some r) :
  Calls Tryz.prog 12 #[] w0 fun e w => e = .returned (vb r) ∧ Ext w0 w ∧ AllCl [] F w := by
 refine enterK (l := []) Tryz.func12 rfl Tryz.ntmps12 rfl ?_
 have hI := Bun.start hF hc
 clear hc
 rw [m_law15_alive] at h
 refine sr ?_
 refine sac ?_
 refine nk ?_
 refine sr ?_
 refine sq (y_build (vs := [(0, (vi 3))]) (cs := #[(vi 3), (vi 0), (vi 0), (vi 0), (vi 0)]) rfl ⟨rfl, ev_const, trivial⟩ (by kernel_rfl)) ?_
 obtain ⟨r1, hx1, h⟩ := bnd_some h
 refine s_call gn rfl (r_callF (vs := [(Value.agg #[(vi 3), (vi 0), (vi 0), (vi 0), (vi 0)])]) rfl ok_10 ⟨et, trivial⟩) (Calls.mono (c_printer_Type (Dj F noM) w0 hI.lt (⟨3, 0, 0, 0, 0⟩ : GType) ⟨(hI.get .z), trivial⟩ r1 hx1) ?_)
 rintro _ w1 ⟨rfl, hx2, hl1⟩
 refine ⟨_, rfl, ?_⟩
 replace hI := (hI.ext hx2)
 refine sq (y_eqs rfl et ev_const) ?_
 refine sm ?_
 refine s_gval (g_true rfl rfl rfl rfl) rfl (fun hc => (y_build (vs := [(0, (vi 3)), (1, (str ([97] : List UInt8)))]) (cs := #[(vi 3), (str ([97] : List UInt8)), (vi 0), (vi 0), (vi 0), (vi 0), (vi 0), (vi 0), (vi 0), (vi 0), (vs none 0 0), (vs none 0 0), (vs none 0 0)]) rfl ⟨rfl, ev_const, ⟨rfl, ev_const, trivial⟩⟩ (by kernel_rfl))) ?_
 obtain ⟨ho1, h⟩ := chk_some h
 have hI := hI.add (c := Cl.sl cGMono none 0 ([] : List GMono)) SlC.nil
 have hI := hI.add (c := Cl.sl cGIndex none 0 ([] : List GIndex)) SlC.nil
 have hI := hI.add (c := Cl.sl cGExpr none 0 ([] : List GExpr)) SlC.nil
 obtain ⟨r2, hx3, h⟩ := bnd_some h
 refine s_call (grd_as (g_true rfl rfl rfl rfl) ho1) rfl (r_callF (vs := [(Value.agg #[(vi 3), (str ([97] : List UInt8)), (vi 0), (vi 0), (vi 0), (vi 0), (vi 0), (vi 0), (vi 0), (vi 0), (vs none 0 0), (vs none 0 0), (vs none 0 0)])]) rfl ok_17 ⟨(ev_gv et ho1), trivial⟩) (Calls.mono (c_printer_Expr (Dj F noM) w1 hI.lt (⟨3, ([97] : List UInt8), (⟨0, 0⟩ : GVal), (⟨0, 0, 0, 0, 0⟩ : GType), (⟨0, ([] : List GMono)⟩ : GLin), ([] : List GIndex), ([] : List GExpr)⟩ : GExpr) none 0 none 0 none 0 ⟨(hI.get (.s (.s .z))), (hI.get (.s .z)), (hI.get .z), (hI.get (.s (.s (.s (.s .z))))), (hI.get (.s (.s (.s .z)))), trivial⟩ r2 hx3) ?_)
 rintro _ w2 ⟨rfl, hx4, hl2⟩
 refine ⟨_, rfl, ?_⟩
 replace hI := (hI.ext hx4)
 refine s_gval (g_true rfl rfl rfl rfl) rfl (fun hc => (y_eqs rfl et ev_const)) ?_
 refine sq (y_and rfl et et) ?_
 refine sa ?_
 refine nk ?_
 refine c_ret ?_
 obtain rfl := some_inj h
 exact q_ret (vs := [(vb ((decide (r1 = ([105, 110, 116] : List UInt8))) && (decide (r2 = ([97, 91, 93] : List UInt8)))))]) Tryz.results12 ⟨ev_tmp rfl rfl, trivial⟩ ⟨rfl, hI.ext0, hI.fin trivial⟩
set_option maxRecDepth 100000 in
set_option maxHeartbeats 4000000 in
theorem c_law15_PrinterTypes (F : NP) (w0 : World) (hF : ∀ k, F k → k < w0.heap.size) (t1 : GType) (hc : AllCl [clPow10, clSpace] F w0) (r : Bool)
  (h : m_law15_PrinterTypes t1 = some r) :
  Calls Tryz.prog 3 #[(Value.agg #[(vi t1.Kind), (vi t1.Bits), (vi t1.Frac), (vi t1.Round), (vi t1.Over)])] w0 fun e w => e = .returned (vb r) ∧ Ext w0 w ∧ AllCl [] F w := by
 refine enterK (l := [(Value.agg #[(vi t1.Kind), (vi t1.Bits), (vi t1.Frac), (vi t1.Round), (vi t1.Over)])]) Tryz.func3 rfl Tryz.ntmps3 rfl ?_
 have hI := Bun.start hF hc
 clear hc
 rw [m_law15_PrinterTypes] at h
 refine sr ?_
 refine l_box (v := (Value.agg #[(vi t1.Kind), (vi t1.Bits), (vi t1.Frac), (vi t1.Round), (vi t1.Over)])) (cs := #[(vi t1.Kind), (vi t1.Bits), (vi t1.Frac), (vi t1.Round), (vi t1.Over)]) hI gn rfl rfl et rfl ?_
 clear hI; intro b1 c1 w1 hI
 obtain ⟨c2, hI⟩ := hI.relBox .z
 refine sac ?_
 refine nk ?_
 refine c_seq ?_
 refine c_drawX [] false (.c (0, .q) (.c (2, .q) (.c (1, .s) (.c (3, .s) (.c (4, .q) (.c (5, .q) (.c (6, .s) (.c (7, .q) (.c (8, .q) .n))))))))) hI (by kernel_rfl) (by kernel_rfl) ?_
 clear hI; intro w2 hI
 refine a_read rfl gn rfl (fun w' hw' => (y_loadN (l := [(vi t1.Kind), (vi t1.Bits), (vi t1.Frac), (vi t1.Round), (vi t1.Over)]) rfl et Tryz.underlying23 rfl size_23 ((hI.kblk (l := [(vi t1.Kind), (vi t1.Bits), (vi t1.Frac), (vi t1.Round), (vi t1.Over)]) .z rfl).at_ (SX.any rfl hw')))) (by kernel_rfl) ?_
 refine a_read rfl gn rfl (fun w' hw' => (y_loadN (l := [(vi t1.Kind), (vi t1.Bits), (vi t1.Frac), (vi t1.Round), (vi t1.Over)]) rfl et Tryz.underlying23 rfl size_23 ((hI.kblk (l := [(vi t1.Kind), (vi t1.Bits), (vi t1.Frac), (vi t1.Round), (vi t1.Over)]) .z rfl).at_ (SX.any rfl hw')))) (by kernel_rfl) ?_
 obtain ⟨r1, hx1, h⟩ := bnd_some h
 refine la_call rfl gn rfl (r_callF (vs := [(Value.agg #[(vi t1.Kind), (vi t1.Bits), (vi t1.Frac), (vi t1.Round), (vi t1.Over)])]) rfl ok_10 ⟨et, trivial⟩) (Calls.mono (c_printer_Type (Dj F c2) w2 hI.lt t1 ⟨(hI.get (.s .z)), trivial⟩ r1 hx1) ?_)
 rintro _ w3 ⟨rfl, hx2, hl1⟩
 refine ⟨_, rfl, hx2, ?_⟩
 replace hI := (hI.ext hx2)
 obtain ⟨r2, hx3, h⟩ := bnd_some h
 refine la_call rfl gn rfl (r_callF (vs := [(Value.agg #[(vi t1.Kind), (vi t1.Bits), (vi t1.Frac), (vi t1.Round), (vi t1.Over)])]) rfl ok_11 ⟨et, trivial⟩) (Calls.mono (c_ref15_Type (Dj F c2) w3 hI.lt t1 trivial r2 hx3) ?_)
 rintro _ w4 ⟨rfl, hx4, hl2⟩
 refine ⟨_, rfl, hx4, ?_⟩
 replace hI := (hI.ext hx4)
 refine a_q rfl gn rfl (fun w' => (y_eqs rfl et et)) ?_
 refine a_q rfl gn rfl (fun w' => (y_move rfl et)) ?_
 obtain ⟨r3, hx5, h⟩ := bnd_some h
 replace hx5 := gd_some hx5
 refine la_gcallU (v := (vb r3)) rfl (g_true rfl rfl rfl rfl) rfl (fun hc => (r_callF (vs := []) rfl ok_12 trivial)) (fun hc => (c_law15_alive (Dj F c2) w4 hI.lt ⟨(hI.get (.s .z)), (hI.get (.s (.s .z))), trivial⟩ r3 (hx5 hc)).mono fun _ _ k => ⟨k.1, k.2.1⟩) ?_
 intro w5 hx6; replace hI := hI.ext hx6
 refine a_q rfl gn rfl (fun w' => (y_and rfl et et)) ?_
 refine a_q rfl gn rfl (fun w' => (y_assign rfl et)) ?_
 refine a_nil ?_
 refine k_same ?_
 refine c_ret ?_
 obtain rfl := some_inj h
 exact q_ret (vs := [(vb ((decide (r1 = r2)) && r3))]) Tryz.results3 ⟨ev_tmp rfl rfl, trivial⟩ ⟨rfl, hI.ext0, hI.fin trivial⟩
end Go.Proofs.YtebpdmfmknfkjaaGreatDoor
