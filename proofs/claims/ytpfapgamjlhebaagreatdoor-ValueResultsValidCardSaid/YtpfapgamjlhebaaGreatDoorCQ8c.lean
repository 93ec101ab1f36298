/- Each call returns what its plain function gives: printed by a program of my own; Lean checks it. -/
import Derived.Test.YtpfapgamjlhebaaGreatDoorCQ8b
namespace Go.Proofs.YtpfapgamjlhebaaGreatDoor
open Go Go.RowKit Go.Vc
set_option linter.unusedVariables false
set_option linter.unusedSimpArgs false

set_option maxRecDepth 100000 in
set_option maxHeartbeats 4000000 in
theorem c_frac_Parse (F : NP) (w0 : World) (hF : ∀ k, F k → k < w0.heap.size) (s1 : List UInt8) (hc : AllCl [] F w0) (r : GVal × Int)
    (h : m_frac_Parse s1 = some r) :
    Calls Tryz.prog 30 #[(str s1)] w0 fun e w => e = .returned (Value.tuple #[(Value.agg #[(Value.int .i64 r.1.N), (Value.int .i64 r.1.D)]), (Value.int .i64 r.2)]) ∧ Ext w0 w ∧ AllCl [] F w := by
  refine ofEnter (R := fun v w => v = (Value.tuple #[(Value.agg #[(Value.int .i64 r.1.N), (Value.int .i64 r.1.D)]), (Value.int .i64 r.2)]) ∧ Ext w0 w ∧ AllCl [] F w) (enter (l := [(str s1)]) Tryz.func30 rfl Tryz.ntmps30 rfl ?_) ?_
  rotate_left
  · rintro _ w ⟨rfl, k1, k2⟩; exact ⟨rfl, k1, k2⟩
  have hI := Bun.start hF hc
  clear hc
  rw [m_frac_Parse] at h
  refine c_seq ?_
  refine c_region rfl ?_
  refine l_alloc (cs := #[(Value.int .i64 0), (Value.int .i64 0)]) hI rfl rfl rfl zero_27 rfl ?_
  clear hI; intro b1 c1 w1 hI
  refine s_q rfl rfl (y_assign rfl ev_const) ?_
  refine s_nil ?_
  refine k_next (e := [(0, (str s1)), (2, (Value.pointer (some ⟨b1, 0, none⟩)))]) ⟨rfl, rfl, trivial⟩ ?_
  refine c_seq ?_
  refine c_region rfl ?_
  refine s_q rfl rfl (y_move rfl (ev_tmp rfl rfl)) ?_
  obtain ⟨r1, hx1, h⟩ := bnd_some h
  refine s_call rfl rfl (r_callF (vs := [(str s1), (str ([47] : List UInt8))]) rfl ok_57 ⟨(ev_tmp rfl rfl), ⟨ev_const, trivial⟩⟩) (Calls.mono (c_strings_Cut (Dj F c1) w1 hI.lt s1 ([47] : List UInt8) trivial r1 hx1) ?_)
  rintro _ w2 ⟨rfl, hx2, hl1⟩
  refine ⟨_, rfl, ?_⟩
  replace hI := (hI.ext hx2)
  refine s_q rfl rfl (y_move rfl (ev_tmp rfl rfl)) ?_
  refine s_q rfl rfl (y_extract rfl (ev_tmp rfl rfl) rfl) ?_
  refine s_q rfl rfl (y_extract rfl (ev_tmp rfl rfl) rfl) ?_
  refine s_q rfl rfl (y_extract rfl (ev_tmp rfl rfl) rfl) ?_
  refine s_q rfl rfl (y_assign rfl (ev_tmp rfl rfl)) ?_
  refine s_q rfl rfl (y_assign rfl (ev_tmp rfl rfl)) ?_
  refine s_q rfl rfl (y_assign rfl (ev_tmp rfl rfl)) ?_
  refine s_nil ?_
  refine k_next (e := [(2, (Value.pointer (some ⟨b1, 0, none⟩))), (4, (str r1.1)), (5, (str r1.2.1)), (6, (Value.bool r1.2.2))]) ⟨rfl, rfl, rfl, rfl, trivial⟩ ?_
  refine c_seq ?_
  refine c_region rfl ?_
  refine s_q rfl rfl (y_move rfl (ev_tmp rfl rfl)) ?_
  obtain ⟨r2, hx3, h⟩ := bnd_some h
  refine s_call rfl rfl (r_callF (vs := [(str r1.1), (str ([45] : List UInt8))]) rfl ok_58 ⟨(ev_tmp rfl rfl), ⟨ev_const, trivial⟩⟩) (Calls.mono (c_strings_CutPrefix (Dj F c1) w2 hI.lt r1.1 ([45] : List UInt8) trivial r2 hx3) ?_)
  rintro _ w3 ⟨rfl, hx4, hl2⟩
  refine ⟨_, rfl, ?_⟩
  replace hI := (hI.ext hx4)
  refine s_q rfl rfl (y_move rfl (ev_tmp rfl rfl)) ?_
  refine s_q rfl rfl (y_extract rfl (ev_tmp rfl rfl) rfl) ?_
  refine s_q rfl rfl (y_extract rfl (ev_tmp rfl rfl) rfl) ?_
  refine s_q rfl rfl (y_assign rfl (ev_tmp rfl rfl)) ?_
  refine s_q rfl rfl (y_assign rfl (ev_tmp rfl rfl)) ?_
  refine s_nil ?_
  refine k_next (e := [(2, (Value.pointer (some ⟨b1, 0, none⟩))), (5, (str r1.2.1)), (6, (Value.bool r1.2.2)), (7, (str r2.1)), (8, (Value.bool r2.2))]) ⟨rfl, rfl, rfl, rfl, rfl, trivial⟩ ?_
  refine c_seq ?_
  refine c_seq ?_
  refine c_region rfl ?_
  refine s_q rfl rfl (y_move rfl (ev_tmp rfl rfl)) ?_
  obtain ⟨r3, hx5, h⟩ := bnd_some h
  refine s_call rfl rfl (r_callF (vs := [(str r2.1)]) rfl ok_59 ⟨(ev_tmp rfl rfl), trivial⟩) (Calls.mono (c_frac_decimal (Dj F c1) w3 hI.lt r2.1 trivial r3 hx5) ?_)
  rintro _ w4 ⟨rfl, hx6, hl3⟩
  refine ⟨_, rfl, ?_⟩
  replace hI := (hI.ext hx6)
  refine s_q rfl rfl (y_not rfl (ev_tmp rfl rfl)) ?_
  refine s_q rfl rfl (y_move rfl (ev_tmp rfl rfl)) ?_
  refine s_gval (g_false rfl rfl rfl rfl) rfl (fun hc => (y_move rfl (ev_tmp rfl rfl))) ?_
  refine s_gval (g_false rfl rfl rfl rfl) rfl (fun hc => (y_move rfl (ev_gv (ev_tmp rfl rfl) hc))) ?_
  refine s_gval (g_true2 rfl rfl rfl rfl) rfl (fun hc => (y_move rfl (ev_tmp rfl rfl))) ?_
  refine s_gval (g_true2 rfl rfl rfl rfl) rfl (fun hc => (y_eqs rfl (ev_gv (ev_tmp rfl rfl) hc) ev_const)) ?_
  refine s_gval (g_false rfl rfl rfl rfl) rfl (fun hc => (y_and2 rfl hc (ev_tmp rfl rfl) (ev_tmp rfl rfl))) ?_
  refine s_q rfl rfl (y_or rfl (ev_tmp rfl rfl) (ev_tmp rfl rfl)) ?_
  refine s_nil ?_
  refine k_next (e := [(2, (Value.pointer (some ⟨b1, 0, none⟩))), (5, (str r1.2.1)), (6, (Value.bool r1.2.2)), (7, (str r2.1)), (8, (Value.bool r2.2)), (34, (Value.bool ((!r3) || (r2.2 && (decide (r2.1 = ([48] : List UInt8)))))))]) ⟨rfl, rfl, rfl, rfl, rfl, rfl, trivial⟩ ?_
  refine c_cond (b := (!r3) || (r2.2 && (decide (r2.1 = ([48] : List UInt8))))) (ev_tmp rfl rfl) (fun hb => ?_) (fun hb => ?_)
  · replace h := ite_t hb h
    refine c_seq ?_
    refine c_region rfl ?_
    refine s_q rfl rfl (y_build (vs := []) (cs := #[(Value.int .i64 0), (Value.int .i64 0)]) rfl trivial (by kernel_rfl)) ?_
    refine l_store (new := [(Value.int .i64 0), (Value.int .i64 0)]) (cs' := #[(Value.int .i64 0), (Value.int .i64 0)]) hI .z rfl rfl rfl (ev_tmp rfl rfl) (ev_tmp rfl rfl) rfl size_27 rfl rfl rfl ?_
    clear hI; intro c2 w5 hI
    refine s_q rfl rfl (y_assign rfl ev_const) ?_
    refine s_nil ?_
    refine k_next (e := [(2, (Value.pointer (some ⟨b1, 0, none⟩))), (3, (Value.int .i64 5))]) ⟨rfl, rfl, trivial⟩ ?_
    refine c_ret ?_
    obtain rfl := some_inj h
    exact q_ret (vs := [(Value.agg #[(Value.int .i64 0), (Value.int .i64 0)]), (Value.int .i64 5)]) Tryz.results30 ⟨⟨_, ev_tmp rfl rfl, load_agg (l := [(Value.int .i64 0), (Value.int .i64 0)]) Tryz.underlying27 rfl size_27 (CellsAt.of_blk (hI.blk .z) rfl)⟩, ⟨ev_tmp rfl rfl, trivial⟩⟩ ⟨rfl, hI.ext0, hI.fin trivial⟩
  · replace h := ite_f hb h
    refine c_skip ?_
    refine k_next (e := [(2, (Value.pointer (some ⟨b1, 0, none⟩))), (5, (str r1.2.1)), (6, (Value.bool r1.2.2)), (7, (str r2.1)), (8, (Value.bool r2.2))]) ⟨rfl, rfl, rfl, rfl, rfl, trivial⟩ ?_
    refine c_join (α := (List UInt8)) (fun _ => ⟨78, []⟩) (fun x => [(2, (Value.pointer (some ⟨b1, 0, none⟩))), (5, (str x)), (7, (str r2.1)), (8, (Value.bool r2.2))]) (fun x => fun w => ∃ C, Bun noM F w0 C w [MO.box b1 27 #[(Value.int .i64 0), (Value.int .i64 0)]] [] ∧ m_frac_Parse_j1 r2 x = some r) ?_ ?_
    · clear h hI; rintro bottom1 w6 ⟨c3, hI, h⟩
      try dsimp only at hI h
      rw [m_frac_Parse_j1] at h
      refine c_sub (e := [(2, (Value.pointer (some ⟨b1, 0, none⟩))), (5, (str bottom1)), (7, (str r2.1)), (8, (Value.bool r2.2))]) ⟨rfl, rfl, rfl, rfl, trivial⟩ ?_
      refine c_seq ?_
      refine c_region rfl ?_
      refine s_q rfl rfl (y_move rfl (ev_tmp rfl rfl)) ?_
      obtain ⟨r4, hx7, h⟩ := bnd_some h
      refine s_call rfl rfl (r_callF (vs := [(str r2.1)]) rfl ok_60 ⟨(ev_tmp rfl rfl), trivial⟩) (Calls.mono (c_frac_bounded (Dj F c3) w6 hI.lt r2.1 trivial r4 hx7) ?_)
      rintro _ w7 ⟨rfl, hx8, hl4⟩
      refine ⟨_, rfl, ?_⟩
      replace hI := (hI.ext hx8)
      refine s_q rfl rfl (y_move rfl (ev_tmp rfl rfl)) ?_
      refine s_q rfl rfl (y_extract rfl (ev_tmp rfl rfl) rfl) ?_
      refine s_q rfl rfl (y_extract rfl (ev_tmp rfl rfl) rfl) ?_
      refine s_q rfl rfl (y_assign rfl (ev_tmp rfl rfl)) ?_
      refine s_q rfl rfl (y_assign rfl (ev_tmp rfl rfl)) ?_
      refine s_nil ?_
      refine k_next (e := [(2, (Value.pointer (some ⟨b1, 0, none⟩))), (5, (str bottom1)), (8, (Value.bool r2.2)), (9, (Value.int .i64 r4.1)), (10, (Value.bool r4.2))]) ⟨rfl, rfl, rfl, rfl, rfl, trivial⟩ ?_
      refine c_seq ?_
      refine c_region rfl ?_
      refine s_q rfl rfl (y_move rfl (ev_tmp rfl rfl)) ?_
      obtain ⟨r5, hx9, h⟩ := bnd_some h
      refine s_call rfl rfl (r_callF (vs := [(str bottom1)]) rfl ok_60 ⟨(ev_tmp rfl rfl), trivial⟩) (Calls.mono (c_frac_bounded (Dj F c3) w7 hI.lt bottom1 trivial r5 hx9) ?_)
      rintro _ w8 ⟨rfl, hx10, hl5⟩
      refine ⟨_, rfl, ?_⟩
      replace hI := (hI.ext hx10)
      refine s_q rfl rfl (y_move rfl (ev_tmp rfl rfl)) ?_
      refine s_q rfl rfl (y_extract rfl (ev_tmp rfl rfl) rfl) ?_
      refine s_q rfl rfl (y_extract rfl (ev_tmp rfl rfl) rfl) ?_
      refine s_q rfl rfl (y_assign rfl (ev_tmp rfl rfl)) ?_
      refine s_q rfl rfl (y_assign rfl (ev_tmp rfl rfl)) ?_
      refine s_nil ?_
      refine k_next (e := [(2, (Value.pointer (some ⟨b1, 0, none⟩))), (8, (Value.bool r2.2)), (9, (Value.int .i64 r4.1)), (10, (Value.bool r4.2)), (11, (Value.int .i64 r5.1)), (12, (Value.bool r5.2))]) ⟨rfl, rfl, rfl, rfl, rfl, rfl, trivial⟩ ?_
      refine c_seq ?_
      refine c_seq ?_
      refine c_region rfl ?_
      refine s_q rfl rfl (y_move rfl (ev_tmp rfl rfl)) ?_
      refine s_q rfl rfl (y_not rfl (ev_tmp rfl rfl)) ?_
      refine s_q rfl rfl (y_move rfl (ev_tmp rfl rfl)) ?_
      refine s_gval (g_false rfl rfl rfl rfl) rfl (fun hc => (y_move rfl (ev_tmp rfl rfl))) ?_
      refine s_gval (g_false rfl rfl rfl rfl) rfl (fun hc => (y_not rfl (ev_gv (ev_tmp rfl rfl) hc))) ?_
      refine s_q rfl rfl (y_or rfl (ev_tmp rfl rfl) (ev_tmp rfl rfl)) ?_
      refine s_nil ?_
      refine k_next (e := [(2, (Value.pointer (some ⟨b1, 0, none⟩))), (8, (Value.bool r2.2)), (9, (Value.int .i64 r4.1)), (11, (Value.int .i64 r5.1)), (65, (Value.bool ((!r4.2) || (!r5.2))))]) ⟨rfl, rfl, rfl, rfl, rfl, trivial⟩ ?_
      refine c_cond (b := (!r4.2) || (!r5.2)) (ev_tmp rfl rfl) (fun hb => ?_) (fun hb => ?_)
      · replace h := ite_t hb h
        refine c_seq ?_
        refine c_region rfl ?_
        refine s_q rfl rfl (y_build (vs := []) (cs := #[(Value.int .i64 0), (Value.int .i64 0)]) rfl trivial (by kernel_rfl)) ?_
        refine l_store (new := [(Value.int .i64 0), (Value.int .i64 0)]) (cs' := #[(Value.int .i64 0), (Value.int .i64 0)]) hI .z rfl rfl rfl (ev_tmp rfl rfl) (ev_tmp rfl rfl) rfl size_27 rfl rfl rfl ?_
        clear hI; intro c4 w9 hI
        refine s_q rfl rfl (y_assign rfl ev_const) ?_
        refine s_nil ?_
        refine k_next (e := [(2, (Value.pointer (some ⟨b1, 0, none⟩))), (3, (Value.int .i64 3))]) ⟨rfl, rfl, trivial⟩ ?_
        refine c_ret ?_
        obtain rfl := some_inj h
        exact q_ret (vs := [(Value.agg #[(Value.int .i64 0), (Value.int .i64 0)]), (Value.int .i64 3)]) Tryz.results30 ⟨⟨_, ev_tmp rfl rfl, load_agg (l := [(Value.int .i64 0), (Value.int .i64 0)]) Tryz.underlying27 rfl size_27 (CellsAt.of_blk (hI.blk .z) rfl)⟩, ⟨ev_tmp rfl rfl, trivial⟩⟩ ⟨rfl, hI.ext0, hI.fin trivial⟩
      · replace h := ite_f hb h
        refine c_skip ?_
        refine k_next (e := [(2, (Value.pointer (some ⟨b1, 0, none⟩))), (8, (Value.bool r2.2)), (9, (Value.int .i64 r4.1)), (11, (Value.int .i64 r5.1))]) ⟨rfl, rfl, rfl, rfl, trivial⟩ ?_
        refine c_join (α := Int) (fun _ => ⟨78, []⟩) (fun x => [(2, (Value.pointer (some ⟨b1, 0, none⟩))), (9, (Value.int .i64 x)), (11, (Value.int .i64 r5.1))]) (fun x => fun w => ∃ C, Bun noM F w0 C w [MO.box b1 27 #[(Value.int .i64 0), (Value.int .i64 0)]] [] ∧ m_frac_Parse_j2 r5 x = some r) ?_ ?_
        · clear h hI; rintro n1 w10 ⟨c5, hI, h⟩
          try dsimp only at hI h
          rw [m_frac_Parse_j2] at h
          refine c_sub (e := [(2, (Value.pointer (some ⟨b1, 0, none⟩))), (9, (Value.int .i64 n1)), (11, (Value.int .i64 r5.1))]) ⟨rfl, rfl, rfl, trivial⟩ ?_
          refine c_seq ?_
          refine c_region rfl ?_
          refine s_q rfl rfl (y_move rfl (ev_tmp rfl rfl)) ?_
          refine s_q rfl rfl (y_move rfl (ev_tmp rfl rfl)) ?_
          refine s_q rfl rfl (y_build (vs := [(0, (Value.int .i64 n1)), (1, (Value.int .i64 r5.1))]) (cs := #[(Value.int .i64 n1), (Value.int .i64 r5.1)]) rfl ⟨rfl, (ev_tmp rfl rfl), ⟨rfl, (ev_tmp rfl rfl), trivial⟩⟩ (by kernel_rfl)) ?_
          refine l_alloc (cs := #[(Value.int .i64 0), (Value.int .i64 0)]) hI rfl rfl rfl zero_27 rfl ?_
          clear hI; intro b2 c6 w11 hI
          refine l_store (new := [(Value.int .i64 n1), (Value.int .i64 r5.1)]) (cs' := #[(Value.int .i64 n1), (Value.int .i64 r5.1)]) hI .z rfl rfl rfl (ev_tmp rfl rfl) (ev_tmp rfl rfl) rfl size_27 rfl rfl rfl ?_
          clear hI; intro c7 w12 hI
          refine s_nil ?_
          refine k_next (e := [(2, (Value.pointer (some ⟨b1, 0, none⟩))), (13, (Value.pointer (some ⟨b2, 0, none⟩)))]) ⟨rfl, rfl, trivial⟩ ?_
          refine c_seq ?_
          refine c_seq ?_
          refine c_region rfl ?_
          refine s_q rfl rfl (y_loadN (l := [(Value.int .i64 n1), (Value.int .i64 r5.1)]) rfl (ev_tmp rfl rfl) Tryz.underlying27 rfl size_27 (CellsAt.of_blk (hI.blk .z) rfl)) ?_
          obtain ⟨r6, hx11, h⟩ := bnd_some h
          refine s_call rfl rfl (r_callF (vs := [(Value.agg #[(Value.int .i64 n1), (Value.int .i64 r5.1)])]) rfl ok_45 ⟨(ev_tmp rfl rfl), trivial⟩) (Calls.mono (c_frac_Valid (Dj F c7) w12 hI.lt (⟨n1, r5.1⟩ : GVal) trivial r6 hx11) ?_)
          rintro _ w13 ⟨rfl, hx12, hl6⟩
          refine ⟨_, rfl, ?_⟩
          replace hI := (hI.ext hx12)
          refine s_q rfl rfl (y_not rfl (ev_tmp rfl rfl)) ?_
          refine s_nil ?_
          refine k_next (e := [(2, (Value.pointer (some ⟨b1, 0, none⟩))), (13, (Value.pointer (some ⟨b2, 0, none⟩))), (75, (Value.bool (!r6)))]) ⟨rfl, rfl, rfl, trivial⟩ ?_
          refine c_cond (b := !r6) (ev_tmp rfl rfl) (fun hb => ?_) (fun hb => ?_)
          · replace h := ite_t hb h
            refine c_seq ?_
            refine c_region rfl ?_
            refine s_q rfl rfl (y_build (vs := []) (cs := #[(Value.int .i64 0), (Value.int .i64 0)]) rfl trivial (by kernel_rfl)) ?_
            refine l_store (new := [(Value.int .i64 0), (Value.int .i64 0)]) (cs' := #[(Value.int .i64 0), (Value.int .i64 0)]) hI (.s .z) rfl rfl rfl (ev_tmp rfl rfl) (ev_tmp rfl rfl) rfl size_27 rfl rfl rfl ?_
            clear hI; intro c8 w14 hI
            refine s_q rfl rfl (y_assign rfl ev_const) ?_
            refine s_nil ?_
            refine k_next (e := [(2, (Value.pointer (some ⟨b1, 0, none⟩))), (3, (Value.int .i64 5))]) ⟨rfl, rfl, trivial⟩ ?_
            refine c_ret ?_
            obtain rfl := some_inj h
            exact q_ret (vs := [(Value.agg #[(Value.int .i64 0), (Value.int .i64 0)]), (Value.int .i64 5)]) Tryz.results30 ⟨⟨_, ev_tmp rfl rfl, load_agg (l := [(Value.int .i64 0), (Value.int .i64 0)]) Tryz.underlying27 rfl size_27 (CellsAt.of_blk (hI.blk (.s .z)) rfl)⟩, ⟨ev_tmp rfl rfl, trivial⟩⟩ ⟨rfl, hI.ext0, hI.fin trivial⟩
          · replace h := ite_f hb h
            refine c_skip ?_
            refine k_next (e := [(2, (Value.pointer (some ⟨b1, 0, none⟩))), (13, (Value.pointer (some ⟨b2, 0, none⟩)))]) ⟨rfl, rfl, trivial⟩ ?_
            refine c_seq ?_
            refine c_region rfl ?_
            refine s_q rfl rfl (y_loadN (l := [(Value.int .i64 n1), (Value.int .i64 r5.1)]) rfl (ev_tmp rfl rfl) Tryz.underlying27 rfl size_27 (CellsAt.of_blk (hI.blk .z) rfl)) ?_
            refine l_store (new := [(Value.int .i64 n1), (Value.int .i64 r5.1)]) (cs' := #[(Value.int .i64 n1), (Value.int .i64 r5.1)]) hI (.s .z) rfl rfl rfl (ev_tmp rfl rfl) (ev_tmp rfl rfl) rfl size_27 rfl rfl rfl ?_
            clear hI; intro c9 w15 hI
            refine s_q rfl rfl (y_assign rfl ev_const) ?_
            refine s_nil ?_
            refine k_next (e := [(2, (Value.pointer (some ⟨b1, 0, none⟩))), (3, (Value.int .i64 0))]) ⟨rfl, rfl, trivial⟩ ?_
            refine c_ret ?_
            obtain rfl := some_inj h
            exact q_ret (vs := [(Value.agg #[(Value.int .i64 n1), (Value.int .i64 r5.1)]), (Value.int .i64 0)]) Tryz.results30 ⟨⟨_, ev_tmp rfl rfl, load_agg (l := [(Value.int .i64 n1), (Value.int .i64 r5.1)]) Tryz.underlying27 rfl size_27 (CellsAt.of_blk (hI.blk (.s .z)) rfl)⟩, ⟨ev_tmp rfl rfl, trivial⟩⟩ ⟨rfl, hI.ext0, hI.fin trivial⟩
        · skip
          refine c_seq ?_
          refine c_region rfl ?_
          refine s_q rfl rfl (y_move rfl (ev_tmp rfl rfl)) ?_
          refine s_nil ?_
          refine k_next (e := [(2, (Value.pointer (some ⟨b1, 0, none⟩))), (9, (Value.int .i64 r4.1)), (11, (Value.int .i64 r5.1)), (67, (Value.bool r2.2))]) ⟨rfl, rfl, rfl, rfl, trivial⟩ ?_
          refine c_cond (b := r2.2) (ev_tmp rfl rfl) (fun hb => ?_) (fun hb => ?_)
          · replace h := ite_t hb h
            refine c_region rfl ?_
            refine s_q rfl rfl (y_move rfl (ev_tmp rfl rfl)) ?_
            refine s_q rfl rfl (y_neg rfl (ev_tmp rfl rfl)) ?_
            refine s_q rfl rfl (y_assign rfl (ev_tmp rfl rfl)) ?_
            refine s_nil ?_
            exact k_join (wi64 (-r4.1)) ⟨rfl, rfl, rfl, trivial⟩ ⟨_, hI.arr (.c .z .n) trivial, h⟩ rfl
          · replace h := ite_f hb h
            refine c_skip ?_
            exact k_join r4.1 ⟨rfl, rfl, rfl, trivial⟩ ⟨_, hI.arr (.c .z .n) trivial, h⟩ rfl
    · skip
      refine c_seq ?_
      refine c_region rfl ?_
      refine s_q rfl rfl (y_move rfl (ev_tmp rfl rfl)) ?_
      refine s_q rfl rfl (y_not rfl (ev_tmp rfl rfl)) ?_
      refine s_nil ?_
      refine k_next (e := [(2, (Value.pointer (some ⟨b1, 0, none⟩))), (5, (str r1.2.1)), (7, (str r2.1)), (8, (Value.bool r2.2)), (37, (Value.bool (!r1.2.2)))]) ⟨rfl, rfl, rfl, rfl, rfl, trivial⟩ ?_
      refine c_cond (b := !r1.2.2) (ev_tmp rfl rfl) (fun hb => ?_) (fun hb => ?_)
      · replace h := ite_t hb h
        refine c_region rfl ?_
        refine s_q rfl rfl (y_assign rfl ev_const) ?_
        refine s_nil ?_
        exact k_join ([49] : List UInt8) ⟨rfl, rfl, rfl, rfl, trivial⟩ ⟨_, hI.arr (.c .z .n) trivial, h⟩ rfl
      · replace h := ite_f hb h
        refine c_seq ?_
        refine c_region rfl ?_
        refine s_q rfl rfl (y_move rfl (ev_tmp rfl rfl)) ?_
        obtain ⟨r7, hx13, h⟩ := bnd_some h
        refine s_call rfl rfl (r_callF (vs := [(str r1.2.1)]) rfl ok_59 ⟨(ev_tmp rfl rfl), trivial⟩) (Calls.mono (c_frac_decimal (Dj F c1) w4 hI.lt r1.2.1 trivial r7 hx13) ?_)
        rintro _ w16 ⟨rfl, hx14, hl7⟩
        refine ⟨_, rfl, ?_⟩
        replace hI := (hI.ext hx14)
        refine s_q rfl rfl (y_not rfl (ev_tmp rfl rfl)) ?_
        refine s_q rfl rfl (y_move rfl (ev_tmp rfl rfl)) ?_
        refine s_gval (g_false rfl rfl rfl rfl) rfl (fun hc => (y_move rfl (ev_tmp rfl rfl))) ?_
        refine s_gval (g_false rfl rfl rfl rfl) rfl (fun hc => (y_eqs rfl (ev_gv (ev_tmp rfl rfl) hc) ev_const)) ?_
        refine s_q rfl rfl (y_or rfl (ev_tmp rfl rfl) (ev_tmp rfl rfl)) ?_
        refine s_q rfl rfl (y_move rfl (ev_tmp rfl rfl)) ?_
        refine s_gval (g_false rfl rfl rfl rfl) rfl (fun hc => (y_move rfl (ev_tmp rfl rfl))) ?_
        refine s_gval (g_false rfl rfl rfl rfl) rfl (fun hc => (y_eqs rfl (ev_gv (ev_tmp rfl rfl) hc) ev_const)) ?_
        refine s_q rfl rfl (y_or rfl (ev_tmp rfl rfl) (ev_tmp rfl rfl)) ?_
        refine s_nil ?_
        refine k_next (e := [(2, (Value.pointer (some ⟨b1, 0, none⟩))), (5, (str r1.2.1)), (7, (str r2.1)), (8, (Value.bool r2.2)), (48, (Value.bool (((!r7) || (decide (r1.2.1 = ([48] : List UInt8)))) || (decide (r1.2.1 = ([49] : List UInt8))))))]) ⟨rfl, rfl, rfl, rfl, rfl, trivial⟩ ?_
        refine c_cond (b := ((!r7) || (decide (r1.2.1 = ([48] : List UInt8)))) || (decide (r1.2.1 = ([49] : List UInt8)))) (ev_tmp rfl rfl) (fun hb => ?_) (fun hb => ?_)
        · replace h := ite_t hb h
          refine c_seq ?_
          refine c_region rfl ?_
          refine s_q rfl rfl (y_build (vs := []) (cs := #[(Value.int .i64 0), (Value.int .i64 0)]) rfl trivial (by kernel_rfl)) ?_
          refine l_store (new := [(Value.int .i64 0), (Value.int .i64 0)]) (cs' := #[(Value.int .i64 0), (Value.int .i64 0)]) hI .z rfl rfl rfl (ev_tmp rfl rfl) (ev_tmp rfl rfl) rfl size_27 rfl rfl rfl ?_
          clear hI; intro c10 w17 hI
          refine s_q rfl rfl (y_assign rfl ev_const) ?_
          refine s_nil ?_
          refine k_next (e := [(2, (Value.pointer (some ⟨b1, 0, none⟩))), (3, (Value.int .i64 5))]) ⟨rfl, rfl, trivial⟩ ?_
          refine c_ret ?_
          obtain rfl := some_inj h
          exact q_ret (vs := [(Value.agg #[(Value.int .i64 0), (Value.int .i64 0)]), (Value.int .i64 5)]) Tryz.results30 ⟨⟨_, ev_tmp rfl rfl, load_agg (l := [(Value.int .i64 0), (Value.int .i64 0)]) Tryz.underlying27 rfl size_27 (CellsAt.of_blk (hI.blk .z) rfl)⟩, ⟨ev_tmp rfl rfl, trivial⟩⟩ ⟨rfl, hI.ext0, hI.fin trivial⟩
        · replace h := ite_f hb h
          refine c_skip ?_
          exact k_join r1.2.1 ⟨rfl, rfl, rfl, rfl, trivial⟩ ⟨_, hI.arr (.c .z .n) trivial, h⟩ rfl

set_option maxRecDepth 100000 in
set_option maxHeartbeats 4000000 in
theorem c_value_Parse (F : NP) (w0 : World) (hF : ∀ k, F k → k < w0.heap.size) (t1 : GType) (s1 : List UInt8) (hc : AllCl [] F w0) (r : GVal × Int)
    (h : m_value_Parse t1 s1 = some r) :
    Calls Tryz.prog 13 #[(Value.agg #[(Value.int .i64 t1.Kind), (Value.int .i64 t1.Bits), (Value.int .i64 t1.Frac), (Value.int .i64 t1.Round), (Value.int .i64 t1.Over)]), (str s1)] w0 fun e w => e = .returned (Value.tuple #[(Value.agg #[(Value.int .i64 r.1.N), (Value.int .i64 r.1.D)]), (Value.int .i64 r.2)]) ∧ Ext w0 w ∧ AllCl [] F w := by
  refine ofEnter (R := fun v w => v = (Value.tuple #[(Value.agg #[(Value.int .i64 r.1.N), (Value.int .i64 r.1.D)]), (Value.int .i64 r.2)]) ∧ Ext w0 w ∧ AllCl [] F w) (enter (l := [(Value.agg #[(Value.int .i64 t1.Kind), (Value.int .i64 t1.Bits), (Value.int .i64 t1.Frac), (Value.int .i64 t1.Round), (Value.int .i64 t1.Over)]), (str s1)]) Tryz.func13 rfl Tryz.ntmps13 rfl ?_) ?_
  rotate_left
  · rintro _ w ⟨rfl, k1, k2⟩; exact ⟨rfl, k1, k2⟩
  have hI := Bun.start hF hc
  clear hc
  rw [m_value_Parse] at h
  refine c_seq ?_
  refine c_region rfl ?_
  refine l_box (v := (Value.agg #[(Value.int .i64 t1.Kind), (Value.int .i64 t1.Bits), (Value.int .i64 t1.Frac), (Value.int .i64 t1.Round), (Value.int .i64 t1.Over)])) (cs := #[(Value.int .i64 t1.Kind), (Value.int .i64 t1.Bits), (Value.int .i64 t1.Frac), (Value.int .i64 t1.Round), (Value.int .i64 t1.Over)]) hI rfl rfl rfl (ev_tmp rfl rfl) rfl ?_
  clear hI; intro b1 c1 w1 hI
  obtain ⟨c2, hI⟩ := hI.relBox .z
  refine l_alloc (cs := #[(Value.int .i64 0), (Value.int .i64 0)]) hI rfl rfl rfl zero_27 rfl ?_
  clear hI; intro b2 c3 w2 hI
  refine s_q rfl rfl (y_assign rfl ev_const) ?_
  refine s_nil ?_
  refine k_next (e := [(1, (str s1)), (2, (Value.pointer (some ⟨b1, 0, none⟩))), (4, (Value.pointer (some ⟨b2, 0, none⟩)))]) ⟨rfl, rfl, rfl, trivial⟩ ?_
  refine c_seq ?_
  refine c_seq ?_
  refine c_region rfl ?_
  refine s_q rfl rfl (y_loadN (l := [(Value.int .i64 t1.Kind), (Value.int .i64 t1.Bits), (Value.int .i64 t1.Frac), (Value.int .i64 t1.Round), (Value.int .i64 t1.Over)]) rfl (ev_tmp rfl rfl) Tryz.underlying23 rfl size_23 (hI.kblk (l := [(Value.int .i64 t1.Kind), (Value.int .i64 t1.Bits), (Value.int .i64 t1.Frac), (Value.int .i64 t1.Round), (Value.int .i64 t1.Over)]) .z rfl).1) ?_
  obtain ⟨r1, hx1, h⟩ := bnd_some h
  refine s_call rfl rfl (r_callF (vs := [(Value.agg #[(Value.int .i64 t1.Kind), (Value.int .i64 t1.Bits), (Value.int .i64 t1.Frac), (Value.int .i64 t1.Round), (Value.int .i64 t1.Over)])]) rfl ok_22 ⟨(ev_tmp rfl rfl), trivial⟩) (Calls.mono (c_value_ValidateType (Dj F c3) w2 hI.lt t1 trivial r1 hx1) ?_)
  rintro _ w3 ⟨rfl, hx2, hl1⟩
  refine ⟨_, rfl, ?_⟩
  replace hI := (hI.ext hx2)
  refine s_q rfl rfl (y_neq rfl (ev_tmp rfl rfl) ev_const) ?_
  refine s_nil ?_
  refine k_next (e := [(1, (str s1)), (2, (Value.pointer (some ⟨b1, 0, none⟩))), (4, (Value.pointer (some ⟨b2, 0, none⟩))), (11, (Value.bool (!decide (r1 = 0))))]) ⟨rfl, rfl, rfl, rfl, trivial⟩ ?_
  refine c_cond (b := !decide (r1 = 0)) (ev_tmp rfl rfl) (fun hb => ?_) (fun hb => ?_)
  · replace h := ite_t hb h
    refine c_seq ?_
    refine c_region rfl ?_
    refine s_q rfl rfl (y_build (vs := []) (cs := #[(Value.int .i64 0), (Value.int .i64 0)]) rfl trivial (by kernel_rfl)) ?_
    refine l_store (new := [(Value.int .i64 0), (Value.int .i64 0)]) (cs' := #[(Value.int .i64 0), (Value.int .i64 0)]) hI .z rfl rfl rfl (ev_tmp rfl rfl) (ev_tmp rfl rfl) rfl size_27 rfl rfl rfl ?_
    clear hI; intro c4 w4 hI
    refine s_q rfl rfl (y_assign rfl ev_const) ?_
    refine s_nil ?_
    refine k_next (e := [(4, (Value.pointer (some ⟨b2, 0, none⟩))), (5, (Value.int .i64 10))]) ⟨rfl, rfl, trivial⟩ ?_
    refine c_ret ?_
    obtain rfl := some_inj h
    exact q_ret (vs := [(Value.agg #[(Value.int .i64 0), (Value.int .i64 0)]), (Value.int .i64 10)]) Tryz.results13 ⟨⟨_, ev_tmp rfl rfl, load_agg (l := [(Value.int .i64 0), (Value.int .i64 0)]) Tryz.underlying27 rfl size_27 (CellsAt.of_blk (hI.blk .z) rfl)⟩, ⟨ev_tmp rfl rfl, trivial⟩⟩ ⟨rfl, hI.ext0, hI.fin trivial⟩
  · replace h := ite_f hb h
    refine c_skip ?_
    refine k_next (e := [(1, (str s1)), (2, (Value.pointer (some ⟨b1, 0, none⟩))), (4, (Value.pointer (some ⟨b2, 0, none⟩)))]) ⟨rfl, rfl, rfl, trivial⟩ ?_
    refine c_seq ?_
    refine c_region rfl ?_
    refine s_q rfl rfl (y_move rfl (ev_tmp rfl rfl)) ?_
    obtain ⟨r2, hx3, h⟩ := bnd_some h
    refine s_call rfl rfl (r_callF (vs := [(str s1)]) rfl ok_30 ⟨(ev_tmp rfl rfl), trivial⟩) (Calls.mono (c_frac_Parse (Dj F c3) w3 hI.lt s1 trivial r2 hx3) ?_)
    rintro _ w5 ⟨rfl, hx4, hl2⟩
    refine ⟨_, rfl, ?_⟩
    replace hI := (hI.ext hx4)
    refine s_q rfl rfl (y_move rfl (ev_tmp rfl rfl)) ?_
    refine s_q rfl rfl (y_extract rfl (ev_tmp rfl rfl) rfl) ?_
    refine s_q rfl rfl (y_extract rfl (ev_tmp rfl rfl) rfl) ?_
    refine l_alloc (cs := #[(Value.int .i64 0), (Value.int .i64 0)]) hI rfl rfl rfl zero_27 rfl ?_
    clear hI; intro b3 c5 w6 hI
    refine l_store (new := [(Value.int .i64 r2.1.N), (Value.int .i64 r2.1.D)]) (cs' := #[(Value.int .i64 r2.1.N), (Value.int .i64 r2.1.D)]) hI .z rfl rfl rfl (ev_tmp rfl rfl) (ev_tmp rfl rfl) rfl size_27 rfl rfl rfl ?_
    clear hI; intro c6 w7 hI
    refine s_q rfl rfl (y_assign rfl (ev_tmp rfl rfl)) ?_
    refine s_nil ?_
    refine k_next (e := [(2, (Value.pointer (some ⟨b1, 0, none⟩))), (4, (Value.pointer (some ⟨b2, 0, none⟩))), (6, (Value.pointer (some ⟨b3, 0, none⟩))), (7, (Value.int .i64 r2.2))]) ⟨rfl, rfl, rfl, rfl, trivial⟩ ?_
    refine c_seq ?_
    refine c_seq ?_
    refine c_region rfl ?_
    refine s_q rfl rfl (y_move rfl (ev_tmp rfl rfl)) ?_
    refine s_q rfl rfl (y_neq rfl (ev_tmp rfl rfl) ev_const) ?_
    refine s_nil ?_
    refine k_next (e := [(2, (Value.pointer (some ⟨b1, 0, none⟩))), (4, (Value.pointer (some ⟨b2, 0, none⟩))), (6, (Value.pointer (some ⟨b3, 0, none⟩))), (7, (Value.int .i64 r2.2)), (19, (Value.bool (!decide (r2.2 = 0))))]) ⟨rfl, rfl, rfl, rfl, rfl, trivial⟩ ?_
    refine c_cond (b := !decide (r2.2 = 0)) (ev_tmp rfl rfl) (fun hb => ?_) (fun hb => ?_)
    · replace h := ite_t hb h
      refine c_seq ?_
      refine c_region rfl ?_
      refine s_q rfl rfl (y_build (vs := []) (cs := #[(Value.int .i64 0), (Value.int .i64 0)]) rfl trivial (by kernel_rfl)) ?_
      refine s_q rfl rfl (y_move rfl (ev_tmp rfl rfl)) ?_
      refine l_store (new := [(Value.int .i64 0), (Value.int .i64 0)]) (cs' := #[(Value.int .i64 0), (Value.int .i64 0)]) hI (.s .z) rfl rfl rfl (ev_tmp rfl rfl) (ev_tmp rfl rfl) rfl size_27 rfl rfl rfl ?_
      clear hI; intro c7 w8 hI
      refine s_q rfl rfl (y_assign rfl (ev_tmp rfl rfl)) ?_
      refine s_nil ?_
      refine k_next (e := [(4, (Value.pointer (some ⟨b2, 0, none⟩))), (5, (Value.int .i64 r2.2))]) ⟨rfl, rfl, trivial⟩ ?_
      refine c_ret ?_
      obtain rfl := some_inj h
      exact q_ret (vs := [(Value.agg #[(Value.int .i64 0), (Value.int .i64 0)]), (Value.int .i64 r2.2)]) Tryz.results13 ⟨⟨_, ev_tmp rfl rfl, load_agg (l := [(Value.int .i64 0), (Value.int .i64 0)]) Tryz.underlying27 rfl size_27 (CellsAt.of_blk (hI.blk (.s .z)) rfl)⟩, ⟨ev_tmp rfl rfl, trivial⟩⟩ ⟨rfl, hI.ext0, hI.fin trivial⟩
    · replace h := ite_f hb h
      refine c_skip ?_
      refine k_next (e := [(2, (Value.pointer (some ⟨b1, 0, none⟩))), (4, (Value.pointer (some ⟨b2, 0, none⟩))), (6, (Value.pointer (some ⟨b3, 0, none⟩)))]) ⟨rfl, rfl, rfl, trivial⟩ ?_
      refine c_seq ?_
      refine c_seq ?_
      refine c_region rfl ?_
      refine s_q rfl rfl (y_fieldAddr rfl (ev_tmp rfl rfl) Tryz.underlying23 rfl size_3 rfl) ?_
      refine s_q rfl rfl (y_load1 (v := (Value.int .i64 t1.Kind)) rfl (ev_tmp rfl rfl) Tryz.underlying3 rfl (hI.kblk (l := [(Value.int .i64 t1.Kind)]) .z rfl).1) ?_
      refine s_nil ?_
      refine k_next (e := [(2, (Value.pointer (some ⟨b1, 0, none⟩))), (4, (Value.pointer (some ⟨b2, 0, none⟩))), (6, (Value.pointer (some ⟨b3, 0, none⟩))), (23, (Value.int .i64 t1.Kind))]) ⟨rfl, rfl, rfl, rfl, trivial⟩ ?_
      refine c_block ?_
      refine c_seq ?_
      refine c_region rfl ?_
      refine s_q rfl rfl (y_eql rfl (ev_tmp rfl rfl) ev_const) ?_
      refine s_q rfl rfl (y_assign rfl (ev_tmp rfl rfl)) ?_
      refine s_nil ?_
      refine k_next (e := [(2, (Value.pointer (some ⟨b1, 0, none⟩))), (4, (Value.pointer (some ⟨b2, 0, none⟩))), (6, (Value.pointer (some ⟨b3, 0, none⟩))), (23, (Value.int .i64 t1.Kind)), (24, (Value.bool (decide (t1.Kind = 3))))]) ⟨rfl, rfl, rfl, rfl, rfl, trivial⟩ ?_
      refine c_cond (b := decide (t1.Kind = 3)) (ev_tmp rfl rfl) (fun hb => ?_) (fun hb => ?_)
      · replace h := ite_t hb h
        refine c_seq ?_
        refine c_region rfl ?_
        refine s_q rfl rfl (y_fieldAddr rfl (ev_tmp rfl rfl) Tryz.underlying27 rfl size_2 rfl) ?_
        refine s_q rfl rfl (y_load1 (v := (Value.int .i64 r2.1.D)) rfl (ev_tmp rfl rfl) Tryz.underlying2 rfl (CellsAt.of_blk (hI.blk .z) rfl)) ?_
        refine s_q rfl rfl (y_neq rfl (ev_tmp rfl rfl) ev_const) ?_
        refine s_nil ?_
        refine k_next (e := [(4, (Value.pointer (some ⟨b2, 0, none⟩))), (6, (Value.pointer (some ⟨b3, 0, none⟩))), (28, (Value.bool (!decide (r2.1.D = 1))))]) ⟨rfl, rfl, rfl, trivial⟩ ?_
        refine c_cond (b := !decide (r2.1.D = 1)) (ev_tmp rfl rfl) (fun hb => ?_) (fun hb => ?_)
        · replace h := ite_t hb h
          refine c_seq ?_
          refine c_region rfl ?_
          refine s_q rfl rfl (y_build (vs := []) (cs := #[(Value.int .i64 0), (Value.int .i64 0)]) rfl trivial (by kernel_rfl)) ?_
          refine l_store (new := [(Value.int .i64 0), (Value.int .i64 0)]) (cs' := #[(Value.int .i64 0), (Value.int .i64 0)]) hI (.s .z) rfl rfl rfl (ev_tmp rfl rfl) (ev_tmp rfl rfl) rfl size_27 rfl rfl rfl ?_
          clear hI; intro c8 w9 hI
          refine s_q rfl rfl (y_assign rfl ev_const) ?_
          refine s_nil ?_
          refine k_next (e := [(4, (Value.pointer (some ⟨b2, 0, none⟩))), (5, (Value.int .i64 5))]) ⟨rfl, rfl, trivial⟩ ?_
          refine c_ret ?_
          obtain rfl := some_inj h
          exact q_ret (vs := [(Value.agg #[(Value.int .i64 0), (Value.int .i64 0)]), (Value.int .i64 5)]) Tryz.results13 ⟨⟨_, ev_tmp rfl rfl, load_agg (l := [(Value.int .i64 0), (Value.int .i64 0)]) Tryz.underlying27 rfl size_27 (CellsAt.of_blk (hI.blk (.s .z)) rfl)⟩, ⟨ev_tmp rfl rfl, trivial⟩⟩ ⟨rfl, hI.ext0, hI.fin trivial⟩
        · replace h := ite_f hb h
          refine c_skip ?_
          refine k_next (e := [(4, (Value.pointer (some ⟨b2, 0, none⟩))), (6, (Value.pointer (some ⟨b3, 0, none⟩)))]) ⟨rfl, rfl, trivial⟩ ?_
          refine c_seq ?_
          refine c_region rfl ?_
          refine s_q rfl rfl (y_loadN (l := [(Value.int .i64 r2.1.N), (Value.int .i64 r2.1.D)]) rfl (ev_tmp rfl rfl) Tryz.underlying27 rfl size_27 (CellsAt.of_blk (hI.blk .z) rfl)) ?_
          refine l_store (new := [(Value.int .i64 r2.1.N), (Value.int .i64 r2.1.D)]) (cs' := #[(Value.int .i64 r2.1.N), (Value.int .i64 r2.1.D)]) hI (.s .z) rfl rfl rfl (ev_tmp rfl rfl) (ev_tmp rfl rfl) rfl size_27 rfl rfl rfl ?_
          clear hI; intro c9 w10 hI
          refine s_q rfl rfl (y_assign rfl ev_const) ?_
          refine s_nil ?_
          refine k_next (e := [(4, (Value.pointer (some ⟨b2, 0, none⟩))), (5, (Value.int .i64 0))]) ⟨rfl, rfl, trivial⟩ ?_
          refine c_ret ?_
          obtain rfl := some_inj h
          exact q_ret (vs := [(Value.agg #[(Value.int .i64 r2.1.N), (Value.int .i64 r2.1.D)]), (Value.int .i64 0)]) Tryz.results13 ⟨⟨_, ev_tmp rfl rfl, load_agg (l := [(Value.int .i64 r2.1.N), (Value.int .i64 r2.1.D)]) Tryz.underlying27 rfl size_27 (CellsAt.of_blk (hI.blk (.s .z)) rfl)⟩, ⟨ev_tmp rfl rfl, trivial⟩⟩ ⟨rfl, hI.ext0, hI.fin trivial⟩
      · replace h := ite_f hb h
        refine c_seq ?_
        refine c_region rfl ?_
        refine s_q rfl rfl (y_eql rfl (ev_tmp rfl rfl) ev_const) ?_
        refine s_q rfl rfl (y_assign rfl (ev_tmp rfl rfl)) ?_
        refine s_nil ?_
        refine k_next (e := [(2, (Value.pointer (some ⟨b1, 0, none⟩))), (4, (Value.pointer (some ⟨b2, 0, none⟩))), (6, (Value.pointer (some ⟨b3, 0, none⟩))), (30, (Value.bool (decide (t1.Kind = 2))))]) ⟨rfl, rfl, rfl, rfl, trivial⟩ ?_
        refine c_cond (b := decide (t1.Kind = 2)) (ev_tmp rfl rfl) (fun hb => ?_) (fun hb => ?_)
        · replace h := ite_t hb h
          refine c_seq ?_
          refine c_region rfl ?_
          refine s_q rfl rfl (y_fieldAddr rfl (ev_tmp rfl rfl) Tryz.underlying23 rfl size_3 rfl) ?_
          refine s_q rfl rfl (y_load1 (v := (Value.int .i64 t1.Frac)) rfl (ev_tmp rfl rfl) Tryz.underlying3 rfl (hI.kblk (l := [(Value.int .i64 t1.Frac)]) .z rfl).1) ?_
          obtain ⟨ho1, h⟩ := chk_some h
          refine s_q rfl rfl (y_shl rfl ev_const (ev_tmp rfl rfl) ho1) ?_
          obtain ⟨one1, hx5, h⟩ := bnd_some h
          refine s_q rfl rfl (binU (y_assign rfl (ev_tmp rfl rfl)) (congrArg (Value.int .i64) (some_inj hx5))) ?_
          refine s_nil ?_
          refine k_next (e := [(2, (Value.pointer (some ⟨b1, 0, none⟩))), (4, (Value.pointer (some ⟨b2, 0, none⟩))), (6, (Value.pointer (some ⟨b3, 0, none⟩))), (8, (Value.int .i64 one1))]) ⟨rfl, rfl, rfl, rfl, trivial⟩ ?_
          refine c_seq ?_
          refine c_seq ?_
          refine c_region rfl ?_
          refine s_q rfl rfl (y_move rfl (ev_tmp rfl rfl)) ?_
          refine s_q rfl rfl (y_fieldAddr rfl (ev_tmp rfl rfl) Tryz.underlying27 rfl size_2 rfl) ?_
          refine s_q rfl rfl (y_load1 (v := (Value.int .i64 r2.1.D)) rfl (ev_tmp rfl rfl) Tryz.underlying2 rfl (CellsAt.of_blk (hI.blk .z) rfl)) ?_
          obtain ⟨ho2, h⟩ := chk_some h
          refine s_q rfl rfl (y_rem rfl (ev_tmp rfl rfl) (ev_tmp rfl rfl) ho2) ?_
          refine s_q rfl rfl (y_neq rfl (ev_tmp rfl rfl) ev_const) ?_
          refine s_nil ?_
          refine k_next (e := [(2, (Value.pointer (some ⟨b1, 0, none⟩))), (4, (Value.pointer (some ⟨b2, 0, none⟩))), (6, (Value.pointer (some ⟨b3, 0, none⟩))), (8, (Value.int .i64 one1)), (39, (Value.bool (!decide (Int.tmod one1 r2.1.D = 0))))]) ⟨rfl, rfl, rfl, rfl, rfl, trivial⟩ ?_
          refine c_cond (b := !decide (Int.tmod one1 r2.1.D = 0)) (ev_tmp rfl rfl) (fun hb => ?_) (fun hb => ?_)
          · replace h := ite_t hb h
            refine c_seq ?_
            refine c_region rfl ?_
            refine s_q rfl rfl (y_build (vs := []) (cs := #[(Value.int .i64 0), (Value.int .i64 0)]) rfl trivial (by kernel_rfl)) ?_
            refine l_store (new := [(Value.int .i64 0), (Value.int .i64 0)]) (cs' := #[(Value.int .i64 0), (Value.int .i64 0)]) hI (.s .z) rfl rfl rfl (ev_tmp rfl rfl) (ev_tmp rfl rfl) rfl size_27 rfl rfl rfl ?_
            clear hI; intro c10 w11 hI
            refine s_q rfl rfl (y_assign rfl ev_const) ?_
            refine s_nil ?_
            refine k_next (e := [(4, (Value.pointer (some ⟨b2, 0, none⟩))), (5, (Value.int .i64 5))]) ⟨rfl, rfl, trivial⟩ ?_
            refine c_ret ?_
            obtain rfl := some_inj h
            exact q_ret (vs := [(Value.agg #[(Value.int .i64 0), (Value.int .i64 0)]), (Value.int .i64 5)]) Tryz.results13 ⟨⟨_, ev_tmp rfl rfl, load_agg (l := [(Value.int .i64 0), (Value.int .i64 0)]) Tryz.underlying27 rfl size_27 (CellsAt.of_blk (hI.blk (.s .z)) rfl)⟩, ⟨ev_tmp rfl rfl, trivial⟩⟩ ⟨rfl, hI.ext0, hI.fin trivial⟩
          · replace h := ite_f hb h
            refine c_skip ?_
            refine k_next (e := [(2, (Value.pointer (some ⟨b1, 0, none⟩))), (4, (Value.pointer (some ⟨b2, 0, none⟩))), (6, (Value.pointer (some ⟨b3, 0, none⟩))), (8, (Value.int .i64 one1))]) ⟨rfl, rfl, rfl, rfl, trivial⟩ ?_
            refine c_seq ?_
            refine c_drawX [8] false (.c (0, .q) (.c (1, .q) (.c (2, .q) (.c (3, .q) (.c (4, .q) (.c (5, .q) (.c (6, .q) (.c (7, .q) (.c (8, .s) .n))))))))) hI (by kernel_rfl) (by kernel_rfl) ?_
            clear hI; intro w12 hI
            refine a_q rfl rfl rfl (fun w' => (y_fieldAddr rfl (ev_tmp rfl rfl) Tryz.underlying27 rfl size_2 rfl)) ?_
            refine a_read rfl rfl rfl (fun w' hw' => (y_load1 (v := (Value.int .i64 r2.1.N)) rfl (ev_tmp rfl rfl) Tryz.underlying2 rfl ((CA.blk (hI.blk .z) rfl).at_ (SX.any rfl hw')))) (by kernel_rfl) ?_
            refine a_q rfl rfl rfl (fun w' => (y_move rfl (ev_tmp rfl rfl))) ?_
            refine a_q rfl rfl rfl (fun w' => (y_fieldAddr rfl (ev_tmp rfl rfl) Tryz.underlying27 rfl size_2 rfl)) ?_
            refine a_read rfl rfl rfl (fun w' hw' => (y_load1 (v := (Value.int .i64 r2.1.D)) rfl (ev_tmp rfl rfl) Tryz.underlying2 rfl ((CA.blk (hI.blk .z) rfl).at_ (SX.any rfl hw')))) (by kernel_rfl) ?_
            refine a_q rfl rfl rfl (fun w' => (y_quo rfl (ev_tmp rfl rfl) (ev_tmp rfl rfl) ho2)) ?_
            refine a_q rfl rfl rfl (fun w' => (y_mul rfl (ev_tmp rfl rfl) (ev_tmp rfl rfl))) ?_
            refine a_q rfl rfl rfl (fun w' => (y_build (vs := [(0, (Value.int .i64 (wi64 (r2.1.N * (wi64 (Int.tdiv one1 r2.1.D)))))), (1, (Value.int .i64 1))]) (cs := #[(Value.int .i64 (wi64 (r2.1.N * (wi64 (Int.tdiv one1 r2.1.D))))), (Value.int .i64 1)]) rfl ⟨rfl, (ev_tmp rfl rfl), ⟨rfl, ev_const, trivial⟩⟩ (by kernel_rfl))) ?_
            refine a_turn (F := F) (C := c6) rfl rfl ?_
            refine la_store (new := [(Value.int .i64 (wi64 (r2.1.N * (wi64 (Int.tdiv one1 r2.1.D))))), (Value.int .i64 1)]) (cs' := #[(Value.int .i64 (wi64 (r2.1.N * (wi64 (Int.tdiv one1 r2.1.D))))), (Value.int .i64 1)]) hI .z rfl rfl rfl rfl (ev_tmp rfl rfl) (ev_tmp rfl rfl) rfl size_27 rfl rfl rfl ?_
            clear hI; intro c11 w13 hI
            refine a_nil ?_
            refine k_next (e := [(2, (Value.pointer (some ⟨b1, 0, none⟩))), (4, (Value.pointer (some ⟨b2, 0, none⟩))), (6, (Value.pointer (some ⟨b3, 0, none⟩)))]) ⟨rfl, rfl, rfl, trivial⟩ ?_
            refine c_seq ?_
            refine c_region rfl ?_
            refine s_q rfl rfl (y_loadN (l := [(Value.int .i64 t1.Kind), (Value.int .i64 t1.Bits), (Value.int .i64 t1.Frac), (Value.int .i64 t1.Round), (Value.int .i64 t1.Over)]) rfl (ev_tmp rfl rfl) Tryz.underlying23 rfl size_23 (hI.kblk (l := [(Value.int .i64 t1.Kind), (Value.int .i64 t1.Bits), (Value.int .i64 t1.Frac), (Value.int .i64 t1.Round), (Value.int .i64 t1.Over)]) .z rfl).1) ?_
            refine s_q rfl rfl (y_loadN (l := [(Value.int .i64 (wi64 (r2.1.N * (wi64 (Int.tdiv one1 r2.1.D))))), (Value.int .i64 1)]) rfl (ev_tmp rfl rfl) Tryz.underlying27 rfl size_27 (CellsAt.of_blk (hI.blk .z) rfl)) ?_
            obtain ⟨r3, hx6, h⟩ := bnd_some h
            refine s_call rfl rfl (r_callF (vs := [(Value.agg #[(Value.int .i64 t1.Kind), (Value.int .i64 t1.Bits), (Value.int .i64 t1.Frac), (Value.int .i64 t1.Round), (Value.int .i64 t1.Over)]), (Value.agg #[(Value.int .i64 (wi64 (r2.1.N * (wi64 (Int.tdiv one1 r2.1.D))))), (Value.int .i64 1)])]) rfl ok_31 ⟨(ev_tmp rfl rfl), ⟨(ev_tmp rfl rfl), trivial⟩⟩) (Calls.mono (c_fixed_Valid (Dj F c11) w13 hI.lt t1 (⟨wi64 (r2.1.N * (wi64 (Int.tdiv one1 r2.1.D))), 1⟩ : GVal) trivial r3 hx6) ?_)
            rintro _ w14 ⟨rfl, hx7, hl3⟩
            refine ⟨_, rfl, ?_⟩
            replace hI := (hI.ext hx7)
            refine s_q rfl rfl (y_not rfl (ev_tmp rfl rfl)) ?_
            refine s_nil ?_
            refine k_next (e := [(4, (Value.pointer (some ⟨b2, 0, none⟩))), (6, (Value.pointer (some ⟨b3, 0, none⟩))), (52, (Value.bool (!r3)))]) ⟨rfl, rfl, rfl, trivial⟩ ?_
            refine c_cond (b := !r3) (ev_tmp rfl rfl) (fun hb => ?_) (fun hb => ?_)
            · replace h := ite_t hb h
              refine c_seq ?_
              refine c_region rfl ?_
              refine s_q rfl rfl (y_build (vs := []) (cs := #[(Value.int .i64 0), (Value.int .i64 0)]) rfl trivial (by kernel_rfl)) ?_
              refine l_store (new := [(Value.int .i64 0), (Value.int .i64 0)]) (cs' := #[(Value.int .i64 0), (Value.int .i64 0)]) hI (.s .z) rfl rfl rfl (ev_tmp rfl rfl) (ev_tmp rfl rfl) rfl size_27 rfl rfl rfl ?_
              clear hI; intro c12 w15 hI
              refine s_q rfl rfl (y_assign rfl ev_const) ?_
              refine s_nil ?_
              refine k_next (e := [(4, (Value.pointer (some ⟨b2, 0, none⟩))), (5, (Value.int .i64 3))]) ⟨rfl, rfl, trivial⟩ ?_
              refine c_ret ?_
              obtain rfl := some_inj h
              exact q_ret (vs := [(Value.agg #[(Value.int .i64 0), (Value.int .i64 0)]), (Value.int .i64 3)]) Tryz.results13 ⟨⟨_, ev_tmp rfl rfl, load_agg (l := [(Value.int .i64 0), (Value.int .i64 0)]) Tryz.underlying27 rfl size_27 (CellsAt.of_blk (hI.blk (.s .z)) rfl)⟩, ⟨ev_tmp rfl rfl, trivial⟩⟩ ⟨rfl, hI.ext0, hI.fin trivial⟩
            · replace h := ite_f hb h
              refine c_skip ?_
              refine k_next (e := [(4, (Value.pointer (some ⟨b2, 0, none⟩))), (6, (Value.pointer (some ⟨b3, 0, none⟩)))]) ⟨rfl, rfl, trivial⟩ ?_
              refine c_seq ?_
              refine c_region rfl ?_
              refine s_q rfl rfl (y_loadN (l := [(Value.int .i64 (wi64 (r2.1.N * (wi64 (Int.tdiv one1 r2.1.D))))), (Value.int .i64 1)]) rfl (ev_tmp rfl rfl) Tryz.underlying27 rfl size_27 (CellsAt.of_blk (hI.blk .z) rfl)) ?_
              refine l_store (new := [(Value.int .i64 (wi64 (r2.1.N * (wi64 (Int.tdiv one1 r2.1.D))))), (Value.int .i64 1)]) (cs' := #[(Value.int .i64 (wi64 (r2.1.N * (wi64 (Int.tdiv one1 r2.1.D))))), (Value.int .i64 1)]) hI (.s .z) rfl rfl rfl (ev_tmp rfl rfl) (ev_tmp rfl rfl) rfl size_27 rfl rfl rfl ?_
              clear hI; intro c13 w16 hI
              refine s_q rfl rfl (y_assign rfl ev_const) ?_
              refine s_nil ?_
              refine k_next (e := [(4, (Value.pointer (some ⟨b2, 0, none⟩))), (5, (Value.int .i64 0))]) ⟨rfl, rfl, trivial⟩ ?_
              refine c_ret ?_
              obtain rfl := some_inj h
              exact q_ret (vs := [(Value.agg #[(Value.int .i64 (wi64 (r2.1.N * (wi64 (Int.tdiv one1 r2.1.D))))), (Value.int .i64 1)]), (Value.int .i64 0)]) Tryz.results13 ⟨⟨_, ev_tmp rfl rfl, load_agg (l := [(Value.int .i64 (wi64 (r2.1.N * (wi64 (Int.tdiv one1 r2.1.D))))), (Value.int .i64 1)]) Tryz.underlying27 rfl size_27 (CellsAt.of_blk (hI.blk (.s .z)) rfl)⟩, ⟨ev_tmp rfl rfl, trivial⟩⟩ ⟨rfl, hI.ext0, hI.fin trivial⟩
        · replace h := ite_f hb h
          refine c_skip ?_
          refine k_next (e := [(4, (Value.pointer (some ⟨b2, 0, none⟩))), (6, (Value.pointer (some ⟨b3, 0, none⟩)))]) ⟨rfl, rfl, trivial⟩ ?_
          refine c_seq ?_
          refine c_region rfl ?_
          refine s_q rfl rfl (y_loadN (l := [(Value.int .i64 r2.1.N), (Value.int .i64 r2.1.D)]) rfl (ev_tmp rfl rfl) Tryz.underlying27 rfl size_27 (CellsAt.of_blk (hI.blk .z) rfl)) ?_
          refine l_store (new := [(Value.int .i64 r2.1.N), (Value.int .i64 r2.1.D)]) (cs' := #[(Value.int .i64 r2.1.N), (Value.int .i64 r2.1.D)]) hI (.s .z) rfl rfl rfl (ev_tmp rfl rfl) (ev_tmp rfl rfl) rfl size_27 rfl rfl rfl ?_
          clear hI; intro c14 w17 hI
          refine s_q rfl rfl (y_assign rfl ev_const) ?_
          refine s_nil ?_
          refine k_next (e := [(4, (Value.pointer (some ⟨b2, 0, none⟩))), (5, (Value.int .i64 0))]) ⟨rfl, rfl, trivial⟩ ?_
          refine c_ret ?_
          obtain rfl := some_inj h
          exact q_ret (vs := [(Value.agg #[(Value.int .i64 r2.1.N), (Value.int .i64 r2.1.D)]), (Value.int .i64 0)]) Tryz.results13 ⟨⟨_, ev_tmp rfl rfl, load_agg (l := [(Value.int .i64 r2.1.N), (Value.int .i64 r2.1.D)]) Tryz.underlying27 rfl size_27 (CellsAt.of_blk (hI.blk (.s .z)) rfl)⟩, ⟨ev_tmp rfl rfl, trivial⟩⟩ ⟨rfl, hI.ext0, hI.fin trivial⟩

set_option maxRecDepth 100000 in
set_option maxHeartbeats 4000000 in
theorem c_law04_ValueResultsValid (F : NP) (w0 : World) (hF : ∀ k, F k → k < w0.heap.size) (op1 : Int) (types1 : Gs39) (l1 : Gs40) (s1 : List UInt8) (hc : AllCl [clPow10] F w0) (r : Bool)
    (h : m_law04_ValueResultsValid op1 types1 l1 s1 = some r) :
    Calls Tryz.prog 5 #[(Value.int .i64 op1), (Value.agg #[(Value.int .i64 types1.e0.Kind), (Value.int .i64 types1.e0.Bits), (Value.int .i64 types1.e0.Frac), (Value.int .i64 types1.e0.Round), (Value.int .i64 types1.e0.Over), (Value.int .i64 types1.e1.Kind), (Value.int .i64 types1.e1.Bits), (Value.int .i64 types1.e1.Frac), (Value.int .i64 types1.e1.Round), (Value.int .i64 types1.e1.Over)]), (Value.agg #[(Value.int .i64 l1.e0.N), (Value.int .i64 l1.e0.D), (Value.int .i64 l1.e1.N), (Value.int .i64 l1.e1.D)]), (str s1)] w0 fun e w => e = .returned (Value.bool r) ∧ Ext w0 w ∧ AllCl [] F w := by
  refine ofEnter (R := fun v w => v = (Value.bool r) ∧ Ext w0 w ∧ AllCl [] F w) (enter (l := [(Value.int .i64 op1), (Value.agg #[(Value.int .i64 types1.e0.Kind), (Value.int .i64 types1.e0.Bits), (Value.int .i64 types1.e0.Frac), (Value.int .i64 types1.e0.Round), (Value.int .i64 types1.e0.Over), (Value.int .i64 types1.e1.Kind), (Value.int .i64 types1.e1.Bits), (Value.int .i64 types1.e1.Frac), (Value.int .i64 types1.e1.Round), (Value.int .i64 types1.e1.Over)]), (Value.agg #[(Value.int .i64 l1.e0.N), (Value.int .i64 l1.e0.D), (Value.int .i64 l1.e1.N), (Value.int .i64 l1.e1.D)]), (str s1)]) Tryz.func5 rfl Tryz.ntmps5 rfl ?_) ?_
  rotate_left
  · rintro _ w ⟨rfl, k1, k2⟩; exact ⟨rfl, k1, k2⟩
  have hI := Bun.start hF hc
  clear hc
  rw [m_law04_ValueResultsValid] at h
  refine c_seq ?_
  refine c_region rfl ?_
  refine l_box (v := (Value.agg #[(Value.int .i64 types1.e0.Kind), (Value.int .i64 types1.e0.Bits), (Value.int .i64 types1.e0.Frac), (Value.int .i64 types1.e0.Round), (Value.int .i64 types1.e0.Over), (Value.int .i64 types1.e1.Kind), (Value.int .i64 types1.e1.Bits), (Value.int .i64 types1.e1.Frac), (Value.int .i64 types1.e1.Round), (Value.int .i64 types1.e1.Over)])) (cs := #[(Value.int .i64 types1.e0.Kind), (Value.int .i64 types1.e0.Bits), (Value.int .i64 types1.e0.Frac), (Value.int .i64 types1.e0.Round), (Value.int .i64 types1.e0.Over), (Value.int .i64 types1.e1.Kind), (Value.int .i64 types1.e1.Bits), (Value.int .i64 types1.e1.Frac), (Value.int .i64 types1.e1.Round), (Value.int .i64 types1.e1.Over)]) hI rfl rfl rfl (ev_tmp rfl rfl) rfl ?_
  clear hI; intro b1 c1 w1 hI
  obtain ⟨c2, hI⟩ := hI.relBox .z
  refine l_box (v := (Value.agg #[(Value.int .i64 l1.e0.N), (Value.int .i64 l1.e0.D), (Value.int .i64 l1.e1.N), (Value.int .i64 l1.e1.D)])) (cs := #[(Value.int .i64 l1.e0.N), (Value.int .i64 l1.e0.D), (Value.int .i64 l1.e1.N), (Value.int .i64 l1.e1.D)]) hI rfl rfl rfl (ev_tmp rfl rfl) rfl ?_
  clear hI; intro b2 c3 w2 hI
  obtain ⟨c4, hI⟩ := hI.relBox .z
  refine s_q rfl rfl (y_assign rfl ev_const) ?_
  refine s_nil ?_
  refine k_next (e := [(0, (Value.int .i64 op1)), (3, (str s1)), (5, (Value.pointer (some ⟨b1, 0, none⟩))), (6, (Value.pointer (some ⟨b2, 0, none⟩)))]) ⟨rfl, rfl, rfl, rfl, trivial⟩ ?_
  refine c_seq ?_
  refine c_seq ?_
  refine c_region rfl ?_
  refine s_q rfl rfl (y_move rfl (ev_tmp rfl rfl)) ?_
  refine s_q rfl rfl (y_lens rfl Tryz.underlying9 (ev_tmp rfl rfl)) ?_
  refine s_q rfl rfl (y_gtr rfl (ev_tmp rfl rfl) ev_const) ?_
  refine s_nil ?_
  refine k_next (e := [(0, (Value.int .i64 op1)), (3, (str s1)), (5, (Value.pointer (some ⟨b1, 0, none⟩))), (6, (Value.pointer (some ⟨b2, 0, none⟩))), (22, (Value.bool (decide (100 < (s1.length : Int)))))]) ⟨rfl, rfl, rfl, rfl, rfl, trivial⟩ ?_
  refine c_cond (b := decide (100 < (s1.length : Int))) (ev_tmp rfl rfl) (fun hb => ?_) (fun hb => ?_)
  · replace h := ite_t hb h
    refine c_seq ?_
    refine c_region rfl ?_
    obtain ⟨r1, hx1, h⟩ := bnd_some h
    refine s_call rfl rfl (r_callF (vs := []) rfl ok_6 trivial) (Calls.mono (c_law04_examples (Dj F c4) w2 hI.lt ⟨(hI.get (.s (.s .z))), trivial⟩ r1 hx1) ?_)
    rintro _ w3 ⟨rfl, hx2, hl1⟩
    refine ⟨_, rfl, ?_⟩
    replace hI := (hI.ext hx2)
    refine s_q rfl rfl (y_assign rfl (ev_tmp rfl rfl)) ?_
    refine s_nil ?_
    refine k_next (e := [(8, (Value.bool r1))]) ⟨rfl, trivial⟩ ?_
    refine c_ret ?_
    obtain rfl := some_inj h
    exact q_ret (vs := [(Value.bool r1)]) Tryz.results5 ⟨ev_tmp rfl rfl, trivial⟩ ⟨rfl, hI.ext0, hI.fin trivial⟩
  · replace h := ite_f hb h
    refine c_skip ?_
    refine k_next (e := [(0, (Value.int .i64 op1)), (3, (str s1)), (5, (Value.pointer (some ⟨b1, 0, none⟩))), (6, (Value.pointer (some ⟨b2, 0, none⟩)))]) ⟨rfl, rfl, rfl, rfl, trivial⟩ ?_
    refine c_seq ?_
    refine c_region rfl ?_
    refine s_q rfl rfl (y_indexAddrA (v := (Value.pointer (some ⟨b1, 0, none⟩))) rfl (ev_tmp rfl rfl) ev_const (fun _ => by kernel_rfl)) ?_
    refine s_q rfl rfl (y_loadN (l := [(Value.int .i64 types1.e0.Kind), (Value.int .i64 types1.e0.Bits), (Value.int .i64 types1.e0.Frac), (Value.int .i64 types1.e0.Round), (Value.int .i64 types1.e0.Over)]) rfl (ev_tmp rfl rfl) Tryz.underlying23 rfl size_23 (hI.kblk (l := [(Value.int .i64 types1.e0.Kind), (Value.int .i64 types1.e0.Bits), (Value.int .i64 types1.e0.Frac), (Value.int .i64 types1.e0.Round), (Value.int .i64 types1.e0.Over)]) (.s .z) rfl).1) ?_
    refine l_alloc (cs := #[(Value.int .i64 0), (Value.int .i64 0), (Value.int .i64 0), (Value.int .i64 0), (Value.int .i64 0)]) hI rfl rfl rfl zero_23 rfl ?_
    clear hI; intro b3 c5 w4 hI
    refine l_store (new := [(Value.int .i64 types1.e0.Kind), (Value.int .i64 types1.e0.Bits), (Value.int .i64 types1.e0.Frac), (Value.int .i64 types1.e0.Round), (Value.int .i64 types1.e0.Over)]) (cs' := #[(Value.int .i64 types1.e0.Kind), (Value.int .i64 types1.e0.Bits), (Value.int .i64 types1.e0.Frac), (Value.int .i64 types1.e0.Round), (Value.int .i64 types1.e0.Over)]) hI .z rfl rfl rfl (ev_tmp rfl rfl) (ev_tmp rfl rfl) rfl size_23 rfl rfl rfl ?_
    clear hI; intro c6 w5 hI
    refine s_nil ?_
    refine k_next (e := [(0, (Value.int .i64 op1)), (3, (str s1)), (5, (Value.pointer (some ⟨b1, 0, none⟩))), (6, (Value.pointer (some ⟨b2, 0, none⟩))), (9, (Value.pointer (some ⟨b3, 0, none⟩)))]) ⟨rfl, rfl, rfl, rfl, rfl, trivial⟩ ?_
    refine c_seq ?_
    refine c_region rfl ?_
    refine s_q rfl rfl (y_move rfl (ev_tmp rfl rfl)) ?_
    refine s_q rfl rfl (y_loadN (l := [(Value.int .i64 types1.e0.Kind), (Value.int .i64 types1.e0.Bits), (Value.int .i64 types1.e0.Frac), (Value.int .i64 types1.e0.Round), (Value.int .i64 types1.e0.Over)]) rfl (ev_tmp rfl rfl) Tryz.underlying23 rfl size_23 (CellsAt.of_blk (hI.blk .z) rfl)) ?_
    refine s_q rfl rfl (y_indexAddrA (v := (Value.pointer (some ⟨b2, 0, none⟩))) rfl (ev_tmp rfl rfl) ev_const (fun _ => by kernel_rfl)) ?_
    refine s_q rfl rfl (y_loadN (l := [(Value.int .i64 l1.e0.N), (Value.int .i64 l1.e0.D)]) rfl (ev_tmp rfl rfl) Tryz.underlying27 rfl size_27 (hI.kblk (l := [(Value.int .i64 l1.e0.N), (Value.int .i64 l1.e0.D)]) .z rfl).1) ?_
    refine s_q rfl rfl (y_indexAddrA (v := (Value.pointer (some ⟨b2, 2, none⟩))) rfl (ev_tmp rfl rfl) ev_const (fun _ => by kernel_rfl)) ?_
    refine s_q rfl rfl (y_loadN (l := [(Value.int .i64 l1.e1.N), (Value.int .i64 l1.e1.D)]) rfl (ev_tmp rfl rfl) Tryz.underlying27 rfl size_27 (hI.kblk (l := [(Value.int .i64 l1.e1.N), (Value.int .i64 l1.e1.D)]) .z rfl).1) ?_
    obtain ⟨r2, hx3, h⟩ := bnd_some h
    refine s_call rfl rfl (r_callF (vs := [(Value.int .i64 op1), (Value.agg #[(Value.int .i64 types1.e0.Kind), (Value.int .i64 types1.e0.Bits), (Value.int .i64 types1.e0.Frac), (Value.int .i64 types1.e0.Round), (Value.int .i64 types1.e0.Over)]), (Value.agg #[(Value.int .i64 l1.e0.N), (Value.int .i64 l1.e0.D)]), (Value.agg #[(Value.int .i64 l1.e1.N), (Value.int .i64 l1.e1.D)])]) rfl ok_17 ⟨(ev_tmp rfl rfl), ⟨(ev_tmp rfl rfl), ⟨(ev_tmp rfl rfl), ⟨(ev_tmp rfl rfl), trivial⟩⟩⟩⟩) (Calls.mono (c_value_Apply (Dj F c6) w5 hI.lt op1 types1.e0 l1.e0 l1.e1 trivial r2 hx3) ?_)
    rintro _ w6 ⟨rfl, hx4, hl2⟩
    refine ⟨_, rfl, ?_⟩
    replace hI := (hI.ext hx4)
    refine s_q rfl rfl (y_move rfl (ev_tmp rfl rfl)) ?_
    refine s_q rfl rfl (y_extract rfl (ev_tmp rfl rfl) rfl) ?_
    refine s_q rfl rfl (y_extract rfl (ev_tmp rfl rfl) rfl) ?_
    refine l_alloc (cs := #[(Value.int .i64 0), (Value.int .i64 0)]) hI rfl rfl rfl zero_27 rfl ?_
    clear hI; intro b4 c7 w7 hI
    refine l_store (new := [(Value.int .i64 r2.1.N), (Value.int .i64 r2.1.D)]) (cs' := #[(Value.int .i64 r2.1.N), (Value.int .i64 r2.1.D)]) hI .z rfl rfl rfl (ev_tmp rfl rfl) (ev_tmp rfl rfl) rfl size_27 rfl rfl rfl ?_
    clear hI; intro c8 w8 hI
    refine s_q rfl rfl (y_assign rfl (ev_tmp rfl rfl)) ?_
    refine s_nil ?_
    refine k_next (e := [(3, (str s1)), (5, (Value.pointer (some ⟨b1, 0, none⟩))), (6, (Value.pointer (some ⟨b2, 0, none⟩))), (9, (Value.pointer (some ⟨b3, 0, none⟩))), (10, (Value.pointer (some ⟨b4, 0, none⟩))), (11, (Value.int .i64 r2.2))]) ⟨rfl, rfl, rfl, rfl, rfl, rfl, trivial⟩ ?_
    refine c_seq ?_
    refine c_region rfl ?_
    refine s_q rfl rfl (y_loadN (l := [(Value.int .i64 types1.e0.Kind), (Value.int .i64 types1.e0.Bits), (Value.int .i64 types1.e0.Frac), (Value.int .i64 types1.e0.Round), (Value.int .i64 types1.e0.Over)]) rfl (ev_tmp rfl rfl) Tryz.underlying23 rfl size_23 (CellsAt.of_blk (hI.blk (.s .z)) rfl)) ?_
    refine s_q rfl rfl (y_indexAddrA (v := (Value.pointer (some ⟨b1, 5, none⟩))) rfl (ev_tmp rfl rfl) ev_const (fun _ => by kernel_rfl)) ?_
    refine s_q rfl rfl (y_loadN (l := [(Value.int .i64 types1.e1.Kind), (Value.int .i64 types1.e1.Bits), (Value.int .i64 types1.e1.Frac), (Value.int .i64 types1.e1.Round), (Value.int .i64 types1.e1.Over)]) rfl (ev_tmp rfl rfl) Tryz.underlying23 rfl size_23 (hI.kblk (l := [(Value.int .i64 types1.e1.Kind), (Value.int .i64 types1.e1.Bits), (Value.int .i64 types1.e1.Frac), (Value.int .i64 types1.e1.Round), (Value.int .i64 types1.e1.Over)]) (.s .z) rfl).1) ?_
    refine s_q rfl rfl (y_indexAddrA (v := (Value.pointer (some ⟨b2, 0, none⟩))) rfl (ev_tmp rfl rfl) ev_const (fun _ => by kernel_rfl)) ?_
    refine s_q rfl rfl (y_loadN (l := [(Value.int .i64 l1.e0.N), (Value.int .i64 l1.e0.D)]) rfl (ev_tmp rfl rfl) Tryz.underlying27 rfl size_27 (hI.kblk (l := [(Value.int .i64 l1.e0.N), (Value.int .i64 l1.e0.D)]) .z rfl).1) ?_
    obtain ⟨r3, hx5, h⟩ := bnd_some h
    refine s_call rfl rfl (r_callF (vs := [(Value.agg #[(Value.int .i64 types1.e0.Kind), (Value.int .i64 types1.e0.Bits), (Value.int .i64 types1.e0.Frac), (Value.int .i64 types1.e0.Round), (Value.int .i64 types1.e0.Over)]), (Value.agg #[(Value.int .i64 types1.e1.Kind), (Value.int .i64 types1.e1.Bits), (Value.int .i64 types1.e1.Frac), (Value.int .i64 types1.e1.Round), (Value.int .i64 types1.e1.Over)]), (Value.agg #[(Value.int .i64 l1.e0.N), (Value.int .i64 l1.e0.D)])]) rfl ok_18 ⟨(ev_tmp rfl rfl), ⟨(ev_tmp rfl rfl), ⟨(ev_tmp rfl rfl), trivial⟩⟩⟩) (Calls.mono (c_value_Cast (Dj F c8) w8 hI.lt types1.e0 types1.e1 l1.e0 trivial r3 hx5) ?_)
    rintro _ w9 ⟨rfl, hx6, hl3⟩
    refine ⟨_, rfl, ?_⟩
    replace hI := (hI.ext hx6)
    refine s_q rfl rfl (y_move rfl (ev_tmp rfl rfl)) ?_
    refine s_q rfl rfl (y_extract rfl (ev_tmp rfl rfl) rfl) ?_
    refine s_q rfl rfl (y_extract rfl (ev_tmp rfl rfl) rfl) ?_
    refine l_alloc (cs := #[(Value.int .i64 0), (Value.int .i64 0)]) hI rfl rfl rfl zero_27 rfl ?_
    clear hI; intro b5 c9 w10 hI
    refine l_store (new := [(Value.int .i64 r3.1.N), (Value.int .i64 r3.1.D)]) (cs' := #[(Value.int .i64 r3.1.N), (Value.int .i64 r3.1.D)]) hI .z rfl rfl rfl (ev_tmp rfl rfl) (ev_tmp rfl rfl) rfl size_27 rfl rfl rfl ?_
    clear hI; intro c10 w11 hI
    refine s_q rfl rfl (y_assign rfl (ev_tmp rfl rfl)) ?_
    refine s_nil ?_
    refine k_next (e := [(3, (str s1)), (5, (Value.pointer (some ⟨b1, 0, none⟩))), (6, (Value.pointer (some ⟨b2, 0, none⟩))), (9, (Value.pointer (some ⟨b3, 0, none⟩))), (10, (Value.pointer (some ⟨b4, 0, none⟩))), (11, (Value.int .i64 r2.2)), (12, (Value.pointer (some ⟨b5, 0, none⟩))), (13, (Value.int .i64 r3.2))]) ⟨rfl, rfl, rfl, rfl, rfl, rfl, rfl, rfl, trivial⟩ ?_
    refine c_seq ?_
    refine c_region rfl ?_
    refine s_q rfl rfl (y_loadN (l := [(Value.int .i64 types1.e0.Kind), (Value.int .i64 types1.e0.Bits), (Value.int .i64 types1.e0.Frac), (Value.int .i64 types1.e0.Round), (Value.int .i64 types1.e0.Over)]) rfl (ev_tmp rfl rfl) Tryz.underlying23 rfl size_23 (CellsAt.of_blk (hI.blk (.s (.s .z))) rfl)) ?_
    refine s_q rfl rfl (y_move rfl (ev_tmp rfl rfl)) ?_
    obtain ⟨r4, hx7, h⟩ := bnd_some h
    refine s_call rfl rfl (r_callF (vs := [(Value.agg #[(Value.int .i64 types1.e0.Kind), (Value.int .i64 types1.e0.Bits), (Value.int .i64 types1.e0.Frac), (Value.int .i64 types1.e0.Round), (Value.int .i64 types1.e0.Over)]), (str s1)]) rfl ok_13 ⟨(ev_tmp rfl rfl), ⟨(ev_tmp rfl rfl), trivial⟩⟩) (Calls.mono (c_value_Parse (Dj F c10) w11 hI.lt types1.e0 s1 trivial r4 hx7) ?_)
    rintro _ w12 ⟨rfl, hx8, hl4⟩
    refine ⟨_, rfl, ?_⟩
    replace hI := (hI.ext hx8)
    refine s_q rfl rfl (y_move rfl (ev_tmp rfl rfl)) ?_
    refine s_q rfl rfl (y_extract rfl (ev_tmp rfl rfl) rfl) ?_
    refine s_q rfl rfl (y_extract rfl (ev_tmp rfl rfl) rfl) ?_
    refine l_alloc (cs := #[(Value.int .i64 0), (Value.int .i64 0)]) hI rfl rfl rfl zero_27 rfl ?_
    clear hI; intro b6 c11 w13 hI
    refine l_store (new := [(Value.int .i64 r4.1.N), (Value.int .i64 r4.1.D)]) (cs' := #[(Value.int .i64 r4.1.N), (Value.int .i64 r4.1.D)]) hI .z rfl rfl rfl (ev_tmp rfl rfl) (ev_tmp rfl rfl) rfl size_27 rfl rfl rfl ?_
    clear hI; intro c12 w14 hI
    refine s_q rfl rfl (y_assign rfl (ev_tmp rfl rfl)) ?_
    refine s_nil ?_
    refine k_next (e := [(3, (str s1)), (5, (Value.pointer (some ⟨b1, 0, none⟩))), (6, (Value.pointer (some ⟨b2, 0, none⟩))), (9, (Value.pointer (some ⟨b3, 0, none⟩))), (10, (Value.pointer (some ⟨b4, 0, none⟩))), (11, (Value.int .i64 r2.2)), (12, (Value.pointer (some ⟨b5, 0, none⟩))), (13, (Value.int .i64 r3.2)), (14, (Value.pointer (some ⟨b6, 0, none⟩))), (15, (Value.int .i64 r4.2))]) ⟨rfl, rfl, rfl, rfl, rfl, rfl, rfl, rfl, rfl, rfl, trivial⟩ ?_
    refine c_seq ?_
    refine c_seq ?_
    refine c_region rfl ?_
    refine s_q rfl rfl (y_move rfl (ev_tmp rfl rfl)) ?_
    refine s_q rfl rfl (y_eql rfl (ev_tmp rfl rfl) ev_const) ?_
    refine s_q rfl rfl (y_move rfl (ev_tmp rfl rfl)) ?_
    refine s_gval (g_true rfl rfl rfl rfl) rfl (fun hc => (y_loadN (l := [(Value.int .i64 types1.e0.Kind), (Value.int .i64 types1.e0.Bits), (Value.int .i64 types1.e0.Frac), (Value.int .i64 types1.e0.Round), (Value.int .i64 types1.e0.Over)]) rfl (ev_tmp rfl rfl) Tryz.underlying23 rfl size_23 (CellsAt.of_blk (hI.blk (.s (.s (.s .z)))) rfl))) ?_
    refine s_gval (g_true rfl rfl rfl rfl) rfl (fun hc => (y_loadN (l := [(Value.int .i64 r2.1.N), (Value.int .i64 r2.1.D)]) rfl (ev_tmp rfl rfl) Tryz.underlying27 rfl size_27 (CellsAt.of_blk (hI.blk (.s (.s .z))) rfl))) ?_
    obtain ⟨r5, hx9, h⟩ := bnd_some h
    replace hx9 := gd_some hx9
    refine s_gcallU (v := (Value.bool r5)) (g_true rfl rfl rfl rfl) rfl (fun hc => (r_callF (vs := [(Value.agg #[(Value.int .i64 types1.e0.Kind), (Value.int .i64 types1.e0.Bits), (Value.int .i64 types1.e0.Frac), (Value.int .i64 types1.e0.Round), (Value.int .i64 types1.e0.Over)]), (Value.agg #[(Value.int .i64 r2.1.N), (Value.int .i64 r2.1.D)])]) rfl ok_19 ⟨(ev_gv (ev_tmp rfl rfl) hc), ⟨(ev_gv (ev_tmp rfl rfl) hc), trivial⟩⟩)) (fun hc => (c_value_Valid (Dj F c12) w14 hI.lt types1.e0 r2.1 trivial r5 (hx9 hc)).mono fun _ _ k => ⟨k.1, k.2.1⟩) ?_
    intro w15 hx10; replace hI := hI.ext hx10
    refine s_gval (g_true rfl rfl rfl rfl) rfl (fun hc => (y_not rfl (ev_gv (ev_tmp rfl rfl) hc))) ?_
    refine s_q rfl rfl (y_and rfl (ev_tmp rfl rfl) (ev_tmp rfl rfl)) ?_
    refine s_q rfl rfl (y_move rfl (ev_tmp rfl rfl)) ?_
    refine s_gval (g_false rfl rfl rfl rfl) rfl (fun hc => (y_move rfl (ev_tmp rfl rfl))) ?_
    refine s_gval (g_false rfl rfl rfl rfl) rfl (fun hc => (y_eql rfl (ev_gv (ev_tmp rfl rfl) hc) ev_const)) ?_
    refine s_gval (g_false rfl rfl rfl rfl) rfl (fun hc => (y_move rfl (ev_gv (ev_tmp rfl rfl) hc))) ?_
    refine s_gval (g_true2 rfl rfl rfl rfl) rfl (fun hc => (y_indexAddrA (v := (Value.pointer (some ⟨b1, 5, none⟩))) rfl (ev_tmp rfl rfl) ev_const (fun _ => by kernel_rfl))) ?_
    refine s_gval (g_true2 rfl rfl rfl rfl) rfl (fun hc => (y_loadN (l := [(Value.int .i64 types1.e1.Kind), (Value.int .i64 types1.e1.Bits), (Value.int .i64 types1.e1.Frac), (Value.int .i64 types1.e1.Round), (Value.int .i64 types1.e1.Over)]) rfl (ev_gv (ev_tmp rfl rfl) hc) Tryz.underlying23 rfl size_23 (hI.kblk (l := [(Value.int .i64 types1.e1.Kind), (Value.int .i64 types1.e1.Bits), (Value.int .i64 types1.e1.Frac), (Value.int .i64 types1.e1.Round), (Value.int .i64 types1.e1.Over)]) (.s .z) rfl).1)) ?_
    refine s_gval (g_true2 rfl rfl rfl rfl) rfl (fun hc => (y_loadN (l := [(Value.int .i64 r3.1.N), (Value.int .i64 r3.1.D)]) rfl (ev_tmp rfl rfl) Tryz.underlying27 rfl size_27 (CellsAt.of_blk (hI.blk (.s .z)) rfl))) ?_
    obtain ⟨r6, hx11, h⟩ := bnd_some h
    replace hx11 := gd_some hx11
    refine s_gcallU (v := (Value.bool r6)) (g_true2 rfl rfl rfl rfl) rfl (fun hc => (r_callF (vs := [(Value.agg #[(Value.int .i64 types1.e1.Kind), (Value.int .i64 types1.e1.Bits), (Value.int .i64 types1.e1.Frac), (Value.int .i64 types1.e1.Round), (Value.int .i64 types1.e1.Over)]), (Value.agg #[(Value.int .i64 r3.1.N), (Value.int .i64 r3.1.D)])]) rfl ok_19 ⟨(ev_gv (ev_tmp rfl rfl) hc), ⟨(ev_gv (ev_tmp rfl rfl) hc), trivial⟩⟩)) (fun hc => (c_value_Valid (Dj F c12) w15 hI.lt types1.e1 r3.1 trivial r6 (hx11 hc)).mono fun _ _ k => ⟨k.1, k.2.1⟩) ?_
    intro w16 hx12; replace hI := hI.ext hx12
    refine s_gval (g_true2 rfl rfl rfl rfl) rfl (fun hc => (y_not rfl (ev_gv (ev_tmp rfl rfl) hc))) ?_
    refine s_gval (g_false rfl rfl rfl rfl) rfl (fun hc => (y_and2 rfl hc (ev_tmp rfl rfl) (ev_tmp rfl rfl))) ?_
    refine s_q rfl rfl (y_or rfl (ev_tmp rfl rfl) (ev_tmp rfl rfl)) ?_
    refine s_q rfl rfl (y_move rfl (ev_tmp rfl rfl)) ?_
    refine s_gval (g_false rfl rfl rfl rfl) rfl (fun hc => (y_move rfl (ev_tmp rfl rfl))) ?_
    refine s_gval (g_false rfl rfl rfl rfl) rfl (fun hc => (y_eql rfl (ev_gv (ev_tmp rfl rfl) hc) ev_const)) ?_
    refine s_gval (g_false rfl rfl rfl rfl) rfl (fun hc => (y_move rfl (ev_gv (ev_tmp rfl rfl) hc))) ?_
    refine s_gval (g_true2 rfl rfl rfl rfl) rfl (fun hc => (y_loadN (l := [(Value.int .i64 types1.e0.Kind), (Value.int .i64 types1.e0.Bits), (Value.int .i64 types1.e0.Frac), (Value.int .i64 types1.e0.Round), (Value.int .i64 types1.e0.Over)]) rfl (ev_tmp rfl rfl) Tryz.underlying23 rfl size_23 (CellsAt.of_blk (hI.blk (.s (.s (.s .z)))) rfl))) ?_
    refine s_gval (g_true2 rfl rfl rfl rfl) rfl (fun hc => (y_loadN (l := [(Value.int .i64 r4.1.N), (Value.int .i64 r4.1.D)]) rfl (ev_tmp rfl rfl) Tryz.underlying27 rfl size_27 (CellsAt.of_blk (hI.blk .z) rfl))) ?_
    obtain ⟨r7, hx13, h⟩ := bnd_some h
    replace hx13 := gd_some hx13
    refine s_gcallU (v := (Value.bool r7)) (g_true2 rfl rfl rfl rfl) rfl (fun hc => (r_callF (vs := [(Value.agg #[(Value.int .i64 types1.e0.Kind), (Value.int .i64 types1.e0.Bits), (Value.int .i64 types1.e0.Frac), (Value.int .i64 types1.e0.Round), (Value.int .i64 types1.e0.Over)]), (Value.agg #[(Value.int .i64 r4.1.N), (Value.int .i64 r4.1.D)])]) rfl ok_19 ⟨(ev_gv (ev_tmp rfl rfl) hc), ⟨(ev_gv (ev_tmp rfl rfl) hc), trivial⟩⟩)) (fun hc => (c_value_Valid (Dj F c12) w16 hI.lt types1.e0 r4.1 trivial r7 (hx13 hc)).mono fun _ _ k => ⟨k.1, k.2.1⟩) ?_
    intro w17 hx14; replace hI := hI.ext hx14
    refine s_gval (g_true2 rfl rfl rfl rfl) rfl (fun hc => (y_not rfl (ev_gv (ev_tmp rfl rfl) hc))) ?_
    refine s_gval (g_true2 rfl rfl rfl rfl) rfl (fun hc => (y_move rfl (ev_gv (ev_tmp rfl rfl) hc))) ?_
    refine s_gval (g_false2 rfl rfl rfl rfl) rfl (fun hc => (y_loadN (l := [(Value.int .i64 types1.e0.Kind), (Value.int .i64 types1.e0.Bits), (Value.int .i64 types1.e0.Frac), (Value.int .i64 types1.e0.Round), (Value.int .i64 types1.e0.Over)]) rfl (ev_tmp rfl rfl) Tryz.underlying23 rfl size_23 (CellsAt.of_blk (hI.blk (.s (.s (.s .z)))) rfl))) ?_
    refine s_gval (g_false2 rfl rfl rfl rfl) rfl (fun hc => (y_loadN (l := [(Value.int .i64 r4.1.N), (Value.int .i64 r4.1.D)]) rfl (ev_tmp rfl rfl) Tryz.underlying27 rfl size_27 (CellsAt.of_blk (hI.blk .z) rfl))) ?_
    obtain ⟨r8, hx15, h⟩ := bnd_some h
    replace hx15 := gd_some hx15
    refine s_gcallU (v := (str r8)) (g_false2 rfl rfl rfl rfl) rfl (fun hc => (r_callF (vs := [(Value.agg #[(Value.int .i64 types1.e0.Kind), (Value.int .i64 types1.e0.Bits), (Value.int .i64 types1.e0.Frac), (Value.int .i64 types1.e0.Round), (Value.int .i64 types1.e0.Over)]), (Value.agg #[(Value.int .i64 r4.1.N), (Value.int .i64 r4.1.D)])]) rfl ok_15 ⟨(ev_gv (ev_tmp rfl rfl) hc), ⟨(ev_gv (ev_tmp rfl rfl) hc), trivial⟩⟩)) (fun hc => (c_value_Format (Dj F c12) w17 hI.lt types1.e0 r4.1 ⟨(hI.get (.s (.s .z))), trivial⟩ r8 (hx15 hc)).mono fun _ _ k => ⟨k.1, k.2.1⟩) ?_
    intro w18 hx16; replace hI := hI.ext hx16
    refine s_gval (g_false2 rfl rfl rfl rfl) rfl (fun hc => (y_move rfl (ev_tmp rfl rfl))) ?_
    refine s_gval (g_false2 rfl rfl rfl rfl) rfl (fun hc => (y_nes rfl (ev_gv (ev_tmp rfl rfl) hc) (ev_gv (ev_tmp rfl rfl) hc))) ?_
    refine s_gval (g_true2 rfl rfl rfl rfl) rfl (fun hc => (y_or2 rfl hc (ev_tmp rfl rfl) (ev_tmp rfl rfl))) ?_
    refine s_gval (g_false rfl rfl rfl rfl) rfl (fun hc => (y_and2 rfl hc (ev_tmp rfl rfl) (ev_tmp rfl rfl))) ?_
    refine s_q rfl rfl (y_or rfl (ev_tmp rfl rfl) (ev_tmp rfl rfl)) ?_
    refine s_nil ?_
    refine k_next (e := [(6, (Value.pointer (some ⟨b2, 0, none⟩))), (9, (Value.pointer (some ⟨b3, 0, none⟩))), (86, (Value.bool ((((decide (r2.2 = 0)) && (!r5)) || ((decide (r3.2 = 0)) && (!r6))) || ((decide (r4.2 = 0)) && ((!r7) || (!decide (r8 = s1)))))))]) ⟨rfl, rfl, rfl, trivial⟩ ?_
    refine c_cond (b := (((decide (r2.2 = 0)) && (!r5)) || ((decide (r3.2 = 0)) && (!r6))) || ((decide (r4.2 = 0)) && ((!r7) || (!decide (r8 = s1))))) (ev_tmp rfl rfl) (fun hb => ?_) (fun hb => ?_)
    · replace h := ite_t hb h
      refine c_seq ?_
      refine c_region rfl ?_
      refine s_q rfl rfl (y_assign rfl ev_const) ?_
      refine s_nil ?_
      refine k_next (e := [(8, (Value.bool false))]) ⟨rfl, trivial⟩ ?_
      refine c_ret ?_
      obtain rfl := some_inj h
      exact q_ret (vs := [(Value.bool false)]) Tryz.results5 ⟨ev_tmp rfl rfl, trivial⟩ ⟨rfl, hI.ext0, hI.fin trivial⟩
    · replace h := ite_f hb h
      refine c_skip ?_
      refine k_next (e := [(6, (Value.pointer (some ⟨b2, 0, none⟩))), (9, (Value.pointer (some ⟨b3, 0, none⟩)))]) ⟨rfl, rfl, trivial⟩ ?_
      refine c_seq ?_
      refine c_seq ?_
      refine c_region rfl ?_
      refine s_q rfl rfl (y_loadN (l := [(Value.int .i64 types1.e0.Kind), (Value.int .i64 types1.e0.Bits), (Value.int .i64 types1.e0.Frac), (Value.int .i64 types1.e0.Round), (Value.int .i64 types1.e0.Over)]) rfl (ev_tmp rfl rfl) Tryz.underlying23 rfl size_23 (CellsAt.of_blk (hI.blk (.s (.s (.s .z)))) rfl)) ?_
      refine s_q rfl rfl (y_indexAddrA (v := (Value.pointer (some ⟨b2, 0, none⟩))) rfl (ev_tmp rfl rfl) ev_const (fun _ => by kernel_rfl)) ?_
      refine s_q rfl rfl (y_loadN (l := [(Value.int .i64 l1.e0.N), (Value.int .i64 l1.e0.D)]) rfl (ev_tmp rfl rfl) Tryz.underlying27 rfl size_27 (hI.kblk (l := [(Value.int .i64 l1.e0.N), (Value.int .i64 l1.e0.D)]) .z rfl).1) ?_
      obtain ⟨r9, hx17, h⟩ := bnd_some h
      refine s_call rfl rfl (r_callF (vs := [(Value.agg #[(Value.int .i64 types1.e0.Kind), (Value.int .i64 types1.e0.Bits), (Value.int .i64 types1.e0.Frac), (Value.int .i64 types1.e0.Round), (Value.int .i64 types1.e0.Over)]), (Value.agg #[(Value.int .i64 l1.e0.N), (Value.int .i64 l1.e0.D)])]) rfl ok_19 ⟨(ev_tmp rfl rfl), ⟨(ev_tmp rfl rfl), trivial⟩⟩) (Calls.mono (c_value_Valid (Dj F c12) w18 hI.lt types1.e0 l1.e0 trivial r9 hx17) ?_)
      rintro _ w19 ⟨rfl, hx18, hl9⟩
      refine ⟨_, rfl, ?_⟩
      replace hI := (hI.ext hx18)
      refine s_nil ?_
      refine k_next (e := [(6, (Value.pointer (some ⟨b2, 0, none⟩))), (9, (Value.pointer (some ⟨b3, 0, none⟩))), (90, (Value.bool r9))]) ⟨rfl, rfl, rfl, trivial⟩ ?_
      refine c_cond (b := r9) (ev_tmp rfl rfl) (fun hb => ?_) (fun hb => ?_)
      · replace h := ite_t hb h
        refine c_seq ?_
        refine c_region rfl ?_
        refine s_q rfl rfl (y_loadN (l := [(Value.int .i64 types1.e0.Kind), (Value.int .i64 types1.e0.Bits), (Value.int .i64 types1.e0.Frac), (Value.int .i64 types1.e0.Round), (Value.int .i64 types1.e0.Over)]) rfl (ev_tmp rfl rfl) Tryz.underlying23 rfl size_23 (CellsAt.of_blk (hI.blk (.s (.s (.s .z)))) rfl)) ?_
        refine s_q rfl rfl (y_loadN (l := [(Value.int .i64 types1.e0.Kind), (Value.int .i64 types1.e0.Bits), (Value.int .i64 types1.e0.Frac), (Value.int .i64 types1.e0.Round), (Value.int .i64 types1.e0.Over)]) rfl (ev_tmp rfl rfl) Tryz.underlying23 rfl size_23 (CellsAt.of_blk (hI.blk (.s (.s (.s .z)))) rfl)) ?_
        refine s_q rfl rfl (y_indexAddrA (v := (Value.pointer (some ⟨b2, 0, none⟩))) rfl (ev_tmp rfl rfl) ev_const (fun _ => by kernel_rfl)) ?_
        refine s_q rfl rfl (y_loadN (l := [(Value.int .i64 l1.e0.N), (Value.int .i64 l1.e0.D)]) rfl (ev_tmp rfl rfl) Tryz.underlying27 rfl size_27 (hI.kblk (l := [(Value.int .i64 l1.e0.N), (Value.int .i64 l1.e0.D)]) .z rfl).1) ?_
        obtain ⟨r10, hx19, h⟩ := bnd_some h
        refine s_call rfl rfl (r_callF (vs := [(Value.agg #[(Value.int .i64 types1.e0.Kind), (Value.int .i64 types1.e0.Bits), (Value.int .i64 types1.e0.Frac), (Value.int .i64 types1.e0.Round), (Value.int .i64 types1.e0.Over)]), (Value.agg #[(Value.int .i64 types1.e0.Kind), (Value.int .i64 types1.e0.Bits), (Value.int .i64 types1.e0.Frac), (Value.int .i64 types1.e0.Round), (Value.int .i64 types1.e0.Over)]), (Value.agg #[(Value.int .i64 l1.e0.N), (Value.int .i64 l1.e0.D)])]) rfl ok_18 ⟨(ev_tmp rfl rfl), ⟨(ev_tmp rfl rfl), ⟨(ev_tmp rfl rfl), trivial⟩⟩⟩) (Calls.mono (c_value_Cast (Dj F c12) w19 hI.lt types1.e0 types1.e0 l1.e0 trivial r10 hx19) ?_)
        rintro _ w20 ⟨rfl, hx20, hl10⟩
        refine ⟨_, rfl, ?_⟩
        replace hI := (hI.ext hx20)
        refine s_q rfl rfl (y_move rfl (ev_tmp rfl rfl)) ?_
        refine s_q rfl rfl (y_extract rfl (ev_tmp rfl rfl) rfl) ?_
        refine s_q rfl rfl (y_extract rfl (ev_tmp rfl rfl) rfl) ?_
        refine l_alloc (cs := #[(Value.int .i64 0), (Value.int .i64 0)]) hI rfl rfl rfl zero_27 rfl ?_
        clear hI; intro b7 c13 w21 hI
        refine l_store (new := [(Value.int .i64 r10.1.N), (Value.int .i64 r10.1.D)]) (cs' := #[(Value.int .i64 r10.1.N), (Value.int .i64 r10.1.D)]) hI .z rfl rfl rfl (ev_tmp rfl rfl) (ev_tmp rfl rfl) rfl size_27 rfl rfl rfl ?_
        clear hI; intro c14 w22 hI
        refine s_q rfl rfl (y_assign rfl (ev_tmp rfl rfl)) ?_
        refine s_nil ?_
        refine k_next (e := [(6, (Value.pointer (some ⟨b2, 0, none⟩))), (9, (Value.pointer (some ⟨b3, 0, none⟩))), (16, (Value.pointer (some ⟨b7, 0, none⟩))), (17, (Value.int .i64 r10.2))]) ⟨rfl, rfl, rfl, rfl, trivial⟩ ?_
        refine c_seq ?_
        refine c_drawX [10] false (.c (0, .q) (.c (1, .q) (.c (2, .q) (.c (3, .q) (.two 4 (.two 5 (.c (6, .q) (.c (7, .q) (.c (8, .q) (.c (9, .s) (.c (10, .s) (.c (11, .q) .n)))))) 9 (.c (5, .s) (.c (6, .q) (.c (7, .q) (.c (8, .q) (.c (10, .s) (.c (11, .q) .n))))))) 9 (.c (4, .s) (.c (5, .s) (.c (6, .q) (.c (7, .q) (.c (8, .q) (.c (10, .s) (.c (11, .q) .n)))))))))))) hI (by kernel_rfl) (by kernel_rfl) ?_
        clear hI; intro w23 hI
        refine a_read rfl rfl rfl (fun w' hw' => (y_loadN (l := [(Value.int .i64 types1.e0.Kind), (Value.int .i64 types1.e0.Bits), (Value.int .i64 types1.e0.Frac), (Value.int .i64 types1.e0.Round), (Value.int .i64 types1.e0.Over)]) rfl (ev_tmp rfl rfl) Tryz.underlying23 rfl size_23 ((CA.blk (hI.blk (.s (.s (.s (.s .z))))) rfl).at_ (SX.any rfl hw')))) (by kernel_rfl) ?_
        refine a_read rfl rfl rfl (fun w' hw' => (y_loadN (l := [(Value.int .i64 types1.e0.Kind), (Value.int .i64 types1.e0.Bits), (Value.int .i64 types1.e0.Frac), (Value.int .i64 types1.e0.Round), (Value.int .i64 types1.e0.Over)]) rfl (ev_tmp rfl rfl) Tryz.underlying23 rfl size_23 ((CA.blk (hI.blk (.s (.s (.s (.s .z))))) rfl).at_ (SX.any rfl hw')))) (by kernel_rfl) ?_
        refine a_q rfl rfl rfl (fun w' => (y_indexAddrA (v := (Value.pointer (some ⟨b2, 0, none⟩))) rfl (ev_tmp rfl rfl) ev_const (fun _ => by kernel_rfl))) ?_
        refine a_read rfl rfl rfl (fun w' hw' => (y_loadN (l := [(Value.int .i64 l1.e0.N), (Value.int .i64 l1.e0.D)]) rfl (ev_tmp rfl rfl) Tryz.underlying27 rfl size_27 ((hI.kblk (l := [(Value.int .i64 l1.e0.N), (Value.int .i64 l1.e0.D)]) .z rfl).at_ (SX.any rfl hw')))) (by kernel_rfl) ?_
        refine a_two ?_ ?_
        · skip
          obtain ⟨r11, hx21, h⟩ := bnd_some h
          refine la_call rfl rfl rfl (r_callF (vs := [(Value.agg #[(Value.int .i64 types1.e0.Kind), (Value.int .i64 types1.e0.Bits), (Value.int .i64 types1.e0.Frac), (Value.int .i64 types1.e0.Round), (Value.int .i64 types1.e0.Over)]), (Value.agg #[(Value.int .i64 l1.e0.N), (Value.int .i64 l1.e0.D)])]) rfl ok_15 ⟨(ev_tmp rfl rfl), ⟨(ev_tmp rfl rfl), trivial⟩⟩) (Calls.mono (c_value_Format (Dj F c14) w23 hI.lt types1.e0 l1.e0 ⟨(hI.get (.s (.s .z))), trivial⟩ r11 hx21) ?_)
          rintro _ w24 ⟨rfl, hx22, hl11⟩
          refine ⟨_, rfl, hx22, ?_⟩
          replace hI := (hI.ext hx22)
          refine a_two ?_ ?_
          · skip
            obtain ⟨r12, hx23, h⟩ := bnd_some h
            refine la_call rfl rfl rfl (r_callF (vs := [(Value.agg #[(Value.int .i64 types1.e0.Kind), (Value.int .i64 types1.e0.Bits), (Value.int .i64 types1.e0.Frac), (Value.int .i64 types1.e0.Round), (Value.int .i64 types1.e0.Over)]), (str r11)]) rfl ok_13 ⟨(ev_tmp rfl rfl), ⟨(ev_tmp rfl rfl), trivial⟩⟩) (Calls.mono (c_value_Parse (Dj F c14) w24 hI.lt types1.e0 r11 trivial r12 hx23) ?_)
            rintro _ w25 ⟨rfl, hx24, hl12⟩
            refine ⟨_, rfl, hx24, ?_⟩
            replace hI := (hI.ext hx24)
            refine a_q rfl rfl rfl (fun w' => (y_move rfl (ev_tmp rfl rfl))) ?_
            refine a_q rfl rfl rfl (fun w' => (y_extract rfl (ev_tmp rfl rfl) rfl)) ?_
            refine a_q rfl rfl rfl (fun w' => (y_extract rfl (ev_tmp rfl rfl) rfl)) ?_
            refine la_alloc (cs := #[(Value.int .i64 0), (Value.int .i64 0)]) hI rfl rfl rfl rfl zero_27 rfl ?_
            clear hI; intro b8 c15 w26 hI
            refine a_turn (F := F) (C := c15) rfl rfl ?_
            refine la_store (new := [(Value.int .i64 r12.1.N), (Value.int .i64 r12.1.D)]) (cs' := #[(Value.int .i64 r12.1.N), (Value.int .i64 r12.1.D)]) hI .z rfl rfl rfl rfl (ev_tmp rfl rfl) (ev_tmp rfl rfl) rfl size_27 rfl rfl rfl ?_
            clear hI; intro c16 w27 hI
            refine a_q rfl rfl rfl (fun w' => (y_assign rfl (ev_tmp rfl rfl))) ?_
            refine a_nil ?_
            refine k_next (e := [(6, (Value.pointer (some ⟨b2, 0, none⟩))), (16, (Value.pointer (some ⟨b7, 0, none⟩))), (17, (Value.int .i64 r10.2)), (18, (Value.pointer (some ⟨b8, 0, none⟩))), (19, (Value.int .i64 r12.2))]) ⟨rfl, rfl, rfl, rfl, rfl, trivial⟩ ?_
            refine c_seq ?_
            refine c_region rfl ?_
            refine s_q rfl rfl (y_loadN (l := [(Value.int .i64 r10.1.N), (Value.int .i64 r10.1.D)]) rfl (ev_tmp rfl rfl) Tryz.underlying27 rfl size_27 (CellsAt.of_blk (hI.blk (.s .z)) rfl)) ?_
            refine s_q rfl rfl (y_indexAddrA (v := (Value.pointer (some ⟨b2, 0, none⟩))) rfl (ev_tmp rfl rfl) ev_const (fun _ => by kernel_rfl)) ?_
            refine s_q rfl rfl (y_loadN (l := [(Value.int .i64 l1.e0.N), (Value.int .i64 l1.e0.D)]) rfl (ev_tmp rfl rfl) Tryz.underlying27 rfl size_27 (hI.kblk (l := [(Value.int .i64 l1.e0.N), (Value.int .i64 l1.e0.D)]) .z rfl).1) ?_
            refine s_q rfl rfl (y_bin rfl (ev_tmp rfl rfl) (ev_tmp rfl rfl) (eqstruct_27n ..) (eqguard_27 ..)) ?_
            refine s_q rfl rfl (y_move rfl (ev_tmp rfl rfl)) ?_
            refine s_gval (g_false rfl rfl rfl rfl) rfl (fun hc => (y_move rfl (ev_tmp rfl rfl))) ?_
            refine s_gval (g_false rfl rfl rfl rfl) rfl (fun hc => (y_neq rfl (ev_gv (ev_tmp rfl rfl) hc) ev_const)) ?_
            refine s_q rfl rfl (y_or rfl (ev_tmp rfl rfl) (ev_tmp rfl rfl)) ?_
            refine s_q rfl rfl (y_move rfl (ev_tmp rfl rfl)) ?_
            refine s_gval (g_false rfl rfl rfl rfl) rfl (fun hc => (y_loadN (l := [(Value.int .i64 r12.1.N), (Value.int .i64 r12.1.D)]) rfl (ev_tmp rfl rfl) Tryz.underlying27 rfl size_27 (CellsAt.of_blk (hI.blk .z) rfl))) ?_
            refine s_gval (g_false rfl rfl rfl rfl) rfl (fun hc => (y_indexAddrA (v := (Value.pointer (some ⟨b2, 0, none⟩))) rfl (ev_tmp rfl rfl) ev_const (fun _ => by kernel_rfl))) ?_
            refine s_gval (g_false rfl rfl rfl rfl) rfl (fun hc => (y_loadN (l := [(Value.int .i64 l1.e0.N), (Value.int .i64 l1.e0.D)]) rfl (ev_gv (ev_tmp rfl rfl) hc) Tryz.underlying27 rfl size_27 (hI.kblk (l := [(Value.int .i64 l1.e0.N), (Value.int .i64 l1.e0.D)]) .z rfl).1)) ?_
            refine s_gval (g_false rfl rfl rfl rfl) rfl (fun hc => (y_bin rfl (ev_gv (ev_tmp rfl rfl) hc) (ev_gv (ev_tmp rfl rfl) hc) (eqstruct_27n ..) (eqguard_27 ..))) ?_
            refine s_q rfl rfl (y_or rfl (ev_tmp rfl rfl) (ev_tmp rfl rfl)) ?_
            refine s_q rfl rfl (y_move rfl (ev_tmp rfl rfl)) ?_
            refine s_gval (g_false rfl rfl rfl rfl) rfl (fun hc => (y_move rfl (ev_tmp rfl rfl))) ?_
            refine s_gval (g_false rfl rfl rfl rfl) rfl (fun hc => (y_neq rfl (ev_gv (ev_tmp rfl rfl) hc) ev_const)) ?_
            refine s_q rfl rfl (y_or rfl (ev_tmp rfl rfl) (ev_tmp rfl rfl)) ?_
            refine s_nil ?_
            refine k_next (e := [(125, (Value.bool ((((!((decide (r10.1.N = l1.e0.N)) && (decide (r10.1.D = l1.e0.D)))) || (!decide (r10.2 = 0))) || (!((decide (r12.1.N = l1.e0.N)) && (decide (r12.1.D = l1.e0.D))))) || (!decide (r12.2 = 0)))))]) ⟨rfl, trivial⟩ ?_
            refine c_cond (b := (((!((decide (r10.1.N = l1.e0.N)) && (decide (r10.1.D = l1.e0.D)))) || (!decide (r10.2 = 0))) || (!((decide (r12.1.N = l1.e0.N)) && (decide (r12.1.D = l1.e0.D))))) || (!decide (r12.2 = 0))) (ev_tmp rfl rfl) (fun hb => ?_) (fun hb => ?_)
            · replace h := ite_t hb h
              refine c_seq ?_
              refine c_region rfl ?_
              refine s_q rfl rfl (y_assign rfl ev_const) ?_
              refine s_nil ?_
              refine k_next (e := [(8, (Value.bool false))]) ⟨rfl, trivial⟩ ?_
              refine c_ret ?_
              obtain rfl := some_inj h
              exact q_ret (vs := [(Value.bool false)]) Tryz.results5 ⟨ev_tmp rfl rfl, trivial⟩ ⟨rfl, hI.ext0, hI.fin trivial⟩
            · replace h := ite_f hb h
              refine c_skip ?_
              refine k_next (e := []) trivial ?_
              refine c_seq ?_
              refine c_region rfl ?_
              obtain ⟨r13, hx25, h⟩ := bnd_some h
              refine s_call rfl rfl (r_callF (vs := []) rfl ok_6 trivial) (Calls.mono (c_law04_examples (Dj F c16) w27 hI.lt ⟨(hI.get (.s (.s .z))), trivial⟩ r13 hx25) ?_)
              rintro _ w28 ⟨rfl, hx26, hl13⟩
              refine ⟨_, rfl, ?_⟩
              replace hI := (hI.ext hx26)
              refine s_q rfl rfl (y_assign rfl (ev_tmp rfl rfl)) ?_
              refine s_nil ?_
              refine k_next (e := [(8, (Value.bool r13))]) ⟨rfl, trivial⟩ ?_
              refine c_ret ?_
              obtain rfl := some_inj h
              exact q_ret (vs := [(Value.bool r13)]) Tryz.results5 ⟨ev_tmp rfl rfl, trivial⟩ ⟨rfl, hI.ext0, hI.fin trivial⟩
          · skip
            refine la_alloc (cs := #[(Value.int .i64 0), (Value.int .i64 0)]) hI rfl rfl rfl rfl zero_27 rfl ?_
            clear hI; intro b8 c15 w25 hI
            obtain ⟨r12, hx23, h⟩ := bnd_some h
            refine la_call rfl rfl rfl (r_callF (vs := [(Value.agg #[(Value.int .i64 types1.e0.Kind), (Value.int .i64 types1.e0.Bits), (Value.int .i64 types1.e0.Frac), (Value.int .i64 types1.e0.Round), (Value.int .i64 types1.e0.Over)]), (str r11)]) rfl ok_13 ⟨(ev_tmp rfl rfl), ⟨(ev_tmp rfl rfl), trivial⟩⟩) (Calls.mono (c_value_Parse (Dj F c15) w25 hI.lt types1.e0 r11 trivial r12 hx23) ?_)
            rintro _ w26 ⟨rfl, hx24, hl12⟩
            refine ⟨_, rfl, hx24, ?_⟩
            replace hI := (hI.ext hx24)
            refine a_q rfl rfl rfl (fun w' => (y_move rfl (ev_tmp rfl rfl))) ?_
            refine a_q rfl rfl rfl (fun w' => (y_extract rfl (ev_tmp rfl rfl) rfl)) ?_
            refine a_q rfl rfl rfl (fun w' => (y_extract rfl (ev_tmp rfl rfl) rfl)) ?_
            refine a_turn (F := F) (C := c15) rfl rfl ?_
            refine la_store (new := [(Value.int .i64 r12.1.N), (Value.int .i64 r12.1.D)]) (cs' := #[(Value.int .i64 r12.1.N), (Value.int .i64 r12.1.D)]) hI .z rfl rfl rfl rfl (ev_tmp rfl rfl) (ev_tmp rfl rfl) rfl size_27 rfl rfl rfl ?_
            clear hI; intro c16 w27 hI
            refine a_q rfl rfl rfl (fun w' => (y_assign rfl (ev_tmp rfl rfl))) ?_
            refine a_nil ?_
            refine k_next (e := [(6, (Value.pointer (some ⟨b2, 0, none⟩))), (16, (Value.pointer (some ⟨b7, 0, none⟩))), (17, (Value.int .i64 r10.2)), (18, (Value.pointer (some ⟨b8, 0, none⟩))), (19, (Value.int .i64 r12.2))]) ⟨rfl, rfl, rfl, rfl, rfl, trivial⟩ ?_
            refine c_seq ?_
            refine c_region rfl ?_
            refine s_q rfl rfl (y_loadN (l := [(Value.int .i64 r10.1.N), (Value.int .i64 r10.1.D)]) rfl (ev_tmp rfl rfl) Tryz.underlying27 rfl size_27 (CellsAt.of_blk (hI.blk (.s .z)) rfl)) ?_
            refine s_q rfl rfl (y_indexAddrA (v := (Value.pointer (some ⟨b2, 0, none⟩))) rfl (ev_tmp rfl rfl) ev_const (fun _ => by kernel_rfl)) ?_
            refine s_q rfl rfl (y_loadN (l := [(Value.int .i64 l1.e0.N), (Value.int .i64 l1.e0.D)]) rfl (ev_tmp rfl rfl) Tryz.underlying27 rfl size_27 (hI.kblk (l := [(Value.int .i64 l1.e0.N), (Value.int .i64 l1.e0.D)]) .z rfl).1) ?_
            refine s_q rfl rfl (y_bin rfl (ev_tmp rfl rfl) (ev_tmp rfl rfl) (eqstruct_27n ..) (eqguard_27 ..)) ?_
            refine s_q rfl rfl (y_move rfl (ev_tmp rfl rfl)) ?_
            refine s_gval (g_false rfl rfl rfl rfl) rfl (fun hc => (y_move rfl (ev_tmp rfl rfl))) ?_
            refine s_gval (g_false rfl rfl rfl rfl) rfl (fun hc => (y_neq rfl (ev_gv (ev_tmp rfl rfl) hc) ev_const)) ?_
            refine s_q rfl rfl (y_or rfl (ev_tmp rfl rfl) (ev_tmp rfl rfl)) ?_
            refine s_q rfl rfl (y_move rfl (ev_tmp rfl rfl)) ?_
            refine s_gval (g_false rfl rfl rfl rfl) rfl (fun hc => (y_loadN (l := [(Value.int .i64 r12.1.N), (Value.int .i64 r12.1.D)]) rfl (ev_tmp rfl rfl) Tryz.underlying27 rfl size_27 (CellsAt.of_blk (hI.blk .z) rfl))) ?_
            refine s_gval (g_false rfl rfl rfl rfl) rfl (fun hc => (y_indexAddrA (v := (Value.pointer (some ⟨b2, 0, none⟩))) rfl (ev_tmp rfl rfl) ev_const (fun _ => by kernel_rfl))) ?_
            refine s_gval (g_false rfl rfl rfl rfl) rfl (fun hc => (y_loadN (l := [(Value.int .i64 l1.e0.N), (Value.int .i64 l1.e0.D)]) rfl (ev_gv (ev_tmp rfl rfl) hc) Tryz.underlying27 rfl size_27 (hI.kblk (l := [(Value.int .i64 l1.e0.N), (Value.int .i64 l1.e0.D)]) .z rfl).1)) ?_
            refine s_gval (g_false rfl rfl rfl rfl) rfl (fun hc => (y_bin rfl (ev_gv (ev_tmp rfl rfl) hc) (ev_gv (ev_tmp rfl rfl) hc) (eqstruct_27n ..) (eqguard_27 ..))) ?_
            refine s_q rfl rfl (y_or rfl (ev_tmp rfl rfl) (ev_tmp rfl rfl)) ?_
            refine s_q rfl rfl (y_move rfl (ev_tmp rfl rfl)) ?_
            refine s_gval (g_false rfl rfl rfl rfl) rfl (fun hc => (y_move rfl (ev_tmp rfl rfl))) ?_
            refine s_gval (g_false rfl rfl rfl rfl) rfl (fun hc => (y_neq rfl (ev_gv (ev_tmp rfl rfl) hc) ev_const)) ?_
            refine s_q rfl rfl (y_or rfl (ev_tmp rfl rfl) (ev_tmp rfl rfl)) ?_
            refine s_nil ?_
            refine k_next (e := [(125, (Value.bool ((((!((decide (r10.1.N = l1.e0.N)) && (decide (r10.1.D = l1.e0.D)))) || (!decide (r10.2 = 0))) || (!((decide (r12.1.N = l1.e0.N)) && (decide (r12.1.D = l1.e0.D))))) || (!decide (r12.2 = 0)))))]) ⟨rfl, trivial⟩ ?_
            refine c_cond (b := (((!((decide (r10.1.N = l1.e0.N)) && (decide (r10.1.D = l1.e0.D)))) || (!decide (r10.2 = 0))) || (!((decide (r12.1.N = l1.e0.N)) && (decide (r12.1.D = l1.e0.D))))) || (!decide (r12.2 = 0))) (ev_tmp rfl rfl) (fun hb => ?_) (fun hb => ?_)
            · replace h := ite_t hb h
              refine c_seq ?_
              refine c_region rfl ?_
              refine s_q rfl rfl (y_assign rfl ev_const) ?_
              refine s_nil ?_
              refine k_next (e := [(8, (Value.bool false))]) ⟨rfl, trivial⟩ ?_
              refine c_ret ?_
              obtain rfl := some_inj h
              exact q_ret (vs := [(Value.bool false)]) Tryz.results5 ⟨ev_tmp rfl rfl, trivial⟩ ⟨rfl, hI.ext0, hI.fin trivial⟩
            · replace h := ite_f hb h
              refine c_skip ?_
              refine k_next (e := []) trivial ?_
              refine c_seq ?_
              refine c_region rfl ?_
              obtain ⟨r13, hx25, h⟩ := bnd_some h
              refine s_call rfl rfl (r_callF (vs := []) rfl ok_6 trivial) (Calls.mono (c_law04_examples (Dj F c16) w27 hI.lt ⟨(hI.get (.s (.s .z))), trivial⟩ r13 hx25) ?_)
              rintro _ w28 ⟨rfl, hx26, hl13⟩
              refine ⟨_, rfl, ?_⟩
              replace hI := (hI.ext hx26)
              refine s_q rfl rfl (y_assign rfl (ev_tmp rfl rfl)) ?_
              refine s_nil ?_
              refine k_next (e := [(8, (Value.bool r13))]) ⟨rfl, trivial⟩ ?_
              refine c_ret ?_
              obtain rfl := some_inj h
              exact q_ret (vs := [(Value.bool r13)]) Tryz.results5 ⟨ev_tmp rfl rfl, trivial⟩ ⟨rfl, hI.ext0, hI.fin trivial⟩
        · skip
          refine la_alloc (cs := #[(Value.int .i64 0), (Value.int .i64 0)]) hI rfl rfl rfl rfl zero_27 rfl ?_
          clear hI; intro b8 c15 w24 hI
          obtain ⟨r11, hx21, h⟩ := bnd_some h
          refine la_call rfl rfl rfl (r_callF (vs := [(Value.agg #[(Value.int .i64 types1.e0.Kind), (Value.int .i64 types1.e0.Bits), (Value.int .i64 types1.e0.Frac), (Value.int .i64 types1.e0.Round), (Value.int .i64 types1.e0.Over)]), (Value.agg #[(Value.int .i64 l1.e0.N), (Value.int .i64 l1.e0.D)])]) rfl ok_15 ⟨(ev_tmp rfl rfl), ⟨(ev_tmp rfl rfl), trivial⟩⟩) (Calls.mono (c_value_Format (Dj F c15) w24 hI.lt types1.e0 l1.e0 ⟨(hI.get (.s (.s .z))), trivial⟩ r11 hx21) ?_)
          rintro _ w25 ⟨rfl, hx22, hl11⟩
          refine ⟨_, rfl, hx22, ?_⟩
          replace hI := (hI.ext hx22)
          obtain ⟨r12, hx23, h⟩ := bnd_some h
          refine la_call rfl rfl rfl (r_callF (vs := [(Value.agg #[(Value.int .i64 types1.e0.Kind), (Value.int .i64 types1.e0.Bits), (Value.int .i64 types1.e0.Frac), (Value.int .i64 types1.e0.Round), (Value.int .i64 types1.e0.Over)]), (str r11)]) rfl ok_13 ⟨(ev_tmp rfl rfl), ⟨(ev_tmp rfl rfl), trivial⟩⟩) (Calls.mono (c_value_Parse (Dj F c15) w25 hI.lt types1.e0 r11 trivial r12 hx23) ?_)
          rintro _ w26 ⟨rfl, hx24, hl12⟩
          refine ⟨_, rfl, hx24, ?_⟩
          replace hI := (hI.ext hx24)
          refine a_q rfl rfl rfl (fun w' => (y_move rfl (ev_tmp rfl rfl))) ?_
          refine a_q rfl rfl rfl (fun w' => (y_extract rfl (ev_tmp rfl rfl) rfl)) ?_
          refine a_q rfl rfl rfl (fun w' => (y_extract rfl (ev_tmp rfl rfl) rfl)) ?_
          refine a_turn (F := F) (C := c15) rfl rfl ?_
          refine la_store (new := [(Value.int .i64 r12.1.N), (Value.int .i64 r12.1.D)]) (cs' := #[(Value.int .i64 r12.1.N), (Value.int .i64 r12.1.D)]) hI .z rfl rfl rfl rfl (ev_tmp rfl rfl) (ev_tmp rfl rfl) rfl size_27 rfl rfl rfl ?_
          clear hI; intro c16 w27 hI
          refine a_q rfl rfl rfl (fun w' => (y_assign rfl (ev_tmp rfl rfl))) ?_
          refine a_nil ?_
          refine k_next (e := [(6, (Value.pointer (some ⟨b2, 0, none⟩))), (16, (Value.pointer (some ⟨b7, 0, none⟩))), (17, (Value.int .i64 r10.2)), (18, (Value.pointer (some ⟨b8, 0, none⟩))), (19, (Value.int .i64 r12.2))]) ⟨rfl, rfl, rfl, rfl, rfl, trivial⟩ ?_
          refine c_seq ?_
          refine c_region rfl ?_
          refine s_q rfl rfl (y_loadN (l := [(Value.int .i64 r10.1.N), (Value.int .i64 r10.1.D)]) rfl (ev_tmp rfl rfl) Tryz.underlying27 rfl size_27 (CellsAt.of_blk (hI.blk (.s .z)) rfl)) ?_
          refine s_q rfl rfl (y_indexAddrA (v := (Value.pointer (some ⟨b2, 0, none⟩))) rfl (ev_tmp rfl rfl) ev_const (fun _ => by kernel_rfl)) ?_
          refine s_q rfl rfl (y_loadN (l := [(Value.int .i64 l1.e0.N), (Value.int .i64 l1.e0.D)]) rfl (ev_tmp rfl rfl) Tryz.underlying27 rfl size_27 (hI.kblk (l := [(Value.int .i64 l1.e0.N), (Value.int .i64 l1.e0.D)]) .z rfl).1) ?_
          refine s_q rfl rfl (y_bin rfl (ev_tmp rfl rfl) (ev_tmp rfl rfl) (eqstruct_27n ..) (eqguard_27 ..)) ?_
          refine s_q rfl rfl (y_move rfl (ev_tmp rfl rfl)) ?_
          refine s_gval (g_false rfl rfl rfl rfl) rfl (fun hc => (y_move rfl (ev_tmp rfl rfl))) ?_
          refine s_gval (g_false rfl rfl rfl rfl) rfl (fun hc => (y_neq rfl (ev_gv (ev_tmp rfl rfl) hc) ev_const)) ?_
          refine s_q rfl rfl (y_or rfl (ev_tmp rfl rfl) (ev_tmp rfl rfl)) ?_
          refine s_q rfl rfl (y_move rfl (ev_tmp rfl rfl)) ?_
          refine s_gval (g_false rfl rfl rfl rfl) rfl (fun hc => (y_loadN (l := [(Value.int .i64 r12.1.N), (Value.int .i64 r12.1.D)]) rfl (ev_tmp rfl rfl) Tryz.underlying27 rfl size_27 (CellsAt.of_blk (hI.blk .z) rfl))) ?_
          refine s_gval (g_false rfl rfl rfl rfl) rfl (fun hc => (y_indexAddrA (v := (Value.pointer (some ⟨b2, 0, none⟩))) rfl (ev_tmp rfl rfl) ev_const (fun _ => by kernel_rfl))) ?_
          refine s_gval (g_false rfl rfl rfl rfl) rfl (fun hc => (y_loadN (l := [(Value.int .i64 l1.e0.N), (Value.int .i64 l1.e0.D)]) rfl (ev_gv (ev_tmp rfl rfl) hc) Tryz.underlying27 rfl size_27 (hI.kblk (l := [(Value.int .i64 l1.e0.N), (Value.int .i64 l1.e0.D)]) .z rfl).1)) ?_
          refine s_gval (g_false rfl rfl rfl rfl) rfl (fun hc => (y_bin rfl (ev_gv (ev_tmp rfl rfl) hc) (ev_gv (ev_tmp rfl rfl) hc) (eqstruct_27n ..) (eqguard_27 ..))) ?_
          refine s_q rfl rfl (y_or rfl (ev_tmp rfl rfl) (ev_tmp rfl rfl)) ?_
          refine s_q rfl rfl (y_move rfl (ev_tmp rfl rfl)) ?_
          refine s_gval (g_false rfl rfl rfl rfl) rfl (fun hc => (y_move rfl (ev_tmp rfl rfl))) ?_
          refine s_gval (g_false rfl rfl rfl rfl) rfl (fun hc => (y_neq rfl (ev_gv (ev_tmp rfl rfl) hc) ev_const)) ?_
          refine s_q rfl rfl (y_or rfl (ev_tmp rfl rfl) (ev_tmp rfl rfl)) ?_
          refine s_nil ?_
          refine k_next (e := [(125, (Value.bool ((((!((decide (r10.1.N = l1.e0.N)) && (decide (r10.1.D = l1.e0.D)))) || (!decide (r10.2 = 0))) || (!((decide (r12.1.N = l1.e0.N)) && (decide (r12.1.D = l1.e0.D))))) || (!decide (r12.2 = 0)))))]) ⟨rfl, trivial⟩ ?_
          refine c_cond (b := (((!((decide (r10.1.N = l1.e0.N)) && (decide (r10.1.D = l1.e0.D)))) || (!decide (r10.2 = 0))) || (!((decide (r12.1.N = l1.e0.N)) && (decide (r12.1.D = l1.e0.D))))) || (!decide (r12.2 = 0))) (ev_tmp rfl rfl) (fun hb => ?_) (fun hb => ?_)
          · replace h := ite_t hb h
            refine c_seq ?_
            refine c_region rfl ?_
            refine s_q rfl rfl (y_assign rfl ev_const) ?_
            refine s_nil ?_
            refine k_next (e := [(8, (Value.bool false))]) ⟨rfl, trivial⟩ ?_
            refine c_ret ?_
            obtain rfl := some_inj h
            exact q_ret (vs := [(Value.bool false)]) Tryz.results5 ⟨ev_tmp rfl rfl, trivial⟩ ⟨rfl, hI.ext0, hI.fin trivial⟩
          · replace h := ite_f hb h
            refine c_skip ?_
            refine k_next (e := []) trivial ?_
            refine c_seq ?_
            refine c_region rfl ?_
            obtain ⟨r13, hx25, h⟩ := bnd_some h
            refine s_call rfl rfl (r_callF (vs := []) rfl ok_6 trivial) (Calls.mono (c_law04_examples (Dj F c16) w27 hI.lt ⟨(hI.get (.s (.s .z))), trivial⟩ r13 hx25) ?_)
            rintro _ w28 ⟨rfl, hx26, hl13⟩
            refine ⟨_, rfl, ?_⟩
            replace hI := (hI.ext hx26)
            refine s_q rfl rfl (y_assign rfl (ev_tmp rfl rfl)) ?_
            refine s_nil ?_
            refine k_next (e := [(8, (Value.bool r13))]) ⟨rfl, trivial⟩ ?_
            refine c_ret ?_
            obtain rfl := some_inj h
            exact q_ret (vs := [(Value.bool r13)]) Tryz.results5 ⟨ev_tmp rfl rfl, trivial⟩ ⟨rfl, hI.ext0, hI.fin trivial⟩
      · replace h := ite_f hb h
        refine c_skip ?_
        refine k_next (e := []) trivial ?_
        refine c_seq ?_
        refine c_region rfl ?_
        obtain ⟨r14, hx27, h⟩ := bnd_some h
        refine s_call rfl rfl (r_callF (vs := []) rfl ok_6 trivial) (Calls.mono (c_law04_examples (Dj F c12) w19 hI.lt ⟨(hI.get (.s (.s .z))), trivial⟩ r14 hx27) ?_)
        rintro _ w29 ⟨rfl, hx28, hl14⟩
        refine ⟨_, rfl, ?_⟩
        replace hI := (hI.ext hx28)
        refine s_q rfl rfl (y_assign rfl (ev_tmp rfl rfl)) ?_
        refine s_nil ?_
        refine k_next (e := [(8, (Value.bool r14))]) ⟨rfl, trivial⟩ ?_
        refine c_ret ?_
        obtain rfl := some_inj h
        exact q_ret (vs := [(Value.bool r14)]) Tryz.results5 ⟨ev_tmp rfl rfl, trivial⟩ ⟨rfl, hI.ext0, hI.fin trivial⟩

end Go.Proofs.YtpfapgamjlhebaaGreatDoor
