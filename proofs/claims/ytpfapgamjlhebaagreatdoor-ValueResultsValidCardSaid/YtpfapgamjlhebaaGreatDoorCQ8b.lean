/- Each call returns what its plain function gives: printed by a program of my own; Lean checks it. -/
import Derived.Test.YtpfapgamjlhebaaGreatDoorCQ8a
namespace Go.Proofs.YtpfapgamjlhebaaGreatDoor
open Go Go.RowKit Go.Vc
set_option linter.unusedVariables false
set_option linter.unusedSimpArgs false

set_option maxRecDepth 100000 in
set_option maxHeartbeats 4000000 in
theorem c_frac_Mul (F : NP) (w0 : World) (hF : ∀ k, F k → k < w0.heap.size) (a1 : GVal) (b1 : GVal) (hc : AllCl [] F w0) (r : GVal × Int)
    (h : m_frac_Mul a1 b1 = some r) :
    Calls Tryz.prog 81 #[(Value.agg #[(Value.int .i64 a1.N), (Value.int .i64 a1.D)]), (Value.agg #[(Value.int .i64 b1.N), (Value.int .i64 b1.D)])] w0 fun e w => e = .returned (Value.tuple #[(Value.agg #[(Value.int .i64 r.1.N), (Value.int .i64 r.1.D)]), (Value.int .i64 r.2)]) ∧ Ext w0 w ∧ AllCl [] F w := by
  refine ofEnter (R := fun v w => v = (Value.tuple #[(Value.agg #[(Value.int .i64 r.1.N), (Value.int .i64 r.1.D)]), (Value.int .i64 r.2)]) ∧ Ext w0 w ∧ AllCl [] F w) (enter (l := [(Value.agg #[(Value.int .i64 a1.N), (Value.int .i64 a1.D)]), (Value.agg #[(Value.int .i64 b1.N), (Value.int .i64 b1.D)])]) Tryz.func81 rfl Tryz.ntmps81 rfl ?_) ?_
  rotate_left
  · rintro _ w ⟨rfl, k1, k2⟩; exact ⟨rfl, k1, k2⟩
  have hI := Bun.start hF hc
  clear hc
  rw [m_frac_Mul] at h
  refine c_seq ?_
  refine c_region rfl ?_
  refine l_box (v := (Value.agg #[(Value.int .i64 a1.N), (Value.int .i64 a1.D)])) (cs := #[(Value.int .i64 a1.N), (Value.int .i64 a1.D)]) hI rfl rfl rfl (ev_tmp rfl rfl) rfl ?_
  clear hI; intro b2 c1 w1 hI
  obtain ⟨c2, hI⟩ := hI.relBox .z
  refine l_box (v := (Value.agg #[(Value.int .i64 b1.N), (Value.int .i64 b1.D)])) (cs := #[(Value.int .i64 b1.N), (Value.int .i64 b1.D)]) hI rfl rfl rfl (ev_tmp rfl rfl) rfl ?_
  clear hI; intro b3 c3 w2 hI
  obtain ⟨c4, hI⟩ := hI.relBox .z
  refine l_alloc (cs := #[(Value.int .i64 0), (Value.int .i64 0)]) hI rfl rfl rfl zero_27 rfl ?_
  clear hI; intro b4 c5 w3 hI
  refine s_q rfl rfl (y_assign rfl ev_const) ?_
  refine s_nil ?_
  refine k_next (e := [(2, (Value.pointer (some ⟨b2, 0, none⟩))), (3, (Value.pointer (some ⟨b3, 0, none⟩))), (4, (Value.pointer (some ⟨b4, 0, none⟩)))]) ⟨rfl, rfl, rfl, trivial⟩ ?_
  refine c_seq ?_
  refine c_seq ?_
  refine c_region rfl ?_
  refine s_q rfl rfl (y_loadN (l := [(Value.int .i64 a1.N), (Value.int .i64 a1.D)]) rfl (ev_tmp rfl rfl) Tryz.underlying27 rfl size_27 (hI.kblk (l := [(Value.int .i64 a1.N), (Value.int .i64 a1.D)]) (.s .z) rfl).1) ?_
  obtain ⟨r1, hx1, h⟩ := bnd_some h
  refine s_call rfl rfl (r_callF (vs := [(Value.agg #[(Value.int .i64 a1.N), (Value.int .i64 a1.D)])]) rfl ok_45 ⟨(ev_tmp rfl rfl), trivial⟩) (Calls.mono (c_frac_Valid (Dj F c5) w3 hI.lt a1 trivial r1 hx1) ?_)
  rintro _ w4 ⟨rfl, hx2, hl1⟩
  refine ⟨_, rfl, ?_⟩
  replace hI := (hI.ext hx2)
  refine s_q rfl rfl (y_not rfl (ev_tmp rfl rfl)) ?_
  refine s_q rfl rfl (y_move rfl (ev_tmp rfl rfl)) ?_
  refine s_gval (g_false rfl rfl rfl rfl) rfl (fun hc => (y_loadN (l := [(Value.int .i64 b1.N), (Value.int .i64 b1.D)]) rfl (ev_tmp rfl rfl) Tryz.underlying27 rfl size_27 (hI.kblk (l := [(Value.int .i64 b1.N), (Value.int .i64 b1.D)]) .z rfl).1)) ?_
  obtain ⟨r2, hx3, h⟩ := bnd_some h
  replace hx3 := gd_some hx3
  refine s_gcallU (v := (Value.bool r2)) (g_false rfl rfl rfl rfl) rfl (fun hc => (r_callF (vs := [(Value.agg #[(Value.int .i64 b1.N), (Value.int .i64 b1.D)])]) rfl ok_45 ⟨(ev_gv (ev_tmp rfl rfl) hc), trivial⟩)) (fun hc => (c_frac_Valid (Dj F c5) w4 hI.lt b1 trivial r2 (hx3 hc)).mono fun _ _ k => ⟨k.1, k.2.1⟩) ?_
  intro w5 hx4; replace hI := hI.ext hx4
  refine s_gval (g_false rfl rfl rfl rfl) rfl (fun hc => (y_not rfl (ev_gv (ev_tmp rfl rfl) hc))) ?_
  refine s_q rfl rfl (y_or rfl (ev_tmp rfl rfl) (ev_tmp rfl rfl)) ?_
  refine s_nil ?_
  refine k_next (e := [(2, (Value.pointer (some ⟨b2, 0, none⟩))), (3, (Value.pointer (some ⟨b3, 0, none⟩))), (4, (Value.pointer (some ⟨b4, 0, none⟩))), (13, (Value.bool ((!r1) || (!r2))))]) ⟨rfl, rfl, rfl, rfl, trivial⟩ ?_
  refine c_cond (b := (!r1) || (!r2)) (ev_tmp rfl rfl) (fun hb => ?_) (fun hb => ?_)
  · replace h := ite_t hb h
    refine c_seq ?_
    refine c_region rfl ?_
    refine s_q rfl rfl (y_build (vs := []) (cs := #[(Value.int .i64 0), (Value.int .i64 0)]) rfl trivial (by kernel_rfl)) ?_
    refine l_store (new := [(Value.int .i64 0), (Value.int .i64 0)]) (cs' := #[(Value.int .i64 0), (Value.int .i64 0)]) hI .z rfl rfl rfl (ev_tmp rfl rfl) (ev_tmp rfl rfl) rfl size_27 rfl rfl rfl ?_
    clear hI; intro c6 w6 hI
    refine s_q rfl rfl (y_assign rfl ev_const) ?_
    refine s_nil ?_
    refine k_next (e := [(4, (Value.pointer (some ⟨b4, 0, none⟩))), (5, (Value.int .i64 1))]) ⟨rfl, rfl, trivial⟩ ?_
    refine c_ret ?_
    obtain rfl := some_inj h
    exact q_ret (vs := [(Value.agg #[(Value.int .i64 0), (Value.int .i64 0)]), (Value.int .i64 1)]) Tryz.results81 ⟨⟨_, ev_tmp rfl rfl, load_agg (l := [(Value.int .i64 0), (Value.int .i64 0)]) Tryz.underlying27 rfl size_27 (CellsAt.of_blk (hI.blk .z) rfl)⟩, ⟨ev_tmp rfl rfl, trivial⟩⟩ ⟨rfl, hI.ext0, hI.fin trivial⟩
  · replace h := ite_f hb h
    refine c_skip ?_
    refine k_next (e := [(2, (Value.pointer (some ⟨b2, 0, none⟩))), (3, (Value.pointer (some ⟨b3, 0, none⟩))), (4, (Value.pointer (some ⟨b4, 0, none⟩)))]) ⟨rfl, rfl, rfl, trivial⟩ ?_
    refine c_seq ?_
    refine c_region rfl ?_
    refine s_q rfl rfl (y_fieldAddr rfl (ev_tmp rfl rfl) Tryz.underlying27 rfl size_2 rfl) ?_
    refine s_q rfl rfl (y_load1 (v := (Value.int .i64 a1.N)) rfl (ev_tmp rfl rfl) Tryz.underlying2 rfl (hI.kblk (l := [(Value.int .i64 a1.N)]) (.s .z) rfl).1) ?_
    refine s_q rfl rfl (y_fieldAddr rfl (ev_tmp rfl rfl) Tryz.underlying27 rfl size_2 rfl) ?_
    refine s_q rfl rfl (y_load1 (v := (Value.int .i64 b1.N)) rfl (ev_tmp rfl rfl) Tryz.underlying2 rfl (hI.kblk (l := [(Value.int .i64 b1.N)]) .z rfl).1) ?_
    refine s_q rfl rfl (y_mul rfl (ev_tmp rfl rfl) (ev_tmp rfl rfl)) ?_
    refine s_q rfl rfl (y_fieldAddr rfl (ev_tmp rfl rfl) Tryz.underlying27 rfl size_2 rfl) ?_
    refine s_q rfl rfl (y_load1 (v := (Value.int .i64 a1.D)) rfl (ev_tmp rfl rfl) Tryz.underlying2 rfl (hI.kblk (l := [(Value.int .i64 a1.D)]) (.s .z) rfl).1) ?_
    refine s_q rfl rfl (y_fieldAddr rfl (ev_tmp rfl rfl) Tryz.underlying27 rfl size_2 rfl) ?_
    refine s_q rfl rfl (y_load1 (v := (Value.int .i64 b1.D)) rfl (ev_tmp rfl rfl) Tryz.underlying2 rfl (hI.kblk (l := [(Value.int .i64 b1.D)]) .z rfl).1) ?_
    refine s_q rfl rfl (y_mul rfl (ev_tmp rfl rfl) (ev_tmp rfl rfl)) ?_
    obtain ⟨r3, hx5, h⟩ := bnd_some h
    refine s_call rfl rfl (r_callF (vs := [(Value.int .i64 (wi64 (a1.N * b1.N))), (Value.int .i64 (wi64 (a1.D * b1.D)))]) rfl ok_98 ⟨(ev_tmp rfl rfl), ⟨(ev_tmp rfl rfl), trivial⟩⟩) (Calls.mono (c_frac_New (Dj F c5) w5 hI.lt (wi64 (a1.N * b1.N)) (wi64 (a1.D * b1.D)) trivial r3 hx5) ?_)
    rintro _ w7 ⟨rfl, hx6, hl3⟩
    refine ⟨_, rfl, ?_⟩
    replace hI := (hI.ext hx6)
    refine s_q rfl rfl (y_extract rfl (ev_tmp rfl rfl) rfl) ?_
    refine s_q rfl rfl (y_extract rfl (ev_tmp rfl rfl) rfl) ?_
    refine l_store (new := [(Value.int .i64 r3.1.N), (Value.int .i64 r3.1.D)]) (cs' := #[(Value.int .i64 r3.1.N), (Value.int .i64 r3.1.D)]) hI .z rfl rfl rfl (ev_tmp rfl rfl) (ev_tmp rfl rfl) rfl size_27 rfl rfl rfl ?_
    clear hI; intro c7 w8 hI
    refine s_q rfl rfl (y_assign rfl (ev_tmp rfl rfl)) ?_
    refine s_nil ?_
    refine k_next (e := [(4, (Value.pointer (some ⟨b4, 0, none⟩))), (5, (Value.int .i64 r3.2))]) ⟨rfl, rfl, trivial⟩ ?_
    refine c_ret ?_
    obtain rfl := some_inj h
    exact q_ret (vs := [(Value.agg #[(Value.int .i64 r3.1.N), (Value.int .i64 r3.1.D)]), (Value.int .i64 r3.2)]) Tryz.results81 ⟨⟨_, ev_tmp rfl rfl, load_agg (l := [(Value.int .i64 r3.1.N), (Value.int .i64 r3.1.D)]) Tryz.underlying27 rfl size_27 (CellsAt.of_blk (hI.blk .z) rfl)⟩, ⟨ev_tmp rfl rfl, trivial⟩⟩ ⟨rfl, hI.ext0, hI.fin trivial⟩

set_option maxRecDepth 100000 in
set_option maxHeartbeats 4000000 in
theorem c_frac_Div (F : NP) (w0 : World) (hF : ∀ k, F k → k < w0.heap.size) (a1 : GVal) (b1 : GVal) (hc : AllCl [] F w0) (r : GVal × Int)
    (h : m_frac_Div a1 b1 = some r) :
    Calls Tryz.prog 82 #[(Value.agg #[(Value.int .i64 a1.N), (Value.int .i64 a1.D)]), (Value.agg #[(Value.int .i64 b1.N), (Value.int .i64 b1.D)])] w0 fun e w => e = .returned (Value.tuple #[(Value.agg #[(Value.int .i64 r.1.N), (Value.int .i64 r.1.D)]), (Value.int .i64 r.2)]) ∧ Ext w0 w ∧ AllCl [] F w := by
  refine ofEnter (R := fun v w => v = (Value.tuple #[(Value.agg #[(Value.int .i64 r.1.N), (Value.int .i64 r.1.D)]), (Value.int .i64 r.2)]) ∧ Ext w0 w ∧ AllCl [] F w) (enter (l := [(Value.agg #[(Value.int .i64 a1.N), (Value.int .i64 a1.D)]), (Value.agg #[(Value.int .i64 b1.N), (Value.int .i64 b1.D)])]) Tryz.func82 rfl Tryz.ntmps82 rfl ?_) ?_
  rotate_left
  · rintro _ w ⟨rfl, k1, k2⟩; exact ⟨rfl, k1, k2⟩
  have hI := Bun.start hF hc
  clear hc
  rw [m_frac_Div] at h
  refine c_seq ?_
  refine c_region rfl ?_
  refine l_box (v := (Value.agg #[(Value.int .i64 a1.N), (Value.int .i64 a1.D)])) (cs := #[(Value.int .i64 a1.N), (Value.int .i64 a1.D)]) hI rfl rfl rfl (ev_tmp rfl rfl) rfl ?_
  clear hI; intro b2 c1 w1 hI
  obtain ⟨c2, hI⟩ := hI.relBox .z
  refine l_box (v := (Value.agg #[(Value.int .i64 b1.N), (Value.int .i64 b1.D)])) (cs := #[(Value.int .i64 b1.N), (Value.int .i64 b1.D)]) hI rfl rfl rfl (ev_tmp rfl rfl) rfl ?_
  clear hI; intro b3 c3 w2 hI
  obtain ⟨c4, hI⟩ := hI.relBox .z
  refine l_alloc (cs := #[(Value.int .i64 0), (Value.int .i64 0)]) hI rfl rfl rfl zero_27 rfl ?_
  clear hI; intro b4 c5 w3 hI
  refine s_q rfl rfl (y_assign rfl ev_const) ?_
  refine s_nil ?_
  refine k_next (e := [(2, (Value.pointer (some ⟨b2, 0, none⟩))), (3, (Value.pointer (some ⟨b3, 0, none⟩))), (4, (Value.pointer (some ⟨b4, 0, none⟩)))]) ⟨rfl, rfl, rfl, trivial⟩ ?_
  refine c_seq ?_
  refine c_seq ?_
  refine c_region rfl ?_
  refine s_q rfl rfl (y_loadN (l := [(Value.int .i64 a1.N), (Value.int .i64 a1.D)]) rfl (ev_tmp rfl rfl) Tryz.underlying27 rfl size_27 (hI.kblk (l := [(Value.int .i64 a1.N), (Value.int .i64 a1.D)]) (.s .z) rfl).1) ?_
  obtain ⟨r1, hx1, h⟩ := bnd_some h
  refine s_call rfl rfl (r_callF (vs := [(Value.agg #[(Value.int .i64 a1.N), (Value.int .i64 a1.D)])]) rfl ok_45 ⟨(ev_tmp rfl rfl), trivial⟩) (Calls.mono (c_frac_Valid (Dj F c5) w3 hI.lt a1 trivial r1 hx1) ?_)
  rintro _ w4 ⟨rfl, hx2, hl1⟩
  refine ⟨_, rfl, ?_⟩
  replace hI := (hI.ext hx2)
  refine s_q rfl rfl (y_not rfl (ev_tmp rfl rfl)) ?_
  refine s_q rfl rfl (y_move rfl (ev_tmp rfl rfl)) ?_
  refine s_gval (g_false rfl rfl rfl rfl) rfl (fun hc => (y_loadN (l := [(Value.int .i64 b1.N), (Value.int .i64 b1.D)]) rfl (ev_tmp rfl rfl) Tryz.underlying27 rfl size_27 (hI.kblk (l := [(Value.int .i64 b1.N), (Value.int .i64 b1.D)]) .z rfl).1)) ?_
  obtain ⟨r2, hx3, h⟩ := bnd_some h
  replace hx3 := gd_some hx3
  refine s_gcallU (v := (Value.bool r2)) (g_false rfl rfl rfl rfl) rfl (fun hc => (r_callF (vs := [(Value.agg #[(Value.int .i64 b1.N), (Value.int .i64 b1.D)])]) rfl ok_45 ⟨(ev_gv (ev_tmp rfl rfl) hc), trivial⟩)) (fun hc => (c_frac_Valid (Dj F c5) w4 hI.lt b1 trivial r2 (hx3 hc)).mono fun _ _ k => ⟨k.1, k.2.1⟩) ?_
  intro w5 hx4; replace hI := hI.ext hx4
  refine s_gval (g_false rfl rfl rfl rfl) rfl (fun hc => (y_not rfl (ev_gv (ev_tmp rfl rfl) hc))) ?_
  refine s_q rfl rfl (y_or rfl (ev_tmp rfl rfl) (ev_tmp rfl rfl)) ?_
  refine s_nil ?_
  refine k_next (e := [(2, (Value.pointer (some ⟨b2, 0, none⟩))), (3, (Value.pointer (some ⟨b3, 0, none⟩))), (4, (Value.pointer (some ⟨b4, 0, none⟩))), (13, (Value.bool ((!r1) || (!r2))))]) ⟨rfl, rfl, rfl, rfl, trivial⟩ ?_
  refine c_cond (b := (!r1) || (!r2)) (ev_tmp rfl rfl) (fun hb => ?_) (fun hb => ?_)
  · replace h := ite_t hb h
    refine c_seq ?_
    refine c_region rfl ?_
    refine s_q rfl rfl (y_build (vs := []) (cs := #[(Value.int .i64 0), (Value.int .i64 0)]) rfl trivial (by kernel_rfl)) ?_
    refine l_store (new := [(Value.int .i64 0), (Value.int .i64 0)]) (cs' := #[(Value.int .i64 0), (Value.int .i64 0)]) hI .z rfl rfl rfl (ev_tmp rfl rfl) (ev_tmp rfl rfl) rfl size_27 rfl rfl rfl ?_
    clear hI; intro c6 w6 hI
    refine s_q rfl rfl (y_assign rfl ev_const) ?_
    refine s_nil ?_
    refine k_next (e := [(4, (Value.pointer (some ⟨b4, 0, none⟩))), (5, (Value.int .i64 1))]) ⟨rfl, rfl, trivial⟩ ?_
    refine c_ret ?_
    obtain rfl := some_inj h
    exact q_ret (vs := [(Value.agg #[(Value.int .i64 0), (Value.int .i64 0)]), (Value.int .i64 1)]) Tryz.results82 ⟨⟨_, ev_tmp rfl rfl, load_agg (l := [(Value.int .i64 0), (Value.int .i64 0)]) Tryz.underlying27 rfl size_27 (CellsAt.of_blk (hI.blk .z) rfl)⟩, ⟨ev_tmp rfl rfl, trivial⟩⟩ ⟨rfl, hI.ext0, hI.fin trivial⟩
  · replace h := ite_f hb h
    refine c_skip ?_
    refine k_next (e := [(2, (Value.pointer (some ⟨b2, 0, none⟩))), (3, (Value.pointer (some ⟨b3, 0, none⟩))), (4, (Value.pointer (some ⟨b4, 0, none⟩)))]) ⟨rfl, rfl, rfl, trivial⟩ ?_
    refine c_seq ?_
    refine c_region rfl ?_
    refine s_q rfl rfl (y_fieldAddr rfl (ev_tmp rfl rfl) Tryz.underlying27 rfl size_2 rfl) ?_
    refine s_q rfl rfl (y_load1 (v := (Value.int .i64 a1.N)) rfl (ev_tmp rfl rfl) Tryz.underlying2 rfl (hI.kblk (l := [(Value.int .i64 a1.N)]) (.s .z) rfl).1) ?_
    refine s_q rfl rfl (y_fieldAddr rfl (ev_tmp rfl rfl) Tryz.underlying27 rfl size_2 rfl) ?_
    refine s_q rfl rfl (y_load1 (v := (Value.int .i64 b1.D)) rfl (ev_tmp rfl rfl) Tryz.underlying2 rfl (hI.kblk (l := [(Value.int .i64 b1.D)]) .z rfl).1) ?_
    refine s_q rfl rfl (y_mul rfl (ev_tmp rfl rfl) (ev_tmp rfl rfl)) ?_
    refine s_q rfl rfl (y_fieldAddr rfl (ev_tmp rfl rfl) Tryz.underlying27 rfl size_2 rfl) ?_
    refine s_q rfl rfl (y_load1 (v := (Value.int .i64 a1.D)) rfl (ev_tmp rfl rfl) Tryz.underlying2 rfl (hI.kblk (l := [(Value.int .i64 a1.D)]) (.s .z) rfl).1) ?_
    refine s_q rfl rfl (y_fieldAddr rfl (ev_tmp rfl rfl) Tryz.underlying27 rfl size_2 rfl) ?_
    refine s_q rfl rfl (y_load1 (v := (Value.int .i64 b1.N)) rfl (ev_tmp rfl rfl) Tryz.underlying2 rfl (hI.kblk (l := [(Value.int .i64 b1.N)]) .z rfl).1) ?_
    refine s_q rfl rfl (y_mul rfl (ev_tmp rfl rfl) (ev_tmp rfl rfl)) ?_
    obtain ⟨r3, hx5, h⟩ := bnd_some h
    refine s_call rfl rfl (r_callF (vs := [(Value.int .i64 (wi64 (a1.N * b1.D))), (Value.int .i64 (wi64 (a1.D * b1.N)))]) rfl ok_98 ⟨(ev_tmp rfl rfl), ⟨(ev_tmp rfl rfl), trivial⟩⟩) (Calls.mono (c_frac_New (Dj F c5) w5 hI.lt (wi64 (a1.N * b1.D)) (wi64 (a1.D * b1.N)) trivial r3 hx5) ?_)
    rintro _ w7 ⟨rfl, hx6, hl3⟩
    refine ⟨_, rfl, ?_⟩
    replace hI := (hI.ext hx6)
    refine s_q rfl rfl (y_extract rfl (ev_tmp rfl rfl) rfl) ?_
    refine s_q rfl rfl (y_extract rfl (ev_tmp rfl rfl) rfl) ?_
    refine l_store (new := [(Value.int .i64 r3.1.N), (Value.int .i64 r3.1.D)]) (cs' := #[(Value.int .i64 r3.1.N), (Value.int .i64 r3.1.D)]) hI .z rfl rfl rfl (ev_tmp rfl rfl) (ev_tmp rfl rfl) rfl size_27 rfl rfl rfl ?_
    clear hI; intro c7 w8 hI
    refine s_q rfl rfl (y_assign rfl (ev_tmp rfl rfl)) ?_
    refine s_nil ?_
    refine k_next (e := [(4, (Value.pointer (some ⟨b4, 0, none⟩))), (5, (Value.int .i64 r3.2))]) ⟨rfl, rfl, trivial⟩ ?_
    refine c_ret ?_
    obtain rfl := some_inj h
    exact q_ret (vs := [(Value.agg #[(Value.int .i64 r3.1.N), (Value.int .i64 r3.1.D)]), (Value.int .i64 r3.2)]) Tryz.results82 ⟨⟨_, ev_tmp rfl rfl, load_agg (l := [(Value.int .i64 r3.1.N), (Value.int .i64 r3.1.D)]) Tryz.underlying27 rfl size_27 (CellsAt.of_blk (hI.blk .z) rfl)⟩, ⟨ev_tmp rfl rfl, trivial⟩⟩ ⟨rfl, hI.ext0, hI.fin trivial⟩

set_option maxRecDepth 100000 in
set_option maxHeartbeats 4000000 in
theorem c_value_arithmetic (F : NP) (w0 : World) (hF : ∀ k, F k → k < w0.heap.size) (op1 : Int) (t1 : GType) (a1 : GVal) (b1 : GVal) (hc : AllCl [] F w0) (r : GVal × Int)
    (h : m_value_arithmetic op1 t1 a1 b1 = some r) :
    Calls Tryz.prog 41 #[(Value.int .i64 op1), (Value.agg #[(Value.int .i64 t1.Kind), (Value.int .i64 t1.Bits), (Value.int .i64 t1.Frac), (Value.int .i64 t1.Round), (Value.int .i64 t1.Over)]), (Value.agg #[(Value.int .i64 a1.N), (Value.int .i64 a1.D)]), (Value.agg #[(Value.int .i64 b1.N), (Value.int .i64 b1.D)])] w0 fun e w => e = .returned (Value.tuple #[(Value.agg #[(Value.int .i64 r.1.N), (Value.int .i64 r.1.D)]), (Value.int .i64 r.2)]) ∧ Ext w0 w ∧ AllCl [] F w := by
  refine ofEnter (R := fun v w => v = (Value.tuple #[(Value.agg #[(Value.int .i64 r.1.N), (Value.int .i64 r.1.D)]), (Value.int .i64 r.2)]) ∧ Ext w0 w ∧ AllCl [] F w) (enter (l := [(Value.int .i64 op1), (Value.agg #[(Value.int .i64 t1.Kind), (Value.int .i64 t1.Bits), (Value.int .i64 t1.Frac), (Value.int .i64 t1.Round), (Value.int .i64 t1.Over)]), (Value.agg #[(Value.int .i64 a1.N), (Value.int .i64 a1.D)]), (Value.agg #[(Value.int .i64 b1.N), (Value.int .i64 b1.D)])]) Tryz.func41 rfl Tryz.ntmps41 rfl ?_) ?_
  rotate_left
  · rintro _ w ⟨rfl, k1, k2⟩; exact ⟨rfl, k1, k2⟩
  have hI := Bun.start hF hc
  clear hc
  rw [m_value_arithmetic] at h
  refine c_seq ?_
  refine c_region rfl ?_
  refine l_box (v := (Value.agg #[(Value.int .i64 t1.Kind), (Value.int .i64 t1.Bits), (Value.int .i64 t1.Frac), (Value.int .i64 t1.Round), (Value.int .i64 t1.Over)])) (cs := #[(Value.int .i64 t1.Kind), (Value.int .i64 t1.Bits), (Value.int .i64 t1.Frac), (Value.int .i64 t1.Round), (Value.int .i64 t1.Over)]) hI rfl rfl rfl (ev_tmp rfl rfl) rfl ?_
  clear hI; intro b2 c1 w1 hI
  obtain ⟨c2, hI⟩ := hI.relBox .z
  refine l_box (v := (Value.agg #[(Value.int .i64 a1.N), (Value.int .i64 a1.D)])) (cs := #[(Value.int .i64 a1.N), (Value.int .i64 a1.D)]) hI rfl rfl rfl (ev_tmp rfl rfl) rfl ?_
  clear hI; intro b3 c3 w2 hI
  obtain ⟨c4, hI⟩ := hI.relBox .z
  refine l_box (v := (Value.agg #[(Value.int .i64 b1.N), (Value.int .i64 b1.D)])) (cs := #[(Value.int .i64 b1.N), (Value.int .i64 b1.D)]) hI rfl rfl rfl (ev_tmp rfl rfl) rfl ?_
  clear hI; intro b4 c5 w3 hI
  obtain ⟨c6, hI⟩ := hI.relBox .z
  refine l_alloc (cs := #[(Value.int .i64 0), (Value.int .i64 0)]) hI rfl rfl rfl zero_27 rfl ?_
  clear hI; intro b5 c7 w4 hI
  refine s_q rfl rfl (y_assign rfl ev_const) ?_
  refine s_nil ?_
  refine k_next (e := [(0, (Value.int .i64 op1)), (5, (Value.pointer (some ⟨b2, 0, none⟩))), (6, (Value.pointer (some ⟨b3, 0, none⟩))), (7, (Value.pointer (some ⟨b4, 0, none⟩))), (8, (Value.pointer (some ⟨b5, 0, none⟩)))]) ⟨rfl, rfl, rfl, rfl, rfl, trivial⟩ ?_
  refine c_seq ?_
  refine c_region rfl ?_
  refine s_q rfl rfl (y_fieldAddr rfl (ev_tmp rfl rfl) Tryz.underlying23 rfl size_3 rfl) ?_
  refine s_q rfl rfl (y_load1 (v := (Value.int .i64 t1.Kind)) rfl (ev_tmp rfl rfl) Tryz.underlying3 rfl (hI.kblk (l := [(Value.int .i64 t1.Kind)]) (.s (.s .z)) rfl).1) ?_
  refine s_q rfl rfl (y_eql rfl (ev_tmp rfl rfl) ev_const) ?_
  refine s_q rfl rfl (y_assign rfl (ev_tmp rfl rfl)) ?_
  refine s_nil ?_
  refine k_next (e := [(0, (Value.int .i64 op1)), (5, (Value.pointer (some ⟨b2, 0, none⟩))), (6, (Value.pointer (some ⟨b3, 0, none⟩))), (7, (Value.pointer (some ⟨b4, 0, none⟩))), (8, (Value.pointer (some ⟨b5, 0, none⟩))), (10, (Value.bool (decide (t1.Kind = 2))))]) ⟨rfl, rfl, rfl, rfl, rfl, rfl, trivial⟩ ?_
  refine c_seq ?_
  refine c_block ?_
  refine c_seq ?_
  refine c_region rfl ?_
  refine s_q rfl rfl (y_fieldAddr rfl (ev_tmp rfl rfl) Tryz.underlying23 rfl size_3 rfl) ?_
  refine s_q rfl rfl (y_load1 (v := (Value.int .i64 t1.Kind)) rfl (ev_tmp rfl rfl) Tryz.underlying3 rfl (hI.kblk (l := [(Value.int .i64 t1.Kind)]) (.s (.s .z)) rfl).1) ?_
  refine s_q rfl rfl (y_eql rfl (ev_tmp rfl rfl) ev_const) ?_
  refine s_q rfl rfl (y_assign rfl (ev_tmp rfl rfl)) ?_
  refine s_nil ?_
  refine k_next (e := [(0, (Value.int .i64 op1)), (5, (Value.pointer (some ⟨b2, 0, none⟩))), (6, (Value.pointer (some ⟨b3, 0, none⟩))), (7, (Value.pointer (some ⟨b4, 0, none⟩))), (8, (Value.pointer (some ⟨b5, 0, none⟩))), (10, (Value.bool (decide (t1.Kind = 2)))), (14, (Value.bool (decide (t1.Kind = 3))))]) ⟨rfl, rfl, rfl, rfl, rfl, rfl, rfl, trivial⟩ ?_
  refine c_cond (b := decide (t1.Kind = 3)) (ev_tmp rfl rfl) (fun hb => ?_) (fun hb => ?_)
  · replace h := ite_t hb h
    refine c_seq ?_
    refine c_region rfl ?_
    refine s_q rfl rfl (y_move rfl (ev_tmp rfl rfl)) ?_
    refine s_q rfl rfl (y_fieldAddr rfl (ev_tmp rfl rfl) Tryz.underlying27 rfl size_2 rfl) ?_
    refine s_q rfl rfl (y_load1 (v := (Value.int .i64 a1.N)) rfl (ev_tmp rfl rfl) Tryz.underlying2 rfl (hI.kblk (l := [(Value.int .i64 a1.N)]) (.s .z) rfl).1) ?_
    refine s_q rfl rfl (y_fieldAddr rfl (ev_tmp rfl rfl) Tryz.underlying27 rfl size_2 rfl) ?_
    refine s_q rfl rfl (y_load1 (v := (Value.int .i64 b1.N)) rfl (ev_tmp rfl rfl) Tryz.underlying2 rfl (hI.kblk (l := [(Value.int .i64 b1.N)]) .z rfl).1) ?_
    obtain ⟨r1, hx1, h⟩ := bnd_some h
    refine s_call rfl rfl (r_callF (vs := [(Value.int .i64 op1), (Value.int .i64 a1.N), (Value.int .i64 b1.N)]) rfl ok_74 ⟨(ev_tmp rfl rfl), ⟨(ev_tmp rfl rfl), ⟨(ev_tmp rfl rfl), trivial⟩⟩⟩) (Calls.mono (c_value_integer (Dj F c7) w4 hI.lt op1 a1.N b1.N trivial r1 hx1) ?_)
    rintro _ w5 ⟨rfl, hx2, hl1⟩
    refine ⟨_, rfl, ?_⟩
    replace hI := (hI.ext hx2)
    refine s_q rfl rfl (y_extract rfl (ev_tmp rfl rfl) rfl) ?_
    refine s_q rfl rfl (y_extract rfl (ev_tmp rfl rfl) rfl) ?_
    refine l_store (new := [(Value.int .i64 r1.1.N), (Value.int .i64 r1.1.D)]) (cs' := #[(Value.int .i64 r1.1.N), (Value.int .i64 r1.1.D)]) hI .z rfl rfl rfl (ev_tmp rfl rfl) (ev_tmp rfl rfl) rfl size_27 rfl rfl rfl ?_
    clear hI; intro c8 w6 hI
    refine s_q rfl rfl (y_assign rfl (ev_tmp rfl rfl)) ?_
    refine s_nil ?_
    refine k_next (e := [(8, (Value.pointer (some ⟨b5, 0, none⟩))), (9, (Value.int .i64 r1.2))]) ⟨rfl, rfl, trivial⟩ ?_
    refine c_ret ?_
    obtain rfl := some_inj h
    exact q_ret (vs := [(Value.agg #[(Value.int .i64 r1.1.N), (Value.int .i64 r1.1.D)]), (Value.int .i64 r1.2)]) Tryz.results41 ⟨⟨_, ev_tmp rfl rfl, load_agg (l := [(Value.int .i64 r1.1.N), (Value.int .i64 r1.1.D)]) Tryz.underlying27 rfl size_27 (CellsAt.of_blk (hI.blk .z) rfl)⟩, ⟨ev_tmp rfl rfl, trivial⟩⟩ ⟨rfl, hI.ext0, hI.fin trivial⟩
  · replace h := ite_f hb h
    refine c_seq ?_
    refine c_region rfl ?_
    refine s_q rfl rfl (y_move rfl (ev_tmp rfl rfl)) ?_
    refine s_q rfl rfl (y_eql rfl (ev_tmp rfl rfl) ev_const) ?_
    refine s_q rfl rfl (y_move rfl (ev_tmp rfl rfl)) ?_
    refine s_gval (g_true rfl rfl rfl rfl) rfl (fun hc => (y_move rfl (ev_tmp rfl rfl))) ?_
    refine s_q rfl rfl (y_and rfl (ev_tmp rfl rfl) (ev_tmp rfl rfl)) ?_
    refine s_q rfl rfl (y_assign rfl (ev_tmp rfl rfl)) ?_
    refine s_nil ?_
    refine k_next (e := [(0, (Value.int .i64 op1)), (5, (Value.pointer (some ⟨b2, 0, none⟩))), (6, (Value.pointer (some ⟨b3, 0, none⟩))), (7, (Value.pointer (some ⟨b4, 0, none⟩))), (8, (Value.pointer (some ⟨b5, 0, none⟩))), (10, (Value.bool (decide (t1.Kind = 2)))), (26, (Value.bool ((decide (op1 = 4)) && (decide (t1.Kind = 2)))))]) ⟨rfl, rfl, rfl, rfl, rfl, rfl, rfl, trivial⟩ ?_
    refine c_cond (b := (decide (op1 = 4)) && (decide (t1.Kind = 2))) (ev_tmp rfl rfl) (fun hb => ?_) (fun hb => ?_)
    · replace h := ite_t hb h
      refine c_seq ?_
      refine c_region rfl ?_
      refine s_q rfl rfl (y_loadN (l := [(Value.int .i64 t1.Kind), (Value.int .i64 t1.Bits), (Value.int .i64 t1.Frac), (Value.int .i64 t1.Round), (Value.int .i64 t1.Over)]) rfl (ev_tmp rfl rfl) Tryz.underlying23 rfl size_23 (hI.kblk (l := [(Value.int .i64 t1.Kind), (Value.int .i64 t1.Bits), (Value.int .i64 t1.Frac), (Value.int .i64 t1.Round), (Value.int .i64 t1.Over)]) (.s (.s .z)) rfl).1) ?_
      refine s_q rfl rfl (y_loadN (l := [(Value.int .i64 a1.N), (Value.int .i64 a1.D)]) rfl (ev_tmp rfl rfl) Tryz.underlying27 rfl size_27 (hI.kblk (l := [(Value.int .i64 a1.N), (Value.int .i64 a1.D)]) (.s .z) rfl).1) ?_
      refine s_q rfl rfl (y_loadN (l := [(Value.int .i64 b1.N), (Value.int .i64 b1.D)]) rfl (ev_tmp rfl rfl) Tryz.underlying27 rfl size_27 (hI.kblk (l := [(Value.int .i64 b1.N), (Value.int .i64 b1.D)]) .z rfl).1) ?_
      obtain ⟨r2, hx3, h⟩ := bnd_some h
      refine s_call rfl rfl (r_callF (vs := [(Value.agg #[(Value.int .i64 t1.Kind), (Value.int .i64 t1.Bits), (Value.int .i64 t1.Frac), (Value.int .i64 t1.Round), (Value.int .i64 t1.Over)]), (Value.agg #[(Value.int .i64 a1.N), (Value.int .i64 a1.D)]), (Value.agg #[(Value.int .i64 b1.N), (Value.int .i64 b1.D)])]) rfl ok_75 ⟨(ev_tmp rfl rfl), ⟨(ev_tmp rfl rfl), ⟨(ev_tmp rfl rfl), trivial⟩⟩⟩) (Calls.mono (c_fixed_Add (Dj F c7) w4 hI.lt t1 a1 b1 trivial r2 hx3) ?_)
      rintro _ w7 ⟨rfl, hx4, hl2⟩
      refine ⟨_, rfl, ?_⟩
      replace hI := (hI.ext hx4)
      refine s_q rfl rfl (y_extract rfl (ev_tmp rfl rfl) rfl) ?_
      refine s_q rfl rfl (y_extract rfl (ev_tmp rfl rfl) rfl) ?_
      refine l_store (new := [(Value.int .i64 r2.1.N), (Value.int .i64 r2.1.D)]) (cs' := #[(Value.int .i64 r2.1.N), (Value.int .i64 r2.1.D)]) hI .z rfl rfl rfl (ev_tmp rfl rfl) (ev_tmp rfl rfl) rfl size_27 rfl rfl rfl ?_
      clear hI; intro c9 w8 hI
      refine s_q rfl rfl (y_assign rfl (ev_tmp rfl rfl)) ?_
      refine s_nil ?_
      refine k_next (e := [(8, (Value.pointer (some ⟨b5, 0, none⟩))), (9, (Value.int .i64 r2.2))]) ⟨rfl, rfl, trivial⟩ ?_
      refine c_ret ?_
      obtain rfl := some_inj h
      exact q_ret (vs := [(Value.agg #[(Value.int .i64 r2.1.N), (Value.int .i64 r2.1.D)]), (Value.int .i64 r2.2)]) Tryz.results41 ⟨⟨_, ev_tmp rfl rfl, load_agg (l := [(Value.int .i64 r2.1.N), (Value.int .i64 r2.1.D)]) Tryz.underlying27 rfl size_27 (CellsAt.of_blk (hI.blk .z) rfl)⟩, ⟨ev_tmp rfl rfl, trivial⟩⟩ ⟨rfl, hI.ext0, hI.fin trivial⟩
    · replace h := ite_f hb h
      refine c_seq ?_
      refine c_region rfl ?_
      refine s_q rfl rfl (y_move rfl (ev_tmp rfl rfl)) ?_
      refine s_q rfl rfl (y_eql rfl (ev_tmp rfl rfl) ev_const) ?_
      refine s_q rfl rfl (y_move rfl (ev_tmp rfl rfl)) ?_
      refine s_gval (g_true rfl rfl rfl rfl) rfl (fun hc => (y_move rfl (ev_tmp rfl rfl))) ?_
      refine s_q rfl rfl (y_and rfl (ev_tmp rfl rfl) (ev_tmp rfl rfl)) ?_
      refine s_q rfl rfl (y_assign rfl (ev_tmp rfl rfl)) ?_
      refine s_nil ?_
      refine k_next (e := [(0, (Value.int .i64 op1)), (5, (Value.pointer (some ⟨b2, 0, none⟩))), (6, (Value.pointer (some ⟨b3, 0, none⟩))), (7, (Value.pointer (some ⟨b4, 0, none⟩))), (8, (Value.pointer (some ⟨b5, 0, none⟩))), (10, (Value.bool (decide (t1.Kind = 2)))), (38, (Value.bool ((decide (op1 = 5)) && (decide (t1.Kind = 2)))))]) ⟨rfl, rfl, rfl, rfl, rfl, rfl, rfl, trivial⟩ ?_
      refine c_cond (b := (decide (op1 = 5)) && (decide (t1.Kind = 2))) (ev_tmp rfl rfl) (fun hb => ?_) (fun hb => ?_)
      · replace h := ite_t hb h
        refine c_seq ?_
        refine c_region rfl ?_
        refine s_q rfl rfl (y_loadN (l := [(Value.int .i64 t1.Kind), (Value.int .i64 t1.Bits), (Value.int .i64 t1.Frac), (Value.int .i64 t1.Round), (Value.int .i64 t1.Over)]) rfl (ev_tmp rfl rfl) Tryz.underlying23 rfl size_23 (hI.kblk (l := [(Value.int .i64 t1.Kind), (Value.int .i64 t1.Bits), (Value.int .i64 t1.Frac), (Value.int .i64 t1.Round), (Value.int .i64 t1.Over)]) (.s (.s .z)) rfl).1) ?_
        refine s_q rfl rfl (y_loadN (l := [(Value.int .i64 a1.N), (Value.int .i64 a1.D)]) rfl (ev_tmp rfl rfl) Tryz.underlying27 rfl size_27 (hI.kblk (l := [(Value.int .i64 a1.N), (Value.int .i64 a1.D)]) (.s .z) rfl).1) ?_
        refine s_q rfl rfl (y_loadN (l := [(Value.int .i64 b1.N), (Value.int .i64 b1.D)]) rfl (ev_tmp rfl rfl) Tryz.underlying27 rfl size_27 (hI.kblk (l := [(Value.int .i64 b1.N), (Value.int .i64 b1.D)]) .z rfl).1) ?_
        obtain ⟨r3, hx5, h⟩ := bnd_some h
        refine s_call rfl rfl (r_callF (vs := [(Value.agg #[(Value.int .i64 t1.Kind), (Value.int .i64 t1.Bits), (Value.int .i64 t1.Frac), (Value.int .i64 t1.Round), (Value.int .i64 t1.Over)]), (Value.agg #[(Value.int .i64 a1.N), (Value.int .i64 a1.D)]), (Value.agg #[(Value.int .i64 b1.N), (Value.int .i64 b1.D)])]) rfl ok_76 ⟨(ev_tmp rfl rfl), ⟨(ev_tmp rfl rfl), ⟨(ev_tmp rfl rfl), trivial⟩⟩⟩) (Calls.mono (c_fixed_Sub (Dj F c7) w4 hI.lt t1 a1 b1 trivial r3 hx5) ?_)
        rintro _ w9 ⟨rfl, hx6, hl3⟩
        refine ⟨_, rfl, ?_⟩
        replace hI := (hI.ext hx6)
        refine s_q rfl rfl (y_extract rfl (ev_tmp rfl rfl) rfl) ?_
        refine s_q rfl rfl (y_extract rfl (ev_tmp rfl rfl) rfl) ?_
        refine l_store (new := [(Value.int .i64 r3.1.N), (Value.int .i64 r3.1.D)]) (cs' := #[(Value.int .i64 r3.1.N), (Value.int .i64 r3.1.D)]) hI .z rfl rfl rfl (ev_tmp rfl rfl) (ev_tmp rfl rfl) rfl size_27 rfl rfl rfl ?_
        clear hI; intro c10 w10 hI
        refine s_q rfl rfl (y_assign rfl (ev_tmp rfl rfl)) ?_
        refine s_nil ?_
        refine k_next (e := [(8, (Value.pointer (some ⟨b5, 0, none⟩))), (9, (Value.int .i64 r3.2))]) ⟨rfl, rfl, trivial⟩ ?_
        refine c_ret ?_
        obtain rfl := some_inj h
        exact q_ret (vs := [(Value.agg #[(Value.int .i64 r3.1.N), (Value.int .i64 r3.1.D)]), (Value.int .i64 r3.2)]) Tryz.results41 ⟨⟨_, ev_tmp rfl rfl, load_agg (l := [(Value.int .i64 r3.1.N), (Value.int .i64 r3.1.D)]) Tryz.underlying27 rfl size_27 (CellsAt.of_blk (hI.blk .z) rfl)⟩, ⟨ev_tmp rfl rfl, trivial⟩⟩ ⟨rfl, hI.ext0, hI.fin trivial⟩
      · replace h := ite_f hb h
        refine c_seq ?_
        refine c_region rfl ?_
        refine s_q rfl rfl (y_move rfl (ev_tmp rfl rfl)) ?_
        refine s_q rfl rfl (y_eql rfl (ev_tmp rfl rfl) ev_const) ?_
        refine s_q rfl rfl (y_move rfl (ev_tmp rfl rfl)) ?_
        refine s_gval (g_true rfl rfl rfl rfl) rfl (fun hc => (y_move rfl (ev_tmp rfl rfl))) ?_
        refine s_q rfl rfl (y_and rfl (ev_tmp rfl rfl) (ev_tmp rfl rfl)) ?_
        refine s_q rfl rfl (y_assign rfl (ev_tmp rfl rfl)) ?_
        refine s_nil ?_
        refine k_next (e := [(0, (Value.int .i64 op1)), (5, (Value.pointer (some ⟨b2, 0, none⟩))), (6, (Value.pointer (some ⟨b3, 0, none⟩))), (7, (Value.pointer (some ⟨b4, 0, none⟩))), (8, (Value.pointer (some ⟨b5, 0, none⟩))), (10, (Value.bool (decide (t1.Kind = 2)))), (50, (Value.bool ((decide (op1 = 6)) && (decide (t1.Kind = 2)))))]) ⟨rfl, rfl, rfl, rfl, rfl, rfl, rfl, trivial⟩ ?_
        refine c_cond (b := (decide (op1 = 6)) && (decide (t1.Kind = 2))) (ev_tmp rfl rfl) (fun hb => ?_) (fun hb => ?_)
        · replace h := ite_t hb h
          refine c_seq ?_
          refine c_region rfl ?_
          refine s_q rfl rfl (y_loadN (l := [(Value.int .i64 t1.Kind), (Value.int .i64 t1.Bits), (Value.int .i64 t1.Frac), (Value.int .i64 t1.Round), (Value.int .i64 t1.Over)]) rfl (ev_tmp rfl rfl) Tryz.underlying23 rfl size_23 (hI.kblk (l := [(Value.int .i64 t1.Kind), (Value.int .i64 t1.Bits), (Value.int .i64 t1.Frac), (Value.int .i64 t1.Round), (Value.int .i64 t1.Over)]) (.s (.s .z)) rfl).1) ?_
          refine s_q rfl rfl (y_loadN (l := [(Value.int .i64 a1.N), (Value.int .i64 a1.D)]) rfl (ev_tmp rfl rfl) Tryz.underlying27 rfl size_27 (hI.kblk (l := [(Value.int .i64 a1.N), (Value.int .i64 a1.D)]) (.s .z) rfl).1) ?_
          refine s_q rfl rfl (y_loadN (l := [(Value.int .i64 b1.N), (Value.int .i64 b1.D)]) rfl (ev_tmp rfl rfl) Tryz.underlying27 rfl size_27 (hI.kblk (l := [(Value.int .i64 b1.N), (Value.int .i64 b1.D)]) .z rfl).1) ?_
          obtain ⟨r4, hx7, h⟩ := bnd_some h
          refine s_call rfl rfl (r_callF (vs := [(Value.agg #[(Value.int .i64 t1.Kind), (Value.int .i64 t1.Bits), (Value.int .i64 t1.Frac), (Value.int .i64 t1.Round), (Value.int .i64 t1.Over)]), (Value.agg #[(Value.int .i64 a1.N), (Value.int .i64 a1.D)]), (Value.agg #[(Value.int .i64 b1.N), (Value.int .i64 b1.D)])]) rfl ok_77 ⟨(ev_tmp rfl rfl), ⟨(ev_tmp rfl rfl), ⟨(ev_tmp rfl rfl), trivial⟩⟩⟩) (Calls.mono (c_fixed_Mul (Dj F c7) w4 hI.lt t1 a1 b1 trivial r4 hx7) ?_)
          rintro _ w11 ⟨rfl, hx8, hl4⟩
          refine ⟨_, rfl, ?_⟩
          replace hI := (hI.ext hx8)
          refine s_q rfl rfl (y_extract rfl (ev_tmp rfl rfl) rfl) ?_
          refine s_q rfl rfl (y_extract rfl (ev_tmp rfl rfl) rfl) ?_
          refine l_store (new := [(Value.int .i64 r4.1.N), (Value.int .i64 r4.1.D)]) (cs' := #[(Value.int .i64 r4.1.N), (Value.int .i64 r4.1.D)]) hI .z rfl rfl rfl (ev_tmp rfl rfl) (ev_tmp rfl rfl) rfl size_27 rfl rfl rfl ?_
          clear hI; intro c11 w12 hI
          refine s_q rfl rfl (y_assign rfl (ev_tmp rfl rfl)) ?_
          refine s_nil ?_
          refine k_next (e := [(8, (Value.pointer (some ⟨b5, 0, none⟩))), (9, (Value.int .i64 r4.2))]) ⟨rfl, rfl, trivial⟩ ?_
          refine c_ret ?_
          obtain rfl := some_inj h
          exact q_ret (vs := [(Value.agg #[(Value.int .i64 r4.1.N), (Value.int .i64 r4.1.D)]), (Value.int .i64 r4.2)]) Tryz.results41 ⟨⟨_, ev_tmp rfl rfl, load_agg (l := [(Value.int .i64 r4.1.N), (Value.int .i64 r4.1.D)]) Tryz.underlying27 rfl size_27 (CellsAt.of_blk (hI.blk .z) rfl)⟩, ⟨ev_tmp rfl rfl, trivial⟩⟩ ⟨rfl, hI.ext0, hI.fin trivial⟩
        · replace h := ite_f hb h
          refine c_seq ?_
          refine c_region rfl ?_
          refine s_q rfl rfl (y_move rfl (ev_tmp rfl rfl)) ?_
          refine s_q rfl rfl (y_assign rfl (ev_tmp rfl rfl)) ?_
          refine s_nil ?_
          refine k_next (e := [(0, (Value.int .i64 op1)), (5, (Value.pointer (some ⟨b2, 0, none⟩))), (6, (Value.pointer (some ⟨b3, 0, none⟩))), (7, (Value.pointer (some ⟨b4, 0, none⟩))), (8, (Value.pointer (some ⟨b5, 0, none⟩))), (62, (Value.bool (decide (t1.Kind = 2))))]) ⟨rfl, rfl, rfl, rfl, rfl, rfl, trivial⟩ ?_
          refine c_cond (b := decide (t1.Kind = 2)) (ev_tmp rfl rfl) (fun hb => ?_) (fun hb => ?_)
          · replace h := ite_t hb h
            refine c_seq ?_
            refine c_region rfl ?_
            refine s_q rfl rfl (y_loadN (l := [(Value.int .i64 t1.Kind), (Value.int .i64 t1.Bits), (Value.int .i64 t1.Frac), (Value.int .i64 t1.Round), (Value.int .i64 t1.Over)]) rfl (ev_tmp rfl rfl) Tryz.underlying23 rfl size_23 (hI.kblk (l := [(Value.int .i64 t1.Kind), (Value.int .i64 t1.Bits), (Value.int .i64 t1.Frac), (Value.int .i64 t1.Round), (Value.int .i64 t1.Over)]) (.s (.s .z)) rfl).1) ?_
            refine s_q rfl rfl (y_loadN (l := [(Value.int .i64 a1.N), (Value.int .i64 a1.D)]) rfl (ev_tmp rfl rfl) Tryz.underlying27 rfl size_27 (hI.kblk (l := [(Value.int .i64 a1.N), (Value.int .i64 a1.D)]) (.s .z) rfl).1) ?_
            refine s_q rfl rfl (y_loadN (l := [(Value.int .i64 b1.N), (Value.int .i64 b1.D)]) rfl (ev_tmp rfl rfl) Tryz.underlying27 rfl size_27 (hI.kblk (l := [(Value.int .i64 b1.N), (Value.int .i64 b1.D)]) .z rfl).1) ?_
            obtain ⟨r5, hx9, h⟩ := bnd_some h
            refine s_call rfl rfl (r_callF (vs := [(Value.agg #[(Value.int .i64 t1.Kind), (Value.int .i64 t1.Bits), (Value.int .i64 t1.Frac), (Value.int .i64 t1.Round), (Value.int .i64 t1.Over)]), (Value.agg #[(Value.int .i64 a1.N), (Value.int .i64 a1.D)]), (Value.agg #[(Value.int .i64 b1.N), (Value.int .i64 b1.D)])]) rfl ok_78 ⟨(ev_tmp rfl rfl), ⟨(ev_tmp rfl rfl), ⟨(ev_tmp rfl rfl), trivial⟩⟩⟩) (Calls.mono (c_fixed_Div (Dj F c7) w4 hI.lt t1 a1 b1 trivial r5 hx9) ?_)
            rintro _ w13 ⟨rfl, hx10, hl5⟩
            refine ⟨_, rfl, ?_⟩
            replace hI := (hI.ext hx10)
            refine s_q rfl rfl (y_extract rfl (ev_tmp rfl rfl) rfl) ?_
            refine s_q rfl rfl (y_extract rfl (ev_tmp rfl rfl) rfl) ?_
            refine l_store (new := [(Value.int .i64 r5.1.N), (Value.int .i64 r5.1.D)]) (cs' := #[(Value.int .i64 r5.1.N), (Value.int .i64 r5.1.D)]) hI .z rfl rfl rfl (ev_tmp rfl rfl) (ev_tmp rfl rfl) rfl size_27 rfl rfl rfl ?_
            clear hI; intro c12 w14 hI
            refine s_q rfl rfl (y_assign rfl (ev_tmp rfl rfl)) ?_
            refine s_nil ?_
            refine k_next (e := [(8, (Value.pointer (some ⟨b5, 0, none⟩))), (9, (Value.int .i64 r5.2))]) ⟨rfl, rfl, trivial⟩ ?_
            refine c_ret ?_
            obtain rfl := some_inj h
            exact q_ret (vs := [(Value.agg #[(Value.int .i64 r5.1.N), (Value.int .i64 r5.1.D)]), (Value.int .i64 r5.2)]) Tryz.results41 ⟨⟨_, ev_tmp rfl rfl, load_agg (l := [(Value.int .i64 r5.1.N), (Value.int .i64 r5.1.D)]) Tryz.underlying27 rfl size_27 (CellsAt.of_blk (hI.blk .z) rfl)⟩, ⟨ev_tmp rfl rfl, trivial⟩⟩ ⟨rfl, hI.ext0, hI.fin trivial⟩
          · replace h := ite_f hb h
            refine c_seq ?_
            refine c_region rfl ?_
            refine s_q rfl rfl (y_move rfl (ev_tmp rfl rfl)) ?_
            refine s_q rfl rfl (y_eql rfl (ev_tmp rfl rfl) ev_const) ?_
            refine s_q rfl rfl (y_assign rfl (ev_tmp rfl rfl)) ?_
            refine s_nil ?_
            refine k_next (e := [(0, (Value.int .i64 op1)), (6, (Value.pointer (some ⟨b3, 0, none⟩))), (7, (Value.pointer (some ⟨b4, 0, none⟩))), (8, (Value.pointer (some ⟨b5, 0, none⟩))), (70, (Value.bool (decide (op1 = 4))))]) ⟨rfl, rfl, rfl, rfl, rfl, trivial⟩ ?_
            refine c_cond (b := decide (op1 = 4)) (ev_tmp rfl rfl) (fun hb => ?_) (fun hb => ?_)
            · replace h := ite_t hb h
              refine c_seq ?_
              refine c_region rfl ?_
              refine s_q rfl rfl (y_loadN (l := [(Value.int .i64 a1.N), (Value.int .i64 a1.D)]) rfl (ev_tmp rfl rfl) Tryz.underlying27 rfl size_27 (hI.kblk (l := [(Value.int .i64 a1.N), (Value.int .i64 a1.D)]) (.s .z) rfl).1) ?_
              refine s_q rfl rfl (y_loadN (l := [(Value.int .i64 b1.N), (Value.int .i64 b1.D)]) rfl (ev_tmp rfl rfl) Tryz.underlying27 rfl size_27 (hI.kblk (l := [(Value.int .i64 b1.N), (Value.int .i64 b1.D)]) .z rfl).1) ?_
              obtain ⟨r6, hx11, h⟩ := bnd_some h
              refine s_call rfl rfl (r_callF (vs := [(Value.agg #[(Value.int .i64 a1.N), (Value.int .i64 a1.D)]), (Value.agg #[(Value.int .i64 b1.N), (Value.int .i64 b1.D)])]) rfl ok_79 ⟨(ev_tmp rfl rfl), ⟨(ev_tmp rfl rfl), trivial⟩⟩) (Calls.mono (c_frac_Add (Dj F c7) w4 hI.lt a1 b1 trivial r6 hx11) ?_)
              rintro _ w15 ⟨rfl, hx12, hl6⟩
              refine ⟨_, rfl, ?_⟩
              replace hI := (hI.ext hx12)
              refine s_q rfl rfl (y_extract rfl (ev_tmp rfl rfl) rfl) ?_
              refine s_q rfl rfl (y_extract rfl (ev_tmp rfl rfl) rfl) ?_
              refine l_store (new := [(Value.int .i64 r6.1.N), (Value.int .i64 r6.1.D)]) (cs' := #[(Value.int .i64 r6.1.N), (Value.int .i64 r6.1.D)]) hI .z rfl rfl rfl (ev_tmp rfl rfl) (ev_tmp rfl rfl) rfl size_27 rfl rfl rfl ?_
              clear hI; intro c13 w16 hI
              refine s_q rfl rfl (y_assign rfl (ev_tmp rfl rfl)) ?_
              refine s_nil ?_
              refine k_next (e := [(8, (Value.pointer (some ⟨b5, 0, none⟩))), (9, (Value.int .i64 r6.2))]) ⟨rfl, rfl, trivial⟩ ?_
              refine c_ret ?_
              obtain rfl := some_inj h
              exact q_ret (vs := [(Value.agg #[(Value.int .i64 r6.1.N), (Value.int .i64 r6.1.D)]), (Value.int .i64 r6.2)]) Tryz.results41 ⟨⟨_, ev_tmp rfl rfl, load_agg (l := [(Value.int .i64 r6.1.N), (Value.int .i64 r6.1.D)]) Tryz.underlying27 rfl size_27 (CellsAt.of_blk (hI.blk .z) rfl)⟩, ⟨ev_tmp rfl rfl, trivial⟩⟩ ⟨rfl, hI.ext0, hI.fin trivial⟩
            · replace h := ite_f hb h
              refine c_seq ?_
              refine c_region rfl ?_
              refine s_q rfl rfl (y_move rfl (ev_tmp rfl rfl)) ?_
              refine s_q rfl rfl (y_eql rfl (ev_tmp rfl rfl) ev_const) ?_
              refine s_q rfl rfl (y_assign rfl (ev_tmp rfl rfl)) ?_
              refine s_nil ?_
              refine k_next (e := [(0, (Value.int .i64 op1)), (6, (Value.pointer (some ⟨b3, 0, none⟩))), (7, (Value.pointer (some ⟨b4, 0, none⟩))), (8, (Value.pointer (some ⟨b5, 0, none⟩))), (78, (Value.bool (decide (op1 = 5))))]) ⟨rfl, rfl, rfl, rfl, rfl, trivial⟩ ?_
              refine c_cond (b := decide (op1 = 5)) (ev_tmp rfl rfl) (fun hb => ?_) (fun hb => ?_)
              · replace h := ite_t hb h
                refine c_seq ?_
                refine c_region rfl ?_
                refine s_q rfl rfl (y_loadN (l := [(Value.int .i64 a1.N), (Value.int .i64 a1.D)]) rfl (ev_tmp rfl rfl) Tryz.underlying27 rfl size_27 (hI.kblk (l := [(Value.int .i64 a1.N), (Value.int .i64 a1.D)]) (.s .z) rfl).1) ?_
                refine s_q rfl rfl (y_loadN (l := [(Value.int .i64 b1.N), (Value.int .i64 b1.D)]) rfl (ev_tmp rfl rfl) Tryz.underlying27 rfl size_27 (hI.kblk (l := [(Value.int .i64 b1.N), (Value.int .i64 b1.D)]) .z rfl).1) ?_
                obtain ⟨r7, hx13, h⟩ := bnd_some h
                refine s_call rfl rfl (r_callF (vs := [(Value.agg #[(Value.int .i64 a1.N), (Value.int .i64 a1.D)]), (Value.agg #[(Value.int .i64 b1.N), (Value.int .i64 b1.D)])]) rfl ok_80 ⟨(ev_tmp rfl rfl), ⟨(ev_tmp rfl rfl), trivial⟩⟩) (Calls.mono (c_frac_Sub (Dj F c7) w4 hI.lt a1 b1 trivial r7 hx13) ?_)
                rintro _ w17 ⟨rfl, hx14, hl7⟩
                refine ⟨_, rfl, ?_⟩
                replace hI := (hI.ext hx14)
                refine s_q rfl rfl (y_extract rfl (ev_tmp rfl rfl) rfl) ?_
                refine s_q rfl rfl (y_extract rfl (ev_tmp rfl rfl) rfl) ?_
                refine l_store (new := [(Value.int .i64 r7.1.N), (Value.int .i64 r7.1.D)]) (cs' := #[(Value.int .i64 r7.1.N), (Value.int .i64 r7.1.D)]) hI .z rfl rfl rfl (ev_tmp rfl rfl) (ev_tmp rfl rfl) rfl size_27 rfl rfl rfl ?_
                clear hI; intro c14 w18 hI
                refine s_q rfl rfl (y_assign rfl (ev_tmp rfl rfl)) ?_
                refine s_nil ?_
                refine k_next (e := [(8, (Value.pointer (some ⟨b5, 0, none⟩))), (9, (Value.int .i64 r7.2))]) ⟨rfl, rfl, trivial⟩ ?_
                refine c_ret ?_
                obtain rfl := some_inj h
                exact q_ret (vs := [(Value.agg #[(Value.int .i64 r7.1.N), (Value.int .i64 r7.1.D)]), (Value.int .i64 r7.2)]) Tryz.results41 ⟨⟨_, ev_tmp rfl rfl, load_agg (l := [(Value.int .i64 r7.1.N), (Value.int .i64 r7.1.D)]) Tryz.underlying27 rfl size_27 (CellsAt.of_blk (hI.blk .z) rfl)⟩, ⟨ev_tmp rfl rfl, trivial⟩⟩ ⟨rfl, hI.ext0, hI.fin trivial⟩
              · replace h := ite_f hb h
                refine c_seq ?_
                refine c_region rfl ?_
                refine s_q rfl rfl (y_move rfl (ev_tmp rfl rfl)) ?_
                refine s_q rfl rfl (y_eql rfl (ev_tmp rfl rfl) ev_const) ?_
                refine s_q rfl rfl (y_assign rfl (ev_tmp rfl rfl)) ?_
                refine s_nil ?_
                refine k_next (e := [(6, (Value.pointer (some ⟨b3, 0, none⟩))), (7, (Value.pointer (some ⟨b4, 0, none⟩))), (8, (Value.pointer (some ⟨b5, 0, none⟩))), (86, (Value.bool (decide (op1 = 6))))]) ⟨rfl, rfl, rfl, rfl, trivial⟩ ?_
                refine c_cond (b := decide (op1 = 6)) (ev_tmp rfl rfl) (fun hb => ?_) (fun hb => ?_)
                · replace h := ite_t hb h
                  refine c_seq ?_
                  refine c_region rfl ?_
                  refine s_q rfl rfl (y_loadN (l := [(Value.int .i64 a1.N), (Value.int .i64 a1.D)]) rfl (ev_tmp rfl rfl) Tryz.underlying27 rfl size_27 (hI.kblk (l := [(Value.int .i64 a1.N), (Value.int .i64 a1.D)]) (.s .z) rfl).1) ?_
                  refine s_q rfl rfl (y_loadN (l := [(Value.int .i64 b1.N), (Value.int .i64 b1.D)]) rfl (ev_tmp rfl rfl) Tryz.underlying27 rfl size_27 (hI.kblk (l := [(Value.int .i64 b1.N), (Value.int .i64 b1.D)]) .z rfl).1) ?_
                  obtain ⟨r8, hx15, h⟩ := bnd_some h
                  refine s_call rfl rfl (r_callF (vs := [(Value.agg #[(Value.int .i64 a1.N), (Value.int .i64 a1.D)]), (Value.agg #[(Value.int .i64 b1.N), (Value.int .i64 b1.D)])]) rfl ok_81 ⟨(ev_tmp rfl rfl), ⟨(ev_tmp rfl rfl), trivial⟩⟩) (Calls.mono (c_frac_Mul (Dj F c7) w4 hI.lt a1 b1 trivial r8 hx15) ?_)
                  rintro _ w19 ⟨rfl, hx16, hl8⟩
                  refine ⟨_, rfl, ?_⟩
                  replace hI := (hI.ext hx16)
                  refine s_q rfl rfl (y_extract rfl (ev_tmp rfl rfl) rfl) ?_
                  refine s_q rfl rfl (y_extract rfl (ev_tmp rfl rfl) rfl) ?_
                  refine l_store (new := [(Value.int .i64 r8.1.N), (Value.int .i64 r8.1.D)]) (cs' := #[(Value.int .i64 r8.1.N), (Value.int .i64 r8.1.D)]) hI .z rfl rfl rfl (ev_tmp rfl rfl) (ev_tmp rfl rfl) rfl size_27 rfl rfl rfl ?_
                  clear hI; intro c15 w20 hI
                  refine s_q rfl rfl (y_assign rfl (ev_tmp rfl rfl)) ?_
                  refine s_nil ?_
                  refine k_next (e := [(8, (Value.pointer (some ⟨b5, 0, none⟩))), (9, (Value.int .i64 r8.2))]) ⟨rfl, rfl, trivial⟩ ?_
                  refine c_ret ?_
                  obtain rfl := some_inj h
                  exact q_ret (vs := [(Value.agg #[(Value.int .i64 r8.1.N), (Value.int .i64 r8.1.D)]), (Value.int .i64 r8.2)]) Tryz.results41 ⟨⟨_, ev_tmp rfl rfl, load_agg (l := [(Value.int .i64 r8.1.N), (Value.int .i64 r8.1.D)]) Tryz.underlying27 rfl size_27 (CellsAt.of_blk (hI.blk .z) rfl)⟩, ⟨ev_tmp rfl rfl, trivial⟩⟩ ⟨rfl, hI.ext0, hI.fin trivial⟩
                · replace h := ite_f hb h
                  refine c_skip ?_
                  refine k_next (e := [(6, (Value.pointer (some ⟨b3, 0, none⟩))), (7, (Value.pointer (some ⟨b4, 0, none⟩))), (8, (Value.pointer (some ⟨b5, 0, none⟩)))]) ⟨rfl, rfl, rfl, trivial⟩ ?_
                  refine c_seq ?_
                  refine c_region rfl ?_
                  refine s_q rfl rfl (y_loadN (l := [(Value.int .i64 a1.N), (Value.int .i64 a1.D)]) rfl (ev_tmp rfl rfl) Tryz.underlying27 rfl size_27 (hI.kblk (l := [(Value.int .i64 a1.N), (Value.int .i64 a1.D)]) (.s .z) rfl).1) ?_
                  refine s_q rfl rfl (y_loadN (l := [(Value.int .i64 b1.N), (Value.int .i64 b1.D)]) rfl (ev_tmp rfl rfl) Tryz.underlying27 rfl size_27 (hI.kblk (l := [(Value.int .i64 b1.N), (Value.int .i64 b1.D)]) .z rfl).1) ?_
                  obtain ⟨r9, hx17, h⟩ := bnd_some h
                  refine s_call rfl rfl (r_callF (vs := [(Value.agg #[(Value.int .i64 a1.N), (Value.int .i64 a1.D)]), (Value.agg #[(Value.int .i64 b1.N), (Value.int .i64 b1.D)])]) rfl ok_82 ⟨(ev_tmp rfl rfl), ⟨(ev_tmp rfl rfl), trivial⟩⟩) (Calls.mono (c_frac_Div (Dj F c7) w4 hI.lt a1 b1 trivial r9 hx17) ?_)
                  rintro _ w21 ⟨rfl, hx18, hl9⟩
                  refine ⟨_, rfl, ?_⟩
                  replace hI := (hI.ext hx18)
                  refine s_q rfl rfl (y_extract rfl (ev_tmp rfl rfl) rfl) ?_
                  refine s_q rfl rfl (y_extract rfl (ev_tmp rfl rfl) rfl) ?_
                  refine l_store (new := [(Value.int .i64 r9.1.N), (Value.int .i64 r9.1.D)]) (cs' := #[(Value.int .i64 r9.1.N), (Value.int .i64 r9.1.D)]) hI .z rfl rfl rfl (ev_tmp rfl rfl) (ev_tmp rfl rfl) rfl size_27 rfl rfl rfl ?_
                  clear hI; intro c16 w22 hI
                  refine s_q rfl rfl (y_assign rfl (ev_tmp rfl rfl)) ?_
                  refine s_nil ?_
                  refine k_next (e := [(8, (Value.pointer (some ⟨b5, 0, none⟩))), (9, (Value.int .i64 r9.2))]) ⟨rfl, rfl, trivial⟩ ?_
                  refine c_ret ?_
                  obtain rfl := some_inj h
                  exact q_ret (vs := [(Value.agg #[(Value.int .i64 r9.1.N), (Value.int .i64 r9.1.D)]), (Value.int .i64 r9.2)]) Tryz.results41 ⟨⟨_, ev_tmp rfl rfl, load_agg (l := [(Value.int .i64 r9.1.N), (Value.int .i64 r9.1.D)]) Tryz.underlying27 rfl size_27 (CellsAt.of_blk (hI.blk .z) rfl)⟩, ⟨ev_tmp rfl rfl, trivial⟩⟩ ⟨rfl, hI.ext0, hI.fin trivial⟩

set_option maxRecDepth 100000 in
set_option maxHeartbeats 4000000 in
theorem c_value_Apply (F : NP) (w0 : World) (hF : ∀ k, F k → k < w0.heap.size) (op1 : Int) (t1 : GType) (a1 : GVal) (b1 : GVal) (hc : AllCl [] F w0) (r : GVal × Int)
    (h : m_value_Apply op1 t1 a1 b1 = some r) :
    Calls Tryz.prog 17 #[(Value.int .i64 op1), (Value.agg #[(Value.int .i64 t1.Kind), (Value.int .i64 t1.Bits), (Value.int .i64 t1.Frac), (Value.int .i64 t1.Round), (Value.int .i64 t1.Over)]), (Value.agg #[(Value.int .i64 a1.N), (Value.int .i64 a1.D)]), (Value.agg #[(Value.int .i64 b1.N), (Value.int .i64 b1.D)])] w0 fun e w => e = .returned (Value.tuple #[(Value.agg #[(Value.int .i64 r.1.N), (Value.int .i64 r.1.D)]), (Value.int .i64 r.2)]) ∧ Ext w0 w ∧ AllCl [] F w := by
  refine ofEnter (R := fun v w => v = (Value.tuple #[(Value.agg #[(Value.int .i64 r.1.N), (Value.int .i64 r.1.D)]), (Value.int .i64 r.2)]) ∧ Ext w0 w ∧ AllCl [] F w) (enter (l := [(Value.int .i64 op1), (Value.agg #[(Value.int .i64 t1.Kind), (Value.int .i64 t1.Bits), (Value.int .i64 t1.Frac), (Value.int .i64 t1.Round), (Value.int .i64 t1.Over)]), (Value.agg #[(Value.int .i64 a1.N), (Value.int .i64 a1.D)]), (Value.agg #[(Value.int .i64 b1.N), (Value.int .i64 b1.D)])]) Tryz.func17 rfl Tryz.ntmps17 rfl ?_) ?_
  rotate_left
  · rintro _ w ⟨rfl, k1, k2⟩; exact ⟨rfl, k1, k2⟩
  have hI := Bun.start hF hc
  clear hc
  rw [m_value_Apply] at h
  refine c_seq ?_
  refine c_region rfl ?_
  refine l_box (v := (Value.agg #[(Value.int .i64 t1.Kind), (Value.int .i64 t1.Bits), (Value.int .i64 t1.Frac), (Value.int .i64 t1.Round), (Value.int .i64 t1.Over)])) (cs := #[(Value.int .i64 t1.Kind), (Value.int .i64 t1.Bits), (Value.int .i64 t1.Frac), (Value.int .i64 t1.Round), (Value.int .i64 t1.Over)]) hI rfl rfl rfl (ev_tmp rfl rfl) rfl ?_
  clear hI; intro b2 c1 w1 hI
  obtain ⟨c2, hI⟩ := hI.relBox .z
  refine l_box (v := (Value.agg #[(Value.int .i64 a1.N), (Value.int .i64 a1.D)])) (cs := #[(Value.int .i64 a1.N), (Value.int .i64 a1.D)]) hI rfl rfl rfl (ev_tmp rfl rfl) rfl ?_
  clear hI; intro b3 c3 w2 hI
  obtain ⟨c4, hI⟩ := hI.relBox .z
  refine l_box (v := (Value.agg #[(Value.int .i64 b1.N), (Value.int .i64 b1.D)])) (cs := #[(Value.int .i64 b1.N), (Value.int .i64 b1.D)]) hI rfl rfl rfl (ev_tmp rfl rfl) rfl ?_
  clear hI; intro b4 c5 w3 hI
  obtain ⟨c6, hI⟩ := hI.relBox .z
  refine l_alloc (cs := #[(Value.int .i64 0), (Value.int .i64 0)]) hI rfl rfl rfl zero_27 rfl ?_
  clear hI; intro b5 c7 w4 hI
  refine s_q rfl rfl (y_assign rfl ev_const) ?_
  refine s_nil ?_
  refine k_next (e := [(0, (Value.int .i64 op1)), (5, (Value.pointer (some ⟨b2, 0, none⟩))), (6, (Value.pointer (some ⟨b3, 0, none⟩))), (7, (Value.pointer (some ⟨b4, 0, none⟩))), (8, (Value.pointer (some ⟨b5, 0, none⟩)))]) ⟨rfl, rfl, rfl, rfl, rfl, trivial⟩ ?_
  refine c_seq ?_
  refine c_block ?_
  refine c_seq ?_
  refine c_region rfl ?_
  refine s_q rfl rfl (y_move rfl (ev_tmp rfl rfl)) ?_
  refine s_q rfl rfl (y_lss rfl (ev_tmp rfl rfl) ev_const) ?_
  refine s_q rfl rfl (y_move rfl (ev_tmp rfl rfl)) ?_
  refine s_gval (g_false rfl rfl rfl rfl) rfl (fun hc => (y_move rfl (ev_tmp rfl rfl))) ?_
  refine s_gval (g_false rfl rfl rfl rfl) rfl (fun hc => (y_gtr rfl (ev_gv (ev_tmp rfl rfl) hc) ev_const)) ?_
  refine s_q rfl rfl (y_or rfl (ev_tmp rfl rfl) (ev_tmp rfl rfl)) ?_
  refine s_q rfl rfl (y_assign rfl (ev_tmp rfl rfl)) ?_
  refine s_nil ?_
  refine k_next (e := [(0, (Value.int .i64 op1)), (5, (Value.pointer (some ⟨b2, 0, none⟩))), (6, (Value.pointer (some ⟨b3, 0, none⟩))), (7, (Value.pointer (some ⟨b4, 0, none⟩))), (8, (Value.pointer (some ⟨b5, 0, none⟩))), (11, (Value.bool ((decide (op1 < 4)) || (decide (10 < op1)))))]) ⟨rfl, rfl, rfl, rfl, rfl, rfl, trivial⟩ ?_
  refine c_cond (b := (decide (op1 < 4)) || (decide (10 < op1))) (ev_tmp rfl rfl) (fun hb => ?_) (fun hb => ?_)
  · replace h := ite_t hb h
    refine c_seq ?_
    refine c_region rfl ?_
    refine s_q rfl rfl (y_build (vs := []) (cs := #[(Value.int .i64 0), (Value.int .i64 0)]) rfl trivial (by kernel_rfl)) ?_
    refine l_store (new := [(Value.int .i64 0), (Value.int .i64 0)]) (cs' := #[(Value.int .i64 0), (Value.int .i64 0)]) hI .z rfl rfl rfl (ev_tmp rfl rfl) (ev_tmp rfl rfl) rfl size_27 rfl rfl rfl ?_
    clear hI; intro c8 w5 hI
    refine s_q rfl rfl (y_assign rfl ev_const) ?_
    refine s_nil ?_
    refine k_next (e := [(8, (Value.pointer (some ⟨b5, 0, none⟩))), (9, (Value.int .i64 1))]) ⟨rfl, rfl, trivial⟩ ?_
    refine c_ret ?_
    obtain rfl := some_inj h
    exact q_ret (vs := [(Value.agg #[(Value.int .i64 0), (Value.int .i64 0)]), (Value.int .i64 1)]) Tryz.results17 ⟨⟨_, ev_tmp rfl rfl, load_agg (l := [(Value.int .i64 0), (Value.int .i64 0)]) Tryz.underlying27 rfl size_27 (CellsAt.of_blk (hI.blk .z) rfl)⟩, ⟨ev_tmp rfl rfl, trivial⟩⟩ ⟨rfl, hI.ext0, hI.fin trivial⟩
  · replace h := ite_f hb h
    refine c_seq ?_
    refine c_region rfl ?_
    refine s_q rfl rfl (y_loadN (l := [(Value.int .i64 t1.Kind), (Value.int .i64 t1.Bits), (Value.int .i64 t1.Frac), (Value.int .i64 t1.Round), (Value.int .i64 t1.Over)]) rfl (ev_tmp rfl rfl) Tryz.underlying23 rfl size_23 (hI.kblk (l := [(Value.int .i64 t1.Kind), (Value.int .i64 t1.Bits), (Value.int .i64 t1.Frac), (Value.int .i64 t1.Round), (Value.int .i64 t1.Over)]) (.s (.s .z)) rfl).1) ?_
    obtain ⟨r1, hx1, h⟩ := bnd_some h
    refine s_call rfl rfl (r_callF (vs := [(Value.agg #[(Value.int .i64 t1.Kind), (Value.int .i64 t1.Bits), (Value.int .i64 t1.Frac), (Value.int .i64 t1.Round), (Value.int .i64 t1.Over)])]) rfl ok_22 ⟨(ev_tmp rfl rfl), trivial⟩) (Calls.mono (c_value_ValidateType (Dj F c7) w4 hI.lt t1 trivial r1 hx1) ?_)
    rintro _ w6 ⟨rfl, hx2, hl1⟩
    refine ⟨_, rfl, ?_⟩
    replace hI := (hI.ext hx2)
    refine s_q rfl rfl (y_neq rfl (ev_tmp rfl rfl) ev_const) ?_
    refine s_q rfl rfl (y_assign rfl (ev_tmp rfl rfl)) ?_
    refine s_nil ?_
    refine k_next (e := [(0, (Value.int .i64 op1)), (5, (Value.pointer (some ⟨b2, 0, none⟩))), (6, (Value.pointer (some ⟨b3, 0, none⟩))), (7, (Value.pointer (some ⟨b4, 0, none⟩))), (8, (Value.pointer (some ⟨b5, 0, none⟩))), (19, (Value.bool (!decide (r1 = 0))))]) ⟨rfl, rfl, rfl, rfl, rfl, rfl, trivial⟩ ?_
    refine c_cond (b := !decide (r1 = 0)) (ev_tmp rfl rfl) (fun hb => ?_) (fun hb => ?_)
    · replace h := ite_t hb h
      refine c_seq ?_
      refine c_region rfl ?_
      refine s_q rfl rfl (y_build (vs := []) (cs := #[(Value.int .i64 0), (Value.int .i64 0)]) rfl trivial (by kernel_rfl)) ?_
      refine l_store (new := [(Value.int .i64 0), (Value.int .i64 0)]) (cs' := #[(Value.int .i64 0), (Value.int .i64 0)]) hI .z rfl rfl rfl (ev_tmp rfl rfl) (ev_tmp rfl rfl) rfl size_27 rfl rfl rfl ?_
      clear hI; intro c9 w7 hI
      refine s_q rfl rfl (y_assign rfl ev_const) ?_
      refine s_nil ?_
      refine k_next (e := [(8, (Value.pointer (some ⟨b5, 0, none⟩))), (9, (Value.int .i64 10))]) ⟨rfl, rfl, trivial⟩ ?_
      refine c_ret ?_
      obtain rfl := some_inj h
      exact q_ret (vs := [(Value.agg #[(Value.int .i64 0), (Value.int .i64 0)]), (Value.int .i64 10)]) Tryz.results17 ⟨⟨_, ev_tmp rfl rfl, load_agg (l := [(Value.int .i64 0), (Value.int .i64 0)]) Tryz.underlying27 rfl size_27 (CellsAt.of_blk (hI.blk .z) rfl)⟩, ⟨ev_tmp rfl rfl, trivial⟩⟩ ⟨rfl, hI.ext0, hI.fin trivial⟩
    · replace h := ite_f hb h
      refine c_seq ?_
      refine c_region rfl ?_
      refine s_q rfl rfl (y_loadN (l := [(Value.int .i64 t1.Kind), (Value.int .i64 t1.Bits), (Value.int .i64 t1.Frac), (Value.int .i64 t1.Round), (Value.int .i64 t1.Over)]) rfl (ev_tmp rfl rfl) Tryz.underlying23 rfl size_23 (hI.kblk (l := [(Value.int .i64 t1.Kind), (Value.int .i64 t1.Bits), (Value.int .i64 t1.Frac), (Value.int .i64 t1.Round), (Value.int .i64 t1.Over)]) (.s (.s .z)) rfl).1) ?_
      refine s_q rfl rfl (y_loadN (l := [(Value.int .i64 a1.N), (Value.int .i64 a1.D)]) rfl (ev_tmp rfl rfl) Tryz.underlying27 rfl size_27 (hI.kblk (l := [(Value.int .i64 a1.N), (Value.int .i64 a1.D)]) (.s .z) rfl).1) ?_
      obtain ⟨r2, hx3, h⟩ := bnd_some h
      refine s_call rfl rfl (r_callF (vs := [(Value.agg #[(Value.int .i64 t1.Kind), (Value.int .i64 t1.Bits), (Value.int .i64 t1.Frac), (Value.int .i64 t1.Round), (Value.int .i64 t1.Over)]), (Value.agg #[(Value.int .i64 a1.N), (Value.int .i64 a1.D)])]) rfl ok_19 ⟨(ev_tmp rfl rfl), ⟨(ev_tmp rfl rfl), trivial⟩⟩) (Calls.mono (c_value_Valid (Dj F c7) w6 hI.lt t1 a1 trivial r2 hx3) ?_)
      rintro _ w8 ⟨rfl, hx4, hl2⟩
      refine ⟨_, rfl, ?_⟩
      replace hI := (hI.ext hx4)
      refine s_q rfl rfl (y_not rfl (ev_tmp rfl rfl)) ?_
      refine s_q rfl rfl (y_move rfl (ev_tmp rfl rfl)) ?_
      refine s_gval (g_false rfl rfl rfl rfl) rfl (fun hc => (y_move rfl (ev_tmp rfl rfl))) ?_
      refine s_gval (g_false rfl rfl rfl rfl) rfl (fun hc => (y_neq rfl (ev_gv (ev_tmp rfl rfl) hc) ev_const)) ?_
      refine s_gval (g_false rfl rfl rfl rfl) rfl (fun hc => (y_move rfl (ev_gv (ev_tmp rfl rfl) hc))) ?_
      refine s_gval (g_true2 rfl rfl rfl rfl) rfl (fun hc => (y_loadN (l := [(Value.int .i64 t1.Kind), (Value.int .i64 t1.Bits), (Value.int .i64 t1.Frac), (Value.int .i64 t1.Round), (Value.int .i64 t1.Over)]) rfl (ev_tmp rfl rfl) Tryz.underlying23 rfl size_23 (hI.kblk (l := [(Value.int .i64 t1.Kind), (Value.int .i64 t1.Bits), (Value.int .i64 t1.Frac), (Value.int .i64 t1.Round), (Value.int .i64 t1.Over)]) (.s (.s .z)) rfl).1)) ?_
      refine s_gval (g_true2 rfl rfl rfl rfl) rfl (fun hc => (y_loadN (l := [(Value.int .i64 b1.N), (Value.int .i64 b1.D)]) rfl (ev_tmp rfl rfl) Tryz.underlying27 rfl size_27 (hI.kblk (l := [(Value.int .i64 b1.N), (Value.int .i64 b1.D)]) .z rfl).1)) ?_
      obtain ⟨r3, hx5, h⟩ := bnd_some h
      replace hx5 := gd_some hx5
      refine s_gcallU (v := (Value.bool r3)) (g_true2 rfl rfl rfl rfl) rfl (fun hc => (r_callF (vs := [(Value.agg #[(Value.int .i64 t1.Kind), (Value.int .i64 t1.Bits), (Value.int .i64 t1.Frac), (Value.int .i64 t1.Round), (Value.int .i64 t1.Over)]), (Value.agg #[(Value.int .i64 b1.N), (Value.int .i64 b1.D)])]) rfl ok_19 ⟨(ev_gv (ev_tmp rfl rfl) hc), ⟨(ev_gv (ev_tmp rfl rfl) hc), trivial⟩⟩)) (fun hc => (c_value_Valid (Dj F c7) w8 hI.lt t1 b1 trivial r3 (hx5 hc)).mono fun _ _ k => ⟨k.1, k.2.1⟩) ?_
      intro w9 hx6; replace hI := hI.ext hx6
      refine s_gval (g_true2 rfl rfl rfl rfl) rfl (fun hc => (y_not rfl (ev_gv (ev_tmp rfl rfl) hc))) ?_
      refine s_gval (g_false rfl rfl rfl rfl) rfl (fun hc => (y_and2 rfl hc (ev_tmp rfl rfl) (ev_tmp rfl rfl))) ?_
      refine s_q rfl rfl (y_or rfl (ev_tmp rfl rfl) (ev_tmp rfl rfl)) ?_
      refine s_q rfl rfl (y_assign rfl (ev_tmp rfl rfl)) ?_
      refine s_nil ?_
      refine k_next (e := [(0, (Value.int .i64 op1)), (5, (Value.pointer (some ⟨b2, 0, none⟩))), (6, (Value.pointer (some ⟨b3, 0, none⟩))), (7, (Value.pointer (some ⟨b4, 0, none⟩))), (8, (Value.pointer (some ⟨b5, 0, none⟩))), (24, (Value.bool ((!r2) || ((!decide (op1 = 8)) && (!r3)))))]) ⟨rfl, rfl, rfl, rfl, rfl, rfl, trivial⟩ ?_
      refine c_cond (b := (!r2) || ((!decide (op1 = 8)) && (!r3))) (ev_tmp rfl rfl) (fun hb => ?_) (fun hb => ?_)
      · replace h := ite_t hb h
        refine c_seq ?_
        refine c_region rfl ?_
        refine s_q rfl rfl (y_build (vs := []) (cs := #[(Value.int .i64 0), (Value.int .i64 0)]) rfl trivial (by kernel_rfl)) ?_
        refine l_store (new := [(Value.int .i64 0), (Value.int .i64 0)]) (cs' := #[(Value.int .i64 0), (Value.int .i64 0)]) hI .z rfl rfl rfl (ev_tmp rfl rfl) (ev_tmp rfl rfl) rfl size_27 rfl rfl rfl ?_
        clear hI; intro c10 w10 hI
        refine s_q rfl rfl (y_assign rfl ev_const) ?_
        refine s_nil ?_
        refine k_next (e := [(8, (Value.pointer (some ⟨b5, 0, none⟩))), (9, (Value.int .i64 1))]) ⟨rfl, rfl, trivial⟩ ?_
        refine c_ret ?_
        obtain rfl := some_inj h
        exact q_ret (vs := [(Value.agg #[(Value.int .i64 0), (Value.int .i64 0)]), (Value.int .i64 1)]) Tryz.results17 ⟨⟨_, ev_tmp rfl rfl, load_agg (l := [(Value.int .i64 0), (Value.int .i64 0)]) Tryz.underlying27 rfl size_27 (CellsAt.of_blk (hI.blk .z) rfl)⟩, ⟨ev_tmp rfl rfl, trivial⟩⟩ ⟨rfl, hI.ext0, hI.fin trivial⟩
      · replace h := ite_f hb h
        refine c_skip ?_
        refine k_next (e := [(0, (Value.int .i64 op1)), (5, (Value.pointer (some ⟨b2, 0, none⟩))), (6, (Value.pointer (some ⟨b3, 0, none⟩))), (7, (Value.pointer (some ⟨b4, 0, none⟩))), (8, (Value.pointer (some ⟨b5, 0, none⟩)))]) ⟨rfl, rfl, rfl, rfl, rfl, trivial⟩ ?_
        refine c_seq ?_
        refine c_seq ?_
        refine c_region rfl ?_
        refine s_q rfl rfl (y_move rfl (ev_tmp rfl rfl)) ?_
        refine s_nil ?_
        refine k_next (e := [(0, (Value.int .i64 op1)), (5, (Value.pointer (some ⟨b2, 0, none⟩))), (6, (Value.pointer (some ⟨b3, 0, none⟩))), (7, (Value.pointer (some ⟨b4, 0, none⟩))), (8, (Value.pointer (some ⟨b5, 0, none⟩))), (40, (Value.int .i64 op1))]) ⟨rfl, rfl, rfl, rfl, rfl, rfl, trivial⟩ ?_
        refine c_block ?_
        refine c_seq ?_
        refine c_region rfl ?_
        refine s_q rfl rfl (y_eql rfl (ev_tmp rfl rfl) ev_const) ?_
        refine s_q rfl rfl (y_assign rfl (ev_tmp rfl rfl)) ?_
        refine s_nil ?_
        refine k_next (e := [(0, (Value.int .i64 op1)), (5, (Value.pointer (some ⟨b2, 0, none⟩))), (6, (Value.pointer (some ⟨b3, 0, none⟩))), (7, (Value.pointer (some ⟨b4, 0, none⟩))), (8, (Value.pointer (some ⟨b5, 0, none⟩))), (40, (Value.int .i64 op1)), (41, (Value.bool (decide (op1 = 8))))]) ⟨rfl, rfl, rfl, rfl, rfl, rfl, rfl, trivial⟩ ?_
        refine c_cond (b := decide (op1 = 8)) (ev_tmp rfl rfl) (fun hb => ?_) (fun hb => ?_)
        · replace h := ite_t hb h
          refine c_seq ?_
          refine c_region rfl ?_
          refine s_q rfl rfl (y_loadN (l := [(Value.int .i64 t1.Kind), (Value.int .i64 t1.Bits), (Value.int .i64 t1.Frac), (Value.int .i64 t1.Round), (Value.int .i64 t1.Over)]) rfl (ev_tmp rfl rfl) Tryz.underlying23 rfl size_23 (hI.kblk (l := [(Value.int .i64 t1.Kind), (Value.int .i64 t1.Bits), (Value.int .i64 t1.Frac), (Value.int .i64 t1.Round), (Value.int .i64 t1.Over)]) (.s (.s .z)) rfl).1) ?_
          refine s_q rfl rfl (y_loadN (l := [(Value.int .i64 a1.N), (Value.int .i64 a1.D)]) rfl (ev_tmp rfl rfl) Tryz.underlying27 rfl size_27 (hI.kblk (l := [(Value.int .i64 a1.N), (Value.int .i64 a1.D)]) (.s .z) rfl).1) ?_
          obtain ⟨r4, hx7, h⟩ := bnd_some h
          refine s_call rfl rfl (r_callF (vs := [(Value.agg #[(Value.int .i64 t1.Kind), (Value.int .i64 t1.Bits), (Value.int .i64 t1.Frac), (Value.int .i64 t1.Round), (Value.int .i64 t1.Over)]), (Value.agg #[(Value.int .i64 a1.N), (Value.int .i64 a1.D)])]) rfl ok_39 ⟨(ev_tmp rfl rfl), ⟨(ev_tmp rfl rfl), trivial⟩⟩) (Calls.mono (c_value_negate (Dj F c7) w9 hI.lt t1 a1 trivial r4 hx7) ?_)
          rintro _ w11 ⟨rfl, hx8, hl4⟩
          refine ⟨_, rfl, ?_⟩
          replace hI := (hI.ext hx8)
          refine s_q rfl rfl (y_extract rfl (ev_tmp rfl rfl) rfl) ?_
          refine s_q rfl rfl (y_extract rfl (ev_tmp rfl rfl) rfl) ?_
          refine l_store (new := [(Value.int .i64 r4.1.N), (Value.int .i64 r4.1.D)]) (cs' := #[(Value.int .i64 r4.1.N), (Value.int .i64 r4.1.D)]) hI .z rfl rfl rfl (ev_tmp rfl rfl) (ev_tmp rfl rfl) rfl size_27 rfl rfl rfl ?_
          clear hI; intro c11 w12 hI
          refine s_q rfl rfl (y_assign rfl (ev_tmp rfl rfl)) ?_
          refine s_nil ?_
          refine k_next (e := [(8, (Value.pointer (some ⟨b5, 0, none⟩))), (9, (Value.int .i64 r4.2))]) ⟨rfl, rfl, trivial⟩ ?_
          refine c_ret ?_
          obtain rfl := some_inj h
          exact q_ret (vs := [(Value.agg #[(Value.int .i64 r4.1.N), (Value.int .i64 r4.1.D)]), (Value.int .i64 r4.2)]) Tryz.results17 ⟨⟨_, ev_tmp rfl rfl, load_agg (l := [(Value.int .i64 r4.1.N), (Value.int .i64 r4.1.D)]) Tryz.underlying27 rfl size_27 (CellsAt.of_blk (hI.blk .z) rfl)⟩, ⟨ev_tmp rfl rfl, trivial⟩⟩ ⟨rfl, hI.ext0, hI.fin trivial⟩
        · replace h := ite_f hb h
          refine c_join (α := Bool) (fun _ => ⟨73, []⟩) (fun x => [(0, (Value.int .i64 op1)), (5, (Value.pointer (some ⟨b2, 0, none⟩))), (6, (Value.pointer (some ⟨b3, 0, none⟩))), (7, (Value.pointer (some ⟨b4, 0, none⟩))), (8, (Value.pointer (some ⟨b5, 0, none⟩))), (48, (Value.bool x))]) (fun x => fun w => ∃ C, Bun noM F w0 C w [MO.box b5 27 #[(Value.int .i64 0), (Value.int .i64 0)]] [Cl.blk b2 23 #[(Value.int .i64 t1.Kind), (Value.int .i64 t1.Bits), (Value.int .i64 t1.Frac), (Value.int .i64 t1.Round), (Value.int .i64 t1.Over)], Cl.blk b3 27 #[(Value.int .i64 a1.N), (Value.int .i64 a1.D)], Cl.blk b4 27 #[(Value.int .i64 b1.N), (Value.int .i64 b1.D)]] ∧ m_value_Apply_j1 t1 a1 b1 op1 x = some r) ?_ ?_
          · clear h hI; rintro i1 w13 ⟨c12, hI, h⟩
            try dsimp only at hI h
            rw [m_value_Apply_j1] at h
            refine c_sub (e := [(0, (Value.int .i64 op1)), (5, (Value.pointer (some ⟨b2, 0, none⟩))), (6, (Value.pointer (some ⟨b3, 0, none⟩))), (7, (Value.pointer (some ⟨b4, 0, none⟩))), (8, (Value.pointer (some ⟨b5, 0, none⟩))), (48, (Value.bool i1))]) ⟨rfl, rfl, rfl, rfl, rfl, rfl, trivial⟩ ?_
            refine c_cond (b := i1) (ev_tmp rfl rfl) (fun hb => ?_) (fun hb => ?_)
            · replace h := ite_t hb h
              refine c_seq ?_
              refine c_seq ?_
              refine c_region rfl ?_
              refine s_q rfl rfl (y_loadN (l := [(Value.int .i64 t1.Kind), (Value.int .i64 t1.Bits), (Value.int .i64 t1.Frac), (Value.int .i64 t1.Round), (Value.int .i64 t1.Over)]) rfl (ev_tmp rfl rfl) Tryz.underlying23 rfl size_23 (hI.kblk (l := [(Value.int .i64 t1.Kind), (Value.int .i64 t1.Bits), (Value.int .i64 t1.Frac), (Value.int .i64 t1.Round), (Value.int .i64 t1.Over)]) .z rfl).1) ?_
              refine s_q rfl rfl (y_loadN (l := [(Value.int .i64 a1.N), (Value.int .i64 a1.D)]) rfl (ev_tmp rfl rfl) Tryz.underlying27 rfl size_27 (hI.kblk (l := [(Value.int .i64 a1.N), (Value.int .i64 a1.D)]) (.s .z) rfl).1) ?_
              refine s_q rfl rfl (y_loadN (l := [(Value.int .i64 b1.N), (Value.int .i64 b1.D)]) rfl (ev_tmp rfl rfl) Tryz.underlying27 rfl size_27 (hI.kblk (l := [(Value.int .i64 b1.N), (Value.int .i64 b1.D)]) (.s (.s .z)) rfl).1) ?_
              obtain ⟨r5, hx9, h⟩ := bnd_some h
              refine s_call rfl rfl (r_callF (vs := [(Value.agg #[(Value.int .i64 t1.Kind), (Value.int .i64 t1.Bits), (Value.int .i64 t1.Frac), (Value.int .i64 t1.Round), (Value.int .i64 t1.Over)]), (Value.agg #[(Value.int .i64 a1.N), (Value.int .i64 a1.D)]), (Value.agg #[(Value.int .i64 b1.N), (Value.int .i64 b1.D)])]) rfl ok_40 ⟨(ev_tmp rfl rfl), ⟨(ev_tmp rfl rfl), ⟨(ev_tmp rfl rfl), trivial⟩⟩⟩) (Calls.mono (c_value_Compare (Dj F c12) w13 hI.lt t1 a1 b1 trivial r5 hx9) ?_)
              rintro _ w14 ⟨rfl, hx10, hl5⟩
              refine ⟨_, rfl, ?_⟩
              replace hI := (hI.ext hx10)
              refine s_q rfl rfl (y_assign rfl (ev_tmp rfl rfl)) ?_
              refine s_nil ?_
              refine k_next (e := [(0, (Value.int .i64 op1)), (6, (Value.pointer (some ⟨b3, 0, none⟩))), (7, (Value.pointer (some ⟨b4, 0, none⟩))), (8, (Value.pointer (some ⟨b5, 0, none⟩))), (10, (Value.int .i64 r5))]) ⟨rfl, rfl, rfl, rfl, rfl, trivial⟩ ?_
              refine c_seq ?_
              refine c_region rfl ?_
              refine s_q rfl rfl (y_move rfl (ev_tmp rfl rfl)) ?_
              refine s_q rfl rfl (y_gtr rfl (ev_tmp rfl rfl) ev_const) ?_
              refine s_q rfl rfl (y_move rfl (ev_tmp rfl rfl)) ?_
              refine s_q rfl rfl (y_eql rfl (ev_tmp rfl rfl) ev_const) ?_
              refine s_q rfl rfl (y_eqb rfl Tryz.underlying4 (ev_tmp rfl rfl) (ev_tmp rfl rfl)) ?_
              refine s_q rfl rfl (y_move rfl (ev_tmp rfl rfl)) ?_
              refine s_gval (g_true rfl rfl rfl rfl) rfl (fun hc => (y_move rfl (ev_tmp rfl rfl))) ?_
              refine s_gval (g_true rfl rfl rfl rfl) rfl (fun hc => (y_neq rfl (ev_gv (ev_tmp rfl rfl) hc) ev_const)) ?_
              refine s_q rfl rfl (y_and rfl (ev_tmp rfl rfl) (ev_tmp rfl rfl)) ?_
              refine s_nil ?_
              refine k_next (e := [(6, (Value.pointer (some ⟨b3, 0, none⟩))), (7, (Value.pointer (some ⟨b4, 0, none⟩))), (8, (Value.pointer (some ⟨b5, 0, none⟩))), (63, (Value.bool (((decide (0 < r5)) == (decide (op1 = 9))) && (!decide (r5 = 0)))))]) ⟨rfl, rfl, rfl, rfl, trivial⟩ ?_
              refine c_cond (b := ((decide (0 < r5)) == (decide (op1 = 9))) && (!decide (r5 = 0))) (ev_tmp rfl rfl) (fun hb => ?_) (fun hb => ?_)
              · replace h := ite_t hb h
                refine c_seq ?_
                refine c_region rfl ?_
                refine s_q rfl rfl (y_loadN (l := [(Value.int .i64 b1.N), (Value.int .i64 b1.D)]) rfl (ev_tmp rfl rfl) Tryz.underlying27 rfl size_27 (hI.kblk (l := [(Value.int .i64 b1.N), (Value.int .i64 b1.D)]) (.s (.s .z)) rfl).1) ?_
                refine l_store (new := [(Value.int .i64 b1.N), (Value.int .i64 b1.D)]) (cs' := #[(Value.int .i64 b1.N), (Value.int .i64 b1.D)]) hI .z rfl rfl rfl (ev_tmp rfl rfl) (ev_tmp rfl rfl) rfl size_27 rfl rfl rfl ?_
                clear hI; intro c13 w15 hI
                refine s_q rfl rfl (y_assign rfl ev_const) ?_
                refine s_nil ?_
                refine k_next (e := [(8, (Value.pointer (some ⟨b5, 0, none⟩))), (9, (Value.int .i64 0))]) ⟨rfl, rfl, trivial⟩ ?_
                refine c_ret ?_
                obtain rfl := some_inj h
                exact q_ret (vs := [(Value.agg #[(Value.int .i64 b1.N), (Value.int .i64 b1.D)]), (Value.int .i64 0)]) Tryz.results17 ⟨⟨_, ev_tmp rfl rfl, load_agg (l := [(Value.int .i64 b1.N), (Value.int .i64 b1.D)]) Tryz.underlying27 rfl size_27 (CellsAt.of_blk (hI.blk .z) rfl)⟩, ⟨ev_tmp rfl rfl, trivial⟩⟩ ⟨rfl, hI.ext0, hI.fin trivial⟩
              · replace h := ite_f hb h
                refine c_skip ?_
                refine k_next (e := [(6, (Value.pointer (some ⟨b3, 0, none⟩))), (8, (Value.pointer (some ⟨b5, 0, none⟩)))]) ⟨rfl, rfl, trivial⟩ ?_
                refine c_seq ?_
                refine c_region rfl ?_
                refine s_q rfl rfl (y_loadN (l := [(Value.int .i64 a1.N), (Value.int .i64 a1.D)]) rfl (ev_tmp rfl rfl) Tryz.underlying27 rfl size_27 (hI.kblk (l := [(Value.int .i64 a1.N), (Value.int .i64 a1.D)]) (.s .z) rfl).1) ?_
                refine l_store (new := [(Value.int .i64 a1.N), (Value.int .i64 a1.D)]) (cs' := #[(Value.int .i64 a1.N), (Value.int .i64 a1.D)]) hI .z rfl rfl rfl (ev_tmp rfl rfl) (ev_tmp rfl rfl) rfl size_27 rfl rfl rfl ?_
                clear hI; intro c14 w16 hI
                refine s_q rfl rfl (y_assign rfl ev_const) ?_
                refine s_nil ?_
                refine k_next (e := [(8, (Value.pointer (some ⟨b5, 0, none⟩))), (9, (Value.int .i64 0))]) ⟨rfl, rfl, trivial⟩ ?_
                refine c_ret ?_
                obtain rfl := some_inj h
                exact q_ret (vs := [(Value.agg #[(Value.int .i64 a1.N), (Value.int .i64 a1.D)]), (Value.int .i64 0)]) Tryz.results17 ⟨⟨_, ev_tmp rfl rfl, load_agg (l := [(Value.int .i64 a1.N), (Value.int .i64 a1.D)]) Tryz.underlying27 rfl size_27 (CellsAt.of_blk (hI.blk .z) rfl)⟩, ⟨ev_tmp rfl rfl, trivial⟩⟩ ⟨rfl, hI.ext0, hI.fin trivial⟩
            · replace h := ite_f hb h
              refine c_skip ?_
              refine k_next (e := [(0, (Value.int .i64 op1)), (5, (Value.pointer (some ⟨b2, 0, none⟩))), (6, (Value.pointer (some ⟨b3, 0, none⟩))), (7, (Value.pointer (some ⟨b4, 0, none⟩))), (8, (Value.pointer (some ⟨b5, 0, none⟩)))]) ⟨rfl, rfl, rfl, rfl, rfl, trivial⟩ ?_
              refine c_seq ?_
              refine c_region rfl ?_
              refine s_q rfl rfl (y_move rfl (ev_tmp rfl rfl)) ?_
              refine s_q rfl rfl (y_loadN (l := [(Value.int .i64 t1.Kind), (Value.int .i64 t1.Bits), (Value.int .i64 t1.Frac), (Value.int .i64 t1.Round), (Value.int .i64 t1.Over)]) rfl (ev_tmp rfl rfl) Tryz.underlying23 rfl size_23 (hI.kblk (l := [(Value.int .i64 t1.Kind), (Value.int .i64 t1.Bits), (Value.int .i64 t1.Frac), (Value.int .i64 t1.Round), (Value.int .i64 t1.Over)]) .z rfl).1) ?_
              refine s_q rfl rfl (y_loadN (l := [(Value.int .i64 a1.N), (Value.int .i64 a1.D)]) rfl (ev_tmp rfl rfl) Tryz.underlying27 rfl size_27 (hI.kblk (l := [(Value.int .i64 a1.N), (Value.int .i64 a1.D)]) (.s .z) rfl).1) ?_
              refine s_q rfl rfl (y_loadN (l := [(Value.int .i64 b1.N), (Value.int .i64 b1.D)]) rfl (ev_tmp rfl rfl) Tryz.underlying27 rfl size_27 (hI.kblk (l := [(Value.int .i64 b1.N), (Value.int .i64 b1.D)]) (.s (.s .z)) rfl).1) ?_
              obtain ⟨r6, hx11, h⟩ := bnd_some h
              refine s_call rfl rfl (r_callF (vs := [(Value.int .i64 op1), (Value.agg #[(Value.int .i64 t1.Kind), (Value.int .i64 t1.Bits), (Value.int .i64 t1.Frac), (Value.int .i64 t1.Round), (Value.int .i64 t1.Over)]), (Value.agg #[(Value.int .i64 a1.N), (Value.int .i64 a1.D)]), (Value.agg #[(Value.int .i64 b1.N), (Value.int .i64 b1.D)])]) rfl ok_41 ⟨(ev_tmp rfl rfl), ⟨(ev_tmp rfl rfl), ⟨(ev_tmp rfl rfl), ⟨(ev_tmp rfl rfl), trivial⟩⟩⟩⟩) (Calls.mono (c_value_arithmetic (Dj F c12) w13 hI.lt op1 t1 a1 b1 trivial r6 hx11) ?_)
              rintro _ w17 ⟨rfl, hx12, hl6⟩
              refine ⟨_, rfl, ?_⟩
              replace hI := (hI.ext hx12)
              refine s_q rfl rfl (y_extract rfl (ev_tmp rfl rfl) rfl) ?_
              refine s_q rfl rfl (y_extract rfl (ev_tmp rfl rfl) rfl) ?_
              refine l_store (new := [(Value.int .i64 r6.1.N), (Value.int .i64 r6.1.D)]) (cs' := #[(Value.int .i64 r6.1.N), (Value.int .i64 r6.1.D)]) hI .z rfl rfl rfl (ev_tmp rfl rfl) (ev_tmp rfl rfl) rfl size_27 rfl rfl rfl ?_
              clear hI; intro c15 w18 hI
              refine s_q rfl rfl (y_assign rfl (ev_tmp rfl rfl)) ?_
              refine s_nil ?_
              refine k_next (e := [(8, (Value.pointer (some ⟨b5, 0, none⟩))), (9, (Value.int .i64 r6.2))]) ⟨rfl, rfl, trivial⟩ ?_
              refine c_ret ?_
              obtain rfl := some_inj h
              exact q_ret (vs := [(Value.agg #[(Value.int .i64 r6.1.N), (Value.int .i64 r6.1.D)]), (Value.int .i64 r6.2)]) Tryz.results17 ⟨⟨_, ev_tmp rfl rfl, load_agg (l := [(Value.int .i64 r6.1.N), (Value.int .i64 r6.1.D)]) Tryz.underlying27 rfl size_27 (CellsAt.of_blk (hI.blk .z) rfl)⟩, ⟨ev_tmp rfl rfl, trivial⟩⟩ ⟨rfl, hI.ext0, hI.fin trivial⟩
          · skip
            refine c_seq ?_
            refine c_region rfl ?_
            refine s_q rfl rfl (y_eql rfl (ev_tmp rfl rfl) ev_const) ?_
            refine s_q rfl rfl (y_assign rfl (ev_tmp rfl rfl)) ?_
            refine s_nil ?_
            refine k_next (e := [(0, (Value.int .i64 op1)), (5, (Value.pointer (some ⟨b2, 0, none⟩))), (6, (Value.pointer (some ⟨b3, 0, none⟩))), (7, (Value.pointer (some ⟨b4, 0, none⟩))), (8, (Value.pointer (some ⟨b5, 0, none⟩))), (40, (Value.int .i64 op1)), (48, (Value.bool (decide (op1 = 9))))]) ⟨rfl, rfl, rfl, rfl, rfl, rfl, rfl, trivial⟩ ?_
            refine c_cond (b := decide (op1 = 9)) (ev_tmp rfl rfl) (fun hb => ?_) (fun hb => ?_)
            · replace h := ite_t hb h
              refine c_skip ?_
              exact k_join (decide (op1 = 9)) ⟨rfl, rfl, rfl, rfl, rfl, rfl, trivial⟩ ⟨_, hI.arr (.c .z .n) ⟨(.s (.s .z)), (.s .z), .z, trivial⟩, h⟩ rfl
            · replace h := ite_f hb h
              refine c_region rfl ?_
              refine s_q rfl rfl (y_eql rfl (ev_tmp rfl rfl) ev_const) ?_
              refine s_q rfl rfl (y_assign rfl (ev_tmp rfl rfl)) ?_
              refine s_nil ?_
              exact k_join (decide (op1 = 10)) ⟨rfl, rfl, rfl, rfl, rfl, rfl, trivial⟩ ⟨_, hI.arr (.c .z .n) ⟨(.s (.s .z)), (.s .z), .z, trivial⟩, h⟩ rfl

set_option maxRecDepth 100000 in
set_option maxHeartbeats 4000000 in
theorem c_fixed_ToFrac (F : NP) (w0 : World) (hF : ∀ k, F k → k < w0.heap.size) (t1 : GType) (v1 : GVal) (hc : AllCl [] F w0) (r : GVal × Int)
    (h : m_fixed_ToFrac t1 v1 = some r) :
    Calls Tryz.prog 68 #[(Value.agg #[(Value.int .i64 t1.Kind), (Value.int .i64 t1.Bits), (Value.int .i64 t1.Frac), (Value.int .i64 t1.Round), (Value.int .i64 t1.Over)]), (Value.agg #[(Value.int .i64 v1.N), (Value.int .i64 v1.D)])] w0 fun e w => e = .returned (Value.tuple #[(Value.agg #[(Value.int .i64 r.1.N), (Value.int .i64 r.1.D)]), (Value.int .i64 r.2)]) ∧ Ext w0 w ∧ AllCl [] F w := by
  refine ofEnter (R := fun v w => v = (Value.tuple #[(Value.agg #[(Value.int .i64 r.1.N), (Value.int .i64 r.1.D)]), (Value.int .i64 r.2)]) ∧ Ext w0 w ∧ AllCl [] F w) (enter (l := [(Value.agg #[(Value.int .i64 t1.Kind), (Value.int .i64 t1.Bits), (Value.int .i64 t1.Frac), (Value.int .i64 t1.Round), (Value.int .i64 t1.Over)]), (Value.agg #[(Value.int .i64 v1.N), (Value.int .i64 v1.D)])]) Tryz.func68 rfl Tryz.ntmps68 rfl ?_) ?_
  rotate_left
  · rintro _ w ⟨rfl, k1, k2⟩; exact ⟨rfl, k1, k2⟩
  have hI := Bun.start hF hc
  clear hc
  rw [m_fixed_ToFrac] at h
  refine c_seq ?_
  refine c_region rfl ?_
  refine l_box (v := (Value.agg #[(Value.int .i64 t1.Kind), (Value.int .i64 t1.Bits), (Value.int .i64 t1.Frac), (Value.int .i64 t1.Round), (Value.int .i64 t1.Over)])) (cs := #[(Value.int .i64 t1.Kind), (Value.int .i64 t1.Bits), (Value.int .i64 t1.Frac), (Value.int .i64 t1.Round), (Value.int .i64 t1.Over)]) hI rfl rfl rfl (ev_tmp rfl rfl) rfl ?_
  clear hI; intro b1 c1 w1 hI
  obtain ⟨c2, hI⟩ := hI.relBox .z
  refine l_box (v := (Value.agg #[(Value.int .i64 v1.N), (Value.int .i64 v1.D)])) (cs := #[(Value.int .i64 v1.N), (Value.int .i64 v1.D)]) hI rfl rfl rfl (ev_tmp rfl rfl) rfl ?_
  clear hI; intro b2 c3 w2 hI
  obtain ⟨c4, hI⟩ := hI.relBox .z
  refine l_alloc (cs := #[(Value.int .i64 0), (Value.int .i64 0)]) hI rfl rfl rfl zero_27 rfl ?_
  clear hI; intro b3 c5 w3 hI
  refine s_q rfl rfl (y_assign rfl ev_const) ?_
  refine s_nil ?_
  refine k_next (e := [(2, (Value.pointer (some ⟨b1, 0, none⟩))), (3, (Value.pointer (some ⟨b2, 0, none⟩))), (4, (Value.pointer (some ⟨b3, 0, none⟩)))]) ⟨rfl, rfl, rfl, trivial⟩ ?_
  refine c_seq ?_
  refine c_seq ?_
  refine c_region rfl ?_
  refine s_q rfl rfl (y_loadN (l := [(Value.int .i64 t1.Kind), (Value.int .i64 t1.Bits), (Value.int .i64 t1.Frac), (Value.int .i64 t1.Round), (Value.int .i64 t1.Over)]) rfl (ev_tmp rfl rfl) Tryz.underlying23 rfl size_23 (hI.kblk (l := [(Value.int .i64 t1.Kind), (Value.int .i64 t1.Bits), (Value.int .i64 t1.Frac), (Value.int .i64 t1.Round), (Value.int .i64 t1.Over)]) (.s .z) rfl).1) ?_
  refine s_q rfl rfl (y_loadN (l := [(Value.int .i64 v1.N), (Value.int .i64 v1.D)]) rfl (ev_tmp rfl rfl) Tryz.underlying27 rfl size_27 (hI.kblk (l := [(Value.int .i64 v1.N), (Value.int .i64 v1.D)]) .z rfl).1) ?_
  refine l_lit (c := cGVal) (xs := ([v1] : List GVal)) (vs := [(0, (Value.agg #[(Value.int .i64 v1.N), (Value.int .i64 v1.D)]))]) (cs := #[(Value.int .i64 v1.N), (Value.int .i64 v1.D)]) (css := [[(Value.int .i64 v1.N), (Value.int .i64 v1.D)]]) hI rfl rfl rfl Tryz.underlying24 info_27 rfl ⟨rfl, (ev_tmp rfl rfl), trivial⟩ (by kernel_rfl) ⟨rfl, trivial⟩ rfl rfl rfl ?_
  clear hI; intro b4 c6 w4 hI
  obtain ⟨r1, hx1, h⟩ := bnd_some h
  refine s_call rfl rfl (r_callF (vs := [(Value.agg #[(Value.int .i64 t1.Kind), (Value.int .i64 t1.Bits), (Value.int .i64 t1.Frac), (Value.int .i64 t1.Round), (Value.int .i64 t1.Over)]), (Value.slice (some ⟨b4, 0, none⟩) ([v1] : List GVal).length 1)]) rfl ok_97 ⟨(ev_tmp rfl rfl), ⟨(ev_tmp rfl rfl), trivial⟩⟩) (Calls.mono (c_fixed_check noM w4 (fun _ k => k.elim) t1 ([v1] : List GVal) (some ⟨b4, 0, none⟩) 1 ⟨hI.lend .z, trivial⟩ r1 hx1) ?_)
  rintro _ w5 ⟨rfl, hx2, hl1⟩
  refine ⟨_, rfl, ?_⟩
  replace hI := (hI.ext hx2)
  refine s_q rfl rfl (y_assign rfl (ev_tmp rfl rfl)) ?_
  refine s_nil ?_
  refine k_next (e := [(2, (Value.pointer (some ⟨b1, 0, none⟩))), (3, (Value.pointer (some ⟨b2, 0, none⟩))), (4, (Value.pointer (some ⟨b3, 0, none⟩))), (6, (Value.int .i64 r1))]) ⟨rfl, rfl, rfl, rfl, trivial⟩ ?_
  refine c_seq ?_
  refine c_region rfl ?_
  refine s_q rfl rfl (y_move rfl (ev_tmp rfl rfl)) ?_
  refine s_q rfl rfl (y_neq rfl (ev_tmp rfl rfl) ev_const) ?_
  refine s_nil ?_
  refine k_next (e := [(2, (Value.pointer (some ⟨b1, 0, none⟩))), (3, (Value.pointer (some ⟨b2, 0, none⟩))), (4, (Value.pointer (some ⟨b3, 0, none⟩))), (6, (Value.int .i64 r1)), (12, (Value.bool (!decide (r1 = 0))))]) ⟨rfl, rfl, rfl, rfl, rfl, trivial⟩ ?_
  refine c_cond (b := !decide (r1 = 0)) (ev_tmp rfl rfl) (fun hb => ?_) (fun hb => ?_)
  · replace h := ite_t hb h
    refine c_seq ?_
    refine c_region rfl ?_
    refine s_q rfl rfl (y_build (vs := []) (cs := #[(Value.int .i64 0), (Value.int .i64 0)]) rfl trivial (by kernel_rfl)) ?_
    refine s_q rfl rfl (y_move rfl (ev_tmp rfl rfl)) ?_
    refine l_store (new := [(Value.int .i64 0), (Value.int .i64 0)]) (cs' := #[(Value.int .i64 0), (Value.int .i64 0)]) hI (.s .z) rfl rfl rfl (ev_tmp rfl rfl) (ev_tmp rfl rfl) rfl size_27 rfl rfl rfl ?_
    clear hI; intro c7 w6 hI
    refine s_q rfl rfl (y_assign rfl (ev_tmp rfl rfl)) ?_
    refine s_nil ?_
    refine k_next (e := [(4, (Value.pointer (some ⟨b3, 0, none⟩))), (5, (Value.int .i64 r1))]) ⟨rfl, rfl, trivial⟩ ?_
    refine c_ret ?_
    obtain rfl := some_inj h
    exact q_ret (vs := [(Value.agg #[(Value.int .i64 0), (Value.int .i64 0)]), (Value.int .i64 r1)]) Tryz.results68 ⟨⟨_, ev_tmp rfl rfl, load_agg (l := [(Value.int .i64 0), (Value.int .i64 0)]) Tryz.underlying27 rfl size_27 (CellsAt.of_blk (hI.blk (.s .z)) rfl)⟩, ⟨ev_tmp rfl rfl, trivial⟩⟩ ⟨rfl, hI.ext0, hI.fin trivial⟩
  · replace h := ite_f hb h
    refine c_skip ?_
    refine k_next (e := [(2, (Value.pointer (some ⟨b1, 0, none⟩))), (3, (Value.pointer (some ⟨b2, 0, none⟩))), (4, (Value.pointer (some ⟨b3, 0, none⟩)))]) ⟨rfl, rfl, rfl, trivial⟩ ?_
    refine c_seq ?_
    refine c_drawX [8] false (.c (0, .q) (.c (1, .q) (.c (2, .q) (.c (3, .q) (.c (4, .q) (.c (5, .s) (.c (6, .q) (.c (7, .q) (.c (8, .s) (.c (9, .q) .n)))))))))) hI (by kernel_rfl) (by kernel_rfl) ?_
    clear hI; intro w7 hI
    refine a_q rfl rfl rfl (fun w' => (y_fieldAddr rfl (ev_tmp rfl rfl) Tryz.underlying27 rfl size_2 rfl)) ?_
    refine a_read rfl rfl rfl (fun w' hw' => (y_load1 (v := (Value.int .i64 v1.N)) rfl (ev_tmp rfl rfl) Tryz.underlying2 rfl ((hI.kblk (l := [(Value.int .i64 v1.N)]) .z rfl).at_ (SX.any rfl hw')))) (by kernel_rfl) ?_
    refine a_q rfl rfl rfl (fun w' => (y_fieldAddr rfl (ev_tmp rfl rfl) Tryz.underlying23 rfl size_3 rfl)) ?_
    refine a_read rfl rfl rfl (fun w' hw' => (y_load1 (v := (Value.int .i64 t1.Frac)) rfl (ev_tmp rfl rfl) Tryz.underlying3 rfl ((hI.kblk (l := [(Value.int .i64 t1.Frac)]) (.s .z) rfl).at_ (SX.any rfl hw')))) (by kernel_rfl) ?_
    obtain ⟨ho1, h⟩ := chk_some h
    refine a_q rfl rfl rfl (fun w' => (y_shl rfl ev_const (ev_tmp rfl rfl) ho1)) ?_
    obtain ⟨r2, hx3, h⟩ := bnd_some h
    refine la_call rfl rfl rfl (r_callF (vs := [(Value.int .i64 v1.N), (Value.int .i64 (wi64 (1 * 2 ^ (min (Int.toNat t1.Frac) 64))))]) rfl ok_98 ⟨(ev_tmp rfl rfl), ⟨(ev_tmp rfl rfl), trivial⟩⟩) (Calls.mono (c_frac_New (Dj F c6) w7 hI.lt v1.N (wi64 (1 * 2 ^ (min (Int.toNat t1.Frac) 64))) trivial r2 hx3) ?_)
    rintro _ w8 ⟨rfl, hx4, hl2⟩
    refine ⟨_, rfl, hx4, ?_⟩
    replace hI := (hI.ext hx4)
    refine a_q rfl rfl rfl (fun w' => (y_extract rfl (ev_tmp rfl rfl) rfl)) ?_
    refine a_q rfl rfl rfl (fun w' => (y_extract rfl (ev_tmp rfl rfl) rfl)) ?_
    refine a_turn (F := F) (C := c6) rfl rfl ?_
    refine la_store (new := [(Value.int .i64 r2.1.N), (Value.int .i64 r2.1.D)]) (cs' := #[(Value.int .i64 r2.1.N), (Value.int .i64 r2.1.D)]) hI (.s .z) rfl rfl rfl rfl (ev_tmp rfl rfl) (ev_tmp rfl rfl) rfl size_27 rfl rfl rfl ?_
    clear hI; intro c8 w9 hI
    refine a_q rfl rfl rfl (fun w' => (y_assign rfl (ev_tmp rfl rfl))) ?_
    refine a_nil ?_
    refine k_next (e := [(4, (Value.pointer (some ⟨b3, 0, none⟩))), (5, (Value.int .i64 r2.2))]) ⟨rfl, rfl, trivial⟩ ?_
    refine c_ret ?_
    obtain rfl := some_inj h
    exact q_ret (vs := [(Value.agg #[(Value.int .i64 r2.1.N), (Value.int .i64 r2.1.D)]), (Value.int .i64 r2.2)]) Tryz.results68 ⟨⟨_, ev_tmp rfl rfl, load_agg (l := [(Value.int .i64 r2.1.N), (Value.int .i64 r2.1.D)]) Tryz.underlying27 rfl size_27 (CellsAt.of_blk (hI.blk (.s .z)) rfl)⟩, ⟨ev_tmp rfl rfl, trivial⟩⟩ ⟨rfl, hI.ext0, hI.fin trivial⟩

set_option maxRecDepth 100000 in
set_option maxHeartbeats 4000000 in
theorem c_value_fraction (F : NP) (w0 : World) (hF : ∀ k, F k → k < w0.heap.size) (t1 : GType) (v1 : GVal) (hc : AllCl [] F w0) (r : GVal)
    (h : m_value_fraction t1 v1 = some r) :
    Calls Tryz.prog 35 #[(Value.agg #[(Value.int .i64 t1.Kind), (Value.int .i64 t1.Bits), (Value.int .i64 t1.Frac), (Value.int .i64 t1.Round), (Value.int .i64 t1.Over)]), (Value.agg #[(Value.int .i64 v1.N), (Value.int .i64 v1.D)])] w0 fun e w => e = .returned (Value.agg #[(Value.int .i64 r.N), (Value.int .i64 r.D)]) ∧ Ext w0 w ∧ AllCl [] F w := by
  refine ofEnter (R := fun v w => v = (Value.agg #[(Value.int .i64 r.N), (Value.int .i64 r.D)]) ∧ Ext w0 w ∧ AllCl [] F w) (enter (l := [(Value.agg #[(Value.int .i64 t1.Kind), (Value.int .i64 t1.Bits), (Value.int .i64 t1.Frac), (Value.int .i64 t1.Round), (Value.int .i64 t1.Over)]), (Value.agg #[(Value.int .i64 v1.N), (Value.int .i64 v1.D)])]) Tryz.func35 rfl Tryz.ntmps35 rfl ?_) ?_
  rotate_left
  · rintro _ w ⟨rfl, k1, k2⟩; exact ⟨rfl, k1, k2⟩
  have hI := Bun.start hF hc
  clear hc
  rw [m_value_fraction] at h
  refine c_seq ?_
  refine c_region rfl ?_
  refine l_box (v := (Value.agg #[(Value.int .i64 t1.Kind), (Value.int .i64 t1.Bits), (Value.int .i64 t1.Frac), (Value.int .i64 t1.Round), (Value.int .i64 t1.Over)])) (cs := #[(Value.int .i64 t1.Kind), (Value.int .i64 t1.Bits), (Value.int .i64 t1.Frac), (Value.int .i64 t1.Round), (Value.int .i64 t1.Over)]) hI rfl rfl rfl (ev_tmp rfl rfl) rfl ?_
  clear hI; intro b1 c1 w1 hI
  obtain ⟨c2, hI⟩ := hI.relBox .z
  refine l_box (v := (Value.agg #[(Value.int .i64 v1.N), (Value.int .i64 v1.D)])) (cs := #[(Value.int .i64 v1.N), (Value.int .i64 v1.D)]) hI rfl rfl rfl (ev_tmp rfl rfl) rfl ?_
  clear hI; intro b2 c3 w2 hI
  obtain ⟨c4, hI⟩ := hI.relBox .z
  refine l_alloc (cs := #[(Value.int .i64 0), (Value.int .i64 0)]) hI rfl rfl rfl zero_27 rfl ?_
  clear hI; intro b3 c5 w3 hI
  refine s_nil ?_
  refine k_next (e := [(2, (Value.pointer (some ⟨b1, 0, none⟩))), (3, (Value.pointer (some ⟨b2, 0, none⟩))), (4, (Value.pointer (some ⟨b3, 0, none⟩)))]) ⟨rfl, rfl, rfl, trivial⟩ ?_
  refine c_seq ?_
  refine c_seq ?_
  refine c_region rfl ?_
  refine s_q rfl rfl (y_fieldAddr rfl (ev_tmp rfl rfl) Tryz.underlying23 rfl size_3 rfl) ?_
  refine s_q rfl rfl (y_load1 (v := (Value.int .i64 t1.Kind)) rfl (ev_tmp rfl rfl) Tryz.underlying3 rfl (hI.kblk (l := [(Value.int .i64 t1.Kind)]) (.s .z) rfl).1) ?_
  refine s_q rfl rfl (y_eql rfl (ev_tmp rfl rfl) ev_const) ?_
  refine s_nil ?_
  refine k_next (e := [(2, (Value.pointer (some ⟨b1, 0, none⟩))), (3, (Value.pointer (some ⟨b2, 0, none⟩))), (4, (Value.pointer (some ⟨b3, 0, none⟩))), (9, (Value.bool (decide (t1.Kind = 2))))]) ⟨rfl, rfl, rfl, rfl, trivial⟩ ?_
  refine c_cond (b := decide (t1.Kind = 2)) (ev_tmp rfl rfl) (fun hb => ?_) (fun hb => ?_)
  · replace h := ite_t hb h
    refine c_seq ?_
    refine c_region rfl ?_
    refine s_q rfl rfl (y_loadN (l := [(Value.int .i64 t1.Kind), (Value.int .i64 t1.Bits), (Value.int .i64 t1.Frac), (Value.int .i64 t1.Round), (Value.int .i64 t1.Over)]) rfl (ev_tmp rfl rfl) Tryz.underlying23 rfl size_23 (hI.kblk (l := [(Value.int .i64 t1.Kind), (Value.int .i64 t1.Bits), (Value.int .i64 t1.Frac), (Value.int .i64 t1.Round), (Value.int .i64 t1.Over)]) (.s .z) rfl).1) ?_
    refine s_q rfl rfl (y_loadN (l := [(Value.int .i64 v1.N), (Value.int .i64 v1.D)]) rfl (ev_tmp rfl rfl) Tryz.underlying27 rfl size_27 (hI.kblk (l := [(Value.int .i64 v1.N), (Value.int .i64 v1.D)]) .z rfl).1) ?_
    obtain ⟨r1, hx1, h⟩ := bnd_some h
    refine s_call rfl rfl (r_callF (vs := [(Value.agg #[(Value.int .i64 t1.Kind), (Value.int .i64 t1.Bits), (Value.int .i64 t1.Frac), (Value.int .i64 t1.Round), (Value.int .i64 t1.Over)]), (Value.agg #[(Value.int .i64 v1.N), (Value.int .i64 v1.D)])]) rfl ok_68 ⟨(ev_tmp rfl rfl), ⟨(ev_tmp rfl rfl), trivial⟩⟩) (Calls.mono (c_fixed_ToFrac (Dj F c5) w3 hI.lt t1 v1 trivial r1 hx1) ?_)
    rintro _ w4 ⟨rfl, hx2, hl1⟩
    refine ⟨_, rfl, ?_⟩
    replace hI := (hI.ext hx2)
    refine s_q rfl rfl (y_move rfl (ev_tmp rfl rfl)) ?_
    refine s_q rfl rfl (y_extract rfl (ev_tmp rfl rfl) rfl) ?_
    refine s_q rfl rfl (y_extract rfl (ev_tmp rfl rfl) rfl) ?_
    refine l_alloc (cs := #[(Value.int .i64 0), (Value.int .i64 0)]) hI rfl rfl rfl zero_27 rfl ?_
    clear hI; intro b4 c6 w5 hI
    refine l_store (new := [(Value.int .i64 r1.1.N), (Value.int .i64 r1.1.D)]) (cs' := #[(Value.int .i64 r1.1.N), (Value.int .i64 r1.1.D)]) hI .z rfl rfl rfl (ev_tmp rfl rfl) (ev_tmp rfl rfl) rfl size_27 rfl rfl rfl ?_
    clear hI; intro c7 w6 hI
    refine s_q rfl rfl (y_assign rfl (ev_tmp rfl rfl)) ?_
    refine s_nil ?_
    refine k_next (e := [(4, (Value.pointer (some ⟨b3, 0, none⟩))), (5, (Value.pointer (some ⟨b4, 0, none⟩)))]) ⟨rfl, rfl, trivial⟩ ?_
    refine c_seq ?_
    refine c_region rfl ?_
    refine s_q rfl rfl (y_loadN (l := [(Value.int .i64 r1.1.N), (Value.int .i64 r1.1.D)]) rfl (ev_tmp rfl rfl) Tryz.underlying27 rfl size_27 (CellsAt.of_blk (hI.blk .z) rfl)) ?_
    refine l_store (new := [(Value.int .i64 r1.1.N), (Value.int .i64 r1.1.D)]) (cs' := #[(Value.int .i64 r1.1.N), (Value.int .i64 r1.1.D)]) hI (.s .z) rfl rfl rfl (ev_tmp rfl rfl) (ev_tmp rfl rfl) rfl size_27 rfl rfl rfl ?_
    clear hI; intro c8 w7 hI
    refine s_nil ?_
    refine k_next (e := [(4, (Value.pointer (some ⟨b3, 0, none⟩)))]) ⟨rfl, trivial⟩ ?_
    refine c_ret ?_
    obtain rfl := some_inj h
    exact q_ret (vs := [(Value.agg #[(Value.int .i64 r1.1.N), (Value.int .i64 r1.1.D)])]) Tryz.results35 ⟨⟨_, ev_tmp rfl rfl, load_agg (l := [(Value.int .i64 r1.1.N), (Value.int .i64 r1.1.D)]) Tryz.underlying27 rfl size_27 (CellsAt.of_blk (hI.blk (.s .z)) rfl)⟩, trivial⟩ ⟨rfl, hI.ext0, hI.fin trivial⟩
  · replace h := ite_f hb h
    refine c_skip ?_
    refine k_next (e := [(3, (Value.pointer (some ⟨b2, 0, none⟩))), (4, (Value.pointer (some ⟨b3, 0, none⟩)))]) ⟨rfl, rfl, trivial⟩ ?_
    refine c_seq ?_
    refine c_region rfl ?_
    refine s_q rfl rfl (y_loadN (l := [(Value.int .i64 v1.N), (Value.int .i64 v1.D)]) rfl (ev_tmp rfl rfl) Tryz.underlying27 rfl size_27 (hI.kblk (l := [(Value.int .i64 v1.N), (Value.int .i64 v1.D)]) .z rfl).1) ?_
    refine l_store (new := [(Value.int .i64 v1.N), (Value.int .i64 v1.D)]) (cs' := #[(Value.int .i64 v1.N), (Value.int .i64 v1.D)]) hI .z rfl rfl rfl (ev_tmp rfl rfl) (ev_tmp rfl rfl) rfl size_27 rfl rfl rfl ?_
    clear hI; intro c9 w8 hI
    refine s_nil ?_
    refine k_next (e := [(4, (Value.pointer (some ⟨b3, 0, none⟩)))]) ⟨rfl, trivial⟩ ?_
    refine c_ret ?_
    obtain rfl := some_inj h
    exact q_ret (vs := [(Value.agg #[(Value.int .i64 v1.N), (Value.int .i64 v1.D)])]) Tryz.results35 ⟨⟨_, ev_tmp rfl rfl, load_agg (l := [(Value.int .i64 v1.N), (Value.int .i64 v1.D)]) Tryz.underlying27 rfl size_27 (CellsAt.of_blk (hI.blk .z) rfl)⟩, trivial⟩ ⟨rfl, hI.ext0, hI.fin trivial⟩

set_option maxRecDepth 100000 in
set_option maxHeartbeats 4000000 in
theorem c_frac_Floor (F : NP) (w0 : World) (hF : ∀ k, F k → k < w0.heap.size) (a1 : GVal) (hc : AllCl [] F w0) (r : Int)
    (h : m_frac_Floor a1 = some r) :
    Calls Tryz.prog 42 #[(Value.agg #[(Value.int .i64 a1.N), (Value.int .i64 a1.D)])] w0 fun e w => e = .returned (Value.int .i64 r) ∧ Ext w0 w ∧ AllCl [] F w := by
  refine ofEnter (R := fun v w => v = (Value.int .i64 r) ∧ Ext w0 w ∧ AllCl [] F w) (enter (l := [(Value.agg #[(Value.int .i64 a1.N), (Value.int .i64 a1.D)])]) Tryz.func42 rfl Tryz.ntmps42 rfl ?_) ?_
  rotate_left
  · rintro _ w ⟨rfl, k1, k2⟩; exact ⟨rfl, k1, k2⟩
  have hI := Bun.start hF hc
  clear hc
  rw [m_frac_Floor] at h
  refine c_seq ?_
  refine c_region rfl ?_
  refine l_box (v := (Value.agg #[(Value.int .i64 a1.N), (Value.int .i64 a1.D)])) (cs := #[(Value.int .i64 a1.N), (Value.int .i64 a1.D)]) hI rfl rfl rfl (ev_tmp rfl rfl) rfl ?_
  clear hI; intro b1 c1 w1 hI
  obtain ⟨c2, hI⟩ := hI.relBox .z
  refine s_q rfl rfl (y_assign rfl ev_const) ?_
  refine s_nil ?_
  refine k_next (e := [(1, (Value.pointer (some ⟨b1, 0, none⟩)))]) ⟨rfl, trivial⟩ ?_
  refine c_seq ?_
  refine c_seq ?_
  refine c_region rfl ?_
  refine s_q rfl rfl (y_loadN (l := [(Value.int .i64 a1.N), (Value.int .i64 a1.D)]) rfl (ev_tmp rfl rfl) Tryz.underlying27 rfl size_27 (hI.kblk (l := [(Value.int .i64 a1.N), (Value.int .i64 a1.D)]) .z rfl).1) ?_
  obtain ⟨r1, hx1, h⟩ := bnd_some h
  refine s_call rfl rfl (r_callF (vs := [(Value.agg #[(Value.int .i64 a1.N), (Value.int .i64 a1.D)])]) rfl ok_45 ⟨(ev_tmp rfl rfl), trivial⟩) (Calls.mono (c_frac_Valid (Dj F c2) w1 hI.lt a1 trivial r1 hx1) ?_)
  rintro _ w2 ⟨rfl, hx2, hl1⟩
  refine ⟨_, rfl, ?_⟩
  replace hI := (hI.ext hx2)
  refine s_q rfl rfl (y_not rfl (ev_tmp rfl rfl)) ?_
  refine s_nil ?_
  refine k_next (e := [(1, (Value.pointer (some ⟨b1, 0, none⟩))), (6, (Value.bool (!r1)))]) ⟨rfl, rfl, trivial⟩ ?_
  refine c_cond (b := !r1) (ev_tmp rfl rfl) (fun hb => ?_) (fun hb => ?_)
  · replace h := ite_t hb h
    refine c_seq ?_
    refine c_region rfl ?_
    refine s_q rfl rfl (y_assign rfl ev_const) ?_
    refine s_nil ?_
    refine k_next (e := [(2, (Value.int .i64 0))]) ⟨rfl, trivial⟩ ?_
    refine c_ret ?_
    obtain rfl := some_inj h
    exact q_ret (vs := [(Value.int .i64 0)]) Tryz.results42 ⟨ev_tmp rfl rfl, trivial⟩ ⟨rfl, hI.ext0, hI.fin trivial⟩
  · replace h := ite_f hb h
    refine c_skip ?_
    refine k_next (e := [(1, (Value.pointer (some ⟨b1, 0, none⟩)))]) ⟨rfl, trivial⟩ ?_
    refine c_seq ?_
    refine c_region rfl ?_
    refine s_q rfl rfl (y_fieldAddr rfl (ev_tmp rfl rfl) Tryz.underlying27 rfl size_2 rfl) ?_
    refine s_q rfl rfl (y_load1 (v := (Value.int .i64 a1.N)) rfl (ev_tmp rfl rfl) Tryz.underlying2 rfl (hI.kblk (l := [(Value.int .i64 a1.N)]) .z rfl).1) ?_
    refine s_q rfl rfl (y_fieldAddr rfl (ev_tmp rfl rfl) Tryz.underlying27 rfl size_2 rfl) ?_
    refine s_q rfl rfl (y_load1 (v := (Value.int .i64 a1.D)) rfl (ev_tmp rfl rfl) Tryz.underlying2 rfl (hI.kblk (l := [(Value.int .i64 a1.D)]) .z rfl).1) ?_
    obtain ⟨ho1, h⟩ := chk_some h
    refine s_q rfl rfl (y_quo rfl (ev_tmp rfl rfl) (ev_tmp rfl rfl) ho1) ?_
    obtain ⟨q1, hx3, h⟩ := bnd_some h
    refine s_q rfl rfl (binU (y_assign rfl (ev_tmp rfl rfl)) (congrArg (Value.int .i64) (some_inj hx3))) ?_
    refine s_nil ?_
    refine k_next (e := [(1, (Value.pointer (some ⟨b1, 0, none⟩))), (3, (Value.int .i64 q1))]) ⟨rfl, rfl, trivial⟩ ?_
    refine c_seq ?_
    refine c_seq ?_
    refine c_region rfl ?_
    refine s_q rfl rfl (y_fieldAddr rfl (ev_tmp rfl rfl) Tryz.underlying27 rfl size_2 rfl) ?_
    refine s_q rfl rfl (y_load1 (v := (Value.int .i64 a1.N)) rfl (ev_tmp rfl rfl) Tryz.underlying2 rfl (hI.kblk (l := [(Value.int .i64 a1.N)]) .z rfl).1) ?_
    refine s_q rfl rfl (y_fieldAddr rfl (ev_tmp rfl rfl) Tryz.underlying27 rfl size_2 rfl) ?_
    refine s_q rfl rfl (y_load1 (v := (Value.int .i64 a1.D)) rfl (ev_tmp rfl rfl) Tryz.underlying2 rfl (hI.kblk (l := [(Value.int .i64 a1.D)]) .z rfl).1) ?_
    refine s_q rfl rfl (y_rem rfl (ev_tmp rfl rfl) (ev_tmp rfl rfl) ho1) ?_
    refine s_q rfl rfl (y_lss rfl (ev_tmp rfl rfl) ev_const) ?_
    refine s_nil ?_
    refine k_next (e := [(3, (Value.int .i64 q1)), (17, (Value.bool (decide (Int.tmod a1.N a1.D < 0))))]) ⟨rfl, rfl, trivial⟩ ?_
    refine c_cond (b := decide (Int.tmod a1.N a1.D < 0)) (ev_tmp rfl rfl) (fun hb => ?_) (fun hb => ?_)
    · replace h := ite_t hb h
      refine c_region rfl ?_
      refine s_q rfl rfl (y_move rfl (ev_tmp rfl rfl)) ?_
      refine s_q rfl rfl (y_sub rfl (ev_tmp rfl rfl) ev_const) ?_
      refine s_q rfl rfl (y_assign rfl (ev_tmp rfl rfl)) ?_
      refine s_nil ?_
      refine k_next (e := [(3, (Value.int .i64 (wi64 (q1 - 1))))]) ⟨rfl, trivial⟩ ?_
      refine c_seq ?_
      refine c_region rfl ?_
      refine s_q rfl rfl (y_move rfl (ev_tmp rfl rfl)) ?_
      refine s_q rfl rfl (y_assign rfl (ev_tmp rfl rfl)) ?_
      refine s_nil ?_
      refine k_next (e := [(2, (Value.int .i64 (wi64 (q1 - 1))))]) ⟨rfl, trivial⟩ ?_
      refine c_ret ?_
      obtain rfl := some_inj h
      exact q_ret (vs := [(Value.int .i64 (wi64 (q1 - 1)))]) Tryz.results42 ⟨ev_tmp rfl rfl, trivial⟩ ⟨rfl, hI.ext0, hI.fin trivial⟩
    · replace h := ite_f hb h
      refine c_skip ?_
      refine k_next (e := [(3, (Value.int .i64 q1))]) ⟨rfl, trivial⟩ ?_
      refine c_seq ?_
      refine c_region rfl ?_
      refine s_q rfl rfl (y_move rfl (ev_tmp rfl rfl)) ?_
      refine s_q rfl rfl (y_assign rfl (ev_tmp rfl rfl)) ?_
      refine s_nil ?_
      refine k_next (e := [(2, (Value.int .i64 q1))]) ⟨rfl, trivial⟩ ?_
      refine c_ret ?_
      obtain rfl := some_inj h
      exact q_ret (vs := [(Value.int .i64 q1)]) Tryz.results42 ⟨ev_tmp rfl rfl, trivial⟩ ⟨rfl, hI.ext0, hI.fin trivial⟩

set_option maxRecDepth 100000 in
set_option maxHeartbeats 4000000 in
theorem c_round_Quantize (F : NP) (w0 : World) (hF : ∀ k, F k → k < w0.heap.size) (a1 : GVal) (bits1 : Int) (how1 : Int) (hc : AllCl [] F w0) (r : Int × Int)
    (h : m_round_Quantize a1 bits1 how1 = some r) :
    Calls Tryz.prog 83 #[(Value.agg #[(Value.int .i64 a1.N), (Value.int .i64 a1.D)]), (Value.int .i64 bits1), (Value.int .i64 how1)] w0 fun e w => e = .returned (Value.tuple #[(Value.int .i64 r.1), (Value.int .i64 r.2)]) ∧ Ext w0 w ∧ AllCl [] F w := by
  refine ofEnter (R := fun v w => v = (Value.tuple #[(Value.int .i64 r.1), (Value.int .i64 r.2)]) ∧ Ext w0 w ∧ AllCl [] F w) (enter (l := [(Value.agg #[(Value.int .i64 a1.N), (Value.int .i64 a1.D)]), (Value.int .i64 bits1), (Value.int .i64 how1)]) Tryz.func83 rfl Tryz.ntmps83 rfl ?_) ?_
  rotate_left
  · rintro _ w ⟨rfl, k1, k2⟩; exact ⟨rfl, k1, k2⟩
  have hI := Bun.start hF hc
  clear hc
  rw [m_round_Quantize] at h
  refine c_seq ?_
  refine c_region rfl ?_
  refine l_box (v := (Value.agg #[(Value.int .i64 a1.N), (Value.int .i64 a1.D)])) (cs := #[(Value.int .i64 a1.N), (Value.int .i64 a1.D)]) hI rfl rfl rfl (ev_tmp rfl rfl) rfl ?_
  clear hI; intro b1 c1 w1 hI
  obtain ⟨c2, hI⟩ := hI.relBox .z
  refine s_q rfl rfl (y_assign rfl ev_const) ?_
  refine s_q rfl rfl (y_assign rfl ev_const) ?_
  refine s_nil ?_
  refine k_next (e := [(1, (Value.int .i64 bits1)), (2, (Value.int .i64 how1)), (3, (Value.pointer (some ⟨b1, 0, none⟩)))]) ⟨rfl, rfl, rfl, trivial⟩ ?_
  refine c_seq ?_
  refine c_seq ?_
  refine c_region rfl ?_
  refine s_q rfl rfl (y_loadN (l := [(Value.int .i64 a1.N), (Value.int .i64 a1.D)]) rfl (ev_tmp rfl rfl) Tryz.underlying27 rfl size_27 (hI.kblk (l := [(Value.int .i64 a1.N), (Value.int .i64 a1.D)]) .z rfl).1) ?_
  obtain ⟨r1, hx1, h⟩ := bnd_some h
  refine s_call rfl rfl (r_callF (vs := [(Value.agg #[(Value.int .i64 a1.N), (Value.int .i64 a1.D)])]) rfl ok_45 ⟨(ev_tmp rfl rfl), trivial⟩) (Calls.mono (c_frac_Valid (Dj F c2) w1 hI.lt a1 trivial r1 hx1) ?_)
  rintro _ w2 ⟨rfl, hx2, hl1⟩
  refine ⟨_, rfl, ?_⟩
  replace hI := (hI.ext hx2)
  refine s_q rfl rfl (y_not rfl (ev_tmp rfl rfl)) ?_
  refine s_q rfl rfl (y_move rfl (ev_tmp rfl rfl)) ?_
  refine s_gval (g_false rfl rfl rfl rfl) rfl (fun hc => (y_move rfl (ev_tmp rfl rfl))) ?_
  refine s_gval (g_false rfl rfl rfl rfl) rfl (fun hc => (y_lss rfl (ev_gv (ev_tmp rfl rfl) hc) ev_const)) ?_
  refine s_q rfl rfl (y_or rfl (ev_tmp rfl rfl) (ev_tmp rfl rfl)) ?_
  refine s_q rfl rfl (y_move rfl (ev_tmp rfl rfl)) ?_
  refine s_gval (g_false rfl rfl rfl rfl) rfl (fun hc => (y_move rfl (ev_tmp rfl rfl))) ?_
  refine s_gval (g_false rfl rfl rfl rfl) rfl (fun hc => (y_gtr rfl (ev_gv (ev_tmp rfl rfl) hc) ev_const)) ?_
  refine s_q rfl rfl (y_or rfl (ev_tmp rfl rfl) (ev_tmp rfl rfl)) ?_
  refine s_q rfl rfl (y_move rfl (ev_tmp rfl rfl)) ?_
  refine s_gval (g_false rfl rfl rfl rfl) rfl (fun hc => (y_move rfl (ev_tmp rfl rfl))) ?_
  obtain ⟨r2, hx3, h⟩ := bnd_some h
  replace hx3 := gd_some hx3
  refine s_gcallU (v := (Value.bool r2)) (g_false rfl rfl rfl rfl) rfl (fun hc => (r_callF (vs := [(Value.int .i64 how1)]) rfl ok_109 ⟨(ev_gv (ev_tmp rfl rfl) hc), trivial⟩)) (fun hc => (c_round_mode (Dj F c2) w2 hI.lt how1 trivial r2 (hx3 hc)).mono fun _ _ k => ⟨k.1, k.2.1⟩) ?_
  intro w3 hx4; replace hI := hI.ext hx4
  refine s_gval (g_false rfl rfl rfl rfl) rfl (fun hc => (y_not rfl (ev_gv (ev_tmp rfl rfl) hc))) ?_
  refine s_q rfl rfl (y_or rfl (ev_tmp rfl rfl) (ev_tmp rfl rfl)) ?_
  refine s_nil ?_
  refine k_next (e := [(1, (Value.int .i64 bits1)), (2, (Value.int .i64 how1)), (3, (Value.pointer (some ⟨b1, 0, none⟩))), (23, (Value.bool ((((!r1) || (decide (bits1 < 0))) || (decide (30 < bits1))) || (!r2))))]) ⟨rfl, rfl, rfl, rfl, trivial⟩ ?_
  refine c_cond (b := (((!r1) || (decide (bits1 < 0))) || (decide (30 < bits1))) || (!r2)) (ev_tmp rfl rfl) (fun hb => ?_) (fun hb => ?_)
  · replace h := ite_t hb h
    refine c_seq ?_
    refine c_region rfl ?_
    refine s_q rfl rfl (y_assign rfl ev_const) ?_
    refine s_q rfl rfl (y_assign rfl ev_const) ?_
    refine s_nil ?_
    refine k_next (e := [(6, (Value.int .i64 0)), (7, (Value.int .i64 1))]) ⟨rfl, rfl, trivial⟩ ?_
    refine c_ret ?_
    obtain rfl := some_inj h
    exact q_ret (vs := [(Value.int .i64 0), (Value.int .i64 1)]) Tryz.results83 ⟨ev_tmp rfl rfl, ⟨ev_tmp rfl rfl, trivial⟩⟩ ⟨rfl, hI.ext0, hI.fin trivial⟩
  · replace h := ite_f hb h
    refine c_skip ?_
    refine k_next (e := [(1, (Value.int .i64 bits1)), (2, (Value.int .i64 how1)), (3, (Value.pointer (some ⟨b1, 0, none⟩)))]) ⟨rfl, rfl, rfl, trivial⟩ ?_
    refine c_seq ?_
    refine c_region rfl ?_
    refine s_q rfl rfl (y_fieldAddr rfl (ev_tmp rfl rfl) Tryz.underlying27 rfl size_2 rfl) ?_
    refine s_q rfl rfl (y_load1 (v := (Value.int .i64 a1.N)) rfl (ev_tmp rfl rfl) Tryz.underlying2 rfl (hI.kblk (l := [(Value.int .i64 a1.N)]) .z rfl).1) ?_
    refine s_q rfl rfl (y_move rfl (ev_tmp rfl rfl)) ?_
    refine s_q rfl rfl (y_conv rfl (by rw [Tryz.underlying3]; rfl) Tryz.underlying77 (ev_tmp rfl rfl)) ?_
    obtain ⟨ho1, h⟩ := chk_some h
    refine s_q rfl rfl (y_shl rfl (ev_tmp rfl rfl) (ev_tmp rfl rfl) ho1) ?_
    refine s_q rfl rfl (y_fieldAddr rfl (ev_tmp rfl rfl) Tryz.underlying27 rfl size_2 rfl) ?_
    refine s_q rfl rfl (y_load1 (v := (Value.int .i64 a1.D)) rfl (ev_tmp rfl rfl) Tryz.underlying2 rfl (hI.kblk (l := [(Value.int .i64 a1.D)]) .z rfl).1) ?_
    refine s_q rfl rfl (y_move rfl (ev_tmp rfl rfl)) ?_
    obtain ⟨r3, hx5, h⟩ := bnd_some h
    refine s_call rfl rfl (r_callF (vs := [(Value.int .i64 (wi64 (a1.N * 2 ^ (min (Int.toNat (wu64 bits1)) 64)))), (Value.int .i64 a1.D), (Value.int .i64 how1)]) rfl ok_107 ⟨(ev_tmp rfl rfl), ⟨(ev_tmp rfl rfl), ⟨(ev_tmp rfl rfl), trivial⟩⟩⟩) (Calls.mono (c_round_Divide (Dj F c2) w3 hI.lt (wi64 (a1.N * 2 ^ (min (Int.toNat (wu64 bits1)) 64))) a1.D how1 trivial r3 hx5) ?_)
    rintro _ w4 ⟨rfl, hx6, hl3⟩
    refine ⟨_, rfl, ?_⟩
    replace hI := (hI.ext hx6)
    refine s_q rfl rfl (y_extract rfl (ev_tmp rfl rfl) rfl) ?_
    refine s_q rfl rfl (y_extract rfl (ev_tmp rfl rfl) rfl) ?_
    refine s_q rfl rfl (y_assign rfl (ev_tmp rfl rfl)) ?_
    refine s_q rfl rfl (y_assign rfl (ev_tmp rfl rfl)) ?_
    refine s_nil ?_
    refine k_next (e := [(6, (Value.int .i64 r3.1)), (7, (Value.int .i64 r3.2))]) ⟨rfl, rfl, trivial⟩ ?_
    refine c_ret ?_
    obtain rfl := some_inj h
    exact q_ret (vs := [(Value.int .i64 r3.1), (Value.int .i64 r3.2)]) Tryz.results83 ⟨ev_tmp rfl rfl, ⟨ev_tmp rfl rfl, trivial⟩⟩ ⟨rfl, hI.ext0, hI.fin trivial⟩

set_option maxRecDepth 100000 in
set_option maxHeartbeats 4000000 in
theorem c_fixed_FromFrac (F : NP) (w0 : World) (hF : ∀ k, F k → k < w0.heap.size) (t1 : GType) (a1 : GVal) (hc : AllCl [] F w0) (r : GVal × Int)
    (h : m_fixed_FromFrac t1 a1 = some r) :
    Calls Tryz.prog 43 #[(Value.agg #[(Value.int .i64 t1.Kind), (Value.int .i64 t1.Bits), (Value.int .i64 t1.Frac), (Value.int .i64 t1.Round), (Value.int .i64 t1.Over)]), (Value.agg #[(Value.int .i64 a1.N), (Value.int .i64 a1.D)])] w0 fun e w => e = .returned (Value.tuple #[(Value.agg #[(Value.int .i64 r.1.N), (Value.int .i64 r.1.D)]), (Value.int .i64 r.2)]) ∧ Ext w0 w ∧ AllCl [] F w := by
  refine ofEnter (R := fun v w => v = (Value.tuple #[(Value.agg #[(Value.int .i64 r.1.N), (Value.int .i64 r.1.D)]), (Value.int .i64 r.2)]) ∧ Ext w0 w ∧ AllCl [] F w) (enter (l := [(Value.agg #[(Value.int .i64 t1.Kind), (Value.int .i64 t1.Bits), (Value.int .i64 t1.Frac), (Value.int .i64 t1.Round), (Value.int .i64 t1.Over)]), (Value.agg #[(Value.int .i64 a1.N), (Value.int .i64 a1.D)])]) Tryz.func43 rfl Tryz.ntmps43 rfl ?_) ?_
  rotate_left
  · rintro _ w ⟨rfl, k1, k2⟩; exact ⟨rfl, k1, k2⟩
  have hI := Bun.start hF hc
  clear hc
  rw [m_fixed_FromFrac] at h
  refine c_seq ?_
  refine c_region rfl ?_
  refine l_box (v := (Value.agg #[(Value.int .i64 t1.Kind), (Value.int .i64 t1.Bits), (Value.int .i64 t1.Frac), (Value.int .i64 t1.Round), (Value.int .i64 t1.Over)])) (cs := #[(Value.int .i64 t1.Kind), (Value.int .i64 t1.Bits), (Value.int .i64 t1.Frac), (Value.int .i64 t1.Round), (Value.int .i64 t1.Over)]) hI rfl rfl rfl (ev_tmp rfl rfl) rfl ?_
  clear hI; intro b1 c1 w1 hI
  obtain ⟨c2, hI⟩ := hI.relBox .z
  refine l_box (v := (Value.agg #[(Value.int .i64 a1.N), (Value.int .i64 a1.D)])) (cs := #[(Value.int .i64 a1.N), (Value.int .i64 a1.D)]) hI rfl rfl rfl (ev_tmp rfl rfl) rfl ?_
  clear hI; intro b2 c3 w2 hI
  obtain ⟨c4, hI⟩ := hI.relBox .z
  refine l_alloc (cs := #[(Value.int .i64 0), (Value.int .i64 0)]) hI rfl rfl rfl zero_27 rfl ?_
  clear hI; intro b3 c5 w3 hI
  refine s_q rfl rfl (y_assign rfl ev_const) ?_
  refine s_nil ?_
  refine k_next (e := [(2, (Value.pointer (some ⟨b1, 0, none⟩))), (3, (Value.pointer (some ⟨b2, 0, none⟩))), (4, (Value.pointer (some ⟨b3, 0, none⟩)))]) ⟨rfl, rfl, rfl, trivial⟩ ?_
  refine c_seq ?_
  refine c_seq ?_
  refine c_region rfl ?_
  refine s_q rfl rfl (y_loadN (l := [(Value.int .i64 t1.Kind), (Value.int .i64 t1.Bits), (Value.int .i64 t1.Frac), (Value.int .i64 t1.Round), (Value.int .i64 t1.Over)]) rfl (ev_tmp rfl rfl) Tryz.underlying23 rfl size_23 (hI.kblk (l := [(Value.int .i64 t1.Kind), (Value.int .i64 t1.Bits), (Value.int .i64 t1.Frac), (Value.int .i64 t1.Round), (Value.int .i64 t1.Over)]) (.s .z) rfl).1) ?_
  obtain ⟨r1, hx1, h⟩ := bnd_some h
  refine s_call rfl rfl (r_callF (vs := [(Value.agg #[(Value.int .i64 t1.Kind), (Value.int .i64 t1.Bits), (Value.int .i64 t1.Frac), (Value.int .i64 t1.Round), (Value.int .i64 t1.Over)])]) rfl ok_47 ⟨(ev_tmp rfl rfl), trivial⟩) (Calls.mono (c_fixed_ValidateType (Dj F c5) w3 hI.lt t1 trivial r1 hx1) ?_)
  rintro _ w4 ⟨rfl, hx2, hl1⟩
  refine ⟨_, rfl, ?_⟩
  replace hI := (hI.ext hx2)
  refine s_q rfl rfl (y_assign rfl (ev_tmp rfl rfl)) ?_
  refine s_nil ?_
  refine k_next (e := [(2, (Value.pointer (some ⟨b1, 0, none⟩))), (3, (Value.pointer (some ⟨b2, 0, none⟩))), (4, (Value.pointer (some ⟨b3, 0, none⟩))), (6, (Value.int .i64 r1))]) ⟨rfl, rfl, rfl, rfl, trivial⟩ ?_
  refine c_seq ?_
  refine c_region rfl ?_
  refine s_q rfl rfl (y_move rfl (ev_tmp rfl rfl)) ?_
  refine s_q rfl rfl (y_neq rfl (ev_tmp rfl rfl) ev_const) ?_
  refine s_nil ?_
  refine k_next (e := [(2, (Value.pointer (some ⟨b1, 0, none⟩))), (3, (Value.pointer (some ⟨b2, 0, none⟩))), (4, (Value.pointer (some ⟨b3, 0, none⟩))), (6, (Value.int .i64 r1)), (12, (Value.bool (!decide (r1 = 0))))]) ⟨rfl, rfl, rfl, rfl, rfl, trivial⟩ ?_
  refine c_cond (b := !decide (r1 = 0)) (ev_tmp rfl rfl) (fun hb => ?_) (fun hb => ?_)
  · replace h := ite_t hb h
    refine c_seq ?_
    refine c_region rfl ?_
    refine s_q rfl rfl (y_build (vs := []) (cs := #[(Value.int .i64 0), (Value.int .i64 0)]) rfl trivial (by kernel_rfl)) ?_
    refine s_q rfl rfl (y_move rfl (ev_tmp rfl rfl)) ?_
    refine l_store (new := [(Value.int .i64 0), (Value.int .i64 0)]) (cs' := #[(Value.int .i64 0), (Value.int .i64 0)]) hI .z rfl rfl rfl (ev_tmp rfl rfl) (ev_tmp rfl rfl) rfl size_27 rfl rfl rfl ?_
    clear hI; intro c6 w5 hI
    refine s_q rfl rfl (y_assign rfl (ev_tmp rfl rfl)) ?_
    refine s_nil ?_
    refine k_next (e := [(4, (Value.pointer (some ⟨b3, 0, none⟩))), (5, (Value.int .i64 r1))]) ⟨rfl, rfl, trivial⟩ ?_
    refine c_ret ?_
    obtain rfl := some_inj h
    exact q_ret (vs := [(Value.agg #[(Value.int .i64 0), (Value.int .i64 0)]), (Value.int .i64 r1)]) Tryz.results43 ⟨⟨_, ev_tmp rfl rfl, load_agg (l := [(Value.int .i64 0), (Value.int .i64 0)]) Tryz.underlying27 rfl size_27 (CellsAt.of_blk (hI.blk .z) rfl)⟩, ⟨ev_tmp rfl rfl, trivial⟩⟩ ⟨rfl, hI.ext0, hI.fin trivial⟩
  · replace h := ite_f hb h
    refine c_skip ?_
    refine k_next (e := [(2, (Value.pointer (some ⟨b1, 0, none⟩))), (3, (Value.pointer (some ⟨b2, 0, none⟩))), (4, (Value.pointer (some ⟨b3, 0, none⟩)))]) ⟨rfl, rfl, rfl, trivial⟩ ?_
    refine c_seq ?_
    refine c_region rfl ?_
    refine s_q rfl rfl (y_loadN (l := [(Value.int .i64 a1.N), (Value.int .i64 a1.D)]) rfl (ev_tmp rfl rfl) Tryz.underlying27 rfl size_27 (hI.kblk (l := [(Value.int .i64 a1.N), (Value.int .i64 a1.D)]) .z rfl).1) ?_
    refine s_q rfl rfl (y_fieldAddr rfl (ev_tmp rfl rfl) Tryz.underlying23 rfl size_3 rfl) ?_
    refine s_q rfl rfl (y_load1 (v := (Value.int .i64 t1.Frac)) rfl (ev_tmp rfl rfl) Tryz.underlying3 rfl (hI.kblk (l := [(Value.int .i64 t1.Frac)]) (.s .z) rfl).1) ?_
    refine s_q rfl rfl (y_fieldAddr rfl (ev_tmp rfl rfl) Tryz.underlying23 rfl size_3 rfl) ?_
    refine s_q rfl rfl (y_load1 (v := (Value.int .i64 t1.Round)) rfl (ev_tmp rfl rfl) Tryz.underlying3 rfl (hI.kblk (l := [(Value.int .i64 t1.Round)]) (.s .z) rfl).1) ?_
    obtain ⟨r2, hx3, h⟩ := bnd_some h
    refine s_call rfl rfl (r_callF (vs := [(Value.agg #[(Value.int .i64 a1.N), (Value.int .i64 a1.D)]), (Value.int .i64 t1.Frac), (Value.int .i64 t1.Round)]) rfl ok_83 ⟨(ev_tmp rfl rfl), ⟨(ev_tmp rfl rfl), ⟨(ev_tmp rfl rfl), trivial⟩⟩⟩) (Calls.mono (c_round_Quantize (Dj F c5) w4 hI.lt a1 t1.Frac t1.Round trivial r2 hx3) ?_)
    rintro _ w6 ⟨rfl, hx4, hl2⟩
    refine ⟨_, rfl, ?_⟩
    replace hI := (hI.ext hx4)
    refine s_q rfl rfl (y_move rfl (ev_tmp rfl rfl)) ?_
    refine s_q rfl rfl (y_extract rfl (ev_tmp rfl rfl) rfl) ?_
    refine s_q rfl rfl (y_extract rfl (ev_tmp rfl rfl) rfl) ?_
    refine s_q rfl rfl (y_assign rfl (ev_tmp rfl rfl)) ?_
    refine s_q rfl rfl (y_assign rfl (ev_tmp rfl rfl)) ?_
    refine s_nil ?_
    refine k_next (e := [(2, (Value.pointer (some ⟨b1, 0, none⟩))), (3, (Value.pointer (some ⟨b2, 0, none⟩))), (4, (Value.pointer (some ⟨b3, 0, none⟩))), (7, (Value.int .i64 r2.1)), (8, (Value.int .i64 r2.2))]) ⟨rfl, rfl, rfl, rfl, rfl, trivial⟩ ?_
    refine c_seq ?_
    refine c_seq ?_
    refine c_region rfl ?_
    refine s_q rfl rfl (y_move rfl (ev_tmp rfl rfl)) ?_
    refine s_q rfl rfl (y_neq rfl (ev_tmp rfl rfl) ev_const) ?_
    refine s_q rfl rfl (y_move rfl (ev_tmp rfl rfl)) ?_
    refine s_gval (g_false rfl rfl rfl rfl) rfl (fun hc => (y_loadN (l := [(Value.int .i64 a1.N), (Value.int .i64 a1.D)]) rfl (ev_tmp rfl rfl) Tryz.underlying27 rfl size_27 (hI.kblk (l := [(Value.int .i64 a1.N), (Value.int .i64 a1.D)]) .z rfl).1)) ?_
    obtain ⟨r3, hx5, h⟩ := bnd_some h
    replace hx5 := gd_some hx5
    refine s_gcallU (v := (Value.bool r3)) (g_false rfl rfl rfl rfl) rfl (fun hc => (r_callF (vs := [(Value.agg #[(Value.int .i64 a1.N), (Value.int .i64 a1.D)])]) rfl ok_45 ⟨(ev_gv (ev_tmp rfl rfl) hc), trivial⟩)) (fun hc => (c_frac_Valid (Dj F c5) w6 hI.lt a1 trivial r3 (hx5 hc)).mono fun _ _ k => ⟨k.1, k.2.1⟩) ?_
    intro w7 hx6; replace hI := hI.ext hx6
    refine s_gval (g_false rfl rfl rfl rfl) rfl (fun hc => (y_not rfl (ev_gv (ev_tmp rfl rfl) hc))) ?_
    refine s_q rfl rfl (y_or rfl (ev_tmp rfl rfl) (ev_tmp rfl rfl)) ?_
    refine s_nil ?_
    refine k_next (e := [(2, (Value.pointer (some ⟨b1, 0, none⟩))), (4, (Value.pointer (some ⟨b3, 0, none⟩))), (7, (Value.int .i64 r2.1)), (30, (Value.bool ((!decide (r2.2 = 0)) || (!r3))))]) ⟨rfl, rfl, rfl, rfl, trivial⟩ ?_
    refine c_cond (b := (!decide (r2.2 = 0)) || (!r3)) (ev_tmp rfl rfl) (fun hb => ?_) (fun hb => ?_)
    · replace h := ite_t hb h
      refine c_seq ?_
      refine c_region rfl ?_
      refine s_q rfl rfl (y_build (vs := []) (cs := #[(Value.int .i64 0), (Value.int .i64 0)]) rfl trivial (by kernel_rfl)) ?_
      refine l_store (new := [(Value.int .i64 0), (Value.int .i64 0)]) (cs' := #[(Value.int .i64 0), (Value.int .i64 0)]) hI .z rfl rfl rfl (ev_tmp rfl rfl) (ev_tmp rfl rfl) rfl size_27 rfl rfl rfl ?_
      clear hI; intro c7 w8 hI
      refine s_q rfl rfl (y_assign rfl ev_const) ?_
      refine s_nil ?_
      refine k_next (e := [(4, (Value.pointer (some ⟨b3, 0, none⟩))), (5, (Value.int .i64 1))]) ⟨rfl, rfl, trivial⟩ ?_
      refine c_ret ?_
      obtain rfl := some_inj h
      exact q_ret (vs := [(Value.agg #[(Value.int .i64 0), (Value.int .i64 0)]), (Value.int .i64 1)]) Tryz.results43 ⟨⟨_, ev_tmp rfl rfl, load_agg (l := [(Value.int .i64 0), (Value.int .i64 0)]) Tryz.underlying27 rfl size_27 (CellsAt.of_blk (hI.blk .z) rfl)⟩, ⟨ev_tmp rfl rfl, trivial⟩⟩ ⟨rfl, hI.ext0, hI.fin trivial⟩
    · replace h := ite_f hb h
      refine c_skip ?_
      refine k_next (e := [(2, (Value.pointer (some ⟨b1, 0, none⟩))), (4, (Value.pointer (some ⟨b3, 0, none⟩))), (7, (Value.int .i64 r2.1))]) ⟨rfl, rfl, rfl, trivial⟩ ?_
      refine c_seq ?_
      refine c_region rfl ?_
      refine s_q rfl rfl (y_loadN (l := [(Value.int .i64 t1.Kind), (Value.int .i64 t1.Bits), (Value.int .i64 t1.Frac), (Value.int .i64 t1.Round), (Value.int .i64 t1.Over)]) rfl (ev_tmp rfl rfl) Tryz.underlying23 rfl size_23 (hI.kblk (l := [(Value.int .i64 t1.Kind), (Value.int .i64 t1.Bits), (Value.int .i64 t1.Frac), (Value.int .i64 t1.Round), (Value.int .i64 t1.Over)]) (.s .z) rfl).1) ?_
      refine s_q rfl rfl (y_move rfl (ev_tmp rfl rfl)) ?_
      obtain ⟨r4, hx7, h⟩ := bnd_some h
      refine s_call rfl rfl (r_callF (vs := [(Value.agg #[(Value.int .i64 t1.Kind), (Value.int .i64 t1.Bits), (Value.int .i64 t1.Frac), (Value.int .i64 t1.Round), (Value.int .i64 t1.Over)]), (Value.int .i64 r2.1)]) rfl ok_84 ⟨(ev_tmp rfl rfl), ⟨(ev_tmp rfl rfl), trivial⟩⟩) (Calls.mono (c_fixed_narrow (Dj F c5) w7 hI.lt t1 r2.1 trivial r4 hx7) ?_)
      rintro _ w9 ⟨rfl, hx8, hl4⟩
      refine ⟨_, rfl, ?_⟩
      replace hI := (hI.ext hx8)
      refine l_store (new := [(Value.int .i64 r4.N), (Value.int .i64 r4.D)]) (cs' := #[(Value.int .i64 r4.N), (Value.int .i64 r4.D)]) hI .z rfl rfl rfl (ev_tmp rfl rfl) (ev_tmp rfl rfl) rfl size_27 rfl rfl rfl ?_
      clear hI; intro c8 w10 hI
      refine s_q rfl rfl (y_assign rfl ev_const) ?_
      refine s_nil ?_
      refine k_next (e := [(4, (Value.pointer (some ⟨b3, 0, none⟩))), (5, (Value.int .i64 0))]) ⟨rfl, rfl, trivial⟩ ?_
      refine c_ret ?_
      obtain rfl := some_inj h
      exact q_ret (vs := [(Value.agg #[(Value.int .i64 r4.N), (Value.int .i64 r4.D)]), (Value.int .i64 0)]) Tryz.results43 ⟨⟨_, ev_tmp rfl rfl, load_agg (l := [(Value.int .i64 r4.N), (Value.int .i64 r4.D)]) Tryz.underlying27 rfl size_27 (CellsAt.of_blk (hI.blk .z) rfl)⟩, ⟨ev_tmp rfl rfl, trivial⟩⟩ ⟨rfl, hI.ext0, hI.fin trivial⟩

set_option maxRecDepth 100000 in
set_option maxHeartbeats 4000000 in
theorem c_value_Cast (F : NP) (w0 : World) (hF : ∀ k, F k → k < w0.heap.size) (from1 : GType) (to1 : GType) (v1 : GVal) (hc : AllCl [] F w0) (r : GVal × Int)
    (h : m_value_Cast from1 to1 v1 = some r) :
    Calls Tryz.prog 18 #[(Value.agg #[(Value.int .i64 from1.Kind), (Value.int .i64 from1.Bits), (Value.int .i64 from1.Frac), (Value.int .i64 from1.Round), (Value.int .i64 from1.Over)]), (Value.agg #[(Value.int .i64 to1.Kind), (Value.int .i64 to1.Bits), (Value.int .i64 to1.Frac), (Value.int .i64 to1.Round), (Value.int .i64 to1.Over)]), (Value.agg #[(Value.int .i64 v1.N), (Value.int .i64 v1.D)])] w0 fun e w => e = .returned (Value.tuple #[(Value.agg #[(Value.int .i64 r.1.N), (Value.int .i64 r.1.D)]), (Value.int .i64 r.2)]) ∧ Ext w0 w ∧ AllCl [] F w := by
  refine ofEnter (R := fun v w => v = (Value.tuple #[(Value.agg #[(Value.int .i64 r.1.N), (Value.int .i64 r.1.D)]), (Value.int .i64 r.2)]) ∧ Ext w0 w ∧ AllCl [] F w) (enter (l := [(Value.agg #[(Value.int .i64 from1.Kind), (Value.int .i64 from1.Bits), (Value.int .i64 from1.Frac), (Value.int .i64 from1.Round), (Value.int .i64 from1.Over)]), (Value.agg #[(Value.int .i64 to1.Kind), (Value.int .i64 to1.Bits), (Value.int .i64 to1.Frac), (Value.int .i64 to1.Round), (Value.int .i64 to1.Over)]), (Value.agg #[(Value.int .i64 v1.N), (Value.int .i64 v1.D)])]) Tryz.func18 rfl Tryz.ntmps18 rfl ?_) ?_
  rotate_left
  · rintro _ w ⟨rfl, k1, k2⟩; exact ⟨rfl, k1, k2⟩
  have hI := Bun.start hF hc
  clear hc
  rw [m_value_Cast] at h
  refine c_seq ?_
  refine c_region rfl ?_
  refine l_box (v := (Value.agg #[(Value.int .i64 from1.Kind), (Value.int .i64 from1.Bits), (Value.int .i64 from1.Frac), (Value.int .i64 from1.Round), (Value.int .i64 from1.Over)])) (cs := #[(Value.int .i64 from1.Kind), (Value.int .i64 from1.Bits), (Value.int .i64 from1.Frac), (Value.int .i64 from1.Round), (Value.int .i64 from1.Over)]) hI rfl rfl rfl (ev_tmp rfl rfl) rfl ?_
  clear hI; intro b1 c1 w1 hI
  obtain ⟨c2, hI⟩ := hI.relBox .z
  refine l_box (v := (Value.agg #[(Value.int .i64 to1.Kind), (Value.int .i64 to1.Bits), (Value.int .i64 to1.Frac), (Value.int .i64 to1.Round), (Value.int .i64 to1.Over)])) (cs := #[(Value.int .i64 to1.Kind), (Value.int .i64 to1.Bits), (Value.int .i64 to1.Frac), (Value.int .i64 to1.Round), (Value.int .i64 to1.Over)]) hI rfl rfl rfl (ev_tmp rfl rfl) rfl ?_
  clear hI; intro b2 c3 w2 hI
  obtain ⟨c4, hI⟩ := hI.relBox .z
  refine l_box (v := (Value.agg #[(Value.int .i64 v1.N), (Value.int .i64 v1.D)])) (cs := #[(Value.int .i64 v1.N), (Value.int .i64 v1.D)]) hI rfl rfl rfl (ev_tmp rfl rfl) rfl ?_
  clear hI; intro b3 c5 w3 hI
  obtain ⟨c6, hI⟩ := hI.relBox .z
  refine l_alloc (cs := #[(Value.int .i64 0), (Value.int .i64 0)]) hI rfl rfl rfl zero_27 rfl ?_
  clear hI; intro b4 c7 w4 hI
  refine s_q rfl rfl (y_assign rfl ev_const) ?_
  refine s_nil ?_
  refine k_next (e := [(3, (Value.pointer (some ⟨b1, 0, none⟩))), (4, (Value.pointer (some ⟨b2, 0, none⟩))), (5, (Value.pointer (some ⟨b3, 0, none⟩))), (6, (Value.pointer (some ⟨b4, 0, none⟩)))]) ⟨rfl, rfl, rfl, rfl, trivial⟩ ?_
  refine c_seq ?_
  refine c_block ?_
  refine c_seq ?_
  refine c_region rfl ?_
  refine s_q rfl rfl (y_loadN (l := [(Value.int .i64 from1.Kind), (Value.int .i64 from1.Bits), (Value.int .i64 from1.Frac), (Value.int .i64 from1.Round), (Value.int .i64 from1.Over)]) rfl (ev_tmp rfl rfl) Tryz.underlying23 rfl size_23 (hI.kblk (l := [(Value.int .i64 from1.Kind), (Value.int .i64 from1.Bits), (Value.int .i64 from1.Frac), (Value.int .i64 from1.Round), (Value.int .i64 from1.Over)]) (.s (.s .z)) rfl).1) ?_
  obtain ⟨r1, hx1, h⟩ := bnd_some h
  refine s_call rfl rfl (r_callF (vs := [(Value.agg #[(Value.int .i64 from1.Kind), (Value.int .i64 from1.Bits), (Value.int .i64 from1.Frac), (Value.int .i64 from1.Round), (Value.int .i64 from1.Over)])]) rfl ok_22 ⟨(ev_tmp rfl rfl), trivial⟩) (Calls.mono (c_value_ValidateType (Dj F c7) w4 hI.lt from1 trivial r1 hx1) ?_)
  rintro _ w5 ⟨rfl, hx2, hl1⟩
  refine ⟨_, rfl, ?_⟩
  replace hI := (hI.ext hx2)
  refine s_q rfl rfl (y_neq rfl (ev_tmp rfl rfl) ev_const) ?_
  refine s_q rfl rfl (y_move rfl (ev_tmp rfl rfl)) ?_
  refine s_gval (g_false rfl rfl rfl rfl) rfl (fun hc => (y_loadN (l := [(Value.int .i64 to1.Kind), (Value.int .i64 to1.Bits), (Value.int .i64 to1.Frac), (Value.int .i64 to1.Round), (Value.int .i64 to1.Over)]) rfl (ev_tmp rfl rfl) Tryz.underlying23 rfl size_23 (hI.kblk (l := [(Value.int .i64 to1.Kind), (Value.int .i64 to1.Bits), (Value.int .i64 to1.Frac), (Value.int .i64 to1.Round), (Value.int .i64 to1.Over)]) (.s .z) rfl).1)) ?_
  obtain ⟨r2, hx3, h⟩ := bnd_some h
  replace hx3 := gd_some hx3
  refine s_gcallU (v := (Value.int .i64 r2)) (g_false rfl rfl rfl rfl) rfl (fun hc => (r_callF (vs := [(Value.agg #[(Value.int .i64 to1.Kind), (Value.int .i64 to1.Bits), (Value.int .i64 to1.Frac), (Value.int .i64 to1.Round), (Value.int .i64 to1.Over)])]) rfl ok_22 ⟨(ev_gv (ev_tmp rfl rfl) hc), trivial⟩)) (fun hc => (c_value_ValidateType (Dj F c7) w5 hI.lt to1 trivial r2 (hx3 hc)).mono fun _ _ k => ⟨k.1, k.2.1⟩) ?_
  intro w6 hx4; replace hI := hI.ext hx4
  refine s_gval (g_false rfl rfl rfl rfl) rfl (fun hc => (y_neq rfl (ev_gv (ev_tmp rfl rfl) hc) ev_const)) ?_
  refine s_q rfl rfl (y_or rfl (ev_tmp rfl rfl) (ev_tmp rfl rfl)) ?_
  refine s_q rfl rfl (y_assign rfl (ev_tmp rfl rfl)) ?_
  refine s_nil ?_
  refine k_next (e := [(3, (Value.pointer (some ⟨b1, 0, none⟩))), (4, (Value.pointer (some ⟨b2, 0, none⟩))), (5, (Value.pointer (some ⟨b3, 0, none⟩))), (6, (Value.pointer (some ⟨b4, 0, none⟩))), (9, (Value.bool ((!decide (r1 = 0)) || (!decide (r2 = 0)))))]) ⟨rfl, rfl, rfl, rfl, rfl, trivial⟩ ?_
  refine c_cond (b := (!decide (r1 = 0)) || (!decide (r2 = 0))) (ev_tmp rfl rfl) (fun hb => ?_) (fun hb => ?_)
  · replace h := ite_t hb h
    refine c_seq ?_
    refine c_region rfl ?_
    refine s_q rfl rfl (y_build (vs := []) (cs := #[(Value.int .i64 0), (Value.int .i64 0)]) rfl trivial (by kernel_rfl)) ?_
    refine l_store (new := [(Value.int .i64 0), (Value.int .i64 0)]) (cs' := #[(Value.int .i64 0), (Value.int .i64 0)]) hI .z rfl rfl rfl (ev_tmp rfl rfl) (ev_tmp rfl rfl) rfl size_27 rfl rfl rfl ?_
    clear hI; intro c8 w7 hI
    refine s_q rfl rfl (y_assign rfl ev_const) ?_
    refine s_nil ?_
    refine k_next (e := [(6, (Value.pointer (some ⟨b4, 0, none⟩))), (7, (Value.int .i64 10))]) ⟨rfl, rfl, trivial⟩ ?_
    refine c_ret ?_
    obtain rfl := some_inj h
    exact q_ret (vs := [(Value.agg #[(Value.int .i64 0), (Value.int .i64 0)]), (Value.int .i64 10)]) Tryz.results18 ⟨⟨_, ev_tmp rfl rfl, load_agg (l := [(Value.int .i64 0), (Value.int .i64 0)]) Tryz.underlying27 rfl size_27 (CellsAt.of_blk (hI.blk .z) rfl)⟩, ⟨ev_tmp rfl rfl, trivial⟩⟩ ⟨rfl, hI.ext0, hI.fin trivial⟩
  · replace h := ite_f hb h
    refine c_seq ?_
    refine c_region rfl ?_
    refine s_q rfl rfl (y_loadN (l := [(Value.int .i64 from1.Kind), (Value.int .i64 from1.Bits), (Value.int .i64 from1.Frac), (Value.int .i64 from1.Round), (Value.int .i64 from1.Over)]) rfl (ev_tmp rfl rfl) Tryz.underlying23 rfl size_23 (hI.kblk (l := [(Value.int .i64 from1.Kind), (Value.int .i64 from1.Bits), (Value.int .i64 from1.Frac), (Value.int .i64 from1.Round), (Value.int .i64 from1.Over)]) (.s (.s .z)) rfl).1) ?_
    refine s_q rfl rfl (y_loadN (l := [(Value.int .i64 v1.N), (Value.int .i64 v1.D)]) rfl (ev_tmp rfl rfl) Tryz.underlying27 rfl size_27 (hI.kblk (l := [(Value.int .i64 v1.N), (Value.int .i64 v1.D)]) .z rfl).1) ?_
    obtain ⟨r3, hx5, h⟩ := bnd_some h
    refine s_call rfl rfl (r_callF (vs := [(Value.agg #[(Value.int .i64 from1.Kind), (Value.int .i64 from1.Bits), (Value.int .i64 from1.Frac), (Value.int .i64 from1.Round), (Value.int .i64 from1.Over)]), (Value.agg #[(Value.int .i64 v1.N), (Value.int .i64 v1.D)])]) rfl ok_19 ⟨(ev_tmp rfl rfl), ⟨(ev_tmp rfl rfl), trivial⟩⟩) (Calls.mono (c_value_Valid (Dj F c7) w6 hI.lt from1 v1 trivial r3 hx5) ?_)
    rintro _ w8 ⟨rfl, hx6, hl3⟩
    refine ⟨_, rfl, ?_⟩
    replace hI := (hI.ext hx6)
    refine s_q rfl rfl (y_not rfl (ev_tmp rfl rfl)) ?_
    refine s_q rfl rfl (y_assign rfl (ev_tmp rfl rfl)) ?_
    refine s_nil ?_
    refine k_next (e := [(3, (Value.pointer (some ⟨b1, 0, none⟩))), (4, (Value.pointer (some ⟨b2, 0, none⟩))), (5, (Value.pointer (some ⟨b3, 0, none⟩))), (6, (Value.pointer (some ⟨b4, 0, none⟩))), (19, (Value.bool (!r3)))]) ⟨rfl, rfl, rfl, rfl, rfl, trivial⟩ ?_
    refine c_cond (b := !r3) (ev_tmp rfl rfl) (fun hb => ?_) (fun hb => ?_)
    · replace h := ite_t hb h
      refine c_seq ?_
      refine c_region rfl ?_
      refine s_q rfl rfl (y_build (vs := []) (cs := #[(Value.int .i64 0), (Value.int .i64 0)]) rfl trivial (by kernel_rfl)) ?_
      refine l_store (new := [(Value.int .i64 0), (Value.int .i64 0)]) (cs' := #[(Value.int .i64 0), (Value.int .i64 0)]) hI .z rfl rfl rfl (ev_tmp rfl rfl) (ev_tmp rfl rfl) rfl size_27 rfl rfl rfl ?_
      clear hI; intro c9 w9 hI
      refine s_q rfl rfl (y_assign rfl ev_const) ?_
      refine s_nil ?_
      refine k_next (e := [(6, (Value.pointer (some ⟨b4, 0, none⟩))), (7, (Value.int .i64 1))]) ⟨rfl, rfl, trivial⟩ ?_
      refine c_ret ?_
      obtain rfl := some_inj h
      exact q_ret (vs := [(Value.agg #[(Value.int .i64 0), (Value.int .i64 0)]), (Value.int .i64 1)]) Tryz.results18 ⟨⟨_, ev_tmp rfl rfl, load_agg (l := [(Value.int .i64 0), (Value.int .i64 0)]) Tryz.underlying27 rfl size_27 (CellsAt.of_blk (hI.blk .z) rfl)⟩, ⟨ev_tmp rfl rfl, trivial⟩⟩ ⟨rfl, hI.ext0, hI.fin trivial⟩
    · replace h := ite_f hb h
      refine c_skip ?_
      refine k_next (e := [(3, (Value.pointer (some ⟨b1, 0, none⟩))), (4, (Value.pointer (some ⟨b2, 0, none⟩))), (5, (Value.pointer (some ⟨b3, 0, none⟩))), (6, (Value.pointer (some ⟨b4, 0, none⟩)))]) ⟨rfl, rfl, rfl, rfl, trivial⟩ ?_
      refine c_seq ?_
      refine c_region rfl ?_
      refine s_q rfl rfl (y_loadN (l := [(Value.int .i64 from1.Kind), (Value.int .i64 from1.Bits), (Value.int .i64 from1.Frac), (Value.int .i64 from1.Round), (Value.int .i64 from1.Over)]) rfl (ev_tmp rfl rfl) Tryz.underlying23 rfl size_23 (hI.kblk (l := [(Value.int .i64 from1.Kind), (Value.int .i64 from1.Bits), (Value.int .i64 from1.Frac), (Value.int .i64 from1.Round), (Value.int .i64 from1.Over)]) (.s (.s .z)) rfl).1) ?_
      refine s_q rfl rfl (y_loadN (l := [(Value.int .i64 v1.N), (Value.int .i64 v1.D)]) rfl (ev_tmp rfl rfl) Tryz.underlying27 rfl size_27 (hI.kblk (l := [(Value.int .i64 v1.N), (Value.int .i64 v1.D)]) .z rfl).1) ?_
      obtain ⟨r4, hx7, h⟩ := bnd_some h
      refine s_call rfl rfl (r_callF (vs := [(Value.agg #[(Value.int .i64 from1.Kind), (Value.int .i64 from1.Bits), (Value.int .i64 from1.Frac), (Value.int .i64 from1.Round), (Value.int .i64 from1.Over)]), (Value.agg #[(Value.int .i64 v1.N), (Value.int .i64 v1.D)])]) rfl ok_35 ⟨(ev_tmp rfl rfl), ⟨(ev_tmp rfl rfl), trivial⟩⟩) (Calls.mono (c_value_fraction (Dj F c7) w8 hI.lt from1 v1 trivial r4 hx7) ?_)
      rintro _ w10 ⟨rfl, hx8, hl4⟩
      refine ⟨_, rfl, ?_⟩
      replace hI := (hI.ext hx8)
      refine l_alloc (cs := #[(Value.int .i64 0), (Value.int .i64 0)]) hI rfl rfl rfl zero_27 rfl ?_
      clear hI; intro b5 c10 w11 hI
      refine l_store (new := [(Value.int .i64 r4.N), (Value.int .i64 r4.D)]) (cs' := #[(Value.int .i64 r4.N), (Value.int .i64 r4.D)]) hI .z rfl rfl rfl (ev_tmp rfl rfl) (ev_tmp rfl rfl) rfl size_27 rfl rfl rfl ?_
      clear hI; intro c11 w12 hI
      refine s_nil ?_
      refine k_next (e := [(4, (Value.pointer (some ⟨b2, 0, none⟩))), (6, (Value.pointer (some ⟨b4, 0, none⟩))), (8, (Value.pointer (some ⟨b5, 0, none⟩)))]) ⟨rfl, rfl, rfl, trivial⟩ ?_
      refine c_seq ?_
      refine c_seq ?_
      refine c_region rfl ?_
      refine s_q rfl rfl (y_fieldAddr rfl (ev_tmp rfl rfl) Tryz.underlying23 rfl size_3 rfl) ?_
      refine s_q rfl rfl (y_load1 (v := (Value.int .i64 to1.Kind)) rfl (ev_tmp rfl rfl) Tryz.underlying3 rfl (hI.kblk (l := [(Value.int .i64 to1.Kind)]) (.s .z) rfl).1) ?_
      refine s_nil ?_
      refine k_next (e := [(4, (Value.pointer (some ⟨b2, 0, none⟩))), (6, (Value.pointer (some ⟨b4, 0, none⟩))), (8, (Value.pointer (some ⟨b5, 0, none⟩))), (29, (Value.int .i64 to1.Kind))]) ⟨rfl, rfl, rfl, rfl, trivial⟩ ?_
      refine c_block ?_
      refine c_seq ?_
      refine c_region rfl ?_
      refine s_q rfl rfl (y_eql rfl (ev_tmp rfl rfl) ev_const) ?_
      refine s_q rfl rfl (y_assign rfl (ev_tmp rfl rfl)) ?_
      refine s_nil ?_
      refine k_next (e := [(4, (Value.pointer (some ⟨b2, 0, none⟩))), (6, (Value.pointer (some ⟨b4, 0, none⟩))), (8, (Value.pointer (some ⟨b5, 0, none⟩))), (29, (Value.int .i64 to1.Kind)), (30, (Value.bool (decide (to1.Kind = 3))))]) ⟨rfl, rfl, rfl, rfl, rfl, trivial⟩ ?_
      refine c_cond (b := decide (to1.Kind = 3)) (ev_tmp rfl rfl) (fun hb => ?_) (fun hb => ?_)
      · replace h := ite_t hb h
        refine c_seq ?_
        refine c_region rfl ?_
        refine s_q rfl rfl (y_loadN (l := [(Value.int .i64 r4.N), (Value.int .i64 r4.D)]) rfl (ev_tmp rfl rfl) Tryz.underlying27 rfl size_27 (CellsAt.of_blk (hI.blk .z) rfl)) ?_
        obtain ⟨r5, hx9, h⟩ := bnd_some h
        refine s_call rfl rfl (r_callF (vs := [(Value.agg #[(Value.int .i64 r4.N), (Value.int .i64 r4.D)])]) rfl ok_42 ⟨(ev_tmp rfl rfl), trivial⟩) (Calls.mono (c_frac_Floor (Dj F c11) w12 hI.lt r4 trivial r5 hx9) ?_)
        rintro _ w13 ⟨rfl, hx10, hl5⟩
        refine ⟨_, rfl, ?_⟩
        replace hI := (hI.ext hx10)
        refine s_q rfl rfl (y_build (vs := [(0, (Value.int .i64 r5)), (1, (Value.int .i64 1))]) (cs := #[(Value.int .i64 r5), (Value.int .i64 1)]) rfl ⟨rfl, (ev_tmp rfl rfl), ⟨rfl, ev_const, trivial⟩⟩ (by kernel_rfl)) ?_
        refine l_store (new := [(Value.int .i64 r5), (Value.int .i64 1)]) (cs' := #[(Value.int .i64 r5), (Value.int .i64 1)]) hI (.s .z) rfl rfl rfl (ev_tmp rfl rfl) (ev_tmp rfl rfl) rfl size_27 rfl rfl rfl ?_
        clear hI; intro c12 w14 hI
        refine s_q rfl rfl (y_assign rfl ev_const) ?_
        refine s_nil ?_
        refine k_next (e := [(6, (Value.pointer (some ⟨b4, 0, none⟩))), (7, (Value.int .i64 0))]) ⟨rfl, rfl, trivial⟩ ?_
        refine c_ret ?_
        obtain rfl := some_inj h
        exact q_ret (vs := [(Value.agg #[(Value.int .i64 r5), (Value.int .i64 1)]), (Value.int .i64 0)]) Tryz.results18 ⟨⟨_, ev_tmp rfl rfl, load_agg (l := [(Value.int .i64 r5), (Value.int .i64 1)]) Tryz.underlying27 rfl size_27 (CellsAt.of_blk (hI.blk (.s .z)) rfl)⟩, ⟨ev_tmp rfl rfl, trivial⟩⟩ ⟨rfl, hI.ext0, hI.fin trivial⟩
      · replace h := ite_f hb h
        refine c_seq ?_
        refine c_region rfl ?_
        refine s_q rfl rfl (y_eql rfl (ev_tmp rfl rfl) ev_const) ?_
        refine s_q rfl rfl (y_assign rfl (ev_tmp rfl rfl)) ?_
        refine s_nil ?_
        refine k_next (e := [(4, (Value.pointer (some ⟨b2, 0, none⟩))), (6, (Value.pointer (some ⟨b4, 0, none⟩))), (8, (Value.pointer (some ⟨b5, 0, none⟩))), (35, (Value.bool (decide (to1.Kind = 2))))]) ⟨rfl, rfl, rfl, rfl, trivial⟩ ?_
        refine c_cond (b := decide (to1.Kind = 2)) (ev_tmp rfl rfl) (fun hb => ?_) (fun hb => ?_)
        · replace h := ite_t hb h
          refine c_seq ?_
          refine c_region rfl ?_
          refine s_q rfl rfl (y_loadN (l := [(Value.int .i64 to1.Kind), (Value.int .i64 to1.Bits), (Value.int .i64 to1.Frac), (Value.int .i64 to1.Round), (Value.int .i64 to1.Over)]) rfl (ev_tmp rfl rfl) Tryz.underlying23 rfl size_23 (hI.kblk (l := [(Value.int .i64 to1.Kind), (Value.int .i64 to1.Bits), (Value.int .i64 to1.Frac), (Value.int .i64 to1.Round), (Value.int .i64 to1.Over)]) (.s .z) rfl).1) ?_
          refine s_q rfl rfl (y_loadN (l := [(Value.int .i64 r4.N), (Value.int .i64 r4.D)]) rfl (ev_tmp rfl rfl) Tryz.underlying27 rfl size_27 (CellsAt.of_blk (hI.blk .z) rfl)) ?_
          obtain ⟨r6, hx11, h⟩ := bnd_some h
          refine s_call rfl rfl (r_callF (vs := [(Value.agg #[(Value.int .i64 to1.Kind), (Value.int .i64 to1.Bits), (Value.int .i64 to1.Frac), (Value.int .i64 to1.Round), (Value.int .i64 to1.Over)]), (Value.agg #[(Value.int .i64 r4.N), (Value.int .i64 r4.D)])]) rfl ok_43 ⟨(ev_tmp rfl rfl), ⟨(ev_tmp rfl rfl), trivial⟩⟩) (Calls.mono (c_fixed_FromFrac (Dj F c11) w12 hI.lt to1 r4 trivial r6 hx11) ?_)
          rintro _ w15 ⟨rfl, hx12, hl6⟩
          refine ⟨_, rfl, ?_⟩
          replace hI := (hI.ext hx12)
          refine s_q rfl rfl (y_extract rfl (ev_tmp rfl rfl) rfl) ?_
          refine s_q rfl rfl (y_extract rfl (ev_tmp rfl rfl) rfl) ?_
          refine l_store (new := [(Value.int .i64 r6.1.N), (Value.int .i64 r6.1.D)]) (cs' := #[(Value.int .i64 r6.1.N), (Value.int .i64 r6.1.D)]) hI (.s .z) rfl rfl rfl (ev_tmp rfl rfl) (ev_tmp rfl rfl) rfl size_27 rfl rfl rfl ?_
          clear hI; intro c13 w16 hI
          refine s_q rfl rfl (y_assign rfl (ev_tmp rfl rfl)) ?_
          refine s_nil ?_
          refine k_next (e := [(6, (Value.pointer (some ⟨b4, 0, none⟩))), (7, (Value.int .i64 r6.2))]) ⟨rfl, rfl, trivial⟩ ?_
          refine c_ret ?_
          obtain rfl := some_inj h
          exact q_ret (vs := [(Value.agg #[(Value.int .i64 r6.1.N), (Value.int .i64 r6.1.D)]), (Value.int .i64 r6.2)]) Tryz.results18 ⟨⟨_, ev_tmp rfl rfl, load_agg (l := [(Value.int .i64 r6.1.N), (Value.int .i64 r6.1.D)]) Tryz.underlying27 rfl size_27 (CellsAt.of_blk (hI.blk (.s .z)) rfl)⟩, ⟨ev_tmp rfl rfl, trivial⟩⟩ ⟨rfl, hI.ext0, hI.fin trivial⟩
        · replace h := ite_f hb h
          refine c_skip ?_
          refine k_next (e := [(6, (Value.pointer (some ⟨b4, 0, none⟩))), (8, (Value.pointer (some ⟨b5, 0, none⟩)))]) ⟨rfl, rfl, trivial⟩ ?_
          refine c_seq ?_
          refine c_region rfl ?_
          refine s_q rfl rfl (y_loadN (l := [(Value.int .i64 r4.N), (Value.int .i64 r4.D)]) rfl (ev_tmp rfl rfl) Tryz.underlying27 rfl size_27 (CellsAt.of_blk (hI.blk .z) rfl)) ?_
          refine l_store (new := [(Value.int .i64 r4.N), (Value.int .i64 r4.D)]) (cs' := #[(Value.int .i64 r4.N), (Value.int .i64 r4.D)]) hI (.s .z) rfl rfl rfl (ev_tmp rfl rfl) (ev_tmp rfl rfl) rfl size_27 rfl rfl rfl ?_
          clear hI; intro c14 w17 hI
          refine s_q rfl rfl (y_assign rfl ev_const) ?_
          refine s_nil ?_
          refine k_next (e := [(6, (Value.pointer (some ⟨b4, 0, none⟩))), (7, (Value.int .i64 0))]) ⟨rfl, rfl, trivial⟩ ?_
          refine c_ret ?_
          obtain rfl := some_inj h
          exact q_ret (vs := [(Value.agg #[(Value.int .i64 r4.N), (Value.int .i64 r4.D)]), (Value.int .i64 0)]) Tryz.results18 ⟨⟨_, ev_tmp rfl rfl, load_agg (l := [(Value.int .i64 r4.N), (Value.int .i64 r4.D)]) Tryz.underlying27 rfl size_27 (CellsAt.of_blk (hI.blk (.s .z)) rfl)⟩, ⟨ev_tmp rfl rfl, trivial⟩⟩ ⟨rfl, hI.ext0, hI.fin trivial⟩

set_option maxRecDepth 100000 in
set_option maxHeartbeats 4000000 in
theorem c_value_operator (F : NP) (w0 : World) (hF : ∀ k, F k → k < w0.heap.size) (fold1 : Int) (hc : AllCl [] F w0) (r : Int × Bool)
    (h : m_value_operator fold1 = some r) :
    Calls Tryz.prog 21 #[(Value.int .i64 fold1)] w0 fun e w => e = .returned (Value.tuple #[(Value.int .i64 r.1), (Value.bool r.2)]) ∧ Ext w0 w ∧ AllCl [] F w := by
  refine ofEnter (R := fun v w => v = (Value.tuple #[(Value.int .i64 r.1), (Value.bool r.2)]) ∧ Ext w0 w ∧ AllCl [] F w) (enter (l := [(Value.int .i64 fold1)]) Tryz.func21 rfl Tryz.ntmps21 rfl ?_) ?_
  rotate_left
  · rintro _ w ⟨rfl, k1, k2⟩; exact ⟨rfl, k1, k2⟩
  have hI := Bun.start hF hc
  clear hc
  rw [m_value_operator] at h
  refine c_seq ?_
  refine c_region rfl ?_
  refine s_q rfl rfl (y_assign rfl ev_const) ?_
  refine s_q rfl rfl (y_assign rfl ev_const) ?_
  refine s_nil ?_
  refine k_next (e := [(0, (Value.int .i64 fold1))]) ⟨rfl, trivial⟩ ?_
  refine c_seq ?_
  refine c_seq ?_
  refine c_region rfl ?_
  refine s_q rfl rfl (y_move rfl (ev_tmp rfl rfl)) ?_
  refine s_nil ?_
  refine k_next (e := [(4, (Value.int .i64 fold1))]) ⟨rfl, trivial⟩ ?_
  refine c_block ?_
  refine c_join (α := Bool) (fun _ => ⟨14, []⟩) (fun x => [(4, (Value.int .i64 fold1)), (5, (Value.bool x))]) (fun x => fun w => ∃ C, Bun noM F w0 C w [] [] ∧ m_value_operator_j1 fold1 x = some r) ?_ ?_
  · clear h hI; rintro i1 w1 ⟨c1, hI, h⟩
    try dsimp only at hI h
    rw [m_value_operator_j1] at h
    refine c_sub (e := [(4, (Value.int .i64 fold1)), (5, (Value.bool i1))]) ⟨rfl, rfl, trivial⟩ ?_
    refine c_cond (b := i1) (ev_tmp rfl rfl) (fun hb => ?_) (fun hb => ?_)
    · replace h := ite_t hb h
      refine c_seq ?_
      refine c_region rfl ?_
      refine s_q rfl rfl (y_assign rfl ev_const) ?_
      refine s_q rfl rfl (y_assign rfl ev_const) ?_
      refine s_nil ?_
      refine k_next (e := [(2, (Value.int .i64 4)), (3, (Value.bool true))]) ⟨rfl, rfl, trivial⟩ ?_
      refine c_ret ?_
      obtain rfl := some_inj h
      exact q_ret (vs := [(Value.int .i64 4), (Value.bool true)]) Tryz.results21 ⟨ev_tmp rfl rfl, ⟨ev_tmp rfl rfl, trivial⟩⟩ ⟨rfl, hI.ext0, hI.fin trivial⟩
    · replace h := ite_f hb h
      refine c_seq ?_
      refine c_region rfl ?_
      refine s_q rfl rfl (y_eql rfl (ev_tmp rfl rfl) ev_const) ?_
      refine s_q rfl rfl (y_assign rfl (ev_tmp rfl rfl)) ?_
      refine s_nil ?_
      refine k_next (e := [(4, (Value.int .i64 fold1)), (8, (Value.bool (decide (fold1 = 2))))]) ⟨rfl, rfl, trivial⟩ ?_
      refine c_cond (b := decide (fold1 = 2)) (ev_tmp rfl rfl) (fun hb => ?_) (fun hb => ?_)
      · replace h := ite_t hb h
        refine c_seq ?_
        refine c_region rfl ?_
        refine s_q rfl rfl (y_assign rfl ev_const) ?_
        refine s_q rfl rfl (y_assign rfl ev_const) ?_
        refine s_nil ?_
        refine k_next (e := [(2, (Value.int .i64 6)), (3, (Value.bool true))]) ⟨rfl, rfl, trivial⟩ ?_
        refine c_ret ?_
        obtain rfl := some_inj h
        exact q_ret (vs := [(Value.int .i64 6), (Value.bool true)]) Tryz.results21 ⟨ev_tmp rfl rfl, ⟨ev_tmp rfl rfl, trivial⟩⟩ ⟨rfl, hI.ext0, hI.fin trivial⟩
      · replace h := ite_f hb h
        refine c_seq ?_
        refine c_region rfl ?_
        refine s_q rfl rfl (y_eql rfl (ev_tmp rfl rfl) ev_const) ?_
        refine s_q rfl rfl (y_assign rfl (ev_tmp rfl rfl)) ?_
        refine s_nil ?_
        refine k_next (e := [(4, (Value.int .i64 fold1)), (10, (Value.bool (decide (fold1 = 3))))]) ⟨rfl, rfl, trivial⟩ ?_
        refine c_cond (b := decide (fold1 = 3)) (ev_tmp rfl rfl) (fun hb => ?_) (fun hb => ?_)
        · replace h := ite_t hb h
          refine c_seq ?_
          refine c_region rfl ?_
          refine s_q rfl rfl (y_assign rfl ev_const) ?_
          refine s_q rfl rfl (y_assign rfl ev_const) ?_
          refine s_nil ?_
          refine k_next (e := [(2, (Value.int .i64 9)), (3, (Value.bool true))]) ⟨rfl, rfl, trivial⟩ ?_
          refine c_ret ?_
          obtain rfl := some_inj h
          exact q_ret (vs := [(Value.int .i64 9), (Value.bool true)]) Tryz.results21 ⟨ev_tmp rfl rfl, ⟨ev_tmp rfl rfl, trivial⟩⟩ ⟨rfl, hI.ext0, hI.fin trivial⟩
        · replace h := ite_f hb h
          refine c_seq ?_
          refine c_region rfl ?_
          refine s_q rfl rfl (y_eql rfl (ev_tmp rfl rfl) ev_const) ?_
          refine s_q rfl rfl (y_assign rfl (ev_tmp rfl rfl)) ?_
          refine s_nil ?_
          refine k_next (e := [(12, (Value.bool (decide (fold1 = 4))))]) ⟨rfl, trivial⟩ ?_
          refine c_cond (b := decide (fold1 = 4)) (ev_tmp rfl rfl) (fun hb => ?_) (fun hb => ?_)
          · replace h := ite_t hb h
            refine c_seq ?_
            refine c_region rfl ?_
            refine s_q rfl rfl (y_assign rfl ev_const) ?_
            refine s_q rfl rfl (y_assign rfl ev_const) ?_
            refine s_nil ?_
            refine k_next (e := [(2, (Value.int .i64 10)), (3, (Value.bool true))]) ⟨rfl, rfl, trivial⟩ ?_
            refine c_ret ?_
            obtain rfl := some_inj h
            exact q_ret (vs := [(Value.int .i64 10), (Value.bool true)]) Tryz.results21 ⟨ev_tmp rfl rfl, ⟨ev_tmp rfl rfl, trivial⟩⟩ ⟨rfl, hI.ext0, hI.fin trivial⟩
          · replace h := ite_f hb h
            refine c_skip ?_
            refine k_next (e := []) trivial ?_
            refine c_seq ?_
            refine c_region rfl ?_
            refine s_q rfl rfl (y_assign rfl ev_const) ?_
            refine s_q rfl rfl (y_assign rfl ev_const) ?_
            refine s_nil ?_
            refine k_next (e := [(2, (Value.int .i64 0)), (3, (Value.bool false))]) ⟨rfl, rfl, trivial⟩ ?_
            refine c_ret ?_
            obtain rfl := some_inj h
            exact q_ret (vs := [(Value.int .i64 0), (Value.bool false)]) Tryz.results21 ⟨ev_tmp rfl rfl, ⟨ev_tmp rfl rfl, trivial⟩⟩ ⟨rfl, hI.ext0, hI.fin trivial⟩
  · skip
    refine c_seq ?_
    refine c_region rfl ?_
    refine s_q rfl rfl (y_eql rfl (ev_tmp rfl rfl) ev_const) ?_
    refine s_q rfl rfl (y_assign rfl (ev_tmp rfl rfl)) ?_
    refine s_nil ?_
    refine k_next (e := [(4, (Value.int .i64 fold1)), (5, (Value.bool (decide (fold1 = 1))))]) ⟨rfl, rfl, trivial⟩ ?_
    refine c_cond (b := decide (fold1 = 1)) (ev_tmp rfl rfl) (fun hb => ?_) (fun hb => ?_)
    · replace h := ite_t hb h
      refine c_skip ?_
      exact k_join (decide (fold1 = 1)) ⟨rfl, rfl, trivial⟩ ⟨_, hI.arr .n trivial, h⟩ rfl
    · replace h := ite_f hb h
      refine c_region rfl ?_
      refine s_q rfl rfl (y_eql rfl (ev_tmp rfl rfl) ev_const) ?_
      refine s_q rfl rfl (y_assign rfl (ev_tmp rfl rfl)) ?_
      refine s_nil ?_
      exact k_join (decide (fold1 = 5)) ⟨rfl, rfl, trivial⟩ ⟨_, hI.arr .n trivial, h⟩ rfl

set_option maxRecDepth 100000 in
set_option maxHeartbeats 4000000 in
theorem c_value_Zero (F : NP) (w0 : World) (hF : ∀ k, F k → k < w0.heap.size) (t1 : GType) (hc : AllCl [] F w0) (r : GVal)
    (h : m_value_Zero t1 = some r) :
    Calls Tryz.prog 27 #[(Value.agg #[(Value.int .i64 t1.Kind), (Value.int .i64 t1.Bits), (Value.int .i64 t1.Frac), (Value.int .i64 t1.Round), (Value.int .i64 t1.Over)])] w0 fun e w => e = .returned (Value.agg #[(Value.int .i64 r.N), (Value.int .i64 r.D)]) ∧ Ext w0 w ∧ AllCl [] F w := by
  refine ofEnter (R := fun v w => v = (Value.agg #[(Value.int .i64 r.N), (Value.int .i64 r.D)]) ∧ Ext w0 w ∧ AllCl [] F w) (enter (l := [(Value.agg #[(Value.int .i64 t1.Kind), (Value.int .i64 t1.Bits), (Value.int .i64 t1.Frac), (Value.int .i64 t1.Round), (Value.int .i64 t1.Over)])]) Tryz.func27 rfl Tryz.ntmps27 rfl ?_) ?_
  rotate_left
  · rintro _ w ⟨rfl, k1, k2⟩; exact ⟨rfl, k1, k2⟩
  have hI := Bun.start hF hc
  clear hc
  rw [m_value_Zero] at h
  refine c_seq ?_
  refine c_region rfl ?_
  refine l_box (v := (Value.agg #[(Value.int .i64 t1.Kind), (Value.int .i64 t1.Bits), (Value.int .i64 t1.Frac), (Value.int .i64 t1.Round), (Value.int .i64 t1.Over)])) (cs := #[(Value.int .i64 t1.Kind), (Value.int .i64 t1.Bits), (Value.int .i64 t1.Frac), (Value.int .i64 t1.Round), (Value.int .i64 t1.Over)]) hI rfl rfl rfl (ev_tmp rfl rfl) rfl ?_
  clear hI; intro b1 c1 w1 hI
  obtain ⟨c2, hI⟩ := hI.relBox .z
  refine l_alloc (cs := #[(Value.int .i64 0), (Value.int .i64 0)]) hI rfl rfl rfl zero_27 rfl ?_
  clear hI; intro b2 c3 w2 hI
  refine s_nil ?_
  refine k_next (e := [(1, (Value.pointer (some ⟨b1, 0, none⟩))), (2, (Value.pointer (some ⟨b2, 0, none⟩)))]) ⟨rfl, rfl, trivial⟩ ?_
  refine c_seq ?_
  refine c_seq ?_
  refine c_region rfl ?_
  refine s_q rfl rfl (y_loadN (l := [(Value.int .i64 t1.Kind), (Value.int .i64 t1.Bits), (Value.int .i64 t1.Frac), (Value.int .i64 t1.Round), (Value.int .i64 t1.Over)]) rfl (ev_tmp rfl rfl) Tryz.underlying23 rfl size_23 (hI.kblk (l := [(Value.int .i64 t1.Kind), (Value.int .i64 t1.Bits), (Value.int .i64 t1.Frac), (Value.int .i64 t1.Round), (Value.int .i64 t1.Over)]) .z rfl).1) ?_
  obtain ⟨r1, hx1, h⟩ := bnd_some h
  refine s_call rfl rfl (r_callF (vs := [(Value.agg #[(Value.int .i64 t1.Kind), (Value.int .i64 t1.Bits), (Value.int .i64 t1.Frac), (Value.int .i64 t1.Round), (Value.int .i64 t1.Over)])]) rfl ok_22 ⟨(ev_tmp rfl rfl), trivial⟩) (Calls.mono (c_value_ValidateType (Dj F c3) w2 hI.lt t1 trivial r1 hx1) ?_)
  rintro _ w3 ⟨rfl, hx2, hl1⟩
  refine ⟨_, rfl, ?_⟩
  replace hI := (hI.ext hx2)
  refine s_q rfl rfl (y_neq rfl (ev_tmp rfl rfl) ev_const) ?_
  refine s_nil ?_
  refine k_next (e := [(2, (Value.pointer (some ⟨b2, 0, none⟩))), (5, (Value.bool (!decide (r1 = 0))))]) ⟨rfl, rfl, trivial⟩ ?_
  refine c_cond (b := !decide (r1 = 0)) (ev_tmp rfl rfl) (fun hb => ?_) (fun hb => ?_)
  · replace h := ite_t hb h
    refine c_seq ?_
    refine c_region rfl ?_
    refine s_q rfl rfl (y_build (vs := []) (cs := #[(Value.int .i64 0), (Value.int .i64 0)]) rfl trivial (by kernel_rfl)) ?_
    refine l_store (new := [(Value.int .i64 0), (Value.int .i64 0)]) (cs' := #[(Value.int .i64 0), (Value.int .i64 0)]) hI .z rfl rfl rfl (ev_tmp rfl rfl) (ev_tmp rfl rfl) rfl size_27 rfl rfl rfl ?_
    clear hI; intro c4 w4 hI
    refine s_nil ?_
    refine k_next (e := [(2, (Value.pointer (some ⟨b2, 0, none⟩)))]) ⟨rfl, trivial⟩ ?_
    refine c_ret ?_
    obtain rfl := some_inj h
    exact q_ret (vs := [(Value.agg #[(Value.int .i64 0), (Value.int .i64 0)])]) Tryz.results27 ⟨⟨_, ev_tmp rfl rfl, load_agg (l := [(Value.int .i64 0), (Value.int .i64 0)]) Tryz.underlying27 rfl size_27 (CellsAt.of_blk (hI.blk .z) rfl)⟩, trivial⟩ ⟨rfl, hI.ext0, hI.fin trivial⟩
  · replace h := ite_f hb h
    refine c_skip ?_
    refine k_next (e := [(2, (Value.pointer (some ⟨b2, 0, none⟩)))]) ⟨rfl, trivial⟩ ?_
    refine c_seq ?_
    refine c_region rfl ?_
    refine s_q rfl rfl (y_build (vs := [(0, (Value.int .i64 0)), (1, (Value.int .i64 1))]) (cs := #[(Value.int .i64 0), (Value.int .i64 1)]) rfl ⟨rfl, ev_const, ⟨rfl, ev_const, trivial⟩⟩ (by kernel_rfl)) ?_
    refine l_store (new := [(Value.int .i64 0), (Value.int .i64 1)]) (cs' := #[(Value.int .i64 0), (Value.int .i64 1)]) hI .z rfl rfl rfl (ev_tmp rfl rfl) (ev_tmp rfl rfl) rfl size_27 rfl rfl rfl ?_
    clear hI; intro c5 w5 hI
    refine s_nil ?_
    refine k_next (e := [(2, (Value.pointer (some ⟨b2, 0, none⟩)))]) ⟨rfl, trivial⟩ ?_
    refine c_ret ?_
    obtain rfl := some_inj h
    exact q_ret (vs := [(Value.agg #[(Value.int .i64 0), (Value.int .i64 1)])]) Tryz.results27 ⟨⟨_, ev_tmp rfl rfl, load_agg (l := [(Value.int .i64 0), (Value.int .i64 1)]) Tryz.underlying27 rfl size_27 (CellsAt.of_blk (hI.blk .z) rfl)⟩, trivial⟩ ⟨rfl, hI.ext0, hI.fin trivial⟩

set_option maxRecDepth 100000 in
set_option maxHeartbeats 4000000 in
theorem c_value_Identity (F : NP) (w0 : World) (hF : ∀ k, F k → k < w0.heap.size) (fold1 : Int) (t1 : GType) (hc : AllCl [] F w0) (r : GVal × Bool)
    (h : m_value_Identity fold1 t1 = some r) :
    Calls Tryz.prog 9 #[(Value.int .i64 fold1), (Value.agg #[(Value.int .i64 t1.Kind), (Value.int .i64 t1.Bits), (Value.int .i64 t1.Frac), (Value.int .i64 t1.Round), (Value.int .i64 t1.Over)])] w0 fun e w => e = .returned (Value.tuple #[(Value.agg #[(Value.int .i64 r.1.N), (Value.int .i64 r.1.D)]), (Value.bool r.2)]) ∧ Ext w0 w ∧ AllCl [] F w := by
  refine ofEnter (R := fun v w => v = (Value.tuple #[(Value.agg #[(Value.int .i64 r.1.N), (Value.int .i64 r.1.D)]), (Value.bool r.2)]) ∧ Ext w0 w ∧ AllCl [] F w) (enter (l := [(Value.int .i64 fold1), (Value.agg #[(Value.int .i64 t1.Kind), (Value.int .i64 t1.Bits), (Value.int .i64 t1.Frac), (Value.int .i64 t1.Round), (Value.int .i64 t1.Over)])]) Tryz.func9 rfl Tryz.ntmps9 rfl ?_) ?_
  rotate_left
  · rintro _ w ⟨rfl, k1, k2⟩; exact ⟨rfl, k1, k2⟩
  have hI := Bun.start hF hc
  clear hc
  rw [m_value_Identity] at h
  refine c_seq ?_
  refine c_region rfl ?_
  refine l_box (v := (Value.agg #[(Value.int .i64 t1.Kind), (Value.int .i64 t1.Bits), (Value.int .i64 t1.Frac), (Value.int .i64 t1.Round), (Value.int .i64 t1.Over)])) (cs := #[(Value.int .i64 t1.Kind), (Value.int .i64 t1.Bits), (Value.int .i64 t1.Frac), (Value.int .i64 t1.Round), (Value.int .i64 t1.Over)]) hI rfl rfl rfl (ev_tmp rfl rfl) rfl ?_
  clear hI; intro b1 c1 w1 hI
  obtain ⟨c2, hI⟩ := hI.relBox .z
  refine l_alloc (cs := #[(Value.int .i64 0), (Value.int .i64 0)]) hI rfl rfl rfl zero_27 rfl ?_
  clear hI; intro b2 c3 w2 hI
  refine s_q rfl rfl (y_assign rfl ev_const) ?_
  refine s_nil ?_
  refine k_next (e := [(0, (Value.int .i64 fold1)), (3, (Value.pointer (some ⟨b1, 0, none⟩))), (4, (Value.pointer (some ⟨b2, 0, none⟩)))]) ⟨rfl, rfl, rfl, trivial⟩ ?_
  refine c_seq ?_
  refine c_seq ?_
  refine c_region rfl ?_
  refine s_q rfl rfl (y_loadN (l := [(Value.int .i64 t1.Kind), (Value.int .i64 t1.Bits), (Value.int .i64 t1.Frac), (Value.int .i64 t1.Round), (Value.int .i64 t1.Over)]) rfl (ev_tmp rfl rfl) Tryz.underlying23 rfl size_23 (hI.kblk (l := [(Value.int .i64 t1.Kind), (Value.int .i64 t1.Bits), (Value.int .i64 t1.Frac), (Value.int .i64 t1.Round), (Value.int .i64 t1.Over)]) .z rfl).1) ?_
  obtain ⟨r1, hx1, h⟩ := bnd_some h
  refine s_call rfl rfl (r_callF (vs := [(Value.agg #[(Value.int .i64 t1.Kind), (Value.int .i64 t1.Bits), (Value.int .i64 t1.Frac), (Value.int .i64 t1.Round), (Value.int .i64 t1.Over)])]) rfl ok_22 ⟨(ev_tmp rfl rfl), trivial⟩) (Calls.mono (c_value_ValidateType (Dj F c3) w2 hI.lt t1 trivial r1 hx1) ?_)
  rintro _ w3 ⟨rfl, hx2, hl1⟩
  refine ⟨_, rfl, ?_⟩
  replace hI := (hI.ext hx2)
  refine s_q rfl rfl (y_neq rfl (ev_tmp rfl rfl) ev_const) ?_
  refine s_nil ?_
  refine k_next (e := [(0, (Value.int .i64 fold1)), (3, (Value.pointer (some ⟨b1, 0, none⟩))), (4, (Value.pointer (some ⟨b2, 0, none⟩))), (10, (Value.bool (!decide (r1 = 0))))]) ⟨rfl, rfl, rfl, rfl, trivial⟩ ?_
  refine c_cond (b := !decide (r1 = 0)) (ev_tmp rfl rfl) (fun hb => ?_) (fun hb => ?_)
  · replace h := ite_t hb h
    refine c_seq ?_
    refine c_region rfl ?_
    refine s_q rfl rfl (y_build (vs := []) (cs := #[(Value.int .i64 0), (Value.int .i64 0)]) rfl trivial (by kernel_rfl)) ?_
    refine l_store (new := [(Value.int .i64 0), (Value.int .i64 0)]) (cs' := #[(Value.int .i64 0), (Value.int .i64 0)]) hI .z rfl rfl rfl (ev_tmp rfl rfl) (ev_tmp rfl rfl) rfl size_27 rfl rfl rfl ?_
    clear hI; intro c4 w4 hI
    refine s_q rfl rfl (y_assign rfl ev_const) ?_
    refine s_nil ?_
    refine k_next (e := [(4, (Value.pointer (some ⟨b2, 0, none⟩))), (5, (Value.bool false))]) ⟨rfl, rfl, trivial⟩ ?_
    refine c_ret ?_
    obtain rfl := some_inj h
    exact q_ret (vs := [(Value.agg #[(Value.int .i64 0), (Value.int .i64 0)]), (Value.bool false)]) Tryz.results9 ⟨⟨_, ev_tmp rfl rfl, load_agg (l := [(Value.int .i64 0), (Value.int .i64 0)]) Tryz.underlying27 rfl size_27 (CellsAt.of_blk (hI.blk .z) rfl)⟩, ⟨ev_tmp rfl rfl, trivial⟩⟩ ⟨rfl, hI.ext0, hI.fin trivial⟩
  · replace h := ite_f hb h
    refine c_skip ?_
    refine k_next (e := [(0, (Value.int .i64 fold1)), (3, (Value.pointer (some ⟨b1, 0, none⟩))), (4, (Value.pointer (some ⟨b2, 0, none⟩)))]) ⟨rfl, rfl, rfl, trivial⟩ ?_
    refine c_seq ?_
    refine c_seq ?_
    refine c_region rfl ?_
    refine s_q rfl rfl (y_move rfl (ev_tmp rfl rfl)) ?_
    refine s_nil ?_
    refine k_next (e := [(3, (Value.pointer (some ⟨b1, 0, none⟩))), (4, (Value.pointer (some ⟨b2, 0, none⟩))), (12, (Value.int .i64 fold1))]) ⟨rfl, rfl, rfl, trivial⟩ ?_
    refine c_block ?_
    refine c_join (α := Bool) (fun _ => ⟨29, []⟩) (fun x => [(3, (Value.pointer (some ⟨b1, 0, none⟩))), (4, (Value.pointer (some ⟨b2, 0, none⟩))), (12, (Value.int .i64 fold1)), (13, (Value.bool x))]) (fun x => fun w => ∃ C, Bun noM F w0 C w [MO.box b2 27 #[(Value.int .i64 0), (Value.int .i64 0)]] [Cl.blk b1 23 #[(Value.int .i64 t1.Kind), (Value.int .i64 t1.Bits), (Value.int .i64 t1.Frac), (Value.int .i64 t1.Round), (Value.int .i64 t1.Over)]] ∧ m_value_Identity_j1 t1 fold1 x = some r) ?_ ?_
    · clear h hI; rintro i1 w5 ⟨c5, hI, h⟩
      try dsimp only at hI h
      rw [m_value_Identity_j1] at h
      refine c_sub (e := [(3, (Value.pointer (some ⟨b1, 0, none⟩))), (4, (Value.pointer (some ⟨b2, 0, none⟩))), (12, (Value.int .i64 fold1)), (13, (Value.bool i1))]) ⟨rfl, rfl, rfl, rfl, trivial⟩ ?_
      refine c_cond (b := i1) (ev_tmp rfl rfl) (fun hb => ?_) (fun hb => ?_)
      · replace h := ite_t hb h
        refine c_seq ?_
        refine c_region rfl ?_
        refine s_q rfl rfl (y_loadN (l := [(Value.int .i64 t1.Kind), (Value.int .i64 t1.Bits), (Value.int .i64 t1.Frac), (Value.int .i64 t1.Round), (Value.int .i64 t1.Over)]) rfl (ev_tmp rfl rfl) Tryz.underlying23 rfl size_23 (hI.kblk (l := [(Value.int .i64 t1.Kind), (Value.int .i64 t1.Bits), (Value.int .i64 t1.Frac), (Value.int .i64 t1.Round), (Value.int .i64 t1.Over)]) .z rfl).1) ?_
        obtain ⟨r2, hx3, h⟩ := bnd_some h
        refine s_call rfl rfl (r_callF (vs := [(Value.agg #[(Value.int .i64 t1.Kind), (Value.int .i64 t1.Bits), (Value.int .i64 t1.Frac), (Value.int .i64 t1.Round), (Value.int .i64 t1.Over)])]) rfl ok_27 ⟨(ev_tmp rfl rfl), trivial⟩) (Calls.mono (c_value_Zero (Dj F c5) w5 hI.lt t1 trivial r2 hx3) ?_)
        rintro _ w6 ⟨rfl, hx4, hl2⟩
        refine ⟨_, rfl, ?_⟩
        replace hI := (hI.ext hx4)
        refine l_store (new := [(Value.int .i64 r2.N), (Value.int .i64 r2.D)]) (cs' := #[(Value.int .i64 r2.N), (Value.int .i64 r2.D)]) hI .z rfl rfl rfl (ev_tmp rfl rfl) (ev_tmp rfl rfl) rfl size_27 rfl rfl rfl ?_
        clear hI; intro c6 w7 hI
        refine s_q rfl rfl (y_assign rfl ev_const) ?_
        refine s_nil ?_
        refine k_next (e := [(4, (Value.pointer (some ⟨b2, 0, none⟩))), (5, (Value.bool true))]) ⟨rfl, rfl, trivial⟩ ?_
        refine c_ret ?_
        obtain rfl := some_inj h
        exact q_ret (vs := [(Value.agg #[(Value.int .i64 r2.N), (Value.int .i64 r2.D)]), (Value.bool true)]) Tryz.results9 ⟨⟨_, ev_tmp rfl rfl, load_agg (l := [(Value.int .i64 r2.N), (Value.int .i64 r2.D)]) Tryz.underlying27 rfl size_27 (CellsAt.of_blk (hI.blk .z) rfl)⟩, ⟨ev_tmp rfl rfl, trivial⟩⟩ ⟨rfl, hI.ext0, hI.fin trivial⟩
      · replace h := ite_f hb h
        refine c_seq ?_
        refine c_region rfl ?_
        refine s_q rfl rfl (y_eql rfl (ev_tmp rfl rfl) ev_const) ?_
        refine s_q rfl rfl (y_assign rfl (ev_tmp rfl rfl)) ?_
        refine s_nil ?_
        refine k_next (e := [(3, (Value.pointer (some ⟨b1, 0, none⟩))), (4, (Value.pointer (some ⟨b2, 0, none⟩))), (18, (Value.bool (decide (fold1 = 2))))]) ⟨rfl, rfl, rfl, trivial⟩ ?_
        refine c_cond (b := decide (fold1 = 2)) (ev_tmp rfl rfl) (fun hb => ?_) (fun hb => ?_)
        · replace h := ite_t hb h
          refine c_seq ?_
          refine c_region rfl ?_
          refine s_q rfl rfl (y_loadN (l := [(Value.int .i64 t1.Kind), (Value.int .i64 t1.Bits), (Value.int .i64 t1.Frac), (Value.int .i64 t1.Round), (Value.int .i64 t1.Over)]) rfl (ev_tmp rfl rfl) Tryz.underlying23 rfl size_23 (hI.kblk (l := [(Value.int .i64 t1.Kind), (Value.int .i64 t1.Bits), (Value.int .i64 t1.Frac), (Value.int .i64 t1.Round), (Value.int .i64 t1.Over)]) .z rfl).1) ?_
          obtain ⟨r3, hx5, h⟩ := bnd_some h
          refine s_call rfl rfl (r_callF (vs := [(Value.agg #[(Value.int .i64 t1.Kind), (Value.int .i64 t1.Bits), (Value.int .i64 t1.Frac), (Value.int .i64 t1.Round), (Value.int .i64 t1.Over)])]) rfl ok_20 ⟨(ev_tmp rfl rfl), trivial⟩) (Calls.mono (c_value_One (Dj F c5) w5 hI.lt t1 trivial r3 hx5) ?_)
          rintro _ w8 ⟨rfl, hx6, hl3⟩
          refine ⟨_, rfl, ?_⟩
          replace hI := (hI.ext hx6)
          refine s_q rfl rfl (y_move rfl (ev_tmp rfl rfl)) ?_
          refine s_q rfl rfl (y_extract rfl (ev_tmp rfl rfl) rfl) ?_
          refine s_q rfl rfl (y_extract rfl (ev_tmp rfl rfl) rfl) ?_
          refine l_alloc (cs := #[(Value.int .i64 0), (Value.int .i64 0)]) hI rfl rfl rfl zero_27 rfl ?_
          clear hI; intro b3 c7 w9 hI
          refine l_store (new := [(Value.int .i64 r3.1.N), (Value.int .i64 r3.1.D)]) (cs' := #[(Value.int .i64 r3.1.N), (Value.int .i64 r3.1.D)]) hI .z rfl rfl rfl (ev_tmp rfl rfl) (ev_tmp rfl rfl) rfl size_27 rfl rfl rfl ?_
          clear hI; intro c8 w10 hI
          refine s_q rfl rfl (y_assign rfl (ev_tmp rfl rfl)) ?_
          refine s_nil ?_
          refine k_next (e := [(4, (Value.pointer (some ⟨b2, 0, none⟩))), (6, (Value.pointer (some ⟨b3, 0, none⟩))), (7, (Value.int .i64 r3.2))]) ⟨rfl, rfl, rfl, trivial⟩ ?_
          refine c_seq ?_
          refine c_region rfl ?_
          refine s_q rfl rfl (y_loadN (l := [(Value.int .i64 r3.1.N), (Value.int .i64 r3.1.D)]) rfl (ev_tmp rfl rfl) Tryz.underlying27 rfl size_27 (CellsAt.of_blk (hI.blk .z) rfl)) ?_
          refine s_q rfl rfl (y_move rfl (ev_tmp rfl rfl)) ?_
          refine s_q rfl rfl (y_eql rfl (ev_tmp rfl rfl) ev_const) ?_
          refine l_store (new := [(Value.int .i64 r3.1.N), (Value.int .i64 r3.1.D)]) (cs' := #[(Value.int .i64 r3.1.N), (Value.int .i64 r3.1.D)]) hI (.s .z) rfl rfl rfl (ev_tmp rfl rfl) (ev_tmp rfl rfl) rfl size_27 rfl rfl rfl ?_
          clear hI; intro c9 w11 hI
          refine s_q rfl rfl (y_assign rfl (ev_tmp rfl rfl)) ?_
          refine s_nil ?_
          refine k_next (e := [(4, (Value.pointer (some ⟨b2, 0, none⟩))), (5, (Value.bool (decide (r3.2 = 0))))]) ⟨rfl, rfl, trivial⟩ ?_
          refine c_ret ?_
          obtain rfl := some_inj h
          exact q_ret (vs := [(Value.agg #[(Value.int .i64 r3.1.N), (Value.int .i64 r3.1.D)]), (Value.bool (decide (r3.2 = 0)))]) Tryz.results9 ⟨⟨_, ev_tmp rfl rfl, load_agg (l := [(Value.int .i64 r3.1.N), (Value.int .i64 r3.1.D)]) Tryz.underlying27 rfl size_27 (CellsAt.of_blk (hI.blk (.s .z)) rfl)⟩, ⟨ev_tmp rfl rfl, trivial⟩⟩ ⟨rfl, hI.ext0, hI.fin trivial⟩
        · replace h := ite_f hb h
          refine c_skip ?_
          refine k_next (e := [(4, (Value.pointer (some ⟨b2, 0, none⟩)))]) ⟨rfl, trivial⟩ ?_
          refine c_seq ?_
          refine c_region rfl ?_
          refine s_q rfl rfl (y_build (vs := []) (cs := #[(Value.int .i64 0), (Value.int .i64 0)]) rfl trivial (by kernel_rfl)) ?_
          refine l_store (new := [(Value.int .i64 0), (Value.int .i64 0)]) (cs' := #[(Value.int .i64 0), (Value.int .i64 0)]) hI .z rfl rfl rfl (ev_tmp rfl rfl) (ev_tmp rfl rfl) rfl size_27 rfl rfl rfl ?_
          clear hI; intro c10 w12 hI
          refine s_q rfl rfl (y_assign rfl ev_const) ?_
          refine s_nil ?_
          refine k_next (e := [(4, (Value.pointer (some ⟨b2, 0, none⟩))), (5, (Value.bool false))]) ⟨rfl, rfl, trivial⟩ ?_
          refine c_ret ?_
          obtain rfl := some_inj h
          exact q_ret (vs := [(Value.agg #[(Value.int .i64 0), (Value.int .i64 0)]), (Value.bool false)]) Tryz.results9 ⟨⟨_, ev_tmp rfl rfl, load_agg (l := [(Value.int .i64 0), (Value.int .i64 0)]) Tryz.underlying27 rfl size_27 (CellsAt.of_blk (hI.blk .z) rfl)⟩, ⟨ev_tmp rfl rfl, trivial⟩⟩ ⟨rfl, hI.ext0, hI.fin trivial⟩
    · skip
      refine c_seq ?_
      refine c_region rfl ?_
      refine s_q rfl rfl (y_eql rfl (ev_tmp rfl rfl) ev_const) ?_
      refine s_q rfl rfl (y_assign rfl (ev_tmp rfl rfl)) ?_
      refine s_nil ?_
      refine k_next (e := [(3, (Value.pointer (some ⟨b1, 0, none⟩))), (4, (Value.pointer (some ⟨b2, 0, none⟩))), (12, (Value.int .i64 fold1)), (13, (Value.bool (decide (fold1 = 1))))]) ⟨rfl, rfl, rfl, rfl, trivial⟩ ?_
      refine c_cond (b := decide (fold1 = 1)) (ev_tmp rfl rfl) (fun hb => ?_) (fun hb => ?_)
      · replace h := ite_t hb h
        refine c_skip ?_
        exact k_join (decide (fold1 = 1)) ⟨rfl, rfl, rfl, rfl, trivial⟩ ⟨_, hI.arr (.c .z .n) ⟨.z, trivial⟩, h⟩ rfl
      · replace h := ite_f hb h
        refine c_region rfl ?_
        refine s_q rfl rfl (y_eql rfl (ev_tmp rfl rfl) ev_const) ?_
        refine s_q rfl rfl (y_assign rfl (ev_tmp rfl rfl)) ?_
        refine s_nil ?_
        exact k_join (decide (fold1 = 5)) ⟨rfl, rfl, rfl, rfl, trivial⟩ ⟨_, hI.arr (.c .z .n) ⟨.z, trivial⟩, h⟩ rfl

set_option maxRecDepth 100000 in
set_option maxHeartbeats 4000000 in
theorem c_value_Reduce (F : NP) (w0 : World) (hF : ∀ k, F k → k < w0.heap.size) (fold1 : Int) (t1 : GType) (l1 : List GVal) (a1 : Option Addr) (c1 : Nat) (hc : AllCl [Cl.sl cGVal a1 c1 l1] F w0) (r : GVal × Int)
    (h : m_value_Reduce fold1 t1 l1 = some r) :
    Calls Tryz.prog 7 #[(Value.int .i64 fold1), (Value.agg #[(Value.int .i64 t1.Kind), (Value.int .i64 t1.Bits), (Value.int .i64 t1.Frac), (Value.int .i64 t1.Round), (Value.int .i64 t1.Over)]), (Value.slice a1 l1.length c1)] w0 fun e w => e = .returned (Value.tuple #[(Value.agg #[(Value.int .i64 r.1.N), (Value.int .i64 r.1.D)]), (Value.int .i64 r.2)]) ∧ Ext w0 w ∧ AllCl [] F w := by
  refine ofEnter (R := fun v w => v = (Value.tuple #[(Value.agg #[(Value.int .i64 r.1.N), (Value.int .i64 r.1.D)]), (Value.int .i64 r.2)]) ∧ Ext w0 w ∧ AllCl [] F w) (enter (l := [(Value.int .i64 fold1), (Value.agg #[(Value.int .i64 t1.Kind), (Value.int .i64 t1.Bits), (Value.int .i64 t1.Frac), (Value.int .i64 t1.Round), (Value.int .i64 t1.Over)]), (Value.slice a1 l1.length c1)]) Tryz.func7 rfl Tryz.ntmps7 rfl ?_) ?_
  rotate_left
  · rintro _ w ⟨rfl, k1, k2⟩; exact ⟨rfl, k1, k2⟩
  have hI := Bun.start hF hc
  clear hc
  rw [m_value_Reduce] at h
  refine c_seq ?_
  refine c_region rfl ?_
  refine l_box (v := (Value.agg #[(Value.int .i64 t1.Kind), (Value.int .i64 t1.Bits), (Value.int .i64 t1.Frac), (Value.int .i64 t1.Round), (Value.int .i64 t1.Over)])) (cs := #[(Value.int .i64 t1.Kind), (Value.int .i64 t1.Bits), (Value.int .i64 t1.Frac), (Value.int .i64 t1.Round), (Value.int .i64 t1.Over)]) hI rfl rfl rfl (ev_tmp rfl rfl) rfl ?_
  clear hI; intro b1 c2 w1 hI
  obtain ⟨c3, hI⟩ := hI.relBox .z
  refine l_alloc (cs := #[(Value.int .i64 0), (Value.int .i64 0)]) hI rfl rfl rfl zero_27 rfl ?_
  clear hI; intro b2 c4 w2 hI
  refine s_q rfl rfl (y_assign rfl ev_const) ?_
  refine s_nil ?_
  refine k_next (e := [(0, (Value.int .i64 fold1)), (2, (Value.slice a1 l1.length c1)), (4, (Value.pointer (some ⟨b1, 0, none⟩))), (6, (Value.pointer (some ⟨b2, 0, none⟩)))]) ⟨rfl, rfl, rfl, rfl, trivial⟩ ?_
  refine c_seq ?_
  refine c_region rfl ?_
  refine s_q rfl rfl (y_move rfl (ev_tmp rfl rfl)) ?_
  obtain ⟨r1, hx1, h⟩ := bnd_some h
  refine s_call rfl rfl (r_callF (vs := [(Value.int .i64 fold1)]) rfl ok_21 ⟨(ev_tmp rfl rfl), trivial⟩) (Calls.mono (c_value_operator (Dj F c4) w2 hI.lt fold1 trivial r1 hx1) ?_)
  rintro _ w3 ⟨rfl, hx2, hl1⟩
  refine ⟨_, rfl, ?_⟩
  replace hI := (hI.ext hx2)
  refine s_q rfl rfl (y_move rfl (ev_tmp rfl rfl)) ?_
  refine s_q rfl rfl (y_extract rfl (ev_tmp rfl rfl) rfl) ?_
  refine s_q rfl rfl (y_extract rfl (ev_tmp rfl rfl) rfl) ?_
  refine s_q rfl rfl (y_assign rfl (ev_tmp rfl rfl)) ?_
  refine s_q rfl rfl (y_assign rfl (ev_tmp rfl rfl)) ?_
  refine s_nil ?_
  refine k_next (e := [(0, (Value.int .i64 fold1)), (2, (Value.slice a1 l1.length c1)), (4, (Value.pointer (some ⟨b1, 0, none⟩))), (6, (Value.pointer (some ⟨b2, 0, none⟩))), (8, (Value.int .i64 r1.1)), (9, (Value.bool r1.2))]) ⟨rfl, rfl, rfl, rfl, rfl, rfl, trivial⟩ ?_
  refine c_seq ?_
  refine c_block ?_
  refine c_seq ?_
  refine c_region rfl ?_
  refine s_q rfl rfl (y_move rfl (ev_tmp rfl rfl)) ?_
  refine s_q rfl rfl (y_not rfl (ev_tmp rfl rfl)) ?_
  refine s_q rfl rfl (y_assign rfl (ev_tmp rfl rfl)) ?_
  refine s_nil ?_
  refine k_next (e := [(0, (Value.int .i64 fold1)), (2, (Value.slice a1 l1.length c1)), (4, (Value.pointer (some ⟨b1, 0, none⟩))), (6, (Value.pointer (some ⟨b2, 0, none⟩))), (8, (Value.int .i64 r1.1)), (24, (Value.bool (!r1.2)))]) ⟨rfl, rfl, rfl, rfl, rfl, rfl, trivial⟩ ?_
  refine c_cond (b := !r1.2) (ev_tmp rfl rfl) (fun hb => ?_) (fun hb => ?_)
  · replace h := ite_t hb h
    refine c_seq ?_
    refine c_region rfl ?_
    refine s_q rfl rfl (y_build (vs := []) (cs := #[(Value.int .i64 0), (Value.int .i64 0)]) rfl trivial (by kernel_rfl)) ?_
    refine l_store (new := [(Value.int .i64 0), (Value.int .i64 0)]) (cs' := #[(Value.int .i64 0), (Value.int .i64 0)]) hI .z rfl rfl rfl (ev_tmp rfl rfl) (ev_tmp rfl rfl) rfl size_27 rfl rfl rfl ?_
    clear hI; intro c5 w4 hI
    refine s_q rfl rfl (y_assign rfl ev_const) ?_
    refine s_nil ?_
    refine k_next (e := [(6, (Value.pointer (some ⟨b2, 0, none⟩))), (7, (Value.int .i64 1))]) ⟨rfl, rfl, trivial⟩ ?_
    refine c_ret ?_
    obtain rfl := some_inj h
    exact q_ret (vs := [(Value.agg #[(Value.int .i64 0), (Value.int .i64 0)]), (Value.int .i64 1)]) Tryz.results7 ⟨⟨_, ev_tmp rfl rfl, load_agg (l := [(Value.int .i64 0), (Value.int .i64 0)]) Tryz.underlying27 rfl size_27 (CellsAt.of_blk (hI.blk .z) rfl)⟩, ⟨ev_tmp rfl rfl, trivial⟩⟩ ⟨rfl, hI.ext0, hI.fin trivial⟩
  · replace h := ite_f hb h
    refine c_seq ?_
    refine c_region rfl ?_
    refine s_q rfl rfl (y_loadN (l := [(Value.int .i64 t1.Kind), (Value.int .i64 t1.Bits), (Value.int .i64 t1.Frac), (Value.int .i64 t1.Round), (Value.int .i64 t1.Over)]) rfl (ev_tmp rfl rfl) Tryz.underlying23 rfl size_23 (hI.kblk (l := [(Value.int .i64 t1.Kind), (Value.int .i64 t1.Bits), (Value.int .i64 t1.Frac), (Value.int .i64 t1.Round), (Value.int .i64 t1.Over)]) .z rfl).1) ?_
    obtain ⟨r2, hx3, h⟩ := bnd_some h
    refine s_call rfl rfl (r_callF (vs := [(Value.agg #[(Value.int .i64 t1.Kind), (Value.int .i64 t1.Bits), (Value.int .i64 t1.Frac), (Value.int .i64 t1.Round), (Value.int .i64 t1.Over)])]) rfl ok_22 ⟨(ev_tmp rfl rfl), trivial⟩) (Calls.mono (c_value_ValidateType (Dj F c4) w3 hI.lt t1 trivial r2 hx3) ?_)
    rintro _ w5 ⟨rfl, hx4, hl2⟩
    refine ⟨_, rfl, ?_⟩
    replace hI := (hI.ext hx4)
    refine s_q rfl rfl (y_neq rfl (ev_tmp rfl rfl) ev_const) ?_
    refine s_q rfl rfl (y_assign rfl (ev_tmp rfl rfl)) ?_
    refine s_nil ?_
    refine k_next (e := [(0, (Value.int .i64 fold1)), (2, (Value.slice a1 l1.length c1)), (4, (Value.pointer (some ⟨b1, 0, none⟩))), (6, (Value.pointer (some ⟨b2, 0, none⟩))), (8, (Value.int .i64 r1.1)), (28, (Value.bool (!decide (r2 = 0))))]) ⟨rfl, rfl, rfl, rfl, rfl, rfl, trivial⟩ ?_
    refine c_cond (b := !decide (r2 = 0)) (ev_tmp rfl rfl) (fun hb => ?_) (fun hb => ?_)
    · replace h := ite_t hb h
      refine c_seq ?_
      refine c_region rfl ?_
      refine s_q rfl rfl (y_build (vs := []) (cs := #[(Value.int .i64 0), (Value.int .i64 0)]) rfl trivial (by kernel_rfl)) ?_
      refine l_store (new := [(Value.int .i64 0), (Value.int .i64 0)]) (cs' := #[(Value.int .i64 0), (Value.int .i64 0)]) hI .z rfl rfl rfl (ev_tmp rfl rfl) (ev_tmp rfl rfl) rfl size_27 rfl rfl rfl ?_
      clear hI; intro c6 w6 hI
      refine s_q rfl rfl (y_assign rfl ev_const) ?_
      refine s_nil ?_
      refine k_next (e := [(6, (Value.pointer (some ⟨b2, 0, none⟩))), (7, (Value.int .i64 10))]) ⟨rfl, rfl, trivial⟩ ?_
      refine c_ret ?_
      obtain rfl := some_inj h
      exact q_ret (vs := [(Value.agg #[(Value.int .i64 0), (Value.int .i64 0)]), (Value.int .i64 10)]) Tryz.results7 ⟨⟨_, ev_tmp rfl rfl, load_agg (l := [(Value.int .i64 0), (Value.int .i64 0)]) Tryz.underlying27 rfl size_27 (CellsAt.of_blk (hI.blk .z) rfl)⟩, ⟨ev_tmp rfl rfl, trivial⟩⟩ ⟨rfl, hI.ext0, hI.fin trivial⟩
    · replace h := ite_f hb h
      refine c_skip ?_
      refine k_next (e := [(0, (Value.int .i64 fold1)), (2, (Value.slice a1 l1.length c1)), (4, (Value.pointer (some ⟨b1, 0, none⟩))), (6, (Value.pointer (some ⟨b2, 0, none⟩))), (8, (Value.int .i64 r1.1))]) ⟨rfl, rfl, rfl, rfl, rfl, trivial⟩ ?_
      refine c_join (α := Unit) (fun _ => ⟨83, []⟩) (fun _ => [(0, (Value.int .i64 fold1)), (2, (Value.slice a1 l1.length c1)), (4, (Value.pointer (some ⟨b1, 0, none⟩))), (6, (Value.pointer (some ⟨b2, 0, none⟩))), (8, (Value.int .i64 r1.1))]) (fun _ => fun w => ∃ C, Bun noM F w0 C w [MO.box b2 27 #[(Value.int .i64 0), (Value.int .i64 0)]] [Cl.sl cGVal a1 c1 l1, Cl.blk b1 23 #[(Value.int .i64 t1.Kind), (Value.int .i64 t1.Bits), (Value.int .i64 t1.Frac), (Value.int .i64 t1.Round), (Value.int .i64 t1.Over)]] ∧ m_value_Reduce_j1 l1 fold1 t1 r1 = some r) ?_ ?_
      · clear h hI; rintro _ w7 ⟨c7, hI, h⟩
        try dsimp only at hI h
        rw [m_value_Reduce_j1] at h
        refine c_sub (e := [(0, (Value.int .i64 fold1)), (2, (Value.slice a1 l1.length c1)), (4, (Value.pointer (some ⟨b1, 0, none⟩))), (6, (Value.pointer (some ⟨b2, 0, none⟩))), (8, (Value.int .i64 r1.1))]) ⟨rfl, rfl, rfl, rfl, rfl, trivial⟩ ?_
        refine c_seq ?_
        refine c_seq ?_
        refine c_region rfl ?_
        refine s_q rfl rfl (y_move rfl (ev_tmp rfl rfl)) ?_
        refine s_q rfl rfl (y_lenl rfl Tryz.underlying24 (ev_tmp rfl rfl)) ?_
        refine s_q rfl rfl (y_eql rfl (ev_tmp rfl rfl) ev_const) ?_
        refine s_nil ?_
        refine k_next (e := [(0, (Value.int .i64 fold1)), (2, (Value.slice a1 l1.length c1)), (4, (Value.pointer (some ⟨b1, 0, none⟩))), (6, (Value.pointer (some ⟨b2, 0, none⟩))), (8, (Value.int .i64 r1.1)), (47, (Value.bool (decide ((l1.length : Int) = 0))))]) ⟨rfl, rfl, rfl, rfl, rfl, rfl, trivial⟩ ?_
        refine c_cond (b := decide ((l1.length : Int) = 0)) (ev_tmp rfl rfl) (fun hb => ?_) (fun hb => ?_)
        · replace h := ite_t hb h
          refine c_seq ?_
          refine c_region rfl ?_
          refine s_q rfl rfl (y_move rfl (ev_tmp rfl rfl)) ?_
          refine s_q rfl rfl (y_loadN (l := [(Value.int .i64 t1.Kind), (Value.int .i64 t1.Bits), (Value.int .i64 t1.Frac), (Value.int .i64 t1.Round), (Value.int .i64 t1.Over)]) rfl (ev_tmp rfl rfl) Tryz.underlying23 rfl size_23 (hI.kblk (l := [(Value.int .i64 t1.Kind), (Value.int .i64 t1.Bits), (Value.int .i64 t1.Frac), (Value.int .i64 t1.Round), (Value.int .i64 t1.Over)]) (.s .z) rfl).1) ?_
          obtain ⟨r3, hx5, h⟩ := bnd_some h
          refine s_call rfl rfl (r_callF (vs := [(Value.int .i64 fold1), (Value.agg #[(Value.int .i64 t1.Kind), (Value.int .i64 t1.Bits), (Value.int .i64 t1.Frac), (Value.int .i64 t1.Round), (Value.int .i64 t1.Over)])]) rfl ok_9 ⟨(ev_tmp rfl rfl), ⟨(ev_tmp rfl rfl), trivial⟩⟩) (Calls.mono (c_value_Identity (Dj F c7) w7 hI.lt fold1 t1 trivial r3 hx5) ?_)
          rintro _ w8 ⟨rfl, hx6, hl3⟩
          refine ⟨_, rfl, ?_⟩
          replace hI := (hI.ext hx6)
          refine s_q rfl rfl (y_move rfl (ev_tmp rfl rfl)) ?_
          refine s_q rfl rfl (y_extract rfl (ev_tmp rfl rfl) rfl) ?_
          refine s_q rfl rfl (y_extract rfl (ev_tmp rfl rfl) rfl) ?_
          refine l_alloc (cs := #[(Value.int .i64 0), (Value.int .i64 0)]) hI rfl rfl rfl zero_27 rfl ?_
          clear hI; intro b3 c8 w9 hI
          refine l_store (new := [(Value.int .i64 r3.1.N), (Value.int .i64 r3.1.D)]) (cs' := #[(Value.int .i64 r3.1.N), (Value.int .i64 r3.1.D)]) hI .z rfl rfl rfl (ev_tmp rfl rfl) (ev_tmp rfl rfl) rfl size_27 rfl rfl rfl ?_
          clear hI; intro c9 w10 hI
          refine s_q rfl rfl (y_assign rfl (ev_tmp rfl rfl)) ?_
          refine s_nil ?_
          refine k_next (e := [(6, (Value.pointer (some ⟨b2, 0, none⟩))), (12, (Value.pointer (some ⟨b3, 0, none⟩))), (13, (Value.bool r3.2))]) ⟨rfl, rfl, rfl, trivial⟩ ?_
          refine c_seq ?_
          refine c_seq ?_
          refine c_region rfl ?_
          refine s_q rfl rfl (y_move rfl (ev_tmp rfl rfl)) ?_
          refine s_q rfl rfl (y_not rfl (ev_tmp rfl rfl)) ?_
          refine s_nil ?_
          refine k_next (e := [(6, (Value.pointer (some ⟨b2, 0, none⟩))), (12, (Value.pointer (some ⟨b3, 0, none⟩))), (55, (Value.bool (!r3.2)))]) ⟨rfl, rfl, rfl, trivial⟩ ?_
          refine c_cond (b := !r3.2) (ev_tmp rfl rfl) (fun hb => ?_) (fun hb => ?_)
          · replace h := ite_t hb h
            refine c_seq ?_
            refine c_region rfl ?_
            refine s_q rfl rfl (y_build (vs := []) (cs := #[(Value.int .i64 0), (Value.int .i64 0)]) rfl trivial (by kernel_rfl)) ?_
            refine l_store (new := [(Value.int .i64 0), (Value.int .i64 0)]) (cs' := #[(Value.int .i64 0), (Value.int .i64 0)]) hI (.s .z) rfl rfl rfl (ev_tmp rfl rfl) (ev_tmp rfl rfl) rfl size_27 rfl rfl rfl ?_
            clear hI; intro c10 w11 hI
            refine s_q rfl rfl (y_assign rfl ev_const) ?_
            refine s_nil ?_
            refine k_next (e := [(6, (Value.pointer (some ⟨b2, 0, none⟩))), (7, (Value.int .i64 1))]) ⟨rfl, rfl, trivial⟩ ?_
            refine c_ret ?_
            obtain rfl := some_inj h
            exact q_ret (vs := [(Value.agg #[(Value.int .i64 0), (Value.int .i64 0)]), (Value.int .i64 1)]) Tryz.results7 ⟨⟨_, ev_tmp rfl rfl, load_agg (l := [(Value.int .i64 0), (Value.int .i64 0)]) Tryz.underlying27 rfl size_27 (CellsAt.of_blk (hI.blk (.s .z)) rfl)⟩, ⟨ev_tmp rfl rfl, trivial⟩⟩ ⟨rfl, hI.ext0, hI.fin trivial⟩
          · replace h := ite_f hb h
            refine c_skip ?_
            refine k_next (e := [(6, (Value.pointer (some ⟨b2, 0, none⟩))), (12, (Value.pointer (some ⟨b3, 0, none⟩)))]) ⟨rfl, rfl, trivial⟩ ?_
            refine c_seq ?_
            refine c_region rfl ?_
            refine s_q rfl rfl (y_loadN (l := [(Value.int .i64 r3.1.N), (Value.int .i64 r3.1.D)]) rfl (ev_tmp rfl rfl) Tryz.underlying27 rfl size_27 (CellsAt.of_blk (hI.blk .z) rfl)) ?_
            refine l_store (new := [(Value.int .i64 r3.1.N), (Value.int .i64 r3.1.D)]) (cs' := #[(Value.int .i64 r3.1.N), (Value.int .i64 r3.1.D)]) hI (.s .z) rfl rfl rfl (ev_tmp rfl rfl) (ev_tmp rfl rfl) rfl size_27 rfl rfl rfl ?_
            clear hI; intro c11 w12 hI
            refine s_q rfl rfl (y_assign rfl ev_const) ?_
            refine s_nil ?_
            refine k_next (e := [(6, (Value.pointer (some ⟨b2, 0, none⟩))), (7, (Value.int .i64 0))]) ⟨rfl, rfl, trivial⟩ ?_
            refine c_ret ?_
            obtain rfl := some_inj h
            exact q_ret (vs := [(Value.agg #[(Value.int .i64 r3.1.N), (Value.int .i64 r3.1.D)]), (Value.int .i64 0)]) Tryz.results7 ⟨⟨_, ev_tmp rfl rfl, load_agg (l := [(Value.int .i64 r3.1.N), (Value.int .i64 r3.1.D)]) Tryz.underlying27 rfl size_27 (CellsAt.of_blk (hI.blk (.s .z)) rfl)⟩, ⟨ev_tmp rfl rfl, trivial⟩⟩ ⟨rfl, hI.ext0, hI.fin trivial⟩
        · replace h := ite_f hb h
          refine c_skip ?_
          refine k_next (e := [(2, (Value.slice a1 l1.length c1)), (4, (Value.pointer (some ⟨b1, 0, none⟩))), (6, (Value.pointer (some ⟨b2, 0, none⟩))), (8, (Value.int .i64 r1.1))]) ⟨rfl, rfl, rfl, rfl, trivial⟩ ?_
          refine c_seq ?_
          refine c_region rfl ?_
          refine s_q rfl rfl (y_move rfl (ev_tmp rfl rfl)) ?_
          obtain ⟨e1, hx7, h⟩ := bnd_some h
          obtain ⟨ad1, cs1, hA1, hr1, hq1⟩ := hI.clat .z hx7
          obtain rfl : cs1 = [(Value.int .i64 e1.N), (Value.int .i64 e1.D)] := hr1
          refine s_q rfl rfl (y_indexAddr rfl Tryz.underlying24 size_27 (ev_tmp rfl rfl) ev_const (lat_bd hx7) hA1) ?_
          refine s_q rfl rfl (y_loadN (l := [(Value.int .i64 e1.N), (Value.int .i64 e1.D)]) rfl (ev_tmp rfl rfl) Tryz.underlying27 rfl size_27 hq1.1) ?_
          refine l_alloc (cs := #[(Value.int .i64 0), (Value.int .i64 0)]) hI rfl rfl rfl zero_27 rfl ?_
          clear hI; intro b4 c12 w13 hI
          refine l_store (new := [(Value.int .i64 e1.N), (Value.int .i64 e1.D)]) (cs' := #[(Value.int .i64 e1.N), (Value.int .i64 e1.D)]) hI .z rfl rfl rfl (ev_tmp rfl rfl) (ev_tmp rfl rfl) rfl size_27 rfl rfl rfl ?_
          clear hI; intro c13 w14 hI
          refine s_nil ?_
          refine k_next (e := [(2, (Value.slice a1 l1.length c1)), (4, (Value.pointer (some ⟨b1, 0, none⟩))), (6, (Value.pointer (some ⟨b2, 0, none⟩))), (8, (Value.int .i64 r1.1)), (14, (Value.pointer (some ⟨b4, 0, none⟩)))]) ⟨rfl, rfl, rfl, rfl, rfl, trivial⟩ ?_
          refine c_seq ?_
          refine c_seq ?_
          refine c_region rfl ?_
          refine s_q rfl rfl (y_move rfl (ev_tmp rfl rfl)) ?_
          obtain ⟨zs1, hx8, h⟩ := bnd_some h
          obtain ⟨a2, hB1⟩ : ∃ B : Option Addr, B = (if c1 = Int.toNat 1 then a1 else Option.map (·.add (Int.toNat 1 * 2)) a1) := ⟨_, rfl⟩
          refine s_q rfl rfl (y_lfrom rfl Tryz.underlying24 size_27 (ev_tmp rfl rfl) ev_const hx8 hB1) ?_
          replace hI := hI.from_ .z hx8 hB1
          refine s_q rfl rfl (y_lenl rfl Tryz.underlying24 (ev_tmp rfl rfl)) ?_
          refine s_q rfl rfl (y_move rfl ev_const) ?_
          refine s_nil ?_
          refine k_next (e := [(4, (Value.pointer (some ⟨b1, 0, none⟩))), (6, (Value.pointer (some ⟨b2, 0, none⟩))), (8, (Value.int .i64 r1.1)), (14, (Value.pointer (some ⟨b4, 0, none⟩))), (62, (Value.slice a2 zs1.length (c1 - Int.toNat 1))), (63, (Value.int .i64 (zs1.length : Int))), (64, (Value.int .i64 0))]) ⟨rfl, rfl, rfl, rfl, rfl, rfl, rfl, trivial⟩ ?_
          refine c_block ?_
          refine c_loop (α := Nat × Int × GVal) (fun x => fun w => ∃ C, Bun noM F w0 C w [MO.box b2 27 #[(Value.int .i64 0), (Value.int .i64 0)], MO.box b4 27 #[(Value.int .i64 (x.2.2).N), (Value.int .i64 (x.2.2).D)]] [Cl.blk b1 23 #[(Value.int .i64 t1.Kind), (Value.int .i64 t1.Bits), (Value.int .i64 t1.Frac), (Value.int .i64 t1.Round), (Value.int .i64 t1.Over)], Cl.sl cGVal a2 (c1 - Int.toNat 1) zs1] ∧ m_value_Reduce_l1 zs1 r1 t1 (x.1) (x.2.1) (x.2.2) = some r) (fun x _ => x.1) (fun x => [(4, (Value.pointer (some ⟨b1, 0, none⟩))), (6, (Value.pointer (some ⟨b2, 0, none⟩))), (8, (Value.int .i64 r1.1)), (14, (Value.pointer (some ⟨b4, 0, none⟩))), (62, (Value.slice a2 zs1.length (c1 - Int.toNat 1))), (63, (Value.int .i64 (zs1.length : Int))), (64, (Value.int .i64 (x.2.1)))]) (fu, 0, e1) ⟨_, hI.arr (.c (.s .z) (.c .z .n)) ⟨(.s (.s .z)), .z, trivial⟩, h⟩ ⟨rfl, rfl, rfl, rfl, rfl, rfl, rfl, trivial⟩ ?_
          clear h hI; rintro ⟨fuel1, i1, out1⟩ w15 ⟨c14, hI, h⟩
          dsimp only at hI h
          rcases fuel1 with _ | fuel1
          · rw [m_value_Reduce_l1] at h; cases h
          rw [m_value_Reduce_l1] at h
          refine c_sub (e := [(4, (Value.pointer (some ⟨b1, 0, none⟩))), (6, (Value.pointer (some ⟨b2, 0, none⟩))), (8, (Value.int .i64 r1.1)), (14, (Value.pointer (some ⟨b4, 0, none⟩))), (62, (Value.slice a2 zs1.length (c1 - Int.toNat 1))), (63, (Value.int .i64 (zs1.length : Int))), (64, (Value.int .i64 i1))]) ⟨rfl, rfl, rfl, rfl, rfl, rfl, rfl, trivial⟩ ?_
          refine c_seq ?_
          refine c_region rfl ?_
          refine s_q rfl rfl (y_lss rfl (ev_tmp rfl rfl) (ev_tmp rfl rfl)) ?_
          refine s_nil ?_
          refine k_next (e := [(4, (Value.pointer (some ⟨b1, 0, none⟩))), (6, (Value.pointer (some ⟨b2, 0, none⟩))), (8, (Value.int .i64 r1.1)), (14, (Value.pointer (some ⟨b4, 0, none⟩))), (62, (Value.slice a2 zs1.length (c1 - Int.toNat 1))), (63, (Value.int .i64 (zs1.length : Int))), (64, (Value.int .i64 i1)), (65, (Value.bool (decide (i1 < (zs1.length : Int)))))]) ⟨rfl, rfl, rfl, rfl, rfl, rfl, rfl, rfl, trivial⟩ ?_
          refine c_seq ?_
          refine c_cond (b := decide (i1 < (zs1.length : Int))) (ev_tmp rfl rfl) (fun hb => ?_) (fun hb => ?_)
          · replace h := ite_t hb h
            refine c_skip ?_
            refine k_next (e := [(4, (Value.pointer (some ⟨b1, 0, none⟩))), (6, (Value.pointer (some ⟨b2, 0, none⟩))), (8, (Value.int .i64 r1.1)), (14, (Value.pointer (some ⟨b4, 0, none⟩))), (62, (Value.slice a2 zs1.length (c1 - Int.toNat 1))), (63, (Value.int .i64 (zs1.length : Int))), (64, (Value.int .i64 i1))]) ⟨rfl, rfl, rfl, rfl, rfl, rfl, rfl, trivial⟩ ?_
            refine c_seq ?_
            refine c_block ?_
            refine c_seq ?_
            refine c_region rfl ?_
            obtain ⟨e2, hx9, h⟩ := bnd_some h
            obtain ⟨ad2, cs2, hA2, hr2, hq2⟩ := hI.clat (.s .z) hx9
            obtain rfl : cs2 = [(Value.int .i64 e2.N), (Value.int .i64 e2.D)] := hr2
            refine s_q rfl rfl (y_indexAddr rfl Tryz.underlying24 size_27 (ev_tmp rfl rfl) (ev_tmp rfl rfl) (lat_bd hx9) hA2) ?_
            refine s_q rfl rfl (y_loadN (l := [(Value.int .i64 e2.N), (Value.int .i64 e2.D)]) rfl (ev_tmp rfl rfl) Tryz.underlying27 rfl size_27 hq2.1) ?_
            refine l_alloc (cs := #[(Value.int .i64 0), (Value.int .i64 0)]) hI rfl rfl rfl zero_27 rfl ?_
            clear hI; intro b5 c15 w16 hI
            refine l_store (new := [(Value.int .i64 e2.N), (Value.int .i64 e2.D)]) (cs' := #[(Value.int .i64 e2.N), (Value.int .i64 e2.D)]) hI .z rfl rfl rfl (ev_tmp rfl rfl) (ev_tmp rfl rfl) rfl size_27 rfl rfl rfl ?_
            clear hI; intro c16 w17 hI
            refine s_nil ?_
            refine k_next (e := [(4, (Value.pointer (some ⟨b1, 0, none⟩))), (6, (Value.pointer (some ⟨b2, 0, none⟩))), (8, (Value.int .i64 r1.1)), (14, (Value.pointer (some ⟨b4, 0, none⟩))), (62, (Value.slice a2 zs1.length (c1 - Int.toNat 1))), (63, (Value.int .i64 (zs1.length : Int))), (64, (Value.int .i64 i1)), (16, (Value.pointer (some ⟨b5, 0, none⟩)))]) ⟨rfl, rfl, rfl, rfl, rfl, rfl, rfl, rfl, trivial⟩ ?_
            refine c_seq ?_
            refine c_region rfl ?_
            refine s_q rfl rfl (y_move rfl (ev_tmp rfl rfl)) ?_
            refine s_q rfl rfl (y_loadN (l := [(Value.int .i64 t1.Kind), (Value.int .i64 t1.Bits), (Value.int .i64 t1.Frac), (Value.int .i64 t1.Round), (Value.int .i64 t1.Over)]) rfl (ev_tmp rfl rfl) Tryz.underlying23 rfl size_23 (hI.kblk (l := [(Value.int .i64 t1.Kind), (Value.int .i64 t1.Bits), (Value.int .i64 t1.Frac), (Value.int .i64 t1.Round), (Value.int .i64 t1.Over)]) .z rfl).1) ?_
            refine s_q rfl rfl (y_loadN (l := [(Value.int .i64 out1.N), (Value.int .i64 out1.D)]) rfl (ev_tmp rfl rfl) Tryz.underlying27 rfl size_27 (CellsAt.of_blk (hI.blk (.s (.s .z))) rfl)) ?_
            refine s_q rfl rfl (y_loadN (l := [(Value.int .i64 e2.N), (Value.int .i64 e2.D)]) rfl (ev_tmp rfl rfl) Tryz.underlying27 rfl size_27 (CellsAt.of_blk (hI.blk .z) rfl)) ?_
            obtain ⟨r4, hx10, h⟩ := bnd_some h
            refine s_call rfl rfl (r_callF (vs := [(Value.int .i64 r1.1), (Value.agg #[(Value.int .i64 t1.Kind), (Value.int .i64 t1.Bits), (Value.int .i64 t1.Frac), (Value.int .i64 t1.Round), (Value.int .i64 t1.Over)]), (Value.agg #[(Value.int .i64 out1.N), (Value.int .i64 out1.D)]), (Value.agg #[(Value.int .i64 e2.N), (Value.int .i64 e2.D)])]) rfl ok_17 ⟨(ev_tmp rfl rfl), ⟨(ev_tmp rfl rfl), ⟨(ev_tmp rfl rfl), ⟨(ev_tmp rfl rfl), trivial⟩⟩⟩⟩) (Calls.mono (c_value_Apply (Dj F c16) w17 hI.lt r1.1 t1 out1 e2 trivial r4 hx10) ?_)
            rintro _ w18 ⟨rfl, hx11, hl4⟩
            refine ⟨_, rfl, ?_⟩
            replace hI := (hI.ext hx11)
            refine s_q rfl rfl (y_move rfl (ev_tmp rfl rfl)) ?_
            refine s_q rfl rfl (y_extract rfl (ev_tmp rfl rfl) rfl) ?_
            refine s_q rfl rfl (y_extract rfl (ev_tmp rfl rfl) rfl) ?_
            refine l_alloc (cs := #[(Value.int .i64 0), (Value.int .i64 0)]) hI rfl rfl rfl zero_27 rfl ?_
            clear hI; intro b6 c17 w19 hI
            refine l_store (new := [(Value.int .i64 r4.1.N), (Value.int .i64 r4.1.D)]) (cs' := #[(Value.int .i64 r4.1.N), (Value.int .i64 r4.1.D)]) hI .z rfl rfl rfl (ev_tmp rfl rfl) (ev_tmp rfl rfl) rfl size_27 rfl rfl rfl ?_
            clear hI; intro c18 w20 hI
            refine s_q rfl rfl (y_assign rfl (ev_tmp rfl rfl)) ?_
            refine s_nil ?_
            refine k_next (e := [(4, (Value.pointer (some ⟨b1, 0, none⟩))), (6, (Value.pointer (some ⟨b2, 0, none⟩))), (8, (Value.int .i64 r1.1)), (14, (Value.pointer (some ⟨b4, 0, none⟩))), (62, (Value.slice a2 zs1.length (c1 - Int.toNat 1))), (63, (Value.int .i64 (zs1.length : Int))), (64, (Value.int .i64 i1)), (17, (Value.pointer (some ⟨b6, 0, none⟩))), (18, (Value.int .i64 r4.2))]) ⟨rfl, rfl, rfl, rfl, rfl, rfl, rfl, rfl, rfl, trivial⟩ ?_
            refine c_seq ?_
            refine c_seq ?_
            refine c_region rfl ?_
            refine s_q rfl rfl (y_move rfl (ev_tmp rfl rfl)) ?_
            refine s_q rfl rfl (y_neq rfl (ev_tmp rfl rfl) ev_const) ?_
            refine s_nil ?_
            refine k_next (e := [(4, (Value.pointer (some ⟨b1, 0, none⟩))), (6, (Value.pointer (some ⟨b2, 0, none⟩))), (8, (Value.int .i64 r1.1)), (14, (Value.pointer (some ⟨b4, 0, none⟩))), (62, (Value.slice a2 zs1.length (c1 - Int.toNat 1))), (63, (Value.int .i64 (zs1.length : Int))), (64, (Value.int .i64 i1)), (17, (Value.pointer (some ⟨b6, 0, none⟩))), (18, (Value.int .i64 r4.2)), (77, (Value.bool (!decide (r4.2 = 0))))]) ⟨rfl, rfl, rfl, rfl, rfl, rfl, rfl, rfl, rfl, rfl, trivial⟩ ?_
            refine c_cond (b := !decide (r4.2 = 0)) (ev_tmp rfl rfl) (fun hb => ?_) (fun hb => ?_)
            · replace h := ite_t hb h
              refine c_seq ?_
              refine c_region rfl ?_
              refine s_q rfl rfl (y_build (vs := []) (cs := #[(Value.int .i64 0), (Value.int .i64 0)]) rfl trivial (by kernel_rfl)) ?_
              refine s_q rfl rfl (y_move rfl (ev_tmp rfl rfl)) ?_
              refine l_store (new := [(Value.int .i64 0), (Value.int .i64 0)]) (cs' := #[(Value.int .i64 0), (Value.int .i64 0)]) hI (.s (.s .z)) rfl rfl rfl (ev_tmp rfl rfl) (ev_tmp rfl rfl) rfl size_27 rfl rfl rfl ?_
              clear hI; intro c19 w21 hI
              refine s_q rfl rfl (y_assign rfl (ev_tmp rfl rfl)) ?_
              refine s_nil ?_
              refine k_next (e := [(6, (Value.pointer (some ⟨b2, 0, none⟩))), (7, (Value.int .i64 r4.2))]) ⟨rfl, rfl, trivial⟩ ?_
              refine c_ret ?_
              obtain rfl := some_inj h
              exact q_ret (vs := [(Value.agg #[(Value.int .i64 0), (Value.int .i64 0)]), (Value.int .i64 r4.2)]) Tryz.results7 ⟨⟨_, ev_tmp rfl rfl, load_agg (l := [(Value.int .i64 0), (Value.int .i64 0)]) Tryz.underlying27 rfl size_27 (CellsAt.of_blk (hI.blk (.s (.s .z))) rfl)⟩, ⟨ev_tmp rfl rfl, trivial⟩⟩ ⟨rfl, hI.ext0, hI.fin trivial⟩
            · replace h := ite_f hb h
              refine c_skip ?_
              refine k_next (e := [(4, (Value.pointer (some ⟨b1, 0, none⟩))), (6, (Value.pointer (some ⟨b2, 0, none⟩))), (8, (Value.int .i64 r1.1)), (14, (Value.pointer (some ⟨b4, 0, none⟩))), (62, (Value.slice a2 zs1.length (c1 - Int.toNat 1))), (63, (Value.int .i64 (zs1.length : Int))), (64, (Value.int .i64 i1)), (17, (Value.pointer (some ⟨b6, 0, none⟩)))]) ⟨rfl, rfl, rfl, rfl, rfl, rfl, rfl, rfl, trivial⟩ ?_
              refine c_region rfl ?_
              refine s_q rfl rfl (y_loadN (l := [(Value.int .i64 r4.1.N), (Value.int .i64 r4.1.D)]) rfl (ev_tmp rfl rfl) Tryz.underlying27 rfl size_27 (CellsAt.of_blk (hI.blk .z) rfl)) ?_
              refine l_store (new := [(Value.int .i64 r4.1.N), (Value.int .i64 r4.1.D)]) (cs' := #[(Value.int .i64 r4.1.N), (Value.int .i64 r4.1.D)]) hI (.s (.s (.s .z))) rfl rfl rfl (ev_tmp rfl rfl) (ev_tmp rfl rfl) rfl size_27 rfl rfl rfl ?_
              clear hI; intro c20 w22 hI
              refine s_nil ?_
              refine k_next (e := [(4, (Value.pointer (some ⟨b1, 0, none⟩))), (6, (Value.pointer (some ⟨b2, 0, none⟩))), (8, (Value.int .i64 r1.1)), (14, (Value.pointer (some ⟨b4, 0, none⟩))), (62, (Value.slice a2 zs1.length (c1 - Int.toNat 1))), (63, (Value.int .i64 (zs1.length : Int))), (64, (Value.int .i64 i1))]) ⟨rfl, rfl, rfl, rfl, rfl, rfl, rfl, trivial⟩ ?_
              refine c_region rfl ?_
              refine s_q rfl rfl (y_add rfl (ev_tmp rfl rfl) ev_const) ?_
              refine s_q rfl rfl (y_move rfl (ev_tmp rfl rfl)) ?_
              refine s_nil ?_
              exact k_loop (fuel1, wi64 (i1 + 1), r4.1) ⟨rfl, rfl, rfl, rfl, rfl, rfl, rfl, trivial⟩ ⟨_, hI.arr (.c (.s (.s .z)) (.c (.s (.s .z)) .n)) ⟨.z, (.s .z), trivial⟩, h⟩ (Nat.lt_succ_self _)
          · replace h := ite_f hb h
            refine c_exit ?_
            refine k_in ?_
            refine k_next (e := [(6, (Value.pointer (some ⟨b2, 0, none⟩))), (14, (Value.pointer (some ⟨b4, 0, none⟩)))]) ⟨rfl, rfl, trivial⟩ ?_
            refine c_seq ?_
            refine c_region rfl ?_
            refine s_q rfl rfl (y_loadN (l := [(Value.int .i64 out1.N), (Value.int .i64 out1.D)]) rfl (ev_tmp rfl rfl) Tryz.underlying27 rfl size_27 (CellsAt.of_blk (hI.blk (.s .z)) rfl)) ?_
            refine l_store (new := [(Value.int .i64 out1.N), (Value.int .i64 out1.D)]) (cs' := #[(Value.int .i64 out1.N), (Value.int .i64 out1.D)]) hI .z rfl rfl rfl (ev_tmp rfl rfl) (ev_tmp rfl rfl) rfl size_27 rfl rfl rfl ?_
            clear hI; intro c21 w23 hI
            refine s_q rfl rfl (y_assign rfl ev_const) ?_
            refine s_nil ?_
            refine k_next (e := [(6, (Value.pointer (some ⟨b2, 0, none⟩))), (7, (Value.int .i64 0))]) ⟨rfl, rfl, trivial⟩ ?_
            refine c_ret ?_
            obtain rfl := some_inj h
            exact q_ret (vs := [(Value.agg #[(Value.int .i64 out1.N), (Value.int .i64 out1.D)]), (Value.int .i64 0)]) Tryz.results7 ⟨⟨_, ev_tmp rfl rfl, load_agg (l := [(Value.int .i64 out1.N), (Value.int .i64 out1.D)]) Tryz.underlying27 rfl size_27 (CellsAt.of_blk (hI.blk .z) rfl)⟩, ⟨ev_tmp rfl rfl, trivial⟩⟩ ⟨rfl, hI.ext0, hI.fin trivial⟩
      · skip
        refine c_seq ?_
        refine c_region rfl ?_
        refine s_q rfl rfl (y_move rfl (ev_tmp rfl rfl)) ?_
        refine s_q rfl rfl (y_lenl rfl Tryz.underlying24 (ev_tmp rfl rfl)) ?_
        refine s_q rfl rfl (y_move rfl ev_const) ?_
        refine s_nil ?_
        refine k_next (e := [(0, (Value.int .i64 fold1)), (2, (Value.slice a1 l1.length c1)), (4, (Value.pointer (some ⟨b1, 0, none⟩))), (6, (Value.pointer (some ⟨b2, 0, none⟩))), (8, (Value.int .i64 r1.1)), (33, (Value.slice a1 l1.length c1)), (34, (Value.int .i64 (l1.length : Int))), (35, (Value.int .i64 0))]) ⟨rfl, rfl, rfl, rfl, rfl, rfl, rfl, rfl, trivial⟩ ?_
        refine c_block ?_
        refine c_loop (α := Nat × Int) (fun x => fun w => ∃ C, Bun noM F w0 C w [MO.box b2 27 #[(Value.int .i64 0), (Value.int .i64 0)]] [Cl.sl cGVal a1 c1 l1, Cl.blk b1 23 #[(Value.int .i64 t1.Kind), (Value.int .i64 t1.Bits), (Value.int .i64 t1.Frac), (Value.int .i64 t1.Round), (Value.int .i64 t1.Over)]] ∧ m_value_Reduce_l2 l1 t1 fold1 r1 (x.1) (x.2) = some r) (fun x _ => x.1) (fun x => [(0, (Value.int .i64 fold1)), (2, (Value.slice a1 l1.length c1)), (4, (Value.pointer (some ⟨b1, 0, none⟩))), (6, (Value.pointer (some ⟨b2, 0, none⟩))), (8, (Value.int .i64 r1.1)), (33, (Value.slice a1 l1.length c1)), (34, (Value.int .i64 (l1.length : Int))), (35, (Value.int .i64 (x.2)))]) (fu, 0) ⟨_, hI.arr (.c .z .n) ⟨(.s .z), .z, trivial⟩, h⟩ ⟨rfl, rfl, rfl, rfl, rfl, rfl, rfl, rfl, trivial⟩ ?_
        clear h hI; rintro ⟨fuel2, i2⟩ w24 ⟨c22, hI, h⟩
        dsimp only at hI h
        rcases fuel2 with _ | fuel2
        · rw [m_value_Reduce_l2] at h; cases h
        rw [m_value_Reduce_l2] at h
        refine c_sub (e := [(0, (Value.int .i64 fold1)), (2, (Value.slice a1 l1.length c1)), (4, (Value.pointer (some ⟨b1, 0, none⟩))), (6, (Value.pointer (some ⟨b2, 0, none⟩))), (8, (Value.int .i64 r1.1)), (33, (Value.slice a1 l1.length c1)), (34, (Value.int .i64 (l1.length : Int))), (35, (Value.int .i64 i2))]) ⟨rfl, rfl, rfl, rfl, rfl, rfl, rfl, rfl, trivial⟩ ?_
        refine c_seq ?_
        refine c_region rfl ?_
        refine s_q rfl rfl (y_lss rfl (ev_tmp rfl rfl) (ev_tmp rfl rfl)) ?_
        refine s_nil ?_
        refine k_next (e := [(0, (Value.int .i64 fold1)), (2, (Value.slice a1 l1.length c1)), (4, (Value.pointer (some ⟨b1, 0, none⟩))), (6, (Value.pointer (some ⟨b2, 0, none⟩))), (8, (Value.int .i64 r1.1)), (33, (Value.slice a1 l1.length c1)), (34, (Value.int .i64 (l1.length : Int))), (35, (Value.int .i64 i2)), (36, (Value.bool (decide (i2 < (l1.length : Int)))))]) ⟨rfl, rfl, rfl, rfl, rfl, rfl, rfl, rfl, rfl, trivial⟩ ?_
        refine c_seq ?_
        refine c_cond (b := decide (i2 < (l1.length : Int))) (ev_tmp rfl rfl) (fun hb => ?_) (fun hb => ?_)
        · replace h := ite_t hb h
          refine c_skip ?_
          refine k_next (e := [(0, (Value.int .i64 fold1)), (2, (Value.slice a1 l1.length c1)), (4, (Value.pointer (some ⟨b1, 0, none⟩))), (6, (Value.pointer (some ⟨b2, 0, none⟩))), (8, (Value.int .i64 r1.1)), (33, (Value.slice a1 l1.length c1)), (34, (Value.int .i64 (l1.length : Int))), (35, (Value.int .i64 i2))]) ⟨rfl, rfl, rfl, rfl, rfl, rfl, rfl, rfl, trivial⟩ ?_
          refine c_seq ?_
          refine c_block ?_
          refine c_seq ?_
          refine c_region rfl ?_
          obtain ⟨e3, hx12, h⟩ := bnd_some h
          obtain ⟨ad3, cs3, hA3, hr3, hq3⟩ := hI.clat .z hx12
          obtain rfl : cs3 = [(Value.int .i64 e3.N), (Value.int .i64 e3.D)] := hr3
          refine s_q rfl rfl (y_indexAddr rfl Tryz.underlying24 size_27 (ev_tmp rfl rfl) (ev_tmp rfl rfl) (lat_bd hx12) hA3) ?_
          refine s_q rfl rfl (y_loadN (l := [(Value.int .i64 e3.N), (Value.int .i64 e3.D)]) rfl (ev_tmp rfl rfl) Tryz.underlying27 rfl size_27 hq3.1) ?_
          refine l_alloc (cs := #[(Value.int .i64 0), (Value.int .i64 0)]) hI rfl rfl rfl zero_27 rfl ?_
          clear hI; intro b7 c23 w25 hI
          refine l_store (new := [(Value.int .i64 e3.N), (Value.int .i64 e3.D)]) (cs' := #[(Value.int .i64 e3.N), (Value.int .i64 e3.D)]) hI .z rfl rfl rfl (ev_tmp rfl rfl) (ev_tmp rfl rfl) rfl size_27 rfl rfl rfl ?_
          clear hI; intro c24 w26 hI
          refine s_nil ?_
          refine k_next (e := [(0, (Value.int .i64 fold1)), (2, (Value.slice a1 l1.length c1)), (4, (Value.pointer (some ⟨b1, 0, none⟩))), (6, (Value.pointer (some ⟨b2, 0, none⟩))), (8, (Value.int .i64 r1.1)), (33, (Value.slice a1 l1.length c1)), (34, (Value.int .i64 (l1.length : Int))), (35, (Value.int .i64 i2)), (11, (Value.pointer (some ⟨b7, 0, none⟩)))]) ⟨rfl, rfl, rfl, rfl, rfl, rfl, rfl, rfl, rfl, trivial⟩ ?_
          refine c_seq ?_
          refine c_region rfl ?_
          refine s_q rfl rfl (y_loadN (l := [(Value.int .i64 t1.Kind), (Value.int .i64 t1.Bits), (Value.int .i64 t1.Frac), (Value.int .i64 t1.Round), (Value.int .i64 t1.Over)]) rfl (ev_tmp rfl rfl) Tryz.underlying23 rfl size_23 (hI.kblk (l := [(Value.int .i64 t1.Kind), (Value.int .i64 t1.Bits), (Value.int .i64 t1.Frac), (Value.int .i64 t1.Round), (Value.int .i64 t1.Over)]) (.s .z) rfl).1) ?_
          refine s_q rfl rfl (y_loadN (l := [(Value.int .i64 e3.N), (Value.int .i64 e3.D)]) rfl (ev_tmp rfl rfl) Tryz.underlying27 rfl size_27 (CellsAt.of_blk (hI.blk .z) rfl)) ?_
          obtain ⟨r5, hx13, h⟩ := bnd_some h
          refine s_call rfl rfl (r_callF (vs := [(Value.agg #[(Value.int .i64 t1.Kind), (Value.int .i64 t1.Bits), (Value.int .i64 t1.Frac), (Value.int .i64 t1.Round), (Value.int .i64 t1.Over)]), (Value.agg #[(Value.int .i64 e3.N), (Value.int .i64 e3.D)])]) rfl ok_19 ⟨(ev_tmp rfl rfl), ⟨(ev_tmp rfl rfl), trivial⟩⟩) (Calls.mono (c_value_Valid (Dj F c24) w26 hI.lt t1 e3 trivial r5 hx13) ?_)
          rintro _ w27 ⟨rfl, hx14, hl5⟩
          refine ⟨_, rfl, ?_⟩
          replace hI := (hI.ext hx14)
          refine s_q rfl rfl (y_not rfl (ev_tmp rfl rfl)) ?_
          refine s_nil ?_
          refine k_next (e := [(0, (Value.int .i64 fold1)), (2, (Value.slice a1 l1.length c1)), (4, (Value.pointer (some ⟨b1, 0, none⟩))), (6, (Value.pointer (some ⟨b2, 0, none⟩))), (8, (Value.int .i64 r1.1)), (33, (Value.slice a1 l1.length c1)), (34, (Value.int .i64 (l1.length : Int))), (35, (Value.int .i64 i2)), (42, (Value.bool (!r5)))]) ⟨rfl, rfl, rfl, rfl, rfl, rfl, rfl, rfl, rfl, trivial⟩ ?_
          refine c_cond (b := !r5) (ev_tmp rfl rfl) (fun hb => ?_) (fun hb => ?_)
          · replace h := ite_t hb h
            refine c_seq ?_
            refine c_region rfl ?_
            refine s_q rfl rfl (y_build (vs := []) (cs := #[(Value.int .i64 0), (Value.int .i64 0)]) rfl trivial (by kernel_rfl)) ?_
            refine l_store (new := [(Value.int .i64 0), (Value.int .i64 0)]) (cs' := #[(Value.int .i64 0), (Value.int .i64 0)]) hI (.s .z) rfl rfl rfl (ev_tmp rfl rfl) (ev_tmp rfl rfl) rfl size_27 rfl rfl rfl ?_
            clear hI; intro c25 w28 hI
            refine s_q rfl rfl (y_assign rfl ev_const) ?_
            refine s_nil ?_
            refine k_next (e := [(6, (Value.pointer (some ⟨b2, 0, none⟩))), (7, (Value.int .i64 1))]) ⟨rfl, rfl, trivial⟩ ?_
            refine c_ret ?_
            obtain rfl := some_inj h
            exact q_ret (vs := [(Value.agg #[(Value.int .i64 0), (Value.int .i64 0)]), (Value.int .i64 1)]) Tryz.results7 ⟨⟨_, ev_tmp rfl rfl, load_agg (l := [(Value.int .i64 0), (Value.int .i64 0)]) Tryz.underlying27 rfl size_27 (CellsAt.of_blk (hI.blk (.s .z)) rfl)⟩, ⟨ev_tmp rfl rfl, trivial⟩⟩ ⟨rfl, hI.ext0, hI.fin trivial⟩
          · replace h := ite_f hb h
            refine c_skip ?_
            refine k_next (e := [(0, (Value.int .i64 fold1)), (2, (Value.slice a1 l1.length c1)), (4, (Value.pointer (some ⟨b1, 0, none⟩))), (6, (Value.pointer (some ⟨b2, 0, none⟩))), (8, (Value.int .i64 r1.1)), (33, (Value.slice a1 l1.length c1)), (34, (Value.int .i64 (l1.length : Int))), (35, (Value.int .i64 i2))]) ⟨rfl, rfl, rfl, rfl, rfl, rfl, rfl, rfl, trivial⟩ ?_
            refine c_region rfl ?_
            refine s_q rfl rfl (y_add rfl (ev_tmp rfl rfl) ev_const) ?_
            refine s_q rfl rfl (y_move rfl (ev_tmp rfl rfl)) ?_
            refine s_nil ?_
            exact k_loop (fuel2, wi64 (i2 + 1)) ⟨rfl, rfl, rfl, rfl, rfl, rfl, rfl, rfl, trivial⟩ ⟨_, hI.arr (.c (.s .z) .n) ⟨.z, (.s .z), trivial⟩, h⟩ (Nat.lt_succ_self _)
        · replace h := ite_f hb h
          refine c_exit ?_
          refine k_in ?_
          exact k_join () ⟨rfl, rfl, rfl, rfl, rfl, trivial⟩ ⟨_, hI.arr (.c .z .n) ⟨.z, (.s .z), trivial⟩, h⟩ rfl

set_option maxRecDepth 100000 in
set_option maxHeartbeats 4000000 in
theorem c_strconv_FormatInt (F : NP) (w0 : World) (hF : ∀ k, F k → k < w0.heap.size) (i1 : Int) (base1 : Int) (hc : AllCl [clPow10] F w0) (r : List UInt8)
    (h : m_strconv_FormatInt i1 base1 = some r) :
    Calls Tryz.prog 67 #[(Value.int .i64 i1), (Value.int .i64 base1)] w0 fun e w => e = .returned (str r) ∧ Ext w0 w ∧ AllCl [] F w := by
  refine ofEnter (R := fun v w => v = (str r) ∧ Ext w0 w ∧ AllCl [] F w) (enter (l := [(Value.int .i64 i1), (Value.int .i64 base1)]) Tryz.func67 rfl Tryz.ntmps67 rfl ?_) ?_
  rotate_left
  · rintro _ w ⟨rfl, k1, k2⟩; exact ⟨rfl, k1, k2⟩
  have hI := Bun.start hF hc
  clear hc
  rw [m_strconv_FormatInt] at h
  refine c_seq ?_
  refine c_region rfl ?_
  refine s_q rfl rfl (y_assign rfl ev_const) ?_
  refine s_nil ?_
  refine k_next (e := [(0, (Value.int .i64 i1)), (1, (Value.int .i64 base1))]) ⟨rfl, rfl, trivial⟩ ?_
  refine c_seq ?_
  refine c_region rfl ?_
  refine s_q rfl rfl (y_move rfl (ev_tmp rfl rfl)) ?_
  refine s_q rfl rfl (y_move rfl (ev_tmp rfl rfl)) ?_
  obtain ⟨r1, hx1, h⟩ := bnd_some h
  refine s_call rfl rfl (r_callF (vs := [(Value.int .i64 i1), (Value.int .i64 base1)]) rfl ok_96 ⟨(ev_tmp rfl rfl), ⟨(ev_tmp rfl rfl), trivial⟩⟩) (Calls.mono (c_internal_strconv_FormatInt (Dj F noM) w0 hI.lt i1 base1 ⟨(hI.get .z), trivial⟩ r1 hx1) ?_)
  rintro _ w1 ⟨rfl, hx2, hl1⟩
  refine ⟨_, rfl, ?_⟩
  replace hI := (hI.ext hx2)
  refine s_q rfl rfl (y_assign rfl (ev_tmp rfl rfl)) ?_
  refine s_nil ?_
  refine k_next (e := [(4, (str r1))]) ⟨rfl, trivial⟩ ?_
  refine c_ret ?_
  obtain rfl := some_inj h
  exact q_ret (vs := [(str r1)]) Tryz.results67 ⟨ev_tmp rfl rfl, trivial⟩ ⟨rfl, hI.ext0, hI.fin trivial⟩

set_option maxRecDepth 100000 in
set_option maxHeartbeats 4000000 in
theorem c_frac_Format (F : NP) (w0 : World) (hF : ∀ k, F k → k < w0.heap.size) (a1 : GVal) (hc : AllCl [clPow10] F w0) (r : List UInt8)
    (h : m_frac_Format a1 = some r) :
    Calls Tryz.prog 34 #[(Value.agg #[(Value.int .i64 a1.N), (Value.int .i64 a1.D)])] w0 fun e w => e = .returned (str r) ∧ Ext w0 w ∧ AllCl [] F w := by
  refine ofEnter (R := fun v w => v = (str r) ∧ Ext w0 w ∧ AllCl [] F w) (enter (l := [(Value.agg #[(Value.int .i64 a1.N), (Value.int .i64 a1.D)])]) Tryz.func34 rfl Tryz.ntmps34 rfl ?_) ?_
  rotate_left
  · rintro _ w ⟨rfl, k1, k2⟩; exact ⟨rfl, k1, k2⟩
  have hI := Bun.start hF hc
  clear hc
  rw [m_frac_Format] at h
  refine c_seq ?_
  refine c_region rfl ?_
  refine l_box (v := (Value.agg #[(Value.int .i64 a1.N), (Value.int .i64 a1.D)])) (cs := #[(Value.int .i64 a1.N), (Value.int .i64 a1.D)]) hI rfl rfl rfl (ev_tmp rfl rfl) rfl ?_
  clear hI; intro b1 c1 w1 hI
  obtain ⟨c2, hI⟩ := hI.relBox .z
  refine s_q rfl rfl (y_assign rfl ev_const) ?_
  refine s_nil ?_
  refine k_next (e := [(1, (Value.pointer (some ⟨b1, 0, none⟩)))]) ⟨rfl, trivial⟩ ?_
  refine c_seq ?_
  refine c_block ?_
  refine c_seq ?_
  refine c_region rfl ?_
  refine s_q rfl rfl (y_loadN (l := [(Value.int .i64 a1.N), (Value.int .i64 a1.D)]) rfl (ev_tmp rfl rfl) Tryz.underlying27 rfl size_27 (hI.kblk (l := [(Value.int .i64 a1.N), (Value.int .i64 a1.D)]) .z rfl).1) ?_
  obtain ⟨r1, hx1, h⟩ := bnd_some h
  refine s_call rfl rfl (r_callF (vs := [(Value.agg #[(Value.int .i64 a1.N), (Value.int .i64 a1.D)])]) rfl ok_45 ⟨(ev_tmp rfl rfl), trivial⟩) (Calls.mono (c_frac_Valid (Dj F c2) w1 hI.lt a1 trivial r1 hx1) ?_)
  rintro _ w2 ⟨rfl, hx2, hl1⟩
  refine ⟨_, rfl, ?_⟩
  replace hI := (hI.ext hx2)
  refine s_q rfl rfl (y_not rfl (ev_tmp rfl rfl)) ?_
  refine s_q rfl rfl (y_assign rfl (ev_tmp rfl rfl)) ?_
  refine s_nil ?_
  refine k_next (e := [(1, (Value.pointer (some ⟨b1, 0, none⟩))), (3, (Value.bool (!r1)))]) ⟨rfl, rfl, trivial⟩ ?_
  refine c_cond (b := !r1) (ev_tmp rfl rfl) (fun hb => ?_) (fun hb => ?_)
  · replace h := ite_t hb h
    refine c_seq ?_
    refine c_region rfl ?_
    refine s_q rfl rfl (y_assign rfl ev_const) ?_
    refine s_nil ?_
    refine k_next (e := [(2, (str ([] : List UInt8)))]) ⟨rfl, trivial⟩ ?_
    refine c_ret ?_
    obtain rfl := some_inj h
    exact q_ret (vs := [(str ([] : List UInt8))]) Tryz.results34 ⟨ev_tmp rfl rfl, trivial⟩ ⟨rfl, hI.ext0, hI.fin trivial⟩
  · replace h := ite_f hb h
    refine c_seq ?_
    refine c_region rfl ?_
    refine s_q rfl rfl (y_fieldAddr rfl (ev_tmp rfl rfl) Tryz.underlying27 rfl size_2 rfl) ?_
    refine s_q rfl rfl (y_load1 (v := (Value.int .i64 a1.D)) rfl (ev_tmp rfl rfl) Tryz.underlying2 rfl (hI.kblk (l := [(Value.int .i64 a1.D)]) .z rfl).1) ?_
    refine s_q rfl rfl (y_eql rfl (ev_tmp rfl rfl) ev_const) ?_
    refine s_q rfl rfl (y_assign rfl (ev_tmp rfl rfl)) ?_
    refine s_nil ?_
    refine k_next (e := [(1, (Value.pointer (some ⟨b1, 0, none⟩))), (7, (Value.bool (decide (a1.D = 1))))]) ⟨rfl, rfl, trivial⟩ ?_
    refine c_cond (b := decide (a1.D = 1)) (ev_tmp rfl rfl) (fun hb => ?_) (fun hb => ?_)
    · replace h := ite_t hb h
      refine c_seq ?_
      refine c_region rfl ?_
      refine s_q rfl rfl (y_fieldAddr rfl (ev_tmp rfl rfl) Tryz.underlying27 rfl size_2 rfl) ?_
      refine s_q rfl rfl (y_load1 (v := (Value.int .i64 a1.N)) rfl (ev_tmp rfl rfl) Tryz.underlying2 rfl (hI.kblk (l := [(Value.int .i64 a1.N)]) .z rfl).1) ?_
      obtain ⟨r2, hx3, h⟩ := bnd_some h
      refine s_call rfl rfl (r_callF (vs := [(Value.int .i64 a1.N), (Value.int .i64 10)]) rfl ok_67 ⟨(ev_tmp rfl rfl), ⟨ev_const, trivial⟩⟩) (Calls.mono (c_strconv_FormatInt (Dj F c2) w2 hI.lt a1.N 10 ⟨(hI.get (.s .z)), trivial⟩ r2 hx3) ?_)
      rintro _ w3 ⟨rfl, hx4, hl2⟩
      refine ⟨_, rfl, ?_⟩
      replace hI := (hI.ext hx4)
      refine s_q rfl rfl (y_assign rfl (ev_tmp rfl rfl)) ?_
      refine s_nil ?_
      refine k_next (e := [(2, (str r2))]) ⟨rfl, trivial⟩ ?_
      refine c_ret ?_
      obtain rfl := some_inj h
      exact q_ret (vs := [(str r2)]) Tryz.results34 ⟨ev_tmp rfl rfl, trivial⟩ ⟨rfl, hI.ext0, hI.fin trivial⟩
    · replace h := ite_f hb h
      refine c_skip ?_
      refine k_next (e := [(1, (Value.pointer (some ⟨b1, 0, none⟩)))]) ⟨rfl, trivial⟩ ?_
      refine c_seq ?_
      refine c_drawX [] false (.c (0, .q) (.c (1, .q) (.c (4, .q) (.c (5, .q) (.c (2, .s) (.c (3, .q) (.c (6, .s) (.c (7, .q) (.c (8, .q) .n))))))))) hI (by kernel_rfl) (by kernel_rfl) ?_
      clear hI; intro w4 hI
      refine a_q rfl rfl rfl (fun w' => (y_fieldAddr rfl (ev_tmp rfl rfl) Tryz.underlying27 rfl size_2 rfl)) ?_
      refine a_read rfl rfl rfl (fun w' hw' => (y_load1 (v := (Value.int .i64 a1.N)) rfl (ev_tmp rfl rfl) Tryz.underlying2 rfl ((hI.kblk (l := [(Value.int .i64 a1.N)]) .z rfl).at_ (SX.any rfl hw')))) (by kernel_rfl) ?_
      refine a_q rfl rfl rfl (fun w' => (y_fieldAddr rfl (ev_tmp rfl rfl) Tryz.underlying27 rfl size_2 rfl)) ?_
      refine a_read rfl rfl rfl (fun w' hw' => (y_load1 (v := (Value.int .i64 a1.D)) rfl (ev_tmp rfl rfl) Tryz.underlying2 rfl ((hI.kblk (l := [(Value.int .i64 a1.D)]) .z rfl).at_ (SX.any rfl hw')))) (by kernel_rfl) ?_
      obtain ⟨r3, hx5, h⟩ := bnd_some h
      refine la_call rfl rfl rfl (r_callF (vs := [(Value.int .i64 a1.N), (Value.int .i64 10)]) rfl ok_67 ⟨(ev_tmp rfl rfl), ⟨ev_const, trivial⟩⟩) (Calls.mono (c_strconv_FormatInt (Dj F c2) w4 hI.lt a1.N 10 ⟨(hI.get (.s .z)), trivial⟩ r3 hx5) ?_)
      rintro _ w5 ⟨rfl, hx6, hl3⟩
      refine ⟨_, rfl, hx6, ?_⟩
      replace hI := (hI.ext hx6)
      obtain ⟨s1, hx7, h⟩ := bnd_some h
      refine a_q rfl rfl rfl (fun w' => (y_catl rfl (ev_tmp rfl rfl) ev_const hx7)) ?_
      obtain ⟨r4, hx8, h⟩ := bnd_some h
      refine la_call rfl rfl rfl (r_callF (vs := [(Value.int .i64 a1.D), (Value.int .i64 10)]) rfl ok_67 ⟨(ev_tmp rfl rfl), ⟨ev_const, trivial⟩⟩) (Calls.mono (c_strconv_FormatInt (Dj F c2) w5 hI.lt a1.D 10 ⟨(hI.get (.s .z)), trivial⟩ r4 hx8) ?_)
      rintro _ w6 ⟨rfl, hx9, hl4⟩
      refine ⟨_, rfl, hx9, ?_⟩
      replace hI := (hI.ext hx9)
      obtain ⟨s2, hx10, h⟩ := bnd_some h
      refine a_q rfl rfl rfl (fun w' => (y_catl rfl (ev_tmp rfl rfl) (ev_tmp rfl rfl) hx10)) ?_
      refine a_q rfl rfl rfl (fun w' => (y_assign rfl (ev_tmp rfl rfl))) ?_
      refine a_nil ?_
      refine k_next (e := [(2, (str s2))]) ⟨rfl, trivial⟩ ?_
      refine c_ret ?_
      obtain rfl := some_inj h
      exact q_ret (vs := [(str s2)]) Tryz.results34 ⟨ev_tmp rfl rfl, trivial⟩ ⟨rfl, hI.ext0, hI.fin trivial⟩

set_option maxRecDepth 100000 in
set_option maxHeartbeats 4000000 in
theorem c_value_Format (F : NP) (w0 : World) (hF : ∀ k, F k → k < w0.heap.size) (t1 : GType) (v1 : GVal) (hc : AllCl [clPow10] F w0) (r : List UInt8)
    (h : m_value_Format t1 v1 = some r) :
    Calls Tryz.prog 15 #[(Value.agg #[(Value.int .i64 t1.Kind), (Value.int .i64 t1.Bits), (Value.int .i64 t1.Frac), (Value.int .i64 t1.Round), (Value.int .i64 t1.Over)]), (Value.agg #[(Value.int .i64 v1.N), (Value.int .i64 v1.D)])] w0 fun e w => e = .returned (str r) ∧ Ext w0 w ∧ AllCl [] F w := by
  refine ofEnter (R := fun v w => v = (str r) ∧ Ext w0 w ∧ AllCl [] F w) (enter (l := [(Value.agg #[(Value.int .i64 t1.Kind), (Value.int .i64 t1.Bits), (Value.int .i64 t1.Frac), (Value.int .i64 t1.Round), (Value.int .i64 t1.Over)]), (Value.agg #[(Value.int .i64 v1.N), (Value.int .i64 v1.D)])]) Tryz.func15 rfl Tryz.ntmps15 rfl ?_) ?_
  rotate_left
  · rintro _ w ⟨rfl, k1, k2⟩; exact ⟨rfl, k1, k2⟩
  have hI := Bun.start hF hc
  clear hc
  rw [m_value_Format] at h
  refine c_seq ?_
  refine c_region rfl ?_
  refine l_box (v := (Value.agg #[(Value.int .i64 t1.Kind), (Value.int .i64 t1.Bits), (Value.int .i64 t1.Frac), (Value.int .i64 t1.Round), (Value.int .i64 t1.Over)])) (cs := #[(Value.int .i64 t1.Kind), (Value.int .i64 t1.Bits), (Value.int .i64 t1.Frac), (Value.int .i64 t1.Round), (Value.int .i64 t1.Over)]) hI rfl rfl rfl (ev_tmp rfl rfl) rfl ?_
  clear hI; intro b1 c1 w1 hI
  obtain ⟨c2, hI⟩ := hI.relBox .z
  refine l_box (v := (Value.agg #[(Value.int .i64 v1.N), (Value.int .i64 v1.D)])) (cs := #[(Value.int .i64 v1.N), (Value.int .i64 v1.D)]) hI rfl rfl rfl (ev_tmp rfl rfl) rfl ?_
  clear hI; intro b2 c3 w2 hI
  obtain ⟨c4, hI⟩ := hI.relBox .z
  refine s_q rfl rfl (y_assign rfl ev_const) ?_
  refine s_nil ?_
  refine k_next (e := [(2, (Value.pointer (some ⟨b1, 0, none⟩))), (3, (Value.pointer (some ⟨b2, 0, none⟩)))]) ⟨rfl, rfl, trivial⟩ ?_
  refine c_seq ?_
  refine c_seq ?_
  refine c_region rfl ?_
  refine s_q rfl rfl (y_loadN (l := [(Value.int .i64 t1.Kind), (Value.int .i64 t1.Bits), (Value.int .i64 t1.Frac), (Value.int .i64 t1.Round), (Value.int .i64 t1.Over)]) rfl (ev_tmp rfl rfl) Tryz.underlying23 rfl size_23 (hI.kblk (l := [(Value.int .i64 t1.Kind), (Value.int .i64 t1.Bits), (Value.int .i64 t1.Frac), (Value.int .i64 t1.Round), (Value.int .i64 t1.Over)]) (.s .z) rfl).1) ?_
  refine s_q rfl rfl (y_loadN (l := [(Value.int .i64 v1.N), (Value.int .i64 v1.D)]) rfl (ev_tmp rfl rfl) Tryz.underlying27 rfl size_27 (hI.kblk (l := [(Value.int .i64 v1.N), (Value.int .i64 v1.D)]) .z rfl).1) ?_
  obtain ⟨r1, hx1, h⟩ := bnd_some h
  refine s_call rfl rfl (r_callF (vs := [(Value.agg #[(Value.int .i64 t1.Kind), (Value.int .i64 t1.Bits), (Value.int .i64 t1.Frac), (Value.int .i64 t1.Round), (Value.int .i64 t1.Over)]), (Value.agg #[(Value.int .i64 v1.N), (Value.int .i64 v1.D)])]) rfl ok_19 ⟨(ev_tmp rfl rfl), ⟨(ev_tmp rfl rfl), trivial⟩⟩) (Calls.mono (c_value_Valid (Dj F c4) w2 hI.lt t1 v1 trivial r1 hx1) ?_)
  rintro _ w3 ⟨rfl, hx2, hl1⟩
  refine ⟨_, rfl, ?_⟩
  replace hI := (hI.ext hx2)
  refine s_q rfl rfl (y_not rfl (ev_tmp rfl rfl)) ?_
  refine s_nil ?_
  refine k_next (e := [(2, (Value.pointer (some ⟨b1, 0, none⟩))), (3, (Value.pointer (some ⟨b2, 0, none⟩))), (8, (Value.bool (!r1)))]) ⟨rfl, rfl, rfl, trivial⟩ ?_
  refine c_cond (b := !r1) (ev_tmp rfl rfl) (fun hb => ?_) (fun hb => ?_)
  · replace h := ite_t hb h
    refine c_seq ?_
    refine c_region rfl ?_
    refine s_q rfl rfl (y_assign rfl ev_const) ?_
    refine s_nil ?_
    refine k_next (e := [(4, (str ([] : List UInt8)))]) ⟨rfl, trivial⟩ ?_
    refine c_ret ?_
    obtain rfl := some_inj h
    exact q_ret (vs := [(str ([] : List UInt8))]) Tryz.results15 ⟨ev_tmp rfl rfl, trivial⟩ ⟨rfl, hI.ext0, hI.fin trivial⟩
  · replace h := ite_f hb h
    refine c_skip ?_
    refine k_next (e := [(2, (Value.pointer (some ⟨b1, 0, none⟩))), (3, (Value.pointer (some ⟨b2, 0, none⟩)))]) ⟨rfl, rfl, trivial⟩ ?_
    refine c_seq ?_
    refine c_region rfl ?_
    refine s_q rfl rfl (y_loadN (l := [(Value.int .i64 t1.Kind), (Value.int .i64 t1.Bits), (Value.int .i64 t1.Frac), (Value.int .i64 t1.Round), (Value.int .i64 t1.Over)]) rfl (ev_tmp rfl rfl) Tryz.underlying23 rfl size_23 (hI.kblk (l := [(Value.int .i64 t1.Kind), (Value.int .i64 t1.Bits), (Value.int .i64 t1.Frac), (Value.int .i64 t1.Round), (Value.int .i64 t1.Over)]) (.s .z) rfl).1) ?_
    refine s_q rfl rfl (y_loadN (l := [(Value.int .i64 v1.N), (Value.int .i64 v1.D)]) rfl (ev_tmp rfl rfl) Tryz.underlying27 rfl size_27 (hI.kblk (l := [(Value.int .i64 v1.N), (Value.int .i64 v1.D)]) .z rfl).1) ?_
    obtain ⟨r2, hx3, h⟩ := bnd_some h
    refine s_call rfl rfl (r_callF (vs := [(Value.agg #[(Value.int .i64 t1.Kind), (Value.int .i64 t1.Bits), (Value.int .i64 t1.Frac), (Value.int .i64 t1.Round), (Value.int .i64 t1.Over)]), (Value.agg #[(Value.int .i64 v1.N), (Value.int .i64 v1.D)])]) rfl ok_35 ⟨(ev_tmp rfl rfl), ⟨(ev_tmp rfl rfl), trivial⟩⟩) (Calls.mono (c_value_fraction (Dj F c4) w3 hI.lt t1 v1 trivial r2 hx3) ?_)
    rintro _ w4 ⟨rfl, hx4, hl2⟩
    refine ⟨_, rfl, ?_⟩
    replace hI := (hI.ext hx4)
    obtain ⟨r3, hx5, h⟩ := bnd_some h
    refine s_call rfl rfl (r_callF (vs := [(Value.agg #[(Value.int .i64 r2.N), (Value.int .i64 r2.D)])]) rfl ok_34 ⟨(ev_tmp rfl rfl), trivial⟩) (Calls.mono (c_frac_Format (Dj F c4) w4 hI.lt r2 ⟨(hI.get (.s (.s .z))), trivial⟩ r3 hx5) ?_)
    rintro _ w5 ⟨rfl, hx6, hl3⟩
    refine ⟨_, rfl, ?_⟩
    replace hI := (hI.ext hx6)
    refine s_q rfl rfl (y_assign rfl (ev_tmp rfl rfl)) ?_
    refine s_nil ?_
    refine k_next (e := [(4, (str r3))]) ⟨rfl, trivial⟩ ?_
    refine c_ret ?_
    obtain rfl := some_inj h
    exact q_ret (vs := [(str r3)]) Tryz.results15 ⟨ev_tmp rfl rfl, trivial⟩ ⟨rfl, hI.ext0, hI.fin trivial⟩

set_option maxRecDepth 100000 in
set_option maxHeartbeats 4000000 in
theorem c_value_Reorderable (F : NP) (w0 : World) (hF : ∀ k, F k → k < w0.heap.size) (fold1 : Int) (t1 : GType) (hc : AllCl [] F w0) (r : Bool)
    (h : m_value_Reorderable fold1 t1 = some r) :
    Calls Tryz.prog 11 #[(Value.int .i64 fold1), (Value.agg #[(Value.int .i64 t1.Kind), (Value.int .i64 t1.Bits), (Value.int .i64 t1.Frac), (Value.int .i64 t1.Round), (Value.int .i64 t1.Over)])] w0 fun e w => e = .returned (Value.bool r) ∧ Ext w0 w ∧ AllCl [] F w := by
  refine ofEnter (R := fun v w => v = (Value.bool r) ∧ Ext w0 w ∧ AllCl [] F w) (enter (l := [(Value.int .i64 fold1), (Value.agg #[(Value.int .i64 t1.Kind), (Value.int .i64 t1.Bits), (Value.int .i64 t1.Frac), (Value.int .i64 t1.Round), (Value.int .i64 t1.Over)])]) Tryz.func11 rfl Tryz.ntmps11 rfl ?_) ?_
  rotate_left
  · rintro _ w ⟨rfl, k1, k2⟩; exact ⟨rfl, k1, k2⟩
  have hI := Bun.start hF hc
  clear hc
  rw [m_value_Reorderable] at h
  refine c_seq ?_
  refine c_region rfl ?_
  refine l_box (v := (Value.agg #[(Value.int .i64 t1.Kind), (Value.int .i64 t1.Bits), (Value.int .i64 t1.Frac), (Value.int .i64 t1.Round), (Value.int .i64 t1.Over)])) (cs := #[(Value.int .i64 t1.Kind), (Value.int .i64 t1.Bits), (Value.int .i64 t1.Frac), (Value.int .i64 t1.Round), (Value.int .i64 t1.Over)]) hI rfl rfl rfl (ev_tmp rfl rfl) rfl ?_
  clear hI; intro b1 c1 w1 hI
  obtain ⟨c2, hI⟩ := hI.relBox .z
  refine s_q rfl rfl (y_assign rfl ev_const) ?_
  refine s_nil ?_
  refine k_next (e := [(0, (Value.int .i64 fold1)), (3, (Value.pointer (some ⟨b1, 0, none⟩)))]) ⟨rfl, rfl, trivial⟩ ?_
  refine c_seq ?_
  refine c_seq ?_
  refine c_region rfl ?_
  refine s_q rfl rfl (y_loadN (l := [(Value.int .i64 t1.Kind), (Value.int .i64 t1.Bits), (Value.int .i64 t1.Frac), (Value.int .i64 t1.Round), (Value.int .i64 t1.Over)]) rfl (ev_tmp rfl rfl) Tryz.underlying23 rfl size_23 (hI.kblk (l := [(Value.int .i64 t1.Kind), (Value.int .i64 t1.Bits), (Value.int .i64 t1.Frac), (Value.int .i64 t1.Round), (Value.int .i64 t1.Over)]) .z rfl).1) ?_
  obtain ⟨r1, hx1, h⟩ := bnd_some h
  refine s_call rfl rfl (r_callF (vs := [(Value.agg #[(Value.int .i64 t1.Kind), (Value.int .i64 t1.Bits), (Value.int .i64 t1.Frac), (Value.int .i64 t1.Round), (Value.int .i64 t1.Over)])]) rfl ok_22 ⟨(ev_tmp rfl rfl), trivial⟩) (Calls.mono (c_value_ValidateType (Dj F c2) w1 hI.lt t1 trivial r1 hx1) ?_)
  rintro _ w2 ⟨rfl, hx2, hl1⟩
  refine ⟨_, rfl, ?_⟩
  replace hI := (hI.ext hx2)
  refine s_q rfl rfl (y_neq rfl (ev_tmp rfl rfl) ev_const) ?_
  refine s_nil ?_
  refine k_next (e := [(0, (Value.int .i64 fold1)), (3, (Value.pointer (some ⟨b1, 0, none⟩))), (7, (Value.bool (!decide (r1 = 0))))]) ⟨rfl, rfl, rfl, trivial⟩ ?_
  refine c_cond (b := !decide (r1 = 0)) (ev_tmp rfl rfl) (fun hb => ?_) (fun hb => ?_)
  · replace h := ite_t hb h
    refine c_seq ?_
    refine c_region rfl ?_
    refine s_q rfl rfl (y_assign rfl ev_const) ?_
    refine s_nil ?_
    refine k_next (e := [(4, (Value.bool false))]) ⟨rfl, trivial⟩ ?_
    refine c_ret ?_
    obtain rfl := some_inj h
    exact q_ret (vs := [(Value.bool false)]) Tryz.results11 ⟨ev_tmp rfl rfl, trivial⟩ ⟨rfl, hI.ext0, hI.fin trivial⟩
  · replace h := ite_f hb h
    refine c_skip ?_
    refine k_next (e := [(0, (Value.int .i64 fold1)), (3, (Value.pointer (some ⟨b1, 0, none⟩)))]) ⟨rfl, rfl, trivial⟩ ?_
    refine c_seq ?_
    refine c_seq ?_
    refine c_region rfl ?_
    refine s_q rfl rfl (y_move rfl (ev_tmp rfl rfl)) ?_
    refine s_nil ?_
    refine k_next (e := [(3, (Value.pointer (some ⟨b1, 0, none⟩))), (8, (Value.int .i64 fold1))]) ⟨rfl, rfl, trivial⟩ ?_
    refine c_block ?_
    refine c_join (α := Bool) (fun _ => ⟨18, []⟩) (fun x => [(3, (Value.pointer (some ⟨b1, 0, none⟩))), (8, (Value.int .i64 fold1)), (9, (Value.bool x))]) (fun x => fun w => ∃ C, Bun noM F w0 C w [] [Cl.blk b1 23 #[(Value.int .i64 t1.Kind), (Value.int .i64 t1.Bits), (Value.int .i64 t1.Frac), (Value.int .i64 t1.Round), (Value.int .i64 t1.Over)]] ∧ m_value_Reorderable_j1 fold1 t1 x = some r) ?_ ?_
    · clear h hI; rintro i1 w3 ⟨c3, hI, h⟩
      try dsimp only at hI h
      rw [m_value_Reorderable_j1] at h
      refine c_sub (e := [(3, (Value.pointer (some ⟨b1, 0, none⟩))), (8, (Value.int .i64 fold1)), (9, (Value.bool i1))]) ⟨rfl, rfl, rfl, trivial⟩ ?_
      refine c_cond (b := i1) (ev_tmp rfl rfl) (fun hb => ?_) (fun hb => ?_)
      · replace h := ite_t hb h
        refine c_seq ?_
        refine c_region rfl ?_
        refine s_q rfl rfl (y_assign rfl ev_const) ?_
        refine s_nil ?_
        refine k_next (e := [(4, (Value.bool true))]) ⟨rfl, trivial⟩ ?_
        refine c_ret ?_
        obtain rfl := some_inj h
        exact q_ret (vs := [(Value.bool true)]) Tryz.results11 ⟨ev_tmp rfl rfl, trivial⟩ ⟨rfl, hI.ext0, hI.fin trivial⟩
      · replace h := ite_f hb h
        refine c_join (α := Bool) (fun _ => ⟨18, []⟩) (fun x => [(3, (Value.pointer (some ⟨b1, 0, none⟩))), (12, (Value.bool x))]) (fun x => fun w => ∃ C, Bun noM F w0 C w [] [Cl.blk b1 23 #[(Value.int .i64 t1.Kind), (Value.int .i64 t1.Bits), (Value.int .i64 t1.Frac), (Value.int .i64 t1.Round), (Value.int .i64 t1.Over)]] ∧ m_value_Reorderable_j2 t1 x = some r) ?_ ?_
        · clear h hI; rintro i2 w4 ⟨c4, hI, h⟩
          try dsimp only at hI h
          rw [m_value_Reorderable_j2] at h
          refine c_sub (e := [(3, (Value.pointer (some ⟨b1, 0, none⟩))), (12, (Value.bool i2))]) ⟨rfl, rfl, trivial⟩ ?_
          refine c_cond (b := i2) (ev_tmp rfl rfl) (fun hb => ?_) (fun hb => ?_)
          · replace h := ite_t hb h
            refine c_seq ?_
            refine c_region rfl ?_
            refine s_q rfl rfl (y_fieldAddr rfl (ev_tmp rfl rfl) Tryz.underlying23 rfl size_3 rfl) ?_
            refine s_q rfl rfl (y_load1 (v := (Value.int .i64 t1.Kind)) rfl (ev_tmp rfl rfl) Tryz.underlying3 rfl (hI.kblk (l := [(Value.int .i64 t1.Kind)]) .z rfl).1) ?_
            refine s_q rfl rfl (y_neq rfl (ev_tmp rfl rfl) ev_const) ?_
            refine s_q rfl rfl (y_assign rfl (ev_tmp rfl rfl)) ?_
            refine s_nil ?_
            refine k_next (e := [(4, (Value.bool (!decide (t1.Kind = 2))))]) ⟨rfl, trivial⟩ ?_
            refine c_ret ?_
            obtain rfl := some_inj h
            exact q_ret (vs := [(Value.bool (!decide (t1.Kind = 2)))]) Tryz.results11 ⟨ev_tmp rfl rfl, trivial⟩ ⟨rfl, hI.ext0, hI.fin trivial⟩
          · replace h := ite_f hb h
            refine c_skip ?_
            refine k_next (e := []) trivial ?_
            refine c_seq ?_
            refine c_region rfl ?_
            refine s_q rfl rfl (y_assign rfl ev_const) ?_
            refine s_nil ?_
            refine k_next (e := [(4, (Value.bool false))]) ⟨rfl, trivial⟩ ?_
            refine c_ret ?_
            obtain rfl := some_inj h
            exact q_ret (vs := [(Value.bool false)]) Tryz.results11 ⟨ev_tmp rfl rfl, trivial⟩ ⟨rfl, hI.ext0, hI.fin trivial⟩
        · skip
          refine c_seq ?_
          refine c_region rfl ?_
          refine s_q rfl rfl (y_eql rfl (ev_tmp rfl rfl) ev_const) ?_
          refine s_q rfl rfl (y_assign rfl (ev_tmp rfl rfl)) ?_
          refine s_nil ?_
          refine k_next (e := [(3, (Value.pointer (some ⟨b1, 0, none⟩))), (8, (Value.int .i64 fold1)), (12, (Value.bool (decide (fold1 = 1))))]) ⟨rfl, rfl, rfl, trivial⟩ ?_
          refine c_cond (b := decide (fold1 = 1)) (ev_tmp rfl rfl) (fun hb => ?_) (fun hb => ?_)
          · replace h := ite_t hb h
            refine c_skip ?_
            exact k_join (decide (fold1 = 1)) ⟨rfl, rfl, trivial⟩ ⟨_, hI.arr .n ⟨.z, trivial⟩, h⟩ rfl
          · replace h := ite_f hb h
            refine c_region rfl ?_
            refine s_q rfl rfl (y_eql rfl (ev_tmp rfl rfl) ev_const) ?_
            refine s_q rfl rfl (y_assign rfl (ev_tmp rfl rfl)) ?_
            refine s_nil ?_
            exact k_join (decide (fold1 = 2)) ⟨rfl, rfl, trivial⟩ ⟨_, hI.arr .n ⟨.z, trivial⟩, h⟩ rfl
    · skip
      refine c_seq ?_
      refine c_region rfl ?_
      refine s_q rfl rfl (y_eql rfl (ev_tmp rfl rfl) ev_const) ?_
      refine s_q rfl rfl (y_assign rfl (ev_tmp rfl rfl)) ?_
      refine s_nil ?_
      refine k_next (e := [(3, (Value.pointer (some ⟨b1, 0, none⟩))), (8, (Value.int .i64 fold1)), (9, (Value.bool (decide (fold1 = 3))))]) ⟨rfl, rfl, rfl, trivial⟩ ?_
      refine c_cond (b := decide (fold1 = 3)) (ev_tmp rfl rfl) (fun hb => ?_) (fun hb => ?_)
      · replace h := ite_t hb h
        refine c_skip ?_
        exact k_join (decide (fold1 = 3)) ⟨rfl, rfl, rfl, trivial⟩ ⟨_, hI.arr .n ⟨.z, trivial⟩, h⟩ rfl
      · replace h := ite_f hb h
        refine c_region rfl ?_
        refine s_q rfl rfl (y_eql rfl (ev_tmp rfl rfl) ev_const) ?_
        refine s_q rfl rfl (y_assign rfl (ev_tmp rfl rfl)) ?_
        refine s_nil ?_
        exact k_join (decide (fold1 = 4)) ⟨rfl, rfl, rfl, trivial⟩ ⟨_, hI.arr .n ⟨.z, trivial⟩, h⟩ rfl

set_option maxRecDepth 100000 in
set_option maxHeartbeats 4000000 in
theorem c_law04_examples (F : NP) (w0 : World) (hF : ∀ k, F k → k < w0.heap.size) (hc : AllCl [clPow10] F w0) (r : Bool)
    (h : m_law04_examples = some r) :
    Calls Tryz.prog 6 #[] w0 fun e w => e = .returned (Value.bool r) ∧ Ext w0 w ∧ AllCl [] F w := by
  refine ofEnter (R := fun v w => v = (Value.bool r) ∧ Ext w0 w ∧ AllCl [] F w) (enter (l := []) Tryz.func6 rfl Tryz.ntmps6 rfl ?_) ?_
  rotate_left
  · rintro _ w ⟨rfl, k1, k2⟩; exact ⟨rfl, k1, k2⟩
  have hI := Bun.start hF hc
  clear hc
  rw [m_law04_examples] at h
  refine c_seq ?_
  refine c_region rfl ?_
  refine s_q rfl rfl (y_assign rfl ev_const) ?_
  refine s_nil ?_
  refine k_next (e := []) trivial ?_
  refine c_seq ?_
  refine c_region rfl ?_
  refine s_q rfl rfl (y_build (vs := [(0, (Value.int .i64 2)), (1, (Value.int .i64 8)), (2, (Value.int .i64 4)), (3, (Value.int .i64 4)), (4, (Value.int .i64 1))]) (cs := #[(Value.int .i64 2), (Value.int .i64 8), (Value.int .i64 4), (Value.int .i64 4), (Value.int .i64 1)]) rfl ⟨rfl, ev_const, ⟨rfl, ev_const, ⟨rfl, ev_const, ⟨rfl, ev_const, ⟨rfl, ev_const, trivial⟩⟩⟩⟩⟩ (by kernel_rfl)) ?_
  refine l_alloc (cs := #[(Value.int .i64 0), (Value.int .i64 0), (Value.int .i64 0), (Value.int .i64 0), (Value.int .i64 0)]) hI rfl rfl rfl zero_23 rfl ?_
  clear hI; intro b1 c1 w1 hI
  refine l_store (new := [(Value.int .i64 2), (Value.int .i64 8), (Value.int .i64 4), (Value.int .i64 4), (Value.int .i64 1)]) (cs' := #[(Value.int .i64 2), (Value.int .i64 8), (Value.int .i64 4), (Value.int .i64 4), (Value.int .i64 1)]) hI .z rfl rfl rfl (ev_tmp rfl rfl) (ev_tmp rfl rfl) rfl size_23 rfl rfl rfl ?_
  clear hI; intro c2 w2 hI
  refine s_nil ?_
  refine k_next (e := [(1, (Value.pointer (some ⟨b1, 0, none⟩)))]) ⟨rfl, trivial⟩ ?_
  refine c_seq ?_
  refine c_region rfl ?_
  refine s_q rfl rfl (y_loadN (l := [(Value.int .i64 2), (Value.int .i64 8), (Value.int .i64 4), (Value.int .i64 4), (Value.int .i64 1)]) rfl (ev_tmp rfl rfl) Tryz.underlying23 rfl size_23 (CellsAt.of_blk (hI.blk .z) rfl)) ?_
  obtain ⟨r1, hx1, h⟩ := bnd_some h
  refine s_call rfl rfl (r_callF (vs := [(Value.agg #[(Value.int .i64 2), (Value.int .i64 8), (Value.int .i64 4), (Value.int .i64 4), (Value.int .i64 1)])]) rfl ok_20 ⟨(ev_tmp rfl rfl), trivial⟩) (Calls.mono (c_value_One (Dj F c2) w2 hI.lt (⟨2, 8, 4, 4, 1⟩ : GType) trivial r1 hx1) ?_)
  rintro _ w3 ⟨rfl, hx2, hl1⟩
  refine ⟨_, rfl, ?_⟩
  replace hI := (hI.ext hx2)
  refine s_q rfl rfl (y_move rfl (ev_tmp rfl rfl)) ?_
  refine s_q rfl rfl (y_extract rfl (ev_tmp rfl rfl) rfl) ?_
  refine s_q rfl rfl (y_extract rfl (ev_tmp rfl rfl) rfl) ?_
  refine l_alloc (cs := #[(Value.int .i64 0), (Value.int .i64 0)]) hI rfl rfl rfl zero_27 rfl ?_
  clear hI; intro b2 c3 w4 hI
  refine l_store (new := [(Value.int .i64 r1.1.N), (Value.int .i64 r1.1.D)]) (cs' := #[(Value.int .i64 r1.1.N), (Value.int .i64 r1.1.D)]) hI .z rfl rfl rfl (ev_tmp rfl rfl) (ev_tmp rfl rfl) rfl size_27 rfl rfl rfl ?_
  clear hI; intro c4 w5 hI
  refine s_q rfl rfl (y_assign rfl (ev_tmp rfl rfl)) ?_
  refine s_nil ?_
  refine k_next (e := [(1, (Value.pointer (some ⟨b1, 0, none⟩))), (2, (Value.pointer (some ⟨b2, 0, none⟩))), (3, (Value.int .i64 r1.2))]) ⟨rfl, rfl, rfl, trivial⟩ ?_
  refine c_seq ?_
  refine c_region rfl ?_
  refine s_q rfl rfl (y_loadN (l := [(Value.int .i64 2), (Value.int .i64 8), (Value.int .i64 4), (Value.int .i64 4), (Value.int .i64 1)]) rfl (ev_tmp rfl rfl) Tryz.underlying23 rfl size_23 (CellsAt.of_blk (hI.blk (.s .z)) rfl)) ?_
  refine s_q rfl rfl (y_build (vs := [(0, (Value.int .i64 24)), (1, (Value.int .i64 1))]) (cs := #[(Value.int .i64 24), (Value.int .i64 1)]) rfl ⟨rfl, ev_const, ⟨rfl, ev_const, trivial⟩⟩ (by kernel_rfl)) ?_
  refine s_q rfl rfl (y_build (vs := [(0, (Value.int .i64 24)), (1, (Value.int .i64 1))]) (cs := #[(Value.int .i64 24), (Value.int .i64 1)]) rfl ⟨rfl, ev_const, ⟨rfl, ev_const, trivial⟩⟩ (by kernel_rfl)) ?_
  obtain ⟨r2, hx3, h⟩ := bnd_some h
  refine s_call rfl rfl (r_callF (vs := [(Value.int .i64 6), (Value.agg #[(Value.int .i64 2), (Value.int .i64 8), (Value.int .i64 4), (Value.int .i64 4), (Value.int .i64 1)]), (Value.agg #[(Value.int .i64 24), (Value.int .i64 1)]), (Value.agg #[(Value.int .i64 24), (Value.int .i64 1)])]) rfl ok_17 ⟨ev_const, ⟨(ev_tmp rfl rfl), ⟨(ev_tmp rfl rfl), ⟨(ev_tmp rfl rfl), trivial⟩⟩⟩⟩) (Calls.mono (c_value_Apply (Dj F c4) w5 hI.lt 6 (⟨2, 8, 4, 4, 1⟩ : GType) (⟨24, 1⟩ : GVal) (⟨24, 1⟩ : GVal) trivial r2 hx3) ?_)
  rintro _ w6 ⟨rfl, hx4, hl2⟩
  refine ⟨_, rfl, ?_⟩
  replace hI := (hI.ext hx4)
  refine s_q rfl rfl (y_move rfl (ev_tmp rfl rfl)) ?_
  refine s_q rfl rfl (y_extract rfl (ev_tmp rfl rfl) rfl) ?_
  refine s_q rfl rfl (y_extract rfl (ev_tmp rfl rfl) rfl) ?_
  refine l_alloc (cs := #[(Value.int .i64 0), (Value.int .i64 0)]) hI rfl rfl rfl zero_27 rfl ?_
  clear hI; intro b3 c5 w7 hI
  refine l_store (new := [(Value.int .i64 r2.1.N), (Value.int .i64 r2.1.D)]) (cs' := #[(Value.int .i64 r2.1.N), (Value.int .i64 r2.1.D)]) hI .z rfl rfl rfl (ev_tmp rfl rfl) (ev_tmp rfl rfl) rfl size_27 rfl rfl rfl ?_
  clear hI; intro c6 w8 hI
  refine s_q rfl rfl (y_assign rfl (ev_tmp rfl rfl)) ?_
  refine s_nil ?_
  refine k_next (e := [(1, (Value.pointer (some ⟨b1, 0, none⟩))), (2, (Value.pointer (some ⟨b2, 0, none⟩))), (3, (Value.int .i64 r1.2)), (4, (Value.pointer (some ⟨b3, 0, none⟩))), (5, (Value.int .i64 r2.2))]) ⟨rfl, rfl, rfl, rfl, rfl, trivial⟩ ?_
  refine c_seq ?_
  refine c_region rfl ?_
  refine s_q rfl rfl (y_loadN (l := [(Value.int .i64 2), (Value.int .i64 8), (Value.int .i64 4), (Value.int .i64 4), (Value.int .i64 1)]) rfl (ev_tmp rfl rfl) Tryz.underlying23 rfl size_23 (CellsAt.of_blk (hI.blk (.s (.s .z))) rfl)) ?_
  refine s_q rfl rfl (y_build (vs := [(0, (Value.int .i64 120)), (1, (Value.int .i64 1))]) (cs := #[(Value.int .i64 120), (Value.int .i64 1)]) rfl ⟨rfl, ev_const, ⟨rfl, ev_const, trivial⟩⟩ (by kernel_rfl)) ?_
  refine s_q rfl rfl (y_build (vs := [(0, (Value.int .i64 20)), (1, (Value.int .i64 1))]) (cs := #[(Value.int .i64 20), (Value.int .i64 1)]) rfl ⟨rfl, ev_const, ⟨rfl, ev_const, trivial⟩⟩ (by kernel_rfl)) ?_
  obtain ⟨r3, hx5, h⟩ := bnd_some h
  refine s_call rfl rfl (r_callF (vs := [(Value.int .i64 4), (Value.agg #[(Value.int .i64 2), (Value.int .i64 8), (Value.int .i64 4), (Value.int .i64 4), (Value.int .i64 1)]), (Value.agg #[(Value.int .i64 120), (Value.int .i64 1)]), (Value.agg #[(Value.int .i64 20), (Value.int .i64 1)])]) rfl ok_17 ⟨ev_const, ⟨(ev_tmp rfl rfl), ⟨(ev_tmp rfl rfl), ⟨(ev_tmp rfl rfl), trivial⟩⟩⟩⟩) (Calls.mono (c_value_Apply (Dj F c6) w8 hI.lt 4 (⟨2, 8, 4, 4, 1⟩ : GType) (⟨120, 1⟩ : GVal) (⟨20, 1⟩ : GVal) trivial r3 hx5) ?_)
  rintro _ w9 ⟨rfl, hx6, hl3⟩
  refine ⟨_, rfl, ?_⟩
  replace hI := (hI.ext hx6)
  refine s_q rfl rfl (y_move rfl (ev_tmp rfl rfl)) ?_
  refine s_q rfl rfl (y_extract rfl (ev_tmp rfl rfl) rfl) ?_
  refine s_q rfl rfl (y_extract rfl (ev_tmp rfl rfl) rfl) ?_
  refine l_alloc (cs := #[(Value.int .i64 0), (Value.int .i64 0)]) hI rfl rfl rfl zero_27 rfl ?_
  clear hI; intro b4 c7 w10 hI
  refine l_store (new := [(Value.int .i64 r3.1.N), (Value.int .i64 r3.1.D)]) (cs' := #[(Value.int .i64 r3.1.N), (Value.int .i64 r3.1.D)]) hI .z rfl rfl rfl (ev_tmp rfl rfl) (ev_tmp rfl rfl) rfl size_27 rfl rfl rfl ?_
  clear hI; intro c8 w11 hI
  refine s_q rfl rfl (y_assign rfl (ev_tmp rfl rfl)) ?_
  refine s_nil ?_
  refine k_next (e := [(1, (Value.pointer (some ⟨b1, 0, none⟩))), (2, (Value.pointer (some ⟨b2, 0, none⟩))), (3, (Value.int .i64 r1.2)), (4, (Value.pointer (some ⟨b3, 0, none⟩))), (5, (Value.int .i64 r2.2)), (6, (Value.pointer (some ⟨b4, 0, none⟩))), (7, (Value.int .i64 r3.2))]) ⟨rfl, rfl, rfl, rfl, rfl, rfl, rfl, trivial⟩ ?_
  refine c_seq ?_
  refine c_region rfl ?_
  refine s_q rfl rfl (y_build (vs := [(0, (Value.int .i64 1))]) (cs := #[(Value.int .i64 1), (Value.int .i64 0), (Value.int .i64 0), (Value.int .i64 0), (Value.int .i64 0)]) rfl ⟨rfl, ev_const, trivial⟩ (by kernel_rfl)) ?_
  refine s_q rfl rfl (y_loadN (l := [(Value.int .i64 2), (Value.int .i64 8), (Value.int .i64 4), (Value.int .i64 4), (Value.int .i64 1)]) rfl (ev_tmp rfl rfl) Tryz.underlying23 rfl size_23 (CellsAt.of_blk (hI.blk (.s (.s (.s .z)))) rfl)) ?_
  refine s_q rfl rfl (y_build (vs := [(0, (Value.int .i64 1)), (1, (Value.int .i64 3))]) (cs := #[(Value.int .i64 1), (Value.int .i64 3)]) rfl ⟨rfl, ev_const, ⟨rfl, ev_const, trivial⟩⟩ (by kernel_rfl)) ?_
  obtain ⟨r4, hx7, h⟩ := bnd_some h
  refine s_call rfl rfl (r_callF (vs := [(Value.agg #[(Value.int .i64 1), (Value.int .i64 0), (Value.int .i64 0), (Value.int .i64 0), (Value.int .i64 0)]), (Value.agg #[(Value.int .i64 2), (Value.int .i64 8), (Value.int .i64 4), (Value.int .i64 4), (Value.int .i64 1)]), (Value.agg #[(Value.int .i64 1), (Value.int .i64 3)])]) rfl ok_18 ⟨(ev_tmp rfl rfl), ⟨(ev_tmp rfl rfl), ⟨(ev_tmp rfl rfl), trivial⟩⟩⟩) (Calls.mono (c_value_Cast (Dj F c8) w11 hI.lt (⟨1, 0, 0, 0, 0⟩ : GType) (⟨2, 8, 4, 4, 1⟩ : GType) (⟨1, 3⟩ : GVal) trivial r4 hx7) ?_)
  rintro _ w12 ⟨rfl, hx8, hl4⟩
  refine ⟨_, rfl, ?_⟩
  replace hI := (hI.ext hx8)
  refine s_q rfl rfl (y_move rfl (ev_tmp rfl rfl)) ?_
  refine s_q rfl rfl (y_extract rfl (ev_tmp rfl rfl) rfl) ?_
  refine s_q rfl rfl (y_extract rfl (ev_tmp rfl rfl) rfl) ?_
  refine l_alloc (cs := #[(Value.int .i64 0), (Value.int .i64 0)]) hI rfl rfl rfl zero_27 rfl ?_
  clear hI; intro b5 c9 w13 hI
  refine l_store (new := [(Value.int .i64 r4.1.N), (Value.int .i64 r4.1.D)]) (cs' := #[(Value.int .i64 r4.1.N), (Value.int .i64 r4.1.D)]) hI .z rfl rfl rfl (ev_tmp rfl rfl) (ev_tmp rfl rfl) rfl size_27 rfl rfl rfl ?_
  clear hI; intro c10 w14 hI
  refine s_q rfl rfl (y_assign rfl (ev_tmp rfl rfl)) ?_
  refine s_nil ?_
  refine k_next (e := [(1, (Value.pointer (some ⟨b1, 0, none⟩))), (2, (Value.pointer (some ⟨b2, 0, none⟩))), (3, (Value.int .i64 r1.2)), (4, (Value.pointer (some ⟨b3, 0, none⟩))), (5, (Value.int .i64 r2.2)), (6, (Value.pointer (some ⟨b4, 0, none⟩))), (7, (Value.int .i64 r3.2)), (8, (Value.pointer (some ⟨b5, 0, none⟩))), (9, (Value.int .i64 r4.2))]) ⟨rfl, rfl, rfl, rfl, rfl, rfl, rfl, rfl, rfl, trivial⟩ ?_
  refine c_seq ?_
  refine c_region rfl ?_
  refine s_q rfl rfl (y_build (vs := [(0, (Value.int .i64 3))]) (cs := #[(Value.int .i64 3), (Value.int .i64 0), (Value.int .i64 0), (Value.int .i64 0), (Value.int .i64 0)]) rfl ⟨rfl, ev_const, trivial⟩ (by kernel_rfl)) ?_
  refine s_q rfl rfl (y_build (vs := [(0, (Value.int .i64 (-7))), (1, (Value.int .i64 1))]) (cs := #[(Value.int .i64 (-7)), (Value.int .i64 1)]) rfl ⟨rfl, ev_const, ⟨rfl, ev_const, trivial⟩⟩ (by kernel_rfl)) ?_
  refine s_q rfl rfl (y_build (vs := [(0, (Value.int .i64 2)), (1, (Value.int .i64 1))]) (cs := #[(Value.int .i64 2), (Value.int .i64 1)]) rfl ⟨rfl, ev_const, ⟨rfl, ev_const, trivial⟩⟩ (by kernel_rfl)) ?_
  obtain ⟨r5, hx9, h⟩ := bnd_some h
  refine s_call rfl rfl (r_callF (vs := [(Value.int .i64 7), (Value.agg #[(Value.int .i64 3), (Value.int .i64 0), (Value.int .i64 0), (Value.int .i64 0), (Value.int .i64 0)]), (Value.agg #[(Value.int .i64 (-7)), (Value.int .i64 1)]), (Value.agg #[(Value.int .i64 2), (Value.int .i64 1)])]) rfl ok_17 ⟨ev_const, ⟨(ev_tmp rfl rfl), ⟨(ev_tmp rfl rfl), ⟨(ev_tmp rfl rfl), trivial⟩⟩⟩⟩) (Calls.mono (c_value_Apply (Dj F c10) w14 hI.lt 7 (⟨3, 0, 0, 0, 0⟩ : GType) (⟨(-7), 1⟩ : GVal) (⟨2, 1⟩ : GVal) trivial r5 hx9) ?_)
  rintro _ w15 ⟨rfl, hx10, hl5⟩
  refine ⟨_, rfl, ?_⟩
  replace hI := (hI.ext hx10)
  refine s_q rfl rfl (y_move rfl (ev_tmp rfl rfl)) ?_
  refine s_q rfl rfl (y_extract rfl (ev_tmp rfl rfl) rfl) ?_
  refine s_q rfl rfl (y_extract rfl (ev_tmp rfl rfl) rfl) ?_
  refine l_alloc (cs := #[(Value.int .i64 0), (Value.int .i64 0)]) hI rfl rfl rfl zero_27 rfl ?_
  clear hI; intro b6 c11 w16 hI
  refine l_store (new := [(Value.int .i64 r5.1.N), (Value.int .i64 r5.1.D)]) (cs' := #[(Value.int .i64 r5.1.N), (Value.int .i64 r5.1.D)]) hI .z rfl rfl rfl (ev_tmp rfl rfl) (ev_tmp rfl rfl) rfl size_27 rfl rfl rfl ?_
  clear hI; intro c12 w17 hI
  refine s_q rfl rfl (y_assign rfl (ev_tmp rfl rfl)) ?_
  refine s_nil ?_
  refine k_next (e := [(1, (Value.pointer (some ⟨b1, 0, none⟩))), (2, (Value.pointer (some ⟨b2, 0, none⟩))), (3, (Value.int .i64 r1.2)), (4, (Value.pointer (some ⟨b3, 0, none⟩))), (5, (Value.int .i64 r2.2)), (6, (Value.pointer (some ⟨b4, 0, none⟩))), (7, (Value.int .i64 r3.2)), (8, (Value.pointer (some ⟨b5, 0, none⟩))), (9, (Value.int .i64 r4.2)), (10, (Value.pointer (some ⟨b6, 0, none⟩))), (11, (Value.int .i64 r5.2))]) ⟨rfl, rfl, rfl, rfl, rfl, rfl, rfl, rfl, rfl, rfl, rfl, trivial⟩ ?_
  refine c_seq ?_
  refine c_region rfl ?_
  refine s_q rfl rfl (y_loadN (l := [(Value.int .i64 2), (Value.int .i64 8), (Value.int .i64 4), (Value.int .i64 4), (Value.int .i64 1)]) rfl (ev_tmp rfl rfl) Tryz.underlying23 rfl size_23 (CellsAt.of_blk (hI.blk (.s (.s (.s (.s (.s .z)))))) rfl)) ?_
  have hI := hI.add (c := Cl.sl cGVal none 0 ([] : List GVal)) SlC.nil
  obtain ⟨r6, hx11, h⟩ := bnd_some h
  refine s_call rfl rfl (r_callF (vs := [(Value.int .i64 3), (Value.agg #[(Value.int .i64 2), (Value.int .i64 8), (Value.int .i64 4), (Value.int .i64 4), (Value.int .i64 1)]), (Value.slice none 0 0)]) rfl ok_7 ⟨ev_const, ⟨(ev_tmp rfl rfl), ⟨ev_const, trivial⟩⟩⟩) (Calls.mono (c_value_Reduce (Dj F c12) w17 hI.lt 3 (⟨2, 8, 4, 4, 1⟩ : GType) ([] : List GVal) none 0 ⟨(hI.get .z), trivial⟩ r6 hx11) ?_)
  rintro _ w18 ⟨rfl, hx12, hl6⟩
  refine ⟨_, rfl, ?_⟩
  replace hI := (hI.ext hx12)
  refine s_q rfl rfl (y_move rfl (ev_tmp rfl rfl)) ?_
  refine s_q rfl rfl (y_extract rfl (ev_tmp rfl rfl) rfl) ?_
  refine s_q rfl rfl (y_extract rfl (ev_tmp rfl rfl) rfl) ?_
  refine l_alloc (cs := #[(Value.int .i64 0), (Value.int .i64 0)]) hI rfl rfl rfl zero_27 rfl ?_
  clear hI; intro b7 c13 w19 hI
  refine l_store (new := [(Value.int .i64 r6.1.N), (Value.int .i64 r6.1.D)]) (cs' := #[(Value.int .i64 r6.1.N), (Value.int .i64 r6.1.D)]) hI .z rfl rfl rfl (ev_tmp rfl rfl) (ev_tmp rfl rfl) rfl size_27 rfl rfl rfl ?_
  clear hI; intro c14 w20 hI
  refine s_q rfl rfl (y_assign rfl (ev_tmp rfl rfl)) ?_
  refine s_nil ?_
  refine k_next (e := [(1, (Value.pointer (some ⟨b1, 0, none⟩))), (2, (Value.pointer (some ⟨b2, 0, none⟩))), (3, (Value.int .i64 r1.2)), (4, (Value.pointer (some ⟨b3, 0, none⟩))), (5, (Value.int .i64 r2.2)), (6, (Value.pointer (some ⟨b4, 0, none⟩))), (7, (Value.int .i64 r3.2)), (8, (Value.pointer (some ⟨b5, 0, none⟩))), (9, (Value.int .i64 r4.2)), (10, (Value.pointer (some ⟨b6, 0, none⟩))), (11, (Value.int .i64 r5.2)), (13, (Value.int .i64 r6.2))]) ⟨rfl, rfl, rfl, rfl, rfl, rfl, rfl, rfl, rfl, rfl, rfl, rfl, trivial⟩ ?_
  refine c_seq ?_
  refine c_region rfl ?_
  refine s_q rfl rfl (y_move rfl (ev_tmp rfl rfl)) ?_
  refine s_q rfl rfl (y_eql rfl (ev_tmp rfl rfl) ev_const) ?_
  refine s_q rfl rfl (y_move rfl (ev_tmp rfl rfl)) ?_
  refine s_gval (g_true rfl rfl rfl rfl) rfl (fun hc => (y_fieldAddr rfl (ev_tmp rfl rfl) Tryz.underlying27 rfl size_2 rfl)) ?_
  refine s_gval (g_true rfl rfl rfl rfl) rfl (fun hc => (y_load1 (v := (Value.int .i64 r1.1.N)) rfl (ev_gv (ev_tmp rfl rfl) hc) Tryz.underlying2 rfl (CellsAt.of_blk (hI.blk (.s (.s (.s (.s (.s .z)))))) rfl))) ?_
  refine s_gval (g_true rfl rfl rfl rfl) rfl (fun hc => (y_eql rfl (ev_gv (ev_tmp rfl rfl) hc) ev_const)) ?_
  refine s_q rfl rfl (y_and rfl (ev_tmp rfl rfl) (ev_tmp rfl rfl)) ?_
  refine s_q rfl rfl (y_move rfl (ev_tmp rfl rfl)) ?_
  refine s_gval (g_true rfl rfl rfl rfl) rfl (fun hc => (y_move rfl (ev_tmp rfl rfl))) ?_
  refine s_gval (g_true rfl rfl rfl rfl) rfl (fun hc => (y_eql rfl (ev_gv (ev_tmp rfl rfl) hc) ev_const)) ?_
  refine s_q rfl rfl (y_and rfl (ev_tmp rfl rfl) (ev_tmp rfl rfl)) ?_
  refine s_q rfl rfl (y_move rfl (ev_tmp rfl rfl)) ?_
  refine s_gval (g_true rfl rfl rfl rfl) rfl (fun hc => (y_fieldAddr rfl (ev_tmp rfl rfl) Tryz.underlying27 rfl size_2 rfl)) ?_
  refine s_gval (g_true rfl rfl rfl rfl) rfl (fun hc => (y_load1 (v := (Value.int .i64 r2.1.N)) rfl (ev_gv (ev_tmp rfl rfl) hc) Tryz.underlying2 rfl (CellsAt.of_blk (hI.blk (.s (.s (.s (.s .z))))) rfl))) ?_
  refine s_gval (g_true rfl rfl rfl rfl) rfl (fun hc => (y_eql rfl (ev_gv (ev_tmp rfl rfl) hc) ev_const)) ?_
  refine s_q rfl rfl (y_and rfl (ev_tmp rfl rfl) (ev_tmp rfl rfl)) ?_
  refine s_q rfl rfl (y_move rfl (ev_tmp rfl rfl)) ?_
  refine s_gval (g_true rfl rfl rfl rfl) rfl (fun hc => (y_move rfl (ev_tmp rfl rfl))) ?_
  refine s_gval (g_true rfl rfl rfl rfl) rfl (fun hc => (y_eql rfl (ev_gv (ev_tmp rfl rfl) hc) ev_const)) ?_
  refine s_q rfl rfl (y_and rfl (ev_tmp rfl rfl) (ev_tmp rfl rfl)) ?_
  refine s_q rfl rfl (y_move rfl (ev_tmp rfl rfl)) ?_
  refine s_gval (g_true rfl rfl rfl rfl) rfl (fun hc => (y_fieldAddr rfl (ev_tmp rfl rfl) Tryz.underlying27 rfl size_2 rfl)) ?_
  refine s_gval (g_true rfl rfl rfl rfl) rfl (fun hc => (y_load1 (v := (Value.int .i64 r3.1.N)) rfl (ev_gv (ev_tmp rfl rfl) hc) Tryz.underlying2 rfl (CellsAt.of_blk (hI.blk (.s (.s (.s .z)))) rfl))) ?_
  refine s_gval (g_true rfl rfl rfl rfl) rfl (fun hc => (y_eql rfl (ev_gv (ev_tmp rfl rfl) hc) ev_const)) ?_
  refine s_q rfl rfl (y_and rfl (ev_tmp rfl rfl) (ev_tmp rfl rfl)) ?_
  refine s_q rfl rfl (y_move rfl (ev_tmp rfl rfl)) ?_
  refine s_gval (g_true rfl rfl rfl rfl) rfl (fun hc => (y_move rfl (ev_tmp rfl rfl))) ?_
  refine s_gval (g_true rfl rfl rfl rfl) rfl (fun hc => (y_eql rfl (ev_gv (ev_tmp rfl rfl) hc) ev_const)) ?_
  refine s_q rfl rfl (y_and rfl (ev_tmp rfl rfl) (ev_tmp rfl rfl)) ?_
  refine s_q rfl rfl (y_move rfl (ev_tmp rfl rfl)) ?_
  refine s_gval (g_true rfl rfl rfl rfl) rfl (fun hc => (y_fieldAddr rfl (ev_tmp rfl rfl) Tryz.underlying27 rfl size_2 rfl)) ?_
  refine s_gval (g_true rfl rfl rfl rfl) rfl (fun hc => (y_load1 (v := (Value.int .i64 r4.1.N)) rfl (ev_gv (ev_tmp rfl rfl) hc) Tryz.underlying2 rfl (CellsAt.of_blk (hI.blk (.s (.s .z))) rfl))) ?_
  refine s_gval (g_true rfl rfl rfl rfl) rfl (fun hc => (y_eql rfl (ev_gv (ev_tmp rfl rfl) hc) ev_const)) ?_
  refine s_q rfl rfl (y_and rfl (ev_tmp rfl rfl) (ev_tmp rfl rfl)) ?_
  refine s_q rfl rfl (y_move rfl (ev_tmp rfl rfl)) ?_
  refine s_gval (g_true rfl rfl rfl rfl) rfl (fun hc => (y_move rfl (ev_tmp rfl rfl))) ?_
  refine s_gval (g_true rfl rfl rfl rfl) rfl (fun hc => (y_eql rfl (ev_gv (ev_tmp rfl rfl) hc) ev_const)) ?_
  refine s_q rfl rfl (y_and rfl (ev_tmp rfl rfl) (ev_tmp rfl rfl)) ?_
  refine s_q rfl rfl (y_move rfl (ev_tmp rfl rfl)) ?_
  refine s_gval (g_true rfl rfl rfl rfl) rfl (fun hc => (y_fieldAddr rfl (ev_tmp rfl rfl) Tryz.underlying27 rfl size_2 rfl)) ?_
  refine s_gval (g_true rfl rfl rfl rfl) rfl (fun hc => (y_load1 (v := (Value.int .i64 r5.1.N)) rfl (ev_gv (ev_tmp rfl rfl) hc) Tryz.underlying2 rfl (CellsAt.of_blk (hI.blk (.s .z)) rfl))) ?_
  refine s_gval (g_true rfl rfl rfl rfl) rfl (fun hc => (y_eql rfl (ev_gv (ev_tmp rfl rfl) hc) ev_const)) ?_
  refine s_q rfl rfl (y_and rfl (ev_tmp rfl rfl) (ev_tmp rfl rfl)) ?_
  refine s_q rfl rfl (y_move rfl (ev_tmp rfl rfl)) ?_
  refine s_gval (g_true rfl rfl rfl rfl) rfl (fun hc => (y_move rfl (ev_tmp rfl rfl))) ?_
  refine s_gval (g_true rfl rfl rfl rfl) rfl (fun hc => (y_eql rfl (ev_gv (ev_tmp rfl rfl) hc) ev_const)) ?_
  refine s_q rfl rfl (y_and rfl (ev_tmp rfl rfl) (ev_tmp rfl rfl)) ?_
  refine s_q rfl rfl (y_move rfl (ev_tmp rfl rfl)) ?_
  refine s_gval (g_true rfl rfl rfl rfl) rfl (fun hc => (y_loadN (l := [(Value.int .i64 2), (Value.int .i64 8), (Value.int .i64 4), (Value.int .i64 4), (Value.int .i64 1)]) rfl (ev_tmp rfl rfl) Tryz.underlying23 rfl size_23 (CellsAt.of_blk (hI.blk (.s (.s (.s (.s (.s (.s .z))))))) rfl))) ?_
  refine s_gval (g_true rfl rfl rfl rfl) rfl (fun hc => (y_build (vs := [(0, (Value.int .i64 24)), (1, (Value.int .i64 1))]) (cs := #[(Value.int .i64 24), (Value.int .i64 1)]) rfl ⟨rfl, ev_const, ⟨rfl, ev_const, trivial⟩⟩ (by kernel_rfl))) ?_
  obtain ⟨r7, hx13, h⟩ := bnd_some h
  replace hx13 := gd_some hx13
  refine s_gcallU (v := (str r7)) (g_true rfl rfl rfl rfl) rfl (fun hc => (r_callF (vs := [(Value.agg #[(Value.int .i64 2), (Value.int .i64 8), (Value.int .i64 4), (Value.int .i64 4), (Value.int .i64 1)]), (Value.agg #[(Value.int .i64 24), (Value.int .i64 1)])]) rfl ok_15 ⟨(ev_gv (ev_tmp rfl rfl) hc), ⟨(ev_gv (ev_tmp rfl rfl) hc), trivial⟩⟩)) (fun hc => (c_value_Format (Dj F c14) w20 hI.lt (⟨2, 8, 4, 4, 1⟩ : GType) (⟨24, 1⟩ : GVal) ⟨(hI.get (.s .z)), trivial⟩ r7 (hx13 hc)).mono fun _ _ k => ⟨k.1, k.2.1⟩) ?_
  intro w21 hx14; replace hI := hI.ext hx14
  refine s_gval (g_true rfl rfl rfl rfl) rfl (fun hc => (y_eqs rfl (ev_gv (ev_tmp rfl rfl) hc) ev_const)) ?_
  refine s_q rfl rfl (y_and rfl (ev_tmp rfl rfl) (ev_tmp rfl rfl)) ?_
  refine s_q rfl rfl (y_move rfl (ev_tmp rfl rfl)) ?_
  refine s_gval (g_true rfl rfl rfl rfl) rfl (fun hc => (y_loadN (l := [(Value.int .i64 2), (Value.int .i64 8), (Value.int .i64 4), (Value.int .i64 4), (Value.int .i64 1)]) rfl (ev_tmp rfl rfl) Tryz.underlying23 rfl size_23 (CellsAt.of_blk (hI.blk (.s (.s (.s (.s (.s (.s .z))))))) rfl))) ?_
  obtain ⟨r8, hx15, h⟩ := bnd_some h
  replace hx15 := gd_some hx15
  refine s_gcallU (v := (Value.bool r8)) (g_true rfl rfl rfl rfl) rfl (fun hc => (r_callF (vs := [(Value.int .i64 1), (Value.agg #[(Value.int .i64 2), (Value.int .i64 8), (Value.int .i64 4), (Value.int .i64 4), (Value.int .i64 1)])]) rfl ok_11 ⟨ev_const, ⟨(ev_gv (ev_tmp rfl rfl) hc), trivial⟩⟩)) (fun hc => (c_value_Reorderable (Dj F c14) w21 hI.lt 1 (⟨2, 8, 4, 4, 1⟩ : GType) trivial r8 (hx15 hc)).mono fun _ _ k => ⟨k.1, k.2.1⟩) ?_
  intro w22 hx16; replace hI := hI.ext hx16
  refine s_gval (g_true rfl rfl rfl rfl) rfl (fun hc => (y_not rfl (ev_gv (ev_tmp rfl rfl) hc))) ?_
  refine s_q rfl rfl (y_and rfl (ev_tmp rfl rfl) (ev_tmp rfl rfl)) ?_
  refine s_q rfl rfl (y_assign rfl (ev_tmp rfl rfl)) ?_
  refine s_nil ?_
  refine k_next (e := [(0, (Value.bool (((((((((((((decide (r1.2 = 0)) && (decide (r1.1.N = 16))) && (decide (r2.2 = 0))) && (decide (r2.1.N = 36))) && (decide (r3.2 = 0))) && (decide (r3.1.N = 127))) && (decide (r4.2 = 0))) && (decide (r4.1.N = 5))) && (decide (r5.2 = 0))) && (decide (r5.1.N = (-4)))) && (decide (r6.2 = 1))) && (decide (r7 = ([51, 47, 50] : List UInt8)))) && (!r8))))]) ⟨rfl, trivial⟩ ?_
  refine c_ret ?_
  obtain rfl := some_inj h
  exact q_ret (vs := [(Value.bool (((((((((((((decide (r1.2 = 0)) && (decide (r1.1.N = 16))) && (decide (r2.2 = 0))) && (decide (r2.1.N = 36))) && (decide (r3.2 = 0))) && (decide (r3.1.N = 127))) && (decide (r4.2 = 0))) && (decide (r4.1.N = 5))) && (decide (r5.2 = 0))) && (decide (r5.1.N = (-4)))) && (decide (r6.2 = 1))) && (decide (r7 = ([51, 47, 50] : List UInt8)))) && (!r8)))]) Tryz.results6 ⟨ev_tmp rfl rfl, trivial⟩ ⟨rfl, hI.ext0, hI.fin trivial⟩

set_option maxRecDepth 100000 in
set_option maxHeartbeats 4000000 in
theorem c_internal_stringslite_Cut (F : NP) (w0 : World) (hF : ∀ k, F k → k < w0.heap.size) (s1 : List UInt8) (sep1 : List UInt8) (hc : AllCl [] F w0) (r : List UInt8 × List UInt8 × Bool)
    (h : m_internal_stringslite_Cut s1 sep1 = some r) :
    Calls Tryz.prog 92 #[(str s1), (str sep1)] w0 fun e w => e = .returned (Value.tuple #[(str r.1), (str r.2.1), (Value.bool r.2.2)]) ∧ Ext w0 w ∧ AllCl [] F w := by
  refine ofEnter (R := fun v w => v = (Value.tuple #[(str r.1), (str r.2.1), (Value.bool r.2.2)]) ∧ Ext w0 w ∧ AllCl [] F w) (enter (l := [(str s1), (str sep1)]) Tryz.func92 rfl Tryz.ntmps92 rfl ?_) ?_
  rotate_left
  · rintro _ w ⟨rfl, k1, k2⟩; exact ⟨rfl, k1, k2⟩
  have hI := Bun.start hF hc
  clear hc
  rw [m_internal_stringslite_Cut] at h
  refine c_seq ?_
  refine c_region rfl ?_
  refine s_q rfl rfl (y_assign rfl ev_const) ?_
  refine s_q rfl rfl (y_assign rfl ev_const) ?_
  refine s_q rfl rfl (y_assign rfl ev_const) ?_
  refine s_nil ?_
  refine k_next (e := [(0, (str s1)), (1, (str sep1))]) ⟨rfl, rfl, trivial⟩ ?_
  refine c_seq ?_
  refine c_seq ?_
  refine c_region rfl ?_
  refine s_q rfl rfl (y_move rfl (ev_tmp rfl rfl)) ?_
  refine s_q rfl rfl (y_move rfl (ev_tmp rfl rfl)) ?_
  obtain ⟨r1, hx1, h⟩ := bnd_some h
  refine s_call rfl rfl (r_callF (vs := [(str s1), (str sep1)]) rfl ok_112 ⟨(ev_tmp rfl rfl), ⟨(ev_tmp rfl rfl), trivial⟩⟩) (Calls.mono (c_internal_stringslite_Index (Dj F noM) w0 hI.lt s1 sep1 trivial r1 hx1) ?_)
  rintro _ w1 ⟨rfl, hx2, hl1⟩
  refine ⟨_, rfl, ?_⟩
  replace hI := (hI.ext hx2)
  refine s_q rfl rfl (y_assign rfl (ev_tmp rfl rfl)) ?_
  refine s_nil ?_
  refine k_next (e := [(0, (str s1)), (1, (str sep1)), (7, (Value.int .i64 r1))]) ⟨rfl, rfl, rfl, trivial⟩ ?_
  refine c_seq ?_
  refine c_region rfl ?_
  refine s_q rfl rfl (y_move rfl (ev_tmp rfl rfl)) ?_
  refine s_q rfl rfl (y_geq rfl (ev_tmp rfl rfl) ev_const) ?_
  refine s_nil ?_
  refine k_next (e := [(0, (str s1)), (1, (str sep1)), (7, (Value.int .i64 r1)), (12, (Value.bool (decide (0 ≤ r1))))]) ⟨rfl, rfl, rfl, rfl, trivial⟩ ?_
  refine c_cond (b := decide (0 ≤ r1)) (ev_tmp rfl rfl) (fun hb => ?_) (fun hb => ?_)
  · replace h := ite_t hb h
    refine c_seq ?_
    refine c_drawX [] false (.c (0, .q) (.c (1, .q) (.c (2, .q) (.c (3, .q) (.c (4, .q) (.c (5, .q) (.c (6, .q) (.c (7, .q) (.c (8, .q) (.c (9, .q) (.c (10, .q) (.c (11, .q) .n)))))))))))) hI (by kernel_rfl) (by kernel_rfl) ?_
    clear hI; intro w2 hI
    refine a_q rfl rfl rfl (fun w' => (y_move rfl (ev_tmp rfl rfl))) ?_
    refine a_q rfl rfl rfl (fun w' => (y_move rfl (ev_tmp rfl rfl))) ?_
    obtain ⟨s2, hx3, h⟩ := bnd_some h
    refine a_q rfl rfl rfl (fun w' => (y_supto rfl Tryz.underlying9 (ev_tmp rfl rfl) (ev_tmp rfl rfl) hx3)) ?_
    refine a_q rfl rfl rfl (fun w' => (y_move rfl (ev_tmp rfl rfl))) ?_
    refine a_q rfl rfl rfl (fun w' => (y_move rfl (ev_tmp rfl rfl))) ?_
    refine a_q rfl rfl rfl (fun w' => (y_move rfl (ev_tmp rfl rfl))) ?_
    refine a_q rfl rfl rfl (fun w' => (y_lens rfl Tryz.underlying9 (ev_tmp rfl rfl))) ?_
    refine a_q rfl rfl rfl (fun w' => (y_add rfl (ev_tmp rfl rfl) (ev_tmp rfl rfl))) ?_
    obtain ⟨s3, hx4, h⟩ := bnd_some h
    refine a_q rfl rfl rfl (fun w' => (y_sfrom rfl Tryz.underlying9 (ev_tmp rfl rfl) (ev_tmp rfl rfl) hx4)) ?_
    refine a_q rfl rfl rfl (fun w' => (y_assign rfl (ev_tmp rfl rfl))) ?_
    refine a_q rfl rfl rfl (fun w' => (y_assign rfl (ev_tmp rfl rfl))) ?_
    refine a_q rfl rfl rfl (fun w' => (y_assign rfl ev_const)) ?_
    refine a_nil ?_
    refine k_next (e := [(4, (str s2)), (5, (str s3)), (6, (Value.bool true))]) ⟨rfl, rfl, rfl, trivial⟩ ?_
    refine c_ret ?_
    obtain rfl := some_inj h
    exact q_ret (vs := [(str s2), (str s3), (Value.bool true)]) Tryz.results92 ⟨ev_tmp rfl rfl, ⟨ev_tmp rfl rfl, ⟨ev_tmp rfl rfl, trivial⟩⟩⟩ ⟨rfl, hI.ext0, hI.fin trivial⟩
  · replace h := ite_f hb h
    refine c_skip ?_
    refine k_next (e := [(0, (str s1))]) ⟨rfl, trivial⟩ ?_
    refine c_seq ?_
    refine c_region rfl ?_
    refine s_q rfl rfl (y_move rfl (ev_tmp rfl rfl)) ?_
    refine s_q rfl rfl (y_assign rfl (ev_tmp rfl rfl)) ?_
    refine s_q rfl rfl (y_assign rfl ev_const) ?_
    refine s_q rfl rfl (y_assign rfl ev_const) ?_
    refine s_nil ?_
    refine k_next (e := [(4, (str s1)), (5, (str ([] : List UInt8))), (6, (Value.bool false))]) ⟨rfl, rfl, rfl, trivial⟩ ?_
    refine c_ret ?_
    obtain rfl := some_inj h
    exact q_ret (vs := [(str s1), (str ([] : List UInt8)), (Value.bool false)]) Tryz.results92 ⟨ev_tmp rfl rfl, ⟨ev_tmp rfl rfl, ⟨ev_tmp rfl rfl, trivial⟩⟩⟩ ⟨rfl, hI.ext0, hI.fin trivial⟩

set_option maxRecDepth 100000 in
set_option maxHeartbeats 4000000 in
theorem c_strings_Cut (F : NP) (w0 : World) (hF : ∀ k, F k → k < w0.heap.size) (s1 : List UInt8) (sep1 : List UInt8) (hc : AllCl [] F w0) (r : List UInt8 × List UInt8 × Bool)
    (h : m_strings_Cut s1 sep1 = some r) :
    Calls Tryz.prog 57 #[(str s1), (str sep1)] w0 fun e w => e = .returned (Value.tuple #[(str r.1), (str r.2.1), (Value.bool r.2.2)]) ∧ Ext w0 w ∧ AllCl [] F w := by
  refine ofEnter (R := fun v w => v = (Value.tuple #[(str r.1), (str r.2.1), (Value.bool r.2.2)]) ∧ Ext w0 w ∧ AllCl [] F w) (enter (l := [(str s1), (str sep1)]) Tryz.func57 rfl Tryz.ntmps57 rfl ?_) ?_
  rotate_left
  · rintro _ w ⟨rfl, k1, k2⟩; exact ⟨rfl, k1, k2⟩
  have hI := Bun.start hF hc
  clear hc
  rw [m_strings_Cut] at h
  refine c_seq ?_
  refine c_region rfl ?_
  refine s_q rfl rfl (y_assign rfl ev_const) ?_
  refine s_q rfl rfl (y_assign rfl ev_const) ?_
  refine s_q rfl rfl (y_assign rfl ev_const) ?_
  refine s_nil ?_
  refine k_next (e := [(0, (str s1)), (1, (str sep1))]) ⟨rfl, rfl, trivial⟩ ?_
  refine c_seq ?_
  refine c_region rfl ?_
  refine s_q rfl rfl (y_move rfl (ev_tmp rfl rfl)) ?_
  refine s_q rfl rfl (y_move rfl (ev_tmp rfl rfl)) ?_
  obtain ⟨r1, hx1, h⟩ := bnd_some h
  refine s_call rfl rfl (r_callF (vs := [(str s1), (str sep1)]) rfl ok_92 ⟨(ev_tmp rfl rfl), ⟨(ev_tmp rfl rfl), trivial⟩⟩) (Calls.mono (c_internal_stringslite_Cut (Dj F noM) w0 hI.lt s1 sep1 trivial r1 hx1) ?_)
  rintro _ w1 ⟨rfl, hx2, hl1⟩
  refine ⟨_, rfl, ?_⟩
  replace hI := (hI.ext hx2)
  refine s_q rfl rfl (y_extract rfl (ev_tmp rfl rfl) rfl) ?_
  refine s_q rfl rfl (y_extract rfl (ev_tmp rfl rfl) rfl) ?_
  refine s_q rfl rfl (y_extract rfl (ev_tmp rfl rfl) rfl) ?_
  refine s_q rfl rfl (y_assign rfl (ev_tmp rfl rfl)) ?_
  refine s_q rfl rfl (y_assign rfl (ev_tmp rfl rfl)) ?_
  refine s_q rfl rfl (y_assign rfl (ev_tmp rfl rfl)) ?_
  refine s_nil ?_
  refine k_next (e := [(4, (str r1.1)), (5, (str r1.2.1)), (6, (Value.bool r1.2.2))]) ⟨rfl, rfl, rfl, trivial⟩ ?_
  refine c_ret ?_
  obtain rfl := some_inj h
  exact q_ret (vs := [(str r1.1), (str r1.2.1), (Value.bool r1.2.2)]) Tryz.results57 ⟨ev_tmp rfl rfl, ⟨ev_tmp rfl rfl, ⟨ev_tmp rfl rfl, trivial⟩⟩⟩ ⟨rfl, hI.ext0, hI.fin trivial⟩

set_option maxRecDepth 100000 in
set_option maxHeartbeats 4000000 in
theorem c_internal_stringslite_HasPrefix (F : NP) (w0 : World) (hF : ∀ k, F k → k < w0.heap.size) (s1 : List UInt8) (prefix1 : List UInt8) (hc : AllCl [] F w0) (r : Bool)
    (h : m_internal_stringslite_HasPrefix s1 prefix1 = some r) :
    Calls Tryz.prog 113 #[(str s1), (str prefix1)] w0 fun e w => e = .returned (Value.bool r) ∧ Ext w0 w ∧ AllCl [] F w := by
  refine ofEnter (R := fun v w => v = (Value.bool r) ∧ Ext w0 w ∧ AllCl [] F w) (enter (l := [(str s1), (str prefix1)]) Tryz.func113 rfl Tryz.ntmps113 rfl ?_) ?_
  rotate_left
  · rintro _ w ⟨rfl, k1, k2⟩; exact ⟨rfl, k1, k2⟩
  have hI := Bun.start hF hc
  clear hc
  rw [m_internal_stringslite_HasPrefix] at h
  refine c_seq ?_
  refine c_region rfl ?_
  refine s_q rfl rfl (y_assign rfl ev_const) ?_
  refine s_nil ?_
  refine k_next (e := [(0, (str s1)), (1, (str prefix1))]) ⟨rfl, rfl, trivial⟩ ?_
  refine c_seq ?_
  refine c_region rfl ?_
  refine s_q rfl rfl (y_move rfl (ev_tmp rfl rfl)) ?_
  refine s_q rfl rfl (y_lens rfl Tryz.underlying9 (ev_tmp rfl rfl)) ?_
  refine s_q rfl rfl (y_move rfl (ev_tmp rfl rfl)) ?_
  refine s_q rfl rfl (y_lens rfl Tryz.underlying9 (ev_tmp rfl rfl)) ?_
  refine s_q rfl rfl (y_geq rfl (ev_tmp rfl rfl) (ev_tmp rfl rfl)) ?_
  refine s_q rfl rfl (y_move rfl (ev_tmp rfl rfl)) ?_
  refine s_gval (g_true rfl rfl rfl rfl) rfl (fun hc => (y_move rfl (ev_tmp rfl rfl))) ?_
  refine s_gval (g_true rfl rfl rfl rfl) rfl (fun hc => (y_move rfl (ev_tmp rfl rfl))) ?_
  refine s_gval (g_true rfl rfl rfl rfl) rfl (fun hc => (y_lens rfl Tryz.underlying9 (ev_gv (ev_tmp rfl rfl) hc))) ?_
  obtain ⟨s2, hx1, h⟩ := bnd_some h
  replace hx1 := gd_some hx1
  refine s_gval (g_true rfl rfl rfl rfl) rfl (fun hc => (y_supto rfl Tryz.underlying9 (ev_gv (ev_tmp rfl rfl) hc) (ev_gv (ev_tmp rfl rfl) hc) (hx1 hc))) ?_
  refine s_gval (g_true rfl rfl rfl rfl) rfl (fun hc => (y_move rfl (ev_tmp rfl rfl))) ?_
  refine s_gval (g_true rfl rfl rfl rfl) rfl (fun hc => (y_eqs rfl (ev_gv (ev_tmp rfl rfl) hc) (ev_gv (ev_tmp rfl rfl) hc))) ?_
  refine s_q rfl rfl (y_and rfl (ev_tmp rfl rfl) (ev_tmp rfl rfl)) ?_
  refine s_q rfl rfl (y_assign rfl (ev_tmp rfl rfl)) ?_
  refine s_nil ?_
  refine k_next (e := [(4, (Value.bool ((decide ((prefix1.length : Int) ≤ (s1.length : Int))) && (decide (s2 = prefix1)))))]) ⟨rfl, trivial⟩ ?_
  refine c_ret ?_
  obtain rfl := some_inj h
  exact q_ret (vs := [(Value.bool ((decide ((prefix1.length : Int) ≤ (s1.length : Int))) && (decide (s2 = prefix1))))]) Tryz.results113 ⟨ev_tmp rfl rfl, trivial⟩ ⟨rfl, hI.ext0, hI.fin trivial⟩

set_option maxRecDepth 100000 in
set_option maxHeartbeats 4000000 in
theorem c_internal_stringslite_CutPrefix (F : NP) (w0 : World) (hF : ∀ k, F k → k < w0.heap.size) (s1 : List UInt8) (prefix1 : List UInt8) (hc : AllCl [] F w0) (r : List UInt8 × Bool)
    (h : m_internal_stringslite_CutPrefix s1 prefix1 = some r) :
    Calls Tryz.prog 93 #[(str s1), (str prefix1)] w0 fun e w => e = .returned (Value.tuple #[(str r.1), (Value.bool r.2)]) ∧ Ext w0 w ∧ AllCl [] F w := by
  refine ofEnter (R := fun v w => v = (Value.tuple #[(str r.1), (Value.bool r.2)]) ∧ Ext w0 w ∧ AllCl [] F w) (enter (l := [(str s1), (str prefix1)]) Tryz.func93 rfl Tryz.ntmps93 rfl ?_) ?_
  rotate_left
  · rintro _ w ⟨rfl, k1, k2⟩; exact ⟨rfl, k1, k2⟩
  have hI := Bun.start hF hc
  clear hc
  rw [m_internal_stringslite_CutPrefix] at h
  refine c_seq ?_
  refine c_region rfl ?_
  refine s_q rfl rfl (y_assign rfl ev_const) ?_
  refine s_q rfl rfl (y_assign rfl ev_const) ?_
  refine s_nil ?_
  refine k_next (e := [(0, (str s1)), (1, (str prefix1))]) ⟨rfl, rfl, trivial⟩ ?_
  refine c_seq ?_
  refine c_seq ?_
  refine c_region rfl ?_
  refine s_q rfl rfl (y_move rfl (ev_tmp rfl rfl)) ?_
  refine s_q rfl rfl (y_move rfl (ev_tmp rfl rfl)) ?_
  obtain ⟨r1, hx1, h⟩ := bnd_some h
  refine s_call rfl rfl (r_callF (vs := [(str s1), (str prefix1)]) rfl ok_113 ⟨(ev_tmp rfl rfl), ⟨(ev_tmp rfl rfl), trivial⟩⟩) (Calls.mono (c_internal_stringslite_HasPrefix (Dj F noM) w0 hI.lt s1 prefix1 trivial r1 hx1) ?_)
  rintro _ w1 ⟨rfl, hx2, hl1⟩
  refine ⟨_, rfl, ?_⟩
  replace hI := (hI.ext hx2)
  refine s_q rfl rfl (y_not rfl (ev_tmp rfl rfl)) ?_
  refine s_nil ?_
  refine k_next (e := [(0, (str s1)), (1, (str prefix1)), (9, (Value.bool (!r1)))]) ⟨rfl, rfl, rfl, trivial⟩ ?_
  refine c_cond (b := !r1) (ev_tmp rfl rfl) (fun hb => ?_) (fun hb => ?_)
  · replace h := ite_t hb h
    refine c_seq ?_
    refine c_region rfl ?_
    refine s_q rfl rfl (y_move rfl (ev_tmp rfl rfl)) ?_
    refine s_q rfl rfl (y_assign rfl (ev_tmp rfl rfl)) ?_
    refine s_q rfl rfl (y_assign rfl ev_const) ?_
    refine s_nil ?_
    refine k_next (e := [(4, (str s1)), (5, (Value.bool false))]) ⟨rfl, rfl, trivial⟩ ?_
    refine c_ret ?_
    obtain rfl := some_inj h
    exact q_ret (vs := [(str s1), (Value.bool false)]) Tryz.results93 ⟨ev_tmp rfl rfl, ⟨ev_tmp rfl rfl, trivial⟩⟩ ⟨rfl, hI.ext0, hI.fin trivial⟩
  · replace h := ite_f hb h
    refine c_skip ?_
    refine k_next (e := [(0, (str s1)), (1, (str prefix1))]) ⟨rfl, rfl, trivial⟩ ?_
    refine c_seq ?_
    refine c_region rfl ?_
    refine s_q rfl rfl (y_move rfl (ev_tmp rfl rfl)) ?_
    refine s_q rfl rfl (y_move rfl (ev_tmp rfl rfl)) ?_
    refine s_q rfl rfl (y_lens rfl Tryz.underlying9 (ev_tmp rfl rfl)) ?_
    obtain ⟨s2, hx3, h⟩ := bnd_some h
    refine s_q rfl rfl (y_sfrom rfl Tryz.underlying9 (ev_tmp rfl rfl) (ev_tmp rfl rfl) hx3) ?_
    refine s_q rfl rfl (y_assign rfl (ev_tmp rfl rfl)) ?_
    refine s_q rfl rfl (y_assign rfl ev_const) ?_
    refine s_nil ?_
    refine k_next (e := [(4, (str s2)), (5, (Value.bool true))]) ⟨rfl, rfl, trivial⟩ ?_
    refine c_ret ?_
    obtain rfl := some_inj h
    exact q_ret (vs := [(str s2), (Value.bool true)]) Tryz.results93 ⟨ev_tmp rfl rfl, ⟨ev_tmp rfl rfl, trivial⟩⟩ ⟨rfl, hI.ext0, hI.fin trivial⟩

set_option maxRecDepth 100000 in
set_option maxHeartbeats 4000000 in
theorem c_strings_CutPrefix (F : NP) (w0 : World) (hF : ∀ k, F k → k < w0.heap.size) (s1 : List UInt8) (prefix1 : List UInt8) (hc : AllCl [] F w0) (r : List UInt8 × Bool)
    (h : m_strings_CutPrefix s1 prefix1 = some r) :
    Calls Tryz.prog 58 #[(str s1), (str prefix1)] w0 fun e w => e = .returned (Value.tuple #[(str r.1), (Value.bool r.2)]) ∧ Ext w0 w ∧ AllCl [] F w := by
  refine ofEnter (R := fun v w => v = (Value.tuple #[(str r.1), (Value.bool r.2)]) ∧ Ext w0 w ∧ AllCl [] F w) (enter (l := [(str s1), (str prefix1)]) Tryz.func58 rfl Tryz.ntmps58 rfl ?_) ?_
  rotate_left
  · rintro _ w ⟨rfl, k1, k2⟩; exact ⟨rfl, k1, k2⟩
  have hI := Bun.start hF hc
  clear hc
  rw [m_strings_CutPrefix] at h
  refine c_seq ?_
  refine c_region rfl ?_
  refine s_q rfl rfl (y_assign rfl ev_const) ?_
  refine s_q rfl rfl (y_assign rfl ev_const) ?_
  refine s_nil ?_
  refine k_next (e := [(0, (str s1)), (1, (str prefix1))]) ⟨rfl, rfl, trivial⟩ ?_
  refine c_seq ?_
  refine c_region rfl ?_
  refine s_q rfl rfl (y_move rfl (ev_tmp rfl rfl)) ?_
  refine s_q rfl rfl (y_move rfl (ev_tmp rfl rfl)) ?_
  obtain ⟨r1, hx1, h⟩ := bnd_some h
  refine s_call rfl rfl (r_callF (vs := [(str s1), (str prefix1)]) rfl ok_93 ⟨(ev_tmp rfl rfl), ⟨(ev_tmp rfl rfl), trivial⟩⟩) (Calls.mono (c_internal_stringslite_CutPrefix (Dj F noM) w0 hI.lt s1 prefix1 trivial r1 hx1) ?_)
  rintro _ w1 ⟨rfl, hx2, hl1⟩
  refine ⟨_, rfl, ?_⟩
  replace hI := (hI.ext hx2)
  refine s_q rfl rfl (y_extract rfl (ev_tmp rfl rfl) rfl) ?_
  refine s_q rfl rfl (y_extract rfl (ev_tmp rfl rfl) rfl) ?_
  refine s_q rfl rfl (y_assign rfl (ev_tmp rfl rfl)) ?_
  refine s_q rfl rfl (y_assign rfl (ev_tmp rfl rfl)) ?_
  refine s_nil ?_
  refine k_next (e := [(4, (str r1.1)), (5, (Value.bool r1.2))]) ⟨rfl, rfl, trivial⟩ ?_
  refine c_ret ?_
  obtain rfl := some_inj h
  exact q_ret (vs := [(str r1.1), (Value.bool r1.2)]) Tryz.results58 ⟨ev_tmp rfl rfl, ⟨ev_tmp rfl rfl, trivial⟩⟩ ⟨rfl, hI.ext0, hI.fin trivial⟩

set_option maxRecDepth 100000 in
set_option maxHeartbeats 4000000 in
theorem c_frac_decimal (F : NP) (w0 : World) (hF : ∀ k, F k → k < w0.heap.size) (s1 : List UInt8) (hc : AllCl [] F w0) (r : Bool)
    (h : m_frac_decimal s1 = some r) :
    Calls Tryz.prog 59 #[(str s1)] w0 fun e w => e = .returned (Value.bool r) ∧ Ext w0 w ∧ AllCl [] F w := by
  refine ofEnter (R := fun v w => v = (Value.bool r) ∧ Ext w0 w ∧ AllCl [] F w) (enter (l := [(str s1)]) Tryz.func59 rfl Tryz.ntmps59 rfl ?_) ?_
  rotate_left
  · rintro _ w ⟨rfl, k1, k2⟩; exact ⟨rfl, k1, k2⟩
  have hI := Bun.start hF hc
  clear hc
  rw [m_frac_decimal] at h
  refine c_seq ?_
  refine c_region rfl ?_
  refine s_q rfl rfl (y_assign rfl ev_const) ?_
  refine s_nil ?_
  refine k_next (e := [(0, (str s1))]) ⟨rfl, trivial⟩ ?_
  refine c_join (α := Unit) (fun _ => ⟨31, []⟩) (fun _ => [(0, (str s1))]) (fun _ => fun w => ∃ C, Bun noM F w0 C w [] [] ∧ m_frac_decimal_j1 s1 = some r) ?_ ?_
  · clear h hI; rintro _ w1 ⟨c1, hI, h⟩
    try dsimp only at hI h
    rw [m_frac_decimal_j1] at h
    refine c_sub (e := [(0, (str s1))]) ⟨rfl, trivial⟩ ?_
    refine c_seq ?_
    refine c_region rfl ?_
    refine s_q rfl rfl (y_move rfl (ev_tmp rfl rfl)) ?_
    refine s_q rfl rfl (y_eqs rfl (ev_tmp rfl rfl) ev_const) ?_
    refine s_q rfl rfl (y_move rfl (ev_tmp rfl rfl)) ?_
    refine s_gval (g_false rfl rfl rfl rfl) rfl (fun hc => (y_move rfl (ev_tmp rfl rfl))) ?_
    refine s_gval (g_false rfl rfl rfl rfl) rfl (fun hc => (y_nes rfl (ev_gv (ev_tmp rfl rfl) hc) ev_const)) ?_
    refine s_gval (g_false rfl rfl rfl rfl) rfl (fun hc => (y_move rfl (ev_gv (ev_tmp rfl rfl) hc))) ?_
    refine s_gval (g_true2 rfl rfl rfl rfl) rfl (fun hc => (y_move rfl (ev_tmp rfl rfl))) ?_
    obtain ⟨b1, hx1, h⟩ := bnd_some h
    replace hx1 := gd_some hx1
    refine s_gval (g_true2 rfl rfl rfl rfl) rfl (fun hc => (y_satl rfl Tryz.underlying9 (ev_gv (ev_tmp rfl rfl) hc) ev_const (hx1 hc))) ?_
    refine s_gval (g_true2 rfl rfl rfl rfl) rfl (fun hc => (y_neq rfl (ev_gv (ev_tmp rfl rfl) hc) ev_const)) ?_
    refine s_gval (g_false rfl rfl rfl rfl) rfl (fun hc => (y_and2 rfl hc (ev_tmp rfl rfl) (ev_tmp rfl rfl))) ?_
    refine s_q rfl rfl (y_or rfl (ev_tmp rfl rfl) (ev_tmp rfl rfl)) ?_
    refine s_q rfl rfl (y_assign rfl (ev_tmp rfl rfl)) ?_
    refine s_nil ?_
    refine k_next (e := [(2, (Value.bool ((decide (s1 = ([48] : List UInt8))) || ((!decide (s1 = ([] : List UInt8))) && (!decide (b1 = 48))))))]) ⟨rfl, trivial⟩ ?_
    refine c_ret ?_
    obtain rfl := some_inj h
    exact q_ret (vs := [(Value.bool ((decide (s1 = ([48] : List UInt8))) || ((!decide (s1 = ([] : List UInt8))) && (!decide (b1 = 48)))))]) Tryz.results59 ⟨ev_tmp rfl rfl, trivial⟩ ⟨rfl, hI.ext0, hI.fin trivial⟩
  · skip
    refine c_seq ?_
    refine c_region rfl ?_
    refine s_q rfl rfl (y_assign rfl ev_const) ?_
    refine s_nil ?_
    refine k_next (e := [(0, (str s1)), (3, (Value.int .i64 0))]) ⟨rfl, rfl, trivial⟩ ?_
    refine c_block ?_
    refine c_loop (α := Nat × Int) (fun x => fun w => ∃ C, Bun noM F w0 C w [] [] ∧ m_frac_decimal_l1 s1 (x.1) (x.2) = some r) (fun x _ => x.1) (fun x => [(0, (str s1)), (3, (Value.int .i64 (x.2)))]) (fu, 0) ⟨_, hI.arr .n trivial, h⟩ ⟨rfl, rfl, trivial⟩ ?_
    clear h hI; rintro ⟨fuel1, i1⟩ w2 ⟨c2, hI, h⟩
    dsimp only at hI h
    rcases fuel1 with _ | fuel1
    · rw [m_frac_decimal_l1] at h; cases h
    rw [m_frac_decimal_l1] at h
    refine c_sub (e := [(0, (str s1)), (3, (Value.int .i64 i1))]) ⟨rfl, rfl, trivial⟩ ?_
    refine c_seq ?_
    refine c_seq ?_
    refine c_region rfl ?_
    refine s_q rfl rfl (y_move rfl (ev_tmp rfl rfl)) ?_
    refine s_q rfl rfl (y_move rfl (ev_tmp rfl rfl)) ?_
    refine s_q rfl rfl (y_lens rfl Tryz.underlying9 (ev_tmp rfl rfl)) ?_
    refine s_q rfl rfl (y_lss rfl (ev_tmp rfl rfl) (ev_tmp rfl rfl)) ?_
    refine s_nil ?_
    refine k_next (e := [(0, (str s1)), (3, (Value.int .i64 i1)), (7, (Value.bool (decide (i1 < (s1.length : Int)))))]) ⟨rfl, rfl, rfl, trivial⟩ ?_
    refine c_cond (b := decide (i1 < (s1.length : Int))) (ev_tmp rfl rfl) (fun hb => ?_) (fun hb => ?_)
    · replace h := ite_t hb h
      refine c_skip ?_
      refine k_next (e := [(0, (str s1)), (3, (Value.int .i64 i1))]) ⟨rfl, rfl, trivial⟩ ?_
      refine c_seq ?_
      refine c_block ?_
      refine c_seq ?_
      refine c_region rfl ?_
      refine s_q rfl rfl (y_move rfl (ev_tmp rfl rfl)) ?_
      refine s_q rfl rfl (y_move rfl (ev_tmp rfl rfl)) ?_
      obtain ⟨b2, hx2, h⟩ := bnd_some h
      refine s_q rfl rfl (y_satl rfl Tryz.underlying9 (ev_tmp rfl rfl) (ev_tmp rfl rfl) hx2) ?_
      refine s_q rfl rfl (y_lss rfl (ev_tmp rfl rfl) ev_const) ?_
      refine s_q rfl rfl (y_move rfl (ev_tmp rfl rfl)) ?_
      refine s_gval (g_false rfl rfl rfl rfl) rfl (fun hc => (y_move rfl (ev_tmp rfl rfl))) ?_
      refine s_gval (g_false rfl rfl rfl rfl) rfl (fun hc => (y_move rfl (ev_tmp rfl rfl))) ?_
      obtain ⟨b3, hx3, h⟩ := bnd_some h
      replace hx3 := gd_some hx3
      refine s_gval (g_false rfl rfl rfl rfl) rfl (fun hc => (y_satl rfl Tryz.underlying9 (ev_gv (ev_tmp rfl rfl) hc) (ev_gv (ev_tmp rfl rfl) hc) (hx3 hc))) ?_
      refine s_gval (g_false rfl rfl rfl rfl) rfl (fun hc => (y_gtr rfl (ev_gv (ev_tmp rfl rfl) hc) ev_const)) ?_
      refine s_q rfl rfl (y_or rfl (ev_tmp rfl rfl) (ev_tmp rfl rfl)) ?_
      refine s_nil ?_
      refine k_next (e := [(0, (str s1)), (3, (Value.int .i64 i1)), (19, (Value.bool ((decide (b2 < 48)) || (decide (57 < b3)))))]) ⟨rfl, rfl, rfl, trivial⟩ ?_
      refine c_cond (b := (decide (b2 < 48)) || (decide (57 < b3))) (ev_tmp rfl rfl) (fun hb => ?_) (fun hb => ?_)
      · replace h := ite_t hb h
        refine c_seq ?_
        refine c_region rfl ?_
        refine s_q rfl rfl (y_assign rfl ev_const) ?_
        refine s_nil ?_
        refine k_next (e := [(2, (Value.bool false))]) ⟨rfl, trivial⟩ ?_
        refine c_ret ?_
        obtain rfl := some_inj h
        exact q_ret (vs := [(Value.bool false)]) Tryz.results59 ⟨ev_tmp rfl rfl, trivial⟩ ⟨rfl, hI.ext0, hI.fin trivial⟩
      · replace h := ite_f hb h
        refine c_skip ?_
        refine k_next (e := [(0, (str s1)), (3, (Value.int .i64 i1))]) ⟨rfl, rfl, trivial⟩ ?_
        refine c_region rfl ?_
        refine s_q rfl rfl (y_move rfl (ev_tmp rfl rfl)) ?_
        refine s_q rfl rfl (y_add rfl (ev_tmp rfl rfl) ev_const) ?_
        refine s_q rfl rfl (y_assign rfl (ev_tmp rfl rfl)) ?_
        refine s_nil ?_
        exact k_loop (fuel1, wi64 (i1 + 1)) ⟨rfl, rfl, trivial⟩ ⟨_, hI.arr .n trivial, h⟩ (Nat.lt_succ_self _)
    · replace h := ite_f hb h
      refine c_exit ?_
      refine k_in ?_
      exact k_join () ⟨rfl, trivial⟩ ⟨_, hI.arr .n trivial, h⟩ rfl

set_option maxRecDepth 100000 in
set_option maxHeartbeats 4000000 in
theorem c_frac_bounded (F : NP) (w0 : World) (hF : ∀ k, F k → k < w0.heap.size) (s1 : List UInt8) (hc : AllCl [] F w0) (r : Int × Bool)
    (h : m_frac_bounded s1 = some r) :
    Calls Tryz.prog 60 #[(str s1)] w0 fun e w => e = .returned (Value.tuple #[(Value.int .i64 r.1), (Value.bool r.2)]) ∧ Ext w0 w ∧ AllCl [] F w := by
  refine ofEnter (R := fun v w => v = (Value.tuple #[(Value.int .i64 r.1), (Value.bool r.2)]) ∧ Ext w0 w ∧ AllCl [] F w) (enter (l := [(str s1)]) Tryz.func60 rfl Tryz.ntmps60 rfl ?_) ?_
  rotate_left
  · rintro _ w ⟨rfl, k1, k2⟩; exact ⟨rfl, k1, k2⟩
  have hI := Bun.start hF hc
  clear hc
  rw [m_frac_bounded] at h
  refine c_seq ?_
  refine c_region rfl ?_
  refine s_q rfl rfl (y_assign rfl ev_const) ?_
  refine s_q rfl rfl (y_assign rfl ev_const) ?_
  refine s_nil ?_
  refine k_next (e := [(0, (str s1))]) ⟨rfl, trivial⟩ ?_
  refine c_seq ?_
  refine c_seq ?_
  refine c_region rfl ?_
  refine s_q rfl rfl (y_move rfl (ev_tmp rfl rfl)) ?_
  refine s_q rfl rfl (y_lens rfl Tryz.underlying9 (ev_tmp rfl rfl)) ?_
  refine s_q rfl rfl (y_gtr rfl (ev_tmp rfl rfl) ev_const) ?_
  refine s_nil ?_
  refine k_next (e := [(0, (str s1)), (8, (Value.bool (decide (10 < (s1.length : Int)))))]) ⟨rfl, rfl, trivial⟩ ?_
  refine c_cond (b := decide (10 < (s1.length : Int))) (ev_tmp rfl rfl) (fun hb => ?_) (fun hb => ?_)
  · replace h := ite_t hb h
    refine c_seq ?_
    refine c_region rfl ?_
    refine s_q rfl rfl (y_assign rfl ev_const) ?_
    refine s_q rfl rfl (y_assign rfl ev_const) ?_
    refine s_nil ?_
    refine k_next (e := [(2, (Value.int .i64 0)), (3, (Value.bool false))]) ⟨rfl, rfl, trivial⟩ ?_
    refine c_ret ?_
    obtain rfl := some_inj h
    exact q_ret (vs := [(Value.int .i64 0), (Value.bool false)]) Tryz.results60 ⟨ev_tmp rfl rfl, ⟨ev_tmp rfl rfl, trivial⟩⟩ ⟨rfl, hI.ext0, hI.fin trivial⟩
  · replace h := ite_f hb h
    refine c_skip ?_
    refine k_next (e := [(0, (str s1))]) ⟨rfl, trivial⟩ ?_
    refine c_seq ?_
    refine c_region rfl ?_
    refine s_q rfl rfl (y_move rfl (ev_tmp rfl rfl)) ?_
    obtain ⟨r1, hx1, h⟩ := bnd_some h
    refine s_call rfl rfl (r_callF (vs := [(str s1), (Value.int .i64 10), (Value.int .i64 64)]) rfl ok_94 ⟨(ev_tmp rfl rfl), ⟨ev_const, ⟨ev_const, trivial⟩⟩⟩) (Calls.mono (c_strconv_ParseInt (Dj F noM) w0 hI.lt s1 10 64 trivial r1 hx1) ?_)
    rintro _ w1 ⟨v1, rfl, hx2, hl1⟩
    refine ⟨_, rfl, ?_⟩
    replace hI := (hI.ext hx2)
    refine s_q rfl rfl (y_move rfl (ev_tmp rfl rfl)) ?_
    refine s_q rfl rfl (y_extract rfl (ev_tmp rfl rfl) rfl) ?_
    refine s_q rfl rfl (y_extract rfl (ev_tmp rfl rfl) rfl) ?_
    refine s_q rfl rfl (y_assign rfl (ev_tmp rfl rfl)) ?_
    refine s_q rfl rfl (y_assign rfl (ev_tmp rfl rfl)) ?_
    refine s_nil ?_
    refine k_next (e := [(4, (Value.int .i64 r1.1))]) ⟨rfl, trivial⟩ ?_
    refine c_seq ?_
    refine c_region rfl ?_
    refine s_q rfl rfl (y_move rfl (ev_tmp rfl rfl)) ?_
    refine s_q rfl rfl (y_move rfl (ev_tmp rfl rfl)) ?_
    refine s_q rfl rfl (y_leq rfl (ev_tmp rfl rfl) ev_const) ?_
    refine s_q rfl rfl (y_assign rfl (ev_tmp rfl rfl)) ?_
    refine s_q rfl rfl (y_assign rfl (ev_tmp rfl rfl)) ?_
    refine s_nil ?_
    refine k_next (e := [(2, (Value.int .i64 r1.1)), (3, (Value.bool (decide (r1.1 ≤ 2147483647))))]) ⟨rfl, rfl, trivial⟩ ?_
    refine c_ret ?_
    obtain rfl := some_inj h
    exact q_ret (vs := [(Value.int .i64 r1.1), (Value.bool (decide (r1.1 ≤ 2147483647)))]) Tryz.results60 ⟨ev_tmp rfl rfl, ⟨ev_tmp rfl rfl, trivial⟩⟩ ⟨rfl, hI.ext0, hI.fin trivial⟩

end Go.Proofs.YtpfapgamjlhebaaGreatDoor
