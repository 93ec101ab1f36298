/- Each call returns what its plain function gives: printed by a program of my own; Lean checks it. -/
import Derived.Test.YtkmenmoiagkegaaDoorCtc
namespace Go.Proofs.YtkmenmoiagkegaaDoor
open Go Go.RowKit Go.Vc
set_option linter.unusedVariables false
set_option linter.unusedSimpArgs false

set_option maxRecDepth 100000 in
set_option maxHeartbeats 4000000 in
theorem c_ref01_Sub (F : NP) (w0 : World) (hF : ∀ k, F k → k < w0.heap.size) (a1 : GVal) (b1 : GVal) (hc : AllCl [] F w0) (r : GVal × Int)
    (h : m_ref01_Sub a1 b1 = some r) :
    Calls Tryd.prog 30 #[(Value.agg #[(Value.int .i64 a1.N), (Value.int .i64 a1.D)]), (Value.agg #[(Value.int .i64 b1.N), (Value.int .i64 b1.D)])] w0 fun e w => e = .returned (Value.tuple #[(Value.agg #[(Value.int .i64 r.1.N), (Value.int .i64 r.1.D)]), (Value.int .i64 r.2)]) ∧ Ext w0 w ∧ AllCl [] F w := by
  refine ofEnter (R := fun v w => v = (Value.tuple #[(Value.agg #[(Value.int .i64 r.1.N), (Value.int .i64 r.1.D)]), (Value.int .i64 r.2)]) ∧ Ext w0 w ∧ AllCl [] F w) (enter (l := [(Value.agg #[(Value.int .i64 a1.N), (Value.int .i64 a1.D)]), (Value.agg #[(Value.int .i64 b1.N), (Value.int .i64 b1.D)])]) Tryd.func30 rfl Tryd.ntmps30 rfl ?_) ?_
  rotate_left
  · rintro _ w ⟨rfl, k1, k2⟩; exact ⟨rfl, k1, k2⟩
  have hI := Bun.start hF hc
  clear hc
  rw [m_ref01_Sub] at h
  refine c_seq ?_
  refine c_region rfl ?_
  refine l_box (v := (Value.agg #[(Value.int .i64 a1.N), (Value.int .i64 a1.D)])) (cs := #[(Value.int .i64 a1.N), (Value.int .i64 a1.D)]) hI rfl rfl rfl (ev_tmp rfl rfl) rfl ?_
  clear hI; intro b2 c1 w1 hI
  obtain ⟨c2, hI⟩ := hI.relBox .z
  refine l_box (v := (Value.agg #[(Value.int .i64 b1.N), (Value.int .i64 b1.D)])) (cs := #[(Value.int .i64 b1.N), (Value.int .i64 b1.D)]) hI rfl rfl rfl (ev_tmp rfl rfl) rfl ?_
  clear hI; intro b3 c3 w2 hI
  obtain ⟨c4, hI⟩ := hI.relBox .z
  refine l_alloc (cs := #[(Value.int .i64 0), (Value.int .i64 0)]) hI rfl rfl rfl zero_23 rfl ?_
  clear hI; intro b4 c5 w3 hI
  refine s_q rfl rfl (y_assign rfl ev_const) ?_
  refine s_nil ?_
  refine k_next (e := [(2, (Value.pointer (some ⟨b2, 0, none⟩))), (3, (Value.pointer (some ⟨b3, 0, none⟩))), (4, (Value.pointer (some ⟨b4, 0, none⟩)))]) ⟨rfl, rfl, rfl, trivial⟩ ?_
  refine c_seq ?_
  refine c_seq ?_
  refine c_region rfl ?_
  refine s_q rfl rfl (y_loadN (l := [(Value.int .i64 a1.N), (Value.int .i64 a1.D)]) rfl (ev_tmp rfl rfl) Tryd.underlying23 rfl size_23 (hI.kblk (l := [(Value.int .i64 a1.N), (Value.int .i64 a1.D)]) (.s .z) rfl).1) ?_
  obtain ⟨r1, hx1, h⟩ := bnd_some h
  refine s_call rfl rfl (r_callF (vs := [(Value.agg #[(Value.int .i64 a1.N), (Value.int .i64 a1.D)])]) rfl ok_15 ⟨(ev_tmp rfl rfl), trivial⟩) (Calls.mono (c_ref01_Valid (Dj F c5) w3 hI.lt a1 trivial r1 hx1) ?_)
  rintro _ w4 ⟨rfl, hx2, hl1⟩
  refine ⟨_, rfl, ?_⟩
  replace hI := (hI.ext hx2)
  refine s_q rfl rfl (y_not rfl (ev_tmp rfl rfl)) ?_
  refine s_q rfl rfl (y_move rfl (ev_tmp rfl rfl)) ?_
  refine s_gval (g_false rfl rfl rfl rfl) rfl (fun hc => (y_loadN (l := [(Value.int .i64 b1.N), (Value.int .i64 b1.D)]) rfl (ev_tmp rfl rfl) Tryd.underlying23 rfl size_23 (hI.kblk (l := [(Value.int .i64 b1.N), (Value.int .i64 b1.D)]) .z rfl).1)) ?_
  obtain ⟨r2, hx3, h⟩ := bnd_some h
  replace hx3 := gd_some hx3
  refine s_gcallU (v := (Value.bool r2)) (g_false rfl rfl rfl rfl) rfl (fun hc => (r_callF (vs := [(Value.agg #[(Value.int .i64 b1.N), (Value.int .i64 b1.D)])]) rfl ok_15 ⟨(ev_gv (ev_tmp rfl rfl) hc), trivial⟩)) (fun hc => (c_ref01_Valid (Dj F c5) w4 hI.lt b1 trivial r2 (hx3 hc)).mono fun _ _ k => ⟨k.1, k.2.1⟩) ?_
  intro w5 hx4; replace hI := hI.ext hx4
  refine s_gval (g_false rfl rfl rfl rfl) rfl (fun hc => (y_not rfl (ev_gv (ev_tmp rfl rfl) hc))) ?_
  refine s_q rfl rfl (y_or rfl (ev_tmp rfl rfl) (ev_tmp rfl rfl)) ?_
  refine s_nil ?_
  refine k_next (e := [(2, (Value.pointer (some ⟨b2, 0, none⟩))), (3, (Value.pointer (some ⟨b3, 0, none⟩))), (4, (Value.pointer (some ⟨b4, 0, none⟩))), (13, (Value.bool ((!r1) || (!r2))))]) ⟨rfl, rfl, rfl, rfl, trivial⟩ ?_
  refine c_cond (b := (!r1) || (!r2)) (ev_tmp rfl rfl) (fun hb => ?_) (fun hb => ?_)
  · replace h := ite_t hb h
    refine c_seq ?_
    refine c_region rfl ?_
    refine s_q rfl rfl (y_build (vs := []) (cs := #[(Value.int .i64 0), (Value.int .i64 0)]) rfl trivial (by kernel_rfl)) ?_
    refine l_store (new := [(Value.int .i64 0), (Value.int .i64 0)]) (cs' := #[(Value.int .i64 0), (Value.int .i64 0)]) hI .z rfl rfl rfl (ev_tmp rfl rfl) (ev_tmp rfl rfl) rfl size_23 rfl rfl rfl ?_
    clear hI; intro c6 w6 hI
    refine s_q rfl rfl (y_assign rfl ev_const) ?_
    refine s_nil ?_
    refine k_next (e := [(4, (Value.pointer (some ⟨b4, 0, none⟩))), (5, (Value.int .i64 1))]) ⟨rfl, rfl, trivial⟩ ?_
    refine c_ret ?_
    obtain rfl := some_inj h
    exact q_ret (vs := [(Value.agg #[(Value.int .i64 0), (Value.int .i64 0)]), (Value.int .i64 1)]) Tryd.results30 ⟨⟨_, ev_tmp rfl rfl, load_agg (l := [(Value.int .i64 0), (Value.int .i64 0)]) Tryd.underlying23 rfl size_23 (CellsAt.of_blk (hI.blk .z) rfl)⟩, ⟨ev_tmp rfl rfl, trivial⟩⟩ ⟨rfl, hI.ext0, hI.fin trivial⟩
  · replace h := ite_f hb h
    refine c_skip ?_
    refine k_next (e := [(2, (Value.pointer (some ⟨b2, 0, none⟩))), (3, (Value.pointer (some ⟨b3, 0, none⟩))), (4, (Value.pointer (some ⟨b4, 0, none⟩)))]) ⟨rfl, rfl, rfl, trivial⟩ ?_
    refine c_seq ?_
    refine c_region rfl ?_
    refine s_q rfl rfl (y_fieldAddr rfl (ev_tmp rfl rfl) Tryd.underlying23 rfl size_2 rfl) ?_
    refine s_q rfl rfl (y_load1 (v := (Value.int .i64 a1.N)) rfl (ev_tmp rfl rfl) Tryd.underlying2 rfl (hI.kblk (l := [(Value.int .i64 a1.N)]) (.s .z) rfl).1) ?_
    refine s_q rfl rfl (y_fieldAddr rfl (ev_tmp rfl rfl) Tryd.underlying23 rfl size_2 rfl) ?_
    refine s_q rfl rfl (y_load1 (v := (Value.int .i64 b1.D)) rfl (ev_tmp rfl rfl) Tryd.underlying2 rfl (hI.kblk (l := [(Value.int .i64 b1.D)]) .z rfl).1) ?_
    refine s_q rfl rfl (y_mul rfl (ev_tmp rfl rfl) (ev_tmp rfl rfl)) ?_
    refine s_q rfl rfl (y_fieldAddr rfl (ev_tmp rfl rfl) Tryd.underlying23 rfl size_2 rfl) ?_
    refine s_q rfl rfl (y_load1 (v := (Value.int .i64 b1.N)) rfl (ev_tmp rfl rfl) Tryd.underlying2 rfl (hI.kblk (l := [(Value.int .i64 b1.N)]) .z rfl).1) ?_
    refine s_q rfl rfl (y_fieldAddr rfl (ev_tmp rfl rfl) Tryd.underlying23 rfl size_2 rfl) ?_
    refine s_q rfl rfl (y_load1 (v := (Value.int .i64 a1.D)) rfl (ev_tmp rfl rfl) Tryd.underlying2 rfl (hI.kblk (l := [(Value.int .i64 a1.D)]) (.s .z) rfl).1) ?_
    refine s_q rfl rfl (y_mul rfl (ev_tmp rfl rfl) (ev_tmp rfl rfl)) ?_
    refine s_q rfl rfl (y_sub rfl (ev_tmp rfl rfl) (ev_tmp rfl rfl)) ?_
    refine s_q rfl rfl (y_fieldAddr rfl (ev_tmp rfl rfl) Tryd.underlying23 rfl size_2 rfl) ?_
    refine s_q rfl rfl (y_load1 (v := (Value.int .i64 a1.D)) rfl (ev_tmp rfl rfl) Tryd.underlying2 rfl (hI.kblk (l := [(Value.int .i64 a1.D)]) (.s .z) rfl).1) ?_
    refine s_q rfl rfl (y_fieldAddr rfl (ev_tmp rfl rfl) Tryd.underlying23 rfl size_2 rfl) ?_
    refine s_q rfl rfl (y_load1 (v := (Value.int .i64 b1.D)) rfl (ev_tmp rfl rfl) Tryd.underlying2 rfl (hI.kblk (l := [(Value.int .i64 b1.D)]) .z rfl).1) ?_
    refine s_q rfl rfl (y_mul rfl (ev_tmp rfl rfl) (ev_tmp rfl rfl)) ?_
    obtain ⟨r3, hx5, h⟩ := bnd_some h
    refine s_call rfl rfl (r_callF (vs := [(Value.int .i64 (wi64 ((wi64 (a1.N * b1.D)) - (wi64 (b1.N * a1.D))))), (Value.int .i64 (wi64 (a1.D * b1.D)))]) rfl ok_13 ⟨(ev_tmp rfl rfl), ⟨(ev_tmp rfl rfl), trivial⟩⟩) (Calls.mono (c_ref01_New (Dj F c5) w5 hI.lt (wi64 ((wi64 (a1.N * b1.D)) - (wi64 (b1.N * a1.D)))) (wi64 (a1.D * b1.D)) trivial r3 hx5) ?_)
    rintro _ w7 ⟨rfl, hx6, hl3⟩
    refine ⟨_, rfl, ?_⟩
    replace hI := (hI.ext hx6)
    refine s_q rfl rfl (y_extract rfl (ev_tmp rfl rfl) rfl) ?_
    refine s_q rfl rfl (y_extract rfl (ev_tmp rfl rfl) rfl) ?_
    refine l_store (new := [(Value.int .i64 r3.1.N), (Value.int .i64 r3.1.D)]) (cs' := #[(Value.int .i64 r3.1.N), (Value.int .i64 r3.1.D)]) hI .z rfl rfl rfl (ev_tmp rfl rfl) (ev_tmp rfl rfl) rfl size_23 rfl rfl rfl ?_
    clear hI; intro c7 w8 hI
    refine s_q rfl rfl (y_assign rfl (ev_tmp rfl rfl)) ?_
    refine s_nil ?_
    refine k_next (e := [(4, (Value.pointer (some ⟨b4, 0, none⟩))), (5, (Value.int .i64 r3.2))]) ⟨rfl, rfl, trivial⟩ ?_
    refine c_ret ?_
    obtain rfl := some_inj h
    exact q_ret (vs := [(Value.agg #[(Value.int .i64 r3.1.N), (Value.int .i64 r3.1.D)]), (Value.int .i64 r3.2)]) Tryd.results30 ⟨⟨_, ev_tmp rfl rfl, load_agg (l := [(Value.int .i64 r3.1.N), (Value.int .i64 r3.1.D)]) Tryd.underlying23 rfl size_23 (CellsAt.of_blk (hI.blk .z) rfl)⟩, ⟨ev_tmp rfl rfl, trivial⟩⟩ ⟨rfl, hI.ext0, hI.fin trivial⟩

set_option maxRecDepth 100000 in
set_option maxHeartbeats 4000000 in
theorem c_ref01_Mul (F : NP) (w0 : World) (hF : ∀ k, F k → k < w0.heap.size) (a1 : GVal) (b1 : GVal) (hc : AllCl [] F w0) (r : GVal × Int)
    (h : m_ref01_Mul a1 b1 = some r) :
    Calls Tryd.prog 31 #[(Value.agg #[(Value.int .i64 a1.N), (Value.int .i64 a1.D)]), (Value.agg #[(Value.int .i64 b1.N), (Value.int .i64 b1.D)])] w0 fun e w => e = .returned (Value.tuple #[(Value.agg #[(Value.int .i64 r.1.N), (Value.int .i64 r.1.D)]), (Value.int .i64 r.2)]) ∧ Ext w0 w ∧ AllCl [] F w := by
  refine ofEnter (R := fun v w => v = (Value.tuple #[(Value.agg #[(Value.int .i64 r.1.N), (Value.int .i64 r.1.D)]), (Value.int .i64 r.2)]) ∧ Ext w0 w ∧ AllCl [] F w) (enter (l := [(Value.agg #[(Value.int .i64 a1.N), (Value.int .i64 a1.D)]), (Value.agg #[(Value.int .i64 b1.N), (Value.int .i64 b1.D)])]) Tryd.func31 rfl Tryd.ntmps31 rfl ?_) ?_
  rotate_left
  · rintro _ w ⟨rfl, k1, k2⟩; exact ⟨rfl, k1, k2⟩
  have hI := Bun.start hF hc
  clear hc
  rw [m_ref01_Mul] at h
  refine c_seq ?_
  refine c_region rfl ?_
  refine l_box (v := (Value.agg #[(Value.int .i64 a1.N), (Value.int .i64 a1.D)])) (cs := #[(Value.int .i64 a1.N), (Value.int .i64 a1.D)]) hI rfl rfl rfl (ev_tmp rfl rfl) rfl ?_
  clear hI; intro b2 c1 w1 hI
  obtain ⟨c2, hI⟩ := hI.relBox .z
  refine l_box (v := (Value.agg #[(Value.int .i64 b1.N), (Value.int .i64 b1.D)])) (cs := #[(Value.int .i64 b1.N), (Value.int .i64 b1.D)]) hI rfl rfl rfl (ev_tmp rfl rfl) rfl ?_
  clear hI; intro b3 c3 w2 hI
  obtain ⟨c4, hI⟩ := hI.relBox .z
  refine l_alloc (cs := #[(Value.int .i64 0), (Value.int .i64 0)]) hI rfl rfl rfl zero_23 rfl ?_
  clear hI; intro b4 c5 w3 hI
  refine s_q rfl rfl (y_assign rfl ev_const) ?_
  refine s_nil ?_
  refine k_next (e := [(2, (Value.pointer (some ⟨b2, 0, none⟩))), (3, (Value.pointer (some ⟨b3, 0, none⟩))), (4, (Value.pointer (some ⟨b4, 0, none⟩)))]) ⟨rfl, rfl, rfl, trivial⟩ ?_
  refine c_seq ?_
  refine c_seq ?_
  refine c_region rfl ?_
  refine s_q rfl rfl (y_loadN (l := [(Value.int .i64 a1.N), (Value.int .i64 a1.D)]) rfl (ev_tmp rfl rfl) Tryd.underlying23 rfl size_23 (hI.kblk (l := [(Value.int .i64 a1.N), (Value.int .i64 a1.D)]) (.s .z) rfl).1) ?_
  obtain ⟨r1, hx1, h⟩ := bnd_some h
  refine s_call rfl rfl (r_callF (vs := [(Value.agg #[(Value.int .i64 a1.N), (Value.int .i64 a1.D)])]) rfl ok_15 ⟨(ev_tmp rfl rfl), trivial⟩) (Calls.mono (c_ref01_Valid (Dj F c5) w3 hI.lt a1 trivial r1 hx1) ?_)
  rintro _ w4 ⟨rfl, hx2, hl1⟩
  refine ⟨_, rfl, ?_⟩
  replace hI := (hI.ext hx2)
  refine s_q rfl rfl (y_not rfl (ev_tmp rfl rfl)) ?_
  refine s_q rfl rfl (y_move rfl (ev_tmp rfl rfl)) ?_
  refine s_gval (g_false rfl rfl rfl rfl) rfl (fun hc => (y_loadN (l := [(Value.int .i64 b1.N), (Value.int .i64 b1.D)]) rfl (ev_tmp rfl rfl) Tryd.underlying23 rfl size_23 (hI.kblk (l := [(Value.int .i64 b1.N), (Value.int .i64 b1.D)]) .z rfl).1)) ?_
  obtain ⟨r2, hx3, h⟩ := bnd_some h
  replace hx3 := gd_some hx3
  refine s_gcallU (v := (Value.bool r2)) (g_false rfl rfl rfl rfl) rfl (fun hc => (r_callF (vs := [(Value.agg #[(Value.int .i64 b1.N), (Value.int .i64 b1.D)])]) rfl ok_15 ⟨(ev_gv (ev_tmp rfl rfl) hc), trivial⟩)) (fun hc => (c_ref01_Valid (Dj F c5) w4 hI.lt b1 trivial r2 (hx3 hc)).mono fun _ _ k => ⟨k.1, k.2.1⟩) ?_
  intro w5 hx4; replace hI := hI.ext hx4
  refine s_gval (g_false rfl rfl rfl rfl) rfl (fun hc => (y_not rfl (ev_gv (ev_tmp rfl rfl) hc))) ?_
  refine s_q rfl rfl (y_or rfl (ev_tmp rfl rfl) (ev_tmp rfl rfl)) ?_
  refine s_nil ?_
  refine k_next (e := [(2, (Value.pointer (some ⟨b2, 0, none⟩))), (3, (Value.pointer (some ⟨b3, 0, none⟩))), (4, (Value.pointer (some ⟨b4, 0, none⟩))), (13, (Value.bool ((!r1) || (!r2))))]) ⟨rfl, rfl, rfl, rfl, trivial⟩ ?_
  refine c_cond (b := (!r1) || (!r2)) (ev_tmp rfl rfl) (fun hb => ?_) (fun hb => ?_)
  · replace h := ite_t hb h
    refine c_seq ?_
    refine c_region rfl ?_
    refine s_q rfl rfl (y_build (vs := []) (cs := #[(Value.int .i64 0), (Value.int .i64 0)]) rfl trivial (by kernel_rfl)) ?_
    refine l_store (new := [(Value.int .i64 0), (Value.int .i64 0)]) (cs' := #[(Value.int .i64 0), (Value.int .i64 0)]) hI .z rfl rfl rfl (ev_tmp rfl rfl) (ev_tmp rfl rfl) rfl size_23 rfl rfl rfl ?_
    clear hI; intro c6 w6 hI
    refine s_q rfl rfl (y_assign rfl ev_const) ?_
    refine s_nil ?_
    refine k_next (e := [(4, (Value.pointer (some ⟨b4, 0, none⟩))), (5, (Value.int .i64 1))]) ⟨rfl, rfl, trivial⟩ ?_
    refine c_ret ?_
    obtain rfl := some_inj h
    exact q_ret (vs := [(Value.agg #[(Value.int .i64 0), (Value.int .i64 0)]), (Value.int .i64 1)]) Tryd.results31 ⟨⟨_, ev_tmp rfl rfl, load_agg (l := [(Value.int .i64 0), (Value.int .i64 0)]) Tryd.underlying23 rfl size_23 (CellsAt.of_blk (hI.blk .z) rfl)⟩, ⟨ev_tmp rfl rfl, trivial⟩⟩ ⟨rfl, hI.ext0, hI.fin trivial⟩
  · replace h := ite_f hb h
    refine c_skip ?_
    refine k_next (e := [(2, (Value.pointer (some ⟨b2, 0, none⟩))), (3, (Value.pointer (some ⟨b3, 0, none⟩))), (4, (Value.pointer (some ⟨b4, 0, none⟩)))]) ⟨rfl, rfl, rfl, trivial⟩ ?_
    refine c_seq ?_
    refine c_region rfl ?_
    refine s_q rfl rfl (y_fieldAddr rfl (ev_tmp rfl rfl) Tryd.underlying23 rfl size_2 rfl) ?_
    refine s_q rfl rfl (y_load1 (v := (Value.int .i64 a1.N)) rfl (ev_tmp rfl rfl) Tryd.underlying2 rfl (hI.kblk (l := [(Value.int .i64 a1.N)]) (.s .z) rfl).1) ?_
    refine s_q rfl rfl (y_fieldAddr rfl (ev_tmp rfl rfl) Tryd.underlying23 rfl size_2 rfl) ?_
    refine s_q rfl rfl (y_load1 (v := (Value.int .i64 b1.N)) rfl (ev_tmp rfl rfl) Tryd.underlying2 rfl (hI.kblk (l := [(Value.int .i64 b1.N)]) .z rfl).1) ?_
    refine s_q rfl rfl (y_mul rfl (ev_tmp rfl rfl) (ev_tmp rfl rfl)) ?_
    refine s_q rfl rfl (y_fieldAddr rfl (ev_tmp rfl rfl) Tryd.underlying23 rfl size_2 rfl) ?_
    refine s_q rfl rfl (y_load1 (v := (Value.int .i64 a1.D)) rfl (ev_tmp rfl rfl) Tryd.underlying2 rfl (hI.kblk (l := [(Value.int .i64 a1.D)]) (.s .z) rfl).1) ?_
    refine s_q rfl rfl (y_fieldAddr rfl (ev_tmp rfl rfl) Tryd.underlying23 rfl size_2 rfl) ?_
    refine s_q rfl rfl (y_load1 (v := (Value.int .i64 b1.D)) rfl (ev_tmp rfl rfl) Tryd.underlying2 rfl (hI.kblk (l := [(Value.int .i64 b1.D)]) .z rfl).1) ?_
    refine s_q rfl rfl (y_mul rfl (ev_tmp rfl rfl) (ev_tmp rfl rfl)) ?_
    obtain ⟨r3, hx5, h⟩ := bnd_some h
    refine s_call rfl rfl (r_callF (vs := [(Value.int .i64 (wi64 (a1.N * b1.N))), (Value.int .i64 (wi64 (a1.D * b1.D)))]) rfl ok_13 ⟨(ev_tmp rfl rfl), ⟨(ev_tmp rfl rfl), trivial⟩⟩) (Calls.mono (c_ref01_New (Dj F c5) w5 hI.lt (wi64 (a1.N * b1.N)) (wi64 (a1.D * b1.D)) trivial r3 hx5) ?_)
    rintro _ w7 ⟨rfl, hx6, hl3⟩
    refine ⟨_, rfl, ?_⟩
    replace hI := (hI.ext hx6)
    refine s_q rfl rfl (y_extract rfl (ev_tmp rfl rfl) rfl) ?_
    refine s_q rfl rfl (y_extract rfl (ev_tmp rfl rfl) rfl) ?_
    refine l_store (new := [(Value.int .i64 r3.1.N), (Value.int .i64 r3.1.D)]) (cs' := #[(Value.int .i64 r3.1.N), (Value.int .i64 r3.1.D)]) hI .z rfl rfl rfl (ev_tmp rfl rfl) (ev_tmp rfl rfl) rfl size_23 rfl rfl rfl ?_
    clear hI; intro c7 w8 hI
    refine s_q rfl rfl (y_assign rfl (ev_tmp rfl rfl)) ?_
    refine s_nil ?_
    refine k_next (e := [(4, (Value.pointer (some ⟨b4, 0, none⟩))), (5, (Value.int .i64 r3.2))]) ⟨rfl, rfl, trivial⟩ ?_
    refine c_ret ?_
    obtain rfl := some_inj h
    exact q_ret (vs := [(Value.agg #[(Value.int .i64 r3.1.N), (Value.int .i64 r3.1.D)]), (Value.int .i64 r3.2)]) Tryd.results31 ⟨⟨_, ev_tmp rfl rfl, load_agg (l := [(Value.int .i64 r3.1.N), (Value.int .i64 r3.1.D)]) Tryd.underlying23 rfl size_23 (CellsAt.of_blk (hI.blk .z) rfl)⟩, ⟨ev_tmp rfl rfl, trivial⟩⟩ ⟨rfl, hI.ext0, hI.fin trivial⟩

set_option maxRecDepth 100000 in
set_option maxHeartbeats 4000000 in
theorem c_frac_Div (F : NP) (w0 : World) (hF : ∀ k, F k → k < w0.heap.size) (a1 : GVal) (b1 : GVal) (hc : AllCl [] F w0) (r : GVal × Int)
    (h : m_frac_Div a1 b1 = some r) :
    Calls Tryd.prog 32 #[(Value.agg #[(Value.int .i64 a1.N), (Value.int .i64 a1.D)]), (Value.agg #[(Value.int .i64 b1.N), (Value.int .i64 b1.D)])] w0 fun e w => e = .returned (Value.tuple #[(Value.agg #[(Value.int .i64 r.1.N), (Value.int .i64 r.1.D)]), (Value.int .i64 r.2)]) ∧ Ext w0 w ∧ AllCl [] F w := by
  refine ofEnter (R := fun v w => v = (Value.tuple #[(Value.agg #[(Value.int .i64 r.1.N), (Value.int .i64 r.1.D)]), (Value.int .i64 r.2)]) ∧ Ext w0 w ∧ AllCl [] F w) (enter (l := [(Value.agg #[(Value.int .i64 a1.N), (Value.int .i64 a1.D)]), (Value.agg #[(Value.int .i64 b1.N), (Value.int .i64 b1.D)])]) Tryd.func32 rfl Tryd.ntmps32 rfl ?_) ?_
  rotate_left
  · rintro _ w ⟨rfl, k1, k2⟩; exact ⟨rfl, k1, k2⟩
  have hI := Bun.start hF hc
  clear hc
  rw [m_frac_Div] at h
  refine c_seq ?_
  refine c_region rfl ?_
  refine l_box (v := (Value.agg #[(Value.int .i64 a1.N), (Value.int .i64 a1.D)])) (cs := #[(Value.int .i64 a1.N), (Value.int .i64 a1.D)]) hI rfl rfl rfl (ev_tmp rfl rfl) rfl ?_
  clear hI; intro b2 c1 w1 hI
  obtain ⟨c2, hI⟩ := hI.relBox .z
  refine l_box (v := (Value.agg #[(Value.int .i64 b1.N), (Value.int .i64 b1.D)])) (cs := #[(Value.int .i64 b1.N), (Value.int .i64 b1.D)]) hI rfl rfl rfl (ev_tmp rfl rfl) rfl ?_
  clear hI; intro b3 c3 w2 hI
  obtain ⟨c4, hI⟩ := hI.relBox .z
  refine l_alloc (cs := #[(Value.int .i64 0), (Value.int .i64 0)]) hI rfl rfl rfl zero_23 rfl ?_
  clear hI; intro b4 c5 w3 hI
  refine s_q rfl rfl (y_assign rfl ev_const) ?_
  refine s_nil ?_
  refine k_next (e := [(2, (Value.pointer (some ⟨b2, 0, none⟩))), (3, (Value.pointer (some ⟨b3, 0, none⟩))), (4, (Value.pointer (some ⟨b4, 0, none⟩)))]) ⟨rfl, rfl, rfl, trivial⟩ ?_
  refine c_seq ?_
  refine c_seq ?_
  refine c_region rfl ?_
  refine s_q rfl rfl (y_loadN (l := [(Value.int .i64 a1.N), (Value.int .i64 a1.D)]) rfl (ev_tmp rfl rfl) Tryd.underlying23 rfl size_23 (hI.kblk (l := [(Value.int .i64 a1.N), (Value.int .i64 a1.D)]) (.s .z) rfl).1) ?_
  obtain ⟨r1, hx1, h⟩ := bnd_some h
  refine s_call rfl rfl (r_callF (vs := [(Value.agg #[(Value.int .i64 a1.N), (Value.int .i64 a1.D)])]) rfl ok_14 ⟨(ev_tmp rfl rfl), trivial⟩) (Calls.mono (c_frac_Valid (Dj F c5) w3 hI.lt a1 trivial r1 hx1) ?_)
  rintro _ w4 ⟨rfl, hx2, hl1⟩
  refine ⟨_, rfl, ?_⟩
  replace hI := (hI.ext hx2)
  refine s_q rfl rfl (y_not rfl (ev_tmp rfl rfl)) ?_
  refine s_q rfl rfl (y_move rfl (ev_tmp rfl rfl)) ?_
  refine s_gval (g_false rfl rfl rfl rfl) rfl (fun hc => (y_loadN (l := [(Value.int .i64 b1.N), (Value.int .i64 b1.D)]) rfl (ev_tmp rfl rfl) Tryd.underlying23 rfl size_23 (hI.kblk (l := [(Value.int .i64 b1.N), (Value.int .i64 b1.D)]) .z rfl).1)) ?_
  obtain ⟨r2, hx3, h⟩ := bnd_some h
  replace hx3 := gd_some hx3
  refine s_gcallU (v := (Value.bool r2)) (g_false rfl rfl rfl rfl) rfl (fun hc => (r_callF (vs := [(Value.agg #[(Value.int .i64 b1.N), (Value.int .i64 b1.D)])]) rfl ok_14 ⟨(ev_gv (ev_tmp rfl rfl) hc), trivial⟩)) (fun hc => (c_frac_Valid (Dj F c5) w4 hI.lt b1 trivial r2 (hx3 hc)).mono fun _ _ k => ⟨k.1, k.2.1⟩) ?_
  intro w5 hx4; replace hI := hI.ext hx4
  refine s_gval (g_false rfl rfl rfl rfl) rfl (fun hc => (y_not rfl (ev_gv (ev_tmp rfl rfl) hc))) ?_
  refine s_q rfl rfl (y_or rfl (ev_tmp rfl rfl) (ev_tmp rfl rfl)) ?_
  refine s_nil ?_
  refine k_next (e := [(2, (Value.pointer (some ⟨b2, 0, none⟩))), (3, (Value.pointer (some ⟨b3, 0, none⟩))), (4, (Value.pointer (some ⟨b4, 0, none⟩))), (13, (Value.bool ((!r1) || (!r2))))]) ⟨rfl, rfl, rfl, rfl, trivial⟩ ?_
  refine c_cond (b := (!r1) || (!r2)) (ev_tmp rfl rfl) (fun hb => ?_) (fun hb => ?_)
  · replace h := ite_t hb h
    refine c_seq ?_
    refine c_region rfl ?_
    refine s_q rfl rfl (y_build (vs := []) (cs := #[(Value.int .i64 0), (Value.int .i64 0)]) rfl trivial (by kernel_rfl)) ?_
    refine l_store (new := [(Value.int .i64 0), (Value.int .i64 0)]) (cs' := #[(Value.int .i64 0), (Value.int .i64 0)]) hI .z rfl rfl rfl (ev_tmp rfl rfl) (ev_tmp rfl rfl) rfl size_23 rfl rfl rfl ?_
    clear hI; intro c6 w6 hI
    refine s_q rfl rfl (y_assign rfl ev_const) ?_
    refine s_nil ?_
    refine k_next (e := [(4, (Value.pointer (some ⟨b4, 0, none⟩))), (5, (Value.int .i64 1))]) ⟨rfl, rfl, trivial⟩ ?_
    refine c_ret ?_
    obtain rfl := some_inj h
    exact q_ret (vs := [(Value.agg #[(Value.int .i64 0), (Value.int .i64 0)]), (Value.int .i64 1)]) Tryd.results32 ⟨⟨_, ev_tmp rfl rfl, load_agg (l := [(Value.int .i64 0), (Value.int .i64 0)]) Tryd.underlying23 rfl size_23 (CellsAt.of_blk (hI.blk .z) rfl)⟩, ⟨ev_tmp rfl rfl, trivial⟩⟩ ⟨rfl, hI.ext0, hI.fin trivial⟩
  · replace h := ite_f hb h
    refine c_skip ?_
    refine k_next (e := [(2, (Value.pointer (some ⟨b2, 0, none⟩))), (3, (Value.pointer (some ⟨b3, 0, none⟩))), (4, (Value.pointer (some ⟨b4, 0, none⟩)))]) ⟨rfl, rfl, rfl, trivial⟩ ?_
    refine c_seq ?_
    refine c_region rfl ?_
    refine s_q rfl rfl (y_fieldAddr rfl (ev_tmp rfl rfl) Tryd.underlying23 rfl size_2 rfl) ?_
    refine s_q rfl rfl (y_load1 (v := (Value.int .i64 a1.N)) rfl (ev_tmp rfl rfl) Tryd.underlying2 rfl (hI.kblk (l := [(Value.int .i64 a1.N)]) (.s .z) rfl).1) ?_
    refine s_q rfl rfl (y_fieldAddr rfl (ev_tmp rfl rfl) Tryd.underlying23 rfl size_2 rfl) ?_
    refine s_q rfl rfl (y_load1 (v := (Value.int .i64 b1.D)) rfl (ev_tmp rfl rfl) Tryd.underlying2 rfl (hI.kblk (l := [(Value.int .i64 b1.D)]) .z rfl).1) ?_
    refine s_q rfl rfl (y_mul rfl (ev_tmp rfl rfl) (ev_tmp rfl rfl)) ?_
    refine s_q rfl rfl (y_fieldAddr rfl (ev_tmp rfl rfl) Tryd.underlying23 rfl size_2 rfl) ?_
    refine s_q rfl rfl (y_load1 (v := (Value.int .i64 a1.D)) rfl (ev_tmp rfl rfl) Tryd.underlying2 rfl (hI.kblk (l := [(Value.int .i64 a1.D)]) (.s .z) rfl).1) ?_
    refine s_q rfl rfl (y_fieldAddr rfl (ev_tmp rfl rfl) Tryd.underlying23 rfl size_2 rfl) ?_
    refine s_q rfl rfl (y_load1 (v := (Value.int .i64 b1.N)) rfl (ev_tmp rfl rfl) Tryd.underlying2 rfl (hI.kblk (l := [(Value.int .i64 b1.N)]) .z rfl).1) ?_
    refine s_q rfl rfl (y_mul rfl (ev_tmp rfl rfl) (ev_tmp rfl rfl)) ?_
    obtain ⟨r3, hx5, h⟩ := bnd_some h
    refine s_call rfl rfl (r_callF (vs := [(Value.int .i64 (wi64 (a1.N * b1.D))), (Value.int .i64 (wi64 (a1.D * b1.N)))]) rfl ok_12 ⟨(ev_tmp rfl rfl), ⟨(ev_tmp rfl rfl), trivial⟩⟩) (Calls.mono (c_frac_New (Dj F c5) w5 hI.lt (wi64 (a1.N * b1.D)) (wi64 (a1.D * b1.N)) trivial r3 hx5) ?_)
    rintro _ w7 ⟨rfl, hx6, hl3⟩
    refine ⟨_, rfl, ?_⟩
    replace hI := (hI.ext hx6)
    refine s_q rfl rfl (y_extract rfl (ev_tmp rfl rfl) rfl) ?_
    refine s_q rfl rfl (y_extract rfl (ev_tmp rfl rfl) rfl) ?_
    refine l_store (new := [(Value.int .i64 r3.1.N), (Value.int .i64 r3.1.D)]) (cs' := #[(Value.int .i64 r3.1.N), (Value.int .i64 r3.1.D)]) hI .z rfl rfl rfl (ev_tmp rfl rfl) (ev_tmp rfl rfl) rfl size_23 rfl rfl rfl ?_
    clear hI; intro c7 w8 hI
    refine s_q rfl rfl (y_assign rfl (ev_tmp rfl rfl)) ?_
    refine s_nil ?_
    refine k_next (e := [(4, (Value.pointer (some ⟨b4, 0, none⟩))), (5, (Value.int .i64 r3.2))]) ⟨rfl, rfl, trivial⟩ ?_
    refine c_ret ?_
    obtain rfl := some_inj h
    exact q_ret (vs := [(Value.agg #[(Value.int .i64 r3.1.N), (Value.int .i64 r3.1.D)]), (Value.int .i64 r3.2)]) Tryd.results32 ⟨⟨_, ev_tmp rfl rfl, load_agg (l := [(Value.int .i64 r3.1.N), (Value.int .i64 r3.1.D)]) Tryd.underlying23 rfl size_23 (CellsAt.of_blk (hI.blk .z) rfl)⟩, ⟨ev_tmp rfl rfl, trivial⟩⟩ ⟨rfl, hI.ext0, hI.fin trivial⟩

set_option maxRecDepth 100000 in
set_option maxHeartbeats 4000000 in
theorem c_ref01_Div (F : NP) (w0 : World) (hF : ∀ k, F k → k < w0.heap.size) (a1 : GVal) (b1 : GVal) (hc : AllCl [] F w0) (r : GVal × Int)
    (h : m_ref01_Div a1 b1 = some r) :
    Calls Tryd.prog 33 #[(Value.agg #[(Value.int .i64 a1.N), (Value.int .i64 a1.D)]), (Value.agg #[(Value.int .i64 b1.N), (Value.int .i64 b1.D)])] w0 fun e w => e = .returned (Value.tuple #[(Value.agg #[(Value.int .i64 r.1.N), (Value.int .i64 r.1.D)]), (Value.int .i64 r.2)]) ∧ Ext w0 w ∧ AllCl [] F w := by
  refine ofEnter (R := fun v w => v = (Value.tuple #[(Value.agg #[(Value.int .i64 r.1.N), (Value.int .i64 r.1.D)]), (Value.int .i64 r.2)]) ∧ Ext w0 w ∧ AllCl [] F w) (enter (l := [(Value.agg #[(Value.int .i64 a1.N), (Value.int .i64 a1.D)]), (Value.agg #[(Value.int .i64 b1.N), (Value.int .i64 b1.D)])]) Tryd.func33 rfl Tryd.ntmps33 rfl ?_) ?_
  rotate_left
  · rintro _ w ⟨rfl, k1, k2⟩; exact ⟨rfl, k1, k2⟩
  have hI := Bun.start hF hc
  clear hc
  rw [m_ref01_Div] at h
  refine c_seq ?_
  refine c_region rfl ?_
  refine l_box (v := (Value.agg #[(Value.int .i64 a1.N), (Value.int .i64 a1.D)])) (cs := #[(Value.int .i64 a1.N), (Value.int .i64 a1.D)]) hI rfl rfl rfl (ev_tmp rfl rfl) rfl ?_
  clear hI; intro b2 c1 w1 hI
  obtain ⟨c2, hI⟩ := hI.relBox .z
  refine l_box (v := (Value.agg #[(Value.int .i64 b1.N), (Value.int .i64 b1.D)])) (cs := #[(Value.int .i64 b1.N), (Value.int .i64 b1.D)]) hI rfl rfl rfl (ev_tmp rfl rfl) rfl ?_
  clear hI; intro b3 c3 w2 hI
  obtain ⟨c4, hI⟩ := hI.relBox .z
  refine l_alloc (cs := #[(Value.int .i64 0), (Value.int .i64 0)]) hI rfl rfl rfl zero_23 rfl ?_
  clear hI; intro b4 c5 w3 hI
  refine s_q rfl rfl (y_assign rfl ev_const) ?_
  refine s_nil ?_
  refine k_next (e := [(2, (Value.pointer (some ⟨b2, 0, none⟩))), (3, (Value.pointer (some ⟨b3, 0, none⟩))), (4, (Value.pointer (some ⟨b4, 0, none⟩)))]) ⟨rfl, rfl, rfl, trivial⟩ ?_
  refine c_seq ?_
  refine c_seq ?_
  refine c_region rfl ?_
  refine s_q rfl rfl (y_loadN (l := [(Value.int .i64 a1.N), (Value.int .i64 a1.D)]) rfl (ev_tmp rfl rfl) Tryd.underlying23 rfl size_23 (hI.kblk (l := [(Value.int .i64 a1.N), (Value.int .i64 a1.D)]) (.s .z) rfl).1) ?_
  obtain ⟨r1, hx1, h⟩ := bnd_some h
  refine s_call rfl rfl (r_callF (vs := [(Value.agg #[(Value.int .i64 a1.N), (Value.int .i64 a1.D)])]) rfl ok_15 ⟨(ev_tmp rfl rfl), trivial⟩) (Calls.mono (c_ref01_Valid (Dj F c5) w3 hI.lt a1 trivial r1 hx1) ?_)
  rintro _ w4 ⟨rfl, hx2, hl1⟩
  refine ⟨_, rfl, ?_⟩
  replace hI := (hI.ext hx2)
  refine s_q rfl rfl (y_not rfl (ev_tmp rfl rfl)) ?_
  refine s_q rfl rfl (y_move rfl (ev_tmp rfl rfl)) ?_
  refine s_gval (g_false rfl rfl rfl rfl) rfl (fun hc => (y_loadN (l := [(Value.int .i64 b1.N), (Value.int .i64 b1.D)]) rfl (ev_tmp rfl rfl) Tryd.underlying23 rfl size_23 (hI.kblk (l := [(Value.int .i64 b1.N), (Value.int .i64 b1.D)]) .z rfl).1)) ?_
  obtain ⟨r2, hx3, h⟩ := bnd_some h
  replace hx3 := gd_some hx3
  refine s_gcallU (v := (Value.bool r2)) (g_false rfl rfl rfl rfl) rfl (fun hc => (r_callF (vs := [(Value.agg #[(Value.int .i64 b1.N), (Value.int .i64 b1.D)])]) rfl ok_15 ⟨(ev_gv (ev_tmp rfl rfl) hc), trivial⟩)) (fun hc => (c_ref01_Valid (Dj F c5) w4 hI.lt b1 trivial r2 (hx3 hc)).mono fun _ _ k => ⟨k.1, k.2.1⟩) ?_
  intro w5 hx4; replace hI := hI.ext hx4
  refine s_gval (g_false rfl rfl rfl rfl) rfl (fun hc => (y_not rfl (ev_gv (ev_tmp rfl rfl) hc))) ?_
  refine s_q rfl rfl (y_or rfl (ev_tmp rfl rfl) (ev_tmp rfl rfl)) ?_
  refine s_nil ?_
  refine k_next (e := [(2, (Value.pointer (some ⟨b2, 0, none⟩))), (3, (Value.pointer (some ⟨b3, 0, none⟩))), (4, (Value.pointer (some ⟨b4, 0, none⟩))), (13, (Value.bool ((!r1) || (!r2))))]) ⟨rfl, rfl, rfl, rfl, trivial⟩ ?_
  refine c_cond (b := (!r1) || (!r2)) (ev_tmp rfl rfl) (fun hb => ?_) (fun hb => ?_)
  · replace h := ite_t hb h
    refine c_seq ?_
    refine c_region rfl ?_
    refine s_q rfl rfl (y_build (vs := []) (cs := #[(Value.int .i64 0), (Value.int .i64 0)]) rfl trivial (by kernel_rfl)) ?_
    refine l_store (new := [(Value.int .i64 0), (Value.int .i64 0)]) (cs' := #[(Value.int .i64 0), (Value.int .i64 0)]) hI .z rfl rfl rfl (ev_tmp rfl rfl) (ev_tmp rfl rfl) rfl size_23 rfl rfl rfl ?_
    clear hI; intro c6 w6 hI
    refine s_q rfl rfl (y_assign rfl ev_const) ?_
    refine s_nil ?_
    refine k_next (e := [(4, (Value.pointer (some ⟨b4, 0, none⟩))), (5, (Value.int .i64 1))]) ⟨rfl, rfl, trivial⟩ ?_
    refine c_ret ?_
    obtain rfl := some_inj h
    exact q_ret (vs := [(Value.agg #[(Value.int .i64 0), (Value.int .i64 0)]), (Value.int .i64 1)]) Tryd.results33 ⟨⟨_, ev_tmp rfl rfl, load_agg (l := [(Value.int .i64 0), (Value.int .i64 0)]) Tryd.underlying23 rfl size_23 (CellsAt.of_blk (hI.blk .z) rfl)⟩, ⟨ev_tmp rfl rfl, trivial⟩⟩ ⟨rfl, hI.ext0, hI.fin trivial⟩
  · replace h := ite_f hb h
    refine c_skip ?_
    refine k_next (e := [(2, (Value.pointer (some ⟨b2, 0, none⟩))), (3, (Value.pointer (some ⟨b3, 0, none⟩))), (4, (Value.pointer (some ⟨b4, 0, none⟩)))]) ⟨rfl, rfl, rfl, trivial⟩ ?_
    refine c_seq ?_
    refine c_region rfl ?_
    refine s_q rfl rfl (y_fieldAddr rfl (ev_tmp rfl rfl) Tryd.underlying23 rfl size_2 rfl) ?_
    refine s_q rfl rfl (y_load1 (v := (Value.int .i64 a1.N)) rfl (ev_tmp rfl rfl) Tryd.underlying2 rfl (hI.kblk (l := [(Value.int .i64 a1.N)]) (.s .z) rfl).1) ?_
    refine s_q rfl rfl (y_fieldAddr rfl (ev_tmp rfl rfl) Tryd.underlying23 rfl size_2 rfl) ?_
    refine s_q rfl rfl (y_load1 (v := (Value.int .i64 b1.D)) rfl (ev_tmp rfl rfl) Tryd.underlying2 rfl (hI.kblk (l := [(Value.int .i64 b1.D)]) .z rfl).1) ?_
    refine s_q rfl rfl (y_mul rfl (ev_tmp rfl rfl) (ev_tmp rfl rfl)) ?_
    refine s_q rfl rfl (y_fieldAddr rfl (ev_tmp rfl rfl) Tryd.underlying23 rfl size_2 rfl) ?_
    refine s_q rfl rfl (y_load1 (v := (Value.int .i64 a1.D)) rfl (ev_tmp rfl rfl) Tryd.underlying2 rfl (hI.kblk (l := [(Value.int .i64 a1.D)]) (.s .z) rfl).1) ?_
    refine s_q rfl rfl (y_fieldAddr rfl (ev_tmp rfl rfl) Tryd.underlying23 rfl size_2 rfl) ?_
    refine s_q rfl rfl (y_load1 (v := (Value.int .i64 b1.N)) rfl (ev_tmp rfl rfl) Tryd.underlying2 rfl (hI.kblk (l := [(Value.int .i64 b1.N)]) .z rfl).1) ?_
    refine s_q rfl rfl (y_mul rfl (ev_tmp rfl rfl) (ev_tmp rfl rfl)) ?_
    obtain ⟨r3, hx5, h⟩ := bnd_some h
    refine s_call rfl rfl (r_callF (vs := [(Value.int .i64 (wi64 (a1.N * b1.D))), (Value.int .i64 (wi64 (a1.D * b1.N)))]) rfl ok_13 ⟨(ev_tmp rfl rfl), ⟨(ev_tmp rfl rfl), trivial⟩⟩) (Calls.mono (c_ref01_New (Dj F c5) w5 hI.lt (wi64 (a1.N * b1.D)) (wi64 (a1.D * b1.N)) trivial r3 hx5) ?_)
    rintro _ w7 ⟨rfl, hx6, hl3⟩
    refine ⟨_, rfl, ?_⟩
    replace hI := (hI.ext hx6)
    refine s_q rfl rfl (y_extract rfl (ev_tmp rfl rfl) rfl) ?_
    refine s_q rfl rfl (y_extract rfl (ev_tmp rfl rfl) rfl) ?_
    refine l_store (new := [(Value.int .i64 r3.1.N), (Value.int .i64 r3.1.D)]) (cs' := #[(Value.int .i64 r3.1.N), (Value.int .i64 r3.1.D)]) hI .z rfl rfl rfl (ev_tmp rfl rfl) (ev_tmp rfl rfl) rfl size_23 rfl rfl rfl ?_
    clear hI; intro c7 w8 hI
    refine s_q rfl rfl (y_assign rfl (ev_tmp rfl rfl)) ?_
    refine s_nil ?_
    refine k_next (e := [(4, (Value.pointer (some ⟨b4, 0, none⟩))), (5, (Value.int .i64 r3.2))]) ⟨rfl, rfl, trivial⟩ ?_
    refine c_ret ?_
    obtain rfl := some_inj h
    exact q_ret (vs := [(Value.agg #[(Value.int .i64 r3.1.N), (Value.int .i64 r3.1.D)]), (Value.int .i64 r3.2)]) Tryd.results33 ⟨⟨_, ev_tmp rfl rfl, load_agg (l := [(Value.int .i64 r3.1.N), (Value.int .i64 r3.1.D)]) Tryd.underlying23 rfl size_23 (CellsAt.of_blk (hI.blk .z) rfl)⟩, ⟨ev_tmp rfl rfl, trivial⟩⟩ ⟨rfl, hI.ext0, hI.fin trivial⟩

set_option maxRecDepth 100000 in
set_option maxHeartbeats 4000000 in
theorem c_ref01_Neg (F : NP) (w0 : World) (hF : ∀ k, F k → k < w0.heap.size) (a1 : GVal) (hc : AllCl [] F w0) (r : GVal)
    (h : m_ref01_Neg a1 = some r) :
    Calls Tryd.prog 34 #[(Value.agg #[(Value.int .i64 a1.N), (Value.int .i64 a1.D)])] w0 fun e w => e = .returned (Value.agg #[(Value.int .i64 r.N), (Value.int .i64 r.D)]) ∧ Ext w0 w ∧ AllCl [] F w := by
  refine ofEnter (R := fun v w => v = (Value.agg #[(Value.int .i64 r.N), (Value.int .i64 r.D)]) ∧ Ext w0 w ∧ AllCl [] F w) (enter (l := [(Value.agg #[(Value.int .i64 a1.N), (Value.int .i64 a1.D)])]) Tryd.func34 rfl Tryd.ntmps34 rfl ?_) ?_
  rotate_left
  · rintro _ w ⟨rfl, k1, k2⟩; exact ⟨rfl, k1, k2⟩
  have hI := Bun.start hF hc
  clear hc
  rw [m_ref01_Neg] at h
  refine c_seq ?_
  refine c_region rfl ?_
  refine l_box (v := (Value.agg #[(Value.int .i64 a1.N), (Value.int .i64 a1.D)])) (cs := #[(Value.int .i64 a1.N), (Value.int .i64 a1.D)]) hI rfl rfl rfl (ev_tmp rfl rfl) rfl ?_
  clear hI; intro b1 c1 w1 hI
  obtain ⟨c2, hI⟩ := hI.relBox .z
  refine l_alloc (cs := #[(Value.int .i64 0), (Value.int .i64 0)]) hI rfl rfl rfl zero_23 rfl ?_
  clear hI; intro b2 c3 w2 hI
  refine s_nil ?_
  refine k_next (e := [(1, (Value.pointer (some ⟨b1, 0, none⟩))), (2, (Value.pointer (some ⟨b2, 0, none⟩)))]) ⟨rfl, rfl, trivial⟩ ?_
  refine c_seq ?_
  refine c_seq ?_
  refine c_region rfl ?_
  refine s_q rfl rfl (y_loadN (l := [(Value.int .i64 a1.N), (Value.int .i64 a1.D)]) rfl (ev_tmp rfl rfl) Tryd.underlying23 rfl size_23 (hI.kblk (l := [(Value.int .i64 a1.N), (Value.int .i64 a1.D)]) .z rfl).1) ?_
  obtain ⟨r1, hx1, h⟩ := bnd_some h
  refine s_call rfl rfl (r_callF (vs := [(Value.agg #[(Value.int .i64 a1.N), (Value.int .i64 a1.D)])]) rfl ok_15 ⟨(ev_tmp rfl rfl), trivial⟩) (Calls.mono (c_ref01_Valid (Dj F c3) w2 hI.lt a1 trivial r1 hx1) ?_)
  rintro _ w3 ⟨rfl, hx2, hl1⟩
  refine ⟨_, rfl, ?_⟩
  replace hI := (hI.ext hx2)
  refine s_q rfl rfl (y_not rfl (ev_tmp rfl rfl)) ?_
  refine s_nil ?_
  refine k_next (e := [(1, (Value.pointer (some ⟨b1, 0, none⟩))), (2, (Value.pointer (some ⟨b2, 0, none⟩))), (5, (Value.bool (!r1)))]) ⟨rfl, rfl, rfl, trivial⟩ ?_
  refine c_cond (b := !r1) (ev_tmp rfl rfl) (fun hb => ?_) (fun hb => ?_)
  · replace h := ite_t hb h
    refine c_seq ?_
    refine c_region rfl ?_
    refine s_q rfl rfl (y_build (vs := []) (cs := #[(Value.int .i64 0), (Value.int .i64 0)]) rfl trivial (by kernel_rfl)) ?_
    refine l_store (new := [(Value.int .i64 0), (Value.int .i64 0)]) (cs' := #[(Value.int .i64 0), (Value.int .i64 0)]) hI .z rfl rfl rfl (ev_tmp rfl rfl) (ev_tmp rfl rfl) rfl size_23 rfl rfl rfl ?_
    clear hI; intro c4 w4 hI
    refine s_nil ?_
    refine k_next (e := [(2, (Value.pointer (some ⟨b2, 0, none⟩)))]) ⟨rfl, trivial⟩ ?_
    refine c_ret ?_
    obtain rfl := some_inj h
    exact q_ret (vs := [(Value.agg #[(Value.int .i64 0), (Value.int .i64 0)])]) Tryd.results34 ⟨⟨_, ev_tmp rfl rfl, load_agg (l := [(Value.int .i64 0), (Value.int .i64 0)]) Tryd.underlying23 rfl size_23 (CellsAt.of_blk (hI.blk .z) rfl)⟩, trivial⟩ ⟨rfl, hI.ext0, hI.fin trivial⟩
  · replace h := ite_f hb h
    refine c_skip ?_
    refine k_next (e := [(1, (Value.pointer (some ⟨b1, 0, none⟩))), (2, (Value.pointer (some ⟨b2, 0, none⟩)))]) ⟨rfl, rfl, trivial⟩ ?_
    refine c_seq ?_
    refine c_region rfl ?_
    refine s_q rfl rfl (y_fieldAddr rfl (ev_tmp rfl rfl) Tryd.underlying23 rfl size_2 rfl) ?_
    refine s_q rfl rfl (y_load1 (v := (Value.int .i64 a1.N)) rfl (ev_tmp rfl rfl) Tryd.underlying2 rfl (hI.kblk (l := [(Value.int .i64 a1.N)]) .z rfl).1) ?_
    refine s_q rfl rfl (y_neg rfl (ev_tmp rfl rfl)) ?_
    refine s_q rfl rfl (y_fieldAddr rfl (ev_tmp rfl rfl) Tryd.underlying23 rfl size_2 rfl) ?_
    refine s_q rfl rfl (y_load1 (v := (Value.int .i64 a1.D)) rfl (ev_tmp rfl rfl) Tryd.underlying2 rfl (hI.kblk (l := [(Value.int .i64 a1.D)]) .z rfl).1) ?_
    refine s_q rfl rfl (y_build (vs := [(0, (Value.int .i64 (wi64 (-a1.N)))), (1, (Value.int .i64 a1.D))]) (cs := #[(Value.int .i64 (wi64 (-a1.N))), (Value.int .i64 a1.D)]) rfl ⟨rfl, (ev_tmp rfl rfl), ⟨rfl, (ev_tmp rfl rfl), trivial⟩⟩ (by kernel_rfl)) ?_
    refine l_store (new := [(Value.int .i64 (wi64 (-a1.N))), (Value.int .i64 a1.D)]) (cs' := #[(Value.int .i64 (wi64 (-a1.N))), (Value.int .i64 a1.D)]) hI .z rfl rfl rfl (ev_tmp rfl rfl) (ev_tmp rfl rfl) rfl size_23 rfl rfl rfl ?_
    clear hI; intro c5 w5 hI
    refine s_nil ?_
    refine k_next (e := [(2, (Value.pointer (some ⟨b2, 0, none⟩)))]) ⟨rfl, trivial⟩ ?_
    refine c_ret ?_
    obtain rfl := some_inj h
    exact q_ret (vs := [(Value.agg #[(Value.int .i64 (wi64 (-a1.N))), (Value.int .i64 a1.D)])]) Tryd.results34 ⟨⟨_, ev_tmp rfl rfl, load_agg (l := [(Value.int .i64 (wi64 (-a1.N))), (Value.int .i64 a1.D)]) Tryd.underlying23 rfl size_23 (CellsAt.of_blk (hI.blk .z) rfl)⟩, trivial⟩ ⟨rfl, hI.ext0, hI.fin trivial⟩

set_option maxRecDepth 100000 in
set_option maxHeartbeats 4000000 in
theorem c_law01_FracArithmetic (F : NP) (w0 : World) (hF : ∀ k, F k → k < w0.heap.size) (a1 : GVal) (b1 : GVal) (hc : AllCl [] F w0) (r : Bool)
    (h : m_law01_FracArithmetic a1 b1 = some r) :
    Calls Tryd.prog 10 #[(Value.agg #[(Value.int .i64 a1.N), (Value.int .i64 a1.D)]), (Value.agg #[(Value.int .i64 b1.N), (Value.int .i64 b1.D)])] w0 fun e w => e = .returned (Value.bool r) ∧ Ext w0 w ∧ AllCl [] F w := by
  refine ofEnter (R := fun v w => v = (Value.bool r) ∧ Ext w0 w ∧ AllCl [] F w) (enter (l := [(Value.agg #[(Value.int .i64 a1.N), (Value.int .i64 a1.D)]), (Value.agg #[(Value.int .i64 b1.N), (Value.int .i64 b1.D)])]) Tryd.func10 rfl Tryd.ntmps10 rfl ?_) ?_
  rotate_left
  · rintro _ w ⟨rfl, k1, k2⟩; exact ⟨rfl, k1, k2⟩
  have hI := Bun.start hF hc
  clear hc
  rw [m_law01_FracArithmetic] at h
  refine c_seq ?_
  refine c_region rfl ?_
  refine l_box (v := (Value.agg #[(Value.int .i64 a1.N), (Value.int .i64 a1.D)])) (cs := #[(Value.int .i64 a1.N), (Value.int .i64 a1.D)]) hI rfl rfl rfl (ev_tmp rfl rfl) rfl ?_
  clear hI; intro b2 c1 w1 hI
  obtain ⟨c2, hI⟩ := hI.relBox .z
  refine l_box (v := (Value.agg #[(Value.int .i64 b1.N), (Value.int .i64 b1.D)])) (cs := #[(Value.int .i64 b1.N), (Value.int .i64 b1.D)]) hI rfl rfl rfl (ev_tmp rfl rfl) rfl ?_
  clear hI; intro b3 c3 w2 hI
  obtain ⟨c4, hI⟩ := hI.relBox .z
  refine s_q rfl rfl (y_assign rfl ev_const) ?_
  refine s_nil ?_
  refine k_next (e := [(2, (Value.pointer (some ⟨b2, 0, none⟩))), (3, (Value.pointer (some ⟨b3, 0, none⟩)))]) ⟨rfl, rfl, trivial⟩ ?_
  refine c_seq ?_
  refine c_region rfl ?_
  refine s_q rfl rfl (y_loadN (l := [(Value.int .i64 a1.N), (Value.int .i64 a1.D)]) rfl (ev_tmp rfl rfl) Tryd.underlying23 rfl size_23 (hI.kblk (l := [(Value.int .i64 a1.N), (Value.int .i64 a1.D)]) (.s .z) rfl).1) ?_
  refine s_q rfl rfl (y_loadN (l := [(Value.int .i64 b1.N), (Value.int .i64 b1.D)]) rfl (ev_tmp rfl rfl) Tryd.underlying23 rfl size_23 (hI.kblk (l := [(Value.int .i64 b1.N), (Value.int .i64 b1.D)]) .z rfl).1) ?_
  obtain ⟨r1, hx1, h⟩ := bnd_some h
  refine s_call rfl rfl (r_callF (vs := [(Value.agg #[(Value.int .i64 a1.N), (Value.int .i64 a1.D)]), (Value.agg #[(Value.int .i64 b1.N), (Value.int .i64 b1.D)])]) rfl ok_26 ⟨(ev_tmp rfl rfl), ⟨(ev_tmp rfl rfl), trivial⟩⟩) (Calls.mono (c_frac_Add (Dj F c4) w2 hI.lt a1 b1 trivial r1 hx1) ?_)
  rintro _ w3 ⟨rfl, hx2, hl1⟩
  refine ⟨_, rfl, ?_⟩
  replace hI := (hI.ext hx2)
  refine s_q rfl rfl (y_move rfl (ev_tmp rfl rfl)) ?_
  refine s_q rfl rfl (y_extract rfl (ev_tmp rfl rfl) rfl) ?_
  refine s_q rfl rfl (y_extract rfl (ev_tmp rfl rfl) rfl) ?_
  refine l_alloc (cs := #[(Value.int .i64 0), (Value.int .i64 0)]) hI rfl rfl rfl zero_23 rfl ?_
  clear hI; intro b4 c5 w4 hI
  refine l_store (new := [(Value.int .i64 r1.1.N), (Value.int .i64 r1.1.D)]) (cs' := #[(Value.int .i64 r1.1.N), (Value.int .i64 r1.1.D)]) hI .z rfl rfl rfl (ev_tmp rfl rfl) (ev_tmp rfl rfl) rfl size_23 rfl rfl rfl ?_
  clear hI; intro c6 w5 hI
  refine s_q rfl rfl (y_assign rfl (ev_tmp rfl rfl)) ?_
  refine s_nil ?_
  refine k_next (e := [(2, (Value.pointer (some ⟨b2, 0, none⟩))), (3, (Value.pointer (some ⟨b3, 0, none⟩))), (5, (Value.pointer (some ⟨b4, 0, none⟩))), (6, (Value.int .i64 r1.2))]) ⟨rfl, rfl, rfl, rfl, trivial⟩ ?_
  refine c_seq ?_
  refine c_region rfl ?_
  refine s_q rfl rfl (y_loadN (l := [(Value.int .i64 a1.N), (Value.int .i64 a1.D)]) rfl (ev_tmp rfl rfl) Tryd.underlying23 rfl size_23 (hI.kblk (l := [(Value.int .i64 a1.N), (Value.int .i64 a1.D)]) (.s .z) rfl).1) ?_
  refine s_q rfl rfl (y_loadN (l := [(Value.int .i64 b1.N), (Value.int .i64 b1.D)]) rfl (ev_tmp rfl rfl) Tryd.underlying23 rfl size_23 (hI.kblk (l := [(Value.int .i64 b1.N), (Value.int .i64 b1.D)]) .z rfl).1) ?_
  obtain ⟨r2, hx3, h⟩ := bnd_some h
  refine s_call rfl rfl (r_callF (vs := [(Value.agg #[(Value.int .i64 a1.N), (Value.int .i64 a1.D)]), (Value.agg #[(Value.int .i64 b1.N), (Value.int .i64 b1.D)])]) rfl ok_29 ⟨(ev_tmp rfl rfl), ⟨(ev_tmp rfl rfl), trivial⟩⟩) (Calls.mono (c_ref01_Add (Dj F c6) w5 hI.lt a1 b1 trivial r2 hx3) ?_)
  rintro _ w6 ⟨rfl, hx4, hl2⟩
  refine ⟨_, rfl, ?_⟩
  replace hI := (hI.ext hx4)
  refine s_q rfl rfl (y_move rfl (ev_tmp rfl rfl)) ?_
  refine s_q rfl rfl (y_extract rfl (ev_tmp rfl rfl) rfl) ?_
  refine s_q rfl rfl (y_extract rfl (ev_tmp rfl rfl) rfl) ?_
  refine l_alloc (cs := #[(Value.int .i64 0), (Value.int .i64 0)]) hI rfl rfl rfl zero_23 rfl ?_
  clear hI; intro b5 c7 w7 hI
  refine l_store (new := [(Value.int .i64 r2.1.N), (Value.int .i64 r2.1.D)]) (cs' := #[(Value.int .i64 r2.1.N), (Value.int .i64 r2.1.D)]) hI .z rfl rfl rfl (ev_tmp rfl rfl) (ev_tmp rfl rfl) rfl size_23 rfl rfl rfl ?_
  clear hI; intro c8 w8 hI
  refine s_q rfl rfl (y_assign rfl (ev_tmp rfl rfl)) ?_
  refine s_nil ?_
  refine k_next (e := [(2, (Value.pointer (some ⟨b2, 0, none⟩))), (3, (Value.pointer (some ⟨b3, 0, none⟩))), (5, (Value.pointer (some ⟨b4, 0, none⟩))), (6, (Value.int .i64 r1.2)), (7, (Value.pointer (some ⟨b5, 0, none⟩))), (8, (Value.int .i64 r2.2))]) ⟨rfl, rfl, rfl, rfl, rfl, rfl, trivial⟩ ?_
  refine c_seq ?_
  refine c_region rfl ?_
  refine s_q rfl rfl (y_loadN (l := [(Value.int .i64 a1.N), (Value.int .i64 a1.D)]) rfl (ev_tmp rfl rfl) Tryd.underlying23 rfl size_23 (hI.kblk (l := [(Value.int .i64 a1.N), (Value.int .i64 a1.D)]) (.s .z) rfl).1) ?_
  refine s_q rfl rfl (y_loadN (l := [(Value.int .i64 b1.N), (Value.int .i64 b1.D)]) rfl (ev_tmp rfl rfl) Tryd.underlying23 rfl size_23 (hI.kblk (l := [(Value.int .i64 b1.N), (Value.int .i64 b1.D)]) .z rfl).1) ?_
  obtain ⟨r3, hx5, h⟩ := bnd_some h
  refine s_call rfl rfl (r_callF (vs := [(Value.agg #[(Value.int .i64 a1.N), (Value.int .i64 a1.D)]), (Value.agg #[(Value.int .i64 b1.N), (Value.int .i64 b1.D)])]) rfl ok_28 ⟨(ev_tmp rfl rfl), ⟨(ev_tmp rfl rfl), trivial⟩⟩) (Calls.mono (c_frac_Sub (Dj F c8) w8 hI.lt a1 b1 trivial r3 hx5) ?_)
  rintro _ w9 ⟨rfl, hx6, hl3⟩
  refine ⟨_, rfl, ?_⟩
  replace hI := (hI.ext hx6)
  refine s_q rfl rfl (y_move rfl (ev_tmp rfl rfl)) ?_
  refine s_q rfl rfl (y_extract rfl (ev_tmp rfl rfl) rfl) ?_
  refine s_q rfl rfl (y_extract rfl (ev_tmp rfl rfl) rfl) ?_
  refine l_alloc (cs := #[(Value.int .i64 0), (Value.int .i64 0)]) hI rfl rfl rfl zero_23 rfl ?_
  clear hI; intro b6 c9 w10 hI
  refine l_store (new := [(Value.int .i64 r3.1.N), (Value.int .i64 r3.1.D)]) (cs' := #[(Value.int .i64 r3.1.N), (Value.int .i64 r3.1.D)]) hI .z rfl rfl rfl (ev_tmp rfl rfl) (ev_tmp rfl rfl) rfl size_23 rfl rfl rfl ?_
  clear hI; intro c10 w11 hI
  refine s_q rfl rfl (y_assign rfl (ev_tmp rfl rfl)) ?_
  refine s_nil ?_
  refine k_next (e := [(2, (Value.pointer (some ⟨b2, 0, none⟩))), (3, (Value.pointer (some ⟨b3, 0, none⟩))), (5, (Value.pointer (some ⟨b4, 0, none⟩))), (6, (Value.int .i64 r1.2)), (7, (Value.pointer (some ⟨b5, 0, none⟩))), (8, (Value.int .i64 r2.2)), (9, (Value.pointer (some ⟨b6, 0, none⟩))), (10, (Value.int .i64 r3.2))]) ⟨rfl, rfl, rfl, rfl, rfl, rfl, rfl, rfl, trivial⟩ ?_
  refine c_seq ?_
  refine c_region rfl ?_
  refine s_q rfl rfl (y_loadN (l := [(Value.int .i64 a1.N), (Value.int .i64 a1.D)]) rfl (ev_tmp rfl rfl) Tryd.underlying23 rfl size_23 (hI.kblk (l := [(Value.int .i64 a1.N), (Value.int .i64 a1.D)]) (.s .z) rfl).1) ?_
  refine s_q rfl rfl (y_loadN (l := [(Value.int .i64 b1.N), (Value.int .i64 b1.D)]) rfl (ev_tmp rfl rfl) Tryd.underlying23 rfl size_23 (hI.kblk (l := [(Value.int .i64 b1.N), (Value.int .i64 b1.D)]) .z rfl).1) ?_
  obtain ⟨r4, hx7, h⟩ := bnd_some h
  refine s_call rfl rfl (r_callF (vs := [(Value.agg #[(Value.int .i64 a1.N), (Value.int .i64 a1.D)]), (Value.agg #[(Value.int .i64 b1.N), (Value.int .i64 b1.D)])]) rfl ok_30 ⟨(ev_tmp rfl rfl), ⟨(ev_tmp rfl rfl), trivial⟩⟩) (Calls.mono (c_ref01_Sub (Dj F c10) w11 hI.lt a1 b1 trivial r4 hx7) ?_)
  rintro _ w12 ⟨rfl, hx8, hl4⟩
  refine ⟨_, rfl, ?_⟩
  replace hI := (hI.ext hx8)
  refine s_q rfl rfl (y_move rfl (ev_tmp rfl rfl)) ?_
  refine s_q rfl rfl (y_extract rfl (ev_tmp rfl rfl) rfl) ?_
  refine s_q rfl rfl (y_extract rfl (ev_tmp rfl rfl) rfl) ?_
  refine l_alloc (cs := #[(Value.int .i64 0), (Value.int .i64 0)]) hI rfl rfl rfl zero_23 rfl ?_
  clear hI; intro b7 c11 w13 hI
  refine l_store (new := [(Value.int .i64 r4.1.N), (Value.int .i64 r4.1.D)]) (cs' := #[(Value.int .i64 r4.1.N), (Value.int .i64 r4.1.D)]) hI .z rfl rfl rfl (ev_tmp rfl rfl) (ev_tmp rfl rfl) rfl size_23 rfl rfl rfl ?_
  clear hI; intro c12 w14 hI
  refine s_q rfl rfl (y_assign rfl (ev_tmp rfl rfl)) ?_
  refine s_nil ?_
  refine k_next (e := [(2, (Value.pointer (some ⟨b2, 0, none⟩))), (3, (Value.pointer (some ⟨b3, 0, none⟩))), (5, (Value.pointer (some ⟨b4, 0, none⟩))), (6, (Value.int .i64 r1.2)), (7, (Value.pointer (some ⟨b5, 0, none⟩))), (8, (Value.int .i64 r2.2)), (9, (Value.pointer (some ⟨b6, 0, none⟩))), (10, (Value.int .i64 r3.2)), (11, (Value.pointer (some ⟨b7, 0, none⟩))), (12, (Value.int .i64 r4.2))]) ⟨rfl, rfl, rfl, rfl, rfl, rfl, rfl, rfl, rfl, rfl, trivial⟩ ?_
  refine c_seq ?_
  refine c_region rfl ?_
  refine s_q rfl rfl (y_loadN (l := [(Value.int .i64 a1.N), (Value.int .i64 a1.D)]) rfl (ev_tmp rfl rfl) Tryd.underlying23 rfl size_23 (hI.kblk (l := [(Value.int .i64 a1.N), (Value.int .i64 a1.D)]) (.s .z) rfl).1) ?_
  refine s_q rfl rfl (y_loadN (l := [(Value.int .i64 b1.N), (Value.int .i64 b1.D)]) rfl (ev_tmp rfl rfl) Tryd.underlying23 rfl size_23 (hI.kblk (l := [(Value.int .i64 b1.N), (Value.int .i64 b1.D)]) .z rfl).1) ?_
  obtain ⟨r5, hx9, h⟩ := bnd_some h
  refine s_call rfl rfl (r_callF (vs := [(Value.agg #[(Value.int .i64 a1.N), (Value.int .i64 a1.D)]), (Value.agg #[(Value.int .i64 b1.N), (Value.int .i64 b1.D)])]) rfl ok_27 ⟨(ev_tmp rfl rfl), ⟨(ev_tmp rfl rfl), trivial⟩⟩) (Calls.mono (c_frac_Mul (Dj F c12) w14 hI.lt a1 b1 trivial r5 hx9) ?_)
  rintro _ w15 ⟨rfl, hx10, hl5⟩
  refine ⟨_, rfl, ?_⟩
  replace hI := (hI.ext hx10)
  refine s_q rfl rfl (y_move rfl (ev_tmp rfl rfl)) ?_
  refine s_q rfl rfl (y_extract rfl (ev_tmp rfl rfl) rfl) ?_
  refine s_q rfl rfl (y_extract rfl (ev_tmp rfl rfl) rfl) ?_
  refine l_alloc (cs := #[(Value.int .i64 0), (Value.int .i64 0)]) hI rfl rfl rfl zero_23 rfl ?_
  clear hI; intro b8 c13 w16 hI
  refine l_store (new := [(Value.int .i64 r5.1.N), (Value.int .i64 r5.1.D)]) (cs' := #[(Value.int .i64 r5.1.N), (Value.int .i64 r5.1.D)]) hI .z rfl rfl rfl (ev_tmp rfl rfl) (ev_tmp rfl rfl) rfl size_23 rfl rfl rfl ?_
  clear hI; intro c14 w17 hI
  refine s_q rfl rfl (y_assign rfl (ev_tmp rfl rfl)) ?_
  refine s_nil ?_
  refine k_next (e := [(2, (Value.pointer (some ⟨b2, 0, none⟩))), (3, (Value.pointer (some ⟨b3, 0, none⟩))), (5, (Value.pointer (some ⟨b4, 0, none⟩))), (6, (Value.int .i64 r1.2)), (7, (Value.pointer (some ⟨b5, 0, none⟩))), (8, (Value.int .i64 r2.2)), (9, (Value.pointer (some ⟨b6, 0, none⟩))), (10, (Value.int .i64 r3.2)), (11, (Value.pointer (some ⟨b7, 0, none⟩))), (12, (Value.int .i64 r4.2)), (13, (Value.pointer (some ⟨b8, 0, none⟩))), (14, (Value.int .i64 r5.2))]) ⟨rfl, rfl, rfl, rfl, rfl, rfl, rfl, rfl, rfl, rfl, rfl, rfl, trivial⟩ ?_
  refine c_seq ?_
  refine c_region rfl ?_
  refine s_q rfl rfl (y_loadN (l := [(Value.int .i64 a1.N), (Value.int .i64 a1.D)]) rfl (ev_tmp rfl rfl) Tryd.underlying23 rfl size_23 (hI.kblk (l := [(Value.int .i64 a1.N), (Value.int .i64 a1.D)]) (.s .z) rfl).1) ?_
  refine s_q rfl rfl (y_loadN (l := [(Value.int .i64 b1.N), (Value.int .i64 b1.D)]) rfl (ev_tmp rfl rfl) Tryd.underlying23 rfl size_23 (hI.kblk (l := [(Value.int .i64 b1.N), (Value.int .i64 b1.D)]) .z rfl).1) ?_
  obtain ⟨r6, hx11, h⟩ := bnd_some h
  refine s_call rfl rfl (r_callF (vs := [(Value.agg #[(Value.int .i64 a1.N), (Value.int .i64 a1.D)]), (Value.agg #[(Value.int .i64 b1.N), (Value.int .i64 b1.D)])]) rfl ok_31 ⟨(ev_tmp rfl rfl), ⟨(ev_tmp rfl rfl), trivial⟩⟩) (Calls.mono (c_ref01_Mul (Dj F c14) w17 hI.lt a1 b1 trivial r6 hx11) ?_)
  rintro _ w18 ⟨rfl, hx12, hl6⟩
  refine ⟨_, rfl, ?_⟩
  replace hI := (hI.ext hx12)
  refine s_q rfl rfl (y_move rfl (ev_tmp rfl rfl)) ?_
  refine s_q rfl rfl (y_extract rfl (ev_tmp rfl rfl) rfl) ?_
  refine s_q rfl rfl (y_extract rfl (ev_tmp rfl rfl) rfl) ?_
  refine l_alloc (cs := #[(Value.int .i64 0), (Value.int .i64 0)]) hI rfl rfl rfl zero_23 rfl ?_
  clear hI; intro b9 c15 w19 hI
  refine l_store (new := [(Value.int .i64 r6.1.N), (Value.int .i64 r6.1.D)]) (cs' := #[(Value.int .i64 r6.1.N), (Value.int .i64 r6.1.D)]) hI .z rfl rfl rfl (ev_tmp rfl rfl) (ev_tmp rfl rfl) rfl size_23 rfl rfl rfl ?_
  clear hI; intro c16 w20 hI
  refine s_q rfl rfl (y_assign rfl (ev_tmp rfl rfl)) ?_
  refine s_nil ?_
  refine k_next (e := [(2, (Value.pointer (some ⟨b2, 0, none⟩))), (3, (Value.pointer (some ⟨b3, 0, none⟩))), (5, (Value.pointer (some ⟨b4, 0, none⟩))), (6, (Value.int .i64 r1.2)), (7, (Value.pointer (some ⟨b5, 0, none⟩))), (8, (Value.int .i64 r2.2)), (9, (Value.pointer (some ⟨b6, 0, none⟩))), (10, (Value.int .i64 r3.2)), (11, (Value.pointer (some ⟨b7, 0, none⟩))), (12, (Value.int .i64 r4.2)), (13, (Value.pointer (some ⟨b8, 0, none⟩))), (14, (Value.int .i64 r5.2)), (15, (Value.pointer (some ⟨b9, 0, none⟩))), (16, (Value.int .i64 r6.2))]) ⟨rfl, rfl, rfl, rfl, rfl, rfl, rfl, rfl, rfl, rfl, rfl, rfl, rfl, rfl, trivial⟩ ?_
  refine c_seq ?_
  refine c_region rfl ?_
  refine s_q rfl rfl (y_loadN (l := [(Value.int .i64 a1.N), (Value.int .i64 a1.D)]) rfl (ev_tmp rfl rfl) Tryd.underlying23 rfl size_23 (hI.kblk (l := [(Value.int .i64 a1.N), (Value.int .i64 a1.D)]) (.s .z) rfl).1) ?_
  refine s_q rfl rfl (y_loadN (l := [(Value.int .i64 b1.N), (Value.int .i64 b1.D)]) rfl (ev_tmp rfl rfl) Tryd.underlying23 rfl size_23 (hI.kblk (l := [(Value.int .i64 b1.N), (Value.int .i64 b1.D)]) .z rfl).1) ?_
  obtain ⟨r7, hx13, h⟩ := bnd_some h
  refine s_call rfl rfl (r_callF (vs := [(Value.agg #[(Value.int .i64 a1.N), (Value.int .i64 a1.D)]), (Value.agg #[(Value.int .i64 b1.N), (Value.int .i64 b1.D)])]) rfl ok_32 ⟨(ev_tmp rfl rfl), ⟨(ev_tmp rfl rfl), trivial⟩⟩) (Calls.mono (c_frac_Div (Dj F c16) w20 hI.lt a1 b1 trivial r7 hx13) ?_)
  rintro _ w21 ⟨rfl, hx14, hl7⟩
  refine ⟨_, rfl, ?_⟩
  replace hI := (hI.ext hx14)
  refine s_q rfl rfl (y_move rfl (ev_tmp rfl rfl)) ?_
  refine s_q rfl rfl (y_extract rfl (ev_tmp rfl rfl) rfl) ?_
  refine s_q rfl rfl (y_extract rfl (ev_tmp rfl rfl) rfl) ?_
  refine l_alloc (cs := #[(Value.int .i64 0), (Value.int .i64 0)]) hI rfl rfl rfl zero_23 rfl ?_
  clear hI; intro b10 c17 w22 hI
  refine l_store (new := [(Value.int .i64 r7.1.N), (Value.int .i64 r7.1.D)]) (cs' := #[(Value.int .i64 r7.1.N), (Value.int .i64 r7.1.D)]) hI .z rfl rfl rfl (ev_tmp rfl rfl) (ev_tmp rfl rfl) rfl size_23 rfl rfl rfl ?_
  clear hI; intro c18 w23 hI
  refine s_q rfl rfl (y_assign rfl (ev_tmp rfl rfl)) ?_
  refine s_nil ?_
  refine k_next (e := [(2, (Value.pointer (some ⟨b2, 0, none⟩))), (3, (Value.pointer (some ⟨b3, 0, none⟩))), (5, (Value.pointer (some ⟨b4, 0, none⟩))), (6, (Value.int .i64 r1.2)), (7, (Value.pointer (some ⟨b5, 0, none⟩))), (8, (Value.int .i64 r2.2)), (9, (Value.pointer (some ⟨b6, 0, none⟩))), (10, (Value.int .i64 r3.2)), (11, (Value.pointer (some ⟨b7, 0, none⟩))), (12, (Value.int .i64 r4.2)), (13, (Value.pointer (some ⟨b8, 0, none⟩))), (14, (Value.int .i64 r5.2)), (15, (Value.pointer (some ⟨b9, 0, none⟩))), (16, (Value.int .i64 r6.2)), (17, (Value.pointer (some ⟨b10, 0, none⟩))), (18, (Value.int .i64 r7.2))]) ⟨rfl, rfl, rfl, rfl, rfl, rfl, rfl, rfl, rfl, rfl, rfl, rfl, rfl, rfl, rfl, rfl, trivial⟩ ?_
  refine c_seq ?_
  refine c_region rfl ?_
  refine s_q rfl rfl (y_loadN (l := [(Value.int .i64 a1.N), (Value.int .i64 a1.D)]) rfl (ev_tmp rfl rfl) Tryd.underlying23 rfl size_23 (hI.kblk (l := [(Value.int .i64 a1.N), (Value.int .i64 a1.D)]) (.s .z) rfl).1) ?_
  refine s_q rfl rfl (y_loadN (l := [(Value.int .i64 b1.N), (Value.int .i64 b1.D)]) rfl (ev_tmp rfl rfl) Tryd.underlying23 rfl size_23 (hI.kblk (l := [(Value.int .i64 b1.N), (Value.int .i64 b1.D)]) .z rfl).1) ?_
  obtain ⟨r8, hx15, h⟩ := bnd_some h
  refine s_call rfl rfl (r_callF (vs := [(Value.agg #[(Value.int .i64 a1.N), (Value.int .i64 a1.D)]), (Value.agg #[(Value.int .i64 b1.N), (Value.int .i64 b1.D)])]) rfl ok_33 ⟨(ev_tmp rfl rfl), ⟨(ev_tmp rfl rfl), trivial⟩⟩) (Calls.mono (c_ref01_Div (Dj F c18) w23 hI.lt a1 b1 trivial r8 hx15) ?_)
  rintro _ w24 ⟨rfl, hx16, hl8⟩
  refine ⟨_, rfl, ?_⟩
  replace hI := (hI.ext hx16)
  refine s_q rfl rfl (y_move rfl (ev_tmp rfl rfl)) ?_
  refine s_q rfl rfl (y_extract rfl (ev_tmp rfl rfl) rfl) ?_
  refine s_q rfl rfl (y_extract rfl (ev_tmp rfl rfl) rfl) ?_
  refine l_alloc (cs := #[(Value.int .i64 0), (Value.int .i64 0)]) hI rfl rfl rfl zero_23 rfl ?_
  clear hI; intro b11 c19 w25 hI
  refine l_store (new := [(Value.int .i64 r8.1.N), (Value.int .i64 r8.1.D)]) (cs' := #[(Value.int .i64 r8.1.N), (Value.int .i64 r8.1.D)]) hI .z rfl rfl rfl (ev_tmp rfl rfl) (ev_tmp rfl rfl) rfl size_23 rfl rfl rfl ?_
  clear hI; intro c20 w26 hI
  refine s_q rfl rfl (y_assign rfl (ev_tmp rfl rfl)) ?_
  refine s_nil ?_
  refine k_next (e := [(2, (Value.pointer (some ⟨b2, 0, none⟩))), (5, (Value.pointer (some ⟨b4, 0, none⟩))), (6, (Value.int .i64 r1.2)), (7, (Value.pointer (some ⟨b5, 0, none⟩))), (8, (Value.int .i64 r2.2)), (9, (Value.pointer (some ⟨b6, 0, none⟩))), (10, (Value.int .i64 r3.2)), (11, (Value.pointer (some ⟨b7, 0, none⟩))), (12, (Value.int .i64 r4.2)), (13, (Value.pointer (some ⟨b8, 0, none⟩))), (14, (Value.int .i64 r5.2)), (15, (Value.pointer (some ⟨b9, 0, none⟩))), (16, (Value.int .i64 r6.2)), (17, (Value.pointer (some ⟨b10, 0, none⟩))), (18, (Value.int .i64 r7.2)), (19, (Value.pointer (some ⟨b11, 0, none⟩))), (20, (Value.int .i64 r8.2))]) ⟨rfl, rfl, rfl, rfl, rfl, rfl, rfl, rfl, rfl, rfl, rfl, rfl, rfl, rfl, rfl, rfl, rfl, trivial⟩ ?_
  refine c_seq ?_
  refine c_drawX [] false (.c (0, .q) (.c (1, .q) (.c (2, .q) (.c (3, .q) (.c (4, .q) (.c (5, .q) (.c (6, .q) (.c (7, .q) (.c (8, .q) (.c (9, .q) (.c (10, .q) (.c (11, .q) (.c (12, .q) (.c (13, .q) (.c (14, .q) (.c (15, .q) (.c (16, .q) (.c (17, .q) (.c (18, .q) (.c (19, .q) (.c (20, .q) (.c (21, .q) (.c (22, .q) (.c (23, .q) (.c (24, .q) (.c (25, .q) (.c (26, .q) (.c (27, .q) (.c (28, .q) (.c (29, .q) (.c (30, .q) (.c (31, .q) (.c (32, .q) (.c (33, .q) (.c (34, .q) (.c (35, .q) (.c (36, .q) (.c (37, .q) (.c (38, .q) (.c (39, .q) (.c (41, .q) (.c (40, .s) (.c (42, .s) (.c (43, .q) (.c (44, .q) (.c (45, .q) (.c (46, .s) (.c (47, .q) (.c (48, .q) .n))))))))))))))))))))))))))))))))))))))))))))))))) hI (by kernel_rfl) (by kernel_rfl) ?_
  clear hI; intro w27 hI
  refine a_read rfl rfl rfl (fun w' hw' => (y_loadN (l := [(Value.int .i64 r1.1.N), (Value.int .i64 r1.1.D)]) rfl (ev_tmp rfl rfl) Tryd.underlying23 rfl size_23 ((CA.blk (hI.blk (.s (.s (.s (.s (.s (.s (.s .z)))))))) rfl).at_ (SX.any rfl hw')))) (by kernel_rfl) ?_
  refine a_read rfl rfl rfl (fun w' hw' => (y_loadN (l := [(Value.int .i64 r2.1.N), (Value.int .i64 r2.1.D)]) rfl (ev_tmp rfl rfl) Tryd.underlying23 rfl size_23 ((CA.blk (hI.blk (.s (.s (.s (.s (.s (.s .z))))))) rfl).at_ (SX.any rfl hw')))) (by kernel_rfl) ?_
  refine a_q rfl rfl rfl (fun w' => (y_bin rfl (ev_tmp rfl rfl) (ev_tmp rfl rfl) (eqstruct_23 ..) (eqguard_23 ..))) ?_
  refine a_q rfl rfl rfl (fun w' => (y_move rfl (ev_tmp rfl rfl))) ?_
  refine a_gval rfl (g_true rfl rfl rfl rfl) rfl (fun hc => fun w' => (y_move rfl (ev_tmp rfl rfl))) ?_
  refine a_gval rfl (g_true rfl rfl rfl rfl) rfl (fun hc => fun w' => (y_move rfl (ev_tmp rfl rfl))) ?_
  refine a_gval rfl (g_true rfl rfl rfl rfl) rfl (fun hc => fun w' => (y_eql rfl (ev_gv (ev_tmp rfl rfl) hc) (ev_gv (ev_tmp rfl rfl) hc))) ?_
  refine a_q rfl rfl rfl (fun w' => (y_and rfl (ev_tmp rfl rfl) (ev_tmp rfl rfl))) ?_
  refine a_q rfl rfl rfl (fun w' => (y_move rfl (ev_tmp rfl rfl))) ?_
  refine a_gread rfl (g_true rfl rfl rfl rfl) rfl (fun hc => fun w' hw' => (y_loadN (l := [(Value.int .i64 r3.1.N), (Value.int .i64 r3.1.D)]) rfl (ev_tmp rfl rfl) Tryd.underlying23 rfl size_23 ((CA.blk (hI.blk (.s (.s (.s (.s (.s .z)))))) rfl).at_ (SX.any rfl hw')))) (by kernel_rfl) ?_
  refine a_gread rfl (g_true rfl rfl rfl rfl) rfl (fun hc => fun w' hw' => (y_loadN (l := [(Value.int .i64 r4.1.N), (Value.int .i64 r4.1.D)]) rfl (ev_tmp rfl rfl) Tryd.underlying23 rfl size_23 ((CA.blk (hI.blk (.s (.s (.s (.s .z))))) rfl).at_ (SX.any rfl hw')))) (by kernel_rfl) ?_
  refine a_gval rfl (g_true rfl rfl rfl rfl) rfl (fun hc => fun w' => (y_bin rfl (ev_gv (ev_tmp rfl rfl) hc) (ev_gv (ev_tmp rfl rfl) hc) (eqstruct_23 ..) (eqguard_23 ..))) ?_
  refine a_q rfl rfl rfl (fun w' => (y_and rfl (ev_tmp rfl rfl) (ev_tmp rfl rfl))) ?_
  refine a_q rfl rfl rfl (fun w' => (y_move rfl (ev_tmp rfl rfl))) ?_
  refine a_gval rfl (g_true rfl rfl rfl rfl) rfl (fun hc => fun w' => (y_move rfl (ev_tmp rfl rfl))) ?_
  refine a_gval rfl (g_true rfl rfl rfl rfl) rfl (fun hc => fun w' => (y_move rfl (ev_tmp rfl rfl))) ?_
  refine a_gval rfl (g_true rfl rfl rfl rfl) rfl (fun hc => fun w' => (y_eql rfl (ev_gv (ev_tmp rfl rfl) hc) (ev_gv (ev_tmp rfl rfl) hc))) ?_
  refine a_q rfl rfl rfl (fun w' => (y_and rfl (ev_tmp rfl rfl) (ev_tmp rfl rfl))) ?_
  refine a_q rfl rfl rfl (fun w' => (y_move rfl (ev_tmp rfl rfl))) ?_
  refine a_gread rfl (g_true rfl rfl rfl rfl) rfl (fun hc => fun w' hw' => (y_loadN (l := [(Value.int .i64 r5.1.N), (Value.int .i64 r5.1.D)]) rfl (ev_tmp rfl rfl) Tryd.underlying23 rfl size_23 ((CA.blk (hI.blk (.s (.s (.s .z)))) rfl).at_ (SX.any rfl hw')))) (by kernel_rfl) ?_
  refine a_gread rfl (g_true rfl rfl rfl rfl) rfl (fun hc => fun w' hw' => (y_loadN (l := [(Value.int .i64 r6.1.N), (Value.int .i64 r6.1.D)]) rfl (ev_tmp rfl rfl) Tryd.underlying23 rfl size_23 ((CA.blk (hI.blk (.s (.s .z))) rfl).at_ (SX.any rfl hw')))) (by kernel_rfl) ?_
  refine a_gval rfl (g_true rfl rfl rfl rfl) rfl (fun hc => fun w' => (y_bin rfl (ev_gv (ev_tmp rfl rfl) hc) (ev_gv (ev_tmp rfl rfl) hc) (eqstruct_23 ..) (eqguard_23 ..))) ?_
  refine a_q rfl rfl rfl (fun w' => (y_and rfl (ev_tmp rfl rfl) (ev_tmp rfl rfl))) ?_
  refine a_q rfl rfl rfl (fun w' => (y_move rfl (ev_tmp rfl rfl))) ?_
  refine a_gval rfl (g_true rfl rfl rfl rfl) rfl (fun hc => fun w' => (y_move rfl (ev_tmp rfl rfl))) ?_
  refine a_gval rfl (g_true rfl rfl rfl rfl) rfl (fun hc => fun w' => (y_move rfl (ev_tmp rfl rfl))) ?_
  refine a_gval rfl (g_true rfl rfl rfl rfl) rfl (fun hc => fun w' => (y_eql rfl (ev_gv (ev_tmp rfl rfl) hc) (ev_gv (ev_tmp rfl rfl) hc))) ?_
  refine a_q rfl rfl rfl (fun w' => (y_and rfl (ev_tmp rfl rfl) (ev_tmp rfl rfl))) ?_
  refine a_q rfl rfl rfl (fun w' => (y_move rfl (ev_tmp rfl rfl))) ?_
  refine a_gread rfl (g_true rfl rfl rfl rfl) rfl (fun hc => fun w' hw' => (y_loadN (l := [(Value.int .i64 r7.1.N), (Value.int .i64 r7.1.D)]) rfl (ev_tmp rfl rfl) Tryd.underlying23 rfl size_23 ((CA.blk (hI.blk (.s .z)) rfl).at_ (SX.any rfl hw')))) (by kernel_rfl) ?_
  refine a_gread rfl (g_true rfl rfl rfl rfl) rfl (fun hc => fun w' hw' => (y_loadN (l := [(Value.int .i64 r8.1.N), (Value.int .i64 r8.1.D)]) rfl (ev_tmp rfl rfl) Tryd.underlying23 rfl size_23 ((CA.blk (hI.blk .z) rfl).at_ (SX.any rfl hw')))) (by kernel_rfl) ?_
  refine a_gval rfl (g_true rfl rfl rfl rfl) rfl (fun hc => fun w' => (y_bin rfl (ev_gv (ev_tmp rfl rfl) hc) (ev_gv (ev_tmp rfl rfl) hc) (eqstruct_23 ..) (eqguard_23 ..))) ?_
  refine a_q rfl rfl rfl (fun w' => (y_and rfl (ev_tmp rfl rfl) (ev_tmp rfl rfl))) ?_
  refine a_q rfl rfl rfl (fun w' => (y_move rfl (ev_tmp rfl rfl))) ?_
  refine a_gval rfl (g_true rfl rfl rfl rfl) rfl (fun hc => fun w' => (y_move rfl (ev_tmp rfl rfl))) ?_
  refine a_gval rfl (g_true rfl rfl rfl rfl) rfl (fun hc => fun w' => (y_move rfl (ev_tmp rfl rfl))) ?_
  refine a_gval rfl (g_true rfl rfl rfl rfl) rfl (fun hc => fun w' => (y_eql rfl (ev_gv (ev_tmp rfl rfl) hc) (ev_gv (ev_tmp rfl rfl) hc))) ?_
  refine a_q rfl rfl rfl (fun w' => (y_and rfl (ev_tmp rfl rfl) (ev_tmp rfl rfl))) ?_
  refine a_q rfl rfl rfl (fun w' => (y_move rfl (ev_tmp rfl rfl))) ?_
  refine a_gread rfl (g_true rfl rfl rfl rfl) rfl (fun hc => fun w' hw' => (y_loadN (l := [(Value.int .i64 a1.N), (Value.int .i64 a1.D)]) rfl (ev_tmp rfl rfl) Tryd.underlying23 rfl size_23 ((hI.kblk (l := [(Value.int .i64 a1.N), (Value.int .i64 a1.D)]) (.s .z) rfl).at_ (SX.any rfl hw')))) (by kernel_rfl) ?_
  refine a_gread rfl (g_true rfl rfl rfl rfl) rfl (fun hc => fun w' hw' => (y_loadN (l := [(Value.int .i64 a1.N), (Value.int .i64 a1.D)]) rfl (ev_tmp rfl rfl) Tryd.underlying23 rfl size_23 ((hI.kblk (l := [(Value.int .i64 a1.N), (Value.int .i64 a1.D)]) (.s .z) rfl).at_ (SX.any rfl hw')))) (by kernel_rfl) ?_
  obtain ⟨r9, hx17, h⟩ := bnd_some h
  replace hx17 := gd_some hx17
  refine la_gcallU (v := (Value.agg #[(Value.int .i64 r9.N), (Value.int .i64 r9.D)])) rfl (g_true rfl rfl rfl rfl) rfl (fun hc => (r_callF (vs := [(Value.agg #[(Value.int .i64 a1.N), (Value.int .i64 a1.D)])]) rfl ok_19 ⟨(ev_gv (ev_tmp rfl rfl) hc), trivial⟩)) (fun hc => (c_frac_Neg (Dj F c20) w27 hI.lt a1 trivial r9 (hx17 hc)).mono fun _ _ k => ⟨k.1, k.2.1⟩) ?_
  intro w28 hx18; replace hI := hI.ext hx18
  obtain ⟨r10, hx19, h⟩ := bnd_some h
  replace hx19 := gd_some hx19
  refine la_gcallU (v := (Value.agg #[(Value.int .i64 r10.N), (Value.int .i64 r10.D)])) rfl (g_true rfl rfl rfl rfl) rfl (fun hc => (r_callF (vs := [(Value.agg #[(Value.int .i64 a1.N), (Value.int .i64 a1.D)])]) rfl ok_34 ⟨(ev_gv (ev_tmp rfl rfl) hc), trivial⟩)) (fun hc => (c_ref01_Neg (Dj F c20) w28 hI.lt a1 trivial r10 (hx19 hc)).mono fun _ _ k => ⟨k.1, k.2.1⟩) ?_
  intro w29 hx20; replace hI := hI.ext hx20
  refine a_gval rfl (g_true rfl rfl rfl rfl) rfl (fun hc => fun w' => (y_bin rfl (ev_gv (ev_tmp rfl rfl) hc) (ev_gv (ev_tmp rfl rfl) hc) (eqstruct_23 ..) (eqguard_23 ..))) ?_
  refine a_q rfl rfl rfl (fun w' => (y_and rfl (ev_tmp rfl rfl) (ev_tmp rfl rfl))) ?_
  refine a_q rfl rfl rfl (fun w' => (y_move rfl (ev_tmp rfl rfl))) ?_
  obtain ⟨r11, hx21, h⟩ := bnd_some h
  replace hx21 := gd_some hx21
  refine la_gcallU (v := (Value.bool r11)) rfl (g_true rfl rfl rfl rfl) rfl (fun hc => (r_callF (vs := []) rfl ok_16 trivial)) (fun hc => (c_law01_examples (Dj F c20) w29 hI.lt trivial r11 (hx21 hc)).mono fun _ _ k => ⟨k.1, k.2.1⟩) ?_
  intro w30 hx22; replace hI := hI.ext hx22
  refine a_q rfl rfl rfl (fun w' => (y_and rfl (ev_tmp rfl rfl) (ev_tmp rfl rfl))) ?_
  refine a_q rfl rfl rfl (fun w' => (y_assign rfl (ev_tmp rfl rfl))) ?_
  refine a_nil ?_
  refine k_next (e := [(4, (Value.bool (((((((((((decide (r1.1.N = r2.1.N)) && (decide (r1.1.D = r2.1.D))) && (decide (r1.2 = r2.2))) && ((decide (r3.1.N = r4.1.N)) && (decide (r3.1.D = r4.1.D)))) && (decide (r3.2 = r4.2))) && ((decide (r5.1.N = r6.1.N)) && (decide (r5.1.D = r6.1.D)))) && (decide (r5.2 = r6.2))) && ((decide (r7.1.N = r8.1.N)) && (decide (r7.1.D = r8.1.D)))) && (decide (r7.2 = r8.2))) && ((decide (r9.N = r10.N)) && (decide (r9.D = r10.D)))) && r11)))]) ⟨rfl, trivial⟩ ?_
  refine c_ret ?_
  obtain rfl := some_inj h
  exact q_ret (vs := [(Value.bool (((((((((((decide (r1.1.N = r2.1.N)) && (decide (r1.1.D = r2.1.D))) && (decide (r1.2 = r2.2))) && ((decide (r3.1.N = r4.1.N)) && (decide (r3.1.D = r4.1.D)))) && (decide (r3.2 = r4.2))) && ((decide (r5.1.N = r6.1.N)) && (decide (r5.1.D = r6.1.D)))) && (decide (r5.2 = r6.2))) && ((decide (r7.1.N = r8.1.N)) && (decide (r7.1.D = r8.1.D)))) && (decide (r7.2 = r8.2))) && ((decide (r9.N = r10.N)) && (decide (r9.D = r10.D)))) && r11))]) Tryd.results10 ⟨ev_tmp rfl rfl, trivial⟩ ⟨rfl, hI.ext0, hI.fin trivial⟩

set_option maxRecDepth 100000 in
set_option maxHeartbeats 4000000 in
theorem c_frac_order (F : NP) (w0 : World) (hF : ∀ k, F k → k < w0.heap.size) (a1 : Int) (b1 : Int) (hc : AllCl [] F w0) (r : Int)
    (h : m_frac_order a1 b1 = some r) :
    Calls Tryd.prog 66 #[(Value.int .i64 a1), (Value.int .i64 b1)] w0 fun e w => e = .returned (Value.int .i64 r) ∧ Ext w0 w ∧ AllCl [] F w := by
  refine ofEnter (R := fun v w => v = (Value.int .i64 r) ∧ Ext w0 w ∧ AllCl [] F w) (enter (l := [(Value.int .i64 a1), (Value.int .i64 b1)]) Tryd.func66 rfl Tryd.ntmps66 rfl ?_) ?_
  rotate_left
  · rintro _ w ⟨rfl, k1, k2⟩; exact ⟨rfl, k1, k2⟩
  have hI := Bun.start hF hc
  clear hc
  rw [m_frac_order] at h
  refine c_seq ?_
  refine c_region rfl ?_
  refine s_q rfl rfl (y_assign rfl ev_const) ?_
  refine s_nil ?_
  refine k_next (e := [(0, (Value.int .i64 a1)), (1, (Value.int .i64 b1))]) ⟨rfl, rfl, trivial⟩ ?_
  refine c_seq ?_
  refine c_block ?_
  refine c_seq ?_
  refine c_region rfl ?_
  refine s_q rfl rfl (y_move rfl (ev_tmp rfl rfl)) ?_
  refine s_q rfl rfl (y_move rfl (ev_tmp rfl rfl)) ?_
  refine s_q rfl rfl (y_lss rfl (ev_tmp rfl rfl) (ev_tmp rfl rfl)) ?_
  refine s_q rfl rfl (y_assign rfl (ev_tmp rfl rfl)) ?_
  refine s_nil ?_
  refine k_next (e := [(0, (Value.int .i64 a1)), (1, (Value.int .i64 b1)), (5, (Value.bool (decide (a1 < b1))))]) ⟨rfl, rfl, rfl, trivial⟩ ?_
  refine c_cond (b := decide (a1 < b1)) (ev_tmp rfl rfl) (fun hb => ?_) (fun hb => ?_)
  · replace h := ite_t hb h
    refine c_seq ?_
    refine c_region rfl ?_
    refine s_q rfl rfl (y_assign rfl ev_const) ?_
    refine s_nil ?_
    refine k_next (e := [(4, (Value.int .i64 (-1)))]) ⟨rfl, trivial⟩ ?_
    refine c_ret ?_
    obtain rfl := some_inj h
    exact q_ret (vs := [(Value.int .i64 (-1))]) Tryd.results66 ⟨ev_tmp rfl rfl, trivial⟩ ⟨rfl, hI.ext0, hI.fin trivial⟩
  · replace h := ite_f hb h
    refine c_seq ?_
    refine c_region rfl ?_
    refine s_q rfl rfl (y_move rfl (ev_tmp rfl rfl)) ?_
    refine s_q rfl rfl (y_move rfl (ev_tmp rfl rfl)) ?_
    refine s_q rfl rfl (y_gtr rfl (ev_tmp rfl rfl) (ev_tmp rfl rfl)) ?_
    refine s_q rfl rfl (y_assign rfl (ev_tmp rfl rfl)) ?_
    refine s_nil ?_
    refine k_next (e := [(9, (Value.bool (decide (b1 < a1))))]) ⟨rfl, trivial⟩ ?_
    refine c_cond (b := decide (b1 < a1)) (ev_tmp rfl rfl) (fun hb => ?_) (fun hb => ?_)
    · replace h := ite_t hb h
      refine c_seq ?_
      refine c_region rfl ?_
      refine s_q rfl rfl (y_assign rfl ev_const) ?_
      refine s_nil ?_
      refine k_next (e := [(4, (Value.int .i64 1))]) ⟨rfl, trivial⟩ ?_
      refine c_ret ?_
      obtain rfl := some_inj h
      exact q_ret (vs := [(Value.int .i64 1)]) Tryd.results66 ⟨ev_tmp rfl rfl, trivial⟩ ⟨rfl, hI.ext0, hI.fin trivial⟩
    · replace h := ite_f hb h
      refine c_skip ?_
      refine k_next (e := []) trivial ?_
      refine c_seq ?_
      refine c_region rfl ?_
      refine s_q rfl rfl (y_assign rfl ev_const) ?_
      refine s_nil ?_
      refine k_next (e := [(4, (Value.int .i64 0))]) ⟨rfl, trivial⟩ ?_
      refine c_ret ?_
      obtain rfl := some_inj h
      exact q_ret (vs := [(Value.int .i64 0)]) Tryd.results66 ⟨ev_tmp rfl rfl, trivial⟩ ⟨rfl, hI.ext0, hI.fin trivial⟩

set_option maxRecDepth 100000 in
set_option maxHeartbeats 4000000 in
theorem c_frac_Compare (F : NP) (w0 : World) (hF : ∀ k, F k → k < w0.heap.size) (a1 : GVal) (b1 : GVal) (hc : AllCl [] F w0) (r : Int)
    (h : m_frac_Compare a1 b1 = some r) :
    Calls Tryd.prog 35 #[(Value.agg #[(Value.int .i64 a1.N), (Value.int .i64 a1.D)]), (Value.agg #[(Value.int .i64 b1.N), (Value.int .i64 b1.D)])] w0 fun e w => e = .returned (Value.int .i64 r) ∧ Ext w0 w ∧ AllCl [] F w := by
  refine ofEnter (R := fun v w => v = (Value.int .i64 r) ∧ Ext w0 w ∧ AllCl [] F w) (enter (l := [(Value.agg #[(Value.int .i64 a1.N), (Value.int .i64 a1.D)]), (Value.agg #[(Value.int .i64 b1.N), (Value.int .i64 b1.D)])]) Tryd.func35 rfl Tryd.ntmps35 rfl ?_) ?_
  rotate_left
  · rintro _ w ⟨rfl, k1, k2⟩; exact ⟨rfl, k1, k2⟩
  have hI := Bun.start hF hc
  clear hc
  rw [m_frac_Compare] at h
  refine c_seq ?_
  refine c_region rfl ?_
  refine l_box (v := (Value.agg #[(Value.int .i64 a1.N), (Value.int .i64 a1.D)])) (cs := #[(Value.int .i64 a1.N), (Value.int .i64 a1.D)]) hI rfl rfl rfl (ev_tmp rfl rfl) rfl ?_
  clear hI; intro b2 c1 w1 hI
  obtain ⟨c2, hI⟩ := hI.relBox .z
  refine l_box (v := (Value.agg #[(Value.int .i64 b1.N), (Value.int .i64 b1.D)])) (cs := #[(Value.int .i64 b1.N), (Value.int .i64 b1.D)]) hI rfl rfl rfl (ev_tmp rfl rfl) rfl ?_
  clear hI; intro b3 c3 w2 hI
  obtain ⟨c4, hI⟩ := hI.relBox .z
  refine s_q rfl rfl (y_assign rfl ev_const) ?_
  refine s_nil ?_
  refine k_next (e := [(2, (Value.pointer (some ⟨b2, 0, none⟩))), (3, (Value.pointer (some ⟨b3, 0, none⟩)))]) ⟨rfl, rfl, trivial⟩ ?_
  refine c_seq ?_
  refine c_seq ?_
  refine c_region rfl ?_
  refine s_q rfl rfl (y_loadN (l := [(Value.int .i64 a1.N), (Value.int .i64 a1.D)]) rfl (ev_tmp rfl rfl) Tryd.underlying23 rfl size_23 (hI.kblk (l := [(Value.int .i64 a1.N), (Value.int .i64 a1.D)]) (.s .z) rfl).1) ?_
  obtain ⟨r1, hx1, h⟩ := bnd_some h
  refine s_call rfl rfl (r_callF (vs := [(Value.agg #[(Value.int .i64 a1.N), (Value.int .i64 a1.D)])]) rfl ok_14 ⟨(ev_tmp rfl rfl), trivial⟩) (Calls.mono (c_frac_Valid (Dj F c4) w2 hI.lt a1 trivial r1 hx1) ?_)
  rintro _ w3 ⟨rfl, hx2, hl1⟩
  refine ⟨_, rfl, ?_⟩
  replace hI := (hI.ext hx2)
  refine s_q rfl rfl (y_move rfl (ev_tmp rfl rfl)) ?_
  refine s_gval (g_true rfl rfl rfl rfl) rfl (fun hc => (y_loadN (l := [(Value.int .i64 b1.N), (Value.int .i64 b1.D)]) rfl (ev_tmp rfl rfl) Tryd.underlying23 rfl size_23 (hI.kblk (l := [(Value.int .i64 b1.N), (Value.int .i64 b1.D)]) .z rfl).1)) ?_
  obtain ⟨r2, hx3, h⟩ := bnd_some h
  replace hx3 := gd_some hx3
  refine s_gcallU (v := (Value.bool r2)) (g_true rfl rfl rfl rfl) rfl (fun hc => (r_callF (vs := [(Value.agg #[(Value.int .i64 b1.N), (Value.int .i64 b1.D)])]) rfl ok_14 ⟨(ev_gv (ev_tmp rfl rfl) hc), trivial⟩)) (fun hc => (c_frac_Valid (Dj F c4) w3 hI.lt b1 trivial r2 (hx3 hc)).mono fun _ _ k => ⟨k.1, k.2.1⟩) ?_
  intro w4 hx4; replace hI := hI.ext hx4
  refine s_q rfl rfl (y_and rfl (ev_tmp rfl rfl) (ev_tmp rfl rfl)) ?_
  refine s_nil ?_
  refine k_next (e := [(2, (Value.pointer (some ⟨b2, 0, none⟩))), (3, (Value.pointer (some ⟨b3, 0, none⟩))), (11, (Value.bool (r1 && r2)))]) ⟨rfl, rfl, rfl, trivial⟩ ?_
  refine c_cond (b := r1 && r2) (ev_tmp rfl rfl) (fun hb => ?_) (fun hb => ?_)
  · replace h := ite_t hb h
    refine c_seq ?_
    refine c_region rfl ?_
    refine s_q rfl rfl (y_fieldAddr rfl (ev_tmp rfl rfl) Tryd.underlying23 rfl size_2 rfl) ?_
    refine s_q rfl rfl (y_load1 (v := (Value.int .i64 a1.N)) rfl (ev_tmp rfl rfl) Tryd.underlying2 rfl (hI.kblk (l := [(Value.int .i64 a1.N)]) (.s .z) rfl).1) ?_
    refine s_q rfl rfl (y_fieldAddr rfl (ev_tmp rfl rfl) Tryd.underlying23 rfl size_2 rfl) ?_
    refine s_q rfl rfl (y_load1 (v := (Value.int .i64 b1.D)) rfl (ev_tmp rfl rfl) Tryd.underlying2 rfl (hI.kblk (l := [(Value.int .i64 b1.D)]) .z rfl).1) ?_
    refine s_q rfl rfl (y_mul rfl (ev_tmp rfl rfl) (ev_tmp rfl rfl)) ?_
    refine s_q rfl rfl (y_fieldAddr rfl (ev_tmp rfl rfl) Tryd.underlying23 rfl size_2 rfl) ?_
    refine s_q rfl rfl (y_load1 (v := (Value.int .i64 b1.N)) rfl (ev_tmp rfl rfl) Tryd.underlying2 rfl (hI.kblk (l := [(Value.int .i64 b1.N)]) .z rfl).1) ?_
    refine s_q rfl rfl (y_fieldAddr rfl (ev_tmp rfl rfl) Tryd.underlying23 rfl size_2 rfl) ?_
    refine s_q rfl rfl (y_load1 (v := (Value.int .i64 a1.D)) rfl (ev_tmp rfl rfl) Tryd.underlying2 rfl (hI.kblk (l := [(Value.int .i64 a1.D)]) (.s .z) rfl).1) ?_
    refine s_q rfl rfl (y_mul rfl (ev_tmp rfl rfl) (ev_tmp rfl rfl)) ?_
    obtain ⟨r3, hx5, h⟩ := bnd_some h
    refine s_call rfl rfl (r_callF (vs := [(Value.int .i64 (wi64 (a1.N * b1.D))), (Value.int .i64 (wi64 (b1.N * a1.D)))]) rfl ok_66 ⟨(ev_tmp rfl rfl), ⟨(ev_tmp rfl rfl), trivial⟩⟩) (Calls.mono (c_frac_order (Dj F c4) w4 hI.lt (wi64 (a1.N * b1.D)) (wi64 (b1.N * a1.D)) trivial r3 hx5) ?_)
    rintro _ w5 ⟨rfl, hx6, hl3⟩
    refine ⟨_, rfl, ?_⟩
    replace hI := (hI.ext hx6)
    refine s_q rfl rfl (y_assign rfl (ev_tmp rfl rfl)) ?_
    refine s_nil ?_
    refine k_next (e := [(4, (Value.int .i64 r3))]) ⟨rfl, trivial⟩ ?_
    refine c_ret ?_
    obtain rfl := some_inj h
    exact q_ret (vs := [(Value.int .i64 r3)]) Tryd.results35 ⟨ev_tmp rfl rfl, trivial⟩ ⟨rfl, hI.ext0, hI.fin trivial⟩
  · replace h := ite_f hb h
    refine c_skip ?_
    refine k_next (e := [(2, (Value.pointer (some ⟨b2, 0, none⟩))), (3, (Value.pointer (some ⟨b3, 0, none⟩)))]) ⟨rfl, rfl, trivial⟩ ?_
    refine c_seq ?_
    refine c_seq ?_
    refine c_region rfl ?_
    refine s_q rfl rfl (y_fieldAddr rfl (ev_tmp rfl rfl) Tryd.underlying23 rfl size_2 rfl) ?_
    refine s_q rfl rfl (y_load1 (v := (Value.int .i64 a1.N)) rfl (ev_tmp rfl rfl) Tryd.underlying2 rfl (hI.kblk (l := [(Value.int .i64 a1.N)]) (.s .z) rfl).1) ?_
    refine s_q rfl rfl (y_fieldAddr rfl (ev_tmp rfl rfl) Tryd.underlying23 rfl size_2 rfl) ?_
    refine s_q rfl rfl (y_load1 (v := (Value.int .i64 b1.N)) rfl (ev_tmp rfl rfl) Tryd.underlying2 rfl (hI.kblk (l := [(Value.int .i64 b1.N)]) .z rfl).1) ?_
    obtain ⟨r4, hx7, h⟩ := bnd_some h
    refine s_call rfl rfl (r_callF (vs := [(Value.int .i64 a1.N), (Value.int .i64 b1.N)]) rfl ok_66 ⟨(ev_tmp rfl rfl), ⟨(ev_tmp rfl rfl), trivial⟩⟩) (Calls.mono (c_frac_order (Dj F c4) w4 hI.lt a1.N b1.N trivial r4 hx7) ?_)
    rintro _ w6 ⟨rfl, hx8, hl4⟩
    refine ⟨_, rfl, ?_⟩
    replace hI := (hI.ext hx8)
    refine s_q rfl rfl (y_assign rfl (ev_tmp rfl rfl)) ?_
    refine s_nil ?_
    refine k_next (e := [(2, (Value.pointer (some ⟨b2, 0, none⟩))), (3, (Value.pointer (some ⟨b3, 0, none⟩))), (5, (Value.int .i64 r4))]) ⟨rfl, rfl, rfl, trivial⟩ ?_
    refine c_seq ?_
    refine c_region rfl ?_
    refine s_q rfl rfl (y_move rfl (ev_tmp rfl rfl)) ?_
    refine s_q rfl rfl (y_neq rfl (ev_tmp rfl rfl) ev_const) ?_
    refine s_nil ?_
    refine k_next (e := [(2, (Value.pointer (some ⟨b2, 0, none⟩))), (3, (Value.pointer (some ⟨b3, 0, none⟩))), (5, (Value.int .i64 r4)), (29, (Value.bool (!decide (r4 = 0))))]) ⟨rfl, rfl, rfl, rfl, trivial⟩ ?_
    refine c_cond (b := !decide (r4 = 0)) (ev_tmp rfl rfl) (fun hb => ?_) (fun hb => ?_)
    · replace h := ite_t hb h
      refine c_seq ?_
      refine c_region rfl ?_
      refine s_q rfl rfl (y_move rfl (ev_tmp rfl rfl)) ?_
      refine s_q rfl rfl (y_assign rfl (ev_tmp rfl rfl)) ?_
      refine s_nil ?_
      refine k_next (e := [(4, (Value.int .i64 r4))]) ⟨rfl, trivial⟩ ?_
      refine c_ret ?_
      obtain rfl := some_inj h
      exact q_ret (vs := [(Value.int .i64 r4)]) Tryd.results35 ⟨ev_tmp rfl rfl, trivial⟩ ⟨rfl, hI.ext0, hI.fin trivial⟩
    · replace h := ite_f hb h
      refine c_skip ?_
      refine k_next (e := [(2, (Value.pointer (some ⟨b2, 0, none⟩))), (3, (Value.pointer (some ⟨b3, 0, none⟩)))]) ⟨rfl, rfl, trivial⟩ ?_
      refine c_seq ?_
      refine c_region rfl ?_
      refine s_q rfl rfl (y_fieldAddr rfl (ev_tmp rfl rfl) Tryd.underlying23 rfl size_2 rfl) ?_
      refine s_q rfl rfl (y_load1 (v := (Value.int .i64 a1.D)) rfl (ev_tmp rfl rfl) Tryd.underlying2 rfl (hI.kblk (l := [(Value.int .i64 a1.D)]) (.s .z) rfl).1) ?_
      refine s_q rfl rfl (y_fieldAddr rfl (ev_tmp rfl rfl) Tryd.underlying23 rfl size_2 rfl) ?_
      refine s_q rfl rfl (y_load1 (v := (Value.int .i64 b1.D)) rfl (ev_tmp rfl rfl) Tryd.underlying2 rfl (hI.kblk (l := [(Value.int .i64 b1.D)]) .z rfl).1) ?_
      obtain ⟨r5, hx9, h⟩ := bnd_some h
      refine s_call rfl rfl (r_callF (vs := [(Value.int .i64 a1.D), (Value.int .i64 b1.D)]) rfl ok_66 ⟨(ev_tmp rfl rfl), ⟨(ev_tmp rfl rfl), trivial⟩⟩) (Calls.mono (c_frac_order (Dj F c4) w6 hI.lt a1.D b1.D trivial r5 hx9) ?_)
      rintro _ w7 ⟨rfl, hx10, hl5⟩
      refine ⟨_, rfl, ?_⟩
      replace hI := (hI.ext hx10)
      refine s_q rfl rfl (y_assign rfl (ev_tmp rfl rfl)) ?_
      refine s_nil ?_
      refine k_next (e := [(4, (Value.int .i64 r5))]) ⟨rfl, trivial⟩ ?_
      refine c_ret ?_
      obtain rfl := some_inj h
      exact q_ret (vs := [(Value.int .i64 r5)]) Tryd.results35 ⟨ev_tmp rfl rfl, trivial⟩ ⟨rfl, hI.ext0, hI.fin trivial⟩

set_option maxRecDepth 100000 in
set_option maxHeartbeats 4000000 in
theorem c_ref01_order (F : NP) (w0 : World) (hF : ∀ k, F k → k < w0.heap.size) (a1 : Int) (b1 : Int) (hc : AllCl [] F w0) (r : Int)
    (h : m_ref01_order a1 b1 = some r) :
    Calls Tryd.prog 67 #[(Value.int .i64 a1), (Value.int .i64 b1)] w0 fun e w => e = .returned (Value.int .i64 r) ∧ Ext w0 w ∧ AllCl [] F w := by
  refine ofEnter (R := fun v w => v = (Value.int .i64 r) ∧ Ext w0 w ∧ AllCl [] F w) (enter (l := [(Value.int .i64 a1), (Value.int .i64 b1)]) Tryd.func67 rfl Tryd.ntmps67 rfl ?_) ?_
  rotate_left
  · rintro _ w ⟨rfl, k1, k2⟩; exact ⟨rfl, k1, k2⟩
  have hI := Bun.start hF hc
  clear hc
  rw [m_ref01_order] at h
  refine c_seq ?_
  refine c_region rfl ?_
  refine s_q rfl rfl (y_assign rfl ev_const) ?_
  refine s_nil ?_
  refine k_next (e := [(0, (Value.int .i64 a1)), (1, (Value.int .i64 b1))]) ⟨rfl, rfl, trivial⟩ ?_
  refine c_seq ?_
  refine c_seq ?_
  refine c_region rfl ?_
  refine s_q rfl rfl (y_move rfl (ev_tmp rfl rfl)) ?_
  refine s_q rfl rfl (y_move rfl (ev_tmp rfl rfl)) ?_
  refine s_q rfl rfl (y_lss rfl (ev_tmp rfl rfl) (ev_tmp rfl rfl)) ?_
  refine s_nil ?_
  refine k_next (e := [(0, (Value.int .i64 a1)), (1, (Value.int .i64 b1)), (7, (Value.bool (decide (a1 < b1))))]) ⟨rfl, rfl, rfl, trivial⟩ ?_
  refine c_cond (b := decide (a1 < b1)) (ev_tmp rfl rfl) (fun hb => ?_) (fun hb => ?_)
  · replace h := ite_t hb h
    refine c_seq ?_
    refine c_region rfl ?_
    refine s_q rfl rfl (y_assign rfl ev_const) ?_
    refine s_nil ?_
    refine k_next (e := [(4, (Value.int .i64 (-1)))]) ⟨rfl, trivial⟩ ?_
    refine c_ret ?_
    obtain rfl := some_inj h
    exact q_ret (vs := [(Value.int .i64 (-1))]) Tryd.results67 ⟨ev_tmp rfl rfl, trivial⟩ ⟨rfl, hI.ext0, hI.fin trivial⟩
  · replace h := ite_f hb h
    refine c_skip ?_
    refine k_next (e := [(0, (Value.int .i64 a1)), (1, (Value.int .i64 b1))]) ⟨rfl, rfl, trivial⟩ ?_
    refine c_seq ?_
    refine c_seq ?_
    refine c_region rfl ?_
    refine s_q rfl rfl (y_move rfl (ev_tmp rfl rfl)) ?_
    refine s_q rfl rfl (y_move rfl (ev_tmp rfl rfl)) ?_
    refine s_q rfl rfl (y_gtr rfl (ev_tmp rfl rfl) (ev_tmp rfl rfl)) ?_
    refine s_nil ?_
    refine k_next (e := [(10, (Value.bool (decide (b1 < a1))))]) ⟨rfl, trivial⟩ ?_
    refine c_cond (b := decide (b1 < a1)) (ev_tmp rfl rfl) (fun hb => ?_) (fun hb => ?_)
    · replace h := ite_t hb h
      refine c_seq ?_
      refine c_region rfl ?_
      refine s_q rfl rfl (y_assign rfl ev_const) ?_
      refine s_nil ?_
      refine k_next (e := [(4, (Value.int .i64 1))]) ⟨rfl, trivial⟩ ?_
      refine c_ret ?_
      obtain rfl := some_inj h
      exact q_ret (vs := [(Value.int .i64 1)]) Tryd.results67 ⟨ev_tmp rfl rfl, trivial⟩ ⟨rfl, hI.ext0, hI.fin trivial⟩
    · replace h := ite_f hb h
      refine c_skip ?_
      refine k_next (e := []) trivial ?_
      refine c_seq ?_
      refine c_region rfl ?_
      refine s_q rfl rfl (y_assign rfl ev_const) ?_
      refine s_nil ?_
      refine k_next (e := [(4, (Value.int .i64 0))]) ⟨rfl, trivial⟩ ?_
      refine c_ret ?_
      obtain rfl := some_inj h
      exact q_ret (vs := [(Value.int .i64 0)]) Tryd.results67 ⟨ev_tmp rfl rfl, trivial⟩ ⟨rfl, hI.ext0, hI.fin trivial⟩

set_option maxRecDepth 100000 in
set_option maxHeartbeats 4000000 in
theorem c_ref01_Compare (F : NP) (w0 : World) (hF : ∀ k, F k → k < w0.heap.size) (a1 : GVal) (b1 : GVal) (hc : AllCl [] F w0) (r : Int)
    (h : m_ref01_Compare a1 b1 = some r) :
    Calls Tryd.prog 36 #[(Value.agg #[(Value.int .i64 a1.N), (Value.int .i64 a1.D)]), (Value.agg #[(Value.int .i64 b1.N), (Value.int .i64 b1.D)])] w0 fun e w => e = .returned (Value.int .i64 r) ∧ Ext w0 w ∧ AllCl [] F w := by
  refine ofEnter (R := fun v w => v = (Value.int .i64 r) ∧ Ext w0 w ∧ AllCl [] F w) (enter (l := [(Value.agg #[(Value.int .i64 a1.N), (Value.int .i64 a1.D)]), (Value.agg #[(Value.int .i64 b1.N), (Value.int .i64 b1.D)])]) Tryd.func36 rfl Tryd.ntmps36 rfl ?_) ?_
  rotate_left
  · rintro _ w ⟨rfl, k1, k2⟩; exact ⟨rfl, k1, k2⟩
  have hI := Bun.start hF hc
  clear hc
  rw [m_ref01_Compare] at h
  refine c_seq ?_
  refine c_region rfl ?_
  refine l_box (v := (Value.agg #[(Value.int .i64 a1.N), (Value.int .i64 a1.D)])) (cs := #[(Value.int .i64 a1.N), (Value.int .i64 a1.D)]) hI rfl rfl rfl (ev_tmp rfl rfl) rfl ?_
  clear hI; intro b2 c1 w1 hI
  obtain ⟨c2, hI⟩ := hI.relBox .z
  refine l_box (v := (Value.agg #[(Value.int .i64 b1.N), (Value.int .i64 b1.D)])) (cs := #[(Value.int .i64 b1.N), (Value.int .i64 b1.D)]) hI rfl rfl rfl (ev_tmp rfl rfl) rfl ?_
  clear hI; intro b3 c3 w2 hI
  obtain ⟨c4, hI⟩ := hI.relBox .z
  refine s_q rfl rfl (y_assign rfl ev_const) ?_
  refine s_nil ?_
  refine k_next (e := [(2, (Value.pointer (some ⟨b2, 0, none⟩))), (3, (Value.pointer (some ⟨b3, 0, none⟩)))]) ⟨rfl, rfl, trivial⟩ ?_
  refine c_seq ?_
  refine c_seq ?_
  refine c_region rfl ?_
  refine s_q rfl rfl (y_loadN (l := [(Value.int .i64 a1.N), (Value.int .i64 a1.D)]) rfl (ev_tmp rfl rfl) Tryd.underlying23 rfl size_23 (hI.kblk (l := [(Value.int .i64 a1.N), (Value.int .i64 a1.D)]) (.s .z) rfl).1) ?_
  obtain ⟨r1, hx1, h⟩ := bnd_some h
  refine s_call rfl rfl (r_callF (vs := [(Value.agg #[(Value.int .i64 a1.N), (Value.int .i64 a1.D)])]) rfl ok_15 ⟨(ev_tmp rfl rfl), trivial⟩) (Calls.mono (c_ref01_Valid (Dj F c4) w2 hI.lt a1 trivial r1 hx1) ?_)
  rintro _ w3 ⟨rfl, hx2, hl1⟩
  refine ⟨_, rfl, ?_⟩
  replace hI := (hI.ext hx2)
  refine s_q rfl rfl (y_move rfl (ev_tmp rfl rfl)) ?_
  refine s_gval (g_true rfl rfl rfl rfl) rfl (fun hc => (y_loadN (l := [(Value.int .i64 b1.N), (Value.int .i64 b1.D)]) rfl (ev_tmp rfl rfl) Tryd.underlying23 rfl size_23 (hI.kblk (l := [(Value.int .i64 b1.N), (Value.int .i64 b1.D)]) .z rfl).1)) ?_
  obtain ⟨r2, hx3, h⟩ := bnd_some h
  replace hx3 := gd_some hx3
  refine s_gcallU (v := (Value.bool r2)) (g_true rfl rfl rfl rfl) rfl (fun hc => (r_callF (vs := [(Value.agg #[(Value.int .i64 b1.N), (Value.int .i64 b1.D)])]) rfl ok_15 ⟨(ev_gv (ev_tmp rfl rfl) hc), trivial⟩)) (fun hc => (c_ref01_Valid (Dj F c4) w3 hI.lt b1 trivial r2 (hx3 hc)).mono fun _ _ k => ⟨k.1, k.2.1⟩) ?_
  intro w4 hx4; replace hI := hI.ext hx4
  refine s_q rfl rfl (y_and rfl (ev_tmp rfl rfl) (ev_tmp rfl rfl)) ?_
  refine s_nil ?_
  refine k_next (e := [(2, (Value.pointer (some ⟨b2, 0, none⟩))), (3, (Value.pointer (some ⟨b3, 0, none⟩))), (10, (Value.bool (r1 && r2)))]) ⟨rfl, rfl, rfl, trivial⟩ ?_
  refine c_cond (b := r1 && r2) (ev_tmp rfl rfl) (fun hb => ?_) (fun hb => ?_)
  · replace h := ite_t hb h
    refine c_seq ?_
    refine c_region rfl ?_
    refine s_q rfl rfl (y_fieldAddr rfl (ev_tmp rfl rfl) Tryd.underlying23 rfl size_2 rfl) ?_
    refine s_q rfl rfl (y_load1 (v := (Value.int .i64 a1.N)) rfl (ev_tmp rfl rfl) Tryd.underlying2 rfl (hI.kblk (l := [(Value.int .i64 a1.N)]) (.s .z) rfl).1) ?_
    refine s_q rfl rfl (y_fieldAddr rfl (ev_tmp rfl rfl) Tryd.underlying23 rfl size_2 rfl) ?_
    refine s_q rfl rfl (y_load1 (v := (Value.int .i64 b1.D)) rfl (ev_tmp rfl rfl) Tryd.underlying2 rfl (hI.kblk (l := [(Value.int .i64 b1.D)]) .z rfl).1) ?_
    refine s_q rfl rfl (y_mul rfl (ev_tmp rfl rfl) (ev_tmp rfl rfl)) ?_
    refine s_q rfl rfl (y_fieldAddr rfl (ev_tmp rfl rfl) Tryd.underlying23 rfl size_2 rfl) ?_
    refine s_q rfl rfl (y_load1 (v := (Value.int .i64 b1.N)) rfl (ev_tmp rfl rfl) Tryd.underlying2 rfl (hI.kblk (l := [(Value.int .i64 b1.N)]) .z rfl).1) ?_
    refine s_q rfl rfl (y_fieldAddr rfl (ev_tmp rfl rfl) Tryd.underlying23 rfl size_2 rfl) ?_
    refine s_q rfl rfl (y_load1 (v := (Value.int .i64 a1.D)) rfl (ev_tmp rfl rfl) Tryd.underlying2 rfl (hI.kblk (l := [(Value.int .i64 a1.D)]) (.s .z) rfl).1) ?_
    refine s_q rfl rfl (y_mul rfl (ev_tmp rfl rfl) (ev_tmp rfl rfl)) ?_
    obtain ⟨r3, hx5, h⟩ := bnd_some h
    refine s_call rfl rfl (r_callF (vs := [(Value.int .i64 (wi64 (a1.N * b1.D))), (Value.int .i64 (wi64 (b1.N * a1.D)))]) rfl ok_67 ⟨(ev_tmp rfl rfl), ⟨(ev_tmp rfl rfl), trivial⟩⟩) (Calls.mono (c_ref01_order (Dj F c4) w4 hI.lt (wi64 (a1.N * b1.D)) (wi64 (b1.N * a1.D)) trivial r3 hx5) ?_)
    rintro _ w5 ⟨rfl, hx6, hl3⟩
    refine ⟨_, rfl, ?_⟩
    replace hI := (hI.ext hx6)
    refine s_q rfl rfl (y_assign rfl (ev_tmp rfl rfl)) ?_
    refine s_nil ?_
    refine k_next (e := [(4, (Value.int .i64 r3))]) ⟨rfl, trivial⟩ ?_
    refine c_ret ?_
    obtain rfl := some_inj h
    exact q_ret (vs := [(Value.int .i64 r3)]) Tryd.results36 ⟨ev_tmp rfl rfl, trivial⟩ ⟨rfl, hI.ext0, hI.fin trivial⟩
  · replace h := ite_f hb h
    refine c_skip ?_
    refine k_next (e := [(2, (Value.pointer (some ⟨b2, 0, none⟩))), (3, (Value.pointer (some ⟨b3, 0, none⟩)))]) ⟨rfl, rfl, trivial⟩ ?_
    refine c_seq ?_
    refine c_seq ?_
    refine c_region rfl ?_
    refine s_q rfl rfl (y_fieldAddr rfl (ev_tmp rfl rfl) Tryd.underlying23 rfl size_2 rfl) ?_
    refine s_q rfl rfl (y_load1 (v := (Value.int .i64 a1.N)) rfl (ev_tmp rfl rfl) Tryd.underlying2 rfl (hI.kblk (l := [(Value.int .i64 a1.N)]) (.s .z) rfl).1) ?_
    refine s_q rfl rfl (y_fieldAddr rfl (ev_tmp rfl rfl) Tryd.underlying23 rfl size_2 rfl) ?_
    refine s_q rfl rfl (y_load1 (v := (Value.int .i64 b1.N)) rfl (ev_tmp rfl rfl) Tryd.underlying2 rfl (hI.kblk (l := [(Value.int .i64 b1.N)]) .z rfl).1) ?_
    refine s_q rfl rfl (y_neq rfl (ev_tmp rfl rfl) (ev_tmp rfl rfl)) ?_
    refine s_nil ?_
    refine k_next (e := [(2, (Value.pointer (some ⟨b2, 0, none⟩))), (3, (Value.pointer (some ⟨b3, 0, none⟩))), (26, (Value.bool (!decide (a1.N = b1.N))))]) ⟨rfl, rfl, rfl, trivial⟩ ?_
    refine c_cond (b := !decide (a1.N = b1.N)) (ev_tmp rfl rfl) (fun hb => ?_) (fun hb => ?_)
    · replace h := ite_t hb h
      refine c_seq ?_
      refine c_region rfl ?_
      refine s_q rfl rfl (y_fieldAddr rfl (ev_tmp rfl rfl) Tryd.underlying23 rfl size_2 rfl) ?_
      refine s_q rfl rfl (y_load1 (v := (Value.int .i64 a1.N)) rfl (ev_tmp rfl rfl) Tryd.underlying2 rfl (hI.kblk (l := [(Value.int .i64 a1.N)]) (.s .z) rfl).1) ?_
      refine s_q rfl rfl (y_fieldAddr rfl (ev_tmp rfl rfl) Tryd.underlying23 rfl size_2 rfl) ?_
      refine s_q rfl rfl (y_load1 (v := (Value.int .i64 b1.N)) rfl (ev_tmp rfl rfl) Tryd.underlying2 rfl (hI.kblk (l := [(Value.int .i64 b1.N)]) .z rfl).1) ?_
      obtain ⟨r4, hx7, h⟩ := bnd_some h
      refine s_call rfl rfl (r_callF (vs := [(Value.int .i64 a1.N), (Value.int .i64 b1.N)]) rfl ok_67 ⟨(ev_tmp rfl rfl), ⟨(ev_tmp rfl rfl), trivial⟩⟩) (Calls.mono (c_ref01_order (Dj F c4) w4 hI.lt a1.N b1.N trivial r4 hx7) ?_)
      rintro _ w6 ⟨rfl, hx8, hl4⟩
      refine ⟨_, rfl, ?_⟩
      replace hI := (hI.ext hx8)
      refine s_q rfl rfl (y_assign rfl (ev_tmp rfl rfl)) ?_
      refine s_nil ?_
      refine k_next (e := [(4, (Value.int .i64 r4))]) ⟨rfl, trivial⟩ ?_
      refine c_ret ?_
      obtain rfl := some_inj h
      exact q_ret (vs := [(Value.int .i64 r4)]) Tryd.results36 ⟨ev_tmp rfl rfl, trivial⟩ ⟨rfl, hI.ext0, hI.fin trivial⟩
    · replace h := ite_f hb h
      refine c_skip ?_
      refine k_next (e := [(2, (Value.pointer (some ⟨b2, 0, none⟩))), (3, (Value.pointer (some ⟨b3, 0, none⟩)))]) ⟨rfl, rfl, trivial⟩ ?_
      refine c_seq ?_
      refine c_region rfl ?_
      refine s_q rfl rfl (y_fieldAddr rfl (ev_tmp rfl rfl) Tryd.underlying23 rfl size_2 rfl) ?_
      refine s_q rfl rfl (y_load1 (v := (Value.int .i64 a1.D)) rfl (ev_tmp rfl rfl) Tryd.underlying2 rfl (hI.kblk (l := [(Value.int .i64 a1.D)]) (.s .z) rfl).1) ?_
      refine s_q rfl rfl (y_fieldAddr rfl (ev_tmp rfl rfl) Tryd.underlying23 rfl size_2 rfl) ?_
      refine s_q rfl rfl (y_load1 (v := (Value.int .i64 b1.D)) rfl (ev_tmp rfl rfl) Tryd.underlying2 rfl (hI.kblk (l := [(Value.int .i64 b1.D)]) .z rfl).1) ?_
      obtain ⟨r5, hx9, h⟩ := bnd_some h
      refine s_call rfl rfl (r_callF (vs := [(Value.int .i64 a1.D), (Value.int .i64 b1.D)]) rfl ok_67 ⟨(ev_tmp rfl rfl), ⟨(ev_tmp rfl rfl), trivial⟩⟩) (Calls.mono (c_ref01_order (Dj F c4) w4 hI.lt a1.D b1.D trivial r5 hx9) ?_)
      rintro _ w7 ⟨rfl, hx10, hl5⟩
      refine ⟨_, rfl, ?_⟩
      replace hI := (hI.ext hx10)
      refine s_q rfl rfl (y_assign rfl (ev_tmp rfl rfl)) ?_
      refine s_nil ?_
      refine k_next (e := [(4, (Value.int .i64 r5))]) ⟨rfl, trivial⟩ ?_
      refine c_ret ?_
      obtain rfl := some_inj h
      exact q_ret (vs := [(Value.int .i64 r5)]) Tryd.results36 ⟨ev_tmp rfl rfl, trivial⟩ ⟨rfl, hI.ext0, hI.fin trivial⟩

set_option maxRecDepth 100000 in
set_option maxHeartbeats 4000000 in
theorem c_ref01_Floor (F : NP) (w0 : World) (hF : ∀ k, F k → k < w0.heap.size) (a1 : GVal) (hc : AllCl [] F w0) (r : Int)
    (h : m_ref01_Floor a1 = some r) :
    Calls Tryd.prog 37 #[(Value.agg #[(Value.int .i64 a1.N), (Value.int .i64 a1.D)])] w0 fun e w => e = .returned (Value.int .i64 r) ∧ Ext w0 w ∧ AllCl [] F w := by
  refine ofEnter (R := fun v w => v = (Value.int .i64 r) ∧ Ext w0 w ∧ AllCl [] F w) (enter (l := [(Value.agg #[(Value.int .i64 a1.N), (Value.int .i64 a1.D)])]) Tryd.func37 rfl Tryd.ntmps37 rfl ?_) ?_
  rotate_left
  · rintro _ w ⟨rfl, k1, k2⟩; exact ⟨rfl, k1, k2⟩
  have hI := Bun.start hF hc
  clear hc
  rw [m_ref01_Floor] at h
  refine c_seq ?_
  refine c_region rfl ?_
  refine l_box (v := (Value.agg #[(Value.int .i64 a1.N), (Value.int .i64 a1.D)])) (cs := #[(Value.int .i64 a1.N), (Value.int .i64 a1.D)]) hI rfl rfl rfl (ev_tmp rfl rfl) rfl ?_
  clear hI; intro b1 c1 w1 hI
  obtain ⟨c2, hI⟩ := hI.relBox .z
  refine s_q rfl rfl (y_assign rfl ev_const) ?_
  refine s_nil ?_
  refine k_next (e := [(1, (Value.pointer (some ⟨b1, 0, none⟩)))]) ⟨rfl, trivial⟩ ?_
  refine c_seq ?_
  refine c_seq ?_
  refine c_region rfl ?_
  refine s_q rfl rfl (y_loadN (l := [(Value.int .i64 a1.N), (Value.int .i64 a1.D)]) rfl (ev_tmp rfl rfl) Tryd.underlying23 rfl size_23 (hI.kblk (l := [(Value.int .i64 a1.N), (Value.int .i64 a1.D)]) .z rfl).1) ?_
  obtain ⟨r1, hx1, h⟩ := bnd_some h
  refine s_call rfl rfl (r_callF (vs := [(Value.agg #[(Value.int .i64 a1.N), (Value.int .i64 a1.D)])]) rfl ok_15 ⟨(ev_tmp rfl rfl), trivial⟩) (Calls.mono (c_ref01_Valid (Dj F c2) w1 hI.lt a1 trivial r1 hx1) ?_)
  rintro _ w2 ⟨rfl, hx2, hl1⟩
  refine ⟨_, rfl, ?_⟩
  replace hI := (hI.ext hx2)
  refine s_q rfl rfl (y_not rfl (ev_tmp rfl rfl)) ?_
  refine s_nil ?_
  refine k_next (e := [(1, (Value.pointer (some ⟨b1, 0, none⟩))), (6, (Value.bool (!r1)))]) ⟨rfl, rfl, trivial⟩ ?_
  refine c_cond (b := !r1) (ev_tmp rfl rfl) (fun hb => ?_) (fun hb => ?_)
  · replace h := ite_t hb h
    refine c_seq ?_
    refine c_region rfl ?_
    refine s_q rfl rfl (y_assign rfl ev_const) ?_
    refine s_nil ?_
    refine k_next (e := [(2, (Value.int .i64 0))]) ⟨rfl, trivial⟩ ?_
    refine c_ret ?_
    obtain rfl := some_inj h
    exact q_ret (vs := [(Value.int .i64 0)]) Tryd.results37 ⟨ev_tmp rfl rfl, trivial⟩ ⟨rfl, hI.ext0, hI.fin trivial⟩
  · replace h := ite_f hb h
    refine c_skip ?_
    refine k_next (e := [(1, (Value.pointer (some ⟨b1, 0, none⟩)))]) ⟨rfl, trivial⟩ ?_
    refine c_seq ?_
    refine c_region rfl ?_
    refine s_q rfl rfl (y_fieldAddr rfl (ev_tmp rfl rfl) Tryd.underlying23 rfl size_2 rfl) ?_
    refine s_q rfl rfl (y_load1 (v := (Value.int .i64 a1.N)) rfl (ev_tmp rfl rfl) Tryd.underlying2 rfl (hI.kblk (l := [(Value.int .i64 a1.N)]) .z rfl).1) ?_
    refine s_q rfl rfl (y_fieldAddr rfl (ev_tmp rfl rfl) Tryd.underlying23 rfl size_2 rfl) ?_
    refine s_q rfl rfl (y_load1 (v := (Value.int .i64 a1.D)) rfl (ev_tmp rfl rfl) Tryd.underlying2 rfl (hI.kblk (l := [(Value.int .i64 a1.D)]) .z rfl).1) ?_
    obtain ⟨ho1, h⟩ := chk_some h
    refine s_q rfl rfl (y_quo rfl (ev_tmp rfl rfl) (ev_tmp rfl rfl) ho1) ?_
    obtain ⟨n1, hx3, h⟩ := bnd_some h
    refine s_q rfl rfl (binU (y_assign rfl (ev_tmp rfl rfl)) (congrArg (Value.int .i64) (some_inj hx3))) ?_
    refine s_nil ?_
    refine k_next (e := [(1, (Value.pointer (some ⟨b1, 0, none⟩))), (3, (Value.int .i64 n1))]) ⟨rfl, rfl, trivial⟩ ?_
    refine c_seq ?_
    refine c_seq ?_
    refine c_region rfl ?_
    refine s_q rfl rfl (y_move rfl (ev_tmp rfl rfl)) ?_
    refine s_q rfl rfl (y_fieldAddr rfl (ev_tmp rfl rfl) Tryd.underlying23 rfl size_2 rfl) ?_
    refine s_q rfl rfl (y_load1 (v := (Value.int .i64 a1.D)) rfl (ev_tmp rfl rfl) Tryd.underlying2 rfl (hI.kblk (l := [(Value.int .i64 a1.D)]) .z rfl).1) ?_
    refine s_q rfl rfl (y_mul rfl (ev_tmp rfl rfl) (ev_tmp rfl rfl)) ?_
    refine s_q rfl rfl (y_fieldAddr rfl (ev_tmp rfl rfl) Tryd.underlying23 rfl size_2 rfl) ?_
    refine s_q rfl rfl (y_load1 (v := (Value.int .i64 a1.N)) rfl (ev_tmp rfl rfl) Tryd.underlying2 rfl (hI.kblk (l := [(Value.int .i64 a1.N)]) .z rfl).1) ?_
    refine s_q rfl rfl (y_gtr rfl (ev_tmp rfl rfl) (ev_tmp rfl rfl)) ?_
    refine s_nil ?_
    refine k_next (e := [(3, (Value.int .i64 n1)), (18, (Value.bool (decide (a1.N < wi64 (n1 * a1.D)))))]) ⟨rfl, rfl, trivial⟩ ?_
    refine c_cond (b := decide (a1.N < wi64 (n1 * a1.D))) (ev_tmp rfl rfl) (fun hb => ?_) (fun hb => ?_)
    · replace h := ite_t hb h
      refine c_seq ?_
      refine c_region rfl ?_
      refine s_q rfl rfl (y_move rfl (ev_tmp rfl rfl)) ?_
      refine s_q rfl rfl (y_sub rfl (ev_tmp rfl rfl) ev_const) ?_
      refine s_q rfl rfl (y_assign rfl (ev_tmp rfl rfl)) ?_
      refine s_nil ?_
      refine k_next (e := [(2, (Value.int .i64 (wi64 (n1 - 1))))]) ⟨rfl, trivial⟩ ?_
      refine c_ret ?_
      obtain rfl := some_inj h
      exact q_ret (vs := [(Value.int .i64 (wi64 (n1 - 1)))]) Tryd.results37 ⟨ev_tmp rfl rfl, trivial⟩ ⟨rfl, hI.ext0, hI.fin trivial⟩
    · replace h := ite_f hb h
      refine c_skip ?_
      refine k_next (e := [(3, (Value.int .i64 n1))]) ⟨rfl, trivial⟩ ?_
      refine c_seq ?_
      refine c_region rfl ?_
      refine s_q rfl rfl (y_move rfl (ev_tmp rfl rfl)) ?_
      refine s_q rfl rfl (y_assign rfl (ev_tmp rfl rfl)) ?_
      refine s_nil ?_
      refine k_next (e := [(2, (Value.int .i64 n1))]) ⟨rfl, trivial⟩ ?_
      refine c_ret ?_
      obtain rfl := some_inj h
      exact q_ret (vs := [(Value.int .i64 n1)]) Tryd.results37 ⟨ev_tmp rfl rfl, trivial⟩ ⟨rfl, hI.ext0, hI.fin trivial⟩

set_option maxRecDepth 100000 in
set_option maxHeartbeats 4000000 in
theorem c_ref01_Ceil (F : NP) (w0 : World) (hF : ∀ k, F k → k < w0.heap.size) (a1 : GVal) (hc : AllCl [] F w0) (r : Int)
    (h : m_ref01_Ceil a1 = some r) :
    Calls Tryd.prog 38 #[(Value.agg #[(Value.int .i64 a1.N), (Value.int .i64 a1.D)])] w0 fun e w => e = .returned (Value.int .i64 r) ∧ Ext w0 w ∧ AllCl [] F w := by
  refine ofEnter (R := fun v w => v = (Value.int .i64 r) ∧ Ext w0 w ∧ AllCl [] F w) (enter (l := [(Value.agg #[(Value.int .i64 a1.N), (Value.int .i64 a1.D)])]) Tryd.func38 rfl Tryd.ntmps38 rfl ?_) ?_
  rotate_left
  · rintro _ w ⟨rfl, k1, k2⟩; exact ⟨rfl, k1, k2⟩
  have hI := Bun.start hF hc
  clear hc
  rw [m_ref01_Ceil] at h
  refine c_seq ?_
  refine c_region rfl ?_
  refine l_box (v := (Value.agg #[(Value.int .i64 a1.N), (Value.int .i64 a1.D)])) (cs := #[(Value.int .i64 a1.N), (Value.int .i64 a1.D)]) hI rfl rfl rfl (ev_tmp rfl rfl) rfl ?_
  clear hI; intro b1 c1 w1 hI
  obtain ⟨c2, hI⟩ := hI.relBox .z
  refine s_q rfl rfl (y_assign rfl ev_const) ?_
  refine s_nil ?_
  refine k_next (e := [(1, (Value.pointer (some ⟨b1, 0, none⟩)))]) ⟨rfl, trivial⟩ ?_
  refine c_seq ?_
  refine c_region rfl ?_
  refine s_q rfl rfl (y_loadN (l := [(Value.int .i64 a1.N), (Value.int .i64 a1.D)]) rfl (ev_tmp rfl rfl) Tryd.underlying23 rfl size_23 (hI.kblk (l := [(Value.int .i64 a1.N), (Value.int .i64 a1.D)]) .z rfl).1) ?_
  obtain ⟨r1, hx1, h⟩ := bnd_some h
  refine s_call rfl rfl (r_callF (vs := [(Value.agg #[(Value.int .i64 a1.N), (Value.int .i64 a1.D)])]) rfl ok_34 ⟨(ev_tmp rfl rfl), trivial⟩) (Calls.mono (c_ref01_Neg (Dj F c2) w1 hI.lt a1 trivial r1 hx1) ?_)
  rintro _ w2 ⟨rfl, hx2, hl1⟩
  refine ⟨_, rfl, ?_⟩
  replace hI := (hI.ext hx2)
  obtain ⟨r2, hx3, h⟩ := bnd_some h
  refine s_call rfl rfl (r_callF (vs := [(Value.agg #[(Value.int .i64 r1.N), (Value.int .i64 r1.D)])]) rfl ok_37 ⟨(ev_tmp rfl rfl), trivial⟩) (Calls.mono (c_ref01_Floor (Dj F c2) w2 hI.lt r1 trivial r2 hx3) ?_)
  rintro _ w3 ⟨rfl, hx4, hl2⟩
  refine ⟨_, rfl, ?_⟩
  replace hI := (hI.ext hx4)
  refine s_q rfl rfl (y_neg rfl (ev_tmp rfl rfl)) ?_
  refine s_q rfl rfl (y_assign rfl (ev_tmp rfl rfl)) ?_
  refine s_nil ?_
  refine k_next (e := [(2, (Value.int .i64 (wi64 (-r2))))]) ⟨rfl, trivial⟩ ?_
  refine c_ret ?_
  obtain rfl := some_inj h
  exact q_ret (vs := [(Value.int .i64 (wi64 (-r2)))]) Tryd.results38 ⟨ev_tmp rfl rfl, trivial⟩ ⟨rfl, hI.ext0, hI.fin trivial⟩

set_option maxRecDepth 100000 in
set_option maxHeartbeats 4000000 in
theorem c_law01_FracOrdering (F : NP) (w0 : World) (hF : ∀ k, F k → k < w0.heap.size) (a1 : GVal) (b1 : GVal) (hc : AllCl [] F w0) (r : Bool)
    (h : m_law01_FracOrdering a1 b1 = some r) :
    Calls Tryd.prog 11 #[(Value.agg #[(Value.int .i64 a1.N), (Value.int .i64 a1.D)]), (Value.agg #[(Value.int .i64 b1.N), (Value.int .i64 b1.D)])] w0 fun e w => e = .returned (Value.bool r) ∧ Ext w0 w ∧ AllCl [] F w := by
  refine ofEnter (R := fun v w => v = (Value.bool r) ∧ Ext w0 w ∧ AllCl [] F w) (enter (l := [(Value.agg #[(Value.int .i64 a1.N), (Value.int .i64 a1.D)]), (Value.agg #[(Value.int .i64 b1.N), (Value.int .i64 b1.D)])]) Tryd.func11 rfl Tryd.ntmps11 rfl ?_) ?_
  rotate_left
  · rintro _ w ⟨rfl, k1, k2⟩; exact ⟨rfl, k1, k2⟩
  have hI := Bun.start hF hc
  clear hc
  rw [m_law01_FracOrdering] at h
  refine c_seq ?_
  refine c_region rfl ?_
  refine l_box (v := (Value.agg #[(Value.int .i64 a1.N), (Value.int .i64 a1.D)])) (cs := #[(Value.int .i64 a1.N), (Value.int .i64 a1.D)]) hI rfl rfl rfl (ev_tmp rfl rfl) rfl ?_
  clear hI; intro b2 c1 w1 hI
  obtain ⟨c2, hI⟩ := hI.relBox .z
  refine l_box (v := (Value.agg #[(Value.int .i64 b1.N), (Value.int .i64 b1.D)])) (cs := #[(Value.int .i64 b1.N), (Value.int .i64 b1.D)]) hI rfl rfl rfl (ev_tmp rfl rfl) rfl ?_
  clear hI; intro b3 c3 w2 hI
  obtain ⟨c4, hI⟩ := hI.relBox .z
  refine s_q rfl rfl (y_assign rfl ev_const) ?_
  refine s_nil ?_
  refine k_next (e := [(2, (Value.pointer (some ⟨b2, 0, none⟩))), (3, (Value.pointer (some ⟨b3, 0, none⟩)))]) ⟨rfl, rfl, trivial⟩ ?_
  refine c_seq ?_
  refine c_drawX [] false (.c (0, .q) (.c (1, .q) (.c (3, .q) (.c (4, .q) (.c (2, .s) (.c (5, .s) (.c (6, .q) (.c (7, .q) (.c (8, .q) (.c (10, .q) (.c (9, .s) (.c (11, .s) (.c (12, .q) (.c (13, .q) (.c (14, .q) (.c (15, .q) (.c (17, .q) (.c (16, .s) (.c (18, .s) (.c (19, .q) (.c (20, .q) (.c (21, .q) (.c (22, .s) (.c (23, .q) (.c (24, .q) .n))))))))))))))))))))))))) hI (by kernel_rfl) (by kernel_rfl) ?_
  clear hI; intro w3 hI
  refine a_read rfl rfl rfl (fun w' hw' => (y_loadN (l := [(Value.int .i64 a1.N), (Value.int .i64 a1.D)]) rfl (ev_tmp rfl rfl) Tryd.underlying23 rfl size_23 ((hI.kblk (l := [(Value.int .i64 a1.N), (Value.int .i64 a1.D)]) (.s .z) rfl).at_ (SX.any rfl hw')))) (by kernel_rfl) ?_
  refine a_read rfl rfl rfl (fun w' hw' => (y_loadN (l := [(Value.int .i64 b1.N), (Value.int .i64 b1.D)]) rfl (ev_tmp rfl rfl) Tryd.underlying23 rfl size_23 ((hI.kblk (l := [(Value.int .i64 b1.N), (Value.int .i64 b1.D)]) .z rfl).at_ (SX.any rfl hw')))) (by kernel_rfl) ?_
  refine a_read rfl rfl rfl (fun w' hw' => (y_loadN (l := [(Value.int .i64 a1.N), (Value.int .i64 a1.D)]) rfl (ev_tmp rfl rfl) Tryd.underlying23 rfl size_23 ((hI.kblk (l := [(Value.int .i64 a1.N), (Value.int .i64 a1.D)]) (.s .z) rfl).at_ (SX.any rfl hw')))) (by kernel_rfl) ?_
  refine a_read rfl rfl rfl (fun w' hw' => (y_loadN (l := [(Value.int .i64 b1.N), (Value.int .i64 b1.D)]) rfl (ev_tmp rfl rfl) Tryd.underlying23 rfl size_23 ((hI.kblk (l := [(Value.int .i64 b1.N), (Value.int .i64 b1.D)]) .z rfl).at_ (SX.any rfl hw')))) (by kernel_rfl) ?_
  obtain ⟨r1, hx1, h⟩ := bnd_some h
  refine la_call rfl rfl rfl (r_callF (vs := [(Value.agg #[(Value.int .i64 a1.N), (Value.int .i64 a1.D)]), (Value.agg #[(Value.int .i64 b1.N), (Value.int .i64 b1.D)])]) rfl ok_35 ⟨(ev_tmp rfl rfl), ⟨(ev_tmp rfl rfl), trivial⟩⟩) (Calls.mono (c_frac_Compare (Dj F c4) w3 hI.lt a1 b1 trivial r1 hx1) ?_)
  rintro _ w4 ⟨rfl, hx2, hl1⟩
  refine ⟨_, rfl, hx2, ?_⟩
  replace hI := (hI.ext hx2)
  obtain ⟨r2, hx3, h⟩ := bnd_some h
  refine la_call rfl rfl rfl (r_callF (vs := [(Value.agg #[(Value.int .i64 a1.N), (Value.int .i64 a1.D)]), (Value.agg #[(Value.int .i64 b1.N), (Value.int .i64 b1.D)])]) rfl ok_36 ⟨(ev_tmp rfl rfl), ⟨(ev_tmp rfl rfl), trivial⟩⟩) (Calls.mono (c_ref01_Compare (Dj F c4) w4 hI.lt a1 b1 trivial r2 hx3) ?_)
  rintro _ w5 ⟨rfl, hx4, hl2⟩
  refine ⟨_, rfl, hx4, ?_⟩
  replace hI := (hI.ext hx4)
  refine a_q rfl rfl rfl (fun w' => (y_eql rfl (ev_tmp rfl rfl) (ev_tmp rfl rfl))) ?_
  refine a_q rfl rfl rfl (fun w' => (y_move rfl (ev_tmp rfl rfl))) ?_
  refine a_gread rfl (g_true rfl rfl rfl rfl) rfl (fun hc => fun w' hw' => (y_loadN (l := [(Value.int .i64 a1.N), (Value.int .i64 a1.D)]) rfl (ev_tmp rfl rfl) Tryd.underlying23 rfl size_23 ((hI.kblk (l := [(Value.int .i64 a1.N), (Value.int .i64 a1.D)]) (.s .z) rfl).at_ (SX.any rfl hw')))) (by kernel_rfl) ?_
  refine a_gread rfl (g_true rfl rfl rfl rfl) rfl (fun hc => fun w' hw' => (y_loadN (l := [(Value.int .i64 a1.N), (Value.int .i64 a1.D)]) rfl (ev_tmp rfl rfl) Tryd.underlying23 rfl size_23 ((hI.kblk (l := [(Value.int .i64 a1.N), (Value.int .i64 a1.D)]) (.s .z) rfl).at_ (SX.any rfl hw')))) (by kernel_rfl) ?_
  obtain ⟨r3, hx5, h⟩ := bnd_some h
  replace hx5 := gd_some hx5
  refine la_gcallU (v := (Value.int .i64 r3)) rfl (g_true rfl rfl rfl rfl) rfl (fun hc => (r_callF (vs := [(Value.agg #[(Value.int .i64 a1.N), (Value.int .i64 a1.D)])]) rfl ok_20 ⟨(ev_gv (ev_tmp rfl rfl) hc), trivial⟩)) (fun hc => (c_frac_Floor (Dj F c4) w5 hI.lt a1 trivial r3 (hx5 hc)).mono fun _ _ k => ⟨k.1, k.2.1⟩) ?_
  intro w6 hx6; replace hI := hI.ext hx6
  obtain ⟨r4, hx7, h⟩ := bnd_some h
  replace hx7 := gd_some hx7
  refine la_gcallU (v := (Value.int .i64 r4)) rfl (g_true rfl rfl rfl rfl) rfl (fun hc => (r_callF (vs := [(Value.agg #[(Value.int .i64 a1.N), (Value.int .i64 a1.D)])]) rfl ok_37 ⟨(ev_gv (ev_tmp rfl rfl) hc), trivial⟩)) (fun hc => (c_ref01_Floor (Dj F c4) w6 hI.lt a1 trivial r4 (hx7 hc)).mono fun _ _ k => ⟨k.1, k.2.1⟩) ?_
  intro w7 hx8; replace hI := hI.ext hx8
  refine a_gval rfl (g_true rfl rfl rfl rfl) rfl (fun hc => fun w' => (y_eql rfl (ev_gv (ev_tmp rfl rfl) hc) (ev_gv (ev_tmp rfl rfl) hc))) ?_
  refine a_q rfl rfl rfl (fun w' => (y_and rfl (ev_tmp rfl rfl) (ev_tmp rfl rfl))) ?_
  refine a_q rfl rfl rfl (fun w' => (y_move rfl (ev_tmp rfl rfl))) ?_
  refine a_gread rfl (g_true rfl rfl rfl rfl) rfl (fun hc => fun w' hw' => (y_loadN (l := [(Value.int .i64 a1.N), (Value.int .i64 a1.D)]) rfl (ev_tmp rfl rfl) Tryd.underlying23 rfl size_23 ((hI.kblk (l := [(Value.int .i64 a1.N), (Value.int .i64 a1.D)]) (.s .z) rfl).at_ (SX.any rfl hw')))) (by kernel_rfl) ?_
  refine a_gread rfl (g_true rfl rfl rfl rfl) rfl (fun hc => fun w' hw' => (y_loadN (l := [(Value.int .i64 a1.N), (Value.int .i64 a1.D)]) rfl (ev_tmp rfl rfl) Tryd.underlying23 rfl size_23 ((hI.kblk (l := [(Value.int .i64 a1.N), (Value.int .i64 a1.D)]) (.s .z) rfl).at_ (SX.any rfl hw')))) (by kernel_rfl) ?_
  obtain ⟨r5, hx9, h⟩ := bnd_some h
  replace hx9 := gd_some hx9
  refine la_gcallU (v := (Value.int .i64 r5)) rfl (g_true rfl rfl rfl rfl) rfl (fun hc => (r_callF (vs := [(Value.agg #[(Value.int .i64 a1.N), (Value.int .i64 a1.D)])]) rfl ok_21 ⟨(ev_gv (ev_tmp rfl rfl) hc), trivial⟩)) (fun hc => (c_frac_Ceil (Dj F c4) w7 hI.lt a1 trivial r5 (hx9 hc)).mono fun _ _ k => ⟨k.1, k.2.1⟩) ?_
  intro w8 hx10; replace hI := hI.ext hx10
  obtain ⟨r6, hx11, h⟩ := bnd_some h
  replace hx11 := gd_some hx11
  refine la_gcallU (v := (Value.int .i64 r6)) rfl (g_true rfl rfl rfl rfl) rfl (fun hc => (r_callF (vs := [(Value.agg #[(Value.int .i64 a1.N), (Value.int .i64 a1.D)])]) rfl ok_38 ⟨(ev_gv (ev_tmp rfl rfl) hc), trivial⟩)) (fun hc => (c_ref01_Ceil (Dj F c4) w8 hI.lt a1 trivial r6 (hx11 hc)).mono fun _ _ k => ⟨k.1, k.2.1⟩) ?_
  intro w9 hx12; replace hI := hI.ext hx12
  refine a_gval rfl (g_true rfl rfl rfl rfl) rfl (fun hc => fun w' => (y_eql rfl (ev_gv (ev_tmp rfl rfl) hc) (ev_gv (ev_tmp rfl rfl) hc))) ?_
  refine a_q rfl rfl rfl (fun w' => (y_and rfl (ev_tmp rfl rfl) (ev_tmp rfl rfl))) ?_
  refine a_q rfl rfl rfl (fun w' => (y_move rfl (ev_tmp rfl rfl))) ?_
  obtain ⟨r7, hx13, h⟩ := bnd_some h
  replace hx13 := gd_some hx13
  refine la_gcallU (v := (Value.bool r7)) rfl (g_true rfl rfl rfl rfl) rfl (fun hc => (r_callF (vs := []) rfl ok_16 trivial)) (fun hc => (c_law01_examples (Dj F c4) w9 hI.lt trivial r7 (hx13 hc)).mono fun _ _ k => ⟨k.1, k.2.1⟩) ?_
  intro w10 hx14; replace hI := hI.ext hx14
  refine a_q rfl rfl rfl (fun w' => (y_and rfl (ev_tmp rfl rfl) (ev_tmp rfl rfl))) ?_
  refine a_q rfl rfl rfl (fun w' => (y_assign rfl (ev_tmp rfl rfl))) ?_
  refine a_nil ?_
  refine k_next (e := [(4, (Value.bool ((((decide (r1 = r2)) && (decide (r3 = r4))) && (decide (r5 = r6))) && r7)))]) ⟨rfl, trivial⟩ ?_
  refine c_ret ?_
  obtain rfl := some_inj h
  exact q_ret (vs := [(Value.bool ((((decide (r1 = r2)) && (decide (r3 = r4))) && (decide (r5 = r6))) && r7))]) Tryd.results11 ⟨ev_tmp rfl rfl, trivial⟩ ⟨rfl, hI.ext0, hI.fin trivial⟩

end Go.Proofs.YtkmenmoiagkegaaDoor
