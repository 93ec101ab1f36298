/- Each call returns what its plain function gives: printed by a program of my own; Lean checks it. -/
import Derived.Test.YtpfapgamjlhebaaDoorCtc
namespace Go.Proofs.YtpfapgamjlhebaaDoor
open Go Go.RowKit Go.Vc
set_option linter.unusedVariables false
set_option linter.unusedSimpArgs false

set_option maxRecDepth 100000 in
set_option maxHeartbeats 4000000 in
theorem c_ref01_Mul (F : NP) (w0 : World) (hF : ∀ k, F k → k < w0.heap.size) (a1 : GVal) (b1 : GVal) (hc : AllCl [] F w0) (r : GVal × Int)
    (h : m_ref01_Mul a1 b1 = some r) :
    Calls Tryd.prog 42 #[(Value.agg #[(Value.int .i64 a1.N), (Value.int .i64 a1.D)]), (Value.agg #[(Value.int .i64 b1.N), (Value.int .i64 b1.D)])] w0 fun e w => e = .returned (Value.tuple #[(Value.agg #[(Value.int .i64 r.1.N), (Value.int .i64 r.1.D)]), (Value.int .i64 r.2)]) ∧ Ext w0 w ∧ AllCl [] F w := by
  refine ofEnter (R := fun v w => v = (Value.tuple #[(Value.agg #[(Value.int .i64 r.1.N), (Value.int .i64 r.1.D)]), (Value.int .i64 r.2)]) ∧ Ext w0 w ∧ AllCl [] F w) (enter (l := [(Value.agg #[(Value.int .i64 a1.N), (Value.int .i64 a1.D)]), (Value.agg #[(Value.int .i64 b1.N), (Value.int .i64 b1.D)])]) Tryd.func42 rfl Tryd.ntmps42 rfl ?_) ?_
  rotate_left
  · rintro _ w ⟨rfl, k1, k2⟩; exact ⟨rfl, k1, k2⟩
  have hI := Bun.start hF hc
  clear hc
  rw [m_ref01_Mul] at h
  refine c_seq ?_
  refine c_region rfl ?_
  refine l_box (v := (Value.agg #[(Value.int .i64 a1.N), (Value.int .i64 a1.D)])) (cs := #[(Value.int .i64 a1.N), (Value.int .i64 a1.D)]) hI rfl rfl rfl (ev_tmp rfl rfl) rfl ?_
  clear hI; intro b2 c1 w1 hI
  obtain ⟨c2, hI⟩ := hI.relBox .z
  refine l_box (v := (Value.agg #[(Value.int .i64 b1.N), (Value.int .i64 b1.D)])) (cs := #[(Value.int .i64 b1.N), (Value.int .i64 b1.D)]) hI rfl rfl rfl (ev_tmp rfl rfl) rfl ?_
  clear hI; intro b3 c3 w2 hI
  obtain ⟨c4, hI⟩ := hI.relBox .z
  refine l_alloc (cs := #[(Value.int .i64 0), (Value.int .i64 0)]) hI rfl rfl rfl zero_25 rfl ?_
  clear hI; intro b4 c5 w3 hI
  refine s_q rfl rfl (y_assign rfl ev_const) ?_
  refine s_nil ?_
  refine k_next (e := [(2, (Value.pointer (some ⟨b2, 0, none⟩))), (3, (Value.pointer (some ⟨b3, 0, none⟩))), (4, (Value.pointer (some ⟨b4, 0, none⟩)))]) ⟨rfl, rfl, rfl, trivial⟩ ?_
  refine c_seq ?_
  refine c_seq ?_
  refine c_region rfl ?_
  refine s_q rfl rfl (y_loadN (l := [(Value.int .i64 a1.N), (Value.int .i64 a1.D)]) rfl (ev_tmp rfl rfl) Tryd.underlying25 rfl size_25 (hI.kblk (l := [(Value.int .i64 a1.N), (Value.int .i64 a1.D)]) (.s .z) rfl).1) ?_
  obtain ⟨r1, hx1, h⟩ := bnd_some h
  refine s_call rfl rfl (r_callF (vs := [(Value.agg #[(Value.int .i64 a1.N), (Value.int .i64 a1.D)])]) rfl ok_73 ⟨(ev_tmp rfl rfl), trivial⟩) (Calls.mono (c_ref01_Valid (Dj F c5) w3 hI.lt a1 (hI.facts trivial) r1 hx1) ?_)
  rintro _ w4 ⟨rfl, hx2, hl1⟩
  refine ⟨_, rfl, ?_⟩
  replace hI := (hI.ext hx2)
  refine s_q rfl rfl (y_not rfl (ev_tmp rfl rfl)) ?_
  refine s_q rfl rfl (y_move rfl (ev_tmp rfl rfl)) ?_
  refine s_gval (g_false rfl rfl rfl rfl) rfl (fun hc => (y_loadN (l := [(Value.int .i64 b1.N), (Value.int .i64 b1.D)]) rfl (ev_tmp rfl rfl) Tryd.underlying25 rfl size_25 (hI.kblk (l := [(Value.int .i64 b1.N), (Value.int .i64 b1.D)]) .z rfl).1)) ?_
  obtain ⟨r2, hx3, h⟩ := bnd_some h
  replace hx3 := gd_some hx3
  refine s_gcallU (v := (Value.bool r2)) (g_false rfl rfl rfl rfl) rfl (fun hc => (r_callF (vs := [(Value.agg #[(Value.int .i64 b1.N), (Value.int .i64 b1.D)])]) rfl ok_73 ⟨(ev_gv (ev_tmp rfl rfl) hc), trivial⟩)) (fun hc => (c_ref01_Valid (Dj F c5) w4 hI.lt b1 (hI.facts trivial) r2 (hx3 hc)).mono fun _ _ k => ⟨k.1, k.2.1⟩) ?_
  intro w5 hx4; replace hI := hI.ext hx4
  refine s_gval (g_false rfl rfl rfl rfl) rfl (fun hc => (y_not rfl (ev_gv (ev_tmp rfl rfl) hc))) ?_
  refine s_q rfl rfl (y_or rfl (ev_tmp rfl rfl) (ev_tmp rfl rfl)) ?_
  refine s_nil ?_
  refine k_next (e := [(2, (Value.pointer (some ⟨b2, 0, none⟩))), (3, (Value.pointer (some ⟨b3, 0, none⟩))), (4, (Value.pointer (some ⟨b4, 0, none⟩))), (13, (Value.bool ((!r1) || (!r2))))]) ⟨rfl, rfl, rfl, rfl, trivial⟩ ?_
  refine c_cond (b := (!r1) || (!r2)) (ev_tmp rfl rfl) (fun hb => ?_) (fun hb => ?_)
  · replace h := ite_t hb h
    refine c_seq ?_
    refine c_region rfl ?_
    refine s_q rfl rfl (y_build (vs := []) (cs := #[(Value.int .i64 0), (Value.int .i64 0)]) rfl trivial (by kernel_rfl)) ?_
    refine l_store (new := [(Value.int .i64 0), (Value.int .i64 0)]) (cs' := #[(Value.int .i64 0), (Value.int .i64 0)]) hI .z rfl rfl rfl (ev_tmp rfl rfl) (ev_tmp rfl rfl) rfl size_25 rfl rfl rfl ?_
    clear hI; intro c6 w6 hI
    refine s_q rfl rfl (y_assign rfl ev_const) ?_
    refine s_nil ?_
    refine k_next (e := [(4, (Value.pointer (some ⟨b4, 0, none⟩))), (5, (Value.int .i64 1))]) ⟨rfl, rfl, trivial⟩ ?_
    refine c_ret ?_
    obtain rfl := some_inj h
    exact q_ret (vs := [(Value.agg #[(Value.int .i64 0), (Value.int .i64 0)]), (Value.int .i64 1)]) Tryd.results42 ⟨⟨_, ev_tmp rfl rfl, load_agg (l := [(Value.int .i64 0), (Value.int .i64 0)]) Tryd.underlying25 rfl size_25 (CellsAt.of_blk (hI.blk .z) rfl)⟩, ⟨ev_tmp rfl rfl, trivial⟩⟩ ⟨rfl, hI.ext0, hI.fin trivial⟩
  · replace h := ite_f hb h
    refine c_skip ?_
    refine k_next (e := [(2, (Value.pointer (some ⟨b2, 0, none⟩))), (3, (Value.pointer (some ⟨b3, 0, none⟩))), (4, (Value.pointer (some ⟨b4, 0, none⟩)))]) ⟨rfl, rfl, rfl, trivial⟩ ?_
    refine c_seq ?_
    refine c_region rfl ?_
    refine s_q rfl rfl (y_fieldAddr rfl (ev_tmp rfl rfl) Tryd.underlying25 rfl size_2 rfl) ?_
    refine s_q rfl rfl (y_load1 (v := (Value.int .i64 a1.N)) rfl (ev_tmp rfl rfl) Tryd.underlying2 rfl (hI.kblk (l := [(Value.int .i64 a1.N)]) (.s .z) rfl).1) ?_
    refine s_q rfl rfl (y_fieldAddr rfl (ev_tmp rfl rfl) Tryd.underlying25 rfl size_2 rfl) ?_
    refine s_q rfl rfl (y_load1 (v := (Value.int .i64 b1.N)) rfl (ev_tmp rfl rfl) Tryd.underlying2 rfl (hI.kblk (l := [(Value.int .i64 b1.N)]) .z rfl).1) ?_
    refine s_q rfl rfl (y_mul rfl (ev_tmp rfl rfl) (ev_tmp rfl rfl)) ?_
    refine s_q rfl rfl (y_fieldAddr rfl (ev_tmp rfl rfl) Tryd.underlying25 rfl size_2 rfl) ?_
    refine s_q rfl rfl (y_load1 (v := (Value.int .i64 a1.D)) rfl (ev_tmp rfl rfl) Tryd.underlying2 rfl (hI.kblk (l := [(Value.int .i64 a1.D)]) (.s .z) rfl).1) ?_
    refine s_q rfl rfl (y_fieldAddr rfl (ev_tmp rfl rfl) Tryd.underlying25 rfl size_2 rfl) ?_
    refine s_q rfl rfl (y_load1 (v := (Value.int .i64 b1.D)) rfl (ev_tmp rfl rfl) Tryd.underlying2 rfl (hI.kblk (l := [(Value.int .i64 b1.D)]) .z rfl).1) ?_
    refine s_q rfl rfl (y_mul rfl (ev_tmp rfl rfl) (ev_tmp rfl rfl)) ?_
    obtain ⟨r3, hx5, h⟩ := bnd_some h
    refine s_call rfl rfl (r_callF (vs := [(Value.int .i64 (wi64 (a1.N * b1.N))), (Value.int .i64 (wi64 (a1.D * b1.D)))]) rfl ok_74 ⟨(ev_tmp rfl rfl), ⟨(ev_tmp rfl rfl), trivial⟩⟩) (Calls.mono (c_ref01_New (Dj F c5) w5 hI.lt (wi64 (a1.N * b1.N)) (wi64 (a1.D * b1.D)) (hI.facts trivial) r3 hx5) ?_)
    rintro _ w7 ⟨rfl, hx6, hl3⟩
    refine ⟨_, rfl, ?_⟩
    replace hI := (hI.ext hx6)
    refine s_q rfl rfl (y_extract rfl (ev_tmp rfl rfl) rfl) ?_
    refine s_q rfl rfl (y_extract rfl (ev_tmp rfl rfl) rfl) ?_
    refine l_store (new := [(Value.int .i64 r3.1.N), (Value.int .i64 r3.1.D)]) (cs' := #[(Value.int .i64 r3.1.N), (Value.int .i64 r3.1.D)]) hI .z rfl rfl rfl (ev_tmp rfl rfl) (ev_tmp rfl rfl) rfl size_25 rfl rfl rfl ?_
    clear hI; intro c7 w8 hI
    refine s_q rfl rfl (y_assign rfl (ev_tmp rfl rfl)) ?_
    refine s_nil ?_
    refine k_next (e := [(4, (Value.pointer (some ⟨b4, 0, none⟩))), (5, (Value.int .i64 r3.2))]) ⟨rfl, rfl, trivial⟩ ?_
    refine c_ret ?_
    obtain rfl := some_inj h
    exact q_ret (vs := [(Value.agg #[(Value.int .i64 r3.1.N), (Value.int .i64 r3.1.D)]), (Value.int .i64 r3.2)]) Tryd.results42 ⟨⟨_, ev_tmp rfl rfl, load_agg (l := [(Value.int .i64 r3.1.N), (Value.int .i64 r3.1.D)]) Tryd.underlying25 rfl size_25 (CellsAt.of_blk (hI.blk .z) rfl)⟩, ⟨ev_tmp rfl rfl, trivial⟩⟩ ⟨rfl, hI.ext0, hI.fin trivial⟩

set_option maxRecDepth 100000 in
set_option maxHeartbeats 4000000 in
theorem c_ref01_Div (F : NP) (w0 : World) (hF : ∀ k, F k → k < w0.heap.size) (a1 : GVal) (b1 : GVal) (hc : AllCl [] F w0) (r : GVal × Int)
    (h : m_ref01_Div a1 b1 = some r) :
    Calls Tryd.prog 43 #[(Value.agg #[(Value.int .i64 a1.N), (Value.int .i64 a1.D)]), (Value.agg #[(Value.int .i64 b1.N), (Value.int .i64 b1.D)])] w0 fun e w => e = .returned (Value.tuple #[(Value.agg #[(Value.int .i64 r.1.N), (Value.int .i64 r.1.D)]), (Value.int .i64 r.2)]) ∧ Ext w0 w ∧ AllCl [] F w := by
  refine ofEnter (R := fun v w => v = (Value.tuple #[(Value.agg #[(Value.int .i64 r.1.N), (Value.int .i64 r.1.D)]), (Value.int .i64 r.2)]) ∧ Ext w0 w ∧ AllCl [] F w) (enter (l := [(Value.agg #[(Value.int .i64 a1.N), (Value.int .i64 a1.D)]), (Value.agg #[(Value.int .i64 b1.N), (Value.int .i64 b1.D)])]) Tryd.func43 rfl Tryd.ntmps43 rfl ?_) ?_
  rotate_left
  · rintro _ w ⟨rfl, k1, k2⟩; exact ⟨rfl, k1, k2⟩
  have hI := Bun.start hF hc
  clear hc
  rw [m_ref01_Div] at h
  refine c_seq ?_
  refine c_region rfl ?_
  refine l_box (v := (Value.agg #[(Value.int .i64 a1.N), (Value.int .i64 a1.D)])) (cs := #[(Value.int .i64 a1.N), (Value.int .i64 a1.D)]) hI rfl rfl rfl (ev_tmp rfl rfl) rfl ?_
  clear hI; intro b2 c1 w1 hI
  obtain ⟨c2, hI⟩ := hI.relBox .z
  refine l_box (v := (Value.agg #[(Value.int .i64 b1.N), (Value.int .i64 b1.D)])) (cs := #[(Value.int .i64 b1.N), (Value.int .i64 b1.D)]) hI rfl rfl rfl (ev_tmp rfl rfl) rfl ?_
  clear hI; intro b3 c3 w2 hI
  obtain ⟨c4, hI⟩ := hI.relBox .z
  refine l_alloc (cs := #[(Value.int .i64 0), (Value.int .i64 0)]) hI rfl rfl rfl zero_25 rfl ?_
  clear hI; intro b4 c5 w3 hI
  refine s_q rfl rfl (y_assign rfl ev_const) ?_
  refine s_nil ?_
  refine k_next (e := [(2, (Value.pointer (some ⟨b2, 0, none⟩))), (3, (Value.pointer (some ⟨b3, 0, none⟩))), (4, (Value.pointer (some ⟨b4, 0, none⟩)))]) ⟨rfl, rfl, rfl, trivial⟩ ?_
  refine c_seq ?_
  refine c_seq ?_
  refine c_region rfl ?_
  refine s_q rfl rfl (y_loadN (l := [(Value.int .i64 a1.N), (Value.int .i64 a1.D)]) rfl (ev_tmp rfl rfl) Tryd.underlying25 rfl size_25 (hI.kblk (l := [(Value.int .i64 a1.N), (Value.int .i64 a1.D)]) (.s .z) rfl).1) ?_
  obtain ⟨r1, hx1, h⟩ := bnd_some h
  refine s_call rfl rfl (r_callF (vs := [(Value.agg #[(Value.int .i64 a1.N), (Value.int .i64 a1.D)])]) rfl ok_73 ⟨(ev_tmp rfl rfl), trivial⟩) (Calls.mono (c_ref01_Valid (Dj F c5) w3 hI.lt a1 (hI.facts trivial) r1 hx1) ?_)
  rintro _ w4 ⟨rfl, hx2, hl1⟩
  refine ⟨_, rfl, ?_⟩
  replace hI := (hI.ext hx2)
  refine s_q rfl rfl (y_not rfl (ev_tmp rfl rfl)) ?_
  refine s_q rfl rfl (y_move rfl (ev_tmp rfl rfl)) ?_
  refine s_gval (g_false rfl rfl rfl rfl) rfl (fun hc => (y_loadN (l := [(Value.int .i64 b1.N), (Value.int .i64 b1.D)]) rfl (ev_tmp rfl rfl) Tryd.underlying25 rfl size_25 (hI.kblk (l := [(Value.int .i64 b1.N), (Value.int .i64 b1.D)]) .z rfl).1)) ?_
  obtain ⟨r2, hx3, h⟩ := bnd_some h
  replace hx3 := gd_some hx3
  refine s_gcallU (v := (Value.bool r2)) (g_false rfl rfl rfl rfl) rfl (fun hc => (r_callF (vs := [(Value.agg #[(Value.int .i64 b1.N), (Value.int .i64 b1.D)])]) rfl ok_73 ⟨(ev_gv (ev_tmp rfl rfl) hc), trivial⟩)) (fun hc => (c_ref01_Valid (Dj F c5) w4 hI.lt b1 (hI.facts trivial) r2 (hx3 hc)).mono fun _ _ k => ⟨k.1, k.2.1⟩) ?_
  intro w5 hx4; replace hI := hI.ext hx4
  refine s_gval (g_false rfl rfl rfl rfl) rfl (fun hc => (y_not rfl (ev_gv (ev_tmp rfl rfl) hc))) ?_
  refine s_q rfl rfl (y_or rfl (ev_tmp rfl rfl) (ev_tmp rfl rfl)) ?_
  refine s_nil ?_
  refine k_next (e := [(2, (Value.pointer (some ⟨b2, 0, none⟩))), (3, (Value.pointer (some ⟨b3, 0, none⟩))), (4, (Value.pointer (some ⟨b4, 0, none⟩))), (13, (Value.bool ((!r1) || (!r2))))]) ⟨rfl, rfl, rfl, rfl, trivial⟩ ?_
  refine c_cond (b := (!r1) || (!r2)) (ev_tmp rfl rfl) (fun hb => ?_) (fun hb => ?_)
  · replace h := ite_t hb h
    refine c_seq ?_
    refine c_region rfl ?_
    refine s_q rfl rfl (y_build (vs := []) (cs := #[(Value.int .i64 0), (Value.int .i64 0)]) rfl trivial (by kernel_rfl)) ?_
    refine l_store (new := [(Value.int .i64 0), (Value.int .i64 0)]) (cs' := #[(Value.int .i64 0), (Value.int .i64 0)]) hI .z rfl rfl rfl (ev_tmp rfl rfl) (ev_tmp rfl rfl) rfl size_25 rfl rfl rfl ?_
    clear hI; intro c6 w6 hI
    refine s_q rfl rfl (y_assign rfl ev_const) ?_
    refine s_nil ?_
    refine k_next (e := [(4, (Value.pointer (some ⟨b4, 0, none⟩))), (5, (Value.int .i64 1))]) ⟨rfl, rfl, trivial⟩ ?_
    refine c_ret ?_
    obtain rfl := some_inj h
    exact q_ret (vs := [(Value.agg #[(Value.int .i64 0), (Value.int .i64 0)]), (Value.int .i64 1)]) Tryd.results43 ⟨⟨_, ev_tmp rfl rfl, load_agg (l := [(Value.int .i64 0), (Value.int .i64 0)]) Tryd.underlying25 rfl size_25 (CellsAt.of_blk (hI.blk .z) rfl)⟩, ⟨ev_tmp rfl rfl, trivial⟩⟩ ⟨rfl, hI.ext0, hI.fin trivial⟩
  · replace h := ite_f hb h
    refine c_skip ?_
    refine k_next (e := [(2, (Value.pointer (some ⟨b2, 0, none⟩))), (3, (Value.pointer (some ⟨b3, 0, none⟩))), (4, (Value.pointer (some ⟨b4, 0, none⟩)))]) ⟨rfl, rfl, rfl, trivial⟩ ?_
    refine c_seq ?_
    refine c_region rfl ?_
    refine s_q rfl rfl (y_fieldAddr rfl (ev_tmp rfl rfl) Tryd.underlying25 rfl size_2 rfl) ?_
    refine s_q rfl rfl (y_load1 (v := (Value.int .i64 a1.N)) rfl (ev_tmp rfl rfl) Tryd.underlying2 rfl (hI.kblk (l := [(Value.int .i64 a1.N)]) (.s .z) rfl).1) ?_
    refine s_q rfl rfl (y_fieldAddr rfl (ev_tmp rfl rfl) Tryd.underlying25 rfl size_2 rfl) ?_
    refine s_q rfl rfl (y_load1 (v := (Value.int .i64 b1.D)) rfl (ev_tmp rfl rfl) Tryd.underlying2 rfl (hI.kblk (l := [(Value.int .i64 b1.D)]) .z rfl).1) ?_
    refine s_q rfl rfl (y_mul rfl (ev_tmp rfl rfl) (ev_tmp rfl rfl)) ?_
    refine s_q rfl rfl (y_fieldAddr rfl (ev_tmp rfl rfl) Tryd.underlying25 rfl size_2 rfl) ?_
    refine s_q rfl rfl (y_load1 (v := (Value.int .i64 a1.D)) rfl (ev_tmp rfl rfl) Tryd.underlying2 rfl (hI.kblk (l := [(Value.int .i64 a1.D)]) (.s .z) rfl).1) ?_
    refine s_q rfl rfl (y_fieldAddr rfl (ev_tmp rfl rfl) Tryd.underlying25 rfl size_2 rfl) ?_
    refine s_q rfl rfl (y_load1 (v := (Value.int .i64 b1.N)) rfl (ev_tmp rfl rfl) Tryd.underlying2 rfl (hI.kblk (l := [(Value.int .i64 b1.N)]) .z rfl).1) ?_
    refine s_q rfl rfl (y_mul rfl (ev_tmp rfl rfl) (ev_tmp rfl rfl)) ?_
    obtain ⟨r3, hx5, h⟩ := bnd_some h
    refine s_call rfl rfl (r_callF (vs := [(Value.int .i64 (wi64 (a1.N * b1.D))), (Value.int .i64 (wi64 (a1.D * b1.N)))]) rfl ok_74 ⟨(ev_tmp rfl rfl), ⟨(ev_tmp rfl rfl), trivial⟩⟩) (Calls.mono (c_ref01_New (Dj F c5) w5 hI.lt (wi64 (a1.N * b1.D)) (wi64 (a1.D * b1.N)) (hI.facts trivial) r3 hx5) ?_)
    rintro _ w7 ⟨rfl, hx6, hl3⟩
    refine ⟨_, rfl, ?_⟩
    replace hI := (hI.ext hx6)
    refine s_q rfl rfl (y_extract rfl (ev_tmp rfl rfl) rfl) ?_
    refine s_q rfl rfl (y_extract rfl (ev_tmp rfl rfl) rfl) ?_
    refine l_store (new := [(Value.int .i64 r3.1.N), (Value.int .i64 r3.1.D)]) (cs' := #[(Value.int .i64 r3.1.N), (Value.int .i64 r3.1.D)]) hI .z rfl rfl rfl (ev_tmp rfl rfl) (ev_tmp rfl rfl) rfl size_25 rfl rfl rfl ?_
    clear hI; intro c7 w8 hI
    refine s_q rfl rfl (y_assign rfl (ev_tmp rfl rfl)) ?_
    refine s_nil ?_
    refine k_next (e := [(4, (Value.pointer (some ⟨b4, 0, none⟩))), (5, (Value.int .i64 r3.2))]) ⟨rfl, rfl, trivial⟩ ?_
    refine c_ret ?_
    obtain rfl := some_inj h
    exact q_ret (vs := [(Value.agg #[(Value.int .i64 r3.1.N), (Value.int .i64 r3.1.D)]), (Value.int .i64 r3.2)]) Tryd.results43 ⟨⟨_, ev_tmp rfl rfl, load_agg (l := [(Value.int .i64 r3.1.N), (Value.int .i64 r3.1.D)]) Tryd.underlying25 rfl size_25 (CellsAt.of_blk (hI.blk .z) rfl)⟩, ⟨ev_tmp rfl rfl, trivial⟩⟩ ⟨rfl, hI.ext0, hI.fin trivial⟩

set_option maxRecDepth 100000 in
set_option maxHeartbeats 4000000 in
theorem c_ref01_Neg (F : NP) (w0 : World) (hF : ∀ k, F k → k < w0.heap.size) (a1 : GVal) (hc : AllCl [] F w0) (r : GVal)
    (h : m_ref01_Neg a1 = some r) :
    Calls Tryd.prog 44 #[(Value.agg #[(Value.int .i64 a1.N), (Value.int .i64 a1.D)])] w0 fun e w => e = .returned (Value.agg #[(Value.int .i64 r.N), (Value.int .i64 r.D)]) ∧ Ext w0 w ∧ AllCl [] F w := by
  refine ofEnter (R := fun v w => v = (Value.agg #[(Value.int .i64 r.N), (Value.int .i64 r.D)]) ∧ Ext w0 w ∧ AllCl [] F w) (enter (l := [(Value.agg #[(Value.int .i64 a1.N), (Value.int .i64 a1.D)])]) Tryd.func44 rfl Tryd.ntmps44 rfl ?_) ?_
  rotate_left
  · rintro _ w ⟨rfl, k1, k2⟩; exact ⟨rfl, k1, k2⟩
  have hI := Bun.start hF hc
  clear hc
  rw [m_ref01_Neg] at h
  refine c_seq ?_
  refine c_region rfl ?_
  refine l_box (v := (Value.agg #[(Value.int .i64 a1.N), (Value.int .i64 a1.D)])) (cs := #[(Value.int .i64 a1.N), (Value.int .i64 a1.D)]) hI rfl rfl rfl (ev_tmp rfl rfl) rfl ?_
  clear hI; intro b1 c1 w1 hI
  obtain ⟨c2, hI⟩ := hI.relBox .z
  refine l_alloc (cs := #[(Value.int .i64 0), (Value.int .i64 0)]) hI rfl rfl rfl zero_25 rfl ?_
  clear hI; intro b2 c3 w2 hI
  refine s_nil ?_
  refine k_next (e := [(1, (Value.pointer (some ⟨b1, 0, none⟩))), (2, (Value.pointer (some ⟨b2, 0, none⟩)))]) ⟨rfl, rfl, trivial⟩ ?_
  refine c_seq ?_
  refine c_seq ?_
  refine c_region rfl ?_
  refine s_q rfl rfl (y_loadN (l := [(Value.int .i64 a1.N), (Value.int .i64 a1.D)]) rfl (ev_tmp rfl rfl) Tryd.underlying25 rfl size_25 (hI.kblk (l := [(Value.int .i64 a1.N), (Value.int .i64 a1.D)]) .z rfl).1) ?_
  obtain ⟨r1, hx1, h⟩ := bnd_some h
  refine s_call rfl rfl (r_callF (vs := [(Value.agg #[(Value.int .i64 a1.N), (Value.int .i64 a1.D)])]) rfl ok_73 ⟨(ev_tmp rfl rfl), trivial⟩) (Calls.mono (c_ref01_Valid (Dj F c3) w2 hI.lt a1 (hI.facts trivial) r1 hx1) ?_)
  rintro _ w3 ⟨rfl, hx2, hl1⟩
  refine ⟨_, rfl, ?_⟩
  replace hI := (hI.ext hx2)
  refine s_q rfl rfl (y_not rfl (ev_tmp rfl rfl)) ?_
  refine s_nil ?_
  refine k_next (e := [(1, (Value.pointer (some ⟨b1, 0, none⟩))), (2, (Value.pointer (some ⟨b2, 0, none⟩))), (5, (Value.bool (!r1)))]) ⟨rfl, rfl, rfl, trivial⟩ ?_
  refine c_cond (b := !r1) (ev_tmp rfl rfl) (fun hb => ?_) (fun hb => ?_)
  · replace h := ite_t hb h
    refine c_seq ?_
    refine c_region rfl ?_
    refine s_q rfl rfl (y_build (vs := []) (cs := #[(Value.int .i64 0), (Value.int .i64 0)]) rfl trivial (by kernel_rfl)) ?_
    refine l_store (new := [(Value.int .i64 0), (Value.int .i64 0)]) (cs' := #[(Value.int .i64 0), (Value.int .i64 0)]) hI .z rfl rfl rfl (ev_tmp rfl rfl) (ev_tmp rfl rfl) rfl size_25 rfl rfl rfl ?_
    clear hI; intro c4 w4 hI
    refine s_nil ?_
    refine k_next (e := [(2, (Value.pointer (some ⟨b2, 0, none⟩)))]) ⟨rfl, trivial⟩ ?_
    refine c_ret ?_
    obtain rfl := some_inj h
    exact q_ret (vs := [(Value.agg #[(Value.int .i64 0), (Value.int .i64 0)])]) Tryd.results44 ⟨⟨_, ev_tmp rfl rfl, load_agg (l := [(Value.int .i64 0), (Value.int .i64 0)]) Tryd.underlying25 rfl size_25 (CellsAt.of_blk (hI.blk .z) rfl)⟩, trivial⟩ ⟨rfl, hI.ext0, hI.fin trivial⟩
  · replace h := ite_f hb h
    refine c_skip ?_
    refine k_next (e := [(1, (Value.pointer (some ⟨b1, 0, none⟩))), (2, (Value.pointer (some ⟨b2, 0, none⟩)))]) ⟨rfl, rfl, trivial⟩ ?_
    refine c_seq ?_
    refine c_region rfl ?_
    refine s_q rfl rfl (y_fieldAddr rfl (ev_tmp rfl rfl) Tryd.underlying25 rfl size_2 rfl) ?_
    refine s_q rfl rfl (y_load1 (v := (Value.int .i64 a1.N)) rfl (ev_tmp rfl rfl) Tryd.underlying2 rfl (hI.kblk (l := [(Value.int .i64 a1.N)]) .z rfl).1) ?_
    refine s_q rfl rfl (y_neg rfl (ev_tmp rfl rfl)) ?_
    refine s_q rfl rfl (y_fieldAddr rfl (ev_tmp rfl rfl) Tryd.underlying25 rfl size_2 rfl) ?_
    refine s_q rfl rfl (y_load1 (v := (Value.int .i64 a1.D)) rfl (ev_tmp rfl rfl) Tryd.underlying2 rfl (hI.kblk (l := [(Value.int .i64 a1.D)]) .z rfl).1) ?_
    refine s_q rfl rfl (y_build (vs := [(0, (Value.int .i64 (wi64 (-a1.N)))), (1, (Value.int .i64 a1.D))]) (cs := #[(Value.int .i64 (wi64 (-a1.N))), (Value.int .i64 a1.D)]) rfl ⟨rfl, (ev_tmp rfl rfl), ⟨rfl, (ev_tmp rfl rfl), trivial⟩⟩ (by kernel_rfl)) ?_
    refine l_store (new := [(Value.int .i64 (wi64 (-a1.N))), (Value.int .i64 a1.D)]) (cs' := #[(Value.int .i64 (wi64 (-a1.N))), (Value.int .i64 a1.D)]) hI .z rfl rfl rfl (ev_tmp rfl rfl) (ev_tmp rfl rfl) rfl size_25 rfl rfl rfl ?_
    clear hI; intro c5 w5 hI
    refine s_nil ?_
    refine k_next (e := [(2, (Value.pointer (some ⟨b2, 0, none⟩)))]) ⟨rfl, trivial⟩ ?_
    refine c_ret ?_
    obtain rfl := some_inj h
    exact q_ret (vs := [(Value.agg #[(Value.int .i64 (wi64 (-a1.N))), (Value.int .i64 a1.D)])]) Tryd.results44 ⟨⟨_, ev_tmp rfl rfl, load_agg (l := [(Value.int .i64 (wi64 (-a1.N))), (Value.int .i64 a1.D)]) Tryd.underlying25 rfl size_25 (CellsAt.of_blk (hI.blk .z) rfl)⟩, trivial⟩ ⟨rfl, hI.ext0, hI.fin trivial⟩

set_option maxRecDepth 100000 in
set_option maxHeartbeats 4000000 in
theorem c_ref04_Apply (F : NP) (w0 : World) (hF : ∀ k, F k → k < w0.heap.size) (op1 : Int) (t1 : GType) (a1 : GVal) (b1 : GVal) (hc : AllCl [] F w0) (r : GVal × Int)
    (h : m_ref04_Apply op1 t1 a1 b1 = some r) :
    Calls Tryd.prog 18 #[(Value.int .i64 op1), (Value.agg #[(Value.int .i64 t1.Kind), (Value.int .i64 t1.Bits), (Value.int .i64 t1.Frac), (Value.int .i64 t1.Round), (Value.int .i64 t1.Over)]), (Value.agg #[(Value.int .i64 a1.N), (Value.int .i64 a1.D)]), (Value.agg #[(Value.int .i64 b1.N), (Value.int .i64 b1.D)])] w0 fun e w => e = .returned (Value.tuple #[(Value.agg #[(Value.int .i64 r.1.N), (Value.int .i64 r.1.D)]), (Value.int .i64 r.2)]) ∧ Ext w0 w ∧ AllCl [] F w := by
  refine ofEnter (R := fun v w => v = (Value.tuple #[(Value.agg #[(Value.int .i64 r.1.N), (Value.int .i64 r.1.D)]), (Value.int .i64 r.2)]) ∧ Ext w0 w ∧ AllCl [] F w) (enter (l := [(Value.int .i64 op1), (Value.agg #[(Value.int .i64 t1.Kind), (Value.int .i64 t1.Bits), (Value.int .i64 t1.Frac), (Value.int .i64 t1.Round), (Value.int .i64 t1.Over)]), (Value.agg #[(Value.int .i64 a1.N), (Value.int .i64 a1.D)]), (Value.agg #[(Value.int .i64 b1.N), (Value.int .i64 b1.D)])]) Tryd.func18 rfl Tryd.ntmps18 rfl ?_) ?_
  rotate_left
  · rintro _ w ⟨rfl, k1, k2⟩; exact ⟨rfl, k1, k2⟩
  have hI := Bun.start hF hc
  clear hc
  rw [m_ref04_Apply] at h
  refine c_seq ?_
  refine c_region rfl ?_
  refine l_box (v := (Value.agg #[(Value.int .i64 t1.Kind), (Value.int .i64 t1.Bits), (Value.int .i64 t1.Frac), (Value.int .i64 t1.Round), (Value.int .i64 t1.Over)])) (cs := #[(Value.int .i64 t1.Kind), (Value.int .i64 t1.Bits), (Value.int .i64 t1.Frac), (Value.int .i64 t1.Round), (Value.int .i64 t1.Over)]) hI rfl rfl rfl (ev_tmp rfl rfl) rfl ?_
  clear hI; intro b2 c1 w1 hI
  obtain ⟨c2, hI⟩ := hI.relBox .z
  refine l_box (v := (Value.agg #[(Value.int .i64 a1.N), (Value.int .i64 a1.D)])) (cs := #[(Value.int .i64 a1.N), (Value.int .i64 a1.D)]) hI rfl rfl rfl (ev_tmp rfl rfl) rfl ?_
  clear hI; intro b3 c3 w2 hI
  obtain ⟨c4, hI⟩ := hI.relBox .z
  refine l_box (v := (Value.agg #[(Value.int .i64 b1.N), (Value.int .i64 b1.D)])) (cs := #[(Value.int .i64 b1.N), (Value.int .i64 b1.D)]) hI rfl rfl rfl (ev_tmp rfl rfl) rfl ?_
  clear hI; intro b4 c5 w3 hI
  obtain ⟨c6, hI⟩ := hI.relBox .z
  refine l_alloc (cs := #[(Value.int .i64 0), (Value.int .i64 0)]) hI rfl rfl rfl zero_25 rfl ?_
  clear hI; intro b5 c7 w4 hI
  refine s_q rfl rfl (y_assign rfl ev_const) ?_
  refine s_nil ?_
  refine k_next (e := [(0, (Value.int .i64 op1)), (5, (Value.pointer (some ⟨b2, 0, none⟩))), (6, (Value.pointer (some ⟨b3, 0, none⟩))), (7, (Value.pointer (some ⟨b4, 0, none⟩))), (8, (Value.pointer (some ⟨b5, 0, none⟩)))]) ⟨rfl, rfl, rfl, rfl, rfl, trivial⟩ ?_
  refine c_seq ?_
  refine c_seq ?_
  refine c_region rfl ?_
  refine s_q rfl rfl (y_move rfl (ev_tmp rfl rfl)) ?_
  refine s_q rfl rfl (y_lss rfl (ev_tmp rfl rfl) ev_const) ?_
  refine s_q rfl rfl (y_move rfl (ev_tmp rfl rfl)) ?_
  refine s_gval (g_false rfl rfl rfl rfl) rfl (fun hc => (y_move rfl (ev_tmp rfl rfl))) ?_
  refine s_gval (g_false rfl rfl rfl rfl) rfl (fun hc => (y_gtr rfl (ev_gv (ev_tmp rfl rfl) hc) ev_const)) ?_
  refine s_q rfl rfl (y_or rfl (ev_tmp rfl rfl) (ev_tmp rfl rfl)) ?_
  refine s_nil ?_
  refine k_next (e := [(0, (Value.int .i64 op1)), (5, (Value.pointer (some ⟨b2, 0, none⟩))), (6, (Value.pointer (some ⟨b3, 0, none⟩))), (7, (Value.pointer (some ⟨b4, 0, none⟩))), (8, (Value.pointer (some ⟨b5, 0, none⟩))), (15, (Value.bool ((decide (op1 < 4)) || (decide (10 < op1)))))]) ⟨rfl, rfl, rfl, rfl, rfl, rfl, trivial⟩ ?_
  refine c_cond (b := (decide (op1 < 4)) || (decide (10 < op1))) (ev_tmp rfl rfl) (fun hb => ?_) (fun hb => ?_)
  · replace h := ite_t hb h
    refine c_seq ?_
    refine c_region rfl ?_
    refine s_q rfl rfl (y_build (vs := []) (cs := #[(Value.int .i64 0), (Value.int .i64 0)]) rfl trivial (by kernel_rfl)) ?_
    refine l_store (new := [(Value.int .i64 0), (Value.int .i64 0)]) (cs' := #[(Value.int .i64 0), (Value.int .i64 0)]) hI .z rfl rfl rfl (ev_tmp rfl rfl) (ev_tmp rfl rfl) rfl size_25 rfl rfl rfl ?_
    clear hI; intro c8 w5 hI
    refine s_q rfl rfl (y_assign rfl ev_const) ?_
    refine s_nil ?_
    refine k_next (e := [(8, (Value.pointer (some ⟨b5, 0, none⟩))), (9, (Value.int .i64 1))]) ⟨rfl, rfl, trivial⟩ ?_
    refine c_ret ?_
    obtain rfl := some_inj h
    exact q_ret (vs := [(Value.agg #[(Value.int .i64 0), (Value.int .i64 0)]), (Value.int .i64 1)]) Tryd.results18 ⟨⟨_, ev_tmp rfl rfl, load_agg (l := [(Value.int .i64 0), (Value.int .i64 0)]) Tryd.underlying25 rfl size_25 (CellsAt.of_blk (hI.blk .z) rfl)⟩, ⟨ev_tmp rfl rfl, trivial⟩⟩ ⟨rfl, hI.ext0, hI.fin trivial⟩
  · replace h := ite_f hb h
    refine c_skip ?_
    refine k_next (e := [(0, (Value.int .i64 op1)), (5, (Value.pointer (some ⟨b2, 0, none⟩))), (6, (Value.pointer (some ⟨b3, 0, none⟩))), (7, (Value.pointer (some ⟨b4, 0, none⟩))), (8, (Value.pointer (some ⟨b5, 0, none⟩)))]) ⟨rfl, rfl, rfl, rfl, rfl, trivial⟩ ?_
    refine c_seq ?_
    refine c_seq ?_
    refine c_region rfl ?_
    refine s_q rfl rfl (y_loadN (l := [(Value.int .i64 t1.Kind), (Value.int .i64 t1.Bits), (Value.int .i64 t1.Frac), (Value.int .i64 t1.Round), (Value.int .i64 t1.Over)]) rfl (ev_tmp rfl rfl) Tryd.underlying23 rfl size_23 (hI.kblk (l := [(Value.int .i64 t1.Kind), (Value.int .i64 t1.Bits), (Value.int .i64 t1.Frac), (Value.int .i64 t1.Round), (Value.int .i64 t1.Over)]) (.s (.s .z)) rfl).1) ?_
    obtain ⟨r1, hx1, h⟩ := bnd_some h
    refine s_call rfl rfl (r_callF (vs := [(Value.agg #[(Value.int .i64 t1.Kind), (Value.int .i64 t1.Bits), (Value.int .i64 t1.Frac), (Value.int .i64 t1.Round), (Value.int .i64 t1.Over)])]) rfl ok_28 ⟨(ev_tmp rfl rfl), trivial⟩) (Calls.mono (c_base_Type (Dj F c7) w4 hI.lt t1 (hI.facts trivial) r1 hx1) ?_)
    rintro _ w6 ⟨rfl, hx2, hl1⟩
    refine ⟨_, rfl, ?_⟩
    replace hI := (hI.ext hx2)
    refine s_q rfl rfl (y_not rfl (ev_tmp rfl rfl)) ?_
    refine s_nil ?_
    refine k_next (e := [(0, (Value.int .i64 op1)), (5, (Value.pointer (some ⟨b2, 0, none⟩))), (6, (Value.pointer (some ⟨b3, 0, none⟩))), (7, (Value.pointer (some ⟨b4, 0, none⟩))), (8, (Value.pointer (some ⟨b5, 0, none⟩))), (19, (Value.bool (!r1)))]) ⟨rfl, rfl, rfl, rfl, rfl, rfl, trivial⟩ ?_
    refine c_cond (b := !r1) (ev_tmp rfl rfl) (fun hb => ?_) (fun hb => ?_)
    · replace h := ite_t hb h
      refine c_seq ?_
      refine c_region rfl ?_
      refine s_q rfl rfl (y_build (vs := []) (cs := #[(Value.int .i64 0), (Value.int .i64 0)]) rfl trivial (by kernel_rfl)) ?_
      refine l_store (new := [(Value.int .i64 0), (Value.int .i64 0)]) (cs' := #[(Value.int .i64 0), (Value.int .i64 0)]) hI .z rfl rfl rfl (ev_tmp rfl rfl) (ev_tmp rfl rfl) rfl size_25 rfl rfl rfl ?_
      clear hI; intro c9 w7 hI
      refine s_q rfl rfl (y_assign rfl ev_const) ?_
      refine s_nil ?_
      refine k_next (e := [(8, (Value.pointer (some ⟨b5, 0, none⟩))), (9, (Value.int .i64 10))]) ⟨rfl, rfl, trivial⟩ ?_
      refine c_ret ?_
      obtain rfl := some_inj h
      exact q_ret (vs := [(Value.agg #[(Value.int .i64 0), (Value.int .i64 0)]), (Value.int .i64 10)]) Tryd.results18 ⟨⟨_, ev_tmp rfl rfl, load_agg (l := [(Value.int .i64 0), (Value.int .i64 0)]) Tryd.underlying25 rfl size_25 (CellsAt.of_blk (hI.blk .z) rfl)⟩, ⟨ev_tmp rfl rfl, trivial⟩⟩ ⟨rfl, hI.ext0, hI.fin trivial⟩
    · replace h := ite_f hb h
      refine c_skip ?_
      refine k_next (e := [(0, (Value.int .i64 op1)), (5, (Value.pointer (some ⟨b2, 0, none⟩))), (6, (Value.pointer (some ⟨b3, 0, none⟩))), (7, (Value.pointer (some ⟨b4, 0, none⟩))), (8, (Value.pointer (some ⟨b5, 0, none⟩)))]) ⟨rfl, rfl, rfl, rfl, rfl, trivial⟩ ?_
      refine c_seq ?_
      refine c_seq ?_
      refine c_region rfl ?_
      refine s_q rfl rfl (y_loadN (l := [(Value.int .i64 t1.Kind), (Value.int .i64 t1.Bits), (Value.int .i64 t1.Frac), (Value.int .i64 t1.Round), (Value.int .i64 t1.Over)]) rfl (ev_tmp rfl rfl) Tryd.underlying23 rfl size_23 (hI.kblk (l := [(Value.int .i64 t1.Kind), (Value.int .i64 t1.Bits), (Value.int .i64 t1.Frac), (Value.int .i64 t1.Round), (Value.int .i64 t1.Over)]) (.s (.s .z)) rfl).1) ?_
      refine s_q rfl rfl (y_loadN (l := [(Value.int .i64 a1.N), (Value.int .i64 a1.D)]) rfl (ev_tmp rfl rfl) Tryd.underlying25 rfl size_25 (hI.kblk (l := [(Value.int .i64 a1.N), (Value.int .i64 a1.D)]) (.s .z) rfl).1) ?_
      obtain ⟨r2, hx3, h⟩ := bnd_some h
      refine s_call rfl rfl (r_callF (vs := [(Value.agg #[(Value.int .i64 t1.Kind), (Value.int .i64 t1.Bits), (Value.int .i64 t1.Frac), (Value.int .i64 t1.Round), (Value.int .i64 t1.Over)]), (Value.agg #[(Value.int .i64 a1.N), (Value.int .i64 a1.D)])]) rfl ok_30 ⟨(ev_tmp rfl rfl), ⟨(ev_tmp rfl rfl), trivial⟩⟩) (Calls.mono (c_base_Val (Dj F c7) w6 hI.lt t1 a1 (hI.facts trivial) r2 hx3) ?_)
      rintro _ w8 ⟨rfl, hx4, hl2⟩
      refine ⟨_, rfl, ?_⟩
      replace hI := (hI.ext hx4)
      refine s_q rfl rfl (y_not rfl (ev_tmp rfl rfl)) ?_
      refine s_q rfl rfl (y_move rfl (ev_tmp rfl rfl)) ?_
      refine s_gval (g_false rfl rfl rfl rfl) rfl (fun hc => (y_move rfl (ev_tmp rfl rfl))) ?_
      refine s_gval (g_false rfl rfl rfl rfl) rfl (fun hc => (y_neq rfl (ev_gv (ev_tmp rfl rfl) hc) ev_const)) ?_
      refine s_gval (g_false rfl rfl rfl rfl) rfl (fun hc => (y_move rfl (ev_gv (ev_tmp rfl rfl) hc))) ?_
      refine s_gval (g_true2 rfl rfl rfl rfl) rfl (fun hc => (y_loadN (l := [(Value.int .i64 t1.Kind), (Value.int .i64 t1.Bits), (Value.int .i64 t1.Frac), (Value.int .i64 t1.Round), (Value.int .i64 t1.Over)]) rfl (ev_tmp rfl rfl) Tryd.underlying23 rfl size_23 (hI.kblk (l := [(Value.int .i64 t1.Kind), (Value.int .i64 t1.Bits), (Value.int .i64 t1.Frac), (Value.int .i64 t1.Round), (Value.int .i64 t1.Over)]) (.s (.s .z)) rfl).1)) ?_
      refine s_gval (g_true2 rfl rfl rfl rfl) rfl (fun hc => (y_loadN (l := [(Value.int .i64 b1.N), (Value.int .i64 b1.D)]) rfl (ev_tmp rfl rfl) Tryd.underlying25 rfl size_25 (hI.kblk (l := [(Value.int .i64 b1.N), (Value.int .i64 b1.D)]) .z rfl).1)) ?_
      obtain ⟨r3, hx5, h⟩ := bnd_some h
      replace hx5 := gd_some hx5
      refine s_gcallU (v := (Value.bool r3)) (g_true2 rfl rfl rfl rfl) rfl (fun hc => (r_callF (vs := [(Value.agg #[(Value.int .i64 t1.Kind), (Value.int .i64 t1.Bits), (Value.int .i64 t1.Frac), (Value.int .i64 t1.Round), (Value.int .i64 t1.Over)]), (Value.agg #[(Value.int .i64 b1.N), (Value.int .i64 b1.D)])]) rfl ok_30 ⟨(ev_gv (ev_tmp rfl rfl) hc), ⟨(ev_gv (ev_tmp rfl rfl) hc), trivial⟩⟩)) (fun hc => (c_base_Val (Dj F c7) w8 hI.lt t1 b1 (hI.facts trivial) r3 (hx5 hc)).mono fun _ _ k => ⟨k.1, k.2.1⟩) ?_
      intro w9 hx6; replace hI := hI.ext hx6
      refine s_gval (g_true2 rfl rfl rfl rfl) rfl (fun hc => (y_not rfl (ev_gv (ev_tmp rfl rfl) hc))) ?_
      refine s_gval (g_false rfl rfl rfl rfl) rfl (fun hc => (y_and2 rfl hc (ev_tmp rfl rfl) (ev_tmp rfl rfl))) ?_
      refine s_q rfl rfl (y_or rfl (ev_tmp rfl rfl) (ev_tmp rfl rfl)) ?_
      refine s_nil ?_
      refine k_next (e := [(0, (Value.int .i64 op1)), (5, (Value.pointer (some ⟨b2, 0, none⟩))), (6, (Value.pointer (some ⟨b3, 0, none⟩))), (7, (Value.pointer (some ⟨b4, 0, none⟩))), (8, (Value.pointer (some ⟨b5, 0, none⟩))), (34, (Value.bool ((!r2) || ((!decide (op1 = 8)) && (!r3)))))]) ⟨rfl, rfl, rfl, rfl, rfl, rfl, trivial⟩ ?_
      refine c_cond (b := (!r2) || ((!decide (op1 = 8)) && (!r3))) (ev_tmp rfl rfl) (fun hb => ?_) (fun hb => ?_)
      · replace h := ite_t hb h
        refine c_seq ?_
        refine c_region rfl ?_
        refine s_q rfl rfl (y_build (vs := []) (cs := #[(Value.int .i64 0), (Value.int .i64 0)]) rfl trivial (by kernel_rfl)) ?_
        refine l_store (new := [(Value.int .i64 0), (Value.int .i64 0)]) (cs' := #[(Value.int .i64 0), (Value.int .i64 0)]) hI .z rfl rfl rfl (ev_tmp rfl rfl) (ev_tmp rfl rfl) rfl size_25 rfl rfl rfl ?_
        clear hI; intro c10 w10 hI
        refine s_q rfl rfl (y_assign rfl ev_const) ?_
        refine s_nil ?_
        refine k_next (e := [(8, (Value.pointer (some ⟨b5, 0, none⟩))), (9, (Value.int .i64 1))]) ⟨rfl, rfl, trivial⟩ ?_
        refine c_ret ?_
        obtain rfl := some_inj h
        exact q_ret (vs := [(Value.agg #[(Value.int .i64 0), (Value.int .i64 0)]), (Value.int .i64 1)]) Tryd.results18 ⟨⟨_, ev_tmp rfl rfl, load_agg (l := [(Value.int .i64 0), (Value.int .i64 0)]) Tryd.underlying25 rfl size_25 (CellsAt.of_blk (hI.blk .z) rfl)⟩, ⟨ev_tmp rfl rfl, trivial⟩⟩ ⟨rfl, hI.ext0, hI.fin trivial⟩
      · replace h := ite_f hb h
        refine c_skip ?_
        refine k_next (e := [(0, (Value.int .i64 op1)), (5, (Value.pointer (some ⟨b2, 0, none⟩))), (6, (Value.pointer (some ⟨b3, 0, none⟩))), (7, (Value.pointer (some ⟨b4, 0, none⟩))), (8, (Value.pointer (some ⟨b5, 0, none⟩)))]) ⟨rfl, rfl, rfl, rfl, rfl, trivial⟩ ?_
        refine c_seq ?_
        refine c_seq ?_
        refine c_region rfl ?_
        refine s_q rfl rfl (y_move rfl (ev_tmp rfl rfl)) ?_
        refine s_q rfl rfl (y_eql rfl (ev_tmp rfl rfl) ev_const) ?_
        refine s_q rfl rfl (y_move rfl (ev_tmp rfl rfl)) ?_
        refine s_gval (g_false rfl rfl rfl rfl) rfl (fun hc => (y_move rfl (ev_tmp rfl rfl))) ?_
        refine s_gval (g_false rfl rfl rfl rfl) rfl (fun hc => (y_eql rfl (ev_gv (ev_tmp rfl rfl) hc) ev_const)) ?_
        refine s_q rfl rfl (y_or rfl (ev_tmp rfl rfl) (ev_tmp rfl rfl)) ?_
        refine s_nil ?_
        refine k_next (e := [(0, (Value.int .i64 op1)), (5, (Value.pointer (some ⟨b2, 0, none⟩))), (6, (Value.pointer (some ⟨b3, 0, none⟩))), (7, (Value.pointer (some ⟨b4, 0, none⟩))), (8, (Value.pointer (some ⟨b5, 0, none⟩))), (41, (Value.bool ((decide (op1 = 9)) || (decide (op1 = 10)))))]) ⟨rfl, rfl, rfl, rfl, rfl, rfl, trivial⟩ ?_
        refine c_cond (b := (decide (op1 = 9)) || (decide (op1 = 10))) (ev_tmp rfl rfl) (fun hb => ?_) (fun hb => ?_)
        · replace h := ite_t hb h
          refine c_seq ?_
          refine c_seq ?_
          refine c_region rfl ?_
          refine s_q rfl rfl (y_loadN (l := [(Value.int .i64 t1.Kind), (Value.int .i64 t1.Bits), (Value.int .i64 t1.Frac), (Value.int .i64 t1.Round), (Value.int .i64 t1.Over)]) rfl (ev_tmp rfl rfl) Tryd.underlying23 rfl size_23 (hI.kblk (l := [(Value.int .i64 t1.Kind), (Value.int .i64 t1.Bits), (Value.int .i64 t1.Frac), (Value.int .i64 t1.Round), (Value.int .i64 t1.Over)]) (.s (.s .z)) rfl).1) ?_
          refine s_q rfl rfl (y_loadN (l := [(Value.int .i64 a1.N), (Value.int .i64 a1.D)]) rfl (ev_tmp rfl rfl) Tryd.underlying25 rfl size_25 (hI.kblk (l := [(Value.int .i64 a1.N), (Value.int .i64 a1.D)]) (.s .z) rfl).1) ?_
          refine s_q rfl rfl (y_loadN (l := [(Value.int .i64 b1.N), (Value.int .i64 b1.D)]) rfl (ev_tmp rfl rfl) Tryd.underlying25 rfl size_25 (hI.kblk (l := [(Value.int .i64 b1.N), (Value.int .i64 b1.D)]) .z rfl).1) ?_
          obtain ⟨r4, hx7, h⟩ := bnd_some h
          refine s_call rfl rfl (r_callF (vs := [(Value.agg #[(Value.int .i64 t1.Kind), (Value.int .i64 t1.Bits), (Value.int .i64 t1.Frac), (Value.int .i64 t1.Round), (Value.int .i64 t1.Over)]), (Value.agg #[(Value.int .i64 a1.N), (Value.int .i64 a1.D)]), (Value.agg #[(Value.int .i64 b1.N), (Value.int .i64 b1.D)])]) rfl ok_20 ⟨(ev_tmp rfl rfl), ⟨(ev_tmp rfl rfl), ⟨(ev_tmp rfl rfl), trivial⟩⟩⟩) (Calls.mono (c_ref04_Compare (Dj F c7) w9 hI.lt t1 a1 b1 (hI.facts trivial) r4 hx7) ?_)
          rintro _ w11 ⟨rfl, hx8, hl4⟩
          refine ⟨_, rfl, ?_⟩
          replace hI := (hI.ext hx8)
          refine s_q rfl rfl (y_gtr rfl (ev_tmp rfl rfl) ev_const) ?_
          refine s_q rfl rfl (y_move rfl (ev_tmp rfl rfl)) ?_
          refine s_q rfl rfl (y_eql rfl (ev_tmp rfl rfl) ev_const) ?_
          refine s_q rfl rfl (y_eqb rfl Tryd.underlying4 (ev_tmp rfl rfl) (ev_tmp rfl rfl)) ?_
          refine s_nil ?_
          refine k_next (e := [(6, (Value.pointer (some ⟨b3, 0, none⟩))), (7, (Value.pointer (some ⟨b4, 0, none⟩))), (8, (Value.pointer (some ⟨b5, 0, none⟩))), (49, (Value.bool ((decide (0 < r4)) == (decide (op1 = 9)))))]) ⟨rfl, rfl, rfl, rfl, trivial⟩ ?_
          refine c_cond (b := (decide (0 < r4)) == (decide (op1 = 9))) (ev_tmp rfl rfl) (fun hb => ?_) (fun hb => ?_)
          · replace h := ite_t hb h
            refine c_seq ?_
            refine c_region rfl ?_
            refine s_q rfl rfl (y_loadN (l := [(Value.int .i64 b1.N), (Value.int .i64 b1.D)]) rfl (ev_tmp rfl rfl) Tryd.underlying25 rfl size_25 (hI.kblk (l := [(Value.int .i64 b1.N), (Value.int .i64 b1.D)]) .z rfl).1) ?_
            refine l_store (new := [(Value.int .i64 b1.N), (Value.int .i64 b1.D)]) (cs' := #[(Value.int .i64 b1.N), (Value.int .i64 b1.D)]) hI .z rfl rfl rfl (ev_tmp rfl rfl) (ev_tmp rfl rfl) rfl size_25 rfl rfl rfl ?_
            clear hI; intro c11 w12 hI
            refine s_q rfl rfl (y_assign rfl ev_const) ?_
            refine s_nil ?_
            refine k_next (e := [(8, (Value.pointer (some ⟨b5, 0, none⟩))), (9, (Value.int .i64 0))]) ⟨rfl, rfl, trivial⟩ ?_
            refine c_ret ?_
            obtain rfl := some_inj h
            exact q_ret (vs := [(Value.agg #[(Value.int .i64 b1.N), (Value.int .i64 b1.D)]), (Value.int .i64 0)]) Tryd.results18 ⟨⟨_, ev_tmp rfl rfl, load_agg (l := [(Value.int .i64 b1.N), (Value.int .i64 b1.D)]) Tryd.underlying25 rfl size_25 (CellsAt.of_blk (hI.blk .z) rfl)⟩, ⟨ev_tmp rfl rfl, trivial⟩⟩ ⟨rfl, hI.ext0, hI.fin trivial⟩
          · replace h := ite_f hb h
            refine c_skip ?_
            refine k_next (e := [(6, (Value.pointer (some ⟨b3, 0, none⟩))), (8, (Value.pointer (some ⟨b5, 0, none⟩)))]) ⟨rfl, rfl, trivial⟩ ?_
            refine c_seq ?_
            refine c_region rfl ?_
            refine s_q rfl rfl (y_loadN (l := [(Value.int .i64 a1.N), (Value.int .i64 a1.D)]) rfl (ev_tmp rfl rfl) Tryd.underlying25 rfl size_25 (hI.kblk (l := [(Value.int .i64 a1.N), (Value.int .i64 a1.D)]) (.s .z) rfl).1) ?_
            refine l_store (new := [(Value.int .i64 a1.N), (Value.int .i64 a1.D)]) (cs' := #[(Value.int .i64 a1.N), (Value.int .i64 a1.D)]) hI .z rfl rfl rfl (ev_tmp rfl rfl) (ev_tmp rfl rfl) rfl size_25 rfl rfl rfl ?_
            clear hI; intro c12 w13 hI
            refine s_q rfl rfl (y_assign rfl ev_const) ?_
            refine s_nil ?_
            refine k_next (e := [(8, (Value.pointer (some ⟨b5, 0, none⟩))), (9, (Value.int .i64 0))]) ⟨rfl, rfl, trivial⟩ ?_
            refine c_ret ?_
            obtain rfl := some_inj h
            exact q_ret (vs := [(Value.agg #[(Value.int .i64 a1.N), (Value.int .i64 a1.D)]), (Value.int .i64 0)]) Tryd.results18 ⟨⟨_, ev_tmp rfl rfl, load_agg (l := [(Value.int .i64 a1.N), (Value.int .i64 a1.D)]) Tryd.underlying25 rfl size_25 (CellsAt.of_blk (hI.blk .z) rfl)⟩, ⟨ev_tmp rfl rfl, trivial⟩⟩ ⟨rfl, hI.ext0, hI.fin trivial⟩
        · replace h := ite_f hb h
          refine c_skip ?_
          refine k_next (e := [(0, (Value.int .i64 op1)), (5, (Value.pointer (some ⟨b2, 0, none⟩))), (6, (Value.pointer (some ⟨b3, 0, none⟩))), (7, (Value.pointer (some ⟨b4, 0, none⟩))), (8, (Value.pointer (some ⟨b5, 0, none⟩)))]) ⟨rfl, rfl, rfl, rfl, rfl, trivial⟩ ?_
          refine c_seq ?_
          refine c_seq ?_
          refine c_region rfl ?_
          refine s_q rfl rfl (y_fieldAddr rfl (ev_tmp rfl rfl) Tryd.underlying23 rfl size_3 rfl) ?_
          refine s_q rfl rfl (y_load1 (v := (Value.int .i64 t1.Kind)) rfl (ev_tmp rfl rfl) Tryd.underlying3 rfl (hI.kblk (l := [(Value.int .i64 t1.Kind)]) (.s (.s .z)) rfl).1) ?_
          refine s_q rfl rfl (y_eql rfl (ev_tmp rfl rfl) ev_const) ?_
          refine s_nil ?_
          refine k_next (e := [(0, (Value.int .i64 op1)), (5, (Value.pointer (some ⟨b2, 0, none⟩))), (6, (Value.pointer (some ⟨b3, 0, none⟩))), (7, (Value.pointer (some ⟨b4, 0, none⟩))), (8, (Value.pointer (some ⟨b5, 0, none⟩))), (54, (Value.bool (decide (t1.Kind = 2))))]) ⟨rfl, rfl, rfl, rfl, rfl, rfl, trivial⟩ ?_
          refine c_cond (b := decide (t1.Kind = 2)) (ev_tmp rfl rfl) (fun hb => ?_) (fun hb => ?_)
          · replace h := ite_t hb h
            refine c_seq ?_
            refine c_region rfl ?_
            refine s_q rfl rfl (y_move rfl (ev_tmp rfl rfl)) ?_
            refine s_q rfl rfl (y_loadN (l := [(Value.int .i64 t1.Kind), (Value.int .i64 t1.Bits), (Value.int .i64 t1.Frac), (Value.int .i64 t1.Round), (Value.int .i64 t1.Over)]) rfl (ev_tmp rfl rfl) Tryd.underlying23 rfl size_23 (hI.kblk (l := [(Value.int .i64 t1.Kind), (Value.int .i64 t1.Bits), (Value.int .i64 t1.Frac), (Value.int .i64 t1.Round), (Value.int .i64 t1.Over)]) (.s (.s .z)) rfl).1) ?_
            refine s_q rfl rfl (y_fieldAddr rfl (ev_tmp rfl rfl) Tryd.underlying25 rfl size_2 rfl) ?_
            refine s_q rfl rfl (y_load1 (v := (Value.int .i64 a1.N)) rfl (ev_tmp rfl rfl) Tryd.underlying2 rfl (hI.kblk (l := [(Value.int .i64 a1.N)]) (.s .z) rfl).1) ?_
            refine s_q rfl rfl (y_fieldAddr rfl (ev_tmp rfl rfl) Tryd.underlying25 rfl size_2 rfl) ?_
            refine s_q rfl rfl (y_load1 (v := (Value.int .i64 b1.N)) rfl (ev_tmp rfl rfl) Tryd.underlying2 rfl (hI.kblk (l := [(Value.int .i64 b1.N)]) .z rfl).1) ?_
            obtain ⟨r5, hx9, h⟩ := bnd_some h
            refine s_call rfl rfl (r_callF (vs := [(Value.int .i64 op1), (Value.agg #[(Value.int .i64 t1.Kind), (Value.int .i64 t1.Bits), (Value.int .i64 t1.Frac), (Value.int .i64 t1.Round), (Value.int .i64 t1.Over)]), (Value.int .i64 a1.N), (Value.int .i64 b1.N)]) rfl ok_38 ⟨(ev_tmp rfl rfl), ⟨(ev_tmp rfl rfl), ⟨(ev_tmp rfl rfl), ⟨(ev_tmp rfl rfl), trivial⟩⟩⟩⟩) (Calls.mono (c_ref04_fix (Dj F c7) w9 hI.lt op1 t1 a1.N b1.N (hI.facts trivial) r5 hx9) ?_)
            rintro _ w14 ⟨rfl, hx10, hl5⟩
            refine ⟨_, rfl, ?_⟩
            replace hI := (hI.ext hx10)
            refine s_q rfl rfl (y_extract rfl (ev_tmp rfl rfl) rfl) ?_
            refine s_q rfl rfl (y_extract rfl (ev_tmp rfl rfl) rfl) ?_
            refine l_store (new := [(Value.int .i64 r5.1.N), (Value.int .i64 r5.1.D)]) (cs' := #[(Value.int .i64 r5.1.N), (Value.int .i64 r5.1.D)]) hI .z rfl rfl rfl (ev_tmp rfl rfl) (ev_tmp rfl rfl) rfl size_25 rfl rfl rfl ?_
            clear hI; intro c13 w15 hI
            refine s_q rfl rfl (y_assign rfl (ev_tmp rfl rfl)) ?_
            refine s_nil ?_
            refine k_next (e := [(8, (Value.pointer (some ⟨b5, 0, none⟩))), (9, (Value.int .i64 r5.2))]) ⟨rfl, rfl, trivial⟩ ?_
            refine c_ret ?_
            obtain rfl := some_inj h
            exact q_ret (vs := [(Value.agg #[(Value.int .i64 r5.1.N), (Value.int .i64 r5.1.D)]), (Value.int .i64 r5.2)]) Tryd.results18 ⟨⟨_, ev_tmp rfl rfl, load_agg (l := [(Value.int .i64 r5.1.N), (Value.int .i64 r5.1.D)]) Tryd.underlying25 rfl size_25 (CellsAt.of_blk (hI.blk .z) rfl)⟩, ⟨ev_tmp rfl rfl, trivial⟩⟩ ⟨rfl, hI.ext0, hI.fin trivial⟩
          · replace h := ite_f hb h
            refine c_skip ?_
            refine k_next (e := [(0, (Value.int .i64 op1)), (5, (Value.pointer (some ⟨b2, 0, none⟩))), (6, (Value.pointer (some ⟨b3, 0, none⟩))), (7, (Value.pointer (some ⟨b4, 0, none⟩))), (8, (Value.pointer (some ⟨b5, 0, none⟩)))]) ⟨rfl, rfl, rfl, rfl, rfl, trivial⟩ ?_
            refine c_seq ?_
            refine c_seq ?_
            refine c_region rfl ?_
            refine s_q rfl rfl (y_fieldAddr rfl (ev_tmp rfl rfl) Tryd.underlying23 rfl size_3 rfl) ?_
            refine s_q rfl rfl (y_load1 (v := (Value.int .i64 t1.Kind)) rfl (ev_tmp rfl rfl) Tryd.underlying3 rfl (hI.kblk (l := [(Value.int .i64 t1.Kind)]) (.s (.s .z)) rfl).1) ?_
            refine s_q rfl rfl (y_eql rfl (ev_tmp rfl rfl) ev_const) ?_
            refine s_nil ?_
            refine k_next (e := [(0, (Value.int .i64 op1)), (6, (Value.pointer (some ⟨b3, 0, none⟩))), (7, (Value.pointer (some ⟨b4, 0, none⟩))), (8, (Value.pointer (some ⟨b5, 0, none⟩))), (66, (Value.bool (decide (t1.Kind = 3))))]) ⟨rfl, rfl, rfl, rfl, rfl, trivial⟩ ?_
            refine c_cond (b := decide (t1.Kind = 3)) (ev_tmp rfl rfl) (fun hb => ?_) (fun hb => ?_)
            · replace h := ite_t hb h
              refine c_seq ?_
              refine c_region rfl ?_
              refine s_q rfl rfl (y_move rfl (ev_tmp rfl rfl)) ?_
              refine s_q rfl rfl (y_fieldAddr rfl (ev_tmp rfl rfl) Tryd.underlying25 rfl size_2 rfl) ?_
              refine s_q rfl rfl (y_load1 (v := (Value.int .i64 a1.N)) rfl (ev_tmp rfl rfl) Tryd.underlying2 rfl (hI.kblk (l := [(Value.int .i64 a1.N)]) (.s .z) rfl).1) ?_
              refine s_q rfl rfl (y_fieldAddr rfl (ev_tmp rfl rfl) Tryd.underlying25 rfl size_2 rfl) ?_
              refine s_q rfl rfl (y_load1 (v := (Value.int .i64 b1.N)) rfl (ev_tmp rfl rfl) Tryd.underlying2 rfl (hI.kblk (l := [(Value.int .i64 b1.N)]) .z rfl).1) ?_
              obtain ⟨r6, hx11, h⟩ := bnd_some h
              refine s_call rfl rfl (r_callF (vs := [(Value.int .i64 op1), (Value.int .i64 a1.N), (Value.int .i64 b1.N)]) rfl ok_39 ⟨(ev_tmp rfl rfl), ⟨(ev_tmp rfl rfl), ⟨(ev_tmp rfl rfl), trivial⟩⟩⟩) (Calls.mono (c_ref04_whole (Dj F c7) w9 hI.lt op1 a1.N b1.N (hI.facts trivial) r6 hx11) ?_)
              rintro _ w16 ⟨rfl, hx12, hl6⟩
              refine ⟨_, rfl, ?_⟩
              replace hI := (hI.ext hx12)
              refine s_q rfl rfl (y_extract rfl (ev_tmp rfl rfl) rfl) ?_
              refine s_q rfl rfl (y_extract rfl (ev_tmp rfl rfl) rfl) ?_
              refine l_store (new := [(Value.int .i64 r6.1.N), (Value.int .i64 r6.1.D)]) (cs' := #[(Value.int .i64 r6.1.N), (Value.int .i64 r6.1.D)]) hI .z rfl rfl rfl (ev_tmp rfl rfl) (ev_tmp rfl rfl) rfl size_25 rfl rfl rfl ?_
              clear hI; intro c14 w17 hI
              refine s_q rfl rfl (y_assign rfl (ev_tmp rfl rfl)) ?_
              refine s_nil ?_
              refine k_next (e := [(8, (Value.pointer (some ⟨b5, 0, none⟩))), (9, (Value.int .i64 r6.2))]) ⟨rfl, rfl, trivial⟩ ?_
              refine c_ret ?_
              obtain rfl := some_inj h
              exact q_ret (vs := [(Value.agg #[(Value.int .i64 r6.1.N), (Value.int .i64 r6.1.D)]), (Value.int .i64 r6.2)]) Tryd.results18 ⟨⟨_, ev_tmp rfl rfl, load_agg (l := [(Value.int .i64 r6.1.N), (Value.int .i64 r6.1.D)]) Tryd.underlying25 rfl size_25 (CellsAt.of_blk (hI.blk .z) rfl)⟩, ⟨ev_tmp rfl rfl, trivial⟩⟩ ⟨rfl, hI.ext0, hI.fin trivial⟩
            · replace h := ite_f hb h
              refine c_skip ?_
              refine k_next (e := [(0, (Value.int .i64 op1)), (6, (Value.pointer (some ⟨b3, 0, none⟩))), (7, (Value.pointer (some ⟨b4, 0, none⟩))), (8, (Value.pointer (some ⟨b5, 0, none⟩)))]) ⟨rfl, rfl, rfl, rfl, trivial⟩ ?_
              refine c_seq ?_
              refine c_seq ?_
              refine c_region rfl ?_
              refine s_q rfl rfl (y_move rfl (ev_tmp rfl rfl)) ?_
              refine s_nil ?_
              refine k_next (e := [(6, (Value.pointer (some ⟨b3, 0, none⟩))), (7, (Value.pointer (some ⟨b4, 0, none⟩))), (8, (Value.pointer (some ⟨b5, 0, none⟩))), (75, (Value.int .i64 op1))]) ⟨rfl, rfl, rfl, rfl, trivial⟩ ?_
              refine c_block ?_
              refine c_seq ?_
              refine c_region rfl ?_
              refine s_q rfl rfl (y_eql rfl (ev_tmp rfl rfl) ev_const) ?_
              refine s_q rfl rfl (y_assign rfl (ev_tmp rfl rfl)) ?_
              refine s_nil ?_
              refine k_next (e := [(6, (Value.pointer (some ⟨b3, 0, none⟩))), (7, (Value.pointer (some ⟨b4, 0, none⟩))), (8, (Value.pointer (some ⟨b5, 0, none⟩))), (75, (Value.int .i64 op1)), (76, (Value.bool (decide (op1 = 4))))]) ⟨rfl, rfl, rfl, rfl, rfl, trivial⟩ ?_
              refine c_cond (b := decide (op1 = 4)) (ev_tmp rfl rfl) (fun hb => ?_) (fun hb => ?_)
              · replace h := ite_t hb h
                refine c_seq ?_
                refine c_region rfl ?_
                refine s_q rfl rfl (y_loadN (l := [(Value.int .i64 a1.N), (Value.int .i64 a1.D)]) rfl (ev_tmp rfl rfl) Tryd.underlying25 rfl size_25 (hI.kblk (l := [(Value.int .i64 a1.N), (Value.int .i64 a1.D)]) (.s .z) rfl).1) ?_
                refine s_q rfl rfl (y_loadN (l := [(Value.int .i64 b1.N), (Value.int .i64 b1.D)]) rfl (ev_tmp rfl rfl) Tryd.underlying25 rfl size_25 (hI.kblk (l := [(Value.int .i64 b1.N), (Value.int .i64 b1.D)]) .z rfl).1) ?_
                obtain ⟨r7, hx13, h⟩ := bnd_some h
                refine s_call rfl rfl (r_callF (vs := [(Value.agg #[(Value.int .i64 a1.N), (Value.int .i64 a1.D)]), (Value.agg #[(Value.int .i64 b1.N), (Value.int .i64 b1.D)])]) rfl ok_40 ⟨(ev_tmp rfl rfl), ⟨(ev_tmp rfl rfl), trivial⟩⟩) (Calls.mono (c_ref01_Add (Dj F c7) w9 hI.lt a1 b1 (hI.facts trivial) r7 hx13) ?_)
                rintro _ w18 ⟨rfl, hx14, hl7⟩
                refine ⟨_, rfl, ?_⟩
                replace hI := (hI.ext hx14)
                refine s_q rfl rfl (y_extract rfl (ev_tmp rfl rfl) rfl) ?_
                refine s_q rfl rfl (y_extract rfl (ev_tmp rfl rfl) rfl) ?_
                refine l_store (new := [(Value.int .i64 r7.1.N), (Value.int .i64 r7.1.D)]) (cs' := #[(Value.int .i64 r7.1.N), (Value.int .i64 r7.1.D)]) hI .z rfl rfl rfl (ev_tmp rfl rfl) (ev_tmp rfl rfl) rfl size_25 rfl rfl rfl ?_
                clear hI; intro c15 w19 hI
                refine s_q rfl rfl (y_assign rfl (ev_tmp rfl rfl)) ?_
                refine s_nil ?_
                refine k_next (e := [(8, (Value.pointer (some ⟨b5, 0, none⟩))), (9, (Value.int .i64 r7.2))]) ⟨rfl, rfl, trivial⟩ ?_
                refine c_ret ?_
                obtain rfl := some_inj h
                exact q_ret (vs := [(Value.agg #[(Value.int .i64 r7.1.N), (Value.int .i64 r7.1.D)]), (Value.int .i64 r7.2)]) Tryd.results18 ⟨⟨_, ev_tmp rfl rfl, load_agg (l := [(Value.int .i64 r7.1.N), (Value.int .i64 r7.1.D)]) Tryd.underlying25 rfl size_25 (CellsAt.of_blk (hI.blk .z) rfl)⟩, ⟨ev_tmp rfl rfl, trivial⟩⟩ ⟨rfl, hI.ext0, hI.fin trivial⟩
              · replace h := ite_f hb h
                refine c_seq ?_
                refine c_region rfl ?_
                refine s_q rfl rfl (y_eql rfl (ev_tmp rfl rfl) ev_const) ?_
                refine s_q rfl rfl (y_assign rfl (ev_tmp rfl rfl)) ?_
                refine s_nil ?_
                refine k_next (e := [(6, (Value.pointer (some ⟨b3, 0, none⟩))), (7, (Value.pointer (some ⟨b4, 0, none⟩))), (8, (Value.pointer (some ⟨b5, 0, none⟩))), (75, (Value.int .i64 op1)), (83, (Value.bool (decide (op1 = 5))))]) ⟨rfl, rfl, rfl, rfl, rfl, trivial⟩ ?_
                refine c_cond (b := decide (op1 = 5)) (ev_tmp rfl rfl) (fun hb => ?_) (fun hb => ?_)
                · replace h := ite_t hb h
                  refine c_seq ?_
                  refine c_region rfl ?_
                  refine s_q rfl rfl (y_loadN (l := [(Value.int .i64 a1.N), (Value.int .i64 a1.D)]) rfl (ev_tmp rfl rfl) Tryd.underlying25 rfl size_25 (hI.kblk (l := [(Value.int .i64 a1.N), (Value.int .i64 a1.D)]) (.s .z) rfl).1) ?_
                  refine s_q rfl rfl (y_loadN (l := [(Value.int .i64 b1.N), (Value.int .i64 b1.D)]) rfl (ev_tmp rfl rfl) Tryd.underlying25 rfl size_25 (hI.kblk (l := [(Value.int .i64 b1.N), (Value.int .i64 b1.D)]) .z rfl).1) ?_
                  obtain ⟨r8, hx15, h⟩ := bnd_some h
                  refine s_call rfl rfl (r_callF (vs := [(Value.agg #[(Value.int .i64 a1.N), (Value.int .i64 a1.D)]), (Value.agg #[(Value.int .i64 b1.N), (Value.int .i64 b1.D)])]) rfl ok_41 ⟨(ev_tmp rfl rfl), ⟨(ev_tmp rfl rfl), trivial⟩⟩) (Calls.mono (c_ref01_Sub (Dj F c7) w9 hI.lt a1 b1 (hI.facts trivial) r8 hx15) ?_)
                  rintro _ w20 ⟨rfl, hx16, hl8⟩
                  refine ⟨_, rfl, ?_⟩
                  replace hI := (hI.ext hx16)
                  refine s_q rfl rfl (y_extract rfl (ev_tmp rfl rfl) rfl) ?_
                  refine s_q rfl rfl (y_extract rfl (ev_tmp rfl rfl) rfl) ?_
                  refine l_store (new := [(Value.int .i64 r8.1.N), (Value.int .i64 r8.1.D)]) (cs' := #[(Value.int .i64 r8.1.N), (Value.int .i64 r8.1.D)]) hI .z rfl rfl rfl (ev_tmp rfl rfl) (ev_tmp rfl rfl) rfl size_25 rfl rfl rfl ?_
                  clear hI; intro c16 w21 hI
                  refine s_q rfl rfl (y_assign rfl (ev_tmp rfl rfl)) ?_
                  refine s_nil ?_
                  refine k_next (e := [(8, (Value.pointer (some ⟨b5, 0, none⟩))), (9, (Value.int .i64 r8.2))]) ⟨rfl, rfl, trivial⟩ ?_
                  refine c_ret ?_
                  obtain rfl := some_inj h
                  exact q_ret (vs := [(Value.agg #[(Value.int .i64 r8.1.N), (Value.int .i64 r8.1.D)]), (Value.int .i64 r8.2)]) Tryd.results18 ⟨⟨_, ev_tmp rfl rfl, load_agg (l := [(Value.int .i64 r8.1.N), (Value.int .i64 r8.1.D)]) Tryd.underlying25 rfl size_25 (CellsAt.of_blk (hI.blk .z) rfl)⟩, ⟨ev_tmp rfl rfl, trivial⟩⟩ ⟨rfl, hI.ext0, hI.fin trivial⟩
                · replace h := ite_f hb h
                  refine c_seq ?_
                  refine c_region rfl ?_
                  refine s_q rfl rfl (y_eql rfl (ev_tmp rfl rfl) ev_const) ?_
                  refine s_q rfl rfl (y_assign rfl (ev_tmp rfl rfl)) ?_
                  refine s_nil ?_
                  refine k_next (e := [(6, (Value.pointer (some ⟨b3, 0, none⟩))), (7, (Value.pointer (some ⟨b4, 0, none⟩))), (8, (Value.pointer (some ⟨b5, 0, none⟩))), (75, (Value.int .i64 op1)), (90, (Value.bool (decide (op1 = 6))))]) ⟨rfl, rfl, rfl, rfl, rfl, trivial⟩ ?_
                  refine c_cond (b := decide (op1 = 6)) (ev_tmp rfl rfl) (fun hb => ?_) (fun hb => ?_)
                  · replace h := ite_t hb h
                    refine c_seq ?_
                    refine c_region rfl ?_
                    refine s_q rfl rfl (y_loadN (l := [(Value.int .i64 a1.N), (Value.int .i64 a1.D)]) rfl (ev_tmp rfl rfl) Tryd.underlying25 rfl size_25 (hI.kblk (l := [(Value.int .i64 a1.N), (Value.int .i64 a1.D)]) (.s .z) rfl).1) ?_
                    refine s_q rfl rfl (y_loadN (l := [(Value.int .i64 b1.N), (Value.int .i64 b1.D)]) rfl (ev_tmp rfl rfl) Tryd.underlying25 rfl size_25 (hI.kblk (l := [(Value.int .i64 b1.N), (Value.int .i64 b1.D)]) .z rfl).1) ?_
                    obtain ⟨r9, hx17, h⟩ := bnd_some h
                    refine s_call rfl rfl (r_callF (vs := [(Value.agg #[(Value.int .i64 a1.N), (Value.int .i64 a1.D)]), (Value.agg #[(Value.int .i64 b1.N), (Value.int .i64 b1.D)])]) rfl ok_42 ⟨(ev_tmp rfl rfl), ⟨(ev_tmp rfl rfl), trivial⟩⟩) (Calls.mono (c_ref01_Mul (Dj F c7) w9 hI.lt a1 b1 (hI.facts trivial) r9 hx17) ?_)
                    rintro _ w22 ⟨rfl, hx18, hl9⟩
                    refine ⟨_, rfl, ?_⟩
                    replace hI := (hI.ext hx18)
                    refine s_q rfl rfl (y_extract rfl (ev_tmp rfl rfl) rfl) ?_
                    refine s_q rfl rfl (y_extract rfl (ev_tmp rfl rfl) rfl) ?_
                    refine l_store (new := [(Value.int .i64 r9.1.N), (Value.int .i64 r9.1.D)]) (cs' := #[(Value.int .i64 r9.1.N), (Value.int .i64 r9.1.D)]) hI .z rfl rfl rfl (ev_tmp rfl rfl) (ev_tmp rfl rfl) rfl size_25 rfl rfl rfl ?_
                    clear hI; intro c17 w23 hI
                    refine s_q rfl rfl (y_assign rfl (ev_tmp rfl rfl)) ?_
                    refine s_nil ?_
                    refine k_next (e := [(8, (Value.pointer (some ⟨b5, 0, none⟩))), (9, (Value.int .i64 r9.2))]) ⟨rfl, rfl, trivial⟩ ?_
                    refine c_ret ?_
                    obtain rfl := some_inj h
                    exact q_ret (vs := [(Value.agg #[(Value.int .i64 r9.1.N), (Value.int .i64 r9.1.D)]), (Value.int .i64 r9.2)]) Tryd.results18 ⟨⟨_, ev_tmp rfl rfl, load_agg (l := [(Value.int .i64 r9.1.N), (Value.int .i64 r9.1.D)]) Tryd.underlying25 rfl size_25 (CellsAt.of_blk (hI.blk .z) rfl)⟩, ⟨ev_tmp rfl rfl, trivial⟩⟩ ⟨rfl, hI.ext0, hI.fin trivial⟩
                  · replace h := ite_f hb h
                    refine c_seq ?_
                    refine c_region rfl ?_
                    refine s_q rfl rfl (y_eql rfl (ev_tmp rfl rfl) ev_const) ?_
                    refine s_q rfl rfl (y_assign rfl (ev_tmp rfl rfl)) ?_
                    refine s_nil ?_
                    refine k_next (e := [(6, (Value.pointer (some ⟨b3, 0, none⟩))), (7, (Value.pointer (some ⟨b4, 0, none⟩))), (8, (Value.pointer (some ⟨b5, 0, none⟩))), (97, (Value.bool (decide (op1 = 7))))]) ⟨rfl, rfl, rfl, rfl, trivial⟩ ?_
                    refine c_cond (b := decide (op1 = 7)) (ev_tmp rfl rfl) (fun hb => ?_) (fun hb => ?_)
                    · replace h := ite_t hb h
                      refine c_seq ?_
                      refine c_region rfl ?_
                      refine s_q rfl rfl (y_loadN (l := [(Value.int .i64 a1.N), (Value.int .i64 a1.D)]) rfl (ev_tmp rfl rfl) Tryd.underlying25 rfl size_25 (hI.kblk (l := [(Value.int .i64 a1.N), (Value.int .i64 a1.D)]) (.s .z) rfl).1) ?_
                      refine s_q rfl rfl (y_loadN (l := [(Value.int .i64 b1.N), (Value.int .i64 b1.D)]) rfl (ev_tmp rfl rfl) Tryd.underlying25 rfl size_25 (hI.kblk (l := [(Value.int .i64 b1.N), (Value.int .i64 b1.D)]) .z rfl).1) ?_
                      obtain ⟨r10, hx19, h⟩ := bnd_some h
                      refine s_call rfl rfl (r_callF (vs := [(Value.agg #[(Value.int .i64 a1.N), (Value.int .i64 a1.D)]), (Value.agg #[(Value.int .i64 b1.N), (Value.int .i64 b1.D)])]) rfl ok_43 ⟨(ev_tmp rfl rfl), ⟨(ev_tmp rfl rfl), trivial⟩⟩) (Calls.mono (c_ref01_Div (Dj F c7) w9 hI.lt a1 b1 (hI.facts trivial) r10 hx19) ?_)
                      rintro _ w24 ⟨rfl, hx20, hl10⟩
                      refine ⟨_, rfl, ?_⟩
                      replace hI := (hI.ext hx20)
                      refine s_q rfl rfl (y_extract rfl (ev_tmp rfl rfl) rfl) ?_
                      refine s_q rfl rfl (y_extract rfl (ev_tmp rfl rfl) rfl) ?_
                      refine l_store (new := [(Value.int .i64 r10.1.N), (Value.int .i64 r10.1.D)]) (cs' := #[(Value.int .i64 r10.1.N), (Value.int .i64 r10.1.D)]) hI .z rfl rfl rfl (ev_tmp rfl rfl) (ev_tmp rfl rfl) rfl size_25 rfl rfl rfl ?_
                      clear hI; intro c18 w25 hI
                      refine s_q rfl rfl (y_assign rfl (ev_tmp rfl rfl)) ?_
                      refine s_nil ?_
                      refine k_next (e := [(8, (Value.pointer (some ⟨b5, 0, none⟩))), (9, (Value.int .i64 r10.2))]) ⟨rfl, rfl, trivial⟩ ?_
                      refine c_ret ?_
                      obtain rfl := some_inj h
                      exact q_ret (vs := [(Value.agg #[(Value.int .i64 r10.1.N), (Value.int .i64 r10.1.D)]), (Value.int .i64 r10.2)]) Tryd.results18 ⟨⟨_, ev_tmp rfl rfl, load_agg (l := [(Value.int .i64 r10.1.N), (Value.int .i64 r10.1.D)]) Tryd.underlying25 rfl size_25 (CellsAt.of_blk (hI.blk .z) rfl)⟩, ⟨ev_tmp rfl rfl, trivial⟩⟩ ⟨rfl, hI.ext0, hI.fin trivial⟩
                    · replace h := ite_f hb h
                      refine c_skip ?_
                      refine k_next (e := [(6, (Value.pointer (some ⟨b3, 0, none⟩))), (8, (Value.pointer (some ⟨b5, 0, none⟩)))]) ⟨rfl, rfl, trivial⟩ ?_
                      refine c_seq ?_
                      refine c_region rfl ?_
                      refine s_q rfl rfl (y_loadN (l := [(Value.int .i64 a1.N), (Value.int .i64 a1.D)]) rfl (ev_tmp rfl rfl) Tryd.underlying25 rfl size_25 (hI.kblk (l := [(Value.int .i64 a1.N), (Value.int .i64 a1.D)]) (.s .z) rfl).1) ?_
                      obtain ⟨r11, hx21, h⟩ := bnd_some h
                      refine s_call rfl rfl (r_callF (vs := [(Value.agg #[(Value.int .i64 a1.N), (Value.int .i64 a1.D)])]) rfl ok_44 ⟨(ev_tmp rfl rfl), trivial⟩) (Calls.mono (c_ref01_Neg (Dj F c7) w9 hI.lt a1 (hI.facts trivial) r11 hx21) ?_)
                      rintro _ w26 ⟨rfl, hx22, hl11⟩
                      refine ⟨_, rfl, ?_⟩
                      replace hI := (hI.ext hx22)
                      refine l_store (new := [(Value.int .i64 r11.N), (Value.int .i64 r11.D)]) (cs' := #[(Value.int .i64 r11.N), (Value.int .i64 r11.D)]) hI .z rfl rfl rfl (ev_tmp rfl rfl) (ev_tmp rfl rfl) rfl size_25 rfl rfl rfl ?_
                      clear hI; intro c19 w27 hI
                      refine s_q rfl rfl (y_assign rfl ev_const) ?_
                      refine s_nil ?_
                      refine k_next (e := [(8, (Value.pointer (some ⟨b5, 0, none⟩))), (9, (Value.int .i64 0))]) ⟨rfl, rfl, trivial⟩ ?_
                      refine c_ret ?_
                      obtain rfl := some_inj h
                      exact q_ret (vs := [(Value.agg #[(Value.int .i64 r11.N), (Value.int .i64 r11.D)]), (Value.int .i64 0)]) Tryd.results18 ⟨⟨_, ev_tmp rfl rfl, load_agg (l := [(Value.int .i64 r11.N), (Value.int .i64 r11.D)]) Tryd.underlying25 rfl size_25 (CellsAt.of_blk (hI.blk .z) rfl)⟩, ⟨ev_tmp rfl rfl, trivial⟩⟩ ⟨rfl, hI.ext0, hI.fin trivial⟩

set_option maxRecDepth 100000 in
set_option maxHeartbeats 4000000 in
theorem c_law04_ValueApply (F : NP) (w0 : World) (hF : ∀ k, F k → k < w0.heap.size) (op1 : Int) (t1 : GType) (l1 : Gs33) (hc : AllCl [clPow10] F w0) (r : Bool)
    (h : m_law04_ValueApply op1 t1 l1 = some r) :
    Calls Tryd.prog 4 #[(Value.int .i64 op1), (Value.agg #[(Value.int .i64 t1.Kind), (Value.int .i64 t1.Bits), (Value.int .i64 t1.Frac), (Value.int .i64 t1.Round), (Value.int .i64 t1.Over)]), (Value.agg #[(Value.int .i64 l1.e0.N), (Value.int .i64 l1.e0.D), (Value.int .i64 l1.e1.N), (Value.int .i64 l1.e1.D)])] w0 fun e w => e = .returned (Value.bool r) ∧ Ext w0 w ∧ AllCl [] F w := by
  refine ofEnter (R := fun v w => v = (Value.bool r) ∧ Ext w0 w ∧ AllCl [] F w) (enter (l := [(Value.int .i64 op1), (Value.agg #[(Value.int .i64 t1.Kind), (Value.int .i64 t1.Bits), (Value.int .i64 t1.Frac), (Value.int .i64 t1.Round), (Value.int .i64 t1.Over)]), (Value.agg #[(Value.int .i64 l1.e0.N), (Value.int .i64 l1.e0.D), (Value.int .i64 l1.e1.N), (Value.int .i64 l1.e1.D)])]) Tryd.func4 rfl Tryd.ntmps4 rfl ?_) ?_
  rotate_left
  · rintro _ w ⟨rfl, k1, k2⟩; exact ⟨rfl, k1, k2⟩
  have hI := Bun.start hF hc
  clear hc
  rw [m_law04_ValueApply] at h
  refine c_seq ?_
  refine c_region rfl ?_
  refine l_box (v := (Value.agg #[(Value.int .i64 t1.Kind), (Value.int .i64 t1.Bits), (Value.int .i64 t1.Frac), (Value.int .i64 t1.Round), (Value.int .i64 t1.Over)])) (cs := #[(Value.int .i64 t1.Kind), (Value.int .i64 t1.Bits), (Value.int .i64 t1.Frac), (Value.int .i64 t1.Round), (Value.int .i64 t1.Over)]) hI rfl rfl rfl (ev_tmp rfl rfl) rfl ?_
  clear hI; intro b1 c1 w1 hI
  obtain ⟨c2, hI⟩ := hI.relBox .z
  refine l_box (v := (Value.agg #[(Value.int .i64 l1.e0.N), (Value.int .i64 l1.e0.D), (Value.int .i64 l1.e1.N), (Value.int .i64 l1.e1.D)])) (cs := #[(Value.int .i64 l1.e0.N), (Value.int .i64 l1.e0.D), (Value.int .i64 l1.e1.N), (Value.int .i64 l1.e1.D)]) hI rfl rfl rfl (ev_tmp rfl rfl) rfl ?_
  clear hI; intro b2 c3 w2 hI
  obtain ⟨c4, hI⟩ := hI.relBox .z
  refine s_q rfl rfl (y_assign rfl ev_const) ?_
  refine s_nil ?_
  refine k_next (e := [(0, (Value.int .i64 op1)), (4, (Value.pointer (some ⟨b1, 0, none⟩))), (5, (Value.pointer (some ⟨b2, 0, none⟩)))]) ⟨rfl, rfl, rfl, trivial⟩ ?_
  refine c_seq ?_
  refine c_region rfl ?_
  refine s_q rfl rfl (y_move rfl (ev_tmp rfl rfl)) ?_
  refine s_q rfl rfl (y_loadN (l := [(Value.int .i64 t1.Kind), (Value.int .i64 t1.Bits), (Value.int .i64 t1.Frac), (Value.int .i64 t1.Round), (Value.int .i64 t1.Over)]) rfl (ev_tmp rfl rfl) Tryd.underlying23 rfl size_23 (hI.kblk (l := [(Value.int .i64 t1.Kind), (Value.int .i64 t1.Bits), (Value.int .i64 t1.Frac), (Value.int .i64 t1.Round), (Value.int .i64 t1.Over)]) (.s .z) rfl).1) ?_
  refine s_q rfl rfl (y_indexAddrA (v := (Value.pointer (some ⟨b2, 0, none⟩))) rfl (ev_tmp rfl rfl) ev_const (fun _ => by kernel_rfl)) ?_
  refine s_q rfl rfl (y_loadN (l := [(Value.int .i64 l1.e0.N), (Value.int .i64 l1.e0.D)]) rfl (ev_tmp rfl rfl) Tryd.underlying25 rfl size_25 (hI.kblk (l := [(Value.int .i64 l1.e0.N), (Value.int .i64 l1.e0.D)]) .z rfl).1) ?_
  refine s_q rfl rfl (y_indexAddrA (v := (Value.pointer (some ⟨b2, 2, none⟩))) rfl (ev_tmp rfl rfl) ev_const (fun _ => by kernel_rfl)) ?_
  refine s_q rfl rfl (y_loadN (l := [(Value.int .i64 l1.e1.N), (Value.int .i64 l1.e1.D)]) rfl (ev_tmp rfl rfl) Tryd.underlying25 rfl size_25 (hI.kblk (l := [(Value.int .i64 l1.e1.N), (Value.int .i64 l1.e1.D)]) .z rfl).1) ?_
  obtain ⟨r1, hx1, h⟩ := bnd_some h
  refine s_call rfl rfl (r_callF (vs := [(Value.int .i64 op1), (Value.agg #[(Value.int .i64 t1.Kind), (Value.int .i64 t1.Bits), (Value.int .i64 t1.Frac), (Value.int .i64 t1.Round), (Value.int .i64 t1.Over)]), (Value.agg #[(Value.int .i64 l1.e0.N), (Value.int .i64 l1.e0.D)]), (Value.agg #[(Value.int .i64 l1.e1.N), (Value.int .i64 l1.e1.D)])]) rfl ok_17 ⟨(ev_tmp rfl rfl), ⟨(ev_tmp rfl rfl), ⟨(ev_tmp rfl rfl), ⟨(ev_tmp rfl rfl), trivial⟩⟩⟩⟩) (Calls.mono (c_value_Apply (Dj F c4) w2 hI.lt op1 t1 l1.e0 l1.e1 (hI.facts trivial) r1 hx1) ?_)
  rintro _ w3 ⟨rfl, hx2, hl1⟩
  refine ⟨_, rfl, ?_⟩
  replace hI := (hI.ext hx2)
  refine s_q rfl rfl (y_move rfl (ev_tmp rfl rfl)) ?_
  refine s_q rfl rfl (y_extract rfl (ev_tmp rfl rfl) rfl) ?_
  refine s_q rfl rfl (y_extract rfl (ev_tmp rfl rfl) rfl) ?_
  refine l_alloc (cs := #[(Value.int .i64 0), (Value.int .i64 0)]) hI rfl rfl rfl zero_25 rfl ?_
  clear hI; intro b3 c5 w4 hI
  refine l_store (new := [(Value.int .i64 r1.1.N), (Value.int .i64 r1.1.D)]) (cs' := #[(Value.int .i64 r1.1.N), (Value.int .i64 r1.1.D)]) hI .z rfl rfl rfl (ev_tmp rfl rfl) (ev_tmp rfl rfl) rfl size_25 rfl rfl rfl ?_
  clear hI; intro c6 w5 hI
  refine s_q rfl rfl (y_assign rfl (ev_tmp rfl rfl)) ?_
  refine s_nil ?_
  refine k_next (e := [(0, (Value.int .i64 op1)), (4, (Value.pointer (some ⟨b1, 0, none⟩))), (5, (Value.pointer (some ⟨b2, 0, none⟩))), (7, (Value.pointer (some ⟨b3, 0, none⟩))), (8, (Value.int .i64 r1.2))]) ⟨rfl, rfl, rfl, rfl, rfl, trivial⟩ ?_
  refine c_seq ?_
  refine c_region rfl ?_
  refine s_q rfl rfl (y_move rfl (ev_tmp rfl rfl)) ?_
  refine s_q rfl rfl (y_loadN (l := [(Value.int .i64 t1.Kind), (Value.int .i64 t1.Bits), (Value.int .i64 t1.Frac), (Value.int .i64 t1.Round), (Value.int .i64 t1.Over)]) rfl (ev_tmp rfl rfl) Tryd.underlying23 rfl size_23 (hI.kblk (l := [(Value.int .i64 t1.Kind), (Value.int .i64 t1.Bits), (Value.int .i64 t1.Frac), (Value.int .i64 t1.Round), (Value.int .i64 t1.Over)]) (.s .z) rfl).1) ?_
  refine s_q rfl rfl (y_indexAddrA (v := (Value.pointer (some ⟨b2, 0, none⟩))) rfl (ev_tmp rfl rfl) ev_const (fun _ => by kernel_rfl)) ?_
  refine s_q rfl rfl (y_loadN (l := [(Value.int .i64 l1.e0.N), (Value.int .i64 l1.e0.D)]) rfl (ev_tmp rfl rfl) Tryd.underlying25 rfl size_25 (hI.kblk (l := [(Value.int .i64 l1.e0.N), (Value.int .i64 l1.e0.D)]) .z rfl).1) ?_
  refine s_q rfl rfl (y_indexAddrA (v := (Value.pointer (some ⟨b2, 2, none⟩))) rfl (ev_tmp rfl rfl) ev_const (fun _ => by kernel_rfl)) ?_
  refine s_q rfl rfl (y_loadN (l := [(Value.int .i64 l1.e1.N), (Value.int .i64 l1.e1.D)]) rfl (ev_tmp rfl rfl) Tryd.underlying25 rfl size_25 (hI.kblk (l := [(Value.int .i64 l1.e1.N), (Value.int .i64 l1.e1.D)]) .z rfl).1) ?_
  obtain ⟨r2, hx3, h⟩ := bnd_some h
  refine s_call rfl rfl (r_callF (vs := [(Value.int .i64 op1), (Value.agg #[(Value.int .i64 t1.Kind), (Value.int .i64 t1.Bits), (Value.int .i64 t1.Frac), (Value.int .i64 t1.Round), (Value.int .i64 t1.Over)]), (Value.agg #[(Value.int .i64 l1.e0.N), (Value.int .i64 l1.e0.D)]), (Value.agg #[(Value.int .i64 l1.e1.N), (Value.int .i64 l1.e1.D)])]) rfl ok_18 ⟨(ev_tmp rfl rfl), ⟨(ev_tmp rfl rfl), ⟨(ev_tmp rfl rfl), ⟨(ev_tmp rfl rfl), trivial⟩⟩⟩⟩) (Calls.mono (c_ref04_Apply (Dj F c6) w5 hI.lt op1 t1 l1.e0 l1.e1 (hI.facts trivial) r2 hx3) ?_)
  rintro _ w6 ⟨rfl, hx4, hl2⟩
  refine ⟨_, rfl, ?_⟩
  replace hI := (hI.ext hx4)
  refine s_q rfl rfl (y_move rfl (ev_tmp rfl rfl)) ?_
  refine s_q rfl rfl (y_extract rfl (ev_tmp rfl rfl) rfl) ?_
  refine s_q rfl rfl (y_extract rfl (ev_tmp rfl rfl) rfl) ?_
  refine l_alloc (cs := #[(Value.int .i64 0), (Value.int .i64 0)]) hI rfl rfl rfl zero_25 rfl ?_
  clear hI; intro b4 c7 w7 hI
  refine l_store (new := [(Value.int .i64 r2.1.N), (Value.int .i64 r2.1.D)]) (cs' := #[(Value.int .i64 r2.1.N), (Value.int .i64 r2.1.D)]) hI .z rfl rfl rfl (ev_tmp rfl rfl) (ev_tmp rfl rfl) rfl size_25 rfl rfl rfl ?_
  clear hI; intro c8 w8 hI
  refine s_q rfl rfl (y_assign rfl (ev_tmp rfl rfl)) ?_
  refine s_nil ?_
  refine k_next (e := [(4, (Value.pointer (some ⟨b1, 0, none⟩))), (5, (Value.pointer (some ⟨b2, 0, none⟩))), (7, (Value.pointer (some ⟨b3, 0, none⟩))), (8, (Value.int .i64 r1.2)), (9, (Value.pointer (some ⟨b4, 0, none⟩))), (10, (Value.int .i64 r2.2))]) ⟨rfl, rfl, rfl, rfl, rfl, rfl, trivial⟩ ?_
  refine c_join (α := Unit) (fun _ => ⟨94, []⟩) (fun _ => [(4, (Value.pointer (some ⟨b1, 0, none⟩))), (5, (Value.pointer (some ⟨b2, 0, none⟩))), (7, (Value.pointer (some ⟨b3, 0, none⟩))), (8, (Value.int .i64 r1.2)), (9, (Value.pointer (some ⟨b4, 0, none⟩))), (10, (Value.int .i64 r2.2))]) (fun _ => fun w => ∃ C, Bun noM F w0 C w [MO.box b3 25 #[(Value.int .i64 r1.1.N), (Value.int .i64 r1.1.D)], MO.box b4 25 #[(Value.int .i64 r2.1.N), (Value.int .i64 r2.1.D)]] [Cl.blk b1 23 #[(Value.int .i64 t1.Kind), (Value.int .i64 t1.Bits), (Value.int .i64 t1.Frac), (Value.int .i64 t1.Round), (Value.int .i64 t1.Over)], Cl.blk b2 33 #[(Value.int .i64 l1.e0.N), (Value.int .i64 l1.e0.D), (Value.int .i64 l1.e1.N), (Value.int .i64 l1.e1.D)], clPow10] ∧ m_law04_ValueApply_j1 r1 r2 t1 l1 = some r) ?_ ?_
  · clear h hI; rintro _ w9 ⟨c9, hI, h⟩
    try dsimp only at hI h
    rw [m_law04_ValueApply_j1] at h
    refine c_sub (e := [(4, (Value.pointer (some ⟨b1, 0, none⟩))), (5, (Value.pointer (some ⟨b2, 0, none⟩))), (7, (Value.pointer (some ⟨b3, 0, none⟩))), (8, (Value.int .i64 r1.2)), (9, (Value.pointer (some ⟨b4, 0, none⟩))), (10, (Value.int .i64 r2.2))]) ⟨rfl, rfl, rfl, rfl, rfl, rfl, trivial⟩ ?_
    refine c_seq ?_
    refine c_drawX [] false [(0, true), (1, true), (2, true), (3, true), (4, true), (5, true), (6, true), (7, true), (8, true), (9, true), (10, true), (11, true), (12, true), (13, true), (15, true), (16, true), (17, true), (18, true), (19, true), (14, false), (20, false), (21, true), (22, true), (23, true), (24, false), (25, true), (26, true)] hI (by kernel_rfl) (by kernel_rfl) ?_
    clear hI; intro w10 hI
    refine a_read rfl rfl rfl (fun w' hw' => (y_loadN (l := [(Value.int .i64 r1.1.N), (Value.int .i64 r1.1.D)]) rfl (ev_tmp rfl rfl) Tryd.underlying25 rfl size_25 ((CA.blk (hI.blk .z) rfl).at_ (SX.any rfl hw')))) (by kernel_rfl) ?_
    refine a_read rfl rfl rfl (fun w' hw' => (y_loadN (l := [(Value.int .i64 r2.1.N), (Value.int .i64 r2.1.D)]) rfl (ev_tmp rfl rfl) Tryd.underlying25 rfl size_25 ((CA.blk (hI.blk (.s .z)) rfl).at_ (SX.any rfl hw')))) (by kernel_rfl) ?_
    refine a_q rfl rfl rfl (fun w' => (y_bin rfl (ev_tmp rfl rfl) (ev_tmp rfl rfl) (eqstruct_25 ..) (eqguard_25 ..))) ?_
    refine a_q rfl rfl rfl (fun w' => (y_move rfl (ev_tmp rfl rfl))) ?_
    refine a_gval rfl (g_true rfl rfl rfl rfl) rfl (fun hc => fun w' => (y_move rfl (ev_tmp rfl rfl))) ?_
    refine a_gval rfl (g_true rfl rfl rfl rfl) rfl (fun hc => fun w' => (y_move rfl (ev_tmp rfl rfl))) ?_
    refine a_gval rfl (g_true rfl rfl rfl rfl) rfl (fun hc => fun w' => (y_eql rfl (ev_gv (ev_tmp rfl rfl) hc) (ev_gv (ev_tmp rfl rfl) hc))) ?_
    refine a_q rfl rfl rfl (fun w' => (y_and rfl (ev_tmp rfl rfl) (ev_tmp rfl rfl))) ?_
    refine a_q rfl rfl rfl (fun w' => (y_move rfl (ev_tmp rfl rfl))) ?_
    refine a_gread rfl (g_true rfl rfl rfl rfl) rfl (fun hc => fun w' hw' => (y_loadN (l := [(Value.int .i64 t1.Kind), (Value.int .i64 t1.Bits), (Value.int .i64 t1.Frac), (Value.int .i64 t1.Round), (Value.int .i64 t1.Over)]) rfl (ev_tmp rfl rfl) Tryd.underlying23 rfl size_23 ((hI.kblk (l := [(Value.int .i64 t1.Kind), (Value.int .i64 t1.Bits), (Value.int .i64 t1.Frac), (Value.int .i64 t1.Round), (Value.int .i64 t1.Over)]) .z rfl).at_ (SX.any rfl hw')))) (by kernel_rfl) ?_
    refine a_gval rfl (g_true rfl rfl rfl rfl) rfl (fun hc => fun w' => (y_indexAddrA (v := (Value.pointer (some ⟨b2, 0, none⟩))) rfl (ev_tmp rfl rfl) ev_const (fun _ => by kernel_rfl))) ?_
    refine a_gread rfl (g_true rfl rfl rfl rfl) rfl (fun hc => fun w' hw' => (y_loadN (l := [(Value.int .i64 l1.e0.N), (Value.int .i64 l1.e0.D)]) rfl (ev_gv (ev_tmp rfl rfl) hc) Tryd.underlying25 rfl size_25 ((hI.kblk (l := [(Value.int .i64 l1.e0.N), (Value.int .i64 l1.e0.D)]) (.s .z) rfl).at_ (SX.any rfl hw')))) (by kernel_rfl) ?_
    refine a_gval rfl (g_true rfl rfl rfl rfl) rfl (fun hc => fun w' => (y_indexAddrA (v := (Value.pointer (some ⟨b2, 2, none⟩))) rfl (ev_tmp rfl rfl) ev_const (fun _ => by kernel_rfl))) ?_
    refine a_gread rfl (g_true rfl rfl rfl rfl) rfl (fun hc => fun w' hw' => (y_loadN (l := [(Value.int .i64 l1.e1.N), (Value.int .i64 l1.e1.D)]) rfl (ev_gv (ev_tmp rfl rfl) hc) Tryd.underlying25 rfl size_25 ((hI.kblk (l := [(Value.int .i64 l1.e1.N), (Value.int .i64 l1.e1.D)]) (.s .z) rfl).at_ (SX.any rfl hw')))) (by kernel_rfl) ?_
    refine a_gread rfl (g_true rfl rfl rfl rfl) rfl (fun hc => fun w' hw' => (y_loadN (l := [(Value.int .i64 t1.Kind), (Value.int .i64 t1.Bits), (Value.int .i64 t1.Frac), (Value.int .i64 t1.Round), (Value.int .i64 t1.Over)]) rfl (ev_tmp rfl rfl) Tryd.underlying23 rfl size_23 ((hI.kblk (l := [(Value.int .i64 t1.Kind), (Value.int .i64 t1.Bits), (Value.int .i64 t1.Frac), (Value.int .i64 t1.Round), (Value.int .i64 t1.Over)]) .z rfl).at_ (SX.any rfl hw')))) (by kernel_rfl) ?_
    refine a_gval rfl (g_true rfl rfl rfl rfl) rfl (fun hc => fun w' => (y_indexAddrA (v := (Value.pointer (some ⟨b2, 0, none⟩))) rfl (ev_tmp rfl rfl) ev_const (fun _ => by kernel_rfl))) ?_
    refine a_gread rfl (g_true rfl rfl rfl rfl) rfl (fun hc => fun w' hw' => (y_loadN (l := [(Value.int .i64 l1.e0.N), (Value.int .i64 l1.e0.D)]) rfl (ev_gv (ev_tmp rfl rfl) hc) Tryd.underlying25 rfl size_25 ((hI.kblk (l := [(Value.int .i64 l1.e0.N), (Value.int .i64 l1.e0.D)]) (.s .z) rfl).at_ (SX.any rfl hw')))) (by kernel_rfl) ?_
    refine a_gval rfl (g_true rfl rfl rfl rfl) rfl (fun hc => fun w' => (y_indexAddrA (v := (Value.pointer (some ⟨b2, 2, none⟩))) rfl (ev_tmp rfl rfl) ev_const (fun _ => by kernel_rfl))) ?_
    refine a_gread rfl (g_true rfl rfl rfl rfl) rfl (fun hc => fun w' hw' => (y_loadN (l := [(Value.int .i64 l1.e1.N), (Value.int .i64 l1.e1.D)]) rfl (ev_gv (ev_tmp rfl rfl) hc) Tryd.underlying25 rfl size_25 ((hI.kblk (l := [(Value.int .i64 l1.e1.N), (Value.int .i64 l1.e1.D)]) (.s .z) rfl).at_ (SX.any rfl hw')))) (by kernel_rfl) ?_
    obtain ⟨r3, hx5, h⟩ := bnd_some h
    replace hx5 := gd_some hx5
    refine la_gcallU (v := (Value.int .i64 r3)) rfl (g_true rfl rfl rfl rfl) rfl (fun hc => (r_callF (vs := [(Value.agg #[(Value.int .i64 t1.Kind), (Value.int .i64 t1.Bits), (Value.int .i64 t1.Frac), (Value.int .i64 t1.Round), (Value.int .i64 t1.Over)]), (Value.agg #[(Value.int .i64 l1.e0.N), (Value.int .i64 l1.e0.D)]), (Value.agg #[(Value.int .i64 l1.e1.N), (Value.int .i64 l1.e1.D)])]) rfl ok_19 ⟨(ev_gv (ev_tmp rfl rfl) hc), ⟨(ev_gv (ev_tmp rfl rfl) hc), ⟨(ev_gv (ev_tmp rfl rfl) hc), trivial⟩⟩⟩)) (fun hc => (c_value_Compare (Dj F c9) w10 hI.lt t1 l1.e0 l1.e1 (hI.facts trivial) r3 (hx5 hc)).mono fun _ _ k => ⟨k.1, k.2.1⟩) ?_
    intro w11 hx6; replace hI := hI.ext hx6
    obtain ⟨r4, hx7, h⟩ := bnd_some h
    replace hx7 := gd_some hx7
    refine la_gcallU (v := (Value.int .i64 r4)) rfl (g_true rfl rfl rfl rfl) rfl (fun hc => (r_callF (vs := [(Value.agg #[(Value.int .i64 t1.Kind), (Value.int .i64 t1.Bits), (Value.int .i64 t1.Frac), (Value.int .i64 t1.Round), (Value.int .i64 t1.Over)]), (Value.agg #[(Value.int .i64 l1.e0.N), (Value.int .i64 l1.e0.D)]), (Value.agg #[(Value.int .i64 l1.e1.N), (Value.int .i64 l1.e1.D)])]) rfl ok_20 ⟨(ev_gv (ev_tmp rfl rfl) hc), ⟨(ev_gv (ev_tmp rfl rfl) hc), ⟨(ev_gv (ev_tmp rfl rfl) hc), trivial⟩⟩⟩)) (fun hc => (c_ref04_Compare (Dj F c9) w11 hI.lt t1 l1.e0 l1.e1 (hI.facts trivial) r4 (hx7 hc)).mono fun _ _ k => ⟨k.1, k.2.1⟩) ?_
    intro w12 hx8; replace hI := hI.ext hx8
    refine a_gval rfl (g_true rfl rfl rfl rfl) rfl (fun hc => fun w' => (y_eql rfl (ev_gv (ev_tmp rfl rfl) hc) (ev_gv (ev_tmp rfl rfl) hc))) ?_
    refine a_q rfl rfl rfl (fun w' => (y_and rfl (ev_tmp rfl rfl) (ev_tmp rfl rfl))) ?_
    refine a_q rfl rfl rfl (fun w' => (y_move rfl (ev_tmp rfl rfl))) ?_
    obtain ⟨r5, hx9, h⟩ := bnd_some h
    replace hx9 := gd_some hx9
    refine la_gcallU (v := (Value.bool r5)) rfl (g_true rfl rfl rfl rfl) rfl (fun hc => (r_callF (vs := []) rfl ok_16 trivial)) (fun hc => (c_law04_examples (Dj F c9) w12 hI.lt (hI.facts ⟨(.s (.s .z)), trivial⟩) r5 (hx9 hc)).mono fun _ _ k => ⟨k.1, k.2.1⟩) ?_
    intro w13 hx10; replace hI := hI.ext hx10
    refine a_q rfl rfl rfl (fun w' => (y_and rfl (ev_tmp rfl rfl) (ev_tmp rfl rfl))) ?_
    refine a_q rfl rfl rfl (fun w' => (y_assign rfl (ev_tmp rfl rfl))) ?_
    refine a_nil ?_
    refine k_next (e := [(6, (Value.bool (((((decide (r1.1.N = r2.1.N)) && (decide (r1.1.D = r2.1.D))) && (decide (r1.2 = r2.2))) && (decide (r3 = r4))) && r5)))]) ⟨rfl, trivial⟩ ?_
    refine c_ret ?_
    obtain rfl := some_inj h
    exact q_ret (vs := [(Value.bool (((((decide (r1.1.N = r2.1.N)) && (decide (r1.1.D = r2.1.D))) && (decide (r1.2 = r2.2))) && (decide (r3 = r4))) && r5))]) Tryd.results4 ⟨ev_tmp rfl rfl, trivial⟩ ⟨rfl, hI.ext0, hI.fin trivial⟩
  · skip
    refine c_seq ?_
    refine c_region rfl ?_
    refine s_q rfl rfl (y_assign rfl ev_const) ?_
    refine s_nil ?_
    refine k_next (e := [(4, (Value.pointer (some ⟨b1, 0, none⟩))), (5, (Value.pointer (some ⟨b2, 0, none⟩))), (7, (Value.pointer (some ⟨b3, 0, none⟩))), (8, (Value.int .i64 r1.2)), (9, (Value.pointer (some ⟨b4, 0, none⟩))), (10, (Value.int .i64 r2.2)), (11, (Value.int .i64 4))]) ⟨rfl, rfl, rfl, rfl, rfl, rfl, rfl, trivial⟩ ?_
    refine c_block ?_
    refine c_loop (α := Nat × Int) (fun x => fun w => ∃ C, Bun noM F w0 C w [MO.box b3 25 #[(Value.int .i64 r1.1.N), (Value.int .i64 r1.1.D)], MO.box b4 25 #[(Value.int .i64 r2.1.N), (Value.int .i64 r2.1.D)]] [Cl.blk b1 23 #[(Value.int .i64 t1.Kind), (Value.int .i64 t1.Bits), (Value.int .i64 t1.Frac), (Value.int .i64 t1.Round), (Value.int .i64 t1.Over)], Cl.blk b2 33 #[(Value.int .i64 l1.e0.N), (Value.int .i64 l1.e0.D), (Value.int .i64 l1.e1.N), (Value.int .i64 l1.e1.D)], clPow10] ∧ m_law04_ValueApply_l1 t1 l1 r1 r2 (x.1) (x.2) = some r) (fun x _ => x.1) (fun x => [(4, (Value.pointer (some ⟨b1, 0, none⟩))), (5, (Value.pointer (some ⟨b2, 0, none⟩))), (7, (Value.pointer (some ⟨b3, 0, none⟩))), (8, (Value.int .i64 r1.2)), (9, (Value.pointer (some ⟨b4, 0, none⟩))), (10, (Value.int .i64 r2.2)), (11, (Value.int .i64 (x.2)))]) (fu, 4) ⟨_, hI.arr (.c (.s .z) (.c .z .n)) ⟨(.s .z), .z, (.s (.s .z)), trivial⟩, h⟩ ⟨rfl, rfl, rfl, rfl, rfl, rfl, rfl, trivial⟩ ?_
    clear h hI; rintro ⟨fuel1, k1⟩ w14 ⟨c10, hI, h⟩
    dsimp only at hI h
    rcases fuel1 with _ | fuel1
    · rw [m_law04_ValueApply_l1] at h; cases h
    rw [m_law04_ValueApply_l1] at h
    refine c_sub (e := [(4, (Value.pointer (some ⟨b1, 0, none⟩))), (5, (Value.pointer (some ⟨b2, 0, none⟩))), (7, (Value.pointer (some ⟨b3, 0, none⟩))), (8, (Value.int .i64 r1.2)), (9, (Value.pointer (some ⟨b4, 0, none⟩))), (10, (Value.int .i64 r2.2)), (11, (Value.int .i64 k1))]) ⟨rfl, rfl, rfl, rfl, rfl, rfl, rfl, trivial⟩ ?_
    refine c_seq ?_
    refine c_seq ?_
    refine c_region rfl ?_
    refine s_q rfl rfl (y_move rfl (ev_tmp rfl rfl)) ?_
    refine s_q rfl rfl (y_leq rfl (ev_tmp rfl rfl) ev_const) ?_
    refine s_nil ?_
    refine k_next (e := [(4, (Value.pointer (some ⟨b1, 0, none⟩))), (5, (Value.pointer (some ⟨b2, 0, none⟩))), (7, (Value.pointer (some ⟨b3, 0, none⟩))), (8, (Value.int .i64 r1.2)), (9, (Value.pointer (some ⟨b4, 0, none⟩))), (10, (Value.int .i64 r2.2)), (11, (Value.int .i64 k1)), (37, (Value.bool (decide (k1 ≤ 10))))]) ⟨rfl, rfl, rfl, rfl, rfl, rfl, rfl, rfl, trivial⟩ ?_
    refine c_cond (b := decide (k1 ≤ 10)) (ev_tmp rfl rfl) (fun hb => ?_) (fun hb => ?_)
    · replace h := ite_t hb h
      refine c_skip ?_
      refine k_next (e := [(4, (Value.pointer (some ⟨b1, 0, none⟩))), (5, (Value.pointer (some ⟨b2, 0, none⟩))), (7, (Value.pointer (some ⟨b3, 0, none⟩))), (8, (Value.int .i64 r1.2)), (9, (Value.pointer (some ⟨b4, 0, none⟩))), (10, (Value.int .i64 r2.2)), (11, (Value.int .i64 k1))]) ⟨rfl, rfl, rfl, rfl, rfl, rfl, rfl, trivial⟩ ?_
      refine c_seq ?_
      refine c_block ?_
      refine c_seq ?_
      refine c_region rfl ?_
      refine s_q rfl rfl (y_move rfl (ev_tmp rfl rfl)) ?_
      refine s_q rfl rfl (y_loadN (l := [(Value.int .i64 t1.Kind), (Value.int .i64 t1.Bits), (Value.int .i64 t1.Frac), (Value.int .i64 t1.Round), (Value.int .i64 t1.Over)]) rfl (ev_tmp rfl rfl) Tryd.underlying23 rfl size_23 (hI.kblk (l := [(Value.int .i64 t1.Kind), (Value.int .i64 t1.Bits), (Value.int .i64 t1.Frac), (Value.int .i64 t1.Round), (Value.int .i64 t1.Over)]) .z rfl).1) ?_
      refine s_q rfl rfl (y_indexAddrA (v := (Value.pointer (some ⟨b2, 0, none⟩))) rfl (ev_tmp rfl rfl) ev_const (fun _ => by kernel_rfl)) ?_
      refine s_q rfl rfl (y_loadN (l := [(Value.int .i64 l1.e0.N), (Value.int .i64 l1.e0.D)]) rfl (ev_tmp rfl rfl) Tryd.underlying25 rfl size_25 (hI.kblk (l := [(Value.int .i64 l1.e0.N), (Value.int .i64 l1.e0.D)]) (.s .z) rfl).1) ?_
      refine s_q rfl rfl (y_indexAddrA (v := (Value.pointer (some ⟨b2, 2, none⟩))) rfl (ev_tmp rfl rfl) ev_const (fun _ => by kernel_rfl)) ?_
      refine s_q rfl rfl (y_loadN (l := [(Value.int .i64 l1.e1.N), (Value.int .i64 l1.e1.D)]) rfl (ev_tmp rfl rfl) Tryd.underlying25 rfl size_25 (hI.kblk (l := [(Value.int .i64 l1.e1.N), (Value.int .i64 l1.e1.D)]) (.s .z) rfl).1) ?_
      obtain ⟨r6, hx11, h⟩ := bnd_some h
      refine s_call rfl rfl (r_callF (vs := [(Value.int .i64 k1), (Value.agg #[(Value.int .i64 t1.Kind), (Value.int .i64 t1.Bits), (Value.int .i64 t1.Frac), (Value.int .i64 t1.Round), (Value.int .i64 t1.Over)]), (Value.agg #[(Value.int .i64 l1.e0.N), (Value.int .i64 l1.e0.D)]), (Value.agg #[(Value.int .i64 l1.e1.N), (Value.int .i64 l1.e1.D)])]) rfl ok_17 ⟨(ev_tmp rfl rfl), ⟨(ev_tmp rfl rfl), ⟨(ev_tmp rfl rfl), ⟨(ev_tmp rfl rfl), trivial⟩⟩⟩⟩) (Calls.mono (c_value_Apply (Dj F c10) w14 hI.lt k1 t1 l1.e0 l1.e1 (hI.facts trivial) r6 hx11) ?_)
      rintro _ w15 ⟨rfl, hx12, hl6⟩
      refine ⟨_, rfl, ?_⟩
      replace hI := (hI.ext hx12)
      refine s_q rfl rfl (y_move rfl (ev_tmp rfl rfl)) ?_
      refine s_q rfl rfl (y_extract rfl (ev_tmp rfl rfl) rfl) ?_
      refine s_q rfl rfl (y_extract rfl (ev_tmp rfl rfl) rfl) ?_
      refine l_alloc (cs := #[(Value.int .i64 0), (Value.int .i64 0)]) hI rfl rfl rfl zero_25 rfl ?_
      clear hI; intro b5 c11 w16 hI
      refine l_store (new := [(Value.int .i64 r6.1.N), (Value.int .i64 r6.1.D)]) (cs' := #[(Value.int .i64 r6.1.N), (Value.int .i64 r6.1.D)]) hI .z rfl rfl rfl (ev_tmp rfl rfl) (ev_tmp rfl rfl) rfl size_25 rfl rfl rfl ?_
      clear hI; intro c12 w17 hI
      refine s_q rfl rfl (y_assign rfl (ev_tmp rfl rfl)) ?_
      refine s_nil ?_
      refine k_next (e := [(4, (Value.pointer (some ⟨b1, 0, none⟩))), (5, (Value.pointer (some ⟨b2, 0, none⟩))), (7, (Value.pointer (some ⟨b3, 0, none⟩))), (8, (Value.int .i64 r1.2)), (9, (Value.pointer (some ⟨b4, 0, none⟩))), (10, (Value.int .i64 r2.2)), (11, (Value.int .i64 k1)), (12, (Value.pointer (some ⟨b5, 0, none⟩))), (13, (Value.int .i64 r6.2))]) ⟨rfl, rfl, rfl, rfl, rfl, rfl, rfl, rfl, rfl, trivial⟩ ?_
      refine c_seq ?_
      refine c_region rfl ?_
      refine s_q rfl rfl (y_move rfl (ev_tmp rfl rfl)) ?_
      refine s_q rfl rfl (y_loadN (l := [(Value.int .i64 t1.Kind), (Value.int .i64 t1.Bits), (Value.int .i64 t1.Frac), (Value.int .i64 t1.Round), (Value.int .i64 t1.Over)]) rfl (ev_tmp rfl rfl) Tryd.underlying23 rfl size_23 (hI.kblk (l := [(Value.int .i64 t1.Kind), (Value.int .i64 t1.Bits), (Value.int .i64 t1.Frac), (Value.int .i64 t1.Round), (Value.int .i64 t1.Over)]) .z rfl).1) ?_
      refine s_q rfl rfl (y_indexAddrA (v := (Value.pointer (some ⟨b2, 0, none⟩))) rfl (ev_tmp rfl rfl) ev_const (fun _ => by kernel_rfl)) ?_
      refine s_q rfl rfl (y_loadN (l := [(Value.int .i64 l1.e0.N), (Value.int .i64 l1.e0.D)]) rfl (ev_tmp rfl rfl) Tryd.underlying25 rfl size_25 (hI.kblk (l := [(Value.int .i64 l1.e0.N), (Value.int .i64 l1.e0.D)]) (.s .z) rfl).1) ?_
      refine s_q rfl rfl (y_indexAddrA (v := (Value.pointer (some ⟨b2, 2, none⟩))) rfl (ev_tmp rfl rfl) ev_const (fun _ => by kernel_rfl)) ?_
      refine s_q rfl rfl (y_loadN (l := [(Value.int .i64 l1.e1.N), (Value.int .i64 l1.e1.D)]) rfl (ev_tmp rfl rfl) Tryd.underlying25 rfl size_25 (hI.kblk (l := [(Value.int .i64 l1.e1.N), (Value.int .i64 l1.e1.D)]) (.s .z) rfl).1) ?_
      obtain ⟨r7, hx13, h⟩ := bnd_some h
      refine s_call rfl rfl (r_callF (vs := [(Value.int .i64 k1), (Value.agg #[(Value.int .i64 t1.Kind), (Value.int .i64 t1.Bits), (Value.int .i64 t1.Frac), (Value.int .i64 t1.Round), (Value.int .i64 t1.Over)]), (Value.agg #[(Value.int .i64 l1.e0.N), (Value.int .i64 l1.e0.D)]), (Value.agg #[(Value.int .i64 l1.e1.N), (Value.int .i64 l1.e1.D)])]) rfl ok_18 ⟨(ev_tmp rfl rfl), ⟨(ev_tmp rfl rfl), ⟨(ev_tmp rfl rfl), ⟨(ev_tmp rfl rfl), trivial⟩⟩⟩⟩) (Calls.mono (c_ref04_Apply (Dj F c12) w17 hI.lt k1 t1 l1.e0 l1.e1 (hI.facts trivial) r7 hx13) ?_)
      rintro _ w18 ⟨rfl, hx14, hl7⟩
      refine ⟨_, rfl, ?_⟩
      replace hI := (hI.ext hx14)
      refine s_q rfl rfl (y_move rfl (ev_tmp rfl rfl)) ?_
      refine s_q rfl rfl (y_extract rfl (ev_tmp rfl rfl) rfl) ?_
      refine s_q rfl rfl (y_extract rfl (ev_tmp rfl rfl) rfl) ?_
      refine l_alloc (cs := #[(Value.int .i64 0), (Value.int .i64 0)]) hI rfl rfl rfl zero_25 rfl ?_
      clear hI; intro b6 c13 w19 hI
      refine l_store (new := [(Value.int .i64 r7.1.N), (Value.int .i64 r7.1.D)]) (cs' := #[(Value.int .i64 r7.1.N), (Value.int .i64 r7.1.D)]) hI .z rfl rfl rfl (ev_tmp rfl rfl) (ev_tmp rfl rfl) rfl size_25 rfl rfl rfl ?_
      clear hI; intro c14 w20 hI
      refine s_q rfl rfl (y_assign rfl (ev_tmp rfl rfl)) ?_
      refine s_nil ?_
      refine k_next (e := [(4, (Value.pointer (some ⟨b1, 0, none⟩))), (5, (Value.pointer (some ⟨b2, 0, none⟩))), (7, (Value.pointer (some ⟨b3, 0, none⟩))), (8, (Value.int .i64 r1.2)), (9, (Value.pointer (some ⟨b4, 0, none⟩))), (10, (Value.int .i64 r2.2)), (11, (Value.int .i64 k1)), (12, (Value.pointer (some ⟨b5, 0, none⟩))), (13, (Value.int .i64 r6.2)), (14, (Value.pointer (some ⟨b6, 0, none⟩))), (15, (Value.int .i64 r7.2))]) ⟨rfl, rfl, rfl, rfl, rfl, rfl, rfl, rfl, rfl, rfl, rfl, trivial⟩ ?_
      refine c_seq ?_
      refine c_region rfl ?_
      refine s_q rfl rfl (y_loadN (l := [(Value.int .i64 r6.1.N), (Value.int .i64 r6.1.D)]) rfl (ev_tmp rfl rfl) Tryd.underlying25 rfl size_25 (CellsAt.of_blk (hI.blk (.s .z)) rfl)) ?_
      refine s_q rfl rfl (y_loadN (l := [(Value.int .i64 r7.1.N), (Value.int .i64 r7.1.D)]) rfl (ev_tmp rfl rfl) Tryd.underlying25 rfl size_25 (CellsAt.of_blk (hI.blk .z) rfl)) ?_
      refine s_q rfl rfl (y_bin rfl (ev_tmp rfl rfl) (ev_tmp rfl rfl) (eqstruct_25n ..) (eqguard_25 ..)) ?_
      refine s_q rfl rfl (y_move rfl (ev_tmp rfl rfl)) ?_
      refine s_gval (g_false rfl rfl rfl rfl) rfl (fun hc => (y_move rfl (ev_tmp rfl rfl))) ?_
      refine s_gval (g_false rfl rfl rfl rfl) rfl (fun hc => (y_move rfl (ev_tmp rfl rfl))) ?_
      refine s_gval (g_false rfl rfl rfl rfl) rfl (fun hc => (y_neq rfl (ev_gv (ev_tmp rfl rfl) hc) (ev_gv (ev_tmp rfl rfl) hc))) ?_
      refine s_q rfl rfl (y_or rfl (ev_tmp rfl rfl) (ev_tmp rfl rfl)) ?_
      refine s_nil ?_
      refine k_next (e := [(4, (Value.pointer (some ⟨b1, 0, none⟩))), (5, (Value.pointer (some ⟨b2, 0, none⟩))), (7, (Value.pointer (some ⟨b3, 0, none⟩))), (8, (Value.int .i64 r1.2)), (9, (Value.pointer (some ⟨b4, 0, none⟩))), (10, (Value.int .i64 r2.2)), (11, (Value.int .i64 k1)), (67, (Value.bool ((!((decide (r6.1.N = r7.1.N)) && (decide (r6.1.D = r7.1.D)))) || (!decide (r6.2 = r7.2)))))]) ⟨rfl, rfl, rfl, rfl, rfl, rfl, rfl, rfl, trivial⟩ ?_
      refine c_cond (b := (!((decide (r6.1.N = r7.1.N)) && (decide (r6.1.D = r7.1.D)))) || (!decide (r6.2 = r7.2))) (ev_tmp rfl rfl) (fun hb => ?_) (fun hb => ?_)
      · replace h := ite_t hb h
        refine c_seq ?_
        refine c_region rfl ?_
        refine s_q rfl rfl (y_assign rfl ev_const) ?_
        refine s_nil ?_
        refine k_next (e := [(6, (Value.bool false))]) ⟨rfl, trivial⟩ ?_
        refine c_ret ?_
        obtain rfl := some_inj h
        exact q_ret (vs := [(Value.bool false)]) Tryd.results4 ⟨ev_tmp rfl rfl, trivial⟩ ⟨rfl, hI.ext0, hI.fin trivial⟩
      · replace h := ite_f hb h
        refine c_skip ?_
        refine k_next (e := [(4, (Value.pointer (some ⟨b1, 0, none⟩))), (5, (Value.pointer (some ⟨b2, 0, none⟩))), (7, (Value.pointer (some ⟨b3, 0, none⟩))), (8, (Value.int .i64 r1.2)), (9, (Value.pointer (some ⟨b4, 0, none⟩))), (10, (Value.int .i64 r2.2)), (11, (Value.int .i64 k1))]) ⟨rfl, rfl, rfl, rfl, rfl, rfl, rfl, trivial⟩ ?_
        refine c_region rfl ?_
        refine s_q rfl rfl (y_move rfl (ev_tmp rfl rfl)) ?_
        refine s_q rfl rfl (y_add rfl (ev_tmp rfl rfl) ev_const) ?_
        refine s_q rfl rfl (y_assign rfl (ev_tmp rfl rfl)) ?_
        refine s_nil ?_
        exact k_loop (fuel1, wi64 (k1 + 1)) ⟨rfl, rfl, rfl, rfl, rfl, rfl, rfl, trivial⟩ ⟨_, hI.arr (.c (.s (.s .z)) (.c (.s (.s .z)) .n)) ⟨.z, (.s .z), (.s (.s .z)), trivial⟩, h⟩ (Nat.lt_succ_self _)
    · replace h := ite_f hb h
      refine c_exit ?_
      refine k_in ?_
      exact k_join () ⟨rfl, rfl, rfl, rfl, rfl, rfl, trivial⟩ ⟨_, hI.arr (.c .z (.c .z .n)) ⟨.z, (.s .z), (.s (.s .z)), trivial⟩, h⟩ rfl

set_option maxRecDepth 100000 in
set_option maxHeartbeats 4000000 in
theorem c_ref04_Value (F : NP) (w0 : World) (hF : ∀ k, F k → k < w0.heap.size) (t1 : GType) (v1 : GVal) (hc : AllCl [] F w0) (r : GVal)
    (h : m_ref04_Value t1 v1 = some r) :
    Calls Tryd.prog 49 #[(Value.agg #[(Value.int .i64 t1.Kind), (Value.int .i64 t1.Bits), (Value.int .i64 t1.Frac), (Value.int .i64 t1.Round), (Value.int .i64 t1.Over)]), (Value.agg #[(Value.int .i64 v1.N), (Value.int .i64 v1.D)])] w0 fun e w => e = .returned (Value.agg #[(Value.int .i64 r.N), (Value.int .i64 r.D)]) ∧ Ext w0 w ∧ AllCl [] F w := by
  refine ofEnter (R := fun v w => v = (Value.agg #[(Value.int .i64 r.N), (Value.int .i64 r.D)]) ∧ Ext w0 w ∧ AllCl [] F w) (enter (l := [(Value.agg #[(Value.int .i64 t1.Kind), (Value.int .i64 t1.Bits), (Value.int .i64 t1.Frac), (Value.int .i64 t1.Round), (Value.int .i64 t1.Over)]), (Value.agg #[(Value.int .i64 v1.N), (Value.int .i64 v1.D)])]) Tryd.func49 rfl Tryd.ntmps49 rfl ?_) ?_
  rotate_left
  · rintro _ w ⟨rfl, k1, k2⟩; exact ⟨rfl, k1, k2⟩
  have hI := Bun.start hF hc
  clear hc
  rw [m_ref04_Value] at h
  refine c_seq ?_
  refine c_region rfl ?_
  refine l_box (v := (Value.agg #[(Value.int .i64 t1.Kind), (Value.int .i64 t1.Bits), (Value.int .i64 t1.Frac), (Value.int .i64 t1.Round), (Value.int .i64 t1.Over)])) (cs := #[(Value.int .i64 t1.Kind), (Value.int .i64 t1.Bits), (Value.int .i64 t1.Frac), (Value.int .i64 t1.Round), (Value.int .i64 t1.Over)]) hI rfl rfl rfl (ev_tmp rfl rfl) rfl ?_
  clear hI; intro b1 c1 w1 hI
  obtain ⟨c2, hI⟩ := hI.relBox .z
  refine l_box (v := (Value.agg #[(Value.int .i64 v1.N), (Value.int .i64 v1.D)])) (cs := #[(Value.int .i64 v1.N), (Value.int .i64 v1.D)]) hI rfl rfl rfl (ev_tmp rfl rfl) rfl ?_
  clear hI; intro b2 c3 w2 hI
  refine l_alloc (cs := #[(Value.int .i64 0), (Value.int .i64 0)]) hI rfl rfl rfl zero_25 rfl ?_
  clear hI; intro b3 c4 w3 hI
  refine s_nil ?_
  refine k_next (e := [(2, (Value.pointer (some ⟨b1, 0, none⟩))), (3, (Value.pointer (some ⟨b2, 0, none⟩))), (4, (Value.pointer (some ⟨b3, 0, none⟩)))]) ⟨rfl, rfl, rfl, trivial⟩ ?_
  refine c_seq ?_
  refine c_seq ?_
  refine c_region rfl ?_
  refine s_q rfl rfl (y_fieldAddr rfl (ev_tmp rfl rfl) Tryd.underlying23 rfl size_3 rfl) ?_
  refine s_q rfl rfl (y_load1 (v := (Value.int .i64 t1.Kind)) rfl (ev_tmp rfl rfl) Tryd.underlying3 rfl (hI.kblk (l := [(Value.int .i64 t1.Kind)]) .z rfl).1) ?_
  refine s_q rfl rfl (y_eql rfl (ev_tmp rfl rfl) ev_const) ?_
  refine s_nil ?_
  refine k_next (e := [(2, (Value.pointer (some ⟨b1, 0, none⟩))), (3, (Value.pointer (some ⟨b2, 0, none⟩))), (4, (Value.pointer (some ⟨b3, 0, none⟩))), (7, (Value.bool (decide (t1.Kind = 2))))]) ⟨rfl, rfl, rfl, rfl, trivial⟩ ?_
  refine c_cond (b := decide (t1.Kind = 2)) (ev_tmp rfl rfl) (fun hb => ?_) (fun hb => ?_)
  · replace h := ite_t hb h
    refine c_drawX [8] false [(0, true), (1, true), (2, true), (3, false), (4, false), (5, true), (6, true), (7, true), (8, false)] hI (by kernel_rfl) (by kernel_rfl) ?_
    clear hI; intro w4 hI
    refine a_q rfl rfl rfl (fun w' => (y_fieldAddr rfl (ev_tmp rfl rfl) Tryd.underlying25 rfl size_2 rfl)) ?_
    refine a_read rfl rfl rfl (fun w' hw' => (y_load1 (v := (Value.int .i64 v1.N)) rfl (ev_tmp rfl rfl) Tryd.underlying2 rfl ((CA.blk (hI.blk (.s .z)) rfl).at_ (SX.any rfl hw')))) (by kernel_rfl) ?_
    refine a_read rfl rfl rfl (fun w' hw' => (y_loadN (l := [(Value.int .i64 t1.Kind), (Value.int .i64 t1.Bits), (Value.int .i64 t1.Frac), (Value.int .i64 t1.Round), (Value.int .i64 t1.Over)]) rfl (ev_tmp rfl rfl) Tryd.underlying23 rfl size_23 ((hI.kblk (l := [(Value.int .i64 t1.Kind), (Value.int .i64 t1.Bits), (Value.int .i64 t1.Frac), (Value.int .i64 t1.Round), (Value.int .i64 t1.Over)]) .z rfl).at_ (SX.any rfl hw')))) (by kernel_rfl) ?_
    obtain ⟨r1, hx1, h⟩ := bnd_some h
    refine la_call rfl rfl rfl (r_callF (vs := [(Value.agg #[(Value.int .i64 t1.Kind), (Value.int .i64 t1.Bits), (Value.int .i64 t1.Frac), (Value.int .i64 t1.Round), (Value.int .i64 t1.Over)])]) rfl ok_29 ⟨(ev_tmp rfl rfl), trivial⟩) (Calls.mono (c_ref04_step (Dj F c4) w4 hI.lt t1 (hI.facts trivial) r1 hx1) ?_)
    rintro _ w5 ⟨rfl, hx2, hl1⟩
    refine ⟨_, rfl, hx2, ?_⟩
    replace hI := (hI.ext hx2)
    obtain ⟨r2, hx3, h⟩ := bnd_some h
    refine la_call rfl rfl rfl (r_callF (vs := [(Value.int .i64 v1.N), (Value.int .i64 r1)]) rfl ok_74 ⟨(ev_tmp rfl rfl), ⟨(ev_tmp rfl rfl), trivial⟩⟩) (Calls.mono (c_ref01_New (Dj F c4) w5 hI.lt v1.N r1 (hI.facts trivial) r2 hx3) ?_)
    rintro _ w6 ⟨rfl, hx4, hl2⟩
    refine ⟨_, rfl, hx4, ?_⟩
    replace hI := (hI.ext hx4)
    refine a_q rfl rfl rfl (fun w' => (y_move rfl (ev_tmp rfl rfl))) ?_
    refine a_q rfl rfl rfl (fun w' => (y_extract rfl (ev_tmp rfl rfl) rfl)) ?_
    refine a_q rfl rfl rfl (fun w' => (y_extract rfl (ev_tmp rfl rfl) rfl)) ?_
    refine a_turn (F := F) (C := c4) rfl rfl ?_
    refine la_store (new := [(Value.int .i64 r2.1.N), (Value.int .i64 r2.1.D)]) (cs' := #[(Value.int .i64 r2.1.N), (Value.int .i64 r2.1.D)]) hI (.s .z) rfl rfl rfl rfl (ev_tmp rfl rfl) (ev_tmp rfl rfl) rfl size_25 rfl rfl rfl ?_
    clear hI; intro c5 w7 hI
    refine a_nil ?_
    refine k_next (e := [(3, (Value.pointer (some ⟨b2, 0, none⟩))), (4, (Value.pointer (some ⟨b3, 0, none⟩)))]) ⟨rfl, rfl, trivial⟩ ?_
    refine c_seq ?_
    refine c_region rfl ?_
    refine s_q rfl rfl (y_loadN (l := [(Value.int .i64 r2.1.N), (Value.int .i64 r2.1.D)]) rfl (ev_tmp rfl rfl) Tryd.underlying25 rfl size_25 (CellsAt.of_blk (hI.blk (.s .z)) rfl)) ?_
    refine l_store (new := [(Value.int .i64 r2.1.N), (Value.int .i64 r2.1.D)]) (cs' := #[(Value.int .i64 r2.1.N), (Value.int .i64 r2.1.D)]) hI .z rfl rfl rfl (ev_tmp rfl rfl) (ev_tmp rfl rfl) rfl size_25 rfl rfl rfl ?_
    clear hI; intro c6 w8 hI
    refine s_nil ?_
    refine k_next (e := [(4, (Value.pointer (some ⟨b3, 0, none⟩)))]) ⟨rfl, trivial⟩ ?_
    refine c_ret ?_
    obtain rfl := some_inj h
    exact q_ret (vs := [(Value.agg #[(Value.int .i64 r2.1.N), (Value.int .i64 r2.1.D)])]) Tryd.results49 ⟨⟨_, ev_tmp rfl rfl, load_agg (l := [(Value.int .i64 r2.1.N), (Value.int .i64 r2.1.D)]) Tryd.underlying25 rfl size_25 (CellsAt.of_blk (hI.blk .z) rfl)⟩, trivial⟩ ⟨rfl, hI.ext0, hI.fin trivial⟩
  · replace h := ite_f hb h
    refine c_skip ?_
    refine k_next (e := [(3, (Value.pointer (some ⟨b2, 0, none⟩))), (4, (Value.pointer (some ⟨b3, 0, none⟩)))]) ⟨rfl, rfl, trivial⟩ ?_
    refine c_seq ?_
    refine c_region rfl ?_
    refine s_q rfl rfl (y_loadN (l := [(Value.int .i64 v1.N), (Value.int .i64 v1.D)]) rfl (ev_tmp rfl rfl) Tryd.underlying25 rfl size_25 (CellsAt.of_blk (hI.blk (.s .z)) rfl)) ?_
    refine l_store (new := [(Value.int .i64 v1.N), (Value.int .i64 v1.D)]) (cs' := #[(Value.int .i64 v1.N), (Value.int .i64 v1.D)]) hI .z rfl rfl rfl (ev_tmp rfl rfl) (ev_tmp rfl rfl) rfl size_25 rfl rfl rfl ?_
    clear hI; intro c7 w9 hI
    refine s_nil ?_
    refine k_next (e := [(4, (Value.pointer (some ⟨b3, 0, none⟩)))]) ⟨rfl, trivial⟩ ?_
    refine c_ret ?_
    obtain rfl := some_inj h
    exact q_ret (vs := [(Value.agg #[(Value.int .i64 v1.N), (Value.int .i64 v1.D)])]) Tryd.results49 ⟨⟨_, ev_tmp rfl rfl, load_agg (l := [(Value.int .i64 v1.N), (Value.int .i64 v1.D)]) Tryd.underlying25 rfl size_25 (CellsAt.of_blk (hI.blk .z) rfl)⟩, trivial⟩ ⟨rfl, hI.ext0, hI.fin trivial⟩

set_option maxRecDepth 100000 in
set_option maxHeartbeats 4000000 in
theorem c_ref04_Cast (F : NP) (w0 : World) (hF : ∀ k, F k → k < w0.heap.size) (from1 : GType) (to1 : GType) (v1 : GVal) (hc : AllCl [] F w0) (r : GVal × Int)
    (h : m_ref04_Cast from1 to1 v1 = some r) :
    Calls Tryd.prog 22 #[(Value.agg #[(Value.int .i64 from1.Kind), (Value.int .i64 from1.Bits), (Value.int .i64 from1.Frac), (Value.int .i64 from1.Round), (Value.int .i64 from1.Over)]), (Value.agg #[(Value.int .i64 to1.Kind), (Value.int .i64 to1.Bits), (Value.int .i64 to1.Frac), (Value.int .i64 to1.Round), (Value.int .i64 to1.Over)]), (Value.agg #[(Value.int .i64 v1.N), (Value.int .i64 v1.D)])] w0 fun e w => e = .returned (Value.tuple #[(Value.agg #[(Value.int .i64 r.1.N), (Value.int .i64 r.1.D)]), (Value.int .i64 r.2)]) ∧ Ext w0 w ∧ AllCl [] F w := by
  refine ofEnter (R := fun v w => v = (Value.tuple #[(Value.agg #[(Value.int .i64 r.1.N), (Value.int .i64 r.1.D)]), (Value.int .i64 r.2)]) ∧ Ext w0 w ∧ AllCl [] F w) (enter (l := [(Value.agg #[(Value.int .i64 from1.Kind), (Value.int .i64 from1.Bits), (Value.int .i64 from1.Frac), (Value.int .i64 from1.Round), (Value.int .i64 from1.Over)]), (Value.agg #[(Value.int .i64 to1.Kind), (Value.int .i64 to1.Bits), (Value.int .i64 to1.Frac), (Value.int .i64 to1.Round), (Value.int .i64 to1.Over)]), (Value.agg #[(Value.int .i64 v1.N), (Value.int .i64 v1.D)])]) Tryd.func22 rfl Tryd.ntmps22 rfl ?_) ?_
  rotate_left
  · rintro _ w ⟨rfl, k1, k2⟩; exact ⟨rfl, k1, k2⟩
  have hI := Bun.start hF hc
  clear hc
  rw [m_ref04_Cast] at h
  refine c_seq ?_
  refine c_region rfl ?_
  refine l_box (v := (Value.agg #[(Value.int .i64 from1.Kind), (Value.int .i64 from1.Bits), (Value.int .i64 from1.Frac), (Value.int .i64 from1.Round), (Value.int .i64 from1.Over)])) (cs := #[(Value.int .i64 from1.Kind), (Value.int .i64 from1.Bits), (Value.int .i64 from1.Frac), (Value.int .i64 from1.Round), (Value.int .i64 from1.Over)]) hI rfl rfl rfl (ev_tmp rfl rfl) rfl ?_
  clear hI; intro b1 c1 w1 hI
  obtain ⟨c2, hI⟩ := hI.relBox .z
  refine l_box (v := (Value.agg #[(Value.int .i64 to1.Kind), (Value.int .i64 to1.Bits), (Value.int .i64 to1.Frac), (Value.int .i64 to1.Round), (Value.int .i64 to1.Over)])) (cs := #[(Value.int .i64 to1.Kind), (Value.int .i64 to1.Bits), (Value.int .i64 to1.Frac), (Value.int .i64 to1.Round), (Value.int .i64 to1.Over)]) hI rfl rfl rfl (ev_tmp rfl rfl) rfl ?_
  clear hI; intro b2 c3 w2 hI
  obtain ⟨c4, hI⟩ := hI.relBox .z
  refine l_box (v := (Value.agg #[(Value.int .i64 v1.N), (Value.int .i64 v1.D)])) (cs := #[(Value.int .i64 v1.N), (Value.int .i64 v1.D)]) hI rfl rfl rfl (ev_tmp rfl rfl) rfl ?_
  clear hI; intro b3 c5 w3 hI
  obtain ⟨c6, hI⟩ := hI.relBox .z
  refine l_alloc (cs := #[(Value.int .i64 0), (Value.int .i64 0)]) hI rfl rfl rfl zero_25 rfl ?_
  clear hI; intro b4 c7 w4 hI
  refine s_q rfl rfl (y_assign rfl ev_const) ?_
  refine s_nil ?_
  refine k_next (e := [(3, (Value.pointer (some ⟨b1, 0, none⟩))), (4, (Value.pointer (some ⟨b2, 0, none⟩))), (5, (Value.pointer (some ⟨b3, 0, none⟩))), (6, (Value.pointer (some ⟨b4, 0, none⟩)))]) ⟨rfl, rfl, rfl, rfl, trivial⟩ ?_
  refine c_seq ?_
  refine c_seq ?_
  refine c_region rfl ?_
  refine s_q rfl rfl (y_loadN (l := [(Value.int .i64 from1.Kind), (Value.int .i64 from1.Bits), (Value.int .i64 from1.Frac), (Value.int .i64 from1.Round), (Value.int .i64 from1.Over)]) rfl (ev_tmp rfl rfl) Tryd.underlying23 rfl size_23 (hI.kblk (l := [(Value.int .i64 from1.Kind), (Value.int .i64 from1.Bits), (Value.int .i64 from1.Frac), (Value.int .i64 from1.Round), (Value.int .i64 from1.Over)]) (.s (.s .z)) rfl).1) ?_
  obtain ⟨r1, hx1, h⟩ := bnd_some h
  refine s_call rfl rfl (r_callF (vs := [(Value.agg #[(Value.int .i64 from1.Kind), (Value.int .i64 from1.Bits), (Value.int .i64 from1.Frac), (Value.int .i64 from1.Round), (Value.int .i64 from1.Over)])]) rfl ok_28 ⟨(ev_tmp rfl rfl), trivial⟩) (Calls.mono (c_base_Type (Dj F c7) w4 hI.lt from1 (hI.facts trivial) r1 hx1) ?_)
  rintro _ w5 ⟨rfl, hx2, hl1⟩
  refine ⟨_, rfl, ?_⟩
  replace hI := (hI.ext hx2)
  refine s_q rfl rfl (y_not rfl (ev_tmp rfl rfl)) ?_
  refine s_q rfl rfl (y_move rfl (ev_tmp rfl rfl)) ?_
  refine s_gval (g_false rfl rfl rfl rfl) rfl (fun hc => (y_loadN (l := [(Value.int .i64 to1.Kind), (Value.int .i64 to1.Bits), (Value.int .i64 to1.Frac), (Value.int .i64 to1.Round), (Value.int .i64 to1.Over)]) rfl (ev_tmp rfl rfl) Tryd.underlying23 rfl size_23 (hI.kblk (l := [(Value.int .i64 to1.Kind), (Value.int .i64 to1.Bits), (Value.int .i64 to1.Frac), (Value.int .i64 to1.Round), (Value.int .i64 to1.Over)]) (.s .z) rfl).1)) ?_
  obtain ⟨r2, hx3, h⟩ := bnd_some h
  replace hx3 := gd_some hx3
  refine s_gcallU (v := (Value.bool r2)) (g_false rfl rfl rfl rfl) rfl (fun hc => (r_callF (vs := [(Value.agg #[(Value.int .i64 to1.Kind), (Value.int .i64 to1.Bits), (Value.int .i64 to1.Frac), (Value.int .i64 to1.Round), (Value.int .i64 to1.Over)])]) rfl ok_28 ⟨(ev_gv (ev_tmp rfl rfl) hc), trivial⟩)) (fun hc => (c_base_Type (Dj F c7) w5 hI.lt to1 (hI.facts trivial) r2 (hx3 hc)).mono fun _ _ k => ⟨k.1, k.2.1⟩) ?_
  intro w6 hx4; replace hI := hI.ext hx4
  refine s_gval (g_false rfl rfl rfl rfl) rfl (fun hc => (y_not rfl (ev_gv (ev_tmp rfl rfl) hc))) ?_
  refine s_q rfl rfl (y_or rfl (ev_tmp rfl rfl) (ev_tmp rfl rfl)) ?_
  refine s_nil ?_
  refine k_next (e := [(3, (Value.pointer (some ⟨b1, 0, none⟩))), (4, (Value.pointer (some ⟨b2, 0, none⟩))), (5, (Value.pointer (some ⟨b3, 0, none⟩))), (6, (Value.pointer (some ⟨b4, 0, none⟩))), (16, (Value.bool ((!r1) || (!r2))))]) ⟨rfl, rfl, rfl, rfl, rfl, trivial⟩ ?_
  refine c_cond (b := (!r1) || (!r2)) (ev_tmp rfl rfl) (fun hb => ?_) (fun hb => ?_)
  · replace h := ite_t hb h
    refine c_seq ?_
    refine c_region rfl ?_
    refine s_q rfl rfl (y_build (vs := []) (cs := #[(Value.int .i64 0), (Value.int .i64 0)]) rfl trivial (by kernel_rfl)) ?_
    refine l_store (new := [(Value.int .i64 0), (Value.int .i64 0)]) (cs' := #[(Value.int .i64 0), (Value.int .i64 0)]) hI .z rfl rfl rfl (ev_tmp rfl rfl) (ev_tmp rfl rfl) rfl size_25 rfl rfl rfl ?_
    clear hI; intro c8 w7 hI
    refine s_q rfl rfl (y_assign rfl ev_const) ?_
    refine s_nil ?_
    refine k_next (e := [(6, (Value.pointer (some ⟨b4, 0, none⟩))), (7, (Value.int .i64 10))]) ⟨rfl, rfl, trivial⟩ ?_
    refine c_ret ?_
    obtain rfl := some_inj h
    exact q_ret (vs := [(Value.agg #[(Value.int .i64 0), (Value.int .i64 0)]), (Value.int .i64 10)]) Tryd.results22 ⟨⟨_, ev_tmp rfl rfl, load_agg (l := [(Value.int .i64 0), (Value.int .i64 0)]) Tryd.underlying25 rfl size_25 (CellsAt.of_blk (hI.blk .z) rfl)⟩, ⟨ev_tmp rfl rfl, trivial⟩⟩ ⟨rfl, hI.ext0, hI.fin trivial⟩
  · replace h := ite_f hb h
    refine c_skip ?_
    refine k_next (e := [(3, (Value.pointer (some ⟨b1, 0, none⟩))), (4, (Value.pointer (some ⟨b2, 0, none⟩))), (5, (Value.pointer (some ⟨b3, 0, none⟩))), (6, (Value.pointer (some ⟨b4, 0, none⟩)))]) ⟨rfl, rfl, rfl, rfl, trivial⟩ ?_
    refine c_seq ?_
    refine c_seq ?_
    refine c_region rfl ?_
    refine s_q rfl rfl (y_loadN (l := [(Value.int .i64 from1.Kind), (Value.int .i64 from1.Bits), (Value.int .i64 from1.Frac), (Value.int .i64 from1.Round), (Value.int .i64 from1.Over)]) rfl (ev_tmp rfl rfl) Tryd.underlying23 rfl size_23 (hI.kblk (l := [(Value.int .i64 from1.Kind), (Value.int .i64 from1.Bits), (Value.int .i64 from1.Frac), (Value.int .i64 from1.Round), (Value.int .i64 from1.Over)]) (.s (.s .z)) rfl).1) ?_
    refine s_q rfl rfl (y_loadN (l := [(Value.int .i64 v1.N), (Value.int .i64 v1.D)]) rfl (ev_tmp rfl rfl) Tryd.underlying25 rfl size_25 (hI.kblk (l := [(Value.int .i64 v1.N), (Value.int .i64 v1.D)]) .z rfl).1) ?_
    obtain ⟨r3, hx5, h⟩ := bnd_some h
    refine s_call rfl rfl (r_callF (vs := [(Value.agg #[(Value.int .i64 from1.Kind), (Value.int .i64 from1.Bits), (Value.int .i64 from1.Frac), (Value.int .i64 from1.Round), (Value.int .i64 from1.Over)]), (Value.agg #[(Value.int .i64 v1.N), (Value.int .i64 v1.D)])]) rfl ok_30 ⟨(ev_tmp rfl rfl), ⟨(ev_tmp rfl rfl), trivial⟩⟩) (Calls.mono (c_base_Val (Dj F c7) w6 hI.lt from1 v1 (hI.facts trivial) r3 hx5) ?_)
    rintro _ w8 ⟨rfl, hx6, hl3⟩
    refine ⟨_, rfl, ?_⟩
    replace hI := (hI.ext hx6)
    refine s_q rfl rfl (y_not rfl (ev_tmp rfl rfl)) ?_
    refine s_nil ?_
    refine k_next (e := [(3, (Value.pointer (some ⟨b1, 0, none⟩))), (4, (Value.pointer (some ⟨b2, 0, none⟩))), (5, (Value.pointer (some ⟨b3, 0, none⟩))), (6, (Value.pointer (some ⟨b4, 0, none⟩))), (21, (Value.bool (!r3)))]) ⟨rfl, rfl, rfl, rfl, rfl, trivial⟩ ?_
    refine c_cond (b := !r3) (ev_tmp rfl rfl) (fun hb => ?_) (fun hb => ?_)
    · replace h := ite_t hb h
      refine c_seq ?_
      refine c_region rfl ?_
      refine s_q rfl rfl (y_build (vs := []) (cs := #[(Value.int .i64 0), (Value.int .i64 0)]) rfl trivial (by kernel_rfl)) ?_
      refine l_store (new := [(Value.int .i64 0), (Value.int .i64 0)]) (cs' := #[(Value.int .i64 0), (Value.int .i64 0)]) hI .z rfl rfl rfl (ev_tmp rfl rfl) (ev_tmp rfl rfl) rfl size_25 rfl rfl rfl ?_
      clear hI; intro c9 w9 hI
      refine s_q rfl rfl (y_assign rfl ev_const) ?_
      refine s_nil ?_
      refine k_next (e := [(6, (Value.pointer (some ⟨b4, 0, none⟩))), (7, (Value.int .i64 1))]) ⟨rfl, rfl, trivial⟩ ?_
      refine c_ret ?_
      obtain rfl := some_inj h
      exact q_ret (vs := [(Value.agg #[(Value.int .i64 0), (Value.int .i64 0)]), (Value.int .i64 1)]) Tryd.results22 ⟨⟨_, ev_tmp rfl rfl, load_agg (l := [(Value.int .i64 0), (Value.int .i64 0)]) Tryd.underlying25 rfl size_25 (CellsAt.of_blk (hI.blk .z) rfl)⟩, ⟨ev_tmp rfl rfl, trivial⟩⟩ ⟨rfl, hI.ext0, hI.fin trivial⟩
    · replace h := ite_f hb h
      refine c_skip ?_
      refine k_next (e := [(3, (Value.pointer (some ⟨b1, 0, none⟩))), (4, (Value.pointer (some ⟨b2, 0, none⟩))), (5, (Value.pointer (some ⟨b3, 0, none⟩))), (6, (Value.pointer (some ⟨b4, 0, none⟩)))]) ⟨rfl, rfl, rfl, rfl, trivial⟩ ?_
      refine c_seq ?_
      refine c_region rfl ?_
      refine s_q rfl rfl (y_loadN (l := [(Value.int .i64 from1.Kind), (Value.int .i64 from1.Bits), (Value.int .i64 from1.Frac), (Value.int .i64 from1.Round), (Value.int .i64 from1.Over)]) rfl (ev_tmp rfl rfl) Tryd.underlying23 rfl size_23 (hI.kblk (l := [(Value.int .i64 from1.Kind), (Value.int .i64 from1.Bits), (Value.int .i64 from1.Frac), (Value.int .i64 from1.Round), (Value.int .i64 from1.Over)]) (.s (.s .z)) rfl).1) ?_
      refine s_q rfl rfl (y_loadN (l := [(Value.int .i64 v1.N), (Value.int .i64 v1.D)]) rfl (ev_tmp rfl rfl) Tryd.underlying25 rfl size_25 (hI.kblk (l := [(Value.int .i64 v1.N), (Value.int .i64 v1.D)]) .z rfl).1) ?_
      obtain ⟨r4, hx7, h⟩ := bnd_some h
      refine s_call rfl rfl (r_callF (vs := [(Value.agg #[(Value.int .i64 from1.Kind), (Value.int .i64 from1.Bits), (Value.int .i64 from1.Frac), (Value.int .i64 from1.Round), (Value.int .i64 from1.Over)]), (Value.agg #[(Value.int .i64 v1.N), (Value.int .i64 v1.D)])]) rfl ok_49 ⟨(ev_tmp rfl rfl), ⟨(ev_tmp rfl rfl), trivial⟩⟩) (Calls.mono (c_ref04_Value (Dj F c7) w8 hI.lt from1 v1 (hI.facts trivial) r4 hx7) ?_)
      rintro _ w10 ⟨rfl, hx8, hl4⟩
      refine ⟨_, rfl, ?_⟩
      replace hI := (hI.ext hx8)
      refine l_alloc (cs := #[(Value.int .i64 0), (Value.int .i64 0)]) hI rfl rfl rfl zero_25 rfl ?_
      clear hI; intro b5 c10 w11 hI
      refine l_store (new := [(Value.int .i64 r4.N), (Value.int .i64 r4.D)]) (cs' := #[(Value.int .i64 r4.N), (Value.int .i64 r4.D)]) hI .z rfl rfl rfl (ev_tmp rfl rfl) (ev_tmp rfl rfl) rfl size_25 rfl rfl rfl ?_
      clear hI; intro c11 w12 hI
      refine s_nil ?_
      refine k_next (e := [(4, (Value.pointer (some ⟨b2, 0, none⟩))), (6, (Value.pointer (some ⟨b4, 0, none⟩))), (8, (Value.pointer (some ⟨b5, 0, none⟩)))]) ⟨rfl, rfl, rfl, trivial⟩ ?_
      refine c_seq ?_
      refine c_seq ?_
      refine c_region rfl ?_
      refine s_q rfl rfl (y_fieldAddr rfl (ev_tmp rfl rfl) Tryd.underlying23 rfl size_3 rfl) ?_
      refine s_q rfl rfl (y_load1 (v := (Value.int .i64 to1.Kind)) rfl (ev_tmp rfl rfl) Tryd.underlying3 rfl (hI.kblk (l := [(Value.int .i64 to1.Kind)]) (.s .z) rfl).1) ?_
      refine s_q rfl rfl (y_eql rfl (ev_tmp rfl rfl) ev_const) ?_
      refine s_nil ?_
      refine k_next (e := [(4, (Value.pointer (some ⟨b2, 0, none⟩))), (6, (Value.pointer (some ⟨b4, 0, none⟩))), (8, (Value.pointer (some ⟨b5, 0, none⟩))), (28, (Value.bool (decide (to1.Kind = 3))))]) ⟨rfl, rfl, rfl, rfl, trivial⟩ ?_
      refine c_cond (b := decide (to1.Kind = 3)) (ev_tmp rfl rfl) (fun hb => ?_) (fun hb => ?_)
      · replace h := ite_t hb h
        refine c_seq ?_
        refine c_region rfl ?_
        refine s_q rfl rfl (y_fieldAddr rfl (ev_tmp rfl rfl) Tryd.underlying25 rfl size_2 rfl) ?_
        refine s_q rfl rfl (y_load1 (v := (Value.int .i64 r4.N)) rfl (ev_tmp rfl rfl) Tryd.underlying2 rfl (CellsAt.of_blk (hI.blk .z) rfl)) ?_
        refine s_q rfl rfl (y_fieldAddr rfl (ev_tmp rfl rfl) Tryd.underlying25 rfl size_2 rfl) ?_
        refine s_q rfl rfl (y_load1 (v := (Value.int .i64 r4.D)) rfl (ev_tmp rfl rfl) Tryd.underlying2 rfl (CellsAt.of_blk (hI.blk .z) rfl)) ?_
        obtain ⟨r5, hx9, h⟩ := bnd_some h
        refine s_call rfl rfl (r_callF (vs := [(Value.int .i64 r4.N), (Value.int .i64 r4.D)]) rfl ok_50 ⟨(ev_tmp rfl rfl), ⟨(ev_tmp rfl rfl), trivial⟩⟩) (Calls.mono (c_ref04_floor (Dj F c11) w12 hI.lt r4.N r4.D (hI.facts trivial) r5 hx9) ?_)
        rintro _ w13 ⟨rfl, hx10, hl5⟩
        refine ⟨_, rfl, ?_⟩
        replace hI := (hI.ext hx10)
        refine s_q rfl rfl (y_build (vs := [(0, (Value.int .i64 r5)), (1, (Value.int .i64 1))]) (cs := #[(Value.int .i64 r5), (Value.int .i64 1)]) rfl ⟨rfl, (ev_tmp rfl rfl), ⟨rfl, ev_const, trivial⟩⟩ (by kernel_rfl)) ?_
        refine l_store (new := [(Value.int .i64 r5), (Value.int .i64 1)]) (cs' := #[(Value.int .i64 r5), (Value.int .i64 1)]) hI (.s .z) rfl rfl rfl (ev_tmp rfl rfl) (ev_tmp rfl rfl) rfl size_25 rfl rfl rfl ?_
        clear hI; intro c12 w14 hI
        refine s_q rfl rfl (y_assign rfl ev_const) ?_
        refine s_nil ?_
        refine k_next (e := [(6, (Value.pointer (some ⟨b4, 0, none⟩))), (7, (Value.int .i64 0))]) ⟨rfl, rfl, trivial⟩ ?_
        refine c_ret ?_
        obtain rfl := some_inj h
        exact q_ret (vs := [(Value.agg #[(Value.int .i64 r5), (Value.int .i64 1)]), (Value.int .i64 0)]) Tryd.results22 ⟨⟨_, ev_tmp rfl rfl, load_agg (l := [(Value.int .i64 r5), (Value.int .i64 1)]) Tryd.underlying25 rfl size_25 (CellsAt.of_blk (hI.blk (.s .z)) rfl)⟩, ⟨ev_tmp rfl rfl, trivial⟩⟩ ⟨rfl, hI.ext0, hI.fin trivial⟩
      · replace h := ite_f hb h
        refine c_skip ?_
        refine k_next (e := [(4, (Value.pointer (some ⟨b2, 0, none⟩))), (6, (Value.pointer (some ⟨b4, 0, none⟩))), (8, (Value.pointer (some ⟨b5, 0, none⟩)))]) ⟨rfl, rfl, rfl, trivial⟩ ?_
        refine c_seq ?_
        refine c_seq ?_
        refine c_region rfl ?_
        refine s_q rfl rfl (y_fieldAddr rfl (ev_tmp rfl rfl) Tryd.underlying23 rfl size_3 rfl) ?_
        refine s_q rfl rfl (y_load1 (v := (Value.int .i64 to1.Kind)) rfl (ev_tmp rfl rfl) Tryd.underlying3 rfl (hI.kblk (l := [(Value.int .i64 to1.Kind)]) (.s .z) rfl).1) ?_
        refine s_q rfl rfl (y_eql rfl (ev_tmp rfl rfl) ev_const) ?_
        refine s_nil ?_
        refine k_next (e := [(4, (Value.pointer (some ⟨b2, 0, none⟩))), (6, (Value.pointer (some ⟨b4, 0, none⟩))), (8, (Value.pointer (some ⟨b5, 0, none⟩))), (37, (Value.bool (decide (to1.Kind = 2))))]) ⟨rfl, rfl, rfl, rfl, trivial⟩ ?_
        refine c_cond (b := decide (to1.Kind = 2)) (ev_tmp rfl rfl) (fun hb => ?_) (fun hb => ?_)
        · replace h := ite_t hb h
          refine c_seq ?_
          refine c_drawX [12] false [(0, true), (1, true), (2, true), (3, true), (6, true), (7, true), (8, true), (9, true), (4, false), (5, true), (10, false), (11, false), (12, false), (13, true)] hI (by kernel_rfl) (by kernel_rfl) ?_
          clear hI; intro w15 hI
          refine a_read rfl rfl rfl (fun w' hw' => (y_loadN (l := [(Value.int .i64 to1.Kind), (Value.int .i64 to1.Bits), (Value.int .i64 to1.Frac), (Value.int .i64 to1.Round), (Value.int .i64 to1.Over)]) rfl (ev_tmp rfl rfl) Tryd.underlying23 rfl size_23 ((hI.kblk (l := [(Value.int .i64 to1.Kind), (Value.int .i64 to1.Bits), (Value.int .i64 to1.Frac), (Value.int .i64 to1.Round), (Value.int .i64 to1.Over)]) (.s .z) rfl).at_ (SX.any rfl hw')))) (by kernel_rfl) ?_
          refine a_q rfl rfl rfl (fun w' => (y_fieldAddr rfl (ev_tmp rfl rfl) Tryd.underlying25 rfl size_2 rfl)) ?_
          refine a_read rfl rfl rfl (fun w' hw' => (y_load1 (v := (Value.int .i64 r4.N)) rfl (ev_tmp rfl rfl) Tryd.underlying2 rfl ((CA.blk (hI.blk .z) rfl).at_ (SX.any rfl hw')))) (by kernel_rfl) ?_
          refine a_read rfl rfl rfl (fun w' hw' => (y_loadN (l := [(Value.int .i64 to1.Kind), (Value.int .i64 to1.Bits), (Value.int .i64 to1.Frac), (Value.int .i64 to1.Round), (Value.int .i64 to1.Over)]) rfl (ev_tmp rfl rfl) Tryd.underlying23 rfl size_23 ((hI.kblk (l := [(Value.int .i64 to1.Kind), (Value.int .i64 to1.Bits), (Value.int .i64 to1.Frac), (Value.int .i64 to1.Round), (Value.int .i64 to1.Over)]) (.s .z) rfl).at_ (SX.any rfl hw')))) (by kernel_rfl) ?_
          refine a_q rfl rfl rfl (fun w' => (y_fieldAddr rfl (ev_tmp rfl rfl) Tryd.underlying25 rfl size_2 rfl)) ?_
          refine a_read rfl rfl rfl (fun w' hw' => (y_load1 (v := (Value.int .i64 r4.D)) rfl (ev_tmp rfl rfl) Tryd.underlying2 rfl ((CA.blk (hI.blk .z) rfl).at_ (SX.any rfl hw')))) (by kernel_rfl) ?_
          refine a_q rfl rfl rfl (fun w' => (y_fieldAddr rfl (ev_tmp rfl rfl) Tryd.underlying23 rfl size_3 rfl)) ?_
          refine a_read rfl rfl rfl (fun w' hw' => (y_load1 (v := (Value.int .i64 to1.Round)) rfl (ev_tmp rfl rfl) Tryd.underlying3 rfl ((hI.kblk (l := [(Value.int .i64 to1.Round)]) (.s .z) rfl).at_ (SX.any rfl hw')))) (by kernel_rfl) ?_
          obtain ⟨r6, hx11, h⟩ := bnd_some h
          refine la_call rfl rfl rfl (r_callF (vs := [(Value.agg #[(Value.int .i64 to1.Kind), (Value.int .i64 to1.Bits), (Value.int .i64 to1.Frac), (Value.int .i64 to1.Round), (Value.int .i64 to1.Over)])]) rfl ok_29 ⟨(ev_tmp rfl rfl), trivial⟩) (Calls.mono (c_ref04_step (Dj F c11) w15 hI.lt to1 (hI.facts trivial) r6 hx11) ?_)
          rintro _ w16 ⟨rfl, hx12, hl6⟩
          refine ⟨_, rfl, hx12, ?_⟩
          replace hI := (hI.ext hx12)
          refine a_q rfl rfl rfl (fun w' => (y_mul rfl (ev_tmp rfl rfl) (ev_tmp rfl rfl))) ?_
          obtain ⟨r7, hx13, h⟩ := bnd_some h
          refine la_call rfl rfl rfl (r_callF (vs := [(Value.int .i64 (wi64 (r4.N * r6))), (Value.int .i64 r4.D), (Value.int .i64 to1.Round)]) rfl ok_52 ⟨(ev_tmp rfl rfl), ⟨(ev_tmp rfl rfl), ⟨(ev_tmp rfl rfl), trivial⟩⟩⟩) (Calls.mono (c_ref04_round (Dj F c11) w16 hI.lt (wi64 (r4.N * r6)) r4.D to1.Round (hI.facts trivial) r7 hx13) ?_)
          rintro _ w17 ⟨rfl, hx14, hl7⟩
          refine ⟨_, rfl, hx14, ?_⟩
          replace hI := (hI.ext hx14)
          obtain ⟨r8, hx15, h⟩ := bnd_some h
          refine la_call rfl rfl rfl (r_callF (vs := [(Value.agg #[(Value.int .i64 to1.Kind), (Value.int .i64 to1.Bits), (Value.int .i64 to1.Frac), (Value.int .i64 to1.Round), (Value.int .i64 to1.Over)]), (Value.int .i64 r7)]) rfl ok_51 ⟨(ev_tmp rfl rfl), ⟨(ev_tmp rfl rfl), trivial⟩⟩) (Calls.mono (c_ref04_fit (Dj F c11) w17 hI.lt to1 r7 (hI.facts trivial) r8 hx15) ?_)
          rintro _ w18 ⟨rfl, hx16, hl8⟩
          refine ⟨_, rfl, hx16, ?_⟩
          replace hI := (hI.ext hx16)
          refine a_turn (F := F) (C := c11) rfl rfl ?_
          refine la_store (new := [(Value.int .i64 r8.N), (Value.int .i64 r8.D)]) (cs' := #[(Value.int .i64 r8.N), (Value.int .i64 r8.D)]) hI (.s .z) rfl rfl rfl rfl (ev_tmp rfl rfl) (ev_tmp rfl rfl) rfl size_25 rfl rfl rfl ?_
          clear hI; intro c13 w19 hI
          refine a_q rfl rfl rfl (fun w' => (y_assign rfl ev_const)) ?_
          refine a_nil ?_
          refine k_next (e := [(6, (Value.pointer (some ⟨b4, 0, none⟩))), (7, (Value.int .i64 0))]) ⟨rfl, rfl, trivial⟩ ?_
          refine c_ret ?_
          obtain rfl := some_inj h
          exact q_ret (vs := [(Value.agg #[(Value.int .i64 r8.N), (Value.int .i64 r8.D)]), (Value.int .i64 0)]) Tryd.results22 ⟨⟨_, ev_tmp rfl rfl, load_agg (l := [(Value.int .i64 r8.N), (Value.int .i64 r8.D)]) Tryd.underlying25 rfl size_25 (CellsAt.of_blk (hI.blk (.s .z)) rfl)⟩, ⟨ev_tmp rfl rfl, trivial⟩⟩ ⟨rfl, hI.ext0, hI.fin trivial⟩
        · replace h := ite_f hb h
          refine c_skip ?_
          refine k_next (e := [(6, (Value.pointer (some ⟨b4, 0, none⟩))), (8, (Value.pointer (some ⟨b5, 0, none⟩)))]) ⟨rfl, rfl, trivial⟩ ?_
          refine c_seq ?_
          refine c_region rfl ?_
          refine s_q rfl rfl (y_loadN (l := [(Value.int .i64 r4.N), (Value.int .i64 r4.D)]) rfl (ev_tmp rfl rfl) Tryd.underlying25 rfl size_25 (CellsAt.of_blk (hI.blk .z) rfl)) ?_
          refine l_store (new := [(Value.int .i64 r4.N), (Value.int .i64 r4.D)]) (cs' := #[(Value.int .i64 r4.N), (Value.int .i64 r4.D)]) hI (.s .z) rfl rfl rfl (ev_tmp rfl rfl) (ev_tmp rfl rfl) rfl size_25 rfl rfl rfl ?_
          clear hI; intro c14 w20 hI
          refine s_q rfl rfl (y_assign rfl ev_const) ?_
          refine s_nil ?_
          refine k_next (e := [(6, (Value.pointer (some ⟨b4, 0, none⟩))), (7, (Value.int .i64 0))]) ⟨rfl, rfl, trivial⟩ ?_
          refine c_ret ?_
          obtain rfl := some_inj h
          exact q_ret (vs := [(Value.agg #[(Value.int .i64 r4.N), (Value.int .i64 r4.D)]), (Value.int .i64 0)]) Tryd.results22 ⟨⟨_, ev_tmp rfl rfl, load_agg (l := [(Value.int .i64 r4.N), (Value.int .i64 r4.D)]) Tryd.underlying25 rfl size_25 (CellsAt.of_blk (hI.blk (.s .z)) rfl)⟩, ⟨ev_tmp rfl rfl, trivial⟩⟩ ⟨rfl, hI.ext0, hI.fin trivial⟩

set_option maxRecDepth 100000 in
set_option maxHeartbeats 4000000 in
theorem c_law04_ValueCast (F : NP) (w0 : World) (hF : ∀ k, F k → k < w0.heap.size) (from1 : GType) (to1 : GType) (v1 : GVal) (hc : AllCl [clPow10] F w0) (r : Bool)
    (h : m_law04_ValueCast from1 to1 v1 = some r) :
    Calls Tryd.prog 5 #[(Value.agg #[(Value.int .i64 from1.Kind), (Value.int .i64 from1.Bits), (Value.int .i64 from1.Frac), (Value.int .i64 from1.Round), (Value.int .i64 from1.Over)]), (Value.agg #[(Value.int .i64 to1.Kind), (Value.int .i64 to1.Bits), (Value.int .i64 to1.Frac), (Value.int .i64 to1.Round), (Value.int .i64 to1.Over)]), (Value.agg #[(Value.int .i64 v1.N), (Value.int .i64 v1.D)])] w0 fun e w => e = .returned (Value.bool r) ∧ Ext w0 w ∧ AllCl [] F w := by
  refine ofEnter (R := fun v w => v = (Value.bool r) ∧ Ext w0 w ∧ AllCl [] F w) (enter (l := [(Value.agg #[(Value.int .i64 from1.Kind), (Value.int .i64 from1.Bits), (Value.int .i64 from1.Frac), (Value.int .i64 from1.Round), (Value.int .i64 from1.Over)]), (Value.agg #[(Value.int .i64 to1.Kind), (Value.int .i64 to1.Bits), (Value.int .i64 to1.Frac), (Value.int .i64 to1.Round), (Value.int .i64 to1.Over)]), (Value.agg #[(Value.int .i64 v1.N), (Value.int .i64 v1.D)])]) Tryd.func5 rfl Tryd.ntmps5 rfl ?_) ?_
  rotate_left
  · rintro _ w ⟨rfl, k1, k2⟩; exact ⟨rfl, k1, k2⟩
  have hI := Bun.start hF hc
  clear hc
  rw [m_law04_ValueCast] at h
  refine c_seq ?_
  refine c_region rfl ?_
  refine l_box (v := (Value.agg #[(Value.int .i64 from1.Kind), (Value.int .i64 from1.Bits), (Value.int .i64 from1.Frac), (Value.int .i64 from1.Round), (Value.int .i64 from1.Over)])) (cs := #[(Value.int .i64 from1.Kind), (Value.int .i64 from1.Bits), (Value.int .i64 from1.Frac), (Value.int .i64 from1.Round), (Value.int .i64 from1.Over)]) hI rfl rfl rfl (ev_tmp rfl rfl) rfl ?_
  clear hI; intro b1 c1 w1 hI
  obtain ⟨c2, hI⟩ := hI.relBox .z
  refine l_box (v := (Value.agg #[(Value.int .i64 to1.Kind), (Value.int .i64 to1.Bits), (Value.int .i64 to1.Frac), (Value.int .i64 to1.Round), (Value.int .i64 to1.Over)])) (cs := #[(Value.int .i64 to1.Kind), (Value.int .i64 to1.Bits), (Value.int .i64 to1.Frac), (Value.int .i64 to1.Round), (Value.int .i64 to1.Over)]) hI rfl rfl rfl (ev_tmp rfl rfl) rfl ?_
  clear hI; intro b2 c3 w2 hI
  obtain ⟨c4, hI⟩ := hI.relBox .z
  refine l_box (v := (Value.agg #[(Value.int .i64 v1.N), (Value.int .i64 v1.D)])) (cs := #[(Value.int .i64 v1.N), (Value.int .i64 v1.D)]) hI rfl rfl rfl (ev_tmp rfl rfl) rfl ?_
  clear hI; intro b3 c5 w3 hI
  obtain ⟨c6, hI⟩ := hI.relBox .z
  refine s_q rfl rfl (y_assign rfl ev_const) ?_
  refine s_nil ?_
  refine k_next (e := [(3, (Value.pointer (some ⟨b1, 0, none⟩))), (4, (Value.pointer (some ⟨b2, 0, none⟩))), (5, (Value.pointer (some ⟨b3, 0, none⟩)))]) ⟨rfl, rfl, rfl, trivial⟩ ?_
  refine c_seq ?_
  refine c_region rfl ?_
  refine s_q rfl rfl (y_loadN (l := [(Value.int .i64 from1.Kind), (Value.int .i64 from1.Bits), (Value.int .i64 from1.Frac), (Value.int .i64 from1.Round), (Value.int .i64 from1.Over)]) rfl (ev_tmp rfl rfl) Tryd.underlying23 rfl size_23 (hI.kblk (l := [(Value.int .i64 from1.Kind), (Value.int .i64 from1.Bits), (Value.int .i64 from1.Frac), (Value.int .i64 from1.Round), (Value.int .i64 from1.Over)]) (.s (.s .z)) rfl).1) ?_
  refine s_q rfl rfl (y_loadN (l := [(Value.int .i64 to1.Kind), (Value.int .i64 to1.Bits), (Value.int .i64 to1.Frac), (Value.int .i64 to1.Round), (Value.int .i64 to1.Over)]) rfl (ev_tmp rfl rfl) Tryd.underlying23 rfl size_23 (hI.kblk (l := [(Value.int .i64 to1.Kind), (Value.int .i64 to1.Bits), (Value.int .i64 to1.Frac), (Value.int .i64 to1.Round), (Value.int .i64 to1.Over)]) (.s .z) rfl).1) ?_
  refine s_q rfl rfl (y_loadN (l := [(Value.int .i64 v1.N), (Value.int .i64 v1.D)]) rfl (ev_tmp rfl rfl) Tryd.underlying25 rfl size_25 (hI.kblk (l := [(Value.int .i64 v1.N), (Value.int .i64 v1.D)]) .z rfl).1) ?_
  obtain ⟨r1, hx1, h⟩ := bnd_some h
  refine s_call rfl rfl (r_callF (vs := [(Value.agg #[(Value.int .i64 from1.Kind), (Value.int .i64 from1.Bits), (Value.int .i64 from1.Frac), (Value.int .i64 from1.Round), (Value.int .i64 from1.Over)]), (Value.agg #[(Value.int .i64 to1.Kind), (Value.int .i64 to1.Bits), (Value.int .i64 to1.Frac), (Value.int .i64 to1.Round), (Value.int .i64 to1.Over)]), (Value.agg #[(Value.int .i64 v1.N), (Value.int .i64 v1.D)])]) rfl ok_21 ⟨(ev_tmp rfl rfl), ⟨(ev_tmp rfl rfl), ⟨(ev_tmp rfl rfl), trivial⟩⟩⟩) (Calls.mono (c_value_Cast (Dj F c6) w3 hI.lt from1 to1 v1 (hI.facts trivial) r1 hx1) ?_)
  rintro _ w4 ⟨rfl, hx2, hl1⟩
  refine ⟨_, rfl, ?_⟩
  replace hI := (hI.ext hx2)
  refine s_q rfl rfl (y_move rfl (ev_tmp rfl rfl)) ?_
  refine s_q rfl rfl (y_extract rfl (ev_tmp rfl rfl) rfl) ?_
  refine s_q rfl rfl (y_extract rfl (ev_tmp rfl rfl) rfl) ?_
  refine l_alloc (cs := #[(Value.int .i64 0), (Value.int .i64 0)]) hI rfl rfl rfl zero_25 rfl ?_
  clear hI; intro b4 c7 w5 hI
  refine l_store (new := [(Value.int .i64 r1.1.N), (Value.int .i64 r1.1.D)]) (cs' := #[(Value.int .i64 r1.1.N), (Value.int .i64 r1.1.D)]) hI .z rfl rfl rfl (ev_tmp rfl rfl) (ev_tmp rfl rfl) rfl size_25 rfl rfl rfl ?_
  clear hI; intro c8 w6 hI
  refine s_q rfl rfl (y_assign rfl (ev_tmp rfl rfl)) ?_
  refine s_nil ?_
  refine k_next (e := [(3, (Value.pointer (some ⟨b1, 0, none⟩))), (4, (Value.pointer (some ⟨b2, 0, none⟩))), (5, (Value.pointer (some ⟨b3, 0, none⟩))), (7, (Value.pointer (some ⟨b4, 0, none⟩))), (8, (Value.int .i64 r1.2))]) ⟨rfl, rfl, rfl, rfl, rfl, trivial⟩ ?_
  refine c_seq ?_
  refine c_region rfl ?_
  refine s_q rfl rfl (y_loadN (l := [(Value.int .i64 from1.Kind), (Value.int .i64 from1.Bits), (Value.int .i64 from1.Frac), (Value.int .i64 from1.Round), (Value.int .i64 from1.Over)]) rfl (ev_tmp rfl rfl) Tryd.underlying23 rfl size_23 (hI.kblk (l := [(Value.int .i64 from1.Kind), (Value.int .i64 from1.Bits), (Value.int .i64 from1.Frac), (Value.int .i64 from1.Round), (Value.int .i64 from1.Over)]) (.s (.s .z)) rfl).1) ?_
  refine s_q rfl rfl (y_loadN (l := [(Value.int .i64 to1.Kind), (Value.int .i64 to1.Bits), (Value.int .i64 to1.Frac), (Value.int .i64 to1.Round), (Value.int .i64 to1.Over)]) rfl (ev_tmp rfl rfl) Tryd.underlying23 rfl size_23 (hI.kblk (l := [(Value.int .i64 to1.Kind), (Value.int .i64 to1.Bits), (Value.int .i64 to1.Frac), (Value.int .i64 to1.Round), (Value.int .i64 to1.Over)]) (.s .z) rfl).1) ?_
  refine s_q rfl rfl (y_loadN (l := [(Value.int .i64 v1.N), (Value.int .i64 v1.D)]) rfl (ev_tmp rfl rfl) Tryd.underlying25 rfl size_25 (hI.kblk (l := [(Value.int .i64 v1.N), (Value.int .i64 v1.D)]) .z rfl).1) ?_
  obtain ⟨r2, hx3, h⟩ := bnd_some h
  refine s_call rfl rfl (r_callF (vs := [(Value.agg #[(Value.int .i64 from1.Kind), (Value.int .i64 from1.Bits), (Value.int .i64 from1.Frac), (Value.int .i64 from1.Round), (Value.int .i64 from1.Over)]), (Value.agg #[(Value.int .i64 to1.Kind), (Value.int .i64 to1.Bits), (Value.int .i64 to1.Frac), (Value.int .i64 to1.Round), (Value.int .i64 to1.Over)]), (Value.agg #[(Value.int .i64 v1.N), (Value.int .i64 v1.D)])]) rfl ok_22 ⟨(ev_tmp rfl rfl), ⟨(ev_tmp rfl rfl), ⟨(ev_tmp rfl rfl), trivial⟩⟩⟩) (Calls.mono (c_ref04_Cast (Dj F c8) w6 hI.lt from1 to1 v1 (hI.facts trivial) r2 hx3) ?_)
  rintro _ w7 ⟨rfl, hx4, hl2⟩
  refine ⟨_, rfl, ?_⟩
  replace hI := (hI.ext hx4)
  refine s_q rfl rfl (y_move rfl (ev_tmp rfl rfl)) ?_
  refine s_q rfl rfl (y_extract rfl (ev_tmp rfl rfl) rfl) ?_
  refine s_q rfl rfl (y_extract rfl (ev_tmp rfl rfl) rfl) ?_
  refine l_alloc (cs := #[(Value.int .i64 0), (Value.int .i64 0)]) hI rfl rfl rfl zero_25 rfl ?_
  clear hI; intro b5 c9 w8 hI
  refine l_store (new := [(Value.int .i64 r2.1.N), (Value.int .i64 r2.1.D)]) (cs' := #[(Value.int .i64 r2.1.N), (Value.int .i64 r2.1.D)]) hI .z rfl rfl rfl (ev_tmp rfl rfl) (ev_tmp rfl rfl) rfl size_25 rfl rfl rfl ?_
  clear hI; intro c10 w9 hI
  refine s_q rfl rfl (y_assign rfl (ev_tmp rfl rfl)) ?_
  refine s_nil ?_
  refine k_next (e := [(7, (Value.pointer (some ⟨b4, 0, none⟩))), (8, (Value.int .i64 r1.2)), (9, (Value.pointer (some ⟨b5, 0, none⟩))), (10, (Value.int .i64 r2.2))]) ⟨rfl, rfl, rfl, rfl, trivial⟩ ?_
  refine c_seq ?_
  refine c_region rfl ?_
  refine s_q rfl rfl (y_loadN (l := [(Value.int .i64 r1.1.N), (Value.int .i64 r1.1.D)]) rfl (ev_tmp rfl rfl) Tryd.underlying25 rfl size_25 (CellsAt.of_blk (hI.blk (.s .z)) rfl)) ?_
  refine s_q rfl rfl (y_loadN (l := [(Value.int .i64 r2.1.N), (Value.int .i64 r2.1.D)]) rfl (ev_tmp rfl rfl) Tryd.underlying25 rfl size_25 (CellsAt.of_blk (hI.blk .z) rfl)) ?_
  refine s_q rfl rfl (y_bin rfl (ev_tmp rfl rfl) (ev_tmp rfl rfl) (eqstruct_25 ..) (eqguard_25 ..)) ?_
  refine s_q rfl rfl (y_move rfl (ev_tmp rfl rfl)) ?_
  refine s_gval (g_true rfl rfl rfl rfl) rfl (fun hc => (y_move rfl (ev_tmp rfl rfl))) ?_
  refine s_gval (g_true rfl rfl rfl rfl) rfl (fun hc => (y_move rfl (ev_tmp rfl rfl))) ?_
  refine s_gval (g_true rfl rfl rfl rfl) rfl (fun hc => (y_eql rfl (ev_gv (ev_tmp rfl rfl) hc) (ev_gv (ev_tmp rfl rfl) hc))) ?_
  refine s_q rfl rfl (y_and rfl (ev_tmp rfl rfl) (ev_tmp rfl rfl)) ?_
  refine s_q rfl rfl (y_move rfl (ev_tmp rfl rfl)) ?_
  obtain ⟨r3, hx5, h⟩ := bnd_some h
  replace hx5 := gd_some hx5
  refine s_gcallU (v := (Value.bool r3)) (g_true rfl rfl rfl rfl) rfl (fun hc => (r_callF (vs := []) rfl ok_16 trivial)) (fun hc => (c_law04_examples (Dj F c10) w9 hI.lt (hI.facts ⟨(.s (.s (.s .z))), trivial⟩) r3 (hx5 hc)).mono fun _ _ k => ⟨k.1, k.2.1⟩) ?_
  intro w10 hx6; replace hI := hI.ext hx6
  refine s_q rfl rfl (y_and rfl (ev_tmp rfl rfl) (ev_tmp rfl rfl)) ?_
  refine s_q rfl rfl (y_assign rfl (ev_tmp rfl rfl)) ?_
  refine s_nil ?_
  refine k_next (e := [(6, (Value.bool ((((decide (r1.1.N = r2.1.N)) && (decide (r1.1.D = r2.1.D))) && (decide (r1.2 = r2.2))) && r3)))]) ⟨rfl, trivial⟩ ?_
  refine c_ret ?_
  obtain rfl := some_inj h
  exact q_ret (vs := [(Value.bool ((((decide (r1.1.N = r2.1.N)) && (decide (r1.1.D = r2.1.D))) && (decide (r1.2 = r2.2))) && r3))]) Tryd.results5 ⟨ev_tmp rfl rfl, trivial⟩ ⟨rfl, hI.ext0, hI.fin trivial⟩

set_option maxRecDepth 100000 in
set_option maxHeartbeats 4000000 in
theorem c_law04_ValueReorderable (F : NP) (w0 : World) (hF : ∀ k, F k → k < w0.heap.size) (fold1 : Int) (t1 : GType) (l1 : List GVal) (a1 : Option Addr) (c1 : Nat) (hc : AllCl [Cl.sl cGVal a1 c1 l1, clPow10] F w0) (r : Bool)
    (h : m_law04_ValueReorderable fold1 t1 l1 = some r) :
    Calls Tryd.prog 6 #[(Value.int .i64 fold1), (Value.agg #[(Value.int .i64 t1.Kind), (Value.int .i64 t1.Bits), (Value.int .i64 t1.Frac), (Value.int .i64 t1.Round), (Value.int .i64 t1.Over)]), (Value.slice a1 l1.length c1)] w0 fun e w => e = .returned (Value.bool r) ∧ Ext w0 w ∧ AllCl [] F w := by
  refine ofEnter (R := fun v w => v = (Value.bool r) ∧ Ext w0 w ∧ AllCl [] F w) (enter (l := [(Value.int .i64 fold1), (Value.agg #[(Value.int .i64 t1.Kind), (Value.int .i64 t1.Bits), (Value.int .i64 t1.Frac), (Value.int .i64 t1.Round), (Value.int .i64 t1.Over)]), (Value.slice a1 l1.length c1)]) Tryd.func6 rfl Tryd.ntmps6 rfl ?_) ?_
  rotate_left
  · rintro _ w ⟨rfl, k1, k2⟩; exact ⟨rfl, k1, k2⟩
  have hI := Bun.start hF hc
  clear hc
  rw [m_law04_ValueReorderable] at h
  refine c_seq ?_
  refine c_region rfl ?_
  refine l_box (v := (Value.agg #[(Value.int .i64 t1.Kind), (Value.int .i64 t1.Bits), (Value.int .i64 t1.Frac), (Value.int .i64 t1.Round), (Value.int .i64 t1.Over)])) (cs := #[(Value.int .i64 t1.Kind), (Value.int .i64 t1.Bits), (Value.int .i64 t1.Frac), (Value.int .i64 t1.Round), (Value.int .i64 t1.Over)]) hI rfl rfl rfl (ev_tmp rfl rfl) rfl ?_
  clear hI; intro b1 c2 w1 hI
  obtain ⟨c3, hI⟩ := hI.relBox .z
  refine s_q rfl rfl (y_assign rfl ev_const) ?_
  refine s_nil ?_
  refine k_next (e := [(0, (Value.int .i64 fold1)), (2, (Value.slice a1 l1.length c1)), (4, (Value.pointer (some ⟨b1, 0, none⟩)))]) ⟨rfl, rfl, rfl, trivial⟩ ?_
  refine c_seq ?_
  refine c_seq ?_
  refine c_region rfl ?_
  refine s_q rfl rfl (y_move rfl (ev_tmp rfl rfl)) ?_
  refine s_q rfl rfl (y_lenl rfl Tryd.underlying39 (ev_tmp rfl rfl)) ?_
  refine s_q rfl rfl (y_gtr rfl (ev_tmp rfl rfl) ev_const) ?_
  refine s_q rfl rfl (y_move rfl (ev_tmp rfl rfl)) ?_
  refine s_gval (g_false rfl rfl rfl rfl) rfl (fun hc => (y_move rfl (ev_tmp rfl rfl))) ?_
  refine s_gval (g_false rfl rfl rfl rfl) rfl (fun hc => (y_lenl rfl Tryd.underlying39 (ev_gv (ev_tmp rfl rfl) hc))) ?_
  refine s_gval (g_false rfl rfl rfl rfl) rfl (fun hc => (y_eql rfl (ev_gv (ev_tmp rfl rfl) hc) ev_const)) ?_
  refine s_q rfl rfl (y_or rfl (ev_tmp rfl rfl) (ev_tmp rfl rfl)) ?_
  refine s_q rfl rfl (y_move rfl (ev_tmp rfl rfl)) ?_
  refine s_gval (g_false rfl rfl rfl rfl) rfl (fun hc => (y_move rfl (ev_tmp rfl rfl))) ?_
  refine s_gval (g_false rfl rfl rfl rfl) rfl (fun hc => (y_loadN (l := [(Value.int .i64 t1.Kind), (Value.int .i64 t1.Bits), (Value.int .i64 t1.Frac), (Value.int .i64 t1.Round), (Value.int .i64 t1.Over)]) rfl (ev_tmp rfl rfl) Tryd.underlying23 rfl size_23 (hI.kblk (l := [(Value.int .i64 t1.Kind), (Value.int .i64 t1.Bits), (Value.int .i64 t1.Frac), (Value.int .i64 t1.Round), (Value.int .i64 t1.Over)]) .z rfl).1)) ?_
  obtain ⟨r1, hx1, h⟩ := bnd_some h
  replace hx1 := gd_some hx1
  refine s_gcallU (v := (Value.bool r1)) (g_false rfl rfl rfl rfl) rfl (fun hc => (r_callF (vs := [(Value.int .i64 fold1), (Value.agg #[(Value.int .i64 t1.Kind), (Value.int .i64 t1.Bits), (Value.int .i64 t1.Frac), (Value.int .i64 t1.Round), (Value.int .i64 t1.Over)])]) rfl ok_23 ⟨(ev_gv (ev_tmp rfl rfl) hc), ⟨(ev_gv (ev_tmp rfl rfl) hc), trivial⟩⟩)) (fun hc => (c_value_Reorderable (Dj F c3) w1 hI.lt fold1 t1 (hI.facts trivial) r1 (hx1 hc)).mono fun _ _ k => ⟨k.1, k.2.1⟩) ?_
  intro w2 hx2; replace hI := hI.ext hx2
  refine s_gval (g_false rfl rfl rfl rfl) rfl (fun hc => (y_not rfl (ev_gv (ev_tmp rfl rfl) hc))) ?_
  refine s_q rfl rfl (y_or rfl (ev_tmp rfl rfl) (ev_tmp rfl rfl)) ?_
  refine s_nil ?_
  refine k_next (e := [(0, (Value.int .i64 fold1)), (2, (Value.slice a1 l1.length c1)), (4, (Value.pointer (some ⟨b1, 0, none⟩))), (26, (Value.bool (((decide (60 < (l1.length : Int))) || (decide ((l1.length : Int) = 0))) || (!r1))))]) ⟨rfl, rfl, rfl, rfl, trivial⟩ ?_
  refine c_cond (b := ((decide (60 < (l1.length : Int))) || (decide ((l1.length : Int) = 0))) || (!r1)) (ev_tmp rfl rfl) (fun hb => ?_) (fun hb => ?_)
  · replace h := ite_t hb h
    refine c_seq ?_
    refine c_region rfl ?_
    obtain ⟨r2, hx3, h⟩ := bnd_some h
    refine s_call rfl rfl (r_callF (vs := []) rfl ok_16 trivial) (Calls.mono (c_law04_examples (Dj F c3) w2 hI.lt (hI.facts ⟨(.s (.s .z)), trivial⟩) r2 hx3) ?_)
    rintro _ w3 ⟨rfl, hx4, hl2⟩
    refine ⟨_, rfl, ?_⟩
    replace hI := (hI.ext hx4)
    refine s_q rfl rfl (y_assign rfl (ev_tmp rfl rfl)) ?_
    refine s_nil ?_
    refine k_next (e := [(6, (Value.bool r2))]) ⟨rfl, trivial⟩ ?_
    refine c_ret ?_
    obtain rfl := some_inj h
    exact q_ret (vs := [(Value.bool r2)]) Tryd.results6 ⟨ev_tmp rfl rfl, trivial⟩ ⟨rfl, hI.ext0, hI.fin trivial⟩
  · replace h := ite_f hb h
    refine c_skip ?_
    refine k_next (e := [(0, (Value.int .i64 fold1)), (2, (Value.slice a1 l1.length c1)), (4, (Value.pointer (some ⟨b1, 0, none⟩)))]) ⟨rfl, rfl, rfl, trivial⟩ ?_
    refine c_seq ?_
    refine c_region rfl ?_
    refine s_q rfl rfl (y_assign rfl ev_const) ?_
    refine s_nil ?_
    refine k_next (e := [(0, (Value.int .i64 fold1)), (2, (Value.slice a1 l1.length c1)), (4, (Value.pointer (some ⟨b1, 0, none⟩))), (7, (Value.slice none 0 0))]) ⟨rfl, rfl, rfl, rfl, trivial⟩ ?_
    refine c_join (α := (List GVal) × (Option Addr) × Nat) (fun _ => ⟨87, []⟩) (fun x => [(0, (Value.int .i64 fold1)), (2, (Value.slice a1 l1.length c1)), (4, (Value.pointer (some ⟨b1, 0, none⟩))), (7, (Value.slice (x.2.1) (x.1).length (x.2.2)))]) (fun x => fun w => ∃ C, Bun noM F w0 C w [MO.row cGVal 25 (x.2.1) (x.2.2) (x.1)] [Cl.sl cGVal a1 c1 l1, Cl.blk b1 23 #[(Value.int .i64 t1.Kind), (Value.int .i64 t1.Bits), (Value.int .i64 t1.Frac), (Value.int .i64 t1.Round), (Value.int .i64 t1.Over)], clPow10] ∧ m_law04_ValueReorderable_j1 fold1 t1 l1 (x.1) = some r) ?_ ?_
    · clear h hI; rintro ⟨back1, a2, c4⟩ w4 ⟨c5, hI, h⟩
      try dsimp only at hI h
      rw [m_law04_ValueReorderable_j1] at h
      refine c_sub (e := [(0, (Value.int .i64 fold1)), (2, (Value.slice a1 l1.length c1)), (4, (Value.pointer (some ⟨b1, 0, none⟩))), (7, (Value.slice a2 back1.length c4))]) ⟨rfl, rfl, rfl, rfl, trivial⟩ ?_
      refine c_seq ?_
      refine c_region rfl ?_
      refine s_q rfl rfl (y_move rfl (ev_tmp rfl rfl)) ?_
      refine s_q rfl rfl (y_loadN (l := [(Value.int .i64 t1.Kind), (Value.int .i64 t1.Bits), (Value.int .i64 t1.Frac), (Value.int .i64 t1.Round), (Value.int .i64 t1.Over)]) rfl (ev_tmp rfl rfl) Tryd.underlying23 rfl size_23 (hI.kblk (l := [(Value.int .i64 t1.Kind), (Value.int .i64 t1.Bits), (Value.int .i64 t1.Frac), (Value.int .i64 t1.Round), (Value.int .i64 t1.Over)]) (.s .z) rfl).1) ?_
      refine s_q rfl rfl (y_move rfl (ev_tmp rfl rfl)) ?_
      obtain ⟨r3, hx5, h⟩ := bnd_some h
      refine s_call rfl rfl (r_callF (vs := [(Value.int .i64 fold1), (Value.agg #[(Value.int .i64 t1.Kind), (Value.int .i64 t1.Bits), (Value.int .i64 t1.Frac), (Value.int .i64 t1.Round), (Value.int .i64 t1.Over)]), (Value.slice a1 l1.length c1)]) rfl ok_24 ⟨(ev_tmp rfl rfl), ⟨(ev_tmp rfl rfl), ⟨(ev_tmp rfl rfl), trivial⟩⟩⟩) (Calls.mono (c_value_Reduce (Dj F c5) w4 hI.lt fold1 t1 l1 a1 c1 (hI.facts ⟨.z, trivial⟩) r3 hx5) ?_)
      rintro _ w5 ⟨rfl, hx6, hl3⟩
      refine ⟨_, rfl, ?_⟩
      replace hI := (hI.ext hx6)
      refine s_q rfl rfl (y_move rfl (ev_tmp rfl rfl)) ?_
      refine s_q rfl rfl (y_extract rfl (ev_tmp rfl rfl) rfl) ?_
      refine s_q rfl rfl (y_extract rfl (ev_tmp rfl rfl) rfl) ?_
      refine l_alloc (cs := #[(Value.int .i64 0), (Value.int .i64 0)]) hI rfl rfl rfl zero_25 rfl ?_
      clear hI; intro b2 c6 w6 hI
      refine l_store (new := [(Value.int .i64 r3.1.N), (Value.int .i64 r3.1.D)]) (cs' := #[(Value.int .i64 r3.1.N), (Value.int .i64 r3.1.D)]) hI .z rfl rfl rfl (ev_tmp rfl rfl) (ev_tmp rfl rfl) rfl size_25 rfl rfl rfl ?_
      clear hI; intro c7 w7 hI
      refine s_q rfl rfl (y_assign rfl (ev_tmp rfl rfl)) ?_
      refine s_nil ?_
      refine k_next (e := [(0, (Value.int .i64 fold1)), (4, (Value.pointer (some ⟨b1, 0, none⟩))), (7, (Value.slice a2 back1.length c4)), (9, (Value.pointer (some ⟨b2, 0, none⟩))), (10, (Value.int .i64 r3.2))]) ⟨rfl, rfl, rfl, rfl, rfl, trivial⟩ ?_
      refine c_seq ?_
      refine c_region rfl ?_
      refine s_q rfl rfl (y_move rfl (ev_tmp rfl rfl)) ?_
      refine s_q rfl rfl (y_loadN (l := [(Value.int .i64 t1.Kind), (Value.int .i64 t1.Bits), (Value.int .i64 t1.Frac), (Value.int .i64 t1.Round), (Value.int .i64 t1.Over)]) rfl (ev_tmp rfl rfl) Tryd.underlying23 rfl size_23 (hI.kblk (l := [(Value.int .i64 t1.Kind), (Value.int .i64 t1.Bits), (Value.int .i64 t1.Frac), (Value.int .i64 t1.Round), (Value.int .i64 t1.Over)]) (.s .z) rfl).1) ?_
      refine s_q rfl rfl (y_move rfl (ev_tmp rfl rfl)) ?_
      obtain ⟨r4, hx7, h⟩ := bnd_some h
      refine s_call rfl rfl (r_callF (vs := [(Value.int .i64 fold1), (Value.agg #[(Value.int .i64 t1.Kind), (Value.int .i64 t1.Bits), (Value.int .i64 t1.Frac), (Value.int .i64 t1.Round), (Value.int .i64 t1.Over)]), (Value.slice a2 back1.length c4)]) rfl ok_24 ⟨(ev_tmp rfl rfl), ⟨(ev_tmp rfl rfl), ⟨(ev_tmp rfl rfl), trivial⟩⟩⟩) (Calls.mono (c_value_Reduce noM w7 (fun _ k => k.elim) fold1 t1 back1 a2 c4 ⟨hI.lend (.s .z), trivial⟩ r4 hx7) ?_)
      rintro _ w8 ⟨rfl, hx8, hl4⟩
      refine ⟨_, rfl, ?_⟩
      replace hI := (hI.ext hx8)
      refine s_q rfl rfl (y_move rfl (ev_tmp rfl rfl)) ?_
      refine s_q rfl rfl (y_extract rfl (ev_tmp rfl rfl) rfl) ?_
      refine s_q rfl rfl (y_extract rfl (ev_tmp rfl rfl) rfl) ?_
      refine l_alloc (cs := #[(Value.int .i64 0), (Value.int .i64 0)]) hI rfl rfl rfl zero_25 rfl ?_
      clear hI; intro b3 c8 w9 hI
      refine l_store (new := [(Value.int .i64 r4.1.N), (Value.int .i64 r4.1.D)]) (cs' := #[(Value.int .i64 r4.1.N), (Value.int .i64 r4.1.D)]) hI .z rfl rfl rfl (ev_tmp rfl rfl) (ev_tmp rfl rfl) rfl size_25 rfl rfl rfl ?_
      clear hI; intro c9 w10 hI
      refine s_q rfl rfl (y_assign rfl (ev_tmp rfl rfl)) ?_
      refine s_nil ?_
      refine k_next (e := [(0, (Value.int .i64 fold1)), (4, (Value.pointer (some ⟨b1, 0, none⟩))), (9, (Value.pointer (some ⟨b2, 0, none⟩))), (10, (Value.int .i64 r3.2)), (11, (Value.pointer (some ⟨b3, 0, none⟩))), (12, (Value.int .i64 r4.2))]) ⟨rfl, rfl, rfl, rfl, rfl, rfl, trivial⟩ ?_
      refine c_seq ?_
      refine c_seq ?_
      refine c_region rfl ?_
      refine s_q rfl rfl (y_move rfl (ev_tmp rfl rfl)) ?_
      refine s_q rfl rfl (y_eql rfl (ev_tmp rfl rfl) ev_const) ?_
      refine s_q rfl rfl (y_move rfl (ev_tmp rfl rfl)) ?_
      refine s_gval (g_false rfl rfl rfl rfl) rfl (fun hc => (y_move rfl (ev_tmp rfl rfl))) ?_
      refine s_gval (g_false rfl rfl rfl rfl) rfl (fun hc => (y_eql rfl (ev_gv (ev_tmp rfl rfl) hc) ev_const)) ?_
      refine s_q rfl rfl (y_or rfl (ev_tmp rfl rfl) (ev_tmp rfl rfl)) ?_
      refine s_nil ?_
      refine k_next (e := [(0, (Value.int .i64 fold1)), (4, (Value.pointer (some ⟨b1, 0, none⟩))), (9, (Value.pointer (some ⟨b2, 0, none⟩))), (10, (Value.int .i64 r3.2)), (11, (Value.pointer (some ⟨b3, 0, none⟩))), (12, (Value.int .i64 r4.2)), (61, (Value.bool ((decide (r3.2 = 3)) || (decide (r4.2 = 3)))))]) ⟨rfl, rfl, rfl, rfl, rfl, rfl, rfl, trivial⟩ ?_
      refine c_cond (b := (decide (r3.2 = 3)) || (decide (r4.2 = 3))) (ev_tmp rfl rfl) (fun hb => ?_) (fun hb => ?_)
      · replace h := ite_t hb h
        refine c_seq ?_
        refine c_region rfl ?_
        refine s_q rfl rfl (y_fieldAddr rfl (ev_tmp rfl rfl) Tryd.underlying23 rfl size_3 rfl) ?_
        refine s_q rfl rfl (y_load1 (v := (Value.int .i64 t1.Kind)) rfl (ev_tmp rfl rfl) Tryd.underlying3 rfl (hI.kblk (l := [(Value.int .i64 t1.Kind)]) (.s .z) rfl).1) ?_
        refine s_q rfl rfl (y_neq rfl (ev_tmp rfl rfl) ev_const) ?_
        refine s_q rfl rfl (y_move rfl (ev_tmp rfl rfl)) ?_
        refine s_gval (g_true rfl rfl rfl rfl) rfl (fun hc => (y_move rfl (ev_tmp rfl rfl))) ?_
        refine s_gval (g_true rfl rfl rfl rfl) rfl (fun hc => (y_neq rfl (ev_gv (ev_tmp rfl rfl) hc) ev_const)) ?_
        refine s_q rfl rfl (y_and rfl (ev_tmp rfl rfl) (ev_tmp rfl rfl)) ?_
        refine s_q rfl rfl (y_move rfl (ev_tmp rfl rfl)) ?_
        refine s_gval (g_true rfl rfl rfl rfl) rfl (fun hc => (y_move rfl (ev_tmp rfl rfl))) ?_
        refine s_gval (g_true rfl rfl rfl rfl) rfl (fun hc => (y_neq rfl (ev_gv (ev_tmp rfl rfl) hc) ev_const)) ?_
        refine s_q rfl rfl (y_and rfl (ev_tmp rfl rfl) (ev_tmp rfl rfl)) ?_
        refine s_q rfl rfl (y_move rfl (ev_tmp rfl rfl)) ?_
        obtain ⟨r5, hx9, h⟩ := bnd_some h
        replace hx9 := gd_some hx9
        refine s_gcallU (v := (Value.bool r5)) (g_true rfl rfl rfl rfl) rfl (fun hc => (r_callF (vs := []) rfl ok_16 trivial)) (fun hc => (c_law04_examples (Dj F c9) w10 hI.lt (hI.facts ⟨(.s (.s .z)), trivial⟩) r5 (hx9 hc)).mono fun _ _ k => ⟨k.1, k.2.1⟩) ?_
        intro w11 hx10; replace hI := hI.ext hx10
        refine s_q rfl rfl (y_and rfl (ev_tmp rfl rfl) (ev_tmp rfl rfl)) ?_
        refine s_q rfl rfl (y_assign rfl (ev_tmp rfl rfl)) ?_
        refine s_nil ?_
        refine k_next (e := [(6, (Value.bool ((((!decide (t1.Kind = 2)) && (!decide (fold1 = 3))) && (!decide (fold1 = 4))) && r5)))]) ⟨rfl, trivial⟩ ?_
        refine c_ret ?_
        obtain rfl := some_inj h
        exact q_ret (vs := [(Value.bool ((((!decide (t1.Kind = 2)) && (!decide (fold1 = 3))) && (!decide (fold1 = 4))) && r5))]) Tryd.results6 ⟨ev_tmp rfl rfl, trivial⟩ ⟨rfl, hI.ext0, hI.fin trivial⟩
      · replace h := ite_f hb h
        refine c_skip ?_
        refine k_next (e := [(9, (Value.pointer (some ⟨b2, 0, none⟩))), (10, (Value.int .i64 r3.2)), (11, (Value.pointer (some ⟨b3, 0, none⟩))), (12, (Value.int .i64 r4.2))]) ⟨rfl, rfl, rfl, rfl, trivial⟩ ?_
        refine c_seq ?_
        refine c_region rfl ?_
        refine s_q rfl rfl (y_loadN (l := [(Value.int .i64 r3.1.N), (Value.int .i64 r3.1.D)]) rfl (ev_tmp rfl rfl) Tryd.underlying25 rfl size_25 (CellsAt.of_blk (hI.blk (.s .z)) rfl)) ?_
        refine s_q rfl rfl (y_loadN (l := [(Value.int .i64 r4.1.N), (Value.int .i64 r4.1.D)]) rfl (ev_tmp rfl rfl) Tryd.underlying25 rfl size_25 (CellsAt.of_blk (hI.blk .z) rfl)) ?_
        refine s_q rfl rfl (y_bin rfl (ev_tmp rfl rfl) (ev_tmp rfl rfl) (eqstruct_25 ..) (eqguard_25 ..)) ?_
        refine s_q rfl rfl (y_move rfl (ev_tmp rfl rfl)) ?_
        refine s_gval (g_true rfl rfl rfl rfl) rfl (fun hc => (y_move rfl (ev_tmp rfl rfl))) ?_
        refine s_gval (g_true rfl rfl rfl rfl) rfl (fun hc => (y_move rfl (ev_tmp rfl rfl))) ?_
        refine s_gval (g_true rfl rfl rfl rfl) rfl (fun hc => (y_eql rfl (ev_gv (ev_tmp rfl rfl) hc) (ev_gv (ev_tmp rfl rfl) hc))) ?_
        refine s_q rfl rfl (y_and rfl (ev_tmp rfl rfl) (ev_tmp rfl rfl)) ?_
        refine s_q rfl rfl (y_move rfl (ev_tmp rfl rfl)) ?_
        obtain ⟨r6, hx11, h⟩ := bnd_some h
        replace hx11 := gd_some hx11
        refine s_gcallU (v := (Value.bool r6)) (g_true rfl rfl rfl rfl) rfl (fun hc => (r_callF (vs := []) rfl ok_16 trivial)) (fun hc => (c_law04_examples (Dj F c9) w10 hI.lt (hI.facts ⟨(.s (.s .z)), trivial⟩) r6 (hx11 hc)).mono fun _ _ k => ⟨k.1, k.2.1⟩) ?_
        intro w12 hx12; replace hI := hI.ext hx12
        refine s_q rfl rfl (y_and rfl (ev_tmp rfl rfl) (ev_tmp rfl rfl)) ?_
        refine s_q rfl rfl (y_assign rfl (ev_tmp rfl rfl)) ?_
        refine s_nil ?_
        refine k_next (e := [(6, (Value.bool ((((decide (r3.1.N = r4.1.N)) && (decide (r3.1.D = r4.1.D))) && (decide (r3.2 = r4.2))) && r6)))]) ⟨rfl, trivial⟩ ?_
        refine c_ret ?_
        obtain rfl := some_inj h
        exact q_ret (vs := [(Value.bool ((((decide (r3.1.N = r4.1.N)) && (decide (r3.1.D = r4.1.D))) && (decide (r3.2 = r4.2))) && r6))]) Tryd.results6 ⟨ev_tmp rfl rfl, trivial⟩ ⟨rfl, hI.ext0, hI.fin trivial⟩
    · skip
      refine c_seq ?_
      refine c_region rfl ?_
      refine s_q rfl rfl (y_move rfl (ev_tmp rfl rfl)) ?_
      refine s_q rfl rfl (y_lenl rfl Tryd.underlying39 (ev_tmp rfl rfl)) ?_
      refine s_q rfl rfl (y_sub rfl (ev_tmp rfl rfl) ev_const) ?_
      obtain ⟨i1, hx13, h⟩ := bnd_some h
      refine s_q rfl rfl (binU (y_assign rfl (ev_tmp rfl rfl)) (congrArg (Value.int .i64) (some_inj hx13))) ?_
      refine s_nil ?_
      refine k_next (e := [(0, (Value.int .i64 fold1)), (2, (Value.slice a1 l1.length c1)), (4, (Value.pointer (some ⟨b1, 0, none⟩))), (7, (Value.slice none 0 0)), (8, (Value.int .i64 i1))]) ⟨rfl, rfl, rfl, rfl, rfl, trivial⟩ ?_
      refine c_block ?_
      have hI := hI.nil cGVal 25 none
      refine c_loop (α := Nat × (List GVal) × Int × (Option Addr) × Nat) (fun x => fun w => ∃ C, Bun noM F w0 C w [MO.row cGVal 25 (x.2.2.2.1) (x.2.2.2.2) (x.2.1)] [Cl.sl cGVal a1 c1 l1, Cl.blk b1 23 #[(Value.int .i64 t1.Kind), (Value.int .i64 t1.Bits), (Value.int .i64 t1.Frac), (Value.int .i64 t1.Round), (Value.int .i64 t1.Over)], clPow10] ∧ m_law04_ValueReorderable_l1 l1 fold1 t1 (x.1) (x.2.1) (x.2.2.1) = some r) (fun x _ => x.1) (fun x => [(0, (Value.int .i64 fold1)), (2, (Value.slice a1 l1.length c1)), (4, (Value.pointer (some ⟨b1, 0, none⟩))), (7, (Value.slice (x.2.2.2.1) (x.2.1).length (x.2.2.2.2))), (8, (Value.int .i64 (x.2.2.1)))]) (fu, ([] : List GVal), i1, none, 0) ⟨_, hI.arr (.c .z .n) ⟨(.s .z), .z, (.s (.s .z)), trivial⟩, h⟩ ⟨rfl, rfl, rfl, rfl, rfl, trivial⟩ ?_
      clear h hI; rintro ⟨fuel1, back2, i2, a3, c10⟩ w13 ⟨c11, hI, h⟩
      dsimp only at hI h
      rcases fuel1 with _ | fuel1
      · rw [m_law04_ValueReorderable_l1] at h; cases h
      rw [m_law04_ValueReorderable_l1] at h
      refine c_sub (e := [(0, (Value.int .i64 fold1)), (2, (Value.slice a1 l1.length c1)), (4, (Value.pointer (some ⟨b1, 0, none⟩))), (7, (Value.slice a3 back2.length c10)), (8, (Value.int .i64 i2))]) ⟨rfl, rfl, rfl, rfl, rfl, trivial⟩ ?_
      refine c_seq ?_
      refine c_seq ?_
      refine c_region rfl ?_
      refine s_q rfl rfl (y_move rfl (ev_tmp rfl rfl)) ?_
      refine s_q rfl rfl (y_geq rfl (ev_tmp rfl rfl) ev_const) ?_
      refine s_nil ?_
      refine k_next (e := [(0, (Value.int .i64 fold1)), (2, (Value.slice a1 l1.length c1)), (4, (Value.pointer (some ⟨b1, 0, none⟩))), (7, (Value.slice a3 back2.length c10)), (8, (Value.int .i64 i2)), (32, (Value.bool (decide (0 ≤ i2))))]) ⟨rfl, rfl, rfl, rfl, rfl, rfl, trivial⟩ ?_
      refine c_cond (b := decide (0 ≤ i2)) (ev_tmp rfl rfl) (fun hb => ?_) (fun hb => ?_)
      · replace h := ite_t hb h
        refine c_skip ?_
        refine k_next (e := [(0, (Value.int .i64 fold1)), (2, (Value.slice a1 l1.length c1)), (4, (Value.pointer (some ⟨b1, 0, none⟩))), (7, (Value.slice a3 back2.length c10)), (8, (Value.int .i64 i2))]) ⟨rfl, rfl, rfl, rfl, rfl, trivial⟩ ?_
        refine c_seq ?_
        refine c_block ?_
        refine c_region rfl ?_
        refine s_q rfl rfl (y_move rfl (ev_tmp rfl rfl)) ?_
        refine s_q rfl rfl (y_move rfl (ev_tmp rfl rfl)) ?_
        refine s_q rfl rfl (y_move rfl (ev_tmp rfl rfl)) ?_
        obtain ⟨e1, hx14, h⟩ := bnd_some h
        obtain ⟨ad1, cs1, hA1, hr1, hq1⟩ := hI.clat .z hx14
        obtain rfl : cs1 = [(Value.int .i64 e1.N), (Value.int .i64 e1.D)] := hr1
        refine s_q rfl rfl (y_indexAddr rfl Tryd.underlying39 size_25 (ev_tmp rfl rfl) (ev_tmp rfl rfl) (lat_bd hx14) hA1) ?_
        refine s_q rfl rfl (y_loadN (l := [(Value.int .i64 e1.N), (Value.int .i64 e1.D)]) rfl (ev_tmp rfl rfl) Tryd.underlying25 rfl size_25 hq1.1) ?_
        refine l_lit (c := cGVal) (xs := ([e1] : List GVal)) (vs := [(0, (Value.agg #[(Value.int .i64 e1.N), (Value.int .i64 e1.D)]))]) (cs := #[(Value.int .i64 e1.N), (Value.int .i64 e1.D)]) (css := [[(Value.int .i64 e1.N), (Value.int .i64 e1.D)]]) hI rfl rfl rfl Tryd.underlying39 info_25 rfl ⟨rfl, (ev_tmp rfl rfl), trivial⟩ (by kernel_rfl) ⟨rfl, trivial⟩ rfl rfl rfl ?_
        clear hI; intro b4 c12 w14 hI
        obtain ⟨zs1, hx15, h⟩ := bnd_some h
        refine l_append (xs := back2) (ys := ([e1] : List GVal)) hI (.s .z) (hI.rd .z) hx15 rfl rfl rfl Tryd.underlying39 info_25 rfl rfl (ev_tmp rfl rfl) (ev_tmp rfl rfl) ?_
        clear hI; intro a4 c13 c14 w15 hI
        refine s_q rfl rfl (y_assign rfl (ev_tmp rfl rfl)) ?_
        refine s_nil ?_
        refine k_next (e := [(0, (Value.int .i64 fold1)), (2, (Value.slice a1 l1.length c1)), (4, (Value.pointer (some ⟨b1, 0, none⟩))), (7, (Value.slice a4 zs1.length c13)), (8, (Value.int .i64 i2))]) ⟨rfl, rfl, rfl, rfl, rfl, trivial⟩ ?_
        refine c_region rfl ?_
        refine s_q rfl rfl (y_move rfl (ev_tmp rfl rfl)) ?_
        refine s_q rfl rfl (y_sub rfl (ev_tmp rfl rfl) ev_const) ?_
        refine s_q rfl rfl (y_assign rfl (ev_tmp rfl rfl)) ?_
        refine s_nil ?_
        exact k_loop (fuel1, zs1, wi64 (i2 - 1), a4, c13) ⟨rfl, rfl, rfl, rfl, rfl, trivial⟩ ⟨_, hI.arr (.c (.s .z) .n) ⟨.z, (.s .z), (.s (.s .z)), trivial⟩, h⟩ (Nat.lt_succ_self _)
      · replace h := ite_f hb h
        refine c_exit ?_
        refine k_in ?_
        exact k_join (back2, a3, c10) ⟨rfl, rfl, rfl, rfl, trivial⟩ ⟨_, hI.arr (.c .z .n) ⟨.z, (.s .z), (.s (.s .z)), trivial⟩, h⟩ rfl

set_option maxRecDepth 100000 in
set_option maxHeartbeats 4000000 in
theorem c_frac_Neg (F : NP) (w0 : World) (hF : ∀ k, F k → k < w0.heap.size) (a1 : GVal) (hc : AllCl [] F w0) (r : GVal)
    (h : m_frac_Neg a1 = some r) :
    Calls Tryd.prog 55 #[(Value.agg #[(Value.int .i64 a1.N), (Value.int .i64 a1.D)])] w0 fun e w => e = .returned (Value.agg #[(Value.int .i64 r.N), (Value.int .i64 r.D)]) ∧ Ext w0 w ∧ AllCl [] F w := by
  refine ofEnter (R := fun v w => v = (Value.agg #[(Value.int .i64 r.N), (Value.int .i64 r.D)]) ∧ Ext w0 w ∧ AllCl [] F w) (enter (l := [(Value.agg #[(Value.int .i64 a1.N), (Value.int .i64 a1.D)])]) Tryd.func55 rfl Tryd.ntmps55 rfl ?_) ?_
  rotate_left
  · rintro _ w ⟨rfl, k1, k2⟩; exact ⟨rfl, k1, k2⟩
  have hI := Bun.start hF hc
  clear hc
  rw [m_frac_Neg] at h
  refine c_seq ?_
  refine c_region rfl ?_
  refine l_box (v := (Value.agg #[(Value.int .i64 a1.N), (Value.int .i64 a1.D)])) (cs := #[(Value.int .i64 a1.N), (Value.int .i64 a1.D)]) hI rfl rfl rfl (ev_tmp rfl rfl) rfl ?_
  clear hI; intro b1 c1 w1 hI
  obtain ⟨c2, hI⟩ := hI.relBox .z
  refine l_alloc (cs := #[(Value.int .i64 0), (Value.int .i64 0)]) hI rfl rfl rfl zero_25 rfl ?_
  clear hI; intro b2 c3 w2 hI
  refine s_nil ?_
  refine k_next (e := [(1, (Value.pointer (some ⟨b1, 0, none⟩))), (2, (Value.pointer (some ⟨b2, 0, none⟩)))]) ⟨rfl, rfl, trivial⟩ ?_
  refine c_seq ?_
  refine c_seq ?_
  refine c_region rfl ?_
  refine s_q rfl rfl (y_loadN (l := [(Value.int .i64 a1.N), (Value.int .i64 a1.D)]) rfl (ev_tmp rfl rfl) Tryd.underlying25 rfl size_25 (hI.kblk (l := [(Value.int .i64 a1.N), (Value.int .i64 a1.D)]) .z rfl).1) ?_
  obtain ⟨r1, hx1, h⟩ := bnd_some h
  refine s_call rfl rfl (r_callF (vs := [(Value.agg #[(Value.int .i64 a1.N), (Value.int .i64 a1.D)])]) rfl ok_34 ⟨(ev_tmp rfl rfl), trivial⟩) (Calls.mono (c_frac_Valid (Dj F c3) w2 hI.lt a1 (hI.facts trivial) r1 hx1) ?_)
  rintro _ w3 ⟨rfl, hx2, hl1⟩
  refine ⟨_, rfl, ?_⟩
  replace hI := (hI.ext hx2)
  refine s_q rfl rfl (y_not rfl (ev_tmp rfl rfl)) ?_
  refine s_nil ?_
  refine k_next (e := [(1, (Value.pointer (some ⟨b1, 0, none⟩))), (2, (Value.pointer (some ⟨b2, 0, none⟩))), (5, (Value.bool (!r1)))]) ⟨rfl, rfl, rfl, trivial⟩ ?_
  refine c_cond (b := !r1) (ev_tmp rfl rfl) (fun hb => ?_) (fun hb => ?_)
  · replace h := ite_t hb h
    refine c_seq ?_
    refine c_region rfl ?_
    refine s_q rfl rfl (y_build (vs := []) (cs := #[(Value.int .i64 0), (Value.int .i64 0)]) rfl trivial (by kernel_rfl)) ?_
    refine l_store (new := [(Value.int .i64 0), (Value.int .i64 0)]) (cs' := #[(Value.int .i64 0), (Value.int .i64 0)]) hI .z rfl rfl rfl (ev_tmp rfl rfl) (ev_tmp rfl rfl) rfl size_25 rfl rfl rfl ?_
    clear hI; intro c4 w4 hI
    refine s_nil ?_
    refine k_next (e := [(2, (Value.pointer (some ⟨b2, 0, none⟩)))]) ⟨rfl, trivial⟩ ?_
    refine c_ret ?_
    obtain rfl := some_inj h
    exact q_ret (vs := [(Value.agg #[(Value.int .i64 0), (Value.int .i64 0)])]) Tryd.results55 ⟨⟨_, ev_tmp rfl rfl, load_agg (l := [(Value.int .i64 0), (Value.int .i64 0)]) Tryd.underlying25 rfl size_25 (CellsAt.of_blk (hI.blk .z) rfl)⟩, trivial⟩ ⟨rfl, hI.ext0, hI.fin trivial⟩
  · replace h := ite_f hb h
    refine c_skip ?_
    refine k_next (e := [(1, (Value.pointer (some ⟨b1, 0, none⟩))), (2, (Value.pointer (some ⟨b2, 0, none⟩)))]) ⟨rfl, rfl, trivial⟩ ?_
    refine c_seq ?_
    refine c_region rfl ?_
    refine s_q rfl rfl (y_fieldAddr rfl (ev_tmp rfl rfl) Tryd.underlying25 rfl size_2 rfl) ?_
    refine s_q rfl rfl (y_load1 (v := (Value.int .i64 a1.N)) rfl (ev_tmp rfl rfl) Tryd.underlying2 rfl (hI.kblk (l := [(Value.int .i64 a1.N)]) .z rfl).1) ?_
    refine s_q rfl rfl (y_neg rfl (ev_tmp rfl rfl)) ?_
    refine s_q rfl rfl (y_fieldAddr rfl (ev_tmp rfl rfl) Tryd.underlying25 rfl size_2 rfl) ?_
    refine s_q rfl rfl (y_load1 (v := (Value.int .i64 a1.D)) rfl (ev_tmp rfl rfl) Tryd.underlying2 rfl (hI.kblk (l := [(Value.int .i64 a1.D)]) .z rfl).1) ?_
    refine s_q rfl rfl (y_build (vs := [(0, (Value.int .i64 (wi64 (-a1.N)))), (1, (Value.int .i64 a1.D))]) (cs := #[(Value.int .i64 (wi64 (-a1.N))), (Value.int .i64 a1.D)]) rfl ⟨rfl, (ev_tmp rfl rfl), ⟨rfl, (ev_tmp rfl rfl), trivial⟩⟩ (by kernel_rfl)) ?_
    refine l_store (new := [(Value.int .i64 (wi64 (-a1.N))), (Value.int .i64 a1.D)]) (cs' := #[(Value.int .i64 (wi64 (-a1.N))), (Value.int .i64 a1.D)]) hI .z rfl rfl rfl (ev_tmp rfl rfl) (ev_tmp rfl rfl) rfl size_25 rfl rfl rfl ?_
    clear hI; intro c5 w5 hI
    refine s_nil ?_
    refine k_next (e := [(2, (Value.pointer (some ⟨b2, 0, none⟩)))]) ⟨rfl, trivial⟩ ?_
    refine c_ret ?_
    obtain rfl := some_inj h
    exact q_ret (vs := [(Value.agg #[(Value.int .i64 (wi64 (-a1.N))), (Value.int .i64 a1.D)])]) Tryd.results55 ⟨⟨_, ev_tmp rfl rfl, load_agg (l := [(Value.int .i64 (wi64 (-a1.N))), (Value.int .i64 a1.D)]) Tryd.underlying25 rfl size_25 (CellsAt.of_blk (hI.blk .z) rfl)⟩, trivial⟩ ⟨rfl, hI.ext0, hI.fin trivial⟩

set_option maxRecDepth 100000 in
set_option maxHeartbeats 4000000 in
theorem c_frac_Ceil (F : NP) (w0 : World) (hF : ∀ k, F k → k < w0.heap.size) (a1 : GVal) (hc : AllCl [] F w0) (r : Int)
    (h : m_frac_Ceil a1 = some r) :
    Calls Tryd.prog 26 #[(Value.agg #[(Value.int .i64 a1.N), (Value.int .i64 a1.D)])] w0 fun e w => e = .returned (Value.int .i64 r) ∧ Ext w0 w ∧ AllCl [] F w := by
  refine ofEnter (R := fun v w => v = (Value.int .i64 r) ∧ Ext w0 w ∧ AllCl [] F w) (enter (l := [(Value.agg #[(Value.int .i64 a1.N), (Value.int .i64 a1.D)])]) Tryd.func26 rfl Tryd.ntmps26 rfl ?_) ?_
  rotate_left
  · rintro _ w ⟨rfl, k1, k2⟩; exact ⟨rfl, k1, k2⟩
  have hI := Bun.start hF hc
  clear hc
  rw [m_frac_Ceil] at h
  refine c_seq ?_
  refine c_region rfl ?_
  refine l_box (v := (Value.agg #[(Value.int .i64 a1.N), (Value.int .i64 a1.D)])) (cs := #[(Value.int .i64 a1.N), (Value.int .i64 a1.D)]) hI rfl rfl rfl (ev_tmp rfl rfl) rfl ?_
  clear hI; intro b1 c1 w1 hI
  obtain ⟨c2, hI⟩ := hI.relBox .z
  refine s_q rfl rfl (y_assign rfl ev_const) ?_
  refine s_nil ?_
  refine k_next (e := [(1, (Value.pointer (some ⟨b1, 0, none⟩)))]) ⟨rfl, trivial⟩ ?_
  refine c_seq ?_
  refine c_region rfl ?_
  refine s_q rfl rfl (y_loadN (l := [(Value.int .i64 a1.N), (Value.int .i64 a1.D)]) rfl (ev_tmp rfl rfl) Tryd.underlying25 rfl size_25 (hI.kblk (l := [(Value.int .i64 a1.N), (Value.int .i64 a1.D)]) .z rfl).1) ?_
  obtain ⟨r1, hx1, h⟩ := bnd_some h
  refine s_call rfl rfl (r_callF (vs := [(Value.agg #[(Value.int .i64 a1.N), (Value.int .i64 a1.D)])]) rfl ok_55 ⟨(ev_tmp rfl rfl), trivial⟩) (Calls.mono (c_frac_Neg (Dj F c2) w1 hI.lt a1 (hI.facts trivial) r1 hx1) ?_)
  rintro _ w2 ⟨rfl, hx2, hl1⟩
  refine ⟨_, rfl, ?_⟩
  replace hI := (hI.ext hx2)
  obtain ⟨r2, hx3, h⟩ := bnd_some h
  refine s_call rfl rfl (r_callF (vs := [(Value.agg #[(Value.int .i64 r1.N), (Value.int .i64 r1.D)])]) rfl ok_25 ⟨(ev_tmp rfl rfl), trivial⟩) (Calls.mono (c_frac_Floor (Dj F c2) w2 hI.lt r1 (hI.facts trivial) r2 hx3) ?_)
  rintro _ w3 ⟨rfl, hx4, hl2⟩
  refine ⟨_, rfl, ?_⟩
  replace hI := (hI.ext hx4)
  refine s_q rfl rfl (y_neg rfl (ev_tmp rfl rfl)) ?_
  refine s_q rfl rfl (y_assign rfl (ev_tmp rfl rfl)) ?_
  refine s_nil ?_
  refine k_next (e := [(2, (Value.int .i64 (wi64 (-r2))))]) ⟨rfl, trivial⟩ ?_
  refine c_ret ?_
  obtain rfl := some_inj h
  exact q_ret (vs := [(Value.int .i64 (wi64 (-r2)))]) Tryd.results26 ⟨ev_tmp rfl rfl, trivial⟩ ⟨rfl, hI.ext0, hI.fin trivial⟩

set_option maxRecDepth 100000 in
set_option maxHeartbeats 4000000 in
theorem c_law04_ValueRoundingError (F : NP) (w0 : World) (hF : ∀ k, F k → k < w0.heap.size) (t1 : GType) (v1 : GVal) (hc : AllCl [clPow10] F w0) (r : Bool)
    (h : m_law04_ValueRoundingError t1 v1 = some r) :
    Calls Tryd.prog 7 #[(Value.agg #[(Value.int .i64 t1.Kind), (Value.int .i64 t1.Bits), (Value.int .i64 t1.Frac), (Value.int .i64 t1.Round), (Value.int .i64 t1.Over)]), (Value.agg #[(Value.int .i64 v1.N), (Value.int .i64 v1.D)])] w0 fun e w => e = .returned (Value.bool r) ∧ Ext w0 w ∧ AllCl [] F w := by
  refine ofEnter (R := fun v w => v = (Value.bool r) ∧ Ext w0 w ∧ AllCl [] F w) (enter (l := [(Value.agg #[(Value.int .i64 t1.Kind), (Value.int .i64 t1.Bits), (Value.int .i64 t1.Frac), (Value.int .i64 t1.Round), (Value.int .i64 t1.Over)]), (Value.agg #[(Value.int .i64 v1.N), (Value.int .i64 v1.D)])]) Tryd.func7 rfl Tryd.ntmps7 rfl ?_) ?_
  rotate_left
  · rintro _ w ⟨rfl, k1, k2⟩; exact ⟨rfl, k1, k2⟩
  have hI := Bun.start hF hc
  clear hc
  rw [m_law04_ValueRoundingError] at h
  refine c_seq ?_
  refine c_region rfl ?_
  refine l_box (v := (Value.agg #[(Value.int .i64 t1.Kind), (Value.int .i64 t1.Bits), (Value.int .i64 t1.Frac), (Value.int .i64 t1.Round), (Value.int .i64 t1.Over)])) (cs := #[(Value.int .i64 t1.Kind), (Value.int .i64 t1.Bits), (Value.int .i64 t1.Frac), (Value.int .i64 t1.Round), (Value.int .i64 t1.Over)]) hI rfl rfl rfl (ev_tmp rfl rfl) rfl ?_
  clear hI; intro b1 c1 w1 hI
  obtain ⟨c2, hI⟩ := hI.relBox .z
  refine l_box (v := (Value.agg #[(Value.int .i64 v1.N), (Value.int .i64 v1.D)])) (cs := #[(Value.int .i64 v1.N), (Value.int .i64 v1.D)]) hI rfl rfl rfl (ev_tmp rfl rfl) rfl ?_
  clear hI; intro b2 c3 w2 hI
  obtain ⟨c4, hI⟩ := hI.relBox .z
  refine s_q rfl rfl (y_assign rfl ev_const) ?_
  refine s_nil ?_
  refine k_next (e := [(2, (Value.pointer (some ⟨b1, 0, none⟩))), (3, (Value.pointer (some ⟨b2, 0, none⟩)))]) ⟨rfl, rfl, trivial⟩ ?_
  refine c_seq ?_
  refine c_region rfl ?_
  refine s_q rfl rfl (y_build (vs := [(0, (Value.int .i64 1))]) (cs := #[(Value.int .i64 1), (Value.int .i64 0), (Value.int .i64 0), (Value.int .i64 0), (Value.int .i64 0)]) rfl ⟨rfl, ev_const, trivial⟩ (by kernel_rfl)) ?_
  refine l_alloc (cs := #[(Value.int .i64 0), (Value.int .i64 0), (Value.int .i64 0), (Value.int .i64 0), (Value.int .i64 0)]) hI rfl rfl rfl zero_23 rfl ?_
  clear hI; intro b3 c5 w3 hI
  refine l_store (new := [(Value.int .i64 1), (Value.int .i64 0), (Value.int .i64 0), (Value.int .i64 0), (Value.int .i64 0)]) (cs' := #[(Value.int .i64 1), (Value.int .i64 0), (Value.int .i64 0), (Value.int .i64 0), (Value.int .i64 0)]) hI .z rfl rfl rfl (ev_tmp rfl rfl) (ev_tmp rfl rfl) rfl size_23 rfl rfl rfl ?_
  clear hI; intro c6 w4 hI
  refine s_nil ?_
  refine k_next (e := [(2, (Value.pointer (some ⟨b1, 0, none⟩))), (3, (Value.pointer (some ⟨b2, 0, none⟩))), (5, (Value.pointer (some ⟨b3, 0, none⟩)))]) ⟨rfl, rfl, rfl, trivial⟩ ?_
  refine c_seq ?_
  refine c_seq ?_
  refine c_region rfl ?_
  refine s_q rfl rfl (y_fieldAddr rfl (ev_tmp rfl rfl) Tryd.underlying23 rfl size_3 rfl) ?_
  refine s_q rfl rfl (y_load1 (v := (Value.int .i64 t1.Kind)) rfl (ev_tmp rfl rfl) Tryd.underlying3 rfl (hI.kblk (l := [(Value.int .i64 t1.Kind)]) (.s .z) rfl).1) ?_
  refine s_q rfl rfl (y_neq rfl (ev_tmp rfl rfl) ev_const) ?_
  refine s_q rfl rfl (y_move rfl (ev_tmp rfl rfl)) ?_
  refine s_gval (g_false rfl rfl rfl rfl) rfl (fun hc => (y_loadN (l := [(Value.int .i64 t1.Kind), (Value.int .i64 t1.Bits), (Value.int .i64 t1.Frac), (Value.int .i64 t1.Round), (Value.int .i64 t1.Over)]) rfl (ev_tmp rfl rfl) Tryd.underlying23 rfl size_23 (hI.kblk (l := [(Value.int .i64 t1.Kind), (Value.int .i64 t1.Bits), (Value.int .i64 t1.Frac), (Value.int .i64 t1.Round), (Value.int .i64 t1.Over)]) (.s .z) rfl).1)) ?_
  obtain ⟨r1, hx1, h⟩ := bnd_some h
  replace hx1 := gd_some hx1
  refine s_gcallU (v := (Value.int .i64 r1)) (g_false rfl rfl rfl rfl) rfl (fun hc => (r_callF (vs := [(Value.agg #[(Value.int .i64 t1.Kind), (Value.int .i64 t1.Bits), (Value.int .i64 t1.Frac), (Value.int .i64 t1.Round), (Value.int .i64 t1.Over)])]) rfl ok_10 ⟨(ev_gv (ev_tmp rfl rfl) hc), trivial⟩)) (fun hc => (c_value_ValidateType (Dj F c6) w4 hI.lt t1 (hI.facts trivial) r1 (hx1 hc)).mono fun _ _ k => ⟨k.1, k.2.1⟩) ?_
  intro w5 hx2; replace hI := hI.ext hx2
  refine s_gval (g_false rfl rfl rfl rfl) rfl (fun hc => (y_neq rfl (ev_gv (ev_tmp rfl rfl) hc) ev_const)) ?_
  refine s_q rfl rfl (y_or rfl (ev_tmp rfl rfl) (ev_tmp rfl rfl)) ?_
  refine s_q rfl rfl (y_move rfl (ev_tmp rfl rfl)) ?_
  refine s_gval (g_false rfl rfl rfl rfl) rfl (fun hc => (y_loadN (l := [(Value.int .i64 1), (Value.int .i64 0), (Value.int .i64 0), (Value.int .i64 0), (Value.int .i64 0)]) rfl (ev_tmp rfl rfl) Tryd.underlying23 rfl size_23 (CellsAt.of_blk (hI.blk .z) rfl))) ?_
  refine s_gval (g_false rfl rfl rfl rfl) rfl (fun hc => (y_loadN (l := [(Value.int .i64 v1.N), (Value.int .i64 v1.D)]) rfl (ev_tmp rfl rfl) Tryd.underlying25 rfl size_25 (hI.kblk (l := [(Value.int .i64 v1.N), (Value.int .i64 v1.D)]) .z rfl).1)) ?_
  obtain ⟨r2, hx3, h⟩ := bnd_some h
  replace hx3 := gd_some hx3
  refine s_gcallU (v := (Value.bool r2)) (g_false rfl rfl rfl rfl) rfl (fun hc => (r_callF (vs := [(Value.agg #[(Value.int .i64 1), (Value.int .i64 0), (Value.int .i64 0), (Value.int .i64 0), (Value.int .i64 0)]), (Value.agg #[(Value.int .i64 v1.N), (Value.int .i64 v1.D)])]) rfl ok_12 ⟨(ev_gv (ev_tmp rfl rfl) hc), ⟨(ev_gv (ev_tmp rfl rfl) hc), trivial⟩⟩)) (fun hc => (c_value_Valid (Dj F c6) w5 hI.lt (⟨1, 0, 0, 0, 0⟩ : GType) v1 (hI.facts trivial) r2 (hx3 hc)).mono fun _ _ k => ⟨k.1, k.2.1⟩) ?_
  intro w6 hx4; replace hI := hI.ext hx4
  refine s_gval (g_false rfl rfl rfl rfl) rfl (fun hc => (y_not rfl (ev_gv (ev_tmp rfl rfl) hc))) ?_
  refine s_q rfl rfl (y_or rfl (ev_tmp rfl rfl) (ev_tmp rfl rfl)) ?_
  refine s_nil ?_
  refine k_next (e := [(2, (Value.pointer (some ⟨b1, 0, none⟩))), (3, (Value.pointer (some ⟨b2, 0, none⟩))), (5, (Value.pointer (some ⟨b3, 0, none⟩))), (25, (Value.bool (((!decide (t1.Kind = 2)) || (!decide (r1 = 0))) || (!r2))))]) ⟨rfl, rfl, rfl, rfl, trivial⟩ ?_
  refine c_cond (b := ((!decide (t1.Kind = 2)) || (!decide (r1 = 0))) || (!r2)) (ev_tmp rfl rfl) (fun hb => ?_) (fun hb => ?_)
  · replace h := ite_t hb h
    refine c_seq ?_
    refine c_region rfl ?_
    obtain ⟨r3, hx5, h⟩ := bnd_some h
    refine s_call rfl rfl (r_callF (vs := []) rfl ok_16 trivial) (Calls.mono (c_law04_examples (Dj F c6) w6 hI.lt (hI.facts ⟨(.s (.s .z)), trivial⟩) r3 hx5) ?_)
    rintro _ w7 ⟨rfl, hx6, hl3⟩
    refine ⟨_, rfl, ?_⟩
    replace hI := (hI.ext hx6)
    refine s_q rfl rfl (y_assign rfl (ev_tmp rfl rfl)) ?_
    refine s_nil ?_
    refine k_next (e := [(4, (Value.bool r3))]) ⟨rfl, trivial⟩ ?_
    refine c_ret ?_
    obtain rfl := some_inj h
    exact q_ret (vs := [(Value.bool r3)]) Tryd.results7 ⟨ev_tmp rfl rfl, trivial⟩ ⟨rfl, hI.ext0, hI.fin trivial⟩
  · replace h := ite_f hb h
    refine c_skip ?_
    refine k_next (e := [(2, (Value.pointer (some ⟨b1, 0, none⟩))), (3, (Value.pointer (some ⟨b2, 0, none⟩))), (5, (Value.pointer (some ⟨b3, 0, none⟩)))]) ⟨rfl, rfl, rfl, trivial⟩ ?_
    refine c_seq ?_
    refine c_region rfl ?_
    refine s_q rfl rfl (y_loadN (l := [(Value.int .i64 1), (Value.int .i64 0), (Value.int .i64 0), (Value.int .i64 0), (Value.int .i64 0)]) rfl (ev_tmp rfl rfl) Tryd.underlying23 rfl size_23 (CellsAt.of_blk (hI.blk .z) rfl)) ?_
    refine s_q rfl rfl (y_loadN (l := [(Value.int .i64 t1.Kind), (Value.int .i64 t1.Bits), (Value.int .i64 t1.Frac), (Value.int .i64 t1.Round), (Value.int .i64 t1.Over)]) rfl (ev_tmp rfl rfl) Tryd.underlying23 rfl size_23 (hI.kblk (l := [(Value.int .i64 t1.Kind), (Value.int .i64 t1.Bits), (Value.int .i64 t1.Frac), (Value.int .i64 t1.Round), (Value.int .i64 t1.Over)]) (.s .z) rfl).1) ?_
    refine s_q rfl rfl (y_loadN (l := [(Value.int .i64 v1.N), (Value.int .i64 v1.D)]) rfl (ev_tmp rfl rfl) Tryd.underlying25 rfl size_25 (hI.kblk (l := [(Value.int .i64 v1.N), (Value.int .i64 v1.D)]) .z rfl).1) ?_
    obtain ⟨r4, hx7, h⟩ := bnd_some h
    refine s_call rfl rfl (r_callF (vs := [(Value.agg #[(Value.int .i64 1), (Value.int .i64 0), (Value.int .i64 0), (Value.int .i64 0), (Value.int .i64 0)]), (Value.agg #[(Value.int .i64 t1.Kind), (Value.int .i64 t1.Bits), (Value.int .i64 t1.Frac), (Value.int .i64 t1.Round), (Value.int .i64 t1.Over)]), (Value.agg #[(Value.int .i64 v1.N), (Value.int .i64 v1.D)])]) rfl ok_21 ⟨(ev_tmp rfl rfl), ⟨(ev_tmp rfl rfl), ⟨(ev_tmp rfl rfl), trivial⟩⟩⟩) (Calls.mono (c_value_Cast (Dj F c6) w6 hI.lt (⟨1, 0, 0, 0, 0⟩ : GType) t1 v1 (hI.facts trivial) r4 hx7) ?_)
    rintro _ w8 ⟨rfl, hx8, hl4⟩
    refine ⟨_, rfl, ?_⟩
    replace hI := (hI.ext hx8)
    refine s_q rfl rfl (y_move rfl (ev_tmp rfl rfl)) ?_
    refine s_q rfl rfl (y_extract rfl (ev_tmp rfl rfl) rfl) ?_
    refine s_q rfl rfl (y_extract rfl (ev_tmp rfl rfl) rfl) ?_
    refine l_alloc (cs := #[(Value.int .i64 0), (Value.int .i64 0)]) hI rfl rfl rfl zero_25 rfl ?_
    clear hI; intro b4 c7 w9 hI
    refine l_store (new := [(Value.int .i64 r4.1.N), (Value.int .i64 r4.1.D)]) (cs' := #[(Value.int .i64 r4.1.N), (Value.int .i64 r4.1.D)]) hI .z rfl rfl rfl (ev_tmp rfl rfl) (ev_tmp rfl rfl) rfl size_25 rfl rfl rfl ?_
    clear hI; intro c8 w10 hI
    refine s_q rfl rfl (y_assign rfl (ev_tmp rfl rfl)) ?_
    refine s_nil ?_
    refine k_next (e := [(2, (Value.pointer (some ⟨b1, 0, none⟩))), (3, (Value.pointer (some ⟨b2, 0, none⟩))), (6, (Value.pointer (some ⟨b4, 0, none⟩))), (7, (Value.int .i64 r4.2))]) ⟨rfl, rfl, rfl, rfl, trivial⟩ ?_
    refine c_seq ?_
    refine c_seq ?_
    refine c_region rfl ?_
    refine s_q rfl rfl (y_move rfl (ev_tmp rfl rfl)) ?_
    refine s_q rfl rfl (y_neq rfl (ev_tmp rfl rfl) ev_const) ?_
    refine s_nil ?_
    refine k_next (e := [(2, (Value.pointer (some ⟨b1, 0, none⟩))), (3, (Value.pointer (some ⟨b2, 0, none⟩))), (6, (Value.pointer (some ⟨b4, 0, none⟩))), (35, (Value.bool (!decide (r4.2 = 0))))]) ⟨rfl, rfl, rfl, rfl, trivial⟩ ?_
    refine c_cond (b := !decide (r4.2 = 0)) (ev_tmp rfl rfl) (fun hb => ?_) (fun hb => ?_)
    · replace h := ite_t hb h
      refine c_seq ?_
      refine c_region rfl ?_
      refine s_q rfl rfl (y_assign rfl ev_const) ?_
      refine s_nil ?_
      refine k_next (e := [(4, (Value.bool false))]) ⟨rfl, trivial⟩ ?_
      refine c_ret ?_
      obtain rfl := some_inj h
      exact q_ret (vs := [(Value.bool false)]) Tryd.results7 ⟨ev_tmp rfl rfl, trivial⟩ ⟨rfl, hI.ext0, hI.fin trivial⟩
    · replace h := ite_f hb h
      refine c_skip ?_
      refine k_next (e := [(2, (Value.pointer (some ⟨b1, 0, none⟩))), (3, (Value.pointer (some ⟨b2, 0, none⟩))), (6, (Value.pointer (some ⟨b4, 0, none⟩)))]) ⟨rfl, rfl, rfl, trivial⟩ ?_
      refine c_seq ?_
      refine c_drawX [] false [(0, true), (1, true), (2, true), (3, true), (4, true), (5, true), (6, true), (7, true), (8, true), (9, true), (10, true), (11, true), (12, true)] hI (by kernel_rfl) (by kernel_rfl) ?_
      clear hI; intro w11 hI
      refine a_q rfl rfl rfl (fun w' => (y_fieldAddr rfl (ev_tmp rfl rfl) Tryd.underlying23 rfl size_3 rfl)) ?_
      refine a_read rfl rfl rfl (fun w' hw' => (y_load1 (v := (Value.int .i64 t1.Bits)) rfl (ev_tmp rfl rfl) Tryd.underlying3 rfl ((hI.kblk (l := [(Value.int .i64 t1.Bits)]) (.s .z) rfl).at_ (SX.any rfl hw')))) (by kernel_rfl) ?_
      refine a_q rfl rfl rfl (fun w' => (y_sub rfl (ev_tmp rfl rfl) ev_const)) ?_
      refine a_q rfl rfl rfl (fun w' => (y_conv rfl (by rw [Tryd.underlying3]; rfl) Tryd.underlying43 (ev_tmp rfl rfl))) ?_
      obtain ⟨ho1, h⟩ := chk_some h
      refine a_q rfl rfl rfl (fun w' => (y_shl rfl ev_const (ev_tmp rfl rfl) ho1)) ?_
      refine a_q rfl rfl rfl (fun w' => (y_fieldAddr rfl (ev_tmp rfl rfl) Tryd.underlying23 rfl size_3 rfl)) ?_
      refine a_read rfl rfl rfl (fun w' hw' => (y_load1 (v := (Value.int .i64 t1.Bits)) rfl (ev_tmp rfl rfl) Tryd.underlying3 rfl ((hI.kblk (l := [(Value.int .i64 t1.Bits)]) (.s .z) rfl).at_ (SX.any rfl hw')))) (by kernel_rfl) ?_
      refine a_q rfl rfl rfl (fun w' => (y_sub rfl (ev_tmp rfl rfl) ev_const)) ?_
      refine a_q rfl rfl rfl (fun w' => (y_conv rfl (by rw [Tryd.underlying3]; rfl) Tryd.underlying43 (ev_tmp rfl rfl))) ?_
      refine a_q rfl rfl rfl (fun w' => (y_shl rfl ev_const (ev_tmp rfl rfl) ho1)) ?_
      refine a_q rfl rfl rfl (fun w' => (y_sub rfl (ev_tmp rfl rfl) ev_const)) ?_
      refine a_q rfl rfl rfl (fun w' => (y_assign rfl (ev_tmp rfl rfl))) ?_
      refine a_q rfl rfl rfl (fun w' => (y_assign rfl (ev_tmp rfl rfl))) ?_
      refine a_nil ?_
      refine k_next (e := [(2, (Value.pointer (some ⟨b1, 0, none⟩))), (3, (Value.pointer (some ⟨b2, 0, none⟩))), (6, (Value.pointer (some ⟨b4, 0, none⟩))), (8, (Value.int .i64 (wi64 ((-1) * 2 ^ (min (Int.toNat (wu64 (wi64 (t1.Bits - 1)))) 64))))), (9, (Value.int .i64 (wi64 ((wi64 (1 * 2 ^ (min (Int.toNat (wu64 (wi64 (t1.Bits - 1)))) 64))) - 1))))]) ⟨rfl, rfl, rfl, rfl, rfl, trivial⟩ ?_
      refine c_seq ?_
      refine c_seq ?_
      refine c_region rfl ?_
      refine s_q rfl rfl (y_fieldAddr rfl (ev_tmp rfl rfl) Tryd.underlying25 rfl size_2 rfl) ?_
      refine s_q rfl rfl (y_load1 (v := (Value.int .i64 r4.1.N)) rfl (ev_tmp rfl rfl) Tryd.underlying2 rfl (CellsAt.of_blk (hI.blk .z) rfl)) ?_
      refine s_q rfl rfl (y_move rfl (ev_tmp rfl rfl)) ?_
      refine s_q rfl rfl (y_eql rfl (ev_tmp rfl rfl) (ev_tmp rfl rfl)) ?_
      refine s_q rfl rfl (y_move rfl (ev_tmp rfl rfl)) ?_
      refine s_gval (g_false rfl rfl rfl rfl) rfl (fun hc => (y_fieldAddr rfl (ev_tmp rfl rfl) Tryd.underlying25 rfl size_2 rfl)) ?_
      refine s_gval (g_false rfl rfl rfl rfl) rfl (fun hc => (y_load1 (v := (Value.int .i64 r4.1.N)) rfl (ev_gv (ev_tmp rfl rfl) hc) Tryd.underlying2 rfl (CellsAt.of_blk (hI.blk .z) rfl))) ?_
      refine s_gval (g_false rfl rfl rfl rfl) rfl (fun hc => (y_move rfl (ev_tmp rfl rfl))) ?_
      refine s_gval (g_false rfl rfl rfl rfl) rfl (fun hc => (y_eql rfl (ev_gv (ev_tmp rfl rfl) hc) (ev_gv (ev_tmp rfl rfl) hc))) ?_
      refine s_q rfl rfl (y_or rfl (ev_tmp rfl rfl) (ev_tmp rfl rfl)) ?_
      refine s_q rfl rfl (y_move rfl (ev_tmp rfl rfl)) ?_
      refine s_gval (g_false rfl rfl rfl rfl) rfl (fun hc => (y_fieldAddr rfl (ev_tmp rfl rfl) Tryd.underlying25 rfl size_2 rfl)) ?_
      refine s_gval (g_false rfl rfl rfl rfl) rfl (fun hc => (y_load1 (v := (Value.int .i64 v1.N)) rfl (ev_gv (ev_tmp rfl rfl) hc) Tryd.underlying2 rfl (hI.kblk (l := [(Value.int .i64 v1.N)]) .z rfl).1)) ?_
      refine s_gval (g_false rfl rfl rfl rfl) rfl (fun hc => (y_fieldAddr rfl (ev_tmp rfl rfl) Tryd.underlying23 rfl size_3 rfl)) ?_
      refine s_gval (g_false rfl rfl rfl rfl) rfl (fun hc => (y_load1 (v := (Value.int .i64 t1.Frac)) rfl (ev_gv (ev_tmp rfl rfl) hc) Tryd.underlying3 rfl (hI.kblk (l := [(Value.int .i64 t1.Frac)]) (.s .z) rfl).1)) ?_
      refine s_gval (g_false rfl rfl rfl rfl) rfl (fun hc => (y_conv rfl (by rw [Tryd.underlying3]; rfl) Tryd.underlying43 (ev_gv (ev_tmp rfl rfl) hc))) ?_
      obtain ⟨ho2, h⟩ := chk_some h
      refine s_gval (g_false rfl rfl rfl rfl) rfl (fun hc => (y_shr rfl ev_const (ev_gv (ev_tmp rfl rfl) hc) (ho2 hc))) ?_
      refine s_gval (g_false rfl rfl rfl rfl) rfl (fun hc => (y_gtr rfl (ev_gv (ev_tmp rfl rfl) hc) (ev_gv (ev_tmp rfl rfl) hc))) ?_
      refine s_q rfl rfl (y_or rfl (ev_tmp rfl rfl) (ev_tmp rfl rfl)) ?_
      refine s_q rfl rfl (y_move rfl (ev_tmp rfl rfl)) ?_
      refine s_gval (g_false rfl rfl rfl rfl) rfl (fun hc => (y_fieldAddr rfl (ev_tmp rfl rfl) Tryd.underlying25 rfl size_2 rfl)) ?_
      refine s_gval (g_false rfl rfl rfl rfl) rfl (fun hc => (y_load1 (v := (Value.int .i64 v1.N)) rfl (ev_gv (ev_tmp rfl rfl) hc) Tryd.underlying2 rfl (hI.kblk (l := [(Value.int .i64 v1.N)]) .z rfl).1)) ?_
      refine s_gval (g_false rfl rfl rfl rfl) rfl (fun hc => (y_fieldAddr rfl (ev_tmp rfl rfl) Tryd.underlying23 rfl size_3 rfl)) ?_
      refine s_gval (g_false rfl rfl rfl rfl) rfl (fun hc => (y_load1 (v := (Value.int .i64 t1.Frac)) rfl (ev_gv (ev_tmp rfl rfl) hc) Tryd.underlying3 rfl (hI.kblk (l := [(Value.int .i64 t1.Frac)]) (.s .z) rfl).1)) ?_
      refine s_gval (g_false rfl rfl rfl rfl) rfl (fun hc => (y_conv rfl (by rw [Tryd.underlying3]; rfl) Tryd.underlying43 (ev_gv (ev_tmp rfl rfl) hc))) ?_
      obtain ⟨ho3, h⟩ := chk_some h
      refine s_gval (g_false rfl rfl rfl rfl) rfl (fun hc => (y_shr rfl ev_const (ev_gv (ev_tmp rfl rfl) hc) (ho3 hc))) ?_
      refine s_gval (g_false rfl rfl rfl rfl) rfl (fun hc => (y_neg rfl (ev_gv (ev_tmp rfl rfl) hc))) ?_
      refine s_gval (g_false rfl rfl rfl rfl) rfl (fun hc => (y_lss rfl (ev_gv (ev_tmp rfl rfl) hc) (ev_gv (ev_tmp rfl rfl) hc))) ?_
      refine s_q rfl rfl (y_or rfl (ev_tmp rfl rfl) (ev_tmp rfl rfl)) ?_
      refine s_nil ?_
      refine k_next (e := [(2, (Value.pointer (some ⟨b1, 0, none⟩))), (3, (Value.pointer (some ⟨b2, 0, none⟩))), (6, (Value.pointer (some ⟨b4, 0, none⟩))), (8, (Value.int .i64 (wi64 ((-1) * 2 ^ (min (Int.toNat (wu64 (wi64 (t1.Bits - 1)))) 64))))), (9, (Value.int .i64 (wi64 ((wi64 (1 * 2 ^ (min (Int.toNat (wu64 (wi64 (t1.Bits - 1)))) 64))) - 1)))), (75, (Value.bool ((((decide (r4.1.N = wi64 ((-1) * 2 ^ (min (Int.toNat (wu64 (wi64 (t1.Bits - 1)))) 64)))) || (decide (r4.1.N = wi64 ((wi64 (1 * 2 ^ (min (Int.toNat (wu64 (wi64 (t1.Bits - 1)))) 64))) - 1)))) || (decide (Int.fdiv 2147483647 (2 ^ (min (Int.toNat (wu64 t1.Frac)) 64)) < v1.N))) || (decide (v1.N < wi64 (-(Int.fdiv 2147483647 (2 ^ (min (Int.toNat (wu64 t1.Frac)) 64)))))))))]) ⟨rfl, rfl, rfl, rfl, rfl, rfl, trivial⟩ ?_
      refine c_cond (b := (((decide (r4.1.N = wi64 ((-1) * 2 ^ (min (Int.toNat (wu64 (wi64 (t1.Bits - 1)))) 64)))) || (decide (r4.1.N = wi64 ((wi64 (1 * 2 ^ (min (Int.toNat (wu64 (wi64 (t1.Bits - 1)))) 64))) - 1)))) || (decide (Int.fdiv 2147483647 (2 ^ (min (Int.toNat (wu64 t1.Frac)) 64)) < v1.N))) || (decide (v1.N < wi64 (-(Int.fdiv 2147483647 (2 ^ (min (Int.toNat (wu64 t1.Frac)) 64))))))) (ev_tmp rfl rfl) (fun hb => ?_) (fun hb => ?_)
      · replace h := ite_t hb h
        refine c_seq ?_
        refine c_region rfl ?_
        obtain ⟨r5, hx9, h⟩ := bnd_some h
        refine s_call rfl rfl (r_callF (vs := []) rfl ok_16 trivial) (Calls.mono (c_law04_examples (Dj F c8) w11 hI.lt (hI.facts ⟨(.s (.s .z)), trivial⟩) r5 hx9) ?_)
        rintro _ w12 ⟨rfl, hx10, hl5⟩
        refine ⟨_, rfl, ?_⟩
        replace hI := (hI.ext hx10)
        refine s_q rfl rfl (y_assign rfl (ev_tmp rfl rfl)) ?_
        refine s_nil ?_
        refine k_next (e := [(4, (Value.bool r5))]) ⟨rfl, trivial⟩ ?_
        refine c_ret ?_
        obtain rfl := some_inj h
        exact q_ret (vs := [(Value.bool r5)]) Tryd.results7 ⟨ev_tmp rfl rfl, trivial⟩ ⟨rfl, hI.ext0, hI.fin trivial⟩
      · replace h := ite_f hb h
        refine c_skip ?_
        refine k_next (e := [(2, (Value.pointer (some ⟨b1, 0, none⟩))), (3, (Value.pointer (some ⟨b2, 0, none⟩))), (6, (Value.pointer (some ⟨b4, 0, none⟩))), (8, (Value.int .i64 (wi64 ((-1) * 2 ^ (min (Int.toNat (wu64 (wi64 (t1.Bits - 1)))) 64))))), (9, (Value.int .i64 (wi64 ((wi64 (1 * 2 ^ (min (Int.toNat (wu64 (wi64 (t1.Bits - 1)))) 64))) - 1))))]) ⟨rfl, rfl, rfl, rfl, rfl, trivial⟩ ?_
        refine c_seq ?_
        refine c_region rfl ?_
        refine s_q rfl rfl (y_fieldAddr rfl (ev_tmp rfl rfl) Tryd.underlying25 rfl size_2 rfl) ?_
        refine s_q rfl rfl (y_load1 (v := (Value.int .i64 v1.N)) rfl (ev_tmp rfl rfl) Tryd.underlying2 rfl (hI.kblk (l := [(Value.int .i64 v1.N)]) .z rfl).1) ?_
        refine s_q rfl rfl (y_fieldAddr rfl (ev_tmp rfl rfl) Tryd.underlying23 rfl size_3 rfl) ?_
        refine s_q rfl rfl (y_load1 (v := (Value.int .i64 t1.Frac)) rfl (ev_tmp rfl rfl) Tryd.underlying3 rfl (hI.kblk (l := [(Value.int .i64 t1.Frac)]) (.s .z) rfl).1) ?_
        refine s_q rfl rfl (y_conv rfl (by rw [Tryd.underlying3]; rfl) Tryd.underlying43 (ev_tmp rfl rfl)) ?_
        obtain ⟨ho4, h⟩ := chk_some h
        refine s_q rfl rfl (y_shl rfl (ev_tmp rfl rfl) (ev_tmp rfl rfl) ho4) ?_
        obtain ⟨at1, hx11, h⟩ := bnd_some h
        refine s_q rfl rfl (binU (y_assign rfl (ev_tmp rfl rfl)) (congrArg (Value.int .i64) (some_inj hx11))) ?_
        refine s_nil ?_
        refine k_next (e := [(2, (Value.pointer (some ⟨b1, 0, none⟩))), (3, (Value.pointer (some ⟨b2, 0, none⟩))), (6, (Value.pointer (some ⟨b4, 0, none⟩))), (8, (Value.int .i64 (wi64 ((-1) * 2 ^ (min (Int.toNat (wu64 (wi64 (t1.Bits - 1)))) 64))))), (9, (Value.int .i64 (wi64 ((wi64 (1 * 2 ^ (min (Int.toNat (wu64 (wi64 (t1.Bits - 1)))) 64))) - 1)))), (10, (Value.int .i64 at1))]) ⟨rfl, rfl, rfl, rfl, rfl, rfl, trivial⟩ ?_
        refine c_seq ?_
        refine c_seq ?_
        refine c_drawX [] false [(0, true), (1, true), (2, true), (3, true), (4, true), (5, true), (6, true), (7, true), (8, true), (9, true), (10, true), (12, true), (13, true), (14, true), (15, true), (16, true), (11, false), (17, true), (18, true), (19, true), (20, true), (22, true), (23, true), (24, true), (25, true), (26, true), (21, false), (27, true), (28, true), (29, true)] hI (by kernel_rfl) (by kernel_rfl) ?_
        clear hI; intro w13 hI
        refine a_q rfl rfl rfl (fun w' => (y_fieldAddr rfl (ev_tmp rfl rfl) Tryd.underlying23 rfl size_3 rfl)) ?_
        refine a_read rfl rfl rfl (fun w' hw' => (y_load1 (v := (Value.int .i64 t1.Over)) rfl (ev_tmp rfl rfl) Tryd.underlying3 rfl ((hI.kblk (l := [(Value.int .i64 t1.Over)]) (.s .z) rfl).at_ (SX.any rfl hw')))) (by kernel_rfl) ?_
        refine a_q rfl rfl rfl (fun w' => (y_eql rfl (ev_tmp rfl rfl) ev_const)) ?_
        refine a_q rfl rfl rfl (fun w' => (y_move rfl (ev_tmp rfl rfl))) ?_
        refine a_gval rfl (g_true rfl rfl rfl rfl) rfl (fun hc => fun w' => (y_fieldAddr rfl (ev_tmp rfl rfl) Tryd.underlying23 rfl size_3 rfl)) ?_
        refine a_gread rfl (g_true rfl rfl rfl rfl) rfl (fun hc => fun w' hw' => (y_load1 (v := (Value.int .i64 t1.Frac)) rfl (ev_gv (ev_tmp rfl rfl) hc) Tryd.underlying3 rfl ((hI.kblk (l := [(Value.int .i64 t1.Frac)]) (.s .z) rfl).at_ (SX.any rfl hw')))) (by kernel_rfl) ?_
        refine a_gval rfl (g_true rfl rfl rfl rfl) rfl (fun hc => fun w' => (y_fieldAddr rfl (ev_tmp rfl rfl) Tryd.underlying23 rfl size_3 rfl)) ?_
        refine a_gread rfl (g_true rfl rfl rfl rfl) rfl (fun hc => fun w' hw' => (y_load1 (v := (Value.int .i64 t1.Bits)) rfl (ev_gv (ev_tmp rfl rfl) hc) Tryd.underlying3 rfl ((hI.kblk (l := [(Value.int .i64 t1.Bits)]) (.s .z) rfl).at_ (SX.any rfl hw')))) (by kernel_rfl) ?_
        refine a_gval rfl (g_true rfl rfl rfl rfl) rfl (fun hc => fun w' => (y_geq rfl (ev_gv (ev_tmp rfl rfl) hc) (ev_gv (ev_tmp rfl rfl) hc))) ?_
        refine a_gval rfl (g_true rfl rfl rfl rfl) rfl (fun hc => fun w' => (y_move rfl (ev_gv (ev_tmp rfl rfl) hc))) ?_
        refine a_gread rfl (g_false2 rfl rfl rfl rfl) rfl (fun hc => fun w' hw' => (y_loadN (l := [(Value.int .i64 v1.N), (Value.int .i64 v1.D)]) rfl (ev_tmp rfl rfl) Tryd.underlying25 rfl size_25 ((hI.kblk (l := [(Value.int .i64 v1.N), (Value.int .i64 v1.D)]) .z rfl).at_ (SX.any rfl hw')))) (by kernel_rfl) ?_
        refine a_gval rfl (g_false2 rfl rfl rfl rfl) rfl (fun hc => fun w' => (y_move rfl (ev_tmp rfl rfl))) ?_
        refine a_gval rfl (g_false2 rfl rfl rfl rfl) rfl (fun hc => fun w' => (y_fieldAddr rfl (ev_tmp rfl rfl) Tryd.underlying23 rfl size_3 rfl)) ?_
        refine a_gread rfl (g_false2 rfl rfl rfl rfl) rfl (fun hc => fun w' hw' => (y_load1 (v := (Value.int .i64 t1.Frac)) rfl (ev_gv (ev_tmp rfl rfl) hc) Tryd.underlying3 rfl ((hI.kblk (l := [(Value.int .i64 t1.Frac)]) (.s .z) rfl).at_ (SX.any rfl hw')))) (by kernel_rfl) ?_
        refine a_gval rfl (g_false2 rfl rfl rfl rfl) rfl (fun hc => fun w' => (y_conv rfl (by rw [Tryd.underlying3]; rfl) Tryd.underlying43 (ev_gv (ev_tmp rfl rfl) hc))) ?_
        refine a_gval rfl (g_false2 rfl rfl rfl rfl) rfl (fun hc => fun w' => (y_shr rfl (ev_gv (ev_tmp rfl rfl) hc) (ev_gv (ev_tmp rfl rfl) hc) ((fun _ => ho4) hc))) ?_
        obtain ⟨r6, hx12, h⟩ := bnd_some h
        replace hx12 := gd_some hx12
        refine la_gcallU (v := (Value.int .i64 r6)) rfl (g_false2 rfl rfl rfl rfl) rfl (fun hc => (r_callF (vs := [(Value.agg #[(Value.int .i64 v1.N), (Value.int .i64 v1.D)])]) rfl ok_25 ⟨(ev_gv (ev_tmp rfl rfl) hc), trivial⟩)) (fun hc => (c_frac_Floor (Dj F c8) w13 hI.lt v1 (hI.facts trivial) r6 (hx12 hc)).mono fun _ _ k => ⟨k.1, k.2.1⟩) ?_
        intro w14 hx13; replace hI := hI.ext hx13
        refine a_gval rfl (g_false2 rfl rfl rfl rfl) rfl (fun hc => fun w' => (y_lss rfl (ev_gv (ev_tmp rfl rfl) hc) (ev_gv (ev_tmp rfl rfl) hc))) ?_
        refine a_gval rfl (g_true rfl rfl rfl rfl) rfl (fun hc => fun w' => (y_or2 rfl hc (ev_tmp rfl rfl) (ev_tmp rfl rfl))) ?_
        refine a_gval rfl (g_true rfl rfl rfl rfl) rfl (fun hc => fun w' => (y_move rfl (ev_gv (ev_tmp rfl rfl) hc))) ?_
        refine a_gread rfl (g_false2 rfl rfl rfl rfl) rfl (fun hc => fun w' hw' => (y_loadN (l := [(Value.int .i64 v1.N), (Value.int .i64 v1.D)]) rfl (ev_tmp rfl rfl) Tryd.underlying25 rfl size_25 ((hI.kblk (l := [(Value.int .i64 v1.N), (Value.int .i64 v1.D)]) .z rfl).at_ (SX.any rfl hw')))) (by kernel_rfl) ?_
        refine a_gval rfl (g_false2 rfl rfl rfl rfl) rfl (fun hc => fun w' => (y_move rfl (ev_tmp rfl rfl))) ?_
        refine a_gval rfl (g_false2 rfl rfl rfl rfl) rfl (fun hc => fun w' => (y_fieldAddr rfl (ev_tmp rfl rfl) Tryd.underlying23 rfl size_3 rfl)) ?_
        refine a_gread rfl (g_false2 rfl rfl rfl rfl) rfl (fun hc => fun w' hw' => (y_load1 (v := (Value.int .i64 t1.Frac)) rfl (ev_gv (ev_tmp rfl rfl) hc) Tryd.underlying3 rfl ((hI.kblk (l := [(Value.int .i64 t1.Frac)]) (.s .z) rfl).at_ (SX.any rfl hw')))) (by kernel_rfl) ?_
        refine a_gval rfl (g_false2 rfl rfl rfl rfl) rfl (fun hc => fun w' => (y_conv rfl (by rw [Tryd.underlying3]; rfl) Tryd.underlying43 (ev_gv (ev_tmp rfl rfl) hc))) ?_
        refine a_gval rfl (g_false2 rfl rfl rfl rfl) rfl (fun hc => fun w' => (y_shr rfl (ev_gv (ev_tmp rfl rfl) hc) (ev_gv (ev_tmp rfl rfl) hc) ((fun _ => ho4) hc))) ?_
        obtain ⟨r7, hx14, h⟩ := bnd_some h
        replace hx14 := gd_some hx14
        refine la_gcallU (v := (Value.int .i64 r7)) rfl (g_false2 rfl rfl rfl rfl) rfl (fun hc => (r_callF (vs := [(Value.agg #[(Value.int .i64 v1.N), (Value.int .i64 v1.D)])]) rfl ok_26 ⟨(ev_gv (ev_tmp rfl rfl) hc), trivial⟩)) (fun hc => (c_frac_Ceil (Dj F c8) w14 hI.lt v1 (hI.facts trivial) r7 (hx14 hc)).mono fun _ _ k => ⟨k.1, k.2.1⟩) ?_
        intro w15 hx15; replace hI := hI.ext hx15
        refine a_gval rfl (g_false2 rfl rfl rfl rfl) rfl (fun hc => fun w' => (y_gtr rfl (ev_gv (ev_tmp rfl rfl) hc) (ev_gv (ev_tmp rfl rfl) hc))) ?_
        refine a_gval rfl (g_true rfl rfl rfl rfl) rfl (fun hc => fun w' => (y_or2 rfl hc (ev_tmp rfl rfl) (ev_tmp rfl rfl))) ?_
        refine a_q rfl rfl rfl (fun w' => (y_and rfl (ev_tmp rfl rfl) (ev_tmp rfl rfl))) ?_
        refine a_nil ?_
        refine k_next (e := [(3, (Value.pointer (some ⟨b2, 0, none⟩))), (6, (Value.pointer (some ⟨b4, 0, none⟩))), (10, (Value.int .i64 at1)), (112, (Value.bool ((decide (t1.Over = 2)) && (((decide (t1.Bits ≤ t1.Frac)) || (decide (r6 < Int.fdiv (wi64 ((-1) * 2 ^ (min (Int.toNat (wu64 (wi64 (t1.Bits - 1)))) 64))) (2 ^ (min (Int.toNat (wu64 t1.Frac)) 64))))) || (decide (Int.fdiv (wi64 ((wi64 (1 * 2 ^ (min (Int.toNat (wu64 (wi64 (t1.Bits - 1)))) 64))) - 1)) (2 ^ (min (Int.toNat (wu64 t1.Frac)) 64)) < r7))))))]) ⟨rfl, rfl, rfl, rfl, trivial⟩ ?_
        refine c_cond (b := (decide (t1.Over = 2)) && (((decide (t1.Bits ≤ t1.Frac)) || (decide (r6 < Int.fdiv (wi64 ((-1) * 2 ^ (min (Int.toNat (wu64 (wi64 (t1.Bits - 1)))) 64))) (2 ^ (min (Int.toNat (wu64 t1.Frac)) 64))))) || (decide (Int.fdiv (wi64 ((wi64 (1 * 2 ^ (min (Int.toNat (wu64 (wi64 (t1.Bits - 1)))) 64))) - 1)) (2 ^ (min (Int.toNat (wu64 t1.Frac)) 64)) < r7)))) (ev_tmp rfl rfl) (fun hb => ?_) (fun hb => ?_)
        · replace h := ite_t hb h
          refine c_seq ?_
          refine c_region rfl ?_
          obtain ⟨r8, hx16, h⟩ := bnd_some h
          refine s_call rfl rfl (r_callF (vs := []) rfl ok_16 trivial) (Calls.mono (c_law04_examples (Dj F c8) w15 hI.lt (hI.facts ⟨(.s (.s .z)), trivial⟩) r8 hx16) ?_)
          rintro _ w16 ⟨rfl, hx17, hl8⟩
          refine ⟨_, rfl, ?_⟩
          replace hI := (hI.ext hx17)
          refine s_q rfl rfl (y_assign rfl (ev_tmp rfl rfl)) ?_
          refine s_nil ?_
          refine k_next (e := [(4, (Value.bool r8))]) ⟨rfl, trivial⟩ ?_
          refine c_ret ?_
          obtain rfl := some_inj h
          exact q_ret (vs := [(Value.bool r8)]) Tryd.results7 ⟨ev_tmp rfl rfl, trivial⟩ ⟨rfl, hI.ext0, hI.fin trivial⟩
        · replace h := ite_f hb h
          refine c_skip ?_
          refine k_next (e := [(3, (Value.pointer (some ⟨b2, 0, none⟩))), (6, (Value.pointer (some ⟨b4, 0, none⟩))), (10, (Value.int .i64 at1))]) ⟨rfl, rfl, rfl, trivial⟩ ?_
          refine c_seq ?_
          refine c_region rfl ?_
          refine s_q rfl rfl (y_fieldAddr rfl (ev_tmp rfl rfl) Tryd.underlying25 rfl size_2 rfl) ?_
          refine s_q rfl rfl (y_load1 (v := (Value.int .i64 r4.1.N)) rfl (ev_tmp rfl rfl) Tryd.underlying2 rfl (CellsAt.of_blk (hI.blk .z) rfl)) ?_
          refine s_q rfl rfl (y_sub rfl (ev_tmp rfl rfl) ev_const) ?_
          refine s_q rfl rfl (y_fieldAddr rfl (ev_tmp rfl rfl) Tryd.underlying25 rfl size_2 rfl) ?_
          refine s_q rfl rfl (y_load1 (v := (Value.int .i64 v1.D)) rfl (ev_tmp rfl rfl) Tryd.underlying2 rfl (hI.kblk (l := [(Value.int .i64 v1.D)]) .z rfl).1) ?_
          refine s_q rfl rfl (y_mul rfl (ev_tmp rfl rfl) (ev_tmp rfl rfl)) ?_
          refine s_q rfl rfl (y_move rfl (ev_tmp rfl rfl)) ?_
          refine s_q rfl rfl (y_lss rfl (ev_tmp rfl rfl) (ev_tmp rfl rfl)) ?_
          refine s_q rfl rfl (y_move rfl (ev_tmp rfl rfl)) ?_
          refine s_gval (g_true rfl rfl rfl rfl) rfl (fun hc => (y_move rfl (ev_tmp rfl rfl))) ?_
          refine s_gval (g_true rfl rfl rfl rfl) rfl (fun hc => (y_fieldAddr rfl (ev_tmp rfl rfl) Tryd.underlying25 rfl size_2 rfl)) ?_
          refine s_gval (g_true rfl rfl rfl rfl) rfl (fun hc => (y_load1 (v := (Value.int .i64 r4.1.N)) rfl (ev_gv (ev_tmp rfl rfl) hc) Tryd.underlying2 rfl (CellsAt.of_blk (hI.blk .z) rfl))) ?_
          refine s_gval (g_true rfl rfl rfl rfl) rfl (fun hc => (y_add rfl (ev_gv (ev_tmp rfl rfl) hc) ev_const)) ?_
          refine s_gval (g_true rfl rfl rfl rfl) rfl (fun hc => (y_fieldAddr rfl (ev_tmp rfl rfl) Tryd.underlying25 rfl size_2 rfl)) ?_
          refine s_gval (g_true rfl rfl rfl rfl) rfl (fun hc => (y_load1 (v := (Value.int .i64 v1.D)) rfl (ev_gv (ev_tmp rfl rfl) hc) Tryd.underlying2 rfl (hI.kblk (l := [(Value.int .i64 v1.D)]) .z rfl).1)) ?_
          refine s_gval (g_true rfl rfl rfl rfl) rfl (fun hc => (y_mul rfl (ev_gv (ev_tmp rfl rfl) hc) (ev_gv (ev_tmp rfl rfl) hc))) ?_
          refine s_gval (g_true rfl rfl rfl rfl) rfl (fun hc => (y_lss rfl (ev_gv (ev_tmp rfl rfl) hc) (ev_gv (ev_tmp rfl rfl) hc))) ?_
          refine s_q rfl rfl (y_and rfl (ev_tmp rfl rfl) (ev_tmp rfl rfl)) ?_
          refine s_q rfl rfl (y_move rfl (ev_tmp rfl rfl)) ?_
          obtain ⟨r9, hx18, h⟩ := bnd_some h
          replace hx18 := gd_some hx18
          refine s_gcallU (v := (Value.bool r9)) (g_true rfl rfl rfl rfl) rfl (fun hc => (r_callF (vs := []) rfl ok_16 trivial)) (fun hc => (c_law04_examples (Dj F c8) w15 hI.lt (hI.facts ⟨(.s (.s .z)), trivial⟩) r9 (hx18 hc)).mono fun _ _ k => ⟨k.1, k.2.1⟩) ?_
          intro w17 hx19; replace hI := hI.ext hx19
          refine s_q rfl rfl (y_and rfl (ev_tmp rfl rfl) (ev_tmp rfl rfl)) ?_
          refine s_q rfl rfl (y_assign rfl (ev_tmp rfl rfl)) ?_
          refine s_nil ?_
          refine k_next (e := [(4, (Value.bool (((decide (wi64 ((wi64 (r4.1.N - 1)) * v1.D) < at1)) && (decide (at1 < wi64 ((wi64 (r4.1.N + 1)) * v1.D)))) && r9)))]) ⟨rfl, trivial⟩ ?_
          refine c_ret ?_
          obtain rfl := some_inj h
          exact q_ret (vs := [(Value.bool (((decide (wi64 ((wi64 (r4.1.N - 1)) * v1.D) < at1)) && (decide (at1 < wi64 ((wi64 (r4.1.N + 1)) * v1.D)))) && r9))]) Tryd.results7 ⟨ev_tmp rfl rfl, trivial⟩ ⟨rfl, hI.ext0, hI.fin trivial⟩

end Go.Proofs.YtpfapgamjlhebaaDoor
