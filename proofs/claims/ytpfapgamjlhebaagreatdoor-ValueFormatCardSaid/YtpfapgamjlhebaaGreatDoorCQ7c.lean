/- Each call returns what its plain function gives: printed by a program of my own; Lean checks it. -/
import Derived.Test.YtpfapgamjlhebaaGreatDoorCQ7b
namespace Go.Proofs.YtpfapgamjlhebaaGreatDoor
open Go Go.RowKit Go.Vc
set_option linter.unusedVariables false
set_option linter.unusedSimpArgs false

set_option maxRecDepth 100000 in
set_option maxHeartbeats 4000000 in
theorem c_ref01_Valid (F : NP) (w0 : World) (hF : ∀ k, F k → k < w0.heap.size) (v1 : GVal) (hc : AllCl [] F w0) (r : Bool)
    (h : m_ref01_Valid v1 = some r) :
    Calls Tryz.prog 69 #[(Value.agg #[(Value.int .i64 v1.N), (Value.int .i64 v1.D)])] w0 fun e w => e = .returned (Value.bool r) ∧ Ext w0 w ∧ AllCl [] F w := by
  refine ofEnter (R := fun v w => v = (Value.bool r) ∧ Ext w0 w ∧ AllCl [] F w) (enter (l := [(Value.agg #[(Value.int .i64 v1.N), (Value.int .i64 v1.D)])]) Tryz.func69 rfl Tryz.ntmps69 rfl ?_) ?_
  rotate_left
  · rintro _ w ⟨rfl, k1, k2⟩; exact ⟨rfl, k1, k2⟩
  have hI := Bun.start hF hc
  clear hc
  rw [m_ref01_Valid] at h
  refine c_seq ?_
  refine c_region rfl ?_
  refine l_box (v := (Value.agg #[(Value.int .i64 v1.N), (Value.int .i64 v1.D)])) (cs := #[(Value.int .i64 v1.N), (Value.int .i64 v1.D)]) hI rfl rfl rfl (ev_tmp rfl rfl) rfl ?_
  clear hI; intro b1 c1 w1 hI
  obtain ⟨c2, hI⟩ := hI.relBox .z
  refine s_q rfl rfl (y_assign rfl ev_const) ?_
  refine s_nil ?_
  refine k_next (e := [(1, (Value.pointer (some ⟨b1, 0, none⟩)))]) ⟨rfl, trivial⟩ ?_
  refine c_seq ?_
  refine c_region rfl ?_
  refine s_q rfl rfl (y_build (vs := [(0, (Value.int .i64 1))]) (cs := #[(Value.int .i64 1), (Value.int .i64 0), (Value.int .i64 0), (Value.int .i64 0), (Value.int .i64 0)]) rfl ⟨rfl, ev_const, trivial⟩ (by kernel_rfl)) ?_
  refine s_q rfl rfl (y_loadN (l := [(Value.int .i64 v1.N), (Value.int .i64 v1.D)]) rfl (ev_tmp rfl rfl) Tryz.underlying27 rfl size_27 (hI.kblk (l := [(Value.int .i64 v1.N), (Value.int .i64 v1.D)]) .z rfl).1) ?_
  obtain ⟨r1, hx1, h⟩ := bnd_some h
  refine s_call rfl rfl (r_callF (vs := [(Value.agg #[(Value.int .i64 1), (Value.int .i64 0), (Value.int .i64 0), (Value.int .i64 0), (Value.int .i64 0)]), (Value.agg #[(Value.int .i64 v1.N), (Value.int .i64 v1.D)])]) rfl ok_24 ⟨(ev_tmp rfl rfl), ⟨(ev_tmp rfl rfl), trivial⟩⟩) (Calls.mono (c_base_Val (Dj F c2) w1 hI.lt (⟨1, 0, 0, 0, 0⟩ : GType) v1 trivial r1 hx1) ?_)
  rintro _ w2 ⟨rfl, hx2, hl1⟩
  refine ⟨_, rfl, ?_⟩
  replace hI := (hI.ext hx2)
  refine s_q rfl rfl (y_assign rfl (ev_tmp rfl rfl)) ?_
  refine s_nil ?_
  refine k_next (e := [(2, (Value.bool r1))]) ⟨rfl, trivial⟩ ?_
  refine c_ret ?_
  obtain rfl := some_inj h
  exact q_ret (vs := [(Value.bool r1)]) Tryz.results69 ⟨ev_tmp rfl rfl, trivial⟩ ⟨rfl, hI.ext0, hI.fin trivial⟩

set_option maxRecDepth 100000 in
set_option maxHeartbeats 4000000 in
theorem c_ref01_size (F : NP) (w0 : World) (hF : ∀ k, F k → k < w0.heap.size) (n1 : Int) (hc : AllCl [] F w0) (r : Int)
    (h : m_ref01_size n1 = some r) :
    Calls Tryz.prog 66 #[(Value.int .i64 n1)] w0 fun e w => e = .returned (Value.int .u64 r) ∧ Ext w0 w ∧ AllCl [] F w := by
  refine ofEnter (R := fun v w => v = (Value.int .u64 r) ∧ Ext w0 w ∧ AllCl [] F w) (enter (l := [(Value.int .i64 n1)]) Tryz.func66 rfl Tryz.ntmps66 rfl ?_) ?_
  rotate_left
  · rintro _ w ⟨rfl, k1, k2⟩; exact ⟨rfl, k1, k2⟩
  have hI := Bun.start hF hc
  clear hc
  rw [m_ref01_size] at h
  refine c_seq ?_
  refine c_region rfl ?_
  refine s_q rfl rfl (y_assign rfl ev_const) ?_
  refine s_nil ?_
  refine k_next (e := [(0, (Value.int .i64 n1))]) ⟨rfl, trivial⟩ ?_
  refine c_seq ?_
  refine c_seq ?_
  refine c_region rfl ?_
  refine s_q rfl rfl (y_move rfl (ev_tmp rfl rfl)) ?_
  refine s_q rfl rfl (y_lss rfl (ev_tmp rfl rfl) ev_const) ?_
  refine s_nil ?_
  refine k_next (e := [(0, (Value.int .i64 n1)), (4, (Value.bool (decide (n1 < 0))))]) ⟨rfl, rfl, trivial⟩ ?_
  refine c_cond (b := decide (n1 < 0)) (ev_tmp rfl rfl) (fun hb => ?_) (fun hb => ?_)
  · replace h := ite_t hb h
    refine c_seq ?_
    refine c_region rfl ?_
    refine s_q rfl rfl (y_move rfl (ev_tmp rfl rfl)) ?_
    refine s_q rfl rfl (y_add rfl (ev_tmp rfl rfl) ev_const) ?_
    refine s_q rfl rfl (y_neg rfl (ev_tmp rfl rfl)) ?_
    refine s_q rfl rfl (y_conv rfl (by rw [Tryz.underlying2]; rfl) Tryz.underlying74 (ev_tmp rfl rfl)) ?_
    refine s_q rfl rfl (y_add rfl (ev_tmp rfl rfl) ev_const) ?_
    refine s_q rfl rfl (y_assign rfl (ev_tmp rfl rfl)) ?_
    refine s_nil ?_
    refine k_next (e := [(2, (Value.int .u64 (wu64 ((wu64 (wi64 (-(wi64 (n1 + 1))))) + 1))))]) ⟨rfl, trivial⟩ ?_
    refine c_ret ?_
    obtain rfl := some_inj h
    exact q_ret (vs := [(Value.int .u64 (wu64 ((wu64 (wi64 (-(wi64 (n1 + 1))))) + 1)))]) Tryz.results66 ⟨ev_tmp rfl rfl, trivial⟩ ⟨rfl, hI.ext0, hI.fin trivial⟩
  · replace h := ite_f hb h
    refine c_skip ?_
    refine k_next (e := [(0, (Value.int .i64 n1))]) ⟨rfl, trivial⟩ ?_
    refine c_seq ?_
    refine c_region rfl ?_
    refine s_q rfl rfl (y_move rfl (ev_tmp rfl rfl)) ?_
    refine s_q rfl rfl (y_conv rfl (by rw [Tryz.underlying2]; rfl) Tryz.underlying74 (ev_tmp rfl rfl)) ?_
    refine s_q rfl rfl (y_assign rfl (ev_tmp rfl rfl)) ?_
    refine s_nil ?_
    refine k_next (e := [(2, (Value.int .u64 (wu64 n1)))]) ⟨rfl, trivial⟩ ?_
    refine c_ret ?_
    obtain rfl := some_inj h
    exact q_ret (vs := [(Value.int .u64 (wu64 n1))]) Tryz.results66 ⟨ev_tmp rfl rfl, trivial⟩ ⟨rfl, hI.ext0, hI.fin trivial⟩

set_option maxRecDepth 100000 in
set_option maxHeartbeats 4000000 in
theorem c_ref01_gcd (F : NP) (w0 : World) (hF : ∀ k, F k → k < w0.heap.size) (a1 : Int) (b1 : Int) (hc : AllCl [] F w0) (r : Int)
    (h : m_ref01_gcd a1 b1 = some r) :
    Calls Tryz.prog 65 #[(Value.int .u64 a1), (Value.int .u64 b1)] w0 fun e w => e = .returned (Value.int .u64 r) ∧ Ext w0 w ∧ AllCl [] F w := by
  refine ofEnter (R := fun v w => v = (Value.int .u64 r) ∧ Ext w0 w ∧ AllCl [] F w) (enter (l := [(Value.int .u64 a1), (Value.int .u64 b1)]) Tryz.func65 rfl Tryz.ntmps65 rfl ?_) ?_
  rotate_left
  · rintro _ w ⟨rfl, k1, k2⟩; exact ⟨rfl, k1, k2⟩
  have hI := Bun.start hF hc
  clear hc
  rw [m_ref01_gcd] at h
  refine c_seq ?_
  refine c_region rfl ?_
  refine s_q rfl rfl (y_assign rfl ev_const) ?_
  refine s_nil ?_
  refine k_next (e := [(0, (Value.int .u64 a1)), (1, (Value.int .u64 b1))]) ⟨rfl, rfl, trivial⟩ ?_
  refine c_seq ?_
  refine c_block ?_
  refine c_loop (α := Nat × Int × Int) (fun x => fun w => ∃ C, Bun noM F w0 C w [] [] ∧ m_ref01_gcd_l1 (x.1) (x.2.1) (x.2.2) = some r) (fun x _ => x.1) (fun x => [(0, (Value.int .u64 (x.2.1))), (1, (Value.int .u64 (x.2.2)))]) (fu, a1, b1) ⟨_, hI.arr .n trivial, h⟩ ⟨rfl, rfl, trivial⟩ ?_
  clear h hI; rintro ⟨fuel1, a2, b2⟩ w1 ⟨c1, hI, h⟩
  dsimp only at hI h
  rcases fuel1 with _ | fuel1
  · rw [m_ref01_gcd_l1] at h; cases h
  rw [m_ref01_gcd_l1] at h
  refine c_sub (e := [(0, (Value.int .u64 a2)), (1, (Value.int .u64 b2))]) ⟨rfl, rfl, trivial⟩ ?_
  refine c_seq ?_
  refine c_seq ?_
  refine c_region rfl ?_
  refine s_q rfl rfl (y_move rfl (ev_tmp rfl rfl)) ?_
  refine s_q rfl rfl (y_neq rfl (ev_tmp rfl rfl) ev_const) ?_
  refine s_nil ?_
  refine k_next (e := [(0, (Value.int .u64 a2)), (1, (Value.int .u64 b2)), (6, (Value.bool (!decide (b2 = 0))))]) ⟨rfl, rfl, rfl, trivial⟩ ?_
  refine c_cond (b := !decide (b2 = 0)) (ev_tmp rfl rfl) (fun hb => ?_) (fun hb => ?_)
  · replace h := ite_t hb h
    refine c_skip ?_
    refine k_next (e := [(0, (Value.int .u64 a2)), (1, (Value.int .u64 b2))]) ⟨rfl, rfl, trivial⟩ ?_
    refine c_block ?_
    refine c_drawX [] false (.c (0, .q) (.c (1, .q) (.c (2, .q) (.c (3, .q) (.c (4, .q) (.c (5, .q) .n)))))) hI (by kernel_rfl) (by kernel_rfl) ?_
    clear hI; intro w2 hI
    refine a_q rfl rfl rfl (fun w' => (y_move rfl (ev_tmp rfl rfl))) ?_
    refine a_q rfl rfl rfl (fun w' => (y_move rfl (ev_tmp rfl rfl))) ?_
    refine a_q rfl rfl rfl (fun w' => (y_move rfl (ev_tmp rfl rfl))) ?_
    obtain ⟨ho1, h⟩ := chk_some h
    refine a_q rfl rfl rfl (fun w' => (y_rem rfl (ev_tmp rfl rfl) (ev_tmp rfl rfl) ho1)) ?_
    refine a_q rfl rfl rfl (fun w' => (y_assign rfl (ev_tmp rfl rfl))) ?_
    refine a_q rfl rfl rfl (fun w' => (y_assign rfl (ev_tmp rfl rfl))) ?_
    refine a_nil ?_
    exact k_loop (fuel1, b2, Int.tmod a2 b2) ⟨rfl, rfl, trivial⟩ ⟨_, hI.arr .n trivial, h⟩ (Nat.lt_succ_self _)
  · replace h := ite_f hb h
    refine c_exit ?_
    refine k_in ?_
    refine k_next (e := [(0, (Value.int .u64 a2))]) ⟨rfl, trivial⟩ ?_
    refine c_seq ?_
    refine c_region rfl ?_
    refine s_q rfl rfl (y_move rfl (ev_tmp rfl rfl)) ?_
    refine s_q rfl rfl (y_assign rfl (ev_tmp rfl rfl)) ?_
    refine s_nil ?_
    refine k_next (e := [(4, (Value.int .u64 a2))]) ⟨rfl, trivial⟩ ?_
    refine c_ret ?_
    obtain rfl := some_inj h
    exact q_ret (vs := [(Value.int .u64 a2)]) Tryz.results65 ⟨ev_tmp rfl rfl, trivial⟩ ⟨rfl, hI.ext0, hI.fin trivial⟩

set_option maxRecDepth 100000 in
set_option maxHeartbeats 4000000 in
theorem c_ref01_made (F : NP) (w0 : World) (hF : ∀ k, F k → k < w0.heap.size) (minus1 : Bool) (n1 : Int) (d1 : Int) (hc : AllCl [] F w0) (r : GVal × Int)
    (h : m_ref01_made minus1 n1 d1 = some r) :
    Calls Tryz.prog 100 #[(Value.bool minus1), (Value.int .u64 n1), (Value.int .u64 d1)] w0 fun e w => e = .returned (Value.tuple #[(Value.agg #[(Value.int .i64 r.1.N), (Value.int .i64 r.1.D)]), (Value.int .i64 r.2)]) ∧ Ext w0 w ∧ AllCl [] F w := by
  refine ofEnter (R := fun v w => v = (Value.tuple #[(Value.agg #[(Value.int .i64 r.1.N), (Value.int .i64 r.1.D)]), (Value.int .i64 r.2)]) ∧ Ext w0 w ∧ AllCl [] F w) (enter (l := [(Value.bool minus1), (Value.int .u64 n1), (Value.int .u64 d1)]) Tryz.func100 rfl Tryz.ntmps100 rfl ?_) ?_
  rotate_left
  · rintro _ w ⟨rfl, k1, k2⟩; exact ⟨rfl, k1, k2⟩
  have hI := Bun.start hF hc
  clear hc
  rw [m_ref01_made] at h
  refine c_seq ?_
  refine c_region rfl ?_
  refine l_alloc (cs := #[(Value.int .i64 0), (Value.int .i64 0)]) hI rfl rfl rfl zero_27 rfl ?_
  clear hI; intro b1 c1 w1 hI
  refine s_q rfl rfl (y_assign rfl ev_const) ?_
  refine s_nil ?_
  refine k_next (e := [(0, (Value.bool minus1)), (1, (Value.int .u64 n1)), (2, (Value.int .u64 d1)), (6, (Value.pointer (some ⟨b1, 0, none⟩)))]) ⟨rfl, rfl, rfl, rfl, trivial⟩ ?_
  refine c_seq ?_
  refine c_region rfl ?_
  refine s_q rfl rfl (y_move rfl (ev_tmp rfl rfl)) ?_
  refine s_q rfl rfl (y_move rfl (ev_tmp rfl rfl)) ?_
  obtain ⟨r1, hx1, h⟩ := bnd_some h
  refine s_call rfl rfl (r_callF (vs := [(Value.int .u64 n1), (Value.int .u64 d1)]) rfl ok_65 ⟨(ev_tmp rfl rfl), ⟨(ev_tmp rfl rfl), trivial⟩⟩) (Calls.mono (c_ref01_gcd (Dj F c1) w1 hI.lt n1 d1 trivial r1 hx1) ?_)
  rintro _ w2 ⟨rfl, hx2, hl1⟩
  refine ⟨_, rfl, ?_⟩
  replace hI := (hI.ext hx2)
  refine s_q rfl rfl (y_assign rfl (ev_tmp rfl rfl)) ?_
  refine s_nil ?_
  refine k_next (e := [(0, (Value.bool minus1)), (1, (Value.int .u64 n1)), (2, (Value.int .u64 d1)), (6, (Value.pointer (some ⟨b1, 0, none⟩))), (8, (Value.int .u64 r1))]) ⟨rfl, rfl, rfl, rfl, rfl, trivial⟩ ?_
  refine c_seq ?_
  refine c_region rfl ?_
  refine s_q rfl rfl (y_move rfl (ev_tmp rfl rfl)) ?_
  refine s_q rfl rfl (y_move rfl (ev_tmp rfl rfl)) ?_
  obtain ⟨ho1, h⟩ := chk_some h
  refine s_q rfl rfl (y_quo rfl (ev_tmp rfl rfl) (ev_tmp rfl rfl) ho1) ?_
  refine s_q rfl rfl (y_assign rfl (ev_tmp rfl rfl)) ?_
  refine s_nil ?_
  refine k_next (e := [(0, (Value.bool minus1)), (1, (Value.int .u64 (wu64 (Int.tdiv n1 r1)))), (2, (Value.int .u64 d1)), (6, (Value.pointer (some ⟨b1, 0, none⟩))), (8, (Value.int .u64 r1))]) ⟨rfl, rfl, rfl, rfl, rfl, trivial⟩ ?_
  refine c_seq ?_
  refine c_region rfl ?_
  refine s_q rfl rfl (y_move rfl (ev_tmp rfl rfl)) ?_
  refine s_q rfl rfl (y_move rfl (ev_tmp rfl rfl)) ?_
  refine s_q rfl rfl (y_quo rfl (ev_tmp rfl rfl) (ev_tmp rfl rfl) ho1) ?_
  refine s_q rfl rfl (y_assign rfl (ev_tmp rfl rfl)) ?_
  refine s_nil ?_
  refine k_next (e := [(0, (Value.bool minus1)), (1, (Value.int .u64 (wu64 (Int.tdiv n1 r1)))), (2, (Value.int .u64 (wu64 (Int.tdiv d1 r1)))), (6, (Value.pointer (some ⟨b1, 0, none⟩)))]) ⟨rfl, rfl, rfl, rfl, trivial⟩ ?_
  refine c_seq ?_
  refine c_seq ?_
  refine c_region rfl ?_
  refine s_q rfl rfl (y_move rfl (ev_tmp rfl rfl)) ?_
  refine s_q rfl rfl (y_gtr rfl (ev_tmp rfl rfl) ev_const) ?_
  refine s_q rfl rfl (y_move rfl (ev_tmp rfl rfl)) ?_
  refine s_gval (g_false rfl rfl rfl rfl) rfl (fun hc => (y_move rfl (ev_tmp rfl rfl))) ?_
  refine s_gval (g_false rfl rfl rfl rfl) rfl (fun hc => (y_gtr rfl (ev_gv (ev_tmp rfl rfl) hc) ev_const)) ?_
  refine s_q rfl rfl (y_or rfl (ev_tmp rfl rfl) (ev_tmp rfl rfl)) ?_
  refine s_nil ?_
  refine k_next (e := [(0, (Value.bool minus1)), (1, (Value.int .u64 (wu64 (Int.tdiv n1 r1)))), (2, (Value.int .u64 (wu64 (Int.tdiv d1 r1)))), (6, (Value.pointer (some ⟨b1, 0, none⟩))), (23, (Value.bool ((decide (2147483647 < wu64 (Int.tdiv n1 r1))) || (decide (2147483647 < wu64 (Int.tdiv d1 r1))))))]) ⟨rfl, rfl, rfl, rfl, rfl, trivial⟩ ?_
  refine c_cond (b := (decide (2147483647 < wu64 (Int.tdiv n1 r1))) || (decide (2147483647 < wu64 (Int.tdiv d1 r1)))) (ev_tmp rfl rfl) (fun hb => ?_) (fun hb => ?_)
  · replace h := ite_t hb h
    refine c_seq ?_
    refine c_region rfl ?_
    refine s_q rfl rfl (y_build (vs := []) (cs := #[(Value.int .i64 0), (Value.int .i64 0)]) rfl trivial (by kernel_rfl)) ?_
    refine l_store (new := [(Value.int .i64 0), (Value.int .i64 0)]) (cs' := #[(Value.int .i64 0), (Value.int .i64 0)]) hI .z rfl rfl rfl (ev_tmp rfl rfl) (ev_tmp rfl rfl) rfl size_27 rfl rfl rfl ?_
    clear hI; intro c2 w3 hI
    refine s_q rfl rfl (y_assign rfl ev_const) ?_
    refine s_nil ?_
    refine k_next (e := [(6, (Value.pointer (some ⟨b1, 0, none⟩))), (7, (Value.int .i64 3))]) ⟨rfl, rfl, trivial⟩ ?_
    refine c_ret ?_
    obtain rfl := some_inj h
    exact q_ret (vs := [(Value.agg #[(Value.int .i64 0), (Value.int .i64 0)]), (Value.int .i64 3)]) Tryz.results100 ⟨⟨_, ev_tmp rfl rfl, load_agg (l := [(Value.int .i64 0), (Value.int .i64 0)]) Tryz.underlying27 rfl size_27 (CellsAt.of_blk (hI.blk .z) rfl)⟩, ⟨ev_tmp rfl rfl, trivial⟩⟩ ⟨rfl, hI.ext0, hI.fin trivial⟩
  · replace h := ite_f hb h
    refine c_skip ?_
    refine k_next (e := [(0, (Value.bool minus1)), (1, (Value.int .u64 (wu64 (Int.tdiv n1 r1)))), (2, (Value.int .u64 (wu64 (Int.tdiv d1 r1)))), (6, (Value.pointer (some ⟨b1, 0, none⟩)))]) ⟨rfl, rfl, rfl, rfl, trivial⟩ ?_
    refine c_seq ?_
    refine c_seq ?_
    refine c_region rfl ?_
    refine s_q rfl rfl (y_move rfl (ev_tmp rfl rfl)) ?_
    refine s_nil ?_
    refine k_next (e := [(1, (Value.int .u64 (wu64 (Int.tdiv n1 r1)))), (2, (Value.int .u64 (wu64 (Int.tdiv d1 r1)))), (6, (Value.pointer (some ⟨b1, 0, none⟩))), (25, (Value.bool minus1))]) ⟨rfl, rfl, rfl, rfl, trivial⟩ ?_
    refine c_cond (b := minus1) (ev_tmp rfl rfl) (fun hb => ?_) (fun hb => ?_)
    · replace h := ite_t hb h
      refine c_seq ?_
      refine c_region rfl ?_
      refine s_q rfl rfl (y_move rfl (ev_tmp rfl rfl)) ?_
      refine s_q rfl rfl (y_conv rfl (by rw [Tryz.underlying74]; rfl) Tryz.underlying2 (ev_tmp rfl rfl)) ?_
      refine s_q rfl rfl (y_neg rfl (ev_tmp rfl rfl)) ?_
      refine s_q rfl rfl (y_move rfl (ev_tmp rfl rfl)) ?_
      refine s_q rfl rfl (y_conv rfl (by rw [Tryz.underlying74]; rfl) Tryz.underlying2 (ev_tmp rfl rfl)) ?_
      refine s_q rfl rfl (y_build (vs := [(0, (Value.int .i64 (wi64 (-(wi64 (wu64 (Int.tdiv n1 r1))))))), (1, (Value.int .i64 (wi64 (wu64 (Int.tdiv d1 r1)))))]) (cs := #[(Value.int .i64 (wi64 (-(wi64 (wu64 (Int.tdiv n1 r1)))))), (Value.int .i64 (wi64 (wu64 (Int.tdiv d1 r1))))]) rfl ⟨rfl, (ev_tmp rfl rfl), ⟨rfl, (ev_tmp rfl rfl), trivial⟩⟩ (by kernel_rfl)) ?_
      refine l_store (new := [(Value.int .i64 (wi64 (-(wi64 (wu64 (Int.tdiv n1 r1)))))), (Value.int .i64 (wi64 (wu64 (Int.tdiv d1 r1))))]) (cs' := #[(Value.int .i64 (wi64 (-(wi64 (wu64 (Int.tdiv n1 r1)))))), (Value.int .i64 (wi64 (wu64 (Int.tdiv d1 r1))))]) hI .z rfl rfl rfl (ev_tmp rfl rfl) (ev_tmp rfl rfl) rfl size_27 rfl rfl rfl ?_
      clear hI; intro c3 w4 hI
      refine s_q rfl rfl (y_assign rfl ev_const) ?_
      refine s_nil ?_
      refine k_next (e := [(6, (Value.pointer (some ⟨b1, 0, none⟩))), (7, (Value.int .i64 0))]) ⟨rfl, rfl, trivial⟩ ?_
      refine c_ret ?_
      obtain rfl := some_inj h
      exact q_ret (vs := [(Value.agg #[(Value.int .i64 (wi64 (-(wi64 (wu64 (Int.tdiv n1 r1)))))), (Value.int .i64 (wi64 (wu64 (Int.tdiv d1 r1))))]), (Value.int .i64 0)]) Tryz.results100 ⟨⟨_, ev_tmp rfl rfl, load_agg (l := [(Value.int .i64 (wi64 (-(wi64 (wu64 (Int.tdiv n1 r1)))))), (Value.int .i64 (wi64 (wu64 (Int.tdiv d1 r1))))]) Tryz.underlying27 rfl size_27 (CellsAt.of_blk (hI.blk .z) rfl)⟩, ⟨ev_tmp rfl rfl, trivial⟩⟩ ⟨rfl, hI.ext0, hI.fin trivial⟩
    · replace h := ite_f hb h
      refine c_skip ?_
      refine k_next (e := [(1, (Value.int .u64 (wu64 (Int.tdiv n1 r1)))), (2, (Value.int .u64 (wu64 (Int.tdiv d1 r1)))), (6, (Value.pointer (some ⟨b1, 0, none⟩)))]) ⟨rfl, rfl, rfl, trivial⟩ ?_
      refine c_seq ?_
      refine c_region rfl ?_
      refine s_q rfl rfl (y_move rfl (ev_tmp rfl rfl)) ?_
      refine s_q rfl rfl (y_conv rfl (by rw [Tryz.underlying74]; rfl) Tryz.underlying2 (ev_tmp rfl rfl)) ?_
      refine s_q rfl rfl (y_move rfl (ev_tmp rfl rfl)) ?_
      refine s_q rfl rfl (y_conv rfl (by rw [Tryz.underlying74]; rfl) Tryz.underlying2 (ev_tmp rfl rfl)) ?_
      refine s_q rfl rfl (y_build (vs := [(0, (Value.int .i64 (wi64 (wu64 (Int.tdiv n1 r1))))), (1, (Value.int .i64 (wi64 (wu64 (Int.tdiv d1 r1)))))]) (cs := #[(Value.int .i64 (wi64 (wu64 (Int.tdiv n1 r1)))), (Value.int .i64 (wi64 (wu64 (Int.tdiv d1 r1))))]) rfl ⟨rfl, (ev_tmp rfl rfl), ⟨rfl, (ev_tmp rfl rfl), trivial⟩⟩ (by kernel_rfl)) ?_
      refine l_store (new := [(Value.int .i64 (wi64 (wu64 (Int.tdiv n1 r1)))), (Value.int .i64 (wi64 (wu64 (Int.tdiv d1 r1))))]) (cs' := #[(Value.int .i64 (wi64 (wu64 (Int.tdiv n1 r1)))), (Value.int .i64 (wi64 (wu64 (Int.tdiv d1 r1))))]) hI .z rfl rfl rfl (ev_tmp rfl rfl) (ev_tmp rfl rfl) rfl size_27 rfl rfl rfl ?_
      clear hI; intro c4 w5 hI
      refine s_q rfl rfl (y_assign rfl ev_const) ?_
      refine s_nil ?_
      refine k_next (e := [(6, (Value.pointer (some ⟨b1, 0, none⟩))), (7, (Value.int .i64 0))]) ⟨rfl, rfl, trivial⟩ ?_
      refine c_ret ?_
      obtain rfl := some_inj h
      exact q_ret (vs := [(Value.agg #[(Value.int .i64 (wi64 (wu64 (Int.tdiv n1 r1)))), (Value.int .i64 (wi64 (wu64 (Int.tdiv d1 r1))))]), (Value.int .i64 0)]) Tryz.results100 ⟨⟨_, ev_tmp rfl rfl, load_agg (l := [(Value.int .i64 (wi64 (wu64 (Int.tdiv n1 r1)))), (Value.int .i64 (wi64 (wu64 (Int.tdiv d1 r1))))]) Tryz.underlying27 rfl size_27 (CellsAt.of_blk (hI.blk .z) rfl)⟩, ⟨ev_tmp rfl rfl, trivial⟩⟩ ⟨rfl, hI.ext0, hI.fin trivial⟩

set_option maxRecDepth 100000 in
set_option maxHeartbeats 4000000 in
theorem c_ref01_New (F : NP) (w0 : World) (hF : ∀ k, F k → k < w0.heap.size) (n1 : Int) (d1 : Int) (hc : AllCl [] F w0) (r : GVal × Int)
    (h : m_ref01_New n1 d1 = some r) :
    Calls Tryz.prog 71 #[(Value.int .i64 n1), (Value.int .i64 d1)] w0 fun e w => e = .returned (Value.tuple #[(Value.agg #[(Value.int .i64 r.1.N), (Value.int .i64 r.1.D)]), (Value.int .i64 r.2)]) ∧ Ext w0 w ∧ AllCl [] F w := by
  refine ofEnter (R := fun v w => v = (Value.tuple #[(Value.agg #[(Value.int .i64 r.1.N), (Value.int .i64 r.1.D)]), (Value.int .i64 r.2)]) ∧ Ext w0 w ∧ AllCl [] F w) (enter (l := [(Value.int .i64 n1), (Value.int .i64 d1)]) Tryz.func71 rfl Tryz.ntmps71 rfl ?_) ?_
  rotate_left
  · rintro _ w ⟨rfl, k1, k2⟩; exact ⟨rfl, k1, k2⟩
  have hI := Bun.start hF hc
  clear hc
  rw [m_ref01_New] at h
  refine c_seq ?_
  refine c_region rfl ?_
  refine l_alloc (cs := #[(Value.int .i64 0), (Value.int .i64 0)]) hI rfl rfl rfl zero_27 rfl ?_
  clear hI; intro b1 c1 w1 hI
  refine s_q rfl rfl (y_assign rfl ev_const) ?_
  refine s_nil ?_
  refine k_next (e := [(0, (Value.int .i64 n1)), (1, (Value.int .i64 d1)), (4, (Value.pointer (some ⟨b1, 0, none⟩)))]) ⟨rfl, rfl, rfl, trivial⟩ ?_
  refine c_seq ?_
  refine c_seq ?_
  refine c_region rfl ?_
  refine s_q rfl rfl (y_move rfl (ev_tmp rfl rfl)) ?_
  refine s_q rfl rfl (y_eql rfl (ev_tmp rfl rfl) ev_const) ?_
  refine s_nil ?_
  refine k_next (e := [(0, (Value.int .i64 n1)), (1, (Value.int .i64 d1)), (4, (Value.pointer (some ⟨b1, 0, none⟩))), (7, (Value.bool (decide (d1 = 0))))]) ⟨rfl, rfl, rfl, rfl, trivial⟩ ?_
  refine c_cond (b := decide (d1 = 0)) (ev_tmp rfl rfl) (fun hb => ?_) (fun hb => ?_)
  · replace h := ite_t hb h
    refine c_seq ?_
    refine c_region rfl ?_
    refine s_q rfl rfl (y_build (vs := []) (cs := #[(Value.int .i64 0), (Value.int .i64 0)]) rfl trivial (by kernel_rfl)) ?_
    refine l_store (new := [(Value.int .i64 0), (Value.int .i64 0)]) (cs' := #[(Value.int .i64 0), (Value.int .i64 0)]) hI .z rfl rfl rfl (ev_tmp rfl rfl) (ev_tmp rfl rfl) rfl size_27 rfl rfl rfl ?_
    clear hI; intro c2 w2 hI
    refine s_q rfl rfl (y_assign rfl ev_const) ?_
    refine s_nil ?_
    refine k_next (e := [(4, (Value.pointer (some ⟨b1, 0, none⟩))), (5, (Value.int .i64 4))]) ⟨rfl, rfl, trivial⟩ ?_
    refine c_ret ?_
    obtain rfl := some_inj h
    exact q_ret (vs := [(Value.agg #[(Value.int .i64 0), (Value.int .i64 0)]), (Value.int .i64 4)]) Tryz.results71 ⟨⟨_, ev_tmp rfl rfl, load_agg (l := [(Value.int .i64 0), (Value.int .i64 0)]) Tryz.underlying27 rfl size_27 (CellsAt.of_blk (hI.blk .z) rfl)⟩, ⟨ev_tmp rfl rfl, trivial⟩⟩ ⟨rfl, hI.ext0, hI.fin trivial⟩
  · replace h := ite_f hb h
    refine c_skip ?_
    refine k_next (e := [(0, (Value.int .i64 n1)), (1, (Value.int .i64 d1)), (4, (Value.pointer (some ⟨b1, 0, none⟩)))]) ⟨rfl, rfl, rfl, trivial⟩ ?_
    refine c_seq ?_
    refine c_region rfl ?_
    refine s_q rfl rfl (y_move rfl (ev_tmp rfl rfl)) ?_
    refine s_q rfl rfl (y_lss rfl (ev_tmp rfl rfl) ev_const) ?_
    refine s_q rfl rfl (y_move rfl (ev_tmp rfl rfl)) ?_
    refine s_q rfl rfl (y_lss rfl (ev_tmp rfl rfl) ev_const) ?_
    refine s_q rfl rfl (y_neb rfl Tryz.underlying4 (ev_tmp rfl rfl) (ev_tmp rfl rfl)) ?_
    refine s_q rfl rfl (y_move rfl (ev_tmp rfl rfl)) ?_
    obtain ⟨r1, hx1, h⟩ := bnd_some h
    refine s_call rfl rfl (r_callF (vs := [(Value.int .i64 n1)]) rfl ok_66 ⟨(ev_tmp rfl rfl), trivial⟩) (Calls.mono (c_ref01_size (Dj F c1) w1 hI.lt n1 trivial r1 hx1) ?_)
    rintro _ w3 ⟨rfl, hx2, hl1⟩
    refine ⟨_, rfl, ?_⟩
    replace hI := (hI.ext hx2)
    refine s_q rfl rfl (y_move rfl (ev_tmp rfl rfl)) ?_
    obtain ⟨r2, hx3, h⟩ := bnd_some h
    refine s_call rfl rfl (r_callF (vs := [(Value.int .i64 d1)]) rfl ok_66 ⟨(ev_tmp rfl rfl), trivial⟩) (Calls.mono (c_ref01_size (Dj F c1) w3 hI.lt d1 trivial r2 hx3) ?_)
    rintro _ w4 ⟨rfl, hx4, hl2⟩
    refine ⟨_, rfl, ?_⟩
    replace hI := (hI.ext hx4)
    obtain ⟨r3, hx5, h⟩ := bnd_some h
    refine s_call rfl rfl (r_callF (vs := [(Value.bool ((decide (n1 < 0)) != (decide (d1 < 0)))), (Value.int .u64 r1), (Value.int .u64 r2)]) rfl ok_100 ⟨(ev_tmp rfl rfl), ⟨(ev_tmp rfl rfl), ⟨(ev_tmp rfl rfl), trivial⟩⟩⟩) (Calls.mono (c_ref01_made (Dj F c1) w4 hI.lt ((decide (n1 < 0)) != (decide (d1 < 0))) r1 r2 trivial r3 hx5) ?_)
    rintro _ w5 ⟨rfl, hx6, hl3⟩
    refine ⟨_, rfl, ?_⟩
    replace hI := (hI.ext hx6)
    refine s_q rfl rfl (y_extract rfl (ev_tmp rfl rfl) rfl) ?_
    refine s_q rfl rfl (y_extract rfl (ev_tmp rfl rfl) rfl) ?_
    refine l_store (new := [(Value.int .i64 r3.1.N), (Value.int .i64 r3.1.D)]) (cs' := #[(Value.int .i64 r3.1.N), (Value.int .i64 r3.1.D)]) hI .z rfl rfl rfl (ev_tmp rfl rfl) (ev_tmp rfl rfl) rfl size_27 rfl rfl rfl ?_
    clear hI; intro c3 w6 hI
    refine s_q rfl rfl (y_assign rfl (ev_tmp rfl rfl)) ?_
    refine s_nil ?_
    refine k_next (e := [(4, (Value.pointer (some ⟨b1, 0, none⟩))), (5, (Value.int .i64 r3.2))]) ⟨rfl, rfl, trivial⟩ ?_
    refine c_ret ?_
    obtain rfl := some_inj h
    exact q_ret (vs := [(Value.agg #[(Value.int .i64 r3.1.N), (Value.int .i64 r3.1.D)]), (Value.int .i64 r3.2)]) Tryz.results71 ⟨⟨_, ev_tmp rfl rfl, load_agg (l := [(Value.int .i64 r3.1.N), (Value.int .i64 r3.1.D)]) Tryz.underlying27 rfl size_27 (CellsAt.of_blk (hI.blk .z) rfl)⟩, ⟨ev_tmp rfl rfl, trivial⟩⟩ ⟨rfl, hI.ext0, hI.fin trivial⟩

set_option maxRecDepth 100000 in
set_option maxHeartbeats 4000000 in
theorem c_internal_stringslite_Cut (F : NP) (w0 : World) (hF : ∀ k, F k → k < w0.heap.size) (s1 : List UInt8) (sep1 : List UInt8) (hc : AllCl [] F w0) (r : List UInt8 × List UInt8 × Bool)
    (h : m_internal_stringslite_Cut s1 sep1 = some r) :
    Calls Tryz.prog 92 #[(str s1), (str sep1)] w0 fun e w => e = .returned (Value.tuple #[(str r.1), (str r.2.1), (Value.bool r.2.2)]) ∧ Ext w0 w ∧ AllCl [] F w := by
  refine ofEnter (R := fun v w => v = (Value.tuple #[(str r.1), (str r.2.1), (Value.bool r.2.2)]) ∧ Ext w0 w ∧ AllCl [] F w) (enter (l := [(str s1), (str sep1)]) Tryz.func92 rfl Tryz.ntmps92 rfl ?_) ?_
  rotate_left
  · rintro _ w ⟨rfl, k1, k2⟩; exact ⟨rfl, k1, k2⟩
  have hI := Bun.start hF hc
  clear hc
  rw [m_internal_stringslite_Cut] at h
  refine c_seq ?_
  refine c_region rfl ?_
  refine s_q rfl rfl (y_assign rfl ev_const) ?_
  refine s_q rfl rfl (y_assign rfl ev_const) ?_
  refine s_q rfl rfl (y_assign rfl ev_const) ?_
  refine s_nil ?_
  refine k_next (e := [(0, (str s1)), (1, (str sep1))]) ⟨rfl, rfl, trivial⟩ ?_
  refine c_seq ?_
  refine c_seq ?_
  refine c_region rfl ?_
  refine s_q rfl rfl (y_move rfl (ev_tmp rfl rfl)) ?_
  refine s_q rfl rfl (y_move rfl (ev_tmp rfl rfl)) ?_
  obtain ⟨r1, hx1, h⟩ := bnd_some h
  refine s_call rfl rfl (r_callF (vs := [(str s1), (str sep1)]) rfl ok_112 ⟨(ev_tmp rfl rfl), ⟨(ev_tmp rfl rfl), trivial⟩⟩) (Calls.mono (c_internal_stringslite_Index (Dj F noM) w0 hI.lt s1 sep1 trivial r1 hx1) ?_)
  rintro _ w1 ⟨rfl, hx2, hl1⟩
  refine ⟨_, rfl, ?_⟩
  replace hI := (hI.ext hx2)
  refine s_q rfl rfl (y_assign rfl (ev_tmp rfl rfl)) ?_
  refine s_nil ?_
  refine k_next (e := [(0, (str s1)), (1, (str sep1)), (7, (Value.int .i64 r1))]) ⟨rfl, rfl, rfl, trivial⟩ ?_
  refine c_seq ?_
  refine c_region rfl ?_
  refine s_q rfl rfl (y_move rfl (ev_tmp rfl rfl)) ?_
  refine s_q rfl rfl (y_geq rfl (ev_tmp rfl rfl) ev_const) ?_
  refine s_nil ?_
  refine k_next (e := [(0, (str s1)), (1, (str sep1)), (7, (Value.int .i64 r1)), (12, (Value.bool (decide (0 ≤ r1))))]) ⟨rfl, rfl, rfl, rfl, trivial⟩ ?_
  refine c_cond (b := decide (0 ≤ r1)) (ev_tmp rfl rfl) (fun hb => ?_) (fun hb => ?_)
  · replace h := ite_t hb h
    refine c_seq ?_
    refine c_drawX [] false (.c (0, .q) (.c (1, .q) (.c (2, .q) (.c (3, .q) (.c (4, .q) (.c (5, .q) (.c (6, .q) (.c (7, .q) (.c (8, .q) (.c (9, .q) (.c (10, .q) (.c (11, .q) .n)))))))))))) hI (by kernel_rfl) (by kernel_rfl) ?_
    clear hI; intro w2 hI
    refine a_q rfl rfl rfl (fun w' => (y_move rfl (ev_tmp rfl rfl))) ?_
    refine a_q rfl rfl rfl (fun w' => (y_move rfl (ev_tmp rfl rfl))) ?_
    obtain ⟨s2, hx3, h⟩ := bnd_some h
    refine a_q rfl rfl rfl (fun w' => (y_supto rfl Tryz.underlying9 (ev_tmp rfl rfl) (ev_tmp rfl rfl) hx3)) ?_
    refine a_q rfl rfl rfl (fun w' => (y_move rfl (ev_tmp rfl rfl))) ?_
    refine a_q rfl rfl rfl (fun w' => (y_move rfl (ev_tmp rfl rfl))) ?_
    refine a_q rfl rfl rfl (fun w' => (y_move rfl (ev_tmp rfl rfl))) ?_
    refine a_q rfl rfl rfl (fun w' => (y_lens rfl Tryz.underlying9 (ev_tmp rfl rfl))) ?_
    refine a_q rfl rfl rfl (fun w' => (y_add rfl (ev_tmp rfl rfl) (ev_tmp rfl rfl))) ?_
    obtain ⟨s3, hx4, h⟩ := bnd_some h
    refine a_q rfl rfl rfl (fun w' => (y_sfrom rfl Tryz.underlying9 (ev_tmp rfl rfl) (ev_tmp rfl rfl) hx4)) ?_
    refine a_q rfl rfl rfl (fun w' => (y_assign rfl (ev_tmp rfl rfl))) ?_
    refine a_q rfl rfl rfl (fun w' => (y_assign rfl (ev_tmp rfl rfl))) ?_
    refine a_q rfl rfl rfl (fun w' => (y_assign rfl ev_const)) ?_
    refine a_nil ?_
    refine k_next (e := [(4, (str s2)), (5, (str s3)), (6, (Value.bool true))]) ⟨rfl, rfl, rfl, trivial⟩ ?_
    refine c_ret ?_
    obtain rfl := some_inj h
    exact q_ret (vs := [(str s2), (str s3), (Value.bool true)]) Tryz.results92 ⟨ev_tmp rfl rfl, ⟨ev_tmp rfl rfl, ⟨ev_tmp rfl rfl, trivial⟩⟩⟩ ⟨rfl, hI.ext0, hI.fin trivial⟩
  · replace h := ite_f hb h
    refine c_skip ?_
    refine k_next (e := [(0, (str s1))]) ⟨rfl, trivial⟩ ?_
    refine c_seq ?_
    refine c_region rfl ?_
    refine s_q rfl rfl (y_move rfl (ev_tmp rfl rfl)) ?_
    refine s_q rfl rfl (y_assign rfl (ev_tmp rfl rfl)) ?_
    refine s_q rfl rfl (y_assign rfl ev_const) ?_
    refine s_q rfl rfl (y_assign rfl ev_const) ?_
    refine s_nil ?_
    refine k_next (e := [(4, (str s1)), (5, (str ([] : List UInt8))), (6, (Value.bool false))]) ⟨rfl, rfl, rfl, trivial⟩ ?_
    refine c_ret ?_
    obtain rfl := some_inj h
    exact q_ret (vs := [(str s1), (str ([] : List UInt8)), (Value.bool false)]) Tryz.results92 ⟨ev_tmp rfl rfl, ⟨ev_tmp rfl rfl, ⟨ev_tmp rfl rfl, trivial⟩⟩⟩ ⟨rfl, hI.ext0, hI.fin trivial⟩

set_option maxRecDepth 100000 in
set_option maxHeartbeats 4000000 in
theorem c_strings_Cut (F : NP) (w0 : World) (hF : ∀ k, F k → k < w0.heap.size) (s1 : List UInt8) (sep1 : List UInt8) (hc : AllCl [] F w0) (r : List UInt8 × List UInt8 × Bool)
    (h : m_strings_Cut s1 sep1 = some r) :
    Calls Tryz.prog 57 #[(str s1), (str sep1)] w0 fun e w => e = .returned (Value.tuple #[(str r.1), (str r.2.1), (Value.bool r.2.2)]) ∧ Ext w0 w ∧ AllCl [] F w := by
  refine ofEnter (R := fun v w => v = (Value.tuple #[(str r.1), (str r.2.1), (Value.bool r.2.2)]) ∧ Ext w0 w ∧ AllCl [] F w) (enter (l := [(str s1), (str sep1)]) Tryz.func57 rfl Tryz.ntmps57 rfl ?_) ?_
  rotate_left
  · rintro _ w ⟨rfl, k1, k2⟩; exact ⟨rfl, k1, k2⟩
  have hI := Bun.start hF hc
  clear hc
  rw [m_strings_Cut] at h
  refine c_seq ?_
  refine c_region rfl ?_
  refine s_q rfl rfl (y_assign rfl ev_const) ?_
  refine s_q rfl rfl (y_assign rfl ev_const) ?_
  refine s_q rfl rfl (y_assign rfl ev_const) ?_
  refine s_nil ?_
  refine k_next (e := [(0, (str s1)), (1, (str sep1))]) ⟨rfl, rfl, trivial⟩ ?_
  refine c_seq ?_
  refine c_region rfl ?_
  refine s_q rfl rfl (y_move rfl (ev_tmp rfl rfl)) ?_
  refine s_q rfl rfl (y_move rfl (ev_tmp rfl rfl)) ?_
  obtain ⟨r1, hx1, h⟩ := bnd_some h
  refine s_call rfl rfl (r_callF (vs := [(str s1), (str sep1)]) rfl ok_92 ⟨(ev_tmp rfl rfl), ⟨(ev_tmp rfl rfl), trivial⟩⟩) (Calls.mono (c_internal_stringslite_Cut (Dj F noM) w0 hI.lt s1 sep1 trivial r1 hx1) ?_)
  rintro _ w1 ⟨rfl, hx2, hl1⟩
  refine ⟨_, rfl, ?_⟩
  replace hI := (hI.ext hx2)
  refine s_q rfl rfl (y_extract rfl (ev_tmp rfl rfl) rfl) ?_
  refine s_q rfl rfl (y_extract rfl (ev_tmp rfl rfl) rfl) ?_
  refine s_q rfl rfl (y_extract rfl (ev_tmp rfl rfl) rfl) ?_
  refine s_q rfl rfl (y_assign rfl (ev_tmp rfl rfl)) ?_
  refine s_q rfl rfl (y_assign rfl (ev_tmp rfl rfl)) ?_
  refine s_q rfl rfl (y_assign rfl (ev_tmp rfl rfl)) ?_
  refine s_nil ?_
  refine k_next (e := [(4, (str r1.1)), (5, (str r1.2.1)), (6, (Value.bool r1.2.2))]) ⟨rfl, rfl, rfl, trivial⟩ ?_
  refine c_ret ?_
  obtain rfl := some_inj h
  exact q_ret (vs := [(str r1.1), (str r1.2.1), (Value.bool r1.2.2)]) Tryz.results57 ⟨ev_tmp rfl rfl, ⟨ev_tmp rfl rfl, ⟨ev_tmp rfl rfl, trivial⟩⟩⟩ ⟨rfl, hI.ext0, hI.fin trivial⟩

set_option maxRecDepth 100000 in
set_option maxHeartbeats 4000000 in
theorem c_internal_stringslite_HasPrefix (F : NP) (w0 : World) (hF : ∀ k, F k → k < w0.heap.size) (s1 : List UInt8) (prefix1 : List UInt8) (hc : AllCl [] F w0) (r : Bool)
    (h : m_internal_stringslite_HasPrefix s1 prefix1 = some r) :
    Calls Tryz.prog 113 #[(str s1), (str prefix1)] w0 fun e w => e = .returned (Value.bool r) ∧ Ext w0 w ∧ AllCl [] F w := by
  refine ofEnter (R := fun v w => v = (Value.bool r) ∧ Ext w0 w ∧ AllCl [] F w) (enter (l := [(str s1), (str prefix1)]) Tryz.func113 rfl Tryz.ntmps113 rfl ?_) ?_
  rotate_left
  · rintro _ w ⟨rfl, k1, k2⟩; exact ⟨rfl, k1, k2⟩
  have hI := Bun.start hF hc
  clear hc
  rw [m_internal_stringslite_HasPrefix] at h
  refine c_seq ?_
  refine c_region rfl ?_
  refine s_q rfl rfl (y_assign rfl ev_const) ?_
  refine s_nil ?_
  refine k_next (e := [(0, (str s1)), (1, (str prefix1))]) ⟨rfl, rfl, trivial⟩ ?_
  refine c_seq ?_
  refine c_region rfl ?_
  refine s_q rfl rfl (y_move rfl (ev_tmp rfl rfl)) ?_
  refine s_q rfl rfl (y_lens rfl Tryz.underlying9 (ev_tmp rfl rfl)) ?_
  refine s_q rfl rfl (y_move rfl (ev_tmp rfl rfl)) ?_
  refine s_q rfl rfl (y_lens rfl Tryz.underlying9 (ev_tmp rfl rfl)) ?_
  refine s_q rfl rfl (y_geq rfl (ev_tmp rfl rfl) (ev_tmp rfl rfl)) ?_
  refine s_q rfl rfl (y_move rfl (ev_tmp rfl rfl)) ?_
  refine s_gval (g_true rfl rfl rfl rfl) rfl (fun hc => (y_move rfl (ev_tmp rfl rfl))) ?_
  refine s_gval (g_true rfl rfl rfl rfl) rfl (fun hc => (y_move rfl (ev_tmp rfl rfl))) ?_
  refine s_gval (g_true rfl rfl rfl rfl) rfl (fun hc => (y_lens rfl Tryz.underlying9 (ev_gv (ev_tmp rfl rfl) hc))) ?_
  obtain ⟨s2, hx1, h⟩ := bnd_some h
  replace hx1 := gd_some hx1
  refine s_gval (g_true rfl rfl rfl rfl) rfl (fun hc => (y_supto rfl Tryz.underlying9 (ev_gv (ev_tmp rfl rfl) hc) (ev_gv (ev_tmp rfl rfl) hc) (hx1 hc))) ?_
  refine s_gval (g_true rfl rfl rfl rfl) rfl (fun hc => (y_move rfl (ev_tmp rfl rfl))) ?_
  refine s_gval (g_true rfl rfl rfl rfl) rfl (fun hc => (y_eqs rfl (ev_gv (ev_tmp rfl rfl) hc) (ev_gv (ev_tmp rfl rfl) hc))) ?_
  refine s_q rfl rfl (y_and rfl (ev_tmp rfl rfl) (ev_tmp rfl rfl)) ?_
  refine s_q rfl rfl (y_assign rfl (ev_tmp rfl rfl)) ?_
  refine s_nil ?_
  refine k_next (e := [(4, (Value.bool ((decide ((prefix1.length : Int) ≤ (s1.length : Int))) && (decide (s2 = prefix1)))))]) ⟨rfl, trivial⟩ ?_
  refine c_ret ?_
  obtain rfl := some_inj h
  exact q_ret (vs := [(Value.bool ((decide ((prefix1.length : Int) ≤ (s1.length : Int))) && (decide (s2 = prefix1))))]) Tryz.results113 ⟨ev_tmp rfl rfl, trivial⟩ ⟨rfl, hI.ext0, hI.fin trivial⟩

set_option maxRecDepth 100000 in
set_option maxHeartbeats 4000000 in
theorem c_internal_stringslite_CutPrefix (F : NP) (w0 : World) (hF : ∀ k, F k → k < w0.heap.size) (s1 : List UInt8) (prefix1 : List UInt8) (hc : AllCl [] F w0) (r : List UInt8 × Bool)
    (h : m_internal_stringslite_CutPrefix s1 prefix1 = some r) :
    Calls Tryz.prog 93 #[(str s1), (str prefix1)] w0 fun e w => e = .returned (Value.tuple #[(str r.1), (Value.bool r.2)]) ∧ Ext w0 w ∧ AllCl [] F w := by
  refine ofEnter (R := fun v w => v = (Value.tuple #[(str r.1), (Value.bool r.2)]) ∧ Ext w0 w ∧ AllCl [] F w) (enter (l := [(str s1), (str prefix1)]) Tryz.func93 rfl Tryz.ntmps93 rfl ?_) ?_
  rotate_left
  · rintro _ w ⟨rfl, k1, k2⟩; exact ⟨rfl, k1, k2⟩
  have hI := Bun.start hF hc
  clear hc
  rw [m_internal_stringslite_CutPrefix] at h
  refine c_seq ?_
  refine c_region rfl ?_
  refine s_q rfl rfl (y_assign rfl ev_const) ?_
  refine s_q rfl rfl (y_assign rfl ev_const) ?_
  refine s_nil ?_
  refine k_next (e := [(0, (str s1)), (1, (str prefix1))]) ⟨rfl, rfl, trivial⟩ ?_
  refine c_seq ?_
  refine c_seq ?_
  refine c_region rfl ?_
  refine s_q rfl rfl (y_move rfl (ev_tmp rfl rfl)) ?_
  refine s_q rfl rfl (y_move rfl (ev_tmp rfl rfl)) ?_
  obtain ⟨r1, hx1, h⟩ := bnd_some h
  refine s_call rfl rfl (r_callF (vs := [(str s1), (str prefix1)]) rfl ok_113 ⟨(ev_tmp rfl rfl), ⟨(ev_tmp rfl rfl), trivial⟩⟩) (Calls.mono (c_internal_stringslite_HasPrefix (Dj F noM) w0 hI.lt s1 prefix1 trivial r1 hx1) ?_)
  rintro _ w1 ⟨rfl, hx2, hl1⟩
  refine ⟨_, rfl, ?_⟩
  replace hI := (hI.ext hx2)
  refine s_q rfl rfl (y_not rfl (ev_tmp rfl rfl)) ?_
  refine s_nil ?_
  refine k_next (e := [(0, (str s1)), (1, (str prefix1)), (9, (Value.bool (!r1)))]) ⟨rfl, rfl, rfl, trivial⟩ ?_
  refine c_cond (b := !r1) (ev_tmp rfl rfl) (fun hb => ?_) (fun hb => ?_)
  · replace h := ite_t hb h
    refine c_seq ?_
    refine c_region rfl ?_
    refine s_q rfl rfl (y_move rfl (ev_tmp rfl rfl)) ?_
    refine s_q rfl rfl (y_assign rfl (ev_tmp rfl rfl)) ?_
    refine s_q rfl rfl (y_assign rfl ev_const) ?_
    refine s_nil ?_
    refine k_next (e := [(4, (str s1)), (5, (Value.bool false))]) ⟨rfl, rfl, trivial⟩ ?_
    refine c_ret ?_
    obtain rfl := some_inj h
    exact q_ret (vs := [(str s1), (Value.bool false)]) Tryz.results93 ⟨ev_tmp rfl rfl, ⟨ev_tmp rfl rfl, trivial⟩⟩ ⟨rfl, hI.ext0, hI.fin trivial⟩
  · replace h := ite_f hb h
    refine c_skip ?_
    refine k_next (e := [(0, (str s1)), (1, (str prefix1))]) ⟨rfl, rfl, trivial⟩ ?_
    refine c_seq ?_
    refine c_region rfl ?_
    refine s_q rfl rfl (y_move rfl (ev_tmp rfl rfl)) ?_
    refine s_q rfl rfl (y_move rfl (ev_tmp rfl rfl)) ?_
    refine s_q rfl rfl (y_lens rfl Tryz.underlying9 (ev_tmp rfl rfl)) ?_
    obtain ⟨s2, hx3, h⟩ := bnd_some h
    refine s_q rfl rfl (y_sfrom rfl Tryz.underlying9 (ev_tmp rfl rfl) (ev_tmp rfl rfl) hx3) ?_
    refine s_q rfl rfl (y_assign rfl (ev_tmp rfl rfl)) ?_
    refine s_q rfl rfl (y_assign rfl ev_const) ?_
    refine s_nil ?_
    refine k_next (e := [(4, (str s2)), (5, (Value.bool true))]) ⟨rfl, rfl, trivial⟩ ?_
    refine c_ret ?_
    obtain rfl := some_inj h
    exact q_ret (vs := [(str s2), (Value.bool true)]) Tryz.results93 ⟨ev_tmp rfl rfl, ⟨ev_tmp rfl rfl, trivial⟩⟩ ⟨rfl, hI.ext0, hI.fin trivial⟩

set_option maxRecDepth 100000 in
set_option maxHeartbeats 4000000 in
theorem c_strings_CutPrefix (F : NP) (w0 : World) (hF : ∀ k, F k → k < w0.heap.size) (s1 : List UInt8) (prefix1 : List UInt8) (hc : AllCl [] F w0) (r : List UInt8 × Bool)
    (h : m_strings_CutPrefix s1 prefix1 = some r) :
    Calls Tryz.prog 58 #[(str s1), (str prefix1)] w0 fun e w => e = .returned (Value.tuple #[(str r.1), (Value.bool r.2)]) ∧ Ext w0 w ∧ AllCl [] F w := by
  refine ofEnter (R := fun v w => v = (Value.tuple #[(str r.1), (Value.bool r.2)]) ∧ Ext w0 w ∧ AllCl [] F w) (enter (l := [(str s1), (str prefix1)]) Tryz.func58 rfl Tryz.ntmps58 rfl ?_) ?_
  rotate_left
  · rintro _ w ⟨rfl, k1, k2⟩; exact ⟨rfl, k1, k2⟩
  have hI := Bun.start hF hc
  clear hc
  rw [m_strings_CutPrefix] at h
  refine c_seq ?_
  refine c_region rfl ?_
  refine s_q rfl rfl (y_assign rfl ev_const) ?_
  refine s_q rfl rfl (y_assign rfl ev_const) ?_
  refine s_nil ?_
  refine k_next (e := [(0, (str s1)), (1, (str prefix1))]) ⟨rfl, rfl, trivial⟩ ?_
  refine c_seq ?_
  refine c_region rfl ?_
  refine s_q rfl rfl (y_move rfl (ev_tmp rfl rfl)) ?_
  refine s_q rfl rfl (y_move rfl (ev_tmp rfl rfl)) ?_
  obtain ⟨r1, hx1, h⟩ := bnd_some h
  refine s_call rfl rfl (r_callF (vs := [(str s1), (str prefix1)]) rfl ok_93 ⟨(ev_tmp rfl rfl), ⟨(ev_tmp rfl rfl), trivial⟩⟩) (Calls.mono (c_internal_stringslite_CutPrefix (Dj F noM) w0 hI.lt s1 prefix1 trivial r1 hx1) ?_)
  rintro _ w1 ⟨rfl, hx2, hl1⟩
  refine ⟨_, rfl, ?_⟩
  replace hI := (hI.ext hx2)
  refine s_q rfl rfl (y_extract rfl (ev_tmp rfl rfl) rfl) ?_
  refine s_q rfl rfl (y_extract rfl (ev_tmp rfl rfl) rfl) ?_
  refine s_q rfl rfl (y_assign rfl (ev_tmp rfl rfl)) ?_
  refine s_q rfl rfl (y_assign rfl (ev_tmp rfl rfl)) ?_
  refine s_nil ?_
  refine k_next (e := [(4, (str r1.1)), (5, (Value.bool r1.2))]) ⟨rfl, rfl, trivial⟩ ?_
  refine c_ret ?_
  obtain rfl := some_inj h
  exact q_ret (vs := [(str r1.1), (Value.bool r1.2)]) Tryz.results58 ⟨ev_tmp rfl rfl, ⟨ev_tmp rfl rfl, trivial⟩⟩ ⟨rfl, hI.ext0, hI.fin trivial⟩

set_option maxRecDepth 100000 in
set_option maxHeartbeats 4000000 in
theorem c_frac_decimal (F : NP) (w0 : World) (hF : ∀ k, F k → k < w0.heap.size) (s1 : List UInt8) (hc : AllCl [] F w0) (r : Bool)
    (h : m_frac_decimal s1 = some r) :
    Calls Tryz.prog 59 #[(str s1)] w0 fun e w => e = .returned (Value.bool r) ∧ Ext w0 w ∧ AllCl [] F w := by
  refine ofEnter (R := fun v w => v = (Value.bool r) ∧ Ext w0 w ∧ AllCl [] F w) (enter (l := [(str s1)]) Tryz.func59 rfl Tryz.ntmps59 rfl ?_) ?_
  rotate_left
  · rintro _ w ⟨rfl, k1, k2⟩; exact ⟨rfl, k1, k2⟩
  have hI := Bun.start hF hc
  clear hc
  rw [m_frac_decimal] at h
  refine c_seq ?_
  refine c_region rfl ?_
  refine s_q rfl rfl (y_assign rfl ev_const) ?_
  refine s_nil ?_
  refine k_next (e := [(0, (str s1))]) ⟨rfl, trivial⟩ ?_
  refine c_join (α := Unit) (fun _ => ⟨31, []⟩) (fun _ => [(0, (str s1))]) (fun _ => fun w => ∃ C, Bun noM F w0 C w [] [] ∧ m_frac_decimal_j1 s1 = some r) ?_ ?_
  · clear h hI; rintro _ w1 ⟨c1, hI, h⟩
    try dsimp only at hI h
    rw [m_frac_decimal_j1] at h
    refine c_sub (e := [(0, (str s1))]) ⟨rfl, trivial⟩ ?_
    refine c_seq ?_
    refine c_region rfl ?_
    refine s_q rfl rfl (y_move rfl (ev_tmp rfl rfl)) ?_
    refine s_q rfl rfl (y_eqs rfl (ev_tmp rfl rfl) ev_const) ?_
    refine s_q rfl rfl (y_move rfl (ev_tmp rfl rfl)) ?_
    refine s_gval (g_false rfl rfl rfl rfl) rfl (fun hc => (y_move rfl (ev_tmp rfl rfl))) ?_
    refine s_gval (g_false rfl rfl rfl rfl) rfl (fun hc => (y_nes rfl (ev_gv (ev_tmp rfl rfl) hc) ev_const)) ?_
    refine s_gval (g_false rfl rfl rfl rfl) rfl (fun hc => (y_move rfl (ev_gv (ev_tmp rfl rfl) hc))) ?_
    refine s_gval (g_true2 rfl rfl rfl rfl) rfl (fun hc => (y_move rfl (ev_tmp rfl rfl))) ?_
    obtain ⟨b1, hx1, h⟩ := bnd_some h
    replace hx1 := gd_some hx1
    refine s_gval (g_true2 rfl rfl rfl rfl) rfl (fun hc => (y_satl rfl Tryz.underlying9 (ev_gv (ev_tmp rfl rfl) hc) ev_const (hx1 hc))) ?_
    refine s_gval (g_true2 rfl rfl rfl rfl) rfl (fun hc => (y_neq rfl (ev_gv (ev_tmp rfl rfl) hc) ev_const)) ?_
    refine s_gval (g_false rfl rfl rfl rfl) rfl (fun hc => (y_and2 rfl hc (ev_tmp rfl rfl) (ev_tmp rfl rfl))) ?_
    refine s_q rfl rfl (y_or rfl (ev_tmp rfl rfl) (ev_tmp rfl rfl)) ?_
    refine s_q rfl rfl (y_assign rfl (ev_tmp rfl rfl)) ?_
    refine s_nil ?_
    refine k_next (e := [(2, (Value.bool ((decide (s1 = ([48] : List UInt8))) || ((!decide (s1 = ([] : List UInt8))) && (!decide (b1 = 48))))))]) ⟨rfl, trivial⟩ ?_
    refine c_ret ?_
    obtain rfl := some_inj h
    exact q_ret (vs := [(Value.bool ((decide (s1 = ([48] : List UInt8))) || ((!decide (s1 = ([] : List UInt8))) && (!decide (b1 = 48)))))]) Tryz.results59 ⟨ev_tmp rfl rfl, trivial⟩ ⟨rfl, hI.ext0, hI.fin trivial⟩
  · skip
    refine c_seq ?_
    refine c_region rfl ?_
    refine s_q rfl rfl (y_assign rfl ev_const) ?_
    refine s_nil ?_
    refine k_next (e := [(0, (str s1)), (3, (Value.int .i64 0))]) ⟨rfl, rfl, trivial⟩ ?_
    refine c_block ?_
    refine c_loop (α := Nat × Int) (fun x => fun w => ∃ C, Bun noM F w0 C w [] [] ∧ m_frac_decimal_l1 s1 (x.1) (x.2) = some r) (fun x _ => x.1) (fun x => [(0, (str s1)), (3, (Value.int .i64 (x.2)))]) (fu, 0) ⟨_, hI.arr .n trivial, h⟩ ⟨rfl, rfl, trivial⟩ ?_
    clear h hI; rintro ⟨fuel1, i1⟩ w2 ⟨c2, hI, h⟩
    dsimp only at hI h
    rcases fuel1 with _ | fuel1
    · rw [m_frac_decimal_l1] at h; cases h
    rw [m_frac_decimal_l1] at h
    refine c_sub (e := [(0, (str s1)), (3, (Value.int .i64 i1))]) ⟨rfl, rfl, trivial⟩ ?_
    refine c_seq ?_
    refine c_seq ?_
    refine c_region rfl ?_
    refine s_q rfl rfl (y_move rfl (ev_tmp rfl rfl)) ?_
    refine s_q rfl rfl (y_move rfl (ev_tmp rfl rfl)) ?_
    refine s_q rfl rfl (y_lens rfl Tryz.underlying9 (ev_tmp rfl rfl)) ?_
    refine s_q rfl rfl (y_lss rfl (ev_tmp rfl rfl) (ev_tmp rfl rfl)) ?_
    refine s_nil ?_
    refine k_next (e := [(0, (str s1)), (3, (Value.int .i64 i1)), (7, (Value.bool (decide (i1 < (s1.length : Int)))))]) ⟨rfl, rfl, rfl, trivial⟩ ?_
    refine c_cond (b := decide (i1 < (s1.length : Int))) (ev_tmp rfl rfl) (fun hb => ?_) (fun hb => ?_)
    · replace h := ite_t hb h
      refine c_skip ?_
      refine k_next (e := [(0, (str s1)), (3, (Value.int .i64 i1))]) ⟨rfl, rfl, trivial⟩ ?_
      refine c_seq ?_
      refine c_block ?_
      refine c_seq ?_
      refine c_region rfl ?_
      refine s_q rfl rfl (y_move rfl (ev_tmp rfl rfl)) ?_
      refine s_q rfl rfl (y_move rfl (ev_tmp rfl rfl)) ?_
      obtain ⟨b2, hx2, h⟩ := bnd_some h
      refine s_q rfl rfl (y_satl rfl Tryz.underlying9 (ev_tmp rfl rfl) (ev_tmp rfl rfl) hx2) ?_
      refine s_q rfl rfl (y_lss rfl (ev_tmp rfl rfl) ev_const) ?_
      refine s_q rfl rfl (y_move rfl (ev_tmp rfl rfl)) ?_
      refine s_gval (g_false rfl rfl rfl rfl) rfl (fun hc => (y_move rfl (ev_tmp rfl rfl))) ?_
      refine s_gval (g_false rfl rfl rfl rfl) rfl (fun hc => (y_move rfl (ev_tmp rfl rfl))) ?_
      obtain ⟨b3, hx3, h⟩ := bnd_some h
      replace hx3 := gd_some hx3
      refine s_gval (g_false rfl rfl rfl rfl) rfl (fun hc => (y_satl rfl Tryz.underlying9 (ev_gv (ev_tmp rfl rfl) hc) (ev_gv (ev_tmp rfl rfl) hc) (hx3 hc))) ?_
      refine s_gval (g_false rfl rfl rfl rfl) rfl (fun hc => (y_gtr rfl (ev_gv (ev_tmp rfl rfl) hc) ev_const)) ?_
      refine s_q rfl rfl (y_or rfl (ev_tmp rfl rfl) (ev_tmp rfl rfl)) ?_
      refine s_nil ?_
      refine k_next (e := [(0, (str s1)), (3, (Value.int .i64 i1)), (19, (Value.bool ((decide (b2 < 48)) || (decide (57 < b3)))))]) ⟨rfl, rfl, rfl, trivial⟩ ?_
      refine c_cond (b := (decide (b2 < 48)) || (decide (57 < b3))) (ev_tmp rfl rfl) (fun hb => ?_) (fun hb => ?_)
      · replace h := ite_t hb h
        refine c_seq ?_
        refine c_region rfl ?_
        refine s_q rfl rfl (y_assign rfl ev_const) ?_
        refine s_nil ?_
        refine k_next (e := [(2, (Value.bool false))]) ⟨rfl, trivial⟩ ?_
        refine c_ret ?_
        obtain rfl := some_inj h
        exact q_ret (vs := [(Value.bool false)]) Tryz.results59 ⟨ev_tmp rfl rfl, trivial⟩ ⟨rfl, hI.ext0, hI.fin trivial⟩
      · replace h := ite_f hb h
        refine c_skip ?_
        refine k_next (e := [(0, (str s1)), (3, (Value.int .i64 i1))]) ⟨rfl, rfl, trivial⟩ ?_
        refine c_region rfl ?_
        refine s_q rfl rfl (y_move rfl (ev_tmp rfl rfl)) ?_
        refine s_q rfl rfl (y_add rfl (ev_tmp rfl rfl) ev_const) ?_
        refine s_q rfl rfl (y_assign rfl (ev_tmp rfl rfl)) ?_
        refine s_nil ?_
        exact k_loop (fuel1, wi64 (i1 + 1)) ⟨rfl, rfl, trivial⟩ ⟨_, hI.arr .n trivial, h⟩ (Nat.lt_succ_self _)
    · replace h := ite_f hb h
      refine c_exit ?_
      refine k_in ?_
      exact k_join () ⟨rfl, trivial⟩ ⟨_, hI.arr .n trivial, h⟩ rfl

set_option maxRecDepth 100000 in
set_option maxHeartbeats 4000000 in
theorem c_frac_bounded (F : NP) (w0 : World) (hF : ∀ k, F k → k < w0.heap.size) (s1 : List UInt8) (hc : AllCl [] F w0) (r : Int × Bool)
    (h : m_frac_bounded s1 = some r) :
    Calls Tryz.prog 60 #[(str s1)] w0 fun e w => e = .returned (Value.tuple #[(Value.int .i64 r.1), (Value.bool r.2)]) ∧ Ext w0 w ∧ AllCl [] F w := by
  refine ofEnter (R := fun v w => v = (Value.tuple #[(Value.int .i64 r.1), (Value.bool r.2)]) ∧ Ext w0 w ∧ AllCl [] F w) (enter (l := [(str s1)]) Tryz.func60 rfl Tryz.ntmps60 rfl ?_) ?_
  rotate_left
  · rintro _ w ⟨rfl, k1, k2⟩; exact ⟨rfl, k1, k2⟩
  have hI := Bun.start hF hc
  clear hc
  rw [m_frac_bounded] at h
  refine c_seq ?_
  refine c_region rfl ?_
  refine s_q rfl rfl (y_assign rfl ev_const) ?_
  refine s_q rfl rfl (y_assign rfl ev_const) ?_
  refine s_nil ?_
  refine k_next (e := [(0, (str s1))]) ⟨rfl, trivial⟩ ?_
  refine c_seq ?_
  refine c_seq ?_
  refine c_region rfl ?_
  refine s_q rfl rfl (y_move rfl (ev_tmp rfl rfl)) ?_
  refine s_q rfl rfl (y_lens rfl Tryz.underlying9 (ev_tmp rfl rfl)) ?_
  refine s_q rfl rfl (y_gtr rfl (ev_tmp rfl rfl) ev_const) ?_
  refine s_nil ?_
  refine k_next (e := [(0, (str s1)), (8, (Value.bool (decide (10 < (s1.length : Int)))))]) ⟨rfl, rfl, trivial⟩ ?_
  refine c_cond (b := decide (10 < (s1.length : Int))) (ev_tmp rfl rfl) (fun hb => ?_) (fun hb => ?_)
  · replace h := ite_t hb h
    refine c_seq ?_
    refine c_region rfl ?_
    refine s_q rfl rfl (y_assign rfl ev_const) ?_
    refine s_q rfl rfl (y_assign rfl ev_const) ?_
    refine s_nil ?_
    refine k_next (e := [(2, (Value.int .i64 0)), (3, (Value.bool false))]) ⟨rfl, rfl, trivial⟩ ?_
    refine c_ret ?_
    obtain rfl := some_inj h
    exact q_ret (vs := [(Value.int .i64 0), (Value.bool false)]) Tryz.results60 ⟨ev_tmp rfl rfl, ⟨ev_tmp rfl rfl, trivial⟩⟩ ⟨rfl, hI.ext0, hI.fin trivial⟩
  · replace h := ite_f hb h
    refine c_skip ?_
    refine k_next (e := [(0, (str s1))]) ⟨rfl, trivial⟩ ?_
    refine c_seq ?_
    refine c_region rfl ?_
    refine s_q rfl rfl (y_move rfl (ev_tmp rfl rfl)) ?_
    obtain ⟨r1, hx1, h⟩ := bnd_some h
    refine s_call rfl rfl (r_callF (vs := [(str s1), (Value.int .i64 10), (Value.int .i64 64)]) rfl ok_94 ⟨(ev_tmp rfl rfl), ⟨ev_const, ⟨ev_const, trivial⟩⟩⟩) (Calls.mono (c_strconv_ParseInt (Dj F noM) w0 hI.lt s1 10 64 trivial r1 hx1) ?_)
    rintro _ w1 ⟨v1, rfl, hx2, hl1⟩
    refine ⟨_, rfl, ?_⟩
    replace hI := (hI.ext hx2)
    refine s_q rfl rfl (y_move rfl (ev_tmp rfl rfl)) ?_
    refine s_q rfl rfl (y_extract rfl (ev_tmp rfl rfl) rfl) ?_
    refine s_q rfl rfl (y_extract rfl (ev_tmp rfl rfl) rfl) ?_
    refine s_q rfl rfl (y_assign rfl (ev_tmp rfl rfl)) ?_
    refine s_q rfl rfl (y_assign rfl (ev_tmp rfl rfl)) ?_
    refine s_nil ?_
    refine k_next (e := [(4, (Value.int .i64 r1.1))]) ⟨rfl, trivial⟩ ?_
    refine c_seq ?_
    refine c_region rfl ?_
    refine s_q rfl rfl (y_move rfl (ev_tmp rfl rfl)) ?_
    refine s_q rfl rfl (y_move rfl (ev_tmp rfl rfl)) ?_
    refine s_q rfl rfl (y_leq rfl (ev_tmp rfl rfl) ev_const) ?_
    refine s_q rfl rfl (y_assign rfl (ev_tmp rfl rfl)) ?_
    refine s_q rfl rfl (y_assign rfl (ev_tmp rfl rfl)) ?_
    refine s_nil ?_
    refine k_next (e := [(2, (Value.int .i64 r1.1)), (3, (Value.bool (decide (r1.1 ≤ 2147483647))))]) ⟨rfl, rfl, trivial⟩ ?_
    refine c_ret ?_
    obtain rfl := some_inj h
    exact q_ret (vs := [(Value.int .i64 r1.1), (Value.bool (decide (r1.1 ≤ 2147483647)))]) Tryz.results60 ⟨ev_tmp rfl rfl, ⟨ev_tmp rfl rfl, trivial⟩⟩ ⟨rfl, hI.ext0, hI.fin trivial⟩

set_option maxRecDepth 100000 in
set_option maxHeartbeats 4000000 in
theorem c_frac_Parse (F : NP) (w0 : World) (hF : ∀ k, F k → k < w0.heap.size) (s1 : List UInt8) (hc : AllCl [] F w0) (r : GVal × Int)
    (h : m_frac_Parse s1 = some r) :
    Calls Tryz.prog 30 #[(str s1)] w0 fun e w => e = .returned (Value.tuple #[(Value.agg #[(Value.int .i64 r.1.N), (Value.int .i64 r.1.D)]), (Value.int .i64 r.2)]) ∧ Ext w0 w ∧ AllCl [] F w := by
  refine ofEnter (R := fun v w => v = (Value.tuple #[(Value.agg #[(Value.int .i64 r.1.N), (Value.int .i64 r.1.D)]), (Value.int .i64 r.2)]) ∧ Ext w0 w ∧ AllCl [] F w) (enter (l := [(str s1)]) Tryz.func30 rfl Tryz.ntmps30 rfl ?_) ?_
  rotate_left
  · rintro _ w ⟨rfl, k1, k2⟩; exact ⟨rfl, k1, k2⟩
  have hI := Bun.start hF hc
  clear hc
  rw [m_frac_Parse] at h
  refine c_seq ?_
  refine c_region rfl ?_
  refine l_alloc (cs := #[(Value.int .i64 0), (Value.int .i64 0)]) hI rfl rfl rfl zero_27 rfl ?_
  clear hI; intro b1 c1 w1 hI
  refine s_q rfl rfl (y_assign rfl ev_const) ?_
  refine s_nil ?_
  refine k_next (e := [(0, (str s1)), (2, (Value.pointer (some ⟨b1, 0, none⟩)))]) ⟨rfl, rfl, trivial⟩ ?_
  refine c_seq ?_
  refine c_region rfl ?_
  refine s_q rfl rfl (y_move rfl (ev_tmp rfl rfl)) ?_
  obtain ⟨r1, hx1, h⟩ := bnd_some h
  refine s_call rfl rfl (r_callF (vs := [(str s1), (str ([47] : List UInt8))]) rfl ok_57 ⟨(ev_tmp rfl rfl), ⟨ev_const, trivial⟩⟩) (Calls.mono (c_strings_Cut (Dj F c1) w1 hI.lt s1 ([47] : List UInt8) trivial r1 hx1) ?_)
  rintro _ w2 ⟨rfl, hx2, hl1⟩
  refine ⟨_, rfl, ?_⟩
  replace hI := (hI.ext hx2)
  refine s_q rfl rfl (y_move rfl (ev_tmp rfl rfl)) ?_
  refine s_q rfl rfl (y_extract rfl (ev_tmp rfl rfl) rfl) ?_
  refine s_q rfl rfl (y_extract rfl (ev_tmp rfl rfl) rfl) ?_
  refine s_q rfl rfl (y_extract rfl (ev_tmp rfl rfl) rfl) ?_
  refine s_q rfl rfl (y_assign rfl (ev_tmp rfl rfl)) ?_
  refine s_q rfl rfl (y_assign rfl (ev_tmp rfl rfl)) ?_
  refine s_q rfl rfl (y_assign rfl (ev_tmp rfl rfl)) ?_
  refine s_nil ?_
  refine k_next (e := [(2, (Value.pointer (some ⟨b1, 0, none⟩))), (4, (str r1.1)), (5, (str r1.2.1)), (6, (Value.bool r1.2.2))]) ⟨rfl, rfl, rfl, rfl, trivial⟩ ?_
  refine c_seq ?_
  refine c_region rfl ?_
  refine s_q rfl rfl (y_move rfl (ev_tmp rfl rfl)) ?_
  obtain ⟨r2, hx3, h⟩ := bnd_some h
  refine s_call rfl rfl (r_callF (vs := [(str r1.1), (str ([45] : List UInt8))]) rfl ok_58 ⟨(ev_tmp rfl rfl), ⟨ev_const, trivial⟩⟩) (Calls.mono (c_strings_CutPrefix (Dj F c1) w2 hI.lt r1.1 ([45] : List UInt8) trivial r2 hx3) ?_)
  rintro _ w3 ⟨rfl, hx4, hl2⟩
  refine ⟨_, rfl, ?_⟩
  replace hI := (hI.ext hx4)
  refine s_q rfl rfl (y_move rfl (ev_tmp rfl rfl)) ?_
  refine s_q rfl rfl (y_extract rfl (ev_tmp rfl rfl) rfl) ?_
  refine s_q rfl rfl (y_extract rfl (ev_tmp rfl rfl) rfl) ?_
  refine s_q rfl rfl (y_assign rfl (ev_tmp rfl rfl)) ?_
  refine s_q rfl rfl (y_assign rfl (ev_tmp rfl rfl)) ?_
  refine s_nil ?_
  refine k_next (e := [(2, (Value.pointer (some ⟨b1, 0, none⟩))), (5, (str r1.2.1)), (6, (Value.bool r1.2.2)), (7, (str r2.1)), (8, (Value.bool r2.2))]) ⟨rfl, rfl, rfl, rfl, rfl, trivial⟩ ?_
  refine c_seq ?_
  refine c_seq ?_
  refine c_region rfl ?_
  refine s_q rfl rfl (y_move rfl (ev_tmp rfl rfl)) ?_
  obtain ⟨r3, hx5, h⟩ := bnd_some h
  refine s_call rfl rfl (r_callF (vs := [(str r2.1)]) rfl ok_59 ⟨(ev_tmp rfl rfl), trivial⟩) (Calls.mono (c_frac_decimal (Dj F c1) w3 hI.lt r2.1 trivial r3 hx5) ?_)
  rintro _ w4 ⟨rfl, hx6, hl3⟩
  refine ⟨_, rfl, ?_⟩
  replace hI := (hI.ext hx6)
  refine s_q rfl rfl (y_not rfl (ev_tmp rfl rfl)) ?_
  refine s_q rfl rfl (y_move rfl (ev_tmp rfl rfl)) ?_
  refine s_gval (g_false rfl rfl rfl rfl) rfl (fun hc => (y_move rfl (ev_tmp rfl rfl))) ?_
  refine s_gval (g_false rfl rfl rfl rfl) rfl (fun hc => (y_move rfl (ev_gv (ev_tmp rfl rfl) hc))) ?_
  refine s_gval (g_true2 rfl rfl rfl rfl) rfl (fun hc => (y_move rfl (ev_tmp rfl rfl))) ?_
  refine s_gval (g_true2 rfl rfl rfl rfl) rfl (fun hc => (y_eqs rfl (ev_gv (ev_tmp rfl rfl) hc) ev_const)) ?_
  refine s_gval (g_false rfl rfl rfl rfl) rfl (fun hc => (y_and2 rfl hc (ev_tmp rfl rfl) (ev_tmp rfl rfl))) ?_
  refine s_q rfl rfl (y_or rfl (ev_tmp rfl rfl) (ev_tmp rfl rfl)) ?_
  refine s_nil ?_
  refine k_next (e := [(2, (Value.pointer (some ⟨b1, 0, none⟩))), (5, (str r1.2.1)), (6, (Value.bool r1.2.2)), (7, (str r2.1)), (8, (Value.bool r2.2)), (34, (Value.bool ((!r3) || (r2.2 && (decide (r2.1 = ([48] : List UInt8)))))))]) ⟨rfl, rfl, rfl, rfl, rfl, rfl, trivial⟩ ?_
  refine c_cond (b := (!r3) || (r2.2 && (decide (r2.1 = ([48] : List UInt8))))) (ev_tmp rfl rfl) (fun hb => ?_) (fun hb => ?_)
  · replace h := ite_t hb h
    refine c_seq ?_
    refine c_region rfl ?_
    refine s_q rfl rfl (y_build (vs := []) (cs := #[(Value.int .i64 0), (Value.int .i64 0)]) rfl trivial (by kernel_rfl)) ?_
    refine l_store (new := [(Value.int .i64 0), (Value.int .i64 0)]) (cs' := #[(Value.int .i64 0), (Value.int .i64 0)]) hI .z rfl rfl rfl (ev_tmp rfl rfl) (ev_tmp rfl rfl) rfl size_27 rfl rfl rfl ?_
    clear hI; intro c2 w5 hI
    refine s_q rfl rfl (y_assign rfl ev_const) ?_
    refine s_nil ?_
    refine k_next (e := [(2, (Value.pointer (some ⟨b1, 0, none⟩))), (3, (Value.int .i64 5))]) ⟨rfl, rfl, trivial⟩ ?_
    refine c_ret ?_
    obtain rfl := some_inj h
    exact q_ret (vs := [(Value.agg #[(Value.int .i64 0), (Value.int .i64 0)]), (Value.int .i64 5)]) Tryz.results30 ⟨⟨_, ev_tmp rfl rfl, load_agg (l := [(Value.int .i64 0), (Value.int .i64 0)]) Tryz.underlying27 rfl size_27 (CellsAt.of_blk (hI.blk .z) rfl)⟩, ⟨ev_tmp rfl rfl, trivial⟩⟩ ⟨rfl, hI.ext0, hI.fin trivial⟩
  · replace h := ite_f hb h
    refine c_skip ?_
    refine k_next (e := [(2, (Value.pointer (some ⟨b1, 0, none⟩))), (5, (str r1.2.1)), (6, (Value.bool r1.2.2)), (7, (str r2.1)), (8, (Value.bool r2.2))]) ⟨rfl, rfl, rfl, rfl, rfl, trivial⟩ ?_
    refine c_join (α := (List UInt8)) (fun _ => ⟨78, []⟩) (fun x => [(2, (Value.pointer (some ⟨b1, 0, none⟩))), (5, (str x)), (7, (str r2.1)), (8, (Value.bool r2.2))]) (fun x => fun w => ∃ C, Bun noM F w0 C w [MO.box b1 27 #[(Value.int .i64 0), (Value.int .i64 0)]] [] ∧ m_frac_Parse_j1 r2 x = some r) ?_ ?_
    · clear h hI; rintro bottom1 w6 ⟨c3, hI, h⟩
      try dsimp only at hI h
      rw [m_frac_Parse_j1] at h
      refine c_sub (e := [(2, (Value.pointer (some ⟨b1, 0, none⟩))), (5, (str bottom1)), (7, (str r2.1)), (8, (Value.bool r2.2))]) ⟨rfl, rfl, rfl, rfl, trivial⟩ ?_
      refine c_seq ?_
      refine c_region rfl ?_
      refine s_q rfl rfl (y_move rfl (ev_tmp rfl rfl)) ?_
      obtain ⟨r4, hx7, h⟩ := bnd_some h
      refine s_call rfl rfl (r_callF (vs := [(str r2.1)]) rfl ok_60 ⟨(ev_tmp rfl rfl), trivial⟩) (Calls.mono (c_frac_bounded (Dj F c3) w6 hI.lt r2.1 trivial r4 hx7) ?_)
      rintro _ w7 ⟨rfl, hx8, hl4⟩
      refine ⟨_, rfl, ?_⟩
      replace hI := (hI.ext hx8)
      refine s_q rfl rfl (y_move rfl (ev_tmp rfl rfl)) ?_
      refine s_q rfl rfl (y_extract rfl (ev_tmp rfl rfl) rfl) ?_
      refine s_q rfl rfl (y_extract rfl (ev_tmp rfl rfl) rfl) ?_
      refine s_q rfl rfl (y_assign rfl (ev_tmp rfl rfl)) ?_
      refine s_q rfl rfl (y_assign rfl (ev_tmp rfl rfl)) ?_
      refine s_nil ?_
      refine k_next (e := [(2, (Value.pointer (some ⟨b1, 0, none⟩))), (5, (str bottom1)), (8, (Value.bool r2.2)), (9, (Value.int .i64 r4.1)), (10, (Value.bool r4.2))]) ⟨rfl, rfl, rfl, rfl, rfl, trivial⟩ ?_
      refine c_seq ?_
      refine c_region rfl ?_
      refine s_q rfl rfl (y_move rfl (ev_tmp rfl rfl)) ?_
      obtain ⟨r5, hx9, h⟩ := bnd_some h
      refine s_call rfl rfl (r_callF (vs := [(str bottom1)]) rfl ok_60 ⟨(ev_tmp rfl rfl), trivial⟩) (Calls.mono (c_frac_bounded (Dj F c3) w7 hI.lt bottom1 trivial r5 hx9) ?_)
      rintro _ w8 ⟨rfl, hx10, hl5⟩
      refine ⟨_, rfl, ?_⟩
      replace hI := (hI.ext hx10)
      refine s_q rfl rfl (y_move rfl (ev_tmp rfl rfl)) ?_
      refine s_q rfl rfl (y_extract rfl (ev_tmp rfl rfl) rfl) ?_
      refine s_q rfl rfl (y_extract rfl (ev_tmp rfl rfl) rfl) ?_
      refine s_q rfl rfl (y_assign rfl (ev_tmp rfl rfl)) ?_
      refine s_q rfl rfl (y_assign rfl (ev_tmp rfl rfl)) ?_
      refine s_nil ?_
      refine k_next (e := [(2, (Value.pointer (some ⟨b1, 0, none⟩))), (8, (Value.bool r2.2)), (9, (Value.int .i64 r4.1)), (10, (Value.bool r4.2)), (11, (Value.int .i64 r5.1)), (12, (Value.bool r5.2))]) ⟨rfl, rfl, rfl, rfl, rfl, rfl, trivial⟩ ?_
      refine c_seq ?_
      refine c_seq ?_
      refine c_region rfl ?_
      refine s_q rfl rfl (y_move rfl (ev_tmp rfl rfl)) ?_
      refine s_q rfl rfl (y_not rfl (ev_tmp rfl rfl)) ?_
      refine s_q rfl rfl (y_move rfl (ev_tmp rfl rfl)) ?_
      refine s_gval (g_false rfl rfl rfl rfl) rfl (fun hc => (y_move rfl (ev_tmp rfl rfl))) ?_
      refine s_gval (g_false rfl rfl rfl rfl) rfl (fun hc => (y_not rfl (ev_gv (ev_tmp rfl rfl) hc))) ?_
      refine s_q rfl rfl (y_or rfl (ev_tmp rfl rfl) (ev_tmp rfl rfl)) ?_
      refine s_nil ?_
      refine k_next (e := [(2, (Value.pointer (some ⟨b1, 0, none⟩))), (8, (Value.bool r2.2)), (9, (Value.int .i64 r4.1)), (11, (Value.int .i64 r5.1)), (65, (Value.bool ((!r4.2) || (!r5.2))))]) ⟨rfl, rfl, rfl, rfl, rfl, trivial⟩ ?_
      refine c_cond (b := (!r4.2) || (!r5.2)) (ev_tmp rfl rfl) (fun hb => ?_) (fun hb => ?_)
      · replace h := ite_t hb h
        refine c_seq ?_
        refine c_region rfl ?_
        refine s_q rfl rfl (y_build (vs := []) (cs := #[(Value.int .i64 0), (Value.int .i64 0)]) rfl trivial (by kernel_rfl)) ?_
        refine l_store (new := [(Value.int .i64 0), (Value.int .i64 0)]) (cs' := #[(Value.int .i64 0), (Value.int .i64 0)]) hI .z rfl rfl rfl (ev_tmp rfl rfl) (ev_tmp rfl rfl) rfl size_27 rfl rfl rfl ?_
        clear hI; intro c4 w9 hI
        refine s_q rfl rfl (y_assign rfl ev_const) ?_
        refine s_nil ?_
        refine k_next (e := [(2, (Value.pointer (some ⟨b1, 0, none⟩))), (3, (Value.int .i64 3))]) ⟨rfl, rfl, trivial⟩ ?_
        refine c_ret ?_
        obtain rfl := some_inj h
        exact q_ret (vs := [(Value.agg #[(Value.int .i64 0), (Value.int .i64 0)]), (Value.int .i64 3)]) Tryz.results30 ⟨⟨_, ev_tmp rfl rfl, load_agg (l := [(Value.int .i64 0), (Value.int .i64 0)]) Tryz.underlying27 rfl size_27 (CellsAt.of_blk (hI.blk .z) rfl)⟩, ⟨ev_tmp rfl rfl, trivial⟩⟩ ⟨rfl, hI.ext0, hI.fin trivial⟩
      · replace h := ite_f hb h
        refine c_skip ?_
        refine k_next (e := [(2, (Value.pointer (some ⟨b1, 0, none⟩))), (8, (Value.bool r2.2)), (9, (Value.int .i64 r4.1)), (11, (Value.int .i64 r5.1))]) ⟨rfl, rfl, rfl, rfl, trivial⟩ ?_
        refine c_join (α := Int) (fun _ => ⟨78, []⟩) (fun x => [(2, (Value.pointer (some ⟨b1, 0, none⟩))), (9, (Value.int .i64 x)), (11, (Value.int .i64 r5.1))]) (fun x => fun w => ∃ C, Bun noM F w0 C w [MO.box b1 27 #[(Value.int .i64 0), (Value.int .i64 0)]] [] ∧ m_frac_Parse_j2 r5 x = some r) ?_ ?_
        · clear h hI; rintro n1 w10 ⟨c5, hI, h⟩
          try dsimp only at hI h
          rw [m_frac_Parse_j2] at h
          refine c_sub (e := [(2, (Value.pointer (some ⟨b1, 0, none⟩))), (9, (Value.int .i64 n1)), (11, (Value.int .i64 r5.1))]) ⟨rfl, rfl, rfl, trivial⟩ ?_
          refine c_seq ?_
          refine c_region rfl ?_
          refine s_q rfl rfl (y_move rfl (ev_tmp rfl rfl)) ?_
          refine s_q rfl rfl (y_move rfl (ev_tmp rfl rfl)) ?_
          refine s_q rfl rfl (y_build (vs := [(0, (Value.int .i64 n1)), (1, (Value.int .i64 r5.1))]) (cs := #[(Value.int .i64 n1), (Value.int .i64 r5.1)]) rfl ⟨rfl, (ev_tmp rfl rfl), ⟨rfl, (ev_tmp rfl rfl), trivial⟩⟩ (by kernel_rfl)) ?_
          refine l_alloc (cs := #[(Value.int .i64 0), (Value.int .i64 0)]) hI rfl rfl rfl zero_27 rfl ?_
          clear hI; intro b2 c6 w11 hI
          refine l_store (new := [(Value.int .i64 n1), (Value.int .i64 r5.1)]) (cs' := #[(Value.int .i64 n1), (Value.int .i64 r5.1)]) hI .z rfl rfl rfl (ev_tmp rfl rfl) (ev_tmp rfl rfl) rfl size_27 rfl rfl rfl ?_
          clear hI; intro c7 w12 hI
          refine s_nil ?_
          refine k_next (e := [(2, (Value.pointer (some ⟨b1, 0, none⟩))), (13, (Value.pointer (some ⟨b2, 0, none⟩)))]) ⟨rfl, rfl, trivial⟩ ?_
          refine c_seq ?_
          refine c_seq ?_
          refine c_region rfl ?_
          refine s_q rfl rfl (y_loadN (l := [(Value.int .i64 n1), (Value.int .i64 r5.1)]) rfl (ev_tmp rfl rfl) Tryz.underlying27 rfl size_27 (CellsAt.of_blk (hI.blk .z) rfl)) ?_
          obtain ⟨r6, hx11, h⟩ := bnd_some h
          refine s_call rfl rfl (r_callF (vs := [(Value.agg #[(Value.int .i64 n1), (Value.int .i64 r5.1)])]) rfl ok_45 ⟨(ev_tmp rfl rfl), trivial⟩) (Calls.mono (c_frac_Valid (Dj F c7) w12 hI.lt (⟨n1, r5.1⟩ : GVal) trivial r6 hx11) ?_)
          rintro _ w13 ⟨rfl, hx12, hl6⟩
          refine ⟨_, rfl, ?_⟩
          replace hI := (hI.ext hx12)
          refine s_q rfl rfl (y_not rfl (ev_tmp rfl rfl)) ?_
          refine s_nil ?_
          refine k_next (e := [(2, (Value.pointer (some ⟨b1, 0, none⟩))), (13, (Value.pointer (some ⟨b2, 0, none⟩))), (75, (Value.bool (!r6)))]) ⟨rfl, rfl, rfl, trivial⟩ ?_
          refine c_cond (b := !r6) (ev_tmp rfl rfl) (fun hb => ?_) (fun hb => ?_)
          · replace h := ite_t hb h
            refine c_seq ?_
            refine c_region rfl ?_
            refine s_q rfl rfl (y_build (vs := []) (cs := #[(Value.int .i64 0), (Value.int .i64 0)]) rfl trivial (by kernel_rfl)) ?_
            refine l_store (new := [(Value.int .i64 0), (Value.int .i64 0)]) (cs' := #[(Value.int .i64 0), (Value.int .i64 0)]) hI (.s .z) rfl rfl rfl (ev_tmp rfl rfl) (ev_tmp rfl rfl) rfl size_27 rfl rfl rfl ?_
            clear hI; intro c8 w14 hI
            refine s_q rfl rfl (y_assign rfl ev_const) ?_
            refine s_nil ?_
            refine k_next (e := [(2, (Value.pointer (some ⟨b1, 0, none⟩))), (3, (Value.int .i64 5))]) ⟨rfl, rfl, trivial⟩ ?_
            refine c_ret ?_
            obtain rfl := some_inj h
            exact q_ret (vs := [(Value.agg #[(Value.int .i64 0), (Value.int .i64 0)]), (Value.int .i64 5)]) Tryz.results30 ⟨⟨_, ev_tmp rfl rfl, load_agg (l := [(Value.int .i64 0), (Value.int .i64 0)]) Tryz.underlying27 rfl size_27 (CellsAt.of_blk (hI.blk (.s .z)) rfl)⟩, ⟨ev_tmp rfl rfl, trivial⟩⟩ ⟨rfl, hI.ext0, hI.fin trivial⟩
          · replace h := ite_f hb h
            refine c_skip ?_
            refine k_next (e := [(2, (Value.pointer (some ⟨b1, 0, none⟩))), (13, (Value.pointer (some ⟨b2, 0, none⟩)))]) ⟨rfl, rfl, trivial⟩ ?_
            refine c_seq ?_
            refine c_region rfl ?_
            refine s_q rfl rfl (y_loadN (l := [(Value.int .i64 n1), (Value.int .i64 r5.1)]) rfl (ev_tmp rfl rfl) Tryz.underlying27 rfl size_27 (CellsAt.of_blk (hI.blk .z) rfl)) ?_
            refine l_store (new := [(Value.int .i64 n1), (Value.int .i64 r5.1)]) (cs' := #[(Value.int .i64 n1), (Value.int .i64 r5.1)]) hI (.s .z) rfl rfl rfl (ev_tmp rfl rfl) (ev_tmp rfl rfl) rfl size_27 rfl rfl rfl ?_
            clear hI; intro c9 w15 hI
            refine s_q rfl rfl (y_assign rfl ev_const) ?_
            refine s_nil ?_
            refine k_next (e := [(2, (Value.pointer (some ⟨b1, 0, none⟩))), (3, (Value.int .i64 0))]) ⟨rfl, rfl, trivial⟩ ?_
            refine c_ret ?_
            obtain rfl := some_inj h
            exact q_ret (vs := [(Value.agg #[(Value.int .i64 n1), (Value.int .i64 r5.1)]), (Value.int .i64 0)]) Tryz.results30 ⟨⟨_, ev_tmp rfl rfl, load_agg (l := [(Value.int .i64 n1), (Value.int .i64 r5.1)]) Tryz.underlying27 rfl size_27 (CellsAt.of_blk (hI.blk (.s .z)) rfl)⟩, ⟨ev_tmp rfl rfl, trivial⟩⟩ ⟨rfl, hI.ext0, hI.fin trivial⟩
        · skip
          refine c_seq ?_
          refine c_region rfl ?_
          refine s_q rfl rfl (y_move rfl (ev_tmp rfl rfl)) ?_
          refine s_nil ?_
          refine k_next (e := [(2, (Value.pointer (some ⟨b1, 0, none⟩))), (9, (Value.int .i64 r4.1)), (11, (Value.int .i64 r5.1)), (67, (Value.bool r2.2))]) ⟨rfl, rfl, rfl, rfl, trivial⟩ ?_
          refine c_cond (b := r2.2) (ev_tmp rfl rfl) (fun hb => ?_) (fun hb => ?_)
          · replace h := ite_t hb h
            refine c_region rfl ?_
            refine s_q rfl rfl (y_move rfl (ev_tmp rfl rfl)) ?_
            refine s_q rfl rfl (y_neg rfl (ev_tmp rfl rfl)) ?_
            refine s_q rfl rfl (y_assign rfl (ev_tmp rfl rfl)) ?_
            refine s_nil ?_
            exact k_join (wi64 (-r4.1)) ⟨rfl, rfl, rfl, trivial⟩ ⟨_, hI.arr (.c .z .n) trivial, h⟩ rfl
          · replace h := ite_f hb h
            refine c_skip ?_
            exact k_join r4.1 ⟨rfl, rfl, rfl, trivial⟩ ⟨_, hI.arr (.c .z .n) trivial, h⟩ rfl
    · skip
      refine c_seq ?_
      refine c_region rfl ?_
      refine s_q rfl rfl (y_move rfl (ev_tmp rfl rfl)) ?_
      refine s_q rfl rfl (y_not rfl (ev_tmp rfl rfl)) ?_
      refine s_nil ?_
      refine k_next (e := [(2, (Value.pointer (some ⟨b1, 0, none⟩))), (5, (str r1.2.1)), (7, (str r2.1)), (8, (Value.bool r2.2)), (37, (Value.bool (!r1.2.2)))]) ⟨rfl, rfl, rfl, rfl, rfl, trivial⟩ ?_
      refine c_cond (b := !r1.2.2) (ev_tmp rfl rfl) (fun hb => ?_) (fun hb => ?_)
      · replace h := ite_t hb h
        refine c_region rfl ?_
        refine s_q rfl rfl (y_assign rfl ev_const) ?_
        refine s_nil ?_
        exact k_join ([49] : List UInt8) ⟨rfl, rfl, rfl, rfl, trivial⟩ ⟨_, hI.arr (.c .z .n) trivial, h⟩ rfl
      · replace h := ite_f hb h
        refine c_seq ?_
        refine c_region rfl ?_
        refine s_q rfl rfl (y_move rfl (ev_tmp rfl rfl)) ?_
        obtain ⟨r7, hx13, h⟩ := bnd_some h
        refine s_call rfl rfl (r_callF (vs := [(str r1.2.1)]) rfl ok_59 ⟨(ev_tmp rfl rfl), trivial⟩) (Calls.mono (c_frac_decimal (Dj F c1) w4 hI.lt r1.2.1 trivial r7 hx13) ?_)
        rintro _ w16 ⟨rfl, hx14, hl7⟩
        refine ⟨_, rfl, ?_⟩
        replace hI := (hI.ext hx14)
        refine s_q rfl rfl (y_not rfl (ev_tmp rfl rfl)) ?_
        refine s_q rfl rfl (y_move rfl (ev_tmp rfl rfl)) ?_
        refine s_gval (g_false rfl rfl rfl rfl) rfl (fun hc => (y_move rfl (ev_tmp rfl rfl))) ?_
        refine s_gval (g_false rfl rfl rfl rfl) rfl (fun hc => (y_eqs rfl (ev_gv (ev_tmp rfl rfl) hc) ev_const)) ?_
        refine s_q rfl rfl (y_or rfl (ev_tmp rfl rfl) (ev_tmp rfl rfl)) ?_
        refine s_q rfl rfl (y_move rfl (ev_tmp rfl rfl)) ?_
        refine s_gval (g_false rfl rfl rfl rfl) rfl (fun hc => (y_move rfl (ev_tmp rfl rfl))) ?_
        refine s_gval (g_false rfl rfl rfl rfl) rfl (fun hc => (y_eqs rfl (ev_gv (ev_tmp rfl rfl) hc) ev_const)) ?_
        refine s_q rfl rfl (y_or rfl (ev_tmp rfl rfl) (ev_tmp rfl rfl)) ?_
        refine s_nil ?_
        refine k_next (e := [(2, (Value.pointer (some ⟨b1, 0, none⟩))), (5, (str r1.2.1)), (7, (str r2.1)), (8, (Value.bool r2.2)), (48, (Value.bool (((!r7) || (decide (r1.2.1 = ([48] : List UInt8)))) || (decide (r1.2.1 = ([49] : List UInt8))))))]) ⟨rfl, rfl, rfl, rfl, rfl, trivial⟩ ?_
        refine c_cond (b := ((!r7) || (decide (r1.2.1 = ([48] : List UInt8)))) || (decide (r1.2.1 = ([49] : List UInt8)))) (ev_tmp rfl rfl) (fun hb => ?_) (fun hb => ?_)
        · replace h := ite_t hb h
          refine c_seq ?_
          refine c_region rfl ?_
          refine s_q rfl rfl (y_build (vs := []) (cs := #[(Value.int .i64 0), (Value.int .i64 0)]) rfl trivial (by kernel_rfl)) ?_
          refine l_store (new := [(Value.int .i64 0), (Value.int .i64 0)]) (cs' := #[(Value.int .i64 0), (Value.int .i64 0)]) hI .z rfl rfl rfl (ev_tmp rfl rfl) (ev_tmp rfl rfl) rfl size_27 rfl rfl rfl ?_
          clear hI; intro c10 w17 hI
          refine s_q rfl rfl (y_assign rfl ev_const) ?_
          refine s_nil ?_
          refine k_next (e := [(2, (Value.pointer (some ⟨b1, 0, none⟩))), (3, (Value.int .i64 5))]) ⟨rfl, rfl, trivial⟩ ?_
          refine c_ret ?_
          obtain rfl := some_inj h
          exact q_ret (vs := [(Value.agg #[(Value.int .i64 0), (Value.int .i64 0)]), (Value.int .i64 5)]) Tryz.results30 ⟨⟨_, ev_tmp rfl rfl, load_agg (l := [(Value.int .i64 0), (Value.int .i64 0)]) Tryz.underlying27 rfl size_27 (CellsAt.of_blk (hI.blk .z) rfl)⟩, ⟨ev_tmp rfl rfl, trivial⟩⟩ ⟨rfl, hI.ext0, hI.fin trivial⟩
        · replace h := ite_f hb h
          refine c_skip ?_
          exact k_join r1.2.1 ⟨rfl, rfl, rfl, rfl, trivial⟩ ⟨_, hI.arr (.c .z .n) trivial, h⟩ rfl

set_option maxRecDepth 100000 in
set_option maxHeartbeats 4000000 in
theorem c_value_Parse (F : NP) (w0 : World) (hF : ∀ k, F k → k < w0.heap.size) (t1 : GType) (s1 : List UInt8) (hc : AllCl [] F w0) (r : GVal × Int)
    (h : m_value_Parse t1 s1 = some r) :
    Calls Tryz.prog 13 #[(Value.agg #[(Value.int .i64 t1.Kind), (Value.int .i64 t1.Bits), (Value.int .i64 t1.Frac), (Value.int .i64 t1.Round), (Value.int .i64 t1.Over)]), (str s1)] w0 fun e w => e = .returned (Value.tuple #[(Value.agg #[(Value.int .i64 r.1.N), (Value.int .i64 r.1.D)]), (Value.int .i64 r.2)]) ∧ Ext w0 w ∧ AllCl [] F w := by
  refine ofEnter (R := fun v w => v = (Value.tuple #[(Value.agg #[(Value.int .i64 r.1.N), (Value.int .i64 r.1.D)]), (Value.int .i64 r.2)]) ∧ Ext w0 w ∧ AllCl [] F w) (enter (l := [(Value.agg #[(Value.int .i64 t1.Kind), (Value.int .i64 t1.Bits), (Value.int .i64 t1.Frac), (Value.int .i64 t1.Round), (Value.int .i64 t1.Over)]), (str s1)]) Tryz.func13 rfl Tryz.ntmps13 rfl ?_) ?_
  rotate_left
  · rintro _ w ⟨rfl, k1, k2⟩; exact ⟨rfl, k1, k2⟩
  have hI := Bun.start hF hc
  clear hc
  rw [m_value_Parse] at h
  refine c_seq ?_
  refine c_region rfl ?_
  refine l_box (v := (Value.agg #[(Value.int .i64 t1.Kind), (Value.int .i64 t1.Bits), (Value.int .i64 t1.Frac), (Value.int .i64 t1.Round), (Value.int .i64 t1.Over)])) (cs := #[(Value.int .i64 t1.Kind), (Value.int .i64 t1.Bits), (Value.int .i64 t1.Frac), (Value.int .i64 t1.Round), (Value.int .i64 t1.Over)]) hI rfl rfl rfl (ev_tmp rfl rfl) rfl ?_
  clear hI; intro b1 c1 w1 hI
  obtain ⟨c2, hI⟩ := hI.relBox .z
  refine l_alloc (cs := #[(Value.int .i64 0), (Value.int .i64 0)]) hI rfl rfl rfl zero_27 rfl ?_
  clear hI; intro b2 c3 w2 hI
  refine s_q rfl rfl (y_assign rfl ev_const) ?_
  refine s_nil ?_
  refine k_next (e := [(1, (str s1)), (2, (Value.pointer (some ⟨b1, 0, none⟩))), (4, (Value.pointer (some ⟨b2, 0, none⟩)))]) ⟨rfl, rfl, rfl, trivial⟩ ?_
  refine c_seq ?_
  refine c_seq ?_
  refine c_region rfl ?_
  refine s_q rfl rfl (y_loadN (l := [(Value.int .i64 t1.Kind), (Value.int .i64 t1.Bits), (Value.int .i64 t1.Frac), (Value.int .i64 t1.Round), (Value.int .i64 t1.Over)]) rfl (ev_tmp rfl rfl) Tryz.underlying23 rfl size_23 (hI.kblk (l := [(Value.int .i64 t1.Kind), (Value.int .i64 t1.Bits), (Value.int .i64 t1.Frac), (Value.int .i64 t1.Round), (Value.int .i64 t1.Over)]) .z rfl).1) ?_
  obtain ⟨r1, hx1, h⟩ := bnd_some h
  refine s_call rfl rfl (r_callF (vs := [(Value.agg #[(Value.int .i64 t1.Kind), (Value.int .i64 t1.Bits), (Value.int .i64 t1.Frac), (Value.int .i64 t1.Round), (Value.int .i64 t1.Over)])]) rfl ok_22 ⟨(ev_tmp rfl rfl), trivial⟩) (Calls.mono (c_value_ValidateType (Dj F c3) w2 hI.lt t1 trivial r1 hx1) ?_)
  rintro _ w3 ⟨rfl, hx2, hl1⟩
  refine ⟨_, rfl, ?_⟩
  replace hI := (hI.ext hx2)
  refine s_q rfl rfl (y_neq rfl (ev_tmp rfl rfl) ev_const) ?_
  refine s_nil ?_
  refine k_next (e := [(1, (str s1)), (2, (Value.pointer (some ⟨b1, 0, none⟩))), (4, (Value.pointer (some ⟨b2, 0, none⟩))), (11, (Value.bool (!decide (r1 = 0))))]) ⟨rfl, rfl, rfl, rfl, trivial⟩ ?_
  refine c_cond (b := !decide (r1 = 0)) (ev_tmp rfl rfl) (fun hb => ?_) (fun hb => ?_)
  · replace h := ite_t hb h
    refine c_seq ?_
    refine c_region rfl ?_
    refine s_q rfl rfl (y_build (vs := []) (cs := #[(Value.int .i64 0), (Value.int .i64 0)]) rfl trivial (by kernel_rfl)) ?_
    refine l_store (new := [(Value.int .i64 0), (Value.int .i64 0)]) (cs' := #[(Value.int .i64 0), (Value.int .i64 0)]) hI .z rfl rfl rfl (ev_tmp rfl rfl) (ev_tmp rfl rfl) rfl size_27 rfl rfl rfl ?_
    clear hI; intro c4 w4 hI
    refine s_q rfl rfl (y_assign rfl ev_const) ?_
    refine s_nil ?_
    refine k_next (e := [(4, (Value.pointer (some ⟨b2, 0, none⟩))), (5, (Value.int .i64 10))]) ⟨rfl, rfl, trivial⟩ ?_
    refine c_ret ?_
    obtain rfl := some_inj h
    exact q_ret (vs := [(Value.agg #[(Value.int .i64 0), (Value.int .i64 0)]), (Value.int .i64 10)]) Tryz.results13 ⟨⟨_, ev_tmp rfl rfl, load_agg (l := [(Value.int .i64 0), (Value.int .i64 0)]) Tryz.underlying27 rfl size_27 (CellsAt.of_blk (hI.blk .z) rfl)⟩, ⟨ev_tmp rfl rfl, trivial⟩⟩ ⟨rfl, hI.ext0, hI.fin trivial⟩
  · replace h := ite_f hb h
    refine c_skip ?_
    refine k_next (e := [(1, (str s1)), (2, (Value.pointer (some ⟨b1, 0, none⟩))), (4, (Value.pointer (some ⟨b2, 0, none⟩)))]) ⟨rfl, rfl, rfl, trivial⟩ ?_
    refine c_seq ?_
    refine c_region rfl ?_
    refine s_q rfl rfl (y_move rfl (ev_tmp rfl rfl)) ?_
    obtain ⟨r2, hx3, h⟩ := bnd_some h
    refine s_call rfl rfl (r_callF (vs := [(str s1)]) rfl ok_30 ⟨(ev_tmp rfl rfl), trivial⟩) (Calls.mono (c_frac_Parse (Dj F c3) w3 hI.lt s1 trivial r2 hx3) ?_)
    rintro _ w5 ⟨rfl, hx4, hl2⟩
    refine ⟨_, rfl, ?_⟩
    replace hI := (hI.ext hx4)
    refine s_q rfl rfl (y_move rfl (ev_tmp rfl rfl)) ?_
    refine s_q rfl rfl (y_extract rfl (ev_tmp rfl rfl) rfl) ?_
    refine s_q rfl rfl (y_extract rfl (ev_tmp rfl rfl) rfl) ?_
    refine l_alloc (cs := #[(Value.int .i64 0), (Value.int .i64 0)]) hI rfl rfl rfl zero_27 rfl ?_
    clear hI; intro b3 c5 w6 hI
    refine l_store (new := [(Value.int .i64 r2.1.N), (Value.int .i64 r2.1.D)]) (cs' := #[(Value.int .i64 r2.1.N), (Value.int .i64 r2.1.D)]) hI .z rfl rfl rfl (ev_tmp rfl rfl) (ev_tmp rfl rfl) rfl size_27 rfl rfl rfl ?_
    clear hI; intro c6 w7 hI
    refine s_q rfl rfl (y_assign rfl (ev_tmp rfl rfl)) ?_
    refine s_nil ?_
    refine k_next (e := [(2, (Value.pointer (some ⟨b1, 0, none⟩))), (4, (Value.pointer (some ⟨b2, 0, none⟩))), (6, (Value.pointer (some ⟨b3, 0, none⟩))), (7, (Value.int .i64 r2.2))]) ⟨rfl, rfl, rfl, rfl, trivial⟩ ?_
    refine c_seq ?_
    refine c_seq ?_
    refine c_region rfl ?_
    refine s_q rfl rfl (y_move rfl (ev_tmp rfl rfl)) ?_
    refine s_q rfl rfl (y_neq rfl (ev_tmp rfl rfl) ev_const) ?_
    refine s_nil ?_
    refine k_next (e := [(2, (Value.pointer (some ⟨b1, 0, none⟩))), (4, (Value.pointer (some ⟨b2, 0, none⟩))), (6, (Value.pointer (some ⟨b3, 0, none⟩))), (7, (Value.int .i64 r2.2)), (19, (Value.bool (!decide (r2.2 = 0))))]) ⟨rfl, rfl, rfl, rfl, rfl, trivial⟩ ?_
    refine c_cond (b := !decide (r2.2 = 0)) (ev_tmp rfl rfl) (fun hb => ?_) (fun hb => ?_)
    · replace h := ite_t hb h
      refine c_seq ?_
      refine c_region rfl ?_
      refine s_q rfl rfl (y_build (vs := []) (cs := #[(Value.int .i64 0), (Value.int .i64 0)]) rfl trivial (by kernel_rfl)) ?_
      refine s_q rfl rfl (y_move rfl (ev_tmp rfl rfl)) ?_
      refine l_store (new := [(Value.int .i64 0), (Value.int .i64 0)]) (cs' := #[(Value.int .i64 0), (Value.int .i64 0)]) hI (.s .z) rfl rfl rfl (ev_tmp rfl rfl) (ev_tmp rfl rfl) rfl size_27 rfl rfl rfl ?_
      clear hI; intro c7 w8 hI
      refine s_q rfl rfl (y_assign rfl (ev_tmp rfl rfl)) ?_
      refine s_nil ?_
      refine k_next (e := [(4, (Value.pointer (some ⟨b2, 0, none⟩))), (5, (Value.int .i64 r2.2))]) ⟨rfl, rfl, trivial⟩ ?_
      refine c_ret ?_
      obtain rfl := some_inj h
      exact q_ret (vs := [(Value.agg #[(Value.int .i64 0), (Value.int .i64 0)]), (Value.int .i64 r2.2)]) Tryz.results13 ⟨⟨_, ev_tmp rfl rfl, load_agg (l := [(Value.int .i64 0), (Value.int .i64 0)]) Tryz.underlying27 rfl size_27 (CellsAt.of_blk (hI.blk (.s .z)) rfl)⟩, ⟨ev_tmp rfl rfl, trivial⟩⟩ ⟨rfl, hI.ext0, hI.fin trivial⟩
    · replace h := ite_f hb h
      refine c_skip ?_
      refine k_next (e := [(2, (Value.pointer (some ⟨b1, 0, none⟩))), (4, (Value.pointer (some ⟨b2, 0, none⟩))), (6, (Value.pointer (some ⟨b3, 0, none⟩)))]) ⟨rfl, rfl, rfl, trivial⟩ ?_
      refine c_seq ?_
      refine c_seq ?_
      refine c_region rfl ?_
      refine s_q rfl rfl (y_fieldAddr rfl (ev_tmp rfl rfl) Tryz.underlying23 rfl size_3 rfl) ?_
      refine s_q rfl rfl (y_load1 (v := (Value.int .i64 t1.Kind)) rfl (ev_tmp rfl rfl) Tryz.underlying3 rfl (hI.kblk (l := [(Value.int .i64 t1.Kind)]) .z rfl).1) ?_
      refine s_nil ?_
      refine k_next (e := [(2, (Value.pointer (some ⟨b1, 0, none⟩))), (4, (Value.pointer (some ⟨b2, 0, none⟩))), (6, (Value.pointer (some ⟨b3, 0, none⟩))), (23, (Value.int .i64 t1.Kind))]) ⟨rfl, rfl, rfl, rfl, trivial⟩ ?_
      refine c_block ?_
      refine c_seq ?_
      refine c_region rfl ?_
      refine s_q rfl rfl (y_eql rfl (ev_tmp rfl rfl) ev_const) ?_
      refine s_q rfl rfl (y_assign rfl (ev_tmp rfl rfl)) ?_
      refine s_nil ?_
      refine k_next (e := [(2, (Value.pointer (some ⟨b1, 0, none⟩))), (4, (Value.pointer (some ⟨b2, 0, none⟩))), (6, (Value.pointer (some ⟨b3, 0, none⟩))), (23, (Value.int .i64 t1.Kind)), (24, (Value.bool (decide (t1.Kind = 3))))]) ⟨rfl, rfl, rfl, rfl, rfl, trivial⟩ ?_
      refine c_cond (b := decide (t1.Kind = 3)) (ev_tmp rfl rfl) (fun hb => ?_) (fun hb => ?_)
      · replace h := ite_t hb h
        refine c_seq ?_
        refine c_region rfl ?_
        refine s_q rfl rfl (y_fieldAddr rfl (ev_tmp rfl rfl) Tryz.underlying27 rfl size_2 rfl) ?_
        refine s_q rfl rfl (y_load1 (v := (Value.int .i64 r2.1.D)) rfl (ev_tmp rfl rfl) Tryz.underlying2 rfl (CellsAt.of_blk (hI.blk .z) rfl)) ?_
        refine s_q rfl rfl (y_neq rfl (ev_tmp rfl rfl) ev_const) ?_
        refine s_nil ?_
        refine k_next (e := [(4, (Value.pointer (some ⟨b2, 0, none⟩))), (6, (Value.pointer (some ⟨b3, 0, none⟩))), (28, (Value.bool (!decide (r2.1.D = 1))))]) ⟨rfl, rfl, rfl, trivial⟩ ?_
        refine c_cond (b := !decide (r2.1.D = 1)) (ev_tmp rfl rfl) (fun hb => ?_) (fun hb => ?_)
        · replace h := ite_t hb h
          refine c_seq ?_
          refine c_region rfl ?_
          refine s_q rfl rfl (y_build (vs := []) (cs := #[(Value.int .i64 0), (Value.int .i64 0)]) rfl trivial (by kernel_rfl)) ?_
          refine l_store (new := [(Value.int .i64 0), (Value.int .i64 0)]) (cs' := #[(Value.int .i64 0), (Value.int .i64 0)]) hI (.s .z) rfl rfl rfl (ev_tmp rfl rfl) (ev_tmp rfl rfl) rfl size_27 rfl rfl rfl ?_
          clear hI; intro c8 w9 hI
          refine s_q rfl rfl (y_assign rfl ev_const) ?_
          refine s_nil ?_
          refine k_next (e := [(4, (Value.pointer (some ⟨b2, 0, none⟩))), (5, (Value.int .i64 5))]) ⟨rfl, rfl, trivial⟩ ?_
          refine c_ret ?_
          obtain rfl := some_inj h
          exact q_ret (vs := [(Value.agg #[(Value.int .i64 0), (Value.int .i64 0)]), (Value.int .i64 5)]) Tryz.results13 ⟨⟨_, ev_tmp rfl rfl, load_agg (l := [(Value.int .i64 0), (Value.int .i64 0)]) Tryz.underlying27 rfl size_27 (CellsAt.of_blk (hI.blk (.s .z)) rfl)⟩, ⟨ev_tmp rfl rfl, trivial⟩⟩ ⟨rfl, hI.ext0, hI.fin trivial⟩
        · replace h := ite_f hb h
          refine c_skip ?_
          refine k_next (e := [(4, (Value.pointer (some ⟨b2, 0, none⟩))), (6, (Value.pointer (some ⟨b3, 0, none⟩)))]) ⟨rfl, rfl, trivial⟩ ?_
          refine c_seq ?_
          refine c_region rfl ?_
          refine s_q rfl rfl (y_loadN (l := [(Value.int .i64 r2.1.N), (Value.int .i64 r2.1.D)]) rfl (ev_tmp rfl rfl) Tryz.underlying27 rfl size_27 (CellsAt.of_blk (hI.blk .z) rfl)) ?_
          refine l_store (new := [(Value.int .i64 r2.1.N), (Value.int .i64 r2.1.D)]) (cs' := #[(Value.int .i64 r2.1.N), (Value.int .i64 r2.1.D)]) hI (.s .z) rfl rfl rfl (ev_tmp rfl rfl) (ev_tmp rfl rfl) rfl size_27 rfl rfl rfl ?_
          clear hI; intro c9 w10 hI
          refine s_q rfl rfl (y_assign rfl ev_const) ?_
          refine s_nil ?_
          refine k_next (e := [(4, (Value.pointer (some ⟨b2, 0, none⟩))), (5, (Value.int .i64 0))]) ⟨rfl, rfl, trivial⟩ ?_
          refine c_ret ?_
          obtain rfl := some_inj h
          exact q_ret (vs := [(Value.agg #[(Value.int .i64 r2.1.N), (Value.int .i64 r2.1.D)]), (Value.int .i64 0)]) Tryz.results13 ⟨⟨_, ev_tmp rfl rfl, load_agg (l := [(Value.int .i64 r2.1.N), (Value.int .i64 r2.1.D)]) Tryz.underlying27 rfl size_27 (CellsAt.of_blk (hI.blk (.s .z)) rfl)⟩, ⟨ev_tmp rfl rfl, trivial⟩⟩ ⟨rfl, hI.ext0, hI.fin trivial⟩
      · replace h := ite_f hb h
        refine c_seq ?_
        refine c_region rfl ?_
        refine s_q rfl rfl (y_eql rfl (ev_tmp rfl rfl) ev_const) ?_
        refine s_q rfl rfl (y_assign rfl (ev_tmp rfl rfl)) ?_
        refine s_nil ?_
        refine k_next (e := [(2, (Value.pointer (some ⟨b1, 0, none⟩))), (4, (Value.pointer (some ⟨b2, 0, none⟩))), (6, (Value.pointer (some ⟨b3, 0, none⟩))), (30, (Value.bool (decide (t1.Kind = 2))))]) ⟨rfl, rfl, rfl, rfl, trivial⟩ ?_
        refine c_cond (b := decide (t1.Kind = 2)) (ev_tmp rfl rfl) (fun hb => ?_) (fun hb => ?_)
        · replace h := ite_t hb h
          refine c_seq ?_
          refine c_region rfl ?_
          refine s_q rfl rfl (y_fieldAddr rfl (ev_tmp rfl rfl) Tryz.underlying23 rfl size_3 rfl) ?_
          refine s_q rfl rfl (y_load1 (v := (Value.int .i64 t1.Frac)) rfl (ev_tmp rfl rfl) Tryz.underlying3 rfl (hI.kblk (l := [(Value.int .i64 t1.Frac)]) .z rfl).1) ?_
          obtain ⟨ho1, h⟩ := chk_some h
          refine s_q rfl rfl (y_shl rfl ev_const (ev_tmp rfl rfl) ho1) ?_
          obtain ⟨one1, hx5, h⟩ := bnd_some h
          refine s_q rfl rfl (binU (y_assign rfl (ev_tmp rfl rfl)) (congrArg (Value.int .i64) (some_inj hx5))) ?_
          refine s_nil ?_
          refine k_next (e := [(2, (Value.pointer (some ⟨b1, 0, none⟩))), (4, (Value.pointer (some ⟨b2, 0, none⟩))), (6, (Value.pointer (some ⟨b3, 0, none⟩))), (8, (Value.int .i64 one1))]) ⟨rfl, rfl, rfl, rfl, trivial⟩ ?_
          refine c_seq ?_
          refine c_seq ?_
          refine c_region rfl ?_
          refine s_q rfl rfl (y_move rfl (ev_tmp rfl rfl)) ?_
          refine s_q rfl rfl (y_fieldAddr rfl (ev_tmp rfl rfl) Tryz.underlying27 rfl size_2 rfl) ?_
          refine s_q rfl rfl (y_load1 (v := (Value.int .i64 r2.1.D)) rfl (ev_tmp rfl rfl) Tryz.underlying2 rfl (CellsAt.of_blk (hI.blk .z) rfl)) ?_
          obtain ⟨ho2, h⟩ := chk_some h
          refine s_q rfl rfl (y_rem rfl (ev_tmp rfl rfl) (ev_tmp rfl rfl) ho2) ?_
          refine s_q rfl rfl (y_neq rfl (ev_tmp rfl rfl) ev_const) ?_
          refine s_nil ?_
          refine k_next (e := [(2, (Value.pointer (some ⟨b1, 0, none⟩))), (4, (Value.pointer (some ⟨b2, 0, none⟩))), (6, (Value.pointer (some ⟨b3, 0, none⟩))), (8, (Value.int .i64 one1)), (39, (Value.bool (!decide (Int.tmod one1 r2.1.D = 0))))]) ⟨rfl, rfl, rfl, rfl, rfl, trivial⟩ ?_
          refine c_cond (b := !decide (Int.tmod one1 r2.1.D = 0)) (ev_tmp rfl rfl) (fun hb => ?_) (fun hb => ?_)
          · replace h := ite_t hb h
            refine c_seq ?_
            refine c_region rfl ?_
            refine s_q rfl rfl (y_build (vs := []) (cs := #[(Value.int .i64 0), (Value.int .i64 0)]) rfl trivial (by kernel_rfl)) ?_
            refine l_store (new := [(Value.int .i64 0), (Value.int .i64 0)]) (cs' := #[(Value.int .i64 0), (Value.int .i64 0)]) hI (.s .z) rfl rfl rfl (ev_tmp rfl rfl) (ev_tmp rfl rfl) rfl size_27 rfl rfl rfl ?_
            clear hI; intro c10 w11 hI
            refine s_q rfl rfl (y_assign rfl ev_const) ?_
            refine s_nil ?_
            refine k_next (e := [(4, (Value.pointer (some ⟨b2, 0, none⟩))), (5, (Value.int .i64 5))]) ⟨rfl, rfl, trivial⟩ ?_
            refine c_ret ?_
            obtain rfl := some_inj h
            exact q_ret (vs := [(Value.agg #[(Value.int .i64 0), (Value.int .i64 0)]), (Value.int .i64 5)]) Tryz.results13 ⟨⟨_, ev_tmp rfl rfl, load_agg (l := [(Value.int .i64 0), (Value.int .i64 0)]) Tryz.underlying27 rfl size_27 (CellsAt.of_blk (hI.blk (.s .z)) rfl)⟩, ⟨ev_tmp rfl rfl, trivial⟩⟩ ⟨rfl, hI.ext0, hI.fin trivial⟩
          · replace h := ite_f hb h
            refine c_skip ?_
            refine k_next (e := [(2, (Value.pointer (some ⟨b1, 0, none⟩))), (4, (Value.pointer (some ⟨b2, 0, none⟩))), (6, (Value.pointer (some ⟨b3, 0, none⟩))), (8, (Value.int .i64 one1))]) ⟨rfl, rfl, rfl, rfl, trivial⟩ ?_
            refine c_seq ?_
            refine c_drawX [8] false (.c (0, .q) (.c (1, .q) (.c (2, .q) (.c (3, .q) (.c (4, .q) (.c (5, .q) (.c (6, .q) (.c (7, .q) (.c (8, .s) .n))))))))) hI (by kernel_rfl) (by kernel_rfl) ?_
            clear hI; intro w12 hI
            refine a_q rfl rfl rfl (fun w' => (y_fieldAddr rfl (ev_tmp rfl rfl) Tryz.underlying27 rfl size_2 rfl)) ?_
            refine a_read rfl rfl rfl (fun w' hw' => (y_load1 (v := (Value.int .i64 r2.1.N)) rfl (ev_tmp rfl rfl) Tryz.underlying2 rfl ((CA.blk (hI.blk .z) rfl).at_ (SX.any rfl hw')))) (by kernel_rfl) ?_
            refine a_q rfl rfl rfl (fun w' => (y_move rfl (ev_tmp rfl rfl))) ?_
            refine a_q rfl rfl rfl (fun w' => (y_fieldAddr rfl (ev_tmp rfl rfl) Tryz.underlying27 rfl size_2 rfl)) ?_
            refine a_read rfl rfl rfl (fun w' hw' => (y_load1 (v := (Value.int .i64 r2.1.D)) rfl (ev_tmp rfl rfl) Tryz.underlying2 rfl ((CA.blk (hI.blk .z) rfl).at_ (SX.any rfl hw')))) (by kernel_rfl) ?_
            refine a_q rfl rfl rfl (fun w' => (y_quo rfl (ev_tmp rfl rfl) (ev_tmp rfl rfl) ho2)) ?_
            refine a_q rfl rfl rfl (fun w' => (y_mul rfl (ev_tmp rfl rfl) (ev_tmp rfl rfl))) ?_
            refine a_q rfl rfl rfl (fun w' => (y_build (vs := [(0, (Value.int .i64 (wi64 (r2.1.N * (wi64 (Int.tdiv one1 r2.1.D)))))), (1, (Value.int .i64 1))]) (cs := #[(Value.int .i64 (wi64 (r2.1.N * (wi64 (Int.tdiv one1 r2.1.D))))), (Value.int .i64 1)]) rfl ⟨rfl, (ev_tmp rfl rfl), ⟨rfl, ev_const, trivial⟩⟩ (by kernel_rfl))) ?_
            refine a_turn (F := F) (C := c6) rfl rfl ?_
            refine la_store (new := [(Value.int .i64 (wi64 (r2.1.N * (wi64 (Int.tdiv one1 r2.1.D))))), (Value.int .i64 1)]) (cs' := #[(Value.int .i64 (wi64 (r2.1.N * (wi64 (Int.tdiv one1 r2.1.D))))), (Value.int .i64 1)]) hI .z rfl rfl rfl rfl (ev_tmp rfl rfl) (ev_tmp rfl rfl) rfl size_27 rfl rfl rfl ?_
            clear hI; intro c11 w13 hI
            refine a_nil ?_
            refine k_next (e := [(2, (Value.pointer (some ⟨b1, 0, none⟩))), (4, (Value.pointer (some ⟨b2, 0, none⟩))), (6, (Value.pointer (some ⟨b3, 0, none⟩)))]) ⟨rfl, rfl, rfl, trivial⟩ ?_
            refine c_seq ?_
            refine c_region rfl ?_
            refine s_q rfl rfl (y_loadN (l := [(Value.int .i64 t1.Kind), (Value.int .i64 t1.Bits), (Value.int .i64 t1.Frac), (Value.int .i64 t1.Round), (Value.int .i64 t1.Over)]) rfl (ev_tmp rfl rfl) Tryz.underlying23 rfl size_23 (hI.kblk (l := [(Value.int .i64 t1.Kind), (Value.int .i64 t1.Bits), (Value.int .i64 t1.Frac), (Value.int .i64 t1.Round), (Value.int .i64 t1.Over)]) .z rfl).1) ?_
            refine s_q rfl rfl (y_loadN (l := [(Value.int .i64 (wi64 (r2.1.N * (wi64 (Int.tdiv one1 r2.1.D))))), (Value.int .i64 1)]) rfl (ev_tmp rfl rfl) Tryz.underlying27 rfl size_27 (CellsAt.of_blk (hI.blk .z) rfl)) ?_
            obtain ⟨r3, hx6, h⟩ := bnd_some h
            refine s_call rfl rfl (r_callF (vs := [(Value.agg #[(Value.int .i64 t1.Kind), (Value.int .i64 t1.Bits), (Value.int .i64 t1.Frac), (Value.int .i64 t1.Round), (Value.int .i64 t1.Over)]), (Value.agg #[(Value.int .i64 (wi64 (r2.1.N * (wi64 (Int.tdiv one1 r2.1.D))))), (Value.int .i64 1)])]) rfl ok_31 ⟨(ev_tmp rfl rfl), ⟨(ev_tmp rfl rfl), trivial⟩⟩) (Calls.mono (c_fixed_Valid (Dj F c11) w13 hI.lt t1 (⟨wi64 (r2.1.N * (wi64 (Int.tdiv one1 r2.1.D))), 1⟩ : GVal) trivial r3 hx6) ?_)
            rintro _ w14 ⟨rfl, hx7, hl3⟩
            refine ⟨_, rfl, ?_⟩
            replace hI := (hI.ext hx7)
            refine s_q rfl rfl (y_not rfl (ev_tmp rfl rfl)) ?_
            refine s_nil ?_
            refine k_next (e := [(4, (Value.pointer (some ⟨b2, 0, none⟩))), (6, (Value.pointer (some ⟨b3, 0, none⟩))), (52, (Value.bool (!r3)))]) ⟨rfl, rfl, rfl, trivial⟩ ?_
            refine c_cond (b := !r3) (ev_tmp rfl rfl) (fun hb => ?_) (fun hb => ?_)
            · replace h := ite_t hb h
              refine c_seq ?_
              refine c_region rfl ?_
              refine s_q rfl rfl (y_build (vs := []) (cs := #[(Value.int .i64 0), (Value.int .i64 0)]) rfl trivial (by kernel_rfl)) ?_
              refine l_store (new := [(Value.int .i64 0), (Value.int .i64 0)]) (cs' := #[(Value.int .i64 0), (Value.int .i64 0)]) hI (.s .z) rfl rfl rfl (ev_tmp rfl rfl) (ev_tmp rfl rfl) rfl size_27 rfl rfl rfl ?_
              clear hI; intro c12 w15 hI
              refine s_q rfl rfl (y_assign rfl ev_const) ?_
              refine s_nil ?_
              refine k_next (e := [(4, (Value.pointer (some ⟨b2, 0, none⟩))), (5, (Value.int .i64 3))]) ⟨rfl, rfl, trivial⟩ ?_
              refine c_ret ?_
              obtain rfl := some_inj h
              exact q_ret (vs := [(Value.agg #[(Value.int .i64 0), (Value.int .i64 0)]), (Value.int .i64 3)]) Tryz.results13 ⟨⟨_, ev_tmp rfl rfl, load_agg (l := [(Value.int .i64 0), (Value.int .i64 0)]) Tryz.underlying27 rfl size_27 (CellsAt.of_blk (hI.blk (.s .z)) rfl)⟩, ⟨ev_tmp rfl rfl, trivial⟩⟩ ⟨rfl, hI.ext0, hI.fin trivial⟩
            · replace h := ite_f hb h
              refine c_skip ?_
              refine k_next (e := [(4, (Value.pointer (some ⟨b2, 0, none⟩))), (6, (Value.pointer (some ⟨b3, 0, none⟩)))]) ⟨rfl, rfl, trivial⟩ ?_
              refine c_seq ?_
              refine c_region rfl ?_
              refine s_q rfl rfl (y_loadN (l := [(Value.int .i64 (wi64 (r2.1.N * (wi64 (Int.tdiv one1 r2.1.D))))), (Value.int .i64 1)]) rfl (ev_tmp rfl rfl) Tryz.underlying27 rfl size_27 (CellsAt.of_blk (hI.blk .z) rfl)) ?_
              refine l_store (new := [(Value.int .i64 (wi64 (r2.1.N * (wi64 (Int.tdiv one1 r2.1.D))))), (Value.int .i64 1)]) (cs' := #[(Value.int .i64 (wi64 (r2.1.N * (wi64 (Int.tdiv one1 r2.1.D))))), (Value.int .i64 1)]) hI (.s .z) rfl rfl rfl (ev_tmp rfl rfl) (ev_tmp rfl rfl) rfl size_27 rfl rfl rfl ?_
              clear hI; intro c13 w16 hI
              refine s_q rfl rfl (y_assign rfl ev_const) ?_
              refine s_nil ?_
              refine k_next (e := [(4, (Value.pointer (some ⟨b2, 0, none⟩))), (5, (Value.int .i64 0))]) ⟨rfl, rfl, trivial⟩ ?_
              refine c_ret ?_
              obtain rfl := some_inj h
              exact q_ret (vs := [(Value.agg #[(Value.int .i64 (wi64 (r2.1.N * (wi64 (Int.tdiv one1 r2.1.D))))), (Value.int .i64 1)]), (Value.int .i64 0)]) Tryz.results13 ⟨⟨_, ev_tmp rfl rfl, load_agg (l := [(Value.int .i64 (wi64 (r2.1.N * (wi64 (Int.tdiv one1 r2.1.D))))), (Value.int .i64 1)]) Tryz.underlying27 rfl size_27 (CellsAt.of_blk (hI.blk (.s .z)) rfl)⟩, ⟨ev_tmp rfl rfl, trivial⟩⟩ ⟨rfl, hI.ext0, hI.fin trivial⟩
        · replace h := ite_f hb h
          refine c_skip ?_
          refine k_next (e := [(4, (Value.pointer (some ⟨b2, 0, none⟩))), (6, (Value.pointer (some ⟨b3, 0, none⟩)))]) ⟨rfl, rfl, trivial⟩ ?_
          refine c_seq ?_
          refine c_region rfl ?_
          refine s_q rfl rfl (y_loadN (l := [(Value.int .i64 r2.1.N), (Value.int .i64 r2.1.D)]) rfl (ev_tmp rfl rfl) Tryz.underlying27 rfl size_27 (CellsAt.of_blk (hI.blk .z) rfl)) ?_
          refine l_store (new := [(Value.int .i64 r2.1.N), (Value.int .i64 r2.1.D)]) (cs' := #[(Value.int .i64 r2.1.N), (Value.int .i64 r2.1.D)]) hI (.s .z) rfl rfl rfl (ev_tmp rfl rfl) (ev_tmp rfl rfl) rfl size_27 rfl rfl rfl ?_
          clear hI; intro c14 w17 hI
          refine s_q rfl rfl (y_assign rfl ev_const) ?_
          refine s_nil ?_
          refine k_next (e := [(4, (Value.pointer (some ⟨b2, 0, none⟩))), (5, (Value.int .i64 0))]) ⟨rfl, rfl, trivial⟩ ?_
          refine c_ret ?_
          obtain rfl := some_inj h
          exact q_ret (vs := [(Value.agg #[(Value.int .i64 r2.1.N), (Value.int .i64 r2.1.D)]), (Value.int .i64 0)]) Tryz.results13 ⟨⟨_, ev_tmp rfl rfl, load_agg (l := [(Value.int .i64 r2.1.N), (Value.int .i64 r2.1.D)]) Tryz.underlying27 rfl size_27 (CellsAt.of_blk (hI.blk (.s .z)) rfl)⟩, ⟨ev_tmp rfl rfl, trivial⟩⟩ ⟨rfl, hI.ext0, hI.fin trivial⟩

set_option maxRecDepth 100000 in
set_option maxHeartbeats 4000000 in
theorem c_ref01_Whole (F : NP) (w0 : World) (hF : ∀ k, F k → k < w0.heap.size) (s1 : List UInt8) (hc : AllCl [] F w0) (r : Bool)
    (h : m_ref01_Whole s1 = some r) :
    Calls Tryz.prog 63 #[(str s1)] w0 fun e w => e = .returned (Value.bool r) ∧ Ext w0 w ∧ AllCl [] F w := by
  refine ofEnter (R := fun v w => v = (Value.bool r) ∧ Ext w0 w ∧ AllCl [] F w) (enter (l := [(str s1)]) Tryz.func63 rfl Tryz.ntmps63 rfl ?_) ?_
  rotate_left
  · rintro _ w ⟨rfl, k1, k2⟩; exact ⟨rfl, k1, k2⟩
  have hI := Bun.start hF hc
  clear hc
  rw [m_ref01_Whole] at h
  refine c_seq ?_
  refine c_region rfl ?_
  refine s_q rfl rfl (y_assign rfl ev_const) ?_
  refine s_nil ?_
  refine k_next (e := [(0, (str s1))]) ⟨rfl, trivial⟩ ?_
  refine c_seq ?_
  refine c_region rfl ?_
  refine s_q rfl rfl (y_assign rfl ev_const) ?_
  refine s_nil ?_
  refine k_next (e := [(0, (str s1)), (3, (Value.int .i64 0))]) ⟨rfl, rfl, trivial⟩ ?_
  refine c_join (α := Int) (fun _ => ⟨45, []⟩) (fun x => [(0, (str s1)), (3, (Value.int .i64 x))]) (fun x => fun w => ∃ C, Bun noM F w0 C w [] [] ∧ m_ref01_Whole_j1 s1 x = some r) ?_ ?_
  · clear h hI; rintro from1 w1 ⟨c1, hI, h⟩
    try dsimp only at hI h
    rw [m_ref01_Whole_j1] at h
    refine c_sub (e := [(0, (str s1)), (3, (Value.int .i64 from1))]) ⟨rfl, rfl, trivial⟩ ?_
    refine c_join (α := Unit) (fun _ => ⟨45, []⟩) (fun _ => [(0, (str s1)), (3, (Value.int .i64 from1))]) (fun _ => fun w => ∃ C, Bun noM F w0 C w [] [] ∧ m_ref01_Whole_j2 from1 s1 = some r) ?_ ?_
    · clear h hI; rintro _ w2 ⟨c2, hI, h⟩
      try dsimp only at hI h
      rw [m_ref01_Whole_j2] at h
      refine c_sub (e := [(0, (str s1)), (3, (Value.int .i64 from1))]) ⟨rfl, rfl, trivial⟩ ?_
      refine c_seq ?_
      refine c_region rfl ?_
      refine s_q rfl rfl (y_move rfl (ev_tmp rfl rfl)) ?_
      refine s_q rfl rfl (y_lens rfl Tryz.underlying9 (ev_tmp rfl rfl)) ?_
      refine s_q rfl rfl (y_move rfl (ev_tmp rfl rfl)) ?_
      refine s_q rfl rfl (y_gtr rfl (ev_tmp rfl rfl) (ev_tmp rfl rfl)) ?_
      refine s_q rfl rfl (y_move rfl (ev_tmp rfl rfl)) ?_
      refine s_gval (g_true rfl rfl rfl rfl) rfl (fun hc => (y_move rfl (ev_tmp rfl rfl))) ?_
      refine s_gval (g_true rfl rfl rfl rfl) rfl (fun hc => (y_move rfl (ev_tmp rfl rfl))) ?_
      obtain ⟨b1, hx1, h⟩ := bnd_some h
      replace hx1 := gd_some hx1
      refine s_gval (g_true rfl rfl rfl rfl) rfl (fun hc => (y_satl rfl Tryz.underlying9 (ev_gv (ev_tmp rfl rfl) hc) (ev_gv (ev_tmp rfl rfl) hc) (hx1 hc))) ?_
      refine s_gval (g_true rfl rfl rfl rfl) rfl (fun hc => (y_neq rfl (ev_gv (ev_tmp rfl rfl) hc) ev_const)) ?_
      refine s_gval (g_true rfl rfl rfl rfl) rfl (fun hc => (y_move rfl (ev_gv (ev_tmp rfl rfl) hc))) ?_
      refine s_gval (g_false2 rfl rfl rfl rfl) rfl (fun hc => (y_move rfl (ev_tmp rfl rfl))) ?_
      refine s_gval (g_false2 rfl rfl rfl rfl) rfl (fun hc => (y_lens rfl Tryz.underlying9 (ev_gv (ev_tmp rfl rfl) hc))) ?_
      refine s_gval (g_false2 rfl rfl rfl rfl) rfl (fun hc => (y_eql rfl (ev_gv (ev_tmp rfl rfl) hc) ev_const)) ?_
      refine s_gval (g_true rfl rfl rfl rfl) rfl (fun hc => (y_or2 rfl hc (ev_tmp rfl rfl) (ev_tmp rfl rfl))) ?_
      refine s_q rfl rfl (y_and rfl (ev_tmp rfl rfl) (ev_tmp rfl rfl)) ?_
      refine s_q rfl rfl (y_assign rfl (ev_tmp rfl rfl)) ?_
      refine s_nil ?_
      refine k_next (e := [(2, (Value.bool ((decide (from1 < (s1.length : Int))) && ((!decide (b1 = 48)) || (decide ((s1.length : Int) = 1))))))]) ⟨rfl, trivial⟩ ?_
      refine c_ret ?_
      obtain rfl := some_inj h
      exact q_ret (vs := [(Value.bool ((decide (from1 < (s1.length : Int))) && ((!decide (b1 = 48)) || (decide ((s1.length : Int) = 1)))))]) Tryz.results63 ⟨ev_tmp rfl rfl, trivial⟩ ⟨rfl, hI.ext0, hI.fin trivial⟩
    · skip
      refine c_seq ?_
      refine c_region rfl ?_
      refine s_q rfl rfl (y_move rfl (ev_tmp rfl rfl)) ?_
      refine s_q rfl rfl (y_assign rfl (ev_tmp rfl rfl)) ?_
      refine s_nil ?_
      refine k_next (e := [(0, (str s1)), (3, (Value.int .i64 from1)), (4, (Value.int .i64 from1))]) ⟨rfl, rfl, rfl, trivial⟩ ?_
      refine c_block ?_
      refine c_loop (α := Nat × Int) (fun x => fun w => ∃ C, Bun noM F w0 C w [] [] ∧ m_ref01_Whole_l1 s1 from1 (x.1) (x.2) = some r) (fun x _ => x.1) (fun x => [(0, (str s1)), (3, (Value.int .i64 from1)), (4, (Value.int .i64 (x.2)))]) (fu, from1) ⟨_, hI.arr .n trivial, h⟩ ⟨rfl, rfl, rfl, trivial⟩ ?_
      clear h hI; rintro ⟨fuel1, i1⟩ w3 ⟨c3, hI, h⟩
      dsimp only at hI h
      rcases fuel1 with _ | fuel1
      · rw [m_ref01_Whole_l1] at h; cases h
      rw [m_ref01_Whole_l1] at h
      refine c_sub (e := [(0, (str s1)), (3, (Value.int .i64 from1)), (4, (Value.int .i64 i1))]) ⟨rfl, rfl, rfl, trivial⟩ ?_
      refine c_seq ?_
      refine c_seq ?_
      refine c_region rfl ?_
      refine s_q rfl rfl (y_move rfl (ev_tmp rfl rfl)) ?_
      refine s_q rfl rfl (y_move rfl (ev_tmp rfl rfl)) ?_
      refine s_q rfl rfl (y_lens rfl Tryz.underlying9 (ev_tmp rfl rfl)) ?_
      refine s_q rfl rfl (y_lss rfl (ev_tmp rfl rfl) (ev_tmp rfl rfl)) ?_
      refine s_nil ?_
      refine k_next (e := [(0, (str s1)), (3, (Value.int .i64 from1)), (4, (Value.int .i64 i1)), (17, (Value.bool (decide (i1 < (s1.length : Int)))))]) ⟨rfl, rfl, rfl, rfl, trivial⟩ ?_
      refine c_cond (b := decide (i1 < (s1.length : Int))) (ev_tmp rfl rfl) (fun hb => ?_) (fun hb => ?_)
      · replace h := ite_t hb h
        refine c_skip ?_
        refine k_next (e := [(0, (str s1)), (3, (Value.int .i64 from1)), (4, (Value.int .i64 i1))]) ⟨rfl, rfl, rfl, trivial⟩ ?_
        refine c_seq ?_
        refine c_block ?_
        refine c_seq ?_
        refine c_region rfl ?_
        refine s_q rfl rfl (y_move rfl (ev_tmp rfl rfl)) ?_
        refine s_q rfl rfl (y_move rfl (ev_tmp rfl rfl)) ?_
        obtain ⟨b2, hx2, h⟩ := bnd_some h
        refine s_q rfl rfl (y_satl rfl Tryz.underlying9 (ev_tmp rfl rfl) (ev_tmp rfl rfl) hx2) ?_
        refine s_q rfl rfl (y_lss rfl (ev_tmp rfl rfl) ev_const) ?_
        refine s_q rfl rfl (y_move rfl (ev_tmp rfl rfl)) ?_
        refine s_gval (g_false rfl rfl rfl rfl) rfl (fun hc => (y_move rfl (ev_tmp rfl rfl))) ?_
        refine s_gval (g_false rfl rfl rfl rfl) rfl (fun hc => (y_move rfl (ev_tmp rfl rfl))) ?_
        obtain ⟨b3, hx3, h⟩ := bnd_some h
        replace hx3 := gd_some hx3
        refine s_gval (g_false rfl rfl rfl rfl) rfl (fun hc => (y_satl rfl Tryz.underlying9 (ev_gv (ev_tmp rfl rfl) hc) (ev_gv (ev_tmp rfl rfl) hc) (hx3 hc))) ?_
        refine s_gval (g_false rfl rfl rfl rfl) rfl (fun hc => (y_gtr rfl (ev_gv (ev_tmp rfl rfl) hc) ev_const)) ?_
        refine s_q rfl rfl (y_or rfl (ev_tmp rfl rfl) (ev_tmp rfl rfl)) ?_
        refine s_nil ?_
        refine k_next (e := [(0, (str s1)), (3, (Value.int .i64 from1)), (4, (Value.int .i64 i1)), (29, (Value.bool ((decide (b2 < 48)) || (decide (57 < b3)))))]) ⟨rfl, rfl, rfl, rfl, trivial⟩ ?_
        refine c_cond (b := (decide (b2 < 48)) || (decide (57 < b3))) (ev_tmp rfl rfl) (fun hb => ?_) (fun hb => ?_)
        · replace h := ite_t hb h
          refine c_seq ?_
          refine c_region rfl ?_
          refine s_q rfl rfl (y_assign rfl ev_const) ?_
          refine s_nil ?_
          refine k_next (e := [(2, (Value.bool false))]) ⟨rfl, trivial⟩ ?_
          refine c_ret ?_
          obtain rfl := some_inj h
          exact q_ret (vs := [(Value.bool false)]) Tryz.results63 ⟨ev_tmp rfl rfl, trivial⟩ ⟨rfl, hI.ext0, hI.fin trivial⟩
        · replace h := ite_f hb h
          refine c_skip ?_
          refine k_next (e := [(0, (str s1)), (3, (Value.int .i64 from1)), (4, (Value.int .i64 i1))]) ⟨rfl, rfl, rfl, trivial⟩ ?_
          refine c_region rfl ?_
          refine s_q rfl rfl (y_move rfl (ev_tmp rfl rfl)) ?_
          refine s_q rfl rfl (y_add rfl (ev_tmp rfl rfl) ev_const) ?_
          refine s_q rfl rfl (y_assign rfl (ev_tmp rfl rfl)) ?_
          refine s_nil ?_
          exact k_loop (fuel1, wi64 (i1 + 1)) ⟨rfl, rfl, rfl, trivial⟩ ⟨_, hI.arr .n trivial, h⟩ (Nat.lt_succ_self _)
      · replace h := ite_f hb h
        refine c_exit ?_
        refine k_in ?_
        exact k_join () ⟨rfl, rfl, trivial⟩ ⟨_, hI.arr .n trivial, h⟩ rfl
  · skip
    refine c_seq ?_
    refine c_region rfl ?_
    refine s_q rfl rfl (y_move rfl (ev_tmp rfl rfl)) ?_
    refine s_q rfl rfl (y_lens rfl Tryz.underlying9 (ev_tmp rfl rfl)) ?_
    refine s_q rfl rfl (y_gtr rfl (ev_tmp rfl rfl) ev_const) ?_
    refine s_q rfl rfl (y_move rfl (ev_tmp rfl rfl)) ?_
    refine s_gval (g_true rfl rfl rfl rfl) rfl (fun hc => (y_move rfl (ev_tmp rfl rfl))) ?_
    obtain ⟨b4, hx4, h⟩ := bnd_some h
    replace hx4 := gd_some hx4
    refine s_gval (g_true rfl rfl rfl rfl) rfl (fun hc => (y_satl rfl Tryz.underlying9 (ev_gv (ev_tmp rfl rfl) hc) ev_const (hx4 hc))) ?_
    refine s_gval (g_true rfl rfl rfl rfl) rfl (fun hc => (y_eql rfl (ev_gv (ev_tmp rfl rfl) hc) ev_const)) ?_
    refine s_q rfl rfl (y_and rfl (ev_tmp rfl rfl) (ev_tmp rfl rfl)) ?_
    refine s_nil ?_
    refine k_next (e := [(0, (str s1)), (3, (Value.int .i64 0)), (12, (Value.bool ((decide (1 < (s1.length : Int))) && (decide (b4 = 45)))))]) ⟨rfl, rfl, rfl, trivial⟩ ?_
    refine c_cond (b := (decide (1 < (s1.length : Int))) && (decide (b4 = 45))) (ev_tmp rfl rfl) (fun hb => ?_) (fun hb => ?_)
    · replace h := ite_t hb h
      refine c_region rfl ?_
      refine s_q rfl rfl (y_assign rfl ev_const) ?_
      refine s_nil ?_
      exact k_join 1 ⟨rfl, rfl, trivial⟩ ⟨_, hI.arr .n trivial, h⟩ rfl
    · replace h := ite_f hb h
      refine c_skip ?_
      exact k_join 0 ⟨rfl, rfl, trivial⟩ ⟨_, hI.arr .n trivial, h⟩ rfl

set_option maxRecDepth 100000 in
set_option maxHeartbeats 4000000 in
theorem c_ref01_value (F : NP) (w0 : World) (hF : ∀ k, F k → k < w0.heap.size) (s1 : List UInt8) (hc : AllCl [] F w0) (r : Int × Bool)
    (h : m_ref01_value s1 = some r) :
    Calls Tryz.prog 64 #[(str s1)] w0 fun e w => e = .returned (Value.tuple #[(Value.int .i64 r.1), (Value.bool r.2)]) ∧ Ext w0 w ∧ AllCl [] F w := by
  refine ofEnter (R := fun v w => v = (Value.tuple #[(Value.int .i64 r.1), (Value.bool r.2)]) ∧ Ext w0 w ∧ AllCl [] F w) (enter (l := [(str s1)]) Tryz.func64 rfl Tryz.ntmps64 rfl ?_) ?_
  rotate_left
  · rintro _ w ⟨rfl, k1, k2⟩; exact ⟨rfl, k1, k2⟩
  have hI := Bun.start hF hc
  clear hc
  rw [m_ref01_value] at h
  refine c_seq ?_
  refine c_region rfl ?_
  refine s_q rfl rfl (y_assign rfl ev_const) ?_
  refine s_q rfl rfl (y_assign rfl ev_const) ?_
  refine s_nil ?_
  refine k_next (e := [(0, (str s1))]) ⟨rfl, trivial⟩ ?_
  refine c_seq ?_
  refine c_region rfl ?_
  refine s_q rfl rfl (y_assign rfl ev_const) ?_
  refine s_nil ?_
  refine k_next (e := [(0, (str s1)), (4, (Value.int .i64 0))]) ⟨rfl, rfl, trivial⟩ ?_
  refine c_join (α := Int) (fun _ => ⟨37, []⟩) (fun x => [(0, (str s1)), (4, (Value.int .i64 x))]) (fun x => fun w => ∃ C, Bun noM F w0 C w [] [] ∧ m_ref01_value_j1 s1 x = some r) ?_ ?_
  · clear h hI; rintro n1 w1 ⟨c1, hI, h⟩
    try dsimp only at hI h
    rw [m_ref01_value_j1] at h
    refine c_sub (e := [(0, (str s1)), (4, (Value.int .i64 n1))]) ⟨rfl, rfl, trivial⟩ ?_
    refine c_seq ?_
    refine c_seq ?_
    refine c_region rfl ?_
    refine s_q rfl rfl (y_move rfl (ev_tmp rfl rfl)) ?_
    refine s_q rfl rfl (y_lens rfl Tryz.underlying9 (ev_tmp rfl rfl)) ?_
    refine s_q rfl rfl (y_gtr rfl (ev_tmp rfl rfl) ev_const) ?_
    refine s_q rfl rfl (y_move rfl (ev_tmp rfl rfl)) ?_
    refine s_gval (g_true rfl rfl rfl rfl) rfl (fun hc => (y_move rfl (ev_tmp rfl rfl))) ?_
    obtain ⟨b1, hx1, h⟩ := bnd_some h
    replace hx1 := gd_some hx1
    refine s_gval (g_true rfl rfl rfl rfl) rfl (fun hc => (y_satl rfl Tryz.underlying9 (ev_gv (ev_tmp rfl rfl) hc) ev_const (hx1 hc))) ?_
    refine s_gval (g_true rfl rfl rfl rfl) rfl (fun hc => (y_eql rfl (ev_gv (ev_tmp rfl rfl) hc) ev_const)) ?_
    refine s_q rfl rfl (y_and rfl (ev_tmp rfl rfl) (ev_tmp rfl rfl)) ?_
    refine s_nil ?_
    refine k_next (e := [(4, (Value.int .i64 n1)), (33, (Value.bool ((decide (0 < (s1.length : Int))) && (decide (b1 = 45)))))]) ⟨rfl, rfl, trivial⟩ ?_
    refine c_cond (b := (decide (0 < (s1.length : Int))) && (decide (b1 = 45))) (ev_tmp rfl rfl) (fun hb => ?_) (fun hb => ?_)
    · replace h := ite_t hb h
      refine c_seq ?_
      refine c_region rfl ?_
      refine s_q rfl rfl (y_move rfl (ev_tmp rfl rfl)) ?_
      refine s_q rfl rfl (y_neg rfl (ev_tmp rfl rfl)) ?_
      refine s_q rfl rfl (y_assign rfl (ev_tmp rfl rfl)) ?_
      refine s_q rfl rfl (y_assign rfl ev_const) ?_
      refine s_nil ?_
      refine k_next (e := [(2, (Value.int .i64 (wi64 (-n1)))), (3, (Value.bool true))]) ⟨rfl, rfl, trivial⟩ ?_
      refine c_ret ?_
      obtain rfl := some_inj h
      exact q_ret (vs := [(Value.int .i64 (wi64 (-n1))), (Value.bool true)]) Tryz.results64 ⟨ev_tmp rfl rfl, ⟨ev_tmp rfl rfl, trivial⟩⟩ ⟨rfl, hI.ext0, hI.fin trivial⟩
    · replace h := ite_f hb h
      refine c_skip ?_
      refine k_next (e := [(4, (Value.int .i64 n1))]) ⟨rfl, trivial⟩ ?_
      refine c_seq ?_
      refine c_region rfl ?_
      refine s_q rfl rfl (y_move rfl (ev_tmp rfl rfl)) ?_
      refine s_q rfl rfl (y_assign rfl (ev_tmp rfl rfl)) ?_
      refine s_q rfl rfl (y_assign rfl ev_const) ?_
      refine s_nil ?_
      refine k_next (e := [(2, (Value.int .i64 n1)), (3, (Value.bool true))]) ⟨rfl, rfl, trivial⟩ ?_
      refine c_ret ?_
      obtain rfl := some_inj h
      exact q_ret (vs := [(Value.int .i64 n1), (Value.bool true)]) Tryz.results64 ⟨ev_tmp rfl rfl, ⟨ev_tmp rfl rfl, trivial⟩⟩ ⟨rfl, hI.ext0, hI.fin trivial⟩
  · skip
    refine c_seq ?_
    refine c_region rfl ?_
    refine s_q rfl rfl (y_assign rfl ev_const) ?_
    refine s_nil ?_
    refine k_next (e := [(0, (str s1)), (4, (Value.int .i64 0)), (5, (Value.int .i64 0))]) ⟨rfl, rfl, rfl, trivial⟩ ?_
    refine c_block ?_
    refine c_loop (α := Nat × Int × Int) (fun x => fun w => ∃ C, Bun noM F w0 C w [] [] ∧ m_ref01_value_l1 s1 (x.1) (x.2.1) (x.2.2) = some r) (fun x _ => x.1) (fun x => [(0, (str s1)), (4, (Value.int .i64 (x.2.1))), (5, (Value.int .i64 (x.2.2)))]) (fu, 0, 0) ⟨_, hI.arr .n trivial, h⟩ ⟨rfl, rfl, rfl, trivial⟩ ?_
    clear h hI; rintro ⟨fuel1, n2, i1⟩ w2 ⟨c2, hI, h⟩
    dsimp only at hI h
    rcases fuel1 with _ | fuel1
    · rw [m_ref01_value_l1] at h; cases h
    rw [m_ref01_value_l1] at h
    refine c_sub (e := [(0, (str s1)), (4, (Value.int .i64 n2)), (5, (Value.int .i64 i1))]) ⟨rfl, rfl, rfl, trivial⟩ ?_
    refine c_seq ?_
    refine c_seq ?_
    refine c_region rfl ?_
    refine s_q rfl rfl (y_move rfl (ev_tmp rfl rfl)) ?_
    refine s_q rfl rfl (y_move rfl (ev_tmp rfl rfl)) ?_
    refine s_q rfl rfl (y_lens rfl Tryz.underlying9 (ev_tmp rfl rfl)) ?_
    refine s_q rfl rfl (y_lss rfl (ev_tmp rfl rfl) (ev_tmp rfl rfl)) ?_
    refine s_nil ?_
    refine k_next (e := [(0, (str s1)), (4, (Value.int .i64 n2)), (5, (Value.int .i64 i1)), (9, (Value.bool (decide (i1 < (s1.length : Int)))))]) ⟨rfl, rfl, rfl, rfl, trivial⟩ ?_
    refine c_cond (b := decide (i1 < (s1.length : Int))) (ev_tmp rfl rfl) (fun hb => ?_) (fun hb => ?_)
    · replace h := ite_t hb h
      refine c_skip ?_
      refine k_next (e := [(0, (str s1)), (4, (Value.int .i64 n2)), (5, (Value.int .i64 i1))]) ⟨rfl, rfl, rfl, trivial⟩ ?_
      refine c_join (α := Int) (fun _ => ⟨37, []⟩) (fun x => [(0, (str s1)), (4, (Value.int .i64 x)), (5, (Value.int .i64 i1))]) (fun x => fun w => ∃ C, Bun noM F w0 C w [] [] ∧ m_ref01_value_j2 (m_ref01_value_l1 s1 fuel1) i1 x = some r) ?_ ?_
      · clear h hI; rintro n3 w3 ⟨c3, hI, h⟩
        try dsimp only at hI h
        rw [m_ref01_value_j2] at h
        refine c_sub (e := [(0, (str s1)), (4, (Value.int .i64 n3)), (5, (Value.int .i64 i1))]) ⟨rfl, rfl, rfl, trivial⟩ ?_
        refine c_region rfl ?_
        refine s_q rfl rfl (y_move rfl (ev_tmp rfl rfl)) ?_
        refine s_q rfl rfl (y_add rfl (ev_tmp rfl rfl) ev_const) ?_
        refine s_q rfl rfl (y_assign rfl (ev_tmp rfl rfl)) ?_
        refine s_nil ?_
        exact k_loop (fuel1, n3, wi64 (i1 + 1)) ⟨rfl, rfl, rfl, trivial⟩ ⟨_, hI.arr .n trivial, h⟩ (Nat.lt_succ_self _)
      · skip
        refine c_block ?_
        refine c_seq ?_
        refine c_seq ?_
        refine c_region rfl ?_
        refine s_q rfl rfl (y_move rfl (ev_tmp rfl rfl)) ?_
        refine s_q rfl rfl (y_move rfl (ev_tmp rfl rfl)) ?_
        obtain ⟨b2, hx2, h⟩ := bnd_some h
        refine s_q rfl rfl (y_satl rfl Tryz.underlying9 (ev_tmp rfl rfl) (ev_tmp rfl rfl) hx2) ?_
        refine s_q rfl rfl (y_eql rfl (ev_tmp rfl rfl) ev_const) ?_
        refine s_nil ?_
        refine k_next (e := [(0, (str s1)), (4, (Value.int .i64 n2)), (5, (Value.int .i64 i1)), (15, (Value.bool (decide (b2 = 45))))]) ⟨rfl, rfl, rfl, rfl, trivial⟩ ?_
        refine c_cond (b := decide (b2 = 45)) (ev_tmp rfl rfl) (fun hb => ?_) (fun hb => ?_)
        · replace h := ite_t hb h
          refine c_exit ?_
          refine k_in ?_
          exact k_join n2 ⟨rfl, rfl, rfl, trivial⟩ ⟨_, hI.arr .n trivial, h⟩ rfl
        · replace h := ite_f hb h
          refine c_skip ?_
          refine k_next (e := [(0, (str s1)), (4, (Value.int .i64 n2)), (5, (Value.int .i64 i1))]) ⟨rfl, rfl, rfl, trivial⟩ ?_
          refine c_seq ?_
          refine c_region rfl ?_
          refine s_q rfl rfl (y_move rfl (ev_tmp rfl rfl)) ?_
          refine s_q rfl rfl (y_mul rfl (ev_tmp rfl rfl) ev_const) ?_
          refine s_q rfl rfl (y_move rfl (ev_tmp rfl rfl)) ?_
          refine s_q rfl rfl (y_move rfl (ev_tmp rfl rfl)) ?_
          obtain ⟨b3, hx3, h⟩ := bnd_some h
          refine s_q rfl rfl (y_satl rfl Tryz.underlying9 (ev_tmp rfl rfl) (ev_tmp rfl rfl) hx3) ?_
          refine s_q rfl rfl (y_sub rfl (ev_tmp rfl rfl) ev_const) ?_
          refine s_q rfl rfl (y_conv rfl (by rw [Tryz.underlying5]; rfl) Tryz.underlying2 (ev_tmp rfl rfl)) ?_
          refine s_q rfl rfl (y_add rfl (ev_tmp rfl rfl) (ev_tmp rfl rfl)) ?_
          obtain ⟨n4, hx4, h⟩ := bnd_some h
          refine s_q rfl rfl (binU (y_assign rfl (ev_tmp rfl rfl)) (congrArg (Value.int .i64) (some_inj hx4))) ?_
          refine s_nil ?_
          refine k_next (e := [(0, (str s1)), (4, (Value.int .i64 n4)), (5, (Value.int .i64 i1))]) ⟨rfl, rfl, rfl, trivial⟩ ?_
          refine c_seq ?_
          refine c_region rfl ?_
          refine s_q rfl rfl (y_move rfl (ev_tmp rfl rfl)) ?_
          refine s_q rfl rfl (y_gtr rfl (ev_tmp rfl rfl) ev_const) ?_
          refine s_nil ?_
          refine k_next (e := [(0, (str s1)), (4, (Value.int .i64 n4)), (5, (Value.int .i64 i1)), (25, (Value.bool (decide (2147483647 < n4))))]) ⟨rfl, rfl, rfl, rfl, trivial⟩ ?_
          refine c_cond (b := decide (2147483647 < n4)) (ev_tmp rfl rfl) (fun hb => ?_) (fun hb => ?_)
          · replace h := ite_t hb h
            refine c_seq ?_
            refine c_region rfl ?_
            refine s_q rfl rfl (y_assign rfl ev_const) ?_
            refine s_q rfl rfl (y_assign rfl ev_const) ?_
            refine s_nil ?_
            refine k_next (e := [(2, (Value.int .i64 0)), (3, (Value.bool false))]) ⟨rfl, rfl, trivial⟩ ?_
            refine c_ret ?_
            obtain rfl := some_inj h
            exact q_ret (vs := [(Value.int .i64 0), (Value.bool false)]) Tryz.results64 ⟨ev_tmp rfl rfl, ⟨ev_tmp rfl rfl, trivial⟩⟩ ⟨rfl, hI.ext0, hI.fin trivial⟩
          · replace h := ite_f hb h
            refine c_skip ?_
            exact k_join n4 ⟨rfl, rfl, rfl, trivial⟩ ⟨_, hI.arr .n trivial, h⟩ rfl
    · replace h := ite_f hb h
      refine c_exit ?_
      refine k_in ?_
      exact k_join n2 ⟨rfl, rfl, trivial⟩ ⟨_, hI.arr .n trivial, h⟩ rfl

set_option maxRecDepth 100000 in
set_option maxHeartbeats 4000000 in
theorem c_ref01_Parse (F : NP) (w0 : World) (hF : ∀ k, F k → k < w0.heap.size) (s1 : List UInt8) (hc : AllCl [] F w0) (r : GVal × Int)
    (h : m_ref01_Parse s1 = some r) :
    Calls Tryz.prog 32 #[(str s1)] w0 fun e w => e = .returned (Value.tuple #[(Value.agg #[(Value.int .i64 r.1.N), (Value.int .i64 r.1.D)]), (Value.int .i64 r.2)]) ∧ Ext w0 w ∧ AllCl [] F w := by
  refine ofEnter (R := fun v w => v = (Value.tuple #[(Value.agg #[(Value.int .i64 r.1.N), (Value.int .i64 r.1.D)]), (Value.int .i64 r.2)]) ∧ Ext w0 w ∧ AllCl [] F w) (enter (l := [(str s1)]) Tryz.func32 rfl Tryz.ntmps32 rfl ?_) ?_
  rotate_left
  · rintro _ w ⟨rfl, k1, k2⟩; exact ⟨rfl, k1, k2⟩
  have hI := Bun.start hF hc
  clear hc
  rw [m_ref01_Parse] at h
  refine c_seq ?_
  refine c_region rfl ?_
  refine l_alloc (cs := #[(Value.int .i64 0), (Value.int .i64 0)]) hI rfl rfl rfl zero_27 rfl ?_
  clear hI; intro b1 c1 w1 hI
  refine s_q rfl rfl (y_assign rfl ev_const) ?_
  refine s_nil ?_
  refine k_next (e := [(0, (str s1)), (2, (Value.pointer (some ⟨b1, 0, none⟩)))]) ⟨rfl, rfl, trivial⟩ ?_
  refine c_seq ?_
  refine c_region rfl ?_
  refine s_q rfl rfl (y_move rfl (ev_tmp rfl rfl)) ?_
  refine s_q rfl rfl (y_assign rfl (ev_tmp rfl rfl)) ?_
  refine s_q rfl rfl (y_assign rfl ev_const) ?_
  refine s_nil ?_
  refine k_next (e := [(0, (str s1)), (2, (Value.pointer (some ⟨b1, 0, none⟩))), (4, (str s1)), (5, (str ([] : List UInt8)))]) ⟨rfl, rfl, rfl, rfl, trivial⟩ ?_
  refine c_join (α := (List UInt8) × (List UInt8)) (fun _ => ⟨83, []⟩) (fun x => [(2, (Value.pointer (some ⟨b1, 0, none⟩))), (4, (str (x.1))), (5, (str (x.2)))]) (fun x => fun w => ∃ C, Bun noM F w0 C w [MO.box b1 27 #[(Value.int .i64 0), (Value.int .i64 0)]] [] ∧ m_ref01_Parse_j1 (x.1) (x.2) = some r) ?_ ?_
  · clear h hI; rintro ⟨up1, down1⟩ w2 ⟨c2, hI, h⟩
    try dsimp only at hI h
    rw [m_ref01_Parse_j1] at h
    refine c_sub (e := [(2, (Value.pointer (some ⟨b1, 0, none⟩))), (4, (str up1)), (5, (str down1))]) ⟨rfl, rfl, rfl, trivial⟩ ?_
    refine c_seq ?_
    refine c_seq ?_
    refine c_region rfl ?_
    refine s_q rfl rfl (y_move rfl (ev_tmp rfl rfl)) ?_
    obtain ⟨r1, hx1, h⟩ := bnd_some h
    refine s_call rfl rfl (r_callF (vs := [(str up1)]) rfl ok_63 ⟨(ev_tmp rfl rfl), trivial⟩) (Calls.mono (c_ref01_Whole (Dj F c2) w2 hI.lt up1 trivial r1 hx1) ?_)
    rintro _ w3 ⟨rfl, hx2, hl1⟩
    refine ⟨_, rfl, ?_⟩
    replace hI := (hI.ext hx2)
    refine s_q rfl rfl (y_not rfl (ev_tmp rfl rfl)) ?_
    refine s_nil ?_
    refine k_next (e := [(2, (Value.pointer (some ⟨b1, 0, none⟩))), (4, (str up1)), (5, (str down1)), (52, (Value.bool (!r1)))]) ⟨rfl, rfl, rfl, rfl, trivial⟩ ?_
    refine c_cond (b := !r1) (ev_tmp rfl rfl) (fun hb => ?_) (fun hb => ?_)
    · replace h := ite_t hb h
      refine c_seq ?_
      refine c_region rfl ?_
      refine s_q rfl rfl (y_build (vs := []) (cs := #[(Value.int .i64 0), (Value.int .i64 0)]) rfl trivial (by kernel_rfl)) ?_
      refine l_store (new := [(Value.int .i64 0), (Value.int .i64 0)]) (cs' := #[(Value.int .i64 0), (Value.int .i64 0)]) hI .z rfl rfl rfl (ev_tmp rfl rfl) (ev_tmp rfl rfl) rfl size_27 rfl rfl rfl ?_
      clear hI; intro c3 w4 hI
      refine s_q rfl rfl (y_assign rfl ev_const) ?_
      refine s_nil ?_
      refine k_next (e := [(2, (Value.pointer (some ⟨b1, 0, none⟩))), (3, (Value.int .i64 5))]) ⟨rfl, rfl, trivial⟩ ?_
      refine c_ret ?_
      obtain rfl := some_inj h
      exact q_ret (vs := [(Value.agg #[(Value.int .i64 0), (Value.int .i64 0)]), (Value.int .i64 5)]) Tryz.results32 ⟨⟨_, ev_tmp rfl rfl, load_agg (l := [(Value.int .i64 0), (Value.int .i64 0)]) Tryz.underlying27 rfl size_27 (CellsAt.of_blk (hI.blk .z) rfl)⟩, ⟨ev_tmp rfl rfl, trivial⟩⟩ ⟨rfl, hI.ext0, hI.fin trivial⟩
    · replace h := ite_f hb h
      refine c_skip ?_
      refine k_next (e := [(2, (Value.pointer (some ⟨b1, 0, none⟩))), (4, (str up1)), (5, (str down1))]) ⟨rfl, rfl, rfl, trivial⟩ ?_
      refine c_join (α := (List UInt8)) (fun _ => ⟨83, []⟩) (fun x => [(2, (Value.pointer (some ⟨b1, 0, none⟩))), (4, (str up1)), (5, (str x))]) (fun x => fun w => ∃ C, Bun noM F w0 C w [MO.box b1 27 #[(Value.int .i64 0), (Value.int .i64 0)]] [] ∧ m_ref01_Parse_j2 up1 x = some r) ?_ ?_
      · clear h hI; rintro down2 w5 ⟨c4, hI, h⟩
        try dsimp only at hI h
        rw [m_ref01_Parse_j2] at h
        refine c_sub (e := [(2, (Value.pointer (some ⟨b1, 0, none⟩))), (4, (str up1)), (5, (str down2))]) ⟨rfl, rfl, rfl, trivial⟩ ?_
        refine c_seq ?_
        refine c_region rfl ?_
        refine s_q rfl rfl (y_move rfl (ev_tmp rfl rfl)) ?_
        obtain ⟨r2, hx3, h⟩ := bnd_some h
        refine s_call rfl rfl (r_callF (vs := [(str up1)]) rfl ok_64 ⟨(ev_tmp rfl rfl), trivial⟩) (Calls.mono (c_ref01_value (Dj F c4) w5 hI.lt up1 trivial r2 hx3) ?_)
        rintro _ w6 ⟨rfl, hx4, hl2⟩
        refine ⟨_, rfl, ?_⟩
        replace hI := (hI.ext hx4)
        refine s_q rfl rfl (y_move rfl (ev_tmp rfl rfl)) ?_
        refine s_q rfl rfl (y_extract rfl (ev_tmp rfl rfl) rfl) ?_
        refine s_q rfl rfl (y_extract rfl (ev_tmp rfl rfl) rfl) ?_
        refine s_q rfl rfl (y_assign rfl (ev_tmp rfl rfl)) ?_
        refine s_q rfl rfl (y_assign rfl (ev_tmp rfl rfl)) ?_
        refine s_nil ?_
        refine k_next (e := [(2, (Value.pointer (some ⟨b1, 0, none⟩))), (5, (str down2)), (7, (Value.int .i64 r2.1)), (8, (Value.bool r2.2))]) ⟨rfl, rfl, rfl, rfl, trivial⟩ ?_
        refine c_seq ?_
        refine c_region rfl ?_
        refine s_q rfl rfl (y_move rfl (ev_tmp rfl rfl)) ?_
        obtain ⟨r3, hx5, h⟩ := bnd_some h
        refine s_call rfl rfl (r_callF (vs := [(str down2)]) rfl ok_64 ⟨(ev_tmp rfl rfl), trivial⟩) (Calls.mono (c_ref01_value (Dj F c4) w6 hI.lt down2 trivial r3 hx5) ?_)
        rintro _ w7 ⟨rfl, hx6, hl3⟩
        refine ⟨_, rfl, ?_⟩
        replace hI := (hI.ext hx6)
        refine s_q rfl rfl (y_move rfl (ev_tmp rfl rfl)) ?_
        refine s_q rfl rfl (y_extract rfl (ev_tmp rfl rfl) rfl) ?_
        refine s_q rfl rfl (y_extract rfl (ev_tmp rfl rfl) rfl) ?_
        refine s_q rfl rfl (y_assign rfl (ev_tmp rfl rfl)) ?_
        refine s_q rfl rfl (y_assign rfl (ev_tmp rfl rfl)) ?_
        refine s_nil ?_
        refine k_next (e := [(2, (Value.pointer (some ⟨b1, 0, none⟩))), (7, (Value.int .i64 r2.1)), (8, (Value.bool r2.2)), (9, (Value.int .i64 r3.1)), (10, (Value.bool r3.2))]) ⟨rfl, rfl, rfl, rfl, rfl, trivial⟩ ?_
        refine c_seq ?_
        refine c_seq ?_
        refine c_region rfl ?_
        refine s_q rfl rfl (y_move rfl (ev_tmp rfl rfl)) ?_
        refine s_q rfl rfl (y_not rfl (ev_tmp rfl rfl)) ?_
        refine s_q rfl rfl (y_move rfl (ev_tmp rfl rfl)) ?_
        refine s_gval (g_false rfl rfl rfl rfl) rfl (fun hc => (y_move rfl (ev_tmp rfl rfl))) ?_
        refine s_gval (g_false rfl rfl rfl rfl) rfl (fun hc => (y_not rfl (ev_gv (ev_tmp rfl rfl) hc))) ?_
        refine s_q rfl rfl (y_or rfl (ev_tmp rfl rfl) (ev_tmp rfl rfl)) ?_
        refine s_nil ?_
        refine k_next (e := [(2, (Value.pointer (some ⟨b1, 0, none⟩))), (7, (Value.int .i64 r2.1)), (9, (Value.int .i64 r3.1)), (71, (Value.bool ((!r2.2) || (!r3.2))))]) ⟨rfl, rfl, rfl, rfl, trivial⟩ ?_
        refine c_cond (b := (!r2.2) || (!r3.2)) (ev_tmp rfl rfl) (fun hb => ?_) (fun hb => ?_)
        · replace h := ite_t hb h
          refine c_seq ?_
          refine c_region rfl ?_
          refine s_q rfl rfl (y_build (vs := []) (cs := #[(Value.int .i64 0), (Value.int .i64 0)]) rfl trivial (by kernel_rfl)) ?_
          refine l_store (new := [(Value.int .i64 0), (Value.int .i64 0)]) (cs' := #[(Value.int .i64 0), (Value.int .i64 0)]) hI .z rfl rfl rfl (ev_tmp rfl rfl) (ev_tmp rfl rfl) rfl size_27 rfl rfl rfl ?_
          clear hI; intro c5 w8 hI
          refine s_q rfl rfl (y_assign rfl ev_const) ?_
          refine s_nil ?_
          refine k_next (e := [(2, (Value.pointer (some ⟨b1, 0, none⟩))), (3, (Value.int .i64 3))]) ⟨rfl, rfl, trivial⟩ ?_
          refine c_ret ?_
          obtain rfl := some_inj h
          exact q_ret (vs := [(Value.agg #[(Value.int .i64 0), (Value.int .i64 0)]), (Value.int .i64 3)]) Tryz.results32 ⟨⟨_, ev_tmp rfl rfl, load_agg (l := [(Value.int .i64 0), (Value.int .i64 0)]) Tryz.underlying27 rfl size_27 (CellsAt.of_blk (hI.blk .z) rfl)⟩, ⟨ev_tmp rfl rfl, trivial⟩⟩ ⟨rfl, hI.ext0, hI.fin trivial⟩
        · replace h := ite_f hb h
          refine c_skip ?_
          refine k_next (e := [(2, (Value.pointer (some ⟨b1, 0, none⟩))), (7, (Value.int .i64 r2.1)), (9, (Value.int .i64 r3.1))]) ⟨rfl, rfl, rfl, trivial⟩ ?_
          refine c_seq ?_
          refine c_seq ?_
          refine c_region rfl ?_
          refine s_q rfl rfl (y_move rfl (ev_tmp rfl rfl)) ?_
          obtain ⟨r4, hx7, h⟩ := bnd_some h
          refine s_call rfl rfl (r_callF (vs := [(Value.int .i64 r2.1)]) rfl ok_66 ⟨(ev_tmp rfl rfl), trivial⟩) (Calls.mono (c_ref01_size (Dj F c4) w7 hI.lt r2.1 trivial r4 hx7) ?_)
          rintro _ w9 ⟨rfl, hx8, hl4⟩
          refine ⟨_, rfl, ?_⟩
          replace hI := (hI.ext hx8)
          refine s_q rfl rfl (y_move rfl (ev_tmp rfl rfl)) ?_
          obtain ⟨r5, hx9, h⟩ := bnd_some h
          refine s_call rfl rfl (r_callF (vs := [(Value.int .i64 r3.1)]) rfl ok_66 ⟨(ev_tmp rfl rfl), trivial⟩) (Calls.mono (c_ref01_size (Dj F c4) w9 hI.lt r3.1 trivial r5 hx9) ?_)
          rintro _ w10 ⟨rfl, hx10, hl5⟩
          refine ⟨_, rfl, ?_⟩
          replace hI := (hI.ext hx10)
          obtain ⟨r6, hx11, h⟩ := bnd_some h
          refine s_call rfl rfl (r_callF (vs := [(Value.int .u64 r4), (Value.int .u64 r5)]) rfl ok_65 ⟨(ev_tmp rfl rfl), ⟨(ev_tmp rfl rfl), trivial⟩⟩) (Calls.mono (c_ref01_gcd (Dj F c4) w10 hI.lt r4 r5 trivial r6 hx11) ?_)
          rintro _ w11 ⟨rfl, hx12, hl6⟩
          refine ⟨_, rfl, ?_⟩
          replace hI := (hI.ext hx12)
          refine s_q rfl rfl (y_neq rfl (ev_tmp rfl rfl) ev_const) ?_
          refine s_nil ?_
          refine k_next (e := [(2, (Value.pointer (some ⟨b1, 0, none⟩))), (7, (Value.int .i64 r2.1)), (9, (Value.int .i64 r3.1)), (78, (Value.bool (!decide (r6 = 1))))]) ⟨rfl, rfl, rfl, rfl, trivial⟩ ?_
          refine c_cond (b := !decide (r6 = 1)) (ev_tmp rfl rfl) (fun hb => ?_) (fun hb => ?_)
          · replace h := ite_t hb h
            refine c_seq ?_
            refine c_region rfl ?_
            refine s_q rfl rfl (y_build (vs := []) (cs := #[(Value.int .i64 0), (Value.int .i64 0)]) rfl trivial (by kernel_rfl)) ?_
            refine l_store (new := [(Value.int .i64 0), (Value.int .i64 0)]) (cs' := #[(Value.int .i64 0), (Value.int .i64 0)]) hI .z rfl rfl rfl (ev_tmp rfl rfl) (ev_tmp rfl rfl) rfl size_27 rfl rfl rfl ?_
            clear hI; intro c6 w12 hI
            refine s_q rfl rfl (y_assign rfl ev_const) ?_
            refine s_nil ?_
            refine k_next (e := [(2, (Value.pointer (some ⟨b1, 0, none⟩))), (3, (Value.int .i64 5))]) ⟨rfl, rfl, trivial⟩ ?_
            refine c_ret ?_
            obtain rfl := some_inj h
            exact q_ret (vs := [(Value.agg #[(Value.int .i64 0), (Value.int .i64 0)]), (Value.int .i64 5)]) Tryz.results32 ⟨⟨_, ev_tmp rfl rfl, load_agg (l := [(Value.int .i64 0), (Value.int .i64 0)]) Tryz.underlying27 rfl size_27 (CellsAt.of_blk (hI.blk .z) rfl)⟩, ⟨ev_tmp rfl rfl, trivial⟩⟩ ⟨rfl, hI.ext0, hI.fin trivial⟩
          · replace h := ite_f hb h
            refine c_skip ?_
            refine k_next (e := [(2, (Value.pointer (some ⟨b1, 0, none⟩))), (7, (Value.int .i64 r2.1)), (9, (Value.int .i64 r3.1))]) ⟨rfl, rfl, rfl, trivial⟩ ?_
            refine c_seq ?_
            refine c_region rfl ?_
            refine s_q rfl rfl (y_move rfl (ev_tmp rfl rfl)) ?_
            refine s_q rfl rfl (y_move rfl (ev_tmp rfl rfl)) ?_
            refine s_q rfl rfl (y_build (vs := [(0, (Value.int .i64 r2.1)), (1, (Value.int .i64 r3.1))]) (cs := #[(Value.int .i64 r2.1), (Value.int .i64 r3.1)]) rfl ⟨rfl, (ev_tmp rfl rfl), ⟨rfl, (ev_tmp rfl rfl), trivial⟩⟩ (by kernel_rfl)) ?_
            refine l_store (new := [(Value.int .i64 r2.1), (Value.int .i64 r3.1)]) (cs' := #[(Value.int .i64 r2.1), (Value.int .i64 r3.1)]) hI .z rfl rfl rfl (ev_tmp rfl rfl) (ev_tmp rfl rfl) rfl size_27 rfl rfl rfl ?_
            clear hI; intro c7 w13 hI
            refine s_q rfl rfl (y_assign rfl ev_const) ?_
            refine s_nil ?_
            refine k_next (e := [(2, (Value.pointer (some ⟨b1, 0, none⟩))), (3, (Value.int .i64 0))]) ⟨rfl, rfl, trivial⟩ ?_
            refine c_ret ?_
            obtain rfl := some_inj h
            exact q_ret (vs := [(Value.agg #[(Value.int .i64 r2.1), (Value.int .i64 r3.1)]), (Value.int .i64 0)]) Tryz.results32 ⟨⟨_, ev_tmp rfl rfl, load_agg (l := [(Value.int .i64 r2.1), (Value.int .i64 r3.1)]) Tryz.underlying27 rfl size_27 (CellsAt.of_blk (hI.blk .z) rfl)⟩, ⟨ev_tmp rfl rfl, trivial⟩⟩ ⟨rfl, hI.ext0, hI.fin trivial⟩
      · skip
        refine c_seq ?_
        refine c_region rfl ?_
        refine s_q rfl rfl (y_move rfl (ev_tmp rfl rfl)) ?_
        refine s_q rfl rfl (y_eqs rfl (ev_tmp rfl rfl) ev_const) ?_
        refine s_nil ?_
        refine k_next (e := [(2, (Value.pointer (some ⟨b1, 0, none⟩))), (4, (str up1)), (5, (str down1)), (55, (Value.bool (decide (down1 = ([] : List UInt8)))))]) ⟨rfl, rfl, rfl, rfl, trivial⟩ ?_
        refine c_cond (b := decide (down1 = ([] : List UInt8))) (ev_tmp rfl rfl) (fun hb => ?_) (fun hb => ?_)
        · replace h := ite_t hb h
          refine c_region rfl ?_
          refine s_q rfl rfl (y_assign rfl ev_const) ?_
          refine s_nil ?_
          exact k_join ([49] : List UInt8) ⟨rfl, rfl, rfl, trivial⟩ ⟨_, hI.arr (.c .z .n) trivial, h⟩ rfl
        · replace h := ite_f hb h
          refine c_skip ?_
          exact k_join down1 ⟨rfl, rfl, rfl, trivial⟩ ⟨_, hI.arr (.c .z .n) trivial, h⟩ rfl
  · skip
    refine c_seq ?_
    refine c_region rfl ?_
    refine s_q rfl rfl (y_assign rfl ev_const) ?_
    refine s_nil ?_
    refine k_next (e := [(0, (str s1)), (2, (Value.pointer (some ⟨b1, 0, none⟩))), (4, (str s1)), (5, (str ([] : List UInt8))), (6, (Value.int .i64 0))]) ⟨rfl, rfl, rfl, rfl, rfl, trivial⟩ ?_
    refine c_block ?_
    refine c_loop (α := Nat × (List UInt8) × (List UInt8) × Int) (fun x => fun w => ∃ C, Bun noM F w0 C w [MO.box b1 27 #[(Value.int .i64 0), (Value.int .i64 0)]] [] ∧ m_ref01_Parse_l1 s1 (x.1) (x.2.1) (x.2.2.1) (x.2.2.2) = some r) (fun x _ => x.1) (fun x => [(0, (str s1)), (2, (Value.pointer (some ⟨b1, 0, none⟩))), (4, (str (x.2.1))), (5, (str (x.2.2.1))), (6, (Value.int .i64 (x.2.2.2)))]) (fu, s1, ([] : List UInt8), 0) ⟨_, hI.arr (.c .z .n) trivial, h⟩ ⟨rfl, rfl, rfl, rfl, rfl, trivial⟩ ?_
    clear h hI; rintro ⟨fuel1, up2, down3, i1⟩ w14 ⟨c8, hI, h⟩
    dsimp only at hI h
    rcases fuel1 with _ | fuel1
    · rw [m_ref01_Parse_l1] at h; cases h
    rw [m_ref01_Parse_l1] at h
    refine c_sub (e := [(0, (str s1)), (2, (Value.pointer (some ⟨b1, 0, none⟩))), (4, (str up2)), (5, (str down3)), (6, (Value.int .i64 i1))]) ⟨rfl, rfl, rfl, rfl, rfl, trivial⟩ ?_
    refine c_seq ?_
    refine c_seq ?_
    refine c_region rfl ?_
    refine s_q rfl rfl (y_move rfl (ev_tmp rfl rfl)) ?_
    refine s_q rfl rfl (y_move rfl (ev_tmp rfl rfl)) ?_
    refine s_q rfl rfl (y_lens rfl Tryz.underlying9 (ev_tmp rfl rfl)) ?_
    refine s_q rfl rfl (y_lss rfl (ev_tmp rfl rfl) (ev_tmp rfl rfl)) ?_
    refine s_q rfl rfl (y_move rfl (ev_tmp rfl rfl)) ?_
    refine s_gval (g_true rfl rfl rfl rfl) rfl (fun hc => (y_move rfl (ev_tmp rfl rfl))) ?_
    refine s_gval (g_true rfl rfl rfl rfl) rfl (fun hc => (y_eqs rfl (ev_gv (ev_tmp rfl rfl) hc) ev_const)) ?_
    refine s_q rfl rfl (y_and rfl (ev_tmp rfl rfl) (ev_tmp rfl rfl)) ?_
    refine s_nil ?_
    refine k_next (e := [(0, (str s1)), (2, (Value.pointer (some ⟨b1, 0, none⟩))), (4, (str up2)), (5, (str down3)), (6, (Value.int .i64 i1)), (19, (Value.bool ((decide (i1 < (s1.length : Int))) && (decide (down3 = ([] : List UInt8))))))]) ⟨rfl, rfl, rfl, rfl, rfl, rfl, trivial⟩ ?_
    refine c_cond (b := (decide (i1 < (s1.length : Int))) && (decide (down3 = ([] : List UInt8)))) (ev_tmp rfl rfl) (fun hb => ?_) (fun hb => ?_)
    · replace h := ite_t hb h
      refine c_skip ?_
      refine k_next (e := [(0, (str s1)), (2, (Value.pointer (some ⟨b1, 0, none⟩))), (4, (str up2)), (5, (str down3)), (6, (Value.int .i64 i1))]) ⟨rfl, rfl, rfl, rfl, rfl, trivial⟩ ?_
      refine c_join (α := (List UInt8) × (List UInt8)) (fun _ => ⟨83, []⟩) (fun x => [(0, (str s1)), (2, (Value.pointer (some ⟨b1, 0, none⟩))), (4, (str (x.1))), (5, (str (x.2))), (6, (Value.int .i64 i1))]) (fun x => fun w => ∃ C, Bun noM F w0 C w [MO.box b1 27 #[(Value.int .i64 0), (Value.int .i64 0)]] [] ∧ m_ref01_Parse_j3 (m_ref01_Parse_l1 s1 fuel1) i1 (x.1) (x.2) = some r) ?_ ?_
      · clear h hI; rintro ⟨up3, down4⟩ w15 ⟨c9, hI, h⟩
        try dsimp only at hI h
        rw [m_ref01_Parse_j3] at h
        refine c_sub (e := [(0, (str s1)), (2, (Value.pointer (some ⟨b1, 0, none⟩))), (4, (str up3)), (5, (str down4)), (6, (Value.int .i64 i1))]) ⟨rfl, rfl, rfl, rfl, rfl, trivial⟩ ?_
        refine c_region rfl ?_
        refine s_q rfl rfl (y_move rfl (ev_tmp rfl rfl)) ?_
        refine s_q rfl rfl (y_add rfl (ev_tmp rfl rfl) ev_const) ?_
        refine s_q rfl rfl (y_assign rfl (ev_tmp rfl rfl)) ?_
        refine s_nil ?_
        exact k_loop (fuel1, up3, down4, wi64 (i1 + 1)) ⟨rfl, rfl, rfl, rfl, rfl, trivial⟩ ⟨_, hI.arr (.c .z .n) trivial, h⟩ (Nat.lt_succ_self _)
      · skip
        refine c_block ?_
        refine c_seq ?_
        refine c_region rfl ?_
        refine s_q rfl rfl (y_move rfl (ev_tmp rfl rfl)) ?_
        refine s_q rfl rfl (y_move rfl (ev_tmp rfl rfl)) ?_
        obtain ⟨b2, hx13, h⟩ := bnd_some h
        refine s_q rfl rfl (y_satl rfl Tryz.underlying9 (ev_tmp rfl rfl) (ev_tmp rfl rfl) hx13) ?_
        refine s_q rfl rfl (y_eql rfl (ev_tmp rfl rfl) ev_const) ?_
        refine s_nil ?_
        refine k_next (e := [(0, (str s1)), (2, (Value.pointer (some ⟨b1, 0, none⟩))), (4, (str up2)), (5, (str down3)), (6, (Value.int .i64 i1)), (25, (Value.bool (decide (b2 = 47))))]) ⟨rfl, rfl, rfl, rfl, rfl, rfl, trivial⟩ ?_
        refine c_cond (b := decide (b2 = 47)) (ev_tmp rfl rfl) (fun hb => ?_) (fun hb => ?_)
        · replace h := ite_t hb h
          refine c_seq ?_
          refine c_region rfl ?_
          refine s_q rfl rfl (y_move rfl (ev_tmp rfl rfl)) ?_
          refine s_q rfl rfl (y_move rfl (ev_tmp rfl rfl)) ?_
          obtain ⟨s2, hx14, h⟩ := bnd_some h
          refine s_q rfl rfl (y_supto rfl Tryz.underlying9 (ev_tmp rfl rfl) (ev_tmp rfl rfl) hx14) ?_
          refine s_q rfl rfl (y_assign rfl (ev_tmp rfl rfl)) ?_
          refine s_nil ?_
          refine k_next (e := [(0, (str s1)), (2, (Value.pointer (some ⟨b1, 0, none⟩))), (4, (str s2)), (6, (Value.int .i64 i1))]) ⟨rfl, rfl, rfl, rfl, trivial⟩ ?_
          refine c_seq ?_
          refine c_region rfl ?_
          refine s_q rfl rfl (y_move rfl (ev_tmp rfl rfl)) ?_
          refine s_q rfl rfl (y_move rfl (ev_tmp rfl rfl)) ?_
          refine s_q rfl rfl (y_add rfl (ev_tmp rfl rfl) ev_const) ?_
          obtain ⟨s3, hx15, h⟩ := bnd_some h
          refine s_q rfl rfl (y_sfrom rfl Tryz.underlying9 (ev_tmp rfl rfl) (ev_tmp rfl rfl) hx15) ?_
          refine s_q rfl rfl (y_assign rfl (ev_tmp rfl rfl)) ?_
          refine s_nil ?_
          refine k_next (e := [(0, (str s1)), (2, (Value.pointer (some ⟨b1, 0, none⟩))), (4, (str s2)), (6, (Value.int .i64 i1)), (5, (str s3))]) ⟨rfl, rfl, rfl, rfl, rfl, trivial⟩ ?_
          refine c_seq ?_
          refine c_region rfl ?_
          refine s_q rfl rfl (y_move rfl (ev_tmp rfl rfl)) ?_
          obtain ⟨r7, hx16, h⟩ := bnd_some h
          refine s_call rfl rfl (r_callF (vs := [(str s3)]) rfl ok_63 ⟨(ev_tmp rfl rfl), trivial⟩) (Calls.mono (c_ref01_Whole (Dj F c8) w14 hI.lt s3 trivial r7 hx16) ?_)
          rintro _ w16 ⟨rfl, hx17, hl7⟩
          refine ⟨_, rfl, ?_⟩
          replace hI := (hI.ext hx17)
          refine s_q rfl rfl (y_not rfl (ev_tmp rfl rfl)) ?_
          refine s_q rfl rfl (y_move rfl (ev_tmp rfl rfl)) ?_
          refine s_gval (g_false rfl rfl rfl rfl) rfl (fun hc => (y_move rfl (ev_tmp rfl rfl))) ?_
          obtain ⟨b3, hx18, h⟩ := bnd_some h
          replace hx18 := gd_some hx18
          refine s_gval (g_false rfl rfl rfl rfl) rfl (fun hc => (y_satl rfl Tryz.underlying9 (ev_gv (ev_tmp rfl rfl) hc) ev_const (hx18 hc))) ?_
          refine s_gval (g_false rfl rfl rfl rfl) rfl (fun hc => (y_eql rfl (ev_gv (ev_tmp rfl rfl) hc) ev_const)) ?_
          refine s_q rfl rfl (y_or rfl (ev_tmp rfl rfl) (ev_tmp rfl rfl)) ?_
          refine s_q rfl rfl (y_move rfl (ev_tmp rfl rfl)) ?_
          refine s_gval (g_false rfl rfl rfl rfl) rfl (fun hc => (y_move rfl (ev_tmp rfl rfl))) ?_
          refine s_gval (g_false rfl rfl rfl rfl) rfl (fun hc => (y_eqs rfl (ev_gv (ev_tmp rfl rfl) hc) ev_const)) ?_
          refine s_q rfl rfl (y_or rfl (ev_tmp rfl rfl) (ev_tmp rfl rfl)) ?_
          refine s_q rfl rfl (y_move rfl (ev_tmp rfl rfl)) ?_
          refine s_gval (g_false rfl rfl rfl rfl) rfl (fun hc => (y_move rfl (ev_tmp rfl rfl))) ?_
          refine s_gval (g_false rfl rfl rfl rfl) rfl (fun hc => (y_eqs rfl (ev_gv (ev_tmp rfl rfl) hc) ev_const)) ?_
          refine s_q rfl rfl (y_or rfl (ev_tmp rfl rfl) (ev_tmp rfl rfl)) ?_
          refine s_nil ?_
          refine k_next (e := [(0, (str s1)), (2, (Value.pointer (some ⟨b1, 0, none⟩))), (4, (str s2)), (6, (Value.int .i64 i1)), (5, (str s3)), (48, (Value.bool ((((!r7) || (decide (b3 = 45))) || (decide (s3 = ([48] : List UInt8)))) || (decide (s3 = ([49] : List UInt8))))))]) ⟨rfl, rfl, rfl, rfl, rfl, rfl, trivial⟩ ?_
          refine c_cond (b := (((!r7) || (decide (b3 = 45))) || (decide (s3 = ([48] : List UInt8)))) || (decide (s3 = ([49] : List UInt8)))) (ev_tmp rfl rfl) (fun hb => ?_) (fun hb => ?_)
          · replace h := ite_t hb h
            refine c_seq ?_
            refine c_region rfl ?_
            refine s_q rfl rfl (y_build (vs := []) (cs := #[(Value.int .i64 0), (Value.int .i64 0)]) rfl trivial (by kernel_rfl)) ?_
            refine l_store (new := [(Value.int .i64 0), (Value.int .i64 0)]) (cs' := #[(Value.int .i64 0), (Value.int .i64 0)]) hI .z rfl rfl rfl (ev_tmp rfl rfl) (ev_tmp rfl rfl) rfl size_27 rfl rfl rfl ?_
            clear hI; intro c10 w17 hI
            refine s_q rfl rfl (y_assign rfl ev_const) ?_
            refine s_nil ?_
            refine k_next (e := [(2, (Value.pointer (some ⟨b1, 0, none⟩))), (3, (Value.int .i64 5))]) ⟨rfl, rfl, trivial⟩ ?_
            refine c_ret ?_
            obtain rfl := some_inj h
            exact q_ret (vs := [(Value.agg #[(Value.int .i64 0), (Value.int .i64 0)]), (Value.int .i64 5)]) Tryz.results32 ⟨⟨_, ev_tmp rfl rfl, load_agg (l := [(Value.int .i64 0), (Value.int .i64 0)]) Tryz.underlying27 rfl size_27 (CellsAt.of_blk (hI.blk .z) rfl)⟩, ⟨ev_tmp rfl rfl, trivial⟩⟩ ⟨rfl, hI.ext0, hI.fin trivial⟩
          · replace h := ite_f hb h
            refine c_skip ?_
            exact k_join (s2, s3) ⟨rfl, rfl, rfl, rfl, rfl, trivial⟩ ⟨_, hI.arr (.c .z .n) trivial, h⟩ rfl
        · replace h := ite_f hb h
          refine c_skip ?_
          exact k_join (up2, down3) ⟨rfl, rfl, rfl, rfl, rfl, trivial⟩ ⟨_, hI.arr (.c .z .n) trivial, h⟩ rfl
    · replace h := ite_f hb h
      refine c_exit ?_
      refine k_in ?_
      exact k_join (up2, down3) ⟨rfl, rfl, rfl, trivial⟩ ⟨_, hI.arr (.c .z .n) trivial, h⟩ rfl

set_option maxRecDepth 100000 in
set_option maxHeartbeats 4000000 in
theorem c_ref04_Parse (F : NP) (w0 : World) (hF : ∀ k, F k → k < w0.heap.size) (t1 : GType) (s1 : List UInt8) (hc : AllCl [] F w0) (r : GVal × Int)
    (h : m_ref04_Parse t1 s1 = some r) :
    Calls Tryz.prog 14 #[(Value.agg #[(Value.int .i64 t1.Kind), (Value.int .i64 t1.Bits), (Value.int .i64 t1.Frac), (Value.int .i64 t1.Round), (Value.int .i64 t1.Over)]), (str s1)] w0 fun e w => e = .returned (Value.tuple #[(Value.agg #[(Value.int .i64 r.1.N), (Value.int .i64 r.1.D)]), (Value.int .i64 r.2)]) ∧ Ext w0 w ∧ AllCl [] F w := by
  refine ofEnter (R := fun v w => v = (Value.tuple #[(Value.agg #[(Value.int .i64 r.1.N), (Value.int .i64 r.1.D)]), (Value.int .i64 r.2)]) ∧ Ext w0 w ∧ AllCl [] F w) (enter (l := [(Value.agg #[(Value.int .i64 t1.Kind), (Value.int .i64 t1.Bits), (Value.int .i64 t1.Frac), (Value.int .i64 t1.Round), (Value.int .i64 t1.Over)]), (str s1)]) Tryz.func14 rfl Tryz.ntmps14 rfl ?_) ?_
  rotate_left
  · rintro _ w ⟨rfl, k1, k2⟩; exact ⟨rfl, k1, k2⟩
  have hI := Bun.start hF hc
  clear hc
  rw [m_ref04_Parse] at h
  refine c_seq ?_
  refine c_region rfl ?_
  refine l_box (v := (Value.agg #[(Value.int .i64 t1.Kind), (Value.int .i64 t1.Bits), (Value.int .i64 t1.Frac), (Value.int .i64 t1.Round), (Value.int .i64 t1.Over)])) (cs := #[(Value.int .i64 t1.Kind), (Value.int .i64 t1.Bits), (Value.int .i64 t1.Frac), (Value.int .i64 t1.Round), (Value.int .i64 t1.Over)]) hI rfl rfl rfl (ev_tmp rfl rfl) rfl ?_
  clear hI; intro b1 c1 w1 hI
  obtain ⟨c2, hI⟩ := hI.relBox .z
  refine l_alloc (cs := #[(Value.int .i64 0), (Value.int .i64 0)]) hI rfl rfl rfl zero_27 rfl ?_
  clear hI; intro b2 c3 w2 hI
  refine s_q rfl rfl (y_assign rfl ev_const) ?_
  refine s_nil ?_
  refine k_next (e := [(1, (str s1)), (2, (Value.pointer (some ⟨b1, 0, none⟩))), (4, (Value.pointer (some ⟨b2, 0, none⟩)))]) ⟨rfl, rfl, rfl, trivial⟩ ?_
  refine c_seq ?_
  refine c_seq ?_
  refine c_region rfl ?_
  refine s_q rfl rfl (y_loadN (l := [(Value.int .i64 t1.Kind), (Value.int .i64 t1.Bits), (Value.int .i64 t1.Frac), (Value.int .i64 t1.Round), (Value.int .i64 t1.Over)]) rfl (ev_tmp rfl rfl) Tryz.underlying23 rfl size_23 (hI.kblk (l := [(Value.int .i64 t1.Kind), (Value.int .i64 t1.Bits), (Value.int .i64 t1.Frac), (Value.int .i64 t1.Round), (Value.int .i64 t1.Over)]) .z rfl).1) ?_
  obtain ⟨r1, hx1, h⟩ := bnd_some h
  refine s_call rfl rfl (r_callF (vs := [(Value.agg #[(Value.int .i64 t1.Kind), (Value.int .i64 t1.Bits), (Value.int .i64 t1.Frac), (Value.int .i64 t1.Round), (Value.int .i64 t1.Over)])]) rfl ok_23 ⟨(ev_tmp rfl rfl), trivial⟩) (Calls.mono (c_base_Type (Dj F c3) w2 hI.lt t1 trivial r1 hx1) ?_)
  rintro _ w3 ⟨rfl, hx2, hl1⟩
  refine ⟨_, rfl, ?_⟩
  replace hI := (hI.ext hx2)
  refine s_q rfl rfl (y_not rfl (ev_tmp rfl rfl)) ?_
  refine s_nil ?_
  refine k_next (e := [(1, (str s1)), (2, (Value.pointer (some ⟨b1, 0, none⟩))), (4, (Value.pointer (some ⟨b2, 0, none⟩))), (11, (Value.bool (!r1)))]) ⟨rfl, rfl, rfl, rfl, trivial⟩ ?_
  refine c_cond (b := !r1) (ev_tmp rfl rfl) (fun hb => ?_) (fun hb => ?_)
  · replace h := ite_t hb h
    refine c_seq ?_
    refine c_region rfl ?_
    refine s_q rfl rfl (y_build (vs := []) (cs := #[(Value.int .i64 0), (Value.int .i64 0)]) rfl trivial (by kernel_rfl)) ?_
    refine l_store (new := [(Value.int .i64 0), (Value.int .i64 0)]) (cs' := #[(Value.int .i64 0), (Value.int .i64 0)]) hI .z rfl rfl rfl (ev_tmp rfl rfl) (ev_tmp rfl rfl) rfl size_27 rfl rfl rfl ?_
    clear hI; intro c4 w4 hI
    refine s_q rfl rfl (y_assign rfl ev_const) ?_
    refine s_nil ?_
    refine k_next (e := [(4, (Value.pointer (some ⟨b2, 0, none⟩))), (5, (Value.int .i64 10))]) ⟨rfl, rfl, trivial⟩ ?_
    refine c_ret ?_
    obtain rfl := some_inj h
    exact q_ret (vs := [(Value.agg #[(Value.int .i64 0), (Value.int .i64 0)]), (Value.int .i64 10)]) Tryz.results14 ⟨⟨_, ev_tmp rfl rfl, load_agg (l := [(Value.int .i64 0), (Value.int .i64 0)]) Tryz.underlying27 rfl size_27 (CellsAt.of_blk (hI.blk .z) rfl)⟩, ⟨ev_tmp rfl rfl, trivial⟩⟩ ⟨rfl, hI.ext0, hI.fin trivial⟩
  · replace h := ite_f hb h
    refine c_skip ?_
    refine k_next (e := [(1, (str s1)), (2, (Value.pointer (some ⟨b1, 0, none⟩))), (4, (Value.pointer (some ⟨b2, 0, none⟩)))]) ⟨rfl, rfl, rfl, trivial⟩ ?_
    refine c_seq ?_
    refine c_region rfl ?_
    refine s_q rfl rfl (y_move rfl (ev_tmp rfl rfl)) ?_
    obtain ⟨r2, hx3, h⟩ := bnd_some h
    refine s_call rfl rfl (r_callF (vs := [(str s1)]) rfl ok_32 ⟨(ev_tmp rfl rfl), trivial⟩) (Calls.mono (c_ref01_Parse (Dj F c3) w3 hI.lt s1 trivial r2 hx3) ?_)
    rintro _ w5 ⟨rfl, hx4, hl2⟩
    refine ⟨_, rfl, ?_⟩
    replace hI := (hI.ext hx4)
    refine s_q rfl rfl (y_move rfl (ev_tmp rfl rfl)) ?_
    refine s_q rfl rfl (y_extract rfl (ev_tmp rfl rfl) rfl) ?_
    refine s_q rfl rfl (y_extract rfl (ev_tmp rfl rfl) rfl) ?_
    refine l_alloc (cs := #[(Value.int .i64 0), (Value.int .i64 0)]) hI rfl rfl rfl zero_27 rfl ?_
    clear hI; intro b3 c5 w6 hI
    refine l_store (new := [(Value.int .i64 r2.1.N), (Value.int .i64 r2.1.D)]) (cs' := #[(Value.int .i64 r2.1.N), (Value.int .i64 r2.1.D)]) hI .z rfl rfl rfl (ev_tmp rfl rfl) (ev_tmp rfl rfl) rfl size_27 rfl rfl rfl ?_
    clear hI; intro c6 w7 hI
    refine s_q rfl rfl (y_assign rfl (ev_tmp rfl rfl)) ?_
    refine s_nil ?_
    refine k_next (e := [(2, (Value.pointer (some ⟨b1, 0, none⟩))), (4, (Value.pointer (some ⟨b2, 0, none⟩))), (6, (Value.pointer (some ⟨b3, 0, none⟩))), (7, (Value.int .i64 r2.2))]) ⟨rfl, rfl, rfl, rfl, trivial⟩ ?_
    refine c_seq ?_
    refine c_seq ?_
    refine c_region rfl ?_
    refine s_q rfl rfl (y_move rfl (ev_tmp rfl rfl)) ?_
    refine s_q rfl rfl (y_neq rfl (ev_tmp rfl rfl) ev_const) ?_
    refine s_q rfl rfl (y_move rfl (ev_tmp rfl rfl)) ?_
    refine s_gval (g_false rfl rfl rfl rfl) rfl (fun hc => (y_fieldAddr rfl (ev_tmp rfl rfl) Tryz.underlying23 rfl size_3 rfl)) ?_
    refine s_gval (g_false rfl rfl rfl rfl) rfl (fun hc => (y_load1 (v := (Value.int .i64 t1.Kind)) rfl (ev_gv (ev_tmp rfl rfl) hc) Tryz.underlying3 rfl (hI.kblk (l := [(Value.int .i64 t1.Kind)]) .z rfl).1)) ?_
    refine s_gval (g_false rfl rfl rfl rfl) rfl (fun hc => (y_eql rfl (ev_gv (ev_tmp rfl rfl) hc) ev_const)) ?_
    refine s_q rfl rfl (y_or rfl (ev_tmp rfl rfl) (ev_tmp rfl rfl)) ?_
    refine s_nil ?_
    refine k_next (e := [(2, (Value.pointer (some ⟨b1, 0, none⟩))), (4, (Value.pointer (some ⟨b2, 0, none⟩))), (6, (Value.pointer (some ⟨b3, 0, none⟩))), (7, (Value.int .i64 r2.2)), (24, (Value.bool ((!decide (r2.2 = 0)) || (decide (t1.Kind = 1)))))]) ⟨rfl, rfl, rfl, rfl, rfl, trivial⟩ ?_
    refine c_cond (b := (!decide (r2.2 = 0)) || (decide (t1.Kind = 1))) (ev_tmp rfl rfl) (fun hb => ?_) (fun hb => ?_)
    · replace h := ite_t hb h
      refine c_seq ?_
      refine c_region rfl ?_
      refine s_q rfl rfl (y_loadN (l := [(Value.int .i64 r2.1.N), (Value.int .i64 r2.1.D)]) rfl (ev_tmp rfl rfl) Tryz.underlying27 rfl size_27 (CellsAt.of_blk (hI.blk .z) rfl)) ?_
      refine s_q rfl rfl (y_move rfl (ev_tmp rfl rfl)) ?_
      refine l_store (new := [(Value.int .i64 r2.1.N), (Value.int .i64 r2.1.D)]) (cs' := #[(Value.int .i64 r2.1.N), (Value.int .i64 r2.1.D)]) hI (.s .z) rfl rfl rfl (ev_tmp rfl rfl) (ev_tmp rfl rfl) rfl size_27 rfl rfl rfl ?_
      clear hI; intro c7 w8 hI
      refine s_q rfl rfl (y_assign rfl (ev_tmp rfl rfl)) ?_
      refine s_nil ?_
      refine k_next (e := [(4, (Value.pointer (some ⟨b2, 0, none⟩))), (5, (Value.int .i64 r2.2))]) ⟨rfl, rfl, trivial⟩ ?_
      refine c_ret ?_
      obtain rfl := some_inj h
      exact q_ret (vs := [(Value.agg #[(Value.int .i64 r2.1.N), (Value.int .i64 r2.1.D)]), (Value.int .i64 r2.2)]) Tryz.results14 ⟨⟨_, ev_tmp rfl rfl, load_agg (l := [(Value.int .i64 r2.1.N), (Value.int .i64 r2.1.D)]) Tryz.underlying27 rfl size_27 (CellsAt.of_blk (hI.blk (.s .z)) rfl)⟩, ⟨ev_tmp rfl rfl, trivial⟩⟩ ⟨rfl, hI.ext0, hI.fin trivial⟩
    · replace h := ite_f hb h
      refine c_skip ?_
      refine k_next (e := [(2, (Value.pointer (some ⟨b1, 0, none⟩))), (4, (Value.pointer (some ⟨b2, 0, none⟩))), (6, (Value.pointer (some ⟨b3, 0, none⟩)))]) ⟨rfl, rfl, rfl, trivial⟩ ?_
      refine c_seq ?_
      refine c_seq ?_
      refine c_region rfl ?_
      refine s_q rfl rfl (y_fieldAddr rfl (ev_tmp rfl rfl) Tryz.underlying23 rfl size_3 rfl) ?_
      refine s_q rfl rfl (y_load1 (v := (Value.int .i64 t1.Kind)) rfl (ev_tmp rfl rfl) Tryz.underlying3 rfl (hI.kblk (l := [(Value.int .i64 t1.Kind)]) .z rfl).1) ?_
      refine s_q rfl rfl (y_eql rfl (ev_tmp rfl rfl) ev_const) ?_
      refine s_nil ?_
      refine k_next (e := [(2, (Value.pointer (some ⟨b1, 0, none⟩))), (4, (Value.pointer (some ⟨b2, 0, none⟩))), (6, (Value.pointer (some ⟨b3, 0, none⟩))), (29, (Value.bool (decide (t1.Kind = 3))))]) ⟨rfl, rfl, rfl, rfl, trivial⟩ ?_
      refine c_cond (b := decide (t1.Kind = 3)) (ev_tmp rfl rfl) (fun hb => ?_) (fun hb => ?_)
      · replace h := ite_t hb h
        refine c_seq ?_
        refine c_seq ?_
        refine c_region rfl ?_
        refine s_q rfl rfl (y_fieldAddr rfl (ev_tmp rfl rfl) Tryz.underlying27 rfl size_2 rfl) ?_
        refine s_q rfl rfl (y_load1 (v := (Value.int .i64 r2.1.D)) rfl (ev_tmp rfl rfl) Tryz.underlying2 rfl (CellsAt.of_blk (hI.blk .z) rfl)) ?_
        refine s_q rfl rfl (y_neq rfl (ev_tmp rfl rfl) ev_const) ?_
        refine s_nil ?_
        refine k_next (e := [(4, (Value.pointer (some ⟨b2, 0, none⟩))), (6, (Value.pointer (some ⟨b3, 0, none⟩))), (32, (Value.bool (!decide (r2.1.D = 1))))]) ⟨rfl, rfl, rfl, trivial⟩ ?_
        refine c_cond (b := !decide (r2.1.D = 1)) (ev_tmp rfl rfl) (fun hb => ?_) (fun hb => ?_)
        · replace h := ite_t hb h
          refine c_seq ?_
          refine c_region rfl ?_
          refine s_q rfl rfl (y_build (vs := []) (cs := #[(Value.int .i64 0), (Value.int .i64 0)]) rfl trivial (by kernel_rfl)) ?_
          refine l_store (new := [(Value.int .i64 0), (Value.int .i64 0)]) (cs' := #[(Value.int .i64 0), (Value.int .i64 0)]) hI (.s .z) rfl rfl rfl (ev_tmp rfl rfl) (ev_tmp rfl rfl) rfl size_27 rfl rfl rfl ?_
          clear hI; intro c8 w9 hI
          refine s_q rfl rfl (y_assign rfl ev_const) ?_
          refine s_nil ?_
          refine k_next (e := [(4, (Value.pointer (some ⟨b2, 0, none⟩))), (5, (Value.int .i64 5))]) ⟨rfl, rfl, trivial⟩ ?_
          refine c_ret ?_
          obtain rfl := some_inj h
          exact q_ret (vs := [(Value.agg #[(Value.int .i64 0), (Value.int .i64 0)]), (Value.int .i64 5)]) Tryz.results14 ⟨⟨_, ev_tmp rfl rfl, load_agg (l := [(Value.int .i64 0), (Value.int .i64 0)]) Tryz.underlying27 rfl size_27 (CellsAt.of_blk (hI.blk (.s .z)) rfl)⟩, ⟨ev_tmp rfl rfl, trivial⟩⟩ ⟨rfl, hI.ext0, hI.fin trivial⟩
        · replace h := ite_f hb h
          refine c_skip ?_
          refine k_next (e := [(4, (Value.pointer (some ⟨b2, 0, none⟩))), (6, (Value.pointer (some ⟨b3, 0, none⟩)))]) ⟨rfl, rfl, trivial⟩ ?_
          refine c_seq ?_
          refine c_region rfl ?_
          refine s_q rfl rfl (y_loadN (l := [(Value.int .i64 r2.1.N), (Value.int .i64 r2.1.D)]) rfl (ev_tmp rfl rfl) Tryz.underlying27 rfl size_27 (CellsAt.of_blk (hI.blk .z) rfl)) ?_
          refine l_store (new := [(Value.int .i64 r2.1.N), (Value.int .i64 r2.1.D)]) (cs' := #[(Value.int .i64 r2.1.N), (Value.int .i64 r2.1.D)]) hI (.s .z) rfl rfl rfl (ev_tmp rfl rfl) (ev_tmp rfl rfl) rfl size_27 rfl rfl rfl ?_
          clear hI; intro c9 w10 hI
          refine s_q rfl rfl (y_assign rfl ev_const) ?_
          refine s_nil ?_
          refine k_next (e := [(4, (Value.pointer (some ⟨b2, 0, none⟩))), (5, (Value.int .i64 0))]) ⟨rfl, rfl, trivial⟩ ?_
          refine c_ret ?_
          obtain rfl := some_inj h
          exact q_ret (vs := [(Value.agg #[(Value.int .i64 r2.1.N), (Value.int .i64 r2.1.D)]), (Value.int .i64 0)]) Tryz.results14 ⟨⟨_, ev_tmp rfl rfl, load_agg (l := [(Value.int .i64 r2.1.N), (Value.int .i64 r2.1.D)]) Tryz.underlying27 rfl size_27 (CellsAt.of_blk (hI.blk (.s .z)) rfl)⟩, ⟨ev_tmp rfl rfl, trivial⟩⟩ ⟨rfl, hI.ext0, hI.fin trivial⟩
      · replace h := ite_f hb h
        refine c_skip ?_
        refine k_next (e := [(2, (Value.pointer (some ⟨b1, 0, none⟩))), (4, (Value.pointer (some ⟨b2, 0, none⟩))), (6, (Value.pointer (some ⟨b3, 0, none⟩)))]) ⟨rfl, rfl, rfl, trivial⟩ ?_
        refine c_seq ?_
        refine c_seq ?_
        refine c_drawX [] false (.c (0, .q) (.c (2, .q) (.c (3, .q) (.c (1, .s) (.c (4, .q) (.c (5, .q) .n)))))) hI (by kernel_rfl) (by kernel_rfl) ?_
        clear hI; intro w11 hI
        refine a_read rfl rfl rfl (fun w' hw' => (y_loadN (l := [(Value.int .i64 t1.Kind), (Value.int .i64 t1.Bits), (Value.int .i64 t1.Frac), (Value.int .i64 t1.Round), (Value.int .i64 t1.Over)]) rfl (ev_tmp rfl rfl) Tryz.underlying23 rfl size_23 ((hI.kblk (l := [(Value.int .i64 t1.Kind), (Value.int .i64 t1.Bits), (Value.int .i64 t1.Frac), (Value.int .i64 t1.Round), (Value.int .i64 t1.Over)]) .z rfl).at_ (SX.any rfl hw')))) (by kernel_rfl) ?_
        refine a_q rfl rfl rfl (fun w' => (y_fieldAddr rfl (ev_tmp rfl rfl) Tryz.underlying27 rfl size_2 rfl)) ?_
        refine a_read rfl rfl rfl (fun w' hw' => (y_load1 (v := (Value.int .i64 r2.1.D)) rfl (ev_tmp rfl rfl) Tryz.underlying2 rfl ((CA.blk (hI.blk .z) rfl).at_ (SX.any rfl hw')))) (by kernel_rfl) ?_
        obtain ⟨r3, hx5, h⟩ := bnd_some h
        refine la_call rfl rfl rfl (r_callF (vs := [(Value.agg #[(Value.int .i64 t1.Kind), (Value.int .i64 t1.Bits), (Value.int .i64 t1.Frac), (Value.int .i64 t1.Round), (Value.int .i64 t1.Over)])]) rfl ok_33 ⟨(ev_tmp rfl rfl), trivial⟩) (Calls.mono (c_ref04_step (Dj F c6) w11 hI.lt t1 trivial r3 hx5) ?_)
        rintro _ w12 ⟨rfl, hx6, hl3⟩
        refine ⟨_, rfl, hx6, ?_⟩
        replace hI := (hI.ext hx6)
        obtain ⟨ho1, h⟩ := chk_some h
        refine a_q rfl rfl rfl (fun w' => (y_rem rfl (ev_tmp rfl rfl) (ev_tmp rfl rfl) ho1)) ?_
        refine a_q rfl rfl rfl (fun w' => (y_neq rfl (ev_tmp rfl rfl) ev_const)) ?_
        refine a_nil ?_
        refine k_next (e := [(2, (Value.pointer (some ⟨b1, 0, none⟩))), (4, (Value.pointer (some ⟨b2, 0, none⟩))), (6, (Value.pointer (some ⟨b3, 0, none⟩))), (40, (Value.bool (!decide (Int.tmod r3 r2.1.D = 0))))]) ⟨rfl, rfl, rfl, rfl, trivial⟩ ?_
        refine c_cond (b := !decide (Int.tmod r3 r2.1.D = 0)) (ev_tmp rfl rfl) (fun hb => ?_) (fun hb => ?_)
        · replace h := ite_t hb h
          refine c_seq ?_
          refine c_region rfl ?_
          refine s_q rfl rfl (y_build (vs := []) (cs := #[(Value.int .i64 0), (Value.int .i64 0)]) rfl trivial (by kernel_rfl)) ?_
          refine l_store (new := [(Value.int .i64 0), (Value.int .i64 0)]) (cs' := #[(Value.int .i64 0), (Value.int .i64 0)]) hI (.s .z) rfl rfl rfl (ev_tmp rfl rfl) (ev_tmp rfl rfl) rfl size_27 rfl rfl rfl ?_
          clear hI; intro c10 w13 hI
          refine s_q rfl rfl (y_assign rfl ev_const) ?_
          refine s_nil ?_
          refine k_next (e := [(4, (Value.pointer (some ⟨b2, 0, none⟩))), (5, (Value.int .i64 5))]) ⟨rfl, rfl, trivial⟩ ?_
          refine c_ret ?_
          obtain rfl := some_inj h
          exact q_ret (vs := [(Value.agg #[(Value.int .i64 0), (Value.int .i64 0)]), (Value.int .i64 5)]) Tryz.results14 ⟨⟨_, ev_tmp rfl rfl, load_agg (l := [(Value.int .i64 0), (Value.int .i64 0)]) Tryz.underlying27 rfl size_27 (CellsAt.of_blk (hI.blk (.s .z)) rfl)⟩, ⟨ev_tmp rfl rfl, trivial⟩⟩ ⟨rfl, hI.ext0, hI.fin trivial⟩
        · replace h := ite_f hb h
          refine c_skip ?_
          refine k_next (e := [(2, (Value.pointer (some ⟨b1, 0, none⟩))), (4, (Value.pointer (some ⟨b2, 0, none⟩))), (6, (Value.pointer (some ⟨b3, 0, none⟩)))]) ⟨rfl, rfl, rfl, trivial⟩ ?_
          refine c_seq ?_
          refine c_drawX [10] false (.c (0, .q) (.c (1, .q) (.c (2, .q) (.c (4, .q) (.c (5, .q) (.two 3 (.c (6, .q) (.c (7, .q) (.c (8, .q) (.c (9, .s) (.c (10, .s) .n))))) 9 (.c (3, .s) (.c (6, .q) (.c (7, .q) (.c (8, .q) (.c (10, .s) .n))))))))))) hI (by kernel_rfl) (by kernel_rfl) ?_
          clear hI; intro w14 hI
          refine a_q rfl rfl rfl (fun w' => (y_fieldAddr rfl (ev_tmp rfl rfl) Tryz.underlying27 rfl size_2 rfl)) ?_
          refine a_read rfl rfl rfl (fun w' hw' => (y_load1 (v := (Value.int .i64 r2.1.N)) rfl (ev_tmp rfl rfl) Tryz.underlying2 rfl ((CA.blk (hI.blk .z) rfl).at_ (SX.any rfl hw')))) (by kernel_rfl) ?_
          refine a_read rfl rfl rfl (fun w' hw' => (y_loadN (l := [(Value.int .i64 t1.Kind), (Value.int .i64 t1.Bits), (Value.int .i64 t1.Frac), (Value.int .i64 t1.Round), (Value.int .i64 t1.Over)]) rfl (ev_tmp rfl rfl) Tryz.underlying23 rfl size_23 ((hI.kblk (l := [(Value.int .i64 t1.Kind), (Value.int .i64 t1.Bits), (Value.int .i64 t1.Frac), (Value.int .i64 t1.Round), (Value.int .i64 t1.Over)]) .z rfl).at_ (SX.any rfl hw')))) (by kernel_rfl) ?_
          refine a_q rfl rfl rfl (fun w' => (y_fieldAddr rfl (ev_tmp rfl rfl) Tryz.underlying27 rfl size_2 rfl)) ?_
          refine a_read rfl rfl rfl (fun w' hw' => (y_load1 (v := (Value.int .i64 r2.1.D)) rfl (ev_tmp rfl rfl) Tryz.underlying2 rfl ((CA.blk (hI.blk .z) rfl).at_ (SX.any rfl hw')))) (by kernel_rfl) ?_
          refine a_two ?_ ?_
          · skip
            obtain ⟨r4, hx7, h⟩ := bnd_some h
            refine la_call rfl rfl rfl (r_callF (vs := [(Value.agg #[(Value.int .i64 t1.Kind), (Value.int .i64 t1.Bits), (Value.int .i64 t1.Frac), (Value.int .i64 t1.Round), (Value.int .i64 t1.Over)])]) rfl ok_33 ⟨(ev_tmp rfl rfl), trivial⟩) (Calls.mono (c_ref04_step (Dj F c6) w14 hI.lt t1 trivial r4 hx7) ?_)
            rintro _ w15 ⟨rfl, hx8, hl4⟩
            refine ⟨_, rfl, hx8, ?_⟩
            replace hI := (hI.ext hx8)
            refine a_q rfl rfl rfl (fun w' => (y_quo rfl (ev_tmp rfl rfl) (ev_tmp rfl rfl) ho1)) ?_
            refine a_q rfl rfl rfl (fun w' => (y_mul rfl (ev_tmp rfl rfl) (ev_tmp rfl rfl))) ?_
            refine a_q rfl rfl rfl (fun w' => (y_build (vs := [(0, (Value.int .i64 (wi64 (r2.1.N * (wi64 (Int.tdiv r4 r2.1.D)))))), (1, (Value.int .i64 1))]) (cs := #[(Value.int .i64 (wi64 (r2.1.N * (wi64 (Int.tdiv r4 r2.1.D))))), (Value.int .i64 1)]) rfl ⟨rfl, (ev_tmp rfl rfl), ⟨rfl, ev_const, trivial⟩⟩ (by kernel_rfl))) ?_
            refine la_alloc (cs := #[(Value.int .i64 0), (Value.int .i64 0)]) hI rfl rfl rfl rfl zero_27 rfl ?_
            clear hI; intro b4 c11 w16 hI
            refine a_turn (F := F) (C := c11) rfl rfl ?_
            refine la_store (new := [(Value.int .i64 (wi64 (r2.1.N * (wi64 (Int.tdiv r4 r2.1.D))))), (Value.int .i64 1)]) (cs' := #[(Value.int .i64 (wi64 (r2.1.N * (wi64 (Int.tdiv r4 r2.1.D))))), (Value.int .i64 1)]) hI .z rfl rfl rfl rfl (ev_tmp rfl rfl) (ev_tmp rfl rfl) rfl size_27 rfl rfl rfl ?_
            clear hI; intro c12 w17 hI
            refine a_nil ?_
            refine k_next (e := [(2, (Value.pointer (some ⟨b1, 0, none⟩))), (4, (Value.pointer (some ⟨b2, 0, none⟩))), (8, (Value.pointer (some ⟨b4, 0, none⟩)))]) ⟨rfl, rfl, rfl, trivial⟩ ?_
            refine c_seq ?_
            refine c_seq ?_
            refine c_region rfl ?_
            refine s_q rfl rfl (y_loadN (l := [(Value.int .i64 t1.Kind), (Value.int .i64 t1.Bits), (Value.int .i64 t1.Frac), (Value.int .i64 t1.Round), (Value.int .i64 t1.Over)]) rfl (ev_tmp rfl rfl) Tryz.underlying23 rfl size_23 (hI.kblk (l := [(Value.int .i64 t1.Kind), (Value.int .i64 t1.Bits), (Value.int .i64 t1.Frac), (Value.int .i64 t1.Round), (Value.int .i64 t1.Over)]) .z rfl).1) ?_
            refine s_q rfl rfl (y_loadN (l := [(Value.int .i64 (wi64 (r2.1.N * (wi64 (Int.tdiv r4 r2.1.D))))), (Value.int .i64 1)]) rfl (ev_tmp rfl rfl) Tryz.underlying27 rfl size_27 (CellsAt.of_blk (hI.blk .z) rfl)) ?_
            obtain ⟨r5, hx9, h⟩ := bnd_some h
            refine s_call rfl rfl (r_callF (vs := [(Value.agg #[(Value.int .i64 t1.Kind), (Value.int .i64 t1.Bits), (Value.int .i64 t1.Frac), (Value.int .i64 t1.Round), (Value.int .i64 t1.Over)]), (Value.agg #[(Value.int .i64 (wi64 (r2.1.N * (wi64 (Int.tdiv r4 r2.1.D))))), (Value.int .i64 1)])]) rfl ok_24 ⟨(ev_tmp rfl rfl), ⟨(ev_tmp rfl rfl), trivial⟩⟩) (Calls.mono (c_base_Val (Dj F c12) w17 hI.lt t1 (⟨wi64 (r2.1.N * (wi64 (Int.tdiv r4 r2.1.D))), 1⟩ : GVal) trivial r5 hx9) ?_)
            rintro _ w18 ⟨rfl, hx10, hl5⟩
            refine ⟨_, rfl, ?_⟩
            replace hI := (hI.ext hx10)
            refine s_q rfl rfl (y_not rfl (ev_tmp rfl rfl)) ?_
            refine s_nil ?_
            refine k_next (e := [(4, (Value.pointer (some ⟨b2, 0, none⟩))), (8, (Value.pointer (some ⟨b4, 0, none⟩))), (54, (Value.bool (!r5)))]) ⟨rfl, rfl, rfl, trivial⟩ ?_
            refine c_cond (b := !r5) (ev_tmp rfl rfl) (fun hb => ?_) (fun hb => ?_)
            · replace h := ite_t hb h
              refine c_seq ?_
              refine c_region rfl ?_
              refine s_q rfl rfl (y_build (vs := []) (cs := #[(Value.int .i64 0), (Value.int .i64 0)]) rfl trivial (by kernel_rfl)) ?_
              refine l_store (new := [(Value.int .i64 0), (Value.int .i64 0)]) (cs' := #[(Value.int .i64 0), (Value.int .i64 0)]) hI (.s (.s .z)) rfl rfl rfl (ev_tmp rfl rfl) (ev_tmp rfl rfl) rfl size_27 rfl rfl rfl ?_
              clear hI; intro c13 w19 hI
              refine s_q rfl rfl (y_assign rfl ev_const) ?_
              refine s_nil ?_
              refine k_next (e := [(4, (Value.pointer (some ⟨b2, 0, none⟩))), (5, (Value.int .i64 3))]) ⟨rfl, rfl, trivial⟩ ?_
              refine c_ret ?_
              obtain rfl := some_inj h
              exact q_ret (vs := [(Value.agg #[(Value.int .i64 0), (Value.int .i64 0)]), (Value.int .i64 3)]) Tryz.results14 ⟨⟨_, ev_tmp rfl rfl, load_agg (l := [(Value.int .i64 0), (Value.int .i64 0)]) Tryz.underlying27 rfl size_27 (CellsAt.of_blk (hI.blk (.s (.s .z))) rfl)⟩, ⟨ev_tmp rfl rfl, trivial⟩⟩ ⟨rfl, hI.ext0, hI.fin trivial⟩
            · replace h := ite_f hb h
              refine c_skip ?_
              refine k_next (e := [(4, (Value.pointer (some ⟨b2, 0, none⟩))), (8, (Value.pointer (some ⟨b4, 0, none⟩)))]) ⟨rfl, rfl, trivial⟩ ?_
              refine c_seq ?_
              refine c_region rfl ?_
              refine s_q rfl rfl (y_loadN (l := [(Value.int .i64 (wi64 (r2.1.N * (wi64 (Int.tdiv r4 r2.1.D))))), (Value.int .i64 1)]) rfl (ev_tmp rfl rfl) Tryz.underlying27 rfl size_27 (CellsAt.of_blk (hI.blk .z) rfl)) ?_
              refine l_store (new := [(Value.int .i64 (wi64 (r2.1.N * (wi64 (Int.tdiv r4 r2.1.D))))), (Value.int .i64 1)]) (cs' := #[(Value.int .i64 (wi64 (r2.1.N * (wi64 (Int.tdiv r4 r2.1.D))))), (Value.int .i64 1)]) hI (.s (.s .z)) rfl rfl rfl (ev_tmp rfl rfl) (ev_tmp rfl rfl) rfl size_27 rfl rfl rfl ?_
              clear hI; intro c14 w20 hI
              refine s_q rfl rfl (y_assign rfl ev_const) ?_
              refine s_nil ?_
              refine k_next (e := [(4, (Value.pointer (some ⟨b2, 0, none⟩))), (5, (Value.int .i64 0))]) ⟨rfl, rfl, trivial⟩ ?_
              refine c_ret ?_
              obtain rfl := some_inj h
              exact q_ret (vs := [(Value.agg #[(Value.int .i64 (wi64 (r2.1.N * (wi64 (Int.tdiv r4 r2.1.D))))), (Value.int .i64 1)]), (Value.int .i64 0)]) Tryz.results14 ⟨⟨_, ev_tmp rfl rfl, load_agg (l := [(Value.int .i64 (wi64 (r2.1.N * (wi64 (Int.tdiv r4 r2.1.D))))), (Value.int .i64 1)]) Tryz.underlying27 rfl size_27 (CellsAt.of_blk (hI.blk (.s (.s .z))) rfl)⟩, ⟨ev_tmp rfl rfl, trivial⟩⟩ ⟨rfl, hI.ext0, hI.fin trivial⟩
          · skip
            refine la_alloc (cs := #[(Value.int .i64 0), (Value.int .i64 0)]) hI rfl rfl rfl rfl zero_27 rfl ?_
            clear hI; intro b4 c11 w15 hI
            obtain ⟨r4, hx7, h⟩ := bnd_some h
            refine la_call rfl rfl rfl (r_callF (vs := [(Value.agg #[(Value.int .i64 t1.Kind), (Value.int .i64 t1.Bits), (Value.int .i64 t1.Frac), (Value.int .i64 t1.Round), (Value.int .i64 t1.Over)])]) rfl ok_33 ⟨(ev_tmp rfl rfl), trivial⟩) (Calls.mono (c_ref04_step (Dj F c11) w15 hI.lt t1 trivial r4 hx7) ?_)
            rintro _ w16 ⟨rfl, hx8, hl4⟩
            refine ⟨_, rfl, hx8, ?_⟩
            replace hI := (hI.ext hx8)
            refine a_q rfl rfl rfl (fun w' => (y_quo rfl (ev_tmp rfl rfl) (ev_tmp rfl rfl) ho1)) ?_
            refine a_q rfl rfl rfl (fun w' => (y_mul rfl (ev_tmp rfl rfl) (ev_tmp rfl rfl))) ?_
            refine a_q rfl rfl rfl (fun w' => (y_build (vs := [(0, (Value.int .i64 (wi64 (r2.1.N * (wi64 (Int.tdiv r4 r2.1.D)))))), (1, (Value.int .i64 1))]) (cs := #[(Value.int .i64 (wi64 (r2.1.N * (wi64 (Int.tdiv r4 r2.1.D))))), (Value.int .i64 1)]) rfl ⟨rfl, (ev_tmp rfl rfl), ⟨rfl, ev_const, trivial⟩⟩ (by kernel_rfl))) ?_
            refine a_turn (F := F) (C := c11) rfl rfl ?_
            refine la_store (new := [(Value.int .i64 (wi64 (r2.1.N * (wi64 (Int.tdiv r4 r2.1.D))))), (Value.int .i64 1)]) (cs' := #[(Value.int .i64 (wi64 (r2.1.N * (wi64 (Int.tdiv r4 r2.1.D))))), (Value.int .i64 1)]) hI .z rfl rfl rfl rfl (ev_tmp rfl rfl) (ev_tmp rfl rfl) rfl size_27 rfl rfl rfl ?_
            clear hI; intro c12 w17 hI
            refine a_nil ?_
            refine k_next (e := [(2, (Value.pointer (some ⟨b1, 0, none⟩))), (4, (Value.pointer (some ⟨b2, 0, none⟩))), (8, (Value.pointer (some ⟨b4, 0, none⟩)))]) ⟨rfl, rfl, rfl, trivial⟩ ?_
            refine c_seq ?_
            refine c_seq ?_
            refine c_region rfl ?_
            refine s_q rfl rfl (y_loadN (l := [(Value.int .i64 t1.Kind), (Value.int .i64 t1.Bits), (Value.int .i64 t1.Frac), (Value.int .i64 t1.Round), (Value.int .i64 t1.Over)]) rfl (ev_tmp rfl rfl) Tryz.underlying23 rfl size_23 (hI.kblk (l := [(Value.int .i64 t1.Kind), (Value.int .i64 t1.Bits), (Value.int .i64 t1.Frac), (Value.int .i64 t1.Round), (Value.int .i64 t1.Over)]) .z rfl).1) ?_
            refine s_q rfl rfl (y_loadN (l := [(Value.int .i64 (wi64 (r2.1.N * (wi64 (Int.tdiv r4 r2.1.D))))), (Value.int .i64 1)]) rfl (ev_tmp rfl rfl) Tryz.underlying27 rfl size_27 (CellsAt.of_blk (hI.blk .z) rfl)) ?_
            obtain ⟨r5, hx9, h⟩ := bnd_some h
            refine s_call rfl rfl (r_callF (vs := [(Value.agg #[(Value.int .i64 t1.Kind), (Value.int .i64 t1.Bits), (Value.int .i64 t1.Frac), (Value.int .i64 t1.Round), (Value.int .i64 t1.Over)]), (Value.agg #[(Value.int .i64 (wi64 (r2.1.N * (wi64 (Int.tdiv r4 r2.1.D))))), (Value.int .i64 1)])]) rfl ok_24 ⟨(ev_tmp rfl rfl), ⟨(ev_tmp rfl rfl), trivial⟩⟩) (Calls.mono (c_base_Val (Dj F c12) w17 hI.lt t1 (⟨wi64 (r2.1.N * (wi64 (Int.tdiv r4 r2.1.D))), 1⟩ : GVal) trivial r5 hx9) ?_)
            rintro _ w18 ⟨rfl, hx10, hl5⟩
            refine ⟨_, rfl, ?_⟩
            replace hI := (hI.ext hx10)
            refine s_q rfl rfl (y_not rfl (ev_tmp rfl rfl)) ?_
            refine s_nil ?_
            refine k_next (e := [(4, (Value.pointer (some ⟨b2, 0, none⟩))), (8, (Value.pointer (some ⟨b4, 0, none⟩))), (54, (Value.bool (!r5)))]) ⟨rfl, rfl, rfl, trivial⟩ ?_
            refine c_cond (b := !r5) (ev_tmp rfl rfl) (fun hb => ?_) (fun hb => ?_)
            · replace h := ite_t hb h
              refine c_seq ?_
              refine c_region rfl ?_
              refine s_q rfl rfl (y_build (vs := []) (cs := #[(Value.int .i64 0), (Value.int .i64 0)]) rfl trivial (by kernel_rfl)) ?_
              refine l_store (new := [(Value.int .i64 0), (Value.int .i64 0)]) (cs' := #[(Value.int .i64 0), (Value.int .i64 0)]) hI (.s (.s .z)) rfl rfl rfl (ev_tmp rfl rfl) (ev_tmp rfl rfl) rfl size_27 rfl rfl rfl ?_
              clear hI; intro c13 w19 hI
              refine s_q rfl rfl (y_assign rfl ev_const) ?_
              refine s_nil ?_
              refine k_next (e := [(4, (Value.pointer (some ⟨b2, 0, none⟩))), (5, (Value.int .i64 3))]) ⟨rfl, rfl, trivial⟩ ?_
              refine c_ret ?_
              obtain rfl := some_inj h
              exact q_ret (vs := [(Value.agg #[(Value.int .i64 0), (Value.int .i64 0)]), (Value.int .i64 3)]) Tryz.results14 ⟨⟨_, ev_tmp rfl rfl, load_agg (l := [(Value.int .i64 0), (Value.int .i64 0)]) Tryz.underlying27 rfl size_27 (CellsAt.of_blk (hI.blk (.s (.s .z))) rfl)⟩, ⟨ev_tmp rfl rfl, trivial⟩⟩ ⟨rfl, hI.ext0, hI.fin trivial⟩
            · replace h := ite_f hb h
              refine c_skip ?_
              refine k_next (e := [(4, (Value.pointer (some ⟨b2, 0, none⟩))), (8, (Value.pointer (some ⟨b4, 0, none⟩)))]) ⟨rfl, rfl, trivial⟩ ?_
              refine c_seq ?_
              refine c_region rfl ?_
              refine s_q rfl rfl (y_loadN (l := [(Value.int .i64 (wi64 (r2.1.N * (wi64 (Int.tdiv r4 r2.1.D))))), (Value.int .i64 1)]) rfl (ev_tmp rfl rfl) Tryz.underlying27 rfl size_27 (CellsAt.of_blk (hI.blk .z) rfl)) ?_
              refine l_store (new := [(Value.int .i64 (wi64 (r2.1.N * (wi64 (Int.tdiv r4 r2.1.D))))), (Value.int .i64 1)]) (cs' := #[(Value.int .i64 (wi64 (r2.1.N * (wi64 (Int.tdiv r4 r2.1.D))))), (Value.int .i64 1)]) hI (.s (.s .z)) rfl rfl rfl (ev_tmp rfl rfl) (ev_tmp rfl rfl) rfl size_27 rfl rfl rfl ?_
              clear hI; intro c14 w20 hI
              refine s_q rfl rfl (y_assign rfl ev_const) ?_
              refine s_nil ?_
              refine k_next (e := [(4, (Value.pointer (some ⟨b2, 0, none⟩))), (5, (Value.int .i64 0))]) ⟨rfl, rfl, trivial⟩ ?_
              refine c_ret ?_
              obtain rfl := some_inj h
              exact q_ret (vs := [(Value.agg #[(Value.int .i64 (wi64 (r2.1.N * (wi64 (Int.tdiv r4 r2.1.D))))), (Value.int .i64 1)]), (Value.int .i64 0)]) Tryz.results14 ⟨⟨_, ev_tmp rfl rfl, load_agg (l := [(Value.int .i64 (wi64 (r2.1.N * (wi64 (Int.tdiv r4 r2.1.D))))), (Value.int .i64 1)]) Tryz.underlying27 rfl size_27 (CellsAt.of_blk (hI.blk (.s (.s .z))) rfl)⟩, ⟨ev_tmp rfl rfl, trivial⟩⟩ ⟨rfl, hI.ext0, hI.fin trivial⟩

set_option maxRecDepth 100000 in
set_option maxHeartbeats 4000000 in
theorem c_ref04_Value (F : NP) (w0 : World) (hF : ∀ k, F k → k < w0.heap.size) (t1 : GType) (v1 : GVal) (hc : AllCl [] F w0) (r : GVal)
    (h : m_ref04_Value t1 v1 = some r) :
    Calls Tryz.prog 38 #[(Value.agg #[(Value.int .i64 t1.Kind), (Value.int .i64 t1.Bits), (Value.int .i64 t1.Frac), (Value.int .i64 t1.Round), (Value.int .i64 t1.Over)]), (Value.agg #[(Value.int .i64 v1.N), (Value.int .i64 v1.D)])] w0 fun e w => e = .returned (Value.agg #[(Value.int .i64 r.N), (Value.int .i64 r.D)]) ∧ Ext w0 w ∧ AllCl [] F w := by
  refine ofEnter (R := fun v w => v = (Value.agg #[(Value.int .i64 r.N), (Value.int .i64 r.D)]) ∧ Ext w0 w ∧ AllCl [] F w) (enter (l := [(Value.agg #[(Value.int .i64 t1.Kind), (Value.int .i64 t1.Bits), (Value.int .i64 t1.Frac), (Value.int .i64 t1.Round), (Value.int .i64 t1.Over)]), (Value.agg #[(Value.int .i64 v1.N), (Value.int .i64 v1.D)])]) Tryz.func38 rfl Tryz.ntmps38 rfl ?_) ?_
  rotate_left
  · rintro _ w ⟨rfl, k1, k2⟩; exact ⟨rfl, k1, k2⟩
  have hI := Bun.start hF hc
  clear hc
  rw [m_ref04_Value] at h
  refine c_seq ?_
  refine c_region rfl ?_
  refine l_box (v := (Value.agg #[(Value.int .i64 t1.Kind), (Value.int .i64 t1.Bits), (Value.int .i64 t1.Frac), (Value.int .i64 t1.Round), (Value.int .i64 t1.Over)])) (cs := #[(Value.int .i64 t1.Kind), (Value.int .i64 t1.Bits), (Value.int .i64 t1.Frac), (Value.int .i64 t1.Round), (Value.int .i64 t1.Over)]) hI rfl rfl rfl (ev_tmp rfl rfl) rfl ?_
  clear hI; intro b1 c1 w1 hI
  obtain ⟨c2, hI⟩ := hI.relBox .z
  refine l_box (v := (Value.agg #[(Value.int .i64 v1.N), (Value.int .i64 v1.D)])) (cs := #[(Value.int .i64 v1.N), (Value.int .i64 v1.D)]) hI rfl rfl rfl (ev_tmp rfl rfl) rfl ?_
  clear hI; intro b2 c3 w2 hI
  refine l_alloc (cs := #[(Value.int .i64 0), (Value.int .i64 0)]) hI rfl rfl rfl zero_27 rfl ?_
  clear hI; intro b3 c4 w3 hI
  refine s_nil ?_
  refine k_next (e := [(2, (Value.pointer (some ⟨b1, 0, none⟩))), (3, (Value.pointer (some ⟨b2, 0, none⟩))), (4, (Value.pointer (some ⟨b3, 0, none⟩)))]) ⟨rfl, rfl, rfl, trivial⟩ ?_
  refine c_seq ?_
  refine c_seq ?_
  refine c_region rfl ?_
  refine s_q rfl rfl (y_fieldAddr rfl (ev_tmp rfl rfl) Tryz.underlying23 rfl size_3 rfl) ?_
  refine s_q rfl rfl (y_load1 (v := (Value.int .i64 t1.Kind)) rfl (ev_tmp rfl rfl) Tryz.underlying3 rfl (hI.kblk (l := [(Value.int .i64 t1.Kind)]) .z rfl).1) ?_
  refine s_q rfl rfl (y_eql rfl (ev_tmp rfl rfl) ev_const) ?_
  refine s_nil ?_
  refine k_next (e := [(2, (Value.pointer (some ⟨b1, 0, none⟩))), (3, (Value.pointer (some ⟨b2, 0, none⟩))), (4, (Value.pointer (some ⟨b3, 0, none⟩))), (7, (Value.bool (decide (t1.Kind = 2))))]) ⟨rfl, rfl, rfl, rfl, trivial⟩ ?_
  refine c_cond (b := decide (t1.Kind = 2)) (ev_tmp rfl rfl) (fun hb => ?_) (fun hb => ?_)
  · replace h := ite_t hb h
    refine c_drawX [8] false (.c (0, .q) (.c (1, .q) (.c (2, .q) (.c (3, .s) (.c (4, .s) (.c (5, .q) (.c (6, .q) (.c (7, .q) (.c (8, .s) .n))))))))) hI (by kernel_rfl) (by kernel_rfl) ?_
    clear hI; intro w4 hI
    refine a_q rfl rfl rfl (fun w' => (y_fieldAddr rfl (ev_tmp rfl rfl) Tryz.underlying27 rfl size_2 rfl)) ?_
    refine a_read rfl rfl rfl (fun w' hw' => (y_load1 (v := (Value.int .i64 v1.N)) rfl (ev_tmp rfl rfl) Tryz.underlying2 rfl ((CA.blk (hI.blk (.s .z)) rfl).at_ (SX.any rfl hw')))) (by kernel_rfl) ?_
    refine a_read rfl rfl rfl (fun w' hw' => (y_loadN (l := [(Value.int .i64 t1.Kind), (Value.int .i64 t1.Bits), (Value.int .i64 t1.Frac), (Value.int .i64 t1.Round), (Value.int .i64 t1.Over)]) rfl (ev_tmp rfl rfl) Tryz.underlying23 rfl size_23 ((hI.kblk (l := [(Value.int .i64 t1.Kind), (Value.int .i64 t1.Bits), (Value.int .i64 t1.Frac), (Value.int .i64 t1.Round), (Value.int .i64 t1.Over)]) .z rfl).at_ (SX.any rfl hw')))) (by kernel_rfl) ?_
    obtain ⟨r1, hx1, h⟩ := bnd_some h
    refine la_call rfl rfl rfl (r_callF (vs := [(Value.agg #[(Value.int .i64 t1.Kind), (Value.int .i64 t1.Bits), (Value.int .i64 t1.Frac), (Value.int .i64 t1.Round), (Value.int .i64 t1.Over)])]) rfl ok_33 ⟨(ev_tmp rfl rfl), trivial⟩) (Calls.mono (c_ref04_step (Dj F c4) w4 hI.lt t1 trivial r1 hx1) ?_)
    rintro _ w5 ⟨rfl, hx2, hl1⟩
    refine ⟨_, rfl, hx2, ?_⟩
    replace hI := (hI.ext hx2)
    obtain ⟨r2, hx3, h⟩ := bnd_some h
    refine la_call rfl rfl rfl (r_callF (vs := [(Value.int .i64 v1.N), (Value.int .i64 r1)]) rfl ok_71 ⟨(ev_tmp rfl rfl), ⟨(ev_tmp rfl rfl), trivial⟩⟩) (Calls.mono (c_ref01_New (Dj F c4) w5 hI.lt v1.N r1 trivial r2 hx3) ?_)
    rintro _ w6 ⟨rfl, hx4, hl2⟩
    refine ⟨_, rfl, hx4, ?_⟩
    replace hI := (hI.ext hx4)
    refine a_q rfl rfl rfl (fun w' => (y_move rfl (ev_tmp rfl rfl))) ?_
    refine a_q rfl rfl rfl (fun w' => (y_extract rfl (ev_tmp rfl rfl) rfl)) ?_
    refine a_q rfl rfl rfl (fun w' => (y_extract rfl (ev_tmp rfl rfl) rfl)) ?_
    refine a_turn (F := F) (C := c4) rfl rfl ?_
    refine la_store (new := [(Value.int .i64 r2.1.N), (Value.int .i64 r2.1.D)]) (cs' := #[(Value.int .i64 r2.1.N), (Value.int .i64 r2.1.D)]) hI (.s .z) rfl rfl rfl rfl (ev_tmp rfl rfl) (ev_tmp rfl rfl) rfl size_27 rfl rfl rfl ?_
    clear hI; intro c5 w7 hI
    refine a_nil ?_
    refine k_next (e := [(3, (Value.pointer (some ⟨b2, 0, none⟩))), (4, (Value.pointer (some ⟨b3, 0, none⟩)))]) ⟨rfl, rfl, trivial⟩ ?_
    refine c_seq ?_
    refine c_region rfl ?_
    refine s_q rfl rfl (y_loadN (l := [(Value.int .i64 r2.1.N), (Value.int .i64 r2.1.D)]) rfl (ev_tmp rfl rfl) Tryz.underlying27 rfl size_27 (CellsAt.of_blk (hI.blk (.s .z)) rfl)) ?_
    refine l_store (new := [(Value.int .i64 r2.1.N), (Value.int .i64 r2.1.D)]) (cs' := #[(Value.int .i64 r2.1.N), (Value.int .i64 r2.1.D)]) hI .z rfl rfl rfl (ev_tmp rfl rfl) (ev_tmp rfl rfl) rfl size_27 rfl rfl rfl ?_
    clear hI; intro c6 w8 hI
    refine s_nil ?_
    refine k_next (e := [(4, (Value.pointer (some ⟨b3, 0, none⟩)))]) ⟨rfl, trivial⟩ ?_
    refine c_ret ?_
    obtain rfl := some_inj h
    exact q_ret (vs := [(Value.agg #[(Value.int .i64 r2.1.N), (Value.int .i64 r2.1.D)])]) Tryz.results38 ⟨⟨_, ev_tmp rfl rfl, load_agg (l := [(Value.int .i64 r2.1.N), (Value.int .i64 r2.1.D)]) Tryz.underlying27 rfl size_27 (CellsAt.of_blk (hI.blk .z) rfl)⟩, trivial⟩ ⟨rfl, hI.ext0, hI.fin trivial⟩
  · replace h := ite_f hb h
    refine c_skip ?_
    refine k_next (e := [(3, (Value.pointer (some ⟨b2, 0, none⟩))), (4, (Value.pointer (some ⟨b3, 0, none⟩)))]) ⟨rfl, rfl, trivial⟩ ?_
    refine c_seq ?_
    refine c_region rfl ?_
    refine s_q rfl rfl (y_loadN (l := [(Value.int .i64 v1.N), (Value.int .i64 v1.D)]) rfl (ev_tmp rfl rfl) Tryz.underlying27 rfl size_27 (CellsAt.of_blk (hI.blk (.s .z)) rfl)) ?_
    refine l_store (new := [(Value.int .i64 v1.N), (Value.int .i64 v1.D)]) (cs' := #[(Value.int .i64 v1.N), (Value.int .i64 v1.D)]) hI .z rfl rfl rfl (ev_tmp rfl rfl) (ev_tmp rfl rfl) rfl size_27 rfl rfl rfl ?_
    clear hI; intro c7 w9 hI
    refine s_nil ?_
    refine k_next (e := [(4, (Value.pointer (some ⟨b3, 0, none⟩)))]) ⟨rfl, trivial⟩ ?_
    refine c_ret ?_
    obtain rfl := some_inj h
    exact q_ret (vs := [(Value.agg #[(Value.int .i64 v1.N), (Value.int .i64 v1.D)])]) Tryz.results38 ⟨⟨_, ev_tmp rfl rfl, load_agg (l := [(Value.int .i64 v1.N), (Value.int .i64 v1.D)]) Tryz.underlying27 rfl size_27 (CellsAt.of_blk (hI.blk .z) rfl)⟩, trivial⟩ ⟨rfl, hI.ext0, hI.fin trivial⟩

set_option maxRecDepth 100000 in
set_option maxHeartbeats 4000000 in
theorem c_ref01_plain (F : NP) (w0 : World) (hF : ∀ k, F k → k < w0.heap.size) (n1 : Int) (hc : AllCl [] F w0) (r : List UInt8)
    (h : m_ref01_plain n1 = some r) :
    Calls Tryz.prog 99 #[(Value.int .u64 n1)] w0 fun e w => e = .returned (str r) ∧ Ext w0 w ∧ AllCl [] F w := by
  refine ofEnter (R := fun v w => v = (str r) ∧ Ext w0 w ∧ AllCl [] F w) (enter (l := [(Value.int .u64 n1)]) Tryz.func99 rfl Tryz.ntmps99 rfl ?_) ?_
  rotate_left
  · rintro _ w ⟨rfl, k1, k2⟩; exact ⟨rfl, k1, k2⟩
  have hI := Bun.start hF hc
  clear hc
  rw [m_ref01_plain] at h
  refine c_seq ?_
  refine c_region rfl ?_
  refine s_q rfl rfl (y_assign rfl ev_const) ?_
  refine s_nil ?_
  refine k_next (e := [(0, (Value.int .u64 n1))]) ⟨rfl, trivial⟩ ?_
  refine c_seq ?_
  refine c_region rfl ?_
  refine s_q rfl rfl (y_assign rfl ev_const) ?_
  refine s_nil ?_
  refine k_next (e := [(0, (Value.int .u64 n1)), (3, (str ([] : List UInt8)))]) ⟨rfl, rfl, trivial⟩ ?_
  refine c_seq ?_
  refine c_block ?_
  refine c_loop (α := Nat × Int × (List UInt8)) (fun x => fun w => ∃ C, Bun noM F w0 C w [] [] ∧ m_ref01_plain_l1 (x.1) (x.2.1) (x.2.2) = some r) (fun x _ => x.1) (fun x => [(0, (Value.int .u64 (x.2.1))), (3, (str (x.2.2)))]) (fu, n1, ([] : List UInt8)) ⟨_, hI.arr .n trivial, h⟩ ⟨rfl, rfl, trivial⟩ ?_
  clear h hI; rintro ⟨fuel1, n2, s1⟩ w1 ⟨c1, hI, h⟩
  dsimp only at hI h
  rcases fuel1 with _ | fuel1
  · rw [m_ref01_plain_l1] at h; cases h
  rw [m_ref01_plain_l1] at h
  refine c_sub (e := [(0, (Value.int .u64 n2)), (3, (str s1))]) ⟨rfl, rfl, trivial⟩ ?_
  refine c_seq ?_
  refine c_seq ?_
  refine c_region rfl ?_
  refine s_q rfl rfl (y_move rfl (ev_tmp rfl rfl)) ?_
  refine s_q rfl rfl (y_geq rfl (ev_tmp rfl rfl) ev_const) ?_
  refine s_nil ?_
  refine k_next (e := [(0, (Value.int .u64 n2)), (3, (str s1)), (5, (Value.bool (decide (10 ≤ n2))))]) ⟨rfl, rfl, rfl, trivial⟩ ?_
  refine c_cond (b := decide (10 ≤ n2)) (ev_tmp rfl rfl) (fun hb => ?_) (fun hb => ?_)
  · replace h := ite_t hb h
    refine c_skip ?_
    refine k_next (e := [(0, (Value.int .u64 n2)), (3, (str s1))]) ⟨rfl, rfl, trivial⟩ ?_
    refine c_block ?_
    refine c_seq ?_
    refine c_region rfl ?_
    refine s_q rfl rfl (y_move rfl (ev_tmp rfl rfl)) ?_
    refine s_q rfl rfl (y_rem rfl (ev_tmp rfl rfl) ev_const (by decide)) ?_
    refine s_q rfl rfl (y_move rfl (ev_tmp rfl rfl)) ?_
    refine s_q rfl rfl (y_rem rfl (ev_tmp rfl rfl) ev_const (by decide)) ?_
    refine s_q rfl rfl (y_add rfl (ev_tmp rfl rfl) ev_const) ?_
    obtain ⟨s2, hx1, h⟩ := bnd_some h
    refine s_q rfl rfl (y_ssub rfl Tryz.underlying9 ev_const (ev_tmp rfl rfl) (ev_tmp rfl rfl) hx1) ?_
    refine s_q rfl rfl (y_move rfl (ev_tmp rfl rfl)) ?_
    obtain ⟨s3, hx2, h⟩ := bnd_some h
    refine s_q rfl rfl (y_catl rfl (ev_tmp rfl rfl) (ev_tmp rfl rfl) hx2) ?_
    refine s_q rfl rfl (y_assign rfl (ev_tmp rfl rfl)) ?_
    refine s_nil ?_
    refine k_next (e := [(0, (Value.int .u64 n2)), (3, (str s3))]) ⟨rfl, rfl, trivial⟩ ?_
    refine c_region rfl ?_
    refine s_q rfl rfl (y_move rfl (ev_tmp rfl rfl)) ?_
    refine s_q rfl rfl (y_quo rfl (ev_tmp rfl rfl) ev_const (by decide)) ?_
    refine s_q rfl rfl (y_assign rfl (ev_tmp rfl rfl)) ?_
    refine s_nil ?_
    exact k_loop (fuel1, wu64 (Int.tdiv n2 10), s3) ⟨rfl, rfl, trivial⟩ ⟨_, hI.arr .n trivial, h⟩ (Nat.lt_succ_self _)
  · replace h := ite_f hb h
    refine c_exit ?_
    refine k_in ?_
    refine k_next (e := [(0, (Value.int .u64 n2)), (3, (str s1))]) ⟨rfl, rfl, trivial⟩ ?_
    refine c_seq ?_
    refine c_region rfl ?_
    refine s_q rfl rfl (y_move rfl (ev_tmp rfl rfl)) ?_
    refine s_q rfl rfl (y_move rfl (ev_tmp rfl rfl)) ?_
    refine s_q rfl rfl (y_add rfl (ev_tmp rfl rfl) ev_const) ?_
    obtain ⟨s4, hx3, h⟩ := bnd_some h
    refine s_q rfl rfl (y_ssub rfl Tryz.underlying9 ev_const (ev_tmp rfl rfl) (ev_tmp rfl rfl) hx3) ?_
    refine s_q rfl rfl (y_move rfl (ev_tmp rfl rfl)) ?_
    obtain ⟨s5, hx4, h⟩ := bnd_some h
    refine s_q rfl rfl (y_catl rfl (ev_tmp rfl rfl) (ev_tmp rfl rfl) hx4) ?_
    refine s_q rfl rfl (y_assign rfl (ev_tmp rfl rfl)) ?_
    refine s_nil ?_
    refine k_next (e := [(2, (str s5))]) ⟨rfl, trivial⟩ ?_
    refine c_ret ?_
    obtain rfl := some_inj h
    exact q_ret (vs := [(str s5)]) Tryz.results99 ⟨ev_tmp rfl rfl, trivial⟩ ⟨rfl, hI.ext0, hI.fin trivial⟩

set_option maxRecDepth 100000 in
set_option maxHeartbeats 4000000 in
theorem c_ref01_Digits (F : NP) (w0 : World) (hF : ∀ k, F k → k < w0.heap.size) (n1 : Int) (hc : AllCl [] F w0) (r : List UInt8)
    (h : m_ref01_Digits n1 = some r) :
    Calls Tryz.prog 70 #[(Value.int .i64 n1)] w0 fun e w => e = .returned (str r) ∧ Ext w0 w ∧ AllCl [] F w := by
  refine ofEnter (R := fun v w => v = (str r) ∧ Ext w0 w ∧ AllCl [] F w) (enter (l := [(Value.int .i64 n1)]) Tryz.func70 rfl Tryz.ntmps70 rfl ?_) ?_
  rotate_left
  · rintro _ w ⟨rfl, k1, k2⟩; exact ⟨rfl, k1, k2⟩
  have hI := Bun.start hF hc
  clear hc
  rw [m_ref01_Digits] at h
  refine c_seq ?_
  refine c_region rfl ?_
  refine s_q rfl rfl (y_assign rfl ev_const) ?_
  refine s_nil ?_
  refine k_next (e := [(0, (Value.int .i64 n1))]) ⟨rfl, trivial⟩ ?_
  refine c_seq ?_
  refine c_seq ?_
  refine c_region rfl ?_
  refine s_q rfl rfl (y_move rfl (ev_tmp rfl rfl)) ?_
  refine s_q rfl rfl (y_lss rfl (ev_tmp rfl rfl) ev_const) ?_
  refine s_nil ?_
  refine k_next (e := [(0, (Value.int .i64 n1)), (4, (Value.bool (decide (n1 < 0))))]) ⟨rfl, rfl, trivial⟩ ?_
  refine c_cond (b := decide (n1 < 0)) (ev_tmp rfl rfl) (fun hb => ?_) (fun hb => ?_)
  · replace h := ite_t hb h
    refine c_seq ?_
    refine c_region rfl ?_
    refine s_q rfl rfl (y_move rfl (ev_tmp rfl rfl)) ?_
    obtain ⟨r1, hx1, h⟩ := bnd_some h
    refine s_call rfl rfl (r_callF (vs := [(Value.int .i64 n1)]) rfl ok_66 ⟨(ev_tmp rfl rfl), trivial⟩) (Calls.mono (c_ref01_size (Dj F noM) w0 hI.lt n1 trivial r1 hx1) ?_)
    rintro _ w1 ⟨rfl, hx2, hl1⟩
    refine ⟨_, rfl, ?_⟩
    replace hI := (hI.ext hx2)
    obtain ⟨r2, hx3, h⟩ := bnd_some h
    refine s_call rfl rfl (r_callF (vs := [(Value.int .u64 r1)]) rfl ok_99 ⟨(ev_tmp rfl rfl), trivial⟩) (Calls.mono (c_ref01_plain (Dj F noM) w1 hI.lt r1 trivial r2 hx3) ?_)
    rintro _ w2 ⟨rfl, hx4, hl2⟩
    refine ⟨_, rfl, ?_⟩
    replace hI := (hI.ext hx4)
    obtain ⟨s1, hx5, h⟩ := bnd_some h
    refine s_q rfl rfl (y_catl rfl ev_const (ev_tmp rfl rfl) hx5) ?_
    refine s_q rfl rfl (y_assign rfl (ev_tmp rfl rfl)) ?_
    refine s_nil ?_
    refine k_next (e := [(2, (str s1))]) ⟨rfl, trivial⟩ ?_
    refine c_ret ?_
    obtain rfl := some_inj h
    exact q_ret (vs := [(str s1)]) Tryz.results70 ⟨ev_tmp rfl rfl, trivial⟩ ⟨rfl, hI.ext0, hI.fin trivial⟩
  · replace h := ite_f hb h
    refine c_skip ?_
    refine k_next (e := [(0, (Value.int .i64 n1))]) ⟨rfl, trivial⟩ ?_
    refine c_seq ?_
    refine c_region rfl ?_
    refine s_q rfl rfl (y_move rfl (ev_tmp rfl rfl)) ?_
    obtain ⟨r3, hx6, h⟩ := bnd_some h
    refine s_call rfl rfl (r_callF (vs := [(Value.int .i64 n1)]) rfl ok_66 ⟨(ev_tmp rfl rfl), trivial⟩) (Calls.mono (c_ref01_size (Dj F noM) w0 hI.lt n1 trivial r3 hx6) ?_)
    rintro _ w3 ⟨rfl, hx7, hl3⟩
    refine ⟨_, rfl, ?_⟩
    replace hI := (hI.ext hx7)
    obtain ⟨r4, hx8, h⟩ := bnd_some h
    refine s_call rfl rfl (r_callF (vs := [(Value.int .u64 r3)]) rfl ok_99 ⟨(ev_tmp rfl rfl), trivial⟩) (Calls.mono (c_ref01_plain (Dj F noM) w3 hI.lt r3 trivial r4 hx8) ?_)
    rintro _ w4 ⟨rfl, hx9, hl4⟩
    refine ⟨_, rfl, ?_⟩
    replace hI := (hI.ext hx9)
    refine s_q rfl rfl (y_assign rfl (ev_tmp rfl rfl)) ?_
    refine s_nil ?_
    refine k_next (e := [(2, (str r4))]) ⟨rfl, trivial⟩ ?_
    refine c_ret ?_
    obtain rfl := some_inj h
    exact q_ret (vs := [(str r4)]) Tryz.results70 ⟨ev_tmp rfl rfl, trivial⟩ ⟨rfl, hI.ext0, hI.fin trivial⟩

set_option maxRecDepth 100000 in
set_option maxHeartbeats 4000000 in
theorem c_ref01_Format (F : NP) (w0 : World) (hF : ∀ k, F k → k < w0.heap.size) (a1 : GVal) (hc : AllCl [] F w0) (r : List UInt8)
    (h : m_ref01_Format a1 = some r) :
    Calls Tryz.prog 37 #[(Value.agg #[(Value.int .i64 a1.N), (Value.int .i64 a1.D)])] w0 fun e w => e = .returned (str r) ∧ Ext w0 w ∧ AllCl [] F w := by
  refine ofEnter (R := fun v w => v = (str r) ∧ Ext w0 w ∧ AllCl [] F w) (enter (l := [(Value.agg #[(Value.int .i64 a1.N), (Value.int .i64 a1.D)])]) Tryz.func37 rfl Tryz.ntmps37 rfl ?_) ?_
  rotate_left
  · rintro _ w ⟨rfl, k1, k2⟩; exact ⟨rfl, k1, k2⟩
  have hI := Bun.start hF hc
  clear hc
  rw [m_ref01_Format] at h
  refine c_seq ?_
  refine c_region rfl ?_
  refine l_box (v := (Value.agg #[(Value.int .i64 a1.N), (Value.int .i64 a1.D)])) (cs := #[(Value.int .i64 a1.N), (Value.int .i64 a1.D)]) hI rfl rfl rfl (ev_tmp rfl rfl) rfl ?_
  clear hI; intro b1 c1 w1 hI
  obtain ⟨c2, hI⟩ := hI.relBox .z
  refine s_q rfl rfl (y_assign rfl ev_const) ?_
  refine s_nil ?_
  refine k_next (e := [(1, (Value.pointer (some ⟨b1, 0, none⟩)))]) ⟨rfl, trivial⟩ ?_
  refine c_seq ?_
  refine c_seq ?_
  refine c_region rfl ?_
  refine s_q rfl rfl (y_loadN (l := [(Value.int .i64 a1.N), (Value.int .i64 a1.D)]) rfl (ev_tmp rfl rfl) Tryz.underlying27 rfl size_27 (hI.kblk (l := [(Value.int .i64 a1.N), (Value.int .i64 a1.D)]) .z rfl).1) ?_
  obtain ⟨r1, hx1, h⟩ := bnd_some h
  refine s_call rfl rfl (r_callF (vs := [(Value.agg #[(Value.int .i64 a1.N), (Value.int .i64 a1.D)])]) rfl ok_69 ⟨(ev_tmp rfl rfl), trivial⟩) (Calls.mono (c_ref01_Valid (Dj F c2) w1 hI.lt a1 trivial r1 hx1) ?_)
  rintro _ w2 ⟨rfl, hx2, hl1⟩
  refine ⟨_, rfl, ?_⟩
  replace hI := (hI.ext hx2)
  refine s_q rfl rfl (y_not rfl (ev_tmp rfl rfl)) ?_
  refine s_nil ?_
  refine k_next (e := [(1, (Value.pointer (some ⟨b1, 0, none⟩))), (5, (Value.bool (!r1)))]) ⟨rfl, rfl, trivial⟩ ?_
  refine c_cond (b := !r1) (ev_tmp rfl rfl) (fun hb => ?_) (fun hb => ?_)
  · replace h := ite_t hb h
    refine c_seq ?_
    refine c_region rfl ?_
    refine s_q rfl rfl (y_assign rfl ev_const) ?_
    refine s_nil ?_
    refine k_next (e := [(2, (str ([] : List UInt8)))]) ⟨rfl, trivial⟩ ?_
    refine c_ret ?_
    obtain rfl := some_inj h
    exact q_ret (vs := [(str ([] : List UInt8))]) Tryz.results37 ⟨ev_tmp rfl rfl, trivial⟩ ⟨rfl, hI.ext0, hI.fin trivial⟩
  · replace h := ite_f hb h
    refine c_skip ?_
    refine k_next (e := [(1, (Value.pointer (some ⟨b1, 0, none⟩)))]) ⟨rfl, trivial⟩ ?_
    refine c_seq ?_
    refine c_seq ?_
    refine c_region rfl ?_
    refine s_q rfl rfl (y_fieldAddr rfl (ev_tmp rfl rfl) Tryz.underlying27 rfl size_2 rfl) ?_
    refine s_q rfl rfl (y_load1 (v := (Value.int .i64 a1.D)) rfl (ev_tmp rfl rfl) Tryz.underlying2 rfl (hI.kblk (l := [(Value.int .i64 a1.D)]) .z rfl).1) ?_
    refine s_q rfl rfl (y_eql rfl (ev_tmp rfl rfl) ev_const) ?_
    refine s_nil ?_
    refine k_next (e := [(1, (Value.pointer (some ⟨b1, 0, none⟩))), (8, (Value.bool (decide (a1.D = 1))))]) ⟨rfl, rfl, trivial⟩ ?_
    refine c_cond (b := decide (a1.D = 1)) (ev_tmp rfl rfl) (fun hb => ?_) (fun hb => ?_)
    · replace h := ite_t hb h
      refine c_seq ?_
      refine c_region rfl ?_
      refine s_q rfl rfl (y_fieldAddr rfl (ev_tmp rfl rfl) Tryz.underlying27 rfl size_2 rfl) ?_
      refine s_q rfl rfl (y_load1 (v := (Value.int .i64 a1.N)) rfl (ev_tmp rfl rfl) Tryz.underlying2 rfl (hI.kblk (l := [(Value.int .i64 a1.N)]) .z rfl).1) ?_
      obtain ⟨r2, hx3, h⟩ := bnd_some h
      refine s_call rfl rfl (r_callF (vs := [(Value.int .i64 a1.N)]) rfl ok_70 ⟨(ev_tmp rfl rfl), trivial⟩) (Calls.mono (c_ref01_Digits (Dj F c2) w2 hI.lt a1.N trivial r2 hx3) ?_)
      rintro _ w3 ⟨rfl, hx4, hl2⟩
      refine ⟨_, rfl, ?_⟩
      replace hI := (hI.ext hx4)
      refine s_q rfl rfl (y_assign rfl (ev_tmp rfl rfl)) ?_
      refine s_nil ?_
      refine k_next (e := [(2, (str r2))]) ⟨rfl, trivial⟩ ?_
      refine c_ret ?_
      obtain rfl := some_inj h
      exact q_ret (vs := [(str r2)]) Tryz.results37 ⟨ev_tmp rfl rfl, trivial⟩ ⟨rfl, hI.ext0, hI.fin trivial⟩
    · replace h := ite_f hb h
      refine c_skip ?_
      refine k_next (e := [(1, (Value.pointer (some ⟨b1, 0, none⟩)))]) ⟨rfl, trivial⟩ ?_
      refine c_seq ?_
      refine c_drawX [] false (.c (0, .q) (.c (1, .q) (.c (4, .q) (.c (5, .q) (.c (2, .s) (.c (3, .q) (.c (6, .s) (.c (7, .q) (.c (8, .q) .n))))))))) hI (by kernel_rfl) (by kernel_rfl) ?_
      clear hI; intro w4 hI
      refine a_q rfl rfl rfl (fun w' => (y_fieldAddr rfl (ev_tmp rfl rfl) Tryz.underlying27 rfl size_2 rfl)) ?_
      refine a_read rfl rfl rfl (fun w' hw' => (y_load1 (v := (Value.int .i64 a1.N)) rfl (ev_tmp rfl rfl) Tryz.underlying2 rfl ((hI.kblk (l := [(Value.int .i64 a1.N)]) .z rfl).at_ (SX.any rfl hw')))) (by kernel_rfl) ?_
      refine a_q rfl rfl rfl (fun w' => (y_fieldAddr rfl (ev_tmp rfl rfl) Tryz.underlying27 rfl size_2 rfl)) ?_
      refine a_read rfl rfl rfl (fun w' hw' => (y_load1 (v := (Value.int .i64 a1.D)) rfl (ev_tmp rfl rfl) Tryz.underlying2 rfl ((hI.kblk (l := [(Value.int .i64 a1.D)]) .z rfl).at_ (SX.any rfl hw')))) (by kernel_rfl) ?_
      obtain ⟨r3, hx5, h⟩ := bnd_some h
      refine la_call rfl rfl rfl (r_callF (vs := [(Value.int .i64 a1.N)]) rfl ok_70 ⟨(ev_tmp rfl rfl), trivial⟩) (Calls.mono (c_ref01_Digits (Dj F c2) w4 hI.lt a1.N trivial r3 hx5) ?_)
      rintro _ w5 ⟨rfl, hx6, hl3⟩
      refine ⟨_, rfl, hx6, ?_⟩
      replace hI := (hI.ext hx6)
      obtain ⟨s1, hx7, h⟩ := bnd_some h
      refine a_q rfl rfl rfl (fun w' => (y_catl rfl (ev_tmp rfl rfl) ev_const hx7)) ?_
      obtain ⟨r4, hx8, h⟩ := bnd_some h
      refine la_call rfl rfl rfl (r_callF (vs := [(Value.int .i64 a1.D)]) rfl ok_70 ⟨(ev_tmp rfl rfl), trivial⟩) (Calls.mono (c_ref01_Digits (Dj F c2) w5 hI.lt a1.D trivial r4 hx8) ?_)
      rintro _ w6 ⟨rfl, hx9, hl4⟩
      refine ⟨_, rfl, hx9, ?_⟩
      replace hI := (hI.ext hx9)
      obtain ⟨s2, hx10, h⟩ := bnd_some h
      refine a_q rfl rfl rfl (fun w' => (y_catl rfl (ev_tmp rfl rfl) (ev_tmp rfl rfl) hx10)) ?_
      refine a_q rfl rfl rfl (fun w' => (y_assign rfl (ev_tmp rfl rfl))) ?_
      refine a_nil ?_
      refine k_next (e := [(2, (str s2))]) ⟨rfl, trivial⟩ ?_
      refine c_ret ?_
      obtain rfl := some_inj h
      exact q_ret (vs := [(str s2)]) Tryz.results37 ⟨ev_tmp rfl rfl, trivial⟩ ⟨rfl, hI.ext0, hI.fin trivial⟩

set_option maxRecDepth 100000 in
set_option maxHeartbeats 4000000 in
theorem c_ref04_Format (F : NP) (w0 : World) (hF : ∀ k, F k → k < w0.heap.size) (t1 : GType) (v1 : GVal) (hc : AllCl [] F w0) (r : List UInt8)
    (h : m_ref04_Format t1 v1 = some r) :
    Calls Tryz.prog 16 #[(Value.agg #[(Value.int .i64 t1.Kind), (Value.int .i64 t1.Bits), (Value.int .i64 t1.Frac), (Value.int .i64 t1.Round), (Value.int .i64 t1.Over)]), (Value.agg #[(Value.int .i64 v1.N), (Value.int .i64 v1.D)])] w0 fun e w => e = .returned (str r) ∧ Ext w0 w ∧ AllCl [] F w := by
  refine ofEnter (R := fun v w => v = (str r) ∧ Ext w0 w ∧ AllCl [] F w) (enter (l := [(Value.agg #[(Value.int .i64 t1.Kind), (Value.int .i64 t1.Bits), (Value.int .i64 t1.Frac), (Value.int .i64 t1.Round), (Value.int .i64 t1.Over)]), (Value.agg #[(Value.int .i64 v1.N), (Value.int .i64 v1.D)])]) Tryz.func16 rfl Tryz.ntmps16 rfl ?_) ?_
  rotate_left
  · rintro _ w ⟨rfl, k1, k2⟩; exact ⟨rfl, k1, k2⟩
  have hI := Bun.start hF hc
  clear hc
  rw [m_ref04_Format] at h
  refine c_seq ?_
  refine c_region rfl ?_
  refine l_box (v := (Value.agg #[(Value.int .i64 t1.Kind), (Value.int .i64 t1.Bits), (Value.int .i64 t1.Frac), (Value.int .i64 t1.Round), (Value.int .i64 t1.Over)])) (cs := #[(Value.int .i64 t1.Kind), (Value.int .i64 t1.Bits), (Value.int .i64 t1.Frac), (Value.int .i64 t1.Round), (Value.int .i64 t1.Over)]) hI rfl rfl rfl (ev_tmp rfl rfl) rfl ?_
  clear hI; intro b1 c1 w1 hI
  obtain ⟨c2, hI⟩ := hI.relBox .z
  refine l_box (v := (Value.agg #[(Value.int .i64 v1.N), (Value.int .i64 v1.D)])) (cs := #[(Value.int .i64 v1.N), (Value.int .i64 v1.D)]) hI rfl rfl rfl (ev_tmp rfl rfl) rfl ?_
  clear hI; intro b2 c3 w2 hI
  obtain ⟨c4, hI⟩ := hI.relBox .z
  refine s_q rfl rfl (y_assign rfl ev_const) ?_
  refine s_nil ?_
  refine k_next (e := [(2, (Value.pointer (some ⟨b1, 0, none⟩))), (3, (Value.pointer (some ⟨b2, 0, none⟩)))]) ⟨rfl, rfl, trivial⟩ ?_
  refine c_seq ?_
  refine c_seq ?_
  refine c_region rfl ?_
  refine s_q rfl rfl (y_loadN (l := [(Value.int .i64 t1.Kind), (Value.int .i64 t1.Bits), (Value.int .i64 t1.Frac), (Value.int .i64 t1.Round), (Value.int .i64 t1.Over)]) rfl (ev_tmp rfl rfl) Tryz.underlying23 rfl size_23 (hI.kblk (l := [(Value.int .i64 t1.Kind), (Value.int .i64 t1.Bits), (Value.int .i64 t1.Frac), (Value.int .i64 t1.Round), (Value.int .i64 t1.Over)]) (.s .z) rfl).1) ?_
  refine s_q rfl rfl (y_loadN (l := [(Value.int .i64 v1.N), (Value.int .i64 v1.D)]) rfl (ev_tmp rfl rfl) Tryz.underlying27 rfl size_27 (hI.kblk (l := [(Value.int .i64 v1.N), (Value.int .i64 v1.D)]) .z rfl).1) ?_
  obtain ⟨r1, hx1, h⟩ := bnd_some h
  refine s_call rfl rfl (r_callF (vs := [(Value.agg #[(Value.int .i64 t1.Kind), (Value.int .i64 t1.Bits), (Value.int .i64 t1.Frac), (Value.int .i64 t1.Round), (Value.int .i64 t1.Over)]), (Value.agg #[(Value.int .i64 v1.N), (Value.int .i64 v1.D)])]) rfl ok_36 ⟨(ev_tmp rfl rfl), ⟨(ev_tmp rfl rfl), trivial⟩⟩) (Calls.mono (c_ref04_Valid (Dj F c4) w2 hI.lt t1 v1 trivial r1 hx1) ?_)
  rintro _ w3 ⟨rfl, hx2, hl1⟩
  refine ⟨_, rfl, ?_⟩
  replace hI := (hI.ext hx2)
  refine s_q rfl rfl (y_not rfl (ev_tmp rfl rfl)) ?_
  refine s_nil ?_
  refine k_next (e := [(2, (Value.pointer (some ⟨b1, 0, none⟩))), (3, (Value.pointer (some ⟨b2, 0, none⟩))), (8, (Value.bool (!r1)))]) ⟨rfl, rfl, rfl, trivial⟩ ?_
  refine c_cond (b := !r1) (ev_tmp rfl rfl) (fun hb => ?_) (fun hb => ?_)
  · replace h := ite_t hb h
    refine c_seq ?_
    refine c_region rfl ?_
    refine s_q rfl rfl (y_assign rfl ev_const) ?_
    refine s_nil ?_
    refine k_next (e := [(4, (str ([] : List UInt8)))]) ⟨rfl, trivial⟩ ?_
    refine c_ret ?_
    obtain rfl := some_inj h
    exact q_ret (vs := [(str ([] : List UInt8))]) Tryz.results16 ⟨ev_tmp rfl rfl, trivial⟩ ⟨rfl, hI.ext0, hI.fin trivial⟩
  · replace h := ite_f hb h
    refine c_skip ?_
    refine k_next (e := [(2, (Value.pointer (some ⟨b1, 0, none⟩))), (3, (Value.pointer (some ⟨b2, 0, none⟩)))]) ⟨rfl, rfl, trivial⟩ ?_
    refine c_seq ?_
    refine c_region rfl ?_
    refine s_q rfl rfl (y_loadN (l := [(Value.int .i64 t1.Kind), (Value.int .i64 t1.Bits), (Value.int .i64 t1.Frac), (Value.int .i64 t1.Round), (Value.int .i64 t1.Over)]) rfl (ev_tmp rfl rfl) Tryz.underlying23 rfl size_23 (hI.kblk (l := [(Value.int .i64 t1.Kind), (Value.int .i64 t1.Bits), (Value.int .i64 t1.Frac), (Value.int .i64 t1.Round), (Value.int .i64 t1.Over)]) (.s .z) rfl).1) ?_
    refine s_q rfl rfl (y_loadN (l := [(Value.int .i64 v1.N), (Value.int .i64 v1.D)]) rfl (ev_tmp rfl rfl) Tryz.underlying27 rfl size_27 (hI.kblk (l := [(Value.int .i64 v1.N), (Value.int .i64 v1.D)]) .z rfl).1) ?_
    obtain ⟨r2, hx3, h⟩ := bnd_some h
    refine s_call rfl rfl (r_callF (vs := [(Value.agg #[(Value.int .i64 t1.Kind), (Value.int .i64 t1.Bits), (Value.int .i64 t1.Frac), (Value.int .i64 t1.Round), (Value.int .i64 t1.Over)]), (Value.agg #[(Value.int .i64 v1.N), (Value.int .i64 v1.D)])]) rfl ok_38 ⟨(ev_tmp rfl rfl), ⟨(ev_tmp rfl rfl), trivial⟩⟩) (Calls.mono (c_ref04_Value (Dj F c4) w3 hI.lt t1 v1 trivial r2 hx3) ?_)
    rintro _ w4 ⟨rfl, hx4, hl2⟩
    refine ⟨_, rfl, ?_⟩
    replace hI := (hI.ext hx4)
    obtain ⟨r3, hx5, h⟩ := bnd_some h
    refine s_call rfl rfl (r_callF (vs := [(Value.agg #[(Value.int .i64 r2.N), (Value.int .i64 r2.D)])]) rfl ok_37 ⟨(ev_tmp rfl rfl), trivial⟩) (Calls.mono (c_ref01_Format (Dj F c4) w4 hI.lt r2 trivial r3 hx5) ?_)
    rintro _ w5 ⟨rfl, hx6, hl3⟩
    refine ⟨_, rfl, ?_⟩
    replace hI := (hI.ext hx6)
    refine s_q rfl rfl (y_assign rfl (ev_tmp rfl rfl)) ?_
    refine s_nil ?_
    refine k_next (e := [(4, (str r3))]) ⟨rfl, trivial⟩ ?_
    refine c_ret ?_
    obtain rfl := some_inj h
    exact q_ret (vs := [(str r3)]) Tryz.results16 ⟨ev_tmp rfl rfl, trivial⟩ ⟨rfl, hI.ext0, hI.fin trivial⟩

set_option maxRecDepth 100000 in
set_option maxHeartbeats 4000000 in
theorem c_law04_ValueFormat (F : NP) (w0 : World) (hF : ∀ k, F k → k < w0.heap.size) (t1 : GType) (v1 : GVal) (s1 : List UInt8) (hc : AllCl [clPow10] F w0) (r : Bool)
    (h : m_law04_ValueFormat t1 v1 s1 = some r) :
    Calls Tryz.prog 4 #[(Value.agg #[(Value.int .i64 t1.Kind), (Value.int .i64 t1.Bits), (Value.int .i64 t1.Frac), (Value.int .i64 t1.Round), (Value.int .i64 t1.Over)]), (Value.agg #[(Value.int .i64 v1.N), (Value.int .i64 v1.D)]), (str s1)] w0 fun e w => e = .returned (Value.bool r) ∧ Ext w0 w ∧ AllCl [] F w := by
  refine ofEnter (R := fun v w => v = (Value.bool r) ∧ Ext w0 w ∧ AllCl [] F w) (enter (l := [(Value.agg #[(Value.int .i64 t1.Kind), (Value.int .i64 t1.Bits), (Value.int .i64 t1.Frac), (Value.int .i64 t1.Round), (Value.int .i64 t1.Over)]), (Value.agg #[(Value.int .i64 v1.N), (Value.int .i64 v1.D)]), (str s1)]) Tryz.func4 rfl Tryz.ntmps4 rfl ?_) ?_
  rotate_left
  · rintro _ w ⟨rfl, k1, k2⟩; exact ⟨rfl, k1, k2⟩
  have hI := Bun.start hF hc
  clear hc
  rw [m_law04_ValueFormat] at h
  refine c_seq ?_
  refine c_region rfl ?_
  refine l_box (v := (Value.agg #[(Value.int .i64 t1.Kind), (Value.int .i64 t1.Bits), (Value.int .i64 t1.Frac), (Value.int .i64 t1.Round), (Value.int .i64 t1.Over)])) (cs := #[(Value.int .i64 t1.Kind), (Value.int .i64 t1.Bits), (Value.int .i64 t1.Frac), (Value.int .i64 t1.Round), (Value.int .i64 t1.Over)]) hI rfl rfl rfl (ev_tmp rfl rfl) rfl ?_
  clear hI; intro b1 c1 w1 hI
  obtain ⟨c2, hI⟩ := hI.relBox .z
  refine l_box (v := (Value.agg #[(Value.int .i64 v1.N), (Value.int .i64 v1.D)])) (cs := #[(Value.int .i64 v1.N), (Value.int .i64 v1.D)]) hI rfl rfl rfl (ev_tmp rfl rfl) rfl ?_
  clear hI; intro b2 c3 w2 hI
  obtain ⟨c4, hI⟩ := hI.relBox .z
  refine s_q rfl rfl (y_assign rfl ev_const) ?_
  refine s_nil ?_
  refine k_next (e := [(2, (str s1)), (3, (Value.pointer (some ⟨b1, 0, none⟩))), (4, (Value.pointer (some ⟨b2, 0, none⟩)))]) ⟨rfl, rfl, rfl, trivial⟩ ?_
  refine c_seq ?_
  refine c_seq ?_
  refine c_region rfl ?_
  refine s_q rfl rfl (y_move rfl (ev_tmp rfl rfl)) ?_
  refine s_q rfl rfl (y_lens rfl Tryz.underlying9 (ev_tmp rfl rfl)) ?_
  refine s_q rfl rfl (y_gtr rfl (ev_tmp rfl rfl) ev_const) ?_
  refine s_nil ?_
  refine k_next (e := [(2, (str s1)), (3, (Value.pointer (some ⟨b1, 0, none⟩))), (4, (Value.pointer (some ⟨b2, 0, none⟩))), (13, (Value.bool (decide (100 < (s1.length : Int)))))]) ⟨rfl, rfl, rfl, rfl, trivial⟩ ?_
  refine c_cond (b := decide (100 < (s1.length : Int))) (ev_tmp rfl rfl) (fun hb => ?_) (fun hb => ?_)
  · replace h := ite_t hb h
    refine c_seq ?_
    refine c_region rfl ?_
    obtain ⟨r1, hx1, h⟩ := bnd_some h
    refine s_call rfl rfl (r_callF (vs := []) rfl ok_6 trivial) (Calls.mono (c_law04_examples (Dj F c4) w2 hI.lt ⟨(hI.get (.s (.s .z))), trivial⟩ r1 hx1) ?_)
    rintro _ w3 ⟨rfl, hx2, hl1⟩
    refine ⟨_, rfl, ?_⟩
    replace hI := (hI.ext hx2)
    refine s_q rfl rfl (y_assign rfl (ev_tmp rfl rfl)) ?_
    refine s_nil ?_
    refine k_next (e := [(6, (Value.bool r1))]) ⟨rfl, trivial⟩ ?_
    refine c_ret ?_
    obtain rfl := some_inj h
    exact q_ret (vs := [(Value.bool r1)]) Tryz.results4 ⟨ev_tmp rfl rfl, trivial⟩ ⟨rfl, hI.ext0, hI.fin trivial⟩
  · replace h := ite_f hb h
    refine c_skip ?_
    refine k_next (e := [(2, (str s1)), (3, (Value.pointer (some ⟨b1, 0, none⟩))), (4, (Value.pointer (some ⟨b2, 0, none⟩)))]) ⟨rfl, rfl, rfl, trivial⟩ ?_
    refine c_seq ?_
    refine c_region rfl ?_
    refine s_q rfl rfl (y_loadN (l := [(Value.int .i64 t1.Kind), (Value.int .i64 t1.Bits), (Value.int .i64 t1.Frac), (Value.int .i64 t1.Round), (Value.int .i64 t1.Over)]) rfl (ev_tmp rfl rfl) Tryz.underlying23 rfl size_23 (hI.kblk (l := [(Value.int .i64 t1.Kind), (Value.int .i64 t1.Bits), (Value.int .i64 t1.Frac), (Value.int .i64 t1.Round), (Value.int .i64 t1.Over)]) (.s .z) rfl).1) ?_
    refine s_q rfl rfl (y_move rfl (ev_tmp rfl rfl)) ?_
    obtain ⟨r2, hx3, h⟩ := bnd_some h
    refine s_call rfl rfl (r_callF (vs := [(Value.agg #[(Value.int .i64 t1.Kind), (Value.int .i64 t1.Bits), (Value.int .i64 t1.Frac), (Value.int .i64 t1.Round), (Value.int .i64 t1.Over)]), (str s1)]) rfl ok_13 ⟨(ev_tmp rfl rfl), ⟨(ev_tmp rfl rfl), trivial⟩⟩) (Calls.mono (c_value_Parse (Dj F c4) w2 hI.lt t1 s1 trivial r2 hx3) ?_)
    rintro _ w4 ⟨rfl, hx4, hl2⟩
    refine ⟨_, rfl, ?_⟩
    replace hI := (hI.ext hx4)
    refine s_q rfl rfl (y_move rfl (ev_tmp rfl rfl)) ?_
    refine s_q rfl rfl (y_extract rfl (ev_tmp rfl rfl) rfl) ?_
    refine s_q rfl rfl (y_extract rfl (ev_tmp rfl rfl) rfl) ?_
    refine l_alloc (cs := #[(Value.int .i64 0), (Value.int .i64 0)]) hI rfl rfl rfl zero_27 rfl ?_
    clear hI; intro b3 c5 w5 hI
    refine l_store (new := [(Value.int .i64 r2.1.N), (Value.int .i64 r2.1.D)]) (cs' := #[(Value.int .i64 r2.1.N), (Value.int .i64 r2.1.D)]) hI .z rfl rfl rfl (ev_tmp rfl rfl) (ev_tmp rfl rfl) rfl size_27 rfl rfl rfl ?_
    clear hI; intro c6 w6 hI
    refine s_q rfl rfl (y_assign rfl (ev_tmp rfl rfl)) ?_
    refine s_nil ?_
    refine k_next (e := [(2, (str s1)), (3, (Value.pointer (some ⟨b1, 0, none⟩))), (4, (Value.pointer (some ⟨b2, 0, none⟩))), (7, (Value.pointer (some ⟨b3, 0, none⟩))), (8, (Value.int .i64 r2.2))]) ⟨rfl, rfl, rfl, rfl, rfl, trivial⟩ ?_
    refine c_seq ?_
    refine c_region rfl ?_
    refine s_q rfl rfl (y_loadN (l := [(Value.int .i64 t1.Kind), (Value.int .i64 t1.Bits), (Value.int .i64 t1.Frac), (Value.int .i64 t1.Round), (Value.int .i64 t1.Over)]) rfl (ev_tmp rfl rfl) Tryz.underlying23 rfl size_23 (hI.kblk (l := [(Value.int .i64 t1.Kind), (Value.int .i64 t1.Bits), (Value.int .i64 t1.Frac), (Value.int .i64 t1.Round), (Value.int .i64 t1.Over)]) (.s .z) rfl).1) ?_
    refine s_q rfl rfl (y_move rfl (ev_tmp rfl rfl)) ?_
    obtain ⟨r3, hx5, h⟩ := bnd_some h
    refine s_call rfl rfl (r_callF (vs := [(Value.agg #[(Value.int .i64 t1.Kind), (Value.int .i64 t1.Bits), (Value.int .i64 t1.Frac), (Value.int .i64 t1.Round), (Value.int .i64 t1.Over)]), (str s1)]) rfl ok_14 ⟨(ev_tmp rfl rfl), ⟨(ev_tmp rfl rfl), trivial⟩⟩) (Calls.mono (c_ref04_Parse (Dj F c6) w6 hI.lt t1 s1 trivial r3 hx5) ?_)
    rintro _ w7 ⟨rfl, hx6, hl3⟩
    refine ⟨_, rfl, ?_⟩
    replace hI := (hI.ext hx6)
    refine s_q rfl rfl (y_move rfl (ev_tmp rfl rfl)) ?_
    refine s_q rfl rfl (y_extract rfl (ev_tmp rfl rfl) rfl) ?_
    refine s_q rfl rfl (y_extract rfl (ev_tmp rfl rfl) rfl) ?_
    refine l_alloc (cs := #[(Value.int .i64 0), (Value.int .i64 0)]) hI rfl rfl rfl zero_27 rfl ?_
    clear hI; intro b4 c7 w8 hI
    refine l_store (new := [(Value.int .i64 r3.1.N), (Value.int .i64 r3.1.D)]) (cs' := #[(Value.int .i64 r3.1.N), (Value.int .i64 r3.1.D)]) hI .z rfl rfl rfl (ev_tmp rfl rfl) (ev_tmp rfl rfl) rfl size_27 rfl rfl rfl ?_
    clear hI; intro c8 w9 hI
    refine s_q rfl rfl (y_assign rfl (ev_tmp rfl rfl)) ?_
    refine s_nil ?_
    refine k_next (e := [(3, (Value.pointer (some ⟨b1, 0, none⟩))), (4, (Value.pointer (some ⟨b2, 0, none⟩))), (7, (Value.pointer (some ⟨b3, 0, none⟩))), (8, (Value.int .i64 r2.2)), (9, (Value.pointer (some ⟨b4, 0, none⟩))), (10, (Value.int .i64 r3.2))]) ⟨rfl, rfl, rfl, rfl, rfl, rfl, trivial⟩ ?_
    refine c_seq ?_
    refine c_drawX [] false (.c (0, .q) (.c (1, .q) (.c (3, .q) (.c (4, .q) (.c (2, .s) (.c (5, .s) (.c (6, .q) (.c (7, .q) (.c (8, .q) (.c (9, .q) (.c (10, .q) (.c (11, .q) (.c (12, .q) (.c (13, .q) (.c (14, .q) (.c (15, .q) (.c (16, .q) (.c (17, .q) (.c (18, .s) (.c (19, .q) (.c (20, .q) .n))))))))))))))))))))) hI (by kernel_rfl) (by kernel_rfl) ?_
    clear hI; intro w10 hI
    refine a_read rfl rfl rfl (fun w' hw' => (y_loadN (l := [(Value.int .i64 t1.Kind), (Value.int .i64 t1.Bits), (Value.int .i64 t1.Frac), (Value.int .i64 t1.Round), (Value.int .i64 t1.Over)]) rfl (ev_tmp rfl rfl) Tryz.underlying23 rfl size_23 ((hI.kblk (l := [(Value.int .i64 t1.Kind), (Value.int .i64 t1.Bits), (Value.int .i64 t1.Frac), (Value.int .i64 t1.Round), (Value.int .i64 t1.Over)]) (.s .z) rfl).at_ (SX.any rfl hw')))) (by kernel_rfl) ?_
    refine a_read rfl rfl rfl (fun w' hw' => (y_loadN (l := [(Value.int .i64 v1.N), (Value.int .i64 v1.D)]) rfl (ev_tmp rfl rfl) Tryz.underlying27 rfl size_27 ((hI.kblk (l := [(Value.int .i64 v1.N), (Value.int .i64 v1.D)]) .z rfl).at_ (SX.any rfl hw')))) (by kernel_rfl) ?_
    refine a_read rfl rfl rfl (fun w' hw' => (y_loadN (l := [(Value.int .i64 t1.Kind), (Value.int .i64 t1.Bits), (Value.int .i64 t1.Frac), (Value.int .i64 t1.Round), (Value.int .i64 t1.Over)]) rfl (ev_tmp rfl rfl) Tryz.underlying23 rfl size_23 ((hI.kblk (l := [(Value.int .i64 t1.Kind), (Value.int .i64 t1.Bits), (Value.int .i64 t1.Frac), (Value.int .i64 t1.Round), (Value.int .i64 t1.Over)]) (.s .z) rfl).at_ (SX.any rfl hw')))) (by kernel_rfl) ?_
    refine a_read rfl rfl rfl (fun w' hw' => (y_loadN (l := [(Value.int .i64 v1.N), (Value.int .i64 v1.D)]) rfl (ev_tmp rfl rfl) Tryz.underlying27 rfl size_27 ((hI.kblk (l := [(Value.int .i64 v1.N), (Value.int .i64 v1.D)]) .z rfl).at_ (SX.any rfl hw')))) (by kernel_rfl) ?_
    obtain ⟨r4, hx7, h⟩ := bnd_some h
    refine la_call rfl rfl rfl (r_callF (vs := [(Value.agg #[(Value.int .i64 t1.Kind), (Value.int .i64 t1.Bits), (Value.int .i64 t1.Frac), (Value.int .i64 t1.Round), (Value.int .i64 t1.Over)]), (Value.agg #[(Value.int .i64 v1.N), (Value.int .i64 v1.D)])]) rfl ok_15 ⟨(ev_tmp rfl rfl), ⟨(ev_tmp rfl rfl), trivial⟩⟩) (Calls.mono (c_value_Format (Dj F c8) w10 hI.lt t1 v1 ⟨(hI.get (.s (.s .z))), trivial⟩ r4 hx7) ?_)
    rintro _ w11 ⟨rfl, hx8, hl4⟩
    refine ⟨_, rfl, hx8, ?_⟩
    replace hI := (hI.ext hx8)
    obtain ⟨r5, hx9, h⟩ := bnd_some h
    refine la_call rfl rfl rfl (r_callF (vs := [(Value.agg #[(Value.int .i64 t1.Kind), (Value.int .i64 t1.Bits), (Value.int .i64 t1.Frac), (Value.int .i64 t1.Round), (Value.int .i64 t1.Over)]), (Value.agg #[(Value.int .i64 v1.N), (Value.int .i64 v1.D)])]) rfl ok_16 ⟨(ev_tmp rfl rfl), ⟨(ev_tmp rfl rfl), trivial⟩⟩) (Calls.mono (c_ref04_Format (Dj F c8) w11 hI.lt t1 v1 trivial r5 hx9) ?_)
    rintro _ w12 ⟨rfl, hx10, hl5⟩
    refine ⟨_, rfl, hx10, ?_⟩
    replace hI := (hI.ext hx10)
    refine a_q rfl rfl rfl (fun w' => (y_eqs rfl (ev_tmp rfl rfl) (ev_tmp rfl rfl))) ?_
    refine a_q rfl rfl rfl (fun w' => (y_move rfl (ev_tmp rfl rfl))) ?_
    refine a_gread rfl (g_true rfl rfl rfl rfl) rfl (fun hc => fun w' hw' => (y_loadN (l := [(Value.int .i64 r2.1.N), (Value.int .i64 r2.1.D)]) rfl (ev_tmp rfl rfl) Tryz.underlying27 rfl size_27 ((CA.blk (hI.blk (.s .z)) rfl).at_ (SX.any rfl hw')))) (by kernel_rfl) ?_
    refine a_gread rfl (g_true rfl rfl rfl rfl) rfl (fun hc => fun w' hw' => (y_loadN (l := [(Value.int .i64 r3.1.N), (Value.int .i64 r3.1.D)]) rfl (ev_tmp rfl rfl) Tryz.underlying27 rfl size_27 ((CA.blk (hI.blk .z) rfl).at_ (SX.any rfl hw')))) (by kernel_rfl) ?_
    refine a_gval rfl (g_true rfl rfl rfl rfl) rfl (fun hc => fun w' => (y_bin rfl (ev_gv (ev_tmp rfl rfl) hc) (ev_gv (ev_tmp rfl rfl) hc) (eqstruct_27 ..) (eqguard_27 ..))) ?_
    refine a_q rfl rfl rfl (fun w' => (y_and rfl (ev_tmp rfl rfl) (ev_tmp rfl rfl))) ?_
    refine a_q rfl rfl rfl (fun w' => (y_move rfl (ev_tmp rfl rfl))) ?_
    refine a_gval rfl (g_true rfl rfl rfl rfl) rfl (fun hc => fun w' => (y_move rfl (ev_tmp rfl rfl))) ?_
    refine a_gval rfl (g_true rfl rfl rfl rfl) rfl (fun hc => fun w' => (y_move rfl (ev_tmp rfl rfl))) ?_
    refine a_gval rfl (g_true rfl rfl rfl rfl) rfl (fun hc => fun w' => (y_eql rfl (ev_gv (ev_tmp rfl rfl) hc) (ev_gv (ev_tmp rfl rfl) hc))) ?_
    refine a_q rfl rfl rfl (fun w' => (y_and rfl (ev_tmp rfl rfl) (ev_tmp rfl rfl))) ?_
    refine a_q rfl rfl rfl (fun w' => (y_move rfl (ev_tmp rfl rfl))) ?_
    obtain ⟨r6, hx11, h⟩ := bnd_some h
    replace hx11 := gd_some hx11
    refine la_gcallU (v := (Value.bool r6)) rfl (g_true rfl rfl rfl rfl) rfl (fun hc => (r_callF (vs := []) rfl ok_6 trivial)) (fun hc => (c_law04_examples (Dj F c8) w12 hI.lt ⟨(hI.get (.s (.s .z))), trivial⟩ r6 (hx11 hc)).mono fun _ _ k => ⟨k.1, k.2.1⟩) ?_
    intro w13 hx12; replace hI := hI.ext hx12
    refine a_q rfl rfl rfl (fun w' => (y_and rfl (ev_tmp rfl rfl) (ev_tmp rfl rfl))) ?_
    refine a_q rfl rfl rfl (fun w' => (y_assign rfl (ev_tmp rfl rfl))) ?_
    refine a_nil ?_
    refine k_next (e := [(6, (Value.bool ((((decide (r4 = r5)) && ((decide (r2.1.N = r3.1.N)) && (decide (r2.1.D = r3.1.D)))) && (decide (r2.2 = r3.2))) && r6)))]) ⟨rfl, trivial⟩ ?_
    refine c_ret ?_
    obtain rfl := some_inj h
    exact q_ret (vs := [(Value.bool ((((decide (r4 = r5)) && ((decide (r2.1.N = r3.1.N)) && (decide (r2.1.D = r3.1.D)))) && (decide (r2.2 = r3.2))) && r6))]) Tryz.results4 ⟨ev_tmp rfl rfl, trivial⟩ ⟨rfl, hI.ext0, hI.fin trivial⟩

end Go.Proofs.YtpfapgamjlhebaaGreatDoor
