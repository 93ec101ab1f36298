/- Each call returns what its plain function gives: printed by a program of my own; Lean checks it. -/
import Derived.Test.YtkmenmoiagkegaaDoorXc
namespace Go.Proofs.YtkmenmoiagkegaaDoor
open Go Go.RowKit Go.Vc
set_option linter.unusedVariables false
set_option linter.unusedSimpArgs false

theorem stood_23 : Tryd.prog.stoodInHeld 23 = false := by kernel_rfl
theorem eqstruct_23 (a0 b0 : Int) (a1 b1 : Int) (w : World) : (binOp .eql 23 (.agg #[(Value.int .i64 a0), (Value.int .i64 a1)]) (.agg #[(Value.int .i64 b0), (Value.int .i64 b1)])).run Tryd.prog w = .ok (.bool ((decide (a0 = b0)) && (decide (a1 = b1)))) w := by
  simp [go_sem, stood_23, Tryd.underlying23, eq_dec_int, eq_dec_str]
  all_goals (by_cases h0 : a0 = b0 <;> by_cases h1 : a1 = b1 <;> simp [h0, h1])
theorem eqstruct_23n (a0 b0 : Int) (a1 b1 : Int) (w : World) : (binOp .neq 23 (.agg #[(Value.int .i64 a0), (Value.int .i64 a1)]) (.agg #[(Value.int .i64 b0), (Value.int .i64 b1)])).run Tryd.prog w = .ok (.bool (!((decide (a0 = b0)) && (decide (a1 = b1))))) w := by
  simp [go_sem, stood_23, Tryd.underlying23, eq_dec_int, eq_dec_str]
  all_goals (by_cases h0 : a0 = b0 <;> by_cases h1 : a1 = b1 <;> simp [h0, h1])
theorem eqguard_23 (op : BinOp) (x y : Operand) (xs ys : Array Value) (w : World) : (eqGuard op 23 x y (.agg xs) (.agg ys)).run Tryd.prog w = .ok () w := run_eqGuard_agg w op 23 x y xs ys (by kernel_rfl)
theorem info_23 : Info Tryd.prog 23 2 16 (Value.agg #[(Value.int .i64 0), (Value.int .i64 0)]) := info_mk (by kernel_rfl) rfl
theorem info_44 : Info Tryd.prog 44 1 8 (Value.int .u64 0) := info_mk (by kernel_rfl) rfl
theorem info_53 : Info Tryd.prog 53 1 24 (Value.slice none 0 0) := info_mk (by kernel_rfl) rfl
theorem info_54 : Info Tryd.prog 54 1 4 (Value.int .u32 0) := info_mk (by kernel_rfl) rfl
theorem ok_10 : FnOK Tryd.prog 10 := ⟨_, Tryd.func10, by kernel_rfl, by kernel_rfl⟩
theorem ok_11 : FnOK Tryd.prog 11 := ⟨_, Tryd.func11, by kernel_rfl, by kernel_rfl⟩
theorem ok_12 : FnOK Tryd.prog 12 := ⟨_, Tryd.func12, by kernel_rfl, by kernel_rfl⟩
theorem ok_13 : FnOK Tryd.prog 13 := ⟨_, Tryd.func13, by kernel_rfl, by kernel_rfl⟩
theorem ok_14 : FnOK Tryd.prog 14 := ⟨_, Tryd.func14, by kernel_rfl, by kernel_rfl⟩
theorem ok_15 : FnOK Tryd.prog 15 := ⟨_, Tryd.func15, by kernel_rfl, by kernel_rfl⟩
theorem ok_16 : FnOK Tryd.prog 16 := ⟨_, Tryd.func16, by kernel_rfl, by kernel_rfl⟩
theorem ok_17 : FnOK Tryd.prog 17 := ⟨_, Tryd.func17, by kernel_rfl, by kernel_rfl⟩
theorem ok_18 : FnOK Tryd.prog 18 := ⟨_, Tryd.func18, by kernel_rfl, by kernel_rfl⟩
theorem ok_19 : FnOK Tryd.prog 19 := ⟨_, Tryd.func19, by kernel_rfl, by kernel_rfl⟩
theorem ok_20 : FnOK Tryd.prog 20 := ⟨_, Tryd.func20, by kernel_rfl, by kernel_rfl⟩
theorem ok_21 : FnOK Tryd.prog 21 := ⟨_, Tryd.func21, by kernel_rfl, by kernel_rfl⟩
theorem ok_22 : FnOK Tryd.prog 22 := ⟨_, Tryd.func22, by kernel_rfl, by kernel_rfl⟩
theorem ok_23 : FnOK Tryd.prog 23 := ⟨_, Tryd.func23, by kernel_rfl, by kernel_rfl⟩
theorem ok_24 : FnOK Tryd.prog 24 := ⟨_, Tryd.func24, by kernel_rfl, by kernel_rfl⟩
theorem ok_25 : FnOK Tryd.prog 25 := ⟨_, Tryd.func25, by kernel_rfl, by kernel_rfl⟩
theorem ok_26 : FnOK Tryd.prog 26 := ⟨_, Tryd.func26, by kernel_rfl, by kernel_rfl⟩
theorem ok_27 : FnOK Tryd.prog 27 := ⟨_, Tryd.func27, by kernel_rfl, by kernel_rfl⟩
theorem ok_28 : FnOK Tryd.prog 28 := ⟨_, Tryd.func28, by kernel_rfl, by kernel_rfl⟩
theorem ok_29 : FnOK Tryd.prog 29 := ⟨_, Tryd.func29, by kernel_rfl, by kernel_rfl⟩
theorem ok_3 : FnOK Tryd.prog 3 := ⟨_, Tryd.func3, by kernel_rfl, by kernel_rfl⟩
theorem ok_30 : FnOK Tryd.prog 30 := ⟨_, Tryd.func30, by kernel_rfl, by kernel_rfl⟩
theorem ok_31 : FnOK Tryd.prog 31 := ⟨_, Tryd.func31, by kernel_rfl, by kernel_rfl⟩
theorem ok_32 : FnOK Tryd.prog 32 := ⟨_, Tryd.func32, by kernel_rfl, by kernel_rfl⟩
theorem ok_33 : FnOK Tryd.prog 33 := ⟨_, Tryd.func33, by kernel_rfl, by kernel_rfl⟩
theorem ok_34 : FnOK Tryd.prog 34 := ⟨_, Tryd.func34, by kernel_rfl, by kernel_rfl⟩
theorem ok_35 : FnOK Tryd.prog 35 := ⟨_, Tryd.func35, by kernel_rfl, by kernel_rfl⟩
theorem ok_36 : FnOK Tryd.prog 36 := ⟨_, Tryd.func36, by kernel_rfl, by kernel_rfl⟩
theorem ok_37 : FnOK Tryd.prog 37 := ⟨_, Tryd.func37, by kernel_rfl, by kernel_rfl⟩
theorem ok_38 : FnOK Tryd.prog 38 := ⟨_, Tryd.func38, by kernel_rfl, by kernel_rfl⟩
theorem ok_39 : FnOK Tryd.prog 39 := ⟨_, Tryd.func39, by kernel_rfl, by kernel_rfl⟩
theorem ok_4 : FnOK Tryd.prog 4 := ⟨_, Tryd.func4, by kernel_rfl, by kernel_rfl⟩
theorem ok_40 : FnOK Tryd.prog 40 := ⟨_, Tryd.func40, by kernel_rfl, by kernel_rfl⟩
theorem ok_41 : FnOK Tryd.prog 41 := ⟨_, Tryd.func41, by kernel_rfl, by kernel_rfl⟩
theorem ok_42 : FnOK Tryd.prog 42 := ⟨_, Tryd.func42, by kernel_rfl, by kernel_rfl⟩
theorem ok_43 : FnOK Tryd.prog 43 := ⟨_, Tryd.func43, by kernel_rfl, by kernel_rfl⟩
theorem ok_44 : FnOK Tryd.prog 44 := ⟨_, Tryd.func44, by kernel_rfl, by kernel_rfl⟩
theorem ok_45 : FnOK Tryd.prog 45 := ⟨_, Tryd.func45, by kernel_rfl, by kernel_rfl⟩
theorem ok_46 : FnOK Tryd.prog 46 := ⟨_, Tryd.func46, by kernel_rfl, by kernel_rfl⟩
theorem ok_47 : FnOK Tryd.prog 47 := ⟨_, Tryd.func47, by kernel_rfl, by kernel_rfl⟩
theorem ok_48 : FnOK Tryd.prog 48 := ⟨_, Tryd.func48, by kernel_rfl, by kernel_rfl⟩
theorem ok_49 : FnOK Tryd.prog 49 := ⟨_, Tryd.func49, by kernel_rfl, by kernel_rfl⟩
theorem ok_5 : FnOK Tryd.prog 5 := ⟨_, Tryd.func5, by kernel_rfl, by kernel_rfl⟩
theorem ok_50 : FnOK Tryd.prog 50 := ⟨_, Tryd.func50, by kernel_rfl, by kernel_rfl⟩
theorem ok_51 : FnOK Tryd.prog 51 := ⟨_, Tryd.func51, by kernel_rfl, by kernel_rfl⟩
theorem ok_52 : FnOK Tryd.prog 52 := ⟨_, Tryd.func52, by kernel_rfl, by kernel_rfl⟩
theorem ok_53 : FnOK Tryd.prog 53 := ⟨_, Tryd.func53, by kernel_rfl, by kernel_rfl⟩
theorem ok_54 : FnOK Tryd.prog 54 := ⟨_, Tryd.func54, by kernel_rfl, by kernel_rfl⟩
theorem ok_55 : FnOK Tryd.prog 55 := ⟨_, Tryd.func55, by kernel_rfl, by kernel_rfl⟩
theorem ok_56 : FnOK Tryd.prog 56 := ⟨_, Tryd.func56, by kernel_rfl, by kernel_rfl⟩
theorem ok_57 : FnOK Tryd.prog 57 := ⟨_, Tryd.func57, by kernel_rfl, by kernel_rfl⟩
theorem ok_58 : FnOK Tryd.prog 58 := ⟨_, Tryd.func58, by kernel_rfl, by kernel_rfl⟩
theorem ok_59 : FnOK Tryd.prog 59 := ⟨_, Tryd.func59, by kernel_rfl, by kernel_rfl⟩
theorem ok_6 : FnOK Tryd.prog 6 := ⟨_, Tryd.func6, by kernel_rfl, by kernel_rfl⟩
theorem ok_60 : FnOK Tryd.prog 60 := ⟨_, Tryd.func60, by kernel_rfl, by kernel_rfl⟩
theorem ok_61 : FnOK Tryd.prog 61 := ⟨_, Tryd.func61, by kernel_rfl, by kernel_rfl⟩
theorem ok_62 : FnOK Tryd.prog 62 := ⟨_, Tryd.func62, by kernel_rfl, by kernel_rfl⟩
theorem ok_63 : FnOK Tryd.prog 63 := ⟨_, Tryd.func63, by kernel_rfl, by kernel_rfl⟩
theorem ok_64 : FnOK Tryd.prog 64 := ⟨_, Tryd.func64, by kernel_rfl, by kernel_rfl⟩
theorem ok_65 : FnOK Tryd.prog 65 := ⟨_, Tryd.func65, by kernel_rfl, by kernel_rfl⟩
theorem ok_66 : FnOK Tryd.prog 66 := ⟨_, Tryd.func66, by kernel_rfl, by kernel_rfl⟩
theorem ok_67 : FnOK Tryd.prog 67 := ⟨_, Tryd.func67, by kernel_rfl, by kernel_rfl⟩
theorem ok_68 : FnOK Tryd.prog 68 := ⟨_, Tryd.func68, by kernel_rfl, by kernel_rfl⟩
theorem ok_69 : FnOK Tryd.prog 69 := ⟨_, Tryd.func69, by kernel_rfl, by kernel_rfl⟩
theorem ok_7 : FnOK Tryd.prog 7 := ⟨_, Tryd.func7, by kernel_rfl, by kernel_rfl⟩
theorem ok_70 : FnOK Tryd.prog 70 := ⟨_, Tryd.func70, by kernel_rfl, by kernel_rfl⟩
theorem ok_71 : FnOK Tryd.prog 71 := ⟨_, Tryd.func71, by kernel_rfl, by kernel_rfl⟩
theorem ok_72 : FnOK Tryd.prog 72 := ⟨_, Tryd.func72, by kernel_rfl, by kernel_rfl⟩
theorem ok_73 : FnOK Tryd.prog 73 := ⟨_, Tryd.func73, by kernel_rfl, by kernel_rfl⟩
theorem ok_74 : FnOK Tryd.prog 74 := ⟨_, Tryd.func74, by kernel_rfl, by kernel_rfl⟩
theorem ok_75 : FnOK Tryd.prog 75 := ⟨_, Tryd.func75, by kernel_rfl, by kernel_rfl⟩
theorem ok_76 : FnOK Tryd.prog 76 := ⟨_, Tryd.func76, by kernel_rfl, by kernel_rfl⟩
theorem ok_77 : FnOK Tryd.prog 77 := ⟨_, Tryd.func77, by kernel_rfl, by kernel_rfl⟩
theorem ok_78 : FnOK Tryd.prog 78 := ⟨_, Tryd.func78, by kernel_rfl, by kernel_rfl⟩
theorem ok_79 : FnOK Tryd.prog 79 := ⟨_, Tryd.func79, by kernel_rfl, by kernel_rfl⟩
theorem ok_8 : FnOK Tryd.prog 8 := ⟨_, Tryd.func8, by kernel_rfl, by kernel_rfl⟩
theorem ok_80 : FnOK Tryd.prog 80 := ⟨_, Tryd.func80, by kernel_rfl, by kernel_rfl⟩
theorem ok_81 : FnOK Tryd.prog 81 := ⟨_, Tryd.func81, by kernel_rfl, by kernel_rfl⟩
theorem ok_82 : FnOK Tryd.prog 82 := ⟨_, Tryd.func82, by kernel_rfl, by kernel_rfl⟩
theorem ok_83 : FnOK Tryd.prog 83 := ⟨_, Tryd.func83, by kernel_rfl, by kernel_rfl⟩
theorem ok_84 : FnOK Tryd.prog 84 := ⟨_, Tryd.func84, by kernel_rfl, by kernel_rfl⟩
theorem ok_9 : FnOK Tryd.prog 9 := ⟨_, Tryd.func9, by kernel_rfl, by kernel_rfl⟩
theorem ok_91 : FnOK Tryd.prog 91 := ⟨_, Tryd.func91, by kernel_rfl, by kernel_rfl⟩
theorem size_2 : (Tryd.prog.info? 2).map (·.size) = some 1 := by kernel_rfl
theorem size_23 : (Tryd.prog.info? 23).map (·.size) = some 2 := by kernel_rfl
theorem size_3 : (Tryd.prog.info? 3).map (·.size) = some 1 := by kernel_rfl
theorem size_44 : (Tryd.prog.info? 44).map (·.size) = some 1 := by kernel_rfl
theorem size_53 : (Tryd.prog.info? 53).map (·.size) = some 1 := by kernel_rfl
theorem size_54 : (Tryd.prog.info? 54).map (·.size) = some 1 := by kernel_rfl
theorem zero_2 : (Tryd.prog.info? 2).bind (·.zero) = some (Value.int .i64 0) := by kernel_rfl
theorem zero_23 : (Tryd.prog.info? 23).bind (·.zero) = some (Value.agg #[(Value.int .i64 0), (Value.int .i64 0)]) := by kernel_rfl
set_option maxRecDepth 100000 in
set_option maxHeartbeats 4000000 in
theorem c_frac_magnitude (F : NP) (w0 : World) (hF : ∀ k, F k → k < w0.heap.size) (n1 : Int) (hc : AllCl [] F w0) (r : Int)
    (h : m_frac_magnitude n1 = some r) :
    Calls Tryd.prog 39 #[(Value.int .i64 n1)] w0 fun e w => e = .returned (Value.int .u64 r) ∧ Ext w0 w ∧ AllCl [] F w := by
  refine ofEnter (R := fun v w => v = (Value.int .u64 r) ∧ Ext w0 w ∧ AllCl [] F w) (enter (l := [(Value.int .i64 n1)]) Tryd.func39 rfl Tryd.ntmps39 rfl ?_) ?_
  rotate_left
  · rintro _ w ⟨rfl, k1, k2⟩; exact ⟨rfl, k1, k2⟩
  have hI := Bun.start hF hc
  clear hc
  rw [m_frac_magnitude] at h
  refine c_seq ?_
  refine c_region rfl ?_
  refine s_q rfl rfl (y_assign rfl ev_const) ?_
  refine s_nil ?_
  refine k_next (e := [(0, (Value.int .i64 n1))]) ⟨rfl, trivial⟩ ?_
  refine c_seq ?_
  refine c_seq ?_
  refine c_region rfl ?_
  refine s_q rfl rfl (y_move rfl (ev_tmp rfl rfl)) ?_
  refine s_q rfl rfl (y_lss rfl (ev_tmp rfl rfl) ev_const) ?_
  refine s_nil ?_
  refine k_next (e := [(0, (Value.int .i64 n1)), (4, (Value.bool (decide (n1 < 0))))]) ⟨rfl, rfl, trivial⟩ ?_
  refine c_cond (b := decide (n1 < 0)) (ev_tmp rfl rfl) (fun hb => ?_) (fun hb => ?_)
  · replace h := ite_t hb h
    refine c_seq ?_
    refine c_region rfl ?_
    refine s_q rfl rfl (y_move rfl (ev_tmp rfl rfl)) ?_
    refine s_q rfl rfl (y_conv rfl (by rw [Tryd.underlying2]; rfl) Tryd.underlying44 (ev_tmp rfl rfl)) ?_
    refine s_q rfl rfl (y_neg rfl (ev_tmp rfl rfl)) ?_
    refine s_q rfl rfl (y_assign rfl (ev_tmp rfl rfl)) ?_
    refine s_nil ?_
    refine k_next (e := [(2, (Value.int .u64 (wu64 (-(wu64 n1)))))]) ⟨rfl, trivial⟩ ?_
    refine c_ret ?_
    obtain rfl := some_inj h
    exact q_ret (vs := [(Value.int .u64 (wu64 (-(wu64 n1))))]) Tryd.results39 ⟨ev_tmp rfl rfl, trivial⟩ ⟨rfl, hI.ext0, hI.fin trivial⟩
  · replace h := ite_f hb h
    refine c_skip ?_
    refine k_next (e := [(0, (Value.int .i64 n1))]) ⟨rfl, trivial⟩ ?_
    refine c_seq ?_
    refine c_region rfl ?_
    refine s_q rfl rfl (y_move rfl (ev_tmp rfl rfl)) ?_
    refine s_q rfl rfl (y_conv rfl (by rw [Tryd.underlying2]; rfl) Tryd.underlying44 (ev_tmp rfl rfl)) ?_
    refine s_q rfl rfl (y_assign rfl (ev_tmp rfl rfl)) ?_
    refine s_nil ?_
    refine k_next (e := [(2, (Value.int .u64 (wu64 n1)))]) ⟨rfl, trivial⟩ ?_
    refine c_ret ?_
    obtain rfl := some_inj h
    exact q_ret (vs := [(Value.int .u64 (wu64 n1))]) Tryd.results39 ⟨ev_tmp rfl rfl, trivial⟩ ⟨rfl, hI.ext0, hI.fin trivial⟩

set_option maxRecDepth 100000 in
set_option maxHeartbeats 4000000 in
theorem c_frac_gcd (F : NP) (w0 : World) (hF : ∀ k, F k → k < w0.heap.size) (a1 : Int) (b1 : Int) (hc : AllCl [] F w0) (r : Int)
    (h : m_frac_gcd a1 b1 = some r) :
    Calls Tryd.prog 40 #[(Value.int .u64 a1), (Value.int .u64 b1)] w0 fun e w => e = .returned (Value.int .u64 r) ∧ Ext w0 w ∧ AllCl [] F w := by
  refine ofEnter (R := fun v w => v = (Value.int .u64 r) ∧ Ext w0 w ∧ AllCl [] F w) (enter (l := [(Value.int .u64 a1), (Value.int .u64 b1)]) Tryd.func40 rfl Tryd.ntmps40 rfl ?_) ?_
  rotate_left
  · rintro _ w ⟨rfl, k1, k2⟩; exact ⟨rfl, k1, k2⟩
  have hI := Bun.start hF hc
  clear hc
  rw [m_frac_gcd] at h
  refine c_seq ?_
  refine c_region rfl ?_
  refine s_q rfl rfl (y_assign rfl ev_const) ?_
  refine s_nil ?_
  refine k_next (e := [(0, (Value.int .u64 a1)), (1, (Value.int .u64 b1))]) ⟨rfl, rfl, trivial⟩ ?_
  refine c_seq ?_
  refine c_block ?_
  refine c_loop (α := Nat × Int × Int) (fun x => fun w => ∃ C, Bun noM F w0 C w [] [] ∧ m_frac_gcd_l1 (x.1) (x.2.1) (x.2.2) = some r) (fun x _ => x.1) (fun x => [(0, (Value.int .u64 (x.2.1))), (1, (Value.int .u64 (x.2.2)))]) (fu, a1, b1) ⟨_, hI.arr .n trivial, h⟩ ⟨rfl, rfl, trivial⟩ ?_
  clear h hI; rintro ⟨fuel1, a2, b2⟩ w1 ⟨c1, hI, h⟩
  dsimp only at hI h
  rcases fuel1 with _ | fuel1
  · rw [m_frac_gcd_l1] at h; cases h
  rw [m_frac_gcd_l1] at h
  refine c_sub (e := [(0, (Value.int .u64 a2)), (1, (Value.int .u64 b2))]) ⟨rfl, rfl, trivial⟩ ?_
  refine c_seq ?_
  refine c_seq ?_
  refine c_region rfl ?_
  refine s_q rfl rfl (y_move rfl (ev_tmp rfl rfl)) ?_
  refine s_q rfl rfl (y_neq rfl (ev_tmp rfl rfl) ev_const) ?_
  refine s_nil ?_
  refine k_next (e := [(0, (Value.int .u64 a2)), (1, (Value.int .u64 b2)), (6, (Value.bool (!decide (b2 = 0))))]) ⟨rfl, rfl, rfl, trivial⟩ ?_
  refine c_cond (b := !decide (b2 = 0)) (ev_tmp rfl rfl) (fun hb => ?_) (fun hb => ?_)
  · replace h := ite_t hb h
    refine c_skip ?_
    refine k_next (e := [(0, (Value.int .u64 a2)), (1, (Value.int .u64 b2))]) ⟨rfl, rfl, trivial⟩ ?_
    refine c_block ?_
    refine c_drawX [] false (.c (0, .q) (.c (1, .q) (.c (2, .q) (.c (3, .q) (.c (4, .q) (.c (5, .q) .n)))))) hI (by kernel_rfl) (by kernel_rfl) ?_
    clear hI; intro w2 hI
    refine a_q rfl rfl rfl (fun w' => (y_move rfl (ev_tmp rfl rfl))) ?_
    refine a_q rfl rfl rfl (fun w' => (y_move rfl (ev_tmp rfl rfl))) ?_
    refine a_q rfl rfl rfl (fun w' => (y_move rfl (ev_tmp rfl rfl))) ?_
    obtain ⟨ho1, h⟩ := chk_some h
    refine a_q rfl rfl rfl (fun w' => (y_rem rfl (ev_tmp rfl rfl) (ev_tmp rfl rfl) ho1)) ?_
    refine a_q rfl rfl rfl (fun w' => (y_assign rfl (ev_tmp rfl rfl))) ?_
    refine a_q rfl rfl rfl (fun w' => (y_assign rfl (ev_tmp rfl rfl))) ?_
    refine a_nil ?_
    exact k_loop (fuel1, b2, Int.tmod a2 b2) ⟨rfl, rfl, trivial⟩ ⟨_, hI.arr .n trivial, h⟩ (Nat.lt_succ_self _)
  · replace h := ite_f hb h
    refine c_exit ?_
    refine k_in ?_
    refine k_next (e := [(0, (Value.int .u64 a2))]) ⟨rfl, trivial⟩ ?_
    refine c_seq ?_
    refine c_region rfl ?_
    refine s_q rfl rfl (y_move rfl (ev_tmp rfl rfl)) ?_
    refine s_q rfl rfl (y_assign rfl (ev_tmp rfl rfl)) ?_
    refine s_nil ?_
    refine k_next (e := [(4, (Value.int .u64 a2))]) ⟨rfl, trivial⟩ ?_
    refine c_ret ?_
    obtain rfl := some_inj h
    exact q_ret (vs := [(Value.int .u64 a2)]) Tryd.results40 ⟨ev_tmp rfl rfl, trivial⟩ ⟨rfl, hI.ext0, hI.fin trivial⟩

set_option maxRecDepth 100000 in
set_option maxHeartbeats 4000000 in
theorem c_frac_New (F : NP) (w0 : World) (hF : ∀ k, F k → k < w0.heap.size) (n1 : Int) (d1 : Int) (hc : AllCl [] F w0) (r : GVal × Int)
    (h : m_frac_New n1 d1 = some r) :
    Calls Tryd.prog 12 #[(Value.int .i64 n1), (Value.int .i64 d1)] w0 fun e w => e = .returned (Value.tuple #[(Value.agg #[(Value.int .i64 r.1.N), (Value.int .i64 r.1.D)]), (Value.int .i64 r.2)]) ∧ Ext w0 w ∧ AllCl [] F w := by
  refine ofEnter (R := fun v w => v = (Value.tuple #[(Value.agg #[(Value.int .i64 r.1.N), (Value.int .i64 r.1.D)]), (Value.int .i64 r.2)]) ∧ Ext w0 w ∧ AllCl [] F w) (enter (l := [(Value.int .i64 n1), (Value.int .i64 d1)]) Tryd.func12 rfl Tryd.ntmps12 rfl ?_) ?_
  rotate_left
  · rintro _ w ⟨rfl, k1, k2⟩; exact ⟨rfl, k1, k2⟩
  have hI := Bun.start hF hc
  clear hc
  rw [m_frac_New] at h
  refine c_seq ?_
  refine c_region rfl ?_
  refine l_alloc (cs := #[(Value.int .i64 0), (Value.int .i64 0)]) hI rfl rfl rfl zero_23 rfl ?_
  clear hI; intro b1 c1 w1 hI
  refine s_q rfl rfl (y_assign rfl ev_const) ?_
  refine s_nil ?_
  refine k_next (e := [(0, (Value.int .i64 n1)), (1, (Value.int .i64 d1)), (4, (Value.pointer (some ⟨b1, 0, none⟩)))]) ⟨rfl, rfl, rfl, trivial⟩ ?_
  refine c_seq ?_
  refine c_seq ?_
  refine c_region rfl ?_
  refine s_q rfl rfl (y_move rfl (ev_tmp rfl rfl)) ?_
  refine s_q rfl rfl (y_eql rfl (ev_tmp rfl rfl) ev_const) ?_
  refine s_nil ?_
  refine k_next (e := [(0, (Value.int .i64 n1)), (1, (Value.int .i64 d1)), (4, (Value.pointer (some ⟨b1, 0, none⟩))), (11, (Value.bool (decide (d1 = 0))))]) ⟨rfl, rfl, rfl, rfl, trivial⟩ ?_
  refine c_cond (b := decide (d1 = 0)) (ev_tmp rfl rfl) (fun hb => ?_) (fun hb => ?_)
  · replace h := ite_t hb h
    refine c_seq ?_
    refine c_region rfl ?_
    refine s_q rfl rfl (y_build (vs := []) (cs := #[(Value.int .i64 0), (Value.int .i64 0)]) rfl trivial (by kernel_rfl)) ?_
    refine l_store (new := [(Value.int .i64 0), (Value.int .i64 0)]) (cs' := #[(Value.int .i64 0), (Value.int .i64 0)]) hI .z rfl rfl rfl (ev_tmp rfl rfl) (ev_tmp rfl rfl) rfl size_23 rfl rfl rfl ?_
    clear hI; intro c2 w2 hI
    refine s_q rfl rfl (y_assign rfl ev_const) ?_
    refine s_nil ?_
    refine k_next (e := [(4, (Value.pointer (some ⟨b1, 0, none⟩))), (5, (Value.int .i64 4))]) ⟨rfl, rfl, trivial⟩ ?_
    refine c_ret ?_
    obtain rfl := some_inj h
    exact q_ret (vs := [(Value.agg #[(Value.int .i64 0), (Value.int .i64 0)]), (Value.int .i64 4)]) Tryd.results12 ⟨⟨_, ev_tmp rfl rfl, load_agg (l := [(Value.int .i64 0), (Value.int .i64 0)]) Tryd.underlying23 rfl size_23 (CellsAt.of_blk (hI.blk .z) rfl)⟩, ⟨ev_tmp rfl rfl, trivial⟩⟩ ⟨rfl, hI.ext0, hI.fin trivial⟩
  · replace h := ite_f hb h
    refine c_skip ?_
    refine k_next (e := [(0, (Value.int .i64 n1)), (1, (Value.int .i64 d1)), (4, (Value.pointer (some ⟨b1, 0, none⟩)))]) ⟨rfl, rfl, rfl, trivial⟩ ?_
    refine c_seq ?_
    refine c_region rfl ?_
    refine s_q rfl rfl (y_move rfl (ev_tmp rfl rfl)) ?_
    refine s_q rfl rfl (y_lss rfl (ev_tmp rfl rfl) ev_const) ?_
    refine s_q rfl rfl (y_move rfl (ev_tmp rfl rfl)) ?_
    refine s_q rfl rfl (y_lss rfl (ev_tmp rfl rfl) ev_const) ?_
    refine s_q rfl rfl (y_neb rfl Tryd.underlying4 (ev_tmp rfl rfl) (ev_tmp rfl rfl)) ?_
    obtain ⟨negative1, hx1, h⟩ := bnd_some h
    refine s_q rfl rfl (binU (y_assign rfl (ev_tmp rfl rfl)) (congrArg Value.bool (some_inj hx1))) ?_
    refine s_nil ?_
    refine k_next (e := [(0, (Value.int .i64 n1)), (1, (Value.int .i64 d1)), (4, (Value.pointer (some ⟨b1, 0, none⟩))), (6, (Value.bool negative1))]) ⟨rfl, rfl, rfl, rfl, trivial⟩ ?_
    refine c_seq ?_
    refine c_region rfl ?_
    refine s_q rfl rfl (y_move rfl (ev_tmp rfl rfl)) ?_
    obtain ⟨r1, hx2, h⟩ := bnd_some h
    refine s_call rfl rfl (r_callF (vs := [(Value.int .i64 n1)]) rfl ok_39 ⟨(ev_tmp rfl rfl), trivial⟩) (Calls.mono (c_frac_magnitude (Dj F c1) w1 hI.lt n1 trivial r1 hx2) ?_)
    rintro _ w3 ⟨rfl, hx3, hl1⟩
    refine ⟨_, rfl, ?_⟩
    replace hI := (hI.ext hx3)
    refine s_q rfl rfl (y_move rfl (ev_tmp rfl rfl)) ?_
    obtain ⟨r2, hx4, h⟩ := bnd_some h
    refine s_call rfl rfl (r_callF (vs := [(Value.int .i64 d1)]) rfl ok_39 ⟨(ev_tmp rfl rfl), trivial⟩) (Calls.mono (c_frac_magnitude (Dj F c1) w3 hI.lt d1 trivial r2 hx4) ?_)
    rintro _ w4 ⟨rfl, hx5, hl2⟩
    refine ⟨_, rfl, ?_⟩
    replace hI := (hI.ext hx5)
    refine s_q rfl rfl (y_assign rfl (ev_tmp rfl rfl)) ?_
    refine s_q rfl rfl (y_assign rfl (ev_tmp rfl rfl)) ?_
    refine s_nil ?_
    refine k_next (e := [(4, (Value.pointer (some ⟨b1, 0, none⟩))), (6, (Value.bool negative1)), (7, (Value.int .u64 r1)), (8, (Value.int .u64 r2))]) ⟨rfl, rfl, rfl, rfl, trivial⟩ ?_
    refine c_seq ?_
    refine c_region rfl ?_
    refine s_q rfl rfl (y_move rfl (ev_tmp rfl rfl)) ?_
    refine s_q rfl rfl (y_move rfl (ev_tmp rfl rfl)) ?_
    obtain ⟨r3, hx6, h⟩ := bnd_some h
    refine s_call rfl rfl (r_callF (vs := [(Value.int .u64 r1), (Value.int .u64 r2)]) rfl ok_40 ⟨(ev_tmp rfl rfl), ⟨(ev_tmp rfl rfl), trivial⟩⟩) (Calls.mono (c_frac_gcd (Dj F c1) w4 hI.lt r1 r2 trivial r3 hx6) ?_)
    rintro _ w5 ⟨rfl, hx7, hl3⟩
    refine ⟨_, rfl, ?_⟩
    replace hI := (hI.ext hx7)
    refine s_q rfl rfl (y_assign rfl (ev_tmp rfl rfl)) ?_
    refine s_nil ?_
    refine k_next (e := [(4, (Value.pointer (some ⟨b1, 0, none⟩))), (6, (Value.bool negative1)), (7, (Value.int .u64 r1)), (8, (Value.int .u64 r2)), (9, (Value.int .u64 r3))]) ⟨rfl, rfl, rfl, rfl, rfl, trivial⟩ ?_
    refine c_seq ?_
    refine c_drawX [] false (.c (0, .q) (.c (1, .q) (.c (2, .q) (.c (3, .q) (.c (4, .q) (.c (5, .q) (.c (6, .q) (.c (7, .q) .n)))))))) hI (by kernel_rfl) (by kernel_rfl) ?_
    clear hI; intro w6 hI
    refine a_q rfl rfl rfl (fun w' => (y_move rfl (ev_tmp rfl rfl))) ?_
    refine a_q rfl rfl rfl (fun w' => (y_move rfl (ev_tmp rfl rfl))) ?_
    obtain ⟨ho1, h⟩ := chk_some h
    refine a_q rfl rfl rfl (fun w' => (y_quo rfl (ev_tmp rfl rfl) (ev_tmp rfl rfl) ho1)) ?_
    refine a_q rfl rfl rfl (fun w' => (y_move rfl (ev_tmp rfl rfl))) ?_
    refine a_q rfl rfl rfl (fun w' => (y_move rfl (ev_tmp rfl rfl))) ?_
    refine a_q rfl rfl rfl (fun w' => (y_quo rfl (ev_tmp rfl rfl) (ev_tmp rfl rfl) ho1)) ?_
    refine a_q rfl rfl rfl (fun w' => (y_assign rfl (ev_tmp rfl rfl))) ?_
    refine a_q rfl rfl rfl (fun w' => (y_assign rfl (ev_tmp rfl rfl))) ?_
    refine a_nil ?_
    refine k_next (e := [(4, (Value.pointer (some ⟨b1, 0, none⟩))), (6, (Value.bool negative1)), (7, (Value.int .u64 (wu64 (Int.tdiv r1 r3)))), (8, (Value.int .u64 (wu64 (Int.tdiv r2 r3))))]) ⟨rfl, rfl, rfl, rfl, trivial⟩ ?_
    refine c_seq ?_
    refine c_seq ?_
    refine c_region rfl ?_
    refine s_q rfl rfl (y_move rfl (ev_tmp rfl rfl)) ?_
    refine s_q rfl rfl (y_gtr rfl (ev_tmp rfl rfl) ev_const) ?_
    refine s_q rfl rfl (y_move rfl (ev_tmp rfl rfl)) ?_
    refine s_gval (g_false rfl rfl rfl rfl) rfl (fun hc => (y_move rfl (ev_tmp rfl rfl))) ?_
    refine s_gval (g_false rfl rfl rfl rfl) rfl (fun hc => (y_gtr rfl (ev_gv (ev_tmp rfl rfl) hc) ev_const)) ?_
    refine s_q rfl rfl (y_or rfl (ev_tmp rfl rfl) (ev_tmp rfl rfl)) ?_
    refine s_nil ?_
    refine k_next (e := [(4, (Value.pointer (some ⟨b1, 0, none⟩))), (6, (Value.bool negative1)), (7, (Value.int .u64 (wu64 (Int.tdiv r1 r3)))), (8, (Value.int .u64 (wu64 (Int.tdiv r2 r3)))), (36, (Value.bool ((decide (2147483647 < wu64 (Int.tdiv r1 r3))) || (decide (2147483647 < wu64 (Int.tdiv r2 r3))))))]) ⟨rfl, rfl, rfl, rfl, rfl, trivial⟩ ?_
    refine c_cond (b := (decide (2147483647 < wu64 (Int.tdiv r1 r3))) || (decide (2147483647 < wu64 (Int.tdiv r2 r3)))) (ev_tmp rfl rfl) (fun hb => ?_) (fun hb => ?_)
    · replace h := ite_t hb h
      refine c_seq ?_
      refine c_region rfl ?_
      refine s_q rfl rfl (y_build (vs := []) (cs := #[(Value.int .i64 0), (Value.int .i64 0)]) rfl trivial (by kernel_rfl)) ?_
      refine l_store (new := [(Value.int .i64 0), (Value.int .i64 0)]) (cs' := #[(Value.int .i64 0), (Value.int .i64 0)]) hI .z rfl rfl rfl (ev_tmp rfl rfl) (ev_tmp rfl rfl) rfl size_23 rfl rfl rfl ?_
      clear hI; intro c3 w7 hI
      refine s_q rfl rfl (y_assign rfl ev_const) ?_
      refine s_nil ?_
      refine k_next (e := [(4, (Value.pointer (some ⟨b1, 0, none⟩))), (5, (Value.int .i64 3))]) ⟨rfl, rfl, trivial⟩ ?_
      refine c_ret ?_
      obtain rfl := some_inj h
      exact q_ret (vs := [(Value.agg #[(Value.int .i64 0), (Value.int .i64 0)]), (Value.int .i64 3)]) Tryd.results12 ⟨⟨_, ev_tmp rfl rfl, load_agg (l := [(Value.int .i64 0), (Value.int .i64 0)]) Tryd.underlying23 rfl size_23 (CellsAt.of_blk (hI.blk .z) rfl)⟩, ⟨ev_tmp rfl rfl, trivial⟩⟩ ⟨rfl, hI.ext0, hI.fin trivial⟩
    · replace h := ite_f hb h
      refine c_skip ?_
      refine k_next (e := [(4, (Value.pointer (some ⟨b1, 0, none⟩))), (6, (Value.bool negative1)), (7, (Value.int .u64 (wu64 (Int.tdiv r1 r3)))), (8, (Value.int .u64 (wu64 (Int.tdiv r2 r3))))]) ⟨rfl, rfl, rfl, rfl, trivial⟩ ?_
      refine c_seq ?_
      refine c_seq ?_
      refine c_region rfl ?_
      refine s_q rfl rfl (y_move rfl (ev_tmp rfl rfl)) ?_
      refine s_nil ?_
      refine k_next (e := [(4, (Value.pointer (some ⟨b1, 0, none⟩))), (7, (Value.int .u64 (wu64 (Int.tdiv r1 r3)))), (8, (Value.int .u64 (wu64 (Int.tdiv r2 r3)))), (38, (Value.bool negative1))]) ⟨rfl, rfl, rfl, rfl, trivial⟩ ?_
      refine c_cond (b := negative1) (ev_tmp rfl rfl) (fun hb => ?_) (fun hb => ?_)
      · replace h := ite_t hb h
        refine c_seq ?_
        refine c_region rfl ?_
        refine s_q rfl rfl (y_move rfl (ev_tmp rfl rfl)) ?_
        refine s_q rfl rfl (y_conv rfl (by rw [Tryd.underlying44]; rfl) Tryd.underlying2 (ev_tmp rfl rfl)) ?_
        refine s_q rfl rfl (y_neg rfl (ev_tmp rfl rfl)) ?_
        refine s_q rfl rfl (y_move rfl (ev_tmp rfl rfl)) ?_
        refine s_q rfl rfl (y_conv rfl (by rw [Tryd.underlying44]; rfl) Tryd.underlying2 (ev_tmp rfl rfl)) ?_
        refine s_q rfl rfl (y_build (vs := [(0, (Value.int .i64 (wi64 (-(wi64 (wu64 (Int.tdiv r1 r3))))))), (1, (Value.int .i64 (wi64 (wu64 (Int.tdiv r2 r3)))))]) (cs := #[(Value.int .i64 (wi64 (-(wi64 (wu64 (Int.tdiv r1 r3)))))), (Value.int .i64 (wi64 (wu64 (Int.tdiv r2 r3))))]) rfl ⟨rfl, (ev_tmp rfl rfl), ⟨rfl, (ev_tmp rfl rfl), trivial⟩⟩ (by kernel_rfl)) ?_
        refine l_store (new := [(Value.int .i64 (wi64 (-(wi64 (wu64 (Int.tdiv r1 r3)))))), (Value.int .i64 (wi64 (wu64 (Int.tdiv r2 r3))))]) (cs' := #[(Value.int .i64 (wi64 (-(wi64 (wu64 (Int.tdiv r1 r3)))))), (Value.int .i64 (wi64 (wu64 (Int.tdiv r2 r3))))]) hI .z rfl rfl rfl (ev_tmp rfl rfl) (ev_tmp rfl rfl) rfl size_23 rfl rfl rfl ?_
        clear hI; intro c4 w8 hI
        refine s_q rfl rfl (y_assign rfl ev_const) ?_
        refine s_nil ?_
        refine k_next (e := [(4, (Value.pointer (some ⟨b1, 0, none⟩))), (5, (Value.int .i64 0))]) ⟨rfl, rfl, trivial⟩ ?_
        refine c_ret ?_
        obtain rfl := some_inj h
        exact q_ret (vs := [(Value.agg #[(Value.int .i64 (wi64 (-(wi64 (wu64 (Int.tdiv r1 r3)))))), (Value.int .i64 (wi64 (wu64 (Int.tdiv r2 r3))))]), (Value.int .i64 0)]) Tryd.results12 ⟨⟨_, ev_tmp rfl rfl, load_agg (l := [(Value.int .i64 (wi64 (-(wi64 (wu64 (Int.tdiv r1 r3)))))), (Value.int .i64 (wi64 (wu64 (Int.tdiv r2 r3))))]) Tryd.underlying23 rfl size_23 (CellsAt.of_blk (hI.blk .z) rfl)⟩, ⟨ev_tmp rfl rfl, trivial⟩⟩ ⟨rfl, hI.ext0, hI.fin trivial⟩
      · replace h := ite_f hb h
        refine c_skip ?_
        refine k_next (e := [(4, (Value.pointer (some ⟨b1, 0, none⟩))), (7, (Value.int .u64 (wu64 (Int.tdiv r1 r3)))), (8, (Value.int .u64 (wu64 (Int.tdiv r2 r3))))]) ⟨rfl, rfl, rfl, trivial⟩ ?_
        refine c_seq ?_
        refine c_region rfl ?_
        refine s_q rfl rfl (y_move rfl (ev_tmp rfl rfl)) ?_
        refine s_q rfl rfl (y_conv rfl (by rw [Tryd.underlying44]; rfl) Tryd.underlying2 (ev_tmp rfl rfl)) ?_
        refine s_q rfl rfl (y_move rfl (ev_tmp rfl rfl)) ?_
        refine s_q rfl rfl (y_conv rfl (by rw [Tryd.underlying44]; rfl) Tryd.underlying2 (ev_tmp rfl rfl)) ?_
        refine s_q rfl rfl (y_build (vs := [(0, (Value.int .i64 (wi64 (wu64 (Int.tdiv r1 r3))))), (1, (Value.int .i64 (wi64 (wu64 (Int.tdiv r2 r3)))))]) (cs := #[(Value.int .i64 (wi64 (wu64 (Int.tdiv r1 r3)))), (Value.int .i64 (wi64 (wu64 (Int.tdiv r2 r3))))]) rfl ⟨rfl, (ev_tmp rfl rfl), ⟨rfl, (ev_tmp rfl rfl), trivial⟩⟩ (by kernel_rfl)) ?_
        refine l_store (new := [(Value.int .i64 (wi64 (wu64 (Int.tdiv r1 r3)))), (Value.int .i64 (wi64 (wu64 (Int.tdiv r2 r3))))]) (cs' := #[(Value.int .i64 (wi64 (wu64 (Int.tdiv r1 r3)))), (Value.int .i64 (wi64 (wu64 (Int.tdiv r2 r3))))]) hI .z rfl rfl rfl (ev_tmp rfl rfl) (ev_tmp rfl rfl) rfl size_23 rfl rfl rfl ?_
        clear hI; intro c5 w9 hI
        refine s_q rfl rfl (y_assign rfl ev_const) ?_
        refine s_nil ?_
        refine k_next (e := [(4, (Value.pointer (some ⟨b1, 0, none⟩))), (5, (Value.int .i64 0))]) ⟨rfl, rfl, trivial⟩ ?_
        refine c_ret ?_
        obtain rfl := some_inj h
        exact q_ret (vs := [(Value.agg #[(Value.int .i64 (wi64 (wu64 (Int.tdiv r1 r3)))), (Value.int .i64 (wi64 (wu64 (Int.tdiv r2 r3))))]), (Value.int .i64 0)]) Tryd.results12 ⟨⟨_, ev_tmp rfl rfl, load_agg (l := [(Value.int .i64 (wi64 (wu64 (Int.tdiv r1 r3)))), (Value.int .i64 (wi64 (wu64 (Int.tdiv r2 r3))))]) Tryd.underlying23 rfl size_23 (CellsAt.of_blk (hI.blk .z) rfl)⟩, ⟨ev_tmp rfl rfl, trivial⟩⟩ ⟨rfl, hI.ext0, hI.fin trivial⟩

set_option maxRecDepth 100000 in
set_option maxHeartbeats 4000000 in
theorem c_ref01_size (F : NP) (w0 : World) (hF : ∀ k, F k → k < w0.heap.size) (n1 : Int) (hc : AllCl [] F w0) (r : Int)
    (h : m_ref01_size n1 = some r) :
    Calls Tryd.prog 42 #[(Value.int .i64 n1)] w0 fun e w => e = .returned (Value.int .u64 r) ∧ Ext w0 w ∧ AllCl [] F w := by
  refine ofEnter (R := fun v w => v = (Value.int .u64 r) ∧ Ext w0 w ∧ AllCl [] F w) (enter (l := [(Value.int .i64 n1)]) Tryd.func42 rfl Tryd.ntmps42 rfl ?_) ?_
  rotate_left
  · rintro _ w ⟨rfl, k1, k2⟩; exact ⟨rfl, k1, k2⟩
  have hI := Bun.start hF hc
  clear hc
  rw [m_ref01_size] at h
  refine c_seq ?_
  refine c_region rfl ?_
  refine s_q rfl rfl (y_assign rfl ev_const) ?_
  refine s_nil ?_
  refine k_next (e := [(0, (Value.int .i64 n1))]) ⟨rfl, trivial⟩ ?_
  refine c_seq ?_
  refine c_seq ?_
  refine c_region rfl ?_
  refine s_q rfl rfl (y_move rfl (ev_tmp rfl rfl)) ?_
  refine s_q rfl rfl (y_lss rfl (ev_tmp rfl rfl) ev_const) ?_
  refine s_nil ?_
  refine k_next (e := [(0, (Value.int .i64 n1)), (4, (Value.bool (decide (n1 < 0))))]) ⟨rfl, rfl, trivial⟩ ?_
  refine c_cond (b := decide (n1 < 0)) (ev_tmp rfl rfl) (fun hb => ?_) (fun hb => ?_)
  · replace h := ite_t hb h
    refine c_seq ?_
    refine c_region rfl ?_
    refine s_q rfl rfl (y_move rfl (ev_tmp rfl rfl)) ?_
    refine s_q rfl rfl (y_add rfl (ev_tmp rfl rfl) ev_const) ?_
    refine s_q rfl rfl (y_neg rfl (ev_tmp rfl rfl)) ?_
    refine s_q rfl rfl (y_conv rfl (by rw [Tryd.underlying2]; rfl) Tryd.underlying44 (ev_tmp rfl rfl)) ?_
    refine s_q rfl rfl (y_add rfl (ev_tmp rfl rfl) ev_const) ?_
    refine s_q rfl rfl (y_assign rfl (ev_tmp rfl rfl)) ?_
    refine s_nil ?_
    refine k_next (e := [(2, (Value.int .u64 (wu64 ((wu64 (wi64 (-(wi64 (n1 + 1))))) + 1))))]) ⟨rfl, trivial⟩ ?_
    refine c_ret ?_
    obtain rfl := some_inj h
    exact q_ret (vs := [(Value.int .u64 (wu64 ((wu64 (wi64 (-(wi64 (n1 + 1))))) + 1)))]) Tryd.results42 ⟨ev_tmp rfl rfl, trivial⟩ ⟨rfl, hI.ext0, hI.fin trivial⟩
  · replace h := ite_f hb h
    refine c_skip ?_
    refine k_next (e := [(0, (Value.int .i64 n1))]) ⟨rfl, trivial⟩ ?_
    refine c_seq ?_
    refine c_region rfl ?_
    refine s_q rfl rfl (y_move rfl (ev_tmp rfl rfl)) ?_
    refine s_q rfl rfl (y_conv rfl (by rw [Tryd.underlying2]; rfl) Tryd.underlying44 (ev_tmp rfl rfl)) ?_
    refine s_q rfl rfl (y_assign rfl (ev_tmp rfl rfl)) ?_
    refine s_nil ?_
    refine k_next (e := [(2, (Value.int .u64 (wu64 n1)))]) ⟨rfl, trivial⟩ ?_
    refine c_ret ?_
    obtain rfl := some_inj h
    exact q_ret (vs := [(Value.int .u64 (wu64 n1))]) Tryd.results42 ⟨ev_tmp rfl rfl, trivial⟩ ⟨rfl, hI.ext0, hI.fin trivial⟩

set_option maxRecDepth 100000 in
set_option maxHeartbeats 4000000 in
theorem c_ref01_gcd (F : NP) (w0 : World) (hF : ∀ k, F k → k < w0.heap.size) (a1 : Int) (b1 : Int) (hc : AllCl [] F w0) (r : Int)
    (h : m_ref01_gcd a1 b1 = some r) :
    Calls Tryd.prog 63 #[(Value.int .u64 a1), (Value.int .u64 b1)] w0 fun e w => e = .returned (Value.int .u64 r) ∧ Ext w0 w ∧ AllCl [] F w := by
  refine ofEnter (R := fun v w => v = (Value.int .u64 r) ∧ Ext w0 w ∧ AllCl [] F w) (enter (l := [(Value.int .u64 a1), (Value.int .u64 b1)]) Tryd.func63 rfl Tryd.ntmps63 rfl ?_) ?_
  rotate_left
  · rintro _ w ⟨rfl, k1, k2⟩; exact ⟨rfl, k1, k2⟩
  have hI := Bun.start hF hc
  clear hc
  rw [m_ref01_gcd] at h
  refine c_seq ?_
  refine c_region rfl ?_
  refine s_q rfl rfl (y_assign rfl ev_const) ?_
  refine s_nil ?_
  refine k_next (e := [(0, (Value.int .u64 a1)), (1, (Value.int .u64 b1))]) ⟨rfl, rfl, trivial⟩ ?_
  refine c_seq ?_
  refine c_block ?_
  refine c_loop (α := Nat × Int × Int) (fun x => fun w => ∃ C, Bun noM F w0 C w [] [] ∧ m_ref01_gcd_l1 (x.1) (x.2.1) (x.2.2) = some r) (fun x _ => x.1) (fun x => [(0, (Value.int .u64 (x.2.1))), (1, (Value.int .u64 (x.2.2)))]) (fu, a1, b1) ⟨_, hI.arr .n trivial, h⟩ ⟨rfl, rfl, trivial⟩ ?_
  clear h hI; rintro ⟨fuel1, a2, b2⟩ w1 ⟨c1, hI, h⟩
  dsimp only at hI h
  rcases fuel1 with _ | fuel1
  · rw [m_ref01_gcd_l1] at h; cases h
  rw [m_ref01_gcd_l1] at h
  refine c_sub (e := [(0, (Value.int .u64 a2)), (1, (Value.int .u64 b2))]) ⟨rfl, rfl, trivial⟩ ?_
  refine c_seq ?_
  refine c_seq ?_
  refine c_region rfl ?_
  refine s_q rfl rfl (y_move rfl (ev_tmp rfl rfl)) ?_
  refine s_q rfl rfl (y_neq rfl (ev_tmp rfl rfl) ev_const) ?_
  refine s_nil ?_
  refine k_next (e := [(0, (Value.int .u64 a2)), (1, (Value.int .u64 b2)), (6, (Value.bool (!decide (b2 = 0))))]) ⟨rfl, rfl, rfl, trivial⟩ ?_
  refine c_cond (b := !decide (b2 = 0)) (ev_tmp rfl rfl) (fun hb => ?_) (fun hb => ?_)
  · replace h := ite_t hb h
    refine c_skip ?_
    refine k_next (e := [(0, (Value.int .u64 a2)), (1, (Value.int .u64 b2))]) ⟨rfl, rfl, trivial⟩ ?_
    refine c_block ?_
    refine c_drawX [] false (.c (0, .q) (.c (1, .q) (.c (2, .q) (.c (3, .q) (.c (4, .q) (.c (5, .q) .n)))))) hI (by kernel_rfl) (by kernel_rfl) ?_
    clear hI; intro w2 hI
    refine a_q rfl rfl rfl (fun w' => (y_move rfl (ev_tmp rfl rfl))) ?_
    refine a_q rfl rfl rfl (fun w' => (y_move rfl (ev_tmp rfl rfl))) ?_
    refine a_q rfl rfl rfl (fun w' => (y_move rfl (ev_tmp rfl rfl))) ?_
    obtain ⟨ho1, h⟩ := chk_some h
    refine a_q rfl rfl rfl (fun w' => (y_rem rfl (ev_tmp rfl rfl) (ev_tmp rfl rfl) ho1)) ?_
    refine a_q rfl rfl rfl (fun w' => (y_assign rfl (ev_tmp rfl rfl))) ?_
    refine a_q rfl rfl rfl (fun w' => (y_assign rfl (ev_tmp rfl rfl))) ?_
    refine a_nil ?_
    exact k_loop (fuel1, b2, Int.tmod a2 b2) ⟨rfl, rfl, trivial⟩ ⟨_, hI.arr .n trivial, h⟩ (Nat.lt_succ_self _)
  · replace h := ite_f hb h
    refine c_exit ?_
    refine k_in ?_
    refine k_next (e := [(0, (Value.int .u64 a2))]) ⟨rfl, trivial⟩ ?_
    refine c_seq ?_
    refine c_region rfl ?_
    refine s_q rfl rfl (y_move rfl (ev_tmp rfl rfl)) ?_
    refine s_q rfl rfl (y_assign rfl (ev_tmp rfl rfl)) ?_
    refine s_nil ?_
    refine k_next (e := [(4, (Value.int .u64 a2))]) ⟨rfl, trivial⟩ ?_
    refine c_ret ?_
    obtain rfl := some_inj h
    exact q_ret (vs := [(Value.int .u64 a2)]) Tryd.results63 ⟨ev_tmp rfl rfl, trivial⟩ ⟨rfl, hI.ext0, hI.fin trivial⟩

set_option maxRecDepth 100000 in
set_option maxHeartbeats 4000000 in
theorem c_ref01_made (F : NP) (w0 : World) (hF : ∀ k, F k → k < w0.heap.size) (minus1 : Bool) (n1 : Int) (d1 : Int) (hc : AllCl [] F w0) (r : GVal × Int)
    (h : m_ref01_made minus1 n1 d1 = some r) :
    Calls Tryd.prog 41 #[(Value.bool minus1), (Value.int .u64 n1), (Value.int .u64 d1)] w0 fun e w => e = .returned (Value.tuple #[(Value.agg #[(Value.int .i64 r.1.N), (Value.int .i64 r.1.D)]), (Value.int .i64 r.2)]) ∧ Ext w0 w ∧ AllCl [] F w := by
  refine ofEnter (R := fun v w => v = (Value.tuple #[(Value.agg #[(Value.int .i64 r.1.N), (Value.int .i64 r.1.D)]), (Value.int .i64 r.2)]) ∧ Ext w0 w ∧ AllCl [] F w) (enter (l := [(Value.bool minus1), (Value.int .u64 n1), (Value.int .u64 d1)]) Tryd.func41 rfl Tryd.ntmps41 rfl ?_) ?_
  rotate_left
  · rintro _ w ⟨rfl, k1, k2⟩; exact ⟨rfl, k1, k2⟩
  have hI := Bun.start hF hc
  clear hc
  rw [m_ref01_made] at h
  refine c_seq ?_
  refine c_region rfl ?_
  refine l_alloc (cs := #[(Value.int .i64 0), (Value.int .i64 0)]) hI rfl rfl rfl zero_23 rfl ?_
  clear hI; intro b1 c1 w1 hI
  refine s_q rfl rfl (y_assign rfl ev_const) ?_
  refine s_nil ?_
  refine k_next (e := [(0, (Value.bool minus1)), (1, (Value.int .u64 n1)), (2, (Value.int .u64 d1)), (6, (Value.pointer (some ⟨b1, 0, none⟩)))]) ⟨rfl, rfl, rfl, rfl, trivial⟩ ?_
  refine c_seq ?_
  refine c_region rfl ?_
  refine s_q rfl rfl (y_move rfl (ev_tmp rfl rfl)) ?_
  refine s_q rfl rfl (y_move rfl (ev_tmp rfl rfl)) ?_
  obtain ⟨r1, hx1, h⟩ := bnd_some h
  refine s_call rfl rfl (r_callF (vs := [(Value.int .u64 n1), (Value.int .u64 d1)]) rfl ok_63 ⟨(ev_tmp rfl rfl), ⟨(ev_tmp rfl rfl), trivial⟩⟩) (Calls.mono (c_ref01_gcd (Dj F c1) w1 hI.lt n1 d1 trivial r1 hx1) ?_)
  rintro _ w2 ⟨rfl, hx2, hl1⟩
  refine ⟨_, rfl, ?_⟩
  replace hI := (hI.ext hx2)
  refine s_q rfl rfl (y_assign rfl (ev_tmp rfl rfl)) ?_
  refine s_nil ?_
  refine k_next (e := [(0, (Value.bool minus1)), (1, (Value.int .u64 n1)), (2, (Value.int .u64 d1)), (6, (Value.pointer (some ⟨b1, 0, none⟩))), (8, (Value.int .u64 r1))]) ⟨rfl, rfl, rfl, rfl, rfl, trivial⟩ ?_
  refine c_seq ?_
  refine c_region rfl ?_
  refine s_q rfl rfl (y_move rfl (ev_tmp rfl rfl)) ?_
  refine s_q rfl rfl (y_move rfl (ev_tmp rfl rfl)) ?_
  obtain ⟨ho1, h⟩ := chk_some h
  refine s_q rfl rfl (y_quo rfl (ev_tmp rfl rfl) (ev_tmp rfl rfl) ho1) ?_
  refine s_q rfl rfl (y_assign rfl (ev_tmp rfl rfl)) ?_
  refine s_nil ?_
  refine k_next (e := [(0, (Value.bool minus1)), (1, (Value.int .u64 (wu64 (Int.tdiv n1 r1)))), (2, (Value.int .u64 d1)), (6, (Value.pointer (some ⟨b1, 0, none⟩))), (8, (Value.int .u64 r1))]) ⟨rfl, rfl, rfl, rfl, rfl, trivial⟩ ?_
  refine c_seq ?_
  refine c_region rfl ?_
  refine s_q rfl rfl (y_move rfl (ev_tmp rfl rfl)) ?_
  refine s_q rfl rfl (y_move rfl (ev_tmp rfl rfl)) ?_
  refine s_q rfl rfl (y_quo rfl (ev_tmp rfl rfl) (ev_tmp rfl rfl) ho1) ?_
  refine s_q rfl rfl (y_assign rfl (ev_tmp rfl rfl)) ?_
  refine s_nil ?_
  refine k_next (e := [(0, (Value.bool minus1)), (1, (Value.int .u64 (wu64 (Int.tdiv n1 r1)))), (2, (Value.int .u64 (wu64 (Int.tdiv d1 r1)))), (6, (Value.pointer (some ⟨b1, 0, none⟩)))]) ⟨rfl, rfl, rfl, rfl, trivial⟩ ?_
  refine c_seq ?_
  refine c_seq ?_
  refine c_region rfl ?_
  refine s_q rfl rfl (y_move rfl (ev_tmp rfl rfl)) ?_
  refine s_q rfl rfl (y_gtr rfl (ev_tmp rfl rfl) ev_const) ?_
  refine s_q rfl rfl (y_move rfl (ev_tmp rfl rfl)) ?_
  refine s_gval (g_false rfl rfl rfl rfl) rfl (fun hc => (y_move rfl (ev_tmp rfl rfl))) ?_
  refine s_gval (g_false rfl rfl rfl rfl) rfl (fun hc => (y_gtr rfl (ev_gv (ev_tmp rfl rfl) hc) ev_const)) ?_
  refine s_q rfl rfl (y_or rfl (ev_tmp rfl rfl) (ev_tmp rfl rfl)) ?_
  refine s_nil ?_
  refine k_next (e := [(0, (Value.bool minus1)), (1, (Value.int .u64 (wu64 (Int.tdiv n1 r1)))), (2, (Value.int .u64 (wu64 (Int.tdiv d1 r1)))), (6, (Value.pointer (some ⟨b1, 0, none⟩))), (23, (Value.bool ((decide (2147483647 < wu64 (Int.tdiv n1 r1))) || (decide (2147483647 < wu64 (Int.tdiv d1 r1))))))]) ⟨rfl, rfl, rfl, rfl, rfl, trivial⟩ ?_
  refine c_cond (b := (decide (2147483647 < wu64 (Int.tdiv n1 r1))) || (decide (2147483647 < wu64 (Int.tdiv d1 r1)))) (ev_tmp rfl rfl) (fun hb => ?_) (fun hb => ?_)
  · replace h := ite_t hb h
    refine c_seq ?_
    refine c_region rfl ?_
    refine s_q rfl rfl (y_build (vs := []) (cs := #[(Value.int .i64 0), (Value.int .i64 0)]) rfl trivial (by kernel_rfl)) ?_
    refine l_store (new := [(Value.int .i64 0), (Value.int .i64 0)]) (cs' := #[(Value.int .i64 0), (Value.int .i64 0)]) hI .z rfl rfl rfl (ev_tmp rfl rfl) (ev_tmp rfl rfl) rfl size_23 rfl rfl rfl ?_
    clear hI; intro c2 w3 hI
    refine s_q rfl rfl (y_assign rfl ev_const) ?_
    refine s_nil ?_
    refine k_next (e := [(6, (Value.pointer (some ⟨b1, 0, none⟩))), (7, (Value.int .i64 3))]) ⟨rfl, rfl, trivial⟩ ?_
    refine c_ret ?_
    obtain rfl := some_inj h
    exact q_ret (vs := [(Value.agg #[(Value.int .i64 0), (Value.int .i64 0)]), (Value.int .i64 3)]) Tryd.results41 ⟨⟨_, ev_tmp rfl rfl, load_agg (l := [(Value.int .i64 0), (Value.int .i64 0)]) Tryd.underlying23 rfl size_23 (CellsAt.of_blk (hI.blk .z) rfl)⟩, ⟨ev_tmp rfl rfl, trivial⟩⟩ ⟨rfl, hI.ext0, hI.fin trivial⟩
  · replace h := ite_f hb h
    refine c_skip ?_
    refine k_next (e := [(0, (Value.bool minus1)), (1, (Value.int .u64 (wu64 (Int.tdiv n1 r1)))), (2, (Value.int .u64 (wu64 (Int.tdiv d1 r1)))), (6, (Value.pointer (some ⟨b1, 0, none⟩)))]) ⟨rfl, rfl, rfl, rfl, trivial⟩ ?_
    refine c_seq ?_
    refine c_seq ?_
    refine c_region rfl ?_
    refine s_q rfl rfl (y_move rfl (ev_tmp rfl rfl)) ?_
    refine s_nil ?_
    refine k_next (e := [(1, (Value.int .u64 (wu64 (Int.tdiv n1 r1)))), (2, (Value.int .u64 (wu64 (Int.tdiv d1 r1)))), (6, (Value.pointer (some ⟨b1, 0, none⟩))), (25, (Value.bool minus1))]) ⟨rfl, rfl, rfl, rfl, trivial⟩ ?_
    refine c_cond (b := minus1) (ev_tmp rfl rfl) (fun hb => ?_) (fun hb => ?_)
    · replace h := ite_t hb h
      refine c_seq ?_
      refine c_region rfl ?_
      refine s_q rfl rfl (y_move rfl (ev_tmp rfl rfl)) ?_
      refine s_q rfl rfl (y_conv rfl (by rw [Tryd.underlying44]; rfl) Tryd.underlying2 (ev_tmp rfl rfl)) ?_
      refine s_q rfl rfl (y_neg rfl (ev_tmp rfl rfl)) ?_
      refine s_q rfl rfl (y_move rfl (ev_tmp rfl rfl)) ?_
      refine s_q rfl rfl (y_conv rfl (by rw [Tryd.underlying44]; rfl) Tryd.underlying2 (ev_tmp rfl rfl)) ?_
      refine s_q rfl rfl (y_build (vs := [(0, (Value.int .i64 (wi64 (-(wi64 (wu64 (Int.tdiv n1 r1))))))), (1, (Value.int .i64 (wi64 (wu64 (Int.tdiv d1 r1)))))]) (cs := #[(Value.int .i64 (wi64 (-(wi64 (wu64 (Int.tdiv n1 r1)))))), (Value.int .i64 (wi64 (wu64 (Int.tdiv d1 r1))))]) rfl ⟨rfl, (ev_tmp rfl rfl), ⟨rfl, (ev_tmp rfl rfl), trivial⟩⟩ (by kernel_rfl)) ?_
      refine l_store (new := [(Value.int .i64 (wi64 (-(wi64 (wu64 (Int.tdiv n1 r1)))))), (Value.int .i64 (wi64 (wu64 (Int.tdiv d1 r1))))]) (cs' := #[(Value.int .i64 (wi64 (-(wi64 (wu64 (Int.tdiv n1 r1)))))), (Value.int .i64 (wi64 (wu64 (Int.tdiv d1 r1))))]) hI .z rfl rfl rfl (ev_tmp rfl rfl) (ev_tmp rfl rfl) rfl size_23 rfl rfl rfl ?_
      clear hI; intro c3 w4 hI
      refine s_q rfl rfl (y_assign rfl ev_const) ?_
      refine s_nil ?_
      refine k_next (e := [(6, (Value.pointer (some ⟨b1, 0, none⟩))), (7, (Value.int .i64 0))]) ⟨rfl, rfl, trivial⟩ ?_
      refine c_ret ?_
      obtain rfl := some_inj h
      exact q_ret (vs := [(Value.agg #[(Value.int .i64 (wi64 (-(wi64 (wu64 (Int.tdiv n1 r1)))))), (Value.int .i64 (wi64 (wu64 (Int.tdiv d1 r1))))]), (Value.int .i64 0)]) Tryd.results41 ⟨⟨_, ev_tmp rfl rfl, load_agg (l := [(Value.int .i64 (wi64 (-(wi64 (wu64 (Int.tdiv n1 r1)))))), (Value.int .i64 (wi64 (wu64 (Int.tdiv d1 r1))))]) Tryd.underlying23 rfl size_23 (CellsAt.of_blk (hI.blk .z) rfl)⟩, ⟨ev_tmp rfl rfl, trivial⟩⟩ ⟨rfl, hI.ext0, hI.fin trivial⟩
    · replace h := ite_f hb h
      refine c_skip ?_
      refine k_next (e := [(1, (Value.int .u64 (wu64 (Int.tdiv n1 r1)))), (2, (Value.int .u64 (wu64 (Int.tdiv d1 r1)))), (6, (Value.pointer (some ⟨b1, 0, none⟩)))]) ⟨rfl, rfl, rfl, trivial⟩ ?_
      refine c_seq ?_
      refine c_region rfl ?_
      refine s_q rfl rfl (y_move rfl (ev_tmp rfl rfl)) ?_
      refine s_q rfl rfl (y_conv rfl (by rw [Tryd.underlying44]; rfl) Tryd.underlying2 (ev_tmp rfl rfl)) ?_
      refine s_q rfl rfl (y_move rfl (ev_tmp rfl rfl)) ?_
      refine s_q rfl rfl (y_conv rfl (by rw [Tryd.underlying44]; rfl) Tryd.underlying2 (ev_tmp rfl rfl)) ?_
      refine s_q rfl rfl (y_build (vs := [(0, (Value.int .i64 (wi64 (wu64 (Int.tdiv n1 r1))))), (1, (Value.int .i64 (wi64 (wu64 (Int.tdiv d1 r1)))))]) (cs := #[(Value.int .i64 (wi64 (wu64 (Int.tdiv n1 r1)))), (Value.int .i64 (wi64 (wu64 (Int.tdiv d1 r1))))]) rfl ⟨rfl, (ev_tmp rfl rfl), ⟨rfl, (ev_tmp rfl rfl), trivial⟩⟩ (by kernel_rfl)) ?_
      refine l_store (new := [(Value.int .i64 (wi64 (wu64 (Int.tdiv n1 r1)))), (Value.int .i64 (wi64 (wu64 (Int.tdiv d1 r1))))]) (cs' := #[(Value.int .i64 (wi64 (wu64 (Int.tdiv n1 r1)))), (Value.int .i64 (wi64 (wu64 (Int.tdiv d1 r1))))]) hI .z rfl rfl rfl (ev_tmp rfl rfl) (ev_tmp rfl rfl) rfl size_23 rfl rfl rfl ?_
      clear hI; intro c4 w5 hI
      refine s_q rfl rfl (y_assign rfl ev_const) ?_
      refine s_nil ?_
      refine k_next (e := [(6, (Value.pointer (some ⟨b1, 0, none⟩))), (7, (Value.int .i64 0))]) ⟨rfl, rfl, trivial⟩ ?_
      refine c_ret ?_
      obtain rfl := some_inj h
      exact q_ret (vs := [(Value.agg #[(Value.int .i64 (wi64 (wu64 (Int.tdiv n1 r1)))), (Value.int .i64 (wi64 (wu64 (Int.tdiv d1 r1))))]), (Value.int .i64 0)]) Tryd.results41 ⟨⟨_, ev_tmp rfl rfl, load_agg (l := [(Value.int .i64 (wi64 (wu64 (Int.tdiv n1 r1)))), (Value.int .i64 (wi64 (wu64 (Int.tdiv d1 r1))))]) Tryd.underlying23 rfl size_23 (CellsAt.of_blk (hI.blk .z) rfl)⟩, ⟨ev_tmp rfl rfl, trivial⟩⟩ ⟨rfl, hI.ext0, hI.fin trivial⟩

set_option maxRecDepth 100000 in
set_option maxHeartbeats 4000000 in
theorem c_ref01_New (F : NP) (w0 : World) (hF : ∀ k, F k → k < w0.heap.size) (n1 : Int) (d1 : Int) (hc : AllCl [] F w0) (r : GVal × Int)
    (h : m_ref01_New n1 d1 = some r) :
    Calls Tryd.prog 13 #[(Value.int .i64 n1), (Value.int .i64 d1)] w0 fun e w => e = .returned (Value.tuple #[(Value.agg #[(Value.int .i64 r.1.N), (Value.int .i64 r.1.D)]), (Value.int .i64 r.2)]) ∧ Ext w0 w ∧ AllCl [] F w := by
  refine ofEnter (R := fun v w => v = (Value.tuple #[(Value.agg #[(Value.int .i64 r.1.N), (Value.int .i64 r.1.D)]), (Value.int .i64 r.2)]) ∧ Ext w0 w ∧ AllCl [] F w) (enter (l := [(Value.int .i64 n1), (Value.int .i64 d1)]) Tryd.func13 rfl Tryd.ntmps13 rfl ?_) ?_
  rotate_left
  · rintro _ w ⟨rfl, k1, k2⟩; exact ⟨rfl, k1, k2⟩
  have hI := Bun.start hF hc
  clear hc
  rw [m_ref01_New] at h
  refine c_seq ?_
  refine c_region rfl ?_
  refine l_alloc (cs := #[(Value.int .i64 0), (Value.int .i64 0)]) hI rfl rfl rfl zero_23 rfl ?_
  clear hI; intro b1 c1 w1 hI
  refine s_q rfl rfl (y_assign rfl ev_const) ?_
  refine s_nil ?_
  refine k_next (e := [(0, (Value.int .i64 n1)), (1, (Value.int .i64 d1)), (4, (Value.pointer (some ⟨b1, 0, none⟩)))]) ⟨rfl, rfl, rfl, trivial⟩ ?_
  refine c_seq ?_
  refine c_seq ?_
  refine c_region rfl ?_
  refine s_q rfl rfl (y_move rfl (ev_tmp rfl rfl)) ?_
  refine s_q rfl rfl (y_eql rfl (ev_tmp rfl rfl) ev_const) ?_
  refine s_nil ?_
  refine k_next (e := [(0, (Value.int .i64 n1)), (1, (Value.int .i64 d1)), (4, (Value.pointer (some ⟨b1, 0, none⟩))), (7, (Value.bool (decide (d1 = 0))))]) ⟨rfl, rfl, rfl, rfl, trivial⟩ ?_
  refine c_cond (b := decide (d1 = 0)) (ev_tmp rfl rfl) (fun hb => ?_) (fun hb => ?_)
  · replace h := ite_t hb h
    refine c_seq ?_
    refine c_region rfl ?_
    refine s_q rfl rfl (y_build (vs := []) (cs := #[(Value.int .i64 0), (Value.int .i64 0)]) rfl trivial (by kernel_rfl)) ?_
    refine l_store (new := [(Value.int .i64 0), (Value.int .i64 0)]) (cs' := #[(Value.int .i64 0), (Value.int .i64 0)]) hI .z rfl rfl rfl (ev_tmp rfl rfl) (ev_tmp rfl rfl) rfl size_23 rfl rfl rfl ?_
    clear hI; intro c2 w2 hI
    refine s_q rfl rfl (y_assign rfl ev_const) ?_
    refine s_nil ?_
    refine k_next (e := [(4, (Value.pointer (some ⟨b1, 0, none⟩))), (5, (Value.int .i64 4))]) ⟨rfl, rfl, trivial⟩ ?_
    refine c_ret ?_
    obtain rfl := some_inj h
    exact q_ret (vs := [(Value.agg #[(Value.int .i64 0), (Value.int .i64 0)]), (Value.int .i64 4)]) Tryd.results13 ⟨⟨_, ev_tmp rfl rfl, load_agg (l := [(Value.int .i64 0), (Value.int .i64 0)]) Tryd.underlying23 rfl size_23 (CellsAt.of_blk (hI.blk .z) rfl)⟩, ⟨ev_tmp rfl rfl, trivial⟩⟩ ⟨rfl, hI.ext0, hI.fin trivial⟩
  · replace h := ite_f hb h
    refine c_skip ?_
    refine k_next (e := [(0, (Value.int .i64 n1)), (1, (Value.int .i64 d1)), (4, (Value.pointer (some ⟨b1, 0, none⟩)))]) ⟨rfl, rfl, rfl, trivial⟩ ?_
    refine c_seq ?_
    refine c_region rfl ?_
    refine s_q rfl rfl (y_move rfl (ev_tmp rfl rfl)) ?_
    refine s_q rfl rfl (y_lss rfl (ev_tmp rfl rfl) ev_const) ?_
    refine s_q rfl rfl (y_move rfl (ev_tmp rfl rfl)) ?_
    refine s_q rfl rfl (y_lss rfl (ev_tmp rfl rfl) ev_const) ?_
    refine s_q rfl rfl (y_neb rfl Tryd.underlying4 (ev_tmp rfl rfl) (ev_tmp rfl rfl)) ?_
    refine s_q rfl rfl (y_move rfl (ev_tmp rfl rfl)) ?_
    obtain ⟨r1, hx1, h⟩ := bnd_some h
    refine s_call rfl rfl (r_callF (vs := [(Value.int .i64 n1)]) rfl ok_42 ⟨(ev_tmp rfl rfl), trivial⟩) (Calls.mono (c_ref01_size (Dj F c1) w1 hI.lt n1 trivial r1 hx1) ?_)
    rintro _ w3 ⟨rfl, hx2, hl1⟩
    refine ⟨_, rfl, ?_⟩
    replace hI := (hI.ext hx2)
    refine s_q rfl rfl (y_move rfl (ev_tmp rfl rfl)) ?_
    obtain ⟨r2, hx3, h⟩ := bnd_some h
    refine s_call rfl rfl (r_callF (vs := [(Value.int .i64 d1)]) rfl ok_42 ⟨(ev_tmp rfl rfl), trivial⟩) (Calls.mono (c_ref01_size (Dj F c1) w3 hI.lt d1 trivial r2 hx3) ?_)
    rintro _ w4 ⟨rfl, hx4, hl2⟩
    refine ⟨_, rfl, ?_⟩
    replace hI := (hI.ext hx4)
    obtain ⟨r3, hx5, h⟩ := bnd_some h
    refine s_call rfl rfl (r_callF (vs := [(Value.bool ((decide (n1 < 0)) != (decide (d1 < 0)))), (Value.int .u64 r1), (Value.int .u64 r2)]) rfl ok_41 ⟨(ev_tmp rfl rfl), ⟨(ev_tmp rfl rfl), ⟨(ev_tmp rfl rfl), trivial⟩⟩⟩) (Calls.mono (c_ref01_made (Dj F c1) w4 hI.lt ((decide (n1 < 0)) != (decide (d1 < 0))) r1 r2 trivial r3 hx5) ?_)
    rintro _ w5 ⟨rfl, hx6, hl3⟩
    refine ⟨_, rfl, ?_⟩
    replace hI := (hI.ext hx6)
    refine s_q rfl rfl (y_extract rfl (ev_tmp rfl rfl) rfl) ?_
    refine s_q rfl rfl (y_extract rfl (ev_tmp rfl rfl) rfl) ?_
    refine l_store (new := [(Value.int .i64 r3.1.N), (Value.int .i64 r3.1.D)]) (cs' := #[(Value.int .i64 r3.1.N), (Value.int .i64 r3.1.D)]) hI .z rfl rfl rfl (ev_tmp rfl rfl) (ev_tmp rfl rfl) rfl size_23 rfl rfl rfl ?_
    clear hI; intro c3 w6 hI
    refine s_q rfl rfl (y_assign rfl (ev_tmp rfl rfl)) ?_
    refine s_nil ?_
    refine k_next (e := [(4, (Value.pointer (some ⟨b1, 0, none⟩))), (5, (Value.int .i64 r3.2))]) ⟨rfl, rfl, trivial⟩ ?_
    refine c_ret ?_
    obtain rfl := some_inj h
    exact q_ret (vs := [(Value.agg #[(Value.int .i64 r3.1.N), (Value.int .i64 r3.1.D)]), (Value.int .i64 r3.2)]) Tryd.results13 ⟨⟨_, ev_tmp rfl rfl, load_agg (l := [(Value.int .i64 r3.1.N), (Value.int .i64 r3.1.D)]) Tryd.underlying23 rfl size_23 (CellsAt.of_blk (hI.blk .z) rfl)⟩, ⟨ev_tmp rfl rfl, trivial⟩⟩ ⟨rfl, hI.ext0, hI.fin trivial⟩

set_option maxRecDepth 100000 in
set_option maxHeartbeats 4000000 in
theorem c_frac_inRange (F : NP) (w0 : World) (hF : ∀ k, F k → k < w0.heap.size) (n1 : Int) (hc : AllCl [] F w0) (r : Bool)
    (h : m_frac_inRange n1 = some r) :
    Calls Tryd.prog 43 #[(Value.int .i64 n1)] w0 fun e w => e = .returned (Value.bool r) ∧ Ext w0 w ∧ AllCl [] F w := by
  refine ofEnter (R := fun v w => v = (Value.bool r) ∧ Ext w0 w ∧ AllCl [] F w) (enter (l := [(Value.int .i64 n1)]) Tryd.func43 rfl Tryd.ntmps43 rfl ?_) ?_
  rotate_left
  · rintro _ w ⟨rfl, k1, k2⟩; exact ⟨rfl, k1, k2⟩
  have hI := Bun.start hF hc
  clear hc
  rw [m_frac_inRange] at h
  refine c_seq ?_
  refine c_region rfl ?_
  refine s_q rfl rfl (y_assign rfl ev_const) ?_
  refine s_nil ?_
  refine k_next (e := [(0, (Value.int .i64 n1))]) ⟨rfl, trivial⟩ ?_
  refine c_seq ?_
  refine c_region rfl ?_
  refine s_q rfl rfl (y_move rfl (ev_tmp rfl rfl)) ?_
  refine s_q rfl rfl (y_geq rfl (ev_tmp rfl rfl) ev_const) ?_
  refine s_q rfl rfl (y_move rfl (ev_tmp rfl rfl)) ?_
  refine s_gval (g_true rfl rfl rfl rfl) rfl (fun hc => (y_move rfl (ev_tmp rfl rfl))) ?_
  refine s_gval (g_true rfl rfl rfl rfl) rfl (fun hc => (y_leq rfl (ev_gv (ev_tmp rfl rfl) hc) ev_const)) ?_
  refine s_q rfl rfl (y_and rfl (ev_tmp rfl rfl) (ev_tmp rfl rfl)) ?_
  refine s_q rfl rfl (y_assign rfl (ev_tmp rfl rfl)) ?_
  refine s_nil ?_
  refine k_next (e := [(2, (Value.bool ((decide ((-2147483647) ≤ n1)) && (decide (n1 ≤ 2147483647)))))]) ⟨rfl, trivial⟩ ?_
  refine c_ret ?_
  obtain rfl := some_inj h
  exact q_ret (vs := [(Value.bool ((decide ((-2147483647) ≤ n1)) && (decide (n1 ≤ 2147483647))))]) Tryd.results43 ⟨ev_tmp rfl rfl, trivial⟩ ⟨rfl, hI.ext0, hI.fin trivial⟩

set_option maxRecDepth 100000 in
set_option maxHeartbeats 4000000 in
theorem c_frac_Valid (F : NP) (w0 : World) (hF : ∀ k, F k → k < w0.heap.size) (v1 : GVal) (hc : AllCl [] F w0) (r : Bool)
    (h : m_frac_Valid v1 = some r) :
    Calls Tryd.prog 14 #[(Value.agg #[(Value.int .i64 v1.N), (Value.int .i64 v1.D)])] w0 fun e w => e = .returned (Value.bool r) ∧ Ext w0 w ∧ AllCl [] F w := by
  refine ofEnter (R := fun v w => v = (Value.bool r) ∧ Ext w0 w ∧ AllCl [] F w) (enter (l := [(Value.agg #[(Value.int .i64 v1.N), (Value.int .i64 v1.D)])]) Tryd.func14 rfl Tryd.ntmps14 rfl ?_) ?_
  rotate_left
  · rintro _ w ⟨rfl, k1, k2⟩; exact ⟨rfl, k1, k2⟩
  have hI := Bun.start hF hc
  clear hc
  rw [m_frac_Valid] at h
  refine c_seq ?_
  refine c_region rfl ?_
  refine l_box (v := (Value.agg #[(Value.int .i64 v1.N), (Value.int .i64 v1.D)])) (cs := #[(Value.int .i64 v1.N), (Value.int .i64 v1.D)]) hI rfl rfl rfl (ev_tmp rfl rfl) rfl ?_
  clear hI; intro b1 c1 w1 hI
  obtain ⟨c2, hI⟩ := hI.relBox .z
  refine s_q rfl rfl (y_assign rfl ev_const) ?_
  refine s_nil ?_
  refine k_next (e := [(1, (Value.pointer (some ⟨b1, 0, none⟩)))]) ⟨rfl, trivial⟩ ?_
  refine c_seq ?_
  refine c_drawX [] false (.c (0, .q) (.c (1, .q) (.c (2, .q) (.c (3, .q) (.c (4, .q) (.c (5, .q) (.c (6, .q) (.c (7, .q) (.c (8, .q) (.c (9, .q) (.c (10, .q) (.c (11, .s) (.c (12, .q) (.c (13, .q) (.c (14, .q) (.c (15, .q) (.c (17, .q) (.c (18, .q) (.c (19, .q) (.c (16, .s) (.c (20, .s) (.c (21, .q) (.c (22, .q) (.c (23, .q) .n)))))))))))))))))))))))) hI (by kernel_rfl) (by kernel_rfl) ?_
  clear hI; intro w2 hI
  refine a_q rfl rfl rfl (fun w' => (y_fieldAddr rfl (ev_tmp rfl rfl) Tryd.underlying23 rfl size_2 rfl)) ?_
  refine a_read rfl rfl rfl (fun w' hw' => (y_load1 (v := (Value.int .i64 v1.D)) rfl (ev_tmp rfl rfl) Tryd.underlying2 rfl ((hI.kblk (l := [(Value.int .i64 v1.D)]) .z rfl).at_ (SX.any rfl hw')))) (by kernel_rfl) ?_
  refine a_q rfl rfl rfl (fun w' => (y_geq rfl (ev_tmp rfl rfl) ev_const)) ?_
  refine a_q rfl rfl rfl (fun w' => (y_move rfl (ev_tmp rfl rfl))) ?_
  refine a_gval rfl (g_true rfl rfl rfl rfl) rfl (fun hc => fun w' => (y_fieldAddr rfl (ev_tmp rfl rfl) Tryd.underlying23 rfl size_2 rfl)) ?_
  refine a_gread rfl (g_true rfl rfl rfl rfl) rfl (fun hc => fun w' hw' => (y_load1 (v := (Value.int .i64 v1.D)) rfl (ev_gv (ev_tmp rfl rfl) hc) Tryd.underlying2 rfl ((hI.kblk (l := [(Value.int .i64 v1.D)]) .z rfl).at_ (SX.any rfl hw')))) (by kernel_rfl) ?_
  refine a_gval rfl (g_true rfl rfl rfl rfl) rfl (fun hc => fun w' => (y_leq rfl (ev_gv (ev_tmp rfl rfl) hc) ev_const)) ?_
  refine a_q rfl rfl rfl (fun w' => (y_and rfl (ev_tmp rfl rfl) (ev_tmp rfl rfl))) ?_
  refine a_q rfl rfl rfl (fun w' => (y_move rfl (ev_tmp rfl rfl))) ?_
  refine a_gval rfl (g_true rfl rfl rfl rfl) rfl (fun hc => fun w' => (y_fieldAddr rfl (ev_tmp rfl rfl) Tryd.underlying23 rfl size_2 rfl)) ?_
  refine a_gread rfl (g_true rfl rfl rfl rfl) rfl (fun hc => fun w' hw' => (y_load1 (v := (Value.int .i64 v1.N)) rfl (ev_gv (ev_tmp rfl rfl) hc) Tryd.underlying2 rfl ((hI.kblk (l := [(Value.int .i64 v1.N)]) .z rfl).at_ (SX.any rfl hw')))) (by kernel_rfl) ?_
  obtain ⟨r1, hx1, h⟩ := bnd_some h
  replace hx1 := gd_some hx1
  refine la_gcallU (v := (Value.bool r1)) rfl (g_true rfl rfl rfl rfl) rfl (fun hc => (r_callF (vs := [(Value.int .i64 v1.N)]) rfl ok_43 ⟨(ev_gv (ev_tmp rfl rfl) hc), trivial⟩)) (fun hc => (c_frac_inRange (Dj F c2) w2 hI.lt v1.N trivial r1 (hx1 hc)).mono fun _ _ k => ⟨k.1, k.2.1⟩) ?_
  intro w3 hx2; replace hI := hI.ext hx2
  refine a_q rfl rfl rfl (fun w' => (y_and rfl (ev_tmp rfl rfl) (ev_tmp rfl rfl))) ?_
  refine a_q rfl rfl rfl (fun w' => (y_move rfl (ev_tmp rfl rfl))) ?_
  refine a_gval rfl (g_true rfl rfl rfl rfl) rfl (fun hc => fun w' => (y_fieldAddr rfl (ev_tmp rfl rfl) Tryd.underlying23 rfl size_2 rfl)) ?_
  refine a_gread rfl (g_true rfl rfl rfl rfl) rfl (fun hc => fun w' hw' => (y_load1 (v := (Value.int .i64 v1.N)) rfl (ev_gv (ev_tmp rfl rfl) hc) Tryd.underlying2 rfl ((hI.kblk (l := [(Value.int .i64 v1.N)]) .z rfl).at_ (SX.any rfl hw')))) (by kernel_rfl) ?_
  refine a_gval rfl (g_true rfl rfl rfl rfl) rfl (fun hc => fun w' => (y_fieldAddr rfl (ev_tmp rfl rfl) Tryd.underlying23 rfl size_2 rfl)) ?_
  refine a_gread rfl (g_true rfl rfl rfl rfl) rfl (fun hc => fun w' hw' => (y_load1 (v := (Value.int .i64 v1.D)) rfl (ev_gv (ev_tmp rfl rfl) hc) Tryd.underlying2 rfl ((hI.kblk (l := [(Value.int .i64 v1.D)]) .z rfl).at_ (SX.any rfl hw')))) (by kernel_rfl) ?_
  refine a_gval rfl (g_true rfl rfl rfl rfl) rfl (fun hc => fun w' => (y_conv rfl (by rw [Tryd.underlying2]; rfl) Tryd.underlying44 (ev_gv (ev_tmp rfl rfl) hc))) ?_
  obtain ⟨r2, hx3, h⟩ := bnd_some h
  replace hx3 := gd_some hx3
  refine la_gcallU (v := (Value.int .u64 r2)) rfl (g_true rfl rfl rfl rfl) rfl (fun hc => (r_callF (vs := [(Value.int .i64 v1.N)]) rfl ok_39 ⟨(ev_gv (ev_tmp rfl rfl) hc), trivial⟩)) (fun hc => (c_frac_magnitude (Dj F c2) w3 hI.lt v1.N trivial r2 (hx3 hc)).mono fun _ _ k => ⟨k.1, k.2.1⟩) ?_
  intro w4 hx4; replace hI := hI.ext hx4
  obtain ⟨r3, hx5, h⟩ := bnd_some h
  replace hx5 := gd_some hx5
  refine la_gcallU (v := (Value.int .u64 r3)) rfl (g_true rfl rfl rfl rfl) rfl (fun hc => (r_callF (vs := [(Value.int .u64 r2), (Value.int .u64 (wu64 v1.D))]) rfl ok_40 ⟨(ev_gv (ev_tmp rfl rfl) hc), ⟨(ev_gv (ev_tmp rfl rfl) hc), trivial⟩⟩)) (fun hc => (c_frac_gcd (Dj F c2) w4 hI.lt r2 (wu64 v1.D) trivial r3 (hx5 hc)).mono fun _ _ k => ⟨k.1, k.2.1⟩) ?_
  intro w5 hx6; replace hI := hI.ext hx6
  refine a_gval rfl (g_true rfl rfl rfl rfl) rfl (fun hc => fun w' => (y_eql rfl (ev_gv (ev_tmp rfl rfl) hc) ev_const)) ?_
  refine a_q rfl rfl rfl (fun w' => (y_and rfl (ev_tmp rfl rfl) (ev_tmp rfl rfl))) ?_
  refine a_q rfl rfl rfl (fun w' => (y_assign rfl (ev_tmp rfl rfl))) ?_
  refine a_nil ?_
  refine k_next (e := [(2, (Value.bool ((((decide (1 ≤ v1.D)) && (decide (v1.D ≤ 2147483647))) && r1) && (decide (r3 = 1)))))]) ⟨rfl, trivial⟩ ?_
  refine c_ret ?_
  obtain rfl := some_inj h
  exact q_ret (vs := [(Value.bool ((((decide (1 ≤ v1.D)) && (decide (v1.D ≤ 2147483647))) && r1) && (decide (r3 = 1))))]) Tryd.results14 ⟨ev_tmp rfl rfl, trivial⟩ ⟨rfl, hI.ext0, hI.fin trivial⟩

set_option maxRecDepth 100000 in
set_option maxHeartbeats 4000000 in
theorem c_base_gcd (F : NP) (w0 : World) (hF : ∀ k, F k → k < w0.heap.size) (a1 : Int) (b1 : Int) (hc : AllCl [] F w0) (r : Int)
    (h : m_base_gcd a1 b1 = some r) :
    Calls Tryd.prog 68 #[(Value.int .i64 a1), (Value.int .i64 b1)] w0 fun e w => e = .returned (Value.int .i64 r) ∧ Ext w0 w ∧ AllCl [] F w := by
  refine ofEnter (R := fun v w => v = (Value.int .i64 r) ∧ Ext w0 w ∧ AllCl [] F w) (enter (l := [(Value.int .i64 a1), (Value.int .i64 b1)]) Tryd.func68 rfl Tryd.ntmps68 rfl ?_) ?_
  rotate_left
  · rintro _ w ⟨rfl, k1, k2⟩; exact ⟨rfl, k1, k2⟩
  have hI := Bun.start hF hc
  clear hc
  rw [m_base_gcd] at h
  refine c_seq ?_
  refine c_region rfl ?_
  refine s_q rfl rfl (y_assign rfl ev_const) ?_
  refine s_nil ?_
  refine k_next (e := [(0, (Value.int .i64 a1)), (1, (Value.int .i64 b1))]) ⟨rfl, rfl, trivial⟩ ?_
  refine c_seq ?_
  refine c_block ?_
  refine c_loop (α := Nat × Int × Int) (fun x => fun w => ∃ C, Bun noM F w0 C w [] [] ∧ m_base_gcd_l1 (x.1) (x.2.1) (x.2.2) = some r) (fun x _ => x.1) (fun x => [(0, (Value.int .i64 (x.2.1))), (1, (Value.int .i64 (x.2.2)))]) (fu, a1, b1) ⟨_, hI.arr .n trivial, h⟩ ⟨rfl, rfl, trivial⟩ ?_
  clear h hI; rintro ⟨fuel1, a2, b2⟩ w1 ⟨c1, hI, h⟩
  dsimp only at hI h
  rcases fuel1 with _ | fuel1
  · rw [m_base_gcd_l1] at h; cases h
  rw [m_base_gcd_l1] at h
  refine c_sub (e := [(0, (Value.int .i64 a2)), (1, (Value.int .i64 b2))]) ⟨rfl, rfl, trivial⟩ ?_
  refine c_seq ?_
  refine c_seq ?_
  refine c_region rfl ?_
  refine s_q rfl rfl (y_move rfl (ev_tmp rfl rfl)) ?_
  refine s_q rfl rfl (y_neq rfl (ev_tmp rfl rfl) ev_const) ?_
  refine s_nil ?_
  refine k_next (e := [(0, (Value.int .i64 a2)), (1, (Value.int .i64 b2)), (6, (Value.bool (!decide (b2 = 0))))]) ⟨rfl, rfl, rfl, trivial⟩ ?_
  refine c_cond (b := !decide (b2 = 0)) (ev_tmp rfl rfl) (fun hb => ?_) (fun hb => ?_)
  · replace h := ite_t hb h
    refine c_skip ?_
    refine k_next (e := [(0, (Value.int .i64 a2)), (1, (Value.int .i64 b2))]) ⟨rfl, rfl, trivial⟩ ?_
    refine c_block ?_
    refine c_drawX [] false (.c (0, .q) (.c (1, .q) (.c (2, .q) (.c (3, .q) (.c (4, .q) (.c (5, .q) .n)))))) hI (by kernel_rfl) (by kernel_rfl) ?_
    clear hI; intro w2 hI
    refine a_q rfl rfl rfl (fun w' => (y_move rfl (ev_tmp rfl rfl))) ?_
    refine a_q rfl rfl rfl (fun w' => (y_move rfl (ev_tmp rfl rfl))) ?_
    refine a_q rfl rfl rfl (fun w' => (y_move rfl (ev_tmp rfl rfl))) ?_
    obtain ⟨ho1, h⟩ := chk_some h
    refine a_q rfl rfl rfl (fun w' => (y_rem rfl (ev_tmp rfl rfl) (ev_tmp rfl rfl) ho1)) ?_
    refine a_q rfl rfl rfl (fun w' => (y_assign rfl (ev_tmp rfl rfl))) ?_
    refine a_q rfl rfl rfl (fun w' => (y_assign rfl (ev_tmp rfl rfl))) ?_
    refine a_nil ?_
    exact k_loop (fuel1, b2, Int.tmod a2 b2) ⟨rfl, rfl, trivial⟩ ⟨_, hI.arr .n trivial, h⟩ (Nat.lt_succ_self _)
  · replace h := ite_f hb h
    refine c_exit ?_
    refine k_in ?_
    refine k_next (e := [(0, (Value.int .i64 a2))]) ⟨rfl, trivial⟩ ?_
    refine c_seq ?_
    refine c_region rfl ?_
    refine s_q rfl rfl (y_move rfl (ev_tmp rfl rfl)) ?_
    refine s_q rfl rfl (y_assign rfl (ev_tmp rfl rfl)) ?_
    refine s_nil ?_
    refine k_next (e := [(4, (Value.int .i64 a2))]) ⟨rfl, trivial⟩ ?_
    refine c_ret ?_
    obtain rfl := some_inj h
    exact q_ret (vs := [(Value.int .i64 a2)]) Tryd.results68 ⟨ev_tmp rfl rfl, trivial⟩ ⟨rfl, hI.ext0, hI.fin trivial⟩

set_option maxRecDepth 100000 in
set_option maxHeartbeats 4000000 in
theorem c_base_Val (F : NP) (w0 : World) (hF : ∀ k, F k → k < w0.heap.size) (t1 : GType) (v1 : GVal) (hc : AllCl [] F w0) (r : Bool)
    (h : m_base_Val t1 v1 = some r) :
    Calls Tryd.prog 44 #[(Value.agg #[(Value.int .i64 t1.Kind), (Value.int .i64 t1.Bits), (Value.int .i64 t1.Frac), (Value.int .i64 t1.Round), (Value.int .i64 t1.Over)]), (Value.agg #[(Value.int .i64 v1.N), (Value.int .i64 v1.D)])] w0 fun e w => e = .returned (Value.bool r) ∧ Ext w0 w ∧ AllCl [] F w := by
  refine ofEnter (R := fun v w => v = (Value.bool r) ∧ Ext w0 w ∧ AllCl [] F w) (enter (l := [(Value.agg #[(Value.int .i64 t1.Kind), (Value.int .i64 t1.Bits), (Value.int .i64 t1.Frac), (Value.int .i64 t1.Round), (Value.int .i64 t1.Over)]), (Value.agg #[(Value.int .i64 v1.N), (Value.int .i64 v1.D)])]) Tryd.func44 rfl Tryd.ntmps44 rfl ?_) ?_
  rotate_left
  · rintro _ w ⟨rfl, k1, k2⟩; exact ⟨rfl, k1, k2⟩
  have hI := Bun.start hF hc
  clear hc
  rw [m_base_Val] at h
  refine c_seq ?_
  refine c_region rfl ?_
  refine l_box (v := (Value.agg #[(Value.int .i64 t1.Kind), (Value.int .i64 t1.Bits), (Value.int .i64 t1.Frac), (Value.int .i64 t1.Round), (Value.int .i64 t1.Over)])) (cs := #[(Value.int .i64 t1.Kind), (Value.int .i64 t1.Bits), (Value.int .i64 t1.Frac), (Value.int .i64 t1.Round), (Value.int .i64 t1.Over)]) hI rfl rfl rfl (ev_tmp rfl rfl) rfl ?_
  clear hI; intro b1 c1 w1 hI
  obtain ⟨c2, hI⟩ := hI.relBox .z
  refine l_box (v := (Value.agg #[(Value.int .i64 v1.N), (Value.int .i64 v1.D)])) (cs := #[(Value.int .i64 v1.N), (Value.int .i64 v1.D)]) hI rfl rfl rfl (ev_tmp rfl rfl) rfl ?_
  clear hI; intro b2 c3 w2 hI
  obtain ⟨c4, hI⟩ := hI.relBox .z
  refine s_q rfl rfl (y_assign rfl ev_const) ?_
  refine s_nil ?_
  refine k_next (e := [(2, (Value.pointer (some ⟨b1, 0, none⟩))), (3, (Value.pointer (some ⟨b2, 0, none⟩)))]) ⟨rfl, rfl, trivial⟩ ?_
  refine c_seq ?_
  refine c_seq ?_
  refine c_region rfl ?_
  refine s_q rfl rfl (y_fieldAddr rfl (ev_tmp rfl rfl) Tryd.underlying51 rfl size_3 rfl) ?_
  refine s_q rfl rfl (y_load1 (v := (Value.int .i64 t1.Kind)) rfl (ev_tmp rfl rfl) Tryd.underlying3 rfl (hI.kblk (l := [(Value.int .i64 t1.Kind)]) (.s .z) rfl).1) ?_
  refine s_q rfl rfl (y_eql rfl (ev_tmp rfl rfl) ev_const) ?_
  refine s_nil ?_
  refine k_next (e := [(2, (Value.pointer (some ⟨b1, 0, none⟩))), (3, (Value.pointer (some ⟨b2, 0, none⟩))), (8, (Value.bool (decide (t1.Kind = 2))))]) ⟨rfl, rfl, rfl, trivial⟩ ?_
  refine c_cond (b := decide (t1.Kind = 2)) (ev_tmp rfl rfl) (fun hb => ?_) (fun hb => ?_)
  · replace h := ite_t hb h
    refine c_seq ?_
    refine c_region rfl ?_
    refine s_q rfl rfl (y_fieldAddr rfl (ev_tmp rfl rfl) Tryd.underlying51 rfl size_3 rfl) ?_
    refine s_q rfl rfl (y_load1 (v := (Value.int .i64 t1.Bits)) rfl (ev_tmp rfl rfl) Tryd.underlying3 rfl (hI.kblk (l := [(Value.int .i64 t1.Bits)]) (.s .z) rfl).1) ?_
    refine s_q rfl rfl (y_sub rfl (ev_tmp rfl rfl) ev_const) ?_
    obtain ⟨ho1, h⟩ := chk_some h
    refine s_q rfl rfl (y_shl rfl ev_const (ev_tmp rfl rfl) ho1) ?_
    obtain ⟨half1, hx1, h⟩ := bnd_some h
    refine s_q rfl rfl (binU (y_assign rfl (ev_tmp rfl rfl)) (congrArg (Value.int .i64) (some_inj hx1))) ?_
    refine s_nil ?_
    refine k_next (e := [(3, (Value.pointer (some ⟨b2, 0, none⟩))), (5, (Value.int .i64 half1))]) ⟨rfl, rfl, trivial⟩ ?_
    refine c_seq ?_
    refine c_region rfl ?_
    refine s_q rfl rfl (y_fieldAddr rfl (ev_tmp rfl rfl) Tryd.underlying23 rfl size_2 rfl) ?_
    refine s_q rfl rfl (y_load1 (v := (Value.int .i64 v1.D)) rfl (ev_tmp rfl rfl) Tryd.underlying2 rfl (hI.kblk (l := [(Value.int .i64 v1.D)]) .z rfl).1) ?_
    refine s_q rfl rfl (y_eql rfl (ev_tmp rfl rfl) ev_const) ?_
    refine s_q rfl rfl (y_move rfl (ev_tmp rfl rfl)) ?_
    refine s_gval (g_true rfl rfl rfl rfl) rfl (fun hc => (y_fieldAddr rfl (ev_tmp rfl rfl) Tryd.underlying23 rfl size_2 rfl)) ?_
    refine s_gval (g_true rfl rfl rfl rfl) rfl (fun hc => (y_load1 (v := (Value.int .i64 v1.N)) rfl (ev_gv (ev_tmp rfl rfl) hc) Tryd.underlying2 rfl (hI.kblk (l := [(Value.int .i64 v1.N)]) .z rfl).1)) ?_
    refine s_gval (g_true rfl rfl rfl rfl) rfl (fun hc => (y_move rfl (ev_tmp rfl rfl))) ?_
    refine s_gval (g_true rfl rfl rfl rfl) rfl (fun hc => (y_neg rfl (ev_gv (ev_tmp rfl rfl) hc))) ?_
    refine s_gval (g_true rfl rfl rfl rfl) rfl (fun hc => (y_geq rfl (ev_gv (ev_tmp rfl rfl) hc) (ev_gv (ev_tmp rfl rfl) hc))) ?_
    refine s_q rfl rfl (y_and rfl (ev_tmp rfl rfl) (ev_tmp rfl rfl)) ?_
    refine s_q rfl rfl (y_move rfl (ev_tmp rfl rfl)) ?_
    refine s_gval (g_true rfl rfl rfl rfl) rfl (fun hc => (y_fieldAddr rfl (ev_tmp rfl rfl) Tryd.underlying23 rfl size_2 rfl)) ?_
    refine s_gval (g_true rfl rfl rfl rfl) rfl (fun hc => (y_load1 (v := (Value.int .i64 v1.N)) rfl (ev_gv (ev_tmp rfl rfl) hc) Tryd.underlying2 rfl (hI.kblk (l := [(Value.int .i64 v1.N)]) .z rfl).1)) ?_
    refine s_gval (g_true rfl rfl rfl rfl) rfl (fun hc => (y_move rfl (ev_tmp rfl rfl))) ?_
    refine s_gval (g_true rfl rfl rfl rfl) rfl (fun hc => (y_lss rfl (ev_gv (ev_tmp rfl rfl) hc) (ev_gv (ev_tmp rfl rfl) hc))) ?_
    refine s_q rfl rfl (y_and rfl (ev_tmp rfl rfl) (ev_tmp rfl rfl)) ?_
    refine s_q rfl rfl (y_assign rfl (ev_tmp rfl rfl)) ?_
    refine s_nil ?_
    refine k_next (e := [(4, (Value.bool (((decide (v1.D = 1)) && (decide (wi64 (-half1) ≤ v1.N))) && (decide (v1.N < half1)))))]) ⟨rfl, trivial⟩ ?_
    refine c_ret ?_
    obtain rfl := some_inj h
    exact q_ret (vs := [(Value.bool (((decide (v1.D = 1)) && (decide (wi64 (-half1) ≤ v1.N))) && (decide (v1.N < half1))))]) Tryd.results44 ⟨ev_tmp rfl rfl, trivial⟩ ⟨rfl, hI.ext0, hI.fin trivial⟩
  · replace h := ite_f hb h
    refine c_skip ?_
    refine k_next (e := [(2, (Value.pointer (some ⟨b1, 0, none⟩))), (3, (Value.pointer (some ⟨b2, 0, none⟩)))]) ⟨rfl, rfl, trivial⟩ ?_
    refine c_seq ?_
    refine c_seq ?_
    refine c_region rfl ?_
    refine s_q rfl rfl (y_fieldAddr rfl (ev_tmp rfl rfl) Tryd.underlying23 rfl size_2 rfl) ?_
    refine s_q rfl rfl (y_load1 (v := (Value.int .i64 v1.N)) rfl (ev_tmp rfl rfl) Tryd.underlying2 rfl (hI.kblk (l := [(Value.int .i64 v1.N)]) .z rfl).1) ?_
    refine s_q rfl rfl (y_gtr rfl (ev_tmp rfl rfl) ev_const) ?_
    refine s_q rfl rfl (y_move rfl (ev_tmp rfl rfl)) ?_
    refine s_gval (g_false rfl rfl rfl rfl) rfl (fun hc => (y_fieldAddr rfl (ev_tmp rfl rfl) Tryd.underlying23 rfl size_2 rfl)) ?_
    refine s_gval (g_false rfl rfl rfl rfl) rfl (fun hc => (y_load1 (v := (Value.int .i64 v1.N)) rfl (ev_gv (ev_tmp rfl rfl) hc) Tryd.underlying2 rfl (hI.kblk (l := [(Value.int .i64 v1.N)]) .z rfl).1)) ?_
    refine s_gval (g_false rfl rfl rfl rfl) rfl (fun hc => (y_lss rfl (ev_gv (ev_tmp rfl rfl) hc) ev_const)) ?_
    refine s_q rfl rfl (y_or rfl (ev_tmp rfl rfl) (ev_tmp rfl rfl)) ?_
    refine s_q rfl rfl (y_move rfl (ev_tmp rfl rfl)) ?_
    refine s_gval (g_false rfl rfl rfl rfl) rfl (fun hc => (y_fieldAddr rfl (ev_tmp rfl rfl) Tryd.underlying23 rfl size_2 rfl)) ?_
    refine s_gval (g_false rfl rfl rfl rfl) rfl (fun hc => (y_load1 (v := (Value.int .i64 v1.D)) rfl (ev_gv (ev_tmp rfl rfl) hc) Tryd.underlying2 rfl (hI.kblk (l := [(Value.int .i64 v1.D)]) .z rfl).1)) ?_
    refine s_gval (g_false rfl rfl rfl rfl) rfl (fun hc => (y_lss rfl (ev_gv (ev_tmp rfl rfl) hc) ev_const)) ?_
    refine s_q rfl rfl (y_or rfl (ev_tmp rfl rfl) (ev_tmp rfl rfl)) ?_
    refine s_q rfl rfl (y_move rfl (ev_tmp rfl rfl)) ?_
    refine s_gval (g_false rfl rfl rfl rfl) rfl (fun hc => (y_fieldAddr rfl (ev_tmp rfl rfl) Tryd.underlying23 rfl size_2 rfl)) ?_
    refine s_gval (g_false rfl rfl rfl rfl) rfl (fun hc => (y_load1 (v := (Value.int .i64 v1.D)) rfl (ev_gv (ev_tmp rfl rfl) hc) Tryd.underlying2 rfl (hI.kblk (l := [(Value.int .i64 v1.D)]) .z rfl).1)) ?_
    refine s_gval (g_false rfl rfl rfl rfl) rfl (fun hc => (y_gtr rfl (ev_gv (ev_tmp rfl rfl) hc) ev_const)) ?_
    refine s_q rfl rfl (y_or rfl (ev_tmp rfl rfl) (ev_tmp rfl rfl)) ?_
    refine s_nil ?_
    refine k_next (e := [(2, (Value.pointer (some ⟨b1, 0, none⟩))), (3, (Value.pointer (some ⟨b2, 0, none⟩))), (46, (Value.bool ((((decide (2147483647 < v1.N)) || (decide (v1.N < (-2147483647)))) || (decide (v1.D < 1))) || (decide (2147483647 < v1.D)))))]) ⟨rfl, rfl, rfl, trivial⟩ ?_
    refine c_cond (b := (((decide (2147483647 < v1.N)) || (decide (v1.N < (-2147483647)))) || (decide (v1.D < 1))) || (decide (2147483647 < v1.D))) (ev_tmp rfl rfl) (fun hb => ?_) (fun hb => ?_)
    · replace h := ite_t hb h
      refine c_seq ?_
      refine c_region rfl ?_
      refine s_q rfl rfl (y_assign rfl ev_const) ?_
      refine s_nil ?_
      refine k_next (e := [(4, (Value.bool false))]) ⟨rfl, trivial⟩ ?_
      refine c_ret ?_
      obtain rfl := some_inj h
      exact q_ret (vs := [(Value.bool false)]) Tryd.results44 ⟨ev_tmp rfl rfl, trivial⟩ ⟨rfl, hI.ext0, hI.fin trivial⟩
    · replace h := ite_f hb h
      refine c_skip ?_
      refine k_next (e := [(2, (Value.pointer (some ⟨b1, 0, none⟩))), (3, (Value.pointer (some ⟨b2, 0, none⟩)))]) ⟨rfl, rfl, trivial⟩ ?_
      refine c_seq ?_
      refine c_seq ?_
      refine c_region rfl ?_
      refine s_q rfl rfl (y_fieldAddr rfl (ev_tmp rfl rfl) Tryd.underlying51 rfl size_3 rfl) ?_
      refine s_q rfl rfl (y_load1 (v := (Value.int .i64 t1.Kind)) rfl (ev_tmp rfl rfl) Tryd.underlying3 rfl (hI.kblk (l := [(Value.int .i64 t1.Kind)]) (.s .z) rfl).1) ?_
      refine s_q rfl rfl (y_eql rfl (ev_tmp rfl rfl) ev_const) ?_
      refine s_nil ?_
      refine k_next (e := [(3, (Value.pointer (some ⟨b2, 0, none⟩))), (49, (Value.bool (decide (t1.Kind = 3))))]) ⟨rfl, rfl, trivial⟩ ?_
      refine c_cond (b := decide (t1.Kind = 3)) (ev_tmp rfl rfl) (fun hb => ?_) (fun hb => ?_)
      · replace h := ite_t hb h
        refine c_seq ?_
        refine c_region rfl ?_
        refine s_q rfl rfl (y_fieldAddr rfl (ev_tmp rfl rfl) Tryd.underlying23 rfl size_2 rfl) ?_
        refine s_q rfl rfl (y_load1 (v := (Value.int .i64 v1.D)) rfl (ev_tmp rfl rfl) Tryd.underlying2 rfl (hI.kblk (l := [(Value.int .i64 v1.D)]) .z rfl).1) ?_
        refine s_q rfl rfl (y_eql rfl (ev_tmp rfl rfl) ev_const) ?_
        refine s_q rfl rfl (y_assign rfl (ev_tmp rfl rfl)) ?_
        refine s_nil ?_
        refine k_next (e := [(4, (Value.bool (decide (v1.D = 1))))]) ⟨rfl, trivial⟩ ?_
        refine c_ret ?_
        obtain rfl := some_inj h
        exact q_ret (vs := [(Value.bool (decide (v1.D = 1)))]) Tryd.results44 ⟨ev_tmp rfl rfl, trivial⟩ ⟨rfl, hI.ext0, hI.fin trivial⟩
      · replace h := ite_f hb h
        refine c_skip ?_
        refine k_next (e := [(3, (Value.pointer (some ⟨b2, 0, none⟩)))]) ⟨rfl, trivial⟩ ?_
        refine c_seq ?_
        refine c_region rfl ?_
        refine s_q rfl rfl (y_fieldAddr rfl (ev_tmp rfl rfl) Tryd.underlying23 rfl size_2 rfl) ?_
        refine s_q rfl rfl (y_load1 (v := (Value.int .i64 v1.N)) rfl (ev_tmp rfl rfl) Tryd.underlying2 rfl (hI.kblk (l := [(Value.int .i64 v1.N)]) .z rfl).1) ?_
        refine s_q rfl rfl (y_fieldAddr rfl (ev_tmp rfl rfl) Tryd.underlying23 rfl size_2 rfl) ?_
        refine s_q rfl rfl (y_load1 (v := (Value.int .i64 v1.N)) rfl (ev_tmp rfl rfl) Tryd.underlying2 rfl (hI.kblk (l := [(Value.int .i64 v1.N)]) .z rfl).1) ?_
        refine s_q rfl rfl (y_neg rfl (ev_tmp rfl rfl)) ?_
        refine s_q rfl rfl (y_max rfl (ev_tmp rfl rfl) (ev_tmp rfl rfl)) ?_
        refine s_q rfl rfl (y_fieldAddr rfl (ev_tmp rfl rfl) Tryd.underlying23 rfl size_2 rfl) ?_
        refine s_q rfl rfl (y_load1 (v := (Value.int .i64 v1.D)) rfl (ev_tmp rfl rfl) Tryd.underlying2 rfl (hI.kblk (l := [(Value.int .i64 v1.D)]) .z rfl).1) ?_
        obtain ⟨r1, hx2, h⟩ := bnd_some h
        refine s_call rfl rfl (r_callF (vs := [(Value.int .i64 (max v1.N (wi64 (-v1.N)))), (Value.int .i64 v1.D)]) rfl ok_68 ⟨(ev_tmp rfl rfl), ⟨(ev_tmp rfl rfl), trivial⟩⟩) (Calls.mono (c_base_gcd (Dj F c4) w2 hI.lt (max v1.N (wi64 (-v1.N))) v1.D trivial r1 hx2) ?_)
        rintro _ w3 ⟨rfl, hx3, hl1⟩
        refine ⟨_, rfl, ?_⟩
        replace hI := (hI.ext hx3)
        refine s_q rfl rfl (y_eql rfl (ev_tmp rfl rfl) ev_const) ?_
        refine s_q rfl rfl (y_assign rfl (ev_tmp rfl rfl)) ?_
        refine s_nil ?_
        refine k_next (e := [(4, (Value.bool (decide (r1 = 1))))]) ⟨rfl, trivial⟩ ?_
        refine c_ret ?_
        obtain rfl := some_inj h
        exact q_ret (vs := [(Value.bool (decide (r1 = 1)))]) Tryd.results44 ⟨ev_tmp rfl rfl, trivial⟩ ⟨rfl, hI.ext0, hI.fin trivial⟩

set_option maxRecDepth 100000 in
set_option maxHeartbeats 4000000 in
theorem c_ref01_Valid (F : NP) (w0 : World) (hF : ∀ k, F k → k < w0.heap.size) (v1 : GVal) (hc : AllCl [] F w0) (r : Bool)
    (h : m_ref01_Valid v1 = some r) :
    Calls Tryd.prog 15 #[(Value.agg #[(Value.int .i64 v1.N), (Value.int .i64 v1.D)])] w0 fun e w => e = .returned (Value.bool r) ∧ Ext w0 w ∧ AllCl [] F w := by
  refine ofEnter (R := fun v w => v = (Value.bool r) ∧ Ext w0 w ∧ AllCl [] F w) (enter (l := [(Value.agg #[(Value.int .i64 v1.N), (Value.int .i64 v1.D)])]) Tryd.func15 rfl Tryd.ntmps15 rfl ?_) ?_
  rotate_left
  · rintro _ w ⟨rfl, k1, k2⟩; exact ⟨rfl, k1, k2⟩
  have hI := Bun.start hF hc
  clear hc
  rw [m_ref01_Valid] at h
  refine c_seq ?_
  refine c_region rfl ?_
  refine l_box (v := (Value.agg #[(Value.int .i64 v1.N), (Value.int .i64 v1.D)])) (cs := #[(Value.int .i64 v1.N), (Value.int .i64 v1.D)]) hI rfl rfl rfl (ev_tmp rfl rfl) rfl ?_
  clear hI; intro b1 c1 w1 hI
  obtain ⟨c2, hI⟩ := hI.relBox .z
  refine s_q rfl rfl (y_assign rfl ev_const) ?_
  refine s_nil ?_
  refine k_next (e := [(1, (Value.pointer (some ⟨b1, 0, none⟩)))]) ⟨rfl, trivial⟩ ?_
  refine c_seq ?_
  refine c_region rfl ?_
  refine s_q rfl rfl (y_build (vs := [(0, (Value.int .i64 1))]) (cs := #[(Value.int .i64 1), (Value.int .i64 0), (Value.int .i64 0), (Value.int .i64 0), (Value.int .i64 0)]) rfl ⟨rfl, ev_const, trivial⟩ (by kernel_rfl)) ?_
  refine s_q rfl rfl (y_loadN (l := [(Value.int .i64 v1.N), (Value.int .i64 v1.D)]) rfl (ev_tmp rfl rfl) Tryd.underlying23 rfl size_23 (hI.kblk (l := [(Value.int .i64 v1.N), (Value.int .i64 v1.D)]) .z rfl).1) ?_
  obtain ⟨r1, hx1, h⟩ := bnd_some h
  refine s_call rfl rfl (r_callF (vs := [(Value.agg #[(Value.int .i64 1), (Value.int .i64 0), (Value.int .i64 0), (Value.int .i64 0), (Value.int .i64 0)]), (Value.agg #[(Value.int .i64 v1.N), (Value.int .i64 v1.D)])]) rfl ok_44 ⟨(ev_tmp rfl rfl), ⟨(ev_tmp rfl rfl), trivial⟩⟩) (Calls.mono (c_base_Val (Dj F c2) w1 hI.lt (⟨1, 0, 0, 0, 0⟩ : GType) v1 trivial r1 hx1) ?_)
  rintro _ w2 ⟨rfl, hx2, hl1⟩
  refine ⟨_, rfl, ?_⟩
  replace hI := (hI.ext hx2)
  refine s_q rfl rfl (y_assign rfl (ev_tmp rfl rfl)) ?_
  refine s_nil ?_
  refine k_next (e := [(2, (Value.bool r1))]) ⟨rfl, trivial⟩ ?_
  refine c_ret ?_
  obtain rfl := some_inj h
  exact q_ret (vs := [(Value.bool r1)]) Tryd.results15 ⟨ev_tmp rfl rfl, trivial⟩ ⟨rfl, hI.ext0, hI.fin trivial⟩

set_option maxRecDepth 100000 in
set_option maxHeartbeats 4000000 in
theorem c_frac_Add (F : NP) (w0 : World) (hF : ∀ k, F k → k < w0.heap.size) (a1 : GVal) (b1 : GVal) (hc : AllCl [] F w0) (r : GVal × Int)
    (h : m_frac_Add a1 b1 = some r) :
    Calls Tryd.prog 26 #[(Value.agg #[(Value.int .i64 a1.N), (Value.int .i64 a1.D)]), (Value.agg #[(Value.int .i64 b1.N), (Value.int .i64 b1.D)])] w0 fun e w => e = .returned (Value.tuple #[(Value.agg #[(Value.int .i64 r.1.N), (Value.int .i64 r.1.D)]), (Value.int .i64 r.2)]) ∧ Ext w0 w ∧ AllCl [] F w := by
  refine ofEnter (R := fun v w => v = (Value.tuple #[(Value.agg #[(Value.int .i64 r.1.N), (Value.int .i64 r.1.D)]), (Value.int .i64 r.2)]) ∧ Ext w0 w ∧ AllCl [] F w) (enter (l := [(Value.agg #[(Value.int .i64 a1.N), (Value.int .i64 a1.D)]), (Value.agg #[(Value.int .i64 b1.N), (Value.int .i64 b1.D)])]) Tryd.func26 rfl Tryd.ntmps26 rfl ?_) ?_
  rotate_left
  · rintro _ w ⟨rfl, k1, k2⟩; exact ⟨rfl, k1, k2⟩
  have hI := Bun.start hF hc
  clear hc
  rw [m_frac_Add] at h
  refine c_seq ?_
  refine c_region rfl ?_
  refine l_box (v := (Value.agg #[(Value.int .i64 a1.N), (Value.int .i64 a1.D)])) (cs := #[(Value.int .i64 a1.N), (Value.int .i64 a1.D)]) hI rfl rfl rfl (ev_tmp rfl rfl) rfl ?_
  clear hI; intro b2 c1 w1 hI
  obtain ⟨c2, hI⟩ := hI.relBox .z
  refine l_box (v := (Value.agg #[(Value.int .i64 b1.N), (Value.int .i64 b1.D)])) (cs := #[(Value.int .i64 b1.N), (Value.int .i64 b1.D)]) hI rfl rfl rfl (ev_tmp rfl rfl) rfl ?_
  clear hI; intro b3 c3 w2 hI
  obtain ⟨c4, hI⟩ := hI.relBox .z
  refine l_alloc (cs := #[(Value.int .i64 0), (Value.int .i64 0)]) hI rfl rfl rfl zero_23 rfl ?_
  clear hI; intro b4 c5 w3 hI
  refine s_q rfl rfl (y_assign rfl ev_const) ?_
  refine s_nil ?_
  refine k_next (e := [(2, (Value.pointer (some ⟨b2, 0, none⟩))), (3, (Value.pointer (some ⟨b3, 0, none⟩))), (4, (Value.pointer (some ⟨b4, 0, none⟩)))]) ⟨rfl, rfl, rfl, trivial⟩ ?_
  refine c_seq ?_
  refine c_seq ?_
  refine c_region rfl ?_
  refine s_q rfl rfl (y_loadN (l := [(Value.int .i64 a1.N), (Value.int .i64 a1.D)]) rfl (ev_tmp rfl rfl) Tryd.underlying23 rfl size_23 (hI.kblk (l := [(Value.int .i64 a1.N), (Value.int .i64 a1.D)]) (.s .z) rfl).1) ?_
  obtain ⟨r1, hx1, h⟩ := bnd_some h
  refine s_call rfl rfl (r_callF (vs := [(Value.agg #[(Value.int .i64 a1.N), (Value.int .i64 a1.D)])]) rfl ok_14 ⟨(ev_tmp rfl rfl), trivial⟩) (Calls.mono (c_frac_Valid (Dj F c5) w3 hI.lt a1 trivial r1 hx1) ?_)
  rintro _ w4 ⟨rfl, hx2, hl1⟩
  refine ⟨_, rfl, ?_⟩
  replace hI := (hI.ext hx2)
  refine s_q rfl rfl (y_not rfl (ev_tmp rfl rfl)) ?_
  refine s_q rfl rfl (y_move rfl (ev_tmp rfl rfl)) ?_
  refine s_gval (g_false rfl rfl rfl rfl) rfl (fun hc => (y_loadN (l := [(Value.int .i64 b1.N), (Value.int .i64 b1.D)]) rfl (ev_tmp rfl rfl) Tryd.underlying23 rfl size_23 (hI.kblk (l := [(Value.int .i64 b1.N), (Value.int .i64 b1.D)]) .z rfl).1)) ?_
  obtain ⟨r2, hx3, h⟩ := bnd_some h
  replace hx3 := gd_some hx3
  refine s_gcallU (v := (Value.bool r2)) (g_false rfl rfl rfl rfl) rfl (fun hc => (r_callF (vs := [(Value.agg #[(Value.int .i64 b1.N), (Value.int .i64 b1.D)])]) rfl ok_14 ⟨(ev_gv (ev_tmp rfl rfl) hc), trivial⟩)) (fun hc => (c_frac_Valid (Dj F c5) w4 hI.lt b1 trivial r2 (hx3 hc)).mono fun _ _ k => ⟨k.1, k.2.1⟩) ?_
  intro w5 hx4; replace hI := hI.ext hx4
  refine s_gval (g_false rfl rfl rfl rfl) rfl (fun hc => (y_not rfl (ev_gv (ev_tmp rfl rfl) hc))) ?_
  refine s_q rfl rfl (y_or rfl (ev_tmp rfl rfl) (ev_tmp rfl rfl)) ?_
  refine s_nil ?_
  refine k_next (e := [(2, (Value.pointer (some ⟨b2, 0, none⟩))), (3, (Value.pointer (some ⟨b3, 0, none⟩))), (4, (Value.pointer (some ⟨b4, 0, none⟩))), (13, (Value.bool ((!r1) || (!r2))))]) ⟨rfl, rfl, rfl, rfl, trivial⟩ ?_
  refine c_cond (b := (!r1) || (!r2)) (ev_tmp rfl rfl) (fun hb => ?_) (fun hb => ?_)
  · replace h := ite_t hb h
    refine c_seq ?_
    refine c_region rfl ?_
    refine s_q rfl rfl (y_build (vs := []) (cs := #[(Value.int .i64 0), (Value.int .i64 0)]) rfl trivial (by kernel_rfl)) ?_
    refine l_store (new := [(Value.int .i64 0), (Value.int .i64 0)]) (cs' := #[(Value.int .i64 0), (Value.int .i64 0)]) hI .z rfl rfl rfl (ev_tmp rfl rfl) (ev_tmp rfl rfl) rfl size_23 rfl rfl rfl ?_
    clear hI; intro c6 w6 hI
    refine s_q rfl rfl (y_assign rfl ev_const) ?_
    refine s_nil ?_
    refine k_next (e := [(4, (Value.pointer (some ⟨b4, 0, none⟩))), (5, (Value.int .i64 1))]) ⟨rfl, rfl, trivial⟩ ?_
    refine c_ret ?_
    obtain rfl := some_inj h
    exact q_ret (vs := [(Value.agg #[(Value.int .i64 0), (Value.int .i64 0)]), (Value.int .i64 1)]) Tryd.results26 ⟨⟨_, ev_tmp rfl rfl, load_agg (l := [(Value.int .i64 0), (Value.int .i64 0)]) Tryd.underlying23 rfl size_23 (CellsAt.of_blk (hI.blk .z) rfl)⟩, ⟨ev_tmp rfl rfl, trivial⟩⟩ ⟨rfl, hI.ext0, hI.fin trivial⟩
  · replace h := ite_f hb h
    refine c_skip ?_
    refine k_next (e := [(2, (Value.pointer (some ⟨b2, 0, none⟩))), (3, (Value.pointer (some ⟨b3, 0, none⟩))), (4, (Value.pointer (some ⟨b4, 0, none⟩)))]) ⟨rfl, rfl, rfl, trivial⟩ ?_
    refine c_seq ?_
    refine c_region rfl ?_
    refine s_q rfl rfl (y_fieldAddr rfl (ev_tmp rfl rfl) Tryd.underlying23 rfl size_2 rfl) ?_
    refine s_q rfl rfl (y_load1 (v := (Value.int .i64 a1.N)) rfl (ev_tmp rfl rfl) Tryd.underlying2 rfl (hI.kblk (l := [(Value.int .i64 a1.N)]) (.s .z) rfl).1) ?_
    refine s_q rfl rfl (y_fieldAddr rfl (ev_tmp rfl rfl) Tryd.underlying23 rfl size_2 rfl) ?_
    refine s_q rfl rfl (y_load1 (v := (Value.int .i64 b1.D)) rfl (ev_tmp rfl rfl) Tryd.underlying2 rfl (hI.kblk (l := [(Value.int .i64 b1.D)]) .z rfl).1) ?_
    refine s_q rfl rfl (y_mul rfl (ev_tmp rfl rfl) (ev_tmp rfl rfl)) ?_
    refine s_q rfl rfl (y_fieldAddr rfl (ev_tmp rfl rfl) Tryd.underlying23 rfl size_2 rfl) ?_
    refine s_q rfl rfl (y_load1 (v := (Value.int .i64 b1.N)) rfl (ev_tmp rfl rfl) Tryd.underlying2 rfl (hI.kblk (l := [(Value.int .i64 b1.N)]) .z rfl).1) ?_
    refine s_q rfl rfl (y_fieldAddr rfl (ev_tmp rfl rfl) Tryd.underlying23 rfl size_2 rfl) ?_
    refine s_q rfl rfl (y_load1 (v := (Value.int .i64 a1.D)) rfl (ev_tmp rfl rfl) Tryd.underlying2 rfl (hI.kblk (l := [(Value.int .i64 a1.D)]) (.s .z) rfl).1) ?_
    refine s_q rfl rfl (y_mul rfl (ev_tmp rfl rfl) (ev_tmp rfl rfl)) ?_
    refine s_q rfl rfl (y_add rfl (ev_tmp rfl rfl) (ev_tmp rfl rfl)) ?_
    refine s_q rfl rfl (y_fieldAddr rfl (ev_tmp rfl rfl) Tryd.underlying23 rfl size_2 rfl) ?_
    refine s_q rfl rfl (y_load1 (v := (Value.int .i64 a1.D)) rfl (ev_tmp rfl rfl) Tryd.underlying2 rfl (hI.kblk (l := [(Value.int .i64 a1.D)]) (.s .z) rfl).1) ?_
    refine s_q rfl rfl (y_fieldAddr rfl (ev_tmp rfl rfl) Tryd.underlying23 rfl size_2 rfl) ?_
    refine s_q rfl rfl (y_load1 (v := (Value.int .i64 b1.D)) rfl (ev_tmp rfl rfl) Tryd.underlying2 rfl (hI.kblk (l := [(Value.int .i64 b1.D)]) .z rfl).1) ?_
    refine s_q rfl rfl (y_mul rfl (ev_tmp rfl rfl) (ev_tmp rfl rfl)) ?_
    obtain ⟨r3, hx5, h⟩ := bnd_some h
    refine s_call rfl rfl (r_callF (vs := [(Value.int .i64 (wi64 ((wi64 (a1.N * b1.D)) + (wi64 (b1.N * a1.D))))), (Value.int .i64 (wi64 (a1.D * b1.D)))]) rfl ok_12 ⟨(ev_tmp rfl rfl), ⟨(ev_tmp rfl rfl), trivial⟩⟩) (Calls.mono (c_frac_New (Dj F c5) w5 hI.lt (wi64 ((wi64 (a1.N * b1.D)) + (wi64 (b1.N * a1.D)))) (wi64 (a1.D * b1.D)) trivial r3 hx5) ?_)
    rintro _ w7 ⟨rfl, hx6, hl3⟩
    refine ⟨_, rfl, ?_⟩
    replace hI := (hI.ext hx6)
    refine s_q rfl rfl (y_extract rfl (ev_tmp rfl rfl) rfl) ?_
    refine s_q rfl rfl (y_extract rfl (ev_tmp rfl rfl) rfl) ?_
    refine l_store (new := [(Value.int .i64 r3.1.N), (Value.int .i64 r3.1.D)]) (cs' := #[(Value.int .i64 r3.1.N), (Value.int .i64 r3.1.D)]) hI .z rfl rfl rfl (ev_tmp rfl rfl) (ev_tmp rfl rfl) rfl size_23 rfl rfl rfl ?_
    clear hI; intro c7 w8 hI
    refine s_q rfl rfl (y_assign rfl (ev_tmp rfl rfl)) ?_
    refine s_nil ?_
    refine k_next (e := [(4, (Value.pointer (some ⟨b4, 0, none⟩))), (5, (Value.int .i64 r3.2))]) ⟨rfl, rfl, trivial⟩ ?_
    refine c_ret ?_
    obtain rfl := some_inj h
    exact q_ret (vs := [(Value.agg #[(Value.int .i64 r3.1.N), (Value.int .i64 r3.1.D)]), (Value.int .i64 r3.2)]) Tryd.results26 ⟨⟨_, ev_tmp rfl rfl, load_agg (l := [(Value.int .i64 r3.1.N), (Value.int .i64 r3.1.D)]) Tryd.underlying23 rfl size_23 (CellsAt.of_blk (hI.blk .z) rfl)⟩, ⟨ev_tmp rfl rfl, trivial⟩⟩ ⟨rfl, hI.ext0, hI.fin trivial⟩

set_option maxRecDepth 100000 in
set_option maxHeartbeats 4000000 in
theorem c_frac_nat_norm (F : NP) (w0 : World) (hF : ∀ k, F k → k < w0.heap.size) (a1 : List Int) (a2 : Option Addr) (c1 : Nat) (hc : AllCl [Cl.sl (cInt .u32) a2 c1 a1] F w0) (r : List Int)
    (h : m_frac_nat_norm a1 = some r) :
    Calls Tryd.prog 69 #[(Value.slice a2 a1.length c1)] w0 fun e w => ∃ (a3 : Option Addr) (c2 : Nat), e = .returned (Value.slice a3 r.length c2) ∧ Ext w0 w ∧ AllCl [Cl.sl (cInt .u32) a3 c2 r] F w := by
  refine ofEnter (R := fun v w => ∃ (a3 : Option Addr) (c2 : Nat), v = (Value.slice a3 r.length c2) ∧ Ext w0 w ∧ AllCl [Cl.sl (cInt .u32) a3 c2 r] F w) (enter (l := [(Value.slice a2 a1.length c1)]) Tryd.func69 rfl Tryd.ntmps69 rfl ?_) ?_
  rotate_left
  · rintro _ w ⟨a3, c2, rfl, k1, k2⟩; exact ⟨a3, c2, rfl, k1, k2⟩
  have hI := Bun.start hF hc
  clear hc
  rw [m_frac_nat_norm] at h
  refine c_seq ?_
  refine c_region rfl ?_
  refine s_q rfl rfl (y_assign rfl ev_const) ?_
  refine s_nil ?_
  refine k_next (e := [(0, (Value.slice a2 a1.length c1))]) ⟨rfl, trivial⟩ ?_
  refine c_seq ?_
  refine c_block ?_
  refine c_loop (α := Nat × (List Int) × (Option Addr) × Nat) (fun x => fun w => ∃ C, Bun noM F w0 C w [] [Cl.sl (cInt .u32) (x.2.2.1) (x.2.2.2) (x.2.1)] ∧ m_frac_nat_norm_l1 (x.1) (x.2.1) = some r) (fun x _ => x.1) (fun x => [(0, (Value.slice (x.2.2.1) (x.2.1).length (x.2.2.2)))]) (fu, a1, a2, c1) ⟨_, hI.arr .n ⟨.z, trivial⟩, h⟩ ⟨rfl, trivial⟩ ?_
  clear h hI; rintro ⟨fuel1, a4, a5, c3⟩ w1 ⟨c4, hI, h⟩
  dsimp only at hI h
  rcases fuel1 with _ | fuel1
  · rw [m_frac_nat_norm_l1] at h; cases h
  rw [m_frac_nat_norm_l1] at h
  refine c_sub (e := [(0, (Value.slice a5 a4.length c3))]) ⟨rfl, trivial⟩ ?_
  refine c_seq ?_
  refine c_seq ?_
  refine c_region rfl ?_
  refine s_q rfl rfl (y_move rfl (ev_tmp rfl rfl)) ?_
  refine s_q rfl rfl (y_lenl rfl Tryd.underlying53 (ev_tmp rfl rfl)) ?_
  refine s_q rfl rfl (y_gtr rfl (ev_tmp rfl rfl) ev_const) ?_
  refine s_q rfl rfl (y_move rfl (ev_tmp rfl rfl)) ?_
  refine s_gval (g_true rfl rfl rfl rfl) rfl (fun hc => (y_move rfl (ev_tmp rfl rfl))) ?_
  refine s_gval (g_true rfl rfl rfl rfl) rfl (fun hc => (y_move rfl (ev_tmp rfl rfl))) ?_
  refine s_gval (g_true rfl rfl rfl rfl) rfl (fun hc => (y_lenl rfl Tryd.underlying53 (ev_gv (ev_tmp rfl rfl) hc))) ?_
  refine s_gval (g_true rfl rfl rfl rfl) rfl (fun hc => (y_sub rfl (ev_gv (ev_tmp rfl rfl) hc) ev_const)) ?_
  obtain ⟨e1, hx1, h⟩ := bnd_some h
  replace hx1 := gd_some hx1
  obtain ⟨ad1, cs1, hq1⟩ := hI.gclat .z hx1
  have hq2 : (decide (0 < (a4.length : Int))) = true → CA (Dj F c4) w1 (ad1.add (Int.toNat (wi64 ((a4.length : Int) - 1)) * 1)) [(Value.int .u32 e1)] := fun hc => by have k := hq1 hc; have e : cs1 = _ := k.2.1; rw [← e]; exact k.2.2
  refine s_gval (g_true rfl rfl rfl rfl) rfl (fun hc => (y_indexAddr rfl Tryd.underlying53 size_54 (ev_gv (ev_tmp rfl rfl) hc) (ev_gv (ev_tmp rfl rfl) hc) (lat_bd (hx1 hc)) (hq1 hc).1)) ?_
  refine s_gval (g_true rfl rfl rfl rfl) rfl (fun hc => (y_load1 (v := (Value.int .u32 e1)) rfl (ev_gv (ev_tmp rfl rfl) hc) Tryd.underlying54 rfl (hq2 hc).1)) ?_
  refine s_gval (g_true rfl rfl rfl rfl) rfl (fun hc => (y_eql rfl (ev_gv (ev_tmp rfl rfl) hc) ev_const)) ?_
  refine s_q rfl rfl (y_and rfl (ev_tmp rfl rfl) (ev_tmp rfl rfl)) ?_
  refine s_nil ?_
  refine k_next (e := [(0, (Value.slice a5 a4.length c3)), (14, (Value.bool ((decide (0 < (a4.length : Int))) && (decide (e1 = 0)))))]) ⟨rfl, rfl, trivial⟩ ?_
  refine c_cond (b := (decide (0 < (a4.length : Int))) && (decide (e1 = 0))) (ev_tmp rfl rfl) (fun hb => ?_) (fun hb => ?_)
  · replace h := ite_t hb h
    refine c_skip ?_
    refine k_next (e := [(0, (Value.slice a5 a4.length c3))]) ⟨rfl, trivial⟩ ?_
    refine c_block ?_
    refine c_region rfl ?_
    refine s_q rfl rfl (y_move rfl (ev_tmp rfl rfl)) ?_
    refine s_q rfl rfl (y_move rfl (ev_tmp rfl rfl)) ?_
    refine s_q rfl rfl (y_lenl rfl Tryd.underlying53 (ev_tmp rfl rfl)) ?_
    refine s_q rfl rfl (y_sub rfl (ev_tmp rfl rfl) ev_const) ?_
    obtain ⟨zs1, hx2, h⟩ := bnd_some h
    refine s_q rfl rfl (y_lupto rfl Tryd.underlying53 size_54 (ev_tmp rfl rfl) (ev_tmp rfl rfl) hx2 (hI.cap_ .z)) ?_
    replace hI := hI.upto .z hx2
    refine s_q rfl rfl (y_assign rfl (ev_tmp rfl rfl)) ?_
    refine s_nil ?_
    exact k_loop (fuel1, zs1, a5, c3) ⟨rfl, trivial⟩ ⟨_, hI.arr .n ⟨.z, trivial⟩, h⟩ (Nat.lt_succ_self _)
  · replace h := ite_f hb h
    refine c_exit ?_
    refine k_in ?_
    refine k_next (e := [(0, (Value.slice a5 a4.length c3))]) ⟨rfl, trivial⟩ ?_
    refine c_seq ?_
    refine c_region rfl ?_
    refine s_q rfl rfl (y_move rfl (ev_tmp rfl rfl)) ?_
    refine s_q rfl rfl (y_assign rfl (ev_tmp rfl rfl)) ?_
    refine s_nil ?_
    refine k_next (e := [(2, (Value.slice a5 a4.length c3))]) ⟨rfl, trivial⟩ ?_
    refine c_ret ?_
    obtain rfl := some_inj h
    exact q_ret (vs := [(Value.slice a5 a4.length c3)]) Tryd.results69 ⟨ev_tmp rfl rfl, trivial⟩ ⟨a5, c3, rfl, hI.ext0, hI.fin ⟨.z, trivial⟩⟩

set_option maxRecDepth 100000 in
set_option maxHeartbeats 4000000 in
theorem c_frac_nat_div (F : NP) (w0 : World) (hF : ∀ k, F k → k < w0.heap.size) (a1 : List Int) (by1 : Int) (a2 : Option Addr) (c1 : Nat) (hc : AllCl [Cl.sl (cInt .u32) a2 c1 a1] F w0) (r : List Int × Int)
    (h : m_frac_nat_div a1 by1 = some r) :
    Calls Tryd.prog 46 #[(Value.slice a2 a1.length c1), (Value.int .u32 by1)] w0 fun e w => ∃ (a3 : Option Addr) (c2 : Nat), e = .returned (Value.tuple #[(Value.slice a3 r.1.length c2), (Value.int .u32 r.2)]) ∧ Ext w0 w ∧ AllCl [Cl.sl (cInt .u32) a3 c2 r.1] F w := by
  refine ofEnter (R := fun v w => ∃ (a3 : Option Addr) (c2 : Nat), v = (Value.tuple #[(Value.slice a3 r.1.length c2), (Value.int .u32 r.2)]) ∧ Ext w0 w ∧ AllCl [Cl.sl (cInt .u32) a3 c2 r.1] F w) (enter (l := [(Value.slice a2 a1.length c1), (Value.int .u32 by1)]) Tryd.func46 rfl Tryd.ntmps46 rfl ?_) ?_
  rotate_left
  · rintro _ w ⟨a3, c2, rfl, k1, k2⟩; exact ⟨a3, c2, rfl, k1, k2⟩
  have hI := Bun.start hF hc
  clear hc
  rw [m_frac_nat_div] at h
  refine c_seq ?_
  refine c_region rfl ?_
  refine s_q rfl rfl (y_assign rfl ev_const) ?_
  refine s_q rfl rfl (y_assign rfl ev_const) ?_
  refine s_nil ?_
  refine k_next (e := [(0, (Value.slice a2 a1.length c1)), (1, (Value.int .u32 by1))]) ⟨rfl, rfl, trivial⟩ ?_
  refine c_seq ?_
  refine c_region rfl ?_
  refine s_q rfl rfl (y_move rfl (ev_tmp rfl rfl)) ?_
  refine s_q rfl rfl (y_lenl rfl Tryd.underlying53 (ev_tmp rfl rfl)) ?_
  obtain ⟨zs1, hx1, h⟩ := bnd_some h
  refine l_make (c := (cInt .u32)) hI hx1 rfl rfl rfl Tryd.underlying53 info_54 rfl rfl (ev_tmp rfl rfl) (ev_tmp rfl rfl) rfl ?_
  clear hI; intro b1 c3 w1 hI
  refine s_q rfl rfl (y_assign rfl (ev_tmp rfl rfl)) ?_
  refine s_nil ?_
  refine k_next (e := [(0, (Value.slice a2 a1.length c1)), (1, (Value.int .u32 by1)), (6, (Value.slice (some ⟨b1, 0, none⟩) zs1.length (((a1.length : Int)).toNat)))]) ⟨rfl, rfl, rfl, trivial⟩ ?_
  refine c_seq ?_
  refine c_region rfl ?_
  refine s_q rfl rfl (y_assign rfl ev_const) ?_
  refine s_nil ?_
  refine k_next (e := [(0, (Value.slice a2 a1.length c1)), (1, (Value.int .u32 by1)), (6, (Value.slice (some ⟨b1, 0, none⟩) zs1.length (((a1.length : Int)).toNat))), (7, (Value.int .u64 0))]) ⟨rfl, rfl, rfl, rfl, trivial⟩ ?_
  refine c_seq ?_
  refine c_seq ?_
  refine c_region rfl ?_
  refine s_q rfl rfl (y_move rfl (ev_tmp rfl rfl)) ?_
  refine s_q rfl rfl (y_lenl rfl Tryd.underlying53 (ev_tmp rfl rfl)) ?_
  refine s_q rfl rfl (y_sub rfl (ev_tmp rfl rfl) ev_const) ?_
  obtain ⟨i1, hx2, h⟩ := bnd_some h
  refine s_q rfl rfl (binU (y_assign rfl (ev_tmp rfl rfl)) (congrArg (Value.int .i64) (some_inj hx2))) ?_
  refine s_nil ?_
  refine k_next (e := [(0, (Value.slice a2 a1.length c1)), (1, (Value.int .u32 by1)), (6, (Value.slice (some ⟨b1, 0, none⟩) zs1.length (((a1.length : Int)).toNat))), (7, (Value.int .u64 0)), (8, (Value.int .i64 i1))]) ⟨rfl, rfl, rfl, rfl, rfl, trivial⟩ ?_
  refine c_block ?_
  refine c_loop (α := Nat × (List Int) × Int × Int × (Option Addr) × Nat) (fun x => fun w => ∃ C, Bun noM F w0 C w [MO.row (cInt .u32) 54 (x.2.2.2.2.1) (x.2.2.2.2.2) (x.2.1)] [Cl.sl (cInt .u32) a2 c1 a1] ∧ m_frac_nat_div_l1 a1 by1 (x.1) (x.2.1) (x.2.2.1) (x.2.2.2.1) = some r) (fun x _ => x.1) (fun x => [(0, (Value.slice a2 a1.length c1)), (1, (Value.int .u32 by1)), (6, (Value.slice (x.2.2.2.2.1) (x.2.1).length (x.2.2.2.2.2))), (7, (Value.int .u64 (x.2.2.1))), (8, (Value.int .i64 (x.2.2.2.1)))]) (fu, zs1, 0, i1, some ⟨b1, 0, none⟩, ((a1.length : Int)).toNat) ⟨_, hI.arr (.c .z .n) ⟨.z, trivial⟩, h⟩ ⟨rfl, rfl, rfl, rfl, rfl, trivial⟩ ?_
  clear h hI; rintro ⟨fuel1, out1, rest1, i2, a4, c4⟩ w2 ⟨c5, hI, h⟩
  dsimp only at hI h
  rcases fuel1 with _ | fuel1
  · rw [m_frac_nat_div_l1] at h; cases h
  rw [m_frac_nat_div_l1] at h
  refine c_sub (e := [(0, (Value.slice a2 a1.length c1)), (1, (Value.int .u32 by1)), (6, (Value.slice a4 out1.length c4)), (7, (Value.int .u64 rest1)), (8, (Value.int .i64 i2))]) ⟨rfl, rfl, rfl, rfl, rfl, trivial⟩ ?_
  refine c_seq ?_
  refine c_seq ?_
  refine c_region rfl ?_
  refine s_q rfl rfl (y_move rfl (ev_tmp rfl rfl)) ?_
  refine s_q rfl rfl (y_geq rfl (ev_tmp rfl rfl) ev_const) ?_
  refine s_nil ?_
  refine k_next (e := [(0, (Value.slice a2 a1.length c1)), (1, (Value.int .u32 by1)), (6, (Value.slice a4 out1.length c4)), (7, (Value.int .u64 rest1)), (8, (Value.int .i64 i2)), (16, (Value.bool (decide (0 ≤ i2))))]) ⟨rfl, rfl, rfl, rfl, rfl, rfl, trivial⟩ ?_
  refine c_cond (b := decide (0 ≤ i2)) (ev_tmp rfl rfl) (fun hb => ?_) (fun hb => ?_)
  · replace h := ite_t hb h
    refine c_skip ?_
    refine k_next (e := [(0, (Value.slice a2 a1.length c1)), (1, (Value.int .u32 by1)), (6, (Value.slice a4 out1.length c4)), (7, (Value.int .u64 rest1)), (8, (Value.int .i64 i2))]) ⟨rfl, rfl, rfl, rfl, rfl, trivial⟩ ?_
    refine c_seq ?_
    refine c_block ?_
    refine c_seq ?_
    refine c_region rfl ?_
    refine s_q rfl rfl (y_move rfl (ev_tmp rfl rfl)) ?_
    refine s_q rfl rfl (y_shlc (s := 32) rfl (ev_tmp rfl rfl) ev_const (by decide) rfl) ?_
    refine s_q rfl rfl (y_move rfl (ev_tmp rfl rfl)) ?_
    refine s_q rfl rfl (y_move rfl (ev_tmp rfl rfl)) ?_
    obtain ⟨e1, hx3, h⟩ := bnd_some h
    obtain ⟨ad1, cs1, hA1, hr1, hq1⟩ := hI.clat .z hx3
    obtain rfl : cs1 = [(Value.int .u32 e1)] := hr1
    refine s_q rfl rfl (y_indexAddr rfl Tryd.underlying53 size_54 (ev_tmp rfl rfl) (ev_tmp rfl rfl) (lat_bd hx3) hA1) ?_
    refine s_q rfl rfl (y_load1 (v := (Value.int .u32 e1)) rfl (ev_tmp rfl rfl) Tryd.underlying54 rfl hq1.1) ?_
    refine s_q rfl rfl (y_conv rfl (by rw [Tryd.underlying54]; rfl) Tryd.underlying44 (ev_tmp rfl rfl)) ?_
    refine s_q rfl rfl (y_bits rfl (ev_tmp rfl rfl) (ev_tmp rfl rfl) rfl) ?_
    obtain ⟨rest2, hx4, h⟩ := bnd_some h
    refine s_q rfl rfl (binU (y_assign rfl (ev_tmp rfl rfl)) (congrArg (Value.int .u64) (some_inj hx4))) ?_
    refine s_nil ?_
    refine k_next (e := [(0, (Value.slice a2 a1.length c1)), (1, (Value.int .u32 by1)), (6, (Value.slice a4 out1.length c4)), (7, (Value.int .u64 rest2)), (8, (Value.int .i64 i2))]) ⟨rfl, rfl, rfl, rfl, rfl, trivial⟩ ?_
    refine c_seq ?_
    refine c_region rfl ?_
    refine s_q rfl rfl (y_move rfl (ev_tmp rfl rfl)) ?_
    refine s_q rfl rfl (y_move rfl (ev_tmp rfl rfl)) ?_
    refine s_q rfl rfl (y_move rfl (ev_tmp rfl rfl)) ?_
    refine s_q rfl rfl (y_move rfl (ev_tmp rfl rfl)) ?_
    refine s_q rfl rfl (y_conv rfl (by rw [Tryd.underlying54]; rfl) Tryd.underlying44 (ev_tmp rfl rfl)) ?_
    obtain ⟨ho1, h⟩ := chk_some h
    refine s_q rfl rfl (y_quo rfl (ev_tmp rfl rfl) (ev_tmp rfl rfl) ho1) ?_
    refine s_q rfl rfl (y_conv rfl (by rw [Tryd.underlying44]; rfl) Tryd.underlying54 (ev_tmp rfl rfl)) ?_
    obtain ⟨ho2, h⟩ := chk_some h
    obtain ⟨ad2, hA2⟩ := hI.addr .z ho2
    refine s_q rfl rfl (y_indexAddr rfl Tryd.underlying53 size_54 (ev_tmp rfl rfl) (ev_tmp rfl rfl) ho2 hA2) ?_
    refine l_storeRow (new := [(Value.int .u32 (wu32 (wu64 (Int.tdiv rest2 (wu64 by1)))))]) (off := 0) (x' := wu32 (wu64 (Int.tdiv rest2 (wu64 by1)))) hI .z rfl rfl rfl (by have := ho2; omega) hA2 rfl (ev_tmp rfl rfl) (ev_tmp rfl rfl) rfl size_54 rfl (by show 0 + 1 ≤ 1; omega) (fun _ cs0 _ hr0 => by rw [spl_full (by have e := Cod.len _ hr0; exact e)]; exact rfl) ?_
    clear hI; intro c6 w3 hI
    refine s_nil ?_
    refine k_next (e := [(0, (Value.slice a2 a1.length c1)), (1, (Value.int .u32 by1)), (6, (Value.slice a4 (out1.set (Int.toNat i2) (wu32 (wu64 (Int.tdiv rest2 (wu64 by1))))).length c4)), (7, (Value.int .u64 rest2)), (8, (Value.int .i64 i2))]) ⟨rfl, rfl, (lookset rfl), rfl, rfl, trivial⟩ ?_
    refine c_region rfl ?_
    refine s_q rfl rfl (y_move rfl (ev_tmp rfl rfl)) ?_
    refine s_q rfl rfl (y_move rfl (ev_tmp rfl rfl)) ?_
    refine s_q rfl rfl (y_conv rfl (by rw [Tryd.underlying54]; rfl) Tryd.underlying44 (ev_tmp rfl rfl)) ?_
    refine s_q rfl rfl (y_rem rfl (ev_tmp rfl rfl) (ev_tmp rfl rfl) ho1) ?_
    obtain ⟨rest3, hx5, h⟩ := bnd_some h
    refine s_q rfl rfl (binU (y_assign rfl (ev_tmp rfl rfl)) (congrArg (Value.int .u64) (some_inj hx5))) ?_
    refine s_nil ?_
    refine k_next (e := [(0, (Value.slice a2 a1.length c1)), (1, (Value.int .u32 by1)), (6, (Value.slice a4 (out1.set (Int.toNat i2) (wu32 (wu64 (Int.tdiv rest2 (wu64 by1))))).length c4)), (7, (Value.int .u64 rest3)), (8, (Value.int .i64 i2))]) ⟨rfl, rfl, rfl, rfl, rfl, trivial⟩ ?_
    refine c_region rfl ?_
    refine s_q rfl rfl (y_move rfl (ev_tmp rfl rfl)) ?_
    refine s_q rfl rfl (y_sub rfl (ev_tmp rfl rfl) ev_const) ?_
    refine s_q rfl rfl (y_assign rfl (ev_tmp rfl rfl)) ?_
    refine s_nil ?_
    exact k_loop (fuel1, out1.set (Int.toNat i2) (wu32 (wu64 (Int.tdiv rest2 (wu64 by1)))), rest3, wi64 (i2 - 1), a4, c4) ⟨rfl, rfl, rfl, rfl, rfl, trivial⟩ ⟨_, hI.arr (.c .z .n) ⟨.z, trivial⟩, h⟩ (Nat.lt_succ_self _)
  · replace h := ite_f hb h
    refine c_exit ?_
    refine k_in ?_
    refine k_next (e := [(6, (Value.slice a4 out1.length c4)), (7, (Value.int .u64 rest1))]) ⟨rfl, rfl, trivial⟩ ?_
    refine c_seq ?_
    refine c_region rfl ?_
    refine s_q rfl rfl (y_move rfl (ev_tmp rfl rfl)) ?_
    obtain ⟨c7, hI⟩ := hI.release .z
    obtain ⟨r1, hx6, h⟩ := bnd_some h
    refine s_call rfl rfl (r_callF (vs := [(Value.slice a4 out1.length c4)]) rfl ok_69 ⟨(ev_tmp rfl rfl), trivial⟩) (Calls.mono (c_frac_nat_norm (Dj F c7) w2 hI.lt out1 a4 c4 ⟨(hI.get .z), trivial⟩ r1 hx6) ?_)
    rintro _ w4 ⟨a5, c8, rfl, hx7, hl1⟩
    refine ⟨_, rfl, ?_⟩
    replace hI := (hI.ext hx7).adds hl1
    refine s_q rfl rfl (y_move rfl (ev_tmp rfl rfl)) ?_
    refine s_q rfl rfl (y_conv rfl (by rw [Tryd.underlying44]; rfl) Tryd.underlying54 (ev_tmp rfl rfl)) ?_
    refine s_q rfl rfl (y_assign rfl (ev_tmp rfl rfl)) ?_
    refine s_q rfl rfl (y_assign rfl (ev_tmp rfl rfl)) ?_
    refine s_nil ?_
    refine k_next (e := [(4, (Value.slice a5 r1.length c8)), (5, (Value.int .u32 (wu32 rest1)))]) ⟨rfl, rfl, trivial⟩ ?_
    refine c_ret ?_
    obtain rfl := some_inj h
    exact q_ret (vs := [(Value.slice a5 r1.length c8), (Value.int .u32 (wu32 rest1))]) Tryd.results46 ⟨ev_tmp rfl rfl, ⟨ev_tmp rfl rfl, trivial⟩⟩ ⟨a5, c8, rfl, hI.ext0, hI.fin ⟨.z, trivial⟩⟩

set_option maxRecDepth 100000 in
set_option maxHeartbeats 4000000 in
theorem c_frac_nat_mod (F : NP) (w0 : World) (hF : ∀ k, F k → k < w0.heap.size) (a1 : List Int) (by1 : Int) (a2 : Option Addr) (c1 : Nat) (hc : AllCl [Cl.sl (cInt .u32) a2 c1 a1] F w0) (r : Int)
    (h : m_frac_nat_mod a1 by1 = some r) :
    Calls Tryd.prog 45 #[(Value.slice a2 a1.length c1), (Value.int .u32 by1)] w0 fun e w => e = .returned (Value.int .u32 r) ∧ Ext w0 w ∧ AllCl [] F w := by
  refine ofEnter (R := fun v w => v = (Value.int .u32 r) ∧ Ext w0 w ∧ AllCl [] F w) (enter (l := [(Value.slice a2 a1.length c1), (Value.int .u32 by1)]) Tryd.func45 rfl Tryd.ntmps45 rfl ?_) ?_
  rotate_left
  · rintro _ w ⟨rfl, k1, k2⟩; exact ⟨rfl, k1, k2⟩
  have hI := Bun.start hF hc
  clear hc
  rw [m_frac_nat_mod] at h
  refine c_seq ?_
  refine c_region rfl ?_
  refine s_q rfl rfl (y_assign rfl ev_const) ?_
  refine s_nil ?_
  refine k_next (e := [(0, (Value.slice a2 a1.length c1)), (1, (Value.int .u32 by1))]) ⟨rfl, rfl, trivial⟩ ?_
  refine c_seq ?_
  refine c_region rfl ?_
  refine s_q rfl rfl (y_move rfl (ev_tmp rfl rfl)) ?_
  refine s_q rfl rfl (y_move rfl (ev_tmp rfl rfl)) ?_
  obtain ⟨r1, hx1, h⟩ := bnd_some h
  refine s_call rfl rfl (r_callF (vs := [(Value.slice a2 a1.length c1), (Value.int .u32 by1)]) rfl ok_46 ⟨(ev_tmp rfl rfl), ⟨(ev_tmp rfl rfl), trivial⟩⟩) (Calls.mono (c_frac_nat_div (Dj F noM) w0 hI.lt a1 by1 a2 c1 ⟨(hI.get .z), trivial⟩ r1 hx1) ?_)
  rintro _ w1 ⟨a3, c2, rfl, hx2, hl1⟩
  refine ⟨_, rfl, ?_⟩
  replace hI := (hI.ext hx2).adds hl1
  refine s_q rfl rfl (y_move rfl (ev_tmp rfl rfl)) ?_
  refine s_q rfl rfl (y_extract rfl (ev_tmp rfl rfl) rfl) ?_
  refine s_q rfl rfl (y_extract rfl (ev_tmp rfl rfl) rfl) ?_
  refine s_q rfl rfl (y_assign rfl (ev_tmp rfl rfl)) ?_
  refine s_q rfl rfl (y_assign rfl (ev_tmp rfl rfl)) ?_
  refine s_nil ?_
  refine k_next (e := [(6, (Value.int .u32 r1.2))]) ⟨rfl, trivial⟩ ?_
  refine c_seq ?_
  refine c_region rfl ?_
  refine s_q rfl rfl (y_move rfl (ev_tmp rfl rfl)) ?_
  refine s_q rfl rfl (y_assign rfl (ev_tmp rfl rfl)) ?_
  refine s_nil ?_
  refine k_next (e := [(4, (Value.int .u32 r1.2))]) ⟨rfl, trivial⟩ ?_
  refine c_ret ?_
  obtain rfl := some_inj h
  exact q_ret (vs := [(Value.int .u32 r1.2)]) Tryd.results45 ⟨ev_tmp rfl rfl, trivial⟩ ⟨rfl, hI.ext0, hI.fin trivial⟩

set_option maxRecDepth 100000 in
set_option maxHeartbeats 4000000 in
theorem c_frac_nat_times (F : NP) (w0 : World) (hF : ∀ k, F k → k < w0.heap.size) (a1 : List Int) (by1 : Int) (a2 : Option Addr) (c1 : Nat) (hc : AllCl [Cl.sl (cInt .u32) a2 c1 a1] F w0) (r : List Int)
    (h : m_frac_nat_times a1 by1 = some r) :
    Calls Tryd.prog 47 #[(Value.slice a2 a1.length c1), (Value.int .u32 by1)] w0 fun e w => ∃ (a3 : Option Addr) (c2 : Nat), e = .returned (Value.slice a3 r.length c2) ∧ Ext w0 w ∧ AllCl [Cl.sl (cInt .u32) a3 c2 r] F w := by
  refine ofEnter (R := fun v w => ∃ (a3 : Option Addr) (c2 : Nat), v = (Value.slice a3 r.length c2) ∧ Ext w0 w ∧ AllCl [Cl.sl (cInt .u32) a3 c2 r] F w) (enter (l := [(Value.slice a2 a1.length c1), (Value.int .u32 by1)]) Tryd.func47 rfl Tryd.ntmps47 rfl ?_) ?_
  rotate_left
  · rintro _ w ⟨a3, c2, rfl, k1, k2⟩; exact ⟨a3, c2, rfl, k1, k2⟩
  have hI := Bun.start hF hc
  clear hc
  rw [m_frac_nat_times] at h
  refine c_seq ?_
  refine c_region rfl ?_
  refine s_q rfl rfl (y_assign rfl ev_const) ?_
  refine s_nil ?_
  refine k_next (e := [(0, (Value.slice a2 a1.length c1)), (1, (Value.int .u32 by1))]) ⟨rfl, rfl, trivial⟩ ?_
  refine c_seq ?_
  refine c_region rfl ?_
  refine s_q rfl rfl (y_move rfl (ev_tmp rfl rfl)) ?_
  refine s_q rfl rfl (y_lenl rfl Tryd.underlying53 (ev_tmp rfl rfl)) ?_
  refine s_q rfl rfl (y_add rfl (ev_tmp rfl rfl) ev_const) ?_
  obtain ⟨zs1, hx1, h⟩ := bnd_some h
  refine l_make (c := (cInt .u32)) hI hx1 rfl rfl rfl Tryd.underlying53 info_54 rfl rfl ev_const (ev_tmp rfl rfl) rfl ?_
  clear hI; intro b1 c3 w1 hI
  refine s_q rfl rfl (y_assign rfl (ev_tmp rfl rfl)) ?_
  refine s_nil ?_
  refine k_next (e := [(0, (Value.slice a2 a1.length c1)), (1, (Value.int .u32 by1)), (5, (Value.slice (some ⟨b1, 0, none⟩) zs1.length ((wi64 ((a1.length : Int) + 1)).toNat)))]) ⟨rfl, rfl, rfl, trivial⟩ ?_
  refine c_seq ?_
  refine c_region rfl ?_
  refine s_q rfl rfl (y_assign rfl ev_const) ?_
  refine s_nil ?_
  refine k_next (e := [(0, (Value.slice a2 a1.length c1)), (1, (Value.int .u32 by1)), (5, (Value.slice (some ⟨b1, 0, none⟩) zs1.length ((wi64 ((a1.length : Int) + 1)).toNat))), (6, (Value.int .u64 0))]) ⟨rfl, rfl, rfl, rfl, trivial⟩ ?_
  refine c_seq ?_
  refine c_seq ?_
  refine c_region rfl ?_
  refine s_q rfl rfl (y_move rfl (ev_tmp rfl rfl)) ?_
  refine s_q rfl rfl (y_lenl rfl Tryd.underlying53 (ev_tmp rfl rfl)) ?_
  refine s_q rfl rfl (y_move rfl ev_const) ?_
  refine s_nil ?_
  refine k_next (e := [(1, (Value.int .u32 by1)), (5, (Value.slice (some ⟨b1, 0, none⟩) zs1.length ((wi64 ((a1.length : Int) + 1)).toNat))), (6, (Value.int .u64 0)), (13, (Value.slice a2 a1.length c1)), (14, (Value.int .i64 (a1.length : Int))), (15, (Value.int .i64 0))]) ⟨rfl, rfl, rfl, rfl, rfl, rfl, trivial⟩ ?_
  refine c_block ?_
  refine c_loop (α := Nat × (List Int) × Int × Int × (Option Addr) × Nat) (fun x => fun w => ∃ C, Bun noM F w0 C w [MO.row (cInt .u32) 54 (x.2.2.2.2.1) (x.2.2.2.2.2) (x.2.1)] [Cl.sl (cInt .u32) a2 c1 a1] ∧ m_frac_nat_times_l1 a1 by1 (x.1) (x.2.1) (x.2.2.1) (x.2.2.2.1) = some r) (fun x _ => x.1) (fun x => [(1, (Value.int .u32 by1)), (5, (Value.slice (x.2.2.2.2.1) (x.2.1).length (x.2.2.2.2.2))), (6, (Value.int .u64 (x.2.2.1))), (13, (Value.slice a2 a1.length c1)), (14, (Value.int .i64 (a1.length : Int))), (15, (Value.int .i64 (x.2.2.2.1)))]) (fu, zs1, 0, 0, some ⟨b1, 0, none⟩, (wi64 ((a1.length : Int) + 1)).toNat) ⟨_, hI.arr (.c .z .n) ⟨.z, trivial⟩, h⟩ ⟨rfl, rfl, rfl, rfl, rfl, rfl, trivial⟩ ?_
  clear h hI; rintro ⟨fuel1, out1, carry1, i1, a4, c4⟩ w2 ⟨c5, hI, h⟩
  dsimp only at hI h
  rcases fuel1 with _ | fuel1
  · rw [m_frac_nat_times_l1] at h; cases h
  rw [m_frac_nat_times_l1] at h
  refine c_sub (e := [(1, (Value.int .u32 by1)), (5, (Value.slice a4 out1.length c4)), (6, (Value.int .u64 carry1)), (13, (Value.slice a2 a1.length c1)), (14, (Value.int .i64 (a1.length : Int))), (15, (Value.int .i64 i1))]) ⟨rfl, rfl, rfl, rfl, rfl, rfl, trivial⟩ ?_
  refine c_seq ?_
  refine c_region rfl ?_
  refine s_q rfl rfl (y_lss rfl (ev_tmp rfl rfl) (ev_tmp rfl rfl)) ?_
  refine s_nil ?_
  refine k_next (e := [(1, (Value.int .u32 by1)), (5, (Value.slice a4 out1.length c4)), (6, (Value.int .u64 carry1)), (13, (Value.slice a2 a1.length c1)), (14, (Value.int .i64 (a1.length : Int))), (15, (Value.int .i64 i1)), (16, (Value.bool (decide (i1 < (a1.length : Int)))))]) ⟨rfl, rfl, rfl, rfl, rfl, rfl, rfl, trivial⟩ ?_
  refine c_seq ?_
  refine c_cond (b := decide (i1 < (a1.length : Int))) (ev_tmp rfl rfl) (fun hb => ?_) (fun hb => ?_)
  · replace h := ite_t hb h
    refine c_skip ?_
    refine k_next (e := [(1, (Value.int .u32 by1)), (5, (Value.slice a4 out1.length c4)), (6, (Value.int .u64 carry1)), (13, (Value.slice a2 a1.length c1)), (14, (Value.int .i64 (a1.length : Int))), (15, (Value.int .i64 i1))]) ⟨rfl, rfl, rfl, rfl, rfl, rfl, trivial⟩ ?_
    refine c_seq ?_
    refine c_block ?_
    refine c_seq ?_
    refine c_region rfl ?_
    obtain ⟨e1, hx2, h⟩ := bnd_some h
    obtain ⟨ad1, cs1, hA1, hr1, hq1⟩ := hI.clat .z hx2
    obtain rfl : cs1 = [(Value.int .u32 e1)] := hr1
    refine s_q rfl rfl (y_indexAddr rfl Tryd.underlying53 size_54 (ev_tmp rfl rfl) (ev_tmp rfl rfl) (lat_bd hx2) hA1) ?_
    refine s_q rfl rfl (y_load1 (v := (Value.int .u32 e1)) rfl (ev_tmp rfl rfl) Tryd.underlying54 rfl hq1.1) ?_
    refine s_q rfl rfl (y_assign rfl (ev_tmp rfl rfl)) ?_
    refine s_nil ?_
    refine k_next (e := [(1, (Value.int .u32 by1)), (5, (Value.slice a4 out1.length c4)), (6, (Value.int .u64 carry1)), (13, (Value.slice a2 a1.length c1)), (14, (Value.int .i64 (a1.length : Int))), (15, (Value.int .i64 i1)), (8, (Value.int .u32 e1))]) ⟨rfl, rfl, rfl, rfl, rfl, rfl, rfl, trivial⟩ ?_
    refine c_seq ?_
    refine c_region rfl ?_
    refine s_q rfl rfl (y_move rfl (ev_tmp rfl rfl)) ?_
    refine s_q rfl rfl (y_move rfl (ev_tmp rfl rfl)) ?_
    refine s_q rfl rfl (y_conv rfl (by rw [Tryd.underlying54]; rfl) Tryd.underlying44 (ev_tmp rfl rfl)) ?_
    refine s_q rfl rfl (y_move rfl (ev_tmp rfl rfl)) ?_
    refine s_q rfl rfl (y_conv rfl (by rw [Tryd.underlying54]; rfl) Tryd.underlying44 (ev_tmp rfl rfl)) ?_
    refine s_q rfl rfl (y_mul rfl (ev_tmp rfl rfl) (ev_tmp rfl rfl)) ?_
    refine s_q rfl rfl (y_add rfl (ev_tmp rfl rfl) (ev_tmp rfl rfl)) ?_
    obtain ⟨carry2, hx3, h⟩ := bnd_some h
    refine s_q rfl rfl (binU (y_assign rfl (ev_tmp rfl rfl)) (congrArg (Value.int .u64) (some_inj hx3))) ?_
    refine s_nil ?_
    refine k_next (e := [(1, (Value.int .u32 by1)), (5, (Value.slice a4 out1.length c4)), (6, (Value.int .u64 carry2)), (13, (Value.slice a2 a1.length c1)), (14, (Value.int .i64 (a1.length : Int))), (15, (Value.int .i64 i1))]) ⟨rfl, rfl, rfl, rfl, rfl, rfl, trivial⟩ ?_
    refine c_seq ?_
    refine c_region rfl ?_
    refine s_q rfl rfl (y_move rfl (ev_tmp rfl rfl)) ?_
    refine s_q rfl rfl (y_move rfl (ev_tmp rfl rfl)) ?_
    refine s_q rfl rfl (y_conv rfl (by rw [Tryd.underlying44]; rfl) Tryd.underlying54 (ev_tmp rfl rfl)) ?_
    refine l_lit (c := (cInt .u32)) (xs := ([wu32 carry2] : List Int)) (vs := [(0, (Value.int .u32 (wu32 carry2)))]) (cs := #[(Value.int .u32 (wu32 carry2))]) (css := [[(Value.int .u32 (wu32 carry2))]]) hI rfl rfl rfl Tryd.underlying53 info_54 rfl ⟨rfl, (ev_tmp rfl rfl), trivial⟩ (by kernel_rfl) ⟨rfl, trivial⟩ rfl rfl rfl ?_
    clear hI; intro b2 c6 w3 hI
    obtain ⟨zs2, hx4, h⟩ := bnd_some h
    refine l_append (xs := out1) (ys := ([wu32 carry2] : List Int)) hI (.s .z) (hI.rd .z) hx4 rfl rfl rfl Tryd.underlying53 info_54 rfl rfl (ev_tmp rfl rfl) (ev_tmp rfl rfl) ?_
    clear hI; intro a5 c7 c8 w4 hI
    refine s_q rfl rfl (y_assign rfl (ev_tmp rfl rfl)) ?_
    refine s_nil ?_
    refine k_next (e := [(1, (Value.int .u32 by1)), (5, (Value.slice a5 zs2.length c7)), (6, (Value.int .u64 carry2)), (13, (Value.slice a2 a1.length c1)), (14, (Value.int .i64 (a1.length : Int))), (15, (Value.int .i64 i1))]) ⟨rfl, rfl, rfl, rfl, rfl, rfl, trivial⟩ ?_
    refine c_region rfl ?_
    refine s_q rfl rfl (y_move rfl (ev_tmp rfl rfl)) ?_
    refine s_q rfl rfl (y_shrc (s := 32) rfl (ev_tmp rfl rfl) ev_const (by decide) rfl) ?_
    refine s_q rfl rfl (y_assign rfl (ev_tmp rfl rfl)) ?_
    refine s_nil ?_
    refine k_next (e := [(1, (Value.int .u32 by1)), (5, (Value.slice a5 zs2.length c7)), (6, (Value.int .u64 (Int.fdiv carry2 (2 ^ 32)))), (13, (Value.slice a2 a1.length c1)), (14, (Value.int .i64 (a1.length : Int))), (15, (Value.int .i64 i1))]) ⟨rfl, rfl, rfl, rfl, rfl, rfl, trivial⟩ ?_
    refine c_region rfl ?_
    refine s_q rfl rfl (y_add rfl (ev_tmp rfl rfl) ev_const) ?_
    refine s_q rfl rfl (y_move rfl (ev_tmp rfl rfl)) ?_
    refine s_nil ?_
    exact k_loop (fuel1, zs2, Int.fdiv carry2 (2 ^ 32), wi64 (i1 + 1), a5, c7) ⟨rfl, rfl, rfl, rfl, rfl, rfl, trivial⟩ ⟨_, hI.arr (.c (.s .z) .n) ⟨.z, trivial⟩, h⟩ (Nat.lt_succ_self _)
  · replace h := ite_f hb h
    refine c_exit ?_
    refine k_in ?_
    refine k_next (e := [(5, (Value.slice a4 out1.length c4)), (6, (Value.int .u64 carry1))]) ⟨rfl, rfl, trivial⟩ ?_
    refine c_seq ?_
    refine c_region rfl ?_
    refine s_q rfl rfl (y_move rfl (ev_tmp rfl rfl)) ?_
    refine s_q rfl rfl (y_move rfl (ev_tmp rfl rfl)) ?_
    refine s_q rfl rfl (y_conv rfl (by rw [Tryd.underlying44]; rfl) Tryd.underlying54 (ev_tmp rfl rfl)) ?_
    refine l_lit (c := (cInt .u32)) (xs := ([wu32 carry1] : List Int)) (vs := [(0, (Value.int .u32 (wu32 carry1)))]) (cs := #[(Value.int .u32 (wu32 carry1))]) (css := [[(Value.int .u32 (wu32 carry1))]]) hI rfl rfl rfl Tryd.underlying53 info_54 rfl ⟨rfl, (ev_tmp rfl rfl), trivial⟩ (by kernel_rfl) ⟨rfl, trivial⟩ rfl rfl rfl ?_
    clear hI; intro b3 c9 w5 hI
    obtain ⟨zs3, hx5, h⟩ := bnd_some h
    refine l_append (xs := out1) (ys := ([wu32 carry1] : List Int)) hI (.s .z) (hI.rd .z) hx5 rfl rfl rfl Tryd.underlying53 info_54 rfl rfl (ev_tmp rfl rfl) (ev_tmp rfl rfl) ?_
    clear hI; intro a6 c10 c11 w6 hI
    obtain ⟨c12, hI⟩ := hI.release (.s .z)
    obtain ⟨r1, hx6, h⟩ := bnd_some h
    refine s_call rfl rfl (r_callF (vs := [(Value.slice a6 zs3.length c10)]) rfl ok_69 ⟨(ev_tmp rfl rfl), trivial⟩) (Calls.mono (c_frac_nat_norm (Dj F c12) w6 hI.lt zs3 a6 c10 ⟨(hI.get .z), trivial⟩ r1 hx6) ?_)
    rintro _ w7 ⟨a7, c13, rfl, hx7, hl1⟩
    refine ⟨_, rfl, ?_⟩
    replace hI := (hI.ext hx7).adds hl1
    refine s_q rfl rfl (y_assign rfl (ev_tmp rfl rfl)) ?_
    refine s_nil ?_
    refine k_next (e := [(4, (Value.slice a7 r1.length c13))]) ⟨rfl, trivial⟩ ?_
    refine c_ret ?_
    obtain rfl := some_inj h
    exact q_ret (vs := [(Value.slice a7 r1.length c13)]) Tryd.results47 ⟨ev_tmp rfl rfl, trivial⟩ ⟨a7, c13, rfl, hI.ext0, hI.fin ⟨.z, trivial⟩⟩

set_option maxRecDepth 100000 in
set_option maxHeartbeats 4000000 in
theorem c_frac_nat_plus (F : NP) (w0 : World) (hF : ∀ k, F k → k < w0.heap.size) (a1 : List Int) (b1 : List Int) (a2 : Option Addr) (c1 : Nat) (a3 : Option Addr) (c2 : Nat) (hc : AllCl [Cl.sl (cInt .u32) a2 c1 a1, Cl.sl (cInt .u32) a3 c2 b1] F w0) (r : List Int)
    (h : m_frac_nat_plus a1 b1 = some r) :
    Calls Tryd.prog 48 #[(Value.slice a2 a1.length c1), (Value.slice a3 b1.length c2)] w0 fun e w => ∃ (a4 : Option Addr) (c3 : Nat), e = .returned (Value.slice a4 r.length c3) ∧ Ext w0 w ∧ AllCl [Cl.sl (cInt .u32) a4 c3 r] F w := by
  refine ofEnter (R := fun v w => ∃ (a4 : Option Addr) (c3 : Nat), v = (Value.slice a4 r.length c3) ∧ Ext w0 w ∧ AllCl [Cl.sl (cInt .u32) a4 c3 r] F w) (enter (l := [(Value.slice a2 a1.length c1), (Value.slice a3 b1.length c2)]) Tryd.func48 rfl Tryd.ntmps48 rfl ?_) ?_
  rotate_left
  · rintro _ w ⟨a4, c3, rfl, k1, k2⟩; exact ⟨a4, c3, rfl, k1, k2⟩
  have hI := Bun.start hF hc
  clear hc
  rw [m_frac_nat_plus] at h
  refine c_seq ?_
  refine c_region rfl ?_
  refine s_q rfl rfl (y_assign rfl ev_const) ?_
  refine s_nil ?_
  refine k_next (e := [(0, (Value.slice a2 a1.length c1)), (1, (Value.slice a3 b1.length c2))]) ⟨rfl, rfl, trivial⟩ ?_
  refine c_seq ?_
  refine c_region rfl ?_
  refine s_q rfl rfl (y_assign rfl ev_const) ?_
  refine s_nil ?_
  refine k_next (e := [(0, (Value.slice a2 a1.length c1)), (1, (Value.slice a3 b1.length c2)), (5, (Value.slice none 0 0))]) ⟨rfl, rfl, rfl, trivial⟩ ?_
  refine c_seq ?_
  refine c_region rfl ?_
  refine s_q rfl rfl (y_assign rfl ev_const) ?_
  refine s_nil ?_
  refine k_next (e := [(0, (Value.slice a2 a1.length c1)), (1, (Value.slice a3 b1.length c2)), (5, (Value.slice none 0 0)), (6, (Value.int .u64 0))]) ⟨rfl, rfl, rfl, rfl, trivial⟩ ?_
  refine c_seq ?_
  refine c_seq ?_
  refine c_region rfl ?_
  refine s_q rfl rfl (y_assign rfl ev_const) ?_
  refine s_nil ?_
  refine k_next (e := [(0, (Value.slice a2 a1.length c1)), (1, (Value.slice a3 b1.length c2)), (5, (Value.slice none 0 0)), (6, (Value.int .u64 0)), (7, (Value.int .i64 0))]) ⟨rfl, rfl, rfl, rfl, rfl, trivial⟩ ?_
  refine c_block ?_
  have hI := hI.nil (cInt .u32) 54 none
  refine c_loop (α := Nat × (List Int) × Int × Int × (Option Addr) × Nat) (fun x => fun w => ∃ C, Bun noM F w0 C w [MO.row (cInt .u32) 54 (x.2.2.2.2.1) (x.2.2.2.2.2) (x.2.1)] [Cl.sl (cInt .u32) a2 c1 a1, Cl.sl (cInt .u32) a3 c2 b1] ∧ m_frac_nat_plus_l1 a1 b1 (x.1) (x.2.1) (x.2.2.1) (x.2.2.2.1) = some r) (fun x _ => x.1) (fun x => [(0, (Value.slice a2 a1.length c1)), (1, (Value.slice a3 b1.length c2)), (5, (Value.slice (x.2.2.2.2.1) (x.2.1).length (x.2.2.2.2.2))), (6, (Value.int .u64 (x.2.2.1))), (7, (Value.int .i64 (x.2.2.2.1)))]) (fu, ([] : List Int), 0, 0, none, 0) ⟨_, hI.arr (.c .z .n) ⟨.z, (.s .z), trivial⟩, h⟩ ⟨rfl, rfl, rfl, rfl, rfl, trivial⟩ ?_
  clear h hI; rintro ⟨fuel1, out1, carry1, i1, a5, c4⟩ w1 ⟨c5, hI, h⟩
  dsimp only at hI h
  rcases fuel1 with _ | fuel1
  · rw [m_frac_nat_plus_l1] at h; cases h
  rw [m_frac_nat_plus_l1] at h
  refine c_sub (e := [(0, (Value.slice a2 a1.length c1)), (1, (Value.slice a3 b1.length c2)), (5, (Value.slice a5 out1.length c4)), (6, (Value.int .u64 carry1)), (7, (Value.int .i64 i1))]) ⟨rfl, rfl, rfl, rfl, rfl, trivial⟩ ?_
  refine c_seq ?_
  refine c_seq ?_
  refine c_region rfl ?_
  refine s_q rfl rfl (y_move rfl (ev_tmp rfl rfl)) ?_
  refine s_q rfl rfl (y_move rfl (ev_tmp rfl rfl)) ?_
  refine s_q rfl rfl (y_lenl rfl Tryd.underlying53 (ev_tmp rfl rfl)) ?_
  refine s_q rfl rfl (y_move rfl (ev_tmp rfl rfl)) ?_
  refine s_q rfl rfl (y_lenl rfl Tryd.underlying53 (ev_tmp rfl rfl)) ?_
  refine s_q rfl rfl (y_max rfl (ev_tmp rfl rfl) (ev_tmp rfl rfl)) ?_
  refine s_q rfl rfl (y_lss rfl (ev_tmp rfl rfl) (ev_tmp rfl rfl)) ?_
  refine s_nil ?_
  refine k_next (e := [(0, (Value.slice a2 a1.length c1)), (1, (Value.slice a3 b1.length c2)), (5, (Value.slice a5 out1.length c4)), (6, (Value.int .u64 carry1)), (7, (Value.int .i64 i1)), (14, (Value.bool (decide (i1 < max (a1.length : Int) (b1.length : Int)))))]) ⟨rfl, rfl, rfl, rfl, rfl, rfl, trivial⟩ ?_
  refine c_cond (b := decide (i1 < max (a1.length : Int) (b1.length : Int))) (ev_tmp rfl rfl) (fun hb => ?_) (fun hb => ?_)
  · replace h := ite_t hb h
    refine c_skip ?_
    refine k_next (e := [(0, (Value.slice a2 a1.length c1)), (1, (Value.slice a3 b1.length c2)), (5, (Value.slice a5 out1.length c4)), (6, (Value.int .u64 carry1)), (7, (Value.int .i64 i1))]) ⟨rfl, rfl, rfl, rfl, rfl, trivial⟩ ?_
    refine c_seq ?_
    refine c_block ?_
    refine c_join (α := Int) (fun _ => ⟨52, []⟩) (fun x => [(0, (Value.slice a2 a1.length c1)), (1, (Value.slice a3 b1.length c2)), (5, (Value.slice a5 out1.length c4)), (6, (Value.int .u64 x)), (7, (Value.int .i64 i1))]) (fun x => fun w => ∃ C, Bun noM F w0 C w [MO.row (cInt .u32) 54 a5 c4 out1] [Cl.sl (cInt .u32) a2 c1 a1, Cl.sl (cInt .u32) a3 c2 b1] ∧ m_frac_nat_plus_j1 i1 b1 out1 (m_frac_nat_plus_l1 a1 b1 fuel1) x = some r) ?_ ?_
    · clear h hI; rintro carry2 w2 ⟨c6, hI, h⟩
      try dsimp only at hI h
      rw [m_frac_nat_plus_j1] at h
      refine c_sub (e := [(0, (Value.slice a2 a1.length c1)), (1, (Value.slice a3 b1.length c2)), (5, (Value.slice a5 out1.length c4)), (6, (Value.int .u64 carry2)), (7, (Value.int .i64 i1))]) ⟨rfl, rfl, rfl, rfl, rfl, trivial⟩ ?_
      refine c_join (α := Int) (fun _ => ⟨52, []⟩) (fun x => [(0, (Value.slice a2 a1.length c1)), (1, (Value.slice a3 b1.length c2)), (5, (Value.slice a5 out1.length c4)), (6, (Value.int .u64 x)), (7, (Value.int .i64 i1))]) (fun x => fun w => ∃ C, Bun noM F w0 C w [MO.row (cInt .u32) 54 a5 c4 out1] [Cl.sl (cInt .u32) a2 c1 a1, Cl.sl (cInt .u32) a3 c2 b1] ∧ m_frac_nat_plus_j2 out1 (m_frac_nat_plus_l1 a1 b1 fuel1) i1 x = some r) ?_ ?_
      · clear h hI; rintro carry3 w3 ⟨c7, hI, h⟩
        try dsimp only at hI h
        rw [m_frac_nat_plus_j2] at h
        refine c_sub (e := [(0, (Value.slice a2 a1.length c1)), (1, (Value.slice a3 b1.length c2)), (5, (Value.slice a5 out1.length c4)), (6, (Value.int .u64 carry3)), (7, (Value.int .i64 i1))]) ⟨rfl, rfl, rfl, rfl, rfl, trivial⟩ ?_
        refine c_seq ?_
        refine c_region rfl ?_
        refine s_q rfl rfl (y_move rfl (ev_tmp rfl rfl)) ?_
        refine s_q rfl rfl (y_move rfl (ev_tmp rfl rfl)) ?_
        refine s_q rfl rfl (y_conv rfl (by rw [Tryd.underlying44]; rfl) Tryd.underlying54 (ev_tmp rfl rfl)) ?_
        refine l_lit (c := (cInt .u32)) (xs := ([wu32 carry3] : List Int)) (vs := [(0, (Value.int .u32 (wu32 carry3)))]) (cs := #[(Value.int .u32 (wu32 carry3))]) (css := [[(Value.int .u32 (wu32 carry3))]]) hI rfl rfl rfl Tryd.underlying53 info_54 rfl ⟨rfl, (ev_tmp rfl rfl), trivial⟩ (by kernel_rfl) ⟨rfl, trivial⟩ rfl rfl rfl ?_
        clear hI; intro b2 c8 w4 hI
        obtain ⟨zs1, hx1, h⟩ := bnd_some h
        refine l_append (xs := out1) (ys := ([wu32 carry3] : List Int)) hI (.s .z) (hI.rd .z) hx1 rfl rfl rfl Tryd.underlying53 info_54 rfl rfl (ev_tmp rfl rfl) (ev_tmp rfl rfl) ?_
        clear hI; intro a6 c9 c10 w5 hI
        refine s_q rfl rfl (y_assign rfl (ev_tmp rfl rfl)) ?_
        refine s_nil ?_
        refine k_next (e := [(0, (Value.slice a2 a1.length c1)), (1, (Value.slice a3 b1.length c2)), (5, (Value.slice a6 zs1.length c9)), (6, (Value.int .u64 carry3)), (7, (Value.int .i64 i1))]) ⟨rfl, rfl, rfl, rfl, rfl, trivial⟩ ?_
        refine c_region rfl ?_
        refine s_q rfl rfl (y_move rfl (ev_tmp rfl rfl)) ?_
        refine s_q rfl rfl (y_shrc (s := 32) rfl (ev_tmp rfl rfl) ev_const (by decide) rfl) ?_
        refine s_q rfl rfl (y_assign rfl (ev_tmp rfl rfl)) ?_
        refine s_nil ?_
        refine k_next (e := [(0, (Value.slice a2 a1.length c1)), (1, (Value.slice a3 b1.length c2)), (5, (Value.slice a6 zs1.length c9)), (6, (Value.int .u64 (Int.fdiv carry3 (2 ^ 32)))), (7, (Value.int .i64 i1))]) ⟨rfl, rfl, rfl, rfl, rfl, trivial⟩ ?_
        refine c_region rfl ?_
        refine s_q rfl rfl (y_move rfl (ev_tmp rfl rfl)) ?_
        refine s_q rfl rfl (y_add rfl (ev_tmp rfl rfl) ev_const) ?_
        refine s_q rfl rfl (y_assign rfl (ev_tmp rfl rfl)) ?_
        refine s_nil ?_
        exact k_loop (fuel1, zs1, Int.fdiv carry3 (2 ^ 32), wi64 (i1 + 1), a6, c9) ⟨rfl, rfl, rfl, rfl, rfl, trivial⟩ ⟨_, hI.arr (.c (.s .z) .n) ⟨.z, (.s .z), trivial⟩, h⟩ (Nat.lt_succ_self _)
      · skip
        refine c_seq ?_
        refine c_region rfl ?_
        refine s_q rfl rfl (y_move rfl (ev_tmp rfl rfl)) ?_
        refine s_q rfl rfl (y_move rfl (ev_tmp rfl rfl)) ?_
        refine s_q rfl rfl (y_lenl rfl Tryd.underlying53 (ev_tmp rfl rfl)) ?_
        refine s_q rfl rfl (y_lss rfl (ev_tmp rfl rfl) (ev_tmp rfl rfl)) ?_
        refine s_nil ?_
        refine k_next (e := [(0, (Value.slice a2 a1.length c1)), (1, (Value.slice a3 b1.length c2)), (5, (Value.slice a5 out1.length c4)), (6, (Value.int .u64 carry2)), (7, (Value.int .i64 i1)), (31, (Value.bool (decide (i1 < (b1.length : Int)))))]) ⟨rfl, rfl, rfl, rfl, rfl, rfl, trivial⟩ ?_
        refine c_cond (b := decide (i1 < (b1.length : Int))) (ev_tmp rfl rfl) (fun hb => ?_) (fun hb => ?_)
        · replace h := ite_t hb h
          refine c_region rfl ?_
          refine s_q rfl rfl (y_move rfl (ev_tmp rfl rfl)) ?_
          refine s_q rfl rfl (y_move rfl (ev_tmp rfl rfl)) ?_
          refine s_q rfl rfl (y_move rfl (ev_tmp rfl rfl)) ?_
          obtain ⟨e1, hx2, h⟩ := bnd_some h
          obtain ⟨ad1, cs1, hA1, hr1, hq1⟩ := hI.clat (.s .z) hx2
          obtain rfl : cs1 = [(Value.int .u32 e1)] := hr1
          refine s_q rfl rfl (y_indexAddr rfl Tryd.underlying53 size_54 (ev_tmp rfl rfl) (ev_tmp rfl rfl) (lat_bd hx2) hA1) ?_
          refine s_q rfl rfl (y_load1 (v := (Value.int .u32 e1)) rfl (ev_tmp rfl rfl) Tryd.underlying54 rfl hq1.1) ?_
          refine s_q rfl rfl (y_conv rfl (by rw [Tryd.underlying54]; rfl) Tryd.underlying44 (ev_tmp rfl rfl)) ?_
          refine s_q rfl rfl (y_add rfl (ev_tmp rfl rfl) (ev_tmp rfl rfl)) ?_
          obtain ⟨carry4, hx3, h⟩ := bnd_some h
          refine s_q rfl rfl (binU (y_assign rfl (ev_tmp rfl rfl)) (congrArg (Value.int .u64) (some_inj hx3))) ?_
          refine s_nil ?_
          exact k_join carry4 ⟨rfl, rfl, rfl, rfl, rfl, trivial⟩ ⟨_, hI.arr (.c .z .n) ⟨.z, (.s .z), trivial⟩, h⟩ rfl
        · replace h := ite_f hb h
          refine c_skip ?_
          exact k_join carry2 ⟨rfl, rfl, rfl, rfl, rfl, trivial⟩ ⟨_, hI.arr (.c .z .n) ⟨.z, (.s .z), trivial⟩, h⟩ rfl
    · skip
      refine c_seq ?_
      refine c_region rfl ?_
      refine s_q rfl rfl (y_move rfl (ev_tmp rfl rfl)) ?_
      refine s_q rfl rfl (y_move rfl (ev_tmp rfl rfl)) ?_
      refine s_q rfl rfl (y_lenl rfl Tryd.underlying53 (ev_tmp rfl rfl)) ?_
      refine s_q rfl rfl (y_lss rfl (ev_tmp rfl rfl) (ev_tmp rfl rfl)) ?_
      refine s_nil ?_
      refine k_next (e := [(0, (Value.slice a2 a1.length c1)), (1, (Value.slice a3 b1.length c2)), (5, (Value.slice a5 out1.length c4)), (6, (Value.int .u64 carry1)), (7, (Value.int .i64 i1)), (20, (Value.bool (decide (i1 < (a1.length : Int)))))]) ⟨rfl, rfl, rfl, rfl, rfl, rfl, trivial⟩ ?_
      refine c_cond (b := decide (i1 < (a1.length : Int))) (ev_tmp rfl rfl) (fun hb => ?_) (fun hb => ?_)
      · replace h := ite_t hb h
        refine c_region rfl ?_
        refine s_q rfl rfl (y_move rfl (ev_tmp rfl rfl)) ?_
        refine s_q rfl rfl (y_move rfl (ev_tmp rfl rfl)) ?_
        refine s_q rfl rfl (y_move rfl (ev_tmp rfl rfl)) ?_
        obtain ⟨e2, hx4, h⟩ := bnd_some h
        obtain ⟨ad2, cs2, hA2, hr2, hq2⟩ := hI.clat .z hx4
        obtain rfl : cs2 = [(Value.int .u32 e2)] := hr2
        refine s_q rfl rfl (y_indexAddr rfl Tryd.underlying53 size_54 (ev_tmp rfl rfl) (ev_tmp rfl rfl) (lat_bd hx4) hA2) ?_
        refine s_q rfl rfl (y_load1 (v := (Value.int .u32 e2)) rfl (ev_tmp rfl rfl) Tryd.underlying54 rfl hq2.1) ?_
        refine s_q rfl rfl (y_conv rfl (by rw [Tryd.underlying54]; rfl) Tryd.underlying44 (ev_tmp rfl rfl)) ?_
        refine s_q rfl rfl (y_add rfl (ev_tmp rfl rfl) (ev_tmp rfl rfl)) ?_
        obtain ⟨carry5, hx5, h⟩ := bnd_some h
        refine s_q rfl rfl (binU (y_assign rfl (ev_tmp rfl rfl)) (congrArg (Value.int .u64) (some_inj hx5))) ?_
        refine s_nil ?_
        exact k_join carry5 ⟨rfl, rfl, rfl, rfl, rfl, trivial⟩ ⟨_, hI.arr (.c .z .n) ⟨.z, (.s .z), trivial⟩, h⟩ rfl
      · replace h := ite_f hb h
        refine c_skip ?_
        exact k_join carry1 ⟨rfl, rfl, rfl, rfl, rfl, trivial⟩ ⟨_, hI.arr (.c .z .n) ⟨.z, (.s .z), trivial⟩, h⟩ rfl
  · replace h := ite_f hb h
    refine c_exit ?_
    refine k_in ?_
    refine k_next (e := [(5, (Value.slice a5 out1.length c4)), (6, (Value.int .u64 carry1))]) ⟨rfl, rfl, trivial⟩ ?_
    refine c_seq ?_
    refine c_region rfl ?_
    refine s_q rfl rfl (y_move rfl (ev_tmp rfl rfl)) ?_
    refine s_q rfl rfl (y_move rfl (ev_tmp rfl rfl)) ?_
    refine s_q rfl rfl (y_conv rfl (by rw [Tryd.underlying44]; rfl) Tryd.underlying54 (ev_tmp rfl rfl)) ?_
    refine l_lit (c := (cInt .u32)) (xs := ([wu32 carry1] : List Int)) (vs := [(0, (Value.int .u32 (wu32 carry1)))]) (cs := #[(Value.int .u32 (wu32 carry1))]) (css := [[(Value.int .u32 (wu32 carry1))]]) hI rfl rfl rfl Tryd.underlying53 info_54 rfl ⟨rfl, (ev_tmp rfl rfl), trivial⟩ (by kernel_rfl) ⟨rfl, trivial⟩ rfl rfl rfl ?_
    clear hI; intro b3 c11 w6 hI
    obtain ⟨zs2, hx6, h⟩ := bnd_some h
    refine l_append (xs := out1) (ys := ([wu32 carry1] : List Int)) hI (.s .z) (hI.rd .z) hx6 rfl rfl rfl Tryd.underlying53 info_54 rfl rfl (ev_tmp rfl rfl) (ev_tmp rfl rfl) ?_
    clear hI; intro a7 c12 c13 w7 hI
    obtain ⟨c14, hI⟩ := hI.release (.s .z)
    obtain ⟨r1, hx7, h⟩ := bnd_some h
    refine s_call rfl rfl (r_callF (vs := [(Value.slice a7 zs2.length c12)]) rfl ok_69 ⟨(ev_tmp rfl rfl), trivial⟩) (Calls.mono (c_frac_nat_norm (Dj F c14) w7 hI.lt zs2 a7 c12 ⟨(hI.get .z), trivial⟩ r1 hx7) ?_)
    rintro _ w8 ⟨a8, c15, rfl, hx8, hl1⟩
    refine ⟨_, rfl, ?_⟩
    replace hI := (hI.ext hx8).adds hl1
    refine s_q rfl rfl (y_assign rfl (ev_tmp rfl rfl)) ?_
    refine s_nil ?_
    refine k_next (e := [(4, (Value.slice a8 r1.length c15))]) ⟨rfl, trivial⟩ ?_
    refine c_ret ?_
    obtain rfl := some_inj h
    exact q_ret (vs := [(Value.slice a8 r1.length c15)]) Tryd.results48 ⟨ev_tmp rfl rfl, trivial⟩ ⟨a8, c15, rfl, hI.ext0, hI.fin ⟨.z, trivial⟩⟩

set_option maxRecDepth 100000 in
set_option maxHeartbeats 4000000 in
theorem c_frac_nat_compare (F : NP) (w0 : World) (hF : ∀ k, F k → k < w0.heap.size) (a1 : List Int) (b1 : List Int) (a2 : Option Addr) (c1 : Nat) (a3 : Option Addr) (c2 : Nat) (hc : AllCl [Cl.sl (cInt .u32) a2 c1 a1, Cl.sl (cInt .u32) a3 c2 b1] F w0) (r : Int)
    (h : m_frac_nat_compare a1 b1 = some r) :
    Calls Tryd.prog 49 #[(Value.slice a2 a1.length c1), (Value.slice a3 b1.length c2)] w0 fun e w => e = .returned (Value.int .i64 r) ∧ Ext w0 w ∧ AllCl [] F w := by
  refine ofEnter (R := fun v w => v = (Value.int .i64 r) ∧ Ext w0 w ∧ AllCl [] F w) (enter (l := [(Value.slice a2 a1.length c1), (Value.slice a3 b1.length c2)]) Tryd.func49 rfl Tryd.ntmps49 rfl ?_) ?_
  rotate_left
  · rintro _ w ⟨rfl, k1, k2⟩; exact ⟨rfl, k1, k2⟩
  have hI := Bun.start hF hc
  clear hc
  rw [m_frac_nat_compare] at h
  refine c_seq ?_
  refine c_region rfl ?_
  refine s_q rfl rfl (y_assign rfl ev_const) ?_
  refine s_nil ?_
  refine k_next (e := [(0, (Value.slice a2 a1.length c1)), (1, (Value.slice a3 b1.length c2))]) ⟨rfl, rfl, trivial⟩ ?_
  refine c_seq ?_
  refine c_seq ?_
  refine c_region rfl ?_
  refine s_q rfl rfl (y_move rfl (ev_tmp rfl rfl)) ?_
  refine s_q rfl rfl (y_lenl rfl Tryd.underlying53 (ev_tmp rfl rfl)) ?_
  refine s_q rfl rfl (y_move rfl (ev_tmp rfl rfl)) ?_
  refine s_q rfl rfl (y_lenl rfl Tryd.underlying53 (ev_tmp rfl rfl)) ?_
  refine s_q rfl rfl (y_neq rfl (ev_tmp rfl rfl) (ev_tmp rfl rfl)) ?_
  refine s_nil ?_
  refine k_next (e := [(0, (Value.slice a2 a1.length c1)), (1, (Value.slice a3 b1.length c2)), (10, (Value.bool (!decide ((a1.length : Int) = (b1.length : Int)))))]) ⟨rfl, rfl, rfl, trivial⟩ ?_
  refine c_cond (b := !decide ((a1.length : Int) = (b1.length : Int))) (ev_tmp rfl rfl) (fun hb => ?_) (fun hb => ?_)
  · replace h := ite_t hb h
    refine c_seq ?_
    refine c_seq ?_
    refine c_region rfl ?_
    refine s_q rfl rfl (y_move rfl (ev_tmp rfl rfl)) ?_
    refine s_q rfl rfl (y_lenl rfl Tryd.underlying53 (ev_tmp rfl rfl)) ?_
    refine s_q rfl rfl (y_move rfl (ev_tmp rfl rfl)) ?_
    refine s_q rfl rfl (y_lenl rfl Tryd.underlying53 (ev_tmp rfl rfl)) ?_
    refine s_q rfl rfl (y_lss rfl (ev_tmp rfl rfl) (ev_tmp rfl rfl)) ?_
    refine s_nil ?_
    refine k_next (e := [(15, (Value.bool (decide ((a1.length : Int) < (b1.length : Int)))))]) ⟨rfl, trivial⟩ ?_
    refine c_cond (b := decide ((a1.length : Int) < (b1.length : Int))) (ev_tmp rfl rfl) (fun hb => ?_) (fun hb => ?_)
    · replace h := ite_t hb h
      refine c_seq ?_
      refine c_region rfl ?_
      refine s_q rfl rfl (y_assign rfl ev_const) ?_
      refine s_nil ?_
      refine k_next (e := [(4, (Value.int .i64 (-1)))]) ⟨rfl, trivial⟩ ?_
      refine c_ret ?_
      obtain rfl := some_inj h
      exact q_ret (vs := [(Value.int .i64 (-1))]) Tryd.results49 ⟨ev_tmp rfl rfl, trivial⟩ ⟨rfl, hI.ext0, hI.fin trivial⟩
    · replace h := ite_f hb h
      refine c_skip ?_
      refine k_next (e := []) trivial ?_
      refine c_seq ?_
      refine c_region rfl ?_
      refine s_q rfl rfl (y_assign rfl ev_const) ?_
      refine s_nil ?_
      refine k_next (e := [(4, (Value.int .i64 1))]) ⟨rfl, trivial⟩ ?_
      refine c_ret ?_
      obtain rfl := some_inj h
      exact q_ret (vs := [(Value.int .i64 1)]) Tryd.results49 ⟨ev_tmp rfl rfl, trivial⟩ ⟨rfl, hI.ext0, hI.fin trivial⟩
  · replace h := ite_f hb h
    refine c_skip ?_
    refine k_next (e := [(0, (Value.slice a2 a1.length c1)), (1, (Value.slice a3 b1.length c2))]) ⟨rfl, rfl, trivial⟩ ?_
    refine c_seq ?_
    refine c_seq ?_
    refine c_region rfl ?_
    refine s_q rfl rfl (y_move rfl (ev_tmp rfl rfl)) ?_
    refine s_q rfl rfl (y_lenl rfl Tryd.underlying53 (ev_tmp rfl rfl)) ?_
    refine s_q rfl rfl (y_sub rfl (ev_tmp rfl rfl) ev_const) ?_
    obtain ⟨i1, hx1, h⟩ := bnd_some h
    refine s_q rfl rfl (binU (y_assign rfl (ev_tmp rfl rfl)) (congrArg (Value.int .i64) (some_inj hx1))) ?_
    refine s_nil ?_
    refine k_next (e := [(0, (Value.slice a2 a1.length c1)), (1, (Value.slice a3 b1.length c2)), (5, (Value.int .i64 i1))]) ⟨rfl, rfl, rfl, trivial⟩ ?_
    refine c_block ?_
    refine c_loop (α := Nat × Int) (fun x => fun w => ∃ C, Bun noM F w0 C w [] [Cl.sl (cInt .u32) a2 c1 a1, Cl.sl (cInt .u32) a3 c2 b1] ∧ m_frac_nat_compare_l1 a1 b1 (x.1) (x.2) = some r) (fun x _ => x.1) (fun x => [(0, (Value.slice a2 a1.length c1)), (1, (Value.slice a3 b1.length c2)), (5, (Value.int .i64 (x.2)))]) (fu, i1) ⟨_, hI.arr .n ⟨.z, (.s .z), trivial⟩, h⟩ ⟨rfl, rfl, rfl, trivial⟩ ?_
    clear h hI; rintro ⟨fuel1, i2⟩ w1 ⟨c3, hI, h⟩
    dsimp only at hI h
    rcases fuel1 with _ | fuel1
    · rw [m_frac_nat_compare_l1] at h; cases h
    rw [m_frac_nat_compare_l1] at h
    refine c_sub (e := [(0, (Value.slice a2 a1.length c1)), (1, (Value.slice a3 b1.length c2)), (5, (Value.int .i64 i2))]) ⟨rfl, rfl, rfl, trivial⟩ ?_
    refine c_seq ?_
    refine c_seq ?_
    refine c_region rfl ?_
    refine s_q rfl rfl (y_move rfl (ev_tmp rfl rfl)) ?_
    refine s_q rfl rfl (y_geq rfl (ev_tmp rfl rfl) ev_const) ?_
    refine s_nil ?_
    refine k_next (e := [(0, (Value.slice a2 a1.length c1)), (1, (Value.slice a3 b1.length c2)), (5, (Value.int .i64 i2)), (20, (Value.bool (decide (0 ≤ i2))))]) ⟨rfl, rfl, rfl, rfl, trivial⟩ ?_
    refine c_cond (b := decide (0 ≤ i2)) (ev_tmp rfl rfl) (fun hb => ?_) (fun hb => ?_)
    · replace h := ite_t hb h
      refine c_skip ?_
      refine k_next (e := [(0, (Value.slice a2 a1.length c1)), (1, (Value.slice a3 b1.length c2)), (5, (Value.int .i64 i2))]) ⟨rfl, rfl, rfl, trivial⟩ ?_
      refine c_seq ?_
      refine c_block ?_
      refine c_block ?_
      refine c_seq ?_
      refine c_drawX [] false (.c (0, .q) (.c (1, .q) (.c (2, .q) (.c (3, .q) (.c (4, .q) (.c (5, .q) (.c (6, .q) (.c (7, .q) (.c (8, .q) (.c (9, .q) .n)))))))))) hI (by kernel_rfl) (by kernel_rfl) ?_
      clear hI; intro w2 hI
      refine a_q rfl rfl rfl (fun w' => (y_move rfl (ev_tmp rfl rfl))) ?_
      refine a_q rfl rfl rfl (fun w' => (y_move rfl (ev_tmp rfl rfl))) ?_
      obtain ⟨e1, hx2, h⟩ := bnd_some h
      obtain ⟨ad1, cs1, hA1, hr1, hq1⟩ := hI.clat .z hx2
      obtain rfl : cs1 = [(Value.int .u32 e1)] := hr1
      refine a_q rfl rfl rfl (fun w' => (y_indexAddr rfl Tryd.underlying53 size_54 (ev_tmp rfl rfl) (ev_tmp rfl rfl) (lat_bd hx2) hA1)) ?_
      refine a_read rfl rfl rfl (fun w' hw' => (y_load1 (v := (Value.int .u32 e1)) rfl (ev_tmp rfl rfl) Tryd.underlying54 rfl (hq1.at_ (SX.any rfl hw')))) (by kernel_rfl) ?_
      refine a_q rfl rfl rfl (fun w' => (y_move rfl (ev_tmp rfl rfl))) ?_
      refine a_q rfl rfl rfl (fun w' => (y_move rfl (ev_tmp rfl rfl))) ?_
      obtain ⟨e2, hx3, h⟩ := bnd_some h
      obtain ⟨ad2, cs2, hA2, hr2, hq2⟩ := hI.clat (.s .z) hx3
      obtain rfl : cs2 = [(Value.int .u32 e2)] := hr2
      refine a_q rfl rfl rfl (fun w' => (y_indexAddr rfl Tryd.underlying53 size_54 (ev_tmp rfl rfl) (ev_tmp rfl rfl) (lat_bd hx3) hA2)) ?_
      refine a_read rfl rfl rfl (fun w' hw' => (y_load1 (v := (Value.int .u32 e2)) rfl (ev_tmp rfl rfl) Tryd.underlying54 rfl (hq2.at_ (SX.any rfl hw')))) (by kernel_rfl) ?_
      refine a_q rfl rfl rfl (fun w' => (y_lss rfl (ev_tmp rfl rfl) (ev_tmp rfl rfl))) ?_
      refine a_q rfl rfl rfl (fun w' => (y_assign rfl (ev_tmp rfl rfl))) ?_
      refine a_nil ?_
      refine k_next (e := [(0, (Value.slice a2 a1.length c1)), (1, (Value.slice a3 b1.length c2)), (5, (Value.int .i64 i2)), (23, (Value.bool (decide (e1 < e2))))]) ⟨rfl, rfl, rfl, rfl, trivial⟩ ?_
      refine c_cond (b := decide (e1 < e2)) (ev_tmp rfl rfl) (fun hb => ?_) (fun hb => ?_)
      · replace h := ite_t hb h
        refine c_seq ?_
        refine c_region rfl ?_
        refine s_q rfl rfl (y_assign rfl ev_const) ?_
        refine s_nil ?_
        refine k_next (e := [(4, (Value.int .i64 (-1)))]) ⟨rfl, trivial⟩ ?_
        refine c_ret ?_
        obtain rfl := some_inj h
        exact q_ret (vs := [(Value.int .i64 (-1))]) Tryd.results49 ⟨ev_tmp rfl rfl, trivial⟩ ⟨rfl, hI.ext0, hI.fin trivial⟩
      · replace h := ite_f hb h
        refine c_seq ?_
        refine c_drawX [] false (.c (0, .q) (.c (1, .q) (.c (2, .q) (.c (3, .q) (.c (4, .q) (.c (5, .q) (.c (6, .q) (.c (7, .q) (.c (8, .q) (.c (9, .q) .n)))))))))) hI (by kernel_rfl) (by kernel_rfl) ?_
        clear hI; intro w3 hI
        refine a_q rfl rfl rfl (fun w' => (y_move rfl (ev_tmp rfl rfl))) ?_
        refine a_q rfl rfl rfl (fun w' => (y_move rfl (ev_tmp rfl rfl))) ?_
        obtain ⟨e3, hx4, h⟩ := bnd_some h
        obtain ⟨ad3, cs3, hA3, hr3, hq3⟩ := hI.clat .z hx4
        obtain rfl : cs3 = [(Value.int .u32 e3)] := hr3
        refine a_q rfl rfl rfl (fun w' => (y_indexAddr rfl Tryd.underlying53 size_54 (ev_tmp rfl rfl) (ev_tmp rfl rfl) (lat_bd hx4) hA3)) ?_
        refine a_read rfl rfl rfl (fun w' hw' => (y_load1 (v := (Value.int .u32 e3)) rfl (ev_tmp rfl rfl) Tryd.underlying54 rfl (hq3.at_ (SX.any rfl hw')))) (by kernel_rfl) ?_
        refine a_q rfl rfl rfl (fun w' => (y_move rfl (ev_tmp rfl rfl))) ?_
        refine a_q rfl rfl rfl (fun w' => (y_move rfl (ev_tmp rfl rfl))) ?_
        obtain ⟨e4, hx5, h⟩ := bnd_some h
        obtain ⟨ad4, cs4, hA4, hr4, hq4⟩ := hI.clat (.s .z) hx5
        obtain rfl : cs4 = [(Value.int .u32 e4)] := hr4
        refine a_q rfl rfl rfl (fun w' => (y_indexAddr rfl Tryd.underlying53 size_54 (ev_tmp rfl rfl) (ev_tmp rfl rfl) (lat_bd hx5) hA4)) ?_
        refine a_read rfl rfl rfl (fun w' hw' => (y_load1 (v := (Value.int .u32 e4)) rfl (ev_tmp rfl rfl) Tryd.underlying54 rfl (hq4.at_ (SX.any rfl hw')))) (by kernel_rfl) ?_
        refine a_q rfl rfl rfl (fun w' => (y_gtr rfl (ev_tmp rfl rfl) (ev_tmp rfl rfl))) ?_
        refine a_q rfl rfl rfl (fun w' => (y_assign rfl (ev_tmp rfl rfl))) ?_
        refine a_nil ?_
        refine k_next (e := [(0, (Value.slice a2 a1.length c1)), (1, (Value.slice a3 b1.length c2)), (5, (Value.int .i64 i2)), (33, (Value.bool (decide (e4 < e3))))]) ⟨rfl, rfl, rfl, rfl, trivial⟩ ?_
        refine c_cond (b := decide (e4 < e3)) (ev_tmp rfl rfl) (fun hb => ?_) (fun hb => ?_)
        · replace h := ite_t hb h
          refine c_seq ?_
          refine c_region rfl ?_
          refine s_q rfl rfl (y_assign rfl ev_const) ?_
          refine s_nil ?_
          refine k_next (e := [(4, (Value.int .i64 1))]) ⟨rfl, trivial⟩ ?_
          refine c_ret ?_
          obtain rfl := some_inj h
          exact q_ret (vs := [(Value.int .i64 1)]) Tryd.results49 ⟨ev_tmp rfl rfl, trivial⟩ ⟨rfl, hI.ext0, hI.fin trivial⟩
        · replace h := ite_f hb h
          refine c_skip ?_
          refine k_next (e := [(0, (Value.slice a2 a1.length c1)), (1, (Value.slice a3 b1.length c2)), (5, (Value.int .i64 i2))]) ⟨rfl, rfl, rfl, trivial⟩ ?_
          refine c_region rfl ?_
          refine s_q rfl rfl (y_move rfl (ev_tmp rfl rfl)) ?_
          refine s_q rfl rfl (y_sub rfl (ev_tmp rfl rfl) ev_const) ?_
          refine s_q rfl rfl (y_assign rfl (ev_tmp rfl rfl)) ?_
          refine s_nil ?_
          exact k_loop (fuel1, wi64 (i2 - 1)) ⟨rfl, rfl, rfl, trivial⟩ ⟨_, hI.arr .n ⟨.z, (.s .z), trivial⟩, h⟩ (Nat.lt_succ_self _)
    · replace h := ite_f hb h
      refine c_exit ?_
      refine k_in ?_
      refine k_next (e := []) trivial ?_
      refine c_seq ?_
      refine c_region rfl ?_
      refine s_q rfl rfl (y_assign rfl ev_const) ?_
      refine s_nil ?_
      refine k_next (e := [(4, (Value.int .i64 0))]) ⟨rfl, trivial⟩ ?_
      refine c_ret ?_
      obtain rfl := some_inj h
      exact q_ret (vs := [(Value.int .i64 0)]) Tryd.results49 ⟨ev_tmp rfl rfl, trivial⟩ ⟨rfl, hI.ext0, hI.fin trivial⟩

set_option maxRecDepth 100000 in
set_option maxHeartbeats 4000000 in
theorem c_frac_nat_minus (F : NP) (w0 : World) (hF : ∀ k, F k → k < w0.heap.size) (a1 : List Int) (b1 : List Int) (a2 : Option Addr) (c1 : Nat) (a3 : Option Addr) (c2 : Nat) (hc : AllCl [Cl.sl (cInt .u32) a2 c1 a1, Cl.sl (cInt .u32) a3 c2 b1] F w0) (r : List Int)
    (h : m_frac_nat_minus a1 b1 = some r) :
    Calls Tryd.prog 51 #[(Value.slice a2 a1.length c1), (Value.slice a3 b1.length c2)] w0 fun e w => ∃ (a4 : Option Addr) (c3 : Nat), e = .returned (Value.slice a4 r.length c3) ∧ Ext w0 w ∧ AllCl [Cl.sl (cInt .u32) a4 c3 r] F w := by
  refine ofEnter (R := fun v w => ∃ (a4 : Option Addr) (c3 : Nat), v = (Value.slice a4 r.length c3) ∧ Ext w0 w ∧ AllCl [Cl.sl (cInt .u32) a4 c3 r] F w) (enter (l := [(Value.slice a2 a1.length c1), (Value.slice a3 b1.length c2)]) Tryd.func51 rfl Tryd.ntmps51 rfl ?_) ?_
  rotate_left
  · rintro _ w ⟨a4, c3, rfl, k1, k2⟩; exact ⟨a4, c3, rfl, k1, k2⟩
  have hI := Bun.start hF hc
  clear hc
  rw [m_frac_nat_minus] at h
  refine c_seq ?_
  refine c_region rfl ?_
  refine s_q rfl rfl (y_assign rfl ev_const) ?_
  refine s_nil ?_
  refine k_next (e := [(0, (Value.slice a2 a1.length c1)), (1, (Value.slice a3 b1.length c2))]) ⟨rfl, rfl, trivial⟩ ?_
  refine c_seq ?_
  refine c_region rfl ?_
  refine s_q rfl rfl (y_move rfl (ev_tmp rfl rfl)) ?_
  refine s_q rfl rfl (y_lenl rfl Tryd.underlying53 (ev_tmp rfl rfl)) ?_
  obtain ⟨zs1, hx1, h⟩ := bnd_some h
  refine l_make (c := (cInt .u32)) hI hx1 rfl rfl rfl Tryd.underlying53 info_54 rfl rfl (ev_tmp rfl rfl) (ev_tmp rfl rfl) rfl ?_
  clear hI; intro b2 c4 w1 hI
  refine s_q rfl rfl (y_assign rfl (ev_tmp rfl rfl)) ?_
  refine s_nil ?_
  refine k_next (e := [(0, (Value.slice a2 a1.length c1)), (1, (Value.slice a3 b1.length c2)), (5, (Value.slice (some ⟨b2, 0, none⟩) zs1.length (((a1.length : Int)).toNat)))]) ⟨rfl, rfl, rfl, trivial⟩ ?_
  refine c_seq ?_
  refine c_region rfl ?_
  refine s_q rfl rfl (y_assign rfl ev_const) ?_
  refine s_nil ?_
  refine k_next (e := [(0, (Value.slice a2 a1.length c1)), (1, (Value.slice a3 b1.length c2)), (5, (Value.slice (some ⟨b2, 0, none⟩) zs1.length (((a1.length : Int)).toNat))), (6, (Value.int .i64 0))]) ⟨rfl, rfl, rfl, rfl, trivial⟩ ?_
  refine c_seq ?_
  refine c_seq ?_
  refine c_region rfl ?_
  refine s_q rfl rfl (y_move rfl (ev_tmp rfl rfl)) ?_
  refine s_q rfl rfl (y_lenl rfl Tryd.underlying53 (ev_tmp rfl rfl)) ?_
  refine s_q rfl rfl (y_move rfl ev_const) ?_
  refine s_nil ?_
  refine k_next (e := [(1, (Value.slice a3 b1.length c2)), (5, (Value.slice (some ⟨b2, 0, none⟩) zs1.length (((a1.length : Int)).toNat))), (6, (Value.int .i64 0)), (13, (Value.slice a2 a1.length c1)), (14, (Value.int .i64 (a1.length : Int))), (15, (Value.int .i64 0))]) ⟨rfl, rfl, rfl, rfl, rfl, rfl, trivial⟩ ?_
  refine c_block ?_
  refine c_loop (α := Nat × (List Int) × Int × Int × (Option Addr) × Nat) (fun x => fun w => ∃ C, Bun noM F w0 C w [MO.row (cInt .u32) 54 (x.2.2.2.2.1) (x.2.2.2.2.2) (x.2.1)] [Cl.sl (cInt .u32) a3 c2 b1, Cl.sl (cInt .u32) a2 c1 a1] ∧ m_frac_nat_minus_l1 a1 b1 (x.1) (x.2.1) (x.2.2.1) (x.2.2.2.1) = some r) (fun x _ => x.1) (fun x => [(1, (Value.slice a3 b1.length c2)), (5, (Value.slice (x.2.2.2.2.1) (x.2.1).length (x.2.2.2.2.2))), (6, (Value.int .i64 (x.2.2.1))), (13, (Value.slice a2 a1.length c1)), (14, (Value.int .i64 (a1.length : Int))), (15, (Value.int .i64 (x.2.2.2.1)))]) (fu, zs1, 0, 0, some ⟨b2, 0, none⟩, ((a1.length : Int)).toNat) ⟨_, hI.arr (.c .z .n) ⟨(.s .z), .z, trivial⟩, h⟩ ⟨rfl, rfl, rfl, rfl, rfl, rfl, trivial⟩ ?_
  clear h hI; rintro ⟨fuel1, out1, borrow1, i1, a5, c5⟩ w2 ⟨c6, hI, h⟩
  dsimp only at hI h
  rcases fuel1 with _ | fuel1
  · rw [m_frac_nat_minus_l1] at h; cases h
  rw [m_frac_nat_minus_l1] at h
  refine c_sub (e := [(1, (Value.slice a3 b1.length c2)), (5, (Value.slice a5 out1.length c5)), (6, (Value.int .i64 borrow1)), (13, (Value.slice a2 a1.length c1)), (14, (Value.int .i64 (a1.length : Int))), (15, (Value.int .i64 i1))]) ⟨rfl, rfl, rfl, rfl, rfl, rfl, trivial⟩ ?_
  refine c_seq ?_
  refine c_region rfl ?_
  refine s_q rfl rfl (y_lss rfl (ev_tmp rfl rfl) (ev_tmp rfl rfl)) ?_
  refine s_nil ?_
  refine k_next (e := [(1, (Value.slice a3 b1.length c2)), (5, (Value.slice a5 out1.length c5)), (6, (Value.int .i64 borrow1)), (13, (Value.slice a2 a1.length c1)), (14, (Value.int .i64 (a1.length : Int))), (15, (Value.int .i64 i1)), (16, (Value.bool (decide (i1 < (a1.length : Int)))))]) ⟨rfl, rfl, rfl, rfl, rfl, rfl, rfl, trivial⟩ ?_
  refine c_seq ?_
  refine c_cond (b := decide (i1 < (a1.length : Int))) (ev_tmp rfl rfl) (fun hb => ?_) (fun hb => ?_)
  · replace h := ite_t hb h
    refine c_skip ?_
    refine k_next (e := [(1, (Value.slice a3 b1.length c2)), (5, (Value.slice a5 out1.length c5)), (6, (Value.int .i64 borrow1)), (13, (Value.slice a2 a1.length c1)), (14, (Value.int .i64 (a1.length : Int))), (15, (Value.int .i64 i1))]) ⟨rfl, rfl, rfl, rfl, rfl, rfl, trivial⟩ ?_
    refine c_seq ?_
    refine c_block ?_
    refine c_seq ?_
    refine c_region rfl ?_
    refine s_q rfl rfl (y_move rfl (ev_tmp rfl rfl)) ?_
    obtain ⟨e1, hx2, h⟩ := bnd_some h
    obtain ⟨ad1, cs1, hA1, hr1, hq1⟩ := hI.clat (.s .z) hx2
    obtain rfl : cs1 = [(Value.int .u32 e1)] := hr1
    refine s_q rfl rfl (y_indexAddr rfl Tryd.underlying53 size_54 (ev_tmp rfl rfl) (ev_tmp rfl rfl) (lat_bd hx2) hA1) ?_
    refine s_q rfl rfl (y_load1 (v := (Value.int .u32 e1)) rfl (ev_tmp rfl rfl) Tryd.underlying54 rfl hq1.1) ?_
    refine s_q rfl rfl (y_assign rfl (ev_tmp rfl rfl)) ?_
    refine s_q rfl rfl (y_assign rfl (ev_tmp rfl rfl)) ?_
    refine s_nil ?_
    refine k_next (e := [(1, (Value.slice a3 b1.length c2)), (5, (Value.slice a5 out1.length c5)), (6, (Value.int .i64 borrow1)), (13, (Value.slice a2 a1.length c1)), (14, (Value.int .i64 (a1.length : Int))), (15, (Value.int .i64 i1)), (7, (Value.int .i64 i1)), (8, (Value.int .u32 e1))]) ⟨rfl, rfl, rfl, rfl, rfl, rfl, rfl, rfl, trivial⟩ ?_
    refine c_seq ?_
    refine c_region rfl ?_
    refine s_q rfl rfl (y_move rfl (ev_tmp rfl rfl)) ?_
    refine s_q rfl rfl (y_conv rfl (by rw [Tryd.underlying54]; rfl) Tryd.underlying2 (ev_tmp rfl rfl)) ?_
    refine s_q rfl rfl (y_move rfl (ev_tmp rfl rfl)) ?_
    refine s_q rfl rfl (y_sub rfl (ev_tmp rfl rfl) (ev_tmp rfl rfl)) ?_
    obtain ⟨x1, hx3, h⟩ := bnd_some h
    refine s_q rfl rfl (binU (y_assign rfl (ev_tmp rfl rfl)) (congrArg (Value.int .i64) (some_inj hx3))) ?_
    refine s_nil ?_
    refine k_next (e := [(1, (Value.slice a3 b1.length c2)), (5, (Value.slice a5 out1.length c5)), (13, (Value.slice a2 a1.length c1)), (14, (Value.int .i64 (a1.length : Int))), (15, (Value.int .i64 i1)), (7, (Value.int .i64 i1)), (9, (Value.int .i64 x1))]) ⟨rfl, rfl, rfl, rfl, rfl, rfl, rfl, trivial⟩ ?_
    refine c_join (α := Int) (fun _ => ⟨47, []⟩) (fun x => [(1, (Value.slice a3 b1.length c2)), (5, (Value.slice a5 out1.length c5)), (13, (Value.slice a2 a1.length c1)), (14, (Value.int .i64 (a1.length : Int))), (15, (Value.int .i64 i1)), (7, (Value.int .i64 i1)), (9, (Value.int .i64 x))]) (fun x => fun w => ∃ C, Bun noM F w0 C w [MO.row (cInt .u32) 54 a5 c5 out1] [Cl.sl (cInt .u32) a3 c2 b1, Cl.sl (cInt .u32) a2 c1 a1] ∧ m_frac_nat_minus_j1 i1 out1 (m_frac_nat_minus_l1 a1 b1 fuel1) x = some r) ?_ ?_
    · clear h hI; rintro x2 w3 ⟨c7, hI, h⟩
      try dsimp only at hI h
      rw [m_frac_nat_minus_j1] at h
      refine c_sub (e := [(1, (Value.slice a3 b1.length c2)), (5, (Value.slice a5 out1.length c5)), (13, (Value.slice a2 a1.length c1)), (14, (Value.int .i64 (a1.length : Int))), (15, (Value.int .i64 i1)), (7, (Value.int .i64 i1)), (9, (Value.int .i64 x2))]) ⟨rfl, rfl, rfl, rfl, rfl, rfl, rfl, trivial⟩ ?_
      refine c_seq ?_
      refine c_region rfl ?_
      refine s_q rfl rfl (y_assign rfl ev_const) ?_
      refine s_nil ?_
      refine k_next (e := [(1, (Value.slice a3 b1.length c2)), (5, (Value.slice a5 out1.length c5)), (13, (Value.slice a2 a1.length c1)), (14, (Value.int .i64 (a1.length : Int))), (15, (Value.int .i64 i1)), (7, (Value.int .i64 i1)), (9, (Value.int .i64 x2)), (6, (Value.int .i64 0))]) ⟨rfl, rfl, rfl, rfl, rfl, rfl, rfl, rfl, trivial⟩ ?_
      refine c_join (α := Int × Int) (fun _ => ⟨47, []⟩) (fun x => [(1, (Value.slice a3 b1.length c2)), (5, (Value.slice a5 out1.length c5)), (13, (Value.slice a2 a1.length c1)), (14, (Value.int .i64 (a1.length : Int))), (15, (Value.int .i64 i1)), (7, (Value.int .i64 i1)), (9, (Value.int .i64 (x.1))), (6, (Value.int .i64 (x.2)))]) (fun x => fun w => ∃ C, Bun noM F w0 C w [MO.row (cInt .u32) 54 a5 c5 out1] [Cl.sl (cInt .u32) a3 c2 b1, Cl.sl (cInt .u32) a2 c1 a1] ∧ m_frac_nat_minus_j2 i1 out1 (m_frac_nat_minus_l1 a1 b1 fuel1) (x.1) (x.2) = some r) ?_ ?_
      · clear h hI; rintro ⟨x3, borrow2⟩ w4 ⟨c8, hI, h⟩
        try dsimp only at hI h
        rw [m_frac_nat_minus_j2] at h
        refine c_sub (e := [(1, (Value.slice a3 b1.length c2)), (5, (Value.slice a5 out1.length c5)), (13, (Value.slice a2 a1.length c1)), (14, (Value.int .i64 (a1.length : Int))), (15, (Value.int .i64 i1)), (7, (Value.int .i64 i1)), (9, (Value.int .i64 x3)), (6, (Value.int .i64 borrow2))]) ⟨rfl, rfl, rfl, rfl, rfl, rfl, rfl, rfl, trivial⟩ ?_
        refine c_region rfl ?_
        refine s_q rfl rfl (y_move rfl (ev_tmp rfl rfl)) ?_
        refine s_q rfl rfl (y_move rfl (ev_tmp rfl rfl)) ?_
        refine s_q rfl rfl (y_move rfl (ev_tmp rfl rfl)) ?_
        refine s_q rfl rfl (y_conv rfl (by rw [Tryd.underlying2]; rfl) Tryd.underlying54 (ev_tmp rfl rfl)) ?_
        obtain ⟨ho1, h⟩ := chk_some h
        obtain ⟨ad2, hA2⟩ := hI.addr .z ho1
        refine s_q rfl rfl (y_indexAddr rfl Tryd.underlying53 size_54 (ev_tmp rfl rfl) (ev_tmp rfl rfl) ho1 hA2) ?_
        refine l_storeRow (new := [(Value.int .u32 (wu32 x3))]) (off := 0) (x' := wu32 x3) hI .z rfl rfl rfl (by have := ho1; omega) hA2 rfl (ev_tmp rfl rfl) (ev_tmp rfl rfl) rfl size_54 rfl (by show 0 + 1 ≤ 1; omega) (fun _ cs0 _ hr0 => by rw [spl_full (by have e := Cod.len _ hr0; exact e)]; exact rfl) ?_
        clear hI; intro c9 w5 hI
        refine s_nil ?_
        refine k_next (e := [(1, (Value.slice a3 b1.length c2)), (5, (Value.slice a5 (out1.set (Int.toNat i1) (wu32 x3)).length c5)), (13, (Value.slice a2 a1.length c1)), (14, (Value.int .i64 (a1.length : Int))), (15, (Value.int .i64 i1)), (6, (Value.int .i64 borrow2))]) ⟨rfl, (lookset rfl), rfl, rfl, rfl, rfl, trivial⟩ ?_
        refine c_region rfl ?_
        refine s_q rfl rfl (y_add rfl (ev_tmp rfl rfl) ev_const) ?_
        refine s_q rfl rfl (y_move rfl (ev_tmp rfl rfl)) ?_
        refine s_nil ?_
        exact k_loop (fuel1, out1.set (Int.toNat i1) (wu32 x3), borrow2, wi64 (i1 + 1), a5, c5) ⟨rfl, rfl, rfl, rfl, rfl, rfl, trivial⟩ ⟨_, hI.arr (.c .z .n) ⟨.z, (.s .z), trivial⟩, h⟩ (Nat.lt_succ_self _)
      · skip
        refine c_seq ?_
        refine c_region rfl ?_
        refine s_q rfl rfl (y_move rfl (ev_tmp rfl rfl)) ?_
        refine s_q rfl rfl (y_lss rfl (ev_tmp rfl rfl) ev_const) ?_
        refine s_nil ?_
        refine k_next (e := [(1, (Value.slice a3 b1.length c2)), (5, (Value.slice a5 out1.length c5)), (13, (Value.slice a2 a1.length c1)), (14, (Value.int .i64 (a1.length : Int))), (15, (Value.int .i64 i1)), (7, (Value.int .i64 i1)), (9, (Value.int .i64 x2)), (6, (Value.int .i64 0)), (36, (Value.bool (decide (x2 < 0))))]) ⟨rfl, rfl, rfl, rfl, rfl, rfl, rfl, rfl, rfl, trivial⟩ ?_
        refine c_cond (b := decide (x2 < 0)) (ev_tmp rfl rfl) (fun hb => ?_) (fun hb => ?_)
        · replace h := ite_t hb h
          refine c_seq ?_
          refine c_region rfl ?_
          refine s_q rfl rfl (y_move rfl (ev_tmp rfl rfl)) ?_
          refine s_q rfl rfl (y_add rfl (ev_tmp rfl rfl) ev_const) ?_
          refine s_q rfl rfl (y_assign rfl (ev_tmp rfl rfl)) ?_
          refine s_nil ?_
          refine k_next (e := [(1, (Value.slice a3 b1.length c2)), (5, (Value.slice a5 out1.length c5)), (13, (Value.slice a2 a1.length c1)), (14, (Value.int .i64 (a1.length : Int))), (15, (Value.int .i64 i1)), (7, (Value.int .i64 i1)), (9, (Value.int .i64 (wi64 (x2 + 4294967296))))]) ⟨rfl, rfl, rfl, rfl, rfl, rfl, rfl, trivial⟩ ?_
          refine c_region rfl ?_
          refine s_q rfl rfl (y_assign rfl ev_const) ?_
          refine s_nil ?_
          exact k_join (wi64 (x2 + 4294967296), 1) ⟨rfl, rfl, rfl, rfl, rfl, rfl, rfl, rfl, trivial⟩ ⟨_, hI.arr (.c .z .n) ⟨.z, (.s .z), trivial⟩, h⟩ rfl
        · replace h := ite_f hb h
          refine c_skip ?_
          exact k_join (x2, 0) ⟨rfl, rfl, rfl, rfl, rfl, rfl, rfl, rfl, trivial⟩ ⟨_, hI.arr (.c .z .n) ⟨.z, (.s .z), trivial⟩, h⟩ rfl
    · skip
      refine c_seq ?_
      refine c_region rfl ?_
      refine s_q rfl rfl (y_move rfl (ev_tmp rfl rfl)) ?_
      refine s_q rfl rfl (y_move rfl (ev_tmp rfl rfl)) ?_
      refine s_q rfl rfl (y_lenl rfl Tryd.underlying53 (ev_tmp rfl rfl)) ?_
      refine s_q rfl rfl (y_lss rfl (ev_tmp rfl rfl) (ev_tmp rfl rfl)) ?_
      refine s_nil ?_
      refine k_next (e := [(1, (Value.slice a3 b1.length c2)), (5, (Value.slice a5 out1.length c5)), (13, (Value.slice a2 a1.length c1)), (14, (Value.int .i64 (a1.length : Int))), (15, (Value.int .i64 i1)), (7, (Value.int .i64 i1)), (9, (Value.int .i64 x1)), (27, (Value.bool (decide (i1 < (b1.length : Int)))))]) ⟨rfl, rfl, rfl, rfl, rfl, rfl, rfl, rfl, trivial⟩ ?_
      refine c_cond (b := decide (i1 < (b1.length : Int))) (ev_tmp rfl rfl) (fun hb => ?_) (fun hb => ?_)
      · replace h := ite_t hb h
        refine c_region rfl ?_
        refine s_q rfl rfl (y_move rfl (ev_tmp rfl rfl)) ?_
        refine s_q rfl rfl (y_move rfl (ev_tmp rfl rfl)) ?_
        refine s_q rfl rfl (y_move rfl (ev_tmp rfl rfl)) ?_
        obtain ⟨e2, hx4, h⟩ := bnd_some h
        obtain ⟨ad3, cs2, hA3, hr2, hq2⟩ := hI.clat .z hx4
        obtain rfl : cs2 = [(Value.int .u32 e2)] := hr2
        refine s_q rfl rfl (y_indexAddr rfl Tryd.underlying53 size_54 (ev_tmp rfl rfl) (ev_tmp rfl rfl) (lat_bd hx4) hA3) ?_
        refine s_q rfl rfl (y_load1 (v := (Value.int .u32 e2)) rfl (ev_tmp rfl rfl) Tryd.underlying54 rfl hq2.1) ?_
        refine s_q rfl rfl (y_conv rfl (by rw [Tryd.underlying54]; rfl) Tryd.underlying2 (ev_tmp rfl rfl)) ?_
        refine s_q rfl rfl (y_sub rfl (ev_tmp rfl rfl) (ev_tmp rfl rfl)) ?_
        refine s_q rfl rfl (y_assign rfl (ev_tmp rfl rfl)) ?_
        refine s_nil ?_
        exact k_join (wi64 (x1 - (wi64 e2))) ⟨rfl, rfl, rfl, rfl, rfl, rfl, rfl, trivial⟩ ⟨_, hI.arr (.c .z .n) ⟨.z, (.s .z), trivial⟩, h⟩ rfl
      · replace h := ite_f hb h
        refine c_skip ?_
        exact k_join x1 ⟨rfl, rfl, rfl, rfl, rfl, rfl, rfl, trivial⟩ ⟨_, hI.arr (.c .z .n) ⟨.z, (.s .z), trivial⟩, h⟩ rfl
  · replace h := ite_f hb h
    refine c_exit ?_
    refine k_in ?_
    refine k_next (e := [(5, (Value.slice a5 out1.length c5))]) ⟨rfl, trivial⟩ ?_
    refine c_seq ?_
    refine c_region rfl ?_
    refine s_q rfl rfl (y_move rfl (ev_tmp rfl rfl)) ?_
    obtain ⟨c10, hI⟩ := hI.release .z
    obtain ⟨r1, hx5, h⟩ := bnd_some h
    refine s_call rfl rfl (r_callF (vs := [(Value.slice a5 out1.length c5)]) rfl ok_69 ⟨(ev_tmp rfl rfl), trivial⟩) (Calls.mono (c_frac_nat_norm (Dj F c10) w2 hI.lt out1 a5 c5 ⟨(hI.get .z), trivial⟩ r1 hx5) ?_)
    rintro _ w6 ⟨a6, c11, rfl, hx6, hl1⟩
    refine ⟨_, rfl, ?_⟩
    replace hI := (hI.ext hx6).adds hl1
    refine s_q rfl rfl (y_assign rfl (ev_tmp rfl rfl)) ?_
    refine s_nil ?_
    refine k_next (e := [(4, (Value.slice a6 r1.length c11))]) ⟨rfl, trivial⟩ ?_
    refine c_ret ?_
    obtain rfl := some_inj h
    exact q_ret (vs := [(Value.slice a6 r1.length c11)]) Tryd.results51 ⟨ev_tmp rfl rfl, trivial⟩ ⟨a6, c11, rfl, hI.ext0, hI.fin ⟨.z, trivial⟩⟩

set_option maxRecDepth 100000 in
set_option maxHeartbeats 4000000 in
theorem c_frac_nat_even (F : NP) (w0 : World) (hF : ∀ k, F k → k < w0.heap.size) (a1 : List Int) (a2 : Option Addr) (c1 : Nat) (hc : AllCl [Cl.sl (cInt .u32) a2 c1 a1] F w0) (r : Bool)
    (h : m_frac_nat_even a1 = some r) :
    Calls Tryd.prog 80 #[(Value.slice a2 a1.length c1)] w0 fun e w => e = .returned (Value.bool r) ∧ Ext w0 w ∧ AllCl [] F w := by
  refine ofEnter (R := fun v w => v = (Value.bool r) ∧ Ext w0 w ∧ AllCl [] F w) (enter (l := [(Value.slice a2 a1.length c1)]) Tryd.func80 rfl Tryd.ntmps80 rfl ?_) ?_
  rotate_left
  · rintro _ w ⟨rfl, k1, k2⟩; exact ⟨rfl, k1, k2⟩
  have hI := Bun.start hF hc
  clear hc
  rw [m_frac_nat_even] at h
  refine c_seq ?_
  refine c_region rfl ?_
  refine s_q rfl rfl (y_assign rfl ev_const) ?_
  refine s_nil ?_
  refine k_next (e := [(0, (Value.slice a2 a1.length c1))]) ⟨rfl, trivial⟩ ?_
  refine c_seq ?_
  refine c_region rfl ?_
  refine s_q rfl rfl (y_move rfl (ev_tmp rfl rfl)) ?_
  refine s_q rfl rfl (y_lenl rfl Tryd.underlying53 (ev_tmp rfl rfl)) ?_
  refine s_q rfl rfl (y_eql rfl (ev_tmp rfl rfl) ev_const) ?_
  refine s_q rfl rfl (y_move rfl (ev_tmp rfl rfl)) ?_
  refine s_gval (g_false rfl rfl rfl rfl) rfl (fun hc => (y_move rfl (ev_tmp rfl rfl))) ?_
  obtain ⟨e1, hx1, h⟩ := bnd_some h
  replace hx1 := gd_some hx1
  obtain ⟨ad1, cs1, hq1⟩ := hI.gclat .z hx1
  have hq2 : (!(decide ((a1.length : Int) = 0))) = true → CA (Dj F noM) w0 (ad1.add (Int.toNat 0 * 1)) [(Value.int .u32 e1)] := fun hc => by have k := hq1 hc; have e : cs1 = _ := k.2.1; rw [← e]; exact k.2.2
  refine s_gval (g_false rfl rfl rfl rfl) rfl (fun hc => (y_indexAddr rfl Tryd.underlying53 size_54 (ev_gv (ev_tmp rfl rfl) hc) ev_const (lat_bd (hx1 hc)) (hq1 hc).1)) ?_
  refine s_gval (g_false rfl rfl rfl rfl) rfl (fun hc => (y_load1 (v := (Value.int .u32 e1)) rfl (ev_gv (ev_tmp rfl rfl) hc) Tryd.underlying54 rfl (hq2 hc).1)) ?_
  refine s_gval (g_false rfl rfl rfl rfl) rfl (fun hc => (y_rem rfl (ev_gv (ev_tmp rfl rfl) hc) ev_const (by decide))) ?_
  refine s_gval (g_false rfl rfl rfl rfl) rfl (fun hc => (y_eql rfl (ev_gv (ev_tmp rfl rfl) hc) ev_const)) ?_
  refine s_q rfl rfl (y_or rfl (ev_tmp rfl rfl) (ev_tmp rfl rfl)) ?_
  refine s_q rfl rfl (y_assign rfl (ev_tmp rfl rfl)) ?_
  refine s_nil ?_
  refine k_next (e := [(2, (Value.bool ((decide ((a1.length : Int) = 0)) || (decide (Int.tmod e1 2 = 0)))))]) ⟨rfl, trivial⟩ ?_
  refine c_ret ?_
  obtain rfl := some_inj h
  exact q_ret (vs := [(Value.bool ((decide ((a1.length : Int) = 0)) || (decide (Int.tmod e1 2 = 0))))]) Tryd.results80 ⟨ev_tmp rfl rfl, trivial⟩ ⟨rfl, hI.ext0, hI.fin trivial⟩

set_option maxRecDepth 100000 in
set_option maxHeartbeats 4000000 in
theorem c_frac_nat_half (F : NP) (w0 : World) (hF : ∀ k, F k → k < w0.heap.size) (a1 : List Int) (a2 : Option Addr) (c1 : Nat) (hc : AllCl [Cl.sl (cInt .u32) a2 c1 a1] F w0) (r : List Int)
    (h : m_frac_nat_half a1 = some r) :
    Calls Tryd.prog 81 #[(Value.slice a2 a1.length c1)] w0 fun e w => ∃ (a3 : Option Addr) (c2 : Nat), e = .returned (Value.slice a3 r.length c2) ∧ Ext w0 w ∧ AllCl [Cl.sl (cInt .u32) a3 c2 r] F w := by
  refine ofEnter (R := fun v w => ∃ (a3 : Option Addr) (c2 : Nat), v = (Value.slice a3 r.length c2) ∧ Ext w0 w ∧ AllCl [Cl.sl (cInt .u32) a3 c2 r] F w) (enter (l := [(Value.slice a2 a1.length c1)]) Tryd.func81 rfl Tryd.ntmps81 rfl ?_) ?_
  rotate_left
  · rintro _ w ⟨a3, c2, rfl, k1, k2⟩; exact ⟨a3, c2, rfl, k1, k2⟩
  have hI := Bun.start hF hc
  clear hc
  rw [m_frac_nat_half] at h
  refine c_seq ?_
  refine c_region rfl ?_
  refine s_q rfl rfl (y_assign rfl ev_const) ?_
  refine s_nil ?_
  refine k_next (e := [(0, (Value.slice a2 a1.length c1))]) ⟨rfl, trivial⟩ ?_
  refine c_seq ?_
  refine c_region rfl ?_
  refine s_q rfl rfl (y_move rfl (ev_tmp rfl rfl)) ?_
  obtain ⟨r1, hx1, h⟩ := bnd_some h
  refine s_call rfl rfl (r_callF (vs := [(Value.slice a2 a1.length c1), (Value.int .u32 2)]) rfl ok_46 ⟨(ev_tmp rfl rfl), ⟨ev_const, trivial⟩⟩) (Calls.mono (c_frac_nat_div (Dj F noM) w0 hI.lt a1 2 a2 c1 ⟨(hI.get .z), trivial⟩ r1 hx1) ?_)
  rintro _ w1 ⟨a4, c3, rfl, hx2, hl1⟩
  refine ⟨_, rfl, ?_⟩
  replace hI := (hI.ext hx2).adds hl1
  refine s_q rfl rfl (y_move rfl (ev_tmp rfl rfl)) ?_
  refine s_q rfl rfl (y_extract rfl (ev_tmp rfl rfl) rfl) ?_
  refine s_q rfl rfl (y_extract rfl (ev_tmp rfl rfl) rfl) ?_
  refine s_q rfl rfl (y_assign rfl (ev_tmp rfl rfl)) ?_
  refine s_q rfl rfl (y_assign rfl (ev_tmp rfl rfl)) ?_
  refine s_nil ?_
  refine k_next (e := [(3, (Value.slice a4 r1.1.length c3))]) ⟨rfl, trivial⟩ ?_
  refine c_seq ?_
  refine c_region rfl ?_
  refine s_q rfl rfl (y_move rfl (ev_tmp rfl rfl)) ?_
  refine s_q rfl rfl (y_assign rfl (ev_tmp rfl rfl)) ?_
  refine s_nil ?_
  refine k_next (e := [(2, (Value.slice a4 r1.1.length c3))]) ⟨rfl, trivial⟩ ?_
  refine c_ret ?_
  obtain rfl := some_inj h
  exact q_ret (vs := [(Value.slice a4 r1.1.length c3)]) Tryd.results81 ⟨ev_tmp rfl rfl, trivial⟩ ⟨a4, c3, rfl, hI.ext0, hI.fin ⟨.z, trivial⟩⟩

set_option maxRecDepth 100000 in
set_option maxHeartbeats 4000000 in
theorem c_frac_common (F : NP) (w0 : World) (hF : ∀ k, F k → k < w0.heap.size) (a1 : List Int) (b1 : List Int) (a2 : Option Addr) (c1 : Nat) (a3 : Option Addr) (c2 : Nat) (hc : AllCl [Cl.sl (cInt .u32) a2 c1 a1, Cl.sl (cInt .u32) a3 c2 b1] F w0) (r : List Int)
    (h : m_frac_common a1 b1 = some r) :
    Calls Tryd.prog 70 #[(Value.slice a2 a1.length c1), (Value.slice a3 b1.length c2)] w0 fun e w => ∃ (a4 : Option Addr) (c3 : Nat), e = .returned (Value.slice a4 r.length c3) ∧ Ext w0 w ∧ AllCl [Cl.sl (cInt .u32) a4 c3 r] F w := by
  refine ofEnter (R := fun v w => ∃ (a4 : Option Addr) (c3 : Nat), v = (Value.slice a4 r.length c3) ∧ Ext w0 w ∧ AllCl [Cl.sl (cInt .u32) a4 c3 r] F w) (enter (l := [(Value.slice a2 a1.length c1), (Value.slice a3 b1.length c2)]) Tryd.func70 rfl Tryd.ntmps70 rfl ?_) ?_
  rotate_left
  · rintro _ w ⟨a4, c3, rfl, k1, k2⟩; exact ⟨a4, c3, rfl, k1, k2⟩
  have hI := Bun.start hF hc
  clear hc
  rw [m_frac_common] at h
  refine c_seq ?_
  refine c_region rfl ?_
  refine s_q rfl rfl (y_assign rfl ev_const) ?_
  refine s_nil ?_
  refine k_next (e := [(0, (Value.slice a2 a1.length c1)), (1, (Value.slice a3 b1.length c2))]) ⟨rfl, rfl, trivial⟩ ?_
  refine c_seq ?_
  refine c_region rfl ?_
  refine s_q rfl rfl (y_assign rfl ev_const) ?_
  refine s_nil ?_
  refine k_next (e := [(0, (Value.slice a2 a1.length c1)), (1, (Value.slice a3 b1.length c2)), (5, (Value.int .i64 0))]) ⟨rfl, rfl, rfl, trivial⟩ ?_
  refine c_join (α := (List Int) × (List Int) × Int × (Option Addr) × Nat × (Option Addr) × Nat) (fun _ => ⟨50, []⟩) (fun x => [(0, (Value.slice (x.2.2.2.1) (x.1).length (x.2.2.2.2.1))), (1, (Value.slice (x.2.2.2.2.2.1) (x.2.1).length (x.2.2.2.2.2.2))), (5, (Value.int .i64 (x.2.2.1)))]) (fun x => fun w => ∃ C, Bun noM F w0 C w [] [Cl.sl (cInt .u32) (x.2.2.2.1) (x.2.2.2.2.1) (x.1), Cl.sl (cInt .u32) (x.2.2.2.2.2.1) (x.2.2.2.2.2.2) (x.2.1)] ∧ m_frac_common_j1 (x.1) (x.2.1) (x.2.2.1) = some r) ?_ ?_
  · clear h hI; rintro ⟨a5, b2, shift1, a6, c4, a7, c5⟩ w1 ⟨c6, hI, h⟩
    try dsimp only at hI h
    rw [m_frac_common_j1] at h
    refine c_sub (e := [(0, (Value.slice a6 a5.length c4)), (1, (Value.slice a7 b2.length c5)), (5, (Value.int .i64 shift1))]) ⟨rfl, rfl, rfl, trivial⟩ ?_
    refine c_join (α := (List Int) × (Option Addr) × Nat) (fun _ => ⟨50, []⟩) (fun x => [(0, (Value.slice (x.2.1) (x.1).length (x.2.2))), (5, (Value.int .i64 shift1))]) (fun x => fun w => ∃ C, Bun noM F w0 C w [] [Cl.sl (cInt .u32) (x.2.1) (x.2.2) (x.1)] ∧ m_frac_common_j2 shift1 (x.1) = some r) ?_ ?_
    · clear h hI; rintro ⟨a8, a9, c7⟩ w2 ⟨c8, hI, h⟩
      try dsimp only at hI h
      rw [m_frac_common_j2] at h
      refine c_sub (e := [(0, (Value.slice a9 a8.length c7)), (5, (Value.int .i64 shift1))]) ⟨rfl, rfl, trivial⟩ ?_
      refine c_seq ?_
      refine c_block ?_
      refine c_loop (α := Nat × (List Int) × Int × (Option Addr) × Nat) (fun x => fun w => ∃ C, Bun noM F w0 C w [] [Cl.sl (cInt .u32) (x.2.2.2.1) (x.2.2.2.2) (x.2.1)] ∧ m_frac_common_l1 (x.1) (x.2.1) (x.2.2.1) = some r) (fun x _ => x.1) (fun x => [(0, (Value.slice (x.2.2.2.1) (x.2.1).length (x.2.2.2.2))), (5, (Value.int .i64 (x.2.2.1)))]) (fu, a8, shift1, a9, c7) ⟨_, hI.arr .n ⟨.z, trivial⟩, h⟩ ⟨rfl, rfl, trivial⟩ ?_
      clear h hI; rintro ⟨fuel1, a10, shift2, a11, c9⟩ w3 ⟨c10, hI, h⟩
      dsimp only at hI h
      rcases fuel1 with _ | fuel1
      · rw [m_frac_common_l1] at h; cases h
      rw [m_frac_common_l1] at h
      refine c_sub (e := [(0, (Value.slice a11 a10.length c9)), (5, (Value.int .i64 shift2))]) ⟨rfl, rfl, trivial⟩ ?_
      refine c_seq ?_
      refine c_seq ?_
      refine c_region rfl ?_
      refine s_q rfl rfl (y_move rfl (ev_tmp rfl rfl)) ?_
      refine s_q rfl rfl (y_gtr rfl (ev_tmp rfl rfl) ev_const) ?_
      refine s_nil ?_
      refine k_next (e := [(0, (Value.slice a11 a10.length c9)), (5, (Value.int .i64 shift2)), (44, (Value.bool (decide (0 < shift2))))]) ⟨rfl, rfl, rfl, trivial⟩ ?_
      refine c_cond (b := decide (0 < shift2)) (ev_tmp rfl rfl) (fun hb => ?_) (fun hb => ?_)
      · replace h := ite_t hb h
        refine c_skip ?_
        refine k_next (e := [(0, (Value.slice a11 a10.length c9)), (5, (Value.int .i64 shift2))]) ⟨rfl, rfl, trivial⟩ ?_
        refine c_seq ?_
        refine c_block ?_
        refine c_region rfl ?_
        refine s_q rfl rfl (y_move rfl (ev_tmp rfl rfl)) ?_
        obtain ⟨r1, hx1, h⟩ := bnd_some h
        refine s_call rfl rfl (r_callF (vs := [(Value.slice a11 a10.length c9), (Value.int .u32 2)]) rfl ok_47 ⟨(ev_tmp rfl rfl), ⟨ev_const, trivial⟩⟩) (Calls.mono (c_frac_nat_times (Dj F c10) w3 hI.lt a10 2 a11 c9 ⟨(hI.get .z), trivial⟩ r1 hx1) ?_)
        rintro _ w4 ⟨a12, c11, rfl, hx2, hl1⟩
        refine ⟨_, rfl, ?_⟩
        replace hI := (hI.ext hx2).adds hl1
        refine s_q rfl rfl (y_assign rfl (ev_tmp rfl rfl)) ?_
        refine s_nil ?_
        refine k_next (e := [(0, (Value.slice a12 r1.length c11)), (5, (Value.int .i64 shift2))]) ⟨rfl, rfl, trivial⟩ ?_
        refine c_region rfl ?_
        refine s_q rfl rfl (y_move rfl (ev_tmp rfl rfl)) ?_
        refine s_q rfl rfl (y_sub rfl (ev_tmp rfl rfl) ev_const) ?_
        refine s_q rfl rfl (y_assign rfl (ev_tmp rfl rfl)) ?_
        refine s_nil ?_
        exact k_loop (fuel1, r1, wi64 (shift2 - 1), a12, c11) ⟨rfl, rfl, trivial⟩ ⟨_, hI.arr .n ⟨.z, trivial⟩, h⟩ (Nat.lt_succ_self _)
      · replace h := ite_f hb h
        refine c_exit ?_
        refine k_in ?_
        refine k_next (e := [(0, (Value.slice a11 a10.length c9))]) ⟨rfl, trivial⟩ ?_
        refine c_seq ?_
        refine c_region rfl ?_
        refine s_q rfl rfl (y_move rfl (ev_tmp rfl rfl)) ?_
        refine s_q rfl rfl (y_assign rfl (ev_tmp rfl rfl)) ?_
        refine s_nil ?_
        refine k_next (e := [(4, (Value.slice a11 a10.length c9))]) ⟨rfl, trivial⟩ ?_
        refine c_ret ?_
        obtain rfl := some_inj h
        exact q_ret (vs := [(Value.slice a11 a10.length c9)]) Tryd.results70 ⟨ev_tmp rfl rfl, trivial⟩ ⟨a11, c9, rfl, hI.ext0, hI.fin ⟨.z, trivial⟩⟩
    · skip
      refine c_block ?_
      refine c_loop (α := Nat × (List Int) × (List Int) × (Option Addr) × Nat × (Option Addr) × Nat) (fun x => fun w => ∃ C, Bun noM F w0 C w [] [Cl.sl (cInt .u32) (x.2.2.2.1) (x.2.2.2.2.1) (x.2.1), Cl.sl (cInt .u32) (x.2.2.2.2.2.1) (x.2.2.2.2.2.2) (x.2.2.1)] ∧ m_frac_common_l2 shift1 (x.1) (x.2.1) (x.2.2.1) = some r) (fun x _ => x.1) (fun x => [(0, (Value.slice (x.2.2.2.1) (x.2.1).length (x.2.2.2.2.1))), (1, (Value.slice (x.2.2.2.2.2.1) (x.2.2.1).length (x.2.2.2.2.2.2))), (5, (Value.int .i64 shift1))]) (fu, a5, b2, a6, c4, a7, c5) ⟨_, hI.arr .n ⟨.z, (.s .z), trivial⟩, h⟩ ⟨rfl, rfl, rfl, trivial⟩ ?_
      clear h hI; rintro ⟨fuel2, a13, b3, a14, c12, a15, c13⟩ w5 ⟨c14, hI, h⟩
      dsimp only at hI h
      rcases fuel2 with _ | fuel2
      · rw [m_frac_common_l2] at h; cases h
      rw [m_frac_common_l2] at h
      refine c_sub (e := [(0, (Value.slice a14 a13.length c12)), (1, (Value.slice a15 b3.length c13)), (5, (Value.int .i64 shift1))]) ⟨rfl, rfl, rfl, trivial⟩ ?_
      refine c_seq ?_
      refine c_seq ?_
      refine c_region rfl ?_
      refine s_q rfl rfl (y_move rfl (ev_tmp rfl rfl)) ?_
      refine s_q rfl rfl (y_move rfl (ev_tmp rfl rfl)) ?_
      obtain ⟨r2, hx3, h⟩ := bnd_some h
      refine s_call rfl rfl (r_callF (vs := [(Value.slice a14 a13.length c12), (Value.slice a15 b3.length c13)]) rfl ok_49 ⟨(ev_tmp rfl rfl), ⟨(ev_tmp rfl rfl), trivial⟩⟩) (Calls.mono (c_frac_nat_compare (Dj F c14) w5 hI.lt a13 b3 a14 c12 a15 c13 ⟨(hI.get .z), (hI.get (.s .z)), trivial⟩ r2 hx3) ?_)
      rintro _ w6 ⟨rfl, hx4, hl2⟩
      refine ⟨_, rfl, ?_⟩
      replace hI := (hI.ext hx4)
      refine s_q rfl rfl (y_neq rfl (ev_tmp rfl rfl) ev_const) ?_
      refine s_nil ?_
      refine k_next (e := [(0, (Value.slice a14 a13.length c12)), (1, (Value.slice a15 b3.length c13)), (5, (Value.int .i64 shift1)), (21, (Value.bool (!decide (r2 = 0))))]) ⟨rfl, rfl, rfl, rfl, trivial⟩ ?_
      refine c_cond (b := !decide (r2 = 0)) (ev_tmp rfl rfl) (fun hb => ?_) (fun hb => ?_)
      · replace h := ite_t hb h
        refine c_skip ?_
        refine k_next (e := [(0, (Value.slice a14 a13.length c12)), (1, (Value.slice a15 b3.length c13)), (5, (Value.int .i64 shift1))]) ⟨rfl, rfl, rfl, trivial⟩ ?_
        refine c_block ?_
        refine c_block ?_
        refine c_seq ?_
        refine c_region rfl ?_
        refine s_q rfl rfl (y_move rfl (ev_tmp rfl rfl)) ?_
        obtain ⟨r3, hx5, h⟩ := bnd_some h
        refine s_call rfl rfl (r_callF (vs := [(Value.slice a14 a13.length c12)]) rfl ok_80 ⟨(ev_tmp rfl rfl), trivial⟩) (Calls.mono (c_frac_nat_even (Dj F c14) w6 hI.lt a13 a14 c12 ⟨(hI.get .z), trivial⟩ r3 hx5) ?_)
        rintro _ w7 ⟨rfl, hx6, hl3⟩
        refine ⟨_, rfl, ?_⟩
        replace hI := (hI.ext hx6)
        refine s_q rfl rfl (y_assign rfl (ev_tmp rfl rfl)) ?_
        refine s_nil ?_
        refine k_next (e := [(0, (Value.slice a14 a13.length c12)), (1, (Value.slice a15 b3.length c13)), (5, (Value.int .i64 shift1)), (25, (Value.bool r3))]) ⟨rfl, rfl, rfl, rfl, trivial⟩ ?_
        refine c_cond (b := r3) (ev_tmp rfl rfl) (fun hb => ?_) (fun hb => ?_)
        · replace h := ite_t hb h
          refine c_region rfl ?_
          refine s_q rfl rfl (y_move rfl (ev_tmp rfl rfl)) ?_
          obtain ⟨r4, hx7, h⟩ := bnd_some h
          refine s_call rfl rfl (r_callF (vs := [(Value.slice a14 a13.length c12)]) rfl ok_81 ⟨(ev_tmp rfl rfl), trivial⟩) (Calls.mono (c_frac_nat_half (Dj F c14) w7 hI.lt a13 a14 c12 ⟨(hI.get .z), trivial⟩ r4 hx7) ?_)
          rintro _ w8 ⟨a16, c15, rfl, hx8, hl4⟩
          refine ⟨_, rfl, ?_⟩
          replace hI := (hI.ext hx8).adds hl4
          refine s_q rfl rfl (y_assign rfl (ev_tmp rfl rfl)) ?_
          refine s_nil ?_
          exact k_loop (fuel2, r4, b3, a16, c15, a15, c13) ⟨rfl, rfl, rfl, trivial⟩ ⟨_, hI.arr .n ⟨.z, (.s (.s .z)), trivial⟩, h⟩ (Nat.lt_succ_self _)
        · replace h := ite_f hb h
          refine c_seq ?_
          refine c_region rfl ?_
          refine s_q rfl rfl (y_move rfl (ev_tmp rfl rfl)) ?_
          obtain ⟨r5, hx9, h⟩ := bnd_some h
          refine s_call rfl rfl (r_callF (vs := [(Value.slice a15 b3.length c13)]) rfl ok_80 ⟨(ev_tmp rfl rfl), trivial⟩) (Calls.mono (c_frac_nat_even (Dj F c14) w7 hI.lt b3 a15 c13 ⟨(hI.get (.s .z)), trivial⟩ r5 hx9) ?_)
          rintro _ w9 ⟨rfl, hx10, hl5⟩
          refine ⟨_, rfl, ?_⟩
          replace hI := (hI.ext hx10)
          refine s_q rfl rfl (y_assign rfl (ev_tmp rfl rfl)) ?_
          refine s_nil ?_
          refine k_next (e := [(0, (Value.slice a14 a13.length c12)), (1, (Value.slice a15 b3.length c13)), (5, (Value.int .i64 shift1)), (30, (Value.bool r5))]) ⟨rfl, rfl, rfl, rfl, trivial⟩ ?_
          refine c_cond (b := r5) (ev_tmp rfl rfl) (fun hb => ?_) (fun hb => ?_)
          · replace h := ite_t hb h
            refine c_region rfl ?_
            refine s_q rfl rfl (y_move rfl (ev_tmp rfl rfl)) ?_
            obtain ⟨r6, hx11, h⟩ := bnd_some h
            refine s_call rfl rfl (r_callF (vs := [(Value.slice a15 b3.length c13)]) rfl ok_81 ⟨(ev_tmp rfl rfl), trivial⟩) (Calls.mono (c_frac_nat_half (Dj F c14) w9 hI.lt b3 a15 c13 ⟨(hI.get (.s .z)), trivial⟩ r6 hx11) ?_)
            rintro _ w10 ⟨a17, c16, rfl, hx12, hl6⟩
            refine ⟨_, rfl, ?_⟩
            replace hI := (hI.ext hx12).adds hl6
            refine s_q rfl rfl (y_assign rfl (ev_tmp rfl rfl)) ?_
            refine s_nil ?_
            exact k_loop (fuel2, a13, r6, a14, c12, a17, c16) ⟨rfl, rfl, rfl, trivial⟩ ⟨_, hI.arr .n ⟨(.s .z), .z, trivial⟩, h⟩ (Nat.lt_succ_self _)
          · replace h := ite_f hb h
            refine c_seq ?_
            refine c_region rfl ?_
            refine s_q rfl rfl (y_move rfl (ev_tmp rfl rfl)) ?_
            refine s_q rfl rfl (y_move rfl (ev_tmp rfl rfl)) ?_
            obtain ⟨r7, hx13, h⟩ := bnd_some h
            refine s_call rfl rfl (r_callF (vs := [(Value.slice a14 a13.length c12), (Value.slice a15 b3.length c13)]) rfl ok_49 ⟨(ev_tmp rfl rfl), ⟨(ev_tmp rfl rfl), trivial⟩⟩) (Calls.mono (c_frac_nat_compare (Dj F c14) w9 hI.lt a13 b3 a14 c12 a15 c13 ⟨(hI.get .z), (hI.get (.s .z)), trivial⟩ r7 hx13) ?_)
            rintro _ w11 ⟨rfl, hx14, hl7⟩
            refine ⟨_, rfl, ?_⟩
            replace hI := (hI.ext hx14)
            refine s_q rfl rfl (y_gtr rfl (ev_tmp rfl rfl) ev_const) ?_
            refine s_q rfl rfl (y_assign rfl (ev_tmp rfl rfl)) ?_
            refine s_nil ?_
            refine k_next (e := [(0, (Value.slice a14 a13.length c12)), (1, (Value.slice a15 b3.length c13)), (5, (Value.int .i64 shift1)), (35, (Value.bool (decide (0 < r7))))]) ⟨rfl, rfl, rfl, rfl, trivial⟩ ?_
            refine c_cond (b := decide (0 < r7)) (ev_tmp rfl rfl) (fun hb => ?_) (fun hb => ?_)
            · replace h := ite_t hb h
              refine c_region rfl ?_
              refine s_q rfl rfl (y_move rfl (ev_tmp rfl rfl)) ?_
              refine s_q rfl rfl (y_move rfl (ev_tmp rfl rfl)) ?_
              obtain ⟨r8, hx15, h⟩ := bnd_some h
              refine s_call rfl rfl (r_callF (vs := [(Value.slice a14 a13.length c12), (Value.slice a15 b3.length c13)]) rfl ok_51 ⟨(ev_tmp rfl rfl), ⟨(ev_tmp rfl rfl), trivial⟩⟩) (Calls.mono (c_frac_nat_minus (Dj F c14) w11 hI.lt a13 b3 a14 c12 a15 c13 ⟨(hI.get .z), (hI.get (.s .z)), trivial⟩ r8 hx15) ?_)
              rintro _ w12 ⟨a18, c17, rfl, hx16, hl8⟩
              refine ⟨_, rfl, ?_⟩
              replace hI := (hI.ext hx16).adds hl8
              refine s_q rfl rfl (y_assign rfl (ev_tmp rfl rfl)) ?_
              refine s_nil ?_
              exact k_loop (fuel2, r8, b3, a18, c17, a15, c13) ⟨rfl, rfl, rfl, trivial⟩ ⟨_, hI.arr .n ⟨.z, (.s (.s .z)), trivial⟩, h⟩ (Nat.lt_succ_self _)
            · replace h := ite_f hb h
              refine c_region rfl ?_
              refine s_q rfl rfl (y_move rfl (ev_tmp rfl rfl)) ?_
              refine s_q rfl rfl (y_move rfl (ev_tmp rfl rfl)) ?_
              obtain ⟨r9, hx17, h⟩ := bnd_some h
              refine s_call rfl rfl (r_callF (vs := [(Value.slice a15 b3.length c13), (Value.slice a14 a13.length c12)]) rfl ok_51 ⟨(ev_tmp rfl rfl), ⟨(ev_tmp rfl rfl), trivial⟩⟩) (Calls.mono (c_frac_nat_minus (Dj F c14) w11 hI.lt b3 a13 a15 c13 a14 c12 ⟨(hI.get (.s .z)), (hI.get .z), trivial⟩ r9 hx17) ?_)
              rintro _ w13 ⟨a19, c18, rfl, hx18, hl9⟩
              refine ⟨_, rfl, ?_⟩
              replace hI := (hI.ext hx18).adds hl9
              refine s_q rfl rfl (y_assign rfl (ev_tmp rfl rfl)) ?_
              refine s_nil ?_
              exact k_loop (fuel2, a13, r9, a14, c12, a19, c18) ⟨rfl, rfl, rfl, trivial⟩ ⟨_, hI.arr .n ⟨(.s .z), .z, trivial⟩, h⟩ (Nat.lt_succ_self _)
      · replace h := ite_f hb h
        refine c_exit ?_
        refine k_in ?_
        exact k_join (a13, a14, c12) ⟨rfl, rfl, trivial⟩ ⟨_, hI.arr .n ⟨.z, trivial⟩, h⟩ rfl
  · skip
    refine c_block ?_
    refine c_loop (α := Nat × (List Int) × (List Int) × Int × (Option Addr) × Nat × (Option Addr) × Nat) (fun x => fun w => ∃ C, Bun noM F w0 C w [] [Cl.sl (cInt .u32) (x.2.2.2.2.1) (x.2.2.2.2.2.1) (x.2.1), Cl.sl (cInt .u32) (x.2.2.2.2.2.2.1) (x.2.2.2.2.2.2.2) (x.2.2.1)] ∧ m_frac_common_l3 (x.1) (x.2.1) (x.2.2.1) (x.2.2.2.1) = some r) (fun x _ => x.1) (fun x => [(0, (Value.slice (x.2.2.2.2.1) (x.2.1).length (x.2.2.2.2.2.1))), (1, (Value.slice (x.2.2.2.2.2.2.1) (x.2.2.1).length (x.2.2.2.2.2.2.2))), (5, (Value.int .i64 (x.2.2.2.1)))]) (fu, a1, b1, 0, a2, c1, a3, c2) ⟨_, hI.arr .n ⟨.z, (.s .z), trivial⟩, h⟩ ⟨rfl, rfl, rfl, trivial⟩ ?_
    clear h hI; rintro ⟨fuel3, a20, b4, shift3, a21, c19, a22, c20⟩ w14 ⟨c21, hI, h⟩
    dsimp only at hI h
    rcases fuel3 with _ | fuel3
    · rw [m_frac_common_l3] at h; cases h
    rw [m_frac_common_l3] at h
    refine c_sub (e := [(0, (Value.slice a21 a20.length c19)), (1, (Value.slice a22 b4.length c20)), (5, (Value.int .i64 shift3))]) ⟨rfl, rfl, rfl, trivial⟩ ?_
    refine c_seq ?_
    refine c_seq ?_
    refine c_region rfl ?_
    refine s_q rfl rfl (y_move rfl (ev_tmp rfl rfl)) ?_
    obtain ⟨r10, hx19, h⟩ := bnd_some h
    refine s_call rfl rfl (r_callF (vs := [(Value.slice a21 a20.length c19)]) rfl ok_80 ⟨(ev_tmp rfl rfl), trivial⟩) (Calls.mono (c_frac_nat_even (Dj F c21) w14 hI.lt a20 a21 c19 ⟨(hI.get .z), trivial⟩ r10 hx19) ?_)
    rintro _ w15 ⟨rfl, hx20, hl10⟩
    refine ⟨_, rfl, ?_⟩
    replace hI := (hI.ext hx20)
    refine s_q rfl rfl (y_move rfl (ev_tmp rfl rfl)) ?_
    refine s_gval (g_true rfl rfl rfl rfl) rfl (fun hc => (y_move rfl (ev_tmp rfl rfl))) ?_
    obtain ⟨r11, hx21, h⟩ := bnd_some h
    replace hx21 := gd_some hx21
    refine s_gcallU (v := (Value.bool r11)) (g_true rfl rfl rfl rfl) rfl (fun hc => (r_callF (vs := [(Value.slice a22 b4.length c20)]) rfl ok_80 ⟨(ev_gv (ev_tmp rfl rfl) hc), trivial⟩)) (fun hc => (c_frac_nat_even (Dj F c21) w15 hI.lt b4 a22 c20 ⟨(hI.get (.s .z)), trivial⟩ r11 (hx21 hc)).mono fun _ _ k => ⟨k.1, k.2.1⟩) ?_
    intro w16 hx22; replace hI := hI.ext hx22
    refine s_q rfl rfl (y_and rfl (ev_tmp rfl rfl) (ev_tmp rfl rfl)) ?_
    refine s_nil ?_
    refine k_next (e := [(0, (Value.slice a21 a20.length c19)), (1, (Value.slice a22 b4.length c20)), (5, (Value.int .i64 shift3)), (11, (Value.bool (r10 && r11)))]) ⟨rfl, rfl, rfl, rfl, trivial⟩ ?_
    refine c_cond (b := r10 && r11) (ev_tmp rfl rfl) (fun hb => ?_) (fun hb => ?_)
    · replace h := ite_t hb h
      refine c_skip ?_
      refine k_next (e := [(0, (Value.slice a21 a20.length c19)), (1, (Value.slice a22 b4.length c20)), (5, (Value.int .i64 shift3))]) ⟨rfl, rfl, rfl, trivial⟩ ?_
      refine c_block ?_
      refine c_seq ?_
      refine c_region rfl ?_
      refine s_q rfl rfl (y_move rfl (ev_tmp rfl rfl)) ?_
      obtain ⟨r12, hx23, h⟩ := bnd_some h
      refine s_call rfl rfl (r_callF (vs := [(Value.slice a21 a20.length c19)]) rfl ok_81 ⟨(ev_tmp rfl rfl), trivial⟩) (Calls.mono (c_frac_nat_half (Dj F c21) w16 hI.lt a20 a21 c19 ⟨(hI.get .z), trivial⟩ r12 hx23) ?_)
      rintro _ w17 ⟨a23, c22, rfl, hx24, hl12⟩
      refine ⟨_, rfl, ?_⟩
      replace hI := (hI.ext hx24).adds hl12
      refine s_q rfl rfl (y_move rfl (ev_tmp rfl rfl)) ?_
      obtain ⟨r13, hx25, h⟩ := bnd_some h
      refine s_call rfl rfl (r_callF (vs := [(Value.slice a22 b4.length c20)]) rfl ok_81 ⟨(ev_tmp rfl rfl), trivial⟩) (Calls.mono (c_frac_nat_half (Dj F c21) w17 hI.lt b4 a22 c20 ⟨(hI.get (.s (.s .z))), trivial⟩ r13 hx25) ?_)
      rintro _ w18 ⟨a24, c23, rfl, hx26, hl13⟩
      refine ⟨_, rfl, ?_⟩
      replace hI := (hI.ext hx26).adds hl13
      refine s_q rfl rfl (y_assign rfl (ev_tmp rfl rfl)) ?_
      refine s_q rfl rfl (y_assign rfl (ev_tmp rfl rfl)) ?_
      refine s_nil ?_
      refine k_next (e := [(0, (Value.slice a23 r12.length c22)), (1, (Value.slice a24 r13.length c23)), (5, (Value.int .i64 shift3))]) ⟨rfl, rfl, rfl, trivial⟩ ?_
      refine c_region rfl ?_
      refine s_q rfl rfl (y_move rfl (ev_tmp rfl rfl)) ?_
      refine s_q rfl rfl (y_add rfl (ev_tmp rfl rfl) ev_const) ?_
      refine s_q rfl rfl (y_assign rfl (ev_tmp rfl rfl)) ?_
      refine s_nil ?_
      exact k_loop (fuel3, r12, r13, wi64 (shift3 + 1), a23, c22, a24, c23) ⟨rfl, rfl, rfl, trivial⟩ ⟨_, hI.arr .n ⟨(.s .z), .z, trivial⟩, h⟩ (Nat.lt_succ_self _)
    · replace h := ite_f hb h
      refine c_exit ?_
      refine k_in ?_
      exact k_join (a20, b4, shift3, a21, c19, a22, c20) ⟨rfl, rfl, rfl, trivial⟩ ⟨_, hI.arr .n ⟨.z, (.s .z), trivial⟩, h⟩ rfl

set_option maxRecDepth 100000 in
set_option maxHeartbeats 4000000 in
theorem c_slices_Backward_frac_nat_frac_nat (F : NP) (w0 : World) (hF : ∀ k, F k → k < w0.heap.size) (s1 : List (List Int)) (a1 : Option Addr) (c1 : Nat) (hc : AllCl [Cl.sl (cSl (cInt .u32)) a1 c1 s1] F w0) (r : List (List Int))
    (h : m_slices_Backward_frac_nat_frac_nat s1 = some r) :
    Calls Tryd.prog 82 #[(Value.slice a1 s1.length c1)] w0 fun e w => ∃ (b1 : Nat) (a2 : Option Addr) (c2 : Nat), e = .returned (Value.func (.func 91) #[] #[(Value.pointer (some ⟨b1, 0, none⟩))]) ∧ Ext w0 w ∧ AllCl [Cl.sl (cSl (cInt .u32)) a2 c2 r, Cl.blk b1 89 #[(Value.slice a2 r.length c2)]] F w := by
  refine ofEnter (R := fun v w => ∃ (b1 : Nat) (a2 : Option Addr) (c2 : Nat), v = (Value.func (.func 91) #[] #[(Value.pointer (some ⟨b1, 0, none⟩))]) ∧ Ext w0 w ∧ AllCl [Cl.sl (cSl (cInt .u32)) a2 c2 r, Cl.blk b1 89 #[(Value.slice a2 r.length c2)]] F w) (enter (l := [(Value.slice a1 s1.length c1)]) Tryd.func82 rfl Tryd.ntmps82 rfl ?_) ?_
  rotate_left
  · rintro _ w ⟨b1, a2, c2, rfl, k1, k2⟩; exact ⟨b1, a2, c2, rfl, k1, k2⟩
  have hI := Bun.start hF hc
  clear hc
  rw [m_slices_Backward_frac_nat_frac_nat] at h
  refine c_seq ?_
  refine c_region rfl ?_
  refine l_box (v := (Value.slice a1 s1.length c1)) (cs := #[(Value.slice a1 s1.length c1)]) hI rfl rfl rfl (ev_tmp rfl rfl) rfl ?_
  clear hI; intro b2 c3 w1 hI
  obtain ⟨c4, hI⟩ := hI.relBox .z
  refine s_q rfl rfl (y_assign rfl ev_const) ?_
  refine s_nil ?_
  refine k_next (e := [(1, (Value.pointer (some ⟨b2, 0, none⟩)))]) ⟨rfl, trivial⟩ ?_
  refine c_seq ?_
  refine c_region rfl ?_
  refine s_q rfl rfl (y_makeFunc (vs := []) (cap := [(Value.pointer (some ⟨b2, 0, none⟩))]) rfl rfl ⟨(ev_tmp rfl rfl), trivial⟩) ?_
  refine s_q rfl rfl (y_assign rfl (ev_tmp rfl rfl)) ?_
  refine s_nil ?_
  refine k_next (e := [(2, (Value.func (.func 91) #[] #[(Value.pointer (some ⟨b2, 0, none⟩))]))]) ⟨rfl, trivial⟩ ?_
  refine c_ret ?_
  obtain rfl := some_inj h
  exact q_ret (vs := [(Value.func (.func 91) #[] #[(Value.pointer (some ⟨b2, 0, none⟩))])]) Tryd.results82 ⟨ev_tmp rfl rfl, trivial⟩ ⟨b2, a1, c1, rfl, hI.ext0, hI.fin ⟨(.s .z), .z, trivial⟩⟩

set_option maxRecDepth 100000 in
set_option maxHeartbeats 4000000 in
theorem c_slices_Backward_frac_nat_frac_nat_1_s {σ : Type} (I : StI σ) (C0 F : NP) (w0 : World) (yield1 : (Int → (List Int) → σ → Option (Bool × σ))) (a1 : List (List Int)) (s1 : σ) (fv1 : Value) (b1 : Nat) (a2 : Option Addr) (c1 : Nat) (hI : Bun C0 F w0 C0 w0 [MO.st I s1] [clFnS_k1 I fv1 yield1, Cl.sl (cSl (cInt .u32)) a2 c1 a1, Cl.blk b1 89 #[(Value.slice a2 a1.length c1)]]) (r : Unit × σ)
    (h : m_slices_Backward_frac_nat_frac_nat_1_s yield1 a1 s1 = some r) :
    Calls Tryd.prog 91 #[fv1, (Value.pointer (some ⟨b1, 0, none⟩))] w0 fun e w => ∃ (C : NP), e = .returned (Value.tuple #[]) ∧ Bun C0 F w0 C w [MO.st I r.2] [] := by
  refine ofEnter (R := fun v w => ∃ (C : NP), v = (Value.tuple #[]) ∧ Bun C0 F w0 C w [MO.st I r.2] []) (enter (l := [fv1, (Value.pointer (some ⟨b1, 0, none⟩))]) Tryd.func91 rfl Tryd.ntmps91 rfl ?_) ?_
  rotate_left
  · rintro _ w ⟨C, rfl, k1⟩; exact ⟨C, rfl, k1⟩
  rw [m_slices_Backward_frac_nat_frac_nat_1_s] at h
  refine c_seq ?_
  refine c_region rfl ?_
  refine s_q rfl rfl (y_load1 (v := (Value.slice a2 a1.length c1)) rfl (ev_tmp rfl rfl) Tryd.underlying89 rfl (hI.kblk (l := [(Value.slice a2 a1.length c1)]) (.s (.s .z)) rfl).1) ?_
  refine s_q rfl rfl (y_lenl rfl Tryd.underlying89 (ev_tmp rfl rfl)) ?_
  refine s_q rfl rfl (y_sub rfl (ev_tmp rfl rfl) ev_const) ?_
  obtain ⟨i1, hx1, h⟩ := bnd_some h
  refine s_q rfl rfl (binU (y_assign rfl (ev_tmp rfl rfl)) (congrArg (Value.int .i64) (some_inj hx1))) ?_
  refine s_nil ?_
  refine k_next (e := [(0, fv1), (1, (Value.pointer (some ⟨b1, 0, none⟩))), (3, (Value.int .i64 i1))]) ⟨rfl, rfl, rfl, trivial⟩ ?_
  refine c_block ?_
  refine c_loop (α := Nat × Int × σ) (fun x => fun w => ∃ C, Bun C0 F w0 C w [MO.st I (x.2.2)] [clFnS_k1 I fv1 yield1, Cl.blk b1 89 #[(Value.slice a2 a1.length c1)], Cl.sl (cSl (cInt .u32)) a2 c1 a1] ∧ m_slices_Backward_frac_nat_frac_nat_1_s_l1 a1 yield1 (x.1) (x.2.1) (x.2.2) = some r) (fun x _ => x.1) (fun x => [(0, fv1), (1, (Value.pointer (some ⟨b1, 0, none⟩))), (3, (Value.int .i64 (x.2.1)))]) (fu, i1, s1) ⟨_, hI.arr (.c .z .n) ⟨.z, (.s (.s .z)), (.s .z), trivial⟩, h⟩ ⟨rfl, rfl, rfl, trivial⟩ ?_
  clear h hI; rintro ⟨fuel1, i2, s2⟩ w1 ⟨c2, hI, h⟩
  dsimp only at hI h
  rcases fuel1 with _ | fuel1
  · rw [m_slices_Backward_frac_nat_frac_nat_1_s_l1] at h; cases h
  rw [m_slices_Backward_frac_nat_frac_nat_1_s_l1] at h
  refine c_sub (e := [(0, fv1), (1, (Value.pointer (some ⟨b1, 0, none⟩))), (3, (Value.int .i64 i2))]) ⟨rfl, rfl, rfl, trivial⟩ ?_
  refine c_seq ?_
  refine c_seq ?_
  refine c_region rfl ?_
  refine s_q rfl rfl (y_move rfl (ev_tmp rfl rfl)) ?_
  refine s_q rfl rfl (y_geq rfl (ev_tmp rfl rfl) ev_const) ?_
  refine s_nil ?_
  refine k_next (e := [(0, fv1), (1, (Value.pointer (some ⟨b1, 0, none⟩))), (3, (Value.int .i64 i2)), (8, (Value.bool (decide (0 ≤ i2))))]) ⟨rfl, rfl, rfl, rfl, trivial⟩ ?_
  refine c_cond (b := decide (0 ≤ i2)) (ev_tmp rfl rfl) (fun hb => ?_) (fun hb => ?_)
  · replace h := ite_t hb h
    refine c_skip ?_
    refine k_next (e := [(0, fv1), (1, (Value.pointer (some ⟨b1, 0, none⟩))), (3, (Value.int .i64 i2))]) ⟨rfl, rfl, rfl, trivial⟩ ?_
    refine c_seq ?_
    refine c_block ?_
    refine c_seq ?_
    refine c_region rfl ?_
    refine s_q rfl rfl (y_move rfl (ev_tmp rfl rfl)) ?_
    refine s_q rfl rfl (y_move rfl (ev_tmp rfl rfl)) ?_
    refine s_q rfl rfl (y_load1 (v := (Value.slice a2 a1.length c1)) rfl (ev_tmp rfl rfl) Tryd.underlying89 rfl (hI.kblk (l := [(Value.slice a2 a1.length c1)]) (.s .z) rfl).1) ?_
    refine s_q rfl rfl (y_move rfl (ev_tmp rfl rfl)) ?_
    obtain ⟨e1, hx2, h⟩ := bnd_some h
    obtain ⟨ad1, cs1, hA1, hr1, hq1⟩ := hI.clat (.s (.s .z)) hx2
    obtain ⟨a3, c3, rfl, hf1⟩ := hr1
    have hI := hI.add (c := Cl.sl (cInt .u32) a3 c3 e1) hf1
    refine s_q rfl rfl (y_indexAddr rfl Tryd.underlying89 size_53 (ev_tmp rfl rfl) (ev_tmp rfl rfl) (lat_bd hx2) hA1) ?_
    refine s_q rfl rfl (y_load1 (v := (Value.slice a3 e1.length c3)) rfl (ev_tmp rfl rfl) Tryd.underlying53 rfl hq1.1) ?_
    obtain ⟨⟨r1, s3⟩, hx3, h⟩ := bnd_some h
    dsimp only at h
    obtain ⟨c4, f1, hB, hl1, hk1⟩ := hI.hands (.l .n)
    refine s_callV (args := [(Value.int .i64 i2), (Value.slice a3 e1.length c3)]) rfl rfl rfl (ev_tmp rfl rfl) ⟨(ev_tmp rfl rfl), ⟨(ev_tmp rfl rfl), trivial⟩⟩ (CallV.mono ((hI.get (.s .z)).2 c4 f1 w1 (Sp.less hl1) i2 e1 a3 c3 s2 _ (hB.subs ⟨.z, trivial⟩) hx3) ?_)
    rintro _ w2 ⟨c5, rfl, hB2⟩
    obtain ⟨c6, hs1, hI⟩ := hk1 _ _ _ _ hB2
    replace hI : Bun C0 F w0 c6 w2 [MO.st I s3] [Cl.sl (cInt .u32) a3 c3 e1, clFnS_k1 I fv1 yield1, Cl.blk b1 89 #[(Value.slice a2 a1.length c1)], Cl.sl (cSl (cInt .u32)) a2 c1 a1] := hI
    refine ⟨_, rfl, ?_⟩
    refine s_q rfl rfl (y_not rfl (ev_tmp rfl rfl)) ?_
    refine s_nil ?_
    refine k_next (e := [(0, fv1), (1, (Value.pointer (some ⟨b1, 0, none⟩))), (3, (Value.int .i64 i2)), (18, (Value.bool (!r1)))]) ⟨rfl, rfl, rfl, rfl, trivial⟩ ?_
    refine c_cond (b := !r1) (ev_tmp rfl rfl) (fun hb => ?_) (fun hb => ?_)
    · replace h := ite_t hb h
      refine c_ret ?_
      obtain rfl := some_inj h
      exact q_ret (vs := []) Tryd.results91 trivial ⟨_, rfl, hI.arr (.c .z .n) trivial⟩
    · replace h := ite_f hb h
      refine c_skip ?_
      refine k_next (e := [(0, fv1), (1, (Value.pointer (some ⟨b1, 0, none⟩))), (3, (Value.int .i64 i2))]) ⟨rfl, rfl, rfl, trivial⟩ ?_
      refine c_region rfl ?_
      refine s_q rfl rfl (y_move rfl (ev_tmp rfl rfl)) ?_
      refine s_q rfl rfl (y_sub rfl (ev_tmp rfl rfl) ev_const) ?_
      refine s_q rfl rfl (y_assign rfl (ev_tmp rfl rfl)) ?_
      refine s_nil ?_
      exact k_loop (fuel1, wi64 (i2 - 1), s3) ⟨rfl, rfl, rfl, trivial⟩ ⟨_, hI.arr (.c .z .n) ⟨(.s .z), (.s (.s .z)), (.s (.s (.s .z))), trivial⟩, h⟩ (Nat.lt_succ_self _)
  · replace h := ite_f hb h
    refine c_exit ?_
    refine k_in ?_
    obtain rfl := some_inj h
    exact q_ret (vs := []) Tryd.results91 trivial ⟨_, rfl, hI.arr (.c .z .n) trivial⟩

set_option maxRecDepth 100000 in
set_option maxHeartbeats 4000000 in
theorem c_frac_quotient (F : NP) (w0 : World) (hF : ∀ k, F k → k < w0.heap.size) (a1 : List Int) (b1 : List Int) (a2 : Option Addr) (c1 : Nat) (a3 : Option Addr) (c2 : Nat) (hc : AllCl [Cl.sl (cInt .u32) a2 c1 a1, Cl.sl (cInt .u32) a3 c2 b1] F w0) (r : Int × Bool)
    (h : m_frac_quotient a1 b1 = some r) :
    Calls Tryd.prog 71 #[(Value.slice a2 a1.length c1), (Value.slice a3 b1.length c2)] w0 fun e w => e = .returned (Value.tuple #[(Value.int .i64 r.1), (Value.bool r.2)]) ∧ Ext w0 w ∧ AllCl [] F w := by
  refine ofEnter (R := fun v w => v = (Value.tuple #[(Value.int .i64 r.1), (Value.bool r.2)]) ∧ Ext w0 w ∧ AllCl [] F w) (enter (l := [(Value.slice a2 a1.length c1), (Value.slice a3 b1.length c2)]) Tryd.func71 rfl Tryd.ntmps71 rfl ?_) ?_
  rotate_left
  · rintro _ w ⟨rfl, k1, k2⟩; exact ⟨rfl, k1, k2⟩
  have hI := Bun.start hF hc
  clear hc
  rw [m_frac_quotient] at h
  refine c_seq ?_
  refine c_region rfl ?_
  refine l_box (v := (Value.slice a2 a1.length c1)) (cs := #[(Value.slice a2 a1.length c1)]) hI rfl rfl rfl (ev_tmp rfl rfl) rfl ?_
  clear hI; intro b2 c3 w1 hI
  refine s_q rfl rfl (y_assign rfl ev_const) ?_
  refine s_q rfl rfl (y_assign rfl ev_const) ?_
  refine s_nil ?_
  refine k_next (e := [(1, (Value.slice a3 b1.length c2)), (2, (Value.pointer (some ⟨b2, 0, none⟩)))]) ⟨rfl, rfl, trivial⟩ ?_
  refine c_seq ?_
  refine c_seq ?_
  refine c_region rfl ?_
  refine s_q rfl rfl (y_load1 (v := (Value.slice a2 a1.length c1)) rfl (ev_tmp rfl rfl) Tryd.underlying53 rfl (CellsAt.of_blk (hI.blk .z) rfl)) ?_
  refine s_q rfl rfl (y_lenl rfl Tryd.underlying53 (ev_tmp rfl rfl)) ?_
  refine s_q rfl rfl (y_move rfl (ev_tmp rfl rfl)) ?_
  refine s_q rfl rfl (y_lenl rfl Tryd.underlying53 (ev_tmp rfl rfl)) ?_
  refine s_q rfl rfl (y_add rfl (ev_tmp rfl rfl) ev_const) ?_
  refine s_q rfl rfl (y_gtr rfl (ev_tmp rfl rfl) (ev_tmp rfl rfl)) ?_
  refine s_nil ?_
  refine k_next (e := [(1, (Value.slice a3 b1.length c2)), (2, (Value.pointer (some ⟨b2, 0, none⟩))), (15, (Value.bool (decide (wi64 ((b1.length : Int) + 1) < (a1.length : Int)))))]) ⟨rfl, rfl, rfl, trivial⟩ ?_
  refine c_cond (b := decide (wi64 ((b1.length : Int) + 1) < (a1.length : Int))) (ev_tmp rfl rfl) (fun hb => ?_) (fun hb => ?_)
  · replace h := ite_t hb h
    refine c_seq ?_
    refine c_region rfl ?_
    refine s_q rfl rfl (y_assign rfl ev_const) ?_
    refine s_q rfl rfl (y_assign rfl ev_const) ?_
    refine s_nil ?_
    refine k_next (e := [(4, (Value.int .i64 0)), (5, (Value.bool false))]) ⟨rfl, rfl, trivial⟩ ?_
    refine c_ret ?_
    obtain rfl := some_inj h
    exact q_ret (vs := [(Value.int .i64 0), (Value.bool false)]) Tryd.results71 ⟨ev_tmp rfl rfl, ⟨ev_tmp rfl rfl, trivial⟩⟩ ⟨rfl, hI.ext0, hI.fin trivial⟩
  · replace h := ite_f hb h
    refine c_skip ?_
    refine k_next (e := [(1, (Value.slice a3 b1.length c2)), (2, (Value.pointer (some ⟨b2, 0, none⟩)))]) ⟨rfl, rfl, trivial⟩ ?_
    refine c_seq ?_
    refine c_region rfl ?_
    refine s_q rfl rfl (y_move rfl (ev_tmp rfl rfl)) ?_
    refine l_lit (c := (cSl (cInt .u32))) (xs := ([b1] : List (List Int))) (vs := [(0, (Value.slice a3 b1.length c2))]) (cs := #[(Value.slice a3 b1.length c2)]) (css := [[(Value.slice a3 b1.length c2)]]) hI rfl rfl rfl Tryd.underlying89 info_53 rfl ⟨rfl, (ev_tmp rfl rfl), trivial⟩ (by kernel_rfl) ⟨⟨a3, c2, rfl, hI.get (.s .z)⟩, trivial⟩ rfl rfl rfl ?_
    clear hI; intro b3 c4 w2 hI
    refine s_q rfl rfl (y_assign rfl (ev_tmp rfl rfl)) ?_
    refine s_nil ?_
    refine k_next (e := [(2, (Value.pointer (some ⟨b2, 0, none⟩))), (6, (Value.slice (some ⟨b3, 0, none⟩) ([b1] : List (List Int)).length 1))]) ⟨rfl, rfl, trivial⟩ ?_
    refine c_join (α := (List (List Int)) × (Option Addr) × Nat) (fun _ => ⟨65, []⟩) (fun x => [(2, (Value.pointer (some ⟨b2, 0, none⟩))), (6, (Value.slice (x.2.1) (x.1).length (x.2.2)))]) (fun x => fun w => ∃ C, Bun noM F w0 C w [MO.row (cSl (cInt .u32)) 53 (x.2.1) (x.2.2) (x.1), MO.box b2 53 #[(Value.slice a2 a1.length c1)]] [Cl.sl (cInt .u32) a2 c1 a1] ∧ m_frac_quotient_j1 a1 (x.1) = some r) ?_ ?_
    · clear h hI; rintro ⟨list1, a4, c5⟩ w3 ⟨c6, hI, h⟩
      try dsimp only at hI h
      rw [m_frac_quotient_j1] at h
      refine c_sub (e := [(2, (Value.pointer (some ⟨b2, 0, none⟩))), (6, (Value.slice a4 list1.length c5))]) ⟨rfl, rfl, trivial⟩ ?_
      refine c_seq ?_
      refine c_region rfl ?_
      refine l_alloc (cs := #[(Value.int .i64 0)]) hI rfl rfl rfl zero_2 rfl ?_
      clear hI; intro b4 c7 w4 hI
      refine l_store (new := [(Value.int .i64 0)]) (cs' := #[(Value.int .i64 0)]) hI .z rfl rfl rfl (ev_tmp rfl rfl) ev_const rfl size_2 rfl rfl rfl ?_
      clear hI; intro c8 w5 hI
      refine s_nil ?_
      refine k_next (e := [(2, (Value.pointer (some ⟨b2, 0, none⟩))), (6, (Value.slice a4 list1.length c5)), (7, (Value.pointer (some ⟨b4, 0, none⟩)))]) ⟨rfl, rfl, rfl, trivial⟩ ?_
      refine c_seq ?_
      refine c_seq ?_
      refine c_region rfl ?_
      refine s_q rfl rfl (y_move rfl (ev_tmp rfl rfl)) ?_
      obtain ⟨c9, hI⟩ := hI.release (.s .z)
      obtain ⟨r1, hx1, h⟩ := bnd_some h
      refine s_call rfl rfl (r_callF (vs := [(Value.slice a4 list1.length c5)]) rfl ok_82 ⟨(ev_tmp rfl rfl), trivial⟩) (Calls.mono (c_slices_Backward_frac_nat_frac_nat (Dj F c9) w5 hI.lt list1 a4 c5 ⟨(hI.get .z), trivial⟩ r1 hx1) ?_)
      rintro _ w6 ⟨b5, a5, c10, rfl, hx2, hl1⟩
      refine ⟨_, rfl, ?_⟩
      replace hI := (hI.ext hx2).adds hl1
      refine s_nil ?_
      refine k_next (e := [(2, (Value.pointer (some ⟨b2, 0, none⟩))), (7, (Value.pointer (some ⟨b4, 0, none⟩))), (43, (Value.func (.func 91) #[] #[(Value.pointer (some ⟨b5, 0, none⟩))]))]) ⟨rfl, rfl, rfl, trivial⟩ ?_
      refine c_block ?_
      refine c_rangeFunc [] hI (ev_tmp rfl rfl) ok_91 (fun l1 q1 fn1 tm1 rc1 hrc1 c13 w8 hE1 hI => ?_)
      obtain ⟨c14, f1, hB, hl2, hk1⟩ := hI.hands (.l (.r (.l (.l .n))))
      replace hB := hB.ord (.c .z (.c (.s .z) (.c .z .n)))
      have hB : Bun c14 f1 w8 c14 w8 [MO.st (StI.loop l1 rc1 (fun (s : (List Int) × Int) (b : (Option Addr) × Nat) => [MO.box b2 53 #[(Value.slice (b.1) (s.1).length (b.2))], MO.box b4 2 #[(Value.int .i64 (s.2))]]) (fun (s : (List Int) × Int) (b : (Option Addr) × Nat) => [Cl.sl (cInt .u32) (b.1) (b.2) (s.1), Cl.blk b5 89 #[(Value.slice a5 r1.length c10)], Cl.sl (cSl (cInt .u32)) a5 c10 r1])) (0, (a1, 0))] _ := Bun.mkst (b := (a2, c1)) hB ⟨(.s (.s (.s .z))), (.s .z), .z, trivial⟩
      have hY1 : fnS_k1 (StI.loop l1 rc1 (fun (s : (List Int) × Int) (b : (Option Addr) × Nat) => [MO.box b2 53 #[(Value.slice (b.1) (s.1).length (b.2))], MO.box b4 2 #[(Value.int .i64 (s.2))]]) (fun (s : (List Int) × Int) (b : (Option Addr) × Nat) => [Cl.sl (cInt .u32) (b.1) (b.2) (s.1), Cl.blk b5 89 #[(Value.slice a5 r1.length c10)], Cl.sl (cSl (cInt .u32)) a5 c10 r1])) (Value.func (.yield l1) #[] #[]) (fun k_0 k_1 q => if q.1 = 0 then m_frac_quotient_b1 k_0 k_1 q.2.1 q.2.2 else none) (Dj f1 c14) w8 := by
        refine ⟨rfl, fun C0 F w0 _ => ?_⟩
        rintro y1 y2 a8 c15 ⟨o_, ⟨a6, n1⟩⟩ r hB h
        replace h : o_ = 0 ∧ m_frac_quotient_b1 y1 y2 a6 n1 = some r := chk_some h
        have ho_ := h.1; subst ho_; replace h := h.2
        rw [m_frac_quotient_b1] at h
        obtain ⟨⟨a7, c11⟩, hI⟩ := Bun.unst hB
        subst hrc1
        replace hI : Bun C0 F w0 C0 w0 [MO.loop l1 (lrec fn1 tm1 _ _ _ q1 [] 0), MO.box b2 53 #[(Value.slice a7 a6.length c11)], MO.box b4 2 #[(Value.int .i64 n1)]] [Cl.sl (cInt .u32) a7 c11 a6, Cl.blk b5 89 #[(Value.slice a5 r1.length c10)], Cl.sl (cSl (cInt .u32)) a5 c10 r1, Cl.sl (cInt .u32) a8 c15 y2] := hI
        clear hB
        refine callV_yield hI rfl (has_round2 (hE1 ⟨65, []⟩ rfl rfl)) ?_
        refine c_seq ?_
        refine c_region rfl ?_
        refine s_q rfl rfl (y_assign rfl (ev_tmp rfl rfl)) ?_
        refine s_nil ?_
        refine k_next (e := [(2, (Value.pointer (some ⟨b2, 0, none⟩))), (7, (Value.pointer (some ⟨b4, 0, none⟩))), (45, (Value.slice a8 y2.length c15)), (8, (Value.int .i64 y1))]) ⟨rfl, rfl, rfl, rfl, trivial⟩ ?_
        refine c_region rfl ?_
        refine s_q rfl rfl (y_assign rfl (ev_tmp rfl rfl)) ?_
        refine s_nil ?_
        refine k_begin hI .z (fun c16 w9 hI => ?_)
        refine c_block ?_
        refine c_seq ?_
        refine c_region rfl ?_
        refine s_q rfl rfl (y_move rfl (ev_tmp rfl rfl)) ?_
        refine s_q rfl rfl (y_load1 (v := (Value.slice a7 a6.length c11)) rfl (ev_tmp rfl rfl) Tryd.underlying53 rfl (CellsAt.of_blk (hI.blk (.s .z)) rfl)) ?_
        obtain ⟨r2, hx3, h⟩ := bnd_some h
        refine s_call rfl rfl (r_callF (vs := [(Value.slice a8 y2.length c15), (Value.slice a7 a6.length c11)]) rfl ok_49 ⟨(ev_tmp rfl rfl), ⟨(ev_tmp rfl rfl), trivial⟩⟩) (Calls.mono (c_frac_nat_compare (Dj F c16) w9 hI.lt y2 a6 a8 c15 a7 c11 ⟨(hI.get (.s (.s (.s .z)))), (hI.get .z), trivial⟩ r2 hx3) ?_)
        rintro _ w10 ⟨rfl, hx4, hl3⟩
        refine ⟨_, rfl, ?_⟩
        replace hI := (hI.ext hx4)
        refine s_q rfl rfl (y_leq rfl (ev_tmp rfl rfl) ev_const) ?_
        refine s_nil ?_
        refine k_next (e := [(2, (Value.pointer (some ⟨b2, 0, none⟩))), (7, (Value.pointer (some ⟨b4, 0, none⟩))), (8, (Value.int .i64 y1)), (9, (Value.slice a8 y2.length c15)), (49, (Value.bool (decide (r2 ≤ 0))))]) ⟨rfl, rfl, rfl, rfl, rfl, trivial⟩ ?_
        refine c_cond (b := decide (r2 ≤ 0)) (ev_tmp rfl rfl) (fun hb => ?_) (fun hb => ?_)
        · replace h := ite_t hb h
          refine c_seq ?_
          refine c_region rfl ?_
          refine s_q rfl rfl (y_load1 (v := (Value.slice a7 a6.length c11)) rfl (ev_tmp rfl rfl) Tryd.underlying53 rfl (CellsAt.of_blk (hI.blk (.s .z)) rfl)) ?_
          refine s_q rfl rfl (y_move rfl (ev_tmp rfl rfl)) ?_
          obtain ⟨r3, hx5, h⟩ := bnd_some h
          refine s_call rfl rfl (r_callF (vs := [(Value.slice a7 a6.length c11), (Value.slice a8 y2.length c15)]) rfl ok_51 ⟨(ev_tmp rfl rfl), ⟨(ev_tmp rfl rfl), trivial⟩⟩) (Calls.mono (c_frac_nat_minus (Dj F c16) w10 hI.lt a6 y2 a7 c11 a8 c15 ⟨(hI.get .z), (hI.get (.s (.s (.s .z)))), trivial⟩ r3 hx5) ?_)
          rintro _ w11 ⟨a9, c17, rfl, hx6, hl4⟩
          refine ⟨_, rfl, ?_⟩
          replace hI := (hI.ext hx6).adds hl4
          refine l_store (new := [(Value.slice a9 r3.length c17)]) (cs' := #[(Value.slice a9 r3.length c17)]) hI (.s .z) rfl rfl rfl (ev_tmp rfl rfl) (ev_tmp rfl rfl) rfl size_53 rfl rfl rfl ?_
          clear hI; intro c18 w12 hI
          refine s_nil ?_
          refine k_next (e := [(7, (Value.pointer (some ⟨b4, 0, none⟩))), (8, (Value.int .i64 y1))]) ⟨rfl, rfl, trivial⟩ ?_
          refine c_drawX [4] false (.c (0, .q) (.c (1, .q) (.c (2, .q) (.c (3, .q) (.c (4, .s) .n))))) hI (by kernel_rfl) (by kernel_rfl) ?_
          clear hI; intro w13 hI
          refine a_read rfl rfl rfl (fun w' hw' => (y_load1 (v := (Value.int .i64 n1)) rfl (ev_tmp rfl rfl) Tryd.underlying2 rfl ((CA.blk (hI.blk (.s (.s .z))) rfl).at_ (SX.any rfl hw')))) (by kernel_rfl) ?_
          refine a_q rfl rfl rfl (fun w' => (y_move rfl (ev_tmp rfl rfl))) ?_
          obtain ⟨ho1, h⟩ := chk_some h
          refine a_q rfl rfl rfl (fun w' => (y_shl rfl ev_const (ev_tmp rfl rfl) ho1)) ?_
          refine a_q rfl rfl rfl (fun w' => (y_add rfl (ev_tmp rfl rfl) (ev_tmp rfl rfl))) ?_
          refine a_turn (F := F) (C := c18) rfl rfl ?_
          refine la_store (new := [(Value.int .i64 (wi64 (n1 + (wi64 (1 * 2 ^ (min (Int.toNat y1) 64))))))]) (cs' := #[(Value.int .i64 (wi64 (n1 + (wi64 (1 * 2 ^ (min (Int.toNat y1) 64))))))]) hI (.s (.s .z)) rfl rfl rfl rfl (ev_tmp rfl rfl) (ev_tmp rfl rfl) rfl size_2 rfl rfl rfl ?_
          clear hI; intro c19 w14 hI
          refine a_nil ?_
          obtain rfl := some_inj h
          exact fun _ _ => k_round (js := []) (oS := (fun (s : (List Int) × Int) (b : (Option Addr) × Nat) => [MO.box b2 53 #[(Value.slice (b.1) (s.1).length (b.2))], MO.box b4 2 #[(Value.int .i64 (s.2))]])) (cS := (fun (s : (List Int) × Int) (b : (Option Addr) × Nat) => [Cl.sl (cInt .u32) (b.1) (b.2) (s.1), Cl.blk b5 89 #[(Value.slice a5 r1.length c10)], Cl.sl (cSl (cInt .u32)) a5 c10 r1])) (out := 0) (s := (r3, wi64 (n1 + (wi64 (1 * 2 ^ (min (Int.toNat y1) 64)))))) (b := (a9, c17)) (hI.arr (.c .z (.c .z (.c .z .n))) ⟨.z, (.s (.s .z)), (.s (.s (.s .z))), trivial⟩) rfl (fun C w hB => ⟨C, rfl, hB⟩)
        · replace h := ite_f hb h
          refine c_skip ?_
          obtain rfl := some_inj h
          exact fun _ _ => k_round (js := []) (oS := (fun (s : (List Int) × Int) (b : (Option Addr) × Nat) => [MO.box b2 53 #[(Value.slice (b.1) (s.1).length (b.2))], MO.box b4 2 #[(Value.int .i64 (s.2))]])) (cS := (fun (s : (List Int) × Int) (b : (Option Addr) × Nat) => [Cl.sl (cInt .u32) (b.1) (b.2) (s.1), Cl.blk b5 89 #[(Value.slice a5 r1.length c10)], Cl.sl (cSl (cInt .u32)) a5 c10 r1])) (out := 0) (s := (a6, n1)) (b := (a7, c11)) (hI.arr (.c .z (.c .z (.c .z .n))) ⟨.z, (.s .z), (.s (.s .z)), trivial⟩) rfl (fun C w hB => ⟨C, rfl, hB⟩)
      obtain ⟨⟨u1, o1, a10, n2⟩, hx7, h⟩ := bnd_some h
      dsimp only at h
      refine Calls.mono (c_slices_Backward_frac_nat_frac_nat_1_s (StI.loop l1 rc1 (fun (s : (List Int) × Int) (b : (Option Addr) × Nat) => [MO.box b2 53 #[(Value.slice (b.1) (s.1).length (b.2))], MO.box b4 2 #[(Value.int .i64 (s.2))]]) (fun (s : (List Int) × Int) (b : (Option Addr) × Nat) => [Cl.sl (cInt .u32) (b.1) (b.2) (s.1), Cl.blk b5 89 #[(Value.slice a5 r1.length c10)], Cl.sl (cSl (cInt .u32)) a5 c10 r1])) c14 f1 w8 (fun k_0 k_1 q => if q.1 = 0 then m_frac_quotient_b1 k_0 k_1 q.2.1 q.2.2 else none) r1 (0, (a1, 0)) (Value.func (.yield l1) #[] #[]) b5 a5 c10 ((hB.add (c := clFnS_k1 (StI.loop l1 rc1 (fun (s : (List Int) × Int) (b : (Option Addr) × Nat) => [MO.box b2 53 #[(Value.slice (b.1) (s.1).length (b.2))], MO.box b4 2 #[(Value.int .i64 (s.2))]]) (fun (s : (List Int) × Int) (b : (Option Addr) × Nat) => [Cl.sl (cInt .u32) (b.1) (b.2) (s.1), Cl.blk b5 89 #[(Value.slice a5 r1.length c10)], Cl.sl (cSl (cInt .u32)) a5 c10 r1])) (Value.func (.yield l1) #[] #[]) (fun k_0 k_1 q => if q.1 = 0 then m_frac_quotient_b1 k_0 k_1 q.2.1 q.2.2 else none)) hY1).subs ⟨.z, (.s .z), (.s (.s .z)), trivial⟩) _ hx7) ?_
      rintro _ w16 ⟨c22, rfl, hB2⟩
      obtain ⟨⟨a11, c20⟩, hB2⟩ := Bun.unst hB2
      subst hrc1
      obtain ⟨c23, hs1, hI⟩ := hk1 _ _ _ _ hB2
      replace hI : Bun noM F w0 c23 w16 [MO.loop l1 (lrec fn1 tm1 _ _ _ q1 [] o1), MO.box b2 53 #[(Value.slice a11 a10.length c20)], MO.box b4 2 #[(Value.int .i64 n2)], MO.dfr q1] [Cl.sl (cInt .u32) a11 c20 a10, Cl.blk b5 89 #[(Value.slice a5 r1.length c10)], Cl.sl (cSl (cInt .u32)) a5 c10 r1, Cl.sl (cSl (cInt .u32)) a5 c10 r1, Cl.blk b5 89 #[(Value.slice a5 r1.length c10)], Cl.sl (cSl (cInt .u32)) a4 c5 list1, Cl.sl (cInt .u32) a2 c1 a1] := hI
      refine ⟨_, rfl, k_endLoop hI .z (fun c24 w17 hI => ?_)⟩
      by_cases hz1 : o1 = 0
      · subst hz1; rw [if_pos rfl] at h
        refine k_next (e := [(2, (Value.pointer (some ⟨b2, 0, none⟩))), (7, (Value.pointer (some ⟨b4, 0, none⟩)))]) ⟨rfl, rfl, trivial⟩ ?_
        refine c_seq ?_
        refine c_drawX [] false (.c (0, .q) (.c (1, .q) (.c (2, .q) (.c (3, .q) (.c (4, .q) (.c (5, .q) (.c (6, .q) (.c (7, .q) (.c (8, .q) (.c (9, .q) .n)))))))))) hI (by kernel_rfl) (by kernel_rfl) ?_
        clear hI; intro w18 hI
        refine a_read rfl rfl rfl (fun w' hw' => (y_load1 (v := (Value.int .i64 n2)) rfl (ev_tmp rfl rfl) Tryd.underlying2 rfl ((CA.blk (hI.blk (.s (.s .z))) rfl).at_ (SX.any rfl hw')))) (by kernel_rfl) ?_
        refine a_read rfl rfl rfl (fun w' hw' => (y_load1 (v := (Value.slice a11 a10.length c20)) rfl (ev_tmp rfl rfl) Tryd.underlying53 rfl ((CA.blk (hI.blk (.s .z)) rfl).at_ (SX.any rfl hw')))) (by kernel_rfl) ?_
        refine a_q rfl rfl rfl (fun w' => (y_lenl rfl Tryd.underlying53 (ev_tmp rfl rfl))) ?_
        refine a_q rfl rfl rfl (fun w' => (y_eql rfl (ev_tmp rfl rfl) ev_const)) ?_
        refine a_q rfl rfl rfl (fun w' => (y_move rfl (ev_tmp rfl rfl))) ?_
        refine a_gread rfl (g_true rfl rfl rfl rfl) rfl (fun hc => fun w' hw' => (y_load1 (v := (Value.int .i64 n2)) rfl (ev_tmp rfl rfl) Tryd.underlying2 rfl ((CA.blk (hI.blk (.s (.s .z))) rfl).at_ (SX.any rfl hw')))) (by kernel_rfl) ?_
        refine a_gval rfl (g_true rfl rfl rfl rfl) rfl (fun hc => fun w' => (y_leq rfl (ev_gv (ev_tmp rfl rfl) hc) ev_const)) ?_
        refine a_q rfl rfl rfl (fun w' => (y_and rfl (ev_tmp rfl rfl) (ev_tmp rfl rfl))) ?_
        refine a_q rfl rfl rfl (fun w' => (y_assign rfl (ev_tmp rfl rfl))) ?_
        refine a_q rfl rfl rfl (fun w' => (y_assign rfl (ev_tmp rfl rfl))) ?_
        refine a_nil ?_
        refine k_next (e := [(4, (Value.int .i64 n2)), (5, (Value.bool ((decide ((a10.length : Int) = 0)) && (decide (n2 ≤ 2147483647)))))]) ⟨rfl, rfl, trivial⟩ ?_
        refine c_ret ?_
        obtain ⟨w19, hs2, c25, hI⟩ : ∃ w2, Shuts Tryd.prog [q1] w18 w2 ∧ ∃ C, Bun noM F w0 C w2 [MO.obj l1 _, MO.box b2 53 #[(Value.slice a11 a10.length c20)], MO.box b4 2 #[(Value.int .i64 n2)], MO.obj q1 (.deferred none)] [Cl.sl (cInt .u32) a11 c20 a10, Cl.blk b5 89 #[(Value.slice a5 r1.length c10)], Cl.sl (cSl (cInt .u32)) a5 c10 r1, Cl.sl (cSl (cInt .u32)) a5 c10 r1, Cl.blk b5 89 #[(Value.slice a5 r1.length c10)], Cl.sl (cSl (cInt .u32)) a4 c5 list1, Cl.sl (cInt .u32) a2 c1 a1] := hI.shut (.s (.s (.s .z))) fun C w hI => shut_nil ⟨_, hI⟩
        obtain rfl := some_inj h
        exact q_retS (vs := [(Value.int .i64 n2), (Value.bool ((decide ((a10.length : Int) = 0)) && (decide (n2 ≤ 2147483647))))]) hs2 Tryd.results71 ⟨ev_tmp rfl rfl, ⟨ev_tmp rfl rfl, trivial⟩⟩ ⟨rfl, hI.ext0, hI.fin trivial⟩
      · rw [if_neg hz1] at h
        cases h
    · skip
      refine c_block ?_
      refine c_loop (α := Nat × (List (List Int)) × (Option Addr) × Nat) (fun x => fun w => ∃ C, Bun noM F w0 C w [MO.row (cSl (cInt .u32)) 53 (x.2.2.1) (x.2.2.2) (x.2.1), MO.box b2 53 #[(Value.slice a2 a1.length c1)]] [Cl.sl (cInt .u32) a2 c1 a1] ∧ m_frac_quotient_l1 a1 (x.1) (x.2.1) = some r) (fun x _ => x.1) (fun x => [(2, (Value.pointer (some ⟨b2, 0, none⟩))), (6, (Value.slice (x.2.2.1) (x.2.1).length (x.2.2.2)))]) (fu, ([b1] : List (List Int)), some ⟨b3, 0, none⟩, 1) ⟨_, hI.arr (.c .z (.c .z .n)) ⟨.z, trivial⟩, h⟩ ⟨rfl, rfl, trivial⟩ ?_
      clear h hI; rintro ⟨fuel1, list2, a12, c26⟩ w20 ⟨c27, hI, h⟩
      dsimp only at hI h
      rcases fuel1 with _ | fuel1
      · rw [m_frac_quotient_l1] at h; cases h
      rw [m_frac_quotient_l1] at h
      refine c_sub (e := [(2, (Value.pointer (some ⟨b2, 0, none⟩))), (6, (Value.slice a12 list2.length c26))]) ⟨rfl, rfl, trivial⟩ ?_
      refine c_seq ?_
      refine c_seq ?_
      refine c_drawX [] false (.c (0, .q) (.c (1, .q) (.c (2, .q) (.c (3, .q) (.c (4, .q) (.c (5, .q) (.c (6, .q) (.c (7, .q) (.c (8, .q) (.c (9, .q) (.c (10, .q) (.c (11, .s) (.c (12, .q) (.c (13, .q) .n)))))))))))))) hI (by kernel_rfl) (by kernel_rfl) ?_
      clear hI; intro w21 hI
      refine a_q rfl rfl rfl (fun w' => (y_move rfl (ev_tmp rfl rfl))) ?_
      refine a_q rfl rfl rfl (fun w' => (y_lenl rfl Tryd.underlying89 (ev_tmp rfl rfl))) ?_
      refine a_q rfl rfl rfl (fun w' => (y_leq rfl (ev_tmp rfl rfl) ev_const)) ?_
      refine a_q rfl rfl rfl (fun w' => (y_move rfl (ev_tmp rfl rfl))) ?_
      refine a_gval rfl (g_true rfl rfl rfl rfl) rfl (fun hc => fun w' => (y_move rfl (ev_tmp rfl rfl))) ?_
      refine a_gval rfl (g_true rfl rfl rfl rfl) rfl (fun hc => fun w' => (y_move rfl (ev_tmp rfl rfl))) ?_
      refine a_gval rfl (g_true rfl rfl rfl rfl) rfl (fun hc => fun w' => (y_lenl rfl Tryd.underlying89 (ev_gv (ev_tmp rfl rfl) hc))) ?_
      refine a_gval rfl (g_true rfl rfl rfl rfl) rfl (fun hc => fun w' => (y_sub rfl (ev_gv (ev_tmp rfl rfl) hc) ev_const)) ?_
      obtain ⟨e1, hx8, h⟩ := bnd_some h
      replace hx8 := gd_some hx8
      obtain ⟨ad1, cs1, hq1⟩ := hI.golat .z hx8
      obtain ⟨a13, c28, hq2⟩ : ∃ (a13 : Option Addr) (c28 : Nat), (decide ((list2.length : Int) ≤ 32)) = true → (a12 = some ad1 ∧ cs1 = [(Value.slice a13 e1.length c28)] ∧ CA noM w21 (ad1.add (Int.toNat (wi64 ((list2.length : Int) - 1)) * 1)) cs1 ∧ SlC (cInt .u32) (Dj F c27) w21 a13 c28 e1) := by
        by_cases hc : (decide ((list2.length : Int) ≤ 32)) = true
        · obtain ⟨k1, k2, k3⟩ := hq1 hc; obtain ⟨a13, c28, rfl, hf1⟩ := k2; exact ⟨a13, c28, fun _ => ⟨k1, rfl, k3, hf1⟩⟩
        · exact ⟨default, default, fun k => absurd k hc⟩
      clear hq1
      have hI := hI.add (c := Cl.gsl (decide ((list2.length : Int) ≤ 32)) (cInt .u32) a13 c28 e1) (fun hc => (hq2 hc).2.2.2)
      have hq3 : (decide ((list2.length : Int) ≤ 32)) = true → CA noM w21 (ad1.add (Int.toNat (wi64 ((list2.length : Int) - 1)) * 1)) [(Value.slice a13 e1.length c28)] := fun hc => by have k := hq2 hc; have e : cs1 = _ := k.2.1; rw [← e]; exact k.2.2.1
      refine a_gval rfl (g_true rfl rfl rfl rfl) rfl (fun hc => fun w' => (y_indexAddr rfl Tryd.underlying89 size_53 (ev_gv (ev_tmp rfl rfl) hc) (ev_gv (ev_tmp rfl rfl) hc) (lat_bd (hx8 hc)) (hq2 hc).1)) ?_
      refine a_gread rfl (g_true rfl rfl rfl rfl) rfl (fun hc => fun w' hw' => (y_load1 (v := (Value.slice a13 e1.length c28)) rfl (ev_gv (ev_tmp rfl rfl) hc) Tryd.underlying53 rfl ((hq3 hc).at_ (SX.any rfl hw')))) (by kernel_rfl) ?_
      refine a_gread rfl (g_true rfl rfl rfl rfl) rfl (fun hc => fun w' hw' => (y_load1 (v := (Value.slice a2 a1.length c1)) rfl (ev_tmp rfl rfl) Tryd.underlying53 rfl ((CA.blk (hI.blk (.s .z)) rfl).at_ (SX.any rfl hw')))) (by kernel_rfl) ?_
      obtain ⟨r4, hx9, h⟩ := bnd_some h
      replace hx9 := gd_some hx9
      refine la_gcallU (v := (Value.int .i64 r4)) rfl (g_true rfl rfl rfl rfl) rfl (fun hc => (r_callF (vs := [(Value.slice a13 e1.length c28), (Value.slice a2 a1.length c1)]) rfl ok_49 ⟨(ev_gv (ev_tmp rfl rfl) hc), ⟨(ev_gv (ev_tmp rfl rfl) hc), trivial⟩⟩)) (fun hc => (c_frac_nat_compare (Dj F c27) w21 hI.lt e1 a1 a13 c28 a2 c1 ⟨(hI.get .z hc), (hI.get (.s .z)), trivial⟩ r4 (hx9 hc)).mono fun _ _ k => ⟨k.1, k.2.1⟩) ?_
      intro w22 hx10; replace hI := hI.ext hx10
      refine a_gval rfl (g_true rfl rfl rfl rfl) rfl (fun hc => fun w' => (y_leq rfl (ev_gv (ev_tmp rfl rfl) hc) ev_const)) ?_
      refine a_q rfl rfl rfl (fun w' => (y_and rfl (ev_tmp rfl rfl) (ev_tmp rfl rfl))) ?_
      refine a_nil ?_
      refine k_next (e := [(2, (Value.pointer (some ⟨b2, 0, none⟩))), (6, (Value.slice a12 list2.length c26)), (31, (Value.bool ((decide ((list2.length : Int) ≤ 32)) && (decide (r4 ≤ 0)))))]) ⟨rfl, rfl, rfl, trivial⟩ ?_
      refine c_cond (b := (decide ((list2.length : Int) ≤ 32)) && (decide (r4 ≤ 0))) (ev_tmp rfl rfl) (fun hb => ?_) (fun hb => ?_)
      · replace h := ite_t hb h
        refine c_skip ?_
        refine k_next (e := [(2, (Value.pointer (some ⟨b2, 0, none⟩))), (6, (Value.slice a12 list2.length c26))]) ⟨rfl, rfl, trivial⟩ ?_
        refine c_block ?_
        refine c_region rfl ?_
        refine s_q rfl rfl (y_move rfl (ev_tmp rfl rfl)) ?_
        refine s_q rfl rfl (y_move rfl (ev_tmp rfl rfl)) ?_
        refine s_q rfl rfl (y_move rfl (ev_tmp rfl rfl)) ?_
        refine s_q rfl rfl (y_lenl rfl Tryd.underlying89 (ev_tmp rfl rfl)) ?_
        refine s_q rfl rfl (y_sub rfl (ev_tmp rfl rfl) ev_const) ?_
        obtain ⟨e2, hx11, h⟩ := bnd_some h
        obtain ⟨ad2, cs2, hA2, hr2, hq4⟩ := hI.olat .z hx11
        obtain ⟨a14, c29, rfl, hf2⟩ := hr2
        have hI := hI.add (c := Cl.sl (cInt .u32) a14 c29 e2) hf2
        refine s_q rfl rfl (y_indexAddr rfl Tryd.underlying89 size_53 (ev_tmp rfl rfl) (ev_tmp rfl rfl) (lat_bd hx11) hA2) ?_
        refine s_q rfl rfl (y_load1 (v := (Value.slice a14 e2.length c29)) rfl (ev_tmp rfl rfl) Tryd.underlying53 rfl hq4.1) ?_
        obtain ⟨r5, hx12, h⟩ := bnd_some h
        refine s_call rfl rfl (r_callF (vs := [(Value.slice a14 e2.length c29), (Value.int .u32 2)]) rfl ok_47 ⟨(ev_tmp rfl rfl), ⟨ev_const, trivial⟩⟩) (Calls.mono (c_frac_nat_times (Dj F c27) w22 hI.lt e2 2 a14 c29 ⟨(hI.get .z), trivial⟩ r5 hx12) ?_)
        rintro _ w23 ⟨a15, c30, rfl, hx13, hl6⟩
        refine ⟨_, rfl, ?_⟩
        replace hI := (hI.ext hx13).adds hl6
        refine l_lit (c := (cSl (cInt .u32))) (xs := ([r5] : List (List Int))) (vs := [(0, (Value.slice a15 r5.length c30))]) (cs := #[(Value.slice a15 r5.length c30)]) (css := [[(Value.slice a15 r5.length c30)]]) hI rfl rfl rfl Tryd.underlying89 info_53 rfl ⟨rfl, (ev_tmp rfl rfl), trivial⟩ (by kernel_rfl) ⟨⟨a15, c30, rfl, hI.get .z⟩, trivial⟩ rfl rfl rfl ?_
        clear hI; intro b6 c31 w24 hI
        obtain ⟨zs1, hx14, h⟩ := bnd_some h
        refine l_append (xs := list2) (ys := ([r5] : List (List Int))) hI (.s .z) (hI.rd .z) hx14 rfl rfl rfl Tryd.underlying89 info_53 rfl rfl (ev_tmp rfl rfl) (ev_tmp rfl rfl) ?_
        clear hI; intro a16 c32 c33 w25 hI
        refine s_q rfl rfl (y_assign rfl (ev_tmp rfl rfl)) ?_
        refine s_nil ?_
        exact k_loop (fuel1, zs1, a16, c32) ⟨rfl, rfl, trivial⟩ ⟨_, hI.arr (.c (.s .z) (.c (.s .z) .n)) ⟨(.s (.s (.s .z))), trivial⟩, h⟩ (Nat.lt_succ_self _)
      · replace h := ite_f hb h
        refine c_exit ?_
        refine k_in ?_
        exact k_join (list2, a12, c26) ⟨rfl, rfl, trivial⟩ ⟨_, hI.arr (.c .z (.c .z .n)) ⟨(.s .z), trivial⟩, h⟩ rfl

set_option maxRecDepth 100000 in
set_option maxHeartbeats 4000000 in
theorem c_frac_lowest (F : NP) (w0 : World) (hF : ∀ k, F k → k < w0.heap.size) (a1 : List Int) (b1 : List Int) (a2 : Option Addr) (c1 : Nat) (a3 : Option Addr) (c2 : Nat) (hc : AllCl [Cl.sl (cInt .u32) a2 c1 a1, Cl.sl (cInt .u32) a3 c2 b1] F w0) (r : GVal × Int)
    (h : m_frac_lowest a1 b1 = some r) :
    Calls Tryd.prog 50 #[(Value.slice a2 a1.length c1), (Value.slice a3 b1.length c2)] w0 fun e w => e = .returned (Value.tuple #[(Value.agg #[(Value.int .i64 r.1.N), (Value.int .i64 r.1.D)]), (Value.int .i64 r.2)]) ∧ Ext w0 w ∧ AllCl [] F w := by
  refine ofEnter (R := fun v w => v = (Value.tuple #[(Value.agg #[(Value.int .i64 r.1.N), (Value.int .i64 r.1.D)]), (Value.int .i64 r.2)]) ∧ Ext w0 w ∧ AllCl [] F w) (enter (l := [(Value.slice a2 a1.length c1), (Value.slice a3 b1.length c2)]) Tryd.func50 rfl Tryd.ntmps50 rfl ?_) ?_
  rotate_left
  · rintro _ w ⟨rfl, k1, k2⟩; exact ⟨rfl, k1, k2⟩
  have hI := Bun.start hF hc
  clear hc
  rw [m_frac_lowest] at h
  refine c_seq ?_
  refine c_region rfl ?_
  refine l_alloc (cs := #[(Value.int .i64 0), (Value.int .i64 0)]) hI rfl rfl rfl zero_23 rfl ?_
  clear hI; intro b2 c3 w1 hI
  refine s_q rfl rfl (y_assign rfl ev_const) ?_
  refine s_nil ?_
  refine k_next (e := [(0, (Value.slice a2 a1.length c1)), (1, (Value.slice a3 b1.length c2)), (4, (Value.pointer (some ⟨b2, 0, none⟩)))]) ⟨rfl, rfl, rfl, trivial⟩ ?_
  refine c_seq ?_
  refine c_seq ?_
  refine c_region rfl ?_
  refine s_q rfl rfl (y_move rfl (ev_tmp rfl rfl)) ?_
  refine s_q rfl rfl (y_lenl rfl Tryd.underlying53 (ev_tmp rfl rfl)) ?_
  refine s_q rfl rfl (y_eql rfl (ev_tmp rfl rfl) ev_const) ?_
  refine s_nil ?_
  refine k_next (e := [(0, (Value.slice a2 a1.length c1)), (1, (Value.slice a3 b1.length c2)), (4, (Value.pointer (some ⟨b2, 0, none⟩))), (13, (Value.bool (decide ((a1.length : Int) = 0))))]) ⟨rfl, rfl, rfl, rfl, trivial⟩ ?_
  refine c_cond (b := decide ((a1.length : Int) = 0)) (ev_tmp rfl rfl) (fun hb => ?_) (fun hb => ?_)
  · replace h := ite_t hb h
    refine c_seq ?_
    refine c_region rfl ?_
    refine s_q rfl rfl (y_build (vs := [(0, (Value.int .i64 0)), (1, (Value.int .i64 1))]) (cs := #[(Value.int .i64 0), (Value.int .i64 1)]) rfl ⟨rfl, ev_const, ⟨rfl, ev_const, trivial⟩⟩ (by kernel_rfl)) ?_
    refine l_store (new := [(Value.int .i64 0), (Value.int .i64 1)]) (cs' := #[(Value.int .i64 0), (Value.int .i64 1)]) hI .z rfl rfl rfl (ev_tmp rfl rfl) (ev_tmp rfl rfl) rfl size_23 rfl rfl rfl ?_
    clear hI; intro c4 w2 hI
    refine s_q rfl rfl (y_assign rfl ev_const) ?_
    refine s_nil ?_
    refine k_next (e := [(4, (Value.pointer (some ⟨b2, 0, none⟩))), (5, (Value.int .i64 0))]) ⟨rfl, rfl, trivial⟩ ?_
    refine c_ret ?_
    obtain rfl := some_inj h
    exact q_ret (vs := [(Value.agg #[(Value.int .i64 0), (Value.int .i64 1)]), (Value.int .i64 0)]) Tryd.results50 ⟨⟨_, ev_tmp rfl rfl, load_agg (l := [(Value.int .i64 0), (Value.int .i64 1)]) Tryd.underlying23 rfl size_23 (CellsAt.of_blk (hI.blk .z) rfl)⟩, ⟨ev_tmp rfl rfl, trivial⟩⟩ ⟨rfl, hI.ext0, hI.fin trivial⟩
  · replace h := ite_f hb h
    refine c_skip ?_
    refine k_next (e := [(0, (Value.slice a2 a1.length c1)), (1, (Value.slice a3 b1.length c2)), (4, (Value.pointer (some ⟨b2, 0, none⟩)))]) ⟨rfl, rfl, rfl, trivial⟩ ?_
    refine c_seq ?_
    refine c_region rfl ?_
    refine s_q rfl rfl (y_move rfl (ev_tmp rfl rfl)) ?_
    refine s_q rfl rfl (y_move rfl (ev_tmp rfl rfl)) ?_
    obtain ⟨r1, hx1, h⟩ := bnd_some h
    refine s_call rfl rfl (r_callF (vs := [(Value.slice a2 a1.length c1), (Value.slice a3 b1.length c2)]) rfl ok_70 ⟨(ev_tmp rfl rfl), ⟨(ev_tmp rfl rfl), trivial⟩⟩) (Calls.mono (c_frac_common (Dj F c3) w1 hI.lt a1 b1 a2 c1 a3 c2 ⟨(hI.get .z), (hI.get (.s .z)), trivial⟩ r1 hx1) ?_)
    rintro _ w3 ⟨a4, c5, rfl, hx2, hl1⟩
    refine ⟨_, rfl, ?_⟩
    replace hI := (hI.ext hx2).adds hl1
    refine s_q rfl rfl (y_assign rfl (ev_tmp rfl rfl)) ?_
    refine s_nil ?_
    refine k_next (e := [(0, (Value.slice a2 a1.length c1)), (1, (Value.slice a3 b1.length c2)), (4, (Value.pointer (some ⟨b2, 0, none⟩))), (6, (Value.slice a4 r1.length c5))]) ⟨rfl, rfl, rfl, rfl, trivial⟩ ?_
    refine c_seq ?_
    refine c_region rfl ?_
    refine s_q rfl rfl (y_move rfl (ev_tmp rfl rfl)) ?_
    refine s_q rfl rfl (y_move rfl (ev_tmp rfl rfl)) ?_
    obtain ⟨r2, hx3, h⟩ := bnd_some h
    refine s_call rfl rfl (r_callF (vs := [(Value.slice a2 a1.length c1), (Value.slice a4 r1.length c5)]) rfl ok_71 ⟨(ev_tmp rfl rfl), ⟨(ev_tmp rfl rfl), trivial⟩⟩) (Calls.mono (c_frac_quotient (Dj F c3) w3 hI.lt a1 r1 a2 c1 a4 c5 ⟨(hI.get (.s .z)), (hI.get .z), trivial⟩ r2 hx3) ?_)
    rintro _ w4 ⟨rfl, hx4, hl2⟩
    refine ⟨_, rfl, ?_⟩
    replace hI := (hI.ext hx4)
    refine s_q rfl rfl (y_move rfl (ev_tmp rfl rfl)) ?_
    refine s_q rfl rfl (y_extract rfl (ev_tmp rfl rfl) rfl) ?_
    refine s_q rfl rfl (y_extract rfl (ev_tmp rfl rfl) rfl) ?_
    refine s_q rfl rfl (y_assign rfl (ev_tmp rfl rfl)) ?_
    refine s_q rfl rfl (y_assign rfl (ev_tmp rfl rfl)) ?_
    refine s_nil ?_
    refine k_next (e := [(1, (Value.slice a3 b1.length c2)), (4, (Value.pointer (some ⟨b2, 0, none⟩))), (6, (Value.slice a4 r1.length c5)), (7, (Value.int .i64 r2.1)), (8, (Value.bool r2.2))]) ⟨rfl, rfl, rfl, rfl, rfl, trivial⟩ ?_
    refine c_seq ?_
    refine c_region rfl ?_
    refine s_q rfl rfl (y_move rfl (ev_tmp rfl rfl)) ?_
    refine s_q rfl rfl (y_move rfl (ev_tmp rfl rfl)) ?_
    obtain ⟨r3, hx5, h⟩ := bnd_some h
    refine s_call rfl rfl (r_callF (vs := [(Value.slice a3 b1.length c2), (Value.slice a4 r1.length c5)]) rfl ok_71 ⟨(ev_tmp rfl rfl), ⟨(ev_tmp rfl rfl), trivial⟩⟩) (Calls.mono (c_frac_quotient (Dj F c3) w4 hI.lt b1 r1 a3 c2 a4 c5 ⟨(hI.get (.s (.s .z))), (hI.get .z), trivial⟩ r3 hx5) ?_)
    rintro _ w5 ⟨rfl, hx6, hl3⟩
    refine ⟨_, rfl, ?_⟩
    replace hI := (hI.ext hx6)
    refine s_q rfl rfl (y_move rfl (ev_tmp rfl rfl)) ?_
    refine s_q rfl rfl (y_extract rfl (ev_tmp rfl rfl) rfl) ?_
    refine s_q rfl rfl (y_extract rfl (ev_tmp rfl rfl) rfl) ?_
    refine s_q rfl rfl (y_assign rfl (ev_tmp rfl rfl)) ?_
    refine s_q rfl rfl (y_assign rfl (ev_tmp rfl rfl)) ?_
    refine s_nil ?_
    refine k_next (e := [(4, (Value.pointer (some ⟨b2, 0, none⟩))), (7, (Value.int .i64 r2.1)), (8, (Value.bool r2.2)), (9, (Value.int .i64 r3.1)), (10, (Value.bool r3.2))]) ⟨rfl, rfl, rfl, rfl, rfl, trivial⟩ ?_
    refine c_seq ?_
    refine c_seq ?_
    refine c_region rfl ?_
    refine s_q rfl rfl (y_move rfl (ev_tmp rfl rfl)) ?_
    refine s_q rfl rfl (y_not rfl (ev_tmp rfl rfl)) ?_
    refine s_q rfl rfl (y_move rfl (ev_tmp rfl rfl)) ?_
    refine s_gval (g_false rfl rfl rfl rfl) rfl (fun hc => (y_move rfl (ev_tmp rfl rfl))) ?_
    refine s_gval (g_false rfl rfl rfl rfl) rfl (fun hc => (y_not rfl (ev_gv (ev_tmp rfl rfl) hc))) ?_
    refine s_q rfl rfl (y_or rfl (ev_tmp rfl rfl) (ev_tmp rfl rfl)) ?_
    refine s_nil ?_
    refine k_next (e := [(4, (Value.pointer (some ⟨b2, 0, none⟩))), (7, (Value.int .i64 r2.1)), (9, (Value.int .i64 r3.1)), (35, (Value.bool ((!r2.2) || (!r3.2))))]) ⟨rfl, rfl, rfl, rfl, trivial⟩ ?_
    refine c_cond (b := (!r2.2) || (!r3.2)) (ev_tmp rfl rfl) (fun hb => ?_) (fun hb => ?_)
    · replace h := ite_t hb h
      refine c_seq ?_
      refine c_region rfl ?_
      refine s_q rfl rfl (y_build (vs := []) (cs := #[(Value.int .i64 0), (Value.int .i64 0)]) rfl trivial (by kernel_rfl)) ?_
      refine l_store (new := [(Value.int .i64 0), (Value.int .i64 0)]) (cs' := #[(Value.int .i64 0), (Value.int .i64 0)]) hI .z rfl rfl rfl (ev_tmp rfl rfl) (ev_tmp rfl rfl) rfl size_23 rfl rfl rfl ?_
      clear hI; intro c6 w6 hI
      refine s_q rfl rfl (y_assign rfl ev_const) ?_
      refine s_nil ?_
      refine k_next (e := [(4, (Value.pointer (some ⟨b2, 0, none⟩))), (5, (Value.int .i64 3))]) ⟨rfl, rfl, trivial⟩ ?_
      refine c_ret ?_
      obtain rfl := some_inj h
      exact q_ret (vs := [(Value.agg #[(Value.int .i64 0), (Value.int .i64 0)]), (Value.int .i64 3)]) Tryd.results50 ⟨⟨_, ev_tmp rfl rfl, load_agg (l := [(Value.int .i64 0), (Value.int .i64 0)]) Tryd.underlying23 rfl size_23 (CellsAt.of_blk (hI.blk .z) rfl)⟩, ⟨ev_tmp rfl rfl, trivial⟩⟩ ⟨rfl, hI.ext0, hI.fin trivial⟩
    · replace h := ite_f hb h
      refine c_skip ?_
      refine k_next (e := [(4, (Value.pointer (some ⟨b2, 0, none⟩))), (7, (Value.int .i64 r2.1)), (9, (Value.int .i64 r3.1))]) ⟨rfl, rfl, rfl, trivial⟩ ?_
      refine c_seq ?_
      refine c_region rfl ?_
      refine s_q rfl rfl (y_move rfl (ev_tmp rfl rfl)) ?_
      refine s_q rfl rfl (y_move rfl (ev_tmp rfl rfl)) ?_
      refine s_q rfl rfl (y_build (vs := [(0, (Value.int .i64 r2.1)), (1, (Value.int .i64 r3.1))]) (cs := #[(Value.int .i64 r2.1), (Value.int .i64 r3.1)]) rfl ⟨rfl, (ev_tmp rfl rfl), ⟨rfl, (ev_tmp rfl rfl), trivial⟩⟩ (by kernel_rfl)) ?_
      refine l_store (new := [(Value.int .i64 r2.1), (Value.int .i64 r3.1)]) (cs' := #[(Value.int .i64 r2.1), (Value.int .i64 r3.1)]) hI .z rfl rfl rfl (ev_tmp rfl rfl) (ev_tmp rfl rfl) rfl size_23 rfl rfl rfl ?_
      clear hI; intro c7 w7 hI
      refine s_q rfl rfl (y_assign rfl ev_const) ?_
      refine s_nil ?_
      refine k_next (e := [(4, (Value.pointer (some ⟨b2, 0, none⟩))), (5, (Value.int .i64 0))]) ⟨rfl, rfl, trivial⟩ ?_
      refine c_ret ?_
      obtain rfl := some_inj h
      exact q_ret (vs := [(Value.agg #[(Value.int .i64 r2.1), (Value.int .i64 r3.1)]), (Value.int .i64 0)]) Tryd.results50 ⟨⟨_, ev_tmp rfl rfl, load_agg (l := [(Value.int .i64 r2.1), (Value.int .i64 r3.1)]) Tryd.underlying23 rfl size_23 (CellsAt.of_blk (hI.blk .z) rfl)⟩, ⟨ev_tmp rfl rfl, trivial⟩⟩ ⟨rfl, hI.ext0, hI.fin trivial⟩

end Go.Proofs.YtkmenmoiagkegaaDoor
