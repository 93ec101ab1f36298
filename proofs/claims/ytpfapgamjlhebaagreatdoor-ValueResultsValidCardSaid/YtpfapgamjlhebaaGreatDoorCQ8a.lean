/- Each call returns what its plain function gives: printed by a program of my own; Lean checks it. -/
import Derived.Test.YtpfapgamjlhebaaGreatDoorXc
namespace Go.Proofs.YtpfapgamjlhebaaGreatDoor
open Go Go.RowKit Go.Vc
set_option linter.unusedVariables false
set_option linter.unusedSimpArgs false

theorem stood_23 : Tryz.prog.stoodInHeld 23 = false := by kernel_rfl
theorem eqstruct_23 (a0 b0 : Int) (a1 b1 : Int) (a2 b2 : Int) (a3 b3 : Int) (a4 b4 : Int) (w : World) : (binOp .eql 23 (.agg #[(Value.int .i64 a0), (Value.int .i64 a1), (Value.int .i64 a2), (Value.int .i64 a3), (Value.int .i64 a4)]) (.agg #[(Value.int .i64 b0), (Value.int .i64 b1), (Value.int .i64 b2), (Value.int .i64 b3), (Value.int .i64 b4)])).run Tryz.prog w = .ok (.bool ((decide (a0 = b0)) && (decide (a1 = b1)) && (decide (a2 = b2)) && (decide (a3 = b3)) && (decide (a4 = b4)))) w := by
  simp [go_sem, stood_23, Tryz.underlying23, eq_dec_int, eq_dec_str]
  all_goals (by_cases h0 : a0 = b0 <;> by_cases h1 : a1 = b1 <;> by_cases h2 : a2 = b2 <;> by_cases h3 : a3 = b3 <;> by_cases h4 : a4 = b4 <;> simp [h0, h1, h2, h3, h4])
theorem eqstruct_23n (a0 b0 : Int) (a1 b1 : Int) (a2 b2 : Int) (a3 b3 : Int) (a4 b4 : Int) (w : World) : (binOp .neq 23 (.agg #[(Value.int .i64 a0), (Value.int .i64 a1), (Value.int .i64 a2), (Value.int .i64 a3), (Value.int .i64 a4)]) (.agg #[(Value.int .i64 b0), (Value.int .i64 b1), (Value.int .i64 b2), (Value.int .i64 b3), (Value.int .i64 b4)])).run Tryz.prog w = .ok (.bool (!((decide (a0 = b0)) && (decide (a1 = b1)) && (decide (a2 = b2)) && (decide (a3 = b3)) && (decide (a4 = b4))))) w := by
  simp [go_sem, stood_23, Tryz.underlying23, eq_dec_int, eq_dec_str]
  all_goals (by_cases h0 : a0 = b0 <;> by_cases h1 : a1 = b1 <;> by_cases h2 : a2 = b2 <;> by_cases h3 : a3 = b3 <;> by_cases h4 : a4 = b4 <;> simp [h0, h1, h2, h3, h4])
theorem eqguard_23 (op : BinOp) (x y : Operand) (xs ys : Array Value) (w : World) : (eqGuard op 23 x y (.agg xs) (.agg ys)).run Tryz.prog w = .ok () w := run_eqGuard_agg w op 23 x y xs ys (by kernel_rfl)
theorem stood_27 : Tryz.prog.stoodInHeld 27 = false := by kernel_rfl
theorem eqstruct_27 (a0 b0 : Int) (a1 b1 : Int) (w : World) : (binOp .eql 27 (.agg #[(Value.int .i64 a0), (Value.int .i64 a1)]) (.agg #[(Value.int .i64 b0), (Value.int .i64 b1)])).run Tryz.prog w = .ok (.bool ((decide (a0 = b0)) && (decide (a1 = b1)))) w := by
  simp [go_sem, stood_27, Tryz.underlying27, eq_dec_int, eq_dec_str]
  all_goals (by_cases h0 : a0 = b0 <;> by_cases h1 : a1 = b1 <;> simp [h0, h1])
theorem eqstruct_27n (a0 b0 : Int) (a1 b1 : Int) (w : World) : (binOp .neq 27 (.agg #[(Value.int .i64 a0), (Value.int .i64 a1)]) (.agg #[(Value.int .i64 b0), (Value.int .i64 b1)])).run Tryz.prog w = .ok (.bool (!((decide (a0 = b0)) && (decide (a1 = b1))))) w := by
  simp [go_sem, stood_27, Tryz.underlying27, eq_dec_int, eq_dec_str]
  all_goals (by_cases h0 : a0 = b0 <;> by_cases h1 : a1 = b1 <;> simp [h0, h1])
theorem eqguard_27 (op : BinOp) (x y : Operand) (xs ys : Array Value) (w : World) : (eqGuard op 27 x y (.agg xs) (.agg ys)).run Tryz.prog w = .ok () w := run_eqGuard_agg w op 27 x y xs ys (by kernel_rfl)
theorem info_27 : Info Tryz.prog 27 2 16 (Value.agg #[(Value.int .i64 0), (Value.int .i64 0)]) := info_mk (by kernel_rfl) rfl
theorem ok_101 : FnOK Tryz.prog 101 := ⟨_, Tryz.func101, by kernel_rfl, by kernel_rfl⟩
theorem ok_102 : FnOK Tryz.prog 102 := ⟨_, Tryz.func102, by kernel_rfl, by kernel_rfl⟩
theorem ok_103 : FnOK Tryz.prog 103 := ⟨_, Tryz.func103, by kernel_rfl, by kernel_rfl⟩
theorem ok_104 : FnOK Tryz.prog 104 := ⟨_, Tryz.func104, by kernel_rfl, by kernel_rfl⟩
theorem ok_105 : FnOK Tryz.prog 105 := ⟨_, Tryz.func105, by kernel_rfl, by kernel_rfl⟩
theorem ok_106 : FnOK Tryz.prog 106 := ⟨_, Tryz.func106, by kernel_rfl, by kernel_rfl⟩
theorem ok_107 : FnOK Tryz.prog 107 := ⟨_, Tryz.func107, by kernel_rfl, by kernel_rfl⟩
theorem ok_108 : FnOK Tryz.prog 108 := ⟨_, Tryz.func108, by kernel_rfl, by kernel_rfl⟩
theorem ok_109 : FnOK Tryz.prog 109 := ⟨_, Tryz.func109, by kernel_rfl, by kernel_rfl⟩
theorem ok_11 : FnOK Tryz.prog 11 := ⟨_, Tryz.func11, by kernel_rfl, by kernel_rfl⟩
theorem ok_110 : FnOK Tryz.prog 110 := ⟨_, Tryz.func110, by kernel_rfl, by kernel_rfl⟩
theorem ok_112 : FnOK Tryz.prog 112 := ⟨_, Tryz.func112, by kernel_rfl, by kernel_rfl⟩
theorem ok_113 : FnOK Tryz.prog 113 := ⟨_, Tryz.func113, by kernel_rfl, by kernel_rfl⟩
theorem ok_120 : FnOK Tryz.prog 120 := ⟨_, Tryz.func120, by kernel_rfl, by kernel_rfl⟩
theorem ok_121 : FnOK Tryz.prog 121 := ⟨_, Tryz.func121, by kernel_rfl, by kernel_rfl⟩
theorem ok_13 : FnOK Tryz.prog 13 := ⟨_, Tryz.func13, by kernel_rfl, by kernel_rfl⟩
theorem ok_15 : FnOK Tryz.prog 15 := ⟨_, Tryz.func15, by kernel_rfl, by kernel_rfl⟩
theorem ok_17 : FnOK Tryz.prog 17 := ⟨_, Tryz.func17, by kernel_rfl, by kernel_rfl⟩
theorem ok_18 : FnOK Tryz.prog 18 := ⟨_, Tryz.func18, by kernel_rfl, by kernel_rfl⟩
theorem ok_19 : FnOK Tryz.prog 19 := ⟨_, Tryz.func19, by kernel_rfl, by kernel_rfl⟩
theorem ok_20 : FnOK Tryz.prog 20 := ⟨_, Tryz.func20, by kernel_rfl, by kernel_rfl⟩
theorem ok_21 : FnOK Tryz.prog 21 := ⟨_, Tryz.func21, by kernel_rfl, by kernel_rfl⟩
theorem ok_22 : FnOK Tryz.prog 22 := ⟨_, Tryz.func22, by kernel_rfl, by kernel_rfl⟩
theorem ok_27 : FnOK Tryz.prog 27 := ⟨_, Tryz.func27, by kernel_rfl, by kernel_rfl⟩
theorem ok_30 : FnOK Tryz.prog 30 := ⟨_, Tryz.func30, by kernel_rfl, by kernel_rfl⟩
theorem ok_31 : FnOK Tryz.prog 31 := ⟨_, Tryz.func31, by kernel_rfl, by kernel_rfl⟩
theorem ok_34 : FnOK Tryz.prog 34 := ⟨_, Tryz.func34, by kernel_rfl, by kernel_rfl⟩
theorem ok_35 : FnOK Tryz.prog 35 := ⟨_, Tryz.func35, by kernel_rfl, by kernel_rfl⟩
theorem ok_39 : FnOK Tryz.prog 39 := ⟨_, Tryz.func39, by kernel_rfl, by kernel_rfl⟩
theorem ok_40 : FnOK Tryz.prog 40 := ⟨_, Tryz.func40, by kernel_rfl, by kernel_rfl⟩
theorem ok_41 : FnOK Tryz.prog 41 := ⟨_, Tryz.func41, by kernel_rfl, by kernel_rfl⟩
theorem ok_42 : FnOK Tryz.prog 42 := ⟨_, Tryz.func42, by kernel_rfl, by kernel_rfl⟩
theorem ok_43 : FnOK Tryz.prog 43 := ⟨_, Tryz.func43, by kernel_rfl, by kernel_rfl⟩
theorem ok_44 : FnOK Tryz.prog 44 := ⟨_, Tryz.func44, by kernel_rfl, by kernel_rfl⟩
theorem ok_45 : FnOK Tryz.prog 45 := ⟨_, Tryz.func45, by kernel_rfl, by kernel_rfl⟩
theorem ok_46 : FnOK Tryz.prog 46 := ⟨_, Tryz.func46, by kernel_rfl, by kernel_rfl⟩
theorem ok_47 : FnOK Tryz.prog 47 := ⟨_, Tryz.func47, by kernel_rfl, by kernel_rfl⟩
theorem ok_57 : FnOK Tryz.prog 57 := ⟨_, Tryz.func57, by kernel_rfl, by kernel_rfl⟩
theorem ok_58 : FnOK Tryz.prog 58 := ⟨_, Tryz.func58, by kernel_rfl, by kernel_rfl⟩
theorem ok_59 : FnOK Tryz.prog 59 := ⟨_, Tryz.func59, by kernel_rfl, by kernel_rfl⟩
theorem ok_6 : FnOK Tryz.prog 6 := ⟨_, Tryz.func6, by kernel_rfl, by kernel_rfl⟩
theorem ok_60 : FnOK Tryz.prog 60 := ⟨_, Tryz.func60, by kernel_rfl, by kernel_rfl⟩
theorem ok_61 : FnOK Tryz.prog 61 := ⟨_, Tryz.func61, by kernel_rfl, by kernel_rfl⟩
theorem ok_62 : FnOK Tryz.prog 62 := ⟨_, Tryz.func62, by kernel_rfl, by kernel_rfl⟩
theorem ok_67 : FnOK Tryz.prog 67 := ⟨_, Tryz.func67, by kernel_rfl, by kernel_rfl⟩
theorem ok_68 : FnOK Tryz.prog 68 := ⟨_, Tryz.func68, by kernel_rfl, by kernel_rfl⟩
theorem ok_7 : FnOK Tryz.prog 7 := ⟨_, Tryz.func7, by kernel_rfl, by kernel_rfl⟩
theorem ok_72 : FnOK Tryz.prog 72 := ⟨_, Tryz.func72, by kernel_rfl, by kernel_rfl⟩
theorem ok_73 : FnOK Tryz.prog 73 := ⟨_, Tryz.func73, by kernel_rfl, by kernel_rfl⟩
theorem ok_74 : FnOK Tryz.prog 74 := ⟨_, Tryz.func74, by kernel_rfl, by kernel_rfl⟩
theorem ok_75 : FnOK Tryz.prog 75 := ⟨_, Tryz.func75, by kernel_rfl, by kernel_rfl⟩
theorem ok_76 : FnOK Tryz.prog 76 := ⟨_, Tryz.func76, by kernel_rfl, by kernel_rfl⟩
theorem ok_77 : FnOK Tryz.prog 77 := ⟨_, Tryz.func77, by kernel_rfl, by kernel_rfl⟩
theorem ok_78 : FnOK Tryz.prog 78 := ⟨_, Tryz.func78, by kernel_rfl, by kernel_rfl⟩
theorem ok_79 : FnOK Tryz.prog 79 := ⟨_, Tryz.func79, by kernel_rfl, by kernel_rfl⟩
theorem ok_80 : FnOK Tryz.prog 80 := ⟨_, Tryz.func80, by kernel_rfl, by kernel_rfl⟩
theorem ok_81 : FnOK Tryz.prog 81 := ⟨_, Tryz.func81, by kernel_rfl, by kernel_rfl⟩
theorem ok_82 : FnOK Tryz.prog 82 := ⟨_, Tryz.func82, by kernel_rfl, by kernel_rfl⟩
theorem ok_83 : FnOK Tryz.prog 83 := ⟨_, Tryz.func83, by kernel_rfl, by kernel_rfl⟩
theorem ok_84 : FnOK Tryz.prog 84 := ⟨_, Tryz.func84, by kernel_rfl, by kernel_rfl⟩
theorem ok_85 : FnOK Tryz.prog 85 := ⟨_, Tryz.func85, by kernel_rfl, by kernel_rfl⟩
theorem ok_86 : FnOK Tryz.prog 86 := ⟨_, Tryz.func86, by kernel_rfl, by kernel_rfl⟩
theorem ok_87 : FnOK Tryz.prog 87 := ⟨_, Tryz.func87, by kernel_rfl, by kernel_rfl⟩
theorem ok_9 : FnOK Tryz.prog 9 := ⟨_, Tryz.func9, by kernel_rfl, by kernel_rfl⟩
theorem ok_92 : FnOK Tryz.prog 92 := ⟨_, Tryz.func92, by kernel_rfl, by kernel_rfl⟩
theorem ok_93 : FnOK Tryz.prog 93 := ⟨_, Tryz.func93, by kernel_rfl, by kernel_rfl⟩
theorem ok_94 : FnOK Tryz.prog 94 := ⟨_, Tryz.func94, by kernel_rfl, by kernel_rfl⟩
theorem ok_95 : FnOK Tryz.prog 95 := ⟨_, Tryz.func95, by kernel_rfl, by kernel_rfl⟩
theorem ok_96 : FnOK Tryz.prog 96 := ⟨_, Tryz.func96, by kernel_rfl, by kernel_rfl⟩
theorem ok_97 : FnOK Tryz.prog 97 := ⟨_, Tryz.func97, by kernel_rfl, by kernel_rfl⟩
theorem ok_98 : FnOK Tryz.prog 98 := ⟨_, Tryz.func98, by kernel_rfl, by kernel_rfl⟩
theorem size_2 : (Tryz.prog.info? 2).map (·.size) = some 1 := by kernel_rfl
theorem size_23 : (Tryz.prog.info? 23).map (·.size) = some 5 := by kernel_rfl
theorem size_27 : (Tryz.prog.info? 27).map (·.size) = some 2 := by kernel_rfl
theorem size_3 : (Tryz.prog.info? 3).map (·.size) = some 1 := by kernel_rfl
theorem size_96 : (Tryz.prog.info? 96).map (·.size) = some 1 := by kernel_rfl
theorem zero_23 : (Tryz.prog.info? 23).bind (·.zero) = some (Value.agg #[(Value.int .i64 0), (Value.int .i64 0), (Value.int .i64 0), (Value.int .i64 0), (Value.int .i64 0)]) := by kernel_rfl
theorem zero_27 : (Tryz.prog.info? 27).bind (·.zero) = some (Value.agg #[(Value.int .i64 0), (Value.int .i64 0)]) := by kernel_rfl
set_option maxRecDepth 100000 in
set_option maxHeartbeats 4000000 in
theorem c_value_plain (F : NP) (w0 : World) (hF : ∀ k, F k → k < w0.heap.size) (t1 : GType) (hc : AllCl [] F w0) (r : Bool)
    (h : m_value_plain t1 = some r) :
    Calls Tryz.prog 46 #[(Value.agg #[(Value.int .i64 t1.Kind), (Value.int .i64 t1.Bits), (Value.int .i64 t1.Frac), (Value.int .i64 t1.Round), (Value.int .i64 t1.Over)])] w0 fun e w => e = .returned (Value.bool r) ∧ Ext w0 w ∧ AllCl [] F w := by
  refine ofEnter (R := fun v w => v = (Value.bool r) ∧ Ext w0 w ∧ AllCl [] F w) (enter (l := [(Value.agg #[(Value.int .i64 t1.Kind), (Value.int .i64 t1.Bits), (Value.int .i64 t1.Frac), (Value.int .i64 t1.Round), (Value.int .i64 t1.Over)])]) Tryz.func46 rfl Tryz.ntmps46 rfl ?_) ?_
  rotate_left
  · rintro _ w ⟨rfl, k1, k2⟩; exact ⟨rfl, k1, k2⟩
  have hI := Bun.start hF hc
  clear hc
  rw [m_value_plain] at h
  refine c_seq ?_
  refine c_region rfl ?_
  refine l_box (v := (Value.agg #[(Value.int .i64 t1.Kind), (Value.int .i64 t1.Bits), (Value.int .i64 t1.Frac), (Value.int .i64 t1.Round), (Value.int .i64 t1.Over)])) (cs := #[(Value.int .i64 t1.Kind), (Value.int .i64 t1.Bits), (Value.int .i64 t1.Frac), (Value.int .i64 t1.Round), (Value.int .i64 t1.Over)]) hI rfl rfl rfl (ev_tmp rfl rfl) rfl ?_
  clear hI; intro b1 c1 w1 hI
  obtain ⟨c2, hI⟩ := hI.relBox .z
  refine s_q rfl rfl (y_assign rfl ev_const) ?_
  refine s_nil ?_
  refine k_next (e := [(1, (Value.pointer (some ⟨b1, 0, none⟩)))]) ⟨rfl, trivial⟩ ?_
  refine c_seq ?_
  refine c_region rfl ?_
  refine s_q rfl rfl (y_loadN (l := [(Value.int .i64 t1.Kind), (Value.int .i64 t1.Bits), (Value.int .i64 t1.Frac), (Value.int .i64 t1.Round), (Value.int .i64 t1.Over)]) rfl (ev_tmp rfl rfl) Tryz.underlying23 rfl size_23 (hI.kblk (l := [(Value.int .i64 t1.Kind), (Value.int .i64 t1.Bits), (Value.int .i64 t1.Frac), (Value.int .i64 t1.Round), (Value.int .i64 t1.Over)]) .z rfl).1) ?_
  refine s_q rfl rfl (y_fieldAddr rfl (ev_tmp rfl rfl) Tryz.underlying23 rfl size_3 rfl) ?_
  refine s_q rfl rfl (y_load1 (v := (Value.int .i64 t1.Kind)) rfl (ev_tmp rfl rfl) Tryz.underlying3 rfl (hI.kblk (l := [(Value.int .i64 t1.Kind)]) .z rfl).1) ?_
  refine s_q rfl rfl (y_build (vs := [(0, (Value.int .i64 t1.Kind))]) (cs := #[(Value.int .i64 t1.Kind), (Value.int .i64 0), (Value.int .i64 0), (Value.int .i64 0), (Value.int .i64 0)]) rfl ⟨rfl, (ev_tmp rfl rfl), trivial⟩ (by kernel_rfl)) ?_
  refine s_q rfl rfl (y_bin rfl (ev_tmp rfl rfl) (ev_tmp rfl rfl) (eqstruct_23 ..) (eqguard_23 ..)) ?_
  refine s_q rfl rfl (y_assign rfl (ev_tmp rfl rfl)) ?_
  refine s_nil ?_
  refine k_next (e := [(2, (Value.bool ((decide (t1.Kind = t1.Kind)) && (decide (t1.Bits = 0)) && (decide (t1.Frac = 0)) && (decide (t1.Round = 0)) && (decide (t1.Over = 0)))))]) ⟨rfl, trivial⟩ ?_
  refine c_ret ?_
  obtain rfl := some_inj h
  exact q_ret (vs := [(Value.bool ((decide (t1.Kind = t1.Kind)) && (decide (t1.Bits = 0)) && (decide (t1.Frac = 0)) && (decide (t1.Round = 0)) && (decide (t1.Over = 0))))]) Tryz.results46 ⟨ev_tmp rfl rfl, trivial⟩ ⟨rfl, hI.ext0, hI.fin trivial⟩

set_option maxRecDepth 100000 in
set_option maxHeartbeats 4000000 in
theorem c_fixed_ValidateType (F : NP) (w0 : World) (hF : ∀ k, F k → k < w0.heap.size) (t1 : GType) (hc : AllCl [] F w0) (r : Int)
    (h : m_fixed_ValidateType t1 = some r) :
    Calls Tryz.prog 47 #[(Value.agg #[(Value.int .i64 t1.Kind), (Value.int .i64 t1.Bits), (Value.int .i64 t1.Frac), (Value.int .i64 t1.Round), (Value.int .i64 t1.Over)])] w0 fun e w => e = .returned (Value.int .i64 r) ∧ Ext w0 w ∧ AllCl [] F w := by
  refine ofEnter (R := fun v w => v = (Value.int .i64 r) ∧ Ext w0 w ∧ AllCl [] F w) (enter (l := [(Value.agg #[(Value.int .i64 t1.Kind), (Value.int .i64 t1.Bits), (Value.int .i64 t1.Frac), (Value.int .i64 t1.Round), (Value.int .i64 t1.Over)])]) Tryz.func47 rfl Tryz.ntmps47 rfl ?_) ?_
  rotate_left
  · rintro _ w ⟨rfl, k1, k2⟩; exact ⟨rfl, k1, k2⟩
  have hI := Bun.start hF hc
  clear hc
  rw [m_fixed_ValidateType] at h
  refine c_seq ?_
  refine c_region rfl ?_
  refine l_box (v := (Value.agg #[(Value.int .i64 t1.Kind), (Value.int .i64 t1.Bits), (Value.int .i64 t1.Frac), (Value.int .i64 t1.Round), (Value.int .i64 t1.Over)])) (cs := #[(Value.int .i64 t1.Kind), (Value.int .i64 t1.Bits), (Value.int .i64 t1.Frac), (Value.int .i64 t1.Round), (Value.int .i64 t1.Over)]) hI rfl rfl rfl (ev_tmp rfl rfl) rfl ?_
  clear hI; intro b1 c1 w1 hI
  obtain ⟨c2, hI⟩ := hI.relBox .z
  refine s_q rfl rfl (y_assign rfl ev_const) ?_
  refine s_nil ?_
  refine k_next (e := [(1, (Value.pointer (some ⟨b1, 0, none⟩)))]) ⟨rfl, trivial⟩ ?_
  refine c_seq ?_
  refine c_region rfl ?_
  refine s_q rfl rfl (y_fieldAddr rfl (ev_tmp rfl rfl) Tryz.underlying23 rfl size_3 rfl) ?_
  refine s_q rfl rfl (y_load1 (v := (Value.int .i64 t1.Round)) rfl (ev_tmp rfl rfl) Tryz.underlying3 rfl (hI.kblk (l := [(Value.int .i64 t1.Round)]) .z rfl).1) ?_
  refine s_q rfl rfl (y_geq rfl (ev_tmp rfl rfl) ev_const) ?_
  refine s_q rfl rfl (y_move rfl (ev_tmp rfl rfl)) ?_
  refine s_gval (g_true rfl rfl rfl rfl) rfl (fun hc => (y_fieldAddr rfl (ev_tmp rfl rfl) Tryz.underlying23 rfl size_3 rfl)) ?_
  refine s_gval (g_true rfl rfl rfl rfl) rfl (fun hc => (y_load1 (v := (Value.int .i64 t1.Round)) rfl (ev_gv (ev_tmp rfl rfl) hc) Tryz.underlying3 rfl (hI.kblk (l := [(Value.int .i64 t1.Round)]) .z rfl).1)) ?_
  refine s_gval (g_true rfl rfl rfl rfl) rfl (fun hc => (y_leq rfl (ev_gv (ev_tmp rfl rfl) hc) ev_const)) ?_
  refine s_q rfl rfl (y_and rfl (ev_tmp rfl rfl) (ev_tmp rfl rfl)) ?_
  refine s_q rfl rfl (y_move rfl (ev_tmp rfl rfl)) ?_
  refine s_gval (g_true rfl rfl rfl rfl) rfl (fun hc => (y_fieldAddr rfl (ev_tmp rfl rfl) Tryz.underlying23 rfl size_3 rfl)) ?_
  refine s_gval (g_true rfl rfl rfl rfl) rfl (fun hc => (y_load1 (v := (Value.int .i64 t1.Over)) rfl (ev_gv (ev_tmp rfl rfl) hc) Tryz.underlying3 rfl (hI.kblk (l := [(Value.int .i64 t1.Over)]) .z rfl).1)) ?_
  refine s_gval (g_true rfl rfl rfl rfl) rfl (fun hc => (y_eql rfl (ev_gv (ev_tmp rfl rfl) hc) ev_const)) ?_
  refine s_gval (g_true rfl rfl rfl rfl) rfl (fun hc => (y_move rfl (ev_gv (ev_tmp rfl rfl) hc))) ?_
  refine s_gval (g_false2 rfl rfl rfl rfl) rfl (fun hc => (y_fieldAddr rfl (ev_tmp rfl rfl) Tryz.underlying23 rfl size_3 rfl)) ?_
  refine s_gval (g_false2 rfl rfl rfl rfl) rfl (fun hc => (y_load1 (v := (Value.int .i64 t1.Over)) rfl (ev_gv (ev_tmp rfl rfl) hc) Tryz.underlying3 rfl (hI.kblk (l := [(Value.int .i64 t1.Over)]) .z rfl).1)) ?_
  refine s_gval (g_false2 rfl rfl rfl rfl) rfl (fun hc => (y_eql rfl (ev_gv (ev_tmp rfl rfl) hc) ev_const)) ?_
  refine s_gval (g_true rfl rfl rfl rfl) rfl (fun hc => (y_or2 rfl hc (ev_tmp rfl rfl) (ev_tmp rfl rfl))) ?_
  refine s_q rfl rfl (y_and rfl (ev_tmp rfl rfl) (ev_tmp rfl rfl)) ?_
  obtain ⟨modes1, hx1, h⟩ := bnd_some h
  refine s_q rfl rfl (binU (y_assign rfl (ev_tmp rfl rfl)) (congrArg Value.bool (some_inj hx1))) ?_
  refine s_nil ?_
  refine k_next (e := [(1, (Value.pointer (some ⟨b1, 0, none⟩))), (3, (Value.bool modes1))]) ⟨rfl, rfl, trivial⟩ ?_
  refine c_seq ?_
  refine c_seq ?_
  refine c_region rfl ?_
  refine s_q rfl rfl (y_fieldAddr rfl (ev_tmp rfl rfl) Tryz.underlying23 rfl size_3 rfl) ?_
  refine s_q rfl rfl (y_load1 (v := (Value.int .i64 t1.Kind)) rfl (ev_tmp rfl rfl) Tryz.underlying3 rfl (hI.kblk (l := [(Value.int .i64 t1.Kind)]) .z rfl).1) ?_
  refine s_q rfl rfl (y_neq rfl (ev_tmp rfl rfl) ev_const) ?_
  refine s_q rfl rfl (y_move rfl (ev_tmp rfl rfl)) ?_
  refine s_gval (g_false rfl rfl rfl rfl) rfl (fun hc => (y_fieldAddr rfl (ev_tmp rfl rfl) Tryz.underlying23 rfl size_3 rfl)) ?_
  refine s_gval (g_false rfl rfl rfl rfl) rfl (fun hc => (y_load1 (v := (Value.int .i64 t1.Bits)) rfl (ev_gv (ev_tmp rfl rfl) hc) Tryz.underlying3 rfl (hI.kblk (l := [(Value.int .i64 t1.Bits)]) .z rfl).1)) ?_
  refine s_gval (g_false rfl rfl rfl rfl) rfl (fun hc => (y_lss rfl (ev_gv (ev_tmp rfl rfl) hc) ev_const)) ?_
  refine s_q rfl rfl (y_or rfl (ev_tmp rfl rfl) (ev_tmp rfl rfl)) ?_
  refine s_q rfl rfl (y_move rfl (ev_tmp rfl rfl)) ?_
  refine s_gval (g_false rfl rfl rfl rfl) rfl (fun hc => (y_fieldAddr rfl (ev_tmp rfl rfl) Tryz.underlying23 rfl size_3 rfl)) ?_
  refine s_gval (g_false rfl rfl rfl rfl) rfl (fun hc => (y_load1 (v := (Value.int .i64 t1.Bits)) rfl (ev_gv (ev_tmp rfl rfl) hc) Tryz.underlying3 rfl (hI.kblk (l := [(Value.int .i64 t1.Bits)]) .z rfl).1)) ?_
  refine s_gval (g_false rfl rfl rfl rfl) rfl (fun hc => (y_gtr rfl (ev_gv (ev_tmp rfl rfl) hc) ev_const)) ?_
  refine s_q rfl rfl (y_or rfl (ev_tmp rfl rfl) (ev_tmp rfl rfl)) ?_
  refine s_q rfl rfl (y_move rfl (ev_tmp rfl rfl)) ?_
  refine s_gval (g_false rfl rfl rfl rfl) rfl (fun hc => (y_fieldAddr rfl (ev_tmp rfl rfl) Tryz.underlying23 rfl size_3 rfl)) ?_
  refine s_gval (g_false rfl rfl rfl rfl) rfl (fun hc => (y_load1 (v := (Value.int .i64 t1.Frac)) rfl (ev_gv (ev_tmp rfl rfl) hc) Tryz.underlying3 rfl (hI.kblk (l := [(Value.int .i64 t1.Frac)]) .z rfl).1)) ?_
  refine s_gval (g_false rfl rfl rfl rfl) rfl (fun hc => (y_lss rfl (ev_gv (ev_tmp rfl rfl) hc) ev_const)) ?_
  refine s_q rfl rfl (y_or rfl (ev_tmp rfl rfl) (ev_tmp rfl rfl)) ?_
  refine s_q rfl rfl (y_move rfl (ev_tmp rfl rfl)) ?_
  refine s_gval (g_false rfl rfl rfl rfl) rfl (fun hc => (y_fieldAddr rfl (ev_tmp rfl rfl) Tryz.underlying23 rfl size_3 rfl)) ?_
  refine s_gval (g_false rfl rfl rfl rfl) rfl (fun hc => (y_load1 (v := (Value.int .i64 t1.Frac)) rfl (ev_gv (ev_tmp rfl rfl) hc) Tryz.underlying3 rfl (hI.kblk (l := [(Value.int .i64 t1.Frac)]) .z rfl).1)) ?_
  refine s_gval (g_false rfl rfl rfl rfl) rfl (fun hc => (y_gtr rfl (ev_gv (ev_tmp rfl rfl) hc) ev_const)) ?_
  refine s_q rfl rfl (y_or rfl (ev_tmp rfl rfl) (ev_tmp rfl rfl)) ?_
  refine s_q rfl rfl (y_move rfl (ev_tmp rfl rfl)) ?_
  refine s_gval (g_false rfl rfl rfl rfl) rfl (fun hc => (y_move rfl (ev_tmp rfl rfl))) ?_
  refine s_gval (g_false rfl rfl rfl rfl) rfl (fun hc => (y_not rfl (ev_gv (ev_tmp rfl rfl) hc))) ?_
  refine s_q rfl rfl (y_or rfl (ev_tmp rfl rfl) (ev_tmp rfl rfl)) ?_
  refine s_nil ?_
  refine k_next (e := [(48, (Value.bool ((((((!decide (t1.Kind = 2)) || (decide (t1.Bits < 2))) || (decide (31 < t1.Bits))) || (decide (t1.Frac < 0))) || (decide (30 < t1.Frac))) || (!modes1))))]) ⟨rfl, trivial⟩ ?_
  refine c_cond (b := (((((!decide (t1.Kind = 2)) || (decide (t1.Bits < 2))) || (decide (31 < t1.Bits))) || (decide (t1.Frac < 0))) || (decide (30 < t1.Frac))) || (!modes1)) (ev_tmp rfl rfl) (fun hb => ?_) (fun hb => ?_)
  · replace h := ite_t hb h
    refine c_seq ?_
    refine c_region rfl ?_
    refine s_q rfl rfl (y_assign rfl ev_const) ?_
    refine s_nil ?_
    refine k_next (e := [(2, (Value.int .i64 10))]) ⟨rfl, trivial⟩ ?_
    refine c_ret ?_
    obtain rfl := some_inj h
    exact q_ret (vs := [(Value.int .i64 10)]) Tryz.results47 ⟨ev_tmp rfl rfl, trivial⟩ ⟨rfl, hI.ext0, hI.fin trivial⟩
  · replace h := ite_f hb h
    refine c_skip ?_
    refine k_next (e := []) trivial ?_
    refine c_seq ?_
    refine c_region rfl ?_
    refine s_q rfl rfl (y_assign rfl ev_const) ?_
    refine s_nil ?_
    refine k_next (e := [(2, (Value.int .i64 0))]) ⟨rfl, trivial⟩ ?_
    refine c_ret ?_
    obtain rfl := some_inj h
    exact q_ret (vs := [(Value.int .i64 0)]) Tryz.results47 ⟨ev_tmp rfl rfl, trivial⟩ ⟨rfl, hI.ext0, hI.fin trivial⟩

set_option maxRecDepth 100000 in
set_option maxHeartbeats 4000000 in
theorem c_value_ValidateType (F : NP) (w0 : World) (hF : ∀ k, F k → k < w0.heap.size) (t1 : GType) (hc : AllCl [] F w0) (r : Int)
    (h : m_value_ValidateType t1 = some r) :
    Calls Tryz.prog 22 #[(Value.agg #[(Value.int .i64 t1.Kind), (Value.int .i64 t1.Bits), (Value.int .i64 t1.Frac), (Value.int .i64 t1.Round), (Value.int .i64 t1.Over)])] w0 fun e w => e = .returned (Value.int .i64 r) ∧ Ext w0 w ∧ AllCl [] F w := by
  refine ofEnter (R := fun v w => v = (Value.int .i64 r) ∧ Ext w0 w ∧ AllCl [] F w) (enter (l := [(Value.agg #[(Value.int .i64 t1.Kind), (Value.int .i64 t1.Bits), (Value.int .i64 t1.Frac), (Value.int .i64 t1.Round), (Value.int .i64 t1.Over)])]) Tryz.func22 rfl Tryz.ntmps22 rfl ?_) ?_
  rotate_left
  · rintro _ w ⟨rfl, k1, k2⟩; exact ⟨rfl, k1, k2⟩
  have hI := Bun.start hF hc
  clear hc
  rw [m_value_ValidateType] at h
  refine c_seq ?_
  refine c_region rfl ?_
  refine l_box (v := (Value.agg #[(Value.int .i64 t1.Kind), (Value.int .i64 t1.Bits), (Value.int .i64 t1.Frac), (Value.int .i64 t1.Round), (Value.int .i64 t1.Over)])) (cs := #[(Value.int .i64 t1.Kind), (Value.int .i64 t1.Bits), (Value.int .i64 t1.Frac), (Value.int .i64 t1.Round), (Value.int .i64 t1.Over)]) hI rfl rfl rfl (ev_tmp rfl rfl) rfl ?_
  clear hI; intro b1 c1 w1 hI
  obtain ⟨c2, hI⟩ := hI.relBox .z
  refine s_q rfl rfl (y_assign rfl ev_const) ?_
  refine s_nil ?_
  refine k_next (e := [(1, (Value.pointer (some ⟨b1, 0, none⟩)))]) ⟨rfl, trivial⟩ ?_
  refine c_seq ?_
  refine c_seq ?_
  refine c_region rfl ?_
  refine s_q rfl rfl (y_fieldAddr rfl (ev_tmp rfl rfl) Tryz.underlying23 rfl size_3 rfl) ?_
  refine s_q rfl rfl (y_load1 (v := (Value.int .i64 t1.Kind)) rfl (ev_tmp rfl rfl) Tryz.underlying3 rfl (hI.kblk (l := [(Value.int .i64 t1.Kind)]) .z rfl).1) ?_
  refine s_nil ?_
  refine k_next (e := [(1, (Value.pointer (some ⟨b1, 0, none⟩))), (4, (Value.int .i64 t1.Kind))]) ⟨rfl, rfl, trivial⟩ ?_
  refine c_block ?_
  refine c_join (α := Bool) (fun _ => ⟨15, []⟩) (fun x => [(1, (Value.pointer (some ⟨b1, 0, none⟩))), (4, (Value.int .i64 t1.Kind)), (5, (Value.bool x))]) (fun x => fun w => ∃ C, Bun noM F w0 C w [] [Cl.blk b1 23 #[(Value.int .i64 t1.Kind), (Value.int .i64 t1.Bits), (Value.int .i64 t1.Frac), (Value.int .i64 t1.Round), (Value.int .i64 t1.Over)]] ∧ m_value_ValidateType_j1 t1 x = some r) ?_ ?_
  · clear h hI; rintro i1 w2 ⟨c3, hI, h⟩
    try dsimp only at hI h
    rw [m_value_ValidateType_j1] at h
    refine c_sub (e := [(1, (Value.pointer (some ⟨b1, 0, none⟩))), (4, (Value.int .i64 t1.Kind)), (5, (Value.bool i1))]) ⟨rfl, rfl, rfl, trivial⟩ ?_
    refine c_cond (b := i1) (ev_tmp rfl rfl) (fun hb => ?_) (fun hb => ?_)
    · replace h := ite_t hb h
      refine c_seq ?_
      refine c_region rfl ?_
      refine s_q rfl rfl (y_loadN (l := [(Value.int .i64 t1.Kind), (Value.int .i64 t1.Bits), (Value.int .i64 t1.Frac), (Value.int .i64 t1.Round), (Value.int .i64 t1.Over)]) rfl (ev_tmp rfl rfl) Tryz.underlying23 rfl size_23 (hI.kblk (l := [(Value.int .i64 t1.Kind), (Value.int .i64 t1.Bits), (Value.int .i64 t1.Frac), (Value.int .i64 t1.Round), (Value.int .i64 t1.Over)]) .z rfl).1) ?_
      obtain ⟨r1, hx1, h⟩ := bnd_some h
      refine s_call rfl rfl (r_callF (vs := [(Value.agg #[(Value.int .i64 t1.Kind), (Value.int .i64 t1.Bits), (Value.int .i64 t1.Frac), (Value.int .i64 t1.Round), (Value.int .i64 t1.Over)])]) rfl ok_46 ⟨(ev_tmp rfl rfl), trivial⟩) (Calls.mono (c_value_plain (Dj F c3) w2 hI.lt t1 trivial r1 hx1) ?_)
      rintro _ w3 ⟨rfl, hx2, hl1⟩
      refine ⟨_, rfl, ?_⟩
      replace hI := (hI.ext hx2)
      refine s_nil ?_
      refine k_next (e := [(9, (Value.bool r1))]) ⟨rfl, trivial⟩ ?_
      refine c_cond (b := r1) (ev_tmp rfl rfl) (fun hb => ?_) (fun hb => ?_)
      · replace h := ite_t hb h
        refine c_seq ?_
        refine c_region rfl ?_
        refine s_q rfl rfl (y_assign rfl ev_const) ?_
        refine s_nil ?_
        refine k_next (e := [(2, (Value.int .i64 0))]) ⟨rfl, trivial⟩ ?_
        refine c_ret ?_
        obtain rfl := some_inj h
        exact q_ret (vs := [(Value.int .i64 0)]) Tryz.results22 ⟨ev_tmp rfl rfl, trivial⟩ ⟨rfl, hI.ext0, hI.fin trivial⟩
      · replace h := ite_f hb h
        refine c_skip ?_
        refine k_next (e := []) trivial ?_
        refine c_seq ?_
        refine c_region rfl ?_
        refine s_q rfl rfl (y_assign rfl ev_const) ?_
        refine s_nil ?_
        refine k_next (e := [(2, (Value.int .i64 10))]) ⟨rfl, trivial⟩ ?_
        refine c_ret ?_
        obtain rfl := some_inj h
        exact q_ret (vs := [(Value.int .i64 10)]) Tryz.results22 ⟨ev_tmp rfl rfl, trivial⟩ ⟨rfl, hI.ext0, hI.fin trivial⟩
    · replace h := ite_f hb h
      refine c_seq ?_
      refine c_region rfl ?_
      refine s_q rfl rfl (y_eql rfl (ev_tmp rfl rfl) ev_const) ?_
      refine s_q rfl rfl (y_assign rfl (ev_tmp rfl rfl)) ?_
      refine s_nil ?_
      refine k_next (e := [(1, (Value.pointer (some ⟨b1, 0, none⟩))), (10, (Value.bool (decide (t1.Kind = 2))))]) ⟨rfl, rfl, trivial⟩ ?_
      refine c_cond (b := decide (t1.Kind = 2)) (ev_tmp rfl rfl) (fun hb => ?_) (fun hb => ?_)
      · replace h := ite_t hb h
        refine c_seq ?_
        refine c_region rfl ?_
        refine s_q rfl rfl (y_loadN (l := [(Value.int .i64 t1.Kind), (Value.int .i64 t1.Bits), (Value.int .i64 t1.Frac), (Value.int .i64 t1.Round), (Value.int .i64 t1.Over)]) rfl (ev_tmp rfl rfl) Tryz.underlying23 rfl size_23 (hI.kblk (l := [(Value.int .i64 t1.Kind), (Value.int .i64 t1.Bits), (Value.int .i64 t1.Frac), (Value.int .i64 t1.Round), (Value.int .i64 t1.Over)]) .z rfl).1) ?_
        obtain ⟨r2, hx3, h⟩ := bnd_some h
        refine s_call rfl rfl (r_callF (vs := [(Value.agg #[(Value.int .i64 t1.Kind), (Value.int .i64 t1.Bits), (Value.int .i64 t1.Frac), (Value.int .i64 t1.Round), (Value.int .i64 t1.Over)])]) rfl ok_47 ⟨(ev_tmp rfl rfl), trivial⟩) (Calls.mono (c_fixed_ValidateType (Dj F c3) w2 hI.lt t1 trivial r2 hx3) ?_)
        rintro _ w4 ⟨rfl, hx4, hl2⟩
        refine ⟨_, rfl, ?_⟩
        replace hI := (hI.ext hx4)
        refine s_q rfl rfl (y_eql rfl (ev_tmp rfl rfl) ev_const) ?_
        refine s_nil ?_
        refine k_next (e := [(14, (Value.bool (decide (r2 = 0))))]) ⟨rfl, trivial⟩ ?_
        refine c_cond (b := decide (r2 = 0)) (ev_tmp rfl rfl) (fun hb => ?_) (fun hb => ?_)
        · replace h := ite_t hb h
          refine c_seq ?_
          refine c_region rfl ?_
          refine s_q rfl rfl (y_assign rfl ev_const) ?_
          refine s_nil ?_
          refine k_next (e := [(2, (Value.int .i64 0))]) ⟨rfl, trivial⟩ ?_
          refine c_ret ?_
          obtain rfl := some_inj h
          exact q_ret (vs := [(Value.int .i64 0)]) Tryz.results22 ⟨ev_tmp rfl rfl, trivial⟩ ⟨rfl, hI.ext0, hI.fin trivial⟩
        · replace h := ite_f hb h
          refine c_skip ?_
          refine k_next (e := []) trivial ?_
          refine c_seq ?_
          refine c_region rfl ?_
          refine s_q rfl rfl (y_assign rfl ev_const) ?_
          refine s_nil ?_
          refine k_next (e := [(2, (Value.int .i64 10))]) ⟨rfl, trivial⟩ ?_
          refine c_ret ?_
          obtain rfl := some_inj h
          exact q_ret (vs := [(Value.int .i64 10)]) Tryz.results22 ⟨ev_tmp rfl rfl, trivial⟩ ⟨rfl, hI.ext0, hI.fin trivial⟩
      · replace h := ite_f hb h
        refine c_skip ?_
        refine k_next (e := []) trivial ?_
        refine c_seq ?_
        refine c_region rfl ?_
        refine s_q rfl rfl (y_assign rfl ev_const) ?_
        refine s_nil ?_
        refine k_next (e := [(2, (Value.int .i64 10))]) ⟨rfl, trivial⟩ ?_
        refine c_ret ?_
        obtain rfl := some_inj h
        exact q_ret (vs := [(Value.int .i64 10)]) Tryz.results22 ⟨ev_tmp rfl rfl, trivial⟩ ⟨rfl, hI.ext0, hI.fin trivial⟩
  · skip
    refine c_seq ?_
    refine c_region rfl ?_
    refine s_q rfl rfl (y_eql rfl (ev_tmp rfl rfl) ev_const) ?_
    refine s_q rfl rfl (y_assign rfl (ev_tmp rfl rfl)) ?_
    refine s_nil ?_
    refine k_next (e := [(1, (Value.pointer (some ⟨b1, 0, none⟩))), (4, (Value.int .i64 t1.Kind)), (5, (Value.bool (decide (t1.Kind = 1))))]) ⟨rfl, rfl, rfl, trivial⟩ ?_
    refine c_cond (b := decide (t1.Kind = 1)) (ev_tmp rfl rfl) (fun hb => ?_) (fun hb => ?_)
    · replace h := ite_t hb h
      refine c_skip ?_
      exact k_join (decide (t1.Kind = 1)) ⟨rfl, rfl, rfl, trivial⟩ ⟨_, hI.arr .n ⟨.z, trivial⟩, h⟩ rfl
    · replace h := ite_f hb h
      refine c_region rfl ?_
      refine s_q rfl rfl (y_eql rfl (ev_tmp rfl rfl) ev_const) ?_
      refine s_q rfl rfl (y_assign rfl (ev_tmp rfl rfl)) ?_
      refine s_nil ?_
      exact k_join (decide (t1.Kind = 3)) ⟨rfl, rfl, rfl, trivial⟩ ⟨_, hI.arr .n ⟨.z, trivial⟩, h⟩ rfl

set_option maxRecDepth 100000 in
set_option maxHeartbeats 4000000 in
theorem c_round_valid (F : NP) (w0 : World) (hF : ∀ k, F k → k < w0.heap.size) (bits1 : Int) (hc : AllCl [] F w0) (r : Bool)
    (h : m_round_valid bits1 = some r) :
    Calls Tryz.prog 95 #[(Value.int .i64 bits1)] w0 fun e w => e = .returned (Value.bool r) ∧ Ext w0 w ∧ AllCl [] F w := by
  refine ofEnter (R := fun v w => v = (Value.bool r) ∧ Ext w0 w ∧ AllCl [] F w) (enter (l := [(Value.int .i64 bits1)]) Tryz.func95 rfl Tryz.ntmps95 rfl ?_) ?_
  rotate_left
  · rintro _ w ⟨rfl, k1, k2⟩; exact ⟨rfl, k1, k2⟩
  have hI := Bun.start hF hc
  clear hc
  rw [m_round_valid] at h
  refine c_seq ?_
  refine c_region rfl ?_
  refine s_q rfl rfl (y_assign rfl ev_const) ?_
  refine s_nil ?_
  refine k_next (e := [(0, (Value.int .i64 bits1))]) ⟨rfl, trivial⟩ ?_
  refine c_seq ?_
  refine c_region rfl ?_
  refine s_q rfl rfl (y_move rfl (ev_tmp rfl rfl)) ?_
  refine s_q rfl rfl (y_geq rfl (ev_tmp rfl rfl) ev_const) ?_
  refine s_q rfl rfl (y_move rfl (ev_tmp rfl rfl)) ?_
  refine s_gval (g_true rfl rfl rfl rfl) rfl (fun hc => (y_move rfl (ev_tmp rfl rfl))) ?_
  refine s_gval (g_true rfl rfl rfl rfl) rfl (fun hc => (y_leq rfl (ev_gv (ev_tmp rfl rfl) hc) ev_const)) ?_
  refine s_q rfl rfl (y_and rfl (ev_tmp rfl rfl) (ev_tmp rfl rfl)) ?_
  refine s_q rfl rfl (y_assign rfl (ev_tmp rfl rfl)) ?_
  refine s_nil ?_
  refine k_next (e := [(2, (Value.bool ((decide (2 ≤ bits1)) && (decide (bits1 ≤ 31)))))]) ⟨rfl, trivial⟩ ?_
  refine c_ret ?_
  obtain rfl := some_inj h
  exact q_ret (vs := [(Value.bool ((decide (2 ≤ bits1)) && (decide (bits1 ≤ 31))))]) Tryz.results95 ⟨ev_tmp rfl rfl, trivial⟩ ⟨rfl, hI.ext0, hI.fin trivial⟩

set_option maxRecDepth 100000 in
set_option maxHeartbeats 4000000 in
theorem c_round_MinInt (F : NP) (w0 : World) (hF : ∀ k, F k → k < w0.heap.size) (bits1 : Int) (hc : AllCl [] F w0) (r : Int)
    (h : m_round_MinInt bits1 = some r) :
    Calls Tryz.prog 61 #[(Value.int .i64 bits1)] w0 fun e w => e = .returned (Value.int .i64 r) ∧ Ext w0 w ∧ AllCl [] F w := by
  refine ofEnter (R := fun v w => v = (Value.int .i64 r) ∧ Ext w0 w ∧ AllCl [] F w) (enter (l := [(Value.int .i64 bits1)]) Tryz.func61 rfl Tryz.ntmps61 rfl ?_) ?_
  rotate_left
  · rintro _ w ⟨rfl, k1, k2⟩; exact ⟨rfl, k1, k2⟩
  have hI := Bun.start hF hc
  clear hc
  rw [m_round_MinInt] at h
  refine c_seq ?_
  refine c_region rfl ?_
  refine s_q rfl rfl (y_assign rfl ev_const) ?_
  refine s_nil ?_
  refine k_next (e := [(0, (Value.int .i64 bits1))]) ⟨rfl, trivial⟩ ?_
  refine c_seq ?_
  refine c_seq ?_
  refine c_region rfl ?_
  refine s_q rfl rfl (y_move rfl (ev_tmp rfl rfl)) ?_
  obtain ⟨r1, hx1, h⟩ := bnd_some h
  refine s_call rfl rfl (r_callF (vs := [(Value.int .i64 bits1)]) rfl ok_95 ⟨(ev_tmp rfl rfl), trivial⟩) (Calls.mono (c_round_valid (Dj F noM) w0 hI.lt bits1 trivial r1 hx1) ?_)
  rintro _ w1 ⟨rfl, hx2, hl1⟩
  refine ⟨_, rfl, ?_⟩
  replace hI := (hI.ext hx2)
  refine s_q rfl rfl (y_not rfl (ev_tmp rfl rfl)) ?_
  refine s_nil ?_
  refine k_next (e := [(0, (Value.int .i64 bits1)), (5, (Value.bool (!r1)))]) ⟨rfl, rfl, trivial⟩ ?_
  refine c_cond (b := !r1) (ev_tmp rfl rfl) (fun hb => ?_) (fun hb => ?_)
  · replace h := ite_t hb h
    refine c_seq ?_
    refine c_region rfl ?_
    refine s_q rfl rfl (y_assign rfl ev_const) ?_
    refine s_nil ?_
    refine k_next (e := [(2, (Value.int .i64 0))]) ⟨rfl, trivial⟩ ?_
    refine c_ret ?_
    obtain rfl := some_inj h
    exact q_ret (vs := [(Value.int .i64 0)]) Tryz.results61 ⟨ev_tmp rfl rfl, trivial⟩ ⟨rfl, hI.ext0, hI.fin trivial⟩
  · replace h := ite_f hb h
    refine c_skip ?_
    refine k_next (e := [(0, (Value.int .i64 bits1))]) ⟨rfl, trivial⟩ ?_
    refine c_seq ?_
    refine c_region rfl ?_
    refine s_q rfl rfl (y_move rfl (ev_tmp rfl rfl)) ?_
    refine s_q rfl rfl (y_sub rfl (ev_tmp rfl rfl) ev_const) ?_
    refine s_q rfl rfl (y_conv rfl (by rw [Tryz.underlying3]; rfl) Tryz.underlying77 (ev_tmp rfl rfl)) ?_
    obtain ⟨ho1, h⟩ := chk_some h
    refine s_q rfl rfl (y_shl rfl ev_const (ev_tmp rfl rfl) ho1) ?_
    refine s_q rfl rfl (y_neg rfl (ev_tmp rfl rfl)) ?_
    refine s_q rfl rfl (y_assign rfl (ev_tmp rfl rfl)) ?_
    refine s_nil ?_
    refine k_next (e := [(2, (Value.int .i64 (wi64 (-(wi64 (1 * 2 ^ (min (Int.toNat (wu64 (wi64 (bits1 - 1)))) 64)))))))]) ⟨rfl, trivial⟩ ?_
    refine c_ret ?_
    obtain rfl := some_inj h
    exact q_ret (vs := [(Value.int .i64 (wi64 (-(wi64 (1 * 2 ^ (min (Int.toNat (wu64 (wi64 (bits1 - 1)))) 64))))))]) Tryz.results61 ⟨ev_tmp rfl rfl, trivial⟩ ⟨rfl, hI.ext0, hI.fin trivial⟩

set_option maxRecDepth 100000 in
set_option maxHeartbeats 4000000 in
theorem c_round_MaxInt (F : NP) (w0 : World) (hF : ∀ k, F k → k < w0.heap.size) (bits1 : Int) (hc : AllCl [] F w0) (r : Int)
    (h : m_round_MaxInt bits1 = some r) :
    Calls Tryz.prog 62 #[(Value.int .i64 bits1)] w0 fun e w => e = .returned (Value.int .i64 r) ∧ Ext w0 w ∧ AllCl [] F w := by
  refine ofEnter (R := fun v w => v = (Value.int .i64 r) ∧ Ext w0 w ∧ AllCl [] F w) (enter (l := [(Value.int .i64 bits1)]) Tryz.func62 rfl Tryz.ntmps62 rfl ?_) ?_
  rotate_left
  · rintro _ w ⟨rfl, k1, k2⟩; exact ⟨rfl, k1, k2⟩
  have hI := Bun.start hF hc
  clear hc
  rw [m_round_MaxInt] at h
  refine c_seq ?_
  refine c_region rfl ?_
  refine s_q rfl rfl (y_assign rfl ev_const) ?_
  refine s_nil ?_
  refine k_next (e := [(0, (Value.int .i64 bits1))]) ⟨rfl, trivial⟩ ?_
  refine c_seq ?_
  refine c_seq ?_
  refine c_region rfl ?_
  refine s_q rfl rfl (y_move rfl (ev_tmp rfl rfl)) ?_
  obtain ⟨r1, hx1, h⟩ := bnd_some h
  refine s_call rfl rfl (r_callF (vs := [(Value.int .i64 bits1)]) rfl ok_95 ⟨(ev_tmp rfl rfl), trivial⟩) (Calls.mono (c_round_valid (Dj F noM) w0 hI.lt bits1 trivial r1 hx1) ?_)
  rintro _ w1 ⟨rfl, hx2, hl1⟩
  refine ⟨_, rfl, ?_⟩
  replace hI := (hI.ext hx2)
  refine s_q rfl rfl (y_not rfl (ev_tmp rfl rfl)) ?_
  refine s_nil ?_
  refine k_next (e := [(0, (Value.int .i64 bits1)), (5, (Value.bool (!r1)))]) ⟨rfl, rfl, trivial⟩ ?_
  refine c_cond (b := !r1) (ev_tmp rfl rfl) (fun hb => ?_) (fun hb => ?_)
  · replace h := ite_t hb h
    refine c_seq ?_
    refine c_region rfl ?_
    refine s_q rfl rfl (y_assign rfl ev_const) ?_
    refine s_nil ?_
    refine k_next (e := [(2, (Value.int .i64 0))]) ⟨rfl, trivial⟩ ?_
    refine c_ret ?_
    obtain rfl := some_inj h
    exact q_ret (vs := [(Value.int .i64 0)]) Tryz.results62 ⟨ev_tmp rfl rfl, trivial⟩ ⟨rfl, hI.ext0, hI.fin trivial⟩
  · replace h := ite_f hb h
    refine c_skip ?_
    refine k_next (e := [(0, (Value.int .i64 bits1))]) ⟨rfl, trivial⟩ ?_
    refine c_seq ?_
    refine c_region rfl ?_
    refine s_q rfl rfl (y_move rfl (ev_tmp rfl rfl)) ?_
    refine s_q rfl rfl (y_sub rfl (ev_tmp rfl rfl) ev_const) ?_
    refine s_q rfl rfl (y_conv rfl (by rw [Tryz.underlying3]; rfl) Tryz.underlying77 (ev_tmp rfl rfl)) ?_
    obtain ⟨ho1, h⟩ := chk_some h
    refine s_q rfl rfl (y_shl rfl ev_const (ev_tmp rfl rfl) ho1) ?_
    refine s_q rfl rfl (y_sub rfl (ev_tmp rfl rfl) ev_const) ?_
    refine s_q rfl rfl (y_assign rfl (ev_tmp rfl rfl)) ?_
    refine s_nil ?_
    refine k_next (e := [(2, (Value.int .i64 (wi64 ((wi64 (1 * 2 ^ (min (Int.toNat (wu64 (wi64 (bits1 - 1)))) 64))) - 1))))]) ⟨rfl, trivial⟩ ?_
    refine c_ret ?_
    obtain rfl := some_inj h
    exact q_ret (vs := [(Value.int .i64 (wi64 ((wi64 (1 * 2 ^ (min (Int.toNat (wu64 (wi64 (bits1 - 1)))) 64))) - 1)))]) Tryz.results62 ⟨ev_tmp rfl rfl, trivial⟩ ⟨rfl, hI.ext0, hI.fin trivial⟩

set_option maxRecDepth 100000 in
set_option maxHeartbeats 4000000 in
theorem c_fixed_Valid (F : NP) (w0 : World) (hF : ∀ k, F k → k < w0.heap.size) (t1 : GType) (v1 : GVal) (hc : AllCl [] F w0) (r : Bool)
    (h : m_fixed_Valid t1 v1 = some r) :
    Calls Tryz.prog 31 #[(Value.agg #[(Value.int .i64 t1.Kind), (Value.int .i64 t1.Bits), (Value.int .i64 t1.Frac), (Value.int .i64 t1.Round), (Value.int .i64 t1.Over)]), (Value.agg #[(Value.int .i64 v1.N), (Value.int .i64 v1.D)])] w0 fun e w => e = .returned (Value.bool r) ∧ Ext w0 w ∧ AllCl [] F w := by
  refine ofEnter (R := fun v w => v = (Value.bool r) ∧ Ext w0 w ∧ AllCl [] F w) (enter (l := [(Value.agg #[(Value.int .i64 t1.Kind), (Value.int .i64 t1.Bits), (Value.int .i64 t1.Frac), (Value.int .i64 t1.Round), (Value.int .i64 t1.Over)]), (Value.agg #[(Value.int .i64 v1.N), (Value.int .i64 v1.D)])]) Tryz.func31 rfl Tryz.ntmps31 rfl ?_) ?_
  rotate_left
  · rintro _ w ⟨rfl, k1, k2⟩; exact ⟨rfl, k1, k2⟩
  have hI := Bun.start hF hc
  clear hc
  rw [m_fixed_Valid] at h
  refine c_seq ?_
  refine c_region rfl ?_
  refine l_box (v := (Value.agg #[(Value.int .i64 t1.Kind), (Value.int .i64 t1.Bits), (Value.int .i64 t1.Frac), (Value.int .i64 t1.Round), (Value.int .i64 t1.Over)])) (cs := #[(Value.int .i64 t1.Kind), (Value.int .i64 t1.Bits), (Value.int .i64 t1.Frac), (Value.int .i64 t1.Round), (Value.int .i64 t1.Over)]) hI rfl rfl rfl (ev_tmp rfl rfl) rfl ?_
  clear hI; intro b1 c1 w1 hI
  obtain ⟨c2, hI⟩ := hI.relBox .z
  refine l_box (v := (Value.agg #[(Value.int .i64 v1.N), (Value.int .i64 v1.D)])) (cs := #[(Value.int .i64 v1.N), (Value.int .i64 v1.D)]) hI rfl rfl rfl (ev_tmp rfl rfl) rfl ?_
  clear hI; intro b2 c3 w2 hI
  obtain ⟨c4, hI⟩ := hI.relBox .z
  refine s_q rfl rfl (y_assign rfl ev_const) ?_
  refine s_nil ?_
  refine k_next (e := [(2, (Value.pointer (some ⟨b1, 0, none⟩))), (3, (Value.pointer (some ⟨b2, 0, none⟩)))]) ⟨rfl, rfl, trivial⟩ ?_
  refine c_seq ?_
  refine c_drawX [] false (.c (0, .q) (.c (1, .s) (.c (2, .q) (.c (3, .q) (.c (4, .q) (.c (5, .q) (.c (6, .q) (.c (7, .q) (.c (8, .q) (.c (9, .q) (.c (10, .q) (.c (11, .q) (.c (12, .q) (.c (13, .s) (.c (14, .q) (.c (15, .q) (.c (16, .q) (.c (17, .q) (.c (18, .q) (.c (19, .q) (.c (20, .q) (.c (21, .s) (.c (22, .q) (.c (23, .q) (.c (24, .q) .n))))))))))))))))))))))))) hI (by kernel_rfl) (by kernel_rfl) ?_
  clear hI; intro w3 hI
  refine a_read rfl rfl rfl (fun w' hw' => (y_loadN (l := [(Value.int .i64 t1.Kind), (Value.int .i64 t1.Bits), (Value.int .i64 t1.Frac), (Value.int .i64 t1.Round), (Value.int .i64 t1.Over)]) rfl (ev_tmp rfl rfl) Tryz.underlying23 rfl size_23 ((hI.kblk (l := [(Value.int .i64 t1.Kind), (Value.int .i64 t1.Bits), (Value.int .i64 t1.Frac), (Value.int .i64 t1.Round), (Value.int .i64 t1.Over)]) (.s .z) rfl).at_ (SX.any rfl hw')))) (by kernel_rfl) ?_
  obtain ⟨r1, hx1, h⟩ := bnd_some h
  refine la_call rfl rfl rfl (r_callF (vs := [(Value.agg #[(Value.int .i64 t1.Kind), (Value.int .i64 t1.Bits), (Value.int .i64 t1.Frac), (Value.int .i64 t1.Round), (Value.int .i64 t1.Over)])]) rfl ok_47 ⟨(ev_tmp rfl rfl), trivial⟩) (Calls.mono (c_fixed_ValidateType (Dj F c4) w3 hI.lt t1 trivial r1 hx1) ?_)
  rintro _ w4 ⟨rfl, hx2, hl1⟩
  refine ⟨_, rfl, hx2, ?_⟩
  replace hI := (hI.ext hx2)
  refine a_q rfl rfl rfl (fun w' => (y_eql rfl (ev_tmp rfl rfl) ev_const)) ?_
  refine a_q rfl rfl rfl (fun w' => (y_move rfl (ev_tmp rfl rfl))) ?_
  refine a_gval rfl (g_true rfl rfl rfl rfl) rfl (fun hc => fun w' => (y_fieldAddr rfl (ev_tmp rfl rfl) Tryz.underlying27 rfl size_2 rfl)) ?_
  refine a_gread rfl (g_true rfl rfl rfl rfl) rfl (fun hc => fun w' hw' => (y_load1 (v := (Value.int .i64 v1.D)) rfl (ev_gv (ev_tmp rfl rfl) hc) Tryz.underlying2 rfl ((hI.kblk (l := [(Value.int .i64 v1.D)]) .z rfl).at_ (SX.any rfl hw')))) (by kernel_rfl) ?_
  refine a_gval rfl (g_true rfl rfl rfl rfl) rfl (fun hc => fun w' => (y_eql rfl (ev_gv (ev_tmp rfl rfl) hc) ev_const)) ?_
  refine a_q rfl rfl rfl (fun w' => (y_and rfl (ev_tmp rfl rfl) (ev_tmp rfl rfl))) ?_
  refine a_q rfl rfl rfl (fun w' => (y_move rfl (ev_tmp rfl rfl))) ?_
  refine a_gval rfl (g_true rfl rfl rfl rfl) rfl (fun hc => fun w' => (y_fieldAddr rfl (ev_tmp rfl rfl) Tryz.underlying27 rfl size_2 rfl)) ?_
  refine a_gread rfl (g_true rfl rfl rfl rfl) rfl (fun hc => fun w' hw' => (y_load1 (v := (Value.int .i64 v1.N)) rfl (ev_gv (ev_tmp rfl rfl) hc) Tryz.underlying2 rfl ((hI.kblk (l := [(Value.int .i64 v1.N)]) .z rfl).at_ (SX.any rfl hw')))) (by kernel_rfl) ?_
  refine a_gval rfl (g_true rfl rfl rfl rfl) rfl (fun hc => fun w' => (y_fieldAddr rfl (ev_tmp rfl rfl) Tryz.underlying23 rfl size_3 rfl)) ?_
  refine a_gread rfl (g_true rfl rfl rfl rfl) rfl (fun hc => fun w' hw' => (y_load1 (v := (Value.int .i64 t1.Bits)) rfl (ev_gv (ev_tmp rfl rfl) hc) Tryz.underlying3 rfl ((hI.kblk (l := [(Value.int .i64 t1.Bits)]) (.s .z) rfl).at_ (SX.any rfl hw')))) (by kernel_rfl) ?_
  obtain ⟨r2, hx3, h⟩ := bnd_some h
  replace hx3 := gd_some hx3
  refine la_gcallU (v := (Value.int .i64 r2)) rfl (g_true rfl rfl rfl rfl) rfl (fun hc => (r_callF (vs := [(Value.int .i64 t1.Bits)]) rfl ok_61 ⟨(ev_gv (ev_tmp rfl rfl) hc), trivial⟩)) (fun hc => (c_round_MinInt (Dj F c4) w4 hI.lt t1.Bits trivial r2 (hx3 hc)).mono fun _ _ k => ⟨k.1, k.2.1⟩) ?_
  intro w5 hx4; replace hI := hI.ext hx4
  refine a_gval rfl (g_true rfl rfl rfl rfl) rfl (fun hc => fun w' => (y_geq rfl (ev_gv (ev_tmp rfl rfl) hc) (ev_gv (ev_tmp rfl rfl) hc))) ?_
  refine a_q rfl rfl rfl (fun w' => (y_and rfl (ev_tmp rfl rfl) (ev_tmp rfl rfl))) ?_
  refine a_q rfl rfl rfl (fun w' => (y_move rfl (ev_tmp rfl rfl))) ?_
  refine a_gval rfl (g_true rfl rfl rfl rfl) rfl (fun hc => fun w' => (y_fieldAddr rfl (ev_tmp rfl rfl) Tryz.underlying27 rfl size_2 rfl)) ?_
  refine a_gread rfl (g_true rfl rfl rfl rfl) rfl (fun hc => fun w' hw' => (y_load1 (v := (Value.int .i64 v1.N)) rfl (ev_gv (ev_tmp rfl rfl) hc) Tryz.underlying2 rfl ((hI.kblk (l := [(Value.int .i64 v1.N)]) .z rfl).at_ (SX.any rfl hw')))) (by kernel_rfl) ?_
  refine a_gval rfl (g_true rfl rfl rfl rfl) rfl (fun hc => fun w' => (y_fieldAddr rfl (ev_tmp rfl rfl) Tryz.underlying23 rfl size_3 rfl)) ?_
  refine a_gread rfl (g_true rfl rfl rfl rfl) rfl (fun hc => fun w' hw' => (y_load1 (v := (Value.int .i64 t1.Bits)) rfl (ev_gv (ev_tmp rfl rfl) hc) Tryz.underlying3 rfl ((hI.kblk (l := [(Value.int .i64 t1.Bits)]) (.s .z) rfl).at_ (SX.any rfl hw')))) (by kernel_rfl) ?_
  obtain ⟨r3, hx5, h⟩ := bnd_some h
  replace hx5 := gd_some hx5
  refine la_gcallU (v := (Value.int .i64 r3)) rfl (g_true rfl rfl rfl rfl) rfl (fun hc => (r_callF (vs := [(Value.int .i64 t1.Bits)]) rfl ok_62 ⟨(ev_gv (ev_tmp rfl rfl) hc), trivial⟩)) (fun hc => (c_round_MaxInt (Dj F c4) w5 hI.lt t1.Bits trivial r3 (hx5 hc)).mono fun _ _ k => ⟨k.1, k.2.1⟩) ?_
  intro w6 hx6; replace hI := hI.ext hx6
  refine a_gval rfl (g_true rfl rfl rfl rfl) rfl (fun hc => fun w' => (y_leq rfl (ev_gv (ev_tmp rfl rfl) hc) (ev_gv (ev_tmp rfl rfl) hc))) ?_
  refine a_q rfl rfl rfl (fun w' => (y_and rfl (ev_tmp rfl rfl) (ev_tmp rfl rfl))) ?_
  refine a_q rfl rfl rfl (fun w' => (y_assign rfl (ev_tmp rfl rfl))) ?_
  refine a_nil ?_
  refine k_next (e := [(4, (Value.bool ((((decide (r1 = 0)) && (decide (v1.D = 1))) && (decide (r2 ≤ v1.N))) && (decide (v1.N ≤ r3)))))]) ⟨rfl, trivial⟩ ?_
  refine c_ret ?_
  obtain rfl := some_inj h
  exact q_ret (vs := [(Value.bool ((((decide (r1 = 0)) && (decide (v1.D = 1))) && (decide (r2 ≤ v1.N))) && (decide (v1.N ≤ r3))))]) Tryz.results31 ⟨ev_tmp rfl rfl, trivial⟩ ⟨rfl, hI.ext0, hI.fin trivial⟩

set_option maxRecDepth 100000 in
set_option maxHeartbeats 4000000 in
theorem c_value_One (F : NP) (w0 : World) (hF : ∀ k, F k → k < w0.heap.size) (t1 : GType) (hc : AllCl [] F w0) (r : GVal × Int)
    (h : m_value_One t1 = some r) :
    Calls Tryz.prog 20 #[(Value.agg #[(Value.int .i64 t1.Kind), (Value.int .i64 t1.Bits), (Value.int .i64 t1.Frac), (Value.int .i64 t1.Round), (Value.int .i64 t1.Over)])] w0 fun e w => e = .returned (Value.tuple #[(Value.agg #[(Value.int .i64 r.1.N), (Value.int .i64 r.1.D)]), (Value.int .i64 r.2)]) ∧ Ext w0 w ∧ AllCl [] F w := by
  refine ofEnter (R := fun v w => v = (Value.tuple #[(Value.agg #[(Value.int .i64 r.1.N), (Value.int .i64 r.1.D)]), (Value.int .i64 r.2)]) ∧ Ext w0 w ∧ AllCl [] F w) (enter (l := [(Value.agg #[(Value.int .i64 t1.Kind), (Value.int .i64 t1.Bits), (Value.int .i64 t1.Frac), (Value.int .i64 t1.Round), (Value.int .i64 t1.Over)])]) Tryz.func20 rfl Tryz.ntmps20 rfl ?_) ?_
  rotate_left
  · rintro _ w ⟨rfl, k1, k2⟩; exact ⟨rfl, k1, k2⟩
  have hI := Bun.start hF hc
  clear hc
  rw [m_value_One] at h
  refine c_seq ?_
  refine c_region rfl ?_
  refine l_box (v := (Value.agg #[(Value.int .i64 t1.Kind), (Value.int .i64 t1.Bits), (Value.int .i64 t1.Frac), (Value.int .i64 t1.Round), (Value.int .i64 t1.Over)])) (cs := #[(Value.int .i64 t1.Kind), (Value.int .i64 t1.Bits), (Value.int .i64 t1.Frac), (Value.int .i64 t1.Round), (Value.int .i64 t1.Over)]) hI rfl rfl rfl (ev_tmp rfl rfl) rfl ?_
  clear hI; intro b1 c1 w1 hI
  obtain ⟨c2, hI⟩ := hI.relBox .z
  refine l_alloc (cs := #[(Value.int .i64 0), (Value.int .i64 0)]) hI rfl rfl rfl zero_27 rfl ?_
  clear hI; intro b2 c3 w2 hI
  refine s_q rfl rfl (y_assign rfl ev_const) ?_
  refine s_nil ?_
  refine k_next (e := [(1, (Value.pointer (some ⟨b1, 0, none⟩))), (2, (Value.pointer (some ⟨b2, 0, none⟩)))]) ⟨rfl, rfl, trivial⟩ ?_
  refine c_seq ?_
  refine c_block ?_
  refine c_seq ?_
  refine c_region rfl ?_
  refine s_q rfl rfl (y_loadN (l := [(Value.int .i64 t1.Kind), (Value.int .i64 t1.Bits), (Value.int .i64 t1.Frac), (Value.int .i64 t1.Round), (Value.int .i64 t1.Over)]) rfl (ev_tmp rfl rfl) Tryz.underlying23 rfl size_23 (hI.kblk (l := [(Value.int .i64 t1.Kind), (Value.int .i64 t1.Bits), (Value.int .i64 t1.Frac), (Value.int .i64 t1.Round), (Value.int .i64 t1.Over)]) .z rfl).1) ?_
  obtain ⟨r1, hx1, h⟩ := bnd_some h
  refine s_call rfl rfl (r_callF (vs := [(Value.agg #[(Value.int .i64 t1.Kind), (Value.int .i64 t1.Bits), (Value.int .i64 t1.Frac), (Value.int .i64 t1.Round), (Value.int .i64 t1.Over)])]) rfl ok_22 ⟨(ev_tmp rfl rfl), trivial⟩) (Calls.mono (c_value_ValidateType (Dj F c3) w2 hI.lt t1 trivial r1 hx1) ?_)
  rintro _ w3 ⟨rfl, hx2, hl1⟩
  refine ⟨_, rfl, ?_⟩
  replace hI := (hI.ext hx2)
  refine s_q rfl rfl (y_neq rfl (ev_tmp rfl rfl) ev_const) ?_
  refine s_q rfl rfl (y_assign rfl (ev_tmp rfl rfl)) ?_
  refine s_nil ?_
  refine k_next (e := [(1, (Value.pointer (some ⟨b1, 0, none⟩))), (2, (Value.pointer (some ⟨b2, 0, none⟩))), (5, (Value.bool (!decide (r1 = 0))))]) ⟨rfl, rfl, rfl, trivial⟩ ?_
  refine c_cond (b := !decide (r1 = 0)) (ev_tmp rfl rfl) (fun hb => ?_) (fun hb => ?_)
  · replace h := ite_t hb h
    refine c_seq ?_
    refine c_region rfl ?_
    refine s_q rfl rfl (y_build (vs := []) (cs := #[(Value.int .i64 0), (Value.int .i64 0)]) rfl trivial (by kernel_rfl)) ?_
    refine l_store (new := [(Value.int .i64 0), (Value.int .i64 0)]) (cs' := #[(Value.int .i64 0), (Value.int .i64 0)]) hI .z rfl rfl rfl (ev_tmp rfl rfl) (ev_tmp rfl rfl) rfl size_27 rfl rfl rfl ?_
    clear hI; intro c4 w4 hI
    refine s_q rfl rfl (y_assign rfl ev_const) ?_
    refine s_nil ?_
    refine k_next (e := [(2, (Value.pointer (some ⟨b2, 0, none⟩))), (3, (Value.int .i64 10))]) ⟨rfl, rfl, trivial⟩ ?_
    refine c_ret ?_
    obtain rfl := some_inj h
    exact q_ret (vs := [(Value.agg #[(Value.int .i64 0), (Value.int .i64 0)]), (Value.int .i64 10)]) Tryz.results20 ⟨⟨_, ev_tmp rfl rfl, load_agg (l := [(Value.int .i64 0), (Value.int .i64 0)]) Tryz.underlying27 rfl size_27 (CellsAt.of_blk (hI.blk .z) rfl)⟩, ⟨ev_tmp rfl rfl, trivial⟩⟩ ⟨rfl, hI.ext0, hI.fin trivial⟩
  · replace h := ite_f hb h
    refine c_seq ?_
    refine c_region rfl ?_
    refine s_q rfl rfl (y_fieldAddr rfl (ev_tmp rfl rfl) Tryz.underlying23 rfl size_3 rfl) ?_
    refine s_q rfl rfl (y_load1 (v := (Value.int .i64 t1.Kind)) rfl (ev_tmp rfl rfl) Tryz.underlying3 rfl (hI.kblk (l := [(Value.int .i64 t1.Kind)]) .z rfl).1) ?_
    refine s_q rfl rfl (y_neq rfl (ev_tmp rfl rfl) ev_const) ?_
    refine s_q rfl rfl (y_assign rfl (ev_tmp rfl rfl)) ?_
    refine s_nil ?_
    refine k_next (e := [(1, (Value.pointer (some ⟨b1, 0, none⟩))), (2, (Value.pointer (some ⟨b2, 0, none⟩))), (10, (Value.bool (!decide (t1.Kind = 2))))]) ⟨rfl, rfl, rfl, trivial⟩ ?_
    refine c_cond (b := !decide (t1.Kind = 2)) (ev_tmp rfl rfl) (fun hb => ?_) (fun hb => ?_)
    · replace h := ite_t hb h
      refine c_seq ?_
      refine c_region rfl ?_
      refine s_q rfl rfl (y_build (vs := [(0, (Value.int .i64 1)), (1, (Value.int .i64 1))]) (cs := #[(Value.int .i64 1), (Value.int .i64 1)]) rfl ⟨rfl, ev_const, ⟨rfl, ev_const, trivial⟩⟩ (by kernel_rfl)) ?_
      refine l_store (new := [(Value.int .i64 1), (Value.int .i64 1)]) (cs' := #[(Value.int .i64 1), (Value.int .i64 1)]) hI .z rfl rfl rfl (ev_tmp rfl rfl) (ev_tmp rfl rfl) rfl size_27 rfl rfl rfl ?_
      clear hI; intro c5 w5 hI
      refine s_q rfl rfl (y_assign rfl ev_const) ?_
      refine s_nil ?_
      refine k_next (e := [(2, (Value.pointer (some ⟨b2, 0, none⟩))), (3, (Value.int .i64 0))]) ⟨rfl, rfl, trivial⟩ ?_
      refine c_ret ?_
      obtain rfl := some_inj h
      exact q_ret (vs := [(Value.agg #[(Value.int .i64 1), (Value.int .i64 1)]), (Value.int .i64 0)]) Tryz.results20 ⟨⟨_, ev_tmp rfl rfl, load_agg (l := [(Value.int .i64 1), (Value.int .i64 1)]) Tryz.underlying27 rfl size_27 (CellsAt.of_blk (hI.blk .z) rfl)⟩, ⟨ev_tmp rfl rfl, trivial⟩⟩ ⟨rfl, hI.ext0, hI.fin trivial⟩
    · replace h := ite_f hb h
      refine c_skip ?_
      refine k_next (e := [(1, (Value.pointer (some ⟨b1, 0, none⟩))), (2, (Value.pointer (some ⟨b2, 0, none⟩)))]) ⟨rfl, rfl, trivial⟩ ?_
      refine c_seq ?_
      refine c_region rfl ?_
      refine s_q rfl rfl (y_fieldAddr rfl (ev_tmp rfl rfl) Tryz.underlying23 rfl size_3 rfl) ?_
      refine s_q rfl rfl (y_load1 (v := (Value.int .i64 t1.Frac)) rfl (ev_tmp rfl rfl) Tryz.underlying3 rfl (hI.kblk (l := [(Value.int .i64 t1.Frac)]) .z rfl).1) ?_
      obtain ⟨ho1, h⟩ := chk_some h
      refine s_q rfl rfl (y_shl rfl ev_const (ev_tmp rfl rfl) ho1) ?_
      refine s_q rfl rfl (y_build (vs := [(0, (Value.int .i64 (wi64 (1 * 2 ^ (min (Int.toNat t1.Frac) 64))))), (1, (Value.int .i64 1))]) (cs := #[(Value.int .i64 (wi64 (1 * 2 ^ (min (Int.toNat t1.Frac) 64)))), (Value.int .i64 1)]) rfl ⟨rfl, (ev_tmp rfl rfl), ⟨rfl, ev_const, trivial⟩⟩ (by kernel_rfl)) ?_
      refine l_alloc (cs := #[(Value.int .i64 0), (Value.int .i64 0)]) hI rfl rfl rfl zero_27 rfl ?_
      clear hI; intro b3 c6 w6 hI
      refine l_store (new := [(Value.int .i64 (wi64 (1 * 2 ^ (min (Int.toNat t1.Frac) 64)))), (Value.int .i64 1)]) (cs' := #[(Value.int .i64 (wi64 (1 * 2 ^ (min (Int.toNat t1.Frac) 64)))), (Value.int .i64 1)]) hI .z rfl rfl rfl (ev_tmp rfl rfl) (ev_tmp rfl rfl) rfl size_27 rfl rfl rfl ?_
      clear hI; intro c7 w7 hI
      refine s_nil ?_
      refine k_next (e := [(1, (Value.pointer (some ⟨b1, 0, none⟩))), (2, (Value.pointer (some ⟨b2, 0, none⟩))), (4, (Value.pointer (some ⟨b3, 0, none⟩)))]) ⟨rfl, rfl, rfl, trivial⟩ ?_
      refine c_seq ?_
      refine c_seq ?_
      refine c_region rfl ?_
      refine s_q rfl rfl (y_loadN (l := [(Value.int .i64 t1.Kind), (Value.int .i64 t1.Bits), (Value.int .i64 t1.Frac), (Value.int .i64 t1.Round), (Value.int .i64 t1.Over)]) rfl (ev_tmp rfl rfl) Tryz.underlying23 rfl size_23 (hI.kblk (l := [(Value.int .i64 t1.Kind), (Value.int .i64 t1.Bits), (Value.int .i64 t1.Frac), (Value.int .i64 t1.Round), (Value.int .i64 t1.Over)]) .z rfl).1) ?_
      refine s_q rfl rfl (y_loadN (l := [(Value.int .i64 (wi64 (1 * 2 ^ (min (Int.toNat t1.Frac) 64)))), (Value.int .i64 1)]) rfl (ev_tmp rfl rfl) Tryz.underlying27 rfl size_27 (CellsAt.of_blk (hI.blk .z) rfl)) ?_
      obtain ⟨r2, hx3, h⟩ := bnd_some h
      refine s_call rfl rfl (r_callF (vs := [(Value.agg #[(Value.int .i64 t1.Kind), (Value.int .i64 t1.Bits), (Value.int .i64 t1.Frac), (Value.int .i64 t1.Round), (Value.int .i64 t1.Over)]), (Value.agg #[(Value.int .i64 (wi64 (1 * 2 ^ (min (Int.toNat t1.Frac) 64)))), (Value.int .i64 1)])]) rfl ok_31 ⟨(ev_tmp rfl rfl), ⟨(ev_tmp rfl rfl), trivial⟩⟩) (Calls.mono (c_fixed_Valid (Dj F c7) w7 hI.lt t1 (⟨wi64 (1 * 2 ^ (min (Int.toNat t1.Frac) 64)), 1⟩ : GVal) trivial r2 hx3) ?_)
      rintro _ w8 ⟨rfl, hx4, hl2⟩
      refine ⟨_, rfl, ?_⟩
      replace hI := (hI.ext hx4)
      refine s_q rfl rfl (y_not rfl (ev_tmp rfl rfl)) ?_
      refine s_nil ?_
      refine k_next (e := [(2, (Value.pointer (some ⟨b2, 0, none⟩))), (4, (Value.pointer (some ⟨b3, 0, none⟩))), (22, (Value.bool (!r2)))]) ⟨rfl, rfl, rfl, trivial⟩ ?_
      refine c_cond (b := !r2) (ev_tmp rfl rfl) (fun hb => ?_) (fun hb => ?_)
      · replace h := ite_t hb h
        refine c_seq ?_
        refine c_region rfl ?_
        refine s_q rfl rfl (y_build (vs := []) (cs := #[(Value.int .i64 0), (Value.int .i64 0)]) rfl trivial (by kernel_rfl)) ?_
        refine l_store (new := [(Value.int .i64 0), (Value.int .i64 0)]) (cs' := #[(Value.int .i64 0), (Value.int .i64 0)]) hI (.s .z) rfl rfl rfl (ev_tmp rfl rfl) (ev_tmp rfl rfl) rfl size_27 rfl rfl rfl ?_
        clear hI; intro c8 w9 hI
        refine s_q rfl rfl (y_assign rfl ev_const) ?_
        refine s_nil ?_
        refine k_next (e := [(2, (Value.pointer (some ⟨b2, 0, none⟩))), (3, (Value.int .i64 3))]) ⟨rfl, rfl, trivial⟩ ?_
        refine c_ret ?_
        obtain rfl := some_inj h
        exact q_ret (vs := [(Value.agg #[(Value.int .i64 0), (Value.int .i64 0)]), (Value.int .i64 3)]) Tryz.results20 ⟨⟨_, ev_tmp rfl rfl, load_agg (l := [(Value.int .i64 0), (Value.int .i64 0)]) Tryz.underlying27 rfl size_27 (CellsAt.of_blk (hI.blk (.s .z)) rfl)⟩, ⟨ev_tmp rfl rfl, trivial⟩⟩ ⟨rfl, hI.ext0, hI.fin trivial⟩
      · replace h := ite_f hb h
        refine c_skip ?_
        refine k_next (e := [(2, (Value.pointer (some ⟨b2, 0, none⟩))), (4, (Value.pointer (some ⟨b3, 0, none⟩)))]) ⟨rfl, rfl, trivial⟩ ?_
        refine c_seq ?_
        refine c_region rfl ?_
        refine s_q rfl rfl (y_loadN (l := [(Value.int .i64 (wi64 (1 * 2 ^ (min (Int.toNat t1.Frac) 64)))), (Value.int .i64 1)]) rfl (ev_tmp rfl rfl) Tryz.underlying27 rfl size_27 (CellsAt.of_blk (hI.blk .z) rfl)) ?_
        refine l_store (new := [(Value.int .i64 (wi64 (1 * 2 ^ (min (Int.toNat t1.Frac) 64)))), (Value.int .i64 1)]) (cs' := #[(Value.int .i64 (wi64 (1 * 2 ^ (min (Int.toNat t1.Frac) 64)))), (Value.int .i64 1)]) hI (.s .z) rfl rfl rfl (ev_tmp rfl rfl) (ev_tmp rfl rfl) rfl size_27 rfl rfl rfl ?_
        clear hI; intro c9 w10 hI
        refine s_q rfl rfl (y_assign rfl ev_const) ?_
        refine s_nil ?_
        refine k_next (e := [(2, (Value.pointer (some ⟨b2, 0, none⟩))), (3, (Value.int .i64 0))]) ⟨rfl, rfl, trivial⟩ ?_
        refine c_ret ?_
        obtain rfl := some_inj h
        exact q_ret (vs := [(Value.agg #[(Value.int .i64 (wi64 (1 * 2 ^ (min (Int.toNat t1.Frac) 64)))), (Value.int .i64 1)]), (Value.int .i64 0)]) Tryz.results20 ⟨⟨_, ev_tmp rfl rfl, load_agg (l := [(Value.int .i64 (wi64 (1 * 2 ^ (min (Int.toNat t1.Frac) 64)))), (Value.int .i64 1)]) Tryz.underlying27 rfl size_27 (CellsAt.of_blk (hI.blk (.s .z)) rfl)⟩, ⟨ev_tmp rfl rfl, trivial⟩⟩ ⟨rfl, hI.ext0, hI.fin trivial⟩

set_option maxRecDepth 100000 in
set_option maxHeartbeats 4000000 in
theorem c_value_whole (F : NP) (w0 : World) (hF : ∀ k, F k → k < w0.heap.size) (n1 : Int) (hc : AllCl [] F w0) (r : Bool)
    (h : m_value_whole n1 = some r) :
    Calls Tryz.prog 44 #[(Value.int .i64 n1)] w0 fun e w => e = .returned (Value.bool r) ∧ Ext w0 w ∧ AllCl [] F w := by
  refine ofEnter (R := fun v w => v = (Value.bool r) ∧ Ext w0 w ∧ AllCl [] F w) (enter (l := [(Value.int .i64 n1)]) Tryz.func44 rfl Tryz.ntmps44 rfl ?_) ?_
  rotate_left
  · rintro _ w ⟨rfl, k1, k2⟩; exact ⟨rfl, k1, k2⟩
  have hI := Bun.start hF hc
  clear hc
  rw [m_value_whole] at h
  refine c_seq ?_
  refine c_region rfl ?_
  refine s_q rfl rfl (y_assign rfl ev_const) ?_
  refine s_nil ?_
  refine k_next (e := [(0, (Value.int .i64 n1))]) ⟨rfl, trivial⟩ ?_
  refine c_seq ?_
  refine c_region rfl ?_
  refine s_q rfl rfl (y_move rfl (ev_tmp rfl rfl)) ?_
  refine s_q rfl rfl (y_geq rfl (ev_tmp rfl rfl) ev_const) ?_
  refine s_q rfl rfl (y_move rfl (ev_tmp rfl rfl)) ?_
  refine s_gval (g_true rfl rfl rfl rfl) rfl (fun hc => (y_move rfl (ev_tmp rfl rfl))) ?_
  refine s_gval (g_true rfl rfl rfl rfl) rfl (fun hc => (y_leq rfl (ev_gv (ev_tmp rfl rfl) hc) ev_const)) ?_
  refine s_q rfl rfl (y_and rfl (ev_tmp rfl rfl) (ev_tmp rfl rfl)) ?_
  refine s_q rfl rfl (y_assign rfl (ev_tmp rfl rfl)) ?_
  refine s_nil ?_
  refine k_next (e := [(2, (Value.bool ((decide ((-2147483647) ≤ n1)) && (decide (n1 ≤ 2147483647)))))]) ⟨rfl, trivial⟩ ?_
  refine c_ret ?_
  obtain rfl := some_inj h
  exact q_ret (vs := [(Value.bool ((decide ((-2147483647) ≤ n1)) && (decide (n1 ≤ 2147483647))))]) Tryz.results44 ⟨ev_tmp rfl rfl, trivial⟩ ⟨rfl, hI.ext0, hI.fin trivial⟩

set_option maxRecDepth 100000 in
set_option maxHeartbeats 4000000 in
theorem c_frac_inRange (F : NP) (w0 : World) (hF : ∀ k, F k → k < w0.heap.size) (n1 : Int) (hc : AllCl [] F w0) (r : Bool)
    (h : m_frac_inRange n1 = some r) :
    Calls Tryz.prog 85 #[(Value.int .i64 n1)] w0 fun e w => e = .returned (Value.bool r) ∧ Ext w0 w ∧ AllCl [] F w := by
  refine ofEnter (R := fun v w => v = (Value.bool r) ∧ Ext w0 w ∧ AllCl [] F w) (enter (l := [(Value.int .i64 n1)]) Tryz.func85 rfl Tryz.ntmps85 rfl ?_) ?_
  rotate_left
  · rintro _ w ⟨rfl, k1, k2⟩; exact ⟨rfl, k1, k2⟩
  have hI := Bun.start hF hc
  clear hc
  rw [m_frac_inRange] at h
  refine c_seq ?_
  refine c_region rfl ?_
  refine s_q rfl rfl (y_assign rfl ev_const) ?_
  refine s_nil ?_
  refine k_next (e := [(0, (Value.int .i64 n1))]) ⟨rfl, trivial⟩ ?_
  refine c_seq ?_
  refine c_region rfl ?_
  refine s_q rfl rfl (y_move rfl (ev_tmp rfl rfl)) ?_
  refine s_q rfl rfl (y_geq rfl (ev_tmp rfl rfl) ev_const) ?_
  refine s_q rfl rfl (y_move rfl (ev_tmp rfl rfl)) ?_
  refine s_gval (g_true rfl rfl rfl rfl) rfl (fun hc => (y_move rfl (ev_tmp rfl rfl))) ?_
  refine s_gval (g_true rfl rfl rfl rfl) rfl (fun hc => (y_leq rfl (ev_gv (ev_tmp rfl rfl) hc) ev_const)) ?_
  refine s_q rfl rfl (y_and rfl (ev_tmp rfl rfl) (ev_tmp rfl rfl)) ?_
  refine s_q rfl rfl (y_assign rfl (ev_tmp rfl rfl)) ?_
  refine s_nil ?_
  refine k_next (e := [(2, (Value.bool ((decide ((-2147483647) ≤ n1)) && (decide (n1 ≤ 2147483647)))))]) ⟨rfl, trivial⟩ ?_
  refine c_ret ?_
  obtain rfl := some_inj h
  exact q_ret (vs := [(Value.bool ((decide ((-2147483647) ≤ n1)) && (decide (n1 ≤ 2147483647))))]) Tryz.results85 ⟨ev_tmp rfl rfl, trivial⟩ ⟨rfl, hI.ext0, hI.fin trivial⟩

set_option maxRecDepth 100000 in
set_option maxHeartbeats 4000000 in
theorem c_frac_magnitude (F : NP) (w0 : World) (hF : ∀ k, F k → k < w0.heap.size) (n1 : Int) (hc : AllCl [] F w0) (r : Int)
    (h : m_frac_magnitude n1 = some r) :
    Calls Tryz.prog 87 #[(Value.int .i64 n1)] w0 fun e w => e = .returned (Value.int .u64 r) ∧ Ext w0 w ∧ AllCl [] F w := by
  refine ofEnter (R := fun v w => v = (Value.int .u64 r) ∧ Ext w0 w ∧ AllCl [] F w) (enter (l := [(Value.int .i64 n1)]) Tryz.func87 rfl Tryz.ntmps87 rfl ?_) ?_
  rotate_left
  · rintro _ w ⟨rfl, k1, k2⟩; exact ⟨rfl, k1, k2⟩
  have hI := Bun.start hF hc
  clear hc
  rw [m_frac_magnitude] at h
  refine c_seq ?_
  refine c_region rfl ?_
  refine s_q rfl rfl (y_assign rfl ev_const) ?_
  refine s_nil ?_
  refine k_next (e := [(0, (Value.int .i64 n1))]) ⟨rfl, trivial⟩ ?_
  refine c_seq ?_
  refine c_seq ?_
  refine c_region rfl ?_
  refine s_q rfl rfl (y_move rfl (ev_tmp rfl rfl)) ?_
  refine s_q rfl rfl (y_lss rfl (ev_tmp rfl rfl) ev_const) ?_
  refine s_nil ?_
  refine k_next (e := [(0, (Value.int .i64 n1)), (4, (Value.bool (decide (n1 < 0))))]) ⟨rfl, rfl, trivial⟩ ?_
  refine c_cond (b := decide (n1 < 0)) (ev_tmp rfl rfl) (fun hb => ?_) (fun hb => ?_)
  · replace h := ite_t hb h
    refine c_seq ?_
    refine c_region rfl ?_
    refine s_q rfl rfl (y_move rfl (ev_tmp rfl rfl)) ?_
    refine s_q rfl rfl (y_conv rfl (by rw [Tryz.underlying2]; rfl) Tryz.underlying74 (ev_tmp rfl rfl)) ?_
    refine s_q rfl rfl (y_neg rfl (ev_tmp rfl rfl)) ?_
    refine s_q rfl rfl (y_assign rfl (ev_tmp rfl rfl)) ?_
    refine s_nil ?_
    refine k_next (e := [(2, (Value.int .u64 (wu64 (-(wu64 n1)))))]) ⟨rfl, trivial⟩ ?_
    refine c_ret ?_
    obtain rfl := some_inj h
    exact q_ret (vs := [(Value.int .u64 (wu64 (-(wu64 n1))))]) Tryz.results87 ⟨ev_tmp rfl rfl, trivial⟩ ⟨rfl, hI.ext0, hI.fin trivial⟩
  · replace h := ite_f hb h
    refine c_skip ?_
    refine k_next (e := [(0, (Value.int .i64 n1))]) ⟨rfl, trivial⟩ ?_
    refine c_seq ?_
    refine c_region rfl ?_
    refine s_q rfl rfl (y_move rfl (ev_tmp rfl rfl)) ?_
    refine s_q rfl rfl (y_conv rfl (by rw [Tryz.underlying2]; rfl) Tryz.underlying74 (ev_tmp rfl rfl)) ?_
    refine s_q rfl rfl (y_assign rfl (ev_tmp rfl rfl)) ?_
    refine s_nil ?_
    refine k_next (e := [(2, (Value.int .u64 (wu64 n1)))]) ⟨rfl, trivial⟩ ?_
    refine c_ret ?_
    obtain rfl := some_inj h
    exact q_ret (vs := [(Value.int .u64 (wu64 n1))]) Tryz.results87 ⟨ev_tmp rfl rfl, trivial⟩ ⟨rfl, hI.ext0, hI.fin trivial⟩

set_option maxRecDepth 100000 in
set_option maxHeartbeats 4000000 in
theorem c_frac_gcd (F : NP) (w0 : World) (hF : ∀ k, F k → k < w0.heap.size) (a1 : Int) (b1 : Int) (hc : AllCl [] F w0) (r : Int)
    (h : m_frac_gcd a1 b1 = some r) :
    Calls Tryz.prog 86 #[(Value.int .u64 a1), (Value.int .u64 b1)] w0 fun e w => e = .returned (Value.int .u64 r) ∧ Ext w0 w ∧ AllCl [] F w := by
  refine ofEnter (R := fun v w => v = (Value.int .u64 r) ∧ Ext w0 w ∧ AllCl [] F w) (enter (l := [(Value.int .u64 a1), (Value.int .u64 b1)]) Tryz.func86 rfl Tryz.ntmps86 rfl ?_) ?_
  rotate_left
  · rintro _ w ⟨rfl, k1, k2⟩; exact ⟨rfl, k1, k2⟩
  have hI := Bun.start hF hc
  clear hc
  rw [m_frac_gcd] at h
  refine c_seq ?_
  refine c_region rfl ?_
  refine s_q rfl rfl (y_assign rfl ev_const) ?_
  refine s_nil ?_
  refine k_next (e := [(0, (Value.int .u64 a1)), (1, (Value.int .u64 b1))]) ⟨rfl, rfl, trivial⟩ ?_
  refine c_seq ?_
  refine c_block ?_
  refine c_loop (α := Nat × Int × Int) (fun x => fun w => ∃ C, Bun noM F w0 C w [] [] ∧ m_frac_gcd_l1 (x.1) (x.2.1) (x.2.2) = some r) (fun x _ => x.1) (fun x => [(0, (Value.int .u64 (x.2.1))), (1, (Value.int .u64 (x.2.2)))]) (fu, a1, b1) ⟨_, hI.arr .n trivial, h⟩ ⟨rfl, rfl, trivial⟩ ?_
  clear h hI; rintro ⟨fuel1, a2, b2⟩ w1 ⟨c1, hI, h⟩
  dsimp only at hI h
  rcases fuel1 with _ | fuel1
  · rw [m_frac_gcd_l1] at h; cases h
  rw [m_frac_gcd_l1] at h
  refine c_sub (e := [(0, (Value.int .u64 a2)), (1, (Value.int .u64 b2))]) ⟨rfl, rfl, trivial⟩ ?_
  refine c_seq ?_
  refine c_seq ?_
  refine c_region rfl ?_
  refine s_q rfl rfl (y_move rfl (ev_tmp rfl rfl)) ?_
  refine s_q rfl rfl (y_neq rfl (ev_tmp rfl rfl) ev_const) ?_
  refine s_nil ?_
  refine k_next (e := [(0, (Value.int .u64 a2)), (1, (Value.int .u64 b2)), (6, (Value.bool (!decide (b2 = 0))))]) ⟨rfl, rfl, rfl, trivial⟩ ?_
  refine c_cond (b := !decide (b2 = 0)) (ev_tmp rfl rfl) (fun hb => ?_) (fun hb => ?_)
  · replace h := ite_t hb h
    refine c_skip ?_
    refine k_next (e := [(0, (Value.int .u64 a2)), (1, (Value.int .u64 b2))]) ⟨rfl, rfl, trivial⟩ ?_
    refine c_block ?_
    refine c_drawX [] false (.c (0, .q) (.c (1, .q) (.c (2, .q) (.c (3, .q) (.c (4, .q) (.c (5, .q) .n)))))) hI (by kernel_rfl) (by kernel_rfl) ?_
    clear hI; intro w2 hI
    refine a_q rfl rfl rfl (fun w' => (y_move rfl (ev_tmp rfl rfl))) ?_
    refine a_q rfl rfl rfl (fun w' => (y_move rfl (ev_tmp rfl rfl))) ?_
    refine a_q rfl rfl rfl (fun w' => (y_move rfl (ev_tmp rfl rfl))) ?_
    obtain ⟨ho1, h⟩ := chk_some h
    refine a_q rfl rfl rfl (fun w' => (y_rem rfl (ev_tmp rfl rfl) (ev_tmp rfl rfl) ho1)) ?_
    refine a_q rfl rfl rfl (fun w' => (y_assign rfl (ev_tmp rfl rfl))) ?_
    refine a_q rfl rfl rfl (fun w' => (y_assign rfl (ev_tmp rfl rfl))) ?_
    refine a_nil ?_
    exact k_loop (fuel1, b2, Int.tmod a2 b2) ⟨rfl, rfl, trivial⟩ ⟨_, hI.arr .n trivial, h⟩ (Nat.lt_succ_self _)
  · replace h := ite_f hb h
    refine c_exit ?_
    refine k_in ?_
    refine k_next (e := [(0, (Value.int .u64 a2))]) ⟨rfl, trivial⟩ ?_
    refine c_seq ?_
    refine c_region rfl ?_
    refine s_q rfl rfl (y_move rfl (ev_tmp rfl rfl)) ?_
    refine s_q rfl rfl (y_assign rfl (ev_tmp rfl rfl)) ?_
    refine s_nil ?_
    refine k_next (e := [(4, (Value.int .u64 a2))]) ⟨rfl, trivial⟩ ?_
    refine c_ret ?_
    obtain rfl := some_inj h
    exact q_ret (vs := [(Value.int .u64 a2)]) Tryz.results86 ⟨ev_tmp rfl rfl, trivial⟩ ⟨rfl, hI.ext0, hI.fin trivial⟩

set_option maxRecDepth 100000 in
set_option maxHeartbeats 4000000 in
theorem c_frac_Valid (F : NP) (w0 : World) (hF : ∀ k, F k → k < w0.heap.size) (v1 : GVal) (hc : AllCl [] F w0) (r : Bool)
    (h : m_frac_Valid v1 = some r) :
    Calls Tryz.prog 45 #[(Value.agg #[(Value.int .i64 v1.N), (Value.int .i64 v1.D)])] w0 fun e w => e = .returned (Value.bool r) ∧ Ext w0 w ∧ AllCl [] F w := by
  refine ofEnter (R := fun v w => v = (Value.bool r) ∧ Ext w0 w ∧ AllCl [] F w) (enter (l := [(Value.agg #[(Value.int .i64 v1.N), (Value.int .i64 v1.D)])]) Tryz.func45 rfl Tryz.ntmps45 rfl ?_) ?_
  rotate_left
  · rintro _ w ⟨rfl, k1, k2⟩; exact ⟨rfl, k1, k2⟩
  have hI := Bun.start hF hc
  clear hc
  rw [m_frac_Valid] at h
  refine c_seq ?_
  refine c_region rfl ?_
  refine l_box (v := (Value.agg #[(Value.int .i64 v1.N), (Value.int .i64 v1.D)])) (cs := #[(Value.int .i64 v1.N), (Value.int .i64 v1.D)]) hI rfl rfl rfl (ev_tmp rfl rfl) rfl ?_
  clear hI; intro b1 c1 w1 hI
  obtain ⟨c2, hI⟩ := hI.relBox .z
  refine s_q rfl rfl (y_assign rfl ev_const) ?_
  refine s_nil ?_
  refine k_next (e := [(1, (Value.pointer (some ⟨b1, 0, none⟩)))]) ⟨rfl, trivial⟩ ?_
  refine c_seq ?_
  refine c_drawX [] false (.c (0, .q) (.c (1, .q) (.c (2, .q) (.c (3, .q) (.c (4, .q) (.c (5, .q) (.c (6, .q) (.c (7, .q) (.c (8, .q) (.c (9, .q) (.c (10, .q) (.c (11, .s) (.c (12, .q) (.c (13, .q) (.c (14, .q) (.c (15, .q) (.c (17, .q) (.c (18, .q) (.c (19, .q) (.c (16, .s) (.c (20, .s) (.c (21, .q) (.c (22, .q) (.c (23, .q) .n)))))))))))))))))))))))) hI (by kernel_rfl) (by kernel_rfl) ?_
  clear hI; intro w2 hI
  refine a_q rfl rfl rfl (fun w' => (y_fieldAddr rfl (ev_tmp rfl rfl) Tryz.underlying27 rfl size_2 rfl)) ?_
  refine a_read rfl rfl rfl (fun w' hw' => (y_load1 (v := (Value.int .i64 v1.D)) rfl (ev_tmp rfl rfl) Tryz.underlying2 rfl ((hI.kblk (l := [(Value.int .i64 v1.D)]) .z rfl).at_ (SX.any rfl hw')))) (by kernel_rfl) ?_
  refine a_q rfl rfl rfl (fun w' => (y_geq rfl (ev_tmp rfl rfl) ev_const)) ?_
  refine a_q rfl rfl rfl (fun w' => (y_move rfl (ev_tmp rfl rfl))) ?_
  refine a_gval rfl (g_true rfl rfl rfl rfl) rfl (fun hc => fun w' => (y_fieldAddr rfl (ev_tmp rfl rfl) Tryz.underlying27 rfl size_2 rfl)) ?_
  refine a_gread rfl (g_true rfl rfl rfl rfl) rfl (fun hc => fun w' hw' => (y_load1 (v := (Value.int .i64 v1.D)) rfl (ev_gv (ev_tmp rfl rfl) hc) Tryz.underlying2 rfl ((hI.kblk (l := [(Value.int .i64 v1.D)]) .z rfl).at_ (SX.any rfl hw')))) (by kernel_rfl) ?_
  refine a_gval rfl (g_true rfl rfl rfl rfl) rfl (fun hc => fun w' => (y_leq rfl (ev_gv (ev_tmp rfl rfl) hc) ev_const)) ?_
  refine a_q rfl rfl rfl (fun w' => (y_and rfl (ev_tmp rfl rfl) (ev_tmp rfl rfl))) ?_
  refine a_q rfl rfl rfl (fun w' => (y_move rfl (ev_tmp rfl rfl))) ?_
  refine a_gval rfl (g_true rfl rfl rfl rfl) rfl (fun hc => fun w' => (y_fieldAddr rfl (ev_tmp rfl rfl) Tryz.underlying27 rfl size_2 rfl)) ?_
  refine a_gread rfl (g_true rfl rfl rfl rfl) rfl (fun hc => fun w' hw' => (y_load1 (v := (Value.int .i64 v1.N)) rfl (ev_gv (ev_tmp rfl rfl) hc) Tryz.underlying2 rfl ((hI.kblk (l := [(Value.int .i64 v1.N)]) .z rfl).at_ (SX.any rfl hw')))) (by kernel_rfl) ?_
  obtain ⟨r1, hx1, h⟩ := bnd_some h
  replace hx1 := gd_some hx1
  refine la_gcallU (v := (Value.bool r1)) rfl (g_true rfl rfl rfl rfl) rfl (fun hc => (r_callF (vs := [(Value.int .i64 v1.N)]) rfl ok_85 ⟨(ev_gv (ev_tmp rfl rfl) hc), trivial⟩)) (fun hc => (c_frac_inRange (Dj F c2) w2 hI.lt v1.N trivial r1 (hx1 hc)).mono fun _ _ k => ⟨k.1, k.2.1⟩) ?_
  intro w3 hx2; replace hI := hI.ext hx2
  refine a_q rfl rfl rfl (fun w' => (y_and rfl (ev_tmp rfl rfl) (ev_tmp rfl rfl))) ?_
  refine a_q rfl rfl rfl (fun w' => (y_move rfl (ev_tmp rfl rfl))) ?_
  refine a_gval rfl (g_true rfl rfl rfl rfl) rfl (fun hc => fun w' => (y_fieldAddr rfl (ev_tmp rfl rfl) Tryz.underlying27 rfl size_2 rfl)) ?_
  refine a_gread rfl (g_true rfl rfl rfl rfl) rfl (fun hc => fun w' hw' => (y_load1 (v := (Value.int .i64 v1.N)) rfl (ev_gv (ev_tmp rfl rfl) hc) Tryz.underlying2 rfl ((hI.kblk (l := [(Value.int .i64 v1.N)]) .z rfl).at_ (SX.any rfl hw')))) (by kernel_rfl) ?_
  refine a_gval rfl (g_true rfl rfl rfl rfl) rfl (fun hc => fun w' => (y_fieldAddr rfl (ev_tmp rfl rfl) Tryz.underlying27 rfl size_2 rfl)) ?_
  refine a_gread rfl (g_true rfl rfl rfl rfl) rfl (fun hc => fun w' hw' => (y_load1 (v := (Value.int .i64 v1.D)) rfl (ev_gv (ev_tmp rfl rfl) hc) Tryz.underlying2 rfl ((hI.kblk (l := [(Value.int .i64 v1.D)]) .z rfl).at_ (SX.any rfl hw')))) (by kernel_rfl) ?_
  refine a_gval rfl (g_true rfl rfl rfl rfl) rfl (fun hc => fun w' => (y_conv rfl (by rw [Tryz.underlying2]; rfl) Tryz.underlying74 (ev_gv (ev_tmp rfl rfl) hc))) ?_
  obtain ⟨r2, hx3, h⟩ := bnd_some h
  replace hx3 := gd_some hx3
  refine la_gcallU (v := (Value.int .u64 r2)) rfl (g_true rfl rfl rfl rfl) rfl (fun hc => (r_callF (vs := [(Value.int .i64 v1.N)]) rfl ok_87 ⟨(ev_gv (ev_tmp rfl rfl) hc), trivial⟩)) (fun hc => (c_frac_magnitude (Dj F c2) w3 hI.lt v1.N trivial r2 (hx3 hc)).mono fun _ _ k => ⟨k.1, k.2.1⟩) ?_
  intro w4 hx4; replace hI := hI.ext hx4
  obtain ⟨r3, hx5, h⟩ := bnd_some h
  replace hx5 := gd_some hx5
  refine la_gcallU (v := (Value.int .u64 r3)) rfl (g_true rfl rfl rfl rfl) rfl (fun hc => (r_callF (vs := [(Value.int .u64 r2), (Value.int .u64 (wu64 v1.D))]) rfl ok_86 ⟨(ev_gv (ev_tmp rfl rfl) hc), ⟨(ev_gv (ev_tmp rfl rfl) hc), trivial⟩⟩)) (fun hc => (c_frac_gcd (Dj F c2) w4 hI.lt r2 (wu64 v1.D) trivial r3 (hx5 hc)).mono fun _ _ k => ⟨k.1, k.2.1⟩) ?_
  intro w5 hx6; replace hI := hI.ext hx6
  refine a_gval rfl (g_true rfl rfl rfl rfl) rfl (fun hc => fun w' => (y_eql rfl (ev_gv (ev_tmp rfl rfl) hc) ev_const)) ?_
  refine a_q rfl rfl rfl (fun w' => (y_and rfl (ev_tmp rfl rfl) (ev_tmp rfl rfl))) ?_
  refine a_q rfl rfl rfl (fun w' => (y_assign rfl (ev_tmp rfl rfl))) ?_
  refine a_nil ?_
  refine k_next (e := [(2, (Value.bool ((((decide (1 ≤ v1.D)) && (decide (v1.D ≤ 2147483647))) && r1) && (decide (r3 = 1)))))]) ⟨rfl, trivial⟩ ?_
  refine c_ret ?_
  obtain rfl := some_inj h
  exact q_ret (vs := [(Value.bool ((((decide (1 ≤ v1.D)) && (decide (v1.D ≤ 2147483647))) && r1) && (decide (r3 = 1))))]) Tryz.results45 ⟨ev_tmp rfl rfl, trivial⟩ ⟨rfl, hI.ext0, hI.fin trivial⟩

set_option maxRecDepth 100000 in
set_option maxHeartbeats 4000000 in
theorem c_value_Valid (F : NP) (w0 : World) (hF : ∀ k, F k → k < w0.heap.size) (t1 : GType) (v1 : GVal) (hc : AllCl [] F w0) (r : Bool)
    (h : m_value_Valid t1 v1 = some r) :
    Calls Tryz.prog 19 #[(Value.agg #[(Value.int .i64 t1.Kind), (Value.int .i64 t1.Bits), (Value.int .i64 t1.Frac), (Value.int .i64 t1.Round), (Value.int .i64 t1.Over)]), (Value.agg #[(Value.int .i64 v1.N), (Value.int .i64 v1.D)])] w0 fun e w => e = .returned (Value.bool r) ∧ Ext w0 w ∧ AllCl [] F w := by
  refine ofEnter (R := fun v w => v = (Value.bool r) ∧ Ext w0 w ∧ AllCl [] F w) (enter (l := [(Value.agg #[(Value.int .i64 t1.Kind), (Value.int .i64 t1.Bits), (Value.int .i64 t1.Frac), (Value.int .i64 t1.Round), (Value.int .i64 t1.Over)]), (Value.agg #[(Value.int .i64 v1.N), (Value.int .i64 v1.D)])]) Tryz.func19 rfl Tryz.ntmps19 rfl ?_) ?_
  rotate_left
  · rintro _ w ⟨rfl, k1, k2⟩; exact ⟨rfl, k1, k2⟩
  have hI := Bun.start hF hc
  clear hc
  rw [m_value_Valid] at h
  refine c_seq ?_
  refine c_region rfl ?_
  refine l_box (v := (Value.agg #[(Value.int .i64 t1.Kind), (Value.int .i64 t1.Bits), (Value.int .i64 t1.Frac), (Value.int .i64 t1.Round), (Value.int .i64 t1.Over)])) (cs := #[(Value.int .i64 t1.Kind), (Value.int .i64 t1.Bits), (Value.int .i64 t1.Frac), (Value.int .i64 t1.Round), (Value.int .i64 t1.Over)]) hI rfl rfl rfl (ev_tmp rfl rfl) rfl ?_
  clear hI; intro b1 c1 w1 hI
  obtain ⟨c2, hI⟩ := hI.relBox .z
  refine l_box (v := (Value.agg #[(Value.int .i64 v1.N), (Value.int .i64 v1.D)])) (cs := #[(Value.int .i64 v1.N), (Value.int .i64 v1.D)]) hI rfl rfl rfl (ev_tmp rfl rfl) rfl ?_
  clear hI; intro b2 c3 w2 hI
  obtain ⟨c4, hI⟩ := hI.relBox .z
  refine s_q rfl rfl (y_assign rfl ev_const) ?_
  refine s_nil ?_
  refine k_next (e := [(2, (Value.pointer (some ⟨b1, 0, none⟩))), (3, (Value.pointer (some ⟨b2, 0, none⟩)))]) ⟨rfl, rfl, trivial⟩ ?_
  refine c_seq ?_
  refine c_seq ?_
  refine c_region rfl ?_
  refine s_q rfl rfl (y_loadN (l := [(Value.int .i64 t1.Kind), (Value.int .i64 t1.Bits), (Value.int .i64 t1.Frac), (Value.int .i64 t1.Round), (Value.int .i64 t1.Over)]) rfl (ev_tmp rfl rfl) Tryz.underlying23 rfl size_23 (hI.kblk (l := [(Value.int .i64 t1.Kind), (Value.int .i64 t1.Bits), (Value.int .i64 t1.Frac), (Value.int .i64 t1.Round), (Value.int .i64 t1.Over)]) (.s .z) rfl).1) ?_
  obtain ⟨r1, hx1, h⟩ := bnd_some h
  refine s_call rfl rfl (r_callF (vs := [(Value.agg #[(Value.int .i64 t1.Kind), (Value.int .i64 t1.Bits), (Value.int .i64 t1.Frac), (Value.int .i64 t1.Round), (Value.int .i64 t1.Over)])]) rfl ok_22 ⟨(ev_tmp rfl rfl), trivial⟩) (Calls.mono (c_value_ValidateType (Dj F c4) w2 hI.lt t1 trivial r1 hx1) ?_)
  rintro _ w3 ⟨rfl, hx2, hl1⟩
  refine ⟨_, rfl, ?_⟩
  replace hI := (hI.ext hx2)
  refine s_q rfl rfl (y_neq rfl (ev_tmp rfl rfl) ev_const) ?_
  refine s_nil ?_
  refine k_next (e := [(2, (Value.pointer (some ⟨b1, 0, none⟩))), (3, (Value.pointer (some ⟨b2, 0, none⟩))), (7, (Value.bool (!decide (r1 = 0))))]) ⟨rfl, rfl, rfl, trivial⟩ ?_
  refine c_cond (b := !decide (r1 = 0)) (ev_tmp rfl rfl) (fun hb => ?_) (fun hb => ?_)
  · replace h := ite_t hb h
    refine c_seq ?_
    refine c_region rfl ?_
    refine s_q rfl rfl (y_assign rfl ev_const) ?_
    refine s_nil ?_
    refine k_next (e := [(4, (Value.bool false))]) ⟨rfl, trivial⟩ ?_
    refine c_ret ?_
    obtain rfl := some_inj h
    exact q_ret (vs := [(Value.bool false)]) Tryz.results19 ⟨ev_tmp rfl rfl, trivial⟩ ⟨rfl, hI.ext0, hI.fin trivial⟩
  · replace h := ite_f hb h
    refine c_skip ?_
    refine k_next (e := [(2, (Value.pointer (some ⟨b1, 0, none⟩))), (3, (Value.pointer (some ⟨b2, 0, none⟩)))]) ⟨rfl, rfl, trivial⟩ ?_
    refine c_seq ?_
    refine c_seq ?_
    refine c_region rfl ?_
    refine s_q rfl rfl (y_fieldAddr rfl (ev_tmp rfl rfl) Tryz.underlying23 rfl size_3 rfl) ?_
    refine s_q rfl rfl (y_load1 (v := (Value.int .i64 t1.Kind)) rfl (ev_tmp rfl rfl) Tryz.underlying3 rfl (hI.kblk (l := [(Value.int .i64 t1.Kind)]) (.s .z) rfl).1) ?_
    refine s_nil ?_
    refine k_next (e := [(2, (Value.pointer (some ⟨b1, 0, none⟩))), (3, (Value.pointer (some ⟨b2, 0, none⟩))), (9, (Value.int .i64 t1.Kind))]) ⟨rfl, rfl, rfl, trivial⟩ ?_
    refine c_block ?_
    refine c_seq ?_
    refine c_region rfl ?_
    refine s_q rfl rfl (y_eql rfl (ev_tmp rfl rfl) ev_const) ?_
    refine s_q rfl rfl (y_assign rfl (ev_tmp rfl rfl)) ?_
    refine s_nil ?_
    refine k_next (e := [(2, (Value.pointer (some ⟨b1, 0, none⟩))), (3, (Value.pointer (some ⟨b2, 0, none⟩))), (9, (Value.int .i64 t1.Kind)), (10, (Value.bool (decide (t1.Kind = 2))))]) ⟨rfl, rfl, rfl, rfl, trivial⟩ ?_
    refine c_cond (b := decide (t1.Kind = 2)) (ev_tmp rfl rfl) (fun hb => ?_) (fun hb => ?_)
    · replace h := ite_t hb h
      refine c_seq ?_
      refine c_region rfl ?_
      refine s_q rfl rfl (y_loadN (l := [(Value.int .i64 t1.Kind), (Value.int .i64 t1.Bits), (Value.int .i64 t1.Frac), (Value.int .i64 t1.Round), (Value.int .i64 t1.Over)]) rfl (ev_tmp rfl rfl) Tryz.underlying23 rfl size_23 (hI.kblk (l := [(Value.int .i64 t1.Kind), (Value.int .i64 t1.Bits), (Value.int .i64 t1.Frac), (Value.int .i64 t1.Round), (Value.int .i64 t1.Over)]) (.s .z) rfl).1) ?_
      refine s_q rfl rfl (y_loadN (l := [(Value.int .i64 v1.N), (Value.int .i64 v1.D)]) rfl (ev_tmp rfl rfl) Tryz.underlying27 rfl size_27 (hI.kblk (l := [(Value.int .i64 v1.N), (Value.int .i64 v1.D)]) .z rfl).1) ?_
      obtain ⟨r2, hx3, h⟩ := bnd_some h
      refine s_call rfl rfl (r_callF (vs := [(Value.agg #[(Value.int .i64 t1.Kind), (Value.int .i64 t1.Bits), (Value.int .i64 t1.Frac), (Value.int .i64 t1.Round), (Value.int .i64 t1.Over)]), (Value.agg #[(Value.int .i64 v1.N), (Value.int .i64 v1.D)])]) rfl ok_31 ⟨(ev_tmp rfl rfl), ⟨(ev_tmp rfl rfl), trivial⟩⟩) (Calls.mono (c_fixed_Valid (Dj F c4) w3 hI.lt t1 v1 trivial r2 hx3) ?_)
      rintro _ w4 ⟨rfl, hx4, hl2⟩
      refine ⟨_, rfl, ?_⟩
      replace hI := (hI.ext hx4)
      refine s_q rfl rfl (y_assign rfl (ev_tmp rfl rfl)) ?_
      refine s_nil ?_
      refine k_next (e := [(4, (Value.bool r2))]) ⟨rfl, trivial⟩ ?_
      refine c_ret ?_
      obtain rfl := some_inj h
      exact q_ret (vs := [(Value.bool r2)]) Tryz.results19 ⟨ev_tmp rfl rfl, trivial⟩ ⟨rfl, hI.ext0, hI.fin trivial⟩
    · replace h := ite_f hb h
      refine c_seq ?_
      refine c_region rfl ?_
      refine s_q rfl rfl (y_eql rfl (ev_tmp rfl rfl) ev_const) ?_
      refine s_q rfl rfl (y_assign rfl (ev_tmp rfl rfl)) ?_
      refine s_nil ?_
      refine k_next (e := [(3, (Value.pointer (some ⟨b2, 0, none⟩))), (15, (Value.bool (decide (t1.Kind = 3))))]) ⟨rfl, rfl, trivial⟩ ?_
      refine c_cond (b := decide (t1.Kind = 3)) (ev_tmp rfl rfl) (fun hb => ?_) (fun hb => ?_)
      · replace h := ite_t hb h
        refine c_seq ?_
        refine c_region rfl ?_
        refine s_q rfl rfl (y_fieldAddr rfl (ev_tmp rfl rfl) Tryz.underlying27 rfl size_2 rfl) ?_
        refine s_q rfl rfl (y_load1 (v := (Value.int .i64 v1.D)) rfl (ev_tmp rfl rfl) Tryz.underlying2 rfl (hI.kblk (l := [(Value.int .i64 v1.D)]) .z rfl).1) ?_
        refine s_q rfl rfl (y_eql rfl (ev_tmp rfl rfl) ev_const) ?_
        refine s_q rfl rfl (y_move rfl (ev_tmp rfl rfl)) ?_
        refine s_gval (g_true rfl rfl rfl rfl) rfl (fun hc => (y_fieldAddr rfl (ev_tmp rfl rfl) Tryz.underlying27 rfl size_2 rfl)) ?_
        refine s_gval (g_true rfl rfl rfl rfl) rfl (fun hc => (y_load1 (v := (Value.int .i64 v1.N)) rfl (ev_gv (ev_tmp rfl rfl) hc) Tryz.underlying2 rfl (hI.kblk (l := [(Value.int .i64 v1.N)]) .z rfl).1)) ?_
        obtain ⟨r3, hx5, h⟩ := bnd_some h
        replace hx5 := gd_some hx5
        refine s_gcallU (v := (Value.bool r3)) (g_true rfl rfl rfl rfl) rfl (fun hc => (r_callF (vs := [(Value.int .i64 v1.N)]) rfl ok_44 ⟨(ev_gv (ev_tmp rfl rfl) hc), trivial⟩)) (fun hc => (c_value_whole (Dj F c4) w3 hI.lt v1.N trivial r3 (hx5 hc)).mono fun _ _ k => ⟨k.1, k.2.1⟩) ?_
        intro w5 hx6; replace hI := hI.ext hx6
        refine s_q rfl rfl (y_and rfl (ev_tmp rfl rfl) (ev_tmp rfl rfl)) ?_
        refine s_q rfl rfl (y_assign rfl (ev_tmp rfl rfl)) ?_
        refine s_nil ?_
        refine k_next (e := [(4, (Value.bool ((decide (v1.D = 1)) && r3)))]) ⟨rfl, trivial⟩ ?_
        refine c_ret ?_
        obtain rfl := some_inj h
        exact q_ret (vs := [(Value.bool ((decide (v1.D = 1)) && r3))]) Tryz.results19 ⟨ev_tmp rfl rfl, trivial⟩ ⟨rfl, hI.ext0, hI.fin trivial⟩
      · replace h := ite_f hb h
        refine c_skip ?_
        refine k_next (e := [(3, (Value.pointer (some ⟨b2, 0, none⟩)))]) ⟨rfl, trivial⟩ ?_
        refine c_seq ?_
        refine c_region rfl ?_
        refine s_q rfl rfl (y_loadN (l := [(Value.int .i64 v1.N), (Value.int .i64 v1.D)]) rfl (ev_tmp rfl rfl) Tryz.underlying27 rfl size_27 (hI.kblk (l := [(Value.int .i64 v1.N), (Value.int .i64 v1.D)]) .z rfl).1) ?_
        obtain ⟨r4, hx7, h⟩ := bnd_some h
        refine s_call rfl rfl (r_callF (vs := [(Value.agg #[(Value.int .i64 v1.N), (Value.int .i64 v1.D)])]) rfl ok_45 ⟨(ev_tmp rfl rfl), trivial⟩) (Calls.mono (c_frac_Valid (Dj F c4) w3 hI.lt v1 trivial r4 hx7) ?_)
        rintro _ w6 ⟨rfl, hx8, hl4⟩
        refine ⟨_, rfl, ?_⟩
        replace hI := (hI.ext hx8)
        refine s_q rfl rfl (y_assign rfl (ev_tmp rfl rfl)) ?_
        refine s_nil ?_
        refine k_next (e := [(4, (Value.bool r4))]) ⟨rfl, trivial⟩ ?_
        refine c_ret ?_
        obtain rfl := some_inj h
        exact q_ret (vs := [(Value.bool r4)]) Tryz.results19 ⟨ev_tmp rfl rfl, trivial⟩ ⟨rfl, hI.ext0, hI.fin trivial⟩

set_option maxRecDepth 100000 in
set_option maxHeartbeats 4000000 in
theorem c_fixed_Neg_1 (F : NP) (w0 : World) (hF : ∀ k, F k → k < w0.heap.size) (a1 : GType) (x1 : Int) (a2 : Int) (hc : AllCl [] F w0) (r : Int × Int)
    (h : m_fixed_Neg_1 a1 x1 a2 = some r) :
    Calls Tryz.prog 102 #[(Value.agg #[(Value.int .i64 a1.Kind), (Value.int .i64 a1.Bits), (Value.int .i64 a1.Frac), (Value.int .i64 a1.Round), (Value.int .i64 a1.Over)]), (Value.int .i64 x1), (Value.int .i64 a2)] w0 fun e w => e = .returned (Value.tuple #[(Value.int .i64 r.1), (Value.int .i64 r.2)]) ∧ Ext w0 w ∧ AllCl [] F w := by
  refine ofEnter (R := fun v w => v = (Value.tuple #[(Value.int .i64 r.1), (Value.int .i64 r.2)]) ∧ Ext w0 w ∧ AllCl [] F w) (enter (l := [(Value.agg #[(Value.int .i64 a1.Kind), (Value.int .i64 a1.Bits), (Value.int .i64 a1.Frac), (Value.int .i64 a1.Round), (Value.int .i64 a1.Over)]), (Value.int .i64 x1), (Value.int .i64 a2)]) Tryz.func102 rfl Tryz.ntmps102 rfl ?_) ?_
  rotate_left
  · rintro _ w ⟨rfl, k1, k2⟩; exact ⟨rfl, k1, k2⟩
  have hI := Bun.start hF hc
  clear hc
  rw [m_fixed_Neg_1] at h
  refine c_seq ?_
  refine c_region rfl ?_
  refine l_box (v := (Value.agg #[(Value.int .i64 a1.Kind), (Value.int .i64 a1.Bits), (Value.int .i64 a1.Frac), (Value.int .i64 a1.Round), (Value.int .i64 a1.Over)])) (cs := #[(Value.int .i64 a1.Kind), (Value.int .i64 a1.Bits), (Value.int .i64 a1.Frac), (Value.int .i64 a1.Round), (Value.int .i64 a1.Over)]) hI rfl rfl rfl (ev_tmp rfl rfl) rfl ?_
  clear hI; intro b1 c1 w1 hI
  obtain ⟨c2, hI⟩ := hI.relBox .z
  refine s_q rfl rfl (y_assign rfl ev_const) ?_
  refine s_q rfl rfl (y_assign rfl ev_const) ?_
  refine s_nil ?_
  refine k_next (e := [(1, (Value.int .i64 x1))]) ⟨rfl, trivial⟩ ?_
  refine c_seq ?_
  refine c_region rfl ?_
  refine s_q rfl rfl (y_move rfl (ev_tmp rfl rfl)) ?_
  refine s_q rfl rfl (y_neg rfl (ev_tmp rfl rfl)) ?_
  refine s_q rfl rfl (y_assign rfl (ev_tmp rfl rfl)) ?_
  refine s_q rfl rfl (y_assign rfl ev_const) ?_
  refine s_nil ?_
  refine k_next (e := [(6, (Value.int .i64 (wi64 (-x1)))), (7, (Value.int .i64 0))]) ⟨rfl, rfl, trivial⟩ ?_
  refine c_ret ?_
  obtain rfl := some_inj h
  exact q_ret (vs := [(Value.int .i64 (wi64 (-x1))), (Value.int .i64 0)]) Tryz.results102 ⟨ev_tmp rfl rfl, ⟨ev_tmp rfl rfl, trivial⟩⟩ ⟨rfl, hI.ext0, hI.fin trivial⟩

set_option maxRecDepth 100000 in
set_option maxHeartbeats 4000000 in
theorem c_fixed_check (F : NP) (w0 : World) (hF : ∀ k, F k → k < w0.heap.size) (t1 : GType) (operands1 : List GVal) (a1 : Option Addr) (c1 : Nat) (hc : AllCl [Cl.sl cGVal a1 c1 operands1] F w0) (r : Int)
    (h : m_fixed_check t1 operands1 = some r) :
    Calls Tryz.prog 97 #[(Value.agg #[(Value.int .i64 t1.Kind), (Value.int .i64 t1.Bits), (Value.int .i64 t1.Frac), (Value.int .i64 t1.Round), (Value.int .i64 t1.Over)]), (Value.slice a1 operands1.length c1)] w0 fun e w => e = .returned (Value.int .i64 r) ∧ Ext w0 w ∧ AllCl [] F w := by
  refine ofEnter (R := fun v w => v = (Value.int .i64 r) ∧ Ext w0 w ∧ AllCl [] F w) (enter (l := [(Value.agg #[(Value.int .i64 t1.Kind), (Value.int .i64 t1.Bits), (Value.int .i64 t1.Frac), (Value.int .i64 t1.Round), (Value.int .i64 t1.Over)]), (Value.slice a1 operands1.length c1)]) Tryz.func97 rfl Tryz.ntmps97 rfl ?_) ?_
  rotate_left
  · rintro _ w ⟨rfl, k1, k2⟩; exact ⟨rfl, k1, k2⟩
  have hI := Bun.start hF hc
  clear hc
  rw [m_fixed_check] at h
  refine c_seq ?_
  refine c_region rfl ?_
  refine l_box (v := (Value.agg #[(Value.int .i64 t1.Kind), (Value.int .i64 t1.Bits), (Value.int .i64 t1.Frac), (Value.int .i64 t1.Round), (Value.int .i64 t1.Over)])) (cs := #[(Value.int .i64 t1.Kind), (Value.int .i64 t1.Bits), (Value.int .i64 t1.Frac), (Value.int .i64 t1.Round), (Value.int .i64 t1.Over)]) hI rfl rfl rfl (ev_tmp rfl rfl) rfl ?_
  clear hI; intro b1 c2 w1 hI
  obtain ⟨c3, hI⟩ := hI.relBox .z
  refine s_q rfl rfl (y_assign rfl ev_const) ?_
  refine s_nil ?_
  refine k_next (e := [(1, (Value.slice a1 operands1.length c1)), (2, (Value.pointer (some ⟨b1, 0, none⟩)))]) ⟨rfl, rfl, trivial⟩ ?_
  refine c_seq ?_
  refine c_seq ?_
  refine c_region rfl ?_
  refine s_q rfl rfl (y_loadN (l := [(Value.int .i64 t1.Kind), (Value.int .i64 t1.Bits), (Value.int .i64 t1.Frac), (Value.int .i64 t1.Round), (Value.int .i64 t1.Over)]) rfl (ev_tmp rfl rfl) Tryz.underlying23 rfl size_23 (hI.kblk (l := [(Value.int .i64 t1.Kind), (Value.int .i64 t1.Bits), (Value.int .i64 t1.Frac), (Value.int .i64 t1.Round), (Value.int .i64 t1.Over)]) .z rfl).1) ?_
  obtain ⟨r1, hx1, h⟩ := bnd_some h
  refine s_call rfl rfl (r_callF (vs := [(Value.agg #[(Value.int .i64 t1.Kind), (Value.int .i64 t1.Bits), (Value.int .i64 t1.Frac), (Value.int .i64 t1.Round), (Value.int .i64 t1.Over)])]) rfl ok_47 ⟨(ev_tmp rfl rfl), trivial⟩) (Calls.mono (c_fixed_ValidateType (Dj F c3) w1 hI.lt t1 trivial r1 hx1) ?_)
  rintro _ w2 ⟨rfl, hx2, hl1⟩
  refine ⟨_, rfl, ?_⟩
  replace hI := (hI.ext hx2)
  refine s_q rfl rfl (y_assign rfl (ev_tmp rfl rfl)) ?_
  refine s_nil ?_
  refine k_next (e := [(1, (Value.slice a1 operands1.length c1)), (2, (Value.pointer (some ⟨b1, 0, none⟩))), (5, (Value.int .i64 r1))]) ⟨rfl, rfl, rfl, trivial⟩ ?_
  refine c_seq ?_
  refine c_region rfl ?_
  refine s_q rfl rfl (y_move rfl (ev_tmp rfl rfl)) ?_
  refine s_q rfl rfl (y_neq rfl (ev_tmp rfl rfl) ev_const) ?_
  refine s_nil ?_
  refine k_next (e := [(1, (Value.slice a1 operands1.length c1)), (2, (Value.pointer (some ⟨b1, 0, none⟩))), (5, (Value.int .i64 r1)), (11, (Value.bool (!decide (r1 = 0))))]) ⟨rfl, rfl, rfl, rfl, trivial⟩ ?_
  refine c_cond (b := !decide (r1 = 0)) (ev_tmp rfl rfl) (fun hb => ?_) (fun hb => ?_)
  · replace h := ite_t hb h
    refine c_seq ?_
    refine c_region rfl ?_
    refine s_q rfl rfl (y_move rfl (ev_tmp rfl rfl)) ?_
    refine s_q rfl rfl (y_assign rfl (ev_tmp rfl rfl)) ?_
    refine s_nil ?_
    refine k_next (e := [(4, (Value.int .i64 r1))]) ⟨rfl, trivial⟩ ?_
    refine c_ret ?_
    obtain rfl := some_inj h
    exact q_ret (vs := [(Value.int .i64 r1)]) Tryz.results97 ⟨ev_tmp rfl rfl, trivial⟩ ⟨rfl, hI.ext0, hI.fin trivial⟩
  · replace h := ite_f hb h
    refine c_skip ?_
    refine k_next (e := [(1, (Value.slice a1 operands1.length c1)), (2, (Value.pointer (some ⟨b1, 0, none⟩)))]) ⟨rfl, rfl, trivial⟩ ?_
    refine c_seq ?_
    refine c_seq ?_
    refine c_region rfl ?_
    refine s_q rfl rfl (y_move rfl (ev_tmp rfl rfl)) ?_
    refine s_q rfl rfl (y_lenl rfl Tryz.underlying24 (ev_tmp rfl rfl)) ?_
    refine s_q rfl rfl (y_move rfl ev_const) ?_
    refine s_nil ?_
    refine k_next (e := [(2, (Value.pointer (some ⟨b1, 0, none⟩))), (13, (Value.slice a1 operands1.length c1)), (14, (Value.int .i64 (operands1.length : Int))), (15, (Value.int .i64 0))]) ⟨rfl, rfl, rfl, rfl, trivial⟩ ?_
    refine c_block ?_
    refine c_loop (α := Nat × Int) (fun x => fun w => ∃ C, Bun noM F w0 C w [] [Cl.blk b1 23 #[(Value.int .i64 t1.Kind), (Value.int .i64 t1.Bits), (Value.int .i64 t1.Frac), (Value.int .i64 t1.Round), (Value.int .i64 t1.Over)], Cl.sl cGVal a1 c1 operands1] ∧ m_fixed_check_l1 operands1 t1 (x.1) (x.2) = some r) (fun x _ => x.1) (fun x => [(2, (Value.pointer (some ⟨b1, 0, none⟩))), (13, (Value.slice a1 operands1.length c1)), (14, (Value.int .i64 (operands1.length : Int))), (15, (Value.int .i64 (x.2)))]) (fu, 0) ⟨_, hI.arr .n ⟨.z, (.s .z), trivial⟩, h⟩ ⟨rfl, rfl, rfl, rfl, trivial⟩ ?_
    clear h hI; rintro ⟨fuel1, i1⟩ w3 ⟨c4, hI, h⟩
    dsimp only at hI h
    rcases fuel1 with _ | fuel1
    · rw [m_fixed_check_l1] at h; cases h
    rw [m_fixed_check_l1] at h
    refine c_sub (e := [(2, (Value.pointer (some ⟨b1, 0, none⟩))), (13, (Value.slice a1 operands1.length c1)), (14, (Value.int .i64 (operands1.length : Int))), (15, (Value.int .i64 i1))]) ⟨rfl, rfl, rfl, rfl, trivial⟩ ?_
    refine c_seq ?_
    refine c_region rfl ?_
    refine s_q rfl rfl (y_lss rfl (ev_tmp rfl rfl) (ev_tmp rfl rfl)) ?_
    refine s_nil ?_
    refine k_next (e := [(2, (Value.pointer (some ⟨b1, 0, none⟩))), (13, (Value.slice a1 operands1.length c1)), (14, (Value.int .i64 (operands1.length : Int))), (15, (Value.int .i64 i1)), (16, (Value.bool (decide (i1 < (operands1.length : Int)))))]) ⟨rfl, rfl, rfl, rfl, rfl, trivial⟩ ?_
    refine c_seq ?_
    refine c_cond (b := decide (i1 < (operands1.length : Int))) (ev_tmp rfl rfl) (fun hb => ?_) (fun hb => ?_)
    · replace h := ite_t hb h
      refine c_skip ?_
      refine k_next (e := [(2, (Value.pointer (some ⟨b1, 0, none⟩))), (13, (Value.slice a1 operands1.length c1)), (14, (Value.int .i64 (operands1.length : Int))), (15, (Value.int .i64 i1))]) ⟨rfl, rfl, rfl, rfl, trivial⟩ ?_
      refine c_seq ?_
      refine c_block ?_
      refine c_seq ?_
      refine c_region rfl ?_
      obtain ⟨e1, hx3, h⟩ := bnd_some h
      obtain ⟨ad1, cs1, hA1, hr1, hq1⟩ := hI.clat (.s .z) hx3
      obtain rfl : cs1 = [(Value.int .i64 e1.N), (Value.int .i64 e1.D)] := hr1
      refine s_q rfl rfl (y_indexAddr rfl Tryz.underlying24 size_27 (ev_tmp rfl rfl) (ev_tmp rfl rfl) (lat_bd hx3) hA1) ?_
      refine s_q rfl rfl (y_loadN (l := [(Value.int .i64 e1.N), (Value.int .i64 e1.D)]) rfl (ev_tmp rfl rfl) Tryz.underlying27 rfl size_27 hq1.1) ?_
      refine l_alloc (cs := #[(Value.int .i64 0), (Value.int .i64 0)]) hI rfl rfl rfl zero_27 rfl ?_
      clear hI; intro b2 c5 w4 hI
      refine l_store (new := [(Value.int .i64 e1.N), (Value.int .i64 e1.D)]) (cs' := #[(Value.int .i64 e1.N), (Value.int .i64 e1.D)]) hI .z rfl rfl rfl (ev_tmp rfl rfl) (ev_tmp rfl rfl) rfl size_27 rfl rfl rfl ?_
      clear hI; intro c6 w5 hI
      refine s_nil ?_
      refine k_next (e := [(2, (Value.pointer (some ⟨b1, 0, none⟩))), (13, (Value.slice a1 operands1.length c1)), (14, (Value.int .i64 (operands1.length : Int))), (15, (Value.int .i64 i1)), (7, (Value.pointer (some ⟨b2, 0, none⟩)))]) ⟨rfl, rfl, rfl, rfl, rfl, trivial⟩ ?_
      refine c_seq ?_
      refine c_region rfl ?_
      refine s_q rfl rfl (y_loadN (l := [(Value.int .i64 t1.Kind), (Value.int .i64 t1.Bits), (Value.int .i64 t1.Frac), (Value.int .i64 t1.Round), (Value.int .i64 t1.Over)]) rfl (ev_tmp rfl rfl) Tryz.underlying23 rfl size_23 (hI.kblk (l := [(Value.int .i64 t1.Kind), (Value.int .i64 t1.Bits), (Value.int .i64 t1.Frac), (Value.int .i64 t1.Round), (Value.int .i64 t1.Over)]) .z rfl).1) ?_
      refine s_q rfl rfl (y_loadN (l := [(Value.int .i64 e1.N), (Value.int .i64 e1.D)]) rfl (ev_tmp rfl rfl) Tryz.underlying27 rfl size_27 (CellsAt.of_blk (hI.blk .z) rfl)) ?_
      obtain ⟨r2, hx4, h⟩ := bnd_some h
      refine s_call rfl rfl (r_callF (vs := [(Value.agg #[(Value.int .i64 t1.Kind), (Value.int .i64 t1.Bits), (Value.int .i64 t1.Frac), (Value.int .i64 t1.Round), (Value.int .i64 t1.Over)]), (Value.agg #[(Value.int .i64 e1.N), (Value.int .i64 e1.D)])]) rfl ok_31 ⟨(ev_tmp rfl rfl), ⟨(ev_tmp rfl rfl), trivial⟩⟩) (Calls.mono (c_fixed_Valid (Dj F c6) w5 hI.lt t1 e1 trivial r2 hx4) ?_)
      rintro _ w6 ⟨rfl, hx5, hl2⟩
      refine ⟨_, rfl, ?_⟩
      replace hI := (hI.ext hx5)
      refine s_q rfl rfl (y_not rfl (ev_tmp rfl rfl)) ?_
      refine s_nil ?_
      refine k_next (e := [(2, (Value.pointer (some ⟨b1, 0, none⟩))), (13, (Value.slice a1 operands1.length c1)), (14, (Value.int .i64 (operands1.length : Int))), (15, (Value.int .i64 i1)), (22, (Value.bool (!r2)))]) ⟨rfl, rfl, rfl, rfl, rfl, trivial⟩ ?_
      refine c_cond (b := !r2) (ev_tmp rfl rfl) (fun hb => ?_) (fun hb => ?_)
      · replace h := ite_t hb h
        refine c_seq ?_
        refine c_region rfl ?_
        refine s_q rfl rfl (y_assign rfl ev_const) ?_
        refine s_nil ?_
        refine k_next (e := [(4, (Value.int .i64 1))]) ⟨rfl, trivial⟩ ?_
        refine c_ret ?_
        obtain rfl := some_inj h
        exact q_ret (vs := [(Value.int .i64 1)]) Tryz.results97 ⟨ev_tmp rfl rfl, trivial⟩ ⟨rfl, hI.ext0, hI.fin trivial⟩
      · replace h := ite_f hb h
        refine c_skip ?_
        refine k_next (e := [(2, (Value.pointer (some ⟨b1, 0, none⟩))), (13, (Value.slice a1 operands1.length c1)), (14, (Value.int .i64 (operands1.length : Int))), (15, (Value.int .i64 i1))]) ⟨rfl, rfl, rfl, rfl, trivial⟩ ?_
        refine c_region rfl ?_
        refine s_q rfl rfl (y_add rfl (ev_tmp rfl rfl) ev_const) ?_
        refine s_q rfl rfl (y_move rfl (ev_tmp rfl rfl)) ?_
        refine s_nil ?_
        exact k_loop (fuel1, wi64 (i1 + 1)) ⟨rfl, rfl, rfl, rfl, trivial⟩ ⟨_, hI.arr .n ⟨.z, (.s .z), trivial⟩, h⟩ (Nat.lt_succ_self _)
    · replace h := ite_f hb h
      refine c_exit ?_
      refine k_in ?_
      refine k_next (e := []) trivial ?_
      refine c_seq ?_
      refine c_region rfl ?_
      refine s_q rfl rfl (y_assign rfl ev_const) ?_
      refine s_nil ?_
      refine k_next (e := [(4, (Value.int .i64 0))]) ⟨rfl, trivial⟩ ?_
      refine c_ret ?_
      obtain rfl := some_inj h
      exact q_ret (vs := [(Value.int .i64 0)]) Tryz.results97 ⟨ev_tmp rfl rfl, trivial⟩ ⟨rfl, hI.ext0, hI.fin trivial⟩

set_option maxRecDepth 100000 in
set_option maxHeartbeats 4000000 in
theorem c_round_Narrow (F : NP) (w0 : World) (hF : ∀ k, F k → k < w0.heap.size) (n1 : Int) (bits1 : Int) (over1 : Int) (hc : AllCl [] F w0) (r : Int × Bool)
    (h : m_round_Narrow n1 bits1 over1 = some r) :
    Calls Tryz.prog 110 #[(Value.int .i64 n1), (Value.int .i64 bits1), (Value.int .i64 over1)] w0 fun e w => e = .returned (Value.tuple #[(Value.int .i64 r.1), (Value.bool r.2)]) ∧ Ext w0 w ∧ AllCl [] F w := by
  refine ofEnter (R := fun v w => v = (Value.tuple #[(Value.int .i64 r.1), (Value.bool r.2)]) ∧ Ext w0 w ∧ AllCl [] F w) (enter (l := [(Value.int .i64 n1), (Value.int .i64 bits1), (Value.int .i64 over1)]) Tryz.func110 rfl Tryz.ntmps110 rfl ?_) ?_
  rotate_left
  · rintro _ w ⟨rfl, k1, k2⟩; exact ⟨rfl, k1, k2⟩
  have hI := Bun.start hF hc
  clear hc
  rw [m_round_Narrow] at h
  refine c_seq ?_
  refine c_region rfl ?_
  refine s_q rfl rfl (y_assign rfl ev_const) ?_
  refine s_q rfl rfl (y_assign rfl ev_const) ?_
  refine s_nil ?_
  refine k_next (e := [(0, (Value.int .i64 n1)), (1, (Value.int .i64 bits1)), (2, (Value.int .i64 over1))]) ⟨rfl, rfl, rfl, trivial⟩ ?_
  refine c_seq ?_
  refine c_seq ?_
  refine c_region rfl ?_
  refine s_q rfl rfl (y_move rfl (ev_tmp rfl rfl)) ?_
  obtain ⟨r1, hx1, h⟩ := bnd_some h
  refine s_call rfl rfl (r_callF (vs := [(Value.int .i64 bits1)]) rfl ok_95 ⟨(ev_tmp rfl rfl), trivial⟩) (Calls.mono (c_round_valid (Dj F noM) w0 hI.lt bits1 trivial r1 hx1) ?_)
  rintro _ w1 ⟨rfl, hx2, hl1⟩
  refine ⟨_, rfl, ?_⟩
  replace hI := (hI.ext hx2)
  refine s_q rfl rfl (y_not rfl (ev_tmp rfl rfl)) ?_
  refine s_q rfl rfl (y_move rfl (ev_tmp rfl rfl)) ?_
  refine s_gval (g_false rfl rfl rfl rfl) rfl (fun hc => (y_move rfl (ev_tmp rfl rfl))) ?_
  refine s_gval (g_false rfl rfl rfl rfl) rfl (fun hc => (y_neq rfl (ev_gv (ev_tmp rfl rfl) hc) ev_const)) ?_
  refine s_gval (g_false rfl rfl rfl rfl) rfl (fun hc => (y_move rfl (ev_gv (ev_tmp rfl rfl) hc))) ?_
  refine s_gval (g_true2 rfl rfl rfl rfl) rfl (fun hc => (y_move rfl (ev_tmp rfl rfl))) ?_
  refine s_gval (g_true2 rfl rfl rfl rfl) rfl (fun hc => (y_neq rfl (ev_gv (ev_tmp rfl rfl) hc) ev_const)) ?_
  refine s_gval (g_false rfl rfl rfl rfl) rfl (fun hc => (y_and2 rfl hc (ev_tmp rfl rfl) (ev_tmp rfl rfl))) ?_
  refine s_q rfl rfl (y_or rfl (ev_tmp rfl rfl) (ev_tmp rfl rfl)) ?_
  refine s_nil ?_
  refine k_next (e := [(0, (Value.int .i64 n1)), (1, (Value.int .i64 bits1)), (2, (Value.int .i64 over1)), (21, (Value.bool ((!r1) || ((!decide (over1 = 1)) && (!decide (over1 = 2))))))]) ⟨rfl, rfl, rfl, rfl, trivial⟩ ?_
  refine c_cond (b := (!r1) || ((!decide (over1 = 1)) && (!decide (over1 = 2)))) (ev_tmp rfl rfl) (fun hb => ?_) (fun hb => ?_)
  · replace h := ite_t hb h
    refine c_seq ?_
    refine c_region rfl ?_
    refine s_q rfl rfl (y_assign rfl ev_const) ?_
    refine s_q rfl rfl (y_assign rfl ev_const) ?_
    refine s_nil ?_
    refine k_next (e := [(6, (Value.int .i64 0)), (7, (Value.bool false))]) ⟨rfl, rfl, trivial⟩ ?_
    refine c_ret ?_
    obtain rfl := some_inj h
    exact q_ret (vs := [(Value.int .i64 0), (Value.bool false)]) Tryz.results110 ⟨ev_tmp rfl rfl, ⟨ev_tmp rfl rfl, trivial⟩⟩ ⟨rfl, hI.ext0, hI.fin trivial⟩
  · replace h := ite_f hb h
    refine c_skip ?_
    refine k_next (e := [(0, (Value.int .i64 n1)), (1, (Value.int .i64 bits1)), (2, (Value.int .i64 over1))]) ⟨rfl, rfl, rfl, trivial⟩ ?_
    refine c_seq ?_
    refine c_region rfl ?_
    refine s_q rfl rfl (y_move rfl (ev_tmp rfl rfl)) ?_
    obtain ⟨r2, hx3, h⟩ := bnd_some h
    refine s_call rfl rfl (r_callF (vs := [(Value.int .i64 bits1)]) rfl ok_61 ⟨(ev_tmp rfl rfl), trivial⟩) (Calls.mono (c_round_MinInt (Dj F noM) w1 hI.lt bits1 trivial r2 hx3) ?_)
    rintro _ w2 ⟨rfl, hx4, hl2⟩
    refine ⟨_, rfl, ?_⟩
    replace hI := (hI.ext hx4)
    refine s_q rfl rfl (y_move rfl (ev_tmp rfl rfl)) ?_
    obtain ⟨r3, hx5, h⟩ := bnd_some h
    refine s_call rfl rfl (r_callF (vs := [(Value.int .i64 bits1)]) rfl ok_62 ⟨(ev_tmp rfl rfl), trivial⟩) (Calls.mono (c_round_MaxInt (Dj F noM) w2 hI.lt bits1 trivial r3 hx5) ?_)
    rintro _ w3 ⟨rfl, hx6, hl3⟩
    refine ⟨_, rfl, ?_⟩
    replace hI := (hI.ext hx6)
    refine s_q rfl rfl (y_assign rfl (ev_tmp rfl rfl)) ?_
    refine s_q rfl rfl (y_assign rfl (ev_tmp rfl rfl)) ?_
    refine s_nil ?_
    refine k_next (e := [(0, (Value.int .i64 n1)), (1, (Value.int .i64 bits1)), (2, (Value.int .i64 over1)), (8, (Value.int .i64 r2)), (9, (Value.int .i64 r3))]) ⟨rfl, rfl, rfl, rfl, rfl, trivial⟩ ?_
    refine c_seq ?_
    refine c_block ?_
    refine c_seq ?_
    refine c_region rfl ?_
    refine s_q rfl rfl (y_move rfl (ev_tmp rfl rfl)) ?_
    refine s_q rfl rfl (y_move rfl (ev_tmp rfl rfl)) ?_
    refine s_q rfl rfl (y_geq rfl (ev_tmp rfl rfl) (ev_tmp rfl rfl)) ?_
    refine s_q rfl rfl (y_move rfl (ev_tmp rfl rfl)) ?_
    refine s_gval (g_true rfl rfl rfl rfl) rfl (fun hc => (y_move rfl (ev_tmp rfl rfl))) ?_
    refine s_gval (g_true rfl rfl rfl rfl) rfl (fun hc => (y_move rfl (ev_tmp rfl rfl))) ?_
    refine s_gval (g_true rfl rfl rfl rfl) rfl (fun hc => (y_leq rfl (ev_gv (ev_tmp rfl rfl) hc) (ev_gv (ev_tmp rfl rfl) hc))) ?_
    refine s_q rfl rfl (y_and rfl (ev_tmp rfl rfl) (ev_tmp rfl rfl)) ?_
    refine s_q rfl rfl (y_assign rfl (ev_tmp rfl rfl)) ?_
    refine s_nil ?_
    refine k_next (e := [(0, (Value.int .i64 n1)), (1, (Value.int .i64 bits1)), (2, (Value.int .i64 over1)), (8, (Value.int .i64 r2)), (9, (Value.int .i64 r3)), (26, (Value.bool ((decide (r2 ≤ n1)) && (decide (n1 ≤ r3)))))]) ⟨rfl, rfl, rfl, rfl, rfl, rfl, trivial⟩ ?_
    refine c_cond (b := (decide (r2 ≤ n1)) && (decide (n1 ≤ r3))) (ev_tmp rfl rfl) (fun hb => ?_) (fun hb => ?_)
    · replace h := ite_t hb h
      refine c_seq ?_
      refine c_region rfl ?_
      refine s_q rfl rfl (y_move rfl (ev_tmp rfl rfl)) ?_
      refine s_q rfl rfl (y_assign rfl (ev_tmp rfl rfl)) ?_
      refine s_q rfl rfl (y_assign rfl ev_const) ?_
      refine s_nil ?_
      refine k_next (e := [(6, (Value.int .i64 n1)), (7, (Value.bool false))]) ⟨rfl, rfl, trivial⟩ ?_
      refine c_ret ?_
      obtain rfl := some_inj h
      exact q_ret (vs := [(Value.int .i64 n1), (Value.bool false)]) Tryz.results110 ⟨ev_tmp rfl rfl, ⟨ev_tmp rfl rfl, trivial⟩⟩ ⟨rfl, hI.ext0, hI.fin trivial⟩
    · replace h := ite_f hb h
      refine c_seq ?_
      refine c_region rfl ?_
      refine s_q rfl rfl (y_move rfl (ev_tmp rfl rfl)) ?_
      refine s_q rfl rfl (y_eql rfl (ev_tmp rfl rfl) ev_const) ?_
      refine s_q rfl rfl (y_move rfl (ev_tmp rfl rfl)) ?_
      refine s_gval (g_true rfl rfl rfl rfl) rfl (fun hc => (y_move rfl (ev_tmp rfl rfl))) ?_
      refine s_gval (g_true rfl rfl rfl rfl) rfl (fun hc => (y_move rfl (ev_tmp rfl rfl))) ?_
      refine s_gval (g_true rfl rfl rfl rfl) rfl (fun hc => (y_lss rfl (ev_gv (ev_tmp rfl rfl) hc) (ev_gv (ev_tmp rfl rfl) hc))) ?_
      refine s_q rfl rfl (y_and rfl (ev_tmp rfl rfl) (ev_tmp rfl rfl)) ?_
      refine s_q rfl rfl (y_assign rfl (ev_tmp rfl rfl)) ?_
      refine s_nil ?_
      refine k_next (e := [(0, (Value.int .i64 n1)), (1, (Value.int .i64 bits1)), (2, (Value.int .i64 over1)), (8, (Value.int .i64 r2)), (9, (Value.int .i64 r3)), (36, (Value.bool ((decide (over1 = 1)) && (decide (n1 < r2)))))]) ⟨rfl, rfl, rfl, rfl, rfl, rfl, trivial⟩ ?_
      refine c_cond (b := (decide (over1 = 1)) && (decide (n1 < r2))) (ev_tmp rfl rfl) (fun hb => ?_) (fun hb => ?_)
      · replace h := ite_t hb h
        refine c_seq ?_
        refine c_region rfl ?_
        refine s_q rfl rfl (y_move rfl (ev_tmp rfl rfl)) ?_
        refine s_q rfl rfl (y_assign rfl (ev_tmp rfl rfl)) ?_
        refine s_q rfl rfl (y_assign rfl ev_const) ?_
        refine s_nil ?_
        refine k_next (e := [(6, (Value.int .i64 r2)), (7, (Value.bool true))]) ⟨rfl, rfl, trivial⟩ ?_
        refine c_ret ?_
        obtain rfl := some_inj h
        exact q_ret (vs := [(Value.int .i64 r2), (Value.bool true)]) Tryz.results110 ⟨ev_tmp rfl rfl, ⟨ev_tmp rfl rfl, trivial⟩⟩ ⟨rfl, hI.ext0, hI.fin trivial⟩
      · replace h := ite_f hb h
        refine c_seq ?_
        refine c_region rfl ?_
        refine s_q rfl rfl (y_move rfl (ev_tmp rfl rfl)) ?_
        refine s_q rfl rfl (y_eql rfl (ev_tmp rfl rfl) ev_const) ?_
        refine s_q rfl rfl (y_assign rfl (ev_tmp rfl rfl)) ?_
        refine s_nil ?_
        refine k_next (e := [(0, (Value.int .i64 n1)), (1, (Value.int .i64 bits1)), (9, (Value.int .i64 r3)), (45, (Value.bool (decide (over1 = 1))))]) ⟨rfl, rfl, rfl, rfl, trivial⟩ ?_
        refine c_cond (b := decide (over1 = 1)) (ev_tmp rfl rfl) (fun hb => ?_) (fun hb => ?_)
        · replace h := ite_t hb h
          refine c_seq ?_
          refine c_region rfl ?_
          refine s_q rfl rfl (y_move rfl (ev_tmp rfl rfl)) ?_
          refine s_q rfl rfl (y_assign rfl (ev_tmp rfl rfl)) ?_
          refine s_q rfl rfl (y_assign rfl ev_const) ?_
          refine s_nil ?_
          refine k_next (e := [(6, (Value.int .i64 r3)), (7, (Value.bool true))]) ⟨rfl, rfl, trivial⟩ ?_
          refine c_ret ?_
          obtain rfl := some_inj h
          exact q_ret (vs := [(Value.int .i64 r3), (Value.bool true)]) Tryz.results110 ⟨ev_tmp rfl rfl, ⟨ev_tmp rfl rfl, trivial⟩⟩ ⟨rfl, hI.ext0, hI.fin trivial⟩
        · replace h := ite_f hb h
          refine c_skip ?_
          refine k_next (e := [(0, (Value.int .i64 n1)), (1, (Value.int .i64 bits1))]) ⟨rfl, rfl, trivial⟩ ?_
          refine c_seq ?_
          refine c_region rfl ?_
          refine s_q rfl rfl (y_move rfl (ev_tmp rfl rfl)) ?_
          refine s_q rfl rfl (y_sub rfl ev_const (ev_tmp rfl rfl)) ?_
          refine s_q rfl rfl (y_conv rfl (by rw [Tryz.underlying3]; rfl) Tryz.underlying77 (ev_tmp rfl rfl)) ?_
          refine s_q rfl rfl (y_assign rfl (ev_tmp rfl rfl)) ?_
          refine s_nil ?_
          refine k_next (e := [(0, (Value.int .i64 n1)), (10, (Value.int .u64 (wu64 (wi64 (64 - bits1)))))]) ⟨rfl, rfl, trivial⟩ ?_
          refine c_seq ?_
          refine c_region rfl ?_
          refine s_q rfl rfl (y_move rfl (ev_tmp rfl rfl)) ?_
          refine s_q rfl rfl (y_conv rfl (by rw [Tryz.underlying2]; rfl) Tryz.underlying74 (ev_tmp rfl rfl)) ?_
          refine s_q rfl rfl (y_move rfl (ev_tmp rfl rfl)) ?_
          obtain ⟨ho1, h⟩ := chk_some h
          refine s_q rfl rfl (y_shl rfl (ev_tmp rfl rfl) (ev_tmp rfl rfl) ho1) ?_
          refine s_q rfl rfl (y_conv rfl (by rw [Tryz.underlying74]; rfl) Tryz.underlying2 (ev_tmp rfl rfl)) ?_
          refine s_q rfl rfl (y_move rfl (ev_tmp rfl rfl)) ?_
          refine s_q rfl rfl (y_shr rfl (ev_tmp rfl rfl) (ev_tmp rfl rfl) ho1) ?_
          refine s_q rfl rfl (y_assign rfl (ev_tmp rfl rfl)) ?_
          refine s_q rfl rfl (y_assign rfl ev_const) ?_
          refine s_nil ?_
          refine k_next (e := [(6, (Value.int .i64 (Int.fdiv (wi64 (wu64 ((wu64 n1) * 2 ^ (min (Int.toNat (wu64 (wi64 (64 - bits1)))) 64)))) (2 ^ (min (Int.toNat (wu64 (wi64 (64 - bits1)))) 64))))), (7, (Value.bool true))]) ⟨rfl, rfl, trivial⟩ ?_
          refine c_ret ?_
          obtain rfl := some_inj h
          exact q_ret (vs := [(Value.int .i64 (Int.fdiv (wi64 (wu64 ((wu64 n1) * 2 ^ (min (Int.toNat (wu64 (wi64 (64 - bits1)))) 64)))) (2 ^ (min (Int.toNat (wu64 (wi64 (64 - bits1)))) 64)))), (Value.bool true)]) Tryz.results110 ⟨ev_tmp rfl rfl, ⟨ev_tmp rfl rfl, trivial⟩⟩ ⟨rfl, hI.ext0, hI.fin trivial⟩

set_option maxRecDepth 100000 in
set_option maxHeartbeats 4000000 in
theorem c_fixed_narrow (F : NP) (w0 : World) (hF : ∀ k, F k → k < w0.heap.size) (t1 : GType) (n1 : Int) (hc : AllCl [] F w0) (r : GVal)
    (h : m_fixed_narrow t1 n1 = some r) :
    Calls Tryz.prog 84 #[(Value.agg #[(Value.int .i64 t1.Kind), (Value.int .i64 t1.Bits), (Value.int .i64 t1.Frac), (Value.int .i64 t1.Round), (Value.int .i64 t1.Over)]), (Value.int .i64 n1)] w0 fun e w => e = .returned (Value.agg #[(Value.int .i64 r.N), (Value.int .i64 r.D)]) ∧ Ext w0 w ∧ AllCl [] F w := by
  refine ofEnter (R := fun v w => v = (Value.agg #[(Value.int .i64 r.N), (Value.int .i64 r.D)]) ∧ Ext w0 w ∧ AllCl [] F w) (enter (l := [(Value.agg #[(Value.int .i64 t1.Kind), (Value.int .i64 t1.Bits), (Value.int .i64 t1.Frac), (Value.int .i64 t1.Round), (Value.int .i64 t1.Over)]), (Value.int .i64 n1)]) Tryz.func84 rfl Tryz.ntmps84 rfl ?_) ?_
  rotate_left
  · rintro _ w ⟨rfl, k1, k2⟩; exact ⟨rfl, k1, k2⟩
  have hI := Bun.start hF hc
  clear hc
  rw [m_fixed_narrow] at h
  refine c_seq ?_
  refine c_region rfl ?_
  refine l_box (v := (Value.agg #[(Value.int .i64 t1.Kind), (Value.int .i64 t1.Bits), (Value.int .i64 t1.Frac), (Value.int .i64 t1.Round), (Value.int .i64 t1.Over)])) (cs := #[(Value.int .i64 t1.Kind), (Value.int .i64 t1.Bits), (Value.int .i64 t1.Frac), (Value.int .i64 t1.Round), (Value.int .i64 t1.Over)]) hI rfl rfl rfl (ev_tmp rfl rfl) rfl ?_
  clear hI; intro b1 c1 w1 hI
  obtain ⟨c2, hI⟩ := hI.relBox .z
  refine l_alloc (cs := #[(Value.int .i64 0), (Value.int .i64 0)]) hI rfl rfl rfl zero_27 rfl ?_
  clear hI; intro b2 c3 w2 hI
  refine s_nil ?_
  refine k_next (e := [(1, (Value.int .i64 n1)), (2, (Value.pointer (some ⟨b1, 0, none⟩))), (4, (Value.pointer (some ⟨b2, 0, none⟩)))]) ⟨rfl, rfl, rfl, trivial⟩ ?_
  refine c_seq ?_
  refine c_region rfl ?_
  refine s_q rfl rfl (y_move rfl (ev_tmp rfl rfl)) ?_
  refine s_q rfl rfl (y_fieldAddr rfl (ev_tmp rfl rfl) Tryz.underlying23 rfl size_3 rfl) ?_
  refine s_q rfl rfl (y_load1 (v := (Value.int .i64 t1.Bits)) rfl (ev_tmp rfl rfl) Tryz.underlying3 rfl (hI.kblk (l := [(Value.int .i64 t1.Bits)]) .z rfl).1) ?_
  refine s_q rfl rfl (y_fieldAddr rfl (ev_tmp rfl rfl) Tryz.underlying23 rfl size_3 rfl) ?_
  refine s_q rfl rfl (y_load1 (v := (Value.int .i64 t1.Over)) rfl (ev_tmp rfl rfl) Tryz.underlying3 rfl (hI.kblk (l := [(Value.int .i64 t1.Over)]) .z rfl).1) ?_
  obtain ⟨r1, hx1, h⟩ := bnd_some h
  refine s_call rfl rfl (r_callF (vs := [(Value.int .i64 n1), (Value.int .i64 t1.Bits), (Value.int .i64 t1.Over)]) rfl ok_110 ⟨(ev_tmp rfl rfl), ⟨(ev_tmp rfl rfl), ⟨(ev_tmp rfl rfl), trivial⟩⟩⟩) (Calls.mono (c_round_Narrow (Dj F c3) w2 hI.lt n1 t1.Bits t1.Over trivial r1 hx1) ?_)
  rintro _ w3 ⟨rfl, hx2, hl1⟩
  refine ⟨_, rfl, ?_⟩
  replace hI := (hI.ext hx2)
  refine s_q rfl rfl (y_move rfl (ev_tmp rfl rfl)) ?_
  refine s_q rfl rfl (y_extract rfl (ev_tmp rfl rfl) rfl) ?_
  refine s_q rfl rfl (y_extract rfl (ev_tmp rfl rfl) rfl) ?_
  refine s_q rfl rfl (y_assign rfl (ev_tmp rfl rfl)) ?_
  refine s_q rfl rfl (y_assign rfl (ev_tmp rfl rfl)) ?_
  refine s_nil ?_
  refine k_next (e := [(4, (Value.pointer (some ⟨b2, 0, none⟩))), (5, (Value.int .i64 r1.1))]) ⟨rfl, rfl, trivial⟩ ?_
  refine c_seq ?_
  refine c_region rfl ?_
  refine s_q rfl rfl (y_move rfl (ev_tmp rfl rfl)) ?_
  refine s_q rfl rfl (y_build (vs := [(0, (Value.int .i64 r1.1)), (1, (Value.int .i64 1))]) (cs := #[(Value.int .i64 r1.1), (Value.int .i64 1)]) rfl ⟨rfl, (ev_tmp rfl rfl), ⟨rfl, ev_const, trivial⟩⟩ (by kernel_rfl)) ?_
  refine l_store (new := [(Value.int .i64 r1.1), (Value.int .i64 1)]) (cs' := #[(Value.int .i64 r1.1), (Value.int .i64 1)]) hI .z rfl rfl rfl (ev_tmp rfl rfl) (ev_tmp rfl rfl) rfl size_27 rfl rfl rfl ?_
  clear hI; intro c4 w4 hI
  refine s_nil ?_
  refine k_next (e := [(4, (Value.pointer (some ⟨b2, 0, none⟩)))]) ⟨rfl, trivial⟩ ?_
  refine c_ret ?_
  obtain rfl := some_inj h
  exact q_ret (vs := [(Value.agg #[(Value.int .i64 r1.1), (Value.int .i64 1)])]) Tryz.results84 ⟨⟨_, ev_tmp rfl rfl, load_agg (l := [(Value.int .i64 r1.1), (Value.int .i64 1)]) Tryz.underlying27 rfl size_27 (CellsAt.of_blk (hI.blk .z) rfl)⟩, trivial⟩ ⟨rfl, hI.ext0, hI.fin trivial⟩

set_option maxRecDepth 100000 in
set_option maxHeartbeats 4000000 in
theorem c_fixed_apply (F : NP) (w0 : World) (hF : ∀ k, F k → k < w0.heap.size) (op1 : Gfixed_operation) (t1 : GType) (a1 : GVal) (b1 : GVal) (fv1 : Value) (hc : AllCl [clFn_k1 fv1 op1.run] F w0) (r : GVal × Int)
    (h : m_fixed_apply op1 t1 a1 b1 = some r) :
    Calls Tryz.prog 101 #[(Value.agg #[fv1]), (Value.agg #[(Value.int .i64 t1.Kind), (Value.int .i64 t1.Bits), (Value.int .i64 t1.Frac), (Value.int .i64 t1.Round), (Value.int .i64 t1.Over)]), (Value.agg #[(Value.int .i64 a1.N), (Value.int .i64 a1.D)]), (Value.agg #[(Value.int .i64 b1.N), (Value.int .i64 b1.D)])] w0 fun e w => e = .returned (Value.tuple #[(Value.agg #[(Value.int .i64 r.1.N), (Value.int .i64 r.1.D)]), (Value.int .i64 r.2)]) ∧ Ext w0 w ∧ AllCl [] F w := by
  refine ofEnter (R := fun v w => v = (Value.tuple #[(Value.agg #[(Value.int .i64 r.1.N), (Value.int .i64 r.1.D)]), (Value.int .i64 r.2)]) ∧ Ext w0 w ∧ AllCl [] F w) (enter (l := [(Value.agg #[fv1]), (Value.agg #[(Value.int .i64 t1.Kind), (Value.int .i64 t1.Bits), (Value.int .i64 t1.Frac), (Value.int .i64 t1.Round), (Value.int .i64 t1.Over)]), (Value.agg #[(Value.int .i64 a1.N), (Value.int .i64 a1.D)]), (Value.agg #[(Value.int .i64 b1.N), (Value.int .i64 b1.D)])]) Tryz.func101 rfl Tryz.ntmps101 rfl ?_) ?_
  rotate_left
  · rintro _ w ⟨rfl, k1, k2⟩; exact ⟨rfl, k1, k2⟩
  have hI := Bun.start hF hc
  clear hc
  rw [m_fixed_apply] at h
  refine c_seq ?_
  refine c_region rfl ?_
  refine l_box (v := (Value.agg #[fv1])) (cs := #[fv1]) hI rfl rfl rfl (ev_tmp rfl rfl) rfl ?_
  clear hI; intro b2 c1 w1 hI
  obtain ⟨c2, hI⟩ := hI.relBox .z
  refine l_box (v := (Value.agg #[(Value.int .i64 t1.Kind), (Value.int .i64 t1.Bits), (Value.int .i64 t1.Frac), (Value.int .i64 t1.Round), (Value.int .i64 t1.Over)])) (cs := #[(Value.int .i64 t1.Kind), (Value.int .i64 t1.Bits), (Value.int .i64 t1.Frac), (Value.int .i64 t1.Round), (Value.int .i64 t1.Over)]) hI rfl rfl rfl (ev_tmp rfl rfl) rfl ?_
  clear hI; intro b3 c3 w2 hI
  obtain ⟨c4, hI⟩ := hI.relBox .z
  refine l_box (v := (Value.agg #[(Value.int .i64 a1.N), (Value.int .i64 a1.D)])) (cs := #[(Value.int .i64 a1.N), (Value.int .i64 a1.D)]) hI rfl rfl rfl (ev_tmp rfl rfl) rfl ?_
  clear hI; intro b4 c5 w3 hI
  obtain ⟨c6, hI⟩ := hI.relBox .z
  refine l_box (v := (Value.agg #[(Value.int .i64 b1.N), (Value.int .i64 b1.D)])) (cs := #[(Value.int .i64 b1.N), (Value.int .i64 b1.D)]) hI rfl rfl rfl (ev_tmp rfl rfl) rfl ?_
  clear hI; intro b5 c7 w4 hI
  obtain ⟨c8, hI⟩ := hI.relBox .z
  refine l_alloc (cs := #[(Value.int .i64 0), (Value.int .i64 0)]) hI rfl rfl rfl zero_27 rfl ?_
  clear hI; intro b6 c9 w5 hI
  refine s_q rfl rfl (y_assign rfl ev_const) ?_
  refine s_nil ?_
  refine k_next (e := [(4, (Value.pointer (some ⟨b2, 0, none⟩))), (5, (Value.pointer (some ⟨b3, 0, none⟩))), (6, (Value.pointer (some ⟨b4, 0, none⟩))), (7, (Value.pointer (some ⟨b5, 0, none⟩))), (8, (Value.pointer (some ⟨b6, 0, none⟩)))]) ⟨rfl, rfl, rfl, rfl, rfl, trivial⟩ ?_
  refine c_seq ?_
  refine c_seq ?_
  refine c_region rfl ?_
  refine s_q rfl rfl (y_loadN (l := [(Value.int .i64 t1.Kind), (Value.int .i64 t1.Bits), (Value.int .i64 t1.Frac), (Value.int .i64 t1.Round), (Value.int .i64 t1.Over)]) rfl (ev_tmp rfl rfl) Tryz.underlying23 rfl size_23 (hI.kblk (l := [(Value.int .i64 t1.Kind), (Value.int .i64 t1.Bits), (Value.int .i64 t1.Frac), (Value.int .i64 t1.Round), (Value.int .i64 t1.Over)]) (.s (.s .z)) rfl).1) ?_
  refine s_q rfl rfl (y_loadN (l := [(Value.int .i64 a1.N), (Value.int .i64 a1.D)]) rfl (ev_tmp rfl rfl) Tryz.underlying27 rfl size_27 (hI.kblk (l := [(Value.int .i64 a1.N), (Value.int .i64 a1.D)]) (.s .z) rfl).1) ?_
  refine s_q rfl rfl (y_loadN (l := [(Value.int .i64 b1.N), (Value.int .i64 b1.D)]) rfl (ev_tmp rfl rfl) Tryz.underlying27 rfl size_27 (hI.kblk (l := [(Value.int .i64 b1.N), (Value.int .i64 b1.D)]) .z rfl).1) ?_
  refine l_lit (c := cGVal) (xs := ([a1, b1] : List GVal)) (vs := [(0, (Value.agg #[(Value.int .i64 a1.N), (Value.int .i64 a1.D)])), (1, (Value.agg #[(Value.int .i64 b1.N), (Value.int .i64 b1.D)]))]) (cs := #[(Value.int .i64 a1.N), (Value.int .i64 a1.D), (Value.int .i64 b1.N), (Value.int .i64 b1.D)]) (css := [[(Value.int .i64 a1.N), (Value.int .i64 a1.D)], [(Value.int .i64 b1.N), (Value.int .i64 b1.D)]]) hI rfl rfl rfl Tryz.underlying24 info_27 rfl ⟨rfl, (ev_tmp rfl rfl), ⟨rfl, (ev_tmp rfl rfl), trivial⟩⟩ (by kernel_rfl) ⟨rfl, ⟨rfl, trivial⟩⟩ rfl rfl rfl ?_
  clear hI; intro b7 c10 w6 hI
  obtain ⟨r1, hx1, h⟩ := bnd_some h
  refine s_call rfl rfl (r_callF (vs := [(Value.agg #[(Value.int .i64 t1.Kind), (Value.int .i64 t1.Bits), (Value.int .i64 t1.Frac), (Value.int .i64 t1.Round), (Value.int .i64 t1.Over)]), (Value.slice (some ⟨b7, 0, none⟩) ([a1, b1] : List GVal).length 2)]) rfl ok_97 ⟨(ev_tmp rfl rfl), ⟨(ev_tmp rfl rfl), trivial⟩⟩) (Calls.mono (c_fixed_check noM w6 (fun _ k => k.elim) t1 ([a1, b1] : List GVal) (some ⟨b7, 0, none⟩) 2 ⟨hI.lend .z, trivial⟩ r1 hx1) ?_)
  rintro _ w7 ⟨rfl, hx2, hl1⟩
  refine ⟨_, rfl, ?_⟩
  replace hI := (hI.ext hx2)
  refine s_q rfl rfl (y_assign rfl (ev_tmp rfl rfl)) ?_
  refine s_nil ?_
  refine k_next (e := [(4, (Value.pointer (some ⟨b2, 0, none⟩))), (5, (Value.pointer (some ⟨b3, 0, none⟩))), (6, (Value.pointer (some ⟨b4, 0, none⟩))), (7, (Value.pointer (some ⟨b5, 0, none⟩))), (8, (Value.pointer (some ⟨b6, 0, none⟩))), (10, (Value.int .i64 r1))]) ⟨rfl, rfl, rfl, rfl, rfl, rfl, trivial⟩ ?_
  refine c_seq ?_
  refine c_region rfl ?_
  refine s_q rfl rfl (y_move rfl (ev_tmp rfl rfl)) ?_
  refine s_q rfl rfl (y_neq rfl (ev_tmp rfl rfl) ev_const) ?_
  refine s_nil ?_
  refine k_next (e := [(4, (Value.pointer (some ⟨b2, 0, none⟩))), (5, (Value.pointer (some ⟨b3, 0, none⟩))), (6, (Value.pointer (some ⟨b4, 0, none⟩))), (7, (Value.pointer (some ⟨b5, 0, none⟩))), (8, (Value.pointer (some ⟨b6, 0, none⟩))), (10, (Value.int .i64 r1)), (19, (Value.bool (!decide (r1 = 0))))]) ⟨rfl, rfl, rfl, rfl, rfl, rfl, rfl, trivial⟩ ?_
  refine c_cond (b := !decide (r1 = 0)) (ev_tmp rfl rfl) (fun hb => ?_) (fun hb => ?_)
  · replace h := ite_t hb h
    refine c_seq ?_
    refine c_region rfl ?_
    refine s_q rfl rfl (y_build (vs := []) (cs := #[(Value.int .i64 0), (Value.int .i64 0)]) rfl trivial (by kernel_rfl)) ?_
    refine s_q rfl rfl (y_move rfl (ev_tmp rfl rfl)) ?_
    refine l_store (new := [(Value.int .i64 0), (Value.int .i64 0)]) (cs' := #[(Value.int .i64 0), (Value.int .i64 0)]) hI (.s .z) rfl rfl rfl (ev_tmp rfl rfl) (ev_tmp rfl rfl) rfl size_27 rfl rfl rfl ?_
    clear hI; intro c11 w8 hI
    refine s_q rfl rfl (y_assign rfl (ev_tmp rfl rfl)) ?_
    refine s_nil ?_
    refine k_next (e := [(8, (Value.pointer (some ⟨b6, 0, none⟩))), (9, (Value.int .i64 r1))]) ⟨rfl, rfl, trivial⟩ ?_
    refine c_ret ?_
    obtain rfl := some_inj h
    exact q_ret (vs := [(Value.agg #[(Value.int .i64 0), (Value.int .i64 0)]), (Value.int .i64 r1)]) Tryz.results101 ⟨⟨_, ev_tmp rfl rfl, load_agg (l := [(Value.int .i64 0), (Value.int .i64 0)]) Tryz.underlying27 rfl size_27 (CellsAt.of_blk (hI.blk (.s .z)) rfl)⟩, ⟨ev_tmp rfl rfl, trivial⟩⟩ ⟨rfl, hI.ext0, hI.fin trivial⟩
  · replace h := ite_f hb h
    refine c_skip ?_
    refine k_next (e := [(4, (Value.pointer (some ⟨b2, 0, none⟩))), (5, (Value.pointer (some ⟨b3, 0, none⟩))), (6, (Value.pointer (some ⟨b4, 0, none⟩))), (7, (Value.pointer (some ⟨b5, 0, none⟩))), (8, (Value.pointer (some ⟨b6, 0, none⟩)))]) ⟨rfl, rfl, rfl, rfl, rfl, trivial⟩ ?_
    refine c_seq ?_
    refine c_region rfl ?_
    refine s_q rfl rfl (y_fieldAddr rfl (ev_tmp rfl rfl) Tryz.underlying98 rfl size_96 rfl) ?_
    refine s_q rfl rfl (y_load1 (v := fv1) rfl (ev_tmp rfl rfl) Tryz.underlying96 rfl (hI.kblk (l := [fv1]) (.s (.s (.s .z))) rfl).1) ?_
    refine s_q rfl rfl (y_loadN (l := [(Value.int .i64 t1.Kind), (Value.int .i64 t1.Bits), (Value.int .i64 t1.Frac), (Value.int .i64 t1.Round), (Value.int .i64 t1.Over)]) rfl (ev_tmp rfl rfl) Tryz.underlying23 rfl size_23 (hI.kblk (l := [(Value.int .i64 t1.Kind), (Value.int .i64 t1.Bits), (Value.int .i64 t1.Frac), (Value.int .i64 t1.Round), (Value.int .i64 t1.Over)]) (.s (.s .z)) rfl).1) ?_
    refine s_q rfl rfl (y_fieldAddr rfl (ev_tmp rfl rfl) Tryz.underlying27 rfl size_2 rfl) ?_
    refine s_q rfl rfl (y_load1 (v := (Value.int .i64 a1.N)) rfl (ev_tmp rfl rfl) Tryz.underlying2 rfl (hI.kblk (l := [(Value.int .i64 a1.N)]) (.s .z) rfl).1) ?_
    refine s_q rfl rfl (y_fieldAddr rfl (ev_tmp rfl rfl) Tryz.underlying27 rfl size_2 rfl) ?_
    refine s_q rfl rfl (y_load1 (v := (Value.int .i64 b1.N)) rfl (ev_tmp rfl rfl) Tryz.underlying2 rfl (hI.kblk (l := [(Value.int .i64 b1.N)]) .z rfl).1) ?_
    obtain ⟨r2, hx3, h⟩ := bnd_some h
    refine s_callV (args := [(Value.agg #[(Value.int .i64 t1.Kind), (Value.int .i64 t1.Bits), (Value.int .i64 t1.Frac), (Value.int .i64 t1.Round), (Value.int .i64 t1.Over)]), (Value.int .i64 a1.N), (Value.int .i64 b1.N)]) rfl rfl rfl (ev_tmp rfl rfl) ⟨(ev_tmp rfl rfl), ⟨(ev_tmp rfl rfl), ⟨(ev_tmp rfl rfl), trivial⟩⟩⟩ (CallV.mono ((hI.get (.s (.s (.s (.s .z))))).2 (Dj F c10) w7 (Sp.of_ext .rfl') hI.lt t1 a1.N b1.N r2 trivial hx3) ?_)
    rintro _ w9 ⟨rfl, hx4, hl2⟩
    refine ⟨_, rfl, ?_⟩
    replace hI := (hI.ext hx4)
    refine s_q rfl rfl (y_move rfl (ev_tmp rfl rfl)) ?_
    refine s_q rfl rfl (y_extract rfl (ev_tmp rfl rfl) rfl) ?_
    refine s_q rfl rfl (y_extract rfl (ev_tmp rfl rfl) rfl) ?_
    refine s_q rfl rfl (y_assign rfl (ev_tmp rfl rfl)) ?_
    refine s_q rfl rfl (y_assign rfl (ev_tmp rfl rfl)) ?_
    refine s_nil ?_
    refine k_next (e := [(5, (Value.pointer (some ⟨b3, 0, none⟩))), (8, (Value.pointer (some ⟨b6, 0, none⟩))), (11, (Value.int .i64 r2.1)), (12, (Value.int .i64 r2.2))]) ⟨rfl, rfl, rfl, rfl, trivial⟩ ?_
    refine c_seq ?_
    refine c_seq ?_
    refine c_region rfl ?_
    refine s_q rfl rfl (y_move rfl (ev_tmp rfl rfl)) ?_
    refine s_q rfl rfl (y_neq rfl (ev_tmp rfl rfl) ev_const) ?_
    refine s_nil ?_
    refine k_next (e := [(5, (Value.pointer (some ⟨b3, 0, none⟩))), (8, (Value.pointer (some ⟨b6, 0, none⟩))), (11, (Value.int .i64 r2.1)), (12, (Value.int .i64 r2.2)), (34, (Value.bool (!decide (r2.2 = 0))))]) ⟨rfl, rfl, rfl, rfl, rfl, trivial⟩ ?_
    refine c_cond (b := !decide (r2.2 = 0)) (ev_tmp rfl rfl) (fun hb => ?_) (fun hb => ?_)
    · replace h := ite_t hb h
      refine c_seq ?_
      refine c_region rfl ?_
      refine s_q rfl rfl (y_build (vs := []) (cs := #[(Value.int .i64 0), (Value.int .i64 0)]) rfl trivial (by kernel_rfl)) ?_
      refine s_q rfl rfl (y_move rfl (ev_tmp rfl rfl)) ?_
      refine l_store (new := [(Value.int .i64 0), (Value.int .i64 0)]) (cs' := #[(Value.int .i64 0), (Value.int .i64 0)]) hI (.s .z) rfl rfl rfl (ev_tmp rfl rfl) (ev_tmp rfl rfl) rfl size_27 rfl rfl rfl ?_
      clear hI; intro c12 w10 hI
      refine s_q rfl rfl (y_assign rfl (ev_tmp rfl rfl)) ?_
      refine s_nil ?_
      refine k_next (e := [(8, (Value.pointer (some ⟨b6, 0, none⟩))), (9, (Value.int .i64 r2.2))]) ⟨rfl, rfl, trivial⟩ ?_
      refine c_ret ?_
      obtain rfl := some_inj h
      exact q_ret (vs := [(Value.agg #[(Value.int .i64 0), (Value.int .i64 0)]), (Value.int .i64 r2.2)]) Tryz.results101 ⟨⟨_, ev_tmp rfl rfl, load_agg (l := [(Value.int .i64 0), (Value.int .i64 0)]) Tryz.underlying27 rfl size_27 (CellsAt.of_blk (hI.blk (.s .z)) rfl)⟩, ⟨ev_tmp rfl rfl, trivial⟩⟩ ⟨rfl, hI.ext0, hI.fin trivial⟩
    · replace h := ite_f hb h
      refine c_skip ?_
      refine k_next (e := [(5, (Value.pointer (some ⟨b3, 0, none⟩))), (8, (Value.pointer (some ⟨b6, 0, none⟩))), (11, (Value.int .i64 r2.1))]) ⟨rfl, rfl, rfl, trivial⟩ ?_
      refine c_seq ?_
      refine c_region rfl ?_
      refine s_q rfl rfl (y_loadN (l := [(Value.int .i64 t1.Kind), (Value.int .i64 t1.Bits), (Value.int .i64 t1.Frac), (Value.int .i64 t1.Round), (Value.int .i64 t1.Over)]) rfl (ev_tmp rfl rfl) Tryz.underlying23 rfl size_23 (hI.kblk (l := [(Value.int .i64 t1.Kind), (Value.int .i64 t1.Bits), (Value.int .i64 t1.Frac), (Value.int .i64 t1.Round), (Value.int .i64 t1.Over)]) (.s (.s .z)) rfl).1) ?_
      refine s_q rfl rfl (y_move rfl (ev_tmp rfl rfl)) ?_
      obtain ⟨r3, hx5, h⟩ := bnd_some h
      refine s_call rfl rfl (r_callF (vs := [(Value.agg #[(Value.int .i64 t1.Kind), (Value.int .i64 t1.Bits), (Value.int .i64 t1.Frac), (Value.int .i64 t1.Round), (Value.int .i64 t1.Over)]), (Value.int .i64 r2.1)]) rfl ok_84 ⟨(ev_tmp rfl rfl), ⟨(ev_tmp rfl rfl), trivial⟩⟩) (Calls.mono (c_fixed_narrow (Dj F c10) w9 hI.lt t1 r2.1 trivial r3 hx5) ?_)
      rintro _ w11 ⟨rfl, hx6, hl3⟩
      refine ⟨_, rfl, ?_⟩
      replace hI := (hI.ext hx6)
      refine l_store (new := [(Value.int .i64 r3.N), (Value.int .i64 r3.D)]) (cs' := #[(Value.int .i64 r3.N), (Value.int .i64 r3.D)]) hI (.s .z) rfl rfl rfl (ev_tmp rfl rfl) (ev_tmp rfl rfl) rfl size_27 rfl rfl rfl ?_
      clear hI; intro c13 w12 hI
      refine s_q rfl rfl (y_assign rfl ev_const) ?_
      refine s_nil ?_
      refine k_next (e := [(8, (Value.pointer (some ⟨b6, 0, none⟩))), (9, (Value.int .i64 0))]) ⟨rfl, rfl, trivial⟩ ?_
      refine c_ret ?_
      obtain rfl := some_inj h
      exact q_ret (vs := [(Value.agg #[(Value.int .i64 r3.N), (Value.int .i64 r3.D)]), (Value.int .i64 0)]) Tryz.results101 ⟨⟨_, ev_tmp rfl rfl, load_agg (l := [(Value.int .i64 r3.N), (Value.int .i64 r3.D)]) Tryz.underlying27 rfl size_27 (CellsAt.of_blk (hI.blk (.s .z)) rfl)⟩, ⟨ev_tmp rfl rfl, trivial⟩⟩ ⟨rfl, hI.ext0, hI.fin trivial⟩

set_option maxRecDepth 100000 in
set_option maxHeartbeats 4000000 in
theorem c_fixed_Neg (F : NP) (w0 : World) (hF : ∀ k, F k → k < w0.heap.size) (t1 : GType) (a1 : GVal) (hc : AllCl [] F w0) (r : GVal × Int)
    (h : m_fixed_Neg t1 a1 = some r) :
    Calls Tryz.prog 72 #[(Value.agg #[(Value.int .i64 t1.Kind), (Value.int .i64 t1.Bits), (Value.int .i64 t1.Frac), (Value.int .i64 t1.Round), (Value.int .i64 t1.Over)]), (Value.agg #[(Value.int .i64 a1.N), (Value.int .i64 a1.D)])] w0 fun e w => e = .returned (Value.tuple #[(Value.agg #[(Value.int .i64 r.1.N), (Value.int .i64 r.1.D)]), (Value.int .i64 r.2)]) ∧ Ext w0 w ∧ AllCl [] F w := by
  refine ofEnter (R := fun v w => v = (Value.tuple #[(Value.agg #[(Value.int .i64 r.1.N), (Value.int .i64 r.1.D)]), (Value.int .i64 r.2)]) ∧ Ext w0 w ∧ AllCl [] F w) (enter (l := [(Value.agg #[(Value.int .i64 t1.Kind), (Value.int .i64 t1.Bits), (Value.int .i64 t1.Frac), (Value.int .i64 t1.Round), (Value.int .i64 t1.Over)]), (Value.agg #[(Value.int .i64 a1.N), (Value.int .i64 a1.D)])]) Tryz.func72 rfl Tryz.ntmps72 rfl ?_) ?_
  rotate_left
  · rintro _ w ⟨rfl, k1, k2⟩; exact ⟨rfl, k1, k2⟩
  have hI := Bun.start hF hc
  clear hc
  rw [m_fixed_Neg] at h
  refine c_seq ?_
  refine c_region rfl ?_
  refine l_box (v := (Value.agg #[(Value.int .i64 t1.Kind), (Value.int .i64 t1.Bits), (Value.int .i64 t1.Frac), (Value.int .i64 t1.Round), (Value.int .i64 t1.Over)])) (cs := #[(Value.int .i64 t1.Kind), (Value.int .i64 t1.Bits), (Value.int .i64 t1.Frac), (Value.int .i64 t1.Round), (Value.int .i64 t1.Over)]) hI rfl rfl rfl (ev_tmp rfl rfl) rfl ?_
  clear hI; intro b1 c1 w1 hI
  obtain ⟨c2, hI⟩ := hI.relBox .z
  refine l_box (v := (Value.agg #[(Value.int .i64 a1.N), (Value.int .i64 a1.D)])) (cs := #[(Value.int .i64 a1.N), (Value.int .i64 a1.D)]) hI rfl rfl rfl (ev_tmp rfl rfl) rfl ?_
  clear hI; intro b2 c3 w2 hI
  obtain ⟨c4, hI⟩ := hI.relBox .z
  refine l_alloc (cs := #[(Value.int .i64 0), (Value.int .i64 0)]) hI rfl rfl rfl zero_27 rfl ?_
  clear hI; intro b3 c5 w3 hI
  refine s_q rfl rfl (y_assign rfl ev_const) ?_
  refine s_nil ?_
  refine k_next (e := [(2, (Value.pointer (some ⟨b1, 0, none⟩))), (3, (Value.pointer (some ⟨b2, 0, none⟩))), (4, (Value.pointer (some ⟨b3, 0, none⟩)))]) ⟨rfl, rfl, rfl, trivial⟩ ?_
  refine c_seq ?_
  refine c_region rfl ?_
  refine s_q rfl rfl (y_build (vs := [(0, (Value.func (.func 102) #[] #[]))]) (cs := #[(Value.func (.func 102) #[] #[])]) rfl ⟨rfl, ev_func, trivial⟩ (by kernel_rfl)) ?_
  refine s_q rfl rfl (y_loadN (l := [(Value.int .i64 t1.Kind), (Value.int .i64 t1.Bits), (Value.int .i64 t1.Frac), (Value.int .i64 t1.Round), (Value.int .i64 t1.Over)]) rfl (ev_tmp rfl rfl) Tryz.underlying23 rfl size_23 (hI.kblk (l := [(Value.int .i64 t1.Kind), (Value.int .i64 t1.Bits), (Value.int .i64 t1.Frac), (Value.int .i64 t1.Round), (Value.int .i64 t1.Over)]) (.s .z) rfl).1) ?_
  refine s_q rfl rfl (y_loadN (l := [(Value.int .i64 a1.N), (Value.int .i64 a1.D)]) rfl (ev_tmp rfl rfl) Tryz.underlying27 rfl size_27 (hI.kblk (l := [(Value.int .i64 a1.N), (Value.int .i64 a1.D)]) .z rfl).1) ?_
  refine s_q rfl rfl (y_loadN (l := [(Value.int .i64 a1.N), (Value.int .i64 a1.D)]) rfl (ev_tmp rfl rfl) Tryz.underlying27 rfl size_27 (hI.kblk (l := [(Value.int .i64 a1.N), (Value.int .i64 a1.D)]) .z rfl).1) ?_
  have hI := hI.add (c := clFn_k1 (Value.func (.func 102) #[] #[]) m_fixed_Neg_1) ⟨rfl, fun D' w' hs hl x1 x2 x3 r k h => CallV.fn (cap := []) ok_102 (c_fixed_Neg_1 D' w' hl x1 x2 x3 trivial r h)⟩
  obtain ⟨r1, hx1, h⟩ := bnd_some h
  refine s_call rfl rfl (r_callF (vs := [(Value.agg #[(Value.func (.func 102) #[] #[])]), (Value.agg #[(Value.int .i64 t1.Kind), (Value.int .i64 t1.Bits), (Value.int .i64 t1.Frac), (Value.int .i64 t1.Round), (Value.int .i64 t1.Over)]), (Value.agg #[(Value.int .i64 a1.N), (Value.int .i64 a1.D)]), (Value.agg #[(Value.int .i64 a1.N), (Value.int .i64 a1.D)])]) rfl ok_101 ⟨(ev_tmp rfl rfl), ⟨(ev_tmp rfl rfl), ⟨(ev_tmp rfl rfl), ⟨(ev_tmp rfl rfl), trivial⟩⟩⟩⟩) (Calls.mono (c_fixed_apply (Dj F c5) w3 hI.lt (⟨m_fixed_Neg_1⟩ : Gfixed_operation) t1 a1 a1 (Value.func (.func 102) #[] #[]) ⟨(hI.get .z), trivial⟩ r1 hx1) ?_)
  rintro _ w4 ⟨rfl, hx2, hl1⟩
  refine ⟨_, rfl, ?_⟩
  replace hI := (hI.ext hx2)
  refine s_q rfl rfl (y_extract rfl (ev_tmp rfl rfl) rfl) ?_
  refine s_q rfl rfl (y_extract rfl (ev_tmp rfl rfl) rfl) ?_
  refine l_store (new := [(Value.int .i64 r1.1.N), (Value.int .i64 r1.1.D)]) (cs' := #[(Value.int .i64 r1.1.N), (Value.int .i64 r1.1.D)]) hI .z rfl rfl rfl (ev_tmp rfl rfl) (ev_tmp rfl rfl) rfl size_27 rfl rfl rfl ?_
  clear hI; intro c6 w5 hI
  refine s_q rfl rfl (y_assign rfl (ev_tmp rfl rfl)) ?_
  refine s_nil ?_
  refine k_next (e := [(4, (Value.pointer (some ⟨b3, 0, none⟩))), (5, (Value.int .i64 r1.2))]) ⟨rfl, rfl, trivial⟩ ?_
  refine c_ret ?_
  obtain rfl := some_inj h
  exact q_ret (vs := [(Value.agg #[(Value.int .i64 r1.1.N), (Value.int .i64 r1.1.D)]), (Value.int .i64 r1.2)]) Tryz.results72 ⟨⟨_, ev_tmp rfl rfl, load_agg (l := [(Value.int .i64 r1.1.N), (Value.int .i64 r1.1.D)]) Tryz.underlying27 rfl size_27 (CellsAt.of_blk (hI.blk .z) rfl)⟩, ⟨ev_tmp rfl rfl, trivial⟩⟩ ⟨rfl, hI.ext0, hI.fin trivial⟩

set_option maxRecDepth 100000 in
set_option maxHeartbeats 4000000 in
theorem c_value_negate (F : NP) (w0 : World) (hF : ∀ k, F k → k < w0.heap.size) (t1 : GType) (a1 : GVal) (hc : AllCl [] F w0) (r : GVal × Int)
    (h : m_value_negate t1 a1 = some r) :
    Calls Tryz.prog 39 #[(Value.agg #[(Value.int .i64 t1.Kind), (Value.int .i64 t1.Bits), (Value.int .i64 t1.Frac), (Value.int .i64 t1.Round), (Value.int .i64 t1.Over)]), (Value.agg #[(Value.int .i64 a1.N), (Value.int .i64 a1.D)])] w0 fun e w => e = .returned (Value.tuple #[(Value.agg #[(Value.int .i64 r.1.N), (Value.int .i64 r.1.D)]), (Value.int .i64 r.2)]) ∧ Ext w0 w ∧ AllCl [] F w := by
  refine ofEnter (R := fun v w => v = (Value.tuple #[(Value.agg #[(Value.int .i64 r.1.N), (Value.int .i64 r.1.D)]), (Value.int .i64 r.2)]) ∧ Ext w0 w ∧ AllCl [] F w) (enter (l := [(Value.agg #[(Value.int .i64 t1.Kind), (Value.int .i64 t1.Bits), (Value.int .i64 t1.Frac), (Value.int .i64 t1.Round), (Value.int .i64 t1.Over)]), (Value.agg #[(Value.int .i64 a1.N), (Value.int .i64 a1.D)])]) Tryz.func39 rfl Tryz.ntmps39 rfl ?_) ?_
  rotate_left
  · rintro _ w ⟨rfl, k1, k2⟩; exact ⟨rfl, k1, k2⟩
  have hI := Bun.start hF hc
  clear hc
  rw [m_value_negate] at h
  refine c_seq ?_
  refine c_region rfl ?_
  refine l_box (v := (Value.agg #[(Value.int .i64 t1.Kind), (Value.int .i64 t1.Bits), (Value.int .i64 t1.Frac), (Value.int .i64 t1.Round), (Value.int .i64 t1.Over)])) (cs := #[(Value.int .i64 t1.Kind), (Value.int .i64 t1.Bits), (Value.int .i64 t1.Frac), (Value.int .i64 t1.Round), (Value.int .i64 t1.Over)]) hI rfl rfl rfl (ev_tmp rfl rfl) rfl ?_
  clear hI; intro b1 c1 w1 hI
  obtain ⟨c2, hI⟩ := hI.relBox .z
  refine l_box (v := (Value.agg #[(Value.int .i64 a1.N), (Value.int .i64 a1.D)])) (cs := #[(Value.int .i64 a1.N), (Value.int .i64 a1.D)]) hI rfl rfl rfl (ev_tmp rfl rfl) rfl ?_
  clear hI; intro b2 c3 w2 hI
  obtain ⟨c4, hI⟩ := hI.relBox .z
  refine l_alloc (cs := #[(Value.int .i64 0), (Value.int .i64 0)]) hI rfl rfl rfl zero_27 rfl ?_
  clear hI; intro b3 c5 w3 hI
  refine s_q rfl rfl (y_assign rfl ev_const) ?_
  refine s_nil ?_
  refine k_next (e := [(2, (Value.pointer (some ⟨b1, 0, none⟩))), (3, (Value.pointer (some ⟨b2, 0, none⟩))), (4, (Value.pointer (some ⟨b3, 0, none⟩)))]) ⟨rfl, rfl, rfl, trivial⟩ ?_
  refine c_seq ?_
  refine c_seq ?_
  refine c_region rfl ?_
  refine s_q rfl rfl (y_fieldAddr rfl (ev_tmp rfl rfl) Tryz.underlying23 rfl size_3 rfl) ?_
  refine s_q rfl rfl (y_load1 (v := (Value.int .i64 t1.Kind)) rfl (ev_tmp rfl rfl) Tryz.underlying3 rfl (hI.kblk (l := [(Value.int .i64 t1.Kind)]) (.s .z) rfl).1) ?_
  refine s_q rfl rfl (y_eql rfl (ev_tmp rfl rfl) ev_const) ?_
  refine s_nil ?_
  refine k_next (e := [(2, (Value.pointer (some ⟨b1, 0, none⟩))), (3, (Value.pointer (some ⟨b2, 0, none⟩))), (4, (Value.pointer (some ⟨b3, 0, none⟩))), (8, (Value.bool (decide (t1.Kind = 2))))]) ⟨rfl, rfl, rfl, rfl, trivial⟩ ?_
  refine c_cond (b := decide (t1.Kind = 2)) (ev_tmp rfl rfl) (fun hb => ?_) (fun hb => ?_)
  · replace h := ite_t hb h
    refine c_seq ?_
    refine c_region rfl ?_
    refine s_q rfl rfl (y_loadN (l := [(Value.int .i64 t1.Kind), (Value.int .i64 t1.Bits), (Value.int .i64 t1.Frac), (Value.int .i64 t1.Round), (Value.int .i64 t1.Over)]) rfl (ev_tmp rfl rfl) Tryz.underlying23 rfl size_23 (hI.kblk (l := [(Value.int .i64 t1.Kind), (Value.int .i64 t1.Bits), (Value.int .i64 t1.Frac), (Value.int .i64 t1.Round), (Value.int .i64 t1.Over)]) (.s .z) rfl).1) ?_
    refine s_q rfl rfl (y_loadN (l := [(Value.int .i64 a1.N), (Value.int .i64 a1.D)]) rfl (ev_tmp rfl rfl) Tryz.underlying27 rfl size_27 (hI.kblk (l := [(Value.int .i64 a1.N), (Value.int .i64 a1.D)]) .z rfl).1) ?_
    obtain ⟨r1, hx1, h⟩ := bnd_some h
    refine s_call rfl rfl (r_callF (vs := [(Value.agg #[(Value.int .i64 t1.Kind), (Value.int .i64 t1.Bits), (Value.int .i64 t1.Frac), (Value.int .i64 t1.Round), (Value.int .i64 t1.Over)]), (Value.agg #[(Value.int .i64 a1.N), (Value.int .i64 a1.D)])]) rfl ok_72 ⟨(ev_tmp rfl rfl), ⟨(ev_tmp rfl rfl), trivial⟩⟩) (Calls.mono (c_fixed_Neg (Dj F c5) w3 hI.lt t1 a1 trivial r1 hx1) ?_)
    rintro _ w4 ⟨rfl, hx2, hl1⟩
    refine ⟨_, rfl, ?_⟩
    replace hI := (hI.ext hx2)
    refine s_q rfl rfl (y_extract rfl (ev_tmp rfl rfl) rfl) ?_
    refine s_q rfl rfl (y_extract rfl (ev_tmp rfl rfl) rfl) ?_
    refine l_store (new := [(Value.int .i64 r1.1.N), (Value.int .i64 r1.1.D)]) (cs' := #[(Value.int .i64 r1.1.N), (Value.int .i64 r1.1.D)]) hI .z rfl rfl rfl (ev_tmp rfl rfl) (ev_tmp rfl rfl) rfl size_27 rfl rfl rfl ?_
    clear hI; intro c6 w5 hI
    refine s_q rfl rfl (y_assign rfl (ev_tmp rfl rfl)) ?_
    refine s_nil ?_
    refine k_next (e := [(4, (Value.pointer (some ⟨b3, 0, none⟩))), (5, (Value.int .i64 r1.2))]) ⟨rfl, rfl, trivial⟩ ?_
    refine c_ret ?_
    obtain rfl := some_inj h
    exact q_ret (vs := [(Value.agg #[(Value.int .i64 r1.1.N), (Value.int .i64 r1.1.D)]), (Value.int .i64 r1.2)]) Tryz.results39 ⟨⟨_, ev_tmp rfl rfl, load_agg (l := [(Value.int .i64 r1.1.N), (Value.int .i64 r1.1.D)]) Tryz.underlying27 rfl size_27 (CellsAt.of_blk (hI.blk .z) rfl)⟩, ⟨ev_tmp rfl rfl, trivial⟩⟩ ⟨rfl, hI.ext0, hI.fin trivial⟩
  · replace h := ite_f hb h
    refine c_skip ?_
    refine k_next (e := [(3, (Value.pointer (some ⟨b2, 0, none⟩))), (4, (Value.pointer (some ⟨b3, 0, none⟩)))]) ⟨rfl, rfl, trivial⟩ ?_
    refine c_seq ?_
    refine c_region rfl ?_
    refine s_q rfl rfl (y_fieldAddr rfl (ev_tmp rfl rfl) Tryz.underlying27 rfl size_2 rfl) ?_
    refine s_q rfl rfl (y_load1 (v := (Value.int .i64 a1.N)) rfl (ev_tmp rfl rfl) Tryz.underlying2 rfl (hI.kblk (l := [(Value.int .i64 a1.N)]) .z rfl).1) ?_
    refine s_q rfl rfl (y_neg rfl (ev_tmp rfl rfl)) ?_
    refine s_q rfl rfl (y_fieldAddr rfl (ev_tmp rfl rfl) Tryz.underlying27 rfl size_2 rfl) ?_
    refine s_q rfl rfl (y_load1 (v := (Value.int .i64 a1.D)) rfl (ev_tmp rfl rfl) Tryz.underlying2 rfl (hI.kblk (l := [(Value.int .i64 a1.D)]) .z rfl).1) ?_
    refine s_q rfl rfl (y_build (vs := [(0, (Value.int .i64 (wi64 (-a1.N)))), (1, (Value.int .i64 a1.D))]) (cs := #[(Value.int .i64 (wi64 (-a1.N))), (Value.int .i64 a1.D)]) rfl ⟨rfl, (ev_tmp rfl rfl), ⟨rfl, (ev_tmp rfl rfl), trivial⟩⟩ (by kernel_rfl)) ?_
    refine l_store (new := [(Value.int .i64 (wi64 (-a1.N))), (Value.int .i64 a1.D)]) (cs' := #[(Value.int .i64 (wi64 (-a1.N))), (Value.int .i64 a1.D)]) hI .z rfl rfl rfl (ev_tmp rfl rfl) (ev_tmp rfl rfl) rfl size_27 rfl rfl rfl ?_
    clear hI; intro c7 w6 hI
    refine s_q rfl rfl (y_assign rfl ev_const) ?_
    refine s_nil ?_
    refine k_next (e := [(4, (Value.pointer (some ⟨b3, 0, none⟩))), (5, (Value.int .i64 0))]) ⟨rfl, rfl, trivial⟩ ?_
    refine c_ret ?_
    obtain rfl := some_inj h
    exact q_ret (vs := [(Value.agg #[(Value.int .i64 (wi64 (-a1.N))), (Value.int .i64 a1.D)]), (Value.int .i64 0)]) Tryz.results39 ⟨⟨_, ev_tmp rfl rfl, load_agg (l := [(Value.int .i64 (wi64 (-a1.N))), (Value.int .i64 a1.D)]) Tryz.underlying27 rfl size_27 (CellsAt.of_blk (hI.blk .z) rfl)⟩, ⟨ev_tmp rfl rfl, trivial⟩⟩ ⟨rfl, hI.ext0, hI.fin trivial⟩

set_option maxRecDepth 100000 in
set_option maxHeartbeats 4000000 in
theorem c_frac_order (F : NP) (w0 : World) (hF : ∀ k, F k → k < w0.heap.size) (a1 : Int) (b1 : Int) (hc : AllCl [] F w0) (r : Int)
    (h : m_frac_order a1 b1 = some r) :
    Calls Tryz.prog 103 #[(Value.int .i64 a1), (Value.int .i64 b1)] w0 fun e w => e = .returned (Value.int .i64 r) ∧ Ext w0 w ∧ AllCl [] F w := by
  refine ofEnter (R := fun v w => v = (Value.int .i64 r) ∧ Ext w0 w ∧ AllCl [] F w) (enter (l := [(Value.int .i64 a1), (Value.int .i64 b1)]) Tryz.func103 rfl Tryz.ntmps103 rfl ?_) ?_
  rotate_left
  · rintro _ w ⟨rfl, k1, k2⟩; exact ⟨rfl, k1, k2⟩
  have hI := Bun.start hF hc
  clear hc
  rw [m_frac_order] at h
  refine c_seq ?_
  refine c_region rfl ?_
  refine s_q rfl rfl (y_assign rfl ev_const) ?_
  refine s_nil ?_
  refine k_next (e := [(0, (Value.int .i64 a1)), (1, (Value.int .i64 b1))]) ⟨rfl, rfl, trivial⟩ ?_
  refine c_seq ?_
  refine c_block ?_
  refine c_seq ?_
  refine c_region rfl ?_
  refine s_q rfl rfl (y_move rfl (ev_tmp rfl rfl)) ?_
  refine s_q rfl rfl (y_move rfl (ev_tmp rfl rfl)) ?_
  refine s_q rfl rfl (y_lss rfl (ev_tmp rfl rfl) (ev_tmp rfl rfl)) ?_
  refine s_q rfl rfl (y_assign rfl (ev_tmp rfl rfl)) ?_
  refine s_nil ?_
  refine k_next (e := [(0, (Value.int .i64 a1)), (1, (Value.int .i64 b1)), (5, (Value.bool (decide (a1 < b1))))]) ⟨rfl, rfl, rfl, trivial⟩ ?_
  refine c_cond (b := decide (a1 < b1)) (ev_tmp rfl rfl) (fun hb => ?_) (fun hb => ?_)
  · replace h := ite_t hb h
    refine c_seq ?_
    refine c_region rfl ?_
    refine s_q rfl rfl (y_assign rfl ev_const) ?_
    refine s_nil ?_
    refine k_next (e := [(4, (Value.int .i64 (-1)))]) ⟨rfl, trivial⟩ ?_
    refine c_ret ?_
    obtain rfl := some_inj h
    exact q_ret (vs := [(Value.int .i64 (-1))]) Tryz.results103 ⟨ev_tmp rfl rfl, trivial⟩ ⟨rfl, hI.ext0, hI.fin trivial⟩
  · replace h := ite_f hb h
    refine c_seq ?_
    refine c_region rfl ?_
    refine s_q rfl rfl (y_move rfl (ev_tmp rfl rfl)) ?_
    refine s_q rfl rfl (y_move rfl (ev_tmp rfl rfl)) ?_
    refine s_q rfl rfl (y_gtr rfl (ev_tmp rfl rfl) (ev_tmp rfl rfl)) ?_
    refine s_q rfl rfl (y_assign rfl (ev_tmp rfl rfl)) ?_
    refine s_nil ?_
    refine k_next (e := [(9, (Value.bool (decide (b1 < a1))))]) ⟨rfl, trivial⟩ ?_
    refine c_cond (b := decide (b1 < a1)) (ev_tmp rfl rfl) (fun hb => ?_) (fun hb => ?_)
    · replace h := ite_t hb h
      refine c_seq ?_
      refine c_region rfl ?_
      refine s_q rfl rfl (y_assign rfl ev_const) ?_
      refine s_nil ?_
      refine k_next (e := [(4, (Value.int .i64 1))]) ⟨rfl, trivial⟩ ?_
      refine c_ret ?_
      obtain rfl := some_inj h
      exact q_ret (vs := [(Value.int .i64 1)]) Tryz.results103 ⟨ev_tmp rfl rfl, trivial⟩ ⟨rfl, hI.ext0, hI.fin trivial⟩
    · replace h := ite_f hb h
      refine c_skip ?_
      refine k_next (e := []) trivial ?_
      refine c_seq ?_
      refine c_region rfl ?_
      refine s_q rfl rfl (y_assign rfl ev_const) ?_
      refine s_nil ?_
      refine k_next (e := [(4, (Value.int .i64 0))]) ⟨rfl, trivial⟩ ?_
      refine c_ret ?_
      obtain rfl := some_inj h
      exact q_ret (vs := [(Value.int .i64 0)]) Tryz.results103 ⟨ev_tmp rfl rfl, trivial⟩ ⟨rfl, hI.ext0, hI.fin trivial⟩

set_option maxRecDepth 100000 in
set_option maxHeartbeats 4000000 in
theorem c_frac_Compare (F : NP) (w0 : World) (hF : ∀ k, F k → k < w0.heap.size) (a1 : GVal) (b1 : GVal) (hc : AllCl [] F w0) (r : Int)
    (h : m_frac_Compare a1 b1 = some r) :
    Calls Tryz.prog 73 #[(Value.agg #[(Value.int .i64 a1.N), (Value.int .i64 a1.D)]), (Value.agg #[(Value.int .i64 b1.N), (Value.int .i64 b1.D)])] w0 fun e w => e = .returned (Value.int .i64 r) ∧ Ext w0 w ∧ AllCl [] F w := by
  refine ofEnter (R := fun v w => v = (Value.int .i64 r) ∧ Ext w0 w ∧ AllCl [] F w) (enter (l := [(Value.agg #[(Value.int .i64 a1.N), (Value.int .i64 a1.D)]), (Value.agg #[(Value.int .i64 b1.N), (Value.int .i64 b1.D)])]) Tryz.func73 rfl Tryz.ntmps73 rfl ?_) ?_
  rotate_left
  · rintro _ w ⟨rfl, k1, k2⟩; exact ⟨rfl, k1, k2⟩
  have hI := Bun.start hF hc
  clear hc
  rw [m_frac_Compare] at h
  refine c_seq ?_
  refine c_region rfl ?_
  refine l_box (v := (Value.agg #[(Value.int .i64 a1.N), (Value.int .i64 a1.D)])) (cs := #[(Value.int .i64 a1.N), (Value.int .i64 a1.D)]) hI rfl rfl rfl (ev_tmp rfl rfl) rfl ?_
  clear hI; intro b2 c1 w1 hI
  obtain ⟨c2, hI⟩ := hI.relBox .z
  refine l_box (v := (Value.agg #[(Value.int .i64 b1.N), (Value.int .i64 b1.D)])) (cs := #[(Value.int .i64 b1.N), (Value.int .i64 b1.D)]) hI rfl rfl rfl (ev_tmp rfl rfl) rfl ?_
  clear hI; intro b3 c3 w2 hI
  obtain ⟨c4, hI⟩ := hI.relBox .z
  refine s_q rfl rfl (y_assign rfl ev_const) ?_
  refine s_nil ?_
  refine k_next (e := [(2, (Value.pointer (some ⟨b2, 0, none⟩))), (3, (Value.pointer (some ⟨b3, 0, none⟩)))]) ⟨rfl, rfl, trivial⟩ ?_
  refine c_seq ?_
  refine c_seq ?_
  refine c_region rfl ?_
  refine s_q rfl rfl (y_loadN (l := [(Value.int .i64 a1.N), (Value.int .i64 a1.D)]) rfl (ev_tmp rfl rfl) Tryz.underlying27 rfl size_27 (hI.kblk (l := [(Value.int .i64 a1.N), (Value.int .i64 a1.D)]) (.s .z) rfl).1) ?_
  obtain ⟨r1, hx1, h⟩ := bnd_some h
  refine s_call rfl rfl (r_callF (vs := [(Value.agg #[(Value.int .i64 a1.N), (Value.int .i64 a1.D)])]) rfl ok_45 ⟨(ev_tmp rfl rfl), trivial⟩) (Calls.mono (c_frac_Valid (Dj F c4) w2 hI.lt a1 trivial r1 hx1) ?_)
  rintro _ w3 ⟨rfl, hx2, hl1⟩
  refine ⟨_, rfl, ?_⟩
  replace hI := (hI.ext hx2)
  refine s_q rfl rfl (y_move rfl (ev_tmp rfl rfl)) ?_
  refine s_gval (g_true rfl rfl rfl rfl) rfl (fun hc => (y_loadN (l := [(Value.int .i64 b1.N), (Value.int .i64 b1.D)]) rfl (ev_tmp rfl rfl) Tryz.underlying27 rfl size_27 (hI.kblk (l := [(Value.int .i64 b1.N), (Value.int .i64 b1.D)]) .z rfl).1)) ?_
  obtain ⟨r2, hx3, h⟩ := bnd_some h
  replace hx3 := gd_some hx3
  refine s_gcallU (v := (Value.bool r2)) (g_true rfl rfl rfl rfl) rfl (fun hc => (r_callF (vs := [(Value.agg #[(Value.int .i64 b1.N), (Value.int .i64 b1.D)])]) rfl ok_45 ⟨(ev_gv (ev_tmp rfl rfl) hc), trivial⟩)) (fun hc => (c_frac_Valid (Dj F c4) w3 hI.lt b1 trivial r2 (hx3 hc)).mono fun _ _ k => ⟨k.1, k.2.1⟩) ?_
  intro w4 hx4; replace hI := hI.ext hx4
  refine s_q rfl rfl (y_and rfl (ev_tmp rfl rfl) (ev_tmp rfl rfl)) ?_
  refine s_nil ?_
  refine k_next (e := [(2, (Value.pointer (some ⟨b2, 0, none⟩))), (3, (Value.pointer (some ⟨b3, 0, none⟩))), (11, (Value.bool (r1 && r2)))]) ⟨rfl, rfl, rfl, trivial⟩ ?_
  refine c_cond (b := r1 && r2) (ev_tmp rfl rfl) (fun hb => ?_) (fun hb => ?_)
  · replace h := ite_t hb h
    refine c_seq ?_
    refine c_region rfl ?_
    refine s_q rfl rfl (y_fieldAddr rfl (ev_tmp rfl rfl) Tryz.underlying27 rfl size_2 rfl) ?_
    refine s_q rfl rfl (y_load1 (v := (Value.int .i64 a1.N)) rfl (ev_tmp rfl rfl) Tryz.underlying2 rfl (hI.kblk (l := [(Value.int .i64 a1.N)]) (.s .z) rfl).1) ?_
    refine s_q rfl rfl (y_fieldAddr rfl (ev_tmp rfl rfl) Tryz.underlying27 rfl size_2 rfl) ?_
    refine s_q rfl rfl (y_load1 (v := (Value.int .i64 b1.D)) rfl (ev_tmp rfl rfl) Tryz.underlying2 rfl (hI.kblk (l := [(Value.int .i64 b1.D)]) .z rfl).1) ?_
    refine s_q rfl rfl (y_mul rfl (ev_tmp rfl rfl) (ev_tmp rfl rfl)) ?_
    refine s_q rfl rfl (y_fieldAddr rfl (ev_tmp rfl rfl) Tryz.underlying27 rfl size_2 rfl) ?_
    refine s_q rfl rfl (y_load1 (v := (Value.int .i64 b1.N)) rfl (ev_tmp rfl rfl) Tryz.underlying2 rfl (hI.kblk (l := [(Value.int .i64 b1.N)]) .z rfl).1) ?_
    refine s_q rfl rfl (y_fieldAddr rfl (ev_tmp rfl rfl) Tryz.underlying27 rfl size_2 rfl) ?_
    refine s_q rfl rfl (y_load1 (v := (Value.int .i64 a1.D)) rfl (ev_tmp rfl rfl) Tryz.underlying2 rfl (hI.kblk (l := [(Value.int .i64 a1.D)]) (.s .z) rfl).1) ?_
    refine s_q rfl rfl (y_mul rfl (ev_tmp rfl rfl) (ev_tmp rfl rfl)) ?_
    obtain ⟨r3, hx5, h⟩ := bnd_some h
    refine s_call rfl rfl (r_callF (vs := [(Value.int .i64 (wi64 (a1.N * b1.D))), (Value.int .i64 (wi64 (b1.N * a1.D)))]) rfl ok_103 ⟨(ev_tmp rfl rfl), ⟨(ev_tmp rfl rfl), trivial⟩⟩) (Calls.mono (c_frac_order (Dj F c4) w4 hI.lt (wi64 (a1.N * b1.D)) (wi64 (b1.N * a1.D)) trivial r3 hx5) ?_)
    rintro _ w5 ⟨rfl, hx6, hl3⟩
    refine ⟨_, rfl, ?_⟩
    replace hI := (hI.ext hx6)
    refine s_q rfl rfl (y_assign rfl (ev_tmp rfl rfl)) ?_
    refine s_nil ?_
    refine k_next (e := [(4, (Value.int .i64 r3))]) ⟨rfl, trivial⟩ ?_
    refine c_ret ?_
    obtain rfl := some_inj h
    exact q_ret (vs := [(Value.int .i64 r3)]) Tryz.results73 ⟨ev_tmp rfl rfl, trivial⟩ ⟨rfl, hI.ext0, hI.fin trivial⟩
  · replace h := ite_f hb h
    refine c_skip ?_
    refine k_next (e := [(2, (Value.pointer (some ⟨b2, 0, none⟩))), (3, (Value.pointer (some ⟨b3, 0, none⟩)))]) ⟨rfl, rfl, trivial⟩ ?_
    refine c_seq ?_
    refine c_seq ?_
    refine c_region rfl ?_
    refine s_q rfl rfl (y_fieldAddr rfl (ev_tmp rfl rfl) Tryz.underlying27 rfl size_2 rfl) ?_
    refine s_q rfl rfl (y_load1 (v := (Value.int .i64 a1.N)) rfl (ev_tmp rfl rfl) Tryz.underlying2 rfl (hI.kblk (l := [(Value.int .i64 a1.N)]) (.s .z) rfl).1) ?_
    refine s_q rfl rfl (y_fieldAddr rfl (ev_tmp rfl rfl) Tryz.underlying27 rfl size_2 rfl) ?_
    refine s_q rfl rfl (y_load1 (v := (Value.int .i64 b1.N)) rfl (ev_tmp rfl rfl) Tryz.underlying2 rfl (hI.kblk (l := [(Value.int .i64 b1.N)]) .z rfl).1) ?_
    obtain ⟨r4, hx7, h⟩ := bnd_some h
    refine s_call rfl rfl (r_callF (vs := [(Value.int .i64 a1.N), (Value.int .i64 b1.N)]) rfl ok_103 ⟨(ev_tmp rfl rfl), ⟨(ev_tmp rfl rfl), trivial⟩⟩) (Calls.mono (c_frac_order (Dj F c4) w4 hI.lt a1.N b1.N trivial r4 hx7) ?_)
    rintro _ w6 ⟨rfl, hx8, hl4⟩
    refine ⟨_, rfl, ?_⟩
    replace hI := (hI.ext hx8)
    refine s_q rfl rfl (y_assign rfl (ev_tmp rfl rfl)) ?_
    refine s_nil ?_
    refine k_next (e := [(2, (Value.pointer (some ⟨b2, 0, none⟩))), (3, (Value.pointer (some ⟨b3, 0, none⟩))), (5, (Value.int .i64 r4))]) ⟨rfl, rfl, rfl, trivial⟩ ?_
    refine c_seq ?_
    refine c_region rfl ?_
    refine s_q rfl rfl (y_move rfl (ev_tmp rfl rfl)) ?_
    refine s_q rfl rfl (y_neq rfl (ev_tmp rfl rfl) ev_const) ?_
    refine s_nil ?_
    refine k_next (e := [(2, (Value.pointer (some ⟨b2, 0, none⟩))), (3, (Value.pointer (some ⟨b3, 0, none⟩))), (5, (Value.int .i64 r4)), (29, (Value.bool (!decide (r4 = 0))))]) ⟨rfl, rfl, rfl, rfl, trivial⟩ ?_
    refine c_cond (b := !decide (r4 = 0)) (ev_tmp rfl rfl) (fun hb => ?_) (fun hb => ?_)
    · replace h := ite_t hb h
      refine c_seq ?_
      refine c_region rfl ?_
      refine s_q rfl rfl (y_move rfl (ev_tmp rfl rfl)) ?_
      refine s_q rfl rfl (y_assign rfl (ev_tmp rfl rfl)) ?_
      refine s_nil ?_
      refine k_next (e := [(4, (Value.int .i64 r4))]) ⟨rfl, trivial⟩ ?_
      refine c_ret ?_
      obtain rfl := some_inj h
      exact q_ret (vs := [(Value.int .i64 r4)]) Tryz.results73 ⟨ev_tmp rfl rfl, trivial⟩ ⟨rfl, hI.ext0, hI.fin trivial⟩
    · replace h := ite_f hb h
      refine c_skip ?_
      refine k_next (e := [(2, (Value.pointer (some ⟨b2, 0, none⟩))), (3, (Value.pointer (some ⟨b3, 0, none⟩)))]) ⟨rfl, rfl, trivial⟩ ?_
      refine c_seq ?_
      refine c_region rfl ?_
      refine s_q rfl rfl (y_fieldAddr rfl (ev_tmp rfl rfl) Tryz.underlying27 rfl size_2 rfl) ?_
      refine s_q rfl rfl (y_load1 (v := (Value.int .i64 a1.D)) rfl (ev_tmp rfl rfl) Tryz.underlying2 rfl (hI.kblk (l := [(Value.int .i64 a1.D)]) (.s .z) rfl).1) ?_
      refine s_q rfl rfl (y_fieldAddr rfl (ev_tmp rfl rfl) Tryz.underlying27 rfl size_2 rfl) ?_
      refine s_q rfl rfl (y_load1 (v := (Value.int .i64 b1.D)) rfl (ev_tmp rfl rfl) Tryz.underlying2 rfl (hI.kblk (l := [(Value.int .i64 b1.D)]) .z rfl).1) ?_
      obtain ⟨r5, hx9, h⟩ := bnd_some h
      refine s_call rfl rfl (r_callF (vs := [(Value.int .i64 a1.D), (Value.int .i64 b1.D)]) rfl ok_103 ⟨(ev_tmp rfl rfl), ⟨(ev_tmp rfl rfl), trivial⟩⟩) (Calls.mono (c_frac_order (Dj F c4) w6 hI.lt a1.D b1.D trivial r5 hx9) ?_)
      rintro _ w7 ⟨rfl, hx10, hl5⟩
      refine ⟨_, rfl, ?_⟩
      replace hI := (hI.ext hx10)
      refine s_q rfl rfl (y_assign rfl (ev_tmp rfl rfl)) ?_
      refine s_nil ?_
      refine k_next (e := [(4, (Value.int .i64 r5))]) ⟨rfl, trivial⟩ ?_
      refine c_ret ?_
      obtain rfl := some_inj h
      exact q_ret (vs := [(Value.int .i64 r5)]) Tryz.results73 ⟨ev_tmp rfl rfl, trivial⟩ ⟨rfl, hI.ext0, hI.fin trivial⟩

set_option maxRecDepth 100000 in
set_option maxHeartbeats 4000000 in
theorem c_value_Compare (F : NP) (w0 : World) (hF : ∀ k, F k → k < w0.heap.size) (t1 : GType) (a1 : GVal) (b1 : GVal) (hc : AllCl [] F w0) (r : Int)
    (h : m_value_Compare t1 a1 b1 = some r) :
    Calls Tryz.prog 40 #[(Value.agg #[(Value.int .i64 t1.Kind), (Value.int .i64 t1.Bits), (Value.int .i64 t1.Frac), (Value.int .i64 t1.Round), (Value.int .i64 t1.Over)]), (Value.agg #[(Value.int .i64 a1.N), (Value.int .i64 a1.D)]), (Value.agg #[(Value.int .i64 b1.N), (Value.int .i64 b1.D)])] w0 fun e w => e = .returned (Value.int .i64 r) ∧ Ext w0 w ∧ AllCl [] F w := by
  refine ofEnter (R := fun v w => v = (Value.int .i64 r) ∧ Ext w0 w ∧ AllCl [] F w) (enter (l := [(Value.agg #[(Value.int .i64 t1.Kind), (Value.int .i64 t1.Bits), (Value.int .i64 t1.Frac), (Value.int .i64 t1.Round), (Value.int .i64 t1.Over)]), (Value.agg #[(Value.int .i64 a1.N), (Value.int .i64 a1.D)]), (Value.agg #[(Value.int .i64 b1.N), (Value.int .i64 b1.D)])]) Tryz.func40 rfl Tryz.ntmps40 rfl ?_) ?_
  rotate_left
  · rintro _ w ⟨rfl, k1, k2⟩; exact ⟨rfl, k1, k2⟩
  have hI := Bun.start hF hc
  clear hc
  rw [m_value_Compare] at h
  refine c_seq ?_
  refine c_region rfl ?_
  refine l_box (v := (Value.agg #[(Value.int .i64 t1.Kind), (Value.int .i64 t1.Bits), (Value.int .i64 t1.Frac), (Value.int .i64 t1.Round), (Value.int .i64 t1.Over)])) (cs := #[(Value.int .i64 t1.Kind), (Value.int .i64 t1.Bits), (Value.int .i64 t1.Frac), (Value.int .i64 t1.Round), (Value.int .i64 t1.Over)]) hI rfl rfl rfl (ev_tmp rfl rfl) rfl ?_
  clear hI; intro b2 c1 w1 hI
  obtain ⟨c2, hI⟩ := hI.relBox .z
  refine l_box (v := (Value.agg #[(Value.int .i64 a1.N), (Value.int .i64 a1.D)])) (cs := #[(Value.int .i64 a1.N), (Value.int .i64 a1.D)]) hI rfl rfl rfl (ev_tmp rfl rfl) rfl ?_
  clear hI; intro b3 c3 w2 hI
  obtain ⟨c4, hI⟩ := hI.relBox .z
  refine l_box (v := (Value.agg #[(Value.int .i64 b1.N), (Value.int .i64 b1.D)])) (cs := #[(Value.int .i64 b1.N), (Value.int .i64 b1.D)]) hI rfl rfl rfl (ev_tmp rfl rfl) rfl ?_
  clear hI; intro b4 c5 w3 hI
  obtain ⟨c6, hI⟩ := hI.relBox .z
  refine s_q rfl rfl (y_assign rfl ev_const) ?_
  refine s_nil ?_
  refine k_next (e := [(3, (Value.pointer (some ⟨b2, 0, none⟩))), (4, (Value.pointer (some ⟨b3, 0, none⟩))), (5, (Value.pointer (some ⟨b4, 0, none⟩)))]) ⟨rfl, rfl, rfl, trivial⟩ ?_
  refine c_seq ?_
  refine c_block ?_
  refine c_seq ?_
  refine c_region rfl ?_
  refine s_q rfl rfl (y_loadN (l := [(Value.int .i64 t1.Kind), (Value.int .i64 t1.Bits), (Value.int .i64 t1.Frac), (Value.int .i64 t1.Round), (Value.int .i64 t1.Over)]) rfl (ev_tmp rfl rfl) Tryz.underlying23 rfl size_23 (hI.kblk (l := [(Value.int .i64 t1.Kind), (Value.int .i64 t1.Bits), (Value.int .i64 t1.Frac), (Value.int .i64 t1.Round), (Value.int .i64 t1.Over)]) (.s (.s .z)) rfl).1) ?_
  refine s_q rfl rfl (y_loadN (l := [(Value.int .i64 a1.N), (Value.int .i64 a1.D)]) rfl (ev_tmp rfl rfl) Tryz.underlying27 rfl size_27 (hI.kblk (l := [(Value.int .i64 a1.N), (Value.int .i64 a1.D)]) (.s .z) rfl).1) ?_
  obtain ⟨r1, hx1, h⟩ := bnd_some h
  refine s_call rfl rfl (r_callF (vs := [(Value.agg #[(Value.int .i64 t1.Kind), (Value.int .i64 t1.Bits), (Value.int .i64 t1.Frac), (Value.int .i64 t1.Round), (Value.int .i64 t1.Over)]), (Value.agg #[(Value.int .i64 a1.N), (Value.int .i64 a1.D)])]) rfl ok_19 ⟨(ev_tmp rfl rfl), ⟨(ev_tmp rfl rfl), trivial⟩⟩) (Calls.mono (c_value_Valid (Dj F c6) w3 hI.lt t1 a1 trivial r1 hx1) ?_)
  rintro _ w4 ⟨rfl, hx2, hl1⟩
  refine ⟨_, rfl, ?_⟩
  replace hI := (hI.ext hx2)
  refine s_q rfl rfl (y_not rfl (ev_tmp rfl rfl)) ?_
  refine s_q rfl rfl (y_move rfl (ev_tmp rfl rfl)) ?_
  refine s_gval (g_false rfl rfl rfl rfl) rfl (fun hc => (y_loadN (l := [(Value.int .i64 t1.Kind), (Value.int .i64 t1.Bits), (Value.int .i64 t1.Frac), (Value.int .i64 t1.Round), (Value.int .i64 t1.Over)]) rfl (ev_tmp rfl rfl) Tryz.underlying23 rfl size_23 (hI.kblk (l := [(Value.int .i64 t1.Kind), (Value.int .i64 t1.Bits), (Value.int .i64 t1.Frac), (Value.int .i64 t1.Round), (Value.int .i64 t1.Over)]) (.s (.s .z)) rfl).1)) ?_
  refine s_gval (g_false rfl rfl rfl rfl) rfl (fun hc => (y_loadN (l := [(Value.int .i64 b1.N), (Value.int .i64 b1.D)]) rfl (ev_tmp rfl rfl) Tryz.underlying27 rfl size_27 (hI.kblk (l := [(Value.int .i64 b1.N), (Value.int .i64 b1.D)]) .z rfl).1)) ?_
  obtain ⟨r2, hx3, h⟩ := bnd_some h
  replace hx3 := gd_some hx3
  refine s_gcallU (v := (Value.bool r2)) (g_false rfl rfl rfl rfl) rfl (fun hc => (r_callF (vs := [(Value.agg #[(Value.int .i64 t1.Kind), (Value.int .i64 t1.Bits), (Value.int .i64 t1.Frac), (Value.int .i64 t1.Round), (Value.int .i64 t1.Over)]), (Value.agg #[(Value.int .i64 b1.N), (Value.int .i64 b1.D)])]) rfl ok_19 ⟨(ev_gv (ev_tmp rfl rfl) hc), ⟨(ev_gv (ev_tmp rfl rfl) hc), trivial⟩⟩)) (fun hc => (c_value_Valid (Dj F c6) w4 hI.lt t1 b1 trivial r2 (hx3 hc)).mono fun _ _ k => ⟨k.1, k.2.1⟩) ?_
  intro w5 hx4; replace hI := hI.ext hx4
  refine s_gval (g_false rfl rfl rfl rfl) rfl (fun hc => (y_not rfl (ev_gv (ev_tmp rfl rfl) hc))) ?_
  refine s_q rfl rfl (y_or rfl (ev_tmp rfl rfl) (ev_tmp rfl rfl)) ?_
  refine s_q rfl rfl (y_assign rfl (ev_tmp rfl rfl)) ?_
  refine s_nil ?_
  refine k_next (e := [(3, (Value.pointer (some ⟨b2, 0, none⟩))), (4, (Value.pointer (some ⟨b3, 0, none⟩))), (5, (Value.pointer (some ⟨b4, 0, none⟩))), (7, (Value.bool ((!r1) || (!r2))))]) ⟨rfl, rfl, rfl, rfl, trivial⟩ ?_
  refine c_cond (b := (!r1) || (!r2)) (ev_tmp rfl rfl) (fun hb => ?_) (fun hb => ?_)
  · replace h := ite_t hb h
    refine c_seq ?_
    refine c_region rfl ?_
    refine s_q rfl rfl (y_assign rfl ev_const) ?_
    refine s_nil ?_
    refine k_next (e := [(6, (Value.int .i64 0))]) ⟨rfl, trivial⟩ ?_
    refine c_ret ?_
    obtain rfl := some_inj h
    exact q_ret (vs := [(Value.int .i64 0)]) Tryz.results40 ⟨ev_tmp rfl rfl, trivial⟩ ⟨rfl, hI.ext0, hI.fin trivial⟩
  · replace h := ite_f hb h
    refine c_seq ?_
    refine c_region rfl ?_
    refine s_q rfl rfl (y_fieldAddr rfl (ev_tmp rfl rfl) Tryz.underlying23 rfl size_3 rfl) ?_
    refine s_q rfl rfl (y_load1 (v := (Value.int .i64 t1.Kind)) rfl (ev_tmp rfl rfl) Tryz.underlying3 rfl (hI.kblk (l := [(Value.int .i64 t1.Kind)]) (.s (.s .z)) rfl).1) ?_
    refine s_q rfl rfl (y_eql rfl (ev_tmp rfl rfl) ev_const) ?_
    refine s_q rfl rfl (y_assign rfl (ev_tmp rfl rfl)) ?_
    refine s_nil ?_
    refine k_next (e := [(4, (Value.pointer (some ⟨b3, 0, none⟩))), (5, (Value.pointer (some ⟨b4, 0, none⟩))), (18, (Value.bool (decide (t1.Kind = 1))))]) ⟨rfl, rfl, rfl, trivial⟩ ?_
    refine c_cond (b := decide (t1.Kind = 1)) (ev_tmp rfl rfl) (fun hb => ?_) (fun hb => ?_)
    · replace h := ite_t hb h
      refine c_seq ?_
      refine c_region rfl ?_
      refine s_q rfl rfl (y_loadN (l := [(Value.int .i64 a1.N), (Value.int .i64 a1.D)]) rfl (ev_tmp rfl rfl) Tryz.underlying27 rfl size_27 (hI.kblk (l := [(Value.int .i64 a1.N), (Value.int .i64 a1.D)]) (.s .z) rfl).1) ?_
      refine s_q rfl rfl (y_loadN (l := [(Value.int .i64 b1.N), (Value.int .i64 b1.D)]) rfl (ev_tmp rfl rfl) Tryz.underlying27 rfl size_27 (hI.kblk (l := [(Value.int .i64 b1.N), (Value.int .i64 b1.D)]) .z rfl).1) ?_
      obtain ⟨r3, hx5, h⟩ := bnd_some h
      refine s_call rfl rfl (r_callF (vs := [(Value.agg #[(Value.int .i64 a1.N), (Value.int .i64 a1.D)]), (Value.agg #[(Value.int .i64 b1.N), (Value.int .i64 b1.D)])]) rfl ok_73 ⟨(ev_tmp rfl rfl), ⟨(ev_tmp rfl rfl), trivial⟩⟩) (Calls.mono (c_frac_Compare (Dj F c6) w5 hI.lt a1 b1 trivial r3 hx5) ?_)
      rintro _ w6 ⟨rfl, hx6, hl3⟩
      refine ⟨_, rfl, ?_⟩
      replace hI := (hI.ext hx6)
      refine s_q rfl rfl (y_assign rfl (ev_tmp rfl rfl)) ?_
      refine s_nil ?_
      refine k_next (e := [(6, (Value.int .i64 r3))]) ⟨rfl, trivial⟩ ?_
      refine c_ret ?_
      obtain rfl := some_inj h
      exact q_ret (vs := [(Value.int .i64 r3)]) Tryz.results40 ⟨ev_tmp rfl rfl, trivial⟩ ⟨rfl, hI.ext0, hI.fin trivial⟩
    · replace h := ite_f hb h
      refine c_seq ?_
      refine c_region rfl ?_
      refine s_q rfl rfl (y_fieldAddr rfl (ev_tmp rfl rfl) Tryz.underlying27 rfl size_2 rfl) ?_
      refine s_q rfl rfl (y_load1 (v := (Value.int .i64 a1.N)) rfl (ev_tmp rfl rfl) Tryz.underlying2 rfl (hI.kblk (l := [(Value.int .i64 a1.N)]) (.s .z) rfl).1) ?_
      refine s_q rfl rfl (y_fieldAddr rfl (ev_tmp rfl rfl) Tryz.underlying27 rfl size_2 rfl) ?_
      refine s_q rfl rfl (y_load1 (v := (Value.int .i64 b1.N)) rfl (ev_tmp rfl rfl) Tryz.underlying2 rfl (hI.kblk (l := [(Value.int .i64 b1.N)]) .z rfl).1) ?_
      refine s_q rfl rfl (y_lss rfl (ev_tmp rfl rfl) (ev_tmp rfl rfl)) ?_
      refine s_q rfl rfl (y_assign rfl (ev_tmp rfl rfl)) ?_
      refine s_nil ?_
      refine k_next (e := [(4, (Value.pointer (some ⟨b3, 0, none⟩))), (5, (Value.pointer (some ⟨b4, 0, none⟩))), (25, (Value.bool (decide (a1.N < b1.N))))]) ⟨rfl, rfl, rfl, trivial⟩ ?_
      refine c_cond (b := decide (a1.N < b1.N)) (ev_tmp rfl rfl) (fun hb => ?_) (fun hb => ?_)
      · replace h := ite_t hb h
        refine c_seq ?_
        refine c_region rfl ?_
        refine s_q rfl rfl (y_assign rfl ev_const) ?_
        refine s_nil ?_
        refine k_next (e := [(6, (Value.int .i64 (-1)))]) ⟨rfl, trivial⟩ ?_
        refine c_ret ?_
        obtain rfl := some_inj h
        exact q_ret (vs := [(Value.int .i64 (-1))]) Tryz.results40 ⟨ev_tmp rfl rfl, trivial⟩ ⟨rfl, hI.ext0, hI.fin trivial⟩
      · replace h := ite_f hb h
        refine c_seq ?_
        refine c_region rfl ?_
        refine s_q rfl rfl (y_fieldAddr rfl (ev_tmp rfl rfl) Tryz.underlying27 rfl size_2 rfl) ?_
        refine s_q rfl rfl (y_load1 (v := (Value.int .i64 a1.N)) rfl (ev_tmp rfl rfl) Tryz.underlying2 rfl (hI.kblk (l := [(Value.int .i64 a1.N)]) (.s .z) rfl).1) ?_
        refine s_q rfl rfl (y_fieldAddr rfl (ev_tmp rfl rfl) Tryz.underlying27 rfl size_2 rfl) ?_
        refine s_q rfl rfl (y_load1 (v := (Value.int .i64 b1.N)) rfl (ev_tmp rfl rfl) Tryz.underlying2 rfl (hI.kblk (l := [(Value.int .i64 b1.N)]) .z rfl).1) ?_
        refine s_q rfl rfl (y_gtr rfl (ev_tmp rfl rfl) (ev_tmp rfl rfl)) ?_
        refine s_q rfl rfl (y_assign rfl (ev_tmp rfl rfl)) ?_
        refine s_nil ?_
        refine k_next (e := [(31, (Value.bool (decide (b1.N < a1.N))))]) ⟨rfl, trivial⟩ ?_
        refine c_cond (b := decide (b1.N < a1.N)) (ev_tmp rfl rfl) (fun hb => ?_) (fun hb => ?_)
        · replace h := ite_t hb h
          refine c_seq ?_
          refine c_region rfl ?_
          refine s_q rfl rfl (y_assign rfl ev_const) ?_
          refine s_nil ?_
          refine k_next (e := [(6, (Value.int .i64 1))]) ⟨rfl, trivial⟩ ?_
          refine c_ret ?_
          obtain rfl := some_inj h
          exact q_ret (vs := [(Value.int .i64 1)]) Tryz.results40 ⟨ev_tmp rfl rfl, trivial⟩ ⟨rfl, hI.ext0, hI.fin trivial⟩
        · replace h := ite_f hb h
          refine c_skip ?_
          refine k_next (e := []) trivial ?_
          refine c_seq ?_
          refine c_region rfl ?_
          refine s_q rfl rfl (y_assign rfl ev_const) ?_
          refine s_nil ?_
          refine k_next (e := [(6, (Value.int .i64 0))]) ⟨rfl, trivial⟩ ?_
          refine c_ret ?_
          obtain rfl := some_inj h
          exact q_ret (vs := [(Value.int .i64 0)]) Tryz.results40 ⟨ev_tmp rfl rfl, trivial⟩ ⟨rfl, hI.ext0, hI.fin trivial⟩

set_option maxRecDepth 100000 in
set_option maxHeartbeats 4000000 in
theorem c_value_integer (F : NP) (w0 : World) (hF : ∀ k, F k → k < w0.heap.size) (op1 : Int) (a1 : Int) (b1 : Int) (hc : AllCl [] F w0) (r : GVal × Int)
    (h : m_value_integer op1 a1 b1 = some r) :
    Calls Tryz.prog 74 #[(Value.int .i64 op1), (Value.int .i64 a1), (Value.int .i64 b1)] w0 fun e w => e = .returned (Value.tuple #[(Value.agg #[(Value.int .i64 r.1.N), (Value.int .i64 r.1.D)]), (Value.int .i64 r.2)]) ∧ Ext w0 w ∧ AllCl [] F w := by
  refine ofEnter (R := fun v w => v = (Value.tuple #[(Value.agg #[(Value.int .i64 r.1.N), (Value.int .i64 r.1.D)]), (Value.int .i64 r.2)]) ∧ Ext w0 w ∧ AllCl [] F w) (enter (l := [(Value.int .i64 op1), (Value.int .i64 a1), (Value.int .i64 b1)]) Tryz.func74 rfl Tryz.ntmps74 rfl ?_) ?_
  rotate_left
  · rintro _ w ⟨rfl, k1, k2⟩; exact ⟨rfl, k1, k2⟩
  have hI := Bun.start hF hc
  clear hc
  rw [m_value_integer] at h
  refine c_seq ?_
  refine c_region rfl ?_
  refine l_alloc (cs := #[(Value.int .i64 0), (Value.int .i64 0)]) hI rfl rfl rfl zero_27 rfl ?_
  clear hI; intro b2 c1 w1 hI
  refine s_q rfl rfl (y_assign rfl ev_const) ?_
  refine s_nil ?_
  refine k_next (e := [(0, (Value.int .i64 op1)), (1, (Value.int .i64 a1)), (2, (Value.int .i64 b1)), (6, (Value.pointer (some ⟨b2, 0, none⟩)))]) ⟨rfl, rfl, rfl, rfl, trivial⟩ ?_
  refine c_seq ?_
  refine c_region rfl ?_
  refine s_q rfl rfl (y_assign rfl ev_const) ?_
  refine s_nil ?_
  refine k_next (e := [(0, (Value.int .i64 op1)), (1, (Value.int .i64 a1)), (2, (Value.int .i64 b1)), (6, (Value.pointer (some ⟨b2, 0, none⟩)))]) ⟨rfl, rfl, rfl, rfl, trivial⟩ ?_
  refine c_join (α := Int) (fun _ => ⟨50, []⟩) (fun x => [(6, (Value.pointer (some ⟨b2, 0, none⟩))), (8, (Value.int .i64 x))]) (fun x => fun w => ∃ C, Bun noM F w0 C w [MO.box b2 27 #[(Value.int .i64 0), (Value.int .i64 0)]] [] ∧ m_value_integer_j1 x = some r) ?_ ?_
  · clear h hI; rintro n1 w2 ⟨c2, hI, h⟩
    try dsimp only at hI h
    rw [m_value_integer_j1] at h
    refine c_sub (e := [(6, (Value.pointer (some ⟨b2, 0, none⟩))), (8, (Value.int .i64 n1))]) ⟨rfl, rfl, trivial⟩ ?_
    refine c_seq ?_
    refine c_seq ?_
    refine c_region rfl ?_
    refine s_q rfl rfl (y_move rfl (ev_tmp rfl rfl)) ?_
    obtain ⟨r1, hx1, h⟩ := bnd_some h
    refine s_call rfl rfl (r_callF (vs := [(Value.int .i64 n1)]) rfl ok_44 ⟨(ev_tmp rfl rfl), trivial⟩) (Calls.mono (c_value_whole (Dj F c2) w2 hI.lt n1 trivial r1 hx1) ?_)
    rintro _ w3 ⟨rfl, hx2, hl1⟩
    refine ⟨_, rfl, ?_⟩
    replace hI := (hI.ext hx2)
    refine s_q rfl rfl (y_not rfl (ev_tmp rfl rfl)) ?_
    refine s_nil ?_
    refine k_next (e := [(6, (Value.pointer (some ⟨b2, 0, none⟩))), (8, (Value.int .i64 n1)), (46, (Value.bool (!r1)))]) ⟨rfl, rfl, rfl, trivial⟩ ?_
    refine c_cond (b := !r1) (ev_tmp rfl rfl) (fun hb => ?_) (fun hb => ?_)
    · replace h := ite_t hb h
      refine c_seq ?_
      refine c_region rfl ?_
      refine s_q rfl rfl (y_build (vs := []) (cs := #[(Value.int .i64 0), (Value.int .i64 0)]) rfl trivial (by kernel_rfl)) ?_
      refine l_store (new := [(Value.int .i64 0), (Value.int .i64 0)]) (cs' := #[(Value.int .i64 0), (Value.int .i64 0)]) hI .z rfl rfl rfl (ev_tmp rfl rfl) (ev_tmp rfl rfl) rfl size_27 rfl rfl rfl ?_
      clear hI; intro c3 w4 hI
      refine s_q rfl rfl (y_assign rfl ev_const) ?_
      refine s_nil ?_
      refine k_next (e := [(6, (Value.pointer (some ⟨b2, 0, none⟩))), (7, (Value.int .i64 3))]) ⟨rfl, rfl, trivial⟩ ?_
      refine c_ret ?_
      obtain rfl := some_inj h
      exact q_ret (vs := [(Value.agg #[(Value.int .i64 0), (Value.int .i64 0)]), (Value.int .i64 3)]) Tryz.results74 ⟨⟨_, ev_tmp rfl rfl, load_agg (l := [(Value.int .i64 0), (Value.int .i64 0)]) Tryz.underlying27 rfl size_27 (CellsAt.of_blk (hI.blk .z) rfl)⟩, ⟨ev_tmp rfl rfl, trivial⟩⟩ ⟨rfl, hI.ext0, hI.fin trivial⟩
    · replace h := ite_f hb h
      refine c_skip ?_
      refine k_next (e := [(6, (Value.pointer (some ⟨b2, 0, none⟩))), (8, (Value.int .i64 n1))]) ⟨rfl, rfl, trivial⟩ ?_
      refine c_seq ?_
      refine c_region rfl ?_
      refine s_q rfl rfl (y_move rfl (ev_tmp rfl rfl)) ?_
      refine s_q rfl rfl (y_build (vs := [(0, (Value.int .i64 n1)), (1, (Value.int .i64 1))]) (cs := #[(Value.int .i64 n1), (Value.int .i64 1)]) rfl ⟨rfl, (ev_tmp rfl rfl), ⟨rfl, ev_const, trivial⟩⟩ (by kernel_rfl)) ?_
      refine l_store (new := [(Value.int .i64 n1), (Value.int .i64 1)]) (cs' := #[(Value.int .i64 n1), (Value.int .i64 1)]) hI .z rfl rfl rfl (ev_tmp rfl rfl) (ev_tmp rfl rfl) rfl size_27 rfl rfl rfl ?_
      clear hI; intro c4 w5 hI
      refine s_q rfl rfl (y_assign rfl ev_const) ?_
      refine s_nil ?_
      refine k_next (e := [(6, (Value.pointer (some ⟨b2, 0, none⟩))), (7, (Value.int .i64 0))]) ⟨rfl, rfl, trivial⟩ ?_
      refine c_ret ?_
      obtain rfl := some_inj h
      exact q_ret (vs := [(Value.agg #[(Value.int .i64 n1), (Value.int .i64 1)]), (Value.int .i64 0)]) Tryz.results74 ⟨⟨_, ev_tmp rfl rfl, load_agg (l := [(Value.int .i64 n1), (Value.int .i64 1)]) Tryz.underlying27 rfl size_27 (CellsAt.of_blk (hI.blk .z) rfl)⟩, ⟨ev_tmp rfl rfl, trivial⟩⟩ ⟨rfl, hI.ext0, hI.fin trivial⟩
  · skip
    refine c_seq ?_
    refine c_region rfl ?_
    refine s_q rfl rfl (y_move rfl (ev_tmp rfl rfl)) ?_
    refine s_nil ?_
    refine k_next (e := [(1, (Value.int .i64 a1)), (2, (Value.int .i64 b1)), (6, (Value.pointer (some ⟨b2, 0, none⟩))), (9, (Value.int .i64 op1))]) ⟨rfl, rfl, rfl, rfl, trivial⟩ ?_
    refine c_block ?_
    refine c_seq ?_
    refine c_region rfl ?_
    refine s_q rfl rfl (y_eql rfl (ev_tmp rfl rfl) ev_const) ?_
    refine s_q rfl rfl (y_assign rfl (ev_tmp rfl rfl)) ?_
    refine s_nil ?_
    refine k_next (e := [(1, (Value.int .i64 a1)), (2, (Value.int .i64 b1)), (6, (Value.pointer (some ⟨b2, 0, none⟩))), (9, (Value.int .i64 op1)), (29, (Value.bool (decide (op1 = 4))))]) ⟨rfl, rfl, rfl, rfl, rfl, trivial⟩ ?_
    refine c_cond (b := decide (op1 = 4)) (ev_tmp rfl rfl) (fun hb => ?_) (fun hb => ?_)
    · replace h := ite_t hb h
      refine c_region rfl ?_
      refine s_q rfl rfl (y_move rfl (ev_tmp rfl rfl)) ?_
      refine s_q rfl rfl (y_move rfl (ev_tmp rfl rfl)) ?_
      refine s_q rfl rfl (y_add rfl (ev_tmp rfl rfl) (ev_tmp rfl rfl)) ?_
      refine s_q rfl rfl (y_assign rfl (ev_tmp rfl rfl)) ?_
      refine s_nil ?_
      exact k_join (wi64 (a1 + b1)) ⟨rfl, rfl, trivial⟩ ⟨_, hI.arr (.c .z .n) trivial, h⟩ rfl
    · replace h := ite_f hb h
      refine c_seq ?_
      refine c_region rfl ?_
      refine s_q rfl rfl (y_eql rfl (ev_tmp rfl rfl) ev_const) ?_
      refine s_q rfl rfl (y_assign rfl (ev_tmp rfl rfl)) ?_
      refine s_nil ?_
      refine k_next (e := [(1, (Value.int .i64 a1)), (2, (Value.int .i64 b1)), (6, (Value.pointer (some ⟨b2, 0, none⟩))), (9, (Value.int .i64 op1)), (34, (Value.bool (decide (op1 = 5))))]) ⟨rfl, rfl, rfl, rfl, rfl, trivial⟩ ?_
      refine c_cond (b := decide (op1 = 5)) (ev_tmp rfl rfl) (fun hb => ?_) (fun hb => ?_)
      · replace h := ite_t hb h
        refine c_region rfl ?_
        refine s_q rfl rfl (y_move rfl (ev_tmp rfl rfl)) ?_
        refine s_q rfl rfl (y_move rfl (ev_tmp rfl rfl)) ?_
        refine s_q rfl rfl (y_sub rfl (ev_tmp rfl rfl) (ev_tmp rfl rfl)) ?_
        refine s_q rfl rfl (y_assign rfl (ev_tmp rfl rfl)) ?_
        refine s_nil ?_
        exact k_join (wi64 (a1 - b1)) ⟨rfl, rfl, trivial⟩ ⟨_, hI.arr (.c .z .n) trivial, h⟩ rfl
      · replace h := ite_f hb h
        refine c_seq ?_
        refine c_region rfl ?_
        refine s_q rfl rfl (y_eql rfl (ev_tmp rfl rfl) ev_const) ?_
        refine s_q rfl rfl (y_assign rfl (ev_tmp rfl rfl)) ?_
        refine s_nil ?_
        refine k_next (e := [(1, (Value.int .i64 a1)), (2, (Value.int .i64 b1)), (6, (Value.pointer (some ⟨b2, 0, none⟩))), (39, (Value.bool (decide (op1 = 6))))]) ⟨rfl, rfl, rfl, rfl, trivial⟩ ?_
        refine c_cond (b := decide (op1 = 6)) (ev_tmp rfl rfl) (fun hb => ?_) (fun hb => ?_)
        · replace h := ite_t hb h
          refine c_region rfl ?_
          refine s_q rfl rfl (y_move rfl (ev_tmp rfl rfl)) ?_
          refine s_q rfl rfl (y_move rfl (ev_tmp rfl rfl)) ?_
          refine s_q rfl rfl (y_mul rfl (ev_tmp rfl rfl) (ev_tmp rfl rfl)) ?_
          refine s_q rfl rfl (y_assign rfl (ev_tmp rfl rfl)) ?_
          refine s_nil ?_
          exact k_join (wi64 (a1 * b1)) ⟨rfl, rfl, trivial⟩ ⟨_, hI.arr (.c .z .n) trivial, h⟩ rfl
        · replace h := ite_f hb h
          refine c_seq ?_
          refine c_seq ?_
          refine c_region rfl ?_
          refine s_q rfl rfl (y_move rfl (ev_tmp rfl rfl)) ?_
          refine s_q rfl rfl (y_eql rfl (ev_tmp rfl rfl) ev_const) ?_
          refine s_nil ?_
          refine k_next (e := [(1, (Value.int .i64 a1)), (2, (Value.int .i64 b1)), (6, (Value.pointer (some ⟨b2, 0, none⟩))), (11, (Value.bool (decide (b1 = 0))))]) ⟨rfl, rfl, rfl, rfl, trivial⟩ ?_
          refine c_cond (b := decide (b1 = 0)) (ev_tmp rfl rfl) (fun hb => ?_) (fun hb => ?_)
          · replace h := ite_t hb h
            refine c_seq ?_
            refine c_region rfl ?_
            refine s_q rfl rfl (y_build (vs := []) (cs := #[(Value.int .i64 0), (Value.int .i64 0)]) rfl trivial (by kernel_rfl)) ?_
            refine l_store (new := [(Value.int .i64 0), (Value.int .i64 0)]) (cs' := #[(Value.int .i64 0), (Value.int .i64 0)]) hI .z rfl rfl rfl (ev_tmp rfl rfl) (ev_tmp rfl rfl) rfl size_27 rfl rfl rfl ?_
            clear hI; intro c5 w6 hI
            refine s_q rfl rfl (y_assign rfl ev_const) ?_
            refine s_nil ?_
            refine k_next (e := [(6, (Value.pointer (some ⟨b2, 0, none⟩))), (7, (Value.int .i64 4))]) ⟨rfl, rfl, trivial⟩ ?_
            refine c_ret ?_
            obtain rfl := some_inj h
            exact q_ret (vs := [(Value.agg #[(Value.int .i64 0), (Value.int .i64 0)]), (Value.int .i64 4)]) Tryz.results74 ⟨⟨_, ev_tmp rfl rfl, load_agg (l := [(Value.int .i64 0), (Value.int .i64 0)]) Tryz.underlying27 rfl size_27 (CellsAt.of_blk (hI.blk .z) rfl)⟩, ⟨ev_tmp rfl rfl, trivial⟩⟩ ⟨rfl, hI.ext0, hI.fin trivial⟩
          · replace h := ite_f hb h
            refine c_skip ?_
            refine k_next (e := [(1, (Value.int .i64 a1)), (2, (Value.int .i64 b1)), (6, (Value.pointer (some ⟨b2, 0, none⟩)))]) ⟨rfl, rfl, rfl, trivial⟩ ?_
            refine c_seq ?_
            refine c_region rfl ?_
            refine s_q rfl rfl (y_move rfl (ev_tmp rfl rfl)) ?_
            refine s_q rfl rfl (y_move rfl (ev_tmp rfl rfl)) ?_
            obtain ⟨ho1, h⟩ := chk_some h
            refine s_q rfl rfl (y_quo rfl (ev_tmp rfl rfl) (ev_tmp rfl rfl) ho1) ?_
            refine s_q rfl rfl (y_assign rfl (ev_tmp rfl rfl)) ?_
            refine s_nil ?_
            refine k_next (e := [(1, (Value.int .i64 a1)), (2, (Value.int .i64 b1)), (6, (Value.pointer (some ⟨b2, 0, none⟩))), (8, (Value.int .i64 (wi64 (Int.tdiv a1 b1))))]) ⟨rfl, rfl, rfl, rfl, trivial⟩ ?_
            refine c_seq ?_
            refine c_region rfl ?_
            refine s_q rfl rfl (y_move rfl (ev_tmp rfl rfl)) ?_
            refine s_q rfl rfl (y_move rfl (ev_tmp rfl rfl)) ?_
            refine s_q rfl rfl (y_rem rfl (ev_tmp rfl rfl) (ev_tmp rfl rfl) ho1) ?_
            refine s_q rfl rfl (y_neq rfl (ev_tmp rfl rfl) ev_const) ?_
            refine s_q rfl rfl (y_move rfl (ev_tmp rfl rfl)) ?_
            refine s_gval (g_true rfl rfl rfl rfl) rfl (fun hc => (y_move rfl (ev_tmp rfl rfl))) ?_
            refine s_gval (g_true rfl rfl rfl rfl) rfl (fun hc => (y_lss rfl (ev_gv (ev_tmp rfl rfl) hc) ev_const)) ?_
            refine s_gval (g_true rfl rfl rfl rfl) rfl (fun hc => (y_move rfl (ev_tmp rfl rfl))) ?_
            refine s_gval (g_true rfl rfl rfl rfl) rfl (fun hc => (y_lss rfl (ev_gv (ev_tmp rfl rfl) hc) ev_const)) ?_
            refine s_gval (g_true rfl rfl rfl rfl) rfl (fun hc => (y_neb rfl Tryz.underlying4 (ev_gv (ev_tmp rfl rfl) hc) (ev_gv (ev_tmp rfl rfl) hc))) ?_
            refine s_q rfl rfl (y_and rfl (ev_tmp rfl rfl) (ev_tmp rfl rfl)) ?_
            refine s_nil ?_
            refine k_next (e := [(6, (Value.pointer (some ⟨b2, 0, none⟩))), (8, (Value.int .i64 (wi64 (Int.tdiv a1 b1)))), (26, (Value.bool ((!decide (Int.tmod a1 b1 = 0)) && ((decide (a1 < 0)) != (decide (b1 < 0))))))]) ⟨rfl, rfl, rfl, trivial⟩ ?_
            refine c_cond (b := (!decide (Int.tmod a1 b1 = 0)) && ((decide (a1 < 0)) != (decide (b1 < 0)))) (ev_tmp rfl rfl) (fun hb => ?_) (fun hb => ?_)
            · replace h := ite_t hb h
              refine c_region rfl ?_
              refine s_q rfl rfl (y_move rfl (ev_tmp rfl rfl)) ?_
              refine s_q rfl rfl (y_sub rfl (ev_tmp rfl rfl) ev_const) ?_
              obtain ⟨n2, hx3, h⟩ := bnd_some h
              refine s_q rfl rfl (binU (y_assign rfl (ev_tmp rfl rfl)) (congrArg (Value.int .i64) (some_inj hx3))) ?_
              refine s_nil ?_
              exact k_join n2 ⟨rfl, rfl, trivial⟩ ⟨_, hI.arr (.c .z .n) trivial, h⟩ rfl
            · replace h := ite_f hb h
              refine c_skip ?_
              exact k_join (wi64 (Int.tdiv a1 b1)) ⟨rfl, rfl, trivial⟩ ⟨_, hI.arr (.c .z .n) trivial, h⟩ rfl

set_option maxRecDepth 100000 in
set_option maxHeartbeats 4000000 in
theorem c_fixed_Add_1 (F : NP) (w0 : World) (hF : ∀ k, F k → k < w0.heap.size) (a1 : GType) (x1 : Int) (y1 : Int) (hc : AllCl [] F w0) (r : Int × Int)
    (h : m_fixed_Add_1 a1 x1 y1 = some r) :
    Calls Tryz.prog 104 #[(Value.agg #[(Value.int .i64 a1.Kind), (Value.int .i64 a1.Bits), (Value.int .i64 a1.Frac), (Value.int .i64 a1.Round), (Value.int .i64 a1.Over)]), (Value.int .i64 x1), (Value.int .i64 y1)] w0 fun e w => e = .returned (Value.tuple #[(Value.int .i64 r.1), (Value.int .i64 r.2)]) ∧ Ext w0 w ∧ AllCl [] F w := by
  refine ofEnter (R := fun v w => v = (Value.tuple #[(Value.int .i64 r.1), (Value.int .i64 r.2)]) ∧ Ext w0 w ∧ AllCl [] F w) (enter (l := [(Value.agg #[(Value.int .i64 a1.Kind), (Value.int .i64 a1.Bits), (Value.int .i64 a1.Frac), (Value.int .i64 a1.Round), (Value.int .i64 a1.Over)]), (Value.int .i64 x1), (Value.int .i64 y1)]) Tryz.func104 rfl Tryz.ntmps104 rfl ?_) ?_
  rotate_left
  · rintro _ w ⟨rfl, k1, k2⟩; exact ⟨rfl, k1, k2⟩
  have hI := Bun.start hF hc
  clear hc
  rw [m_fixed_Add_1] at h
  refine c_seq ?_
  refine c_region rfl ?_
  refine l_box (v := (Value.agg #[(Value.int .i64 a1.Kind), (Value.int .i64 a1.Bits), (Value.int .i64 a1.Frac), (Value.int .i64 a1.Round), (Value.int .i64 a1.Over)])) (cs := #[(Value.int .i64 a1.Kind), (Value.int .i64 a1.Bits), (Value.int .i64 a1.Frac), (Value.int .i64 a1.Round), (Value.int .i64 a1.Over)]) hI rfl rfl rfl (ev_tmp rfl rfl) rfl ?_
  clear hI; intro b1 c1 w1 hI
  obtain ⟨c2, hI⟩ := hI.relBox .z
  refine s_q rfl rfl (y_assign rfl ev_const) ?_
  refine s_q rfl rfl (y_assign rfl ev_const) ?_
  refine s_nil ?_
  refine k_next (e := [(1, (Value.int .i64 x1)), (2, (Value.int .i64 y1))]) ⟨rfl, rfl, trivial⟩ ?_
  refine c_seq ?_
  refine c_region rfl ?_
  refine s_q rfl rfl (y_move rfl (ev_tmp rfl rfl)) ?_
  refine s_q rfl rfl (y_move rfl (ev_tmp rfl rfl)) ?_
  refine s_q rfl rfl (y_add rfl (ev_tmp rfl rfl) (ev_tmp rfl rfl)) ?_
  refine s_q rfl rfl (y_assign rfl (ev_tmp rfl rfl)) ?_
  refine s_q rfl rfl (y_assign rfl ev_const) ?_
  refine s_nil ?_
  refine k_next (e := [(6, (Value.int .i64 (wi64 (x1 + y1)))), (7, (Value.int .i64 0))]) ⟨rfl, rfl, trivial⟩ ?_
  refine c_ret ?_
  obtain rfl := some_inj h
  exact q_ret (vs := [(Value.int .i64 (wi64 (x1 + y1))), (Value.int .i64 0)]) Tryz.results104 ⟨ev_tmp rfl rfl, ⟨ev_tmp rfl rfl, trivial⟩⟩ ⟨rfl, hI.ext0, hI.fin trivial⟩

set_option maxRecDepth 100000 in
set_option maxHeartbeats 4000000 in
theorem c_fixed_Add (F : NP) (w0 : World) (hF : ∀ k, F k → k < w0.heap.size) (t1 : GType) (a1 : GVal) (b1 : GVal) (hc : AllCl [] F w0) (r : GVal × Int)
    (h : m_fixed_Add t1 a1 b1 = some r) :
    Calls Tryz.prog 75 #[(Value.agg #[(Value.int .i64 t1.Kind), (Value.int .i64 t1.Bits), (Value.int .i64 t1.Frac), (Value.int .i64 t1.Round), (Value.int .i64 t1.Over)]), (Value.agg #[(Value.int .i64 a1.N), (Value.int .i64 a1.D)]), (Value.agg #[(Value.int .i64 b1.N), (Value.int .i64 b1.D)])] w0 fun e w => e = .returned (Value.tuple #[(Value.agg #[(Value.int .i64 r.1.N), (Value.int .i64 r.1.D)]), (Value.int .i64 r.2)]) ∧ Ext w0 w ∧ AllCl [] F w := by
  refine ofEnter (R := fun v w => v = (Value.tuple #[(Value.agg #[(Value.int .i64 r.1.N), (Value.int .i64 r.1.D)]), (Value.int .i64 r.2)]) ∧ Ext w0 w ∧ AllCl [] F w) (enter (l := [(Value.agg #[(Value.int .i64 t1.Kind), (Value.int .i64 t1.Bits), (Value.int .i64 t1.Frac), (Value.int .i64 t1.Round), (Value.int .i64 t1.Over)]), (Value.agg #[(Value.int .i64 a1.N), (Value.int .i64 a1.D)]), (Value.agg #[(Value.int .i64 b1.N), (Value.int .i64 b1.D)])]) Tryz.func75 rfl Tryz.ntmps75 rfl ?_) ?_
  rotate_left
  · rintro _ w ⟨rfl, k1, k2⟩; exact ⟨rfl, k1, k2⟩
  have hI := Bun.start hF hc
  clear hc
  rw [m_fixed_Add] at h
  refine c_seq ?_
  refine c_region rfl ?_
  refine l_box (v := (Value.agg #[(Value.int .i64 t1.Kind), (Value.int .i64 t1.Bits), (Value.int .i64 t1.Frac), (Value.int .i64 t1.Round), (Value.int .i64 t1.Over)])) (cs := #[(Value.int .i64 t1.Kind), (Value.int .i64 t1.Bits), (Value.int .i64 t1.Frac), (Value.int .i64 t1.Round), (Value.int .i64 t1.Over)]) hI rfl rfl rfl (ev_tmp rfl rfl) rfl ?_
  clear hI; intro b2 c1 w1 hI
  obtain ⟨c2, hI⟩ := hI.relBox .z
  refine l_box (v := (Value.agg #[(Value.int .i64 a1.N), (Value.int .i64 a1.D)])) (cs := #[(Value.int .i64 a1.N), (Value.int .i64 a1.D)]) hI rfl rfl rfl (ev_tmp rfl rfl) rfl ?_
  clear hI; intro b3 c3 w2 hI
  obtain ⟨c4, hI⟩ := hI.relBox .z
  refine l_box (v := (Value.agg #[(Value.int .i64 b1.N), (Value.int .i64 b1.D)])) (cs := #[(Value.int .i64 b1.N), (Value.int .i64 b1.D)]) hI rfl rfl rfl (ev_tmp rfl rfl) rfl ?_
  clear hI; intro b4 c5 w3 hI
  obtain ⟨c6, hI⟩ := hI.relBox .z
  refine l_alloc (cs := #[(Value.int .i64 0), (Value.int .i64 0)]) hI rfl rfl rfl zero_27 rfl ?_
  clear hI; intro b5 c7 w4 hI
  refine s_q rfl rfl (y_assign rfl ev_const) ?_
  refine s_nil ?_
  refine k_next (e := [(3, (Value.pointer (some ⟨b2, 0, none⟩))), (4, (Value.pointer (some ⟨b3, 0, none⟩))), (5, (Value.pointer (some ⟨b4, 0, none⟩))), (6, (Value.pointer (some ⟨b5, 0, none⟩)))]) ⟨rfl, rfl, rfl, rfl, trivial⟩ ?_
  refine c_seq ?_
  refine c_region rfl ?_
  refine s_q rfl rfl (y_build (vs := [(0, (Value.func (.func 104) #[] #[]))]) (cs := #[(Value.func (.func 104) #[] #[])]) rfl ⟨rfl, ev_func, trivial⟩ (by kernel_rfl)) ?_
  refine s_q rfl rfl (y_loadN (l := [(Value.int .i64 t1.Kind), (Value.int .i64 t1.Bits), (Value.int .i64 t1.Frac), (Value.int .i64 t1.Round), (Value.int .i64 t1.Over)]) rfl (ev_tmp rfl rfl) Tryz.underlying23 rfl size_23 (hI.kblk (l := [(Value.int .i64 t1.Kind), (Value.int .i64 t1.Bits), (Value.int .i64 t1.Frac), (Value.int .i64 t1.Round), (Value.int .i64 t1.Over)]) (.s (.s .z)) rfl).1) ?_
  refine s_q rfl rfl (y_loadN (l := [(Value.int .i64 a1.N), (Value.int .i64 a1.D)]) rfl (ev_tmp rfl rfl) Tryz.underlying27 rfl size_27 (hI.kblk (l := [(Value.int .i64 a1.N), (Value.int .i64 a1.D)]) (.s .z) rfl).1) ?_
  refine s_q rfl rfl (y_loadN (l := [(Value.int .i64 b1.N), (Value.int .i64 b1.D)]) rfl (ev_tmp rfl rfl) Tryz.underlying27 rfl size_27 (hI.kblk (l := [(Value.int .i64 b1.N), (Value.int .i64 b1.D)]) .z rfl).1) ?_
  have hI := hI.add (c := clFn_k1 (Value.func (.func 104) #[] #[]) m_fixed_Add_1) ⟨rfl, fun D' w' hs hl x1 x2 x3 r k h => CallV.fn (cap := []) ok_104 (c_fixed_Add_1 D' w' hl x1 x2 x3 trivial r h)⟩
  obtain ⟨r1, hx1, h⟩ := bnd_some h
  refine s_call rfl rfl (r_callF (vs := [(Value.agg #[(Value.func (.func 104) #[] #[])]), (Value.agg #[(Value.int .i64 t1.Kind), (Value.int .i64 t1.Bits), (Value.int .i64 t1.Frac), (Value.int .i64 t1.Round), (Value.int .i64 t1.Over)]), (Value.agg #[(Value.int .i64 a1.N), (Value.int .i64 a1.D)]), (Value.agg #[(Value.int .i64 b1.N), (Value.int .i64 b1.D)])]) rfl ok_101 ⟨(ev_tmp rfl rfl), ⟨(ev_tmp rfl rfl), ⟨(ev_tmp rfl rfl), ⟨(ev_tmp rfl rfl), trivial⟩⟩⟩⟩) (Calls.mono (c_fixed_apply (Dj F c7) w4 hI.lt (⟨m_fixed_Add_1⟩ : Gfixed_operation) t1 a1 b1 (Value.func (.func 104) #[] #[]) ⟨(hI.get .z), trivial⟩ r1 hx1) ?_)
  rintro _ w5 ⟨rfl, hx2, hl1⟩
  refine ⟨_, rfl, ?_⟩
  replace hI := (hI.ext hx2)
  refine s_q rfl rfl (y_extract rfl (ev_tmp rfl rfl) rfl) ?_
  refine s_q rfl rfl (y_extract rfl (ev_tmp rfl rfl) rfl) ?_
  refine l_store (new := [(Value.int .i64 r1.1.N), (Value.int .i64 r1.1.D)]) (cs' := #[(Value.int .i64 r1.1.N), (Value.int .i64 r1.1.D)]) hI .z rfl rfl rfl (ev_tmp rfl rfl) (ev_tmp rfl rfl) rfl size_27 rfl rfl rfl ?_
  clear hI; intro c8 w6 hI
  refine s_q rfl rfl (y_assign rfl (ev_tmp rfl rfl)) ?_
  refine s_nil ?_
  refine k_next (e := [(6, (Value.pointer (some ⟨b5, 0, none⟩))), (7, (Value.int .i64 r1.2))]) ⟨rfl, rfl, trivial⟩ ?_
  refine c_ret ?_
  obtain rfl := some_inj h
  exact q_ret (vs := [(Value.agg #[(Value.int .i64 r1.1.N), (Value.int .i64 r1.1.D)]), (Value.int .i64 r1.2)]) Tryz.results75 ⟨⟨_, ev_tmp rfl rfl, load_agg (l := [(Value.int .i64 r1.1.N), (Value.int .i64 r1.1.D)]) Tryz.underlying27 rfl size_27 (CellsAt.of_blk (hI.blk .z) rfl)⟩, ⟨ev_tmp rfl rfl, trivial⟩⟩ ⟨rfl, hI.ext0, hI.fin trivial⟩

set_option maxRecDepth 100000 in
set_option maxHeartbeats 4000000 in
theorem c_fixed_Sub_1 (F : NP) (w0 : World) (hF : ∀ k, F k → k < w0.heap.size) (a1 : GType) (x1 : Int) (y1 : Int) (hc : AllCl [] F w0) (r : Int × Int)
    (h : m_fixed_Sub_1 a1 x1 y1 = some r) :
    Calls Tryz.prog 105 #[(Value.agg #[(Value.int .i64 a1.Kind), (Value.int .i64 a1.Bits), (Value.int .i64 a1.Frac), (Value.int .i64 a1.Round), (Value.int .i64 a1.Over)]), (Value.int .i64 x1), (Value.int .i64 y1)] w0 fun e w => e = .returned (Value.tuple #[(Value.int .i64 r.1), (Value.int .i64 r.2)]) ∧ Ext w0 w ∧ AllCl [] F w := by
  refine ofEnter (R := fun v w => v = (Value.tuple #[(Value.int .i64 r.1), (Value.int .i64 r.2)]) ∧ Ext w0 w ∧ AllCl [] F w) (enter (l := [(Value.agg #[(Value.int .i64 a1.Kind), (Value.int .i64 a1.Bits), (Value.int .i64 a1.Frac), (Value.int .i64 a1.Round), (Value.int .i64 a1.Over)]), (Value.int .i64 x1), (Value.int .i64 y1)]) Tryz.func105 rfl Tryz.ntmps105 rfl ?_) ?_
  rotate_left
  · rintro _ w ⟨rfl, k1, k2⟩; exact ⟨rfl, k1, k2⟩
  have hI := Bun.start hF hc
  clear hc
  rw [m_fixed_Sub_1] at h
  refine c_seq ?_
  refine c_region rfl ?_
  refine l_box (v := (Value.agg #[(Value.int .i64 a1.Kind), (Value.int .i64 a1.Bits), (Value.int .i64 a1.Frac), (Value.int .i64 a1.Round), (Value.int .i64 a1.Over)])) (cs := #[(Value.int .i64 a1.Kind), (Value.int .i64 a1.Bits), (Value.int .i64 a1.Frac), (Value.int .i64 a1.Round), (Value.int .i64 a1.Over)]) hI rfl rfl rfl (ev_tmp rfl rfl) rfl ?_
  clear hI; intro b1 c1 w1 hI
  obtain ⟨c2, hI⟩ := hI.relBox .z
  refine s_q rfl rfl (y_assign rfl ev_const) ?_
  refine s_q rfl rfl (y_assign rfl ev_const) ?_
  refine s_nil ?_
  refine k_next (e := [(1, (Value.int .i64 x1)), (2, (Value.int .i64 y1))]) ⟨rfl, rfl, trivial⟩ ?_
  refine c_seq ?_
  refine c_region rfl ?_
  refine s_q rfl rfl (y_move rfl (ev_tmp rfl rfl)) ?_
  refine s_q rfl rfl (y_move rfl (ev_tmp rfl rfl)) ?_
  refine s_q rfl rfl (y_sub rfl (ev_tmp rfl rfl) (ev_tmp rfl rfl)) ?_
  refine s_q rfl rfl (y_assign rfl (ev_tmp rfl rfl)) ?_
  refine s_q rfl rfl (y_assign rfl ev_const) ?_
  refine s_nil ?_
  refine k_next (e := [(6, (Value.int .i64 (wi64 (x1 - y1)))), (7, (Value.int .i64 0))]) ⟨rfl, rfl, trivial⟩ ?_
  refine c_ret ?_
  obtain rfl := some_inj h
  exact q_ret (vs := [(Value.int .i64 (wi64 (x1 - y1))), (Value.int .i64 0)]) Tryz.results105 ⟨ev_tmp rfl rfl, ⟨ev_tmp rfl rfl, trivial⟩⟩ ⟨rfl, hI.ext0, hI.fin trivial⟩

set_option maxRecDepth 100000 in
set_option maxHeartbeats 4000000 in
theorem c_fixed_Sub (F : NP) (w0 : World) (hF : ∀ k, F k → k < w0.heap.size) (t1 : GType) (a1 : GVal) (b1 : GVal) (hc : AllCl [] F w0) (r : GVal × Int)
    (h : m_fixed_Sub t1 a1 b1 = some r) :
    Calls Tryz.prog 76 #[(Value.agg #[(Value.int .i64 t1.Kind), (Value.int .i64 t1.Bits), (Value.int .i64 t1.Frac), (Value.int .i64 t1.Round), (Value.int .i64 t1.Over)]), (Value.agg #[(Value.int .i64 a1.N), (Value.int .i64 a1.D)]), (Value.agg #[(Value.int .i64 b1.N), (Value.int .i64 b1.D)])] w0 fun e w => e = .returned (Value.tuple #[(Value.agg #[(Value.int .i64 r.1.N), (Value.int .i64 r.1.D)]), (Value.int .i64 r.2)]) ∧ Ext w0 w ∧ AllCl [] F w := by
  refine ofEnter (R := fun v w => v = (Value.tuple #[(Value.agg #[(Value.int .i64 r.1.N), (Value.int .i64 r.1.D)]), (Value.int .i64 r.2)]) ∧ Ext w0 w ∧ AllCl [] F w) (enter (l := [(Value.agg #[(Value.int .i64 t1.Kind), (Value.int .i64 t1.Bits), (Value.int .i64 t1.Frac), (Value.int .i64 t1.Round), (Value.int .i64 t1.Over)]), (Value.agg #[(Value.int .i64 a1.N), (Value.int .i64 a1.D)]), (Value.agg #[(Value.int .i64 b1.N), (Value.int .i64 b1.D)])]) Tryz.func76 rfl Tryz.ntmps76 rfl ?_) ?_
  rotate_left
  · rintro _ w ⟨rfl, k1, k2⟩; exact ⟨rfl, k1, k2⟩
  have hI := Bun.start hF hc
  clear hc
  rw [m_fixed_Sub] at h
  refine c_seq ?_
  refine c_region rfl ?_
  refine l_box (v := (Value.agg #[(Value.int .i64 t1.Kind), (Value.int .i64 t1.Bits), (Value.int .i64 t1.Frac), (Value.int .i64 t1.Round), (Value.int .i64 t1.Over)])) (cs := #[(Value.int .i64 t1.Kind), (Value.int .i64 t1.Bits), (Value.int .i64 t1.Frac), (Value.int .i64 t1.Round), (Value.int .i64 t1.Over)]) hI rfl rfl rfl (ev_tmp rfl rfl) rfl ?_
  clear hI; intro b2 c1 w1 hI
  obtain ⟨c2, hI⟩ := hI.relBox .z
  refine l_box (v := (Value.agg #[(Value.int .i64 a1.N), (Value.int .i64 a1.D)])) (cs := #[(Value.int .i64 a1.N), (Value.int .i64 a1.D)]) hI rfl rfl rfl (ev_tmp rfl rfl) rfl ?_
  clear hI; intro b3 c3 w2 hI
  obtain ⟨c4, hI⟩ := hI.relBox .z
  refine l_box (v := (Value.agg #[(Value.int .i64 b1.N), (Value.int .i64 b1.D)])) (cs := #[(Value.int .i64 b1.N), (Value.int .i64 b1.D)]) hI rfl rfl rfl (ev_tmp rfl rfl) rfl ?_
  clear hI; intro b4 c5 w3 hI
  obtain ⟨c6, hI⟩ := hI.relBox .z
  refine l_alloc (cs := #[(Value.int .i64 0), (Value.int .i64 0)]) hI rfl rfl rfl zero_27 rfl ?_
  clear hI; intro b5 c7 w4 hI
  refine s_q rfl rfl (y_assign rfl ev_const) ?_
  refine s_nil ?_
  refine k_next (e := [(3, (Value.pointer (some ⟨b2, 0, none⟩))), (4, (Value.pointer (some ⟨b3, 0, none⟩))), (5, (Value.pointer (some ⟨b4, 0, none⟩))), (6, (Value.pointer (some ⟨b5, 0, none⟩)))]) ⟨rfl, rfl, rfl, rfl, trivial⟩ ?_
  refine c_seq ?_
  refine c_region rfl ?_
  refine s_q rfl rfl (y_build (vs := [(0, (Value.func (.func 105) #[] #[]))]) (cs := #[(Value.func (.func 105) #[] #[])]) rfl ⟨rfl, ev_func, trivial⟩ (by kernel_rfl)) ?_
  refine s_q rfl rfl (y_loadN (l := [(Value.int .i64 t1.Kind), (Value.int .i64 t1.Bits), (Value.int .i64 t1.Frac), (Value.int .i64 t1.Round), (Value.int .i64 t1.Over)]) rfl (ev_tmp rfl rfl) Tryz.underlying23 rfl size_23 (hI.kblk (l := [(Value.int .i64 t1.Kind), (Value.int .i64 t1.Bits), (Value.int .i64 t1.Frac), (Value.int .i64 t1.Round), (Value.int .i64 t1.Over)]) (.s (.s .z)) rfl).1) ?_
  refine s_q rfl rfl (y_loadN (l := [(Value.int .i64 a1.N), (Value.int .i64 a1.D)]) rfl (ev_tmp rfl rfl) Tryz.underlying27 rfl size_27 (hI.kblk (l := [(Value.int .i64 a1.N), (Value.int .i64 a1.D)]) (.s .z) rfl).1) ?_
  refine s_q rfl rfl (y_loadN (l := [(Value.int .i64 b1.N), (Value.int .i64 b1.D)]) rfl (ev_tmp rfl rfl) Tryz.underlying27 rfl size_27 (hI.kblk (l := [(Value.int .i64 b1.N), (Value.int .i64 b1.D)]) .z rfl).1) ?_
  have hI := hI.add (c := clFn_k1 (Value.func (.func 105) #[] #[]) m_fixed_Sub_1) ⟨rfl, fun D' w' hs hl x1 x2 x3 r k h => CallV.fn (cap := []) ok_105 (c_fixed_Sub_1 D' w' hl x1 x2 x3 trivial r h)⟩
  obtain ⟨r1, hx1, h⟩ := bnd_some h
  refine s_call rfl rfl (r_callF (vs := [(Value.agg #[(Value.func (.func 105) #[] #[])]), (Value.agg #[(Value.int .i64 t1.Kind), (Value.int .i64 t1.Bits), (Value.int .i64 t1.Frac), (Value.int .i64 t1.Round), (Value.int .i64 t1.Over)]), (Value.agg #[(Value.int .i64 a1.N), (Value.int .i64 a1.D)]), (Value.agg #[(Value.int .i64 b1.N), (Value.int .i64 b1.D)])]) rfl ok_101 ⟨(ev_tmp rfl rfl), ⟨(ev_tmp rfl rfl), ⟨(ev_tmp rfl rfl), ⟨(ev_tmp rfl rfl), trivial⟩⟩⟩⟩) (Calls.mono (c_fixed_apply (Dj F c7) w4 hI.lt (⟨m_fixed_Sub_1⟩ : Gfixed_operation) t1 a1 b1 (Value.func (.func 105) #[] #[]) ⟨(hI.get .z), trivial⟩ r1 hx1) ?_)
  rintro _ w5 ⟨rfl, hx2, hl1⟩
  refine ⟨_, rfl, ?_⟩
  replace hI := (hI.ext hx2)
  refine s_q rfl rfl (y_extract rfl (ev_tmp rfl rfl) rfl) ?_
  refine s_q rfl rfl (y_extract rfl (ev_tmp rfl rfl) rfl) ?_
  refine l_store (new := [(Value.int .i64 r1.1.N), (Value.int .i64 r1.1.D)]) (cs' := #[(Value.int .i64 r1.1.N), (Value.int .i64 r1.1.D)]) hI .z rfl rfl rfl (ev_tmp rfl rfl) (ev_tmp rfl rfl) rfl size_27 rfl rfl rfl ?_
  clear hI; intro c8 w6 hI
  refine s_q rfl rfl (y_assign rfl (ev_tmp rfl rfl)) ?_
  refine s_nil ?_
  refine k_next (e := [(6, (Value.pointer (some ⟨b5, 0, none⟩))), (7, (Value.int .i64 r1.2))]) ⟨rfl, rfl, trivial⟩ ?_
  refine c_ret ?_
  obtain rfl := some_inj h
  exact q_ret (vs := [(Value.agg #[(Value.int .i64 r1.1.N), (Value.int .i64 r1.1.D)]), (Value.int .i64 r1.2)]) Tryz.results76 ⟨⟨_, ev_tmp rfl rfl, load_agg (l := [(Value.int .i64 r1.1.N), (Value.int .i64 r1.1.D)]) Tryz.underlying27 rfl size_27 (CellsAt.of_blk (hI.blk .z) rfl)⟩, ⟨ev_tmp rfl rfl, trivial⟩⟩ ⟨rfl, hI.ext0, hI.fin trivial⟩

set_option maxRecDepth 100000 in
set_option maxHeartbeats 4000000 in
theorem c_round_mode (F : NP) (w0 : World) (hF : ∀ k, F k → k < w0.heap.size) (how1 : Int) (hc : AllCl [] F w0) (r : Bool)
    (h : m_round_mode how1 = some r) :
    Calls Tryz.prog 109 #[(Value.int .i64 how1)] w0 fun e w => e = .returned (Value.bool r) ∧ Ext w0 w ∧ AllCl [] F w := by
  refine ofEnter (R := fun v w => v = (Value.bool r) ∧ Ext w0 w ∧ AllCl [] F w) (enter (l := [(Value.int .i64 how1)]) Tryz.func109 rfl Tryz.ntmps109 rfl ?_) ?_
  rotate_left
  · rintro _ w ⟨rfl, k1, k2⟩; exact ⟨rfl, k1, k2⟩
  have hI := Bun.start hF hc
  clear hc
  rw [m_round_mode] at h
  refine c_seq ?_
  refine c_region rfl ?_
  refine s_q rfl rfl (y_assign rfl ev_const) ?_
  refine s_nil ?_
  refine k_next (e := [(0, (Value.int .i64 how1))]) ⟨rfl, trivial⟩ ?_
  refine c_seq ?_
  refine c_region rfl ?_
  refine s_q rfl rfl (y_move rfl (ev_tmp rfl rfl)) ?_
  refine s_q rfl rfl (y_geq rfl (ev_tmp rfl rfl) ev_const) ?_
  refine s_q rfl rfl (y_move rfl (ev_tmp rfl rfl)) ?_
  refine s_gval (g_true rfl rfl rfl rfl) rfl (fun hc => (y_move rfl (ev_tmp rfl rfl))) ?_
  refine s_gval (g_true rfl rfl rfl rfl) rfl (fun hc => (y_leq rfl (ev_gv (ev_tmp rfl rfl) hc) ev_const)) ?_
  refine s_q rfl rfl (y_and rfl (ev_tmp rfl rfl) (ev_tmp rfl rfl)) ?_
  refine s_q rfl rfl (y_assign rfl (ev_tmp rfl rfl)) ?_
  refine s_nil ?_
  refine k_next (e := [(2, (Value.bool ((decide (1 ≤ how1)) && (decide (how1 ≤ 4)))))]) ⟨rfl, trivial⟩ ?_
  refine c_ret ?_
  obtain rfl := some_inj h
  exact q_ret (vs := [(Value.bool ((decide (1 ≤ how1)) && (decide (how1 ≤ 4))))]) Tryz.results109 ⟨ev_tmp rfl rfl, trivial⟩ ⟨rfl, hI.ext0, hI.fin trivial⟩

set_option maxRecDepth 100000 in
set_option maxHeartbeats 4000000 in
theorem c_round_magnitude (F : NP) (w0 : World) (hF : ∀ k, F k → k < w0.heap.size) (n1 : Int) (hc : AllCl [] F w0) (r : Int)
    (h : m_round_magnitude n1 = some r) :
    Calls Tryz.prog 121 #[(Value.int .i64 n1)] w0 fun e w => e = .returned (Value.int .u64 r) ∧ Ext w0 w ∧ AllCl [] F w := by
  refine ofEnter (R := fun v w => v = (Value.int .u64 r) ∧ Ext w0 w ∧ AllCl [] F w) (enter (l := [(Value.int .i64 n1)]) Tryz.func121 rfl Tryz.ntmps121 rfl ?_) ?_
  rotate_left
  · rintro _ w ⟨rfl, k1, k2⟩; exact ⟨rfl, k1, k2⟩
  have hI := Bun.start hF hc
  clear hc
  rw [m_round_magnitude] at h
  refine c_seq ?_
  refine c_region rfl ?_
  refine s_q rfl rfl (y_assign rfl ev_const) ?_
  refine s_nil ?_
  refine k_next (e := [(0, (Value.int .i64 n1))]) ⟨rfl, trivial⟩ ?_
  refine c_seq ?_
  refine c_seq ?_
  refine c_region rfl ?_
  refine s_q rfl rfl (y_move rfl (ev_tmp rfl rfl)) ?_
  refine s_q rfl rfl (y_lss rfl (ev_tmp rfl rfl) ev_const) ?_
  refine s_nil ?_
  refine k_next (e := [(0, (Value.int .i64 n1)), (4, (Value.bool (decide (n1 < 0))))]) ⟨rfl, rfl, trivial⟩ ?_
  refine c_cond (b := decide (n1 < 0)) (ev_tmp rfl rfl) (fun hb => ?_) (fun hb => ?_)
  · replace h := ite_t hb h
    refine c_seq ?_
    refine c_region rfl ?_
    refine s_q rfl rfl (y_move rfl (ev_tmp rfl rfl)) ?_
    refine s_q rfl rfl (y_conv rfl (by rw [Tryz.underlying2]; rfl) Tryz.underlying74 (ev_tmp rfl rfl)) ?_
    refine s_q rfl rfl (y_neg rfl (ev_tmp rfl rfl)) ?_
    refine s_q rfl rfl (y_assign rfl (ev_tmp rfl rfl)) ?_
    refine s_nil ?_
    refine k_next (e := [(2, (Value.int .u64 (wu64 (-(wu64 n1)))))]) ⟨rfl, trivial⟩ ?_
    refine c_ret ?_
    obtain rfl := some_inj h
    exact q_ret (vs := [(Value.int .u64 (wu64 (-(wu64 n1))))]) Tryz.results121 ⟨ev_tmp rfl rfl, trivial⟩ ⟨rfl, hI.ext0, hI.fin trivial⟩
  · replace h := ite_f hb h
    refine c_skip ?_
    refine k_next (e := [(0, (Value.int .i64 n1))]) ⟨rfl, trivial⟩ ?_
    refine c_seq ?_
    refine c_region rfl ?_
    refine s_q rfl rfl (y_move rfl (ev_tmp rfl rfl)) ?_
    refine s_q rfl rfl (y_conv rfl (by rw [Tryz.underlying2]; rfl) Tryz.underlying74 (ev_tmp rfl rfl)) ?_
    refine s_q rfl rfl (y_assign rfl (ev_tmp rfl rfl)) ?_
    refine s_nil ?_
    refine k_next (e := [(2, (Value.int .u64 (wu64 n1)))]) ⟨rfl, trivial⟩ ?_
    refine c_ret ?_
    obtain rfl := some_inj h
    exact q_ret (vs := [(Value.int .u64 (wu64 n1))]) Tryz.results121 ⟨ev_tmp rfl rfl, trivial⟩ ⟨rfl, hI.ext0, hI.fin trivial⟩

set_option maxRecDepth 100000 in
set_option maxHeartbeats 4000000 in
theorem c_round_rounded (F : NP) (w0 : World) (hF : ∀ k, F k → k < w0.heap.size) (a1 : Int) (b1 : Int) (negative1 : Bool) (how1 : Int) (hc : AllCl [] F w0) (r : Int)
    (h : m_round_rounded a1 b1 negative1 how1 = some r) :
    Calls Tryz.prog 120 #[(Value.int .u64 a1), (Value.int .u64 b1), (Value.bool negative1), (Value.int .i64 how1)] w0 fun e w => e = .returned (Value.int .u64 r) ∧ Ext w0 w ∧ AllCl [] F w := by
  refine ofEnter (R := fun v w => v = (Value.int .u64 r) ∧ Ext w0 w ∧ AllCl [] F w) (enter (l := [(Value.int .u64 a1), (Value.int .u64 b1), (Value.bool negative1), (Value.int .i64 how1)]) Tryz.func120 rfl Tryz.ntmps120 rfl ?_) ?_
  rotate_left
  · rintro _ w ⟨rfl, k1, k2⟩; exact ⟨rfl, k1, k2⟩
  have hI := Bun.start hF hc
  clear hc
  rw [m_round_rounded] at h
  refine c_seq ?_
  refine c_region rfl ?_
  refine s_q rfl rfl (y_assign rfl ev_const) ?_
  refine s_nil ?_
  refine k_next (e := [(0, (Value.int .u64 a1)), (1, (Value.int .u64 b1)), (2, (Value.bool negative1)), (3, (Value.int .i64 how1))]) ⟨rfl, rfl, rfl, rfl, trivial⟩ ?_
  refine c_scope ?_
  refine c_seq ?_
  refine c_drawX [] false (.c (0, .q) (.c (1, .q) (.c (2, .q) (.c (3, .q) (.c (4, .q) (.c (5, .q) (.c (6, .q) (.c (7, .q) .n)))))))) hI (by kernel_rfl) (by kernel_rfl) ?_
  clear hI; intro w1 hI
  refine a_q rfl rfl rfl (fun w' => (y_move rfl (ev_tmp rfl rfl))) ?_
  refine a_q rfl rfl rfl (fun w' => (y_move rfl (ev_tmp rfl rfl))) ?_
  obtain ⟨ho1, h⟩ := chk_some h
  refine a_q rfl rfl rfl (fun w' => (y_quo rfl (ev_tmp rfl rfl) (ev_tmp rfl rfl) ho1)) ?_
  refine a_q rfl rfl rfl (fun w' => (y_move rfl (ev_tmp rfl rfl))) ?_
  refine a_q rfl rfl rfl (fun w' => (y_move rfl (ev_tmp rfl rfl))) ?_
  refine a_q rfl rfl rfl (fun w' => (y_rem rfl (ev_tmp rfl rfl) (ev_tmp rfl rfl) ho1)) ?_
  refine a_q rfl rfl rfl (fun w' => (y_assign rfl (ev_tmp rfl rfl))) ?_
  refine a_q rfl rfl rfl (fun w' => (y_assign rfl (ev_tmp rfl rfl))) ?_
  refine a_nil ?_
  refine k_next (e := [(1, (Value.int .u64 b1)), (2, (Value.bool negative1)), (3, (Value.int .i64 how1)), (9, (Value.int .u64 (wu64 (Int.tdiv a1 b1)))), (10, (Value.int .u64 (Int.tmod a1 b1)))]) ⟨rfl, rfl, rfl, rfl, rfl, trivial⟩ ?_
  refine c_seq ?_
  refine c_region rfl ?_
  refine s_q rfl rfl (y_move rfl (ev_tmp rfl rfl)) ?_
  refine s_q rfl rfl (y_assign rfl (ev_tmp rfl rfl)) ?_
  refine s_nil ?_
  refine k_next (e := [(1, (Value.int .u64 b1)), (2, (Value.bool negative1)), (3, (Value.int .i64 how1)), (9, (Value.int .u64 (wu64 (Int.tdiv a1 b1)))), (10, (Value.int .u64 (Int.tmod a1 b1))), (11, (Value.int .u64 (wu64 (Int.tdiv a1 b1))))]) ⟨rfl, rfl, rfl, rfl, rfl, rfl, trivial⟩ ?_
  refine c_seq ?_
  refine c_label ?_
  refine k_next (e := [(1, (Value.int .u64 b1)), (2, (Value.bool negative1)), (3, (Value.int .i64 how1)), (9, (Value.int .u64 (wu64 (Int.tdiv a1 b1)))), (10, (Value.int .u64 (Int.tmod a1 b1))), (11, (Value.int .u64 (wu64 (Int.tdiv a1 b1))))]) ⟨rfl, rfl, rfl, rfl, rfl, rfl, trivial⟩ ?_
  refine c_seq ?_
  refine c_seq ?_
  refine c_region rfl ?_
  refine s_q rfl rfl (y_move rfl (ev_tmp rfl rfl)) ?_
  refine s_q rfl rfl (y_move rfl (ev_tmp rfl rfl)) ?_
  refine s_q rfl rfl (y_add rfl (ev_tmp rfl rfl) ev_const) ?_
  refine s_q rfl rfl (y_build (vs := [(0, (Value.int .u64 (wu64 (Int.tdiv a1 b1)))), (1, (Value.int .u64 (wu64 ((wu64 (Int.tdiv a1 b1)) + 1))))]) (cs := #[(Value.int .u64 (wu64 (Int.tdiv a1 b1))), (Value.int .u64 (wu64 ((wu64 (Int.tdiv a1 b1)) + 1)))]) rfl ⟨rfl, (ev_tmp rfl rfl), ⟨rfl, (ev_tmp rfl rfl), trivial⟩⟩ (by kernel_rfl)) ?_
  refine s_q rfl rfl (y_move rfl ev_const) ?_
  refine s_nil ?_
  refine k_next (e := [(1, (Value.int .u64 b1)), (2, (Value.bool negative1)), (3, (Value.int .i64 how1)), (9, (Value.int .u64 (wu64 (Int.tdiv a1 b1)))), (10, (Value.int .u64 (Int.tmod a1 b1))), (11, (Value.int .u64 (wu64 (Int.tdiv a1 b1)))), (22, (Value.agg #[(Value.int .u64 (wu64 (Int.tdiv a1 b1))), (Value.int .u64 (wu64 ((wu64 (Int.tdiv a1 b1)) + 1)))])), (23, (Value.int .i64 0))]) ⟨rfl, rfl, rfl, rfl, rfl, rfl, rfl, rfl, trivial⟩ ?_
  refine c_block ?_
  refine c_loop (α := Nat × Int × Int) (fun x => fun w => ∃ C, Bun noM F w0 C w [] [] ∧ m_round_rounded_l1 a1 b1 how1 negative1 (x.1) (x.2.1) (x.2.2) = some r) (fun x _ => x.1) (fun x => [(1, (Value.int .u64 b1)), (2, (Value.bool negative1)), (3, (Value.int .i64 how1)), (9, (Value.int .u64 (wu64 (Int.tdiv a1 b1)))), (10, (Value.int .u64 (Int.tmod a1 b1))), (11, (Value.int .u64 (x.2.1))), (22, (Value.agg #[(Value.int .u64 (wu64 (Int.tdiv a1 b1))), (Value.int .u64 (wu64 ((wu64 (Int.tdiv a1 b1)) + 1)))])), (23, (Value.int .i64 (x.2.2)))]) (fu, wu64 (Int.tdiv a1 b1), 0) ⟨_, hI.arr .n trivial, h⟩ ⟨rfl, rfl, rfl, rfl, rfl, rfl, rfl, rfl, trivial⟩ ?_
  clear h hI; rintro ⟨fuel1, m1, i1⟩ w2 ⟨c1, hI, h⟩
  dsimp only at hI h
  rcases fuel1 with _ | fuel1
  · rw [m_round_rounded_l1] at h; cases h
  rw [m_round_rounded_l1] at h
  refine c_sub (e := [(1, (Value.int .u64 b1)), (2, (Value.bool negative1)), (3, (Value.int .i64 how1)), (9, (Value.int .u64 (wu64 (Int.tdiv a1 b1)))), (10, (Value.int .u64 (Int.tmod a1 b1))), (11, (Value.int .u64 m1)), (22, (Value.agg #[(Value.int .u64 (wu64 (Int.tdiv a1 b1))), (Value.int .u64 (wu64 ((wu64 (Int.tdiv a1 b1)) + 1)))])), (23, (Value.int .i64 i1))]) ⟨rfl, rfl, rfl, rfl, rfl, rfl, rfl, rfl, trivial⟩ ?_
  refine c_seq ?_
  refine c_region rfl ?_
  refine s_q rfl rfl (y_lss rfl (ev_tmp rfl rfl) ev_const) ?_
  refine s_nil ?_
  refine k_next (e := [(1, (Value.int .u64 b1)), (2, (Value.bool negative1)), (3, (Value.int .i64 how1)), (9, (Value.int .u64 (wu64 (Int.tdiv a1 b1)))), (10, (Value.int .u64 (Int.tmod a1 b1))), (11, (Value.int .u64 m1)), (22, (Value.agg #[(Value.int .u64 (wu64 (Int.tdiv a1 b1))), (Value.int .u64 (wu64 ((wu64 (Int.tdiv a1 b1)) + 1)))])), (23, (Value.int .i64 i1)), (24, (Value.bool (decide (i1 < 2))))]) ⟨rfl, rfl, rfl, rfl, rfl, rfl, rfl, rfl, rfl, trivial⟩ ?_
  refine c_seq ?_
  refine c_cond (b := decide (i1 < 2)) (ev_tmp rfl rfl) (fun hb => ?_) (fun hb => ?_)
  · replace h := ite_t hb h
    refine c_skip ?_
    refine k_next (e := [(1, (Value.int .u64 b1)), (2, (Value.bool negative1)), (3, (Value.int .i64 how1)), (9, (Value.int .u64 (wu64 (Int.tdiv a1 b1)))), (10, (Value.int .u64 (Int.tmod a1 b1))), (22, (Value.agg #[(Value.int .u64 (wu64 (Int.tdiv a1 b1))), (Value.int .u64 (wu64 ((wu64 (Int.tdiv a1 b1)) + 1)))])), (23, (Value.int .i64 i1))]) ⟨rfl, rfl, rfl, rfl, rfl, rfl, rfl, trivial⟩ ?_
    refine c_seq ?_
    refine c_block ?_
    refine c_seq ?_
    refine c_region rfl ?_
    obtain ⟨e1, hx1, h⟩ := bnd_some h
    refine s_q rfl rfl (y_indexA (fun x => (Value.int .u64 x)) rfl (ev_tmp rfl rfl) (ev_tmp rfl rfl) hx1 ⟨fun _ => by kernel_rfl, fun _ => by kernel_rfl, trivial⟩) ?_
    refine s_q rfl rfl (y_assign rfl (ev_tmp rfl rfl)) ?_
    refine s_nil ?_
    refine k_next (e := [(1, (Value.int .u64 b1)), (2, (Value.bool negative1)), (3, (Value.int .i64 how1)), (9, (Value.int .u64 (wu64 (Int.tdiv a1 b1)))), (10, (Value.int .u64 (Int.tmod a1 b1))), (22, (Value.agg #[(Value.int .u64 (wu64 (Int.tdiv a1 b1))), (Value.int .u64 (wu64 ((wu64 (Int.tdiv a1 b1)) + 1)))])), (23, (Value.int .i64 i1)), (11, (Value.int .u64 e1))]) ⟨rfl, rfl, rfl, rfl, rfl, rfl, rfl, rfl, trivial⟩ ?_
    refine c_block ?_
    refine c_seq ?_
    refine c_region rfl ?_
    refine s_q rfl rfl (y_move rfl (ev_tmp rfl rfl)) ?_
    refine s_q rfl rfl (y_eql rfl (ev_tmp rfl rfl) ev_const) ?_
    refine s_q rfl rfl (y_move rfl (ev_tmp rfl rfl)) ?_
    refine s_gval (g_false rfl rfl rfl rfl) rfl (fun hc => (y_move rfl (ev_tmp rfl rfl))) ?_
    refine s_gval (g_false rfl rfl rfl rfl) rfl (fun hc => (y_eql rfl (ev_gv (ev_tmp rfl rfl) hc) ev_const)) ?_
    refine s_q rfl rfl (y_or rfl (ev_tmp rfl rfl) (ev_tmp rfl rfl)) ?_
    refine s_q rfl rfl (y_assign rfl (ev_tmp rfl rfl)) ?_
    refine s_nil ?_
    refine k_next (e := [(1, (Value.int .u64 b1)), (2, (Value.bool negative1)), (3, (Value.int .i64 how1)), (9, (Value.int .u64 (wu64 (Int.tdiv a1 b1)))), (10, (Value.int .u64 (Int.tmod a1 b1))), (22, (Value.agg #[(Value.int .u64 (wu64 (Int.tdiv a1 b1))), (Value.int .u64 (wu64 ((wu64 (Int.tdiv a1 b1)) + 1)))])), (23, (Value.int .i64 i1)), (11, (Value.int .u64 e1)), (26, (Value.bool ((decide (Int.tmod a1 b1 = 0)) || (decide (how1 = 3)))))]) ⟨rfl, rfl, rfl, rfl, rfl, rfl, rfl, rfl, rfl, trivial⟩ ?_
    refine c_cond (b := (decide (Int.tmod a1 b1 = 0)) || (decide (how1 = 3))) (ev_tmp rfl rfl) (fun hb => ?_) (fun hb => ?_)
    · replace h := ite_t hb h
      refine c_exit ?_
      refine k_out rfl ?_
      refine k_out rfl ?_
      refine k_in ?_
      refine k_next (e := [(11, (Value.int .u64 e1))]) ⟨rfl, trivial⟩ ?_
      refine c_seq ?_
      refine c_region rfl ?_
      refine s_q rfl rfl (y_move rfl (ev_tmp rfl rfl)) ?_
      refine s_q rfl rfl (y_assign rfl (ev_tmp rfl rfl)) ?_
      refine s_nil ?_
      refine k_next (e := [(8, (Value.int .u64 e1))]) ⟨rfl, trivial⟩ ?_
      refine c_ret ?_
      obtain rfl := some_inj h
      exact q_ret (vs := [(Value.int .u64 e1)]) Tryz.results120 ⟨ev_tmp rfl rfl, trivial⟩ ⟨rfl, hI.ext0, hI.fin trivial⟩
    · replace h := ite_f hb h
      refine c_join (α := Bool) (fun _ => ⟨67, []⟩) (fun x => [(1, (Value.int .u64 b1)), (2, (Value.bool negative1)), (3, (Value.int .i64 how1)), (9, (Value.int .u64 (wu64 (Int.tdiv a1 b1)))), (10, (Value.int .u64 (Int.tmod a1 b1))), (22, (Value.agg #[(Value.int .u64 (wu64 (Int.tdiv a1 b1))), (Value.int .u64 (wu64 ((wu64 (Int.tdiv a1 b1)) + 1)))])), (23, (Value.int .i64 i1)), (11, (Value.int .u64 e1)), (33, (Value.bool x))]) (fun x => fun w => ∃ C, Bun noM F w0 C w [] [] ∧ m_round_rounded_j1 e1 how1 a1 b1 (m_round_rounded_l1 a1 b1 how1 negative1 fuel1) i1 x = some r) ?_ ?_
      · clear h hI; rintro i2 w3 ⟨c2, hI, h⟩
        try dsimp only at hI h
        rw [m_round_rounded_j1] at h
        refine c_sub (e := [(1, (Value.int .u64 b1)), (2, (Value.bool negative1)), (3, (Value.int .i64 how1)), (9, (Value.int .u64 (wu64 (Int.tdiv a1 b1)))), (10, (Value.int .u64 (Int.tmod a1 b1))), (22, (Value.agg #[(Value.int .u64 (wu64 (Int.tdiv a1 b1))), (Value.int .u64 (wu64 ((wu64 (Int.tdiv a1 b1)) + 1)))])), (23, (Value.int .i64 i1)), (11, (Value.int .u64 e1)), (33, (Value.bool i2))]) ⟨rfl, rfl, rfl, rfl, rfl, rfl, rfl, rfl, rfl, trivial⟩ ?_
        refine c_cond (b := i2) (ev_tmp rfl rfl) (fun hb => ?_) (fun hb => ?_)
        · replace h := ite_t hb h
          refine c_exit ?_
          refine k_out rfl ?_
          refine k_out rfl ?_
          refine k_in ?_
          refine k_next (e := [(11, (Value.int .u64 e1))]) ⟨rfl, trivial⟩ ?_
          refine c_seq ?_
          refine c_region rfl ?_
          refine s_q rfl rfl (y_move rfl (ev_tmp rfl rfl)) ?_
          refine s_q rfl rfl (y_assign rfl (ev_tmp rfl rfl)) ?_
          refine s_nil ?_
          refine k_next (e := [(8, (Value.int .u64 e1))]) ⟨rfl, trivial⟩ ?_
          refine c_ret ?_
          obtain rfl := some_inj h
          exact q_ret (vs := [(Value.int .u64 e1)]) Tryz.results120 ⟨ev_tmp rfl rfl, trivial⟩ ⟨rfl, hI.ext0, hI.fin trivial⟩
        · replace h := ite_f hb h
          refine c_seq ?_
          refine c_region rfl ?_
          refine s_q rfl rfl (y_move rfl (ev_tmp rfl rfl)) ?_
          refine s_q rfl rfl (y_eql rfl (ev_tmp rfl rfl) ev_const) ?_
          refine s_q rfl rfl (y_move rfl (ev_tmp rfl rfl)) ?_
          refine s_gval (g_true rfl rfl rfl rfl) rfl (fun hc => (y_move rfl (ev_tmp rfl rfl))) ?_
          refine s_gval (g_true rfl rfl rfl rfl) rfl (fun hc => (y_mul rfl ev_const (ev_gv (ev_tmp rfl rfl) hc))) ?_
          refine s_gval (g_true rfl rfl rfl rfl) rfl (fun hc => (y_move rfl (ev_tmp rfl rfl))) ?_
          refine s_gval (g_true rfl rfl rfl rfl) rfl (fun hc => (y_lss rfl (ev_gv (ev_tmp rfl rfl) hc) (ev_gv (ev_tmp rfl rfl) hc))) ?_
          refine s_gval (g_true rfl rfl rfl rfl) rfl (fun hc => (y_move rfl (ev_gv (ev_tmp rfl rfl) hc))) ?_
          refine s_gval (g_false2 rfl rfl rfl rfl) rfl (fun hc => (y_move rfl (ev_tmp rfl rfl))) ?_
          refine s_gval (g_false2 rfl rfl rfl rfl) rfl (fun hc => (y_mul rfl ev_const (ev_gv (ev_tmp rfl rfl) hc))) ?_
          refine s_gval (g_false2 rfl rfl rfl rfl) rfl (fun hc => (y_move rfl (ev_tmp rfl rfl))) ?_
          refine s_gval (g_false2 rfl rfl rfl rfl) rfl (fun hc => (y_eql rfl (ev_gv (ev_tmp rfl rfl) hc) (ev_gv (ev_tmp rfl rfl) hc))) ?_
          refine s_gval (g_false2 rfl rfl rfl rfl) rfl (fun hc => (y_move rfl (ev_gv (ev_tmp rfl rfl) hc))) ?_
          refine s_gval (g_true2 rfl rfl rfl rfl) rfl (fun hc => (y_move rfl (ev_tmp rfl rfl))) ?_
          refine s_gval (g_true2 rfl rfl rfl rfl) rfl (fun hc => (y_rem rfl (ev_gv (ev_tmp rfl rfl) hc) ev_const (by decide))) ?_
          refine s_gval (g_true2 rfl rfl rfl rfl) rfl (fun hc => (y_eql rfl (ev_gv (ev_tmp rfl rfl) hc) ev_const)) ?_
          refine s_gval (g_false2 rfl rfl rfl rfl) rfl (fun hc => (y_and2 rfl hc (ev_tmp rfl rfl) (ev_tmp rfl rfl))) ?_
          refine s_gval (g_true rfl rfl rfl rfl) rfl (fun hc => (y_or2 rfl hc (ev_tmp rfl rfl) (ev_tmp rfl rfl))) ?_
          refine s_q rfl rfl (y_and rfl (ev_tmp rfl rfl) (ev_tmp rfl rfl)) ?_
          refine s_q rfl rfl (y_assign rfl (ev_tmp rfl rfl)) ?_
          refine s_nil ?_
          refine k_next (e := [(1, (Value.int .u64 b1)), (2, (Value.bool negative1)), (3, (Value.int .i64 how1)), (9, (Value.int .u64 (wu64 (Int.tdiv a1 b1)))), (10, (Value.int .u64 (Int.tmod a1 b1))), (22, (Value.agg #[(Value.int .u64 (wu64 (Int.tdiv a1 b1))), (Value.int .u64 (wu64 ((wu64 (Int.tdiv a1 b1)) + 1)))])), (23, (Value.int .i64 i1)), (11, (Value.int .u64 e1)), (45, (Value.bool ((decide (how1 = 4)) && ((decide (wu64 (2 * (Int.tmod a1 b1)) < b1)) || ((decide (wu64 (2 * (Int.tmod a1 b1)) = b1)) && (decide (Int.tmod (wu64 (Int.tdiv a1 b1)) 2 = 0)))))))]) ⟨rfl, rfl, rfl, rfl, rfl, rfl, rfl, rfl, rfl, trivial⟩ ?_
          refine c_cond (b := (decide (how1 = 4)) && ((decide (wu64 (2 * (Int.tmod a1 b1)) < b1)) || ((decide (wu64 (2 * (Int.tmod a1 b1)) = b1)) && (decide (Int.tmod (wu64 (Int.tdiv a1 b1)) 2 = 0))))) (ev_tmp rfl rfl) (fun hb => ?_) (fun hb => ?_)
          · replace h := ite_t hb h
            refine c_exit ?_
            refine k_out rfl ?_
            refine k_out rfl ?_
            refine k_in ?_
            refine k_next (e := [(11, (Value.int .u64 e1))]) ⟨rfl, trivial⟩ ?_
            refine c_seq ?_
            refine c_region rfl ?_
            refine s_q rfl rfl (y_move rfl (ev_tmp rfl rfl)) ?_
            refine s_q rfl rfl (y_assign rfl (ev_tmp rfl rfl)) ?_
            refine s_nil ?_
            refine k_next (e := [(8, (Value.int .u64 e1))]) ⟨rfl, trivial⟩ ?_
            refine c_ret ?_
            obtain rfl := some_inj h
            exact q_ret (vs := [(Value.int .u64 e1)]) Tryz.results120 ⟨ev_tmp rfl rfl, trivial⟩ ⟨rfl, hI.ext0, hI.fin trivial⟩
          · replace h := ite_f hb h
            refine c_skip ?_
            refine k_next (e := [(1, (Value.int .u64 b1)), (2, (Value.bool negative1)), (3, (Value.int .i64 how1)), (9, (Value.int .u64 (wu64 (Int.tdiv a1 b1)))), (10, (Value.int .u64 (Int.tmod a1 b1))), (22, (Value.agg #[(Value.int .u64 (wu64 (Int.tdiv a1 b1))), (Value.int .u64 (wu64 ((wu64 (Int.tdiv a1 b1)) + 1)))])), (23, (Value.int .i64 i1)), (11, (Value.int .u64 e1))]) ⟨rfl, rfl, rfl, rfl, rfl, rfl, rfl, rfl, trivial⟩ ?_
            refine c_region rfl ?_
            refine s_q rfl rfl (y_add rfl (ev_tmp rfl rfl) ev_const) ?_
            refine s_q rfl rfl (y_move rfl (ev_tmp rfl rfl)) ?_
            refine s_nil ?_
            exact k_loop (fuel1, e1, wi64 (i1 + 1)) ⟨rfl, rfl, rfl, rfl, rfl, rfl, rfl, rfl, trivial⟩ ⟨_, hI.arr .n trivial, h⟩ (Nat.lt_succ_self _)
      · skip
        refine c_seq ?_
        refine c_region rfl ?_
        refine s_q rfl rfl (y_move rfl (ev_tmp rfl rfl)) ?_
        refine s_q rfl rfl (y_eql rfl (ev_tmp rfl rfl) ev_const) ?_
        refine s_q rfl rfl (y_move rfl (ev_tmp rfl rfl)) ?_
        refine s_gval (g_true rfl rfl rfl rfl) rfl (fun hc => (y_move rfl (ev_tmp rfl rfl))) ?_
        refine s_gval (g_true rfl rfl rfl rfl) rfl (fun hc => (y_not rfl (ev_gv (ev_tmp rfl rfl) hc))) ?_
        refine s_q rfl rfl (y_and rfl (ev_tmp rfl rfl) (ev_tmp rfl rfl)) ?_
        refine s_q rfl rfl (y_assign rfl (ev_tmp rfl rfl)) ?_
        refine s_nil ?_
        refine k_next (e := [(1, (Value.int .u64 b1)), (2, (Value.bool negative1)), (3, (Value.int .i64 how1)), (9, (Value.int .u64 (wu64 (Int.tdiv a1 b1)))), (10, (Value.int .u64 (Int.tmod a1 b1))), (22, (Value.agg #[(Value.int .u64 (wu64 (Int.tdiv a1 b1))), (Value.int .u64 (wu64 ((wu64 (Int.tdiv a1 b1)) + 1)))])), (23, (Value.int .i64 i1)), (11, (Value.int .u64 e1)), (33, (Value.bool ((decide (how1 = 1)) && (!negative1))))]) ⟨rfl, rfl, rfl, rfl, rfl, rfl, rfl, rfl, rfl, trivial⟩ ?_
        refine c_cond (b := (decide (how1 = 1)) && (!negative1)) (ev_tmp rfl rfl) (fun hb => ?_) (fun hb => ?_)
        · replace h := ite_t hb h
          refine c_skip ?_
          exact k_join ((decide (how1 = 1)) && (!negative1)) ⟨rfl, rfl, rfl, rfl, rfl, rfl, rfl, rfl, rfl, trivial⟩ ⟨_, hI.arr .n trivial, h⟩ rfl
        · replace h := ite_f hb h
          refine c_region rfl ?_
          refine s_q rfl rfl (y_move rfl (ev_tmp rfl rfl)) ?_
          refine s_q rfl rfl (y_eql rfl (ev_tmp rfl rfl) ev_const) ?_
          refine s_q rfl rfl (y_move rfl (ev_tmp rfl rfl)) ?_
          refine s_gval (g_true rfl rfl rfl rfl) rfl (fun hc => (y_move rfl (ev_tmp rfl rfl))) ?_
          refine s_q rfl rfl (y_and rfl (ev_tmp rfl rfl) (ev_tmp rfl rfl)) ?_
          refine s_q rfl rfl (y_assign rfl (ev_tmp rfl rfl)) ?_
          refine s_nil ?_
          exact k_join ((decide (how1 = 2)) && negative1) ⟨rfl, rfl, rfl, rfl, rfl, rfl, rfl, rfl, rfl, trivial⟩ ⟨_, hI.arr .n trivial, h⟩ rfl
  · replace h := ite_f hb h
    refine c_exit ?_
    refine k_in ?_
    refine k_next (e := [(11, (Value.int .u64 m1))]) ⟨rfl, trivial⟩ ?_
    refine c_seq ?_
    refine c_region rfl ?_
    refine s_q rfl rfl (y_move rfl (ev_tmp rfl rfl)) ?_
    refine s_q rfl rfl (y_assign rfl (ev_tmp rfl rfl)) ?_
    refine s_nil ?_
    refine k_next (e := [(8, (Value.int .u64 m1))]) ⟨rfl, trivial⟩ ?_
    refine c_ret ?_
    obtain rfl := some_inj h
    exact q_ret (vs := [(Value.int .u64 m1)]) Tryz.results120 ⟨ev_tmp rfl rfl, trivial⟩ ⟨rfl, hI.ext0, hI.fin trivial⟩

set_option maxRecDepth 100000 in
set_option maxHeartbeats 4000000 in
theorem c_round_Divide (F : NP) (w0 : World) (hF : ∀ k, F k → k < w0.heap.size) (n1 : Int) (d1 : Int) (how1 : Int) (hc : AllCl [] F w0) (r : Int × Int)
    (h : m_round_Divide n1 d1 how1 = some r) :
    Calls Tryz.prog 107 #[(Value.int .i64 n1), (Value.int .i64 d1), (Value.int .i64 how1)] w0 fun e w => e = .returned (Value.tuple #[(Value.int .i64 r.1), (Value.int .i64 r.2)]) ∧ Ext w0 w ∧ AllCl [] F w := by
  refine ofEnter (R := fun v w => v = (Value.tuple #[(Value.int .i64 r.1), (Value.int .i64 r.2)]) ∧ Ext w0 w ∧ AllCl [] F w) (enter (l := [(Value.int .i64 n1), (Value.int .i64 d1), (Value.int .i64 how1)]) Tryz.func107 rfl Tryz.ntmps107 rfl ?_) ?_
  rotate_left
  · rintro _ w ⟨rfl, k1, k2⟩; exact ⟨rfl, k1, k2⟩
  have hI := Bun.start hF hc
  clear hc
  rw [m_round_Divide] at h
  refine c_seq ?_
  refine c_region rfl ?_
  refine s_q rfl rfl (y_assign rfl ev_const) ?_
  refine s_q rfl rfl (y_assign rfl ev_const) ?_
  refine s_nil ?_
  refine k_next (e := [(0, (Value.int .i64 n1)), (1, (Value.int .i64 d1)), (2, (Value.int .i64 how1))]) ⟨rfl, rfl, rfl, trivial⟩ ?_
  refine c_seq ?_
  refine c_seq ?_
  refine c_region rfl ?_
  refine s_q rfl rfl (y_move rfl (ev_tmp rfl rfl)) ?_
  obtain ⟨r1, hx1, h⟩ := bnd_some h
  refine s_call rfl rfl (r_callF (vs := [(Value.int .i64 how1)]) rfl ok_109 ⟨(ev_tmp rfl rfl), trivial⟩) (Calls.mono (c_round_mode (Dj F noM) w0 hI.lt how1 trivial r1 hx1) ?_)
  rintro _ w1 ⟨rfl, hx2, hl1⟩
  refine ⟨_, rfl, ?_⟩
  replace hI := (hI.ext hx2)
  refine s_q rfl rfl (y_not rfl (ev_tmp rfl rfl)) ?_
  refine s_nil ?_
  refine k_next (e := [(0, (Value.int .i64 n1)), (1, (Value.int .i64 d1)), (2, (Value.int .i64 how1)), (12, (Value.bool (!r1)))]) ⟨rfl, rfl, rfl, rfl, trivial⟩ ?_
  refine c_cond (b := !r1) (ev_tmp rfl rfl) (fun hb => ?_) (fun hb => ?_)
  · replace h := ite_t hb h
    refine c_seq ?_
    refine c_region rfl ?_
    refine s_q rfl rfl (y_assign rfl ev_const) ?_
    refine s_q rfl rfl (y_assign rfl ev_const) ?_
    refine s_nil ?_
    refine k_next (e := [(6, (Value.int .i64 0)), (7, (Value.int .i64 1))]) ⟨rfl, rfl, trivial⟩ ?_
    refine c_ret ?_
    obtain rfl := some_inj h
    exact q_ret (vs := [(Value.int .i64 0), (Value.int .i64 1)]) Tryz.results107 ⟨ev_tmp rfl rfl, ⟨ev_tmp rfl rfl, trivial⟩⟩ ⟨rfl, hI.ext0, hI.fin trivial⟩
  · replace h := ite_f hb h
    refine c_skip ?_
    refine k_next (e := [(0, (Value.int .i64 n1)), (1, (Value.int .i64 d1)), (2, (Value.int .i64 how1))]) ⟨rfl, rfl, rfl, trivial⟩ ?_
    refine c_seq ?_
    refine c_seq ?_
    refine c_region rfl ?_
    refine s_q rfl rfl (y_move rfl (ev_tmp rfl rfl)) ?_
    refine s_q rfl rfl (y_eql rfl (ev_tmp rfl rfl) ev_const) ?_
    refine s_nil ?_
    refine k_next (e := [(0, (Value.int .i64 n1)), (1, (Value.int .i64 d1)), (2, (Value.int .i64 how1)), (14, (Value.bool (decide (d1 = 0))))]) ⟨rfl, rfl, rfl, rfl, trivial⟩ ?_
    refine c_cond (b := decide (d1 = 0)) (ev_tmp rfl rfl) (fun hb => ?_) (fun hb => ?_)
    · replace h := ite_t hb h
      refine c_seq ?_
      refine c_region rfl ?_
      refine s_q rfl rfl (y_assign rfl ev_const) ?_
      refine s_q rfl rfl (y_assign rfl ev_const) ?_
      refine s_nil ?_
      refine k_next (e := [(6, (Value.int .i64 0)), (7, (Value.int .i64 4))]) ⟨rfl, rfl, trivial⟩ ?_
      refine c_ret ?_
      obtain rfl := some_inj h
      exact q_ret (vs := [(Value.int .i64 0), (Value.int .i64 4)]) Tryz.results107 ⟨ev_tmp rfl rfl, ⟨ev_tmp rfl rfl, trivial⟩⟩ ⟨rfl, hI.ext0, hI.fin trivial⟩
    · replace h := ite_f hb h
      refine c_skip ?_
      refine k_next (e := [(0, (Value.int .i64 n1)), (1, (Value.int .i64 d1)), (2, (Value.int .i64 how1))]) ⟨rfl, rfl, rfl, trivial⟩ ?_
      refine c_seq ?_
      refine c_region rfl ?_
      refine s_q rfl rfl (y_move rfl (ev_tmp rfl rfl)) ?_
      refine s_q rfl rfl (y_lss rfl (ev_tmp rfl rfl) ev_const) ?_
      refine s_q rfl rfl (y_move rfl (ev_tmp rfl rfl)) ?_
      refine s_q rfl rfl (y_lss rfl (ev_tmp rfl rfl) ev_const) ?_
      refine s_q rfl rfl (y_neb rfl Tryz.underlying4 (ev_tmp rfl rfl) (ev_tmp rfl rfl)) ?_
      obtain ⟨negative1, hx3, h⟩ := bnd_some h
      refine s_q rfl rfl (binU (y_assign rfl (ev_tmp rfl rfl)) (congrArg Value.bool (some_inj hx3))) ?_
      refine s_nil ?_
      refine k_next (e := [(0, (Value.int .i64 n1)), (1, (Value.int .i64 d1)), (2, (Value.int .i64 how1)), (8, (Value.bool negative1))]) ⟨rfl, rfl, rfl, rfl, trivial⟩ ?_
      refine c_seq ?_
      refine c_region rfl ?_
      refine s_q rfl rfl (y_move rfl (ev_tmp rfl rfl)) ?_
      obtain ⟨r2, hx4, h⟩ := bnd_some h
      refine s_call rfl rfl (r_callF (vs := [(Value.int .i64 n1)]) rfl ok_121 ⟨(ev_tmp rfl rfl), trivial⟩) (Calls.mono (c_round_magnitude (Dj F noM) w1 hI.lt n1 trivial r2 hx4) ?_)
      rintro _ w2 ⟨rfl, hx5, hl2⟩
      refine ⟨_, rfl, ?_⟩
      replace hI := (hI.ext hx5)
      refine s_q rfl rfl (y_move rfl (ev_tmp rfl rfl)) ?_
      obtain ⟨r3, hx6, h⟩ := bnd_some h
      refine s_call rfl rfl (r_callF (vs := [(Value.int .i64 d1)]) rfl ok_121 ⟨(ev_tmp rfl rfl), trivial⟩) (Calls.mono (c_round_magnitude (Dj F noM) w2 hI.lt d1 trivial r3 hx6) ?_)
      rintro _ w3 ⟨rfl, hx7, hl3⟩
      refine ⟨_, rfl, ?_⟩
      replace hI := (hI.ext hx7)
      refine s_q rfl rfl (y_move rfl (ev_tmp rfl rfl)) ?_
      refine s_q rfl rfl (y_move rfl (ev_tmp rfl rfl)) ?_
      obtain ⟨r4, hx8, h⟩ := bnd_some h
      refine s_call rfl rfl (r_callF (vs := [(Value.int .u64 r2), (Value.int .u64 r3), (Value.bool negative1), (Value.int .i64 how1)]) rfl ok_120 ⟨(ev_tmp rfl rfl), ⟨(ev_tmp rfl rfl), ⟨(ev_tmp rfl rfl), ⟨(ev_tmp rfl rfl), trivial⟩⟩⟩⟩) (Calls.mono (c_round_rounded (Dj F noM) w3 hI.lt r2 r3 negative1 how1 trivial r4 hx8) ?_)
      rintro _ w4 ⟨rfl, hx9, hl4⟩
      refine ⟨_, rfl, ?_⟩
      replace hI := (hI.ext hx9)
      refine s_q rfl rfl (y_assign rfl (ev_tmp rfl rfl)) ?_
      refine s_nil ?_
      refine k_next (e := [(8, (Value.bool negative1)), (9, (Value.int .u64 r4))]) ⟨rfl, rfl, trivial⟩ ?_
      refine c_seq ?_
      refine c_seq ?_
      refine c_region rfl ?_
      refine s_q rfl rfl (y_move rfl (ev_tmp rfl rfl)) ?_
      refine s_nil ?_
      refine k_next (e := [(9, (Value.int .u64 r4)), (27, (Value.bool negative1))]) ⟨rfl, rfl, trivial⟩ ?_
      refine c_cond (b := negative1) (ev_tmp rfl rfl) (fun hb => ?_) (fun hb => ?_)
      · replace h := ite_t hb h
        refine c_seq ?_
        refine c_region rfl ?_
        refine s_q rfl rfl (y_move rfl (ev_tmp rfl rfl)) ?_
        refine s_q rfl rfl (y_neg rfl (ev_tmp rfl rfl)) ?_
        refine s_q rfl rfl (y_conv rfl (by rw [Tryz.underlying74]; rfl) Tryz.underlying2 (ev_tmp rfl rfl)) ?_
        refine s_q rfl rfl (y_assign rfl (ev_tmp rfl rfl)) ?_
        refine s_q rfl rfl (y_assign rfl ev_const) ?_
        refine s_nil ?_
        refine k_next (e := [(6, (Value.int .i64 (wi64 (wu64 (-r4))))), (7, (Value.int .i64 0))]) ⟨rfl, rfl, trivial⟩ ?_
        refine c_ret ?_
        obtain rfl := some_inj h
        exact q_ret (vs := [(Value.int .i64 (wi64 (wu64 (-r4)))), (Value.int .i64 0)]) Tryz.results107 ⟨ev_tmp rfl rfl, ⟨ev_tmp rfl rfl, trivial⟩⟩ ⟨rfl, hI.ext0, hI.fin trivial⟩
      · replace h := ite_f hb h
        refine c_skip ?_
        refine k_next (e := [(9, (Value.int .u64 r4))]) ⟨rfl, trivial⟩ ?_
        refine c_seq ?_
        refine c_seq ?_
        refine c_region rfl ?_
        refine s_q rfl rfl (y_move rfl (ev_tmp rfl rfl)) ?_
        refine s_q rfl rfl (y_geq rfl (ev_tmp rfl rfl) ev_const) ?_
        refine s_nil ?_
        refine k_next (e := [(9, (Value.int .u64 r4)), (32, (Value.bool (decide (9223372036854775808 ≤ r4))))]) ⟨rfl, rfl, trivial⟩ ?_
        refine c_cond (b := decide (9223372036854775808 ≤ r4)) (ev_tmp rfl rfl) (fun hb => ?_) (fun hb => ?_)
        · replace h := ite_t hb h
          refine c_seq ?_
          refine c_region rfl ?_
          refine s_q rfl rfl (y_assign rfl ev_const) ?_
          refine s_q rfl rfl (y_assign rfl ev_const) ?_
          refine s_nil ?_
          refine k_next (e := [(6, (Value.int .i64 0)), (7, (Value.int .i64 3))]) ⟨rfl, rfl, trivial⟩ ?_
          refine c_ret ?_
          obtain rfl := some_inj h
          exact q_ret (vs := [(Value.int .i64 0), (Value.int .i64 3)]) Tryz.results107 ⟨ev_tmp rfl rfl, ⟨ev_tmp rfl rfl, trivial⟩⟩ ⟨rfl, hI.ext0, hI.fin trivial⟩
        · replace h := ite_f hb h
          refine c_skip ?_
          refine k_next (e := [(9, (Value.int .u64 r4))]) ⟨rfl, trivial⟩ ?_
          refine c_seq ?_
          refine c_region rfl ?_
          refine s_q rfl rfl (y_move rfl (ev_tmp rfl rfl)) ?_
          refine s_q rfl rfl (y_conv rfl (by rw [Tryz.underlying74]; rfl) Tryz.underlying2 (ev_tmp rfl rfl)) ?_
          refine s_q rfl rfl (y_assign rfl (ev_tmp rfl rfl)) ?_
          refine s_q rfl rfl (y_assign rfl ev_const) ?_
          refine s_nil ?_
          refine k_next (e := [(6, (Value.int .i64 (wi64 r4))), (7, (Value.int .i64 0))]) ⟨rfl, rfl, trivial⟩ ?_
          refine c_ret ?_
          obtain rfl := some_inj h
          exact q_ret (vs := [(Value.int .i64 (wi64 r4)), (Value.int .i64 0)]) Tryz.results107 ⟨ev_tmp rfl rfl, ⟨ev_tmp rfl rfl, trivial⟩⟩ ⟨rfl, hI.ext0, hI.fin trivial⟩

set_option maxRecDepth 100000 in
set_option maxHeartbeats 4000000 in
theorem c_fixed_Mul_1 (F : NP) (w0 : World) (hF : ∀ k, F k → k < w0.heap.size) (t1 : GType) (x1 : Int) (y1 : Int) (hc : AllCl [] F w0) (r : Int × Int)
    (h : m_fixed_Mul_1 t1 x1 y1 = some r) :
    Calls Tryz.prog 106 #[(Value.agg #[(Value.int .i64 t1.Kind), (Value.int .i64 t1.Bits), (Value.int .i64 t1.Frac), (Value.int .i64 t1.Round), (Value.int .i64 t1.Over)]), (Value.int .i64 x1), (Value.int .i64 y1)] w0 fun e w => e = .returned (Value.tuple #[(Value.int .i64 r.1), (Value.int .i64 r.2)]) ∧ Ext w0 w ∧ AllCl [] F w := by
  refine ofEnter (R := fun v w => v = (Value.tuple #[(Value.int .i64 r.1), (Value.int .i64 r.2)]) ∧ Ext w0 w ∧ AllCl [] F w) (enter (l := [(Value.agg #[(Value.int .i64 t1.Kind), (Value.int .i64 t1.Bits), (Value.int .i64 t1.Frac), (Value.int .i64 t1.Round), (Value.int .i64 t1.Over)]), (Value.int .i64 x1), (Value.int .i64 y1)]) Tryz.func106 rfl Tryz.ntmps106 rfl ?_) ?_
  rotate_left
  · rintro _ w ⟨rfl, k1, k2⟩; exact ⟨rfl, k1, k2⟩
  have hI := Bun.start hF hc
  clear hc
  rw [m_fixed_Mul_1] at h
  refine c_seq ?_
  refine c_region rfl ?_
  refine l_box (v := (Value.agg #[(Value.int .i64 t1.Kind), (Value.int .i64 t1.Bits), (Value.int .i64 t1.Frac), (Value.int .i64 t1.Round), (Value.int .i64 t1.Over)])) (cs := #[(Value.int .i64 t1.Kind), (Value.int .i64 t1.Bits), (Value.int .i64 t1.Frac), (Value.int .i64 t1.Round), (Value.int .i64 t1.Over)]) hI rfl rfl rfl (ev_tmp rfl rfl) rfl ?_
  clear hI; intro b1 c1 w1 hI
  obtain ⟨c2, hI⟩ := hI.relBox .z
  refine s_q rfl rfl (y_assign rfl ev_const) ?_
  refine s_q rfl rfl (y_assign rfl ev_const) ?_
  refine s_nil ?_
  refine k_next (e := [(1, (Value.int .i64 x1)), (2, (Value.int .i64 y1)), (3, (Value.pointer (some ⟨b1, 0, none⟩)))]) ⟨rfl, rfl, rfl, trivial⟩ ?_
  refine c_seq ?_
  refine c_drawX [] false (.c (0, .q) (.c (1, .q) (.c (2, .q) (.c (3, .q) (.c (4, .q) (.c (5, .q) (.c (6, .q) (.c (7, .q) (.c (8, .s) (.c (9, .q) (.c (10, .q) (.c (11, .q) (.c (12, .q) .n))))))))))))) hI (by kernel_rfl) (by kernel_rfl) ?_
  clear hI; intro w2 hI
  refine a_q rfl rfl rfl (fun w' => (y_move rfl (ev_tmp rfl rfl))) ?_
  refine a_q rfl rfl rfl (fun w' => (y_move rfl (ev_tmp rfl rfl))) ?_
  refine a_q rfl rfl rfl (fun w' => (y_mul rfl (ev_tmp rfl rfl) (ev_tmp rfl rfl))) ?_
  refine a_q rfl rfl rfl (fun w' => (y_fieldAddr rfl (ev_tmp rfl rfl) Tryz.underlying23 rfl size_3 rfl)) ?_
  refine a_read rfl rfl rfl (fun w' hw' => (y_load1 (v := (Value.int .i64 t1.Frac)) rfl (ev_tmp rfl rfl) Tryz.underlying3 rfl ((hI.kblk (l := [(Value.int .i64 t1.Frac)]) .z rfl).at_ (SX.any rfl hw')))) (by kernel_rfl) ?_
  obtain ⟨ho1, h⟩ := chk_some h
  refine a_q rfl rfl rfl (fun w' => (y_shl rfl ev_const (ev_tmp rfl rfl) ho1)) ?_
  refine a_q rfl rfl rfl (fun w' => (y_fieldAddr rfl (ev_tmp rfl rfl) Tryz.underlying23 rfl size_3 rfl)) ?_
  refine a_read rfl rfl rfl (fun w' hw' => (y_load1 (v := (Value.int .i64 t1.Round)) rfl (ev_tmp rfl rfl) Tryz.underlying3 rfl ((hI.kblk (l := [(Value.int .i64 t1.Round)]) .z rfl).at_ (SX.any rfl hw')))) (by kernel_rfl) ?_
  obtain ⟨r1, hx1, h⟩ := bnd_some h
  refine la_call rfl rfl rfl (r_callF (vs := [(Value.int .i64 (wi64 (x1 * y1))), (Value.int .i64 (wi64 (1 * 2 ^ (min (Int.toNat t1.Frac) 64)))), (Value.int .i64 t1.Round)]) rfl ok_107 ⟨(ev_tmp rfl rfl), ⟨(ev_tmp rfl rfl), ⟨(ev_tmp rfl rfl), trivial⟩⟩⟩) (Calls.mono (c_round_Divide (Dj F c2) w2 hI.lt (wi64 (x1 * y1)) (wi64 (1 * 2 ^ (min (Int.toNat t1.Frac) 64))) t1.Round trivial r1 hx1) ?_)
  rintro _ w3 ⟨rfl, hx2, hl1⟩
  refine ⟨_, rfl, hx2, ?_⟩
  replace hI := (hI.ext hx2)
  refine a_q rfl rfl rfl (fun w' => (y_extract rfl (ev_tmp rfl rfl) rfl)) ?_
  refine a_q rfl rfl rfl (fun w' => (y_extract rfl (ev_tmp rfl rfl) rfl)) ?_
  refine a_q rfl rfl rfl (fun w' => (y_assign rfl (ev_tmp rfl rfl))) ?_
  refine a_q rfl rfl rfl (fun w' => (y_assign rfl (ev_tmp rfl rfl))) ?_
  refine a_nil ?_
  refine k_next (e := [(6, (Value.int .i64 r1.1)), (7, (Value.int .i64 r1.2))]) ⟨rfl, rfl, trivial⟩ ?_
  refine c_ret ?_
  obtain rfl := some_inj h
  exact q_ret (vs := [(Value.int .i64 r1.1), (Value.int .i64 r1.2)]) Tryz.results106 ⟨ev_tmp rfl rfl, ⟨ev_tmp rfl rfl, trivial⟩⟩ ⟨rfl, hI.ext0, hI.fin trivial⟩

set_option maxRecDepth 100000 in
set_option maxHeartbeats 4000000 in
theorem c_fixed_Mul (F : NP) (w0 : World) (hF : ∀ k, F k → k < w0.heap.size) (t1 : GType) (a1 : GVal) (b1 : GVal) (hc : AllCl [] F w0) (r : GVal × Int)
    (h : m_fixed_Mul t1 a1 b1 = some r) :
    Calls Tryz.prog 77 #[(Value.agg #[(Value.int .i64 t1.Kind), (Value.int .i64 t1.Bits), (Value.int .i64 t1.Frac), (Value.int .i64 t1.Round), (Value.int .i64 t1.Over)]), (Value.agg #[(Value.int .i64 a1.N), (Value.int .i64 a1.D)]), (Value.agg #[(Value.int .i64 b1.N), (Value.int .i64 b1.D)])] w0 fun e w => e = .returned (Value.tuple #[(Value.agg #[(Value.int .i64 r.1.N), (Value.int .i64 r.1.D)]), (Value.int .i64 r.2)]) ∧ Ext w0 w ∧ AllCl [] F w := by
  refine ofEnter (R := fun v w => v = (Value.tuple #[(Value.agg #[(Value.int .i64 r.1.N), (Value.int .i64 r.1.D)]), (Value.int .i64 r.2)]) ∧ Ext w0 w ∧ AllCl [] F w) (enter (l := [(Value.agg #[(Value.int .i64 t1.Kind), (Value.int .i64 t1.Bits), (Value.int .i64 t1.Frac), (Value.int .i64 t1.Round), (Value.int .i64 t1.Over)]), (Value.agg #[(Value.int .i64 a1.N), (Value.int .i64 a1.D)]), (Value.agg #[(Value.int .i64 b1.N), (Value.int .i64 b1.D)])]) Tryz.func77 rfl Tryz.ntmps77 rfl ?_) ?_
  rotate_left
  · rintro _ w ⟨rfl, k1, k2⟩; exact ⟨rfl, k1, k2⟩
  have hI := Bun.start hF hc
  clear hc
  rw [m_fixed_Mul] at h
  refine c_seq ?_
  refine c_region rfl ?_
  refine l_box (v := (Value.agg #[(Value.int .i64 t1.Kind), (Value.int .i64 t1.Bits), (Value.int .i64 t1.Frac), (Value.int .i64 t1.Round), (Value.int .i64 t1.Over)])) (cs := #[(Value.int .i64 t1.Kind), (Value.int .i64 t1.Bits), (Value.int .i64 t1.Frac), (Value.int .i64 t1.Round), (Value.int .i64 t1.Over)]) hI rfl rfl rfl (ev_tmp rfl rfl) rfl ?_
  clear hI; intro b2 c1 w1 hI
  obtain ⟨c2, hI⟩ := hI.relBox .z
  refine l_box (v := (Value.agg #[(Value.int .i64 a1.N), (Value.int .i64 a1.D)])) (cs := #[(Value.int .i64 a1.N), (Value.int .i64 a1.D)]) hI rfl rfl rfl (ev_tmp rfl rfl) rfl ?_
  clear hI; intro b3 c3 w2 hI
  obtain ⟨c4, hI⟩ := hI.relBox .z
  refine l_box (v := (Value.agg #[(Value.int .i64 b1.N), (Value.int .i64 b1.D)])) (cs := #[(Value.int .i64 b1.N), (Value.int .i64 b1.D)]) hI rfl rfl rfl (ev_tmp rfl rfl) rfl ?_
  clear hI; intro b4 c5 w3 hI
  obtain ⟨c6, hI⟩ := hI.relBox .z
  refine l_alloc (cs := #[(Value.int .i64 0), (Value.int .i64 0)]) hI rfl rfl rfl zero_27 rfl ?_
  clear hI; intro b5 c7 w4 hI
  refine s_q rfl rfl (y_assign rfl ev_const) ?_
  refine s_nil ?_
  refine k_next (e := [(3, (Value.pointer (some ⟨b2, 0, none⟩))), (4, (Value.pointer (some ⟨b3, 0, none⟩))), (5, (Value.pointer (some ⟨b4, 0, none⟩))), (6, (Value.pointer (some ⟨b5, 0, none⟩)))]) ⟨rfl, rfl, rfl, rfl, trivial⟩ ?_
  refine c_seq ?_
  refine c_region rfl ?_
  refine s_q rfl rfl (y_build (vs := [(0, (Value.func (.func 106) #[] #[]))]) (cs := #[(Value.func (.func 106) #[] #[])]) rfl ⟨rfl, ev_func, trivial⟩ (by kernel_rfl)) ?_
  refine s_q rfl rfl (y_loadN (l := [(Value.int .i64 t1.Kind), (Value.int .i64 t1.Bits), (Value.int .i64 t1.Frac), (Value.int .i64 t1.Round), (Value.int .i64 t1.Over)]) rfl (ev_tmp rfl rfl) Tryz.underlying23 rfl size_23 (hI.kblk (l := [(Value.int .i64 t1.Kind), (Value.int .i64 t1.Bits), (Value.int .i64 t1.Frac), (Value.int .i64 t1.Round), (Value.int .i64 t1.Over)]) (.s (.s .z)) rfl).1) ?_
  refine s_q rfl rfl (y_loadN (l := [(Value.int .i64 a1.N), (Value.int .i64 a1.D)]) rfl (ev_tmp rfl rfl) Tryz.underlying27 rfl size_27 (hI.kblk (l := [(Value.int .i64 a1.N), (Value.int .i64 a1.D)]) (.s .z) rfl).1) ?_
  refine s_q rfl rfl (y_loadN (l := [(Value.int .i64 b1.N), (Value.int .i64 b1.D)]) rfl (ev_tmp rfl rfl) Tryz.underlying27 rfl size_27 (hI.kblk (l := [(Value.int .i64 b1.N), (Value.int .i64 b1.D)]) .z rfl).1) ?_
  have hI := hI.add (c := clFn_k1 (Value.func (.func 106) #[] #[]) m_fixed_Mul_1) ⟨rfl, fun D' w' hs hl x1 x2 x3 r k h => CallV.fn (cap := []) ok_106 (c_fixed_Mul_1 D' w' hl x1 x2 x3 trivial r h)⟩
  obtain ⟨r1, hx1, h⟩ := bnd_some h
  refine s_call rfl rfl (r_callF (vs := [(Value.agg #[(Value.func (.func 106) #[] #[])]), (Value.agg #[(Value.int .i64 t1.Kind), (Value.int .i64 t1.Bits), (Value.int .i64 t1.Frac), (Value.int .i64 t1.Round), (Value.int .i64 t1.Over)]), (Value.agg #[(Value.int .i64 a1.N), (Value.int .i64 a1.D)]), (Value.agg #[(Value.int .i64 b1.N), (Value.int .i64 b1.D)])]) rfl ok_101 ⟨(ev_tmp rfl rfl), ⟨(ev_tmp rfl rfl), ⟨(ev_tmp rfl rfl), ⟨(ev_tmp rfl rfl), trivial⟩⟩⟩⟩) (Calls.mono (c_fixed_apply (Dj F c7) w4 hI.lt (⟨m_fixed_Mul_1⟩ : Gfixed_operation) t1 a1 b1 (Value.func (.func 106) #[] #[]) ⟨(hI.get .z), trivial⟩ r1 hx1) ?_)
  rintro _ w5 ⟨rfl, hx2, hl1⟩
  refine ⟨_, rfl, ?_⟩
  replace hI := (hI.ext hx2)
  refine s_q rfl rfl (y_extract rfl (ev_tmp rfl rfl) rfl) ?_
  refine s_q rfl rfl (y_extract rfl (ev_tmp rfl rfl) rfl) ?_
  refine l_store (new := [(Value.int .i64 r1.1.N), (Value.int .i64 r1.1.D)]) (cs' := #[(Value.int .i64 r1.1.N), (Value.int .i64 r1.1.D)]) hI .z rfl rfl rfl (ev_tmp rfl rfl) (ev_tmp rfl rfl) rfl size_27 rfl rfl rfl ?_
  clear hI; intro c8 w6 hI
  refine s_q rfl rfl (y_assign rfl (ev_tmp rfl rfl)) ?_
  refine s_nil ?_
  refine k_next (e := [(6, (Value.pointer (some ⟨b5, 0, none⟩))), (7, (Value.int .i64 r1.2))]) ⟨rfl, rfl, trivial⟩ ?_
  refine c_ret ?_
  obtain rfl := some_inj h
  exact q_ret (vs := [(Value.agg #[(Value.int .i64 r1.1.N), (Value.int .i64 r1.1.D)]), (Value.int .i64 r1.2)]) Tryz.results77 ⟨⟨_, ev_tmp rfl rfl, load_agg (l := [(Value.int .i64 r1.1.N), (Value.int .i64 r1.1.D)]) Tryz.underlying27 rfl size_27 (CellsAt.of_blk (hI.blk .z) rfl)⟩, ⟨ev_tmp rfl rfl, trivial⟩⟩ ⟨rfl, hI.ext0, hI.fin trivial⟩

set_option maxRecDepth 100000 in
set_option maxHeartbeats 4000000 in
theorem c_fixed_Div_1 (F : NP) (w0 : World) (hF : ∀ k, F k → k < w0.heap.size) (t1 : GType) (x1 : Int) (y1 : Int) (hc : AllCl [] F w0) (r : Int × Int)
    (h : m_fixed_Div_1 t1 x1 y1 = some r) :
    Calls Tryz.prog 108 #[(Value.agg #[(Value.int .i64 t1.Kind), (Value.int .i64 t1.Bits), (Value.int .i64 t1.Frac), (Value.int .i64 t1.Round), (Value.int .i64 t1.Over)]), (Value.int .i64 x1), (Value.int .i64 y1)] w0 fun e w => e = .returned (Value.tuple #[(Value.int .i64 r.1), (Value.int .i64 r.2)]) ∧ Ext w0 w ∧ AllCl [] F w := by
  refine ofEnter (R := fun v w => v = (Value.tuple #[(Value.int .i64 r.1), (Value.int .i64 r.2)]) ∧ Ext w0 w ∧ AllCl [] F w) (enter (l := [(Value.agg #[(Value.int .i64 t1.Kind), (Value.int .i64 t1.Bits), (Value.int .i64 t1.Frac), (Value.int .i64 t1.Round), (Value.int .i64 t1.Over)]), (Value.int .i64 x1), (Value.int .i64 y1)]) Tryz.func108 rfl Tryz.ntmps108 rfl ?_) ?_
  rotate_left
  · rintro _ w ⟨rfl, k1, k2⟩; exact ⟨rfl, k1, k2⟩
  have hI := Bun.start hF hc
  clear hc
  rw [m_fixed_Div_1] at h
  refine c_seq ?_
  refine c_region rfl ?_
  refine l_box (v := (Value.agg #[(Value.int .i64 t1.Kind), (Value.int .i64 t1.Bits), (Value.int .i64 t1.Frac), (Value.int .i64 t1.Round), (Value.int .i64 t1.Over)])) (cs := #[(Value.int .i64 t1.Kind), (Value.int .i64 t1.Bits), (Value.int .i64 t1.Frac), (Value.int .i64 t1.Round), (Value.int .i64 t1.Over)]) hI rfl rfl rfl (ev_tmp rfl rfl) rfl ?_
  clear hI; intro b1 c1 w1 hI
  obtain ⟨c2, hI⟩ := hI.relBox .z
  refine s_q rfl rfl (y_assign rfl ev_const) ?_
  refine s_q rfl rfl (y_assign rfl ev_const) ?_
  refine s_nil ?_
  refine k_next (e := [(1, (Value.int .i64 x1)), (2, (Value.int .i64 y1)), (3, (Value.pointer (some ⟨b1, 0, none⟩)))]) ⟨rfl, rfl, rfl, trivial⟩ ?_
  refine c_seq ?_
  refine c_drawX [] false (.c (0, .q) (.c (1, .q) (.c (2, .q) (.c (3, .q) (.c (4, .q) (.c (5, .q) (.c (6, .q) (.c (7, .s) (.c (8, .q) (.c (9, .q) (.c (10, .q) (.c (11, .q) .n)))))))))))) hI (by kernel_rfl) (by kernel_rfl) ?_
  clear hI; intro w2 hI
  refine a_q rfl rfl rfl (fun w' => (y_move rfl (ev_tmp rfl rfl))) ?_
  refine a_q rfl rfl rfl (fun w' => (y_fieldAddr rfl (ev_tmp rfl rfl) Tryz.underlying23 rfl size_3 rfl)) ?_
  refine a_read rfl rfl rfl (fun w' hw' => (y_load1 (v := (Value.int .i64 t1.Frac)) rfl (ev_tmp rfl rfl) Tryz.underlying3 rfl ((hI.kblk (l := [(Value.int .i64 t1.Frac)]) .z rfl).at_ (SX.any rfl hw')))) (by kernel_rfl) ?_
  obtain ⟨ho1, h⟩ := chk_some h
  refine a_q rfl rfl rfl (fun w' => (y_shl rfl (ev_tmp rfl rfl) (ev_tmp rfl rfl) ho1)) ?_
  refine a_q rfl rfl rfl (fun w' => (y_move rfl (ev_tmp rfl rfl))) ?_
  refine a_q rfl rfl rfl (fun w' => (y_fieldAddr rfl (ev_tmp rfl rfl) Tryz.underlying23 rfl size_3 rfl)) ?_
  refine a_read rfl rfl rfl (fun w' hw' => (y_load1 (v := (Value.int .i64 t1.Round)) rfl (ev_tmp rfl rfl) Tryz.underlying3 rfl ((hI.kblk (l := [(Value.int .i64 t1.Round)]) .z rfl).at_ (SX.any rfl hw')))) (by kernel_rfl) ?_
  obtain ⟨r1, hx1, h⟩ := bnd_some h
  refine la_call rfl rfl rfl (r_callF (vs := [(Value.int .i64 (wi64 (x1 * 2 ^ (min (Int.toNat t1.Frac) 64)))), (Value.int .i64 y1), (Value.int .i64 t1.Round)]) rfl ok_107 ⟨(ev_tmp rfl rfl), ⟨(ev_tmp rfl rfl), ⟨(ev_tmp rfl rfl), trivial⟩⟩⟩) (Calls.mono (c_round_Divide (Dj F c2) w2 hI.lt (wi64 (x1 * 2 ^ (min (Int.toNat t1.Frac) 64))) y1 t1.Round trivial r1 hx1) ?_)
  rintro _ w3 ⟨rfl, hx2, hl1⟩
  refine ⟨_, rfl, hx2, ?_⟩
  replace hI := (hI.ext hx2)
  refine a_q rfl rfl rfl (fun w' => (y_extract rfl (ev_tmp rfl rfl) rfl)) ?_
  refine a_q rfl rfl rfl (fun w' => (y_extract rfl (ev_tmp rfl rfl) rfl)) ?_
  refine a_q rfl rfl rfl (fun w' => (y_assign rfl (ev_tmp rfl rfl))) ?_
  refine a_q rfl rfl rfl (fun w' => (y_assign rfl (ev_tmp rfl rfl))) ?_
  refine a_nil ?_
  refine k_next (e := [(6, (Value.int .i64 r1.1)), (7, (Value.int .i64 r1.2))]) ⟨rfl, rfl, trivial⟩ ?_
  refine c_ret ?_
  obtain rfl := some_inj h
  exact q_ret (vs := [(Value.int .i64 r1.1), (Value.int .i64 r1.2)]) Tryz.results108 ⟨ev_tmp rfl rfl, ⟨ev_tmp rfl rfl, trivial⟩⟩ ⟨rfl, hI.ext0, hI.fin trivial⟩

set_option maxRecDepth 100000 in
set_option maxHeartbeats 4000000 in
theorem c_fixed_Div (F : NP) (w0 : World) (hF : ∀ k, F k → k < w0.heap.size) (t1 : GType) (a1 : GVal) (b1 : GVal) (hc : AllCl [] F w0) (r : GVal × Int)
    (h : m_fixed_Div t1 a1 b1 = some r) :
    Calls Tryz.prog 78 #[(Value.agg #[(Value.int .i64 t1.Kind), (Value.int .i64 t1.Bits), (Value.int .i64 t1.Frac), (Value.int .i64 t1.Round), (Value.int .i64 t1.Over)]), (Value.agg #[(Value.int .i64 a1.N), (Value.int .i64 a1.D)]), (Value.agg #[(Value.int .i64 b1.N), (Value.int .i64 b1.D)])] w0 fun e w => e = .returned (Value.tuple #[(Value.agg #[(Value.int .i64 r.1.N), (Value.int .i64 r.1.D)]), (Value.int .i64 r.2)]) ∧ Ext w0 w ∧ AllCl [] F w := by
  refine ofEnter (R := fun v w => v = (Value.tuple #[(Value.agg #[(Value.int .i64 r.1.N), (Value.int .i64 r.1.D)]), (Value.int .i64 r.2)]) ∧ Ext w0 w ∧ AllCl [] F w) (enter (l := [(Value.agg #[(Value.int .i64 t1.Kind), (Value.int .i64 t1.Bits), (Value.int .i64 t1.Frac), (Value.int .i64 t1.Round), (Value.int .i64 t1.Over)]), (Value.agg #[(Value.int .i64 a1.N), (Value.int .i64 a1.D)]), (Value.agg #[(Value.int .i64 b1.N), (Value.int .i64 b1.D)])]) Tryz.func78 rfl Tryz.ntmps78 rfl ?_) ?_
  rotate_left
  · rintro _ w ⟨rfl, k1, k2⟩; exact ⟨rfl, k1, k2⟩
  have hI := Bun.start hF hc
  clear hc
  rw [m_fixed_Div] at h
  refine c_seq ?_
  refine c_region rfl ?_
  refine l_box (v := (Value.agg #[(Value.int .i64 t1.Kind), (Value.int .i64 t1.Bits), (Value.int .i64 t1.Frac), (Value.int .i64 t1.Round), (Value.int .i64 t1.Over)])) (cs := #[(Value.int .i64 t1.Kind), (Value.int .i64 t1.Bits), (Value.int .i64 t1.Frac), (Value.int .i64 t1.Round), (Value.int .i64 t1.Over)]) hI rfl rfl rfl (ev_tmp rfl rfl) rfl ?_
  clear hI; intro b2 c1 w1 hI
  obtain ⟨c2, hI⟩ := hI.relBox .z
  refine l_box (v := (Value.agg #[(Value.int .i64 a1.N), (Value.int .i64 a1.D)])) (cs := #[(Value.int .i64 a1.N), (Value.int .i64 a1.D)]) hI rfl rfl rfl (ev_tmp rfl rfl) rfl ?_
  clear hI; intro b3 c3 w2 hI
  obtain ⟨c4, hI⟩ := hI.relBox .z
  refine l_box (v := (Value.agg #[(Value.int .i64 b1.N), (Value.int .i64 b1.D)])) (cs := #[(Value.int .i64 b1.N), (Value.int .i64 b1.D)]) hI rfl rfl rfl (ev_tmp rfl rfl) rfl ?_
  clear hI; intro b4 c5 w3 hI
  obtain ⟨c6, hI⟩ := hI.relBox .z
  refine l_alloc (cs := #[(Value.int .i64 0), (Value.int .i64 0)]) hI rfl rfl rfl zero_27 rfl ?_
  clear hI; intro b5 c7 w4 hI
  refine s_q rfl rfl (y_assign rfl ev_const) ?_
  refine s_nil ?_
  refine k_next (e := [(3, (Value.pointer (some ⟨b2, 0, none⟩))), (4, (Value.pointer (some ⟨b3, 0, none⟩))), (5, (Value.pointer (some ⟨b4, 0, none⟩))), (6, (Value.pointer (some ⟨b5, 0, none⟩)))]) ⟨rfl, rfl, rfl, rfl, trivial⟩ ?_
  refine c_seq ?_
  refine c_region rfl ?_
  refine s_q rfl rfl (y_build (vs := [(0, (Value.func (.func 108) #[] #[]))]) (cs := #[(Value.func (.func 108) #[] #[])]) rfl ⟨rfl, ev_func, trivial⟩ (by kernel_rfl)) ?_
  refine s_q rfl rfl (y_loadN (l := [(Value.int .i64 t1.Kind), (Value.int .i64 t1.Bits), (Value.int .i64 t1.Frac), (Value.int .i64 t1.Round), (Value.int .i64 t1.Over)]) rfl (ev_tmp rfl rfl) Tryz.underlying23 rfl size_23 (hI.kblk (l := [(Value.int .i64 t1.Kind), (Value.int .i64 t1.Bits), (Value.int .i64 t1.Frac), (Value.int .i64 t1.Round), (Value.int .i64 t1.Over)]) (.s (.s .z)) rfl).1) ?_
  refine s_q rfl rfl (y_loadN (l := [(Value.int .i64 a1.N), (Value.int .i64 a1.D)]) rfl (ev_tmp rfl rfl) Tryz.underlying27 rfl size_27 (hI.kblk (l := [(Value.int .i64 a1.N), (Value.int .i64 a1.D)]) (.s .z) rfl).1) ?_
  refine s_q rfl rfl (y_loadN (l := [(Value.int .i64 b1.N), (Value.int .i64 b1.D)]) rfl (ev_tmp rfl rfl) Tryz.underlying27 rfl size_27 (hI.kblk (l := [(Value.int .i64 b1.N), (Value.int .i64 b1.D)]) .z rfl).1) ?_
  have hI := hI.add (c := clFn_k1 (Value.func (.func 108) #[] #[]) m_fixed_Div_1) ⟨rfl, fun D' w' hs hl x1 x2 x3 r k h => CallV.fn (cap := []) ok_108 (c_fixed_Div_1 D' w' hl x1 x2 x3 trivial r h)⟩
  obtain ⟨r1, hx1, h⟩ := bnd_some h
  refine s_call rfl rfl (r_callF (vs := [(Value.agg #[(Value.func (.func 108) #[] #[])]), (Value.agg #[(Value.int .i64 t1.Kind), (Value.int .i64 t1.Bits), (Value.int .i64 t1.Frac), (Value.int .i64 t1.Round), (Value.int .i64 t1.Over)]), (Value.agg #[(Value.int .i64 a1.N), (Value.int .i64 a1.D)]), (Value.agg #[(Value.int .i64 b1.N), (Value.int .i64 b1.D)])]) rfl ok_101 ⟨(ev_tmp rfl rfl), ⟨(ev_tmp rfl rfl), ⟨(ev_tmp rfl rfl), ⟨(ev_tmp rfl rfl), trivial⟩⟩⟩⟩) (Calls.mono (c_fixed_apply (Dj F c7) w4 hI.lt (⟨m_fixed_Div_1⟩ : Gfixed_operation) t1 a1 b1 (Value.func (.func 108) #[] #[]) ⟨(hI.get .z), trivial⟩ r1 hx1) ?_)
  rintro _ w5 ⟨rfl, hx2, hl1⟩
  refine ⟨_, rfl, ?_⟩
  replace hI := (hI.ext hx2)
  refine s_q rfl rfl (y_extract rfl (ev_tmp rfl rfl) rfl) ?_
  refine s_q rfl rfl (y_extract rfl (ev_tmp rfl rfl) rfl) ?_
  refine l_store (new := [(Value.int .i64 r1.1.N), (Value.int .i64 r1.1.D)]) (cs' := #[(Value.int .i64 r1.1.N), (Value.int .i64 r1.1.D)]) hI .z rfl rfl rfl (ev_tmp rfl rfl) (ev_tmp rfl rfl) rfl size_27 rfl rfl rfl ?_
  clear hI; intro c8 w6 hI
  refine s_q rfl rfl (y_assign rfl (ev_tmp rfl rfl)) ?_
  refine s_nil ?_
  refine k_next (e := [(6, (Value.pointer (some ⟨b5, 0, none⟩))), (7, (Value.int .i64 r1.2))]) ⟨rfl, rfl, trivial⟩ ?_
  refine c_ret ?_
  obtain rfl := some_inj h
  exact q_ret (vs := [(Value.agg #[(Value.int .i64 r1.1.N), (Value.int .i64 r1.1.D)]), (Value.int .i64 r1.2)]) Tryz.results78 ⟨⟨_, ev_tmp rfl rfl, load_agg (l := [(Value.int .i64 r1.1.N), (Value.int .i64 r1.1.D)]) Tryz.underlying27 rfl size_27 (CellsAt.of_blk (hI.blk .z) rfl)⟩, ⟨ev_tmp rfl rfl, trivial⟩⟩ ⟨rfl, hI.ext0, hI.fin trivial⟩

set_option maxRecDepth 100000 in
set_option maxHeartbeats 4000000 in
theorem c_frac_New (F : NP) (w0 : World) (hF : ∀ k, F k → k < w0.heap.size) (n1 : Int) (d1 : Int) (hc : AllCl [] F w0) (r : GVal × Int)
    (h : m_frac_New n1 d1 = some r) :
    Calls Tryz.prog 98 #[(Value.int .i64 n1), (Value.int .i64 d1)] w0 fun e w => e = .returned (Value.tuple #[(Value.agg #[(Value.int .i64 r.1.N), (Value.int .i64 r.1.D)]), (Value.int .i64 r.2)]) ∧ Ext w0 w ∧ AllCl [] F w := by
  refine ofEnter (R := fun v w => v = (Value.tuple #[(Value.agg #[(Value.int .i64 r.1.N), (Value.int .i64 r.1.D)]), (Value.int .i64 r.2)]) ∧ Ext w0 w ∧ AllCl [] F w) (enter (l := [(Value.int .i64 n1), (Value.int .i64 d1)]) Tryz.func98 rfl Tryz.ntmps98 rfl ?_) ?_
  rotate_left
  · rintro _ w ⟨rfl, k1, k2⟩; exact ⟨rfl, k1, k2⟩
  have hI := Bun.start hF hc
  clear hc
  rw [m_frac_New] at h
  refine c_seq ?_
  refine c_region rfl ?_
  refine l_alloc (cs := #[(Value.int .i64 0), (Value.int .i64 0)]) hI rfl rfl rfl zero_27 rfl ?_
  clear hI; intro b1 c1 w1 hI
  refine s_q rfl rfl (y_assign rfl ev_const) ?_
  refine s_nil ?_
  refine k_next (e := [(0, (Value.int .i64 n1)), (1, (Value.int .i64 d1)), (4, (Value.pointer (some ⟨b1, 0, none⟩)))]) ⟨rfl, rfl, rfl, trivial⟩ ?_
  refine c_seq ?_
  refine c_seq ?_
  refine c_region rfl ?_
  refine s_q rfl rfl (y_move rfl (ev_tmp rfl rfl)) ?_
  refine s_q rfl rfl (y_eql rfl (ev_tmp rfl rfl) ev_const) ?_
  refine s_nil ?_
  refine k_next (e := [(0, (Value.int .i64 n1)), (1, (Value.int .i64 d1)), (4, (Value.pointer (some ⟨b1, 0, none⟩))), (11, (Value.bool (decide (d1 = 0))))]) ⟨rfl, rfl, rfl, rfl, trivial⟩ ?_
  refine c_cond (b := decide (d1 = 0)) (ev_tmp rfl rfl) (fun hb => ?_) (fun hb => ?_)
  · replace h := ite_t hb h
    refine c_seq ?_
    refine c_region rfl ?_
    refine s_q rfl rfl (y_build (vs := []) (cs := #[(Value.int .i64 0), (Value.int .i64 0)]) rfl trivial (by kernel_rfl)) ?_
    refine l_store (new := [(Value.int .i64 0), (Value.int .i64 0)]) (cs' := #[(Value.int .i64 0), (Value.int .i64 0)]) hI .z rfl rfl rfl (ev_tmp rfl rfl) (ev_tmp rfl rfl) rfl size_27 rfl rfl rfl ?_
    clear hI; intro c2 w2 hI
    refine s_q rfl rfl (y_assign rfl ev_const) ?_
    refine s_nil ?_
    refine k_next (e := [(4, (Value.pointer (some ⟨b1, 0, none⟩))), (5, (Value.int .i64 4))]) ⟨rfl, rfl, trivial⟩ ?_
    refine c_ret ?_
    obtain rfl := some_inj h
    exact q_ret (vs := [(Value.agg #[(Value.int .i64 0), (Value.int .i64 0)]), (Value.int .i64 4)]) Tryz.results98 ⟨⟨_, ev_tmp rfl rfl, load_agg (l := [(Value.int .i64 0), (Value.int .i64 0)]) Tryz.underlying27 rfl size_27 (CellsAt.of_blk (hI.blk .z) rfl)⟩, ⟨ev_tmp rfl rfl, trivial⟩⟩ ⟨rfl, hI.ext0, hI.fin trivial⟩
  · replace h := ite_f hb h
    refine c_skip ?_
    refine k_next (e := [(0, (Value.int .i64 n1)), (1, (Value.int .i64 d1)), (4, (Value.pointer (some ⟨b1, 0, none⟩)))]) ⟨rfl, rfl, rfl, trivial⟩ ?_
    refine c_seq ?_
    refine c_region rfl ?_
    refine s_q rfl rfl (y_move rfl (ev_tmp rfl rfl)) ?_
    refine s_q rfl rfl (y_lss rfl (ev_tmp rfl rfl) ev_const) ?_
    refine s_q rfl rfl (y_move rfl (ev_tmp rfl rfl)) ?_
    refine s_q rfl rfl (y_lss rfl (ev_tmp rfl rfl) ev_const) ?_
    refine s_q rfl rfl (y_neb rfl Tryz.underlying4 (ev_tmp rfl rfl) (ev_tmp rfl rfl)) ?_
    obtain ⟨negative1, hx1, h⟩ := bnd_some h
    refine s_q rfl rfl (binU (y_assign rfl (ev_tmp rfl rfl)) (congrArg Value.bool (some_inj hx1))) ?_
    refine s_nil ?_
    refine k_next (e := [(0, (Value.int .i64 n1)), (1, (Value.int .i64 d1)), (4, (Value.pointer (some ⟨b1, 0, none⟩))), (6, (Value.bool negative1))]) ⟨rfl, rfl, rfl, rfl, trivial⟩ ?_
    refine c_seq ?_
    refine c_region rfl ?_
    refine s_q rfl rfl (y_move rfl (ev_tmp rfl rfl)) ?_
    obtain ⟨r1, hx2, h⟩ := bnd_some h
    refine s_call rfl rfl (r_callF (vs := [(Value.int .i64 n1)]) rfl ok_87 ⟨(ev_tmp rfl rfl), trivial⟩) (Calls.mono (c_frac_magnitude (Dj F c1) w1 hI.lt n1 trivial r1 hx2) ?_)
    rintro _ w3 ⟨rfl, hx3, hl1⟩
    refine ⟨_, rfl, ?_⟩
    replace hI := (hI.ext hx3)
    refine s_q rfl rfl (y_move rfl (ev_tmp rfl rfl)) ?_
    obtain ⟨r2, hx4, h⟩ := bnd_some h
    refine s_call rfl rfl (r_callF (vs := [(Value.int .i64 d1)]) rfl ok_87 ⟨(ev_tmp rfl rfl), trivial⟩) (Calls.mono (c_frac_magnitude (Dj F c1) w3 hI.lt d1 trivial r2 hx4) ?_)
    rintro _ w4 ⟨rfl, hx5, hl2⟩
    refine ⟨_, rfl, ?_⟩
    replace hI := (hI.ext hx5)
    refine s_q rfl rfl (y_assign rfl (ev_tmp rfl rfl)) ?_
    refine s_q rfl rfl (y_assign rfl (ev_tmp rfl rfl)) ?_
    refine s_nil ?_
    refine k_next (e := [(4, (Value.pointer (some ⟨b1, 0, none⟩))), (6, (Value.bool negative1)), (7, (Value.int .u64 r1)), (8, (Value.int .u64 r2))]) ⟨rfl, rfl, rfl, rfl, trivial⟩ ?_
    refine c_seq ?_
    refine c_region rfl ?_
    refine s_q rfl rfl (y_move rfl (ev_tmp rfl rfl)) ?_
    refine s_q rfl rfl (y_move rfl (ev_tmp rfl rfl)) ?_
    obtain ⟨r3, hx6, h⟩ := bnd_some h
    refine s_call rfl rfl (r_callF (vs := [(Value.int .u64 r1), (Value.int .u64 r2)]) rfl ok_86 ⟨(ev_tmp rfl rfl), ⟨(ev_tmp rfl rfl), trivial⟩⟩) (Calls.mono (c_frac_gcd (Dj F c1) w4 hI.lt r1 r2 trivial r3 hx6) ?_)
    rintro _ w5 ⟨rfl, hx7, hl3⟩
    refine ⟨_, rfl, ?_⟩
    replace hI := (hI.ext hx7)
    refine s_q rfl rfl (y_assign rfl (ev_tmp rfl rfl)) ?_
    refine s_nil ?_
    refine k_next (e := [(4, (Value.pointer (some ⟨b1, 0, none⟩))), (6, (Value.bool negative1)), (7, (Value.int .u64 r1)), (8, (Value.int .u64 r2)), (9, (Value.int .u64 r3))]) ⟨rfl, rfl, rfl, rfl, rfl, trivial⟩ ?_
    refine c_seq ?_
    refine c_drawX [] false (.c (0, .q) (.c (1, .q) (.c (2, .q) (.c (3, .q) (.c (4, .q) (.c (5, .q) (.c (6, .q) (.c (7, .q) .n)))))))) hI (by kernel_rfl) (by kernel_rfl) ?_
    clear hI; intro w6 hI
    refine a_q rfl rfl rfl (fun w' => (y_move rfl (ev_tmp rfl rfl))) ?_
    refine a_q rfl rfl rfl (fun w' => (y_move rfl (ev_tmp rfl rfl))) ?_
    obtain ⟨ho1, h⟩ := chk_some h
    refine a_q rfl rfl rfl (fun w' => (y_quo rfl (ev_tmp rfl rfl) (ev_tmp rfl rfl) ho1)) ?_
    refine a_q rfl rfl rfl (fun w' => (y_move rfl (ev_tmp rfl rfl))) ?_
    refine a_q rfl rfl rfl (fun w' => (y_move rfl (ev_tmp rfl rfl))) ?_
    refine a_q rfl rfl rfl (fun w' => (y_quo rfl (ev_tmp rfl rfl) (ev_tmp rfl rfl) ho1)) ?_
    refine a_q rfl rfl rfl (fun w' => (y_assign rfl (ev_tmp rfl rfl))) ?_
    refine a_q rfl rfl rfl (fun w' => (y_assign rfl (ev_tmp rfl rfl))) ?_
    refine a_nil ?_
    refine k_next (e := [(4, (Value.pointer (some ⟨b1, 0, none⟩))), (6, (Value.bool negative1)), (7, (Value.int .u64 (wu64 (Int.tdiv r1 r3)))), (8, (Value.int .u64 (wu64 (Int.tdiv r2 r3))))]) ⟨rfl, rfl, rfl, rfl, trivial⟩ ?_
    refine c_seq ?_
    refine c_seq ?_
    refine c_region rfl ?_
    refine s_q rfl rfl (y_move rfl (ev_tmp rfl rfl)) ?_
    refine s_q rfl rfl (y_gtr rfl (ev_tmp rfl rfl) ev_const) ?_
    refine s_q rfl rfl (y_move rfl (ev_tmp rfl rfl)) ?_
    refine s_gval (g_false rfl rfl rfl rfl) rfl (fun hc => (y_move rfl (ev_tmp rfl rfl))) ?_
    refine s_gval (g_false rfl rfl rfl rfl) rfl (fun hc => (y_gtr rfl (ev_gv (ev_tmp rfl rfl) hc) ev_const)) ?_
    refine s_q rfl rfl (y_or rfl (ev_tmp rfl rfl) (ev_tmp rfl rfl)) ?_
    refine s_nil ?_
    refine k_next (e := [(4, (Value.pointer (some ⟨b1, 0, none⟩))), (6, (Value.bool negative1)), (7, (Value.int .u64 (wu64 (Int.tdiv r1 r3)))), (8, (Value.int .u64 (wu64 (Int.tdiv r2 r3)))), (36, (Value.bool ((decide (2147483647 < wu64 (Int.tdiv r1 r3))) || (decide (2147483647 < wu64 (Int.tdiv r2 r3))))))]) ⟨rfl, rfl, rfl, rfl, rfl, trivial⟩ ?_
    refine c_cond (b := (decide (2147483647 < wu64 (Int.tdiv r1 r3))) || (decide (2147483647 < wu64 (Int.tdiv r2 r3)))) (ev_tmp rfl rfl) (fun hb => ?_) (fun hb => ?_)
    · replace h := ite_t hb h
      refine c_seq ?_
      refine c_region rfl ?_
      refine s_q rfl rfl (y_build (vs := []) (cs := #[(Value.int .i64 0), (Value.int .i64 0)]) rfl trivial (by kernel_rfl)) ?_
      refine l_store (new := [(Value.int .i64 0), (Value.int .i64 0)]) (cs' := #[(Value.int .i64 0), (Value.int .i64 0)]) hI .z rfl rfl rfl (ev_tmp rfl rfl) (ev_tmp rfl rfl) rfl size_27 rfl rfl rfl ?_
      clear hI; intro c3 w7 hI
      refine s_q rfl rfl (y_assign rfl ev_const) ?_
      refine s_nil ?_
      refine k_next (e := [(4, (Value.pointer (some ⟨b1, 0, none⟩))), (5, (Value.int .i64 3))]) ⟨rfl, rfl, trivial⟩ ?_
      refine c_ret ?_
      obtain rfl := some_inj h
      exact q_ret (vs := [(Value.agg #[(Value.int .i64 0), (Value.int .i64 0)]), (Value.int .i64 3)]) Tryz.results98 ⟨⟨_, ev_tmp rfl rfl, load_agg (l := [(Value.int .i64 0), (Value.int .i64 0)]) Tryz.underlying27 rfl size_27 (CellsAt.of_blk (hI.blk .z) rfl)⟩, ⟨ev_tmp rfl rfl, trivial⟩⟩ ⟨rfl, hI.ext0, hI.fin trivial⟩
    · replace h := ite_f hb h
      refine c_skip ?_
      refine k_next (e := [(4, (Value.pointer (some ⟨b1, 0, none⟩))), (6, (Value.bool negative1)), (7, (Value.int .u64 (wu64 (Int.tdiv r1 r3)))), (8, (Value.int .u64 (wu64 (Int.tdiv r2 r3))))]) ⟨rfl, rfl, rfl, rfl, trivial⟩ ?_
      refine c_seq ?_
      refine c_seq ?_
      refine c_region rfl ?_
      refine s_q rfl rfl (y_move rfl (ev_tmp rfl rfl)) ?_
      refine s_nil ?_
      refine k_next (e := [(4, (Value.pointer (some ⟨b1, 0, none⟩))), (7, (Value.int .u64 (wu64 (Int.tdiv r1 r3)))), (8, (Value.int .u64 (wu64 (Int.tdiv r2 r3)))), (38, (Value.bool negative1))]) ⟨rfl, rfl, rfl, rfl, trivial⟩ ?_
      refine c_cond (b := negative1) (ev_tmp rfl rfl) (fun hb => ?_) (fun hb => ?_)
      · replace h := ite_t hb h
        refine c_seq ?_
        refine c_region rfl ?_
        refine s_q rfl rfl (y_move rfl (ev_tmp rfl rfl)) ?_
        refine s_q rfl rfl (y_conv rfl (by rw [Tryz.underlying74]; rfl) Tryz.underlying2 (ev_tmp rfl rfl)) ?_
        refine s_q rfl rfl (y_neg rfl (ev_tmp rfl rfl)) ?_
        refine s_q rfl rfl (y_move rfl (ev_tmp rfl rfl)) ?_
        refine s_q rfl rfl (y_conv rfl (by rw [Tryz.underlying74]; rfl) Tryz.underlying2 (ev_tmp rfl rfl)) ?_
        refine s_q rfl rfl (y_build (vs := [(0, (Value.int .i64 (wi64 (-(wi64 (wu64 (Int.tdiv r1 r3))))))), (1, (Value.int .i64 (wi64 (wu64 (Int.tdiv r2 r3)))))]) (cs := #[(Value.int .i64 (wi64 (-(wi64 (wu64 (Int.tdiv r1 r3)))))), (Value.int .i64 (wi64 (wu64 (Int.tdiv r2 r3))))]) rfl ⟨rfl, (ev_tmp rfl rfl), ⟨rfl, (ev_tmp rfl rfl), trivial⟩⟩ (by kernel_rfl)) ?_
        refine l_store (new := [(Value.int .i64 (wi64 (-(wi64 (wu64 (Int.tdiv r1 r3)))))), (Value.int .i64 (wi64 (wu64 (Int.tdiv r2 r3))))]) (cs' := #[(Value.int .i64 (wi64 (-(wi64 (wu64 (Int.tdiv r1 r3)))))), (Value.int .i64 (wi64 (wu64 (Int.tdiv r2 r3))))]) hI .z rfl rfl rfl (ev_tmp rfl rfl) (ev_tmp rfl rfl) rfl size_27 rfl rfl rfl ?_
        clear hI; intro c4 w8 hI
        refine s_q rfl rfl (y_assign rfl ev_const) ?_
        refine s_nil ?_
        refine k_next (e := [(4, (Value.pointer (some ⟨b1, 0, none⟩))), (5, (Value.int .i64 0))]) ⟨rfl, rfl, trivial⟩ ?_
        refine c_ret ?_
        obtain rfl := some_inj h
        exact q_ret (vs := [(Value.agg #[(Value.int .i64 (wi64 (-(wi64 (wu64 (Int.tdiv r1 r3)))))), (Value.int .i64 (wi64 (wu64 (Int.tdiv r2 r3))))]), (Value.int .i64 0)]) Tryz.results98 ⟨⟨_, ev_tmp rfl rfl, load_agg (l := [(Value.int .i64 (wi64 (-(wi64 (wu64 (Int.tdiv r1 r3)))))), (Value.int .i64 (wi64 (wu64 (Int.tdiv r2 r3))))]) Tryz.underlying27 rfl size_27 (CellsAt.of_blk (hI.blk .z) rfl)⟩, ⟨ev_tmp rfl rfl, trivial⟩⟩ ⟨rfl, hI.ext0, hI.fin trivial⟩
      · replace h := ite_f hb h
        refine c_skip ?_
        refine k_next (e := [(4, (Value.pointer (some ⟨b1, 0, none⟩))), (7, (Value.int .u64 (wu64 (Int.tdiv r1 r3)))), (8, (Value.int .u64 (wu64 (Int.tdiv r2 r3))))]) ⟨rfl, rfl, rfl, trivial⟩ ?_
        refine c_seq ?_
        refine c_region rfl ?_
        refine s_q rfl rfl (y_move rfl (ev_tmp rfl rfl)) ?_
        refine s_q rfl rfl (y_conv rfl (by rw [Tryz.underlying74]; rfl) Tryz.underlying2 (ev_tmp rfl rfl)) ?_
        refine s_q rfl rfl (y_move rfl (ev_tmp rfl rfl)) ?_
        refine s_q rfl rfl (y_conv rfl (by rw [Tryz.underlying74]; rfl) Tryz.underlying2 (ev_tmp rfl rfl)) ?_
        refine s_q rfl rfl (y_build (vs := [(0, (Value.int .i64 (wi64 (wu64 (Int.tdiv r1 r3))))), (1, (Value.int .i64 (wi64 (wu64 (Int.tdiv r2 r3)))))]) (cs := #[(Value.int .i64 (wi64 (wu64 (Int.tdiv r1 r3)))), (Value.int .i64 (wi64 (wu64 (Int.tdiv r2 r3))))]) rfl ⟨rfl, (ev_tmp rfl rfl), ⟨rfl, (ev_tmp rfl rfl), trivial⟩⟩ (by kernel_rfl)) ?_
        refine l_store (new := [(Value.int .i64 (wi64 (wu64 (Int.tdiv r1 r3)))), (Value.int .i64 (wi64 (wu64 (Int.tdiv r2 r3))))]) (cs' := #[(Value.int .i64 (wi64 (wu64 (Int.tdiv r1 r3)))), (Value.int .i64 (wi64 (wu64 (Int.tdiv r2 r3))))]) hI .z rfl rfl rfl (ev_tmp rfl rfl) (ev_tmp rfl rfl) rfl size_27 rfl rfl rfl ?_
        clear hI; intro c5 w9 hI
        refine s_q rfl rfl (y_assign rfl ev_const) ?_
        refine s_nil ?_
        refine k_next (e := [(4, (Value.pointer (some ⟨b1, 0, none⟩))), (5, (Value.int .i64 0))]) ⟨rfl, rfl, trivial⟩ ?_
        refine c_ret ?_
        obtain rfl := some_inj h
        exact q_ret (vs := [(Value.agg #[(Value.int .i64 (wi64 (wu64 (Int.tdiv r1 r3)))), (Value.int .i64 (wi64 (wu64 (Int.tdiv r2 r3))))]), (Value.int .i64 0)]) Tryz.results98 ⟨⟨_, ev_tmp rfl rfl, load_agg (l := [(Value.int .i64 (wi64 (wu64 (Int.tdiv r1 r3)))), (Value.int .i64 (wi64 (wu64 (Int.tdiv r2 r3))))]) Tryz.underlying27 rfl size_27 (CellsAt.of_blk (hI.blk .z) rfl)⟩, ⟨ev_tmp rfl rfl, trivial⟩⟩ ⟨rfl, hI.ext0, hI.fin trivial⟩

set_option maxRecDepth 100000 in
set_option maxHeartbeats 4000000 in
theorem c_frac_Add (F : NP) (w0 : World) (hF : ∀ k, F k → k < w0.heap.size) (a1 : GVal) (b1 : GVal) (hc : AllCl [] F w0) (r : GVal × Int)
    (h : m_frac_Add a1 b1 = some r) :
    Calls Tryz.prog 79 #[(Value.agg #[(Value.int .i64 a1.N), (Value.int .i64 a1.D)]), (Value.agg #[(Value.int .i64 b1.N), (Value.int .i64 b1.D)])] w0 fun e w => e = .returned (Value.tuple #[(Value.agg #[(Value.int .i64 r.1.N), (Value.int .i64 r.1.D)]), (Value.int .i64 r.2)]) ∧ Ext w0 w ∧ AllCl [] F w := by
  refine ofEnter (R := fun v w => v = (Value.tuple #[(Value.agg #[(Value.int .i64 r.1.N), (Value.int .i64 r.1.D)]), (Value.int .i64 r.2)]) ∧ Ext w0 w ∧ AllCl [] F w) (enter (l := [(Value.agg #[(Value.int .i64 a1.N), (Value.int .i64 a1.D)]), (Value.agg #[(Value.int .i64 b1.N), (Value.int .i64 b1.D)])]) Tryz.func79 rfl Tryz.ntmps79 rfl ?_) ?_
  rotate_left
  · rintro _ w ⟨rfl, k1, k2⟩; exact ⟨rfl, k1, k2⟩
  have hI := Bun.start hF hc
  clear hc
  rw [m_frac_Add] at h
  refine c_seq ?_
  refine c_region rfl ?_
  refine l_box (v := (Value.agg #[(Value.int .i64 a1.N), (Value.int .i64 a1.D)])) (cs := #[(Value.int .i64 a1.N), (Value.int .i64 a1.D)]) hI rfl rfl rfl (ev_tmp rfl rfl) rfl ?_
  clear hI; intro b2 c1 w1 hI
  obtain ⟨c2, hI⟩ := hI.relBox .z
  refine l_box (v := (Value.agg #[(Value.int .i64 b1.N), (Value.int .i64 b1.D)])) (cs := #[(Value.int .i64 b1.N), (Value.int .i64 b1.D)]) hI rfl rfl rfl (ev_tmp rfl rfl) rfl ?_
  clear hI; intro b3 c3 w2 hI
  obtain ⟨c4, hI⟩ := hI.relBox .z
  refine l_alloc (cs := #[(Value.int .i64 0), (Value.int .i64 0)]) hI rfl rfl rfl zero_27 rfl ?_
  clear hI; intro b4 c5 w3 hI
  refine s_q rfl rfl (y_assign rfl ev_const) ?_
  refine s_nil ?_
  refine k_next (e := [(2, (Value.pointer (some ⟨b2, 0, none⟩))), (3, (Value.pointer (some ⟨b3, 0, none⟩))), (4, (Value.pointer (some ⟨b4, 0, none⟩)))]) ⟨rfl, rfl, rfl, trivial⟩ ?_
  refine c_seq ?_
  refine c_seq ?_
  refine c_region rfl ?_
  refine s_q rfl rfl (y_loadN (l := [(Value.int .i64 a1.N), (Value.int .i64 a1.D)]) rfl (ev_tmp rfl rfl) Tryz.underlying27 rfl size_27 (hI.kblk (l := [(Value.int .i64 a1.N), (Value.int .i64 a1.D)]) (.s .z) rfl).1) ?_
  obtain ⟨r1, hx1, h⟩ := bnd_some h
  refine s_call rfl rfl (r_callF (vs := [(Value.agg #[(Value.int .i64 a1.N), (Value.int .i64 a1.D)])]) rfl ok_45 ⟨(ev_tmp rfl rfl), trivial⟩) (Calls.mono (c_frac_Valid (Dj F c5) w3 hI.lt a1 trivial r1 hx1) ?_)
  rintro _ w4 ⟨rfl, hx2, hl1⟩
  refine ⟨_, rfl, ?_⟩
  replace hI := (hI.ext hx2)
  refine s_q rfl rfl (y_not rfl (ev_tmp rfl rfl)) ?_
  refine s_q rfl rfl (y_move rfl (ev_tmp rfl rfl)) ?_
  refine s_gval (g_false rfl rfl rfl rfl) rfl (fun hc => (y_loadN (l := [(Value.int .i64 b1.N), (Value.int .i64 b1.D)]) rfl (ev_tmp rfl rfl) Tryz.underlying27 rfl size_27 (hI.kblk (l := [(Value.int .i64 b1.N), (Value.int .i64 b1.D)]) .z rfl).1)) ?_
  obtain ⟨r2, hx3, h⟩ := bnd_some h
  replace hx3 := gd_some hx3
  refine s_gcallU (v := (Value.bool r2)) (g_false rfl rfl rfl rfl) rfl (fun hc => (r_callF (vs := [(Value.agg #[(Value.int .i64 b1.N), (Value.int .i64 b1.D)])]) rfl ok_45 ⟨(ev_gv (ev_tmp rfl rfl) hc), trivial⟩)) (fun hc => (c_frac_Valid (Dj F c5) w4 hI.lt b1 trivial r2 (hx3 hc)).mono fun _ _ k => ⟨k.1, k.2.1⟩) ?_
  intro w5 hx4; replace hI := hI.ext hx4
  refine s_gval (g_false rfl rfl rfl rfl) rfl (fun hc => (y_not rfl (ev_gv (ev_tmp rfl rfl) hc))) ?_
  refine s_q rfl rfl (y_or rfl (ev_tmp rfl rfl) (ev_tmp rfl rfl)) ?_
  refine s_nil ?_
  refine k_next (e := [(2, (Value.pointer (some ⟨b2, 0, none⟩))), (3, (Value.pointer (some ⟨b3, 0, none⟩))), (4, (Value.pointer (some ⟨b4, 0, none⟩))), (13, (Value.bool ((!r1) || (!r2))))]) ⟨rfl, rfl, rfl, rfl, trivial⟩ ?_
  refine c_cond (b := (!r1) || (!r2)) (ev_tmp rfl rfl) (fun hb => ?_) (fun hb => ?_)
  · replace h := ite_t hb h
    refine c_seq ?_
    refine c_region rfl ?_
    refine s_q rfl rfl (y_build (vs := []) (cs := #[(Value.int .i64 0), (Value.int .i64 0)]) rfl trivial (by kernel_rfl)) ?_
    refine l_store (new := [(Value.int .i64 0), (Value.int .i64 0)]) (cs' := #[(Value.int .i64 0), (Value.int .i64 0)]) hI .z rfl rfl rfl (ev_tmp rfl rfl) (ev_tmp rfl rfl) rfl size_27 rfl rfl rfl ?_
    clear hI; intro c6 w6 hI
    refine s_q rfl rfl (y_assign rfl ev_const) ?_
    refine s_nil ?_
    refine k_next (e := [(4, (Value.pointer (some ⟨b4, 0, none⟩))), (5, (Value.int .i64 1))]) ⟨rfl, rfl, trivial⟩ ?_
    refine c_ret ?_
    obtain rfl := some_inj h
    exact q_ret (vs := [(Value.agg #[(Value.int .i64 0), (Value.int .i64 0)]), (Value.int .i64 1)]) Tryz.results79 ⟨⟨_, ev_tmp rfl rfl, load_agg (l := [(Value.int .i64 0), (Value.int .i64 0)]) Tryz.underlying27 rfl size_27 (CellsAt.of_blk (hI.blk .z) rfl)⟩, ⟨ev_tmp rfl rfl, trivial⟩⟩ ⟨rfl, hI.ext0, hI.fin trivial⟩
  · replace h := ite_f hb h
    refine c_skip ?_
    refine k_next (e := [(2, (Value.pointer (some ⟨b2, 0, none⟩))), (3, (Value.pointer (some ⟨b3, 0, none⟩))), (4, (Value.pointer (some ⟨b4, 0, none⟩)))]) ⟨rfl, rfl, rfl, trivial⟩ ?_
    refine c_seq ?_
    refine c_region rfl ?_
    refine s_q rfl rfl (y_fieldAddr rfl (ev_tmp rfl rfl) Tryz.underlying27 rfl size_2 rfl) ?_
    refine s_q rfl rfl (y_load1 (v := (Value.int .i64 a1.N)) rfl (ev_tmp rfl rfl) Tryz.underlying2 rfl (hI.kblk (l := [(Value.int .i64 a1.N)]) (.s .z) rfl).1) ?_
    refine s_q rfl rfl (y_fieldAddr rfl (ev_tmp rfl rfl) Tryz.underlying27 rfl size_2 rfl) ?_
    refine s_q rfl rfl (y_load1 (v := (Value.int .i64 b1.D)) rfl (ev_tmp rfl rfl) Tryz.underlying2 rfl (hI.kblk (l := [(Value.int .i64 b1.D)]) .z rfl).1) ?_
    refine s_q rfl rfl (y_mul rfl (ev_tmp rfl rfl) (ev_tmp rfl rfl)) ?_
    refine s_q rfl rfl (y_fieldAddr rfl (ev_tmp rfl rfl) Tryz.underlying27 rfl size_2 rfl) ?_
    refine s_q rfl rfl (y_load1 (v := (Value.int .i64 b1.N)) rfl (ev_tmp rfl rfl) Tryz.underlying2 rfl (hI.kblk (l := [(Value.int .i64 b1.N)]) .z rfl).1) ?_
    refine s_q rfl rfl (y_fieldAddr rfl (ev_tmp rfl rfl) Tryz.underlying27 rfl size_2 rfl) ?_
    refine s_q rfl rfl (y_load1 (v := (Value.int .i64 a1.D)) rfl (ev_tmp rfl rfl) Tryz.underlying2 rfl (hI.kblk (l := [(Value.int .i64 a1.D)]) (.s .z) rfl).1) ?_
    refine s_q rfl rfl (y_mul rfl (ev_tmp rfl rfl) (ev_tmp rfl rfl)) ?_
    refine s_q rfl rfl (y_add rfl (ev_tmp rfl rfl) (ev_tmp rfl rfl)) ?_
    refine s_q rfl rfl (y_fieldAddr rfl (ev_tmp rfl rfl) Tryz.underlying27 rfl size_2 rfl) ?_
    refine s_q rfl rfl (y_load1 (v := (Value.int .i64 a1.D)) rfl (ev_tmp rfl rfl) Tryz.underlying2 rfl (hI.kblk (l := [(Value.int .i64 a1.D)]) (.s .z) rfl).1) ?_
    refine s_q rfl rfl (y_fieldAddr rfl (ev_tmp rfl rfl) Tryz.underlying27 rfl size_2 rfl) ?_
    refine s_q rfl rfl (y_load1 (v := (Value.int .i64 b1.D)) rfl (ev_tmp rfl rfl) Tryz.underlying2 rfl (hI.kblk (l := [(Value.int .i64 b1.D)]) .z rfl).1) ?_
    refine s_q rfl rfl (y_mul rfl (ev_tmp rfl rfl) (ev_tmp rfl rfl)) ?_
    obtain ⟨r3, hx5, h⟩ := bnd_some h
    refine s_call rfl rfl (r_callF (vs := [(Value.int .i64 (wi64 ((wi64 (a1.N * b1.D)) + (wi64 (b1.N * a1.D))))), (Value.int .i64 (wi64 (a1.D * b1.D)))]) rfl ok_98 ⟨(ev_tmp rfl rfl), ⟨(ev_tmp rfl rfl), trivial⟩⟩) (Calls.mono (c_frac_New (Dj F c5) w5 hI.lt (wi64 ((wi64 (a1.N * b1.D)) + (wi64 (b1.N * a1.D)))) (wi64 (a1.D * b1.D)) trivial r3 hx5) ?_)
    rintro _ w7 ⟨rfl, hx6, hl3⟩
    refine ⟨_, rfl, ?_⟩
    replace hI := (hI.ext hx6)
    refine s_q rfl rfl (y_extract rfl (ev_tmp rfl rfl) rfl) ?_
    refine s_q rfl rfl (y_extract rfl (ev_tmp rfl rfl) rfl) ?_
    refine l_store (new := [(Value.int .i64 r3.1.N), (Value.int .i64 r3.1.D)]) (cs' := #[(Value.int .i64 r3.1.N), (Value.int .i64 r3.1.D)]) hI .z rfl rfl rfl (ev_tmp rfl rfl) (ev_tmp rfl rfl) rfl size_27 rfl rfl rfl ?_
    clear hI; intro c7 w8 hI
    refine s_q rfl rfl (y_assign rfl (ev_tmp rfl rfl)) ?_
    refine s_nil ?_
    refine k_next (e := [(4, (Value.pointer (some ⟨b4, 0, none⟩))), (5, (Value.int .i64 r3.2))]) ⟨rfl, rfl, trivial⟩ ?_
    refine c_ret ?_
    obtain rfl := some_inj h
    exact q_ret (vs := [(Value.agg #[(Value.int .i64 r3.1.N), (Value.int .i64 r3.1.D)]), (Value.int .i64 r3.2)]) Tryz.results79 ⟨⟨_, ev_tmp rfl rfl, load_agg (l := [(Value.int .i64 r3.1.N), (Value.int .i64 r3.1.D)]) Tryz.underlying27 rfl size_27 (CellsAt.of_blk (hI.blk .z) rfl)⟩, ⟨ev_tmp rfl rfl, trivial⟩⟩ ⟨rfl, hI.ext0, hI.fin trivial⟩

set_option maxRecDepth 100000 in
set_option maxHeartbeats 4000000 in
theorem c_frac_Sub (F : NP) (w0 : World) (hF : ∀ k, F k → k < w0.heap.size) (a1 : GVal) (b1 : GVal) (hc : AllCl [] F w0) (r : GVal × Int)
    (h : m_frac_Sub a1 b1 = some r) :
    Calls Tryz.prog 80 #[(Value.agg #[(Value.int .i64 a1.N), (Value.int .i64 a1.D)]), (Value.agg #[(Value.int .i64 b1.N), (Value.int .i64 b1.D)])] w0 fun e w => e = .returned (Value.tuple #[(Value.agg #[(Value.int .i64 r.1.N), (Value.int .i64 r.1.D)]), (Value.int .i64 r.2)]) ∧ Ext w0 w ∧ AllCl [] F w := by
  refine ofEnter (R := fun v w => v = (Value.tuple #[(Value.agg #[(Value.int .i64 r.1.N), (Value.int .i64 r.1.D)]), (Value.int .i64 r.2)]) ∧ Ext w0 w ∧ AllCl [] F w) (enter (l := [(Value.agg #[(Value.int .i64 a1.N), (Value.int .i64 a1.D)]), (Value.agg #[(Value.int .i64 b1.N), (Value.int .i64 b1.D)])]) Tryz.func80 rfl Tryz.ntmps80 rfl ?_) ?_
  rotate_left
  · rintro _ w ⟨rfl, k1, k2⟩; exact ⟨rfl, k1, k2⟩
  have hI := Bun.start hF hc
  clear hc
  rw [m_frac_Sub] at h
  refine c_seq ?_
  refine c_region rfl ?_
  refine l_box (v := (Value.agg #[(Value.int .i64 a1.N), (Value.int .i64 a1.D)])) (cs := #[(Value.int .i64 a1.N), (Value.int .i64 a1.D)]) hI rfl rfl rfl (ev_tmp rfl rfl) rfl ?_
  clear hI; intro b2 c1 w1 hI
  obtain ⟨c2, hI⟩ := hI.relBox .z
  refine l_box (v := (Value.agg #[(Value.int .i64 b1.N), (Value.int .i64 b1.D)])) (cs := #[(Value.int .i64 b1.N), (Value.int .i64 b1.D)]) hI rfl rfl rfl (ev_tmp rfl rfl) rfl ?_
  clear hI; intro b3 c3 w2 hI
  obtain ⟨c4, hI⟩ := hI.relBox .z
  refine l_alloc (cs := #[(Value.int .i64 0), (Value.int .i64 0)]) hI rfl rfl rfl zero_27 rfl ?_
  clear hI; intro b4 c5 w3 hI
  refine s_q rfl rfl (y_assign rfl ev_const) ?_
  refine s_nil ?_
  refine k_next (e := [(2, (Value.pointer (some ⟨b2, 0, none⟩))), (3, (Value.pointer (some ⟨b3, 0, none⟩))), (4, (Value.pointer (some ⟨b4, 0, none⟩)))]) ⟨rfl, rfl, rfl, trivial⟩ ?_
  refine c_seq ?_
  refine c_seq ?_
  refine c_region rfl ?_
  refine s_q rfl rfl (y_loadN (l := [(Value.int .i64 a1.N), (Value.int .i64 a1.D)]) rfl (ev_tmp rfl rfl) Tryz.underlying27 rfl size_27 (hI.kblk (l := [(Value.int .i64 a1.N), (Value.int .i64 a1.D)]) (.s .z) rfl).1) ?_
  obtain ⟨r1, hx1, h⟩ := bnd_some h
  refine s_call rfl rfl (r_callF (vs := [(Value.agg #[(Value.int .i64 a1.N), (Value.int .i64 a1.D)])]) rfl ok_45 ⟨(ev_tmp rfl rfl), trivial⟩) (Calls.mono (c_frac_Valid (Dj F c5) w3 hI.lt a1 trivial r1 hx1) ?_)
  rintro _ w4 ⟨rfl, hx2, hl1⟩
  refine ⟨_, rfl, ?_⟩
  replace hI := (hI.ext hx2)
  refine s_q rfl rfl (y_not rfl (ev_tmp rfl rfl)) ?_
  refine s_q rfl rfl (y_move rfl (ev_tmp rfl rfl)) ?_
  refine s_gval (g_false rfl rfl rfl rfl) rfl (fun hc => (y_loadN (l := [(Value.int .i64 b1.N), (Value.int .i64 b1.D)]) rfl (ev_tmp rfl rfl) Tryz.underlying27 rfl size_27 (hI.kblk (l := [(Value.int .i64 b1.N), (Value.int .i64 b1.D)]) .z rfl).1)) ?_
  obtain ⟨r2, hx3, h⟩ := bnd_some h
  replace hx3 := gd_some hx3
  refine s_gcallU (v := (Value.bool r2)) (g_false rfl rfl rfl rfl) rfl (fun hc => (r_callF (vs := [(Value.agg #[(Value.int .i64 b1.N), (Value.int .i64 b1.D)])]) rfl ok_45 ⟨(ev_gv (ev_tmp rfl rfl) hc), trivial⟩)) (fun hc => (c_frac_Valid (Dj F c5) w4 hI.lt b1 trivial r2 (hx3 hc)).mono fun _ _ k => ⟨k.1, k.2.1⟩) ?_
  intro w5 hx4; replace hI := hI.ext hx4
  refine s_gval (g_false rfl rfl rfl rfl) rfl (fun hc => (y_not rfl (ev_gv (ev_tmp rfl rfl) hc))) ?_
  refine s_q rfl rfl (y_or rfl (ev_tmp rfl rfl) (ev_tmp rfl rfl)) ?_
  refine s_nil ?_
  refine k_next (e := [(2, (Value.pointer (some ⟨b2, 0, none⟩))), (3, (Value.pointer (some ⟨b3, 0, none⟩))), (4, (Value.pointer (some ⟨b4, 0, none⟩))), (13, (Value.bool ((!r1) || (!r2))))]) ⟨rfl, rfl, rfl, rfl, trivial⟩ ?_
  refine c_cond (b := (!r1) || (!r2)) (ev_tmp rfl rfl) (fun hb => ?_) (fun hb => ?_)
  · replace h := ite_t hb h
    refine c_seq ?_
    refine c_region rfl ?_
    refine s_q rfl rfl (y_build (vs := []) (cs := #[(Value.int .i64 0), (Value.int .i64 0)]) rfl trivial (by kernel_rfl)) ?_
    refine l_store (new := [(Value.int .i64 0), (Value.int .i64 0)]) (cs' := #[(Value.int .i64 0), (Value.int .i64 0)]) hI .z rfl rfl rfl (ev_tmp rfl rfl) (ev_tmp rfl rfl) rfl size_27 rfl rfl rfl ?_
    clear hI; intro c6 w6 hI
    refine s_q rfl rfl (y_assign rfl ev_const) ?_
    refine s_nil ?_
    refine k_next (e := [(4, (Value.pointer (some ⟨b4, 0, none⟩))), (5, (Value.int .i64 1))]) ⟨rfl, rfl, trivial⟩ ?_
    refine c_ret ?_
    obtain rfl := some_inj h
    exact q_ret (vs := [(Value.agg #[(Value.int .i64 0), (Value.int .i64 0)]), (Value.int .i64 1)]) Tryz.results80 ⟨⟨_, ev_tmp rfl rfl, load_agg (l := [(Value.int .i64 0), (Value.int .i64 0)]) Tryz.underlying27 rfl size_27 (CellsAt.of_blk (hI.blk .z) rfl)⟩, ⟨ev_tmp rfl rfl, trivial⟩⟩ ⟨rfl, hI.ext0, hI.fin trivial⟩
  · replace h := ite_f hb h
    refine c_skip ?_
    refine k_next (e := [(2, (Value.pointer (some ⟨b2, 0, none⟩))), (3, (Value.pointer (some ⟨b3, 0, none⟩))), (4, (Value.pointer (some ⟨b4, 0, none⟩)))]) ⟨rfl, rfl, rfl, trivial⟩ ?_
    refine c_seq ?_
    refine c_region rfl ?_
    refine s_q rfl rfl (y_fieldAddr rfl (ev_tmp rfl rfl) Tryz.underlying27 rfl size_2 rfl) ?_
    refine s_q rfl rfl (y_load1 (v := (Value.int .i64 a1.N)) rfl (ev_tmp rfl rfl) Tryz.underlying2 rfl (hI.kblk (l := [(Value.int .i64 a1.N)]) (.s .z) rfl).1) ?_
    refine s_q rfl rfl (y_fieldAddr rfl (ev_tmp rfl rfl) Tryz.underlying27 rfl size_2 rfl) ?_
    refine s_q rfl rfl (y_load1 (v := (Value.int .i64 b1.D)) rfl (ev_tmp rfl rfl) Tryz.underlying2 rfl (hI.kblk (l := [(Value.int .i64 b1.D)]) .z rfl).1) ?_
    refine s_q rfl rfl (y_mul rfl (ev_tmp rfl rfl) (ev_tmp rfl rfl)) ?_
    refine s_q rfl rfl (y_fieldAddr rfl (ev_tmp rfl rfl) Tryz.underlying27 rfl size_2 rfl) ?_
    refine s_q rfl rfl (y_load1 (v := (Value.int .i64 b1.N)) rfl (ev_tmp rfl rfl) Tryz.underlying2 rfl (hI.kblk (l := [(Value.int .i64 b1.N)]) .z rfl).1) ?_
    refine s_q rfl rfl (y_fieldAddr rfl (ev_tmp rfl rfl) Tryz.underlying27 rfl size_2 rfl) ?_
    refine s_q rfl rfl (y_load1 (v := (Value.int .i64 a1.D)) rfl (ev_tmp rfl rfl) Tryz.underlying2 rfl (hI.kblk (l := [(Value.int .i64 a1.D)]) (.s .z) rfl).1) ?_
    refine s_q rfl rfl (y_mul rfl (ev_tmp rfl rfl) (ev_tmp rfl rfl)) ?_
    refine s_q rfl rfl (y_sub rfl (ev_tmp rfl rfl) (ev_tmp rfl rfl)) ?_
    refine s_q rfl rfl (y_fieldAddr rfl (ev_tmp rfl rfl) Tryz.underlying27 rfl size_2 rfl) ?_
    refine s_q rfl rfl (y_load1 (v := (Value.int .i64 a1.D)) rfl (ev_tmp rfl rfl) Tryz.underlying2 rfl (hI.kblk (l := [(Value.int .i64 a1.D)]) (.s .z) rfl).1) ?_
    refine s_q rfl rfl (y_fieldAddr rfl (ev_tmp rfl rfl) Tryz.underlying27 rfl size_2 rfl) ?_
    refine s_q rfl rfl (y_load1 (v := (Value.int .i64 b1.D)) rfl (ev_tmp rfl rfl) Tryz.underlying2 rfl (hI.kblk (l := [(Value.int .i64 b1.D)]) .z rfl).1) ?_
    refine s_q rfl rfl (y_mul rfl (ev_tmp rfl rfl) (ev_tmp rfl rfl)) ?_
    obtain ⟨r3, hx5, h⟩ := bnd_some h
    refine s_call rfl rfl (r_callF (vs := [(Value.int .i64 (wi64 ((wi64 (a1.N * b1.D)) - (wi64 (b1.N * a1.D))))), (Value.int .i64 (wi64 (a1.D * b1.D)))]) rfl ok_98 ⟨(ev_tmp rfl rfl), ⟨(ev_tmp rfl rfl), trivial⟩⟩) (Calls.mono (c_frac_New (Dj F c5) w5 hI.lt (wi64 ((wi64 (a1.N * b1.D)) - (wi64 (b1.N * a1.D)))) (wi64 (a1.D * b1.D)) trivial r3 hx5) ?_)
    rintro _ w7 ⟨rfl, hx6, hl3⟩
    refine ⟨_, rfl, ?_⟩
    replace hI := (hI.ext hx6)
    refine s_q rfl rfl (y_extract rfl (ev_tmp rfl rfl) rfl) ?_
    refine s_q rfl rfl (y_extract rfl (ev_tmp rfl rfl) rfl) ?_
    refine l_store (new := [(Value.int .i64 r3.1.N), (Value.int .i64 r3.1.D)]) (cs' := #[(Value.int .i64 r3.1.N), (Value.int .i64 r3.1.D)]) hI .z rfl rfl rfl (ev_tmp rfl rfl) (ev_tmp rfl rfl) rfl size_27 rfl rfl rfl ?_
    clear hI; intro c7 w8 hI
    refine s_q rfl rfl (y_assign rfl (ev_tmp rfl rfl)) ?_
    refine s_nil ?_
    refine k_next (e := [(4, (Value.pointer (some ⟨b4, 0, none⟩))), (5, (Value.int .i64 r3.2))]) ⟨rfl, rfl, trivial⟩ ?_
    refine c_ret ?_
    obtain rfl := some_inj h
    exact q_ret (vs := [(Value.agg #[(Value.int .i64 r3.1.N), (Value.int .i64 r3.1.D)]), (Value.int .i64 r3.2)]) Tryz.results80 ⟨⟨_, ev_tmp rfl rfl, load_agg (l := [(Value.int .i64 r3.1.N), (Value.int .i64 r3.1.D)]) Tryz.underlying27 rfl size_27 (CellsAt.of_blk (hI.blk .z) rfl)⟩, ⟨ev_tmp rfl rfl, trivial⟩⟩ ⟨rfl, hI.ext0, hI.fin trivial⟩

end Go.Proofs.YtpfapgamjlhebaaGreatDoor
