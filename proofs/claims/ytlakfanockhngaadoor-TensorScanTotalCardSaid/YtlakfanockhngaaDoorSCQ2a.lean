import Derived.Test.YtlakfanockhngaaDoorSXc
namespace Go.Proofs.YtlakfanockhngaaDoor
open Go Go.RowKit Go.Vc
set_option linter.unusedVariables false
set_option linter.unusedSimpArgs false
theorem stood_23 : Tryd.prog.stoodInHeld 23 = false := by kernel_rfl
theorem eqstruct_23 (a0 b0 : Int) (a1 b1 : Int) (a2 b2 : Int) (a3 b3 : Int) (a4 b4 : Int) (w : World) : (binOp .eql 23 (.agg #[(Value.int .i64 a0), (Value.int .i64 a1), (Value.int .i64 a2), (Value.int .i64 a3), (Value.int .i64 a4)]) (.agg #[(Value.int .i64 b0), (Value.int .i64 b1), (Value.int .i64 b2), (Value.int .i64 b3), (Value.int .i64 b4)])).run Tryd.prog w = .ok (.bool ((decide (a0 = b0)) && (decide (a1 = b1)) && (decide (a2 = b2)) && (decide (a3 = b3)) && (decide (a4 = b4)))) w := by
  simp [go_sem, stood_23, Tryd.underlying23, eq_dec_int, eq_dec_str]
  all_goals (by_cases h0 : a0 = b0 <;> by_cases h1 : a1 = b1 <;> by_cases h2 : a2 = b2 <;> by_cases h3 : a3 = b3 <;> by_cases h4 : a4 = b4 <;> simp [h0, h1, h2, h3, h4])
theorem eqguard_23 (op : BinOp) (x y : Operand) (xs ys : Array Value) (w : World) : (eqGuard op 23 x y (.agg xs) (.agg ys)).run Tryd.prog w = .ok () w := run_eqGuard_agg w op 23 x y xs ys (by kernel_rfl)
theorem stood_29 : Tryd.prog.stoodInHeld 29 = false := by kernel_rfl
theorem eqstruct_29n (a0 b0 : Int) (a1 b1 : Int) (w : World) : (binOp .neq 29 (.agg #[(Value.int .i64 a0), (Value.int .i64 a1)]) (.agg #[(Value.int .i64 b0), (Value.int .i64 b1)])).run Tryd.prog w = .ok (.bool (!((decide (a0 = b0)) && (decide (a1 = b1))))) w := by
  simp [go_sem, stood_29, Tryd.underlying29, eq_dec_int, eq_dec_str]
  all_goals (by_cases h0 : a0 = b0 <;> by_cases h1 : a1 = b1 <;> simp [h0, h1])
theorem eqguard_29 (op : BinOp) (x y : Operand) (xs ys : Array Value) (w : World) : (eqGuard op 29 x y (.agg xs) (.agg ys)).run Tryd.prog w = .ok () w := run_eqGuard_agg w op 29 x y xs ys (by kernel_rfl)
theorem info_29 : Info Tryd.prog 29 2 16 (Value.agg #[(Value.int .i64 0), (Value.int .i64 0)]) := info_mk (by kernel_rfl) rfl
theorem info_3 : Info Tryd.prog 3 1 8 (Value.int .i64 0) := info_mk (by kernel_rfl) rfl
theorem ok_10 : FnOK Tryd.prog 10 := ⟨_, Tryd.func10, by kernel_rfl, by kernel_rfl⟩
theorem ok_12 : FnOK Tryd.prog 12 := ⟨_, Tryd.func12, by kernel_rfl, by kernel_rfl⟩
theorem ok_13 : FnOK Tryd.prog 13 := ⟨_, Tryd.func13, by kernel_rfl, by kernel_rfl⟩
theorem ok_14 : FnOK Tryd.prog 14 := ⟨_, Tryd.func14, by kernel_rfl, by kernel_rfl⟩
theorem ok_15 : FnOK Tryd.prog 15 := ⟨_, Tryd.func15, by kernel_rfl, by kernel_rfl⟩
theorem ok_16 : FnOK Tryd.prog 16 := ⟨_, Tryd.func16, by kernel_rfl, by kernel_rfl⟩
theorem ok_17 : FnOK Tryd.prog 17 := ⟨_, Tryd.func17, by kernel_rfl, by kernel_rfl⟩
theorem ok_18 : FnOK Tryd.prog 18 := ⟨_, Tryd.func18, by kernel_rfl, by kernel_rfl⟩
theorem ok_19 : FnOK Tryd.prog 19 := ⟨_, Tryd.func19, by kernel_rfl, by kernel_rfl⟩
theorem ok_20 : FnOK Tryd.prog 20 := ⟨_, Tryd.func20, by kernel_rfl, by kernel_rfl⟩
theorem ok_21 : FnOK Tryd.prog 21 := ⟨_, Tryd.func21, by kernel_rfl, by kernel_rfl⟩
theorem ok_22 : FnOK Tryd.prog 22 := ⟨_, Tryd.func22, by kernel_rfl, by kernel_rfl⟩
theorem ok_23 : FnOK Tryd.prog 23 := ⟨_, Tryd.func23, by kernel_rfl, by kernel_rfl⟩
theorem ok_24 : FnOK Tryd.prog 24 := ⟨_, Tryd.func24, by kernel_rfl, by kernel_rfl⟩
theorem ok_25 : FnOK Tryd.prog 25 := ⟨_, Tryd.func25, by kernel_rfl, by kernel_rfl⟩
theorem ok_26 : FnOK Tryd.prog 26 := ⟨_, Tryd.func26, by kernel_rfl, by kernel_rfl⟩
theorem ok_27 : FnOK Tryd.prog 27 := ⟨_, Tryd.func27, by kernel_rfl, by kernel_rfl⟩
theorem ok_28 : FnOK Tryd.prog 28 := ⟨_, Tryd.func28, by kernel_rfl, by kernel_rfl⟩
theorem ok_29 : FnOK Tryd.prog 29 := ⟨_, Tryd.func29, by kernel_rfl, by kernel_rfl⟩
theorem ok_30 : FnOK Tryd.prog 30 := ⟨_, Tryd.func30, by kernel_rfl, by kernel_rfl⟩
theorem ok_31 : FnOK Tryd.prog 31 := ⟨_, Tryd.func31, by kernel_rfl, by kernel_rfl⟩
theorem ok_32 : FnOK Tryd.prog 32 := ⟨_, Tryd.func32, by kernel_rfl, by kernel_rfl⟩
theorem ok_33 : FnOK Tryd.prog 33 := ⟨_, Tryd.func33, by kernel_rfl, by kernel_rfl⟩
theorem ok_34 : FnOK Tryd.prog 34 := ⟨_, Tryd.func34, by kernel_rfl, by kernel_rfl⟩
theorem ok_35 : FnOK Tryd.prog 35 := ⟨_, Tryd.func35, by kernel_rfl, by kernel_rfl⟩
theorem ok_36 : FnOK Tryd.prog 36 := ⟨_, Tryd.func36, by kernel_rfl, by kernel_rfl⟩
theorem ok_37 : FnOK Tryd.prog 37 := ⟨_, Tryd.func37, by kernel_rfl, by kernel_rfl⟩
theorem ok_38 : FnOK Tryd.prog 38 := ⟨_, Tryd.func38, by kernel_rfl, by kernel_rfl⟩
theorem ok_39 : FnOK Tryd.prog 39 := ⟨_, Tryd.func39, by kernel_rfl, by kernel_rfl⟩
theorem ok_40 : FnOK Tryd.prog 40 := ⟨_, Tryd.func40, by kernel_rfl, by kernel_rfl⟩
theorem ok_41 : FnOK Tryd.prog 41 := ⟨_, Tryd.func41, by kernel_rfl, by kernel_rfl⟩
theorem ok_42 : FnOK Tryd.prog 42 := ⟨_, Tryd.func42, by kernel_rfl, by kernel_rfl⟩
theorem ok_43 : FnOK Tryd.prog 43 := ⟨_, Tryd.func43, by kernel_rfl, by kernel_rfl⟩
theorem ok_44 : FnOK Tryd.prog 44 := ⟨_, Tryd.func44, by kernel_rfl, by kernel_rfl⟩
theorem ok_45 : FnOK Tryd.prog 45 := ⟨_, Tryd.func45, by kernel_rfl, by kernel_rfl⟩
theorem ok_46 : FnOK Tryd.prog 46 := ⟨_, Tryd.func46, by kernel_rfl, by kernel_rfl⟩
theorem ok_47 : FnOK Tryd.prog 47 := ⟨_, Tryd.func47, by kernel_rfl, by kernel_rfl⟩
theorem ok_48 : FnOK Tryd.prog 48 := ⟨_, Tryd.func48, by kernel_rfl, by kernel_rfl⟩
theorem ok_49 : FnOK Tryd.prog 49 := ⟨_, Tryd.func49, by kernel_rfl, by kernel_rfl⟩
theorem ok_5 : FnOK Tryd.prog 5 := ⟨_, Tryd.func5, by kernel_rfl, by kernel_rfl⟩
theorem ok_50 : FnOK Tryd.prog 50 := ⟨_, Tryd.func50, by kernel_rfl, by kernel_rfl⟩
theorem ok_51 : FnOK Tryd.prog 51 := ⟨_, Tryd.func51, by kernel_rfl, by kernel_rfl⟩
theorem ok_52 : FnOK Tryd.prog 52 := ⟨_, Tryd.func52, by kernel_rfl, by kernel_rfl⟩
theorem ok_53 : FnOK Tryd.prog 53 := ⟨_, Tryd.func53, by kernel_rfl, by kernel_rfl⟩
theorem ok_54 : FnOK Tryd.prog 54 := ⟨_, Tryd.func54, by kernel_rfl, by kernel_rfl⟩
theorem ok_55 : FnOK Tryd.prog 55 := ⟨_, Tryd.func55, by kernel_rfl, by kernel_rfl⟩
theorem ok_56 : FnOK Tryd.prog 56 := ⟨_, Tryd.func56, by kernel_rfl, by kernel_rfl⟩
theorem ok_57 : FnOK Tryd.prog 57 := ⟨_, Tryd.func57, by kernel_rfl, by kernel_rfl⟩
theorem ok_58 : FnOK Tryd.prog 58 := ⟨_, Tryd.func58, by kernel_rfl, by kernel_rfl⟩
theorem ok_59 : FnOK Tryd.prog 59 := ⟨_, Tryd.func59, by kernel_rfl, by kernel_rfl⟩
theorem ok_6 : FnOK Tryd.prog 6 := ⟨_, Tryd.func6, by kernel_rfl, by kernel_rfl⟩
theorem ok_60 : FnOK Tryd.prog 60 := ⟨_, Tryd.func60, by kernel_rfl, by kernel_rfl⟩
theorem ok_61 : FnOK Tryd.prog 61 := ⟨_, Tryd.func61, by kernel_rfl, by kernel_rfl⟩
theorem ok_62 : FnOK Tryd.prog 62 := ⟨_, Tryd.func62, by kernel_rfl, by kernel_rfl⟩
theorem ok_63 : FnOK Tryd.prog 63 := ⟨_, Tryd.func63, by kernel_rfl, by kernel_rfl⟩
theorem ok_64 : FnOK Tryd.prog 64 := ⟨_, Tryd.func64, by kernel_rfl, by kernel_rfl⟩
theorem ok_65 : FnOK Tryd.prog 65 := ⟨_, Tryd.func65, by kernel_rfl, by kernel_rfl⟩
theorem ok_66 : FnOK Tryd.prog 66 := ⟨_, Tryd.func66, by kernel_rfl, by kernel_rfl⟩
theorem ok_67 : FnOK Tryd.prog 67 := ⟨_, Tryd.func67, by kernel_rfl, by kernel_rfl⟩
theorem ok_68 : FnOK Tryd.prog 68 := ⟨_, Tryd.func68, by kernel_rfl, by kernel_rfl⟩
theorem ok_69 : FnOK Tryd.prog 69 := ⟨_, Tryd.func69, by kernel_rfl, by kernel_rfl⟩
theorem ok_7 : FnOK Tryd.prog 7 := ⟨_, Tryd.func7, by kernel_rfl, by kernel_rfl⟩
theorem ok_70 : FnOK Tryd.prog 70 := ⟨_, Tryd.func70, by kernel_rfl, by kernel_rfl⟩
theorem ok_71 : FnOK Tryd.prog 71 := ⟨_, Tryd.func71, by kernel_rfl, by kernel_rfl⟩
theorem ok_72 : FnOK Tryd.prog 72 := ⟨_, Tryd.func72, by kernel_rfl, by kernel_rfl⟩
theorem ok_73 : FnOK Tryd.prog 73 := ⟨_, Tryd.func73, by kernel_rfl, by kernel_rfl⟩
theorem ok_74 : FnOK Tryd.prog 74 := ⟨_, Tryd.func74, by kernel_rfl, by kernel_rfl⟩
theorem ok_75 : FnOK Tryd.prog 75 := ⟨_, Tryd.func75, by kernel_rfl, by kernel_rfl⟩
theorem ok_76 : FnOK Tryd.prog 76 := ⟨_, Tryd.func76, by kernel_rfl, by kernel_rfl⟩
theorem ok_77 : FnOK Tryd.prog 77 := ⟨_, Tryd.func77, by kernel_rfl, by kernel_rfl⟩
theorem ok_78 : FnOK Tryd.prog 78 := ⟨_, Tryd.func78, by kernel_rfl, by kernel_rfl⟩
theorem ok_79 : FnOK Tryd.prog 79 := ⟨_, Tryd.func79, by kernel_rfl, by kernel_rfl⟩
theorem ok_80 : FnOK Tryd.prog 80 := ⟨_, Tryd.func80, by kernel_rfl, by kernel_rfl⟩
theorem ok_81 : FnOK Tryd.prog 81 := ⟨_, Tryd.func81, by kernel_rfl, by kernel_rfl⟩
theorem ok_82 : FnOK Tryd.prog 82 := ⟨_, Tryd.func82, by kernel_rfl, by kernel_rfl⟩
theorem ok_83 : FnOK Tryd.prog 83 := ⟨_, Tryd.func83, by kernel_rfl, by kernel_rfl⟩
theorem ok_84 : FnOK Tryd.prog 84 := ⟨_, Tryd.func84, by kernel_rfl, by kernel_rfl⟩
theorem ok_85 : FnOK Tryd.prog 85 := ⟨_, Tryd.func85, by kernel_rfl, by kernel_rfl⟩
theorem ok_86 : FnOK Tryd.prog 86 := ⟨_, Tryd.func86, by kernel_rfl, by kernel_rfl⟩
theorem ok_87 : FnOK Tryd.prog 87 := ⟨_, Tryd.func87, by kernel_rfl, by kernel_rfl⟩
theorem ok_88 : FnOK Tryd.prog 88 := ⟨_, Tryd.func88, by kernel_rfl, by kernel_rfl⟩
theorem ok_89 : FnOK Tryd.prog 89 := ⟨_, Tryd.func89, by kernel_rfl, by kernel_rfl⟩
theorem ok_90 : FnOK Tryd.prog 90 := ⟨_, Tryd.func90, by kernel_rfl, by kernel_rfl⟩
theorem ok_91 : FnOK Tryd.prog 91 := ⟨_, Tryd.func91, by kernel_rfl, by kernel_rfl⟩
theorem ok_92 : FnOK Tryd.prog 92 := ⟨_, Tryd.func92, by kernel_rfl, by kernel_rfl⟩
theorem ok_93 : FnOK Tryd.prog 93 := ⟨_, Tryd.func93, by kernel_rfl, by kernel_rfl⟩
theorem ok_94 : FnOK Tryd.prog 94 := ⟨_, Tryd.func94, by kernel_rfl, by kernel_rfl⟩
theorem ok_99 : FnOK Tryd.prog 99 := ⟨_, Tryd.func99, by kernel_rfl, by kernel_rfl⟩
theorem size_2 : (Tryd.prog.info? 2).map (·.size) = some 1 := by kernel_rfl
theorem size_23 : (Tryd.prog.info? 23).map (·.size) = some 5 := by kernel_rfl
theorem size_24 : (Tryd.prog.info? 24).map (·.size) = some 1 := by kernel_rfl
theorem size_25 : (Tryd.prog.info? 25).map (·.size) = some 1 := by kernel_rfl
theorem size_27 : (Tryd.prog.info? 27).map (·.size) = some 7 := by kernel_rfl
theorem size_29 : (Tryd.prog.info? 29).map (·.size) = some 2 := by kernel_rfl
theorem size_3 : (Tryd.prog.info? 3).map (·.size) = some 1 := by kernel_rfl
theorem size_4 : (Tryd.prog.info? 4).map (·.size) = some 1 := by kernel_rfl
theorem size_99 : (Tryd.prog.info? 99).map (·.size) = some 1 := by kernel_rfl
theorem zero_27 : (Tryd.prog.info? 27).bind (·.zero) = some (Value.agg #[(Value.int .i64 0), (Value.int .i64 0), (Value.int .i64 0), (Value.int .i64 0), (Value.int .i64 0), (Value.slice none 0 0), (Value.slice none 0 0)]) := by kernel_rfl
theorem zero_29 : (Tryd.prog.info? 29).bind (·.zero) = some (Value.agg #[(Value.int .i64 0), (Value.int .i64 0)]) := by kernel_rfl
theorem zero_78 : (Tryd.prog.info? 78).bind (·.zero) = some (Value.agg #[(Value.bool false), (Value.bool false), (Value.bool false), (Value.bool false), (Value.bool false), (Value.bool false)]) := by kernel_rfl
theorem zero_88 : (Tryd.prog.info? 88).bind (·.zero) = some (Value.agg #[(Value.int .i64 0), (Value.int .i64 0), (Value.int .i64 0), (Value.int .i64 0), (Value.int .i64 0), (Value.int .i64 0)]) := by kernel_rfl
set_option maxRecDepth 100000 in
set_option maxHeartbeats 4000000 in
theorem c_law12_Small (F : NP) (w0 : World) (hF : ∀ k, F k → k < w0.heap.size) (t1 : GTensor) (most1 : Int) (a1 : Option Addr) (c1 : Nat) (a2 : Option Addr) (c2 : Nat) (hc : AllCl [Cl.sl (cInt .i64) a1 c1 t1.Dims, Cl.sl cGVal a2 c2 t1.Vals] F w0) (r : Bool)
  (h : m_law12_Small t1 most1 = some r) :
  Calls Tryd.prog 5 #[(Value.agg #[(vi t1.Type_.Kind), (vi t1.Type_.Bits), (vi t1.Type_.Frac), (vi t1.Type_.Round), (vi t1.Type_.Over), (vs a1 t1.Dims.length c1), (vs a2 t1.Vals.length c2)]), (vi most1)] w0 fun e w => e = .returned (vb r) ∧ Ext w0 w ∧ AllCl [] F w := by
 refine enterK (l := [(Value.agg #[(vi t1.Type_.Kind), (vi t1.Type_.Bits), (vi t1.Type_.Frac), (vi t1.Type_.Round), (vi t1.Type_.Over), (vs a1 t1.Dims.length c1), (vs a2 t1.Vals.length c2)]), (vi most1)]) Tryd.func5 rfl Tryd.ntmps5 rfl ?_
 have hI := Bun.start hF hc
 clear hc
 rw [m_law12_Small] at h
 refine sr ?_
 refine l_box (v := (Value.agg #[(vi t1.Type_.Kind), (vi t1.Type_.Bits), (vi t1.Type_.Frac), (vi t1.Type_.Round), (vi t1.Type_.Over), (vs a1 t1.Dims.length c1), (vs a2 t1.Vals.length c2)])) (cs := #[(vi t1.Type_.Kind), (vi t1.Type_.Bits), (vi t1.Type_.Frac), (vi t1.Type_.Round), (vi t1.Type_.Over), (vs a1 t1.Dims.length c1), (vs a2 t1.Vals.length c2)]) hI gn rfl rfl et rfl ?_
 clear hI; intro b1 c3 w1 hI
 obtain ⟨c4, hI⟩ := hI.relBox .z
 refine sac ?_
 refine nk ?_
 refine sr ?_
 refine sq (y_fieldAddr rfl et Tryd.underlying27 rfl size_25 rfl) ?_
 refine sq (y_load1 (v := (vs a2 t1.Vals.length c2)) rfl et Tryd.underlying25 rfl (hI.kblk (l := [(vs a2 t1.Vals.length c2)]) .z rfl).1) ?_
 refine sq (y_lenl rfl Tryd.underlying25 et) ?_
 refine sm ?_
 refine sq (y_leq rfl et et) ?_
 refine sm ?_
 refine s_gval (g_true rfl rfl rfl rfl) rfl (fun hc => (y_fieldAddr rfl et Tryd.underlying27 rfl size_24 rfl)) ?_
 refine s_gval (g_true rfl rfl rfl rfl) rfl (fun hc => (y_load1 (v := (vs a1 t1.Dims.length c1)) rfl (ev_gv et hc) Tryd.underlying24 rfl (hI.kblk (l := [(vs a1 t1.Dims.length c1)]) .z rfl).1)) ?_
 refine s_gval (g_true rfl rfl rfl rfl) rfl (fun hc => (y_lenl rfl Tryd.underlying24 (ev_gv et hc))) ?_
 refine s_gval (g_true rfl rfl rfl rfl) rfl (fun hc => (y_leq rfl (ev_gv et hc) ev_const)) ?_
 refine sq (y_and rfl et et) ?_
 refine sa ?_
 refine nk ?_
 refine c_ret ?_
 obtain rfl := some_inj h
 exact q_ret (vs := [(vb ((decide ((t1.Vals.length : Int) ≤ most1)) && (decide ((t1.Dims.length : Int) ≤ 20))))]) Tryd.results5 ⟨ev_tmp rfl rfl, trivial⟩ ⟨rfl, hI.ext0, hI.fin trivial⟩
set_option maxRecDepth 100000 in
set_option maxHeartbeats 4000000 in
theorem c_base_Type (F : NP) (w0 : World) (hF : ∀ k, F k → k < w0.heap.size) (t1 : GType) (hc : AllCl [] F w0) (r : Bool)
  (h : m_base_Type t1 = some r) :
  Calls Tryd.prog 15 #[(Value.agg #[(vi t1.Kind), (vi t1.Bits), (vi t1.Frac), (vi t1.Round), (vi t1.Over)])] w0 fun e w => e = .returned (vb r) ∧ Ext w0 w ∧ AllCl [] F w := by
 refine enterK (l := [(Value.agg #[(vi t1.Kind), (vi t1.Bits), (vi t1.Frac), (vi t1.Round), (vi t1.Over)])]) Tryd.func15 rfl Tryd.ntmps15 rfl ?_
 have hI := Bun.start hF hc
 clear hc
 rw [m_base_Type] at h
 refine sr ?_
 refine l_box (v := (Value.agg #[(vi t1.Kind), (vi t1.Bits), (vi t1.Frac), (vi t1.Round), (vi t1.Over)])) (cs := #[(vi t1.Kind), (vi t1.Bits), (vi t1.Frac), (vi t1.Round), (vi t1.Over)]) hI gn rfl rfl et rfl ?_
 clear hI; intro b1 c1 w1 hI
 obtain ⟨c2, hI⟩ := hI.relBox .z
 refine sac ?_
 refine nk ?_
 refine c_seq ?_
 refine sr ?_
 refine sq (y_fieldAddr rfl et Tryd.underlying23 rfl size_3 rfl) ?_
 refine sq (y_load1 (v := (vi t1.Kind)) rfl et Tryd.underlying3 rfl (hI.kblk (l := [(vi t1.Kind)]) .z rfl).1) ?_
 refine sq (y_eql rfl et ev_const) ?_
 refine sm ?_
 refine s_gval (g_false rfl rfl rfl rfl) rfl (fun hc => (y_fieldAddr rfl et Tryd.underlying23 rfl size_3 rfl)) ?_
 refine s_gval (g_false rfl rfl rfl rfl) rfl (fun hc => (y_load1 (v := (vi t1.Kind)) rfl (ev_gv et hc) Tryd.underlying3 rfl (hI.kblk (l := [(vi t1.Kind)]) .z rfl).1)) ?_
 refine s_gval (g_false rfl rfl rfl rfl) rfl (fun hc => (y_eql rfl (ev_gv et hc) ev_const)) ?_
 refine sq (y_or rfl et et) ?_
 refine nk ?_
 refine c_cond (b := (decide (t1.Kind = 1)) || (decide (t1.Kind = 3))) et (fun hb => ?_) (fun hb => ?_)
 ·replace h := ite_t hb h
  refine sr ?_
  refine sq (y_fieldAddr rfl et Tryd.underlying23 rfl size_3 rfl) ?_
  refine sq (y_load1 (v := (vi t1.Bits)) rfl et Tryd.underlying3 rfl (hI.kblk (l := [(vi t1.Bits)]) .z rfl).1) ?_
  refine sq (y_eql rfl et ev_const) ?_
  refine sm ?_
  refine s_gval (g_true rfl rfl rfl rfl) rfl (fun hc => (y_fieldAddr rfl et Tryd.underlying23 rfl size_3 rfl)) ?_
  refine s_gval (g_true rfl rfl rfl rfl) rfl (fun hc => (y_load1 (v := (vi t1.Frac)) rfl (ev_gv et hc) Tryd.underlying3 rfl (hI.kblk (l := [(vi t1.Frac)]) .z rfl).1)) ?_
  refine s_gval (g_true rfl rfl rfl rfl) rfl (fun hc => (y_eql rfl (ev_gv et hc) ev_const)) ?_
  refine sq (y_and rfl et et) ?_
  refine sm ?_
  refine s_gval (g_true rfl rfl rfl rfl) rfl (fun hc => (y_fieldAddr rfl et Tryd.underlying23 rfl size_3 rfl)) ?_
  refine s_gval (g_true rfl rfl rfl rfl) rfl (fun hc => (y_load1 (v := (vi t1.Round)) rfl (ev_gv et hc) Tryd.underlying3 rfl (hI.kblk (l := [(vi t1.Round)]) .z rfl).1)) ?_
  refine s_gval (g_true rfl rfl rfl rfl) rfl (fun hc => (y_eql rfl (ev_gv et hc) ev_const)) ?_
  refine sq (y_and rfl et et) ?_
  refine sm ?_
  refine s_gval (g_true rfl rfl rfl rfl) rfl (fun hc => (y_fieldAddr rfl et Tryd.underlying23 rfl size_3 rfl)) ?_
  refine s_gval (g_true rfl rfl rfl rfl) rfl (fun hc => (y_load1 (v := (vi t1.Over)) rfl (ev_gv et hc) Tryd.underlying3 rfl (hI.kblk (l := [(vi t1.Over)]) .z rfl).1)) ?_
  refine s_gval (g_true rfl rfl rfl rfl) rfl (fun hc => (y_eql rfl (ev_gv et hc) ev_const)) ?_
  refine sq (y_and rfl et et) ?_
  refine sa ?_
  refine s_nil ?_
  refine k_next (e := [(2, (vb ((((decide (t1.Bits = 0)) && (decide (t1.Frac = 0))) && (decide (t1.Round = 0))) && (decide (t1.Over = 0)))))]) ⟨rfl, trivial⟩ ?_
  refine c_ret ?_
  obtain rfl := some_inj h
  exact q_ret (vs := [(vb ((((decide (t1.Bits = 0)) && (decide (t1.Frac = 0))) && (decide (t1.Round = 0))) && (decide (t1.Over = 0))))]) Tryd.results15 ⟨ev_tmp rfl rfl, trivial⟩ ⟨rfl, hI.ext0, hI.fin trivial⟩
 ·replace h := ite_f hb h
  refine c_skip ?_
  refine k_same ?_
  refine sr ?_
  refine sq (y_fieldAddr rfl et Tryd.underlying23 rfl size_3 rfl) ?_
  refine sq (y_load1 (v := (vi t1.Kind)) rfl et Tryd.underlying3 rfl (hI.kblk (l := [(vi t1.Kind)]) .z rfl).1) ?_
  refine sq (y_eql rfl et ev_const) ?_
  refine sm ?_
  refine s_gval (g_true rfl rfl rfl rfl) rfl (fun hc => (y_fieldAddr rfl et Tryd.underlying23 rfl size_3 rfl)) ?_
  refine s_gval (g_true rfl rfl rfl rfl) rfl (fun hc => (y_load1 (v := (vi t1.Bits)) rfl (ev_gv et hc) Tryd.underlying3 rfl (hI.kblk (l := [(vi t1.Bits)]) .z rfl).1)) ?_
  refine s_gval (g_true rfl rfl rfl rfl) rfl (fun hc => (y_geq rfl (ev_gv et hc) ev_const)) ?_
  refine sq (y_and rfl et et) ?_
  refine sm ?_
  refine s_gval (g_true rfl rfl rfl rfl) rfl (fun hc => (y_fieldAddr rfl et Tryd.underlying23 rfl size_3 rfl)) ?_
  refine s_gval (g_true rfl rfl rfl rfl) rfl (fun hc => (y_load1 (v := (vi t1.Bits)) rfl (ev_gv et hc) Tryd.underlying3 rfl (hI.kblk (l := [(vi t1.Bits)]) .z rfl).1)) ?_
  refine s_gval (g_true rfl rfl rfl rfl) rfl (fun hc => (y_leq rfl (ev_gv et hc) ev_const)) ?_
  refine sq (y_and rfl et et) ?_
  refine sm ?_
  refine s_gval (g_true rfl rfl rfl rfl) rfl (fun hc => (y_fieldAddr rfl et Tryd.underlying23 rfl size_3 rfl)) ?_
  refine s_gval (g_true rfl rfl rfl rfl) rfl (fun hc => (y_load1 (v := (vi t1.Frac)) rfl (ev_gv et hc) Tryd.underlying3 rfl (hI.kblk (l := [(vi t1.Frac)]) .z rfl).1)) ?_
  refine s_gval (g_true rfl rfl rfl rfl) rfl (fun hc => (y_geq rfl (ev_gv et hc) ev_const)) ?_
  refine sq (y_and rfl et et) ?_
  refine sm ?_
  refine s_gval (g_true rfl rfl rfl rfl) rfl (fun hc => (y_fieldAddr rfl et Tryd.underlying23 rfl size_3 rfl)) ?_
  refine s_gval (g_true rfl rfl rfl rfl) rfl (fun hc => (y_load1 (v := (vi t1.Frac)) rfl (ev_gv et hc) Tryd.underlying3 rfl (hI.kblk (l := [(vi t1.Frac)]) .z rfl).1)) ?_
  refine s_gval (g_true rfl rfl rfl rfl) rfl (fun hc => (y_leq rfl (ev_gv et hc) ev_const)) ?_
  refine sq (y_and rfl et et) ?_
  refine sm ?_
  refine s_gval (g_true rfl rfl rfl rfl) rfl (fun hc => (y_fieldAddr rfl et Tryd.underlying23 rfl size_3 rfl)) ?_
  refine s_gval (g_true rfl rfl rfl rfl) rfl (fun hc => (y_load1 (v := (vi t1.Round)) rfl (ev_gv et hc) Tryd.underlying3 rfl (hI.kblk (l := [(vi t1.Round)]) .z rfl).1)) ?_
  refine s_gval (g_true rfl rfl rfl rfl) rfl (fun hc => (y_geq rfl (ev_gv et hc) ev_const)) ?_
  refine sq (y_and rfl et et) ?_
  refine sm ?_
  refine s_gval (g_true rfl rfl rfl rfl) rfl (fun hc => (y_fieldAddr rfl et Tryd.underlying23 rfl size_3 rfl)) ?_
  refine s_gval (g_true rfl rfl rfl rfl) rfl (fun hc => (y_load1 (v := (vi t1.Round)) rfl (ev_gv et hc) Tryd.underlying3 rfl (hI.kblk (l := [(vi t1.Round)]) .z rfl).1)) ?_
  refine s_gval (g_true rfl rfl rfl rfl) rfl (fun hc => (y_leq rfl (ev_gv et hc) ev_const)) ?_
  refine sq (y_and rfl et et) ?_
  refine sm ?_
  refine s_gval (g_true rfl rfl rfl rfl) rfl (fun hc => (y_fieldAddr rfl et Tryd.underlying23 rfl size_3 rfl)) ?_
  refine s_gval (g_true rfl rfl rfl rfl) rfl (fun hc => (y_load1 (v := (vi t1.Over)) rfl (ev_gv et hc) Tryd.underlying3 rfl (hI.kblk (l := [(vi t1.Over)]) .z rfl).1)) ?_
  refine s_gval (g_true rfl rfl rfl rfl) rfl (fun hc => (y_eql rfl (ev_gv et hc) ev_const)) ?_
  refine s_gval (g_true rfl rfl rfl rfl) rfl (fun hc => (y_move rfl (ev_gv et hc))) ?_
  refine s_gval (g_false2 rfl rfl rfl rfl) rfl (fun hc => (y_fieldAddr rfl et Tryd.underlying23 rfl size_3 rfl)) ?_
  refine s_gval (g_false2 rfl rfl rfl rfl) rfl (fun hc => (y_load1 (v := (vi t1.Over)) rfl (ev_gv et hc) Tryd.underlying3 rfl (hI.kblk (l := [(vi t1.Over)]) .z rfl).1)) ?_
  refine s_gval (g_false2 rfl rfl rfl rfl) rfl (fun hc => (y_eql rfl (ev_gv et hc) ev_const)) ?_
  refine s_gval (g_true rfl rfl rfl rfl) rfl (fun hc => (y_or2 rfl hc et et)) ?_
  refine sq (y_and rfl et et) ?_
  refine sa ?_
  refine s_nil ?_
  refine k_next (e := [(2, (vb ((((((((decide (t1.Kind = 2)) && (decide (2 ≤ t1.Bits))) && (decide (t1.Bits ≤ 31))) && (decide (0 ≤ t1.Frac))) && (decide (t1.Frac ≤ 30))) && (decide (1 ≤ t1.Round))) && (decide (t1.Round ≤ 4))) && ((decide (t1.Over = 1)) || (decide (t1.Over = 2))))))]) ⟨rfl, trivial⟩ ?_
  refine c_ret ?_
  obtain rfl := some_inj h
  exact q_ret (vs := [(vb ((((((((decide (t1.Kind = 2)) && (decide (2 ≤ t1.Bits))) && (decide (t1.Bits ≤ 31))) && (decide (0 ≤ t1.Frac))) && (decide (t1.Frac ≤ 30))) && (decide (1 ≤ t1.Round))) && (decide (t1.Round ≤ 4))) && ((decide (t1.Over = 1)) || (decide (t1.Over = 2)))))]) Tryd.results15 ⟨ev_tmp rfl rfl, trivial⟩ ⟨rfl, hI.ext0, hI.fin trivial⟩
set_option maxRecDepth 100000 in
set_option maxHeartbeats 4000000 in
theorem c_ref12_Shape (F : NP) (w0 : World) (hF : ∀ k, F k → k < w0.heap.size) (d1 : List Int) (a1 : Option Addr) (c1 : Nat) (hc : AllCl [Cl.sl (cInt .i64) a1 c1 d1] F w0) (r : Int)
  (h : m_ref12_Shape d1 = some r) :
  Calls Tryd.prog 16 #[(vs a1 d1.length c1)] w0 fun e w => e = .returned (vi r) ∧ Ext w0 w ∧ AllCl [] F w := by
 refine enterK (l := [(vs a1 d1.length c1)]) Tryd.func16 rfl Tryd.ntmps16 rfl ?_
 have hI := Bun.start hF hc
 clear hc
 rw [m_ref12_Shape] at h
 refine sr ?_
 refine sac ?_
 refine nk ?_
 refine c_seq ?_
 refine sr ?_
 refine sm ?_
 refine sq (y_lenl rfl Tryd.underlying24 et) ?_
 refine sq (y_gtr rfl et ev_const) ?_
 refine nk ?_
 refine c_cond (b := decide (6 < (d1.length : Int))) et (fun hb => ?_) (fun hb => ?_)
 ·replace h := ite_t hb h
  refine sr ?_
  refine sac ?_
  refine nk ?_
  refine c_ret ?_
  obtain rfl := some_inj h
  exact q_ret (vs := [(vi 2)]) Tryd.results16 ⟨ev_tmp rfl rfl, trivial⟩ ⟨rfl, hI.ext0, hI.fin trivial⟩
 ·replace h := ite_f hb h
  refine c_skip ?_
  refine k_same ?_
  refine c_join (α := Unit) (fun _ => ⟨39, []⟩) (fun _ => [(0, (vs a1 d1.length c1))]) (fun _ => fun w => ∃ C, Bun noM F w0 C w [] [Cl.sl (cInt .i64) a1 c1 d1] ∧ m_ref12_Shape_j1 d1 = some r) ?_ ?_
  ·clear h hI; rintro _ w1 ⟨c2, hI, h⟩
   try dsimp only at hI h
   rw [m_ref12_Shape_j1] at h
   refine c_sub (e := [(0, (vs a1 d1.length c1))]) ⟨rfl, trivial⟩ ?_
   refine sr ?_
   refine sac ?_
   refine nk ?_
   refine c_seq ?_
   refine sr ?_
   refine sac ?_
   refine nk ?_
   refine c_block ?_
   refine c_loop (α := Nat × Int × Int) (fun x => fun w => ∃ C, Bun noM F w0 C w [] [Cl.sl (cInt .i64) a1 c1 d1] ∧ m_ref12_Shape_l1 d1 (x.1) (x.2.1) (x.2.2) = some r) (fun x _ => x.1) (fun x => [(0, (vs a1 d1.length c1)), (4, (vi (x.2.1))), (5, (vi (x.2.2)))]) (fu, 1, 0) ⟨_, hI.arr .n ⟨.z, trivial⟩, h⟩ ⟨rfl, rfl, rfl, trivial⟩ ?_
   clear h hI; rintro ⟨fuel1, n1, i1⟩ w2 ⟨c3, hI, h⟩
   dsimp only at hI h
   rcases fuel1 with _ | fuel1
   ·rw [m_ref12_Shape_l1] at h; cases h
   rw [m_ref12_Shape_l1] at h
   refine c_sub (e := [(0, (vs a1 d1.length c1)), (4, (vi n1)), (5, (vi i1))]) ⟨rfl, rfl, rfl, trivial⟩ ?_
   refine c_seq ?_
   refine sr ?_
   refine sm ?_
   refine sm ?_
   refine sq (y_lenl rfl Tryd.underlying24 et) ?_
   refine sq (y_lss rfl et et) ?_
   refine nk ?_
   refine c_cond (b := decide (i1 < (d1.length : Int))) et (fun hb => ?_) (fun hb => ?_)
   ·replace h := ite_t hb h
    refine c_skip ?_
    refine k_same ?_
    refine c_seq ?_
    refine c_block ?_
    refine c_seq ?_
    refine c_seq ?_
    refine c_drawX [] false (.c (0, .q) (.c (1, .q) (.c (2, .q) (.c (3, .q) (.c (4, .q) (.c (5, .q) (.c (6, .q) .n))))))) hI (by kernel_rfl) (by kernel_rfl) ?_
    clear hI; intro w3 hI
    refine a_q rfl gn rfl (fun w' => (y_move rfl et)) ?_
    refine a_q rfl gn rfl (fun w' => (y_move rfl et)) ?_
    obtain ⟨e1, hx1, h⟩ := bnd_some h
    obtain ⟨ad1, cs1, hA1, hr1, hq1⟩ := hI.clat .z hx1
    obtain rfl : cs1 = [(vi e1)] := hr1
    refine a_q rfl gn rfl (fun w' => (y_indexAddr rfl Tryd.underlying24 size_3 et et (lat_bd hx1) hA1)) ?_
    refine a_read rfl gn rfl (fun w' hw' => (y_load1 (v := (vi e1)) rfl et Tryd.underlying3 rfl (hq1.at_ (SX.any rfl hw')))) (by kernel_rfl) ?_
    refine a_q rfl gn rfl (fun w' => (y_move rfl et)) ?_
    obtain ⟨ho1, h⟩ := chk_some h
    refine a_q rfl gn rfl (fun w' => (y_quo rfl ev_const et ho1)) ?_
    refine a_q rfl gn rfl (fun w' => (y_gtr rfl et et)) ?_
    refine a_nil ?_
    refine k_same ?_
    refine c_cond (b := decide (wi64 (Int.tdiv 4096 n1) < e1)) et (fun hb => ?_) (fun hb => ?_)
    ·replace h := ite_t hb h
     refine sr ?_
     refine sac ?_
     refine nk ?_
     refine c_ret ?_
     obtain rfl := some_inj h
     exact q_ret (vs := [(vi 2)]) Tryd.results16 ⟨ev_tmp rfl rfl, trivial⟩ ⟨rfl, hI.ext0, hI.fin trivial⟩
    ·replace h := ite_f hb h
     refine c_skip ?_
     refine k_same ?_
     refine c_region rfl ?_
     refine sm ?_
     refine sm ?_
     refine sm ?_
     obtain ⟨e2, hx2, h⟩ := bnd_some h
     obtain ⟨ad2, cs2, hA2, hr2, hq2⟩ := hI.clat .z hx2
     obtain rfl : cs2 = [(vi e2)] := hr2
     refine sq (y_indexAddr rfl Tryd.underlying24 size_3 et et (lat_bd hx2) hA2) ?_
     refine sq (y_load1 (v := (vi e2)) rfl et Tryd.underlying3 rfl hq2.1) ?_
     refine sq (y_mul rfl et et) ?_
     refine sa ?_
     refine nk ?_
     refine c_region rfl ?_
     refine sm ?_
     refine sq (y_add rfl et ev_const) ?_
     refine sa ?_
     refine s_nil ?_
     exact k_loop (fuel1, wi64 (n1 * e2), wi64 (i1 + 1)) ⟨rfl, rfl, rfl, trivial⟩ ⟨_, hI.arr .n ⟨.z, trivial⟩, h⟩ (Nat.lt_succ_self _)
   ·replace h := ite_f hb h
    refine c_exit ?_
    refine k_in ?_
    refine k_same ?_
    refine sr ?_
    refine sac ?_
    refine nk ?_
    refine c_ret ?_
    obtain rfl := some_inj h
    exact q_ret (vs := [(vi 0)]) Tryd.results16 ⟨ev_tmp rfl rfl, trivial⟩ ⟨rfl, hI.ext0, hI.fin trivial⟩
  ·skip
   refine sr ?_
   refine sac ?_
   refine nk ?_
   refine c_block ?_
   refine c_loop (α := Nat × Int) (fun x => fun w => ∃ C, Bun noM F w0 C w [] [Cl.sl (cInt .i64) a1 c1 d1] ∧ m_ref12_Shape_l2 d1 (x.1) (x.2) = some r) (fun x _ => x.1) (fun x => [(0, (vs a1 d1.length c1)), (3, (vi (x.2)))]) (fu, 0) ⟨_, hI.arr .n ⟨.z, trivial⟩, h⟩ ⟨rfl, rfl, trivial⟩ ?_
   clear h hI; rintro ⟨fuel2, i2⟩ w4 ⟨c4, hI, h⟩
   dsimp only at hI h
   rcases fuel2 with _ | fuel2
   ·rw [m_ref12_Shape_l2] at h; cases h
   rw [m_ref12_Shape_l2] at h
   refine c_sub (e := [(0, (vs a1 d1.length c1)), (3, (vi i2))]) ⟨rfl, rfl, trivial⟩ ?_
   refine c_seq ?_
   refine sr ?_
   refine sm ?_
   refine sm ?_
   refine sq (y_lenl rfl Tryd.underlying24 et) ?_
   refine sq (y_lss rfl et et) ?_
   refine nk ?_
   refine c_cond (b := decide (i2 < (d1.length : Int))) et (fun hb => ?_) (fun hb => ?_)
   ·replace h := ite_t hb h
    refine c_skip ?_
    refine k_same ?_
    refine c_seq ?_
    refine c_block ?_
    refine sr ?_
    refine sm ?_
    refine sm ?_
    obtain ⟨e3, hx3, h⟩ := bnd_some h
    obtain ⟨ad3, cs3, hA3, hr3, hq3⟩ := hI.clat .z hx3
    obtain rfl : cs3 = [(vi e3)] := hr3
    refine sq (y_indexAddr rfl Tryd.underlying24 size_3 et et (lat_bd hx3) hA3) ?_
    refine sq (y_load1 (v := (vi e3)) rfl et Tryd.underlying3 rfl hq3.1) ?_
    refine sq (y_lss rfl et ev_const) ?_
    refine nk ?_
    refine c_cond (b := decide (e3 < 1)) et (fun hb => ?_) (fun hb => ?_)
    ·replace h := ite_t hb h
     refine sr ?_
     refine sac ?_
     refine nk ?_
     refine c_ret ?_
     obtain rfl := some_inj h
     exact q_ret (vs := [(vi 1)]) Tryd.results16 ⟨ev_tmp rfl rfl, trivial⟩ ⟨rfl, hI.ext0, hI.fin trivial⟩
    ·replace h := ite_f hb h
     refine c_skip ?_
     refine k_same ?_
     refine c_region rfl ?_
     refine sm ?_
     refine sq (y_add rfl et ev_const) ?_
     refine sa ?_
     refine s_nil ?_
     exact k_loop (fuel2, wi64 (i2 + 1)) ⟨rfl, rfl, trivial⟩ ⟨_, hI.arr .n ⟨.z, trivial⟩, h⟩ (Nat.lt_succ_self _)
   ·replace h := ite_f hb h
    refine c_exit ?_
    refine k_in ?_
    exact k_join () ⟨rfl, trivial⟩ ⟨_, hI.arr .n ⟨.z, trivial⟩, h⟩ rfl
set_option maxRecDepth 100000 in
set_option maxHeartbeats 4000000 in
theorem c_ref12_Size (F : NP) (w0 : World) (hF : ∀ k, F k → k < w0.heap.size) (d1 : List Int) (a1 : Option Addr) (c1 : Nat) (hc : AllCl [Cl.sl (cInt .i64) a1 c1 d1] F w0) (r : Int)
  (h : m_ref12_Size d1 = some r) :
  Calls Tryd.prog 17 #[(vs a1 d1.length c1)] w0 fun e w => e = .returned (vi r) ∧ Ext w0 w ∧ AllCl [] F w := by
 refine enterK (l := [(vs a1 d1.length c1)]) Tryd.func17 rfl Tryd.ntmps17 rfl ?_
 have hI := Bun.start hF hc
 clear hc
 rw [m_ref12_Size] at h
 refine sr ?_
 refine sac ?_
 refine nk ?_
 refine sr ?_
 refine sac ?_
 refine nk ?_
 refine c_seq ?_
 refine sr ?_
 refine sac ?_
 refine nk ?_
 refine c_block ?_
 refine c_loop (α := Nat × Int × Int) (fun x => fun w => ∃ C, Bun noM F w0 C w [] [Cl.sl (cInt .i64) a1 c1 d1] ∧ m_ref12_Size_l1 d1 (x.1) (x.2.1) (x.2.2) = some r) (fun x _ => x.1) (fun x => [(0, (vs a1 d1.length c1)), (3, (vi (x.2.1))), (4, (vi (x.2.2)))]) (fu, 1, 0) ⟨_, hI.arr .n ⟨.z, trivial⟩, h⟩ ⟨rfl, rfl, rfl, trivial⟩ ?_
 clear h hI; rintro ⟨fuel1, n1, i1⟩ w1 ⟨c2, hI, h⟩
 dsimp only at hI h
 rcases fuel1 with _ | fuel1
 ·rw [m_ref12_Size_l1] at h; cases h
 rw [m_ref12_Size_l1] at h
 refine c_sub (e := [(0, (vs a1 d1.length c1)), (3, (vi n1)), (4, (vi i1))]) ⟨rfl, rfl, rfl, trivial⟩ ?_
 refine c_seq ?_
 refine sr ?_
 refine sm ?_
 refine sm ?_
 refine sq (y_lenl rfl Tryd.underlying24 et) ?_
 refine sq (y_lss rfl et et) ?_
 refine nk ?_
 refine c_cond (b := decide (i1 < (d1.length : Int))) et (fun hb => ?_) (fun hb => ?_)
 ·replace h := ite_t hb h
  refine c_skip ?_
  refine k_same ?_
  refine c_seq ?_
  refine c_block ?_
  refine c_region rfl ?_
  refine sm ?_
  refine sm ?_
  refine sm ?_
  obtain ⟨e1, hx1, h⟩ := bnd_some h
  obtain ⟨ad1, cs1, hA1, hr1, hq1⟩ := hI.clat .z hx1
  obtain rfl : cs1 = [(vi e1)] := hr1
  refine sq (y_indexAddr rfl Tryd.underlying24 size_3 et et (lat_bd hx1) hA1) ?_
  refine sq (y_load1 (v := (vi e1)) rfl et Tryd.underlying3 rfl hq1.1) ?_
  refine sq (y_mul rfl et et) ?_
  refine sa ?_
  refine nk ?_
  refine c_region rfl ?_
  refine sm ?_
  refine sq (y_add rfl et ev_const) ?_
  refine sa ?_
  refine s_nil ?_
  exact k_loop (fuel1, wi64 (n1 * e1), wi64 (i1 + 1)) ⟨rfl, rfl, rfl, trivial⟩ ⟨_, hI.arr .n ⟨.z, trivial⟩, h⟩ (Nat.lt_succ_self _)
 ·replace h := ite_f hb h
  refine c_exit ?_
  refine k_in ?_
  refine k_same ?_
  refine sr ?_
  refine sm ?_
  refine sa ?_
  refine nk ?_
  refine c_ret ?_
  obtain rfl := some_inj h
  exact q_ret (vs := [(vi n1)]) Tryd.results17 ⟨ev_tmp rfl rfl, trivial⟩ ⟨rfl, hI.ext0, hI.fin trivial⟩
set_option maxRecDepth 100000 in
set_option maxHeartbeats 4000000 in
theorem c_base_gcd (F : NP) (w0 : World) (hF : ∀ k, F k → k < w0.heap.size) (a1 : Int) (b1 : Int) (hc : AllCl [] F w0) (r : Int)
  (h : m_base_gcd a1 b1 = some r) :
  Calls Tryd.prog 33 #[(vi a1), (vi b1)] w0 fun e w => e = .returned (vi r) ∧ Ext w0 w ∧ AllCl [] F w := by
 refine enterK (l := [(vi a1), (vi b1)]) Tryd.func33 rfl Tryd.ntmps33 rfl ?_
 have hI := Bun.start hF hc
 clear hc
 rw [m_base_gcd] at h
 refine sr ?_
 refine sac ?_
 refine nk ?_
 refine c_seq ?_
 refine c_block ?_
 refine c_loop (α := Nat × Int × Int) (fun x => fun w => ∃ C, Bun noM F w0 C w [] [] ∧ m_base_gcd_l1 (x.1) (x.2.1) (x.2.2) = some r) (fun x _ => x.1) (fun x => [(0, (vi (x.2.1))), (1, (vi (x.2.2)))]) (fu, a1, b1) ⟨_, hI.arr .n trivial, h⟩ ⟨rfl, rfl, trivial⟩ ?_
 clear h hI; rintro ⟨fuel1, a2, b2⟩ w1 ⟨c1, hI, h⟩
 dsimp only at hI h
 rcases fuel1 with _ | fuel1
 ·rw [m_base_gcd_l1] at h; cases h
 rw [m_base_gcd_l1] at h
 refine c_sub (e := [(0, (vi a2)), (1, (vi b2))]) ⟨rfl, rfl, trivial⟩ ?_
 refine c_seq ?_
 refine sr ?_
 refine sm ?_
 refine sq (y_neq rfl et ev_const) ?_
 refine nk ?_
 refine c_cond (b := !decide (b2 = 0)) et (fun hb => ?_) (fun hb => ?_)
 ·replace h := ite_t hb h
  refine c_skip ?_
  refine k_same ?_
  refine c_block ?_
  refine c_drawX [] false (.c (0, .q) (.c (1, .q) (.c (2, .q) (.c (3, .q) (.c (4, .q) (.c (5, .q) .n)))))) hI (by kernel_rfl) (by kernel_rfl) ?_
  clear hI; intro w2 hI
  refine a_q rfl gn rfl (fun w' => (y_move rfl et)) ?_
  refine a_q rfl gn rfl (fun w' => (y_move rfl et)) ?_
  refine a_q rfl gn rfl (fun w' => (y_move rfl et)) ?_
  obtain ⟨ho1, h⟩ := chk_some h
  refine a_q rfl gn rfl (fun w' => (y_rem rfl et et ho1)) ?_
  refine a_q rfl gn rfl (fun w' => (y_assign rfl et)) ?_
  refine a_q rfl gn rfl (fun w' => (y_assign rfl et)) ?_
  refine a_nil ?_
  exact k_loop (fuel1, b2, Int.tmod a2 b2) ⟨rfl, rfl, trivial⟩ ⟨_, hI.arr .n trivial, h⟩ (Nat.lt_succ_self _)
 ·replace h := ite_f hb h
  refine c_exit ?_
  refine k_in ?_
  refine k_same ?_
  refine sr ?_
  refine sm ?_
  refine sa ?_
  refine nk ?_
  refine c_ret ?_
  obtain rfl := some_inj h
  exact q_ret (vs := [(vi a2)]) Tryd.results33 ⟨ev_tmp rfl rfl, trivial⟩ ⟨rfl, hI.ext0, hI.fin trivial⟩
set_option maxRecDepth 100000 in
set_option maxHeartbeats 4000000 in
theorem c_base_Val (F : NP) (w0 : World) (hF : ∀ k, F k → k < w0.heap.size) (t1 : GType) (v1 : GVal) (hc : AllCl [] F w0) (r : Bool)
  (h : m_base_Val t1 v1 = some r) :
  Calls Tryd.prog 18 #[(Value.agg #[(vi t1.Kind), (vi t1.Bits), (vi t1.Frac), (vi t1.Round), (vi t1.Over)]), (Value.agg #[(vi v1.N), (vi v1.D)])] w0 fun e w => e = .returned (vb r) ∧ Ext w0 w ∧ AllCl [] F w := by
 refine enterK (l := [(Value.agg #[(vi t1.Kind), (vi t1.Bits), (vi t1.Frac), (vi t1.Round), (vi t1.Over)]), (Value.agg #[(vi v1.N), (vi v1.D)])]) Tryd.func18 rfl Tryd.ntmps18 rfl ?_
 have hI := Bun.start hF hc
 clear hc
 rw [m_base_Val] at h
 refine sr ?_
 refine l_box (v := (Value.agg #[(vi t1.Kind), (vi t1.Bits), (vi t1.Frac), (vi t1.Round), (vi t1.Over)])) (cs := #[(vi t1.Kind), (vi t1.Bits), (vi t1.Frac), (vi t1.Round), (vi t1.Over)]) hI gn rfl rfl et rfl ?_
 clear hI; intro b1 c1 w1 hI
 obtain ⟨c2, hI⟩ := hI.relBox .z
 refine l_box (v := (Value.agg #[(vi v1.N), (vi v1.D)])) (cs := #[(vi v1.N), (vi v1.D)]) hI gn rfl rfl et rfl ?_
 clear hI; intro b2 c3 w2 hI
 obtain ⟨c4, hI⟩ := hI.relBox .z
 refine sac ?_
 refine nk ?_
 refine c_seq ?_
 refine sr ?_
 refine sq (y_fieldAddr rfl et Tryd.underlying23 rfl size_3 rfl) ?_
 refine sq (y_load1 (v := (vi t1.Kind)) rfl et Tryd.underlying3 rfl (hI.kblk (l := [(vi t1.Kind)]) (.s .z) rfl).1) ?_
 refine sq (y_eql rfl et ev_const) ?_
 refine nk ?_
 refine c_cond (b := decide (t1.Kind = 2)) et (fun hb => ?_) (fun hb => ?_)
 ·replace h := ite_t hb h
  refine sr ?_
  refine sq (y_fieldAddr rfl et Tryd.underlying23 rfl size_3 rfl) ?_
  refine sq (y_load1 (v := (vi t1.Bits)) rfl et Tryd.underlying3 rfl (hI.kblk (l := [(vi t1.Bits)]) (.s .z) rfl).1) ?_
  refine sq (y_sub rfl et ev_const) ?_
  obtain ⟨ho1, h⟩ := chk_some h
  refine sq (y_shl rfl ev_const et ho1) ?_
  obtain ⟨half1, hx1, h⟩ := bnd_some h
  refine sq (binU (y_assign rfl et) (congrArg (Value.int .i64) (some_inj hx1))) ?_
  refine nk ?_
  refine sr ?_
  refine sq (y_fieldAddr rfl et Tryd.underlying29 rfl size_2 rfl) ?_
  refine sq (y_load1 (v := (vi v1.D)) rfl et Tryd.underlying2 rfl (hI.kblk (l := [(vi v1.D)]) .z rfl).1) ?_
  refine sq (y_eql rfl et ev_const) ?_
  refine sm ?_
  refine s_gval (g_true rfl rfl rfl rfl) rfl (fun hc => (y_fieldAddr rfl et Tryd.underlying29 rfl size_2 rfl)) ?_
  refine s_gval (g_true rfl rfl rfl rfl) rfl (fun hc => (y_load1 (v := (vi v1.N)) rfl (ev_gv et hc) Tryd.underlying2 rfl (hI.kblk (l := [(vi v1.N)]) .z rfl).1)) ?_
  refine s_gval (g_true rfl rfl rfl rfl) rfl (fun hc => (y_move rfl et)) ?_
  refine s_gval (g_true rfl rfl rfl rfl) rfl (fun hc => (y_neg rfl (ev_gv et hc))) ?_
  refine s_gval (g_true rfl rfl rfl rfl) rfl (fun hc => (y_geq rfl (ev_gv et hc) (ev_gv et hc))) ?_
  refine sq (y_and rfl et et) ?_
  refine sm ?_
  refine s_gval (g_true rfl rfl rfl rfl) rfl (fun hc => (y_fieldAddr rfl et Tryd.underlying29 rfl size_2 rfl)) ?_
  refine s_gval (g_true rfl rfl rfl rfl) rfl (fun hc => (y_load1 (v := (vi v1.N)) rfl (ev_gv et hc) Tryd.underlying2 rfl (hI.kblk (l := [(vi v1.N)]) .z rfl).1)) ?_
  refine s_gval (g_true rfl rfl rfl rfl) rfl (fun hc => (y_move rfl et)) ?_
  refine s_gval (g_true rfl rfl rfl rfl) rfl (fun hc => (y_lss rfl (ev_gv et hc) (ev_gv et hc))) ?_
  refine sq (y_and rfl et et) ?_
  refine sa ?_
  refine s_nil ?_
  refine k_next (e := [(4, (vb (((decide (v1.D = 1)) && (decide (wi64 (-half1) ≤ v1.N))) && (decide (v1.N < half1)))))]) ⟨rfl, trivial⟩ ?_
  refine c_ret ?_
  obtain rfl := some_inj h
  exact q_ret (vs := [(vb (((decide (v1.D = 1)) && (decide (wi64 (-half1) ≤ v1.N))) && (decide (v1.N < half1))))]) Tryd.results18 ⟨ev_tmp rfl rfl, trivial⟩ ⟨rfl, hI.ext0, hI.fin trivial⟩
 ·replace h := ite_f hb h
  refine c_skip ?_
  refine k_same ?_
  refine c_seq ?_
  refine sr ?_
  refine sq (y_fieldAddr rfl et Tryd.underlying29 rfl size_2 rfl) ?_
  refine sq (y_load1 (v := (vi v1.N)) rfl et Tryd.underlying2 rfl (hI.kblk (l := [(vi v1.N)]) .z rfl).1) ?_
  refine sq (y_gtr rfl et ev_const) ?_
  refine sm ?_
  refine s_gval (g_false rfl rfl rfl rfl) rfl (fun hc => (y_fieldAddr rfl et Tryd.underlying29 rfl size_2 rfl)) ?_
  refine s_gval (g_false rfl rfl rfl rfl) rfl (fun hc => (y_load1 (v := (vi v1.N)) rfl (ev_gv et hc) Tryd.underlying2 rfl (hI.kblk (l := [(vi v1.N)]) .z rfl).1)) ?_
  refine s_gval (g_false rfl rfl rfl rfl) rfl (fun hc => (y_lss rfl (ev_gv et hc) ev_const)) ?_
  refine sq (y_or rfl et et) ?_
  refine sm ?_
  refine s_gval (g_false rfl rfl rfl rfl) rfl (fun hc => (y_fieldAddr rfl et Tryd.underlying29 rfl size_2 rfl)) ?_
  refine s_gval (g_false rfl rfl rfl rfl) rfl (fun hc => (y_load1 (v := (vi v1.D)) rfl (ev_gv et hc) Tryd.underlying2 rfl (hI.kblk (l := [(vi v1.D)]) .z rfl).1)) ?_
  refine s_gval (g_false rfl rfl rfl rfl) rfl (fun hc => (y_lss rfl (ev_gv et hc) ev_const)) ?_
  refine sq (y_or rfl et et) ?_
  refine sm ?_
  refine s_gval (g_false rfl rfl rfl rfl) rfl (fun hc => (y_fieldAddr rfl et Tryd.underlying29 rfl size_2 rfl)) ?_
  refine s_gval (g_false rfl rfl rfl rfl) rfl (fun hc => (y_load1 (v := (vi v1.D)) rfl (ev_gv et hc) Tryd.underlying2 rfl (hI.kblk (l := [(vi v1.D)]) .z rfl).1)) ?_
  refine s_gval (g_false rfl rfl rfl rfl) rfl (fun hc => (y_gtr rfl (ev_gv et hc) ev_const)) ?_
  refine sq (y_or rfl et et) ?_
  refine nk ?_
  refine c_cond (b := (((decide (2147483647 < v1.N)) || (decide (v1.N < (-2147483647)))) || (decide (v1.D < 1))) || (decide (2147483647 < v1.D))) et (fun hb => ?_) (fun hb => ?_)
  ·replace h := ite_t hb h
   refine sr ?_
   refine sac ?_
   refine s_nil ?_
   refine k_next (e := [(4, (vb false))]) ⟨rfl, trivial⟩ ?_
   refine c_ret ?_
   obtain rfl := some_inj h
   exact q_ret (vs := [(vb false)]) Tryd.results18 ⟨ev_tmp rfl rfl, trivial⟩ ⟨rfl, hI.ext0, hI.fin trivial⟩
  ·replace h := ite_f hb h
   refine c_skip ?_
   refine k_next (e := [(2, (vp b1 0)), (3, (vp b2 0))]) ⟨rfl, rfl, trivial⟩ ?_
   refine c_seq ?_
   refine sr ?_
   refine sq (y_fieldAddr rfl et Tryd.underlying23 rfl size_3 rfl) ?_
   refine sq (y_load1 (v := (vi t1.Kind)) rfl et Tryd.underlying3 rfl (hI.kblk (l := [(vi t1.Kind)]) (.s .z) rfl).1) ?_
   refine sq (y_eql rfl et ev_const) ?_
   refine nk ?_
   refine c_cond (b := decide (t1.Kind = 3)) et (fun hb => ?_) (fun hb => ?_)
   ·replace h := ite_t hb h
    refine sr ?_
    refine sq (y_fieldAddr rfl et Tryd.underlying29 rfl size_2 rfl) ?_
    refine sq (y_load1 (v := (vi v1.D)) rfl et Tryd.underlying2 rfl (hI.kblk (l := [(vi v1.D)]) .z rfl).1) ?_
    refine sq (y_eql rfl et ev_const) ?_
    refine sa ?_
    refine nk ?_
    refine c_ret ?_
    obtain rfl := some_inj h
    exact q_ret (vs := [(vb (decide (v1.D = 1)))]) Tryd.results18 ⟨ev_tmp rfl rfl, trivial⟩ ⟨rfl, hI.ext0, hI.fin trivial⟩
   ·replace h := ite_f hb h
    refine c_skip ?_
    refine k_same ?_
    refine sr ?_
    refine sq (y_fieldAddr rfl et Tryd.underlying29 rfl size_2 rfl) ?_
    refine sq (y_load1 (v := (vi v1.N)) rfl et Tryd.underlying2 rfl (hI.kblk (l := [(vi v1.N)]) .z rfl).1) ?_
    refine sq (y_fieldAddr rfl et Tryd.underlying29 rfl size_2 rfl) ?_
    refine sq (y_load1 (v := (vi v1.N)) rfl et Tryd.underlying2 rfl (hI.kblk (l := [(vi v1.N)]) .z rfl).1) ?_
    refine sq (y_neg rfl et) ?_
    refine sq (y_max rfl et et) ?_
    refine sq (y_fieldAddr rfl et Tryd.underlying29 rfl size_2 rfl) ?_
    refine sq (y_load1 (v := (vi v1.D)) rfl et Tryd.underlying2 rfl (hI.kblk (l := [(vi v1.D)]) .z rfl).1) ?_
    obtain ⟨r1, hx2, h⟩ := bnd_some h
    refine s_call gn rfl (r_callF (vs := [(vi (max v1.N (wi64 (-v1.N)))), (vi v1.D)]) rfl ok_33 ⟨et, ⟨et, trivial⟩⟩) (Calls.mono (c_base_gcd (Dj F c4) w2 hI.lt (max v1.N (wi64 (-v1.N))) v1.D trivial r1 hx2) ?_)
    rintro _ w3 ⟨rfl, hx3, hl1⟩
    refine ⟨_, rfl, ?_⟩
    replace hI := (hI.ext hx3)
    refine sq (y_eql rfl et ev_const) ?_
    refine sa ?_
    refine nk ?_
    refine c_ret ?_
    obtain rfl := some_inj h
    exact q_ret (vs := [(vb (decide (r1 = 1)))]) Tryd.results18 ⟨ev_tmp rfl rfl, trivial⟩ ⟨rfl, hI.ext0, hI.fin trivial⟩
set_option maxRecDepth 100000 in
set_option maxHeartbeats 4000000 in
theorem c_ref12_Validate (F : NP) (w0 : World) (hF : ∀ k, F k → k < w0.heap.size) (t1 : GTensor) (a1 : Option Addr) (c1 : Nat) (a2 : Option Addr) (c2 : Nat) (hc : AllCl [Cl.sl (cInt .i64) a1 c1 t1.Dims, Cl.sl cGVal a2 c2 t1.Vals] F w0) (r : Int)
  (h : m_ref12_Validate t1 = some r) :
  Calls Tryd.prog 6 #[(Value.agg #[(vi t1.Type_.Kind), (vi t1.Type_.Bits), (vi t1.Type_.Frac), (vi t1.Type_.Round), (vi t1.Type_.Over), (vs a1 t1.Dims.length c1), (vs a2 t1.Vals.length c2)])] w0 fun e w => e = .returned (vi r) ∧ Ext w0 w ∧ AllCl [] F w := by
 refine enterK (l := [(Value.agg #[(vi t1.Type_.Kind), (vi t1.Type_.Bits), (vi t1.Type_.Frac), (vi t1.Type_.Round), (vi t1.Type_.Over), (vs a1 t1.Dims.length c1), (vs a2 t1.Vals.length c2)])]) Tryd.func6 rfl Tryd.ntmps6 rfl ?_
 have hI := Bun.start hF hc
 clear hc
 rw [m_ref12_Validate] at h
 refine sr ?_
 refine l_box (v := (Value.agg #[(vi t1.Type_.Kind), (vi t1.Type_.Bits), (vi t1.Type_.Frac), (vi t1.Type_.Round), (vi t1.Type_.Over), (vs a1 t1.Dims.length c1), (vs a2 t1.Vals.length c2)])) (cs := #[(vi t1.Type_.Kind), (vi t1.Type_.Bits), (vi t1.Type_.Frac), (vi t1.Type_.Round), (vi t1.Type_.Over), (vs a1 t1.Dims.length c1), (vs a2 t1.Vals.length c2)]) hI gn rfl rfl et rfl ?_
 clear hI; intro b1 c3 w1 hI
 obtain ⟨c4, hI⟩ := hI.relBox .z
 refine sac ?_
 refine nk ?_
 refine c_seq ?_
 refine sr ?_
 refine sq (y_fieldAddr rfl et Tryd.underlying27 rfl size_23 rfl) ?_
 refine sq (y_loadN (l := [(vi t1.Type_.Kind), (vi t1.Type_.Bits), (vi t1.Type_.Frac), (vi t1.Type_.Round), (vi t1.Type_.Over)]) rfl et Tryd.underlying23 rfl size_23 (hI.kblk (l := [(vi t1.Type_.Kind), (vi t1.Type_.Bits), (vi t1.Type_.Frac), (vi t1.Type_.Round), (vi t1.Type_.Over)]) .z rfl).1) ?_
 obtain ⟨r1, hx1, h⟩ := bnd_some h
 refine s_call gn rfl (r_callF (vs := [(Value.agg #[(vi t1.Type_.Kind), (vi t1.Type_.Bits), (vi t1.Type_.Frac), (vi t1.Type_.Round), (vi t1.Type_.Over)])]) rfl ok_15 ⟨et, trivial⟩) (Calls.mono (c_base_Type (Dj F c4) w1 hI.lt t1.Type_ trivial r1 hx1) ?_)
 rintro _ w2 ⟨rfl, hx2, hl1⟩
 refine ⟨_, rfl, ?_⟩
 replace hI := (hI.ext hx2)
 refine sq (y_not rfl et) ?_
 refine nk ?_
 refine c_cond (b := !r1) et (fun hb => ?_) (fun hb => ?_)
 ·replace h := ite_t hb h
  refine sr ?_
  refine sac ?_
  refine nk ?_
  refine c_ret ?_
  obtain rfl := some_inj h
  exact q_ret (vs := [(vi 10)]) Tryd.results6 ⟨ev_tmp rfl rfl, trivial⟩ ⟨rfl, hI.ext0, hI.fin trivial⟩
 ·replace h := ite_f hb h
  refine c_skip ?_
  refine k_same ?_
  refine c_seq ?_
  refine sr ?_
  refine sq (y_fieldAddr rfl et Tryd.underlying27 rfl size_24 rfl) ?_
  refine sq (y_load1 (v := (vs a1 t1.Dims.length c1)) rfl et Tryd.underlying24 rfl (hI.kblk (l := [(vs a1 t1.Dims.length c1)]) .z rfl).1) ?_
  obtain ⟨r2, hx3, h⟩ := bnd_some h
  refine s_call gn rfl (r_callF (vs := [(vs a1 t1.Dims.length c1)]) rfl ok_16 ⟨et, trivial⟩) (Calls.mono (c_ref12_Shape (Dj F c4) w2 hI.lt t1.Dims a1 c1 ⟨(hI.get (.s .z)), trivial⟩ r2 hx3) ?_)
  rintro _ w3 ⟨rfl, hx4, hl2⟩
  refine ⟨_, rfl, ?_⟩
  replace hI := (hI.ext hx4)
  refine sa ?_
  refine nk ?_
  refine sr ?_
  refine sm ?_
  refine sq (y_neq rfl et ev_const) ?_
  refine nk ?_
  refine c_cond (b := !decide (r2 = 0)) et (fun hb => ?_) (fun hb => ?_)
  ·replace h := ite_t hb h
   refine sr ?_
   refine sm ?_
   refine sa ?_
   refine nk ?_
   refine c_ret ?_
   obtain rfl := some_inj h
   exact q_ret (vs := [(vi r2)]) Tryd.results6 ⟨ev_tmp rfl rfl, trivial⟩ ⟨rfl, hI.ext0, hI.fin trivial⟩
  ·replace h := ite_f hb h
   refine c_skip ?_
   refine k_same ?_
   refine c_seq ?_
   refine c_seq ?_
   refine c_drawX [] false (.c (0, .q) (.c (1, .q) (.c (2, .q) (.c (3, .q) (.c (4, .q) (.c (5, .s) (.c (6, .q) .n))))))) hI (by kernel_rfl) (by kernel_rfl) ?_
   clear hI; intro w4 hI
   refine a_q rfl gn rfl (fun w' => (y_fieldAddr rfl et Tryd.underlying27 rfl size_25 rfl)) ?_
   refine a_read rfl gn rfl (fun w' hw' => (y_load1 (v := (vs a2 t1.Vals.length c2)) rfl et Tryd.underlying25 rfl ((hI.kblk (l := [(vs a2 t1.Vals.length c2)]) .z rfl).at_ (SX.any rfl hw')))) (by kernel_rfl) ?_
   refine a_q rfl gn rfl (fun w' => (y_lenl rfl Tryd.underlying25 et)) ?_
   refine a_q rfl gn rfl (fun w' => (y_fieldAddr rfl et Tryd.underlying27 rfl size_24 rfl)) ?_
   refine a_read rfl gn rfl (fun w' hw' => (y_load1 (v := (vs a1 t1.Dims.length c1)) rfl et Tryd.underlying24 rfl ((hI.kblk (l := [(vs a1 t1.Dims.length c1)]) .z rfl).at_ (SX.any rfl hw')))) (by kernel_rfl) ?_
   obtain ⟨r3, hx5, h⟩ := bnd_some h
   refine la_call rfl gn rfl (r_callF (vs := [(vs a1 t1.Dims.length c1)]) rfl ok_17 ⟨et, trivial⟩) (Calls.mono (c_ref12_Size (Dj F c4) w4 hI.lt t1.Dims a1 c1 ⟨(hI.get (.s .z)), trivial⟩ r3 hx5) ?_)
   rintro _ w5 ⟨rfl, hx6, hl3⟩
   refine ⟨_, rfl, hx6, ?_⟩
   replace hI := (hI.ext hx6)
   refine a_q rfl gn rfl (fun w' => (y_neq rfl et et)) ?_
   refine a_nil ?_
   refine k_same ?_
   refine c_cond (b := !decide ((t1.Vals.length : Int) = r3)) et (fun hb => ?_) (fun hb => ?_)
   ·replace h := ite_t hb h
    refine sr ?_
    refine sac ?_
    refine nk ?_
    refine c_ret ?_
    obtain rfl := some_inj h
    exact q_ret (vs := [(vi 1)]) Tryd.results6 ⟨ev_tmp rfl rfl, trivial⟩ ⟨rfl, hI.ext0, hI.fin trivial⟩
   ·replace h := ite_f hb h
    refine c_skip ?_
    refine k_same ?_
    refine c_seq ?_
    refine sr ?_
    refine sac ?_
    refine nk ?_
    refine c_block ?_
    refine c_loop (α := Nat × Int) (fun x => fun w => ∃ C, Bun noM F w0 C w [] [Cl.blk b1 27 #[(vi t1.Type_.Kind), (vi t1.Type_.Bits), (vi t1.Type_.Frac), (vi t1.Type_.Round), (vi t1.Type_.Over), (vs a1 t1.Dims.length c1), (vs a2 t1.Vals.length c2)], Cl.sl (cInt .i64) a1 c1 t1.Dims, Cl.sl cGVal a2 c2 t1.Vals] ∧ m_ref12_Validate_l1 t1 (x.1) (x.2) = some r) (fun x _ => x.1) (fun x => [(1, (vp b1 0)), (4, (vi (x.2)))]) (fu, 0) ⟨_, hI.arr .n ⟨.z, (.s .z), (.s (.s .z)), trivial⟩, h⟩ ⟨rfl, rfl, trivial⟩ ?_
    clear h hI; rintro ⟨fuel1, i1⟩ w6 ⟨c5, hI, h⟩
    dsimp only at hI h
    rcases fuel1 with _ | fuel1
    ·rw [m_ref12_Validate_l1] at h; cases h
    rw [m_ref12_Validate_l1] at h
    refine c_sub (e := [(1, (vp b1 0)), (4, (vi i1))]) ⟨rfl, rfl, trivial⟩ ?_
    refine c_seq ?_
    refine sr ?_
    refine sm ?_
    refine sq (y_fieldAddr rfl et Tryd.underlying27 rfl size_25 rfl) ?_
    refine sq (y_load1 (v := (vs a2 t1.Vals.length c2)) rfl et Tryd.underlying25 rfl (hI.kblk (l := [(vs a2 t1.Vals.length c2)]) .z rfl).1) ?_
    refine sq (y_lenl rfl Tryd.underlying25 et) ?_
    refine sq (y_lss rfl et et) ?_
    refine nk ?_
    refine c_cond (b := decide (i1 < (t1.Vals.length : Int))) et (fun hb => ?_) (fun hb => ?_)
    ·replace h := ite_t hb h
     refine c_skip ?_
     refine k_same ?_
     refine c_seq ?_
     refine c_block ?_
     refine c_seq ?_
     refine c_drawX [] false (.c (0, .q) (.c (1, .q) (.c (2, .q) (.c (3, .q) (.c (4, .q) (.c (5, .q) (.c (6, .q) (.c (7, .s) (.c (8, .q) .n))))))))) hI (by kernel_rfl) (by kernel_rfl) ?_
     clear hI; intro w7 hI
     refine a_q rfl gn rfl (fun w' => (y_fieldAddr rfl et Tryd.underlying27 rfl size_23 rfl)) ?_
     refine a_read rfl gn rfl (fun w' hw' => (y_loadN (l := [(vi t1.Type_.Kind), (vi t1.Type_.Bits), (vi t1.Type_.Frac), (vi t1.Type_.Round), (vi t1.Type_.Over)]) rfl et Tryd.underlying23 rfl size_23 ((hI.kblk (l := [(vi t1.Type_.Kind), (vi t1.Type_.Bits), (vi t1.Type_.Frac), (vi t1.Type_.Round), (vi t1.Type_.Over)]) .z rfl).at_ (SX.any rfl hw')))) (by kernel_rfl) ?_
     refine a_q rfl gn rfl (fun w' => (y_fieldAddr rfl et Tryd.underlying27 rfl size_25 rfl)) ?_
     refine a_read rfl gn rfl (fun w' hw' => (y_load1 (v := (vs a2 t1.Vals.length c2)) rfl et Tryd.underlying25 rfl ((hI.kblk (l := [(vs a2 t1.Vals.length c2)]) .z rfl).at_ (SX.any rfl hw')))) (by kernel_rfl) ?_
     refine a_q rfl gn rfl (fun w' => (y_move rfl et)) ?_
     obtain ⟨e1, hx7, h⟩ := bnd_some h
     obtain ⟨ad1, cs1, hA1, hr1, hq1⟩ := hI.clat (.s (.s .z)) hx7
     obtain rfl : cs1 = [(vi e1.N), (vi e1.D)] := hr1
     refine a_q rfl gn rfl (fun w' => (y_indexAddr rfl Tryd.underlying25 size_29 et et (lat_bd hx7) hA1)) ?_
     refine a_read rfl gn rfl (fun w' hw' => (y_loadN (l := [(vi e1.N), (vi e1.D)]) rfl et Tryd.underlying29 rfl size_29 (hq1.at_ (SX.any rfl hw')))) (by kernel_rfl) ?_
     obtain ⟨r4, hx8, h⟩ := bnd_some h
     refine la_call rfl gn rfl (r_callF (vs := [(Value.agg #[(vi t1.Type_.Kind), (vi t1.Type_.Bits), (vi t1.Type_.Frac), (vi t1.Type_.Round), (vi t1.Type_.Over)]), (Value.agg #[(vi e1.N), (vi e1.D)])]) rfl ok_18 ⟨et, ⟨et, trivial⟩⟩) (Calls.mono (c_base_Val (Dj F c5) w7 hI.lt t1.Type_ e1 trivial r4 hx8) ?_)
     rintro _ w8 ⟨rfl, hx9, hl4⟩
     refine ⟨_, rfl, hx9, ?_⟩
     replace hI := (hI.ext hx9)
     refine a_q rfl gn rfl (fun w' => (y_not rfl et)) ?_
     refine a_nil ?_
     refine k_same ?_
     refine c_cond (b := !r4) et (fun hb => ?_) (fun hb => ?_)
     ·replace h := ite_t hb h
      refine sr ?_
      refine sac ?_
      refine nk ?_
      refine c_ret ?_
      obtain rfl := some_inj h
      exact q_ret (vs := [(vi 1)]) Tryd.results6 ⟨ev_tmp rfl rfl, trivial⟩ ⟨rfl, hI.ext0, hI.fin trivial⟩
     ·replace h := ite_f hb h
      refine c_skip ?_
      refine k_same ?_
      refine c_region rfl ?_
      refine sm ?_
      refine sq (y_add rfl et ev_const) ?_
      refine sa ?_
      refine s_nil ?_
      exact k_loop (fuel1, wi64 (i1 + 1)) ⟨rfl, rfl, trivial⟩ ⟨_, hI.arr .n ⟨.z, (.s .z), (.s (.s .z)), trivial⟩, h⟩ (Nat.lt_succ_self _)
    ·replace h := ite_f hb h
     refine c_exit ?_
     refine k_in ?_
     refine k_same ?_
     refine sr ?_
     refine sac ?_
     refine nk ?_
     refine c_ret ?_
     obtain rfl := some_inj h
     exact q_ret (vs := [(vi 0)]) Tryd.results6 ⟨ev_tmp rfl rfl, trivial⟩ ⟨rfl, hI.ext0, hI.fin trivial⟩
set_option maxRecDepth 100000 in
set_option maxHeartbeats 4000000 in
theorem c_value_plain (F : NP) (w0 : World) (hF : ∀ k, F k → k < w0.heap.size) (t1 : GType) (hc : AllCl [] F w0) (r : Bool)
  (h : m_value_plain t1 = some r) :
  Calls Tryd.prog 52 #[(Value.agg #[(vi t1.Kind), (vi t1.Bits), (vi t1.Frac), (vi t1.Round), (vi t1.Over)])] w0 fun e w => e = .returned (vb r) ∧ Ext w0 w ∧ AllCl [] F w := by
 refine enterK (l := [(Value.agg #[(vi t1.Kind), (vi t1.Bits), (vi t1.Frac), (vi t1.Round), (vi t1.Over)])]) Tryd.func52 rfl Tryd.ntmps52 rfl ?_
 have hI := Bun.start hF hc
 clear hc
 rw [m_value_plain] at h
 refine sr ?_
 refine l_box (v := (Value.agg #[(vi t1.Kind), (vi t1.Bits), (vi t1.Frac), (vi t1.Round), (vi t1.Over)])) (cs := #[(vi t1.Kind), (vi t1.Bits), (vi t1.Frac), (vi t1.Round), (vi t1.Over)]) hI gn rfl rfl et rfl ?_
 clear hI; intro b1 c1 w1 hI
 obtain ⟨c2, hI⟩ := hI.relBox .z
 refine sac ?_
 refine nk ?_
 refine sr ?_
 refine sq (y_loadN (l := [(vi t1.Kind), (vi t1.Bits), (vi t1.Frac), (vi t1.Round), (vi t1.Over)]) rfl et Tryd.underlying23 rfl size_23 (hI.kblk (l := [(vi t1.Kind), (vi t1.Bits), (vi t1.Frac), (vi t1.Round), (vi t1.Over)]) .z rfl).1) ?_
 refine sq (y_fieldAddr rfl et Tryd.underlying23 rfl size_3 rfl) ?_
 refine sq (y_load1 (v := (vi t1.Kind)) rfl et Tryd.underlying3 rfl (hI.kblk (l := [(vi t1.Kind)]) .z rfl).1) ?_
 refine sq (y_build (vs := [(0, (vi t1.Kind))]) (cs := #[(vi t1.Kind), (vi 0), (vi 0), (vi 0), (vi 0)]) rfl ⟨rfl, et, trivial⟩ (by kernel_rfl)) ?_
 refine sq (y_bin rfl et et (eqstruct_23 ..) (eqguard_23 ..)) ?_
 refine sa ?_
 refine nk ?_
 refine c_ret ?_
 obtain rfl := some_inj h
 exact q_ret (vs := [(vb ((decide (t1.Kind = t1.Kind)) && (decide (t1.Bits = 0)) && (decide (t1.Frac = 0)) && (decide (t1.Round = 0)) && (decide (t1.Over = 0))))]) Tryd.results52 ⟨ev_tmp rfl rfl, trivial⟩ ⟨rfl, hI.ext0, hI.fin trivial⟩
set_option maxRecDepth 100000 in
set_option maxHeartbeats 4000000 in
theorem c_fixed_ValidateType (F : NP) (w0 : World) (hF : ∀ k, F k → k < w0.heap.size) (t1 : GType) (hc : AllCl [] F w0) (r : Int)
  (h : m_fixed_ValidateType t1 = some r) :
  Calls Tryd.prog 53 #[(Value.agg #[(vi t1.Kind), (vi t1.Bits), (vi t1.Frac), (vi t1.Round), (vi t1.Over)])] w0 fun e w => e = .returned (vi r) ∧ Ext w0 w ∧ AllCl [] F w := by
 refine enterK (l := [(Value.agg #[(vi t1.Kind), (vi t1.Bits), (vi t1.Frac), (vi t1.Round), (vi t1.Over)])]) Tryd.func53 rfl Tryd.ntmps53 rfl ?_
 have hI := Bun.start hF hc
 clear hc
 rw [m_fixed_ValidateType] at h
 refine sr ?_
 refine l_box (v := (Value.agg #[(vi t1.Kind), (vi t1.Bits), (vi t1.Frac), (vi t1.Round), (vi t1.Over)])) (cs := #[(vi t1.Kind), (vi t1.Bits), (vi t1.Frac), (vi t1.Round), (vi t1.Over)]) hI gn rfl rfl et rfl ?_
 clear hI; intro b1 c1 w1 hI
 obtain ⟨c2, hI⟩ := hI.relBox .z
 refine sac ?_
 refine nk ?_
 refine sr ?_
 refine sq (y_fieldAddr rfl et Tryd.underlying23 rfl size_3 rfl) ?_
 refine sq (y_load1 (v := (vi t1.Round)) rfl et Tryd.underlying3 rfl (hI.kblk (l := [(vi t1.Round)]) .z rfl).1) ?_
 refine sq (y_geq rfl et ev_const) ?_
 refine sm ?_
 refine s_gval (g_true rfl rfl rfl rfl) rfl (fun hc => (y_fieldAddr rfl et Tryd.underlying23 rfl size_3 rfl)) ?_
 refine s_gval (g_true rfl rfl rfl rfl) rfl (fun hc => (y_load1 (v := (vi t1.Round)) rfl (ev_gv et hc) Tryd.underlying3 rfl (hI.kblk (l := [(vi t1.Round)]) .z rfl).1)) ?_
 refine s_gval (g_true rfl rfl rfl rfl) rfl (fun hc => (y_leq rfl (ev_gv et hc) ev_const)) ?_
 refine sq (y_and rfl et et) ?_
 refine sm ?_
 refine s_gval (g_true rfl rfl rfl rfl) rfl (fun hc => (y_fieldAddr rfl et Tryd.underlying23 rfl size_3 rfl)) ?_
 refine s_gval (g_true rfl rfl rfl rfl) rfl (fun hc => (y_load1 (v := (vi t1.Over)) rfl (ev_gv et hc) Tryd.underlying3 rfl (hI.kblk (l := [(vi t1.Over)]) .z rfl).1)) ?_
 refine s_gval (g_true rfl rfl rfl rfl) rfl (fun hc => (y_eql rfl (ev_gv et hc) ev_const)) ?_
 refine s_gval (g_true rfl rfl rfl rfl) rfl (fun hc => (y_move rfl (ev_gv et hc))) ?_
 refine s_gval (g_false2 rfl rfl rfl rfl) rfl (fun hc => (y_fieldAddr rfl et Tryd.underlying23 rfl size_3 rfl)) ?_
 refine s_gval (g_false2 rfl rfl rfl rfl) rfl (fun hc => (y_load1 (v := (vi t1.Over)) rfl (ev_gv et hc) Tryd.underlying3 rfl (hI.kblk (l := [(vi t1.Over)]) .z rfl).1)) ?_
 refine s_gval (g_false2 rfl rfl rfl rfl) rfl (fun hc => (y_eql rfl (ev_gv et hc) ev_const)) ?_
 refine s_gval (g_true rfl rfl rfl rfl) rfl (fun hc => (y_or2 rfl hc et et)) ?_
 refine sq (y_and rfl et et) ?_
 obtain ⟨modes1, hx1, h⟩ := bnd_some h
 refine sq (binU (y_assign rfl et) (congrArg Value.bool (some_inj hx1))) ?_
 refine nk ?_
 refine c_seq ?_
 refine sr ?_
 refine sq (y_fieldAddr rfl et Tryd.underlying23 rfl size_3 rfl) ?_
 refine sq (y_load1 (v := (vi t1.Kind)) rfl et Tryd.underlying3 rfl (hI.kblk (l := [(vi t1.Kind)]) .z rfl).1) ?_
 refine sq (y_neq rfl et ev_const) ?_
 refine sm ?_
 refine s_gval (g_false rfl rfl rfl rfl) rfl (fun hc => (y_fieldAddr rfl et Tryd.underlying23 rfl size_3 rfl)) ?_
 refine s_gval (g_false rfl rfl rfl rfl) rfl (fun hc => (y_load1 (v := (vi t1.Bits)) rfl (ev_gv et hc) Tryd.underlying3 rfl (hI.kblk (l := [(vi t1.Bits)]) .z rfl).1)) ?_
 refine s_gval (g_false rfl rfl rfl rfl) rfl (fun hc => (y_lss rfl (ev_gv et hc) ev_const)) ?_
 refine sq (y_or rfl et et) ?_
 refine sm ?_
 refine s_gval (g_false rfl rfl rfl rfl) rfl (fun hc => (y_fieldAddr rfl et Tryd.underlying23 rfl size_3 rfl)) ?_
 refine s_gval (g_false rfl rfl rfl rfl) rfl (fun hc => (y_load1 (v := (vi t1.Bits)) rfl (ev_gv et hc) Tryd.underlying3 rfl (hI.kblk (l := [(vi t1.Bits)]) .z rfl).1)) ?_
 refine s_gval (g_false rfl rfl rfl rfl) rfl (fun hc => (y_gtr rfl (ev_gv et hc) ev_const)) ?_
 refine sq (y_or rfl et et) ?_
 refine sm ?_
 refine s_gval (g_false rfl rfl rfl rfl) rfl (fun hc => (y_fieldAddr rfl et Tryd.underlying23 rfl size_3 rfl)) ?_
 refine s_gval (g_false rfl rfl rfl rfl) rfl (fun hc => (y_load1 (v := (vi t1.Frac)) rfl (ev_gv et hc) Tryd.underlying3 rfl (hI.kblk (l := [(vi t1.Frac)]) .z rfl).1)) ?_
 refine s_gval (g_false rfl rfl rfl rfl) rfl (fun hc => (y_lss rfl (ev_gv et hc) ev_const)) ?_
 refine sq (y_or rfl et et) ?_
 refine sm ?_
 refine s_gval (g_false rfl rfl rfl rfl) rfl (fun hc => (y_fieldAddr rfl et Tryd.underlying23 rfl size_3 rfl)) ?_
 refine s_gval (g_false rfl rfl rfl rfl) rfl (fun hc => (y_load1 (v := (vi t1.Frac)) rfl (ev_gv et hc) Tryd.underlying3 rfl (hI.kblk (l := [(vi t1.Frac)]) .z rfl).1)) ?_
 refine s_gval (g_false rfl rfl rfl rfl) rfl (fun hc => (y_gtr rfl (ev_gv et hc) ev_const)) ?_
 refine sq (y_or rfl et et) ?_
 refine sm ?_
 refine s_gval (g_false rfl rfl rfl rfl) rfl (fun hc => (y_move rfl et)) ?_
 refine s_gval (g_false rfl rfl rfl rfl) rfl (fun hc => (y_not rfl (ev_gv et hc))) ?_
 refine sq (y_or rfl et et) ?_
 refine s_nil ?_
 refine k_next (e := [(48, (vb ((((((!decide (t1.Kind = 2)) || (decide (t1.Bits < 2))) || (decide (31 < t1.Bits))) || (decide (t1.Frac < 0))) || (decide (30 < t1.Frac))) || (!modes1))))]) ⟨rfl, trivial⟩ ?_
 refine c_cond (b := (((((!decide (t1.Kind = 2)) || (decide (t1.Bits < 2))) || (decide (31 < t1.Bits))) || (decide (t1.Frac < 0))) || (decide (30 < t1.Frac))) || (!modes1)) et (fun hb => ?_) (fun hb => ?_)
 ·replace h := ite_t hb h
  refine sr ?_
  refine sac ?_
  refine nk ?_
  refine c_ret ?_
  obtain rfl := some_inj h
  exact q_ret (vs := [(vi 10)]) Tryd.results53 ⟨ev_tmp rfl rfl, trivial⟩ ⟨rfl, hI.ext0, hI.fin trivial⟩
 ·replace h := ite_f hb h
  refine c_skip ?_
  refine k_same ?_
  refine sr ?_
  refine sac ?_
  refine nk ?_
  refine c_ret ?_
  obtain rfl := some_inj h
  exact q_ret (vs := [(vi 0)]) Tryd.results53 ⟨ev_tmp rfl rfl, trivial⟩ ⟨rfl, hI.ext0, hI.fin trivial⟩
set_option maxRecDepth 100000 in
set_option maxHeartbeats 4000000 in
theorem c_value_ValidateType (F : NP) (w0 : World) (hF : ∀ k, F k → k < w0.heap.size) (t1 : GType) (hc : AllCl [] F w0) (r : Int)
  (h : m_value_ValidateType t1 = some r) :
  Calls Tryd.prog 38 #[(Value.agg #[(vi t1.Kind), (vi t1.Bits), (vi t1.Frac), (vi t1.Round), (vi t1.Over)])] w0 fun e w => e = .returned (vi r) ∧ Ext w0 w ∧ AllCl [] F w := by
 refine enterK (l := [(Value.agg #[(vi t1.Kind), (vi t1.Bits), (vi t1.Frac), (vi t1.Round), (vi t1.Over)])]) Tryd.func38 rfl Tryd.ntmps38 rfl ?_
 have hI := Bun.start hF hc
 clear hc
 rw [m_value_ValidateType] at h
 refine sr ?_
 refine l_box (v := (Value.agg #[(vi t1.Kind), (vi t1.Bits), (vi t1.Frac), (vi t1.Round), (vi t1.Over)])) (cs := #[(vi t1.Kind), (vi t1.Bits), (vi t1.Frac), (vi t1.Round), (vi t1.Over)]) hI gn rfl rfl et rfl ?_
 clear hI; intro b1 c1 w1 hI
 obtain ⟨c2, hI⟩ := hI.relBox .z
 refine sac ?_
 refine nk ?_
 refine c_seq ?_
 refine sr ?_
 refine sq (y_fieldAddr rfl et Tryd.underlying23 rfl size_3 rfl) ?_
 refine sq (y_load1 (v := (vi t1.Kind)) rfl et Tryd.underlying3 rfl (hI.kblk (l := [(vi t1.Kind)]) .z rfl).1) ?_
 refine nk ?_
 refine c_block ?_
 refine c_join (α := Bool) (fun _ => ⟨15, []⟩) (fun x => [(1, (vp b1 0)), (4, (vi t1.Kind)), (5, (vb x))]) (fun x => fun w => ∃ C, Bun noM F w0 C w [] [Cl.blk b1 23 #[(vi t1.Kind), (vi t1.Bits), (vi t1.Frac), (vi t1.Round), (vi t1.Over)]] ∧ m_value_ValidateType_j1 t1 x = some r) ?_ ?_
 ·clear h hI; rintro i1 w2 ⟨c3, hI, h⟩
  try dsimp only at hI h
  rw [m_value_ValidateType_j1] at h
  refine c_sub (e := [(1, (vp b1 0)), (4, (vi t1.Kind)), (5, (vb i1))]) ⟨rfl, rfl, rfl, trivial⟩ ?_
  refine c_cond (b := i1) et (fun hb => ?_) (fun hb => ?_)
  ·replace h := ite_t hb h
   refine sr ?_
   refine sq (y_loadN (l := [(vi t1.Kind), (vi t1.Bits), (vi t1.Frac), (vi t1.Round), (vi t1.Over)]) rfl et Tryd.underlying23 rfl size_23 (hI.kblk (l := [(vi t1.Kind), (vi t1.Bits), (vi t1.Frac), (vi t1.Round), (vi t1.Over)]) .z rfl).1) ?_
   obtain ⟨r1, hx1, h⟩ := bnd_some h
   refine s_call gn rfl (r_callF (vs := [(Value.agg #[(vi t1.Kind), (vi t1.Bits), (vi t1.Frac), (vi t1.Round), (vi t1.Over)])]) rfl ok_52 ⟨et, trivial⟩) (Calls.mono (c_value_plain (Dj F c3) w2 hI.lt t1 trivial r1 hx1) ?_)
   rintro _ w3 ⟨rfl, hx2, hl1⟩
   refine ⟨_, rfl, ?_⟩
   replace hI := (hI.ext hx2)
   refine nk ?_
   refine c_cond (b := r1) et (fun hb => ?_) (fun hb => ?_)
   ·replace h := ite_t hb h
    refine sr ?_
    refine sac ?_
    refine nk ?_
    refine c_ret ?_
    obtain rfl := some_inj h
    exact q_ret (vs := [(vi 0)]) Tryd.results38 ⟨ev_tmp rfl rfl, trivial⟩ ⟨rfl, hI.ext0, hI.fin trivial⟩
   ·replace h := ite_f hb h
    refine c_skip ?_
    refine k_same ?_
    refine sr ?_
    refine sac ?_
    refine nk ?_
    refine c_ret ?_
    obtain rfl := some_inj h
    exact q_ret (vs := [(vi 10)]) Tryd.results38 ⟨ev_tmp rfl rfl, trivial⟩ ⟨rfl, hI.ext0, hI.fin trivial⟩
  ·replace h := ite_f hb h
   refine sr ?_
   refine sq (y_eql rfl et ev_const) ?_
   refine sa ?_
   refine nk ?_
   refine c_cond (b := decide (t1.Kind = 2)) et (fun hb => ?_) (fun hb => ?_)
   ·replace h := ite_t hb h
    refine sr ?_
    refine sq (y_loadN (l := [(vi t1.Kind), (vi t1.Bits), (vi t1.Frac), (vi t1.Round), (vi t1.Over)]) rfl et Tryd.underlying23 rfl size_23 (hI.kblk (l := [(vi t1.Kind), (vi t1.Bits), (vi t1.Frac), (vi t1.Round), (vi t1.Over)]) .z rfl).1) ?_
    obtain ⟨r2, hx3, h⟩ := bnd_some h
    refine s_call gn rfl (r_callF (vs := [(Value.agg #[(vi t1.Kind), (vi t1.Bits), (vi t1.Frac), (vi t1.Round), (vi t1.Over)])]) rfl ok_53 ⟨et, trivial⟩) (Calls.mono (c_fixed_ValidateType (Dj F c3) w2 hI.lt t1 trivial r2 hx3) ?_)
    rintro _ w4 ⟨rfl, hx4, hl2⟩
    refine ⟨_, rfl, ?_⟩
    replace hI := (hI.ext hx4)
    refine sq (y_eql rfl et ev_const) ?_
    refine nk ?_
    refine c_cond (b := decide (r2 = 0)) et (fun hb => ?_) (fun hb => ?_)
    ·replace h := ite_t hb h
     refine sr ?_
     refine sac ?_
     refine nk ?_
     refine c_ret ?_
     obtain rfl := some_inj h
     exact q_ret (vs := [(vi 0)]) Tryd.results38 ⟨ev_tmp rfl rfl, trivial⟩ ⟨rfl, hI.ext0, hI.fin trivial⟩
    ·replace h := ite_f hb h
     refine c_skip ?_
     refine k_same ?_
     refine sr ?_
     refine sac ?_
     refine nk ?_
     refine c_ret ?_
     obtain rfl := some_inj h
     exact q_ret (vs := [(vi 10)]) Tryd.results38 ⟨ev_tmp rfl rfl, trivial⟩ ⟨rfl, hI.ext0, hI.fin trivial⟩
   ·replace h := ite_f hb h
    refine c_skip ?_
    refine k_same ?_
    refine sr ?_
    refine sac ?_
    refine nk ?_
    refine c_ret ?_
    obtain rfl := some_inj h
    exact q_ret (vs := [(vi 10)]) Tryd.results38 ⟨ev_tmp rfl rfl, trivial⟩ ⟨rfl, hI.ext0, hI.fin trivial⟩
 ·skip
  refine sr ?_
  refine sq (y_eql rfl et ev_const) ?_
  refine sa ?_
  refine nk ?_
  refine c_cond (b := decide (t1.Kind = 1)) et (fun hb => ?_) (fun hb => ?_)
  ·replace h := ite_t hb h
   refine c_skip ?_
   exact k_join (decide (t1.Kind = 1)) ⟨rfl, rfl, rfl, trivial⟩ ⟨_, hI.arr .n ⟨.z, trivial⟩, h⟩ rfl
  ·replace h := ite_f hb h
   refine c_region rfl ?_
   refine sq (y_eql rfl et ev_const) ?_
   refine sa ?_
   refine s_nil ?_
   exact k_join (decide (t1.Kind = 3)) ⟨rfl, rfl, rfl, trivial⟩ ⟨_, hI.arr .n ⟨.z, trivial⟩, h⟩ rfl
set_option maxRecDepth 100000 in
set_option maxHeartbeats 4000000 in
theorem c_shape_Validate (F : NP) (w0 : World) (hF : ∀ k, F k → k < w0.heap.size) (d1 : List Int) (a1 : Option Addr) (c1 : Nat) (hc : AllCl [Cl.sl (cInt .i64) a1 c1 d1] F w0) (r : Int)
  (h : m_shape_Validate d1 = some r) :
  Calls Tryd.prog 42 #[(vs a1 d1.length c1)] w0 fun e w => e = .returned (vi r) ∧ Ext w0 w ∧ AllCl [] F w := by
 refine enterK (l := [(vs a1 d1.length c1)]) Tryd.func42 rfl Tryd.ntmps42 rfl ?_
 have hI := Bun.start hF hc
 clear hc
 rw [m_shape_Validate] at h
 refine sr ?_
 refine sac ?_
 refine nk ?_
 refine c_seq ?_
 refine sr ?_
 refine sm ?_
 refine sq (y_lenl rfl Tryd.underlying24 et) ?_
 refine sq (y_gtr rfl et ev_const) ?_
 refine nk ?_
 refine c_cond (b := decide (6 < (d1.length : Int))) et (fun hb => ?_) (fun hb => ?_)
 ·replace h := ite_t hb h
  refine sr ?_
  refine sac ?_
  refine nk ?_
  refine c_ret ?_
  obtain rfl := some_inj h
  exact q_ret (vs := [(vi 2)]) Tryd.results42 ⟨ev_tmp rfl rfl, trivial⟩ ⟨rfl, hI.ext0, hI.fin trivial⟩
 ·replace h := ite_f hb h
  refine c_skip ?_
  refine k_same ?_
  refine c_join (α := Unit) (fun _ => ⟨34, []⟩) (fun _ => [(0, (vs a1 d1.length c1))]) (fun _ => fun w => ∃ C, Bun noM F w0 C w [] [Cl.sl (cInt .i64) a1 c1 d1] ∧ m_shape_Validate_j1 d1 = some r) ?_ ?_
  ·clear h hI; rintro _ w1 ⟨c2, hI, h⟩
   try dsimp only at hI h
   rw [m_shape_Validate_j1] at h
   refine c_sub (e := [(0, (vs a1 d1.length c1))]) ⟨rfl, trivial⟩ ?_
   refine sr ?_
   refine sac ?_
   refine nk ?_
   refine c_seq ?_
   refine sr ?_
   refine sm ?_
   refine sq (y_lenl rfl Tryd.underlying24 et) ?_
   refine sq (y_move rfl ev_const) ?_
   refine nk ?_
   refine c_block ?_
   refine c_loop (α := Nat × Int × Int) (fun x => fun w => ∃ C, Bun noM F w0 C w [] [Cl.sl (cInt .i64) a1 c1 d1] ∧ m_shape_Validate_l1 d1 (x.1) (x.2.1) (x.2.2) = some r) (fun x _ => x.1) (fun x => [(5, (vi (x.2.1))), (20, (vs a1 d1.length c1)), (21, (vi (d1.length : Int))), (22, (vi (x.2.2)))]) (fu, 1, 0) ⟨_, hI.arr .n ⟨.z, trivial⟩, h⟩ ⟨rfl, rfl, rfl, rfl, trivial⟩ ?_
   clear h hI; rintro ⟨fuel1, size1, i1⟩ w2 ⟨c3, hI, h⟩
   dsimp only at hI h
   rcases fuel1 with _ | fuel1
   ·rw [m_shape_Validate_l1] at h; cases h
   rw [m_shape_Validate_l1] at h
   refine c_sub (e := [(5, (vi size1)), (20, (vs a1 d1.length c1)), (21, (vi (d1.length : Int))), (22, (vi i1))]) ⟨rfl, rfl, rfl, rfl, trivial⟩ ?_
   refine sr ?_
   refine sq (y_lss rfl et et) ?_
   refine nk ?_
   refine c_seq ?_
   refine c_cond (b := decide (i1 < (d1.length : Int))) et (fun hb => ?_) (fun hb => ?_)
   ·replace h := ite_t hb h
    refine c_skip ?_
    refine k_same ?_
    refine c_seq ?_
    refine c_block ?_
    refine sr ?_
    obtain ⟨e1, hx1, h⟩ := bnd_some h
    obtain ⟨ad1, cs1, hA1, hr1, hq1⟩ := hI.clat .z hx1
    obtain rfl : cs1 = [(vi e1)] := hr1
    refine sq (y_indexAddr rfl Tryd.underlying24 size_3 et et (lat_bd hx1) hA1) ?_
    refine sq (y_load1 (v := (vi e1)) rfl et Tryd.underlying3 rfl hq1.1) ?_
    refine sa ?_
    refine nk ?_
    refine c_seq ?_
    refine sr ?_
    refine sm ?_
    refine sm ?_
    obtain ⟨ho1, h⟩ := chk_some h
    refine sq (y_quo rfl ev_const et ho1) ?_
    refine sq (y_gtr rfl et et) ?_
    refine nk ?_
    refine c_cond (b := decide (wi64 (Int.tdiv 4096 size1) < e1)) et (fun hb => ?_) (fun hb => ?_)
    ·replace h := ite_t hb h
     refine sr ?_
     refine sac ?_
     refine nk ?_
     refine c_ret ?_
     obtain rfl := some_inj h
     exact q_ret (vs := [(vi 2)]) Tryd.results42 ⟨ev_tmp rfl rfl, trivial⟩ ⟨rfl, hI.ext0, hI.fin trivial⟩
    ·replace h := ite_f hb h
     refine c_skip ?_
     refine k_same ?_
     refine c_region rfl ?_
     refine sm ?_
     refine sm ?_
     refine sq (y_mul rfl et et) ?_
     refine sa ?_
     refine nk ?_
     refine c_region rfl ?_
     refine sq (y_add rfl et ev_const) ?_
     refine sm ?_
     refine s_nil ?_
     exact k_loop (fuel1, wi64 (size1 * e1), wi64 (i1 + 1)) ⟨rfl, rfl, rfl, rfl, trivial⟩ ⟨_, hI.arr .n ⟨.z, trivial⟩, h⟩ (Nat.lt_succ_self _)
   ·replace h := ite_f hb h
    refine c_exit ?_
    refine k_in ?_
    refine k_same ?_
    refine sr ?_
    refine sac ?_
    refine nk ?_
    refine c_ret ?_
    obtain rfl := some_inj h
    exact q_ret (vs := [(vi 0)]) Tryd.results42 ⟨ev_tmp rfl rfl, trivial⟩ ⟨rfl, hI.ext0, hI.fin trivial⟩
  ·skip
   refine sr ?_
   refine sm ?_
   refine sq (y_lenl rfl Tryd.underlying24 et) ?_
   refine sq (y_move rfl ev_const) ?_
   refine nk ?_
   refine c_block ?_
   refine c_loop (α := Nat × Int) (fun x => fun w => ∃ C, Bun noM F w0 C w [] [Cl.sl (cInt .i64) a1 c1 d1] ∧ m_shape_Validate_l2 d1 (x.1) (x.2) = some r) (fun x _ => x.1) (fun x => [(0, (vs a1 d1.length c1)), (11, (vs a1 d1.length c1)), (12, (vi (d1.length : Int))), (13, (vi (x.2)))]) (fu, 0) ⟨_, hI.arr .n ⟨.z, trivial⟩, h⟩ ⟨rfl, rfl, rfl, rfl, trivial⟩ ?_
   clear h hI; rintro ⟨fuel2, i2⟩ w3 ⟨c4, hI, h⟩
   dsimp only at hI h
   rcases fuel2 with _ | fuel2
   ·rw [m_shape_Validate_l2] at h; cases h
   rw [m_shape_Validate_l2] at h
   refine c_sub (e := [(0, (vs a1 d1.length c1)), (11, (vs a1 d1.length c1)), (12, (vi (d1.length : Int))), (13, (vi i2))]) ⟨rfl, rfl, rfl, rfl, trivial⟩ ?_
   refine sr ?_
   refine sq (y_lss rfl et et) ?_
   refine nk ?_
   refine c_seq ?_
   refine c_cond (b := decide (i2 < (d1.length : Int))) et (fun hb => ?_) (fun hb => ?_)
   ·replace h := ite_t hb h
    refine c_skip ?_
    refine k_same ?_
    refine c_seq ?_
    refine c_block ?_
    refine sr ?_
    obtain ⟨e2, hx2, h⟩ := bnd_some h
    obtain ⟨ad2, cs2, hA2, hr2, hq2⟩ := hI.clat .z hx2
    obtain rfl : cs2 = [(vi e2)] := hr2
    refine sq (y_indexAddr rfl Tryd.underlying24 size_3 et et (lat_bd hx2) hA2) ?_
    refine sq (y_load1 (v := (vi e2)) rfl et Tryd.underlying3 rfl hq2.1) ?_
    refine sa ?_
    refine nk ?_
    refine sr ?_
    refine sm ?_
    refine sq (y_lss rfl et ev_const) ?_
    refine nk ?_
    refine c_cond (b := decide (e2 < 1)) et (fun hb => ?_) (fun hb => ?_)
    ·replace h := ite_t hb h
     refine sr ?_
     refine sac ?_
     refine nk ?_
     refine c_ret ?_
     obtain rfl := some_inj h
     exact q_ret (vs := [(vi 1)]) Tryd.results42 ⟨ev_tmp rfl rfl, trivial⟩ ⟨rfl, hI.ext0, hI.fin trivial⟩
    ·replace h := ite_f hb h
     refine c_skip ?_
     refine k_same ?_
     refine c_region rfl ?_
     refine sq (y_add rfl et ev_const) ?_
     refine sm ?_
     refine s_nil ?_
     exact k_loop (fuel2, wi64 (i2 + 1)) ⟨rfl, rfl, rfl, rfl, trivial⟩ ⟨_, hI.arr .n ⟨.z, trivial⟩, h⟩ (Nat.lt_succ_self _)
   ·replace h := ite_f hb h
    refine c_exit ?_
    refine k_in ?_
    exact k_join () ⟨rfl, trivial⟩ ⟨_, hI.arr .n ⟨.z, trivial⟩, h⟩ rfl
set_option maxRecDepth 100000 in
set_option maxHeartbeats 4000000 in
theorem c_shape_Size (F : NP) (w0 : World) (hF : ∀ k, F k → k < w0.heap.size) (d1 : List Int) (a1 : Option Addr) (c1 : Nat) (hc : AllCl [Cl.sl (cInt .i64) a1 c1 d1] F w0) (r : Int)
  (h : m_shape_Size d1 = some r) :
  Calls Tryd.prog 43 #[(vs a1 d1.length c1)] w0 fun e w => e = .returned (vi r) ∧ Ext w0 w ∧ AllCl [] F w := by
 refine enterK (l := [(vs a1 d1.length c1)]) Tryd.func43 rfl Tryd.ntmps43 rfl ?_
 have hI := Bun.start hF hc
 clear hc
 rw [m_shape_Size] at h
 refine sr ?_
 refine sac ?_
 refine nk ?_
 refine c_seq ?_
 refine sr ?_
 refine sm ?_
 obtain ⟨r1, hx1, h⟩ := bnd_some h
 refine s_call gn rfl (r_callF (vs := [(vs a1 d1.length c1)]) rfl ok_42 ⟨et, trivial⟩) (Calls.mono (c_shape_Validate (Dj F noM) w0 hI.lt d1 a1 c1 ⟨(hI.get .z), trivial⟩ r1 hx1) ?_)
 rintro _ w1 ⟨rfl, hx2, hl1⟩
 refine ⟨_, rfl, ?_⟩
 replace hI := (hI.ext hx2)
 refine sq (y_neq rfl et ev_const) ?_
 refine nk ?_
 refine c_cond (b := !decide (r1 = 0)) et (fun hb => ?_) (fun hb => ?_)
 ·replace h := ite_t hb h
  refine sr ?_
  refine sac ?_
  refine nk ?_
  refine c_ret ?_
  obtain rfl := some_inj h
  exact q_ret (vs := [(vi 0)]) Tryd.results43 ⟨ev_tmp rfl rfl, trivial⟩ ⟨rfl, hI.ext0, hI.fin trivial⟩
 ·replace h := ite_f hb h
  refine c_skip ?_
  refine k_same ?_
  refine sr ?_
  refine sac ?_
  refine nk ?_
  refine c_seq ?_
  refine sr ?_
  refine sm ?_
  refine sq (y_lenl rfl Tryd.underlying24 et) ?_
  refine sq (y_move rfl ev_const) ?_
  refine nk ?_
  refine c_block ?_
  refine c_loop (α := Nat × Int × Int) (fun x => fun w => ∃ C, Bun noM F w0 C w [] [Cl.sl (cInt .i64) a1 c1 d1] ∧ m_shape_Size_l1 d1 (x.1) (x.2.1) (x.2.2) = some r) (fun x _ => x.1) (fun x => [(3, (vi (x.2.1))), (9, (vs a1 d1.length c1)), (10, (vi (d1.length : Int))), (11, (vi (x.2.2)))]) (fu, 1, 0) ⟨_, hI.arr .n ⟨.z, trivial⟩, h⟩ ⟨rfl, rfl, rfl, rfl, trivial⟩ ?_
  clear h hI; rintro ⟨fuel1, size1, i1⟩ w2 ⟨c2, hI, h⟩
  dsimp only at hI h
  rcases fuel1 with _ | fuel1
  ·rw [m_shape_Size_l1] at h; cases h
  rw [m_shape_Size_l1] at h
  refine c_sub (e := [(3, (vi size1)), (9, (vs a1 d1.length c1)), (10, (vi (d1.length : Int))), (11, (vi i1))]) ⟨rfl, rfl, rfl, rfl, trivial⟩ ?_
  refine sr ?_
  refine sq (y_lss rfl et et) ?_
  refine nk ?_
  refine c_seq ?_
  refine c_cond (b := decide (i1 < (d1.length : Int))) et (fun hb => ?_) (fun hb => ?_)
  ·replace h := ite_t hb h
   refine c_skip ?_
   refine k_same ?_
   refine c_seq ?_
   refine c_block ?_
   refine sr ?_
   obtain ⟨e1, hx3, h⟩ := bnd_some h
   obtain ⟨ad1, cs1, hA1, hr1, hq1⟩ := hI.clat .z hx3
   obtain rfl : cs1 = [(vi e1)] := hr1
   refine sq (y_indexAddr rfl Tryd.underlying24 size_3 et et (lat_bd hx3) hA1) ?_
   refine sq (y_load1 (v := (vi e1)) rfl et Tryd.underlying3 rfl hq1.1) ?_
   refine sa ?_
   refine nk ?_
   refine c_region rfl ?_
   refine sm ?_
   refine sm ?_
   refine sq (y_mul rfl et et) ?_
   refine sa ?_
   refine nk ?_
   refine c_region rfl ?_
   refine sq (y_add rfl et ev_const) ?_
   refine sm ?_
   refine s_nil ?_
   exact k_loop (fuel1, wi64 (size1 * e1), wi64 (i1 + 1)) ⟨rfl, rfl, rfl, rfl, trivial⟩ ⟨_, hI.arr .n ⟨.z, trivial⟩, h⟩ (Nat.lt_succ_self _)
  ·replace h := ite_f hb h
   refine c_exit ?_
   refine k_in ?_
   refine k_same ?_
   refine sr ?_
   refine sm ?_
   refine sa ?_
   refine nk ?_
   refine c_ret ?_
   obtain rfl := some_inj h
   exact q_ret (vs := [(vi size1)]) Tryd.results43 ⟨ev_tmp rfl rfl, trivial⟩ ⟨rfl, hI.ext0, hI.fin trivial⟩
set_option maxRecDepth 100000 in
set_option maxHeartbeats 4000000 in
theorem c_round_valid (F : NP) (w0 : World) (hF : ∀ k, F k → k < w0.heap.size) (bits1 : Int) (hc : AllCl [] F w0) (r : Bool)
  (h : m_round_valid bits1 = some r) :
  Calls Tryd.prog 66 #[(vi bits1)] w0 fun e w => e = .returned (vb r) ∧ Ext w0 w ∧ AllCl [] F w := by
 refine enterK (l := [(vi bits1)]) Tryd.func66 rfl Tryd.ntmps66 rfl ?_
 have hI := Bun.start hF hc
 clear hc
 rw [m_round_valid] at h
 refine sr ?_
 refine sac ?_
 refine nk ?_
 refine sr ?_
 refine sm ?_
 refine sq (y_geq rfl et ev_const) ?_
 refine sm ?_
 refine s_gval (g_true rfl rfl rfl rfl) rfl (fun hc => (y_move rfl et)) ?_
 refine s_gval (g_true rfl rfl rfl rfl) rfl (fun hc => (y_leq rfl (ev_gv et hc) ev_const)) ?_
 refine sq (y_and rfl et et) ?_
 refine sa ?_
 refine nk ?_
 refine c_ret ?_
 obtain rfl := some_inj h
 exact q_ret (vs := [(vb ((decide (2 ≤ bits1)) && (decide (bits1 ≤ 31))))]) Tryd.results66 ⟨ev_tmp rfl rfl, trivial⟩ ⟨rfl, hI.ext0, hI.fin trivial⟩
set_option maxRecDepth 100000 in
set_option maxHeartbeats 4000000 in
theorem c_round_MinInt (F : NP) (w0 : World) (hF : ∀ k, F k → k < w0.heap.size) (bits1 : Int) (hc : AllCl [] F w0) (r : Int)
  (h : m_round_MinInt bits1 = some r) :
  Calls Tryd.prog 54 #[(vi bits1)] w0 fun e w => e = .returned (vi r) ∧ Ext w0 w ∧ AllCl [] F w := by
 refine enterK (l := [(vi bits1)]) Tryd.func54 rfl Tryd.ntmps54 rfl ?_
 have hI := Bun.start hF hc
 clear hc
 rw [m_round_MinInt] at h
 refine sr ?_
 refine sac ?_
 refine nk ?_
 refine c_seq ?_
 refine sr ?_
 refine sm ?_
 obtain ⟨r1, hx1, h⟩ := bnd_some h
 refine s_call gn rfl (r_callF (vs := [(vi bits1)]) rfl ok_66 ⟨et, trivial⟩) (Calls.mono (c_round_valid (Dj F noM) w0 hI.lt bits1 trivial r1 hx1) ?_)
 rintro _ w1 ⟨rfl, hx2, hl1⟩
 refine ⟨_, rfl, ?_⟩
 replace hI := (hI.ext hx2)
 refine sq (y_not rfl et) ?_
 refine nk ?_
 refine c_cond (b := !r1) et (fun hb => ?_) (fun hb => ?_)
 ·replace h := ite_t hb h
  refine sr ?_
  refine sac ?_
  refine nk ?_
  refine c_ret ?_
  obtain rfl := some_inj h
  exact q_ret (vs := [(vi 0)]) Tryd.results54 ⟨ev_tmp rfl rfl, trivial⟩ ⟨rfl, hI.ext0, hI.fin trivial⟩
 ·replace h := ite_f hb h
  refine c_skip ?_
  refine k_same ?_
  refine sr ?_
  refine sm ?_
  refine sq (y_sub rfl et ev_const) ?_
  refine sq (y_conv rfl (by rw [Tryd.underlying3]; rfl) Tryd.underlying92 et) ?_
  obtain ⟨ho1, h⟩ := chk_some h
  refine sq (y_shl rfl ev_const et ho1) ?_
  refine sq (y_neg rfl et) ?_
  refine sa ?_
  refine nk ?_
  refine c_ret ?_
  obtain rfl := some_inj h
  exact q_ret (vs := [(vi (wi64 (-(wi64 (1 * 2 ^ (min (Int.toNat (wu64 (wi64 (bits1 - 1)))) 64))))))]) Tryd.results54 ⟨ev_tmp rfl rfl, trivial⟩ ⟨rfl, hI.ext0, hI.fin trivial⟩
set_option maxRecDepth 100000 in
set_option maxHeartbeats 4000000 in
theorem c_round_MaxInt (F : NP) (w0 : World) (hF : ∀ k, F k → k < w0.heap.size) (bits1 : Int) (hc : AllCl [] F w0) (r : Int)
  (h : m_round_MaxInt bits1 = some r) :
  Calls Tryd.prog 55 #[(vi bits1)] w0 fun e w => e = .returned (vi r) ∧ Ext w0 w ∧ AllCl [] F w := by
 refine enterK (l := [(vi bits1)]) Tryd.func55 rfl Tryd.ntmps55 rfl ?_
 have hI := Bun.start hF hc
 clear hc
 rw [m_round_MaxInt] at h
 refine sr ?_
 refine sac ?_
 refine nk ?_
 refine c_seq ?_
 refine sr ?_
 refine sm ?_
 obtain ⟨r1, hx1, h⟩ := bnd_some h
 refine s_call gn rfl (r_callF (vs := [(vi bits1)]) rfl ok_66 ⟨et, trivial⟩) (Calls.mono (c_round_valid (Dj F noM) w0 hI.lt bits1 trivial r1 hx1) ?_)
 rintro _ w1 ⟨rfl, hx2, hl1⟩
 refine ⟨_, rfl, ?_⟩
 replace hI := (hI.ext hx2)
 refine sq (y_not rfl et) ?_
 refine nk ?_
 refine c_cond (b := !r1) et (fun hb => ?_) (fun hb => ?_)
 ·replace h := ite_t hb h
  refine sr ?_
  refine sac ?_
  refine nk ?_
  refine c_ret ?_
  obtain rfl := some_inj h
  exact q_ret (vs := [(vi 0)]) Tryd.results55 ⟨ev_tmp rfl rfl, trivial⟩ ⟨rfl, hI.ext0, hI.fin trivial⟩
 ·replace h := ite_f hb h
  refine c_skip ?_
  refine k_same ?_
  refine sr ?_
  refine sm ?_
  refine sq (y_sub rfl et ev_const) ?_
  refine sq (y_conv rfl (by rw [Tryd.underlying3]; rfl) Tryd.underlying92 et) ?_
  obtain ⟨ho1, h⟩ := chk_some h
  refine sq (y_shl rfl ev_const et ho1) ?_
  refine sq (y_sub rfl et ev_const) ?_
  refine sa ?_
  refine nk ?_
  refine c_ret ?_
  obtain rfl := some_inj h
  exact q_ret (vs := [(vi (wi64 ((wi64 (1 * 2 ^ (min (Int.toNat (wu64 (wi64 (bits1 - 1)))) 64))) - 1)))]) Tryd.results55 ⟨ev_tmp rfl rfl, trivial⟩ ⟨rfl, hI.ext0, hI.fin trivial⟩
set_option maxRecDepth 100000 in
set_option maxHeartbeats 4000000 in
theorem c_fixed_Valid (F : NP) (w0 : World) (hF : ∀ k, F k → k < w0.heap.size) (t1 : GType) (v1 : GVal) (hc : AllCl [] F w0) (r : Bool)
  (h : m_fixed_Valid t1 v1 = some r) :
  Calls Tryd.prog 39 #[(Value.agg #[(vi t1.Kind), (vi t1.Bits), (vi t1.Frac), (vi t1.Round), (vi t1.Over)]), (Value.agg #[(vi v1.N), (vi v1.D)])] w0 fun e w => e = .returned (vb r) ∧ Ext w0 w ∧ AllCl [] F w := by
 refine enterK (l := [(Value.agg #[(vi t1.Kind), (vi t1.Bits), (vi t1.Frac), (vi t1.Round), (vi t1.Over)]), (Value.agg #[(vi v1.N), (vi v1.D)])]) Tryd.func39 rfl Tryd.ntmps39 rfl ?_
 have hI := Bun.start hF hc
 clear hc
 rw [m_fixed_Valid] at h
 refine sr ?_
 refine l_box (v := (Value.agg #[(vi t1.Kind), (vi t1.Bits), (vi t1.Frac), (vi t1.Round), (vi t1.Over)])) (cs := #[(vi t1.Kind), (vi t1.Bits), (vi t1.Frac), (vi t1.Round), (vi t1.Over)]) hI gn rfl rfl et rfl ?_
 clear hI; intro b1 c1 w1 hI
 obtain ⟨c2, hI⟩ := hI.relBox .z
 refine l_box (v := (Value.agg #[(vi v1.N), (vi v1.D)])) (cs := #[(vi v1.N), (vi v1.D)]) hI gn rfl rfl et rfl ?_
 clear hI; intro b2 c3 w2 hI
 obtain ⟨c4, hI⟩ := hI.relBox .z
 refine sac ?_
 refine nk ?_
 refine c_seq ?_
 refine c_drawX [] false (.c (0, .q) (.c (1, .s) (.c (2, .q) (.c (3, .q) (.c (4, .q) (.c (5, .q) (.c (6, .q) (.c (7, .q) (.c (8, .q) (.c (9, .q) (.c (10, .q) (.c (11, .q) (.c (12, .q) (.c (13, .s) (.c (14, .q) (.c (15, .q) (.c (16, .q) (.c (17, .q) (.c (18, .q) (.c (19, .q) (.c (20, .q) (.c (21, .s) (.c (22, .q) (.c (23, .q) (.c (24, .q) .n))))))))))))))))))))))))) hI (by kernel_rfl) (by kernel_rfl) ?_
 clear hI; intro w3 hI
 refine a_read rfl gn rfl (fun w' hw' => (y_loadN (l := [(vi t1.Kind), (vi t1.Bits), (vi t1.Frac), (vi t1.Round), (vi t1.Over)]) rfl et Tryd.underlying23 rfl size_23 ((hI.kblk (l := [(vi t1.Kind), (vi t1.Bits), (vi t1.Frac), (vi t1.Round), (vi t1.Over)]) (.s .z) rfl).at_ (SX.any rfl hw')))) (by kernel_rfl) ?_
 obtain ⟨r1, hx1, h⟩ := bnd_some h
 refine la_call rfl gn rfl (r_callF (vs := [(Value.agg #[(vi t1.Kind), (vi t1.Bits), (vi t1.Frac), (vi t1.Round), (vi t1.Over)])]) rfl ok_53 ⟨et, trivial⟩) (Calls.mono (c_fixed_ValidateType (Dj F c4) w3 hI.lt t1 trivial r1 hx1) ?_)
 rintro _ w4 ⟨rfl, hx2, hl1⟩
 refine ⟨_, rfl, hx2, ?_⟩
 replace hI := (hI.ext hx2)
 refine a_q rfl gn rfl (fun w' => (y_eql rfl et ev_const)) ?_
 refine a_q rfl gn rfl (fun w' => (y_move rfl et)) ?_
 refine a_gval rfl (g_true rfl rfl rfl rfl) rfl (fun hc => fun w' => (y_fieldAddr rfl et Tryd.underlying29 rfl size_2 rfl)) ?_
 refine a_gread rfl (g_true rfl rfl rfl rfl) rfl (fun hc => fun w' hw' => (y_load1 (v := (vi v1.D)) rfl (ev_gv et hc) Tryd.underlying2 rfl ((hI.kblk (l := [(vi v1.D)]) .z rfl).at_ (SX.any rfl hw')))) (by kernel_rfl) ?_
 refine a_gval rfl (g_true rfl rfl rfl rfl) rfl (fun hc => fun w' => (y_eql rfl (ev_gv et hc) ev_const)) ?_
 refine a_q rfl gn rfl (fun w' => (y_and rfl et et)) ?_
 refine a_q rfl gn rfl (fun w' => (y_move rfl et)) ?_
 refine a_gval rfl (g_true rfl rfl rfl rfl) rfl (fun hc => fun w' => (y_fieldAddr rfl et Tryd.underlying29 rfl size_2 rfl)) ?_
 refine a_gread rfl (g_true rfl rfl rfl rfl) rfl (fun hc => fun w' hw' => (y_load1 (v := (vi v1.N)) rfl (ev_gv et hc) Tryd.underlying2 rfl ((hI.kblk (l := [(vi v1.N)]) .z rfl).at_ (SX.any rfl hw')))) (by kernel_rfl) ?_
 refine a_gval rfl (g_true rfl rfl rfl rfl) rfl (fun hc => fun w' => (y_fieldAddr rfl et Tryd.underlying23 rfl size_3 rfl)) ?_
 refine a_gread rfl (g_true rfl rfl rfl rfl) rfl (fun hc => fun w' hw' => (y_load1 (v := (vi t1.Bits)) rfl (ev_gv et hc) Tryd.underlying3 rfl ((hI.kblk (l := [(vi t1.Bits)]) (.s .z) rfl).at_ (SX.any rfl hw')))) (by kernel_rfl) ?_
 obtain ⟨r2, hx3, h⟩ := bnd_some h
 replace hx3 := gd_some hx3
 refine la_gcallU (v := (vi r2)) rfl (g_true rfl rfl rfl rfl) rfl (fun hc => (r_callF (vs := [(vi t1.Bits)]) rfl ok_54 ⟨(ev_gv et hc), trivial⟩)) (fun hc => (c_round_MinInt (Dj F c4) w4 hI.lt t1.Bits trivial r2 (hx3 hc)).mono fun _ _ k => ⟨k.1, k.2.1⟩) ?_
 intro w5 hx4; replace hI := hI.ext hx4
 refine a_gval rfl (g_true rfl rfl rfl rfl) rfl (fun hc => fun w' => (y_geq rfl (ev_gv et hc) (ev_gv et hc))) ?_
 refine a_q rfl gn rfl (fun w' => (y_and rfl et et)) ?_
 refine a_q rfl gn rfl (fun w' => (y_move rfl et)) ?_
 refine a_gval rfl (g_true rfl rfl rfl rfl) rfl (fun hc => fun w' => (y_fieldAddr rfl et Tryd.underlying29 rfl size_2 rfl)) ?_
 refine a_gread rfl (g_true rfl rfl rfl rfl) rfl (fun hc => fun w' hw' => (y_load1 (v := (vi v1.N)) rfl (ev_gv et hc) Tryd.underlying2 rfl ((hI.kblk (l := [(vi v1.N)]) .z rfl).at_ (SX.any rfl hw')))) (by kernel_rfl) ?_
 refine a_gval rfl (g_true rfl rfl rfl rfl) rfl (fun hc => fun w' => (y_fieldAddr rfl et Tryd.underlying23 rfl size_3 rfl)) ?_
 refine a_gread rfl (g_true rfl rfl rfl rfl) rfl (fun hc => fun w' hw' => (y_load1 (v := (vi t1.Bits)) rfl (ev_gv et hc) Tryd.underlying3 rfl ((hI.kblk (l := [(vi t1.Bits)]) (.s .z) rfl).at_ (SX.any rfl hw')))) (by kernel_rfl) ?_
 obtain ⟨r3, hx5, h⟩ := bnd_some h
 replace hx5 := gd_some hx5
 refine la_gcallU (v := (vi r3)) rfl (g_true rfl rfl rfl rfl) rfl (fun hc => (r_callF (vs := [(vi t1.Bits)]) rfl ok_55 ⟨(ev_gv et hc), trivial⟩)) (fun hc => (c_round_MaxInt (Dj F c4) w5 hI.lt t1.Bits trivial r3 (hx5 hc)).mono fun _ _ k => ⟨k.1, k.2.1⟩) ?_
 intro w6 hx6; replace hI := hI.ext hx6
 refine a_gval rfl (g_true rfl rfl rfl rfl) rfl (fun hc => fun w' => (y_leq rfl (ev_gv et hc) (ev_gv et hc))) ?_
 refine a_q rfl gn rfl (fun w' => (y_and rfl et et)) ?_
 refine a_q rfl gn rfl (fun w' => (y_assign rfl et)) ?_
 refine a_nil ?_
 refine k_next (e := [(4, (vb ((((decide (r1 = 0)) && (decide (v1.D = 1))) && (decide (r2 ≤ v1.N))) && (decide (v1.N ≤ r3)))))]) ⟨rfl, trivial⟩ ?_
 refine c_ret ?_
 obtain rfl := some_inj h
 exact q_ret (vs := [(vb ((((decide (r1 = 0)) && (decide (v1.D = 1))) && (decide (r2 ≤ v1.N))) && (decide (v1.N ≤ r3))))]) Tryd.results39 ⟨ev_tmp rfl rfl, trivial⟩ ⟨rfl, hI.ext0, hI.fin trivial⟩
set_option maxRecDepth 100000 in
set_option maxHeartbeats 4000000 in
theorem c_value_whole (F : NP) (w0 : World) (hF : ∀ k, F k → k < w0.heap.size) (n1 : Int) (hc : AllCl [] F w0) (r : Bool)
  (h : m_value_whole n1 = some r) :
  Calls Tryd.prog 40 #[(vi n1)] w0 fun e w => e = .returned (vb r) ∧ Ext w0 w ∧ AllCl [] F w := by
 refine enterK (l := [(vi n1)]) Tryd.func40 rfl Tryd.ntmps40 rfl ?_
 have hI := Bun.start hF hc
 clear hc
 rw [m_value_whole] at h
 refine sr ?_
 refine sac ?_
 refine nk ?_
 refine sr ?_
 refine sm ?_
 refine sq (y_geq rfl et ev_const) ?_
 refine sm ?_
 refine s_gval (g_true rfl rfl rfl rfl) rfl (fun hc => (y_move rfl et)) ?_
 refine s_gval (g_true rfl rfl rfl rfl) rfl (fun hc => (y_leq rfl (ev_gv et hc) ev_const)) ?_
 refine sq (y_and rfl et et) ?_
 refine sa ?_
 refine nk ?_
 refine c_ret ?_
 obtain rfl := some_inj h
 exact q_ret (vs := [(vb ((decide ((-2147483647) ≤ n1)) && (decide (n1 ≤ 2147483647))))]) Tryd.results40 ⟨ev_tmp rfl rfl, trivial⟩ ⟨rfl, hI.ext0, hI.fin trivial⟩
set_option maxRecDepth 100000 in
set_option maxHeartbeats 4000000 in
theorem c_frac_inRange (F : NP) (w0 : World) (hF : ∀ k, F k → k < w0.heap.size) (n1 : Int) (hc : AllCl [] F w0) (r : Bool)
  (h : m_frac_inRange n1 = some r) :
  Calls Tryd.prog 56 #[(vi n1)] w0 fun e w => e = .returned (vb r) ∧ Ext w0 w ∧ AllCl [] F w := by
 refine enterK (l := [(vi n1)]) Tryd.func56 rfl Tryd.ntmps56 rfl ?_
 have hI := Bun.start hF hc
 clear hc
 rw [m_frac_inRange] at h
 refine sr ?_
 refine sac ?_
 refine nk ?_
 refine sr ?_
 refine sm ?_
 refine sq (y_geq rfl et ev_const) ?_
 refine sm ?_
 refine s_gval (g_true rfl rfl rfl rfl) rfl (fun hc => (y_move rfl et)) ?_
 refine s_gval (g_true rfl rfl rfl rfl) rfl (fun hc => (y_leq rfl (ev_gv et hc) ev_const)) ?_
 refine sq (y_and rfl et et) ?_
 refine sa ?_
 refine nk ?_
 refine c_ret ?_
 obtain rfl := some_inj h
 exact q_ret (vs := [(vb ((decide ((-2147483647) ≤ n1)) && (decide (n1 ≤ 2147483647))))]) Tryd.results56 ⟨ev_tmp rfl rfl, trivial⟩ ⟨rfl, hI.ext0, hI.fin trivial⟩
set_option maxRecDepth 100000 in
set_option maxHeartbeats 4000000 in
theorem c_frac_magnitude (F : NP) (w0 : World) (hF : ∀ k, F k → k < w0.heap.size) (n1 : Int) (hc : AllCl [] F w0) (r : Int)
  (h : m_frac_magnitude n1 = some r) :
  Calls Tryd.prog 58 #[(vi n1)] w0 fun e w => e = .returned (Value.int .u64 r) ∧ Ext w0 w ∧ AllCl [] F w := by
 refine enterK (l := [(vi n1)]) Tryd.func58 rfl Tryd.ntmps58 rfl ?_
 have hI := Bun.start hF hc
 clear hc
 rw [m_frac_magnitude] at h
 refine sr ?_
 refine sac ?_
 refine nk ?_
 refine c_seq ?_
 refine sr ?_
 refine sm ?_
 refine sq (y_lss rfl et ev_const) ?_
 refine nk ?_
 refine c_cond (b := decide (n1 < 0)) et (fun hb => ?_) (fun hb => ?_)
 ·replace h := ite_t hb h
  refine sr ?_
  refine sm ?_
  refine sq (y_conv rfl (by rw [Tryd.underlying2]; rfl) Tryd.underlying81 et) ?_
  refine sq (y_neg rfl et) ?_
  refine sa ?_
  refine nk ?_
  refine c_ret ?_
  obtain rfl := some_inj h
  exact q_ret (vs := [(Value.int .u64 (wu64 (-(wu64 n1))))]) Tryd.results58 ⟨ev_tmp rfl rfl, trivial⟩ ⟨rfl, hI.ext0, hI.fin trivial⟩
 ·replace h := ite_f hb h
  refine c_skip ?_
  refine k_same ?_
  refine sr ?_
  refine sm ?_
  refine sq (y_conv rfl (by rw [Tryd.underlying2]; rfl) Tryd.underlying81 et) ?_
  refine sa ?_
  refine nk ?_
  refine c_ret ?_
  obtain rfl := some_inj h
  exact q_ret (vs := [(Value.int .u64 (wu64 n1))]) Tryd.results58 ⟨ev_tmp rfl rfl, trivial⟩ ⟨rfl, hI.ext0, hI.fin trivial⟩
set_option maxRecDepth 100000 in
set_option maxHeartbeats 4000000 in
theorem c_frac_gcd (F : NP) (w0 : World) (hF : ∀ k, F k → k < w0.heap.size) (a1 : Int) (b1 : Int) (hc : AllCl [] F w0) (r : Int)
  (h : m_frac_gcd a1 b1 = some r) :
  Calls Tryd.prog 57 #[(Value.int .u64 a1), (Value.int .u64 b1)] w0 fun e w => e = .returned (Value.int .u64 r) ∧ Ext w0 w ∧ AllCl [] F w := by
 refine enterK (l := [(Value.int .u64 a1), (Value.int .u64 b1)]) Tryd.func57 rfl Tryd.ntmps57 rfl ?_
 have hI := Bun.start hF hc
 clear hc
 rw [m_frac_gcd] at h
 refine sr ?_
 refine sac ?_
 refine nk ?_
 refine c_seq ?_
 refine c_block ?_
 refine c_loop (α := Nat × Int × Int) (fun x => fun w => ∃ C, Bun noM F w0 C w [] [] ∧ m_frac_gcd_l1 (x.1) (x.2.1) (x.2.2) = some r) (fun x _ => x.1) (fun x => [(0, (Value.int .u64 (x.2.1))), (1, (Value.int .u64 (x.2.2)))]) (fu, a1, b1) ⟨_, hI.arr .n trivial, h⟩ ⟨rfl, rfl, trivial⟩ ?_
 clear h hI; rintro ⟨fuel1, a2, b2⟩ w1 ⟨c1, hI, h⟩
 dsimp only at hI h
 rcases fuel1 with _ | fuel1
 ·rw [m_frac_gcd_l1] at h; cases h
 rw [m_frac_gcd_l1] at h
 refine c_sub (e := [(0, (Value.int .u64 a2)), (1, (Value.int .u64 b2))]) ⟨rfl, rfl, trivial⟩ ?_
 refine c_seq ?_
 refine sr ?_
 refine sm ?_
 refine sq (y_neq rfl et ev_const) ?_
 refine nk ?_
 refine c_cond (b := !decide (b2 = 0)) et (fun hb => ?_) (fun hb => ?_)
 ·replace h := ite_t hb h
  refine c_skip ?_
  refine k_same ?_
  refine c_block ?_
  refine c_drawX [] false (.c (0, .q) (.c (1, .q) (.c (2, .q) (.c (3, .q) (.c (4, .q) (.c (5, .q) .n)))))) hI (by kernel_rfl) (by kernel_rfl) ?_
  clear hI; intro w2 hI
  refine a_q rfl gn rfl (fun w' => (y_move rfl et)) ?_
  refine a_q rfl gn rfl (fun w' => (y_move rfl et)) ?_
  refine a_q rfl gn rfl (fun w' => (y_move rfl et)) ?_
  obtain ⟨ho1, h⟩ := chk_some h
  refine a_q rfl gn rfl (fun w' => (y_rem rfl et et ho1)) ?_
  refine a_q rfl gn rfl (fun w' => (y_assign rfl et)) ?_
  refine a_q rfl gn rfl (fun w' => (y_assign rfl et)) ?_
  refine a_nil ?_
  exact k_loop (fuel1, b2, Int.tmod a2 b2) ⟨rfl, rfl, trivial⟩ ⟨_, hI.arr .n trivial, h⟩ (Nat.lt_succ_self _)
 ·replace h := ite_f hb h
  refine c_exit ?_
  refine k_in ?_
  refine k_same ?_
  refine sr ?_
  refine sm ?_
  refine sa ?_
  refine nk ?_
  refine c_ret ?_
  obtain rfl := some_inj h
  exact q_ret (vs := [(Value.int .u64 a2)]) Tryd.results57 ⟨ev_tmp rfl rfl, trivial⟩ ⟨rfl, hI.ext0, hI.fin trivial⟩
set_option maxRecDepth 100000 in
set_option maxHeartbeats 4000000 in
theorem c_frac_Valid (F : NP) (w0 : World) (hF : ∀ k, F k → k < w0.heap.size) (v1 : GVal) (hc : AllCl [] F w0) (r : Bool)
  (h : m_frac_Valid v1 = some r) :
  Calls Tryd.prog 41 #[(Value.agg #[(vi v1.N), (vi v1.D)])] w0 fun e w => e = .returned (vb r) ∧ Ext w0 w ∧ AllCl [] F w := by
 refine enterK (l := [(Value.agg #[(vi v1.N), (vi v1.D)])]) Tryd.func41 rfl Tryd.ntmps41 rfl ?_
 have hI := Bun.start hF hc
 clear hc
 rw [m_frac_Valid] at h
 refine sr ?_
 refine l_box (v := (Value.agg #[(vi v1.N), (vi v1.D)])) (cs := #[(vi v1.N), (vi v1.D)]) hI gn rfl rfl et rfl ?_
 clear hI; intro b1 c1 w1 hI
 obtain ⟨c2, hI⟩ := hI.relBox .z
 refine sac ?_
 refine nk ?_
 refine c_seq ?_
 refine c_drawX [] false (.c (0, .q) (.c (1, .q) (.c (2, .q) (.c (3, .q) (.c (4, .q) (.c (5, .q) (.c (6, .q) (.c (7, .q) (.c (8, .q) (.c (9, .q) (.c (10, .q) (.c (11, .s) (.c (12, .q) (.c (13, .q) (.c (14, .q) (.c (15, .q) (.c (17, .q) (.c (18, .q) (.c (19, .q) (.c (16, .s) (.c (20, .s) (.c (21, .q) (.c (22, .q) (.c (23, .q) .n)))))))))))))))))))))))) hI (by kernel_rfl) (by kernel_rfl) ?_
 clear hI; intro w2 hI
 refine a_q rfl gn rfl (fun w' => (y_fieldAddr rfl et Tryd.underlying29 rfl size_2 rfl)) ?_
 refine a_read rfl gn rfl (fun w' hw' => (y_load1 (v := (vi v1.D)) rfl et Tryd.underlying2 rfl ((hI.kblk (l := [(vi v1.D)]) .z rfl).at_ (SX.any rfl hw')))) (by kernel_rfl) ?_
 refine a_q rfl gn rfl (fun w' => (y_geq rfl et ev_const)) ?_
 refine a_q rfl gn rfl (fun w' => (y_move rfl et)) ?_
 refine a_gval rfl (g_true rfl rfl rfl rfl) rfl (fun hc => fun w' => (y_fieldAddr rfl et Tryd.underlying29 rfl size_2 rfl)) ?_
 refine a_gread rfl (g_true rfl rfl rfl rfl) rfl (fun hc => fun w' hw' => (y_load1 (v := (vi v1.D)) rfl (ev_gv et hc) Tryd.underlying2 rfl ((hI.kblk (l := [(vi v1.D)]) .z rfl).at_ (SX.any rfl hw')))) (by kernel_rfl) ?_
 refine a_gval rfl (g_true rfl rfl rfl rfl) rfl (fun hc => fun w' => (y_leq rfl (ev_gv et hc) ev_const)) ?_
 refine a_q rfl gn rfl (fun w' => (y_and rfl et et)) ?_
 refine a_q rfl gn rfl (fun w' => (y_move rfl et)) ?_
 refine a_gval rfl (g_true rfl rfl rfl rfl) rfl (fun hc => fun w' => (y_fieldAddr rfl et Tryd.underlying29 rfl size_2 rfl)) ?_
 refine a_gread rfl (g_true rfl rfl rfl rfl) rfl (fun hc => fun w' hw' => (y_load1 (v := (vi v1.N)) rfl (ev_gv et hc) Tryd.underlying2 rfl ((hI.kblk (l := [(vi v1.N)]) .z rfl).at_ (SX.any rfl hw')))) (by kernel_rfl) ?_
 obtain ⟨r1, hx1, h⟩ := bnd_some h
 replace hx1 := gd_some hx1
 refine la_gcallU (v := (vb r1)) rfl (g_true rfl rfl rfl rfl) rfl (fun hc => (r_callF (vs := [(vi v1.N)]) rfl ok_56 ⟨(ev_gv et hc), trivial⟩)) (fun hc => (c_frac_inRange (Dj F c2) w2 hI.lt v1.N trivial r1 (hx1 hc)).mono fun _ _ k => ⟨k.1, k.2.1⟩) ?_
 intro w3 hx2; replace hI := hI.ext hx2
 refine a_q rfl gn rfl (fun w' => (y_and rfl et et)) ?_
 refine a_q rfl gn rfl (fun w' => (y_move rfl et)) ?_
 refine a_gval rfl (g_true rfl rfl rfl rfl) rfl (fun hc => fun w' => (y_fieldAddr rfl et Tryd.underlying29 rfl size_2 rfl)) ?_
 refine a_gread rfl (g_true rfl rfl rfl rfl) rfl (fun hc => fun w' hw' => (y_load1 (v := (vi v1.N)) rfl (ev_gv et hc) Tryd.underlying2 rfl ((hI.kblk (l := [(vi v1.N)]) .z rfl).at_ (SX.any rfl hw')))) (by kernel_rfl) ?_
 refine a_gval rfl (g_true rfl rfl rfl rfl) rfl (fun hc => fun w' => (y_fieldAddr rfl et Tryd.underlying29 rfl size_2 rfl)) ?_
 refine a_gread rfl (g_true rfl rfl rfl rfl) rfl (fun hc => fun w' hw' => (y_load1 (v := (vi v1.D)) rfl (ev_gv et hc) Tryd.underlying2 rfl ((hI.kblk (l := [(vi v1.D)]) .z rfl).at_ (SX.any rfl hw')))) (by kernel_rfl) ?_
 refine a_gval rfl (g_true rfl rfl rfl rfl) rfl (fun hc => fun w' => (y_conv rfl (by rw [Tryd.underlying2]; rfl) Tryd.underlying81 (ev_gv et hc))) ?_
 obtain ⟨r2, hx3, h⟩ := bnd_some h
 replace hx3 := gd_some hx3
 refine la_gcallU (v := (Value.int .u64 r2)) rfl (g_true rfl rfl rfl rfl) rfl (fun hc => (r_callF (vs := [(vi v1.N)]) rfl ok_58 ⟨(ev_gv et hc), trivial⟩)) (fun hc => (c_frac_magnitude (Dj F c2) w3 hI.lt v1.N trivial r2 (hx3 hc)).mono fun _ _ k => ⟨k.1, k.2.1⟩) ?_
 intro w4 hx4; replace hI := hI.ext hx4
 obtain ⟨r3, hx5, h⟩ := bnd_some h
 replace hx5 := gd_some hx5
 refine la_gcallU (v := (Value.int .u64 r3)) rfl (g_true rfl rfl rfl rfl) rfl (fun hc => (r_callF (vs := [(Value.int .u64 r2), (Value.int .u64 (wu64 v1.D))]) rfl ok_57 ⟨(ev_gv et hc), ⟨(ev_gv et hc), trivial⟩⟩)) (fun hc => (c_frac_gcd (Dj F c2) w4 hI.lt r2 (wu64 v1.D) trivial r3 (hx5 hc)).mono fun _ _ k => ⟨k.1, k.2.1⟩) ?_
 intro w5 hx6; replace hI := hI.ext hx6
 refine a_gval rfl (g_true rfl rfl rfl rfl) rfl (fun hc => fun w' => (y_eql rfl (ev_gv et hc) ev_const)) ?_
 refine a_q rfl gn rfl (fun w' => (y_and rfl et et)) ?_
 refine a_q rfl gn rfl (fun w' => (y_assign rfl et)) ?_
 refine a_nil ?_
 refine k_next (e := [(2, (vb ((((decide (1 ≤ v1.D)) && (decide (v1.D ≤ 2147483647))) && r1) && (decide (r3 = 1)))))]) ⟨rfl, trivial⟩ ?_
 refine c_ret ?_
 obtain rfl := some_inj h
 exact q_ret (vs := [(vb ((((decide (1 ≤ v1.D)) && (decide (v1.D ≤ 2147483647))) && r1) && (decide (r3 = 1))))]) Tryd.results41 ⟨ev_tmp rfl rfl, trivial⟩ ⟨rfl, hI.ext0, hI.fin trivial⟩
set_option maxRecDepth 100000 in
set_option maxHeartbeats 4000000 in
theorem c_value_Valid (F : NP) (w0 : World) (hF : ∀ k, F k → k < w0.heap.size) (t1 : GType) (v1 : GVal) (hc : AllCl [] F w0) (r : Bool)
  (h : m_value_Valid t1 v1 = some r) :
  Calls Tryd.prog 23 #[(Value.agg #[(vi t1.Kind), (vi t1.Bits), (vi t1.Frac), (vi t1.Round), (vi t1.Over)]), (Value.agg #[(vi v1.N), (vi v1.D)])] w0 fun e w => e = .returned (vb r) ∧ Ext w0 w ∧ AllCl [] F w := by
 refine enterK (l := [(Value.agg #[(vi t1.Kind), (vi t1.Bits), (vi t1.Frac), (vi t1.Round), (vi t1.Over)]), (Value.agg #[(vi v1.N), (vi v1.D)])]) Tryd.func23 rfl Tryd.ntmps23 rfl ?_
 have hI := Bun.start hF hc
 clear hc
 rw [m_value_Valid] at h
 refine sr ?_
 refine l_box (v := (Value.agg #[(vi t1.Kind), (vi t1.Bits), (vi t1.Frac), (vi t1.Round), (vi t1.Over)])) (cs := #[(vi t1.Kind), (vi t1.Bits), (vi t1.Frac), (vi t1.Round), (vi t1.Over)]) hI gn rfl rfl et rfl ?_
 clear hI; intro b1 c1 w1 hI
 obtain ⟨c2, hI⟩ := hI.relBox .z
 refine l_box (v := (Value.agg #[(vi v1.N), (vi v1.D)])) (cs := #[(vi v1.N), (vi v1.D)]) hI gn rfl rfl et rfl ?_
 clear hI; intro b2 c3 w2 hI
 obtain ⟨c4, hI⟩ := hI.relBox .z
 refine sac ?_
 refine nk ?_
 refine c_seq ?_
 refine sr ?_
 refine sq (y_loadN (l := [(vi t1.Kind), (vi t1.Bits), (vi t1.Frac), (vi t1.Round), (vi t1.Over)]) rfl et Tryd.underlying23 rfl size_23 (hI.kblk (l := [(vi t1.Kind), (vi t1.Bits), (vi t1.Frac), (vi t1.Round), (vi t1.Over)]) (.s .z) rfl).1) ?_
 obtain ⟨r1, hx1, h⟩ := bnd_some h
 refine s_call gn rfl (r_callF (vs := [(Value.agg #[(vi t1.Kind), (vi t1.Bits), (vi t1.Frac), (vi t1.Round), (vi t1.Over)])]) rfl ok_38 ⟨et, trivial⟩) (Calls.mono (c_value_ValidateType (Dj F c4) w2 hI.lt t1 trivial r1 hx1) ?_)
 rintro _ w3 ⟨rfl, hx2, hl1⟩
 refine ⟨_, rfl, ?_⟩
 replace hI := (hI.ext hx2)
 refine sq (y_neq rfl et ev_const) ?_
 refine nk ?_
 refine c_cond (b := !decide (r1 = 0)) et (fun hb => ?_) (fun hb => ?_)
 ·replace h := ite_t hb h
  refine sr ?_
  refine sac ?_
  refine nk ?_
  refine c_ret ?_
  obtain rfl := some_inj h
  exact q_ret (vs := [(vb false)]) Tryd.results23 ⟨ev_tmp rfl rfl, trivial⟩ ⟨rfl, hI.ext0, hI.fin trivial⟩
 ·replace h := ite_f hb h
  refine c_skip ?_
  refine k_same ?_
  refine c_seq ?_
  refine sr ?_
  refine sq (y_fieldAddr rfl et Tryd.underlying23 rfl size_3 rfl) ?_
  refine sq (y_load1 (v := (vi t1.Kind)) rfl et Tryd.underlying3 rfl (hI.kblk (l := [(vi t1.Kind)]) (.s .z) rfl).1) ?_
  refine nk ?_
  refine c_block ?_
  refine sr ?_
  refine sq (y_eql rfl et ev_const) ?_
  refine sa ?_
  refine nk ?_
  refine c_cond (b := decide (t1.Kind = 2)) et (fun hb => ?_) (fun hb => ?_)
  ·replace h := ite_t hb h
   refine sr ?_
   refine sq (y_loadN (l := [(vi t1.Kind), (vi t1.Bits), (vi t1.Frac), (vi t1.Round), (vi t1.Over)]) rfl et Tryd.underlying23 rfl size_23 (hI.kblk (l := [(vi t1.Kind), (vi t1.Bits), (vi t1.Frac), (vi t1.Round), (vi t1.Over)]) (.s .z) rfl).1) ?_
   refine sq (y_loadN (l := [(vi v1.N), (vi v1.D)]) rfl et Tryd.underlying29 rfl size_29 (hI.kblk (l := [(vi v1.N), (vi v1.D)]) .z rfl).1) ?_
   obtain ⟨r2, hx3, h⟩ := bnd_some h
   refine s_call gn rfl (r_callF (vs := [(Value.agg #[(vi t1.Kind), (vi t1.Bits), (vi t1.Frac), (vi t1.Round), (vi t1.Over)]), (Value.agg #[(vi v1.N), (vi v1.D)])]) rfl ok_39 ⟨et, ⟨et, trivial⟩⟩) (Calls.mono (c_fixed_Valid (Dj F c4) w3 hI.lt t1 v1 trivial r2 hx3) ?_)
   rintro _ w4 ⟨rfl, hx4, hl2⟩
   refine ⟨_, rfl, ?_⟩
   replace hI := (hI.ext hx4)
   refine sa ?_
   refine nk ?_
   refine c_ret ?_
   obtain rfl := some_inj h
   exact q_ret (vs := [(vb r2)]) Tryd.results23 ⟨ev_tmp rfl rfl, trivial⟩ ⟨rfl, hI.ext0, hI.fin trivial⟩
  ·replace h := ite_f hb h
   refine sr ?_
   refine sq (y_eql rfl et ev_const) ?_
   refine sa ?_
   refine nk ?_
   refine c_cond (b := decide (t1.Kind = 3)) et (fun hb => ?_) (fun hb => ?_)
   ·replace h := ite_t hb h
    refine sr ?_
    refine sq (y_fieldAddr rfl et Tryd.underlying29 rfl size_2 rfl) ?_
    refine sq (y_load1 (v := (vi v1.D)) rfl et Tryd.underlying2 rfl (hI.kblk (l := [(vi v1.D)]) .z rfl).1) ?_
    refine sq (y_eql rfl et ev_const) ?_
    refine sm ?_
    refine s_gval (g_true rfl rfl rfl rfl) rfl (fun hc => (y_fieldAddr rfl et Tryd.underlying29 rfl size_2 rfl)) ?_
    refine s_gval (g_true rfl rfl rfl rfl) rfl (fun hc => (y_load1 (v := (vi v1.N)) rfl (ev_gv et hc) Tryd.underlying2 rfl (hI.kblk (l := [(vi v1.N)]) .z rfl).1)) ?_
    obtain ⟨r3, hx5, h⟩ := bnd_some h
    replace hx5 := gd_some hx5
    refine s_gcallU (v := (vb r3)) (g_true rfl rfl rfl rfl) rfl (fun hc => (r_callF (vs := [(vi v1.N)]) rfl ok_40 ⟨(ev_gv et hc), trivial⟩)) (fun hc => (c_value_whole (Dj F c4) w3 hI.lt v1.N trivial r3 (hx5 hc)).mono fun _ _ k => ⟨k.1, k.2.1⟩) ?_
    intro w5 hx6; replace hI := hI.ext hx6
    refine sq (y_and rfl et et) ?_
    refine sa ?_
    refine nk ?_
    refine c_ret ?_
    obtain rfl := some_inj h
    exact q_ret (vs := [(vb ((decide (v1.D = 1)) && r3))]) Tryd.results23 ⟨ev_tmp rfl rfl, trivial⟩ ⟨rfl, hI.ext0, hI.fin trivial⟩
   ·replace h := ite_f hb h
    refine c_skip ?_
    refine k_same ?_
    refine sr ?_
    refine sq (y_loadN (l := [(vi v1.N), (vi v1.D)]) rfl et Tryd.underlying29 rfl size_29 (hI.kblk (l := [(vi v1.N), (vi v1.D)]) .z rfl).1) ?_
    obtain ⟨r4, hx7, h⟩ := bnd_some h
    refine s_call gn rfl (r_callF (vs := [(Value.agg #[(vi v1.N), (vi v1.D)])]) rfl ok_41 ⟨et, trivial⟩) (Calls.mono (c_frac_Valid (Dj F c4) w3 hI.lt v1 trivial r4 hx7) ?_)
    rintro _ w6 ⟨rfl, hx8, hl4⟩
    refine ⟨_, rfl, ?_⟩
    replace hI := (hI.ext hx8)
    refine sa ?_
    refine nk ?_
    refine c_ret ?_
    obtain rfl := some_inj h
    exact q_ret (vs := [(vb r4)]) Tryd.results23 ⟨ev_tmp rfl rfl, trivial⟩ ⟨rfl, hI.ext0, hI.fin trivial⟩
set_option maxRecDepth 100000 in
set_option maxHeartbeats 4000000 in
theorem c_tensor_Validate (F : NP) (w0 : World) (hF : ∀ k, F k → k < w0.heap.size) (t1 : GTensor) (a1 : Option Addr) (c1 : Nat) (a2 : Option Addr) (c2 : Nat) (hc : AllCl [Cl.sl (cInt .i64) a1 c1 t1.Dims, Cl.sl cGVal a2 c2 t1.Vals] F w0) (r : Int)
  (h : m_tensor_Validate t1 = some r) :
  Calls Tryd.prog 25 #[(Value.agg #[(vi t1.Type_.Kind), (vi t1.Type_.Bits), (vi t1.Type_.Frac), (vi t1.Type_.Round), (vi t1.Type_.Over), (vs a1 t1.Dims.length c1), (vs a2 t1.Vals.length c2)])] w0 fun e w => e = .returned (vi r) ∧ Ext w0 w ∧ AllCl [] F w := by
 refine enterK (l := [(Value.agg #[(vi t1.Type_.Kind), (vi t1.Type_.Bits), (vi t1.Type_.Frac), (vi t1.Type_.Round), (vi t1.Type_.Over), (vs a1 t1.Dims.length c1), (vs a2 t1.Vals.length c2)])]) Tryd.func25 rfl Tryd.ntmps25 rfl ?_
 have hI := Bun.start hF hc
 clear hc
 rw [m_tensor_Validate] at h
 refine sr ?_
 refine l_box (v := (Value.agg #[(vi t1.Type_.Kind), (vi t1.Type_.Bits), (vi t1.Type_.Frac), (vi t1.Type_.Round), (vi t1.Type_.Over), (vs a1 t1.Dims.length c1), (vs a2 t1.Vals.length c2)])) (cs := #[(vi t1.Type_.Kind), (vi t1.Type_.Bits), (vi t1.Type_.Frac), (vi t1.Type_.Round), (vi t1.Type_.Over), (vs a1 t1.Dims.length c1), (vs a2 t1.Vals.length c2)]) hI gn rfl rfl et rfl ?_
 clear hI; intro b1 c3 w1 hI
 obtain ⟨c4, hI⟩ := hI.relBox .z
 refine sac ?_
 refine nk ?_
 refine c_seq ?_
 refine sr ?_
 refine sq (y_fieldAddr rfl et Tryd.underlying27 rfl size_23 rfl) ?_
 refine sq (y_loadN (l := [(vi t1.Type_.Kind), (vi t1.Type_.Bits), (vi t1.Type_.Frac), (vi t1.Type_.Round), (vi t1.Type_.Over)]) rfl et Tryd.underlying23 rfl size_23 (hI.kblk (l := [(vi t1.Type_.Kind), (vi t1.Type_.Bits), (vi t1.Type_.Frac), (vi t1.Type_.Round), (vi t1.Type_.Over)]) .z rfl).1) ?_
 obtain ⟨r1, hx1, h⟩ := bnd_some h
 refine s_call gn rfl (r_callF (vs := [(Value.agg #[(vi t1.Type_.Kind), (vi t1.Type_.Bits), (vi t1.Type_.Frac), (vi t1.Type_.Round), (vi t1.Type_.Over)])]) rfl ok_38 ⟨et, trivial⟩) (Calls.mono (c_value_ValidateType (Dj F c4) w1 hI.lt t1.Type_ trivial r1 hx1) ?_)
 rintro _ w2 ⟨rfl, hx2, hl1⟩
 refine ⟨_, rfl, ?_⟩
 replace hI := (hI.ext hx2)
 refine sa ?_
 refine nk ?_
 refine sr ?_
 refine sm ?_
 refine sq (y_neq rfl et ev_const) ?_
 refine nk ?_
 refine c_cond (b := !decide (r1 = 0)) et (fun hb => ?_) (fun hb => ?_)
 ·replace h := ite_t hb h
  refine sr ?_
  refine sm ?_
  refine sa ?_
  refine nk ?_
  refine c_ret ?_
  obtain rfl := some_inj h
  exact q_ret (vs := [(vi r1)]) Tryd.results25 ⟨ev_tmp rfl rfl, trivial⟩ ⟨rfl, hI.ext0, hI.fin trivial⟩
 ·replace h := ite_f hb h
  refine c_skip ?_
  refine k_same ?_
  refine c_seq ?_
  refine sr ?_
  refine sq (y_fieldAddr rfl et Tryd.underlying27 rfl size_24 rfl) ?_
  refine sq (y_load1 (v := (vs a1 t1.Dims.length c1)) rfl et Tryd.underlying24 rfl (hI.kblk (l := [(vs a1 t1.Dims.length c1)]) .z rfl).1) ?_
  obtain ⟨r2, hx3, h⟩ := bnd_some h
  refine s_call gn rfl (r_callF (vs := [(vs a1 t1.Dims.length c1)]) rfl ok_42 ⟨et, trivial⟩) (Calls.mono (c_shape_Validate (Dj F c4) w2 hI.lt t1.Dims a1 c1 ⟨(hI.get (.s .z)), trivial⟩ r2 hx3) ?_)
  rintro _ w3 ⟨rfl, hx4, hl2⟩
  refine ⟨_, rfl, ?_⟩
  replace hI := (hI.ext hx4)
  refine sa ?_
  refine nk ?_
  refine sr ?_
  refine sm ?_
  refine sq (y_neq rfl et ev_const) ?_
  refine nk ?_
  refine c_cond (b := !decide (r2 = 0)) et (fun hb => ?_) (fun hb => ?_)
  ·replace h := ite_t hb h
   refine sr ?_
   refine sm ?_
   refine sa ?_
   refine nk ?_
   refine c_ret ?_
   obtain rfl := some_inj h
   exact q_ret (vs := [(vi r2)]) Tryd.results25 ⟨ev_tmp rfl rfl, trivial⟩ ⟨rfl, hI.ext0, hI.fin trivial⟩
  ·replace h := ite_f hb h
   refine c_skip ?_
   refine k_same ?_
   refine c_seq ?_
   refine c_seq ?_
   refine c_drawX [] false (.c (0, .q) (.c (1, .q) (.c (2, .q) (.c (3, .q) (.c (4, .q) (.c (5, .s) (.c (6, .q) .n))))))) hI (by kernel_rfl) (by kernel_rfl) ?_
   clear hI; intro w4 hI
   refine a_q rfl gn rfl (fun w' => (y_fieldAddr rfl et Tryd.underlying27 rfl size_25 rfl)) ?_
   refine a_read rfl gn rfl (fun w' hw' => (y_load1 (v := (vs a2 t1.Vals.length c2)) rfl et Tryd.underlying25 rfl ((hI.kblk (l := [(vs a2 t1.Vals.length c2)]) .z rfl).at_ (SX.any rfl hw')))) (by kernel_rfl) ?_
   refine a_q rfl gn rfl (fun w' => (y_lenl rfl Tryd.underlying25 et)) ?_
   refine a_q rfl gn rfl (fun w' => (y_fieldAddr rfl et Tryd.underlying27 rfl size_24 rfl)) ?_
   refine a_read rfl gn rfl (fun w' hw' => (y_load1 (v := (vs a1 t1.Dims.length c1)) rfl et Tryd.underlying24 rfl ((hI.kblk (l := [(vs a1 t1.Dims.length c1)]) .z rfl).at_ (SX.any rfl hw')))) (by kernel_rfl) ?_
   obtain ⟨r3, hx5, h⟩ := bnd_some h
   refine la_call rfl gn rfl (r_callF (vs := [(vs a1 t1.Dims.length c1)]) rfl ok_43 ⟨et, trivial⟩) (Calls.mono (c_shape_Size (Dj F c4) w4 hI.lt t1.Dims a1 c1 ⟨(hI.get (.s .z)), trivial⟩ r3 hx5) ?_)
   rintro _ w5 ⟨rfl, hx6, hl3⟩
   refine ⟨_, rfl, hx6, ?_⟩
   replace hI := (hI.ext hx6)
   refine a_q rfl gn rfl (fun w' => (y_neq rfl et et)) ?_
   refine a_nil ?_
   refine k_same ?_
   refine c_cond (b := !decide ((t1.Vals.length : Int) = r3)) et (fun hb => ?_) (fun hb => ?_)
   ·replace h := ite_t hb h
    refine sr ?_
    refine sac ?_
    refine nk ?_
    refine c_ret ?_
    obtain rfl := some_inj h
    exact q_ret (vs := [(vi 1)]) Tryd.results25 ⟨ev_tmp rfl rfl, trivial⟩ ⟨rfl, hI.ext0, hI.fin trivial⟩
   ·replace h := ite_f hb h
    refine c_skip ?_
    refine k_same ?_
    refine c_seq ?_
    refine sr ?_
    refine sq (y_fieldAddr rfl et Tryd.underlying27 rfl size_25 rfl) ?_
    refine sq (y_load1 (v := (vs a2 t1.Vals.length c2)) rfl et Tryd.underlying25 rfl (hI.kblk (l := [(vs a2 t1.Vals.length c2)]) .z rfl).1) ?_
    refine sq (y_lenl rfl Tryd.underlying25 et) ?_
    refine sq (y_move rfl ev_const) ?_
    refine nk ?_
    refine c_block ?_
    refine c_loop (α := Nat × Int) (fun x => fun w => ∃ C, Bun noM F w0 C w [] [Cl.blk b1 27 #[(vi t1.Type_.Kind), (vi t1.Type_.Bits), (vi t1.Type_.Frac), (vi t1.Type_.Round), (vi t1.Type_.Over), (vs a1 t1.Dims.length c1), (vs a2 t1.Vals.length c2)], Cl.sl (cInt .i64) a1 c1 t1.Dims, Cl.sl cGVal a2 c2 t1.Vals] ∧ m_tensor_Validate_l1 t1 (x.1) (x.2) = some r) (fun x _ => x.1) (fun x => [(1, (vp b1 0)), (27, (vs a2 t1.Vals.length c2)), (28, (vi (t1.Vals.length : Int))), (29, (vi (x.2)))]) (fu, 0) ⟨_, hI.arr .n ⟨.z, (.s .z), (.s (.s .z)), trivial⟩, h⟩ ⟨rfl, rfl, rfl, rfl, trivial⟩ ?_
    clear h hI; rintro ⟨fuel1, i1⟩ w6 ⟨c5, hI, h⟩
    dsimp only at hI h
    rcases fuel1 with _ | fuel1
    ·rw [m_tensor_Validate_l1] at h; cases h
    rw [m_tensor_Validate_l1] at h
    refine c_sub (e := [(1, (vp b1 0)), (27, (vs a2 t1.Vals.length c2)), (28, (vi (t1.Vals.length : Int))), (29, (vi i1))]) ⟨rfl, rfl, rfl, rfl, trivial⟩ ?_
    refine sr ?_
    refine sq (y_lss rfl et et) ?_
    refine nk ?_
    refine c_seq ?_
    refine c_cond (b := decide (i1 < (t1.Vals.length : Int))) et (fun hb => ?_) (fun hb => ?_)
    ·replace h := ite_t hb h
     refine c_skip ?_
     refine k_same ?_
     refine c_seq ?_
     refine c_block ?_
     refine sr ?_
     obtain ⟨e1, hx7, h⟩ := bnd_some h
     obtain ⟨ad1, cs1, hA1, hr1, hq1⟩ := hI.clat (.s (.s .z)) hx7
     obtain rfl : cs1 = [(vi e1.N), (vi e1.D)] := hr1
     refine sq (y_indexAddr rfl Tryd.underlying25 size_29 et et (lat_bd hx7) hA1) ?_
     refine sq (y_loadN (l := [(vi e1.N), (vi e1.D)]) rfl et Tryd.underlying29 rfl size_29 hq1.1) ?_
     refine l_alloc (cs := #[(vi 0), (vi 0)]) hI gn rfl rfl zero_29 rfl ?_
     clear hI; intro b2 c6 w7 hI
     refine l_store (new := [(vi e1.N), (vi e1.D)]) (cs' := #[(vi e1.N), (vi e1.D)]) hI .z gn rfl rfl et et rfl size_29 rfl rfl rfl ?_
     clear hI; intro c7 w8 hI
     refine nk ?_
     refine sr ?_
     refine sq (y_fieldAddr rfl et Tryd.underlying27 rfl size_23 rfl) ?_
     refine sq (y_loadN (l := [(vi t1.Type_.Kind), (vi t1.Type_.Bits), (vi t1.Type_.Frac), (vi t1.Type_.Round), (vi t1.Type_.Over)]) rfl et Tryd.underlying23 rfl size_23 (hI.kblk (l := [(vi t1.Type_.Kind), (vi t1.Type_.Bits), (vi t1.Type_.Frac), (vi t1.Type_.Round), (vi t1.Type_.Over)]) .z rfl).1) ?_
     refine sq (y_loadN (l := [(vi e1.N), (vi e1.D)]) rfl et Tryd.underlying29 rfl size_29 (CellsAt.of_blk (hI.blk .z) rfl)) ?_
     obtain ⟨r4, hx8, h⟩ := bnd_some h
     refine s_call gn rfl (r_callF (vs := [(Value.agg #[(vi t1.Type_.Kind), (vi t1.Type_.Bits), (vi t1.Type_.Frac), (vi t1.Type_.Round), (vi t1.Type_.Over)]), (Value.agg #[(vi e1.N), (vi e1.D)])]) rfl ok_23 ⟨et, ⟨et, trivial⟩⟩) (Calls.mono (c_value_Valid (Dj F c7) w8 hI.lt t1.Type_ e1 trivial r4 hx8) ?_)
     rintro _ w9 ⟨rfl, hx9, hl4⟩
     refine ⟨_, rfl, ?_⟩
     replace hI := (hI.ext hx9)
     refine sq (y_not rfl et) ?_
     refine nk ?_
     refine c_cond (b := !r4) et (fun hb => ?_) (fun hb => ?_)
     ·replace h := ite_t hb h
      refine sr ?_
      refine sac ?_
      refine nk ?_
      refine c_ret ?_
      obtain rfl := some_inj h
      exact q_ret (vs := [(vi 1)]) Tryd.results25 ⟨ev_tmp rfl rfl, trivial⟩ ⟨rfl, hI.ext0, hI.fin trivial⟩
     ·replace h := ite_f hb h
      refine c_skip ?_
      refine k_same ?_
      refine c_region rfl ?_
      refine sq (y_add rfl et ev_const) ?_
      refine sm ?_
      refine s_nil ?_
      exact k_loop (fuel1, wi64 (i1 + 1)) ⟨rfl, rfl, rfl, rfl, trivial⟩ ⟨_, hI.arr .n ⟨.z, (.s .z), (.s (.s .z)), trivial⟩, h⟩ (Nat.lt_succ_self _)
    ·replace h := ite_f hb h
     refine c_exit ?_
     refine k_in ?_
     refine k_same ?_
     refine sr ?_
     refine sac ?_
     refine nk ?_
     refine c_ret ?_
     obtain rfl := some_inj h
     exact q_ret (vs := [(vi 0)]) Tryd.results25 ⟨ev_tmp rfl rfl, trivial⟩ ⟨rfl, hI.ext0, hI.fin trivial⟩
def tr_tensor_New_1_1 : Tr := (.c (7, .s) .n)
def tr_tensor_New_1_0 : Tr := (.c (4, .s) (.c (5, .q) tr_tensor_New_1_1))
set_option maxRecDepth 100000 in
set_option maxHeartbeats 4000000 in
theorem c_tensor_New (F : NP) (w0 : World) (hF : ∀ k, F k → k < w0.heap.size) (t1 : GType) (dims1 : List Int) (vals1 : List GVal) (a1 : Option Addr) (c1 : Nat) (a2 : Option Addr) (c2 : Nat) (hc : AllCl [Cl.sl (cInt .i64) a1 c1 dims1, Cl.sl cGVal a2 c2 vals1] F w0) (r : GTensor × Int)
  (h : m_tensor_New t1 dims1 vals1 = some r) :
  Calls Tryd.prog 19 #[(Value.agg #[(vi t1.Kind), (vi t1.Bits), (vi t1.Frac), (vi t1.Round), (vi t1.Over)]), (vs a1 dims1.length c1), (vs a2 vals1.length c2)] w0 fun e w => ∃ (a3 : Option Addr) (c3 : Nat) (a4 : Option Addr) (c4 : Nat), e = .returned (Value.tuple #[(Value.agg #[(vi r.1.Type_.Kind), (vi r.1.Type_.Bits), (vi r.1.Type_.Frac), (vi r.1.Type_.Round), (vi r.1.Type_.Over), (vs a3 r.1.Dims.length c3), (vs a4 r.1.Vals.length c4)]), (vi r.2)]) ∧ Ext w0 w ∧ AllCl [Cl.sl (cInt .i64) a3 c3 r.1.Dims, Cl.sl cGVal a4 c4 r.1.Vals] F w := by
 refine enterK (l := [(Value.agg #[(vi t1.Kind), (vi t1.Bits), (vi t1.Frac), (vi t1.Round), (vi t1.Over)]), (vs a1 dims1.length c1), (vs a2 vals1.length c2)]) Tryd.func19 rfl Tryd.ntmps19 rfl ?_
 have hI := Bun.start hF hc
 clear hc
 rw [m_tensor_New] at h
 refine sr ?_
 refine l_box (v := (Value.agg #[(vi t1.Kind), (vi t1.Bits), (vi t1.Frac), (vi t1.Round), (vi t1.Over)])) (cs := #[(vi t1.Kind), (vi t1.Bits), (vi t1.Frac), (vi t1.Round), (vi t1.Over)]) hI gn rfl rfl et rfl ?_
 clear hI; intro b1 c5 w1 hI
 obtain ⟨c6, hI⟩ := hI.relBox .z
 refine l_alloc (cs := #[(vi 0), (vi 0), (vi 0), (vi 0), (vi 0), (vs none 0 0), (vs none 0 0)]) hI gn rfl rfl zero_27 rfl ?_
 clear hI; intro b2 c7 w2 hI
 refine sac ?_
 refine nk ?_
 refine c_seq ?_
 obtain ⟨zs1, hx1, h⟩ := bnd_some h
 obtain ⟨zs2, hx2, h⟩ := bnd_some h
 refine c_drawX [7] false (.c (0, .q) (.c (1, .q) (.c (3, .q) (.two 2 (.two 4 (.c (5, .q) (.c (6, .s) tr_tensor_New_1_1)) 6 tr_tensor_New_1_0) 6 (.c (2, .s) tr_tensor_New_1_0))))) hI (by kernel_rfl) (by kernel_rfl) ?_
 clear hI; intro w9 hI
 refine a_join (α := (Option Addr) × Nat × (Option Addr) × Nat × Nat × NP) (T := tr_tensor_New_1_1) (fun x => [(0, (Value.agg #[(vi t1.Kind), (vi t1.Bits), (vi t1.Frac), (vi t1.Round), (vi t1.Over)])), (1, (vs a1 dims1.length c1)), (2, (vs a2 vals1.length c2)), (3, (vp b1 0)), (6, (vp b2 0)), (7, (vi 0)), (8, (Value.pointer (some ⟨(x.2.2.2.2.1), 0, none⟩))), (10, (Value.agg #[(vi t1.Kind), (vi t1.Bits), (vi t1.Frac), (vi t1.Round), (vi t1.Over)])), (11, (vs a1 dims1.length c1)), (12, (vs (x.1) zs1.length (x.2.1))), (13, (vs a2 vals1.length c2)), (14, (vs (x.2.2.1) zs2.length (x.2.2.2.1))), (15, (Value.agg #[(vi t1.Kind), (vi t1.Bits), (vi t1.Frac), (vi t1.Round), (vi t1.Over), (vs (x.1) zs1.length (x.2.1)), (vs (x.2.2.1) zs2.length (x.2.2.2.1))]))]) (fun x w => Bun noM F w0 (x.2.2.2.2.2) w [MO.row cGVal 29 (x.2.2.1) (x.2.2.2.1) zs2, MO.box (x.2.2.2.2.1) 27 #[(vi 0), (vi 0), (vi 0), (vi 0), (vi 0), (vs none 0 0), (vs none 0 0)], MO.row (cInt .i64) 3 (x.1) (x.2.1) zs1, MO.box b2 27 #[(vi 0), (vi 0), (vi 0), (vi 0), (vi 0), (vs none 0 0), (vs none 0 0)]] [Cl.blk b1 23 #[(vi t1.Kind), (vi t1.Bits), (vi t1.Frac), (vi t1.Round), (vi t1.Over)], Cl.sl (cInt .i64) a1 c1 dims1, Cl.sl cGVal a2 c2 vals1]) (fun x w => SN [7] (DM false F (x.2.2.2.2.2)) w) ?_ ?_
 ·clear hI; rintro ⟨a5, c8, a6, c10, b3, c15⟩ w8 hI
  try dsimp only at hI ⊢
  unfold tr_tensor_New_1_1
  refine a_turn (F := F) (C := c15) rfl rfl ?_
  refine la_store (new := [(vi t1.Kind), (vi t1.Bits), (vi t1.Frac), (vi t1.Round), (vi t1.Over), (vs a5 zs1.length c8), (vs a6 zs2.length c10)]) (cs' := #[(vi t1.Kind), (vi t1.Bits), (vi t1.Frac), (vi t1.Round), (vi t1.Over), (vs a5 zs1.length c8), (vs a6 zs2.length c10)]) hI (.s .z) rfl gn rfl rfl et et rfl size_27 rfl rfl rfl ?_
  clear hI; intro c13 w6 hI
  refine a_nil ?_
  refine k_same ?_
  refine c_seq ?_
  refine sr ?_
  refine sq (y_loadN (l := [(vi t1.Kind), (vi t1.Bits), (vi t1.Frac), (vi t1.Round), (vi t1.Over), (vs a5 zs1.length c8), (vs a6 zs2.length c10)]) rfl et Tryd.underlying27 rfl size_27 (CellsAt.of_blk (hI.blk (.s .z)) rfl)) ?_
  obtain ⟨r1, hx3, h⟩ := bnd_some h
  refine s_call gn rfl (r_callF (vs := [(Value.agg #[(vi t1.Kind), (vi t1.Bits), (vi t1.Frac), (vi t1.Round), (vi t1.Over), (vs a5 zs1.length c8), (vs a6 zs2.length c10)])]) rfl ok_25 ⟨et, trivial⟩) (Calls.mono (c_tensor_Validate noM w6 (fun _ k => k.elim) (⟨t1, zs1, zs2⟩ : GTensor) a5 c8 a6 c10 ⟨hI.lend (.s (.s .z)), hI.lend .z, trivial⟩ r1 hx3) ?_)
  rintro _ w10 ⟨rfl, hx4, hl1⟩
  refine ⟨_, rfl, ?_⟩
  replace hI := (hI.ext hx4)
  refine sa ?_
  refine nk ?_
  refine sr ?_
  refine sm ?_
  refine sq (y_neq rfl et ev_const) ?_
  refine nk ?_
  refine c_cond (b := !decide (r1 = 0)) et (fun hb => ?_) (fun hb => ?_)
  ·replace h := ite_t hb h
   refine sr ?_
   refine sq (y_build (vs := []) (cs := #[(vi 0), (vi 0), (vi 0), (vi 0), (vi 0), (vs none 0 0), (vs none 0 0)]) rfl trivial (by kernel_rfl)) ?_
   refine sm ?_
   refine l_store (new := [(vi 0), (vi 0), (vi 0), (vi 0), (vi 0), (vs none 0 0), (vs none 0 0)]) (cs' := #[(vi 0), (vi 0), (vi 0), (vi 0), (vi 0), (vs none 0 0), (vs none 0 0)]) hI (.s (.s (.s .z))) gn rfl rfl et et rfl size_27 rfl rfl rfl ?_
   clear hI; intro c16 w11 hI
   refine sa ?_
   refine nk ?_
   refine c_ret ?_
   have hI := hI.add (c := Cl.sl (cInt .i64) none 0 ([] : List Int)) SlC.nil
   have hI := hI.add (c := Cl.sl cGVal none 0 ([] : List GVal)) SlC.nil
   obtain rfl := some_inj h
   exact q_ret (vs := [(Value.agg #[(vi 0), (vi 0), (vi 0), (vi 0), (vi 0), (vs none 0 0), (vs none 0 0)]), (vi r1)]) Tryd.results19 ⟨⟨_, ev_tmp rfl rfl, load_agg (l := [(vi 0), (vi 0), (vi 0), (vi 0), (vi 0), (vs none 0 0), (vs none 0 0)]) Tryd.underlying27 rfl size_27 (CellsAt.of_blk (hI.blk (.s (.s (.s .z)))) rfl)⟩, ⟨ev_tmp rfl rfl, trivial⟩⟩ ⟨none, 0, none, 0, rfl, hI.ext0, hI.fin ⟨(.s .z), .z, trivial⟩⟩
  ·replace h := ite_f hb h
   refine c_skip ?_
   refine k_same ?_
   refine sr ?_
   refine sq (y_loadN (l := [(vi t1.Kind), (vi t1.Bits), (vi t1.Frac), (vi t1.Round), (vi t1.Over), (vs a5 zs1.length c8), (vs a6 zs2.length c10)]) rfl et Tryd.underlying27 rfl size_27 (CellsAt.of_blk (hI.blk (.s .z)) rfl)) ?_
   refine l_store (new := [(vi t1.Kind), (vi t1.Bits), (vi t1.Frac), (vi t1.Round), (vi t1.Over), (vs a5 zs1.length c8), (vs a6 zs2.length c10)]) (cs' := #[(vi t1.Kind), (vi t1.Bits), (vi t1.Frac), (vi t1.Round), (vi t1.Over), (vs a5 zs1.length c8), (vs a6 zs2.length c10)]) hI (.s (.s (.s .z))) gn rfl rfl et et rfl size_27 rfl rfl rfl ?_
   clear hI; intro c17 w12 hI
   refine sac ?_
   refine nk ?_
   refine c_ret ?_
   obtain ⟨c18, hI⟩ := hI.release (.s (.s .z))
   obtain ⟨c19, hI⟩ := hI.release .z
   obtain rfl := some_inj h
   exact q_ret (vs := [(Value.agg #[(vi t1.Kind), (vi t1.Bits), (vi t1.Frac), (vi t1.Round), (vi t1.Over), (vs a5 zs1.length c8), (vs a6 zs2.length c10)]), (vi 0)]) Tryd.results19 ⟨⟨_, ev_tmp rfl rfl, load_agg (l := [(vi t1.Kind), (vi t1.Bits), (vi t1.Frac), (vi t1.Round), (vi t1.Over), (vs a5 zs1.length c8), (vs a6 zs2.length c10)]) Tryd.underlying27 rfl size_27 (CellsAt.of_blk (hI.blk (.s .z)) rfl)⟩, ⟨ev_tmp rfl rfl, trivial⟩⟩ ⟨a5, c8, a6, c10, rfl, hI.ext0, hI.fin ⟨(.s .z), .z, trivial⟩⟩
 intro hk_tr_tensor_New_1_1
 refine a_join (α := (Option Addr) × Nat × Nat × NP) (T := tr_tensor_New_1_0) (fun x => [(0, (Value.agg #[(vi t1.Kind), (vi t1.Bits), (vi t1.Frac), (vi t1.Round), (vi t1.Over)])), (1, (vs a1 dims1.length c1)), (2, (vs a2 vals1.length c2)), (3, (vp b1 0)), (6, (vp b2 0)), (7, (vi 0)), (8, (Value.pointer (some ⟨(x.2.2.1), 0, none⟩))), (10, (Value.agg #[(vi t1.Kind), (vi t1.Bits), (vi t1.Frac), (vi t1.Round), (vi t1.Over)])), (11, (vs a1 dims1.length c1)), (12, (vs (x.1) zs1.length (x.2.1))), (13, (vs a2 vals1.length c2))]) (fun x w => Bun noM F w0 (x.2.2.2) w [MO.box (x.2.2.1) 27 #[(vi 0), (vi 0), (vi 0), (vi 0), (vi 0), (vs none 0 0), (vs none 0 0)], MO.row (cInt .i64) 3 (x.1) (x.2.1) zs1, MO.box b2 27 #[(vi 0), (vi 0), (vi 0), (vi 0), (vi 0), (vs none 0 0), (vs none 0 0)]] [Cl.blk b1 23 #[(vi t1.Kind), (vi t1.Bits), (vi t1.Frac), (vi t1.Round), (vi t1.Over)], Cl.sl (cInt .i64) a1 c1 dims1, Cl.sl cGVal a2 c2 vals1]) (fun x w => SN [7] (DM false F (x.2.2.2)) w) ?_ ?_
 ·clear hI; rintro ⟨a5, c8, b3, c14⟩ w7 hI
  try dsimp only at hI ⊢
  unfold tr_tensor_New_1_0
  replace hI := hI.nil cGVal 29 none
  refine la_appendX (ys := vals1) hI .z (hI.crd (.s (.s .z))) hx2 rfl gn rfl rfl Tryd.underlying25 info_29 rfl rfl ev_const et ?_
  clear hI; intro a6 c10 c11 w4 hI
  refine a_q rfl gn rfl (fun w' => (y_build (vs := [(0, (Value.agg #[(vi t1.Kind), (vi t1.Bits), (vi t1.Frac), (vi t1.Round), (vi t1.Over)])), (1, (vs a5 zs1.length c8)), (2, (vs a6 zs2.length c10))]) (cs := #[(vi t1.Kind), (vi t1.Bits), (vi t1.Frac), (vi t1.Round), (vi t1.Over), (vs a5 zs1.length c8), (vs a6 zs2.length c10)]) rfl ⟨rfl, et, ⟨rfl, et, ⟨rfl, et, trivial⟩⟩⟩ (by kernel_rfl))) ?_
  exact a_sub (hk_tr_tensor_New_1_1 (a5, c8, a6, c10, b3, c11) _ (hI.arr (.c .z (.c .z (.c .z (.c .z .n)))) ⟨.z, (.s .z), (.s (.s .z)), trivial⟩)) ⟨rfl, rfl, rfl, rfl, rfl, rfl, rfl, rfl, rfl, rfl, rfl, rfl, rfl, trivial⟩
 intro hk_tr_tensor_New_1_0
 refine a_read rfl gn rfl (fun w' hw' => (y_loadN (l := [(vi t1.Kind), (vi t1.Bits), (vi t1.Frac), (vi t1.Round), (vi t1.Over)]) rfl et Tryd.underlying23 rfl size_23 ((hI.kblk (l := [(vi t1.Kind), (vi t1.Bits), (vi t1.Frac), (vi t1.Round), (vi t1.Over)]) .z rfl).at_ (SX.any rfl hw')))) (by kernel_rfl) ?_
 refine a_q rfl gn rfl (fun w' => (y_move rfl et)) ?_
 refine a_q rfl gn rfl (fun w' => (y_move rfl et)) ?_
 refine a_two ?_ ?_
 ·skip
  replace hI := hI.nil (cInt .i64) 3 none
  refine la_appendX (ys := dims1) hI .z (hI.crd (.s .z)) hx1 rfl gn rfl rfl Tryd.underlying24 info_3 rfl rfl ev_const et ?_
  clear hI; intro a5 c8 c9 w3 hI
  refine a_two ?_ ?_
  ·skip
   replace hI := hI.nil cGVal 29 none
   refine la_appendX (ys := vals1) hI .z (hI.crd (.s (.s .z))) hx2 rfl gn rfl rfl Tryd.underlying25 info_29 rfl rfl ev_const et ?_
   clear hI; intro a6 c10 c11 w4 hI
   refine a_q rfl gn rfl (fun w' => (y_build (vs := [(0, (Value.agg #[(vi t1.Kind), (vi t1.Bits), (vi t1.Frac), (vi t1.Round), (vi t1.Over)])), (1, (vs a5 zs1.length c8)), (2, (vs a6 zs2.length c10))]) (cs := #[(vi t1.Kind), (vi t1.Bits), (vi t1.Frac), (vi t1.Round), (vi t1.Over), (vs a5 zs1.length c8), (vs a6 zs2.length c10)]) rfl ⟨rfl, et, ⟨rfl, et, ⟨rfl, et, trivial⟩⟩⟩ (by kernel_rfl))) ?_
   refine la_alloc (cs := #[(vi 0), (vi 0), (vi 0), (vi 0), (vi 0), (vs none 0 0), (vs none 0 0)]) hI rfl gn rfl rfl zero_27 rfl ?_
   clear hI; intro b3 c12 w5 hI
   exact a_sub (hk_tr_tensor_New_1_1 (a5, c8, a6, c10, b3, c12) _ (hI.arr (.c (.s .z) (.c .z (.c .z (.c .z .n)))) ⟨.z, (.s .z), (.s (.s .z)), trivial⟩)) ⟨rfl, rfl, rfl, rfl, rfl, rfl, rfl, rfl, rfl, rfl, rfl, rfl, rfl, trivial⟩
  ·skip
   refine la_alloc (cs := #[(vi 0), (vi 0), (vi 0), (vi 0), (vi 0), (vs none 0 0), (vs none 0 0)]) hI rfl gn rfl rfl zero_27 rfl ?_
   clear hI; intro b3 c12 w5 hI
   exact a_sub (hk_tr_tensor_New_1_0 (a5, c8, b3, c12) _ (hI.arr (.c .z (.c .z (.c .z .n))) ⟨.z, (.s .z), (.s (.s .z)), trivial⟩)) ⟨rfl, rfl, rfl, rfl, rfl, rfl, rfl, rfl, rfl, rfl, rfl, trivial⟩
 ·skip
  refine la_alloc (cs := #[(vi 0), (vi 0), (vi 0), (vi 0), (vi 0), (vs none 0 0), (vs none 0 0)]) hI rfl gn rfl rfl zero_27 rfl ?_
  clear hI; intro b3 c12 w5 hI
  replace hI := hI.nil (cInt .i64) 3 none
  refine la_appendX (ys := dims1) hI .z (hI.crd (.s .z)) hx1 rfl gn rfl rfl Tryd.underlying24 info_3 rfl rfl ev_const et ?_
  clear hI; intro a5 c8 c9 w3 hI
  exact a_sub (hk_tr_tensor_New_1_0 (a5, c8, b3, c9) _ (hI.arr (.c (.s .z) (.c .z (.c .z .n))) ⟨.z, (.s .z), (.s (.s .z)), trivial⟩)) ⟨rfl, rfl, rfl, rfl, rfl, rfl, rfl, rfl, rfl, rfl, rfl, trivial⟩
set_option maxRecDepth 100000 in
set_option maxHeartbeats 4000000 in
theorem c_fixed_Neg_1 (F : NP) (w0 : World) (hF : ∀ k, F k → k < w0.heap.size) (a1 : GType) (x1 : Int) (a2 : Int) (hc : AllCl [] F w0) (r : Int × Int)
  (h : m_fixed_Neg_1 a1 x1 a2 = some r) :
  Calls Tryd.prog 81 #[(Value.agg #[(vi a1.Kind), (vi a1.Bits), (vi a1.Frac), (vi a1.Round), (vi a1.Over)]), (vi x1), (vi a2)] w0 fun e w => e = .returned (Value.tuple #[(vi r.1), (vi r.2)]) ∧ Ext w0 w ∧ AllCl [] F w := by
 refine enterK (l := [(Value.agg #[(vi a1.Kind), (vi a1.Bits), (vi a1.Frac), (vi a1.Round), (vi a1.Over)]), (vi x1), (vi a2)]) Tryd.func81 rfl Tryd.ntmps81 rfl ?_
 have hI := Bun.start hF hc
 clear hc
 rw [m_fixed_Neg_1] at h
 refine sr ?_
 refine l_box (v := (Value.agg #[(vi a1.Kind), (vi a1.Bits), (vi a1.Frac), (vi a1.Round), (vi a1.Over)])) (cs := #[(vi a1.Kind), (vi a1.Bits), (vi a1.Frac), (vi a1.Round), (vi a1.Over)]) hI gn rfl rfl et rfl ?_
 clear hI; intro b1 c1 w1 hI
 obtain ⟨c2, hI⟩ := hI.relBox .z
 refine sac ?_
 refine sac ?_
 refine nk ?_
 refine sr ?_
 refine sm ?_
 refine sq (y_neg rfl et) ?_
 refine sa ?_
 refine sac ?_
 refine nk ?_
 refine c_ret ?_
 obtain rfl := some_inj h
 exact q_ret (vs := [(vi (wi64 (-x1))), (vi 0)]) Tryd.results81 ⟨ev_tmp rfl rfl, ⟨ev_tmp rfl rfl, trivial⟩⟩ ⟨rfl, hI.ext0, hI.fin trivial⟩
set_option maxRecDepth 100000 in
set_option maxHeartbeats 4000000 in
theorem c_fixed_check (F : NP) (w0 : World) (hF : ∀ k, F k → k < w0.heap.size) (t1 : GType) (operands1 : List GVal) (a1 : Option Addr) (c1 : Nat) (hc : AllCl [Cl.sl cGVal a1 c1 operands1] F w0) (r : Int)
  (h : m_fixed_check t1 operands1 = some r) :
  Calls Tryd.prog 90 #[(Value.agg #[(vi t1.Kind), (vi t1.Bits), (vi t1.Frac), (vi t1.Round), (vi t1.Over)]), (vs a1 operands1.length c1)] w0 fun e w => e = .returned (vi r) ∧ Ext w0 w ∧ AllCl [] F w := by
 refine enterK (l := [(Value.agg #[(vi t1.Kind), (vi t1.Bits), (vi t1.Frac), (vi t1.Round), (vi t1.Over)]), (vs a1 operands1.length c1)]) Tryd.func90 rfl Tryd.ntmps90 rfl ?_
 have hI := Bun.start hF hc
 clear hc
 rw [m_fixed_check] at h
 refine sr ?_
 refine l_box (v := (Value.agg #[(vi t1.Kind), (vi t1.Bits), (vi t1.Frac), (vi t1.Round), (vi t1.Over)])) (cs := #[(vi t1.Kind), (vi t1.Bits), (vi t1.Frac), (vi t1.Round), (vi t1.Over)]) hI gn rfl rfl et rfl ?_
 clear hI; intro b1 c2 w1 hI
 obtain ⟨c3, hI⟩ := hI.relBox .z
 refine sac ?_
 refine nk ?_
 refine c_seq ?_
 refine sr ?_
 refine sq (y_loadN (l := [(vi t1.Kind), (vi t1.Bits), (vi t1.Frac), (vi t1.Round), (vi t1.Over)]) rfl et Tryd.underlying23 rfl size_23 (hI.kblk (l := [(vi t1.Kind), (vi t1.Bits), (vi t1.Frac), (vi t1.Round), (vi t1.Over)]) .z rfl).1) ?_
 obtain ⟨r1, hx1, h⟩ := bnd_some h
 refine s_call gn rfl (r_callF (vs := [(Value.agg #[(vi t1.Kind), (vi t1.Bits), (vi t1.Frac), (vi t1.Round), (vi t1.Over)])]) rfl ok_53 ⟨et, trivial⟩) (Calls.mono (c_fixed_ValidateType (Dj F c3) w1 hI.lt t1 trivial r1 hx1) ?_)
 rintro _ w2 ⟨rfl, hx2, hl1⟩
 refine ⟨_, rfl, ?_⟩
 replace hI := (hI.ext hx2)
 refine sa ?_
 refine nk ?_
 refine sr ?_
 refine sm ?_
 refine sq (y_neq rfl et ev_const) ?_
 refine nk ?_
 refine c_cond (b := !decide (r1 = 0)) et (fun hb => ?_) (fun hb => ?_)
 ·replace h := ite_t hb h
  refine sr ?_
  refine sm ?_
  refine sa ?_
  refine nk ?_
  refine c_ret ?_
  obtain rfl := some_inj h
  exact q_ret (vs := [(vi r1)]) Tryd.results90 ⟨ev_tmp rfl rfl, trivial⟩ ⟨rfl, hI.ext0, hI.fin trivial⟩
 ·replace h := ite_f hb h
  refine c_skip ?_
  refine k_same ?_
  refine c_seq ?_
  refine sr ?_
  refine sm ?_
  refine sq (y_lenl rfl Tryd.underlying25 et) ?_
  refine sq (y_move rfl ev_const) ?_
  refine nk ?_
  refine c_block ?_
  refine c_loop (α := Nat × Int) (fun x => fun w => ∃ C, Bun noM F w0 C w [] [Cl.blk b1 23 #[(vi t1.Kind), (vi t1.Bits), (vi t1.Frac), (vi t1.Round), (vi t1.Over)], Cl.sl cGVal a1 c1 operands1] ∧ m_fixed_check_l1 operands1 t1 (x.1) (x.2) = some r) (fun x _ => x.1) (fun x => [(2, (vp b1 0)), (13, (vs a1 operands1.length c1)), (14, (vi (operands1.length : Int))), (15, (vi (x.2)))]) (fu, 0) ⟨_, hI.arr .n ⟨.z, (.s .z), trivial⟩, h⟩ ⟨rfl, rfl, rfl, rfl, trivial⟩ ?_
  clear h hI; rintro ⟨fuel1, i1⟩ w3 ⟨c4, hI, h⟩
  dsimp only at hI h
  rcases fuel1 with _ | fuel1
  ·rw [m_fixed_check_l1] at h; cases h
  rw [m_fixed_check_l1] at h
  refine c_sub (e := [(2, (vp b1 0)), (13, (vs a1 operands1.length c1)), (14, (vi (operands1.length : Int))), (15, (vi i1))]) ⟨rfl, rfl, rfl, rfl, trivial⟩ ?_
  refine sr ?_
  refine sq (y_lss rfl et et) ?_
  refine nk ?_
  refine c_seq ?_
  refine c_cond (b := decide (i1 < (operands1.length : Int))) et (fun hb => ?_) (fun hb => ?_)
  ·replace h := ite_t hb h
   refine c_skip ?_
   refine k_same ?_
   refine c_seq ?_
   refine c_block ?_
   refine sr ?_
   obtain ⟨e1, hx3, h⟩ := bnd_some h
   obtain ⟨ad1, cs1, hA1, hr1, hq1⟩ := hI.clat (.s .z) hx3
   obtain rfl : cs1 = [(vi e1.N), (vi e1.D)] := hr1
   refine sq (y_indexAddr rfl Tryd.underlying25 size_29 et et (lat_bd hx3) hA1) ?_
   refine sq (y_loadN (l := [(vi e1.N), (vi e1.D)]) rfl et Tryd.underlying29 rfl size_29 hq1.1) ?_
   refine l_alloc (cs := #[(vi 0), (vi 0)]) hI gn rfl rfl zero_29 rfl ?_
   clear hI; intro b2 c5 w4 hI
   refine l_store (new := [(vi e1.N), (vi e1.D)]) (cs' := #[(vi e1.N), (vi e1.D)]) hI .z gn rfl rfl et et rfl size_29 rfl rfl rfl ?_
   clear hI; intro c6 w5 hI
   refine nk ?_
   refine sr ?_
   refine sq (y_loadN (l := [(vi t1.Kind), (vi t1.Bits), (vi t1.Frac), (vi t1.Round), (vi t1.Over)]) rfl et Tryd.underlying23 rfl size_23 (hI.kblk (l := [(vi t1.Kind), (vi t1.Bits), (vi t1.Frac), (vi t1.Round), (vi t1.Over)]) .z rfl).1) ?_
   refine sq (y_loadN (l := [(vi e1.N), (vi e1.D)]) rfl et Tryd.underlying29 rfl size_29 (CellsAt.of_blk (hI.blk .z) rfl)) ?_
   obtain ⟨r2, hx4, h⟩ := bnd_some h
   refine s_call gn rfl (r_callF (vs := [(Value.agg #[(vi t1.Kind), (vi t1.Bits), (vi t1.Frac), (vi t1.Round), (vi t1.Over)]), (Value.agg #[(vi e1.N), (vi e1.D)])]) rfl ok_39 ⟨et, ⟨et, trivial⟩⟩) (Calls.mono (c_fixed_Valid (Dj F c6) w5 hI.lt t1 e1 trivial r2 hx4) ?_)
   rintro _ w6 ⟨rfl, hx5, hl2⟩
   refine ⟨_, rfl, ?_⟩
   replace hI := (hI.ext hx5)
   refine sq (y_not rfl et) ?_
   refine nk ?_
   refine c_cond (b := !r2) et (fun hb => ?_) (fun hb => ?_)
   ·replace h := ite_t hb h
    refine sr ?_
    refine sac ?_
    refine nk ?_
    refine c_ret ?_
    obtain rfl := some_inj h
    exact q_ret (vs := [(vi 1)]) Tryd.results90 ⟨ev_tmp rfl rfl, trivial⟩ ⟨rfl, hI.ext0, hI.fin trivial⟩
   ·replace h := ite_f hb h
    refine c_skip ?_
    refine k_same ?_
    refine c_region rfl ?_
    refine sq (y_add rfl et ev_const) ?_
    refine sm ?_
    refine s_nil ?_
    exact k_loop (fuel1, wi64 (i1 + 1)) ⟨rfl, rfl, rfl, rfl, trivial⟩ ⟨_, hI.arr .n ⟨.z, (.s .z), trivial⟩, h⟩ (Nat.lt_succ_self _)
  ·replace h := ite_f hb h
   refine c_exit ?_
   refine k_in ?_
   refine k_same ?_
   refine sr ?_
   refine sac ?_
   refine nk ?_
   refine c_ret ?_
   obtain rfl := some_inj h
   exact q_ret (vs := [(vi 0)]) Tryd.results90 ⟨ev_tmp rfl rfl, trivial⟩ ⟨rfl, hI.ext0, hI.fin trivial⟩
set_option maxRecDepth 100000 in
set_option maxHeartbeats 4000000 in
theorem c_round_Narrow (F : NP) (w0 : World) (hF : ∀ k, F k → k < w0.heap.size) (n1 : Int) (bits1 : Int) (over1 : Int) (hc : AllCl [] F w0) (r : Int × Bool)
  (h : m_round_Narrow n1 bits1 over1 = some r) :
  Calls Tryd.prog 99 #[(vi n1), (vi bits1), (vi over1)] w0 fun e w => e = .returned (Value.tuple #[(vi r.1), (vb r.2)]) ∧ Ext w0 w ∧ AllCl [] F w := by
 refine enterK (l := [(vi n1), (vi bits1), (vi over1)]) Tryd.func99 rfl Tryd.ntmps99 rfl ?_
 have hI := Bun.start hF hc
 clear hc
 rw [m_round_Narrow] at h
 refine sr ?_
 refine sac ?_
 refine sac ?_
 refine nk ?_
 refine c_seq ?_
 refine sr ?_
 refine sm ?_
 obtain ⟨r1, hx1, h⟩ := bnd_some h
 refine s_call gn rfl (r_callF (vs := [(vi bits1)]) rfl ok_66 ⟨et, trivial⟩) (Calls.mono (c_round_valid (Dj F noM) w0 hI.lt bits1 trivial r1 hx1) ?_)
 rintro _ w1 ⟨rfl, hx2, hl1⟩
 refine ⟨_, rfl, ?_⟩
 replace hI := (hI.ext hx2)
 refine sq (y_not rfl et) ?_
 refine sm ?_
 refine s_gval (g_false rfl rfl rfl rfl) rfl (fun hc => (y_move rfl et)) ?_
 refine s_gval (g_false rfl rfl rfl rfl) rfl (fun hc => (y_neq rfl (ev_gv et hc) ev_const)) ?_
 refine s_gval (g_false rfl rfl rfl rfl) rfl (fun hc => (y_move rfl (ev_gv et hc))) ?_
 refine s_gval (g_true2 rfl rfl rfl rfl) rfl (fun hc => (y_move rfl et)) ?_
 refine s_gval (g_true2 rfl rfl rfl rfl) rfl (fun hc => (y_neq rfl (ev_gv et hc) ev_const)) ?_
 refine s_gval (g_false rfl rfl rfl rfl) rfl (fun hc => (y_and2 rfl hc et et)) ?_
 refine sq (y_or rfl et et) ?_
 refine nk ?_
 refine c_cond (b := (!r1) || ((!decide (over1 = 1)) && (!decide (over1 = 2)))) et (fun hb => ?_) (fun hb => ?_)
 ·replace h := ite_t hb h
  refine sr ?_
  refine sac ?_
  refine sac ?_
  refine nk ?_
  refine c_ret ?_
  obtain rfl := some_inj h
  exact q_ret (vs := [(vi 0), (vb false)]) Tryd.results99 ⟨ev_tmp rfl rfl, ⟨ev_tmp rfl rfl, trivial⟩⟩ ⟨rfl, hI.ext0, hI.fin trivial⟩
 ·replace h := ite_f hb h
  refine c_skip ?_
  refine k_same ?_
  refine sr ?_
  refine sm ?_
  obtain ⟨r2, hx3, h⟩ := bnd_some h
  refine s_call gn rfl (r_callF (vs := [(vi bits1)]) rfl ok_54 ⟨et, trivial⟩) (Calls.mono (c_round_MinInt (Dj F noM) w1 hI.lt bits1 trivial r2 hx3) ?_)
  rintro _ w2 ⟨rfl, hx4, hl2⟩
  refine ⟨_, rfl, ?_⟩
  replace hI := (hI.ext hx4)
  refine sm ?_
  obtain ⟨r3, hx5, h⟩ := bnd_some h
  refine s_call gn rfl (r_callF (vs := [(vi bits1)]) rfl ok_55 ⟨et, trivial⟩) (Calls.mono (c_round_MaxInt (Dj F noM) w2 hI.lt bits1 trivial r3 hx5) ?_)
  rintro _ w3 ⟨rfl, hx6, hl3⟩
  refine ⟨_, rfl, ?_⟩
  replace hI := (hI.ext hx6)
  refine sa ?_
  refine sa ?_
  refine nk ?_
  refine c_seq ?_
  refine c_block ?_
  refine sr ?_
  refine sm ?_
  refine sm ?_
  refine sq (y_geq rfl et et) ?_
  refine sm ?_
  refine s_gval (g_true rfl rfl rfl rfl) rfl (fun hc => (y_move rfl et)) ?_
  refine s_gval (g_true rfl rfl rfl rfl) rfl (fun hc => (y_move rfl et)) ?_
  refine s_gval (g_true rfl rfl rfl rfl) rfl (fun hc => (y_leq rfl (ev_gv et hc) (ev_gv et hc))) ?_
  refine sq (y_and rfl et et) ?_
  refine sa ?_
  refine s_nil ?_
  refine k_next (e := [(0, (vi n1)), (1, (vi bits1)), (2, (vi over1)), (8, (vi r2)), (9, (vi r3)), (26, (vb ((decide (r2 ≤ n1)) && (decide (n1 ≤ r3)))))]) ⟨rfl, rfl, rfl, rfl, rfl, rfl, trivial⟩ ?_
  refine c_cond (b := (decide (r2 ≤ n1)) && (decide (n1 ≤ r3))) et (fun hb => ?_) (fun hb => ?_)
  ·replace h := ite_t hb h
   refine sr ?_
   refine sm ?_
   refine sa ?_
   refine sac ?_
   refine nk ?_
   refine c_ret ?_
   obtain rfl := some_inj h
   exact q_ret (vs := [(vi n1), (vb false)]) Tryd.results99 ⟨ev_tmp rfl rfl, ⟨ev_tmp rfl rfl, trivial⟩⟩ ⟨rfl, hI.ext0, hI.fin trivial⟩
  ·replace h := ite_f hb h
   refine sr ?_
   refine sm ?_
   refine sq (y_eql rfl et ev_const) ?_
   refine sm ?_
   refine s_gval (g_true rfl rfl rfl rfl) rfl (fun hc => (y_move rfl et)) ?_
   refine s_gval (g_true rfl rfl rfl rfl) rfl (fun hc => (y_move rfl et)) ?_
   refine s_gval (g_true rfl rfl rfl rfl) rfl (fun hc => (y_lss rfl (ev_gv et hc) (ev_gv et hc))) ?_
   refine sq (y_and rfl et et) ?_
   refine sa ?_
   refine nk ?_
   refine c_cond (b := (decide (over1 = 1)) && (decide (n1 < r2))) et (fun hb => ?_) (fun hb => ?_)
   ·replace h := ite_t hb h
    refine sr ?_
    refine sm ?_
    refine sa ?_
    refine sac ?_
    refine nk ?_
    refine c_ret ?_
    obtain rfl := some_inj h
    exact q_ret (vs := [(vi r2), (vb true)]) Tryd.results99 ⟨ev_tmp rfl rfl, ⟨ev_tmp rfl rfl, trivial⟩⟩ ⟨rfl, hI.ext0, hI.fin trivial⟩
   ·replace h := ite_f hb h
    refine sr ?_
    refine sm ?_
    refine sq (y_eql rfl et ev_const) ?_
    refine sa ?_
    refine nk ?_
    refine c_cond (b := decide (over1 = 1)) et (fun hb => ?_) (fun hb => ?_)
    ·replace h := ite_t hb h
     refine sr ?_
     refine sm ?_
     refine sa ?_
     refine sac ?_
     refine nk ?_
     refine c_ret ?_
     obtain rfl := some_inj h
     exact q_ret (vs := [(vi r3), (vb true)]) Tryd.results99 ⟨ev_tmp rfl rfl, ⟨ev_tmp rfl rfl, trivial⟩⟩ ⟨rfl, hI.ext0, hI.fin trivial⟩
    ·replace h := ite_f hb h
     refine c_skip ?_
     refine k_same ?_
     refine sr ?_
     refine sm ?_
     refine sq (y_sub rfl ev_const et) ?_
     refine sq (y_conv rfl (by rw [Tryd.underlying3]; rfl) Tryd.underlying92 et) ?_
     refine sa ?_
     refine nk ?_
     refine sr ?_
     refine sm ?_
     refine sq (y_conv rfl (by rw [Tryd.underlying2]; rfl) Tryd.underlying81 et) ?_
     refine sm ?_
     obtain ⟨ho1, h⟩ := chk_some h
     refine sq (y_shl rfl et et ho1) ?_
     refine sq (y_conv rfl (by rw [Tryd.underlying81]; rfl) Tryd.underlying2 et) ?_
     refine sm ?_
     refine sq (y_shr rfl et et ho1) ?_
     refine sa ?_
     refine sac ?_
     refine s_nil ?_
     refine k_next (e := [(6, (vi (Int.fdiv (wi64 (wu64 ((wu64 n1) * 2 ^ (min (Int.toNat (wu64 (wi64 (64 - bits1)))) 64)))) (2 ^ (min (Int.toNat (wu64 (wi64 (64 - bits1)))) 64))))), (7, (vb true))]) ⟨rfl, rfl, trivial⟩ ?_
     refine c_ret ?_
     obtain rfl := some_inj h
     exact q_ret (vs := [(vi (Int.fdiv (wi64 (wu64 ((wu64 n1) * 2 ^ (min (Int.toNat (wu64 (wi64 (64 - bits1)))) 64)))) (2 ^ (min (Int.toNat (wu64 (wi64 (64 - bits1)))) 64)))), (vb true)]) Tryd.results99 ⟨ev_tmp rfl rfl, ⟨ev_tmp rfl rfl, trivial⟩⟩ ⟨rfl, hI.ext0, hI.fin trivial⟩
set_option maxRecDepth 100000 in
set_option maxHeartbeats 4000000 in
theorem c_fixed_narrow (F : NP) (w0 : World) (hF : ∀ k, F k → k < w0.heap.size) (t1 : GType) (n1 : Int) (hc : AllCl [] F w0) (r : GVal)
  (h : m_fixed_narrow t1 n1 = some r) :
  Calls Tryd.prog 91 #[(Value.agg #[(vi t1.Kind), (vi t1.Bits), (vi t1.Frac), (vi t1.Round), (vi t1.Over)]), (vi n1)] w0 fun e w => e = .returned (Value.agg #[(vi r.N), (vi r.D)]) ∧ Ext w0 w ∧ AllCl [] F w := by
 refine enterK (l := [(Value.agg #[(vi t1.Kind), (vi t1.Bits), (vi t1.Frac), (vi t1.Round), (vi t1.Over)]), (vi n1)]) Tryd.func91 rfl Tryd.ntmps91 rfl ?_
 have hI := Bun.start hF hc
 clear hc
 rw [m_fixed_narrow] at h
 refine sr ?_
 refine l_box (v := (Value.agg #[(vi t1.Kind), (vi t1.Bits), (vi t1.Frac), (vi t1.Round), (vi t1.Over)])) (cs := #[(vi t1.Kind), (vi t1.Bits), (vi t1.Frac), (vi t1.Round), (vi t1.Over)]) hI gn rfl rfl et rfl ?_
 clear hI; intro b1 c1 w1 hI
 obtain ⟨c2, hI⟩ := hI.relBox .z
 refine l_alloc (cs := #[(vi 0), (vi 0)]) hI gn rfl rfl zero_29 rfl ?_
 clear hI; intro b2 c3 w2 hI
 refine nk ?_
 refine sr ?_
 refine sm ?_
 refine sq (y_fieldAddr rfl et Tryd.underlying23 rfl size_3 rfl) ?_
 refine sq (y_load1 (v := (vi t1.Bits)) rfl et Tryd.underlying3 rfl (hI.kblk (l := [(vi t1.Bits)]) .z rfl).1) ?_
 refine sq (y_fieldAddr rfl et Tryd.underlying23 rfl size_3 rfl) ?_
 refine sq (y_load1 (v := (vi t1.Over)) rfl et Tryd.underlying3 rfl (hI.kblk (l := [(vi t1.Over)]) .z rfl).1) ?_
 obtain ⟨r1, hx1, h⟩ := bnd_some h
 refine s_call gn rfl (r_callF (vs := [(vi n1), (vi t1.Bits), (vi t1.Over)]) rfl ok_99 ⟨et, ⟨et, ⟨et, trivial⟩⟩⟩) (Calls.mono (c_round_Narrow (Dj F c3) w2 hI.lt n1 t1.Bits t1.Over trivial r1 hx1) ?_)
 rintro _ w3 ⟨rfl, hx2, hl1⟩
 refine ⟨_, rfl, ?_⟩
 replace hI := (hI.ext hx2)
 refine sm ?_
 refine sq (y_extract rfl et rfl) ?_
 refine sq (y_extract rfl et rfl) ?_
 refine sa ?_
 refine sa ?_
 refine nk ?_
 refine sr ?_
 refine sm ?_
 refine sq (y_build (vs := [(0, (vi r1.1)), (1, (vi 1))]) (cs := #[(vi r1.1), (vi 1)]) rfl ⟨rfl, et, ⟨rfl, ev_const, trivial⟩⟩ (by kernel_rfl)) ?_
 refine l_store (new := [(vi r1.1), (vi 1)]) (cs' := #[(vi r1.1), (vi 1)]) hI .z gn rfl rfl et et rfl size_29 rfl rfl rfl ?_
 clear hI; intro c4 w4 hI
 refine nk ?_
 refine c_ret ?_
 obtain rfl := some_inj h
 exact q_ret (vs := [(Value.agg #[(vi r1.1), (vi 1)])]) Tryd.results91 ⟨⟨_, ev_tmp rfl rfl, load_agg (l := [(vi r1.1), (vi 1)]) Tryd.underlying29 rfl size_29 (CellsAt.of_blk (hI.blk .z) rfl)⟩, trivial⟩ ⟨rfl, hI.ext0, hI.fin trivial⟩
set_option maxRecDepth 100000 in
set_option maxHeartbeats 4000000 in
theorem c_fixed_apply (F : NP) (w0 : World) (hF : ∀ k, F k → k < w0.heap.size) (op1 : Gfixed_operation) (t1 : GType) (a1 : GVal) (b1 : GVal) (fv1 : Value) (hc : AllCl [clFn_k1 fv1 op1.run] F w0) (r : GVal × Int)
  (h : m_fixed_apply op1 t1 a1 b1 = some r) :
  Calls Tryd.prog 80 #[(Value.agg #[fv1]), (Value.agg #[(vi t1.Kind), (vi t1.Bits), (vi t1.Frac), (vi t1.Round), (vi t1.Over)]), (Value.agg #[(vi a1.N), (vi a1.D)]), (Value.agg #[(vi b1.N), (vi b1.D)])] w0 fun e w => e = .returned (Value.tuple #[(Value.agg #[(vi r.1.N), (vi r.1.D)]), (vi r.2)]) ∧ Ext w0 w ∧ AllCl [] F w := by
 refine enterK (l := [(Value.agg #[fv1]), (Value.agg #[(vi t1.Kind), (vi t1.Bits), (vi t1.Frac), (vi t1.Round), (vi t1.Over)]), (Value.agg #[(vi a1.N), (vi a1.D)]), (Value.agg #[(vi b1.N), (vi b1.D)])]) Tryd.func80 rfl Tryd.ntmps80 rfl ?_
 have hI := Bun.start hF hc
 clear hc
 rw [m_fixed_apply] at h
 refine sr ?_
 refine l_box (v := (Value.agg #[fv1])) (cs := #[fv1]) hI gn rfl rfl et rfl ?_
 clear hI; intro b2 c1 w1 hI
 obtain ⟨c2, hI⟩ := hI.relBox .z
 refine l_box (v := (Value.agg #[(vi t1.Kind), (vi t1.Bits), (vi t1.Frac), (vi t1.Round), (vi t1.Over)])) (cs := #[(vi t1.Kind), (vi t1.Bits), (vi t1.Frac), (vi t1.Round), (vi t1.Over)]) hI gn rfl rfl et rfl ?_
 clear hI; intro b3 c3 w2 hI
 obtain ⟨c4, hI⟩ := hI.relBox .z
 refine l_box (v := (Value.agg #[(vi a1.N), (vi a1.D)])) (cs := #[(vi a1.N), (vi a1.D)]) hI gn rfl rfl et rfl ?_
 clear hI; intro b4 c5 w3 hI
 obtain ⟨c6, hI⟩ := hI.relBox .z
 refine l_box (v := (Value.agg #[(vi b1.N), (vi b1.D)])) (cs := #[(vi b1.N), (vi b1.D)]) hI gn rfl rfl et rfl ?_
 clear hI; intro b5 c7 w4 hI
 obtain ⟨c8, hI⟩ := hI.relBox .z
 refine l_alloc (cs := #[(vi 0), (vi 0)]) hI gn rfl rfl zero_29 rfl ?_
 clear hI; intro b6 c9 w5 hI
 refine sac ?_
 refine nk ?_
 refine c_seq ?_
 refine sr ?_
 refine sq (y_loadN (l := [(vi t1.Kind), (vi t1.Bits), (vi t1.Frac), (vi t1.Round), (vi t1.Over)]) rfl et Tryd.underlying23 rfl size_23 (hI.kblk (l := [(vi t1.Kind), (vi t1.Bits), (vi t1.Frac), (vi t1.Round), (vi t1.Over)]) (.s (.s .z)) rfl).1) ?_
 refine sq (y_loadN (l := [(vi a1.N), (vi a1.D)]) rfl et Tryd.underlying29 rfl size_29 (hI.kblk (l := [(vi a1.N), (vi a1.D)]) (.s .z) rfl).1) ?_
 refine sq (y_loadN (l := [(vi b1.N), (vi b1.D)]) rfl et Tryd.underlying29 rfl size_29 (hI.kblk (l := [(vi b1.N), (vi b1.D)]) .z rfl).1) ?_
 refine l_lit (c := cGVal) (xs := ([a1, b1] : List GVal)) (vs := [(0, (Value.agg #[(vi a1.N), (vi a1.D)])), (1, (Value.agg #[(vi b1.N), (vi b1.D)]))]) (cs := #[(vi a1.N), (vi a1.D), (vi b1.N), (vi b1.D)]) (css := [[(vi a1.N), (vi a1.D)], [(vi b1.N), (vi b1.D)]]) hI gn rfl rfl Tryd.underlying25 info_29 rfl ⟨rfl, et, ⟨rfl, et, trivial⟩⟩ (by kernel_rfl) ⟨rfl, ⟨rfl, trivial⟩⟩ rfl rfl rfl ?_
 clear hI; intro b7 c10 w6 hI
 obtain ⟨r1, hx1, h⟩ := bnd_some h
 refine s_call gn rfl (r_callF (vs := [(Value.agg #[(vi t1.Kind), (vi t1.Bits), (vi t1.Frac), (vi t1.Round), (vi t1.Over)]), (vs (some ⟨b7, 0, none⟩) ([a1, b1] : List GVal).length 2)]) rfl ok_90 ⟨et, ⟨et, trivial⟩⟩) (Calls.mono (c_fixed_check noM w6 (fun _ k => k.elim) t1 ([a1, b1] : List GVal) (some ⟨b7, 0, none⟩) 2 ⟨hI.lend .z, trivial⟩ r1 hx1) ?_)
 rintro _ w7 ⟨rfl, hx2, hl1⟩
 refine ⟨_, rfl, ?_⟩
 replace hI := (hI.ext hx2)
 refine sa ?_
 refine nk ?_
 refine sr ?_
 refine sm ?_
 refine sq (y_neq rfl et ev_const) ?_
 refine nk ?_
 refine c_cond (b := !decide (r1 = 0)) et (fun hb => ?_) (fun hb => ?_)
 ·replace h := ite_t hb h
  refine sr ?_
  refine sq (y_build (vs := []) (cs := #[(vi 0), (vi 0)]) rfl trivial (by kernel_rfl)) ?_
  refine sm ?_
  refine l_store (new := [(vi 0), (vi 0)]) (cs' := #[(vi 0), (vi 0)]) hI (.s .z) gn rfl rfl et et rfl size_29 rfl rfl rfl ?_
  clear hI; intro c11 w8 hI
  refine sa ?_
  refine nk ?_
  refine c_ret ?_
  obtain rfl := some_inj h
  exact q_ret (vs := [(Value.agg #[(vi 0), (vi 0)]), (vi r1)]) Tryd.results80 ⟨⟨_, ev_tmp rfl rfl, load_agg (l := [(vi 0), (vi 0)]) Tryd.underlying29 rfl size_29 (CellsAt.of_blk (hI.blk (.s .z)) rfl)⟩, ⟨ev_tmp rfl rfl, trivial⟩⟩ ⟨rfl, hI.ext0, hI.fin trivial⟩
 ·replace h := ite_f hb h
  refine c_skip ?_
  refine k_same ?_
  refine sr ?_
  refine sq (y_fieldAddr rfl et Tryd.underlying101 rfl size_99 rfl) ?_
  refine sq (y_load1 (v := fv1) rfl et Tryd.underlying99 rfl (hI.kblk (l := [fv1]) (.s (.s (.s .z))) rfl).1) ?_
  refine sq (y_loadN (l := [(vi t1.Kind), (vi t1.Bits), (vi t1.Frac), (vi t1.Round), (vi t1.Over)]) rfl et Tryd.underlying23 rfl size_23 (hI.kblk (l := [(vi t1.Kind), (vi t1.Bits), (vi t1.Frac), (vi t1.Round), (vi t1.Over)]) (.s (.s .z)) rfl).1) ?_
  refine sq (y_fieldAddr rfl et Tryd.underlying29 rfl size_2 rfl) ?_
  refine sq (y_load1 (v := (vi a1.N)) rfl et Tryd.underlying2 rfl (hI.kblk (l := [(vi a1.N)]) (.s .z) rfl).1) ?_
  refine sq (y_fieldAddr rfl et Tryd.underlying29 rfl size_2 rfl) ?_
  refine sq (y_load1 (v := (vi b1.N)) rfl et Tryd.underlying2 rfl (hI.kblk (l := [(vi b1.N)]) .z rfl).1) ?_
  obtain ⟨r2, hx3, h⟩ := bnd_some h
  refine s_callV (args := [(Value.agg #[(vi t1.Kind), (vi t1.Bits), (vi t1.Frac), (vi t1.Round), (vi t1.Over)]), (vi a1.N), (vi b1.N)]) gn rfl rfl et ⟨et, ⟨et, ⟨et, trivial⟩⟩⟩ (CallV.mono ((hI.get (.s (.s (.s (.s .z))))).2 (Dj F c10) w7 (Sp.of_ext .rfl') hI.lt t1 a1.N b1.N r2 trivial hx3) ?_)
  rintro _ w9 ⟨rfl, hx4, hl2⟩
  refine ⟨_, rfl, ?_⟩
  replace hI := (hI.ext hx4)
  refine sm ?_
  refine sq (y_extract rfl et rfl) ?_
  refine sq (y_extract rfl et rfl) ?_
  refine sa ?_
  refine sa ?_
  refine s_nil ?_
  refine k_next (e := [(5, (vp b3 0)), (8, (vp b6 0)), (11, (vi r2.1)), (12, (vi r2.2))]) ⟨rfl, rfl, rfl, rfl, trivial⟩ ?_
  refine c_seq ?_
  refine sr ?_
  refine sm ?_
  refine sq (y_neq rfl et ev_const) ?_
  refine nk ?_
  refine c_cond (b := !decide (r2.2 = 0)) et (fun hb => ?_) (fun hb => ?_)
  ·replace h := ite_t hb h
   refine sr ?_
   refine sq (y_build (vs := []) (cs := #[(vi 0), (vi 0)]) rfl trivial (by kernel_rfl)) ?_
   refine sm ?_
   refine l_store (new := [(vi 0), (vi 0)]) (cs' := #[(vi 0), (vi 0)]) hI (.s .z) gn rfl rfl et et rfl size_29 rfl rfl rfl ?_
   clear hI; intro c12 w10 hI
   refine sa ?_
   refine nk ?_
   refine c_ret ?_
   obtain rfl := some_inj h
   exact q_ret (vs := [(Value.agg #[(vi 0), (vi 0)]), (vi r2.2)]) Tryd.results80 ⟨⟨_, ev_tmp rfl rfl, load_agg (l := [(vi 0), (vi 0)]) Tryd.underlying29 rfl size_29 (CellsAt.of_blk (hI.blk (.s .z)) rfl)⟩, ⟨ev_tmp rfl rfl, trivial⟩⟩ ⟨rfl, hI.ext0, hI.fin trivial⟩
  ·replace h := ite_f hb h
   refine c_skip ?_
   refine k_same ?_
   refine sr ?_
   refine sq (y_loadN (l := [(vi t1.Kind), (vi t1.Bits), (vi t1.Frac), (vi t1.Round), (vi t1.Over)]) rfl et Tryd.underlying23 rfl size_23 (hI.kblk (l := [(vi t1.Kind), (vi t1.Bits), (vi t1.Frac), (vi t1.Round), (vi t1.Over)]) (.s (.s .z)) rfl).1) ?_
   refine sm ?_
   obtain ⟨r3, hx5, h⟩ := bnd_some h
   refine s_call gn rfl (r_callF (vs := [(Value.agg #[(vi t1.Kind), (vi t1.Bits), (vi t1.Frac), (vi t1.Round), (vi t1.Over)]), (vi r2.1)]) rfl ok_91 ⟨et, ⟨et, trivial⟩⟩) (Calls.mono (c_fixed_narrow (Dj F c10) w9 hI.lt t1 r2.1 trivial r3 hx5) ?_)
   rintro _ w11 ⟨rfl, hx6, hl3⟩
   refine ⟨_, rfl, ?_⟩
   replace hI := (hI.ext hx6)
   refine l_store (new := [(vi r3.N), (vi r3.D)]) (cs' := #[(vi r3.N), (vi r3.D)]) hI (.s .z) gn rfl rfl et et rfl size_29 rfl rfl rfl ?_
   clear hI; intro c13 w12 hI
   refine sac ?_
   refine nk ?_
   refine c_ret ?_
   obtain rfl := some_inj h
   exact q_ret (vs := [(Value.agg #[(vi r3.N), (vi r3.D)]), (vi 0)]) Tryd.results80 ⟨⟨_, ev_tmp rfl rfl, load_agg (l := [(vi r3.N), (vi r3.D)]) Tryd.underlying29 rfl size_29 (CellsAt.of_blk (hI.blk (.s .z)) rfl)⟩, ⟨ev_tmp rfl rfl, trivial⟩⟩ ⟨rfl, hI.ext0, hI.fin trivial⟩
set_option maxRecDepth 100000 in
set_option maxHeartbeats 4000000 in
theorem c_fixed_Neg (F : NP) (w0 : World) (hF : ∀ k, F k → k < w0.heap.size) (t1 : GType) (a1 : GVal) (hc : AllCl [] F w0) (r : GVal × Int)
  (h : m_fixed_Neg t1 a1 = some r) :
  Calls Tryd.prog 67 #[(Value.agg #[(vi t1.Kind), (vi t1.Bits), (vi t1.Frac), (vi t1.Round), (vi t1.Over)]), (Value.agg #[(vi a1.N), (vi a1.D)])] w0 fun e w => e = .returned (Value.tuple #[(Value.agg #[(vi r.1.N), (vi r.1.D)]), (vi r.2)]) ∧ Ext w0 w ∧ AllCl [] F w := by
 refine enterK (l := [(Value.agg #[(vi t1.Kind), (vi t1.Bits), (vi t1.Frac), (vi t1.Round), (vi t1.Over)]), (Value.agg #[(vi a1.N), (vi a1.D)])]) Tryd.func67 rfl Tryd.ntmps67 rfl ?_
 have hI := Bun.start hF hc
 clear hc
 rw [m_fixed_Neg] at h
 refine sr ?_
 refine l_box (v := (Value.agg #[(vi t1.Kind), (vi t1.Bits), (vi t1.Frac), (vi t1.Round), (vi t1.Over)])) (cs := #[(vi t1.Kind), (vi t1.Bits), (vi t1.Frac), (vi t1.Round), (vi t1.Over)]) hI gn rfl rfl et rfl ?_
 clear hI; intro b1 c1 w1 hI
 obtain ⟨c2, hI⟩ := hI.relBox .z
 refine l_box (v := (Value.agg #[(vi a1.N), (vi a1.D)])) (cs := #[(vi a1.N), (vi a1.D)]) hI gn rfl rfl et rfl ?_
 clear hI; intro b2 c3 w2 hI
 obtain ⟨c4, hI⟩ := hI.relBox .z
 refine l_alloc (cs := #[(vi 0), (vi 0)]) hI gn rfl rfl zero_29 rfl ?_
 clear hI; intro b3 c5 w3 hI
 refine sac ?_
 refine nk ?_
 refine sr ?_
 refine sq (y_build (vs := [(0, (Value.func (.func 81) #[] #[]))]) (cs := #[(Value.func (.func 81) #[] #[])]) rfl ⟨rfl, ev_func, trivial⟩ (by kernel_rfl)) ?_
 refine sq (y_loadN (l := [(vi t1.Kind), (vi t1.Bits), (vi t1.Frac), (vi t1.Round), (vi t1.Over)]) rfl et Tryd.underlying23 rfl size_23 (hI.kblk (l := [(vi t1.Kind), (vi t1.Bits), (vi t1.Frac), (vi t1.Round), (vi t1.Over)]) (.s .z) rfl).1) ?_
 refine sq (y_loadN (l := [(vi a1.N), (vi a1.D)]) rfl et Tryd.underlying29 rfl size_29 (hI.kblk (l := [(vi a1.N), (vi a1.D)]) .z rfl).1) ?_
 refine sq (y_loadN (l := [(vi a1.N), (vi a1.D)]) rfl et Tryd.underlying29 rfl size_29 (hI.kblk (l := [(vi a1.N), (vi a1.D)]) .z rfl).1) ?_
 have hI := hI.add (c := clFn_k1 (Value.func (.func 81) #[] #[]) m_fixed_Neg_1) ⟨rfl, fun D' w' hs hl x_1 x_2 x_3 r k h => CallV.fn (cap := []) ok_81 (c_fixed_Neg_1 D' w' hl x_1 x_2 x_3 trivial r h)⟩
 obtain ⟨r1, hx1, h⟩ := bnd_some h
 refine s_call gn rfl (r_callF (vs := [(Value.agg #[(Value.func (.func 81) #[] #[])]), (Value.agg #[(vi t1.Kind), (vi t1.Bits), (vi t1.Frac), (vi t1.Round), (vi t1.Over)]), (Value.agg #[(vi a1.N), (vi a1.D)]), (Value.agg #[(vi a1.N), (vi a1.D)])]) rfl ok_80 ⟨et, ⟨et, ⟨et, ⟨et, trivial⟩⟩⟩⟩) (Calls.mono (c_fixed_apply (Dj F c5) w3 hI.lt (⟨m_fixed_Neg_1⟩ : Gfixed_operation) t1 a1 a1 (Value.func (.func 81) #[] #[]) ⟨(hI.get .z), trivial⟩ r1 hx1) ?_)
 rintro _ w4 ⟨rfl, hx2, hl1⟩
 refine ⟨_, rfl, ?_⟩
 replace hI := (hI.ext hx2)
 refine sq (y_extract rfl et rfl) ?_
 refine sq (y_extract rfl et rfl) ?_
 refine l_store (new := [(vi r1.1.N), (vi r1.1.D)]) (cs' := #[(vi r1.1.N), (vi r1.1.D)]) hI .z gn rfl rfl et et rfl size_29 rfl rfl rfl ?_
 clear hI; intro c6 w5 hI
 refine sa ?_
 refine nk ?_
 refine c_ret ?_
 obtain rfl := some_inj h
 exact q_ret (vs := [(Value.agg #[(vi r1.1.N), (vi r1.1.D)]), (vi r1.2)]) Tryd.results67 ⟨⟨_, ev_tmp rfl rfl, load_agg (l := [(vi r1.1.N), (vi r1.1.D)]) Tryd.underlying29 rfl size_29 (CellsAt.of_blk (hI.blk .z) rfl)⟩, ⟨ev_tmp rfl rfl, trivial⟩⟩ ⟨rfl, hI.ext0, hI.fin trivial⟩
set_option maxRecDepth 100000 in
set_option maxHeartbeats 4000000 in
theorem c_value_negate (F : NP) (w0 : World) (hF : ∀ k, F k → k < w0.heap.size) (t1 : GType) (a1 : GVal) (hc : AllCl [] F w0) (r : GVal × Int)
  (h : m_value_negate t1 a1 = some r) :
  Calls Tryd.prog 59 #[(Value.agg #[(vi t1.Kind), (vi t1.Bits), (vi t1.Frac), (vi t1.Round), (vi t1.Over)]), (Value.agg #[(vi a1.N), (vi a1.D)])] w0 fun e w => e = .returned (Value.tuple #[(Value.agg #[(vi r.1.N), (vi r.1.D)]), (vi r.2)]) ∧ Ext w0 w ∧ AllCl [] F w := by
 refine enterK (l := [(Value.agg #[(vi t1.Kind), (vi t1.Bits), (vi t1.Frac), (vi t1.Round), (vi t1.Over)]), (Value.agg #[(vi a1.N), (vi a1.D)])]) Tryd.func59 rfl Tryd.ntmps59 rfl ?_
 have hI := Bun.start hF hc
 clear hc
 rw [m_value_negate] at h
 refine sr ?_
 refine l_box (v := (Value.agg #[(vi t1.Kind), (vi t1.Bits), (vi t1.Frac), (vi t1.Round), (vi t1.Over)])) (cs := #[(vi t1.Kind), (vi t1.Bits), (vi t1.Frac), (vi t1.Round), (vi t1.Over)]) hI gn rfl rfl et rfl ?_
 clear hI; intro b1 c1 w1 hI
 obtain ⟨c2, hI⟩ := hI.relBox .z
 refine l_box (v := (Value.agg #[(vi a1.N), (vi a1.D)])) (cs := #[(vi a1.N), (vi a1.D)]) hI gn rfl rfl et rfl ?_
 clear hI; intro b2 c3 w2 hI
 obtain ⟨c4, hI⟩ := hI.relBox .z
 refine l_alloc (cs := #[(vi 0), (vi 0)]) hI gn rfl rfl zero_29 rfl ?_
 clear hI; intro b3 c5 w3 hI
 refine sac ?_
 refine nk ?_
 refine c_seq ?_
 refine sr ?_
 refine sq (y_fieldAddr rfl et Tryd.underlying23 rfl size_3 rfl) ?_
 refine sq (y_load1 (v := (vi t1.Kind)) rfl et Tryd.underlying3 rfl (hI.kblk (l := [(vi t1.Kind)]) (.s .z) rfl).1) ?_
 refine sq (y_eql rfl et ev_const) ?_
 refine nk ?_
 refine c_cond (b := decide (t1.Kind = 2)) et (fun hb => ?_) (fun hb => ?_)
 ·replace h := ite_t hb h
  refine sr ?_
  refine sq (y_loadN (l := [(vi t1.Kind), (vi t1.Bits), (vi t1.Frac), (vi t1.Round), (vi t1.Over)]) rfl et Tryd.underlying23 rfl size_23 (hI.kblk (l := [(vi t1.Kind), (vi t1.Bits), (vi t1.Frac), (vi t1.Round), (vi t1.Over)]) (.s .z) rfl).1) ?_
  refine sq (y_loadN (l := [(vi a1.N), (vi a1.D)]) rfl et Tryd.underlying29 rfl size_29 (hI.kblk (l := [(vi a1.N), (vi a1.D)]) .z rfl).1) ?_
  obtain ⟨r1, hx1, h⟩ := bnd_some h
  refine s_call gn rfl (r_callF (vs := [(Value.agg #[(vi t1.Kind), (vi t1.Bits), (vi t1.Frac), (vi t1.Round), (vi t1.Over)]), (Value.agg #[(vi a1.N), (vi a1.D)])]) rfl ok_67 ⟨et, ⟨et, trivial⟩⟩) (Calls.mono (c_fixed_Neg (Dj F c5) w3 hI.lt t1 a1 trivial r1 hx1) ?_)
  rintro _ w4 ⟨rfl, hx2, hl1⟩
  refine ⟨_, rfl, ?_⟩
  replace hI := (hI.ext hx2)
  refine sq (y_extract rfl et rfl) ?_
  refine sq (y_extract rfl et rfl) ?_
  refine l_store (new := [(vi r1.1.N), (vi r1.1.D)]) (cs' := #[(vi r1.1.N), (vi r1.1.D)]) hI .z gn rfl rfl et et rfl size_29 rfl rfl rfl ?_
  clear hI; intro c6 w5 hI
  refine sa ?_
  refine nk ?_
  refine c_ret ?_
  obtain rfl := some_inj h
  exact q_ret (vs := [(Value.agg #[(vi r1.1.N), (vi r1.1.D)]), (vi r1.2)]) Tryd.results59 ⟨⟨_, ev_tmp rfl rfl, load_agg (l := [(vi r1.1.N), (vi r1.1.D)]) Tryd.underlying29 rfl size_29 (CellsAt.of_blk (hI.blk .z) rfl)⟩, ⟨ev_tmp rfl rfl, trivial⟩⟩ ⟨rfl, hI.ext0, hI.fin trivial⟩
 ·replace h := ite_f hb h
  refine c_skip ?_
  refine k_same ?_
  refine sr ?_
  refine sq (y_fieldAddr rfl et Tryd.underlying29 rfl size_2 rfl) ?_
  refine sq (y_load1 (v := (vi a1.N)) rfl et Tryd.underlying2 rfl (hI.kblk (l := [(vi a1.N)]) .z rfl).1) ?_
  refine sq (y_neg rfl et) ?_
  refine sq (y_fieldAddr rfl et Tryd.underlying29 rfl size_2 rfl) ?_
  refine sq (y_load1 (v := (vi a1.D)) rfl et Tryd.underlying2 rfl (hI.kblk (l := [(vi a1.D)]) .z rfl).1) ?_
  refine sq (y_build (vs := [(0, (vi (wi64 (-a1.N)))), (1, (vi a1.D))]) (cs := #[(vi (wi64 (-a1.N))), (vi a1.D)]) rfl ⟨rfl, et, ⟨rfl, et, trivial⟩⟩ (by kernel_rfl)) ?_
  refine l_store (new := [(vi (wi64 (-a1.N))), (vi a1.D)]) (cs' := #[(vi (wi64 (-a1.N))), (vi a1.D)]) hI .z gn rfl rfl et et rfl size_29 rfl rfl rfl ?_
  clear hI; intro c7 w6 hI
  refine sac ?_
  refine nk ?_
  refine c_ret ?_
  obtain rfl := some_inj h
  exact q_ret (vs := [(Value.agg #[(vi (wi64 (-a1.N))), (vi a1.D)]), (vi 0)]) Tryd.results59 ⟨⟨_, ev_tmp rfl rfl, load_agg (l := [(vi (wi64 (-a1.N))), (vi a1.D)]) Tryd.underlying29 rfl size_29 (CellsAt.of_blk (hI.blk .z) rfl)⟩, ⟨ev_tmp rfl rfl, trivial⟩⟩ ⟨rfl, hI.ext0, hI.fin trivial⟩
set_option maxRecDepth 100000 in
set_option maxHeartbeats 4000000 in
theorem c_frac_order (F : NP) (w0 : World) (hF : ∀ k, F k → k < w0.heap.size) (a1 : Int) (b1 : Int) (hc : AllCl [] F w0) (r : Int)
  (h : m_frac_order a1 b1 = some r) :
  Calls Tryd.prog 82 #[(vi a1), (vi b1)] w0 fun e w => e = .returned (vi r) ∧ Ext w0 w ∧ AllCl [] F w := by
 refine enterK (l := [(vi a1), (vi b1)]) Tryd.func82 rfl Tryd.ntmps82 rfl ?_
 have hI := Bun.start hF hc
 clear hc
 rw [m_frac_order] at h
 refine sr ?_
 refine sac ?_
 refine nk ?_
 refine c_seq ?_
 refine c_block ?_
 refine sr ?_
 refine sm ?_
 refine sm ?_
 refine sq (y_lss rfl et et) ?_
 refine sa ?_
 refine nk ?_
 refine c_cond (b := decide (a1 < b1)) et (fun hb => ?_) (fun hb => ?_)
 ·replace h := ite_t hb h
  refine sr ?_
  refine sac ?_
  refine nk ?_
  refine c_ret ?_
  obtain rfl := some_inj h
  exact q_ret (vs := [(vi (-1))]) Tryd.results82 ⟨ev_tmp rfl rfl, trivial⟩ ⟨rfl, hI.ext0, hI.fin trivial⟩
 ·replace h := ite_f hb h
  refine sr ?_
  refine sm ?_
  refine sm ?_
  refine sq (y_gtr rfl et et) ?_
  refine sa ?_
  refine nk ?_
  refine c_cond (b := decide (b1 < a1)) et (fun hb => ?_) (fun hb => ?_)
  ·replace h := ite_t hb h
   refine sr ?_
   refine sac ?_
   refine nk ?_
   refine c_ret ?_
   obtain rfl := some_inj h
   exact q_ret (vs := [(vi 1)]) Tryd.results82 ⟨ev_tmp rfl rfl, trivial⟩ ⟨rfl, hI.ext0, hI.fin trivial⟩
  ·replace h := ite_f hb h
   refine c_skip ?_
   refine k_same ?_
   refine sr ?_
   refine sac ?_
   refine nk ?_
   refine c_ret ?_
   obtain rfl := some_inj h
   exact q_ret (vs := [(vi 0)]) Tryd.results82 ⟨ev_tmp rfl rfl, trivial⟩ ⟨rfl, hI.ext0, hI.fin trivial⟩
set_option maxRecDepth 100000 in
set_option maxHeartbeats 4000000 in
theorem c_frac_Compare (F : NP) (w0 : World) (hF : ∀ k, F k → k < w0.heap.size) (a1 : GVal) (b1 : GVal) (hc : AllCl [] F w0) (r : Int)
  (h : m_frac_Compare a1 b1 = some r) :
  Calls Tryd.prog 68 #[(Value.agg #[(vi a1.N), (vi a1.D)]), (Value.agg #[(vi b1.N), (vi b1.D)])] w0 fun e w => e = .returned (vi r) ∧ Ext w0 w ∧ AllCl [] F w := by
 refine enterK (l := [(Value.agg #[(vi a1.N), (vi a1.D)]), (Value.agg #[(vi b1.N), (vi b1.D)])]) Tryd.func68 rfl Tryd.ntmps68 rfl ?_
 have hI := Bun.start hF hc
 clear hc
 rw [m_frac_Compare] at h
 refine sr ?_
 refine l_box (v := (Value.agg #[(vi a1.N), (vi a1.D)])) (cs := #[(vi a1.N), (vi a1.D)]) hI gn rfl rfl et rfl ?_
 clear hI; intro b2 c1 w1 hI
 obtain ⟨c2, hI⟩ := hI.relBox .z
 refine l_box (v := (Value.agg #[(vi b1.N), (vi b1.D)])) (cs := #[(vi b1.N), (vi b1.D)]) hI gn rfl rfl et rfl ?_
 clear hI; intro b3 c3 w2 hI
 obtain ⟨c4, hI⟩ := hI.relBox .z
 refine sac ?_
 refine nk ?_
 refine c_seq ?_
 refine sr ?_
 refine sq (y_loadN (l := [(vi a1.N), (vi a1.D)]) rfl et Tryd.underlying29 rfl size_29 (hI.kblk (l := [(vi a1.N), (vi a1.D)]) (.s .z) rfl).1) ?_
 obtain ⟨r1, hx1, h⟩ := bnd_some h
 refine s_call gn rfl (r_callF (vs := [(Value.agg #[(vi a1.N), (vi a1.D)])]) rfl ok_41 ⟨et, trivial⟩) (Calls.mono (c_frac_Valid (Dj F c4) w2 hI.lt a1 trivial r1 hx1) ?_)
 rintro _ w3 ⟨rfl, hx2, hl1⟩
 refine ⟨_, rfl, ?_⟩
 replace hI := (hI.ext hx2)
 refine sm ?_
 refine s_gval (g_true rfl rfl rfl rfl) rfl (fun hc => (y_loadN (l := [(vi b1.N), (vi b1.D)]) rfl et Tryd.underlying29 rfl size_29 (hI.kblk (l := [(vi b1.N), (vi b1.D)]) .z rfl).1)) ?_
 obtain ⟨r2, hx3, h⟩ := bnd_some h
 replace hx3 := gd_some hx3
 refine s_gcallU (v := (vb r2)) (g_true rfl rfl rfl rfl) rfl (fun hc => (r_callF (vs := [(Value.agg #[(vi b1.N), (vi b1.D)])]) rfl ok_41 ⟨(ev_gv et hc), trivial⟩)) (fun hc => (c_frac_Valid (Dj F c4) w3 hI.lt b1 trivial r2 (hx3 hc)).mono fun _ _ k => ⟨k.1, k.2.1⟩) ?_
 intro w4 hx4; replace hI := hI.ext hx4
 refine sq (y_and rfl et et) ?_
 refine nk ?_
 refine c_cond (b := r1 && r2) et (fun hb => ?_) (fun hb => ?_)
 ·replace h := ite_t hb h
  refine sr ?_
  refine sq (y_fieldAddr rfl et Tryd.underlying29 rfl size_2 rfl) ?_
  refine sq (y_load1 (v := (vi a1.N)) rfl et Tryd.underlying2 rfl (hI.kblk (l := [(vi a1.N)]) (.s .z) rfl).1) ?_
  refine sq (y_fieldAddr rfl et Tryd.underlying29 rfl size_2 rfl) ?_
  refine sq (y_load1 (v := (vi b1.D)) rfl et Tryd.underlying2 rfl (hI.kblk (l := [(vi b1.D)]) .z rfl).1) ?_
  refine sq (y_mul rfl et et) ?_
  refine sq (y_fieldAddr rfl et Tryd.underlying29 rfl size_2 rfl) ?_
  refine sq (y_load1 (v := (vi b1.N)) rfl et Tryd.underlying2 rfl (hI.kblk (l := [(vi b1.N)]) .z rfl).1) ?_
  refine sq (y_fieldAddr rfl et Tryd.underlying29 rfl size_2 rfl) ?_
  refine sq (y_load1 (v := (vi a1.D)) rfl et Tryd.underlying2 rfl (hI.kblk (l := [(vi a1.D)]) (.s .z) rfl).1) ?_
  refine sq (y_mul rfl et et) ?_
  obtain ⟨r3, hx5, h⟩ := bnd_some h
  refine s_call gn rfl (r_callF (vs := [(vi (wi64 (a1.N * b1.D))), (vi (wi64 (b1.N * a1.D)))]) rfl ok_82 ⟨et, ⟨et, trivial⟩⟩) (Calls.mono (c_frac_order (Dj F c4) w4 hI.lt (wi64 (a1.N * b1.D)) (wi64 (b1.N * a1.D)) trivial r3 hx5) ?_)
  rintro _ w5 ⟨rfl, hx6, hl3⟩
  refine ⟨_, rfl, ?_⟩
  replace hI := (hI.ext hx6)
  refine sa ?_
  refine nk ?_
  refine c_ret ?_
  obtain rfl := some_inj h
  exact q_ret (vs := [(vi r3)]) Tryd.results68 ⟨ev_tmp rfl rfl, trivial⟩ ⟨rfl, hI.ext0, hI.fin trivial⟩
 ·replace h := ite_f hb h
  refine c_skip ?_
  refine k_same ?_
  refine c_seq ?_
  refine sr ?_
  refine sq (y_fieldAddr rfl et Tryd.underlying29 rfl size_2 rfl) ?_
  refine sq (y_load1 (v := (vi a1.N)) rfl et Tryd.underlying2 rfl (hI.kblk (l := [(vi a1.N)]) (.s .z) rfl).1) ?_
  refine sq (y_fieldAddr rfl et Tryd.underlying29 rfl size_2 rfl) ?_
  refine sq (y_load1 (v := (vi b1.N)) rfl et Tryd.underlying2 rfl (hI.kblk (l := [(vi b1.N)]) .z rfl).1) ?_
  obtain ⟨r4, hx7, h⟩ := bnd_some h
  refine s_call gn rfl (r_callF (vs := [(vi a1.N), (vi b1.N)]) rfl ok_82 ⟨et, ⟨et, trivial⟩⟩) (Calls.mono (c_frac_order (Dj F c4) w4 hI.lt a1.N b1.N trivial r4 hx7) ?_)
  rintro _ w6 ⟨rfl, hx8, hl4⟩
  refine ⟨_, rfl, ?_⟩
  replace hI := (hI.ext hx8)
  refine sa ?_
  refine nk ?_
  refine sr ?_
  refine sm ?_
  refine sq (y_neq rfl et ev_const) ?_
  refine nk ?_
  refine c_cond (b := !decide (r4 = 0)) et (fun hb => ?_) (fun hb => ?_)
  ·replace h := ite_t hb h
   refine sr ?_
   refine sm ?_
   refine sa ?_
   refine nk ?_
   refine c_ret ?_
   obtain rfl := some_inj h
   exact q_ret (vs := [(vi r4)]) Tryd.results68 ⟨ev_tmp rfl rfl, trivial⟩ ⟨rfl, hI.ext0, hI.fin trivial⟩
  ·replace h := ite_f hb h
   refine c_skip ?_
   refine k_same ?_
   refine sr ?_
   refine sq (y_fieldAddr rfl et Tryd.underlying29 rfl size_2 rfl) ?_
   refine sq (y_load1 (v := (vi a1.D)) rfl et Tryd.underlying2 rfl (hI.kblk (l := [(vi a1.D)]) (.s .z) rfl).1) ?_
   refine sq (y_fieldAddr rfl et Tryd.underlying29 rfl size_2 rfl) ?_
   refine sq (y_load1 (v := (vi b1.D)) rfl et Tryd.underlying2 rfl (hI.kblk (l := [(vi b1.D)]) .z rfl).1) ?_
   obtain ⟨r5, hx9, h⟩ := bnd_some h
   refine s_call gn rfl (r_callF (vs := [(vi a1.D), (vi b1.D)]) rfl ok_82 ⟨et, ⟨et, trivial⟩⟩) (Calls.mono (c_frac_order (Dj F c4) w6 hI.lt a1.D b1.D trivial r5 hx9) ?_)
   rintro _ w7 ⟨rfl, hx10, hl5⟩
   refine ⟨_, rfl, ?_⟩
   replace hI := (hI.ext hx10)
   refine sa ?_
   refine nk ?_
   refine c_ret ?_
   obtain rfl := some_inj h
   exact q_ret (vs := [(vi r5)]) Tryd.results68 ⟨ev_tmp rfl rfl, trivial⟩ ⟨rfl, hI.ext0, hI.fin trivial⟩
set_option maxRecDepth 100000 in
set_option maxHeartbeats 4000000 in
theorem c_value_Compare (F : NP) (w0 : World) (hF : ∀ k, F k → k < w0.heap.size) (t1 : GType) (a1 : GVal) (b1 : GVal) (hc : AllCl [] F w0) (r : Int)
  (h : m_value_Compare t1 a1 b1 = some r) :
  Calls Tryd.prog 60 #[(Value.agg #[(vi t1.Kind), (vi t1.Bits), (vi t1.Frac), (vi t1.Round), (vi t1.Over)]), (Value.agg #[(vi a1.N), (vi a1.D)]), (Value.agg #[(vi b1.N), (vi b1.D)])] w0 fun e w => e = .returned (vi r) ∧ Ext w0 w ∧ AllCl [] F w := by
 refine enterK (l := [(Value.agg #[(vi t1.Kind), (vi t1.Bits), (vi t1.Frac), (vi t1.Round), (vi t1.Over)]), (Value.agg #[(vi a1.N), (vi a1.D)]), (Value.agg #[(vi b1.N), (vi b1.D)])]) Tryd.func60 rfl Tryd.ntmps60 rfl ?_
 have hI := Bun.start hF hc
 clear hc
 rw [m_value_Compare] at h
 refine sr ?_
 refine l_box (v := (Value.agg #[(vi t1.Kind), (vi t1.Bits), (vi t1.Frac), (vi t1.Round), (vi t1.Over)])) (cs := #[(vi t1.Kind), (vi t1.Bits), (vi t1.Frac), (vi t1.Round), (vi t1.Over)]) hI gn rfl rfl et rfl ?_
 clear hI; intro b2 c1 w1 hI
 obtain ⟨c2, hI⟩ := hI.relBox .z
 refine l_box (v := (Value.agg #[(vi a1.N), (vi a1.D)])) (cs := #[(vi a1.N), (vi a1.D)]) hI gn rfl rfl et rfl ?_
 clear hI; intro b3 c3 w2 hI
 obtain ⟨c4, hI⟩ := hI.relBox .z
 refine l_box (v := (Value.agg #[(vi b1.N), (vi b1.D)])) (cs := #[(vi b1.N), (vi b1.D)]) hI gn rfl rfl et rfl ?_
 clear hI; intro b4 c5 w3 hI
 obtain ⟨c6, hI⟩ := hI.relBox .z
 refine sac ?_
 refine nk ?_
 refine c_seq ?_
 refine c_block ?_
 refine sr ?_
 refine sq (y_loadN (l := [(vi t1.Kind), (vi t1.Bits), (vi t1.Frac), (vi t1.Round), (vi t1.Over)]) rfl et Tryd.underlying23 rfl size_23 (hI.kblk (l := [(vi t1.Kind), (vi t1.Bits), (vi t1.Frac), (vi t1.Round), (vi t1.Over)]) (.s (.s .z)) rfl).1) ?_
 refine sq (y_loadN (l := [(vi a1.N), (vi a1.D)]) rfl et Tryd.underlying29 rfl size_29 (hI.kblk (l := [(vi a1.N), (vi a1.D)]) (.s .z) rfl).1) ?_
 obtain ⟨r1, hx1, h⟩ := bnd_some h
 refine s_call gn rfl (r_callF (vs := [(Value.agg #[(vi t1.Kind), (vi t1.Bits), (vi t1.Frac), (vi t1.Round), (vi t1.Over)]), (Value.agg #[(vi a1.N), (vi a1.D)])]) rfl ok_23 ⟨et, ⟨et, trivial⟩⟩) (Calls.mono (c_value_Valid (Dj F c6) w3 hI.lt t1 a1 trivial r1 hx1) ?_)
 rintro _ w4 ⟨rfl, hx2, hl1⟩
 refine ⟨_, rfl, ?_⟩
 replace hI := (hI.ext hx2)
 refine sq (y_not rfl et) ?_
 refine sm ?_
 refine s_gval (g_false rfl rfl rfl rfl) rfl (fun hc => (y_loadN (l := [(vi t1.Kind), (vi t1.Bits), (vi t1.Frac), (vi t1.Round), (vi t1.Over)]) rfl et Tryd.underlying23 rfl size_23 (hI.kblk (l := [(vi t1.Kind), (vi t1.Bits), (vi t1.Frac), (vi t1.Round), (vi t1.Over)]) (.s (.s .z)) rfl).1)) ?_
 refine s_gval (g_false rfl rfl rfl rfl) rfl (fun hc => (y_loadN (l := [(vi b1.N), (vi b1.D)]) rfl et Tryd.underlying29 rfl size_29 (hI.kblk (l := [(vi b1.N), (vi b1.D)]) .z rfl).1)) ?_
 obtain ⟨r2, hx3, h⟩ := bnd_some h
 replace hx3 := gd_some hx3
 refine s_gcallU (v := (vb r2)) (g_false rfl rfl rfl rfl) rfl (fun hc => (r_callF (vs := [(Value.agg #[(vi t1.Kind), (vi t1.Bits), (vi t1.Frac), (vi t1.Round), (vi t1.Over)]), (Value.agg #[(vi b1.N), (vi b1.D)])]) rfl ok_23 ⟨(ev_gv et hc), ⟨(ev_gv et hc), trivial⟩⟩)) (fun hc => (c_value_Valid (Dj F c6) w4 hI.lt t1 b1 trivial r2 (hx3 hc)).mono fun _ _ k => ⟨k.1, k.2.1⟩) ?_
 intro w5 hx4; replace hI := hI.ext hx4
 refine s_gval (g_false rfl rfl rfl rfl) rfl (fun hc => (y_not rfl (ev_gv et hc))) ?_
 refine sq (y_or rfl et et) ?_
 refine sa ?_
 refine nk ?_
 refine c_cond (b := (!r1) || (!r2)) et (fun hb => ?_) (fun hb => ?_)
 ·replace h := ite_t hb h
  refine sr ?_
  refine sac ?_
  refine nk ?_
  refine c_ret ?_
  obtain rfl := some_inj h
  exact q_ret (vs := [(vi 0)]) Tryd.results60 ⟨ev_tmp rfl rfl, trivial⟩ ⟨rfl, hI.ext0, hI.fin trivial⟩
 ·replace h := ite_f hb h
  refine sr ?_
  refine sq (y_fieldAddr rfl et Tryd.underlying23 rfl size_3 rfl) ?_
  refine sq (y_load1 (v := (vi t1.Kind)) rfl et Tryd.underlying3 rfl (hI.kblk (l := [(vi t1.Kind)]) (.s (.s .z)) rfl).1) ?_
  refine sq (y_eql rfl et ev_const) ?_
  refine sa ?_
  refine nk ?_
  refine c_cond (b := decide (t1.Kind = 1)) et (fun hb => ?_) (fun hb => ?_)
  ·replace h := ite_t hb h
   refine sr ?_
   refine sq (y_loadN (l := [(vi a1.N), (vi a1.D)]) rfl et Tryd.underlying29 rfl size_29 (hI.kblk (l := [(vi a1.N), (vi a1.D)]) (.s .z) rfl).1) ?_
   refine sq (y_loadN (l := [(vi b1.N), (vi b1.D)]) rfl et Tryd.underlying29 rfl size_29 (hI.kblk (l := [(vi b1.N), (vi b1.D)]) .z rfl).1) ?_
   obtain ⟨r3, hx5, h⟩ := bnd_some h
   refine s_call gn rfl (r_callF (vs := [(Value.agg #[(vi a1.N), (vi a1.D)]), (Value.agg #[(vi b1.N), (vi b1.D)])]) rfl ok_68 ⟨et, ⟨et, trivial⟩⟩) (Calls.mono (c_frac_Compare (Dj F c6) w5 hI.lt a1 b1 trivial r3 hx5) ?_)
   rintro _ w6 ⟨rfl, hx6, hl3⟩
   refine ⟨_, rfl, ?_⟩
   replace hI := (hI.ext hx6)
   refine sa ?_
   refine s_nil ?_
   refine k_next (e := [(6, (vi r3))]) ⟨rfl, trivial⟩ ?_
   refine c_ret ?_
   obtain rfl := some_inj h
   exact q_ret (vs := [(vi r3)]) Tryd.results60 ⟨ev_tmp rfl rfl, trivial⟩ ⟨rfl, hI.ext0, hI.fin trivial⟩
  ·replace h := ite_f hb h
   refine sr ?_
   refine sq (y_fieldAddr rfl et Tryd.underlying29 rfl size_2 rfl) ?_
   refine sq (y_load1 (v := (vi a1.N)) rfl et Tryd.underlying2 rfl (hI.kblk (l := [(vi a1.N)]) (.s .z) rfl).1) ?_
   refine sq (y_fieldAddr rfl et Tryd.underlying29 rfl size_2 rfl) ?_
   refine sq (y_load1 (v := (vi b1.N)) rfl et Tryd.underlying2 rfl (hI.kblk (l := [(vi b1.N)]) .z rfl).1) ?_
   refine sq (y_lss rfl et et) ?_
   refine sa ?_
   refine s_nil ?_
   refine k_next (e := [(4, (vp b3 0)), (5, (vp b4 0)), (25, (vb (decide (a1.N < b1.N))))]) ⟨rfl, rfl, rfl, trivial⟩ ?_
   refine c_cond (b := decide (a1.N < b1.N)) et (fun hb => ?_) (fun hb => ?_)
   ·replace h := ite_t hb h
    refine sr ?_
    refine sac ?_
    refine nk ?_
    refine c_ret ?_
    obtain rfl := some_inj h
    exact q_ret (vs := [(vi (-1))]) Tryd.results60 ⟨ev_tmp rfl rfl, trivial⟩ ⟨rfl, hI.ext0, hI.fin trivial⟩
   ·replace h := ite_f hb h
    refine sr ?_
    refine sq (y_fieldAddr rfl et Tryd.underlying29 rfl size_2 rfl) ?_
    refine sq (y_load1 (v := (vi a1.N)) rfl et Tryd.underlying2 rfl (hI.kblk (l := [(vi a1.N)]) (.s .z) rfl).1) ?_
    refine sq (y_fieldAddr rfl et Tryd.underlying29 rfl size_2 rfl) ?_
    refine sq (y_load1 (v := (vi b1.N)) rfl et Tryd.underlying2 rfl (hI.kblk (l := [(vi b1.N)]) .z rfl).1) ?_
    refine sq (y_gtr rfl et et) ?_
    refine sa ?_
    refine nk ?_
    refine c_cond (b := decide (b1.N < a1.N)) et (fun hb => ?_) (fun hb => ?_)
    ·replace h := ite_t hb h
     refine sr ?_
     refine sac ?_
     refine nk ?_
     refine c_ret ?_
     obtain rfl := some_inj h
     exact q_ret (vs := [(vi 1)]) Tryd.results60 ⟨ev_tmp rfl rfl, trivial⟩ ⟨rfl, hI.ext0, hI.fin trivial⟩
    ·replace h := ite_f hb h
     refine c_skip ?_
     refine k_same ?_
     refine sr ?_
     refine sac ?_
     refine nk ?_
     refine c_ret ?_
     obtain rfl := some_inj h
     exact q_ret (vs := [(vi 0)]) Tryd.results60 ⟨ev_tmp rfl rfl, trivial⟩ ⟨rfl, hI.ext0, hI.fin trivial⟩
set_option maxRecDepth 100000 in
set_option maxHeartbeats 4000000 in
theorem c_value_integer (F : NP) (w0 : World) (hF : ∀ k, F k → k < w0.heap.size) (op1 : Int) (a1 : Int) (b1 : Int) (hc : AllCl [] F w0) (r : GVal × Int)
  (h : m_value_integer op1 a1 b1 = some r) :
  Calls Tryd.prog 69 #[(vi op1), (vi a1), (vi b1)] w0 fun e w => e = .returned (Value.tuple #[(Value.agg #[(vi r.1.N), (vi r.1.D)]), (vi r.2)]) ∧ Ext w0 w ∧ AllCl [] F w := by
 refine enterK (l := [(vi op1), (vi a1), (vi b1)]) Tryd.func69 rfl Tryd.ntmps69 rfl ?_
 have hI := Bun.start hF hc
 clear hc
 rw [m_value_integer] at h
 refine sr ?_
 refine l_alloc (cs := #[(vi 0), (vi 0)]) hI gn rfl rfl zero_29 rfl ?_
 clear hI; intro b2 c1 w1 hI
 refine sac ?_
 refine nk ?_
 refine sr ?_
 refine sac ?_
 refine nk ?_
 refine c_join (α := Int) (fun _ => ⟨50, []⟩) (fun x => [(6, (vp b2 0)), (8, (vi x))]) (fun x => fun w => ∃ C, Bun noM F w0 C w [MO.box b2 29 #[(vi 0), (vi 0)]] [] ∧ m_value_integer_j1 x = some r) ?_ ?_
 ·clear h hI; rintro n1 w2 ⟨c2, hI, h⟩
  try dsimp only at hI h
  rw [m_value_integer_j1] at h
  refine c_sub (e := [(6, (vp b2 0)), (8, (vi n1))]) ⟨rfl, rfl, trivial⟩ ?_
  refine c_seq ?_
  refine sr ?_
  refine sm ?_
  obtain ⟨r1, hx1, h⟩ := bnd_some h
  refine s_call gn rfl (r_callF (vs := [(vi n1)]) rfl ok_40 ⟨et, trivial⟩) (Calls.mono (c_value_whole (Dj F c2) w2 hI.lt n1 trivial r1 hx1) ?_)
  rintro _ w3 ⟨rfl, hx2, hl1⟩
  refine ⟨_, rfl, ?_⟩
  replace hI := (hI.ext hx2)
  refine sq (y_not rfl et) ?_
  refine nk ?_
  refine c_cond (b := !r1) et (fun hb => ?_) (fun hb => ?_)
  ·replace h := ite_t hb h
   refine sr ?_
   refine sq (y_build (vs := []) (cs := #[(vi 0), (vi 0)]) rfl trivial (by kernel_rfl)) ?_
   refine l_store (new := [(vi 0), (vi 0)]) (cs' := #[(vi 0), (vi 0)]) hI .z gn rfl rfl et et rfl size_29 rfl rfl rfl ?_
   clear hI; intro c3 w4 hI
   refine sac ?_
   refine nk ?_
   refine c_ret ?_
   obtain rfl := some_inj h
   exact q_ret (vs := [(Value.agg #[(vi 0), (vi 0)]), (vi 3)]) Tryd.results69 ⟨⟨_, ev_tmp rfl rfl, load_agg (l := [(vi 0), (vi 0)]) Tryd.underlying29 rfl size_29 (CellsAt.of_blk (hI.blk .z) rfl)⟩, ⟨ev_tmp rfl rfl, trivial⟩⟩ ⟨rfl, hI.ext0, hI.fin trivial⟩
  ·replace h := ite_f hb h
   refine c_skip ?_
   refine k_same ?_
   refine sr ?_
   refine sm ?_
   refine sq (y_build (vs := [(0, (vi n1)), (1, (vi 1))]) (cs := #[(vi n1), (vi 1)]) rfl ⟨rfl, et, ⟨rfl, ev_const, trivial⟩⟩ (by kernel_rfl)) ?_
   refine l_store (new := [(vi n1), (vi 1)]) (cs' := #[(vi n1), (vi 1)]) hI .z gn rfl rfl et et rfl size_29 rfl rfl rfl ?_
   clear hI; intro c4 w5 hI
   refine sac ?_
   refine nk ?_
   refine c_ret ?_
   obtain rfl := some_inj h
   exact q_ret (vs := [(Value.agg #[(vi n1), (vi 1)]), (vi 0)]) Tryd.results69 ⟨⟨_, ev_tmp rfl rfl, load_agg (l := [(vi n1), (vi 1)]) Tryd.underlying29 rfl size_29 (CellsAt.of_blk (hI.blk .z) rfl)⟩, ⟨ev_tmp rfl rfl, trivial⟩⟩ ⟨rfl, hI.ext0, hI.fin trivial⟩
 ·skip
  refine sr ?_
  refine sm ?_
  refine nk ?_
  refine c_block ?_
  refine sr ?_
  refine sq (y_eql rfl et ev_const) ?_
  refine sa ?_
  refine nk ?_
  refine c_cond (b := decide (op1 = 4)) et (fun hb => ?_) (fun hb => ?_)
  ·replace h := ite_t hb h
   refine c_region rfl ?_
   refine sm ?_
   refine sm ?_
   refine sq (y_add rfl et et) ?_
   refine sa ?_
   refine s_nil ?_
   exact k_join (wi64 (a1 + b1)) ⟨rfl, rfl, trivial⟩ ⟨_, hI.arr (.c .z .n) trivial, h⟩ rfl
  ·replace h := ite_f hb h
   refine sr ?_
   refine sq (y_eql rfl et ev_const) ?_
   refine sa ?_
   refine nk ?_
   refine c_cond (b := decide (op1 = 5)) et (fun hb => ?_) (fun hb => ?_)
   ·replace h := ite_t hb h
    refine c_region rfl ?_
    refine sm ?_
    refine sm ?_
    refine sq (y_sub rfl et et) ?_
    refine sa ?_
    refine s_nil ?_
    exact k_join (wi64 (a1 - b1)) ⟨rfl, rfl, trivial⟩ ⟨_, hI.arr (.c .z .n) trivial, h⟩ rfl
   ·replace h := ite_f hb h
    refine sr ?_
    refine sq (y_eql rfl et ev_const) ?_
    refine sa ?_
    refine nk ?_
    refine c_cond (b := decide (op1 = 6)) et (fun hb => ?_) (fun hb => ?_)
    ·replace h := ite_t hb h
     refine c_region rfl ?_
     refine sm ?_
     refine sm ?_
     refine sq (y_mul rfl et et) ?_
     refine sa ?_
     refine s_nil ?_
     exact k_join (wi64 (a1 * b1)) ⟨rfl, rfl, trivial⟩ ⟨_, hI.arr (.c .z .n) trivial, h⟩ rfl
    ·replace h := ite_f hb h
     refine c_seq ?_
     refine sr ?_
     refine sm ?_
     refine sq (y_eql rfl et ev_const) ?_
     refine nk ?_
     refine c_cond (b := decide (b1 = 0)) et (fun hb => ?_) (fun hb => ?_)
     ·replace h := ite_t hb h
      refine sr ?_
      refine sq (y_build (vs := []) (cs := #[(vi 0), (vi 0)]) rfl trivial (by kernel_rfl)) ?_
      refine l_store (new := [(vi 0), (vi 0)]) (cs' := #[(vi 0), (vi 0)]) hI .z gn rfl rfl et et rfl size_29 rfl rfl rfl ?_
      clear hI; intro c5 w6 hI
      refine sac ?_
      refine nk ?_
      refine c_ret ?_
      obtain rfl := some_inj h
      exact q_ret (vs := [(Value.agg #[(vi 0), (vi 0)]), (vi 4)]) Tryd.results69 ⟨⟨_, ev_tmp rfl rfl, load_agg (l := [(vi 0), (vi 0)]) Tryd.underlying29 rfl size_29 (CellsAt.of_blk (hI.blk .z) rfl)⟩, ⟨ev_tmp rfl rfl, trivial⟩⟩ ⟨rfl, hI.ext0, hI.fin trivial⟩
     ·replace h := ite_f hb h
      refine c_skip ?_
      refine k_same ?_
      refine sr ?_
      refine sm ?_
      refine sm ?_
      obtain ⟨ho1, h⟩ := chk_some h
      refine sq (y_quo rfl et et ho1) ?_
      refine sa ?_
      refine nk ?_
      refine sr ?_
      refine sm ?_
      refine sm ?_
      refine sq (y_rem rfl et et ho1) ?_
      refine sq (y_neq rfl et ev_const) ?_
      refine sm ?_
      refine s_gval (g_true rfl rfl rfl rfl) rfl (fun hc => (y_move rfl et)) ?_
      refine s_gval (g_true rfl rfl rfl rfl) rfl (fun hc => (y_lss rfl (ev_gv et hc) ev_const)) ?_
      refine s_gval (g_true rfl rfl rfl rfl) rfl (fun hc => (y_move rfl et)) ?_
      refine s_gval (g_true rfl rfl rfl rfl) rfl (fun hc => (y_lss rfl (ev_gv et hc) ev_const)) ?_
      refine s_gval (g_true rfl rfl rfl rfl) rfl (fun hc => (y_neb rfl Tryd.underlying4 (ev_gv et hc) (ev_gv et hc))) ?_
      refine sq (y_and rfl et et) ?_
      refine s_nil ?_
      refine k_next (e := [(6, (vp b2 0)), (8, (vi (wi64 (Int.tdiv a1 b1)))), (26, (vb ((!decide (Int.tmod a1 b1 = 0)) && ((decide (a1 < 0)) != (decide (b1 < 0))))))]) ⟨rfl, rfl, rfl, trivial⟩ ?_
      refine c_cond (b := (!decide (Int.tmod a1 b1 = 0)) && ((decide (a1 < 0)) != (decide (b1 < 0)))) et (fun hb => ?_) (fun hb => ?_)
      ·replace h := ite_t hb h
       refine c_region rfl ?_
       refine sm ?_
       refine sq (y_sub rfl et ev_const) ?_
       obtain ⟨n2, hx3, h⟩ := bnd_some h
       refine sq (binU (y_assign rfl et) (congrArg (Value.int .i64) (some_inj hx3))) ?_
       refine s_nil ?_
       exact k_join n2 ⟨rfl, rfl, trivial⟩ ⟨_, hI.arr (.c .z .n) trivial, h⟩ rfl
      ·replace h := ite_f hb h
       refine c_skip ?_
       exact k_join (wi64 (Int.tdiv a1 b1)) ⟨rfl, rfl, trivial⟩ ⟨_, hI.arr (.c .z .n) trivial, h⟩ rfl
set_option maxRecDepth 100000 in
set_option maxHeartbeats 4000000 in
theorem c_fixed_Add_1 (F : NP) (w0 : World) (hF : ∀ k, F k → k < w0.heap.size) (a1 : GType) (x1 : Int) (y1 : Int) (hc : AllCl [] F w0) (r : Int × Int)
  (h : m_fixed_Add_1 a1 x1 y1 = some r) :
  Calls Tryd.prog 83 #[(Value.agg #[(vi a1.Kind), (vi a1.Bits), (vi a1.Frac), (vi a1.Round), (vi a1.Over)]), (vi x1), (vi y1)] w0 fun e w => e = .returned (Value.tuple #[(vi r.1), (vi r.2)]) ∧ Ext w0 w ∧ AllCl [] F w := by
 refine enterK (l := [(Value.agg #[(vi a1.Kind), (vi a1.Bits), (vi a1.Frac), (vi a1.Round), (vi a1.Over)]), (vi x1), (vi y1)]) Tryd.func83 rfl Tryd.ntmps83 rfl ?_
 have hI := Bun.start hF hc
 clear hc
 rw [m_fixed_Add_1] at h
 refine sr ?_
 refine l_box (v := (Value.agg #[(vi a1.Kind), (vi a1.Bits), (vi a1.Frac), (vi a1.Round), (vi a1.Over)])) (cs := #[(vi a1.Kind), (vi a1.Bits), (vi a1.Frac), (vi a1.Round), (vi a1.Over)]) hI gn rfl rfl et rfl ?_
 clear hI; intro b1 c1 w1 hI
 obtain ⟨c2, hI⟩ := hI.relBox .z
 refine sac ?_
 refine sac ?_
 refine nk ?_
 refine sr ?_
 refine sm ?_
 refine sm ?_
 refine sq (y_add rfl et et) ?_
 refine sa ?_
 refine sac ?_
 refine nk ?_
 refine c_ret ?_
 obtain rfl := some_inj h
 exact q_ret (vs := [(vi (wi64 (x1 + y1))), (vi 0)]) Tryd.results83 ⟨ev_tmp rfl rfl, ⟨ev_tmp rfl rfl, trivial⟩⟩ ⟨rfl, hI.ext0, hI.fin trivial⟩
set_option maxRecDepth 100000 in
set_option maxHeartbeats 4000000 in
theorem c_fixed_Add (F : NP) (w0 : World) (hF : ∀ k, F k → k < w0.heap.size) (t1 : GType) (a1 : GVal) (b1 : GVal) (hc : AllCl [] F w0) (r : GVal × Int)
  (h : m_fixed_Add t1 a1 b1 = some r) :
  Calls Tryd.prog 70 #[(Value.agg #[(vi t1.Kind), (vi t1.Bits), (vi t1.Frac), (vi t1.Round), (vi t1.Over)]), (Value.agg #[(vi a1.N), (vi a1.D)]), (Value.agg #[(vi b1.N), (vi b1.D)])] w0 fun e w => e = .returned (Value.tuple #[(Value.agg #[(vi r.1.N), (vi r.1.D)]), (vi r.2)]) ∧ Ext w0 w ∧ AllCl [] F w := by
 refine enterK (l := [(Value.agg #[(vi t1.Kind), (vi t1.Bits), (vi t1.Frac), (vi t1.Round), (vi t1.Over)]), (Value.agg #[(vi a1.N), (vi a1.D)]), (Value.agg #[(vi b1.N), (vi b1.D)])]) Tryd.func70 rfl Tryd.ntmps70 rfl ?_
 have hI := Bun.start hF hc
 clear hc
 rw [m_fixed_Add] at h
 refine sr ?_
 refine l_box (v := (Value.agg #[(vi t1.Kind), (vi t1.Bits), (vi t1.Frac), (vi t1.Round), (vi t1.Over)])) (cs := #[(vi t1.Kind), (vi t1.Bits), (vi t1.Frac), (vi t1.Round), (vi t1.Over)]) hI gn rfl rfl et rfl ?_
 clear hI; intro b2 c1 w1 hI
 obtain ⟨c2, hI⟩ := hI.relBox .z
 refine l_box (v := (Value.agg #[(vi a1.N), (vi a1.D)])) (cs := #[(vi a1.N), (vi a1.D)]) hI gn rfl rfl et rfl ?_
 clear hI; intro b3 c3 w2 hI
 obtain ⟨c4, hI⟩ := hI.relBox .z
 refine l_box (v := (Value.agg #[(vi b1.N), (vi b1.D)])) (cs := #[(vi b1.N), (vi b1.D)]) hI gn rfl rfl et rfl ?_
 clear hI; intro b4 c5 w3 hI
 obtain ⟨c6, hI⟩ := hI.relBox .z
 refine l_alloc (cs := #[(vi 0), (vi 0)]) hI gn rfl rfl zero_29 rfl ?_
 clear hI; intro b5 c7 w4 hI
 refine sac ?_
 refine nk ?_
 refine sr ?_
 refine sq (y_build (vs := [(0, (Value.func (.func 83) #[] #[]))]) (cs := #[(Value.func (.func 83) #[] #[])]) rfl ⟨rfl, ev_func, trivial⟩ (by kernel_rfl)) ?_
 refine sq (y_loadN (l := [(vi t1.Kind), (vi t1.Bits), (vi t1.Frac), (vi t1.Round), (vi t1.Over)]) rfl et Tryd.underlying23 rfl size_23 (hI.kblk (l := [(vi t1.Kind), (vi t1.Bits), (vi t1.Frac), (vi t1.Round), (vi t1.Over)]) (.s (.s .z)) rfl).1) ?_
 refine sq (y_loadN (l := [(vi a1.N), (vi a1.D)]) rfl et Tryd.underlying29 rfl size_29 (hI.kblk (l := [(vi a1.N), (vi a1.D)]) (.s .z) rfl).1) ?_
 refine sq (y_loadN (l := [(vi b1.N), (vi b1.D)]) rfl et Tryd.underlying29 rfl size_29 (hI.kblk (l := [(vi b1.N), (vi b1.D)]) .z rfl).1) ?_
 have hI := hI.add (c := clFn_k1 (Value.func (.func 83) #[] #[]) m_fixed_Add_1) ⟨rfl, fun D' w' hs hl x_1 x_2 x_3 r k h => CallV.fn (cap := []) ok_83 (c_fixed_Add_1 D' w' hl x_1 x_2 x_3 trivial r h)⟩
 obtain ⟨r1, hx1, h⟩ := bnd_some h
 refine s_call gn rfl (r_callF (vs := [(Value.agg #[(Value.func (.func 83) #[] #[])]), (Value.agg #[(vi t1.Kind), (vi t1.Bits), (vi t1.Frac), (vi t1.Round), (vi t1.Over)]), (Value.agg #[(vi a1.N), (vi a1.D)]), (Value.agg #[(vi b1.N), (vi b1.D)])]) rfl ok_80 ⟨et, ⟨et, ⟨et, ⟨et, trivial⟩⟩⟩⟩) (Calls.mono (c_fixed_apply (Dj F c7) w4 hI.lt (⟨m_fixed_Add_1⟩ : Gfixed_operation) t1 a1 b1 (Value.func (.func 83) #[] #[]) ⟨(hI.get .z), trivial⟩ r1 hx1) ?_)
 rintro _ w5 ⟨rfl, hx2, hl1⟩
 refine ⟨_, rfl, ?_⟩
 replace hI := (hI.ext hx2)
 refine sq (y_extract rfl et rfl) ?_
 refine sq (y_extract rfl et rfl) ?_
 refine l_store (new := [(vi r1.1.N), (vi r1.1.D)]) (cs' := #[(vi r1.1.N), (vi r1.1.D)]) hI .z gn rfl rfl et et rfl size_29 rfl rfl rfl ?_
 clear hI; intro c8 w6 hI
 refine sa ?_
 refine nk ?_
 refine c_ret ?_
 obtain rfl := some_inj h
 exact q_ret (vs := [(Value.agg #[(vi r1.1.N), (vi r1.1.D)]), (vi r1.2)]) Tryd.results70 ⟨⟨_, ev_tmp rfl rfl, load_agg (l := [(vi r1.1.N), (vi r1.1.D)]) Tryd.underlying29 rfl size_29 (CellsAt.of_blk (hI.blk .z) rfl)⟩, ⟨ev_tmp rfl rfl, trivial⟩⟩ ⟨rfl, hI.ext0, hI.fin trivial⟩
set_option maxRecDepth 100000 in
set_option maxHeartbeats 4000000 in
theorem c_fixed_Sub_1 (F : NP) (w0 : World) (hF : ∀ k, F k → k < w0.heap.size) (a1 : GType) (x1 : Int) (y1 : Int) (hc : AllCl [] F w0) (r : Int × Int)
  (h : m_fixed_Sub_1 a1 x1 y1 = some r) :
  Calls Tryd.prog 84 #[(Value.agg #[(vi a1.Kind), (vi a1.Bits), (vi a1.Frac), (vi a1.Round), (vi a1.Over)]), (vi x1), (vi y1)] w0 fun e w => e = .returned (Value.tuple #[(vi r.1), (vi r.2)]) ∧ Ext w0 w ∧ AllCl [] F w := by
 refine enterK (l := [(Value.agg #[(vi a1.Kind), (vi a1.Bits), (vi a1.Frac), (vi a1.Round), (vi a1.Over)]), (vi x1), (vi y1)]) Tryd.func84 rfl Tryd.ntmps84 rfl ?_
 have hI := Bun.start hF hc
 clear hc
 rw [m_fixed_Sub_1] at h
 refine sr ?_
 refine l_box (v := (Value.agg #[(vi a1.Kind), (vi a1.Bits), (vi a1.Frac), (vi a1.Round), (vi a1.Over)])) (cs := #[(vi a1.Kind), (vi a1.Bits), (vi a1.Frac), (vi a1.Round), (vi a1.Over)]) hI gn rfl rfl et rfl ?_
 clear hI; intro b1 c1 w1 hI
 obtain ⟨c2, hI⟩ := hI.relBox .z
 refine sac ?_
 refine sac ?_
 refine nk ?_
 refine sr ?_
 refine sm ?_
 refine sm ?_
 refine sq (y_sub rfl et et) ?_
 refine sa ?_
 refine sac ?_
 refine nk ?_
 refine c_ret ?_
 obtain rfl := some_inj h
 exact q_ret (vs := [(vi (wi64 (x1 - y1))), (vi 0)]) Tryd.results84 ⟨ev_tmp rfl rfl, ⟨ev_tmp rfl rfl, trivial⟩⟩ ⟨rfl, hI.ext0, hI.fin trivial⟩
set_option maxRecDepth 100000 in
set_option maxHeartbeats 4000000 in
theorem c_fixed_Sub (F : NP) (w0 : World) (hF : ∀ k, F k → k < w0.heap.size) (t1 : GType) (a1 : GVal) (b1 : GVal) (hc : AllCl [] F w0) (r : GVal × Int)
  (h : m_fixed_Sub t1 a1 b1 = some r) :
  Calls Tryd.prog 71 #[(Value.agg #[(vi t1.Kind), (vi t1.Bits), (vi t1.Frac), (vi t1.Round), (vi t1.Over)]), (Value.agg #[(vi a1.N), (vi a1.D)]), (Value.agg #[(vi b1.N), (vi b1.D)])] w0 fun e w => e = .returned (Value.tuple #[(Value.agg #[(vi r.1.N), (vi r.1.D)]), (vi r.2)]) ∧ Ext w0 w ∧ AllCl [] F w := by
 refine enterK (l := [(Value.agg #[(vi t1.Kind), (vi t1.Bits), (vi t1.Frac), (vi t1.Round), (vi t1.Over)]), (Value.agg #[(vi a1.N), (vi a1.D)]), (Value.agg #[(vi b1.N), (vi b1.D)])]) Tryd.func71 rfl Tryd.ntmps71 rfl ?_
 have hI := Bun.start hF hc
 clear hc
 rw [m_fixed_Sub] at h
 refine sr ?_
 refine l_box (v := (Value.agg #[(vi t1.Kind), (vi t1.Bits), (vi t1.Frac), (vi t1.Round), (vi t1.Over)])) (cs := #[(vi t1.Kind), (vi t1.Bits), (vi t1.Frac), (vi t1.Round), (vi t1.Over)]) hI gn rfl rfl et rfl ?_
 clear hI; intro b2 c1 w1 hI
 obtain ⟨c2, hI⟩ := hI.relBox .z
 refine l_box (v := (Value.agg #[(vi a1.N), (vi a1.D)])) (cs := #[(vi a1.N), (vi a1.D)]) hI gn rfl rfl et rfl ?_
 clear hI; intro b3 c3 w2 hI
 obtain ⟨c4, hI⟩ := hI.relBox .z
 refine l_box (v := (Value.agg #[(vi b1.N), (vi b1.D)])) (cs := #[(vi b1.N), (vi b1.D)]) hI gn rfl rfl et rfl ?_
 clear hI; intro b4 c5 w3 hI
 obtain ⟨c6, hI⟩ := hI.relBox .z
 refine l_alloc (cs := #[(vi 0), (vi 0)]) hI gn rfl rfl zero_29 rfl ?_
 clear hI; intro b5 c7 w4 hI
 refine sac ?_
 refine nk ?_
 refine sr ?_
 refine sq (y_build (vs := [(0, (Value.func (.func 84) #[] #[]))]) (cs := #[(Value.func (.func 84) #[] #[])]) rfl ⟨rfl, ev_func, trivial⟩ (by kernel_rfl)) ?_
 refine sq (y_loadN (l := [(vi t1.Kind), (vi t1.Bits), (vi t1.Frac), (vi t1.Round), (vi t1.Over)]) rfl et Tryd.underlying23 rfl size_23 (hI.kblk (l := [(vi t1.Kind), (vi t1.Bits), (vi t1.Frac), (vi t1.Round), (vi t1.Over)]) (.s (.s .z)) rfl).1) ?_
 refine sq (y_loadN (l := [(vi a1.N), (vi a1.D)]) rfl et Tryd.underlying29 rfl size_29 (hI.kblk (l := [(vi a1.N), (vi a1.D)]) (.s .z) rfl).1) ?_
 refine sq (y_loadN (l := [(vi b1.N), (vi b1.D)]) rfl et Tryd.underlying29 rfl size_29 (hI.kblk (l := [(vi b1.N), (vi b1.D)]) .z rfl).1) ?_
 have hI := hI.add (c := clFn_k1 (Value.func (.func 84) #[] #[]) m_fixed_Sub_1) ⟨rfl, fun D' w' hs hl x_1 x_2 x_3 r k h => CallV.fn (cap := []) ok_84 (c_fixed_Sub_1 D' w' hl x_1 x_2 x_3 trivial r h)⟩
 obtain ⟨r1, hx1, h⟩ := bnd_some h
 refine s_call gn rfl (r_callF (vs := [(Value.agg #[(Value.func (.func 84) #[] #[])]), (Value.agg #[(vi t1.Kind), (vi t1.Bits), (vi t1.Frac), (vi t1.Round), (vi t1.Over)]), (Value.agg #[(vi a1.N), (vi a1.D)]), (Value.agg #[(vi b1.N), (vi b1.D)])]) rfl ok_80 ⟨et, ⟨et, ⟨et, ⟨et, trivial⟩⟩⟩⟩) (Calls.mono (c_fixed_apply (Dj F c7) w4 hI.lt (⟨m_fixed_Sub_1⟩ : Gfixed_operation) t1 a1 b1 (Value.func (.func 84) #[] #[]) ⟨(hI.get .z), trivial⟩ r1 hx1) ?_)
 rintro _ w5 ⟨rfl, hx2, hl1⟩
 refine ⟨_, rfl, ?_⟩
 replace hI := (hI.ext hx2)
 refine sq (y_extract rfl et rfl) ?_
 refine sq (y_extract rfl et rfl) ?_
 refine l_store (new := [(vi r1.1.N), (vi r1.1.D)]) (cs' := #[(vi r1.1.N), (vi r1.1.D)]) hI .z gn rfl rfl et et rfl size_29 rfl rfl rfl ?_
 clear hI; intro c8 w6 hI
 refine sa ?_
 refine nk ?_
 refine c_ret ?_
 obtain rfl := some_inj h
 exact q_ret (vs := [(Value.agg #[(vi r1.1.N), (vi r1.1.D)]), (vi r1.2)]) Tryd.results71 ⟨⟨_, ev_tmp rfl rfl, load_agg (l := [(vi r1.1.N), (vi r1.1.D)]) Tryd.underlying29 rfl size_29 (CellsAt.of_blk (hI.blk .z) rfl)⟩, ⟨ev_tmp rfl rfl, trivial⟩⟩ ⟨rfl, hI.ext0, hI.fin trivial⟩
set_option maxRecDepth 100000 in
set_option maxHeartbeats 4000000 in
theorem c_round_mode (F : NP) (w0 : World) (hF : ∀ k, F k → k < w0.heap.size) (how1 : Int) (hc : AllCl [] F w0) (r : Bool)
  (h : m_round_mode how1 = some r) :
  Calls Tryd.prog 92 #[(vi how1)] w0 fun e w => e = .returned (vb r) ∧ Ext w0 w ∧ AllCl [] F w := by
 refine enterK (l := [(vi how1)]) Tryd.func92 rfl Tryd.ntmps92 rfl ?_
 have hI := Bun.start hF hc
 clear hc
 rw [m_round_mode] at h
 refine sr ?_
 refine sac ?_
 refine nk ?_
 refine sr ?_
 refine sm ?_
 refine sq (y_geq rfl et ev_const) ?_
 refine sm ?_
 refine s_gval (g_true rfl rfl rfl rfl) rfl (fun hc => (y_move rfl et)) ?_
 refine s_gval (g_true rfl rfl rfl rfl) rfl (fun hc => (y_leq rfl (ev_gv et hc) ev_const)) ?_
 refine sq (y_and rfl et et) ?_
 refine sa ?_
 refine nk ?_
 refine c_ret ?_
 obtain rfl := some_inj h
 exact q_ret (vs := [(vb ((decide (1 ≤ how1)) && (decide (how1 ≤ 4))))]) Tryd.results92 ⟨ev_tmp rfl rfl, trivial⟩ ⟨rfl, hI.ext0, hI.fin trivial⟩
set_option maxRecDepth 100000 in
set_option maxHeartbeats 4000000 in
theorem c_round_magnitude (F : NP) (w0 : World) (hF : ∀ k, F k → k < w0.heap.size) (n1 : Int) (hc : AllCl [] F w0) (r : Int)
  (h : m_round_magnitude n1 = some r) :
  Calls Tryd.prog 94 #[(vi n1)] w0 fun e w => e = .returned (Value.int .u64 r) ∧ Ext w0 w ∧ AllCl [] F w := by
 refine enterK (l := [(vi n1)]) Tryd.func94 rfl Tryd.ntmps94 rfl ?_
 have hI := Bun.start hF hc
 clear hc
 rw [m_round_magnitude] at h
 refine sr ?_
 refine sac ?_
 refine nk ?_
 refine c_seq ?_
 refine sr ?_
 refine sm ?_
 refine sq (y_lss rfl et ev_const) ?_
 refine nk ?_
 refine c_cond (b := decide (n1 < 0)) et (fun hb => ?_) (fun hb => ?_)
 ·replace h := ite_t hb h
  refine sr ?_
  refine sm ?_
  refine sq (y_conv rfl (by rw [Tryd.underlying2]; rfl) Tryd.underlying81 et) ?_
  refine sq (y_neg rfl et) ?_
  refine sa ?_
  refine nk ?_
  refine c_ret ?_
  obtain rfl := some_inj h
  exact q_ret (vs := [(Value.int .u64 (wu64 (-(wu64 n1))))]) Tryd.results94 ⟨ev_tmp rfl rfl, trivial⟩ ⟨rfl, hI.ext0, hI.fin trivial⟩
 ·replace h := ite_f hb h
  refine c_skip ?_
  refine k_same ?_
  refine sr ?_
  refine sm ?_
  refine sq (y_conv rfl (by rw [Tryd.underlying2]; rfl) Tryd.underlying81 et) ?_
  refine sa ?_
  refine nk ?_
  refine c_ret ?_
  obtain rfl := some_inj h
  exact q_ret (vs := [(Value.int .u64 (wu64 n1))]) Tryd.results94 ⟨ev_tmp rfl rfl, trivial⟩ ⟨rfl, hI.ext0, hI.fin trivial⟩
set_option maxRecDepth 100000 in
set_option maxHeartbeats 4000000 in
theorem c_round_rounded (F : NP) (w0 : World) (hF : ∀ k, F k → k < w0.heap.size) (a1 : Int) (b1 : Int) (negative1 : Bool) (how1 : Int) (hc : AllCl [] F w0) (r : Int)
  (h : m_round_rounded a1 b1 negative1 how1 = some r) :
  Calls Tryd.prog 93 #[(Value.int .u64 a1), (Value.int .u64 b1), (vb negative1), (vi how1)] w0 fun e w => e = .returned (Value.int .u64 r) ∧ Ext w0 w ∧ AllCl [] F w := by
 refine enterK (l := [(Value.int .u64 a1), (Value.int .u64 b1), (vb negative1), (vi how1)]) Tryd.func93 rfl Tryd.ntmps93 rfl ?_
 have hI := Bun.start hF hc
 clear hc
 rw [m_round_rounded] at h
 refine sr ?_
 refine sac ?_
 refine nk ?_
 refine c_scope ?_
 refine c_seq ?_
 refine c_drawX [] false (.c (0, .q) (.c (1, .q) (.c (2, .q) (.c (3, .q) (.c (4, .q) (.c (5, .q) (.c (6, .q) (.c (7, .q) .n)))))))) hI (by kernel_rfl) (by kernel_rfl) ?_
 clear hI; intro w1 hI
 refine a_q rfl gn rfl (fun w' => (y_move rfl et)) ?_
 refine a_q rfl gn rfl (fun w' => (y_move rfl et)) ?_
 obtain ⟨ho1, h⟩ := chk_some h
 refine a_q rfl gn rfl (fun w' => (y_quo rfl et et ho1)) ?_
 refine a_q rfl gn rfl (fun w' => (y_move rfl et)) ?_
 refine a_q rfl gn rfl (fun w' => (y_move rfl et)) ?_
 refine a_q rfl gn rfl (fun w' => (y_rem rfl et et ho1)) ?_
 refine a_q rfl gn rfl (fun w' => (y_assign rfl et)) ?_
 refine a_q rfl gn rfl (fun w' => (y_assign rfl et)) ?_
 refine a_nil ?_
 refine k_same ?_
 refine sr ?_
 refine sm ?_
 refine sa ?_
 refine nk ?_
 refine c_seq ?_
 refine c_label ?_
 refine k_same ?_
 refine c_seq ?_
 refine sr ?_
 refine sm ?_
 refine sm ?_
 refine sq (y_add rfl et ev_const) ?_
 refine sq (y_build (vs := [(0, (Value.int .u64 (wu64 (Int.tdiv a1 b1)))), (1, (Value.int .u64 (wu64 ((wu64 (Int.tdiv a1 b1)) + 1))))]) (cs := #[(Value.int .u64 (wu64 (Int.tdiv a1 b1))), (Value.int .u64 (wu64 ((wu64 (Int.tdiv a1 b1)) + 1)))]) rfl ⟨rfl, et, ⟨rfl, et, trivial⟩⟩ (by kernel_rfl)) ?_
 refine sq (y_move rfl ev_const) ?_
 refine nk ?_
 refine c_block ?_
 refine c_loop (α := Nat × Int × Int) (fun x => fun w => ∃ C, Bun noM F w0 C w [] [] ∧ m_round_rounded_l1 a1 b1 how1 negative1 (x.1) (x.2.1) (x.2.2) = some r) (fun x _ => x.1) (fun x => [(1, (Value.int .u64 b1)), (2, (vb negative1)), (3, (vi how1)), (9, (Value.int .u64 (wu64 (Int.tdiv a1 b1)))), (10, (Value.int .u64 (Int.tmod a1 b1))), (11, (Value.int .u64 (x.2.1))), (22, (Value.agg #[(Value.int .u64 (wu64 (Int.tdiv a1 b1))), (Value.int .u64 (wu64 ((wu64 (Int.tdiv a1 b1)) + 1)))])), (23, (vi (x.2.2)))]) (fu, wu64 (Int.tdiv a1 b1), 0) ⟨_, hI.arr .n trivial, h⟩ ⟨rfl, rfl, rfl, rfl, rfl, rfl, rfl, rfl, trivial⟩ ?_
 clear h hI; rintro ⟨fuel1, m1, i1⟩ w2 ⟨c1, hI, h⟩
 dsimp only at hI h
 rcases fuel1 with _ | fuel1
 ·rw [m_round_rounded_l1] at h; cases h
 rw [m_round_rounded_l1] at h
 refine c_sub (e := [(1, (Value.int .u64 b1)), (2, (vb negative1)), (3, (vi how1)), (9, (Value.int .u64 (wu64 (Int.tdiv a1 b1)))), (10, (Value.int .u64 (Int.tmod a1 b1))), (11, (Value.int .u64 m1)), (22, (Value.agg #[(Value.int .u64 (wu64 (Int.tdiv a1 b1))), (Value.int .u64 (wu64 ((wu64 (Int.tdiv a1 b1)) + 1)))])), (23, (vi i1))]) ⟨rfl, rfl, rfl, rfl, rfl, rfl, rfl, rfl, trivial⟩ ?_
 refine sr ?_
 refine sq (y_lss rfl et ev_const) ?_
 refine nk ?_
 refine c_seq ?_
 refine c_cond (b := decide (i1 < 2)) et (fun hb => ?_) (fun hb => ?_)
 ·replace h := ite_t hb h
  refine c_skip ?_
  refine k_same ?_
  refine c_seq ?_
  refine c_block ?_
  refine sr ?_
  obtain ⟨e1, hx1, h⟩ := bnd_some h
  refine sq (y_indexA (fun x => (Value.int .u64 x)) rfl et et hx1 ⟨fun _ => by kernel_rfl, fun _ => by kernel_rfl, trivial⟩) ?_
  refine sa ?_
  refine nk ?_
  refine c_block ?_
  refine sr ?_
  refine sm ?_
  refine sq (y_eql rfl et ev_const) ?_
  refine sm ?_
  refine s_gval (g_false rfl rfl rfl rfl) rfl (fun hc => (y_move rfl et)) ?_
  refine s_gval (g_false rfl rfl rfl rfl) rfl (fun hc => (y_eql rfl (ev_gv et hc) ev_const)) ?_
  refine sq (y_or rfl et et) ?_
  refine sa ?_
  refine nk ?_
  refine c_cond (b := (decide (Int.tmod a1 b1 = 0)) || (decide (how1 = 3))) et (fun hb => ?_) (fun hb => ?_)
  ·replace h := ite_t hb h
   refine c_exit ?_
   refine k_out rfl ?_
   refine k_out rfl ?_
   refine k_in ?_
   refine k_same ?_
   refine sr ?_
   refine sm ?_
   refine sa ?_
   refine nk ?_
   refine c_ret ?_
   obtain rfl := some_inj h
   exact q_ret (vs := [(Value.int .u64 e1)]) Tryd.results93 ⟨ev_tmp rfl rfl, trivial⟩ ⟨rfl, hI.ext0, hI.fin trivial⟩
  ·replace h := ite_f hb h
   refine c_join (α := Bool) (fun _ => ⟨67, []⟩) (fun x => [(1, (Value.int .u64 b1)), (2, (vb negative1)), (3, (vi how1)), (9, (Value.int .u64 (wu64 (Int.tdiv a1 b1)))), (10, (Value.int .u64 (Int.tmod a1 b1))), (11, (Value.int .u64 e1)), (22, (Value.agg #[(Value.int .u64 (wu64 (Int.tdiv a1 b1))), (Value.int .u64 (wu64 ((wu64 (Int.tdiv a1 b1)) + 1)))])), (23, (vi i1)), (33, (vb x))]) (fun x => fun w => ∃ C, Bun noM F w0 C w [] [] ∧ m_round_rounded_j1 e1 how1 a1 b1 (m_round_rounded_l1 a1 b1 how1 negative1 fuel1) i1 x = some r) ?_ ?_
   ·clear h hI; rintro i2 w3 ⟨c2, hI, h⟩
    try dsimp only at hI h
    rw [m_round_rounded_j1] at h
    refine c_sub (e := [(1, (Value.int .u64 b1)), (2, (vb negative1)), (3, (vi how1)), (9, (Value.int .u64 (wu64 (Int.tdiv a1 b1)))), (10, (Value.int .u64 (Int.tmod a1 b1))), (11, (Value.int .u64 e1)), (22, (Value.agg #[(Value.int .u64 (wu64 (Int.tdiv a1 b1))), (Value.int .u64 (wu64 ((wu64 (Int.tdiv a1 b1)) + 1)))])), (23, (vi i1)), (33, (vb i2))]) ⟨rfl, rfl, rfl, rfl, rfl, rfl, rfl, rfl, rfl, trivial⟩ ?_
    refine c_cond (b := i2) et (fun hb => ?_) (fun hb => ?_)
    ·replace h := ite_t hb h
     refine c_exit ?_
     refine k_out rfl ?_
     refine k_out rfl ?_
     refine k_in ?_
     refine k_same ?_
     refine sr ?_
     refine sm ?_
     refine sa ?_
     refine nk ?_
     refine c_ret ?_
     obtain rfl := some_inj h
     exact q_ret (vs := [(Value.int .u64 e1)]) Tryd.results93 ⟨ev_tmp rfl rfl, trivial⟩ ⟨rfl, hI.ext0, hI.fin trivial⟩
    ·replace h := ite_f hb h
     refine sr ?_
     refine sm ?_
     refine sq (y_eql rfl et ev_const) ?_
     refine sm ?_
     refine s_gval (g_true rfl rfl rfl rfl) rfl (fun hc => (y_move rfl et)) ?_
     refine s_gval (g_true rfl rfl rfl rfl) rfl (fun hc => (y_mul rfl ev_const (ev_gv et hc))) ?_
     refine s_gval (g_true rfl rfl rfl rfl) rfl (fun hc => (y_move rfl et)) ?_
     refine s_gval (g_true rfl rfl rfl rfl) rfl (fun hc => (y_lss rfl (ev_gv et hc) (ev_gv et hc))) ?_
     refine s_gval (g_true rfl rfl rfl rfl) rfl (fun hc => (y_move rfl (ev_gv et hc))) ?_
     refine s_gval (g_false2 rfl rfl rfl rfl) rfl (fun hc => (y_move rfl et)) ?_
     refine s_gval (g_false2 rfl rfl rfl rfl) rfl (fun hc => (y_mul rfl ev_const (ev_gv et hc))) ?_
     refine s_gval (g_false2 rfl rfl rfl rfl) rfl (fun hc => (y_move rfl et)) ?_
     refine s_gval (g_false2 rfl rfl rfl rfl) rfl (fun hc => (y_eql rfl (ev_gv et hc) (ev_gv et hc))) ?_
     refine s_gval (g_false2 rfl rfl rfl rfl) rfl (fun hc => (y_move rfl (ev_gv et hc))) ?_
     refine s_gval (g_true2 rfl rfl rfl rfl) rfl (fun hc => (y_move rfl et)) ?_
     refine s_gval (g_true2 rfl rfl rfl rfl) rfl (fun hc => (y_rem rfl (ev_gv et hc) ev_const (by decide))) ?_
     refine s_gval (g_true2 rfl rfl rfl rfl) rfl (fun hc => (y_eql rfl (ev_gv et hc) ev_const)) ?_
     refine s_gval (g_false2 rfl rfl rfl rfl) rfl (fun hc => (y_and2 rfl hc et et)) ?_
     refine s_gval (g_true rfl rfl rfl rfl) rfl (fun hc => (y_or2 rfl hc et et)) ?_
     refine sq (y_and rfl et et) ?_
     refine sa ?_
     refine nk ?_
     refine c_cond (b := (decide (how1 = 4)) && ((decide (wu64 (2 * (Int.tmod a1 b1)) < b1)) || ((decide (wu64 (2 * (Int.tmod a1 b1)) = b1)) && (decide (Int.tmod (wu64 (Int.tdiv a1 b1)) 2 = 0))))) et (fun hb => ?_) (fun hb => ?_)
     ·replace h := ite_t hb h
      refine c_exit ?_
      refine k_out rfl ?_
      refine k_out rfl ?_
      refine k_in ?_
      refine k_next (e := [(11, (Value.int .u64 e1))]) ⟨rfl, trivial⟩ ?_
      refine sr ?_
      refine sm ?_
      refine sa ?_
      refine nk ?_
      refine c_ret ?_
      obtain rfl := some_inj h
      exact q_ret (vs := [(Value.int .u64 e1)]) Tryd.results93 ⟨ev_tmp rfl rfl, trivial⟩ ⟨rfl, hI.ext0, hI.fin trivial⟩
     ·replace h := ite_f hb h
      refine c_skip ?_
      refine k_same ?_
      refine c_region rfl ?_
      refine sq (y_add rfl et ev_const) ?_
      refine sm ?_
      refine s_nil ?_
      exact k_loop (fuel1, e1, wi64 (i1 + 1)) ⟨rfl, rfl, rfl, rfl, rfl, rfl, rfl, rfl, trivial⟩ ⟨_, hI.arr .n trivial, h⟩ (Nat.lt_succ_self _)
   ·skip
    refine sr ?_
    refine sm ?_
    refine sq (y_eql rfl et ev_const) ?_
    refine sm ?_
    refine s_gval (g_true rfl rfl rfl rfl) rfl (fun hc => (y_move rfl et)) ?_
    refine s_gval (g_true rfl rfl rfl rfl) rfl (fun hc => (y_not rfl (ev_gv et hc))) ?_
    refine sq (y_and rfl et et) ?_
    refine sa ?_
    refine nk ?_
    refine c_cond (b := (decide (how1 = 1)) && (!negative1)) et (fun hb => ?_) (fun hb => ?_)
    ·replace h := ite_t hb h
     refine c_skip ?_
     exact k_join ((decide (how1 = 1)) && (!negative1)) ⟨rfl, rfl, rfl, rfl, rfl, rfl, rfl, rfl, rfl, trivial⟩ ⟨_, hI.arr .n trivial, h⟩ rfl
    ·replace h := ite_f hb h
     refine c_region rfl ?_
     refine sm ?_
     refine sq (y_eql rfl et ev_const) ?_
     refine sm ?_
     refine s_gval (g_true rfl rfl rfl rfl) rfl (fun hc => (y_move rfl et)) ?_
     refine sq (y_and rfl et et) ?_
     refine sa ?_
     refine s_nil ?_
     exact k_join ((decide (how1 = 2)) && negative1) ⟨rfl, rfl, rfl, rfl, rfl, rfl, rfl, rfl, rfl, trivial⟩ ⟨_, hI.arr .n trivial, h⟩ rfl
 ·replace h := ite_f hb h
  refine c_exit ?_
  refine k_in ?_
  refine k_same ?_
  refine sr ?_
  refine sm ?_
  refine sa ?_
  refine nk ?_
  refine c_ret ?_
  obtain rfl := some_inj h
  exact q_ret (vs := [(Value.int .u64 m1)]) Tryd.results93 ⟨ev_tmp rfl rfl, trivial⟩ ⟨rfl, hI.ext0, hI.fin trivial⟩
set_option maxRecDepth 100000 in
set_option maxHeartbeats 4000000 in
theorem c_round_Divide (F : NP) (w0 : World) (hF : ∀ k, F k → k < w0.heap.size) (n1 : Int) (d1 : Int) (how1 : Int) (hc : AllCl [] F w0) (r : Int × Int)
  (h : m_round_Divide n1 d1 how1 = some r) :
  Calls Tryd.prog 86 #[(vi n1), (vi d1), (vi how1)] w0 fun e w => e = .returned (Value.tuple #[(vi r.1), (vi r.2)]) ∧ Ext w0 w ∧ AllCl [] F w := by
 refine enterK (l := [(vi n1), (vi d1), (vi how1)]) Tryd.func86 rfl Tryd.ntmps86 rfl ?_
 have hI := Bun.start hF hc
 clear hc
 rw [m_round_Divide] at h
 refine sr ?_
 refine sac ?_
 refine sac ?_
 refine nk ?_
 refine c_seq ?_
 refine sr ?_
 refine sm ?_
 obtain ⟨r1, hx1, h⟩ := bnd_some h
 refine s_call gn rfl (r_callF (vs := [(vi how1)]) rfl ok_92 ⟨et, trivial⟩) (Calls.mono (c_round_mode (Dj F noM) w0 hI.lt how1 trivial r1 hx1) ?_)
 rintro _ w1 ⟨rfl, hx2, hl1⟩
 refine ⟨_, rfl, ?_⟩
 replace hI := (hI.ext hx2)
 refine sq (y_not rfl et) ?_
 refine nk ?_
 refine c_cond (b := !r1) et (fun hb => ?_) (fun hb => ?_)
 ·replace h := ite_t hb h
  refine sr ?_
  refine sac ?_
  refine sac ?_
  refine nk ?_
  refine c_ret ?_
  obtain rfl := some_inj h
  exact q_ret (vs := [(vi 0), (vi 1)]) Tryd.results86 ⟨ev_tmp rfl rfl, ⟨ev_tmp rfl rfl, trivial⟩⟩ ⟨rfl, hI.ext0, hI.fin trivial⟩
 ·replace h := ite_f hb h
  refine c_skip ?_
  refine k_same ?_
  refine c_seq ?_
  refine sr ?_
  refine sm ?_
  refine sq (y_eql rfl et ev_const) ?_
  refine nk ?_
  refine c_cond (b := decide (d1 = 0)) et (fun hb => ?_) (fun hb => ?_)
  ·replace h := ite_t hb h
   refine sr ?_
   refine sac ?_
   refine sac ?_
   refine nk ?_
   refine c_ret ?_
   obtain rfl := some_inj h
   exact q_ret (vs := [(vi 0), (vi 4)]) Tryd.results86 ⟨ev_tmp rfl rfl, ⟨ev_tmp rfl rfl, trivial⟩⟩ ⟨rfl, hI.ext0, hI.fin trivial⟩
  ·replace h := ite_f hb h
   refine c_skip ?_
   refine k_same ?_
   refine sr ?_
   refine sm ?_
   refine sq (y_lss rfl et ev_const) ?_
   refine sm ?_
   refine sq (y_lss rfl et ev_const) ?_
   refine sq (y_neb rfl Tryd.underlying4 et et) ?_
   obtain ⟨negative1, hx3, h⟩ := bnd_some h
   refine sq (binU (y_assign rfl et) (congrArg Value.bool (some_inj hx3))) ?_
   refine nk ?_
   refine sr ?_
   refine sm ?_
   obtain ⟨r2, hx4, h⟩ := bnd_some h
   refine s_call gn rfl (r_callF (vs := [(vi n1)]) rfl ok_94 ⟨et, trivial⟩) (Calls.mono (c_round_magnitude (Dj F noM) w1 hI.lt n1 trivial r2 hx4) ?_)
   rintro _ w2 ⟨rfl, hx5, hl2⟩
   refine ⟨_, rfl, ?_⟩
   replace hI := (hI.ext hx5)
   refine sm ?_
   obtain ⟨r3, hx6, h⟩ := bnd_some h
   refine s_call gn rfl (r_callF (vs := [(vi d1)]) rfl ok_94 ⟨et, trivial⟩) (Calls.mono (c_round_magnitude (Dj F noM) w2 hI.lt d1 trivial r3 hx6) ?_)
   rintro _ w3 ⟨rfl, hx7, hl3⟩
   refine ⟨_, rfl, ?_⟩
   replace hI := (hI.ext hx7)
   refine sm ?_
   refine sm ?_
   obtain ⟨r4, hx8, h⟩ := bnd_some h
   refine s_call gn rfl (r_callF (vs := [(Value.int .u64 r2), (Value.int .u64 r3), (vb negative1), (vi how1)]) rfl ok_93 ⟨et, ⟨et, ⟨et, ⟨et, trivial⟩⟩⟩⟩) (Calls.mono (c_round_rounded (Dj F noM) w3 hI.lt r2 r3 negative1 how1 trivial r4 hx8) ?_)
   rintro _ w4 ⟨rfl, hx9, hl4⟩
   refine ⟨_, rfl, ?_⟩
   replace hI := (hI.ext hx9)
   refine sa ?_
   refine nk ?_
   refine c_seq ?_
   refine sr ?_
   refine sm ?_
   refine nk ?_
   refine c_cond (b := negative1) et (fun hb => ?_) (fun hb => ?_)
   ·replace h := ite_t hb h
    refine sr ?_
    refine sm ?_
    refine sq (y_neg rfl et) ?_
    refine sq (y_conv rfl (by rw [Tryd.underlying81]; rfl) Tryd.underlying2 et) ?_
    refine sa ?_
    refine sac ?_
    refine s_nil ?_
    refine k_next (e := [(6, (vi (wi64 (wu64 (-r4))))), (7, (vi 0))]) ⟨rfl, rfl, trivial⟩ ?_
    refine c_ret ?_
    obtain rfl := some_inj h
    exact q_ret (vs := [(vi (wi64 (wu64 (-r4)))), (vi 0)]) Tryd.results86 ⟨ev_tmp rfl rfl, ⟨ev_tmp rfl rfl, trivial⟩⟩ ⟨rfl, hI.ext0, hI.fin trivial⟩
   ·replace h := ite_f hb h
    refine c_skip ?_
    refine k_next (e := [(9, (Value.int .u64 r4))]) ⟨rfl, trivial⟩ ?_
    refine c_seq ?_
    refine sr ?_
    refine sm ?_
    refine sq (y_geq rfl et ev_const) ?_
    refine nk ?_
    refine c_cond (b := decide (9223372036854775808 ≤ r4)) et (fun hb => ?_) (fun hb => ?_)
    ·replace h := ite_t hb h
     refine sr ?_
     refine sac ?_
     refine sac ?_
     refine nk ?_
     refine c_ret ?_
     obtain rfl := some_inj h
     exact q_ret (vs := [(vi 0), (vi 3)]) Tryd.results86 ⟨ev_tmp rfl rfl, ⟨ev_tmp rfl rfl, trivial⟩⟩ ⟨rfl, hI.ext0, hI.fin trivial⟩
    ·replace h := ite_f hb h
     refine c_skip ?_
     refine k_same ?_
     refine sr ?_
     refine sm ?_
     refine sq (y_conv rfl (by rw [Tryd.underlying81]; rfl) Tryd.underlying2 et) ?_
     refine sa ?_
     refine sac ?_
     refine nk ?_
     refine c_ret ?_
     obtain rfl := some_inj h
     exact q_ret (vs := [(vi (wi64 r4)), (vi 0)]) Tryd.results86 ⟨ev_tmp rfl rfl, ⟨ev_tmp rfl rfl, trivial⟩⟩ ⟨rfl, hI.ext0, hI.fin trivial⟩
set_option maxRecDepth 100000 in
set_option maxHeartbeats 4000000 in
theorem c_fixed_Mul_1 (F : NP) (w0 : World) (hF : ∀ k, F k → k < w0.heap.size) (t1 : GType) (x1 : Int) (y1 : Int) (hc : AllCl [] F w0) (r : Int × Int)
  (h : m_fixed_Mul_1 t1 x1 y1 = some r) :
  Calls Tryd.prog 85 #[(Value.agg #[(vi t1.Kind), (vi t1.Bits), (vi t1.Frac), (vi t1.Round), (vi t1.Over)]), (vi x1), (vi y1)] w0 fun e w => e = .returned (Value.tuple #[(vi r.1), (vi r.2)]) ∧ Ext w0 w ∧ AllCl [] F w := by
 refine enterK (l := [(Value.agg #[(vi t1.Kind), (vi t1.Bits), (vi t1.Frac), (vi t1.Round), (vi t1.Over)]), (vi x1), (vi y1)]) Tryd.func85 rfl Tryd.ntmps85 rfl ?_
 have hI := Bun.start hF hc
 clear hc
 rw [m_fixed_Mul_1] at h
 refine sr ?_
 refine l_box (v := (Value.agg #[(vi t1.Kind), (vi t1.Bits), (vi t1.Frac), (vi t1.Round), (vi t1.Over)])) (cs := #[(vi t1.Kind), (vi t1.Bits), (vi t1.Frac), (vi t1.Round), (vi t1.Over)]) hI gn rfl rfl et rfl ?_
 clear hI; intro b1 c1 w1 hI
 obtain ⟨c2, hI⟩ := hI.relBox .z
 refine sac ?_
 refine sac ?_
 refine nk ?_
 refine c_seq ?_
 refine c_drawX [] false (.c (0, .q) (.c (1, .q) (.c (2, .q) (.c (3, .q) (.c (4, .q) (.c (5, .q) (.c (6, .q) (.c (7, .q) (.c (8, .s) (.c (9, .q) (.c (10, .q) (.c (11, .q) (.c (12, .q) .n))))))))))))) hI (by kernel_rfl) (by kernel_rfl) ?_
 clear hI; intro w2 hI
 refine a_q rfl gn rfl (fun w' => (y_move rfl et)) ?_
 refine a_q rfl gn rfl (fun w' => (y_move rfl et)) ?_
 refine a_q rfl gn rfl (fun w' => (y_mul rfl et et)) ?_
 refine a_q rfl gn rfl (fun w' => (y_fieldAddr rfl et Tryd.underlying23 rfl size_3 rfl)) ?_
 refine a_read rfl gn rfl (fun w' hw' => (y_load1 (v := (vi t1.Frac)) rfl et Tryd.underlying3 rfl ((hI.kblk (l := [(vi t1.Frac)]) .z rfl).at_ (SX.any rfl hw')))) (by kernel_rfl) ?_
 obtain ⟨ho1, h⟩ := chk_some h
 refine a_q rfl gn rfl (fun w' => (y_shl rfl ev_const et ho1)) ?_
 refine a_q rfl gn rfl (fun w' => (y_fieldAddr rfl et Tryd.underlying23 rfl size_3 rfl)) ?_
 refine a_read rfl gn rfl (fun w' hw' => (y_load1 (v := (vi t1.Round)) rfl et Tryd.underlying3 rfl ((hI.kblk (l := [(vi t1.Round)]) .z rfl).at_ (SX.any rfl hw')))) (by kernel_rfl) ?_
 obtain ⟨r1, hx1, h⟩ := bnd_some h
 refine la_call rfl gn rfl (r_callF (vs := [(vi (wi64 (x1 * y1))), (vi (wi64 (1 * 2 ^ (min (Int.toNat t1.Frac) 64)))), (vi t1.Round)]) rfl ok_86 ⟨et, ⟨et, ⟨et, trivial⟩⟩⟩) (Calls.mono (c_round_Divide (Dj F c2) w2 hI.lt (wi64 (x1 * y1)) (wi64 (1 * 2 ^ (min (Int.toNat t1.Frac) 64))) t1.Round trivial r1 hx1) ?_)
 rintro _ w3 ⟨rfl, hx2, hl1⟩
 refine ⟨_, rfl, hx2, ?_⟩
 replace hI := (hI.ext hx2)
 refine a_q rfl gn rfl (fun w' => (y_extract rfl et rfl)) ?_
 refine a_q rfl gn rfl (fun w' => (y_extract rfl et rfl)) ?_
 refine a_q rfl gn rfl (fun w' => (y_assign rfl et)) ?_
 refine a_q rfl gn rfl (fun w' => (y_assign rfl et)) ?_
 refine a_nil ?_
 refine k_same ?_
 refine c_ret ?_
 obtain rfl := some_inj h
 exact q_ret (vs := [(vi r1.1), (vi r1.2)]) Tryd.results85 ⟨ev_tmp rfl rfl, ⟨ev_tmp rfl rfl, trivial⟩⟩ ⟨rfl, hI.ext0, hI.fin trivial⟩
set_option maxRecDepth 100000 in
set_option maxHeartbeats 4000000 in
theorem c_fixed_Mul (F : NP) (w0 : World) (hF : ∀ k, F k → k < w0.heap.size) (t1 : GType) (a1 : GVal) (b1 : GVal) (hc : AllCl [] F w0) (r : GVal × Int)
  (h : m_fixed_Mul t1 a1 b1 = some r) :
  Calls Tryd.prog 72 #[(Value.agg #[(vi t1.Kind), (vi t1.Bits), (vi t1.Frac), (vi t1.Round), (vi t1.Over)]), (Value.agg #[(vi a1.N), (vi a1.D)]), (Value.agg #[(vi b1.N), (vi b1.D)])] w0 fun e w => e = .returned (Value.tuple #[(Value.agg #[(vi r.1.N), (vi r.1.D)]), (vi r.2)]) ∧ Ext w0 w ∧ AllCl [] F w := by
 refine enterK (l := [(Value.agg #[(vi t1.Kind), (vi t1.Bits), (vi t1.Frac), (vi t1.Round), (vi t1.Over)]), (Value.agg #[(vi a1.N), (vi a1.D)]), (Value.agg #[(vi b1.N), (vi b1.D)])]) Tryd.func72 rfl Tryd.ntmps72 rfl ?_
 have hI := Bun.start hF hc
 clear hc
 rw [m_fixed_Mul] at h
 refine sr ?_
 refine l_box (v := (Value.agg #[(vi t1.Kind), (vi t1.Bits), (vi t1.Frac), (vi t1.Round), (vi t1.Over)])) (cs := #[(vi t1.Kind), (vi t1.Bits), (vi t1.Frac), (vi t1.Round), (vi t1.Over)]) hI gn rfl rfl et rfl ?_
 clear hI; intro b2 c1 w1 hI
 obtain ⟨c2, hI⟩ := hI.relBox .z
 refine l_box (v := (Value.agg #[(vi a1.N), (vi a1.D)])) (cs := #[(vi a1.N), (vi a1.D)]) hI gn rfl rfl et rfl ?_
 clear hI; intro b3 c3 w2 hI
 obtain ⟨c4, hI⟩ := hI.relBox .z
 refine l_box (v := (Value.agg #[(vi b1.N), (vi b1.D)])) (cs := #[(vi b1.N), (vi b1.D)]) hI gn rfl rfl et rfl ?_
 clear hI; intro b4 c5 w3 hI
 obtain ⟨c6, hI⟩ := hI.relBox .z
 refine l_alloc (cs := #[(vi 0), (vi 0)]) hI gn rfl rfl zero_29 rfl ?_
 clear hI; intro b5 c7 w4 hI
 refine sac ?_
 refine nk ?_
 refine sr ?_
 refine sq (y_build (vs := [(0, (Value.func (.func 85) #[] #[]))]) (cs := #[(Value.func (.func 85) #[] #[])]) rfl ⟨rfl, ev_func, trivial⟩ (by kernel_rfl)) ?_
 refine sq (y_loadN (l := [(vi t1.Kind), (vi t1.Bits), (vi t1.Frac), (vi t1.Round), (vi t1.Over)]) rfl et Tryd.underlying23 rfl size_23 (hI.kblk (l := [(vi t1.Kind), (vi t1.Bits), (vi t1.Frac), (vi t1.Round), (vi t1.Over)]) (.s (.s .z)) rfl).1) ?_
 refine sq (y_loadN (l := [(vi a1.N), (vi a1.D)]) rfl et Tryd.underlying29 rfl size_29 (hI.kblk (l := [(vi a1.N), (vi a1.D)]) (.s .z) rfl).1) ?_
 refine sq (y_loadN (l := [(vi b1.N), (vi b1.D)]) rfl et Tryd.underlying29 rfl size_29 (hI.kblk (l := [(vi b1.N), (vi b1.D)]) .z rfl).1) ?_
 have hI := hI.add (c := clFn_k1 (Value.func (.func 85) #[] #[]) m_fixed_Mul_1) ⟨rfl, fun D' w' hs hl x_1 x_2 x_3 r k h => CallV.fn (cap := []) ok_85 (c_fixed_Mul_1 D' w' hl x_1 x_2 x_3 trivial r h)⟩
 obtain ⟨r1, hx1, h⟩ := bnd_some h
 refine s_call gn rfl (r_callF (vs := [(Value.agg #[(Value.func (.func 85) #[] #[])]), (Value.agg #[(vi t1.Kind), (vi t1.Bits), (vi t1.Frac), (vi t1.Round), (vi t1.Over)]), (Value.agg #[(vi a1.N), (vi a1.D)]), (Value.agg #[(vi b1.N), (vi b1.D)])]) rfl ok_80 ⟨et, ⟨et, ⟨et, ⟨et, trivial⟩⟩⟩⟩) (Calls.mono (c_fixed_apply (Dj F c7) w4 hI.lt (⟨m_fixed_Mul_1⟩ : Gfixed_operation) t1 a1 b1 (Value.func (.func 85) #[] #[]) ⟨(hI.get .z), trivial⟩ r1 hx1) ?_)
 rintro _ w5 ⟨rfl, hx2, hl1⟩
 refine ⟨_, rfl, ?_⟩
 replace hI := (hI.ext hx2)
 refine sq (y_extract rfl et rfl) ?_
 refine sq (y_extract rfl et rfl) ?_
 refine l_store (new := [(vi r1.1.N), (vi r1.1.D)]) (cs' := #[(vi r1.1.N), (vi r1.1.D)]) hI .z gn rfl rfl et et rfl size_29 rfl rfl rfl ?_
 clear hI; intro c8 w6 hI
 refine sa ?_
 refine nk ?_
 refine c_ret ?_
 obtain rfl := some_inj h
 exact q_ret (vs := [(Value.agg #[(vi r1.1.N), (vi r1.1.D)]), (vi r1.2)]) Tryd.results72 ⟨⟨_, ev_tmp rfl rfl, load_agg (l := [(vi r1.1.N), (vi r1.1.D)]) Tryd.underlying29 rfl size_29 (CellsAt.of_blk (hI.blk .z) rfl)⟩, ⟨ev_tmp rfl rfl, trivial⟩⟩ ⟨rfl, hI.ext0, hI.fin trivial⟩
set_option maxRecDepth 100000 in
set_option maxHeartbeats 4000000 in
theorem c_fixed_Div_1 (F : NP) (w0 : World) (hF : ∀ k, F k → k < w0.heap.size) (t1 : GType) (x1 : Int) (y1 : Int) (hc : AllCl [] F w0) (r : Int × Int)
  (h : m_fixed_Div_1 t1 x1 y1 = some r) :
  Calls Tryd.prog 87 #[(Value.agg #[(vi t1.Kind), (vi t1.Bits), (vi t1.Frac), (vi t1.Round), (vi t1.Over)]), (vi x1), (vi y1)] w0 fun e w => e = .returned (Value.tuple #[(vi r.1), (vi r.2)]) ∧ Ext w0 w ∧ AllCl [] F w := by
 refine enterK (l := [(Value.agg #[(vi t1.Kind), (vi t1.Bits), (vi t1.Frac), (vi t1.Round), (vi t1.Over)]), (vi x1), (vi y1)]) Tryd.func87 rfl Tryd.ntmps87 rfl ?_
 have hI := Bun.start hF hc
 clear hc
 rw [m_fixed_Div_1] at h
 refine sr ?_
 refine l_box (v := (Value.agg #[(vi t1.Kind), (vi t1.Bits), (vi t1.Frac), (vi t1.Round), (vi t1.Over)])) (cs := #[(vi t1.Kind), (vi t1.Bits), (vi t1.Frac), (vi t1.Round), (vi t1.Over)]) hI gn rfl rfl et rfl ?_
 clear hI; intro b1 c1 w1 hI
 obtain ⟨c2, hI⟩ := hI.relBox .z
 refine sac ?_
 refine sac ?_
 refine nk ?_
 refine c_seq ?_
 refine c_drawX [] false (.c (0, .q) (.c (1, .q) (.c (2, .q) (.c (3, .q) (.c (4, .q) (.c (5, .q) (.c (6, .q) (.c (7, .s) (.c (8, .q) (.c (9, .q) (.c (10, .q) (.c (11, .q) .n)))))))))))) hI (by kernel_rfl) (by kernel_rfl) ?_
 clear hI; intro w2 hI
 refine a_q rfl gn rfl (fun w' => (y_move rfl et)) ?_
 refine a_q rfl gn rfl (fun w' => (y_fieldAddr rfl et Tryd.underlying23 rfl size_3 rfl)) ?_
 refine a_read rfl gn rfl (fun w' hw' => (y_load1 (v := (vi t1.Frac)) rfl et Tryd.underlying3 rfl ((hI.kblk (l := [(vi t1.Frac)]) .z rfl).at_ (SX.any rfl hw')))) (by kernel_rfl) ?_
 obtain ⟨ho1, h⟩ := chk_some h
 refine a_q rfl gn rfl (fun w' => (y_shl rfl et et ho1)) ?_
 refine a_q rfl gn rfl (fun w' => (y_move rfl et)) ?_
 refine a_q rfl gn rfl (fun w' => (y_fieldAddr rfl et Tryd.underlying23 rfl size_3 rfl)) ?_
 refine a_read rfl gn rfl (fun w' hw' => (y_load1 (v := (vi t1.Round)) rfl et Tryd.underlying3 rfl ((hI.kblk (l := [(vi t1.Round)]) .z rfl).at_ (SX.any rfl hw')))) (by kernel_rfl) ?_
 obtain ⟨r1, hx1, h⟩ := bnd_some h
 refine la_call rfl gn rfl (r_callF (vs := [(vi (wi64 (x1 * 2 ^ (min (Int.toNat t1.Frac) 64)))), (vi y1), (vi t1.Round)]) rfl ok_86 ⟨et, ⟨et, ⟨et, trivial⟩⟩⟩) (Calls.mono (c_round_Divide (Dj F c2) w2 hI.lt (wi64 (x1 * 2 ^ (min (Int.toNat t1.Frac) 64))) y1 t1.Round trivial r1 hx1) ?_)
 rintro _ w3 ⟨rfl, hx2, hl1⟩
 refine ⟨_, rfl, hx2, ?_⟩
 replace hI := (hI.ext hx2)
 refine a_q rfl gn rfl (fun w' => (y_extract rfl et rfl)) ?_
 refine a_q rfl gn rfl (fun w' => (y_extract rfl et rfl)) ?_
 refine a_q rfl gn rfl (fun w' => (y_assign rfl et)) ?_
 refine a_q rfl gn rfl (fun w' => (y_assign rfl et)) ?_
 refine a_nil ?_
 refine k_same ?_
 refine c_ret ?_
 obtain rfl := some_inj h
 exact q_ret (vs := [(vi r1.1), (vi r1.2)]) Tryd.results87 ⟨ev_tmp rfl rfl, ⟨ev_tmp rfl rfl, trivial⟩⟩ ⟨rfl, hI.ext0, hI.fin trivial⟩
set_option maxRecDepth 100000 in
set_option maxHeartbeats 4000000 in
theorem c_fixed_Div (F : NP) (w0 : World) (hF : ∀ k, F k → k < w0.heap.size) (t1 : GType) (a1 : GVal) (b1 : GVal) (hc : AllCl [] F w0) (r : GVal × Int)
  (h : m_fixed_Div t1 a1 b1 = some r) :
  Calls Tryd.prog 73 #[(Value.agg #[(vi t1.Kind), (vi t1.Bits), (vi t1.Frac), (vi t1.Round), (vi t1.Over)]), (Value.agg #[(vi a1.N), (vi a1.D)]), (Value.agg #[(vi b1.N), (vi b1.D)])] w0 fun e w => e = .returned (Value.tuple #[(Value.agg #[(vi r.1.N), (vi r.1.D)]), (vi r.2)]) ∧ Ext w0 w ∧ AllCl [] F w := by
 refine enterK (l := [(Value.agg #[(vi t1.Kind), (vi t1.Bits), (vi t1.Frac), (vi t1.Round), (vi t1.Over)]), (Value.agg #[(vi a1.N), (vi a1.D)]), (Value.agg #[(vi b1.N), (vi b1.D)])]) Tryd.func73 rfl Tryd.ntmps73 rfl ?_
 have hI := Bun.start hF hc
 clear hc
 rw [m_fixed_Div] at h
 refine sr ?_
 refine l_box (v := (Value.agg #[(vi t1.Kind), (vi t1.Bits), (vi t1.Frac), (vi t1.Round), (vi t1.Over)])) (cs := #[(vi t1.Kind), (vi t1.Bits), (vi t1.Frac), (vi t1.Round), (vi t1.Over)]) hI gn rfl rfl et rfl ?_
 clear hI; intro b2 c1 w1 hI
 obtain ⟨c2, hI⟩ := hI.relBox .z
 refine l_box (v := (Value.agg #[(vi a1.N), (vi a1.D)])) (cs := #[(vi a1.N), (vi a1.D)]) hI gn rfl rfl et rfl ?_
 clear hI; intro b3 c3 w2 hI
 obtain ⟨c4, hI⟩ := hI.relBox .z
 refine l_box (v := (Value.agg #[(vi b1.N), (vi b1.D)])) (cs := #[(vi b1.N), (vi b1.D)]) hI gn rfl rfl et rfl ?_
 clear hI; intro b4 c5 w3 hI
 obtain ⟨c6, hI⟩ := hI.relBox .z
 refine l_alloc (cs := #[(vi 0), (vi 0)]) hI gn rfl rfl zero_29 rfl ?_
 clear hI; intro b5 c7 w4 hI
 refine sac ?_
 refine nk ?_
 refine sr ?_
 refine sq (y_build (vs := [(0, (Value.func (.func 87) #[] #[]))]) (cs := #[(Value.func (.func 87) #[] #[])]) rfl ⟨rfl, ev_func, trivial⟩ (by kernel_rfl)) ?_
 refine sq (y_loadN (l := [(vi t1.Kind), (vi t1.Bits), (vi t1.Frac), (vi t1.Round), (vi t1.Over)]) rfl et Tryd.underlying23 rfl size_23 (hI.kblk (l := [(vi t1.Kind), (vi t1.Bits), (vi t1.Frac), (vi t1.Round), (vi t1.Over)]) (.s (.s .z)) rfl).1) ?_
 refine sq (y_loadN (l := [(vi a1.N), (vi a1.D)]) rfl et Tryd.underlying29 rfl size_29 (hI.kblk (l := [(vi a1.N), (vi a1.D)]) (.s .z) rfl).1) ?_
 refine sq (y_loadN (l := [(vi b1.N), (vi b1.D)]) rfl et Tryd.underlying29 rfl size_29 (hI.kblk (l := [(vi b1.N), (vi b1.D)]) .z rfl).1) ?_
 have hI := hI.add (c := clFn_k1 (Value.func (.func 87) #[] #[]) m_fixed_Div_1) ⟨rfl, fun D' w' hs hl x_1 x_2 x_3 r k h => CallV.fn (cap := []) ok_87 (c_fixed_Div_1 D' w' hl x_1 x_2 x_3 trivial r h)⟩
 obtain ⟨r1, hx1, h⟩ := bnd_some h
 refine s_call gn rfl (r_callF (vs := [(Value.agg #[(Value.func (.func 87) #[] #[])]), (Value.agg #[(vi t1.Kind), (vi t1.Bits), (vi t1.Frac), (vi t1.Round), (vi t1.Over)]), (Value.agg #[(vi a1.N), (vi a1.D)]), (Value.agg #[(vi b1.N), (vi b1.D)])]) rfl ok_80 ⟨et, ⟨et, ⟨et, ⟨et, trivial⟩⟩⟩⟩) (Calls.mono (c_fixed_apply (Dj F c7) w4 hI.lt (⟨m_fixed_Div_1⟩ : Gfixed_operation) t1 a1 b1 (Value.func (.func 87) #[] #[]) ⟨(hI.get .z), trivial⟩ r1 hx1) ?_)
 rintro _ w5 ⟨rfl, hx2, hl1⟩
 refine ⟨_, rfl, ?_⟩
 replace hI := (hI.ext hx2)
 refine sq (y_extract rfl et rfl) ?_
 refine sq (y_extract rfl et rfl) ?_
 refine l_store (new := [(vi r1.1.N), (vi r1.1.D)]) (cs' := #[(vi r1.1.N), (vi r1.1.D)]) hI .z gn rfl rfl et et rfl size_29 rfl rfl rfl ?_
 clear hI; intro c8 w6 hI
 refine sa ?_
 refine nk ?_
 refine c_ret ?_
 obtain rfl := some_inj h
 exact q_ret (vs := [(Value.agg #[(vi r1.1.N), (vi r1.1.D)]), (vi r1.2)]) Tryd.results73 ⟨⟨_, ev_tmp rfl rfl, load_agg (l := [(vi r1.1.N), (vi r1.1.D)]) Tryd.underlying29 rfl size_29 (CellsAt.of_blk (hI.blk .z) rfl)⟩, ⟨ev_tmp rfl rfl, trivial⟩⟩ ⟨rfl, hI.ext0, hI.fin trivial⟩
set_option maxRecDepth 100000 in
set_option maxHeartbeats 4000000 in
theorem c_frac_New (F : NP) (w0 : World) (hF : ∀ k, F k → k < w0.heap.size) (n1 : Int) (d1 : Int) (hc : AllCl [] F w0) (r : GVal × Int)
  (h : m_frac_New n1 d1 = some r) :
  Calls Tryd.prog 88 #[(vi n1), (vi d1)] w0 fun e w => e = .returned (Value.tuple #[(Value.agg #[(vi r.1.N), (vi r.1.D)]), (vi r.2)]) ∧ Ext w0 w ∧ AllCl [] F w := by
 refine enterK (l := [(vi n1), (vi d1)]) Tryd.func88 rfl Tryd.ntmps88 rfl ?_
 have hI := Bun.start hF hc
 clear hc
 rw [m_frac_New] at h
 refine sr ?_
 refine l_alloc (cs := #[(vi 0), (vi 0)]) hI gn rfl rfl zero_29 rfl ?_
 clear hI; intro b1 c1 w1 hI
 refine sac ?_
 refine nk ?_
 refine c_seq ?_
 refine sr ?_
 refine sm ?_
 refine sq (y_eql rfl et ev_const) ?_
 refine nk ?_
 refine c_cond (b := decide (d1 = 0)) et (fun hb => ?_) (fun hb => ?_)
 ·replace h := ite_t hb h
  refine sr ?_
  refine sq (y_build (vs := []) (cs := #[(vi 0), (vi 0)]) rfl trivial (by kernel_rfl)) ?_
  refine l_store (new := [(vi 0), (vi 0)]) (cs' := #[(vi 0), (vi 0)]) hI .z gn rfl rfl et et rfl size_29 rfl rfl rfl ?_
  clear hI; intro c2 w2 hI
  refine sac ?_
  refine nk ?_
  refine c_ret ?_
  obtain rfl := some_inj h
  exact q_ret (vs := [(Value.agg #[(vi 0), (vi 0)]), (vi 4)]) Tryd.results88 ⟨⟨_, ev_tmp rfl rfl, load_agg (l := [(vi 0), (vi 0)]) Tryd.underlying29 rfl size_29 (CellsAt.of_blk (hI.blk .z) rfl)⟩, ⟨ev_tmp rfl rfl, trivial⟩⟩ ⟨rfl, hI.ext0, hI.fin trivial⟩
 ·replace h := ite_f hb h
  refine c_skip ?_
  refine k_same ?_
  refine sr ?_
  refine sm ?_
  refine sq (y_lss rfl et ev_const) ?_
  refine sm ?_
  refine sq (y_lss rfl et ev_const) ?_
  refine sq (y_neb rfl Tryd.underlying4 et et) ?_
  obtain ⟨negative1, hx1, h⟩ := bnd_some h
  refine sq (binU (y_assign rfl et) (congrArg Value.bool (some_inj hx1))) ?_
  refine nk ?_
  refine sr ?_
  refine sm ?_
  obtain ⟨r1, hx2, h⟩ := bnd_some h
  refine s_call gn rfl (r_callF (vs := [(vi n1)]) rfl ok_58 ⟨et, trivial⟩) (Calls.mono (c_frac_magnitude (Dj F c1) w1 hI.lt n1 trivial r1 hx2) ?_)
  rintro _ w3 ⟨rfl, hx3, hl1⟩
  refine ⟨_, rfl, ?_⟩
  replace hI := (hI.ext hx3)
  refine sm ?_
  obtain ⟨r2, hx4, h⟩ := bnd_some h
  refine s_call gn rfl (r_callF (vs := [(vi d1)]) rfl ok_58 ⟨et, trivial⟩) (Calls.mono (c_frac_magnitude (Dj F c1) w3 hI.lt d1 trivial r2 hx4) ?_)
  rintro _ w4 ⟨rfl, hx5, hl2⟩
  refine ⟨_, rfl, ?_⟩
  replace hI := (hI.ext hx5)
  refine sa ?_
  refine sa ?_
  refine nk ?_
  refine sr ?_
  refine sm ?_
  refine sm ?_
  obtain ⟨r3, hx6, h⟩ := bnd_some h
  refine s_call gn rfl (r_callF (vs := [(Value.int .u64 r1), (Value.int .u64 r2)]) rfl ok_57 ⟨et, ⟨et, trivial⟩⟩) (Calls.mono (c_frac_gcd (Dj F c1) w4 hI.lt r1 r2 trivial r3 hx6) ?_)
  rintro _ w5 ⟨rfl, hx7, hl3⟩
  refine ⟨_, rfl, ?_⟩
  replace hI := (hI.ext hx7)
  refine sa ?_
  refine nk ?_
  refine c_seq ?_
  refine c_drawX [] false (.c (0, .q) (.c (1, .q) (.c (2, .q) (.c (3, .q) (.c (4, .q) (.c (5, .q) (.c (6, .q) (.c (7, .q) .n)))))))) hI (by kernel_rfl) (by kernel_rfl) ?_
  clear hI; intro w6 hI
  refine a_q rfl gn rfl (fun w' => (y_move rfl et)) ?_
  refine a_q rfl gn rfl (fun w' => (y_move rfl et)) ?_
  obtain ⟨ho1, h⟩ := chk_some h
  refine a_q rfl gn rfl (fun w' => (y_quo rfl et et ho1)) ?_
  refine a_q rfl gn rfl (fun w' => (y_move rfl et)) ?_
  refine a_q rfl gn rfl (fun w' => (y_move rfl et)) ?_
  refine a_q rfl gn rfl (fun w' => (y_quo rfl et et ho1)) ?_
  refine a_q rfl gn rfl (fun w' => (y_assign rfl et)) ?_
  refine a_q rfl gn rfl (fun w' => (y_assign rfl et)) ?_
  refine a_nil ?_
  refine k_next (e := [(4, (vp b1 0)), (6, (vb negative1)), (7, (Value.int .u64 (wu64 (Int.tdiv r1 r3)))), (8, (Value.int .u64 (wu64 (Int.tdiv r2 r3))))]) ⟨rfl, rfl, rfl, rfl, trivial⟩ ?_
  refine c_seq ?_
  refine sr ?_
  refine sm ?_
  refine sq (y_gtr rfl et ev_const) ?_
  refine sm ?_
  refine s_gval (g_false rfl rfl rfl rfl) rfl (fun hc => (y_move rfl et)) ?_
  refine s_gval (g_false rfl rfl rfl rfl) rfl (fun hc => (y_gtr rfl (ev_gv et hc) ev_const)) ?_
  refine sq (y_or rfl et et) ?_
  refine nk ?_
  refine c_cond (b := (decide (2147483647 < wu64 (Int.tdiv r1 r3))) || (decide (2147483647 < wu64 (Int.tdiv r2 r3)))) et (fun hb => ?_) (fun hb => ?_)
  ·replace h := ite_t hb h
   refine sr ?_
   refine sq (y_build (vs := []) (cs := #[(vi 0), (vi 0)]) rfl trivial (by kernel_rfl)) ?_
   refine l_store (new := [(vi 0), (vi 0)]) (cs' := #[(vi 0), (vi 0)]) hI .z gn rfl rfl et et rfl size_29 rfl rfl rfl ?_
   clear hI; intro c3 w7 hI
   refine sac ?_
   refine nk ?_
   refine c_ret ?_
   obtain rfl := some_inj h
   exact q_ret (vs := [(Value.agg #[(vi 0), (vi 0)]), (vi 3)]) Tryd.results88 ⟨⟨_, ev_tmp rfl rfl, load_agg (l := [(vi 0), (vi 0)]) Tryd.underlying29 rfl size_29 (CellsAt.of_blk (hI.blk .z) rfl)⟩, ⟨ev_tmp rfl rfl, trivial⟩⟩ ⟨rfl, hI.ext0, hI.fin trivial⟩
  ·replace h := ite_f hb h
   refine c_skip ?_
   refine k_same ?_
   refine c_seq ?_
   refine sr ?_
   refine sm ?_
   refine nk ?_
   refine c_cond (b := negative1) et (fun hb => ?_) (fun hb => ?_)
   ·replace h := ite_t hb h
    refine sr ?_
    refine sm ?_
    refine sq (y_conv rfl (by rw [Tryd.underlying81]; rfl) Tryd.underlying2 et) ?_
    refine sq (y_neg rfl et) ?_
    refine sm ?_
    refine sq (y_conv rfl (by rw [Tryd.underlying81]; rfl) Tryd.underlying2 et) ?_
    refine sq (y_build (vs := [(0, (vi (wi64 (-(wi64 (wu64 (Int.tdiv r1 r3))))))), (1, (vi (wi64 (wu64 (Int.tdiv r2 r3)))))]) (cs := #[(vi (wi64 (-(wi64 (wu64 (Int.tdiv r1 r3)))))), (vi (wi64 (wu64 (Int.tdiv r2 r3))))]) rfl ⟨rfl, et, ⟨rfl, et, trivial⟩⟩ (by kernel_rfl)) ?_
    refine l_store (new := [(vi (wi64 (-(wi64 (wu64 (Int.tdiv r1 r3)))))), (vi (wi64 (wu64 (Int.tdiv r2 r3))))]) (cs' := #[(vi (wi64 (-(wi64 (wu64 (Int.tdiv r1 r3)))))), (vi (wi64 (wu64 (Int.tdiv r2 r3))))]) hI .z gn rfl rfl et et rfl size_29 rfl rfl rfl ?_
    clear hI; intro c4 w8 hI
    refine sac ?_
    refine nk ?_
    refine c_ret ?_
    obtain rfl := some_inj h
    exact q_ret (vs := [(Value.agg #[(vi (wi64 (-(wi64 (wu64 (Int.tdiv r1 r3)))))), (vi (wi64 (wu64 (Int.tdiv r2 r3))))]), (vi 0)]) Tryd.results88 ⟨⟨_, ev_tmp rfl rfl, load_agg (l := [(vi (wi64 (-(wi64 (wu64 (Int.tdiv r1 r3)))))), (vi (wi64 (wu64 (Int.tdiv r2 r3))))]) Tryd.underlying29 rfl size_29 (CellsAt.of_blk (hI.blk .z) rfl)⟩, ⟨ev_tmp rfl rfl, trivial⟩⟩ ⟨rfl, hI.ext0, hI.fin trivial⟩
   ·replace h := ite_f hb h
    refine c_skip ?_
    refine k_same ?_
    refine sr ?_
    refine sm ?_
    refine sq (y_conv rfl (by rw [Tryd.underlying81]; rfl) Tryd.underlying2 et) ?_
    refine sm ?_
    refine sq (y_conv rfl (by rw [Tryd.underlying81]; rfl) Tryd.underlying2 et) ?_
    refine sq (y_build (vs := [(0, (vi (wi64 (wu64 (Int.tdiv r1 r3))))), (1, (vi (wi64 (wu64 (Int.tdiv r2 r3)))))]) (cs := #[(vi (wi64 (wu64 (Int.tdiv r1 r3)))), (vi (wi64 (wu64 (Int.tdiv r2 r3))))]) rfl ⟨rfl, et, ⟨rfl, et, trivial⟩⟩ (by kernel_rfl)) ?_
    refine l_store (new := [(vi (wi64 (wu64 (Int.tdiv r1 r3)))), (vi (wi64 (wu64 (Int.tdiv r2 r3))))]) (cs' := #[(vi (wi64 (wu64 (Int.tdiv r1 r3)))), (vi (wi64 (wu64 (Int.tdiv r2 r3))))]) hI .z gn rfl rfl et et rfl size_29 rfl rfl rfl ?_
    clear hI; intro c5 w9 hI
    refine sac ?_
    refine nk ?_
    refine c_ret ?_
    obtain rfl := some_inj h
    exact q_ret (vs := [(Value.agg #[(vi (wi64 (wu64 (Int.tdiv r1 r3)))), (vi (wi64 (wu64 (Int.tdiv r2 r3))))]), (vi 0)]) Tryd.results88 ⟨⟨_, ev_tmp rfl rfl, load_agg (l := [(vi (wi64 (wu64 (Int.tdiv r1 r3)))), (vi (wi64 (wu64 (Int.tdiv r2 r3))))]) Tryd.underlying29 rfl size_29 (CellsAt.of_blk (hI.blk .z) rfl)⟩, ⟨ev_tmp rfl rfl, trivial⟩⟩ ⟨rfl, hI.ext0, hI.fin trivial⟩
set_option maxRecDepth 100000 in
set_option maxHeartbeats 4000000 in
theorem c_frac_Add (F : NP) (w0 : World) (hF : ∀ k, F k → k < w0.heap.size) (a1 : GVal) (b1 : GVal) (hc : AllCl [] F w0) (r : GVal × Int)
  (h : m_frac_Add a1 b1 = some r) :
  Calls Tryd.prog 74 #[(Value.agg #[(vi a1.N), (vi a1.D)]), (Value.agg #[(vi b1.N), (vi b1.D)])] w0 fun e w => e = .returned (Value.tuple #[(Value.agg #[(vi r.1.N), (vi r.1.D)]), (vi r.2)]) ∧ Ext w0 w ∧ AllCl [] F w := by
 refine enterK (l := [(Value.agg #[(vi a1.N), (vi a1.D)]), (Value.agg #[(vi b1.N), (vi b1.D)])]) Tryd.func74 rfl Tryd.ntmps74 rfl ?_
 have hI := Bun.start hF hc
 clear hc
 rw [m_frac_Add] at h
 refine sr ?_
 refine l_box (v := (Value.agg #[(vi a1.N), (vi a1.D)])) (cs := #[(vi a1.N), (vi a1.D)]) hI gn rfl rfl et rfl ?_
 clear hI; intro b2 c1 w1 hI
 obtain ⟨c2, hI⟩ := hI.relBox .z
 refine l_box (v := (Value.agg #[(vi b1.N), (vi b1.D)])) (cs := #[(vi b1.N), (vi b1.D)]) hI gn rfl rfl et rfl ?_
 clear hI; intro b3 c3 w2 hI
 obtain ⟨c4, hI⟩ := hI.relBox .z
 refine l_alloc (cs := #[(vi 0), (vi 0)]) hI gn rfl rfl zero_29 rfl ?_
 clear hI; intro b4 c5 w3 hI
 refine sac ?_
 refine nk ?_
 refine c_seq ?_
 refine sr ?_
 refine sq (y_loadN (l := [(vi a1.N), (vi a1.D)]) rfl et Tryd.underlying29 rfl size_29 (hI.kblk (l := [(vi a1.N), (vi a1.D)]) (.s .z) rfl).1) ?_
 obtain ⟨r1, hx1, h⟩ := bnd_some h
 refine s_call gn rfl (r_callF (vs := [(Value.agg #[(vi a1.N), (vi a1.D)])]) rfl ok_41 ⟨et, trivial⟩) (Calls.mono (c_frac_Valid (Dj F c5) w3 hI.lt a1 trivial r1 hx1) ?_)
 rintro _ w4 ⟨rfl, hx2, hl1⟩
 refine ⟨_, rfl, ?_⟩
 replace hI := (hI.ext hx2)
 refine sq (y_not rfl et) ?_
 refine sm ?_
 refine s_gval (g_false rfl rfl rfl rfl) rfl (fun hc => (y_loadN (l := [(vi b1.N), (vi b1.D)]) rfl et Tryd.underlying29 rfl size_29 (hI.kblk (l := [(vi b1.N), (vi b1.D)]) .z rfl).1)) ?_
 obtain ⟨r2, hx3, h⟩ := bnd_some h
 replace hx3 := gd_some hx3
 refine s_gcallU (v := (vb r2)) (g_false rfl rfl rfl rfl) rfl (fun hc => (r_callF (vs := [(Value.agg #[(vi b1.N), (vi b1.D)])]) rfl ok_41 ⟨(ev_gv et hc), trivial⟩)) (fun hc => (c_frac_Valid (Dj F c5) w4 hI.lt b1 trivial r2 (hx3 hc)).mono fun _ _ k => ⟨k.1, k.2.1⟩) ?_
 intro w5 hx4; replace hI := hI.ext hx4
 refine s_gval (g_false rfl rfl rfl rfl) rfl (fun hc => (y_not rfl (ev_gv et hc))) ?_
 refine sq (y_or rfl et et) ?_
 refine nk ?_
 refine c_cond (b := (!r1) || (!r2)) et (fun hb => ?_) (fun hb => ?_)
 ·replace h := ite_t hb h
  refine sr ?_
  refine sq (y_build (vs := []) (cs := #[(vi 0), (vi 0)]) rfl trivial (by kernel_rfl)) ?_
  refine l_store (new := [(vi 0), (vi 0)]) (cs' := #[(vi 0), (vi 0)]) hI .z gn rfl rfl et et rfl size_29 rfl rfl rfl ?_
  clear hI; intro c6 w6 hI
  refine sac ?_
  refine nk ?_
  refine c_ret ?_
  obtain rfl := some_inj h
  exact q_ret (vs := [(Value.agg #[(vi 0), (vi 0)]), (vi 1)]) Tryd.results74 ⟨⟨_, ev_tmp rfl rfl, load_agg (l := [(vi 0), (vi 0)]) Tryd.underlying29 rfl size_29 (CellsAt.of_blk (hI.blk .z) rfl)⟩, ⟨ev_tmp rfl rfl, trivial⟩⟩ ⟨rfl, hI.ext0, hI.fin trivial⟩
 ·replace h := ite_f hb h
  refine c_skip ?_
  refine k_same ?_
  refine sr ?_
  refine sq (y_fieldAddr rfl et Tryd.underlying29 rfl size_2 rfl) ?_
  refine sq (y_load1 (v := (vi a1.N)) rfl et Tryd.underlying2 rfl (hI.kblk (l := [(vi a1.N)]) (.s .z) rfl).1) ?_
  refine sq (y_fieldAddr rfl et Tryd.underlying29 rfl size_2 rfl) ?_
  refine sq (y_load1 (v := (vi b1.D)) rfl et Tryd.underlying2 rfl (hI.kblk (l := [(vi b1.D)]) .z rfl).1) ?_
  refine sq (y_mul rfl et et) ?_
  refine sq (y_fieldAddr rfl et Tryd.underlying29 rfl size_2 rfl) ?_
  refine sq (y_load1 (v := (vi b1.N)) rfl et Tryd.underlying2 rfl (hI.kblk (l := [(vi b1.N)]) .z rfl).1) ?_
  refine sq (y_fieldAddr rfl et Tryd.underlying29 rfl size_2 rfl) ?_
  refine sq (y_load1 (v := (vi a1.D)) rfl et Tryd.underlying2 rfl (hI.kblk (l := [(vi a1.D)]) (.s .z) rfl).1) ?_
  refine sq (y_mul rfl et et) ?_
  refine sq (y_add rfl et et) ?_
  refine sq (y_fieldAddr rfl et Tryd.underlying29 rfl size_2 rfl) ?_
  refine sq (y_load1 (v := (vi a1.D)) rfl et Tryd.underlying2 rfl (hI.kblk (l := [(vi a1.D)]) (.s .z) rfl).1) ?_
  refine sq (y_fieldAddr rfl et Tryd.underlying29 rfl size_2 rfl) ?_
  refine sq (y_load1 (v := (vi b1.D)) rfl et Tryd.underlying2 rfl (hI.kblk (l := [(vi b1.D)]) .z rfl).1) ?_
  refine sq (y_mul rfl et et) ?_
  obtain ⟨r3, hx5, h⟩ := bnd_some h
  refine s_call gn rfl (r_callF (vs := [(vi (wi64 ((wi64 (a1.N * b1.D)) + (wi64 (b1.N * a1.D))))), (vi (wi64 (a1.D * b1.D)))]) rfl ok_88 ⟨et, ⟨et, trivial⟩⟩) (Calls.mono (c_frac_New (Dj F c5) w5 hI.lt (wi64 ((wi64 (a1.N * b1.D)) + (wi64 (b1.N * a1.D)))) (wi64 (a1.D * b1.D)) trivial r3 hx5) ?_)
  rintro _ w7 ⟨rfl, hx6, hl3⟩
  refine ⟨_, rfl, ?_⟩
  replace hI := (hI.ext hx6)
  refine sq (y_extract rfl et rfl) ?_
  refine sq (y_extract rfl et rfl) ?_
  refine l_store (new := [(vi r3.1.N), (vi r3.1.D)]) (cs' := #[(vi r3.1.N), (vi r3.1.D)]) hI .z gn rfl rfl et et rfl size_29 rfl rfl rfl ?_
  clear hI; intro c7 w8 hI
  refine sa ?_
  refine s_nil ?_
  refine k_next (e := [(4, (vp b4 0)), (5, (vi r3.2))]) ⟨rfl, rfl, trivial⟩ ?_
  refine c_ret ?_
  obtain rfl := some_inj h
  exact q_ret (vs := [(Value.agg #[(vi r3.1.N), (vi r3.1.D)]), (vi r3.2)]) Tryd.results74 ⟨⟨_, ev_tmp rfl rfl, load_agg (l := [(vi r3.1.N), (vi r3.1.D)]) Tryd.underlying29 rfl size_29 (CellsAt.of_blk (hI.blk .z) rfl)⟩, ⟨ev_tmp rfl rfl, trivial⟩⟩ ⟨rfl, hI.ext0, hI.fin trivial⟩
set_option maxRecDepth 100000 in
set_option maxHeartbeats 4000000 in
theorem c_frac_Sub (F : NP) (w0 : World) (hF : ∀ k, F k → k < w0.heap.size) (a1 : GVal) (b1 : GVal) (hc : AllCl [] F w0) (r : GVal × Int)
  (h : m_frac_Sub a1 b1 = some r) :
  Calls Tryd.prog 75 #[(Value.agg #[(vi a1.N), (vi a1.D)]), (Value.agg #[(vi b1.N), (vi b1.D)])] w0 fun e w => e = .returned (Value.tuple #[(Value.agg #[(vi r.1.N), (vi r.1.D)]), (vi r.2)]) ∧ Ext w0 w ∧ AllCl [] F w := by
 refine enterK (l := [(Value.agg #[(vi a1.N), (vi a1.D)]), (Value.agg #[(vi b1.N), (vi b1.D)])]) Tryd.func75 rfl Tryd.ntmps75 rfl ?_
 have hI := Bun.start hF hc
 clear hc
 rw [m_frac_Sub] at h
 refine sr ?_
 refine l_box (v := (Value.agg #[(vi a1.N), (vi a1.D)])) (cs := #[(vi a1.N), (vi a1.D)]) hI gn rfl rfl et rfl ?_
 clear hI; intro b2 c1 w1 hI
 obtain ⟨c2, hI⟩ := hI.relBox .z
 refine l_box (v := (Value.agg #[(vi b1.N), (vi b1.D)])) (cs := #[(vi b1.N), (vi b1.D)]) hI gn rfl rfl et rfl ?_
 clear hI; intro b3 c3 w2 hI
 obtain ⟨c4, hI⟩ := hI.relBox .z
 refine l_alloc (cs := #[(vi 0), (vi 0)]) hI gn rfl rfl zero_29 rfl ?_
 clear hI; intro b4 c5 w3 hI
 refine sac ?_
 refine nk ?_
 refine c_seq ?_
 refine sr ?_
 refine sq (y_loadN (l := [(vi a1.N), (vi a1.D)]) rfl et Tryd.underlying29 rfl size_29 (hI.kblk (l := [(vi a1.N), (vi a1.D)]) (.s .z) rfl).1) ?_
 obtain ⟨r1, hx1, h⟩ := bnd_some h
 refine s_call gn rfl (r_callF (vs := [(Value.agg #[(vi a1.N), (vi a1.D)])]) rfl ok_41 ⟨et, trivial⟩) (Calls.mono (c_frac_Valid (Dj F c5) w3 hI.lt a1 trivial r1 hx1) ?_)
 rintro _ w4 ⟨rfl, hx2, hl1⟩
 refine ⟨_, rfl, ?_⟩
 replace hI := (hI.ext hx2)
 refine sq (y_not rfl et) ?_
 refine sm ?_
 refine s_gval (g_false rfl rfl rfl rfl) rfl (fun hc => (y_loadN (l := [(vi b1.N), (vi b1.D)]) rfl et Tryd.underlying29 rfl size_29 (hI.kblk (l := [(vi b1.N), (vi b1.D)]) .z rfl).1)) ?_
 obtain ⟨r2, hx3, h⟩ := bnd_some h
 replace hx3 := gd_some hx3
 refine s_gcallU (v := (vb r2)) (g_false rfl rfl rfl rfl) rfl (fun hc => (r_callF (vs := [(Value.agg #[(vi b1.N), (vi b1.D)])]) rfl ok_41 ⟨(ev_gv et hc), trivial⟩)) (fun hc => (c_frac_Valid (Dj F c5) w4 hI.lt b1 trivial r2 (hx3 hc)).mono fun _ _ k => ⟨k.1, k.2.1⟩) ?_
 intro w5 hx4; replace hI := hI.ext hx4
 refine s_gval (g_false rfl rfl rfl rfl) rfl (fun hc => (y_not rfl (ev_gv et hc))) ?_
 refine sq (y_or rfl et et) ?_
 refine nk ?_
 refine c_cond (b := (!r1) || (!r2)) et (fun hb => ?_) (fun hb => ?_)
 ·replace h := ite_t hb h
  refine sr ?_
  refine sq (y_build (vs := []) (cs := #[(vi 0), (vi 0)]) rfl trivial (by kernel_rfl)) ?_
  refine l_store (new := [(vi 0), (vi 0)]) (cs' := #[(vi 0), (vi 0)]) hI .z gn rfl rfl et et rfl size_29 rfl rfl rfl ?_
  clear hI; intro c6 w6 hI
  refine sac ?_
  refine nk ?_
  refine c_ret ?_
  obtain rfl := some_inj h
  exact q_ret (vs := [(Value.agg #[(vi 0), (vi 0)]), (vi 1)]) Tryd.results75 ⟨⟨_, ev_tmp rfl rfl, load_agg (l := [(vi 0), (vi 0)]) Tryd.underlying29 rfl size_29 (CellsAt.of_blk (hI.blk .z) rfl)⟩, ⟨ev_tmp rfl rfl, trivial⟩⟩ ⟨rfl, hI.ext0, hI.fin trivial⟩
 ·replace h := ite_f hb h
  refine c_skip ?_
  refine k_same ?_
  refine sr ?_
  refine sq (y_fieldAddr rfl et Tryd.underlying29 rfl size_2 rfl) ?_
  refine sq (y_load1 (v := (vi a1.N)) rfl et Tryd.underlying2 rfl (hI.kblk (l := [(vi a1.N)]) (.s .z) rfl).1) ?_
  refine sq (y_fieldAddr rfl et Tryd.underlying29 rfl size_2 rfl) ?_
  refine sq (y_load1 (v := (vi b1.D)) rfl et Tryd.underlying2 rfl (hI.kblk (l := [(vi b1.D)]) .z rfl).1) ?_
  refine sq (y_mul rfl et et) ?_
  refine sq (y_fieldAddr rfl et Tryd.underlying29 rfl size_2 rfl) ?_
  refine sq (y_load1 (v := (vi b1.N)) rfl et Tryd.underlying2 rfl (hI.kblk (l := [(vi b1.N)]) .z rfl).1) ?_
  refine sq (y_fieldAddr rfl et Tryd.underlying29 rfl size_2 rfl) ?_
  refine sq (y_load1 (v := (vi a1.D)) rfl et Tryd.underlying2 rfl (hI.kblk (l := [(vi a1.D)]) (.s .z) rfl).1) ?_
  refine sq (y_mul rfl et et) ?_
  refine sq (y_sub rfl et et) ?_
  refine sq (y_fieldAddr rfl et Tryd.underlying29 rfl size_2 rfl) ?_
  refine sq (y_load1 (v := (vi a1.D)) rfl et Tryd.underlying2 rfl (hI.kblk (l := [(vi a1.D)]) (.s .z) rfl).1) ?_
  refine sq (y_fieldAddr rfl et Tryd.underlying29 rfl size_2 rfl) ?_
  refine sq (y_load1 (v := (vi b1.D)) rfl et Tryd.underlying2 rfl (hI.kblk (l := [(vi b1.D)]) .z rfl).1) ?_
  refine sq (y_mul rfl et et) ?_
  obtain ⟨r3, hx5, h⟩ := bnd_some h
  refine s_call gn rfl (r_callF (vs := [(vi (wi64 ((wi64 (a1.N * b1.D)) - (wi64 (b1.N * a1.D))))), (vi (wi64 (a1.D * b1.D)))]) rfl ok_88 ⟨et, ⟨et, trivial⟩⟩) (Calls.mono (c_frac_New (Dj F c5) w5 hI.lt (wi64 ((wi64 (a1.N * b1.D)) - (wi64 (b1.N * a1.D)))) (wi64 (a1.D * b1.D)) trivial r3 hx5) ?_)
  rintro _ w7 ⟨rfl, hx6, hl3⟩
  refine ⟨_, rfl, ?_⟩
  replace hI := (hI.ext hx6)
  refine sq (y_extract rfl et rfl) ?_
  refine sq (y_extract rfl et rfl) ?_
  refine l_store (new := [(vi r3.1.N), (vi r3.1.D)]) (cs' := #[(vi r3.1.N), (vi r3.1.D)]) hI .z gn rfl rfl et et rfl size_29 rfl rfl rfl ?_
  clear hI; intro c7 w8 hI
  refine sa ?_
  refine s_nil ?_
  refine k_next (e := [(4, (vp b4 0)), (5, (vi r3.2))]) ⟨rfl, rfl, trivial⟩ ?_
  refine c_ret ?_
  obtain rfl := some_inj h
  exact q_ret (vs := [(Value.agg #[(vi r3.1.N), (vi r3.1.D)]), (vi r3.2)]) Tryd.results75 ⟨⟨_, ev_tmp rfl rfl, load_agg (l := [(vi r3.1.N), (vi r3.1.D)]) Tryd.underlying29 rfl size_29 (CellsAt.of_blk (hI.blk .z) rfl)⟩, ⟨ev_tmp rfl rfl, trivial⟩⟩ ⟨rfl, hI.ext0, hI.fin trivial⟩
set_option maxRecDepth 100000 in
set_option maxHeartbeats 4000000 in
theorem c_frac_Mul (F : NP) (w0 : World) (hF : ∀ k, F k → k < w0.heap.size) (a1 : GVal) (b1 : GVal) (hc : AllCl [] F w0) (r : GVal × Int)
  (h : m_frac_Mul a1 b1 = some r) :
  Calls Tryd.prog 76 #[(Value.agg #[(vi a1.N), (vi a1.D)]), (Value.agg #[(vi b1.N), (vi b1.D)])] w0 fun e w => e = .returned (Value.tuple #[(Value.agg #[(vi r.1.N), (vi r.1.D)]), (vi r.2)]) ∧ Ext w0 w ∧ AllCl [] F w := by
 refine enterK (l := [(Value.agg #[(vi a1.N), (vi a1.D)]), (Value.agg #[(vi b1.N), (vi b1.D)])]) Tryd.func76 rfl Tryd.ntmps76 rfl ?_
 have hI := Bun.start hF hc
 clear hc
 rw [m_frac_Mul] at h
 refine sr ?_
 refine l_box (v := (Value.agg #[(vi a1.N), (vi a1.D)])) (cs := #[(vi a1.N), (vi a1.D)]) hI gn rfl rfl et rfl ?_
 clear hI; intro b2 c1 w1 hI
 obtain ⟨c2, hI⟩ := hI.relBox .z
 refine l_box (v := (Value.agg #[(vi b1.N), (vi b1.D)])) (cs := #[(vi b1.N), (vi b1.D)]) hI gn rfl rfl et rfl ?_
 clear hI; intro b3 c3 w2 hI
 obtain ⟨c4, hI⟩ := hI.relBox .z
 refine l_alloc (cs := #[(vi 0), (vi 0)]) hI gn rfl rfl zero_29 rfl ?_
 clear hI; intro b4 c5 w3 hI
 refine sac ?_
 refine nk ?_
 refine c_seq ?_
 refine sr ?_
 refine sq (y_loadN (l := [(vi a1.N), (vi a1.D)]) rfl et Tryd.underlying29 rfl size_29 (hI.kblk (l := [(vi a1.N), (vi a1.D)]) (.s .z) rfl).1) ?_
 obtain ⟨r1, hx1, h⟩ := bnd_some h
 refine s_call gn rfl (r_callF (vs := [(Value.agg #[(vi a1.N), (vi a1.D)])]) rfl ok_41 ⟨et, trivial⟩) (Calls.mono (c_frac_Valid (Dj F c5) w3 hI.lt a1 trivial r1 hx1) ?_)
 rintro _ w4 ⟨rfl, hx2, hl1⟩
 refine ⟨_, rfl, ?_⟩
 replace hI := (hI.ext hx2)
 refine sq (y_not rfl et) ?_
 refine sm ?_
 refine s_gval (g_false rfl rfl rfl rfl) rfl (fun hc => (y_loadN (l := [(vi b1.N), (vi b1.D)]) rfl et Tryd.underlying29 rfl size_29 (hI.kblk (l := [(vi b1.N), (vi b1.D)]) .z rfl).1)) ?_
 obtain ⟨r2, hx3, h⟩ := bnd_some h
 replace hx3 := gd_some hx3
 refine s_gcallU (v := (vb r2)) (g_false rfl rfl rfl rfl) rfl (fun hc => (r_callF (vs := [(Value.agg #[(vi b1.N), (vi b1.D)])]) rfl ok_41 ⟨(ev_gv et hc), trivial⟩)) (fun hc => (c_frac_Valid (Dj F c5) w4 hI.lt b1 trivial r2 (hx3 hc)).mono fun _ _ k => ⟨k.1, k.2.1⟩) ?_
 intro w5 hx4; replace hI := hI.ext hx4
 refine s_gval (g_false rfl rfl rfl rfl) rfl (fun hc => (y_not rfl (ev_gv et hc))) ?_
 refine sq (y_or rfl et et) ?_
 refine nk ?_
 refine c_cond (b := (!r1) || (!r2)) et (fun hb => ?_) (fun hb => ?_)
 ·replace h := ite_t hb h
  refine sr ?_
  refine sq (y_build (vs := []) (cs := #[(vi 0), (vi 0)]) rfl trivial (by kernel_rfl)) ?_
  refine l_store (new := [(vi 0), (vi 0)]) (cs' := #[(vi 0), (vi 0)]) hI .z gn rfl rfl et et rfl size_29 rfl rfl rfl ?_
  clear hI; intro c6 w6 hI
  refine sac ?_
  refine nk ?_
  refine c_ret ?_
  obtain rfl := some_inj h
  exact q_ret (vs := [(Value.agg #[(vi 0), (vi 0)]), (vi 1)]) Tryd.results76 ⟨⟨_, ev_tmp rfl rfl, load_agg (l := [(vi 0), (vi 0)]) Tryd.underlying29 rfl size_29 (CellsAt.of_blk (hI.blk .z) rfl)⟩, ⟨ev_tmp rfl rfl, trivial⟩⟩ ⟨rfl, hI.ext0, hI.fin trivial⟩
 ·replace h := ite_f hb h
  refine c_skip ?_
  refine k_same ?_
  refine sr ?_
  refine sq (y_fieldAddr rfl et Tryd.underlying29 rfl size_2 rfl) ?_
  refine sq (y_load1 (v := (vi a1.N)) rfl et Tryd.underlying2 rfl (hI.kblk (l := [(vi a1.N)]) (.s .z) rfl).1) ?_
  refine sq (y_fieldAddr rfl et Tryd.underlying29 rfl size_2 rfl) ?_
  refine sq (y_load1 (v := (vi b1.N)) rfl et Tryd.underlying2 rfl (hI.kblk (l := [(vi b1.N)]) .z rfl).1) ?_
  refine sq (y_mul rfl et et) ?_
  refine sq (y_fieldAddr rfl et Tryd.underlying29 rfl size_2 rfl) ?_
  refine sq (y_load1 (v := (vi a1.D)) rfl et Tryd.underlying2 rfl (hI.kblk (l := [(vi a1.D)]) (.s .z) rfl).1) ?_
  refine sq (y_fieldAddr rfl et Tryd.underlying29 rfl size_2 rfl) ?_
  refine sq (y_load1 (v := (vi b1.D)) rfl et Tryd.underlying2 rfl (hI.kblk (l := [(vi b1.D)]) .z rfl).1) ?_
  refine sq (y_mul rfl et et) ?_
  obtain ⟨r3, hx5, h⟩ := bnd_some h
  refine s_call gn rfl (r_callF (vs := [(vi (wi64 (a1.N * b1.N))), (vi (wi64 (a1.D * b1.D)))]) rfl ok_88 ⟨et, ⟨et, trivial⟩⟩) (Calls.mono (c_frac_New (Dj F c5) w5 hI.lt (wi64 (a1.N * b1.N)) (wi64 (a1.D * b1.D)) trivial r3 hx5) ?_)
  rintro _ w7 ⟨rfl, hx6, hl3⟩
  refine ⟨_, rfl, ?_⟩
  replace hI := (hI.ext hx6)
  refine sq (y_extract rfl et rfl) ?_
  refine sq (y_extract rfl et rfl) ?_
  refine l_store (new := [(vi r3.1.N), (vi r3.1.D)]) (cs' := #[(vi r3.1.N), (vi r3.1.D)]) hI .z gn rfl rfl et et rfl size_29 rfl rfl rfl ?_
  clear hI; intro c7 w8 hI
  refine sa ?_
  refine s_nil ?_
  refine k_next (e := [(4, (vp b4 0)), (5, (vi r3.2))]) ⟨rfl, rfl, trivial⟩ ?_
  refine c_ret ?_
  obtain rfl := some_inj h
  exact q_ret (vs := [(Value.agg #[(vi r3.1.N), (vi r3.1.D)]), (vi r3.2)]) Tryd.results76 ⟨⟨_, ev_tmp rfl rfl, load_agg (l := [(vi r3.1.N), (vi r3.1.D)]) Tryd.underlying29 rfl size_29 (CellsAt.of_blk (hI.blk .z) rfl)⟩, ⟨ev_tmp rfl rfl, trivial⟩⟩ ⟨rfl, hI.ext0, hI.fin trivial⟩
set_option maxRecDepth 100000 in
set_option maxHeartbeats 4000000 in
theorem c_frac_Div (F : NP) (w0 : World) (hF : ∀ k, F k → k < w0.heap.size) (a1 : GVal) (b1 : GVal) (hc : AllCl [] F w0) (r : GVal × Int)
  (h : m_frac_Div a1 b1 = some r) :
  Calls Tryd.prog 77 #[(Value.agg #[(vi a1.N), (vi a1.D)]), (Value.agg #[(vi b1.N), (vi b1.D)])] w0 fun e w => e = .returned (Value.tuple #[(Value.agg #[(vi r.1.N), (vi r.1.D)]), (vi r.2)]) ∧ Ext w0 w ∧ AllCl [] F w := by
 refine enterK (l := [(Value.agg #[(vi a1.N), (vi a1.D)]), (Value.agg #[(vi b1.N), (vi b1.D)])]) Tryd.func77 rfl Tryd.ntmps77 rfl ?_
 have hI := Bun.start hF hc
 clear hc
 rw [m_frac_Div] at h
 refine sr ?_
 refine l_box (v := (Value.agg #[(vi a1.N), (vi a1.D)])) (cs := #[(vi a1.N), (vi a1.D)]) hI gn rfl rfl et rfl ?_
 clear hI; intro b2 c1 w1 hI
 obtain ⟨c2, hI⟩ := hI.relBox .z
 refine l_box (v := (Value.agg #[(vi b1.N), (vi b1.D)])) (cs := #[(vi b1.N), (vi b1.D)]) hI gn rfl rfl et rfl ?_
 clear hI; intro b3 c3 w2 hI
 obtain ⟨c4, hI⟩ := hI.relBox .z
 refine l_alloc (cs := #[(vi 0), (vi 0)]) hI gn rfl rfl zero_29 rfl ?_
 clear hI; intro b4 c5 w3 hI
 refine sac ?_
 refine nk ?_
 refine c_seq ?_
 refine sr ?_
 refine sq (y_loadN (l := [(vi a1.N), (vi a1.D)]) rfl et Tryd.underlying29 rfl size_29 (hI.kblk (l := [(vi a1.N), (vi a1.D)]) (.s .z) rfl).1) ?_
 obtain ⟨r1, hx1, h⟩ := bnd_some h
 refine s_call gn rfl (r_callF (vs := [(Value.agg #[(vi a1.N), (vi a1.D)])]) rfl ok_41 ⟨et, trivial⟩) (Calls.mono (c_frac_Valid (Dj F c5) w3 hI.lt a1 trivial r1 hx1) ?_)
 rintro _ w4 ⟨rfl, hx2, hl1⟩
 refine ⟨_, rfl, ?_⟩
 replace hI := (hI.ext hx2)
 refine sq (y_not rfl et) ?_
 refine sm ?_
 refine s_gval (g_false rfl rfl rfl rfl) rfl (fun hc => (y_loadN (l := [(vi b1.N), (vi b1.D)]) rfl et Tryd.underlying29 rfl size_29 (hI.kblk (l := [(vi b1.N), (vi b1.D)]) .z rfl).1)) ?_
 obtain ⟨r2, hx3, h⟩ := bnd_some h
 replace hx3 := gd_some hx3
 refine s_gcallU (v := (vb r2)) (g_false rfl rfl rfl rfl) rfl (fun hc => (r_callF (vs := [(Value.agg #[(vi b1.N), (vi b1.D)])]) rfl ok_41 ⟨(ev_gv et hc), trivial⟩)) (fun hc => (c_frac_Valid (Dj F c5) w4 hI.lt b1 trivial r2 (hx3 hc)).mono fun _ _ k => ⟨k.1, k.2.1⟩) ?_
 intro w5 hx4; replace hI := hI.ext hx4
 refine s_gval (g_false rfl rfl rfl rfl) rfl (fun hc => (y_not rfl (ev_gv et hc))) ?_
 refine sq (y_or rfl et et) ?_
 refine nk ?_
 refine c_cond (b := (!r1) || (!r2)) et (fun hb => ?_) (fun hb => ?_)
 ·replace h := ite_t hb h
  refine sr ?_
  refine sq (y_build (vs := []) (cs := #[(vi 0), (vi 0)]) rfl trivial (by kernel_rfl)) ?_
  refine l_store (new := [(vi 0), (vi 0)]) (cs' := #[(vi 0), (vi 0)]) hI .z gn rfl rfl et et rfl size_29 rfl rfl rfl ?_
  clear hI; intro c6 w6 hI
  refine sac ?_
  refine nk ?_
  refine c_ret ?_
  obtain rfl := some_inj h
  exact q_ret (vs := [(Value.agg #[(vi 0), (vi 0)]), (vi 1)]) Tryd.results77 ⟨⟨_, ev_tmp rfl rfl, load_agg (l := [(vi 0), (vi 0)]) Tryd.underlying29 rfl size_29 (CellsAt.of_blk (hI.blk .z) rfl)⟩, ⟨ev_tmp rfl rfl, trivial⟩⟩ ⟨rfl, hI.ext0, hI.fin trivial⟩
 ·replace h := ite_f hb h
  refine c_skip ?_
  refine k_same ?_
  refine sr ?_
  refine sq (y_fieldAddr rfl et Tryd.underlying29 rfl size_2 rfl) ?_
  refine sq (y_load1 (v := (vi a1.N)) rfl et Tryd.underlying2 rfl (hI.kblk (l := [(vi a1.N)]) (.s .z) rfl).1) ?_
  refine sq (y_fieldAddr rfl et Tryd.underlying29 rfl size_2 rfl) ?_
  refine sq (y_load1 (v := (vi b1.D)) rfl et Tryd.underlying2 rfl (hI.kblk (l := [(vi b1.D)]) .z rfl).1) ?_
  refine sq (y_mul rfl et et) ?_
  refine sq (y_fieldAddr rfl et Tryd.underlying29 rfl size_2 rfl) ?_
  refine sq (y_load1 (v := (vi a1.D)) rfl et Tryd.underlying2 rfl (hI.kblk (l := [(vi a1.D)]) (.s .z) rfl).1) ?_
  refine sq (y_fieldAddr rfl et Tryd.underlying29 rfl size_2 rfl) ?_
  refine sq (y_load1 (v := (vi b1.N)) rfl et Tryd.underlying2 rfl (hI.kblk (l := [(vi b1.N)]) .z rfl).1) ?_
  refine sq (y_mul rfl et et) ?_
  obtain ⟨r3, hx5, h⟩ := bnd_some h
  refine s_call gn rfl (r_callF (vs := [(vi (wi64 (a1.N * b1.D))), (vi (wi64 (a1.D * b1.N)))]) rfl ok_88 ⟨et, ⟨et, trivial⟩⟩) (Calls.mono (c_frac_New (Dj F c5) w5 hI.lt (wi64 (a1.N * b1.D)) (wi64 (a1.D * b1.N)) trivial r3 hx5) ?_)
  rintro _ w7 ⟨rfl, hx6, hl3⟩
  refine ⟨_, rfl, ?_⟩
  replace hI := (hI.ext hx6)
  refine sq (y_extract rfl et rfl) ?_
  refine sq (y_extract rfl et rfl) ?_
  refine l_store (new := [(vi r3.1.N), (vi r3.1.D)]) (cs' := #[(vi r3.1.N), (vi r3.1.D)]) hI .z gn rfl rfl et et rfl size_29 rfl rfl rfl ?_
  clear hI; intro c7 w8 hI
  refine sa ?_
  refine s_nil ?_
  refine k_next (e := [(4, (vp b4 0)), (5, (vi r3.2))]) ⟨rfl, rfl, trivial⟩ ?_
  refine c_ret ?_
  obtain rfl := some_inj h
  exact q_ret (vs := [(Value.agg #[(vi r3.1.N), (vi r3.1.D)]), (vi r3.2)]) Tryd.results77 ⟨⟨_, ev_tmp rfl rfl, load_agg (l := [(vi r3.1.N), (vi r3.1.D)]) Tryd.underlying29 rfl size_29 (CellsAt.of_blk (hI.blk .z) rfl)⟩, ⟨ev_tmp rfl rfl, trivial⟩⟩ ⟨rfl, hI.ext0, hI.fin trivial⟩
set_option maxRecDepth 100000 in
set_option maxHeartbeats 4000000 in
theorem c_value_arithmetic (F : NP) (w0 : World) (hF : ∀ k, F k → k < w0.heap.size) (op1 : Int) (t1 : GType) (a1 : GVal) (b1 : GVal) (hc : AllCl [] F w0) (r : GVal × Int)
  (h : m_value_arithmetic op1 t1 a1 b1 = some r) :
  Calls Tryd.prog 61 #[(vi op1), (Value.agg #[(vi t1.Kind), (vi t1.Bits), (vi t1.Frac), (vi t1.Round), (vi t1.Over)]), (Value.agg #[(vi a1.N), (vi a1.D)]), (Value.agg #[(vi b1.N), (vi b1.D)])] w0 fun e w => e = .returned (Value.tuple #[(Value.agg #[(vi r.1.N), (vi r.1.D)]), (vi r.2)]) ∧ Ext w0 w ∧ AllCl [] F w := by
 refine enterK (l := [(vi op1), (Value.agg #[(vi t1.Kind), (vi t1.Bits), (vi t1.Frac), (vi t1.Round), (vi t1.Over)]), (Value.agg #[(vi a1.N), (vi a1.D)]), (Value.agg #[(vi b1.N), (vi b1.D)])]) Tryd.func61 rfl Tryd.ntmps61 rfl ?_
 have hI := Bun.start hF hc
 clear hc
 rw [m_value_arithmetic] at h
 refine sr ?_
 refine l_box (v := (Value.agg #[(vi t1.Kind), (vi t1.Bits), (vi t1.Frac), (vi t1.Round), (vi t1.Over)])) (cs := #[(vi t1.Kind), (vi t1.Bits), (vi t1.Frac), (vi t1.Round), (vi t1.Over)]) hI gn rfl rfl et rfl ?_
 clear hI; intro b2 c1 w1 hI
 obtain ⟨c2, hI⟩ := hI.relBox .z
 refine l_box (v := (Value.agg #[(vi a1.N), (vi a1.D)])) (cs := #[(vi a1.N), (vi a1.D)]) hI gn rfl rfl et rfl ?_
 clear hI; intro b3 c3 w2 hI
 obtain ⟨c4, hI⟩ := hI.relBox .z
 refine l_box (v := (Value.agg #[(vi b1.N), (vi b1.D)])) (cs := #[(vi b1.N), (vi b1.D)]) hI gn rfl rfl et rfl ?_
 clear hI; intro b4 c5 w3 hI
 obtain ⟨c6, hI⟩ := hI.relBox .z
 refine l_alloc (cs := #[(vi 0), (vi 0)]) hI gn rfl rfl zero_29 rfl ?_
 clear hI; intro b5 c7 w4 hI
 refine sac ?_
 refine nk ?_
 refine sr ?_
 refine sq (y_fieldAddr rfl et Tryd.underlying23 rfl size_3 rfl) ?_
 refine sq (y_load1 (v := (vi t1.Kind)) rfl et Tryd.underlying3 rfl (hI.kblk (l := [(vi t1.Kind)]) (.s (.s .z)) rfl).1) ?_
 refine sq (y_eql rfl et ev_const) ?_
 refine sa ?_
 refine nk ?_
 refine c_seq ?_
 refine c_block ?_
 refine sr ?_
 refine sq (y_fieldAddr rfl et Tryd.underlying23 rfl size_3 rfl) ?_
 refine sq (y_load1 (v := (vi t1.Kind)) rfl et Tryd.underlying3 rfl (hI.kblk (l := [(vi t1.Kind)]) (.s (.s .z)) rfl).1) ?_
 refine sq (y_eql rfl et ev_const) ?_
 refine sa ?_
 refine nk ?_
 refine c_cond (b := decide (t1.Kind = 3)) et (fun hb => ?_) (fun hb => ?_)
 ·replace h := ite_t hb h
  refine sr ?_
  refine sm ?_
  refine sq (y_fieldAddr rfl et Tryd.underlying29 rfl size_2 rfl) ?_
  refine sq (y_load1 (v := (vi a1.N)) rfl et Tryd.underlying2 rfl (hI.kblk (l := [(vi a1.N)]) (.s .z) rfl).1) ?_
  refine sq (y_fieldAddr rfl et Tryd.underlying29 rfl size_2 rfl) ?_
  refine sq (y_load1 (v := (vi b1.N)) rfl et Tryd.underlying2 rfl (hI.kblk (l := [(vi b1.N)]) .z rfl).1) ?_
  obtain ⟨r1, hx1, h⟩ := bnd_some h
  refine s_call gn rfl (r_callF (vs := [(vi op1), (vi a1.N), (vi b1.N)]) rfl ok_69 ⟨et, ⟨et, ⟨et, trivial⟩⟩⟩) (Calls.mono (c_value_integer (Dj F c7) w4 hI.lt op1 a1.N b1.N trivial r1 hx1) ?_)
  rintro _ w5 ⟨rfl, hx2, hl1⟩
  refine ⟨_, rfl, ?_⟩
  replace hI := (hI.ext hx2)
  refine sq (y_extract rfl et rfl) ?_
  refine sq (y_extract rfl et rfl) ?_
  refine l_store (new := [(vi r1.1.N), (vi r1.1.D)]) (cs' := #[(vi r1.1.N), (vi r1.1.D)]) hI .z gn rfl rfl et et rfl size_29 rfl rfl rfl ?_
  clear hI; intro c8 w6 hI
  refine sa ?_
  refine nk ?_
  refine c_ret ?_
  obtain rfl := some_inj h
  exact q_ret (vs := [(Value.agg #[(vi r1.1.N), (vi r1.1.D)]), (vi r1.2)]) Tryd.results61 ⟨⟨_, ev_tmp rfl rfl, load_agg (l := [(vi r1.1.N), (vi r1.1.D)]) Tryd.underlying29 rfl size_29 (CellsAt.of_blk (hI.blk .z) rfl)⟩, ⟨ev_tmp rfl rfl, trivial⟩⟩ ⟨rfl, hI.ext0, hI.fin trivial⟩
 ·replace h := ite_f hb h
  refine sr ?_
  refine sm ?_
  refine sq (y_eql rfl et ev_const) ?_
  refine sm ?_
  refine s_gval (g_true rfl rfl rfl rfl) rfl (fun hc => (y_move rfl et)) ?_
  refine sq (y_and rfl et et) ?_
  refine sa ?_
  refine nk ?_
  refine c_cond (b := (decide (op1 = 4)) && (decide (t1.Kind = 2))) et (fun hb => ?_) (fun hb => ?_)
  ·replace h := ite_t hb h
   refine sr ?_
   refine sq (y_loadN (l := [(vi t1.Kind), (vi t1.Bits), (vi t1.Frac), (vi t1.Round), (vi t1.Over)]) rfl et Tryd.underlying23 rfl size_23 (hI.kblk (l := [(vi t1.Kind), (vi t1.Bits), (vi t1.Frac), (vi t1.Round), (vi t1.Over)]) (.s (.s .z)) rfl).1) ?_
   refine sq (y_loadN (l := [(vi a1.N), (vi a1.D)]) rfl et Tryd.underlying29 rfl size_29 (hI.kblk (l := [(vi a1.N), (vi a1.D)]) (.s .z) rfl).1) ?_
   refine sq (y_loadN (l := [(vi b1.N), (vi b1.D)]) rfl et Tryd.underlying29 rfl size_29 (hI.kblk (l := [(vi b1.N), (vi b1.D)]) .z rfl).1) ?_
   obtain ⟨r2, hx3, h⟩ := bnd_some h
   refine s_call gn rfl (r_callF (vs := [(Value.agg #[(vi t1.Kind), (vi t1.Bits), (vi t1.Frac), (vi t1.Round), (vi t1.Over)]), (Value.agg #[(vi a1.N), (vi a1.D)]), (Value.agg #[(vi b1.N), (vi b1.D)])]) rfl ok_70 ⟨et, ⟨et, ⟨et, trivial⟩⟩⟩) (Calls.mono (c_fixed_Add (Dj F c7) w4 hI.lt t1 a1 b1 trivial r2 hx3) ?_)
   rintro _ w7 ⟨rfl, hx4, hl2⟩
   refine ⟨_, rfl, ?_⟩
   replace hI := (hI.ext hx4)
   refine sq (y_extract rfl et rfl) ?_
   refine sq (y_extract rfl et rfl) ?_
   refine l_store (new := [(vi r2.1.N), (vi r2.1.D)]) (cs' := #[(vi r2.1.N), (vi r2.1.D)]) hI .z gn rfl rfl et et rfl size_29 rfl rfl rfl ?_
   clear hI; intro c9 w8 hI
   refine sa ?_
   refine s_nil ?_
   refine k_next (e := [(8, (vp b5 0)), (9, (vi r2.2))]) ⟨rfl, rfl, trivial⟩ ?_
   refine c_ret ?_
   obtain rfl := some_inj h
   exact q_ret (vs := [(Value.agg #[(vi r2.1.N), (vi r2.1.D)]), (vi r2.2)]) Tryd.results61 ⟨⟨_, ev_tmp rfl rfl, load_agg (l := [(vi r2.1.N), (vi r2.1.D)]) Tryd.underlying29 rfl size_29 (CellsAt.of_blk (hI.blk .z) rfl)⟩, ⟨ev_tmp rfl rfl, trivial⟩⟩ ⟨rfl, hI.ext0, hI.fin trivial⟩
  ·replace h := ite_f hb h
   refine sr ?_
   refine sm ?_
   refine sq (y_eql rfl et ev_const) ?_
   refine sm ?_
   refine s_gval (g_true rfl rfl rfl rfl) rfl (fun hc => (y_move rfl et)) ?_
   refine sq (y_and rfl et et) ?_
   refine sa ?_
   refine nk ?_
   refine c_cond (b := (decide (op1 = 5)) && (decide (t1.Kind = 2))) et (fun hb => ?_) (fun hb => ?_)
   ·replace h := ite_t hb h
    refine sr ?_
    refine sq (y_loadN (l := [(vi t1.Kind), (vi t1.Bits), (vi t1.Frac), (vi t1.Round), (vi t1.Over)]) rfl et Tryd.underlying23 rfl size_23 (hI.kblk (l := [(vi t1.Kind), (vi t1.Bits), (vi t1.Frac), (vi t1.Round), (vi t1.Over)]) (.s (.s .z)) rfl).1) ?_
    refine sq (y_loadN (l := [(vi a1.N), (vi a1.D)]) rfl et Tryd.underlying29 rfl size_29 (hI.kblk (l := [(vi a1.N), (vi a1.D)]) (.s .z) rfl).1) ?_
    refine sq (y_loadN (l := [(vi b1.N), (vi b1.D)]) rfl et Tryd.underlying29 rfl size_29 (hI.kblk (l := [(vi b1.N), (vi b1.D)]) .z rfl).1) ?_
    obtain ⟨r3, hx5, h⟩ := bnd_some h
    refine s_call gn rfl (r_callF (vs := [(Value.agg #[(vi t1.Kind), (vi t1.Bits), (vi t1.Frac), (vi t1.Round), (vi t1.Over)]), (Value.agg #[(vi a1.N), (vi a1.D)]), (Value.agg #[(vi b1.N), (vi b1.D)])]) rfl ok_71 ⟨et, ⟨et, ⟨et, trivial⟩⟩⟩) (Calls.mono (c_fixed_Sub (Dj F c7) w4 hI.lt t1 a1 b1 trivial r3 hx5) ?_)
    rintro _ w9 ⟨rfl, hx6, hl3⟩
    refine ⟨_, rfl, ?_⟩
    replace hI := (hI.ext hx6)
    refine sq (y_extract rfl et rfl) ?_
    refine sq (y_extract rfl et rfl) ?_
    refine l_store (new := [(vi r3.1.N), (vi r3.1.D)]) (cs' := #[(vi r3.1.N), (vi r3.1.D)]) hI .z gn rfl rfl et et rfl size_29 rfl rfl rfl ?_
    clear hI; intro c10 w10 hI
    refine sa ?_
    refine s_nil ?_
    refine k_next (e := [(8, (vp b5 0)), (9, (vi r3.2))]) ⟨rfl, rfl, trivial⟩ ?_
    refine c_ret ?_
    obtain rfl := some_inj h
    exact q_ret (vs := [(Value.agg #[(vi r3.1.N), (vi r3.1.D)]), (vi r3.2)]) Tryd.results61 ⟨⟨_, ev_tmp rfl rfl, load_agg (l := [(vi r3.1.N), (vi r3.1.D)]) Tryd.underlying29 rfl size_29 (CellsAt.of_blk (hI.blk .z) rfl)⟩, ⟨ev_tmp rfl rfl, trivial⟩⟩ ⟨rfl, hI.ext0, hI.fin trivial⟩
   ·replace h := ite_f hb h
    refine sr ?_
    refine sm ?_
    refine sq (y_eql rfl et ev_const) ?_
    refine sm ?_
    refine s_gval (g_true rfl rfl rfl rfl) rfl (fun hc => (y_move rfl et)) ?_
    refine sq (y_and rfl et et) ?_
    refine sa ?_
    refine s_nil ?_
    refine k_next (e := [(0, (vi op1)), (5, (vp b2 0)), (6, (vp b3 0)), (7, (vp b4 0)), (8, (vp b5 0)), (10, (vb (decide (t1.Kind = 2)))), (50, (vb ((decide (op1 = 6)) && (decide (t1.Kind = 2)))))]) ⟨rfl, rfl, rfl, rfl, rfl, rfl, rfl, trivial⟩ ?_
    refine c_cond (b := (decide (op1 = 6)) && (decide (t1.Kind = 2))) et (fun hb => ?_) (fun hb => ?_)
    ·replace h := ite_t hb h
     refine sr ?_
     refine sq (y_loadN (l := [(vi t1.Kind), (vi t1.Bits), (vi t1.Frac), (vi t1.Round), (vi t1.Over)]) rfl et Tryd.underlying23 rfl size_23 (hI.kblk (l := [(vi t1.Kind), (vi t1.Bits), (vi t1.Frac), (vi t1.Round), (vi t1.Over)]) (.s (.s .z)) rfl).1) ?_
     refine sq (y_loadN (l := [(vi a1.N), (vi a1.D)]) rfl et Tryd.underlying29 rfl size_29 (hI.kblk (l := [(vi a1.N), (vi a1.D)]) (.s .z) rfl).1) ?_
     refine sq (y_loadN (l := [(vi b1.N), (vi b1.D)]) rfl et Tryd.underlying29 rfl size_29 (hI.kblk (l := [(vi b1.N), (vi b1.D)]) .z rfl).1) ?_
     obtain ⟨r4, hx7, h⟩ := bnd_some h
     refine s_call gn rfl (r_callF (vs := [(Value.agg #[(vi t1.Kind), (vi t1.Bits), (vi t1.Frac), (vi t1.Round), (vi t1.Over)]), (Value.agg #[(vi a1.N), (vi a1.D)]), (Value.agg #[(vi b1.N), (vi b1.D)])]) rfl ok_72 ⟨et, ⟨et, ⟨et, trivial⟩⟩⟩) (Calls.mono (c_fixed_Mul (Dj F c7) w4 hI.lt t1 a1 b1 trivial r4 hx7) ?_)
     rintro _ w11 ⟨rfl, hx8, hl4⟩
     refine ⟨_, rfl, ?_⟩
     replace hI := (hI.ext hx8)
     refine sq (y_extract rfl et rfl) ?_
     refine sq (y_extract rfl et rfl) ?_
     refine l_store (new := [(vi r4.1.N), (vi r4.1.D)]) (cs' := #[(vi r4.1.N), (vi r4.1.D)]) hI .z gn rfl rfl et et rfl size_29 rfl rfl rfl ?_
     clear hI; intro c11 w12 hI
     refine sa ?_
     refine nk ?_
     refine c_ret ?_
     obtain rfl := some_inj h
     exact q_ret (vs := [(Value.agg #[(vi r4.1.N), (vi r4.1.D)]), (vi r4.2)]) Tryd.results61 ⟨⟨_, ev_tmp rfl rfl, load_agg (l := [(vi r4.1.N), (vi r4.1.D)]) Tryd.underlying29 rfl size_29 (CellsAt.of_blk (hI.blk .z) rfl)⟩, ⟨ev_tmp rfl rfl, trivial⟩⟩ ⟨rfl, hI.ext0, hI.fin trivial⟩
    ·replace h := ite_f hb h
     refine sr ?_
     refine sm ?_
     refine sa ?_
     refine nk ?_
     refine c_cond (b := decide (t1.Kind = 2)) et (fun hb => ?_) (fun hb => ?_)
     ·replace h := ite_t hb h
      refine sr ?_
      refine sq (y_loadN (l := [(vi t1.Kind), (vi t1.Bits), (vi t1.Frac), (vi t1.Round), (vi t1.Over)]) rfl et Tryd.underlying23 rfl size_23 (hI.kblk (l := [(vi t1.Kind), (vi t1.Bits), (vi t1.Frac), (vi t1.Round), (vi t1.Over)]) (.s (.s .z)) rfl).1) ?_
      refine sq (y_loadN (l := [(vi a1.N), (vi a1.D)]) rfl et Tryd.underlying29 rfl size_29 (hI.kblk (l := [(vi a1.N), (vi a1.D)]) (.s .z) rfl).1) ?_
      refine sq (y_loadN (l := [(vi b1.N), (vi b1.D)]) rfl et Tryd.underlying29 rfl size_29 (hI.kblk (l := [(vi b1.N), (vi b1.D)]) .z rfl).1) ?_
      obtain ⟨r5, hx9, h⟩ := bnd_some h
      refine s_call gn rfl (r_callF (vs := [(Value.agg #[(vi t1.Kind), (vi t1.Bits), (vi t1.Frac), (vi t1.Round), (vi t1.Over)]), (Value.agg #[(vi a1.N), (vi a1.D)]), (Value.agg #[(vi b1.N), (vi b1.D)])]) rfl ok_73 ⟨et, ⟨et, ⟨et, trivial⟩⟩⟩) (Calls.mono (c_fixed_Div (Dj F c7) w4 hI.lt t1 a1 b1 trivial r5 hx9) ?_)
      rintro _ w13 ⟨rfl, hx10, hl5⟩
      refine ⟨_, rfl, ?_⟩
      replace hI := (hI.ext hx10)
      refine sq (y_extract rfl et rfl) ?_
      refine sq (y_extract rfl et rfl) ?_
      refine l_store (new := [(vi r5.1.N), (vi r5.1.D)]) (cs' := #[(vi r5.1.N), (vi r5.1.D)]) hI .z gn rfl rfl et et rfl size_29 rfl rfl rfl ?_
      clear hI; intro c12 w14 hI
      refine sa ?_
      refine nk ?_
      refine c_ret ?_
      obtain rfl := some_inj h
      exact q_ret (vs := [(Value.agg #[(vi r5.1.N), (vi r5.1.D)]), (vi r5.2)]) Tryd.results61 ⟨⟨_, ev_tmp rfl rfl, load_agg (l := [(vi r5.1.N), (vi r5.1.D)]) Tryd.underlying29 rfl size_29 (CellsAt.of_blk (hI.blk .z) rfl)⟩, ⟨ev_tmp rfl rfl, trivial⟩⟩ ⟨rfl, hI.ext0, hI.fin trivial⟩
     ·replace h := ite_f hb h
      refine sr ?_
      refine sm ?_
      refine sq (y_eql rfl et ev_const) ?_
      refine sa ?_
      refine nk ?_
      refine c_cond (b := decide (op1 = 4)) et (fun hb => ?_) (fun hb => ?_)
      ·replace h := ite_t hb h
       refine sr ?_
       refine sq (y_loadN (l := [(vi a1.N), (vi a1.D)]) rfl et Tryd.underlying29 rfl size_29 (hI.kblk (l := [(vi a1.N), (vi a1.D)]) (.s .z) rfl).1) ?_
       refine sq (y_loadN (l := [(vi b1.N), (vi b1.D)]) rfl et Tryd.underlying29 rfl size_29 (hI.kblk (l := [(vi b1.N), (vi b1.D)]) .z rfl).1) ?_
       obtain ⟨r6, hx11, h⟩ := bnd_some h
       refine s_call gn rfl (r_callF (vs := [(Value.agg #[(vi a1.N), (vi a1.D)]), (Value.agg #[(vi b1.N), (vi b1.D)])]) rfl ok_74 ⟨et, ⟨et, trivial⟩⟩) (Calls.mono (c_frac_Add (Dj F c7) w4 hI.lt a1 b1 trivial r6 hx11) ?_)
       rintro _ w15 ⟨rfl, hx12, hl6⟩
       refine ⟨_, rfl, ?_⟩
       replace hI := (hI.ext hx12)
       refine sq (y_extract rfl et rfl) ?_
       refine sq (y_extract rfl et rfl) ?_
       refine l_store (new := [(vi r6.1.N), (vi r6.1.D)]) (cs' := #[(vi r6.1.N), (vi r6.1.D)]) hI .z gn rfl rfl et et rfl size_29 rfl rfl rfl ?_
       clear hI; intro c13 w16 hI
       refine sa ?_
       refine nk ?_
       refine c_ret ?_
       obtain rfl := some_inj h
       exact q_ret (vs := [(Value.agg #[(vi r6.1.N), (vi r6.1.D)]), (vi r6.2)]) Tryd.results61 ⟨⟨_, ev_tmp rfl rfl, load_agg (l := [(vi r6.1.N), (vi r6.1.D)]) Tryd.underlying29 rfl size_29 (CellsAt.of_blk (hI.blk .z) rfl)⟩, ⟨ev_tmp rfl rfl, trivial⟩⟩ ⟨rfl, hI.ext0, hI.fin trivial⟩
      ·replace h := ite_f hb h
       refine sr ?_
       refine sm ?_
       refine sq (y_eql rfl et ev_const) ?_
       refine sa ?_
       refine nk ?_
       refine c_cond (b := decide (op1 = 5)) et (fun hb => ?_) (fun hb => ?_)
       ·replace h := ite_t hb h
        refine sr ?_
        refine sq (y_loadN (l := [(vi a1.N), (vi a1.D)]) rfl et Tryd.underlying29 rfl size_29 (hI.kblk (l := [(vi a1.N), (vi a1.D)]) (.s .z) rfl).1) ?_
        refine sq (y_loadN (l := [(vi b1.N), (vi b1.D)]) rfl et Tryd.underlying29 rfl size_29 (hI.kblk (l := [(vi b1.N), (vi b1.D)]) .z rfl).1) ?_
        obtain ⟨r7, hx13, h⟩ := bnd_some h
        refine s_call gn rfl (r_callF (vs := [(Value.agg #[(vi a1.N), (vi a1.D)]), (Value.agg #[(vi b1.N), (vi b1.D)])]) rfl ok_75 ⟨et, ⟨et, trivial⟩⟩) (Calls.mono (c_frac_Sub (Dj F c7) w4 hI.lt a1 b1 trivial r7 hx13) ?_)
        rintro _ w17 ⟨rfl, hx14, hl7⟩
        refine ⟨_, rfl, ?_⟩
        replace hI := (hI.ext hx14)
        refine sq (y_extract rfl et rfl) ?_
        refine sq (y_extract rfl et rfl) ?_
        refine l_store (new := [(vi r7.1.N), (vi r7.1.D)]) (cs' := #[(vi r7.1.N), (vi r7.1.D)]) hI .z gn rfl rfl et et rfl size_29 rfl rfl rfl ?_
        clear hI; intro c14 w18 hI
        refine sa ?_
        refine nk ?_
        refine c_ret ?_
        obtain rfl := some_inj h
        exact q_ret (vs := [(Value.agg #[(vi r7.1.N), (vi r7.1.D)]), (vi r7.2)]) Tryd.results61 ⟨⟨_, ev_tmp rfl rfl, load_agg (l := [(vi r7.1.N), (vi r7.1.D)]) Tryd.underlying29 rfl size_29 (CellsAt.of_blk (hI.blk .z) rfl)⟩, ⟨ev_tmp rfl rfl, trivial⟩⟩ ⟨rfl, hI.ext0, hI.fin trivial⟩
       ·replace h := ite_f hb h
        refine sr ?_
        refine sm ?_
        refine sq (y_eql rfl et ev_const) ?_
        refine sa ?_
        refine nk ?_
        refine c_cond (b := decide (op1 = 6)) et (fun hb => ?_) (fun hb => ?_)
        ·replace h := ite_t hb h
         refine sr ?_
         refine sq (y_loadN (l := [(vi a1.N), (vi a1.D)]) rfl et Tryd.underlying29 rfl size_29 (hI.kblk (l := [(vi a1.N), (vi a1.D)]) (.s .z) rfl).1) ?_
         refine sq (y_loadN (l := [(vi b1.N), (vi b1.D)]) rfl et Tryd.underlying29 rfl size_29 (hI.kblk (l := [(vi b1.N), (vi b1.D)]) .z rfl).1) ?_
         obtain ⟨r8, hx15, h⟩ := bnd_some h
         refine s_call gn rfl (r_callF (vs := [(Value.agg #[(vi a1.N), (vi a1.D)]), (Value.agg #[(vi b1.N), (vi b1.D)])]) rfl ok_76 ⟨et, ⟨et, trivial⟩⟩) (Calls.mono (c_frac_Mul (Dj F c7) w4 hI.lt a1 b1 trivial r8 hx15) ?_)
         rintro _ w19 ⟨rfl, hx16, hl8⟩
         refine ⟨_, rfl, ?_⟩
         replace hI := (hI.ext hx16)
         refine sq (y_extract rfl et rfl) ?_
         refine sq (y_extract rfl et rfl) ?_
         refine l_store (new := [(vi r8.1.N), (vi r8.1.D)]) (cs' := #[(vi r8.1.N), (vi r8.1.D)]) hI .z gn rfl rfl et et rfl size_29 rfl rfl rfl ?_
         clear hI; intro c15 w20 hI
         refine sa ?_
         refine nk ?_
         refine c_ret ?_
         obtain rfl := some_inj h
         exact q_ret (vs := [(Value.agg #[(vi r8.1.N), (vi r8.1.D)]), (vi r8.2)]) Tryd.results61 ⟨⟨_, ev_tmp rfl rfl, load_agg (l := [(vi r8.1.N), (vi r8.1.D)]) Tryd.underlying29 rfl size_29 (CellsAt.of_blk (hI.blk .z) rfl)⟩, ⟨ev_tmp rfl rfl, trivial⟩⟩ ⟨rfl, hI.ext0, hI.fin trivial⟩
        ·replace h := ite_f hb h
         refine c_skip ?_
         refine k_same ?_
         refine sr ?_
         refine sq (y_loadN (l := [(vi a1.N), (vi a1.D)]) rfl et Tryd.underlying29 rfl size_29 (hI.kblk (l := [(vi a1.N), (vi a1.D)]) (.s .z) rfl).1) ?_
         refine sq (y_loadN (l := [(vi b1.N), (vi b1.D)]) rfl et Tryd.underlying29 rfl size_29 (hI.kblk (l := [(vi b1.N), (vi b1.D)]) .z rfl).1) ?_
         obtain ⟨r9, hx17, h⟩ := bnd_some h
         refine s_call gn rfl (r_callF (vs := [(Value.agg #[(vi a1.N), (vi a1.D)]), (Value.agg #[(vi b1.N), (vi b1.D)])]) rfl ok_77 ⟨et, ⟨et, trivial⟩⟩) (Calls.mono (c_frac_Div (Dj F c7) w4 hI.lt a1 b1 trivial r9 hx17) ?_)
         rintro _ w21 ⟨rfl, hx18, hl9⟩
         refine ⟨_, rfl, ?_⟩
         replace hI := (hI.ext hx18)
         refine sq (y_extract rfl et rfl) ?_
         refine sq (y_extract rfl et rfl) ?_
         refine l_store (new := [(vi r9.1.N), (vi r9.1.D)]) (cs' := #[(vi r9.1.N), (vi r9.1.D)]) hI .z gn rfl rfl et et rfl size_29 rfl rfl rfl ?_
         clear hI; intro c16 w22 hI
         refine sa ?_
         refine nk ?_
         refine c_ret ?_
         obtain rfl := some_inj h
         exact q_ret (vs := [(Value.agg #[(vi r9.1.N), (vi r9.1.D)]), (vi r9.2)]) Tryd.results61 ⟨⟨_, ev_tmp rfl rfl, load_agg (l := [(vi r9.1.N), (vi r9.1.D)]) Tryd.underlying29 rfl size_29 (CellsAt.of_blk (hI.blk .z) rfl)⟩, ⟨ev_tmp rfl rfl, trivial⟩⟩ ⟨rfl, hI.ext0, hI.fin trivial⟩
end Go.Proofs.YtlakfanockhngaaDoor
