/- What each function's text asks: printed by a program of my own from the loaded text; Lean checks it. -/
import Derived.Test.YtndiieicjjifkaaDoorProg
import Derived.Test.YtndiieicjjifkaaDoorVcBld
namespace Go.Proofs.YtndiieicjjifkaaDoor
open Go Go.RowKit Go.Vc
set_option linter.unusedVariables false
set_option linter.unusedSimpArgs false
theorem stood_30 : Tryd.prog.stoodInHeld 30 = false := by kernel_rfl
theorem eqstruct_30 (a0 b0 : Int) (a1 b1 : Int) (a2 b2 : List UInt8) (w : World) : (binOp .eql 30 (.agg #[(Value.int .i64 a0), (Value.int .i64 a1), (str a2)]) (.agg #[(Value.int .i64 b0), (Value.int .i64 b1), (str b2)])).run Tryd.prog w = .ok (.bool ((decide (a0 = b0)) && (decide (a1 = b1)) && (decide (a2 = b2)))) w := by
  simp [go_sem, stood_30, Tryd.underlying30, eq_dec_int, eq_dec_str]
  all_goals (by_cases h0 : a0 = b0 <;> by_cases h1 : a1 = b1 <;> by_cases h2 : a2 = b2 <;> simp [h0, h1, h2])
theorem eqstruct_30n (a0 b0 : Int) (a1 b1 : Int) (a2 b2 : List UInt8) (w : World) : (binOp .neq 30 (.agg #[(Value.int .i64 a0), (Value.int .i64 a1), (str a2)]) (.agg #[(Value.int .i64 b0), (Value.int .i64 b1), (str b2)])).run Tryd.prog w = .ok (.bool (!((decide (a0 = b0)) && (decide (a1 = b1)) && (decide (a2 = b2))))) w := by
  simp [go_sem, stood_30, Tryd.underlying30, eq_dec_int, eq_dec_str]
  all_goals (by_cases h0 : a0 = b0 <;> by_cases h1 : a1 = b1 <;> by_cases h2 : a2 = b2 <;> simp [h0, h1, h2])
theorem eqguard_30 (op : BinOp) (x y : Operand) (xs ys : Array Value) (w : World) : (eqGuard op 30 x y (.agg xs) (.agg ys)).run Tryd.prog w = .ok () w := run_eqGuard_agg w op 30 x y xs ys (by kernel_rfl)
theorem info_30 : Info Tryd.prog 30 3 32 (Value.agg #[(Value.int .i64 0), (Value.int .i64 0), (str ([]))]) := info_mk (by kernel_rfl) rfl
theorem info_9 : Info Tryd.prog 9 1 16 (str ([])) := info_mk (by kernel_rfl) rfl
theorem ok_10 : FnOK Tryd.prog 10 := ⟨_, Tryd.func10, by kernel_rfl, by kernel_rfl⟩
theorem ok_11 : FnOK Tryd.prog 11 := ⟨_, Tryd.func11, by kernel_rfl, by kernel_rfl⟩
theorem ok_12 : FnOK Tryd.prog 12 := ⟨_, Tryd.func12, by kernel_rfl, by kernel_rfl⟩
theorem ok_13 : FnOK Tryd.prog 13 := ⟨_, Tryd.func13, by kernel_rfl, by kernel_rfl⟩
theorem ok_14 : FnOK Tryd.prog 14 := ⟨_, Tryd.func14, by kernel_rfl, by kernel_rfl⟩
theorem ok_15 : FnOK Tryd.prog 15 := ⟨_, Tryd.func15, by kernel_rfl, by kernel_rfl⟩
theorem ok_16 : FnOK Tryd.prog 16 := ⟨_, Tryd.func16, by kernel_rfl, by kernel_rfl⟩
theorem ok_17 : FnOK Tryd.prog 17 := ⟨_, Tryd.func17, by kernel_rfl, by kernel_rfl⟩
theorem ok_18 : FnOK Tryd.prog 18 := ⟨_, Tryd.func18, by kernel_rfl, by kernel_rfl⟩
theorem ok_19 : FnOK Tryd.prog 19 := ⟨_, Tryd.func19, by kernel_rfl, by kernel_rfl⟩
theorem ok_20 : FnOK Tryd.prog 20 := ⟨_, Tryd.func20, by kernel_rfl, by kernel_rfl⟩
theorem ok_21 : FnOK Tryd.prog 21 := ⟨_, Tryd.func21, by kernel_rfl, by kernel_rfl⟩
theorem ok_22 : FnOK Tryd.prog 22 := ⟨_, Tryd.func22, by kernel_rfl, by kernel_rfl⟩
theorem ok_23 : FnOK Tryd.prog 23 := ⟨_, Tryd.func23, by kernel_rfl, by kernel_rfl⟩
theorem ok_24 : FnOK Tryd.prog 24 := ⟨_, Tryd.func24, by kernel_rfl, by kernel_rfl⟩
theorem ok_25 : FnOK Tryd.prog 25 := ⟨_, Tryd.func25, by kernel_rfl, by kernel_rfl⟩
theorem ok_26 : FnOK Tryd.prog 26 := ⟨_, Tryd.func26, by kernel_rfl, by kernel_rfl⟩
theorem ok_27 : FnOK Tryd.prog 27 := ⟨_, Tryd.func27, by kernel_rfl, by kernel_rfl⟩
theorem ok_28 : FnOK Tryd.prog 28 := ⟨_, Tryd.func28, by kernel_rfl, by kernel_rfl⟩
theorem ok_29 : FnOK Tryd.prog 29 := ⟨_, Tryd.func29, by kernel_rfl, by kernel_rfl⟩
theorem ok_30 : FnOK Tryd.prog 30 := ⟨_, Tryd.func30, by kernel_rfl, by kernel_rfl⟩
theorem ok_31 : FnOK Tryd.prog 31 := ⟨_, Tryd.func31, by kernel_rfl, by kernel_rfl⟩
theorem ok_32 : FnOK Tryd.prog 32 := ⟨_, Tryd.func32, by kernel_rfl, by kernel_rfl⟩
theorem ok_33 : FnOK Tryd.prog 33 := ⟨_, Tryd.func33, by kernel_rfl, by kernel_rfl⟩
theorem ok_34 : FnOK Tryd.prog 34 := ⟨_, Tryd.func34, by kernel_rfl, by kernel_rfl⟩
theorem ok_35 : FnOK Tryd.prog 35 := ⟨_, Tryd.func35, by kernel_rfl, by kernel_rfl⟩
theorem ok_36 : FnOK Tryd.prog 36 := ⟨_, Tryd.func36, by kernel_rfl, by kernel_rfl⟩
theorem ok_37 : FnOK Tryd.prog 37 := ⟨_, Tryd.func37, by kernel_rfl, by kernel_rfl⟩
theorem ok_38 : FnOK Tryd.prog 38 := ⟨_, Tryd.func38, by kernel_rfl, by kernel_rfl⟩
theorem ok_39 : FnOK Tryd.prog 39 := ⟨_, Tryd.func39, by kernel_rfl, by kernel_rfl⟩
theorem ok_40 : FnOK Tryd.prog 40 := ⟨_, Tryd.func40, by kernel_rfl, by kernel_rfl⟩
theorem ok_41 : FnOK Tryd.prog 41 := ⟨_, Tryd.func41, by kernel_rfl, by kernel_rfl⟩
theorem ok_43 : FnOK Tryd.prog 43 := ⟨_, Tryd.func43, by kernel_rfl, by kernel_rfl⟩
theorem ok_44 : FnOK Tryd.prog 44 := ⟨_, Tryd.func44, by kernel_rfl, by kernel_rfl⟩
theorem ok_8 : FnOK Tryd.prog 8 := ⟨_, Tryd.func8, by kernel_rfl, by kernel_rfl⟩
theorem ok_9 : FnOK Tryd.prog 9 := ⟨_, Tryd.func9, by kernel_rfl, by kernel_rfl⟩
theorem size_3 : (Tryd.prog.info? 3).map (·.size) = some 1 := by kernel_rfl
theorem size_30 : (Tryd.prog.info? 30).map (·.size) = some 3 := by kernel_rfl
theorem size_9 : (Tryd.prog.info? 9).map (·.size) = some 1 := by kernel_rfl
theorem zero_30 : (Tryd.prog.info? 30).bind (·.zero) = some (Value.agg #[(Value.int .i64 0), (Value.int .i64 0), (str ([]))]) := by kernel_rfl
theorem zero_42 : (Tryd.prog.info? 42).bind (·.zero) = some (Value.agg #[(Value.pointer none), (Value.slice none 0 0)]) := by kernel_rfl
/- 'brocade/brocadelaw13.examples': what is enough. -/
set_option maxRecDepth 100000 in
set_option maxHeartbeats 4000000 in
theorem vc8 (w0 : World) (R : Value → World → Prop)
    (h : Calls Tryd.prog 9 #[(str ([97, 91, 105, 43, 49, 93, 60, 61, 48, 51, 32, 35, 32, 101, 110, 100] : List UInt8))] w0 (fun e w1 => ∃ (r1A : Option Addr) (r1n : Nat) (r1c : Nat) (r2 : Int) (r3 : Int), e = .returned (Value.tuple #[(Value.slice r1A r1n r1c), (Value.int .i64 r2), (Value.int .i64 r3)]) ∧ Ext w0 w1 ∧ Calls Tryd.prog 9 #[(str ([120, 32, 62] : List UInt8))] w1 (fun e w2 => ∃ (r4A : Option Addr) (r4n : Nat) (r4c : Nat) (r5 : Int) (r6 : Int), e = .returned (Value.tuple #[(Value.slice r4A r4n r4c), (Value.int .i64 r5), (Value.int .i64 r6)]) ∧ Ext w1 w2 ∧ ((((decide (r3 = 0)) && (decide (r2 = 0))) && (decide ((r1n : Int) = 8))) = true → (0 : Int) ≤ 6 ∧ 6 < (r1n : Int)) ∧ ∃ (ad1 : Addr), ((((decide (r3 = 0)) && (decide (r2 = 0))) && (decide ((r1n : Int) = 8))) = true → r1A = some ad1) ∧ ∃ (exa1 : Int) (exb1 : Int) (exc1 : List UInt8), ((((decide (r3 = 0)) && (decide (r2 = 0))) && (decide ((r1n : Int) = 8))) = true → CellsAt w2 (ad1.add (Int.toNat 6 * 3)) [(Value.int .i64 exa1), (Value.int .i64 exb1), (str exc1)]) ∧ (((((decide (r3 = 0)) && (decide (r2 = 0))) && (decide ((r1n : Int) = 8))) && ((decide (exa1 = 3)) && (decide (exb1 = 6)) && (decide (exc1 = ([60, 61] : List UInt8))))) = true → (0 : Int) ≤ 7 ∧ 7 < (r1n : Int)) ∧ ∃ (ad2 : Addr), (((((decide (r3 = 0)) && (decide (r2 = 0))) && (decide ((r1n : Int) = 8))) && ((decide (exa1 = 3)) && (decide (exb1 = 6)) && (decide (exc1 = ([60, 61] : List UInt8))))) = true → r1A = some ad2) ∧ ∃ (exa2 : Int) (exb2 : Int) (exc2 : List UInt8), (((((decide (r3 = 0)) && (decide (r2 = 0))) && (decide ((r1n : Int) = 8))) && ((decide (exa1 = 3)) && (decide (exb1 = 6)) && (decide (exc1 = ([60, 61] : List UInt8))))) = true → CellsAt w2 (ad2.add (Int.toNat 7 * 3)) [(Value.int .i64 exa2), (Value.int .i64 exb2), (str exc2)]) ∧ ∃ q1 : List UInt8 → World → Prop, ((((((decide (r3 = 0)) && (decide (r2 = 0))) && (decide ((r1n : Int) = 8))) && ((decide (exa1 = 3)) && (decide (exb1 = 6)) && (decide (exc1 = ([60, 61] : List UInt8))))) && ((decide (exa2 = 2)) && (decide (exb2 = 8)) && (decide (exc2 = ([48, 51] : List UInt8))))) = true → Calls Tryd.prog 12 #[(Value.slice r1A r1n r1c)] w2 (fun e w3 => ∃ (r7 : List UInt8), e = .returned (str r7) ∧ Ext w2 w3 ∧ q1 r7 w3)) ∧ (∀ (r7 : List UInt8) (w3 : World), Ext w2 w3 → ((((((decide (r3 = 0)) && (decide (r2 = 0))) && (decide ((r1n : Int) = 8))) && ((decide (exa1 = 3)) && (decide (exb1 = 6)) && (decide (exc1 = ([60, 61] : List UInt8))))) && ((decide (exa2 = 2)) && (decide (exb2 = 8)) && (decide (exc2 = ([48, 51] : List UInt8))))) = true → q1 r7 w3) → ∃ q2 : Bool → World → Prop, (((((((((decide (r3 = 0)) && (decide (r2 = 0))) && (decide ((r1n : Int) = 8))) && ((decide (exa1 = 3)) && (decide (exb1 = 6)) && (decide (exc1 = ([60, 61] : List UInt8))))) && ((decide (exa2 = 2)) && (decide (exb2 = 8)) && (decide (exc2 = ([48, 51] : List UInt8))))) && (decide (r7 = ([97, 32, 91, 32, 105, 32, 43, 32, 49, 32, 93, 32, 60, 61, 32, 48, 51] : List UInt8)))) && (decide (r5 = 2))) && (decide (r6 = 5))) = true → Calls Tryd.prog 16 #[(str ([115, 117, 109] : List UInt8))] w3 (fun e w4 => ∃ (r8 : Bool), e = .returned (Value.bool r8) ∧ Ext w3 w4 ∧ q2 r8 w4)) ∧ (∀ (r8 : Bool) (w4 : World), Ext w3 w4 → (((((((((decide (r3 = 0)) && (decide (r2 = 0))) && (decide ((r1n : Int) = 8))) && ((decide (exa1 = 3)) && (decide (exb1 = 6)) && (decide (exc1 = ([60, 61] : List UInt8))))) && ((decide (exa2 = 2)) && (decide (exb2 = 8)) && (decide (exc2 = ([48, 51] : List UInt8))))) && (decide (r7 = ([97, 32, 91, 32, 105, 32, 43, 32, 49, 32, 93, 32, 60, 61, 32, 48, 51] : List UInt8)))) && (decide (r5 = 2))) && (decide (r6 = 5))) = true → q2 r8 w4) → ∃ q3 : Bool → World → Prop, ((((((((((decide (r3 = 0)) && (decide (r2 = 0))) && (decide ((r1n : Int) = 8))) && ((decide (exa1 = 3)) && (decide (exb1 = 6)) && (decide (exc1 = ([60, 61] : List UInt8))))) && ((decide (exa2 = 2)) && (decide (exb2 = 8)) && (decide (exc2 = ([48, 51] : List UInt8))))) && (decide (r7 = ([97, 32, 91, 32, 105, 32, 43, 32, 49, 32, 93, 32, 60, 61, 32, 48, 51] : List UInt8)))) && (decide (r5 = 2))) && (decide (r6 = 5))) && r8) = true → Calls Tryd.prog 14 #[(str ([115, 117, 109] : List UInt8))] w4 (fun e w5 => ∃ (r9 : Bool), e = .returned (Value.bool r9) ∧ Ext w4 w5 ∧ q3 r9 w5)) ∧ (∀ (r9 : Bool) (w5 : World), Ext w4 w5 → ((((((((((decide (r3 = 0)) && (decide (r2 = 0))) && (decide ((r1n : Int) = 8))) && ((decide (exa1 = 3)) && (decide (exb1 = 6)) && (decide (exc1 = ([60, 61] : List UInt8))))) && ((decide (exa2 = 2)) && (decide (exb2 = 8)) && (decide (exc2 = ([48, 51] : List UInt8))))) && (decide (r7 = ([97, 32, 91, 32, 105, 32, 43, 32, 49, 32, 93, 32, 60, 61, 32, 48, 51] : List UInt8)))) && (decide (r5 = 2))) && (decide (r6 = 5))) && r8) = true → q3 r9 w5) → R (Value.bool ((((((((((decide (r3 = 0)) && (decide (r2 = 0))) && (decide ((r1n : Int) = 8))) && ((decide (exa1 = 3)) && (decide (exb1 = 6)) && (decide (exc1 = ([60, 61] : List UInt8))))) && ((decide (exa2 = 2)) && (decide (exb2 = 8)) && (decide (exc2 = ([48, 51] : List UInt8))))) && (decide (r7 = ([97, 32, 91, 32, 105, 32, 43, 32, 49, 32, 93, 32, 60, 61, 32, 48, 51] : List UInt8)))) && (decide (r5 = 2))) && (decide (r6 = 5))) && r8) && (!r9))) w5)))))) :
    Calls Tryd.prog 8 #[] w0 fun e w' => ∃ v, e = .returned v ∧ R v w' := by
  refine enter (l := []) Tryd.func8 rfl Tryd.ntmps8 rfl ?_
  refine c_seq ?_
  refine c_region ?_
  refine s_q rfl rfl (y_assign rfl ev_const) ?_
  refine s_nil ?_
  refine k_next (e := []) trivial ?_
  refine c_seq ?_
  refine c_region ?_
  refine s_call rfl rfl (r_callF (vs := [(str ([97, 91, 105, 43, 49, 93, 60, 61, 48, 51, 32, 35, 32, 101, 110, 100] : List UInt8))]) rfl ok_9 ⟨ev_const, trivial⟩) (Calls.mono h ?_)
  rintro _ w1 ⟨r1A, r1n, r1c, r2, r3, rfl, hx1, h⟩
  refine ⟨_, rfl, ?_⟩
  have hS1 : Stp noM w0 noM w1 := Stp.step Stp.start hx1
  refine s_q rfl rfl (y_move rfl (ev_tmp rfl rfl)) ?_
  refine s_q rfl rfl (y_extract rfl (ev_tmp rfl rfl) rfl) ?_
  refine s_q rfl rfl (y_extract rfl (ev_tmp rfl rfl) rfl) ?_
  refine s_q rfl rfl (y_extract rfl (ev_tmp rfl rfl) rfl) ?_
  refine s_q rfl rfl (y_assign rfl (ev_tmp rfl rfl)) ?_
  refine s_q rfl rfl (y_assign rfl (ev_tmp rfl rfl)) ?_
  refine s_q rfl rfl (y_assign rfl (ev_tmp rfl rfl)) ?_
  refine s_nil ?_
  refine k_next (e := [(1, (Value.slice r1A r1n r1c)), (2, (Value.int .i64 r2)), (3, (Value.int .i64 r3))]) ⟨rfl, rfl, rfl, trivial⟩ ?_
  refine c_seq ?_
  refine c_region ?_
  refine s_call rfl rfl (r_callF (vs := [(str ([120, 32, 62] : List UInt8))]) rfl ok_9 ⟨ev_const, trivial⟩) (Calls.mono h ?_)
  rintro _ w2 ⟨r4A, r4n, r4c, r5, r6, rfl, hx2, h⟩
  refine ⟨_, rfl, ?_⟩
  have hS2 : Stp noM w0 noM w2 := Stp.step hS1 hx2
  have hS3 : Stp noM w1 noM w2 := Stp.step (Stp.self hS1) hx2
  refine s_q rfl rfl (y_move rfl (ev_tmp rfl rfl)) ?_
  refine s_q rfl rfl (y_extract rfl (ev_tmp rfl rfl) rfl) ?_
  refine s_q rfl rfl (y_extract rfl (ev_tmp rfl rfl) rfl) ?_
  refine s_q rfl rfl (y_extract rfl (ev_tmp rfl rfl) rfl) ?_
  refine s_q rfl rfl (y_assign rfl (ev_tmp rfl rfl)) ?_
  refine s_q rfl rfl (y_assign rfl (ev_tmp rfl rfl)) ?_
  refine s_q rfl rfl (y_assign rfl (ev_tmp rfl rfl)) ?_
  refine s_nil ?_
  refine k_next (e := [(1, (Value.slice r1A r1n r1c)), (2, (Value.int .i64 r2)), (3, (Value.int .i64 r3)), (5, (Value.int .i64 r5)), (6, (Value.int .i64 r6))]) ⟨rfl, rfl, rfl, rfl, rfl, trivial⟩ ?_
  refine c_seq ?_
  refine c_region ?_
  refine s_q rfl rfl (y_move rfl (ev_tmp rfl rfl)) ?_
  refine s_q rfl rfl (y_eql rfl (ev_tmp rfl rfl) ev_const) ?_
  refine s_q rfl rfl (y_move rfl (ev_tmp rfl rfl)) ?_
  refine s_gval (g_true rfl rfl rfl rfl) rfl (fun hc => (y_move rfl (ev_tmp rfl rfl))) ?_
  refine s_gval (g_true rfl rfl rfl rfl) rfl (fun hc => (y_eql rfl (ev_gv (ev_tmp rfl rfl) hc) ev_const)) ?_
  refine s_q rfl rfl (y_and rfl (ev_tmp rfl rfl) (ev_tmp rfl rfl)) ?_
  refine s_q rfl rfl (y_move rfl (ev_tmp rfl rfl)) ?_
  refine s_gval (g_true rfl rfl rfl rfl) rfl (fun hc => (y_move rfl (ev_tmp rfl rfl))) ?_
  refine s_gval (g_true rfl rfl rfl rfl) rfl (fun hc => (y_lenl rfl Tryd.underlying23 (ev_gv (ev_tmp rfl rfl) hc))) ?_
  refine s_gval (g_true rfl rfl rfl rfl) rfl (fun hc => (y_eql rfl (ev_gv (ev_tmp rfl rfl) hc) ev_const)) ?_
  refine s_q rfl rfl (y_and rfl (ev_tmp rfl rfl) (ev_tmp rfl rfl)) ?_
  refine s_q rfl rfl (y_move rfl (ev_tmp rfl rfl)) ?_
  refine s_gval (g_true rfl rfl rfl rfl) rfl (fun hc => (y_move rfl (ev_tmp rfl rfl))) ?_
  obtain ⟨ho1, h⟩ := h
  obtain ⟨ad1, hC1, h⟩ := h
  refine s_gval (g_true rfl rfl rfl rfl) rfl (fun hc => (y_indexAddr rfl Tryd.underlying23 size_30 (ev_gv (ev_tmp rfl rfl) hc) ev_const (ho1 hc) (hC1 hc))) ?_
  obtain ⟨exa1, exb1, exc1, hC2, h⟩ := h
  refine s_gval (g_true rfl rfl rfl rfl) rfl (fun hc => (y_loadN (l := [(Value.int .i64 exa1), (Value.int .i64 exb1), (str exc1)]) rfl (ev_gv (ev_tmp rfl rfl) hc) Tryd.underlying30 rfl size_30 (hC2 hc))) ?_
  refine s_gval (g_true rfl rfl rfl rfl) rfl (fun hc => (y_build (vs := [(0, (Value.int .i64 3)), (1, (Value.int .i64 6)), (2, (str ([60, 61] : List UInt8)))]) (cs := #[(Value.int .i64 3), (Value.int .i64 6), (str ([60, 61] : List UInt8))]) rfl ⟨rfl, ev_const, ⟨rfl, ev_const, ⟨rfl, ev_const, trivial⟩⟩⟩ (by kernel_rfl))) ?_
  refine s_gval (g_true rfl rfl rfl rfl) rfl (fun hc => (y_bin rfl (ev_gv (ev_tmp rfl rfl) hc) (ev_gv (ev_tmp rfl rfl) hc) (eqstruct_30 ..) (eqguard_30 ..))) ?_
  refine s_q rfl rfl (y_and rfl (ev_tmp rfl rfl) (ev_tmp rfl rfl)) ?_
  refine s_q rfl rfl (y_move rfl (ev_tmp rfl rfl)) ?_
  refine s_gval (g_true rfl rfl rfl rfl) rfl (fun hc => (y_move rfl (ev_tmp rfl rfl))) ?_
  obtain ⟨ho2, h⟩ := h
  obtain ⟨ad2, hC3, h⟩ := h
  refine s_gval (g_true rfl rfl rfl rfl) rfl (fun hc => (y_indexAddr rfl Tryd.underlying23 size_30 (ev_gv (ev_tmp rfl rfl) hc) ev_const (ho2 hc) (hC3 hc))) ?_
  obtain ⟨exa2, exb2, exc2, hC4, h⟩ := h
  refine s_gval (g_true rfl rfl rfl rfl) rfl (fun hc => (y_loadN (l := [(Value.int .i64 exa2), (Value.int .i64 exb2), (str exc2)]) rfl (ev_gv (ev_tmp rfl rfl) hc) Tryd.underlying30 rfl size_30 (hC4 hc))) ?_
  refine s_gval (g_true rfl rfl rfl rfl) rfl (fun hc => (y_build (vs := [(0, (Value.int .i64 2)), (1, (Value.int .i64 8)), (2, (str ([48, 51] : List UInt8)))]) (cs := #[(Value.int .i64 2), (Value.int .i64 8), (str ([48, 51] : List UInt8))]) rfl ⟨rfl, ev_const, ⟨rfl, ev_const, ⟨rfl, ev_const, trivial⟩⟩⟩ (by kernel_rfl))) ?_
  refine s_gval (g_true rfl rfl rfl rfl) rfl (fun hc => (y_bin rfl (ev_gv (ev_tmp rfl rfl) hc) (ev_gv (ev_tmp rfl rfl) hc) (eqstruct_30 ..) (eqguard_30 ..))) ?_
  refine s_q rfl rfl (y_and rfl (ev_tmp rfl rfl) (ev_tmp rfl rfl)) ?_
  refine s_q rfl rfl (y_move rfl (ev_tmp rfl rfl)) ?_
  refine s_gval (g_true rfl rfl rfl rfl) rfl (fun hc => (y_move rfl (ev_tmp rfl rfl))) ?_
  obtain ⟨q1, hq2, h⟩ := h
  refine s_gcallT (α := List UInt8) (fun x => (str x)) (fun x => fun w => q1 (x) w) (g_true rfl rfl rfl rfl) rfl (fun hc => (r_callF (vs := [(Value.slice r1A r1n r1c)]) rfl ok_12 ⟨(ev_gv (ev_tmp rfl rfl) hc), trivial⟩)) (fun hc => (hq2 hc).mono ?_) ?_
  · rintro _ w' ⟨r7, rfl, hE', hq'⟩; exact ⟨r7, rfl, hE', hq'⟩
  rintro r7 w3 hx3 hq1
  replace h := h r7 w3 hx3 hq1
  have hS4 : Stp noM w0 noM w3 := Stp.step hS2 hx3
  have hS5 : Stp noM w2 noM w3 := Stp.step (Stp.self hS2) hx3
  have hC5 := fun hc => (hC2 hc).ext hx3
  have hC6 := fun hc => (hC4 hc).ext hx3
  refine s_gval (g_true rfl rfl rfl rfl) rfl (fun hc => (y_eqs rfl (ev_gv (ev_tmp rfl rfl) hc) ev_const)) ?_
  refine s_q rfl rfl (y_and rfl (ev_tmp rfl rfl) (ev_tmp rfl rfl)) ?_
  refine s_q rfl rfl (y_move rfl (ev_tmp rfl rfl)) ?_
  refine s_gval (g_true rfl rfl rfl rfl) rfl (fun hc => (y_move rfl (ev_tmp rfl rfl))) ?_
  refine s_gval (g_true rfl rfl rfl rfl) rfl (fun hc => (y_eql rfl (ev_gv (ev_tmp rfl rfl) hc) ev_const)) ?_
  refine s_q rfl rfl (y_and rfl (ev_tmp rfl rfl) (ev_tmp rfl rfl)) ?_
  refine s_q rfl rfl (y_move rfl (ev_tmp rfl rfl)) ?_
  refine s_gval (g_true rfl rfl rfl rfl) rfl (fun hc => (y_move rfl (ev_tmp rfl rfl))) ?_
  refine s_gval (g_true rfl rfl rfl rfl) rfl (fun hc => (y_eql rfl (ev_gv (ev_tmp rfl rfl) hc) ev_const)) ?_
  refine s_q rfl rfl (y_and rfl (ev_tmp rfl rfl) (ev_tmp rfl rfl)) ?_
  refine s_q rfl rfl (y_move rfl (ev_tmp rfl rfl)) ?_
  obtain ⟨q2, hq4, h⟩ := h
  refine s_gcallT (α := Bool) (fun x => (Value.bool x)) (fun x => fun w => q2 (x) w) (g_true rfl rfl rfl rfl) rfl (fun hc => (r_callF (vs := [(str ([115, 117, 109] : List UInt8))]) rfl ok_16 ⟨ev_const, trivial⟩)) (fun hc => (hq4 hc).mono ?_) ?_
  · rintro _ w' ⟨r8, rfl, hE', hq'⟩; exact ⟨r8, rfl, hE', hq'⟩
  rintro r8 w4 hx4 hq3
  replace h := h r8 w4 hx4 hq3
  have hS6 : Stp noM w0 noM w4 := Stp.step hS4 hx4
  have hS7 : Stp noM w3 noM w4 := Stp.step (Stp.self hS4) hx4
  have hC7 := fun hc => (hC5 hc).ext hx4
  have hC8 := fun hc => (hC6 hc).ext hx4
  refine s_q rfl rfl (y_and rfl (ev_tmp rfl rfl) (ev_tmp rfl rfl)) ?_
  refine s_q rfl rfl (y_move rfl (ev_tmp rfl rfl)) ?_
  obtain ⟨q3, hq6, h⟩ := h
  refine s_gcallT (α := Bool) (fun x => (Value.bool x)) (fun x => fun w => q3 (x) w) (g_true rfl rfl rfl rfl) rfl (fun hc => (r_callF (vs := [(str ([115, 117, 109] : List UInt8))]) rfl ok_14 ⟨ev_const, trivial⟩)) (fun hc => (hq6 hc).mono ?_) ?_
  · rintro _ w' ⟨r9, rfl, hE', hq'⟩; exact ⟨r9, rfl, hE', hq'⟩
  rintro r9 w5 hx5 hq5
  replace h := h r9 w5 hx5 hq5
  have hS8 : Stp noM w0 noM w5 := Stp.step hS6 hx5
  have hS9 : Stp noM w4 noM w5 := Stp.step (Stp.self hS6) hx5
  have hC9 := fun hc => (hC7 hc).ext hx5
  have hC10 := fun hc => (hC8 hc).ext hx5
  refine s_gval (g_true rfl rfl rfl rfl) rfl (fun hc => (y_not rfl (ev_gv (ev_tmp rfl rfl) hc))) ?_
  refine s_q rfl rfl (y_and rfl (ev_tmp rfl rfl) (ev_tmp rfl rfl)) ?_
  refine s_q rfl rfl (y_assign rfl (ev_tmp rfl rfl)) ?_
  refine s_nil ?_
  refine k_next (e := [(0, (Value.bool ((((((((((decide (r3 = 0)) && (decide (r2 = 0))) && (decide ((r1n : Int) = 8))) && ((decide (exa1 = 3)) && (decide (exb1 = 6)) && (decide (exc1 = ([60, 61] : List UInt8))))) && ((decide (exa2 = 2)) && (decide (exb2 = 8)) && (decide (exc2 = ([48, 51] : List UInt8))))) && (decide (r7 = ([97, 32, 91, 32, 105, 32, 43, 32, 49, 32, 93, 32, 60, 61, 32, 48, 51] : List UInt8)))) && (decide (r5 = 2))) && (decide (r6 = 5))) && r8) && (!r9))))]) ⟨rfl, trivial⟩ ?_
  refine c_ret ?_
  exact q_ret (vs := [(Value.bool ((((((((((decide (r3 = 0)) && (decide (r2 = 0))) && (decide ((r1n : Int) = 8))) && ((decide (exa1 = 3)) && (decide (exb1 = 6)) && (decide (exc1 = ([60, 61] : List UInt8))))) && ((decide (exa2 = 2)) && (decide (exb2 = 8)) && (decide (exc2 = ([48, 51] : List UInt8))))) && (decide (r7 = ([97, 32, 91, 32, 105, 32, 43, 32, 49, 32, 93, 32, 60, 61, 32, 48, 51] : List UInt8)))) && (decide (r5 = 2))) && (decide (r6 = 5))) && r8) && (!r9)))]) Tryd.results8 ⟨ev_tmp rfl rfl, trivial⟩ h

/- 'brocade/lexer.Tokenize': what is enough. -/
set_option maxRecDepth 100000 in
set_option maxHeartbeats 4000000 in
theorem vc9 (s1 : List UInt8) (w0 : World) (R : Value → World → Prop)
    (h : (((decide (65536 < (s1.length : Int))) = true → R (Value.tuple #[(Value.slice none 0 0), (Value.int .i64 0), (Value.int .i64 2)]) w0) ∧ ((decide (65536 < (s1.length : Int))) = false → Calls Tryd.prog 19 #[(str s1)] w0 (fun e w1 => ∃ (r1 : Int), e = .returned (Value.int .i64 r1) ∧ Ext w0 w1 ∧ ∃ (inv1 : Option Addr → Nat → Nat → List Value → Int → (Nat → Prop) → World → Prop) (mu1 : Option Addr → Nat → Nat → List Value → Int → Nat), inv1 none 0 0 ([]) r1 noM w1 ∧ (∀ (out1A : Option Addr) (out1n : Nat) (out1c : Nat) (outxs1 : List Value) (at1 : Int) (m1 : Nat → Prop) (w2 : World), Stp noM w0 m1 w2 → inv1 out1A out1n out1c outxs1 at1 m1 w2 → (((decide (at1 < (s1.length : Int))) = true → ((0 : Int) ≤ at1 ∧ at1 ≤ (s1.length : Int)) ∧ Calls Tryd.prog 20 #[(str (s1.drop (Int.toNat at1)))] w2 (fun e w3 => ∃ (r2 : Int) (r3 : Int), e = .returned (Value.tuple #[(Value.int .i64 r2), (Value.int .i64 r3)]) ∧ Ext w2 w3 ∧ (((decide (r2 = 0)) = true → R (Value.tuple #[(Value.slice none 0 0), (Value.int .i64 at1), (Value.int .i64 5)]) w3) ∧ ((decide (r2 = 0)) = false → ((((decide (r2 = 1)) && (decide (16 < r3))) = true → R (Value.tuple #[(Value.slice none 0 0), (Value.int .i64 at1), (Value.int .i64 2)]) w3) ∧ (((decide (r2 = 1)) && (decide (16 < r3))) = false → (R64 (at1 + r3)) ∧ ((0 : Int) ≤ at1 ∧ at1 ≤ at1 + r3 ∧ at1 + r3 ≤ (s1.length : Int)) ∧ ((out1n + 1) * 32 ≤ 140737488355328) ∧ (out1n + 1 ≤ 140737488355328) ∧ ∀ (sA1 : Option Addr) (sc1 : Nat), (R64 (at1 + r3)) ∧ ((0 : Int) ≤ at1 + r3 ∧ at1 + r3 ≤ (s1.length : Int)) ∧ ∀ (m2 : Nat → Prop) (w5 : World), Stp m1 w3 m2 w5 → Stp noM w0 m2 w5 → Calls Tryd.prog 19 #[(str (s1.drop (Int.toNat (at1 + r3))))] w5 (fun e w6 => ∃ (r4 : Int), e = .returned (Value.int .i64 r4) ∧ Ext w5 w6 ∧ (R64 ((at1 + r3) + r4)) ∧ (inv1 sA1 (out1n + 1) sc1 (outxs1 ++ [(Value.int .i64 r2), (Value.int .i64 at1), (str ((s1.drop (Int.toNat at1)).take (Int.toNat (at1 + r3) - Int.toNat at1)))]) ((at1 + r3) + r4) m2 w6 ∧ mu1 sA1 (out1n + 1) sc1 (outxs1 ++ [(Value.int .i64 r2), (Value.int .i64 at1), (str ((s1.drop (Int.toNat at1)).take (Int.toNat (at1 + r3) - Int.toNat at1)))]) ((at1 + r3) + r4) < mu1 out1A out1n out1c outxs1 at1)))))))) ∧ ((decide (at1 < (s1.length : Int))) = false → ∀ (_ : Own m1 w2 30 3 out1A out1n out1c outxs1), R (Value.tuple #[(Value.slice out1A out1n out1c), (Value.int .i64 0), (Value.int .i64 0)]) w2))))))) :
    Calls Tryd.prog 9 #[(str s1)] w0 fun e w' => ∃ v, e = .returned v ∧ R v w' := by
  refine enter (l := [(str s1)]) Tryd.func9 rfl Tryd.ntmps9 rfl ?_
  refine c_seq ?_
  refine c_region ?_
  refine s_q rfl rfl (y_assign rfl ev_const) ?_
  refine s_q rfl rfl (y_assign rfl ev_const) ?_
  refine s_q rfl rfl (y_assign rfl ev_const) ?_
  refine s_nil ?_
  refine k_next (e := [(0, (str s1))]) ⟨rfl, trivial⟩ ?_
  refine c_seq ?_
  refine c_seq ?_
  refine c_region ?_
  refine s_q rfl rfl (y_move rfl (ev_tmp rfl rfl)) ?_
  refine s_q rfl rfl (y_lens rfl Tryd.underlying9 (ev_tmp rfl rfl)) ?_
  refine s_q rfl rfl (y_gtr rfl (ev_tmp rfl rfl) ev_const) ?_
  refine s_nil ?_
  refine k_next (e := [(0, (str s1)), (11, (Value.bool (decide (65536 < (s1.length : Int)))))]) ⟨rfl, rfl, trivial⟩ ?_
  refine c_cond (b := decide (65536 < (s1.length : Int))) (ev_tmp rfl rfl) (fun hb => ?_) (fun hb => ?_)
  all_goals obtain ⟨hT, hF⟩ := h
  · replace h := hT hb
    clear hT hF
    refine c_seq ?_
    refine c_region ?_
    refine s_q rfl rfl (y_assign rfl ev_const) ?_
    refine s_q rfl rfl (y_assign rfl ev_const) ?_
    refine s_q rfl rfl (y_assign rfl ev_const) ?_
    refine s_nil ?_
    refine k_next (e := [(2, (Value.slice none 0 0)), (3, (Value.int .i64 0)), (4, (Value.int .i64 2))]) ⟨rfl, rfl, rfl, trivial⟩ ?_
    refine c_ret ?_
    exact q_ret (vs := [(Value.slice none 0 0), (Value.int .i64 0), (Value.int .i64 2)]) Tryd.results9 ⟨ev_tmp rfl rfl, ⟨ev_tmp rfl rfl, ⟨ev_tmp rfl rfl, trivial⟩⟩⟩ h
  · replace h := hF hb
    clear hT hF
    refine c_skip ?_
    refine k_next (e := [(0, (str s1))]) ⟨rfl, trivial⟩ ?_
    refine c_seq ?_
    refine c_region ?_
    refine s_q rfl rfl (y_assign rfl ev_const) ?_
    refine s_nil ?_
    refine k_next (e := [(0, (str s1)), (5, (Value.slice none 0 0))]) ⟨rfl, rfl, trivial⟩ ?_
    refine c_seq ?_
    refine c_seq ?_
    refine c_region ?_
    refine s_q rfl rfl (y_move rfl (ev_tmp rfl rfl)) ?_
    refine s_call rfl rfl (r_callF (vs := [(str s1)]) rfl ok_19 ⟨(ev_tmp rfl rfl), trivial⟩) (Calls.mono h ?_)
    rintro _ w1 ⟨r1, rfl, hx1, h⟩
    refine ⟨_, rfl, ?_⟩
    have hS1 : Stp noM w0 noM w1 := Stp.step Stp.start hx1
    refine s_q rfl rfl (y_assign rfl (ev_tmp rfl rfl)) ?_
    refine s_nil ?_
    refine k_next (e := [(0, (str s1)), (5, (Value.slice none 0 0)), (6, (Value.int .i64 r1))]) ⟨rfl, rfl, rfl, trivial⟩ ?_
    refine c_block ?_
    obtain ⟨inv1, mu1, h0, h⟩ := h
    refine c_loop (α := Option Addr × Nat × Nat × List Value × Int × (Nat → Prop)) (fun x => fun w2 => inv1 (x.1) (x.2.1) (x.2.2.1) (x.2.2.2.1) (x.2.2.2.2.1) (x.2.2.2.2.2) w2 ∧ (Stp noM w0 x.2.2.2.2.2 w2) ∧ (Own x.2.2.2.2.2 w2 30 3 x.1 x.2.1 x.2.2.1 x.2.2.2.1)) (fun x => fun w2 => mu1 (x.1) (x.2.1) (x.2.2.1) (x.2.2.2.1) (x.2.2.2.2.1)) (fun x => [(0, (str s1)), (5, (Value.slice x.1 x.2.1 x.2.2.1)), (6, (Value.int .i64 x.2.2.2.2.1))]) (none, 0, 0, [], r1, noM) ⟨h0, hS1, Own.nil⟩ ⟨rfl, rfl, rfl, trivial⟩ ?_
    clear h0
    rintro ⟨out1A, out1n, out1c, outxs1, at1, m1⟩ w2 ⟨hI1, hf1, hf2⟩
    have hf1 : Stp noM w0 m1 w2 := hf1
    have hf2 : Own m1 w2 30 3 out1A out1n out1c outxs1 := hf2
    replace h := h out1A out1n out1c outxs1 at1 m1 w2 hf1 hI1
    refine c_sub (e := [(0, (str s1)), (5, (Value.slice out1A out1n out1c)), (6, (Value.int .i64 at1))]) ⟨rfl, rfl, rfl, trivial⟩ ?_
    refine c_seq ?_
    refine c_seq ?_
    refine c_region ?_
    refine s_q rfl rfl (y_move rfl (ev_tmp rfl rfl)) ?_
    refine s_q rfl rfl (y_move rfl (ev_tmp rfl rfl)) ?_
    refine s_q rfl rfl (y_lens rfl Tryd.underlying9 (ev_tmp rfl rfl)) ?_
    refine s_q rfl rfl (y_lss rfl (ev_tmp rfl rfl) (ev_tmp rfl rfl)) ?_
    refine s_nil ?_
    refine k_next (e := [(0, (str s1)), (5, (Value.slice out1A out1n out1c)), (6, (Value.int .i64 at1)), (17, (Value.bool (decide (at1 < (s1.length : Int)))))]) ⟨rfl, rfl, rfl, rfl, trivial⟩ ?_
    refine c_cond (b := decide (at1 < (s1.length : Int))) (ev_tmp rfl rfl) (fun hb => ?_) (fun hb => ?_)
    all_goals obtain ⟨hT, hF⟩ := h
    · replace h := hT hb
      clear hT hF
      refine c_skip ?_
      refine k_next (e := [(0, (str s1)), (5, (Value.slice out1A out1n out1c)), (6, (Value.int .i64 at1))]) ⟨rfl, rfl, rfl, trivial⟩ ?_
      refine c_seq ?_
      refine c_block ?_
      refine c_seq ?_
      refine c_region ?_
      refine s_q rfl rfl (y_move rfl (ev_tmp rfl rfl)) ?_
      refine s_q rfl rfl (y_move rfl (ev_tmp rfl rfl)) ?_
      obtain ⟨ho1, h⟩ := h
      refine s_q rfl rfl (y_slices_l rfl rfl Tryd.underlying9 (ev_tmp rfl rfl) (ev_tmp rfl rfl) ho1) ?_
      refine s_call rfl rfl (r_callF (vs := [(str (s1.drop (Int.toNat at1)))]) rfl ok_20 ⟨(ev_tmp rfl rfl), trivial⟩) (Calls.mono h ?_)
      rintro _ w3 ⟨r2, r3, rfl, hx2, h⟩
      refine ⟨_, rfl, ?_⟩
      have hS2 : Stp noM w0 m1 w3 := Stp.step hf1 hx2
      have hS3 : Stp m1 w2 m1 w3 := Stp.step (Stp.self hf1) hx2
      have hO1 := hf2.ext hx2
      refine s_q rfl rfl (y_move rfl (ev_tmp rfl rfl)) ?_
      refine s_q rfl rfl (y_extract rfl (ev_tmp rfl rfl) rfl) ?_
      refine s_q rfl rfl (y_extract rfl (ev_tmp rfl rfl) rfl) ?_
      refine s_q rfl rfl (y_assign rfl (ev_tmp rfl rfl)) ?_
      refine s_q rfl rfl (y_assign rfl (ev_tmp rfl rfl)) ?_
      refine s_nil ?_
      refine k_next (e := [(0, (str s1)), (5, (Value.slice out1A out1n out1c)), (6, (Value.int .i64 at1)), (7, (Value.int .i64 r2)), (8, (Value.int .i64 r3))]) ⟨rfl, rfl, rfl, rfl, rfl, trivial⟩ ?_
      refine c_seq ?_
      refine c_block ?_
      refine c_seq ?_
      refine c_region ?_
      refine s_q rfl rfl (y_move rfl (ev_tmp rfl rfl)) ?_
      refine s_q rfl rfl (y_eql rfl (ev_tmp rfl rfl) ev_const) ?_
      refine s_q rfl rfl (y_assign rfl (ev_tmp rfl rfl)) ?_
      refine s_nil ?_
      refine k_next (e := [(0, (str s1)), (5, (Value.slice out1A out1n out1c)), (6, (Value.int .i64 at1)), (7, (Value.int .i64 r2)), (8, (Value.int .i64 r3)), (31, (Value.bool (decide (r2 = 0))))]) ⟨rfl, rfl, rfl, rfl, rfl, rfl, trivial⟩ ?_
      refine c_cond (b := decide (r2 = 0)) (ev_tmp rfl rfl) (fun hb => ?_) (fun hb => ?_)
      all_goals obtain ⟨hT, hF⟩ := h
      · replace h := hT hb
        clear hT hF
        refine c_seq ?_
        refine c_region ?_
        refine s_q rfl rfl (y_move rfl (ev_tmp rfl rfl)) ?_
        refine s_q rfl rfl (y_assign rfl ev_const) ?_
        refine s_q rfl rfl (y_assign rfl (ev_tmp rfl rfl)) ?_
        refine s_q rfl rfl (y_assign rfl ev_const) ?_
        refine s_nil ?_
        refine k_next (e := [(2, (Value.slice none 0 0)), (3, (Value.int .i64 at1)), (4, (Value.int .i64 5))]) ⟨rfl, rfl, rfl, trivial⟩ ?_
        refine c_ret ?_
        exact q_ret (vs := [(Value.slice none 0 0), (Value.int .i64 at1), (Value.int .i64 5)]) Tryd.results9 ⟨ev_tmp rfl rfl, ⟨ev_tmp rfl rfl, ⟨ev_tmp rfl rfl, trivial⟩⟩⟩ h
      · replace h := hF hb
        clear hT hF
        refine c_seq ?_
        refine c_region ?_
        refine s_q rfl rfl (y_move rfl (ev_tmp rfl rfl)) ?_
        refine s_q rfl rfl (y_eql rfl (ev_tmp rfl rfl) ev_const) ?_
        refine s_q rfl rfl (y_move rfl (ev_tmp rfl rfl)) ?_
        refine s_gval (g_true rfl rfl rfl rfl) rfl (fun hc => (y_move rfl (ev_tmp rfl rfl))) ?_
        refine s_gval (g_true rfl rfl rfl rfl) rfl (fun hc => (y_gtr rfl (ev_gv (ev_tmp rfl rfl) hc) ev_const)) ?_
        refine s_q rfl rfl (y_and rfl (ev_tmp rfl rfl) (ev_tmp rfl rfl)) ?_
        refine s_q rfl rfl (y_assign rfl (ev_tmp rfl rfl)) ?_
        refine s_nil ?_
        refine k_next (e := [(0, (str s1)), (5, (Value.slice out1A out1n out1c)), (6, (Value.int .i64 at1)), (7, (Value.int .i64 r2)), (8, (Value.int .i64 r3)), (39, (gv (decide (r2 = 1)) (Value.int .i64 r3))), (40, (gv (decide (r2 = 1)) (Value.bool (decide (16 < r3))))), (35, (Value.bool ((decide (r2 = 1)) && (decide (16 < r3)))))]) ⟨rfl, rfl, rfl, rfl, rfl, rfl, rfl, rfl, trivial⟩ ?_
        refine c_cond (b := (decide (r2 = 1)) && (decide (16 < r3))) (ev_tmp rfl rfl) (fun hb => ?_) (fun hb => ?_)
        all_goals obtain ⟨hT, hF⟩ := h
        · replace h := hT hb
          clear hT hF
          refine c_seq ?_
          refine c_region ?_
          refine s_q rfl rfl (y_move rfl (ev_tmp rfl rfl)) ?_
          refine s_q rfl rfl (y_assign rfl ev_const) ?_
          refine s_q rfl rfl (y_assign rfl (ev_tmp rfl rfl)) ?_
          refine s_q rfl rfl (y_assign rfl ev_const) ?_
          refine s_nil ?_
          refine k_next (e := [(2, (Value.slice none 0 0)), (3, (Value.int .i64 at1)), (4, (Value.int .i64 2))]) ⟨rfl, rfl, rfl, trivial⟩ ?_
          refine c_ret ?_
          exact q_ret (vs := [(Value.slice none 0 0), (Value.int .i64 at1), (Value.int .i64 2)]) Tryd.results9 ⟨ev_tmp rfl rfl, ⟨ev_tmp rfl rfl, ⟨ev_tmp rfl rfl, trivial⟩⟩⟩ h
        · replace h := hF hb
          clear hT hF
          refine c_skip ?_
          refine k_next (e := [(0, (str s1)), (5, (Value.slice out1A out1n out1c)), (6, (Value.int .i64 at1)), (7, (Value.int .i64 r2)), (8, (Value.int .i64 r3)), (39, (gv (decide (r2 = 1)) (Value.int .i64 r3))), (40, (gv (decide (r2 = 1)) (Value.bool (decide (16 < r3)))))]) ⟨rfl, rfl, rfl, rfl, rfl, rfl, rfl, trivial⟩ ?_
          refine c_seq ?_
          refine c_region ?_
          refine s_q rfl rfl (y_move rfl (ev_tmp rfl rfl)) ?_
          refine s_q rfl rfl (y_move rfl (ev_tmp rfl rfl)) ?_
          refine s_q rfl rfl (y_move rfl (ev_tmp rfl rfl)) ?_
          refine s_q rfl rfl (y_move rfl (ev_tmp rfl rfl)) ?_
          refine s_q rfl rfl (y_move rfl (ev_tmp rfl rfl)) ?_
          refine s_q rfl rfl (y_move rfl (ev_tmp rfl rfl)) ?_
          refine s_q rfl rfl (y_move rfl (ev_tmp rfl rfl)) ?_
          obtain ⟨ho2, h⟩ := h
          refine s_q rfl rfl (y_int (y_add rfl (ev_tmp rfl rfl) (ev_tmp rfl rfl)) (wr_i64 ho2)) ?_
          obtain ⟨ho3, h⟩ := h
          refine s_q rfl rfl (y_slices_lh rfl rfl Tryd.underlying9 (ev_tmp rfl rfl) (ev_tmp rfl rfl) (ev_tmp rfl rfl) ho3) ?_
          refine s_q rfl rfl (y_build (vs := [(0, (Value.int .i64 r2)), (1, (Value.int .i64 at1)), (2, (str ((s1.drop (Int.toNat at1)).take (Int.toNat (at1 + r3) - Int.toNat at1))))]) (cs := #[(Value.int .i64 r2), (Value.int .i64 at1), (str ((s1.drop (Int.toNat at1)).take (Int.toNat (at1 + r3) - Int.toNat at1)))]) rfl ⟨rfl, (ev_tmp rfl rfl), ⟨rfl, (ev_tmp rfl rfl), ⟨rfl, (ev_tmp rfl rfl), trivial⟩⟩⟩ (by kernel_rfl)) ?_
          refine s_buildSlice (vs := [(0, (Value.agg #[(Value.int .i64 r2), (Value.int .i64 at1), (str ((s1.drop (Int.toNat at1)).take (Int.toNat (at1 + r3) - Int.toNat at1)))]))]) (cs := #[(Value.int .i64 r2), (Value.int .i64 at1), (str ((s1.drop (Int.toNat at1)).take (Int.toNat (at1 + r3) - Int.toNat at1)))]) rfl rfl rfl Tryd.underlying23 info_30 rfl ⟨rfl, (ev_tmp rfl rfl), trivial⟩ (by kernel_rfl) ?_
          intro b1 w4 hb1 hs1 hx3 hB1
          have hd1 : bOf out1A ≠ some b1 := dis_new (Own.lt hO1) hb1
          have hS4 : Stp noM w0 m1 w4 := Stp.step hS2 hx3
          have hS5 : Stp m1 w3 m1 w4 := Stp.step (Stp.self hS2) hx3
          have hO2 := hO1.ext hx3
          obtain ⟨ho4, h⟩ := h
          obtain ⟨ho5, h⟩ := h
          refine s_append (M := m1) (size := 3) (bytes := 32) (news := [(Value.int .i64 r2), (Value.int .i64 at1), (str ((s1.drop (Int.toNat at1)).take (Int.toNat (at1 + r3) - Int.toNat at1)))]) (k := 1) (xs := outxs1) rfl rfl rfl Tryd.underlying23 info_30 (by decide) (ev_tmp rfl rfl) (ev_tmp rfl rfl) hO2 (CellsAt.of_blk hB1 rfl) rfl rfl ho4 ho5 ?_
          intro sA1 sc1 w5 m2 hg1 hat1 hM1 hO3 hst1
          replace h := h sA1 sc1
          have hS6 : Stp noM w0 m2 w5 := hst1 _ _ hS4
          have hS7 : Stp m1 w3 m2 w5 := hst1 _ _ hS5
          refine s_q rfl rfl (y_assign rfl (ev_tmp rfl rfl)) ?_
          refine s_nil ?_
          refine k_next (e := [(0, (str s1)), (5, (Value.slice sA1 (out1n + 1) sc1)), (6, (Value.int .i64 at1)), (8, (Value.int .i64 r3)), (39, (gv (decide (r2 = 1)) (Value.int .i64 r3))), (40, (gv (decide (r2 = 1)) (Value.bool (decide (16 < r3)))))]) ⟨rfl, rfl, rfl, rfl, rfl, rfl, trivial⟩ ?_
          refine c_region ?_
          refine s_q rfl rfl (y_move rfl (ev_tmp rfl rfl)) ?_
          refine s_q rfl rfl (y_move rfl (ev_tmp rfl rfl)) ?_
          obtain ⟨ho6, h⟩ := h
          refine s_q rfl rfl (y_int (y_add rfl (ev_tmp rfl rfl) (ev_tmp rfl rfl)) (wr_i64 ho6)) ?_
          refine s_q rfl rfl (y_assign rfl (ev_tmp rfl rfl)) ?_
          refine s_nil ?_
          refine k_next (e := [(0, (str s1)), (5, (Value.slice sA1 (out1n + 1) sc1)), (6, (Value.int .i64 (at1 + r3))), (39, (gv (decide (r2 = 1)) (Value.int .i64 r3))), (40, (gv (decide (r2 = 1)) (Value.bool (decide (16 < r3)))))]) ⟨rfl, rfl, rfl, rfl, rfl, trivial⟩ ?_
          refine c_region ?_
          refine s_q rfl rfl (y_move rfl (ev_tmp rfl rfl)) ?_
          refine s_q rfl rfl (y_move rfl (ev_tmp rfl rfl)) ?_
          refine s_q rfl rfl (y_move rfl (ev_tmp rfl rfl)) ?_
          obtain ⟨ho7, h⟩ := h
          refine s_q rfl rfl (y_slices_l rfl rfl Tryd.underlying9 (ev_tmp rfl rfl) (ev_tmp rfl rfl) ho7) ?_
          replace h := h m2 w5 hS7 hS6
          refine s_call rfl rfl (r_callF (vs := [(str (s1.drop (Int.toNat (at1 + r3))))]) rfl ok_19 ⟨(ev_tmp rfl rfl), trivial⟩) (Calls.mono h ?_)
          rintro _ w6 ⟨r4, rfl, hx4, h⟩
          refine ⟨_, rfl, ?_⟩
          have hS8 : Stp noM w0 m2 w6 := Stp.step hS6 hx4
          have hS9 : Stp m2 w5 m2 w6 := Stp.step (Stp.self hS6) hx4
          have hO4 := hO3.ext hx4
          obtain ⟨ho8, h⟩ := h
          refine s_q rfl rfl (y_int (y_add rfl (ev_tmp rfl rfl) (ev_tmp rfl rfl)) (wr_i64 ho8)) ?_
          refine s_q rfl rfl (y_assign rfl (ev_tmp rfl rfl)) ?_
          refine s_nil ?_
          exact k_loop (sA1, out1n + 1, sc1, outxs1 ++ [(Value.int .i64 r2), (Value.int .i64 at1), (str ((s1.drop (Int.toNat at1)).take (Int.toNat (at1 + r3) - Int.toNat at1)))], (at1 + r3) + r4, m2) ⟨rfl, rfl, rfl, trivial⟩ ⟨h.1, hS8, hO4⟩ h.2
    · replace h := hF hb
      clear hT hF
      refine c_exit ?_
      refine k_in ?_
      refine k_next (e := [(5, (Value.slice out1A out1n out1c))]) ⟨rfl, trivial⟩ ?_
      refine c_seq ?_
      refine c_region ?_
      refine s_q rfl rfl (y_move rfl (ev_tmp rfl rfl)) ?_
      refine s_q rfl rfl (y_assign rfl (ev_tmp rfl rfl)) ?_
      refine s_q rfl rfl (y_assign rfl ev_const) ?_
      refine s_q rfl rfl (y_assign rfl ev_const) ?_
      refine s_nil ?_
      refine k_next (e := [(2, (Value.slice out1A out1n out1c)), (3, (Value.int .i64 0)), (4, (Value.int .i64 0))]) ⟨rfl, rfl, rfl, trivial⟩ ?_
      refine c_ret ?_
      replace h := h hf2
      exact q_ret (vs := [(Value.slice out1A out1n out1c), (Value.int .i64 0), (Value.int .i64 0)]) Tryd.results9 ⟨ev_tmp rfl rfl, ⟨ev_tmp rfl rfl, ⟨ev_tmp rfl rfl, trivial⟩⟩⟩ h

/- 'brocade/brocaderef13.Tokenize': what is enough. -/
set_option maxRecDepth 100000 in
set_option maxHeartbeats 4000000 in
theorem vc10 (s1 : List UInt8) (w0 : World) (R : Value → World → Prop)
    (h : (((decide (65536 < (s1.length : Int))) = true → R (Value.tuple #[(Value.slice none 0 0), (Value.int .i64 0), (Value.int .i64 2)]) w0) ∧ ((decide (65536 < (s1.length : Int))) = false → Calls Tryd.prog 18 #[(str s1), (Value.int .i64 0)] w0 (fun e w1 => ∃ (r1 : Int), e = .returned (Value.int .i64 r1) ∧ Ext w0 w1 ∧ ∃ (inv1 : Option Addr → Nat → Nat → List Value → Int → (Nat → Prop) → World → Prop) (mu1 : Option Addr → Nat → Nat → List Value → Int → Nat), inv1 none 0 0 ([]) r1 noM w1 ∧ (∀ (out1A : Option Addr) (out1n : Nat) (out1c : Nat) (outxs1 : List Value) (at1 : Int) (m1 : Nat → Prop) (w2 : World), Stp noM w0 m1 w2 → inv1 out1A out1n out1c outxs1 at1 m1 w2 → (((decide (at1 < (s1.length : Int))) = true → ((0 : Int) ≤ at1 ∧ at1 ≤ (s1.length : Int)) ∧ Calls Tryd.prog 21 #[(str (s1.drop (Int.toNat at1)))] w2 (fun e w3 => ∃ (r2 : Int) (r3 : Int), e = .returned (Value.tuple #[(Value.int .i64 r2), (Value.int .i64 r3)]) ∧ Ext w2 w3 ∧ ∃ j1 : Int → Int → (Nat → Prop) → World → Prop, ((((decide (r2 = 0)) = true → ((0 : Int) ≤ at1 ∧ at1 ≤ (s1.length : Int)) ∧ Calls Tryd.prog 22 #[(str (s1.drop (Int.toNat at1)))] w3 (fun e w8 => ∃ (r5 : Int), e = .returned (Value.int .i64 r5) ∧ Ext w3 w8 ∧ j1 r5 3 m1 w8)) ∧ ((decide (r2 = 0)) = false → j1 r2 r3 m1 w3))) ∧ (∀ (n1 : Int) (kind1 : Int) (m2 : Nat → Prop) (w4 : World), j1 n1 kind1 m2 w4 → (((decide (n1 = 0)) = true → R (Value.tuple #[(Value.slice none 0 0), (Value.int .i64 at1), (Value.int .i64 5)]) w4) ∧ ((decide (n1 = 0)) = false → ((((decide (kind1 = 1)) && (decide (16 < n1))) = true → R (Value.tuple #[(Value.slice none 0 0), (Value.int .i64 at1), (Value.int .i64 2)]) w4) ∧ (((decide (kind1 = 1)) && (decide (16 < n1))) = false → (R64 (at1 + n1)) ∧ ((0 : Int) ≤ at1 ∧ at1 ≤ at1 + n1 ∧ at1 + n1 ≤ (s1.length : Int)) ∧ ((out1n + 1) * 32 ≤ 140737488355328) ∧ (out1n + 1 ≤ 140737488355328) ∧ ∀ (sA1 : Option Addr) (sc1 : Nat), (R64 (at1 + n1)) ∧ ∀ (m3 : Nat → Prop) (w6 : World), Stp m2 w4 m3 w6 → Stp noM w0 m3 w6 → Calls Tryd.prog 18 #[(str s1), (Value.int .i64 (at1 + n1))] w6 (fun e w7 => ∃ (r4 : Int), e = .returned (Value.int .i64 r4) ∧ Ext w6 w7 ∧ (inv1 sA1 (out1n + 1) sc1 (outxs1 ++ [(Value.int .i64 kind1), (Value.int .i64 at1), (str ((s1.drop (Int.toNat at1)).take (Int.toNat (at1 + n1) - Int.toNat at1)))]) r4 m3 w7 ∧ mu1 sA1 (out1n + 1) sc1 (outxs1 ++ [(Value.int .i64 kind1), (Value.int .i64 at1), (str ((s1.drop (Int.toNat at1)).take (Int.toNat (at1 + n1) - Int.toNat at1)))]) r4 < mu1 out1A out1n out1c outxs1 at1))))))))) ∧ ((decide (at1 < (s1.length : Int))) = false → ∀ (_ : Own m1 w2 30 3 out1A out1n out1c outxs1), R (Value.tuple #[(Value.slice out1A out1n out1c), (Value.int .i64 0), (Value.int .i64 0)]) w2))))))) :
    Calls Tryd.prog 10 #[(str s1)] w0 fun e w' => ∃ v, e = .returned v ∧ R v w' := by
  refine enter (l := [(str s1)]) Tryd.func10 rfl Tryd.ntmps10 rfl ?_
  refine c_seq ?_
  refine c_region ?_
  refine s_q rfl rfl (y_assign rfl ev_const) ?_
  refine s_q rfl rfl (y_assign rfl ev_const) ?_
  refine s_q rfl rfl (y_assign rfl ev_const) ?_
  refine s_nil ?_
  refine k_next (e := [(0, (str s1))]) ⟨rfl, trivial⟩ ?_
  refine c_seq ?_
  refine c_seq ?_
  refine c_region ?_
  refine s_q rfl rfl (y_move rfl (ev_tmp rfl rfl)) ?_
  refine s_q rfl rfl (y_lens rfl Tryd.underlying9 (ev_tmp rfl rfl)) ?_
  refine s_q rfl rfl (y_gtr rfl (ev_tmp rfl rfl) ev_const) ?_
  refine s_nil ?_
  refine k_next (e := [(0, (str s1)), (11, (Value.bool (decide (65536 < (s1.length : Int)))))]) ⟨rfl, rfl, trivial⟩ ?_
  refine c_cond (b := decide (65536 < (s1.length : Int))) (ev_tmp rfl rfl) (fun hb => ?_) (fun hb => ?_)
  all_goals obtain ⟨hT, hF⟩ := h
  · replace h := hT hb
    clear hT hF
    refine c_seq ?_
    refine c_region ?_
    refine s_q rfl rfl (y_assign rfl ev_const) ?_
    refine s_q rfl rfl (y_assign rfl ev_const) ?_
    refine s_q rfl rfl (y_assign rfl ev_const) ?_
    refine s_nil ?_
    refine k_next (e := [(2, (Value.slice none 0 0)), (3, (Value.int .i64 0)), (4, (Value.int .i64 2))]) ⟨rfl, rfl, rfl, trivial⟩ ?_
    refine c_ret ?_
    exact q_ret (vs := [(Value.slice none 0 0), (Value.int .i64 0), (Value.int .i64 2)]) Tryd.results10 ⟨ev_tmp rfl rfl, ⟨ev_tmp rfl rfl, ⟨ev_tmp rfl rfl, trivial⟩⟩⟩ h
  · replace h := hF hb
    clear hT hF
    refine c_skip ?_
    refine k_next (e := [(0, (str s1))]) ⟨rfl, trivial⟩ ?_
    refine c_seq ?_
    refine c_region ?_
    refine s_q rfl rfl (y_assign rfl ev_const) ?_
    refine s_nil ?_
    refine k_next (e := [(0, (str s1)), (5, (Value.slice none 0 0))]) ⟨rfl, rfl, trivial⟩ ?_
    refine c_seq ?_
    refine c_seq ?_
    refine c_region ?_
    refine s_q rfl rfl (y_move rfl (ev_tmp rfl rfl)) ?_
    refine s_call rfl rfl (r_callF (vs := [(str s1), (Value.int .i64 0)]) rfl ok_18 ⟨(ev_tmp rfl rfl), ⟨ev_const, trivial⟩⟩) (Calls.mono h ?_)
    rintro _ w1 ⟨r1, rfl, hx1, h⟩
    refine ⟨_, rfl, ?_⟩
    have hS1 : Stp noM w0 noM w1 := Stp.step Stp.start hx1
    refine s_q rfl rfl (y_assign rfl (ev_tmp rfl rfl)) ?_
    refine s_nil ?_
    refine k_next (e := [(0, (str s1)), (5, (Value.slice none 0 0)), (6, (Value.int .i64 r1))]) ⟨rfl, rfl, rfl, trivial⟩ ?_
    refine c_block ?_
    obtain ⟨inv1, mu1, h0, h⟩ := h
    refine c_loop (α := Option Addr × Nat × Nat × List Value × Int × (Nat → Prop)) (fun x => fun w2 => inv1 (x.1) (x.2.1) (x.2.2.1) (x.2.2.2.1) (x.2.2.2.2.1) (x.2.2.2.2.2) w2 ∧ (Stp noM w0 x.2.2.2.2.2 w2) ∧ (Own x.2.2.2.2.2 w2 30 3 x.1 x.2.1 x.2.2.1 x.2.2.2.1)) (fun x => fun w2 => mu1 (x.1) (x.2.1) (x.2.2.1) (x.2.2.2.1) (x.2.2.2.2.1)) (fun x => [(0, (str s1)), (5, (Value.slice x.1 x.2.1 x.2.2.1)), (6, (Value.int .i64 x.2.2.2.2.1))]) (none, 0, 0, [], r1, noM) ⟨h0, hS1, Own.nil⟩ ⟨rfl, rfl, rfl, trivial⟩ ?_
    clear h0
    rintro ⟨out1A, out1n, out1c, outxs1, at1, m1⟩ w2 ⟨hI1, hf1, hf2⟩
    have hf1 : Stp noM w0 m1 w2 := hf1
    have hf2 : Own m1 w2 30 3 out1A out1n out1c outxs1 := hf2
    replace h := h out1A out1n out1c outxs1 at1 m1 w2 hf1 hI1
    refine c_sub (e := [(0, (str s1)), (5, (Value.slice out1A out1n out1c)), (6, (Value.int .i64 at1))]) ⟨rfl, rfl, rfl, trivial⟩ ?_
    refine c_seq ?_
    refine c_seq ?_
    refine c_region ?_
    refine s_q rfl rfl (y_move rfl (ev_tmp rfl rfl)) ?_
    refine s_q rfl rfl (y_move rfl (ev_tmp rfl rfl)) ?_
    refine s_q rfl rfl (y_lens rfl Tryd.underlying9 (ev_tmp rfl rfl)) ?_
    refine s_q rfl rfl (y_lss rfl (ev_tmp rfl rfl) (ev_tmp rfl rfl)) ?_
    refine s_nil ?_
    refine k_next (e := [(0, (str s1)), (5, (Value.slice out1A out1n out1c)), (6, (Value.int .i64 at1)), (17, (Value.bool (decide (at1 < (s1.length : Int)))))]) ⟨rfl, rfl, rfl, rfl, trivial⟩ ?_
    refine c_cond (b := decide (at1 < (s1.length : Int))) (ev_tmp rfl rfl) (fun hb => ?_) (fun hb => ?_)
    all_goals obtain ⟨hT, hF⟩ := h
    · replace h := hT hb
      clear hT hF
      refine c_skip ?_
      refine k_next (e := [(0, (str s1)), (5, (Value.slice out1A out1n out1c)), (6, (Value.int .i64 at1))]) ⟨rfl, rfl, rfl, trivial⟩ ?_
      refine c_seq ?_
      refine c_block ?_
      refine c_seq ?_
      refine c_region ?_
      refine s_q rfl rfl (y_move rfl (ev_tmp rfl rfl)) ?_
      refine s_q rfl rfl (y_move rfl (ev_tmp rfl rfl)) ?_
      obtain ⟨ho1, h⟩ := h
      refine s_q rfl rfl (y_slices_l rfl rfl Tryd.underlying9 (ev_tmp rfl rfl) (ev_tmp rfl rfl) ho1) ?_
      refine s_call rfl rfl (r_callF (vs := [(str (s1.drop (Int.toNat at1)))]) rfl ok_21 ⟨(ev_tmp rfl rfl), trivial⟩) (Calls.mono h ?_)
      rintro _ w3 ⟨r2, r3, rfl, hx2, h⟩
      refine ⟨_, rfl, ?_⟩
      have hS2 : Stp noM w0 m1 w3 := Stp.step hf1 hx2
      have hS3 : Stp m1 w2 m1 w3 := Stp.step (Stp.self hf1) hx2
      have hO1 := hf2.ext hx2
      refine s_q rfl rfl (y_move rfl (ev_tmp rfl rfl)) ?_
      refine s_q rfl rfl (y_extract rfl (ev_tmp rfl rfl) rfl) ?_
      refine s_q rfl rfl (y_extract rfl (ev_tmp rfl rfl) rfl) ?_
      refine s_q rfl rfl (y_assign rfl (ev_tmp rfl rfl)) ?_
      refine s_q rfl rfl (y_assign rfl (ev_tmp rfl rfl)) ?_
      refine s_nil ?_
      refine k_next (e := [(0, (str s1)), (5, (Value.slice out1A out1n out1c)), (6, (Value.int .i64 at1)), (7, (Value.int .i64 r2)), (8, (Value.int .i64 r3))]) ⟨rfl, rfl, rfl, rfl, rfl, trivial⟩ ?_
      obtain ⟨j1, hX, hY⟩ := h
      refine c_join (α := Int × Int × (Nat → Prop)) (fun x => [(0, (str s1)), (5, (Value.slice out1A out1n out1c)), (6, (Value.int .i64 at1)), (7, (Value.int .i64 x.1)), (8, (Value.int .i64 x.2.1))]) (fun x => fun w4 => j1 (x.1) (x.2.1) (x.2.2) w4 ∧ (Stp noM w0 x.2.2 w4) ∧ (Own x.2.2 w4 30 3 out1A out1n out1c outxs1)) ?_ ?_
      · clear hX; rintro ⟨n1, kind1, m2⟩ w4 ⟨hj1, hf3, hf4⟩
        have h := hY n1 kind1 m2 w4 hj1
        clear hY
        have hf3 : Stp noM w0 m2 w4 := hf3
        have hf4 : Own m2 w4 30 3 out1A out1n out1c outxs1 := hf4
        refine c_sub (e := [(0, (str s1)), (5, (Value.slice out1A out1n out1c)), (6, (Value.int .i64 at1)), (7, (Value.int .i64 n1)), (8, (Value.int .i64 kind1))]) ⟨rfl, rfl, rfl, rfl, rfl, trivial⟩ ?_
        refine c_seq ?_
        refine c_seq ?_
        refine c_region ?_
        refine s_q rfl rfl (y_move rfl (ev_tmp rfl rfl)) ?_
        refine s_q rfl rfl (y_eql rfl (ev_tmp rfl rfl) ev_const) ?_
        refine s_nil ?_
        refine k_next (e := [(0, (str s1)), (5, (Value.slice out1A out1n out1c)), (6, (Value.int .i64 at1)), (7, (Value.int .i64 n1)), (8, (Value.int .i64 kind1)), (35, (Value.bool (decide (n1 = 0))))]) ⟨rfl, rfl, rfl, rfl, rfl, rfl, trivial⟩ ?_
        refine c_cond (b := decide (n1 = 0)) (ev_tmp rfl rfl) (fun hb => ?_) (fun hb => ?_)
        all_goals obtain ⟨hT, hF⟩ := h
        · replace h := hT hb
          clear hT hF
          refine c_seq ?_
          refine c_region ?_
          refine s_q rfl rfl (y_move rfl (ev_tmp rfl rfl)) ?_
          refine s_q rfl rfl (y_assign rfl ev_const) ?_
          refine s_q rfl rfl (y_assign rfl (ev_tmp rfl rfl)) ?_
          refine s_q rfl rfl (y_assign rfl ev_const) ?_
          refine s_nil ?_
          refine k_next (e := [(2, (Value.slice none 0 0)), (3, (Value.int .i64 at1)), (4, (Value.int .i64 5))]) ⟨rfl, rfl, rfl, trivial⟩ ?_
          refine c_ret ?_
          exact q_ret (vs := [(Value.slice none 0 0), (Value.int .i64 at1), (Value.int .i64 5)]) Tryd.results10 ⟨ev_tmp rfl rfl, ⟨ev_tmp rfl rfl, ⟨ev_tmp rfl rfl, trivial⟩⟩⟩ h
        · replace h := hF hb
          clear hT hF
          refine c_skip ?_
          refine k_next (e := [(0, (str s1)), (5, (Value.slice out1A out1n out1c)), (6, (Value.int .i64 at1)), (7, (Value.int .i64 n1)), (8, (Value.int .i64 kind1))]) ⟨rfl, rfl, rfl, rfl, rfl, trivial⟩ ?_
          refine c_seq ?_
          refine c_seq ?_
          refine c_region ?_
          refine s_q rfl rfl (y_move rfl (ev_tmp rfl rfl)) ?_
          refine s_q rfl rfl (y_eql rfl (ev_tmp rfl rfl) ev_const) ?_
          refine s_q rfl rfl (y_move rfl (ev_tmp rfl rfl)) ?_
          refine s_gval (g_true rfl rfl rfl rfl) rfl (fun hc => (y_move rfl (ev_tmp rfl rfl))) ?_
          refine s_gval (g_true rfl rfl rfl rfl) rfl (fun hc => (y_gtr rfl (ev_gv (ev_tmp rfl rfl) hc) ev_const)) ?_
          refine s_q rfl rfl (y_and rfl (ev_tmp rfl rfl) (ev_tmp rfl rfl)) ?_
          refine s_nil ?_
          refine k_next (e := [(0, (str s1)), (5, (Value.slice out1A out1n out1c)), (6, (Value.int .i64 at1)), (7, (Value.int .i64 n1)), (8, (Value.int .i64 kind1)), (40, (gv (decide (kind1 = 1)) (Value.int .i64 n1))), (41, (gv (decide (kind1 = 1)) (Value.bool (decide (16 < n1))))), (42, (Value.bool ((decide (kind1 = 1)) && (decide (16 < n1)))))]) ⟨rfl, rfl, rfl, rfl, rfl, rfl, rfl, rfl, trivial⟩ ?_
          refine c_cond (b := (decide (kind1 = 1)) && (decide (16 < n1))) (ev_tmp rfl rfl) (fun hb => ?_) (fun hb => ?_)
          all_goals obtain ⟨hT, hF⟩ := h
          · replace h := hT hb
            clear hT hF
            refine c_seq ?_
            refine c_region ?_
            refine s_q rfl rfl (y_move rfl (ev_tmp rfl rfl)) ?_
            refine s_q rfl rfl (y_assign rfl ev_const) ?_
            refine s_q rfl rfl (y_assign rfl (ev_tmp rfl rfl)) ?_
            refine s_q rfl rfl (y_assign rfl ev_const) ?_
            refine s_nil ?_
            refine k_next (e := [(2, (Value.slice none 0 0)), (3, (Value.int .i64 at1)), (4, (Value.int .i64 2))]) ⟨rfl, rfl, rfl, trivial⟩ ?_
            refine c_ret ?_
            exact q_ret (vs := [(Value.slice none 0 0), (Value.int .i64 at1), (Value.int .i64 2)]) Tryd.results10 ⟨ev_tmp rfl rfl, ⟨ev_tmp rfl rfl, ⟨ev_tmp rfl rfl, trivial⟩⟩⟩ h
          · replace h := hF hb
            clear hT hF
            refine c_skip ?_
            refine k_next (e := [(0, (str s1)), (5, (Value.slice out1A out1n out1c)), (6, (Value.int .i64 at1)), (7, (Value.int .i64 n1)), (8, (Value.int .i64 kind1)), (40, (gv (decide (kind1 = 1)) (Value.int .i64 n1))), (41, (gv (decide (kind1 = 1)) (Value.bool (decide (16 < n1)))))]) ⟨rfl, rfl, rfl, rfl, rfl, rfl, rfl, trivial⟩ ?_
            refine c_seq ?_
            refine c_region ?_
            refine s_q rfl rfl (y_move rfl (ev_tmp rfl rfl)) ?_
            refine s_q rfl rfl (y_move rfl (ev_tmp rfl rfl)) ?_
            refine s_q rfl rfl (y_move rfl (ev_tmp rfl rfl)) ?_
            refine s_q rfl rfl (y_move rfl (ev_tmp rfl rfl)) ?_
            refine s_q rfl rfl (y_move rfl (ev_tmp rfl rfl)) ?_
            refine s_q rfl rfl (y_move rfl (ev_tmp rfl rfl)) ?_
            refine s_q rfl rfl (y_move rfl (ev_tmp rfl rfl)) ?_
            obtain ⟨ho2, h⟩ := h
            refine s_q rfl rfl (y_int (y_add rfl (ev_tmp rfl rfl) (ev_tmp rfl rfl)) (wr_i64 ho2)) ?_
            obtain ⟨ho3, h⟩ := h
            refine s_q rfl rfl (y_slices_lh rfl rfl Tryd.underlying9 (ev_tmp rfl rfl) (ev_tmp rfl rfl) (ev_tmp rfl rfl) ho3) ?_
            refine s_q rfl rfl (y_build (vs := [(0, (Value.int .i64 kind1)), (1, (Value.int .i64 at1)), (2, (str ((s1.drop (Int.toNat at1)).take (Int.toNat (at1 + n1) - Int.toNat at1))))]) (cs := #[(Value.int .i64 kind1), (Value.int .i64 at1), (str ((s1.drop (Int.toNat at1)).take (Int.toNat (at1 + n1) - Int.toNat at1)))]) rfl ⟨rfl, (ev_tmp rfl rfl), ⟨rfl, (ev_tmp rfl rfl), ⟨rfl, (ev_tmp rfl rfl), trivial⟩⟩⟩ (by kernel_rfl)) ?_
            refine s_buildSlice (vs := [(0, (Value.agg #[(Value.int .i64 kind1), (Value.int .i64 at1), (str ((s1.drop (Int.toNat at1)).take (Int.toNat (at1 + n1) - Int.toNat at1)))]))]) (cs := #[(Value.int .i64 kind1), (Value.int .i64 at1), (str ((s1.drop (Int.toNat at1)).take (Int.toNat (at1 + n1) - Int.toNat at1)))]) rfl rfl rfl Tryd.underlying23 info_30 rfl ⟨rfl, (ev_tmp rfl rfl), trivial⟩ (by kernel_rfl) ?_
            intro b1 w5 hb1 hs1 hx3 hB1
            have hd1 : bOf out1A ≠ some b1 := dis_new (Own.lt hf4) hb1
            have hS4 : Stp noM w0 m2 w5 := Stp.step hf3 hx3
            have hS5 : Stp m2 w4 m2 w5 := Stp.step (Stp.self hf3) hx3
            have hO2 := hf4.ext hx3
            obtain ⟨ho4, h⟩ := h
            obtain ⟨ho5, h⟩ := h
            refine s_append (M := m2) (size := 3) (bytes := 32) (news := [(Value.int .i64 kind1), (Value.int .i64 at1), (str ((s1.drop (Int.toNat at1)).take (Int.toNat (at1 + n1) - Int.toNat at1)))]) (k := 1) (xs := outxs1) rfl rfl rfl Tryd.underlying23 info_30 (by decide) (ev_tmp rfl rfl) (ev_tmp rfl rfl) hO2 (CellsAt.of_blk hB1 rfl) rfl rfl ho4 ho5 ?_
            intro sA1 sc1 w6 m3 hg1 hat1 hM1 hO3 hst1
            replace h := h sA1 sc1
            have hS6 : Stp noM w0 m3 w6 := hst1 _ _ hS4
            have hS7 : Stp m2 w4 m3 w6 := hst1 _ _ hS5
            refine s_q rfl rfl (y_assign rfl (ev_tmp rfl rfl)) ?_
            refine s_nil ?_
            refine k_next (e := [(0, (str s1)), (5, (Value.slice sA1 (out1n + 1) sc1)), (6, (Value.int .i64 at1)), (7, (Value.int .i64 n1)), (40, (gv (decide (kind1 = 1)) (Value.int .i64 n1))), (41, (gv (decide (kind1 = 1)) (Value.bool (decide (16 < n1)))))]) ⟨rfl, rfl, rfl, rfl, rfl, rfl, trivial⟩ ?_
            refine c_region ?_
            refine s_q rfl rfl (y_move rfl (ev_tmp rfl rfl)) ?_
            refine s_q rfl rfl (y_move rfl (ev_tmp rfl rfl)) ?_
            obtain ⟨ho6, h⟩ := h
            refine s_q rfl rfl (y_int (y_add rfl (ev_tmp rfl rfl) (ev_tmp rfl rfl)) (wr_i64 ho6)) ?_
            refine s_q rfl rfl (y_assign rfl (ev_tmp rfl rfl)) ?_
            refine s_nil ?_
            refine k_next (e := [(0, (str s1)), (5, (Value.slice sA1 (out1n + 1) sc1)), (6, (Value.int .i64 (at1 + n1))), (40, (gv (decide (kind1 = 1)) (Value.int .i64 n1))), (41, (gv (decide (kind1 = 1)) (Value.bool (decide (16 < n1)))))]) ⟨rfl, rfl, rfl, rfl, rfl, trivial⟩ ?_
            refine c_region ?_
            refine s_q rfl rfl (y_move rfl (ev_tmp rfl rfl)) ?_
            refine s_q rfl rfl (y_move rfl (ev_tmp rfl rfl)) ?_
            replace h := h m3 w6 hS7 hS6
            refine s_call rfl rfl (r_callF (vs := [(str s1), (Value.int .i64 (at1 + n1))]) rfl ok_18 ⟨(ev_tmp rfl rfl), ⟨(ev_tmp rfl rfl), trivial⟩⟩) (Calls.mono h ?_)
            rintro _ w7 ⟨r4, rfl, hx4, h⟩
            refine ⟨_, rfl, ?_⟩
            have hS8 : Stp noM w0 m3 w7 := Stp.step hS6 hx4
            have hS9 : Stp m3 w6 m3 w7 := Stp.step (Stp.self hS6) hx4
            have hO4 := hO3.ext hx4
            refine s_q rfl rfl (y_assign rfl (ev_tmp rfl rfl)) ?_
            refine s_nil ?_
            exact k_loop (sA1, out1n + 1, sc1, outxs1 ++ [(Value.int .i64 kind1), (Value.int .i64 at1), (str ((s1.drop (Int.toNat at1)).take (Int.toNat (at1 + n1) - Int.toNat at1)))], r4, m3) ⟨rfl, rfl, rfl, trivial⟩ ⟨h.1, hS8, hO4⟩ h.2
      · have h := hX
        clear hX hY
        refine c_seq ?_
        refine c_region ?_
        refine s_q rfl rfl (y_move rfl (ev_tmp rfl rfl)) ?_
        refine s_q rfl rfl (y_eql rfl (ev_tmp rfl rfl) ev_const) ?_
        refine s_nil ?_
        refine k_next (e := [(0, (str s1)), (5, (Value.slice out1A out1n out1c)), (6, (Value.int .i64 at1)), (7, (Value.int .i64 r2)), (8, (Value.int .i64 r3)), (29, (Value.bool (decide (r2 = 0))))]) ⟨rfl, rfl, rfl, rfl, rfl, rfl, trivial⟩ ?_
        refine c_cond (b := decide (r2 = 0)) (ev_tmp rfl rfl) (fun hb => ?_) (fun hb => ?_)
        all_goals obtain ⟨hT, hF⟩ := h
        · replace h := hT hb
          clear hT hF
          refine c_region ?_
          refine s_q rfl rfl (y_move rfl (ev_tmp rfl rfl)) ?_
          refine s_q rfl rfl (y_move rfl (ev_tmp rfl rfl)) ?_
          obtain ⟨ho7, h⟩ := h
          refine s_q rfl rfl (y_slices_l rfl rfl Tryd.underlying9 (ev_tmp rfl rfl) (ev_tmp rfl rfl) ho7) ?_
          refine s_call rfl rfl (r_callF (vs := [(str (s1.drop (Int.toNat at1)))]) rfl ok_22 ⟨(ev_tmp rfl rfl), trivial⟩) (Calls.mono h ?_)
          rintro _ w8 ⟨r5, rfl, hx5, h⟩
          refine ⟨_, rfl, ?_⟩
          have hS10 : Stp noM w0 m1 w8 := Stp.step hS2 hx5
          have hS11 : Stp m1 w3 m1 w8 := Stp.step (Stp.self hS2) hx5
          have hO5 := hO1.ext hx5
          refine s_q rfl rfl (y_assign rfl (ev_tmp rfl rfl)) ?_
          refine s_q rfl rfl (y_assign rfl ev_const) ?_
          refine s_nil ?_
          exact k_join (r5, 3, m1) ⟨rfl, rfl, rfl, rfl, rfl, trivial⟩ ⟨h, hS10, hO5⟩
        · replace h := hF hb
          clear hT hF
          refine c_skip ?_
          exact k_join (r2, r3, m1) ⟨rfl, rfl, rfl, rfl, rfl, trivial⟩ ⟨h, hS2, hO1⟩
    · replace h := hF hb
      clear hT hF
      refine c_exit ?_
      refine k_in ?_
      refine k_next (e := [(5, (Value.slice out1A out1n out1c))]) ⟨rfl, trivial⟩ ?_
      refine c_seq ?_
      refine c_region ?_
      refine s_q rfl rfl (y_move rfl (ev_tmp rfl rfl)) ?_
      refine s_q rfl rfl (y_assign rfl (ev_tmp rfl rfl)) ?_
      refine s_q rfl rfl (y_assign rfl ev_const) ?_
      refine s_q rfl rfl (y_assign rfl ev_const) ?_
      refine s_nil ?_
      refine k_next (e := [(2, (Value.slice out1A out1n out1c)), (3, (Value.int .i64 0)), (4, (Value.int .i64 0))]) ⟨rfl, rfl, rfl, trivial⟩ ?_
      refine c_ret ?_
      replace h := h hf2
      exact q_ret (vs := [(Value.slice out1A out1n out1c), (Value.int .i64 0), (Value.int .i64 0)]) Tryd.results10 ⟨ev_tmp rfl rfl, ⟨ev_tmp rfl rfl, ⟨ev_tmp rfl rfl, trivial⟩⟩⟩ h

/- 'brocade/brocadelaw13.same': what is enough. -/
set_option maxRecDepth 100000 in
set_option maxHeartbeats 4000000 in
theorem vc11 (a1A : Option Addr) (a1n : Nat) (a1c : Nat) (b1A : Option Addr) (b1n : Nat) (b1c : Nat) (at1 : Bool) (w0 : World) (R : Value → World → Prop)
    (h : (((!decide ((a1n : Int) = (b1n : Int))) = true → R (Value.bool false) w0) ∧ ((!decide ((a1n : Int) = (b1n : Int))) = false → ∃ (inv1 : Int → World → Prop) (mu1 : Int → Nat), inv1 0 w0 ∧ (∀ (i1 : Int) (w1 : World), Ext w0 w1 → inv1 i1 w1 → (((decide (i1 < (a1n : Int))) = true → ((0 : Int) ≤ i1 ∧ i1 < (a1n : Int)) ∧ ∃ (ad1 : Addr), a1A = some ad1 ∧ ∀ (w2 : World), Ext w1 w2 → ∃ (exa1 : Int) (exb1 : Int) (exc1 : List UInt8), CellsAt w2 (ad1.add (Int.toNat i1 * 3)) [(Value.int .i64 exa1), (Value.int .i64 exb1), (str exc1)] ∧ ((0 : Int) ≤ i1 ∧ i1 < (b1n : Int)) ∧ ∃ (ad2 : Addr), b1A = some ad2 ∧ ∃ (exa2 : Int) (exb2 : Int) (exc2 : List UInt8), CellsAt w2 (ad2.add (Int.toNat i1 * 3)) [(Value.int .i64 exa2), (Value.int .i64 exb2), (str exc2)] ∧ ((!(!decide (exa1 = exa2))) = true → (0 : Int) ≤ i1 ∧ i1 < (a1n : Int)) ∧ ((!(!decide (exa1 = exa2))) = true → (0 : Int) ≤ i1 ∧ i1 < (b1n : Int)) ∧ (((!((!decide (exa1 = exa2)) || (!decide (exc1 = exc2)))) && at1) = true → (0 : Int) ≤ i1 ∧ i1 < (a1n : Int)) ∧ (((!((!decide (exa1 = exa2)) || (!decide (exc1 = exc2)))) && at1) = true → (0 : Int) ≤ i1 ∧ i1 < (b1n : Int)) ∧ (((((!decide (exa1 = exa2)) || (!decide (exc1 = exc2))) || (at1 && (!decide (exb1 = exb2)))) = true → R (Value.bool false) w2) ∧ ((((!decide (exa1 = exa2)) || (!decide (exc1 = exc2))) || (at1 && (!decide (exb1 = exb2)))) = false → (R64 (i1 + 1)) ∧ (inv1 (i1 + 1) w2 ∧ mu1 (i1 + 1) < mu1 i1)))) ∧ ((decide (i1 < (a1n : Int))) = false → R (Value.bool true) w1)))))) :
    Calls Tryd.prog 11 #[(Value.slice a1A a1n a1c), (Value.slice b1A b1n b1c), (Value.bool at1)] w0 fun e w' => ∃ v, e = .returned v ∧ R v w' := by
  refine enter (l := [(Value.slice a1A a1n a1c), (Value.slice b1A b1n b1c), (Value.bool at1)]) Tryd.func11 rfl Tryd.ntmps11 rfl ?_
  refine c_seq ?_
  refine c_region ?_
  refine s_q rfl rfl (y_assign rfl ev_const) ?_
  refine s_nil ?_
  refine k_next (e := [(0, (Value.slice a1A a1n a1c)), (1, (Value.slice b1A b1n b1c)), (2, (Value.bool at1))]) ⟨rfl, rfl, rfl, trivial⟩ ?_
  refine c_seq ?_
  refine c_seq ?_
  refine c_region ?_
  refine s_q rfl rfl (y_move rfl (ev_tmp rfl rfl)) ?_
  refine s_q rfl rfl (y_lenl rfl Tryd.underlying23 (ev_tmp rfl rfl)) ?_
  refine s_q rfl rfl (y_move rfl (ev_tmp rfl rfl)) ?_
  refine s_q rfl rfl (y_lenl rfl Tryd.underlying23 (ev_tmp rfl rfl)) ?_
  refine s_q rfl rfl (y_neq rfl (ev_tmp rfl rfl) (ev_tmp rfl rfl)) ?_
  refine s_nil ?_
  refine k_next (e := [(0, (Value.slice a1A a1n a1c)), (1, (Value.slice b1A b1n b1c)), (2, (Value.bool at1)), (12, (Value.bool (!decide ((a1n : Int) = (b1n : Int)))))]) ⟨rfl, rfl, rfl, rfl, trivial⟩ ?_
  refine c_cond (b := !decide ((a1n : Int) = (b1n : Int))) (ev_tmp rfl rfl) (fun hb => ?_) (fun hb => ?_)
  all_goals obtain ⟨hT, hF⟩ := h
  · replace h := hT hb
    clear hT hF
    refine c_seq ?_
    refine c_region ?_
    refine s_q rfl rfl (y_assign rfl ev_const) ?_
    refine s_nil ?_
    refine k_next (e := [(6, (Value.bool false))]) ⟨rfl, trivial⟩ ?_
    refine c_ret ?_
    exact q_ret (vs := [(Value.bool false)]) Tryd.results11 ⟨ev_tmp rfl rfl, trivial⟩ h
  · replace h := hF hb
    clear hT hF
    refine c_skip ?_
    refine k_next (e := [(0, (Value.slice a1A a1n a1c)), (1, (Value.slice b1A b1n b1c)), (2, (Value.bool at1))]) ⟨rfl, rfl, rfl, trivial⟩ ?_
    refine c_seq ?_
    refine c_seq ?_
    refine c_region ?_
    refine s_q rfl rfl (y_assign rfl ev_const) ?_
    refine s_nil ?_
    refine k_next (e := [(0, (Value.slice a1A a1n a1c)), (1, (Value.slice b1A b1n b1c)), (2, (Value.bool at1)), (7, (Value.int .i64 0))]) ⟨rfl, rfl, rfl, rfl, trivial⟩ ?_
    refine c_block ?_
    obtain ⟨inv1, mu1, h0, h⟩ := h
    refine c_loop (α := Int) (fun x => fun w1 => inv1 (x) w1 ∧ (Ext w0 w1)) (fun x => fun w1 => mu1 (x)) (fun x => [(0, (Value.slice a1A a1n a1c)), (1, (Value.slice b1A b1n b1c)), (2, (Value.bool at1)), (7, (Value.int .i64 x))]) 0 ⟨h0, (Stp.ext0 Stp.start)⟩ ⟨rfl, rfl, rfl, rfl, trivial⟩ ?_
    clear h0
    rintro i1 w1 ⟨hI1, hf1⟩
    have hf1 : Ext w0 w1 := hf1
    have hS1 : Stp noM w0 noM w1 := (Stp.step Stp.start hf1)
    replace h := h i1 w1 hf1 hI1
    refine c_sub (e := [(0, (Value.slice a1A a1n a1c)), (1, (Value.slice b1A b1n b1c)), (2, (Value.bool at1)), (7, (Value.int .i64 i1))]) ⟨rfl, rfl, rfl, rfl, trivial⟩ ?_
    refine c_seq ?_
    refine c_seq ?_
    refine c_region ?_
    refine s_q rfl rfl (y_move rfl (ev_tmp rfl rfl)) ?_
    refine s_q rfl rfl (y_move rfl (ev_tmp rfl rfl)) ?_
    refine s_q rfl rfl (y_lenl rfl Tryd.underlying23 (ev_tmp rfl rfl)) ?_
    refine s_q rfl rfl (y_lss rfl (ev_tmp rfl rfl) (ev_tmp rfl rfl)) ?_
    refine s_nil ?_
    refine k_next (e := [(0, (Value.slice a1A a1n a1c)), (1, (Value.slice b1A b1n b1c)), (2, (Value.bool at1)), (7, (Value.int .i64 i1)), (16, (Value.bool (decide (i1 < (a1n : Int)))))]) ⟨rfl, rfl, rfl, rfl, rfl, trivial⟩ ?_
    refine c_cond (b := decide (i1 < (a1n : Int))) (ev_tmp rfl rfl) (fun hb => ?_) (fun hb => ?_)
    all_goals obtain ⟨hT, hF⟩ := h
    · replace h := hT hb
      clear hT hF
      refine c_skip ?_
      refine k_next (e := [(0, (Value.slice a1A a1n a1c)), (1, (Value.slice b1A b1n b1c)), (2, (Value.bool at1)), (7, (Value.int .i64 i1))]) ⟨rfl, rfl, rfl, rfl, trivial⟩ ?_
      refine c_seq ?_
      refine c_block ?_
      refine c_seq ?_
      refine c_drawE [(0, true), (1, true), (2, true), (3, true), (4, true), (5, true), (6, true), (7, true), (8, true), (9, true), (10, true), (11, true), (12, true), (13, true), (14, true), (15, true), (16, true), (17, true), (18, true), (19, true), (20, true), (21, true), (22, true), (23, true), (24, true), (25, true), (26, true), (27, true), (28, true), (29, true), (30, true), (31, true), (32, true), (33, true), (34, true), (35, true), (36, true), (37, true), (38, true), (39, true)] (by kernel_rfl) (by kernel_rfl) ?_
      intro w2 hs1 hx1
      have hS2 : Stp noM w0 noM w2 := Stp.step hS1 hx1
      have hS3 : Stp noM w1 noM w2 := Stp.step (Stp.self hS1) hx1
      refine a_q rfl rfl rfl (fun w' hw' => (y_move rfl (ev_tmp rfl rfl))) ?_
      refine a_q rfl rfl rfl (fun w' hw' => (y_move rfl (ev_tmp rfl rfl))) ?_
      obtain ⟨ho1, h⟩ := h
      obtain ⟨ad1, hC1, h⟩ := h
      refine a_q rfl rfl rfl (fun w' hw' => (y_indexAddr rfl Tryd.underlying23 size_30 (ev_tmp rfl rfl) (ev_tmp rfl rfl) ho1 hC1)) ?_
      refine a_q rfl rfl rfl (fun w' hw' => (y_fieldAddr rfl (ev_tmp rfl rfl) Tryd.underlying30 rfl size_3 rfl)) ?_
      replace h := h w2 (Stp.ext0 hS3)
      obtain ⟨exa1, exb1, exc1, hC2, h⟩ := h
      refine a_q rfl rfl rfl (fun w' hw' => (y_load1 (v := (Value.int .i64 exa1)) rfl (ev_tmp rfl rfl) Tryd.underlying3 rfl (CellsAt.part (hC2.ext hw') rfl))) ?_
      refine a_q rfl rfl rfl (fun w' hw' => (y_move rfl (ev_tmp rfl rfl))) ?_
      refine a_q rfl rfl rfl (fun w' hw' => (y_move rfl (ev_tmp rfl rfl))) ?_
      obtain ⟨ho2, h⟩ := h
      obtain ⟨ad2, hC3, h⟩ := h
      refine a_q rfl rfl rfl (fun w' hw' => (y_indexAddr rfl Tryd.underlying23 size_30 (ev_tmp rfl rfl) (ev_tmp rfl rfl) ho2 hC3)) ?_
      refine a_q rfl rfl rfl (fun w' hw' => (y_fieldAddr rfl (ev_tmp rfl rfl) Tryd.underlying30 rfl size_3 rfl)) ?_
      obtain ⟨exa2, exb2, exc2, hC4, h⟩ := h
      refine a_q rfl rfl rfl (fun w' hw' => (y_load1 (v := (Value.int .i64 exa2)) rfl (ev_tmp rfl rfl) Tryd.underlying3 rfl (CellsAt.part (hC4.ext hw') rfl))) ?_
      refine a_q rfl rfl rfl (fun w' hw' => (y_neq rfl (ev_tmp rfl rfl) (ev_tmp rfl rfl))) ?_
      refine a_q rfl rfl rfl (fun w' hw' => (y_move rfl (ev_tmp rfl rfl))) ?_
      refine a_gval rfl (g_false rfl rfl rfl rfl) rfl (fun hc => fun w' hw' => (y_move rfl (ev_tmp rfl rfl))) ?_
      refine a_gval rfl (g_false rfl rfl rfl rfl) rfl (fun hc => fun w' hw' => (y_move rfl (ev_tmp rfl rfl))) ?_
      obtain ⟨ho3, h⟩ := h
      refine a_gval rfl (g_false rfl rfl rfl rfl) rfl (fun hc => fun w' hw' => (y_indexAddr rfl Tryd.underlying23 size_30 (ev_gv (ev_tmp rfl rfl) hc) (ev_gv (ev_tmp rfl rfl) hc) (ho3 hc) hC1)) ?_
      refine a_gval rfl (g_false rfl rfl rfl rfl) rfl (fun hc => fun w' hw' => (y_fieldAddr rfl (ev_gv (ev_tmp rfl rfl) hc) Tryd.underlying30 rfl size_9 rfl)) ?_
      refine a_gval rfl (g_false rfl rfl rfl rfl) rfl (fun hc => fun w' hw' => (y_load1 (v := (str exc1)) rfl (ev_gv (ev_tmp rfl rfl) hc) Tryd.underlying9 rfl (CellsAt.part (hC2.ext hw') rfl))) ?_
      refine a_gval rfl (g_false rfl rfl rfl rfl) rfl (fun hc => fun w' hw' => (y_move rfl (ev_tmp rfl rfl))) ?_
      refine a_gval rfl (g_false rfl rfl rfl rfl) rfl (fun hc => fun w' hw' => (y_move rfl (ev_tmp rfl rfl))) ?_
      obtain ⟨ho4, h⟩ := h
      refine a_gval rfl (g_false rfl rfl rfl rfl) rfl (fun hc => fun w' hw' => (y_indexAddr rfl Tryd.underlying23 size_30 (ev_gv (ev_tmp rfl rfl) hc) (ev_gv (ev_tmp rfl rfl) hc) (ho4 hc) hC3)) ?_
      refine a_gval rfl (g_false rfl rfl rfl rfl) rfl (fun hc => fun w' hw' => (y_fieldAddr rfl (ev_gv (ev_tmp rfl rfl) hc) Tryd.underlying30 rfl size_9 rfl)) ?_
      refine a_gval rfl (g_false rfl rfl rfl rfl) rfl (fun hc => fun w' hw' => (y_load1 (v := (str exc2)) rfl (ev_gv (ev_tmp rfl rfl) hc) Tryd.underlying9 rfl (CellsAt.part (hC4.ext hw') rfl))) ?_
      refine a_gval rfl (g_false rfl rfl rfl rfl) rfl (fun hc => fun w' hw' => (y_nes rfl (ev_gv (ev_tmp rfl rfl) hc) (ev_gv (ev_tmp rfl rfl) hc))) ?_
      refine a_q rfl rfl rfl (fun w' hw' => (y_or rfl (ev_tmp rfl rfl) (ev_tmp rfl rfl))) ?_
      refine a_q rfl rfl rfl (fun w' hw' => (y_move rfl (ev_tmp rfl rfl))) ?_
      refine a_gval rfl (g_false rfl rfl rfl rfl) rfl (fun hc => fun w' hw' => (y_move rfl (ev_tmp rfl rfl))) ?_
      refine a_gval rfl (g_false rfl rfl rfl rfl) rfl (fun hc => fun w' hw' => (y_move rfl (ev_gv (ev_tmp rfl rfl) hc))) ?_
      refine a_gval rfl (g_true2 rfl rfl rfl rfl) rfl (fun hc => fun w' hw' => (y_move rfl (ev_tmp rfl rfl))) ?_
      refine a_gval rfl (g_true2 rfl rfl rfl rfl) rfl (fun hc => fun w' hw' => (y_move rfl (ev_tmp rfl rfl))) ?_
      obtain ⟨ho5, h⟩ := h
      refine a_gval rfl (g_true2 rfl rfl rfl rfl) rfl (fun hc => fun w' hw' => (y_indexAddr rfl Tryd.underlying23 size_30 (ev_gv (ev_tmp rfl rfl) hc) (ev_gv (ev_tmp rfl rfl) hc) (ho5 hc) hC1)) ?_
      refine a_gval rfl (g_true2 rfl rfl rfl rfl) rfl (fun hc => fun w' hw' => (y_fieldAddr rfl (ev_gv (ev_tmp rfl rfl) hc) Tryd.underlying30 rfl size_3 rfl)) ?_
      refine a_gval rfl (g_true2 rfl rfl rfl rfl) rfl (fun hc => fun w' hw' => (y_load1 (v := (Value.int .i64 exb1)) rfl (ev_gv (ev_tmp rfl rfl) hc) Tryd.underlying3 rfl (CellsAt.part (hC2.ext hw') rfl))) ?_
      refine a_gval rfl (g_true2 rfl rfl rfl rfl) rfl (fun hc => fun w' hw' => (y_move rfl (ev_tmp rfl rfl))) ?_
      refine a_gval rfl (g_true2 rfl rfl rfl rfl) rfl (fun hc => fun w' hw' => (y_move rfl (ev_tmp rfl rfl))) ?_
      obtain ⟨ho6, h⟩ := h
      refine a_gval rfl (g_true2 rfl rfl rfl rfl) rfl (fun hc => fun w' hw' => (y_indexAddr rfl Tryd.underlying23 size_30 (ev_gv (ev_tmp rfl rfl) hc) (ev_gv (ev_tmp rfl rfl) hc) (ho6 hc) hC3)) ?_
      refine a_gval rfl (g_true2 rfl rfl rfl rfl) rfl (fun hc => fun w' hw' => (y_fieldAddr rfl (ev_gv (ev_tmp rfl rfl) hc) Tryd.underlying30 rfl size_3 rfl)) ?_
      refine a_gval rfl (g_true2 rfl rfl rfl rfl) rfl (fun hc => fun w' hw' => (y_load1 (v := (Value.int .i64 exb2)) rfl (ev_gv (ev_tmp rfl rfl) hc) Tryd.underlying3 rfl (CellsAt.part (hC4.ext hw') rfl))) ?_
      refine a_gval rfl (g_true2 rfl rfl rfl rfl) rfl (fun hc => fun w' hw' => (y_neq rfl (ev_gv (ev_tmp rfl rfl) hc) (ev_gv (ev_tmp rfl rfl) hc))) ?_
      refine a_gval rfl (g_false rfl rfl rfl rfl) rfl (fun hc => fun w' hw' => (y_and2 rfl hc (ev_tmp rfl rfl) (ev_tmp rfl rfl))) ?_
      refine a_q rfl rfl rfl (fun w' hw' => (y_or rfl (ev_tmp rfl rfl) (ev_tmp rfl rfl))) ?_
      refine a_nil ?_
      refine k_next (e := [(0, (Value.slice a1A a1n a1c)), (1, (Value.slice b1A b1n b1c)), (2, (Value.bool at1)), (7, (Value.int .i64 i1)), (31, (gv (!(!decide (exa1 = exa2))) (Value.slice a1A a1n a1c))), (32, (gv (!(!decide (exa1 = exa2))) (Value.int .i64 i1))), (33, (gv (!(!decide (exa1 = exa2))) (Value.pointer (some (ad1.add (Int.toNat i1 * 3)))))), (34, (gv (!(!decide (exa1 = exa2))) (Value.pointer (some ((ad1.add (Int.toNat i1 * 3)).add 2))))), (35, (gv (!(!decide (exa1 = exa2))) (str exc1))), (36, (gv (!(!decide (exa1 = exa2))) (Value.slice b1A b1n b1c))), (37, (gv (!(!decide (exa1 = exa2))) (Value.int .i64 i1))), (38, (gv (!(!decide (exa1 = exa2))) (Value.pointer (some (ad2.add (Int.toNat i1 * 3)))))), (39, (gv (!(!decide (exa1 = exa2))) (Value.pointer (some ((ad2.add (Int.toNat i1 * 3)).add 2))))), (40, (gv (!(!decide (exa1 = exa2))) (str exc2))), (41, (gv (!(!decide (exa1 = exa2))) (Value.bool (!decide (exc1 = exc2))))), (44, (gv (!((!decide (exa1 = exa2)) || (!decide (exc1 = exc2)))) (Value.bool at1))), (45, (gv (!((!decide (exa1 = exa2)) || (!decide (exc1 = exc2)))) (Value.bool at1))), (46, (gv ((!((!decide (exa1 = exa2)) || (!decide (exc1 = exc2)))) && at1) (Value.slice a1A a1n a1c))), (47, (gv ((!((!decide (exa1 = exa2)) || (!decide (exc1 = exc2)))) && at1) (Value.int .i64 i1))), (48, (gv ((!((!decide (exa1 = exa2)) || (!decide (exc1 = exc2)))) && at1) (Value.pointer (some (ad1.add (Int.toNat i1 * 3)))))), (49, (gv ((!((!decide (exa1 = exa2)) || (!decide (exc1 = exc2)))) && at1) (Value.pointer (some ((ad1.add (Int.toNat i1 * 3)).add 1))))), (50, (gv ((!((!decide (exa1 = exa2)) || (!decide (exc1 = exc2)))) && at1) (Value.int .i64 exb1))), (51, (gv ((!((!decide (exa1 = exa2)) || (!decide (exc1 = exc2)))) && at1) (Value.slice b1A b1n b1c))), (52, (gv ((!((!decide (exa1 = exa2)) || (!decide (exc1 = exc2)))) && at1) (Value.int .i64 i1))), (53, (gv ((!((!decide (exa1 = exa2)) || (!decide (exc1 = exc2)))) && at1) (Value.pointer (some (ad2.add (Int.toNat i1 * 3)))))), (54, (gv ((!((!decide (exa1 = exa2)) || (!decide (exc1 = exc2)))) && at1) (Value.pointer (some ((ad2.add (Int.toNat i1 * 3)).add 1))))), (55, (gv ((!((!decide (exa1 = exa2)) || (!decide (exc1 = exc2)))) && at1) (Value.int .i64 exb2))), (56, (gv ((!((!decide (exa1 = exa2)) || (!decide (exc1 = exc2)))) && at1) (Value.bool (!decide (exb1 = exb2))))), (57, (gv (!((!decide (exa1 = exa2)) || (!decide (exc1 = exc2)))) (Value.bool (at1 && (!decide (exb1 = exb2)))))), (58, (Value.bool (((!decide (exa1 = exa2)) || (!decide (exc1 = exc2))) || (at1 && (!decide (exb1 = exb2))))))]) ⟨rfl, rfl, rfl, rfl, rfl, rfl, rfl, rfl, rfl, rfl, rfl, rfl, rfl, rfl, rfl, rfl, rfl, rfl, rfl, rfl, rfl, rfl, rfl, rfl, rfl, rfl, rfl, rfl, rfl, rfl, trivial⟩ ?_
      refine c_cond (b := ((!decide (exa1 = exa2)) || (!decide (exc1 = exc2))) || (at1 && (!decide (exb1 = exb2)))) (ev_tmp rfl rfl) (fun hb => ?_) (fun hb => ?_)
      all_goals obtain ⟨hT, hF⟩ := h
      · replace h := hT hb
        clear hT hF
        refine c_seq ?_
        refine c_region ?_
        refine s_q rfl rfl (y_assign rfl ev_const) ?_
        refine s_nil ?_
        refine k_next (e := [(6, (Value.bool false))]) ⟨rfl, trivial⟩ ?_
        refine c_ret ?_
        exact q_ret (vs := [(Value.bool false)]) Tryd.results11 ⟨ev_tmp rfl rfl, trivial⟩ h
      · replace h := hF hb
        clear hT hF
        refine c_skip ?_
        refine k_next (e := [(0, (Value.slice a1A a1n a1c)), (1, (Value.slice b1A b1n b1c)), (2, (Value.bool at1)), (7, (Value.int .i64 i1)), (31, (gv (!(!decide (exa1 = exa2))) (Value.slice a1A a1n a1c))), (32, (gv (!(!decide (exa1 = exa2))) (Value.int .i64 i1))), (33, (gv (!(!decide (exa1 = exa2))) (Value.pointer (some (ad1.add (Int.toNat i1 * 3)))))), (34, (gv (!(!decide (exa1 = exa2))) (Value.pointer (some ((ad1.add (Int.toNat i1 * 3)).add 2))))), (35, (gv (!(!decide (exa1 = exa2))) (str exc1))), (36, (gv (!(!decide (exa1 = exa2))) (Value.slice b1A b1n b1c))), (37, (gv (!(!decide (exa1 = exa2))) (Value.int .i64 i1))), (38, (gv (!(!decide (exa1 = exa2))) (Value.pointer (some (ad2.add (Int.toNat i1 * 3)))))), (39, (gv (!(!decide (exa1 = exa2))) (Value.pointer (some ((ad2.add (Int.toNat i1 * 3)).add 2))))), (40, (gv (!(!decide (exa1 = exa2))) (str exc2))), (41, (gv (!(!decide (exa1 = exa2))) (Value.bool (!decide (exc1 = exc2))))), (44, (gv (!((!decide (exa1 = exa2)) || (!decide (exc1 = exc2)))) (Value.bool at1))), (45, (gv (!((!decide (exa1 = exa2)) || (!decide (exc1 = exc2)))) (Value.bool at1))), (46, (gv ((!((!decide (exa1 = exa2)) || (!decide (exc1 = exc2)))) && at1) (Value.slice a1A a1n a1c))), (47, (gv ((!((!decide (exa1 = exa2)) || (!decide (exc1 = exc2)))) && at1) (Value.int .i64 i1))), (48, (gv ((!((!decide (exa1 = exa2)) || (!decide (exc1 = exc2)))) && at1) (Value.pointer (some (ad1.add (Int.toNat i1 * 3)))))), (49, (gv ((!((!decide (exa1 = exa2)) || (!decide (exc1 = exc2)))) && at1) (Value.pointer (some ((ad1.add (Int.toNat i1 * 3)).add 1))))), (50, (gv ((!((!decide (exa1 = exa2)) || (!decide (exc1 = exc2)))) && at1) (Value.int .i64 exb1))), (51, (gv ((!((!decide (exa1 = exa2)) || (!decide (exc1 = exc2)))) && at1) (Value.slice b1A b1n b1c))), (52, (gv ((!((!decide (exa1 = exa2)) || (!decide (exc1 = exc2)))) && at1) (Value.int .i64 i1))), (53, (gv ((!((!decide (exa1 = exa2)) || (!decide (exc1 = exc2)))) && at1) (Value.pointer (some (ad2.add (Int.toNat i1 * 3)))))), (54, (gv ((!((!decide (exa1 = exa2)) || (!decide (exc1 = exc2)))) && at1) (Value.pointer (some ((ad2.add (Int.toNat i1 * 3)).add 1))))), (55, (gv ((!((!decide (exa1 = exa2)) || (!decide (exc1 = exc2)))) && at1) (Value.int .i64 exb2))), (56, (gv ((!((!decide (exa1 = exa2)) || (!decide (exc1 = exc2)))) && at1) (Value.bool (!decide (exb1 = exb2))))), (57, (gv (!((!decide (exa1 = exa2)) || (!decide (exc1 = exc2)))) (Value.bool (at1 && (!decide (exb1 = exb2))))))]) ⟨rfl, rfl, rfl, rfl, rfl, rfl, rfl, rfl, rfl, rfl, rfl, rfl, rfl, rfl, rfl, rfl, rfl, rfl, rfl, rfl, rfl, rfl, rfl, rfl, rfl, rfl, rfl, rfl, rfl, trivial⟩ ?_
        refine c_region ?_
        refine s_q rfl rfl (y_move rfl (ev_tmp rfl rfl)) ?_
        obtain ⟨ho7, h⟩ := h
        refine s_q rfl rfl (y_int (y_add rfl (ev_tmp rfl rfl) ev_const) (wr_i64 ho7)) ?_
        refine s_q rfl rfl (y_assign rfl (ev_tmp rfl rfl)) ?_
        refine s_nil ?_
        exact k_loop (i1 + 1) ⟨rfl, rfl, rfl, rfl, trivial⟩ ⟨h.1, (Stp.ext0 hS2)⟩ h.2
    · replace h := hF hb
      clear hT hF
      refine c_exit ?_
      refine k_in ?_
      refine k_next (e := []) trivial ?_
      refine c_seq ?_
      refine c_region ?_
      refine s_q rfl rfl (y_assign rfl ev_const) ?_
      refine s_nil ?_
      refine k_next (e := [(6, (Value.bool true))]) ⟨rfl, trivial⟩ ?_
      refine c_ret ?_
      exact q_ret (vs := [(Value.bool true)]) Tryd.results11 ⟨ev_tmp rfl rfl, trivial⟩ h

/- 'brocade/lexer.Join': what is enough. -/
set_option maxRecDepth 100000 in
set_option maxHeartbeats 4000000 in
theorem vc12 (l1A : Option Addr) (l1n : Nat) (l1c : Nat) (w0 : World) (R : Value → World → Prop)
    (h : ∀ (m1 : Nat → Prop) (w1 : World), Stp noM w0 m1 w1 → ∃ (inv1 : Int → List UInt8 → (Nat → Prop) → World → Prop) (mu1 : Int → List UInt8 → Nat), inv1 0 ([] : List UInt8) m1 w1 ∧ (∀ (t81 : Int) (bl1 : List UInt8) (m2 : Nat → Prop) (w2 : World), Stp noM w0 m2 w2 → inv1 t81 bl1 m2 w2 → (((decide (t81 < (l1n : Int))) = true → ((0 : Int) ≤ t81 ∧ t81 < (l1n : Int)) ∧ ∃ (ad1 : Addr), l1A = some ad1 ∧ ∃ (exa1 : Int) (exb1 : Int) (exc1 : List UInt8), CellsAt w2 (ad1.add (Int.toNat t81 * 3)) [(Value.int .i64 exa1), (Value.int .i64 exb1), (str exc1)] ∧ (((decide (0 < t81)) = true → (bl1.length + 1 ≤ 140737488355328) ∧ ((bl1 ++ [32]).length + exc1.length ≤ 140737488355328) ∧ (R64 (t81 + 1)) ∧ ∀ (m5 : Nat → Prop) (w6 : World), Stp m2 w2 m5 w6 → Stp noM w0 m5 w6 → (inv1 (t81 + 1) ((bl1 ++ [32]) ++ exc1) m5 w6 ∧ mu1 (t81 + 1) ((bl1 ++ [32]) ++ exc1) < mu1 t81 bl1)) ∧ ((decide (0 < t81)) = false → (bl1.length + exc1.length ≤ 140737488355328) ∧ (R64 (t81 + 1)) ∧ ∀ (m6 : Nat → Prop) (w7 : World), Stp m2 w2 m6 w7 → Stp noM w0 m6 w7 → (inv1 (t81 + 1) (bl1 ++ exc1) m6 w7 ∧ mu1 (t81 + 1) (bl1 ++ exc1) < mu1 t81 bl1)))) ∧ ((decide (t81 < (l1n : Int))) = false → ∀ (w8 : World), Ext w0 w8 → R (str bl1) w8)))) :
    Calls Tryd.prog 12 #[(Value.slice l1A l1n l1c)] w0 fun e w' => ∃ v, e = .returned v ∧ R v w' := by
  refine enter (l := [(Value.slice l1A l1n l1c)]) Tryd.func12 rfl Tryd.ntmps12 rfl ?_
  refine c_seq ?_
  refine c_region ?_
  refine s_q rfl rfl (y_assign rfl ev_const) ?_
  refine s_nil ?_
  refine k_next (e := [(0, (Value.slice l1A l1n l1c))]) ⟨rfl, trivial⟩ ?_
  refine c_seq ?_
  refine c_region ?_
  refine s_alloc (cs := #[(Value.pointer none), (Value.slice none 0 0)]) rfl rfl rfl zero_42 rfl ?_
  intro b1 w1 hb1 hs1 hx1 hB1
  obtain ⟨m1, hM1, hm1, hg1⟩ := grow_new noM b1
  have hS1 : Stp noM w0 m1 w1 := hg1 _ _ _ _ Stp.start hx1 hb1 hs1
  have hBd1 := Bd.new hm1 hB1
  refine s_nil ?_
  refine k_next (e := [(0, (Value.slice l1A l1n l1c)), (3, (Value.pointer (some ⟨b1, 0, none⟩)))]) ⟨rfl, rfl, trivial⟩ ?_
  refine c_seq ?_
  refine c_seq ?_
  refine c_region ?_
  refine s_q rfl rfl (y_move rfl (ev_tmp rfl rfl)) ?_
  refine s_q rfl rfl (y_lenl rfl Tryd.underlying23 (ev_tmp rfl rfl)) ?_
  refine s_q rfl rfl (y_move rfl ev_const) ?_
  refine s_nil ?_
  refine k_next (e := [(3, (Value.pointer (some ⟨b1, 0, none⟩))), (6, (Value.slice l1A l1n l1c)), (7, (Value.int .i64 (l1n : Int))), (8, (Value.int .i64 0))]) ⟨rfl, rfl, rfl, rfl, trivial⟩ ?_
  refine c_block ?_
  replace h := h m1 w1 hS1
  obtain ⟨inv1, mu1, h0, h⟩ := h
  refine c_loop (α := Int × List UInt8 × (Nat → Prop) × (Nat → Prop)) (fun x => fun w2 => inv1 (x.1) (x.2.1) (x.2.2.1) w2 ∧ (Stp noM w0 x.2.2.1 w2) ∧ (Bd x.2.2.1 x.2.2.2 w2 b1 x.2.1)) (fun x => fun w2 => mu1 (x.1) (x.2.1)) (fun x => [(3, (Value.pointer (some ⟨b1, 0, none⟩))), (6, (Value.slice l1A l1n l1c)), (7, (Value.int .i64 (l1n : Int))), (8, (Value.int .i64 x.1))]) (0, ([] : List UInt8), m1, (fun k => k = b1)) ⟨h0, hS1, hBd1⟩ ⟨rfl, rfl, rfl, rfl, trivial⟩ ?_
  clear h0
  rintro ⟨t81, bl1, m2, s1⟩ w2 ⟨hI1, hf1, hf2⟩
  have hf1 : Stp noM w0 m2 w2 := hf1
  have hf2 : Bd m2 s1 w2 b1 bl1 := hf2
  replace h := h t81 bl1 m2 w2 hf1 hI1
  refine c_sub (e := [(3, (Value.pointer (some ⟨b1, 0, none⟩))), (6, (Value.slice l1A l1n l1c)), (7, (Value.int .i64 (l1n : Int))), (8, (Value.int .i64 t81))]) ⟨rfl, rfl, rfl, rfl, trivial⟩ ?_
  refine c_seq ?_
  refine c_region ?_
  refine s_q rfl rfl (y_lss rfl (ev_tmp rfl rfl) (ev_tmp rfl rfl)) ?_
  refine s_nil ?_
  refine k_next (e := [(3, (Value.pointer (some ⟨b1, 0, none⟩))), (6, (Value.slice l1A l1n l1c)), (7, (Value.int .i64 (l1n : Int))), (8, (Value.int .i64 t81)), (9, (Value.bool (decide (t81 < (l1n : Int)))))]) ⟨rfl, rfl, rfl, rfl, rfl, trivial⟩ ?_
  refine c_seq ?_
  refine c_cond (b := decide (t81 < (l1n : Int))) (ev_tmp rfl rfl) (fun hb => ?_) (fun hb => ?_)
  all_goals obtain ⟨hT, hF⟩ := h
  · replace h := hT hb
    clear hT hF
    refine c_skip ?_
    refine k_next (e := [(3, (Value.pointer (some ⟨b1, 0, none⟩))), (6, (Value.slice l1A l1n l1c)), (7, (Value.int .i64 (l1n : Int))), (8, (Value.int .i64 t81))]) ⟨rfl, rfl, rfl, rfl, trivial⟩ ?_
    refine c_seq ?_
    refine c_block ?_
    refine c_seq ?_
    refine c_region ?_
    refine s_q rfl rfl (y_move rfl (ev_tmp rfl rfl)) ?_
    obtain ⟨ho1, h⟩ := h
    obtain ⟨ad1, hC1, h⟩ := h
    refine s_q rfl rfl (y_indexAddr rfl Tryd.underlying23 size_30 (ev_tmp rfl rfl) (ev_tmp rfl rfl) ho1 hC1) ?_
    obtain ⟨exa1, exb1, exc1, hC2, h⟩ := h
    refine s_q rfl rfl (y_loadN (l := [(Value.int .i64 exa1), (Value.int .i64 exb1), (str exc1)]) rfl (ev_tmp rfl rfl) Tryd.underlying30 rfl size_30 hC2) ?_
    refine s_alloc (cs := #[(Value.int .i64 0), (Value.int .i64 0), (str ([]))]) rfl rfl rfl zero_30 rfl ?_
    intro b2 w3 hb2 hs2 hx2 hB2
    have hd1 : ¬ s1 b2 := fun hs => by have := hf2.lt _ hs; omega
    obtain ⟨m3, hM2, hm2, hg2⟩ := grow_new m2 b2
    have hS2 : Stp noM w0 m3 w3 := hg2 _ _ _ _ hf1 hx2 hb2 hs2
    have hS3 : Stp m2 w2 m3 w3 := hg2 _ _ _ _ (Stp.self hf1) hx2 hb2 hs2
    have hC3 := hC2.ext hx2
    have hBd2 := Bd.ext hf2 hx2
    have hBd3 := Bd.mono hBd2 hM2
    refine s_q rfl rfl (y_assign rfl (ev_tmp rfl rfl)) ?_
    refine s_store (new := [(Value.int .i64 exa1), (Value.int .i64 exb1), (str exc1)]) (cs' := #[(Value.int .i64 exa1), (Value.int .i64 exb1), (str exc1)]) rfl rfl rfl (ev_tmp rfl rfl) (ev_tmp rfl rfl) rfl size_30 hB2 rfl rfl rfl ?_
    intro w4 hs3 hU1 hB3
    have hBd4 := Bd.upd hBd3 hU1 hd1
    have hS4 : Stp noM w0 m3 w4 := Stp.upd hS2 hU1 hm2
    have hS5 : Stp m2 w2 m3 w4 := Stp.upd hS3 hU1 hm2
    refine s_nil ?_
    refine k_next (e := [(3, (Value.pointer (some ⟨b1, 0, none⟩))), (6, (Value.slice l1A l1n l1c)), (7, (Value.int .i64 (l1n : Int))), (8, (Value.int .i64 t81)), (5, (Value.pointer (some ⟨b2, 0, none⟩))), (4, (Value.int .i64 t81))]) ⟨rfl, rfl, rfl, rfl, rfl, rfl, trivial⟩ ?_
    refine c_seq ?_
    refine c_seq ?_
    refine c_region ?_
    refine s_q rfl rfl (y_move rfl (ev_tmp rfl rfl)) ?_
    refine s_q rfl rfl (y_gtr rfl (ev_tmp rfl rfl) ev_const) ?_
    refine s_nil ?_
    refine k_next (e := [(3, (Value.pointer (some ⟨b1, 0, none⟩))), (6, (Value.slice l1A l1n l1c)), (7, (Value.int .i64 (l1n : Int))), (8, (Value.int .i64 t81)), (5, (Value.pointer (some ⟨b2, 0, none⟩))), (14, (Value.bool (decide (0 < t81))))]) ⟨rfl, rfl, rfl, rfl, rfl, rfl, trivial⟩ ?_
    refine c_cond (b := decide (0 < t81)) (ev_tmp rfl rfl) (fun hb => ?_) (fun hb => ?_)
    all_goals obtain ⟨hT, hF⟩ := h
    · replace h := hT hb
      clear hT hF
      refine c_region ?_
      obtain ⟨ho2, h⟩ := h
      refine s_call rfl rfl (r_callF (vs := [(Value.pointer (some ⟨b1, 0, none⟩)), (Value.int .u8 32)]) rfl ok_23 ⟨(ev_tmp rfl rfl), ⟨ev_const, trivial⟩⟩) (Calls.mono (bld_writeByte 32 hBd4 ho2) ?_)
      rintro _ w5 ⟨rfl, s2, hs4, hz1⟩
      refine ⟨_, rfl, ?_⟩
      obtain ⟨m4, hM3, hBd6, hst1⟩ := bd_stp hBd4 hs4 hz1
      have hd2 : ¬ s2 b2 := hs4.apart hB3.lt hd1
      have hB4 := hs4.blk hB3 hd1
      have hm3 := hM3 _ hm2
      have hS6 : Stp noM w0 m4 w5 := hst1 _ _ hS4
      have hS7 : Stp m2 w2 m4 w5 := hst1 _ _ hS5
      refine s_nil ?_
      refine k_next (e := [(3, (Value.pointer (some ⟨b1, 0, none⟩))), (6, (Value.slice l1A l1n l1c)), (7, (Value.int .i64 (l1n : Int))), (8, (Value.int .i64 t81)), (5, (Value.pointer (some ⟨b2, 0, none⟩)))]) ⟨rfl, rfl, rfl, rfl, rfl, trivial⟩ ?_
      refine c_region ?_
      refine s_q rfl rfl (y_fieldAddr rfl (ev_tmp rfl rfl) Tryd.underlying30 rfl size_9 rfl) ?_
      refine s_q rfl rfl (y_load1 (v := (str exc1)) rfl (ev_tmp rfl rfl) Tryd.underlying9 rfl (CellsAt.of_blk hB4 rfl)) ?_
      obtain ⟨ho3, h⟩ := h
      refine s_call rfl rfl (r_callF (vs := [(Value.pointer (some ⟨b1, 0, none⟩)), (str exc1)]) rfl ok_24 ⟨(ev_tmp rfl rfl), ⟨(ev_tmp rfl rfl), trivial⟩⟩) (Calls.mono (bld_writeString exc1 hBd6 ho3) ?_)
      rintro _ w6 ⟨rfl, s3, hs5, hz2⟩
      refine ⟨_, rfl, ?_⟩
      obtain ⟨m5, hM4, hBd8, hst2⟩ := bd_stp hBd6 hs5 hz2
      have hd3 : ¬ s3 b2 := hs5.apart hB4.lt hd2
      have hB5 := hs5.blk hB4 hd2
      have hm4 := hM4 _ hm3
      have hS8 : Stp noM w0 m5 w6 := hst2 _ _ hS6
      have hS9 : Stp m2 w2 m5 w6 := hst2 _ _ hS7
      refine s_nil ?_
      refine k_next (e := [(3, (Value.pointer (some ⟨b1, 0, none⟩))), (6, (Value.slice l1A l1n l1c)), (7, (Value.int .i64 (l1n : Int))), (8, (Value.int .i64 t81))]) ⟨rfl, rfl, rfl, rfl, trivial⟩ ?_
      refine c_region ?_
      obtain ⟨ho4, h⟩ := h
      refine s_q rfl rfl (y_int (y_add rfl (ev_tmp rfl rfl) ev_const) (wr_i64 ho4)) ?_
      refine s_q rfl rfl (y_move rfl (ev_tmp rfl rfl)) ?_
      refine s_nil ?_
      replace h := h m5 w6 hS9 hS8
      exact k_loop (t81 + 1, (bl1 ++ [32]) ++ exc1, m5, s3) ⟨rfl, rfl, rfl, rfl, trivial⟩ ⟨h.1, hS8, hBd8⟩ h.2
    · replace h := hF hb
      clear hT hF
      refine c_skip ?_
      refine k_next (e := [(3, (Value.pointer (some ⟨b1, 0, none⟩))), (6, (Value.slice l1A l1n l1c)), (7, (Value.int .i64 (l1n : Int))), (8, (Value.int .i64 t81)), (5, (Value.pointer (some ⟨b2, 0, none⟩)))]) ⟨rfl, rfl, rfl, rfl, rfl, trivial⟩ ?_
      refine c_region ?_
      refine s_q rfl rfl (y_fieldAddr rfl (ev_tmp rfl rfl) Tryd.underlying30 rfl size_9 rfl) ?_
      refine s_q rfl rfl (y_load1 (v := (str exc1)) rfl (ev_tmp rfl rfl) Tryd.underlying9 rfl (CellsAt.of_blk hB3 rfl)) ?_
      obtain ⟨ho5, h⟩ := h
      refine s_call rfl rfl (r_callF (vs := [(Value.pointer (some ⟨b1, 0, none⟩)), (str exc1)]) rfl ok_24 ⟨(ev_tmp rfl rfl), ⟨(ev_tmp rfl rfl), trivial⟩⟩) (Calls.mono (bld_writeString exc1 hBd4 ho5) ?_)
      rintro _ w7 ⟨rfl, s4, hs6, hz3⟩
      refine ⟨_, rfl, ?_⟩
      obtain ⟨m6, hM5, hBd10, hst3⟩ := bd_stp hBd4 hs6 hz3
      have hd4 : ¬ s4 b2 := hs6.apart hB3.lt hd1
      have hB6 := hs6.blk hB3 hd1
      have hm5 := hM5 _ hm2
      have hS10 : Stp noM w0 m6 w7 := hst3 _ _ hS4
      have hS11 : Stp m2 w2 m6 w7 := hst3 _ _ hS5
      refine s_nil ?_
      refine k_next (e := [(3, (Value.pointer (some ⟨b1, 0, none⟩))), (6, (Value.slice l1A l1n l1c)), (7, (Value.int .i64 (l1n : Int))), (8, (Value.int .i64 t81))]) ⟨rfl, rfl, rfl, rfl, trivial⟩ ?_
      refine c_region ?_
      obtain ⟨ho6, h⟩ := h
      refine s_q rfl rfl (y_int (y_add rfl (ev_tmp rfl rfl) ev_const) (wr_i64 ho6)) ?_
      refine s_q rfl rfl (y_move rfl (ev_tmp rfl rfl)) ?_
      refine s_nil ?_
      replace h := h m6 w7 hS11 hS10
      exact k_loop (t81 + 1, bl1 ++ exc1, m6, s4) ⟨rfl, rfl, rfl, rfl, trivial⟩ ⟨h.1, hS10, hBd10⟩ h.2
  · replace h := hF hb
    clear hT hF
    refine c_exit ?_
    refine k_in ?_
    refine k_next (e := [(3, (Value.pointer (some ⟨b1, 0, none⟩)))]) ⟨rfl, trivial⟩ ?_
    refine c_seq ?_
    refine c_region ?_
    refine s_call rfl rfl (r_callF (vs := [(Value.pointer (some ⟨b1, 0, none⟩))]) rfl ok_25 ⟨(ev_tmp rfl rfl), trivial⟩) (Calls.mono (bld_string hf2 hf1) ?_)
    rintro _ w8 ⟨rfl, hs7, hx3⟩
    refine ⟨_, rfl, ?_⟩
    refine s_q rfl rfl (y_assign rfl (ev_tmp rfl rfl)) ?_
    refine s_nil ?_
    refine k_next (e := [(2, (str bl1))]) ⟨rfl, trivial⟩ ?_
    refine c_ret ?_
    replace h := h w8 (Stp.ext0 hs7)
    exact q_ret (vs := [(str bl1)]) Tryd.results12 ⟨ev_tmp rfl rfl, trivial⟩ h

/- 'brocade/brocaderef13.Join': what is enough. -/
set_option maxRecDepth 100000 in
set_option maxHeartbeats 4000000 in
theorem vc13 (l1A : Option Addr) (l1n : Nat) (l1c : Nat) (w0 : World) (R : Value → World → Prop)
    (h : ∃ (inv1 : List UInt8 → Int → World → Prop) (mu1 : List UInt8 → Int → Nat), inv1 ([] : List UInt8) 0 w0 ∧ (∀ (s1 : List UInt8) (i1 : Int) (w1 : World), Ext w0 w1 → inv1 s1 i1 w1 → (((decide (i1 < (l1n : Int))) = true → ∃ j1 : List UInt8 → World → Prop, ((((decide (0 < i1)) = true → (s1.length + ([32] : List UInt8).length ≤ 9223372036854775807) ∧ j1 (s1 ++ ([32] : List UInt8)) w1) ∧ ((decide (0 < i1)) = false → j1 s1 w1))) ∧ (∀ (s2 : List UInt8) (w2 : World), j1 s2 w2 → ((0 : Int) ≤ i1 ∧ i1 < (l1n : Int)) ∧ ∃ (ad1 : Addr), l1A = some ad1 ∧ ∃ (exa1 : Int) (exb1 : Int) (exc1 : List UInt8), CellsAt w2 (ad1.add (Int.toNat i1 * 3)) [(Value.int .i64 exa1), (Value.int .i64 exb1), (str exc1)] ∧ (s2.length + exc1.length ≤ 9223372036854775807) ∧ (R64 (i1 + 1)) ∧ (inv1 (s2 ++ exc1) (i1 + 1) w2 ∧ mu1 (s2 ++ exc1) (i1 + 1) < mu1 s1 i1))) ∧ ((decide (i1 < (l1n : Int))) = false → R (str s1) w1)))) :
    Calls Tryd.prog 13 #[(Value.slice l1A l1n l1c)] w0 fun e w' => ∃ v, e = .returned v ∧ R v w' := by
  refine enter (l := [(Value.slice l1A l1n l1c)]) Tryd.func13 rfl Tryd.ntmps13 rfl ?_
  refine c_seq ?_
  refine c_region ?_
  refine s_q rfl rfl (y_assign rfl ev_const) ?_
  refine s_nil ?_
  refine k_next (e := [(0, (Value.slice l1A l1n l1c))]) ⟨rfl, trivial⟩ ?_
  refine c_seq ?_
  refine c_region ?_
  refine s_q rfl rfl (y_assign rfl ev_const) ?_
  refine s_nil ?_
  refine k_next (e := [(0, (Value.slice l1A l1n l1c)), (3, (str ([] : List UInt8)))]) ⟨rfl, rfl, trivial⟩ ?_
  refine c_seq ?_
  refine c_seq ?_
  refine c_region ?_
  refine s_q rfl rfl (y_assign rfl ev_const) ?_
  refine s_nil ?_
  refine k_next (e := [(0, (Value.slice l1A l1n l1c)), (3, (str ([] : List UInt8))), (4, (Value.int .i64 0))]) ⟨rfl, rfl, rfl, trivial⟩ ?_
  refine c_block ?_
  obtain ⟨inv1, mu1, h0, h⟩ := h
  refine c_loop (α := List UInt8 × Int) (fun x => fun w1 => inv1 (x.1) (x.2) w1 ∧ (Ext w0 w1)) (fun x => fun w1 => mu1 (x.1) (x.2)) (fun x => [(0, (Value.slice l1A l1n l1c)), (3, (str x.1)), (4, (Value.int .i64 x.2))]) (([] : List UInt8), 0) ⟨h0, (Stp.ext0 Stp.start)⟩ ⟨rfl, rfl, rfl, trivial⟩ ?_
  clear h0
  rintro ⟨s1, i1⟩ w1 ⟨hI1, hf1⟩
  have hf1 : Ext w0 w1 := hf1
  have hS1 : Stp noM w0 noM w1 := (Stp.step Stp.start hf1)
  replace h := h s1 i1 w1 hf1 hI1
  refine c_sub (e := [(0, (Value.slice l1A l1n l1c)), (3, (str s1)), (4, (Value.int .i64 i1))]) ⟨rfl, rfl, rfl, trivial⟩ ?_
  refine c_seq ?_
  refine c_seq ?_
  refine c_region ?_
  refine s_q rfl rfl (y_move rfl (ev_tmp rfl rfl)) ?_
  refine s_q rfl rfl (y_move rfl (ev_tmp rfl rfl)) ?_
  refine s_q rfl rfl (y_lenl rfl Tryd.underlying23 (ev_tmp rfl rfl)) ?_
  refine s_q rfl rfl (y_lss rfl (ev_tmp rfl rfl) (ev_tmp rfl rfl)) ?_
  refine s_nil ?_
  refine k_next (e := [(0, (Value.slice l1A l1n l1c)), (3, (str s1)), (4, (Value.int .i64 i1)), (8, (Value.bool (decide (i1 < (l1n : Int)))))]) ⟨rfl, rfl, rfl, rfl, trivial⟩ ?_
  refine c_cond (b := decide (i1 < (l1n : Int))) (ev_tmp rfl rfl) (fun hb => ?_) (fun hb => ?_)
  all_goals obtain ⟨hT, hF⟩ := h
  · replace h := hT hb
    clear hT hF
    refine c_skip ?_
    refine k_next (e := [(0, (Value.slice l1A l1n l1c)), (3, (str s1)), (4, (Value.int .i64 i1))]) ⟨rfl, rfl, rfl, trivial⟩ ?_
    refine c_seq ?_
    refine c_block ?_
    obtain ⟨j1, hX, hY⟩ := h
    refine c_join (α := List UInt8) (fun x => [(0, (Value.slice l1A l1n l1c)), (3, (str x)), (4, (Value.int .i64 i1))]) (fun x => fun w2 => j1 (x) w2 ∧ (Ext w0 w2)) ?_ ?_
    · clear hX; rintro s2 w2 ⟨hj1, hf2⟩
      have h := hY s2 w2 hj1
      clear hY
      have hf2 : Ext w0 w2 := hf2
      have hS2 : Stp noM w0 noM w2 := (Stp.step Stp.start hf2)
      refine c_sub (e := [(0, (Value.slice l1A l1n l1c)), (3, (str s2)), (4, (Value.int .i64 i1))]) ⟨rfl, rfl, rfl, trivial⟩ ?_
      refine c_region ?_
      refine s_q rfl rfl (y_move rfl (ev_tmp rfl rfl)) ?_
      refine s_q rfl rfl (y_move rfl (ev_tmp rfl rfl)) ?_
      refine s_q rfl rfl (y_move rfl (ev_tmp rfl rfl)) ?_
      obtain ⟨ho1, h⟩ := h
      obtain ⟨ad1, hC1, h⟩ := h
      refine s_q rfl rfl (y_indexAddr rfl Tryd.underlying23 size_30 (ev_tmp rfl rfl) (ev_tmp rfl rfl) ho1 hC1) ?_
      refine s_q rfl rfl (y_fieldAddr rfl (ev_tmp rfl rfl) Tryd.underlying30 rfl size_9 rfl) ?_
      obtain ⟨exa1, exb1, exc1, hC2, h⟩ := h
      refine s_q rfl rfl (y_load1 (v := (str exc1)) rfl (ev_tmp rfl rfl) Tryd.underlying9 rfl (CellsAt.part hC2 rfl)) ?_
      obtain ⟨ho2, h⟩ := h
      refine s_q rfl rfl (y_cat rfl (ev_tmp rfl rfl) (ev_tmp rfl rfl) ho2) ?_
      refine s_q rfl rfl (y_assign rfl (ev_tmp rfl rfl)) ?_
      refine s_nil ?_
      refine k_next (e := [(0, (Value.slice l1A l1n l1c)), (3, (str (s2 ++ exc1))), (4, (Value.int .i64 i1))]) ⟨rfl, rfl, rfl, trivial⟩ ?_
      refine c_region ?_
      refine s_q rfl rfl (y_move rfl (ev_tmp rfl rfl)) ?_
      obtain ⟨ho3, h⟩ := h
      refine s_q rfl rfl (y_int (y_add rfl (ev_tmp rfl rfl) ev_const) (wr_i64 ho3)) ?_
      refine s_q rfl rfl (y_assign rfl (ev_tmp rfl rfl)) ?_
      refine s_nil ?_
      exact k_loop (s2 ++ exc1, i1 + 1) ⟨rfl, rfl, rfl, trivial⟩ ⟨h.1, (Stp.ext0 hS2)⟩ h.2
    · have h := hX
      clear hX hY
      refine c_seq ?_
      refine c_region ?_
      refine s_q rfl rfl (y_move rfl (ev_tmp rfl rfl)) ?_
      refine s_q rfl rfl (y_gtr rfl (ev_tmp rfl rfl) ev_const) ?_
      refine s_nil ?_
      refine k_next (e := [(0, (Value.slice l1A l1n l1c)), (3, (str s1)), (4, (Value.int .i64 i1)), (12, (Value.bool (decide (0 < i1))))]) ⟨rfl, rfl, rfl, rfl, trivial⟩ ?_
      refine c_cond (b := decide (0 < i1)) (ev_tmp rfl rfl) (fun hb => ?_) (fun hb => ?_)
      all_goals obtain ⟨hT, hF⟩ := h
      · replace h := hT hb
        clear hT hF
        refine c_region ?_
        refine s_q rfl rfl (y_move rfl (ev_tmp rfl rfl)) ?_
        obtain ⟨ho4, h⟩ := h
        refine s_q rfl rfl (y_cat rfl (ev_tmp rfl rfl) ev_const ho4) ?_
        refine s_q rfl rfl (y_assign rfl (ev_tmp rfl rfl)) ?_
        refine s_nil ?_
        exact k_join (s1 ++ ([32] : List UInt8)) ⟨rfl, rfl, rfl, trivial⟩ ⟨h, (Stp.ext0 hS1)⟩
      · replace h := hF hb
        clear hT hF
        refine c_skip ?_
        exact k_join s1 ⟨rfl, rfl, rfl, trivial⟩ ⟨h, (Stp.ext0 hS1)⟩
  · replace h := hF hb
    clear hT hF
    refine c_exit ?_
    refine k_in ?_
    refine k_next (e := [(3, (str s1))]) ⟨rfl, trivial⟩ ?_
    refine c_seq ?_
    refine c_region ?_
    refine s_q rfl rfl (y_move rfl (ev_tmp rfl rfl)) ?_
    refine s_q rfl rfl (y_assign rfl (ev_tmp rfl rfl)) ?_
    refine s_nil ?_
    refine k_next (e := [(2, (str s1))]) ⟨rfl, trivial⟩ ?_
    refine c_ret ?_
    exact q_ret (vs := [(str s1)]) Tryd.results13 ⟨ev_tmp rfl rfl, trivial⟩ h

/- 'brocade/lexer.IsName': what is enough. -/
set_option maxRecDepth 100000 in
set_option maxHeartbeats 4000000 in
theorem vc14 (s1 : List UInt8) (w0 : World) (R : Value → World → Prop)
    (h : (((!decide (s1 = ([] : List UInt8))) && (decide ((s1.length : Int) ≤ 16))) = true → (0 : Int) ≤ 0 ∧ 0 < (s1.length : Int)) ∧ (((!decide (s1 = ([] : List UInt8))) && (decide ((s1.length : Int) ≤ 16))) = true → R32 (at8 s1 (Int.toNat 0))) ∧ ∃ q1 : Bool → World → Prop, (((!decide (s1 = ([] : List UInt8))) && (decide ((s1.length : Int) ≤ 16))) = true → Calls Tryd.prog 26 #[(Value.int .i32 (at8 s1 (Int.toNat 0)))] w0 (fun e w1 => ∃ (r1 : Bool), e = .returned (Value.bool r1) ∧ Ext w0 w1 ∧ q1 r1 w1)) ∧ (∀ (r1 : Bool) (w1 : World), Ext w0 w1 → (((!decide (s1 = ([] : List UInt8))) && (decide ((s1.length : Int) ≤ 16))) = true → q1 r1 w1) → ∃ q2 : Int → World → Prop, ((((!decide (s1 = ([] : List UInt8))) && (decide ((s1.length : Int) ≤ 16))) && r1) = true → Calls Tryd.prog 27 #[(str s1), (Value.func (.func 28) #[] #[])] w1 (fun e w2 => ∃ (r2 : Int), e = .returned (Value.int .i64 r2) ∧ Ext w1 w2 ∧ q2 r2 w2)) ∧ (∀ (r2 : Int) (w2 : World), Ext w1 w2 → ((((!decide (s1 = ([] : List UInt8))) && (decide ((s1.length : Int) ≤ 16))) && r1) = true → q2 r2 w2) → ∃ q3 : Bool → World → Prop, (((((!decide (s1 = ([] : List UInt8))) && (decide ((s1.length : Int) ≤ 16))) && r1) && (decide (r2 = (s1.length : Int)))) = true → Calls Tryd.prog 16 #[(str s1)] w2 (fun e w3 => ∃ (r3 : Bool), e = .returned (Value.bool r3) ∧ Ext w2 w3 ∧ q3 r3 w3)) ∧ (∀ (r3 : Bool) (w3 : World), Ext w2 w3 → (((((!decide (s1 = ([] : List UInt8))) && (decide ((s1.length : Int) ≤ 16))) && r1) && (decide (r2 = (s1.length : Int)))) = true → q3 r3 w3) → R (Value.bool (((((!decide (s1 = ([] : List UInt8))) && (decide ((s1.length : Int) ≤ 16))) && r1) && (decide (r2 = (s1.length : Int)))) && (!r3))) w3)))) :
    Calls Tryd.prog 14 #[(str s1)] w0 fun e w' => ∃ v, e = .returned v ∧ R v w' := by
  refine enter (l := [(str s1)]) Tryd.func14 rfl Tryd.ntmps14 rfl ?_
  refine c_seq ?_
  refine c_region ?_
  refine s_q rfl rfl (y_assign rfl ev_const) ?_
  refine s_nil ?_
  refine k_next (e := [(0, (str s1))]) ⟨rfl, trivial⟩ ?_
  refine c_seq ?_
  refine c_region ?_
  refine s_q rfl rfl (y_move rfl (ev_tmp rfl rfl)) ?_
  refine s_q rfl rfl (y_nes rfl (ev_tmp rfl rfl) ev_const) ?_
  refine s_q rfl rfl (y_move rfl (ev_tmp rfl rfl)) ?_
  refine s_gval (g_true rfl rfl rfl rfl) rfl (fun hc => (y_move rfl (ev_tmp rfl rfl))) ?_
  refine s_gval (g_true rfl rfl rfl rfl) rfl (fun hc => (y_lens rfl Tryd.underlying9 (ev_gv (ev_tmp rfl rfl) hc))) ?_
  refine s_gval (g_true rfl rfl rfl rfl) rfl (fun hc => (y_leq rfl (ev_gv (ev_tmp rfl rfl) hc) ev_const)) ?_
  refine s_q rfl rfl (y_and rfl (ev_tmp rfl rfl) (ev_tmp rfl rfl)) ?_
  refine s_q rfl rfl (y_move rfl (ev_tmp rfl rfl)) ?_
  refine s_gval (g_true rfl rfl rfl rfl) rfl (fun hc => (y_move rfl (ev_tmp rfl rfl))) ?_
  obtain ⟨ho1, h⟩ := h
  refine s_gval (g_true rfl rfl rfl rfl) rfl (fun hc => (y_indexs rfl Tryd.underlying9 (ev_gv (ev_tmp rfl rfl) hc) ev_const (ho1 hc))) ?_
  obtain ⟨ho2, h⟩ := h
  refine s_gval (g_true rfl rfl rfl rfl) rfl (fun hc => (y_int (y_conv rfl (by rw [Tryd.underlying5]; rfl) Tryd.underlying21 (ev_gv (ev_tmp rfl rfl) hc)) (wr_i32 (ho2 hc)))) ?_
  obtain ⟨q1, hq2, h⟩ := h
  refine s_gcallT (α := Bool) (fun x => (Value.bool x)) (fun x => fun w => q1 (x) w) (g_true rfl rfl rfl rfl) rfl (fun hc => (r_callF (vs := [(Value.int .i32 (at8 s1 (Int.toNat 0)))]) rfl ok_26 ⟨(ev_gv (ev_tmp rfl rfl) hc), trivial⟩)) (fun hc => (hq2 hc).mono ?_) ?_
  · rintro _ w' ⟨r1, rfl, hE', hq'⟩; exact ⟨r1, rfl, hE', hq'⟩
  rintro r1 w1 hx1 hq1
  replace h := h r1 w1 hx1 hq1
  have hS1 : Stp noM w0 noM w1 := Stp.step Stp.start hx1
  refine s_q rfl rfl (y_and rfl (ev_tmp rfl rfl) (ev_tmp rfl rfl)) ?_
  refine s_q rfl rfl (y_move rfl (ev_tmp rfl rfl)) ?_
  refine s_gval (g_true rfl rfl rfl rfl) rfl (fun hc => (y_move rfl (ev_tmp rfl rfl))) ?_
  obtain ⟨q2, hq4, h⟩ := h
  refine s_gcallT (α := Int) (fun x => (Value.int .i64 x)) (fun x => fun w => q2 (x) w) (g_true rfl rfl rfl rfl) rfl (fun hc => (r_callF (vs := [(str s1), (Value.func (.func 28) #[] #[])]) rfl ok_27 ⟨(ev_gv (ev_tmp rfl rfl) hc), ⟨ev_func, trivial⟩⟩)) (fun hc => (hq4 hc).mono ?_) ?_
  · rintro _ w' ⟨r2, rfl, hE', hq'⟩; exact ⟨r2, rfl, hE', hq'⟩
  rintro r2 w2 hx2 hq3
  replace h := h r2 w2 hx2 hq3
  have hS2 : Stp noM w0 noM w2 := Stp.step hS1 hx2
  have hS3 : Stp noM w1 noM w2 := Stp.step (Stp.self hS1) hx2
  refine s_gval (g_true rfl rfl rfl rfl) rfl (fun hc => (y_move rfl (ev_tmp rfl rfl))) ?_
  refine s_gval (g_true rfl rfl rfl rfl) rfl (fun hc => (y_lens rfl Tryd.underlying9 (ev_gv (ev_tmp rfl rfl) hc))) ?_
  refine s_gval (g_true rfl rfl rfl rfl) rfl (fun hc => (y_eql rfl (ev_gv (ev_tmp rfl rfl) hc) (ev_gv (ev_tmp rfl rfl) hc))) ?_
  refine s_q rfl rfl (y_and rfl (ev_tmp rfl rfl) (ev_tmp rfl rfl)) ?_
  refine s_q rfl rfl (y_move rfl (ev_tmp rfl rfl)) ?_
  refine s_gval (g_true rfl rfl rfl rfl) rfl (fun hc => (y_move rfl (ev_tmp rfl rfl))) ?_
  obtain ⟨q3, hq6, h⟩ := h
  refine s_gcallT (α := Bool) (fun x => (Value.bool x)) (fun x => fun w => q3 (x) w) (g_true rfl rfl rfl rfl) rfl (fun hc => (r_callF (vs := [(str s1)]) rfl ok_16 ⟨(ev_gv (ev_tmp rfl rfl) hc), trivial⟩)) (fun hc => (hq6 hc).mono ?_) ?_
  · rintro _ w' ⟨r3, rfl, hE', hq'⟩; exact ⟨r3, rfl, hE', hq'⟩
  rintro r3 w3 hx3 hq5
  replace h := h r3 w3 hx3 hq5
  have hS4 : Stp noM w0 noM w3 := Stp.step hS2 hx3
  have hS5 : Stp noM w2 noM w3 := Stp.step (Stp.self hS2) hx3
  refine s_gval (g_true rfl rfl rfl rfl) rfl (fun hc => (y_not rfl (ev_gv (ev_tmp rfl rfl) hc))) ?_
  refine s_q rfl rfl (y_and rfl (ev_tmp rfl rfl) (ev_tmp rfl rfl)) ?_
  refine s_q rfl rfl (y_assign rfl (ev_tmp rfl rfl)) ?_
  refine s_nil ?_
  refine k_next (e := [(2, (Value.bool (((((!decide (s1 = ([] : List UInt8))) && (decide ((s1.length : Int) ≤ 16))) && r1) && (decide (r2 = (s1.length : Int)))) && (!r3))))]) ⟨rfl, trivial⟩ ?_
  refine c_ret ?_
  exact q_ret (vs := [(Value.bool (((((!decide (s1 = ([] : List UInt8))) && (decide ((s1.length : Int) ≤ 16))) && r1) && (decide (r2 = (s1.length : Int)))) && (!r3)))]) Tryd.results14 ⟨ev_tmp rfl rfl, trivial⟩ h

/- 'brocade/brocaderef13.IsName': what is enough. -/
set_option maxRecDepth 100000 in
set_option maxHeartbeats 4000000 in
theorem vc15 (s1 : List UInt8) (w0 : World) (R : Value → World → Prop)
    (h : Calls Tryd.prog 29 #[(str s1)] w0 (fun e w1 => ∃ (r1 : Bool), e = .returned (Value.bool r1) ∧ Ext w0 w1 ∧ R (Value.bool r1) w1)) :
    Calls Tryd.prog 15 #[(str s1)] w0 fun e w' => ∃ v, e = .returned v ∧ R v w' := by
  refine enter (l := [(str s1)]) Tryd.func15 rfl Tryd.ntmps15 rfl ?_
  refine c_seq ?_
  refine c_region ?_
  refine s_q rfl rfl (y_assign rfl ev_const) ?_
  refine s_nil ?_
  refine k_next (e := [(0, (str s1))]) ⟨rfl, trivial⟩ ?_
  refine c_seq ?_
  refine c_region ?_
  refine s_q rfl rfl (y_move rfl (ev_tmp rfl rfl)) ?_
  refine s_call rfl rfl (r_callF (vs := [(str s1)]) rfl ok_29 ⟨(ev_tmp rfl rfl), trivial⟩) (Calls.mono h ?_)
  rintro _ w1 ⟨r1, rfl, hx1, h⟩
  refine ⟨_, rfl, ?_⟩
  have hS1 : Stp noM w0 noM w1 := Stp.step Stp.start hx1
  refine s_q rfl rfl (y_assign rfl (ev_tmp rfl rfl)) ?_
  refine s_nil ?_
  refine k_next (e := [(2, (Value.bool r1))]) ⟨rfl, trivial⟩ ?_
  refine c_ret ?_
  exact q_ret (vs := [(Value.bool r1)]) Tryd.results15 ⟨ev_tmp rfl rfl, trivial⟩ h

/- 'brocade/lexer.IsKeyword': what is enough. -/
set_option maxRecDepth 100000 in
set_option maxHeartbeats 4000000 in
theorem vc16 (s1 : List UInt8) (w0 : World) (R : Value → World → Prop)
    (h : Calls Tryd.prog 31 #[] w0 (fun e w1 => ∃ (r1A : Option Addr) (r1n : Nat) (r1c : Nat), e = .returned (Value.slice r1A r1n r1c) ∧ Ext w0 w1 ∧ Calls Tryd.prog 30 #[(Value.slice r1A r1n r1c), (str s1)] w1 (fun e w2 => ∃ (r2 : Bool), e = .returned (Value.bool r2) ∧ Ext w1 w2 ∧ R (Value.bool r2) w2))) :
    Calls Tryd.prog 16 #[(str s1)] w0 fun e w' => ∃ v, e = .returned v ∧ R v w' := by
  refine enter (l := [(str s1)]) Tryd.func16 rfl Tryd.ntmps16 rfl ?_
  refine c_seq ?_
  refine c_region ?_
  refine s_q rfl rfl (y_assign rfl ev_const) ?_
  refine s_nil ?_
  refine k_next (e := [(0, (str s1))]) ⟨rfl, trivial⟩ ?_
  refine c_seq ?_
  refine c_region ?_
  refine s_call rfl rfl (r_callF (vs := []) rfl ok_31 trivial) (Calls.mono h ?_)
  rintro _ w1 ⟨r1A, r1n, r1c, rfl, hx1, h⟩
  refine ⟨_, rfl, ?_⟩
  have hS1 : Stp noM w0 noM w1 := Stp.step Stp.start hx1
  refine s_q rfl rfl (y_move rfl (ev_tmp rfl rfl)) ?_
  refine s_call rfl rfl (r_callF (vs := [(Value.slice r1A r1n r1c), (str s1)]) rfl ok_30 ⟨(ev_tmp rfl rfl), ⟨(ev_tmp rfl rfl), trivial⟩⟩) (Calls.mono h ?_)
  rintro _ w2 ⟨r2, rfl, hx2, h⟩
  refine ⟨_, rfl, ?_⟩
  have hS2 : Stp noM w0 noM w2 := Stp.step hS1 hx2
  have hS3 : Stp noM w1 noM w2 := Stp.step (Stp.self hS1) hx2
  refine s_q rfl rfl (y_assign rfl (ev_tmp rfl rfl)) ?_
  refine s_nil ?_
  refine k_next (e := [(2, (Value.bool r2))]) ⟨rfl, trivial⟩ ?_
  refine c_ret ?_
  exact q_ret (vs := [(Value.bool r2)]) Tryd.results16 ⟨ev_tmp rfl rfl, trivial⟩ h

/- 'brocade/brocaderef13.IsKeyword': what is enough. -/
set_option maxRecDepth 100000 in
set_option maxHeartbeats 4000000 in
theorem vc17 (s1 : List UInt8) (w0 : World) (R : Value → World → Prop)
    (h : Calls Tryd.prog 33 #[] w0 (fun e w1 => ∃ (r1A : Option Addr) (r1n : Nat) (r1c : Nat), e = .returned (Value.slice r1A r1n r1c) ∧ Ext w0 w1 ∧ Calls Tryd.prog 32 #[(Value.slice r1A r1n r1c), (str s1)] w1 (fun e w2 => ∃ (r2 : Bool), e = .returned (Value.bool r2) ∧ Ext w1 w2 ∧ R (Value.bool r2) w2))) :
    Calls Tryd.prog 17 #[(str s1)] w0 fun e w' => ∃ v, e = .returned v ∧ R v w' := by
  refine enter (l := [(str s1)]) Tryd.func17 rfl Tryd.ntmps17 rfl ?_
  refine c_seq ?_
  refine c_region ?_
  refine s_q rfl rfl (y_assign rfl ev_const) ?_
  refine s_nil ?_
  refine k_next (e := [(0, (str s1))]) ⟨rfl, trivial⟩ ?_
  refine c_seq ?_
  refine c_region ?_
  refine s_call rfl rfl (r_callF (vs := []) rfl ok_33 trivial) (Calls.mono h ?_)
  rintro _ w1 ⟨r1A, r1n, r1c, rfl, hx1, h⟩
  refine ⟨_, rfl, ?_⟩
  have hS1 : Stp noM w0 noM w1 := Stp.step Stp.start hx1
  refine s_q rfl rfl (y_move rfl (ev_tmp rfl rfl)) ?_
  refine s_call rfl rfl (r_callF (vs := [(Value.slice r1A r1n r1c), (str s1)]) rfl ok_32 ⟨(ev_tmp rfl rfl), ⟨(ev_tmp rfl rfl), trivial⟩⟩) (Calls.mono h ?_)
  rintro _ w2 ⟨r2, rfl, hx2, h⟩
  refine ⟨_, rfl, ?_⟩
  have hS2 : Stp noM w0 noM w2 := Stp.step hS1 hx2
  have hS3 : Stp noM w1 noM w2 := Stp.step (Stp.self hS1) hx2
  refine s_q rfl rfl (y_assign rfl (ev_tmp rfl rfl)) ?_
  refine s_nil ?_
  refine k_next (e := [(2, (Value.bool r2))]) ⟨rfl, trivial⟩ ?_
  refine c_ret ?_
  exact q_ret (vs := [(Value.bool r2)]) Tryd.results17 ⟨ev_tmp rfl rfl, trivial⟩ h

/- 'brocade/brocaderef13.Skip': what is enough. -/
set_option maxRecDepth 100000 in
set_option maxHeartbeats 4000000 in
theorem vc18 (s1 : List UInt8) (at1 : Int) (w0 : World) (R : Value → World → Prop)
    (h : ∃ (inv1 : Int → World → Prop) (mu1 : Int → Nat), inv1 at1 w0 ∧ (∀ (at2 : Int) (w1 : World), Ext w0 w1 → inv1 at2 w1 → (((decide (at2 < (s1.length : Int))) = true → ((0 : Int) ≤ at2 ∧ at2 < (s1.length : Int)) ∧ Calls Tryd.prog 34 #[(Value.int .u8 (at8 s1 (Int.toNat at2)))] w1 (fun e w2 => ∃ (r1 : Bool), e = .returned (Value.bool r1) ∧ Ext w1 w2 ∧ ((r1 = true → (R64 (at2 + 1)) ∧ (inv1 (at2 + 1) w2 ∧ mu1 (at2 + 1) < mu1 at2)) ∧ (r1 = false → ((0 : Int) ≤ at2 ∧ at2 < (s1.length : Int)) ∧ (((decide (at8 s1 (Int.toNat at2) = 35)) = true → ∃ (inv2 : Int → World → Prop) (mu2 : Int → Nat), inv2 at2 w2 ∧ (∀ (at3 : Int) (w3 : World), Ext w0 w3 → inv2 at3 w3 → ((decide (at3 < (s1.length : Int))) = true → (0 : Int) ≤ at3 ∧ at3 < (s1.length : Int)) ∧ ((((decide (at3 < (s1.length : Int))) && (!decide (at8 s1 (Int.toNat at3) = 10))) = true → (R64 (at3 + 1)) ∧ (inv2 (at3 + 1) w3 ∧ mu2 (at3 + 1) < mu2 at3)) ∧ (((decide (at3 < (s1.length : Int))) && (!decide (at8 s1 (Int.toNat at3) = 10))) = false → (inv1 at3 w3 ∧ mu1 at3 < mu1 at2))))) ∧ ((decide (at8 s1 (Int.toNat at2) = 35)) = false → R (Value.int .i64 at2) w2)))))) ∧ ((decide (at2 < (s1.length : Int))) = false → R (Value.int .i64 at2) w1)))) :
    Calls Tryd.prog 18 #[(str s1), (Value.int .i64 at1)] w0 fun e w' => ∃ v, e = .returned v ∧ R v w' := by
  refine enter (l := [(str s1), (Value.int .i64 at1)]) Tryd.func18 rfl Tryd.ntmps18 rfl ?_
  refine c_seq ?_
  refine c_region ?_
  refine s_q rfl rfl (y_assign rfl ev_const) ?_
  refine s_nil ?_
  refine k_next (e := [(0, (str s1)), (1, (Value.int .i64 at1))]) ⟨rfl, rfl, trivial⟩ ?_
  refine c_seq ?_
  refine c_block ?_
  obtain ⟨inv1, mu1, h0, h⟩ := h
  refine c_loop (α := Int) (fun x => fun w1 => inv1 (x) w1 ∧ (Ext w0 w1)) (fun x => fun w1 => mu1 (x)) (fun x => [(0, (str s1)), (1, (Value.int .i64 x))]) at1 ⟨h0, (Stp.ext0 Stp.start)⟩ ⟨rfl, rfl, trivial⟩ ?_
  clear h0
  rintro at2 w1 ⟨hI1, hf1⟩
  have hf1 : Ext w0 w1 := hf1
  have hS1 : Stp noM w0 noM w1 := (Stp.step Stp.start hf1)
  replace h := h at2 w1 hf1 hI1
  refine c_sub (e := [(0, (str s1)), (1, (Value.int .i64 at2))]) ⟨rfl, rfl, trivial⟩ ?_
  refine c_seq ?_
  refine c_seq ?_
  refine c_region ?_
  refine s_q rfl rfl (y_move rfl (ev_tmp rfl rfl)) ?_
  refine s_q rfl rfl (y_move rfl (ev_tmp rfl rfl)) ?_
  refine s_q rfl rfl (y_lens rfl Tryd.underlying9 (ev_tmp rfl rfl)) ?_
  refine s_q rfl rfl (y_lss rfl (ev_tmp rfl rfl) (ev_tmp rfl rfl)) ?_
  refine s_nil ?_
  refine k_next (e := [(0, (str s1)), (1, (Value.int .i64 at2)), (8, (Value.bool (decide (at2 < (s1.length : Int)))))]) ⟨rfl, rfl, rfl, trivial⟩ ?_
  refine c_cond (b := decide (at2 < (s1.length : Int))) (ev_tmp rfl rfl) (fun hb => ?_) (fun hb => ?_)
  all_goals obtain ⟨hT, hF⟩ := h
  · replace h := hT hb
    clear hT hF
    refine c_skip ?_
    refine k_next (e := [(0, (str s1)), (1, (Value.int .i64 at2))]) ⟨rfl, rfl, trivial⟩ ?_
    refine c_block ?_
    refine c_seq ?_
    refine c_region ?_
    refine s_q rfl rfl (y_move rfl (ev_tmp rfl rfl)) ?_
    refine s_q rfl rfl (y_move rfl (ev_tmp rfl rfl)) ?_
    obtain ⟨ho1, h⟩ := h
    refine s_q rfl rfl (y_indexs rfl Tryd.underlying9 (ev_tmp rfl rfl) (ev_tmp rfl rfl) ho1) ?_
    refine s_call rfl rfl (r_callF (vs := [(Value.int .u8 (at8 s1 (Int.toNat at2)))]) rfl ok_34 ⟨(ev_tmp rfl rfl), trivial⟩) (Calls.mono h ?_)
    rintro _ w2 ⟨r1, rfl, hx1, h⟩
    refine ⟨_, rfl, ?_⟩
    have hS2 : Stp noM w0 noM w2 := Stp.step hS1 hx1
    have hS3 : Stp noM w1 noM w2 := Stp.step (Stp.self hS1) hx1
    refine s_nil ?_
    refine k_next (e := [(0, (str s1)), (1, (Value.int .i64 at2)), (12, (Value.bool r1))]) ⟨rfl, rfl, rfl, trivial⟩ ?_
    refine c_cond (b := r1) (ev_tmp rfl rfl) (fun hb => ?_) (fun hb => ?_)
    all_goals obtain ⟨hT, hF⟩ := h
    · replace h := hT hb
      clear hT hF
      refine c_region ?_
      refine s_q rfl rfl (y_move rfl (ev_tmp rfl rfl)) ?_
      obtain ⟨ho2, h⟩ := h
      refine s_q rfl rfl (y_int (y_add rfl (ev_tmp rfl rfl) ev_const) (wr_i64 ho2)) ?_
      refine s_q rfl rfl (y_assign rfl (ev_tmp rfl rfl)) ?_
      refine s_nil ?_
      exact k_loop (at2 + 1) ⟨rfl, rfl, trivial⟩ ⟨h.1, (Stp.ext0 hS2)⟩ h.2
    · replace h := hF hb
      clear hT hF
      refine c_seq ?_
      refine c_region ?_
      refine s_q rfl rfl (y_move rfl (ev_tmp rfl rfl)) ?_
      refine s_q rfl rfl (y_move rfl (ev_tmp rfl rfl)) ?_
      obtain ⟨ho3, h⟩ := h
      refine s_q rfl rfl (y_indexs rfl Tryd.underlying9 (ev_tmp rfl rfl) (ev_tmp rfl rfl) ho3) ?_
      refine s_q rfl rfl (y_eql rfl (ev_tmp rfl rfl) ev_const) ?_
      refine s_nil ?_
      refine k_next (e := [(0, (str s1)), (1, (Value.int .i64 at2)), (18, (Value.bool (decide (at8 s1 (Int.toNat at2) = 35))))]) ⟨rfl, rfl, rfl, trivial⟩ ?_
      refine c_cond (b := decide (at8 s1 (Int.toNat at2) = 35)) (ev_tmp rfl rfl) (fun hb => ?_) (fun hb => ?_)
      all_goals obtain ⟨hT, hF⟩ := h
      · replace h := hT hb
        clear hT hF
        refine c_block ?_
        obtain ⟨inv2, mu2, h0, h⟩ := h
        refine c_loop (α := Int) (fun x => fun w3 => inv2 (x) w3 ∧ (Ext w0 w3)) (fun x => fun w3 => mu2 (x)) (fun x => [(0, (str s1)), (1, (Value.int .i64 x))]) at2 ⟨h0, (Stp.ext0 hS2)⟩ ⟨rfl, rfl, trivial⟩ ?_
        clear h0
        rintro at3 w3 ⟨hI2, hf2⟩
        have hf2 : Ext w0 w3 := hf2
        have hS4 : Stp noM w0 noM w3 := (Stp.step Stp.start hf2)
        replace h := h at3 w3 hf2 hI2
        refine c_sub (e := [(0, (str s1)), (1, (Value.int .i64 at3))]) ⟨rfl, rfl, trivial⟩ ?_
        refine c_seq ?_
        refine c_seq ?_
        refine c_region ?_
        refine s_q rfl rfl (y_move rfl (ev_tmp rfl rfl)) ?_
        refine s_q rfl rfl (y_move rfl (ev_tmp rfl rfl)) ?_
        refine s_q rfl rfl (y_lens rfl Tryd.underlying9 (ev_tmp rfl rfl)) ?_
        refine s_q rfl rfl (y_lss rfl (ev_tmp rfl rfl) (ev_tmp rfl rfl)) ?_
        refine s_q rfl rfl (y_move rfl (ev_tmp rfl rfl)) ?_
        refine s_gval (g_true rfl rfl rfl rfl) rfl (fun hc => (y_move rfl (ev_tmp rfl rfl))) ?_
        refine s_gval (g_true rfl rfl rfl rfl) rfl (fun hc => (y_move rfl (ev_tmp rfl rfl))) ?_
        obtain ⟨ho4, h⟩ := h
        refine s_gval (g_true rfl rfl rfl rfl) rfl (fun hc => (y_indexs rfl Tryd.underlying9 (ev_gv (ev_tmp rfl rfl) hc) (ev_gv (ev_tmp rfl rfl) hc) (ho4 hc))) ?_
        refine s_gval (g_true rfl rfl rfl rfl) rfl (fun hc => (y_neq rfl (ev_gv (ev_tmp rfl rfl) hc) ev_const)) ?_
        refine s_q rfl rfl (y_and rfl (ev_tmp rfl rfl) (ev_tmp rfl rfl)) ?_
        refine s_nil ?_
        refine k_next (e := [(0, (str s1)), (1, (Value.int .i64 at3)), (24, (gv (decide (at3 < (s1.length : Int))) (str s1))), (25, (gv (decide (at3 < (s1.length : Int))) (Value.int .i64 at3))), (26, (gv (decide (at3 < (s1.length : Int))) (Value.int .u8 (at8 s1 (Int.toNat at3))))), (27, (gv (decide (at3 < (s1.length : Int))) (Value.bool (!decide (at8 s1 (Int.toNat at3) = 10))))), (28, (Value.bool ((decide (at3 < (s1.length : Int))) && (!decide (at8 s1 (Int.toNat at3) = 10)))))]) ⟨rfl, rfl, rfl, rfl, rfl, rfl, rfl, trivial⟩ ?_
        refine c_cond (b := (decide (at3 < (s1.length : Int))) && (!decide (at8 s1 (Int.toNat at3) = 10))) (ev_tmp rfl rfl) (fun hb => ?_) (fun hb => ?_)
        all_goals obtain ⟨hT, hF⟩ := h
        · replace h := hT hb
          clear hT hF
          refine c_skip ?_
          refine k_next (e := [(0, (str s1)), (1, (Value.int .i64 at3)), (24, (gv (decide (at3 < (s1.length : Int))) (str s1))), (25, (gv (decide (at3 < (s1.length : Int))) (Value.int .i64 at3))), (26, (gv (decide (at3 < (s1.length : Int))) (Value.int .u8 (at8 s1 (Int.toNat at3))))), (27, (gv (decide (at3 < (s1.length : Int))) (Value.bool (!decide (at8 s1 (Int.toNat at3) = 10)))))]) ⟨rfl, rfl, rfl, rfl, rfl, rfl, trivial⟩ ?_
          refine c_block ?_
          refine c_region ?_
          refine s_q rfl rfl (y_move rfl (ev_tmp rfl rfl)) ?_
          obtain ⟨ho5, h⟩ := h
          refine s_q rfl rfl (y_int (y_add rfl (ev_tmp rfl rfl) ev_const) (wr_i64 ho5)) ?_
          refine s_q rfl rfl (y_assign rfl (ev_tmp rfl rfl)) ?_
          refine s_nil ?_
          exact k_loop (at3 + 1) ⟨rfl, rfl, trivial⟩ ⟨h.1, (Stp.ext0 hS4)⟩ h.2
        · replace h := hF hb
          clear hT hF
          refine c_exit ?_
          refine k_in ?_
          exact k_loop at3 ⟨rfl, rfl, trivial⟩ ⟨h.1, (Stp.ext0 hS4)⟩ h.2
      · replace h := hF hb
        clear hT hF
        refine c_seq ?_
        refine c_region ?_
        refine s_q rfl rfl (y_move rfl (ev_tmp rfl rfl)) ?_
        refine s_q rfl rfl (y_assign rfl (ev_tmp rfl rfl)) ?_
        refine s_nil ?_
        refine k_next (e := [(4, (Value.int .i64 at2))]) ⟨rfl, trivial⟩ ?_
        refine c_ret ?_
        exact q_ret (vs := [(Value.int .i64 at2)]) Tryd.results18 ⟨ev_tmp rfl rfl, trivial⟩ h
  · replace h := hF hb
    clear hT hF
    refine c_exit ?_
    refine k_in ?_
    refine k_next (e := [(1, (Value.int .i64 at2))]) ⟨rfl, trivial⟩ ?_
    refine c_seq ?_
    refine c_region ?_
    refine s_q rfl rfl (y_move rfl (ev_tmp rfl rfl)) ?_
    refine s_q rfl rfl (y_assign rfl (ev_tmp rfl rfl)) ?_
    refine s_nil ?_
    refine k_next (e := [(4, (Value.int .i64 at2))]) ⟨rfl, trivial⟩ ?_
    refine c_ret ?_
    exact q_ret (vs := [(Value.int .i64 at2)]) Tryd.results18 ⟨ev_tmp rfl rfl, trivial⟩ h

/- 'brocade/lexer.skip': what is enough. -/
set_option maxRecDepth 100000 in
set_option maxHeartbeats 4000000 in
theorem vc19 (s1 : List UInt8) (w0 : World) (R : Value → World → Prop)
    (h : ∃ (inv1 : Int → World → Prop) (mu1 : Int → Nat), inv1 0 w0 ∧ (∀ (at1 : Int) (w1 : World), Ext w0 w1 → inv1 at1 w1 → (((decide (at1 < (s1.length : Int))) = true → ((0 : Int) ≤ at1 ∧ at1 < (s1.length : Int)) ∧ (R32 (at8 s1 (Int.toNat at1))) ∧ Calls Tryd.prog 35 #[(Value.int .i32 (at8 s1 (Int.toNat at1)))] w1 (fun e w2 => ∃ (r1 : Bool), e = .returned (Value.bool r1) ∧ Ext w1 w2 ∧ ((r1 = true → (R64 (at1 + 1)) ∧ (inv1 (at1 + 1) w2 ∧ mu1 (at1 + 1) < mu1 at1)) ∧ (r1 = false → (((decide (at8 s1 (Int.toNat at1) = 35)) = true → ((0 : Int) ≤ at1 ∧ at1 ≤ (s1.length : Int)) ∧ Calls Tryd.prog 27 #[(str (s1.drop (Int.toNat at1))), (Value.func (.func 36) #[] #[])] w2 (fun e w3 => ∃ (r2 : Int), e = .returned (Value.int .i64 r2) ∧ Ext w2 w3 ∧ (R64 (at1 + r2)) ∧ (inv1 (at1 + r2) w3 ∧ mu1 (at1 + r2) < mu1 at1))) ∧ ((decide (at8 s1 (Int.toNat at1) = 35)) = false → R (Value.int .i64 at1) w2)))))) ∧ ((decide (at1 < (s1.length : Int))) = false → R (Value.int .i64 at1) w1)))) :
    Calls Tryd.prog 19 #[(str s1)] w0 fun e w' => ∃ v, e = .returned v ∧ R v w' := by
  refine enter (l := [(str s1)]) Tryd.func19 rfl Tryd.ntmps19 rfl ?_
  refine c_seq ?_
  refine c_region ?_
  refine s_q rfl rfl (y_assign rfl ev_const) ?_
  refine s_nil ?_
  refine k_next (e := [(0, (str s1))]) ⟨rfl, trivial⟩ ?_
  refine c_seq ?_
  refine c_region ?_
  refine s_q rfl rfl (y_assign rfl ev_const) ?_
  refine s_nil ?_
  refine k_next (e := [(0, (str s1)), (3, (Value.int .i64 0))]) ⟨rfl, rfl, trivial⟩ ?_
  refine c_seq ?_
  refine c_block ?_
  obtain ⟨inv1, mu1, h0, h⟩ := h
  refine c_loop (α := Int) (fun x => fun w1 => inv1 (x) w1 ∧ (Ext w0 w1)) (fun x => fun w1 => mu1 (x)) (fun x => [(0, (str s1)), (3, (Value.int .i64 x))]) 0 ⟨h0, (Stp.ext0 Stp.start)⟩ ⟨rfl, rfl, trivial⟩ ?_
  clear h0
  rintro at1 w1 ⟨hI1, hf1⟩
  have hf1 : Ext w0 w1 := hf1
  have hS1 : Stp noM w0 noM w1 := (Stp.step Stp.start hf1)
  replace h := h at1 w1 hf1 hI1
  refine c_sub (e := [(0, (str s1)), (3, (Value.int .i64 at1))]) ⟨rfl, rfl, trivial⟩ ?_
  refine c_seq ?_
  refine c_seq ?_
  refine c_region ?_
  refine s_q rfl rfl (y_move rfl (ev_tmp rfl rfl)) ?_
  refine s_q rfl rfl (y_move rfl (ev_tmp rfl rfl)) ?_
  refine s_q rfl rfl (y_lens rfl Tryd.underlying9 (ev_tmp rfl rfl)) ?_
  refine s_q rfl rfl (y_lss rfl (ev_tmp rfl rfl) (ev_tmp rfl rfl)) ?_
  refine s_nil ?_
  refine k_next (e := [(0, (str s1)), (3, (Value.int .i64 at1)), (8, (Value.bool (decide (at1 < (s1.length : Int)))))]) ⟨rfl, rfl, rfl, trivial⟩ ?_
  refine c_cond (b := decide (at1 < (s1.length : Int))) (ev_tmp rfl rfl) (fun hb => ?_) (fun hb => ?_)
  all_goals obtain ⟨hT, hF⟩ := h
  · replace h := hT hb
    clear hT hF
    refine c_skip ?_
    refine k_next (e := [(0, (str s1)), (3, (Value.int .i64 at1))]) ⟨rfl, rfl, trivial⟩ ?_
    refine c_block ?_
    refine c_seq ?_
    refine c_region ?_
    refine s_q rfl rfl (y_move rfl (ev_tmp rfl rfl)) ?_
    refine s_q rfl rfl (y_move rfl (ev_tmp rfl rfl)) ?_
    obtain ⟨ho1, h⟩ := h
    refine s_q rfl rfl (y_indexs rfl Tryd.underlying9 (ev_tmp rfl rfl) (ev_tmp rfl rfl) ho1) ?_
    obtain ⟨ho2, h⟩ := h
    refine s_q rfl rfl (y_int (y_conv rfl (by rw [Tryd.underlying5]; rfl) Tryd.underlying21 (ev_tmp rfl rfl)) (wr_i32 ho2)) ?_
    refine s_q rfl rfl (y_assign rfl (ev_tmp rfl rfl)) ?_
    refine s_nil ?_
    refine k_next (e := [(0, (str s1)), (3, (Value.int .i64 at1)), (4, (Value.int .i32 (at8 s1 (Int.toNat at1))))]) ⟨rfl, rfl, rfl, trivial⟩ ?_
    refine c_block ?_
    refine c_seq ?_
    refine c_region ?_
    refine s_q rfl rfl (y_move rfl (ev_tmp rfl rfl)) ?_
    refine s_call rfl rfl (r_callF (vs := [(Value.int .i32 (at8 s1 (Int.toNat at1)))]) rfl ok_35 ⟨(ev_tmp rfl rfl), trivial⟩) (Calls.mono h ?_)
    rintro _ w2 ⟨r1, rfl, hx1, h⟩
    refine ⟨_, rfl, ?_⟩
    have hS2 : Stp noM w0 noM w2 := Stp.step hS1 hx1
    have hS3 : Stp noM w1 noM w2 := Stp.step (Stp.self hS1) hx1
    refine s_q rfl rfl (y_assign rfl (ev_tmp rfl rfl)) ?_
    refine s_nil ?_
    refine k_next (e := [(0, (str s1)), (3, (Value.int .i64 at1)), (4, (Value.int .i32 (at8 s1 (Int.toNat at1)))), (14, (Value.bool r1))]) ⟨rfl, rfl, rfl, rfl, trivial⟩ ?_
    refine c_cond (b := r1) (ev_tmp rfl rfl) (fun hb => ?_) (fun hb => ?_)
    all_goals obtain ⟨hT, hF⟩ := h
    · replace h := hT hb
      clear hT hF
      refine c_region ?_
      refine s_q rfl rfl (y_move rfl (ev_tmp rfl rfl)) ?_
      obtain ⟨ho3, h⟩ := h
      refine s_q rfl rfl (y_int (y_add rfl (ev_tmp rfl rfl) ev_const) (wr_i64 ho3)) ?_
      refine s_q rfl rfl (y_assign rfl (ev_tmp rfl rfl)) ?_
      refine s_nil ?_
      exact k_loop (at1 + 1) ⟨rfl, rfl, trivial⟩ ⟨h.1, (Stp.ext0 hS2)⟩ h.2
    · replace h := hF hb
      clear hT hF
      refine c_seq ?_
      refine c_region ?_
      refine s_q rfl rfl (y_move rfl (ev_tmp rfl rfl)) ?_
      refine s_q rfl rfl (y_eql rfl (ev_tmp rfl rfl) ev_const) ?_
      refine s_q rfl rfl (y_assign rfl (ev_tmp rfl rfl)) ?_
      refine s_nil ?_
      refine k_next (e := [(0, (str s1)), (3, (Value.int .i64 at1)), (19, (Value.bool (decide (at8 s1 (Int.toNat at1) = 35))))]) ⟨rfl, rfl, rfl, trivial⟩ ?_
      refine c_cond (b := decide (at8 s1 (Int.toNat at1) = 35)) (ev_tmp rfl rfl) (fun hb => ?_) (fun hb => ?_)
      all_goals obtain ⟨hT, hF⟩ := h
      · replace h := hT hb
        clear hT hF
        refine c_region ?_
        refine s_q rfl rfl (y_move rfl (ev_tmp rfl rfl)) ?_
        refine s_q rfl rfl (y_move rfl (ev_tmp rfl rfl)) ?_
        refine s_q rfl rfl (y_move rfl (ev_tmp rfl rfl)) ?_
        obtain ⟨ho4, h⟩ := h
        refine s_q rfl rfl (y_slices_l rfl rfl Tryd.underlying9 (ev_tmp rfl rfl) (ev_tmp rfl rfl) ho4) ?_
        refine s_call rfl rfl (r_callF (vs := [(str (s1.drop (Int.toNat at1))), (Value.func (.func 36) #[] #[])]) rfl ok_27 ⟨(ev_tmp rfl rfl), ⟨ev_func, trivial⟩⟩) (Calls.mono h ?_)
        rintro _ w3 ⟨r2, rfl, hx2, h⟩
        refine ⟨_, rfl, ?_⟩
        have hS4 : Stp noM w0 noM w3 := Stp.step hS2 hx2
        have hS5 : Stp noM w2 noM w3 := Stp.step (Stp.self hS2) hx2
        obtain ⟨ho5, h⟩ := h
        refine s_q rfl rfl (y_int (y_add rfl (ev_tmp rfl rfl) (ev_tmp rfl rfl)) (wr_i64 ho5)) ?_
        refine s_q rfl rfl (y_assign rfl (ev_tmp rfl rfl)) ?_
        refine s_nil ?_
        exact k_loop (at1 + r2) ⟨rfl, rfl, trivial⟩ ⟨h.1, (Stp.ext0 hS4)⟩ h.2
      · replace h := hF hb
        clear hT hF
        refine c_seq ?_
        refine c_region ?_
        refine s_q rfl rfl (y_move rfl (ev_tmp rfl rfl)) ?_
        refine s_q rfl rfl (y_assign rfl (ev_tmp rfl rfl)) ?_
        refine s_nil ?_
        refine k_next (e := [(2, (Value.int .i64 at1))]) ⟨rfl, trivial⟩ ?_
        refine c_ret ?_
        exact q_ret (vs := [(Value.int .i64 at1)]) Tryd.results19 ⟨ev_tmp rfl rfl, trivial⟩ h
  · replace h := hF hb
    clear hT hF
    refine c_exit ?_
    refine k_in ?_
    refine k_next (e := [(3, (Value.int .i64 at1))]) ⟨rfl, trivial⟩ ?_
    refine c_seq ?_
    refine c_region ?_
    refine s_q rfl rfl (y_move rfl (ev_tmp rfl rfl)) ?_
    refine s_q rfl rfl (y_assign rfl (ev_tmp rfl rfl)) ?_
    refine s_nil ?_
    refine k_next (e := [(2, (Value.int .i64 at1))]) ⟨rfl, trivial⟩ ?_
    refine c_ret ?_
    exact q_ret (vs := [(Value.int .i64 at1)]) Tryd.results19 ⟨ev_tmp rfl rfl, trivial⟩ h

/- 'brocade/lexer.next': what is enough. -/
set_option maxRecDepth 100000 in
set_option maxHeartbeats 4000000 in
theorem vc20 (s1 : List UInt8) (w0 : World) (R : Value → World → Prop)
    (h : ((0 : Int) ≤ 0 ∧ 0 < (s1.length : Int)) ∧ (R32 (at8 s1 (Int.toNat 0))) ∧ Calls Tryd.prog 26 #[(Value.int .i32 (at8 s1 (Int.toNat 0)))] w0 (fun e w1 => ∃ (r1 : Bool), e = .returned (Value.bool r1) ∧ Ext w0 w1 ∧ ((r1 = true → Calls Tryd.prog 27 #[(str s1), (Value.func (.func 28) #[] #[])] w1 (fun e w2 => ∃ (r2 : Int), e = .returned (Value.int .i64 r2) ∧ Ext w1 w2 ∧ R (Value.tuple #[(Value.int .i64 1), (Value.int .i64 r2)]) w2)) ∧ (r1 = false → Calls Tryd.prog 37 #[(Value.int .i32 (at8 s1 (Int.toNat 0)))] w1 (fun e w3 => ∃ (r3 : Bool), e = .returned (Value.bool r3) ∧ Ext w1 w3 ∧ ((r3 = true → Calls Tryd.prog 27 #[(str s1), (Value.func (.func 37) #[] #[])] w3 (fun e w4 => ∃ (r4 : Int), e = .returned (Value.int .i64 r4) ∧ Ext w3 w4 ∧ R (Value.tuple #[(Value.int .i64 2), (Value.int .i64 r4)]) w4)) ∧ (r3 = false → ((((decide (at8 s1 (Int.toNat 0) = 60)) || (decide (at8 s1 (Int.toNat 0) = 61))) && (decide (1 < (s1.length : Int)))) = true → (0 : Int) ≤ 1 ∧ 1 < (s1.length : Int)) ∧ ((((((decide (at8 s1 (Int.toNat 0) = 60)) || (decide (at8 s1 (Int.toNat 0) = 61))) && (decide (1 < (s1.length : Int)))) && (decide (at8 s1 (Int.toNat 1) = 61))) = true → R (Value.tuple #[(Value.int .i64 3), (Value.int .i64 2)]) w3) ∧ (((((decide (at8 s1 (Int.toNat 0) = 60)) || (decide (at8 s1 (Int.toNat 0) = 61))) && (decide (1 < (s1.length : Int)))) && (decide (at8 s1 (Int.toNat 1) = 61))) = false → Calls Tryd.prog 38 #[(Value.int .i32 (at8 s1 (Int.toNat 0)))] w3 (fun e w5 => ∃ (r5 : Bool), e = .returned (Value.bool r5) ∧ Ext w3 w5 ∧ ((r5 = true → R (Value.tuple #[(Value.int .i64 3), (Value.int .i64 1)]) w5) ∧ (r5 = false → R (Value.tuple #[(Value.int .i64 0), (Value.int .i64 0)]) w5)))))))))))) :
    Calls Tryd.prog 20 #[(str s1)] w0 fun e w' => ∃ v, e = .returned v ∧ R v w' := by
  refine enter (l := [(str s1)]) Tryd.func20 rfl Tryd.ntmps20 rfl ?_
  refine c_seq ?_
  refine c_region ?_
  refine s_q rfl rfl (y_assign rfl ev_const) ?_
  refine s_q rfl rfl (y_assign rfl ev_const) ?_
  refine s_nil ?_
  refine k_next (e := [(0, (str s1))]) ⟨rfl, trivial⟩ ?_
  refine c_seq ?_
  refine c_region ?_
  refine s_q rfl rfl (y_move rfl (ev_tmp rfl rfl)) ?_
  obtain ⟨ho1, h⟩ := h
  refine s_q rfl rfl (y_indexs rfl Tryd.underlying9 (ev_tmp rfl rfl) ev_const ho1) ?_
  obtain ⟨ho2, h⟩ := h
  refine s_q rfl rfl (y_int (y_conv rfl (by rw [Tryd.underlying5]; rfl) Tryd.underlying21 (ev_tmp rfl rfl)) (wr_i32 ho2)) ?_
  refine s_q rfl rfl (y_assign rfl (ev_tmp rfl rfl)) ?_
  refine s_nil ?_
  refine k_next (e := [(0, (str s1)), (4, (Value.int .i32 (at8 s1 (Int.toNat 0))))]) ⟨rfl, rfl, trivial⟩ ?_
  refine c_seq ?_
  refine c_block ?_
  refine c_seq ?_
  refine c_region ?_
  refine s_q rfl rfl (y_move rfl (ev_tmp rfl rfl)) ?_
  refine s_call rfl rfl (r_callF (vs := [(Value.int .i32 (at8 s1 (Int.toNat 0)))]) rfl ok_26 ⟨(ev_tmp rfl rfl), trivial⟩) (Calls.mono h ?_)
  rintro _ w1 ⟨r1, rfl, hx1, h⟩
  refine ⟨_, rfl, ?_⟩
  have hS1 : Stp noM w0 noM w1 := Stp.step Stp.start hx1
  refine s_q rfl rfl (y_assign rfl (ev_tmp rfl rfl)) ?_
  refine s_nil ?_
  refine k_next (e := [(0, (str s1)), (4, (Value.int .i32 (at8 s1 (Int.toNat 0)))), (8, (Value.bool r1))]) ⟨rfl, rfl, rfl, trivial⟩ ?_
  refine c_cond (b := r1) (ev_tmp rfl rfl) (fun hb => ?_) (fun hb => ?_)
  all_goals obtain ⟨hT, hF⟩ := h
  · replace h := hT hb
    clear hT hF
    refine c_seq ?_
    refine c_region ?_
    refine s_q rfl rfl (y_move rfl (ev_tmp rfl rfl)) ?_
    refine s_call rfl rfl (r_callF (vs := [(str s1), (Value.func (.func 28) #[] #[])]) rfl ok_27 ⟨(ev_tmp rfl rfl), ⟨ev_func, trivial⟩⟩) (Calls.mono h ?_)
    rintro _ w2 ⟨r2, rfl, hx2, h⟩
    refine ⟨_, rfl, ?_⟩
    have hS2 : Stp noM w0 noM w2 := Stp.step hS1 hx2
    have hS3 : Stp noM w1 noM w2 := Stp.step (Stp.self hS1) hx2
    refine s_q rfl rfl (y_assign rfl ev_const) ?_
    refine s_q rfl rfl (y_assign rfl (ev_tmp rfl rfl)) ?_
    refine s_nil ?_
    refine k_next (e := [(2, (Value.int .i64 1)), (3, (Value.int .i64 r2))]) ⟨rfl, rfl, trivial⟩ ?_
    refine c_ret ?_
    exact q_ret (vs := [(Value.int .i64 1), (Value.int .i64 r2)]) Tryd.results20 ⟨ev_tmp rfl rfl, ⟨ev_tmp rfl rfl, trivial⟩⟩ h
  · replace h := hF hb
    clear hT hF
    refine c_seq ?_
    refine c_region ?_
    refine s_q rfl rfl (y_move rfl (ev_tmp rfl rfl)) ?_
    refine s_call rfl rfl (r_callF (vs := [(Value.int .i32 (at8 s1 (Int.toNat 0)))]) rfl ok_37 ⟨(ev_tmp rfl rfl), trivial⟩) (Calls.mono h ?_)
    rintro _ w3 ⟨r3, rfl, hx3, h⟩
    refine ⟨_, rfl, ?_⟩
    have hS4 : Stp noM w0 noM w3 := Stp.step hS1 hx3
    have hS5 : Stp noM w1 noM w3 := Stp.step (Stp.self hS1) hx3
    refine s_q rfl rfl (y_assign rfl (ev_tmp rfl rfl)) ?_
    refine s_nil ?_
    refine k_next (e := [(0, (str s1)), (4, (Value.int .i32 (at8 s1 (Int.toNat 0)))), (13, (Value.bool r3))]) ⟨rfl, rfl, rfl, trivial⟩ ?_
    refine c_cond (b := r3) (ev_tmp rfl rfl) (fun hb => ?_) (fun hb => ?_)
    all_goals obtain ⟨hT, hF⟩ := h
    · replace h := hT hb
      clear hT hF
      refine c_seq ?_
      refine c_region ?_
      refine s_q rfl rfl (y_move rfl (ev_tmp rfl rfl)) ?_
      refine s_call rfl rfl (r_callF (vs := [(str s1), (Value.func (.func 37) #[] #[])]) rfl ok_27 ⟨(ev_tmp rfl rfl), ⟨ev_func, trivial⟩⟩) (Calls.mono h ?_)
      rintro _ w4 ⟨r4, rfl, hx4, h⟩
      refine ⟨_, rfl, ?_⟩
      have hS6 : Stp noM w0 noM w4 := Stp.step hS4 hx4
      have hS7 : Stp noM w3 noM w4 := Stp.step (Stp.self hS4) hx4
      refine s_q rfl rfl (y_assign rfl ev_const) ?_
      refine s_q rfl rfl (y_assign rfl (ev_tmp rfl rfl)) ?_
      refine s_nil ?_
      refine k_next (e := [(2, (Value.int .i64 2)), (3, (Value.int .i64 r4))]) ⟨rfl, rfl, trivial⟩ ?_
      refine c_ret ?_
      exact q_ret (vs := [(Value.int .i64 2), (Value.int .i64 r4)]) Tryd.results20 ⟨ev_tmp rfl rfl, ⟨ev_tmp rfl rfl, trivial⟩⟩ h
    · replace h := hF hb
      clear hT hF
      refine c_seq ?_
      refine c_region ?_
      refine s_q rfl rfl (y_move rfl (ev_tmp rfl rfl)) ?_
      refine s_q rfl rfl (y_eql rfl (ev_tmp rfl rfl) ev_const) ?_
      refine s_q rfl rfl (y_move rfl (ev_tmp rfl rfl)) ?_
      refine s_gval (g_false rfl rfl rfl rfl) rfl (fun hc => (y_move rfl (ev_tmp rfl rfl))) ?_
      refine s_gval (g_false rfl rfl rfl rfl) rfl (fun hc => (y_eql rfl (ev_gv (ev_tmp rfl rfl) hc) ev_const)) ?_
      refine s_q rfl rfl (y_or rfl (ev_tmp rfl rfl) (ev_tmp rfl rfl)) ?_
      refine s_q rfl rfl (y_move rfl (ev_tmp rfl rfl)) ?_
      refine s_gval (g_true rfl rfl rfl rfl) rfl (fun hc => (y_move rfl (ev_tmp rfl rfl))) ?_
      refine s_gval (g_true rfl rfl rfl rfl) rfl (fun hc => (y_lens rfl Tryd.underlying9 (ev_gv (ev_tmp rfl rfl) hc))) ?_
      refine s_gval (g_true rfl rfl rfl rfl) rfl (fun hc => (y_gtr rfl (ev_gv (ev_tmp rfl rfl) hc) ev_const)) ?_
      refine s_q rfl rfl (y_and rfl (ev_tmp rfl rfl) (ev_tmp rfl rfl)) ?_
      refine s_q rfl rfl (y_move rfl (ev_tmp rfl rfl)) ?_
      refine s_gval (g_true rfl rfl rfl rfl) rfl (fun hc => (y_move rfl (ev_tmp rfl rfl))) ?_
      obtain ⟨ho3, h⟩ := h
      refine s_gval (g_true rfl rfl rfl rfl) rfl (fun hc => (y_indexs rfl Tryd.underlying9 (ev_gv (ev_tmp rfl rfl) hc) ev_const (ho3 hc))) ?_
      refine s_gval (g_true rfl rfl rfl rfl) rfl (fun hc => (y_eql rfl (ev_gv (ev_tmp rfl rfl) hc) ev_const)) ?_
      refine s_q rfl rfl (y_and rfl (ev_tmp rfl rfl) (ev_tmp rfl rfl)) ?_
      refine s_q rfl rfl (y_assign rfl (ev_tmp rfl rfl)) ?_
      refine s_nil ?_
      refine k_next (e := [(4, (Value.int .i32 (at8 s1 (Int.toNat 0)))), (18, (Value.bool ((((decide (at8 s1 (Int.toNat 0) = 60)) || (decide (at8 s1 (Int.toNat 0) = 61))) && (decide (1 < (s1.length : Int)))) && (decide (at8 s1 (Int.toNat 1) = 61)))))]) ⟨rfl, rfl, trivial⟩ ?_
      refine c_cond (b := (((decide (at8 s1 (Int.toNat 0) = 60)) || (decide (at8 s1 (Int.toNat 0) = 61))) && (decide (1 < (s1.length : Int)))) && (decide (at8 s1 (Int.toNat 1) = 61))) (ev_tmp rfl rfl) (fun hb => ?_) (fun hb => ?_)
      all_goals obtain ⟨hT, hF⟩ := h
      · replace h := hT hb
        clear hT hF
        refine c_seq ?_
        refine c_region ?_
        refine s_q rfl rfl (y_assign rfl ev_const) ?_
        refine s_q rfl rfl (y_assign rfl ev_const) ?_
        refine s_nil ?_
        refine k_next (e := [(2, (Value.int .i64 3)), (3, (Value.int .i64 2))]) ⟨rfl, rfl, trivial⟩ ?_
        refine c_ret ?_
        exact q_ret (vs := [(Value.int .i64 3), (Value.int .i64 2)]) Tryd.results20 ⟨ev_tmp rfl rfl, ⟨ev_tmp rfl rfl, trivial⟩⟩ h
      · replace h := hF hb
        clear hT hF
        refine c_seq ?_
        refine c_region ?_
        refine s_q rfl rfl (y_move rfl (ev_tmp rfl rfl)) ?_
        refine s_call rfl rfl (r_callF (vs := [(Value.int .i32 (at8 s1 (Int.toNat 0)))]) rfl ok_38 ⟨(ev_tmp rfl rfl), trivial⟩) (Calls.mono h ?_)
        rintro _ w5 ⟨r5, rfl, hx5, h⟩
        refine ⟨_, rfl, ?_⟩
        have hS8 : Stp noM w0 noM w5 := Stp.step hS4 hx5
        have hS9 : Stp noM w3 noM w5 := Stp.step (Stp.self hS4) hx5
        refine s_q rfl rfl (y_assign rfl (ev_tmp rfl rfl)) ?_
        refine s_nil ?_
        refine k_next (e := [(35, (Value.bool r5))]) ⟨rfl, trivial⟩ ?_
        refine c_cond (b := r5) (ev_tmp rfl rfl) (fun hb => ?_) (fun hb => ?_)
        all_goals obtain ⟨hT, hF⟩ := h
        · replace h := hT hb
          clear hT hF
          refine c_seq ?_
          refine c_region ?_
          refine s_q rfl rfl (y_assign rfl ev_const) ?_
          refine s_q rfl rfl (y_assign rfl ev_const) ?_
          refine s_nil ?_
          refine k_next (e := [(2, (Value.int .i64 3)), (3, (Value.int .i64 1))]) ⟨rfl, rfl, trivial⟩ ?_
          refine c_ret ?_
          exact q_ret (vs := [(Value.int .i64 3), (Value.int .i64 1)]) Tryd.results20 ⟨ev_tmp rfl rfl, ⟨ev_tmp rfl rfl, trivial⟩⟩ h
        · replace h := hF hb
          clear hT hF
          refine c_skip ?_
          refine k_next (e := []) trivial ?_
          refine c_seq ?_
          refine c_region ?_
          refine s_q rfl rfl (y_assign rfl ev_const) ?_
          refine s_q rfl rfl (y_assign rfl ev_const) ?_
          refine s_nil ?_
          refine k_next (e := [(2, (Value.int .i64 0)), (3, (Value.int .i64 0))]) ⟨rfl, rfl, trivial⟩ ?_
          refine c_ret ?_
          exact q_ret (vs := [(Value.int .i64 0), (Value.int .i64 0)]) Tryd.results20 ⟨ev_tmp rfl rfl, ⟨ev_tmp rfl rfl, trivial⟩⟩ h

/- 'brocade/brocaderef13.run': what is enough. -/
set_option maxRecDepth 100000 in
set_option maxHeartbeats 4000000 in
theorem vc21 (s1 : List UInt8) (w0 : World) (R : Value → World → Prop)
    (h : ((!(decide (s1 = ([] : List UInt8)))) = true → (0 : Int) ≤ 0 ∧ 0 < (s1.length : Int)) ∧ ∃ q1 : Bool → World → Prop, ((!(decide (s1 = ([] : List UInt8)))) = true → Calls Tryd.prog 39 #[(Value.int .u8 (at8 s1 (Int.toNat 0)))] w0 (fun e w1 => ∃ (r1 : Bool), e = .returned (Value.bool r1) ∧ Ext w0 w1 ∧ q1 r1 w1)) ∧ (∀ (r1 : Bool) (w1 : World), Ext w0 w1 → ((!(decide (s1 = ([] : List UInt8)))) = true → q1 r1 w1) → (((!(decide (s1 = ([] : List UInt8)))) && (!r1)) = true → (0 : Int) ≤ 0 ∧ 0 < (s1.length : Int)) ∧ ∃ q2 : Bool → World → Prop, (((!(decide (s1 = ([] : List UInt8)))) && (!r1)) = true → Calls Tryd.prog 40 #[(Value.int .u8 (at8 s1 (Int.toNat 0)))] w1 (fun e w2 => ∃ (r2 : Bool), e = .returned (Value.bool r2) ∧ Ext w1 w2 ∧ q2 r2 w2)) ∧ (∀ (r2 : Bool) (w2 : World), Ext w1 w2 → (((!(decide (s1 = ([] : List UInt8)))) && (!r1)) = true → q2 r2 w2) → ((((decide (s1 = ([] : List UInt8))) || ((!r1) && (!r2))) = true → R (Value.tuple #[(Value.int .i64 0), (Value.int .i64 0)]) w2) ∧ (((decide (s1 = ([] : List UInt8))) || ((!r1) && (!r2))) = false → ∃ j1 : Int → World → Prop, (((0 : Int) ≤ 0 ∧ 0 < (s1.length : Int)) ∧ Calls Tryd.prog 39 #[(Value.int .u8 (at8 s1 (Int.toNat 0)))] w2 (fun e w7 => ∃ (r5 : Bool), e = .returned (Value.bool r5) ∧ Ext w2 w7 ∧ ((r5 = true → j1 1 w7) ∧ (r5 = false → j1 2 w7)))) ∧ (∀ (kind1 : Int) (w3 : World), j1 kind1 w3 → ∃ (inv1 : Int → World → Prop) (mu1 : Int → Nat), inv1 0 w3 ∧ (∀ (n1 : Int) (w4 : World), Ext w0 w4 → inv1 n1 w4 → ((decide (n1 < (s1.length : Int))) = true → (0 : Int) ≤ n1 ∧ n1 < (s1.length : Int)) ∧ ∃ q3 : Bool → World → Prop, ((decide (n1 < (s1.length : Int))) = true → Calls Tryd.prog 40 #[(Value.int .u8 (at8 s1 (Int.toNat n1)))] w4 (fun e w5 => ∃ (r3 : Bool), e = .returned (Value.bool r3) ∧ Ext w4 w5 ∧ q3 r3 w5)) ∧ (∀ (r3 : Bool) (w5 : World), Ext w4 w5 → ((decide (n1 < (s1.length : Int))) = true → q3 r3 w5) → ((((decide (n1 < (s1.length : Int))) && !r3) && (decide (kind1 = 1))) = true → (0 : Int) ≤ n1 ∧ n1 < (s1.length : Int)) ∧ ∃ q4 : Bool → World → Prop, ((((decide (n1 < (s1.length : Int))) && !r3) && (decide (kind1 = 1))) = true → Calls Tryd.prog 39 #[(Value.int .u8 (at8 s1 (Int.toNat n1)))] w5 (fun e w6 => ∃ (r4 : Bool), e = .returned (Value.bool r4) ∧ Ext w5 w6 ∧ q4 r4 w6)) ∧ (∀ (r4 : Bool) (w6 : World), Ext w5 w6 → ((((decide (n1 < (s1.length : Int))) && !r3) && (decide (kind1 = 1))) = true → q4 r4 w6) → (((((decide (n1 < (s1.length : Int))) && !r3) && (decide (kind1 = 1))) && !r4) = true → (0 : Int) ≤ n1 ∧ n1 < (s1.length : Int)) ∧ ((((decide (n1 < (s1.length : Int))) && (r3 || ((decide (kind1 = 1)) && (r4 || (decide (at8 s1 (Int.toNat n1) = 95)))))) = true → (R64 (n1 + 1)) ∧ (inv1 (n1 + 1) w6 ∧ mu1 (n1 + 1) < mu1 n1)) ∧ (((decide (n1 < (s1.length : Int))) && (r3 || ((decide (kind1 = 1)) && (r4 || (decide (at8 s1 (Int.toNat n1) = 95)))))) = false → R (Value.tuple #[(Value.int .i64 n1), (Value.int .i64 kind1)]) w6))))))))))) :
    Calls Tryd.prog 21 #[(str s1)] w0 fun e w' => ∃ v, e = .returned v ∧ R v w' := by
  refine enter (l := [(str s1)]) Tryd.func21 rfl Tryd.ntmps21 rfl ?_
  refine c_seq ?_
  refine c_region ?_
  refine s_q rfl rfl (y_assign rfl ev_const) ?_
  refine s_q rfl rfl (y_assign rfl ev_const) ?_
  refine s_nil ?_
  refine k_next (e := [(0, (str s1))]) ⟨rfl, trivial⟩ ?_
  refine c_seq ?_
  refine c_seq ?_
  refine c_region ?_
  refine s_q rfl rfl (y_move rfl (ev_tmp rfl rfl)) ?_
  refine s_q rfl rfl (y_eqs rfl (ev_tmp rfl rfl) ev_const) ?_
  refine s_q rfl rfl (y_move rfl (ev_tmp rfl rfl)) ?_
  refine s_gval (g_false rfl rfl rfl rfl) rfl (fun hc => (y_move rfl (ev_tmp rfl rfl))) ?_
  obtain ⟨ho1, h⟩ := h
  refine s_gval (g_false rfl rfl rfl rfl) rfl (fun hc => (y_indexs rfl Tryd.underlying9 (ev_gv (ev_tmp rfl rfl) hc) ev_const (ho1 hc))) ?_
  obtain ⟨q1, hq2, h⟩ := h
  refine s_gcallT (α := Bool) (fun x => (Value.bool x)) (fun x => fun w => q1 (x) w) (g_false rfl rfl rfl rfl) rfl (fun hc => (r_callF (vs := [(Value.int .u8 (at8 s1 (Int.toNat 0)))]) rfl ok_39 ⟨(ev_gv (ev_tmp rfl rfl) hc), trivial⟩)) (fun hc => (hq2 hc).mono ?_) ?_
  · rintro _ w' ⟨r1, rfl, hE', hq'⟩; exact ⟨r1, rfl, hE', hq'⟩
  rintro r1 w1 hx1 hq1
  replace h := h r1 w1 hx1 hq1
  have hS1 : Stp noM w0 noM w1 := Stp.step Stp.start hx1
  refine s_gval (g_false rfl rfl rfl rfl) rfl (fun hc => (y_not rfl (ev_gv (ev_tmp rfl rfl) hc))) ?_
  refine s_gval (g_false rfl rfl rfl rfl) rfl (fun hc => (y_move rfl (ev_gv (ev_tmp rfl rfl) hc))) ?_
  refine s_gval (g_true2 rfl rfl rfl rfl) rfl (fun hc => (y_move rfl (ev_tmp rfl rfl))) ?_
  obtain ⟨ho2, h⟩ := h
  refine s_gval (g_true2 rfl rfl rfl rfl) rfl (fun hc => (y_indexs rfl Tryd.underlying9 (ev_gv (ev_tmp rfl rfl) hc) ev_const (ho2 hc))) ?_
  obtain ⟨q2, hq4, h⟩ := h
  refine s_gcallT (α := Bool) (fun x => (Value.bool x)) (fun x => fun w => q2 (x) w) (g_true2 rfl rfl rfl rfl) rfl (fun hc => (r_callF (vs := [(Value.int .u8 (at8 s1 (Int.toNat 0)))]) rfl ok_40 ⟨(ev_gv (ev_tmp rfl rfl) hc), trivial⟩)) (fun hc => (hq4 hc).mono ?_) ?_
  · rintro _ w' ⟨r2, rfl, hE', hq'⟩; exact ⟨r2, rfl, hE', hq'⟩
  rintro r2 w2 hx2 hq3
  replace h := h r2 w2 hx2 hq3
  have hS2 : Stp noM w0 noM w2 := Stp.step hS1 hx2
  have hS3 : Stp noM w1 noM w2 := Stp.step (Stp.self hS1) hx2
  refine s_gval (g_true2 rfl rfl rfl rfl) rfl (fun hc => (y_not rfl (ev_gv (ev_tmp rfl rfl) hc))) ?_
  refine s_gval (g_false rfl rfl rfl rfl) rfl (fun hc => (y_and2 rfl hc (ev_tmp rfl rfl) (ev_tmp rfl rfl))) ?_
  refine s_q rfl rfl (y_or rfl (ev_tmp rfl rfl) (ev_tmp rfl rfl)) ?_
  refine s_nil ?_
  refine k_next (e := [(0, (str s1)), (19, (Value.bool ((decide (s1 = ([] : List UInt8))) || ((!r1) && (!r2)))))]) ⟨rfl, rfl, trivial⟩ ?_
  refine c_cond (b := (decide (s1 = ([] : List UInt8))) || ((!r1) && (!r2))) (ev_tmp rfl rfl) (fun hb => ?_) (fun hb => ?_)
  all_goals obtain ⟨hT, hF⟩ := h
  · replace h := hT hb
    clear hT hF
    refine c_seq ?_
    refine c_region ?_
    refine s_q rfl rfl (y_assign rfl ev_const) ?_
    refine s_q rfl rfl (y_assign rfl ev_const) ?_
    refine s_nil ?_
    refine k_next (e := [(2, (Value.int .i64 0)), (3, (Value.int .i64 0))]) ⟨rfl, rfl, trivial⟩ ?_
    refine c_ret ?_
    exact q_ret (vs := [(Value.int .i64 0), (Value.int .i64 0)]) Tryd.results21 ⟨ev_tmp rfl rfl, ⟨ev_tmp rfl rfl, trivial⟩⟩ h
  · replace h := hF hb
    clear hT hF
    refine c_skip ?_
    refine k_next (e := [(0, (str s1))]) ⟨rfl, trivial⟩ ?_
    refine c_seq ?_
    refine c_region ?_
    refine s_q rfl rfl (y_assign rfl ev_const) ?_
    refine s_nil ?_
    refine k_next (e := [(0, (str s1)), (4, (Value.int .i64 2))]) ⟨rfl, rfl, trivial⟩ ?_
    obtain ⟨j1, hX, hY⟩ := h
    refine c_join (α := Int) (fun x => [(0, (str s1)), (4, (Value.int .i64 x))]) (fun x => fun w3 => j1 (x) w3 ∧ (Ext w0 w3)) ?_ ?_
    · clear hX; rintro kind1 w3 ⟨hj1, hf1⟩
      have h := hY kind1 w3 hj1
      clear hY
      have hf1 : Ext w0 w3 := hf1
      have hS4 : Stp noM w0 noM w3 := (Stp.step Stp.start hf1)
      refine c_sub (e := [(0, (str s1)), (4, (Value.int .i64 kind1))]) ⟨rfl, rfl, trivial⟩ ?_
      refine c_seq ?_
      refine c_region ?_
      refine s_q rfl rfl (y_assign rfl ev_const) ?_
      refine s_nil ?_
      refine k_next (e := [(0, (str s1)), (4, (Value.int .i64 kind1)), (5, (Value.int .i64 0))]) ⟨rfl, rfl, rfl, trivial⟩ ?_
      refine c_seq ?_
      refine c_block ?_
      obtain ⟨inv1, mu1, h0, h⟩ := h
      refine c_loop (α := Int) (fun x => fun w4 => inv1 (x) w4 ∧ (Ext w0 w4)) (fun x => fun w4 => mu1 (x)) (fun x => [(0, (str s1)), (4, (Value.int .i64 kind1)), (5, (Value.int .i64 x))]) 0 ⟨h0, (Stp.ext0 hS4)⟩ ⟨rfl, rfl, rfl, trivial⟩ ?_
      clear h0
      rintro n1 w4 ⟨hI1, hf2⟩
      have hf2 : Ext w0 w4 := hf2
      have hS5 : Stp noM w0 noM w4 := (Stp.step Stp.start hf2)
      replace h := h n1 w4 hf2 hI1
      refine c_sub (e := [(0, (str s1)), (4, (Value.int .i64 kind1)), (5, (Value.int .i64 n1))]) ⟨rfl, rfl, rfl, trivial⟩ ?_
      refine c_seq ?_
      refine c_seq ?_
      refine c_region ?_
      refine s_q rfl rfl (y_move rfl (ev_tmp rfl rfl)) ?_
      refine s_q rfl rfl (y_move rfl (ev_tmp rfl rfl)) ?_
      refine s_q rfl rfl (y_lens rfl Tryd.underlying9 (ev_tmp rfl rfl)) ?_
      refine s_q rfl rfl (y_lss rfl (ev_tmp rfl rfl) (ev_tmp rfl rfl)) ?_
      refine s_q rfl rfl (y_move rfl (ev_tmp rfl rfl)) ?_
      refine s_gval (g_true rfl rfl rfl rfl) rfl (fun hc => (y_move rfl (ev_tmp rfl rfl))) ?_
      refine s_gval (g_true rfl rfl rfl rfl) rfl (fun hc => (y_move rfl (ev_tmp rfl rfl))) ?_
      obtain ⟨ho3, h⟩ := h
      refine s_gval (g_true rfl rfl rfl rfl) rfl (fun hc => (y_indexs rfl Tryd.underlying9 (ev_gv (ev_tmp rfl rfl) hc) (ev_gv (ev_tmp rfl rfl) hc) (ho3 hc))) ?_
      obtain ⟨q3, hq6, h⟩ := h
      refine s_gcallT (α := Bool) (fun x => (Value.bool x)) (fun x => fun w => q3 (x) w) (g_true rfl rfl rfl rfl) rfl (fun hc => (r_callF (vs := [(Value.int .u8 (at8 s1 (Int.toNat n1)))]) rfl ok_40 ⟨(ev_gv (ev_tmp rfl rfl) hc), trivial⟩)) (fun hc => (hq6 hc).mono ?_) ?_
      · rintro _ w' ⟨r3, rfl, hE', hq'⟩; exact ⟨r3, rfl, hE', hq'⟩
      rintro r3 w5 hx3 hq5
      replace h := h r3 w5 hx3 hq5
      have hS6 : Stp noM w0 noM w5 := Stp.step hS5 hx3
      have hS7 : Stp noM w4 noM w5 := Stp.step (Stp.self hS5) hx3
      refine s_gval (g_true rfl rfl rfl rfl) rfl (fun hc => (y_move rfl (ev_gv (ev_tmp rfl rfl) hc))) ?_
      refine s_gval (g_false2 rfl rfl rfl rfl) rfl (fun hc => (y_move rfl (ev_tmp rfl rfl))) ?_
      refine s_gval (g_false2 rfl rfl rfl rfl) rfl (fun hc => (y_eql rfl (ev_gv (ev_tmp rfl rfl) hc) ev_const)) ?_
      refine s_gval (g_false2 rfl rfl rfl rfl) rfl (fun hc => (y_move rfl (ev_gv (ev_tmp rfl rfl) hc))) ?_
      refine s_gval (g_true2 rfl rfl rfl rfl) rfl (fun hc => (y_move rfl (ev_tmp rfl rfl))) ?_
      refine s_gval (g_true2 rfl rfl rfl rfl) rfl (fun hc => (y_move rfl (ev_tmp rfl rfl))) ?_
      obtain ⟨ho4, h⟩ := h
      refine s_gval (g_true2 rfl rfl rfl rfl) rfl (fun hc => (y_indexs rfl Tryd.underlying9 (ev_gv (ev_tmp rfl rfl) hc) (ev_gv (ev_tmp rfl rfl) hc) (ho4 hc))) ?_
      obtain ⟨q4, hq8, h⟩ := h
      refine s_gcallT (α := Bool) (fun x => (Value.bool x)) (fun x => fun w => q4 (x) w) (g_true2 rfl rfl rfl rfl) rfl (fun hc => (r_callF (vs := [(Value.int .u8 (at8 s1 (Int.toNat n1)))]) rfl ok_39 ⟨(ev_gv (ev_tmp rfl rfl) hc), trivial⟩)) (fun hc => (hq8 hc).mono ?_) ?_
      · rintro _ w' ⟨r4, rfl, hE', hq'⟩; exact ⟨r4, rfl, hE', hq'⟩
      rintro r4 w6 hx4 hq7
      replace h := h r4 w6 hx4 hq7
      have hS8 : Stp noM w0 noM w6 := Stp.step hS6 hx4
      have hS9 : Stp noM w5 noM w6 := Stp.step (Stp.self hS6) hx4
      refine s_gval (g_true2 rfl rfl rfl rfl) rfl (fun hc => (y_move rfl (ev_gv (ev_tmp rfl rfl) hc))) ?_
      refine s_gval (g_false2 rfl rfl rfl rfl) rfl (fun hc => (y_move rfl (ev_tmp rfl rfl))) ?_
      refine s_gval (g_false2 rfl rfl rfl rfl) rfl (fun hc => (y_move rfl (ev_tmp rfl rfl))) ?_
      obtain ⟨ho5, h⟩ := h
      refine s_gval (g_false2 rfl rfl rfl rfl) rfl (fun hc => (y_indexs rfl Tryd.underlying9 (ev_gv (ev_tmp rfl rfl) hc) (ev_gv (ev_tmp rfl rfl) hc) (ho5 hc))) ?_
      refine s_gval (g_false2 rfl rfl rfl rfl) rfl (fun hc => (y_eql rfl (ev_gv (ev_tmp rfl rfl) hc) ev_const)) ?_
      refine s_gval (g_true2 rfl rfl rfl rfl) rfl (fun hc => (y_or2 rfl hc (ev_tmp rfl rfl) (ev_tmp rfl rfl))) ?_
      refine s_gval (g_false2 rfl rfl rfl rfl) rfl (fun hc => (y_and2 rfl hc (ev_tmp rfl rfl) (ev_tmp rfl rfl))) ?_
      refine s_gval (g_true rfl rfl rfl rfl) rfl (fun hc => (y_or2 rfl hc (ev_tmp rfl rfl) (ev_tmp rfl rfl))) ?_
      refine s_q rfl rfl (y_and rfl (ev_tmp rfl rfl) (ev_tmp rfl rfl)) ?_
      refine s_nil ?_
      refine k_next (e := [(0, (str s1)), (4, (Value.int .i64 kind1)), (5, (Value.int .i64 n1)), (28, (gv (decide (n1 < (s1.length : Int))) (str s1))), (29, (gv (decide (n1 < (s1.length : Int))) (Value.int .i64 n1))), (30, (gv (decide (n1 < (s1.length : Int))) (Value.int .u8 (at8 s1 (Int.toNat n1))))), (31, (gv (decide (n1 < (s1.length : Int))) (Value.bool r3))), (32, (gv (decide (n1 < (s1.length : Int))) (Value.bool r3))), (33, (gv ((decide (n1 < (s1.length : Int))) && !r3) (Value.int .i64 kind1))), (34, (gv ((decide (n1 < (s1.length : Int))) && !r3) (Value.bool (decide (kind1 = 1))))), (35, (gv ((decide (n1 < (s1.length : Int))) && !r3) (Value.bool (decide (kind1 = 1))))), (36, (gv (((decide (n1 < (s1.length : Int))) && !r3) && (decide (kind1 = 1))) (str s1))), (37, (gv (((decide (n1 < (s1.length : Int))) && !r3) && (decide (kind1 = 1))) (Value.int .i64 n1))), (38, (gv (((decide (n1 < (s1.length : Int))) && !r3) && (decide (kind1 = 1))) (Value.int .u8 (at8 s1 (Int.toNat n1))))), (39, (gv (((decide (n1 < (s1.length : Int))) && !r3) && (decide (kind1 = 1))) (Value.bool r4))), (40, (gv (((decide (n1 < (s1.length : Int))) && !r3) && (decide (kind1 = 1))) (Value.bool r4))), (41, (gv ((((decide (n1 < (s1.length : Int))) && !r3) && (decide (kind1 = 1))) && !r4) (str s1))), (42, (gv ((((decide (n1 < (s1.length : Int))) && !r3) && (decide (kind1 = 1))) && !r4) (Value.int .i64 n1))), (43, (gv ((((decide (n1 < (s1.length : Int))) && !r3) && (decide (kind1 = 1))) && !r4) (Value.int .u8 (at8 s1 (Int.toNat n1))))), (44, (gv ((((decide (n1 < (s1.length : Int))) && !r3) && (decide (kind1 = 1))) && !r4) (Value.bool (decide (at8 s1 (Int.toNat n1) = 95))))), (45, (gv (((decide (n1 < (s1.length : Int))) && !r3) && (decide (kind1 = 1))) (Value.bool (r4 || (decide (at8 s1 (Int.toNat n1) = 95)))))), (46, (gv ((decide (n1 < (s1.length : Int))) && !r3) (Value.bool ((decide (kind1 = 1)) && (r4 || (decide (at8 s1 (Int.toNat n1) = 95))))))), (47, (gv (decide (n1 < (s1.length : Int))) (Value.bool (r3 || ((decide (kind1 = 1)) && (r4 || (decide (at8 s1 (Int.toNat n1) = 95)))))))), (48, (Value.bool ((decide (n1 < (s1.length : Int))) && (r3 || ((decide (kind1 = 1)) && (r4 || (decide (at8 s1 (Int.toNat n1) = 95))))))))]) ⟨rfl, rfl, rfl, rfl, rfl, rfl, rfl, rfl, rfl, rfl, rfl, rfl, rfl, rfl, rfl, rfl, rfl, rfl, rfl, rfl, rfl, rfl, rfl, rfl, trivial⟩ ?_
      refine c_cond (b := (decide (n1 < (s1.length : Int))) && (r3 || ((decide (kind1 = 1)) && (r4 || (decide (at8 s1 (Int.toNat n1) = 95)))))) (ev_tmp rfl rfl) (fun hb => ?_) (fun hb => ?_)
      all_goals obtain ⟨hT, hF⟩ := h
      · replace h := hT hb
        clear hT hF
        refine c_skip ?_
        refine k_next (e := [(0, (str s1)), (4, (Value.int .i64 kind1)), (5, (Value.int .i64 n1)), (28, (gv (decide (n1 < (s1.length : Int))) (str s1))), (29, (gv (decide (n1 < (s1.length : Int))) (Value.int .i64 n1))), (30, (gv (decide (n1 < (s1.length : Int))) (Value.int .u8 (at8 s1 (Int.toNat n1))))), (31, (gv (decide (n1 < (s1.length : Int))) (Value.bool r3))), (32, (gv (decide (n1 < (s1.length : Int))) (Value.bool r3))), (33, (gv ((decide (n1 < (s1.length : Int))) && !r3) (Value.int .i64 kind1))), (34, (gv ((decide (n1 < (s1.length : Int))) && !r3) (Value.bool (decide (kind1 = 1))))), (35, (gv ((decide (n1 < (s1.length : Int))) && !r3) (Value.bool (decide (kind1 = 1))))), (36, (gv (((decide (n1 < (s1.length : Int))) && !r3) && (decide (kind1 = 1))) (str s1))), (37, (gv (((decide (n1 < (s1.length : Int))) && !r3) && (decide (kind1 = 1))) (Value.int .i64 n1))), (38, (gv (((decide (n1 < (s1.length : Int))) && !r3) && (decide (kind1 = 1))) (Value.int .u8 (at8 s1 (Int.toNat n1))))), (39, (gv (((decide (n1 < (s1.length : Int))) && !r3) && (decide (kind1 = 1))) (Value.bool r4))), (40, (gv (((decide (n1 < (s1.length : Int))) && !r3) && (decide (kind1 = 1))) (Value.bool r4))), (41, (gv ((((decide (n1 < (s1.length : Int))) && !r3) && (decide (kind1 = 1))) && !r4) (str s1))), (42, (gv ((((decide (n1 < (s1.length : Int))) && !r3) && (decide (kind1 = 1))) && !r4) (Value.int .i64 n1))), (43, (gv ((((decide (n1 < (s1.length : Int))) && !r3) && (decide (kind1 = 1))) && !r4) (Value.int .u8 (at8 s1 (Int.toNat n1))))), (44, (gv ((((decide (n1 < (s1.length : Int))) && !r3) && (decide (kind1 = 1))) && !r4) (Value.bool (decide (at8 s1 (Int.toNat n1) = 95))))), (45, (gv (((decide (n1 < (s1.length : Int))) && !r3) && (decide (kind1 = 1))) (Value.bool (r4 || (decide (at8 s1 (Int.toNat n1) = 95)))))), (46, (gv ((decide (n1 < (s1.length : Int))) && !r3) (Value.bool ((decide (kind1 = 1)) && (r4 || (decide (at8 s1 (Int.toNat n1) = 95))))))), (47, (gv (decide (n1 < (s1.length : Int))) (Value.bool (r3 || ((decide (kind1 = 1)) && (r4 || (decide (at8 s1 (Int.toNat n1) = 95))))))))]) ⟨rfl, rfl, rfl, rfl, rfl, rfl, rfl, rfl, rfl, rfl, rfl, rfl, rfl, rfl, rfl, rfl, rfl, rfl, rfl, rfl, rfl, rfl, rfl, trivial⟩ ?_
        refine c_block ?_
        refine c_region ?_
        refine s_q rfl rfl (y_move rfl (ev_tmp rfl rfl)) ?_
        obtain ⟨ho6, h⟩ := h
        refine s_q rfl rfl (y_int (y_add rfl (ev_tmp rfl rfl) ev_const) (wr_i64 ho6)) ?_
        refine s_q rfl rfl (y_assign rfl (ev_tmp rfl rfl)) ?_
        refine s_nil ?_
        exact k_loop (n1 + 1) ⟨rfl, rfl, rfl, trivial⟩ ⟨h.1, (Stp.ext0 hS8)⟩ h.2
      · replace h := hF hb
        clear hT hF
        refine c_exit ?_
        refine k_in ?_
        refine k_next (e := [(4, (Value.int .i64 kind1)), (5, (Value.int .i64 n1))]) ⟨rfl, rfl, trivial⟩ ?_
        refine c_seq ?_
        refine c_region ?_
        refine s_q rfl rfl (y_move rfl (ev_tmp rfl rfl)) ?_
        refine s_q rfl rfl (y_move rfl (ev_tmp rfl rfl)) ?_
        refine s_q rfl rfl (y_assign rfl (ev_tmp rfl rfl)) ?_
        refine s_q rfl rfl (y_assign rfl (ev_tmp rfl rfl)) ?_
        refine s_nil ?_
        refine k_next (e := [(2, (Value.int .i64 n1)), (3, (Value.int .i64 kind1))]) ⟨rfl, rfl, trivial⟩ ?_
        refine c_ret ?_
        exact q_ret (vs := [(Value.int .i64 n1), (Value.int .i64 kind1)]) Tryd.results21 ⟨ev_tmp rfl rfl, ⟨ev_tmp rfl rfl, trivial⟩⟩ h
    · have h := hX
      clear hX hY
      refine c_seq ?_
      refine c_region ?_
      refine s_q rfl rfl (y_move rfl (ev_tmp rfl rfl)) ?_
      obtain ⟨ho7, h⟩ := h
      refine s_q rfl rfl (y_indexs rfl Tryd.underlying9 (ev_tmp rfl rfl) ev_const ho7) ?_
      refine s_call rfl rfl (r_callF (vs := [(Value.int .u8 (at8 s1 (Int.toNat 0)))]) rfl ok_39 ⟨(ev_tmp rfl rfl), trivial⟩) (Calls.mono h ?_)
      rintro _ w7 ⟨r5, rfl, hx5, h⟩
      refine ⟨_, rfl, ?_⟩
      have hS10 : Stp noM w0 noM w7 := Stp.step hS2 hx5
      have hS11 : Stp noM w2 noM w7 := Stp.step (Stp.self hS2) hx5
      refine s_nil ?_
      refine k_next (e := [(0, (str s1)), (4, (Value.int .i64 2)), (22, (Value.bool r5))]) ⟨rfl, rfl, rfl, trivial⟩ ?_
      refine c_cond (b := r5) (ev_tmp rfl rfl) (fun hb => ?_) (fun hb => ?_)
      all_goals obtain ⟨hT, hF⟩ := h
      · replace h := hT hb
        clear hT hF
        refine c_region ?_
        refine s_q rfl rfl (y_assign rfl ev_const) ?_
        refine s_nil ?_
        exact k_join 1 ⟨rfl, rfl, trivial⟩ ⟨h, (Stp.ext0 hS10)⟩
      · replace h := hF hb
        clear hT hF
        refine c_skip ?_
        exact k_join 2 ⟨rfl, rfl, trivial⟩ ⟨h, (Stp.ext0 hS10)⟩

/- 'brocade/brocaderef13.symbol': what is enough. -/
set_option maxRecDepth 100000 in
set_option maxHeartbeats 4000000 in
theorem vc22 (s1 : List UInt8) (w0 : World) (R : Value → World → Prop)
    (h : Calls Tryd.prog 41 #[] w0 (fun e w1 => ∃ (r1A : Option Addr) (r1n : Nat) (r1c : Nat), e = .returned (Value.slice r1A r1n r1c) ∧ Ext w0 w1 ∧ ∃ (inv1 : Int → World → Prop) (mu1 : Int → Nat), inv1 0 w1 ∧ (∀ (i1 : Int) (w2 : World), Ext w0 w2 → inv1 i1 w2 → (((decide (i1 < (r1n : Int))) = true → ((0 : Int) ≤ i1 ∧ i1 < (r1n : Int)) ∧ ∃ (ad1 : Addr), r1A = some ad1 ∧ ∀ (w3 : World), Ext w2 w3 → ∃ (e1 : List UInt8), CellsAt w3 (ad1.add (Int.toNat i1 * 1)) [(str e1)] ∧ ((decide ((e1.length : Int) ≤ (s1.length : Int))) = true → (0 : Int) ≤ i1 ∧ i1 < (r1n : Int)) ∧ ((decide ((e1.length : Int) ≤ (s1.length : Int))) = true → (0 : Int) ≤ (e1.length : Int) ∧ (e1.length : Int) ≤ (s1.length : Int)) ∧ ((decide ((e1.length : Int) ≤ (s1.length : Int))) = true → (0 : Int) ≤ i1 ∧ i1 < (r1n : Int)) ∧ ((((decide ((e1.length : Int) ≤ (s1.length : Int))) && (decide (s1.take (Int.toNat (e1.length : Int)) = e1))) = true → ((0 : Int) ≤ i1 ∧ i1 < (r1n : Int)) ∧ ∃ (e2 : List UInt8), CellsAt w3 (ad1.add (Int.toNat i1 * 1)) [(str e2)] ∧ R (Value.int .i64 (e2.length : Int)) w3) ∧ (((decide ((e1.length : Int) ≤ (s1.length : Int))) && (decide (s1.take (Int.toNat (e1.length : Int)) = e1))) = false → (R64 (i1 + 1)) ∧ (inv1 (i1 + 1) w3 ∧ mu1 (i1 + 1) < mu1 i1)))) ∧ ((decide (i1 < (r1n : Int))) = false → R (Value.int .i64 0) w2))))) :
    Calls Tryd.prog 22 #[(str s1)] w0 fun e w' => ∃ v, e = .returned v ∧ R v w' := by
  refine enter (l := [(str s1)]) Tryd.func22 rfl Tryd.ntmps22 rfl ?_
  refine c_seq ?_
  refine c_region ?_
  refine s_q rfl rfl (y_assign rfl ev_const) ?_
  refine s_nil ?_
  refine k_next (e := [(0, (str s1))]) ⟨rfl, trivial⟩ ?_
  refine c_seq ?_
  refine c_region ?_
  refine s_call rfl rfl (r_callF (vs := []) rfl ok_41 trivial) (Calls.mono h ?_)
  rintro _ w1 ⟨r1A, r1n, r1c, rfl, hx1, h⟩
  refine ⟨_, rfl, ?_⟩
  have hS1 : Stp noM w0 noM w1 := Stp.step Stp.start hx1
  refine s_q rfl rfl (y_assign rfl (ev_tmp rfl rfl)) ?_
  refine s_nil ?_
  refine k_next (e := [(0, (str s1)), (3, (Value.slice r1A r1n r1c))]) ⟨rfl, rfl, trivial⟩ ?_
  refine c_seq ?_
  refine c_seq ?_
  refine c_region ?_
  refine s_q rfl rfl (y_assign rfl ev_const) ?_
  refine s_nil ?_
  refine k_next (e := [(0, (str s1)), (3, (Value.slice r1A r1n r1c)), (4, (Value.int .i64 0))]) ⟨rfl, rfl, rfl, trivial⟩ ?_
  refine c_block ?_
  obtain ⟨inv1, mu1, h0, h⟩ := h
  refine c_loop (α := Int) (fun x => fun w2 => inv1 (x) w2 ∧ (Ext w0 w2)) (fun x => fun w2 => mu1 (x)) (fun x => [(0, (str s1)), (3, (Value.slice r1A r1n r1c)), (4, (Value.int .i64 x))]) 0 ⟨h0, (Stp.ext0 hS1)⟩ ⟨rfl, rfl, rfl, trivial⟩ ?_
  clear h0
  rintro i1 w2 ⟨hI1, hf1⟩
  have hf1 : Ext w0 w2 := hf1
  have hS2 : Stp noM w0 noM w2 := (Stp.step Stp.start hf1)
  replace h := h i1 w2 hf1 hI1
  refine c_sub (e := [(0, (str s1)), (3, (Value.slice r1A r1n r1c)), (4, (Value.int .i64 i1))]) ⟨rfl, rfl, rfl, trivial⟩ ?_
  refine c_seq ?_
  refine c_seq ?_
  refine c_region ?_
  refine s_q rfl rfl (y_move rfl (ev_tmp rfl rfl)) ?_
  refine s_q rfl rfl (y_move rfl (ev_tmp rfl rfl)) ?_
  refine s_q rfl rfl (y_lenl rfl Tryd.underlying52 (ev_tmp rfl rfl)) ?_
  refine s_q rfl rfl (y_lss rfl (ev_tmp rfl rfl) (ev_tmp rfl rfl)) ?_
  refine s_nil ?_
  refine k_next (e := [(0, (str s1)), (3, (Value.slice r1A r1n r1c)), (4, (Value.int .i64 i1)), (9, (Value.bool (decide (i1 < (r1n : Int)))))]) ⟨rfl, rfl, rfl, rfl, trivial⟩ ?_
  refine c_cond (b := decide (i1 < (r1n : Int))) (ev_tmp rfl rfl) (fun hb => ?_) (fun hb => ?_)
  all_goals obtain ⟨hT, hF⟩ := h
  · replace h := hT hb
    clear hT hF
    refine c_skip ?_
    refine k_next (e := [(0, (str s1)), (3, (Value.slice r1A r1n r1c)), (4, (Value.int .i64 i1))]) ⟨rfl, rfl, rfl, trivial⟩ ?_
    refine c_seq ?_
    refine c_block ?_
    refine c_seq ?_
    refine c_drawE [(0, true), (1, true), (2, true), (3, true), (4, true), (5, true), (6, true), (7, true), (8, true), (9, true), (10, true), (11, true), (12, true), (13, true), (14, true), (15, true), (16, true), (17, true), (18, true), (19, true), (20, true), (21, true)] (by kernel_rfl) (by kernel_rfl) ?_
    intro w3 hs1 hx2
    have hS3 : Stp noM w0 noM w3 := Stp.step hS2 hx2
    have hS4 : Stp noM w2 noM w3 := Stp.step (Stp.self hS2) hx2
    refine a_q rfl rfl rfl (fun w' hw' => (y_move rfl (ev_tmp rfl rfl))) ?_
    refine a_q rfl rfl rfl (fun w' hw' => (y_lens rfl Tryd.underlying9 (ev_tmp rfl rfl))) ?_
    refine a_q rfl rfl rfl (fun w' hw' => (y_move rfl (ev_tmp rfl rfl))) ?_
    refine a_q rfl rfl rfl (fun w' hw' => (y_move rfl (ev_tmp rfl rfl))) ?_
    obtain ⟨ho1, h⟩ := h
    obtain ⟨ad1, hC1, h⟩ := h
    refine a_q rfl rfl rfl (fun w' hw' => (y_indexAddr rfl Tryd.underlying52 size_9 (ev_tmp rfl rfl) (ev_tmp rfl rfl) ho1 hC1)) ?_
    replace h := h w3 (Stp.ext0 hS4)
    obtain ⟨e1, hC2, h⟩ := h
    refine a_q rfl rfl rfl (fun w' hw' => (y_load1 (v := (str e1)) rfl (ev_tmp rfl rfl) Tryd.underlying9 rfl (hC2.ext hw'))) ?_
    refine a_q rfl rfl rfl (fun w' hw' => (y_lens rfl Tryd.underlying9 (ev_tmp rfl rfl))) ?_
    refine a_q rfl rfl rfl (fun w' hw' => (y_geq rfl (ev_tmp rfl rfl) (ev_tmp rfl rfl))) ?_
    refine a_q rfl rfl rfl (fun w' hw' => (y_move rfl (ev_tmp rfl rfl))) ?_
    refine a_gval rfl (g_true rfl rfl rfl rfl) rfl (fun hc => fun w' hw' => (y_move rfl (ev_tmp rfl rfl))) ?_
    refine a_gval rfl (g_true rfl rfl rfl rfl) rfl (fun hc => fun w' hw' => (y_move rfl (ev_tmp rfl rfl))) ?_
    refine a_gval rfl (g_true rfl rfl rfl rfl) rfl (fun hc => fun w' hw' => (y_move rfl (ev_tmp rfl rfl))) ?_
    obtain ⟨ho2, h⟩ := h
    refine a_gval rfl (g_true rfl rfl rfl rfl) rfl (fun hc => fun w' hw' => (y_indexAddr rfl Tryd.underlying52 size_9 (ev_gv (ev_tmp rfl rfl) hc) (ev_gv (ev_tmp rfl rfl) hc) (ho2 hc) hC1)) ?_
    refine a_gval rfl (g_true rfl rfl rfl rfl) rfl (fun hc => fun w' hw' => (y_load1 (v := (str e1)) rfl (ev_gv (ev_tmp rfl rfl) hc) Tryd.underlying9 rfl (hC2.ext hw'))) ?_
    refine a_gval rfl (g_true rfl rfl rfl rfl) rfl (fun hc => fun w' hw' => (y_lens rfl Tryd.underlying9 (ev_gv (ev_tmp rfl rfl) hc))) ?_
    obtain ⟨ho3, h⟩ := h
    refine a_gval rfl (g_true rfl rfl rfl rfl) rfl (fun hc => fun w' hw' => (y_slices_h rfl rfl Tryd.underlying9 (ev_gv (ev_tmp rfl rfl) hc) (ev_gv (ev_tmp rfl rfl) hc) (ho3 hc))) ?_
    refine a_gval rfl (g_true rfl rfl rfl rfl) rfl (fun hc => fun w' hw' => (y_move rfl (ev_tmp rfl rfl))) ?_
    refine a_gval rfl (g_true rfl rfl rfl rfl) rfl (fun hc => fun w' hw' => (y_move rfl (ev_tmp rfl rfl))) ?_
    obtain ⟨ho4, h⟩ := h
    refine a_gval rfl (g_true rfl rfl rfl rfl) rfl (fun hc => fun w' hw' => (y_indexAddr rfl Tryd.underlying52 size_9 (ev_gv (ev_tmp rfl rfl) hc) (ev_gv (ev_tmp rfl rfl) hc) (ho4 hc) hC1)) ?_
    refine a_gval rfl (g_true rfl rfl rfl rfl) rfl (fun hc => fun w' hw' => (y_load1 (v := (str e1)) rfl (ev_gv (ev_tmp rfl rfl) hc) Tryd.underlying9 rfl (hC2.ext hw'))) ?_
    refine a_gval rfl (g_true rfl rfl rfl rfl) rfl (fun hc => fun w' hw' => (y_eqs rfl (ev_gv (ev_tmp rfl rfl) hc) (ev_gv (ev_tmp rfl rfl) hc))) ?_
    refine a_q rfl rfl rfl (fun w' hw' => (y_and rfl (ev_tmp rfl rfl) (ev_tmp rfl rfl))) ?_
    refine a_nil ?_
    refine k_next (e := [(0, (str s1)), (3, (Value.slice r1A r1n r1c)), (4, (Value.int .i64 i1)), (21, (gv (decide ((e1.length : Int) ≤ (s1.length : Int))) (str s1))), (22, (gv (decide ((e1.length : Int) ≤ (s1.length : Int))) (Value.slice r1A r1n r1c))), (23, (gv (decide ((e1.length : Int) ≤ (s1.length : Int))) (Value.int .i64 i1))), (24, (gv (decide ((e1.length : Int) ≤ (s1.length : Int))) (Value.pointer (some (ad1.add (Int.toNat i1 * 1)))))), (25, (gv (decide ((e1.length : Int) ≤ (s1.length : Int))) (str e1))), (26, (gv (decide ((e1.length : Int) ≤ (s1.length : Int))) (Value.int .i64 (e1.length : Int)))), (27, (gv (decide ((e1.length : Int) ≤ (s1.length : Int))) (str (s1.take (Int.toNat (e1.length : Int)))))), (28, (gv (decide ((e1.length : Int) ≤ (s1.length : Int))) (Value.slice r1A r1n r1c))), (29, (gv (decide ((e1.length : Int) ≤ (s1.length : Int))) (Value.int .i64 i1))), (30, (gv (decide ((e1.length : Int) ≤ (s1.length : Int))) (Value.pointer (some (ad1.add (Int.toNat i1 * 1)))))), (31, (gv (decide ((e1.length : Int) ≤ (s1.length : Int))) (str e1))), (32, (gv (decide ((e1.length : Int) ≤ (s1.length : Int))) (Value.bool (decide (s1.take (Int.toNat (e1.length : Int)) = e1))))), (33, (Value.bool ((decide ((e1.length : Int) ≤ (s1.length : Int))) && (decide (s1.take (Int.toNat (e1.length : Int)) = e1)))))]) ⟨rfl, rfl, rfl, rfl, rfl, rfl, rfl, rfl, rfl, rfl, rfl, rfl, rfl, rfl, rfl, rfl, trivial⟩ ?_
    refine c_cond (b := (decide ((e1.length : Int) ≤ (s1.length : Int))) && (decide (s1.take (Int.toNat (e1.length : Int)) = e1))) (ev_tmp rfl rfl) (fun hb => ?_) (fun hb => ?_)
    all_goals obtain ⟨hT, hF⟩ := h
    · replace h := hT hb
      clear hT hF
      refine c_seq ?_
      refine c_region ?_
      refine s_q rfl rfl (y_move rfl (ev_tmp rfl rfl)) ?_
      refine s_q rfl rfl (y_move rfl (ev_tmp rfl rfl)) ?_
      obtain ⟨ho5, h⟩ := h
      refine s_q rfl rfl (y_indexAddr rfl Tryd.underlying52 size_9 (ev_tmp rfl rfl) (ev_tmp rfl rfl) ho5 hC1) ?_
      obtain ⟨e2, hC3, h⟩ := h
      refine s_q rfl rfl (y_load1 (v := (str e2)) rfl (ev_tmp rfl rfl) Tryd.underlying9 rfl hC3) ?_
      refine s_q rfl rfl (y_lens rfl Tryd.underlying9 (ev_tmp rfl rfl)) ?_
      refine s_q rfl rfl (y_assign rfl (ev_tmp rfl rfl)) ?_
      refine s_nil ?_
      refine k_next (e := [(2, (Value.int .i64 (e2.length : Int)))]) ⟨rfl, trivial⟩ ?_
      refine c_ret ?_
      exact q_ret (vs := [(Value.int .i64 (e2.length : Int))]) Tryd.results22 ⟨ev_tmp rfl rfl, trivial⟩ h
    · replace h := hF hb
      clear hT hF
      refine c_skip ?_
      refine k_next (e := [(0, (str s1)), (3, (Value.slice r1A r1n r1c)), (4, (Value.int .i64 i1)), (21, (gv (decide ((e1.length : Int) ≤ (s1.length : Int))) (str s1))), (22, (gv (decide ((e1.length : Int) ≤ (s1.length : Int))) (Value.slice r1A r1n r1c))), (23, (gv (decide ((e1.length : Int) ≤ (s1.length : Int))) (Value.int .i64 i1))), (24, (gv (decide ((e1.length : Int) ≤ (s1.length : Int))) (Value.pointer (some (ad1.add (Int.toNat i1 * 1)))))), (25, (gv (decide ((e1.length : Int) ≤ (s1.length : Int))) (str e1))), (26, (gv (decide ((e1.length : Int) ≤ (s1.length : Int))) (Value.int .i64 (e1.length : Int)))), (27, (gv (decide ((e1.length : Int) ≤ (s1.length : Int))) (str (s1.take (Int.toNat (e1.length : Int)))))), (28, (gv (decide ((e1.length : Int) ≤ (s1.length : Int))) (Value.slice r1A r1n r1c))), (29, (gv (decide ((e1.length : Int) ≤ (s1.length : Int))) (Value.int .i64 i1))), (30, (gv (decide ((e1.length : Int) ≤ (s1.length : Int))) (Value.pointer (some (ad1.add (Int.toNat i1 * 1)))))), (31, (gv (decide ((e1.length : Int) ≤ (s1.length : Int))) (str e1))), (32, (gv (decide ((e1.length : Int) ≤ (s1.length : Int))) (Value.bool (decide (s1.take (Int.toNat (e1.length : Int)) = e1)))))]) ⟨rfl, rfl, rfl, rfl, rfl, rfl, rfl, rfl, rfl, rfl, rfl, rfl, rfl, rfl, rfl, trivial⟩ ?_
      refine c_region ?_
      refine s_q rfl rfl (y_move rfl (ev_tmp rfl rfl)) ?_
      obtain ⟨ho6, h⟩ := h
      refine s_q rfl rfl (y_int (y_add rfl (ev_tmp rfl rfl) ev_const) (wr_i64 ho6)) ?_
      refine s_q rfl rfl (y_assign rfl (ev_tmp rfl rfl)) ?_
      refine s_nil ?_
      exact k_loop (i1 + 1) ⟨rfl, rfl, rfl, trivial⟩ ⟨h.1, (Stp.ext0 hS3)⟩ h.2
  · replace h := hF hb
    clear hT hF
    refine c_exit ?_
    refine k_in ?_
    refine k_next (e := []) trivial ?_
    refine c_seq ?_
    refine c_region ?_
    refine s_q rfl rfl (y_assign rfl ev_const) ?_
    refine s_nil ?_
    refine k_next (e := [(2, (Value.int .i64 0))]) ⟨rfl, trivial⟩ ?_
    refine c_ret ?_
    exact q_ret (vs := [(Value.int .i64 0)]) Tryd.results22 ⟨ev_tmp rfl rfl, trivial⟩ h

/- 'brocade/lexer.letter': what is enough. -/
set_option maxRecDepth 100000 in
set_option maxHeartbeats 4000000 in
theorem vc26 (r1 : Int) (w0 : World) (R : Value → World → Prop)
    (h : R (Value.bool ((decide (97 ≤ r1)) && (decide (r1 ≤ 122)))) w0) :
    Calls Tryd.prog 26 #[(Value.int .i32 r1)] w0 fun e w' => ∃ v, e = .returned v ∧ R v w' := by
  refine enter (l := [(Value.int .i32 r1)]) Tryd.func26 rfl Tryd.ntmps26 rfl ?_
  refine c_seq ?_
  refine c_region ?_
  refine s_q rfl rfl (y_assign rfl ev_const) ?_
  refine s_nil ?_
  refine k_next (e := [(0, (Value.int .i32 r1))]) ⟨rfl, trivial⟩ ?_
  refine c_seq ?_
  refine c_region ?_
  refine s_q rfl rfl (y_move rfl (ev_tmp rfl rfl)) ?_
  refine s_q rfl rfl (y_geq rfl (ev_tmp rfl rfl) ev_const) ?_
  refine s_q rfl rfl (y_move rfl (ev_tmp rfl rfl)) ?_
  refine s_gval (g_true rfl rfl rfl rfl) rfl (fun hc => (y_move rfl (ev_tmp rfl rfl))) ?_
  refine s_gval (g_true rfl rfl rfl rfl) rfl (fun hc => (y_leq rfl (ev_gv (ev_tmp rfl rfl) hc) ev_const)) ?_
  refine s_q rfl rfl (y_and rfl (ev_tmp rfl rfl) (ev_tmp rfl rfl)) ?_
  refine s_q rfl rfl (y_assign rfl (ev_tmp rfl rfl)) ?_
  refine s_nil ?_
  refine k_next (e := [(2, (Value.bool ((decide (97 ≤ r1)) && (decide (r1 ≤ 122)))))]) ⟨rfl, trivial⟩ ?_
  refine c_ret ?_
  exact q_ret (vs := [(Value.bool ((decide (97 ≤ r1)) && (decide (r1 ≤ 122))))]) Tryd.results26 ⟨ev_tmp rfl rfl, trivial⟩ h

/- 'brocade/lexer.span': what is enough. -/
set_option maxRecDepth 100000 in
set_option maxHeartbeats 4000000 in
theorem vc27 (s1 : List UInt8) (ok1 : Value) (w0 : World) (R : Value → World → Prop)
    (h : ∃ (inv1 : Int → World → Prop) (mu1 : Int → Nat), inv1 0 w0 ∧ (∀ (n1 : Int) (w1 : World), Ext w0 w1 → inv1 n1 w1 → ((decide (n1 < (s1.length : Int))) = true → (0 : Int) ≤ n1 ∧ n1 < (s1.length : Int)) ∧ ((decide (n1 < (s1.length : Int))) = true → R32 (at8 s1 (Int.toNat n1))) ∧ ∃ (f1 : FuncId) (cap1 : List Value), ((decide (n1 < (s1.length : Int))) = true → ok1 = Value.func (.func f1) #[] cap1.toArray ∧ FnOK Tryd.prog f1) ∧ ∃ q1 : Bool → World → Prop, ((decide (n1 < (s1.length : Int))) = true → Calls Tryd.prog f1 ([(Value.int .i32 (at8 s1 (Int.toNat n1)))] ++ cap1).toArray w1 (fun e w2 => ∃ (r1 : Bool), e = .returned (Value.bool r1) ∧ Ext w1 w2 ∧ q1 r1 w2)) ∧ (∀ (r1 : Bool) (w2 : World), Ext w1 w2 → ((decide (n1 < (s1.length : Int))) = true → q1 r1 w2) → ((((decide (n1 < (s1.length : Int))) && r1) = true → (R64 (n1 + 1)) ∧ (inv1 (n1 + 1) w2 ∧ mu1 (n1 + 1) < mu1 n1)) ∧ (((decide (n1 < (s1.length : Int))) && r1) = false → R (Value.int .i64 n1) w2))))) :
    Calls Tryd.prog 27 #[(str s1), ok1] w0 fun e w' => ∃ v, e = .returned v ∧ R v w' := by
  refine enter (l := [(str s1), ok1]) Tryd.func27 rfl Tryd.ntmps27 rfl ?_
  refine c_seq ?_
  refine c_region ?_
  refine s_q rfl rfl (y_assign rfl ev_const) ?_
  refine s_nil ?_
  refine k_next (e := [(0, (str s1)), (1, ok1)]) ⟨rfl, rfl, trivial⟩ ?_
  refine c_seq ?_
  refine c_region ?_
  refine s_q rfl rfl (y_assign rfl ev_const) ?_
  refine s_nil ?_
  refine k_next (e := [(0, (str s1)), (1, ok1), (5, (Value.int .i64 0))]) ⟨rfl, rfl, rfl, trivial⟩ ?_
  refine c_seq ?_
  refine c_block ?_
  obtain ⟨inv1, mu1, h0, h⟩ := h
  refine c_loop (α := Int) (fun x => fun w1 => inv1 (x) w1 ∧ (Ext w0 w1)) (fun x => fun w1 => mu1 (x)) (fun x => [(0, (str s1)), (1, ok1), (5, (Value.int .i64 x))]) 0 ⟨h0, (Stp.ext0 Stp.start)⟩ ⟨rfl, rfl, rfl, trivial⟩ ?_
  clear h0
  rintro n1 w1 ⟨hI1, hf1⟩
  have hf1 : Ext w0 w1 := hf1
  have hS1 : Stp noM w0 noM w1 := (Stp.step Stp.start hf1)
  replace h := h n1 w1 hf1 hI1
  refine c_sub (e := [(0, (str s1)), (1, ok1), (5, (Value.int .i64 n1))]) ⟨rfl, rfl, rfl, trivial⟩ ?_
  refine c_seq ?_
  refine c_seq ?_
  refine c_region ?_
  refine s_q rfl rfl (y_move rfl (ev_tmp rfl rfl)) ?_
  refine s_q rfl rfl (y_move rfl (ev_tmp rfl rfl)) ?_
  refine s_q rfl rfl (y_lens rfl Tryd.underlying9 (ev_tmp rfl rfl)) ?_
  refine s_q rfl rfl (y_lss rfl (ev_tmp rfl rfl) (ev_tmp rfl rfl)) ?_
  refine s_q rfl rfl (y_move rfl (ev_tmp rfl rfl)) ?_
  refine s_gval (g_true rfl rfl rfl rfl) rfl (fun hc => (y_move rfl (ev_tmp rfl rfl))) ?_
  refine s_gval (g_true rfl rfl rfl rfl) rfl (fun hc => (y_move rfl (ev_tmp rfl rfl))) ?_
  refine s_gval (g_true rfl rfl rfl rfl) rfl (fun hc => (y_move rfl (ev_tmp rfl rfl))) ?_
  obtain ⟨ho1, h⟩ := h
  refine s_gval (g_true rfl rfl rfl rfl) rfl (fun hc => (y_indexs rfl Tryd.underlying9 (ev_gv (ev_tmp rfl rfl) hc) (ev_gv (ev_tmp rfl rfl) hc) (ho1 hc))) ?_
  obtain ⟨ho2, h⟩ := h
  refine s_gval (g_true rfl rfl rfl rfl) rfl (fun hc => (y_int (y_conv rfl (by rw [Tryd.underlying5]; rfl) Tryd.underlying21 (ev_gv (ev_tmp rfl rfl) hc)) (wr_i32 (ho2 hc)))) ?_
  obtain ⟨f1, cap1, hC1, h⟩ := h
  obtain ⟨q1, hq2, h⟩ := h
  refine s_gcallT (α := Bool) (fun x => (Value.bool x)) (fun x => fun w => q1 (x) w) (g_true rfl rfl rfl rfl) rfl (fun hc => (r_call (vs := [(Value.int .i32 (at8 s1 (Int.toNat n1)))]) (fs := []) (cap := cap1) rfl (ev_eq (ev_gv (ev_tmp rfl rfl) hc) (hC1 hc).1) (hC1 hc).2 ⟨(ev_gv (ev_tmp rfl rfl) hc), trivial⟩)) (fun hc => (hq2 hc).mono ?_) ?_
  · rintro _ w' ⟨r1, rfl, hE', hq'⟩; exact ⟨r1, rfl, hE', hq'⟩
  rintro r1 w2 hx1 hq1
  replace h := h r1 w2 hx1 hq1
  have hS2 : Stp noM w0 noM w2 := Stp.step hS1 hx1
  have hS3 : Stp noM w1 noM w2 := Stp.step (Stp.self hS1) hx1
  refine s_q rfl rfl (y_and rfl (ev_tmp rfl rfl) (ev_tmp rfl rfl)) ?_
  refine s_nil ?_
  refine k_next (e := [(0, (str s1)), (1, ok1), (5, (Value.int .i64 n1)), (11, (gv (decide (n1 < (s1.length : Int))) ok1)), (12, (gv (decide (n1 < (s1.length : Int))) (str s1))), (13, (gv (decide (n1 < (s1.length : Int))) (Value.int .i64 n1))), (14, (gv (decide (n1 < (s1.length : Int))) (Value.int .u8 (at8 s1 (Int.toNat n1))))), (15, (gv (decide (n1 < (s1.length : Int))) (Value.int .i32 (at8 s1 (Int.toNat n1))))), (16, (gv (decide (n1 < (s1.length : Int))) (Value.bool r1))), (17, (Value.bool ((decide (n1 < (s1.length : Int))) && r1)))]) ⟨rfl, rfl, rfl, rfl, rfl, rfl, rfl, rfl, rfl, rfl, trivial⟩ ?_
  refine c_cond (b := (decide (n1 < (s1.length : Int))) && r1) (ev_tmp rfl rfl) (fun hb => ?_) (fun hb => ?_)
  all_goals obtain ⟨hT, hF⟩ := h
  · replace h := hT hb
    clear hT hF
    refine c_skip ?_
    refine k_next (e := [(0, (str s1)), (1, ok1), (5, (Value.int .i64 n1)), (11, (gv (decide (n1 < (s1.length : Int))) ok1)), (12, (gv (decide (n1 < (s1.length : Int))) (str s1))), (13, (gv (decide (n1 < (s1.length : Int))) (Value.int .i64 n1))), (14, (gv (decide (n1 < (s1.length : Int))) (Value.int .u8 (at8 s1 (Int.toNat n1))))), (15, (gv (decide (n1 < (s1.length : Int))) (Value.int .i32 (at8 s1 (Int.toNat n1))))), (16, (gv (decide (n1 < (s1.length : Int))) (Value.bool r1)))]) ⟨rfl, rfl, rfl, rfl, rfl, rfl, rfl, rfl, rfl, trivial⟩ ?_
    refine c_block ?_
    refine c_region ?_
    refine s_q rfl rfl (y_move rfl (ev_tmp rfl rfl)) ?_
    obtain ⟨ho3, h⟩ := h
    refine s_q rfl rfl (y_int (y_add rfl (ev_tmp rfl rfl) ev_const) (wr_i64 ho3)) ?_
    refine s_q rfl rfl (y_assign rfl (ev_tmp rfl rfl)) ?_
    refine s_nil ?_
    exact k_loop (n1 + 1) ⟨rfl, rfl, rfl, trivial⟩ ⟨h.1, (Stp.ext0 hS2)⟩ h.2
  · replace h := hF hb
    clear hT hF
    refine c_exit ?_
    refine k_in ?_
    refine k_next (e := [(5, (Value.int .i64 n1))]) ⟨rfl, trivial⟩ ?_
    refine c_seq ?_
    refine c_region ?_
    refine s_q rfl rfl (y_move rfl (ev_tmp rfl rfl)) ?_
    refine s_q rfl rfl (y_assign rfl (ev_tmp rfl rfl)) ?_
    refine s_nil ?_
    refine k_next (e := [(4, (Value.int .i64 n1))]) ⟨rfl, trivial⟩ ?_
    refine c_ret ?_
    exact q_ret (vs := [(Value.int .i64 n1)]) Tryd.results27 ⟨ev_tmp rfl rfl, trivial⟩ h

/- 'brocade/lexer.inWord': what is enough. -/
set_option maxRecDepth 100000 in
set_option maxHeartbeats 4000000 in
theorem vc28 (r1 : Int) (w0 : World) (R : Value → World → Prop)
    (h : Calls Tryd.prog 26 #[(Value.int .i32 r1)] w0 (fun e w1 => ∃ (r2 : Bool), e = .returned (Value.bool r2) ∧ Ext w0 w1 ∧ ∃ q1 : Bool → World → Prop, ((!r2) = true → Calls Tryd.prog 37 #[(Value.int .i32 r1)] w1 (fun e w2 => ∃ (r3 : Bool), e = .returned (Value.bool r3) ∧ Ext w1 w2 ∧ q1 r3 w2)) ∧ (∀ (r3 : Bool) (w2 : World), Ext w1 w2 → ((!r2) = true → q1 r3 w2) → R (Value.bool ((r2 || r3) || (decide (r1 = 95)))) w2))) :
    Calls Tryd.prog 28 #[(Value.int .i32 r1)] w0 fun e w' => ∃ v, e = .returned v ∧ R v w' := by
  refine enter (l := [(Value.int .i32 r1)]) Tryd.func28 rfl Tryd.ntmps28 rfl ?_
  refine c_seq ?_
  refine c_region ?_
  refine s_q rfl rfl (y_assign rfl ev_const) ?_
  refine s_nil ?_
  refine k_next (e := [(0, (Value.int .i32 r1))]) ⟨rfl, trivial⟩ ?_
  refine c_seq ?_
  refine c_region ?_
  refine s_q rfl rfl (y_move rfl (ev_tmp rfl rfl)) ?_
  refine s_call rfl rfl (r_callF (vs := [(Value.int .i32 r1)]) rfl ok_26 ⟨(ev_tmp rfl rfl), trivial⟩) (Calls.mono h ?_)
  rintro _ w1 ⟨r2, rfl, hx1, h⟩
  refine ⟨_, rfl, ?_⟩
  have hS1 : Stp noM w0 noM w1 := Stp.step Stp.start hx1
  refine s_q rfl rfl (y_move rfl (ev_tmp rfl rfl)) ?_
  refine s_gval (g_false rfl rfl rfl rfl) rfl (fun hc => (y_move rfl (ev_tmp rfl rfl))) ?_
  obtain ⟨q1, hq2, h⟩ := h
  refine s_gcallT (α := Bool) (fun x => (Value.bool x)) (fun x => fun w => q1 (x) w) (g_false rfl rfl rfl rfl) rfl (fun hc => (r_callF (vs := [(Value.int .i32 r1)]) rfl ok_37 ⟨(ev_gv (ev_tmp rfl rfl) hc), trivial⟩)) (fun hc => (hq2 hc).mono ?_) ?_
  · rintro _ w' ⟨r3, rfl, hE', hq'⟩; exact ⟨r3, rfl, hE', hq'⟩
  rintro r3 w2 hx2 hq1
  replace h := h r3 w2 hx2 hq1
  have hS2 : Stp noM w0 noM w2 := Stp.step hS1 hx2
  have hS3 : Stp noM w1 noM w2 := Stp.step (Stp.self hS1) hx2
  refine s_q rfl rfl (y_or rfl (ev_tmp rfl rfl) (ev_tmp rfl rfl)) ?_
  refine s_q rfl rfl (y_move rfl (ev_tmp rfl rfl)) ?_
  refine s_gval (g_false rfl rfl rfl rfl) rfl (fun hc => (y_move rfl (ev_tmp rfl rfl))) ?_
  refine s_gval (g_false rfl rfl rfl rfl) rfl (fun hc => (y_eql rfl (ev_gv (ev_tmp rfl rfl) hc) ev_const)) ?_
  refine s_q rfl rfl (y_or rfl (ev_tmp rfl rfl) (ev_tmp rfl rfl)) ?_
  refine s_q rfl rfl (y_assign rfl (ev_tmp rfl rfl)) ?_
  refine s_nil ?_
  refine k_next (e := [(2, (Value.bool ((r2 || r3) || (decide (r1 = 95)))))]) ⟨rfl, trivial⟩ ?_
  refine c_ret ?_
  exact q_ret (vs := [(Value.bool ((r2 || r3) || (decide (r1 = 95))))]) Tryd.results28 ⟨ev_tmp rfl rfl, trivial⟩ h

/- 'brocade/brocadebase.Name': what is enough. -/
set_option maxRecDepth 100000 in
set_option maxHeartbeats 4000000 in
theorem vc29 (s1 : List UInt8) (w0 : World) (R : Value → World → Prop)
    (h : ∃ q1 : Option Addr → Nat → Nat → World → Prop, ((!((decide ((s1.length : Int) < 1)) || (decide (16 < (s1.length : Int))))) = true → Calls Tryd.prog 33 #[] w0 (fun e w1 => ∃ (r1A : Option Addr) (r1n : Nat) (r1c : Nat), e = .returned (Value.slice r1A r1n r1c) ∧ Ext w0 w1 ∧ q1 r1A r1n r1c w1)) ∧ (∀ (r1A : Option Addr) (r1n : Nat) (r1c : Nat) (w1 : World), Ext w0 w1 → ((!((decide ((s1.length : Int) < 1)) || (decide (16 < (s1.length : Int))))) = true → q1 r1A r1n r1c w1) → ∃ q2 : Bool → World → Prop, ((!((decide ((s1.length : Int) < 1)) || (decide (16 < (s1.length : Int))))) = true → Calls Tryd.prog 32 #[(Value.slice r1A r1n r1c), (str s1)] w1 (fun e w2 => ∃ (r2 : Bool), e = .returned (Value.bool r2) ∧ Ext w1 w2 ∧ q2 r2 w2)) ∧ (∀ (r2 : Bool) (w2 : World), Ext w1 w2 → ((!((decide ((s1.length : Int) < 1)) || (decide (16 < (s1.length : Int))))) = true → q2 r2 w2) → (((((decide ((s1.length : Int) < 1)) || (decide (16 < (s1.length : Int)))) || r2) = true → R (Value.bool false) w2) ∧ ((((decide ((s1.length : Int) < 1)) || (decide (16 < (s1.length : Int)))) || r2) = false → ∃ (inv1 : Int → World → Prop) (mu1 : Int → Nat), inv1 0 w2 ∧ (∀ (i1 : Int) (w3 : World), Ext w0 w3 → inv1 i1 w3 → (((decide (i1 < (s1.length : Int))) = true → ((0 : Int) ≤ i1 ∧ i1 < (s1.length : Int)) ∧ (((!(((decide (97 ≤ at8 s1 (Int.toNat i1))) && (decide (at8 s1 (Int.toNat i1) ≤ 122))) || ((decide (0 < i1)) && (((decide (48 ≤ at8 s1 (Int.toNat i1))) && (decide (at8 s1 (Int.toNat i1) ≤ 57))) || (decide (at8 s1 (Int.toNat i1) = 95)))))) = true → R (Value.bool false) w3) ∧ ((!(((decide (97 ≤ at8 s1 (Int.toNat i1))) && (decide (at8 s1 (Int.toNat i1) ≤ 122))) || ((decide (0 < i1)) && (((decide (48 ≤ at8 s1 (Int.toNat i1))) && (decide (at8 s1 (Int.toNat i1) ≤ 57))) || (decide (at8 s1 (Int.toNat i1) = 95)))))) = false → (R64 (i1 + 1)) ∧ (inv1 (i1 + 1) w3 ∧ mu1 (i1 + 1) < mu1 i1)))) ∧ ((decide (i1 < (s1.length : Int))) = false → R (Value.bool true) w3)))))))) :
    Calls Tryd.prog 29 #[(str s1)] w0 fun e w' => ∃ v, e = .returned v ∧ R v w' := by
  refine enter (l := [(str s1)]) Tryd.func29 rfl Tryd.ntmps29 rfl ?_
  refine c_seq ?_
  refine c_region ?_
  refine s_q rfl rfl (y_assign rfl ev_const) ?_
  refine s_nil ?_
  refine k_next (e := [(0, (str s1))]) ⟨rfl, trivial⟩ ?_
  refine c_seq ?_
  refine c_seq ?_
  refine c_region ?_
  refine s_q rfl rfl (y_move rfl (ev_tmp rfl rfl)) ?_
  refine s_q rfl rfl (y_lens rfl Tryd.underlying9 (ev_tmp rfl rfl)) ?_
  refine s_q rfl rfl (y_lss rfl (ev_tmp rfl rfl) ev_const) ?_
  refine s_q rfl rfl (y_move rfl (ev_tmp rfl rfl)) ?_
  refine s_gval (g_false rfl rfl rfl rfl) rfl (fun hc => (y_move rfl (ev_tmp rfl rfl))) ?_
  refine s_gval (g_false rfl rfl rfl rfl) rfl (fun hc => (y_lens rfl Tryd.underlying9 (ev_gv (ev_tmp rfl rfl) hc))) ?_
  refine s_gval (g_false rfl rfl rfl rfl) rfl (fun hc => (y_gtr rfl (ev_gv (ev_tmp rfl rfl) hc) ev_const)) ?_
  refine s_q rfl rfl (y_or rfl (ev_tmp rfl rfl) (ev_tmp rfl rfl)) ?_
  refine s_q rfl rfl (y_move rfl (ev_tmp rfl rfl)) ?_
  obtain ⟨q1, hq2, h⟩ := h
  refine s_gcallT (α := Option Addr × Nat × Nat) (fun x => (Value.slice x.1 x.2.1 x.2.2)) (fun x => fun w => q1 (x.1) (x.2.1) (x.2.2) w) (g_false rfl rfl rfl rfl) rfl (fun hc => (r_callF (vs := []) rfl ok_33 trivial)) (fun hc => (hq2 hc).mono ?_) ?_
  · rintro _ w' ⟨r1A, r1n, r1c, rfl, hE', hq'⟩; exact ⟨⟨r1A, r1n, r1c⟩, rfl, hE', hq'⟩
  rintro ⟨r1A, r1n, r1c⟩ w1 hx1 hq1
  replace h := h r1A r1n r1c w1 hx1 hq1
  have hS1 : Stp noM w0 noM w1 := Stp.step Stp.start hx1
  refine s_gval (g_false rfl rfl rfl rfl) rfl (fun hc => (y_move rfl (ev_tmp rfl rfl))) ?_
  obtain ⟨q2, hq4, h⟩ := h
  refine s_gcallT (α := Bool) (fun x => (Value.bool x)) (fun x => fun w => q2 (x) w) (g_false rfl rfl rfl rfl) rfl (fun hc => (r_callF (vs := [(Value.slice r1A r1n r1c), (str s1)]) rfl ok_32 ⟨(ev_gv (ev_tmp rfl rfl) hc), ⟨(ev_gv (ev_tmp rfl rfl) hc), trivial⟩⟩)) (fun hc => (hq4 hc).mono ?_) ?_
  · rintro _ w' ⟨r2, rfl, hE', hq'⟩; exact ⟨r2, rfl, hE', hq'⟩
  rintro r2 w2 hx2 hq3
  replace h := h r2 w2 hx2 hq3
  have hS2 : Stp noM w0 noM w2 := Stp.step hS1 hx2
  have hS3 : Stp noM w1 noM w2 := Stp.step (Stp.self hS1) hx2
  refine s_q rfl rfl (y_or rfl (ev_tmp rfl rfl) (ev_tmp rfl rfl)) ?_
  refine s_nil ?_
  refine k_next (e := [(0, (str s1)), (17, (Value.bool (((decide ((s1.length : Int) < 1)) || (decide (16 < (s1.length : Int)))) || r2)))]) ⟨rfl, rfl, trivial⟩ ?_
  refine c_cond (b := ((decide ((s1.length : Int) < 1)) || (decide (16 < (s1.length : Int)))) || r2) (ev_tmp rfl rfl) (fun hb => ?_) (fun hb => ?_)
  all_goals obtain ⟨hT, hF⟩ := h
  · replace h := hT hb
    clear hT hF
    refine c_seq ?_
    refine c_region ?_
    refine s_q rfl rfl (y_assign rfl ev_const) ?_
    refine s_nil ?_
    refine k_next (e := [(2, (Value.bool false))]) ⟨rfl, trivial⟩ ?_
    refine c_ret ?_
    exact q_ret (vs := [(Value.bool false)]) Tryd.results29 ⟨ev_tmp rfl rfl, trivial⟩ h
  · replace h := hF hb
    clear hT hF
    refine c_skip ?_
    refine k_next (e := [(0, (str s1))]) ⟨rfl, trivial⟩ ?_
    refine c_seq ?_
    refine c_seq ?_
    refine c_region ?_
    refine s_q rfl rfl (y_assign rfl ev_const) ?_
    refine s_nil ?_
    refine k_next (e := [(0, (str s1)), (3, (Value.int .i64 0))]) ⟨rfl, rfl, trivial⟩ ?_
    refine c_block ?_
    obtain ⟨inv1, mu1, h0, h⟩ := h
    refine c_loop (α := Int) (fun x => fun w3 => inv1 (x) w3 ∧ (Ext w0 w3)) (fun x => fun w3 => mu1 (x)) (fun x => [(0, (str s1)), (3, (Value.int .i64 x))]) 0 ⟨h0, (Stp.ext0 hS2)⟩ ⟨rfl, rfl, trivial⟩ ?_
    clear h0
    rintro i1 w3 ⟨hI1, hf1⟩
    have hf1 : Ext w0 w3 := hf1
    have hS4 : Stp noM w0 noM w3 := (Stp.step Stp.start hf1)
    replace h := h i1 w3 hf1 hI1
    refine c_sub (e := [(0, (str s1)), (3, (Value.int .i64 i1))]) ⟨rfl, rfl, trivial⟩ ?_
    refine c_seq ?_
    refine c_seq ?_
    refine c_region ?_
    refine s_q rfl rfl (y_move rfl (ev_tmp rfl rfl)) ?_
    refine s_q rfl rfl (y_move rfl (ev_tmp rfl rfl)) ?_
    refine s_q rfl rfl (y_lens rfl Tryd.underlying9 (ev_tmp rfl rfl)) ?_
    refine s_q rfl rfl (y_lss rfl (ev_tmp rfl rfl) (ev_tmp rfl rfl)) ?_
    refine s_nil ?_
    refine k_next (e := [(0, (str s1)), (3, (Value.int .i64 i1)), (21, (Value.bool (decide (i1 < (s1.length : Int)))))]) ⟨rfl, rfl, rfl, trivial⟩ ?_
    refine c_cond (b := decide (i1 < (s1.length : Int))) (ev_tmp rfl rfl) (fun hb => ?_) (fun hb => ?_)
    all_goals obtain ⟨hT, hF⟩ := h
    · replace h := hT hb
      clear hT hF
      refine c_skip ?_
      refine k_next (e := [(0, (str s1)), (3, (Value.int .i64 i1))]) ⟨rfl, rfl, trivial⟩ ?_
      refine c_seq ?_
      refine c_block ?_
      refine c_seq ?_
      refine c_region ?_
      refine s_q rfl rfl (y_move rfl (ev_tmp rfl rfl)) ?_
      refine s_q rfl rfl (y_move rfl (ev_tmp rfl rfl)) ?_
      obtain ⟨ho1, h⟩ := h
      refine s_q rfl rfl (y_indexs rfl Tryd.underlying9 (ev_tmp rfl rfl) (ev_tmp rfl rfl) ho1) ?_
      refine s_q rfl rfl (y_assign rfl (ev_tmp rfl rfl)) ?_
      refine s_nil ?_
      refine k_next (e := [(0, (str s1)), (3, (Value.int .i64 i1)), (4, (Value.int .u8 (at8 s1 (Int.toNat i1))))]) ⟨rfl, rfl, rfl, trivial⟩ ?_
      refine c_seq ?_
      refine c_region ?_
      refine s_q rfl rfl (y_move rfl (ev_tmp rfl rfl)) ?_
      refine s_q rfl rfl (y_geq rfl (ev_tmp rfl rfl) ev_const) ?_
      refine s_q rfl rfl (y_move rfl (ev_tmp rfl rfl)) ?_
      refine s_gval (g_true rfl rfl rfl rfl) rfl (fun hc => (y_move rfl (ev_tmp rfl rfl))) ?_
      refine s_gval (g_true rfl rfl rfl rfl) rfl (fun hc => (y_leq rfl (ev_gv (ev_tmp rfl rfl) hc) ev_const)) ?_
      refine s_q rfl rfl (y_and rfl (ev_tmp rfl rfl) (ev_tmp rfl rfl)) ?_
      refine s_q rfl rfl (y_move rfl (ev_tmp rfl rfl)) ?_
      refine s_gval (g_false rfl rfl rfl rfl) rfl (fun hc => (y_move rfl (ev_tmp rfl rfl))) ?_
      refine s_gval (g_false rfl rfl rfl rfl) rfl (fun hc => (y_gtr rfl (ev_gv (ev_tmp rfl rfl) hc) ev_const)) ?_
      refine s_gval (g_false rfl rfl rfl rfl) rfl (fun hc => (y_move rfl (ev_gv (ev_tmp rfl rfl) hc))) ?_
      refine s_gval (g_true2 rfl rfl rfl rfl) rfl (fun hc => (y_move rfl (ev_tmp rfl rfl))) ?_
      refine s_gval (g_true2 rfl rfl rfl rfl) rfl (fun hc => (y_geq rfl (ev_gv (ev_tmp rfl rfl) hc) ev_const)) ?_
      refine s_gval (g_true2 rfl rfl rfl rfl) rfl (fun hc => (y_move rfl (ev_gv (ev_tmp rfl rfl) hc))) ?_
      refine s_gval (g_true2 rfl rfl rfl rfl) rfl (fun hc => (y_move rfl (ev_tmp rfl rfl))) ?_
      refine s_gval (g_true2 rfl rfl rfl rfl) rfl (fun hc => (y_leq rfl (ev_gv (ev_tmp rfl rfl) hc) ev_const)) ?_
      refine s_gval (g_true2 rfl rfl rfl rfl) rfl (fun hc => (y_and2 rfl hc (ev_tmp rfl rfl) (ev_tmp rfl rfl))) ?_
      refine s_gval (g_true2 rfl rfl rfl rfl) rfl (fun hc => (y_move rfl (ev_gv (ev_tmp rfl rfl) hc))) ?_
      refine s_gval (g_false2 rfl rfl rfl rfl) rfl (fun hc => (y_move rfl (ev_tmp rfl rfl))) ?_
      refine s_gval (g_false2 rfl rfl rfl rfl) rfl (fun hc => (y_eql rfl (ev_gv (ev_tmp rfl rfl) hc) ev_const)) ?_
      refine s_gval (g_true2 rfl rfl rfl rfl) rfl (fun hc => (y_or2 rfl hc (ev_tmp rfl rfl) (ev_tmp rfl rfl))) ?_
      refine s_gval (g_false rfl rfl rfl rfl) rfl (fun hc => (y_and2 rfl hc (ev_tmp rfl rfl) (ev_tmp rfl rfl))) ?_
      refine s_q rfl rfl (y_or rfl (ev_tmp rfl rfl) (ev_tmp rfl rfl)) ?_
      refine s_q rfl rfl (y_not rfl (ev_tmp rfl rfl)) ?_
      refine s_nil ?_
      refine k_next (e := [(0, (str s1)), (3, (Value.int .i64 i1)), (30, (gv (decide (97 ≤ at8 s1 (Int.toNat i1))) (Value.int .u8 (at8 s1 (Int.toNat i1))))), (31, (gv (decide (97 ≤ at8 s1 (Int.toNat i1))) (Value.bool (decide (at8 s1 (Int.toNat i1) ≤ 122))))), (34, (gv (!((decide (97 ≤ at8 s1 (Int.toNat i1))) && (decide (at8 s1 (Int.toNat i1) ≤ 122)))) (Value.int .i64 i1))), (35, (gv (!((decide (97 ≤ at8 s1 (Int.toNat i1))) && (decide (at8 s1 (Int.toNat i1) ≤ 122)))) (Value.bool (decide (0 < i1))))), (36, (gv (!((decide (97 ≤ at8 s1 (Int.toNat i1))) && (decide (at8 s1 (Int.toNat i1) ≤ 122)))) (Value.bool (decide (0 < i1))))), (37, (gv ((!((decide (97 ≤ at8 s1 (Int.toNat i1))) && (decide (at8 s1 (Int.toNat i1) ≤ 122)))) && (decide (0 < i1))) (Value.int .u8 (at8 s1 (Int.toNat i1))))), (38, (gv ((!((decide (97 ≤ at8 s1 (Int.toNat i1))) && (decide (at8 s1 (Int.toNat i1) ≤ 122)))) && (decide (0 < i1))) (Value.bool (decide (48 ≤ at8 s1 (Int.toNat i1)))))), (39, (gv ((!((decide (97 ≤ at8 s1 (Int.toNat i1))) && (decide (at8 s1 (Int.toNat i1) ≤ 122)))) && (decide (0 < i1))) (Value.bool (decide (48 ≤ at8 s1 (Int.toNat i1)))))), (40, (gv (((!((decide (97 ≤ at8 s1 (Int.toNat i1))) && (decide (at8 s1 (Int.toNat i1) ≤ 122)))) && (decide (0 < i1))) && (decide (48 ≤ at8 s1 (Int.toNat i1)))) (Value.int .u8 (at8 s1 (Int.toNat i1))))), (41, (gv (((!((decide (97 ≤ at8 s1 (Int.toNat i1))) && (decide (at8 s1 (Int.toNat i1) ≤ 122)))) && (decide (0 < i1))) && (decide (48 ≤ at8 s1 (Int.toNat i1)))) (Value.bool (decide (at8 s1 (Int.toNat i1) ≤ 57))))), (42, (gv ((!((decide (97 ≤ at8 s1 (Int.toNat i1))) && (decide (at8 s1 (Int.toNat i1) ≤ 122)))) && (decide (0 < i1))) (Value.bool ((decide (48 ≤ at8 s1 (Int.toNat i1))) && (decide (at8 s1 (Int.toNat i1) ≤ 57)))))), (43, (gv ((!((decide (97 ≤ at8 s1 (Int.toNat i1))) && (decide (at8 s1 (Int.toNat i1) ≤ 122)))) && (decide (0 < i1))) (Value.bool ((decide (48 ≤ at8 s1 (Int.toNat i1))) && (decide (at8 s1 (Int.toNat i1) ≤ 57)))))), (44, (gv (((!((decide (97 ≤ at8 s1 (Int.toNat i1))) && (decide (at8 s1 (Int.toNat i1) ≤ 122)))) && (decide (0 < i1))) && !((decide (48 ≤ at8 s1 (Int.toNat i1))) && (decide (at8 s1 (Int.toNat i1) ≤ 57)))) (Value.int .u8 (at8 s1 (Int.toNat i1))))), (45, (gv (((!((decide (97 ≤ at8 s1 (Int.toNat i1))) && (decide (at8 s1 (Int.toNat i1) ≤ 122)))) && (decide (0 < i1))) && !((decide (48 ≤ at8 s1 (Int.toNat i1))) && (decide (at8 s1 (Int.toNat i1) ≤ 57)))) (Value.bool (decide (at8 s1 (Int.toNat i1) = 95))))), (46, (gv ((!((decide (97 ≤ at8 s1 (Int.toNat i1))) && (decide (at8 s1 (Int.toNat i1) ≤ 122)))) && (decide (0 < i1))) (Value.bool (((decide (48 ≤ at8 s1 (Int.toNat i1))) && (decide (at8 s1 (Int.toNat i1) ≤ 57))) || (decide (at8 s1 (Int.toNat i1) = 95)))))), (47, (gv (!((decide (97 ≤ at8 s1 (Int.toNat i1))) && (decide (at8 s1 (Int.toNat i1) ≤ 122)))) (Value.bool ((decide (0 < i1)) && (((decide (48 ≤ at8 s1 (Int.toNat i1))) && (decide (at8 s1 (Int.toNat i1) ≤ 57))) || (decide (at8 s1 (Int.toNat i1) = 95))))))), (49, (Value.bool (!(((decide (97 ≤ at8 s1 (Int.toNat i1))) && (decide (at8 s1 (Int.toNat i1) ≤ 122))) || ((decide (0 < i1)) && (((decide (48 ≤ at8 s1 (Int.toNat i1))) && (decide (at8 s1 (Int.toNat i1) ≤ 57))) || (decide (at8 s1 (Int.toNat i1) = 95))))))))]) ⟨rfl, rfl, rfl, rfl, rfl, rfl, rfl, rfl, rfl, rfl, rfl, rfl, rfl, rfl, rfl, rfl, rfl, rfl, rfl, trivial⟩ ?_
      refine c_cond (b := !(((decide (97 ≤ at8 s1 (Int.toNat i1))) && (decide (at8 s1 (Int.toNat i1) ≤ 122))) || ((decide (0 < i1)) && (((decide (48 ≤ at8 s1 (Int.toNat i1))) && (decide (at8 s1 (Int.toNat i1) ≤ 57))) || (decide (at8 s1 (Int.toNat i1) = 95)))))) (ev_tmp rfl rfl) (fun hb => ?_) (fun hb => ?_)
      all_goals obtain ⟨hT, hF⟩ := h
      · replace h := hT hb
        clear hT hF
        refine c_seq ?_
        refine c_region ?_
        refine s_q rfl rfl (y_assign rfl ev_const) ?_
        refine s_nil ?_
        refine k_next (e := [(2, (Value.bool false))]) ⟨rfl, trivial⟩ ?_
        refine c_ret ?_
        exact q_ret (vs := [(Value.bool false)]) Tryd.results29 ⟨ev_tmp rfl rfl, trivial⟩ h
      · replace h := hF hb
        clear hT hF
        refine c_skip ?_
        refine k_next (e := [(0, (str s1)), (3, (Value.int .i64 i1)), (30, (gv (decide (97 ≤ at8 s1 (Int.toNat i1))) (Value.int .u8 (at8 s1 (Int.toNat i1))))), (31, (gv (decide (97 ≤ at8 s1 (Int.toNat i1))) (Value.bool (decide (at8 s1 (Int.toNat i1) ≤ 122))))), (34, (gv (!((decide (97 ≤ at8 s1 (Int.toNat i1))) && (decide (at8 s1 (Int.toNat i1) ≤ 122)))) (Value.int .i64 i1))), (35, (gv (!((decide (97 ≤ at8 s1 (Int.toNat i1))) && (decide (at8 s1 (Int.toNat i1) ≤ 122)))) (Value.bool (decide (0 < i1))))), (36, (gv (!((decide (97 ≤ at8 s1 (Int.toNat i1))) && (decide (at8 s1 (Int.toNat i1) ≤ 122)))) (Value.bool (decide (0 < i1))))), (37, (gv ((!((decide (97 ≤ at8 s1 (Int.toNat i1))) && (decide (at8 s1 (Int.toNat i1) ≤ 122)))) && (decide (0 < i1))) (Value.int .u8 (at8 s1 (Int.toNat i1))))), (38, (gv ((!((decide (97 ≤ at8 s1 (Int.toNat i1))) && (decide (at8 s1 (Int.toNat i1) ≤ 122)))) && (decide (0 < i1))) (Value.bool (decide (48 ≤ at8 s1 (Int.toNat i1)))))), (39, (gv ((!((decide (97 ≤ at8 s1 (Int.toNat i1))) && (decide (at8 s1 (Int.toNat i1) ≤ 122)))) && (decide (0 < i1))) (Value.bool (decide (48 ≤ at8 s1 (Int.toNat i1)))))), (40, (gv (((!((decide (97 ≤ at8 s1 (Int.toNat i1))) && (decide (at8 s1 (Int.toNat i1) ≤ 122)))) && (decide (0 < i1))) && (decide (48 ≤ at8 s1 (Int.toNat i1)))) (Value.int .u8 (at8 s1 (Int.toNat i1))))), (41, (gv (((!((decide (97 ≤ at8 s1 (Int.toNat i1))) && (decide (at8 s1 (Int.toNat i1) ≤ 122)))) && (decide (0 < i1))) && (decide (48 ≤ at8 s1 (Int.toNat i1)))) (Value.bool (decide (at8 s1 (Int.toNat i1) ≤ 57))))), (42, (gv ((!((decide (97 ≤ at8 s1 (Int.toNat i1))) && (decide (at8 s1 (Int.toNat i1) ≤ 122)))) && (decide (0 < i1))) (Value.bool ((decide (48 ≤ at8 s1 (Int.toNat i1))) && (decide (at8 s1 (Int.toNat i1) ≤ 57)))))), (43, (gv ((!((decide (97 ≤ at8 s1 (Int.toNat i1))) && (decide (at8 s1 (Int.toNat i1) ≤ 122)))) && (decide (0 < i1))) (Value.bool ((decide (48 ≤ at8 s1 (Int.toNat i1))) && (decide (at8 s1 (Int.toNat i1) ≤ 57)))))), (44, (gv (((!((decide (97 ≤ at8 s1 (Int.toNat i1))) && (decide (at8 s1 (Int.toNat i1) ≤ 122)))) && (decide (0 < i1))) && !((decide (48 ≤ at8 s1 (Int.toNat i1))) && (decide (at8 s1 (Int.toNat i1) ≤ 57)))) (Value.int .u8 (at8 s1 (Int.toNat i1))))), (45, (gv (((!((decide (97 ≤ at8 s1 (Int.toNat i1))) && (decide (at8 s1 (Int.toNat i1) ≤ 122)))) && (decide (0 < i1))) && !((decide (48 ≤ at8 s1 (Int.toNat i1))) && (decide (at8 s1 (Int.toNat i1) ≤ 57)))) (Value.bool (decide (at8 s1 (Int.toNat i1) = 95))))), (46, (gv ((!((decide (97 ≤ at8 s1 (Int.toNat i1))) && (decide (at8 s1 (Int.toNat i1) ≤ 122)))) && (decide (0 < i1))) (Value.bool (((decide (48 ≤ at8 s1 (Int.toNat i1))) && (decide (at8 s1 (Int.toNat i1) ≤ 57))) || (decide (at8 s1 (Int.toNat i1) = 95)))))), (47, (gv (!((decide (97 ≤ at8 s1 (Int.toNat i1))) && (decide (at8 s1 (Int.toNat i1) ≤ 122)))) (Value.bool ((decide (0 < i1)) && (((decide (48 ≤ at8 s1 (Int.toNat i1))) && (decide (at8 s1 (Int.toNat i1) ≤ 57))) || (decide (at8 s1 (Int.toNat i1) = 95)))))))]) ⟨rfl, rfl, rfl, rfl, rfl, rfl, rfl, rfl, rfl, rfl, rfl, rfl, rfl, rfl, rfl, rfl, rfl, rfl, trivial⟩ ?_
        refine c_region ?_
        refine s_q rfl rfl (y_move rfl (ev_tmp rfl rfl)) ?_
        obtain ⟨ho2, h⟩ := h
        refine s_q rfl rfl (y_int (y_add rfl (ev_tmp rfl rfl) ev_const) (wr_i64 ho2)) ?_
        refine s_q rfl rfl (y_assign rfl (ev_tmp rfl rfl)) ?_
        refine s_nil ?_
        exact k_loop (i1 + 1) ⟨rfl, rfl, trivial⟩ ⟨h.1, (Stp.ext0 hS4)⟩ h.2
    · replace h := hF hb
      clear hT hF
      refine c_exit ?_
      refine k_in ?_
      refine k_next (e := []) trivial ?_
      refine c_seq ?_
      refine c_region ?_
      refine s_q rfl rfl (y_assign rfl ev_const) ?_
      refine s_nil ?_
      refine k_next (e := [(2, (Value.bool true))]) ⟨rfl, trivial⟩ ?_
      refine c_ret ?_
      exact q_ret (vs := [(Value.bool true)]) Tryd.results29 ⟨ev_tmp rfl rfl, trivial⟩ h

/- 'slices.Contains[[]string,string]': what is enough. -/
set_option maxRecDepth 100000 in
set_option maxHeartbeats 4000000 in
theorem vc30 (s1A : Option Addr) (s1n : Nat) (s1c : Nat) (v1 : List UInt8) (w0 : World) (R : Value → World → Prop)
    (h : Calls Tryd.prog 43 #[(Value.slice s1A s1n s1c), (str v1)] w0 (fun e w1 => ∃ (r1 : Int), e = .returned (Value.int .i64 r1) ∧ Ext w0 w1 ∧ R (Value.bool (decide (0 ≤ r1))) w1)) :
    Calls Tryd.prog 30 #[(Value.slice s1A s1n s1c), (str v1)] w0 fun e w' => ∃ v, e = .returned v ∧ R v w' := by
  refine enter (l := [(Value.slice s1A s1n s1c), (str v1)]) Tryd.func30 rfl Tryd.ntmps30 rfl ?_
  refine c_seq ?_
  refine c_region ?_
  refine s_q rfl rfl (y_assign rfl ev_const) ?_
  refine s_nil ?_
  refine k_next (e := [(0, (Value.slice s1A s1n s1c)), (1, (str v1))]) ⟨rfl, rfl, trivial⟩ ?_
  refine c_seq ?_
  refine c_region ?_
  refine s_q rfl rfl (y_move rfl (ev_tmp rfl rfl)) ?_
  refine s_q rfl rfl (y_move rfl (ev_tmp rfl rfl)) ?_
  refine s_call rfl rfl (r_callF (vs := [(Value.slice s1A s1n s1c), (str v1)]) rfl ok_43 ⟨(ev_tmp rfl rfl), ⟨(ev_tmp rfl rfl), trivial⟩⟩) (Calls.mono h ?_)
  rintro _ w1 ⟨r1, rfl, hx1, h⟩
  refine ⟨_, rfl, ?_⟩
  have hS1 : Stp noM w0 noM w1 := Stp.step Stp.start hx1
  refine s_q rfl rfl (y_geq rfl (ev_tmp rfl rfl) ev_const) ?_
  refine s_q rfl rfl (y_assign rfl (ev_tmp rfl rfl)) ?_
  refine s_nil ?_
  refine k_next (e := [(4, (Value.bool (decide (0 ≤ r1))))]) ⟨rfl, trivial⟩ ?_
  refine c_ret ?_
  exact q_ret (vs := [(Value.bool (decide (0 ≤ r1)))]) Tryd.results30 ⟨ev_tmp rfl rfl, trivial⟩ h

/- 'brocade/lexer.keywords': what is enough. -/
set_option maxRecDepth 100000 in
set_option maxHeartbeats 4000000 in
theorem vc31 (w0 : World) (R : Value → World → Prop)
    (h : Calls Tryd.prog 44 #[(str ([115, 105, 122, 101, 32, 119, 104, 101, 114, 101, 32, 105, 110, 32, 100, 101, 102, 32, 111, 117, 116, 32, 115, 117, 109, 32, 112, 114, 111, 100, 32, 109, 105, 110, 32, 109, 97, 120, 32, 115, 99, 97, 110, 32, 111, 118, 101, 114, 32, 105, 102, 32, 99, 97, 115, 116, 32, 102, 114, 97, 99, 32, 105, 110, 116, 32, 102, 105, 120, 32, 99, 101, 105, 108, 32, 102, 108, 111, 111, 114, 32, 122, 101, 114, 111, 32, 101, 118, 101, 110, 32, 115, 97, 116, 32, 119, 114, 97, 112] : List UInt8))] w0 (fun e w1 => ∃ (r1A : Option Addr) (r1n : Nat) (r1c : Nat), e = .returned (Value.slice r1A r1n r1c) ∧ Ext w0 w1 ∧ R (Value.slice r1A r1n r1c) w1)) :
    Calls Tryd.prog 31 #[] w0 fun e w' => ∃ v, e = .returned v ∧ R v w' := by
  refine enter (l := []) Tryd.func31 rfl Tryd.ntmps31 rfl ?_
  refine c_seq ?_
  refine c_region ?_
  refine s_q rfl rfl (y_assign rfl ev_const) ?_
  refine s_nil ?_
  refine k_next (e := []) trivial ?_
  refine c_seq ?_
  refine c_region ?_
  refine s_call rfl rfl (r_callF (vs := [(str ([115, 105, 122, 101, 32, 119, 104, 101, 114, 101, 32, 105, 110, 32, 100, 101, 102, 32, 111, 117, 116, 32, 115, 117, 109, 32, 112, 114, 111, 100, 32, 109, 105, 110, 32, 109, 97, 120, 32, 115, 99, 97, 110, 32, 111, 118, 101, 114, 32, 105, 102, 32, 99, 97, 115, 116, 32, 102, 114, 97, 99, 32, 105, 110, 116, 32, 102, 105, 120, 32, 99, 101, 105, 108, 32, 102, 108, 111, 111, 114, 32, 122, 101, 114, 111, 32, 101, 118, 101, 110, 32, 115, 97, 116, 32, 119, 114, 97, 112] : List UInt8))]) rfl ok_44 ⟨ev_const, trivial⟩) (Calls.mono h ?_)
  rintro _ w1 ⟨r1A, r1n, r1c, rfl, hx1, h⟩
  refine ⟨_, rfl, ?_⟩
  have hS1 : Stp noM w0 noM w1 := Stp.step Stp.start hx1
  refine s_q rfl rfl (y_assign rfl (ev_tmp rfl rfl)) ?_
  refine s_nil ?_
  refine k_next (e := [(0, (Value.slice r1A r1n r1c))]) ⟨rfl, trivial⟩ ?_
  refine c_ret ?_
  exact q_ret (vs := [(Value.slice r1A r1n r1c)]) Tryd.results31 ⟨ev_tmp rfl rfl, trivial⟩ h

/- 'brocade/brocadebase.Has': what is enough. -/
set_option maxRecDepth 100000 in
set_option maxHeartbeats 4000000 in
theorem vc32 (l1A : Option Addr) (l1n : Nat) (l1c : Nat) (s1 : List UInt8) (w0 : World) (R : Value → World → Prop)
    (h : ∃ (inv1 : Int → World → Prop) (mu1 : Int → Nat), inv1 0 w0 ∧ (∀ (i1 : Int) (w1 : World), Ext w0 w1 → inv1 i1 w1 → (((decide (i1 < (l1n : Int))) = true → ((0 : Int) ≤ i1 ∧ i1 < (l1n : Int)) ∧ ∃ (ad1 : Addr), l1A = some ad1 ∧ ∃ (e1 : List UInt8), CellsAt w1 (ad1.add (Int.toNat i1 * 1)) [(str e1)] ∧ (((decide (e1 = s1)) = true → R (Value.bool true) w1) ∧ ((decide (e1 = s1)) = false → (R64 (i1 + 1)) ∧ (inv1 (i1 + 1) w1 ∧ mu1 (i1 + 1) < mu1 i1)))) ∧ ((decide (i1 < (l1n : Int))) = false → R (Value.bool false) w1)))) :
    Calls Tryd.prog 32 #[(Value.slice l1A l1n l1c), (str s1)] w0 fun e w' => ∃ v, e = .returned v ∧ R v w' := by
  refine enter (l := [(Value.slice l1A l1n l1c), (str s1)]) Tryd.func32 rfl Tryd.ntmps32 rfl ?_
  refine c_seq ?_
  refine c_region ?_
  refine s_q rfl rfl (y_assign rfl ev_const) ?_
  refine s_nil ?_
  refine k_next (e := [(0, (Value.slice l1A l1n l1c)), (1, (str s1))]) ⟨rfl, rfl, trivial⟩ ?_
  refine c_seq ?_
  refine c_seq ?_
  refine c_region ?_
  refine s_q rfl rfl (y_assign rfl ev_const) ?_
  refine s_nil ?_
  refine k_next (e := [(0, (Value.slice l1A l1n l1c)), (1, (str s1)), (5, (Value.int .i64 0))]) ⟨rfl, rfl, rfl, trivial⟩ ?_
  refine c_block ?_
  obtain ⟨inv1, mu1, h0, h⟩ := h
  refine c_loop (α := Int) (fun x => fun w1 => inv1 (x) w1 ∧ (Ext w0 w1)) (fun x => fun w1 => mu1 (x)) (fun x => [(0, (Value.slice l1A l1n l1c)), (1, (str s1)), (5, (Value.int .i64 x))]) 0 ⟨h0, (Stp.ext0 Stp.start)⟩ ⟨rfl, rfl, rfl, trivial⟩ ?_
  clear h0
  rintro i1 w1 ⟨hI1, hf1⟩
  have hf1 : Ext w0 w1 := hf1
  have hS1 : Stp noM w0 noM w1 := (Stp.step Stp.start hf1)
  replace h := h i1 w1 hf1 hI1
  refine c_sub (e := [(0, (Value.slice l1A l1n l1c)), (1, (str s1)), (5, (Value.int .i64 i1))]) ⟨rfl, rfl, rfl, trivial⟩ ?_
  refine c_seq ?_
  refine c_seq ?_
  refine c_region ?_
  refine s_q rfl rfl (y_move rfl (ev_tmp rfl rfl)) ?_
  refine s_q rfl rfl (y_move rfl (ev_tmp rfl rfl)) ?_
  refine s_q rfl rfl (y_lenl rfl Tryd.underlying52 (ev_tmp rfl rfl)) ?_
  refine s_q rfl rfl (y_lss rfl (ev_tmp rfl rfl) (ev_tmp rfl rfl)) ?_
  refine s_nil ?_
  refine k_next (e := [(0, (Value.slice l1A l1n l1c)), (1, (str s1)), (5, (Value.int .i64 i1)), (9, (Value.bool (decide (i1 < (l1n : Int)))))]) ⟨rfl, rfl, rfl, rfl, trivial⟩ ?_
  refine c_cond (b := decide (i1 < (l1n : Int))) (ev_tmp rfl rfl) (fun hb => ?_) (fun hb => ?_)
  all_goals obtain ⟨hT, hF⟩ := h
  · replace h := hT hb
    clear hT hF
    refine c_skip ?_
    refine k_next (e := [(0, (Value.slice l1A l1n l1c)), (1, (str s1)), (5, (Value.int .i64 i1))]) ⟨rfl, rfl, rfl, trivial⟩ ?_
    refine c_seq ?_
    refine c_block ?_
    refine c_seq ?_
    refine c_region ?_
    refine s_q rfl rfl (y_move rfl (ev_tmp rfl rfl)) ?_
    refine s_q rfl rfl (y_move rfl (ev_tmp rfl rfl)) ?_
    obtain ⟨ho1, h⟩ := h
    obtain ⟨ad1, hC1, h⟩ := h
    refine s_q rfl rfl (y_indexAddr rfl Tryd.underlying52 size_9 (ev_tmp rfl rfl) (ev_tmp rfl rfl) ho1 hC1) ?_
    obtain ⟨e1, hC2, h⟩ := h
    refine s_q rfl rfl (y_load1 (v := (str e1)) rfl (ev_tmp rfl rfl) Tryd.underlying9 rfl hC2) ?_
    refine s_q rfl rfl (y_move rfl (ev_tmp rfl rfl)) ?_
    refine s_q rfl rfl (y_eqs rfl (ev_tmp rfl rfl) (ev_tmp rfl rfl)) ?_
    refine s_nil ?_
    refine k_next (e := [(0, (Value.slice l1A l1n l1c)), (1, (str s1)), (5, (Value.int .i64 i1)), (17, (Value.bool (decide (e1 = s1))))]) ⟨rfl, rfl, rfl, rfl, trivial⟩ ?_
    refine c_cond (b := decide (e1 = s1)) (ev_tmp rfl rfl) (fun hb => ?_) (fun hb => ?_)
    all_goals obtain ⟨hT, hF⟩ := h
    · replace h := hT hb
      clear hT hF
      refine c_seq ?_
      refine c_region ?_
      refine s_q rfl rfl (y_assign rfl ev_const) ?_
      refine s_nil ?_
      refine k_next (e := [(4, (Value.bool true))]) ⟨rfl, trivial⟩ ?_
      refine c_ret ?_
      exact q_ret (vs := [(Value.bool true)]) Tryd.results32 ⟨ev_tmp rfl rfl, trivial⟩ h
    · replace h := hF hb
      clear hT hF
      refine c_skip ?_
      refine k_next (e := [(0, (Value.slice l1A l1n l1c)), (1, (str s1)), (5, (Value.int .i64 i1))]) ⟨rfl, rfl, rfl, trivial⟩ ?_
      refine c_region ?_
      refine s_q rfl rfl (y_move rfl (ev_tmp rfl rfl)) ?_
      obtain ⟨ho2, h⟩ := h
      refine s_q rfl rfl (y_int (y_add rfl (ev_tmp rfl rfl) ev_const) (wr_i64 ho2)) ?_
      refine s_q rfl rfl (y_assign rfl (ev_tmp rfl rfl)) ?_
      refine s_nil ?_
      exact k_loop (i1 + 1) ⟨rfl, rfl, rfl, trivial⟩ ⟨h.1, (Stp.ext0 hS1)⟩ h.2
  · replace h := hF hb
    clear hT hF
    refine c_exit ?_
    refine k_in ?_
    refine k_next (e := []) trivial ?_
    refine c_seq ?_
    refine c_region ?_
    refine s_q rfl rfl (y_assign rfl ev_const) ?_
    refine s_nil ?_
    refine k_next (e := [(4, (Value.bool false))]) ⟨rfl, trivial⟩ ?_
    refine c_ret ?_
    exact q_ret (vs := [(Value.bool false)]) Tryd.results32 ⟨ev_tmp rfl rfl, trivial⟩ h

/- 'brocade/brocadebase.Words': what is enough. -/
set_option maxRecDepth 100000 in
set_option maxHeartbeats 4000000 in
theorem vc33 (w0 : World) (R : Value → World → Prop)
    (h : ∀ (b1 : Nat) (w1 : World), w0.heap.size = b1 → w1.heap.size = b1 + 1 → Ext w0 w1 → Blk w1 b1 9 #[(str ([115, 105, 122, 101] : List UInt8)), (str ([119, 104, 101, 114, 101] : List UInt8)), (str ([105, 110] : List UInt8)), (str ([100, 101, 102] : List UInt8)), (str ([111, 117, 116] : List UInt8)), (str ([115, 117, 109] : List UInt8)), (str ([112, 114, 111, 100] : List UInt8)), (str ([109, 105, 110] : List UInt8)), (str ([109, 97, 120] : List UInt8)), (str ([115, 99, 97, 110] : List UInt8)), (str ([111, 118, 101, 114] : List UInt8)), (str ([105, 102] : List UInt8)), (str ([99, 97, 115, 116] : List UInt8)), (str ([102, 114, 97, 99] : List UInt8)), (str ([105, 110, 116] : List UInt8)), (str ([102, 105, 120] : List UInt8)), (str ([99, 101, 105, 108] : List UInt8)), (str ([102, 108, 111, 111, 114] : List UInt8)), (str ([122, 101, 114, 111] : List UInt8)), (str ([101, 118, 101, 110] : List UInt8)), (str ([115, 97, 116] : List UInt8)), (str ([119, 114, 97, 112] : List UInt8))] → R (Value.slice (some ⟨b1, 0, none⟩) 22 22) w1) :
    Calls Tryd.prog 33 #[] w0 fun e w' => ∃ v, e = .returned v ∧ R v w' := by
  refine enter (l := []) Tryd.func33 rfl Tryd.ntmps33 rfl ?_
  refine c_seq ?_
  refine c_region ?_
  refine s_q rfl rfl (y_assign rfl ev_const) ?_
  refine s_nil ?_
  refine k_next (e := []) trivial ?_
  refine c_seq ?_
  refine c_region ?_
  refine s_buildSlice (vs := [(0, (str ([115, 105, 122, 101] : List UInt8))), (1, (str ([119, 104, 101, 114, 101] : List UInt8))), (2, (str ([105, 110] : List UInt8))), (3, (str ([100, 101, 102] : List UInt8))), (4, (str ([111, 117, 116] : List UInt8))), (5, (str ([115, 117, 109] : List UInt8))), (6, (str ([112, 114, 111, 100] : List UInt8))), (7, (str ([109, 105, 110] : List UInt8))), (8, (str ([109, 97, 120] : List UInt8))), (9, (str ([115, 99, 97, 110] : List UInt8))), (10, (str ([111, 118, 101, 114] : List UInt8))), (11, (str ([105, 102] : List UInt8))), (12, (str ([99, 97, 115, 116] : List UInt8))), (13, (str ([102, 114, 97, 99] : List UInt8))), (14, (str ([105, 110, 116] : List UInt8))), (15, (str ([102, 105, 120] : List UInt8))), (16, (str ([99, 101, 105, 108] : List UInt8))), (17, (str ([102, 108, 111, 111, 114] : List UInt8))), (18, (str ([122, 101, 114, 111] : List UInt8))), (19, (str ([101, 118, 101, 110] : List UInt8))), (20, (str ([115, 97, 116] : List UInt8))), (21, (str ([119, 114, 97, 112] : List UInt8)))]) (cs := #[(str ([115, 105, 122, 101] : List UInt8)), (str ([119, 104, 101, 114, 101] : List UInt8)), (str ([105, 110] : List UInt8)), (str ([100, 101, 102] : List UInt8)), (str ([111, 117, 116] : List UInt8)), (str ([115, 117, 109] : List UInt8)), (str ([112, 114, 111, 100] : List UInt8)), (str ([109, 105, 110] : List UInt8)), (str ([109, 97, 120] : List UInt8)), (str ([115, 99, 97, 110] : List UInt8)), (str ([111, 118, 101, 114] : List UInt8)), (str ([105, 102] : List UInt8)), (str ([99, 97, 115, 116] : List UInt8)), (str ([102, 114, 97, 99] : List UInt8)), (str ([105, 110, 116] : List UInt8)), (str ([102, 105, 120] : List UInt8)), (str ([99, 101, 105, 108] : List UInt8)), (str ([102, 108, 111, 111, 114] : List UInt8)), (str ([122, 101, 114, 111] : List UInt8)), (str ([101, 118, 101, 110] : List UInt8)), (str ([115, 97, 116] : List UInt8)), (str ([119, 114, 97, 112] : List UInt8))]) rfl rfl rfl Tryd.underlying52 info_9 rfl ⟨rfl, ev_const, ⟨rfl, ev_const, ⟨rfl, ev_const, ⟨rfl, ev_const, ⟨rfl, ev_const, ⟨rfl, ev_const, ⟨rfl, ev_const, ⟨rfl, ev_const, ⟨rfl, ev_const, ⟨rfl, ev_const, ⟨rfl, ev_const, ⟨rfl, ev_const, ⟨rfl, ev_const, ⟨rfl, ev_const, ⟨rfl, ev_const, ⟨rfl, ev_const, ⟨rfl, ev_const, ⟨rfl, ev_const, ⟨rfl, ev_const, ⟨rfl, ev_const, ⟨rfl, ev_const, ⟨rfl, ev_const, trivial⟩⟩⟩⟩⟩⟩⟩⟩⟩⟩⟩⟩⟩⟩⟩⟩⟩⟩⟩⟩⟩⟩ (by kernel_rfl) ?_
  intro b1 w1 hb1 hs1 hx1 hB1
  have hS1 : Stp noM w0 noM w1 := Stp.step Stp.start hx1
  replace h := h b1 w1 hb1 hs1 hx1 hB1
  refine s_q rfl rfl (y_assign rfl (ev_tmp rfl rfl)) ?_
  refine s_nil ?_
  refine k_next (e := [(0, (Value.slice (some ⟨b1, 0, none⟩) 22 22))]) ⟨rfl, trivial⟩ ?_
  refine c_ret ?_
  exact q_ret (vs := [(Value.slice (some ⟨b1, 0, none⟩) 22 22)]) Tryd.results33 ⟨ev_tmp rfl rfl, trivial⟩ h

/- 'brocade/brocaderef13.Space': what is enough. -/
set_option maxRecDepth 100000 in
set_option maxHeartbeats 4000000 in
theorem vc34 (c1 : Int) (w0 : World) (R : Value → World → Prop)
    (h : R (Value.bool ((((decide (c1 = 9)) || (decide (c1 = 10))) || (decide (c1 = 13))) || (decide (c1 = 32)))) w0) :
    Calls Tryd.prog 34 #[(Value.int .u8 c1)] w0 fun e w' => ∃ v, e = .returned v ∧ R v w' := by
  refine enter (l := [(Value.int .u8 c1)]) Tryd.func34 rfl Tryd.ntmps34 rfl ?_
  refine c_seq ?_
  refine c_region ?_
  refine s_q rfl rfl (y_assign rfl ev_const) ?_
  refine s_nil ?_
  refine k_next (e := [(0, (Value.int .u8 c1))]) ⟨rfl, trivial⟩ ?_
  refine c_seq ?_
  refine c_region ?_
  refine s_q rfl rfl (y_move rfl (ev_tmp rfl rfl)) ?_
  refine s_q rfl rfl (y_eql rfl (ev_tmp rfl rfl) ev_const) ?_
  refine s_q rfl rfl (y_move rfl (ev_tmp rfl rfl)) ?_
  refine s_gval (g_false rfl rfl rfl rfl) rfl (fun hc => (y_move rfl (ev_tmp rfl rfl))) ?_
  refine s_gval (g_false rfl rfl rfl rfl) rfl (fun hc => (y_eql rfl (ev_gv (ev_tmp rfl rfl) hc) ev_const)) ?_
  refine s_q rfl rfl (y_or rfl (ev_tmp rfl rfl) (ev_tmp rfl rfl)) ?_
  refine s_q rfl rfl (y_move rfl (ev_tmp rfl rfl)) ?_
  refine s_gval (g_false rfl rfl rfl rfl) rfl (fun hc => (y_move rfl (ev_tmp rfl rfl))) ?_
  refine s_gval (g_false rfl rfl rfl rfl) rfl (fun hc => (y_eql rfl (ev_gv (ev_tmp rfl rfl) hc) ev_const)) ?_
  refine s_q rfl rfl (y_or rfl (ev_tmp rfl rfl) (ev_tmp rfl rfl)) ?_
  refine s_q rfl rfl (y_move rfl (ev_tmp rfl rfl)) ?_
  refine s_gval (g_false rfl rfl rfl rfl) rfl (fun hc => (y_move rfl (ev_tmp rfl rfl))) ?_
  refine s_gval (g_false rfl rfl rfl rfl) rfl (fun hc => (y_eql rfl (ev_gv (ev_tmp rfl rfl) hc) ev_const)) ?_
  refine s_q rfl rfl (y_or rfl (ev_tmp rfl rfl) (ev_tmp rfl rfl)) ?_
  refine s_q rfl rfl (y_assign rfl (ev_tmp rfl rfl)) ?_
  refine s_nil ?_
  refine k_next (e := [(2, (Value.bool ((((decide (c1 = 9)) || (decide (c1 = 10))) || (decide (c1 = 13))) || (decide (c1 = 32)))))]) ⟨rfl, trivial⟩ ?_
  refine c_ret ?_
  exact q_ret (vs := [(Value.bool ((((decide (c1 = 9)) || (decide (c1 = 10))) || (decide (c1 = 13))) || (decide (c1 = 32))))]) Tryd.results34 ⟨ev_tmp rfl rfl, trivial⟩ h

/- 'brocade/lexer.space': what is enough. -/
set_option maxRecDepth 100000 in
set_option maxHeartbeats 4000000 in
theorem vc35 (r1 : Int) (w0 : World) (R : Value → World → Prop)
    (h : (((decide (r1 = 9)) = true → (((decide (r1 = 9)) = true → R (Value.bool true) w0) ∧ ((decide (r1 = 9)) = false → R (Value.bool false) w0))) ∧ ((decide (r1 = 9)) = false → (((decide (r1 = 10)) = true → (((decide (r1 = 10)) = true → R (Value.bool true) w0) ∧ ((decide (r1 = 10)) = false → R (Value.bool false) w0))) ∧ ((decide (r1 = 10)) = false → (((decide (r1 = 13)) = true → (((decide (r1 = 13)) = true → R (Value.bool true) w0) ∧ ((decide (r1 = 13)) = false → R (Value.bool false) w0))) ∧ ((decide (r1 = 13)) = false → (((decide (r1 = 32)) = true → R (Value.bool true) w0) ∧ ((decide (r1 = 32)) = false → R (Value.bool false) w0))))))))) :
    Calls Tryd.prog 35 #[(Value.int .i32 r1)] w0 fun e w' => ∃ v, e = .returned v ∧ R v w' := by
  refine enter (l := [(Value.int .i32 r1)]) Tryd.func35 rfl Tryd.ntmps35 rfl ?_
  refine c_seq ?_
  refine c_region ?_
  refine s_q rfl rfl (y_assign rfl ev_const) ?_
  refine s_nil ?_
  refine k_next (e := [(0, (Value.int .i32 r1))]) ⟨rfl, trivial⟩ ?_
  refine c_seq ?_
  refine c_seq ?_
  refine c_region ?_
  refine s_q rfl rfl (y_move rfl (ev_tmp rfl rfl)) ?_
  refine s_nil ?_
  refine k_next (e := [(3, (Value.int .i32 r1))]) ⟨rfl, trivial⟩ ?_
  refine c_block ?_
  refine c_seq ?_
  refine c_seq ?_
  refine c_region ?_
  refine s_q rfl rfl (y_eql rfl (ev_tmp rfl rfl) ev_const) ?_
  refine s_q rfl rfl (y_assign rfl (ev_tmp rfl rfl)) ?_
  refine s_nil ?_
  refine k_next (e := [(3, (Value.int .i32 r1)), (4, (Value.bool (decide (r1 = 9))))]) ⟨rfl, rfl, trivial⟩ ?_
  refine c_cond (b := decide (r1 = 9)) (ev_tmp rfl rfl) (fun hb => ?_) (fun hb => ?_)
  all_goals obtain ⟨hT, hF⟩ := h
  · replace h := hT hb
    clear hT hF
    refine c_skip ?_
    refine k_next (e := [(4, (Value.bool (decide (r1 = 9))))]) ⟨rfl, trivial⟩ ?_
    refine c_cond (b := decide (r1 = 9)) (ev_tmp rfl rfl) (fun hb => ?_) (fun hb => ?_)
    all_goals obtain ⟨hT, hF⟩ := h
    · replace h := hT hb
      clear hT hF
      refine c_seq ?_
      refine c_region ?_
      refine s_q rfl rfl (y_assign rfl ev_const) ?_
      refine s_nil ?_
      refine k_next (e := [(2, (Value.bool true))]) ⟨rfl, trivial⟩ ?_
      refine c_ret ?_
      exact q_ret (vs := [(Value.bool true)]) Tryd.results35 ⟨ev_tmp rfl rfl, trivial⟩ h
    · replace h := hF hb
      clear hT hF
      refine c_skip ?_
      refine k_next (e := []) trivial ?_
      refine c_seq ?_
      refine c_region ?_
      refine s_q rfl rfl (y_assign rfl ev_const) ?_
      refine s_nil ?_
      refine k_next (e := [(2, (Value.bool false))]) ⟨rfl, trivial⟩ ?_
      refine c_ret ?_
      exact q_ret (vs := [(Value.bool false)]) Tryd.results35 ⟨ev_tmp rfl rfl, trivial⟩ h
  · replace h := hF hb
    clear hT hF
    refine c_seq ?_
    refine c_region ?_
    refine s_q rfl rfl (y_eql rfl (ev_tmp rfl rfl) ev_const) ?_
    refine s_q rfl rfl (y_assign rfl (ev_tmp rfl rfl)) ?_
    refine s_nil ?_
    refine k_next (e := [(3, (Value.int .i32 r1)), (4, (Value.bool (decide (r1 = 10))))]) ⟨rfl, rfl, trivial⟩ ?_
    refine c_cond (b := decide (r1 = 10)) (ev_tmp rfl rfl) (fun hb => ?_) (fun hb => ?_)
    all_goals obtain ⟨hT, hF⟩ := h
    · replace h := hT hb
      clear hT hF
      refine c_skip ?_
      refine k_next (e := [(4, (Value.bool (decide (r1 = 10))))]) ⟨rfl, trivial⟩ ?_
      refine c_cond (b := decide (r1 = 10)) (ev_tmp rfl rfl) (fun hb => ?_) (fun hb => ?_)
      all_goals obtain ⟨hT, hF⟩ := h
      · replace h := hT hb
        clear hT hF
        refine c_seq ?_
        refine c_region ?_
        refine s_q rfl rfl (y_assign rfl ev_const) ?_
        refine s_nil ?_
        refine k_next (e := [(2, (Value.bool true))]) ⟨rfl, trivial⟩ ?_
        refine c_ret ?_
        exact q_ret (vs := [(Value.bool true)]) Tryd.results35 ⟨ev_tmp rfl rfl, trivial⟩ h
      · replace h := hF hb
        clear hT hF
        refine c_skip ?_
        refine k_next (e := []) trivial ?_
        refine c_seq ?_
        refine c_region ?_
        refine s_q rfl rfl (y_assign rfl ev_const) ?_
        refine s_nil ?_
        refine k_next (e := [(2, (Value.bool false))]) ⟨rfl, trivial⟩ ?_
        refine c_ret ?_
        exact q_ret (vs := [(Value.bool false)]) Tryd.results35 ⟨ev_tmp rfl rfl, trivial⟩ h
    · replace h := hF hb
      clear hT hF
      refine c_seq ?_
      refine c_region ?_
      refine s_q rfl rfl (y_eql rfl (ev_tmp rfl rfl) ev_const) ?_
      refine s_q rfl rfl (y_assign rfl (ev_tmp rfl rfl)) ?_
      refine s_nil ?_
      refine k_next (e := [(3, (Value.int .i32 r1)), (4, (Value.bool (decide (r1 = 13))))]) ⟨rfl, rfl, trivial⟩ ?_
      refine c_cond (b := decide (r1 = 13)) (ev_tmp rfl rfl) (fun hb => ?_) (fun hb => ?_)
      all_goals obtain ⟨hT, hF⟩ := h
      · replace h := hT hb
        clear hT hF
        refine c_skip ?_
        refine k_next (e := [(4, (Value.bool (decide (r1 = 13))))]) ⟨rfl, trivial⟩ ?_
        refine c_cond (b := decide (r1 = 13)) (ev_tmp rfl rfl) (fun hb => ?_) (fun hb => ?_)
        all_goals obtain ⟨hT, hF⟩ := h
        · replace h := hT hb
          clear hT hF
          refine c_seq ?_
          refine c_region ?_
          refine s_q rfl rfl (y_assign rfl ev_const) ?_
          refine s_nil ?_
          refine k_next (e := [(2, (Value.bool true))]) ⟨rfl, trivial⟩ ?_
          refine c_ret ?_
          exact q_ret (vs := [(Value.bool true)]) Tryd.results35 ⟨ev_tmp rfl rfl, trivial⟩ h
        · replace h := hF hb
          clear hT hF
          refine c_skip ?_
          refine k_next (e := []) trivial ?_
          refine c_seq ?_
          refine c_region ?_
          refine s_q rfl rfl (y_assign rfl ev_const) ?_
          refine s_nil ?_
          refine k_next (e := [(2, (Value.bool false))]) ⟨rfl, trivial⟩ ?_
          refine c_ret ?_
          exact q_ret (vs := [(Value.bool false)]) Tryd.results35 ⟨ev_tmp rfl rfl, trivial⟩ h
      · replace h := hF hb
        clear hT hF
        refine c_region ?_
        refine s_q rfl rfl (y_eql rfl (ev_tmp rfl rfl) ev_const) ?_
        refine s_q rfl rfl (y_assign rfl (ev_tmp rfl rfl)) ?_
        refine s_nil ?_
        refine k_next (e := [(4, (Value.bool (decide (r1 = 32))))]) ⟨rfl, trivial⟩ ?_
        refine c_cond (b := decide (r1 = 32)) (ev_tmp rfl rfl) (fun hb => ?_) (fun hb => ?_)
        all_goals obtain ⟨hT, hF⟩ := h
        · replace h := hT hb
          clear hT hF
          refine c_seq ?_
          refine c_region ?_
          refine s_q rfl rfl (y_assign rfl ev_const) ?_
          refine s_nil ?_
          refine k_next (e := [(2, (Value.bool true))]) ⟨rfl, trivial⟩ ?_
          refine c_ret ?_
          exact q_ret (vs := [(Value.bool true)]) Tryd.results35 ⟨ev_tmp rfl rfl, trivial⟩ h
        · replace h := hF hb
          clear hT hF
          refine c_skip ?_
          refine k_next (e := []) trivial ?_
          refine c_seq ?_
          refine c_region ?_
          refine s_q rfl rfl (y_assign rfl ev_const) ?_
          refine s_nil ?_
          refine k_next (e := [(2, (Value.bool false))]) ⟨rfl, trivial⟩ ?_
          refine c_ret ?_
          exact q_ret (vs := [(Value.bool false)]) Tryd.results35 ⟨ev_tmp rfl rfl, trivial⟩ h

/- 'brocade/lexer.skip$1': what is enough. -/
set_option maxRecDepth 100000 in
set_option maxHeartbeats 4000000 in
theorem vc36 (r1 : Int) (w0 : World) (R : Value → World → Prop)
    (h : R (Value.bool (!decide (r1 = 10))) w0) :
    Calls Tryd.prog 36 #[(Value.int .i32 r1)] w0 fun e w' => ∃ v, e = .returned v ∧ R v w' := by
  refine enter (l := [(Value.int .i32 r1)]) Tryd.func36 rfl Tryd.ntmps36 rfl ?_
  refine c_seq ?_
  refine c_region ?_
  refine s_q rfl rfl (y_assign rfl ev_const) ?_
  refine s_nil ?_
  refine k_next (e := [(0, (Value.int .i32 r1))]) ⟨rfl, trivial⟩ ?_
  refine c_seq ?_
  refine c_region ?_
  refine s_q rfl rfl (y_move rfl (ev_tmp rfl rfl)) ?_
  refine s_q rfl rfl (y_neq rfl (ev_tmp rfl rfl) ev_const) ?_
  refine s_q rfl rfl (y_assign rfl (ev_tmp rfl rfl)) ?_
  refine s_nil ?_
  refine k_next (e := [(2, (Value.bool (!decide (r1 = 10))))]) ⟨rfl, trivial⟩ ?_
  refine c_ret ?_
  exact q_ret (vs := [(Value.bool (!decide (r1 = 10)))]) Tryd.results36 ⟨ev_tmp rfl rfl, trivial⟩ h

/- 'brocade/lexer.digit': what is enough. -/
set_option maxRecDepth 100000 in
set_option maxHeartbeats 4000000 in
theorem vc37 (r1 : Int) (w0 : World) (R : Value → World → Prop)
    (h : R (Value.bool ((decide (48 ≤ r1)) && (decide (r1 ≤ 57)))) w0) :
    Calls Tryd.prog 37 #[(Value.int .i32 r1)] w0 fun e w' => ∃ v, e = .returned v ∧ R v w' := by
  refine enter (l := [(Value.int .i32 r1)]) Tryd.func37 rfl Tryd.ntmps37 rfl ?_
  refine c_seq ?_
  refine c_region ?_
  refine s_q rfl rfl (y_assign rfl ev_const) ?_
  refine s_nil ?_
  refine k_next (e := [(0, (Value.int .i32 r1))]) ⟨rfl, trivial⟩ ?_
  refine c_seq ?_
  refine c_region ?_
  refine s_q rfl rfl (y_move rfl (ev_tmp rfl rfl)) ?_
  refine s_q rfl rfl (y_geq rfl (ev_tmp rfl rfl) ev_const) ?_
  refine s_q rfl rfl (y_move rfl (ev_tmp rfl rfl)) ?_
  refine s_gval (g_true rfl rfl rfl rfl) rfl (fun hc => (y_move rfl (ev_tmp rfl rfl))) ?_
  refine s_gval (g_true rfl rfl rfl rfl) rfl (fun hc => (y_leq rfl (ev_gv (ev_tmp rfl rfl) hc) ev_const)) ?_
  refine s_q rfl rfl (y_and rfl (ev_tmp rfl rfl) (ev_tmp rfl rfl)) ?_
  refine s_q rfl rfl (y_assign rfl (ev_tmp rfl rfl)) ?_
  refine s_nil ?_
  refine k_next (e := [(2, (Value.bool ((decide (48 ≤ r1)) && (decide (r1 ≤ 57)))))]) ⟨rfl, trivial⟩ ?_
  refine c_ret ?_
  exact q_ret (vs := [(Value.bool ((decide (48 ≤ r1)) && (decide (r1 ≤ 57))))]) Tryd.results37 ⟨ev_tmp rfl rfl, trivial⟩ h

/- 'brocade/lexer.symbol': what is enough. -/
set_option maxRecDepth 100000 in
set_option maxHeartbeats 4000000 in
theorem vc38 (r1 : Int) (w0 : World) (R : Value → World → Prop)
    (h : (((decide (r1 = 40)) = true → (((decide (r1 = 40)) = true → R (Value.bool true) w0) ∧ ((decide (r1 = 40)) = false → R (Value.bool false) w0))) ∧ ((decide (r1 = 40)) = false → (((decide (r1 = 41)) = true → (((decide (r1 = 41)) = true → R (Value.bool true) w0) ∧ ((decide (r1 = 41)) = false → R (Value.bool false) w0))) ∧ ((decide (r1 = 41)) = false → (((decide (r1 = 91)) = true → (((decide (r1 = 91)) = true → R (Value.bool true) w0) ∧ ((decide (r1 = 91)) = false → R (Value.bool false) w0))) ∧ ((decide (r1 = 91)) = false → (((decide (r1 = 93)) = true → (((decide (r1 = 93)) = true → R (Value.bool true) w0) ∧ ((decide (r1 = 93)) = false → R (Value.bool false) w0))) ∧ ((decide (r1 = 93)) = false → (((decide (r1 = 123)) = true → (((decide (r1 = 123)) = true → R (Value.bool true) w0) ∧ ((decide (r1 = 123)) = false → R (Value.bool false) w0))) ∧ ((decide (r1 = 123)) = false → (((decide (r1 = 125)) = true → (((decide (r1 = 125)) = true → R (Value.bool true) w0) ∧ ((decide (r1 = 125)) = false → R (Value.bool false) w0))) ∧ ((decide (r1 = 125)) = false → (((decide (r1 = 44)) = true → (((decide (r1 = 44)) = true → R (Value.bool true) w0) ∧ ((decide (r1 = 44)) = false → R (Value.bool false) w0))) ∧ ((decide (r1 = 44)) = false → (((decide (r1 = 59)) = true → (((decide (r1 = 59)) = true → R (Value.bool true) w0) ∧ ((decide (r1 = 59)) = false → R (Value.bool false) w0))) ∧ ((decide (r1 = 59)) = false → (((decide (r1 = 58)) = true → (((decide (r1 = 58)) = true → R (Value.bool true) w0) ∧ ((decide (r1 = 58)) = false → R (Value.bool false) w0))) ∧ ((decide (r1 = 58)) = false → (((decide (r1 = 43)) = true → (((decide (r1 = 43)) = true → R (Value.bool true) w0) ∧ ((decide (r1 = 43)) = false → R (Value.bool false) w0))) ∧ ((decide (r1 = 43)) = false → (((decide (r1 = 45)) = true → (((decide (r1 = 45)) = true → R (Value.bool true) w0) ∧ ((decide (r1 = 45)) = false → R (Value.bool false) w0))) ∧ ((decide (r1 = 45)) = false → (((decide (r1 = 42)) = true → (((decide (r1 = 42)) = true → R (Value.bool true) w0) ∧ ((decide (r1 = 42)) = false → R (Value.bool false) w0))) ∧ ((decide (r1 = 42)) = false → (((decide (r1 = 47)) = true → (((decide (r1 = 47)) = true → R (Value.bool true) w0) ∧ ((decide (r1 = 47)) = false → R (Value.bool false) w0))) ∧ ((decide (r1 = 47)) = false → (((decide (r1 = 60)) = true → (((decide (r1 = 60)) = true → R (Value.bool true) w0) ∧ ((decide (r1 = 60)) = false → R (Value.bool false) w0))) ∧ ((decide (r1 = 60)) = false → (((decide (r1 = 61)) = true → (((decide (r1 = 61)) = true → R (Value.bool true) w0) ∧ ((decide (r1 = 61)) = false → R (Value.bool false) w0))) ∧ ((decide (r1 = 61)) = false → (((decide (r1 = 38)) = true → (((decide (r1 = 38)) = true → R (Value.bool true) w0) ∧ ((decide (r1 = 38)) = false → R (Value.bool false) w0))) ∧ ((decide (r1 = 38)) = false → (((decide (r1 = 124)) = true → (((decide (r1 = 124)) = true → R (Value.bool true) w0) ∧ ((decide (r1 = 124)) = false → R (Value.bool false) w0))) ∧ ((decide (r1 = 124)) = false → (((decide (r1 = 33)) = true → (((decide (r1 = 33)) = true → R (Value.bool true) w0) ∧ ((decide (r1 = 33)) = false → R (Value.bool false) w0))) ∧ ((decide (r1 = 33)) = false → (((decide (r1 = 46)) = true → (((decide (r1 = 46)) = true → R (Value.bool true) w0) ∧ ((decide (r1 = 46)) = false → R (Value.bool false) w0))) ∧ ((decide (r1 = 46)) = false → (((decide (r1 = 64)) = true → R (Value.bool true) w0) ∧ ((decide (r1 = 64)) = false → R (Value.bool false) w0))))))))))))))))))))))))))))))))))))))))) :
    Calls Tryd.prog 38 #[(Value.int .i32 r1)] w0 fun e w' => ∃ v, e = .returned v ∧ R v w' := by
  refine enter (l := [(Value.int .i32 r1)]) Tryd.func38 rfl Tryd.ntmps38 rfl ?_
  refine c_seq ?_
  refine c_region ?_
  refine s_q rfl rfl (y_assign rfl ev_const) ?_
  refine s_nil ?_
  refine k_next (e := [(0, (Value.int .i32 r1))]) ⟨rfl, trivial⟩ ?_
  refine c_seq ?_
  refine c_seq ?_
  refine c_region ?_
  refine s_q rfl rfl (y_move rfl (ev_tmp rfl rfl)) ?_
  refine s_nil ?_
  refine k_next (e := [(3, (Value.int .i32 r1))]) ⟨rfl, trivial⟩ ?_
  refine c_block ?_
  refine c_seq ?_
  refine c_seq ?_
  refine c_region ?_
  refine s_q rfl rfl (y_eql rfl (ev_tmp rfl rfl) ev_const) ?_
  refine s_q rfl rfl (y_assign rfl (ev_tmp rfl rfl)) ?_
  refine s_nil ?_
  refine k_next (e := [(3, (Value.int .i32 r1)), (4, (Value.bool (decide (r1 = 40))))]) ⟨rfl, rfl, trivial⟩ ?_
  refine c_cond (b := decide (r1 = 40)) (ev_tmp rfl rfl) (fun hb => ?_) (fun hb => ?_)
  all_goals obtain ⟨hT, hF⟩ := h
  · replace h := hT hb
    clear hT hF
    refine c_skip ?_
    refine k_next (e := [(4, (Value.bool (decide (r1 = 40))))]) ⟨rfl, trivial⟩ ?_
    refine c_cond (b := decide (r1 = 40)) (ev_tmp rfl rfl) (fun hb => ?_) (fun hb => ?_)
    all_goals obtain ⟨hT, hF⟩ := h
    · replace h := hT hb
      clear hT hF
      refine c_seq ?_
      refine c_region ?_
      refine s_q rfl rfl (y_assign rfl ev_const) ?_
      refine s_nil ?_
      refine k_next (e := [(2, (Value.bool true))]) ⟨rfl, trivial⟩ ?_
      refine c_ret ?_
      exact q_ret (vs := [(Value.bool true)]) Tryd.results38 ⟨ev_tmp rfl rfl, trivial⟩ h
    · replace h := hF hb
      clear hT hF
      refine c_skip ?_
      refine k_next (e := []) trivial ?_
      refine c_seq ?_
      refine c_region ?_
      refine s_q rfl rfl (y_assign rfl ev_const) ?_
      refine s_nil ?_
      refine k_next (e := [(2, (Value.bool false))]) ⟨rfl, trivial⟩ ?_
      refine c_ret ?_
      exact q_ret (vs := [(Value.bool false)]) Tryd.results38 ⟨ev_tmp rfl rfl, trivial⟩ h
  · replace h := hF hb
    clear hT hF
    refine c_seq ?_
    refine c_region ?_
    refine s_q rfl rfl (y_eql rfl (ev_tmp rfl rfl) ev_const) ?_
    refine s_q rfl rfl (y_assign rfl (ev_tmp rfl rfl)) ?_
    refine s_nil ?_
    refine k_next (e := [(3, (Value.int .i32 r1)), (4, (Value.bool (decide (r1 = 41))))]) ⟨rfl, rfl, trivial⟩ ?_
    refine c_cond (b := decide (r1 = 41)) (ev_tmp rfl rfl) (fun hb => ?_) (fun hb => ?_)
    all_goals obtain ⟨hT, hF⟩ := h
    · replace h := hT hb
      clear hT hF
      refine c_skip ?_
      refine k_next (e := [(4, (Value.bool (decide (r1 = 41))))]) ⟨rfl, trivial⟩ ?_
      refine c_cond (b := decide (r1 = 41)) (ev_tmp rfl rfl) (fun hb => ?_) (fun hb => ?_)
      all_goals obtain ⟨hT, hF⟩ := h
      · replace h := hT hb
        clear hT hF
        refine c_seq ?_
        refine c_region ?_
        refine s_q rfl rfl (y_assign rfl ev_const) ?_
        refine s_nil ?_
        refine k_next (e := [(2, (Value.bool true))]) ⟨rfl, trivial⟩ ?_
        refine c_ret ?_
        exact q_ret (vs := [(Value.bool true)]) Tryd.results38 ⟨ev_tmp rfl rfl, trivial⟩ h
      · replace h := hF hb
        clear hT hF
        refine c_skip ?_
        refine k_next (e := []) trivial ?_
        refine c_seq ?_
        refine c_region ?_
        refine s_q rfl rfl (y_assign rfl ev_const) ?_
        refine s_nil ?_
        refine k_next (e := [(2, (Value.bool false))]) ⟨rfl, trivial⟩ ?_
        refine c_ret ?_
        exact q_ret (vs := [(Value.bool false)]) Tryd.results38 ⟨ev_tmp rfl rfl, trivial⟩ h
    · replace h := hF hb
      clear hT hF
      refine c_seq ?_
      refine c_region ?_
      refine s_q rfl rfl (y_eql rfl (ev_tmp rfl rfl) ev_const) ?_
      refine s_q rfl rfl (y_assign rfl (ev_tmp rfl rfl)) ?_
      refine s_nil ?_
      refine k_next (e := [(3, (Value.int .i32 r1)), (4, (Value.bool (decide (r1 = 91))))]) ⟨rfl, rfl, trivial⟩ ?_
      refine c_cond (b := decide (r1 = 91)) (ev_tmp rfl rfl) (fun hb => ?_) (fun hb => ?_)
      all_goals obtain ⟨hT, hF⟩ := h
      · replace h := hT hb
        clear hT hF
        refine c_skip ?_
        refine k_next (e := [(4, (Value.bool (decide (r1 = 91))))]) ⟨rfl, trivial⟩ ?_
        refine c_cond (b := decide (r1 = 91)) (ev_tmp rfl rfl) (fun hb => ?_) (fun hb => ?_)
        all_goals obtain ⟨hT, hF⟩ := h
        · replace h := hT hb
          clear hT hF
          refine c_seq ?_
          refine c_region ?_
          refine s_q rfl rfl (y_assign rfl ev_const) ?_
          refine s_nil ?_
          refine k_next (e := [(2, (Value.bool true))]) ⟨rfl, trivial⟩ ?_
          refine c_ret ?_
          exact q_ret (vs := [(Value.bool true)]) Tryd.results38 ⟨ev_tmp rfl rfl, trivial⟩ h
        · replace h := hF hb
          clear hT hF
          refine c_skip ?_
          refine k_next (e := []) trivial ?_
          refine c_seq ?_
          refine c_region ?_
          refine s_q rfl rfl (y_assign rfl ev_const) ?_
          refine s_nil ?_
          refine k_next (e := [(2, (Value.bool false))]) ⟨rfl, trivial⟩ ?_
          refine c_ret ?_
          exact q_ret (vs := [(Value.bool false)]) Tryd.results38 ⟨ev_tmp rfl rfl, trivial⟩ h
      · replace h := hF hb
        clear hT hF
        refine c_seq ?_
        refine c_region ?_
        refine s_q rfl rfl (y_eql rfl (ev_tmp rfl rfl) ev_const) ?_
        refine s_q rfl rfl (y_assign rfl (ev_tmp rfl rfl)) ?_
        refine s_nil ?_
        refine k_next (e := [(3, (Value.int .i32 r1)), (4, (Value.bool (decide (r1 = 93))))]) ⟨rfl, rfl, trivial⟩ ?_
        refine c_cond (b := decide (r1 = 93)) (ev_tmp rfl rfl) (fun hb => ?_) (fun hb => ?_)
        all_goals obtain ⟨hT, hF⟩ := h
        · replace h := hT hb
          clear hT hF
          refine c_skip ?_
          refine k_next (e := [(4, (Value.bool (decide (r1 = 93))))]) ⟨rfl, trivial⟩ ?_
          refine c_cond (b := decide (r1 = 93)) (ev_tmp rfl rfl) (fun hb => ?_) (fun hb => ?_)
          all_goals obtain ⟨hT, hF⟩ := h
          · replace h := hT hb
            clear hT hF
            refine c_seq ?_
            refine c_region ?_
            refine s_q rfl rfl (y_assign rfl ev_const) ?_
            refine s_nil ?_
            refine k_next (e := [(2, (Value.bool true))]) ⟨rfl, trivial⟩ ?_
            refine c_ret ?_
            exact q_ret (vs := [(Value.bool true)]) Tryd.results38 ⟨ev_tmp rfl rfl, trivial⟩ h
          · replace h := hF hb
            clear hT hF
            refine c_skip ?_
            refine k_next (e := []) trivial ?_
            refine c_seq ?_
            refine c_region ?_
            refine s_q rfl rfl (y_assign rfl ev_const) ?_
            refine s_nil ?_
            refine k_next (e := [(2, (Value.bool false))]) ⟨rfl, trivial⟩ ?_
            refine c_ret ?_
            exact q_ret (vs := [(Value.bool false)]) Tryd.results38 ⟨ev_tmp rfl rfl, trivial⟩ h
        · replace h := hF hb
          clear hT hF
          refine c_seq ?_
          refine c_region ?_
          refine s_q rfl rfl (y_eql rfl (ev_tmp rfl rfl) ev_const) ?_
          refine s_q rfl rfl (y_assign rfl (ev_tmp rfl rfl)) ?_
          refine s_nil ?_
          refine k_next (e := [(3, (Value.int .i32 r1)), (4, (Value.bool (decide (r1 = 123))))]) ⟨rfl, rfl, trivial⟩ ?_
          refine c_cond (b := decide (r1 = 123)) (ev_tmp rfl rfl) (fun hb => ?_) (fun hb => ?_)
          all_goals obtain ⟨hT, hF⟩ := h
          · replace h := hT hb
            clear hT hF
            refine c_skip ?_
            refine k_next (e := [(4, (Value.bool (decide (r1 = 123))))]) ⟨rfl, trivial⟩ ?_
            refine c_cond (b := decide (r1 = 123)) (ev_tmp rfl rfl) (fun hb => ?_) (fun hb => ?_)
            all_goals obtain ⟨hT, hF⟩ := h
            · replace h := hT hb
              clear hT hF
              refine c_seq ?_
              refine c_region ?_
              refine s_q rfl rfl (y_assign rfl ev_const) ?_
              refine s_nil ?_
              refine k_next (e := [(2, (Value.bool true))]) ⟨rfl, trivial⟩ ?_
              refine c_ret ?_
              exact q_ret (vs := [(Value.bool true)]) Tryd.results38 ⟨ev_tmp rfl rfl, trivial⟩ h
            · replace h := hF hb
              clear hT hF
              refine c_skip ?_
              refine k_next (e := []) trivial ?_
              refine c_seq ?_
              refine c_region ?_
              refine s_q rfl rfl (y_assign rfl ev_const) ?_
              refine s_nil ?_
              refine k_next (e := [(2, (Value.bool false))]) ⟨rfl, trivial⟩ ?_
              refine c_ret ?_
              exact q_ret (vs := [(Value.bool false)]) Tryd.results38 ⟨ev_tmp rfl rfl, trivial⟩ h
          · replace h := hF hb
            clear hT hF
            refine c_seq ?_
            refine c_region ?_
            refine s_q rfl rfl (y_eql rfl (ev_tmp rfl rfl) ev_const) ?_
            refine s_q rfl rfl (y_assign rfl (ev_tmp rfl rfl)) ?_
            refine s_nil ?_
            refine k_next (e := [(3, (Value.int .i32 r1)), (4, (Value.bool (decide (r1 = 125))))]) ⟨rfl, rfl, trivial⟩ ?_
            refine c_cond (b := decide (r1 = 125)) (ev_tmp rfl rfl) (fun hb => ?_) (fun hb => ?_)
            all_goals obtain ⟨hT, hF⟩ := h
            · replace h := hT hb
              clear hT hF
              refine c_skip ?_
              refine k_next (e := [(4, (Value.bool (decide (r1 = 125))))]) ⟨rfl, trivial⟩ ?_
              refine c_cond (b := decide (r1 = 125)) (ev_tmp rfl rfl) (fun hb => ?_) (fun hb => ?_)
              all_goals obtain ⟨hT, hF⟩ := h
              · replace h := hT hb
                clear hT hF
                refine c_seq ?_
                refine c_region ?_
                refine s_q rfl rfl (y_assign rfl ev_const) ?_
                refine s_nil ?_
                refine k_next (e := [(2, (Value.bool true))]) ⟨rfl, trivial⟩ ?_
                refine c_ret ?_
                exact q_ret (vs := [(Value.bool true)]) Tryd.results38 ⟨ev_tmp rfl rfl, trivial⟩ h
              · replace h := hF hb
                clear hT hF
                refine c_skip ?_
                refine k_next (e := []) trivial ?_
                refine c_seq ?_
                refine c_region ?_
                refine s_q rfl rfl (y_assign rfl ev_const) ?_
                refine s_nil ?_
                refine k_next (e := [(2, (Value.bool false))]) ⟨rfl, trivial⟩ ?_
                refine c_ret ?_
                exact q_ret (vs := [(Value.bool false)]) Tryd.results38 ⟨ev_tmp rfl rfl, trivial⟩ h
            · replace h := hF hb
              clear hT hF
              refine c_seq ?_
              refine c_region ?_
              refine s_q rfl rfl (y_eql rfl (ev_tmp rfl rfl) ev_const) ?_
              refine s_q rfl rfl (y_assign rfl (ev_tmp rfl rfl)) ?_
              refine s_nil ?_
              refine k_next (e := [(3, (Value.int .i32 r1)), (4, (Value.bool (decide (r1 = 44))))]) ⟨rfl, rfl, trivial⟩ ?_
              refine c_cond (b := decide (r1 = 44)) (ev_tmp rfl rfl) (fun hb => ?_) (fun hb => ?_)
              all_goals obtain ⟨hT, hF⟩ := h
              · replace h := hT hb
                clear hT hF
                refine c_skip ?_
                refine k_next (e := [(4, (Value.bool (decide (r1 = 44))))]) ⟨rfl, trivial⟩ ?_
                refine c_cond (b := decide (r1 = 44)) (ev_tmp rfl rfl) (fun hb => ?_) (fun hb => ?_)
                all_goals obtain ⟨hT, hF⟩ := h
                · replace h := hT hb
                  clear hT hF
                  refine c_seq ?_
                  refine c_region ?_
                  refine s_q rfl rfl (y_assign rfl ev_const) ?_
                  refine s_nil ?_
                  refine k_next (e := [(2, (Value.bool true))]) ⟨rfl, trivial⟩ ?_
                  refine c_ret ?_
                  exact q_ret (vs := [(Value.bool true)]) Tryd.results38 ⟨ev_tmp rfl rfl, trivial⟩ h
                · replace h := hF hb
                  clear hT hF
                  refine c_skip ?_
                  refine k_next (e := []) trivial ?_
                  refine c_seq ?_
                  refine c_region ?_
                  refine s_q rfl rfl (y_assign rfl ev_const) ?_
                  refine s_nil ?_
                  refine k_next (e := [(2, (Value.bool false))]) ⟨rfl, trivial⟩ ?_
                  refine c_ret ?_
                  exact q_ret (vs := [(Value.bool false)]) Tryd.results38 ⟨ev_tmp rfl rfl, trivial⟩ h
              · replace h := hF hb
                clear hT hF
                refine c_seq ?_
                refine c_region ?_
                refine s_q rfl rfl (y_eql rfl (ev_tmp rfl rfl) ev_const) ?_
                refine s_q rfl rfl (y_assign rfl (ev_tmp rfl rfl)) ?_
                refine s_nil ?_
                refine k_next (e := [(3, (Value.int .i32 r1)), (4, (Value.bool (decide (r1 = 59))))]) ⟨rfl, rfl, trivial⟩ ?_
                refine c_cond (b := decide (r1 = 59)) (ev_tmp rfl rfl) (fun hb => ?_) (fun hb => ?_)
                all_goals obtain ⟨hT, hF⟩ := h
                · replace h := hT hb
                  clear hT hF
                  refine c_skip ?_
                  refine k_next (e := [(4, (Value.bool (decide (r1 = 59))))]) ⟨rfl, trivial⟩ ?_
                  refine c_cond (b := decide (r1 = 59)) (ev_tmp rfl rfl) (fun hb => ?_) (fun hb => ?_)
                  all_goals obtain ⟨hT, hF⟩ := h
                  · replace h := hT hb
                    clear hT hF
                    refine c_seq ?_
                    refine c_region ?_
                    refine s_q rfl rfl (y_assign rfl ev_const) ?_
                    refine s_nil ?_
                    refine k_next (e := [(2, (Value.bool true))]) ⟨rfl, trivial⟩ ?_
                    refine c_ret ?_
                    exact q_ret (vs := [(Value.bool true)]) Tryd.results38 ⟨ev_tmp rfl rfl, trivial⟩ h
                  · replace h := hF hb
                    clear hT hF
                    refine c_skip ?_
                    refine k_next (e := []) trivial ?_
                    refine c_seq ?_
                    refine c_region ?_
                    refine s_q rfl rfl (y_assign rfl ev_const) ?_
                    refine s_nil ?_
                    refine k_next (e := [(2, (Value.bool false))]) ⟨rfl, trivial⟩ ?_
                    refine c_ret ?_
                    exact q_ret (vs := [(Value.bool false)]) Tryd.results38 ⟨ev_tmp rfl rfl, trivial⟩ h
                · replace h := hF hb
                  clear hT hF
                  refine c_seq ?_
                  refine c_region ?_
                  refine s_q rfl rfl (y_eql rfl (ev_tmp rfl rfl) ev_const) ?_
                  refine s_q rfl rfl (y_assign rfl (ev_tmp rfl rfl)) ?_
                  refine s_nil ?_
                  refine k_next (e := [(3, (Value.int .i32 r1)), (4, (Value.bool (decide (r1 = 58))))]) ⟨rfl, rfl, trivial⟩ ?_
                  refine c_cond (b := decide (r1 = 58)) (ev_tmp rfl rfl) (fun hb => ?_) (fun hb => ?_)
                  all_goals obtain ⟨hT, hF⟩ := h
                  · replace h := hT hb
                    clear hT hF
                    refine c_skip ?_
                    refine k_next (e := [(4, (Value.bool (decide (r1 = 58))))]) ⟨rfl, trivial⟩ ?_
                    refine c_cond (b := decide (r1 = 58)) (ev_tmp rfl rfl) (fun hb => ?_) (fun hb => ?_)
                    all_goals obtain ⟨hT, hF⟩ := h
                    · replace h := hT hb
                      clear hT hF
                      refine c_seq ?_
                      refine c_region ?_
                      refine s_q rfl rfl (y_assign rfl ev_const) ?_
                      refine s_nil ?_
                      refine k_next (e := [(2, (Value.bool true))]) ⟨rfl, trivial⟩ ?_
                      refine c_ret ?_
                      exact q_ret (vs := [(Value.bool true)]) Tryd.results38 ⟨ev_tmp rfl rfl, trivial⟩ h
                    · replace h := hF hb
                      clear hT hF
                      refine c_skip ?_
                      refine k_next (e := []) trivial ?_
                      refine c_seq ?_
                      refine c_region ?_
                      refine s_q rfl rfl (y_assign rfl ev_const) ?_
                      refine s_nil ?_
                      refine k_next (e := [(2, (Value.bool false))]) ⟨rfl, trivial⟩ ?_
                      refine c_ret ?_
                      exact q_ret (vs := [(Value.bool false)]) Tryd.results38 ⟨ev_tmp rfl rfl, trivial⟩ h
                  · replace h := hF hb
                    clear hT hF
                    refine c_seq ?_
                    refine c_region ?_
                    refine s_q rfl rfl (y_eql rfl (ev_tmp rfl rfl) ev_const) ?_
                    refine s_q rfl rfl (y_assign rfl (ev_tmp rfl rfl)) ?_
                    refine s_nil ?_
                    refine k_next (e := [(3, (Value.int .i32 r1)), (4, (Value.bool (decide (r1 = 43))))]) ⟨rfl, rfl, trivial⟩ ?_
                    refine c_cond (b := decide (r1 = 43)) (ev_tmp rfl rfl) (fun hb => ?_) (fun hb => ?_)
                    all_goals obtain ⟨hT, hF⟩ := h
                    · replace h := hT hb
                      clear hT hF
                      refine c_skip ?_
                      refine k_next (e := [(4, (Value.bool (decide (r1 = 43))))]) ⟨rfl, trivial⟩ ?_
                      refine c_cond (b := decide (r1 = 43)) (ev_tmp rfl rfl) (fun hb => ?_) (fun hb => ?_)
                      all_goals obtain ⟨hT, hF⟩ := h
                      · replace h := hT hb
                        clear hT hF
                        refine c_seq ?_
                        refine c_region ?_
                        refine s_q rfl rfl (y_assign rfl ev_const) ?_
                        refine s_nil ?_
                        refine k_next (e := [(2, (Value.bool true))]) ⟨rfl, trivial⟩ ?_
                        refine c_ret ?_
                        exact q_ret (vs := [(Value.bool true)]) Tryd.results38 ⟨ev_tmp rfl rfl, trivial⟩ h
                      · replace h := hF hb
                        clear hT hF
                        refine c_skip ?_
                        refine k_next (e := []) trivial ?_
                        refine c_seq ?_
                        refine c_region ?_
                        refine s_q rfl rfl (y_assign rfl ev_const) ?_
                        refine s_nil ?_
                        refine k_next (e := [(2, (Value.bool false))]) ⟨rfl, trivial⟩ ?_
                        refine c_ret ?_
                        exact q_ret (vs := [(Value.bool false)]) Tryd.results38 ⟨ev_tmp rfl rfl, trivial⟩ h
                    · replace h := hF hb
                      clear hT hF
                      refine c_seq ?_
                      refine c_region ?_
                      refine s_q rfl rfl (y_eql rfl (ev_tmp rfl rfl) ev_const) ?_
                      refine s_q rfl rfl (y_assign rfl (ev_tmp rfl rfl)) ?_
                      refine s_nil ?_
                      refine k_next (e := [(3, (Value.int .i32 r1)), (4, (Value.bool (decide (r1 = 45))))]) ⟨rfl, rfl, trivial⟩ ?_
                      refine c_cond (b := decide (r1 = 45)) (ev_tmp rfl rfl) (fun hb => ?_) (fun hb => ?_)
                      all_goals obtain ⟨hT, hF⟩ := h
                      · replace h := hT hb
                        clear hT hF
                        refine c_skip ?_
                        refine k_next (e := [(4, (Value.bool (decide (r1 = 45))))]) ⟨rfl, trivial⟩ ?_
                        refine c_cond (b := decide (r1 = 45)) (ev_tmp rfl rfl) (fun hb => ?_) (fun hb => ?_)
                        all_goals obtain ⟨hT, hF⟩ := h
                        · replace h := hT hb
                          clear hT hF
                          refine c_seq ?_
                          refine c_region ?_
                          refine s_q rfl rfl (y_assign rfl ev_const) ?_
                          refine s_nil ?_
                          refine k_next (e := [(2, (Value.bool true))]) ⟨rfl, trivial⟩ ?_
                          refine c_ret ?_
                          exact q_ret (vs := [(Value.bool true)]) Tryd.results38 ⟨ev_tmp rfl rfl, trivial⟩ h
                        · replace h := hF hb
                          clear hT hF
                          refine c_skip ?_
                          refine k_next (e := []) trivial ?_
                          refine c_seq ?_
                          refine c_region ?_
                          refine s_q rfl rfl (y_assign rfl ev_const) ?_
                          refine s_nil ?_
                          refine k_next (e := [(2, (Value.bool false))]) ⟨rfl, trivial⟩ ?_
                          refine c_ret ?_
                          exact q_ret (vs := [(Value.bool false)]) Tryd.results38 ⟨ev_tmp rfl rfl, trivial⟩ h
                      · replace h := hF hb
                        clear hT hF
                        refine c_seq ?_
                        refine c_region ?_
                        refine s_q rfl rfl (y_eql rfl (ev_tmp rfl rfl) ev_const) ?_
                        refine s_q rfl rfl (y_assign rfl (ev_tmp rfl rfl)) ?_
                        refine s_nil ?_
                        refine k_next (e := [(3, (Value.int .i32 r1)), (4, (Value.bool (decide (r1 = 42))))]) ⟨rfl, rfl, trivial⟩ ?_
                        refine c_cond (b := decide (r1 = 42)) (ev_tmp rfl rfl) (fun hb => ?_) (fun hb => ?_)
                        all_goals obtain ⟨hT, hF⟩ := h
                        · replace h := hT hb
                          clear hT hF
                          refine c_skip ?_
                          refine k_next (e := [(4, (Value.bool (decide (r1 = 42))))]) ⟨rfl, trivial⟩ ?_
                          refine c_cond (b := decide (r1 = 42)) (ev_tmp rfl rfl) (fun hb => ?_) (fun hb => ?_)
                          all_goals obtain ⟨hT, hF⟩ := h
                          · replace h := hT hb
                            clear hT hF
                            refine c_seq ?_
                            refine c_region ?_
                            refine s_q rfl rfl (y_assign rfl ev_const) ?_
                            refine s_nil ?_
                            refine k_next (e := [(2, (Value.bool true))]) ⟨rfl, trivial⟩ ?_
                            refine c_ret ?_
                            exact q_ret (vs := [(Value.bool true)]) Tryd.results38 ⟨ev_tmp rfl rfl, trivial⟩ h
                          · replace h := hF hb
                            clear hT hF
                            refine c_skip ?_
                            refine k_next (e := []) trivial ?_
                            refine c_seq ?_
                            refine c_region ?_
                            refine s_q rfl rfl (y_assign rfl ev_const) ?_
                            refine s_nil ?_
                            refine k_next (e := [(2, (Value.bool false))]) ⟨rfl, trivial⟩ ?_
                            refine c_ret ?_
                            exact q_ret (vs := [(Value.bool false)]) Tryd.results38 ⟨ev_tmp rfl rfl, trivial⟩ h
                        · replace h := hF hb
                          clear hT hF
                          refine c_seq ?_
                          refine c_region ?_
                          refine s_q rfl rfl (y_eql rfl (ev_tmp rfl rfl) ev_const) ?_
                          refine s_q rfl rfl (y_assign rfl (ev_tmp rfl rfl)) ?_
                          refine s_nil ?_
                          refine k_next (e := [(3, (Value.int .i32 r1)), (4, (Value.bool (decide (r1 = 47))))]) ⟨rfl, rfl, trivial⟩ ?_
                          refine c_cond (b := decide (r1 = 47)) (ev_tmp rfl rfl) (fun hb => ?_) (fun hb => ?_)
                          all_goals obtain ⟨hT, hF⟩ := h
                          · replace h := hT hb
                            clear hT hF
                            refine c_skip ?_
                            refine k_next (e := [(4, (Value.bool (decide (r1 = 47))))]) ⟨rfl, trivial⟩ ?_
                            refine c_cond (b := decide (r1 = 47)) (ev_tmp rfl rfl) (fun hb => ?_) (fun hb => ?_)
                            all_goals obtain ⟨hT, hF⟩ := h
                            · replace h := hT hb
                              clear hT hF
                              refine c_seq ?_
                              refine c_region ?_
                              refine s_q rfl rfl (y_assign rfl ev_const) ?_
                              refine s_nil ?_
                              refine k_next (e := [(2, (Value.bool true))]) ⟨rfl, trivial⟩ ?_
                              refine c_ret ?_
                              exact q_ret (vs := [(Value.bool true)]) Tryd.results38 ⟨ev_tmp rfl rfl, trivial⟩ h
                            · replace h := hF hb
                              clear hT hF
                              refine c_skip ?_
                              refine k_next (e := []) trivial ?_
                              refine c_seq ?_
                              refine c_region ?_
                              refine s_q rfl rfl (y_assign rfl ev_const) ?_
                              refine s_nil ?_
                              refine k_next (e := [(2, (Value.bool false))]) ⟨rfl, trivial⟩ ?_
                              refine c_ret ?_
                              exact q_ret (vs := [(Value.bool false)]) Tryd.results38 ⟨ev_tmp rfl rfl, trivial⟩ h
                          · replace h := hF hb
                            clear hT hF
                            refine c_seq ?_
                            refine c_region ?_
                            refine s_q rfl rfl (y_eql rfl (ev_tmp rfl rfl) ev_const) ?_
                            refine s_q rfl rfl (y_assign rfl (ev_tmp rfl rfl)) ?_
                            refine s_nil ?_
                            refine k_next (e := [(3, (Value.int .i32 r1)), (4, (Value.bool (decide (r1 = 60))))]) ⟨rfl, rfl, trivial⟩ ?_
                            refine c_cond (b := decide (r1 = 60)) (ev_tmp rfl rfl) (fun hb => ?_) (fun hb => ?_)
                            all_goals obtain ⟨hT, hF⟩ := h
                            · replace h := hT hb
                              clear hT hF
                              refine c_skip ?_
                              refine k_next (e := [(4, (Value.bool (decide (r1 = 60))))]) ⟨rfl, trivial⟩ ?_
                              refine c_cond (b := decide (r1 = 60)) (ev_tmp rfl rfl) (fun hb => ?_) (fun hb => ?_)
                              all_goals obtain ⟨hT, hF⟩ := h
                              · replace h := hT hb
                                clear hT hF
                                refine c_seq ?_
                                refine c_region ?_
                                refine s_q rfl rfl (y_assign rfl ev_const) ?_
                                refine s_nil ?_
                                refine k_next (e := [(2, (Value.bool true))]) ⟨rfl, trivial⟩ ?_
                                refine c_ret ?_
                                exact q_ret (vs := [(Value.bool true)]) Tryd.results38 ⟨ev_tmp rfl rfl, trivial⟩ h
                              · replace h := hF hb
                                clear hT hF
                                refine c_skip ?_
                                refine k_next (e := []) trivial ?_
                                refine c_seq ?_
                                refine c_region ?_
                                refine s_q rfl rfl (y_assign rfl ev_const) ?_
                                refine s_nil ?_
                                refine k_next (e := [(2, (Value.bool false))]) ⟨rfl, trivial⟩ ?_
                                refine c_ret ?_
                                exact q_ret (vs := [(Value.bool false)]) Tryd.results38 ⟨ev_tmp rfl rfl, trivial⟩ h
                            · replace h := hF hb
                              clear hT hF
                              refine c_seq ?_
                              refine c_region ?_
                              refine s_q rfl rfl (y_eql rfl (ev_tmp rfl rfl) ev_const) ?_
                              refine s_q rfl rfl (y_assign rfl (ev_tmp rfl rfl)) ?_
                              refine s_nil ?_
                              refine k_next (e := [(3, (Value.int .i32 r1)), (4, (Value.bool (decide (r1 = 61))))]) ⟨rfl, rfl, trivial⟩ ?_
                              refine c_cond (b := decide (r1 = 61)) (ev_tmp rfl rfl) (fun hb => ?_) (fun hb => ?_)
                              all_goals obtain ⟨hT, hF⟩ := h
                              · replace h := hT hb
                                clear hT hF
                                refine c_skip ?_
                                refine k_next (e := [(4, (Value.bool (decide (r1 = 61))))]) ⟨rfl, trivial⟩ ?_
                                refine c_cond (b := decide (r1 = 61)) (ev_tmp rfl rfl) (fun hb => ?_) (fun hb => ?_)
                                all_goals obtain ⟨hT, hF⟩ := h
                                · replace h := hT hb
                                  clear hT hF
                                  refine c_seq ?_
                                  refine c_region ?_
                                  refine s_q rfl rfl (y_assign rfl ev_const) ?_
                                  refine s_nil ?_
                                  refine k_next (e := [(2, (Value.bool true))]) ⟨rfl, trivial⟩ ?_
                                  refine c_ret ?_
                                  exact q_ret (vs := [(Value.bool true)]) Tryd.results38 ⟨ev_tmp rfl rfl, trivial⟩ h
                                · replace h := hF hb
                                  clear hT hF
                                  refine c_skip ?_
                                  refine k_next (e := []) trivial ?_
                                  refine c_seq ?_
                                  refine c_region ?_
                                  refine s_q rfl rfl (y_assign rfl ev_const) ?_
                                  refine s_nil ?_
                                  refine k_next (e := [(2, (Value.bool false))]) ⟨rfl, trivial⟩ ?_
                                  refine c_ret ?_
                                  exact q_ret (vs := [(Value.bool false)]) Tryd.results38 ⟨ev_tmp rfl rfl, trivial⟩ h
                              · replace h := hF hb
                                clear hT hF
                                refine c_seq ?_
                                refine c_region ?_
                                refine s_q rfl rfl (y_eql rfl (ev_tmp rfl rfl) ev_const) ?_
                                refine s_q rfl rfl (y_assign rfl (ev_tmp rfl rfl)) ?_
                                refine s_nil ?_
                                refine k_next (e := [(3, (Value.int .i32 r1)), (4, (Value.bool (decide (r1 = 38))))]) ⟨rfl, rfl, trivial⟩ ?_
                                refine c_cond (b := decide (r1 = 38)) (ev_tmp rfl rfl) (fun hb => ?_) (fun hb => ?_)
                                all_goals obtain ⟨hT, hF⟩ := h
                                · replace h := hT hb
                                  clear hT hF
                                  refine c_skip ?_
                                  refine k_next (e := [(4, (Value.bool (decide (r1 = 38))))]) ⟨rfl, trivial⟩ ?_
                                  refine c_cond (b := decide (r1 = 38)) (ev_tmp rfl rfl) (fun hb => ?_) (fun hb => ?_)
                                  all_goals obtain ⟨hT, hF⟩ := h
                                  · replace h := hT hb
                                    clear hT hF
                                    refine c_seq ?_
                                    refine c_region ?_
                                    refine s_q rfl rfl (y_assign rfl ev_const) ?_
                                    refine s_nil ?_
                                    refine k_next (e := [(2, (Value.bool true))]) ⟨rfl, trivial⟩ ?_
                                    refine c_ret ?_
                                    exact q_ret (vs := [(Value.bool true)]) Tryd.results38 ⟨ev_tmp rfl rfl, trivial⟩ h
                                  · replace h := hF hb
                                    clear hT hF
                                    refine c_skip ?_
                                    refine k_next (e := []) trivial ?_
                                    refine c_seq ?_
                                    refine c_region ?_
                                    refine s_q rfl rfl (y_assign rfl ev_const) ?_
                                    refine s_nil ?_
                                    refine k_next (e := [(2, (Value.bool false))]) ⟨rfl, trivial⟩ ?_
                                    refine c_ret ?_
                                    exact q_ret (vs := [(Value.bool false)]) Tryd.results38 ⟨ev_tmp rfl rfl, trivial⟩ h
                                · replace h := hF hb
                                  clear hT hF
                                  refine c_seq ?_
                                  refine c_region ?_
                                  refine s_q rfl rfl (y_eql rfl (ev_tmp rfl rfl) ev_const) ?_
                                  refine s_q rfl rfl (y_assign rfl (ev_tmp rfl rfl)) ?_
                                  refine s_nil ?_
                                  refine k_next (e := [(3, (Value.int .i32 r1)), (4, (Value.bool (decide (r1 = 124))))]) ⟨rfl, rfl, trivial⟩ ?_
                                  refine c_cond (b := decide (r1 = 124)) (ev_tmp rfl rfl) (fun hb => ?_) (fun hb => ?_)
                                  all_goals obtain ⟨hT, hF⟩ := h
                                  · replace h := hT hb
                                    clear hT hF
                                    refine c_skip ?_
                                    refine k_next (e := [(4, (Value.bool (decide (r1 = 124))))]) ⟨rfl, trivial⟩ ?_
                                    refine c_cond (b := decide (r1 = 124)) (ev_tmp rfl rfl) (fun hb => ?_) (fun hb => ?_)
                                    all_goals obtain ⟨hT, hF⟩ := h
                                    · replace h := hT hb
                                      clear hT hF
                                      refine c_seq ?_
                                      refine c_region ?_
                                      refine s_q rfl rfl (y_assign rfl ev_const) ?_
                                      refine s_nil ?_
                                      refine k_next (e := [(2, (Value.bool true))]) ⟨rfl, trivial⟩ ?_
                                      refine c_ret ?_
                                      exact q_ret (vs := [(Value.bool true)]) Tryd.results38 ⟨ev_tmp rfl rfl, trivial⟩ h
                                    · replace h := hF hb
                                      clear hT hF
                                      refine c_skip ?_
                                      refine k_next (e := []) trivial ?_
                                      refine c_seq ?_
                                      refine c_region ?_
                                      refine s_q rfl rfl (y_assign rfl ev_const) ?_
                                      refine s_nil ?_
                                      refine k_next (e := [(2, (Value.bool false))]) ⟨rfl, trivial⟩ ?_
                                      refine c_ret ?_
                                      exact q_ret (vs := [(Value.bool false)]) Tryd.results38 ⟨ev_tmp rfl rfl, trivial⟩ h
                                  · replace h := hF hb
                                    clear hT hF
                                    refine c_seq ?_
                                    refine c_region ?_
                                    refine s_q rfl rfl (y_eql rfl (ev_tmp rfl rfl) ev_const) ?_
                                    refine s_q rfl rfl (y_assign rfl (ev_tmp rfl rfl)) ?_
                                    refine s_nil ?_
                                    refine k_next (e := [(3, (Value.int .i32 r1)), (4, (Value.bool (decide (r1 = 33))))]) ⟨rfl, rfl, trivial⟩ ?_
                                    refine c_cond (b := decide (r1 = 33)) (ev_tmp rfl rfl) (fun hb => ?_) (fun hb => ?_)
                                    all_goals obtain ⟨hT, hF⟩ := h
                                    · replace h := hT hb
                                      clear hT hF
                                      refine c_skip ?_
                                      refine k_next (e := [(4, (Value.bool (decide (r1 = 33))))]) ⟨rfl, trivial⟩ ?_
                                      refine c_cond (b := decide (r1 = 33)) (ev_tmp rfl rfl) (fun hb => ?_) (fun hb => ?_)
                                      all_goals obtain ⟨hT, hF⟩ := h
                                      · replace h := hT hb
                                        clear hT hF
                                        refine c_seq ?_
                                        refine c_region ?_
                                        refine s_q rfl rfl (y_assign rfl ev_const) ?_
                                        refine s_nil ?_
                                        refine k_next (e := [(2, (Value.bool true))]) ⟨rfl, trivial⟩ ?_
                                        refine c_ret ?_
                                        exact q_ret (vs := [(Value.bool true)]) Tryd.results38 ⟨ev_tmp rfl rfl, trivial⟩ h
                                      · replace h := hF hb
                                        clear hT hF
                                        refine c_skip ?_
                                        refine k_next (e := []) trivial ?_
                                        refine c_seq ?_
                                        refine c_region ?_
                                        refine s_q rfl rfl (y_assign rfl ev_const) ?_
                                        refine s_nil ?_
                                        refine k_next (e := [(2, (Value.bool false))]) ⟨rfl, trivial⟩ ?_
                                        refine c_ret ?_
                                        exact q_ret (vs := [(Value.bool false)]) Tryd.results38 ⟨ev_tmp rfl rfl, trivial⟩ h
                                    · replace h := hF hb
                                      clear hT hF
                                      refine c_seq ?_
                                      refine c_region ?_
                                      refine s_q rfl rfl (y_eql rfl (ev_tmp rfl rfl) ev_const) ?_
                                      refine s_q rfl rfl (y_assign rfl (ev_tmp rfl rfl)) ?_
                                      refine s_nil ?_
                                      refine k_next (e := [(3, (Value.int .i32 r1)), (4, (Value.bool (decide (r1 = 46))))]) ⟨rfl, rfl, trivial⟩ ?_
                                      refine c_cond (b := decide (r1 = 46)) (ev_tmp rfl rfl) (fun hb => ?_) (fun hb => ?_)
                                      all_goals obtain ⟨hT, hF⟩ := h
                                      · replace h := hT hb
                                        clear hT hF
                                        refine c_skip ?_
                                        refine k_next (e := [(4, (Value.bool (decide (r1 = 46))))]) ⟨rfl, trivial⟩ ?_
                                        refine c_cond (b := decide (r1 = 46)) (ev_tmp rfl rfl) (fun hb => ?_) (fun hb => ?_)
                                        all_goals obtain ⟨hT, hF⟩ := h
                                        · replace h := hT hb
                                          clear hT hF
                                          refine c_seq ?_
                                          refine c_region ?_
                                          refine s_q rfl rfl (y_assign rfl ev_const) ?_
                                          refine s_nil ?_
                                          refine k_next (e := [(2, (Value.bool true))]) ⟨rfl, trivial⟩ ?_
                                          refine c_ret ?_
                                          exact q_ret (vs := [(Value.bool true)]) Tryd.results38 ⟨ev_tmp rfl rfl, trivial⟩ h
                                        · replace h := hF hb
                                          clear hT hF
                                          refine c_skip ?_
                                          refine k_next (e := []) trivial ?_
                                          refine c_seq ?_
                                          refine c_region ?_
                                          refine s_q rfl rfl (y_assign rfl ev_const) ?_
                                          refine s_nil ?_
                                          refine k_next (e := [(2, (Value.bool false))]) ⟨rfl, trivial⟩ ?_
                                          refine c_ret ?_
                                          exact q_ret (vs := [(Value.bool false)]) Tryd.results38 ⟨ev_tmp rfl rfl, trivial⟩ h
                                      · replace h := hF hb
                                        clear hT hF
                                        refine c_region ?_
                                        refine s_q rfl rfl (y_eql rfl (ev_tmp rfl rfl) ev_const) ?_
                                        refine s_q rfl rfl (y_assign rfl (ev_tmp rfl rfl)) ?_
                                        refine s_nil ?_
                                        refine k_next (e := [(4, (Value.bool (decide (r1 = 64))))]) ⟨rfl, trivial⟩ ?_
                                        refine c_cond (b := decide (r1 = 64)) (ev_tmp rfl rfl) (fun hb => ?_) (fun hb => ?_)
                                        all_goals obtain ⟨hT, hF⟩ := h
                                        · replace h := hT hb
                                          clear hT hF
                                          refine c_seq ?_
                                          refine c_region ?_
                                          refine s_q rfl rfl (y_assign rfl ev_const) ?_
                                          refine s_nil ?_
                                          refine k_next (e := [(2, (Value.bool true))]) ⟨rfl, trivial⟩ ?_
                                          refine c_ret ?_
                                          exact q_ret (vs := [(Value.bool true)]) Tryd.results38 ⟨ev_tmp rfl rfl, trivial⟩ h
                                        · replace h := hF hb
                                          clear hT hF
                                          refine c_skip ?_
                                          refine k_next (e := []) trivial ?_
                                          refine c_seq ?_
                                          refine c_region ?_
                                          refine s_q rfl rfl (y_assign rfl ev_const) ?_
                                          refine s_nil ?_
                                          refine k_next (e := [(2, (Value.bool false))]) ⟨rfl, trivial⟩ ?_
                                          refine c_ret ?_
                                          exact q_ret (vs := [(Value.bool false)]) Tryd.results38 ⟨ev_tmp rfl rfl, trivial⟩ h

/- 'brocade/brocaderef13.letter': what is enough. -/
set_option maxRecDepth 100000 in
set_option maxHeartbeats 4000000 in
theorem vc39 (c1 : Int) (w0 : World) (R : Value → World → Prop)
    (h : R (Value.bool ((decide (97 ≤ c1)) && (decide (c1 ≤ 122)))) w0) :
    Calls Tryd.prog 39 #[(Value.int .u8 c1)] w0 fun e w' => ∃ v, e = .returned v ∧ R v w' := by
  refine enter (l := [(Value.int .u8 c1)]) Tryd.func39 rfl Tryd.ntmps39 rfl ?_
  refine c_seq ?_
  refine c_region ?_
  refine s_q rfl rfl (y_assign rfl ev_const) ?_
  refine s_nil ?_
  refine k_next (e := [(0, (Value.int .u8 c1))]) ⟨rfl, trivial⟩ ?_
  refine c_seq ?_
  refine c_region ?_
  refine s_q rfl rfl (y_move rfl (ev_tmp rfl rfl)) ?_
  refine s_q rfl rfl (y_geq rfl (ev_tmp rfl rfl) ev_const) ?_
  refine s_q rfl rfl (y_move rfl (ev_tmp rfl rfl)) ?_
  refine s_gval (g_true rfl rfl rfl rfl) rfl (fun hc => (y_move rfl (ev_tmp rfl rfl))) ?_
  refine s_gval (g_true rfl rfl rfl rfl) rfl (fun hc => (y_leq rfl (ev_gv (ev_tmp rfl rfl) hc) ev_const)) ?_
  refine s_q rfl rfl (y_and rfl (ev_tmp rfl rfl) (ev_tmp rfl rfl)) ?_
  refine s_q rfl rfl (y_assign rfl (ev_tmp rfl rfl)) ?_
  refine s_nil ?_
  refine k_next (e := [(2, (Value.bool ((decide (97 ≤ c1)) && (decide (c1 ≤ 122)))))]) ⟨rfl, trivial⟩ ?_
  refine c_ret ?_
  exact q_ret (vs := [(Value.bool ((decide (97 ≤ c1)) && (decide (c1 ≤ 122))))]) Tryd.results39 ⟨ev_tmp rfl rfl, trivial⟩ h

/- 'brocade/brocaderef13.digit': what is enough. -/
set_option maxRecDepth 100000 in
set_option maxHeartbeats 4000000 in
theorem vc40 (c1 : Int) (w0 : World) (R : Value → World → Prop)
    (h : R (Value.bool ((decide (48 ≤ c1)) && (decide (c1 ≤ 57)))) w0) :
    Calls Tryd.prog 40 #[(Value.int .u8 c1)] w0 fun e w' => ∃ v, e = .returned v ∧ R v w' := by
  refine enter (l := [(Value.int .u8 c1)]) Tryd.func40 rfl Tryd.ntmps40 rfl ?_
  refine c_seq ?_
  refine c_region ?_
  refine s_q rfl rfl (y_assign rfl ev_const) ?_
  refine s_nil ?_
  refine k_next (e := [(0, (Value.int .u8 c1))]) ⟨rfl, trivial⟩ ?_
  refine c_seq ?_
  refine c_region ?_
  refine s_q rfl rfl (y_move rfl (ev_tmp rfl rfl)) ?_
  refine s_q rfl rfl (y_geq rfl (ev_tmp rfl rfl) ev_const) ?_
  refine s_q rfl rfl (y_move rfl (ev_tmp rfl rfl)) ?_
  refine s_gval (g_true rfl rfl rfl rfl) rfl (fun hc => (y_move rfl (ev_tmp rfl rfl))) ?_
  refine s_gval (g_true rfl rfl rfl rfl) rfl (fun hc => (y_leq rfl (ev_gv (ev_tmp rfl rfl) hc) ev_const)) ?_
  refine s_q rfl rfl (y_and rfl (ev_tmp rfl rfl) (ev_tmp rfl rfl)) ?_
  refine s_q rfl rfl (y_assign rfl (ev_tmp rfl rfl)) ?_
  refine s_nil ?_
  refine k_next (e := [(2, (Value.bool ((decide (48 ≤ c1)) && (decide (c1 ≤ 57)))))]) ⟨rfl, trivial⟩ ?_
  refine c_ret ?_
  exact q_ret (vs := [(Value.bool ((decide (48 ≤ c1)) && (decide (c1 ≤ 57))))]) Tryd.results40 ⟨ev_tmp rfl rfl, trivial⟩ h

/- 'brocade/brocaderef13.Symbols': what is enough. -/
set_option maxRecDepth 100000 in
set_option maxHeartbeats 4000000 in
theorem vc41 (w0 : World) (R : Value → World → Prop)
    (h : ∀ (b1 : Nat) (w1 : World), w0.heap.size = b1 → w1.heap.size = b1 + 1 → Ext w0 w1 → Blk w1 b1 9 #[(str ([60, 61] : List UInt8)), (str ([61, 61] : List UInt8)), (str ([40] : List UInt8)), (str ([41] : List UInt8)), (str ([91] : List UInt8)), (str ([93] : List UInt8)), (str ([123] : List UInt8)), (str ([125] : List UInt8)), (str ([44] : List UInt8)), (str ([59] : List UInt8)), (str ([58] : List UInt8)), (str ([43] : List UInt8)), (str ([45] : List UInt8)), (str ([42] : List UInt8)), (str ([47] : List UInt8)), (str ([60] : List UInt8)), (str ([61] : List UInt8)), (str ([38] : List UInt8)), (str ([124] : List UInt8)), (str ([33] : List UInt8)), (str ([46] : List UInt8)), (str ([64] : List UInt8))] → R (Value.slice (some ⟨b1, 0, none⟩) 22 22) w1) :
    Calls Tryd.prog 41 #[] w0 fun e w' => ∃ v, e = .returned v ∧ R v w' := by
  refine enter (l := []) Tryd.func41 rfl Tryd.ntmps41 rfl ?_
  refine c_seq ?_
  refine c_region ?_
  refine s_q rfl rfl (y_assign rfl ev_const) ?_
  refine s_nil ?_
  refine k_next (e := []) trivial ?_
  refine c_seq ?_
  refine c_region ?_
  refine s_buildSlice (vs := [(0, (str ([60, 61] : List UInt8))), (1, (str ([61, 61] : List UInt8))), (2, (str ([40] : List UInt8))), (3, (str ([41] : List UInt8))), (4, (str ([91] : List UInt8))), (5, (str ([93] : List UInt8))), (6, (str ([123] : List UInt8))), (7, (str ([125] : List UInt8))), (8, (str ([44] : List UInt8))), (9, (str ([59] : List UInt8))), (10, (str ([58] : List UInt8))), (11, (str ([43] : List UInt8))), (12, (str ([45] : List UInt8))), (13, (str ([42] : List UInt8))), (14, (str ([47] : List UInt8))), (15, (str ([60] : List UInt8))), (16, (str ([61] : List UInt8))), (17, (str ([38] : List UInt8))), (18, (str ([124] : List UInt8))), (19, (str ([33] : List UInt8))), (20, (str ([46] : List UInt8))), (21, (str ([64] : List UInt8)))]) (cs := #[(str ([60, 61] : List UInt8)), (str ([61, 61] : List UInt8)), (str ([40] : List UInt8)), (str ([41] : List UInt8)), (str ([91] : List UInt8)), (str ([93] : List UInt8)), (str ([123] : List UInt8)), (str ([125] : List UInt8)), (str ([44] : List UInt8)), (str ([59] : List UInt8)), (str ([58] : List UInt8)), (str ([43] : List UInt8)), (str ([45] : List UInt8)), (str ([42] : List UInt8)), (str ([47] : List UInt8)), (str ([60] : List UInt8)), (str ([61] : List UInt8)), (str ([38] : List UInt8)), (str ([124] : List UInt8)), (str ([33] : List UInt8)), (str ([46] : List UInt8)), (str ([64] : List UInt8))]) rfl rfl rfl Tryd.underlying52 info_9 rfl ⟨rfl, ev_const, ⟨rfl, ev_const, ⟨rfl, ev_const, ⟨rfl, ev_const, ⟨rfl, ev_const, ⟨rfl, ev_const, ⟨rfl, ev_const, ⟨rfl, ev_const, ⟨rfl, ev_const, ⟨rfl, ev_const, ⟨rfl, ev_const, ⟨rfl, ev_const, ⟨rfl, ev_const, ⟨rfl, ev_const, ⟨rfl, ev_const, ⟨rfl, ev_const, ⟨rfl, ev_const, ⟨rfl, ev_const, ⟨rfl, ev_const, ⟨rfl, ev_const, ⟨rfl, ev_const, ⟨rfl, ev_const, trivial⟩⟩⟩⟩⟩⟩⟩⟩⟩⟩⟩⟩⟩⟩⟩⟩⟩⟩⟩⟩⟩⟩ (by kernel_rfl) ?_
  intro b1 w1 hb1 hs1 hx1 hB1
  have hS1 : Stp noM w0 noM w1 := Stp.step Stp.start hx1
  replace h := h b1 w1 hb1 hs1 hx1 hB1
  refine s_q rfl rfl (y_assign rfl (ev_tmp rfl rfl)) ?_
  refine s_nil ?_
  refine k_next (e := [(0, (Value.slice (some ⟨b1, 0, none⟩) 22 22))]) ⟨rfl, trivial⟩ ?_
  refine c_ret ?_
  exact q_ret (vs := [(Value.slice (some ⟨b1, 0, none⟩) 22 22)]) Tryd.results41 ⟨ev_tmp rfl rfl, trivial⟩ h

/- 'slices.Index[[]string,string]': what is enough. -/
set_option maxRecDepth 100000 in
set_option maxHeartbeats 4000000 in
theorem vc43 (s1A : Option Addr) (s1n : Nat) (s1c : Nat) (v1 : List UInt8) (w0 : World) (R : Value → World → Prop)
    (h : ∃ (inv1 : Int → World → Prop) (mu1 : Int → Nat), inv1 0 w0 ∧ (∀ (t81 : Int) (w1 : World), Ext w0 w1 → inv1 t81 w1 → (((decide (t81 < (s1n : Int))) = true → ((0 : Int) ≤ t81 ∧ t81 < (s1n : Int)) ∧ ∃ (ad1 : Addr), s1A = some ad1 ∧ ∃ (e1 : List UInt8), CellsAt w1 (ad1.add (Int.toNat t81 * 1)) [(str e1)] ∧ (((decide (v1 = e1)) = true → R (Value.int .i64 t81) w1) ∧ ((decide (v1 = e1)) = false → (R64 (t81 + 1)) ∧ (inv1 (t81 + 1) w1 ∧ mu1 (t81 + 1) < mu1 t81)))) ∧ ((decide (t81 < (s1n : Int))) = false → R (Value.int .i64 (-1)) w1)))) :
    Calls Tryd.prog 43 #[(Value.slice s1A s1n s1c), (str v1)] w0 fun e w' => ∃ v, e = .returned v ∧ R v w' := by
  refine enter (l := [(Value.slice s1A s1n s1c), (str v1)]) Tryd.func43 rfl Tryd.ntmps43 rfl ?_
  refine c_seq ?_
  refine c_region ?_
  refine s_q rfl rfl (y_assign rfl ev_const) ?_
  refine s_nil ?_
  refine k_next (e := [(0, (Value.slice s1A s1n s1c)), (1, (str v1))]) ⟨rfl, rfl, trivial⟩ ?_
  refine c_seq ?_
  refine c_seq ?_
  refine c_region ?_
  refine s_q rfl rfl (y_move rfl (ev_tmp rfl rfl)) ?_
  refine s_q rfl rfl (y_lenl rfl Tryd.underlying52 (ev_tmp rfl rfl)) ?_
  refine s_q rfl rfl (y_move rfl ev_const) ?_
  refine s_nil ?_
  refine k_next (e := [(0, (Value.slice s1A s1n s1c)), (1, (str v1)), (7, (Value.int .i64 (s1n : Int))), (8, (Value.int .i64 0))]) ⟨rfl, rfl, rfl, rfl, trivial⟩ ?_
  refine c_block ?_
  obtain ⟨inv1, mu1, h0, h⟩ := h
  refine c_loop (α := Int) (fun x => fun w1 => inv1 (x) w1 ∧ (Ext w0 w1)) (fun x => fun w1 => mu1 (x)) (fun x => [(0, (Value.slice s1A s1n s1c)), (1, (str v1)), (7, (Value.int .i64 (s1n : Int))), (8, (Value.int .i64 x))]) 0 ⟨h0, (Stp.ext0 Stp.start)⟩ ⟨rfl, rfl, rfl, rfl, trivial⟩ ?_
  clear h0
  rintro t81 w1 ⟨hI1, hf1⟩
  have hf1 : Ext w0 w1 := hf1
  have hS1 : Stp noM w0 noM w1 := (Stp.step Stp.start hf1)
  replace h := h t81 w1 hf1 hI1
  refine c_sub (e := [(0, (Value.slice s1A s1n s1c)), (1, (str v1)), (7, (Value.int .i64 (s1n : Int))), (8, (Value.int .i64 t81))]) ⟨rfl, rfl, rfl, rfl, trivial⟩ ?_
  refine c_seq ?_
  refine c_region ?_
  refine s_q rfl rfl (y_lss rfl (ev_tmp rfl rfl) (ev_tmp rfl rfl)) ?_
  refine s_nil ?_
  refine k_next (e := [(0, (Value.slice s1A s1n s1c)), (1, (str v1)), (7, (Value.int .i64 (s1n : Int))), (8, (Value.int .i64 t81)), (9, (Value.bool (decide (t81 < (s1n : Int)))))]) ⟨rfl, rfl, rfl, rfl, rfl, trivial⟩ ?_
  refine c_seq ?_
  refine c_cond (b := decide (t81 < (s1n : Int))) (ev_tmp rfl rfl) (fun hb => ?_) (fun hb => ?_)
  all_goals obtain ⟨hT, hF⟩ := h
  · replace h := hT hb
    clear hT hF
    refine c_skip ?_
    refine k_next (e := [(0, (Value.slice s1A s1n s1c)), (1, (str v1)), (7, (Value.int .i64 (s1n : Int))), (8, (Value.int .i64 t81))]) ⟨rfl, rfl, rfl, rfl, trivial⟩ ?_
    refine c_seq ?_
    refine c_block ?_
    refine c_seq ?_
    refine c_region ?_
    refine s_q rfl rfl (y_move rfl (ev_tmp rfl rfl)) ?_
    refine s_q rfl rfl (y_assign rfl (ev_tmp rfl rfl)) ?_
    refine s_nil ?_
    refine k_next (e := [(0, (Value.slice s1A s1n s1c)), (1, (str v1)), (7, (Value.int .i64 (s1n : Int))), (8, (Value.int .i64 t81)), (5, (Value.int .i64 t81))]) ⟨rfl, rfl, rfl, rfl, rfl, trivial⟩ ?_
    refine c_seq ?_
    refine c_region ?_
    refine s_q rfl rfl (y_move rfl (ev_tmp rfl rfl)) ?_
    refine s_q rfl rfl (y_move rfl (ev_tmp rfl rfl)) ?_
    refine s_q rfl rfl (y_move rfl (ev_tmp rfl rfl)) ?_
    obtain ⟨ho1, h⟩ := h
    obtain ⟨ad1, hC1, h⟩ := h
    refine s_q rfl rfl (y_indexAddr rfl Tryd.underlying52 size_9 (ev_tmp rfl rfl) (ev_tmp rfl rfl) ho1 hC1) ?_
    obtain ⟨e1, hC2, h⟩ := h
    refine s_q rfl rfl (y_load1 (v := (str e1)) rfl (ev_tmp rfl rfl) Tryd.underlying9 rfl hC2) ?_
    refine s_q rfl rfl (y_eqs rfl (ev_tmp rfl rfl) (ev_tmp rfl rfl)) ?_
    refine s_nil ?_
    refine k_next (e := [(0, (Value.slice s1A s1n s1c)), (1, (str v1)), (7, (Value.int .i64 (s1n : Int))), (8, (Value.int .i64 t81)), (5, (Value.int .i64 t81)), (16, (Value.bool (decide (v1 = e1))))]) ⟨rfl, rfl, rfl, rfl, rfl, rfl, trivial⟩ ?_
    refine c_cond (b := decide (v1 = e1)) (ev_tmp rfl rfl) (fun hb => ?_) (fun hb => ?_)
    all_goals obtain ⟨hT, hF⟩ := h
    · replace h := hT hb
      clear hT hF
      refine c_seq ?_
      refine c_region ?_
      refine s_q rfl rfl (y_move rfl (ev_tmp rfl rfl)) ?_
      refine s_q rfl rfl (y_assign rfl (ev_tmp rfl rfl)) ?_
      refine s_nil ?_
      refine k_next (e := [(4, (Value.int .i64 t81))]) ⟨rfl, trivial⟩ ?_
      refine c_ret ?_
      exact q_ret (vs := [(Value.int .i64 t81)]) Tryd.results43 ⟨ev_tmp rfl rfl, trivial⟩ h
    · replace h := hF hb
      clear hT hF
      refine c_skip ?_
      refine k_next (e := [(0, (Value.slice s1A s1n s1c)), (1, (str v1)), (7, (Value.int .i64 (s1n : Int))), (8, (Value.int .i64 t81))]) ⟨rfl, rfl, rfl, rfl, trivial⟩ ?_
      refine c_region ?_
      obtain ⟨ho2, h⟩ := h
      refine s_q rfl rfl (y_int (y_add rfl (ev_tmp rfl rfl) ev_const) (wr_i64 ho2)) ?_
      refine s_q rfl rfl (y_move rfl (ev_tmp rfl rfl)) ?_
      refine s_nil ?_
      exact k_loop (t81 + 1) ⟨rfl, rfl, rfl, rfl, trivial⟩ ⟨h.1, (Stp.ext0 hS1)⟩ h.2
  · replace h := hF hb
    clear hT hF
    refine c_exit ?_
    refine k_in ?_
    refine k_next (e := []) trivial ?_
    refine c_seq ?_
    refine c_region ?_
    refine s_q rfl rfl (y_assign rfl ev_const) ?_
    refine s_nil ?_
    refine k_next (e := [(4, (Value.int .i64 (-1)))]) ⟨rfl, trivial⟩ ?_
    refine c_ret ?_
    exact q_ret (vs := [(Value.int .i64 (-1))]) Tryd.results43 ⟨ev_tmp rfl rfl, trivial⟩ h

end Go.Proofs.YtndiieicjjifkaaDoor
