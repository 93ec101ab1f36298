/- What each function's text asks: printed by a program of my own from the loaded text; Lean checks it. -/
import Derived.Test.YtndiieicjjifkaaDoorProg
import Derived.Test.YtndiieicjjifkaaDoorVcBld
import Derived.Test.YtndiieicjjifkaaDoorFns
namespace Go.Proofs.YtndiieicjjifkaaDoor
open Go Go.RowKit Go.Vc
set_option linter.unusedVariables false
set_option linter.unusedSimpArgs false
theorem ok_3 : FnOK Tryd.prog 3 := ⟨_, Tryd.func3, by kernel_rfl, by kernel_rfl⟩
theorem ok_4 : FnOK Tryd.prog 4 := ⟨_, Tryd.func4, by kernel_rfl, by kernel_rfl⟩
theorem ok_5 : FnOK Tryd.prog 5 := ⟨_, Tryd.func5, by kernel_rfl, by kernel_rfl⟩
theorem ok_6 : FnOK Tryd.prog 6 := ⟨_, Tryd.func6, by kernel_rfl, by kernel_rfl⟩
/- 'brocade/brocadelaw13.LexerTokenizes': what is enough. -/
set_option maxRecDepth 100000 in
set_option maxHeartbeats 4000000 in
theorem vc3 (s1 : List UInt8) (w0 : World) (R : Value → World → Prop)
    (h : ((((decide (5000 < (s1.length : Int))) && (decide ((s1.length : Int) ≤ 65536))) = true → Calls Tryd.prog 8 #[] w0 (fun e w1 => ∃ (r1 : Bool), e = .returned (Value.bool r1) ∧ Ext w0 w1 ∧ R (Value.bool r1) w1)) ∧ (((decide (5000 < (s1.length : Int))) && (decide ((s1.length : Int) ≤ 65536))) = false → Calls Tryd.prog 9 #[(str s1)] w0 (fun e w2 => ∃ (r2A : Option Addr) (r2n : Nat) (r2c : Nat) (r3 : Int) (r4 : Int), e = .returned (Value.tuple #[(Value.slice r2A r2n r2c), (Value.int .i64 r3), (Value.int .i64 r4)]) ∧ Ext w0 w2 ∧ Calls Tryd.prog 10 #[(str s1)] w2 (fun e w3 => ∃ (r5A : Option Addr) (r5n : Nat) (r5c : Nat) (r6 : Int) (r7 : Int), e = .returned (Value.tuple #[(Value.slice r5A r5n r5c), (Value.int .i64 r6), (Value.int .i64 r7)]) ∧ Ext w2 w3 ∧ Calls Tryd.prog 11 #[(Value.slice r2A r2n r2c), (Value.slice r5A r5n r5c), (Value.bool true)] w3 (fun e w4 => ∃ (r8 : Bool), e = .returned (Value.bool r8) ∧ Ext w3 w4 ∧ ∃ q1 : Bool → World → Prop, (((r8 && (decide (r3 = r6))) && (decide (r4 = r7))) = true → Calls Tryd.prog 8 #[] w4 (fun e w5 => ∃ (r9 : Bool), e = .returned (Value.bool r9) ∧ Ext w4 w5 ∧ q1 r9 w5)) ∧ (∀ (r9 : Bool) (w5 : World), Ext w4 w5 → (((r8 && (decide (r3 = r6))) && (decide (r4 = r7))) = true → q1 r9 w5) → R (Value.bool (((r8 && (decide (r3 = r6))) && (decide (r4 = r7))) && r9)) w5))))))) :
    Calls Tryd.prog 3 #[(str s1)] w0 fun e w' => ∃ v, e = .returned v ∧ R v w' := by
  refine enter (l := [(str s1)]) Tryd.func3 rfl Tryd.ntmps3 rfl ?_
  refine c_seq ?_
  refine c_region ?_
  refine s_q rfl rfl (y_assign rfl ev_const) ?_
  refine s_nil ?_
  refine k_next (e := [(0, (str s1))]) ⟨rfl, trivial⟩ ?_
  refine c_seq ?_
  refine c_seq ?_
  refine c_region ?_
  refine s_q rfl rfl (y_move rfl (ev_tmp rfl rfl)) ?_
  refine s_q rfl rfl (y_lens rfl Tryd.underlying9 (ev_tmp rfl rfl)) ?_
  refine s_q rfl rfl (y_gtr rfl (ev_tmp rfl rfl) ev_const) ?_
  refine s_q rfl rfl (y_move rfl (ev_tmp rfl rfl)) ?_
  refine s_gval (g_true rfl rfl rfl rfl) rfl (fun hc => (y_move rfl (ev_tmp rfl rfl))) ?_
  refine s_gval (g_true rfl rfl rfl rfl) rfl (fun hc => (y_lens rfl Tryd.underlying9 (ev_gv (ev_tmp rfl rfl) hc))) ?_
  refine s_gval (g_true rfl rfl rfl rfl) rfl (fun hc => (y_leq rfl (ev_gv (ev_tmp rfl rfl) hc) ev_const)) ?_
  refine s_q rfl rfl (y_and rfl (ev_tmp rfl rfl) (ev_tmp rfl rfl)) ?_
  refine s_nil ?_
  refine k_next (e := [(0, (str s1)), (16, (Value.bool ((decide (5000 < (s1.length : Int))) && (decide ((s1.length : Int) ≤ 65536)))))]) ⟨rfl, rfl, trivial⟩ ?_
  refine c_cond (b := (decide (5000 < (s1.length : Int))) && (decide ((s1.length : Int) ≤ 65536))) (ev_tmp rfl rfl) (fun hb => ?_) (fun hb => ?_)
  all_goals obtain ⟨hT, hF⟩ := h
  · replace h := hT hb
    clear hT hF
    refine c_seq ?_
    refine c_region ?_
    refine s_call rfl rfl (r_callF (vs := []) rfl ok_8 trivial) (Calls.mono h ?_)
    rintro _ w1 ⟨r1, rfl, hx1, h⟩
    refine ⟨_, rfl, ?_⟩
    have hS1 : Stp noM w0 noM w1 := Stp.step Stp.start hx1
    refine s_q rfl rfl (y_assign rfl (ev_tmp rfl rfl)) ?_
    refine s_nil ?_
    refine k_next (e := [(2, (Value.bool r1))]) ⟨rfl, trivial⟩ ?_
    refine c_ret ?_
    exact q_ret (vs := [(Value.bool r1)]) Tryd.results3 ⟨ev_tmp rfl rfl, trivial⟩ h
  · replace h := hF hb
    clear hT hF
    refine c_skip ?_
    refine k_next (e := [(0, (str s1))]) ⟨rfl, trivial⟩ ?_
    refine c_seq ?_
    refine c_region ?_
    refine s_q rfl rfl (y_move rfl (ev_tmp rfl rfl)) ?_
    refine s_call rfl rfl (r_callF (vs := [(str s1)]) rfl ok_9 ⟨(ev_tmp rfl rfl), trivial⟩) (Calls.mono h ?_)
    rintro _ w2 ⟨r2A, r2n, r2c, r3, r4, rfl, hx2, h⟩
    refine ⟨_, rfl, ?_⟩
    have hS2 : Stp noM w0 noM w2 := Stp.step Stp.start hx2
    refine s_q rfl rfl (y_move rfl (ev_tmp rfl rfl)) ?_
    refine s_q rfl rfl (y_extract rfl (ev_tmp rfl rfl) rfl) ?_
    refine s_q rfl rfl (y_extract rfl (ev_tmp rfl rfl) rfl) ?_
    refine s_q rfl rfl (y_extract rfl (ev_tmp rfl rfl) rfl) ?_
    refine s_q rfl rfl (y_assign rfl (ev_tmp rfl rfl)) ?_
    refine s_q rfl rfl (y_assign rfl (ev_tmp rfl rfl)) ?_
    refine s_q rfl rfl (y_assign rfl (ev_tmp rfl rfl)) ?_
    refine s_nil ?_
    refine k_next (e := [(0, (str s1)), (3, (Value.slice r2A r2n r2c)), (4, (Value.int .i64 r3)), (5, (Value.int .i64 r4))]) ⟨rfl, rfl, rfl, rfl, trivial⟩ ?_
    refine c_seq ?_
    refine c_region ?_
    refine s_q rfl rfl (y_move rfl (ev_tmp rfl rfl)) ?_
    refine s_call rfl rfl (r_callF (vs := [(str s1)]) rfl ok_10 ⟨(ev_tmp rfl rfl), trivial⟩) (Calls.mono h ?_)
    rintro _ w3 ⟨r5A, r5n, r5c, r6, r7, rfl, hx3, h⟩
    refine ⟨_, rfl, ?_⟩
    have hS3 : Stp noM w0 noM w3 := Stp.step hS2 hx3
    have hS4 : Stp noM w2 noM w3 := Stp.step (Stp.self hS2) hx3
    refine s_q rfl rfl (y_move rfl (ev_tmp rfl rfl)) ?_
    refine s_q rfl rfl (y_extract rfl (ev_tmp rfl rfl) rfl) ?_
    refine s_q rfl rfl (y_extract rfl (ev_tmp rfl rfl) rfl) ?_
    refine s_q rfl rfl (y_extract rfl (ev_tmp rfl rfl) rfl) ?_
    refine s_q rfl rfl (y_assign rfl (ev_tmp rfl rfl)) ?_
    refine s_q rfl rfl (y_assign rfl (ev_tmp rfl rfl)) ?_
    refine s_q rfl rfl (y_assign rfl (ev_tmp rfl rfl)) ?_
    refine s_nil ?_
    refine k_next (e := [(3, (Value.slice r2A r2n r2c)), (4, (Value.int .i64 r3)), (5, (Value.int .i64 r4)), (6, (Value.slice r5A r5n r5c)), (7, (Value.int .i64 r6)), (8, (Value.int .i64 r7))]) ⟨rfl, rfl, rfl, rfl, rfl, rfl, trivial⟩ ?_
    refine c_seq ?_
    refine c_region ?_
    refine s_q rfl rfl (y_move rfl (ev_tmp rfl rfl)) ?_
    refine s_q rfl rfl (y_move rfl (ev_tmp rfl rfl)) ?_
    refine s_call rfl rfl (r_callF (vs := [(Value.slice r2A r2n r2c), (Value.slice r5A r5n r5c), (Value.bool true)]) rfl ok_11 ⟨(ev_tmp rfl rfl), ⟨(ev_tmp rfl rfl), ⟨ev_const, trivial⟩⟩⟩) (Calls.mono h ?_)
    rintro _ w4 ⟨r8, rfl, hx4, h⟩
    refine ⟨_, rfl, ?_⟩
    have hS5 : Stp noM w0 noM w4 := Stp.step hS3 hx4
    have hS6 : Stp noM w3 noM w4 := Stp.step (Stp.self hS3) hx4
    refine s_q rfl rfl (y_move rfl (ev_tmp rfl rfl)) ?_
    refine s_gval (g_true rfl rfl rfl rfl) rfl (fun hc => (y_move rfl (ev_tmp rfl rfl))) ?_
    refine s_gval (g_true rfl rfl rfl rfl) rfl (fun hc => (y_move rfl (ev_tmp rfl rfl))) ?_
    refine s_gval (g_true rfl rfl rfl rfl) rfl (fun hc => (y_eql rfl (ev_gv (ev_tmp rfl rfl) hc) (ev_gv (ev_tmp rfl rfl) hc))) ?_
    refine s_q rfl rfl (y_and rfl (ev_tmp rfl rfl) (ev_tmp rfl rfl)) ?_
    refine s_q rfl rfl (y_move rfl (ev_tmp rfl rfl)) ?_
    refine s_gval (g_true rfl rfl rfl rfl) rfl (fun hc => (y_move rfl (ev_tmp rfl rfl))) ?_
    refine s_gval (g_true rfl rfl rfl rfl) rfl (fun hc => (y_move rfl (ev_tmp rfl rfl))) ?_
    refine s_gval (g_true rfl rfl rfl rfl) rfl (fun hc => (y_eql rfl (ev_gv (ev_tmp rfl rfl) hc) (ev_gv (ev_tmp rfl rfl) hc))) ?_
    refine s_q rfl rfl (y_and rfl (ev_tmp rfl rfl) (ev_tmp rfl rfl)) ?_
    refine s_q rfl rfl (y_move rfl (ev_tmp rfl rfl)) ?_
    obtain ⟨q1, hq2, h⟩ := h
    refine s_gcallT (α := Bool) (fun x => (Value.bool x)) (fun x => fun w => q1 (x) w) (g_true rfl rfl rfl rfl) rfl (fun hc => (r_callF (vs := []) rfl ok_8 trivial)) (fun hc => (hq2 hc).mono ?_) ?_
    · rintro _ w' ⟨r9, rfl, hE', hq'⟩; exact ⟨r9, rfl, hE', hq'⟩
    rintro r9 w5 hx5 hq1
    replace h := h r9 w5 hx5 hq1
    have hS7 : Stp noM w0 noM w5 := Stp.step hS5 hx5
    have hS8 : Stp noM w4 noM w5 := Stp.step (Stp.self hS5) hx5
    refine s_q rfl rfl (y_and rfl (ev_tmp rfl rfl) (ev_tmp rfl rfl)) ?_
    refine s_q rfl rfl (y_assign rfl (ev_tmp rfl rfl)) ?_
    refine s_nil ?_
    refine k_next (e := [(2, (Value.bool (((r8 && (decide (r3 = r6))) && (decide (r4 = r7))) && r9)))]) ⟨rfl, trivial⟩ ?_
    refine c_ret ?_
    exact q_ret (vs := [(Value.bool (((r8 && (decide (r3 = r6))) && (decide (r4 = r7))) && r9))]) Tryd.results3 ⟨ev_tmp rfl rfl, trivial⟩ h

/- 'brocade/brocadelaw13.LexerWords': what is enough. -/
set_option maxRecDepth 100000 in
set_option maxHeartbeats 4000000 in
theorem vc4 (l1A : Option Addr) (l1n : Nat) (l1c : Nat) (s1 : List UInt8) (w0 : World) (R : Value → World → Prop)
    (h : ((((decide (200 < (l1n : Int))) || (decide (100 < (s1.length : Int)))) = true → Calls Tryd.prog 8 #[] w0 (fun e w1 => ∃ (r1 : Bool), e = .returned (Value.bool r1) ∧ Ext w0 w1 ∧ R (Value.bool r1) w1)) ∧ (((decide (200 < (l1n : Int))) || (decide (100 < (s1.length : Int)))) = false → ∃ (inv1 : Int → World → Prop) (mu1 : Int → Nat), inv1 0 w0 ∧ (∀ (i1 : Int) (w2 : World), Ext w0 w2 → inv1 i1 w2 → (((decide (i1 < (l1n : Int))) = true → ((0 : Int) ≤ i1 ∧ i1 < (l1n : Int)) ∧ ∃ (ad1 : Addr), l1A = some ad1 ∧ ∃ (exa1 : Int) (exb1 : Int) (exc1 : List UInt8), CellsAt w2 (ad1.add (Int.toNat i1 * 3)) [(Value.int .i64 exa1), (Value.int .i64 exb1), (str exc1)] ∧ (((decide (100 < (exc1.length : Int))) = true → Calls Tryd.prog 8 #[] w2 (fun e w3 => ∃ (r2 : Bool), e = .returned (Value.bool r2) ∧ Ext w2 w3 ∧ R (Value.bool r2) w3)) ∧ ((decide (100 < (exc1.length : Int))) = false → (R64 (i1 + 1)) ∧ (inv1 (i1 + 1) w2 ∧ mu1 (i1 + 1) < mu1 i1)))) ∧ ((decide (i1 < (l1n : Int))) = false → Calls Tryd.prog 12 #[(Value.slice l1A l1n l1c)] w2 (fun e w4 => ∃ (r3 : List UInt8), e = .returned (str r3) ∧ Ext w2 w4 ∧ Calls Tryd.prog 13 #[(Value.slice l1A l1n l1c)] w4 (fun e w5 => ∃ (r4 : List UInt8), e = .returned (str r4) ∧ Ext w4 w5 ∧ ∃ q1 : Bool → World → Prop, ((decide (r3 = r4)) = true → Calls Tryd.prog 14 #[(str s1)] w5 (fun e w6 => ∃ (r5 : Bool), e = .returned (Value.bool r5) ∧ Ext w5 w6 ∧ q1 r5 w6)) ∧ (∀ (r5 : Bool) (w6 : World), Ext w5 w6 → ((decide (r3 = r4)) = true → q1 r5 w6) → ∃ q2 : Bool → World → Prop, ((decide (r3 = r4)) = true → Calls Tryd.prog 15 #[(str s1)] w6 (fun e w7 => ∃ (r6 : Bool), e = .returned (Value.bool r6) ∧ Ext w6 w7 ∧ q2 r6 w7)) ∧ (∀ (r6 : Bool) (w7 : World), Ext w6 w7 → ((decide (r3 = r4)) = true → q2 r6 w7) → ∃ q3 : Bool → World → Prop, (((decide (r3 = r4)) && (r5 == r6)) = true → Calls Tryd.prog 16 #[(str s1)] w7 (fun e w8 => ∃ (r7 : Bool), e = .returned (Value.bool r7) ∧ Ext w7 w8 ∧ q3 r7 w8)) ∧ (∀ (r7 : Bool) (w8 : World), Ext w7 w8 → (((decide (r3 = r4)) && (r5 == r6)) = true → q3 r7 w8) → ∃ q4 : Bool → World → Prop, (((decide (r3 = r4)) && (r5 == r6)) = true → Calls Tryd.prog 17 #[(str s1)] w8 (fun e w9 => ∃ (r8 : Bool), e = .returned (Value.bool r8) ∧ Ext w8 w9 ∧ q4 r8 w9)) ∧ (∀ (r8 : Bool) (w9 : World), Ext w8 w9 → (((decide (r3 = r4)) && (r5 == r6)) = true → q4 r8 w9) → ∃ q5 : Bool → World → Prop, ((((decide (r3 = r4)) && (r5 == r6)) && (r7 == r8)) = true → Calls Tryd.prog 8 #[] w9 (fun e w10 => ∃ (r9 : Bool), e = .returned (Value.bool r9) ∧ Ext w9 w10 ∧ q5 r9 w10)) ∧ (∀ (r9 : Bool) (w10 : World), Ext w9 w10 → ((((decide (r3 = r4)) && (r5 == r6)) && (r7 == r8)) = true → q5 r9 w10) → R (Value.bool ((((decide (r3 = r4)) && (r5 == r6)) && (r7 == r8)) && r9)) w10))))))))))))) :
    Calls Tryd.prog 4 #[(Value.slice l1A l1n l1c), (str s1)] w0 fun e w' => ∃ v, e = .returned v ∧ R v w' := by
  refine enter (l := [(Value.slice l1A l1n l1c), (str s1)]) Tryd.func4 rfl Tryd.ntmps4 rfl ?_
  refine c_seq ?_
  refine c_region ?_
  refine s_q rfl rfl (y_assign rfl ev_const) ?_
  refine s_nil ?_
  refine k_next (e := [(0, (Value.slice l1A l1n l1c)), (1, (str s1))]) ⟨rfl, rfl, trivial⟩ ?_
  refine c_seq ?_
  refine c_seq ?_
  refine c_region ?_
  refine s_q rfl rfl (y_move rfl (ev_tmp rfl rfl)) ?_
  refine s_q rfl rfl (y_lenl rfl Tryd.underlying23 (ev_tmp rfl rfl)) ?_
  refine s_q rfl rfl (y_gtr rfl (ev_tmp rfl rfl) ev_const) ?_
  refine s_q rfl rfl (y_move rfl (ev_tmp rfl rfl)) ?_
  refine s_gval (g_false rfl rfl rfl rfl) rfl (fun hc => (y_move rfl (ev_tmp rfl rfl))) ?_
  refine s_gval (g_false rfl rfl rfl rfl) rfl (fun hc => (y_lens rfl Tryd.underlying9 (ev_gv (ev_tmp rfl rfl) hc))) ?_
  refine s_gval (g_false rfl rfl rfl rfl) rfl (fun hc => (y_gtr rfl (ev_gv (ev_tmp rfl rfl) hc) ev_const)) ?_
  refine s_q rfl rfl (y_or rfl (ev_tmp rfl rfl) (ev_tmp rfl rfl)) ?_
  refine s_nil ?_
  refine k_next (e := [(0, (Value.slice l1A l1n l1c)), (1, (str s1)), (13, (Value.bool ((decide (200 < (l1n : Int))) || (decide (100 < (s1.length : Int))))))]) ⟨rfl, rfl, rfl, trivial⟩ ?_
  refine c_cond (b := (decide (200 < (l1n : Int))) || (decide (100 < (s1.length : Int)))) (ev_tmp rfl rfl) (fun hb => ?_) (fun hb => ?_)
  all_goals obtain ⟨hT, hF⟩ := h
  · replace h := hT hb
    clear hT hF
    refine c_seq ?_
    refine c_region ?_
    refine s_call rfl rfl (r_callF (vs := []) rfl ok_8 trivial) (Calls.mono h ?_)
    rintro _ w1 ⟨r1, rfl, hx1, h⟩
    refine ⟨_, rfl, ?_⟩
    have hS1 : Stp noM w0 noM w1 := Stp.step Stp.start hx1
    refine s_q rfl rfl (y_assign rfl (ev_tmp rfl rfl)) ?_
    refine s_nil ?_
    refine k_next (e := [(4, (Value.bool r1))]) ⟨rfl, trivial⟩ ?_
    refine c_ret ?_
    exact q_ret (vs := [(Value.bool r1)]) Tryd.results4 ⟨ev_tmp rfl rfl, trivial⟩ h
  · replace h := hF hb
    clear hT hF
    refine c_skip ?_
    refine k_next (e := [(0, (Value.slice l1A l1n l1c)), (1, (str s1))]) ⟨rfl, rfl, trivial⟩ ?_
    refine c_seq ?_
    refine c_seq ?_
    refine c_region ?_
    refine s_q rfl rfl (y_assign rfl ev_const) ?_
    refine s_nil ?_
    refine k_next (e := [(0, (Value.slice l1A l1n l1c)), (1, (str s1)), (5, (Value.int .i64 0))]) ⟨rfl, rfl, rfl, trivial⟩ ?_
    refine c_block ?_
    obtain ⟨inv1, mu1, h0, h⟩ := h
    refine c_loop (α := Int) (fun x => fun w2 => inv1 (x) w2 ∧ (Ext w0 w2)) (fun x => fun w2 => mu1 (x)) (fun x => [(0, (Value.slice l1A l1n l1c)), (1, (str s1)), (5, (Value.int .i64 x))]) 0 ⟨h0, (Stp.ext0 Stp.start)⟩ ⟨rfl, rfl, rfl, trivial⟩ ?_
    clear h0
    rintro i1 w2 ⟨hI1, hf1⟩
    have hf1 : Ext w0 w2 := hf1
    have hS2 : Stp noM w0 noM w2 := (Stp.step Stp.start hf1)
    replace h := h i1 w2 hf1 hI1
    refine c_sub (e := [(0, (Value.slice l1A l1n l1c)), (1, (str s1)), (5, (Value.int .i64 i1))]) ⟨rfl, rfl, rfl, trivial⟩ ?_
    refine c_seq ?_
    refine c_seq ?_
    refine c_region ?_
    refine s_q rfl rfl (y_move rfl (ev_tmp rfl rfl)) ?_
    refine s_q rfl rfl (y_move rfl (ev_tmp rfl rfl)) ?_
    refine s_q rfl rfl (y_lenl rfl Tryd.underlying23 (ev_tmp rfl rfl)) ?_
    refine s_q rfl rfl (y_lss rfl (ev_tmp rfl rfl) (ev_tmp rfl rfl)) ?_
    refine s_nil ?_
    refine k_next (e := [(0, (Value.slice l1A l1n l1c)), (1, (str s1)), (5, (Value.int .i64 i1)), (18, (Value.bool (decide (i1 < (l1n : Int)))))]) ⟨rfl, rfl, rfl, rfl, trivial⟩ ?_
    refine c_cond (b := decide (i1 < (l1n : Int))) (ev_tmp rfl rfl) (fun hb => ?_) (fun hb => ?_)
    all_goals obtain ⟨hT, hF⟩ := h
    · replace h := hT hb
      clear hT hF
      refine c_skip ?_
      refine k_next (e := [(0, (Value.slice l1A l1n l1c)), (1, (str s1)), (5, (Value.int .i64 i1))]) ⟨rfl, rfl, rfl, trivial⟩ ?_
      refine c_seq ?_
      refine c_block ?_
      refine c_seq ?_
      refine c_region ?_
      refine s_q rfl rfl (y_move rfl (ev_tmp rfl rfl)) ?_
      refine s_q rfl rfl (y_move rfl (ev_tmp rfl rfl)) ?_
      obtain ⟨ho1, h⟩ := h
      obtain ⟨ad1, hC1, h⟩ := h
      refine s_q rfl rfl (y_indexAddr rfl Tryd.underlying23 size_30 (ev_tmp rfl rfl) (ev_tmp rfl rfl) ho1 hC1) ?_
      refine s_q rfl rfl (y_fieldAddr rfl (ev_tmp rfl rfl) Tryd.underlying30 rfl size_9 rfl) ?_
      obtain ⟨exa1, exb1, exc1, hC2, h⟩ := h
      refine s_q rfl rfl (y_load1 (v := (str exc1)) rfl (ev_tmp rfl rfl) Tryd.underlying9 rfl (CellsAt.part hC2 rfl)) ?_
      refine s_q rfl rfl (y_lens rfl Tryd.underlying9 (ev_tmp rfl rfl)) ?_
      refine s_q rfl rfl (y_gtr rfl (ev_tmp rfl rfl) ev_const) ?_
      refine s_nil ?_
      refine k_next (e := [(0, (Value.slice l1A l1n l1c)), (1, (str s1)), (5, (Value.int .i64 i1)), (27, (Value.bool (decide (100 < (exc1.length : Int)))))]) ⟨rfl, rfl, rfl, rfl, trivial⟩ ?_
      refine c_cond (b := decide (100 < (exc1.length : Int))) (ev_tmp rfl rfl) (fun hb => ?_) (fun hb => ?_)
      all_goals obtain ⟨hT, hF⟩ := h
      · replace h := hT hb
        clear hT hF
        refine c_seq ?_
        refine c_region ?_
        refine s_call rfl rfl (r_callF (vs := []) rfl ok_8 trivial) (Calls.mono h ?_)
        rintro _ w3 ⟨r2, rfl, hx2, h⟩
        refine ⟨_, rfl, ?_⟩
        have hS3 : Stp noM w0 noM w3 := Stp.step hS2 hx2
        have hS4 : Stp noM w2 noM w3 := Stp.step (Stp.self hS2) hx2
        refine s_q rfl rfl (y_assign rfl (ev_tmp rfl rfl)) ?_
        refine s_nil ?_
        refine k_next (e := [(4, (Value.bool r2))]) ⟨rfl, trivial⟩ ?_
        refine c_ret ?_
        exact q_ret (vs := [(Value.bool r2)]) Tryd.results4 ⟨ev_tmp rfl rfl, trivial⟩ h
      · replace h := hF hb
        clear hT hF
        refine c_skip ?_
        refine k_next (e := [(0, (Value.slice l1A l1n l1c)), (1, (str s1)), (5, (Value.int .i64 i1))]) ⟨rfl, rfl, rfl, trivial⟩ ?_
        refine c_region ?_
        refine s_q rfl rfl (y_move rfl (ev_tmp rfl rfl)) ?_
        obtain ⟨ho2, h⟩ := h
        refine s_q rfl rfl (y_int (y_add rfl (ev_tmp rfl rfl) ev_const) (wr_i64 ho2)) ?_
        refine s_q rfl rfl (y_assign rfl (ev_tmp rfl rfl)) ?_
        refine s_nil ?_
        exact k_loop (i1 + 1) ⟨rfl, rfl, rfl, trivial⟩ ⟨h.1, (Stp.ext0 hS2)⟩ h.2
    · replace h := hF hb
      clear hT hF
      refine c_exit ?_
      refine k_in ?_
      refine k_next (e := [(0, (Value.slice l1A l1n l1c)), (1, (str s1))]) ⟨rfl, rfl, trivial⟩ ?_
      refine c_seq ?_
      refine c_region ?_
      refine s_q rfl rfl (y_move rfl (ev_tmp rfl rfl)) ?_
      refine s_call rfl rfl (r_callF (vs := [(Value.slice l1A l1n l1c)]) rfl ok_12 ⟨(ev_tmp rfl rfl), trivial⟩) (Calls.mono h ?_)
      rintro _ w4 ⟨r3, rfl, hx3, h⟩
      refine ⟨_, rfl, ?_⟩
      have hS5 : Stp noM w0 noM w4 := Stp.step hS2 hx3
      have hS6 : Stp noM w2 noM w4 := Stp.step (Stp.self hS2) hx3
      refine s_q rfl rfl (y_move rfl (ev_tmp rfl rfl)) ?_
      refine s_call rfl rfl (r_callF (vs := [(Value.slice l1A l1n l1c)]) rfl ok_13 ⟨(ev_tmp rfl rfl), trivial⟩) (Calls.mono h ?_)
      rintro _ w5 ⟨r4, rfl, hx4, h⟩
      refine ⟨_, rfl, ?_⟩
      have hS7 : Stp noM w0 noM w5 := Stp.step hS5 hx4
      have hS8 : Stp noM w4 noM w5 := Stp.step (Stp.self hS5) hx4
      refine s_q rfl rfl (y_eqs rfl (ev_tmp rfl rfl) (ev_tmp rfl rfl)) ?_
      refine s_q rfl rfl (y_move rfl (ev_tmp rfl rfl)) ?_
      refine s_gval (g_true rfl rfl rfl rfl) rfl (fun hc => (y_move rfl (ev_tmp rfl rfl))) ?_
      obtain ⟨q1, hq2, h⟩ := h
      refine s_gcallT (α := Bool) (fun x => (Value.bool x)) (fun x => fun w => q1 (x) w) (g_true rfl rfl rfl rfl) rfl (fun hc => (r_callF (vs := [(str s1)]) rfl ok_14 ⟨(ev_gv (ev_tmp rfl rfl) hc), trivial⟩)) (fun hc => (hq2 hc).mono ?_) ?_
      · rintro _ w' ⟨r5, rfl, hE', hq'⟩; exact ⟨r5, rfl, hE', hq'⟩
      rintro r5 w6 hx5 hq1
      replace h := h r5 w6 hx5 hq1
      have hS9 : Stp noM w0 noM w6 := Stp.step hS7 hx5
      have hS10 : Stp noM w5 noM w6 := Stp.step (Stp.self hS7) hx5
      refine s_gval (g_true rfl rfl rfl rfl) rfl (fun hc => (y_move rfl (ev_tmp rfl rfl))) ?_
      obtain ⟨q2, hq4, h⟩ := h
      refine s_gcallT (α := Bool) (fun x => (Value.bool x)) (fun x => fun w => q2 (x) w) (g_true rfl rfl rfl rfl) rfl (fun hc => (r_callF (vs := [(str s1)]) rfl ok_15 ⟨(ev_gv (ev_tmp rfl rfl) hc), trivial⟩)) (fun hc => (hq4 hc).mono ?_) ?_
      · rintro _ w' ⟨r6, rfl, hE', hq'⟩; exact ⟨r6, rfl, hE', hq'⟩
      rintro r6 w7 hx6 hq3
      replace h := h r6 w7 hx6 hq3
      have hS11 : Stp noM w0 noM w7 := Stp.step hS9 hx6
      have hS12 : Stp noM w6 noM w7 := Stp.step (Stp.self hS9) hx6
      refine s_gval (g_true rfl rfl rfl rfl) rfl (fun hc => (y_eqb rfl Tryd.underlying4 (ev_gv (ev_tmp rfl rfl) hc) (ev_gv (ev_tmp rfl rfl) hc))) ?_
      refine s_q rfl rfl (y_and rfl (ev_tmp rfl rfl) (ev_tmp rfl rfl)) ?_
      refine s_q rfl rfl (y_move rfl (ev_tmp rfl rfl)) ?_
      refine s_gval (g_true rfl rfl rfl rfl) rfl (fun hc => (y_move rfl (ev_tmp rfl rfl))) ?_
      obtain ⟨q3, hq6, h⟩ := h
      refine s_gcallT (α := Bool) (fun x => (Value.bool x)) (fun x => fun w => q3 (x) w) (g_true rfl rfl rfl rfl) rfl (fun hc => (r_callF (vs := [(str s1)]) rfl ok_16 ⟨(ev_gv (ev_tmp rfl rfl) hc), trivial⟩)) (fun hc => (hq6 hc).mono ?_) ?_
      · rintro _ w' ⟨r7, rfl, hE', hq'⟩; exact ⟨r7, rfl, hE', hq'⟩
      rintro r7 w8 hx7 hq5
      replace h := h r7 w8 hx7 hq5
      have hS13 : Stp noM w0 noM w8 := Stp.step hS11 hx7
      have hS14 : Stp noM w7 noM w8 := Stp.step (Stp.self hS11) hx7
      refine s_gval (g_true rfl rfl rfl rfl) rfl (fun hc => (y_move rfl (ev_tmp rfl rfl))) ?_
      obtain ⟨q4, hq8, h⟩ := h
      refine s_gcallT (α := Bool) (fun x => (Value.bool x)) (fun x => fun w => q4 (x) w) (g_true rfl rfl rfl rfl) rfl (fun hc => (r_callF (vs := [(str s1)]) rfl ok_17 ⟨(ev_gv (ev_tmp rfl rfl) hc), trivial⟩)) (fun hc => (hq8 hc).mono ?_) ?_
      · rintro _ w' ⟨r8, rfl, hE', hq'⟩; exact ⟨r8, rfl, hE', hq'⟩
      rintro r8 w9 hx8 hq7
      replace h := h r8 w9 hx8 hq7
      have hS15 : Stp noM w0 noM w9 := Stp.step hS13 hx8
      have hS16 : Stp noM w8 noM w9 := Stp.step (Stp.self hS13) hx8
      refine s_gval (g_true rfl rfl rfl rfl) rfl (fun hc => (y_eqb rfl Tryd.underlying4 (ev_gv (ev_tmp rfl rfl) hc) (ev_gv (ev_tmp rfl rfl) hc))) ?_
      refine s_q rfl rfl (y_and rfl (ev_tmp rfl rfl) (ev_tmp rfl rfl)) ?_
      refine s_q rfl rfl (y_move rfl (ev_tmp rfl rfl)) ?_
      obtain ⟨q5, hq10, h⟩ := h
      refine s_gcallT (α := Bool) (fun x => (Value.bool x)) (fun x => fun w => q5 (x) w) (g_true rfl rfl rfl rfl) rfl (fun hc => (r_callF (vs := []) rfl ok_8 trivial)) (fun hc => (hq10 hc).mono ?_) ?_
      · rintro _ w' ⟨r9, rfl, hE', hq'⟩; exact ⟨r9, rfl, hE', hq'⟩
      rintro r9 w10 hx9 hq9
      replace h := h r9 w10 hx9 hq9
      have hS17 : Stp noM w0 noM w10 := Stp.step hS15 hx9
      have hS18 : Stp noM w9 noM w10 := Stp.step (Stp.self hS15) hx9
      refine s_q rfl rfl (y_and rfl (ev_tmp rfl rfl) (ev_tmp rfl rfl)) ?_
      refine s_q rfl rfl (y_assign rfl (ev_tmp rfl rfl)) ?_
      refine s_nil ?_
      refine k_next (e := [(4, (Value.bool ((((decide (r3 = r4)) && (r5 == r6)) && (r7 == r8)) && r9)))]) ⟨rfl, trivial⟩ ?_
      refine c_ret ?_
      exact q_ret (vs := [(Value.bool ((((decide (r3 = r4)) && (r5 == r6)) && (r7 == r8)) && r9))]) Tryd.results4 ⟨ev_tmp rfl rfl, trivial⟩ h

/- 'brocade/brocadelaw13.LexerJoinRoundTrip': what is enough. -/
set_option maxRecDepth 100000 in
set_option maxHeartbeats 4000000 in
theorem vc5 (s1 : List UInt8) (w0 : World) (R : Value → World → Prop)
    (h : (((decide (5000 < (s1.length : Int))) = true → Calls Tryd.prog 8 #[] w0 (fun e w1 => ∃ (r1 : Bool), e = .returned (Value.bool r1) ∧ Ext w0 w1 ∧ R (Value.bool r1) w1)) ∧ ((decide (5000 < (s1.length : Int))) = false → Calls Tryd.prog 9 #[(str s1)] w0 (fun e w2 => ∃ (r2A : Option Addr) (r2n : Nat) (r2c : Nat) (r3 : Int) (r4 : Int), e = .returned (Value.tuple #[(Value.slice r2A r2n r2c), (Value.int .i64 r3), (Value.int .i64 r4)]) ∧ Ext w0 w2 ∧ (((!decide (r4 = 0)) = true → ∃ q1 : Bool → World → Prop, ((decide ((r2n : Int) = 0)) = true → Calls Tryd.prog 8 #[] w2 (fun e w3 => ∃ (r5 : Bool), e = .returned (Value.bool r5) ∧ Ext w2 w3 ∧ q1 r5 w3)) ∧ (∀ (r5 : Bool) (w3 : World), Ext w2 w3 → ((decide ((r2n : Int) = 0)) = true → q1 r5 w3) → R (Value.bool ((decide ((r2n : Int) = 0)) && r5)) w3)) ∧ ((!decide (r4 = 0)) = false → Calls Tryd.prog 12 #[(Value.slice r2A r2n r2c)] w2 (fun e w4 => ∃ (r6 : List UInt8), e = .returned (str r6) ∧ Ext w2 w4 ∧ Calls Tryd.prog 9 #[(str r6)] w4 (fun e w5 => ∃ (r7A : Option Addr) (r7n : Nat) (r7c : Nat) (r8 : Int) (r9 : Int), e = .returned (Value.tuple #[(Value.slice r7A r7n r7c), (Value.int .i64 r8), (Value.int .i64 r9)]) ∧ Ext w4 w5 ∧ ∃ q2 : Bool → World → Prop, (((decide (r9 = 0)) && (decide (r8 = 0))) = true → Calls Tryd.prog 11 #[(Value.slice r2A r2n r2c), (Value.slice r7A r7n r7c), (Value.bool false)] w5 (fun e w6 => ∃ (r10 : Bool), e = .returned (Value.bool r10) ∧ Ext w5 w6 ∧ q2 r10 w6)) ∧ (∀ (r10 : Bool) (w6 : World), Ext w5 w6 → (((decide (r9 = 0)) && (decide (r8 = 0))) = true → q2 r10 w6) → ∃ q3 : Bool → World → Prop, ((((decide (r9 = 0)) && (decide (r8 = 0))) && r10) = true → Calls Tryd.prog 8 #[] w6 (fun e w7 => ∃ (r11 : Bool), e = .returned (Value.bool r11) ∧ Ext w6 w7 ∧ q3 r11 w7)) ∧ (∀ (r11 : Bool) (w7 : World), Ext w6 w7 → ((((decide (r9 = 0)) && (decide (r8 = 0))) && r10) = true → q3 r11 w7) → R (Value.bool ((((decide (r9 = 0)) && (decide (r8 = 0))) && r10) && r11)) w7)))))))))) :
    Calls Tryd.prog 5 #[(str s1)] w0 fun e w' => ∃ v, e = .returned v ∧ R v w' := by
  refine enter (l := [(str s1)]) Tryd.func5 rfl Tryd.ntmps5 rfl ?_
  refine c_seq ?_
  refine c_region ?_
  refine s_q rfl rfl (y_assign rfl ev_const) ?_
  refine s_nil ?_
  refine k_next (e := [(0, (str s1))]) ⟨rfl, trivial⟩ ?_
  refine c_seq ?_
  refine c_seq ?_
  refine c_region ?_
  refine s_q rfl rfl (y_move rfl (ev_tmp rfl rfl)) ?_
  refine s_q rfl rfl (y_lens rfl Tryd.underlying9 (ev_tmp rfl rfl)) ?_
  refine s_q rfl rfl (y_gtr rfl (ev_tmp rfl rfl) ev_const) ?_
  refine s_nil ?_
  refine k_next (e := [(0, (str s1)), (11, (Value.bool (decide (5000 < (s1.length : Int)))))]) ⟨rfl, rfl, trivial⟩ ?_
  refine c_cond (b := decide (5000 < (s1.length : Int))) (ev_tmp rfl rfl) (fun hb => ?_) (fun hb => ?_)
  all_goals obtain ⟨hT, hF⟩ := h
  · replace h := hT hb
    clear hT hF
    refine c_seq ?_
    refine c_region ?_
    refine s_call rfl rfl (r_callF (vs := []) rfl ok_8 trivial) (Calls.mono h ?_)
    rintro _ w1 ⟨r1, rfl, hx1, h⟩
    refine ⟨_, rfl, ?_⟩
    have hS1 : Stp noM w0 noM w1 := Stp.step Stp.start hx1
    refine s_q rfl rfl (y_assign rfl (ev_tmp rfl rfl)) ?_
    refine s_nil ?_
    refine k_next (e := [(2, (Value.bool r1))]) ⟨rfl, trivial⟩ ?_
    refine c_ret ?_
    exact q_ret (vs := [(Value.bool r1)]) Tryd.results5 ⟨ev_tmp rfl rfl, trivial⟩ h
  · replace h := hF hb
    clear hT hF
    refine c_skip ?_
    refine k_next (e := [(0, (str s1))]) ⟨rfl, trivial⟩ ?_
    refine c_seq ?_
    refine c_region ?_
    refine s_q rfl rfl (y_move rfl (ev_tmp rfl rfl)) ?_
    refine s_call rfl rfl (r_callF (vs := [(str s1)]) rfl ok_9 ⟨(ev_tmp rfl rfl), trivial⟩) (Calls.mono h ?_)
    rintro _ w2 ⟨r2A, r2n, r2c, r3, r4, rfl, hx2, h⟩
    refine ⟨_, rfl, ?_⟩
    have hS2 : Stp noM w0 noM w2 := Stp.step Stp.start hx2
    refine s_q rfl rfl (y_move rfl (ev_tmp rfl rfl)) ?_
    refine s_q rfl rfl (y_extract rfl (ev_tmp rfl rfl) rfl) ?_
    refine s_q rfl rfl (y_extract rfl (ev_tmp rfl rfl) rfl) ?_
    refine s_q rfl rfl (y_extract rfl (ev_tmp rfl rfl) rfl) ?_
    refine s_q rfl rfl (y_assign rfl (ev_tmp rfl rfl)) ?_
    refine s_q rfl rfl (y_assign rfl (ev_tmp rfl rfl)) ?_
    refine s_q rfl rfl (y_assign rfl (ev_tmp rfl rfl)) ?_
    refine s_nil ?_
    refine k_next (e := [(3, (Value.slice r2A r2n r2c)), (5, (Value.int .i64 r4))]) ⟨rfl, rfl, trivial⟩ ?_
    refine c_seq ?_
    refine c_seq ?_
    refine c_region ?_
    refine s_q rfl rfl (y_move rfl (ev_tmp rfl rfl)) ?_
    refine s_q rfl rfl (y_neq rfl (ev_tmp rfl rfl) ev_const) ?_
    refine s_nil ?_
    refine k_next (e := [(3, (Value.slice r2A r2n r2c)), (20, (Value.bool (!decide (r4 = 0))))]) ⟨rfl, rfl, trivial⟩ ?_
    refine c_cond (b := !decide (r4 = 0)) (ev_tmp rfl rfl) (fun hb => ?_) (fun hb => ?_)
    all_goals obtain ⟨hT, hF⟩ := h
    · replace h := hT hb
      clear hT hF
      refine c_seq ?_
      refine c_region ?_
      refine s_q rfl rfl (y_move rfl (ev_tmp rfl rfl)) ?_
      refine s_q rfl rfl (y_lenl rfl Tryd.underlying23 (ev_tmp rfl rfl)) ?_
      refine s_q rfl rfl (y_eql rfl (ev_tmp rfl rfl) ev_const) ?_
      refine s_q rfl rfl (y_move rfl (ev_tmp rfl rfl)) ?_
      obtain ⟨q1, hq2, h⟩ := h
      refine s_gcallT (α := Bool) (fun x => (Value.bool x)) (fun x => fun w => q1 (x) w) (g_true rfl rfl rfl rfl) rfl (fun hc => (r_callF (vs := []) rfl ok_8 trivial)) (fun hc => (hq2 hc).mono ?_) ?_
      · rintro _ w' ⟨r5, rfl, hE', hq'⟩; exact ⟨r5, rfl, hE', hq'⟩
      rintro r5 w3 hx3 hq1
      replace h := h r5 w3 hx3 hq1
      have hS3 : Stp noM w0 noM w3 := Stp.step hS2 hx3
      have hS4 : Stp noM w2 noM w3 := Stp.step (Stp.self hS2) hx3
      refine s_q rfl rfl (y_and rfl (ev_tmp rfl rfl) (ev_tmp rfl rfl)) ?_
      refine s_q rfl rfl (y_assign rfl (ev_tmp rfl rfl)) ?_
      refine s_nil ?_
      refine k_next (e := [(2, (Value.bool ((decide ((r2n : Int) = 0)) && r5)))]) ⟨rfl, trivial⟩ ?_
      refine c_ret ?_
      exact q_ret (vs := [(Value.bool ((decide ((r2n : Int) = 0)) && r5))]) Tryd.results5 ⟨ev_tmp rfl rfl, trivial⟩ h
    · replace h := hF hb
      clear hT hF
      refine c_skip ?_
      refine k_next (e := [(3, (Value.slice r2A r2n r2c))]) ⟨rfl, trivial⟩ ?_
      refine c_seq ?_
      refine c_region ?_
      refine s_q rfl rfl (y_move rfl (ev_tmp rfl rfl)) ?_
      refine s_call rfl rfl (r_callF (vs := [(Value.slice r2A r2n r2c)]) rfl ok_12 ⟨(ev_tmp rfl rfl), trivial⟩) (Calls.mono h ?_)
      rintro _ w4 ⟨r6, rfl, hx4, h⟩
      refine ⟨_, rfl, ?_⟩
      have hS5 : Stp noM w0 noM w4 := Stp.step hS2 hx4
      have hS6 : Stp noM w2 noM w4 := Stp.step (Stp.self hS2) hx4
      refine s_call rfl rfl (r_callF (vs := [(str r6)]) rfl ok_9 ⟨(ev_tmp rfl rfl), trivial⟩) (Calls.mono h ?_)
      rintro _ w5 ⟨r7A, r7n, r7c, r8, r9, rfl, hx5, h⟩
      refine ⟨_, rfl, ?_⟩
      have hS7 : Stp noM w0 noM w5 := Stp.step hS5 hx5
      have hS8 : Stp noM w4 noM w5 := Stp.step (Stp.self hS5) hx5
      refine s_q rfl rfl (y_move rfl (ev_tmp rfl rfl)) ?_
      refine s_q rfl rfl (y_extract rfl (ev_tmp rfl rfl) rfl) ?_
      refine s_q rfl rfl (y_extract rfl (ev_tmp rfl rfl) rfl) ?_
      refine s_q rfl rfl (y_extract rfl (ev_tmp rfl rfl) rfl) ?_
      refine s_q rfl rfl (y_assign rfl (ev_tmp rfl rfl)) ?_
      refine s_q rfl rfl (y_assign rfl (ev_tmp rfl rfl)) ?_
      refine s_q rfl rfl (y_assign rfl (ev_tmp rfl rfl)) ?_
      refine s_nil ?_
      refine k_next (e := [(3, (Value.slice r2A r2n r2c)), (6, (Value.slice r7A r7n r7c)), (7, (Value.int .i64 r8)), (8, (Value.int .i64 r9))]) ⟨rfl, rfl, rfl, rfl, trivial⟩ ?_
      refine c_seq ?_
      refine c_region ?_
      refine s_q rfl rfl (y_move rfl (ev_tmp rfl rfl)) ?_
      refine s_q rfl rfl (y_eql rfl (ev_tmp rfl rfl) ev_const) ?_
      refine s_q rfl rfl (y_move rfl (ev_tmp rfl rfl)) ?_
      refine s_gval (g_true rfl rfl rfl rfl) rfl (fun hc => (y_move rfl (ev_tmp rfl rfl))) ?_
      refine s_gval (g_true rfl rfl rfl rfl) rfl (fun hc => (y_eql rfl (ev_gv (ev_tmp rfl rfl) hc) ev_const)) ?_
      refine s_q rfl rfl (y_and rfl (ev_tmp rfl rfl) (ev_tmp rfl rfl)) ?_
      refine s_q rfl rfl (y_move rfl (ev_tmp rfl rfl)) ?_
      refine s_gval (g_true rfl rfl rfl rfl) rfl (fun hc => (y_move rfl (ev_tmp rfl rfl))) ?_
      refine s_gval (g_true rfl rfl rfl rfl) rfl (fun hc => (y_move rfl (ev_tmp rfl rfl))) ?_
      obtain ⟨q2, hq4, h⟩ := h
      refine s_gcallT (α := Bool) (fun x => (Value.bool x)) (fun x => fun w => q2 (x) w) (g_true rfl rfl rfl rfl) rfl (fun hc => (r_callF (vs := [(Value.slice r2A r2n r2c), (Value.slice r7A r7n r7c), (Value.bool false)]) rfl ok_11 ⟨(ev_gv (ev_tmp rfl rfl) hc), ⟨(ev_gv (ev_tmp rfl rfl) hc), ⟨ev_const, trivial⟩⟩⟩)) (fun hc => (hq4 hc).mono ?_) ?_
      · rintro _ w' ⟨r10, rfl, hE', hq'⟩; exact ⟨r10, rfl, hE', hq'⟩
      rintro r10 w6 hx6 hq3
      replace h := h r10 w6 hx6 hq3
      have hS9 : Stp noM w0 noM w6 := Stp.step hS7 hx6
      have hS10 : Stp noM w5 noM w6 := Stp.step (Stp.self hS7) hx6
      refine s_q rfl rfl (y_and rfl (ev_tmp rfl rfl) (ev_tmp rfl rfl)) ?_
      refine s_q rfl rfl (y_move rfl (ev_tmp rfl rfl)) ?_
      obtain ⟨q3, hq6, h⟩ := h
      refine s_gcallT (α := Bool) (fun x => (Value.bool x)) (fun x => fun w => q3 (x) w) (g_true rfl rfl rfl rfl) rfl (fun hc => (r_callF (vs := []) rfl ok_8 trivial)) (fun hc => (hq6 hc).mono ?_) ?_
      · rintro _ w' ⟨r11, rfl, hE', hq'⟩; exact ⟨r11, rfl, hE', hq'⟩
      rintro r11 w7 hx7 hq5
      replace h := h r11 w7 hx7 hq5
      have hS11 : Stp noM w0 noM w7 := Stp.step hS9 hx7
      have hS12 : Stp noM w6 noM w7 := Stp.step (Stp.self hS9) hx7
      refine s_q rfl rfl (y_and rfl (ev_tmp rfl rfl) (ev_tmp rfl rfl)) ?_
      refine s_q rfl rfl (y_assign rfl (ev_tmp rfl rfl)) ?_
      refine s_nil ?_
      refine k_next (e := [(2, (Value.bool ((((decide (r9 = 0)) && (decide (r8 = 0))) && r10) && r11)))]) ⟨rfl, trivial⟩ ?_
      refine c_ret ?_
      exact q_ret (vs := [(Value.bool ((((decide (r9 = 0)) && (decide (r8 = 0))) && r10) && r11))]) Tryd.results5 ⟨ev_tmp rfl rfl, trivial⟩ h

/- 'brocade/brocadelaw13.LexerCoversText': what is enough. -/
set_option maxRecDepth 100000 in
set_option maxHeartbeats 4000000 in
theorem vc6 (s1 : List UInt8) (w0 : World) (R : Value → World → Prop)
    (h : (((decide (5000 < (s1.length : Int))) = true → Calls Tryd.prog 8 #[] w0 (fun e w1 => ∃ (r1 : Bool), e = .returned (Value.bool r1) ∧ Ext w0 w1 ∧ R (Value.bool r1) w1)) ∧ ((decide (5000 < (s1.length : Int))) = false → Calls Tryd.prog 9 #[(str s1)] w0 (fun e w2 => ∃ (r2A : Option Addr) (r2n : Nat) (r2c : Nat) (r3 : Int) (r4 : Int), e = .returned (Value.tuple #[(Value.slice r2A r2n r2c), (Value.int .i64 r3), (Value.int .i64 r4)]) ∧ Ext w0 w2 ∧ (((!decide (r4 = 0)) = true → ∃ q1 : Bool → World → Prop, ((decide ((r2n : Int) = 0)) = true → Calls Tryd.prog 8 #[] w2 (fun e w3 => ∃ (r5 : Bool), e = .returned (Value.bool r5) ∧ Ext w2 w3 ∧ q1 r5 w3)) ∧ (∀ (r5 : Bool) (w3 : World), Ext w2 w3 → ((decide ((r2n : Int) = 0)) = true → q1 r5 w3) → R (Value.bool ((decide ((r2n : Int) = 0)) && r5)) w3)) ∧ ((!decide (r4 = 0)) = false → ∃ (inv1 : Int → Int → World → Prop) (mu1 : Int → Int → Nat), inv1 0 0 w2 ∧ (∀ (at1 : Int) (i1 : Int) (w4 : World), Ext w0 w4 → inv1 at1 i1 w4 → (((decide (i1 < (r2n : Int))) = true → ((0 : Int) ≤ i1 ∧ i1 < (r2n : Int)) ∧ ∃ (ad1 : Addr), r2A = some ad1 ∧ ∀ (w5 : World), Ext w4 w5 → ∃ (exa1 : Int) (exb1 : Int) (exc1 : List UInt8), CellsAt w5 (ad1.add (Int.toNat i1 * 3)) [(Value.int .i64 exa1), (Value.int .i64 exb1), (str exc1)] ∧ ((0 : Int) ≤ i1 ∧ i1 < (r2n : Int)) ∧ ((!((decide ((exc1.length : Int) = 0)) || (decide (exb1 < at1)))) = true → R64 ((s1.length : Int) - exb1)) ∧ ∀ (w6 : World), Ext w5 w6 → ∃ q2 : Int → World → Prop, ((!(((decide ((exc1.length : Int) = 0)) || (decide (exb1 < at1))) || (decide ((s1.length : Int) - exb1 < (exc1.length : Int))))) = true → Calls Tryd.prog 18 #[(str s1), (Value.int .i64 at1)] w6 (fun e w7 => ∃ (r6 : Int), e = .returned (Value.int .i64 r6) ∧ Ext w6 w7 ∧ q2 r6 w7)) ∧ (∀ (r6 : Int) (w7 : World), Ext w6 w7 → ((!(((decide ((exc1.length : Int) = 0)) || (decide (exb1 < at1))) || (decide ((s1.length : Int) - exb1 < (exc1.length : Int))))) = true → q2 r6 w7) → ((!((((decide ((exc1.length : Int) = 0)) || (decide (exb1 < at1))) || (decide ((s1.length : Int) - exb1 < (exc1.length : Int)))) || (!decide (exb1 = r6)))) = true → R64 (exb1 + (exc1.length : Int))) ∧ ((!((((decide ((exc1.length : Int) = 0)) || (decide (exb1 < at1))) || (decide ((s1.length : Int) - exb1 < (exc1.length : Int)))) || (!decide (exb1 = r6)))) = true → (0 : Int) ≤ exb1 ∧ exb1 ≤ exb1 + (exc1.length : Int) ∧ exb1 + (exc1.length : Int) ≤ (s1.length : Int)) ∧ ((!((((decide ((exc1.length : Int) = 0)) || (decide (exb1 < at1))) || (decide ((s1.length : Int) - exb1 < (exc1.length : Int)))) || (!decide (exb1 = r6)))) = true → (0 : Int) ≤ i1 ∧ i1 < (r2n : Int)) ∧ ∃ (exa2 : Int) (exb2 : Int) (exc2 : List UInt8), ((!((((decide ((exc1.length : Int) = 0)) || (decide (exb1 < at1))) || (decide ((s1.length : Int) - exb1 < (exc1.length : Int)))) || (!decide (exb1 = r6)))) = true → CellsAt w7 (ad1.add (Int.toNat i1 * 3)) [(Value.int .i64 exa2), (Value.int .i64 exb2), (str exc2)]) ∧ (((((((decide ((exc1.length : Int) = 0)) || (decide (exb1 < at1))) || (decide ((s1.length : Int) - exb1 < (exc1.length : Int)))) || (!decide (exb1 = r6))) || (!decide ((s1.drop (Int.toNat exb1)).take (Int.toNat (exb1 + (exc1.length : Int)) - Int.toNat exb1) = exc2))) = true → R (Value.bool false) w7) ∧ ((((((decide ((exc1.length : Int) = 0)) || (decide (exb1 < at1))) || (decide ((s1.length : Int) - exb1 < (exc1.length : Int)))) || (!decide (exb1 = r6))) || (!decide ((s1.drop (Int.toNat exb1)).take (Int.toNat (exb1 + (exc1.length : Int)) - Int.toNat exb1) = exc2))) = false → (R64 (exb1 + (exc1.length : Int))) ∧ (R64 (i1 + 1)) ∧ (inv1 (exb1 + (exc1.length : Int)) (i1 + 1) w7 ∧ mu1 (exb1 + (exc1.length : Int)) (i1 + 1) < mu1 at1 i1))))) ∧ ((decide (i1 < (r2n : Int))) = false → Calls Tryd.prog 18 #[(str s1), (Value.int .i64 at1)] w4 (fun e w8 => ∃ (r7 : Int), e = .returned (Value.int .i64 r7) ∧ Ext w4 w8 ∧ ∃ q3 : Bool → World → Prop, ((decide (r7 = (s1.length : Int))) = true → Calls Tryd.prog 8 #[] w8 (fun e w9 => ∃ (r8 : Bool), e = .returned (Value.bool r8) ∧ Ext w8 w9 ∧ q3 r8 w9)) ∧ (∀ (r8 : Bool) (w9 : World), Ext w8 w9 → ((decide (r7 = (s1.length : Int))) = true → q3 r8 w9) → R (Value.bool ((decide (r7 = (s1.length : Int))) && r8)) w9))))))))))) :
    Calls Tryd.prog 6 #[(str s1)] w0 fun e w' => ∃ v, e = .returned v ∧ R v w' := by
  refine enter (l := [(str s1)]) Tryd.func6 rfl Tryd.ntmps6 rfl ?_
  refine c_seq ?_
  refine c_region ?_
  refine s_q rfl rfl (y_assign rfl ev_const) ?_
  refine s_nil ?_
  refine k_next (e := [(0, (str s1))]) ⟨rfl, trivial⟩ ?_
  refine c_seq ?_
  refine c_seq ?_
  refine c_region ?_
  refine s_q rfl rfl (y_move rfl (ev_tmp rfl rfl)) ?_
  refine s_q rfl rfl (y_lens rfl Tryd.underlying9 (ev_tmp rfl rfl)) ?_
  refine s_q rfl rfl (y_gtr rfl (ev_tmp rfl rfl) ev_const) ?_
  refine s_nil ?_
  refine k_next (e := [(0, (str s1)), (12, (Value.bool (decide (5000 < (s1.length : Int)))))]) ⟨rfl, rfl, trivial⟩ ?_
  refine c_cond (b := decide (5000 < (s1.length : Int))) (ev_tmp rfl rfl) (fun hb => ?_) (fun hb => ?_)
  all_goals obtain ⟨hT, hF⟩ := h
  · replace h := hT hb
    clear hT hF
    refine c_seq ?_
    refine c_region ?_
    refine s_call rfl rfl (r_callF (vs := []) rfl ok_8 trivial) (Calls.mono h ?_)
    rintro _ w1 ⟨r1, rfl, hx1, h⟩
    refine ⟨_, rfl, ?_⟩
    have hS1 : Stp noM w0 noM w1 := Stp.step Stp.start hx1
    refine s_q rfl rfl (y_assign rfl (ev_tmp rfl rfl)) ?_
    refine s_nil ?_
    refine k_next (e := [(2, (Value.bool r1))]) ⟨rfl, trivial⟩ ?_
    refine c_ret ?_
    exact q_ret (vs := [(Value.bool r1)]) Tryd.results6 ⟨ev_tmp rfl rfl, trivial⟩ h
  · replace h := hF hb
    clear hT hF
    refine c_skip ?_
    refine k_next (e := [(0, (str s1))]) ⟨rfl, trivial⟩ ?_
    refine c_seq ?_
    refine c_region ?_
    refine s_q rfl rfl (y_move rfl (ev_tmp rfl rfl)) ?_
    refine s_call rfl rfl (r_callF (vs := [(str s1)]) rfl ok_9 ⟨(ev_tmp rfl rfl), trivial⟩) (Calls.mono h ?_)
    rintro _ w2 ⟨r2A, r2n, r2c, r3, r4, rfl, hx2, h⟩
    refine ⟨_, rfl, ?_⟩
    have hS2 : Stp noM w0 noM w2 := Stp.step Stp.start hx2
    refine s_q rfl rfl (y_move rfl (ev_tmp rfl rfl)) ?_
    refine s_q rfl rfl (y_extract rfl (ev_tmp rfl rfl) rfl) ?_
    refine s_q rfl rfl (y_extract rfl (ev_tmp rfl rfl) rfl) ?_
    refine s_q rfl rfl (y_extract rfl (ev_tmp rfl rfl) rfl) ?_
    refine s_q rfl rfl (y_assign rfl (ev_tmp rfl rfl)) ?_
    refine s_q rfl rfl (y_assign rfl (ev_tmp rfl rfl)) ?_
    refine s_q rfl rfl (y_assign rfl (ev_tmp rfl rfl)) ?_
    refine s_nil ?_
    refine k_next (e := [(0, (str s1)), (3, (Value.slice r2A r2n r2c)), (5, (Value.int .i64 r4))]) ⟨rfl, rfl, rfl, trivial⟩ ?_
    refine c_seq ?_
    refine c_seq ?_
    refine c_region ?_
    refine s_q rfl rfl (y_move rfl (ev_tmp rfl rfl)) ?_
    refine s_q rfl rfl (y_neq rfl (ev_tmp rfl rfl) ev_const) ?_
    refine s_nil ?_
    refine k_next (e := [(0, (str s1)), (3, (Value.slice r2A r2n r2c)), (21, (Value.bool (!decide (r4 = 0))))]) ⟨rfl, rfl, rfl, trivial⟩ ?_
    refine c_cond (b := !decide (r4 = 0)) (ev_tmp rfl rfl) (fun hb => ?_) (fun hb => ?_)
    all_goals obtain ⟨hT, hF⟩ := h
    · replace h := hT hb
      clear hT hF
      refine c_seq ?_
      refine c_region ?_
      refine s_q rfl rfl (y_move rfl (ev_tmp rfl rfl)) ?_
      refine s_q rfl rfl (y_lenl rfl Tryd.underlying23 (ev_tmp rfl rfl)) ?_
      refine s_q rfl rfl (y_eql rfl (ev_tmp rfl rfl) ev_const) ?_
      refine s_q rfl rfl (y_move rfl (ev_tmp rfl rfl)) ?_
      obtain ⟨q1, hq2, h⟩ := h
      refine s_gcallT (α := Bool) (fun x => (Value.bool x)) (fun x => fun w => q1 (x) w) (g_true rfl rfl rfl rfl) rfl (fun hc => (r_callF (vs := []) rfl ok_8 trivial)) (fun hc => (hq2 hc).mono ?_) ?_
      · rintro _ w' ⟨r5, rfl, hE', hq'⟩; exact ⟨r5, rfl, hE', hq'⟩
      rintro r5 w3 hx3 hq1
      replace h := h r5 w3 hx3 hq1
      have hS3 : Stp noM w0 noM w3 := Stp.step hS2 hx3
      have hS4 : Stp noM w2 noM w3 := Stp.step (Stp.self hS2) hx3
      refine s_q rfl rfl (y_and rfl (ev_tmp rfl rfl) (ev_tmp rfl rfl)) ?_
      refine s_q rfl rfl (y_assign rfl (ev_tmp rfl rfl)) ?_
      refine s_nil ?_
      refine k_next (e := [(2, (Value.bool ((decide ((r2n : Int) = 0)) && r5)))]) ⟨rfl, trivial⟩ ?_
      refine c_ret ?_
      exact q_ret (vs := [(Value.bool ((decide ((r2n : Int) = 0)) && r5))]) Tryd.results6 ⟨ev_tmp rfl rfl, trivial⟩ h
    · replace h := hF hb
      clear hT hF
      refine c_skip ?_
      refine k_next (e := [(0, (str s1)), (3, (Value.slice r2A r2n r2c))]) ⟨rfl, rfl, trivial⟩ ?_
      refine c_seq ?_
      refine c_region ?_
      refine s_q rfl rfl (y_assign rfl ev_const) ?_
      refine s_nil ?_
      refine k_next (e := [(0, (str s1)), (3, (Value.slice r2A r2n r2c)), (6, (Value.int .i64 0))]) ⟨rfl, rfl, rfl, trivial⟩ ?_
      refine c_seq ?_
      refine c_seq ?_
      refine c_region ?_
      refine s_q rfl rfl (y_assign rfl ev_const) ?_
      refine s_nil ?_
      refine k_next (e := [(0, (str s1)), (3, (Value.slice r2A r2n r2c)), (6, (Value.int .i64 0)), (7, (Value.int .i64 0))]) ⟨rfl, rfl, rfl, rfl, trivial⟩ ?_
      refine c_block ?_
      obtain ⟨inv1, mu1, h0, h⟩ := h
      refine c_loop (α := Int × Int) (fun x => fun w4 => inv1 (x.1) (x.2) w4 ∧ (Ext w0 w4)) (fun x => fun w4 => mu1 (x.1) (x.2)) (fun x => [(0, (str s1)), (3, (Value.slice r2A r2n r2c)), (6, (Value.int .i64 x.1)), (7, (Value.int .i64 x.2))]) (0, 0) ⟨h0, (Stp.ext0 hS2)⟩ ⟨rfl, rfl, rfl, rfl, trivial⟩ ?_
      clear h0
      rintro ⟨at1, i1⟩ w4 ⟨hI1, hf1⟩
      have hf1 : Ext w0 w4 := hf1
      have hS5 : Stp noM w0 noM w4 := (Stp.step Stp.start hf1)
      replace h := h at1 i1 w4 hf1 hI1
      refine c_sub (e := [(0, (str s1)), (3, (Value.slice r2A r2n r2c)), (6, (Value.int .i64 at1)), (7, (Value.int .i64 i1))]) ⟨rfl, rfl, rfl, rfl, trivial⟩ ?_
      refine c_seq ?_
      refine c_seq ?_
      refine c_region ?_
      refine s_q rfl rfl (y_move rfl (ev_tmp rfl rfl)) ?_
      refine s_q rfl rfl (y_move rfl (ev_tmp rfl rfl)) ?_
      refine s_q rfl rfl (y_lenl rfl Tryd.underlying23 (ev_tmp rfl rfl)) ?_
      refine s_q rfl rfl (y_lss rfl (ev_tmp rfl rfl) (ev_tmp rfl rfl)) ?_
      refine s_nil ?_
      refine k_next (e := [(0, (str s1)), (3, (Value.slice r2A r2n r2c)), (6, (Value.int .i64 at1)), (7, (Value.int .i64 i1)), (31, (Value.bool (decide (i1 < (r2n : Int)))))]) ⟨rfl, rfl, rfl, rfl, rfl, trivial⟩ ?_
      refine c_cond (b := decide (i1 < (r2n : Int))) (ev_tmp rfl rfl) (fun hb => ?_) (fun hb => ?_)
      all_goals obtain ⟨hT, hF⟩ := h
      · replace h := hT hb
        clear hT hF
        refine c_skip ?_
        refine k_next (e := [(0, (str s1)), (3, (Value.slice r2A r2n r2c)), (6, (Value.int .i64 at1)), (7, (Value.int .i64 i1))]) ⟨rfl, rfl, rfl, rfl, trivial⟩ ?_
        refine c_seq ?_
        refine c_block ?_
        refine c_seq ?_
        refine c_drawE [(0, true), (1, true), (2, true), (3, true), (4, true), (5, true), (6, true), (7, true), (8, true), (9, true), (10, true), (11, true), (12, true)] (by kernel_rfl) (by kernel_rfl) ?_
        intro w5 hs1 hx4
        have hS6 : Stp noM w0 noM w5 := Stp.step hS5 hx4
        have hS7 : Stp noM w4 noM w5 := Stp.step (Stp.self hS5) hx4
        refine a_q rfl rfl rfl (fun w' hw' => (y_move rfl (ev_tmp rfl rfl))) ?_
        refine a_q rfl rfl rfl (fun w' hw' => (y_move rfl (ev_tmp rfl rfl))) ?_
        obtain ⟨ho1, h⟩ := h
        obtain ⟨ad1, hC1, h⟩ := h
        refine a_q rfl rfl rfl (fun w' hw' => (y_indexAddr rfl Tryd.underlying23 size_30 (ev_tmp rfl rfl) (ev_tmp rfl rfl) ho1 hC1)) ?_
        refine a_q rfl rfl rfl (fun w' hw' => (y_fieldAddr rfl (ev_tmp rfl rfl) Tryd.underlying30 rfl size_3 rfl)) ?_
        replace h := h w5 (Stp.ext0 hS7)
        obtain ⟨exa1, exb1, exc1, hC2, h⟩ := h
        refine a_q rfl rfl rfl (fun w' hw' => (y_load1 (v := (Value.int .i64 exb1)) rfl (ev_tmp rfl rfl) Tryd.underlying3 rfl (CellsAt.part (hC2.ext hw') rfl))) ?_
        refine a_q rfl rfl rfl (fun w' hw' => (y_move rfl (ev_tmp rfl rfl))) ?_
        refine a_q rfl rfl rfl (fun w' hw' => (y_move rfl (ev_tmp rfl rfl))) ?_
        obtain ⟨ho2, h⟩ := h
        refine a_q rfl rfl rfl (fun w' hw' => (y_indexAddr rfl Tryd.underlying23 size_30 (ev_tmp rfl rfl) (ev_tmp rfl rfl) ho2 hC1)) ?_
        refine a_q rfl rfl rfl (fun w' hw' => (y_fieldAddr rfl (ev_tmp rfl rfl) Tryd.underlying30 rfl size_9 rfl)) ?_
        refine a_q rfl rfl rfl (fun w' hw' => (y_load1 (v := (str exc1)) rfl (ev_tmp rfl rfl) Tryd.underlying9 rfl (CellsAt.part (hC2.ext hw') rfl))) ?_
        refine a_q rfl rfl rfl (fun w' hw' => (y_lens rfl Tryd.underlying9 (ev_tmp rfl rfl))) ?_
        refine a_q rfl rfl rfl (fun w' hw' => (y_assign rfl (ev_tmp rfl rfl))) ?_
        refine a_q rfl rfl rfl (fun w' hw' => (y_assign rfl (ev_tmp rfl rfl))) ?_
        refine a_nil ?_
        refine k_next (e := [(0, (str s1)), (3, (Value.slice r2A r2n r2c)), (6, (Value.int .i64 at1)), (7, (Value.int .i64 i1)), (8, (Value.int .i64 exb1)), (9, (Value.int .i64 (exc1.length : Int)))]) ⟨rfl, rfl, rfl, rfl, rfl, rfl, trivial⟩ ?_
        refine c_seq ?_
        refine c_seq ?_
        refine c_drawE [(0, true), (1, true), (2, true), (3, true), (4, true), (5, true), (6, true), (7, true), (8, true), (9, true), (10, true), (11, true), (12, true), (13, true), (14, true), (15, true), (16, true), (17, true), (18, true), (19, false), (20, true), (21, true), (22, true), (23, true), (24, true), (25, true), (26, true), (27, true), (28, true), (29, true), (30, true), (31, true), (32, true), (33, true), (34, true), (35, true)] (by kernel_rfl) (by kernel_rfl) ?_
        intro w6 hs2 hx5
        have hS8 : Stp noM w0 noM w6 := Stp.step hS6 hx5
        have hS9 : Stp noM w5 noM w6 := Stp.step (Stp.self hS6) hx5
        refine a_q rfl rfl rfl (fun w' hw' => (y_move rfl (ev_tmp rfl rfl))) ?_
        refine a_q rfl rfl rfl (fun w' hw' => (y_eql rfl (ev_tmp rfl rfl) ev_const)) ?_
        refine a_q rfl rfl rfl (fun w' hw' => (y_move rfl (ev_tmp rfl rfl))) ?_
        refine a_gval rfl (g_false rfl rfl rfl rfl) rfl (fun hc => fun w' hw' => (y_move rfl (ev_tmp rfl rfl))) ?_
        refine a_gval rfl (g_false rfl rfl rfl rfl) rfl (fun hc => fun w' hw' => (y_move rfl (ev_tmp rfl rfl))) ?_
        refine a_gval rfl (g_false rfl rfl rfl rfl) rfl (fun hc => fun w' hw' => (y_lss rfl (ev_gv (ev_tmp rfl rfl) hc) (ev_gv (ev_tmp rfl rfl) hc))) ?_
        refine a_q rfl rfl rfl (fun w' hw' => (y_or rfl (ev_tmp rfl rfl) (ev_tmp rfl rfl))) ?_
        refine a_q rfl rfl rfl (fun w' hw' => (y_move rfl (ev_tmp rfl rfl))) ?_
        refine a_gval rfl (g_false rfl rfl rfl rfl) rfl (fun hc => fun w' hw' => (y_move rfl (ev_tmp rfl rfl))) ?_
        refine a_gval rfl (g_false rfl rfl rfl rfl) rfl (fun hc => fun w' hw' => (y_move rfl (ev_tmp rfl rfl))) ?_
        refine a_gval rfl (g_false rfl rfl rfl rfl) rfl (fun hc => fun w' hw' => (y_lens rfl Tryd.underlying9 (ev_gv (ev_tmp rfl rfl) hc))) ?_
        refine a_gval rfl (g_false rfl rfl rfl rfl) rfl (fun hc => fun w' hw' => (y_move rfl (ev_tmp rfl rfl))) ?_
        obtain ⟨ho3, h⟩ := h
        refine a_gval rfl (g_false rfl rfl rfl rfl) rfl (fun hc => fun w' hw' => (y_int (y_sub rfl (ev_gv (ev_tmp rfl rfl) hc) (ev_gv (ev_tmp rfl rfl) hc)) (wr_i64 (ho3 hc)))) ?_
        refine a_gval rfl (g_false rfl rfl rfl rfl) rfl (fun hc => fun w' hw' => (y_gtr rfl (ev_gv (ev_tmp rfl rfl) hc) (ev_gv (ev_tmp rfl rfl) hc))) ?_
        refine a_q rfl rfl rfl (fun w' hw' => (y_or rfl (ev_tmp rfl rfl) (ev_tmp rfl rfl))) ?_
        refine a_q rfl rfl rfl (fun w' hw' => (y_move rfl (ev_tmp rfl rfl))) ?_
        refine a_gval rfl (g_false rfl rfl rfl rfl) rfl (fun hc => fun w' hw' => (y_move rfl (ev_tmp rfl rfl))) ?_
        refine a_gval rfl (g_false rfl rfl rfl rfl) rfl (fun hc => fun w' hw' => (y_move rfl (ev_tmp rfl rfl))) ?_
        refine a_gval rfl (g_false rfl rfl rfl rfl) rfl (fun hc => fun w' hw' => (y_move rfl (ev_tmp rfl rfl))) ?_
        replace h := h w6 (Stp.ext0 hS9)
        obtain ⟨q2, hq4, h⟩ := h
        refine a_gcallT (α := Int) (fun x => (Value.int .i64 x)) (fun x => fun w => q2 (x) w) rfl (g_false rfl rfl rfl rfl) rfl (fun hc => (r_callF (vs := [(str s1), (Value.int .i64 at1)]) rfl ok_18 ⟨(ev_gv (ev_tmp rfl rfl) hc), ⟨(ev_gv (ev_tmp rfl rfl) hc), trivial⟩⟩)) (fun hc => (hq4 hc).mono ?_) ?_
        · rintro _ w' ⟨r6, rfl, hE', hq'⟩; exact ⟨r6, rfl, hE', hq'⟩
        rintro r6 w7 hx6 hq3
        replace h := h r6 w7 hx6 hq3
        have hS10 : Stp noM w0 noM w7 := Stp.step hS8 hx6
        have hS11 : Stp noM w6 noM w7 := Stp.step (Stp.self hS8) hx6
        refine a_gval rfl (g_false rfl rfl rfl rfl) rfl (fun hc => fun w' hw' => (y_neq rfl (ev_gv (ev_tmp rfl rfl) hc) (ev_gv (ev_tmp rfl rfl) hc))) ?_
        refine a_q rfl rfl rfl (fun w' hw' => (y_or rfl (ev_tmp rfl rfl) (ev_tmp rfl rfl))) ?_
        refine a_q rfl rfl rfl (fun w' hw' => (y_move rfl (ev_tmp rfl rfl))) ?_
        refine a_gval rfl (g_false rfl rfl rfl rfl) rfl (fun hc => fun w' hw' => (y_move rfl (ev_tmp rfl rfl))) ?_
        refine a_gval rfl (g_false rfl rfl rfl rfl) rfl (fun hc => fun w' hw' => (y_move rfl (ev_tmp rfl rfl))) ?_
        refine a_gval rfl (g_false rfl rfl rfl rfl) rfl (fun hc => fun w' hw' => (y_move rfl (ev_tmp rfl rfl))) ?_
        refine a_gval rfl (g_false rfl rfl rfl rfl) rfl (fun hc => fun w' hw' => (y_move rfl (ev_tmp rfl rfl))) ?_
        obtain ⟨ho4, h⟩ := h
        refine a_gval rfl (g_false rfl rfl rfl rfl) rfl (fun hc => fun w' hw' => (y_int (y_add rfl (ev_gv (ev_tmp rfl rfl) hc) (ev_gv (ev_tmp rfl rfl) hc)) (wr_i64 (ho4 hc)))) ?_
        obtain ⟨ho5, h⟩ := h
        refine a_gval rfl (g_false rfl rfl rfl rfl) rfl (fun hc => fun w' hw' => (y_slices_lh rfl rfl Tryd.underlying9 (ev_gv (ev_tmp rfl rfl) hc) (ev_gv (ev_tmp rfl rfl) hc) (ev_gv (ev_tmp rfl rfl) hc) (ho5 hc))) ?_
        refine a_gval rfl (g_false rfl rfl rfl rfl) rfl (fun hc => fun w' hw' => (y_move rfl (ev_tmp rfl rfl))) ?_
        refine a_gval rfl (g_false rfl rfl rfl rfl) rfl (fun hc => fun w' hw' => (y_move rfl (ev_tmp rfl rfl))) ?_
        obtain ⟨ho6, h⟩ := h
        refine a_gval rfl (g_false rfl rfl rfl rfl) rfl (fun hc => fun w' hw' => (y_indexAddr rfl Tryd.underlying23 size_30 (ev_gv (ev_tmp rfl rfl) hc) (ev_gv (ev_tmp rfl rfl) hc) (ho6 hc) hC1)) ?_
        refine a_gval rfl (g_false rfl rfl rfl rfl) rfl (fun hc => fun w' hw' => (y_fieldAddr rfl (ev_gv (ev_tmp rfl rfl) hc) Tryd.underlying30 rfl size_9 rfl)) ?_
        obtain ⟨exa2, exb2, exc2, hC3, h⟩ := h
        refine a_gval rfl (g_false rfl rfl rfl rfl) rfl (fun hc => fun w' hw' => (y_load1 (v := (str exc2)) rfl (ev_gv (ev_tmp rfl rfl) hc) Tryd.underlying9 rfl (CellsAt.part ((hC3 hc).ext hw') rfl))) ?_
        refine a_gval rfl (g_false rfl rfl rfl rfl) rfl (fun hc => fun w' hw' => (y_nes rfl (ev_gv (ev_tmp rfl rfl) hc) (ev_gv (ev_tmp rfl rfl) hc))) ?_
        refine a_q rfl rfl rfl (fun w' hw' => (y_or rfl (ev_tmp rfl rfl) (ev_tmp rfl rfl))) ?_
        refine a_nil ?_
        refine k_next (e := [(0, (str s1)), (3, (Value.slice r2A r2n r2c)), (7, (Value.int .i64 i1)), (8, (Value.int .i64 exb1)), (9, (Value.int .i64 (exc1.length : Int))), (48, (gv (!(decide ((exc1.length : Int) = 0))) (Value.int .i64 exb1))), (49, (gv (!(decide ((exc1.length : Int) = 0))) (Value.int .i64 at1))), (50, (gv (!(decide ((exc1.length : Int) = 0))) (Value.bool (decide (exb1 < at1))))), (53, (gv (!((decide ((exc1.length : Int) = 0)) || (decide (exb1 < at1)))) (Value.int .i64 (exc1.length : Int)))), (54, (gv (!((decide ((exc1.length : Int) = 0)) || (decide (exb1 < at1)))) (str s1))), (55, (gv (!((decide ((exc1.length : Int) = 0)) || (decide (exb1 < at1)))) (Value.int .i64 (s1.length : Int)))), (56, (gv (!((decide ((exc1.length : Int) = 0)) || (decide (exb1 < at1)))) (Value.int .i64 exb1))), (57, (gv (!((decide ((exc1.length : Int) = 0)) || (decide (exb1 < at1)))) (Value.int .i64 ((s1.length : Int) - exb1)))), (58, (gv (!((decide ((exc1.length : Int) = 0)) || (decide (exb1 < at1)))) (Value.bool (decide ((s1.length : Int) - exb1 < (exc1.length : Int)))))), (61, (gv (!(((decide ((exc1.length : Int) = 0)) || (decide (exb1 < at1))) || (decide ((s1.length : Int) - exb1 < (exc1.length : Int))))) (Value.int .i64 exb1))), (62, (gv (!(((decide ((exc1.length : Int) = 0)) || (decide (exb1 < at1))) || (decide ((s1.length : Int) - exb1 < (exc1.length : Int))))) (str s1))), (63, (gv (!(((decide ((exc1.length : Int) = 0)) || (decide (exb1 < at1))) || (decide ((s1.length : Int) - exb1 < (exc1.length : Int))))) (Value.int .i64 at1))), (64, (gv (!(((decide ((exc1.length : Int) = 0)) || (decide (exb1 < at1))) || (decide ((s1.length : Int) - exb1 < (exc1.length : Int))))) (Value.int .i64 r6))), (65, (gv (!(((decide ((exc1.length : Int) = 0)) || (decide (exb1 < at1))) || (decide ((s1.length : Int) - exb1 < (exc1.length : Int))))) (Value.bool (!decide (exb1 = r6))))), (68, (gv (!((((decide ((exc1.length : Int) = 0)) || (decide (exb1 < at1))) || (decide ((s1.length : Int) - exb1 < (exc1.length : Int)))) || (!decide (exb1 = r6)))) (str s1))), (69, (gv (!((((decide ((exc1.length : Int) = 0)) || (decide (exb1 < at1))) || (decide ((s1.length : Int) - exb1 < (exc1.length : Int)))) || (!decide (exb1 = r6)))) (Value.int .i64 exb1))), (70, (gv (!((((decide ((exc1.length : Int) = 0)) || (decide (exb1 < at1))) || (decide ((s1.length : Int) - exb1 < (exc1.length : Int)))) || (!decide (exb1 = r6)))) (Value.int .i64 exb1))), (71, (gv (!((((decide ((exc1.length : Int) = 0)) || (decide (exb1 < at1))) || (decide ((s1.length : Int) - exb1 < (exc1.length : Int)))) || (!decide (exb1 = r6)))) (Value.int .i64 (exc1.length : Int)))), (72, (gv (!((((decide ((exc1.length : Int) = 0)) || (decide (exb1 < at1))) || (decide ((s1.length : Int) - exb1 < (exc1.length : Int)))) || (!decide (exb1 = r6)))) (Value.int .i64 (exb1 + (exc1.length : Int))))), (73, (gv (!((((decide ((exc1.length : Int) = 0)) || (decide (exb1 < at1))) || (decide ((s1.length : Int) - exb1 < (exc1.length : Int)))) || (!decide (exb1 = r6)))) (str ((s1.drop (Int.toNat exb1)).take (Int.toNat (exb1 + (exc1.length : Int)) - Int.toNat exb1))))), (74, (gv (!((((decide ((exc1.length : Int) = 0)) || (decide (exb1 < at1))) || (decide ((s1.length : Int) - exb1 < (exc1.length : Int)))) || (!decide (exb1 = r6)))) (Value.slice r2A r2n r2c))), (75, (gv (!((((decide ((exc1.length : Int) = 0)) || (decide (exb1 < at1))) || (decide ((s1.length : Int) - exb1 < (exc1.length : Int)))) || (!decide (exb1 = r6)))) (Value.int .i64 i1))), (76, (gv (!((((decide ((exc1.length : Int) = 0)) || (decide (exb1 < at1))) || (decide ((s1.length : Int) - exb1 < (exc1.length : Int)))) || (!decide (exb1 = r6)))) (Value.pointer (some (ad1.add (Int.toNat i1 * 3)))))), (77, (gv (!((((decide ((exc1.length : Int) = 0)) || (decide (exb1 < at1))) || (decide ((s1.length : Int) - exb1 < (exc1.length : Int)))) || (!decide (exb1 = r6)))) (Value.pointer (some ((ad1.add (Int.toNat i1 * 3)).add 2))))), (78, (gv (!((((decide ((exc1.length : Int) = 0)) || (decide (exb1 < at1))) || (decide ((s1.length : Int) - exb1 < (exc1.length : Int)))) || (!decide (exb1 = r6)))) (str exc2))), (79, (gv (!((((decide ((exc1.length : Int) = 0)) || (decide (exb1 < at1))) || (decide ((s1.length : Int) - exb1 < (exc1.length : Int)))) || (!decide (exb1 = r6)))) (Value.bool (!decide ((s1.drop (Int.toNat exb1)).take (Int.toNat (exb1 + (exc1.length : Int)) - Int.toNat exb1) = exc2))))), (80, (Value.bool (((((decide ((exc1.length : Int) = 0)) || (decide (exb1 < at1))) || (decide ((s1.length : Int) - exb1 < (exc1.length : Int)))) || (!decide (exb1 = r6))) || (!decide ((s1.drop (Int.toNat exb1)).take (Int.toNat (exb1 + (exc1.length : Int)) - Int.toNat exb1) = exc2)))))]) ⟨rfl, rfl, rfl, rfl, rfl, rfl, rfl, rfl, rfl, rfl, rfl, rfl, rfl, rfl, rfl, rfl, rfl, rfl, rfl, rfl, rfl, rfl, rfl, rfl, rfl, rfl, rfl, rfl, rfl, rfl, rfl, rfl, trivial⟩ ?_
        refine c_cond (b := ((((decide ((exc1.length : Int) = 0)) || (decide (exb1 < at1))) || (decide ((s1.length : Int) - exb1 < (exc1.length : Int)))) || (!decide (exb1 = r6))) || (!decide ((s1.drop (Int.toNat exb1)).take (Int.toNat (exb1 + (exc1.length : Int)) - Int.toNat exb1) = exc2))) (ev_tmp rfl rfl) (fun hb => ?_) (fun hb => ?_)
        all_goals obtain ⟨hT, hF⟩ := h
        · replace h := hT hb
          clear hT hF
          refine c_seq ?_
          refine c_region ?_
          refine s_q rfl rfl (y_assign rfl ev_const) ?_
          refine s_nil ?_
          refine k_next (e := [(2, (Value.bool false))]) ⟨rfl, trivial⟩ ?_
          refine c_ret ?_
          exact q_ret (vs := [(Value.bool false)]) Tryd.results6 ⟨ev_tmp rfl rfl, trivial⟩ h
        · replace h := hF hb
          clear hT hF
          refine c_skip ?_
          refine k_next (e := [(0, (str s1)), (3, (Value.slice r2A r2n r2c)), (7, (Value.int .i64 i1)), (8, (Value.int .i64 exb1)), (9, (Value.int .i64 (exc1.length : Int))), (48, (gv (!(decide ((exc1.length : Int) = 0))) (Value.int .i64 exb1))), (49, (gv (!(decide ((exc1.length : Int) = 0))) (Value.int .i64 at1))), (50, (gv (!(decide ((exc1.length : Int) = 0))) (Value.bool (decide (exb1 < at1))))), (53, (gv (!((decide ((exc1.length : Int) = 0)) || (decide (exb1 < at1)))) (Value.int .i64 (exc1.length : Int)))), (54, (gv (!((decide ((exc1.length : Int) = 0)) || (decide (exb1 < at1)))) (str s1))), (55, (gv (!((decide ((exc1.length : Int) = 0)) || (decide (exb1 < at1)))) (Value.int .i64 (s1.length : Int)))), (56, (gv (!((decide ((exc1.length : Int) = 0)) || (decide (exb1 < at1)))) (Value.int .i64 exb1))), (57, (gv (!((decide ((exc1.length : Int) = 0)) || (decide (exb1 < at1)))) (Value.int .i64 ((s1.length : Int) - exb1)))), (58, (gv (!((decide ((exc1.length : Int) = 0)) || (decide (exb1 < at1)))) (Value.bool (decide ((s1.length : Int) - exb1 < (exc1.length : Int)))))), (61, (gv (!(((decide ((exc1.length : Int) = 0)) || (decide (exb1 < at1))) || (decide ((s1.length : Int) - exb1 < (exc1.length : Int))))) (Value.int .i64 exb1))), (62, (gv (!(((decide ((exc1.length : Int) = 0)) || (decide (exb1 < at1))) || (decide ((s1.length : Int) - exb1 < (exc1.length : Int))))) (str s1))), (63, (gv (!(((decide ((exc1.length : Int) = 0)) || (decide (exb1 < at1))) || (decide ((s1.length : Int) - exb1 < (exc1.length : Int))))) (Value.int .i64 at1))), (64, (gv (!(((decide ((exc1.length : Int) = 0)) || (decide (exb1 < at1))) || (decide ((s1.length : Int) - exb1 < (exc1.length : Int))))) (Value.int .i64 r6))), (65, (gv (!(((decide ((exc1.length : Int) = 0)) || (decide (exb1 < at1))) || (decide ((s1.length : Int) - exb1 < (exc1.length : Int))))) (Value.bool (!decide (exb1 = r6))))), (68, (gv (!((((decide ((exc1.length : Int) = 0)) || (decide (exb1 < at1))) || (decide ((s1.length : Int) - exb1 < (exc1.length : Int)))) || (!decide (exb1 = r6)))) (str s1))), (69, (gv (!((((decide ((exc1.length : Int) = 0)) || (decide (exb1 < at1))) || (decide ((s1.length : Int) - exb1 < (exc1.length : Int)))) || (!decide (exb1 = r6)))) (Value.int .i64 exb1))), (70, (gv (!((((decide ((exc1.length : Int) = 0)) || (decide (exb1 < at1))) || (decide ((s1.length : Int) - exb1 < (exc1.length : Int)))) || (!decide (exb1 = r6)))) (Value.int .i64 exb1))), (71, (gv (!((((decide ((exc1.length : Int) = 0)) || (decide (exb1 < at1))) || (decide ((s1.length : Int) - exb1 < (exc1.length : Int)))) || (!decide (exb1 = r6)))) (Value.int .i64 (exc1.length : Int)))), (72, (gv (!((((decide ((exc1.length : Int) = 0)) || (decide (exb1 < at1))) || (decide ((s1.length : Int) - exb1 < (exc1.length : Int)))) || (!decide (exb1 = r6)))) (Value.int .i64 (exb1 + (exc1.length : Int))))), (73, (gv (!((((decide ((exc1.length : Int) = 0)) || (decide (exb1 < at1))) || (decide ((s1.length : Int) - exb1 < (exc1.length : Int)))) || (!decide (exb1 = r6)))) (str ((s1.drop (Int.toNat exb1)).take (Int.toNat (exb1 + (exc1.length : Int)) - Int.toNat exb1))))), (74, (gv (!((((decide ((exc1.length : Int) = 0)) || (decide (exb1 < at1))) || (decide ((s1.length : Int) - exb1 < (exc1.length : Int)))) || (!decide (exb1 = r6)))) (Value.slice r2A r2n r2c))), (75, (gv (!((((decide ((exc1.length : Int) = 0)) || (decide (exb1 < at1))) || (decide ((s1.length : Int) - exb1 < (exc1.length : Int)))) || (!decide (exb1 = r6)))) (Value.int .i64 i1))), (76, (gv (!((((decide ((exc1.length : Int) = 0)) || (decide (exb1 < at1))) || (decide ((s1.length : Int) - exb1 < (exc1.length : Int)))) || (!decide (exb1 = r6)))) (Value.pointer (some (ad1.add (Int.toNat i1 * 3)))))), (77, (gv (!((((decide ((exc1.length : Int) = 0)) || (decide (exb1 < at1))) || (decide ((s1.length : Int) - exb1 < (exc1.length : Int)))) || (!decide (exb1 = r6)))) (Value.pointer (some ((ad1.add (Int.toNat i1 * 3)).add 2))))), (78, (gv (!((((decide ((exc1.length : Int) = 0)) || (decide (exb1 < at1))) || (decide ((s1.length : Int) - exb1 < (exc1.length : Int)))) || (!decide (exb1 = r6)))) (str exc2))), (79, (gv (!((((decide ((exc1.length : Int) = 0)) || (decide (exb1 < at1))) || (decide ((s1.length : Int) - exb1 < (exc1.length : Int)))) || (!decide (exb1 = r6)))) (Value.bool (!decide ((s1.drop (Int.toNat exb1)).take (Int.toNat (exb1 + (exc1.length : Int)) - Int.toNat exb1) = exc2)))))]) ⟨rfl, rfl, rfl, rfl, rfl, rfl, rfl, rfl, rfl, rfl, rfl, rfl, rfl, rfl, rfl, rfl, rfl, rfl, rfl, rfl, rfl, rfl, rfl, rfl, rfl, rfl, rfl, rfl, rfl, rfl, rfl, trivial⟩ ?_
          refine c_region ?_
          refine s_q rfl rfl (y_move rfl (ev_tmp rfl rfl)) ?_
          refine s_q rfl rfl (y_move rfl (ev_tmp rfl rfl)) ?_
          obtain ⟨ho7, h⟩ := h
          refine s_q rfl rfl (y_int (y_add rfl (ev_tmp rfl rfl) (ev_tmp rfl rfl)) (wr_i64 ho7)) ?_
          refine s_q rfl rfl (y_assign rfl (ev_tmp rfl rfl)) ?_
          refine s_nil ?_
          refine k_next (e := [(0, (str s1)), (3, (Value.slice r2A r2n r2c)), (7, (Value.int .i64 i1)), (48, (gv (!(decide ((exc1.length : Int) = 0))) (Value.int .i64 exb1))), (49, (gv (!(decide ((exc1.length : Int) = 0))) (Value.int .i64 at1))), (50, (gv (!(decide ((exc1.length : Int) = 0))) (Value.bool (decide (exb1 < at1))))), (53, (gv (!((decide ((exc1.length : Int) = 0)) || (decide (exb1 < at1)))) (Value.int .i64 (exc1.length : Int)))), (54, (gv (!((decide ((exc1.length : Int) = 0)) || (decide (exb1 < at1)))) (str s1))), (55, (gv (!((decide ((exc1.length : Int) = 0)) || (decide (exb1 < at1)))) (Value.int .i64 (s1.length : Int)))), (56, (gv (!((decide ((exc1.length : Int) = 0)) || (decide (exb1 < at1)))) (Value.int .i64 exb1))), (57, (gv (!((decide ((exc1.length : Int) = 0)) || (decide (exb1 < at1)))) (Value.int .i64 ((s1.length : Int) - exb1)))), (58, (gv (!((decide ((exc1.length : Int) = 0)) || (decide (exb1 < at1)))) (Value.bool (decide ((s1.length : Int) - exb1 < (exc1.length : Int)))))), (61, (gv (!(((decide ((exc1.length : Int) = 0)) || (decide (exb1 < at1))) || (decide ((s1.length : Int) - exb1 < (exc1.length : Int))))) (Value.int .i64 exb1))), (62, (gv (!(((decide ((exc1.length : Int) = 0)) || (decide (exb1 < at1))) || (decide ((s1.length : Int) - exb1 < (exc1.length : Int))))) (str s1))), (63, (gv (!(((decide ((exc1.length : Int) = 0)) || (decide (exb1 < at1))) || (decide ((s1.length : Int) - exb1 < (exc1.length : Int))))) (Value.int .i64 at1))), (64, (gv (!(((decide ((exc1.length : Int) = 0)) || (decide (exb1 < at1))) || (decide ((s1.length : Int) - exb1 < (exc1.length : Int))))) (Value.int .i64 r6))), (65, (gv (!(((decide ((exc1.length : Int) = 0)) || (decide (exb1 < at1))) || (decide ((s1.length : Int) - exb1 < (exc1.length : Int))))) (Value.bool (!decide (exb1 = r6))))), (68, (gv (!((((decide ((exc1.length : Int) = 0)) || (decide (exb1 < at1))) || (decide ((s1.length : Int) - exb1 < (exc1.length : Int)))) || (!decide (exb1 = r6)))) (str s1))), (69, (gv (!((((decide ((exc1.length : Int) = 0)) || (decide (exb1 < at1))) || (decide ((s1.length : Int) - exb1 < (exc1.length : Int)))) || (!decide (exb1 = r6)))) (Value.int .i64 exb1))), (70, (gv (!((((decide ((exc1.length : Int) = 0)) || (decide (exb1 < at1))) || (decide ((s1.length : Int) - exb1 < (exc1.length : Int)))) || (!decide (exb1 = r6)))) (Value.int .i64 exb1))), (71, (gv (!((((decide ((exc1.length : Int) = 0)) || (decide (exb1 < at1))) || (decide ((s1.length : Int) - exb1 < (exc1.length : Int)))) || (!decide (exb1 = r6)))) (Value.int .i64 (exc1.length : Int)))), (72, (gv (!((((decide ((exc1.length : Int) = 0)) || (decide (exb1 < at1))) || (decide ((s1.length : Int) - exb1 < (exc1.length : Int)))) || (!decide (exb1 = r6)))) (Value.int .i64 (exb1 + (exc1.length : Int))))), (73, (gv (!((((decide ((exc1.length : Int) = 0)) || (decide (exb1 < at1))) || (decide ((s1.length : Int) - exb1 < (exc1.length : Int)))) || (!decide (exb1 = r6)))) (str ((s1.drop (Int.toNat exb1)).take (Int.toNat (exb1 + (exc1.length : Int)) - Int.toNat exb1))))), (74, (gv (!((((decide ((exc1.length : Int) = 0)) || (decide (exb1 < at1))) || (decide ((s1.length : Int) - exb1 < (exc1.length : Int)))) || (!decide (exb1 = r6)))) (Value.slice r2A r2n r2c))), (75, (gv (!((((decide ((exc1.length : Int) = 0)) || (decide (exb1 < at1))) || (decide ((s1.length : Int) - exb1 < (exc1.length : Int)))) || (!decide (exb1 = r6)))) (Value.int .i64 i1))), (76, (gv (!((((decide ((exc1.length : Int) = 0)) || (decide (exb1 < at1))) || (decide ((s1.length : Int) - exb1 < (exc1.length : Int)))) || (!decide (exb1 = r6)))) (Value.pointer (some (ad1.add (Int.toNat i1 * 3)))))), (77, (gv (!((((decide ((exc1.length : Int) = 0)) || (decide (exb1 < at1))) || (decide ((s1.length : Int) - exb1 < (exc1.length : Int)))) || (!decide (exb1 = r6)))) (Value.pointer (some ((ad1.add (Int.toNat i1 * 3)).add 2))))), (78, (gv (!((((decide ((exc1.length : Int) = 0)) || (decide (exb1 < at1))) || (decide ((s1.length : Int) - exb1 < (exc1.length : Int)))) || (!decide (exb1 = r6)))) (str exc2))), (79, (gv (!((((decide ((exc1.length : Int) = 0)) || (decide (exb1 < at1))) || (decide ((s1.length : Int) - exb1 < (exc1.length : Int)))) || (!decide (exb1 = r6)))) (Value.bool (!decide ((s1.drop (Int.toNat exb1)).take (Int.toNat (exb1 + (exc1.length : Int)) - Int.toNat exb1) = exc2))))), (6, (Value.int .i64 (exb1 + (exc1.length : Int))))]) ⟨rfl, rfl, rfl, rfl, rfl, rfl, rfl, rfl, rfl, rfl, rfl, rfl, rfl, rfl, rfl, rfl, rfl, rfl, rfl, rfl, rfl, rfl, rfl, rfl, rfl, rfl, rfl, rfl, rfl, rfl, trivial⟩ ?_
          refine c_region ?_
          refine s_q rfl rfl (y_move rfl (ev_tmp rfl rfl)) ?_
          obtain ⟨ho8, h⟩ := h
          refine s_q rfl rfl (y_int (y_add rfl (ev_tmp rfl rfl) ev_const) (wr_i64 ho8)) ?_
          refine s_q rfl rfl (y_assign rfl (ev_tmp rfl rfl)) ?_
          refine s_nil ?_
          exact k_loop (exb1 + (exc1.length : Int), i1 + 1) ⟨rfl, rfl, rfl, rfl, trivial⟩ ⟨h.1, (Stp.ext0 hS10)⟩ h.2
      · replace h := hF hb
        clear hT hF
        refine c_exit ?_
        refine k_in ?_
        refine k_next (e := [(0, (str s1)), (6, (Value.int .i64 at1))]) ⟨rfl, rfl, trivial⟩ ?_
        refine c_seq ?_
        refine c_region ?_
        refine s_q rfl rfl (y_move rfl (ev_tmp rfl rfl)) ?_
        refine s_q rfl rfl (y_move rfl (ev_tmp rfl rfl)) ?_
        refine s_call rfl rfl (r_callF (vs := [(str s1), (Value.int .i64 at1)]) rfl ok_18 ⟨(ev_tmp rfl rfl), ⟨(ev_tmp rfl rfl), trivial⟩⟩) (Calls.mono h ?_)
        rintro _ w8 ⟨r7, rfl, hx7, h⟩
        refine ⟨_, rfl, ?_⟩
        have hS12 : Stp noM w0 noM w8 := Stp.step hS5 hx7
        have hS13 : Stp noM w4 noM w8 := Stp.step (Stp.self hS5) hx7
        refine s_q rfl rfl (y_move rfl (ev_tmp rfl rfl)) ?_
        refine s_q rfl rfl (y_lens rfl Tryd.underlying9 (ev_tmp rfl rfl)) ?_
        refine s_q rfl rfl (y_eql rfl (ev_tmp rfl rfl) (ev_tmp rfl rfl)) ?_
        refine s_q rfl rfl (y_move rfl (ev_tmp rfl rfl)) ?_
        obtain ⟨q3, hq6, h⟩ := h
        refine s_gcallT (α := Bool) (fun x => (Value.bool x)) (fun x => fun w => q3 (x) w) (g_true rfl rfl rfl rfl) rfl (fun hc => (r_callF (vs := []) rfl ok_8 trivial)) (fun hc => (hq6 hc).mono ?_) ?_
        · rintro _ w' ⟨r8, rfl, hE', hq'⟩; exact ⟨r8, rfl, hE', hq'⟩
        rintro r8 w9 hx8 hq5
        replace h := h r8 w9 hx8 hq5
        have hS14 : Stp noM w0 noM w9 := Stp.step hS12 hx8
        have hS15 : Stp noM w8 noM w9 := Stp.step (Stp.self hS12) hx8
        refine s_q rfl rfl (y_and rfl (ev_tmp rfl rfl) (ev_tmp rfl rfl)) ?_
        refine s_q rfl rfl (y_assign rfl (ev_tmp rfl rfl)) ?_
        refine s_nil ?_
        refine k_next (e := [(2, (Value.bool ((decide (r7 = (s1.length : Int))) && r8)))]) ⟨rfl, trivial⟩ ?_
        refine c_ret ?_
        exact q_ret (vs := [(Value.bool ((decide (r7 = (s1.length : Int))) && r8))]) Tryd.results6 ⟨ev_tmp rfl rfl, trivial⟩ h

end Go.Proofs.YtndiieicjjifkaaDoor
