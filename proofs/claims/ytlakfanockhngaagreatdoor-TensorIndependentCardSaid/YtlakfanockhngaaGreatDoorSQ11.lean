/- TensorIndependent (brocade/brocadelaw12.TensorIndependent): the call returns true for every input of the row, and leaves its arguments as they were. Conditions: those of the given row. -/
import Derived.Test.YtlakfanockhngaaGreatDoorCards
import Derived.Test.YtlakfanockhngaaGreatDoorTie
import Derived.ProofKit
import Derived.OpenShut
import Derived.Carry
import Derived.LaidMore
import Derived.Deep.DeepHandedRow
import Derived.Deep.DeepWitnessRowRef
import Derived.Lib.LaidTab
import Derived.Lib.LaidU8
import Derived.Test.YtlakfanockhngaaGreatDoorSOp
import Derived.Test.YtlakfanockhngaaGreatDoorSCQ11c
import Derived.Test.YtlakfanockhngaaGreatDoorSUj
namespace Go.Proofs.YtlakfanockhngaaGreatDoor.tensorIndependent
open Go.ChangeShapes Go.WideShapes Go.ChangeAt Go.RowKit Go.Vc
open Go.ChangeMaps (open_string shut_string)
theorem laidOut : laidOutB Tryz.prog = true := by kernel_rfl
theorem own : ownKnob Tryz.prog.godebug = none := by kernel_rfl
theorem gTType : (Tryz.prog.globals[0]?).map (·.type) = some 153 := by kernel_rfl
theorem cellsA : Tryz.prog.cellsOf 153 = 20 := by kernel_rfl
theorem cellsE : Tryz.prog.cellsOf 120 = 1 := by kernel_rfl
set_option maxRecDepth 100000 in
/-- What the row's list gives: the table. -/
theorem tabs {w : World} (h : laidMetH Tryz.prog Rows.tensorIndependentRow.laid w) : clPow10.p noM w := by
  obtain ⟨ps, ⟨g0, t0, cs0, f0, p0, q0, hg0, ht0, hv0, hd0, ⟨g1, t1, cs1, f1, p1, q1, hg1, ht1, hv1, hd1, ⟨g2, t2, cs2, f2, p2, q2, hg2, ht2, hv2, hd2, _, _⟩, _⟩, _⟩, _⟩ := h
  obtain rfl := Option.some.inj (gPow10.symm.trans hg2)
  obtain rfl := Option.some.inj (gTType.symm.trans ht2)
  have h2 := Lib.cells_of_tab (k := .u64) (zs := Lib.pow10Tab) Tryz.underlying153 Tryz.underlying120 cellsE cellsA hd2
  refine tabCl.start gPow10 ?_
  show w.var? Tryz.prog "internal/strconv.uint64pow10" = _
  rw [hv2]
  exact congrArg some (Array.ext' (by simpa using h2))
set_option maxRecDepth 100000 in
theorem door_met (os : Os) (args : Array Value) : laidMet Tryz.prog Rows.tensorIndependentRow.laid ((World.doorLaid Tryz.prog 400 os).forCall (fun _ _ => 0) ⟨#[], args, []⟩).memory :=
  laidMet_of_run' 8 (by kernel_rfl) (by kernel_rfl)
set_option maxRecDepth 100000 in
theorem witness_row (os : Os) {H : Type} (enc : TypeId × Value → H) :
    (OpenSpec.ofChange Rows.tensorIndependentSpec).preRow enc Tryz.prog Tryz.f7 Rows.tensorIndependentRow.domain false Rows.tensorIndependentRow.laid ((World.doorLaid Tryz.prog 400 os).forCall (fun _ _ => 0) ⟨#[], #[.agg #[.int .i64 0, .int .i64 0, .int .i64 0, .int .i64 0, .int .i64 0, .slice none 0 0, .slice none 0 0], .agg #[.int .i64 0, .int .i64 0], .slice none 0 0], []⟩).memory #[.agg #[.int .i64 0, .int .i64 0, .int .i64 0, .int .i64 0, .int .i64 0, .slice none 0 0, .slice none 0 0], .agg #[.int .i64 0, .int .i64 0], .slice none 0 0] := by
  have hw : (DataW.whole enc Tryz.prog ((World.doorLaid Tryz.prog 400 os).forCall (fun _ _ => 0) ⟨#[], #[.agg #[.int .i64 0, .int .i64 0, .int .i64 0, .int .i64 0, .int .i64 0, .slice none 0 0, .slice none 0 0], .agg #[.int .i64 0, .int .i64 0], .slice none 0 0], []⟩).memory Tryz.f7.params.toList Rows.tensorIndependentSpec.vars false (#[.agg #[.int .i64 0, .int .i64 0, .int .i64 0, .int .i64 0, .int .i64 0, .slice none 0 0, .slice none 0 0], .agg #[.int .i64 0, .int .i64 0], .slice none 0 0] : Array Value).toList 8).map (fun x => (x.1, x.2.1)) = some ([.agg [.agg [.lit (.int .i64 0), .lit (.int .i64 0), .lit (.int .i64 0), .lit (.int .i64 0), .lit (.int .i64 0)], .nil, .nil], .agg [.lit (.int .i64 0), .lit (.int .i64 0)], .nil], []) := by kernel_rfl
  obtain ⟨⟨x1, x2, x3⟩, hx, hx1⟩ := Option.map_eq_some_iff.1 hw
  simp only [Prod.mk.injEq] at hx1
  obtain ⟨rfl, rfl⟩ := hx1
  exact OpenSpec.preRow_of_cond 8 hx (by kernel_rfl) (fun k hk => by cases hk) (by kernel_rfl) (door_met os _)
set_option maxRecDepth 100000 in
set_option maxHeartbeats 4000000 in
theorem lifted (os : Os) (started : os.Started) (H : Type) (enc : TypeId × Value → H) (F : Stop.Interp) :
    ReturnsInHanded {} Tryz.checked os 7 .any ((OpenSpec.ofChange Rows.tensorIndependentSpec).preRow enc Tryz.prog Tryz.f7 Rows.tensorIndependentRow.domain false Rows.tensorIndependentRow.laid) (((OpenSpec.ofChange Rows.tensorIndependentSpec).at F).post enc Tryz.prog Tryz.f7 false true false false) := by
  refine returnsInHanded_of_row (C := Tryz.checked) (s := OpenSpec.ofChange Rows.tensorIndependentSpec) own started (by kernel_rfl) Tryz.func7
    (witness_row_atRef (enc := enc) (C := Tryz.checked) false (World.doorLaid Tryz.prog 400 os) #[.agg #[.int .i64 0, .int .i64 0, .int .i64 0, .int .i64 0, .int .i64 0, .slice none 0 0, .slice none 0 0], .agg #[.int .i64 0, .int .i64 0], .slice none 0 0] rfl (by kernel_rfl) (by kernel_rfl) (by kernel_rfl) (witness_row os enc)) ?_
  intro W base args ds gs before hval0 hW _ hk _ hL _ _
  have hval : ∀ (j : Nat) t v, Tryz.f7.params[j]? = some t → args[j]? = some v → Value.okWide Tryz.prog W .any base t v := hval0
  have hW' := hW
  obtain ⟨p, q, hA0, hV0, rfl, _, _⟩ := hW
  have hA : DataW.TrodAll enc Tryz.prog W 0 (fun _ => true) true Tryz.f7.params.toList args.toList ds p := hA0
  rw [Tryz.params7] at hA hval
  obtain ⟨v0, vs0, d0, ds0, p0, q0, hargs, rfl, rfl, h0, r0⟩ := trodAll_cons hA
  obtain ⟨v1, vs1, d1, ds1, p1, q1, rfl, rfl, rfl, h1, r1⟩ := trodAll_cons r0
  obtain ⟨v2, vs2, d2, ds2, p2, q2, rfl, rfl, rfl, h2, r2⟩ := trodAll_cons r1
  obtain ⟨rfl, rfl, rfl⟩ := trodAll_nil r2
  obtain rfl : args = #[v0, v1, v2] := by cases args; simp_all
  obtain ⟨rfl, rfl⟩ := trodVars_none hV0
  obtain ⟨cs0, rfl⟩ := okAgg (by rw [Tryz.underlying27]) (hval 0 27 v0 rfl rfl)
  obtain ⟨s0, hr0, ok0⟩ := Opn.arg opn_27 h0
  obtain ⟨A0_1, c0_2, A0_3, c0_4, hr0, hf0_0, hf0_1⟩ := hr0
  obtain rfl : cs0 = #[(Value.int .i64 s0.Type_.Kind), (Value.int .i64 s0.Type_.Bits), (Value.int .i64 s0.Type_.Frac), (Value.int .i64 s0.Type_.Round), (Value.int .i64 s0.Type_.Over), (Value.slice A0_1 s0.Dims.length c0_2), (Value.slice A0_3 s0.Vals.length c0_4)] := Array.toList_inj.1 hr0
  obtain ⟨cs1, rfl⟩ := okAgg (by rw [Tryz.underlying36]) (hval 1 36 v1 rfl rfl)
  obtain ⟨s1, hr1, ok1⟩ := Opn.arg opn_36 h1
  obtain rfl : cs1 = #[(Value.int .i64 s1.N), (Value.int .i64 s1.D)] := Array.toList_inj.1 hr1
  obtain ⟨a2, n2, k2, rfl⟩ := okWide_slice Tryz.underlying24 (hval 2 24 v2 rfl rfl)
  obtain ⟨s2, ⟨A2_1, c2_2, hr2, hf2_0⟩, ok2⟩ := Opn.arg (Opn.sl Tryz.underlying24 (by kernel_rfl) (by decide) (Opn.int Tryz.underlying3)) h2
  replace hr2 : [Value.slice a2 n2 k2] = [(Value.slice A2_1 s2.length c2_2)] := hr2
  simp only [List.cons.injEq, Value.slice.injEq, and_true] at hr2
  obtain ⟨rfl, rfl, rfl⟩ := hr2
  refine (c_law12_TensorIndependent noM W (fun _ h => h.elim) s0 s1 s2 A0_1 c0_2 A0_3 c0_4 a2 k2 ⟨hf0_0, hf0_1, hf2_0, tabs hL, trivial⟩ true (law_TensorIndependent s0 s1 s2 ok0 ok1 ok2)).mono fun e W' ⟨he, bel, _⟩ => ?_
  subst he
  have hlt : ∀ x ∈ (p0 ++ (p1 ++ (p2 ++ [])) : List MemPlace), x.block < W.heap.size := fun x hx => hA0.lt x hx
  refine ⟨_, rfl, _, _, _, [], _, [], hW', ?_, ⟨p0, _, Below.trod laidOut (by kernel_rfl) (by decide +kernel) h0 bel (fun x hx => hlt x (List.mem_append_left _ hx)), ⟨p1, _, Below.trod laidOut (by kernel_rfl) (by decide +kernel) h1 bel (fun x hx => hlt x (List.mem_append_right _ (List.mem_append_left _ hx))), ⟨p2, _, Below.trod laidOut (by kernel_rfl) (by decide +kernel) h2 bel (fun x hx => hlt x (List.mem_append_right _ (List.mem_append_right _ (List.mem_append_left _ hx)))), rfl, rfl⟩, rfl⟩, rfl⟩, ?_, bel.frame _, fun h => by cases h⟩
  · exact trodAll_mk1 (shut_bool Tryz.underlying4 _)
  · rfl
theorem said : Rows.TensorIndependentSaid :=
  OpenClaim.holds_of_cond 7 Tryz.f7 rfl rfl rfl rfl rfl rfl rfl ⟨rfl, rfl, rfl, rfl, rfl⟩ rfl rfl rfl rfl rfl (by kernel_rfl) Tryz.func7 (by kernel_rfl)
    (of_decide_eq_true (by kernel_rfl)) (by unfold Func.isWrapper; first | (rw [if_pos (by decide +kernel)]; kernel_rfl) | (rw [if_neg (by decide +kernel)]; exact ⟨rfl, rfl⟩))
    (fun os started H enc _ F => by rw [OpenClaim.pre_eq_preRow]; exact lifted os started H enc F)
theorem plain (f : FuncId) (fn : Func) (hf : Tryz.pinned.checked.prog.funcNamed "brocade/brocadelaw12.TensorIndependent" = some f) (hfn : Tryz.pinned.checked.prog.funcs[f]? = some fn) :
    false = Tryz.pinned.checked.prog.looks [] ∧ ∀ (j : Nat) t, fn.params[j]? = some t → Tryz.pinned.checked.prog.wantsStandIn t = false := by
      obtain rfl : f = 7 := Option.some.inj ((show Tryz.prog.funcNamed "brocade/brocadelaw12.TensorIndependent" = some 7 by kernel_rfl).symm.trans hf) |>.symm
      obtain rfl : fn = Tryz.f7 := (Option.some.inj (Tryz.func7.symm.trans hfn)).symm
      refine ⟨by kernel_rfl, fun j t ht => ?_⟩
      rw [Tryz.params7] at ht
      have hm : t ∈ [27, 36, 24] := by simpa using Array.mem_of_getElem? ht
      exact (show ∀ t ∈ [27, 36, 24], Tryz.prog.wantsStandIn t = false from fun t ht => by
        simp only [List.mem_cons, List.not_mem_nil, or_false] at ht
        rcases ht with rfl | rfl | rfl <;> kernel_rfl) t hm
theorem card : Rows.TensorIndependentCardSaid :=
      Claim7.holds_tied_plain_at .later [] _ _ _ _ said (fun _ h => by cases h) (by kernel_rfl) (fun _ h => by cases h) tensorIndependent_row_tie rfl ⟨rfl, rfl⟩ (by kernel_rfl) rfl plain (by kernel_rfl)
end Go.Proofs.YtlakfanockhngaaGreatDoor.tensorIndependent
