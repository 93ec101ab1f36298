/- PrinterDistinct (brocade/brocadelaw15.PrinterDistinct): the call returns true for every input of the row, and leaves its arguments as they were. Conditions: those of the given row. -/
import Derived.Test.YtebpdmfmknfkjaaGreatDoorCards
import Derived.Test.YtebpdmfmknfkjaaGreatDoorTie
import Derived.ProofKit
import Derived.OpenShut
import Derived.Carry
import Derived.LaidMore
import Derived.Deep.DeepHandedRow
import Derived.Deep.DeepWitnessRowRef
import Derived.Lib.LaidTab
import Derived.Lib.LaidU8
import Derived.Test.YtebpdmfmknfkjaaGreatDoorSOp
import Derived.Test.YtebpdmfmknfkjaaGreatDoorSCQ7c
import Derived.Test.YtebpdmfmknfkjaaGreatDoorSYr
namespace Go.Proofs.YtebpdmfmknfkjaaGreatDoor.printerDistinct
open Go.ChangeShapes Go.WideShapes Go.ChangeAt Go.RowKit Go.Vc
open Go.ChangeMaps (open_string shut_string)
theorem laidOut : laidOutB Tryz.prog = true := by kernel_rfl
theorem own : ownKnob Tryz.prog.godebug = none := by kernel_rfl
theorem gTType_clPow10 : (Tryz.prog.globals[0]?).map (·.type) = some 162 := by kernel_rfl
theorem cellsA_clPow10 : Tryz.prog.cellsOf 162 = 20 := by kernel_rfl
theorem cellsE_clPow10 : Tryz.prog.cellsOf 109 = 1 := by kernel_rfl
set_option maxRecDepth 100000 in
/-- What the row's list gives: the table. -/
theorem tabs_clPow10 {w : World} (h : laidMetH Tryz.prog Rows.printerDistinctRow.laid w) : clPow10.p noM w := by
  obtain ⟨ps, ⟨g0, t0, cs0, f0, p0, q0, hg0, ht0, hv0, hd0, ⟨g1, t1, cs1, f1, p1, q1, hg1, ht1, hv1, hd1, ⟨g2, t2, cs2, f2, p2, q2, hg2, ht2, hv2, hd2, ⟨g3, t3, cs3, f3, p3, q3, hg3, ht3, hv3, hd3, ⟨g4, t4, cs4, f4, p4, q4, hg4, ht4, hv4, hd4, _, _⟩, _⟩, _⟩, _⟩, _⟩, _⟩ := h
  obtain rfl := Option.some.inj (gPow10.symm.trans hg2)
  obtain rfl := Option.some.inj (gTType_clPow10.symm.trans ht2)
  have h2 := Lib.cells_of_tab (k := .u64) (zs := Lib.pow10Tab) Tryz.underlying162 Tryz.underlying109 cellsE_clPow10 cellsA_clPow10 hd2
  refine tabCl.start gPow10 ?_
  show w.var? Tryz.prog "internal/strconv.uint64pow10" = _
  rw [hv2]
  exact congrArg some (Array.ext' (by simpa using h2))
theorem gTType_clSpace : (Tryz.prog.globals[1]?).map (·.type) = some 168 := by kernel_rfl
theorem cellsA_clSpace : Tryz.prog.cellsOf 168 = 256 := by kernel_rfl
theorem cellsE_clSpace : Tryz.prog.cellsOf 5 = 1 := by kernel_rfl
set_option maxRecDepth 100000 in
/-- What the row's list gives: the table. -/
theorem tabs_clSpace {w : World} (h : laidMetH Tryz.prog Rows.printerDistinctRow.laid w) : clSpace.p noM w := by
  obtain ⟨ps, ⟨g0, t0, cs0, f0, p0, q0, hg0, ht0, hv0, hd0, ⟨g1, t1, cs1, f1, p1, q1, hg1, ht1, hv1, hd1, ⟨g2, t2, cs2, f2, p2, q2, hg2, ht2, hv2, hd2, ⟨g3, t3, cs3, f3, p3, q3, hg3, ht3, hv3, hd3, ⟨g4, t4, cs4, f4, p4, q4, hg4, ht4, hv4, hd4, _, _⟩, _⟩, _⟩, _⟩, _⟩, _⟩ := h
  obtain rfl := Option.some.inj (gSpace.symm.trans hg4)
  obtain rfl := Option.some.inj (gTType_clSpace.symm.trans ht4)
  have h2 := Lib.cells_of_tab (k := .u8) (zs := Lib.asciiSpaceTab) Tryz.underlying168 Tryz.underlying5 cellsE_clSpace cellsA_clSpace hd4
  refine tabCl.start gSpace ?_
  show w.var? Tryz.prog "strings.asciiSpace" = _
  rw [hv4]
  exact congrArg some (Array.ext' (by simpa using h2))
set_option maxRecDepth 100000 in
theorem door_met (os : Os) (args : Array Value) : laidMet Tryz.prog Rows.printerDistinctRow.laid ((World.doorLaid Tryz.prog 400 os).forCall (fun _ _ => 0) ⟨#[], args, []⟩).memory :=
  laidMet_of_run' 8 (by kernel_rfl) (by kernel_rfl)
set_option maxRecDepth 100000 in
theorem witness_row (os : Os) {H : Type} (enc : TypeId × Value → H) :
    (OpenSpec.ofChange Rows.printerDistinctSpec).preRow enc Tryz.prog Tryz.f6 Rows.printerDistinctRow.domain false Rows.printerDistinctRow.laid ((World.doorLaid Tryz.prog 400 os).forCall (fun _ _ => 0) ⟨#[], #[.agg #[.int .i64 0, .string ⟨#[]⟩, .int .i64 0, .int .i64 0, .int .i64 0, .int .i64 0, .int .i64 0, .int .i64 0, .int .i64 0, .int .i64 0, .slice none 0 0, .slice none 0 0, .slice none 0 0], .agg #[.int .i64 0, .string ⟨#[]⟩, .int .i64 0, .int .i64 0, .int .i64 0, .int .i64 0, .int .i64 0, .int .i64 0, .int .i64 0, .int .i64 0, .slice none 0 0, .slice none 0 0, .slice none 0 0]], []⟩).memory #[.agg #[.int .i64 0, .string ⟨#[]⟩, .int .i64 0, .int .i64 0, .int .i64 0, .int .i64 0, .int .i64 0, .int .i64 0, .int .i64 0, .int .i64 0, .slice none 0 0, .slice none 0 0, .slice none 0 0], .agg #[.int .i64 0, .string ⟨#[]⟩, .int .i64 0, .int .i64 0, .int .i64 0, .int .i64 0, .int .i64 0, .int .i64 0, .int .i64 0, .int .i64 0, .slice none 0 0, .slice none 0 0, .slice none 0 0]] := by
  have hw : (DataW.whole enc Tryz.prog ((World.doorLaid Tryz.prog 400 os).forCall (fun _ _ => 0) ⟨#[], #[.agg #[.int .i64 0, .string ⟨#[]⟩, .int .i64 0, .int .i64 0, .int .i64 0, .int .i64 0, .int .i64 0, .int .i64 0, .int .i64 0, .int .i64 0, .slice none 0 0, .slice none 0 0, .slice none 0 0], .agg #[.int .i64 0, .string ⟨#[]⟩, .int .i64 0, .int .i64 0, .int .i64 0, .int .i64 0, .int .i64 0, .int .i64 0, .int .i64 0, .int .i64 0, .slice none 0 0, .slice none 0 0, .slice none 0 0]], []⟩).memory Tryz.f6.params.toList Rows.printerDistinctSpec.vars false (#[.agg #[.int .i64 0, .string ⟨#[]⟩, .int .i64 0, .int .i64 0, .int .i64 0, .int .i64 0, .int .i64 0, .int .i64 0, .int .i64 0, .int .i64 0, .slice none 0 0, .slice none 0 0, .slice none 0 0], .agg #[.int .i64 0, .string ⟨#[]⟩, .int .i64 0, .int .i64 0, .int .i64 0, .int .i64 0, .int .i64 0, .int .i64 0, .int .i64 0, .int .i64 0, .slice none 0 0, .slice none 0 0, .slice none 0 0]] : Array Value).toList 8).map (fun x => (x.1, x.2.1)) = some ([.agg [.lit (.int .i64 0), .lit (.string []), .agg [.lit (.int .i64 0), .lit (.int .i64 0)], .agg [.lit (.int .i64 0), .lit (.int .i64 0), .lit (.int .i64 0), .lit (.int .i64 0), .lit (.int .i64 0)], .agg [.lit (.int .i64 0), .nil], .nil, .nil], .agg [.lit (.int .i64 0), .lit (.string []), .agg [.lit (.int .i64 0), .lit (.int .i64 0)], .agg [.lit (.int .i64 0), .lit (.int .i64 0), .lit (.int .i64 0), .lit (.int .i64 0), .lit (.int .i64 0)], .agg [.lit (.int .i64 0), .nil], .nil, .nil]], []) := by kernel_rfl
  obtain ⟨⟨x1, x2, x3⟩, hx, hx1⟩ := Option.map_eq_some_iff.1 hw
  simp only [Prod.mk.injEq] at hx1
  obtain ⟨rfl, rfl⟩ := hx1
  exact OpenSpec.preRow_of_cond 8 hx (by kernel_rfl) (fun k hk => by cases hk) (by kernel_rfl) (door_met os _)
set_option maxRecDepth 100000 in
set_option maxHeartbeats 4000000 in
theorem lifted (os : Os) (started : os.Started) (H : Type) (enc : TypeId × Value → H) (F : Stop.Interp) :
    ReturnsInHanded {} Tryz.checked os 6 .any ((OpenSpec.ofChange Rows.printerDistinctSpec).preRow enc Tryz.prog Tryz.f6 Rows.printerDistinctRow.domain false Rows.printerDistinctRow.laid) (((OpenSpec.ofChange Rows.printerDistinctSpec).at F).post enc Tryz.prog Tryz.f6 false true false false) := by
  refine returnsInHanded_of_row (C := Tryz.checked) (s := OpenSpec.ofChange Rows.printerDistinctSpec) own started (by kernel_rfl) Tryz.func6
    (witness_row_atRef (enc := enc) (C := Tryz.checked) false (World.doorLaid Tryz.prog 400 os) #[.agg #[.int .i64 0, .string ⟨#[]⟩, .int .i64 0, .int .i64 0, .int .i64 0, .int .i64 0, .int .i64 0, .int .i64 0, .int .i64 0, .int .i64 0, .slice none 0 0, .slice none 0 0, .slice none 0 0], .agg #[.int .i64 0, .string ⟨#[]⟩, .int .i64 0, .int .i64 0, .int .i64 0, .int .i64 0, .int .i64 0, .int .i64 0, .int .i64 0, .int .i64 0, .slice none 0 0, .slice none 0 0, .slice none 0 0]] rfl (by kernel_rfl) (by kernel_rfl) (by kernel_rfl) (witness_row os enc)) ?_
  intro W base args ds gs before hval0 hW _ hk hWt hL _ _
  have hval : ∀ (j : Nat) t v, Tryz.f6.params[j]? = some t → args[j]? = some v → Value.okWide Tryz.prog W .any base t v := hval0
  have hW' := hW
  obtain ⟨p, q, hA0, hV0, rfl, _, _⟩ := hW
  have hA : DataW.TrodAll enc Tryz.prog W 0 (fun _ => true) true Tryz.f6.params.toList args.toList ds p := hA0
  rw [Tryz.params6] at hA hval
  obtain ⟨v0, vs0, d0, ds0, p0, q0, hargs, rfl, rfl, h0, r0⟩ := trodAll_cons hA
  obtain ⟨v1, vs1, d1, ds1, p1, q1, rfl, rfl, rfl, h1, r1⟩ := trodAll_cons r0
  obtain ⟨rfl, rfl, rfl⟩ := trodAll_nil r1
  obtain rfl : args = #[v0, v1] := by cases args; simp_all
  obtain ⟨rfl, rfl⟩ := trodVars_none hV0
  replace hWt : (DataW.weightsEach Tryz.prog (Tryz.f6.params.toList ++ _) ([d0, d1] ++ [])).all (· ≤ reachBytes) = true := hWt
  rw [Tryz.params6] at hWt
  obtain ⟨cs0, rfl⟩ := okAgg (by rw [Tryz.underlying39]) (hval 0 39 v0 rfl rfl)
  obtain ⟨s0, hr0, ok0, sz0⟩ := OpnB.arg (fun N => (opn_39 _)) h0 (wEach_at hWt (i := 0) rfl rfl)
  obtain ⟨A0_1, c0_2, A0_3, c0_4, A0_5, c0_6, hr0, hf0_0, hf0_1, hf0_2⟩ := cGExpr_out hr0
  obtain rfl : cs0 = #[(Value.int .i64 s0.Op), (str s0.Name), (Value.int .i64 s0.Val.N), (Value.int .i64 s0.Val.D), (Value.int .i64 s0.Type_.Kind), (Value.int .i64 s0.Type_.Bits), (Value.int .i64 s0.Type_.Frac), (Value.int .i64 s0.Type_.Round), (Value.int .i64 s0.Type_.Over), (Value.int .i64 s0.Lin.K), (Value.slice A0_1 s0.Lin.L.length c0_2), (Value.slice A0_3 s0.Idx.length c0_4), (Value.slice A0_5 s0.Args.length c0_6)] := Array.toList_inj.1 hr0
  obtain ⟨cs1, rfl⟩ := okAgg (by rw [Tryz.underlying39]) (hval 1 39 v1 rfl rfl)
  obtain ⟨s1, hr1, ok1, sz1⟩ := OpnB.arg (fun N => (opn_39 _)) h1 (wEach_at hWt (i := 1) rfl rfl)
  obtain ⟨A1_1, c1_2, A1_3, c1_4, A1_5, c1_6, hr1, hf1_0, hf1_1, hf1_2⟩ := cGExpr_out hr1
  obtain rfl : cs1 = #[(Value.int .i64 s1.Op), (str s1.Name), (Value.int .i64 s1.Val.N), (Value.int .i64 s1.Val.D), (Value.int .i64 s1.Type_.Kind), (Value.int .i64 s1.Type_.Bits), (Value.int .i64 s1.Type_.Frac), (Value.int .i64 s1.Type_.Round), (Value.int .i64 s1.Type_.Over), (Value.int .i64 s1.Lin.K), (Value.slice A1_1 s1.Lin.L.length c1_2), (Value.slice A1_3 s1.Idx.length c1_4), (Value.slice A1_5 s1.Args.length c1_6)] := Array.toList_inj.1 hr1
  refine (c_law15_PrinterDistinct noM W (fun _ h => h.elim) s0 s1 A0_1 c0_2 A0_3 c0_4 A0_5 c0_6 A1_1 c1_2 A1_3 c1_4 A1_5 c1_6 ⟨hf0_0, hf0_1, hf0_2, hf1_0, hf1_1, hf1_2, tabs_clPow10 hL, tabs_clSpace hL, trivial⟩ true (law_PrinterDistinct s0 s1 ok0 ok1)).mono fun e W' ⟨he, bel, _⟩ => ?_
  subst he
  have hlt : ∀ x ∈ (p0 ++ (p1 ++ []) : List MemPlace), x.block < W.heap.size := fun x hx => hA0.lt x hx
  refine ⟨_, rfl, _, _, _, [], _, [], hW', ?_, ⟨p0, _, Below.trod laidOut (by kernel_rfl) (by decide +kernel) h0 bel (fun x hx => hlt x (List.mem_append_left _ hx)), ⟨p1, _, Below.trod laidOut (by kernel_rfl) (by decide +kernel) h1 bel (fun x hx => hlt x (List.mem_append_right _ (List.mem_append_left _ hx))), rfl, rfl⟩, rfl⟩, ?_, bel.frame _, fun h => by cases h⟩
  · exact trodAll_mk1 (shut_bool Tryz.underlying4 _)
  · rfl
theorem said : Rows.PrinterDistinctSaid :=
  OpenClaim.holds_of_cond 6 Tryz.f6 rfl rfl rfl rfl rfl rfl rfl ⟨rfl, rfl, rfl, rfl, rfl⟩ rfl rfl rfl rfl rfl (by kernel_rfl) Tryz.func6 (by kernel_rfl)
    (of_decide_eq_true (by kernel_rfl)) (by unfold Func.isWrapper; first | (rw [if_pos (by decide +kernel)]; kernel_rfl) | (rw [if_neg (by decide +kernel)]; exact ⟨rfl, rfl⟩))
    (fun os started H enc _ F => by rw [OpenClaim.pre_eq_preRow]; exact lifted os started H enc F)
theorem plain (f : FuncId) (fn : Func) (hf : Tryz.pinned.checked.prog.funcNamed "brocade/brocadelaw15.PrinterDistinct" = some f) (hfn : Tryz.pinned.checked.prog.funcs[f]? = some fn) :
    false = Tryz.pinned.checked.prog.looks [] ∧ ∀ (j : Nat) t, fn.params[j]? = some t → Tryz.pinned.checked.prog.wantsStandIn t = false := by
      obtain rfl : f = 6 := Option.some.inj ((show Tryz.prog.funcNamed "brocade/brocadelaw15.PrinterDistinct" = some 6 by kernel_rfl).symm.trans hf) |>.symm
      obtain rfl : fn = Tryz.f6 := (Option.some.inj (Tryz.func6.symm.trans hfn)).symm
      refine ⟨by kernel_rfl, fun j t ht => ?_⟩
      rw [Tryz.params6] at ht
      have hm : t ∈ [39] := by simpa using Array.mem_of_getElem? ht
      exact (show ∀ t ∈ [39], Tryz.prog.wantsStandIn t = false from fun t ht => by
        simp only [List.mem_cons, List.not_mem_nil, or_false] at ht
        rcases ht with rfl <;> kernel_rfl) t hm
theorem card : Rows.PrinterDistinctCardSaid :=
      Claim7.holds_tied_plain_at .later [] _ _ _ _ said (fun _ h => by cases h) (by kernel_rfl) (fun _ h => by cases h) printerDistinct_row_tie rfl ⟨rfl, rfl⟩ (by kernel_rfl) rfl plain (by kernel_rfl)
end Go.Proofs.YtebpdmfmknfkjaaGreatDoor.printerDistinct
