/- PrinterProgs (brocade/brocadelaw15.PrinterProgs): the call returns true for every input of the row, and leaves its arguments as they were. Conditions: those of the given row; its second form: what it reads is of bulk at most 1048576. -/
import Derived.Test.YtebpdmfmknfkjaaGreatDoorCards
import Derived.Test.YtebpdmfmknfkjaaGreatDoorTie
import Derived.ProofKit
import Derived.OpenShut
import Derived.Carry
import Derived.LaidMore
import Derived.Deep.DeepHandedRow
import Derived.Deep.DeepWitnessRowRef
import Derived.Lib.LaidTab
import Derived.Lib.LaidU8
import Derived.Test.YtebpdmfmknfkjaaGreatDoorSOp
import Derived.Test.YtebpdmfmknfkjaaGreatDoorSCQ5d
import Derived.Test.YtebpdmfmknfkjaaGreatDoorSYk
namespace Go.Proofs.YtebpdmfmknfkjaaGreatDoor.printerProgs
open Go.ChangeShapes Go.WideShapes Go.ChangeAt Go.RowKit Go.Vc
open Go.ChangeMaps (open_string shut_string)
theorem laidOut : laidOutB Tryz.prog = true := by kernel_rfl
theorem own : ownKnob Tryz.prog.godebug = none := by kernel_rfl
theorem gTType_clPow10 : (Tryz.prog.globals[0]?).map (·.type) = some 162 := by kernel_rfl
theorem cellsA_clPow10 : Tryz.prog.cellsOf 162 = 20 := by kernel_rfl
theorem cellsE_clPow10 : Tryz.prog.cellsOf 109 = 1 := by kernel_rfl
set_option maxRecDepth 100000 in
/-- What the row's list gives: the table. -/
theorem tabs_clPow10 {w : World} (h : laidMetH Tryz.prog Rows.printerProgsUptoRow.laid w) : clPow10.p noM w := by
  obtain ⟨ps, ⟨g0, t0, cs0, f0, p0, q0, hg0, ht0, hv0, hd0, ⟨g1, t1, cs1, f1, p1, q1, hg1, ht1, hv1, hd1, ⟨g2, t2, cs2, f2, p2, q2, hg2, ht2, hv2, hd2, ⟨g3, t3, cs3, f3, p3, q3, hg3, ht3, hv3, hd3, ⟨g4, t4, cs4, f4, p4, q4, hg4, ht4, hv4, hd4, _, _⟩, _⟩, _⟩, _⟩, _⟩, _⟩ := h
  obtain rfl := Option.some.inj (gPow10.symm.trans hg2)
  obtain rfl := Option.some.inj (gTType_clPow10.symm.trans ht2)
  have h2 := Lib.cells_of_tab (k := .u64) (zs := Lib.pow10Tab) Tryz.underlying162 Tryz.underlying109 cellsE_clPow10 cellsA_clPow10 hd2
  refine tabCl.start gPow10 ?_
  show w.var? Tryz.prog "internal/strconv.uint64pow10" = _
  rw [hv2]
  exact congrArg some (Array.ext' (by simpa using h2))
theorem gTType_clSpace : (Tryz.prog.globals[1]?).map (·.type) = some 168 := by kernel_rfl
theorem cellsA_clSpace : Tryz.prog.cellsOf 168 = 256 := by kernel_rfl
theorem cellsE_clSpace : Tryz.prog.cellsOf 5 = 1 := by kernel_rfl
set_option maxRecDepth 100000 in
/-- What the row's list gives: the table. -/
theorem tabs_clSpace {w : World} (h : laidMetH Tryz.prog Rows.printerProgsUptoRow.laid w) : clSpace.p noM w := by
  obtain ⟨ps, ⟨g0, t0, cs0, f0, p0, q0, hg0, ht0, hv0, hd0, ⟨g1, t1, cs1, f1, p1, q1, hg1, ht1, hv1, hd1, ⟨g2, t2, cs2, f2, p2, q2, hg2, ht2, hv2, hd2, ⟨g3, t3, cs3, f3, p3, q3, hg3, ht3, hv3, hd3, ⟨g4, t4, cs4, f4, p4, q4, hg4, ht4, hv4, hd4, _, _⟩, _⟩, _⟩, _⟩, _⟩, _⟩ := h
  obtain rfl := Option.some.inj (gSpace.symm.trans hg4)
  obtain rfl := Option.some.inj (gTType_clSpace.symm.trans ht4)
  have h2 := Lib.cells_of_tab (k := .u8) (zs := Lib.asciiSpaceTab) Tryz.underlying168 Tryz.underlying5 cellsE_clSpace cellsA_clSpace hd4
  refine tabCl.start gSpace ?_
  show w.var? Tryz.prog "strings.asciiSpace" = _
  rw [hv4]
  exact congrArg some (Array.ext' (by simpa using h2))
set_option maxRecDepth 100000 in
theorem door_met (os : Os) (args : Array Value) : laidMet Tryz.prog Rows.printerProgsUptoRow.laid ((World.doorLaid Tryz.prog 400 os).forCall (fun _ _ => 0) ⟨#[], args, []⟩).memory :=
  laidMet_of_run' 8 (by kernel_rfl) (by kernel_rfl)
theorem bulkAll {H : Type} : ∀ (xs : List (DataW H)), Rows.uptoBulkAll xs = (xs.map Rows.uptoBulk).sum
  | [] => by simp [Rows.uptoBulkAll]
  | x :: xs => by rw [Rows.uptoBulkAll, bulkAll xs, List.map_cons, List.sum_cons]
theorem bulk_pos {H : Type} (d : DataW H) : 1 ≤ Rows.uptoBulk d := by
  cases d with
  | lit l => cases l <;> simp [Rows.uptoBulk]
  | _ => simp [Rows.uptoBulk]
/-- The bulk, as a measure of what is read. -/
def upM : Meas where
  f := Rows.uptoBulk
  pos := bulk_pos
  str l := by simp [Rows.uptoBulk]
  sl xs ys := by rw [Rows.uptoBulk, bulkAll]; omega
  agg xs := by rw [Rows.uptoBulk, bulkAll]; omega
set_option maxRecDepth 100000 in
theorem witness_row (os : Os) {H : Type} (enc : TypeId × Value → H) :
    (Rows.OpenSpec.upto Rows.printerProgsSpec).preRow enc Tryz.prog Tryz.f9 Rows.printerProgsUptoRow.domain false Rows.printerProgsUptoRow.laid ((World.doorLaid Tryz.prog 400 os).forCall (fun _ _ => 0) ⟨#[], #[.agg #[.slice none 0 0, .slice none 0 0, .slice none 0 0, .slice none 0 0, .slice none 0 0]], []⟩).memory #[.agg #[.slice none 0 0, .slice none 0 0, .slice none 0 0, .slice none 0 0, .slice none 0 0]] := by
  have hw : (DataW.whole enc Tryz.prog ((World.doorLaid Tryz.prog 400 os).forCall (fun _ _ => 0) ⟨#[], #[.agg #[.slice none 0 0, .slice none 0 0, .slice none 0 0, .slice none 0 0, .slice none 0 0]], []⟩).memory Tryz.f9.params.toList Rows.printerProgsSpec.vars false (#[.agg #[.slice none 0 0, .slice none 0 0, .slice none 0 0, .slice none 0 0, .slice none 0 0]] : Array Value).toList 8).map (fun x => (x.1, x.2.1)) = some ([.agg [.nil, .nil, .nil, .nil, .nil]], []) := by kernel_rfl
  obtain ⟨⟨x1, x2, x3⟩, hx, hx1⟩ := Option.map_eq_some_iff.1 hw
  simp only [Prod.mk.injEq] at hx1
  obtain ⟨rfl, rfl⟩ := hx1
  exact OpenSpec.preRow_of_cond 8 hx (by kernel_rfl) (fun k hk => by cases hk; kernel_rfl) (by kernel_rfl) (door_met os _)
set_option maxRecDepth 100000 in
set_option maxHeartbeats 4000000 in
theorem lifted (os : Os) (started : os.Started) (H : Type) (enc : TypeId × Value → H) (F : Stop.Interp) :
    ReturnsInHanded {} Tryz.checked os 9 .any ((Rows.OpenSpec.upto Rows.printerProgsSpec).preRow enc Tryz.prog Tryz.f9 Rows.printerProgsUptoRow.domain false Rows.printerProgsUptoRow.laid) (((Rows.OpenSpec.upto Rows.printerProgsSpec).at F).post enc Tryz.prog Tryz.f9 false true false false) := by
  refine returnsInHanded_of_row (C := Tryz.checked) (s := Rows.OpenSpec.upto Rows.printerProgsSpec) own started (by kernel_rfl) Tryz.func9
    (witness_row_atRef (enc := enc) (C := Tryz.checked) false (World.doorLaid Tryz.prog 400 os) #[.agg #[.slice none 0 0, .slice none 0 0, .slice none 0 0, .slice none 0 0, .slice none 0 0]] rfl (by kernel_rfl) (by kernel_rfl) (by kernel_rfl) (witness_row os enc)) ?_
  intro W base args ds gs before hval0 hW _ hk hWt hL _ _
  have hval : ∀ (j : Nat) t v, Tryz.f9.params[j]? = some t → args[j]? = some v → Value.okWide Tryz.prog W .any base t v := hval0
  have hW' := hW
  obtain ⟨p, q, hA0, hV0, rfl, _, _⟩ := hW
  have hA : DataW.TrodAll enc Tryz.prog W 0 (fun _ => true) true Tryz.f9.params.toList args.toList ds p := hA0
  rw [Tryz.params9] at hA hval
  obtain ⟨v0, vs0, d0, ds0, p0, q0, hargs, rfl, rfl, h0, r0⟩ := trodAll_cons hA
  obtain ⟨rfl, rfl, rfl⟩ := trodAll_nil r0
  obtain rfl : args = #[v0] := by cases args; simp_all
  obtain ⟨rfl, rfl⟩ := trodVars_none hV0
  replace hWt : (DataW.weightsEach Tryz.prog (Tryz.f9.params.toList ++ _) ([d0] ++ [])).all (· ≤ reachBytes) = true := hWt
  rw [Tryz.params9] at hWt
  obtain ⟨cs0, rfl⟩ := okAgg (by rw [Tryz.underlying62]) (hval 0 62 v0 rfl rfl)
  obtain ⟨s0, hr0, ok0, sz0⟩ := OpnB.arg (fun N => (opn_62 _)) h0 (wEach_at hWt (i := 0) rfl rfl)
  obtain ⟨A0_1, c0_2, A0_3, c0_4, A0_5, c0_6, A0_7, c0_8, A0_9, c0_10, hr0, hf0_0, hf0_1, hf0_2, hf0_3, hf0_4⟩ := hr0
  obtain rfl : cs0 = #[(Value.slice A0_1 s0.Sizes.length c0_2), (Value.slice A0_3 s0.Where.length c0_4), (Value.slice A0_5 s0.Params.length c0_6), (Value.slice A0_7 s0.Defs.length c0_8), (Value.slice A0_9 s0.Outs.length c0_10)] := Array.toList_inj.1 hr0
  have hb := of_decide_eq_true (hk _ rfl)
  simp only [Rows.uptoBulkAll, Rows.uptoBulk, List.append_nil, List.cons_append, List.nil_append] at hb
  have hz0 := sz0 upM
  replace hz0 : _ + 1 ≤ Rows.uptoBulk d0 := hz0
  refine (c_law15_PrinterProgs noM W (fun _ h => h.elim) s0 A0_1 c0_2 A0_3 c0_4 A0_5 c0_6 A0_7 c0_8 A0_9 c0_10 ⟨hf0_0, hf0_1, hf0_2, hf0_3, hf0_4, tabs_clPow10 hL, tabs_clSpace hL, trivial⟩ true (law_PrinterProgs s0 ok0 (by omega))).mono fun e W' ⟨he, bel, _⟩ => ?_
  subst he
  have hlt : ∀ x ∈ (p0 ++ [] : List MemPlace), x.block < W.heap.size := fun x hx => hA0.lt x hx
  refine ⟨_, rfl, _, _, _, [], _, [], hW', ?_, ⟨p0, _, Below.trod laidOut (by kernel_rfl) (by decide +kernel) h0 bel (fun x hx => hlt x (List.mem_append_left _ hx)), rfl, rfl⟩, ?_, bel.frame _, fun h => by cases h⟩
  · exact trodAll_mk1 (shut_bool Tryz.underlying4 _)
  · rfl
theorem saidUpto : Rows.PrinterProgsUptoSaid :=
  OpenClaim.holds_of_cond 9 Tryz.f9 rfl rfl rfl rfl rfl rfl rfl ⟨rfl, rfl, rfl, rfl, rfl⟩ rfl rfl rfl rfl rfl (by kernel_rfl) Tryz.func9 (by kernel_rfl)
    (of_decide_eq_true (by kernel_rfl)) (by unfold Func.isWrapper; first | (rw [if_pos (by decide +kernel)]; kernel_rfl) | (rw [if_neg (by decide +kernel)]; exact ⟨rfl, rfl⟩))
    (fun os started H enc _ F => by rw [OpenClaim.pre_eq_preRow]; exact lifted os started H enc F)
theorem plain (f : FuncId) (fn : Func) (hf : Tryz.pinned.checked.prog.funcNamed "brocade/brocadelaw15.PrinterProgs" = some f) (hfn : Tryz.pinned.checked.prog.funcs[f]? = some fn) :
    false = Tryz.pinned.checked.prog.looks [] ∧ ∀ (j : Nat) t, fn.params[j]? = some t → Tryz.pinned.checked.prog.wantsStandIn t = false := by
      obtain rfl : f = 9 := Option.some.inj ((show Tryz.prog.funcNamed "brocade/brocadelaw15.PrinterProgs" = some 9 by kernel_rfl).symm.trans hf) |>.symm
      obtain rfl : fn = Tryz.f9 := (Option.some.inj (Tryz.func9.symm.trans hfn)).symm
      refine ⟨by kernel_rfl, fun j t ht => ?_⟩
      rw [Tryz.params9] at ht
      have hm : t ∈ [62] := by simpa using Array.mem_of_getElem? ht
      exact (show ∀ t ∈ [62], Tryz.prog.wantsStandIn t = false from fun t ht => by
        simp only [List.mem_cons, List.not_mem_nil, or_false] at ht
        rcases ht with rfl <;> kernel_rfl) t hm
theorem cardUpto : Rows.PrinterProgsUptoCardSaid :=
      Claim7.holds_tied_plain_at .later [] _ _ _ _ saidUpto (fun _ h => by cases h) (by kernel_rfl) (fun _ h => by cases h) printerProgsUpto_row_tie rfl ⟨rfl, rfl⟩ (by kernel_rfl) rfl plain (by kernel_rfl)
end Go.Proofs.YtebpdmfmknfkjaaGreatDoor.printerProgs
