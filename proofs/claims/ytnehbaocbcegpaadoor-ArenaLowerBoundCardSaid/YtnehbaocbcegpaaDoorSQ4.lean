/- ArenaLowerBound (brocade/brocadelaw42.ArenaLowerBound): the call returns true for every input of the row, and leaves its arguments as they were. Conditions: those of the given row. -/
import Derived.Test.YtnehbaocbcegpaaDoorCards
import Derived.Test.YtnehbaocbcegpaaDoorTie
import Derived.ProofKit
import Derived.OpenShut
import Derived.Carry
import Derived.LaidMore
import Derived.Deep.DeepHandedRow
import Derived.Deep.DeepWitnessRowRef
import Derived.Lib.LaidTab
import Derived.Lib.LaidU8
import Derived.Test.YtnehbaocbcegpaaDoorSOp
import Derived.Test.YtnehbaocbcegpaaDoorSCtc
import Derived.Test.YtnehbaocbcegpaaDoorSVk
namespace Go.Proofs.YtnehbaocbcegpaaDoor.arenaLowerBound
open Go.ChangeShapes Go.WideShapes Go.ChangeAt Go.RowKit Go.Vc
open Go.ChangeMaps (open_string shut_string)
theorem laidOut : laidOutB Tryd.prog = true := by kernel_rfl
theorem own : ownKnob Tryd.prog.godebug = none := by kernel_rfl
theorem gTType_clSpace : (Tryd.prog.globals[0]?).map (·.type) = some 76 := by kernel_rfl
theorem cellsA_clSpace : Tryd.prog.cellsOf 76 = 256 := by kernel_rfl
theorem cellsE_clSpace : Tryd.prog.cellsOf 5 = 1 := by kernel_rfl
set_option maxRecDepth 100000 in
/-- What the row's list gives: the table. -/
theorem tabs_clSpace {w : World} (h : laidMetH Tryd.prog Rows.arenaLowerBoundRow.laid w) : clSpace.p noM w := by
  obtain ⟨ps, ⟨g0, t0, cs0, f0, p0, q0, hg0, ht0, hv0, hd0, ⟨g1, t1, cs1, f1, p1, q1, hg1, ht1, hv1, hd1, _, _⟩, _⟩, _⟩ := h
  obtain rfl := Option.some.inj (gSpace.symm.trans hg1)
  obtain rfl := Option.some.inj (gTType_clSpace.symm.trans ht1)
  have h2 := Lib.cells_of_tab (k := .u8) (zs := Lib.asciiSpaceTab) Tryd.underlying76 Tryd.underlying5 cellsE_clSpace cellsA_clSpace hd1
  refine tabCl.start gSpace ?_
  show w.var? Tryd.prog "strings.asciiSpace" = _
  rw [hv1]
  exact congrArg some (Array.ext' (by simpa using h2))
set_option maxRecDepth 100000 in
theorem door_met (os : Os) (args : Array Value) : laidMet Tryd.prog Rows.arenaLowerBoundRow.laid ((World.doorLaid Tryd.prog 400 os).forCall (fun _ _ => 0) ⟨#[], args, []⟩).memory :=
  laidMet_of_run' 8 (by kernel_rfl) (by kernel_rfl)
set_option maxRecDepth 100000 in
theorem witness_row (os : Os) {H : Type} (enc : TypeId × Value → H) :
    (OpenSpec.ofChange Rows.arenaLowerBoundSpec).preRow enc Tryd.prog Tryd.f6 Rows.arenaLowerBoundRow.domain false Rows.arenaLowerBoundRow.laid ((World.doorLaid Tryd.prog 400 os).forCall (fun _ _ => 0) ⟨#[], #[.slice none 0 0], []⟩).memory #[.slice none 0 0] := by
  have hw : (DataW.whole enc Tryd.prog ((World.doorLaid Tryd.prog 400 os).forCall (fun _ _ => 0) ⟨#[], #[.slice none 0 0], []⟩).memory Tryd.f6.params.toList Rows.arenaLowerBoundSpec.vars false (#[.slice none 0 0] : Array Value).toList 8).map (fun x => (x.1, x.2.1)) = some ([.nil], []) := by kernel_rfl
  obtain ⟨⟨x1, x2, x3⟩, hx, hx1⟩ := Option.map_eq_some_iff.1 hw
  simp only [Prod.mk.injEq] at hx1
  obtain ⟨rfl, rfl⟩ := hx1
  exact OpenSpec.preRow_of_cond 8 hx (by kernel_rfl) (fun k hk => by cases hk) (by kernel_rfl) (door_met os _)
set_option maxRecDepth 100000 in
set_option maxHeartbeats 4000000 in
theorem lifted (os : Os) (started : os.Started) (H : Type) (enc : TypeId × Value → H) (F : Stop.Interp) :
    ReturnsInHanded {} Tryd.checked os 6 .any ((OpenSpec.ofChange Rows.arenaLowerBoundSpec).preRow enc Tryd.prog Tryd.f6 Rows.arenaLowerBoundRow.domain false Rows.arenaLowerBoundRow.laid) (((OpenSpec.ofChange Rows.arenaLowerBoundSpec).at F).post enc Tryd.prog Tryd.f6 false true false false) := by
  refine returnsInHanded_of_row (C := Tryd.checked) (s := OpenSpec.ofChange Rows.arenaLowerBoundSpec) own started (by kernel_rfl) Tryd.func6
    (witness_row_atRef (enc := enc) (C := Tryd.checked) false (World.doorLaid Tryd.prog 400 os) #[.slice none 0 0] rfl (by kernel_rfl) (by kernel_rfl) (by kernel_rfl) (witness_row os enc)) ?_
  intro W base args ds gs before hval0 hW _ hk _ hL _ _
  have hval : ∀ (j : Nat) t v, Tryd.f6.params[j]? = some t → args[j]? = some v → Value.okWide Tryd.prog W .any base t v := hval0
  have hW' := hW
  obtain ⟨p, q, hA0, hV0, rfl, _, _⟩ := hW
  have hA : DataW.TrodAll enc Tryd.prog W 0 (fun _ => true) true Tryd.f6.params.toList args.toList ds p := hA0
  rw [Tryd.params6] at hA hval
  obtain ⟨v0, vs0, d0, ds0, p0, q0, hargs, rfl, rfl, h0, r0⟩ := trodAll_cons hA
  obtain ⟨rfl, rfl, rfl⟩ := trodAll_nil r0
  obtain rfl : args = #[v0] := by cases args; simp_all
  obtain ⟨rfl, rfl⟩ := trodVars_none hV0
  obtain ⟨a0, n0, k0, rfl⟩ := okWide_slice Tryd.underlying22 (hval 0 22 v0 rfl rfl)
  obtain ⟨s0, ⟨A0_1, c0_2, hr0, hf0_0⟩, ok0⟩ := Opn.arg (Opn.sl Tryd.underlying22 (by kernel_rfl) (by decide) opn_37) h0
  replace hr0 : [Value.slice a0 n0 k0] = [(Value.slice A0_1 s0.length c0_2)] := hr0
  simp only [List.cons.injEq, Value.slice.injEq, and_true] at hr0
  obtain ⟨rfl, rfl, rfl⟩ := hr0
  refine (c_law42_ArenaLowerBound noM W (fun _ h => h.elim) s0 a0 k0 ⟨hf0_0, tabs_clSpace hL, trivial⟩ true (law_ArenaLowerBound s0 ok0)).mono fun e W' ⟨he, bel, _⟩ => ?_
  subst he
  have hlt : ∀ x ∈ (p0 ++ [] : List MemPlace), x.block < W.heap.size := fun x hx => hA0.lt x hx
  refine ⟨_, rfl, _, _, _, [], _, [], hW', ?_, ⟨p0, _, Below.trod laidOut (by kernel_rfl) (by decide +kernel) h0 bel (fun x hx => hlt x (List.mem_append_left _ hx)), rfl, rfl⟩, ?_, bel.frame _, fun h => by cases h⟩
  · exact trodAll_mk1 (shut_bool Tryd.underlying4 _)
  · rfl
theorem said : Rows.ArenaLowerBoundSaid :=
  OpenClaim.holds_of_cond 6 Tryd.f6 rfl rfl rfl rfl rfl rfl rfl ⟨rfl, rfl, rfl, rfl, rfl⟩ rfl rfl rfl rfl rfl (by kernel_rfl) Tryd.func6 (by kernel_rfl)
    (of_decide_eq_true (by kernel_rfl)) (by unfold Func.isWrapper; first | (rw [if_pos (by decide +kernel)]; kernel_rfl) | (rw [if_neg (by decide +kernel)]; exact ⟨rfl, rfl⟩))
    (fun os started H enc _ F => by rw [OpenClaim.pre_eq_preRow]; exact lifted os started H enc F)
theorem plain (f : FuncId) (fn : Func) (hf : Tryd.pinned.checked.prog.funcNamed "brocade/brocadelaw42.ArenaLowerBound" = some f) (hfn : Tryd.pinned.checked.prog.funcs[f]? = some fn) :
    false = Tryd.pinned.checked.prog.looks [] ∧ ∀ (j : Nat) t, fn.params[j]? = some t → Tryd.pinned.checked.prog.wantsStandIn t = false := by
      obtain rfl : f = 6 := Option.some.inj ((show Tryd.prog.funcNamed "brocade/brocadelaw42.ArenaLowerBound" = some 6 by kernel_rfl).symm.trans hf) |>.symm
      obtain rfl : fn = Tryd.f6 := (Option.some.inj (Tryd.func6.symm.trans hfn)).symm
      refine ⟨by kernel_rfl, fun j t ht => ?_⟩
      rw [Tryd.params6] at ht
      have hm : t ∈ [22] := by simpa using Array.mem_of_getElem? ht
      exact (show ∀ t ∈ [22], Tryd.prog.wantsStandIn t = false from fun t ht => by
        simp only [List.mem_cons, List.not_mem_nil, or_false] at ht
        rcases ht with rfl <;> kernel_rfl) t hm
theorem card : Rows.ArenaLowerBoundCardSaid :=
      Claim7.holds_tied_plain_at .later [] _ _ _ _ said (fun _ h => by cases h) (by kernel_rfl) (fun _ h => by cases h) arenaLowerBound_row_tie rfl ⟨rfl, rfl⟩ (by kernel_rfl) rfl plain (by kernel_rfl)
end Go.Proofs.YtnehbaocbcegpaaDoor.arenaLowerBound
