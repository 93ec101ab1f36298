/- FracRingLaws (brocade/brocadelaw01.FracRingLaws): the call returns true for every input of the row, and leaves its arguments as they were. Conditions: those of the given row. -/
import Derived.Test.YtkmenmoiagkegaaDoorCards
import Derived.Test.YtkmenmoiagkegaaDoorTie
import Derived.ProofKit
import Derived.OpenShut
import Derived.Carry
import Derived.LaidMore
import Derived.Deep.DeepHandedRow
import Derived.Deep.DeepWitnessRowRef
import Derived.Lib.LaidTab
import Derived.Lib.LaidU8
import Derived.Test.YtkmenmoiagkegaaDoorOp
import Derived.Test.YtkmenmoiagkegaaDoorCtd
import Derived.Test.YtkmenmoiagkegaaDoorFd
namespace Go.Proofs.YtkmenmoiagkegaaDoor.fracRingLaws
open Go.ChangeShapes Go.WideShapes Go.ChangeAt Go.RowKit Go.Vc
open Go.ChangeMaps (open_string shut_string)
theorem laidOut : laidOutB Tryd.prog = true := by kernel_rfl
theorem own : ownKnob Tryd.prog.godebug = none := by kernel_rfl
set_option maxRecDepth 100000 in
theorem door_met (os : Os) (args : Array Value) : laidMet Tryd.prog Rows.fracRingLawsRow.laid ((World.doorLaid Tryd.prog 400 os).forCall (fun _ _ => 0) ⟨#[], args, []⟩).memory :=
  laidMet_of_run' 8 (by kernel_rfl) (by kernel_rfl)
set_option maxRecDepth 100000 in
theorem witness_row (os : Os) {H : Type} (enc : TypeId × Value → H) :
    (OpenSpec.ofChange Rows.fracRingLawsSpec).preRow enc Tryd.prog Tryd.f9 Rows.fracRingLawsRow.domain false Rows.fracRingLawsRow.laid ((World.doorLaid Tryd.prog 400 os).forCall (fun _ _ => 0) ⟨#[], #[.agg #[.int .i64 0, .int .i64 0], .agg #[.int .i64 0, .int .i64 0], .agg #[.int .i64 0, .int .i64 0]], []⟩).memory #[.agg #[.int .i64 0, .int .i64 0], .agg #[.int .i64 0, .int .i64 0], .agg #[.int .i64 0, .int .i64 0]] := by
  have hw : (DataW.whole enc Tryd.prog ((World.doorLaid Tryd.prog 400 os).forCall (fun _ _ => 0) ⟨#[], #[.agg #[.int .i64 0, .int .i64 0], .agg #[.int .i64 0, .int .i64 0], .agg #[.int .i64 0, .int .i64 0]], []⟩).memory Tryd.f9.params.toList Rows.fracRingLawsSpec.vars false (#[.agg #[.int .i64 0, .int .i64 0], .agg #[.int .i64 0, .int .i64 0], .agg #[.int .i64 0, .int .i64 0]] : Array Value).toList 8).map (fun x => (x.1, x.2.1)) = some ([.agg [.lit (.int .i64 0), .lit (.int .i64 0)], .agg [.lit (.int .i64 0), .lit (.int .i64 0)], .agg [.lit (.int .i64 0), .lit (.int .i64 0)]], []) := by kernel_rfl
  obtain ⟨⟨x1, x2, x3⟩, hx, hx1⟩ := Option.map_eq_some_iff.1 hw
  simp only [Prod.mk.injEq] at hx1
  obtain ⟨rfl, rfl⟩ := hx1
  exact OpenSpec.preRow_of_cond 8 hx (by kernel_rfl) (fun k hk => by cases hk) (by kernel_rfl) (door_met os _)
set_option maxRecDepth 100000 in
set_option maxHeartbeats 4000000 in
theorem lifted (os : Os) (started : os.Started) (H : Type) (enc : TypeId × Value → H) (F : Stop.Interp) :
    ReturnsInHanded {} Tryd.checked os 9 .any ((OpenSpec.ofChange Rows.fracRingLawsSpec).preRow enc Tryd.prog Tryd.f9 Rows.fracRingLawsRow.domain false Rows.fracRingLawsRow.laid) (((OpenSpec.ofChange Rows.fracRingLawsSpec).at F).post enc Tryd.prog Tryd.f9 false true false false) := by
  refine returnsInHanded_of_row (C := Tryd.checked) (s := OpenSpec.ofChange Rows.fracRingLawsSpec) own started (by kernel_rfl) Tryd.func9
    (witness_row_atRef (enc := enc) (C := Tryd.checked) false (World.doorLaid Tryd.prog 400 os) #[.agg #[.int .i64 0, .int .i64 0], .agg #[.int .i64 0, .int .i64 0], .agg #[.int .i64 0, .int .i64 0]] rfl (by kernel_rfl) (by kernel_rfl) (by kernel_rfl) (witness_row os enc)) ?_
  intro W base args ds gs before hval0 hW _ hk _ hL _ _
  have hval : ∀ (j : Nat) t v, Tryd.f9.params[j]? = some t → args[j]? = some v → Value.okWide Tryd.prog W .any base t v := hval0
  have hW' := hW
  obtain ⟨p, q, hA0, hV0, rfl, _, _⟩ := hW
  have hA : DataW.TrodAll enc Tryd.prog W 0 (fun _ => true) true Tryd.f9.params.toList args.toList ds p := hA0
  rw [Tryd.params9] at hA hval
  obtain ⟨v0, vs0, d0, ds0, p0, q0, hargs, rfl, rfl, h0, r0⟩ := trodAll_cons hA
  obtain ⟨v1, vs1, d1, ds1, p1, q1, rfl, rfl, rfl, h1, r1⟩ := trodAll_cons r0
  obtain ⟨v2, vs2, d2, ds2, p2, q2, rfl, rfl, rfl, h2, r2⟩ := trodAll_cons r1
  obtain ⟨rfl, rfl, rfl⟩ := trodAll_nil r2
  obtain rfl : args = #[v0, v1, v2] := by cases args; simp_all
  obtain ⟨rfl, rfl⟩ := trodVars_none hV0
  obtain ⟨cs0, rfl⟩ := okAgg (by rw [Tryd.underlying23]) (hval 0 23 v0 rfl rfl)
  obtain ⟨s0, hr0, ok0⟩ := Opn.arg opn_23 h0
  obtain rfl : cs0 = #[(Value.int .i64 s0.N), (Value.int .i64 s0.D)] := Array.toList_inj.1 hr0
  obtain ⟨cs1, rfl⟩ := okAgg (by rw [Tryd.underlying23]) (hval 1 23 v1 rfl rfl)
  obtain ⟨s1, hr1, ok1⟩ := Opn.arg opn_23 h1
  obtain rfl : cs1 = #[(Value.int .i64 s1.N), (Value.int .i64 s1.D)] := Array.toList_inj.1 hr1
  obtain ⟨cs2, rfl⟩ := okAgg (by rw [Tryd.underlying23]) (hval 2 23 v2 rfl rfl)
  obtain ⟨s2, hr2, ok2⟩ := Opn.arg opn_23 h2
  obtain rfl : cs2 = #[(Value.int .i64 s2.N), (Value.int .i64 s2.D)] := Array.toList_inj.1 hr2
  refine (c_law01_FracRingLaws noM W (fun _ h => h.elim) s0 s1 s2 trivial true (law_FracRingLaws s0 s1 s2 ok0 ok1 ok2)).mono fun e W' ⟨he, bel, _⟩ => ?_
  subst he
  have hlt : ∀ x ∈ p0 ++ (p1 ++ (p2 ++ [])), x.block < W.heap.size := fun x hx => hA0.lt x hx
  refine ⟨_, rfl, _, _, _, [], _, [], hW', ?_, ⟨p0, _, Below.trod laidOut (by kernel_rfl) (by decide +kernel) h0 bel (fun x hx => hlt x (List.mem_append_left _ hx)), ⟨p1, _, Below.trod laidOut (by kernel_rfl) (by decide +kernel) h1 bel (fun x hx => hlt x (List.mem_append_right _ (List.mem_append_left _ hx))), ⟨p2, _, Below.trod laidOut (by kernel_rfl) (by decide +kernel) h2 bel (fun x hx => hlt x (List.mem_append_right _ (List.mem_append_right _ (List.mem_append_left _ hx)))), rfl, rfl⟩, rfl⟩, rfl⟩, ?_, bel.frame _, fun h => by cases h⟩
  · exact trodAll_mk1 (shut_bool Tryd.underlying4 _)
  · rfl
theorem said : Rows.FracRingLawsSaid :=
  OpenClaim.holds_of_cond 9 Tryd.f9 rfl rfl rfl rfl rfl rfl rfl ⟨rfl, rfl, rfl, rfl, rfl⟩ rfl rfl rfl rfl rfl (by kernel_rfl) Tryd.func9 (by kernel_rfl)
    (of_decide_eq_true (by kernel_rfl)) (by unfold Func.isWrapper; first | (rw [if_pos (by decide +kernel)]; kernel_rfl) | (rw [if_neg (by decide +kernel)]; exact ⟨rfl, rfl⟩))
    (fun os started H enc _ F => by rw [OpenClaim.pre_eq_preRow]; exact lifted os started H enc F)
theorem plain (f : FuncId) (fn : Func) (hf : Tryd.pinned.checked.prog.funcNamed "brocade/brocadelaw01.FracRingLaws" = some f) (hfn : Tryd.pinned.checked.prog.funcs[f]? = some fn) :
    true = Tryd.pinned.checked.prog.looks [] ∧ ∀ (j : Nat) t, fn.params[j]? = some t → Tryd.pinned.checked.prog.wantsStandIn t = false := by
  obtain rfl : f = 9 := Option.some.inj ((show Tryd.prog.funcNamed "brocade/brocadelaw01.FracRingLaws" = some 9 by kernel_rfl).symm.trans hf) |>.symm
  obtain rfl : fn = Tryd.f9 := (Option.some.inj (Tryd.func9.symm.trans hfn)).symm
  refine ⟨by kernel_rfl, fun j t ht => ?_⟩
  rw [Tryd.params9] at ht
  have hm : t ∈ [23] := by simpa using Array.mem_of_getElem? ht
  exact (show ∀ t ∈ [23], Tryd.prog.wantsStandIn t = false from fun t ht => by
    simp only [List.mem_cons, List.not_mem_nil, or_false] at ht
    rcases ht with rfl <;> kernel_rfl) t hm
theorem card : Rows.FracRingLawsCardSaid :=
  Claim7.holds_tied_plain_at .later [] _ _ _ _ said (fun _ h => by cases h) (by kernel_rfl) (fun _ h => by cases h) fracRingLaws_row_tie rfl ⟨rfl, rfl⟩ (by kernel_rfl) rfl plain (by kernel_rfl)
end Go.Proofs.YtkmenmoiagkegaaDoor.fracRingLaws
