/- AffineCompose (brocade/brocadelaw10.AffineCompose): the call returns true for every input of the row, and leaves its arguments as they were. Conditions: those of the given row. -/
import Derived.Test.YtaokohndeepbjaaRows
import Derived.ProofKit
import Derived.OpenShut
import Derived.Carry
import Derived.LaidMore
import Derived.Deep.DeepHandedRow
import Derived.Deep.DeepWitnessRowRef
import Derived.Lib.LaidTab
import Derived.Lib.LaidU8
import Derived.Test.YtaokohndeepbjaaSOp
import Derived.Test.YtaokohndeepbjaaSCtc
import Derived.Test.YtaokohndeepbjaaSWk
namespace Go.Proofs.Ytaokohndeepbjaa.affineCompose
open Go.ChangeShapes Go.WideShapes Go.ChangeAt Go.RowKit Go.Vc
open Go.ChangeMaps (open_string shut_string)
theorem laidOut : laidOutB Try.prog = true := by kernel_rfl
theorem own : ownKnob Try.prog.godebug = none := by kernel_rfl
set_option maxRecDepth 100000 in
theorem witness_row (os : Os) {H : Type} (enc : TypeId × Value → H) :
    (OpenSpec.ofChange Rows.affineComposeSpec).preRow enc Try.prog Try.f5 Rows.affineComposeRow.domain false Rows.affineComposeRow.laid ((World.holding Try.prog os ⟨#[], #[], []⟩).forCall (fun _ _ => 0) ⟨#[], #[.slice none 0 0, .slice none 0 0, .slice none 0 0], []⟩).memory #[.slice none 0 0, .slice none 0 0, .slice none 0 0] := by
  have hw : (DataW.whole enc Try.prog ((World.holding Try.prog os ⟨#[], #[], []⟩).forCall (fun _ _ => 0) ⟨#[], #[.slice none 0 0, .slice none 0 0, .slice none 0 0], []⟩).memory Try.f5.params.toList Rows.affineComposeSpec.vars false (#[.slice none 0 0, .slice none 0 0, .slice none 0 0] : Array Value).toList 8).map (fun x => (x.1, x.2.1)) = some ([.nil, .nil, .nil], []) := by kernel_rfl
  obtain ⟨⟨x1, x2, x3⟩, hx, hx1⟩ := Option.map_eq_some_iff.1 hw
  simp only [Prod.mk.injEq] at hx1
  obtain ⟨rfl, rfl⟩ := hx1
  exact OpenSpec.preRow_of_cond 8 hx (by kernel_rfl) (fun k hk => by cases hk) (by kernel_rfl) (laidMet_nil _ _)
set_option maxRecDepth 100000 in
set_option maxHeartbeats 4000000 in
theorem lifted (os : Os) (started : os.Started) (H : Type) (enc : TypeId × Value → H) (F : Stop.Interp) :
    ReturnsInHanded {} Try.checked os 5 .any ((OpenSpec.ofChange Rows.affineComposeSpec).preRow enc Try.prog Try.f5 Rows.affineComposeRow.domain false Rows.affineComposeRow.laid) (((OpenSpec.ofChange Rows.affineComposeSpec).at F).post enc Try.prog Try.f5 false true false false) := by
  refine returnsInHanded_of_row (C := Try.checked) (s := OpenSpec.ofChange Rows.affineComposeSpec) own started (by kernel_rfl) Try.func5
    (witness_row_atRef (enc := enc) (C := Try.checked) false (World.holding Try.prog os ⟨#[], #[], []⟩) #[.slice none 0 0, .slice none 0 0, .slice none 0 0] rfl (by kernel_rfl) (by kernel_rfl) (by kernel_rfl) (witness_row os enc)) ?_
  intro W base args ds gs before hval0 hW _ hk _ hL _ _
  have hval : ∀ (j : Nat) t v, Try.f5.params[j]? = some t → args[j]? = some v → Value.okWide Try.prog W .any base t v := hval0
  have hW' := hW
  obtain ⟨p, q, hA0, hV0, rfl, _, _⟩ := hW
  have hA : DataW.TrodAll enc Try.prog W 0 (fun _ => true) true Try.f5.params.toList args.toList ds p := hA0
  rw [Try.params5] at hA hval
  obtain ⟨v0, vs0, d0, ds0, p0, q0, hargs, rfl, rfl, h0, r0⟩ := trodAll_cons hA
  obtain ⟨v1, vs1, d1, ds1, p1, q1, rfl, rfl, rfl, h1, r1⟩ := trodAll_cons r0
  obtain ⟨v2, vs2, d2, ds2, p2, q2, rfl, rfl, rfl, h2, r2⟩ := trodAll_cons r1
  obtain ⟨rfl, rfl, rfl⟩ := trodAll_nil r2
  obtain rfl : args = #[v0, v1, v2] := by cases args; simp_all
  obtain ⟨rfl, rfl⟩ := trodVars_none hV0
  obtain ⟨a0, n0, k0, rfl⟩ := okWide_slice Try.underlying22 (hval 0 22 v0 rfl rfl)
  obtain ⟨s0, ⟨A0_1, c0_2, hr0, hf0_0⟩, ok0⟩ := Opn.arg (Opn.sl Try.underlying22 (by kernel_rfl) (by decide) opn_51) h0
  replace hr0 : [Value.slice a0 n0 k0] = [(Value.slice A0_1 s0.length c0_2)] := hr0
  simp only [List.cons.injEq, Value.slice.injEq, and_true] at hr0
  obtain ⟨rfl, rfl, rfl⟩ := hr0
  obtain ⟨a1, n1, k1, rfl⟩ := okWide_slice Try.underlying23 (hval 1 23 v1 rfl rfl)
  obtain ⟨s1, ⟨A1_1, c1_2, hr1, hf1_0⟩, ok1⟩ := Opn.arg (Opn.sl Try.underlying23 (by kernel_rfl) (by decide) (Opn.str Try.underlying9)) h1
  replace hr1 : [Value.slice a1 n1 k1] = [(Value.slice A1_1 s1.length c1_2)] := hr1
  simp only [List.cons.injEq, Value.slice.injEq, and_true] at hr1
  obtain ⟨rfl, rfl, rfl⟩ := hr1
  obtain ⟨a2, n2, k2, rfl⟩ := okWide_slice Try.underlying22 (hval 2 22 v2 rfl rfl)
  obtain ⟨s2, ⟨A2_1, c2_2, hr2, hf2_0⟩, ok2⟩ := Opn.arg (Opn.sl Try.underlying22 (by kernel_rfl) (by decide) opn_51) h2
  replace hr2 : [Value.slice a2 n2 k2] = [(Value.slice A2_1 s2.length c2_2)] := hr2
  simp only [List.cons.injEq, Value.slice.injEq, and_true] at hr2
  obtain ⟨rfl, rfl, rfl⟩ := hr2
  refine (c_law10_AffineCompose noM W (fun _ h => h.elim) s0 s1 s2 a0 k0 a1 k1 a2 k2 ⟨hf0_0, hf1_0, hf2_0, trivial⟩ true (law_AffineCompose s0 s1 s2 ok0 ok1 ok2)).mono fun e W' ⟨he, bel, _⟩ => ?_
  subst he
  have hlt : ∀ x ∈ (p0 ++ (p1 ++ (p2 ++ [])) : List MemPlace), x.block < W.heap.size := fun x hx => hA0.lt x hx
  refine ⟨_, rfl, _, _, _, [], _, [], hW', ?_, ⟨p0, _, Below.trod laidOut (by kernel_rfl) (by decide +kernel) h0 bel (fun x hx => hlt x (List.mem_append_left _ hx)), ⟨p1, _, Below.trod laidOut (by kernel_rfl) (by decide +kernel) h1 bel (fun x hx => hlt x (List.mem_append_right _ (List.mem_append_left _ hx))), ⟨p2, _, Below.trod laidOut (by kernel_rfl) (by decide +kernel) h2 bel (fun x hx => hlt x (List.mem_append_right _ (List.mem_append_right _ (List.mem_append_left _ hx)))), rfl, rfl⟩, rfl⟩, rfl⟩, ?_, bel.frame _, fun h => by cases h⟩
  · exact trodAll_mk1 (shut_bool Try.underlying4 _)
  · rfl
theorem said : Rows.AffineComposeSaid :=
  OpenClaim.holds_of_cond 5 Try.f5 rfl rfl rfl rfl rfl rfl rfl ⟨rfl, rfl, rfl, rfl, rfl⟩ rfl rfl rfl rfl rfl (by kernel_rfl) Try.func5 (by kernel_rfl)
    (of_decide_eq_true (by kernel_rfl)) (by unfold Func.isWrapper; first | (rw [if_pos (by decide +kernel)]; kernel_rfl) | (rw [if_neg (by decide +kernel)]; exact ⟨rfl, rfl⟩))
    (fun os started H enc _ F => by rw [OpenClaim.pre_eq_preRow]; exact lifted os started H enc F)
end Go.Proofs.Ytaokohndeepbjaa.affineCompose
