/- CollectiveReshardBlocks (brocade/brocadelaw53.CollectiveReshardBlocks): the call returns true for every input of the row, and leaves its arguments as they were. Conditions: those of the given row. -/
import Derived.Test.YtpedfojbfbccaaaGreatRows
import Derived.ProofKit
import Derived.OpenShut
import Derived.Carry
import Derived.LaidMore
import Derived.Deep.DeepHandedRow
import Derived.Deep.DeepWitnessRowRef
import Derived.Lib.LaidTab
import Derived.Lib.LaidU8
import Derived.Test.YtpedfojbfbccaaaGreatSOp
import Derived.Test.YtpedfojbfbccaaaGreatSCQ7d
import Derived.Test.YtpedfojbfbccaaaGreatSXk
namespace Go.Proofs.YtpedfojbfbccaaaGreat.collectiveReshardBlocks
open Go.ChangeShapes Go.WideShapes Go.ChangeAt Go.RowKit Go.Vc
open Go.ChangeMaps (open_string shut_string)
theorem laidOut : laidOutB Tryz.prog = true := by kernel_rfl
theorem own : ownKnob Tryz.prog.godebug = none := by kernel_rfl
set_option maxRecDepth 100000 in
theorem witness_row (os : Os) {H : Type} (enc : TypeId × Value → H) :
    (OpenSpec.ofChange Rows.collectiveReshardBlocksSpec).preRow enc Tryz.prog Tryz.f8 Rows.collectiveReshardBlocksRow.domain false Rows.collectiveReshardBlocksRow.laid ((World.holding Tryz.prog os ⟨#[], #[], []⟩).forCall (fun _ _ => 0) ⟨#[], #[.agg #[.slice none 0 0], .agg #[.int .i64 0, .int .i64 0, .int .i64 0, .int .i64 0, .int .i64 0, .slice none 0 0, .slice none 0 0], .slice none 0 0, .slice none 0 0], []⟩).memory #[.agg #[.slice none 0 0], .agg #[.int .i64 0, .int .i64 0, .int .i64 0, .int .i64 0, .int .i64 0, .slice none 0 0, .slice none 0 0], .slice none 0 0, .slice none 0 0] := by
  have hw : (DataW.whole enc Tryz.prog ((World.holding Tryz.prog os ⟨#[], #[], []⟩).forCall (fun _ _ => 0) ⟨#[], #[.agg #[.slice none 0 0], .agg #[.int .i64 0, .int .i64 0, .int .i64 0, .int .i64 0, .int .i64 0, .slice none 0 0, .slice none 0 0], .slice none 0 0, .slice none 0 0], []⟩).memory Tryz.f8.params.toList Rows.collectiveReshardBlocksSpec.vars false (#[.agg #[.slice none 0 0], .agg #[.int .i64 0, .int .i64 0, .int .i64 0, .int .i64 0, .int .i64 0, .slice none 0 0, .slice none 0 0], .slice none 0 0, .slice none 0 0] : Array Value).toList 8).map (fun x => (x.1, x.2.1)) = some ([.agg [.nil], .agg [.agg [.lit (.int .i64 0), .lit (.int .i64 0), .lit (.int .i64 0), .lit (.int .i64 0), .lit (.int .i64 0)], .nil, .nil], .nil, .nil], []) := by kernel_rfl
  obtain ⟨⟨x1, x2, x3⟩, hx, hx1⟩ := Option.map_eq_some_iff.1 hw
  simp only [Prod.mk.injEq] at hx1
  obtain ⟨rfl, rfl⟩ := hx1
  exact OpenSpec.preRow_of_cond 8 hx (by kernel_rfl) (fun k hk => by cases hk) (by kernel_rfl) (laidMet_nil _ _)
set_option maxRecDepth 100000 in
set_option maxHeartbeats 4000000 in
theorem lifted (os : Os) (started : os.Started) (H : Type) (enc : TypeId × Value → H) (F : Stop.Interp) :
    ReturnsInHanded {} Tryz.checked os 8 .any ((OpenSpec.ofChange Rows.collectiveReshardBlocksSpec).preRow enc Tryz.prog Tryz.f8 Rows.collectiveReshardBlocksRow.domain false Rows.collectiveReshardBlocksRow.laid) (((OpenSpec.ofChange Rows.collectiveReshardBlocksSpec).at F).post enc Tryz.prog Tryz.f8 false true false false) := by
  refine returnsInHanded_of_row (C := Tryz.checked) (s := OpenSpec.ofChange Rows.collectiveReshardBlocksSpec) own started (by kernel_rfl) Tryz.func8
    (witness_row_atRef (enc := enc) (C := Tryz.checked) false (World.holding Tryz.prog os ⟨#[], #[], []⟩) #[.agg #[.slice none 0 0], .agg #[.int .i64 0, .int .i64 0, .int .i64 0, .int .i64 0, .int .i64 0, .slice none 0 0, .slice none 0 0], .slice none 0 0, .slice none 0 0] rfl (by kernel_rfl) (by kernel_rfl) (by kernel_rfl) (witness_row os enc)) ?_
  intro W base args ds gs before hval0 hW _ hk _ hL _ _
  have hval : ∀ (j : Nat) t v, Tryz.f8.params[j]? = some t → args[j]? = some v → Value.okWide Tryz.prog W .any base t v := hval0
  have hW' := hW
  obtain ⟨p, q, hA0, hV0, rfl, _, _⟩ := hW
  have hA : DataW.TrodAll enc Tryz.prog W 0 (fun _ => true) true Tryz.f8.params.toList args.toList ds p := hA0
  rw [Tryz.params8] at hA hval
  obtain ⟨v0, vs0, d0, ds0, p0, q0, hargs, rfl, rfl, h0, r0⟩ := trodAll_cons hA
  obtain ⟨v1, vs1, d1, ds1, p1, q1, rfl, rfl, rfl, h1, r1⟩ := trodAll_cons r0
  obtain ⟨v2, vs2, d2, ds2, p2, q2, rfl, rfl, rfl, h2, r2⟩ := trodAll_cons r1
  obtain ⟨v3, vs3, d3, ds3, p3, q3, rfl, rfl, rfl, h3, r3⟩ := trodAll_cons r2
  obtain ⟨rfl, rfl, rfl⟩ := trodAll_nil r3
  obtain rfl : args = #[v0, v1, v2, v3] := by cases args; simp_all
  obtain ⟨rfl, rfl⟩ := trodVars_none hV0
  obtain ⟨cs0, rfl⟩ := okAgg (by rw [Tryz.underlying24]) (hval 0 24 v0 rfl rfl)
  obtain ⟨s0, hr0, ok0⟩ := Opn.arg opn_24 h0
  obtain ⟨A0_1, c0_2, hr0, hf0_0⟩ := hr0
  obtain rfl : cs0 = #[(Value.slice A0_1 s0.Dims.length c0_2)] := Array.toList_inj.1 hr0
  obtain ⟨cs1, rfl⟩ := okAgg (by rw [Tryz.underlying41]) (hval 1 41 v1 rfl rfl)
  obtain ⟨s1, hr1, ok1⟩ := Opn.arg opn_41 h1
  obtain ⟨A1_1, c1_2, A1_3, c1_4, hr1, hf1_0, hf1_1⟩ := hr1
  obtain rfl : cs1 = #[(Value.int .i64 s1.Type_.Kind), (Value.int .i64 s1.Type_.Bits), (Value.int .i64 s1.Type_.Frac), (Value.int .i64 s1.Type_.Round), (Value.int .i64 s1.Type_.Over), (Value.slice A1_1 s1.Dims.length c1_2), (Value.slice A1_3 s1.Vals.length c1_4)] := Array.toList_inj.1 hr1
  obtain ⟨a2, n2, k2, rfl⟩ := okWide_slice Tryz.underlying42 (hval 2 42 v2 rfl rfl)
  obtain ⟨s2, ⟨A2_1, c2_2, hr2, hf2_0⟩, ok2⟩ := Opn.arg (Opn.sl Tryz.underlying42 (by kernel_rfl) (by decide) (Opn.int Tryz.underlying3)) h2
  replace hr2 : [Value.slice a2 n2 k2] = [(Value.slice A2_1 s2.length c2_2)] := hr2
  simp only [List.cons.injEq, Value.slice.injEq, and_true] at hr2
  obtain ⟨rfl, rfl, rfl⟩ := hr2
  obtain ⟨a3, n3, k3, rfl⟩ := okWide_slice Tryz.underlying42 (hval 3 42 v3 rfl rfl)
  obtain ⟨s3, ⟨A3_1, c3_2, hr3, hf3_0⟩, ok3⟩ := Opn.arg (Opn.sl Tryz.underlying42 (by kernel_rfl) (by decide) (Opn.int Tryz.underlying3)) h3
  replace hr3 : [Value.slice a3 n3 k3] = [(Value.slice A3_1 s3.length c3_2)] := hr3
  simp only [List.cons.injEq, Value.slice.injEq, and_true] at hr3
  obtain ⟨rfl, rfl, rfl⟩ := hr3
  refine (c_law53_CollectiveReshardBlocks noM W (fun _ h => h.elim) s0 s1 s2 s3 A0_1 c0_2 A1_1 c1_2 A1_3 c1_4 a2 k2 a3 k3 ⟨hf0_0, hf1_0, hf1_1, hf2_0, hf3_0, trivial⟩ true (law_CollectiveReshardBlocks s0 s1 s2 s3 ok0 ok1 ok2 ok3)).mono fun e W' ⟨he, bel, _⟩ => ?_
  subst he
  have hlt : ∀ x ∈ (p0 ++ (p1 ++ (p2 ++ (p3 ++ []))) : List MemPlace), x.block < W.heap.size := fun x hx => hA0.lt x hx
  refine ⟨_, rfl, _, _, _, [], _, [], hW', ?_, ⟨p0, _, Below.trod laidOut (by kernel_rfl) (by decide +kernel) h0 bel (fun x hx => hlt x (List.mem_append_left _ hx)), ⟨p1, _, Below.trod laidOut (by kernel_rfl) (by decide +kernel) h1 bel (fun x hx => hlt x (List.mem_append_right _ (List.mem_append_left _ hx))), ⟨p2, _, Below.trod laidOut (by kernel_rfl) (by decide +kernel) h2 bel (fun x hx => hlt x (List.mem_append_right _ (List.mem_append_right _ (List.mem_append_left _ hx)))), ⟨p3, _, Below.trod laidOut (by kernel_rfl) (by decide +kernel) h3 bel (fun x hx => hlt x (List.mem_append_right _ (List.mem_append_right _ (List.mem_append_right _ (List.mem_append_left _ hx))))), rfl, rfl⟩, rfl⟩, rfl⟩, rfl⟩, ?_, bel.frame _, fun h => by cases h⟩
  · exact trodAll_mk1 (shut_bool Tryz.underlying4 _)
  · rfl
theorem said : Rows.CollectiveReshardBlocksSaid :=
  OpenClaim.holds_of_cond 8 Tryz.f8 rfl rfl rfl rfl rfl rfl rfl ⟨rfl, rfl, rfl, rfl, rfl⟩ rfl rfl rfl rfl rfl (by kernel_rfl) Tryz.func8 (by kernel_rfl)
    (of_decide_eq_true (by kernel_rfl)) (by unfold Func.isWrapper; first | (rw [if_pos (by decide +kernel)]; kernel_rfl) | (rw [if_neg (by decide +kernel)]; exact ⟨rfl, rfl⟩))
    (fun os started H enc _ F => by rw [OpenClaim.pre_eq_preRow]; exact lifted os started H enc F)
end Go.Proofs.YtpedfojbfbccaaaGreat.collectiveReshardBlocks
