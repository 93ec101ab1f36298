/-
  No cell of these rows narrows 'for every input' (looked for: loops, veiled, ifaces, maps, wideKeys, modest, calm, conditions, laid).
  DERIVED. THE GIVEN ROWS OF THIS SEAT. 6 by the template 'for every input the law returns true; each argument reads behind the call as it read before'; 0 by the template 'total and deterministic' (their statements: YtpedfojbfbccaaaGreatTotals.lean).
  GIVEN WITH THE SEED: the statements are not yours to turn. If you find one false, say at which input.
  Laid BY PROGRAM, IN A SANDBOX (cutbox-rows.mjs): the forced cells as the released guide's own fill.sh prints them over the translation 62135bbf96514a1b… (all of the seat's roots in one cut). By AI agents, Wed Nov 11 2026. No macro, syntax, notation, axiom, sorry.
-/
import Derived.Test.YtpedfojbfbccaaaGreatChecked
import GoSem.Claim
import GoSem.ClaimJoined
import GoSem.ClaimMapViews
import Derived.JoinedTies
import Derived.KernelRfl
namespace Go.Proofs.YtpedfojbfbccaaaGreat
/- THE CELL 'sum', in the pinned program and in every row, IS THE sha256 OF THE DUMP (.gsa) THAT YtpedfojbfbccaaaGreatProg.lean LOADS. Nothing in Lean hashes anything: it is a label: what it is worth is what the hold of that sum in a sandbox is worth. -/
noncomputable def Tryz.pinned : Pinned := { name := "ytpedfojbfbccaaagreat", sum := "62135bbf96514a1b496cbb5e233f1477c163d77c5921564c27396e8deae0de85", checked := Tryz.checked }
namespace Rows
def none {H : Type} : Left H := { results := [], args := [] }

/-- 'brocadelaw53.CollectiveGathers': WHATEVER THE INPUT: true; the input reads as it did. -/
def collectiveGathersSpec : ChangeSpec := { name := "collectiveGathers", fn := fun _ => fun
  | [d1, d2, d3, d4] => { results := [.lit (.bool true)], args := [d1, d2, d3, d4] }
  | _ => none }
def collectiveGathersRow : OpenClaim := { program := "ytpedfojbfbccaaagreat", sum := "62135bbf96514a1b496cbb5e233f1477c163d77c5921564c27396e8deae0de85", func := "brocade/brocadelaw53.CollectiveGathers", spec := "collectiveGathers", unfollowed := true, recurses := true, apart := false }
def CollectiveGathersSaid : Prop := collectiveGathersRow.holds Tryz.pinned (OpenSpec.ofChange collectiveGathersSpec)

/-- ITS FALSE NEIGHBOUR: 'it returns false'. Refute it at one input. -/
def collectiveGathersWrong : ChangeSpec := { name := "collectiveGathers", fn := fun _ => fun
  | [d1, d2, d3, d4] => { results := [.lit (.bool false)], args := [d1, d2, d3, d4] }
  | _ => none }
def CollectiveGathersWrongFalsely : Prop := collectiveGathersRow.holds Tryz.pinned (OpenSpec.ofChange collectiveGathersWrong)

/-- 'brocadelaw53.CollectiveReduces': WHATEVER THE INPUT: true; the input reads as it did. -/
def collectiveReducesSpec : ChangeSpec := { name := "collectiveReduces", fn := fun _ => fun
  | [d1, d2, d3, d4, d5] => { results := [.lit (.bool true)], args := [d1, d2, d3, d4, d5] }
  | _ => none }
def collectiveReducesRow : OpenClaim := { program := "ytpedfojbfbccaaagreat", sum := "62135bbf96514a1b496cbb5e233f1477c163d77c5921564c27396e8deae0de85", func := "brocade/brocadelaw53.CollectiveReduces", spec := "collectiveReduces", unfollowed := true, recurses := true, apart := false }
def CollectiveReducesSaid : Prop := collectiveReducesRow.holds Tryz.pinned (OpenSpec.ofChange collectiveReducesSpec)

/-- ITS FALSE NEIGHBOUR: 'it returns false'. Refute it at one input. -/
def collectiveReducesWrong : ChangeSpec := { name := "collectiveReduces", fn := fun _ => fun
  | [d1, d2, d3, d4, d5] => { results := [.lit (.bool false)], args := [d1, d2, d3, d4, d5] }
  | _ => none }
def CollectiveReducesWrongFalsely : Prop := collectiveReducesRow.holds Tryz.pinned (OpenSpec.ofChange collectiveReducesWrong)

/-- 'brocadelaw53.CollectiveInverse': WHATEVER THE INPUT: true; the input reads as it did. -/
def collectiveInverseSpec : ChangeSpec := { name := "collectiveInverse", fn := fun _ => fun
  | [d1, d2, d3, d4] => { results := [.lit (.bool true)], args := [d1, d2, d3, d4] }
  | _ => none }
def collectiveInverseRow : OpenClaim := { program := "ytpedfojbfbccaaagreat", sum := "62135bbf96514a1b496cbb5e233f1477c163d77c5921564c27396e8deae0de85", func := "brocade/brocadelaw53.CollectiveInverse", spec := "collectiveInverse", unfollowed := true, recurses := true, apart := false }
def CollectiveInverseSaid : Prop := collectiveInverseRow.holds Tryz.pinned (OpenSpec.ofChange collectiveInverseSpec)

/-- ITS FALSE NEIGHBOUR: 'it returns false'. Refute it at one input. -/
def collectiveInverseWrong : ChangeSpec := { name := "collectiveInverse", fn := fun _ => fun
  | [d1, d2, d3, d4] => { results := [.lit (.bool false)], args := [d1, d2, d3, d4] }
  | _ => none }
def CollectiveInverseWrongFalsely : Prop := collectiveInverseRow.holds Tryz.pinned (OpenSpec.ofChange collectiveInverseWrong)

/-- 'brocadelaw53.CollectiveExchanges': WHATEVER THE INPUT: true; the input reads as it did. -/
def collectiveExchangesSpec : ChangeSpec := { name := "collectiveExchanges", fn := fun _ => fun
  | [d1, d2, d3, d4, d5] => { results := [.lit (.bool true)], args := [d1, d2, d3, d4, d5] }
  | _ => none }
def collectiveExchangesRow : OpenClaim := { program := "ytpedfojbfbccaaagreat", sum := "62135bbf96514a1b496cbb5e233f1477c163d77c5921564c27396e8deae0de85", func := "brocade/brocadelaw53.CollectiveExchanges", spec := "collectiveExchanges", unfollowed := true, recurses := true, apart := false }
def CollectiveExchangesSaid : Prop := collectiveExchangesRow.holds Tryz.pinned (OpenSpec.ofChange collectiveExchangesSpec)

/-- ITS FALSE NEIGHBOUR: 'it returns false'. Refute it at one input. -/
def collectiveExchangesWrong : ChangeSpec := { name := "collectiveExchanges", fn := fun _ => fun
  | [d1, d2, d3, d4, d5] => { results := [.lit (.bool false)], args := [d1, d2, d3, d4, d5] }
  | _ => none }
def CollectiveExchangesWrongFalsely : Prop := collectiveExchangesRow.holds Tryz.pinned (OpenSpec.ofChange collectiveExchangesWrong)

/-- 'brocadelaw53.CollectiveReshards': WHATEVER THE INPUT: true; the input reads as it did. -/
def collectiveReshardsSpec : ChangeSpec := { name := "collectiveReshards", fn := fun _ => fun
  | [d1, d2, d3, d4] => { results := [.lit (.bool true)], args := [d1, d2, d3, d4] }
  | _ => none }
def collectiveReshardsRow : OpenClaim := { program := "ytpedfojbfbccaaagreat", sum := "62135bbf96514a1b496cbb5e233f1477c163d77c5921564c27396e8deae0de85", func := "brocade/brocadelaw53.CollectiveReshards", spec := "collectiveReshards", unfollowed := true, recurses := true, apart := false }
def CollectiveReshardsSaid : Prop := collectiveReshardsRow.holds Tryz.pinned (OpenSpec.ofChange collectiveReshardsSpec)

/-- ITS FALSE NEIGHBOUR: 'it returns false'. Refute it at one input. -/
def collectiveReshardsWrong : ChangeSpec := { name := "collectiveReshards", fn := fun _ => fun
  | [d1, d2, d3, d4] => { results := [.lit (.bool false)], args := [d1, d2, d3, d4] }
  | _ => none }
def CollectiveReshardsWrongFalsely : Prop := collectiveReshardsRow.holds Tryz.pinned (OpenSpec.ofChange collectiveReshardsWrong)

/-- 'brocadelaw53.CollectiveReshardBlocks': WHATEVER THE INPUT: true; the input reads as it did. -/
def collectiveReshardBlocksSpec : ChangeSpec := { name := "collectiveReshardBlocks", fn := fun _ => fun
  | [d1, d2, d3, d4] => { results := [.lit (.bool true)], args := [d1, d2, d3, d4] }
  | _ => none }
def collectiveReshardBlocksRow : OpenClaim := { program := "ytpedfojbfbccaaagreat", sum := "62135bbf96514a1b496cbb5e233f1477c163d77c5921564c27396e8deae0de85", func := "brocade/brocadelaw53.CollectiveReshardBlocks", spec := "collectiveReshardBlocks", unfollowed := true, recurses := true, apart := false }
def CollectiveReshardBlocksSaid : Prop := collectiveReshardBlocksRow.holds Tryz.pinned (OpenSpec.ofChange collectiveReshardBlocksSpec)

/-- ITS FALSE NEIGHBOUR: 'it returns false'. Refute it at one input. -/
def collectiveReshardBlocksWrong : ChangeSpec := { name := "collectiveReshardBlocks", fn := fun _ => fun
  | [d1, d2, d3, d4] => { results := [.lit (.bool false)], args := [d1, d2, d3, d4] }
  | _ => none }
def CollectiveReshardBlocksWrongFalsely : Prop := collectiveReshardBlocksRow.holds Tryz.pinned (OpenSpec.ofChange collectiveReshardBlocksWrong)

/- THE SECOND FORM. 'bulk': how many values and letters a reading holds, each counted each time it is reached (what is shared counts as often as it is met; a slice's spare places count too). A statement '..UptoSaid' is the law's where the arguments, and the package variables that the reading takes, are together of bulk at most 1048576: NARROWER than '..Said'. Prove '..Said' where nothing that the law and all that it calls make is longer than what came in: it says more and counts as full. Else prove '..UptoSaid'. A law counts once. -/
mutual
def uptoBulk {H : Type} : DataW H → Nat
  | .lit (.string bytes) => bytes.length + 1
  | .lit _ => 1
  | .nil => 1
  | .ptr d => uptoBulk d + 1
  | .slice elems spare => uptoBulkAll elems + uptoBulkAll spare + 1
  | .agg parts => uptoBulkAll parts + 1
  | .iface _ d => uptoBulk d + 1
  | .map entries => uptoBulkEntries entries + 1
  | .held _ => 1
def uptoBulkAll {H : Type} : List (DataW H) → Nat
  | [] => 0
  | d :: r => uptoBulk d + uptoBulkAll r
def uptoBulkEntries {H : Type} : List (Lit × DataW H) → Nat
  | [] => 0
  | x :: r => uptoBulkEntry x + uptoBulkEntries r
def uptoBulkEntry {H : Type} : Lit × DataW H → Nat
  | (.string bytes, d) => bytes.length + uptoBulk d + 1
  | (_, d) => uptoBulk d + 1
 end
def uptoSmall : (H : Type) → List (DataW H) → Bool := fun _ ds => decide (uptoBulkAll ds ≤ 1048576)
def OpenSpec.upto (s : _root_.Go.ChangeSpec) : _root_.Go.OpenSpec := { _root_.Go.OpenSpec.ofChange s with cond := some uptoSmall }

/-- 'brocadelaw53.CollectiveGathers', WHERE WHAT IT READS IS OF BULK AT MOST 1048576: true; the input reads as it did. -/
def collectiveGathersUptoRow : OpenClaim := { program := "ytpedfojbfbccaaagreat", sum := "62135bbf96514a1b496cbb5e233f1477c163d77c5921564c27396e8deae0de85", func := "brocade/brocadelaw53.CollectiveGathers", spec := "collectiveGathers", unfollowed := true, recurses := true, apart := false, narrowed := true }
def CollectiveGathersUptoSaid : Prop := collectiveGathersUptoRow.holds Tryz.pinned (OpenSpec.upto collectiveGathersSpec)

/-- 'brocadelaw53.CollectiveReduces', WHERE WHAT IT READS IS OF BULK AT MOST 1048576: true; the input reads as it did. -/
def collectiveReducesUptoRow : OpenClaim := { program := "ytpedfojbfbccaaagreat", sum := "62135bbf96514a1b496cbb5e233f1477c163d77c5921564c27396e8deae0de85", func := "brocade/brocadelaw53.CollectiveReduces", spec := "collectiveReduces", unfollowed := true, recurses := true, apart := false, narrowed := true }
def CollectiveReducesUptoSaid : Prop := collectiveReducesUptoRow.holds Tryz.pinned (OpenSpec.upto collectiveReducesSpec)

/-- 'brocadelaw53.CollectiveInverse', WHERE WHAT IT READS IS OF BULK AT MOST 1048576: true; the input reads as it did. -/
def collectiveInverseUptoRow : OpenClaim := { program := "ytpedfojbfbccaaagreat", sum := "62135bbf96514a1b496cbb5e233f1477c163d77c5921564c27396e8deae0de85", func := "brocade/brocadelaw53.CollectiveInverse", spec := "collectiveInverse", unfollowed := true, recurses := true, apart := false, narrowed := true }
def CollectiveInverseUptoSaid : Prop := collectiveInverseUptoRow.holds Tryz.pinned (OpenSpec.upto collectiveInverseSpec)

/-- 'brocadelaw53.CollectiveExchanges', WHERE WHAT IT READS IS OF BULK AT MOST 1048576: true; the input reads as it did. -/
def collectiveExchangesUptoRow : OpenClaim := { program := "ytpedfojbfbccaaagreat", sum := "62135bbf96514a1b496cbb5e233f1477c163d77c5921564c27396e8deae0de85", func := "brocade/brocadelaw53.CollectiveExchanges", spec := "collectiveExchanges", unfollowed := true, recurses := true, apart := false, narrowed := true }
def CollectiveExchangesUptoSaid : Prop := collectiveExchangesUptoRow.holds Tryz.pinned (OpenSpec.upto collectiveExchangesSpec)

/-- 'brocadelaw53.CollectiveReshards', WHERE WHAT IT READS IS OF BULK AT MOST 1048576: true; the input reads as it did. -/
def collectiveReshardsUptoRow : OpenClaim := { program := "ytpedfojbfbccaaagreat", sum := "62135bbf96514a1b496cbb5e233f1477c163d77c5921564c27396e8deae0de85", func := "brocade/brocadelaw53.CollectiveReshards", spec := "collectiveReshards", unfollowed := true, recurses := true, apart := false, narrowed := true }
def CollectiveReshardsUptoSaid : Prop := collectiveReshardsUptoRow.holds Tryz.pinned (OpenSpec.upto collectiveReshardsSpec)

/-- 'brocadelaw53.CollectiveReshardBlocks', WHERE WHAT IT READS IS OF BULK AT MOST 1048576: true; the input reads as it did. -/
def collectiveReshardBlocksUptoRow : OpenClaim := { program := "ytpedfojbfbccaaagreat", sum := "62135bbf96514a1b496cbb5e233f1477c163d77c5921564c27396e8deae0de85", func := "brocade/brocadelaw53.CollectiveReshardBlocks", spec := "collectiveReshardBlocks", unfollowed := true, recurses := true, apart := false, narrowed := true }
def CollectiveReshardBlocksUptoSaid : Prop := collectiveReshardBlocksUptoRow.holds Tryz.pinned (OpenSpec.upto collectiveReshardBlocksSpec)

end Rows
end Go.Proofs.YtpedfojbfbccaaaGreat
