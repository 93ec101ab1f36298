/-
  No cell of these rows narrows 'for every input' (looked for: loops, veiled, ifaces, maps, wideKeys, modest, calm, conditions, laid).
  DERIVED. THE GIVEN ROWS OF THIS SEAT. 4 by the template 'for every input the law returns true; each argument reads behind the call as it read before'; 0 by the template 'total and deterministic' (their statements: YtaokohndeepbjaaTotals.lean).
  GIVEN WITH THE SEED: the statements are not yours to turn. If you find one false, say at which input.
  Laid BY PROGRAM, IN A SANDBOX (cutbox-rows.mjs): the forced cells as the released guide's own fill.sh prints them over the translation 388a229785d5c472… (all of the seat's roots in one cut). By AI agents, Wed Nov 11 2026. No macro, syntax, notation, axiom, sorry.
-/
import Derived.Test.YtaokohndeepbjaaChecked
import GoSem.Claim
import GoSem.ClaimJoined
import GoSem.ClaimMapViews
import Derived.JoinedTies
import Derived.KernelRfl
namespace Go.Proofs.Ytaokohndeepbjaa
/- THE CELL 'sum', in the pinned program and in every row, IS THE sha256 OF THE DUMP (.gsa) THAT YtaokohndeepbjaaProg.lean LOADS. Nothing in Lean hashes anything: it is a label: what it is worth is what the hold of that sum in a sandbox is worth. -/
noncomputable def Try.pinned : Pinned := { name := "ytaokohndeepbjaa", sum := "388a229785d5c472fc6a7ac61b3728214c2aa8e8fb4f5bd5c88f05a36aaa99eb", checked := Try.checked }
namespace Rows
def none {H : Type} : Left H := { results := [], args := [] }

/-- 'brocadelaw10.AffineApply': WHATEVER THE INPUT: true; the input reads as it did. -/
def affineApplySpec : ChangeSpec := { name := "affineApply", fn := fun _ => fun
  | [d1, d2, d3] => { results := [.lit (.bool true)], args := [d1, d2, d3] }
  | _ => none }
def affineApplyRow : OpenClaim := { program := "ytaokohndeepbjaa", sum := "388a229785d5c472fc6a7ac61b3728214c2aa8e8fb4f5bd5c88f05a36aaa99eb", func := "brocade/brocadelaw10.AffineApply", spec := "affineApply", unfollowed := true, recurses := true, apart := false }
def AffineApplySaid : Prop := affineApplyRow.holds Try.pinned (OpenSpec.ofChange affineApplySpec)

/-- ITS FALSE NEIGHBOUR: 'it returns false'. Refute it at one input. -/
def affineApplyWrong : ChangeSpec := { name := "affineApply", fn := fun _ => fun
  | [d1, d2, d3] => { results := [.lit (.bool false)], args := [d1, d2, d3] }
  | _ => none }
def AffineApplyWrongFalsely : Prop := affineApplyRow.holds Try.pinned (OpenSpec.ofChange affineApplyWrong)

/-- 'brocadelaw10.AffineImages': WHATEVER THE INPUT: true; the input reads as it did. -/
def affineImagesSpec : ChangeSpec := { name := "affineImages", fn := fun _ => fun
  | [d1, d2, d3, d4] => { results := [.lit (.bool true)], args := [d1, d2, d3, d4] }
  | _ => none }
def affineImagesRow : OpenClaim := { program := "ytaokohndeepbjaa", sum := "388a229785d5c472fc6a7ac61b3728214c2aa8e8fb4f5bd5c88f05a36aaa99eb", func := "brocade/brocadelaw10.AffineImages", spec := "affineImages", unfollowed := true, recurses := true, apart := false }
def AffineImagesSaid : Prop := affineImagesRow.holds Try.pinned (OpenSpec.ofChange affineImagesSpec)

/-- ITS FALSE NEIGHBOUR: 'it returns false'. Refute it at one input. -/
def affineImagesWrong : ChangeSpec := { name := "affineImages", fn := fun _ => fun
  | [d1, d2, d3, d4] => { results := [.lit (.bool false)], args := [d1, d2, d3, d4] }
  | _ => none }
def AffineImagesWrongFalsely : Prop := affineImagesRow.holds Try.pinned (OpenSpec.ofChange affineImagesWrong)

/-- 'brocadelaw10.AffineCompose': WHATEVER THE INPUT: true; the input reads as it did. -/
def affineComposeSpec : ChangeSpec := { name := "affineCompose", fn := fun _ => fun
  | [d1, d2, d3] => { results := [.lit (.bool true)], args := [d1, d2, d3] }
  | _ => none }
def affineComposeRow : OpenClaim := { program := "ytaokohndeepbjaa", sum := "388a229785d5c472fc6a7ac61b3728214c2aa8e8fb4f5bd5c88f05a36aaa99eb", func := "brocade/brocadelaw10.AffineCompose", spec := "affineCompose", unfollowed := true, recurses := true, apart := false }
def AffineComposeSaid : Prop := affineComposeRow.holds Try.pinned (OpenSpec.ofChange affineComposeSpec)

/-- ITS FALSE NEIGHBOUR: 'it returns false'. Refute it at one input. -/
def affineComposeWrong : ChangeSpec := { name := "affineCompose", fn := fun _ => fun
  | [d1, d2, d3] => { results := [.lit (.bool false)], args := [d1, d2, d3] }
  | _ => none }
def AffineComposeWrongFalsely : Prop := affineComposeRow.holds Try.pinned (OpenSpec.ofChange affineComposeWrong)

/-- 'brocadelaw10.AffineComposition': WHATEVER THE INPUT: true; the input reads as it did. -/
def affineCompositionSpec : ChangeSpec := { name := "affineComposition", fn := fun _ => fun
  | [d1, d2, d3, d4] => { results := [.lit (.bool true)], args := [d1, d2, d3, d4] }
  | _ => none }
def affineCompositionRow : OpenClaim := { program := "ytaokohndeepbjaa", sum := "388a229785d5c472fc6a7ac61b3728214c2aa8e8fb4f5bd5c88f05a36aaa99eb", func := "brocade/brocadelaw10.AffineComposition", spec := "affineComposition", unfollowed := true, recurses := true, apart := false }
def AffineCompositionSaid : Prop := affineCompositionRow.holds Try.pinned (OpenSpec.ofChange affineCompositionSpec)

/-- ITS FALSE NEIGHBOUR: 'it returns false'. Refute it at one input. -/
def affineCompositionWrong : ChangeSpec := { name := "affineComposition", fn := fun _ => fun
  | [d1, d2, d3, d4] => { results := [.lit (.bool false)], args := [d1, d2, d3, d4] }
  | _ => none }
def AffineCompositionWrongFalsely : Prop := affineCompositionRow.holds Try.pinned (OpenSpec.ofChange affineCompositionWrong)

/- THE SECOND FORM. 'bulk': how many values and letters a reading holds, each counted each time it is reached (what is shared counts as often as it is met; a slice's spare places count too). A statement '..UptoSaid' is the law's where the arguments, and the package variables that the reading takes, are together of bulk at most 1048576: NARROWER than '..Said'. Prove '..Said' where nothing that the law and all that it calls make is longer than what came in: it says more and counts as full. Else prove '..UptoSaid'. A law counts once. -/
mutual
def uptoBulk {H : Type} : DataW H → Nat
  | .lit (.string bytes) => bytes.length + 1
  | .lit _ => 1
  | .nil => 1
  | .ptr d => uptoBulk d + 1
  | .slice elems spare => uptoBulkAll elems + uptoBulkAll spare + 1
  | .agg parts => uptoBulkAll parts + 1
  | .iface _ d => uptoBulk d + 1
  | .map entries => uptoBulkEntries entries + 1
  | .held _ => 1
def uptoBulkAll {H : Type} : List (DataW H) → Nat
  | [] => 0
  | d :: r => uptoBulk d + uptoBulkAll r
def uptoBulkEntries {H : Type} : List (Lit × DataW H) → Nat
  | [] => 0
  | x :: r => uptoBulkEntry x + uptoBulkEntries r
def uptoBulkEntry {H : Type} : Lit × DataW H → Nat
  | (.string bytes, d) => bytes.length + uptoBulk d + 1
  | (_, d) => uptoBulk d + 1
 end
def uptoSmall : (H : Type) → List (DataW H) → Bool := fun _ ds => decide (uptoBulkAll ds ≤ 1048576)
def OpenSpec.upto (s : _root_.Go.ChangeSpec) : _root_.Go.OpenSpec := { _root_.Go.OpenSpec.ofChange s with cond := some uptoSmall }

/-- 'brocadelaw10.AffineApply', WHERE WHAT IT READS IS OF BULK AT MOST 1048576: true; the input reads as it did. -/
def affineApplyUptoRow : OpenClaim := { program := "ytaokohndeepbjaa", sum := "388a229785d5c472fc6a7ac61b3728214c2aa8e8fb4f5bd5c88f05a36aaa99eb", func := "brocade/brocadelaw10.AffineApply", spec := "affineApply", unfollowed := true, recurses := true, apart := false, narrowed := true }
def AffineApplyUptoSaid : Prop := affineApplyUptoRow.holds Try.pinned (OpenSpec.upto affineApplySpec)

/-- 'brocadelaw10.AffineImages', WHERE WHAT IT READS IS OF BULK AT MOST 1048576: true; the input reads as it did. -/
def affineImagesUptoRow : OpenClaim := { program := "ytaokohndeepbjaa", sum := "388a229785d5c472fc6a7ac61b3728214c2aa8e8fb4f5bd5c88f05a36aaa99eb", func := "brocade/brocadelaw10.AffineImages", spec := "affineImages", unfollowed := true, recurses := true, apart := false, narrowed := true }
def AffineImagesUptoSaid : Prop := affineImagesUptoRow.holds Try.pinned (OpenSpec.upto affineImagesSpec)

/-- 'brocadelaw10.AffineCompose', WHERE WHAT IT READS IS OF BULK AT MOST 1048576: true; the input reads as it did. -/
def affineComposeUptoRow : OpenClaim := { program := "ytaokohndeepbjaa", sum := "388a229785d5c472fc6a7ac61b3728214c2aa8e8fb4f5bd5c88f05a36aaa99eb", func := "brocade/brocadelaw10.AffineCompose", spec := "affineCompose", unfollowed := true, recurses := true, apart := false, narrowed := true }
def AffineComposeUptoSaid : Prop := affineComposeUptoRow.holds Try.pinned (OpenSpec.upto affineComposeSpec)

/-- 'brocadelaw10.AffineComposition', WHERE WHAT IT READS IS OF BULK AT MOST 1048576: true; the input reads as it did. -/
def affineCompositionUptoRow : OpenClaim := { program := "ytaokohndeepbjaa", sum := "388a229785d5c472fc6a7ac61b3728214c2aa8e8fb4f5bd5c88f05a36aaa99eb", func := "brocade/brocadelaw10.AffineComposition", spec := "affineComposition", unfollowed := true, recurses := true, apart := false, narrowed := true }
def AffineCompositionUptoSaid : Prop := affineCompositionUptoRow.holds Try.pinned (OpenSpec.upto affineCompositionSpec)

end Rows
end Go.Proofs.Ytaokohndeepbjaa
