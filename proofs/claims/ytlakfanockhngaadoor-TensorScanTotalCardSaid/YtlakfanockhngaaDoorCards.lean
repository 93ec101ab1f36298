/-
  DERIVED. GIVEN WITH THE SEED: THE CARDS: each row of YtlakfanockhngaaDoorRows.lean that lists a variable, with what it lists TIED to the program's text (the seventh form; the later family's looks); each row that meets fmt, with fmt's text TOLD by the authors' own Lean function (tested against real Go, not proved from fmt's source: count such statements apart). THE CARD IS WHAT COUNTS. Prove the row's statement (the work); the ties are given (YtlakfanockhngaaDoorTie.lean); close each card by the builder's one call (the guide's Derived/Test/ToyasCard.lean, 'card_holds'). Laid BY PROGRAM, IN A SANDBOX (cutbox-door.mjs). By AI agents, Wed Nov 11 2026. No macro, syntax, notation, axiom, sorry.
-/
import Derived.Test.YtlakfanockhngaaDoorRows
import GoSem.ClaimSeven
namespace Go.Proofs.YtlakfanockhngaaDoor
namespace Rows

/-- THE TIED CARD OF 'brocadelaw12.TensorSetGet'. -/
def tensorSetGetCard : Claim7 := { stood := { row := tensorSetGetRow, standIns := [], harness := (true, "f88773c52fcbe055873f25bb478ac1b879156d636b316d396db5678c07dea730"), looks := false }, kinds := [], alts := [], laidByText := true, laidKinds := [.data, .data, .data], laidTests := true, laidLooks := .later }
def TensorSetGetCardSaid : Prop := Claim7.holds Tryd.pinned (.plain (OpenSpec.ofChange tensorSetGetSpec)) tensorSetGetCard

/-- THE TIED CARD OF 'brocadelaw12.TensorScanTotal'. -/
def tensorScanTotalCard : Claim7 := { stood := { row := tensorScanTotalRow, standIns := [], harness := (true, "f88773c52fcbe055873f25bb478ac1b879156d636b316d396db5678c07dea730"), looks := false }, kinds := [], alts := [], laidByText := true, laidKinds := [.data, .data, .data], laidTests := true, laidLooks := .later }
def TensorScanTotalCardSaid : Prop := Claim7.holds Tryd.pinned (.plain (OpenSpec.ofChange tensorScanTotalSpec)) tensorScanTotalCard

/-- THE SECOND FORM's CARD OF 'brocadelaw12.TensorSetGet'. -/
def tensorSetGetUptoCard : Claim7 := { stood := { row := tensorSetGetUptoRow, standIns := [], harness := (true, "f88773c52fcbe055873f25bb478ac1b879156d636b316d396db5678c07dea730"), looks := false }, kinds := [], alts := [], laidByText := true, laidKinds := [.data, .data, .data], laidTests := true, laidLooks := .later }
def TensorSetGetUptoCardSaid : Prop := Claim7.holds Tryd.pinned (.plain (OpenSpec.upto tensorSetGetSpec)) tensorSetGetUptoCard

/-- THE SECOND FORM's CARD OF 'brocadelaw12.TensorScanTotal'. -/
def tensorScanTotalUptoCard : Claim7 := { stood := { row := tensorScanTotalUptoRow, standIns := [], harness := (true, "f88773c52fcbe055873f25bb478ac1b879156d636b316d396db5678c07dea730"), looks := false }, kinds := [], alts := [], laidByText := true, laidKinds := [.data, .data, .data], laidTests := true, laidLooks := .later }
def TensorScanTotalUptoCardSaid : Prop := Claim7.holds Tryd.pinned (.plain (OpenSpec.upto tensorScanTotalSpec)) tensorScanTotalUptoCard
end Rows
end Go.Proofs.YtlakfanockhngaaDoor
