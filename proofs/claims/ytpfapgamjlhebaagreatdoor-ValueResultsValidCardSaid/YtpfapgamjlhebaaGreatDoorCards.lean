/-
  DERIVED. GIVEN WITH THE SEED: THE CARDS: each row of YtpfapgamjlhebaaGreatDoorRows.lean that lists a variable, with what it lists TIED to the program's text (the seventh form; the later family's looks); each row that meets fmt, with fmt's text TOLD by the authors' own Lean function (tested against real Go, not proved from fmt's source: count such statements apart). THE CARD IS WHAT COUNTS. Prove the row's statement (the work); the ties are given (YtpfapgamjlhebaaGreatDoorTie.lean); close each card by the builder's one call (the guide's Derived/Test/ToyasCard.lean, 'card_holds'). Laid BY PROGRAM, IN A SANDBOX (cutbox-door.mjs). By AI agents, Wed Nov 11 2026. No macro, syntax, notation, axiom, sorry.
-/
import Derived.Test.YtpfapgamjlhebaaGreatDoorRows
import GoSem.ClaimSeven
namespace Go.Proofs.YtpfapgamjlhebaaGreatDoor
namespace Rows

/-- THE TIED CARD OF 'brocadelaw04.ValueReduce'. -/
def valueReduceCard : Claim7 := { stood := { row := valueReduceRow, standIns := [], harness := (true, "ec2487cc30b8c6241592531d3a01471075ab8ca5813d01b316621fd31393a1e6"), looks := true }, kinds := [], alts := [], laidByText := true, laidKinds := [.data, .data, .data], laidTests := true, laidLooks := .later }
def ValueReduceCardSaid : Prop := Claim7.holds Tryz.pinned (.plain (OpenSpec.ofChange valueReduceSpec)) valueReduceCard

/-- THE TIED CARD OF 'brocadelaw04.ValueFormat'. -/
def valueFormatCard : Claim7 := { stood := { row := valueFormatRow, standIns := [], harness := (true, "ec2487cc30b8c6241592531d3a01471075ab8ca5813d01b316621fd31393a1e6"), looks := true }, kinds := [], alts := [], laidByText := true, laidKinds := [.data, .data, .data, .sentinel, .sentinel], laidTests := true, laidLooks := .later }
def ValueFormatCardSaid : Prop := Claim7.holds Tryz.pinned (.plain (OpenSpec.ofChange valueFormatSpec)) valueFormatCard

/-- THE TIED CARD OF 'brocadelaw04.ValueResultsValid'. -/
def valueResultsValidCard : Claim7 := { stood := { row := valueResultsValidRow, standIns := [], harness := (true, "ec2487cc30b8c6241592531d3a01471075ab8ca5813d01b316621fd31393a1e6"), looks := true }, kinds := [], alts := [], laidByText := true, laidKinds := [.data, .data, .data, .sentinel, .sentinel], laidTests := true, laidLooks := .later }
def ValueResultsValidCardSaid : Prop := Claim7.holds Tryz.pinned (.plain (OpenSpec.ofChange valueResultsValidSpec)) valueResultsValidCard

/-- THE SECOND FORM's CARD OF 'brocadelaw04.ValueReduce'. -/
def valueReduceUptoCard : Claim7 := { stood := { row := valueReduceUptoRow, standIns := [], harness := (true, "ec2487cc30b8c6241592531d3a01471075ab8ca5813d01b316621fd31393a1e6"), looks := true }, kinds := [], alts := [], laidByText := true, laidKinds := [.data, .data, .data], laidTests := true, laidLooks := .later }
def ValueReduceUptoCardSaid : Prop := Claim7.holds Tryz.pinned (.plain (OpenSpec.upto valueReduceSpec)) valueReduceUptoCard

/-- THE SECOND FORM's CARD OF 'brocadelaw04.ValueFormat'. -/
def valueFormatUptoCard : Claim7 := { stood := { row := valueFormatUptoRow, standIns := [], harness := (true, "ec2487cc30b8c6241592531d3a01471075ab8ca5813d01b316621fd31393a1e6"), looks := true }, kinds := [], alts := [], laidByText := true, laidKinds := [.data, .data, .data, .sentinel, .sentinel], laidTests := true, laidLooks := .later }
def ValueFormatUptoCardSaid : Prop := Claim7.holds Tryz.pinned (.plain (OpenSpec.upto valueFormatSpec)) valueFormatUptoCard

/-- THE SECOND FORM's CARD OF 'brocadelaw04.ValueResultsValid'. -/
def valueResultsValidUptoCard : Claim7 := { stood := { row := valueResultsValidUptoRow, standIns := [], harness := (true, "ec2487cc30b8c6241592531d3a01471075ab8ca5813d01b316621fd31393a1e6"), looks := true }, kinds := [], alts := [], laidByText := true, laidKinds := [.data, .data, .data, .sentinel, .sentinel], laidTests := true, laidLooks := .later }
def ValueResultsValidUptoCardSaid : Prop := Claim7.holds Tryz.pinned (.plain (OpenSpec.upto valueResultsValidSpec)) valueResultsValidUptoCard
end Rows
end Go.Proofs.YtpfapgamjlhebaaGreatDoor
