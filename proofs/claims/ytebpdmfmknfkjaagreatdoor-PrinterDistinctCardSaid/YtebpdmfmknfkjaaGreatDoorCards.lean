/-
  DERIVED. GIVEN WITH THE SEED: THE CARDS: each row of YtebpdmfmknfkjaaGreatDoorRows.lean that lists a variable, with what it lists TIED to the program's text (the seventh form; the later family's looks); each row that meets fmt, with fmt's text TOLD by the authors' own Lean function (tested against real Go, not proved from fmt's source: count such statements apart). THE CARD IS WHAT COUNTS. Prove the row's statement (the work); the ties are given (YtebpdmfmknfkjaaGreatDoorTie.lean); close each card by the builder's one call (the guide's Derived/Test/ToyasCard.lean, 'card_holds'). Laid BY PROGRAM, IN A SANDBOX (cutbox-door.mjs). By AI agents, Wed Nov 11 2026. No macro, syntax, notation, axiom, sorry.
-/
import Derived.Test.YtebpdmfmknfkjaaGreatDoorRows
import GoSem.ClaimSeven
namespace Go.Proofs.YtebpdmfmknfkjaaGreatDoor
namespace Rows

/-- THE TIED CARD OF 'brocadelaw15.PrinterTypes'. -/
def printerTypesCard : Claim7 := { stood := { row := printerTypesRow, standIns := [], harness := (true, "c0ad5d456c1c3a953b6e72aa70d1cda7effe68447f4f085747f4ca4ef1e6415e"), looks := false }, kinds := [], alts := [], laidByText := true, laidKinds := [.data, .data, .data, .listed, .data], laidTests := true, laidLooks := .later }
def PrinterTypesCardSaid : Prop := Claim7.holds Tryz.pinned (.plain (OpenSpec.ofChange printerTypesSpec)) printerTypesCard

/-- THE TIED CARD OF 'brocadelaw15.PrinterIndexes'. -/
def printerIndexesCard : Claim7 := { stood := { row := printerIndexesRow, standIns := [], harness := (true, "c0ad5d456c1c3a953b6e72aa70d1cda7effe68447f4f085747f4ca4ef1e6415e"), looks := false }, kinds := [], alts := [], laidByText := true, laidKinds := [.data, .data, .data, .listed, .data], laidTests := true, laidLooks := .later }
def PrinterIndexesCardSaid : Prop := Claim7.holds Tryz.pinned (.plain (OpenSpec.ofChange printerIndexesSpec)) printerIndexesCard

/-- THE TIED CARD OF 'brocadelaw15.PrinterExprs'. -/
def printerExprsCard : Claim7 := { stood := { row := printerExprsRow, standIns := [], harness := (true, "c0ad5d456c1c3a953b6e72aa70d1cda7effe68447f4f085747f4ca4ef1e6415e"), looks := false }, kinds := [], alts := [], laidByText := true, laidKinds := [.data, .data, .data, .listed, .data], laidTests := true, laidLooks := .later }
def PrinterExprsCardSaid : Prop := Claim7.holds Tryz.pinned (.plain (OpenSpec.ofChange printerExprsSpec)) printerExprsCard

/-- THE TIED CARD OF 'brocadelaw15.PrinterDistinct'. -/
def printerDistinctCard : Claim7 := { stood := { row := printerDistinctRow, standIns := [], harness := (true, "c0ad5d456c1c3a953b6e72aa70d1cda7effe68447f4f085747f4ca4ef1e6415e"), looks := false }, kinds := [], alts := [], laidByText := true, laidKinds := [.data, .data, .data, .listed, .data], laidTests := true, laidLooks := .later }
def PrinterDistinctCardSaid : Prop := Claim7.holds Tryz.pinned (.plain (OpenSpec.ofChange printerDistinctSpec)) printerDistinctCard

/-- THE TIED CARD OF 'brocadelaw15.PrinterDefs'. -/
def printerDefsCard : Claim7 := { stood := { row := printerDefsRow, standIns := [], harness := (true, "c0ad5d456c1c3a953b6e72aa70d1cda7effe68447f4f085747f4ca4ef1e6415e"), looks := false }, kinds := [], alts := [], laidByText := true, laidKinds := [.data, .data, .data, .listed, .data], laidTests := true, laidLooks := .later }
def PrinterDefsCardSaid : Prop := Claim7.holds Tryz.pinned (.plain (OpenSpec.ofChange printerDefsSpec)) printerDefsCard

/-- THE TIED CARD OF 'brocadelaw15.PrinterTokens'. -/
def printerTokensCard : Claim7 := { stood := { row := printerTokensRow, standIns := [], harness := (true, "c0ad5d456c1c3a953b6e72aa70d1cda7effe68447f4f085747f4ca4ef1e6415e"), looks := false }, kinds := [], alts := [], laidByText := true, laidKinds := [.data, .data, .data, .listed, .data], laidTests := true, laidLooks := .later }
def PrinterTokensCardSaid : Prop := Claim7.holds Tryz.pinned (.plain (OpenSpec.ofChange printerTokensSpec)) printerTokensCard

/-- THE TIED CARD OF 'brocadelaw15.PrinterProgs'. -/
def printerProgsCard : Claim7 := { stood := { row := printerProgsRow, standIns := [], harness := (true, "c0ad5d456c1c3a953b6e72aa70d1cda7effe68447f4f085747f4ca4ef1e6415e"), looks := false }, kinds := [], alts := [], laidByText := true, laidKinds := [.data, .data, .data, .listed, .data], laidTests := true, laidLooks := .later }
def PrinterProgsCardSaid : Prop := Claim7.holds Tryz.pinned (.plain (OpenSpec.ofChange printerProgsSpec)) printerProgsCard

/-- THE SECOND FORM's CARD OF 'brocadelaw15.PrinterTypes'. -/
def printerTypesUptoCard : Claim7 := { stood := { row := printerTypesUptoRow, standIns := [], harness := (true, "c0ad5d456c1c3a953b6e72aa70d1cda7effe68447f4f085747f4ca4ef1e6415e"), looks := false }, kinds := [], alts := [], laidByText := true, laidKinds := [.data, .data, .data, .listed, .data], laidTests := true, laidLooks := .later }
def PrinterTypesUptoCardSaid : Prop := Claim7.holds Tryz.pinned (.plain (OpenSpec.upto printerTypesSpec)) printerTypesUptoCard

/-- THE SECOND FORM's CARD OF 'brocadelaw15.PrinterIndexes'. -/
def printerIndexesUptoCard : Claim7 := { stood := { row := printerIndexesUptoRow, standIns := [], harness := (true, "c0ad5d456c1c3a953b6e72aa70d1cda7effe68447f4f085747f4ca4ef1e6415e"), looks := false }, kinds := [], alts := [], laidByText := true, laidKinds := [.data, .data, .data, .listed, .data], laidTests := true, laidLooks := .later }
def PrinterIndexesUptoCardSaid : Prop := Claim7.holds Tryz.pinned (.plain (OpenSpec.upto printerIndexesSpec)) printerIndexesUptoCard

/-- THE SECOND FORM's CARD OF 'brocadelaw15.PrinterExprs'. -/
def printerExprsUptoCard : Claim7 := { stood := { row := printerExprsUptoRow, standIns := [], harness := (true, "c0ad5d456c1c3a953b6e72aa70d1cda7effe68447f4f085747f4ca4ef1e6415e"), looks := false }, kinds := [], alts := [], laidByText := true, laidKinds := [.data, .data, .data, .listed, .data], laidTests := true, laidLooks := .later }
def PrinterExprsUptoCardSaid : Prop := Claim7.holds Tryz.pinned (.plain (OpenSpec.upto printerExprsSpec)) printerExprsUptoCard

/-- THE SECOND FORM's CARD OF 'brocadelaw15.PrinterDistinct'. -/
def printerDistinctUptoCard : Claim7 := { stood := { row := printerDistinctUptoRow, standIns := [], harness := (true, "c0ad5d456c1c3a953b6e72aa70d1cda7effe68447f4f085747f4ca4ef1e6415e"), looks := false }, kinds := [], alts := [], laidByText := true, laidKinds := [.data, .data, .data, .listed, .data], laidTests := true, laidLooks := .later }
def PrinterDistinctUptoCardSaid : Prop := Claim7.holds Tryz.pinned (.plain (OpenSpec.upto printerDistinctSpec)) printerDistinctUptoCard

/-- THE SECOND FORM's CARD OF 'brocadelaw15.PrinterDefs'. -/
def printerDefsUptoCard : Claim7 := { stood := { row := printerDefsUptoRow, standIns := [], harness := (true, "c0ad5d456c1c3a953b6e72aa70d1cda7effe68447f4f085747f4ca4ef1e6415e"), looks := false }, kinds := [], alts := [], laidByText := true, laidKinds := [.data, .data, .data, .listed, .data], laidTests := true, laidLooks := .later }
def PrinterDefsUptoCardSaid : Prop := Claim7.holds Tryz.pinned (.plain (OpenSpec.upto printerDefsSpec)) printerDefsUptoCard

/-- THE SECOND FORM's CARD OF 'brocadelaw15.PrinterTokens'. -/
def printerTokensUptoCard : Claim7 := { stood := { row := printerTokensUptoRow, standIns := [], harness := (true, "c0ad5d456c1c3a953b6e72aa70d1cda7effe68447f4f085747f4ca4ef1e6415e"), looks := false }, kinds := [], alts := [], laidByText := true, laidKinds := [.data, .data, .data, .listed, .data], laidTests := true, laidLooks := .later }
def PrinterTokensUptoCardSaid : Prop := Claim7.holds Tryz.pinned (.plain (OpenSpec.upto printerTokensSpec)) printerTokensUptoCard

/-- THE SECOND FORM's CARD OF 'brocadelaw15.PrinterProgs'. -/
def printerProgsUptoCard : Claim7 := { stood := { row := printerProgsUptoRow, standIns := [], harness := (true, "c0ad5d456c1c3a953b6e72aa70d1cda7effe68447f4f085747f4ca4ef1e6415e"), looks := false }, kinds := [], alts := [], laidByText := true, laidKinds := [.data, .data, .data, .listed, .data], laidTests := true, laidLooks := .later }
def PrinterProgsUptoCardSaid : Prop := Claim7.holds Tryz.pinned (.plain (OpenSpec.upto printerProgsSpec)) printerProgsUptoCard
end Rows
end Go.Proofs.YtebpdmfmknfkjaaGreatDoor
