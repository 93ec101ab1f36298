/-
  DERIVED. GIVEN WITH THE SEED: THE CARDS: each row of YtmhoikfoogemnaaGreatDoorRows.lean that lists a variable, with what it lists TIED to the program's text (the seventh form; the later family's looks); each row that meets fmt, with fmt's text TOLD by the authors' own Lean function (tested against real Go, not proved from fmt's source: count such statements apart). THE CARD IS WHAT COUNTS. Prove the row's statement (the work); the ties are given (YtmhoikfoogemnaaGreatDoorTie.lean); close each card by the builder's one call (the guide's Derived/Test/ToyasCard.lean, 'card_holds'). Laid BY PROGRAM, IN A SANDBOX (cutbox-door.mjs). By AI agents, Wed Nov 11 2026. No macro, syntax, notation, axiom, sorry.
-/
import Derived.Test.YtmhoikfoogemnaaGreatDoorRows
import GoSem.ClaimSeven
namespace Go.Proofs.YtmhoikfoogemnaaGreatDoor
namespace Rows

/-- THE TIED CARD OF 'brocadelaw16.ParserForms'. -/
def parserFormsCard : Claim7 := { stood := { row := parserFormsRow, standIns := [], harness := (true, "b92a699e14f591e5df8d90a227b9167e9fab82b4f333168c7ee98a31449d1563"), looks := true }, kinds := [], alts := [], laidByText := true, laidKinds := [.data, .data, .data, .sentinel, .sentinel, .listed, .data], laidTests := true, laidLooks := .later }
def ParserFormsCardSaid : Prop := Claim7.holds Tryz.pinned (.plain (OpenSpec.ofChange parserFormsSpec)) parserFormsCard

/-- THE TIED CARD OF 'brocadelaw16.ParserTokens'. -/
def parserTokensCard : Claim7 := { stood := { row := parserTokensRow, standIns := [], harness := (true, "b92a699e14f591e5df8d90a227b9167e9fab82b4f333168c7ee98a31449d1563"), looks := true }, kinds := [], alts := [], laidByText := true, laidKinds := [.data, .data, .data, .sentinel, .sentinel, .listed, .data], laidTests := true, laidLooks := .later }
def ParserTokensCardSaid : Prop := Claim7.holds Tryz.pinned (.plain (OpenSpec.ofChange parserTokensSpec)) parserTokensCard

/-- THE TIED CARD OF 'brocadelaw16.ParserExprs'. -/
def parserExprsCard : Claim7 := { stood := { row := parserExprsRow, standIns := [], harness := (true, "b92a699e14f591e5df8d90a227b9167e9fab82b4f333168c7ee98a31449d1563"), looks := true }, kinds := [], alts := [], laidByText := true, laidKinds := [.data, .data, .data, .sentinel, .sentinel, .listed, .data], laidTests := true, laidLooks := .later }
def ParserExprsCardSaid : Prop := Claim7.holds Tryz.pinned (.plain (OpenSpec.ofChange parserExprsSpec)) parserExprsCard

/-- THE TIED CARD OF 'brocadelaw16.ParserPrinted'. -/
def parserPrintedCard : Claim7 := { stood := { row := parserPrintedRow, standIns := [], harness := (true, "b92a699e14f591e5df8d90a227b9167e9fab82b4f333168c7ee98a31449d1563"), looks := true }, kinds := [], alts := [], laidByText := true, laidKinds := [.data, .data, .data, .sentinel, .sentinel, .listed, .data], laidTests := true, laidLooks := .later }
def ParserPrintedCardSaid : Prop := Claim7.holds Tryz.pinned (.plain (OpenSpec.ofChange parserPrintedSpec)) parserPrintedCard

/-- THE TIED CARD OF 'brocadelaw16.ParserLayout'. -/
def parserLayoutCard : Claim7 := { stood := { row := parserLayoutRow, standIns := [], harness := (true, "b92a699e14f591e5df8d90a227b9167e9fab82b4f333168c7ee98a31449d1563"), looks := true }, kinds := [], alts := [], laidByText := true, laidKinds := [.data, .data, .data, .sentinel, .sentinel, .listed, .data], laidTests := true, laidLooks := .later }
def ParserLayoutCardSaid : Prop := Claim7.holds Tryz.pinned (.plain (OpenSpec.ofChange parserLayoutSpec)) parserLayoutCard

/-- THE TIED CARD OF 'brocadelaw16.ParserProgs'. -/
def parserProgsCard : Claim7 := { stood := { row := parserProgsRow, standIns := [], harness := (true, "b92a699e14f591e5df8d90a227b9167e9fab82b4f333168c7ee98a31449d1563"), looks := true }, kinds := [], alts := [], laidByText := true, laidKinds := [.data, .data, .data, .sentinel, .sentinel, .listed, .data], laidTests := true, laidLooks := .later }
def ParserProgsCardSaid : Prop := Claim7.holds Tryz.pinned (.plain (OpenSpec.ofChange parserProgsSpec)) parserProgsCard

/-- THE TIED CARD OF 'brocadelaw16.ParserPrintedProgs'. -/
def parserPrintedProgsCard : Claim7 := { stood := { row := parserPrintedProgsRow, standIns := [], harness := (true, "b92a699e14f591e5df8d90a227b9167e9fab82b4f333168c7ee98a31449d1563"), looks := true }, kinds := [], alts := [], laidByText := true, laidKinds := [.data, .data, .data, .sentinel, .sentinel, .listed, .data], laidTests := true, laidLooks := .later }
def ParserPrintedProgsCardSaid : Prop := Claim7.holds Tryz.pinned (.plain (OpenSpec.ofChange parserPrintedProgsSpec)) parserPrintedProgsCard

/-- THE SECOND FORM's CARD OF 'brocadelaw16.ParserForms'. -/
def parserFormsUptoCard : Claim7 := { stood := { row := parserFormsUptoRow, standIns := [], harness := (true, "b92a699e14f591e5df8d90a227b9167e9fab82b4f333168c7ee98a31449d1563"), looks := true }, kinds := [], alts := [], laidByText := true, laidKinds := [.data, .data, .data, .sentinel, .sentinel, .listed, .data], laidTests := true, laidLooks := .later }
def ParserFormsUptoCardSaid : Prop := Claim7.holds Tryz.pinned (.plain (OpenSpec.upto parserFormsSpec)) parserFormsUptoCard

/-- THE SECOND FORM's CARD OF 'brocadelaw16.ParserTokens'. -/
def parserTokensUptoCard : Claim7 := { stood := { row := parserTokensUptoRow, standIns := [], harness := (true, "b92a699e14f591e5df8d90a227b9167e9fab82b4f333168c7ee98a31449d1563"), looks := true }, kinds := [], alts := [], laidByText := true, laidKinds := [.data, .data, .data, .sentinel, .sentinel, .listed, .data], laidTests := true, laidLooks := .later }
def ParserTokensUptoCardSaid : Prop := Claim7.holds Tryz.pinned (.plain (OpenSpec.upto parserTokensSpec)) parserTokensUptoCard

/-- THE SECOND FORM's CARD OF 'brocadelaw16.ParserExprs'. -/
def parserExprsUptoCard : Claim7 := { stood := { row := parserExprsUptoRow, standIns := [], harness := (true, "b92a699e14f591e5df8d90a227b9167e9fab82b4f333168c7ee98a31449d1563"), looks := true }, kinds := [], alts := [], laidByText := true, laidKinds := [.data, .data, .data, .sentinel, .sentinel, .listed, .data], laidTests := true, laidLooks := .later }
def ParserExprsUptoCardSaid : Prop := Claim7.holds Tryz.pinned (.plain (OpenSpec.upto parserExprsSpec)) parserExprsUptoCard

/-- THE SECOND FORM's CARD OF 'brocadelaw16.ParserPrinted'. -/
def parserPrintedUptoCard : Claim7 := { stood := { row := parserPrintedUptoRow, standIns := [], harness := (true, "b92a699e14f591e5df8d90a227b9167e9fab82b4f333168c7ee98a31449d1563"), looks := true }, kinds := [], alts := [], laidByText := true, laidKinds := [.data, .data, .data, .sentinel, .sentinel, .listed, .data], laidTests := true, laidLooks := .later }
def ParserPrintedUptoCardSaid : Prop := Claim7.holds Tryz.pinned (.plain (OpenSpec.upto parserPrintedSpec)) parserPrintedUptoCard

/-- THE SECOND FORM's CARD OF 'brocadelaw16.ParserLayout'. -/
def parserLayoutUptoCard : Claim7 := { stood := { row := parserLayoutUptoRow, standIns := [], harness := (true, "b92a699e14f591e5df8d90a227b9167e9fab82b4f333168c7ee98a31449d1563"), looks := true }, kinds := [], alts := [], laidByText := true, laidKinds := [.data, .data, .data, .sentinel, .sentinel, .listed, .data], laidTests := true, laidLooks := .later }
def ParserLayoutUptoCardSaid : Prop := Claim7.holds Tryz.pinned (.plain (OpenSpec.upto parserLayoutSpec)) parserLayoutUptoCard

/-- THE SECOND FORM's CARD OF 'brocadelaw16.ParserProgs'. -/
def parserProgsUptoCard : Claim7 := { stood := { row := parserProgsUptoRow, standIns := [], harness := (true, "b92a699e14f591e5df8d90a227b9167e9fab82b4f333168c7ee98a31449d1563"), looks := true }, kinds := [], alts := [], laidByText := true, laidKinds := [.data, .data, .data, .sentinel, .sentinel, .listed, .data], laidTests := true, laidLooks := .later }
def ParserProgsUptoCardSaid : Prop := Claim7.holds Tryz.pinned (.plain (OpenSpec.upto parserProgsSpec)) parserProgsUptoCard

/-- THE SECOND FORM's CARD OF 'brocadelaw16.ParserPrintedProgs'. -/
def parserPrintedProgsUptoCard : Claim7 := { stood := { row := parserPrintedProgsUptoRow, standIns := [], harness := (true, "b92a699e14f591e5df8d90a227b9167e9fab82b4f333168c7ee98a31449d1563"), looks := true }, kinds := [], alts := [], laidByText := true, laidKinds := [.data, .data, .data, .sentinel, .sentinel, .listed, .data], laidTests := true, laidLooks := .later }
def ParserPrintedProgsUptoCardSaid : Prop := Claim7.holds Tryz.pinned (.plain (OpenSpec.upto parserPrintedProgsSpec)) parserPrintedProgsUptoCard
end Rows
end Go.Proofs.YtmhoikfoogemnaaGreatDoor
