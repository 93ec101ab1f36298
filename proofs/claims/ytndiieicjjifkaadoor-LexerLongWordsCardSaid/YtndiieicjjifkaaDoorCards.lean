/-
  DERIVED. GIVEN WITH THE SEED: THE CARDS: each row of YtndiieicjjifkaaDoorRows.lean that lists a variable, with what it lists TIED to the program's text (the seventh form; the later family's looks); each row that meets fmt, with fmt's text TOLD by the authors' own Lean function (tested against real Go, not proved from fmt's source: count such statements apart). THE CARD IS WHAT COUNTS. Prove the row's statement (the work); the ties are given (YtndiieicjjifkaaDoorTie.lean); close each card by the builder's one call (the guide's Derived/Test/ToyasCard.lean, 'card_holds'). Laid BY PROGRAM, IN A SANDBOX (cutbox-door.mjs). By AI agents, Wed Nov 11 2026. No macro, syntax, notation, axiom, sorry.
-/
import Derived.Test.YtndiieicjjifkaaDoorRows
import GoSem.ClaimSeven
namespace Go.Proofs.YtndiieicjjifkaaDoor
namespace Rows

/-- THE TIED CARD OF 'brocadelaw13.LexerTokenizes'. -/
def lexerTokenizesCard : Claim7 := { stood := { row := lexerTokenizesRow, standIns := [], harness := (true, "1d72b49cec00b5f5ba13afd05b910f68ffcd4616282f270799e08d86ffda6749"), looks := false }, kinds := [], alts := [], laidByText := true, laidKinds := [.listed, .data], laidTests := true, laidLooks := .later }
def LexerTokenizesCardSaid : Prop := Claim7.holds Tryd.pinned (.plain (OpenSpec.ofChange lexerTokenizesSpec)) lexerTokenizesCard

/-- THE TIED CARD OF 'brocadelaw13.LexerWords'. -/
def lexerWordsCard : Claim7 := { stood := { row := lexerWordsRow, standIns := [], harness := (true, "1d72b49cec00b5f5ba13afd05b910f68ffcd4616282f270799e08d86ffda6749"), looks := false }, kinds := [], alts := [], laidByText := true, laidKinds := [.listed, .data], laidTests := true, laidLooks := .later }
def LexerWordsCardSaid : Prop := Claim7.holds Tryd.pinned (.plain (OpenSpec.ofChange lexerWordsSpec)) lexerWordsCard

/-- THE TIED CARD OF 'brocadelaw13.LexerJoinRoundTrip'. -/
def lexerJoinRoundTripCard : Claim7 := { stood := { row := lexerJoinRoundTripRow, standIns := [], harness := (true, "1d72b49cec00b5f5ba13afd05b910f68ffcd4616282f270799e08d86ffda6749"), looks := false }, kinds := [], alts := [], laidByText := true, laidKinds := [.listed, .data], laidTests := true, laidLooks := .later }
def LexerJoinRoundTripCardSaid : Prop := Claim7.holds Tryd.pinned (.plain (OpenSpec.ofChange lexerJoinRoundTripSpec)) lexerJoinRoundTripCard

/-- THE TIED CARD OF 'brocadelaw13.LexerCoversText'. -/
def lexerCoversTextCard : Claim7 := { stood := { row := lexerCoversTextRow, standIns := [], harness := (true, "1d72b49cec00b5f5ba13afd05b910f68ffcd4616282f270799e08d86ffda6749"), looks := false }, kinds := [], alts := [], laidByText := true, laidKinds := [.listed, .data], laidTests := true, laidLooks := .later }
def LexerCoversTextCardSaid : Prop := Claim7.holds Tryd.pinned (.plain (OpenSpec.ofChange lexerCoversTextSpec)) lexerCoversTextCard

/-- THE TIED CARD OF 'brocadelaw13.LexerLongWords'. -/
def lexerLongWordsCard : Claim7 := { stood := { row := lexerLongWordsRow, standIns := [], harness := (true, "1d72b49cec00b5f5ba13afd05b910f68ffcd4616282f270799e08d86ffda6749"), looks := false }, kinds := [], alts := [], laidByText := true, laidKinds := [.listed, .data], laidTests := true, laidLooks := .later }
def LexerLongWordsCardSaid : Prop := Claim7.holds Tryd.pinned (.plain (OpenSpec.ofChange lexerLongWordsSpec)) lexerLongWordsCard

/-- THE SECOND FORM's CARD OF 'brocadelaw13.LexerTokenizes'. -/
def lexerTokenizesUptoCard : Claim7 := { stood := { row := lexerTokenizesUptoRow, standIns := [], harness := (true, "1d72b49cec00b5f5ba13afd05b910f68ffcd4616282f270799e08d86ffda6749"), looks := false }, kinds := [], alts := [], laidByText := true, laidKinds := [.listed, .data], laidTests := true, laidLooks := .later }
def LexerTokenizesUptoCardSaid : Prop := Claim7.holds Tryd.pinned (.plain (OpenSpec.upto lexerTokenizesSpec)) lexerTokenizesUptoCard

/-- THE SECOND FORM's CARD OF 'brocadelaw13.LexerWords'. -/
def lexerWordsUptoCard : Claim7 := { stood := { row := lexerWordsUptoRow, standIns := [], harness := (true, "1d72b49cec00b5f5ba13afd05b910f68ffcd4616282f270799e08d86ffda6749"), looks := false }, kinds := [], alts := [], laidByText := true, laidKinds := [.listed, .data], laidTests := true, laidLooks := .later }
def LexerWordsUptoCardSaid : Prop := Claim7.holds Tryd.pinned (.plain (OpenSpec.upto lexerWordsSpec)) lexerWordsUptoCard

/-- THE SECOND FORM's CARD OF 'brocadelaw13.LexerJoinRoundTrip'. -/
def lexerJoinRoundTripUptoCard : Claim7 := { stood := { row := lexerJoinRoundTripUptoRow, standIns := [], harness := (true, "1d72b49cec00b5f5ba13afd05b910f68ffcd4616282f270799e08d86ffda6749"), looks := false }, kinds := [], alts := [], laidByText := true, laidKinds := [.listed, .data], laidTests := true, laidLooks := .later }
def LexerJoinRoundTripUptoCardSaid : Prop := Claim7.holds Tryd.pinned (.plain (OpenSpec.upto lexerJoinRoundTripSpec)) lexerJoinRoundTripUptoCard

/-- THE SECOND FORM's CARD OF 'brocadelaw13.LexerCoversText'. -/
def lexerCoversTextUptoCard : Claim7 := { stood := { row := lexerCoversTextUptoRow, standIns := [], harness := (true, "1d72b49cec00b5f5ba13afd05b910f68ffcd4616282f270799e08d86ffda6749"), looks := false }, kinds := [], alts := [], laidByText := true, laidKinds := [.listed, .data], laidTests := true, laidLooks := .later }
def LexerCoversTextUptoCardSaid : Prop := Claim7.holds Tryd.pinned (.plain (OpenSpec.upto lexerCoversTextSpec)) lexerCoversTextUptoCard

/-- THE SECOND FORM's CARD OF 'brocadelaw13.LexerLongWords'. -/
def lexerLongWordsUptoCard : Claim7 := { stood := { row := lexerLongWordsUptoRow, standIns := [], harness := (true, "1d72b49cec00b5f5ba13afd05b910f68ffcd4616282f270799e08d86ffda6749"), looks := false }, kinds := [], alts := [], laidByText := true, laidKinds := [.listed, .data], laidTests := true, laidLooks := .later }
def LexerLongWordsUptoCardSaid : Prop := Claim7.holds Tryd.pinned (.plain (OpenSpec.upto lexerLongWordsSpec)) lexerLongWordsUptoCard
end Rows
end Go.Proofs.YtndiieicjjifkaaDoor
