/-
  DERIVED. GIVEN WITH THE SEED: THE CARDS: each row of YtnehbaocbcegpaaDoorRows.lean that lists a variable, with what it lists TIED to the program's text (the seventh form; the later family's looks); each row that meets fmt, with fmt's text TOLD by the authors' own Lean function (tested against real Go, not proved from fmt's source: count such statements apart). THE CARD IS WHAT COUNTS. Prove the row's statement (the work); the ties are given (YtnehbaocbcegpaaDoorTie.lean); close each card by the builder's one call (the guide's Derived/Test/ToyasCard.lean, 'card_holds'). Laid BY PROGRAM, IN A SANDBOX (cutbox-door.mjs). By AI agents, Wed Nov 11 2026. No macro, syntax, notation, axiom, sorry.
-/
import Derived.Test.YtnehbaocbcegpaaDoorRows
import GoSem.ClaimSeven
namespace Go.Proofs.YtnehbaocbcegpaaDoor
namespace Rows

/-- THE TIED CARD OF 'brocadelaw42.ArenaPlans'. -/
def arenaPlansCard : Claim7 := { stood := { row := arenaPlansRow, standIns := [], harness := (true, "ee4c5b9f0b98cb097c2dfbbdcdf2ebb478a122e2b6dc4a2093d8f03e612a59e5"), looks := false }, kinds := [], alts := [], laidByText := true, laidKinds := [.listed, .data], laidTests := true, laidLooks := .later }
def ArenaPlansCardSaid : Prop := Claim7.holds Tryd.pinned (.plain (OpenSpec.ofChange arenaPlansSpec)) arenaPlansCard

/-- THE TIED CARD OF 'brocadelaw42.ArenaPlanValid'. -/
def arenaPlanValidCard : Claim7 := { stood := { row := arenaPlanValidRow, standIns := [], harness := (true, "ee4c5b9f0b98cb097c2dfbbdcdf2ebb478a122e2b6dc4a2093d8f03e612a59e5"), looks := false }, kinds := [], alts := [], laidByText := true, laidKinds := [.listed, .data], laidTests := true, laidLooks := .later }
def ArenaPlanValidCardSaid : Prop := Claim7.holds Tryd.pinned (.plain (OpenSpec.ofChange arenaPlanValidSpec)) arenaPlanValidCard

/-- THE TIED CARD OF 'brocadelaw42.ArenaChecks'. -/
def arenaChecksCard : Claim7 := { stood := { row := arenaChecksRow, standIns := [], harness := (true, "ee4c5b9f0b98cb097c2dfbbdcdf2ebb478a122e2b6dc4a2093d8f03e612a59e5"), looks := false }, kinds := [], alts := [], laidByText := true, laidKinds := [.listed, .data], laidTests := true, laidLooks := .later }
def ArenaChecksCardSaid : Prop := Claim7.holds Tryd.pinned (.plain (OpenSpec.ofChange arenaChecksSpec)) arenaChecksCard

/-- THE TIED CARD OF 'brocadelaw42.ArenaLowerBound'. -/
def arenaLowerBoundCard : Claim7 := { stood := { row := arenaLowerBoundRow, standIns := [], harness := (true, "ee4c5b9f0b98cb097c2dfbbdcdf2ebb478a122e2b6dc4a2093d8f03e612a59e5"), looks := false }, kinds := [], alts := [], laidByText := true, laidKinds := [.listed, .data], laidTests := true, laidLooks := .later }
def ArenaLowerBoundCardSaid : Prop := Claim7.holds Tryd.pinned (.plain (OpenSpec.ofChange arenaLowerBoundSpec)) arenaLowerBoundCard

/-- THE TIED CARD OF 'brocadelaw42.ArenaOptimal'. -/
def arenaOptimalCard : Claim7 := { stood := { row := arenaOptimalRow, standIns := [], harness := (true, "ee4c5b9f0b98cb097c2dfbbdcdf2ebb478a122e2b6dc4a2093d8f03e612a59e5"), looks := false }, kinds := [], alts := [], laidByText := true, laidKinds := [.listed, .data], laidTests := true, laidLooks := .later }
def ArenaOptimalCardSaid : Prop := Claim7.holds Tryd.pinned (.plain (OpenSpec.ofChange arenaOptimalSpec)) arenaOptimalCard

/-- THE SECOND FORM's CARD OF 'brocadelaw42.ArenaPlans'. -/
def arenaPlansUptoCard : Claim7 := { stood := { row := arenaPlansUptoRow, standIns := [], harness := (true, "ee4c5b9f0b98cb097c2dfbbdcdf2ebb478a122e2b6dc4a2093d8f03e612a59e5"), looks := false }, kinds := [], alts := [], laidByText := true, laidKinds := [.listed, .data], laidTests := true, laidLooks := .later }
def ArenaPlansUptoCardSaid : Prop := Claim7.holds Tryd.pinned (.plain (OpenSpec.upto arenaPlansSpec)) arenaPlansUptoCard

/-- THE SECOND FORM's CARD OF 'brocadelaw42.ArenaPlanValid'. -/
def arenaPlanValidUptoCard : Claim7 := { stood := { row := arenaPlanValidUptoRow, standIns := [], harness := (true, "ee4c5b9f0b98cb097c2dfbbdcdf2ebb478a122e2b6dc4a2093d8f03e612a59e5"), looks := false }, kinds := [], alts := [], laidByText := true, laidKinds := [.listed, .data], laidTests := true, laidLooks := .later }
def ArenaPlanValidUptoCardSaid : Prop := Claim7.holds Tryd.pinned (.plain (OpenSpec.upto arenaPlanValidSpec)) arenaPlanValidUptoCard

/-- THE SECOND FORM's CARD OF 'brocadelaw42.ArenaChecks'. -/
def arenaChecksUptoCard : Claim7 := { stood := { row := arenaChecksUptoRow, standIns := [], harness := (true, "ee4c5b9f0b98cb097c2dfbbdcdf2ebb478a122e2b6dc4a2093d8f03e612a59e5"), looks := false }, kinds := [], alts := [], laidByText := true, laidKinds := [.listed, .data], laidTests := true, laidLooks := .later }
def ArenaChecksUptoCardSaid : Prop := Claim7.holds Tryd.pinned (.plain (OpenSpec.upto arenaChecksSpec)) arenaChecksUptoCard

/-- THE SECOND FORM's CARD OF 'brocadelaw42.ArenaLowerBound'. -/
def arenaLowerBoundUptoCard : Claim7 := { stood := { row := arenaLowerBoundUptoRow, standIns := [], harness := (true, "ee4c5b9f0b98cb097c2dfbbdcdf2ebb478a122e2b6dc4a2093d8f03e612a59e5"), looks := false }, kinds := [], alts := [], laidByText := true, laidKinds := [.listed, .data], laidTests := true, laidLooks := .later }
def ArenaLowerBoundUptoCardSaid : Prop := Claim7.holds Tryd.pinned (.plain (OpenSpec.upto arenaLowerBoundSpec)) arenaLowerBoundUptoCard

/-- THE SECOND FORM's CARD OF 'brocadelaw42.ArenaOptimal'. -/
def arenaOptimalUptoCard : Claim7 := { stood := { row := arenaOptimalUptoRow, standIns := [], harness := (true, "ee4c5b9f0b98cb097c2dfbbdcdf2ebb478a122e2b6dc4a2093d8f03e612a59e5"), looks := false }, kinds := [], alts := [], laidByText := true, laidKinds := [.listed, .data], laidTests := true, laidLooks := .later }
def ArenaOptimalUptoCardSaid : Prop := Claim7.holds Tryd.pinned (.plain (OpenSpec.upto arenaOptimalSpec)) arenaOptimalUptoCard
end Rows
end Go.Proofs.YtnehbaocbcegpaaDoor
