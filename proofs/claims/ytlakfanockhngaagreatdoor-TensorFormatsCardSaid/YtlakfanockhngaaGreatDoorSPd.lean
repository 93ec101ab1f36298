/- Operations on numbers: program and reference agree. Conditions: valid types and numbers. -/
import Derived.Test.YtlakfanockhngaaGreatDoorSPc
namespace Go.Proofs.YtlakfanockhngaaGreatDoor
open Go Go.RowKit Go.Vc
set_option linter.unusedVariables false
set_option linter.unusedSimpArgs false

/-! ### Narrowing -/
end Go.Proofs.YtlakfanockhngaaGreatDoor
