/- The operators: program and reference agree. Conditions: the ranges of int and int64. -/
import Derived.Test.YtlakfanockhngaaDoorSPd
namespace Go.Proofs.YtlakfanockhngaaDoor
open Go Go.RowKit Go.Vc
set_option linter.unusedVariables false
set_option linter.unusedSimpArgs false

/-! ### Comparing -/
def ord (a b : Int) : Int := if a < b then -1 else if b < a then 1 else 0
/-! ### Whole numbers -/
end Go.Proofs.YtlakfanockhngaaDoor
