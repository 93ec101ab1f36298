/- The laws of the operators and casts, in plain terms. Conditions: the ranges of int and int64. -/
import Derived.Test.YtlakfanockhngaaDoorSPe
namespace Go.Proofs.YtlakfanockhngaaDoor
open Go Go.RowKit Go.Vc
set_option linter.unusedVariables false
set_option linter.unusedSimpArgs false

/-! ### Fixed point -/
/-! ### Fractions -/
/-! ### Apply -/
end Go.Proofs.YtlakfanockhngaaDoor
