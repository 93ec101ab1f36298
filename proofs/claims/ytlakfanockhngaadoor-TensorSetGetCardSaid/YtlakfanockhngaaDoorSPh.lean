/- The law of the rounding error, in plain terms. Conditions: the ranges of int and int64. -/
import Derived.Test.YtlakfanockhngaaDoorSPg
namespace Go.Proofs.YtlakfanockhngaaDoor
open Go Go.RowKit Go.Vc
set_option linter.unusedVariables false
set_option linter.unusedSimpArgs false

end Go.Proofs.YtlakfanockhngaaDoor
