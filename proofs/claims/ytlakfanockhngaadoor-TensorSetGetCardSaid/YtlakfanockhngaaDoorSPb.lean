/- The law of the type queries, in plain terms: it is true for every type and number. Conditions: the ranges of int and int64. -/
import Derived.Test.YtlakfanockhngaaDoorSPa
namespace Go.Proofs.YtlakfanockhngaaDoor
open Go Go.RowKit Go.Vc
set_option linter.unusedVariables false
set_option linter.unusedSimpArgs false

end Go.Proofs.YtlakfanockhngaaDoor
