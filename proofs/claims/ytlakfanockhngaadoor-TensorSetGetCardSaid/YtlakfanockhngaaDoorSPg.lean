/- The law of casts, in plain terms. Conditions: the ranges of int and int64. -/
import Derived.Test.YtlakfanockhngaaDoorSPf
namespace Go.Proofs.YtlakfanockhngaaDoor
open Go Go.RowKit Go.Vc
set_option linter.unusedVariables false
set_option linter.unusedSimpArgs false

-- D-only
-- D-end
end Go.Proofs.YtlakfanockhngaaDoor
