/- The law of casts, in plain terms. Conditions: the ranges of int and int64. -/
import Derived.Test.YtpedfojbfbccaaaGreatSPf
namespace Go.Proofs.YtpedfojbfbccaaaGreat
open Go Go.RowKit Go.Vc
set_option linter.unusedVariables false
set_option linter.unusedSimpArgs false

-- D-only
-- D-end
end Go.Proofs.YtpedfojbfbccaaaGreat
