/- The law of the rounding error, in plain terms. Conditions: the ranges of int and int64. -/
import Derived.Test.YtpedfojbfbccaaaGreatSPg
namespace Go.Proofs.YtpedfojbfbccaaaGreat
open Go Go.RowKit Go.Vc
set_option linter.unusedVariables false
set_option linter.unusedSimpArgs false

end Go.Proofs.YtpedfojbfbccaaaGreat
