/- The operators: program and reference agree. Conditions: the ranges of int and int64. -/
import Derived.Test.YtpedfojbfbccaaaGreatSPd
namespace Go.Proofs.YtpedfojbfbccaaaGreat
open Go Go.RowKit Go.Vc
set_option linter.unusedVariables false
set_option linter.unusedSimpArgs false

/-! ### Comparing -/
/-! ### Whole numbers -/
end Go.Proofs.YtpedfojbfbccaaaGreat
