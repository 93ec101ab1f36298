/- What a reading of an argument tells of the plain value: printed by a program of my own. -/
import Derived.Test.YtpedfojbfbccaaaMd
namespace Go.Proofs.Ytpedfojbfbccaaa
open Go Go.RowKit Go.Vc
set_option linter.unusedVariables false
set_option linter.unusedSimpArgs false

open Go.WideShapes
end Go.Proofs.Ytpedfojbfbccaaa
