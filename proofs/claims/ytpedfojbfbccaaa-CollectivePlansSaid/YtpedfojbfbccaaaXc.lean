/- What is taken from the shelf does what its plain function says. -/
import Derived.Test.YtpedfojbfbccaaaMd
import Derived.Test.YtpedfojbfbccaaaShelf
namespace Go.Proofs.Ytpedfojbfbccaaa
open Go Go.RowKit Go.Vc
set_option linter.unusedVariables false

end Go.Proofs.Ytpedfojbfbccaaa
