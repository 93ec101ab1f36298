/- Plain functions for what is taken from the shelf, and the tables that they lean on. -/
import Derived.Test.YtpedfojbfbccaaaLfO
import Derived.Test.YtpedfojbfbccaaaLfS
import Derived.Test.YtpedfojbfbccaaaLfQ
import Derived.Test.YtpedfojbfbccaaaProg
import Derived.KernelRfl
namespace Go.Proofs.Ytpedfojbfbccaaa
open Go Go.RowKit Go.Vc
set_option linter.unusedVariables false

end Go.Proofs.Ytpedfojbfbccaaa
