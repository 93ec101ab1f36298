import Derived.Test.YtpedfojbfbccaaaGreatSLfO
import Derived.Test.YtpedfojbfbccaaaGreatSLfS
import Derived.Test.YtpedfojbfbccaaaGreatSLfQ
import Derived.Test.YtpedfojbfbccaaaGreatProg
import Derived.KernelRfl
namespace Go.Proofs.YtpedfojbfbccaaaGreat
open Go Go.RowKit Go.Vc
set_option linter.unusedVariables false
end Go.Proofs.YtpedfojbfbccaaaGreat
