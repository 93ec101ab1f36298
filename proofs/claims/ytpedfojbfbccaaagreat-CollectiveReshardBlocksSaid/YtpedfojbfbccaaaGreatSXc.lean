import Derived.Test.YtpedfojbfbccaaaGreatSMd
import Derived.Test.YtpedfojbfbccaaaGreatShelf
namespace Go.Proofs.YtpedfojbfbccaaaGreat
open Go Go.RowKit Go.Vc
set_option linter.unusedVariables false
end Go.Proofs.YtpedfojbfbccaaaGreat
