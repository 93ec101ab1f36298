import Derived.Test.YtpedfojbfbccaaaGreatSXd
namespace Go.Proofs.YtpedfojbfbccaaaGreat
open Go Go.RowKit Go.Vc
set_option linter.unusedVariables false
set_option linter.unusedSimpArgs false
end Go.Proofs.YtpedfojbfbccaaaGreat
