import Derived.Test.YtlakfanockhngaaDoorSPf
namespace Go.Proofs.YtlakfanockhngaaDoor
open Go Go.RowKit Go.Vc
set_option linter.unusedVariables false
set_option linter.unusedSimpArgs false
end Go.Proofs.YtlakfanockhngaaDoor
