import Derived.Test.YtnehbaocbcegpaaDoorSPh
namespace Go.Proofs.YtnehbaocbcegpaaDoor
open Go Go.RowKit Go.Vc
set_option linter.unusedVariables false
set_option linter.unusedSimpArgs false
end Go.Proofs.YtnehbaocbcegpaaDoor
