import Derived.Test.YtnehbaocbcegpaaDoorSTa
namespace Go.Proofs.YtnehbaocbcegpaaDoor
open Go Go.RowKit Go.Vc
set_option linter.unusedVariables false
set_option linter.unusedSimpArgs false
section
variable {α : Type}
end
section
variable {α : Type}
end
end Go.Proofs.YtnehbaocbcegpaaDoor
