import Derived.Test.YtnehbaocbcegpaaDoorSVb
namespace Go.Proofs.YtnehbaocbcegpaaDoor.Soint
open Go Go.RowKit Go.Vc
set_option linter.unusedVariables false
set_option linter.unusedSimpArgs false
variable {cmp : Int → Int → Option Int} {lt : Int → Int → Prop}
end Go.Proofs.YtnehbaocbcegpaaDoor.Soint
