import Derived.Test.YtnehbaocbcegpaaDoorSVb
namespace Go.Proofs.YtnehbaocbcegpaaDoor.Soapi_Slot
open Go Go.RowKit Go.Vc
set_option linter.unusedVariables false
set_option linter.unusedSimpArgs false
variable {cmp : GSlot → GSlot → Option Int} {lt : GSlot → GSlot → Prop}
end Go.Proofs.YtnehbaocbcegpaaDoor.Soapi_Slot
