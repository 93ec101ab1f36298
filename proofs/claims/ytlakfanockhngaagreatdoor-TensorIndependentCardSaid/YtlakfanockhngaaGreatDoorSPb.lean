import Derived.Test.YtlakfanockhngaaGreatDoorSPa
namespace Go.Proofs.YtlakfanockhngaaGreatDoor
open Go Go.RowKit Go.Vc
set_option linter.unusedVariables false
set_option linter.unusedSimpArgs false
end Go.Proofs.YtlakfanockhngaaGreatDoor
