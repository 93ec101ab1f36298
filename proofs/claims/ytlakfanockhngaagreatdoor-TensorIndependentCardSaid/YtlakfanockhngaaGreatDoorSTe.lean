import Derived.Test.YtlakfanockhngaaGreatDoorSTd
namespace Go.Proofs.YtlakfanockhngaaGreatDoor
open Go Go.RowKit Go.Vc
set_option linter.unusedVariables false
set_option linter.unusedSimpArgs false
def z0 : GTensor := ⟨⟨0, 0, 0, 0, 0⟩, [], []⟩
end Go.Proofs.YtlakfanockhngaaGreatDoor
