import Derived.Test.YtebpdmfmknfkjaaGreatDoorSYa
import Derived.Test.YtebpdmfmknfkjaaGreatDoorSWa
namespace Go.Proofs.YtebpdmfmknfkjaaGreatDoor
open Go Go.RowKit Go.Vc
set_option linter.unusedVariables false
set_option linter.unusedSimpArgs false
theorem alive15 : m_law15_alive = some true := by kernel_rfl
end Go.Proofs.YtebpdmfmknfkjaaGreatDoor
