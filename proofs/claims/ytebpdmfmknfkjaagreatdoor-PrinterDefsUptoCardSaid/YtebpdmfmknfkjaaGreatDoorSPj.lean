import Derived.Test.YtebpdmfmknfkjaaGreatDoorSPg
namespace Go.Proofs.YtebpdmfmknfkjaaGreatDoor
open Go Go.RowKit Go.Vc
set_option linter.unusedVariables false
set_option linter.unusedSimpArgs false
end Go.Proofs.YtebpdmfmknfkjaaGreatDoor
namespace Go.Proofs.YtebpdmfmknfkjaaGreatDoor
open Go Go.RowKit Go.Vc
set_option linter.unusedVariables false
set_option linter.unusedSimpArgs false
def leq (op : Int) (x y : GVal) : Prop := if op = 9 then x.N * y.D ≤ y.N * x.D else y.N * x.D ≤ x.N * y.D
end Go.Proofs.YtebpdmfmknfkjaaGreatDoor
namespace Go.Proofs.YtebpdmfmknfkjaaGreatDoor
open Go Go.RowKit Go.Vc
set_option linter.unusedVariables false
set_option linter.unusedSimpArgs false
end Go.Proofs.YtebpdmfmknfkjaaGreatDoor
