/- Elementwise application of a function: the law TensorZips. Conditions: the ranges of Go's types. -/
import Derived.Test.YtlakfanockhngaaGreatDoorSUd
namespace Go.Proofs.YtlakfanockhngaaGreatDoor
open Go Go.RowKit Go.Vc
set_option linter.unusedVariables false
set_option linter.unusedSimpArgs false

/-! ### Results one after the other, until the first error -/
/-! ### Zip -/
end Go.Proofs.YtlakfanockhngaaGreatDoor
