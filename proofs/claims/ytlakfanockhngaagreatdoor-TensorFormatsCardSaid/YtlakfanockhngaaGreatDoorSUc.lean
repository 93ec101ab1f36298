/- A tensor cut in two and joined, permuted and permuted back: the law TensorRoundTrips. Conditions: the ranges of Go's types. -/
import Derived.Test.YtlakfanockhngaaGreatDoorSUb
namespace Go.Proofs.YtlakfanockhngaaGreatDoor
open Go Go.RowKit Go.Vc
set_option linter.unusedVariables false
set_option linter.unusedSimpArgs false

/-! ### Cut and join -/
/-! ### Permuted back -/
end Go.Proofs.YtlakfanockhngaaGreatDoor
