/- The law of reordering, in plain terms: the reduction of a reversed list. Conditions: the ranges of int and int64. -/
import Derived.Test.YtlakfanockhngaaGreatDoorSPh
namespace Go.Proofs.YtlakfanockhngaaGreatDoor
open Go Go.RowKit Go.Vc
set_option linter.unusedVariables false
set_option linter.unusedSimpArgs false

/-! ### Fractions as rational numbers -/
/-! ### The reduction, as a fold -/
/-! ### Exact folds -/
/-! ### The least and the greatest -/
def leq (op : Int) (x y : GVal) : Prop := if op = 9 then x.N * y.D ≤ y.N * x.D else y.N * x.D ≤ x.N * y.D
/-! ### The law -/
end Go.Proofs.YtlakfanockhngaaGreatDoor
