import Derived.Test.YtlakfanockhngaaGreatDoorSTg
namespace Go.Proofs.YtlakfanockhngaaGreatDoor
open Go Go.RowKit Go.Vc
set_option linter.unusedVariables false
set_option linter.unusedSimpArgs false
theorem mid_set {d1 d2 : List Nat} {i a b : Nat} (h : d1.length = i) : (d1 ++ a :: d2).set i b = d1 ++ b :: d2 := by
 rw [List.set_append_right _ _ (by omega), h]; simp
theorem mid_at {d1 d2 : List Nat} {i a : Nat} (h : d1.length = i) : lat (ci (d1 ++ a :: d2)) (i : Int) = some (a : Int) :=
 ci_at (by rw [List.getElem?_append_right (by omega), h]; simp)
end Go.Proofs.YtlakfanockhngaaGreatDoor
