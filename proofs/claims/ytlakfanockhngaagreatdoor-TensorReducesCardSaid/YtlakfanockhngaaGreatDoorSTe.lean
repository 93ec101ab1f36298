import Derived.Test.YtlakfanockhngaaGreatDoorSTd
namespace Go.Proofs.YtlakfanockhngaaGreatDoor
open Go Go.RowKit Go.Vc
set_option linter.unusedVariables false
set_option linter.unusedSimpArgs false
def z0 : GTensor := ⟨⟨0, 0, 0, 0, 0⟩, [], []⟩
theorem ci_take (l : List Nat) (i : Nat) : (ci l).take i = ci (l.take i) := by simp [ci]
theorem ci_drop (l : List Nat) (i : Nat) : (ci l).drop i = ci (l.drop i) := by simp [ci]
end Go.Proofs.YtlakfanockhngaaGreatDoor
