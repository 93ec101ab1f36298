import Derived.Test.YtebpdmfmknfkjaaGreatDoorSYi
namespace Go.Proofs.YtebpdmfmknfkjaaGreatDoor
open Go Go.RowKit Go.Vc
set_option linter.unusedVariables false
set_option linter.unusedSimpArgs false
theorem lt_of_at {α : Type} {l : List α} {i : Nat} {x : α} (h : l[i]? = some x) : i < l.length := (List.getElem?_eq_some_iff.1 h).1
def defF (d : GDef) : Prop := (0 ≤ d.Fold ∧ d.Fold ≤ 5) ∧ ((d.Fold = 0 ∨ d.Fold = 5) → d.Red = [])
instance (d : GDef) : Decidable (defF d) := inferInstanceAs (Decidable (_ ∧ _))
theorem gd_some {α : Type} [Inhabited α] (g : Bool) (v : α) : gd g (some v) = some (if g = true then v else default) := by unfold gd; cases g <;> rfl
end Go.Proofs.YtebpdmfmknfkjaaGreatDoor
namespace Go.Proofs.YtebpdmfmknfkjaaGreatDoor
open Go Go.RowKit Go.Vc
set_option linter.unusedVariables false
set_option linter.unusedSimpArgs false
end Go.Proofs.YtebpdmfmknfkjaaGreatDoor
