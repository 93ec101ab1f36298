import Derived.Test.YtnehbaocbcegpaaDoorSVe
import Derived.Test.YtnehbaocbcegpaaDoorSVui
import Derived.Test.YtnehbaocbcegpaaDoorSVus
namespace Go.Proofs.YtnehbaocbcegpaaDoor
open Go Go.RowKit Go.Vc
set_option linter.unusedVariables false
set_option linter.unusedSimpArgs false
def Ov (a b : GLifetime) : Prop := a.From ≤ b.To ∧ b.From ≤ a.To
instance (a b : GLifetime) : Decidable (Ov a b) := by unfold Ov; infer_instance
def Cl (a b : GLifetime) (x y : Int) : Prop := Ov a b ∧ x < y + b.Size ∧ y < x + a.Size
instance (a b : GLifetime) (x y : Int) : Decidable (Cl a b x y) := by unfold Cl; infer_instance
theorem overlap_ok (a b : GLifetime) : m_liveness_Overlap a b = some (decide (Ov a b)) := by unfold m_liveness_Overlap; refine congrArg some ?_; rw [Bool.eq_iff_iff, Bool.and_eq_true, decide_eq_true_iff, decide_eq_true_iff, decide_eq_true_iff]; rfl
end Go.Proofs.YtnehbaocbcegpaaDoor
