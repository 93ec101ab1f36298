import Derived.Test.YtlakfanockhngaaGreatDoorSTi
namespace Go.Proofs.YtlakfanockhngaaGreatDoor
open Go Go.RowKit Go.Vc
set_option linter.unusedVariables false
set_option linter.unusedSimpArgs false
theorem ex12 : m_law12_examples = some true := by kernel_rfl
theorem TeR.of {t : GTensor} (h : okGTensor t) : TeR t := ⟨TyR.of h.1, fun v hv => VaR.of (h.2.2.1 v hv)⟩
theorem small12 (t : GTensor) (n : Int) : m_law12_Small t n = some ((decide ((t.Vals.length : Int) ≤ n)) && (decide ((t.Dims.length : Int) ≤ 20))) := rfl
theorem base_Tensor_refl {a : GTensor} (h1 : a.Dims.length < 4611686018427387904) (h2 : a.Vals.length < 4611686018427387904) : m_base_Tensor a a = some true := by
 rw [base_Tensor a a h1 h2, decide_eq_true rfl]
theorem z0_refl : m_base_Tensor z0 z0 = some true := base_Tensor_refl (by simp [z0]) (by simp [z0])
theorem clone_o {t : GTensor} (h1 : t.Dims.length ≤ 4294967296) (h2 : t.Vals.length ≤ 4294967296) : m_tensor_clone_o t = some t := by
 unfold m_tensor_clone_o
 rw [lapp_nil h1, Option.bind_some, lapp_nil h2]; rfl
end Go.Proofs.YtlakfanockhngaaGreatDoor
