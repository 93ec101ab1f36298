import Derived.Test.YtlakfanockhngaaDoorSTi
namespace Go.Proofs.YtlakfanockhngaaDoor
open Go Go.RowKit Go.Vc
set_option linter.unusedVariables false
set_option linter.unusedSimpArgs false
theorem ex12 : m_law12_examples = some true := by kernel_rfl
theorem TeR.of {t : GTensor} (h : okGTensor t) : TeR t := ⟨TyR.of h.1, fun v hv => VaR.of (h.2.2.1 v hv)⟩
theorem small12 (t : GTensor) (n : Int) : m_law12_Small t n = some ((decide ((t.Vals.length : Int) ≤ n)) && (decide ((t.Dims.length : Int) ≤ 20))) := rfl
theorem clone_o {t : GTensor} (h1 : t.Dims.length ≤ 4294967296) (h2 : t.Vals.length ≤ 4294967296) : m_tensor_clone_o t = some t := by
 unfold m_tensor_clone_o
 rw [lapp_nil h1, Option.bind_some, lapp_nil h2]; rfl
end Go.Proofs.YtlakfanockhngaaDoor
