/- Permutation of axes: program and reference; the law TensorPermutes. Conditions: the ranges of Go's types. -/
import Derived.Test.YtlakfanockhngaaGreatDoorSUa
namespace Go.Proofs.YtlakfanockhngaaGreatDoor
open Go Go.RowKit Go.Vc
set_option linter.unusedVariables false
set_option linter.unusedSimpArgs false

/-! ### Orders of axes -/
/-! ### The orders that are accepted -/
/-! ### Permute -/
theorem Ten.refl {t : GTensor} {dn : List Nat} (ht : Ten t dn) : m_base_Tensor t t = some true := by
  have h1 := ht.shp.len; have h2 := ht.shp.le; have h3 := ht.len
  refine base_Tensor_refl ?_ ?_
  · rw [ht.shp.eq, ci_len]; omega
  · omega
end Go.Proofs.YtlakfanockhngaaGreatDoor
