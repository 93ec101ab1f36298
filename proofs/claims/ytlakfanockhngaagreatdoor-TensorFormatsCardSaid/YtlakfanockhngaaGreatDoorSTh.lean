/- Concat: program and reference give the same. Conditions: at most 1000 tensors. -/
import Derived.Test.YtlakfanockhngaaGreatDoorSTg
namespace Go.Proofs.YtlakfanockhngaaGreatDoor
open Go Go.RowKit Go.Vc
set_option linter.unusedVariables false
set_option linter.unusedSimpArgs false

theorem Jn.head {l : List GTensor} {i : Nat} {ty : GType} {d1 d2 ms : List Nat} (h : Jn l i ty d1 d2 ms) : ∃ t0 r m0 mr, l = t0 :: r ∧ ms = m0 :: mr ∧ r.length = mr.length := by
  have hl := h.len
  rcases l with _ | ⟨t0, r⟩
  · exact absurd rfl h.ne
  rcases ms with _ | ⟨m0, mr⟩
  · simp at hl
  exact ⟨t0, r, m0, mr, rfl, rfl, by simpa using hl⟩
/-! ### The reference -/
end Go.Proofs.YtlakfanockhngaaGreatDoor
