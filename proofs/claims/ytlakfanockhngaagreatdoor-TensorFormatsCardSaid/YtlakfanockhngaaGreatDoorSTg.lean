/- Tensors joined along an axis: program and reference. Conditions: at most 1000 tensors. -/
import Derived.Test.YtlakfanockhngaaGreatDoorSTf
namespace Go.Proofs.YtlakfanockhngaaGreatDoor
open Go Go.RowKit Go.Vc
set_option linter.unusedVariables false
set_option linter.unusedSimpArgs false

/-! ### Rows of several lists -/
def pick {α : Type} (I o i : Nat) : List (List α × Nat) → Nat → Option α
  | [], _ => none
  | p :: ps, q => if q < p.2 then p.1[(o * p.2 + q) * I + i]? else pick I o i ps (q - p.2)
/-! ### What Concat gives -/
theorem Jn.pos {l : List GTensor} {i : Nat} {ty : GType} {d1 d2 ms : List Nat} (h : Jn l i ty d1 d2 ms) : Pos d1 ∧ Pos d2 ∧ (∀ m ∈ ms, 1 ≤ m) ∧ d1.length + 1 + d2.length ≤ 6 ∧ 1 ≤ ms.length := by
  have hn : 1 ≤ l.length := by rcases l with _ | ⟨a, r⟩; exact absurd rfl h.ne; simp
  have hm : 1 ≤ ms.length := by rw [← h.len]; exact hn
  have key : ∀ m ∈ ms, Pos (d1 ++ m :: d2) ∧ (d1 ++ m :: d2).length ≤ 6 := fun m hm => by
    obtain ⟨k, hk⟩ := List.mem_iff_getElem?.1 hm
    obtain ⟨t, ht⟩ := at_some (l := l) (i := k) (by rw [h.len]; exact (List.getElem?_eq_some_iff.1 hk).1)
    have := (h.ten k t m ht hk).1.shp
    exact ⟨this.pos, this.len⟩
  rcases ms with _ | ⟨m, ms'⟩
  · simp at hm
  have k0 := key m (by simp)
  refine ⟨k0.1.app.1, fun x hx => k0.1 x (by simp [hx]), fun q hq => (key q hq).1 q (by simp), by have := k0.2; simp at this; omega, hm⟩
end Go.Proofs.YtlakfanockhngaaGreatDoor
