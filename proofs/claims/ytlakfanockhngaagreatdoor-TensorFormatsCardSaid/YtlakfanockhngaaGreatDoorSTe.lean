/- The part of a tensor between two indices of an axis: program and reference. Conditions: stated with each lemma. -/
import Derived.Test.YtlakfanockhngaaGreatDoorSTd
namespace Go.Proofs.YtlakfanockhngaaGreatDoor
open Go Go.RowKit Go.Vc
set_option linter.unusedVariables false
set_option linter.unusedSimpArgs false

/-! ### Lists made element by element -/
/-! ### Gathering -/
def z0 : GTensor := ⟨⟨0, 0, 0, 0, 0⟩, [], []⟩
/-! ### Slices -/
theorem Ax.shp {d : List Int} {dn d1 d2 : List Nat} {i m k : Nat} (h : Ax dn i d1 m d2) (hs : Shp d dn) (hk1 : 1 ≤ k) (hkm : k ≤ m) : Shp (ci (dn.set i k)) (dn.set i k) := by
  have ha := h.set k
  obtain ⟨p1, pm, p2⟩ := h.pos hs.pos
  have hp := h.prd
  refine ⟨rfl, ?_, ?_, by rw [List.length_set]; exact hs.len⟩
  · rw [ha.eq]
    intro x hx
    simp only [List.mem_append, List.mem_cons] at hx
    rcases hx with hx | rfl | hx
    · exact p1 x hx
    · exact hk1
    · exact p2 x hx
  · rw [ha.prd]
    refine Nat.le_trans ?_ hs.le
    rw [hp]
    exact Nat.mul_le_mul_right _ (Nat.mul_le_mul_left _ hkm)
end Go.Proofs.YtlakfanockhngaaGreatDoor
