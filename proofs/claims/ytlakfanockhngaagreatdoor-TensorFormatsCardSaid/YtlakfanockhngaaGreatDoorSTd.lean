/- Tensors along an axis: the part between two indices, and several one behind another. Plain lists; no program. Conditions: stated with each lemma. -/
import Derived.Test.YtlakfanockhngaaGreatDoorSTc
namespace Go.Proofs.YtlakfanockhngaaGreatDoor
open Go Go.RowKit Go.Vc
set_option linter.unusedVariables false
set_option linter.unusedSimpArgs false

/-! ### The part of a list between two indices of an axis -/
/-! ### The axis of a box -/
/-- Dimensions with an axis told apart. -/
structure Ax (dn : List Nat) (i : Nat) (d1 : List Nat) (m : Nat) (d2 : List Nat) : Prop where
  eq : dn = d1 ++ m :: d2
  len : d1.length = i
theorem Ax.of {dn : List Nat} {i m : Nat} (h : dn[i]? = some m) : Ax dn i (dn.take i) m (dn.drop (i + 1)) := ⟨(axis_split h).1, (axis_split h).2⟩
theorem Ax.at_ {dn d1 d2 : List Nat} {i m : Nat} (h : Ax dn i d1 m d2) : dn[i]? = some m := by
  rw [h.eq, List.getElem?_append_right (by rw [h.len]; exact Nat.le_refl _), h.len]; simp
theorem Ax.set {dn d1 d2 : List Nat} {i m : Nat} (h : Ax dn i d1 m d2) (k : Nat) : Ax (dn.set i k) i d1 k d2 := by
  refine ⟨?_, h.len⟩
  rw [h.eq, List.set_append_right _ _ (by rw [h.len]; exact Nat.le_refl _), h.len]; simp
theorem Ax.prd {dn d1 d2 : List Nat} {i m : Nat} (h : Ax dn i d1 m d2) : prd dn = Go.Proofs.YtlakfanockhngaaGreatDoor.prd d1 * m * Go.Proofs.YtlakfanockhngaaGreatDoor.prd d2 := by
  rw [h.eq, prd_app]; simp [Go.Proofs.YtlakfanockhngaaGreatDoor.prd, Nat.mul_assoc]
theorem Ax.pos {dn d1 d2 : List Nat} {i m : Nat} (h : Ax dn i d1 m d2) (hp : Pos dn) : Pos d1 ∧ 1 ≤ m ∧ Pos d2 := by
  rw [h.eq] at hp
  exact ⟨hp.app.1, hp m (by simp), fun x hx => hp x (by simp [hx])⟩
theorem Ax.off {dn d1 d2 p1 p2 : List Nat} {i m k : Nat} (h : Ax dn i d1 m d2) (hp : p1.length = d1.length) : off dn (p1 ++ k :: p2) = (Go.Proofs.YtlakfanockhngaaGreatDoor.off d1 p1 * m + k) * Go.Proofs.YtlakfanockhngaaGreatDoor.prd d2 + Go.Proofs.YtlakfanockhngaaGreatDoor.off d2 p2 := by
  rw [h.eq, off_app hp]
  simp only [Go.Proofs.YtlakfanockhngaaGreatDoor.off, Go.Proofs.YtlakfanockhngaaGreatDoor.prd, Nat.add_mul, Nat.mul_assoc, Nat.add_assoc]
end Go.Proofs.YtlakfanockhngaaGreatDoor
