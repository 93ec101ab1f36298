import Derived.Test.YtnehbaocbcegpaaDoorSTa
namespace Go.Proofs.YtnehbaocbcegpaaDoor
open Go Go.RowKit Go.Vc
set_option linter.unusedVariables false
set_option linter.unusedSimpArgs false
section
variable {α : Type}
theorem getm (B C : List α) (v : α) : (B ++ v :: C)[B.length]? = some v := by simp
theorem setm (B C : List α) (v u : α) : (B ++ v :: C).set B.length u = B ++ u :: C := by
 induction B with
 | nil => rfl
 | cons a B ih => simp
theorem latm (B C : List α) (v : α) {i : Nat} (h : i = B.length) : lat (B ++ v :: C) (i : Int) = some v := by subst h; exact lat_at (getm B C v)
theorem latm1 (A B : List α) (y x : α) {i : Nat} (h : i = A.length + 1) : lat (A ++ y :: x :: B) (i : Int) = some x := by
 rw [show A ++ y :: x :: B = (A ++ [y]) ++ x :: B by simp]; exact latm _ _ _ (by simpa using h)
theorem swpL (A B : List α) (x y : α) : ((A ++ y :: x :: B).set (A.length + 1) y).set A.length x = A ++ x :: y :: B := by
 induction A with
 | nil => rfl
 | cons a A ih => simp
structure SW (lt : α → α → Prop) : Prop where
 irr : ∀ x, ¬ lt x x
 asy : ∀ x y, lt x y → ¬ lt y x
 nt : ∀ x y z, ¬ lt x y → ¬ lt y z → ¬ lt x z
abbrev Sd (lt : α → α → Prop) (l : List α) : Prop := l.Pairwise fun x y => ¬ lt y x
end
section
variable {α : Type}
theorem mem_take' {R : List α} {t : Nat} {x : α} (h : x ∈ R.take t) : ∃ i, i < t ∧ R[i]? = some x := by
 obtain ⟨i, hi⟩ := List.mem_iff_getElem?.1 h
 rw [List.getElem?_take] at hi
 split at hi
 ·exact ⟨i, by assumption, hi⟩
 ·cases hi
end
end Go.Proofs.YtnehbaocbcegpaaDoor
