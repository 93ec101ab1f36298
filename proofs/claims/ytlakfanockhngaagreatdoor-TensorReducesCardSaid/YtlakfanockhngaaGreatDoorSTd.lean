import Derived.Test.YtlakfanockhngaaGreatDoorSTc
namespace Go.Proofs.YtlakfanockhngaaGreatDoor
open Go Go.RowKit Go.Vc
set_option linter.unusedVariables false
set_option linter.unusedSimpArgs false
theorem num_split {O m I j : Nat} (h : j < O * m * I) : j / (m * I) < O ∧ (j / I) % m < m ∧ j % I < I ∧ j = (j / (m * I) * m + (j / I) % m) * I + j % I := by
 have hI : 0 < I := by rcases Nat.eq_zero_or_pos I with e | e; subst e; simp at h; exact e
 have hm : 0 < m := by rcases Nat.eq_zero_or_pos m with e | e; subst e; simp at h; exact e
 refine ⟨?_, Nat.mod_lt _ hm, Nat.mod_lt _ hI, ?_⟩
 ·exact (Nat.div_lt_iff_lt_mul (Nat.mul_pos hm hI)).2 (by rw [← Nat.mul_assoc]; exact h)
 ·have e1 : j / (m * I) * m + (j / I) % m = j / I := by
   rw [Nat.mul_comm m I, ← Nat.div_div_eq_div_mul, Nat.mul_comm]; exact Nat.div_add_mod _ _
  rw [e1, Nat.mul_comm]; exact (Nat.div_add_mod j I).symm
structure Ax (dn : List Nat) (i : Nat) (d1 : List Nat) (m : Nat) (d2 : List Nat) : Prop where
 eq : dn = d1 ++ m :: d2
 len : d1.length = i
theorem Ax.of {dn : List Nat} {i m : Nat} (h : dn[i]? = some m) : Ax dn i (dn.take i) m (dn.drop (i + 1)) := ⟨(axis_split h).1, (axis_split h).2⟩
end Go.Proofs.YtlakfanockhngaaGreatDoor
