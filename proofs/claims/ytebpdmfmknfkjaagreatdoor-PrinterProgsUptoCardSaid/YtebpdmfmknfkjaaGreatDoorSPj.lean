import Derived.Test.YtebpdmfmknfkjaaGreatDoorSPf
namespace Go.Proofs.YtebpdmfmknfkjaaGreatDoor
open Go Go.RowKit Go.Vc
set_option linter.unusedVariables false
set_option linter.unusedSimpArgs false
theorem fraction {t : GType} {v : GVal} (ht : tyB t = true) (hv : okV t v = true) : ∃ x, m_value_fraction t v = some x ∧ m_ref04_Value t v = some x ∧ frOK x = true := by
 unfold m_value_fraction m_ref04_Value m_fixed_ToFrac
 by_cases k2 : t.Kind = 2
 ·obtain ⟨q1, q2, q3, q4, q5, q6, q7⟩ := tyB_fix ht k2
  obtain ⟨v1, v2, v3⟩ := okV_fix ht k2 hv
  have hp := pw_bd (n := t.Frac) q4
  simp only [k2, decide_true, if_true, fixed_check1 ht k2 hv, Option.bind_some, Bool.not_true, Bool.false_eq_true, if_false, q3, pw_sh' q3 q4, Int.one_mul, bind_pair, ref04_step q3 q4]
  rw [wi (p := pw t.Frac) ⟨by omega, by omega⟩, ref01_New ⟨by omega, by omega⟩ ⟨by omega, by omega⟩]
  unfold m_frac_New
  rw [show decide (pw t.Frac = 0) = false by simp; omega, frac_magnitude ⟨by omega, by omega⟩, frac_magnitude ⟨by omega, by omega⟩]
  simp only [Bool.false_eq_true, if_false, Option.bind_some]
  rw [if_neg (show ¬ pw t.Frac < 0 by omega), frac_gcd (by split <;> omega) (by omega) (by omega), Option.bind_some]
  generalize hm : (if v.N < 0 then -v.N else v.N) = m
  have hm0 : 0 ≤ m ∧ m ≤ 1073741824 := by rw [← hm]; split <;> omega
  have hsgn : v.N = if v.N < 0 then -m else m := by rw [← hm]; split <;> omega
  generalize hg : Int.gcd m (pw t.Frac) = g
  have hg0 : g ≠ 0 := fun h => by
   rw [h] at hg
   have := (Int.gcd_eq_zero_iff.1 hg).2
   omega
  have hgi : (g : Int) ≠ 0 := by omega
  rw [if_pos hgi]
  have d1 : (g : Int) ∣ m := by rw [← hg]; exact Int.gcd_dvd_left ..
  have d2 : (g : Int) ∣ pw t.Frac := by rw [← hg]; exact Int.gcd_dvd_right ..
  obtain ⟨x, hx⟩ := d1
  obtain ⟨y, hy⟩ := d2
  have ex : Int.tdiv m g = x := by rw [hx]; exact Int.mul_tdiv_cancel_left _ hgi
  have ey : Int.tdiv (pw t.Frac) g = y := by rw [hy]; exact Int.mul_tdiv_cancel_left _ hgi
  have hx0 : 0 ≤ x ∧ x ≤ 1073741824 := by
   have h1 : 0 ≤ x := by
    rcases Int.lt_or_le x 0 with h | h
    ·have := Int.mul_neg_of_pos_of_neg (show (0 : Int) < g by omega) h; omega
    ·exact h
   have := Int.mul_le_mul_of_nonneg_right (show (1 : Int) ≤ g by omega) h1
   omega
  have hy0 : 1 ≤ y ∧ y ≤ 1073741824 := by
   have h1 : 0 < y := by
    rcases Int.lt_or_le 0 y with h | h
    ·exact h
    ·have := Int.mul_nonpos_of_nonneg_of_nonpos (show (0 : Int) ≤ g by omega) h; omega
   have := Int.mul_le_mul_of_nonneg_right (show (1 : Int) ≤ g by omega) (show 0 ≤ y by omega)
   omega
  have hco : Int.gcd x y = 1 := by
   have h1 : Int.gcd (g * x) (g * y) = g := by rw [← hx, ← hy]; exact hg
   rw [Int.gcd_mul_left] at h1
   have h2 : (g : Int).natAbs = g := by simp
   rw [h2] at h1
   exact Nat.eq_of_mul_eq_mul_left (Nat.pos_of_ne_zero hg0) (by rw [h1, Nat.mul_one])
  rw [ex, ey, wu (p := x) ⟨by omega, by omega⟩, wu (p := y) ⟨by omega, by omega⟩, wi (p := x) ⟨by omega, by omega⟩, wi (p := y) ⟨by omega, by omega⟩, wi (p := -x) ⟨by omega, by omega⟩]
  rw [if_neg (by simp; omega)]
  have hpd : decide (pw t.Frac < 0) = false := by simp; omega
  rw [hpd]
  by_cases hn : v.N < 0
  ·refine ⟨⟨-x, y⟩, by simp [hn], by simp [hn], ?_⟩
   unfold frOK
   rw [Int.neg_gcd]
   simp [hco]; omega
  ·refine ⟨⟨x, y⟩, by simp [hn], by simp [hn], ?_⟩
   unfold frOK
   simp [hco]; omega
 ·refine ⟨v, by simp [k2], by simp [k2], ?_⟩
  rcases tyB_kind ht with k | k | k
  ·exact okV_fr k hv
  ·exact absurd k k2
  ·obtain ⟨h1, h2, h3⟩ := okV_int k hv; exact frOK_D1 h1 ⟨by omega, by omega⟩
end Go.Proofs.YtebpdmfmknfkjaaGreatDoor
namespace Go.Proofs.YtebpdmfmknfkjaaGreatDoor
open Go Go.RowKit Go.Vc
set_option linter.unusedVariables false
set_option linter.unusedSimpArgs false
end Go.Proofs.YtebpdmfmknfkjaaGreatDoor
namespace Go.Proofs.YtebpdmfmknfkjaaGreatDoor
open Go Go.RowKit Go.Vc
set_option linter.unusedVariables false
set_option linter.unusedSimpArgs false
def leq (op : Int) (x y : GVal) : Prop := if op = 9 then x.N * y.D ≤ y.N * x.D else y.N * x.D ≤ x.N * y.D
end Go.Proofs.YtebpdmfmknfkjaaGreatDoor
namespace Go.Proofs.YtebpdmfmknfkjaaGreatDoor
open Go Go.RowKit Go.Vc
set_option linter.unusedVariables false
set_option linter.unusedSimpArgs false
end Go.Proofs.YtebpdmfmknfkjaaGreatDoor
