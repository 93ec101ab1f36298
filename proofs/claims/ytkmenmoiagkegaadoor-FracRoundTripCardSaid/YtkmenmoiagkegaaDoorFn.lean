/- What New answers, by the fraction that it is given. Conditions: the range of int64. -/
import Derived.Test.YtkmenmoiagkegaaDoorFf
namespace Go.Proofs.YtkmenmoiagkegaaDoor
open Go Go.RowKit Go.Vc
set_option linter.unusedVariables false
set_option linter.unusedSimpArgs false

/-- New, told by the numerator and denominator in lowest terms. -/
theorem New_full {n d : Int} (hn : R64 n) (hd : R64 d) (h0 : d ≠ 0) : ∃ q e x y, m_frac_New n d = some (q, e) ∧ 1 ≤ y ∧ Int.gcd x y = 1 ∧ x * d = n * y ∧ (((2147483647 < x ∨ x < -2147483647 ∨ 2147483647 < y) ∧ e = 3 ∧ q = ⟨0, 0⟩) ∨ (¬ (2147483647 < x ∨ x < -2147483647 ∨ 2147483647 < y) ∧ e = 0 ∧ q = ⟨x, y⟩)) := by
  obtain ⟨n1, n2⟩ := hn
  obtain ⟨d1, d2⟩ := hd
  unfold m_frac_New
  simp only [h0, decide_false, Bool.false_eq_true, if_false, Option.bind_some]
  rw [frac_magnitude ⟨n1, n2⟩, frac_magnitude ⟨d1, d2⟩, Option.bind_some, Option.bind_some, frac_gcd (by split <;> omega) (by split <;> omega) (by split <;> omega), Option.bind_some]
  generalize hneg : (decide (n < 0) != decide (d < 0)) = neg
  generalize hm : (if n < 0 then -n else n) = m
  generalize hk : (if d < 0 then -d else d) = k
  have hm0 : 0 ≤ m ∧ m ≤ 9223372036854775808 := by rw [← hm]; split <;> omega
  have hk0 : 1 ≤ k ∧ k ≤ 9223372036854775808 := by rw [← hk]; split <;> omega
  have hnm : n * k = (if neg then -m else m) * d := by
    rw [← hneg, ← hm, ← hk]
    by_cases c1 : n < 0 <;> by_cases c2 : d < 0 <;> simp [c1, c2, Int.neg_mul, Int.mul_neg]
  generalize hg : Int.gcd m k = g
  have hg0 : g ≠ 0 := fun h => by
    rw [h] at hg
    have := (Int.gcd_eq_zero_iff.1 hg).2
    omega
  have hgi : (g : Int) ≠ 0 := by omega
  rw [if_pos hgi]
  obtain ⟨x, hx⟩ : (g : Int) ∣ m := by rw [← hg]; exact Int.gcd_dvd_left ..
  obtain ⟨y, hy⟩ : (g : Int) ∣ k := by rw [← hg]; exact Int.gcd_dvd_right ..
  have ex : Int.tdiv m g = x := by rw [hx]; exact Int.mul_tdiv_cancel_left _ hgi
  have ey : Int.tdiv k g = y := by rw [hy]; exact Int.mul_tdiv_cancel_left _ hgi
  have hx0 : 0 ≤ x ∧ x ≤ 9223372036854775808 := by
    have h1 : 0 ≤ x := by
      rcases Int.lt_or_le x 0 with h | h
      · have := Int.mul_neg_of_pos_of_neg (show (0 : Int) < g by omega) h; omega
      · exact h
    have := Int.mul_le_mul_of_nonneg_right (show (1 : Int) ≤ g by omega) h1
    omega
  have hy0 : 1 ≤ y ∧ y ≤ 9223372036854775808 := by
    have h1 : 0 < y := by
      rcases Int.lt_or_le 0 y with h | h
      · exact h
      · have := Int.mul_nonpos_of_nonneg_of_nonpos (show (0 : Int) ≤ g by omega) h; omega
    have := Int.mul_le_mul_of_nonneg_right (show (1 : Int) ≤ g by omega) (show 0 ≤ y by omega)
    omega
  have hco : Int.gcd x y = 1 := by
    have h1 : Int.gcd (g * x) (g * y) = g := by rw [← hx, ← hy]; exact hg
    rw [Int.gcd_mul_left] at h1
    have h2 : (g : Int).natAbs = g := by simp
    rw [h2] at h1
    exact Nat.eq_of_mul_eq_mul_left (Nat.pos_of_ne_zero hg0) (by rw [h1, Nat.mul_one])
  rw [ex, ey, wu (p := x) ⟨by omega, by omega⟩, wu (p := y) ⟨by omega, by omega⟩]
  have hR : (if neg then -x else x) * d = n * y := by
    have e1 : (if neg then -m else m) = g * (if neg then -x else x) := by cases neg <;> simp [hx, Int.mul_neg]
    rw [e1, hy] at hnm
    have e2 : (g : Int) * ((if neg then -x else x) * d) = g * (n * y) := by
      rw [← Int.mul_assoc, ← hnm, ← Int.mul_assoc, Int.mul_comm n (g : Int), Int.mul_assoc]
    exact Int.eq_of_mul_eq_mul_left hgi e2
  have hco' : Int.gcd (if neg then -x else x) y = 1 := by cases neg <;> simp [hco, Int.neg_gcd]
  by_cases c : 2147483647 < x ∨ 2147483647 < y
  · rw [if_pos (by simpa using c)]
    refine ⟨_, _, if neg then -x else x, y, rfl, by omega, hco', hR, .inl ⟨?_, rfl, rfl⟩⟩
    cases neg <;> simp <;> omega
  · rw [if_neg (by simpa using c), wi (p := x) ⟨by omega, by omega⟩, wi (p := y) ⟨by omega, by omega⟩, wi (p := -x) ⟨by omega, by omega⟩]
    cases neg
    · exact ⟨⟨x, y⟩, 0, x, y, rfl, by omega, hco', hR, .inr ⟨by omega, rfl, rfl⟩⟩
    · exact ⟨⟨-x, y⟩, 0, -x, y, rfl, by omega, hco', hR, .inr ⟨by omega, rfl, rfl⟩⟩
/-- Equal fractions in lowest terms are equal. -/
theorem low_eq {x y p q : Int} (hy : 1 ≤ y) (hq : 1 ≤ q) (h1 : Int.gcd x y = 1) (h2 : Int.gcd p q = 1) (h : x * q = p * y) : x = p ∧ y = q := by
  have d1 : y ∣ q := by
    have h3 : y ∣ x * q := ⟨p, by rw [h, Int.mul_comm]⟩
    exact dvd_cop h3 (by rw [Int.gcd_comm]; exact h1)
  have d2 : q ∣ y := by
    have h3 : q ∣ p * y := ⟨x, by rw [← h, Int.mul_comm]⟩
    exact dvd_cop h3 (by rw [Int.gcd_comm]; exact h2)
  have h3 : y = q := by
    have := Int.le_of_dvd (by omega) d1
    have := Int.le_of_dvd (by omega) d2
    omega
  subst h3
  exact ⟨Int.eq_of_mul_eq_mul_right (by omega) h, rfl⟩
theorem New_congr {n d n' d' : Int} (hn : R64 n) (hd : R64 d) (h0 : d ≠ 0) (hn' : R64 n') (hd' : R64 d') (h0' : d' ≠ 0) (h : n * d' = n' * d) : m_frac_New n d = m_frac_New n' d' := by
  obtain ⟨q, e, x, y, h1, h2, h3, h4, h5⟩ := New_full hn hd h0
  obtain ⟨q', e', x', y', g1, g2, g3, g4, g5⟩ := New_full hn' hd' h0'
  have key : x * y' = x' * y := by
    have k1 : (d * d') * (x * y') = (d * d') * (x' * y) := by grind
    exact Int.eq_of_mul_eq_mul_left (Int.mul_ne_zero h0 h0') k1
  obtain ⟨rfl, rfl⟩ := low_eq h2 g2 h3 g3 key
  rw [h1, g1]
  rcases h5 with ⟨a1, rfl, rfl⟩ | ⟨a1, rfl, rfl⟩ <;> rcases g5 with ⟨b1, rfl, rfl⟩ | ⟨b1, rfl, rfl⟩
  · rfl
  · exact absurd a1 b1
  · exact absurd b1 a1
  · rfl
theorem New_valid {n d : Int} {q : GVal} (hn : R64 n) (hd : R64 d) (h : m_frac_New n d = some (q, 0)) : frOK q = true ∧ d ≠ 0 ∧ q.N * d = n * q.D := by
  by_cases h0 : d = 0
  · subst h0; unfold m_frac_New at h; simp at h
  · obtain ⟨q', e, x, y, h1, h2, h3, h4, h5⟩ := New_full hn hd h0
    rw [h] at h1
    injection h1 with h1
    injection h1 with h1 h6
    subst h1 h6
    rcases h5 with ⟨_, h5, _⟩ | ⟨hb, _, rfl⟩
    · cases h5
    · exact ⟨by unfold frOK; simp [h3]; omega, h0, h4⟩
theorem New_of {n d : Int} {v : GVal} (hn : R64 n) (hd : R64 d) (h0 : d ≠ 0) (hv : frOK v = true) (h : v.N * d = n * v.D) : m_frac_New n d = some (v, 0) := by
  obtain ⟨q', e, x, y, h1, h2, h3, h4, h5⟩ := New_full hn hd h0
  obtain ⟨a1, a2, a3, a4, a5⟩ := frOK_bd hv
  have key : x * v.D = v.N * y := by
    have k1 : d * (x * v.D) = d * (v.N * y) := by grind
    exact Int.eq_of_mul_eq_mul_left h0 k1
  obtain ⟨rfl, rfl⟩ := low_eq h2 a1 h3 a5 key
  rw [h1]
  rcases h5 with ⟨hb, _, _⟩ | ⟨hb, rfl, rfl⟩
  · omega
  · rfl
end Go.Proofs.YtkmenmoiagkegaaDoor
