/- The laws New, Arithmetic, Ordering, in plain terms. Conditions: the range of int64. -/
import Derived.Test.YtkmenmoiagkegaaDoorFa
namespace Go.Proofs.YtkmenmoiagkegaaDoor
open Go Go.RowKit Go.Vc
set_option linter.unusedVariables false
set_option linter.unusedSimpArgs false

/-- New, told by the numerator and denominator in lowest terms. -/
theorem New_spec {n d : Int} (hn : R64 n) (hd : R64 d) (h0 : d ≠ 0) : ∃ q e x y, m_frac_New n d = some (q, e) ∧ 1 ≤ y ∧ Int.gcd x y = 1 ∧ x * d = n * y ∧ (((2147483647 < x ∨ x < -2147483647 ∨ 2147483647 < y) ∧ e = 3 ∧ q = ⟨0, 0⟩) ∨ (¬ (2147483647 < x ∨ x < -2147483647 ∨ 2147483647 < y) ∧ e = 0 ∧ q = ⟨x, y⟩)) := by
  obtain ⟨n1, n2⟩ := hn
  obtain ⟨d1, d2⟩ := hd
  unfold m_frac_New
  simp only [h0, decide_false, Bool.false_eq_true, if_false, Option.bind_some]
  rw [frac_magnitude ⟨n1, n2⟩, frac_magnitude ⟨d1, d2⟩, Option.bind_some, Option.bind_some, frac_gcd (by split <;> omega) (by split <;> omega) (by split <;> omega), Option.bind_some]
  generalize hneg : (decide (n < 0) != decide (d < 0)) = neg
  generalize hm : (if n < 0 then -n else n) = m
  generalize hk : (if d < 0 then -d else d) = k
  have hm0 : 0 ≤ m ∧ m ≤ 9223372036854775808 := by rw [← hm]; split <;> omega
  have hk0 : 1 ≤ k ∧ k ≤ 9223372036854775808 := by rw [← hk]; split <;> omega
  have hnm : n * k = (if neg then -m else m) * d := by
    rw [← hneg, ← hm, ← hk]
    by_cases c1 : n < 0 <;> by_cases c2 : d < 0 <;> simp [c1, c2, Int.neg_mul, Int.mul_neg]
  generalize hg : Int.gcd m k = g
  have hg0 : g ≠ 0 := fun h => by
    rw [h] at hg
    have := (Int.gcd_eq_zero_iff.1 hg).2
    omega
  have hgi : (g : Int) ≠ 0 := by omega
  rw [if_pos hgi]
  obtain ⟨x, hx⟩ : (g : Int) ∣ m := by rw [← hg]; exact Int.gcd_dvd_left ..
  obtain ⟨y, hy⟩ : (g : Int) ∣ k := by rw [← hg]; exact Int.gcd_dvd_right ..
  have ex : Int.tdiv m g = x := by rw [hx]; exact Int.mul_tdiv_cancel_left _ hgi
  have ey : Int.tdiv k g = y := by rw [hy]; exact Int.mul_tdiv_cancel_left _ hgi
  have hx0 : 0 ≤ x ∧ x ≤ 9223372036854775808 := by
    have h1 : 0 ≤ x := by
      rcases Int.lt_or_le x 0 with h | h
      · have := Int.mul_neg_of_pos_of_neg (show (0 : Int) < g by omega) h; omega
      · exact h
    have := Int.mul_le_mul_of_nonneg_right (show (1 : Int) ≤ g by omega) h1
    omega
  have hy0 : 1 ≤ y ∧ y ≤ 9223372036854775808 := by
    have h1 : 0 < y := by
      rcases Int.lt_or_le 0 y with h | h
      · exact h
      · have := Int.mul_nonpos_of_nonneg_of_nonpos (show (0 : Int) ≤ g by omega) h; omega
    have := Int.mul_le_mul_of_nonneg_right (show (1 : Int) ≤ g by omega) (show 0 ≤ y by omega)
    omega
  have hco : Int.gcd x y = 1 := by
    have h1 : Int.gcd (g * x) (g * y) = g := by rw [← hx, ← hy]; exact hg
    rw [Int.gcd_mul_left] at h1
    have h2 : (g : Int).natAbs = g := by simp
    rw [h2] at h1
    exact Nat.eq_of_mul_eq_mul_left (Nat.pos_of_ne_zero hg0) (by rw [h1, Nat.mul_one])
  rw [ex, ey, wu (p := x) ⟨by omega, by omega⟩, wu (p := y) ⟨by omega, by omega⟩]
  have hR : (if neg then -x else x) * d = n * y := by
    have e1 : (if neg then -m else m) = g * (if neg then -x else x) := by cases neg <;> simp [hx, Int.mul_neg]
    rw [e1, hy] at hnm
    have e2 : (g : Int) * ((if neg then -x else x) * d) = g * (n * y) := by
      rw [← Int.mul_assoc, ← hnm, ← Int.mul_assoc, Int.mul_comm n (g : Int), Int.mul_assoc]
    exact Int.eq_of_mul_eq_mul_left hgi e2
  have hco' : Int.gcd (if neg then -x else x) y = 1 := by cases neg <;> simp [hco, Int.neg_gcd]
  by_cases c : 2147483647 < x ∨ 2147483647 < y
  · rw [if_pos (by simpa using c)]
    refine ⟨_, _, if neg then -x else x, y, rfl, by omega, hco', hR, .inl ⟨?_, rfl, rfl⟩⟩
    cases neg <;> simp <;> omega
  · rw [if_neg (by simpa using c), wi (p := x) ⟨by omega, by omega⟩, wi (p := y) ⟨by omega, by omega⟩, wi (p := -x) ⟨by omega, by omega⟩]
    cases neg
    · exact ⟨⟨x, y⟩, 0, x, y, rfl, by omega, hco', hR, .inr ⟨by omega, rfl, rfl⟩⟩
    · exact ⟨⟨-x, y⟩, 0, -x, y, rfl, by omega, hco', hR, .inr ⟨by omega, rfl, rfl⟩⟩
theorem New_zero (n : Int) : m_frac_New n 0 = some (⟨0, 0⟩, 4) := by unfold m_frac_New; simp
theorem New_ok {n d : Int} (hn : R64 n) (hd : R64 d) : ∃ q e, m_frac_New n d = some (q, e) ∧ VaR q ∧ (e = 0 → frOK q = true) := by
  by_cases h0 : d = 0
  · subst h0; exact ⟨_, _, New_zero n, ⟨⟨by decide, by decide⟩, ⟨by decide, by decide⟩⟩, fun h => by cases h⟩
  · obtain ⟨q, e, x, y, h1, h2, h3, h4, h5⟩ := New_spec hn hd h0
    refine ⟨q, e, h1, ?_⟩
    rcases h5 with ⟨_, rfl, rfl⟩ | ⟨hb, rfl, rfl⟩
    · exact ⟨⟨⟨by decide, by decide⟩, ⟨by decide, by decide⟩⟩, fun h => by cases h⟩
    · have hok : frOK ⟨x, y⟩ = true := by unfold frOK; simp [h3]; omega
      exact ⟨frVaR hok, fun _ => hok⟩
theorem law_FracNew (n d : Int) (v : GVal) (hn : okI .i64 n) (hd : okI .i64 d) (hv : okGVal v) : m_law01_FracNew n d v = some true := by
  unfold m_law01_FracNew
  rw [ref01_New (okI_R hn) (okI_R hd)]
  obtain ⟨q, e, h1, h2, h3⟩ := New_ok (okI_R hn) (okI_R hd)
  rw [h1, frac_Valid (VaR.of hv), ref01_Valid (VaR.of hv), ex01]
  simp only [Option.bind_some, decide_true, Bool.and_self, gd, if_true, beq_self_eq_true, Bool.true_and, frac_Valid h2]
  by_cases he : e = 0
  · simp [he, h3 he]
  · simp [he]
theorem ref01_Add {a b : GVal} (ha : VaR a) (hb : VaR b) : m_ref01_Add a b = m_frac_Add a b := by
  unfold m_ref01_Add m_frac_Add
  rw [ref01_Valid ha, ref01_Valid hb, frac_Valid ha, frac_Valid hb]
  simp only [bind_pair]
  rw [ref01_New (wi64_R _) (wi64_R _)]
theorem ref01_Sub {a b : GVal} (ha : VaR a) (hb : VaR b) : m_ref01_Sub a b = m_frac_Sub a b := by
  unfold m_ref01_Sub m_frac_Sub
  rw [ref01_Valid ha, ref01_Valid hb, frac_Valid ha, frac_Valid hb]
  simp only [bind_pair]
  rw [ref01_New (wi64_R _) (wi64_R _)]
theorem ref01_Mul {a b : GVal} (ha : VaR a) (hb : VaR b) : m_ref01_Mul a b = m_frac_Mul a b := by
  unfold m_ref01_Mul m_frac_Mul
  rw [ref01_Valid ha, ref01_Valid hb, frac_Valid ha, frac_Valid hb]
  simp only [bind_pair]
  rw [ref01_New (wi64_R _) (wi64_R _)]
theorem ref01_Div {a b : GVal} (ha : VaR a) (hb : VaR b) : m_ref01_Div a b = m_frac_Div a b := by
  unfold m_ref01_Div m_frac_Div
  rw [ref01_Valid ha, ref01_Valid hb, frac_Valid ha, frac_Valid hb]
  simp only [bind_pair]
  rw [ref01_New (wi64_R _) (wi64_R _)]
theorem some_Add {a b : GVal} (ha : VaR a) (hb : VaR b) : ∃ r, m_frac_Add a b = some r := by
  unfold m_frac_Add
  rw [frac_Valid ha, frac_Valid hb]
  obtain ⟨q, e, h, _⟩ := New_ok (wi64_R (wi64 (a.N * b.D) + wi64 (b.N * a.D))) (wi64_R (a.D * b.D))
  rw [h]
  cases frOK a <;> cases frOK b <;> simp [gd]
theorem some_Sub {a b : GVal} (ha : VaR a) (hb : VaR b) : ∃ r, m_frac_Sub a b = some r := by
  unfold m_frac_Sub
  rw [frac_Valid ha, frac_Valid hb]
  obtain ⟨q, e, h, _⟩ := New_ok (wi64_R (wi64 (a.N * b.D) - wi64 (b.N * a.D))) (wi64_R (a.D * b.D))
  rw [h]
  cases frOK a <;> cases frOK b <;> simp [gd]
theorem some_Mul {a b : GVal} (ha : VaR a) (hb : VaR b) : ∃ r, m_frac_Mul a b = some r := by
  unfold m_frac_Mul
  rw [frac_Valid ha, frac_Valid hb]
  obtain ⟨q, e, h, _⟩ := New_ok (wi64_R (a.N * b.N)) (wi64_R (a.D * b.D))
  rw [h]
  cases frOK a <;> cases frOK b <;> simp [gd]
theorem some_Div {a b : GVal} (ha : VaR a) (hb : VaR b) : ∃ r, m_frac_Div a b = some r := by
  unfold m_frac_Div
  rw [frac_Valid ha, frac_Valid hb]
  obtain ⟨q, e, h, _⟩ := New_ok (wi64_R (a.N * b.D)) (wi64_R (a.D * b.N))
  rw [h]
  cases frOK a <;> cases frOK b <;> simp [gd]
theorem law_FracArithmetic (a b : GVal) (ha : okGVal a) (hb : okGVal b) : m_law01_FracArithmetic a b = some true := by
  replace ha := VaR.of ha
  replace hb := VaR.of hb
  unfold m_law01_FracArithmetic
  rw [ref01_Add ha hb, ref01_Sub ha hb, ref01_Mul ha hb, ref01_Div ha hb, ex01]
  obtain ⟨r1, h1⟩ := some_Add ha hb
  obtain ⟨r2, h2⟩ := some_Sub ha hb
  obtain ⟨r3, h3⟩ := some_Mul ha hb
  obtain ⟨r4, h4⟩ := some_Div ha hb
  rw [h1, h2, h3, h4]
  unfold m_frac_Neg m_ref01_Neg
  rw [frac_Valid ha, ref01_Valid ha]
  cases frOK a <;> simp [gd]
/-- What both answer. -/
def cmpR (a b : GVal) : Int := if frOK a && frOK b then ord (a.N * b.D) (b.N * a.D) else if ord a.N b.N = 0 then ord a.D b.D else ord a.N b.N
theorem frac_Cmp {a b : GVal} (ha : VaR a) (hb : VaR b) : m_frac_Compare a b = some (cmpR a b) := by
  cases h1 : frOK a
  · unfold m_frac_Compare cmpR
    rw [frac_Valid ha, frac_Valid hb, h1]
    simp only [Option.bind_some, gd, Bool.false_and, Bool.false_eq_true, if_false, frac_order]
    by_cases h : ord a.N b.N = 0 <;> simp [h]
  · cases h2 : frOK b
    · unfold m_frac_Compare cmpR
      rw [frac_Valid ha, frac_Valid hb, h1, h2]
      simp only [Option.bind_some, gd, Bool.and_false, Bool.false_eq_true, if_false, if_true, frac_order]
      by_cases h : ord a.N b.N = 0 <;> simp [h]
    · rw [frac_Compare h1 h2]; unfold cmpR; simp [h1, h2]
theorem ref01_Cmp {a b : GVal} (ha : VaR a) (hb : VaR b) : m_ref01_Compare a b = some (cmpR a b) := by
  have key : (if a.N = b.N then ord a.D b.D else ord a.N b.N) = if ord a.N b.N = 0 then ord a.D b.D else ord a.N b.N := by
    unfold ord
    by_cases c : a.N = b.N
    · simp [c]
    · rcases Int.lt_or_lt_of_ne c with h | h
      · simp [c, h]
      · simp [c, h, Int.not_lt.2 (Int.le_of_lt h)]
  cases h1 : frOK a
  · unfold m_ref01_Compare cmpR
    rw [ref01_Valid ha, ref01_Valid hb, h1]
    simp only [Option.bind_some, gd, Bool.false_and, Bool.false_eq_true, if_false, ref01_order]
    rw [← key]
    by_cases h : a.N = b.N <;> simp [h]
  · cases h2 : frOK b
    · unfold m_ref01_Compare cmpR
      rw [ref01_Valid ha, ref01_Valid hb, h1, h2]
      simp only [Option.bind_some, gd, Bool.and_false, Bool.false_eq_true, if_false, if_true, ref01_order]
      rw [← key]
      by_cases h : a.N = b.N <;> simp [h]
    · rw [ref01_Compare h1 h2]; unfold cmpR; simp [h1, h2]
end Go.Proofs.YtkmenmoiagkegaaDoor
