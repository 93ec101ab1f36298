/- The laws Ordering, FloorBounds, in plain terms. Conditions: the range of int64. -/
import Derived.Test.YtkmenmoiagkegaaDoorFb
namespace Go.Proofs.YtkmenmoiagkegaaDoor
open Go Go.RowKit Go.Vc
set_option linter.unusedVariables false
set_option linter.unusedSimpArgs false

theorem ediv_unique {n d q r : Int} (h : n = d * q + r) (h0 : 0 ≤ r) (h1 : r < d) : n / d = q ∧ n % d = r :=
  (Int.ediv_emod_unique (by omega)).2 ⟨by omega, h0, h1⟩
theorem tdiv_neg_case {n d : Int} (hd : 0 < d) (hn : n < 0) : Int.tdiv n d = -((-n) / d) := by
  rw [show n = -(-n) by omega, Int.neg_tdiv, Int.tdiv_eq_ediv_of_nonneg (by omega), Int.neg_neg]
theorem tdiv_bd {n d : Int} (hd : 0 < d) : (0 ≤ n → 0 ≤ Int.tdiv n d ∧ Int.tdiv n d ≤ n ∧ 0 ≤ Int.tdiv n d * d ∧ Int.tdiv n d * d ≤ n) ∧ (n < 0 → n ≤ Int.tdiv n d ∧ Int.tdiv n d ≤ 0 ∧ n ≤ Int.tdiv n d * d ∧ Int.tdiv n d * d ≤ 0) := by
  constructor
  · intro h
    rw [Int.tdiv_eq_ediv_of_nonneg h]
    have e := Int.mul_ediv_add_emod n d
    have h1 := Int.emod_nonneg n (by omega : d ≠ 0)
    have h2 := Int.ediv_nonneg h (by omega : 0 ≤ d)
    have h3 := Int.mul_le_mul_of_nonneg_left (show (1 : Int) ≤ d by omega) h2
    rw [Int.mul_comm] at e
    omega
  · intro h
    rw [tdiv_neg_case hd h]
    have e := Int.mul_ediv_add_emod (-n) d
    have h1 := Int.emod_nonneg (-n) (by omega : d ≠ 0)
    have h2 := Int.ediv_nonneg (show 0 ≤ -n by omega) (by omega : 0 ≤ d)
    have h3 := Int.mul_le_mul_of_nonneg_left (show (1 : Int) ≤ d by omega) h2
    rw [Int.mul_comm] at e
    rw [Int.neg_mul]
    omega
theorem floorS {n d : Int} (hd : 0 < d) : (if n < Int.tdiv n d * d then Int.tdiv n d - 1 else Int.tdiv n d) = n / d := by
  by_cases h : 0 ≤ n
  · have := (tdiv_bd (n := n) hd).1 h
    rw [if_neg (by omega), Int.tdiv_eq_ediv_of_nonneg h]
  · have hn : n < 0 := by omega
    rw [tdiv_neg_case hd hn]
    have e := Int.mul_ediv_add_emod (-n) d
    have h1 := Int.emod_nonneg (-n) (by omega : d ≠ 0)
    have h2 := Int.emod_lt_of_pos (-n) hd
    generalize (-n) / d = k at *
    generalize (-n) % d = s at *
    have hc : k * d = d * k := Int.mul_comm _ _
    rw [Int.neg_mul, hc]
    by_cases hs : s = 0
    · rw [if_neg (by omega)]
      exact (ediv_unique (q := -k) (r := 0) (by rw [Int.mul_neg]; omega) (by omega) hd).1.symm
    · rw [if_pos (by omega)]
      exact (ediv_unique (q := -k - 1) (r := d - s) (by rw [Int.mul_sub, Int.mul_neg]; omega) (by omega) (by omega)).1.symm
theorem ediv_bd {n d : Int} (hd : 0 < d) {B : Int} (h0 : 0 ≤ B) (hn : -B ≤ n ∧ n ≤ B) : -B ≤ n / d ∧ n / d ≤ B ∧ 0 ≤ n % d ∧ n % d < d ∧ n = n / d * d + n % d := by
  have e := Int.mul_ediv_add_emod n d
  have h1 := Int.emod_nonneg n (by omega : d ≠ 0)
  have h2 := Int.emod_lt_of_pos n hd
  have h5 : n = n / d * d + n % d := by rw [Int.mul_comm]; omega
  refine ⟨?_, ?_, h1, h2, h5⟩
  · rcases Int.lt_or_le (n / d) (-B) with h | h
    · exfalso
      have h3 := Int.mul_le_mul_of_nonneg_right (show n / d ≤ -B - 1 by omega) (show 0 ≤ d by omega)
      have h4 := Int.mul_le_mul_of_nonneg_left (show (1 : Int) ≤ d by omega) h0
      have h6 : (-B - 1) * d = -(B * d) - d := by rw [Int.sub_mul, Int.neg_mul]; omega
      omega
    · exact h
  · rcases Int.lt_or_le B (n / d) with h | h
    · exfalso
      have h3 := Int.mul_le_mul_of_nonneg_right (show B + 1 ≤ n / d by omega) (show 0 ≤ d by omega)
      have h4 := Int.mul_le_mul_of_nonneg_left (show (1 : Int) ≤ d by omega) h0
      have h6 : (B + 1) * d = B * d + d := by rw [Int.add_mul]; omega
      omega
    · exact h

theorem floorT {a b : Int} (hb : 0 < b) : (if Int.tmod a b < 0 then Int.tdiv a b - 1 else Int.tdiv a b) = a / b := by
  rw [← floorS hb]
  have e := Int.mul_tdiv_add_tmod a b
  have hc : Int.tdiv a b * b = b * Int.tdiv a b := Int.mul_comm _ _
  by_cases h : Int.tmod a b < 0
  · rw [if_pos h, if_pos (by omega)]
  · rw [if_neg h, if_neg (by omega)]
/-- What both answer. -/
def flo (a : GVal) : Int := if frOK a then a.N / a.D else 0
theorem flo_bd (a : GVal) : -2147483647 ≤ flo a ∧ flo a ≤ 2147483647 := by
  unfold flo
  split
  · rename_i h
    obtain ⟨a1, a2, a3, a4, a5⟩ := frOK_bd h
    obtain ⟨b1, b2, _⟩ := ediv_bd (n := a.N) (d := a.D) (by omega) (B := 2147483647) (by omega) ⟨by omega, by omega⟩
    exact ⟨b1, b2⟩
  · omega
theorem frac_Floor {a : GVal} (ha : VaR a) : m_frac_Floor a = some (flo a) := by
  unfold m_frac_Floor
  rw [frac_Valid ha]
  cases h : frOK a
  · simp [flo, h]
  · obtain ⟨a1, a2, a3, a4, a5⟩ := frOK_bd h
    have hb := flo_bd a
    have hf := floorT (a := a.N) (b := a.D) (by omega)
    simp only [flo, h, if_true] at hb ⊢
    rw [← hf] at hb ⊢
    simp only [Option.bind_some, Bool.not_true, Bool.false_eq_true, if_false]
    rw [if_pos (by omega)]
    by_cases c : Int.tmod a.N a.D < 0
    · rw [if_pos c] at hb ⊢
      rw [wi (p := Int.tdiv a.N a.D) ⟨by omega, by omega⟩, if_pos (by simpa using c), wi ⟨by omega, by omega⟩]
    · rw [if_neg c] at hb ⊢
      rw [wi (p := Int.tdiv a.N a.D) ⟨by omega, by omega⟩, if_neg (by simpa using c)]
theorem ref01_Floor {a : GVal} (ha : VaR a) : m_ref01_Floor a = some (flo a) := by
  unfold m_ref01_Floor
  rw [ref01_Valid ha]
  cases h : frOK a
  · simp [flo, h]
  · obtain ⟨a1, a2, a3, a4, a5⟩ := frOK_bd h
    have hb := flo_bd a
    have hf := floorS (n := a.N) (d := a.D) (by omega)
    simp only [flo, h, if_true] at hb ⊢
    rw [← hf] at hb ⊢
    simp only [Option.bind_some, Bool.not_true, Bool.false_eq_true, if_false]
    rw [if_pos (by omega)]
    have hq : -2147483648 ≤ Int.tdiv a.N a.D ∧ Int.tdiv a.N a.D ≤ 2147483648 := by split at hb <;> omega
    have hm : -4611686018427387904 ≤ Int.tdiv a.N a.D * a.D ∧ Int.tdiv a.N a.D * a.D ≤ 4611686018427387904 := by
      have hB := tdiv_bd (n := a.N) (d := a.D) (by omega)
      by_cases c : 0 ≤ a.N
      · have := hB.1 c; omega
      · have := hB.2 (by omega); omega
    rw [wi (p := Int.tdiv a.N a.D) ⟨by omega, by omega⟩]
    rw [wi (p := Int.tdiv a.N a.D * a.D) ⟨by omega, by omega⟩]
    by_cases c : a.N < Int.tdiv a.N a.D * a.D
    · rw [if_pos c] at hb ⊢
      rw [if_pos (by simpa using c), wi ⟨by omega, by omega⟩]
    · rw [if_neg c] at hb ⊢
      rw [if_neg (by simpa using c)]
def neg (a : GVal) : GVal := if frOK a then ⟨-a.N, a.D⟩ else ⟨0, 0⟩
theorem frac_Neg {a : GVal} (ha : VaR a) : m_frac_Neg a = some (neg a) := by
  unfold m_frac_Neg neg
  rw [frac_Valid ha]
  cases h : frOK a
  · rfl
  · obtain ⟨a1, a2, a3, a4, a5⟩ := frOK_bd h
    simp only [Option.bind_some, Bool.not_true, Bool.false_eq_true, if_false, if_true]
    rw [wi ⟨by omega, by omega⟩]
theorem ref01_Neg {a : GVal} (ha : VaR a) : m_ref01_Neg a = some (neg a) := by
  unfold m_ref01_Neg neg
  rw [ref01_Valid ha]
  cases h : frOK a
  · rfl
  · obtain ⟨a1, a2, a3, a4, a5⟩ := frOK_bd h
    simp only [Option.bind_some, Bool.not_true, Bool.false_eq_true, if_false, if_true]
    rw [wi ⟨by omega, by omega⟩]
theorem frOK_neg {a : GVal} (h : frOK a = true) : frOK (neg a) = true := by
  obtain ⟨a1, a2, a3, a4, a5⟩ := frOK_bd h
  unfold neg
  rw [if_pos h]
  unfold frOK; rw [Int.neg_gcd]; simp [a5]; omega
theorem neg_R (a : GVal) : VaR (neg a) := by
  cases h : frOK a
  · have e : neg a = ⟨0, 0⟩ := by simp [neg, h]
    rw [e]; exact ⟨⟨by decide, by decide⟩, ⟨by decide, by decide⟩⟩
  · exact frVaR (frOK_neg h)
theorem frac_Ceil {a : GVal} (ha : VaR a) : m_frac_Ceil a = some (-flo (neg a)) := by
  unfold m_frac_Ceil
  have := flo_bd (neg a)
  rw [frac_Neg ha, Option.bind_some, frac_Floor (neg_R a), Option.bind_some, wi ⟨by omega, by omega⟩]
theorem ref01_Ceil {a : GVal} (ha : VaR a) : m_ref01_Ceil a = some (-flo (neg a)) := by
  unfold m_ref01_Ceil
  have := flo_bd (neg a)
  rw [ref01_Neg ha, Option.bind_some, ref01_Floor (neg_R a), Option.bind_some, wi ⟨by omega, by omega⟩]
theorem law_FracOrdering (a b : GVal) (ha : okGVal a) (hb : okGVal b) : m_law01_FracOrdering a b = some true := by
  replace ha := VaR.of ha
  replace hb := VaR.of hb
  unfold m_law01_FracOrdering
  rw [frac_Cmp ha hb, ref01_Cmp ha hb, frac_Floor ha, ref01_Floor ha, frac_Ceil ha, ref01_Ceil ha, ex01]
  simp [gd]
theorem law_FracFloorBounds (a : GVal) (ha : okGVal a) : m_law01_FracFloorBounds a = some true := by
  replace ha := VaR.of ha
  unfold m_law01_FracFloorBounds
  have hc := flo_bd (neg a)
  rw [frac_Valid ha, frac_Floor ha, frac_Ceil ha, frac_Neg ha, ex01]
  simp only [Option.bind_some, frac_Floor (neg_R a)]
  have hfb := flo_bd a
  cases h : frOK a
  · simp [flo, neg, h, gd]
  · obtain ⟨a1, a2, a3, a4, a5⟩ := frOK_bd h
    obtain ⟨b1, b2, b3, b4, b5⟩ := ediv_bd (n := a.N) (d := a.D) (by omega) (B := 2147483647) (by omega) ⟨by omega, by omega⟩
    have hf : flo a = a.N / a.D := by unfold flo; rw [if_pos h]
    have hd : (a.N / a.D + 1) * a.D = a.N / a.D * a.D + a.D := by rw [Int.add_mul, Int.one_mul]
    have e1 : wi64 (flo a * a.D) = flo a * a.D := wi (by rw [hf]; constructor <;> omega)
    have e2 : wi64 (flo a + 1) = flo a + 1 := wi ⟨by omega, by omega⟩
    have e3 : wi64 ((flo a + 1) * a.D) = (flo a + 1) * a.D := wi (by rw [hf]; constructor <;> omega)
    have e4 : wi64 (-flo (neg a)) = -flo (neg a) := wi ⟨by omega, by omega⟩
    rw [e1, e2, e3]
    have c1 : ((((decide (-2147483647 ≤ flo a)) && (decide (flo a ≤ 2147483647))) && (decide (flo a * a.D ≤ a.N))) && (decide (a.N < (flo a + 1) * a.D))) = true := by
      rw [hf] at hfb ⊢
      simp only [Bool.and_eq_true, decide_eq_true_eq]
      exact ⟨⟨⟨by omega, by omega⟩, by omega⟩, by omega⟩
    rw [c1]
    simp [gd, e4, frac_Floor (neg_R a)]
end Go.Proofs.YtkmenmoiagkegaaDoor
