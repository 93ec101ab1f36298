import Derived.Test.YtlakfanockhngaaGreatDoorSPc
namespace Go.Proofs.YtlakfanockhngaaGreatDoor
open Go Go.RowKit Go.Vc
set_option linter.unusedVariables false
set_option linter.unusedSimpArgs false
theorem pw_add {a b : Int} (ha : 0 ≤ a) (hb : 0 ≤ b) : pw a * pw b = pw (a + b) := by
 unfold pw
 rw [← Int.pow_add]
 congr 1
 omega
def nar (t : GType) (n : Int) : Int :=
 if -pw (t.Bits - 1) ≤ n ∧ n ≤ pw (t.Bits - 1) - 1 then n
 else if t.Over = 1 then (if n < -pw (t.Bits - 1) then -pw (t.Bits - 1) else pw (t.Bits - 1) - 1)
 else (n + pw (t.Bits - 1)) % (2 * pw (t.Bits - 1)) - pw (t.Bits - 1)
theorem nar_bd {t : GType} (ht : tyB t = true) (h2 : t.Kind = 2) (n : Int) : -pw (t.Bits - 1) ≤ nar t n ∧ nar t n < pw (t.Bits - 1) := by
 obtain ⟨a, b, c, d, e, f, g⟩ := tyB_fix ht h2
 have hp := pw_bd (n := t.Bits - 1) (by omega)
 have h3 := Int.emod_nonneg (n + pw (t.Bits - 1)) (show 2 * pw (t.Bits - 1) ≠ 0 by omega)
 have h4 := Int.emod_lt_of_pos (n + pw (t.Bits - 1)) (show 0 < 2 * pw (t.Bits - 1) by omega)
 unfold nar
 split
 ·omega
 ·split
  ·split <;> omega
  ·omega
theorem wrapS {n b : Int} (h2 : 2 ≤ b) (h31 : b ≤ 31) : Int.fdiv (wi64 (wu64 (wu64 n * pw (64 - b)))) (pw (64 - b)) = (n + pw (b - 1)) % (2 * pw (b - 1)) - pw (b - 1) := by
 have hp := pw_bd (n := b - 1) (by omega)
 have hq : 0 < pw (64 - b) := by unfold pw; exact Int.pow_pos (by omega)
 have e1 : pw (64 - b) * pw (b - 1) = 9223372036854775808 := by rw [pw_add (by omega) (by omega), show 64 - b + (b - 1) = 63 by omega]; rfl
 have em := Int.mul_ediv_add_emod (n + pw (b - 1)) (2 * pw (b - 1))
 have h3 := Int.emod_nonneg (n + pw (b - 1)) (show 2 * pw (b - 1) ≠ 0 by omega)
 have h4 := Int.emod_lt_of_pos (n + pw (b - 1)) (show 0 < 2 * pw (b - 1) by omega)
 generalize (n + pw (b - 1)) % (2 * pw (b - 1)) = m at *
 generalize (n + pw (b - 1)) / (2 * pw (b - 1)) = c at *
 obtain ⟨c1, hc1⟩ := wu_ex n
 obtain ⟨c2, hc2⟩ := wu_ex (wu64 n * pw (64 - b))
 have hn : n = 2 * pw (b - 1) * c + (m - pw (b - 1)) := by omega
 have e2 : 2 * pw (b - 1) * c * pw (64 - b) = c * 18446744073709551616 := by
  have : 2 * pw (b - 1) * c * pw (64 - b) = c * (2 * (pw (64 - b) * pw (b - 1))) := by
   rw [Int.mul_comm (2 * pw (b - 1)) c, Int.mul_assoc, Int.mul_assoc, Int.mul_comm (pw (b - 1)) (pw (64 - b))]
  rw [this, e1]; omega
 have hx : wu64 n * pw (64 - b) = (m - pw (b - 1)) * pw (64 - b) + (c + c1 * pw (64 - b)) * 18446744073709551616 := by
  rw [hc1, Int.add_mul]
  have e3 : n * pw (64 - b) = 2 * pw (b - 1) * c * pw (64 - b) + (m - pw (b - 1)) * pw (64 - b) := by rw [← Int.add_mul, ← hn]
  have e4 : c1 * 18446744073709551616 * pw (64 - b) = c1 * pw (64 - b) * 18446744073709551616 := by rw [Int.mul_assoc, Int.mul_comm 18446744073709551616, ← Int.mul_assoc]
  rw [e3, e4, e2, Int.add_mul]
  omega
 have hr1 := Int.mul_le_mul_of_nonneg_right (show -pw (b - 1) ≤ m - pw (b - 1) by omega) (show 0 ≤ pw (64 - b) by omega)
 have hr2 := Int.mul_le_mul_of_nonneg_right (show m - pw (b - 1) ≤ pw (b - 1) - 1 by omega) (show 0 ≤ pw (64 - b) by omega)
 rw [Int.neg_mul, Int.mul_comm (pw (b - 1)), e1] at hr1
 have h5 : (pw (b - 1) - 1) * pw (64 - b) = 9223372036854775808 - pw (64 - b) := by rw [Int.sub_mul, Int.mul_comm (pw (b - 1)), e1, Int.one_mul]
 rw [h5] at hr2
 rw [wi_of (y := (m - pw (b - 1)) * pw (64 - b)) (c := c + c1 * pw (64 - b) + c2) ⟨by omega, by omega⟩ (by rw [hc2, hx, Int.add_mul (c + c1 * pw (64 - b))]; omega)]
 rw [Int.fdiv_eq_ediv_of_nonneg _ (by omega), Int.mul_ediv_cancel _ (by omega)]
theorem round_Narrow {t : GType} {n : Int} (ht : tyB t = true) (h2 : t.Kind = 2) : ∃ q, m_round_Narrow n t.Bits t.Over = some (nar t n, q) := by
 obtain ⟨a, b, c, d, e, f, g⟩ := tyB_fix ht h2
 have hp := pw_bd (n := t.Bits - 1) (by omega)
 have ho : (!decide (t.Over = 1) && !decide (t.Over = 2)) = false := by rcases g with g | g <;> simp [g]
 unfold m_round_Narrow nar
 rw [round_valid a b, Option.bind_some, round_MinInt a b, round_MaxInt a b]
 simp only [ho, Bool.not_true, Bool.or_false, Bool.false_eq_true, if_false, Option.bind_some]
 by_cases c1 : -pw (t.Bits - 1) ≤ n ∧ n ≤ pw (t.Bits - 1) - 1
 ·exact ⟨false, by simp [c1.1, c1.2]⟩
 ·have c1' : (decide (-pw (t.Bits - 1) ≤ n) && decide (n ≤ pw (t.Bits - 1) - 1)) = false := by
   rw [← Bool.decide_and, decide_eq_false_iff_not]; exact c1
  simp only [c1', c1, Bool.false_eq_true, if_false]
  by_cases c2 : t.Over = 1
  ·by_cases c3 : n < -pw (t.Bits - 1)
   ·exact ⟨true, by simp [c2, c3]⟩
   ·exact ⟨true, by simp [c2, c3]⟩
  ·refine ⟨true, ?_⟩
   have e1 : wi64 (64 - t.Bits) = 64 - t.Bits := wi ⟨by omega, by omega⟩
   have e2 : wu64 (64 - t.Bits) = 64 - t.Bits := wu ⟨by omega, by omega⟩
   have e3 : (2 : Int) ^ (min (Int.toNat (64 - t.Bits)) 64) = pw (64 - t.Bits) := by unfold pw; congr 1; omega
   simp only [c2, decide_false, Bool.false_and, Bool.false_eq_true, if_false, e1, e2, e3]
   rw [if_pos (by omega), wrapS a b]
theorem fixed_narrow {t : GType} (n : Int) (ht : tyB t = true) (h2 : t.Kind = 2) : m_fixed_narrow t n = some ⟨nar t n, 1⟩ := by
 obtain ⟨q, h⟩ := round_Narrow (n := n) ht h2
 unfold m_fixed_narrow
 rw [h]; rfl
theorem ref04_fit {t : GType} {n : Int} (ht : tyB t = true) (h2 : t.Kind = 2) (hn : -2305843009213693952 ≤ n ∧ n ≤ 2305843009213693952) : m_ref04_fit t n = some ⟨nar t n, 1⟩ := by
 obtain ⟨a, b, c, d, e, f, g⟩ := tyB_fix ht h2
 have hp := pw_bd (n := t.Bits - 1) (by omega)
 unfold m_ref04_fit m_ref04_fit_j1
 have hb : wi64 (t.Bits - 1) = t.Bits - 1 := wi ⟨by omega, by omega⟩
 rw [hb, wu (p := t.Bits - 1) ⟨by omega, by omega⟩, pw_sh' (n := t.Bits - 1) (by omega) (by omega), if_pos (by omega), Int.one_mul, wi (p := pw (t.Bits - 1)) ⟨by omega, by omega⟩, Option.bind_some]
 rw [wi (p := -pw (t.Bits - 1)) ⟨by omega, by omega⟩, wi (p := pw (t.Bits - 1) - 1) ⟨by omega, by omega⟩]
 by_cases c2 : t.Over = 2
 ·simp only [c2, decide_true, if_true]
  rw [wi (p := n + pw (t.Bits - 1)) ⟨by omega, by omega⟩, wi (p := 2 * pw (t.Bits - 1)) ⟨by omega, by omega⟩, ref04_floor (by omega) ⟨by omega, by omega⟩, Option.bind_some]
  obtain ⟨b1, b2, b3, b4, b5⟩ := ediv_bd (n := n + pw (t.Bits - 1)) (d := 2 * pw (t.Bits - 1)) (by omega) (B := 4611686018427387903) (by omega) ⟨by omega, by omega⟩
  unfold nar
  have hc : ¬ t.Over = 1 := by omega
  generalize hq : (n + pw (t.Bits - 1)) / (2 * pw (t.Bits - 1)) = q at *
  generalize hm : (n + pw (t.Bits - 1)) % (2 * pw (t.Bits - 1)) = m at *
  have e5 : q * 2 * pw (t.Bits - 1) = q * (2 * pw (t.Bits - 1)) := Int.mul_assoc _ _ _
  rw [wi (p := q * 2) ⟨by omega, by omega⟩, e5, wi (p := q * (2 * pw (t.Bits - 1))) ⟨by omega, by omega⟩, wi (p := n - q * (2 * pw (t.Bits - 1))) ⟨by omega, by omega⟩, Option.bind_some]
  congr 2
  by_cases c1 : -pw (t.Bits - 1) ≤ n ∧ n ≤ pw (t.Bits - 1) - 1
  ·have hq0 : q = 0 := by
    have := Int.ediv_eq_zero_of_lt (a := n + pw (t.Bits - 1)) (b := 2 * pw (t.Bits - 1)) (by omega) (by omega)
    omega
   subst hq0
   rw [if_pos c1]
   omega
  ·rw [if_neg c1, if_neg hc]
   omega
 ·have c1 : t.Over = 1 := by omega
  simp only [c2, decide_false, Bool.false_eq_true, if_false]
  congr 2
  unfold nar
  rw [if_pos c1]
  split
  ·omega
  ·split <;> omega
end Go.Proofs.YtlakfanockhngaaGreatDoor
