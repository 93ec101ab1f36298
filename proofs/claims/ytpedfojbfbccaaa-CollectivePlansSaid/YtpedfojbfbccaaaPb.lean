/- The law of the type queries, in plain terms: it is true for every type and number. Conditions: the ranges of int and int64. -/
import Derived.Test.YtpedfojbfbccaaaPa
namespace Go.Proofs.Ytpedfojbfbccaaa
open Go Go.RowKit Go.Vc
set_option linter.unusedVariables false
set_option linter.unusedSimpArgs false

theorem value_One (t : GType) : m_value_One t = some (if tyB t = true then (if t.Kind = 2 ∧ t.Bits - 1 ≤ t.Frac then (⟨0, 0⟩, 3) else (⟨if t.Kind = 2 then pw t.Frac else 1, 1⟩, 0)) else (⟨0, 0⟩, 10)) := by
  unfold m_value_One
  rw [value_ValidateType]
  cases ht : tyB t
  · rfl
  · simp only [if_true, Option.bind_some, decide_true, Bool.not_true, Bool.false_eq_true, if_false]
    by_cases h2 : t.Kind = 2
    · obtain ⟨a, b, c, d, e, f, g⟩ := tyB_fix ht h2
      have hp := pw_bd (n := t.Frac) d
      simp only [h2, decide_true, Bool.not_true, Bool.false_eq_true, if_false, c, if_true, pw_sh' c d, Int.one_mul, true_and]
      rw [wi (p := pw t.Frac) ⟨by omega, by omega⟩, fixed_Valid _ ht h2]
      unfold okV
      simp only [h2, if_true, true_and, Option.bind_some]
      have hp2 := pw_bd (n := t.Bits - 1) (by omega)
      by_cases hl : t.Bits - 1 ≤ t.Frac
      · have : ¬ (pw t.Frac < pw (t.Bits - 1)) := by
          unfold pw
          have h1 : (2 : Nat) ^ (t.Bits - 1).toNat ≤ 2 ^ t.Frac.toNat := Nat.pow_le_pow_right (by omega) (by omega)
          have e1 : ((2 : Int) ^ (t.Bits - 1).toNat) = ((2 ^ (t.Bits - 1).toNat : Nat) : Int) := by simp
          have e2 : ((2 : Int) ^ t.Frac.toNat) = ((2 ^ t.Frac.toNat : Nat) : Int) := by simp
          rw [e1, e2]; omega
        simp [hl, this]
      · have : pw t.Frac < pw (t.Bits - 1) := by
          unfold pw
          have h1 : (2 : Nat) ^ t.Frac.toNat < 2 ^ (t.Bits - 1).toNat := Nat.pow_lt_pow_right (by omega) (by omega)
          have e1 : ((2 : Int) ^ (t.Bits - 1).toNat) = ((2 ^ (t.Bits - 1).toNat : Nat) : Int) := by simp
          have e2 : ((2 : Int) ^ t.Frac.toNat) = ((2 ^ t.Frac.toNat : Nat) : Int) := by simp
          rw [e1, e2]; omega
        have h3 : -pw (t.Bits - 1) ≤ pw t.Frac := by omega
        simp [hl, this, h3]
    · simp [h2]
theorem value_Zero (t : GType) : m_value_Zero t = some (if tyB t = true then ⟨0, 1⟩ else ⟨0, 0⟩) := by
  unfold m_value_Zero
  rw [value_ValidateType]
  cases tyB t <;> rfl
-- D-only
-- D-end
end Go.Proofs.Ytpedfojbfbccaaa
