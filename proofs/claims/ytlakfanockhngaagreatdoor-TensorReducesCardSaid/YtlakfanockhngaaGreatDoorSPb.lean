import Derived.Test.YtlakfanockhngaaGreatDoorSPa
namespace Go.Proofs.YtlakfanockhngaaGreatDoor
open Go Go.RowKit Go.Vc
set_option linter.unusedVariables false
set_option linter.unusedSimpArgs false
theorem value_One (t : GType) : m_value_One t = some (if tyB t = true then (if t.Kind = 2 ∧ t.Bits - 1 ≤ t.Frac then (⟨0, 0⟩, 3) else (⟨if t.Kind = 2 then pw t.Frac else 1, 1⟩, 0)) else (⟨0, 0⟩, 10)) := by
 unfold m_value_One
 rw [value_ValidateType]
 cases ht : tyB t
 ·rfl
 ·simp only [if_true, Option.bind_some, decide_true, Bool.not_true, Bool.false_eq_true, if_false]
  by_cases h2 : t.Kind = 2
  ·obtain ⟨a, b, c, d, e, f, g⟩ := tyB_fix ht h2
   have hp := pw_bd (n := t.Frac) d
   simp only [h2, decide_true, Bool.not_true, Bool.false_eq_true, if_false, c, if_true, pw_sh' c d, Int.one_mul, true_and]
   rw [wi (p := pw t.Frac) ⟨by omega, by omega⟩, fixed_Valid _ ht h2]
   unfold okV
   simp only [h2, if_true, true_and, Option.bind_some]
   have hp2 := pw_bd (n := t.Bits - 1) (by omega)
   by_cases hl : t.Bits - 1 ≤ t.Frac
   ·have : ¬ (pw t.Frac < pw (t.Bits - 1)) := by
     unfold pw
     have h1 : (2 : Nat) ^ (t.Bits - 1).toNat ≤ 2 ^ t.Frac.toNat := Nat.pow_le_pow_right (by omega) (by omega)
     have e1 : ((2 : Int) ^ (t.Bits - 1).toNat) = ((2 ^ (t.Bits - 1).toNat : Nat) : Int) := by simp
     have e2 : ((2 : Int) ^ t.Frac.toNat) = ((2 ^ t.Frac.toNat : Nat) : Int) := by simp
     rw [e1, e2]; omega
    simp [hl, this]
   ·have : pw t.Frac < pw (t.Bits - 1) := by
     unfold pw
     have h1 : (2 : Nat) ^ t.Frac.toNat < 2 ^ (t.Bits - 1).toNat := Nat.pow_lt_pow_right (by omega) (by omega)
     have e1 : ((2 : Int) ^ (t.Bits - 1).toNat) = ((2 ^ (t.Bits - 1).toNat : Nat) : Int) := by simp
     have e2 : ((2 : Int) ^ t.Frac.toNat) = ((2 ^ t.Frac.toNat : Nat) : Int) := by simp
     rw [e1, e2]; omega
    have h3 : -pw (t.Bits - 1) ≤ pw t.Frac := by omega
    simp [hl, this, h3]
  ·simp [h2]
theorem ref04_step {t : GType} (h : 0 ≤ t.Frac) (h' : t.Frac ≤ 30) : m_ref04_step t = some (pw t.Frac) := by
 have hp := pw_bd (n := t.Frac) h'
 unfold m_ref04_step
 rw [wu (p := t.Frac) ⟨by omega, by omega⟩, if_pos h, pw_sh' h h', Int.one_mul, wi ⟨by omega, by omega⟩]
theorem ref04_One (t : GType) : m_ref04_One t = m_value_One t := by
 rw [value_One]
 unfold m_ref04_One m_ref04_One_j1
 rw [base_Type]
 cases ht : tyB t
 ·rfl
 ·simp only [Option.bind_some, Bool.not_true, Bool.false_eq_true, if_false, if_true]
  by_cases h2 : t.Kind = 2
  ·obtain ⟨a, b, c, d, e, f, g⟩ := tyB_fix ht h2
   have hp := pw_bd (n := t.Frac) d
   have hp2 := pw_bd (n := t.Bits - 1) (by omega)
   simp only [h2, decide_true, if_true, ref04_step c d, Option.bind_some, true_and]
   rw [base_Val ht ⟨⟨by show -9223372036854775808 ≤ pw t.Frac; omega, by show pw t.Frac ≤ _; omega⟩, ⟨by show (-9223372036854775808 : Int) ≤ 1; omega, by show (1 : Int) ≤ 9223372036854775807; omega⟩⟩]
   unfold okV
   simp only [h2, if_true, true_and, Option.bind_some]
   by_cases hl : t.Bits - 1 ≤ t.Frac
   ·have : ¬ (pw t.Frac < pw (t.Bits - 1)) := by
     unfold pw
     have h1 : (2 : Nat) ^ (t.Bits - 1).toNat ≤ 2 ^ t.Frac.toNat := Nat.pow_le_pow_right (by omega) (by omega)
     have e1 : ((2 : Int) ^ (t.Bits - 1).toNat) = ((2 ^ (t.Bits - 1).toNat : Nat) : Int) := by simp
     have e2 : ((2 : Int) ^ t.Frac.toNat) = ((2 ^ t.Frac.toNat : Nat) : Int) := by simp
     rw [e1, e2]; omega
    simp [hl, this]
   ·have : pw t.Frac < pw (t.Bits - 1) := by
     unfold pw
     have h1 : (2 : Nat) ^ t.Frac.toNat < 2 ^ (t.Bits - 1).toNat := Nat.pow_lt_pow_right (by omega) (by omega)
     have e1 : ((2 : Int) ^ (t.Bits - 1).toNat) = ((2 ^ (t.Bits - 1).toNat : Nat) : Int) := by simp
     have e2 : ((2 : Int) ^ t.Frac.toNat) = ((2 ^ t.Frac.toNat : Nat) : Int) := by simp
     rw [e1, e2]; omega
    have h3 : -pw (t.Bits - 1) ≤ pw t.Frac := by omega
    simp [hl, this, h3]
  ·simp only [h2, decide_false, Bool.false_eq_true, if_false, false_and]
   rw [base_Val ht ⟨⟨by decide, by decide⟩, ⟨by decide, by decide⟩⟩]
   unfold okV
   simp only [h2, if_false]
   by_cases h3 : t.Kind = 3
   ·simp [h3]
   ·simp [h3, frOK]
theorem value_Zero (t : GType) : m_value_Zero t = some (if tyB t = true then ⟨0, 1⟩ else ⟨0, 0⟩) := by
 unfold m_value_Zero
 rw [value_ValidateType]
 cases tyB t <;> rfl
theorem ref04_Zero (t : GType) : m_ref04_Zero t = m_value_Zero t := by
 rw [value_Zero]
 unfold m_ref04_Zero
 rw [base_Type]
 cases tyB t <;> rfl
end Go.Proofs.YtlakfanockhngaaGreatDoor
