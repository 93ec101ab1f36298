/- The laws of the operators and casts, in plain terms. Conditions: the ranges of int and int64. -/
import Derived.Test.YtpedfojbfbccaaaPe
namespace Go.Proofs.Ytpedfojbfbccaaa
open Go Go.RowKit Go.Vc
set_option linter.unusedVariables false
set_option linter.unusedSimpArgs false

/-! ### Fixed point -/
theorem fixed_check2 {t : GType} {a b : GVal} (ht : tyB t = true) (h2 : t.Kind = 2) (ha : okV t a = true) (hb : okV t b = true) : m_fixed_check t [a, b] = some 0 := by
  unfold m_fixed_check
  obtain ⟨f, hf⟩ : ∃ f, fu = f + 1 + 1 + 1 := ⟨18446744073709551613, rfl⟩
  have e6 : wi64 1 = 1 := by rfl
  have e7 : wi64 2 = 2 := by rfl
  have l0 : lat [a, b] 0 = some a := rfl
  have l1 : lat [a, b] 1 = some b := rfl
  rw [fixed_ValidateType, hf]
  simp [h2, ht, m_fixed_check_l1, l0, l1, e6, e7, fixed_Valid _ ht h2, ha, hb]
theorem fixed_check1 {t : GType} {a : GVal} (ht : tyB t = true) (h2 : t.Kind = 2) (ha : okV t a = true) : m_fixed_check t [a] = some 0 := by
  unfold m_fixed_check
  obtain ⟨f, hf⟩ : ∃ f, fu = f + 1 + 1 := ⟨18446744073709551614, rfl⟩
  have e6 : wi64 1 = 1 := by rfl
  have l0 : lat [a] 0 = some a := rfl
  rw [fixed_ValidateType, hf]
  simp [h2, ht, m_fixed_check_l1, l0, e6, fixed_Valid _ ht h2, ha]
theorem fixed_apply {t : GType} {a b : GVal} {m : GType → Int → Int → Option (Int × Int)} {n e : Int} (ht : tyB t = true) (h2 : t.Kind = 2) (ha : okV t a = true) (hb : okV t b = true) (hm : m t a.N b.N = some (n, e)) :
    m_fixed_apply ⟨m⟩ t a b = some (if e = 0 then (⟨nar t n, 1⟩, 0) else (⟨0, 0⟩, e)) := by
  unfold m_fixed_apply
  rw [fixed_check2 ht h2 ha hb]
  simp only [Option.bind_some, decide_true, Bool.not_true, Bool.false_eq_true, if_false, hm]
  by_cases h : e = 0
  · simp [h, fixed_narrow _ ht h2]
  · simp [h]
theorem rnd_bd {n d how : Int} (hd : 0 < d) {B : Int} (h0 : 0 ≤ B) (hn : -B ≤ n ∧ n ≤ B) : -B ≤ rnd n d how ∧ rnd n d how ≤ B + 1 := by
  obtain ⟨b1, b2, b3, b4, b5⟩ := ediv_bd hd h0 hn
  unfold rnd
  repeat' split
  all_goals omega
theorem dvd_bd {n d how : Int} (hd : d ≠ 0) {B : Int} (h0 : 0 ≤ B) (hn : -B ≤ n ∧ n ≤ B) : -B ≤ dvd n d how ∧ dvd n d how ≤ B + 1 := by
  unfold dvd
  split
  · exact rnd_bd (by omega) h0 (by omega)
  · exact rnd_bd (by omega) h0 hn
theorem pw_mul_bd {x f : Int} (hx : -1073741824 ≤ x ∧ x ≤ 1073741824) (hf : f ≤ 30) : -1152921504606846976 ≤ x * pw f ∧ x * pw f ≤ 1152921504606846976 := by
  have hp := pw_bd hf
  have := mul_bd (x := x) (y := pw f) (B := 1073741824) ⟨by omega, by omega⟩ ⟨by omega, by omega⟩
  omega
/-! ### Fractions -/
/-! ### Apply -/
theorem frac_New_some {n d : Int} (hn : R64 n) (hd : R64 d) : ∃ q, m_frac_New n d = some q := by
  obtain ⟨n1, n2⟩ := hn
  obtain ⟨d1, d2⟩ := hd
  unfold m_frac_New
  by_cases h : d = 0
  · simp [h]
  · simp only [h, decide_false, Bool.false_eq_true, if_false, Option.bind_some]
    rw [frac_magnitude ⟨n1, n2⟩, frac_magnitude ⟨d1, d2⟩, Option.bind_some, Option.bind_some, frac_gcd (by split <;> omega) (by split <;> omega) (by split <;> omega), Option.bind_some]
    have hg : (Int.gcd (if n < 0 then -n else n) (if d < 0 then -d else d) : Int) ≠ 0 := by
      have : Int.gcd (if n < 0 then -n else n) (if d < 0 then -d else d) ≠ 0 := fun h0 => by
        have := (Int.gcd_eq_zero_iff.1 h0).2
        split at this <;> omega
      omega
    rw [if_pos hg]
    generalize (if n < 0 then -n else n) = x
    generalize (if d < 0 then -d else d) = y
    split
    · exact ⟨_, rfl⟩
    · split <;> exact ⟨_, rfl⟩
theorem frac_some {a b : GVal} (ha : frOK a = true) (hb : frOK b = true) :
    (∃ q, m_frac_Add a b = some q) ∧ (∃ q, m_frac_Sub a b = some q) ∧ (∃ q, m_frac_Mul a b = some q) ∧ (∃ q, m_frac_Div a b = some q) := by
  obtain ⟨a1, a2, a3, a4, a5⟩ := frOK_bd ha
  obtain ⟨b1, b2, b3, b4, b5⟩ := frOK_bd hb
  unfold m_frac_Add m_frac_Sub m_frac_Mul m_frac_Div
  simp only [frac_Valid (frVaR ha), frac_Valid (frVaR hb), ha, hb, gd, Option.bind_some, Bool.not_true, Bool.not_false, if_true, Bool.or_self, Bool.false_eq_true, if_false, bind_pair]
  have hw : ∀ x, R64 (wi64 x) := fun x => by simp [IntKind.wrap, IntKind.signed, IntKind.bits]; omega
  exact ⟨frac_New_some (hw _) (hw _), frac_New_some (hw _) (hw _), frac_New_some (hw _) (hw _), frac_New_some (hw _) (hw _)⟩
-- D-only
-- D-end
end Go.Proofs.Ytpedfojbfbccaaa
