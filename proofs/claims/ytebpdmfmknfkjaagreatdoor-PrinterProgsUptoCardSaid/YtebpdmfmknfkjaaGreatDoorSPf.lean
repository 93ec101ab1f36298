import Derived.Test.YtebpdmfmknfkjaaGreatDoorSPe
namespace Go.Proofs.YtebpdmfmknfkjaaGreatDoor
open Go Go.RowKit Go.Vc
set_option linter.unusedVariables false
set_option linter.unusedSimpArgs false
theorem fixed_check1 {t : GType} {a : GVal} (ht : tyB t = true) (h2 : t.Kind = 2) (ha : okV t a = true) : m_fixed_check t [a] = some 0 := by
 unfold m_fixed_check
 obtain ⟨f, hf⟩ : ∃ f, fu = f + 1 + 1 := ⟨18446744073709551614, rfl⟩
 have e6 : wi64 1 = 1 := by rfl
 have l0 : lat [a] 0 = some a := rfl
 rw [fixed_ValidateType, hf]
 simp [h2, ht, m_fixed_check_l1, l0, e6, fixed_Valid _ ht h2, ha]
theorem ref01_size {n : Int} (h : R64 n) : m_ref01_size n = m_frac_magnitude n := by
 rw [frac_magnitude h]
 obtain ⟨h1, h2⟩ := h
 unfold m_ref01_size
 by_cases hn : n < 0
 ·simp only [hn, decide_true, if_true]
  rw [wi (p := n + 1) ⟨by omega, by omega⟩, wi (p := -(n + 1)) ⟨by omega, by omega⟩, wu (p := -(n + 1)) ⟨by omega, by omega⟩, wu ⟨by omega, by omega⟩]
  congr 1; omega
 ·simp only [hn, decide_false, Bool.false_eq_true, if_false]
  rw [wu ⟨by omega, by omega⟩]
theorem gcd_same (a b : Int) : m_ref01_gcd a b = m_frac_gcd a b := by
 unfold m_ref01_gcd m_frac_gcd
 generalize fu = f
 induction f generalizing a b with
 | zero => rfl
 | succ f ih => rw [m_ref01_gcd_l1, m_frac_gcd_l1]; simp only [ih]
theorem ref01_New {n d : Int} (hn : R64 n) (hd : R64 d) : m_ref01_New n d = m_frac_New n d := by
 unfold m_ref01_New m_frac_New m_ref01_made
 by_cases h : d = 0
 ·simp [h]
 ·simp only [h, decide_false, Bool.false_eq_true, if_false, ref01_size hn, ref01_size hd, Option.bind_some, bind_pair, gcd_same]
end Go.Proofs.YtebpdmfmknfkjaaGreatDoor
