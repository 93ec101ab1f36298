import Derived.Test.YtebpdmfmknfkjaaGreatDoorSPa
namespace Go.Proofs.YtebpdmfmknfkjaaGreatDoor
open Go Go.RowKit Go.Vc
set_option linter.unusedVariables false
set_option linter.unusedSimpArgs false
theorem ref04_step {t : GType} (h : 0 ≤ t.Frac) (h' : t.Frac ≤ 30) : m_ref04_step t = some (pw t.Frac) := by
 have hp := pw_bd (n := t.Frac) h'
 unfold m_ref04_step
 rw [wu (p := t.Frac) ⟨by omega, by omega⟩, if_pos h, pw_sh' h h', Int.one_mul, wi ⟨by omega, by omega⟩]
end Go.Proofs.YtebpdmfmknfkjaaGreatDoor
namespace Go.Proofs.YtebpdmfmknfkjaaGreatDoor
open Go Go.RowKit Go.Vc
set_option linter.unusedVariables false
set_option linter.unusedSimpArgs false
theorem bind_pair {α β : Type} (m : Option (α × β)) : (m.bind fun r => some (r.1, r.2)) = m := by cases m <;> rfl
def stop (a b : Int) (neg : Bool) (how : Int) : Prop := (a % b = 0 ∨ how = 3) ∨ (how = 1 ∧ neg = false) ∨ (how = 2 ∧ neg = true) ∨ (how = 4 ∧ (2 * (a % b) < b ∨ (2 * (a % b) = b ∧ (a / b) % 2 = 0)))
instance {a b : Int} {neg : Bool} {how : Int} : Decidable (stop a b neg how) := by unfold stop; infer_instance
end Go.Proofs.YtebpdmfmknfkjaaGreatDoor
namespace Go.Proofs.YtebpdmfmknfkjaaGreatDoor
open Go Go.RowKit Go.Vc
set_option linter.unusedVariables false
set_option linter.unusedSimpArgs false
end Go.Proofs.YtebpdmfmknfkjaaGreatDoor
namespace Go.Proofs.YtebpdmfmknfkjaaGreatDoor
open Go Go.RowKit Go.Vc
set_option linter.unusedVariables false
set_option linter.unusedSimpArgs false
theorem mul_bd {x y : Int} {B : Nat} (hx : -(B : Int) ≤ x ∧ x ≤ B) (hy : -(B : Int) ≤ y ∧ y ≤ B) : -((B * B : Nat) : Int) ≤ x * y ∧ x * y ≤ ((B * B : Nat) : Int) := by
 have h1 : x.natAbs ≤ B := by omega
 have h2 : y.natAbs ≤ B := by omega
 have h3 := Nat.mul_le_mul h1 h2
 rw [← Int.natAbs_mul] at h3
 omega
theorem okV_fix {t : GType} {v : GVal} (ht : tyB t = true) (h2 : t.Kind = 2) (h : okV t v = true) : v.D = 1 ∧ -1073741824 ≤ v.N ∧ v.N ≤ 1073741824 := by
 obtain ⟨a, b, c, d, e, f, g⟩ := tyB_fix ht h2
 have hp := pw_bd (n := t.Bits - 1) (by omega)
 unfold okV at h
 simp [h2] at h
 omega
theorem okV_int {t : GType} {v : GVal} (h3 : t.Kind = 3) (h : okV t v = true) : v.D = 1 ∧ -2147483647 ≤ v.N ∧ v.N ≤ 2147483647 := by
 unfold okV at h
 simpa [h3] using h
theorem okV_fr {t : GType} {v : GVal} (h1 : t.Kind = 1) (h : okV t v = true) : frOK v = true := by
 unfold okV at h
 simpa [h1] using h
theorem frOK_D1 {v : GVal} (hD : v.D = 1) (hN : -2147483647 ≤ v.N ∧ v.N ≤ 2147483647) : frOK v = true := by
 unfold frOK; simp [hD, hN]
theorem frOK_bd {v : GVal} (h : frOK v = true) : 1 ≤ v.D ∧ v.D ≤ 2147483647 ∧ -2147483647 ≤ v.N ∧ v.N ≤ 2147483647 ∧ Int.gcd v.N v.D = 1 := by
 unfold frOK at h; simpa using h
theorem ref01_Valid {v : GVal} (h : VaR v) : m_ref01_Valid v = some (frOK v) := by
 unfold m_ref01_Valid
 rw [base_Val (by rfl) h]
 rfl
theorem frVaR {v : GVal} (h : frOK v = true) : VaR v := by
 obtain ⟨a1, a2, a3, a4, a5⟩ := frOK_bd h
 exact ⟨⟨by omega, by omega⟩, ⟨by omega, by omega⟩⟩
theorem cross {a b : GVal} (ha : frOK a = true) (hb : frOK b = true) : -4611686018427387904 ≤ a.N * b.D ∧ a.N * b.D ≤ 4611686018427387904 := by
 obtain ⟨a1, a2, a3, a4, a5⟩ := frOK_bd ha
 obtain ⟨b1, b2, b3, b4, b5⟩ := frOK_bd hb
 have := mul_bd (x := a.N) (y := b.D) (B := 2147483647) ⟨by omega, by omega⟩ ⟨by omega, by omega⟩
 omega
end Go.Proofs.YtebpdmfmknfkjaaGreatDoor
namespace Go.Proofs.YtebpdmfmknfkjaaGreatDoor
open Go Go.RowKit Go.Vc
set_option linter.unusedVariables false
set_option linter.unusedSimpArgs false
theorem fixed_check1 {t : GType} {a : GVal} (ht : tyB t = true) (h2 : t.Kind = 2) (ha : okV t a = true) : m_fixed_check t [a] = some 0 := by
 unfold m_fixed_check
 obtain ⟨f, hf⟩ : ∃ f, fu = f + 1 + 1 := ⟨18446744073709551614, rfl⟩
 have e6 : wi64 1 = 1 := by rfl
 have l0 : lat [a] 0 = some a := rfl
 rw [fixed_ValidateType, hf]
 simp [h2, ht, m_fixed_check_l1, l0, e6, fixed_Valid _ ht h2, ha]
theorem ref01_size {n : Int} (h : R64 n) : m_ref01_size n = m_frac_magnitude n := by
 rw [frac_magnitude h]
 obtain ⟨h1, h2⟩ := h
 unfold m_ref01_size
 by_cases hn : n < 0
 ·simp only [hn, decide_true, if_true]
  rw [wi (p := n + 1) ⟨by omega, by omega⟩, wi (p := -(n + 1)) ⟨by omega, by omega⟩, wu (p := -(n + 1)) ⟨by omega, by omega⟩, wu ⟨by omega, by omega⟩]
  congr 1; omega
 ·simp only [hn, decide_false, Bool.false_eq_true, if_false]
  rw [wu ⟨by omega, by omega⟩]
theorem gcd_same (a b : Int) : m_ref01_gcd a b = m_frac_gcd a b := by
 unfold m_ref01_gcd m_frac_gcd
 generalize fu = f
 induction f generalizing a b with
 | zero => rfl
 | succ f ih => rw [m_ref01_gcd_l1, m_frac_gcd_l1]; simp only [ih]
theorem ref01_New {n d : Int} (hn : R64 n) (hd : R64 d) : m_ref01_New n d = m_frac_New n d := by
 unfold m_ref01_New m_frac_New m_ref01_made
 by_cases h : d = 0
 ·simp [h]
 ·simp only [h, decide_false, Bool.false_eq_true, if_false, ref01_size hn, ref01_size hd, Option.bind_some, bind_pair, gcd_same]
end Go.Proofs.YtebpdmfmknfkjaaGreatDoor
