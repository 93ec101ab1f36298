import Derived.Test.YtebpdmfmknfkjaaGreatDoorSPa
namespace Go.Proofs.YtebpdmfmknfkjaaGreatDoor
open Go Go.RowKit Go.Vc
set_option linter.unusedVariables false
set_option linter.unusedSimpArgs false
theorem ref04_step {t : GType} (h : 0 ≤ t.Frac) (h' : t.Frac ≤ 30) : m_ref04_step t = some (pw t.Frac) := by
 have hp := pw_bd (n := t.Frac) h'
 unfold m_ref04_step
 rw [wu (p := t.Frac) ⟨by omega, by omega⟩, if_pos h, pw_sh' h h', Int.one_mul, wi ⟨by omega, by omega⟩]
end Go.Proofs.YtebpdmfmknfkjaaGreatDoor
namespace Go.Proofs.YtebpdmfmknfkjaaGreatDoor
open Go Go.RowKit Go.Vc
set_option linter.unusedVariables false
set_option linter.unusedSimpArgs false
theorem bind_pair {α β : Type} (m : Option (α × β)) : (m.bind fun r => some (r.1, r.2)) = m := by cases m <;> rfl
def stop (a b : Int) (neg : Bool) (how : Int) : Prop := (a % b = 0 ∨ how = 3) ∨ (how = 1 ∧ neg = false) ∨ (how = 2 ∧ neg = true) ∨ (how = 4 ∧ (2 * (a % b) < b ∨ (2 * (a % b) = b ∧ (a / b) % 2 = 0)))
instance {a b : Int} {neg : Bool} {how : Int} : Decidable (stop a b neg how) := by unfold stop; infer_instance
end Go.Proofs.YtebpdmfmknfkjaaGreatDoor
namespace Go.Proofs.YtebpdmfmknfkjaaGreatDoor
open Go Go.RowKit Go.Vc
set_option linter.unusedVariables false
set_option linter.unusedSimpArgs false
end Go.Proofs.YtebpdmfmknfkjaaGreatDoor
namespace Go.Proofs.YtebpdmfmknfkjaaGreatDoor
open Go Go.RowKit Go.Vc
set_option linter.unusedVariables false
set_option linter.unusedSimpArgs false
theorem okV_fix {t : GType} {v : GVal} (ht : tyB t = true) (h2 : t.Kind = 2) (h : okV t v = true) : v.D = 1 ∧ -1073741824 ≤ v.N ∧ v.N ≤ 1073741824 := by
 obtain ⟨a, b, c, d, e, f, g⟩ := tyB_fix ht h2
 have hp := pw_bd (n := t.Bits - 1) (by omega)
 unfold okV at h
 simp [h2] at h
 omega
theorem okV_int {t : GType} {v : GVal} (h3 : t.Kind = 3) (h : okV t v = true) : v.D = 1 ∧ -2147483647 ≤ v.N ∧ v.N ≤ 2147483647 := by
 unfold okV at h
 simpa [h3] using h
theorem okV_fr {t : GType} {v : GVal} (h1 : t.Kind = 1) (h : okV t v = true) : frOK v = true := by
 unfold okV at h
 simpa [h1] using h
theorem frOK_D1 {v : GVal} (hD : v.D = 1) (hN : -2147483647 ≤ v.N ∧ v.N ≤ 2147483647) : frOK v = true := by
 unfold frOK; simp [hD, hN]
theorem frOK_bd {v : GVal} (h : frOK v = true) : 1 ≤ v.D ∧ v.D ≤ 2147483647 ∧ -2147483647 ≤ v.N ∧ v.N ≤ 2147483647 ∧ Int.gcd v.N v.D = 1 := by
 unfold frOK at h; simpa using h
theorem ref01_Valid {v : GVal} (h : VaR v) : m_ref01_Valid v = some (frOK v) := by
 unfold m_ref01_Valid
 rw [base_Val (by rfl) h]
 rfl
theorem frVaR {v : GVal} (h : frOK v = true) : VaR v := by
 obtain ⟨a1, a2, a3, a4, a5⟩ := frOK_bd h
 exact ⟨⟨by omega, by omega⟩, ⟨by omega, by omega⟩⟩
end Go.Proofs.YtebpdmfmknfkjaaGreatDoor
