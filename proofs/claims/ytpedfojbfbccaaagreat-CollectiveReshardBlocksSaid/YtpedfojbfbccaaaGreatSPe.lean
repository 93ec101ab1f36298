import Derived.Test.YtpedfojbfbccaaaGreatSPd
namespace Go.Proofs.YtpedfojbfbccaaaGreat
open Go Go.RowKit Go.Vc
set_option linter.unusedVariables false
set_option linter.unusedSimpArgs false
theorem okV_fix {t : GType} {v : GVal} (ht : tyB t = true) (h2 : t.Kind = 2) (h : okV t v = true) : v.D = 1 ∧ -1073741824 ≤ v.N ∧ v.N ≤ 1073741824 := by
 obtain ⟨a, b, c, d, e, f, g⟩ := tyB_fix ht h2
 have hp := pw_bd (n := t.Bits - 1) (by omega)
 unfold okV at h
 simp [h2] at h
 omega
theorem okV_int {t : GType} {v : GVal} (h3 : t.Kind = 3) (h : okV t v = true) : v.D = 1 ∧ -2147483647 ≤ v.N ∧ v.N ≤ 2147483647 := by
 unfold okV at h
 simpa [h3] using h
theorem okV_fr {t : GType} {v : GVal} (h1 : t.Kind = 1) (h : okV t v = true) : frOK v = true := by
 unfold okV at h
 simpa [h1] using h
theorem frOK_D1 {v : GVal} (hD : v.D = 1) (hN : -2147483647 ≤ v.N ∧ v.N ≤ 2147483647) : frOK v = true := by
 unfold frOK; simp [hD, hN]
theorem frOK_of {t : GType} {v : GVal} (ht : tyB t = true) (h : okV t v = true) : frOK v = true := by
 rcases tyB_kind ht with k | k | k
 ·exact okV_fr k h
 ·obtain ⟨h1, h2, h3⟩ := okV_fix ht k h; exact frOK_D1 h1 ⟨by omega, by omega⟩
 ·obtain ⟨h1, h2, h3⟩ := okV_int k h; exact frOK_D1 h1 ⟨by omega, by omega⟩
theorem frOK_bd {v : GVal} (h : frOK v = true) : 1 ≤ v.D ∧ v.D ≤ 2147483647 ∧ -2147483647 ≤ v.N ∧ v.N ≤ 2147483647 ∧ Int.gcd v.N v.D = 1 := by
 unfold frOK at h; simpa using h
theorem frVaR {v : GVal} (h : frOK v = true) : VaR v := by
 obtain ⟨a1, a2, a3, a4, a5⟩ := frOK_bd h
 exact ⟨⟨by omega, by omega⟩, ⟨by omega, by omega⟩⟩
end Go.Proofs.YtpedfojbfbccaaaGreat
