import Derived.Test.YtlakfanockhngaaDoorSPe
namespace Go.Proofs.YtlakfanockhngaaDoor
open Go Go.RowKit Go.Vc
set_option linter.unusedVariables false
set_option linter.unusedSimpArgs false
theorem fixed_check2 {t : GType} {a b : GVal} (ht : tyB t = true) (h2 : t.Kind = 2) (ha : okV t a = true) (hb : okV t b = true) : m_fixed_check t [a, b] = some 0 := by
 unfold m_fixed_check
 obtain ⟨f, hf⟩ : ∃ f, fu = f + 1 + 1 + 1 := ⟨18446744073709551613, rfl⟩
 have e6 : wi64 1 = 1 := by rfl
 have e7 : wi64 2 = 2 := by rfl
 have l0 : lat [a, b] 0 = some a := rfl
 have l1 : lat [a, b] 1 = some b := rfl
 rw [fixed_ValidateType, hf]
 simp [h2, ht, m_fixed_check_l1, l0, l1, e6, e7, fixed_Valid _ ht h2, ha, hb]
theorem fixed_apply {t : GType} {a b : GVal} {m : GType → Int → Int → Option (Int × Int)} {n e : Int} (ht : tyB t = true) (h2 : t.Kind = 2) (ha : okV t a = true) (hb : okV t b = true) (hm : m t a.N b.N = some (n, e)) :
  m_fixed_apply ⟨m⟩ t a b = some (if e = 0 then (⟨nar t n, 1⟩, 0) else (⟨0, 0⟩, e)) := by
 unfold m_fixed_apply
 rw [fixed_check2 ht h2 ha hb]
 simp only [Option.bind_some, decide_true, Bool.not_true, Bool.false_eq_true, if_false, hm]
 by_cases h : e = 0
 ·simp [h, fixed_narrow _ ht h2]
 ·simp [h]
end Go.Proofs.YtlakfanockhngaaDoor
