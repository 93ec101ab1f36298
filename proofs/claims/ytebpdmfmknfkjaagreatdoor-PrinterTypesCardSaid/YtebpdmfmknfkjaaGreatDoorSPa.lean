import Derived.Test.YtebpdmfmknfkjaaGreatDoorSOp
import Derived.KernelRfl
namespace Go.Proofs.YtebpdmfmknfkjaaGreatDoor
open Go Go.RowKit Go.Vc
set_option linter.unusedVariables false
set_option linter.unusedSimpArgs false
def tyB (t : GType) : Bool :=
 if t.Kind = 1 ∨ t.Kind = 3 then decide (t.Bits = 0 ∧ t.Frac = 0 ∧ t.Round = 0 ∧ t.Over = 0)
 else decide (t.Kind = 2 ∧ 2 ≤ t.Bits ∧ t.Bits ≤ 31 ∧ 0 ≤ t.Frac ∧ t.Frac ≤ 30 ∧ 1 ≤ t.Round ∧ t.Round ≤ 4 ∧ (t.Over = 1 ∨ t.Over = 2))
theorem base_Type (t : GType) : m_base_Type t = some (tyB t) := by
 unfold m_base_Type tyB
 by_cases h1 : t.Kind = 1
 ·simp [h1]; try simp only [Bool.decide_and, Bool.and_assoc]
 by_cases h3 : t.Kind = 3
 ·simp [h3]; try simp only [Bool.decide_and, Bool.and_assoc]
 simp [h1, h3, Bool.and_assoc]
theorem value_plain (t : GType) : m_value_plain t = some (decide (t.Bits = 0 ∧ t.Frac = 0 ∧ t.Round = 0 ∧ t.Over = 0)) := by
 unfold m_value_plain
 simp [Bool.and_assoc]
theorem fixed_ValidateType (t : GType) : m_fixed_ValidateType t = some (if t.Kind = 2 ∧ tyB t = true then 0 else 10) := by
 unfold m_fixed_ValidateType tyB
 simp only [Option.bind_some]
 by_cases h2 : t.Kind = 2
 ·simp only [h2]
  by_cases h : 2 ≤ t.Bits ∧ t.Bits ≤ 31 ∧ 0 ≤ t.Frac ∧ t.Frac ≤ 30 ∧ 1 ≤ t.Round ∧ t.Round ≤ 4 ∧ (t.Over = 1 ∨ t.Over = 2)
  ·obtain ⟨a, b, c, d, e, f, g⟩ := h
   simp [a, b, c, d, e, f, g, Int.not_lt.2 a, Int.not_lt.2 b, Int.not_lt.2 c, Int.not_lt.2 d]
   omega
  ·rw [if_pos, if_neg]
   ·simpa using h
   ·simp only [Bool.or_eq_true, Bool.and_eq_true, decide_eq_true_eq, Bool.not_eq_true', decide_eq_false_iff_not, Bool.and_eq_false_iff, Bool.or_eq_false_iff]
    omega
 ·simp [h2]
theorem value_ValidateType (t : GType) : m_value_ValidateType t = some (if tyB t = true then 0 else 10) := by
 unfold m_value_ValidateType m_value_ValidateType_j1
 simp only [value_plain, fixed_ValidateType, Option.bind_some]
 unfold tyB
 by_cases h1 : t.Kind = 1
 ·simp [h1]; split <;> simp_all
 by_cases h3 : t.Kind = 3
 ·simp [h3]; split <;> simp_all
 by_cases h2 : t.Kind = 2
 ·simp [h2, h1, h3]; split <;> simp_all
 ·simp [h1, h2, h3]
theorem tyB_fix {t : GType} (h : tyB t = true) (h2 : t.Kind = 2) : 2 ≤ t.Bits ∧ t.Bits ≤ 31 ∧ 0 ≤ t.Frac ∧ t.Frac ≤ 30 ∧ 1 ≤ t.Round ∧ t.Round ≤ 4 ∧ (t.Over = 1 ∨ t.Over = 2) := by
 unfold tyB at h
 simpa [h2] using h
theorem tyB_kind {t : GType} (h : tyB t = true) : t.Kind = 1 ∨ t.Kind = 2 ∨ t.Kind = 3 := by
 unfold tyB at h
 split at h
 ·omega
 ·simp at h; omega
theorem wi {p : Int} (h : R64 p) : wi64 p = p := wr_i64 h
theorem wu {p : Int} (h : RU64 p) : wu64 p = p := wr_u64 h
end Go.Proofs.YtebpdmfmknfkjaaGreatDoor
