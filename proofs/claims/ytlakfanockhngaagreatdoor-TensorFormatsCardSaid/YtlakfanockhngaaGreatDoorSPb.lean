/- The law of the type queries, in plain terms: it is true for every type and number. Conditions: the ranges of int and int64. -/
import Derived.Test.YtlakfanockhngaaGreatDoorSPa
namespace Go.Proofs.YtlakfanockhngaaGreatDoor
open Go Go.RowKit Go.Vc
set_option linter.unusedVariables false
set_option linter.unusedSimpArgs false

theorem ref04_step {t : GType} (h : 0 ≤ t.Frac) (h' : t.Frac ≤ 30) : m_ref04_step t = some (pw t.Frac) := by
  have hp := pw_bd (n := t.Frac) h'
  unfold m_ref04_step
  rw [wu (p := t.Frac) ⟨by omega, by omega⟩, if_pos h, pw_sh' h h', Int.one_mul, wi ⟨by omega, by omega⟩]
end Go.Proofs.YtlakfanockhngaaGreatDoor
