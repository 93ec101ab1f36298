import Derived.Test.YtlakfanockhngaaDoorSPi
namespace Go.Proofs.YtlakfanockhngaaDoor
open Go Go.RowKit Go.Vc
set_option linter.unusedVariables false
set_option linter.unusedSimpArgs false
theorem okV_nar {t : GType} (ht : tyB t = true) (k2 : t.Kind = 2) (n : Int) : okV t ⟨nar t n, 1⟩ = true := by
 have h := nar_bd ht k2 n
 unfold okV
 simp [k2, h.1, h.2]
end Go.Proofs.YtlakfanockhngaaDoor
