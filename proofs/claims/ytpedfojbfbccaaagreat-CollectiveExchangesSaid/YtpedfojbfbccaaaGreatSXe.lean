/- The laws CollectiveGathers and CollectiveExchanges in plain terms. Conditions: the ranges of Go's types. -/
import Derived.Test.YtpedfojbfbccaaaGreatSXd
namespace Go.Proofs.YtpedfojbfbccaaaGreat
open Go Go.RowKit Go.Vc
set_option linter.unusedVariables false
set_option linter.unusedSimpArgs false

theorem law_CollectiveExchanges (m : GMesh) (l : List GTensor) (axis from_ to_ : Int) (_ : okGMesh m) (hl : okL okGTensor l) (_ : okI .i64 axis) (_ : okI .i64 from_) (_ : okI .i64 to_) : m_law53_CollectiveExchanges m l axis from_ to_ = some true := by
  unfold m_law53_CollectiveExchanges
  obtain ⟨b, h1, h2⟩ := small_spec m l
  rw [h1, Option.bind_some]
  cases b
  · rw [if_pos (by rfl), ex53b]; rfl
  obtain ⟨_, s2, s3⟩ := h2 rfl
  have hT := TeL.of hl s3
  obtain ⟨r, ⟨r1, r2⟩, r3, r4⟩ := AllToAll_same (m := m) hT axis from_ to_
  rw [if_neg (by simp), r3, r4, Option.bind_some, Option.bind_some, base_Tensors_same r1 (by omega), ex53b]
  simp [gd]
end Go.Proofs.YtpedfojbfbccaaaGreat
