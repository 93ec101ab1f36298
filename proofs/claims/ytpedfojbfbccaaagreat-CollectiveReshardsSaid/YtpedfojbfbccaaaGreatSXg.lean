import Derived.Test.YtpedfojbfbccaaaGreatSXf
namespace Go.Proofs.YtpedfojbfbccaaaGreat
open Go Go.RowKit Go.Vc
set_option linter.unusedVariables false
set_option linter.unusedSimpArgs false
theorem Ok.ch {m : GMesh} {l : List GTensor} {md dn : List Nat} {ty : GType} (h : Ok m l md ty dn) : chErr m l = 0 := by
 obtain ⟨t0, r, hl0⟩ := h.ne
 have ht0 := h.ten t0 (by rw [hl0]; simp)
 unfold chErr
 rw [if_pos h.m.b, h.m.eq, ci_nat, if_pos h.len, if_pos (firstErr_of fun t ht => (h.ten t ht).1.err), hl0]
 simp only
 refine firstErr_of fun t ht => ?_
 have := h.ten t (by rw [hl0]; simp [ht])
 unfold cT
 rw [if_pos (by rw [this.2, ht0.2]), if_pos (by rw [this.1.shp.eq, ht0.1.shp.eq])]
end Go.Proofs.YtpedfojbfbccaaaGreat
