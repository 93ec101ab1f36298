import Derived.Test.YtpedfojbfbccaaaGreatSTh
namespace Go.Proofs.YtpedfojbfbccaaaGreat
open Go Go.RowKit Go.Vc
set_option linter.unusedVariables false
set_option linter.unusedSimpArgs false
theorem pick_at {α : Type} {I o i : Nat} : ∀ (ps : List (List α × Nat)) (k q : Nat) (v : List α) (m : Nat), ps[k]? = some (v, m) → sumL ((ps.map (·.2)).take k) ≤ q → q < sumL ((ps.map (·.2)).take k) + m → pick I o i ps q = v[(o * m + (q - sumL ((ps.map (·.2)).take k))) * I + i]?
 | [], k, q, v, m, h, _, _ => by simp at h
 | p :: ps, 0, q, v, m, h, h1, h2 => by
  simp at h; subst h
  simp only [pick]
  rw [if_pos (by simpa [sumL] using h2)]; simp [sumL]
 | p :: ps, k + 1, q, v, m, h, h1, h2 => by
  simp only [List.map_cons, List.take_succ_cons, sumL] at h1 h2 ⊢
  simp only [pick]
  rw [if_neg (by omega), pick_at ps k (q - p.2) v m (by simpa using h) (by omega) (by omega)]
  congr 3; omega
end Go.Proofs.YtpedfojbfbccaaaGreat
