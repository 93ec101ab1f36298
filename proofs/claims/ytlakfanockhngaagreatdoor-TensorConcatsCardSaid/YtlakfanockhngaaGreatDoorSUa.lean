/- Construction, reading and replacing elements of tensors: program and reference; the laws TensorConcats, TensorValidates, TensorElements. Conditions: the ranges of Go's types. -/
import Derived.Test.YtlakfanockhngaaGreatDoorSTi
namespace Go.Proofs.YtlakfanockhngaaGreatDoor
open Go Go.RowKit Go.Vc
set_option linter.unusedVariables false
set_option linter.unusedSimpArgs false

theorem ex12 : m_law12_examples = some true := by kernel_rfl
theorem TeR.of {t : GTensor} (h : okGTensor t) : TeR t := ⟨TyR.of h.1, fun v hv => VaR.of (h.2.2.1 v hv)⟩
theorem small12 (t : GTensor) (n : Int) : m_law12_Small t n = some ((decide ((t.Vals.length : Int) ≤ n)) && (decide ((t.Dims.length : Int) ≤ 20))) := rfl
theorem base_Tensor_refl {a : GTensor} (h1 : a.Dims.length < 4611686018427387904) (h2 : a.Vals.length < 4611686018427387904) : m_base_Tensor a a = some true := by
  rw [base_Tensor a a h1 h2, decide_eq_true rfl]
theorem z0_refl : m_base_Tensor z0 z0 = some true := base_Tensor_refl (by simp [z0]) (by simp [z0])

/-! ### Construction -/
theorem law_TensorConcats (axis : Int) (l : List GTensor) (_ : okI .i64 axis) (hl : okL okGTensor l) : m_law12_TensorConcats axis l = some true := by
  unfold m_law12_TensorConcats
  by_cases hn : 8 < l.length
  · rw [if_pos (by simp; omega), ex12]; rfl
  rw [if_neg (by simp; omega)]
  refine loop_eq (L := fun f (_ : Unit) i => m_law12_TensorConcats_l1 l axis f i) (n := l.length) (by omega) (fun i _ => ∀ t ∈ l.take i, t.Vals.length ≤ 4200 ∧ t.Dims.length ≤ 20) ?_ ?_ () (by simp)
  · rintro f i - hi hI
    obtain ⟨t, ht⟩ := at_some hi
    simp only [m_law12_TensorConcats_l1]
    rw [if_pos (lt_dec hi), lat_at ht, Option.bind_some, small12, Option.bind_some]
    by_cases hs : (t.Vals.length : Int) ≤ 4200 ∧ (t.Dims.length : Int) ≤ 20
    · left
      refine ⟨(), fun y hy => ?_, by rw [if_neg (by simpa using hs), wis (by omega)]⟩
      rw [take_succ' ht] at hy
      rcases List.mem_append.1 hy with h | h
      · exact hI y h
      · rw [List.mem_singleton.1 h]; omega
    · right
      rw [if_pos (by simp; omega), ex12]; rfl
  · rintro f - hI
    rw [List.take_length] at hI
    simp only [m_law12_TensorConcats_l1]
    rw [if_neg (by simp), m_law12_TensorConcats_j1]
    have hT : TeL l := ⟨fun t ht => TeR.of (hl.1 t ht), fun t ht => by have := (hI t ht).2; omega, fun t ht => by have := (hI t ht).1; omega⟩
    obtain ⟨r, c1, c2, c3, c4⟩ := Concat_same hT (by omega) axis
    have hrr : m_base_Tensor r.1 r.1 = some true := by
      by_cases hj : jErr axis l = 0
      · obtain ⟨i', ty', d1, d2, ms, hi', hJ⟩ := Jn.of hj
        rw [c4 i' ty' d1 d2 ms hj hi' hJ]
        unfold catS
        split
        · rename_i hS
          obtain ⟨_, _, _, p4, _⟩ := hJ.pos
          refine base_Tensor_refl ?_ ?_
          · simp only [ci_len]; simp; omega
          · simp only; rw [catV_len hJ.lens, prs_map hJ.len]; omega
        · exact z0_refl
      · rw [c3 hj]; exact z0_refl
    rw [c1, c2, Option.bind_some, Option.bind_some, hrr, ex12]
    simp [gd]

/-! ### Elements -/
end Go.Proofs.YtlakfanockhngaaGreatDoor
