import Derived.Test.YtpedfojbfbccaaaGreatSTg
namespace Go.Proofs.YtpedfojbfbccaaaGreat
open Go Go.RowKit Go.Vc
set_option linter.unusedVariables false
set_option linter.unusedSimpArgs false
theorem Jn.head {l : List GTensor} {i : Nat} {ty : GType} {d1 d2 ms : List Nat} (h : Jn l i ty d1 d2 ms) : ∃ t0 r m0 mr, l = t0 :: r ∧ ms = m0 :: mr ∧ r.length = mr.length := by
 have hl := h.len
 rcases l with _ | ⟨t0, r⟩
 ·exact absurd rfl h.ne
 rcases ms with _ | ⟨m0, mr⟩
 ·simp at hl
 exact ⟨t0, r, m0, mr, rfl, rfl, by simpa using hl⟩
theorem mid_set {d1 d2 : List Nat} {i a b : Nat} (h : d1.length = i) : (d1 ++ a :: d2).set i b = d1 ++ b :: d2 := by
 rw [List.set_append_right _ _ (by omega), h]; simp
theorem mid_at {d1 d2 : List Nat} {i a : Nat} (h : d1.length = i) : lat (ci (d1 ++ a :: d2)) (i : Int) = some (a : Int) :=
 ci_at (by rw [List.getElem?_append_right (by omega), h]; simp)
theorem concat_blocks {l : List GTensor} {i : Nat} {ty : GType} {d1 d2 ms : List Nat} (h : Jn l i ty d1 d2 ms) (hn : l.length ≤ 1000) (hS : prd d1 * sumL ms * prd d2 ≤ 4096) (r2 : Int × Int × Int) (h1 : r2.1 = (prd d1 : Int)) (hr2 : r2.2.2 = (prd d2 : Int)) (D : List Int) :
  m_tensor_Concat_l1 r2 l (i : Int) fu 0 ⟨ty, D, []⟩ = some (⟨ty, D, catV (prd d1) (prd d2) (prs l ms)⟩, 0) := by
 obtain ⟨p1, p2, p3, p4, p5⟩ := h.pos
 have hO := prd_pos p1
 have hI := prd_pos p2
 have hM : 1 ≤ sumL ms := by
  rcases ms with _ | ⟨m, r⟩
  ·simp at p5
  ·have := p3 m (by simp); simp only [sumL]; omega
 have hOle : prd d1 ≤ 4096 := by
  have : prd d1 ≤ prd d1 * (sumL ms * prd d2) := Nat.le_mul_of_pos_right _ (Nat.mul_pos hM hI)
  rw [← Nat.mul_assoc] at this; omega
 have hlens := h.lens
 have hmap := prs_map h.len
 refine loop_eq (L := fun g s k => m_tensor_Concat_l1 r2 l (i : Int) g k s) (n := prd d1) (by omega) (fun o s => s = ⟨ty, D, (List.range o).flatMap fun o => (prs l ms).flatMap fun p => (p.1.drop (o * p.2 * prd d2)).take (p.2 * prd d2)⟩) ?_ ?_ ⟨ty, D, []⟩ (by simp)
 ·rintro g o s ho rfl
  left
  refine ⟨_, rfl, ?_⟩
  simp only [m_tensor_Concat_l1]
  have hlen : ((List.range o).flatMap fun o => (prs l ms).flatMap fun p => (p.1.drop (o * p.2 * prd d2)).take (p.2 * prd d2)).length ≤ 4096 := by
   rw [chunk_len (L := sumL ms * prd d2) _ o fun q hq => by rw [rows_len (by omega) _ hlens, hmap]]
   have : o * (sumL ms * prd d2) ≤ prd d1 * (sumL ms * prd d2) := Nat.mul_le_mul_right _ (by omega)
   rw [← Nat.mul_assoc (prd d1)] at this; omega
  rw [h1, if_pos (lt_dec ho), concat_row h hn hS ho r2 hr2 _ D _ hlen, wis (by omega), List.range_succ, List.flatMap_append]
  simp
 ·rintro g s rfl
  simp only [m_tensor_Concat_l1]
  rw [h1, if_neg (by simp)]; rfl
theorem tensor_Concat {l : List GTensor} {i : Nat} {ty : GType} {d1 d2 ms : List Nat} (hl : TeL l) (hn : l.length ≤ 1000) (hj : jErr (i : Int) l = 0) (h : Jn l i ty d1 d2 ms) : m_tensor_Concat (i : Int) l = some (catS ty d1 d2 ms l) := by
 have hlen := h.len
 obtain ⟨p1, p2, p3, p4, p5⟩ := h.pos
 unfold m_tensor_Concat
 rw [tensor_joinable hl hn, Option.bind_some, hj, if_neg (by simp)]
 unfold catS
 refine loop_eq (L := fun g s k => m_tensor_Concat_l4 l (i : Int) g s k) (n := l.length) (by omega) (fun k s => s = ((prd d1 * sumL (ms.take k) * prd d2 : Nat) : Int) ∧ prd d1 * sumL (ms.take k) * prd d2 ≤ 4096) ?_ ?_ 0 (by simp [sumL])
 ·rintro g k s hk ⟨rfl, hs⟩
  obtain ⟨t, ht⟩ := at_some hk
  obtain ⟨m, hm⟩ := at_some (l := ms) (i := k) (by omega)
  have hd := h.dims ht hm
  have ho := h.osum k t m ht hm
  have hb := (h.m_le hm).1
  simp only [m_tensor_Concat_l4]
  rw [if_pos (lt_dec hk), lat_at ht, Option.bind_some, wia (by omega), ← ho, Option.bind_some]
  by_cases hc : 4096 < prd d1 * sumL (ms.take (k + 1)) * prd d2
  ·right
   rw [if_pos (decide_eq_true (by omega)), if_neg]
   ·rfl
   ·have : prd d1 * sumL (ms.take (k + 1)) * prd d2 ≤ prd d1 * sumL ms * prd d2 := Nat.mul_le_mul_right _ (Nat.mul_le_mul_left _ (sumL_take_le _ _))
    omega
  ·left
   rw [if_neg (by rw [decide_eq_true_iff]; omega)]
   exact ⟨_, ⟨rfl, by omega⟩, by rw [wis (by omega)]⟩
 ·rintro g s ⟨rfl, hs⟩
  rw [List.take_of_length_le (by omega)] at hs
  rw [if_pos hs]
  simp only [m_tensor_Concat_l4]
  rw [if_neg (by simp), m_tensor_Concat_j1]
  obtain ⟨t0, r, m0, mr, rfl, rfl, hrl⟩ := h.head
  have hd0 := h.dims (k := 0) (t := t0) (m := m0) rfl rfl
  have hty := (h.ten 0 t0 m0 rfl rfl).2
  have hten := (h.ten 0 t0 m0 rfl rfl).1
  have hmle := (h.m_le (k := 0) (m := m0) rfl).2
  have hsum := h.lsum hn
  have hrn : r.length ≤ 1000 := by simp at hn; omega
  rw [show lat (t0 :: r) 0 = some t0 from rfl, Option.bind_some, Option.bind_some, lapp_nil (by omega), Option.bind_some, lfrom1, Option.bind_some, hty, hd0.1]
  refine loop_eq (L := fun g s k => m_tensor_Concat_l3 r (i : Int) (t0 :: r) g k s) (n := r.length) (by simp at hn; omega) (fun k s => s = ⟨ty, ci (d1 ++ sumL ((m0 :: mr).take (k + 1)) :: d2), []⟩) ?_ ?_ _ (by simp [sumL])
  ·rintro g k s hk rfl
   obtain ⟨t, ht⟩ := at_some hk
   obtain ⟨m, hm⟩ := at_some (l := mr) (i := k) (by omega)
   have hd := h.dims (k := k + 1) (t := t) (m := m) (by simpa using ht) (by simpa using hm)
   have hmle := (h.m_le (k := k + 1) (m := m) (by simpa using hm)).2
   have hst := sumL_take_le (m0 :: mr) (k + 1)
   have hss := sumL_take_succ (l := m0 :: mr) (k := k + 1) (m := m) (by simpa using hm)
   left
   refine ⟨_, rfl, ?_⟩
   simp only [m_tensor_Concat_l3]
   have hil : i < (d1 ++ sumL ((m0 :: mr).take (k + 1)) :: d2).length := by rw [List.length_append, h.ax]; simp
   rw [if_pos (lt_dec hk), lat_at ht, Option.bind_some, mid_at h.ax, Option.bind_some, hd.2.1, Option.bind_some, if_pos (by rw [ci_len]; omega), wia (by omega), ← hss, Int.toNat_natCast, ci_set, mid_set h.ax, wis (by omega)]
  ·rintro g s rfl
   simp only [m_tensor_Concat_l3]
   have e : (m0 :: mr).take (r.length + 1) = m0 :: mr := List.take_of_length_le (by simp [hrl])
   rw [if_neg (by simp), m_tensor_Concat_j2, show lat (t0 :: r) 0 = some t0 from rfl, Option.bind_some, split_ok hten.shp h.ax, Option.bind_some, e]
   exact concat_blocks h hn hs _ rfl rfl _
end Go.Proofs.YtpedfojbfbccaaaGreat
