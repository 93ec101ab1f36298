import Derived.Test.YtpedfojbfbccaaaGreatSTg
namespace Go.Proofs.YtpedfojbfbccaaaGreat
open Go Go.RowKit Go.Vc
set_option linter.unusedVariables false
set_option linter.unusedSimpArgs false
theorem Jn.head {l : List GTensor} {i : Nat} {ty : GType} {d1 d2 ms : List Nat} (h : Jn l i ty d1 d2 ms) : ∃ t0 r m0 mr, l = t0 :: r ∧ ms = m0 :: mr ∧ r.length = mr.length := by
 have hl := h.len
 rcases l with _ | ⟨t0, r⟩
 ·exact absurd rfl h.ne
 rcases ms with _ | ⟨m0, mr⟩
 ·simp at hl
 exact ⟨t0, r, m0, mr, rfl, rfl, by simpa using hl⟩
theorem mid_set {d1 d2 : List Nat} {i a b : Nat} (h : d1.length = i) : (d1 ++ a :: d2).set i b = d1 ++ b :: d2 := by
 rw [List.set_append_right _ _ (by omega), h]; simp
theorem mid_at {d1 d2 : List Nat} {i a : Nat} (h : d1.length = i) : lat (ci (d1 ++ a :: d2)) (i : Int) = some (a : Int) :=
 ci_at (by rw [List.getElem?_append_right (by omega), h]; simp)
theorem concat_blocks {l : List GTensor} {i : Nat} {ty : GType} {d1 d2 ms : List Nat} (h : Jn l i ty d1 d2 ms) (hn : l.length ≤ 1000) (hS : prd d1 * sumL ms * prd d2 ≤ 4096) (r2 : Int × Int × Int) (h1 : r2.1 = (prd d1 : Int)) (hr2 : r2.2.2 = (prd d2 : Int)) (D : List Int) :
  m_tensor_Concat_l1 r2 l (i : Int) fu 0 ⟨ty, D, []⟩ = some (⟨ty, D, catV (prd d1) (prd d2) (prs l ms)⟩, 0) := by
 obtain ⟨p1, p2, p3, p4, p5⟩ := h.pos
 have hO := prd_pos p1
 have hI := prd_pos p2
 have hM : 1 ≤ sumL ms := by
  rcases ms with _ | ⟨m, r⟩
  ·simp at p5
  ·have := p3 m (by simp); simp only [sumL]; omega
 have hOle : prd d1 ≤ 4096 := by
  have : prd d1 ≤ prd d1 * (sumL ms * prd d2) := Nat.le_mul_of_pos_right _ (Nat.mul_pos hM hI)
  rw [← Nat.mul_assoc] at this; omega
 have hlens := h.lens
 have hmap := prs_map h.len
 refine loop_eq (L := fun g s k => m_tensor_Concat_l1 r2 l (i : Int) g k s) (n := prd d1) (by omega) (fun o s => s = ⟨ty, D, (List.range o).flatMap fun o => (prs l ms).flatMap fun p => (p.1.drop (o * p.2 * prd d2)).take (p.2 * prd d2)⟩) ?_ ?_ ⟨ty, D, []⟩ (by simp)
 ·rintro g o s ho rfl
  left
  refine ⟨_, rfl, ?_⟩
  simp only [m_tensor_Concat_l1]
  have hlen : ((List.range o).flatMap fun o => (prs l ms).flatMap fun p => (p.1.drop (o * p.2 * prd d2)).take (p.2 * prd d2)).length ≤ 4096 := by
   rw [chunk_len (L := sumL ms * prd d2) _ o fun q hq => by rw [rows_len (by omega) _ hlens, hmap]]
   have : o * (sumL ms * prd d2) ≤ prd d1 * (sumL ms * prd d2) := Nat.mul_le_mul_right _ (by omega)
   rw [← Nat.mul_assoc (prd d1)] at this; omega
  rw [h1, if_pos (lt_dec ho), concat_row h hn hS ho r2 hr2 _ D _ hlen, wis (by omega), List.range_succ, List.flatMap_append]
  simp
 ·rintro g s rfl
  simp only [m_tensor_Concat_l1]
  rw [h1, if_neg (by simp)]; rfl
theorem tensor_Concat {l : List GTensor} {i : Nat} {ty : GType} {d1 d2 ms : List Nat} (hl : TeL l) (hn : l.length ≤ 1000) (hj : jErr (i : Int) l = 0) (h : Jn l i ty d1 d2 ms) : m_tensor_Concat (i : Int) l = some (catS ty d1 d2 ms l) := by
 have hlen := h.len
 obtain ⟨p1, p2, p3, p4, p5⟩ := h.pos
 unfold m_tensor_Concat
 rw [tensor_joinable hl hn, Option.bind_some, hj, if_neg (by simp)]
 unfold catS
 refine loop_eq (L := fun g s k => m_tensor_Concat_l4 l (i : Int) g s k) (n := l.length) (by omega) (fun k s => s = ((prd d1 * sumL (ms.take k) * prd d2 : Nat) : Int) ∧ prd d1 * sumL (ms.take k) * prd d2 ≤ 4096) ?_ ?_ 0 (by simp [sumL])
 ·rintro g k s hk ⟨rfl, hs⟩
  obtain ⟨t, ht⟩ := at_some hk
  obtain ⟨m, hm⟩ := at_some (l := ms) (i := k) (by omega)
  have hd := h.dims ht hm
  have ho := h.osum k t m ht hm
  have hb := (h.m_le hm).1
  simp only [m_tensor_Concat_l4]
  rw [if_pos (lt_dec hk), lat_at ht, Option.bind_some, wia (by omega), ← ho, Option.bind_some]
  by_cases hc : 4096 < prd d1 * sumL (ms.take (k + 1)) * prd d2
  ·right
   rw [if_pos (decide_eq_true (by omega)), if_neg]
   ·rfl
   ·have : prd d1 * sumL (ms.take (k + 1)) * prd d2 ≤ prd d1 * sumL ms * prd d2 := Nat.mul_le_mul_right _ (Nat.mul_le_mul_left _ (sumL_take_le _ _))
    omega
  ·left
   rw [if_neg (by rw [decide_eq_true_iff]; omega)]
   exact ⟨_, ⟨rfl, by omega⟩, by rw [wis (by omega)]⟩
 ·rintro g s ⟨rfl, hs⟩
  rw [List.take_of_length_le (by omega)] at hs
  rw [if_pos hs]
  simp only [m_tensor_Concat_l4]
  rw [if_neg (by simp), m_tensor_Concat_j1]
  obtain ⟨t0, r, m0, mr, rfl, rfl, hrl⟩ := h.head
  have hd0 := h.dims (k := 0) (t := t0) (m := m0) rfl rfl
  have hty := (h.ten 0 t0 m0 rfl rfl).2
  have hten := (h.ten 0 t0 m0 rfl rfl).1
  have hmle := (h.m_le (k := 0) (m := m0) rfl).2
  have hsum := h.lsum hn
  have hrn : r.length ≤ 1000 := by simp at hn; omega
  rw [show lat (t0 :: r) 0 = some t0 from rfl, Option.bind_some, Option.bind_some, lapp_nil (by omega), Option.bind_some, lfrom1, Option.bind_some, hty, hd0.1]
  refine loop_eq (L := fun g s k => m_tensor_Concat_l3 r (i : Int) (t0 :: r) g k s) (n := r.length) (by simp at hn; omega) (fun k s => s = ⟨ty, ci (d1 ++ sumL ((m0 :: mr).take (k + 1)) :: d2), []⟩) ?_ ?_ _ (by simp [sumL])
  ·rintro g k s hk rfl
   obtain ⟨t, ht⟩ := at_some hk
   obtain ⟨m, hm⟩ := at_some (l := mr) (i := k) (by omega)
   have hd := h.dims (k := k + 1) (t := t) (m := m) (by simpa using ht) (by simpa using hm)
   have hmle := (h.m_le (k := k + 1) (m := m) (by simpa using hm)).2
   have hst := sumL_take_le (m0 :: mr) (k + 1)
   have hss := sumL_take_succ (l := m0 :: mr) (k := k + 1) (m := m) (by simpa using hm)
   left
   refine ⟨_, rfl, ?_⟩
   simp only [m_tensor_Concat_l3]
   have hil : i < (d1 ++ sumL ((m0 :: mr).take (k + 1)) :: d2).length := by rw [List.length_append, h.ax]; simp
   rw [if_pos (lt_dec hk), lat_at ht, Option.bind_some, mid_at h.ax, Option.bind_some, hd.2.1, Option.bind_some, if_pos (by rw [ci_len]; omega), wia (by omega), ← hss, Int.toNat_natCast, ci_set, mid_set h.ax, wis (by omega)]
  ·rintro g s rfl
   simp only [m_tensor_Concat_l3]
   have e : (m0 :: mr).take (r.length + 1) = m0 :: mr := List.take_of_length_le (by simp [hrl])
   rw [if_neg (by simp), m_tensor_Concat_j2, show lat (t0 :: r) 0 = some t0 from rfl, Option.bind_some, split_ok hten.shp h.ax, Option.bind_some, e]
   exact concat_blocks h hn hs _ rfl rfl _
theorem ref_joined_size {l : List GTensor} {i : Nat} {ty : GType} {d1 d2 ms : List Nat} (hn : l.length ≤ 1000) (h : Jn l i ty d1 d2 ms) :
  m_ref12_joined_j2 l (i : Int) (sumL ms : Int) = some (if prd d1 * sumL ms * prd d2 ≤ 4096 then (((sumL ms : Nat) : Int), 0) else (0, 2)) := by
 have hsum := h.lsum hn
 obtain ⟨t0, r, m0, mr, rfl, rfl, hrl⟩ := h.head
 obtain ⟨p1, p2, p3, p4, p5⟩ := h.pos
 have hO := prd_pos p1
 have hI := prd_pos p2
 have hd0 := h.dims (k := 0) (t := t0) (m := m0) rfl rfl
 have hten := (h.ten 0 t0 m0 rfl rfl).1
 have hmle := h.m_le (k := 0) (m := m0) rfl
 unfold m_ref12_joined_j2
 have hle := hten.shp.le
 have hll := hten.shp.len
 rw [show lat (t0 :: r) 0 = some t0 from rfl, Option.bind_some, Option.bind_some, hd0.2.1, Option.bind_some, hd0.1, ref12_Size hten.shp.pos (by omega) (by omega), Option.bind_some, if_pos (by omega)]
 have hOI : 1 ≤ prd d1 * prd d2 := Nat.mul_pos hO hI
 have e1 : prd (d1 ++ m0 :: d2) / m0 = prd d1 * prd d2 := by
  rw [prd_app]; simp only [prd]
  rw [show prd d1 * (m0 * prd d2) = prd d1 * prd d2 * m0 by rw [Nat.mul_comm m0, ← Nat.mul_assoc], Nat.mul_div_cancel _ (by omega)]
 have hOIle : prd d1 * prd d2 ≤ 4096 := by
  rw [← e1]; exact Nat.le_trans (Nat.div_le_self _ _) hle
 have e2 : wi64 (Int.tdiv ((prd (d1 ++ m0 :: d2) : Nat) : Int) (m0 : Int)) = ((prd d1 * prd d2 : Nat) : Int) := by
  rw [← Int.ofNat_tdiv, e1]; exact wiN (by omega)
 rw [e2, if_pos (by omega)]
 have e3 : wi64 (Int.tdiv 4096 ((prd d1 * prd d2 : Nat) : Int)) = ((4096 / (prd d1 * prd d2) : Nat) : Int) := by
  rw [show Int.tdiv 4096 ((prd d1 * prd d2 : Nat) : Int) = ((4096 / (prd d1 * prd d2) : Nat) : Int) from (Int.ofNat_tdiv 4096 _).symm]
  exact wiN (by have := Nat.div_le_self 4096 (prd d1 * prd d2); omega)
 rw [e3]
 have e4 : 4096 / (prd d1 * prd d2) < sumL (m0 :: mr) ↔ ¬ prd d1 * sumL (m0 :: mr) * prd d2 ≤ 4096 := by
  rw [Nat.div_lt_iff_lt_mul hOI, Nat.not_le]
  rw [show prd d1 * sumL (m0 :: mr) * prd d2 = sumL (m0 :: mr) * (prd d1 * prd d2) by rw [Nat.mul_comm (prd d1), Nat.mul_assoc]]
 by_cases hc : prd d1 * sumL (m0 :: mr) * prd d2 ≤ 4096
 ·rw [if_pos hc, if_neg]
  rw [decide_eq_true_iff]; exact fun h => absurd hc (e4.1 (Int.ofNat_lt.1 h))
 ·rw [if_neg hc, if_pos (decide_eq_true (Int.ofNat_lt.2 (e4.2 hc)))]
theorem ref_joined {l : List GTensor} (hl : TeL l) (hn : l.length ≤ 1000) {t0 : GTensor} {r : List GTensor} (he : l = t0 :: r) (hT : firstErr teErr l = 0) (ax : Int) :
  (jErr ax l ≠ 0 → m_ref12_joined ax l = some (0, jErr ax l)) ∧ ∀ i ty d1 d2 ms, jErr ax l = 0 → ax = ((i : Nat) : Int) → Jn l i ty d1 d2 ms → m_ref12_joined ax l = some (if prd d1 * sumL ms * prd d2 ≤ 4096 then (((sumL ms : Nat) : Int), 0) else (0, 2)) := by
 subst he
 have hrl : r.length ≤ 1000 := by simp at hn; omega
 have e1 := jT_loop (l := t0 :: r) (t0 := t0) 1 (by simp) (by omega) (fun e => some ((0 : Int), e)) (m_ref12_joined_j1 ax (t0 :: r)) (m_ref12_joined_l3 (t0 :: r) ax) (fun f i x hx _ => by
  have hlt := (List.getElem?_eq_some_iff.1 hx).1
  simp only [m_ref12_joined_l3]
  rw [if_pos (lt_dec hlt), lat_at hx, Option.bind_some, show lat (t0 :: r) 0 = some t0 from rfl, Option.bind_some, Option.bind_some, Option.bind_some]; rfl) (fun f => by simp only [m_ref12_joined_l3]; rw [if_neg (by simp)])
 replace e1 : m_ref12_joined_l3 (t0 :: r) ax fu 1 = _ := e1
 rw [show (t0 :: r).drop 1 = r from rfl] at e1
 have key : m_ref12_joined ax (t0 :: r) = if firstErr (jT t0) r = 0 then m_ref12_joined_j1 ax (t0 :: r) else some (0, firstErr (jT t0) r) := by unfold m_ref12_joined; exact e1
 rw [key]
 simp only [jErr]
 rw [if_pos hT]
 by_cases h2 : firstErr (jT t0) r = 0
 rotate_left
 ·rw [if_neg h2, if_neg h2]
  exact ⟨fun _ => rfl, fun i ty d1 d2 ms h => absurd h h2⟩
 rw [if_pos h2, if_pos h2, m_ref12_joined_j1]
 by_cases ha : 0 ≤ ax ∧ ax < (t0.Dims.length : Int)
 rotate_left
 ·rw [if_neg ha]
  refine ⟨fun _ => ?_, fun i ty d1 d2 ms h => by cases h⟩
  by_cases h0 : ax < 0
  ·simp [gd, h0]
  ·rw [show gd (!(decide (ax < 0))) (lat (t0 :: r) 0) = some t0 by unfold gd; rw [if_pos (by simp; omega)]; rfl, Option.bind_some, if_pos (by simp; omega)]
 rw [if_pos ha, show gd (!(decide (ax < 0))) (lat (t0 :: r) 0) = some t0 by unfold gd; rw [if_pos (by simp; omega)]; rfl, Option.bind_some, if_neg (by simp; omega)]
 obtain ⟨k, rfl⟩ := Int.eq_ofNat_of_zero_le ha.1
 have hlenT : ∀ x ∈ t0 :: r, x.Dims.length = t0.Dims.length := fun x hx => by
  rcases List.mem_cons.1 hx with rfl | hm
  ·rfl
  ·have := firstErr0 h2 x hm
   unfold jT at this
   split at this
   ·split at this
    ·assumption
    ·cases this
   ·cases this
 have rnd : ∀ f (j : Nat) x s, (t0 :: r)[j]? = some x → m_ref12_joined_l1 (t0 :: r) (k : Int) (f + 1) s (j : Int) = if jD t0 (k : Int) x = 0 then m_ref12_joined_j4 (t0 :: r) (j : Int) (k : Int) (m_ref12_joined_l1 (t0 :: r) (k : Int) f) s else some (0, jD t0 (k : Int) x) := fun f j x s hx => by
  have hlt := (List.getElem?_eq_some_iff.1 hx).1
  have hm := List.mem_of_getElem? hx
  have hd := hl.d t0 (by simp)
  simp only [m_ref12_joined_l1]
  rw [if_pos (lt_dec hlt)]
  refine (jD_loop (a := t0.Dims) (b := x.Dims) (k := k) (hlenT x hm).symm hd (some (0, 15)) (m_ref12_joined_j4 (t0 :: r) (j : Int) (k : Int) (m_ref12_joined_l1 (t0 :: r) (k : Int) f) s) (m_ref12_joined_l2 (t0 :: r) (k : Int) (j : Int) (m_ref12_joined_l1 (t0 :: r) (k : Int) f) s) (fun g q a b ha' hb' => ?_) (fun g => ?_)).trans ?_
  ·have hq := (List.getElem?_eq_some_iff.1 ha').1
   simp only [m_ref12_joined_l2]
   rw [show lat (t0 :: r) 0 = some t0 from rfl, Option.bind_some, if_pos (lt_dec hq), lat_at hx, wis (by omega)]
   by_cases e : q = k
   ·simp [gd, e]
   ·have hne : ¬ (q : Int) = (k : Int) := by omega
    simp only [hne, decide_false, Bool.not_false, gd, if_true, Option.bind_some, lat_at hb', lat_at ha', Bool.true_and]
    by_cases c : b = a
    ·subst c; simp
    ·have : a ≠ b := fun h => c h.symm
     simp [c, this, e]
  ·simp only [m_ref12_joined_l2]
   rw [show lat (t0 :: r) 0 = some t0 from rfl, Option.bind_some, if_neg (by simp)]
  ·unfold jD
   rw [Int.toNat_natCast]
   by_cases c : x.Dims.set k 0 = t0.Dims.set k 0
   ·rw [if_pos c.symm, if_pos c]; rfl
   ·rw [if_neg fun h => c h.symm, if_neg c]; rfl
 constructor
 ·intro hne
  have h0 : jD t0 (k : Int) t0 = 0 := by simp [jD]
  have hat : ∀ x ∈ t0 :: r, ∃ m : Int, lat x.Dims (k : Int) = some m := fun x hx => by
   obtain ⟨m, hm⟩ := at_some (l := x.Dims) (i := k) (by rw [hlenT x hx]; omega)
   exact ⟨m, lat_at hm⟩
  have e4 : firstErr (jD t0 (k : Int)) (t0 :: r) = firstErr (jD t0 (k : Int)) r := by simp [firstErr, h0]
  rw [← e4]
  rw [← e4] at hne
  refine loop_eq (L := fun f s i => m_ref12_joined_l1 (t0 :: r) (k : Int) f s i) (n := (t0 :: r).length) (by omega) (fun i s => firstErr (jD t0 (k : Int)) ((t0 :: r).drop i) = firstErr (jD t0 (k : Int)) (t0 :: r)) ?_ ?_ 0 rfl
  ·intro f j s hj hI
   obtain ⟨x, hx⟩ := at_some hj
   rw [rnd f j x s hx]
   rw [drop_at hx] at hI
   simp only [firstErr] at hI
   by_cases hg : jD t0 (k : Int) x = 0
   ·left
    rw [if_pos hg] at hI ⊢
    obtain ⟨m, hm⟩ := hat x (List.mem_of_getElem? hx)
    refine ⟨wi64 (s + m), hI, ?_⟩
    rw [m_ref12_joined_j4, lat_at hx, Option.bind_some, hm, Option.bind_some, m_ref12_joined_j3, wis (by omega)]
   ·right
    rw [if_neg hg] at hI ⊢
    have h3 : firstErr (jD t0 (k : Int)) (t0 :: r) = jD t0 (k : Int) x := by simp only [firstErr]; exact hI.symm
    rw [h3]
  ·intro f s hI
   rw [List.drop_length] at hI
   exact absurd hI.symm hne
 ·intro i ty d1 d2 ms hz hki hJ
  obtain rfl : k = i := by omega
  have hD : ∀ x ∈ t0 :: r, jD t0 (k : Int) x = 0 := fun x hx => by
   rcases List.mem_cons.1 hx with rfl | hm
   ·simp [jD]
   ·exact firstErr0 hz x hm
  have hsum := hJ.lsum hn
  have hlen := hJ.len
  rw [← ref_joined_size hn hJ]
  refine loop_eq (L := fun f s i => m_ref12_joined_l1 (t0 :: r) (k : Int) f s i) (n := (t0 :: r).length) (by omega) (fun i s => s = ((sumL (ms.take i) : Nat) : Int)) ?_ ?_ 0 (by simp [sumL])
  ·rintro f j s hj rfl
   obtain ⟨x, hx⟩ := at_some hj
   obtain ⟨m, hm⟩ := at_some (l := ms) (i := j) (by omega)
   have h4 := sumL_take_le ms (j + 1)
   have h5 := sumL_take_succ hm
   rw [rnd f j x _ hx, if_pos (hD x (List.mem_of_getElem? hx))]
   left
   refine ⟨_, rfl, ?_⟩
   rw [m_ref12_joined_j4, lat_at hx, Option.bind_some, (hJ.dims hx hm).2.1, Option.bind_some, m_ref12_joined_j3, wis (by omega), wia (by omega), h5]
  ·rintro f s rfl
   simp only [m_ref12_joined_l1]
   rw [if_neg (by simp), List.take_of_length_le (by omega)]
end Go.Proofs.YtpedfojbfbccaaaGreat
