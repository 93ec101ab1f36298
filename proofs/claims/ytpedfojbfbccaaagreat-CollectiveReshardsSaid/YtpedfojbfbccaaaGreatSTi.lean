import Derived.Test.YtpedfojbfbccaaaGreatSTh
namespace Go.Proofs.YtpedfojbfbccaaaGreat
open Go Go.RowKit Go.Vc
set_option linter.unusedVariables false
set_option linter.unusedSimpArgs false
theorem pick_at {α : Type} {I o i : Nat} : ∀ (ps : List (List α × Nat)) (k q : Nat) (v : List α) (m : Nat), ps[k]? = some (v, m) → sumL ((ps.map (·.2)).take k) ≤ q → q < sumL ((ps.map (·.2)).take k) + m → pick I o i ps q = v[(o * m + (q - sumL ((ps.map (·.2)).take k))) * I + i]?
 | [], k, q, v, m, h, _, _ => by simp at h
 | p :: ps, 0, q, v, m, h, h1, h2 => by
  simp at h; subst h
  simp only [pick]
  rw [if_pos (by simpa [sumL] using h2)]; simp [sumL]
 | p :: ps, k + 1, q, v, m, h, h1, h2 => by
  simp only [List.map_cons, List.take_succ_cons, sumL] at h1 h2 ⊢
  simp only [pick]
  rw [if_neg (by omega), pick_at ps k (q - p.2) v m (by simpa using h) (by omega) (by omega)]
  congr 3; omega
theorem seek {l : List GTensor} {i : Nat} {ty : GType} {d1 d2 ms : List Nat} (h : Jn l i ty d1 d2 ms) (hn : l.length ≤ 1000) (hS : prd d1 * sumL ms * prd d2 ≤ 4096) {a : Nat} (ha : a < prd d1 * sumL ms * prd d2) (out : GTensor) (hV : out.Vals.length ≤ 4096) (self : Int → GTensor → Option (GTensor × Int)) {x : GVal} (hx : (catV (prd d1) (prd d2) (prs l ms))[a]? = some x) :
  m_ref12_Concat_l2 (i : Int) l out self (a : Int) fu (ci (pt (d1 ++ sumL ms :: d2) a)) 0 = self (wi64 ((a : Int) + 1)) ⟨out.Type_, out.Dims, out.Vals ++ [x]⟩ := by
 have hlen := h.len
 obtain ⟨p1, p2, p3, p4, p5⟩ := h.pos
 have hM : 1 ≤ sumL ms := by
  rcases ms with _ | ⟨m, r⟩
  ·simp at p5
  ·have := p3 m (by simp); simp only [sumL]; omega
 have hsum := h.lsum hn
 obtain ⟨q1, q2, q3, q4⟩ := num_split ha
 have hmap := prs_map hlen
 have hcat := catV_get (i := a % prd d2) (q := (a / prd d2) % sumL ms) (o := a / (sumL ms * prd d2)) h.lens q1 q3 (by rw [hmap]; exact q2)
 rw [hmap, ← q4, hx] at hcat
 have hpos : Pos (d1 ++ sumL ms :: d2) := fun y hy => by
  simp only [List.mem_append, List.mem_cons] at hy
  rcases hy with hy | rfl | hy
  ·exact p1 y hy
  ·exact hM
  ·exact p2 y hy
 have hax : Ax (d1 ++ sumL ms :: d2) i d1 (sumL ms) d2 := ⟨rfl, h.ax⟩
 have hq : (a / prd d2) % sumL ms < sumL ms := q2
 have hplen : (pt (d1 ++ sumL ms :: d2) a).length = (d1 ++ sumL ms :: d2).length := pt_len _ _
 have hilt : i < (d1 ++ sumL ms :: d2).length := by rw [List.length_append, h.ax]; simp
 refine loop_eq (L := fun f s k => m_ref12_Concat_l2 (i : Int) l out self (a : Int) f s k) (n := ms.length) (by omega) (fun k s => s = ci ((pt (d1 ++ sumL ms :: d2) a).set i ((a / prd d2) % sumL ms - sumL (ms.take k))) ∧ sumL (ms.take k) ≤ (a / prd d2) % sumL ms) ?_ ?_ _ ⟨?_, by simp [sumL]⟩
 ·rintro f k s hk ⟨rfl, hle⟩
  obtain ⟨m, hm⟩ := at_some hk
  obtain ⟨t, ht⟩ := at_some (l := l) (i := k) (by omega)
  have hd := h.dims ht hm
  have hmm := h.m_le hm
  have hat : lat (ci ((pt (d1 ++ sumL ms :: d2) a).set i ((a / prd d2) % sumL ms - sumL (ms.take k)))) (i : Int) = some (((a / prd d2) % sumL ms - sumL (ms.take k) : Nat) : Int) := ci_at (by rw [List.getElem?_set_self (by omega)])
  have hts := sumL_take_succ hm
  simp only [m_ref12_Concat_l2]
  rw [hat, Option.bind_some, lat_at ht, Option.bind_some, hd.2.1, Option.bind_some]
  by_cases hc : m ≤ (a / prd d2) % sumL ms - sumL (ms.take k)
  ·left
   rw [if_pos (decide_eq_true (by omega)), Option.bind_some, Option.bind_some, hd.2.1, Option.bind_some, if_pos ⟨by omega, by rw [ci_len, List.length_set, hplen]; omega⟩]
   refine ⟨_, ⟨?_, by omega⟩, by rw [wis (by omega)]⟩
   rw [show ((((a / prd d2) % sumL ms - sumL (ms.take k) : Nat) : Int) - (m : Int)) = (((a / prd d2) % sumL ms - sumL (ms.take (k + 1)) : Nat) : Int) by omega, wiN (by omega), Int.toNat_natCast, ci_set, List.set_set]
  ·right
   rw [if_neg (by rw [decide_eq_true_iff]; omega), m_ref12_Concat_j4, lat_at ht, Option.bind_some, Option.bind_some]
   have hten := (h.ten k t m ht hm).1
   have hax' : Ax (d1 ++ m :: d2) i d1 m d2 := ⟨rfl, h.ax⟩
   rw [ref12_Offset hten.shp (pt_set_bd hax hpos a hax' (by omega)), Option.bind_some, hax.off_set hpos a ha hax']
   have hpk : pick (prd d2) (a / (sumL ms * prd d2)) (a % prd d2) (prs l ms) ((a / prd d2) % sumL ms) = _ := pick_at (prs l ms) k ((a / prd d2) % sumL ms) t.Vals m (by unfold prs; rw [List.getElem?_zip_eq_some]; exact ⟨by rw [List.getElem?_map, ht]; rfl, hm⟩) (by rw [hmap]; exact hle) (by rw [hmap]; omega)
   rw [hmap, ← hcat] at hpk
   rw [lat_at hpk.symm, Option.bind_some, lapp_ok (by simp; omega), Option.bind_some, m_ref12_Concat_j3]
 ·rintro f s ⟨rfl, hle⟩
  exfalso
  rw [List.take_of_length_le (Nat.le_refl _)] at hle
  omega
 ·simp only [List.take_zero, sumL, Nat.sub_zero]
  congr 1
  apply List.ext_getElem?
  intro j
  by_cases e : i = j
  ·subst e
   rw [List.getElem?_set_self (by omega), hax.pt_at]
  ·rw [List.getElem?_set_ne e]
theorem ref12_Concat {l : List GTensor} {i : Nat} {ty : GType} {d1 d2 ms : List Nat} (hl : TeL l) (hn : l.length ≤ 1000) (hj : jErr (i : Int) l = 0) (h : Jn l i ty d1 d2 ms) : m_ref12_Concat (i : Int) l = some (catS ty d1 d2 ms l) := by
 have hlen := h.len
 obtain ⟨p1, p2, p3, p4, p5⟩ := h.pos
 have hsum := h.lsum hn
 have hM : 1 ≤ sumL ms := by
  rcases ms with _ | ⟨m, r⟩
  ·simp at p5
  ·have := p3 m (by simp); simp only [sumL]; omega
 obtain ⟨t0, r, m0, mr, he, hme, hrl⟩ := h.head
 have hT : firstErr teErr l = 0 := by
  rw [he] at hj ⊢
  simp only [jErr] at hj
  split at hj
  ·assumption
  ·contradiction
 have e1 := err_loop (l := l) teErr (fun e => some ((z0, e) : GTensor × Int)) (m_ref12_Concat_j1 (i : Int) l) 0 (by omega) (by omega) (m_ref12_Concat_l4 l (i : Int)) (fun f k x hx _ => by
  have hlt := (List.getElem?_eq_some_iff.1 hx).1
  have hm := List.mem_of_getElem? hx
  simp only [m_ref12_Concat_l4]
  rw [if_pos (lt_dec hlt), lat_at hx, Option.bind_some, ref12_Validate (hl.r x hm) (hl.d x hm) (hl.v x hm), Option.bind_some, wis (by omega)]
  by_cases h : teErr x = 0
  ·rw [if_neg (by simp [h]), if_pos h]
  ·rw [if_pos (by simp [h]), if_neg h]; rfl) (fun f => by simp only [m_ref12_Concat_l4]; rw [if_neg (by simp)])
 rw [List.drop_zero, if_pos hT] at e1
 replace e1 : m_ref12_Concat_l4 l (i : Int) fu 0 = _ := e1
 have hne : l.length ≠ 0 := by rw [he]; simp
 unfold m_ref12_Concat
 rw [if_neg (by simp; exact h.ne), e1, m_ref12_Concat_j1, (ref_joined hl hn he hT (i : Int)).2 i ty d1 d2 ms hj rfl h, Option.bind_some]
 unfold catS
 by_cases hS : prd d1 * sumL ms * prd d2 ≤ 4096
 rotate_left
 ·rw [if_neg hS, if_neg hS, if_pos (by simp)]; rfl
 rw [if_pos hS, if_pos hS, if_neg (by simp)]
 have hl0 : lat l 0 = some t0 := by rw [he]; rfl
 have hd0 := h.dims (k := 0) (t := t0) (m := m0) (by rw [he]; rfl) (by rw [hme]; rfl)
 have hty := (h.ten 0 t0 m0 (by rw [he]; rfl) (by rw [hme]; rfl)).2
 have hdl : t0.Dims.length = (d1 ++ sumL ms :: d2).length := by rw [hd0.1, ci_len]; simp
 have hil : i < t0.Dims.length := by rw [hdl, List.length_append, h.ax]; simp
 have hset : t0.Dims.set i ((sumL ms : Nat) : Int) = ci (d1 ++ sumL ms :: d2) := by rw [hd0.1, ci_set, mid_set h.ax]
 rw [hl0, Option.bind_some, hty]
 have e2 : m_ref12_Concat_l3 l (i : Int) (((sumL ms : Nat) : Int), 0) fu 0 ⟨ty, [], []⟩ = m_ref12_Concat_j2 (i : Int) l ⟨ty, ci (d1 ++ sumL ms :: d2), []⟩ := by
  refine loop_eq (L := fun g s k => m_ref12_Concat_l3 l (i : Int) (((sumL ms : Nat) : Int), 0) g k s) (n := t0.Dims.length) (by omega) (fun k s => s = ⟨ty, (t0.Dims.set i ((sumL ms : Nat) : Int)).take k, []⟩) ?_ ?_ ⟨ty, [], []⟩ (by simp)
  ·rintro g k s hk rfl
   obtain ⟨x, hx⟩ := at_some hk
   left
   refine ⟨_, rfl, ?_⟩
   simp only [m_ref12_Concat_l3]
   rw [hl0, Option.bind_some, if_pos (lt_dec hk)]
   by_cases e : k = i
   ·subst e
    rw [if_pos (by simp), lapp_ok (by simp; omega), Option.bind_some, m_ref12_Concat_j5, wis (by omega), take_succ' (x := ((sumL ms : Nat) : Int)) (by simp [hk])]
   ·rw [if_neg (by simpa using fun h => e (by omega)), Option.bind_some, lat_at hx, Option.bind_some, lapp_ok (by simp; omega), Option.bind_some, m_ref12_Concat_j5, wis (by omega), take_succ' (x := x) (by rw [List.getElem?_set_ne (fun h => e h.symm)]; exact hx)]
  ·rintro g s rfl
   simp only [m_ref12_Concat_l3]
   rw [hl0, Option.bind_some, if_neg (by simp), List.take_of_length_le (by simp), hset]
 rw [e2, m_ref12_Concat_j2]
 have hpos : Pos (d1 ++ sumL ms :: d2) := fun y hy => by
  simp only [List.mem_append, List.mem_cons] at hy
  rcases hy with hy | rfl | hy
  ·exact p1 y hy
  ·exact hM
  ·exact p2 y hy
 have hpr : prd (d1 ++ sumL ms :: d2) = prd d1 * sumL ms * prd d2 := by rw [prd_app]; simp [prd, Nat.mul_assoc]
 have hshp : Shp (ci (d1 ++ sumL ms :: d2)) (d1 ++ sumL ms :: d2) := ⟨rfl, hpos, by rw [hpr]; exact hS, by simp; omega⟩
 have hcl : (catV (prd d1) (prd d2) (prs l ms)).length = prd d1 * sumL ms * prd d2 := by rw [catV_len h.lens, prs_map hlen]
 refine loop_eq (L := fun g s k => m_ref12_Concat_l1 (i : Int) l g k s) (n := prd d1 * sumL ms * prd d2) (by omega) (fun a s => s = ⟨ty, ci (d1 ++ sumL ms :: d2), (catV (prd d1) (prd d2) (prs l ms)).take a⟩) ?_ ?_ _ (by simp)
 ·rintro g a s ha rfl
  obtain ⟨x, hx⟩ := at_some (l := catV (prd d1) (prd d2) (prs l ms)) (i := a) (by rw [hcl]; exact ha)
  left
  refine ⟨_, rfl, ?_⟩
  simp only [m_ref12_Concat_l1]
  rw [ref12_Size hpos (by rw [hpr]; omega) (by simp; omega), Option.bind_some, hpr, if_pos (lt_dec ha), ref12_Point_o hshp (by omega), Option.bind_some]
  rw [seek h hn hS ha ⟨ty, ci (d1 ++ sumL ms :: d2), (catV (prd d1) (prd d2) (prs l ms)).take a⟩ (by simp; omega) _ hx, wis (by omega), take_succ' hx]
 ·rintro g s rfl
  simp only [m_ref12_Concat_l1]
  rw [ref12_Size hpos (by rw [hpr]; omega) (by simp; omega), Option.bind_some, hpr, if_neg (by simp), List.take_of_length_le (by omega)]
theorem Concat_same {l : List GTensor} (hl : TeL l) (hn : l.length ≤ 1000) (ax : Int) : ∃ r, m_tensor_Concat ax l = some r ∧ m_ref12_Concat ax l = some r ∧ (jErr ax l ≠ 0 → r = (z0, jErr ax l)) ∧ ∀ i ty d1 d2 ms, jErr ax l = 0 → ax = ((i : Nat) : Int) → Jn l i ty d1 d2 ms → r = catS ty d1 d2 ms l := by
 by_cases hj : jErr ax l = 0
 ·obtain ⟨i, ty, d1, d2, ms, rfl, h⟩ := Jn.of hj
  refine ⟨catS ty d1 d2 ms l, tensor_Concat hl hn hj h, ref12_Concat hl hn hj h, fun h => absurd hj h, fun i' ty' d1' d2' ms' _ hi h' => ?_⟩
  obtain rfl : i = i' := by omega
  have a1 := tensor_Concat hl hn hj h
  have a2 := tensor_Concat hl hn hj h'
  rw [a1] at a2; exact Option.some.inj a2
 ·refine ⟨(z0, jErr ax l), ?_, ?_, fun _ => rfl, fun _ _ _ _ _ h => absurd h hj⟩
  ·unfold m_tensor_Concat
   rw [tensor_joinable hl hn, Option.bind_some, if_pos (by simp [hj])]; rfl
  ·rcases l with _ | ⟨t0, r⟩
   ·rfl
   unfold m_ref12_Concat
   have e1 := err_loop (l := t0 :: r) teErr (fun e => some ((z0, e) : GTensor × Int)) (m_ref12_Concat_j1 ax (t0 :: r)) 0 (by omega) (by omega) (m_ref12_Concat_l4 (t0 :: r) ax) (fun f k x hx _ => by
    have hlt := (List.getElem?_eq_some_iff.1 hx).1
    have hm := List.mem_of_getElem? hx
    simp only [m_ref12_Concat_l4]
    rw [if_pos (lt_dec hlt), lat_at hx, Option.bind_some, ref12_Validate (hl.r x hm) (hl.d x hm) (hl.v x hm), Option.bind_some, wis (by omega)]
    by_cases h : teErr x = 0
    ·rw [if_neg (by simp [h]), if_pos h]
    ·rw [if_pos (by simp [h]), if_neg h]; rfl) (fun f => by simp only [m_ref12_Concat_l4]; rw [if_neg (by simp)])
   rw [List.drop_zero] at e1
   replace e1 : m_ref12_Concat_l4 (t0 :: r) ax fu 0 = _ := e1
   rw [if_neg (by simp; omega), e1]
   by_cases hT : firstErr teErr (t0 :: r) = 0
   ·rw [if_pos hT, m_ref12_Concat_j1, (ref_joined hl hn rfl hT ax).1 hj, Option.bind_some, if_pos (by simp [hj])]; rfl
   ·rw [if_neg hT]
    simp only [jErr]; rw [if_neg hT]
end Go.Proofs.YtpedfojbfbccaaaGreat
