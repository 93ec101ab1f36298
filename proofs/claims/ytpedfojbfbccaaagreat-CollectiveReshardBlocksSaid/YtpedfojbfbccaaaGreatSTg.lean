import Derived.Test.YtpedfojbfbccaaaGreatSTf
namespace Go.Proofs.YtpedfojbfbccaaaGreat
open Go Go.RowKit Go.Vc
set_option linter.unusedVariables false
set_option linter.unusedSimpArgs false
def sumL : List Nat → Nat
 | [] => 0
 | m :: l => m + sumL l
def catV {α : Type} (O I : Nat) (ps : List (List α × Nat)) : List α := (List.range O).flatMap fun o => ps.flatMap fun p => (p.1.drop (o * p.2 * I)).take (p.2 * I)
def pick {α : Type} (I o i : Nat) : List (List α × Nat) → Nat → Option α
 | [], _ => none
 | p :: ps, q => if q < p.2 then p.1[(o * p.2 + q) * I + i]? else pick I o i ps (q - p.2)
def Lens {α : Type} (O I : Nat) (ps : List (List α × Nat)) : Prop := ∀ p ∈ ps, p.1.length = O * p.2 * I
theorem row_len {α : Type} {O I o : Nat} {v : List α} {m : Nat} (hv : v.length = O * m * I) (ho : o < O) : ((v.drop (o * m * I)).take (m * I)).length = m * I := by
 rw [List.length_take, List.length_drop, hv]
 have h1 : (o + 1) * (m * I) ≤ O * (m * I) := Nat.mul_le_mul_right _ ho
 have e : (o + 1) * (m * I) = o * m * I + m * I := by rw [Nat.add_mul, Nat.one_mul, Nat.mul_assoc]
 rw [e, ← Nat.mul_assoc] at h1; omega
theorem rows_len {α : Type} {O I o : Nat} (ho : o < O) : ∀ ps : List (List α × Nat), Lens O I ps → (ps.flatMap fun p => (p.1.drop (o * p.2 * I)).take (p.2 * I)).length = sumL (ps.map (·.2)) * I
 | [], _ => by simp [sumL]
 | p :: ps, h => by
  rw [List.flatMap_cons, List.length_append, row_len (h p (by simp)) ho, rows_len ho ps fun q hq => h q (by simp [hq])]
  simp [sumL, Nat.add_mul]
theorem catV_len {α : Type} {O I : Nat} {ps : List (List α × Nat)} (h : Lens O I ps) : (catV O I ps).length = O * sumL (ps.map (·.2)) * I := by
 unfold catV
 rw [chunk_len (L := sumL (ps.map (·.2)) * I) _ O fun o ho => rows_len ho ps h, Nat.mul_assoc]
theorem rows_get {α : Type} {O I o i : Nat} (ho : o < O) (hi : i < I) : ∀ (ps : List (List α × Nat)) (q : Nat), Lens O I ps → q < sumL (ps.map (·.2)) → (ps.flatMap fun p => (p.1.drop (o * p.2 * I)).take (p.2 * I))[q * I + i]? = pick I o i ps q
 | [], q, _, h => by simp [sumL] at h
 | p :: ps, q, hl, h => by
  have hp := row_len (hl p (by simp)) ho
  rw [List.flatMap_cons]
  simp only [pick]
  by_cases hq : q < p.2
  ·have hlt : q * I + i < p.2 * I := by
    have : (q + 1) * I ≤ p.2 * I := Nat.mul_le_mul_right _ hq
    rw [Nat.add_mul] at this; omega
   rw [if_pos hq, List.getElem?_append_left (by omega), List.getElem?_take, if_pos hlt, List.getElem?_drop]
   congr 1
   rw [Nat.add_mul]; omega
  ·have hge : p.2 * I ≤ q * I := Nat.mul_le_mul_right _ (by omega)
   rw [if_neg hq, List.getElem?_append_right (by omega), hp, show q * I + i - p.2 * I = (q - p.2) * I + i by rw [Nat.sub_mul]; omega]
   exact rows_get ho hi ps (q - p.2) (fun x hx => hl x (by simp [hx])) (by simp [sumL] at h; omega)
theorem catV_get {α : Type} {O I o i q : Nat} {ps : List (List α × Nat)} (h : Lens O I ps) (ho : o < O) (hi : i < I) (hq : q < sumL (ps.map (·.2))) : (catV O I ps)[(o * sumL (ps.map (·.2)) + q) * I + i]? = pick I o i ps q := by
 unfold catV
 have hlt : q * I + i < sumL (ps.map (·.2)) * I := by
  have : (q + 1) * I ≤ sumL (ps.map (·.2)) * I := Nat.mul_le_mul_right _ hq
  rw [Nat.add_mul] at this; omega
 have e0 : (o * sumL (ps.map (·.2)) + q) * I + i = o * (sumL (ps.map (·.2)) * I) + (q * I + i) := by rw [Nat.add_mul, Nat.mul_assoc]; omega
 have hj : o * (sumL (ps.map (·.2)) * I) + (q * I + i) < O * (sumL (ps.map (·.2)) * I) := by
  have : (o + 1) * (sumL (ps.map (·.2)) * I) ≤ O * (sumL (ps.map (·.2)) * I) := Nat.mul_le_mul_right _ ho
  rw [Nat.add_mul] at this; omega
 rw [e0, chunk_get (L := sumL (ps.map (·.2)) * I) _ O _ (fun o ho => rows_len ho ps h) hj]
 have d1 : (o * (sumL (ps.map (·.2)) * I) + (q * I + i)) / (sumL (ps.map (·.2)) * I) = o := by
  rw [Nat.mul_comm o, Nat.mul_add_div (by omega), Nat.div_eq_of_lt hlt]; simp
 have d2 : (o * (sumL (ps.map (·.2)) * I) + (q * I + i)) % (sumL (ps.map (·.2)) * I) = q * I + i := by
  rw [Nat.mul_comm o, Nat.mul_add_mod, Nat.mod_eq_of_lt hlt]
 rw [d1, d2]
 exact rows_get ho hi ps q h hq
theorem Jn.pos {l : List GTensor} {i : Nat} {ty : GType} {d1 d2 ms : List Nat} (h : Jn l i ty d1 d2 ms) : Pos d1 ∧ Pos d2 ∧ (∀ m ∈ ms, 1 ≤ m) ∧ d1.length + 1 + d2.length ≤ 6 ∧ 1 ≤ ms.length := by
 have hn : 1 ≤ l.length := by rcases l with _ | ⟨a, r⟩; exact absurd rfl h.ne; simp
 have hm : 1 ≤ ms.length := by rw [← h.len]; exact hn
 have key : ∀ m ∈ ms, Pos (d1 ++ m :: d2) ∧ (d1 ++ m :: d2).length ≤ 6 := fun m hm => by
  obtain ⟨k, hk⟩ := List.mem_iff_getElem?.1 hm
  obtain ⟨t, ht⟩ := at_some (l := l) (i := k) (by rw [h.len]; exact (List.getElem?_eq_some_iff.1 hk).1)
  have := (h.ten k t m ht hk).1.shp
  exact ⟨this.pos, this.len⟩
 rcases ms with _ | ⟨m, ms'⟩
 ·simp at hm
 have k0 := key m (by simp)
 refine ⟨k0.1.app.1, fun x hx => k0.1 x (by simp [hx]), fun q hq => (key q hq).1 q (by simp), by have := k0.2; simp at this; omega, hm⟩
def prs (l : List GTensor) (ms : List Nat) : List (List GVal × Nat) := List.zip (l.map (·.Vals)) ms
theorem prs_map {l : List GTensor} {ms : List Nat} (h : l.length = ms.length) : (prs l ms).map (·.2) = ms := by
 unfold prs; rw [List.map_snd_zip]; simp [h]
theorem Jn.lens {l : List GTensor} {i : Nat} {ty : GType} {d1 d2 ms : List Nat} (h : Jn l i ty d1 d2 ms) : Lens (prd d1) (prd d2) (prs l ms) := by
 intro p hp
 obtain ⟨k, hk⟩ := List.mem_iff_getElem?.1 hp
 unfold prs at hk
 rw [List.getElem?_zip_eq_some] at hk
 obtain ⟨h1, h2⟩ := hk
 rw [List.getElem?_map] at h1
 obtain ⟨t, ht, he⟩ := Option.map_eq_some_iff.1 h1
 have := (h.ten k t p.2 ht h2).1
 rw [← he, this.len, prd_app]; simp [prd, Nat.mul_assoc]
def catS (ty : GType) (d1 d2 ms : List Nat) (l : List GTensor) : GTensor × Int :=
 if prd d1 * sumL ms * prd d2 ≤ 4096 then (⟨ty, ci (d1 ++ sumL ms :: d2), catV (prd d1) (prd d2) (prs l ms)⟩, 0) else (z0, 2)
theorem sumL_app (a b : List Nat) : sumL (a ++ b) = sumL a + sumL b := by
 induction a with
 | nil => simp [sumL]
 | cons x a ih => simp [sumL, ih, Nat.add_assoc]
theorem sumL_take_succ {l : List Nat} {k m : Nat} (h : l[k]? = some m) : sumL (l.take (k + 1)) = sumL (l.take k) + m := by rw [take_succ' h, sumL_app]; simp [sumL]
theorem sumL_take_le (l : List Nat) (k : Nat) : sumL (l.take k) ≤ sumL l := by
 have : sumL l = sumL (l.take k) + sumL (l.drop k) := by rw [← sumL_app, List.take_append_drop]
 omega
theorem sumL_le {l : List Nat} {B : Nat} (h : ∀ m ∈ l, m ≤ B) : sumL l ≤ l.length * B := by
 induction l with
 | nil => simp [sumL]
 | cons x l ih =>
  have h1 := h x (by simp)
  have h2 := ih fun m hm => h m (by simp [hm])
  simp only [sumL, List.length_cons, Nat.add_mul]; omega
theorem Jn.m_le {l : List GTensor} {i : Nat} {ty : GType} {d1 d2 ms : List Nat} (h : Jn l i ty d1 d2 ms) {k m : Nat} (hk : ms[k]? = some m) : prd d1 * m * prd d2 ≤ 4096 ∧ 1 ≤ m ∧ m ≤ 4096 := by
 obtain ⟨t, ht⟩ := at_some (l := l) (i := k) (by rw [h.len]; exact (List.getElem?_eq_some_iff.1 hk).1)
 have hs := (h.ten k t m ht hk).1.shp
 have h1 := hs.le
 rw [prd_app] at h1
 have h2 := mem_small hs (i := d1.length) (x := m) (by rw [List.getElem?_append_right (Nat.le_refl _)]; simp)
 refine ⟨?_, h2.1, h2.2⟩
 simpa [prd, Nat.mul_assoc] using h1
theorem Jn.dims {l : List GTensor} {i : Nat} {ty : GType} {d1 d2 ms : List Nat} (h : Jn l i ty d1 d2 ms) {k m : Nat} {t : GTensor} (ht : l[k]? = some t) (hm : ms[k]? = some m) :
  t.Dims = ci (d1 ++ m :: d2) ∧ lat t.Dims (i : Int) = some (m : Int) ∧ t.Dims.length ≤ 6 ∧ t.Vals.length = prd d1 * m * prd d2 := by
 have hten := (h.ten k t m ht hm).1
 have hd := hten.shp.eq
 refine ⟨hd, ?_, by rw [hd, ci_len]; exact hten.shp.len, by rw [hten.len, prd_app]; simp [prd, Nat.mul_assoc]⟩
 rw [hd]; exact ci_at (by rw [List.getElem?_append_right (by rw [h.ax]; exact Nat.le_refl _), h.ax]; simp)
theorem Jn.lsum {l : List GTensor} {i : Nat} {ty : GType} {d1 d2 ms : List Nat} (h : Jn l i ty d1 d2 ms) (hn : l.length ≤ 1000) : sumL ms ≤ 4096000 := by
 have := sumL_le (l := ms) (B := 4096) fun m hm => by
  obtain ⟨k, hk⟩ := List.mem_iff_getElem?.1 hm
  exact (h.m_le hk).2.2
 have h2 := h.len
 have : ms.length * 4096 ≤ 1000 * 4096 := Nat.mul_le_mul_right _ (by omega)
 omega
theorem Jn.osum {l : List GTensor} {i : Nat} {ty : GType} {d1 d2 ms : List Nat} (h : Jn l i ty d1 d2 ms) (k : Nat) : ∀ t m, l[k]? = some t → ms[k]? = some m → prd d1 * sumL (ms.take (k + 1)) * prd d2 = prd d1 * sumL (ms.take k) * prd d2 + t.Vals.length := fun t m ht hm => by
 rw [sumL_take_succ hm, Nat.mul_add, Nat.add_mul, (h.dims ht hm).2.2.2]
theorem concat_row {l : List GTensor} {i : Nat} {ty : GType} {d1 d2 ms : List Nat} (h : Jn l i ty d1 d2 ms) (hn : l.length ≤ 1000) (hS : prd d1 * sumL ms * prd d2 ≤ 4096) {o : Nat} (ho : o < prd d1) (r2 : Int × Int × Int) (hr2 : r2.2.2 = (prd d2 : Int)) (self : Int → GTensor → Option (GTensor × Int)) (D : List Int) (V : List GVal) (hV : V.length ≤ 4096) :
  m_tensor_Concat_l2 l (i : Int) (o : Int) r2 self fu 0 ⟨ty, D, V⟩ = self (wi64 ((o : Int) + 1)) ⟨ty, D, V ++ (prs l ms).flatMap fun p => (p.1.drop (o * p.2 * prd d2)).take (p.2 * prd d2)⟩ := by
 have hlen := h.len
 obtain ⟨p1, p2, _⟩ := h.pos
 have hO := prd_pos p1
 have hI := prd_pos p2
 have hplen : (prs l ms).length = l.length := by unfold prs; simp [hlen]
 refine loop_eq (L := fun g s k => m_tensor_Concat_l2 l (i : Int) (o : Int) r2 self g k s) (n := l.length) (by omega) (fun k s => s = ⟨ty, D, V ++ ((prs l ms).take k).flatMap fun p => (p.1.drop (o * p.2 * prd d2)).take (p.2 * prd d2)⟩) ?_ ?_ ⟨ty, D, V⟩ (by simp)
 ·rintro g k s hk rfl
  obtain ⟨t, ht⟩ := at_some hk
  obtain ⟨m, hm⟩ := at_some (l := ms) (i := k) (by omega)
  have hp : (prs l ms)[k]? = some (t.Vals, m) := by
   unfold prs; rw [List.getElem?_zip_eq_some]; exact ⟨by rw [List.getElem?_map, ht]; rfl, hm⟩
  obtain ⟨q1, q2, q3, q4⟩ := h.dims ht hm
  obtain ⟨b1, b2, b3⟩ := h.m_le hm
  have hlens := h.lens
  have hrow := row_len (I := prd d2) (o := o) q4 ho
  have hfl : (((prs l ms).take k).flatMap fun p => (p.1.drop (o * p.2 * prd d2)).take (p.2 * prd d2)).length ≤ 4096 := by
   rw [rows_len ho _ fun p hp => hlens p (List.mem_of_mem_take hp), List.map_take, prs_map hlen]
   have e1 : sumL (ms.take k) * prd d2 ≤ sumL ms * prd d2 := Nat.mul_le_mul_right _ (sumL_take_le ms k)
   have e2 : sumL ms * prd d2 ≤ prd d1 * (sumL ms * prd d2) := Nat.le_mul_of_pos_left _ hO
   rw [← Nat.mul_assoc] at e2
   omega
  have hmI : m * prd d2 ≤ 4096 := by
   have : m * prd d2 ≤ prd d1 * (m * prd d2) := Nat.le_mul_of_pos_left _ hO
   rw [← Nat.mul_assoc] at this; omega
  have hoO : prd d1 ≤ 4096 := by
   have e1 : prd d1 ≤ prd d1 * (m * prd d2) := Nat.le_mul_of_pos_right _ (Nat.mul_pos b2 hI)
   rw [← Nat.mul_assoc] at e1; omega
  have hom : o * (m * prd d2) + m * prd d2 ≤ t.Vals.length := by
   rw [q4]
   have : (o + 1) * (m * prd d2) ≤ prd d1 * (m * prd d2) := Nat.mul_le_mul_right _ ho
   rw [Nat.add_mul, ← Nat.mul_assoc (prd d1)] at this; omega
  have hvl : t.Vals.length ≤ 4096 := by rw [q4]; exact b1
  left
  refine ⟨_, rfl, ?_⟩
  simp only [m_tensor_Concat_l2]
  rw [if_pos (lt_dec hk), lat_at ht, Option.bind_some, q2, Option.bind_some, hr2, wim (by omega), wim (by omega), wis (by omega), wim (by rw [Nat.add_mul]; omega)]
  rw [show lsub t.Vals ((o * (m * prd d2) : Nat) : Int) (((o + 1) * (m * prd d2) : Nat) : Int) = some ((t.Vals.drop (o * m * prd d2)).take (m * prd d2)) by
   unfold lsub
   rw [if_pos (by rw [Nat.add_mul]; omega), Int.toNat_natCast, Int.toNat_natCast, Nat.add_mul, Nat.one_mul, Nat.add_sub_cancel_left, Nat.mul_assoc], Option.bind_some]
  rw [lapp_ok (by rw [List.length_append, hrow]; omega), Option.bind_some, wis (by omega), take_succ' hp, List.flatMap_append]
  simp
 ·rintro g s rfl
  simp only [m_tensor_Concat_l2]
  rw [if_neg (by simp), m_tensor_Concat_j3, List.take_of_length_le (by omega)]
theorem split_ok {d : List Int} {d1 d2 : List Nat} {m i : Nat} (hs : Shp d (d1 ++ m :: d2)) (hi : d1.length = i) : m_tensor_split d (i : Int) = some ((prd d1 : Int), (m : Int), (prd d2 : Int)) := by
 have hl := hs.len
 have hp := hs.pos
 have hle := hs.le
 simp only [List.length_append, List.length_cons] at hl
 have p1 : Pos d1 := hp.app.1
 have p2 : Pos d2 := fun x hx => hp x (by simp [hx])
 have pm := hp m (by simp)
 rw [prd_app] at hle
 simp only [prd] at hle
 have b1 := prd_pos p1
 have b2 := prd_pos p2
 have h1 : prd d1 ≤ 4096 := Nat.le_trans (Nat.le_mul_of_pos_right _ (Nat.mul_pos pm b2)) hle
 have h2 : prd d2 ≤ 4096 := by
  have e1 : prd d2 ≤ m * prd d2 := Nat.le_mul_of_pos_left _ pm
  have e2 : m * prd d2 ≤ prd d1 * (m * prd d2) := Nat.le_mul_of_pos_left _ b1
  omega
 have s1 : Shp (ci d1) d1 := ⟨rfl, p1, h1, by omega⟩
 have s2 : Shp (ci d2) d2 := ⟨rfl, p2, h2, by omega⟩
 subst hi
 unfold m_tensor_split
 have hd := hs.eq
 rw [hd, show lupto (ci (d1 ++ m :: d2)) (d1.length : Int) = some (ci d1) by unfold lupto; rw [if_pos (by rw [ci_len]; simp; omega), Int.toNat_natCast, ci_take, List.take_left], Option.bind_some, ci_at (x := m) (by rw [List.getElem?_append_right (Nat.le_refl _)]; simp), Option.bind_some, wis (by omega)]
 rw [show lfrom (ci (d1 ++ m :: d2)) ((d1.length + 1 : Nat) : Int) = some (ci d2) by unfold lfrom; rw [if_pos (by rw [ci_len]; simp; omega), Int.toNat_natCast, ci_drop, List.drop_length_add_append]; rfl, Option.bind_some, s1.size, Option.bind_some, s2.size]
 rfl
end Go.Proofs.YtpedfojbfbccaaaGreat
