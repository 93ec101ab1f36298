import Derived.Test.YtpedfojbfbccaaaGreatSTc
namespace Go.Proofs.YtpedfojbfbccaaaGreat
open Go Go.RowKit Go.Vc
set_option linter.unusedVariables false
set_option linter.unusedSimpArgs false
def slV {α : Type} (O m I f t : Nat) (v : List α) : List α := (List.range O).flatMap fun o => (v.drop ((o * m + f) * I)).take ((t - f) * I)
theorem slV_chunk {α : Type} {O m I f t o : Nat} {v : List α} (hv : v.length = O * m * I) (ht : t ≤ m) (hft : f ≤ t) (ho : o < O) : ((v.drop ((o * m + f) * I)).take ((t - f) * I)).length = (t - f) * I := by
 rw [List.length_take, List.length_drop, hv]
 have h1 : (o * m + f) * I + (t - f) * I = (o * m + t) * I := by rw [← Nat.add_mul]; congr 1; omega
 have h2 : (o * m + t) * I ≤ O * m * I := Nat.mul_le_mul_right _ (by
  have : (o + 1) * m ≤ O * m := Nat.mul_le_mul_right _ ho
  rw [Nat.add_mul] at this; omega)
 omega
theorem slV_len {α : Type} {O m I f t : Nat} {v : List α} (hv : v.length = O * m * I) (ht : t ≤ m) (hft : f ≤ t) : (slV O m I f t v).length = O * (t - f) * I := by
 unfold slV
 rw [chunk_len (L := (t - f) * I) _ O fun o ho => slV_chunk hv ht hft ho, Nat.mul_assoc]
theorem slV_get {α : Type} {O m I f t o k i : Nat} {v : List α} (hv : v.length = O * m * I) (ht : t ≤ m) (hft : f ≤ t) (ho : o < O) (hk : k < t - f) (hi : i < I) :
  (slV O m I f t v)[(o * (t - f) + k) * I + i]? = v[(o * m + (f + k)) * I + i]? := by
 unfold slV
 have hI : 0 < I := by omega
 have hki : k * I + i < (t - f) * I := by
  have : (k + 1) * I ≤ (t - f) * I := Nat.mul_le_mul_right _ hk
  rw [Nat.add_mul] at this; omega
 have e0 : (o * (t - f) + k) * I + i = o * ((t - f) * I) + (k * I + i) := by rw [Nat.add_mul, Nat.mul_assoc]; omega
 have hj : (o * (t - f) + k) * I + i < O * ((t - f) * I) := by
  rw [e0]
  have : (o + 1) * ((t - f) * I) ≤ O * ((t - f) * I) := Nat.mul_le_mul_right _ ho
  rw [Nat.add_mul] at this; omega
 rw [chunk_get (L := (t - f) * I) _ O _ (fun o ho => slV_chunk hv ht hft ho) hj, e0]
 have d1 : (o * ((t - f) * I) + (k * I + i)) / ((t - f) * I) = o := by
  rw [Nat.mul_comm o, Nat.mul_add_div (by omega), Nat.div_eq_of_lt hki]; simp
 have d2 : (o * ((t - f) * I) + (k * I + i)) % ((t - f) * I) = k * I + i := by
  rw [Nat.mul_comm o, Nat.mul_add_mod, Nat.mod_eq_of_lt hki]
 rw [d1, d2, List.getElem?_take, if_pos hki, List.getElem?_drop]
 congr 1
 rw [Nat.add_mul (o * m) (f + k), Nat.add_mul (o * m) f, Nat.add_mul f k]; omega
theorem num_split {O m I j : Nat} (h : j < O * m * I) : j / (m * I) < O ∧ (j / I) % m < m ∧ j % I < I ∧ j = (j / (m * I) * m + (j / I) % m) * I + j % I := by
 have hI : 0 < I := by rcases Nat.eq_zero_or_pos I with e | e; subst e; simp at h; exact e
 have hm : 0 < m := by rcases Nat.eq_zero_or_pos m with e | e; subst e; simp at h; exact e
 refine ⟨?_, Nat.mod_lt _ hm, Nat.mod_lt _ hI, ?_⟩
 ·exact (Nat.div_lt_iff_lt_mul (Nat.mul_pos hm hI)).2 (by rw [← Nat.mul_assoc]; exact h)
 ·have e1 : j / (m * I) * m + (j / I) % m = j / I := by
   rw [Nat.mul_comm m I, ← Nat.div_div_eq_div_mul, Nat.mul_comm]; exact Nat.div_add_mod _ _
  rw [e1, Nat.mul_comm]; exact (Nat.div_add_mod j I).symm
structure Ax (dn : List Nat) (i : Nat) (d1 : List Nat) (m : Nat) (d2 : List Nat) : Prop where
 eq : dn = d1 ++ m :: d2
 len : d1.length = i
theorem Ax.of {dn : List Nat} {i m : Nat} (h : dn[i]? = some m) : Ax dn i (dn.take i) m (dn.drop (i + 1)) := ⟨(axis_split h).1, (axis_split h).2⟩
theorem Ax.set {dn d1 d2 : List Nat} {i m : Nat} (h : Ax dn i d1 m d2) (k : Nat) : Ax (dn.set i k) i d1 k d2 := by
 refine ⟨?_, h.len⟩
 rw [h.eq, List.set_append_right _ _ (by rw [h.len]; exact Nat.le_refl _), h.len]; simp
theorem Ax.prd {dn d1 d2 : List Nat} {i m : Nat} (h : Ax dn i d1 m d2) : prd dn = Go.Proofs.YtpedfojbfbccaaaGreat.prd d1 * m * Go.Proofs.YtpedfojbfbccaaaGreat.prd d2 := by
 rw [h.eq, prd_app]; simp [Go.Proofs.YtpedfojbfbccaaaGreat.prd, Nat.mul_assoc]
theorem Ax.pos {dn d1 d2 : List Nat} {i m : Nat} (h : Ax dn i d1 m d2) (hp : Pos dn) : Pos d1 ∧ 1 ≤ m ∧ Pos d2 := by
 rw [h.eq] at hp
 exact ⟨hp.app.1, hp m (by simp), fun x hx => hp x (by simp [hx])⟩
theorem Ax.pt {dn d1 d2 : List Nat} {i m : Nat} (h : Ax dn i d1 m d2) (a : Nat) : pt dn a = pt d1 (a / (m * Go.Proofs.YtpedfojbfbccaaaGreat.prd d2)) ++ ((a / Go.Proofs.YtpedfojbfbccaaaGreat.prd d2) % m) :: pt d2 a := by
 rw [h.eq, pt_app]; rfl
theorem Ax.pt_at {dn d1 d2 : List Nat} {i m : Nat} (h : Ax dn i d1 m d2) (a : Nat) : (Go.Proofs.YtpedfojbfbccaaaGreat.pt dn a)[i]? = some ((a / Go.Proofs.YtpedfojbfbccaaaGreat.prd d2) % m) := by
 rw [h.pt, List.getElem?_append_right (by rw [pt_len, h.len]; exact Nat.le_refl _), pt_len, h.len]; simp
theorem Ax.off {dn d1 d2 p1 p2 : List Nat} {i m k : Nat} (h : Ax dn i d1 m d2) (hp : p1.length = d1.length) : off dn (p1 ++ k :: p2) = (Go.Proofs.YtpedfojbfbccaaaGreat.off d1 p1 * m + k) * Go.Proofs.YtpedfojbfbccaaaGreat.prd d2 + Go.Proofs.YtpedfojbfbccaaaGreat.off d2 p2 := by
 rw [h.eq, off_app hp]
 simp only [Go.Proofs.YtpedfojbfbccaaaGreat.off, Go.Proofs.YtpedfojbfbccaaaGreat.prd, Nat.add_mul, Nat.mul_assoc, Nat.add_assoc]
theorem Ax.off_set {dn d1 d2 : List Nat} {i m k : Nat} (h : Ax dn i d1 m d2) (hp : Pos dn) (a : Nat) (ha : a < Go.Proofs.YtpedfojbfbccaaaGreat.prd d1 * m * Go.Proofs.YtpedfojbfbccaaaGreat.prd d2) {dn' : List Nat} {m' : Nat} (h' : Ax dn' i d1 m' d2) :
  Go.Proofs.YtpedfojbfbccaaaGreat.off dn' ((Go.Proofs.YtpedfojbfbccaaaGreat.pt dn a).set i k) = (a / (m * Go.Proofs.YtpedfojbfbccaaaGreat.prd d2) * m' + k) * Go.Proofs.YtpedfojbfbccaaaGreat.prd d2 + a % Go.Proofs.YtpedfojbfbccaaaGreat.prd d2 := by
 obtain ⟨p1, _, p2⟩ := h.pos hp
 rw [h.pt, List.set_append_right _ _ (by rw [pt_len, h.len]; exact Nat.le_refl _), pt_len, h.len]
 simp only [Nat.sub_self, List.set_cons_zero]
 rw [h'.off (pt_len _ _), off_pt p1 (num_split ha).1, off_pt_mod d2 a p2]
theorem pt_set_bd {dn d1 d2 : List Nat} {i m k : Nat} (h : Ax dn i d1 m d2) (hp : Pos dn) (a : Nat) {dn' : List Nat} {m' : Nat} (h' : Ax dn' i d1 m' d2) (hk : k < m') : Bd dn' ((pt dn a).set i k) := by
 obtain ⟨p1, _, p2⟩ := h.pos hp
 rw [h.pt, List.set_append_right _ _ (by rw [pt_len, h.len]; exact Nat.le_refl _), pt_len, h.len, h'.eq]
 simp only [Nat.sub_self, List.set_cons_zero]
 exact (pt_bd _ p1).app ⟨hk, pt_bd _ p2⟩
end Go.Proofs.YtpedfojbfbccaaaGreat
