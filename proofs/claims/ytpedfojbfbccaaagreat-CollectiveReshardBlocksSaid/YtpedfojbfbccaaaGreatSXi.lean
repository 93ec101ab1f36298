import Derived.Test.YtpedfojbfbccaaaGreatSXh
namespace Go.Proofs.YtpedfojbfbccaaaGreat
open Go Go.RowKit Go.Vc
set_option linter.unusedVariables false
set_option linter.unusedSimpArgs false
theorem num_join {m I o c k : Nat} (hc : c < m) (hk : k < I) : ((o * m + c) * I + k) % I = k ∧ (((o * m + c) * I + k) / I) % m = c ∧ ((o * m + c) * I + k) / (m * I) = o := by
 have hI : 0 < I := by omega
 have hm : 0 < m := by omega
 have e1 : ((o * m + c) * I + k) / I = o * m + c := by
  rw [Nat.mul_comm, Nat.mul_add_div hI, Nat.div_eq_of_lt hk, Nat.add_zero]
 refine ⟨by rw [Nat.mul_comm, Nat.mul_add_mod, Nat.mod_eq_of_lt hk], ?_, ?_⟩
 ·rw [e1, Nat.mul_comm, Nat.mul_add_mod, Nat.mod_eq_of_lt hc]
 ·rw [Nat.mul_comm m I, ← Nat.div_div_eq_div_mul, e1, Nat.mul_comm, Nat.mul_add_div hm, Nat.div_eq_of_lt hc, Nat.add_zero]
theorem num_lt {O m I o c k : Nat} (ho : o < O) (hc : c < m) (hk : k < I) : (o * m + c) * I + k < O * m * I := by
 have e1 : (o + 1) * m ≤ O * m := Nat.mul_le_mul_right _ ho
 rw [Nat.add_mul, Nat.one_mul] at e1
 have e2 : (o * m + c + 1) * I ≤ O * m * I := Nat.mul_le_mul_right _ (by omega)
 rw [Nat.add_mul, Nat.one_mul] at e2
 omega
theorem prd_mono {a b : List Nat} (hl : a.length = b.length) (h : ∀ (k x y : Nat), a[k]? = some x → b[k]? = some y → x ≤ y) : prd a ≤ prd b := by
 induction a generalizing b with
 | nil => cases b with | nil => exact Nat.le_refl _ | cons => simp at hl
 | cons x a ih => cases b with
  | nil => simp at hl
  | cons y b =>
   rw [prd, prd]
   exact Nat.mul_le_mul (h 0 x y rfl rfl) (ih (by simpa using hl) fun k u v hu hv => h (k + 1) u v (by simpa using hu) (by simpa using hv))
theorem set_back {α : Type} {l : List α} {k : Nat} {x : α} (h : l[k]? = some x) : l.set k x = l := by
 have hk := (List.getElem?_eq_some_iff.1 h).1
 refine list_ext' (by simp) fun q _ => ?_
 by_cases e : q = k
 ·subst e; rw [List.getElem?_set_self hk, h]
 ·rw [List.getElem?_set_ne (fun h => e h.symm)]
def addL : List Nat → List Nat → List Nat
 | a :: l, b :: q => (a + b) :: addL l q
 | _, _ => []
theorem addL_app : ∀ (a p b q : List Nat), a.length = p.length → addL (a ++ b) (p ++ q) = addL a p ++ addL b q
 | [], [], b, q, _ => rfl
 | x :: a, y :: p, b, q, h => by simp only [List.cons_append, addL, addL_app a p b q (by simpa using h)]
 | [], _ :: _, _, _, h => by simp at h
 | _ :: _, [], _, _, h => by simp at h
theorem addL_len : ∀ (a p : List Nat), a.length = p.length → (addL a p).length = a.length
 | [], [], _ => rfl
 | x :: a, y :: p, h => by simp [addL, addL_len a p (by simpa using h)]
 | [], _ :: _, h => by simp at h
 | _ :: _, [], h => by simp at h
theorem addL_at : ∀ (a p : List Nat) (k x y : Nat), a[k]? = some x → p[k]? = some y → (addL a p)[k]? = some (x + y)
 | x :: a, y :: p, 0, u, v, hu, hv => by simp at hu hv; simp [addL, hu, hv]
 | x :: a, y :: p, k + 1, u, v, hu, hv => by simpa [addL] using addL_at a p k u v (by simpa using hu) (by simpa using hv)
 | [], _, k, _, _, hu, _ => by simp at hu
 | _ :: _, [], k, _, _, _, hv => by simp at hv
structure Sub (dn lo ln : List Nat) : Prop where
 l1 : lo.length = dn.length
 l2 : ln.length = dn.length
 pos : Pos ln
 le : ∀ k d a b : Nat, dn[k]? = some d → lo[k]? = some a → ln[k]? = some b → a + b ≤ d
theorem Sub.bd {dn lo ln q : List Nat} (h : Sub dn lo ln) (hq : Bd ln q) : Bd dn (addL lo q) := by
 have hql := hq.len
 refine Bd.of (by rw [addL_len _ _ (by rw [h.l1, hql, h.l2]), h.l1]) fun k d s hd hs => ?_
 have hk := (List.getElem?_eq_some_iff.1 hd).1
 obtain ⟨a, ha⟩ := at_some (l := lo) (i := k) (by rw [h.l1]; exact hk)
 obtain ⟨b, hb⟩ := at_some (l := ln) (i := k) (by rw [h.l2]; exact hk)
 obtain ⟨c, hc, hcb⟩ := hq.at_ hb
 rw [addL_at lo q k a c ha hc] at hs
 have := h.le k d a b hd ha hb
 have := Option.some.inj hs
 omega
theorem Sub.prd_le {dn lo ln : List Nat} (h : Sub dn lo ln) : prd ln ≤ prd dn := prd_mono h.l2 fun k x y hx hy => by
 have hk := (List.getElem?_eq_some_iff.1 hx).1
 obtain ⟨a, ha⟩ := at_some (l := lo) (i := k) (by rw [h.l1, ← h.l2]; exact hk)
 have := h.le k y a x hy ha hx
 omega
def BL (t : GTensor) (dn lo ln : List Nat) : GTensor := ⟨t.Type_, ci ln, (List.range (prd ln)).filterMap fun a => t.Vals[off dn (addL lo (pt ln a))]?⟩
theorem BL_some {t : GTensor} {dn lo ln : List Nat} (ht : Ten t dn) (h : Sub dn lo ln) : ∀ a, a < prd ln → ∃ x, t.Vals[off dn (addL lo (pt ln a))]? = some x := fun a ha =>
 at_some (by rw [ht.len]; exact off_lt (h.bd (pt_bd a h.pos)))
theorem BL_len {t : GTensor} {dn lo ln : List Nat} (ht : Ten t dn) (h : Sub dn lo ln) : (BL t dn lo ln).Vals.length = prd ln := fm_len _ _ (BL_some ht h)
theorem BL_at {t : GTensor} {dn lo ln : List Nat} (ht : Ten t dn) (h : Sub dn lo ln) {a : Nat} (ha : a < prd ln) : (BL t dn lo ln).Vals[a]? = t.Vals[off dn (addL lo (pt ln a))]? := fm_get _ _ a (BL_some ht h) ha
theorem BL_ten {t : GTensor} {dn lo ln : List Nat} (ht : Ten t dn) (h : Sub dn lo ln) : Ten (BL t dn lo ln) ln := by
 refine ⟨ht.ty, ⟨rfl, h.pos, Nat.le_trans h.prd_le ht.shp.le, by rw [h.l2]; exact ht.shp.len⟩, BL_len ht h, fun v hv => ?_⟩
 obtain ⟨a, _, ha⟩ := List.mem_filterMap.1 hv
 exact ht.ok v (List.mem_of_getElem? ha)
theorem ten_ext {u v : GTensor} (h1 : u.Type_ = v.Type_) (h2 : u.Dims = v.Dims) (h3 : u.Vals = v.Vals) : u = v := by
 cases u; cases v; simp only at h1 h2 h3; rw [h1, h2, h3]
theorem BL_full {t : GTensor} {dn : List Nat} (ht : Ten t dn) : BL t dn (List.replicate dn.length 0) dn = t := by
 have hz : ∀ (q : List Nat), addL (List.replicate q.length 0) q = q := fun q => by
  induction q with
  | nil => rfl
  | cons x q ih => rw [List.length_cons, List.replicate_succ, addL, ih, Nat.zero_add]
 have hs : Sub dn (List.replicate dn.length 0) dn := ⟨by simp, rfl, ht.shp.pos, fun k d a b hd ha hb => by
  have := List.eq_of_mem_replicate (List.mem_of_getElem? ha)
  rw [hd] at hb
  have := Option.some.inj hb; omega⟩
 refine ten_ext rfl ht.shp.eq.symm (list_ext' (by rw [BL_len ht hs, ht.len]) fun a ha => ?_)
 rw [BL_len ht hs] at ha
 rw [BL_at ht hs ha]
 have hp := hz (pt dn a)
 rw [pt_len] at hp
 rw [hp, off_pt ht.shp.pos ha]
theorem Sub.set {dn lo ln : List Nat} (h : Sub dn lo ln) {k a b f t : Nat} (ha : lo[k]? = some a) (hb : ln[k]? = some b) (h1 : f < t) (h2 : t ≤ b) : Sub dn (lo.set k (a + f)) (ln.set k (t - f)) := by
 have hkl := (List.getElem?_eq_some_iff.1 ha).1
 have hkn := (List.getElem?_eq_some_iff.1 hb).1
 refine ⟨by rw [List.length_set]; exact h.l1, by rw [List.length_set]; exact h.l2, fun x hx => ?_, fun q d x y hd hx hy => ?_⟩
 ·rcases List.mem_or_eq_of_mem_set hx with hx | hx
  ·exact h.pos x hx
  ·omega
 ·by_cases e : q = k
  ·subst e
   rw [List.getElem?_set_self hkl] at hx
   rw [List.getElem?_set_self hkn] at hy
   have := h.le q d a b hd ha hb
   have := Option.some.inj hx; have := Option.some.inj hy
   omega
  ·rw [List.getElem?_set_ne (fun h => e h.symm)] at hx hy
   exact h.le q d x y hd hx hy
theorem BL_slice {t : GTensor} {dn lo ln : List Nat} (ht : Ten t dn) (h : Sub dn lo ln) {k a b f to_ : Nat} (ha : lo[k]? = some a) (hb : ln[k]? = some b) (h1 : f < to_) (h2 : to_ ≤ b) :
  slS (BL t dn lo ln) (k : Int) (f : Int) (to_ : Int) = (BL t dn (lo.set k (a + f)) (ln.set k (to_ - f)), 0) := by
 have hten := BL_ten ht h
 have hs' := h.set ha hb h1 h2
 have hax := Ax.of hb
 have hax' := hax.set (to_ - f)
 have hlx := Ax.of ha
 have hlx' := hlx.set (a + f)
 obtain ⟨p1, pb, p2⟩ := hax.pos h.pos
 rw [slS_ok hten hb h1 h2]
 congr 1
 have hvl : (BL t dn lo ln).Vals.length = prd (ln.take k) * b * prd (ln.drop (k + 1)) := by rw [BL_len ht h, hax.prd]
 refine ten_ext rfl rfl (list_ext' ?_ fun j hj => ?_)
 ·show (slV _ _ _ _ _ _).length = _
  rw [slV_len hvl h2 (by omega), BL_len ht hs', hax'.prd]
 ·replace hj : j < (slV (prd (ln.take k)) b (prd (ln.drop (k + 1))) f to_ (BL t dn lo ln).Vals).length := hj
  rw [slV_len hvl h2 (by omega)] at hj
  obtain ⟨q1, q2, q3, q4⟩ := num_split hj
  have hg := slV_get hvl h2 (f := f) (by omega) q1 q2 q3
  rw [← q4] at hg
  show (slV _ _ _ _ _ _)[j]? = _
  have hq2 : f + (j / prd (ln.drop (k + 1))) % (to_ - f) < b := by omega
  rw [hg, BL_at ht h (by rw [hax.prd]; exact num_lt q1 hq2 q3), BL_at ht hs' (by rw [hax'.prd]; exact hj)]
  obtain ⟨j1, j2, j3⟩ := num_join (o := j / ((to_ - f) * prd (ln.drop (k + 1)))) hq2 q3
  congr 2
  rw [hax.pt, hax'.pt, j2, j3]
  have epm : pt (ln.drop (k + 1)) ((j / ((to_ - f) * prd (ln.drop (k + 1))) * b + (f + (j / prd (ln.drop (k + 1))) % (to_ - f))) * prd (ln.drop (k + 1)) + j % prd (ln.drop (k + 1))) = pt (ln.drop (k + 1)) j := (pt_mod p2).2 j1
  rw [epm, hlx'.eq]
  conv => lhs; rw [hlx.eq]
  have el : (lo.take k).length = (pt (ln.take k) (j / ((to_ - f) * prd (ln.drop (k + 1))))).length := by rw [hlx.len, pt_len, hax.len]
  rw [addL_app _ _ _ _ el, addL_app _ _ _ _ el]
  simp only [addL]
  rw [Nat.add_assoc]
theorem cat_slices {α : Type} {O x b I : Nat} {v : List α} (hv : v.length = O * (x * b) * I) (hb : 1 ≤ b) : catV O I ((List.range x).map fun w => (slV O (x * b) I (w * b) ((w + 1) * b) v, b)) = v := by
 have hms : ((List.range x).map fun w => (slV O (x * b) I (w * b) ((w + 1) * b) v, b)).map (·.2) = List.replicate x b := by
  rw [List.map_map]
  refine list_ext' (by simp) fun j hj => ?_
  simp at hj
  simp [hj]
 have hw : ∀ w, w < x → w * b < (w + 1) * b ∧ (w + 1) * b ≤ x * b ∧ (w + 1) * b - w * b = b := fun w hw => by
  have : (w + 1) * b ≤ x * b := Nat.mul_le_mul_right _ hw
  rw [Nat.add_mul, Nat.one_mul] at this ⊢
  omega
 have hL : Lens O I ((List.range x).map fun w => (slV O (x * b) I (w * b) ((w + 1) * b) v, b)) := fun p hp => by
  obtain ⟨w, hwx, rfl⟩ := List.mem_map.1 hp
  obtain ⟨w1, w2, w3⟩ := hw w (List.mem_range.1 hwx)
  show (slV O (x * b) I (w * b) ((w + 1) * b) v).length = O * b * I
  rw [slV_len hv w2 (by omega), w3]
 have hS : sumL (((List.range x).map fun w => (slV O (x * b) I (w * b) ((w + 1) * b) v, b)).map (·.2)) = x * b := by rw [hms, sumL_rep]
 refine list_ext' (by rw [catV_len hL, hS, hv]) fun j hj => ?_
 rw [catV_len hL, hS] at hj
 obtain ⟨q1, q2, q3, q4⟩ := num_split hj
 have hg := catV_get hL q1 q3 (q := (j / I) % (x * b)) (by rw [hS]; exact q2)
 rw [hS, ← q4] at hg
 rw [hg]
 have hqb : (j / I) % (x * b) / b < x := (Nat.div_lt_iff_lt_mul (by omega)).2 q2
 obtain ⟨w1, w2, w3⟩ := hw _ hqb
 have hdm := Nat.div_add_mod ((j / I) % (x * b)) b
 have hmlt := Nat.mod_lt ((j / I) % (x * b)) (show 0 < b by omega)
 have hW2 : (j / I) % (x * b) / b * b + (j / I) % (x * b) % b = (j / I) % (x * b) := by rw [Nat.mul_comm ((j / I) % (x * b) / b) b]; exact hdm
 have hWle : (j / I) % (x * b) / b * b ≤ (j / I) % (x * b) := by omega
 have hWlt : (j / I) % (x * b) < (j / I) % (x * b) / b * b + b := by omega
 have htake : sumL ((((List.range x).map fun w => (slV O (x * b) I (w * b) ((w + 1) * b) v, b)).map (·.2)).take ((j / I) % (x * b) / b)) = (j / I) % (x * b) / b * b := by
  rw [hms, List.take_replicate, sumL_rep, Nat.min_eq_left (by omega)]
 rw [pick_at _ ((j / I) % (x * b) / b) ((j / I) % (x * b)) (slV O (x * b) I ((j / I) % (x * b) / b * b) (((j / I) % (x * b) / b + 1) * b) v) b (by simp [hqb]) (by rw [htake]; exact hWle) (by rw [htake]; exact hWlt), htake]
 have hk : (j / I) % (x * b) - (j / I) % (x * b) / b * b < ((j / I) % (x * b) / b + 1) * b - (j / I) % (x * b) / b * b := by
  rw [w3]; omega
 have hsg := slV_get hv w2 (Nat.le_of_lt w1) q1 hk q3
 rw [w3, show (j / I) % (x * b) / b * b + ((j / I) % (x * b) - (j / I) % (x * b) / b * b) = (j / I) % (x * b) by omega, ← q4] at hsg
 exact hsg
theorem grp_pt {md m1 m2 : List Nat} {a x j w : Nat} (h : Ax md a m1 x m2) (hp : Pos md) (hj : j < prd md) (hw : w < x) : pt md ((j / (x * prd m2) * x + w) * prd m2 + j % prd m2) = (pt md j).set a w ∧ (j / (x * prd m2) * x + w) * prd m2 + j % prd m2 < prd md := by
 obtain ⟨p1, px, p2⟩ := h.pos hp
 have hI := prd_pos p2
 rw [h.prd] at hj
 obtain ⟨q1, q2, q3, q4⟩ := num_split hj
 obtain ⟨j1, j2, j3⟩ := num_join (o := j / (x * prd m2)) hw q3
 refine ⟨?_, by rw [h.prd]; exact num_lt q1 hw q3⟩
 rw [h.pt, h.pt, j2, j3, (pt_mod p2).2 j1, List.set_append_right _ _ (by rw [pt_len, h.len]; exact Nat.le_refl _), pt_len, h.len]
 simp
end Go.Proofs.YtpedfojbfbccaaaGreat
