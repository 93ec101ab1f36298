import Derived.Test.YtpedfojbfbccaaaGreatSTd
namespace Go.Proofs.YtpedfojbfbccaaaGreat
open Go Go.RowKit Go.Vc
set_option linter.unusedVariables false
set_option linter.unusedSimpArgs false
theorem fm_len {α : Type} (g : Nat → Option α) : ∀ n, (∀ a, a < n → ∃ x, g a = some x) → ((List.range n).filterMap g).length = n
 | 0, _ => rfl
 | n + 1, h => by
  obtain ⟨x, hx⟩ := h n (by omega)
  rw [List.range_succ, List.filterMap_append, List.length_append, fm_len g n fun a ha => h a (by omega)]
  simp [hx]
theorem fm_get {α : Type} (g : Nat → Option α) : ∀ n j, (∀ a, a < n → ∃ x, g a = some x) → j < n → ((List.range n).filterMap g)[j]? = g j
 | 0, j, _, h => by omega
 | n + 1, j, h, hj => by
  obtain ⟨x, hx⟩ := h n (by omega)
  have hl := fm_len g n fun a ha => h a (by omega)
  rw [List.range_succ, List.filterMap_append]
  by_cases e : j < n
  ·rw [List.getElem?_append_left (by omega)]; exact fm_get g n j (fun a ha => h a (by omega)) e
  ·obtain rfl : j = n := by omega
   rw [List.getElem?_append_right (by omega), hl]; simp [hx]
theorem fm_succ {α : Type} (g : Nat → Option α) (n : Nat) {x : α} (h : g n = some x) : (List.range (n + 1)).filterMap g = (List.range n).filterMap g ++ [x] := by
 rw [List.range_succ, List.filterMap_append]; simp [h]
theorem fm_skip {α : Type} (g : Nat → Option α) (n : Nat) (h : g n = none) : (List.range (n + 1)).filterMap g = (List.range n).filterMap g := by
 rw [List.range_succ, List.filterMap_append]; simp [h]
theorem fm_le {α : Type} (g : Nat → Option α) (n : Nat) : ((List.range n).filterMap g).length ≤ n := by
 have := List.length_filterMap_le g (List.range n); simpa using this
theorem range_add' (a b : Nat) : List.range (a + b) = List.range a ++ (List.range b).map (a + ·) := by
 induction b with
 | zero => simp
 | succ b ih => rw [← Nat.add_assoc, List.range_succ, ih, List.range_succ]; simp
theorem fm_drop {α : Type} (v : List α) (c : Nat) : ∀ n, (List.range n).filterMap (fun r => v[c + r]?) = (v.drop c).take n
 | 0 => by simp
 | n + 1 => by
  rw [List.range_succ, List.filterMap_append, fm_drop v c n, List.take_add_one, List.getElem?_drop]
  have e : List.filterMap (fun r => v[c + r]?) [n] = (v[c + n]?).toList := by
   rcases h : v[c + n]? with _ | x
   ·simp only [List.filterMap_cons, List.filterMap_nil, h, Option.toList_none]
   ·simp only [List.filterMap_cons, List.filterMap_nil, h, Option.toList_some]
  rw [e]
theorem fm_congr {α β : Type} {f g : α → Option β} {l : List α} (h : ∀ a ∈ l, f a = g a) : l.filterMap f = l.filterMap g := by
 induction l with
 | nil => rfl
 | cons a l ih => rw [List.filterMap_cons, List.filterMap_cons, h a (by simp), ih fun b hb => h b (by simp [hb])]
theorem fm_none {α : Type} (g : Nat → Option α) (l : List Nat) (h : ∀ a ∈ l, g a = none) : l.filterMap g = [] := List.filterMap_eq_nil_iff.2 h
theorem fm_seg {α : Type} (v : List α) (b A B L : Nat) (hAB : A ≤ B) (hB : B ≤ L) : (List.range L).filterMap (fun r => if A ≤ r ∧ r < B then v[b + r]? else none) = (v.drop (b + A)).take (B - A) := by
 obtain ⟨x, rfl⟩ : ∃ x, B = A + x := ⟨B - A, by omega⟩
 obtain ⟨y, rfl⟩ : ∃ y, L = A + x + y := ⟨L - (A + x), by omega⟩
 rw [range_add', range_add', List.filterMap_append, List.filterMap_append, fm_none _ (List.range A) (fun a ha => by rw [if_neg]; have := List.mem_range.1 ha; omega)]
 rw [fm_none _ ((List.range y).map _) (fun a ha => by obtain ⟨r, hr, rfl⟩ := List.mem_map.1 ha; rw [if_neg]; omega), List.filterMap_map]
 simp only [List.nil_append, List.append_nil]
 rw [show A + x - A = x by omega, ← fm_drop]
 refine fm_congr fun r hr => ?_
 have := List.mem_range.1 hr
 simp only [Function.comp]
 rw [if_pos (by omega), Nat.add_assoc]
theorem pick_slV {α : Type} {m I f t : Nat} (v : List α) (hI : 0 < I) (hm : 0 < m) (ht : t ≤ m) (hft : f ≤ t) : ∀ O, (List.range (O * m * I)).filterMap (fun j => if f ≤ (j / I) % m ∧ (j / I) % m < t then v[j]? else none) = slV O m I f t v
 | 0 => by simp [slV]
 | O + 1 => by
  have e : (O + 1) * m * I = O * m * I + m * I := by rw [Nat.add_mul, Nat.one_mul, Nat.add_mul]
  rw [e, range_add', List.filterMap_append, pick_slV v hI hm ht hft O]
  unfold slV
  rw [List.range_succ, List.flatMap_append, List.filterMap_map]
  congr 1
  simp only [List.flatMap_cons, List.flatMap_nil, List.append_nil]
  have h := fm_seg v (O * m * I) (f * I) (t * I) (m * I) (Nat.mul_le_mul_right _ hft) (Nat.mul_le_mul_right _ ht)
  rw [show (O * m + f) * I = O * m * I + f * I from Nat.add_mul .., show (t - f) * I = t * I - f * I from Nat.sub_mul .., ← h]
  refine fm_congr fun r hr => ?_
  have hr := List.mem_range.1 hr
  simp only [Function.comp]
  have h1 : (O * m * I + r) / I = O * m + r / I := by rw [Nat.mul_comm (O * m), Nat.mul_add_div hI]
  have h2 : r / I < m := (Nat.div_lt_iff_lt_mul hI).2 hr
  rw [h1, Nat.mul_comm O, Nat.mul_add_mod, Nat.mod_eq_of_lt h2]
  have h3 : f ≤ r / I ↔ f * I ≤ r := Nat.le_div_iff_mul_le hI
  have h4 : r / I < t ↔ r < t * I := Nat.div_lt_iff_lt_mul hI
  by_cases c : f * I ≤ r ∧ r < t * I
  ·rw [if_pos c, if_pos ⟨h3.2 c.1, h4.2 c.2⟩]
  ·rw [if_neg c, if_neg fun h => c ⟨h3.1 h.1, h4.1 h.2⟩]
def z0 : GTensor := ⟨⟨0, 0, 0, 0, 0⟩, [], []⟩
theorem gather_ok {t : GTensor} {dn dn' : List Nat} {d' : List Int} {f : List Int → Option (List Int)} (F : Nat → Nat) (ht : Ten t dn) (hs : Shp d' dn')
  (hf : ∀ a, a < prd dn' → ∃ q, f (ci (pt dn' a)) = some (ci q) ∧ Bd dn q ∧ off dn q = F a) :
  m_tensor_gather t d' f = some ⟨t.Type_, d', (List.range (prd dn')).filterMap fun a => t.Vals[F a]?⟩ := by
 have hle := hs.le
 have hF : ∀ a, a < prd dn' → ∃ x, t.Vals[F a]? = some x := fun a ha => by
  obtain ⟨q, _, h2, h3⟩ := hf a ha
  have := off_lt h2
  exact at_some (by rw [ht.len, ← h3]; exact this)
 unfold m_tensor_gather
 rw [hs.size, Option.bind_some]
 refine loop_eq (L := fun g s i => m_tensor_gather_l1 _ d' f t g i s) (n := prd dn') (by omega) (fun i s => s = ⟨t.Type_, d', (List.range i).filterMap fun a => t.Vals[F a]?⟩) ?_ ?_ ⟨t.Type_, d', []⟩ (by simp)
 ·rintro g i s hi rfl
  obtain ⟨q, h1, h2, h3⟩ := hf i hi
  obtain ⟨x, hx⟩ := hF i hi
  left
  refine ⟨_, rfl, ?_⟩
  simp only [m_tensor_gather_l1]
  have hl := fm_le (fun a => t.Vals[F a]?) i
  rw [if_pos (lt_dec hi), shape_Point hs hi, Option.bind_some, h1, Option.bind_some, shape_Offset_in ht.shp h2, Option.bind_some, h3, lat_at hx, Option.bind_some, lapp_ok (by simp only [List.length_cons, List.length_nil]; omega), Option.bind_some, wis (by omega), fm_succ (fun a => t.Vals[F a]?) i hx]
 ·rintro g s rfl
  simp only [m_tensor_gather_l1]
  rw [if_neg (by simp)]
def slS (t : GTensor) (ax f to_ : Int) : GTensor × Int :=
 if teErr t = 0 then
  (if 0 ≤ ax ∧ ax < (t.Dims.length : Int) then
   (match t.Dims[ax.toNat]? with
    | none => (z0, 12)
    | some m =>
     if 0 ≤ f ∧ f < to_ ∧ to_ ≤ m then
      (⟨t.Type_, t.Dims.set ax.toNat (to_ - f), slV (prd ((t.Dims.take ax.toNat).map Int.toNat)) m.toNat (prd ((t.Dims.drop (ax.toNat + 1)).map Int.toNat)) f.toNat to_.toNat t.Vals⟩, 0)
     else (z0, 12))
  else (z0, 11))
 else (z0, teErr t)
theorem ci_take (l : List Nat) (i : Nat) : (ci l).take i = ci (l.take i) := by simp [ci]
theorem ci_drop (l : List Nat) (i : Nat) : (ci l).drop i = ci (l.drop i) := by simp [ci]
theorem ci_get {l : List Nat} {i : Nat} : (ci l)[i]? = (l[i]?).map fun (n : Nat) => (n : Int) := by simp [ci]
theorem slS_ok {t : GTensor} {dn : List Nat} {i m f to_ : Nat} (ht : Ten t dn) (hm : dn[i]? = some m) (h1 : f < to_) (h2 : to_ ≤ m) :
  slS t i f to_ = (⟨t.Type_, ci (dn.set i (to_ - f)), slV (prd (dn.take i)) m (prd (dn.drop (i + 1))) f to_ t.Vals⟩, 0) := by
 have hi := (List.getElem?_eq_some_iff.1 hm).1
 unfold slS
 rw [if_pos ht.err, ht.shp.eq, if_pos (by rw [ci_len]; omega), Int.toNat_natCast, ci_get, hm]
 simp only [Option.map_some]
 rw [if_pos (by omega), ci_take, ci_drop, ci_nat, ci_nat, show ((to_ : Int) - (f : Int)) = ((to_ - f : Nat) : Int) by omega, ci_set]
 simp
theorem Ax.shp {d : List Int} {dn d1 d2 : List Nat} {i m k : Nat} (h : Ax dn i d1 m d2) (hs : Shp d dn) (hk1 : 1 ≤ k) (hkm : k ≤ m) : Shp (ci (dn.set i k)) (dn.set i k) := by
 have ha := h.set k
 obtain ⟨p1, pm, p2⟩ := h.pos hs.pos
 have hp := h.prd
 refine ⟨rfl, ?_, ?_, by rw [List.length_set]; exact hs.len⟩
 ·rw [ha.eq]
  intro x hx
  simp only [List.mem_append, List.mem_cons] at hx
  rcases hx with hx | rfl | hx
  ·exact p1 x hx
  ·exact hk1
  ·exact p2 x hx
 ·rw [ha.prd]
  refine Nat.le_trans ?_ hs.le
  rw [hp]
  exact Nat.mul_le_mul_right _ (Nat.mul_le_mul_left _ hkm)
theorem shape_Slice {d : List Int} {dn : List Nat} (hs : Shp d dn) (ax f to_ : Int) : m_shape_Slice d ax f to_ = some (
  if 0 ≤ ax ∧ ax < (d.length : Int) then (match d[ax.toNat]? with | none => (([], 12) : List Int × Int) | some m => if 0 ≤ f ∧ f < to_ ∧ to_ ≤ m then (d.set ax.toNat (to_ - f), 0) else ([], 12)) else ([], 11)) := by
 have hl := hs.len
 unfold m_shape_Slice
 rw [shape_Validate d (by rw [hs.eq, ci_len]; omega), Option.bind_some, hs.err, if_neg (by simp)]
 by_cases ha : 0 ≤ ax ∧ ax < (d.length : Int)
 ·obtain ⟨i, rfl⟩ := Int.eq_ofNat_of_zero_le ha.1
  have hi : i < dn.length := by have := ha.2; rw [hs.eq, ci_len] at this; omega
  obtain ⟨m, hm⟩ := at_some hi
  have hd : d[i]? = some (m : Int) := by rw [hs.eq, ci_get, hm]; rfl
  have hmm := mem_small hs hm
  rw [if_neg (by simp; omega), if_pos ha, Int.toNat_natCast, hd]
  simp only
  by_cases hc : 0 ≤ f ∧ f < to_ ∧ to_ ≤ m
  ·rw [show gd (!((decide (f < 0)) || (decide (to_ ≤ f)))) (lat d (i : Int)) = some (m : Int) by unfold gd; rw [if_pos (by simp; omega), lat_at hd], Option.bind_some, if_neg (by simp; omega), clone_int_o (by rw [hs.eq, ci_len]; omega), Option.bind_some, if_pos ha, if_pos hc]
   rw [show wi64 (to_ - f) = to_ - f from wr_i64 (p := to_ - f) ⟨by omega, by omega⟩]
  ·rw [if_neg hc]
   by_cases hc1 : f < 0 ∨ to_ ≤ f
   ·rw [show gd (!((decide (f < 0)) || (decide (to_ ≤ f)))) (lat d (i : Int)) = some default by unfold gd; rw [if_neg (by simp; omega)], Option.bind_some, if_pos (by simp; omega)]
   ·rw [show gd (!((decide (f < 0)) || (decide (to_ ≤ f)))) (lat d (i : Int)) = some (m : Int) by unfold gd; rw [if_pos (by simp; omega), lat_at hd], Option.bind_some, if_pos (by simp; omega)]
 ·rw [if_pos (by simp; omega), if_neg ha]
theorem tensor_Slice {t : GTensor} (hr : TeR t) (h1 : t.Dims.length < 4611686018427387904) (h2 : t.Vals.length < 4611686018427387904) (ax f to_ : Int) : m_tensor_Slice t ax f to_ = some (slS t ax f to_) := by
 unfold m_tensor_Slice
 rw [tensor_Validate hr h1 h2, Option.bind_some]
 unfold slS
 by_cases he : teErr t = 0
 ·obtain ⟨dn, ht⟩ := Ten.of he
  have hsl := ht.shp.len
  rw [if_neg (by simp [he]), if_pos he]
  by_cases ha : 0 ≤ ax ∧ ax < (t.Dims.length : Int)
  ·rw [if_pos ha]
   have hsh := shape_Slice ht.shp ax f to_
   rw [if_pos ha] at hsh
   obtain ⟨i, rfl⟩ := Int.eq_ofNat_of_zero_le ha.1
   rw [Int.toNat_natCast]
   have hi : i < dn.length := by have := ha.2; rw [ht.shp.eq, ci_len] at this; omega
   obtain ⟨m, hm⟩ := at_some hi
   have hd : t.Dims[i]? = some (m : Int) := by rw [ht.shp.eq, ci_get, hm]; rfl
   rw [Int.toNat_natCast, hd] at hsh
   simp only at hsh
   rw [hd, hsh, Option.bind_some]
   simp only
   by_cases hc : 0 ≤ f ∧ f < to_ ∧ to_ ≤ m
   ·rw [if_pos hc, if_pos hc, if_neg (by simp)]
    simp only
    obtain ⟨fn, rfl⟩ := Int.eq_ofNat_of_zero_le hc.1
    obtain ⟨tn, rfl⟩ := Int.eq_ofNat_of_zero_le (show 0 ≤ to_ by omega)
    have hax := Ax.of hm
    obtain ⟨p1, pm, p2⟩ := hax.pos ht.shp.pos
    have hpr := hax.prd
    have hle := ht.shp.le
    have hk : tn - fn ≤ m := by omega
    have hs' := hax.shp ht.shp (k := tn - fn) (by omega) hk
    have hax' := hax.set (tn - fn)
    have hmm := mem_small ht.shp hm
    have e1 : t.Dims.set i ((tn : Int) - (fn : Int)) = ci (dn.set i (tn - fn)) := by rw [ht.shp.eq, show ((tn : Int) - (fn : Int)) = ((tn - fn : Nat) : Int) by omega, ci_set]
    rw [e1, gather_ok (fun a => (a / ((tn - fn) * prd (dn.drop (i + 1))) * m + (fn + (a / prd (dn.drop (i + 1))) % (tn - fn))) * prd (dn.drop (i + 1)) + a % prd (dn.drop (i + 1))) ht hs' fun a ha' => ?_]
    ·rw [Option.bind_some]
     congr 3
     simp only [Int.toNat_natCast]
     rw [ht.shp.eq, ci_take, ci_drop, ci_nat, ci_nat]
     have hvl : t.Vals.length = prd (dn.take i) * m * prd (dn.drop (i + 1)) := by rw [ht.len, hpr]
     have hpr' : prd (dn.set i (tn - fn)) = prd (dn.take i) * (tn - fn) * prd (dn.drop (i + 1)) := hax'.prd
     have hsome : ∀ a, a < prd (dn.set i (tn - fn)) → ∃ x, t.Vals[(a / ((tn - fn) * prd (dn.drop (i + 1))) * m + (fn + (a / prd (dn.drop (i + 1))) % (tn - fn))) * prd (dn.drop (i + 1)) + a % prd (dn.drop (i + 1))]? = some x := fun a ha' => by
      rw [hpr'] at ha'
      obtain ⟨q1, q2, q3, q4⟩ := num_split ha'
      have := slV_get (v := t.Vals) hvl (t := tn) (f := fn) (by omega) (by omega) q1 q2 q3
      rw [← this, ← q4]
      exact at_some (by rw [slV_len hvl (by omega) (by omega)]; exact ha')
     refine list_ext' ?_ fun j hj => ?_
     ·rw [fm_len _ _ hsome, slV_len hvl (by omega) (by omega), hpr']
     ·rw [fm_len _ _ hsome] at hj
      rw [fm_get _ _ _ hsome hj]
      rw [hpr'] at hj
      obtain ⟨q1, q2, q3, q4⟩ := num_split hj
      conv => rhs; rw [q4]
      exact (slV_get (v := t.Vals) hvl (by omega) (by omega) q1 q2 q3).symm
    ·have ha2 : a < prd (dn.take i) * (tn - fn) * prd (dn.drop (i + 1)) := by rw [← hax'.prd]; exact ha'
     obtain ⟨q1, q2, q3, q4⟩ := num_split ha2
     refine ⟨(pt (dn.set i (tn - fn)) a).set i (fn + (a / prd (dn.drop (i + 1))) % (tn - fn)), ?_, ?_, ?_⟩
     ·unfold m_tensor_Slice_1
      have hlen : (ci (pt (dn.set i (tn - fn)) a)).length = dn.length := by rw [ci_len, pt_len, List.length_set]
      rw [lapp_nil (by rw [hlen]; omega), Option.bind_some, ci_at (hax'.pt_at a), Option.bind_some, if_pos (by rw [hlen]; omega), Int.toNat_natCast]
      rw [wia (by omega), ci_set, Nat.add_comm fn]
     ·exact pt_set_bd hax' hs'.pos a hax (by omega)
     ·exact hax'.off_set hs'.pos a ha2 hax
   ·rw [if_neg hc, if_neg hc, if_pos (by simp)]; rfl
  ·rw [if_neg ha, shape_Slice ht.shp, if_neg ha, Option.bind_some, if_pos (by simp)]; rfl
 ·rw [if_pos (by simp [he]), if_neg he]; rfl
theorem ref_Slice_dims {t : GTensor} {dn : List Nat} {i : Nat} {f to_ : Int} (ht : Ten t dn) (hw : wi64 (to_ - f) = to_ - f) :
  m_ref12_Slice_l2 t (i : Int) to_ f fu 0 ⟨t.Type_, [], []⟩ = m_ref12_Slice_j1 t (i : Int) f to_ ⟨t.Type_, t.Dims.set i (to_ - f), []⟩ := by
 have hl := ht.shp.len
 have hd : t.Dims.length = dn.length := by rw [ht.shp.eq, ci_len]
 refine loop_eq (L := fun g s k => m_ref12_Slice_l2 t (i : Int) to_ f g k s) (n := t.Dims.length) (by omega) (fun k s => s = ⟨t.Type_, (t.Dims.set i (to_ - f)).take k, []⟩) ?_ ?_ ⟨t.Type_, [], []⟩ (by simp)
 ·rintro g k s hk rfl
  obtain ⟨x, hx⟩ := at_some hk
  left
  refine ⟨_, rfl, ?_⟩
  simp only [m_ref12_Slice_l2]
  rw [if_pos (lt_dec hk)]
  by_cases e : k = i
  ·subst e
   rw [if_pos (by simp), hw, lapp_ok (by simp; omega), Option.bind_some, m_ref12_Slice_j3, wis (by omega), take_succ' (x := to_ - f) (by simp [hk])]
  ·rw [if_neg (by simpa using fun h => e (by omega)), lat_at hx, Option.bind_some, lapp_ok (by simp; omega), Option.bind_some, m_ref12_Slice_j3, wis (by omega), take_succ' (x := x) (by rw [List.getElem?_set_ne (fun h => e h.symm)]; exact hx)]
 ·rintro g s rfl
  simp only [m_ref12_Slice_l2]
  rw [if_neg (by simp), List.take_of_length_le (by simp)]
theorem ref12_Slice {t : GTensor} (hr : TeR t) (h1 : t.Dims.length < 4611686018427387904) (h2 : t.Vals.length < 4611686018427387904) (ax f to_ : Int) : m_ref12_Slice t ax f to_ = some (slS t ax f to_) := by
 unfold m_ref12_Slice
 rw [ref12_Validate hr h1 h2, Option.bind_some]
 unfold slS
 by_cases he : teErr t = 0
 ·obtain ⟨dn, ht⟩ := Ten.of he
  have hsl := ht.shp.len
  rw [if_neg (by simp [he]), if_pos he]
  by_cases ha : 0 ≤ ax ∧ ax < (t.Dims.length : Int)
  ·rw [if_neg (by simp; omega), if_pos ha]
   obtain ⟨i, rfl⟩ := Int.eq_ofNat_of_zero_le ha.1
   rw [Int.toNat_natCast]
   have hi : i < dn.length := by have := ha.2; rw [ht.shp.eq, ci_len] at this; omega
   obtain ⟨m, hm⟩ := at_some hi
   have hd : t.Dims[i]? = some (m : Int) := by rw [ht.shp.eq, ci_get, hm]; rfl
   rw [hd]
   simp only
   by_cases hc : 0 ≤ f ∧ f < to_ ∧ to_ ≤ m
   ·have hmm := mem_small ht.shp hm
    rw [show gd (!((decide (f < 0)) || (decide (to_ ≤ f)))) (lat t.Dims (i : Int)) = some (m : Int) by unfold gd; rw [if_pos (by simp; omega), lat_at hd], Option.bind_some, if_neg (by simp; omega), if_pos hc]
    rw [ref_Slice_dims ht (wr_i64 (p := to_ - f) ⟨by omega, by omega⟩), m_ref12_Slice_j1]
    have hax := Ax.of hm
    obtain ⟨p1, pm, p2⟩ := hax.pos ht.shp.pos
    have hpr := hax.prd
    have hle := ht.shp.le
    have hvl : t.Vals.length = prd (dn.take i) * m * prd (dn.drop (i + 1)) := by rw [ht.len, hpr]
    obtain ⟨fn, rfl⟩ := Int.eq_ofNat_of_zero_le hc.1
    obtain ⟨tn, rfl⟩ := Int.eq_ofNat_of_zero_le (show 0 ≤ to_ by omega)
    simp only [Int.toNat_natCast]
    have e2 : slV (prd ((t.Dims.take i).map Int.toNat)) m (prd ((t.Dims.drop (i + 1)).map Int.toNat)) fn tn t.Vals = (List.range t.Vals.length).filterMap (fun j => if fn ≤ (j / prd (dn.drop (i + 1))) % m ∧ (j / prd (dn.drop (i + 1))) % m < tn then t.Vals[j]? else none) := by
     rw [ht.shp.eq, ci_take, ci_drop, ci_nat, ci_nat, hvl]
     exact (pick_slV t.Vals (prd_pos p2) (by omega) (by omega) (by omega) _).symm
    rw [e2]
    refine loop_eq (L := fun g s k => m_ref12_Slice_l1 t (i : Int) (fn : Int) (tn : Int) g k s) (n := t.Vals.length) h2 (fun k s => s = ⟨t.Type_, t.Dims.set i ((tn : Int) - (fn : Int)), (List.range k).filterMap (fun j => if fn ≤ (j / prd (dn.drop (i + 1))) % m ∧ (j / prd (dn.drop (i + 1))) % m < tn then t.Vals[j]? else none)⟩) ?_ ?_ _ (by simp)
    ·rintro g k s hk rfl
     obtain ⟨x, hx⟩ := at_some hk
     left
     refine ⟨_, rfl, ?_⟩
     simp only [m_ref12_Slice_l1]
     rw [if_pos (lt_dec hk), ref12_Point ht.shp (by omega), Option.bind_some, ci_at (hax.pt_at k), Option.bind_some]
     have hfl := fm_le (fun j => if fn ≤ (j / prd (dn.drop (i + 1))) % m ∧ (j / prd (dn.drop (i + 1))) % m < tn then t.Vals[j]? else none) k
     by_cases hin : fn ≤ (k / prd (dn.drop (i + 1))) % m ∧ (k / prd (dn.drop (i + 1))) % m < tn
     ·rw [show gd (decide ((fn : Int) ≤ ((k / prd (dn.drop (i + 1)) % m : Nat) : Int))) (some ((k / prd (dn.drop (i + 1)) % m : Nat) : Int)) = some ((k / prd (dn.drop (i + 1)) % m : Nat) : Int) by unfold gd; rw [if_pos (decide_eq_true (by have := hin.1; omega))], Option.bind_some, if_pos (by rw [Bool.and_eq_true, decide_eq_true_eq, decide_eq_true_eq]; exact ⟨by have := hin.1; omega, by have := hin.2; omega⟩), lat_at hx, Option.bind_some, lapp_ok (by simp only [List.length_cons, List.length_nil]; omega), Option.bind_some, m_ref12_Slice_j2, wis (by omega)]
      rw [fm_succ (x := x) _ k (by rw [if_pos hin]; exact hx)]
     ·rw [fm_skip _ k (by rw [if_neg hin])]
      by_cases hf : fn ≤ (k / prd (dn.drop (i + 1))) % m
      ·have h3 : ¬ (k / prd (dn.drop (i + 1))) % m < tn := fun h => hin ⟨hf, h⟩
       rw [show gd (decide ((fn : Int) ≤ ((k / prd (dn.drop (i + 1)) % m : Nat) : Int))) (some ((k / prd (dn.drop (i + 1)) % m : Nat) : Int)) = some ((k / prd (dn.drop (i + 1)) % m : Nat) : Int) by unfold gd; rw [if_pos (decide_eq_true (by omega))], Option.bind_some, if_neg (by rw [Bool.and_eq_true, decide_eq_true_eq, decide_eq_true_eq]; omega), m_ref12_Slice_j2, wis (by omega)]
      ·have h3 : decide ((fn : Int) ≤ ((k / prd (dn.drop (i + 1)) % m : Nat) : Int)) = false := decide_eq_false (by omega)
       rw [h3]
       simp only [gd, Bool.false_eq_true, if_false, Bool.false_and, Option.bind_some]
       rw [m_ref12_Slice_j2, wis (by omega)]
    ·rintro g s rfl
     simp only [m_ref12_Slice_l1]
     rw [if_neg (by simp)]
   ·rw [if_neg hc]
    by_cases hc1 : f < 0 ∨ to_ ≤ f
    ·rw [show gd (!((decide (f < 0)) || (decide (to_ ≤ f)))) (lat t.Dims (i : Int)) = some default by unfold gd; rw [if_neg (by simp; omega)], Option.bind_some, if_pos (by simp; omega)]; rfl
    ·rw [show gd (!((decide (f < 0)) || (decide (to_ ≤ f)))) (lat t.Dims (i : Int)) = some (m : Int) by unfold gd; rw [if_pos (by simp; omega), lat_at hd], Option.bind_some, if_pos (by simp; omega)]; rfl
  ·rw [if_pos (by simp; omega), if_neg ha]; rfl
 ·rw [if_pos (by simp [he]), if_neg he]; rfl
end Go.Proofs.YtpedfojbfbccaaaGreat
