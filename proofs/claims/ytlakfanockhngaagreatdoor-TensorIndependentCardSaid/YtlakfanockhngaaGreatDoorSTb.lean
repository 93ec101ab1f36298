import Derived.Test.YtlakfanockhngaaGreatDoorSTa
namespace Go.Proofs.YtlakfanockhngaaGreatDoor
open Go Go.RowKit Go.Vc
set_option linter.unusedVariables false
set_option linter.unusedSimpArgs false
def shErr (d : List Int) : Int :=
 if 6 < d.length then 2 else if d.all (fun x => decide (1 ≤ x)) = true then (if 4096 < prd (d.map Int.toNat) then 2 else 0) else 1
theorem ci_nat (dn : List Nat) : (ci dn).map Int.toNat = dn := by
 induction dn with
 | nil => rfl
 | cons x d ih => simpa [ci] using ih
theorem mem_ci {d : List Nat} {n : Nat} (h : n ∈ d) : (n : Int) ∈ ci d := List.mem_map_of_mem (f := fun (n : Nat) => (n : Int)) h
theorem shErr0 {d : List Int} (h : shErr d = 0) : ∃ dn : List Nat, d = ci dn ∧ Pos dn ∧ prd dn ≤ 4096 ∧ dn.length ≤ 6 := by
 unfold shErr at h
 split at h
 ·cases h
 rename_i hl
 split at h
 ·rename_i ha
  split at h
  ·cases h
  rename_i hp
  have ha' : ∀ x ∈ d, 1 ≤ x := fun x hx => by simpa using List.all_eq_true.1 ha x hx
  obtain ⟨dn, rfl⟩ := ci_of (l := d) fun x hx => by have := ha' x hx; omega
  rw [ci_nat] at hp
  refine ⟨dn, rfl, fun x hx => ?_, by omega, by rw [ci_len] at hl; omega⟩
  have := ha' (x : Int) (mem_ci hx)
  omega
 ·cases h
theorem shErr_ci {dn : List Nat} (h1 : Pos dn) (h2 : prd dn ≤ 4096) (h3 : dn.length ≤ 6) : shErr (ci dn) = 0 := by
 unfold shErr
 rw [if_neg (by rw [ci_len]; omega), if_pos, if_neg (by rw [ci_nat]; omega)]
 rw [List.all_eq_true]
 intro x hx
 unfold ci at hx
 obtain ⟨n, hn, rfl⟩ := List.mem_map.1 hx
 have := h1 n hn
 simp; omega
theorem prd_take_le {d : List Nat} (h : Pos d) (i : Nat) : prd (d.take i) ≤ prd d := by
 have h1 : prd d = prd (d.take i) * prd (d.drop i) := by rw [← prd_app, List.take_append_drop]
 have h2 := prd_pos (d := d.drop i) fun x hx => h x (List.mem_of_mem_drop hx)
 rw [h1]; exact Nat.le_mul_of_pos_right _ h2
theorem prd_take_succ {d : List Nat} {i x : Nat} (h : d[i]? = some x) : prd (d.take (i + 1)) = prd (d.take i) * x := by
 rw [take_succ' h, prd_app]; simp [prd]
theorem Pos.take {d : List Nat} (h : Pos d) (i : Nat) : Pos (d.take i) := fun x hx => h x (List.mem_of_mem_take hx)
theorem shape_mul {dn : List Nat} (hp : Pos dn) (hl : dn.length ≤ 6) (m : Nat → Int → Int → Option Int)
  (hm : ∀ f s i e, lat (ci dn) i = some e → m (f + 1) s i = if decide (i < ((ci dn).length : Int)) then (if s ≠ 0 then (if decide (wi64 (Int.tdiv 4096 s) < e) then some 2 else m f (wi64 (s * e)) (wi64 (i + 1))) else none) else some 0)
  (hz : ∀ f s, m (f + 1) s (dn.length : Int) = some 0) : m fu 1 0 = some (if 4096 < prd dn then 2 else 0) := by
 refine loop_eq (L := fun f s i => m f s i) (n := dn.length) (by omega) (fun i s => s = ((prd (dn.take i) : Nat) : Int) ∧ prd (dn.take i) ≤ 4096) ?_ ?_ 1 ⟨by simp [prd], by simp [prd]⟩
 ·rintro f i s hi ⟨rfl, hs⟩
  obtain ⟨x, hx⟩ := at_some hi
  have h1 := prd_pos (hp.take i)
  have hx1 : 1 ≤ x := hp x (List.mem_of_getElem? hx)
  have hdiv : wi64 (Int.tdiv 4096 ((prd (dn.take i) : Nat) : Int)) = ((4096 / prd (dn.take i) : Nat) : Int) := by
   rw [show Int.tdiv 4096 ((prd (dn.take i) : Nat) : Int) = ((4096 / prd (dn.take i) : Nat) : Int) by simpa using (Int.ofNat_tdiv 4096 (prd (dn.take i))).symm]
   exact wiN (by have := Nat.div_le_self 4096 (prd (dn.take i)); omega)
  rw [hm f _ _ x (ci_at hx), ci_len, if_pos (lt_dec hi), if_pos (by omega), hdiv]
  by_cases hc : 4096 < prd (dn.take i) * x
  ·right
   have : 4096 / prd (dn.take i) < x := (Nat.div_lt_iff_lt_mul h1).2 (by rw [Nat.mul_comm]; exact hc)
   rw [if_pos (decide_eq_true (Int.ofNat_lt.2 this)), if_pos]
   have := prd_take_le hp (i + 1)
   rw [prd_take_succ hx] at this
   omega
  ·left
   have h2 : ¬ 4096 / prd (dn.take i) < x := fun h => hc (by have := (Nat.div_lt_iff_lt_mul h1).1 h; rw [Nat.mul_comm]; exact this)
   rw [if_neg (by rw [decide_eq_true_iff]; exact fun h => h2 (Int.ofNat_lt.1 h))]
   refine ⟨_, ⟨?_, ?_⟩, by rw [wis (by omega)]⟩
   ·rw [wim (by omega), prd_take_succ hx]
   ·rw [prd_take_succ hx]; omega
 ·rintro f s ⟨rfl, hs⟩
  rw [hz, if_neg (by rw [List.take_length] at hs; omega)]
theorem not_all {d : List Int} (h : ¬ d.all (fun x => decide (1 ≤ x)) = true) : shErr d = if 6 < d.length then 2 else 1 := by unfold shErr; rw [if_neg h]
theorem shape_Validate (d : List Int) (hd : d.length < 4611686018427387904) : m_shape_Validate d = some (shErr d) := by
 unfold m_shape_Validate
 by_cases h6 : 6 < d.length
 ·rw [if_pos (by simp; omega)]; unfold shErr; rw [if_pos h6]
 rw [if_neg (by simp; omega)]
 refine loop_eq (L := fun f (s : Unit) i => m_shape_Validate_l2 d f i) (n := d.length) hd (fun i _ => ∀ x ∈ d.take i, 1 ≤ x) ?_ ?_ () (by simp)
 ·rintro f i - hi hI
  obtain ⟨x, hx⟩ := at_some hi
  simp only [m_shape_Validate_l2]
  rw [if_pos (lt_dec hi), lat_at hx, Option.bind_some]
  by_cases h1 : x < 1
  ·right
   rw [if_pos (by simpa using h1), not_all, if_neg h6]
   intro ha
   have := List.all_eq_true.1 ha x (List.mem_of_getElem? hx)
   simp at this; omega
  ·left
   rw [if_neg (by simpa using h1)]
   refine ⟨(), fun y hy => ?_, by rw [wis (by omega)]⟩
   rw [take_succ' hx] at hy
   rcases List.mem_append.1 hy with h | h
   ·exact hI y h
   ·rw [List.mem_singleton.1 h]; omega
 ·rintro f - hI
  rw [List.take_length] at hI
  obtain ⟨dn, rfl⟩ := ci_of (l := d) fun x hx => by have := hI x hx; omega
  have hp : Pos dn := fun x hx => by have := hI (x : Int) (mem_ci hx); omega
  have ha : (ci dn).all (fun x => decide (1 ≤ x)) = true := by rw [List.all_eq_true]; intro x hx; simpa using hI x hx
  simp only [m_shape_Validate_l2]
  rw [if_neg (by simp)]
  unfold m_shape_Validate_j1 shErr
  rw [if_neg h6, if_pos ha, ci_nat]
  refine shape_mul hp (by rw [ci_len] at h6; omega) (m_shape_Validate_l1 (ci dn)) (fun f s i e he => ?_) (fun f s => ?_)
  ·rw [m_shape_Validate_l1, he]; rfl
  ·rw [m_shape_Validate_l1, if_neg (by rw [ci_len]; simp)]
theorem ref12_Shape (d : List Int) (hd : d.length < 4611686018427387904) : m_ref12_Shape d = some (shErr d) := by
 unfold m_ref12_Shape
 by_cases h6 : 6 < d.length
 ·rw [if_pos (by simp; omega)]; unfold shErr; rw [if_pos h6]
 rw [if_neg (by simp; omega)]
 refine loop_eq (L := fun f (s : Unit) i => m_ref12_Shape_l2 d f i) (n := d.length) hd (fun i _ => ∀ x ∈ d.take i, 1 ≤ x) ?_ ?_ () (by simp)
 ·rintro f i - hi hI
  obtain ⟨x, hx⟩ := at_some hi
  simp only [m_ref12_Shape_l2]
  rw [if_pos (lt_dec hi), lat_at hx, Option.bind_some]
  by_cases h1 : x < 1
  ·right
   rw [if_pos (by simpa using h1), not_all, if_neg h6]
   intro ha
   have := List.all_eq_true.1 ha x (List.mem_of_getElem? hx)
   simp at this; omega
  ·left
   rw [if_neg (by simpa using h1)]
   refine ⟨(), fun y hy => ?_, by rw [wis (by omega)]⟩
   rw [take_succ' hx] at hy
   rcases List.mem_append.1 hy with h | h
   ·exact hI y h
   ·rw [List.mem_singleton.1 h]; omega
 ·rintro f - hI
  rw [List.take_length] at hI
  obtain ⟨dn, rfl⟩ := ci_of (l := d) fun x hx => by have := hI x hx; omega
  have hp : Pos dn := fun x hx => by have := hI (x : Int) (mem_ci hx); omega
  have ha : (ci dn).all (fun x => decide (1 ≤ x)) = true := by rw [List.all_eq_true]; intro x hx; simpa using hI x hx
  simp only [m_ref12_Shape_l2]
  rw [if_neg (by simp)]
  unfold m_ref12_Shape_j1 shErr
  rw [if_neg h6, if_pos ha, ci_nat]
  refine shape_mul hp (by rw [ci_len] at h6; omega) (m_ref12_Shape_l1 (ci dn)) (fun f s i e he => ?_) (fun f s => ?_)
  ·rw [m_ref12_Shape_l1, he]; rfl
  ·rw [m_ref12_Shape_l1, if_neg (by rw [ci_len]; simp)]
theorem size_mul {dn : List Nat} (hp : Pos dn) (hb : prd dn ≤ 4611686018427387904 - 1) (hl : dn.length ≤ 4611686018427387904 - 1) (m : Nat → Int → Int → Option Int)
  (hm : ∀ f s i e, lat (ci dn) i = some e → i < (dn.length : Int) → m (f + 1) s i = m f (wi64 (s * e)) (wi64 (i + 1)))
  (hz : ∀ f s, m (f + 1) s (dn.length : Int) = some s) : m fu 1 0 = some (prd dn : Int) := by
 refine loop_eq (L := fun f s i => m f s i) (n := dn.length) (by omega) (fun i s => s = ((prd (dn.take i) : Nat) : Int)) ?_ ?_ 1 (by simp [prd])
 ·rintro f i s hi rfl
  obtain ⟨x, hx⟩ := at_some hi
  left
  have h1 := prd_take_le hp (i + 1)
  rw [prd_take_succ hx] at h1
  refine ⟨_, rfl, ?_⟩
  rw [hm f _ _ x (ci_at hx) (by omega), wim (by omega), wis (by omega), prd_take_succ hx]
 ·rintro f s rfl
  rw [hz, List.take_length]
theorem ref12_Size {dn : List Nat} (hp : Pos dn) (hb : prd dn ≤ 4611686018427387903) (hl : dn.length ≤ 4611686018427387903) : m_ref12_Size (ci dn) = some (prd dn : Int) := by
 unfold m_ref12_Size
 refine size_mul hp (by omega) (by omega) (m_ref12_Size_l1 (ci dn)) (fun f s i e he hi => ?_) (fun f s => ?_)
 ·rw [m_ref12_Size_l1, he, if_pos (by rw [ci_len]; simpa using hi)]; rfl
 ·rw [m_ref12_Size_l1, if_neg (by rw [ci_len]; simp)]
theorem shape_Size (d : List Int) (hd : d.length < 4611686018427387904) : m_shape_Size d = some (if shErr d = 0 then (prd (d.map Int.toNat) : Int) else 0) := by
 unfold m_shape_Size
 rw [shape_Validate d hd, Option.bind_some]
 by_cases h : shErr d = 0
 ·obtain ⟨dn, rfl, hp, hb, hl⟩ := shErr0 h
  rw [if_neg (by simp [h]), if_pos h, ci_nat]
  refine size_mul hp (by omega) (by omega) (m_shape_Size_l1 (ci dn)) (fun f s i e he hi => ?_) (fun f s => ?_)
  ·rw [m_shape_Size_l1, he, if_pos (by rw [ci_len]; simpa using hi)]; rfl
  ·rw [m_shape_Size_l1, if_neg (by rw [ci_len]; simp)]
 ·rw [if_pos (by simp [h]), if_neg h]
structure Shp (d : List Int) (dn : List Nat) : Prop where
 eq : d = ci dn
 pos : Pos dn
 le : prd dn ≤ 4096
 len : dn.length ≤ 6
theorem Shp.err {d : List Int} {dn : List Nat} (h : Shp d dn) : shErr d = 0 := by rw [h.eq]; exact shErr_ci h.pos h.le h.len
theorem Shp.size {d : List Int} {dn : List Nat} (h : Shp d dn) : m_shape_Size d = some ((prd dn : Nat) : Int) := by
 have hl := h.len
 rw [shape_Size d (by rw [h.eq, ci_len]; omega), if_pos h.err, h.eq, ci_nat]
theorem Shp.of {d : List Int} (h : shErr d = 0) : ∃ dn, Shp d dn := let ⟨dn, h1, h2, h3, h4⟩ := shErr0 h; ⟨dn, h1, h2, h3, h4⟩
theorem eq_loop {α : Type} {a b : List α} (P : α → α → Bool) (hP : ∀ x y, P x y = true ↔ x = y) (ha : a.length < 4611686018427387904) (hl : a.length = b.length) (m : Nat → Int → Option Bool)
  (hm : ∀ f i x y, lat a i = some x → lat b i = some y → i < (a.length : Int) → m (f + 1) i = if (!P x y) = true then some false else m f (wi64 (i + 1)))
  (hz : ∀ f, m (f + 1) (a.length : Int) = some true) (hd : Decidable (a = b)) : m fu 0 = some (decide (a = b)) := by
 refine loop_eq (L := fun f (_ : Unit) i => m f i) (n := a.length) ha (fun i _ => a.take i = b.take i) ?_ ?_ () (by simp)
 ·rintro f i - hi hI
  obtain ⟨x, hx⟩ := at_some hi
  obtain ⟨y, hy⟩ := at_some (l := b) (i := i) (by omega)
  rw [hm f _ x y (lat_at hx) (lat_at hy) (by omega)]
  by_cases h : x = y
  ·left
   rw [if_neg (by simp [(hP x y).2 h])]
   exact ⟨(), by rw [take_succ' hx, take_succ' hy, hI, h], by rw [wis (by omega)]⟩
  ·right
   have : P x y = false := by cases hc : P x y; rfl; exact absurd ((hP x y).1 hc) h
   rw [if_pos (by simp [this]), decide_eq_false]
   intro e; subst e; rw [hx] at hy; exact h (Option.some.inj hy)
 ·rintro f - hI
  rw [hz, decide_eq_true]
  rw [List.take_length, hl, List.take_length] at hI; exact hI
theorem base_Ints (a b : List Int) (ha : a.length < 4611686018427387904) : m_base_Ints a b = some (decide (a = b)) := by
 unfold m_base_Ints
 by_cases hl : a.length = b.length
 ·rw [if_neg (by simp [hl])]
  refine eq_loop (fun x y => decide (x = y)) (by simp) ha hl (m_base_Ints_l1 a b) (fun f i x y hx hy hi => ?_) (fun f => ?_) _
  ·rw [m_base_Ints_l1, hx, hy, if_pos (by simpa using hi)]; rfl
  ·rw [m_base_Ints_l1, if_neg (by simp)]
 ·rw [if_pos (by simpa using fun h => hl (by omega)), decide_eq_false fun e => hl (by rw [e])]
theorem val_eq (x y : GVal) : ((decide (x.N = y.N)) && (decide (x.D = y.D))) = true ↔ x = y := by
 cases x; cases y; simp
theorem base_Vals (a b : List GVal) (ha : a.length < 4611686018427387904) : m_base_Vals a b = some (decide (a = b)) := by
 unfold m_base_Vals
 by_cases hl : a.length = b.length
 ·rw [if_neg (by simp [hl])]
  refine eq_loop (fun x y => (decide (x.N = y.N)) && (decide (x.D = y.D))) val_eq ha hl (m_base_Vals_l1 a b) (fun f i x y hx hy hi => ?_) (fun f => ?_) _
  ·rw [m_base_Vals_l1, hx, hy, if_pos (by simpa using hi)]; rfl
  ·rw [m_base_Vals_l1, if_neg (by simp)]
 ·rw [if_pos (by simpa using fun h => hl (by omega)), decide_eq_false fun e => hl (by rw [e])]
def tyE (a b : GType) : Bool := (decide (a.Kind = b.Kind)) && (decide (a.Bits = b.Bits)) && (decide (a.Frac = b.Frac)) && (decide (a.Round = b.Round)) && (decide (a.Over = b.Over))
theorem tyE_iff (a b : GType) : tyE a b = true ↔ a = b := by
 cases a; cases b; simp [tyE, and_assoc]
theorem tyE_dec (a b : GType) : tyE a b = decide (a = b) := by
 cases h : tyE a b
 ·rw [decide_eq_false]; intro e; rw [(tyE_iff a b).2 e] at h; cases h
 ·rw [decide_eq_true ((tyE_iff a b).1 h)]
theorem base_Tensor (a b : GTensor) (h1 : a.Dims.length < 4611686018427387904) (h2 : a.Vals.length < 4611686018427387904) : m_base_Tensor a b = some (decide (a = b)) := by
 unfold m_base_Tensor
 rw [show ((decide (a.Type_.Kind = b.Type_.Kind)) && (decide (a.Type_.Bits = b.Type_.Bits)) && (decide (a.Type_.Frac = b.Type_.Frac)) && (decide (a.Type_.Round = b.Type_.Round)) && (decide (a.Type_.Over = b.Type_.Over))) = tyE a.Type_ b.Type_ from rfl, tyE_dec, base_Ints _ _ h1, base_Vals _ _ h2]
 cases a; cases b
 simp only [GTensor.mk.injEq]
 rename_i t1 d1 v1 t2 d2 v2
 by_cases e1 : t1 = t2 <;> by_cases e2 : d1 = d2 <;> by_cases e3 : v1 = v2 <;> simp [gd, e1, e2, e3]
end Go.Proofs.YtlakfanockhngaaGreatDoor
