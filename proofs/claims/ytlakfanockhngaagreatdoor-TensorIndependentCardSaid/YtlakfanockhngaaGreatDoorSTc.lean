import Derived.Test.YtlakfanockhngaaGreatDoorSTb
namespace Go.Proofs.YtlakfanockhngaaGreatDoor
open Go Go.RowKit Go.Vc
set_option linter.unusedVariables false
set_option linter.unusedSimpArgs false
theorem off_take_succ {d p : List Nat} {i x q : Nat} (hx : d[i]? = some x) (hq : p[i]? = some q) : off (d.take (i + 1)) (p.take (i + 1)) = off (d.take i) (p.take i) * x + q := by
 have h1 := (List.getElem?_eq_some_iff.1 hx).1
 have h2 := (List.getElem?_eq_some_iff.1 hq).1
 rw [take_succ' hx, take_succ' hq, off_app (by rw [List.length_take, List.length_take]; omega)]
 simp [off, prd]
theorem Bd.take {d p : List Nat} (h : Bd d p) (i : Nat) : Bd (d.take i) (p.take i) := by
 induction d generalizing p i with
 | nil => cases p with | nil => simpa using h | cons => exact h.elim
 | cons x d ih => cases p with
  | nil => exact h.elim
  | cons q p => cases i with
   | zero => trivial
   | succ i => exact ⟨h.1, ih h.2 i⟩
def inB (d p : List Int) : Bool := decide (p.length = d.length) && (List.zip d p).all fun x => decide (0 ≤ x.2 ∧ x.2 < x.1)
theorem inB_ci {dn : List Nat} {p : List Int} (h : inB (ci dn) p = true) : ∃ pn, p = ci pn ∧ Bd dn pn := by
 unfold inB at h
 simp only [Bool.and_eq_true, decide_eq_true_eq, ci_len] at h
 obtain ⟨h1, h2⟩ := h
 induction dn generalizing p with
 | nil => cases p with | nil => exact ⟨[], rfl, trivial⟩ | cons => simp at h1
 | cons x d ih => cases p with
  | nil => simp at h1
  | cons q p =>
   simp only [ci, List.map_cons, List.zip_cons_cons, List.all_cons, Bool.and_eq_true, decide_eq_true_eq] at h2
   obtain ⟨pn, rfl, hp⟩ := ih (p := p) (by simpa using h1) h2.2
   refine ⟨q.toNat :: pn, ?_, by omega, hp⟩
   simp only [ci, List.map_cons, List.cons.injEq, and_true]; omega
theorem inB_of {dn pn : List Nat} (h : Bd dn pn) : inB (ci dn) (ci pn) = true := by
 unfold inB
 simp only [Bool.and_eq_true, decide_eq_true_eq, ci_len]
 refine ⟨h.len, ?_⟩
 induction dn generalizing pn with
 | nil => cases pn with | nil => rfl | cons => exact h.elim
 | cons x d ih => cases pn with
  | nil => exact h.elim
  | cons q p =>
   simp only [ci, List.map_cons, List.zip_cons_cons, List.all_cons, Bool.and_eq_true, decide_eq_true_eq]
   exact ⟨⟨by omega, by have := h.1; omega⟩, ih h.2⟩
theorem prd_small {dn : List Nat} {d : List Int} (h : Shp d dn) (i : Nat) : prd (dn.take i) ≤ 4096 := Nat.le_trans (prd_take_le h.pos i) h.le
theorem off_step {dn pn : List Nat} {d : List Int} (h : Shp d dn) (hb : Bd dn pn) {i x q : Nat} (hx : dn[i]? = some x) (hq : pn[i]? = some q) :
  wi64 ((wi64 (((off (dn.take i) (pn.take i) : Nat) : Int) * (x : Int))) + (q : Int)) = ((off (dn.take (i + 1)) (pn.take (i + 1)) : Nat) : Int) := by
 have h1 := off_lt (hb.take (i + 1))
 have h2 := prd_small h (i + 1)
 rw [off_take_succ hx hq] at h1 ⊢
 rw [wim (by omega), wia (by omega)]
theorem shape_Offset {d p : List Int} {dn : List Nat} (h : Shp d dn) (hpl : p.length < 4611686018427387904) :
  (inB d p = false ∧ m_shape_Offset d p = some (0, false)) ∨ ∃ pn, p = ci pn ∧ Bd dn pn ∧ inB d p = true ∧ m_shape_Offset d p = some (((off dn pn : Nat) : Int), true) := by
 have hl := h.len
 have he := h.err
 obtain rfl := h.eq
 unfold m_shape_Offset
 rw [shape_Validate _ (by rw [ci_len]; omega), he, Option.bind_some]
 by_cases hlen : p.length = dn.length
 ·rw [if_neg (by simp [ci_len, hlen])]
  cases hin : inB (ci dn) p
  ·left
   refine ⟨rfl, ?_⟩
   refine loop_eq (L := fun f s i => m_shape_Offset_l1 (ci dn) p f s i) (n := dn.length) (by omega) (fun i s => ∃ pn, p.take i = ci pn ∧ Bd (dn.take i) pn ∧ s = ((off (dn.take i) pn : Nat) : Int)) ?_ ?_ 0 ⟨[], by simp [ci], trivial, rfl⟩
   ·rintro f i s hi ⟨pn, h1, h2, rfl⟩
    obtain ⟨x, hx⟩ := at_some hi
    obtain ⟨q, hq⟩ := at_some (l := p) (i := i) (by omega)
    simp only [m_shape_Offset_l1, ci_len, ci_at hx, lat_at hq, Option.bind_some]
    rw [if_pos (lt_dec hi)]
    by_cases hc : 0 ≤ q ∧ q < x
    ·left
     rw [show gd (!(decide (q < 0))) (some q) = some q by unfold gd; rw [if_pos (by simp; omega)], Option.bind_some, if_neg (by simp; omega)]
     obtain ⟨qn, rfl⟩ := Int.eq_ofNat_of_zero_le hc.1
     have hb : Bd (dn.take (i + 1)) (pn ++ [qn]) := by
      rw [take_succ' hx]; exact h2.app ⟨by omega, trivial⟩
     have ho : off (dn.take (i + 1)) (pn ++ [qn]) = off (dn.take i) pn * x + qn := by
      rw [take_succ' hx, off_app h2.len]; simp [off, prd]
     have h3 := off_lt hb
     have h4 := prd_small h (i + 1)
     refine ⟨_, ⟨pn ++ [qn], ?_, hb, ?_⟩, by rw [wis (by omega)]⟩
     ·rw [take_succ' hq, h1, ci_app]; rfl
     ·rw [ho] at h3 ⊢; rw [wim (by omega), wia (by omega)]
    ·right
     by_cases hq0 : q < 0
     ·simp [gd, hq0]
     ·rw [show gd (!(decide (q < 0))) (some q) = some q by unfold gd; rw [if_pos (by simp; omega)], Option.bind_some, if_pos (by simp; omega)]
   ·rintro f s ⟨pn, h1, h2, rfl⟩
    exfalso
    rw [List.take_length] at h2
    rw [← hlen, List.take_length] at h1
    subst h1
    rw [inB_of h2] at hin; cases hin
  ·right
   obtain ⟨pn, rfl, hb⟩ := inB_ci hin
   refine ⟨pn, rfl, hb, rfl, ?_⟩
   refine loop_eq (L := fun f s i => m_shape_Offset_l1 (ci dn) (ci pn) f s i) (n := dn.length) (by omega) (fun i s => s = ((off (dn.take i) (pn.take i) : Nat) : Int)) ?_ ?_ 0 (by simp [off])
   ·rintro f i s hi rfl
    obtain ⟨x, hx⟩ := at_some hi
    obtain ⟨q, hq, hlt⟩ := hb.at_ hx
    left
    refine ⟨_, rfl, ?_⟩
    simp only [m_shape_Offset_l1, ci_len, ci_at hx, ci_at hq, Option.bind_some]
    rw [if_pos (lt_dec hi), show gd (!(decide ((q : Int) < 0))) (some (q : Int)) = some (q : Int) by unfold gd; rw [if_pos (by simp)], Option.bind_some, if_neg (by simp; omega), off_step h hb hx hq, wis (by omega)]
   ·rintro f s rfl
    simp only [m_shape_Offset_l1, ci_len]
    rw [if_neg (by simp), List.take_length, List.take_of_length_le (by rw [hb.len]; exact Nat.le_refl _)]
 ·left
  rw [if_pos (by simp [ci_len]; omega)]
  exact ⟨by unfold inB; rw [decide_eq_false (by rw [ci_len]; exact hlen)]; rfl, rfl⟩
structure TeR (t : GTensor) : Prop where
 ty : TyR t.Type_
 vals : ∀ v ∈ t.Vals, VaR v
def teErr (t : GTensor) : Int :=
 if tyB t.Type_ = true then (if shErr t.Dims = 0 then (if t.Vals.length = prd (t.Dims.map Int.toNat) ∧ t.Vals.all (fun v => okV t.Type_ v) = true then 0 else 1) else shErr t.Dims) else 10
structure Ten (t : GTensor) (dn : List Nat) : Prop where
 ty : tyB t.Type_ = true
 shp : Shp t.Dims dn
 len : t.Vals.length = prd dn
 ok : ∀ v ∈ t.Vals, okV t.Type_ v = true
theorem Ten.of {t : GTensor} (h : teErr t = 0) : ∃ dn, Ten t dn := by
 unfold teErr at h
 split at h
 ·rename_i h1
  split at h
  ·rename_i h2
   split at h
   ·rename_i h3
    obtain ⟨dn, hs⟩ := Shp.of h2
    have h4 := h3.1
    rw [hs.eq, ci_nat] at h4
    exact ⟨dn, h1, hs, h4, fun v hv => List.all_eq_true.1 h3.2 v hv⟩
   ·cases h
  ·contradiction
 ·cases h
theorem val_loop {t : GTensor} (hv : ∀ v ∈ t.Vals, VaR v) (hl : t.Vals.length < 4611686018427387904) (m : Nat → Int → Option Int)
  (hm : ∀ f i v, lat t.Vals i = some v → v ∈ t.Vals → i < (t.Vals.length : Int) → m (f + 1) i = if (!okV t.Type_ v) = true then some 1 else m f (wi64 (i + 1)))
  (hz : ∀ f, m (f + 1) (t.Vals.length : Int) = some 0) : m fu 0 = some (if t.Vals.all (fun v => okV t.Type_ v) = true then 0 else 1) := by
 refine loop_eq (L := fun f (_ : Unit) i => m f i) (n := t.Vals.length) hl (fun i _ => ∀ v ∈ t.Vals.take i, okV t.Type_ v = true) ?_ ?_ () (by simp)
 ·rintro f i - hi hI
  obtain ⟨v, hv'⟩ := at_some hi
  rw [hm f _ v (lat_at hv') (List.mem_of_getElem? hv') (by omega)]
  cases ho : okV t.Type_ v
  ·right
   rw [if_pos (by rfl), if_neg]
   intro ha
   have := List.all_eq_true.1 ha v (List.mem_of_getElem? hv')
   rw [ho] at this; cases this
  ·left
   refine ⟨(), fun y hy => ?_, by rw [if_neg (by simp), wis (by omega)]⟩
   rw [take_succ' hv'] at hy
   rcases List.mem_append.1 hy with h | h
   ·exact hI y h
   ·rw [List.mem_singleton.1 h]; exact ho
 ·rintro f - hI
  rw [List.take_length] at hI
  rw [hz, if_pos (List.all_eq_true.2 hI)]
theorem tensor_Validate {t : GTensor} (hr : TeR t) (h1 : t.Dims.length < 4611686018427387904) (h2 : t.Vals.length < 4611686018427387904) : m_tensor_Validate t = some (teErr t) := by
 unfold m_tensor_Validate teErr
 rw [value_ValidateType, Option.bind_some]
 cases ht : tyB t.Type_
 ·simp
 simp only [if_true, decide_true, Bool.not_true, Bool.false_eq_true, if_false]
 rw [shape_Validate _ h1, Option.bind_some]
 by_cases hs : shErr t.Dims = 0
 ·obtain ⟨dn, hS⟩ := Shp.of hs
  rw [if_neg (by simp [hs]), if_pos hs, hS.size, Option.bind_some, hS.eq, ci_nat]
  by_cases hl : t.Vals.length = prd dn
  ·rw [if_neg (by simp [hl]), val_loop hr.vals h2 (m_tensor_Validate_l1 t) (fun f i v hi hm hlt => ?_) (fun f => ?_)]
   ·by_cases ha : t.Vals.all (fun v => okV t.Type_ v) = true
    ·rw [if_pos ha, if_pos ⟨hl, ha⟩]
    ·rw [if_neg ha, if_neg fun h => ha h.2]
   ·rw [m_tensor_Validate_l1, hi, if_pos (by simpa using hlt), Option.bind_some, value_Valid (hr.vals v hm), ht]; rfl
   ·rw [m_tensor_Validate_l1, if_neg (by simp)]
  ·rw [if_pos (by simpa using fun h => hl (by omega)), if_neg fun h => hl h.1]
 ·rw [if_pos (by simp [hs]), if_neg hs]
theorem ref12_Validate {t : GTensor} (hr : TeR t) (h1 : t.Dims.length < 4611686018427387904) (h2 : t.Vals.length < 4611686018427387904) : m_ref12_Validate t = some (teErr t) := by
 unfold m_ref12_Validate teErr
 rw [base_Type, Option.bind_some]
 cases ht : tyB t.Type_
 ·simp
 simp only [if_true, decide_true, Bool.not_true, Bool.false_eq_true, if_false]
 rw [ref12_Shape _ h1, Option.bind_some]
 by_cases hs : shErr t.Dims = 0
 ·obtain ⟨dn, hS⟩ := Shp.of hs
  have hb := hS.le; have hlen := hS.len
  rw [if_neg (by simp [hs]), if_pos hs, hS.eq, ref12_Size hS.pos (by omega) (by omega), Option.bind_some, ci_nat]
  by_cases hl : t.Vals.length = prd dn
  ·rw [if_neg (by simp [hl]), val_loop hr.vals h2 (m_ref12_Validate_l1 t) (fun f i v hi hm hlt => ?_) (fun f => ?_)]
   ·by_cases ha : t.Vals.all (fun v => okV t.Type_ v) = true
    ·rw [if_pos ha, if_pos ⟨hl, ha⟩]
    ·rw [if_neg ha, if_neg fun h => ha h.2]
   ·rw [m_ref12_Validate_l1, hi, if_pos (by simpa using hlt), Option.bind_some, base_Val ht (hr.vals v hm)]; rfl
   ·rw [m_ref12_Validate_l1, if_neg (by simp)]
  ·rw [if_pos (by simpa using fun h => hl (by omega)), if_neg fun h => hl h.1]
 ·rw [if_pos (by simp [hs]), if_neg hs]
end Go.Proofs.YtlakfanockhngaaGreatDoor
