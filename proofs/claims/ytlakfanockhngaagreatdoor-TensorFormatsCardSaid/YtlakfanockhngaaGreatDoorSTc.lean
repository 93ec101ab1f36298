/- Offsets, points, the validity of a tensor: program and reference. Conditions: stated with each lemma. -/
import Derived.Test.YtlakfanockhngaaGreatDoorSTb
namespace Go.Proofs.YtlakfanockhngaaGreatDoor
open Go Go.RowKit Go.Vc
set_option linter.unusedVariables false
set_option linter.unusedSimpArgs false

/-! ### Offsets -/
theorem Bd.take {d p : List Nat} (h : Bd d p) (i : Nat) : Bd (d.take i) (p.take i) := by
  induction d generalizing p i with
  | nil => cases p with | nil => simpa using h | cons => exact h.elim
  | cons x d ih => cases p with
    | nil => exact h.elim
    | cons q p => cases i with
      | zero => trivial
      | succ i => exact ⟨h.1, ih h.2 i⟩
/-- Is the point within? -/
def inB (d p : List Int) : Bool := decide (p.length = d.length) && (List.zip d p).all fun x => decide (0 ≤ x.2 ∧ x.2 < x.1)
/-! ### Points -/
/-! ### Valid tensors -/
structure TeR (t : GTensor) : Prop where
  ty : TyR t.Type_
  vals : ∀ v ∈ t.Vals, VaR v
/-- The error of a tensor. -/
def teErr (t : GTensor) : Int :=
  if tyB t.Type_ = true then (if shErr t.Dims = 0 then (if t.Vals.length = prd (t.Dims.map Int.toNat) ∧ t.Vals.all (fun v => okV t.Type_ v) = true then 0 else 1) else shErr t.Dims) else 10
/-- A valid tensor. -/
structure Ten (t : GTensor) (dn : List Nat) : Prop where
  ty : tyB t.Type_ = true
  shp : Shp t.Dims dn
  len : t.Vals.length = prd dn
  ok : ∀ v ∈ t.Vals, okV t.Type_ v = true
theorem Ten.of {t : GTensor} (h : teErr t = 0) : ∃ dn, Ten t dn := by
  unfold teErr at h
  split at h
  · rename_i h1
    split at h
    · rename_i h2
      split at h
      · rename_i h3
        obtain ⟨dn, hs⟩ := Shp.of h2
        have h4 := h3.1
        rw [hs.eq, ci_nat] at h4
        exact ⟨dn, h1, hs, h4, fun v hv => List.all_eq_true.1 h3.2 v hv⟩
      · cases h
    · contradiction
  · cases h
theorem Ten.err {t : GTensor} {dn : List Nat} (h : Ten t dn) : teErr t = 0 := by
  unfold teErr
  rw [if_pos h.ty, if_pos h.shp.err, if_pos ⟨by rw [h.shp.eq, ci_nat]; exact h.len, List.all_eq_true.2 h.ok⟩]
theorem val_loop {t : GTensor} (hv : ∀ v ∈ t.Vals, VaR v) (hl : t.Vals.length < 4611686018427387904) (m : Nat → Int → Option Int)
    (hm : ∀ f i v, lat t.Vals i = some v → v ∈ t.Vals → i < (t.Vals.length : Int) → m (f + 1) i = if (!okV t.Type_ v) = true then some 1 else m f (wi64 (i + 1)))
    (hz : ∀ f, m (f + 1) (t.Vals.length : Int) = some 0) : m fu 0 = some (if t.Vals.all (fun v => okV t.Type_ v) = true then 0 else 1) := by
  refine loop_eq (L := fun f (_ : Unit) i => m f i) (n := t.Vals.length) hl (fun i _ => ∀ v ∈ t.Vals.take i, okV t.Type_ v = true) ?_ ?_ () (by simp)
  · rintro f i - hi hI
    obtain ⟨v, hv'⟩ := at_some hi
    rw [hm f _ v (lat_at hv') (List.mem_of_getElem? hv') (by omega)]
    cases ho : okV t.Type_ v
    · right
      rw [if_pos (by rfl), if_neg]
      intro ha
      have := List.all_eq_true.1 ha v (List.mem_of_getElem? hv')
      rw [ho] at this; cases this
    · left
      refine ⟨(), fun y hy => ?_, by rw [if_neg (by simp), wis (by omega)]⟩
      rw [take_succ' hv'] at hy
      rcases List.mem_append.1 hy with h | h
      · exact hI y h
      · rw [List.mem_singleton.1 h]; exact ho
  · rintro f - hI
    rw [List.take_length] at hI
    rw [hz, if_pos (List.all_eq_true.2 hI)]
theorem tensor_Validate {t : GTensor} (hr : TeR t) (h1 : t.Dims.length < 4611686018427387904) (h2 : t.Vals.length < 4611686018427387904) : m_tensor_Validate t = some (teErr t) := by
  unfold m_tensor_Validate teErr
  rw [value_ValidateType, Option.bind_some]
  cases ht : tyB t.Type_
  · simp
  simp only [if_true, decide_true, Bool.not_true, Bool.false_eq_true, if_false]
  rw [shape_Validate _ h1, Option.bind_some]
  by_cases hs : shErr t.Dims = 0
  · obtain ⟨dn, hS⟩ := Shp.of hs
    rw [if_neg (by simp [hs]), if_pos hs, hS.size, Option.bind_some, hS.eq, ci_nat]
    by_cases hl : t.Vals.length = prd dn
    · rw [if_neg (by simp [hl]), val_loop hr.vals h2 (m_tensor_Validate_l1 t) (fun f i v hi hm hlt => ?_) (fun f => ?_)]
      · by_cases ha : t.Vals.all (fun v => okV t.Type_ v) = true
        · rw [if_pos ha, if_pos ⟨hl, ha⟩]
        · rw [if_neg ha, if_neg fun h => ha h.2]
      · rw [m_tensor_Validate_l1, hi, if_pos (by simpa using hlt), Option.bind_some, value_Valid (hr.vals v hm), ht]; rfl
      · rw [m_tensor_Validate_l1, if_neg (by simp)]
    · rw [if_pos (by simpa using fun h => hl (by omega)), if_neg fun h => hl h.1]
  · rw [if_pos (by simp [hs]), if_neg hs]
theorem ref12_Validate {t : GTensor} (hr : TeR t) (h1 : t.Dims.length < 4611686018427387904) (h2 : t.Vals.length < 4611686018427387904) : m_ref12_Validate t = some (teErr t) := by
  unfold m_ref12_Validate teErr
  rw [base_Type, Option.bind_some]
  cases ht : tyB t.Type_
  · simp
  simp only [if_true, decide_true, Bool.not_true, Bool.false_eq_true, if_false]
  rw [ref12_Shape _ h1, Option.bind_some]
  by_cases hs : shErr t.Dims = 0
  · obtain ⟨dn, hS⟩ := Shp.of hs
    have hb := hS.le; have hlen := hS.len
    rw [if_neg (by simp [hs]), if_pos hs, hS.eq, ref12_Size hS.pos (by omega) (by omega), Option.bind_some, ci_nat]
    by_cases hl : t.Vals.length = prd dn
    · rw [if_neg (by simp [hl]), val_loop hr.vals h2 (m_ref12_Validate_l1 t) (fun f i v hi hm hlt => ?_) (fun f => ?_)]
      · by_cases ha : t.Vals.all (fun v => okV t.Type_ v) = true
        · rw [if_pos ha, if_pos ⟨hl, ha⟩]
        · rw [if_neg ha, if_neg fun h => ha h.2]
      · rw [m_ref12_Validate_l1, hi, if_pos (by simpa using hlt), Option.bind_some, base_Val ht (hr.vals v hm)]; rfl
      · rw [m_ref12_Validate_l1, if_neg (by simp)]
    · rw [if_pos (by simpa using fun h => hl (by omega)), if_neg fun h => hl h.1]
  · rw [if_pos (by simp [hs]), if_neg hs]
end Go.Proofs.YtlakfanockhngaaGreatDoor
