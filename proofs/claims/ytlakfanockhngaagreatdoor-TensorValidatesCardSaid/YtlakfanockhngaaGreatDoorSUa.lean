/- Construction, reading and replacing elements of tensors: program and reference; the laws TensorConcats, TensorValidates, TensorElements. Conditions: the ranges of Go's types. -/
import Derived.Test.YtlakfanockhngaaGreatDoorSTi
namespace Go.Proofs.YtlakfanockhngaaGreatDoor
open Go Go.RowKit Go.Vc
set_option linter.unusedVariables false
set_option linter.unusedSimpArgs false

theorem ex12 : m_law12_examples = some true := by kernel_rfl
theorem TeR.of {t : GTensor} (h : okGTensor t) : TeR t := ⟨TyR.of h.1, fun v hv => VaR.of (h.2.2.1 v hv)⟩
theorem small12 (t : GTensor) (n : Int) : m_law12_Small t n = some ((decide ((t.Vals.length : Int) ≤ n)) && (decide ((t.Dims.length : Int) ≤ 20))) := rfl
theorem base_Tensor_refl {a : GTensor} (h1 : a.Dims.length < 4611686018427387904) (h2 : a.Vals.length < 4611686018427387904) : m_base_Tensor a a = some true := by
  rw [base_Tensor a a h1 h2, decide_eq_true rfl]
theorem z0_refl : m_base_Tensor z0 z0 = some true := base_Tensor_refl (by simp [z0]) (by simp [z0])

/-! ### Construction -/
def neS (t : GTensor) : GTensor × Int := if teErr t = 0 then (t, 0) else (z0, teErr t)
theorem tensor_New {ty : GType} {dims : List Int} {vals : List GVal} (hr : TeR ⟨ty, dims, vals⟩) (h1 : dims.length ≤ 4294967296) (h2 : vals.length ≤ 4294967296) : m_tensor_New ty dims vals = some (neS ⟨ty, dims, vals⟩) := by
  unfold m_tensor_New neS
  rw [lapp_nil h1, Option.bind_some, lapp_nil h2, Option.bind_some, tensor_Validate hr (by simp only; omega) (by simp only; omega), Option.bind_some]
  by_cases h : teErr ⟨ty, dims, vals⟩ = 0
  · rw [if_neg (by simp [h]), if_pos h]
  · rw [if_pos (by simp [h]), if_neg h]; rfl
theorem ref12_New {ty : GType} {dims : List Int} {vals : List GVal} (hr : TeR ⟨ty, dims, vals⟩) (h1 : dims.length ≤ 4294967296) (h2 : vals.length ≤ 4294967296) : m_ref12_New ty dims vals = some (neS ⟨ty, dims, vals⟩) := by
  unfold m_ref12_New neS
  rw [ref12_Validate hr (by simp only; omega) (by simp only; omega), Option.bind_some]
  by_cases h : teErr ⟨ty, dims, vals⟩ = 0
  · rw [if_neg (by simp [h]), if_pos h]
  · rw [if_pos (by simp [h]), if_neg h]; rfl
def fuS (ty : GType) (d : List Int) (v : GVal) : GTensor × Int :=
  if tyB ty = true then (if shErr d = 0 then (if okV ty v = true then (⟨ty, d, List.replicate (prd (d.map Int.toNat)) v⟩, 0) else (z0, 1)) else (z0, shErr d)) else (z0, 10)
theorem tensor_Full {ty : GType} {d : List Int} {v : GVal} (hv : VaR v) (hd : d.length ≤ 4294967296) : m_tensor_Full ty d v = some (fuS ty d v) := by
  unfold m_tensor_Full fuS
  rw [value_ValidateType, Option.bind_some]
  by_cases ht : tyB ty = true
  rotate_left
  · rw [if_neg ht, if_pos (by decide), if_neg ht]; rfl
  rw [if_pos ht, if_neg (by decide), if_pos ht, shape_Validate _ (by omega), Option.bind_some]
  by_cases hs : shErr d = 0
  rotate_left
  · rw [if_pos (by simp [hs]), if_neg hs]; rfl
  obtain ⟨dn, hS⟩ := Shp.of hs
  have hle := hS.le
  rw [if_neg (by simp [hs]), if_pos hs, value_Valid hv, Option.bind_some, ht, Bool.true_and]
  by_cases ho : okV ty v = true
  rotate_left
  · rw [if_pos (by simpa using ho), if_neg ho]; rfl
  rw [if_neg (by simpa using ho), if_pos ho, lapp_nil hd, Option.bind_some, hS.size, Option.bind_some]
  rw [show prd (d.map Int.toNat) = prd dn by rw [hS.eq, ci_nat]]
  refine loop_eq (L := fun f s i => m_tensor_Full_l1 (prd dn : Int) v f i s) (n := prd dn) (by omega) (fun i s => s = ⟨ty, d, List.replicate i v⟩) ?_ ?_ ⟨ty, d, []⟩ rfl
  · rintro f i s hi rfl
    left
    refine ⟨_, rfl, ?_⟩
    simp only [m_tensor_Full_l1]
    rw [if_pos (lt_dec hi), lapp_ok (by simp; omega), Option.bind_some, wis (by omega), ← List.replicate_succ']
  · rintro f s rfl
    simp only [m_tensor_Full_l1]
    rw [if_neg (by simp)]
theorem ref12_Full {ty : GType} {d : List Int} {v : GVal} (hv : VaR v) (hd : d.length ≤ 4294967296) : m_ref12_Full ty d v = some (fuS ty d v) := by
  unfold m_ref12_Full fuS
  rw [base_Type, Option.bind_some]
  by_cases ht : tyB ty = true
  rotate_left
  · rw [if_neg ht, if_pos (by simpa using ht)]; rfl
  rw [if_neg (by simpa using ht), if_pos ht, ref12_Shape _ (by omega), Option.bind_some]
  by_cases hs : shErr d = 0
  rotate_left
  · rw [if_pos (by simp [hs]), if_neg hs]; rfl
  obtain ⟨dn, hS⟩ := Shp.of hs
  have hle := hS.le
  have hlen := hS.len
  rw [if_neg (by simp [hs]), if_pos hs, base_Val ht hv, Option.bind_some]
  by_cases ho : okV ty v = true
  rotate_left
  · rw [if_pos (by simpa using ho), if_neg ho]; rfl
  rw [if_neg (by simpa using ho), if_pos ho]
  have hsz : m_ref12_Size d = some (prd dn : Int) := by rw [hS.eq]; exact ref12_Size hS.pos (by omega) (by omega)
  rw [show prd (d.map Int.toNat) = prd dn by rw [hS.eq, ci_nat]]
  refine loop_eq (L := fun f s i => m_ref12_Full_l1 d v f i s) (n := prd dn) (by omega) (fun i s => s = ⟨ty, d, List.replicate i v⟩) ?_ ?_ ⟨ty, d, []⟩ rfl
  · rintro f i s hi rfl
    left
    refine ⟨_, rfl, ?_⟩
    simp only [m_ref12_Full_l1]
    rw [hsz, Option.bind_some, if_pos (lt_dec hi), lapp_ok (by simp; omega), Option.bind_some, wis (by omega), ← List.replicate_succ']
  · rintro f s rfl
    simp only [m_ref12_Full_l1]
    rw [hsz, Option.bind_some, if_neg (by simp)]
theorem neS_refl {t : GTensor} (h1 : t.Dims.length ≤ 4294967296) (h2 : t.Vals.length ≤ 4294967296) : m_base_Tensor (neS t).1 (neS t).1 = some true := by
  unfold neS
  split
  · exact base_Tensor_refl (by simp only; omega) (by simp only; omega)
  · exact z0_refl
theorem fuS_refl (ty : GType) (d : List Int) (v : GVal) : m_base_Tensor (fuS ty d v).1 (fuS ty d v).1 = some true := by
  unfold fuS
  split
  · split
    · split
      · rename_i h _
        obtain ⟨dn, hS⟩ := Shp.of h
        have h1 := hS.le; have h2 := hS.len
        refine base_Tensor_refl ?_ ?_
        · simp only; rw [hS.eq, ci_len]; omega
        · simp only; rw [hS.eq, ci_nat, List.length_replicate]; omega
      · exact z0_refl
    · exact z0_refl
  · exact z0_refl
theorem law_TensorValidates (t : GTensor) (v : GVal) (ht : okGTensor t) (hv : okGVal v) : m_law12_TensorValidates t v = some true := by
  unfold m_law12_TensorValidates
  rw [small12, Option.bind_some]
  by_cases hs : (t.Vals.length : Int) ≤ 5000 ∧ (t.Dims.length : Int) ≤ 20
  rotate_left
  · rw [if_pos (by simp; omega), ex12]; rfl
  have hr := TeR.of ht
  have h1 : t.Dims.length ≤ 4294967296 := by omega
  have h2 : t.Vals.length ≤ 4294967296 := by omega
  rw [if_neg (by simpa using hs), tensor_New hr h1 h2, ref12_New hr h1 h2, Option.bind_some, Option.bind_some, tensor_Full (VaR.of hv) h1, ref12_Full (VaR.of hv) h1, Option.bind_some, Option.bind_some, tensor_Validate hr (by omega) (by omega), ref12_Validate hr (by omega) (by omega), Option.bind_some, Option.bind_some, neS_refl h1 h2, fuS_refl, ex12]
  simp [gd]
/-! ### Elements -/
end Go.Proofs.YtlakfanockhngaaGreatDoor
