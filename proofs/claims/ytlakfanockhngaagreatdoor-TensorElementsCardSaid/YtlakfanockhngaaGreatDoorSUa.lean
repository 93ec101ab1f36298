/- Construction, reading and replacing elements of tensors: program and reference; the laws TensorConcats, TensorValidates, TensorElements. Conditions: the ranges of Go's types. -/
import Derived.Test.YtlakfanockhngaaGreatDoorSTi
namespace Go.Proofs.YtlakfanockhngaaGreatDoor
open Go Go.RowKit Go.Vc
set_option linter.unusedVariables false
set_option linter.unusedSimpArgs false

theorem ex12 : m_law12_examples = some true := by kernel_rfl
theorem TeR.of {t : GTensor} (h : okGTensor t) : TeR t := ⟨TyR.of h.1, fun v hv => VaR.of (h.2.2.1 v hv)⟩
theorem small12 (t : GTensor) (n : Int) : m_law12_Small t n = some ((decide ((t.Vals.length : Int) ≤ n)) && (decide ((t.Dims.length : Int) ≤ 20))) := rfl
theorem base_Tensor_refl {a : GTensor} (h1 : a.Dims.length < 4611686018427387904) (h2 : a.Vals.length < 4611686018427387904) : m_base_Tensor a a = some true := by
  rw [base_Tensor a a h1 h2, decide_eq_true rfl]
theorem z0_refl : m_base_Tensor z0 z0 = some true := base_Tensor_refl (by simp [z0]) (by simp [z0])

/-! ### Construction -/
/-! ### Elements -/
/-- The place of an element. -/
def loS (t : GTensor) (p : List Int) : Int × Int :=
  if teErr t = 0 then (if p.length = t.Dims.length then (if inB t.Dims p = true then (((off (t.Dims.map Int.toNat) (p.map Int.toNat) : Nat) : Int), 0) else (0, 12)) else (0, 11)) else (0, teErr t)
theorem tensor_locate {t : GTensor} (hr : TeR t) (h1 : t.Dims.length < 4611686018427387904) (h2 : t.Vals.length < 4611686018427387904) {p : List Int} (hp : p.length < 4611686018427387904) : m_tensor_locate t p = some (loS t p) := by
  unfold m_tensor_locate loS
  rw [tensor_Validate hr h1 h2, Option.bind_some]
  by_cases he : teErr t = 0
  rotate_left
  · rw [if_pos (by simp [he]), if_neg he]
  obtain ⟨dn, ht⟩ := Ten.of he
  rw [if_neg (by simp [he]), if_pos he]
  by_cases hl : p.length = t.Dims.length
  rotate_left
  · rw [if_pos (by simpa using fun h => hl (by omega)), if_neg hl]
  rw [if_neg (by simp [hl]), if_pos hl]
  rcases shape_Offset ht.shp hp with ⟨a, b⟩ | ⟨pn, rfl, hb, hin, ho⟩
  · rw [b, a]; rfl
  · rw [ho, hin, ht.shp.eq, ci_nat, ci_nat]; rfl
theorem ref12_index {t : GTensor} (hr : TeR t) (h1 : t.Dims.length < 4611686018427387904) (h2 : t.Vals.length < 4611686018427387904) {p : List Int} (hp : p.length < 4611686018427387904) : m_ref12_index t p = some (loS t p) := by
  unfold m_ref12_index loS
  rw [ref12_Validate hr h1 h2, Option.bind_some]
  by_cases he : teErr t = 0
  rotate_left
  · rw [if_pos (by simp [he]), if_neg he]
  obtain ⟨dn, ht⟩ := Ten.of he
  have hlen := ht.shp.len
  rw [if_neg (by simp [he]), if_pos he]
  by_cases hl : p.length = t.Dims.length
  rotate_left
  · rw [if_pos (by simpa using fun h => hl (by omega)), if_neg hl]
  rw [if_neg (by simp [hl]), if_pos hl]
  have hd := ht.shp.eq
  have hpl : p.length = dn.length := by rw [hl, hd, ci_len]
  by_cases hin : inB t.Dims p = true
  · rw [if_pos hin]
    rw [hd] at hin
    obtain ⟨pn, rfl, hb⟩ := inB_ci hin
    refine any_no (n := dn.length) (by omega) _ (fun f i hi => ?_) (fun f => ?_)
    · obtain ⟨x, hx⟩ := at_some hi
      obtain ⟨q, hq, hlt⟩ := hb.at_ hx
      simp only [m_ref12_index_l1]
      rw [hpl, if_pos (lt_dec hi), ci_at hq, Option.bind_some, hd, ci_at hx]
      rw [show decide ((q : Int) < 0) = false by simp]
      simp only [gd, Bool.not_false, if_true, Option.bind_some, Bool.false_or]
      rw [if_neg (by simp; omega), wis (by omega)]
    · simp only [m_ref12_index_l1]
      rw [hpl, if_neg (by simp), ref12_Offset ht.shp hb, Option.bind_some, hd, ci_nat, ci_nat]
  · rw [if_neg hin]
    refine loop_eq (L := fun f (_ : Unit) i => m_ref12_index_l1 p t f i) (n := p.length) hp (fun i _ => ∃ pn, p.take i = ci pn ∧ Bd (dn.take i) pn) ?_ ?_ () ⟨[], by simp [ci], trivial⟩
    · rintro f i - hi ⟨pn, e1, e2⟩
      obtain ⟨x, hx⟩ := at_some (l := dn) (i := i) (by omega)
      obtain ⟨q, hq⟩ := at_some (l := p) (i := i) (by omega)
      simp only [m_ref12_index_l1]
      rw [if_pos (lt_dec hi), lat_at hq, Option.bind_some, hd, ci_at hx]
      by_cases hc : 0 ≤ q ∧ q < x
      · left
        rw [show decide (q < 0) = false by simp; omega]
        simp only [gd, Bool.not_false, if_true, Option.bind_some, Bool.false_or]
        rw [if_neg (by simp; omega), wis (by omega)]
        obtain ⟨qn, rfl⟩ := Int.eq_ofNat_of_zero_le hc.1
        refine ⟨(), ⟨pn ++ [qn], ?_, ?_⟩, rfl⟩
        · rw [take_succ' hq, e1, ci_app]; rfl
        · rw [take_succ' hx]; exact e2.app ⟨by omega, trivial⟩
      · right
        by_cases hq0 : q < 0
        · rw [show decide (q < 0) = true by simpa using hq0]; simp [gd]
        · rw [show decide (q < 0) = false by simp; omega]
          simp only [gd, Bool.not_false, if_true, Option.bind_some, Bool.false_or]
          rw [if_pos (by simp; omega)]
    · rintro f - ⟨pn, e1, e2⟩
      exfalso
      rw [hpl, List.take_length] at e2
      rw [List.take_length] at e1
      subst e1
      rw [hd, inB_of e2] at hin; exact hin rfl
theorem loS_in {t : GTensor} {p : List Int} (h : (loS t p).2 = 0) : ∃ dn pn, Ten t dn ∧ p = ci pn ∧ Bd dn pn ∧ (loS t p).1 = ((off dn pn : Nat) : Int) := by
  unfold loS at h ⊢
  by_cases he : teErr t = 0
  rotate_left
  · rw [if_neg he] at h; exact absurd h he
  obtain ⟨dn, ht⟩ := Ten.of he
  rw [if_pos he] at h ⊢
  by_cases hl : p.length = t.Dims.length
  rotate_left
  · rw [if_neg hl] at h; cases h
  rw [if_pos hl] at h ⊢
  by_cases hin : inB t.Dims p = true
  rotate_left
  · rw [if_neg hin] at h; cases h
  rw [if_pos hin]
  rw [ht.shp.eq] at hin ⊢
  obtain ⟨pn, rfl, hb⟩ := inB_ci hin
  exact ⟨dn, pn, ht, rfl, hb, by rw [ci_nat, ci_nat]⟩
def atS (t : GTensor) (p : List Int) : GVal × Int := if (loS t p).2 = 0 then ((t.Vals[(loS t p).1.toNat]?).getD ⟨0, 0⟩, 0) else (⟨0, 0⟩, (loS t p).2)
theorem lat_lo {t : GTensor} {p : List Int} (h : (loS t p).2 = 0) : lat t.Vals (loS t p).1 = some ((t.Vals[(loS t p).1.toNat]?).getD ⟨0, 0⟩) := by
  obtain ⟨dn, pn, ht, _, hb, h1⟩ := loS_in h
  rw [h1, Int.toNat_natCast]
  obtain ⟨x, hx⟩ := at_some (l := t.Vals) (i := off dn pn) (by rw [ht.len]; exact off_lt hb)
  rw [lat_at hx, hx]; rfl
theorem tensor_At {t : GTensor} (hr : TeR t) (h1 : t.Dims.length < 4611686018427387904) (h2 : t.Vals.length < 4611686018427387904) {p : List Int} (hp : p.length < 4611686018427387904) : m_tensor_At t p = some (atS t p) := by
  unfold m_tensor_At atS
  rw [tensor_locate hr h1 h2 hp, Option.bind_some]
  by_cases h : (loS t p).2 = 0
  · rw [if_neg (by simp [h]), if_pos h, lat_lo h]; rfl
  · rw [if_pos (by simp [h]), if_neg h]
theorem ref12_At {t : GTensor} (hr : TeR t) (h1 : t.Dims.length < 4611686018427387904) (h2 : t.Vals.length < 4611686018427387904) {p : List Int} (hp : p.length < 4611686018427387904) : m_ref12_At t p = some (atS t p) := by
  unfold m_ref12_At atS
  rw [ref12_index hr h1 h2 hp, Option.bind_some]
  by_cases h : (loS t p).2 = 0
  · rw [if_neg (by simp [h]), if_pos h, lat_lo h]; rfl
  · rw [if_pos (by simp [h]), if_neg h]
def seS (t : GTensor) (v : GVal) (p : List Int) : GTensor × Int :=
  if (loS t p).2 = 0 then (if okV t.Type_ v = true then (⟨t.Type_, t.Dims, t.Vals.set (loS t p).1.toNat v⟩, 0) else (z0, 1)) else (z0, (loS t p).2)
theorem clone_o {t : GTensor} (h1 : t.Dims.length ≤ 4294967296) (h2 : t.Vals.length ≤ 4294967296) : m_tensor_clone_o t = some t := by
  unfold m_tensor_clone_o
  rw [lapp_nil h1, Option.bind_some, lapp_nil h2]; rfl
theorem tensor_Set {t : GTensor} (hr : TeR t) (h1 : t.Dims.length ≤ 4294967296) (h2 : t.Vals.length ≤ 4294967296) {p : List Int} (hp : p.length < 4611686018427387904) {v : GVal} (hv : VaR v) : m_tensor_Set t v p = some (seS t v p) := by
  unfold m_tensor_Set seS
  rw [tensor_locate hr (by omega) (by omega) hp, Option.bind_some]
  by_cases h : (loS t p).2 = 0
  rotate_left
  · rw [if_pos (by simp [h]), if_neg h]; rfl
  obtain ⟨dn, pn, ht, _, hb, e1⟩ := loS_in h
  have hlt := off_lt hb
  rw [if_neg (by simp [h]), if_pos h, value_Valid hv, Option.bind_some, ht.ty, Bool.true_and]
  by_cases ho : okV t.Type_ v = true
  rotate_left
  · rw [if_pos (by simpa using ho), if_neg ho]; rfl
  rw [if_neg (by simpa using ho), if_pos ho, clone_o h1 h2, Option.bind_some, if_pos (by rw [e1, ht.len]; omega)]
theorem ref12_Set {t : GTensor} (hr : TeR t) (h1 : t.Dims.length ≤ 4294967296) (h2 : t.Vals.length ≤ 4294967296) {p : List Int} (hp : p.length < 4611686018427387904) {v : GVal} (hv : VaR v) : m_ref12_Set t v p = some (seS t v p) := by
  unfold m_ref12_Set seS
  rw [ref12_index hr (by omega) (by omega) hp, Option.bind_some]
  by_cases h : (loS t p).2 = 0
  rotate_left
  · rw [if_pos (by simp [h]), if_neg h]; rfl
  obtain ⟨dn, pn, ht, _, hb, e1⟩ := loS_in h
  have hlt := off_lt hb
  rw [if_neg (by simp [h]), if_pos h, base_Val ht.ty hv, Option.bind_some]
  by_cases ho : okV t.Type_ v = true
  rotate_left
  · rw [if_pos (by simpa using ho), if_neg ho]; rfl
  rw [if_neg (by simpa using ho), if_pos ho, e1, Int.toNat_natCast]
  refine loop_eq (L := fun f s i => m_ref12_Set_l1 t (loS t p) v f i s) (n := t.Vals.length) (by omega) (fun i s => s = ⟨t.Type_, t.Dims, (t.Vals.set (off dn pn) v).take i⟩) ?_ ?_ ⟨t.Type_, t.Dims, []⟩ (by simp)
  · rintro f i s hi rfl
    obtain ⟨x, hx⟩ := at_some hi
    left
    refine ⟨_, rfl, ?_⟩
    simp only [m_ref12_Set_l1]
    rw [if_pos (lt_dec hi), e1]
    by_cases hc : i = off dn pn
    · rw [if_pos (by simp [hc]), lapp_ok (by simp; omega), Option.bind_some, m_ref12_Set_j1, wis (by omega), take_succ' (x := v) (by rw [← hc]; simp [hi])]
    · rw [if_neg (by simpa using fun h => hc (by omega)), lat_at hx, Option.bind_some, lapp_ok (by simp; omega), Option.bind_some, m_ref12_Set_j1, wis (by omega), take_succ' (x := x) (by rw [List.getElem?_set_ne (fun h => hc h.symm)]; exact hx)]
  · rintro f s rfl
    simp only [m_ref12_Set_l1]
    rw [if_neg (by simp), List.take_of_length_le (by simp)]
theorem seS_refl {t : GTensor} (h1 : t.Dims.length ≤ 4294967296) (h2 : t.Vals.length ≤ 4294967296) (v : GVal) (p : List Int) : m_base_Tensor (seS t v p).1 (seS t v p).1 = some true := by
  unfold seS
  split
  · split
    · exact base_Tensor_refl (by simp only; omega) (by simp only [List.length_set]; omega)
    · exact z0_refl
  · exact z0_refl
theorem law_TensorElements (t : GTensor) (v : GVal) (p : List Int) (ht : okGTensor t) (hv : okGVal v) (_ : okL (okI .i64) p) : m_law12_TensorElements t v p = some true := by
  unfold m_law12_TensorElements
  rw [small12, Option.bind_some]
  by_cases hs : ((t.Vals.length : Int) ≤ 5000 ∧ (t.Dims.length : Int) ≤ 20) ∧ p.length ≤ 20
  rotate_left
  · rw [if_pos (by simp; omega), ex12]; rfl
  have hr := TeR.of ht
  have h1 : t.Dims.length ≤ 4294967296 := by omega
  have h2 : t.Vals.length ≤ 4294967296 := by omega
  rw [if_neg (by simp; omega), tensor_At hr (by omega) (by omega) (by omega), ref12_At hr (by omega) (by omega) (by omega), Option.bind_some, Option.bind_some, tensor_Set hr h1 h2 (by omega) (VaR.of hv), ref12_Set hr h1 h2 (by omega) (VaR.of hv), Option.bind_some, Option.bind_some, seS_refl h1 h2, ex12]
  simp [gd]
end Go.Proofs.YtlakfanockhngaaGreatDoor
