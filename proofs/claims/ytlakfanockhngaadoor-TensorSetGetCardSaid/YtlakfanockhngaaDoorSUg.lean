/- After Set, the element at the point is the new one: the law TensorSetGet. Conditions: the ranges of Go's types. -/
import Derived.Test.YtlakfanockhngaaDoorSUa
namespace Go.Proofs.YtlakfanockhngaaDoor
open Go Go.RowKit Go.Vc
set_option linter.unusedVariables false
set_option linter.unusedSimpArgs false

theorem loS_of {t : GTensor} {dn pn : List Nat} (ht : Ten t dn) (hb : Bd dn pn) : loS t (ci pn) = (((off dn pn : Nat) : Int), 0) := by
  unfold loS
  rw [if_pos ht.err, if_pos (by rw [ht.shp.eq, ci_len, ci_len, hb.len]), ht.shp.eq, if_pos (inB_of hb), ci_nat, ci_nat]
theorem law_TensorSetGet (t : GTensor) (v : GVal) (p : List Int) (ht : okGTensor t) (hv : okGVal v) (_ : okL (okI .i64) p) : m_law12_TensorSetGet t v p = some true := by
  unfold m_law12_TensorSetGet
  rw [small12, Option.bind_some]
  by_cases hs : ((t.Vals.length : Int) ≤ 300 ∧ (t.Dims.length : Int) ≤ 20) ∧ p.length ≤ 20
  rotate_left
  · have hb : ((!((decide ((t.Vals.length : Int) ≤ 300)) && (decide ((t.Dims.length : Int) ≤ 20)))) || (decide (20 < (p.length : Int)))) = true := by simp; omega
    rw [hb]; simp [gd, ex12]
  have hb : ((!((decide ((t.Vals.length : Int) ≤ 300)) && (decide ((t.Dims.length : Int) ≤ 20)))) || (decide (20 < (p.length : Int)))) = false := by simp; omega
  have hr := TeR.of ht
  rw [hb, ref12_Validate hr (by omega) (by omega), show gd (!false) (some (teErr t)) = some (teErr t) from rfl, Option.bind_some, Bool.false_or]
  by_cases he : teErr t = 0
  rotate_left
  · rw [if_pos (by simp [he]), ex12]; rfl
  rw [if_neg (by simp [he]), tensor_Set hr (by omega) (by omega) (by omega) (VaR.of hv), Option.bind_some]
  unfold seS
  by_cases hl : (loS t p).2 = 0
  rotate_left
  · rw [if_neg hl, if_pos (by simp [hl]), ex12]; rfl
  rw [if_pos hl]
  by_cases ho : okV t.Type_ v = true
  rotate_left
  · rw [if_neg ho, if_pos (by decide), ex12]; rfl
  rw [if_pos ho, if_neg (by simp)]
  obtain ⟨dn, pn, hten, rfl, hbd, e1⟩ := loS_in hl
  rw [e1, Int.toNat_natCast]
  have holt := off_lt hbd
  have hle := hten.shp.le
  have hlen := hten.len
  have hs' : Ten ⟨t.Type_, t.Dims, t.Vals.set (off dn pn) v⟩ dn := ⟨hten.ty, hten.shp, by simp only [List.length_set]; exact hten.len, fun x hx => by
    rcases List.mem_or_eq_of_mem_set hx with h | h
    · exact hten.ok x h
    · rw [h]; exact ho⟩
  have hrs : TeR ⟨t.Type_, t.Dims, t.Vals.set (off dn pn) v⟩ := ⟨hr.ty, fun x hx => by
    rcases List.mem_or_eq_of_mem_set hx with h | h
    · exact hr.vals x h
    · rw [h]; exact VaR.of hv⟩
  refine any_no (n := t.Vals.length) (by omega) _ (fun f i hi => ?_) (fun f => ?_)
  · have hip : i < prd dn := by omega
    have hbi := pt_bd i hten.shp.pos
    have hq : (ci (pt dn i)).length = dn.length := by rw [ci_len, pt_len]
    have h6 := hten.shp.len
    obtain ⟨x, hx⟩ := at_some hi
    have hB : atS t (ci (pt dn i)) = (x, 0) := by
      unfold atS
      rw [loS_of hten hbi, off_pt hten.shp.pos hip, if_pos rfl, Int.toNat_natCast, hx]; rfl
    have hA : atS ⟨t.Type_, t.Dims, t.Vals.set (off dn pn) v⟩ (ci (pt dn i)) = (if off dn pn = i then v else x, 0) := by
      unfold atS
      rw [loS_of hs' hbi, off_pt hten.shp.pos hip, if_pos rfl, Int.toNat_natCast]
      simp only
      by_cases e : off dn pn = i
      · rw [if_pos e, e, List.getElem?_set_self hi]; rfl
      · rw [if_neg e, List.getElem?_set_ne e, hx]; rfl
    simp only [m_law12_TensorSetGet_l1]
    rw [if_pos (lt_dec hi), ref12_Point hten.shp (by omega), Option.bind_some, tensor_At hrs (by simp only; omega) (by simp only [List.length_set]; omega) (by rw [hq]; omega), Option.bind_some, tensor_At hr (by omega) (by omega) (by rw [hq]; omega), Option.bind_some, hA, hB]
    rw [base_Ints _ _ (by rw [ci_len]; have := hbd.len; omega)]
    simp only [decide_true, Bool.not_true, Bool.or_self, Bool.not_false, gd, if_true, Option.bind_some, Bool.false_or]
    by_cases hp : ci pn = ci (pt dn i)
    · have e : off dn pn = i := by rw [ci_inj hp]; exact off_pt hten.shp.pos hip
      rw [if_pos e]
      simp [hp, wis (show i < 4611686018427387904 by omega)]
    · have e : ¬ off dn pn = i := fun e => hp (by rw [← e, pt_off hten.shp.pos hbd])
      rw [if_neg e]
      simp [hp, wis (show i < 4611686018427387904 by omega)]
  · simp only [m_law12_TensorSetGet_l1]
    rw [if_neg (by simp), ex12]; rfl
end Go.Proofs.YtlakfanockhngaaDoor
