/- The text of a tensor, equal tensors: the law TensorFormats. Conditions: the ranges of Go's types. -/
import Derived.Test.YtlakfanockhngaaGreatDoorSUe
namespace Go.Proofs.YtlakfanockhngaaGreatDoor
open Go Go.RowKit Go.Vc
set_option linter.unusedVariables false
set_option linter.unusedSimpArgs false

/-- The text of an element. -/
def elT (ty : GType) (v : GVal) : List UInt8 := (m_value_Format ty v).getD []
theorem elT_ok {ty : GType} {v : GVal} (hv : VaR v) : m_value_Format ty v = some (elT ty v) ∧ m_ref04_Format ty v = some (elT ty v) ∧ (elT ty v).length ≤ 30 := by
  obtain ⟨x, e0, e1, e2⟩ := value_Format (t := ty) hv
  unfold elT
  rw [e1, e2]
  refine ⟨rfl, rfl, ?_⟩
  simp only [Option.getD_some]
  split
  · rename_i h
    simp only [Bool.and_eq_true] at h
    have hx := (e0 h.1 h.2).2
    obtain ⟨x1, x2, x3, x4, x5⟩ := frOK_bd hx
    have l1 := itoa_len (n := x.N) ⟨by omega, by omega⟩
    have l2 := itoa_len (n := x.D) ⟨by omega, by omega⟩
    unfold fmtS
    rw [if_pos hx]
    split
    · omega
    · simp; omega
  · simp
/-- The text of the elements of a box. -/
def fmtT (ty : GType) : List Nat → List GVal → List UInt8
  | [], v => elT ty ((v[0]?).getD ⟨0, 0⟩)
  | n :: d, v => (91 :: ((List.range n).flatMap fun k => (if 0 < k then [44, 32] else []) ++ fmtT ty d ((v.drop (k * prd d)).take (prd d)))) ++ [93]
def rowsT (ty : GType) (d : List Nat) (v : List GVal) (i : Nat) : List UInt8 := (List.range i).flatMap fun k => (if 0 < k then [44, 32] else []) ++ fmtT ty d ((v.drop (k * prd d)).take (prd d))
theorem rowsT_succ (ty : GType) (d : List Nat) (v : List GVal) (i : Nat) : rowsT ty d v (i + 1) = rowsT ty d v i ++ ((if 0 < i then [44, 32] else []) ++ fmtT ty d ((v.drop (i * prd d)).take (prd d))) := by
  unfold rowsT; rw [List.range_succ, List.flatMap_append]; simp
theorem VaR0 : VaR ⟨0, 0⟩ := ⟨⟨by decide, by decide⟩, ⟨by decide, by decide⟩⟩
theorem fmtT_len {ty : GType} : ∀ (d : List Nat) (v : List GVal), Pos d → (∀ x ∈ v, VaR x) → (fmtT ty d v).length ≤ prd d * (30 + 4 * d.length)
  | [], v, _, hv => by
    simp only [fmtT, prd, List.length_nil]
    rcases v with _ | ⟨x, v⟩
    · have := (elT_ok (ty := ty) VaR0).2.2; simpa using this
    · have := (elT_ok (ty := ty) (hv x (by simp))).2.2; simpa using this
  | n :: d, v, hp, hv => by
    have hpd : Pos d := fun x hx => hp x (by simp [hx])
    have hn : 1 ≤ n := hp n (by simp)
    have h1 := prd_pos hpd
    have hrow : ∀ i, (rowsT ty d v i).length ≤ i * (prd d * (30 + 4 * d.length) + 2) := fun i => by
      induction i with
      | zero => simp [rowsT]
      | succ i ih =>
        have hc := fmtT_len (ty := ty) d ((v.drop (i * prd d)).take (prd d)) hpd (fun x hx => hv x (List.mem_of_mem_drop (List.mem_of_mem_take hx)))
        rw [rowsT_succ, List.length_append, List.length_append, Nat.add_mul]
        have : (if 0 < i then ([44, 32] : List UInt8) else []).length ≤ 2 := by split <;> simp
        omega
    have h2 := hrow n
    show ((91 :: rowsT ty d v n) ++ [93]).length ≤ _
    rw [List.length_append, List.length_cons, List.length_singleton, prd, List.length_cons]
    have e : n * prd d * (30 + 4 * (d.length + 1)) = n * (prd d * (30 + 4 * d.length)) + n * prd d * 4 := by
      rw [show 30 + 4 * (d.length + 1) = (30 + 4 * d.length) + 4 by omega, Nat.mul_add, Nat.mul_assoc]
    rw [Nat.mul_add] at h2
    have h3 : n ≤ n * prd d := Nat.le_mul_of_pos_right _ h1
    omega
theorem row_small {ty : GType} {d : List Nat} {v : List GVal} {i n : Nat} (hp : Pos d) (hl : d.length ≤ 6) (hP : prd d ≤ 4096) (hi : i ≤ 4096) (hv : ∀ x ∈ v, VaR x) : (rowsT ty d v i).length ≤ 1000000000 ∧ ∀ k, (fmtT ty d ((v.drop (k * prd d)).take (prd d))).length ≤ 1000000 := by
  have hc : ∀ k, (fmtT ty d ((v.drop (k * prd d)).take (prd d))).length ≤ 4096 * 54 := fun k => by
    have := fmtT_len (ty := ty) d ((v.drop (k * prd d)).take (prd d)) hp (fun x hx => hv x (List.mem_of_mem_drop (List.mem_of_mem_take hx)))
    exact Nat.le_trans this (Nat.mul_le_mul hP (by omega))
  refine ⟨?_, fun k => by have := hc k; omega⟩
  have hrow : (rowsT ty d v i).length ≤ i * (4096 * 54 + 2) := by
    clear hi
    induction i with
    | zero => simp [rowsT]
    | succ i ih =>
      rw [rowsT_succ, List.length_append, List.length_append, Nat.add_mul]
      have : (if 0 < i then ([44, 32] : List UInt8) else []).length ≤ 2 := by split <;> simp
      have := hc i
      omega
  have := Nat.mul_le_mul_right (4096 * 54 + 2) hi
  omega
theorem lfrom_ci (n : Nat) (d : List Nat) : lfrom (ci (n :: d)) 1 = some (ci d) := by
  unfold lfrom; rw [if_pos (by rw [ci_len]; simp; omega)]; rfl
theorem tensor_format_r {ty : GType} : ∀ (d : List Nat) (k : Nat) (v : List GVal), d.length < k → Pos d → v.length = prd d → prd d ≤ 4096 → d.length ≤ 6 → (∀ x ∈ v, VaR x) → m_tensor_format_r k ty (ci d) v = some (fmtT ty d v)
  | [], k + 1, v, _, _, hl, _, _, hv => by
    simp only [m_tensor_format_r, m_tensor_format_b]
    rw [if_pos (by simp [ci])]
    rcases v with _ | ⟨x, v⟩
    · simp [prd] at hl
    · rw [show lat (x :: v) 0 = some x from rfl, Option.bind_some, (elT_ok (hv x (by simp))).1]; rfl
  | n :: d, k + 1, v, hk, hp, hl, hP, h6, hv => by
    have hpd : Pos d := fun x hx => hp x (by simp [hx])
    have hn : 1 ≤ n := hp n (by simp)
    have h1 := prd_pos hpd
    have hnP : n ≤ n * prd d := Nat.le_mul_of_pos_right _ h1
    have hdP : prd d ≤ n * prd d := Nat.le_mul_of_pos_left _ hn
    rw [prd] at hl hP
    rw [List.length_cons] at hk h6
    simp only [m_tensor_format_r, m_tensor_format_b]
    rw [if_neg (by rw [ci_len]; simp; omega), show lat (ci (n :: d)) 0 = some (n : Int) from rfl, Option.bind_some, if_pos (by omega)]
    have hpart : wi64 (Int.tdiv (v.length : Int) (n : Int)) = ((prd d : Nat) : Int) := by
      rw [← Int.ofNat_tdiv, hl, Nat.mul_div_cancel_left _ (by omega)]; exact wiN (by omega)
    rw [Option.bind_some, Option.bind_some, hpart]
    refine loop_eq (L := fun f s i => m_tensor_format_l1 (n : Int) (ci (n :: d)) v ((prd d : Nat) : Int) (m_tensor_format_r k) ty f s i) (n := n) (by omega) (fun i s => s = 91 :: rowsT ty d v i) ?_ ?_ [91] rfl
    · rintro f i s hi rfl
      left
      refine ⟨_, rfl, ?_⟩
      obtain ⟨b1, b2⟩ := row_small (ty := ty) (d := d) (v := v) (i := i) (n := n) hpd (by omega) (by omega) (by omega) hv
      have b3 := b2 i
      have hm1 : (i + 1) * prd d ≤ n * prd d := Nat.mul_le_mul_right _ hi
      have hm2 : (i + 1) * prd d = i * prd d + prd d := by rw [Nat.add_mul, Nat.one_mul]
      have hchl : ((v.drop (i * prd d)).take (prd d)).length = prd d := by rw [List.length_take, List.length_drop]; omega
      have hj : ∀ s2 : List UInt8, s2.length ≤ 1000000100 → m_tensor_format_j1 (ci (n :: d)) v (i : Int) ((prd d : Nat) : Int) (m_tensor_format_r k) ty (m_tensor_format_l1 (n : Int) (ci (n :: d)) v ((prd d : Nat) : Int) (m_tensor_format_r k) ty f) s2 = m_tensor_format_l1 (n : Int) (ci (n :: d)) v ((prd d : Nat) : Int) (m_tensor_format_r k) ty f (s2 ++ fmtT ty d ((v.drop (i * prd d)).take (prd d))) ((i + 1 : Nat) : Int) := fun s2 hs2 => by
        simp only [m_tensor_format_j1]
        rw [lfrom_ci, Option.bind_some, wis (by omega), wim (by omega), wim (by omega)]
        rw [show lsub v ((i * prd d : Nat) : Int) (((i + 1) * prd d : Nat) : Int) = some ((v.drop (i * prd d)).take (prd d)) by
          unfold lsub; rw [if_pos (by omega)]; simp only [Int.toNat_natCast]; congr 2; omega]
        rw [Option.bind_some, tensor_format_r d k _ (by omega) hpd hchl (by omega) (by omega) (fun x hx => hv x (List.mem_of_mem_drop (List.mem_of_mem_take hx))), Option.bind_some, lapp_ok (by omega), Option.bind_some]
      simp only [m_tensor_format_l1]
      rw [if_pos (lt_dec hi)]
      by_cases h0 : 0 < i
      · rw [if_pos (by simpa using h0), lapp_ok (by simp; omega), Option.bind_some, hj _ (by simp; omega), rowsT_succ, if_pos h0]
        simp
      · rw [if_neg (by simpa using h0), hj _ (by simp; omega), rowsT_succ, if_neg h0]
        simp
    · rintro f s rfl
      obtain ⟨b1, b2⟩ := row_small (ty := ty) (d := d) (v := v) (i := n) (n := n) hpd (by omega) (by omega) (by omega) hv
      simp only [m_tensor_format_l1]
      rw [if_neg (by simp), lapp_ok (by simp; omega)]; rfl
theorem chunk_in {α : Type} {v : List α} {a n P i : Nat} (hi : i < n) : ((((v.drop a).take (n * P)).drop (i * P)).take P) = (v.drop (a + i * P)).take P := by
  have h : (i + 1) * P ≤ n * P := Nat.mul_le_mul_right _ hi
  rw [Nat.add_mul, Nat.one_mul] at h
  apply List.ext_getElem?
  intro j
  simp only [List.getElem?_take, List.getElem?_drop]
  by_cases hj : j < P
  · rw [if_pos hj, if_pos hj, if_pos (by omega), Nat.add_assoc]
  · rw [if_neg hj, if_neg hj]
theorem ref12_text_r {t : GTensor} (hv : ∀ x ∈ t.Vals, VaR x) (hle : t.Vals.length ≤ 4096) : ∀ (d : List Nat) (k at_ : Nat), d.length < k → Pos d → at_ + prd d ≤ t.Vals.length → d.length ≤ 6 → m_ref12_text_r k t (ci d) (at_ : Int) = some (fmtT t.Type_ d ((t.Vals.drop at_).take (prd d)))
  | [], k + 1, at_, _, _, hl, _ => by
    simp only [m_ref12_text_r, m_ref12_text_b]
    rw [if_pos (by simp [ci])]
    rw [prd] at hl
    obtain ⟨x, hx⟩ := at_some (l := t.Vals) (i := at_) (by omega)
    rw [lat_at hx, Option.bind_some, (elT_ok (hv x (List.mem_of_getElem? hx))).2.1, Option.bind_some]
    simp only [fmtT, prd]
    rw [List.getElem?_take, if_pos (by omega), List.getElem?_drop, Nat.add_zero, hx]; rfl
  | n :: d, k + 1, at_, hk, hp, hl, h6 => by
    have hpd : Pos d := fun x hx => hp x (by simp [hx])
    have hn : 1 ≤ n := hp n (by simp)
    have h1 := prd_pos hpd
    have hnP : n ≤ n * prd d := Nat.le_mul_of_pos_right _ h1
    have hdP : prd d ≤ n * prd d := Nat.le_mul_of_pos_left _ hn
    have hpn : prd (n :: d) = n * prd d := rfl
    rw [hpn] at hl ⊢
    rw [List.length_cons] at hk h6
    have hv' : ∀ x ∈ (t.Vals.drop at_).take (n * prd d), VaR x := fun x hx => hv x (List.mem_of_mem_drop (List.mem_of_mem_take hx))
    simp only [m_ref12_text_r, m_ref12_text_b]
    rw [if_neg (by rw [ci_len]; simp; omega)]
    refine loop_eq (L := fun f s i => m_ref12_text_l1 (ci (n :: d)) (m_ref12_text_r k) t (at_ : Int) f s i) (n := n) (by omega) (fun i s => s = 91 :: rowsT t.Type_ d ((t.Vals.drop at_).take (n * prd d)) i) ?_ ?_ [91] rfl
    · rintro f i s hi rfl
      left
      refine ⟨_, rfl, ?_⟩
      obtain ⟨b1, b2⟩ := row_small (ty := t.Type_) (d := d) (v := (t.Vals.drop at_).take (n * prd d)) (i := i) (n := n) hpd (by omega) (by omega) (by omega) hv'
      have b3 := b2 i
      have hm1 : (i + 1) * prd d ≤ n * prd d := Nat.mul_le_mul_right _ hi
      have hm2 : (i + 1) * prd d = i * prd d + prd d := by rw [Nat.add_mul, Nat.one_mul]
      have hj : ∀ s2 : List UInt8, s2.length ≤ 1000000100 → m_ref12_text_j1 (ci (n :: d)) (m_ref12_text_r k) t (at_ : Int) (i : Int) (m_ref12_text_l1 (ci (n :: d)) (m_ref12_text_r k) t (at_ : Int) f) s2 = m_ref12_text_l1 (ci (n :: d)) (m_ref12_text_r k) t (at_ : Int) f (s2 ++ fmtT t.Type_ d ((((t.Vals.drop at_).take (n * prd d)).drop (i * prd d)).take (prd d))) ((i + 1 : Nat) : Int) := fun s2 hs2 => by
        simp only [m_ref12_text_j1]
        rw [lfrom_ci, Option.bind_some, Option.bind_some, ref12_Size hpd (by omega) (by omega), Option.bind_some, wim (by omega), wia (by omega)]
        rw [ref12_text_r hv hle d k _ (by omega) hpd (by omega) (by omega), Option.bind_some, ← chunk_in hi, lapp_ok (by omega), Option.bind_some, wis (by omega)]
      simp only [m_ref12_text_l1]
      rw [show lat (ci (n :: d)) 0 = some (n : Int) from rfl, Option.bind_some, if_pos (lt_dec hi)]
      by_cases h0 : 0 < i
      · rw [if_pos (by simpa using h0), lapp_ok (by simp; omega), Option.bind_some, hj _ (by simp; omega), rowsT_succ, if_pos h0]
        simp
      · rw [if_neg (by simpa using h0), hj _ (by simp; omega), rowsT_succ, if_neg h0]
        simp
    · rintro f s rfl
      obtain ⟨b1, b2⟩ := row_small (ty := t.Type_) (d := d) (v := (t.Vals.drop at_).take (n * prd d)) (i := n) (n := n) hpd (by omega) (by omega) (by omega) hv'
      simp only [m_ref12_text_l1]
      rw [show lat (ci (n :: d)) 0 = some (n : Int) from rfl, Option.bind_some, if_neg (by simp), lapp_ok (by simp; omega)]; rfl
theorem fu_big {n : Nat} (h : n ≤ 100) : n < fu := by unfold fu; omega
theorem Format_same {t : GTensor} (hr : TeR t) (h1 : t.Dims.length < 4611686018427387904) (h2 : t.Vals.length < 4611686018427387904) : ∃ s, m_tensor_Format t = some s ∧ m_ref12_Format t = some s := by
  unfold m_tensor_Format m_ref12_Format
  rw [tensor_Validate hr h1 h2, ref12_Validate hr h1 h2, Option.bind_some, Option.bind_some]
  by_cases he : teErr t = 0
  rotate_left
  · exact ⟨[], by rw [if_pos (by simp [he])], by rw [if_pos (by simp [he])]⟩
  obtain ⟨dn, ht⟩ := Ten.of he
  have hle := ht.shp.le; have hlen := ht.shp.len
  rw [if_neg (by simp [he]), if_neg (by simp [he])]
  unfold m_tensor_format m_ref12_text
  rw [ht.shp.eq, tensor_format_r dn fu t.Vals (fu_big (by omega)) ht.shp.pos ht.len hle hlen hr.vals]
  rw [show (0 : Int) = ((0 : Nat) : Int) from rfl, ref12_text_r hr.vals (by rw [ht.len]; exact hle) dn fu 0 (fu_big (by omega)) ht.shp.pos (by rw [ht.len]; omega) hlen]
  refine ⟨fmtT t.Type_ dn t.Vals, rfl, ?_⟩
  rw [List.drop_zero, ← ht.len, List.take_length]; rfl
theorem tensor_Same {a b : GTensor} (h1 : a.Dims.length < 4611686018427387904) (h2 : a.Vals.length < 4611686018427387904) : m_tensor_Same a b = some (decide (a = b)) := by
  unfold m_tensor_Same
  rw [show ((decide (a.Type_.Kind = b.Type_.Kind)) && (decide (a.Type_.Bits = b.Type_.Bits)) && (decide (a.Type_.Frac = b.Type_.Frac)) && (decide (a.Type_.Round = b.Type_.Round)) && (decide (a.Type_.Over = b.Type_.Over))) = tyE a.Type_ b.Type_ from rfl, tyE_dec, shape_Same _ _ h1]
  by_cases e1 : a.Type_ = b.Type_
  rotate_left
  · rw [decide_eq_false fun h : a = b => e1 (by rw [h])]; simp [gd, e1]
  by_cases e2 : a.Dims = b.Dims
  rotate_left
  · rw [decide_eq_false fun h : a = b => e2 (by rw [h])]; simp [gd, e1, e2]
  rw [decide_eq_true e1, decide_eq_true e2, show gd (!(!true)) (some true) = some true from rfl, Option.bind_some]
  by_cases e3 : a.Vals.length = b.Vals.length
  rotate_left
  · rw [decide_eq_false fun h : a = b => e3 (by rw [h]), if_pos (by simp; omega)]
  rw [if_neg (by simp; omega)]
  rw [eq_loop (a := a.Vals) (b := b.Vals) (fun x y => (decide (x.N = y.N)) && (decide (x.D = y.D))) val_eq h2 e3 (m_tensor_Same_l1 a b) (fun f i x y hx hy hi => by
    rw [m_tensor_Same_l1, hx, hy, if_pos (by simpa using hi)]; rfl) (fun f => by rw [m_tensor_Same_l1, if_neg (by simp)]) inferInstance]
  cases a; cases b
  simp only at e1 e2
  subst e1; subst e2
  simp
theorem law_TensorFormats (a b : GTensor) (ha : okGTensor a) (hb : okGTensor b) : m_law12_TensorFormats a b = some true := by
  unfold m_law12_TensorFormats
  rw [small12, Option.bind_some]
  by_cases hs : (a.Vals.length : Int) ≤ 500 ∧ (a.Dims.length : Int) ≤ 20
  rotate_left
  · have hf : ((decide ((a.Vals.length : Int) ≤ 500)) && (decide ((a.Dims.length : Int) ≤ 20))) = false := by simp; omega
    rw [hf]; simp [gd, ex12]
  have hf : ((decide ((a.Vals.length : Int) ≤ 500)) && (decide ((a.Dims.length : Int) ≤ 20))) = true := by simp; omega
  rw [hf, small12, show gd (!(!true)) (some ((decide ((b.Vals.length : Int) ≤ 500)) && (decide ((b.Dims.length : Int) ≤ 20)))) = some ((decide ((b.Vals.length : Int) ≤ 500)) && (decide ((b.Dims.length : Int) ≤ 20))) from rfl, Option.bind_some]
  by_cases hs2 : (b.Vals.length : Int) ≤ 500 ∧ (b.Dims.length : Int) ≤ 20
  rotate_left
  · rw [if_pos (by simp; omega), ex12]; rfl
  rw [if_neg (by simp; omega)]
  obtain ⟨s, q1, q2⟩ := Format_same (TeR.of ha) (by omega) (by omega)
  rw [q1, q2, tensor_Same (by omega) (by omega), base_Tensor _ _ (by omega) (by omega), tensor_Same (by omega) (by omega), ex12]
  simp [gd]
end Go.Proofs.YtlakfanockhngaaGreatDoor
