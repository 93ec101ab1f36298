import Derived.Test.YtmhoikfoogemnaaGreatDoorSWj
import Derived.Test.YtmhoikfoogemnaaGreatDoorSYa
namespace Go.Proofs.YtmhoikfoogemnaaGreatDoor
open Go Go.RowKit Go.Vc
set_option linter.unusedVariables false
set_option linter.unusedSimpArgs false
theorem alive16 : m_law16_examples = some true := by kernel_rfl
def decEnd (s : List UInt8) : Bool := decide (s = [48]) || (decide (s ≠ []) && !decide (s.head? = some 48))
def decS (s : List UInt8) : Bool := s.all dig && decEnd s
theorem dec_j (s : List UInt8) : m_parser_decimal_j1 s = some (decEnd s) ∧ m_ref16_digits_j1 s = some (decEnd s) := by
 unfold m_parser_decimal_j1 m_ref16_digits_j1 decEnd
 cases s with
 | nil => exact ⟨rfl, rfl⟩
 | cons c r =>
  have h : sat (c :: r) 0 = some (c.toNat : Int) := sat_at (i := 0) rfl
  have hc : decide ((c.toNat : Int) = 48) = decide (c = 48) := by
   rw [decide_eq_decide]
   exact ⟨fun h => UInt8.toNat_inj.1 (by simpa using (by omega : c.toNat = 48)), fun h => by rw [h]; rfl⟩
  have hl : decide ((0 : Int) < ((c :: r).length : Int)) = true := decide_eq_true (by simp only [List.length_cons]; omega)
  rw [h, hl]
  by_cases e : c :: r = [48]
  ·rw [e]; exact ⟨rfl, rfl⟩
  ·simp [gd, e, hc]
theorem dig_iff (d : UInt8) : dig d = true ↔ ¬ ((d.toNat : Int) < 48) ∧ ¬ (57 < (d.toNat : Int)) := by
 unfold dig; simp only [Bool.and_eq_true, decide_eq_true_eq]; omega
theorem parser_decimal (s : List UInt8) (hl : s.length < 4611686018427387904) : m_parser_decimal s = some (decS s) := by
 refine loop_eq (L := fun f (_ : Unit) i => m_parser_decimal_l1 s f i) (n := s.length) hl (fun i _ => (s.take i).all dig = true) (fun f i _ hi hI => ?_) (fun f _ hI => ?_) () (by simp)
 ·obtain ⟨d, hd⟩ := at_some hi
  simp only [m_parser_decimal_l1]
  rw [if_pos (lt_dec hi), sat_at hd, Option.bind_some]
  by_cases h : dig d = true
  ·left
   obtain ⟨h1, h2⟩ := (dig_iff d).1 h
   refine ⟨(), by rw [take_succ' hd, List.all_append, hI]; simp [h], ?_⟩
   simp only [gd, h1, h2, decide_false, Bool.not_false, if_true, Option.bind_some, Bool.or_false, Bool.false_eq_true, if_false, wis (show i < 4611686018427387904 by omega)]
  ·right
   have hn : decS s = false := by
    unfold decS; rw [Bool.eq_false_iff]; intro h'
    exact h (List.all_eq_true.1 (Bool.and_eq_true _ _ ▸ h').1 d (List.mem_of_getElem? hd))
   rw [hn]
   by_cases h1 : (d.toNat : Int) < 48
   ·simp [gd, h1]
   ·have h2 : 57 < (d.toNat : Int) := Classical.byContradiction fun h2 => h ((dig_iff d).2 ⟨h1, h2⟩)
    simp [gd, h1]; omega
 ·rw [List.take_length] at hI
  simp only [m_parser_decimal_l1]
  rw [if_neg (by simp), (dec_j s).1]; unfold decS; rw [hI, Bool.true_and]
theorem ref_digits (s : List UInt8) (hl : s.length < 4611686018427387904) : m_ref16_digits s = some (decS s) := by
 refine loop_eq (L := fun f (_ : Unit) i => m_ref16_digits_l1 s f i) (n := s.length) hl (fun i _ => (s.take i).all dig = true) (fun f i _ hi hI => ?_) (fun f _ hI => ?_) () (by simp)
 ·obtain ⟨d, hd⟩ := at_some hi
  simp only [m_ref16_digits_l1]
  rw [if_pos (lt_dec hi), sat_at hd, Option.bind_some]
  by_cases h : dig d = true
  ·left
   obtain ⟨h1, h2⟩ := (dig_iff d).1 h
   refine ⟨(), by rw [take_succ' hd, List.all_append, hI]; simp [h], ?_⟩
   simp only [gd, h1, h2, decide_false, Bool.not_false, if_true, Option.bind_some, Bool.or_false, Bool.false_eq_true, if_false, wis (show i < 4611686018427387904 by omega)]
  ·right
   have hn : decS s = false := by
    unfold decS; rw [Bool.eq_false_iff]; intro h'
    exact h (List.all_eq_true.1 (Bool.and_eq_true _ _ ▸ h').1 d (List.mem_of_getElem? hd))
   rw [hn]
   by_cases h1 : (d.toNat : Int) < 48
   ·simp [gd, h1]
   ·have h2 : 57 < (d.toNat : Int) := Classical.byContradiction fun h2 => h ((dig_iff d).2 ⟨h1, h2⟩)
    simp [gd, h1]; omega
 ·rw [List.take_length] at hI
  simp only [m_ref16_digits_l1]
  rw [if_neg (by simp), (dec_j s).2]; unfold decS; rw [hI, Bool.true_and]
def lim (neg : Bool) : Nat := if neg then 9223372036854775808 else 9223372036854775807
def sgv (neg : Bool) (n : Nat) : Int := if neg then -(n : Int) else n
def sgd (s : List UInt8) (neg : Bool) : Int × Bool := if dval s ≤ lim neg then (sgv neg (dval s), true) else (0, false)
theorem lim_le (neg : Bool) : lim neg ≤ 9223372036854775808 := by unfold lim; split <;> omega
theorem dval_take {s : List UInt8} (i : Nat) : dval (s.take i) ≤ dval s := by
 have e : dval s = dvalA (dval (s.take i)) (s.drop i) := by
  unfold dval dvalA; rw [← List.foldl_append, List.take_append_drop]
 rw [e]
 have h := dvalA_big (s.drop i) (dval (s.take i))
 exact Nat.le_trans (Nat.le_mul_of_pos_right _ (Nat.pow_pos (by omega))) h
theorem dval_succ {s : List UInt8} {i : Nat} {c : UInt8} (h : s[i]? = some c) : dval (s.take (i + 1)) = 10 * dval (s.take i) + (c.toNat - 48) := by
 rw [take_succ' h]; unfold dval; exact dvalA_snoc _ _ _
theorem dig_bd {c : UInt8} (h : dig c = true) : 48 ≤ c.toNat ∧ c.toNat ≤ 57 := by
 unfold dig at h; simpa using h
theorem wu8_dig {c : UInt8} (h : dig c = true) : wu8 ((c.toNat : Int) - 48) = (c.toNat : Int) - 48 := by
 have := dig_bd h
 exact wr_u8 (p := (c.toNat : Int) - 48) ⟨by omega, by omega⟩
theorem sgd_R (s : List UInt8) (neg : Bool) : R64 (sgd s neg).1 := by
 unfold sgd
 split
 ·next h => unfold sgv; unfold lim at h; cases neg <;> simp only [Bool.false_eq_true, if_false, if_true] at h ⊢ <;> exact ⟨by omega, by omega⟩
 ·exact ⟨by omega, by omega⟩
theorem parser_signed_j (neg : Bool) {n : Nat} (h : n ≤ lim neg) : m_parser_signed_j2 neg (n : Int) = some (sgv neg n, true) := by
 unfold m_parser_signed_j2 sgv
 unfold lim at h
 cases neg with
 | false =>
  simp only [Bool.false_eq_true, if_false] at h ⊢
  rw [wi ⟨by omega, by omega⟩]
 | true =>
  simp only [if_true] at h ⊢
  by_cases e : n = 9223372036854775808
  ·subst e; rfl
  ·rw [wi (p := (n : Int)) ⟨by omega, by omega⟩, wi ⟨by omega, by omega⟩]
theorem parser_signed_run (s : List UInt8) (neg : Bool) (hl : s.length < 4611686018427387904) (hd : s.all dig = true) : m_parser_signed_l1 s (lim neg : Int) neg fu 0 0 = some (sgd s neg) := by
 refine loop_eq (L := fun f (n : Int) i => m_parser_signed_l1 s (lim neg : Int) neg f n i) (n := s.length) hl (fun i n => n = (dval (s.take i) : Int) ∧ dval (s.take i) ≤ lim neg) (fun f i n hi hI => ?_) (fun f n hI => ?_) 0 (by simp [dval, dvalA])
 ·obtain ⟨c, hc⟩ := at_some hi
  obtain ⟨rfl, h2⟩ := hI
  have hdc := List.all_eq_true.1 hd c (List.mem_of_getElem? hc)
  have hb := dig_bd hdc
  have hL := lim_le neg
  have hL2 : 9223372036854775807 ≤ lim neg := by unfold lim; split <;> omega
  have e1 : wu64 ((c.toNat : Int) - 48) = (c.toNat : Int) - 48 := wu ⟨by omega, by omega⟩
  have e2 : wu64 ((lim neg : Int) - ((c.toNat : Int) - 48)) = (lim neg : Int) - ((c.toNat : Int) - 48) := wu ⟨by omega, by omega⟩
  have e3 : Int.tdiv ((lim neg : Int) - ((c.toNat : Int) - 48)) 10 = ((lim neg : Int) - ((c.toNat : Int) - 48)) / 10 := Int.tdiv_eq_ediv_of_nonneg (by omega)
  simp only [m_parser_signed_l1]
  rw [if_pos (lt_dec hi), sat_at hc, Option.bind_some, wu8_dig hdc, e1, e2, e3, wu (p := ((lim neg : Int) - ((c.toNat : Int) - 48)) / 10) ⟨by omega, by omega⟩]
  have hs := dval_succ hc
  by_cases h : ((lim neg : Int) - ((c.toNat : Int) - 48)) / 10 < (dval (s.take i) : Int)
  ·right
   rw [if_pos (by simpa using h)]
   have := dval_take (s := s) (i + 1)
   unfold sgd
   rw [if_neg (by omega)]
  ·left
   have h3 : dval (s.take (i + 1)) ≤ lim neg := by omega
   refine ⟨(dval (s.take (i + 1)) : Int), ⟨rfl, h3⟩, ?_⟩
   rw [if_neg (by simpa using h), Option.bind_some, wu (p := 10 * (dval (s.take i) : Int)) ⟨by omega, by omega⟩, wu ⟨by omega, by omega⟩, wis (show i < 4611686018427387904 by omega)]
   congr 1; omega
 ·obtain ⟨rfl, h2⟩ := hI
  rw [List.take_length] at h2 ⊢
  simp only [m_parser_signed_l1]
  rw [if_neg (by simp), parser_signed_j neg h2]
  unfold sgd; rw [if_pos h2]
theorem parser_signed (s : List UInt8) (neg : Bool) (hl : s.length < 4611686018427387904) (hd : s.all dig = true) : m_parser_signed s neg = some (sgd s neg) := by
 have h := parser_signed_run s neg hl hd
 unfold m_parser_signed m_parser_signed_j1
 cases neg with
 | false => rw [show ((lim false : Nat) : Int) = 9223372036854775807 from rfl] at h; rw [if_neg (by simp), h]
 | true => rw [show ((lim true : Nat) : Int) = 9223372036854775808 from rfl] at h; rw [if_pos rfl, h]
theorem sgv_R {neg : Bool} {n : Nat} : R64 (sgv neg n) ↔ n ≤ lim neg := by
 unfold sgv lim; cases neg <;> simp only [Bool.false_eq_true, if_false, if_true] <;> exact ⟨fun h => by have := h.1; have := h.2; omega, fun h => ⟨by omega, by omega⟩⟩
theorem ref_signed (s : List UInt8) (neg : Bool) (hl : s.length < 4611686018427387904) (hd : s.all dig = true) : m_ref16_signed s neg = some (sgd s neg) := by
 refine loop_eq (L := fun f (n : Int) i => m_ref16_signed_l1 s neg f n i) (n := s.length) hl (fun i n => n = sgv neg (dval (s.take i)) ∧ dval (s.take i) ≤ lim neg) (fun f i n hi hI => ?_) (fun f n hI => ?_) 0 (by simp [dval, dvalA, sgv])
 ·obtain ⟨c, hc⟩ := at_some hi
  obtain ⟨rfl, h2⟩ := hI
  have hdc := List.all_eq_true.1 hd c (List.mem_of_getElem? hc)
  have hb := dig_bd hdc
  have hs := dval_succ hc
  have ht := dval_take (s := s) (i + 1)
  have e1 : wi64 ((c.toNat : Int) - 48) = (c.toNat : Int) - 48 := wi ⟨by omega, by omega⟩
  have key : m_ref16_signed_l1 s neg (f + 1) (sgv neg (dval (s.take i))) (i : Int) = m_ref16_signed_j1 (sgv neg (dval (s.take i))) (m_ref16_signed_l1 s neg f) (i : Int) (sgv neg (c.toNat - 48)) := by
   simp only [m_ref16_signed_l1]
   rw [if_pos (lt_dec hi), sat_at hc, Option.bind_some, wu8_dig hdc, e1]
   cases neg with
   | false => rw [if_neg (by simp)]; congr 1; simp only [sgv, Bool.false_eq_true, if_false]; omega
   | true => rw [if_pos rfl, Option.bind_some, wi (p := -((c.toNat : Int) - 48)) ⟨by omega, by omega⟩]; congr 1; simp only [sgv, if_true]; omega
  have hd9 : R64 (sgv neg (c.toNat - 48)) := sgv_R.2 (by unfold lim; split <;> omega)
  have e10 : sgv neg (dval (s.take i)) * 10 = sgv neg (10 * dval (s.take i)) := by unfold sgv; cases neg <;> simp only [Bool.false_eq_true, if_false, if_true] <;> omega
  have esum : sgv neg (10 * dval (s.take i)) + sgv neg (c.toNat - 48) = sgv neg (dval (s.take (i + 1))) := by rw [hs]; unfold sgv; cases neg <;> simp only [Bool.false_eq_true, if_false, if_true] <;> omega
  rw [key]
  unfold m_ref16_signed_j1
  rw [base_Times (sgv_R.2 h2) ⟨by omega, by omega⟩, Option.bind_some, e10]
  by_cases c1 : 10 * dval (s.take i) ≤ lim neg
  ·rw [if_pos (sgv_R.2 c1)]
   dsimp only
   rw [base_Plus (sgv_R.2 c1) hd9, Option.bind_some, esum]
   by_cases c2 : dval (s.take (i + 1)) ≤ lim neg
   ·left
    rw [if_pos (sgv_R.2 c2)]
    exact ⟨_, ⟨rfl, c2⟩, by rw [if_neg (by simp), wis (show i < 4611686018427387904 by omega)]⟩
   ·right
    rw [if_neg (fun h => c2 (sgv_R.1 h)), if_pos (by simp)]
    unfold sgd; rw [if_neg (by omega)]
  ·right
   rw [if_neg (fun h => c1 (sgv_R.1 h))]
   dsimp only
   rw [base_Plus ⟨by omega, by omega⟩ hd9, Option.bind_some, if_pos (by simp)]
   unfold sgd; rw [if_neg (by omega)]
 ·obtain ⟨rfl, h2⟩ := hI
  rw [List.take_length] at h2 ⊢
  simp only [m_ref16_signed_l1]
  rw [if_neg (by simp)]
  unfold sgd; rw [if_pos h2]
end Go.Proofs.YtmhoikfoogemnaaGreatDoor
