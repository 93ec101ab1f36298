/- What Parse reads; program and reference agree. Conditions: strings below 2^32 bytes. -/
import Derived.Test.YtkmenmoiagkegaaDoorFs
namespace Go.Proofs.YtkmenmoiagkegaaDoor
open Go Go.RowKit Go.Vc
set_option linter.unusedVariables false
set_option linter.unusedSimpArgs false

/-! ### Numbers -/
theorem parseM (M : Nat) (hM : M = 18446744073709551615) : ∀ (s : List UInt8) (acc : Nat), s.all dig = true → (acc + 1) * 10 ^ s.length ≤ 18446744073709551616 → Lib.parseUintM M acc s = .ok (dvalA acc s)
  | [], acc, _, _ => rfl
  | c :: s, acc, hd, hb => by
    simp only [List.all_cons, Bool.and_eq_true] at hd
    have hc := hd.1
    simp only [dig, Bool.and_eq_true, decide_eq_true_eq] at hc
    have hp : (acc + 1) * 10 ^ (c :: s).length = (acc + 1) * 10 * 10 ^ s.length := by rw [List.length_cons, Nat.pow_succ, Nat.mul_comm (10 ^ s.length) 10, ← Nat.mul_assoc]
    rw [hp] at hb
    have h1 : 1 ≤ 10 ^ s.length := Nat.one_le_pow _ _ (by omega)
    have h2 : (acc + 1) * 10 ≤ (acc + 1) * 10 * 10 ^ s.length := Nat.le_mul_of_pos_right _ h1
    unfold Lib.parseUintM
    rw [if_pos hc, if_neg (by omega), if_neg (by omega), dvalA_cons, show acc * 10 + (c.toNat - 48) = 10 * acc + (c.toNat - 48) by omega]
    refine parseM M hM s _ hd.2 (Nat.le_trans (Nat.mul_le_mul_right _ ?_) hb)
    omega
theorem dig_ne (c : UInt8) (h : dig c = true) : ¬ (c.toNat = 43 ∨ c.toNat = 45) := by
  simp only [dig, Bool.and_eq_true, decide_eq_true_eq] at h; omega
theorem parseB (s : List UInt8) (h0 : s ≠ []) (hd : s.all dig = true) (hl : s.length ≤ 10) : Lib.parseIntB 64 s = .ok (dval s : Int) := by
  have hv := dvalA_lt s 0 hd
  have hp : 10 ^ s.length ≤ 10 ^ 10 := Nat.pow_le_pow_right (by omega) hl
  have hu : Lib.parseUintB 64 s = .ok (dval s) := by
    unfold Lib.parseUintB
    rw [if_neg h0]
    exact parseM _ rfl s 0 hd (by omega)
  unfold Lib.parseIntB
  cases s with
  | nil => exact absurd rfl h0
  | cons c r =>
    simp only [List.all_cons, Bool.and_eq_true] at hd
    have hc := dig_ne c hd.1
    simp only [hc, if_false]
    rw [hu]
    have h45 : ¬ c.toNat = 45 := fun h => hc (.inr h)
    have hlt : dval (c :: r) < 2 ^ 63 := by unfold dval; omega
    simp only [h45, not_false_eq_true, true_and, false_and, if_false]
    rw [if_neg (by omega)]
theorem decB_dig {s : List UInt8} (h : decB s = true) : s.all dig = true ∧ s ≠ [] ∧ (s = [48] ∨ s.head? ≠ some 48) := by
  unfold decB at h
  simp only [Bool.and_eq_true, Bool.or_eq_true, decide_eq_true_eq, Bool.not_eq_true', decide_eq_false_iff_not] at h
  refine ⟨h.1, ?_, ?_⟩
  · rcases h.2 with h | h
    · rw [h]; simp
    · exact h.1
  · exact h.2.imp id (·.2)
/-- More than ten digits: too great. -/
theorem decB_big {s : List UInt8} (h : decB s = true) (hl : 10 < s.length) : 2147483647 < dval s := by
  obtain ⟨h1, h2, h3⟩ := decB_dig h
  cases s with
  | nil => simp at hl
  | cons c r =>
    rcases h3 with h3 | h3
    · rw [h3] at hl; simp at hl
    · simp only [List.all_cons, Bool.and_eq_true] at h1
      have hc := h1.1
      simp only [dig, Bool.and_eq_true, decide_eq_true_eq] at hc
      have hne : c.toNat ≠ 48 := fun e => h3 (by rw [List.head?_cons]; congr 1; exact UInt8.toNat_inj.1 (by simpa using e))
      unfold dval
      rw [dvalA_cons]
      have hb := dvalA_big r (10 * 0 + (c.toNat - 48))
      have hp : 10 ^ 10 ≤ 10 ^ r.length := Nat.pow_le_pow_right (by omega) (by simp at hl; omega)
      have : 1 * 10 ^ r.length ≤ (10 * 0 + (c.toNat - 48)) * 10 ^ r.length := Nat.mul_le_mul_right _ (by omega)
      omega
theorem frac_bounded {s : List UInt8} (h : decB s = true) : ∃ n, m_frac_bounded s = some (n, decide (dval s ≤ 2147483647)) ∧ (dval s ≤ 2147483647 → n = dval s) := by
  obtain ⟨h1, h2, h3⟩ := decB_dig h
  unfold m_frac_bounded
  by_cases hl : 10 < s.length
  · have := decB_big h hl
    rw [if_pos (by simp <;> omega)]
    exact ⟨0, by rw [show decide (dval s ≤ 2147483647) = false by simp <;> omega], fun h => by omega⟩
  · rw [if_neg (by simp <;> omega)]
    unfold m_strconv_ParseInt
    rw [if_pos ⟨rfl, rfl, by omega⟩, parseB s h2 h1 (by omega)]
    refine ⟨dval s, ?_, fun _ => rfl⟩
    simp only [Option.bind_some]
    congr 3
    apply propext
    omega
/-- The reference reads digits one by one. -/
theorem ref01_value_run (s : List UInt8) (hl : s.length ≤ 4294967296) : ∀ (f : Nat) (n : Nat) (i : Int), 0 ≤ i → i ≤ (s.length : Int) → s.length - i.toNat < f → n ≤ 2147483647 → (s.drop i.toNat).all dig = true →
    m_ref01_value_l1 s f n i = if dvalA n (s.drop i.toNat) ≤ 2147483647 then m_ref01_value_j1 s (dvalA n (s.drop i.toNat) : Nat) else some (0, false)
  | 0, _, _, _, _, h, _, _ => absurd h (by omega)
  | f + 1, n, i, h0, h1, hf, hn, hd => by
    unfold m_ref01_value_l1 m_ref01_value_j2
    by_cases h : i < (s.length : Int)
    · have ih := ref01_value_run s hl f
      rw [sat_at h0 h]
      rw [drop_at h0 h] at hd ⊢
      revert hd
      generalize (s[i.toNat]'(by omega)) = c
      intro hd
      simp only [List.all_cons, Bool.and_eq_true] at hd
      have hc := hd.1
      simp only [dig, Bool.and_eq_true, decide_eq_true_eq] at hc
      have h45 : decide (((c.toNat : Nat) : Int) = 45) = false := by simp <;> omega
      simp only [h, h45, decide_true, if_true, Option.bind_some, Bool.false_eq_true, if_false]
      have e1 : wu8 ((c.toNat : Int) - 48) = (c.toNat : Int) - 48 := by
        simp only [wu8, IntKind.wrap, IntKind.signed, IntKind.bits]
        have := c.toNat_lt
        simp <;> omega
      rw [e1, wi (p := (n : Int) * 10) ⟨by omega, by omega⟩, wi (p := (c.toNat : Int) - 48) ⟨by omega, by omega⟩, wi (p := (n : Int) * 10 + ((c.toNat : Int) - 48)) ⟨by omega, by omega⟩, wi (p := i + 1) ⟨by omega, by omega⟩]
      have e2 : (n : Int) * 10 + ((c.toNat : Int) - 48) = ((10 * n + (c.toNat - 48) : Nat) : Int) := by omega
      rw [e2, dvalA_cons]
      by_cases hb : 10 * n + (c.toNat - 48) ≤ 2147483647
      · rw [if_neg (by simp <;> omega)]
        exact ih (10 * n + (c.toNat - 48)) (i + 1) (by omega) (by omega) (by omega) hb hd.2
      · have := dvalA_ge (s.drop (i + 1).toNat) (10 * n + (c.toNat - 48))
        rw [if_pos (by simp <;> omega), if_neg (by omega)]
    · have e : s.drop i.toNat = [] := List.drop_eq_nil_of_le (by omega)
      simp [h, e, dvalA, hn]
theorem value_j1_plain {s : List UInt8} (hd : s.all dig = true) (n : Int) : m_ref01_value_j1 s n = some (n, true) := by
  unfold m_ref01_value_j1
  cases s with
  | nil => rfl
  | cons c r =>
    simp only [List.all_cons, Bool.and_eq_true] at hd
    have hc := dig_ne c hd.1
    have hlt : (0 : Int) < ((c :: r).length : Int) := by simp <;> omega
    rw [sat_at (by omega) hlt]
    simp only [hlt, decide_true, gd, if_true, Option.bind_some, Bool.true_and, Int.toNat_zero, List.getElem_cons_zero]
    rw [if_neg (by simp <;> omega)]
theorem ref01_value_digs {s : List UInt8} (hl : s.length ≤ 4294967296) (hd : s.all dig = true) : m_ref01_value s = some (if dval s ≤ 2147483647 then ((dval s : Int), true) else (0, false)) := by
  unfold m_ref01_value
  have := ref01_value_run s hl fu 0 0 (by omega) (by omega) (by unfold fu; omega) (by omega) (by simpa using hd)
  rw [show ((0 : Nat) : Int) = 0 from rfl] at this
  rw [this]
  simp only [Int.toNat_zero, List.drop_zero]
  show (if dval s ≤ 2147483647 then m_ref01_value_j1 s (dval s : Nat) else some (0, false)) = _
  split
  · rw [value_j1_plain hd]
  · rfl
theorem ref01_value_neg {t : List UInt8} (hl : (45 :: t).length ≤ 4294967296) (hd : t.all dig = true) : m_ref01_value (45 :: t) = some (if dval t ≤ 2147483647 then (-(dval t : Int), true) else (0, false)) := by
  unfold m_ref01_value
  have h0 : (0 : Int) < ((45 :: t).length : Int) := by simp <;> omega
  have e : m_ref01_value_l1 (45 :: t) fu 0 0 = m_ref01_value_l1 (45 :: t) (fu - 1) 0 1 := by
    show m_ref01_value_l1 (45 :: t) (18446744073709551615 + 1) 0 0 = m_ref01_value_l1 (45 :: t) 18446744073709551615 0 1
    rw [m_ref01_value_l1, sat_at (by omega) h0]
    simp only [h0, decide_true, if_true, Option.bind_some, Int.toNat_zero, List.getElem_cons_zero, show decide ((((45 : UInt8).toNat : Nat) : Int) = 45) = true from rfl]
    unfold m_ref01_value_j2
    rw [wi ⟨by omega, by omega⟩]
    rfl
  rw [e]
  have := ref01_value_run (45 :: t) hl (fu - 1) 0 1 (by omega) (by simp <;> omega) (by unfold fu; omega) (by omega) (by simpa using hd)
  rw [show ((0 : Nat) : Int) = 0 from rfl] at this
  rw [this]
  simp only [show (1 : Int).toNat = 1 from rfl, List.drop_one, List.tail_cons]
  show (if dval t ≤ 2147483647 then m_ref01_value_j1 (45 :: t) (dval t : Nat) else some (0, false)) = _
  split
  · unfold m_ref01_value_j1
    rw [sat_at (by omega) h0]
    simp only [h0, decide_true, gd, if_true, Option.bind_some, Bool.true_and, Int.toNat_zero, List.getElem_cons_zero, show decide ((((45 : UInt8).toNat : Nat) : Int) = 45) = true from rfl]
    rw [wi ⟨by omega, by omega⟩]
  · rfl

/-! ### Parse -/
/-- Two numerals, the first with a sign, as a fraction. -/
def parseFin (neg : Bool) (d b : List UInt8) : GVal × Int :=
  if dval d ≤ 2147483647 ∧ dval b ≤ 2147483647 then
    if frOK ⟨if neg then -(dval d : Int) else dval d, dval b⟩ then (⟨if neg then -(dval d : Int) else dval d, dval b⟩, 0) else (⟨0, 0⟩, 5)
  else (⟨0, 0⟩, 3)
/-- What both read: the part before the first stroke; the part behind it. -/
def parseTB (top : List UInt8) (bot : Option (List UInt8)) : GVal × Int :=
  if wholeB top then
    match bot with
    | none => parseFin (splitSign top).1 (splitSign top).2 [49]
    | some b => if decB b && !decide (b = [48]) && !decide (b = [49]) then parseFin (splitSign top).1 (splitSign top).2 b else (⟨0, 0⟩, 5)
  else (⟨0, 0⟩, 5)
/-- Where a stroke stands. -/
def stroke : List UInt8 → Option Nat
  | [] => none
  | c :: r => if c = 47 then some 0 else (stroke r).map (· + 1)
def parseS (s : List UInt8) : GVal × Int := match stroke s with
  | none => parseTB s none
  | some i => parseTB (s.take i) (some (s.drop (i + 1)))
theorem stroke_lt {s : List UInt8} {i : Nat} (h : stroke s = some i) : i < s.length := by
  induction s generalizing i with
  | nil => cases h
  | cons c r ih =>
    unfold stroke at h
    split at h
    · injection h with h; subst h; simp
    · obtain ⟨j, hj, rfl⟩ := Option.map_eq_some_iff.1 h
      have := ih hj
      simp <;> omega
theorem index_stroke (s : List UInt8) : Lib.indexByte s 47 = match stroke s with | none => -1 | some i => (i : Int) := by
  induction s with
  | nil => rfl
  | cons c r ih =>
    unfold Lib.indexByte stroke
    by_cases h : c = 47
    · simp [h]
    · have : (c == 47) = false := by simpa using h
      simp only [this, Bool.false_eq_true, if_false, h, ih]
      cases stroke r with
      | none => rfl
      | some i => simp <;> omega
theorem str_Cut {s : List UInt8} (hl : s.length ≤ 4294967296) : m_strings_Cut s [47] = some (match stroke s with | none => (s, [], false) | some i => (s.take i, s.drop (i + 1), true)) := by
  unfold m_strings_Cut m_internal_stringslite_Cut m_internal_stringslite_Index
  simp only [Option.bind_some, index_stroke]
  cases h : stroke s with
  | none => simp
  | some i =>
    have hi := stroke_lt h
    have e : wi64 ((i : Int) + (([47] : List UInt8).length : Int)) = (i : Int) + 1 := wi ⟨by simp <;> omega, by simp <;> omega⟩
    rw [e]
    have h1 : lupto s (i : Int) = some (s.take i) := by unfold lupto; rw [if_pos ⟨by omega, by omega⟩]; simp
    have h2 : lfrom s ((i : Int) + 1) = some (s.drop (i + 1)) := by unfold lfrom; rw [if_pos ⟨by omega, by omega⟩]; rfl
    simp [h1, h2]
theorem str_CutPrefix {s : List UInt8} (hl : s.length ≤ 4294967296) : m_strings_CutPrefix s [45] = some ((splitSign s).2, (splitSign s).1) := by
  unfold m_strings_CutPrefix m_internal_stringslite_CutPrefix m_internal_stringslite_HasPrefix
  cases s with
  | nil => rfl
  | cons c r =>
    have h1 : lupto (c :: r) (([45] : List UInt8).length : Int) = some [c] := by unfold lupto; rw [if_pos ⟨by simp, by simp <;> omega⟩]; rfl
    have h2 : lfrom (c :: r) (([45] : List UInt8).length : Int) = some r := by unfold lfrom; rw [if_pos ⟨by simp, by simp <;> omega⟩]; rfl
    have h3 : (([45] : List UInt8).length : Int) ≤ ((c :: r).length : Int) := by simp <;> omega
    simp only [h1, h2, h3, decide_true, gd, if_true, Option.bind_some, Bool.true_and]
    by_cases hc : c = 45
    · subst hc; rfl
    · have : decide ([c] = ([45] : List UInt8)) = false := by simpa using hc
      simp only [this, Bool.not_false, if_true, Option.bind_some]
      unfold splitSign
      split
      · rename_i h; simp at h; exact absurd h.1 hc
      · rfl
theorem frac_Parse_fin {neg : Bool} {d b : List UInt8} (hd : decB d = true) (hb : decB b = true) : m_frac_Parse_j1 (d, neg) b = some (parseFin neg d b) := by
  obtain ⟨n, h1, h2⟩ := frac_bounded hd
  obtain ⟨k, h3, h4⟩ := frac_bounded hb
  unfold m_frac_Parse_j1 m_frac_Parse_j2 parseFin
  simp only [h1, h3, Option.bind_some]
  by_cases c1 : dval d ≤ 2147483647
  · by_cases c2 : dval b ≤ 2147483647
    · rw [h2 c1, h4 c2]
      simp only [c1, c2, decide_true, Bool.not_true, Bool.or_self, Bool.false_eq_true, if_false, and_self, if_true]
      rw [wi (p := -((dval d : Nat) : Int)) ⟨by omega, by omega⟩]
      cases neg
      · simp only [Bool.false_eq_true, if_false]
        rw [frac_Valid ⟨⟨by simp <;> omega, by simp <;> omega⟩, ⟨by simp <;> omega, by simp <;> omega⟩⟩]
        cases frOK ⟨(dval d : Int), (dval b : Int)⟩ <;> simp
      · simp only [if_true]
        rw [frac_Valid ⟨⟨by simp <;> omega, by simp <;> omega⟩, ⟨by simp <;> omega, by simp <;> omega⟩⟩]
        cases frOK ⟨-(dval d : Int), (dval b : Int)⟩ <;> simp
    · simp [c1, c2]
  · simp [c1]
theorem frac_Parse {s : List UInt8} (hl : s.length ≤ 4294967296) : m_frac_Parse s = some (parseS s) := by
  unfold m_frac_Parse parseS
  rw [str_Cut hl]
  simp only [Option.bind_some]
  cases h : stroke s with
  | none =>
    simp only [str_CutPrefix hl, Option.bind_some]
    have hl2 : (splitSign s).2.length ≤ 4294967296 := by unfold splitSign; split <;> simp_all; omega
    rw [frac_decimal _ hl2]
    unfold parseTB wholeB
    simp only [Option.bind_some]
    cases hd : decB (splitSign s).2
    · simp
    · cases hn : (splitSign s).1 && decide ((splitSign s).2 = [48])
      · simp [hn, frac_Parse_fin hd (show decB [49] = true from rfl)]
      · simp [hn]
  | some i =>
    have hi := stroke_lt h
    have hl1 : (s.take i).length ≤ 4294967296 := by rw [List.length_take]; omega
    have hl3 : (s.drop (i + 1)).length ≤ 4294967296 := by rw [List.length_drop]; omega
    simp only [str_CutPrefix hl1, Option.bind_some]
    have hl2 : (splitSign (s.take i)).2.length ≤ 4294967296 := by
      have : (splitSign (s.take i)).2.length ≤ (s.take i).length := by unfold splitSign; split <;> simp_all
      omega
    rw [frac_decimal _ hl2]
    unfold parseTB wholeB
    simp only [Option.bind_some]
    obtain ⟨b, hb0⟩ : ∃ b, s.drop (i + 1) = b := ⟨_, rfl⟩
    simp only [hb0] at hl3 ⊢
    cases hd : decB (splitSign (s.take i)).2
    · simp
    · cases hn : (splitSign (s.take i)).1 && decide ((splitSign (s.take i)).2 = [48])
      · simp only [hn, Bool.not_true, Bool.or_self, Bool.false_eq_true, if_false, Bool.not_false, Bool.and_self, if_true, frac_decimal _ hl3, Option.bind_some]
        cases hb : decB b
        · simp
        · cases h8 : decide (b = [48])
          · cases h9 : decide (b = [49])
            · simp [frac_Parse_fin hd hb]
            · simp
          · simp
      · simp [hn]
theorem size01 {n : Int} (h : R64 n) : m_ref01_size n = some (if n < 0 then -n else n) := by
  obtain ⟨h1, h2⟩ := h
  unfold m_ref01_size
  by_cases hn : n < 0
  · simp only [hn, decide_true, if_true]
    rw [wi (p := n + 1) ⟨by omega, by omega⟩, wi (p := -(n + 1)) ⟨by omega, by omega⟩, wu (p := -(n + 1)) ⟨by omega, by omega⟩, wu ⟨by omega, by omega⟩]
    congr 1; omega
  · simp only [hn, decide_false, Bool.false_eq_true, if_false]
    rw [wu ⟨by omega, by omega⟩]
theorem dval_pos {b : List UInt8} (hb : decB b = true) (h : b ≠ [48]) : 1 ≤ dval b := by
  obtain ⟨h1, h2, h3⟩ := decB_dig hb
  cases b with
  | nil => exact absurd rfl h2
  | cons c r =>
    have h3 := h3.resolve_left h
    simp only [List.all_cons, Bool.and_eq_true] at h1
    have hc := h1.1
    simp only [dig, Bool.and_eq_true, decide_eq_true_eq] at hc
    have hne : c.toNat ≠ 48 := fun e => h3 (by rw [List.head?_cons]; congr 1; exact UInt8.toNat_inj.1 (by simpa using e))
    have := dvalA_ge r (10 * 0 + (c.toNat - 48))
    unfold dval; rw [dvalA_cons]; omega
theorem ref01_Parse_fin {top b : List UInt8} (hl : top.length ≤ 4294967296) (hl2 : b.length ≤ 4294967296) (hw : wholeB top = true) (hb : decB b = true) (h8 : b ≠ [48]) : m_ref01_Parse_j2 top b = some (parseFin (splitSign top).1 (splitSign top).2 b) := by
  have hwd : decB (splitSign top).2 = true := by unfold wholeB at hw; simp only [Bool.and_eq_true] at hw; exact hw.1
  have hv : m_ref01_value top = some (if dval (splitSign top).2 ≤ 2147483647 then (if (splitSign top).1 then -(dval (splitSign top).2 : Int) else dval (splitSign top).2, true) else (0, false)) := by
    have hdg := (decB_dig hwd).1
    unfold splitSign at hdg ⊢
    split at hdg
    · rename_i t
      rw [ref01_value_neg hl hdg]
      simp
    · rw [ref01_value_digs hl hdg]
      split <;> simp_all
  have hp := dval_pos hb h8
  unfold m_ref01_Parse_j2 parseFin
  rw [hv, ref01_value_digs hl2 (decB_dig hb).1]
  generalize (splitSign top).1 = neg
  generalize dval (splitSign top).2 = p
  by_cases c1 : p ≤ 2147483647
  · by_cases c2 : dval b ≤ 2147483647
    · simp only [c1, c2, if_true, Option.bind_some, Bool.not_true, Bool.or_self, Bool.false_eq_true, if_false, and_self]
      rw [size01 (n := if neg = true then -(p : Int) else p) (by cases neg <;> exact ⟨by simp <;> omega, by simp <;> omega⟩), size01 (n := (dval b : Int)) ⟨by omega, by omega⟩]
      simp only [Option.bind_some]
      rw [ref01_gcd (by split <;> omega) (by split <;> omega) (by split <;> omega), Option.bind_some]
      have e1 : (if ((dval b : Nat) : Int) < 0 then -((dval b : Nat) : Int) else (dval b : Nat)) = (dval b : Int) := by rw [if_neg (by omega)]
      rw [e1, abs_gcd]
      have e2 : frOK ⟨if neg = true then -(p : Int) else p, dval b⟩ = decide (((Int.gcd (if neg = true then -(p : Int) else p) (dval b) : Nat) : Int) = 1) := by
        unfold frOK
        congr 1
        apply propext
        constructor
        · intro h; have := h.2.2.2.2; simp only at this; omega
        · intro h; refine ⟨by simp <;> omega, by simp <;> omega, ?_, ?_, ?_⟩
          · cases neg <;> simp <;> omega
          · cases neg <;> simp <;> omega
          · simp only; omega
      rw [e2]
      cases decide (((Int.gcd (if neg = true then -(p : Int) else p) (dval b) : Nat) : Int) = 1) <;> simp
    · simp [c1, c2]
  · simp [c1]
theorem ref01_Parse_tb {top : List UInt8} {down : List UInt8} (hl : top.length ≤ 4294967296) (hl2 : down.length ≤ 4294967296) (hd : down = [] ∨ (decB down = true ∧ down ≠ [48])) : m_ref01_Parse_j1 top down = some (if wholeB top then parseFin (splitSign top).1 (splitSign top).2 (if down = [] then [49] else down) else (⟨0, 0⟩, 5)) := by
  unfold m_ref01_Parse_j1
  rw [ref01_Whole _ hl]
  cases hw : wholeB top
  · rfl
  · simp only [Option.bind_some, Bool.not_true, Bool.false_eq_true, if_false, if_true]
    by_cases h : down = []
    · simp only [h, decide_true, if_true]
      exact ref01_Parse_fin hl (by simp) hw rfl (by decide)
    · simp only [h, decide_false, Bool.false_eq_true, if_false]
      obtain ⟨h1, h2⟩ := hd.resolve_left h
      exact ref01_Parse_fin hl hl2 hw h1 h2
theorem stroke_drop (s : List UInt8) (i : Nat) (h : ∀ j < i, s[j]? ≠ some 47) : stroke s = (stroke (s.drop i)).map (· + i) := by
  induction i generalizing s with
  | zero => simp
  | succ i ih =>
    cases s with
    | nil => rfl
    | cons c r =>
      have hc : c ≠ 47 := fun e => h 0 (by omega) (by simp [e])
      rw [stroke, if_neg hc, ih r (fun j hj => by have := h (j + 1) (by omega); simpa using this), List.drop_succ_cons]
      cases stroke (r.drop i) <;> simp <;> omega
theorem ref01_Parse_run (s : List UInt8) (hl : s.length ≤ 4294967296) : ∀ (f : Nat) (i : Int), 0 ≤ i → i ≤ (s.length : Int) → s.length - i.toNat < f → (∀ j < i.toNat, s[j]? ≠ some 47) → m_ref01_Parse_l1 s (f + 1) s [] i = some (parseS s)
  | f, i, h0, h1, hf, hno => by
    have hst := stroke_drop s i.toNat hno
    rw [m_ref01_Parse_l1]
    by_cases h : i < (s.length : Int)
    · simp only [h, decide_true, Bool.and_self, if_true]
      rw [sat_at h0 h]
      rw [drop_at h0 h] at hst
      have hget : s[i.toNat]? = some (s[i.toNat]'(by omega)) := by simp
      revert hst hget
      generalize (s[i.toNat]'(by omega)) = c
      intro hst hget
      simp only [Option.bind_some]
      by_cases hc : c = 47
      · subst hc
        have hs : stroke s = some i.toNat := by rw [hst]; simp [stroke]
        have e1 : lupto s i = some (s.take i.toNat) := by unfold lupto; rw [if_pos ⟨by omega, by omega⟩]
        have e2 : lfrom s (wi64 (i + 1)) = some (s.drop (i.toNat + 1)) := by
          rw [wi ⟨by omega, by omega⟩]; unfold lfrom; rw [if_pos ⟨by omega, by omega⟩]; congr 2; omega
        rw [e1, e2]
        unfold parseS
        rw [hs]
        simp only [show decide ((((47 : UInt8).toNat : Nat) : Int) = 47) = true from rfl, if_true, Option.bind_some]
        have hl3 : (s.drop (i.toNat + 1)).length ≤ 4294967296 := by rw [List.length_drop]; omega
        have hl4 : (s.take i.toNat).length ≤ 4294967296 := by rw [List.length_take]; omega
        generalize s.drop (i.toNat + 1) = b at hl3
        generalize s.take i.toNat = t at hl4
        rw [ref01_Whole b hl3]
        simp only [Option.bind_some]
        unfold parseTB
        -- Whole without a sign: a plain numeral
        by_cases hb : decB b = true
        · have hdg := decB_dig hb
          have hsp := digs_no_sign hdg.1
          have hw : wholeB b = true := by unfold wholeB; rw [hsp]; simp [hb]
          have hlen : (0 : Int) < (b.length : Int) := by have := lpos hdg.2.1; omega
          have h45 : decide ((((b[(0 : Int).toNat]'(by simpa using lpos hdg.2.1)).toNat : Nat) : Int) = 45) = false := by
            cases b with
            | nil => exact absurd rfl hdg.2.1
            | cons c r =>
              have := hdg.1
              simp only [List.all_cons, Bool.and_eq_true] at this
              have := dig_ne c this.1
              simp <;> omega
          rw [hw, sat_at (by omega) hlen]
          simp only [Bool.not_true, Bool.not_false, gd, if_true, Option.bind_some, h45, Bool.or_self, Bool.false_or, hb, Bool.true_and]
          by_cases h8 : b = [48]
          · subst h8; simp
          · by_cases h9 : b = [49]
            · subst h9; simp
            · simp only [h8, h9, decide_false, Bool.or_self, Bool.false_eq_true, if_false, Bool.not_false, Bool.and_self, if_true]
              unfold m_ref01_Parse_j3
              rw [wi ⟨by omega, by omega⟩]
              obtain ⟨f', rfl⟩ : ∃ f', f = f' + 1 := ⟨f - 1, by omega⟩
              rw [m_ref01_Parse_l1]
              have hne : b ≠ [] := hdg.2.1
              rw [if_neg (by simp [hne])]
              rw [ref01_Parse_tb hl4 hl3 (.inr ⟨hb, h8⟩), if_neg hne]
        · have hb' : decB b = false := by simpa using hb
          have e3 : (if wholeB t = true then (if (decB b && !decide (b = [48]) && !decide (b = [49])) = true then parseFin (splitSign t).1 (splitSign t).2 b else (⟨0, 0⟩, 5)) else ((⟨0, 0⟩, 5) : GVal × Int)) = (⟨0, 0⟩, 5) := by
            rw [hb']; simp
          show _ = some (if wholeB t = true then (if (decB b && !decide (b = [48]) && !decide (b = [49])) = true then parseFin (splitSign t).1 (splitSign t).2 b else (⟨0, 0⟩, 5)) else ((⟨0, 0⟩, 5) : GVal × Int))
          rw [e3]
          cases hw : wholeB b
          · simp [gd]
          · -- a sign
            have hsg : ∃ t, b = 45 :: t := by
              unfold wholeB splitSign at hw
              split at hw
              · exact ⟨_, rfl⟩
              · simp [hb'] at hw
            obtain ⟨t', rfl⟩ := hsg
            have hlen : (0 : Int) < ((45 :: t').length : Int) := by simp <;> omega
            rw [sat_at (by omega) hlen]
            simp [gd]
      · have hcn : decide (((c.toNat : Nat) : Int) = 47) = false := by
          simp only [decide_eq_false_iff_not]
          intro h; exact hc (UInt8.toNat_inj.1 (by have : c.toNat = 47 := by omega
                                                   simpa using this))
        simp only [hcn, Bool.false_eq_true, if_false]
        unfold m_ref01_Parse_j3
        rw [wi ⟨by omega, by omega⟩]
        obtain ⟨f', rfl⟩ : ∃ f', f = f' + 1 := ⟨f - 1, by omega⟩
        refine ref01_Parse_run s hl f' (i + 1) (by omega) (by omega) (by omega) fun j hj => ?_
        rcases Nat.lt_or_ge j i.toNat with h2 | h2
        · exact hno j h2
        · have : j = i.toNat := by omega
          subst this
          rw [hget]; simpa using hc
    · have e : s.drop i.toNat = [] := List.drop_eq_nil_of_le (by omega)
      rw [e] at hst
      simp only [h, decide_false, Bool.false_and, Bool.false_eq_true, if_false]
      rw [ref01_Parse_tb hl (by simp) (.inl rfl)]
      unfold parseS
      rw [hst]
      rfl
theorem ref01_Parse {s : List UInt8} (hl : s.length ≤ 4294967296) : m_ref01_Parse s = some (parseS s) := by
  unfold m_ref01_Parse
  show m_ref01_Parse_l1 s (18446744073709551615 + 1) s [] 0 = _
  exact ref01_Parse_run s hl _ 0 (by omega) (by omega) (by omega) (fun j hj => by simp at hj)
end Go.Proofs.YtkmenmoiagkegaaDoor
