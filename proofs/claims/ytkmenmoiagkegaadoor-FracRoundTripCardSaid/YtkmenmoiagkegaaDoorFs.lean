/- Decimal numerals: what Format writes and Parse reads; program and reference agree. Conditions: strings below 2^32 bytes; the range of int64. -/
import Derived.Test.YtkmenmoiagkegaaDoorFc
namespace Go.Proofs.YtkmenmoiagkegaaDoor
open Go Go.RowKit Go.Vc
set_option linter.unusedVariables false
set_option linter.unusedSimpArgs false

/-! ### Digits -/
def dig (c : UInt8) : Bool := decide (48 ≤ c.toNat) && decide (c.toNat ≤ 57)
def dvalA (n : Nat) (s : List UInt8) : Nat := s.foldl (fun n c => 10 * n + (c.toNat - 48)) n
def dval (s : List UInt8) : Nat := dvalA 0 s
/-- A decimal number without leading zeros. -/
def decB (s : List UInt8) : Bool := s.all dig && (decide (s = [48]) || (!decide (s = []) && !decide (s.head? = some 48)))
theorem dvalA_cons (n : Nat) (c : UInt8) (s : List UInt8) : dvalA n (c :: s) = dvalA (10 * n + (c.toNat - 48)) s := by unfold dvalA; rw [List.foldl_cons]
theorem lpos {s : List UInt8} (h : s ≠ []) : 0 < s.length := List.length_pos_iff.2 h
theorem dvalA_ge (s : List UInt8) (n : Nat) : n ≤ dvalA n s := by
  induction s generalizing n with
  | nil => exact Nat.le_refl _
  | cons c s ih => rw [dvalA_cons]; have := ih (10 * n + (c.toNat - 48)); omega
theorem dvalA_big (s : List UInt8) (n : Nat) : n * 10 ^ s.length ≤ dvalA n s := by
  induction s generalizing n with
  | nil => simp [dvalA]
  | cons c s ih =>
    rw [dvalA_cons]
    have h := ih (10 * n + (c.toNat - 48))
    have : n * 10 ^ (c :: s).length = (10 * n) * 10 ^ s.length := by
      rw [List.length_cons, Nat.pow_succ, Nat.mul_comm (10 ^ s.length) 10, ← Nat.mul_assoc, Nat.mul_comm n 10]
    rw [this]
    exact Nat.le_trans (Nat.mul_le_mul_right _ (by omega)) h
theorem dvalA_lt (s : List UInt8) (n : Nat) (hd : s.all dig = true) : dvalA n s < (n + 1) * 10 ^ s.length := by
  induction s generalizing n with
  | nil => simp [dvalA]
  | cons c s ih =>
    simp only [List.all_cons, Bool.and_eq_true] at hd
    have hc : c.toNat ≤ 57 := by have := hd.1; simp [dig] at this; omega
    rw [dvalA_cons]
    have h := ih (10 * n + (c.toNat - 48)) hd.2
    have : (n + 1) * 10 ^ (c :: s).length = (10 * n + 10) * 10 ^ s.length := by
      rw [List.length_cons, Nat.pow_succ, Nat.mul_comm (10 ^ s.length) 10, ← Nat.mul_assoc]; congr 1; omega
    rw [this]
    exact Nat.lt_of_lt_of_le h (Nat.mul_le_mul_right _ (by omega))
theorem sat_at {s : List UInt8} {i : Int} (h0 : 0 ≤ i) (h1 : i < (s.length : Int)) : sat s i = some ((s[i.toNat]'(by omega)).toNat : Int) := by
  unfold sat
  rw [if_pos ⟨h0, h1⟩]
  have hi : i.toNat < s.length := by omega
  simp [at8, List.getD_eq_getElem?_getD, hi]
theorem drop_at {s : List UInt8} {i : Int} (h0 : 0 ≤ i) (h1 : i < (s.length : Int)) : s.drop i.toNat = (s[i.toNat]'(by omega)) :: s.drop (i + 1).toNat := by
  have hi : i.toNat < s.length := by omega
  rw [List.drop_eq_getElem_cons hi]
  congr 2; omega
theorem digLt (c : UInt8) : (decide (((c.toNat : Nat) : Int) < 48) || decide (57 < ((c.toNat : Nat) : Int))) = !dig c := by
  unfold dig
  by_cases h1 : c.toNat < 48
  · have : ¬ 48 ≤ c.toNat := by omega
    simp [h1, this]; omega
  · by_cases h2 : 57 < c.toNat
    · have : ¬ c.toNat ≤ 57 := by omega
      simp [this]; omega
    · have h3 : 48 ≤ c.toNat := by omega
      have h4 : c.toNat ≤ 57 := by omega
      simp [h3, h4]; omega
/-- A loop that looks for what is no digit. -/
theorem scan (s : List UInt8) (m : Nat → Int → Option Bool) (fin : Option Bool)
    (hm : ∀ f i, m (f + 1) i = if decide (i < (s.length : Int)) = true then (sat s i).bind fun b2 => (gd (!(decide (b2 < 48))) (sat s i)).bind fun b3 => if ((decide (b2 < 48)) || (decide (57 < b3))) = true then some false else m f (wi64 (i + 1)) else fin)
    (hl : s.length ≤ 4294967296) : ∀ (f : Nat) (i : Int), 0 ≤ i → i ≤ (s.length : Int) → (s.length - i.toNat) < f → m f i = cond ((s.drop i.toNat).all dig) fin (some false)
  | 0, _, _, _, h => absurd h (by omega)
  | f + 1, i, h0, h1, hf => by
    rw [hm]
    by_cases h : i < (s.length : Int)
    · rw [sat_at h0 h, drop_at h0 h, wi ⟨by omega, by omega⟩, List.all_cons]
      generalize (s[i.toNat]'(by omega)) = c
      have ih := scan s m fin hm hl f (i + 1) (by omega) (by omega) (by omega)
      have hd := digLt c
      revert hd
      generalize dig c = dc
      intro hd
      by_cases hb : decide (((c.toNat : Nat) : Int) < 48) = true
      · simp only [hb, Bool.true_or] at hd
        cases dc
        · simp only [h, hb, decide_true, gd, Bool.not_true, Bool.false_eq_true, if_false, if_true, Option.bind_some, Bool.true_or, Bool.false_and, cond_false]
        · cases hd
      · have hb' : decide (((c.toNat : Nat) : Int) < 48) = false := by simpa using hb
        simp only [hb', Bool.false_or] at hd
        simp only [h, hb', decide_true, gd, Bool.not_false, if_true, Option.bind_some, Bool.false_or, hd]
        cases dc
        · rfl
        · simp only [Bool.not_true, Bool.false_eq_true, if_false, Bool.true_and]; exact ih
    · have e : s.drop i.toNat = [] := List.drop_eq_nil_of_le (by omega)
      simp [h, e]
theorem head_ne (s : List UInt8) (h : s ≠ []) : decide ((((s[0]'(lpos h)).toNat : Nat) : Int) = 48) = decide (s.head? = some 48) := by
  cases s with
  | nil => exact absurd rfl h
  | cons c s =>
    simp only [List.getElem_cons_zero, List.head?_cons, Option.some.injEq]
    congr 1
    apply propext
    constructor
    · intro h1; have : c.toNat = 48 := by omega
      exact UInt8.toNat_inj.1 (by simpa using this)
    · intro h1; subst h1; rfl
theorem frac_decimal (s : List UInt8) (hl : s.length ≤ 4294967296) : m_frac_decimal s = some (decB s) := by
  unfold m_frac_decimal
  rw [scan s (m_frac_decimal_l1 s) (m_frac_decimal_j1 s) (fun _ _ => rfl) hl fu 0 (by omega) (by omega) (by unfold fu; omega)]
  unfold decB m_frac_decimal_j1
  simp only [Int.toNat_zero, List.drop_zero]
  cases hd : s.all dig
  · rfl
  · simp only [cond_true, Bool.true_and]
    by_cases h0 : s = []
    · subst h0; rfl
    · have hlen : 0 < s.length := lpos h0
      rw [sat_at (by omega) (by omega)]
      by_cases h1 : s = [48]
      · subst h1; rfl
      · simp only [h0, h1, decide_false, Bool.not_false, Bool.and_self, gd, if_true, Option.bind_some, Bool.false_or, Bool.true_and, Int.toNat_zero]
        rw [head_ne s h0]
/-- A whole number with or without a sign. -/
def splitSign (s : List UInt8) : Bool × List UInt8 := match s with
  | 45 :: t => (true, t)
  | _ => (false, s)
def wholeB (s : List UInt8) : Bool := decB (splitSign s).2 && !((splitSign s).1 && decide ((splitSign s).2 = [48]))
theorem digs_no_sign {s : List UInt8} (h : s.all dig = true) : splitSign s = (false, s) := by
  unfold splitSign
  split
  · simp [dig] at h
  · rfl
theorem ref01_Whole (s : List UInt8) (hl : s.length ≤ 4294967296) : m_ref01_Whole s = some (wholeB s) := by
  have key : ∀ (from_ : Int), 0 ≤ from_ → from_ ≤ (s.length : Int) → m_ref01_Whole_j1 s from_ = cond ((s.drop from_.toNat).all dig) (m_ref01_Whole_j2 from_ s) (some false) := fun from_ h0 h1 => by
    unfold m_ref01_Whole_j1
    exact scan s (m_ref01_Whole_l1 s from_) (m_ref01_Whole_j2 from_ s) (fun _ _ => rfl) hl fu from_ h0 h1 (by unfold fu; omega)
  unfold m_ref01_Whole wholeB
  by_cases hs : ∃ t, s = 45 :: t ∧ t ≠ []
  · obtain ⟨t, rfl, ht⟩ := hs
    have hlen : 0 < t.length := lpos ht
    have h1 : (1 : Int) < ((45 :: t).length : Int) := by simp; omega
    rw [sat_at (by omega) (by omega)]
    simp only [h1, decide_true, gd, if_true, Option.bind_some, Int.toNat_zero, List.getElem_cons_zero, Bool.true_and, show decide ((((45 : UInt8).toNat : Nat) : Int) = 45) = true from rfl]
    rw [key 1 (by omega) (by omega)]
    unfold m_ref01_Whole_j2
    have hsp : splitSign (45 :: t) = (true, t) := rfl
    rw [sat_at (by omega) h1]
    simp only [hsp, h1, decide_true, gd, if_true, Option.bind_some, Bool.true_and, show (1 : Int).toNat = 1 from rfl, List.drop_one, List.tail_cons, List.getElem_cons_succ, show decide (((45 :: t).length : Int) = 1) = false by simp; omega, Bool.or_false]
    rw [head_ne t ht]
    unfold decB
    cases hd : t.all dig
    · simp
    · cases t with
      | nil => exact absurd rfl ht
      | cons c t =>
        by_cases hc : c = 48
        · subst hc; simp
        · simp [hc]
  · have h0 : (gd (decide (1 < (s.length : Int))) (sat s 0)).bind (fun b4 => if (decide (1 < (s.length : Int)) && decide (b4 = 45)) = true then m_ref01_Whole_j1 s 1 else m_ref01_Whole_j1 s 0) = m_ref01_Whole_j1 s 0 := by
      by_cases h1 : (1 : Int) < (s.length : Int)
      · rw [sat_at (by omega) (by omega)]
        simp only [h1, decide_true, gd, if_true, Option.bind_some, Bool.true_and, Int.toNat_zero]
        rw [if_neg]
        intro h2
        refine hs ⟨s.tail, ?_, ?_⟩
        · cases s with
          | nil => simp at h1
          | cons c t =>
            simp only [List.getElem_cons_zero, decide_eq_true_eq] at h2
            have : c = 45 := UInt8.toNat_inj.1 (by have : c.toNat = 45 := by omega
                                                   simpa using this)
            subst this; rfl
        · intro h3
          have := congrArg List.length h3
          simp at this; omega
      · simp [h1, gd]
    rw [h0, key 0 (by omega) (by omega)]
    simp only [Int.toNat_zero, List.drop_zero]
    have hsp : s.all dig = true ∨ s.all dig = false := by cases s.all dig <;> simp
    rcases hsp with hd | hd
    · rw [digs_no_sign hd]
      unfold m_ref01_Whole_j2 decB
      simp only [hd, cond_true, Bool.true_and, Bool.false_and, Bool.not_false, Bool.and_true]
      by_cases h0 : s = []
      · subst h0; rfl
      · have hlen : 0 < s.length := lpos h0
        have hlt : (0 : Int) < (s.length : Int) := by omega
        rw [sat_at (by omega) hlt]
        simp only [hlt, decide_true, gd, if_true, Option.bind_some, Bool.true_and, Int.toNat_zero, h0, decide_false, Bool.not_false]
        rw [head_ne s h0]
        cases s with
        | nil => exact absurd rfl h0
        | cons c t =>
          by_cases hc : c = 48
          · subst hc
            cases t with
            | nil => rfl
            | cons d t => simp; omega
          · simp [hc]
    · rw [hd]
      simp only [cond_false]
      have : decB (splitSign s).2 = false := by
        unfold splitSign
        split
        · rename_i t
          cases t with
          | nil => rfl
          | cons c t => exact absurd ⟨c :: t, rfl, by simp⟩ hs
        · unfold decB; rw [hd]; rfl
      rw [this]; rfl
end Go.Proofs.YtkmenmoiagkegaaDoor
