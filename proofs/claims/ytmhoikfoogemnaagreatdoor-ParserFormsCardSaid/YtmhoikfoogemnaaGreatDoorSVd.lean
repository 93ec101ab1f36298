import Derived.Test.YtmhoikfoogemnaaGreatDoorSVa
namespace Go.Proofs.YtmhoikfoogemnaaGreatDoor
open Go Go.RowKit Go.Vc
set_option linter.unusedVariables false
set_option linter.unusedSimpArgs false
def letB (c : UInt8) : Bool := decide (97 ≤ (c.toNat : Int)) && decide ((c.toNat : Int) ≤ 122)
def wordB (c : UInt8) : Bool := letB c || (decide (48 ≤ (c.toNat : Int)) && decide ((c.toNat : Int) ≤ 57)) || decide ((c.toNat : Int) = 95)
def nameB (s : List UInt8) : Bool := (decide (s ≠ []) && decide (s.length ≤ 16)) && letB (s.getD 0 0) && s.all wordB && !decide (s ∈ kwL)
theorem wi32_byte (c : UInt8) : wi32 (c.toNat : Int) = (c.toNat : Int) := wr_i32 (p := (c.toNat : Int)) ⟨by omega, by have := c.toNat_lt; omega⟩
theorem sat_at {s : List UInt8} {i : Nat} {c : UInt8} (h : s[i]? = some c) : sat s (i : Int) = some (c.toNat : Int) := by
 obtain ⟨hi, _⟩ := List.getElem?_eq_some_iff.1 h
 unfold sat at8
 rw [if_pos (by omega), Int.toNat_natCast, List.getD_eq_getElem?_getD, h]; rfl
theorem letter_ok (c : UInt8) : m_lexer_letter (wi32 (c.toNat : Int)) = some (letB c) := by rw [wi32_byte]; rfl
theorem inWord_ok (c : UInt8) : m_lexer_inWord (wi32 (c.toNat : Int)) = some (wordB c) := by
 unfold m_lexer_inWord
 rw [wi32_byte, show m_lexer_letter (c.toNat : Int) = some (letB c) from rfl, Option.bind_some]
 unfold wordB
 cases letB c <;> simp [gd, m_lexer_digit]
theorem span_ok (s : List UInt8) (hs : s.length < 4611686018427387904) : ∃ r, m_lexer_span s m_lexer_inWord = some r ∧ decide (r = (s.length : Int)) = s.all wordB := by
 refine loop_fu (L := fun f (_ : Unit) i => m_lexer_span_l1 s m_lexer_inWord f i) (n := s.length) hs (fun i _ => (s.take i).all wordB = true) (fun r => decide (r = (s.length : Int)) = s.all wordB) ?_ ?_ () (by simp)
 ·intro f i _ hi hI
  obtain ⟨c, hc⟩ := at_some hi
  simp only [m_lexer_span_l1]
  rw [lt_dec hi]
  simp only [gd, if_true, sat_at hc, Option.bind_some, inWord_ok, Bool.true_and]
  by_cases hw : wordB c = true
  ·left; refine ⟨(), ?_, by rw [if_pos hw, wis (by omega)]⟩
   rw [take_succ' hc, List.all_append, hI]; simp [hw]
  ·right; refine ⟨(i : Int), by rw [if_neg hw], ?_⟩
   rw [decide_eq_false (by omega)]
   symm; rw [Bool.eq_false_iff]; intro h
   exact hw (List.all_eq_true.1 h c (List.mem_of_getElem? hc))
 ·intro f _ hI
  rw [List.take_length] at hI
  refine ⟨(s.length : Int), ?_, by rw [hI]; simp⟩
  simp only [m_lexer_span_l1]
  simp [gd]
theorem isName_ok (s : List UInt8) (hs : s.length < 4611686018427387904) : m_lexer_IsName s = some (nameB s) := by
 unfold m_lexer_IsName nameB
 cases s with
 | nil => rfl
 | cons c t =>
  by_cases h16 : (c :: t).length ≤ 16
  rotate_left
  ·have e : decide (((c :: t).length : Int) ≤ 16) = false := by rw [decide_eq_false_iff_not]; omega
   rw [e, decide_eq_false h16]; simp [gd]
  have e : decide (((c :: t).length : Int) ≤ 16) = true := by rw [decide_eq_true_iff]; omega
  obtain ⟨r, h1, h2⟩ := span_ok (c :: t) hs
  rw [e, decide_eq_true h16, show decide ((c :: t) = ([] : List UInt8)) = false by simp, show sat (c :: t) 0 = some (c.toNat : Int) from sat_at (i := 0) rfl]
  simp only [gd, Bool.not_false, Bool.true_and, if_true, Option.bind_some, letter_ok, h1, isKeyword]
  rw [show (c :: t).getD 0 0 = c from rfl, show decide ((c :: t) ≠ []) = true by simp]
  cases hl : letB c
  ·simp
  ·simp only [if_true, Option.bind_some, h2, Bool.true_and]
   cases (c :: t).all wordB <;> simp
theorem base_Name_ok (s : List UInt8) (hs : s.length < 4611686018427387904) : m_base_Name s = some (nameB s) := by
 unfold m_base_Name nameB
 by_cases h : s.length < 1 ∨ 16 < s.length
 ·have e : (decide ((s.length : Int) < 1) || decide (16 < (s.length : Int))) = true := by simp; omega
  rw [e]
  have e2 : (decide (s ≠ []) && decide (s.length ≤ 16)) = false := by
   rcases h with h | h
   ·rw [List.length_eq_zero_iff.1 (show s.length = 0 by omega)]; rfl
   ·rw [decide_eq_false (show ¬ s.length ≤ 16 by omega)]; simp
  rw [e2]; simp [gd]
 have e : (decide ((s.length : Int) < 1) || decide (16 < (s.length : Int))) = false := by simp; omega
 have e2 : (decide (s ≠ []) && decide (s.length ≤ 16)) = true := by
  have : s ≠ [] := fun h' => by subst h'; simp at h
  simp [this]; omega
 rw [e, e2]
 simp only [gd, Bool.not_false, if_true, base_Words, Option.bind_some, has_str kwL s (by decide), Bool.false_or, Bool.true_and]
 by_cases hk : s ∈ kwL
 ·simp [hk]
 rw [decide_eq_false hk]
 simp only [Bool.false_eq_true, if_false, Bool.not_false, Bool.and_true]
 obtain ⟨r, h1, h2⟩ := loop_fu (L := fun f (_ : Unit) i => m_base_Name_l1 s f i) (n := s.length) hs (fun i _ => (s.take i).all wordB = true ∧ (0 < i → letB (s.getD 0 0) = true)) (fun r => r = (letB (s.getD 0 0) && s.all wordB))
  (fun f i _ hi ⟨hI, hJ⟩ => by
   obtain ⟨c, hc⟩ := at_some hi
   simp only [m_base_Name_l1]
   rw [if_pos (lt_dec hi), sat_at hc, Option.bind_some]
   rcases Nat.eq_zero_or_pos i with h0 | h0
   ·have hg : s.getD 0 0 = c := by rw [h0] at hc; rw [List.getD_eq_getElem?_getD, hc]; rfl
    rw [show (decide (97 ≤ (c.toNat : Int)) && decide ((c.toNat : Int) ≤ 122)) = letB c from rfl, show decide ((0 : Int) < (i : Int)) = false by rw [decide_eq_false_iff_not]; omega]
    cases hl : letB c
    ·right; exact ⟨false, by simp, by rw [hg, hl]; rfl⟩
    ·left; refine ⟨(), ⟨?_, fun _ => by rw [hg, hl]⟩, by simp [wis (i := i) (by omega)]⟩
     rw [take_succ' hc, h0]; simp [wordB, hl]
   ·rw [show (decide (97 ≤ (c.toNat : Int)) && decide ((c.toNat : Int) ≤ 122)) = letB c from rfl, show decide ((0 : Int) < (i : Int)) = true by simp; omega, Bool.true_and, ← Bool.or_assoc, show (letB c || (decide (48 ≤ (c.toNat : Int)) && decide ((c.toNat : Int) ≤ 57)) || decide ((c.toNat : Int) = 95)) = wordB c from rfl]
    cases hw : wordB c
    ·right; refine ⟨false, by simp, ?_⟩
     symm; rw [Bool.and_eq_false_iff]; right; rw [Bool.eq_false_iff]; intro h'
     have := List.all_eq_true.1 h' c (List.mem_of_getElem? hc); rw [hw] at this; cases this
    ·left; refine ⟨(), ⟨?_, fun _ => hJ h0⟩, by simp [wis (i := i) (by omega)]⟩
     rw [take_succ' hc, List.all_append, hI]; simp [hw])
  (fun f _ ⟨hI, hJ⟩ => by
   rw [List.take_length] at hI
   simp only [m_base_Name_l1]
   exact ⟨true, by rw [if_neg (by simp)], by rw [hI, hJ (by omega)]; rfl⟩) () (by simp)
 rw [show m_base_Name_l1 s fu 0 = some r from h1, h2]
end Go.Proofs.YtmhoikfoogemnaaGreatDoor
