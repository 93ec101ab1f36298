/- Join, names, the examples. -/
import Derived.Test.YtndiieicjjifkaaDoorLexE
import Derived.Lib.AppendIntMem
namespace Go.Vc
open Go Go.RowKit
/-- The first k of the texts, blanks between them. -/
def joinT (l : List (List UInt8)) : Nat → List UInt8
  | 0 => []
  | k + 1 => (if k = 0 then [] else joinT l k ++ [32]) ++ l.getD k []
theorem joinT_step (l : List (List UInt8)) (k : Nat) : (joinT l (k + 1)).length = (if k = 0 then 0 else (joinT l k).length + 1) + (l.getD k []).length := by
  simp only [joinT]
  split
  · simp
  · simp; omega
theorem joinT_mono (l : List (List UInt8)) (k n : Nat) (h : k ≤ n) : (joinT l k).length ≤ (joinT l n).length := by
  induction n with
  | zero => have : k = 0 := by omega
            subst this; exact Nat.le_refl _
  | succ n ih =>
    rcases Nat.lt_or_ge k (n + 1) with h' | h'
    · refine Nat.le_trans (ih (by omega)) ?_
      rw [joinT_step]
      split
      · rename_i h0; subst h0; simp [joinT]
      · omega
    · have : k = n + 1 := by omega
      subst this; exact Nat.le_refl _
def joinS (ts : List Tok) : List UInt8 := joinT (ts.map Tok.text) ts.length
end Go.Vc
namespace Go.Proofs.YtndiieicjjifkaaDoor
open Go Go.RowKit Go.Vc
theorem Tabs.ext {w w' : World} (h : Tabs w) (hx : Ext w w') : Tabs w' := Lib.tabBelow_of_tabIs h w' hx
theorem join_c (A : Option Addr) (c : Nat) (ts : List Tok) (w : World) (hl : ts.length ≤ 100000) (hb : (joinS ts).length ≤ 1000000000) (hA : SlR w A ts.length 3 (toksV ts)) : RetV Tryd.prog 12 #[.slice A ts.length c] w (str (joinS ts)) := by
  refine ofV (vc12 A _ c w _ ?_)
  intro M1 w1 hS1
  refine ⟨fun i bl M _ => ∃ k : Nat, i = k ∧ k ≤ ts.length ∧ bl = joinT (ts.map Tok.text) k, fun i _ => ts.length - i.toNat, ⟨0, rfl, by omega, rfl⟩, ?_⟩
  rintro i bl M w2 hS ⟨k, rfl, hk, rfl⟩
  simp only [Int.toNat_natCast]
  refine ⟨fun h => ?_, fun h => ?_⟩
  · have hlt : k < ts.length := by simp at h; omega
    obtain ⟨ad, hA1, hc1⟩ := tok_cells (hA.ext hS.ext0) hlt
    have hg : (ts.map Tok.text).getD k [] = (ts[k]).text := by simp [List.getD_eq_getElem?_getD, hlt]
    have hm : (joinT (ts.map Tok.text) (k + 1)).length ≤ 1000000000 := Nat.le_trans (joinT_mono _ _ _ (by omega)) hb
    have hst := joinT_step (ts.map Tok.text) k
    rw [hg] at hst
    refine ⟨by omega, ad, hA1, _, _, _, hc1, fun h0 => ?_, fun h0 => ?_⟩
    · have h0 : 0 < k := by simp at h0; omega
      rw [if_neg (by omega)] at hst
      refine ⟨by omega, by simp; omega, by simp [R64]; omega, fun M5 w6 _ _ => ⟨⟨k + 1, by omega, by omega, ?_⟩, by omega⟩⟩
      simp only [joinT, hg]
      rw [if_neg (by omega)]
    · have h0 : k = 0 := by simp at h0; omega
      subst h0
      rw [if_pos rfl] at hst
      refine ⟨by simp [joinT]; omega, by simp [R64], fun M5 w6 _ _ => ⟨⟨1, by omega, by omega, ?_⟩, by omega⟩⟩
      simp only [joinT, hg, if_true]
  · intro w8 h8
    have hk : k = ts.length := by simp at h; omega
    subst hk
    exact ⟨rfl, h8⟩
theorem rjoin_c (A : Option Addr) (c : Nat) (ts : List Tok) (w : World) (hl : ts.length ≤ 100000) (hb : (joinS ts).length ≤ 1000000000) (hA : SlR w A ts.length 3 (toksV ts)) : RetV Tryd.prog 13 #[.slice A ts.length c] w (str (joinS ts)) := by
  refine ofV (vc13 A _ c w _ ?_)
  refine ⟨fun bl i _ => ∃ k : Nat, i = k ∧ k ≤ ts.length ∧ bl = joinT (ts.map Tok.text) k, fun _ i => ts.length - i.toNat, ⟨0, rfl, by omega, rfl⟩, ?_⟩
  rintro bl i w2 hx ⟨k, rfl, hk, rfl⟩
  simp only [Int.toNat_natCast]
  refine ⟨fun h => ?_, fun h => ?_⟩
  · have hlt : k < ts.length := by simp at h; omega
    have hg : (ts.map Tok.text).getD k [] = (ts[k]).text := by simp [List.getD_eq_getElem?_getD, hlt]
    have hm : (joinT (ts.map Tok.text) (k + 1)).length ≤ 1000000000 := Nat.le_trans (joinT_mono _ _ _ (by omega)) hb
    have hst := joinT_step (ts.map Tok.text) k
    rw [hg] at hst
    refine ⟨fun s2 w3 => Ext w2 w3 ∧ s2 = if k = 0 then [] else joinT (ts.map Tok.text) k ++ [32], ⟨fun h0 => ?_, fun h0 => ?_⟩, ?_⟩
    · have h0 : 0 < k := by simp at h0; omega
      rw [if_neg (by omega)] at hst
      exact ⟨by simp; omega, .rfl', by rw [if_neg (by omega)]⟩
    · have h0 : k = 0 := by simp at h0; omega
      subst h0
      exact ⟨.rfl', rfl⟩
    · rintro s2 w3 ⟨h3, rfl⟩
      obtain ⟨ad, hA1, hc1⟩ := tok_cells (hA.ext (hx.trans' h3)) hlt
      refine ⟨by omega, ad, hA1, _, _, _, hc1, ?_, by simp [R64]; omega, ⟨k + 1, by omega, by omega, by simp only [joinT, hg]⟩, by omega⟩
      split
      · rw [if_pos (by assumption)] at hst; simp; omega
      · rw [if_neg (by assumption)] at hst; simp; omega
  · have hk : k = ts.length := by simp at h; omega
    subst hk
    exact ⟨rfl, hx⟩
theorem isName_c (s : List UInt8) (w : World) (hT : Tabs w) : RetV Tryd.prog 14 #[str s] w (.bool (nameB s)) := by
  refine ofV (vc14 s w _ ?_)
  have hz : Int.toNat 0 = 0 := rfl
  have hr := at8_range s 0
  simp only [hz]
  have hpos : ((!decide (s = ([] : List UInt8))) && (decide ((s.length : Int) ≤ 16))) = true → s ≠ [] ∧ s.length ≤ 16 := fun h => by simp at h; exact ⟨h.1, by omega⟩
  refine ⟨fun h => ?_, fun _ => by simp [R32]; omega, fun r _ => r = letterB (at8 s 0), fun _ => (letter_c _ w).use fun w1 h1 => ⟨_, rfl, h1, rfl⟩, fun r1 w1 h1 hq1 => ⟨fun r _ => r = (spanL wordB s : Nat), fun hc => (span_c wordB 28 ok_28 word_c s ?_ w1).use fun w2 h2 => ⟨_, rfl, h2, rfl⟩, fun r2 w2 h2 hq2 => ⟨fun r _ => r = words.contains s, fun _ => (isKeyword_c s w2 (hT.ext (h1.trans' h2))).use fun w3 h3 => ⟨_, rfl, h3, rfl⟩, fun r3 w3 h3 hq3 => ⟨?_, h1.trans' (h2.trans' h3)⟩⟩⟩⟩
  · have := List.length_pos_iff.2 (hpos h).1; omega
  · have := (hpos (by simp only [Bool.and_eq_true] at hc ⊢; exact hc.1)).2; omega
  · congr 1
    unfold nameB
    by_cases h1 : s = []
    · simp [h1]
    · by_cases h2 : s.length ≤ 16
      · have h2' : (s.length : Int) ≤ 16 := by omega
        simp only [h1, h2, h2', decide_true, decide_false, Bool.not_false, Bool.true_and, forall_const, ne_eq, not_false_eq_true] at hq1 hq2 hq3 ⊢
        subst hq1
        cases hl : letterB (at8 s 0) with
        | false => simp
        | true =>
          simp only [hl, Bool.true_and, forall_const] at hq2 hq3 ⊢
          subst hq2
          by_cases h3 : spanL wordB s = s.length
          · simp only [h3, decide_true, Bool.true_and, forall_const] at hq3 ⊢
            rw [hq3]
          · have h3' : ¬ ((spanL wordB s : Nat) : Int) = (s.length : Int) := by omega
            simp [h3, h3']
      · have h2' : ¬ (s.length : Int) ≤ 16 := by omega
        simp [h2, h2']

theorem name_c (s : List UInt8) (w : World) : RetV Tryd.prog 29 #[str s] w (.bool (nameB s)) := by
  refine ofV (vc29 s w _ ?_)
  have hc16 : ∀ {b : Bool}, (!(decide ((s.length : Int) < 1) || decide (16 < (s.length : Int)))) = b → (1 ≤ s.length ∧ s.length ≤ 16 ↔ b = true) := fun {b} h => by
    subst h; simp; omega
  refine ⟨fun A n c w1 => ∃ (_ : n = 22), SlR w1 A 22 1 (words.map str), fun h => (words_c w).mono ?_, fun A n c w1 h1 hq1 => ⟨fun r _ => r = words.contains s, fun h => ?_, fun r w2 h2 hq2 => ⟨fun hc => ?_, fun hc => ?_⟩⟩⟩
  · rintro _ w1 ⟨A, c, rfl, hS, hx⟩
    exact ⟨_, _, _, rfl, hx, rfl, hS⟩
  · obtain ⟨rfl, hS⟩ := hq1 h
    exact (has_c A c words s w1 (by decide) hS).use fun w2 h2 => ⟨_, rfl, h2, rfl⟩
  · refine ⟨?_, h1.trans' h2⟩
    congr 1
    unfold nameB
    by_cases hl : 1 ≤ s.length ∧ s.length ≤ 16
    · have hb := hq2 ((hc16 rfl).1 hl)
      have h' : (decide ((s.length : Int) < 1) || decide (16 < (s.length : Int))) = false := by simp; omega
      rw [h', Bool.false_or] at hc
      rw [← hb, hc]; simp
    · rcases Nat.lt_or_ge s.length 1 with h0 | h0
      · have : s = [] := List.eq_nil_of_length_eq_zero (by omega)
        simp [this]
      · have : ¬ s.length ≤ 16 := by omega
        simp [this]
  · have hl : 1 ≤ s.length ∧ s.length ≤ 16 := by simp at hc; omega
    have hr : r = false := by simp at hc; exact hc.2
    have hb := hq2 ((hc16 rfl).1 hl)
    rw [hr] at hb
    have hne : s ≠ [] := fun h => by simp [h] at hl
    have hname : nameB s = (letterB (at8 s 0) && decide (spanL wordB s = s.length)) := by
      unfold nameB; rw [← hb]; simp [hne, hl.2]
    refine ⟨fun i _ => ∃ k : Nat, i = k ∧ k ≤ s.length ∧ (0 < k → letterB (at8 s 0) = true) ∧ spanL wordB s = k + spanL wordB (s.drop k), fun i => s.length - i.toNat, ⟨0, rfl, by omega, fun h => absurd h (by omega), by simp⟩, ?_⟩
    rintro i w3 hx ⟨k, rfl, hk, h0, he⟩
    simp only [Int.toNat_natCast]
    refine ⟨fun h => ?_, fun h => ?_⟩
    · have hlt : k < s.length := by simp at h; omega
      have hsp := spanL_step wordB s k hlt
      refine ⟨by omega, fun hf => ⟨?_, hx⟩, fun hf => ⟨by simp [R64]; omega, ⟨k + 1, by omega, by omega, fun _ => ?_, ?_⟩, by omega⟩⟩
      · congr 1
        rw [hname]
        rcases Nat.eq_zero_or_pos k with rfl | hk0
        · have : letterB (at8 s 0) = false := by simp [letterB] at hf ⊢; omega
          simp [this]
        · have hw : wordB (at8 s k) = false := by
            have hk1 : (0 : Int) < (k : Int) := by omega
            simp [hk1] at hf
            simp [wordB, letterB, digitB]; omega
          rw [hw] at hsp
          have : ¬ spanL wordB s = s.length := by rw [he, hsp]; simp; omega
          simp [this]
      · rcases Nat.eq_zero_or_pos k with rfl | hk0
        · simp [letterB] at hf ⊢; omega
        · exact h0 hk0
      · have hw : wordB (at8 s k) = true := by
          simp at hf
          simp [wordB, letterB, digitB]; omega
        rw [he, hsp, if_pos hw]; omega
    · have hk' : k = s.length := by simp at h; omega
      refine ⟨?_, hx⟩
      congr 1
      rw [hname, h0 (by omega), he, spanL_end wordB s k (by omega)]
      simp [hk']
theorem risName_c (s : List UInt8) (w : World) : RetV Tryd.prog 15 #[str s] w (.bool (nameB s)) :=
  ofV (vc15 s w _ ((name_c s w).use fun w1 h1 => ⟨_, rfl, h1, rfl, h1⟩))

theorem ex1 : tokens [97, 91, 105, 43, 49, 93, 60, 61, 48, 51, 32, 35, 32, 101, 110, 100] = ([⟨1, 0, [97]⟩, ⟨3, 1, [91]⟩, ⟨1, 2, [105]⟩, ⟨3, 3, [43]⟩, ⟨2, 4, [49]⟩, ⟨3, 5, [93]⟩, ⟨3, 6, [60, 61]⟩, ⟨2, 8, [48, 51]⟩], 0, 0) := rfl
theorem ex2 : tokens [120, 32, 62] = ([], 2, 5) := rfl
theorem examples_c (w : World) (hT : Tabs w) : RetV Tryd.prog 8 #[] w (.bool true) := by
  refine ofV (vc8 w _ ?_)
  refine (tokenize_c _ w).mono ?_
  rintro _ w1 ⟨A, n, c, rfl, hn, hS, h1⟩
  rw [ex1] at hn hS ⊢
  subst hn
  refine ⟨_, _, _, _, _, rfl, h1, (tokenize_c _ w1).mono ?_⟩
  rintro _ w2 ⟨A2, n2, c2, rfl, hn2, hS2, h2⟩
  rw [ex2] at hn2 hS2 ⊢
  subst hn2
  have hS' := hS.ext h2
  obtain ⟨ad, hA, hc6⟩ := tok_cells (i := 6) hS' (by decide)
  obtain ⟨ad', hA', hc7⟩ := tok_cells (i := 7) hS' (by decide)
  refine ⟨_, _, _, _, _, rfl, h2, fun _ => by decide, ad, fun _ => hA, _, _, _, fun _ => hc6, fun _ => by decide, ad', fun _ => hA', _, _, _, fun _ => hc7, fun r _ => r = [97, 32, 91, 32, 105, 32, 43, 32, 49, 32, 93, 32, 60, 61, 32, 48, 51], fun _ => (join_c A c _ w2 (by decide) (by decide) hS').use fun w3 h3 => ⟨_, rfl, h3, rfl⟩, fun r7 w3 h3 hq => ?_⟩
  have hr7 := hq rfl
  subst hr7
  refine ⟨fun r _ => r = true, fun _ => (isKeyword_c _ w3 (hT.ext (h1.trans' (h2.trans' h3)))).use fun w4 h4 => ⟨_, rfl, h4, rfl⟩, fun r8 w4 h4 hq2 => ?_⟩
  have hr8 := hq2 rfl
  subst hr8
  refine ⟨fun r _ => r = false, fun _ => (isName_c _ w4 (hT.ext (h1.trans' (h2.trans' (h3.trans' h4))))).use fun w5 h5 => ⟨_, rfl, h5, rfl⟩, fun r9 w5 h5 hq3 => ?_⟩
  have hr9 := hq3 rfl
  subst hr9
  exact ⟨rfl, h1.trans' (h2.trans' (h3.trans' (h4.trans' h5)))⟩
end Go.Proofs.YtndiieicjjifkaaDoor
