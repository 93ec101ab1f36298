/- The laws 13.1 and 13.3 (Tokenizes, CoversText). -/
import Derived.Test.YtndiieicjjifkaaDoorLexF
import Derived.Test.YtndiieicjjifkaaDoorFnsL
namespace Go.Vc
open Go Go.RowKit
/-- Tokens one behind the other, skipped text between, from place a on. -/
def Chain (s : List UInt8) : Nat → List Tok → Prop
  | a, [] => a ≤ s.length ∧ a + skipL false (s.drop a) = s.length
  | a, t :: ts => a ≤ s.length ∧ t.at_ = ((a + skipL false (s.drop a) : Nat) : Int) ∧ 0 < t.text.length ∧ a + skipL false (s.drop a) + t.text.length ≤ s.length ∧
      (s.drop (a + skipL false (s.drop a))).take t.text.length = t.text ∧ Chain s (a + skipL false (s.drop a) + t.text.length) ts
theorem goT_chain (s : List UInt8) (f a : Nat) (ha : a ≤ s.length) (hf : s.length < a + skipL false (s.drop a) + f) (he : (goT s f (a + skipL false (s.drop a))).2.2 = 0) : Chain s a (goT s f (a + skipL false (s.drop a))).1 := by
  induction f generalizing a with
  | zero =>
    have := skipL_le false (s.drop a)
    simp at this; omega
  | succ f ih =>
    have hsk := skipL_le false (s.drop a)
    simp only [List.length_drop] at hsk
    generalize hp : a + skipL false (s.drop a) = p at *
    simp only [goT] at he ⊢
    by_cases hlt : p < s.length
    · rw [if_pos hlt] at he ⊢
      by_cases hk : (nextL (s.drop p)).1 = 0
      · rw [if_pos hk] at he; simp at he
      · rw [if_neg hk] at he ⊢
        by_cases hb : (nextL (s.drop p)).1 = 1 ∧ 16 < (nextL (s.drop p)).2
        · rw [if_pos hb] at he; simp at he
        · rw [if_neg hb] at he ⊢
          have hle := nextL_le (s.drop p) (by simp; omega)
          have hpos := nextL_pos (s.drop p) (by simp; omega) hk
          have hlen : ((s.drop p).take (nextL (s.drop p)).2).length = (nextL (s.drop p)).2 := by simp at hle ⊢; omega
          simp only [List.length_drop] at hle
          refine ⟨ha, by rw [hp], by rw [hlen]; exact hpos, by rw [hp, hlen]; omega, by rw [hp, hlen], ?_⟩
          rw [hp, hlen]
          exact ih (p + (nextL (s.drop p)).2) (by omega) (by omega) he
    · rw [if_neg hlt]
      exact ⟨ha, by omega⟩
theorem tokens_chain (s : List UInt8) (hs : s.length ≤ 65536) (he : (tokens s).2.2 = 0) : Chain s 0 (tokens s).1 := by
  unfold tokens at he ⊢
  rw [if_neg (by omega)] at he ⊢
  have h := goT_chain s (s.length + 1) 0 (by omega) (by omega)
  simp only [List.drop_zero, Nat.zero_add] at h
  dsimp only at he ⊢
  by_cases h0 : (goT s (s.length + 1) (skipL false s)).2.2 = 0
  · rw [if_pos h0]; exact h h0
  · rw [if_neg h0] at he; exact absurd he h0
theorem tokens_none (s : List UInt8) (he : (tokens s).2.2 ≠ 0) : (tokens s).1 = [] := by
  unfold tokens at he ⊢
  split
  · rfl
  · rename_i h
    rw [if_neg h] at he
    dsimp only at he ⊢
    by_cases h0 : (goT s (s.length + 1) (skipL false s)).2.2 = 0
    · rw [if_pos h0] at he; exact absurd rfl he
    · rw [if_neg h0]
theorem chain_le (s : List UInt8) (ts : List Tok) (a : Nat) (h : Chain s a ts) : ts.length + a ≤ s.length := by
  induction ts generalizing a with
  | nil => simpa using h.1
  | cons t ts ih =>
    obtain ⟨h1, _, h2, _, _, h5⟩ := h
    have := ih _ h5
    simp; omega
end Go.Vc
namespace Go.Proofs.YtndiieicjjifkaaDoor
open Go Go.RowKit Go.Vc
theorem law3 (s : List UInt8) (w : World) (hT : Tabs w) : RetV Tryd.prog 3 #[str s] w (.bool true) := by
  refine ofV (vc3 s w _ ⟨fun _ => (examples_c w hT).use fun w1 h1 => ⟨_, rfl, h1, rfl, h1⟩, fun _ => (tokenize_c s w).mono ?_⟩)
  rintro _ w1 ⟨A, n, c, rfl, rfl, hS, h1⟩
  refine ⟨_, _, _, _, _, rfl, h1, (rtokenize_c s w1).mono ?_⟩
  rintro _ w2 ⟨A2, n2, c2, rfl, rfl, hS2, h2⟩
  have hn : (tokens s).1.length ≤ 100000 := by
    by_cases he : (tokens s).2.2 = 0
    · rcases Nat.lt_or_ge 65536 s.length with h | h
      · have : tokens s = ([], 0, 2) := by unfold tokens; rw [if_pos h]
        rw [this]; simp
      · have := chain_le s _ 0 (tokens_chain s h he); omega
    · rw [tokens_none s he]; simp
  refine ⟨_, _, _, _, _, rfl, h2, (same_c A A2 c c2 _ _ true w2 hn (hS.ext h2) hS2).use fun w3 h3 => ⟨_, rfl, h3, fun r _ => r = true, fun _ => (examples_c w3 (hT.ext (h1.trans' (h2.trans' h3)))).use fun w4 h4 => ⟨_, rfl, h4, rfl⟩, fun r w4 h4 hq => ⟨?_, h1.trans' (h2.trans' (h3.trans' h4))⟩⟩⟩
  rw [sameT_refl] at hq ⊢
  have := hq (by simp)
  subst this
  simp
theorem law6 (s : List UInt8) (w : World) (hT : Tabs w) : RetV Tryd.prog 6 #[str s] w (.bool true) := by
  refine ofV (vc6 s w _ ⟨fun _ => (examples_c w hT).use fun w1 h1 => ⟨_, rfl, h1, rfl, h1⟩, fun hlen => (tokenize_c s w).mono ?_⟩)
  have hlen : s.length ≤ 5000 := by simp at hlen; omega
  rintro _ w1 ⟨A, n, c, rfl, rfl, hS, h1⟩
  refine ⟨_, _, _, _, _, rfl, h1, fun he => ?_, fun he => ?_⟩
  · have he : (tokens s).2.2 ≠ 0 := by simp at he; exact he
    have hnil := tokens_none s he
    rw [hnil]
    refine ⟨fun r _ => r = true, fun _ => (examples_c w1 (hT.ext h1)).use fun w2 h2 => ⟨_, rfl, h2, rfl⟩, fun r w2 h2 hq => ⟨?_, h1.trans' h2⟩⟩
    have := hq rfl
    subst this
    rfl
  · have he : (tokens s).2.2 = 0 := by simp at he; exact he
    have hch := tokens_chain s (by omega) he
    generalize hts : (tokens s).1 = ts at *
    have hcl := chain_le s ts 0 hch
    refine ⟨fun a i w' => SlR w' A ts.length 3 (toksV ts) ∧ ∃ k p : Nat, i = k ∧ a = p ∧ k ≤ ts.length ∧ Chain s p (ts.drop k), fun _ i => ts.length - i.toNat, ⟨hS, 0, 0, rfl, rfl, by omega, hch⟩, ?_⟩
    rintro a i w4 hx ⟨hS4, k, p, rfl, rfl, hk, hc⟩
    simp only [Int.toNat_natCast]
    refine ⟨fun h => ?_, fun h => ?_⟩
    · have hlt : k < ts.length := by simp at h; omega
      obtain ⟨ad, hA, hc1⟩ := tok_cells hS4 hlt
      have hd : ts.drop k = ts[k] :: ts.drop (k + 1) := List.drop_eq_getElem_cons hlt
      rw [hd] at hc
      obtain ⟨g1, g2, g3, g4, g5, g6⟩ := hc
      generalize ts[k] = t at *
      generalize hP : p + skipL false (s.drop p) = P at *
      have hsk := rskip_c s (by omega) p g1
      rw [hP] at hsk
      have e1 : ((P : Int) + (t.text.length : Int)).toNat - P = t.text.length := by omega
      refine ⟨by omega, ad, hA, fun w5 h5 => ⟨_, _, _, hc1.ext h5, by omega, fun _ => by rw [g2]; simp [R64]; omega, fun w6 h6 => ⟨fun r _ => r = (P : Int), fun _ => (hsk w6).use fun w7 h7 => ⟨_, rfl, h7, rfl⟩, fun r w7 h7 hq => ?_⟩⟩⟩
      have hle : p ≤ P := by omega
      have hr : r = (P : Int) := hq (by rw [g2]; simp only [Bool.not_eq_true', Bool.or_eq_false_iff, decide_eq_false_iff_not]; omega)
      subst hr
      rw [g2]
      simp only [Int.toNat_natCast]
      refine ⟨fun _ => by simp [R64]; omega, fun _ => by omega, fun _ => by omega, _, _, _, fun _ => hc1.ext (h5.trans' (h6.trans' h7)), fun hbad => ?_, fun _ => ⟨by simp [R64]; omega, by simp [R64]; omega, ⟨hS4.ext (h5.trans' (h6.trans' h7)), k + 1, P + t.text.length, by omega, by omega, by omega, g6⟩, by omega⟩⟩
      simp only [e1, g5, decide_true, Bool.not_true, Bool.or_false, Bool.or_eq_true, decide_eq_true_eq] at hbad
      omega
    · have hk' : k = ts.length := by simp at h; omega
      subst hk'
      rw [List.drop_eq_nil_of_le (Nat.le_refl _)] at hc
      have hsk := rskip_c s (by omega) p hc.1 w4
      rw [hc.2] at hsk
      refine hsk.use fun w8 h8 => ⟨_, rfl, h8, fun r _ => r = true, fun _ => (examples_c w8 (hT.ext (hx.trans' h8))).use fun w9 h9 => ⟨_, rfl, h9, rfl⟩, fun r w9 h9 hq => ⟨?_, hx.trans' (h8.trans' h9)⟩⟩
      have := hq (by simp)
      subst this
      simp
end Go.Proofs.YtndiieicjjifkaaDoor
