/- The law 13.3: tokenizing the join of the tokens gives the tokens again. -/
import Derived.Test.YtndiieicjjifkaaDoorLexG
namespace Go.Vc
open Go Go.RowKit
/-- The head of l is cut off behind m bytes, and something other follows: the token is the same. -/
theorem spanL_take (p : Int → Bool) (l : List UInt8) : ∀ m : Nat, m ≤ spanL p l → ∀ r : List UInt8, (r = [] ∨ p (at8 r 0) = false) → spanL p (l.take m ++ r) = m := by
  induction l with
  | nil =>
    intro m hm r hr
    have : m = 0 := by simpa [spanL] using hm
    subst this
    cases r with
    | nil => rfl
    | cons c r =>
      have hc : p (c.toNat : Int) = false := by
        rcases hr with h | h
        · cases h
        · exact h
      simp [spanL, hc]
  | cons c l ih =>
    intro m hm r hr
    cases m with
    | zero =>
      cases r with
      | nil => rfl
      | cons c r =>
        have hc : p (c.toNat : Int) = false := by
          rcases hr with h | h
          · cases h
          · exact h
        simp [spanL, hc]
    | succ m =>
      have hc : p (c.toNat : Int) = true := by
        cases h : p (c.toNat : Int) with
        | true => rfl
        | false => simp [spanL, h] at hm
      simp only [spanL, hc] at hm
      simp only [List.take_succ_cons, List.cons_append, spanL, hc]
      rw [ih m (by omega) r hr]
theorem nextL_take (l : List UInt8) (h0 : 0 < l.length) (hk : (nextL l).1 ≠ 0) (r : List UInt8) (hr : r = [] ∨ at8 r 0 = 32) : nextL (l.take (nextL l).2 ++ r) = nextL l := by
  obtain ⟨c, t, rfl⟩ : ∃ c t, l = c :: t := by cases l with | nil => simp at h0 | cons c t => exact ⟨c, t, rfl⟩
  have hpos := nextL_pos (c :: t) (by simp) hk
  have hw : r = [] ∨ wordB (at8 r 0) = false := hr.imp id fun h => by rw [h]; rfl
  have hd : r = [] ∨ digitB (at8 r 0) = false := hr.imp id fun h => by rw [h]; rfl
  generalize hN : nextL (c :: t) = N at *
  obtain ⟨m, hm⟩ : ∃ m, N.2 = m + 1 := ⟨N.2 - 1, by omega⟩
  have hhead : ∀ q : List UInt8, at8 ((c :: t).take N.2 ++ q) 0 = at8 (c :: t) 0 := fun q => by rw [hm]; rfl
  unfold nextL at hN ⊢
  dsimp only at hN ⊢
  rw [hhead]
  by_cases h1 : letterB (at8 (c :: t) 0) = true
  · rw [if_pos h1] at hN ⊢
    subst hN
    rw [spanL_take wordB _ _ (Nat.le_refl _) r hw]
  · rw [if_neg h1] at hN ⊢
    by_cases h2 : digitB (at8 (c :: t) 0) = true
    · rw [if_pos h2] at hN ⊢
      subst hN
      rw [spanL_take digitB _ _ (Nat.le_refl _) r hd]
    · rw [if_neg h2] at hN ⊢
      by_cases h3 : ((decide (at8 (c :: t) 0 = 60) || decide (at8 (c :: t) 0 = 61)) && decide ((1 : Int) < ((c :: t).length : Int)) && decide (at8 (c :: t) 1 = 61)) = true
      · rw [if_pos h3] at hN
        subst hN
        simp only [Bool.and_eq_true, decide_eq_true_eq] at h3
        obtain ⟨d, t, rfl⟩ : ∃ d t', t = d :: t' := by
          cases t with
          | nil => simp at h3
          | cons d t => exact ⟨d, t, rfl⟩
        have e1 : at8 ((c :: d :: t).take 2 ++ r) 1 = at8 (c :: d :: t) 1 := rfl
        have e2 : (1 : Int) < (((c :: d :: t).take 2 ++ r).length : Int) := by simp; omega
        rw [if_pos]
        simp only [e1, e2, Bool.and_eq_true, decide_eq_true_eq]
        exact ⟨⟨h3.1.1, trivial⟩, h3.2⟩
      · rw [if_neg h3] at hN
        by_cases h4 : symB (at8 (c :: t) 0) = true
        · rw [if_pos h4] at hN
          subst hN
          rw [if_neg, if_pos h4]
          have e1 : (c :: t).take 1 ++ r = c :: r := rfl
          show ¬ (_ && decide ((1 : Int) < (((c :: t).take 1 ++ r).length : Int)) && decide (at8 ((c :: t).take 1 ++ r) 1 = 61)) = true
          rw [e1]
          have e2 : at8 (c :: r) 1 = at8 r 0 := rfl
          rw [e2]
          rcases hr with rfl | h
          · simp
          · simp [h]
        · rw [if_neg h4] at hN
          subst hN
          exact absurd rfl hk
/-- The first byte of a token is no white space and opens no comment. -/
theorem nextL_skip (l : List UInt8) (hk : (nextL l).1 ≠ 0) (h0 : 0 < l.length) : skipL false l = 0 := by
  obtain ⟨c, t, rfl⟩ : ∃ c t, l = c :: t := by cases l with | nil => simp at h0 | cons c t => exact ⟨c, t, rfl⟩
  have hc : spaceB (c.toNat : Int) = false ∧ decide ((c.toNat : Int) = 35) = false := by
    unfold nextL at hk
    dsimp only at hk
    rw [at8_cons] at hk
    by_cases h1 : letterB (c.toNat : Int) = true
    · simp [letterB] at h1; simp [spaceB]; omega
    · rw [if_neg h1] at hk
      by_cases h2 : digitB (c.toNat : Int) = true
      · simp [digitB] at h2; simp [spaceB]; omega
      · rw [if_neg h2] at hk
        by_cases h3 : ((decide ((c.toNat : Int) = 60) || decide ((c.toNat : Int) = 61)) && decide ((1 : Int) < ((c :: t).length : Int)) && decide (at8 (c :: t) 1 = 61)) = true
        · simp at h3; simp [spaceB]; omega
        · rw [if_neg h3] at hk
          by_cases h4 : symB (c.toNat : Int) = true
          · simp [symB] at h4; simp [spaceB]; omega
          · rw [if_neg h4] at hk; exact absurd rfl hk
  simp only [skipL, hc.1, hc.2]
/-- What the tokens of a text are: each is what 'nextL' cuts off at some place. -/
def Good (t : Tok) : Prop := ∃ l : List UInt8, 0 < l.length ∧ (nextL l).1 ≠ 0 ∧ ¬ ((nextL l).1 = 1 ∧ 16 < (nextL l).2) ∧ t.kind = ((nextL l).1 : Int) ∧ t.text = l.take (nextL l).2
theorem goT_good (s : List UInt8) (f p : Nat) : ∀ t ∈ (goT s f p).1, Good t := by
  induction f generalizing p with
  | zero => intro t ht; cases ht
  | succ f ih =>
    intro t ht
    simp only [goT] at ht
    by_cases hlt : p < s.length
    · rw [if_pos hlt] at ht
      by_cases hk : (nextL (s.drop p)).1 = 0
      · rw [if_pos hk] at ht; cases ht
      · rw [if_neg hk] at ht
        by_cases hb : (nextL (s.drop p)).1 = 1 ∧ 16 < (nextL (s.drop p)).2
        · rw [if_pos hb] at ht; cases ht
        · rw [if_neg hb] at ht
          rcases List.mem_cons.1 ht with rfl | ht
          · exact ⟨s.drop p, by simp; omega, hk, hb, rfl, rfl⟩
          · exact ih _ t ht
    · rw [if_neg hlt] at ht; cases ht
theorem tokens_good (s : List UInt8) : ∀ t ∈ (tokens s).1, Good t := by
  unfold tokens
  split
  · intro t ht; cases ht
  · dsimp only
    split
    · exact goT_good s _ _
    · intro t ht; cases ht
/-- Texts with blanks between them. -/
def restT : List (List UInt8) → List UInt8
  | [] => []
  | [t] => t
  | t :: u :: ts => t ++ 32 :: restT (u :: ts)
theorem restT_snoc (l : List (List UInt8)) (x : List UInt8) : restT (l ++ [x]) = (if l = [] then [] else restT l ++ [32]) ++ x := by
  induction l with
  | nil => rfl
  | cons y l ih =>
    cases l with
    | nil => simp [restT]
    | cons z l =>
      have e1 : restT (y :: z :: l ++ [x]) = y ++ 32 :: restT (z :: l ++ [x]) := rfl
      have e2 : restT (y :: z :: l) = y ++ 32 :: restT (z :: l) := rfl
      rw [e1, ih, e2]
      simp
theorem joinT_rest (l : List (List UInt8)) (k : Nat) (hk : k ≤ l.length) : joinT l k = restT (l.take k) := by
  induction k with
  | zero => rfl
  | succ k ih =>
    have hlt : k < l.length := by omega
    have hg : l.getD k [] = l[k] := by simp [List.getD_eq_getElem?_getD, hlt]
    rw [List.take_succ_eq_append_getElem hlt, restT_snoc]
    simp only [joinT, hg, ih (by omega)]
    congr 1
    by_cases h : k = 0
    · subst h; rfl
    · rw [if_neg h, if_neg]
      intro he
      have := congrArg List.length he
      rw [List.length_take, List.length_nil] at this; omega
theorem joinS_rest (ts : List Tok) : joinS ts = restT (ts.map Tok.text) := by
  unfold joinS
  rw [joinT_rest _ _ (by simp), List.take_of_length_le (by simp)]
theorem chain_join (s : List UInt8) (ts : List Tok) (a : Nat) (h : Chain s a ts) : (restT (ts.map Tok.text)).length + 2 * a ≤ 2 * s.length := by
  induction ts generalizing a with
  | nil => have := h.1; simp [restT]; omega
  | cons t ts ih =>
    obtain ⟨_, _, h2, _, _, h5⟩ := h
    have h6 := ih _ h5
    have h7 : (restT ((t :: ts).map Tok.text)).length ≤ t.text.length + 1 + (restT (ts.map Tok.text)).length := by
      cases ts with
      | nil => simp [restT]
      | cons u ts => simp [restT]; omega
    omega
theorem good_next (t : Tok) (h : Good t) (r : List UInt8) (hr : r = [] ∨ at8 r 0 = 32) : ((nextL (t.text ++ r)).1 : Int) = t.kind ∧ (nextL (t.text ++ r)).2 = t.text.length ∧ (nextL (t.text ++ r)).1 ≠ 0 ∧ ¬ ((nextL (t.text ++ r)).1 = 1 ∧ 16 < (nextL (t.text ++ r)).2) ∧ 0 < t.text.length := by
  obtain ⟨l, h0, hk, hb, e1, e2⟩ := h
  have hle := nextL_le l h0
  have hpos := nextL_pos l h0 hk
  rw [e2, nextL_take l h0 hk r hr]
  have : (l.take (nextL l).2).length = (nextL l).2 := by simp; omega
  exact ⟨e1.symm, this.symm, hk, hb, by rw [this]; exact hpos⟩
theorem rest_skip (ts : List Tok) (h : ∀ t ∈ ts, Good t) : skipL false (restT (ts.map Tok.text)) = 0 := by
  have key : ∀ (t : Tok) (r : List UInt8), Good t → (r = [] ∨ at8 r 0 = 32) → skipL false (t.text ++ r) = 0 := fun t r ht hr => by
    obtain ⟨_, _, hk, _, hp⟩ := good_next t ht r hr
    exact nextL_skip _ hk (by simp; omega)
  cases ts with
  | nil => rfl
  | cons t ts =>
    have ht := h t (by simp)
    cases ts with
    | nil => have := key t [] ht (.inl rfl); rwa [List.append_nil] at this
    | cons u ts => exact key t (32 :: restT ((u :: ts).map Tok.text)) ht (.inr rfl)
theorem goT_join (S : List UInt8) (ts : List Tok) (h : ∀ t ∈ ts, Good t) : ∀ (f p : Nat), p ≤ S.length → S.length < p + f → S.drop p = restT (ts.map Tok.text) →
    sameT false ts (goT S f p).1 = true ∧ (goT S f p).2 = (0, 0) := by
  induction ts with
  | nil =>
    intro f p hp hf hd
    have hge : S.length ≤ p := by have := congrArg List.length hd; simp [restT] at this; omega
    have e : goT S f p = ([], 0, 0) := by
      cases f with
      | zero => rfl
      | succ f => simp only [goT]; rw [if_neg (by omega)]
    rw [e]; exact ⟨rfl, rfl⟩
  | cons t ts ih =>
    intro f p hp hf hd
    have ht := h t (by simp)
    obtain ⟨r, hr, hr2, hr3⟩ : ∃ r, (r = [] ∨ at8 r 0 = 32) ∧ restT ((t :: ts).map Tok.text) = t.text ++ r ∧ (ts = [] ∧ r = [] ∨ ts ≠ [] ∧ r = 32 :: restT (ts.map Tok.text)) := by
      cases ts with
      | nil => exact ⟨[], .inl rfl, by simp [restT], .inl ⟨rfl, rfl⟩⟩
      | cons u ts => exact ⟨32 :: restT ((u :: ts).map Tok.text), .inr rfl, rfl, .inr ⟨by simp, rfl⟩⟩
    rw [hr2] at hd
    obtain ⟨g1, g2, g3, g4, g5⟩ := good_next t ht r hr
    rw [← hd] at g1 g2 g3 g4
    have hlen : S.length = p + t.text.length + r.length := by have := congrArg List.length hd; simp at this; omega
    obtain ⟨f, rfl⟩ : ∃ f', f = f' + 1 := ⟨f - 1, by omega⟩
    have hdr : S.drop (p + t.text.length) = r := by rw [← List.drop_drop, hd, List.drop_left]
    have hgo : goT S (f + 1) p = (⟨(nextL (S.drop p)).1, p, (S.drop p).take (nextL (S.drop p)).2⟩ :: (goT S f (p + t.text.length + skipL false r)).1, (goT S f (p + t.text.length + skipL false r)).2) := by
      simp only [goT]
      rw [if_pos (by omega), if_neg g3, if_neg g4, g2, hdr]
    have htk : (S.drop p).take t.text.length = t.text := by rw [hd, List.take_left]
    obtain ⟨h1, h2⟩ : sameT false ts (goT S f (p + t.text.length + skipL false r)).1 = true ∧ (goT S f (p + t.text.length + skipL false r)).2 = (0, 0) := by
      rcases hr3 with ⟨rfl, rfl⟩ | ⟨hne, rfl⟩
      · refine ih (fun t ht => by cases ht) f _ (by simp [skipL]; omega) (by simp [skipL]; omega) ?_
        rw [List.drop_eq_nil_of_le (by simp at hlen; omega)]; rfl
      · have hsk : skipL false (32 :: restT (ts.map Tok.text)) = 1 := by
          have e := rest_skip ts (fun t ht => h t (by simp [ht]))
          show skipL false (restT (ts.map Tok.text)) + 1 = 1
          rw [e]
        rw [hsk]
        simp only [List.length_cons] at hlen
        refine ih (fun t ht => h t (by simp [ht])) f _ (by omega) (by omega) ?_
        rw [← List.drop_drop, hdr]; rfl
    rw [hgo]
    refine ⟨?_, h2⟩
    simp only [sameT, h1, g1, g2, htk]
    simp
theorem tokens_join (ts : List Tok) (h : ∀ t ∈ ts, Good t) (hl : (joinS ts).length ≤ 65536) : sameT false ts (tokens (joinS ts)).1 = true ∧ (tokens (joinS ts)).2 = (0, 0) := by
  have hsk : skipL false (joinS ts) = 0 := by rw [joinS_rest]; exact rest_skip ts h
  obtain ⟨h1, h2⟩ := goT_join (joinS ts) ts h ((joinS ts).length + 1) 0 (by omega) (by omega) (by rw [List.drop_zero, joinS_rest])
  unfold tokens
  rw [if_neg (by omega), hsk]
  dsimp only
  rw [h2]
  exact ⟨h1, rfl⟩
end Go.Vc
namespace Go.Proofs.YtndiieicjjifkaaDoor
open Go Go.RowKit Go.Vc
theorem law5 (s : List UInt8) (w : World) (hT : Tabs w) : RetV Tryd.prog 5 #[str s] w (.bool true) := by
  refine ofV (vc5 s w _ ⟨fun _ => (examples_c w hT).use fun w1 h1 => ⟨_, rfl, h1, rfl, h1⟩, fun hlen => (tokenize_c s w).mono ?_⟩)
  have hlen : s.length ≤ 5000 := by simp at hlen; omega
  rintro _ w1 ⟨A, n, c, rfl, rfl, hS, h1⟩
  refine ⟨_, _, _, _, _, rfl, h1, fun he => ?_, fun he => ?_⟩
  · have he : (tokens s).2.2 ≠ 0 := by simp at he; exact he
    have hnil := tokens_none s he
    rw [hnil]
    refine ⟨fun r _ => r = true, fun _ => (examples_c w1 (hT.ext h1)).use fun w2 h2 => ⟨_, rfl, h2, rfl⟩, fun r w2 h2 hq => ⟨?_, h1.trans' h2⟩⟩
    have := hq rfl
    subst this
    rfl
  · have he : (tokens s).2.2 = 0 := by simp at he; exact he
    have hch := tokens_chain s (by omega) he
    have hgood := tokens_good s
    generalize hts : (tokens s).1 = ts at *
    have hcl := chain_le s ts 0 hch
    have hj := chain_join s ts 0 hch
    rw [← joinS_rest] at hj
    obtain ⟨g1, g2⟩ := tokens_join ts hgood (by omega)
    refine (join_c A c ts w1 (by omega) (by omega) hS).use fun w2 h2 => ⟨_, rfl, h2, (tokenize_c _ w2).mono ?_⟩
    rintro _ w3 ⟨A2, n2, c2, rfl, rfl, hS2, h3⟩
    rw [g2]
    refine ⟨_, _, _, _, _, rfl, h3, fun r _ => r = true, fun _ => (same_c A A2 c c2 _ _ false w3 (by omega) (hS.ext (h2.trans' h3)) hS2).use fun w4 h4 => ⟨_, rfl, h4, g1⟩, fun r w4 h4 hq => ?_⟩
    have := hq rfl
    subst this
    refine ⟨fun r _ => r = true, fun _ => (examples_c w4 (hT.ext (h1.trans' (h2.trans' (h3.trans' h4))))).use fun w5 h5 => ⟨_, rfl, h5, rfl⟩, fun r w5 h5 hq2 => ⟨?_, h1.trans' (h2.trans' (h3.trans' (h4.trans' h5)))⟩⟩
    have := hq2 rfl
    subst this
    rfl
end Go.Proofs.YtndiieicjjifkaaDoor
