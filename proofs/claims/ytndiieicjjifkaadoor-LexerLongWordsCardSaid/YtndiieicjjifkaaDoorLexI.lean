/- The laws 13.2 (Words) and 13.1 (LongWords). -/
import Derived.Test.YtndiieicjjifkaaDoorLexG
import Derived.Test.YtndiieicjjifkaaDoorFnsW
namespace Go.Vc
open Go Go.RowKit
theorem joinT_bound (l : List (List UInt8)) (h : ∀ x ∈ l, x.length ≤ 100) (k : Nat) : (joinT l k).length ≤ 101 * k := by
  induction k with
  | zero => simp [joinT]
  | succ k ih =>
    rw [joinT_step]
    have hg : (l.getD k []).length ≤ 100 := by
      by_cases hk : k < l.length
      · have e : l.getD k [] = l[k] := by simp [List.getD_eq_getElem?_getD, hk]
        rw [e]; exact h _ (List.getElem_mem hk)
      · have e : l.getD k [] = [] := by simp [List.getD_eq_getElem?_getD, Nat.le_of_not_lt hk]
        rw [e]; simp
    split <;> omega
theorem spanL_all (p : Int → Bool) (l : List UInt8) (h : ∀ b ∈ l, p (b.toNat : Int) = true) : spanL p l = l.length := by
  induction l with
  | nil => rfl
  | cons c l ih =>
    have hc := h c (by simp)
    simp only [spanL, hc, List.length_cons]
    rw [ih fun b hb => h b (by simp [hb])]
theorem tokens_one (pre l : List UInt8) (k : Nat) (h0 : 0 < l.length) (hsk : skipL false (pre ++ l) = pre.length) (hn : nextL l = (k, l.length)) (hk : k ≠ 0) (hl : pre.length + l.length ≤ 65536) :
    tokens (pre ++ l) = if k = 1 ∧ 16 < l.length then ([], pre.length, 2) else ([⟨k, pre.length, l⟩], 0, 0) := by
  have hd : (pre ++ l).drop pre.length = l := List.drop_left
  have hlen : (pre ++ l).length = pre.length + l.length := List.length_append
  have hg1 : goT (pre ++ l) (pre.length + l.length + 1) pre.length = if k = 1 ∧ 16 < l.length then ([], pre.length, 2) else ([⟨k, pre.length, l⟩], 0, 0) := by
    simp only [goT]
    rw [if_pos (by omega), hd, hn]
    dsimp only
    rw [if_neg hk]
    by_cases h1 : k = 1 ∧ 16 < l.length
    · rw [if_pos h1, if_pos h1]
    · rw [if_neg h1, if_neg h1]
      have he : (pre ++ l).drop (pre.length + l.length) = [] := List.drop_eq_nil_of_le (by omega)
      rw [he]
      have hg : ∀ f, goT (pre ++ l) f (pre.length + l.length + skipL false []) = ([], 0, 0) := fun f => by
        cases f with
        | zero => rfl
        | succ f => simp only [goT]; rw [if_neg (by simp [skipL])]
      rw [hg]
      simp
  unfold tokens
  rw [if_neg (by omega), hsk, hlen, hg1]
  by_cases h1 : k = 1 ∧ 16 < l.length
  · rw [if_pos h1]; rfl
  · rw [if_neg h1]; rfl
theorem tokens_number (l : List UInt8) (h0 : 0 < l.length) (hd : ∀ b ∈ l, digitB (b.toNat : Int) = true) (hl : l.length ≤ 60000) : tokens l = ([⟨2, 0, l⟩], 0, 0) := by
  obtain ⟨c, t, rfl⟩ : ∃ c t, l = c :: t := by cases l with | nil => simp at h0 | cons c t => exact ⟨c, t, rfl⟩
  have hc := hd c (by simp)
  have h := tokens_one [] (c :: t) 2 h0 ?_ ?_ (by decide) (by simp at hl ⊢; omega)
  · simpa using h
  · have h1 : spaceB (c.toNat : Int) = false := by simp [digitB] at hc; simp [spaceB]; omega
    have h2 : decide ((c.toNat : Int) = 35) = false := by simp [digitB] at hc; simp; omega
    simp only [List.nil_append, skipL, h1, h2]; rfl
  · unfold nextL
    dsimp only
    rw [at8_cons, if_neg (by simp [digitB] at hc; simp [letterB]; omega), if_pos hc, spanL_all digitB _ hd]
theorem tokens_word (l : List UInt8) (h0 : 0 < l.length) (hf : letterB (at8 l 0) = true) (hw : ∀ b ∈ l, wordB (b.toNat : Int) = true) (hl : l.length ≤ 60000) : tokens ([32, 32] ++ l) = if 16 < l.length then ([], 2, 2) else ([⟨1, 2, l⟩], 0, 0) := by
  obtain ⟨c, t, rfl⟩ : ∃ c t, l = c :: t := by cases l with | nil => simp at h0 | cons c t => exact ⟨c, t, rfl⟩
  have h := tokens_one [32, 32] (c :: t) 1 h0 ?_ ?_ (by decide) (by simp at hl ⊢; omega)
  · rw [h]; simp
  · rw [at8_cons] at hf
    have h1 : spaceB (c.toNat : Int) = false := by simp [letterB] at hf; simp [spaceB]; omega
    have h2 : decide ((c.toNat : Int) = 35) = false := by simp [letterB] at hf; simp; omega
    show skipL false (c :: t) + 1 + 1 = 2
    simp only [skipL, h1, h2]
  · unfold nextL
    dsimp only
    rw [if_pos hf, spanL_all wordB _ hw]
end Go.Vc
namespace Go.Proofs.YtndiieicjjifkaaDoor
open Go Go.RowKit Go.Vc
theorem law4 (A : Option Addr) (c : Nat) (ts : List Tok) (s : List UInt8) (w : World) (hS : SlR w A ts.length 3 (toksV ts)) (hT : Tabs w) : RetV Tryd.prog 4 #[.slice A ts.length c, str s] w (.bool true) := by
  refine ofV (vc4 A _ c s w _ ⟨fun _ => (examples_c w hT).use fun w1 h1 => ⟨_, rfl, h1, rfl, h1⟩, fun hc => ?_⟩)
  have hc : ts.length ≤ 200 ∧ s.length ≤ 100 := by simp at hc; omega
  refine ⟨fun i w' => SlR w' A ts.length 3 (toksV ts) ∧ ∃ k : Nat, i = k ∧ k ≤ ts.length ∧ ∀ j (hj : j < ts.length), j < k → (ts[j]).text.length ≤ 100, fun i => ts.length - i.toNat, ⟨hS, 0, rfl, by omega, fun j hj h => absurd h (by omega)⟩, ?_⟩
  rintro i w2 hx ⟨hS2, k, rfl, hk, hb⟩
  simp only [Int.toNat_natCast]
  refine ⟨fun h => ?_, fun h => ?_⟩
  · have hlt : k < ts.length := by simp at h; omega
    obtain ⟨ad, hA, hc1⟩ := tok_cells hS2 hlt
    refine ⟨by omega, ad, hA, _, _, _, hc1, fun _ => (examples_c w2 (hT.ext hx)).use fun w3 h3 => ⟨_, rfl, h3, rfl, hx.trans' h3⟩, fun hl => ⟨by simp [R64]; omega, ⟨hS2, k + 1, by omega, by omega, fun j hj hjk => ?_⟩, by omega⟩⟩
    rcases Nat.lt_or_ge j k with h1 | h1
    · exact hb j hj h1
    · have : j = k := by omega
      subst this
      simp only [decide_eq_false_iff_not] at hl
      omega
  · have hk' : k = ts.length := by simp at h; omega
    subst hk'
    have hjb : (joinS ts).length ≤ 1000000000 := by
      have := joinT_bound (ts.map Tok.text) (fun x hx => by
        obtain ⟨t, ht, rfl⟩ := List.mem_map.1 hx
        obtain ⟨j, hj, rfl⟩ := List.getElem_of_mem ht
        exact hb j hj hj) ts.length
      unfold joinS; omega
    refine (join_c A c ts w2 (by omega) hjb hS2).use fun w4 h4 => ⟨_, rfl, h4, (rjoin_c A c ts w4 (by omega) hjb (hS2.ext h4)).use fun w5 h5 => ⟨_, rfl, h5, ?_⟩⟩
    have t5 := hT.ext (hx.trans' (h4.trans' h5))
    refine ⟨fun r _ => r = nameB s, fun _ => (isName_c s w5 t5).use fun w6 h6 => ⟨_, rfl, h6, rfl⟩, fun r5 w6 h6 q5 => ?_⟩
    have e5 := q5 (by simp)
    subst e5
    refine ⟨fun r _ => r = nameB s, fun _ => (risName_c s w6).use fun w7 h7 => ⟨_, rfl, h7, rfl⟩, fun r6 w7 h7 q6 => ?_⟩
    have e6 := q6 (by simp)
    subst e6
    refine ⟨fun r _ => r = words.contains s, fun _ => (isKeyword_c s w7 (t5.ext (h6.trans' h7))).use fun w8 h8 => ⟨_, rfl, h8, rfl⟩, fun r7 w8 h8 q7 => ?_⟩
    have e7 := q7 (by simp)
    subst e7
    refine ⟨fun r _ => r = words.contains s, fun _ => (risKeyword_c s w8).use fun w9 h9 => ⟨_, rfl, h9, rfl⟩, fun r8 w9 h9 q8 => ?_⟩
    have e8 := q8 (by simp)
    subst e8
    refine ⟨fun r _ => r = true, fun _ => (examples_c w9 (t5.ext (h6.trans' (h7.trans' (h8.trans' h9))))).use fun w10 h10 => ⟨_, rfl, h10, rfl⟩, fun r9 w10 h10 q9 => ⟨?_, hx.trans' (h4.trans' (h5.trans' (h6.trans' (h7.trans' (h8.trans' (h9.trans' h10))))))⟩⟩
    have e9 := q9 (by simp)
    subst e9
    simp

theorem abz (i : Nat) (hi : i < 7) : wordB (at8 [97, 98, 122, 48, 49, 57, 95] i) = true := by
  have : ∀ i < 7, wordB (at8 [97, 98, 122, 48, 49, 57, 95] i) = true := by decide
  exact this i hi
theorem law7 (n first other : Int) (hn : 0 ≤ n ∧ n ≤ 65535) (hf : 0 ≤ first ∧ first ≤ 255) (ho : 0 ≤ other ∧ other ≤ 255) (w : World) (hT : Tabs w) : RetV Tryd.prog 7 #[.int .u16 n, .int .u8 first, .int .u8 other] w (.bool true) := by
  have r1 : n.tmod 300 = n % 300 := Int.tmod_eq_emod_of_nonneg hn.1
  have r2 : first.tmod 26 = first % 26 := Int.tmod_eq_emod_of_nonneg hf.1
  have r3 : first.tmod 10 = first % 10 := Int.tmod_eq_emod_of_nonneg hf.1
  have r4 : other.tmod 7 = other % 7 := Int.tmod_eq_emod_of_nonneg ho.1
  have r5 : other.tmod 10 = other % 10 := Int.tmod_eq_emod_of_nonneg ho.1
  refine ofV (vc7 n first other w _ ?_)
  simp only [r1, r2, r3, r4, r5]
  have b1 := b8 (q := 97 + first % 26) (by omega)
  have b2 := b8 (q := 48 + first % 10) (by omega)
  have hat := at8_range [97, 98, 122, 48, 49, 57, 95] (other % 7).toNat
  have b3 := b8 hat
  have b4 := b8 (q := 48 + other % 10) (by omega)
  have hw3 := abz (other % 7).toNat (by omega)
  obtain ⟨m, hm⟩ : ∃ m : Nat, 1 + n % 300 = (m : Int) := ⟨(1 + n % 300).toNat, by omega⟩
  have hm1 : 1 ≤ m ∧ m ≤ 300 := by omega
  simp only [hm]
  generalize hc3 : UInt8.ofNat (Int.toNat (at8 [97, 98, 122, 48, 49, 57, 95] (other % 7).toNat)) = c3 at *
  generalize hc1 : UInt8.ofNat (Int.toNat (97 + first % 26)) = c1 at *
  generalize hc2 : UInt8.ofNat (Int.toNat (48 + first % 10)) = c2 at *
  generalize hc4 : UInt8.ofNat (Int.toNat (48 + other % 10)) = c4 at *
  refine ⟨by simp [R64]; omega, by simp [R64]; omega, by simp [RU8]; omega, by omega, by simp [RU8]; omega, by omega, fun w2 h2 => ⟨fun word number i _ => ∃ k : Nat, i = k ∧ 1 ≤ k ∧ k ≤ m ∧ word.length = k ∧ number.length = k ∧ letterB (at8 word 0) = true ∧ (∀ b ∈ word, wordB (b.toNat : Int) = true) ∧ ∀ b ∈ number, digitB (b.toNat : Int) = true, fun _ _ i => m - i.toNat, ⟨1, rfl, by omega, by omega, rfl, rfl, ?_, ?_, ?_⟩, ?_⟩⟩
  · show letterB (c1.toNat : Int) = true
    rw [b1]; simp [letterB]; omega
  · intro b hb
    simp at hb
    subst hb
    rw [b1]; simp [wordB, letterB, digitB]; omega
  · intro b hb
    simp at hb
    subst hb
    rw [b2]; simp [digitB]; omega
  · rintro word number i w3 hx ⟨k, rfl, hk1, hk, hwl, hnl, hlet, hword, hnum⟩
    refine ⟨fun h => ?_, fun h => ?_⟩
    · have hlt : k < m := by simp at h; omega
      refine ⟨by simp; omega, hat, by simp; omega, by simp [RU8]; omega, by omega, by simp; omega, by simp [R64]; omega, fun w5 h5 => ⟨⟨k + 1, by omega, by omega, by omega, by simp [hwl], by simp [hnl], ?_, ?_, ?_⟩, by simp; omega⟩⟩
      · obtain ⟨c, t, rfl⟩ : ∃ c t, word = c :: t := by cases word with | nil => simp at hwl; omega | cons c t => exact ⟨c, t, rfl⟩
        exact hlet
      · intro b hb
        rcases List.mem_append.1 hb with hb | hb
        · exact hword b hb
        · simp at hb; subst hb; rw [b3]; exact hw3
      · intro b hb
        rcases List.mem_append.1 hb with hb | hb
        · exact hnum b hb
        · simp at hb; subst hb; rw [b4]; simp [digitB]; omega
    · have hkm : k = m := by simp at h; omega
      subst hkm
      have etw := tokens_word word (by omega) hlet hword (by omega)
      have etn := tokens_number number (by omega) hnum (by omega)
      have hname : nameB word = (decide (word.length ≤ 16) && !words.contains word) := by
        have hne : word ≠ [] := fun h => by simp [h] at hwl; omega
        unfold nameB
        rw [hlet, spanL_all wordB _ hword]; simp [hne]
      refine ⟨by simp; omega, (tokenize_c _ w3).mono ?_⟩
      rintro _ w6 ⟨A, n1, c, rfl, rfl, hS, h6⟩
      refine ⟨_, _, _, _, _, rfl, h6, (tokenize_c _ w6).mono ?_⟩
      rintro _ w7 ⟨A2, n2, c2', rfl, rfl, hS2, h7⟩
      have hS7 := hS.ext h7
      have t7 := hT.ext (hx.trans' (h6.trans' h7))
      rw [etn] at hS2 ⊢
      obtain ⟨ad, hA, hcc⟩ := tok_cells (i := 0) hS2 (by simp)
      refine ⟨_, _, _, _, _, rfl, h7, fun _ => by simp, ad, fun _ => hA, _, _, _, fun _ => hcc, fun hbad => by simp at hbad, fun _ => ⟨fun hbig => ?_, fun hsm => ?_⟩⟩
      · have hbig : 16 < word.length := by simp at hbig; omega
        rw [if_pos hbig] at etw
        rw [etw]
        refine ⟨fun r _ => r = nameB word, fun _ => (isName_c word w7 t7).use fun w8 h8 => ⟨_, rfl, h8, rfl⟩, fun r w8 h8 q => ?_⟩
        have e := q (by simp)
        have e2 : nameB word = false := by rw [hname]; simp; omega
        rw [e2] at e
        subst e
        refine ⟨fun r _ => r = true, fun _ => (examples_c w8 (t7.ext h8)).use fun w9 h9 => ⟨_, rfl, h9, rfl⟩, fun r w9 h9 q => ⟨?_, hx.trans' (h6.trans' (h7.trans' (h8.trans' h9)))⟩⟩
        have e := q (by simp)
        subst e
        simp
      · have hsm : ¬ 16 < word.length := by simp at hsm; omega
        rw [if_neg hsm] at etw
        rw [etw] at hS7 ⊢
        obtain ⟨ad', hA', hcc'⟩ := tok_cells (i := 0) hS7 (by simp)
        refine ⟨fun _ => by simp, ad', fun _ => hA', _, _, _, fun _ => hcc', fun r _ => r = nameB word, fun _ => (isName_c word w7 t7).use fun w8 h8 => ⟨_, rfl, h8, rfl⟩, fun r w8 h8 q => ?_⟩
        have e := q (by simp)
        subst e
        refine ⟨fun r _ => r = words.contains word, fun _ => (isKeyword_c word w8 (t7.ext h8)).use fun w9 h9 => ⟨_, rfl, h9, rfl⟩, fun r w9 h9 q => ?_⟩
        have e := q (by simp)
        subst e
        have e3 : (nameB word != words.contains word) = true := by
          rw [hname]
          have : word.length ≤ 16 := by omega
          cases words.contains word <;> simp [this]
        refine ⟨fun r _ => r = true, fun _ => (examples_c w9 (t7.ext (h8.trans' h9))).use fun w10 h10 => ⟨_, rfl, h10, rfl⟩, fun r w10 h10 q => ⟨?_, hx.trans' (h6.trans' (h7.trans' (h8.trans' (h9.trans' h10))))⟩⟩
        have e := q (by rw [e3]; simp)
        subst e
        rw [e3]
        simp
theorem law7w (n : Int) (wn : (Lit.int .u16 n).wf = true) (first : Int) (wf : (Lit.int .u8 first).wf = true) (other : Int) (wo : (Lit.int .u8 other).wf = true) (w : World) (hT : Tabs w) : RetV Tryd.prog 7 #[.int .u16 n, .int .u8 first, .int .u8 other] w (.bool true) := by
  have k1 : IntKind.min .u16 = 0 ∧ IntKind.max .u16 = 65535 := ⟨rfl, rfl⟩
  have k2 : IntKind.min .u8 = 0 ∧ IntKind.max .u8 = 255 := ⟨rfl, rfl⟩
  simp only [Lit.wf, k1.1, k1.2, k2.1, k2.2, Bool.and_eq_true, decide_eq_true_eq] at wn wf wo
  exact law7 n first other wn wf wo w hT
end Go.Proofs.YtndiieicjjifkaaDoor
