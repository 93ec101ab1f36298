/- The reference's Tokenize, and the comparison of lists of tokens. -/
import Derived.Test.YtndiieicjjifkaaDoorLexC
namespace Go.Vc
open Go Go.RowKit
theorem spanL_step (p : Int → Bool) (s : List UInt8) (k : Nat) (hk : k < s.length) : spanL p (s.drop k) = if p (at8 s k) = true then spanL p (s.drop (k + 1)) + 1 else 0 := by
  obtain ⟨c, hd, hc⟩ := drop_cons s k hk
  rw [hd, hc]
  simp only [spanL]
  cases p (c.toNat : Int) <;> rfl
theorem spanL_end (p : Int → Bool) (s : List UInt8) (k : Nat) (hk : s.length ≤ k) : spanL p (s.drop k) = 0 := by rw [List.drop_eq_nil_of_le hk]; rfl
/-- Two lists of tokens, compared as the law does. -/
def sameT : Bool → List Tok → List Tok → Bool
  | _, [], [] => true
  | b, x :: l, y :: m => (decide (x.kind = y.kind) && decide (x.text = y.text) && (!b || decide (x.at_ = y.at_))) && sameT b l m
  | _, _, _ => false
theorem sameT_refl (b : Bool) (l : List Tok) : sameT b l l = true := by
  induction l with
  | nil => rfl
  | cons x l ih => simp [sameT, ih]
theorem sameT_len (b : Bool) : ∀ l m : List Tok, l.length ≠ m.length → sameT b l m = false
  | [], [], h => absurd rfl h
  | [], _ :: _, _ => rfl
  | _ :: _, [], _ => rfl
  | x :: l, y :: m, h => by simp [sameT, sameT_len b l m (by simpa using h)]
end Go.Vc
namespace Go.Proofs.YtndiieicjjifkaaDoor
open Go Go.RowKit Go.Vc
theorem run_c (s : List UInt8) (hs : s.length ≤ 100000) (w : World) : RetV Tryd.prog 21 #[str s] w (.tuple #[.int .i64 ((runL s).1 : Nat), .int .i64 ((runL s).2 : Nat)]) := by
  refine ofV (vc21 s w _ ?_)
  rcases Nat.eq_zero_or_pos s.length with h0 | h0
  · have hnil : s = [] := List.eq_nil_of_length_eq_zero h0
    subst hnil
    refine ⟨fun h => by simp at h, fun _ _ => True, fun h => by simp at h, fun r1 w1 h1 _ => ⟨fun h => by simp at h, fun _ _ => True, fun h => by simp at h, fun r2 w2 h2 _ => ⟨fun _ => ⟨rfl, h1.trans' h2⟩, fun h => by simp at h⟩⟩⟩
  · have hne : s ≠ [] := fun h => by simp [h] at h0
    have hz : Int.toNat 0 = 0 := rfl
    simp only [hz]
    refine ⟨fun _ => by omega, fun r _ => r = letterB (at8 s 0), fun _ => (rletter_c _ w).use fun w1 h1 => ⟨_, rfl, h1, rfl⟩, fun r1 w1 h1 hq1 => ⟨fun _ => by omega, fun r _ => r = digitB (at8 s 0), fun _ => (rdigit_c _ w1).use fun w2 h2 => ⟨_, rfl, h2, rfl⟩, fun r2 w2 h2 hq2 => ?_⟩⟩
    simp only [hne, decide_false, Bool.not_false, Bool.true_and, Bool.false_or, forall_const] at hq1 hq2 ⊢
    subst hq1
    refine ⟨fun hc => ?_, fun hc => ?_⟩
    · simp at hc
      have hd := hq2 (by simp [hc.1])
      rw [hc.2] at hd
      exact ⟨by simp [runL, hc.1, ← hd], h1.trans' h2⟩
    · refine ⟨fun k w' => Ext w w' ∧ k = if letterB (at8 s 0) then 1 else 2, ⟨by omega, (rletter_c _ w2).use fun w7 h7 => ⟨_, rfl, h7, fun hl => ⟨(h1.trans' h2).trans' h7, by rw [if_pos hl]⟩, fun hl => ⟨(h1.trans' h2).trans' h7, by rw [if_neg (by rw [hl]; decide)]⟩⟩⟩, ?_⟩
      rintro kind w3 ⟨hx3, rfl⟩
      obtain ⟨p, hp1, hp2⟩ : ∃ p : Int → Bool, (runL s = (spanL p s, if letterB (at8 s 0) then 1 else 2)) ∧ (letterB (at8 s 0) = true → p = wordB) ∧ (letterB (at8 s 0) = false → p = digitB) := by
        by_cases hl : letterB (at8 s 0) = true
        · exact ⟨wordB, by simp [runL, hl, h0], fun _ => rfl, fun h => by rw [hl] at h; cases h⟩
        · rw [Bool.not_eq_true] at hl
          have hd : digitB (at8 s 0) = true := by
            have := hq2 (by simp [hl])
            rw [← this]
            simpa [hl] using hc
          exact ⟨digitB, by simp [runL, hl, hd, h0], fun h => (by rw [hl] at h; cases h), fun _ => rfl⟩
      refine ⟨fun n _ => ∃ k : Nat, n = k ∧ k ≤ s.length ∧ spanL p s = k + spanL p (s.drop k), fun n => s.length - n.toNat, ⟨0, rfl, by omega, by simp⟩, ?_⟩
      rintro n w4 hx4 ⟨k, rfl, hk, he⟩
      simp only [Int.toNat_natCast]
      refine ⟨fun h => by simp at h; omega, fun r _ => r = digitB (at8 s k), fun _ => (rdigit_c _ w4).use fun w5 h5 => ⟨_, rfl, h5, rfl⟩, fun r3 w5 h5 hq3 => ⟨fun h => by simp at h; omega, fun r _ => r = letterB (at8 s k), fun _ => (rletter_c _ w5).use fun w6 h6 => ⟨_, rfl, h6, rfl⟩, fun r4 w6 h6 hq4 => ⟨fun h => by simp at h; omega, ?_⟩⟩⟩
      have hval : ((decide ((k : Int) < (s.length : Int))) && (r3 || ((decide ((if letterB (at8 s 0) then (1 : Int) else 2) = 1)) && (r4 || (decide (at8 s k = 95)))))) = (decide (k < s.length) && p (at8 s k)) := by
        by_cases hlt : k < s.length
        · have hlt' : (k : Int) < (s.length : Int) := by omega
          simp only [hlt, hlt', decide_true, Bool.true_and, forall_const] at hq3 hq4 ⊢
          subst hq3
          by_cases hl : letterB (at8 s 0) = true
          · rw [hp2.1 hl]
            simp only [hl, if_true, decide_true, Bool.true_and, Bool.and_true] at hq4 ⊢
            unfold wordB
            cases hd : digitB (at8 s k) with
            | true => simp
            | false => rw [hq4 (by simp [hd])]; simp
          · rw [Bool.not_eq_true] at hl
            rw [hp2.2 hl]
            simp [hl]
        · have hlt' : ¬ (k : Int) < (s.length : Int) := by omega
          simp [hlt, hlt']
      have hkind : (if letterB (at8 s 0) = true then (1 : Int) else 2) = (((runL s).2 : Nat) : Int) := by rw [hp1]; cases letterB (at8 s 0) <;> rfl
      refine ⟨fun hc => ?_, fun hc => ?_⟩
      · rw [hval] at hc
        simp at hc
        refine ⟨by simp [R64]; omega, ⟨k + 1, by omega, by omega, ?_⟩, by omega⟩
        rw [he, spanL_step p s k hc.1, if_pos hc.2]; omega
      · rw [hval] at hc
        have he' : spanL p s = k := by
          rcases Nat.lt_or_ge k s.length with hlt | hge
          · have : p (at8 s k) = false := by simpa [hlt] using hc
            rw [he, spanL_step p s k hlt, this]; simp
          · rw [he, spanL_end p s k hge]; rfl
        refine ⟨?_, hx4.trans' (h5.trans' h6)⟩
        rw [hkind]
        congr 5
        rw [hp1, he']

theorem rtokenize_c (s : List UInt8) (w : World) : Calls Tryd.prog 10 #[str s] w (TokR s w) := by
  suffices h : Calls Tryd.prog 10 #[str s] w fun e w' => ∃ v, e = .returned v ∧ TokR s w (.returned v) w' from h.mono fun _ _ ⟨v, h1, h2⟩ => h1 ▸ h2
  refine vc10 s w _ ⟨fun h => ?_, fun h => ?_⟩
  · simp at h
    have e : tokens s = ([], 0, 2) := by unfold tokens; rw [if_pos (by omega)]
    exact ⟨none, 0, 0, by rw [e]; rfl, by rw [e]; rfl, by rw [e]; exact SlR.nil, .rfl'⟩
  · simp at h
    have hlen : s.length ≤ 65536 := by omega
    have etok : tokens s = if (goT s (s.length + 1) (skipL false s)).2.2 = 0 then ((goT s (s.length + 1) (skipL false s)).1, 0, 0) else ([], (goT s (s.length + 1) (skipL false s)).2.1, (goT s (s.length + 1) (skipL false s)).2.2) := by
      unfold tokens; rw [if_neg (by omega)]
    have hs0 := rskip_c s (by omega) 0 (by omega) w
    rw [List.drop_zero, Nat.zero_add] at hs0
    refine hs0.use fun w1 h1 => ⟨_, rfl, h1, ?_⟩
    generalize hG : goT s (s.length + 1) (skipL false s) = G at etok
    have hp0 := skipL_le false s
    refine ⟨fun A n c xs at_ M w' => ∃ (p f : Nat) (ts : List Tok), at_ = p ∧ p ≤ s.length ∧ s.length < p + f ∧ xs = toksV ts ∧ n = ts.length ∧ ts.length ≤ p ∧ G = (ts ++ (goT s f p).1, (goT s f p).2), fun A n c xs at_ => s.length - at_.toNat, ⟨skipL false s, s.length + 1, [], rfl, hp0, by omega, rfl, rfl, by simp, by simp [hG]⟩, ?_⟩
    rintro A n c xs at_ M w2 hS ⟨p, f, ts, rfl, hp, hf, rfl, rfl, hn, hGe⟩
    simp only [Int.toNat_natCast]
    refine ⟨fun hlt => ?_, fun hge hO => ?_⟩
    · simp at hlt
      obtain ⟨f, rfl⟩ : ∃ f', f = f' + 1 := ⟨f - 1, by omega⟩
      have hdl : (s.drop p).length = s.length - p := by simp
      have hle := nextL_le (s.drop p) (by omega)
      have hpos := nextL_pos (s.drop p) (by omega)
      have hnr := next_ref (s.drop p) (by omega)
      have hgo : goT s (f + 1) p = if (nextL (s.drop p)).1 = 0 then ([], p, 5) else if (nextL (s.drop p)).1 = 1 ∧ 16 < (nextL (s.drop p)).2 then ([], p, 2) else
          (⟨(nextL (s.drop p)).1, p, (s.drop p).take (nextL (s.drop p)).2⟩ :: (goT s f (p + (nextL (s.drop p)).2 + skipL false (s.drop (p + (nextL (s.drop p)).2)))).1, (goT s f (p + (nextL (s.drop p)).2 + skipL false (s.drop (p + (nextL (s.drop p)).2)))).2) := by
        simp only [goT]; rw [if_pos hlt]
      refine ⟨by omega, (run_c (s.drop p) (by omega) w2).use fun w3 h3 => ⟨_, _, rfl, h3, fun n' k' M' w' => Ext w2 w' ∧ M' = M ∧ Stp noM w M' w' ∧ ∃ a b : Nat, n' = a ∧ k' = b ∧ (a, b) = if (nextL (s.drop p)).1 = 0 then (0, 3) else ((nextL (s.drop p)).2, (nextL (s.drop p)).1), ⟨fun hr => ⟨by omega, (symbol_ref_c (s.drop p) w3).use fun w8 h8 => ⟨_, rfl, h8, h3.trans' h8, rfl, hS.step (h3.trans' h8), _, 3, rfl, rfl, ?_⟩⟩, fun hr => ⟨h3, rfl, hS.step h3, _, _, rfl, rfl, ?_⟩⟩, ?_⟩⟩
      · rw [← hnr, if_pos (by simpa using hr)]
      · rw [← hnr, if_neg (by simpa using hr)]
      rintro n' k' M' w4 ⟨h4, rfl, hS4, a, b, rfl, rfl, hab⟩
      refine ⟨fun hk0 => ?_, fun hk0 => ⟨fun hbig => ?_, fun hbig => ?_⟩⟩
      · have hk : (nextL (s.drop p)).1 = 0 := by
          by_cases hk : (nextL (s.drop p)).1 = 0
          · exact hk
          · rw [if_neg hk] at hab; injection hab with ha hb; have := hpos hk; simp at hk0; omega
        rw [if_pos hk] at hgo
        rw [hgo] at hGe
        rw [hGe] at etok
        simp at etok
        exact ⟨none, 0, 0, by rw [etok]; rfl, by rw [etok]; rfl, by rw [etok]; exact SlR.nil, hS4.ext0⟩
      · have hk : ¬ (nextL (s.drop p)).1 = 0 := by
          intro hk; rw [if_pos hk] at hab; injection hab with ha hb; simp at hk0; omega
        rw [if_neg hk] at hab; injection hab with ha hb; subst ha; subst hb
        have hb : (nextL (s.drop p)).1 = 1 ∧ 16 < (nextL (s.drop p)).2 := by simp at hbig; omega
        rw [if_neg hk, if_pos hb] at hgo
        rw [hgo] at hGe
        rw [hGe] at etok
        simp at etok
        exact ⟨none, 0, 0, by rw [etok]; rfl, by rw [etok]; rfl, by rw [etok]; exact SlR.nil, hS4.ext0⟩
      · have hk : ¬ (nextL (s.drop p)).1 = 0 := by
          intro hk; rw [if_pos hk] at hab; injection hab with ha hb; simp at hk0; omega
        rw [if_neg hk] at hab; injection hab with ha hb; subst ha; subst hb
        have hb : ¬ ((nextL (s.drop p)).1 = 1 ∧ 16 < (nextL (s.drop p)).2) := by simp at hbig; omega
        rw [if_neg hk, if_neg hb] at hgo
        have hpos := hpos hk
        have hsk := skipL_le false (s.drop (p + (nextL (s.drop p)).2))
        simp only [List.length_drop] at hsk
        generalize hN : (nextL (s.drop p)).2 = N at *
        refine ⟨by simp [R64]; omega, by omega, by omega, by omega, fun A' c' => ⟨by simp [R64]; omega, ?_⟩⟩
        intro M2 w5 h5 h50
        have e1 : ((p : Int) + (N : Int)).toNat = p + N := by omega
        have hsp := rskip_c s (by omega) (p + N) (by omega) w5
        rw [Int.natCast_add] at hsp
        refine hsp.use fun w6 h6 => ⟨_, rfl, h6, ⟨p + N + skipL false (s.drop (p + N)), f, ts ++ [⟨(nextL (s.drop p)).1, p, (s.drop p).take N⟩], rfl, by omega, by omega, ?_, by simp, by simp; omega, ?_⟩, by omega⟩
        · rw [toksV_append, e1]
          simp [toksV, Tok.cells]
        · rw [hGe, hgo]; simp
    · have hge : s.length ≤ p := by simpa using hge
      rw [goT_end s f p hge] at hGe
      rw [hGe] at etok
      simp at etok
      exact ⟨A, _, c, by rw [etok]; rfl, by rw [etok], by rw [etok]; exact hO.slr, hS.ext0⟩

theorem tok_cells {w : World} {A : Option Addr} {ts : List Tok} {i : Nat} (h : SlR w A ts.length 3 (toksV ts)) (hi : i < ts.length) : ∃ ad, A = some ad ∧ CellsAt w (ad.add (i * 3)) (ts[i]).cells := by
  obtain ⟨ad, h1, h2⟩ := h.at_ hi
  rw [toksV_at ts i ts[i] (by simp [hi])] at h2
  exact ⟨ad, h1, h2⟩
theorem same_c (A B : Option Addr) (ca cb : Nat) (l m : List Tok) (b : Bool) (w : World) (hl : l.length ≤ 100000) (hA : SlR w A l.length 3 (toksV l)) (hB : SlR w B m.length 3 (toksV m)) :
    RetV Tryd.prog 11 #[.slice A l.length ca, .slice B m.length cb, .bool b] w (.bool (sameT b l m)) := by
  refine ofV (vc11 A _ ca B _ cb b w _ ⟨fun h => ?_, fun h => ?_⟩)
  · simp at h
    exact ⟨by rw [sameT_len b l m (by omega)], .rfl'⟩
  · have hlen : l.length = m.length := by simp at h; omega
    refine ⟨fun i _ => ∃ k : Nat, i = k ∧ k ≤ l.length ∧ sameT b l m = sameT b (l.drop k) (m.drop k), fun i => l.length - i.toNat, ⟨0, rfl, by omega, rfl⟩, ?_⟩
    rintro i w1 hx ⟨k, rfl, hk, he⟩
    simp only [Int.toNat_natCast]
    refine ⟨fun h => ?_, fun h => ?_⟩
    · have hlt : k < l.length := by simpa using h
      obtain ⟨ad1, hA1, hc1⟩ := tok_cells (hA.ext hx) hlt
      obtain ⟨ad2, hB1, hc2⟩ := tok_cells (hB.ext hx) (show k < m.length by omega)
      have hd1 : l.drop k = l[k] :: l.drop (k + 1) := List.drop_eq_getElem_cons hlt
      have hd2 : m.drop k = m[k] :: m.drop (k + 1) := List.drop_eq_getElem_cons (by omega)
      rw [hd1, hd2] at he
      simp only [sameT] at he
      refine ⟨by omega, ad1, hA1, fun w2 h2 => ⟨_, _, _, hc1.ext h2, by omega, ad2, hB1, _, _, _, hc2.ext h2, fun _ => by omega, fun _ => by omega, fun _ => by omega, fun _ => by omega, fun hc => ?_, fun hc => ?_⟩⟩
      · refine ⟨?_, hx.trans' h2⟩
        rw [he]
        congr 1
        cases b <;> simp at hc ⊢ <;> intro h1 h2 <;> simp_all
      · refine ⟨by simp [R64]; omega, ⟨k + 1, by omega, by omega, ?_⟩, by omega⟩
        rw [he]
        cases b <;> simp at hc <;> simp [hc]
    · refine ⟨?_, hx⟩
      have hk : k = l.length := by simp at h; omega
      subst hk
      rw [he, List.drop_eq_nil_of_le (Nat.le_refl _), List.drop_eq_nil_of_le (Nat.le_of_eq hlen.symm)]; rfl
end Go.Proofs.YtndiieicjjifkaaDoor
