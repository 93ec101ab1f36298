/- The lexer's Tokenize, by what it computes. -/
import Derived.Test.YtndiieicjjifkaaDoorLexA
namespace Go.Vc
open Go Go.RowKit
/-- A slice that reads as these cells. -/
def SlR (w : World) (A : Option Addr) (n size : Nat) (xs : List Value) : Prop := xs.length = n * size ∧ (0 < n → ∃ ad, A = some ad ∧ CellsAt w ad xs)
theorem SlR.nil {w : World} {size : Nat} : SlR w none 0 size [] := ⟨by simp, fun h => absurd h (by omega)⟩
theorem SlR.ext {w w' : World} {A : Option Addr} {n size : Nat} {xs : List Value} (h : SlR w A n size xs) (hx : Ext w w') : SlR w' A n size xs :=
  ⟨h.1, fun hn => let ⟨ad, h1, h2⟩ := h.2 hn; ⟨ad, h1, h2.ext hx⟩⟩
theorem Own.slr {M : Nat → Prop} {w : World} {e : TypeId} {A : Option Addr} {n c size : Nat} {xs : List Value} (h : Own M w e size A n c xs) : SlR w A n size xs :=
  ⟨h.len, fun hn => let ⟨ad, h1⟩ := h.addr hn; ⟨ad, h1, by
    have h2 := h.cells h1 (i := 0) (l := xs) (by simp)
    rwa [Addr.add_zero'] at h2⟩⟩
theorem SlR.at_ {w : World} {A : Option Addr} {n size : Nat} {xs : List Value} (h : SlR w A n size xs) {i : Nat} (hi : i < n) : ∃ ad, A = some ad ∧ CellsAt w (ad.add (i * size)) ((xs.drop (i * size)).take size) := by
  obtain ⟨ad, h1, h2⟩ := h.2 (by omega)
  refine ⟨ad, h1, h2.part ?_⟩
  rw [List.length_take, List.length_drop, h.1]
  have : i * size + size ≤ n * size := by have := Nat.mul_le_mul_right size (show i + 1 ≤ n by omega); rw [Nat.add_mul] at this; omega
  rw [Nat.min_eq_left (by omega)]
theorem toksV_at (ts : List Tok) (i : Nat) (t : Tok) (h : ts[i]? = some t) : ((toksV ts).drop (i * 3)).take 3 = t.cells := by
  induction ts generalizing i with
  | nil => simp at h
  | cons u ts ih =>
    cases i with
    | zero => simp at h; subst h; simp [toksV, Tok.cells]
    | succ i =>
      have h2 := ih i (by simpa using h)
      have e : (toksV (u :: ts)).drop ((i + 1) * 3) = (toksV ts).drop (i * 3) := by
        rw [show (i + 1) * 3 = 3 + i * 3 by omega, ← List.drop_drop]
        rfl
      rw [e]; exact h2
end Go.Vc
namespace Go.Proofs.YtndiieicjjifkaaDoor
open Go Go.RowKit Go.Vc

/-- What Tokenize leaves: the tokens (or none and the error). -/
def TokR (s : List UInt8) (w : World) (e : Ending) (w' : World) : Prop :=
  ∃ A n c, e = .returned (.tuple #[.slice A n c, .int .i64 (tokens s).2.1, .int .i64 (tokens s).2.2]) ∧ n = (tokens s).1.length ∧ SlR w' A n 3 (toksV (tokens s).1) ∧ Ext w w'

theorem goT_end (s : List UInt8) (f p : Nat) (h : s.length ≤ p) : goT s f p = ([], 0, 0) := by
  cases f with
  | zero => rfl
  | succ f => simp only [goT]; rw [if_neg (by omega)]
theorem tokenize_c (s : List UInt8) (w : World) : Calls Tryd.prog 9 #[str s] w (TokR s w) := by
  suffices h : Calls Tryd.prog 9 #[str s] w fun e w' => ∃ v, e = .returned v ∧ TokR s w (.returned v) w' from h.mono fun _ _ ⟨v, h1, h2⟩ => h1 ▸ h2
  refine vc9 s w _ ⟨fun h => ?_, fun h => ?_⟩
  · simp at h
    have e : tokens s = ([], 0, 2) := by unfold tokens; rw [if_pos (by omega)]
    exact ⟨none, 0, 0, by rw [e]; rfl, by rw [e]; rfl, by rw [e]; exact SlR.nil, .rfl'⟩
  · simp at h
    have hlen : s.length ≤ 65536 := by omega
    have etok : tokens s = if (goT s (s.length + 1) (skipL false s)).2.2 = 0 then ((goT s (s.length + 1) (skipL false s)).1, 0, 0) else ([], (goT s (s.length + 1) (skipL false s)).2.1, (goT s (s.length + 1) (skipL false s)).2.2) := by
      unfold tokens; rw [if_neg (by omega)]
    refine (skip_c s (by omega) w).use fun w1 h1 => ⟨_, rfl, h1, ?_⟩
    generalize hG : goT s (s.length + 1) (skipL false s) = G at etok
    have hp0 := skipL_le false s
    refine ⟨fun A n c xs at_ M w' => ∃ (p f : Nat) (ts : List Tok), at_ = p ∧ p ≤ s.length ∧ s.length < p + f ∧ xs = toksV ts ∧ n = ts.length ∧ ts.length ≤ p ∧ G = (ts ++ (goT s f p).1, (goT s f p).2), fun A n c xs at_ => s.length - at_.toNat, ⟨skipL false s, s.length + 1, [], rfl, hp0, by omega, rfl, rfl, by simp, by simp [hG]⟩, ?_⟩
    rintro A n c xs at_ M w2 hS ⟨p, f, ts, rfl, hp, hf, rfl, rfl, hn, hGe⟩
    simp only [Int.toNat_natCast]
    refine ⟨fun hlt => ?_, fun hge hO => ?_⟩
    · simp at hlt
      obtain ⟨f, rfl⟩ : ∃ f', f = f' + 1 := ⟨f - 1, by omega⟩
      have hdl : (s.drop p).length = s.length - p := by simp
      have hle := nextL_le (s.drop p) (by omega)
      have hpos := nextL_pos (s.drop p) (by omega)
      have hgo : goT s (f + 1) p = if (nextL (s.drop p)).1 = 0 then ([], p, 5) else if (nextL (s.drop p)).1 = 1 ∧ 16 < (nextL (s.drop p)).2 then ([], p, 2) else
          (⟨(nextL (s.drop p)).1, p, (s.drop p).take (nextL (s.drop p)).2⟩ :: (goT s f (p + (nextL (s.drop p)).2 + skipL false (s.drop (p + (nextL (s.drop p)).2)))).1, (goT s f (p + (nextL (s.drop p)).2 + skipL false (s.drop (p + (nextL (s.drop p)).2)))).2) := by
        simp only [goT]; rw [if_pos hlt]
      refine ⟨by omega, (next_c (s.drop p) (by omega) (by omega) w2).use fun w3 h3 => ⟨_, _, rfl, h3, fun hk0 => ?_, fun hk0 => ⟨fun hbig => ?_, fun hbig => ?_⟩⟩⟩
      · have hk : (nextL (s.drop p)).1 = 0 := by simpa using hk0
        rw [if_pos hk] at hgo
        rw [hgo] at hGe
        rw [hGe] at etok
        simp at etok
        exact ⟨none, 0, 0, by rw [etok]; rfl, by rw [etok]; rfl, by rw [etok]; exact SlR.nil, hS.ext0.trans' h3⟩
      · have hk : ¬ (nextL (s.drop p)).1 = 0 := by simpa using hk0
        have hb : (nextL (s.drop p)).1 = 1 ∧ 16 < (nextL (s.drop p)).2 := by simp at hbig; omega
        rw [if_neg hk, if_pos hb] at hgo
        rw [hgo] at hGe
        rw [hGe] at etok
        simp at etok
        exact ⟨none, 0, 0, by rw [etok]; rfl, by rw [etok]; rfl, by rw [etok]; exact SlR.nil, hS.ext0.trans' h3⟩
      · have hk : ¬ (nextL (s.drop p)).1 = 0 := by simpa using hk0
        have hb : ¬ ((nextL (s.drop p)).1 = 1 ∧ 16 < (nextL (s.drop p)).2) := by simp at hbig; omega
        rw [if_neg hk, if_neg hb] at hgo
        have hpos := hpos hk
        have hsk := skipL_le false (s.drop (p + (nextL (s.drop p)).2))
        simp only [List.length_drop] at hsk
        generalize hN : (nextL (s.drop p)).2 = N at *
        refine ⟨by simp [R64]; omega, by omega, by omega, by omega, fun A' c' => ⟨by simp [R64]; omega, by omega, ?_⟩⟩
        intro M2 w5 h5 h50
        have e1 : ((p : Int) + (N : Int)).toNat = p + N := by omega
        rw [e1]
        refine (skip_c (s.drop (p + N)) (by simp; omega) w5).use fun w6 h6 => ⟨_, rfl, h6, by simp [R64]; omega, ⟨p + N + skipL false (s.drop (p + N)), f, ts ++ [⟨(nextL (s.drop p)).1, p, (s.drop p).take N⟩], by omega, by omega, by omega, ?_, by simp, by simp; omega, ?_⟩, by omega⟩
        · rw [toksV_append]
          simp [toksV, Tok.cells]
        · rw [hGe, hgo]; simp
    · have hge : s.length ≤ p := by simpa using hge
      rw [goT_end s f p hge] at hGe
      rw [hGe] at etok
      simp at etok
      exact ⟨A, _, c, by rw [etok]; rfl, by rw [etok], by rw [etok]; exact hO.slr, hS.ext0⟩
end Go.Proofs.YtndiieicjjifkaaDoor
