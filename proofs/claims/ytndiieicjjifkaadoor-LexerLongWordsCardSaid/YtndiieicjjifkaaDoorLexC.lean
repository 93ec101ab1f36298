/- The reference's functions, by what they compute. -/
import Derived.Test.YtndiieicjjifkaaDoorLexB
namespace Go.Vc
open Go Go.RowKit
def runL (s : List UInt8) : Nat × Nat :=
  if letterB (at8 s 0) && decide (0 < s.length) then (spanL wordB s, 1) else if digitB (at8 s 0) && decide (0 < s.length) then (spanL digitB s, 2) else (0, 0)
def ones : List UInt8 := [40, 41, 91, 93, 123, 125, 44, 59, 58, 43, 45, 42, 47, 60, 61, 38, 124, 33, 46, 64]
def syms : List (List UInt8) := [[60, 61], [61, 61], [40], [41], [91], [93], [123], [125], [44], [59], [58], [43], [45], [42], [47], [60], [61], [38], [124], [33], [46], [64]]
def fits (s e : List UInt8) : Bool := decide ((e.length : Int) ≤ (s.length : Int)) && decide (s.take e.length = e)
def symL (s : List UInt8) : List (List UInt8) → Nat
  | [] => 0
  | e :: l => match fits s e with | true => e.length | false => symL s l
theorem symL_ones (c : UInt8) (t : List UInt8) (l : List UInt8) : symL (c :: t) (l.map fun x => [x]) = if l.contains c then 1 else 0 := by
  induction l with
  | nil => rfl
  | cons x l ih =>
    simp only [List.map_cons, symL]
    have hf : fits (c :: t) [x] = decide (c = x) := by simp [fits]; omega
    rw [hf]
    by_cases h : c = x
    · subst h; simp
    · rw [ih]
      have hne : (x == c) = false := by simp; exact fun e => h e.symm
      simp [h]
theorem ones_symB : ∀ n : Nat, n < 256 → ones.contains (UInt8.ofNat n) = symB (n : Int) := by decide +kernel
theorem ones_symB' (c : UInt8) : ones.contains c = symB (c.toNat : Int) := by
  have := ones_symB c.toNat c.toNat_lt
  simpa using this
theorem symL_spec (s : List UInt8) (h0 : 0 < s.length) :
    symL s syms = if (decide (at8 s 0 = 60) || decide (at8 s 0 = 61)) && decide ((1 : Int) < (s.length : Int)) && decide (at8 s 1 = 61) then 2 else if symB (at8 s 0) then 1 else 0 := by
  obtain ⟨c, t, rfl⟩ : ∃ c t, s = c :: t := by cases s with | nil => simp at h0 | cons c t => exact ⟨c, t, rfl⟩
  have hs : syms = [60, 61] :: [61, 61] :: ones.map fun x => [x] := rfl
  have hu : ∀ x y : UInt8, ((x.toNat : Int) = (y.toNat : Int)) ↔ x = y := fun x y => ⟨fun h => UInt8.toNat_inj.1 (by omega), fun h => by rw [h]⟩
  rw [hs, at8_cons]
  simp only [symL, symL_ones, ones_symB']
  cases t with
  | nil =>
    have h1 : fits [c] [60, 61] = false := by simp [fits]
    have h2 : fits [c] [61, 61] = false := by simp [fits]
    simp [h1, h2]
  | cons d t =>
    have h1 : fits (c :: d :: t) [60, 61] = (decide (c = 60) && decide (d = 61)) := by simp [fits]; omega
    have h2 : fits (c :: d :: t) [61, 61] = (decide (c = 61) && decide (d = 61)) := by simp [fits]; omega
    have e1 : at8 (c :: d :: t) 1 = (d.toNat : Int) := rfl
    have k60 := hu c 60
    have k61 := hu c 61
    have kd := hu d 61
    have l1 : ((60 : UInt8).toNat : Int) = 60 := rfl
    have l2 : ((61 : UInt8).toNat : Int) = 61 := rfl
    rw [l1] at k60
    rw [l2] at k61 kd
    have hlen : (1 : Int) < ((c :: d :: t).length : Int) := by simp; omega
    rw [h1, h2, e1]
    simp only [k60, k61, kd, hlen, decide_true, Bool.and_true]
    by_cases a : c = 60 <;> by_cases b : c = 61 <;> by_cases e : d = 61 <;> simp [a, b, e]
theorem next_ref (s : List UInt8) (h0 : 0 < s.length) :
    (if (runL s).1 = 0 then (symL s syms, 3) else runL s) = if (nextL s).1 = 0 then (0, 3) else ((nextL s).2, (nextL s).1) := by
  obtain ⟨c, t, rfl⟩ : ∃ c t, s = c :: t := by cases s with | nil => simp at h0 | cons c t => exact ⟨c, t, rfl⟩
  unfold runL nextL
  rw [symL_spec _ h0]
  dsimp only
  by_cases hl : letterB (at8 (c :: t) 0) = true
  · have hw : wordB (c.toNat : Int) = true := by rw [at8_cons] at hl; simp [wordB, hl]
    simp [hl, spanL, hw]
  · by_cases hd : digitB (at8 (c :: t) 0) = true
    · have hw : digitB (c.toNat : Int) = true := by rw [at8_cons] at hd; exact hd
      simp [hl, hd, spanL, hw]
    · rw [Bool.not_eq_true] at hl hd
      simp only [hl, hd, Bool.false_and, Bool.false_eq_true, if_false]
      generalize ((decide (at8 (c :: t) 0 = 60) || decide (at8 (c :: t) 0 = 61)) && decide ((1 : Int) < ((c :: t).length : Int)) && decide (at8 (c :: t) 1 = 61)) = b1
      generalize symB (at8 (c :: t) 0) = b2
      cases b1 <;> cases b2 <;> rfl
end Go.Vc
namespace Go.Proofs.YtndiieicjjifkaaDoor
open Go Go.RowKit Go.Vc
theorem rskip_c (s : List UInt8) (hs : s.length ≤ 100000) (p : Nat) (hp : p ≤ s.length) (w : World) : RetV Tryd.prog 18 #[str s, .int .i64 p] w (.int .i64 ((p + skipL false (s.drop p) : Nat) : Int)) := by
  refine ofV (vc18 s p w _ ?_)
  refine ⟨fun n _ => ∃ k : Nat, n = k ∧ k ≤ s.length ∧ p + skipL false (s.drop p) = k + skipL false (s.drop k), fun n => s.length - n.toNat, ⟨p, rfl, hp, rfl⟩, ?_⟩
  rintro n w1 hx ⟨k, rfl, hk, he⟩
  have hr := at8_range s k
  simp only [Int.toNat_natCast]
  refine ⟨fun h => ?_, fun h => ?_⟩
  · simp at h
    obtain ⟨c, hd, hc⟩ := drop_cons s k h
    refine ⟨by omega, (rspace_c _ w1).use fun w2 h2 => ⟨_, rfl, h2, fun h3 => ?_, fun h3 => ⟨by omega, fun h4 => ?_, fun h4 => ?_⟩⟩⟩
    · refine ⟨by simp [R64]; omega, ⟨k + 1, by omega, by omega, ?_⟩, by omega⟩
      rw [he, hd]
      simp only [skipL]
      rw [← hc, h3]
      simp; omega
    · have hc35 : at8 s k = 35 := by simpa using h4
      have e1 : skipL false (s.drop k) = skipL true (s.drop k) := by
        rw [hd]
        simp only [skipL]
        have hn : notNl (c.toNat : Int) = true := by rw [← hc, hc35]; rfl
        have hs : spaceB (c.toNat : Int) = false := by rw [← hc]; exact h3
        have h35 : decide ((c.toNat : Int) = 35) = true := by rw [← hc, hc35]; rfl
        rw [hn, hs, h35]
      refine ⟨fun n _ => ∃ j : Nat, n = j ∧ k ≤ j ∧ j ≤ s.length ∧ p + skipL false (s.drop p) = j + skipL true (s.drop j), fun n => s.length - n.toNat, ⟨k, rfl, Nat.le_refl _, hk, by rw [he, e1]⟩, ?_⟩
      rintro n w3 hx3 ⟨j, rfl, hkj, hj, he3⟩
      simp only [Int.toNat_natCast]
      refine ⟨fun h => by simp at h; omega, fun h => ?_, fun h => ?_⟩
      · simp at h
        obtain ⟨c', hd', hc'⟩ := drop_cons s j h.1
        refine ⟨by simp [R64]; omega, ⟨j + 1, by omega, by omega, by omega, ?_⟩, by omega⟩
        rw [he3, hd']
        have hn : notNl (c'.toNat : Int) = true := by rw [← hc']; simp [notNl, h.2]
        simp only [skipL, hn]; omega
      · rcases Nat.lt_or_ge j s.length with hlt | hge
        · have h10 : at8 s j = 10 := by simpa [hlt] using h
          have hne : j ≠ k := by rintro rfl; omega
          obtain ⟨c', hd', hc'⟩ := drop_cons s j hlt
          refine ⟨⟨j, rfl, hj, ?_⟩, by omega⟩
          rw [he3, hd']
          have hn : notNl (c'.toNat : Int) = false := by rw [← hc', h10]; rfl
          have hsp : spaceB (c'.toNat : Int) = true := by rw [← hc', h10]; rfl
          simp only [skipL, hn, hsp]
        · refine ⟨⟨j, rfl, hj, ?_⟩, by omega⟩
          rw [he3, List.drop_eq_nil_of_le hge]; rfl
    · refine ⟨?_, hx.trans' h2⟩
      congr 1
      rw [he, hd]
      simp only [skipL]
      rw [← hc, h3, h4]
      simp
  · refine ⟨?_, hx⟩
    simp at h
    rw [he, List.drop_eq_nil_of_le h]
    simp [skipL]

theorem symbols_c (w : World) : Calls Tryd.prog 41 #[] w fun e w' => ∃ A c, e = .returned (.slice A 22 c) ∧ SlR w' A 22 1 (syms.map str) ∧ Ext w w' := by
  suffices h : Calls Tryd.prog 41 #[] w fun e w' => ∃ v, e = .returned v ∧ ∃ A c, v = .slice A 22 c ∧ SlR w' A 22 1 (syms.map str) ∧ Ext w w' from h.mono fun _ _ ⟨v, h1, A, c, h2, h3⟩ => ⟨A, c, h2 ▸ h1, h3⟩
  refine vc41 w _ fun b w1 _ _ hx hB => ⟨_, _, rfl, ⟨rfl, fun _ => ⟨_, rfl, CellsAt.of_blk hB rfl⟩⟩, hx⟩

theorem symbol_ref_c (s : List UInt8) (w : World) : RetV Tryd.prog 22 #[str s] w (.int .i64 (symL s syms)) := by
  refine ofV (vc22 s w _ ?_)
  refine (symbols_c w).mono ?_
  rintro _ w1 ⟨A, c, rfl, hS, hx⟩
  refine ⟨_, _, _, rfl, hx, fun n w' => ∃ k : Nat, n = k ∧ k ≤ 22 ∧ symL s syms = symL s (syms.drop k) ∧ SlR w' A 22 1 (syms.map str), fun n => 22 - n.toNat, ⟨0, rfl, by omega, rfl, hS⟩, ?_⟩
  rintro n w2 hx2 ⟨k, rfl, hk, he, hS2⟩
  simp only [Int.toNat_natCast]
  refine ⟨fun h => ?_, fun h => ?_⟩
  · simp at h
    obtain ⟨ad, hA, hc⟩ := hS2.at_ (i := k) (by omega)
    have hd : syms.drop k = (syms[k]'(by simp [syms]; omega)) :: syms.drop (k + 1) := List.drop_eq_getElem_cons (by simp [syms]; omega)
    have ht : ((syms.map str).drop (k * 1)).take 1 = [str (syms[k]'(by simp [syms]; omega))] := by
      rw [Nat.mul_one, ← List.map_drop, hd, List.map_cons, List.take_succ_cons, List.take_zero]
    have hc' : ∀ w3, Ext w2 w3 → CellsAt w3 (ad.add (k * 1)) [str (syms[k]'(by simp [syms]; omega))] := fun w3 h3 => ht ▸ hc.ext h3
    refine ⟨by omega, ad, hA, fun w3 h3 => ⟨_, hc' w3 h3, fun _ => by omega, fun h => by simp at h; simp; omega, fun _ => by omega, fun hf => ⟨by omega, _, hc' w3 h3, ?_, hx2.trans' h3⟩, fun hf => ⟨by simp [R64]; omega, ⟨k + 1, by omega, by omega, ?_, hS2.ext h3⟩, by omega⟩⟩⟩
    · rw [he, hd]
      simp only [symL]
      have : fits s (syms[k]'(by simp [syms]; omega)) = true := by unfold fits; simpa using hf
      rw [this]
    · rw [he, hd]
      simp only [symL]
      have : fits s (syms[k]'(by simp [syms]; omega)) = false := by unfold fits; simpa using hf
      rw [this]
  · refine ⟨?_, hx2⟩
    have hk : k = 22 := by simp at h; omega
    subst hk
    rw [he]; rfl
end Go.Proofs.YtndiieicjjifkaaDoor
