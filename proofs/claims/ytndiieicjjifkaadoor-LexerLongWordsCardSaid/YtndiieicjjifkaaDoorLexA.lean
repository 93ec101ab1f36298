/- The lexer's functions, each by what it computes: letters, spans, white space, one token. -/
import Derived.Test.YtndiieicjjifkaaDoorLexSpec
import Derived.Test.YtndiieicjjifkaaDoorFns
namespace Go.Proofs.YtndiieicjjifkaaDoor
open Go Go.RowKit Go.Vc

theorem letter_c (r : Int) (w : World) : RetV Tryd.prog 26 #[.int .i32 r] w (.bool (letterB r)) := ofV (vc26 r w _ ⟨rfl, .rfl'⟩)
theorem digit_c (r : Int) (w : World) : RetV Tryd.prog 37 #[.int .i32 r] w (.bool (digitB r)) := ofV (vc37 r w _ ⟨rfl, .rfl'⟩)
theorem rletter_c (r : Int) (w : World) : RetV Tryd.prog 39 #[.int .u8 r] w (.bool (letterB r)) := ofV (vc39 r w _ ⟨rfl, .rfl'⟩)
theorem rdigit_c (r : Int) (w : World) : RetV Tryd.prog 40 #[.int .u8 r] w (.bool (digitB r)) := ofV (vc40 r w _ ⟨rfl, .rfl'⟩)
theorem rspace_c (r : Int) (w : World) : RetV Tryd.prog 34 #[.int .u8 r] w (.bool (spaceB r)) := ofV (vc34 r w _ ⟨rfl, .rfl'⟩)
theorem notNl_c (r : Int) (w : World) : RetV Tryd.prog 36 #[.int .i32 r] w (.bool (notNl r)) := ofV (vc36 r w _ ⟨rfl, .rfl'⟩)
theorem word_c (r : Int) (w : World) : RetV Tryd.prog 28 #[.int .i32 r] w (.bool (wordB r)) := by
  refine ofV (vc28 r w _ ?_)
  refine (letter_c r w).use fun w1 h1 => ⟨_, rfl, h1, ?_⟩
  refine ⟨fun b w' => b = digitB r, fun _ => (digit_c r w1).use fun w2 h2 => ⟨_, rfl, h2, rfl⟩, fun b w2 h2 hb => ?_⟩
  refine ⟨?_, h1.trans' h2⟩
  cases hl : letterB r
  · rw [hb (by simp [hl])]; simp [wordB, hl]
  · simp [wordB, hl]
theorem space_c (r : Int) (w : World) : RetV Tryd.prog 35 #[.int .i32 r] w (.bool (spaceB r)) := by
  refine ofV (vc35 r w _ ?_)
  repeat' (first | refine ⟨?_, ?_⟩ | intro _)
  all_goals first | exact .rfl' | simp_all [spaceB]
theorem symbol_c (r : Int) (w : World) : RetV Tryd.prog 38 #[.int .i32 r] w (.bool (symB r)) := by
  refine ofV (vc38 r w _ ?_)
  repeat' (first | refine ⟨?_, ?_⟩ | intro _)
  all_goals first | exact .rfl' | simp_all [symB]

theorem span_c (p : Int → Bool) (f : FuncId) (hf : FnOK Tryd.prog f) (hp : ∀ r w, RetV Tryd.prog f #[.int .i32 r] w (.bool (p r))) (s : List UInt8) (hs : s.length ≤ 100000) (w : World) :
    RetV Tryd.prog 27 #[str s, .func (.func f) #[] #[]] w (.int .i64 (spanL p s)) := by
  refine ofV (vc27 s _ w _ ?_)
  refine ⟨fun n w' => ∃ k : Nat, n = k ∧ k ≤ s.length ∧ spanL p s = k + spanL p (s.drop k), fun n => s.length - n.toNat, ⟨0, rfl, Nat.zero_le _, by simp⟩, ?_⟩
  rintro n w1 hx ⟨k, rfl, hk, he⟩
  have hr := at8_range s k
  refine ⟨fun h => by simp at h; omega, fun h => by simp; omega, f, [], fun _ => ⟨rfl, hf⟩, fun b w' => b = p (at8 s k), fun _ => ?_, fun b w2 h2 hb => ⟨fun h => ?_, fun h => ?_⟩⟩
  · simp only [Int.toNat_natCast, List.append_nil]
    exact (hp _ w1).use fun w2 h2 => ⟨_, rfl, h2, rfl⟩
  · simp at h
    obtain ⟨c, hd, hc⟩ := drop_cons s k h.1
    have hb := hb (by simp; omega)
    refine ⟨by simp [R64]; omega, ⟨k + 1, by omega, by omega, ?_⟩, by simp; omega⟩
    rw [he, hd]
    simp only [spanL]
    rw [← hc, ← hb, h.2]
    simp; omega
  · refine ⟨?_, hx.trans' h2⟩
    congr 1
    rcases Nat.lt_or_ge k s.length with hlt | hge
    · obtain ⟨c, hd, hc⟩ := drop_cons s k hlt
      have hb := hb (by simp; omega)
      have hbf : b = false := by simpa [hlt] using h
      rw [he, hd]
      simp only [spanL]
      rw [← hc, ← hb, hbf]
      simp
    · rw [he, List.drop_eq_nil_of_le hge]; simp [spanL]

theorem skip_c (s : List UInt8) (hs : s.length ≤ 100000) (w : World) : RetV Tryd.prog 19 #[str s] w (.int .i64 (skipL false s)) := by
  refine ofV (vc19 s w _ ?_)
  refine ⟨fun n _ => ∃ k : Nat, n = k ∧ k ≤ s.length ∧ skipL false s = k + skipL false (s.drop k), fun n => s.length - n.toNat, ⟨0, rfl, Nat.zero_le _, by simp⟩, ?_⟩
  rintro n w1 hx ⟨k, rfl, hk, he⟩
  have hr := at8_range s k
  simp only [Int.toNat_natCast]
  refine ⟨fun h => ?_, fun h => ?_⟩
  · simp at h
    obtain ⟨c, hd, hc⟩ := drop_cons s k h
    have hl : (s.drop k).length ≤ 100000 := by simp; omega
    refine ⟨by omega, by simp [R32]; omega, (space_c _ w1).use fun w2 h2 => ⟨_, rfl, h2, fun h3 => ?_, fun h3 => ⟨fun h4 => ?_, fun h4 => ?_⟩⟩⟩
    · refine ⟨by simp [R64]; omega, ⟨k + 1, by omega, by omega, ?_⟩, by omega⟩
      rw [he, hd]
      simp only [skipL]
      rw [← hc, h3]
      simp; omega
    · refine ⟨by omega, (span_c notNl 36 ok_36 notNl_c _ hl w2).use fun w3 h3' => ⟨_, rfl, h3', ?_⟩⟩
      have hsp := spanL_le notNl (s.drop k)
      have hsl : (s.drop k).length = s.length - k := by simp
      have hc35 : at8 s k = 35 := by simpa using h4
      have hpos : 0 < spanL notNl (s.drop k) := by
        rw [hd]; simp only [spanL]
        have : notNl (c.toNat : Int) = true := by rw [← hc, hc35]; rfl
        rw [this]; simp
      refine ⟨by simp [R64]; omega, ⟨k + spanL notNl (s.drop k), by omega, by omega, ?_⟩, by omega⟩
      rw [he]
      have e1 : skipL false (s.drop k) = skipL true (s.drop k) := by
        rw [hd]
        simp only [skipL]
        have hn : notNl (c.toNat : Int) = true := by rw [← hc, hc35]; rfl
        have hs : spaceB (c.toNat : Int) = false := by rw [← hc]; exact h3
        have h35 : decide ((c.toNat : Int) = 35) = true := by rw [← hc, hc35]; rfl
        rw [hn, hs, h35]
      rw [e1, skipL_comment, List.drop_drop]
      omega
    · refine ⟨?_, hx.trans' h2⟩
      congr 1
      rw [he, hd]
      simp only [skipL]
      rw [← hc, h3, h4]
      simp
  · refine ⟨?_, hx⟩
    simp at h
    rw [he, List.drop_eq_nil_of_le h]
    simp [skipL]
theorem next_c (s : List UInt8) (h0 : 0 < s.length) (hs : s.length ≤ 100000) (w : World) : RetV Tryd.prog 20 #[str s] w (.tuple #[.int .i64 (nextL s).1, .int .i64 (nextL s).2]) := by
  refine ofV (vc20 s w _ ?_)
  have hr := at8_range s 0
  have hr1 := at8_range s 1
  simp only [Int.toNat_zero, Int.toNat_one]
  refine ⟨by omega, by simp [R32]; omega, (letter_c _ w).use fun w1 h1 => ⟨_, rfl, h1, fun hl => ?_, fun hl => ?_⟩⟩
  · refine (span_c wordB 28 ok_28 word_c s hs w1).use fun w2 h2 => ⟨_, rfl, h2, ?_, h1.trans' h2⟩
    simp [nextL, hl]
  · refine (digit_c _ w1).use fun w2 h2 => ⟨_, rfl, h2, fun hd => ?_, fun hd => ⟨fun h => ?_, fun h => ?_, fun h => ?_⟩⟩
    · refine (span_c digitB 37 ok_37 digit_c s hs w2).use fun w3 h3 => ⟨_, rfl, h3, ?_, (h1.trans' h2).trans' h3⟩
      simp [nextL, hl, hd]
    · simp at h; omega
    · refine ⟨?_, h1.trans' h2⟩
      unfold nextL; dsimp only; rw [if_neg (by simp [hl]), if_neg (by simp [hd]), if_pos (by simpa using h)]; rfl
    · refine (symbol_c _ w2).use fun w3 h3 => ⟨_, rfl, h3, fun hy => ⟨?_, (h1.trans' h2).trans' h3⟩, fun hy => ⟨?_, (h1.trans' h2).trans' h3⟩⟩
      · unfold nextL; dsimp only; rw [if_neg (by simp [hl]), if_neg (by simp [hd]), if_neg (by rw [Bool.not_eq_true]; simpa using h), if_pos hy]; rfl
      · unfold nextL; dsimp only; rw [if_neg (by simp [hl]), if_neg (by simp [hd]), if_neg (by rw [Bool.not_eq_true]; simpa using h), if_neg (by simp [hy])]; rfl
end Go.Proofs.YtndiieicjjifkaaDoor
