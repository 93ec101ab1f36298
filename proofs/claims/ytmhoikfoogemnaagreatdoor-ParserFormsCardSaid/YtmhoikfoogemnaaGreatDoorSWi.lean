import Derived.Test.YtmhoikfoogemnaaGreatDoorSWe
namespace Go.Proofs.YtmhoikfoogemnaaGreatDoor
open Go Go.RowKit Go.Vc
set_option linter.unusedVariables false
set_option linter.unusedSimpArgs false
theorem times_ok {a b : Int} (ha : R64 a) (hb : R64 b) : m_lin_times a b = some (if R64 (a * b) then (a * b, true) else (0, false)) := by
 unfold m_lin_times
 rw [mag_ok ha, mag_ok hb, Option.bind_some, Option.bind_some]
 obtain ⟨hi, lo, p1, ⟨p2, p3⟩, ⟨p4, p5⟩, p6⟩ := product_ok (a := (a.natAbs : Int)) (b := (b.natAbs : Int)) ⟨by omega, by have := ha.1; have := ha.2; omega⟩ ⟨by omega, by have := hb.1; have := hb.2; omega⟩
 have hs := sgn_mul a b
 rw [← p6] at hs
 rw [p1, Option.bind_some, Option.bind_some]
 dsimp only
 generalize (decide (a < 0) != decide (b < 0)) = ng at *
 generalize a * b = q at *
 by_cases c : (((!decide (hi = 0)) || (decide (9223372036854775808 < lo))) || ((decide (lo = 9223372036854775808)) && (!ng))) = true
 ·rw [if_pos c, if_neg]
  intro ⟨r1, r2⟩
  simp only [Bool.or_eq_true, Bool.not_eq_true', decide_eq_false_iff_not, decide_eq_true_eq, Bool.and_eq_true] at c
  cases ng with
  | true => simp at hs c; omega
  | false => simp at hs c; omega
 ·rw [if_neg c]
  simp only [Bool.or_eq_true, Bool.not_eq_true', decide_eq_false_iff_not, decide_eq_true_eq, Bool.and_eq_true, not_or, Classical.not_not] at c
  cases ng with
  | true =>
   simp at hs c
   rw [if_pos rfl, if_pos ⟨by omega, by omega⟩]
   have e : wi64 (wu64 (-lo)) = -lo := wiwu ⟨by omega, by omega⟩
   rw [e, hs]
   refine congrArg some (Prod.ext ?_ rfl)
   dsimp only; omega
  | false =>
   simp at hs c
   rw [if_neg (by simp), if_pos ⟨by omega, by omega⟩, wi ⟨by omega, by omega⟩, hs]
   refine congrArg some (Prod.ext ?_ rfl)
   dsimp only; omega
theorem wi_lin {x : Int} (h : -18446744073709551616 ≤ x ∧ x ≤ 18446744073709551614) : wi64 x = if x < -9223372036854775808 then x + 18446744073709551616 else if 9223372036854775807 < x then x - 18446744073709551616 else x := by
 split
 ·exact wi_of (y := x + 18446744073709551616) (c := -1) ⟨by omega, by omega⟩ (by omega)
 ·split
  ·exact wi_of (y := x - 18446744073709551616) (c := 1) ⟨by omega, by omega⟩ (by omega)
  ·exact wi ⟨by omega, by omega⟩
theorem plus_ok {a b : Int} (ha : R64 a) (hb : R64 b) : m_lin_plus a b = some (wi64 (a + b), decide (R64 (a + b))) := by
 obtain ⟨a1, a2⟩ := ha
 obtain ⟨b1, b2⟩ := hb
 unfold m_lin_plus
 refine congrArg some (Prod.ext rfl ?_)
 dsimp only
 rw [wi_lin ⟨by omega, by omega⟩]
 by_cases c1 : a + b < -9223372036854775808
 ·rw [if_pos c1, decide_eq_false (p := R64 (a + b)) (fun h => by have := h.1; omega), decide_eq_true (by omega), decide_eq_false (by omega)]; rfl
 rw [if_neg c1]
 by_cases c2 : 9223372036854775807 < a + b
 ·rw [if_pos c2, decide_eq_false (p := R64 (a + b)) (fun h => by have := h.2; omega), decide_eq_false (by omega), decide_eq_true (by omega)]; rfl
 rw [if_neg c2, decide_eq_true (p := R64 (a + b)) ⟨by omega, by omega⟩]
 by_cases c3 : 0 < b
 ·rw [decide_eq_true (by omega), decide_eq_true c3]; rfl
 ·rw [decide_eq_false (by omega), decide_eq_false c3]; rfl
theorem base_Plus {a b : Int} (ha : R64 a) (hb : R64 b) : m_base_Plus a b = some (if R64 (a + b) then (a + b, true) else (0, false)) := by
 obtain ⟨a1, a2⟩ := ha
 obtain ⟨b1, b2⟩ := hb
 unfold m_base_Plus
 by_cases c : R64 (a + b)
 ·obtain ⟨c1, c2⟩ := c
  rw [if_pos (show R64 (a + b) from ⟨c1, c2⟩), if_neg, wi ⟨c1, c2⟩]
  simp only [Bool.or_eq_true, Bool.and_eq_true, decide_eq_true_eq, not_or, not_and]
  refine ⟨fun h => ?_, fun h => ?_⟩
  ·rw [wi ⟨by omega, by omega⟩]; omega
  ·rw [wi ⟨by omega, by omega⟩]; omega
 ·rw [if_neg c, if_pos]
  simp only [Bool.or_eq_true, Bool.and_eq_true, decide_eq_true_eq]
  by_cases h : 0 < b
  ·left; refine ⟨h, ?_⟩
   rw [wi ⟨by omega, by omega⟩]
   exact Classical.byContradiction fun h2 => c ⟨by omega, by omega⟩
  ·by_cases h0 : b < 0
   ·right; refine ⟨h0, ?_⟩
    rw [wi ⟨by omega, by omega⟩]
    exact Classical.byContradiction fun h2 => c ⟨by omega, by omega⟩
   ·exact absurd ⟨by omega, by omega⟩ c
theorem wi_some (x : Int) : (-9223372036854775808 ≤ wi64 x) ∧ (wi64 x ≤ 9223372036854775807) ∧ (wi64 x - x) % 18446744073709551616 = 0 := by
 simp only [wi64, IntKind.wrap, IntKind.signed, IntKind.bits]
 simp
 omega
theorem base_Times {a b : Int} (ha : R64 a) (hb : R64 b) : m_base_Times a b = some (if R64 (a * b) then (a * b, true) else (0, false)) := by
 unfold m_base_Times
 by_cases c0 : a = 0 ∨ b = 0
 ·have e : a * b = 0 := by rcases c0 with rfl | rfl <;> simp
  rw [if_pos (by simpa using c0), e, if_pos (by decide)]
 rw [if_neg (by simpa using c0)]
 have hb0 : b ≠ 0 := fun h => c0 (.inr h)
 rw [if_pos (fun _ => hb0)]
 obtain ⟨a1, a2⟩ := ha
 obtain ⟨b1, b2⟩ := hb
 obtain ⟨m1, m2, _⟩ := mulR_bd ⟨a1, a2⟩ ⟨b1, b2⟩
 by_cases cm : (a = -1 ∧ b = -9223372036854775808) ∨ (b = -1 ∧ a = -9223372036854775808)
 ·have e : a * b = 9223372036854775808 := by rcases cm with ⟨rfl, rfl⟩ | ⟨rfl, rfl⟩ <;> rfl
  rw [if_pos, e, if_neg (by decide)]
  rcases cm with ⟨rfl, rfl⟩ | ⟨rfl, rfl⟩ <;> simp
 have ecm : (((decide (a = (-1))) && (decide (b = (-9223372036854775808)))) || ((decide (b = (-1))) && (decide (a = (-9223372036854775808))))) = false := by
  rw [Bool.eq_false_iff]; intro h; exact cm (by simpa using h)
 rw [ecm, Bool.false_or]
 by_cases c : R64 (a * b)
 ·rw [wi c, Int.mul_tdiv_cancel _ hb0, wi ⟨a1, a2⟩, if_pos c]; simp
 ·rw [if_neg c, if_pos]
  simp only [Bool.not_eq_true', decide_eq_false_iff_not]
  intro he
  obtain ⟨w1, w2, w3⟩ := wi_some (a * b)
  generalize wi64 (a * b) = w at *
  have t1 := Int.mul_tdiv_add_tmod w b
  have t2 : (Int.tmod w b).natAbs < b.natAbs := by rw [Int.natAbs_tmod]; exact Nat.mod_lt _ (by omega)
  have t3 : (Int.tdiv w b).natAbs ≤ w.natAbs := by rw [Int.natAbs_tdiv]; exact Nat.div_le_self _ _
  have t4 : Int.tdiv w b = a := by
   by_cases c2 : R64 (Int.tdiv w b)
   ·rw [wi c2] at he; exact he
   ·have t5 : Int.tdiv w b = 9223372036854775808 := by
     generalize Int.tdiv w b = u at *
     exact Classical.byContradiction fun h => c2 ⟨by omega, by omega⟩
    rw [t5] at he t1
    rw [show wi64 9223372036854775808 = -9223372036854775808 from rfl] at he
    exact absurd (.inr ⟨by omega, he.symm⟩) cm
  rw [t4, Int.mul_comm] at t1
  generalize a * b = q at *
  exact c (by omega)
end Go.Proofs.YtmhoikfoogemnaaGreatDoor
