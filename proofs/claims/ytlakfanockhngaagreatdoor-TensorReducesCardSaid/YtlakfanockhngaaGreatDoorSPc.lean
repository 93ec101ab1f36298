import Derived.Test.YtlakfanockhngaaGreatDoorSPb
namespace Go.Proofs.YtlakfanockhngaaGreatDoor
open Go Go.RowKit Go.Vc
set_option linter.unusedVariables false
set_option linter.unusedSimpArgs false
theorem bind_pair {α β : Type} (m : Option (α × β)) : (m.bind fun r => some (r.1, r.2)) = m := by cases m <;> rfl
theorem wiwu {x : Int} (h : R64 x) : wi64 (wu64 x) = x := by
 obtain ⟨h1, h2⟩ := h
 simp [IntKind.wrap, IntKind.signed, IntKind.bits]
 omega
theorem wi_of {x y c : Int} (h : R64 y) (e : x = y + c * 18446744073709551616) : wi64 x = y := by
 obtain ⟨h1, h2⟩ := h
 simp [IntKind.wrap, IntKind.signed, IntKind.bits]
 omega
theorem wu_ex (x : Int) : ∃ c, wu64 x = x + c * 18446744073709551616 := by
 refine ⟨-(x / 18446744073709551616), ?_⟩
 simp [IntKind.wrap, IntKind.signed, IntKind.bits]
 omega
theorem ediv_unique {n d q r : Int} (h : n = d * q + r) (h0 : 0 ≤ r) (h1 : r < d) : n / d = q ∧ n % d = r :=
 (Int.ediv_emod_unique (by omega)).2 ⟨by omega, h0, h1⟩
theorem tdiv_neg_case {n d : Int} (hd : 0 < d) (hn : n < 0) : Int.tdiv n d = -((-n) / d) := by
 rw [show n = -(-n) by omega, Int.neg_tdiv, Int.tdiv_eq_ediv_of_nonneg (by omega), Int.neg_neg]
theorem tdiv_bd {n d : Int} (hd : 0 < d) : (0 ≤ n → 0 ≤ Int.tdiv n d ∧ Int.tdiv n d ≤ n ∧ 0 ≤ Int.tdiv n d * d ∧ Int.tdiv n d * d ≤ n) ∧ (n < 0 → n ≤ Int.tdiv n d ∧ Int.tdiv n d ≤ 0 ∧ n ≤ Int.tdiv n d * d ∧ Int.tdiv n d * d ≤ 0) := by
 constructor
 ·intro h
  rw [Int.tdiv_eq_ediv_of_nonneg h]
  have e := Int.mul_ediv_add_emod n d
  have h1 := Int.emod_nonneg n (by omega : d ≠ 0)
  have h2 := Int.ediv_nonneg h (by omega : 0 ≤ d)
  have h3 := Int.mul_le_mul_of_nonneg_left (show (1 : Int) ≤ d by omega) h2
  rw [Int.mul_comm] at e
  omega
 ·intro h
  rw [tdiv_neg_case hd h]
  have e := Int.mul_ediv_add_emod (-n) d
  have h1 := Int.emod_nonneg (-n) (by omega : d ≠ 0)
  have h2 := Int.ediv_nonneg (show 0 ≤ -n by omega) (by omega : 0 ≤ d)
  have h3 := Int.mul_le_mul_of_nonneg_left (show (1 : Int) ≤ d by omega) h2
  rw [Int.mul_comm] at e
  rw [Int.neg_mul]
  omega
theorem floorS {n d : Int} (hd : 0 < d) : (if n < Int.tdiv n d * d then Int.tdiv n d - 1 else Int.tdiv n d) = n / d := by
 by_cases h : 0 ≤ n
 ·have := (tdiv_bd (n := n) hd).1 h
  rw [if_neg (by omega), Int.tdiv_eq_ediv_of_nonneg h]
 ·have hn : n < 0 := by omega
  rw [tdiv_neg_case hd hn]
  have e := Int.mul_ediv_add_emod (-n) d
  have h1 := Int.emod_nonneg (-n) (by omega : d ≠ 0)
  have h2 := Int.emod_lt_of_pos (-n) hd
  generalize (-n) / d = k at *
  generalize (-n) % d = s at *
  have hc : k * d = d * k := Int.mul_comm _ _
  rw [Int.neg_mul, hc]
  by_cases hs : s = 0
  ·rw [if_neg (by omega)]
   exact (ediv_unique (q := -k) (r := 0) (by rw [Int.mul_neg]; omega) (by omega) hd).1.symm
  ·rw [if_pos (by omega)]
   exact (ediv_unique (q := -k - 1) (r := d - s) (by rw [Int.mul_sub, Int.mul_neg]; omega) (by omega) (by omega)).1.symm
theorem ref04_floor {n d : Int} (hd : 0 < d) (hn : -4611686018427387904 ≤ n ∧ n ≤ 4611686018427387904) : m_ref04_floor n d = some (n / d) := by
 unfold m_ref04_floor
 have hb := tdiv_bd (n := n) hd
 have h1 : R64 (Int.tdiv n d) := by
  by_cases h : 0 ≤ n
  ·have := hb.1 h; exact ⟨by omega, by omega⟩
  ·have := hb.2 (by omega); exact ⟨by omega, by omega⟩
 have h2 : R64 (Int.tdiv n d * d) := by
  by_cases h : 0 ≤ n
  ·have := hb.1 h; exact ⟨by omega, by omega⟩
  ·have := hb.2 (by omega); exact ⟨by omega, by omega⟩
 have h3 : R64 (Int.tdiv n d - 1) := by
  by_cases h : 0 ≤ n
  ·have := hb.1 h; exact ⟨by omega, by omega⟩
  ·have := hb.2 (by omega); exact ⟨by omega, by omega⟩
 rw [if_pos (by omega), wi h1, wi h2, wi h3, ← floorS hd]
 by_cases h : n < Int.tdiv n d * d <;> simp [h]
def rnd (n d how : Int) : Int :=
 if n % d = 0 ∨ how = 1 then n / d
 else if how = 2 then n / d + 1
 else if how = 3 then (if n < 0 then n / d + 1 else n / d)
 else if d - n % d < n % d ∨ (d - n % d = n % d ∧ (n / d) % 2 ≠ 0) then n / d + 1 else n / d
theorem ediv_bd {n d : Int} (hd : 0 < d) {B : Int} (h0 : 0 ≤ B) (hn : -B ≤ n ∧ n ≤ B) : -B ≤ n / d ∧ n / d ≤ B ∧ 0 ≤ n % d ∧ n % d < d ∧ n = n / d * d + n % d := by
 have e := Int.mul_ediv_add_emod n d
 have h1 := Int.emod_nonneg n (by omega : d ≠ 0)
 have h2 := Int.emod_lt_of_pos n hd
 have h5 : n = n / d * d + n % d := by rw [Int.mul_comm]; omega
 refine ⟨?_, ?_, h1, h2, h5⟩
 ·rcases Int.lt_or_le (n / d) (-B) with h | h
  ·exfalso
   have h3 := Int.mul_le_mul_of_nonneg_right (show n / d ≤ -B - 1 by omega) (show 0 ≤ d by omega)
   have h4 := Int.mul_le_mul_of_nonneg_left (show (1 : Int) ≤ d by omega) h0
   have h6 : (-B - 1) * d = -(B * d) - d := by rw [Int.sub_mul, Int.neg_mul]; omega
   omega
  ·exact h
 ·rcases Int.lt_or_le B (n / d) with h | h
  ·exfalso
   have h3 := Int.mul_le_mul_of_nonneg_right (show B + 1 ≤ n / d by omega) (show 0 ≤ d by omega)
   have h4 := Int.mul_le_mul_of_nonneg_left (show (1 : Int) ≤ d by omega) h0
   have h6 : (B + 1) * d = B * d + d := by rw [Int.add_mul]; omega
   omega
  ·exact h
theorem tmod_two (q : Int) : (Int.tmod q 2 = 0) ↔ (q % 2 = 0) := by
 constructor
 ·intro h; have := Int.dvd_of_tmod_eq_zero h; omega
 ·intro h; exact Int.tmod_eq_zero_of_dvd (by omega)
theorem ref04_round {n d how : Int} (hd : 0 < d) (hd' : d ≤ 4611686018427387904) (hn : -4611686018427387904 ≤ n ∧ n ≤ 4611686018427387904) : m_ref04_round n d how = some (rnd n d how) := by
 unfold m_ref04_round rnd
 obtain ⟨b1, b2, b3, b4, b5⟩ := ediv_bd hd (B := 4611686018427387904) (by omega) hn
 rw [ref04_floor hd hn, Option.bind_some]
 have h1 : wi64 (n / d * d) = n / d * d := wi ⟨by omega, by omega⟩
 have h2 : wi64 (n - n / d * d) = n % d := by rw [wi ⟨by omega, by omega⟩]; omega
 rw [h1, h2, Option.bind_some, wi (p := n / d + 1) ⟨by omega, by omega⟩, wi (p := d - n % d) ⟨by omega, by omega⟩]
 by_cases c1 : n % d = 0 ∨ how = 1
 ·rw [if_pos (by simpa using c1), if_pos c1]
 ·rw [if_neg (by simpa using c1), if_neg c1]
  by_cases c2 : how = 2
  ·simp [c2]
  ·by_cases c3 : how = 3
   ·simp [c3]; split <;> rfl
   ·simp only [c2, c3, decide_false, Bool.false_eq_true, if_false]
    by_cases c4 : d - n % d < n % d ∨ (d - n % d = n % d ∧ (n / d) % 2 ≠ 0)
    ·rw [if_pos c4, if_pos]
     have := tmod_two (n / d)
     simp only [Bool.or_eq_true, Bool.and_eq_true, decide_eq_true_eq, Bool.not_eq_true', decide_eq_false_iff_not, this]
     omega
    ·rw [if_neg c4, if_neg]
     have := tmod_two (n / d)
     simp only [Bool.or_eq_true, Bool.and_eq_true, decide_eq_true_eq, Bool.not_eq_true', decide_eq_false_iff_not, this]
     omega
def stop (a b : Int) (neg : Bool) (how : Int) : Prop := (a % b = 0 ∨ how = 3) ∨ (how = 1 ∧ neg = false) ∨ (how = 2 ∧ neg = true) ∨ (how = 4 ∧ (2 * (a % b) < b ∨ (2 * (a % b) = b ∧ (a / b) % 2 = 0)))
instance {a b : Int} {neg : Bool} {how : Int} : Decidable (stop a b neg how) := by unfold stop; infer_instance
theorem round_rounded {a b : Int} {neg : Bool} {how : Int} (ha : 0 ≤ a) (ha' : a ≤ 4611686018427387904) (hb : 0 < b) (hb' : b ≤ 4611686018427387904) :
  m_round_rounded a b neg how = some (if stop a b neg how then a / b else a / b + 1) := by
 obtain ⟨b1, b2, b3, b4, b5⟩ := ediv_bd hb (n := a) (B := 4611686018427387904) (by omega) ⟨by omega, ha'⟩
 have b6 := Int.ediv_nonneg ha (show 0 ≤ b by omega)
 unfold m_round_rounded
 obtain ⟨f, hf⟩ : ∃ f, fu = f + 1 + 1 + 1 := ⟨18446744073709551613, rfl⟩
 rw [if_pos (by omega), hf]
 have e1 : Int.tdiv a b = a / b := Int.tdiv_eq_ediv_of_nonneg ha
 have e2 : Int.tmod a b = a % b := Int.tmod_eq_emod_of_nonneg ha
 have e3 : wu64 (a / b) = a / b := wu ⟨by omega, by omega⟩
 have e4 : wu64 (a / b + 1) = a / b + 1 := wu ⟨by omega, by omega⟩
 have e5 : wu64 (2 * (a % b)) = 2 * (a % b) := wu ⟨by omega, by omega⟩
 have e6 : wi64 (0 + 1) = 1 := by rfl
 have e7 : wi64 (1 + 1) = 2 := by rfl
 have l0 : lat [a / b, a / b + 1] 0 = some (a / b) := rfl
 have l1 : lat [a / b, a / b + 1] 1 = some (a / b + 1) := rfl
 have t2 := tmod_two (a / b)
 simp only [m_round_rounded_l1, m_round_rounded_j1, e1, e2, e3, e4, e5, e6, e7, l0, l1, Option.bind_some, show decide ((0 : Int) < 2) = true from rfl, show decide ((1 : Int) < 2) = true from rfl, show decide ((2 : Int) < 2) = false from rfl, if_true, Bool.false_eq_true, if_false]
 unfold stop
 by_cases c1 : a % b = 0
 ·simp [c1]
 by_cases c2 : how = 3
 ·simp [c2]
 by_cases c3 : how = 1
 ·cases neg <;> simp [c1, c3]
 by_cases c4 : how = 2
 ·cases neg <;> simp [c1, c4]
 by_cases c5 : how = 4
 ·simp only [c1, c5, decide_false, decide_true, t2]
  by_cases c6 : 2 * (a % b) < b
  ·simp [c6]
  ·by_cases c7 : 2 * (a % b) = b ∧ a / b % 2 = 0
   ·simp [c7.1, c7.2]
   ·have c8 : ¬ (2 * (a % b) < b ∨ 2 * (a % b) = b ∧ a / b % 2 = 0) := by omega
    have c9 : (decide (2 * (a % b) < b) || (decide (2 * (a % b) = b) && decide (a / b % 2 = 0))) = false := by simpa using c8
    simp [c8, c9]
 ·simp [c1, c2, c3, c4, c5]
theorem rnd_neg {a b : Int} {neg : Bool} {how : Int} (ha : 0 ≤ a) (hb : 0 < b) (h1 : 1 ≤ how) (h4 : how ≤ 4) : rnd (if neg then -a else a) b how = if neg then -(if stop a b neg how then a / b else a / b + 1) else (if stop a b neg how then a / b else a / b + 1) := by
 have e := Int.mul_ediv_add_emod a b
 have h2 := Int.emod_nonneg a (by omega : b ≠ 0)
 have h3 := Int.emod_lt_of_pos a hb
 unfold rnd stop
 cases neg
 ·simp only [Bool.false_eq_true, if_false, and_true, and_false, false_or]
  generalize a / b = q at *
  generalize a % b = r at *
  have hlt : ¬ a < 0 := by omega
  simp only [hlt, if_false]
  repeat' split
  all_goals omega
 ·simp only [if_true, and_true]
  by_cases hs : a % b = 0
  ·have := ediv_unique (n := -a) (d := b) (q := -(a / b)) (r := 0) (by rw [Int.mul_neg]; omega) (by omega) hb
   rw [this.1, this.2]
   simp [hs]
  ·have := ediv_unique (n := -a) (d := b) (q := -(a / b) - 1) (r := b - a % b) (by rw [Int.mul_sub, Int.mul_neg]; omega) (by omega) (by omega)
   rw [this.1, this.2]
   have hlt : -a < 0 := by
    rcases Int.lt_or_le 0 a with h | h
    ·omega
    ·have : a = 0 := by omega
     subst this; simp at hs
   simp only [hlt, if_true]
   generalize a / b = q at *
   generalize a % b = r at *
   simp only [Bool.true_eq_false, and_false, false_or]
   repeat' split
   all_goals omega
def dvd (n d how : Int) : Int := if d < 0 then rnd (-n) (-d) how else rnd n d how
theorem round_magnitude {n : Int} (h : R64 n) : m_round_magnitude n = some (if n < 0 then -n else n) := frac_magnitude h
theorem round_Divide {n d how : Int} (hd0 : d ≠ 0) (hd : -4611686018427387904 ≤ d ∧ d ≤ 4611686018427387904) (hn : -4611686018427387904 ≤ n ∧ n ≤ 4611686018427387904) (h1 : 1 ≤ how) (h4 : how ≤ 4) : m_round_Divide n d how = some (dvd n d how, 0) := by
 unfold m_round_Divide m_round_mode
 simp only [h1, h4, decide_true, Bool.and_self, Option.bind_some, Bool.not_true, Bool.false_eq_true, if_false, hd0, decide_false]
 rw [round_magnitude ⟨by omega, by omega⟩, Option.bind_some, round_magnitude ⟨by omega, by omega⟩, Option.bind_some]
 rw [round_rounded (by split <;> omega) (by split <;> omega) (by split <;> omega) (by split <;> omega), Option.bind_some]
 generalize hneg : (decide (n < 0) != decide (d < 0)) = neg
 have key := rnd_neg (a := if n < 0 then -n else n) (b := if d < 0 then -d else d) (neg := neg) (how := how) (by split <;> omega) (by split <;> omega) h1 h4
 have hB := ediv_bd (n := if n < 0 then -n else n) (d := if d < 0 then -d else d) (by split <;> omega) (B := 4611686018427387904) (by omega) (by split <;> omega)
 have hB0 := Int.ediv_nonneg (a := if n < 0 then -n else n) (b := if d < 0 then -d else d) (by split <;> omega) (by split <;> omega)
 have e : dvd n d how = rnd (if neg then -(if n < 0 then -n else n) else (if n < 0 then -n else n)) (if d < 0 then -d else d) how := by
  unfold dvd
  rw [← hneg]
  by_cases c1 : n < 0 <;> by_cases c2 : d < 0 <;> simp [c1, c2]
 rw [e, key]
 generalize hr : (if stop (if n < 0 then -n else n) (if d < 0 then -d else d) neg how then (if n < 0 then -n else n) / (if d < 0 then -d else d) else (if n < 0 then -n else n) / (if d < 0 then -d else d) + 1) = r
 have hr1 : 0 ≤ r ∧ r ≤ 4611686018427387905 := by
  rw [← hr]
  clear hr e key
  generalize (if n < 0 then -n else n) = a at *
  generalize (if d < 0 then -d else d) = b at *
  split <;> omega
 cases neg
 ·simp only [Bool.false_eq_true, if_false]
  rw [if_neg (by simp; omega), wi ⟨by omega, by omega⟩]
 ·simp only [if_true]
  rw [wiwu ⟨by omega, by omega⟩]
end Go.Proofs.YtlakfanockhngaaGreatDoor
