import Derived.Test.YtlakfanockhngaaGreatDoorSPd
namespace Go.Proofs.YtlakfanockhngaaGreatDoor
open Go Go.RowKit Go.Vc
set_option linter.unusedVariables false
set_option linter.unusedSimpArgs false
theorem mul_bd {x y : Int} {B : Nat} (hx : -(B : Int) ≤ x ∧ x ≤ B) (hy : -(B : Int) ≤ y ∧ y ≤ B) : -((B * B : Nat) : Int) ≤ x * y ∧ x * y ≤ ((B * B : Nat) : Int) := by
 have h1 : x.natAbs ≤ B := by omega
 have h2 : y.natAbs ≤ B := by omega
 have h3 := Nat.mul_le_mul h1 h2
 rw [← Int.natAbs_mul] at h3
 omega
theorem okV_fix {t : GType} {v : GVal} (ht : tyB t = true) (h2 : t.Kind = 2) (h : okV t v = true) : v.D = 1 ∧ -1073741824 ≤ v.N ∧ v.N ≤ 1073741824 := by
 obtain ⟨a, b, c, d, e, f, g⟩ := tyB_fix ht h2
 have hp := pw_bd (n := t.Bits - 1) (by omega)
 unfold okV at h
 simp [h2] at h
 omega
theorem okV_int {t : GType} {v : GVal} (h3 : t.Kind = 3) (h : okV t v = true) : v.D = 1 ∧ -2147483647 ≤ v.N ∧ v.N ≤ 2147483647 := by
 unfold okV at h
 simpa [h3] using h
theorem okV_fr {t : GType} {v : GVal} (h1 : t.Kind = 1) (h : okV t v = true) : frOK v = true := by
 unfold okV at h
 simpa [h1] using h
theorem frOK_D1 {v : GVal} (hD : v.D = 1) (hN : -2147483647 ≤ v.N ∧ v.N ≤ 2147483647) : frOK v = true := by
 unfold frOK; simp [hD, hN]
theorem frOK_of {t : GType} {v : GVal} (ht : tyB t = true) (h : okV t v = true) : frOK v = true := by
 rcases tyB_kind ht with k | k | k
 ·exact okV_fr k h
 ·obtain ⟨h1, h2, h3⟩ := okV_fix ht k h; exact frOK_D1 h1 ⟨by omega, by omega⟩
 ·obtain ⟨h1, h2, h3⟩ := okV_int k h; exact frOK_D1 h1 ⟨by omega, by omega⟩
theorem frOK_bd {v : GVal} (h : frOK v = true) : 1 ≤ v.D ∧ v.D ≤ 2147483647 ∧ -2147483647 ≤ v.N ∧ v.N ≤ 2147483647 ∧ Int.gcd v.N v.D = 1 := by
 unfold frOK at h; simpa using h
theorem dvd_cop {d n m : Int} (h : d ∣ n * m) (hg : Int.gcd d n = 1) : d ∣ m := by
 rw [← Int.natAbs_dvd_natAbs] at h ⊢
 rw [Int.natAbs_mul] at h
 exact Nat.Coprime.dvd_of_dvd_mul_left hg h
theorem fr_eq {a b : GVal} (ha : frOK a = true) (hb : frOK b = true) (h : a.N * b.D = b.N * a.D) : a = b := by
 obtain ⟨a1, a2, a3, a4, a5⟩ := frOK_bd ha
 obtain ⟨b1, b2, b3, b4, b5⟩ := frOK_bd hb
 have h1 : a.D ∣ b.D := by
  have h3 : a.D ∣ a.N * b.D := ⟨b.N, by rw [h, Int.mul_comm]⟩
  exact dvd_cop h3 (by rw [Int.gcd_comm]; exact a5)
 have h2 : b.D ∣ a.D := by
  have h3 : b.D ∣ b.N * a.D := ⟨a.N, by rw [← h, Int.mul_comm]⟩
  exact dvd_cop h3 (by rw [Int.gcd_comm]; exact b5)
 have h3 : a.D = b.D := by
  have := Int.le_of_dvd (by omega) h1
  have := Int.le_of_dvd (by omega) h2
  omega
 have h4 : a.N = b.N := by
  rw [h3] at h
  exact Int.eq_of_mul_eq_mul_right (by omega) h
 cases a; cases b; simp_all
def ord (a b : Int) : Int := if a < b then -1 else if b < a then 1 else 0
theorem frac_order (a b : Int) : m_frac_order a b = some (ord a b) := by
 unfold m_frac_order ord; by_cases h : a < b <;> by_cases k : b < a <;> simp [h, k]
theorem ref01_order (a b : Int) : m_ref01_order a b = some (ord a b) := by
 unfold m_ref01_order ord; by_cases h : a < b <;> by_cases k : b < a <;> simp [h, k]
theorem ref01_Valid {v : GVal} (h : VaR v) : m_ref01_Valid v = some (frOK v) := by
 unfold m_ref01_Valid
 rw [base_Val (by rfl) h]
 rfl
theorem frVaR {v : GVal} (h : frOK v = true) : VaR v := by
 obtain ⟨a1, a2, a3, a4, a5⟩ := frOK_bd h
 exact ⟨⟨by omega, by omega⟩, ⟨by omega, by omega⟩⟩
theorem cross {a b : GVal} (ha : frOK a = true) (hb : frOK b = true) : -4611686018427387904 ≤ a.N * b.D ∧ a.N * b.D ≤ 4611686018427387904 := by
 obtain ⟨a1, a2, a3, a4, a5⟩ := frOK_bd ha
 obtain ⟨b1, b2, b3, b4, b5⟩ := frOK_bd hb
 have := mul_bd (x := a.N) (y := b.D) (B := 2147483647) ⟨by omega, by omega⟩ ⟨by omega, by omega⟩
 omega
theorem ref01_Compare {a b : GVal} (ha : frOK a = true) (hb : frOK b = true) : m_ref01_Compare a b = some (ord (a.N * b.D) (b.N * a.D)) := by
 have h1 := cross ha hb
 have h2 := cross hb ha
 unfold m_ref01_Compare
 rw [ref01_Valid (frVaR ha), ref01_Valid (frVaR hb), ha, hb, wi ⟨by omega, by omega⟩, wi ⟨by omega, by omega⟩]
 simp [gd, ref01_order]
theorem frac_Compare {a b : GVal} (ha : frOK a = true) (hb : frOK b = true) : m_frac_Compare a b = some (ord (a.N * b.D) (b.N * a.D)) := by
 have h1 := cross ha hb
 have h2 := cross hb ha
 unfold m_frac_Compare
 rw [frac_Valid (frVaR ha), frac_Valid (frVaR hb), ha, hb, wi ⟨by omega, by omega⟩, wi ⟨by omega, by omega⟩]
 simp [gd, frac_order]
theorem okV_D {t : GType} {v : GVal} (ht : tyB t = true) (h : okV t v = true) (h1 : t.Kind ≠ 1) : v.D = 1 := by
 rcases tyB_kind ht with k | k | k
 ·exact absurd k h1
 ·exact (okV_fix ht k h).1
 ·exact (okV_int k h).1
def cmp (t : GType) (a b : GVal) : Int := if (tyB t && okV t a) && (tyB t && okV t b) then ord (a.N * b.D) (b.N * a.D) else 0
theorem value_Compare {t : GType} {a b : GVal} (ha : VaR a) (hb : VaR b) : m_value_Compare t a b = some (cmp t a b) := by
 unfold m_value_Compare cmp
 rw [value_Valid ha, value_Valid hb]
 cases ht : tyB t
 ·simp [gd]
 cases h1 : okV t a
 ·simp [gd]
 cases h2 : okV t b
 ·simp [gd]
 simp only [Bool.and_self, Option.bind_some, gd, Bool.not_true, Bool.not_false, if_true, Bool.or_self, Bool.false_eq_true, if_false]
 by_cases k : t.Kind = 1
 ·simp [k, frac_Compare (frOK_of ht h1) (frOK_of ht h2)]
 ·simp only [k, decide_false, Bool.false_eq_true, if_false, okV_D ht h1 k, okV_D ht h2 k, Int.mul_one, ord]
  by_cases h : a.N < b.N <;> by_cases h' : b.N < a.N <;> simp [h, h']
theorem ref04_Compare {t : GType} {a b : GVal} (ha : VaR a) (hb : VaR b) : m_ref04_Compare t a b = some (cmp t a b) := by
 unfold m_ref04_Compare cmp
 rw [ref04_Valid ha, ref04_Valid hb]
 cases ht : tyB t
 ·simp [gd]
 cases h1 : okV t a
 ·simp [gd]
 cases h2 : okV t b
 ·simp [gd]
 simp [gd, ref01_Compare (frOK_of ht h1) (frOK_of ht h2)]
theorem cmp_zero {t : GType} {a b : GVal} (ht : tyB t = true) (ha : okV t a = true) (hb : okV t b = true) (h : cmp t a b = 0) : a = b := by
 unfold cmp at h
 simp only [ht, ha, hb, Bool.and_self, if_true, ord] at h
 refine fr_eq (frOK_of ht ha) (frOK_of ht hb) ?_
 split at h
 ·cases h
 ·split at h
  ·cases h
  ·omega
theorem floorI {a b : Int} (hb : b ≠ 0) : (if Int.tmod a b ≠ 0 ∧ ((a < 0) ≠ (b < 0)) then Int.tdiv a b - 1 else Int.tdiv a b) = if b < 0 then (-a) / (-b) else a / b := by
 have key : ∀ a b : Int, 0 < b → (if Int.tmod a b ≠ 0 ∧ a < 0 then Int.tdiv a b - 1 else Int.tdiv a b) = a / b := fun a b hb => by
  rw [← floorS hb]
  have e := Int.mul_tdiv_add_tmod a b
  have hc : Int.tdiv a b * b = b * Int.tdiv a b := Int.mul_comm _ _
  have hB := tdiv_bd (n := a) hb
  by_cases h : a < 0
  ·have := hB.2 h
   by_cases h0 : Int.tmod a b = 0
   ·rw [if_neg (by simp [h0]), if_neg (by omega)]
   ·have hs : Int.tmod a b ≤ 0 := by
     have h6 : Int.tmod a b = -((-a) % b) := by rw [show a = -(-a) by omega, Int.neg_tmod, Int.tmod_eq_emod_of_nonneg (by omega), Int.neg_neg]
     have := Int.emod_nonneg (-a) (by omega : b ≠ 0)
     omega
    rw [if_pos ⟨h0, h⟩, if_pos (by omega)]
  ·have := hB.1 (by omega)
   rw [if_neg (fun h' => h h'.2), if_neg (by omega)]
 by_cases hb0 : b < 0
 ·rw [if_pos hb0, ← key (-a) (-b) (by omega)]
  have e1 : Int.tdiv (-a) (-b) = Int.tdiv a b := by rw [Int.neg_tdiv, Int.tdiv_neg, Int.neg_neg]
  have e2 : Int.tmod (-a) (-b) = -Int.tmod a b := by rw [Int.neg_tmod, Int.tmod_neg]
  rw [e1, e2]
  by_cases h0 : Int.tmod a b = 0
  ·simp [h0]
  ·have ha : a ≠ 0 := fun h => by subst h; simp at h0
   have : (Int.tmod a b ≠ 0 ∧ ((a < 0) ≠ (b < 0))) ↔ (-Int.tmod a b ≠ 0 ∧ -a < 0) := by
    simp only [hb0, eq_iff_iff, iff_true, ne_eq]
    omega
   by_cases hc : -Int.tmod a b ≠ 0 ∧ -a < 0
   ·rw [if_pos hc, if_pos (this.2 hc)]
   ·rw [if_neg hc, if_neg (fun h => hc (this.1 h))]
 ·rw [if_neg hb0, ← key a b (by omega)]
  have : (Int.tmod a b ≠ 0 ∧ ((a < 0) ≠ (b < 0))) ↔ (Int.tmod a b ≠ 0 ∧ a < 0) := by
   simp only [hb0, eq_iff_iff, iff_false, ne_eq, Decidable.not_not]
  by_cases hc : Int.tmod a b ≠ 0 ∧ a < 0
  ·rw [if_pos hc, if_pos (this.2 hc)]
  ·rw [if_neg hc, if_neg (fun h => hc (this.1 h))]
theorem whole_j1 (n : Int) : m_value_integer_j1 n = m_ref04_whole_j1 n := by
 unfold m_value_integer_j1 m_ref04_whole_j1 m_value_whole
 by_cases h : -2147483647 ≤ n ∧ n ≤ 2147483647
 ·rw [if_neg (by simp; omega)]; simp [h.1, h.2]
 ·rw [if_pos (by simp; omega)]
  have : (decide (-2147483647 ≤ n) && decide (n ≤ 2147483647)) = false := by rw [← Bool.decide_and, decide_eq_false_iff_not]; exact h
  simp [this]
theorem value_integer {op a b : Int} (h4 : 4 ≤ op) (h7 : op ≤ 7) (ha : -2147483647 ≤ a ∧ a ≤ 2147483647) (hb : -2147483647 ≤ b ∧ b ≤ 2147483647) : m_value_integer op a b = m_ref04_whole op a b := by
 unfold m_value_integer m_ref04_whole
 simp only [whole_j1]
 by_cases c4 : op = 4
 ·simp [c4]
 by_cases c5 : op = 5
 ·simp [c5]
 by_cases c6 : op = 6
 ·simp [c6]
 have c7 : op = 7 := by omega
 simp only [c7, show decide ((7 : Int) = 4) = false from rfl, show decide ((7 : Int) = 5) = false from rfl, show decide ((7 : Int) = 6) = false from rfl, decide_true, if_true, Bool.false_eq_true, if_false]
 by_cases c0 : b = 0
 ·simp [c0]
 ·simp only [c0, decide_false, Bool.false_eq_true, if_false, ne_eq, not_false_eq_true, if_true, Option.bind_some]
  have hf := floorI (a := a) c0
  have hB1 : b < 0 → -2147483647 ≤ (-a) / (-b) ∧ (-a) / (-b) ≤ 2147483647 := fun h => by
   obtain ⟨b1, b2, _⟩ := ediv_bd (n := -a) (d := -b) (by omega) (B := 2147483647) (by omega) ⟨by omega, by omega⟩; exact ⟨b1, b2⟩
  have hB2 : ¬ b < 0 → -2147483647 ≤ a / b ∧ a / b ≤ 2147483647 := fun h => by
   obtain ⟨b1, b2, _⟩ := ediv_bd (n := a) (d := b) (by omega) (B := 2147483647) (by omega) ⟨by omega, by omega⟩; exact ⟨b1, b2⟩
  have e1 : (if (!decide (Int.tmod a b = 0) && (decide (a < 0) != decide (b < 0))) = true then m_ref04_whole_j1 (wi64 (wi64 (Int.tdiv a b) - 1)) else m_ref04_whole_j1 (wi64 (Int.tdiv a b))) = m_ref04_whole_j1 (if b < 0 then (-a) / (-b) else a / b) := by
   rw [← hf]
   have hc : ((!decide (Int.tmod a b = 0) && (decide (a < 0) != decide (b < 0))) = true) ↔ (Int.tmod a b ≠ 0 ∧ ((a < 0) ≠ (b < 0))) := by
    by_cases q1 : a < 0 <;> by_cases q2 : b < 0 <;> simp [q1, q2]
   by_cases hq : Int.tmod a b ≠ 0 ∧ ((a < 0) ≠ (b < 0))
   ·rw [if_pos (hc.2 hq), if_pos hq]
    rw [if_pos hq] at hf
    have hR : -2147483648 ≤ Int.tdiv a b ∧ Int.tdiv a b ≤ 2147483649 := by
     by_cases h : b < 0
     ·rw [if_pos h] at hf; have := hB1 h; omega
     ·rw [if_neg h] at hf; have := hB2 h; omega
    rw [wi (p := Int.tdiv a b) ⟨by omega, by omega⟩, wi ⟨by omega, by omega⟩]
   ·rw [if_neg (fun h => hq (hc.1 h)), if_neg hq]
    rw [if_neg hq] at hf
    have hR : -2147483648 ≤ Int.tdiv a b ∧ Int.tdiv a b ≤ 2147483649 := by
     by_cases h : b < 0
     ·rw [if_pos h] at hf; have := hB1 h; omega
     ·rw [if_neg h] at hf; have := hB2 h; omega
    rw [wi (p := Int.tdiv a b) ⟨by omega, by omega⟩]
  rw [e1]
  by_cases h : b < 0
  ·simp only [h, decide_true, if_true]
   rw [wi (p := -a) ⟨by omega, by omega⟩, wi (p := -b) ⟨by omega, by omega⟩, ref04_floor (by omega) ⟨by omega, by omega⟩, Option.bind_some]
  ·simp only [h, decide_false, Bool.false_eq_true, if_false]
   rw [ref04_floor (by omega) ⟨by omega, by omega⟩, Option.bind_some]
end Go.Proofs.YtlakfanockhngaaGreatDoor
