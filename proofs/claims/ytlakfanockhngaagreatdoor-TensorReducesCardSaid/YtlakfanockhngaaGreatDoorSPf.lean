import Derived.Test.YtlakfanockhngaaGreatDoorSPe
namespace Go.Proofs.YtlakfanockhngaaGreatDoor
open Go Go.RowKit Go.Vc
set_option linter.unusedVariables false
set_option linter.unusedSimpArgs false
theorem fixed_check2 {t : GType} {a b : GVal} (ht : tyB t = true) (h2 : t.Kind = 2) (ha : okV t a = true) (hb : okV t b = true) : m_fixed_check t [a, b] = some 0 := by
 unfold m_fixed_check
 obtain ⟨f, hf⟩ : ∃ f, fu = f + 1 + 1 + 1 := ⟨18446744073709551613, rfl⟩
 have e6 : wi64 1 = 1 := by rfl
 have e7 : wi64 2 = 2 := by rfl
 have l0 : lat [a, b] 0 = some a := rfl
 have l1 : lat [a, b] 1 = some b := rfl
 rw [fixed_ValidateType, hf]
 simp [h2, ht, m_fixed_check_l1, l0, l1, e6, e7, fixed_Valid _ ht h2, ha, hb]
theorem fixed_apply {t : GType} {a b : GVal} {m : GType → Int → Int → Option (Int × Int)} {n e : Int} (ht : tyB t = true) (h2 : t.Kind = 2) (ha : okV t a = true) (hb : okV t b = true) (hm : m t a.N b.N = some (n, e)) :
  m_fixed_apply ⟨m⟩ t a b = some (if e = 0 then (⟨nar t n, 1⟩, 0) else (⟨0, 0⟩, e)) := by
 unfold m_fixed_apply
 rw [fixed_check2 ht h2 ha hb]
 simp only [Option.bind_some, decide_true, Bool.not_true, Bool.false_eq_true, if_false, hm]
 by_cases h : e = 0
 ·simp [h, fixed_narrow _ ht h2]
 ·simp [h]
theorem rnd_bd {n d how : Int} (hd : 0 < d) {B : Int} (h0 : 0 ≤ B) (hn : -B ≤ n ∧ n ≤ B) : -B ≤ rnd n d how ∧ rnd n d how ≤ B + 1 := by
 obtain ⟨b1, b2, b3, b4, b5⟩ := ediv_bd hd h0 hn
 unfold rnd
 repeat' split
 all_goals omega
theorem dvd_bd {n d how : Int} (hd : d ≠ 0) {B : Int} (h0 : 0 ≤ B) (hn : -B ≤ n ∧ n ≤ B) : -B ≤ dvd n d how ∧ dvd n d how ≤ B + 1 := by
 unfold dvd
 split
 ·exact rnd_bd (by omega) h0 (by omega)
 ·exact rnd_bd (by omega) h0 hn
theorem pw_mul_bd {x f : Int} (hx : -1073741824 ≤ x ∧ x ≤ 1073741824) (hf : f ≤ 30) : -1152921504606846976 ≤ x * pw f ∧ x * pw f ≤ 1152921504606846976 := by
 have hp := pw_bd hf
 have := mul_bd (x := x) (y := pw f) (B := 1073741824) ⟨by omega, by omega⟩ ⟨by omega, by omega⟩
 omega
theorem fixed_all {t : GType} {a b : GVal} {op : Int} (h4 : 4 ≤ op) (h7 : op ≤ 7) (ht : tyB t = true) (h2 : t.Kind = 2) (ha : okV t a = true) (hb : okV t b = true) :
  m_value_arithmetic op t a b = m_ref04_fix op t a.N b.N ∧ ∃ q, m_value_arithmetic op t a b = some q := by
 obtain ⟨q1, q2, q3, q4, q5, q6, q7⟩ := tyB_fix ht h2
 obtain ⟨a1, a2, a3⟩ := okV_fix ht h2 ha
 obtain ⟨b1, b2, b3⟩ := okV_fix ht h2 hb
 have hp := pw_bd (n := t.Frac) q4
 have hxy := mul_bd (x := a.N) (y := b.N) (B := 1073741824) ⟨by omega, by omega⟩ ⟨by omega, by omega⟩
 have hxp := pw_mul_bd (x := a.N) (f := t.Frac) ⟨by omega, by omega⟩ q4
 unfold m_value_arithmetic m_ref04_fix
 simp only [h2, show decide ((2 : Int) = 3) = false from rfl, decide_true, Bool.and_true, Bool.false_eq_true, if_false, bind_pair, if_true]
 by_cases c4 : op = 4
 ·simp only [c4, decide_true, if_true, m_fixed_Add, bind_pair]
  have hs : wi64 (a.N + b.N) = a.N + b.N := wi ⟨by omega, by omega⟩
  rw [fixed_apply ht h2 ha hb (n := a.N + b.N) (e := 0) (by simp only [m_fixed_Add_1, hs]), hs, ref04_fit ht h2 ⟨by omega, by omega⟩]
  exact ⟨rfl, _, rfl⟩
 by_cases c5 : op = 5
 ·simp only [c5, show decide ((5 : Int) = 4) = false from rfl, Bool.false_eq_true, if_false, decide_true, if_true, m_fixed_Sub, bind_pair]
  have hs : wi64 (a.N - b.N) = a.N - b.N := wi ⟨by omega, by omega⟩
  rw [fixed_apply ht h2 ha hb (n := a.N - b.N) (e := 0) (by simp only [m_fixed_Sub_1, hs]), hs, ref04_fit ht h2 ⟨by omega, by omega⟩]
  exact ⟨rfl, _, rfl⟩
 by_cases c6 : op = 6
 ·simp only [c6, show decide ((6 : Int) = 4) = false from rfl, show decide ((6 : Int) = 5) = false from rfl, Bool.false_eq_true, if_false, decide_true, if_true, m_fixed_Mul, bind_pair]
  have hs : wi64 (a.N * b.N) = a.N * b.N := wi ⟨by omega, by omega⟩
  have hd := dvd_bd (n := a.N * b.N) (d := pw t.Frac) (how := t.Round) (by omega) (B := 1152921504606846976) (by omega) ⟨by omega, by omega⟩
  rw [fixed_apply ht h2 ha hb (n := dvd (a.N * b.N) (pw t.Frac) t.Round) (e := 0) (by
   simp only [m_fixed_Mul_1, q3, if_true, pw_sh' q3 q4, Int.one_mul, hs, bind_pair]
   rw [wi (p := pw t.Frac) ⟨by omega, by omega⟩, round_Divide (by omega) ⟨by omega, by omega⟩ ⟨by omega, by omega⟩ q5 q6]), ref04_step q3 q4, Option.bind_some, hs, ref04_round (by omega) (by omega) ⟨by omega, by omega⟩, Option.bind_some]
  have e : dvd (a.N * b.N) (pw t.Frac) t.Round = rnd (a.N * b.N) (pw t.Frac) t.Round := by unfold dvd; rw [if_neg (by omega)]
  rw [e] at hd ⊢
  rw [ref04_fit ht h2 ⟨by omega, by omega⟩]
  exact ⟨rfl, _, rfl⟩
 have c7 : op = 7 := by omega
 simp only [c7, show decide ((7 : Int) = 4) = false from rfl, show decide ((7 : Int) = 5) = false from rfl, show decide ((7 : Int) = 6) = false from rfl, show decide ((7 : Int) = 8) = false from rfl, Bool.false_eq_true, if_false, m_fixed_Div, bind_pair, Bool.false_and]
 have hs : wi64 (a.N * pw t.Frac) = a.N * pw t.Frac := wi ⟨by omega, by omega⟩
 by_cases c0 : b.N = 0
 ·rw [fixed_apply ht h2 ha hb (n := 0) (e := 4) (by
   simp only [m_fixed_Div_1, q3, if_true, pw_sh' q3 q4, hs, bind_pair]
   unfold m_round_Divide m_round_mode
   simp [q5, q6, c0])]
  simp [c0]
 ·simp only [c0, decide_false, Bool.false_eq_true, if_false]
  have hd := dvd_bd (n := a.N * pw t.Frac) (d := b.N) (how := t.Round) c0 (B := 1152921504606846976) (by omega) ⟨by omega, by omega⟩
  rw [fixed_apply ht h2 ha hb (n := dvd (a.N * pw t.Frac) b.N t.Round) (e := 0) (by
   simp only [m_fixed_Div_1, q3, if_true, pw_sh' q3 q4, hs, bind_pair]
   rw [round_Divide c0 ⟨by omega, by omega⟩ ⟨by omega, by omega⟩ q5 q6])]
  unfold m_ref04_fix_j1
  rw [ref04_step q3 q4]
  by_cases c1 : b.N < 0
  ·have e : dvd (a.N * pw t.Frac) b.N t.Round = rnd (-a.N * pw t.Frac) (-b.N) t.Round := by unfold dvd; rw [if_pos c1, Int.neg_mul]
   have hs2 : wi64 (-a.N * pw t.Frac) = -a.N * pw t.Frac := by rw [Int.neg_mul]; exact wi ⟨by omega, by omega⟩
   simp only [c1, decide_true, if_true, Option.bind_some]
   rw [wi (p := -a.N) ⟨by omega, by omega⟩, wi (p := -b.N) ⟨by omega, by omega⟩, hs2, ref04_round (by omega) (by omega) (by rw [Int.neg_mul]; omega), Option.bind_some]
   rw [e] at hd ⊢
   rw [ref04_fit ht h2 ⟨by omega, by omega⟩]
   exact ⟨rfl, _, rfl⟩
  ·have e : dvd (a.N * pw t.Frac) b.N t.Round = rnd (a.N * pw t.Frac) b.N t.Round := by unfold dvd; rw [if_neg c1]
   simp only [c1, decide_false, Bool.false_eq_true, if_false, Option.bind_some]
   rw [hs, ref04_round (by omega) (by omega) ⟨by omega, by omega⟩, Option.bind_some]
   rw [e] at hd ⊢
   rw [ref04_fit ht h2 ⟨by omega, by omega⟩]
   exact ⟨rfl, _, rfl⟩
theorem fixed_neg {t : GType} {a : GVal} (ht : tyB t = true) (h2 : t.Kind = 2) (ha : okV t a = true) (bN : Int) : m_fixed_Neg t a = m_ref04_fix 8 t a.N bN ∧ ∃ q, m_fixed_Neg t a = some q := by
 obtain ⟨a1, a2, a3⟩ := okV_fix ht h2 ha
 unfold m_fixed_Neg m_ref04_fix
 have hs : wi64 (-a.N) = -a.N := wi ⟨by omega, by omega⟩
 rw [bind_pair, fixed_apply ht h2 ha ha (n := -a.N) (e := 0) (by simp only [m_fixed_Neg_1, hs])]
 simp only [show decide ((8 : Int) = 4) = false from rfl, show decide ((8 : Int) = 5) = false from rfl, show decide ((8 : Int) = 6) = false from rfl, decide_true, Bool.false_eq_true, if_false, if_true]
 rw [hs, ref04_fit ht h2 ⟨by omega, by omega⟩]
 exact ⟨rfl, _, rfl⟩
theorem ref01_size {n : Int} (h : R64 n) : m_ref01_size n = m_frac_magnitude n := by
 rw [frac_magnitude h]
 obtain ⟨h1, h2⟩ := h
 unfold m_ref01_size
 by_cases hn : n < 0
 ·simp only [hn, decide_true, if_true]
  rw [wi (p := n + 1) ⟨by omega, by omega⟩, wi (p := -(n + 1)) ⟨by omega, by omega⟩, wu (p := -(n + 1)) ⟨by omega, by omega⟩, wu ⟨by omega, by omega⟩]
  congr 1; omega
 ·simp only [hn, decide_false, Bool.false_eq_true, if_false]
  rw [wu ⟨by omega, by omega⟩]
theorem gcd_same (a b : Int) : m_ref01_gcd a b = m_frac_gcd a b := by
 unfold m_ref01_gcd m_frac_gcd
 generalize fu = f
 induction f generalizing a b with
 | zero => rfl
 | succ f ih => rw [m_ref01_gcd_l1, m_frac_gcd_l1]; simp only [ih]
theorem ref01_New {n d : Int} (hn : R64 n) (hd : R64 d) : m_ref01_New n d = m_frac_New n d := by
 unfold m_ref01_New m_frac_New m_ref01_made
 by_cases h : d = 0
 ·simp [h]
 ·simp only [h, decide_false, Bool.false_eq_true, if_false, ref01_size hn, ref01_size hd, Option.bind_some, bind_pair, gcd_same]
theorem frac_ops {a b : GVal} (ha : frOK a = true) (hb : frOK b = true) :
  m_ref01_Add a b = m_frac_Add a b ∧ m_ref01_Sub a b = m_frac_Sub a b ∧ m_ref01_Mul a b = m_frac_Mul a b ∧ m_ref01_Div a b = m_frac_Div a b := by
 obtain ⟨a1, a2, a3, a4, a5⟩ := frOK_bd ha
 obtain ⟨b1, b2, b3, b4, b5⟩ := frOK_bd hb
 have x1 := mul_bd (x := a.N) (y := b.D) (B := 2147483647) ⟨by omega, by omega⟩ ⟨by omega, by omega⟩
 have x2 := mul_bd (x := b.N) (y := a.D) (B := 2147483647) ⟨by omega, by omega⟩ ⟨by omega, by omega⟩
 have x3 := mul_bd (x := a.D) (y := b.D) (B := 2147483647) ⟨by omega, by omega⟩ ⟨by omega, by omega⟩
 have x4 := mul_bd (x := a.N) (y := b.N) (B := 2147483647) ⟨by omega, by omega⟩ ⟨by omega, by omega⟩
 have x5 := mul_bd (x := a.D) (y := b.N) (B := 2147483647) ⟨by omega, by omega⟩ ⟨by omega, by omega⟩
 have w1 : wi64 (a.N * b.D) = a.N * b.D := wi ⟨by omega, by omega⟩
 have w2 : wi64 (b.N * a.D) = b.N * a.D := wi ⟨by omega, by omega⟩
 have w3 : wi64 (a.D * b.D) = a.D * b.D := wi ⟨by omega, by omega⟩
 have w4 : wi64 (a.N * b.N) = a.N * b.N := wi ⟨by omega, by omega⟩
 have w5 : wi64 (a.D * b.N) = a.D * b.N := wi ⟨by omega, by omega⟩
 have w6 : wi64 (a.N * b.D + b.N * a.D) = a.N * b.D + b.N * a.D := wi ⟨by omega, by omega⟩
 have w7 : wi64 (a.N * b.D - b.N * a.D) = a.N * b.D - b.N * a.D := wi ⟨by omega, by omega⟩
 unfold m_ref01_Add m_frac_Add m_ref01_Sub m_frac_Sub m_ref01_Mul m_frac_Mul m_ref01_Div m_frac_Div
 simp only [ref01_Valid (frVaR ha), ref01_Valid (frVaR hb), frac_Valid (frVaR ha), frac_Valid (frVaR hb), ha, hb, gd, Option.bind_some, Bool.not_true, Bool.not_false, if_true, Bool.or_self, Bool.false_eq_true, if_false, bind_pair, w1, w2, w3, w4, w5, w6, w7]
 rw [ref01_New ⟨by omega, by omega⟩ ⟨by omega, by omega⟩, ref01_New ⟨by omega, by omega⟩ ⟨by omega, by omega⟩, ref01_New ⟨by omega, by omega⟩ ⟨by omega, by omega⟩, ref01_New ⟨by omega, by omega⟩ ⟨by omega, by omega⟩]
 exact ⟨rfl, rfl, rfl, rfl⟩
theorem value_Apply {op : Int} {t : GType} {a b : GVal} (ha : VaR a) (hb : VaR b) : m_value_Apply op t a b = m_ref04_Apply op t a b := by
 unfold m_value_Apply m_ref04_Apply
 by_cases hop : op < 4 ∨ 10 < op
 ·have : (decide (op < 4) || decide (10 < op)) = true := by simpa using hop
  simp [this]
 have hop' : (decide (op < 4) || decide (10 < op)) = false := by
  rw [← Bool.decide_or, decide_eq_false_iff_not]; exact hop
 rw [value_ValidateType, base_Type]
 simp only [hop', Bool.false_eq_true, if_false]
 cases ht : tyB t
 ·simp
 simp only [if_true, Option.bind_some, decide_true, Bool.not_true, Bool.false_eq_true, if_false, value_Valid ha, value_Valid hb, ht, Bool.true_and, base_Val ht ha, base_Val ht hb]
 cases h1 : okV t a
 ·simp [gd]
 by_cases c8 : op = 8
 ·subst c8
  simp only [decide_true, Bool.not_true, Bool.not_false, Bool.and_false, Bool.false_and, Bool.or_self, Bool.false_eq_true, if_false, if_true, show decide ((8 : Int) = 9) = false from rfl, show decide ((8 : Int) = 10) = false from rfl, gd, bind_pair, Option.bind_some]
  unfold m_value_negate
  by_cases k2 : t.Kind = 2
  ·simp only [k2, decide_true, if_true, bind_pair]
   exact (fixed_neg ht k2 h1 _).1
  ·by_cases k3 : t.Kind = 3
   ·obtain ⟨a1, a2, a3⟩ := okV_int k3 h1
    simp only [k2, k3, decide_false, decide_true, Bool.false_eq_true, if_false, if_true, bind_pair]
    unfold m_ref04_whole m_ref04_whole_j1
    simp only [show decide ((8 : Int) = 4) = false from rfl, show decide ((8 : Int) = 5) = false from rfl, show decide ((8 : Int) = 6) = false from rfl, show decide ((8 : Int) = 7) = false from rfl, Bool.false_eq_true, if_false]
    have hc : (decide (2147483647 < -a.N) || decide (-a.N < -2147483647)) = false := by
     rw [← Bool.decide_or, decide_eq_false_iff_not]; omega
    rw [wi (p := -a.N) ⟨by omega, by omega⟩, hc, a1]
    simp
   ·have k1 : t.Kind = 1 := by have := tyB_kind ht; omega
    have hf := okV_fr k1 h1
    simp only [k2, k3, decide_false, Bool.false_eq_true, if_false, show decide ((8 : Int) = 4) = false from rfl, show decide ((8 : Int) = 5) = false from rfl, show decide ((8 : Int) = 6) = false from rfl, show decide ((8 : Int) = 7) = false from rfl]
    unfold m_ref01_Neg
    rw [ref01_Valid (frVaR hf), hf]
    simp
 ·simp only [c8, decide_false, Bool.not_true, Bool.not_false, Bool.and_true, Bool.true_and, Bool.false_or, gd, if_true, Bool.false_eq_true, if_false, Option.bind_some]
  cases h2 : okV t b
  ·simp
  simp only [Bool.not_true, Bool.false_eq_true, if_false]
  unfold m_value_Apply_j1
  rw [value_Compare ha hb, ref04_Compare ha hb]
  simp only [Option.bind_some, bind_pair]
  by_cases c9 : op = 9
  ·simp only [c9, decide_true, if_true, Bool.true_or]
   by_cases hz : cmp t a b = 0
   ·have := cmp_zero ht h1 h2 hz
    subst this
    simp
   ·by_cases hp : 0 < cmp t a b
    ·simp [hp, hz]
    ·simp [hp, hz]
  by_cases c10 : op = 10
  ·simp only [c10, decide_true, if_true, Bool.or_true, show decide ((10 : Int) = 9) = false from rfl, Bool.false_eq_true, if_false]
   by_cases hz : cmp t a b = 0
   ·have := cmp_zero ht h1 h2 hz
    subst this
    simp
   ·by_cases hp : 0 < cmp t a b
    ·simp [hp, hz]
    ·simp [hp, hz]
  simp only [c9, c10, decide_false, Bool.or_self, Bool.false_eq_true, if_false]
  by_cases k2 : t.Kind = 2
  ·rw [(fixed_all (by omega) (by omega) ht k2 h1 h2).1]
   simp [k2]
  by_cases k3 : t.Kind = 3
  ·obtain ⟨a1, a2, a3⟩ := okV_int k3 h1
   obtain ⟨b1, b2, b3⟩ := okV_int k3 h2
   unfold m_value_arithmetic
   rw [value_integer (by omega) (by omega) ⟨a2, a3⟩ ⟨b2, b3⟩]
   simp [k3, bind_pair]
  have k1 : t.Kind = 1 := by have := tyB_kind ht; omega
  obtain ⟨f1, f2, f3, f4⟩ := frac_ops (okV_fr k1 h1) (okV_fr k1 h2)
  unfold m_value_arithmetic
  simp only [k2, k3, decide_false, Bool.and_false, Bool.false_eq_true, if_false, bind_pair, f1, f2, f3, f4]
  have c7 : ¬ op = 4 → ¬ op = 5 → ¬ op = 6 → op = 7 := by omega
  by_cases c4 : op = 4
  ·simp [c4]
  by_cases c5 : op = 5
  ·simp [c5]
  by_cases c6 : op = 6
  ·simp [c6]
  simp [c4, c5, c6, c7 c4 c5 c6]
end Go.Proofs.YtlakfanockhngaaGreatDoor
