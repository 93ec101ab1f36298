/- What is printed of numbers; results of operators are valid. Conditions: stated with each lemma. (Taken from the texts of chapters 01 and 04.) -/
import Derived.Test.YtlakfanockhngaaGreatDoorSUc
namespace Go.Proofs.YtlakfanockhngaaGreatDoor
open Go Go.RowKit Go.Vc
set_option linter.unusedVariables false
set_option linter.unusedSimpArgs false

/-- New, told by the numerator and denominator in lowest terms. -/
theorem New_full {n d : Int} (hn : R64 n) (hd : R64 d) (h0 : d ≠ 0) : ∃ q e x y, m_frac_New n d = some (q, e) ∧ 1 ≤ y ∧ Int.gcd x y = 1 ∧ x * d = n * y ∧ (((2147483647 < x ∨ x < -2147483647 ∨ 2147483647 < y) ∧ e = 3 ∧ q = ⟨0, 0⟩) ∨ (¬ (2147483647 < x ∨ x < -2147483647 ∨ 2147483647 < y) ∧ e = 0 ∧ q = ⟨x, y⟩)) := by
  obtain ⟨n1, n2⟩ := hn
  obtain ⟨d1, d2⟩ := hd
  unfold m_frac_New
  simp only [h0, decide_false, Bool.false_eq_true, if_false, Option.bind_some]
  rw [frac_magnitude ⟨n1, n2⟩, frac_magnitude ⟨d1, d2⟩, Option.bind_some, Option.bind_some, frac_gcd (by split <;> omega) (by split <;> omega) (by split <;> omega), Option.bind_some]
  generalize hneg : (decide (n < 0) != decide (d < 0)) = neg
  generalize hm : (if n < 0 then -n else n) = m
  generalize hk : (if d < 0 then -d else d) = k
  have hm0 : 0 ≤ m ∧ m ≤ 9223372036854775808 := by rw [← hm]; split <;> omega
  have hk0 : 1 ≤ k ∧ k ≤ 9223372036854775808 := by rw [← hk]; split <;> omega
  have hnm : n * k = (if neg then -m else m) * d := by
    rw [← hneg, ← hm, ← hk]
    by_cases c1 : n < 0 <;> by_cases c2 : d < 0 <;> simp [c1, c2, Int.neg_mul, Int.mul_neg]
  generalize hg : Int.gcd m k = g
  have hg0 : g ≠ 0 := fun h => by
    rw [h] at hg
    have := (Int.gcd_eq_zero_iff.1 hg).2
    omega
  have hgi : (g : Int) ≠ 0 := by omega
  rw [if_pos hgi]
  obtain ⟨x, hx⟩ : (g : Int) ∣ m := by rw [← hg]; exact Int.gcd_dvd_left ..
  obtain ⟨y, hy⟩ : (g : Int) ∣ k := by rw [← hg]; exact Int.gcd_dvd_right ..
  have ex : Int.tdiv m g = x := by rw [hx]; exact Int.mul_tdiv_cancel_left _ hgi
  have ey : Int.tdiv k g = y := by rw [hy]; exact Int.mul_tdiv_cancel_left _ hgi
  have hx0 : 0 ≤ x ∧ x ≤ 9223372036854775808 := by
    have h1 : 0 ≤ x := by
      rcases Int.lt_or_le x 0 with h | h
      · have := Int.mul_neg_of_pos_of_neg (show (0 : Int) < g by omega) h; omega
      · exact h
    have := Int.mul_le_mul_of_nonneg_right (show (1 : Int) ≤ g by omega) h1
    omega
  have hy0 : 1 ≤ y ∧ y ≤ 9223372036854775808 := by
    have h1 : 0 < y := by
      rcases Int.lt_or_le 0 y with h | h
      · exact h
      · have := Int.mul_nonpos_of_nonneg_of_nonpos (show (0 : Int) ≤ g by omega) h; omega
    have := Int.mul_le_mul_of_nonneg_right (show (1 : Int) ≤ g by omega) (show 0 ≤ y by omega)
    omega
  have hco : Int.gcd x y = 1 := by
    have h1 : Int.gcd (g * x) (g * y) = g := by rw [← hx, ← hy]; exact hg
    rw [Int.gcd_mul_left] at h1
    have h2 : (g : Int).natAbs = g := by simp
    rw [h2] at h1
    exact Nat.eq_of_mul_eq_mul_left (Nat.pos_of_ne_zero hg0) (by rw [h1, Nat.mul_one])
  rw [ex, ey, wu (p := x) ⟨by omega, by omega⟩, wu (p := y) ⟨by omega, by omega⟩]
  have hR : (if neg then -x else x) * d = n * y := by
    have e1 : (if neg then -m else m) = g * (if neg then -x else x) := by cases neg <;> simp [hx, Int.mul_neg]
    rw [e1, hy] at hnm
    have e2 : (g : Int) * ((if neg then -x else x) * d) = g * (n * y) := by
      rw [← Int.mul_assoc, ← hnm, ← Int.mul_assoc, Int.mul_comm n (g : Int), Int.mul_assoc]
    exact Int.eq_of_mul_eq_mul_left hgi e2
  have hco' : Int.gcd (if neg then -x else x) y = 1 := by cases neg <;> simp [hco, Int.neg_gcd]
  by_cases c : 2147483647 < x ∨ 2147483647 < y
  · rw [if_pos (by simpa using c)]
    refine ⟨_, _, if neg then -x else x, y, rfl, by omega, hco', hR, .inl ⟨?_, rfl, rfl⟩⟩
    cases neg <;> simp <;> omega
  · rw [if_neg (by simpa using c), wi (p := x) ⟨by omega, by omega⟩, wi (p := y) ⟨by omega, by omega⟩, wi (p := -x) ⟨by omega, by omega⟩]
    cases neg
    · exact ⟨⟨x, y⟩, 0, x, y, rfl, by omega, hco', hR, .inr ⟨by omega, rfl, rfl⟩⟩
    · exact ⟨⟨-x, y⟩, 0, -x, y, rfl, by omega, hco', hR, .inr ⟨by omega, rfl, rfl⟩⟩
theorem New_valid {n d : Int} {q : GVal} (hn : R64 n) (hd : R64 d) (h : m_frac_New n d = some (q, 0)) : frOK q = true ∧ d ≠ 0 ∧ q.N * d = n * q.D := by
  by_cases h0 : d = 0
  · subst h0; unfold m_frac_New at h; simp at h
  · obtain ⟨q', e, x, y, h1, h2, h3, h4, h5⟩ := New_full hn hd h0
    rw [h] at h1
    injection h1 with h1
    injection h1 with h1 h6
    subst h1 h6
    rcases h5 with ⟨_, h5, _⟩ | ⟨hb, _, rfl⟩
    · cases h5
    · exact ⟨by unfold frOK; simp [h3]; omega, h0, h4⟩
theorem fixed_apply_ok {t : GType} {a b q : GVal} {m : GType → Int → Int → Option (Int × Int)} (ht : tyB t = true) (h2 : t.Kind = 2) (ha : okV t a = true) (hb : okV t b = true) (h : m_fixed_apply ⟨m⟩ t a b = some (q, 0)) : okV t q = true := by
  cases hm : m t a.N b.N with
  | none => unfold m_fixed_apply at h; rw [fixed_check2 ht h2 ha hb] at h; simp [hm] at h
  | some r =>
    obtain ⟨n, e⟩ := r
    rw [fixed_apply ht h2 ha hb hm] at h
    by_cases he : e = 0
    · rw [if_pos he] at h
      injection h with h; injection h with h _
      subst h
      have := nar_bd ht h2 n
      unfold okV; rw [if_pos h2]; simp <;> omega
    · rw [if_neg he] at h
      injection h with h; injection h with _ h
      exact absurd h he
theorem whole_ok {t : GType} {n : Int} {q : GVal} (h3 : t.Kind = 3) (h : m_value_integer_j1 n = some (q, 0)) : okV t q = true := by
  unfold m_value_integer_j1 m_value_whole at h
  simp only [Option.bind_some] at h
  split at h
  · injection h with h; injection h with _ h; cases h
  · rename_i hc
    injection h with h; injection h with h _
    subst h
    simp only [Bool.not_eq_true', Bool.not_eq_false, Bool.and_eq_true, decide_eq_true_eq] at hc
    unfold okV; simp [h3]; omega
theorem integer_ok {t : GType} {op a b : Int} {q : GVal} (h3 : t.Kind = 3) (h : m_value_integer op a b = some (q, 0)) : okV t q = true := by
  unfold m_value_integer at h
  simp only [Option.bind_some] at h
  repeat' split at h
  all_goals first | exact whole_ok h3 h | (injection h with h; injection h with _ h; cases h; done) | cases h
theorem frac_op_ok {a b q : GVal} (ha : frOK a = true) (hb : frOK b = true) : (m_frac_Add a b = some (q, 0) → frOK q = true) ∧ (m_frac_Sub a b = some (q, 0) → frOK q = true) ∧ (m_frac_Mul a b = some (q, 0) → frOK q = true) ∧ (m_frac_Div a b = some (q, 0) → frOK q = true) := by
  have R : ∀ x : Int, R64 (wi64 x) := fun x => by
    simp only [wi64, IntKind.wrap, IntKind.signed, IntKind.bits]
    constructor <;> simp <;> omega
  unfold m_frac_Add m_frac_Sub m_frac_Mul m_frac_Div
  simp only [frac_Valid (frVaR ha), frac_Valid (frVaR hb), ha, hb, gd, Option.bind_some, Bool.not_true, Bool.not_false, if_true, Bool.or_self, Bool.false_eq_true, if_false, bind_pair]
  exact ⟨fun h => (New_valid (R _) (R _) h).1, fun h => (New_valid (R _) (R _) h).1, fun h => (New_valid (R _) (R _) h).1, fun h => (New_valid (R _) (R _) h).1⟩
theorem arith_ok {op : Int} {t : GType} {a b q : GVal} (ht : tyB t = true) (ha : okV t a = true) (hb : okV t b = true) (h : m_value_arithmetic op t a b = some (q, 0)) : okV t q = true := by
  unfold m_value_arithmetic at h
  simp only [bind_pair] at h
  by_cases k3 : t.Kind = 3
  · rw [if_pos (by simpa using k3)] at h; exact integer_ok k3 h
  rw [if_neg (by simpa using k3)] at h
  by_cases k2 : t.Kind = 2
  · simp only [k2, decide_true, Bool.and_true, if_true, m_fixed_Add, m_fixed_Sub, m_fixed_Mul, m_fixed_Div, bind_pair] at h
    repeat' split at h
    all_goals exact fixed_apply_ok ht k2 ha hb h
  · have k1 : t.Kind = 1 := by rcases tyB_kind ht with k | k | k; exact k; exact absurd k k2; exact absurd k k3
    obtain ⟨p1, p2, p3, p4⟩ := frac_op_ok (q := q) (okV_fr k1 ha) (okV_fr k1 hb)
    have fin : frOK q = true → okV t q = true := fun hq => by unfold okV; simp [k1, hq]
    simp only [k2, decide_false, Bool.and_false, Bool.false_eq_true, if_false] at h
    repeat' split at h
    · exact fin (p1 h)
    · exact fin (p2 h)
    · exact fin (p3 h)
    · exact fin (p4 h)
theorem Apply_ok {op : Int} {t : GType} {a b q : GVal} (ha : VaR a) (hb : VaR b) (h : m_value_Apply op t a b = some (q, 0)) : tyB t = true ∧ okV t q = true := by
  unfold m_value_Apply m_value_Apply_j1 at h
  rw [value_ValidateType, value_Valid ha, value_Valid hb] at h
  by_cases hop : (decide (op < 4) || decide (10 < op)) = true
  · rw [if_pos hop] at h; injection h with h; injection h with _ h; cases h
  rw [if_neg hop] at h
  cases ht : tyB t
  · rw [ht] at h
    simp only [Bool.false_eq_true, if_false, Option.bind_some, show decide ((10 : Int) = 0) = false from rfl, Bool.not_false, if_true] at h
    injection h with h; injection h with _ h; cases h
  refine ⟨rfl, ?_⟩
  rw [ht] at h
  simp only [if_true, Option.bind_some, decide_true, Bool.not_true, Bool.false_eq_true, if_false, Bool.true_and, bind_pair] at h
  cases h1 : okV t a
  · rw [h1] at h
    simp only [Bool.not_false, Bool.not_true, Bool.false_and, gd, Bool.false_eq_true, if_false, Option.bind_some, Bool.true_or, if_true] at h
    injection h with h; injection h with _ h; cases h
  rw [h1] at h
  simp only [Bool.not_true, Bool.not_false, Bool.true_and, Bool.false_or] at h
  by_cases h8 : op = 8
  · subst h8
    simp only [decide_true, Bool.not_true, gd, Bool.false_eq_true, if_false, Option.bind_some, Bool.false_and, if_true, m_value_negate, bind_pair] at h
    by_cases k2 : t.Kind = 2
    · rw [if_pos (by simpa using k2)] at h
      unfold m_fixed_Neg at h
      rw [bind_pair] at h
      exact fixed_apply_ok ht k2 h1 h1 h
    · rw [if_neg (by simpa using k2)] at h
      injection h with h; injection h with h _
      subst h
      have fa := frOK_of ht h1
      obtain ⟨a1, a2, a3, a4, a5⟩ := frOK_bd fa
      rw [wi ⟨by omega, by omega⟩]
      rcases tyB_kind ht with k | k | k
      · unfold okV; simp only [k, show ¬ ((1 : Int) = 2) by decide, show ¬ ((1 : Int) = 3) by decide, if_false]
        unfold frOK; rw [Int.neg_gcd]; simp [a5]; omega
      · exact absurd k k2
      · obtain ⟨b1, b2, b3⟩ := okV_int k h1
        unfold okV; simp [k, b1]; omega
  · simp only [h8, decide_false, Bool.not_false, gd, if_true, Option.bind_some, Bool.true_and, Bool.false_eq_true, if_false] at h
    cases h2 : okV t b
    · rw [h2] at h
      simp only [Bool.not_false, if_true] at h
      injection h with h; injection h with _ h; cases h
    rw [h2] at h
    simp only [Bool.not_true, Bool.false_eq_true, if_false, value_Compare ha hb, Option.bind_some] at h
    have pick : ∀ c : Bool, (if c = true then some (b, (0 : Int)) else some (a, 0)) = some (q, 0) → okV t q = true := fun c h => by
      cases c
      · injection h with h; injection h with h _; subst h; exact h1
      · injection h with h; injection h with h _; subst h; exact h2
    by_cases h9 : op = 9
    · subst h9; simp only [decide_true, if_true] at h; exact pick _ h
    · simp only [h9, decide_false, Bool.false_eq_true, if_false] at h
      by_cases h10 : op = 10
      · subst h10; simp only [decide_true, if_true] at h; exact pick _ h
      · simp only [h10, decide_false, Bool.false_eq_true, if_false] at h
        exact arith_ok ht h1 h2 h
end Go.Proofs.YtlakfanockhngaaGreatDoor
