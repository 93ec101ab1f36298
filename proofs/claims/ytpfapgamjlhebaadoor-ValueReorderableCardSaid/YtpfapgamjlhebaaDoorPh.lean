/- The law of the rounding error, in plain terms. Conditions: the ranges of int and int64. -/
import Derived.Test.YtpfapgamjlhebaaDoorPg
namespace Go.Proofs.YtpfapgamjlhebaaDoor
open Go Go.RowKit Go.Vc
set_option linter.unusedVariables false
set_option linter.unusedSimpArgs false

theorem rnd_cases {n d how : Int} (hd : 0 < d) (h1 : 1 ≤ how) (h4 : how ≤ 4) : rnd n d how = n / d ∨ (rnd n d how = n / d + 1 ∧ 0 < n % d) := by
  have h2 := Int.emod_nonneg n (by omega : d ≠ 0)
  unfold rnd
  repeat' split
  all_goals omega
theorem rnd_err {n d how : Int} (hd : 0 < d) (h1 : 1 ≤ how) (h4 : how ≤ 4) : (rnd n d how - 1) * d < n ∧ n < (rnd n d how + 1) * d := by
  have e := Int.mul_ediv_add_emod n d
  have h2 := Int.emod_nonneg n (by omega : d ≠ 0)
  have h3 := Int.emod_lt_of_pos n hd
  have hc : n / d * d = d * (n / d) := Int.mul_comm _ _
  rcases rnd_cases (n := n) hd h1 h4 with h | ⟨h, h0⟩
  · rw [h, Int.sub_mul, Int.add_mul]; omega
  · rw [h, show n / d + 1 - 1 = n / d by omega, Int.add_mul, Int.add_mul, Int.one_mul]; omega
theorem frac_Ceil {a : GVal} (ha : frOK a = true) : m_frac_Ceil a = some (-((-a.N) / a.D)) := by
  obtain ⟨a1, a2, a3, a4, a5⟩ := frOK_bd ha
  have hn : frOK ⟨-a.N, a.D⟩ = true := by
    unfold frOK
    rw [Int.neg_gcd]
    simp [a5]; omega
  obtain ⟨b1, b2, _⟩ := ediv_bd (n := -a.N) (d := a.D) (by omega) (B := 2147483647) (by omega) ⟨by omega, by omega⟩
  unfold m_frac_Ceil m_frac_Neg
  rw [frac_Valid (frVaR ha), ha]
  simp only [Option.bind_some, Bool.not_true, Bool.false_eq_true, if_false]
  rw [wi (p := -a.N) ⟨by omega, by omega⟩, show m_frac_Floor ⟨-a.N, a.D⟩ = some ((-a.N) / a.D) from frac_Floor hn, Option.bind_some, wi ⟨by omega, by omega⟩]
theorem cast_fix {t : GType} {v : GVal} (hv : frOK v = true) (ht : tyB t = true) (k2 : t.Kind = 2) : m_value_Cast ⟨1, 0, 0, 0, 0⟩ t v = some (⟨nar t (rnd (v.N * pw t.Frac) v.D t.Round), 1⟩, 0) := by
  obtain ⟨q1, q2, q3, q4, q5, q6, q7⟩ := tyB_fix ht k2
  obtain ⟨x1, x2, x3, x4, x5⟩ := frOK_bd hv
  have hp := pw_bd (n := t.Frac) q4
  have hb2 : -2305843008139952128 ≤ v.N * pw t.Frac ∧ v.N * pw t.Frac ≤ 2305843008139952128 := by
    have h3 := Int.mul_le_mul_of_nonneg_right x4 (show 0 ≤ pw t.Frac by omega)
    have h4 := Int.mul_le_mul_of_nonneg_right x3 (show 0 ≤ pw t.Frac by omega)
    omega
  have hr := rnd_bd (n := v.N * pw t.Frac) (d := v.D) (how := t.Round) (by omega) (B := 2305843008139952128) (by omega) hb2
  rw [(value_Cast (frVaR hv)).1]
  unfold m_ref04_Cast m_ref04_Value
  rw [base_Type, base_Type, ht, base_Val (by rfl) (frVaR hv), show okV ⟨1, 0, 0, 0, 0⟩ v = frOK v from rfl, hv, show tyB ⟨1, 0, 0, 0, 0⟩ = true from rfl]
  simp only [Option.bind_some, gd, if_true, Bool.not_true, Bool.not_false, Bool.or_self, Bool.false_eq_true, if_false, show decide ((1 : Int) = 2) = false from rfl, k2, show decide ((2 : Int) = 3) = false from rfl, decide_true, ref04_step q3 q4]
  rw [wi (p := v.N * pw t.Frac) ⟨by omega, by omega⟩, ref04_round (by omega) (by omega) ⟨by omega, by omega⟩, Option.bind_some, ref04_fit ht k2 ⟨by omega, by omega⟩]
  rfl
/-- Where nothing saturates or wraps, the number kept is the rounded one. -/
theorem nar_same {t : GType} {v : GVal} (hv : frOK v = true) (ht : tyB t = true) (k2 : t.Kind = 2)
    (hlo : nar t (rnd (v.N * pw t.Frac) v.D t.Round) ≠ -pw (t.Bits - 1)) (hhi : nar t (rnd (v.N * pw t.Frac) v.D t.Round) ≠ pw (t.Bits - 1) - 1)
    (hw : t.Over = 2 → t.Frac < t.Bits ∧ Int.fdiv (-pw (t.Bits - 1)) (pw t.Frac) ≤ v.N / v.D ∧ -((-v.N) / v.D) ≤ Int.fdiv (pw (t.Bits - 1) - 1) (pw t.Frac)) :
    nar t (rnd (v.N * pw t.Frac) v.D t.Round) = rnd (v.N * pw t.Frac) v.D t.Round := by
  obtain ⟨q1, q2, q3, q4, q5, q6, q7⟩ := tyB_fix ht k2
  obtain ⟨x1, x2, x3, x4, x5⟩ := frOK_bd hv
  have hp := pw_bd (n := t.Frac) q4
  have hpb := pw_bd (n := t.Bits - 1) (by omega)
  have hcase := rnd_cases (n := v.N * pw t.Frac) (d := v.D) (how := t.Round) (by omega) q5 q6
  have e := Int.mul_ediv_add_emod (v.N * pw t.Frac) v.D
  have h2 := Int.emod_nonneg (v.N * pw t.Frac) (by omega : v.D ≠ 0)
  have h3 := Int.emod_lt_of_pos (v.N * pw t.Frac) (show 0 < v.D by omega)
  generalize hr : rnd (v.N * pw t.Frac) v.D t.Round = r at *
  have key : -pw (t.Bits - 1) ≤ r ∧ r ≤ pw (t.Bits - 1) - 1 := by
    by_cases c : -pw (t.Bits - 1) ≤ r ∧ r ≤ pw (t.Bits - 1) - 1
    · exact c
    exfalso
    unfold nar at hlo hhi
    rw [if_neg c] at hlo hhi
    by_cases co : t.Over = 1
    · rw [if_pos co] at hlo hhi
      split at hlo
      · exact hlo rfl
      · rename_i h; rw [if_neg h] at hhi; exact hhi rfl
    · obtain ⟨w1, w2, w3⟩ := hw (by omega)
      have eA : pw (t.Bits - 1) = pw (t.Bits - 1 - t.Frac) * pw t.Frac := by rw [pw_add (by omega) q3]; congr 1; omega
      generalize pw (t.Bits - 1 - t.Frac) = A at *
      rw [Int.fdiv_eq_ediv_of_nonneg _ (by omega), eA] at w2 w3
      have f1 : -(A * pw t.Frac) / pw t.Frac = -A := by rw [← Int.neg_mul]; exact Int.mul_ediv_cancel _ (by omega)
      have f2 : (A * pw t.Frac - 1) / pw t.Frac = A - 1 := (ediv_unique (d := pw t.Frac) (q := A - 1) (r := pw t.Frac - 1) (by rw [Int.mul_sub, Int.mul_comm (pw t.Frac) A]; omega) (by omega) (by omega)).1
      rw [f1] at w2
      rw [f2] at w3
      have g1 := Int.mul_ediv_add_emod v.N v.D
      have g2 := Int.emod_nonneg v.N (by omega : v.D ≠ 0)
      have g3 := Int.mul_ediv_add_emod (-v.N) v.D
      have g4 := Int.emod_nonneg (-v.N) (by omega : v.D ≠ 0)
      generalize v.N / v.D = fl at *
      generalize (-v.N) / v.D = fc at *
      generalize v.N * pw t.Frac / v.D = q at *
      generalize pw t.Frac = P at *
      -- the floor, scaled
      have m1 : fl * P ≤ q := by
        have s1 := Int.mul_le_mul_of_nonneg_right (show v.D * fl ≤ v.N by omega) (show 0 ≤ P by omega)
        rcases Int.lt_or_le q (fl * P) with h | h
        · exfalso
          have s2 := Int.mul_le_mul_of_nonneg_left (show q + 1 ≤ fl * P by omega) (show 0 ≤ v.D by omega)
          rw [Int.mul_add, ← Int.mul_assoc] at s2
          omega
        · exact h
      have m2 : r ≤ -fc * P := by
        have s1 := Int.mul_le_mul_of_nonneg_right (show v.N ≤ v.D * -fc by rw [Int.mul_neg]; omega) (show 0 ≤ P by omega)
        rw [Int.mul_assoc] at s1
        rcases Int.lt_or_le (-fc * P) r with h | h
        · exfalso
          have s2 := Int.mul_le_mul_of_nonneg_left (show -fc * P ≤ r - 1 by omega) (show 0 ≤ v.D by omega)
          rw [Int.mul_sub] at s2
          rcases hcase with hc | ⟨hc, h0⟩
          · subst hc; omega
          · subst hc; rw [Int.mul_add] at s2; omega
        · exact h
      have m3 := Int.mul_le_mul_of_nonneg_right w2 (show 0 ≤ P by omega)
      have m4 := Int.mul_le_mul_of_nonneg_right w3 (show 0 ≤ P by omega)
      rw [Int.neg_mul] at m3
      rw [Int.sub_mul] at m4
      apply c
      omega
  unfold nar
  rw [if_pos key]
theorem law_ValueRoundingError (t : GType) (v : GVal) (hT : okGType t) (hv : okGVal v) : m_law04_ValueRoundingError t v = some true := by
  have hV := VaR.of hv
  unfold m_law04_ValueRoundingError
  by_cases k2 : t.Kind = 2
  rotate_left
  · simp [k2, gd, ex04]
  cases ht : tyB t
  · simp [k2, gd, ex04, value_ValidateType, ht]
  cases hf : frOK v
  · rw [value_ValidateType, value_Valid hV, show okV ⟨1, 0, 0, 0, 0⟩ v = frOK v from rfl, hf]
    simp [k2, gd, ex04, ht]
  rw [value_ValidateType, value_Valid hV, show okV ⟨1, 0, 0, 0, 0⟩ v = frOK v from rfl, hf, show tyB ⟨1, 0, 0, 0, 0⟩ = true from rfl, cast_fix hf ht k2]
  obtain ⟨q1, q2, q3, q4, q5, q6, q7⟩ := tyB_fix ht k2
  obtain ⟨x1, x2, x3, x4, x5⟩ := frOK_bd hf
  have hp := pw_bd (n := t.Frac) q4
  have hpb := pw_bd (n := t.Bits - 1) (by omega)
  have hnb := nar_bd ht k2 (rnd (v.N * pw t.Frac) v.D t.Round)
  have hb2 : -2305843008139952128 ≤ v.N * pw t.Frac ∧ v.N * pw t.Frac ≤ 2305843008139952128 := by
    have h3 := Int.mul_le_mul_of_nonneg_right x4 (show 0 ≤ pw t.Frac by omega)
    have h4 := Int.mul_le_mul_of_nonneg_right x3 (show 0 ≤ pw t.Frac by omega)
    omega
  have herr := rnd_err (n := v.N * pw t.Frac) (d := v.D) (how := t.Round) (by omega) q5 q6
  have hsame := nar_same hf ht k2
  have e1 : wi64 (t.Bits - 1) = t.Bits - 1 := wi ⟨by omega, by omega⟩
  have e2 : wu64 (t.Bits - 1) = t.Bits - 1 := wu ⟨by omega, by omega⟩
  have e3 : wu64 t.Frac = t.Frac := wu ⟨by omega, by omega⟩
  have e4 : wi64 (-1 * pw (t.Bits - 1)) = -pw (t.Bits - 1) := by rw [Int.neg_mul, Int.one_mul]; exact wi ⟨by omega, by omega⟩
  have e5 : wi64 (1 * pw (t.Bits - 1)) = pw (t.Bits - 1) := by rw [Int.one_mul]; exact wi ⟨by omega, by omega⟩
  have e6 : wi64 (pw (t.Bits - 1) - 1) = pw (t.Bits - 1) - 1 := wi ⟨by omega, by omega⟩
  have e7 : wi64 (v.N * pw t.Frac) = v.N * pw t.Frac := wi ⟨by omega, by omega⟩
  simp only [k2, ht, gd, decide_true, Bool.not_true, Bool.not_false, Bool.or_self, Bool.and_self, Bool.false_eq_true, if_false, if_true, Option.bind_some, e1, e2, e3, pw_sh' (n := t.Bits - 1) (by omega) (by omega), pw_sh' q3 q4, e4, e5, e6, e7, q3, show (0 : Int) ≤ t.Bits - 1 by omega, implies_true, frac_Floor hf, frac_Ceil hf, ex04]
  generalize rnd (v.N * pw t.Frac) v.D t.Round = r at *
  generalize nar t r = m at *
  split
  · rfl
  rename_i c1
  simp only [Bool.or_eq_true, decide_eq_true_eq, not_or] at c1
  obtain ⟨⟨⟨c1, c2⟩, c3⟩, c4⟩ := c1
  have fin : m = r → (decide (wi64 (wi64 (m - 1) * v.D) < v.N * pw t.Frac) && decide (v.N * pw t.Frac < wi64 (wi64 (m + 1) * v.D))) = true := fun h => by
    have w1 : wi64 (m - 1) = m - 1 := wi ⟨by omega, by omega⟩
    have w2 : wi64 (m + 1) = m + 1 := wi ⟨by omega, by omega⟩
    have b1 := mul_bd (x := m - 1) (y := v.D) (B := 2147483647) ⟨by omega, by omega⟩ ⟨by omega, by omega⟩
    have b2 := mul_bd (x := m + 1) (y := v.D) (B := 2147483647) ⟨by omega, by omega⟩ ⟨by omega, by omega⟩
    rw [w1, w2, wi (p := (m - 1) * v.D) ⟨by omega, by omega⟩, wi (p := (m + 1) * v.D) ⟨by omega, by omega⟩, h]
    simp [herr.1, herr.2]
  by_cases co : t.Over = 2
  · by_cases cb : t.Bits ≤ t.Frac
    · simp [co, cb]
    · by_cases cl : v.N / v.D < Int.fdiv (-pw (t.Bits - 1)) (pw t.Frac)
      · simp only [co, cb, cl, decide_true, decide_false, Bool.or_self, Bool.false_or, Bool.or_true, Bool.true_or, Bool.not_true, Bool.not_false, Bool.and_true, Bool.and_false, Bool.and_self, Bool.false_eq_true, if_false, if_true, Option.bind_some]
      · by_cases ch : Int.fdiv (pw (t.Bits - 1) - 1) (pw t.Frac) < -((-v.N) / v.D)
        · simp only [co, cb, cl, ch, decide_true, decide_false, Bool.or_self, Bool.false_or, Bool.or_true, Bool.true_or, Bool.not_true, Bool.not_false, Bool.and_true, Bool.and_false, Bool.and_self, Bool.false_eq_true, if_false, if_true, Option.bind_some]
        · have := fin (hsame c1 c2 fun _ => ⟨by omega, by omega, by omega⟩)
          simp only [co, cb, cl, ch, decide_true, decide_false, Bool.or_self, Bool.and_false, Bool.and_true, Bool.not_false, Bool.and_self, Bool.false_eq_true, if_false, if_true, Option.bind_some, this]
  · have := fin (hsame c1 c2 fun h => absurd h co)
    simp only [co, decide_false, Bool.false_and, Bool.false_eq_true, if_false, Option.bind_some, this, if_true, Bool.and_self]
end Go.Proofs.YtpfapgamjlhebaaDoor
