/- The law of the rounding error, in plain terms. Conditions: the ranges of int and int64. -/
import Derived.Test.YtpedfojbfbccaaaPg
namespace Go.Proofs.Ytpedfojbfbccaaa
open Go Go.RowKit Go.Vc
set_option linter.unusedVariables false
set_option linter.unusedSimpArgs false

theorem rnd_cases {n d how : Int} (hd : 0 < d) (h1 : 1 ≤ how) (h4 : how ≤ 4) : rnd n d how = n / d ∨ (rnd n d how = n / d + 1 ∧ 0 < n % d) := by
  have h2 := Int.emod_nonneg n (by omega : d ≠ 0)
  unfold rnd
  repeat' split
  all_goals omega
theorem rnd_err {n d how : Int} (hd : 0 < d) (h1 : 1 ≤ how) (h4 : how ≤ 4) : (rnd n d how - 1) * d < n ∧ n < (rnd n d how + 1) * d := by
  have e := Int.mul_ediv_add_emod n d
  have h2 := Int.emod_nonneg n (by omega : d ≠ 0)
  have h3 := Int.emod_lt_of_pos n hd
  have hc : n / d * d = d * (n / d) := Int.mul_comm _ _
  rcases rnd_cases (n := n) hd h1 h4 with h | ⟨h, h0⟩
  · rw [h, Int.sub_mul, Int.add_mul]; omega
  · rw [h, show n / d + 1 - 1 = n / d by omega, Int.add_mul, Int.add_mul, Int.one_mul]; omega
/-- Where nothing saturates or wraps, the number kept is the rounded one. -/
theorem nar_same {t : GType} {v : GVal} (hv : frOK v = true) (ht : tyB t = true) (k2 : t.Kind = 2)
    (hlo : nar t (rnd (v.N * pw t.Frac) v.D t.Round) ≠ -pw (t.Bits - 1)) (hhi : nar t (rnd (v.N * pw t.Frac) v.D t.Round) ≠ pw (t.Bits - 1) - 1)
    (hw : t.Over = 2 → t.Frac < t.Bits ∧ Int.fdiv (-pw (t.Bits - 1)) (pw t.Frac) ≤ v.N / v.D ∧ -((-v.N) / v.D) ≤ Int.fdiv (pw (t.Bits - 1) - 1) (pw t.Frac)) :
    nar t (rnd (v.N * pw t.Frac) v.D t.Round) = rnd (v.N * pw t.Frac) v.D t.Round := by
  obtain ⟨q1, q2, q3, q4, q5, q6, q7⟩ := tyB_fix ht k2
  obtain ⟨x1, x2, x3, x4, x5⟩ := frOK_bd hv
  have hp := pw_bd (n := t.Frac) q4
  have hpb := pw_bd (n := t.Bits - 1) (by omega)
  have hcase := rnd_cases (n := v.N * pw t.Frac) (d := v.D) (how := t.Round) (by omega) q5 q6
  have e := Int.mul_ediv_add_emod (v.N * pw t.Frac) v.D
  have h2 := Int.emod_nonneg (v.N * pw t.Frac) (by omega : v.D ≠ 0)
  have h3 := Int.emod_lt_of_pos (v.N * pw t.Frac) (show 0 < v.D by omega)
  generalize hr : rnd (v.N * pw t.Frac) v.D t.Round = r at *
  have key : -pw (t.Bits - 1) ≤ r ∧ r ≤ pw (t.Bits - 1) - 1 := by
    by_cases c : -pw (t.Bits - 1) ≤ r ∧ r ≤ pw (t.Bits - 1) - 1
    · exact c
    exfalso
    unfold nar at hlo hhi
    rw [if_neg c] at hlo hhi
    by_cases co : t.Over = 1
    · rw [if_pos co] at hlo hhi
      split at hlo
      · exact hlo rfl
      · rename_i h; rw [if_neg h] at hhi; exact hhi rfl
    · obtain ⟨w1, w2, w3⟩ := hw (by omega)
      have eA : pw (t.Bits - 1) = pw (t.Bits - 1 - t.Frac) * pw t.Frac := by rw [pw_add (by omega) q3]; congr 1; omega
      generalize pw (t.Bits - 1 - t.Frac) = A at *
      rw [Int.fdiv_eq_ediv_of_nonneg _ (by omega), eA] at w2 w3
      have f1 : -(A * pw t.Frac) / pw t.Frac = -A := by rw [← Int.neg_mul]; exact Int.mul_ediv_cancel _ (by omega)
      have f2 : (A * pw t.Frac - 1) / pw t.Frac = A - 1 := (ediv_unique (d := pw t.Frac) (q := A - 1) (r := pw t.Frac - 1) (by rw [Int.mul_sub, Int.mul_comm (pw t.Frac) A]; omega) (by omega) (by omega)).1
      rw [f1] at w2
      rw [f2] at w3
      have g1 := Int.mul_ediv_add_emod v.N v.D
      have g2 := Int.emod_nonneg v.N (by omega : v.D ≠ 0)
      have g3 := Int.mul_ediv_add_emod (-v.N) v.D
      have g4 := Int.emod_nonneg (-v.N) (by omega : v.D ≠ 0)
      generalize v.N / v.D = fl at *
      generalize (-v.N) / v.D = fc at *
      generalize v.N * pw t.Frac / v.D = q at *
      generalize pw t.Frac = P at *
      -- the floor, scaled
      have m1 : fl * P ≤ q := by
        have s1 := Int.mul_le_mul_of_nonneg_right (show v.D * fl ≤ v.N by omega) (show 0 ≤ P by omega)
        rcases Int.lt_or_le q (fl * P) with h | h
        · exfalso
          have s2 := Int.mul_le_mul_of_nonneg_left (show q + 1 ≤ fl * P by omega) (show 0 ≤ v.D by omega)
          rw [Int.mul_add, ← Int.mul_assoc] at s2
          omega
        · exact h
      have m2 : r ≤ -fc * P := by
        have s1 := Int.mul_le_mul_of_nonneg_right (show v.N ≤ v.D * -fc by rw [Int.mul_neg]; omega) (show 0 ≤ P by omega)
        rw [Int.mul_assoc] at s1
        rcases Int.lt_or_le (-fc * P) r with h | h
        · exfalso
          have s2 := Int.mul_le_mul_of_nonneg_left (show -fc * P ≤ r - 1 by omega) (show 0 ≤ v.D by omega)
          rw [Int.mul_sub] at s2
          rcases hcase with hc | ⟨hc, h0⟩
          · subst hc; omega
          · subst hc; rw [Int.mul_add] at s2; omega
        · exact h
      have m3 := Int.mul_le_mul_of_nonneg_right w2 (show 0 ≤ P by omega)
      have m4 := Int.mul_le_mul_of_nonneg_right w3 (show 0 ≤ P by omega)
      rw [Int.neg_mul] at m3
      rw [Int.sub_mul] at m4
      apply c
      omega
  unfold nar
  rw [if_pos key]
end Go.Proofs.Ytpedfojbfbccaaa
