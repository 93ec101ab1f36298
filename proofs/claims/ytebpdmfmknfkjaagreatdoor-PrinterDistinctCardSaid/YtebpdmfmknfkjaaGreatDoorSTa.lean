import Derived.Test.YtebpdmfmknfkjaaGreatDoorSPf
import Derived.KernelRfl
namespace Go.Proofs.YtebpdmfmknfkjaaGreatDoor
open Go Go.RowKit Go.Vc
set_option linter.unusedVariables false
set_option linter.unusedSimpArgs false
theorem fraction {t : GType} {v : GVal} (ht : tyB t = true) (hv : okV t v = true) : ∃ x, m_value_fraction t v = some x ∧ m_ref04_Value t v = some x ∧ frOK x = true := by
 unfold m_value_fraction m_ref04_Value m_fixed_ToFrac
 by_cases k2 : t.Kind = 2
 ·obtain ⟨q1, q2, q3, q4, q5, q6, q7⟩ := tyB_fix ht k2
  obtain ⟨v1, v2, v3⟩ := okV_fix ht k2 hv
  have hp := pw_bd (n := t.Frac) q4
  simp only [k2, decide_true, if_true, fixed_check1 ht k2 hv, Option.bind_some, Bool.not_true, Bool.false_eq_true, if_false, q3, pw_sh' q3 q4, Int.one_mul, bind_pair, ref04_step q3 q4]
  rw [wi (p := pw t.Frac) ⟨by omega, by omega⟩, ref01_New ⟨by omega, by omega⟩ ⟨by omega, by omega⟩]
  unfold m_frac_New
  rw [show decide (pw t.Frac = 0) = false by simp; omega, frac_magnitude ⟨by omega, by omega⟩, frac_magnitude ⟨by omega, by omega⟩]
  simp only [Bool.false_eq_true, if_false, Option.bind_some]
  rw [if_neg (show ¬ pw t.Frac < 0 by omega), frac_gcd (by split <;> omega) (by omega) (by omega), Option.bind_some]
  generalize hm : (if v.N < 0 then -v.N else v.N) = m
  have hm0 : 0 ≤ m ∧ m ≤ 1073741824 := by rw [← hm]; split <;> omega
  have hsgn : v.N = if v.N < 0 then -m else m := by rw [← hm]; split <;> omega
  generalize hg : Int.gcd m (pw t.Frac) = g
  have hg0 : g ≠ 0 := fun h => by
   rw [h] at hg
   have := (Int.gcd_eq_zero_iff.1 hg).2
   omega
  have hgi : (g : Int) ≠ 0 := by omega
  rw [if_pos hgi]
  have d1 : (g : Int) ∣ m := by rw [← hg]; exact Int.gcd_dvd_left ..
  have d2 : (g : Int) ∣ pw t.Frac := by rw [← hg]; exact Int.gcd_dvd_right ..
  obtain ⟨x, hx⟩ := d1
  obtain ⟨y, hy⟩ := d2
  have ex : Int.tdiv m g = x := by rw [hx]; exact Int.mul_tdiv_cancel_left _ hgi
  have ey : Int.tdiv (pw t.Frac) g = y := by rw [hy]; exact Int.mul_tdiv_cancel_left _ hgi
  have hx0 : 0 ≤ x ∧ x ≤ 1073741824 := by
   have h1 : 0 ≤ x := by
    rcases Int.lt_or_le x 0 with h | h
    ·have := Int.mul_neg_of_pos_of_neg (show (0 : Int) < g by omega) h; omega
    ·exact h
   have := Int.mul_le_mul_of_nonneg_right (show (1 : Int) ≤ g by omega) h1
   omega
  have hy0 : 1 ≤ y ∧ y ≤ 1073741824 := by
   have h1 : 0 < y := by
    rcases Int.lt_or_le 0 y with h | h
    ·exact h
    ·have := Int.mul_nonpos_of_nonneg_of_nonpos (show (0 : Int) ≤ g by omega) h; omega
   have := Int.mul_le_mul_of_nonneg_right (show (1 : Int) ≤ g by omega) (show 0 ≤ y by omega)
   omega
  have hco : Int.gcd x y = 1 := by
   have h1 : Int.gcd (g * x) (g * y) = g := by rw [← hx, ← hy]; exact hg
   rw [Int.gcd_mul_left] at h1
   have h2 : (g : Int).natAbs = g := by simp
   rw [h2] at h1
   exact Nat.eq_of_mul_eq_mul_left (Nat.pos_of_ne_zero hg0) (by rw [h1, Nat.mul_one])
  rw [ex, ey, wu (p := x) ⟨by omega, by omega⟩, wu (p := y) ⟨by omega, by omega⟩, wi (p := x) ⟨by omega, by omega⟩, wi (p := y) ⟨by omega, by omega⟩, wi (p := -x) ⟨by omega, by omega⟩]
  rw [if_neg (by simp; omega)]
  have hpd : decide (pw t.Frac < 0) = false := by simp; omega
  rw [hpd]
  by_cases hn : v.N < 0
  ·refine ⟨⟨-x, y⟩, by simp [hn], by simp [hn], ?_⟩
   unfold frOK
   rw [Int.neg_gcd]
   simp [hco]; omega
  ·refine ⟨⟨x, y⟩, by simp [hn], by simp [hn], ?_⟩
   unfold frOK
   simp [hco]; omega
 ·refine ⟨v, by simp [k2], by simp [k2], ?_⟩
  rcases tyB_kind ht with k | k | k
  ·exact okV_fr k hv
  ·exact absurd k k2
  ·obtain ⟨h1, h2, h3⟩ := okV_int k hv; exact frOK_D1 h1 ⟨by omega, by omega⟩
end Go.Proofs.YtebpdmfmknfkjaaGreatDoor
namespace Go.Proofs.YtebpdmfmknfkjaaGreatDoor
open Go Go.RowKit Go.Vc
set_option linter.unusedVariables false
set_option linter.unusedSimpArgs false
end Go.Proofs.YtebpdmfmknfkjaaGreatDoor
namespace Go.Proofs.YtebpdmfmknfkjaaGreatDoor
open Go Go.RowKit Go.Vc
set_option linter.unusedVariables false
set_option linter.unusedSimpArgs false
def leq (op : Int) (x y : GVal) : Prop := if op = 9 then x.N * y.D ≤ y.N * x.D else y.N * x.D ≤ x.N * y.D
end Go.Proofs.YtebpdmfmknfkjaaGreatDoor
namespace Go.Proofs.YtebpdmfmknfkjaaGreatDoor
open Go Go.RowKit Go.Vc
set_option linter.unusedVariables false
set_option linter.unusedSimpArgs false
end Go.Proofs.YtebpdmfmknfkjaaGreatDoor
namespace Go.Proofs.YtebpdmfmknfkjaaGreatDoor
open Go Go.RowKit Go.Vc
set_option linter.unusedVariables false
set_option linter.unusedSimpArgs false
theorem wiN {n : Nat} (h : n < 4611686018427387904) : wi64 (n : Int) = n := wr_i64 (p := (n : Int)) ⟨by omega, by omega⟩
theorem wis {i : Nat} (h : i < 4611686018427387904) : wi64 ((i : Int) + 1) = ((i + 1 : Nat) : Int) := by
 have h2 : R64 ((i : Int) + 1) := ⟨by omega, by omega⟩
 exact (wr_i64 h2).trans (by omega)
theorem wia {a b : Nat} (h : a + b < 4611686018427387904) : wi64 ((a : Int) + (b : Int)) = ((a + b : Nat) : Int) := by
 rw [← Int.natCast_add]; exact wiN h
theorem latN {α : Type} (l : List α) (i : Nat) : lat l (i : Int) = l[i]? := by simp [Vc.lat]
theorem lat_at {α : Type} {l : List α} {i : Nat} {x : α} (h : l[i]? = some x) : lat l (i : Int) = some x := (latN l i).trans h
theorem lt_dec {a b : Nat} (h : a < b) : decide ((a : Int) < (b : Int)) = true := by simpa using h
theorem lapp_ok {α : Type} {xs ys : List α} (h : xs.length + ys.length ≤ 4294967296) : lapp xs ys = some (xs ++ ys) := by unfold lapp; rw [if_pos h]
theorem lapp_nil {α : Type} {ys : List α} (h : ys.length ≤ 4294967296) : lapp [] ys = some ys := by rw [lapp_ok (by simpa using h)]; rfl
theorem loop_ok {σ R : Type} {L : Nat → σ → Int → Option R} {n : Nat} (I : Nat → σ → Prop) (Q : R → Prop)
  (rd : ∀ f i s, i < n → I i s → (∃ s', I (i + 1) s' ∧ L (f + 1) s (i : Int) = L f s' ((i + 1 : Nat) : Int)) ∨ ∃ r, L (f + 1) s (i : Int) = some r ∧ Q r)
  (fin : ∀ f s, I n s → ∃ r, L (f + 1) s (n : Int) = some r ∧ Q r) :
  ∀ (k f i : Nat) (s : σ), i + k = n → k < f → I i s → ∃ r, L f s (i : Int) = some r ∧ Q r
 | 0, f, i, s, h, hf, hI => by
  obtain ⟨f, rfl⟩ : ∃ g, f = g + 1 := ⟨f - 1, by omega⟩
  obtain rfl : i = n := by omega
  exact fin f s hI
 | k + 1, f, i, s, h, hf, hI => by
  obtain ⟨f, rfl⟩ : ∃ g, f = g + 1 := ⟨f - 1, by omega⟩
  rcases rd f i s (by omega) hI with ⟨s', h1, h2⟩ | ⟨r, h1, h2⟩
  ·rw [h2]; exact loop_ok I Q rd fin k f (i + 1) s' (by omega) (by omega) h1
  ·exact ⟨r, h1, h2⟩
theorem loop_fu {σ R : Type} {L : Nat → σ → Int → Option R} {n : Nat} (hn : n < 4611686018427387904) (I : Nat → σ → Prop) (Q : R → Prop)
  (rd : ∀ f i s, i < n → I i s → (∃ s', I (i + 1) s' ∧ L (f + 1) s (i : Int) = L f s' ((i + 1 : Nat) : Int)) ∨ ∃ r, L (f + 1) s (i : Int) = some r ∧ Q r)
  (fin : ∀ f s, I n s → ∃ r, L (f + 1) s (n : Int) = some r ∧ Q r) (s : σ) (h0 : I 0 s) : ∃ r, L fu s 0 = some r ∧ Q r :=
 loop_ok I Q rd fin n fu 0 s (by omega) (by unfold fu; omega) h0
theorem loop_eq {σ R : Type} {L : Nat → σ → Int → Option R} {n : Nat} {r0 : Option R} (hn : n < 4611686018427387904) (I : Nat → σ → Prop)
  (rd : ∀ f i s, i < n → I i s → (∃ s', I (i + 1) s' ∧ L (f + 1) s (i : Int) = L f s' ((i + 1 : Nat) : Int)) ∨ L (f + 1) s (i : Int) = r0)
  (fin : ∀ f s, I n s → L (f + 1) s (n : Int) = r0) (s : σ) (h0 : I 0 s) : L fu s 0 = r0 := by
 have key : ∀ (k f i : Nat) (s : σ), i + k = n → k < f → I i s → L f s (i : Int) = r0 := by
  intro k
  induction k with
  | zero =>
   intro f i s h hf hI
   obtain ⟨f, rfl⟩ : ∃ g, f = g + 1 := ⟨f - 1, by omega⟩
   obtain rfl : i = n := by omega
   exact fin f s hI
  | succ k ih =>
   intro f i s h hf hI
   obtain ⟨f, rfl⟩ : ∃ g, f = g + 1 := ⟨f - 1, by omega⟩
   rcases rd f i s (by omega) hI with ⟨s', h1, h2⟩ | h1
   ·rw [h2]; exact ih f (i + 1) s' (by omega) (by omega) h1
   ·exact h1
 exact key n fu 0 s (by omega) (by unfold fu; omega) h0
theorem take_succ' {α : Type} {l : List α} {i : Nat} {x : α} (h : l[i]? = some x) : l.take (i + 1) = l.take i ++ [x] := by rw [List.take_add_one, h]; rfl
theorem drop_at {α : Type} {l : List α} {i : Nat} {x : α} (h : l[i]? = some x) : l.drop i = x :: l.drop (i + 1) := by
 obtain ⟨h1, h2⟩ := List.getElem?_eq_some_iff.1 h
 rw [List.drop_eq_getElem_cons h1, h2]
theorem at_some {α : Type} {l : List α} {i : Nat} (h : i < l.length) : ∃ x, l[i]? = some x := ⟨l[i], by simp [h]⟩
def prd : List Nat → Nat
 | [] => 1
 | x :: d => x * prd d
def off : List Nat → List Nat → Nat
 | _ :: d, q :: p => q * prd d + off d p
 | _, _ => 0
end Go.Proofs.YtebpdmfmknfkjaaGreatDoor
