import Derived.Test.YtebpdmfmknfkjaaGreatDoorSTa
namespace Go.Proofs.YtebpdmfmknfkjaaGreatDoor
open Go Go.RowKit Go.Vc
set_option linter.unusedVariables false
set_option linter.unusedSimpArgs false
def dig (c : UInt8) : Bool := decide (48 ≤ c.toNat) && decide (c.toNat ≤ 57)
def dvalA (n : Nat) (s : List UInt8) : Nat := s.foldl (fun n c => 10 * n + (c.toNat - 48)) n
def dval (s : List UInt8) : Nat := dvalA 0 s
theorem dvalA_cons (n : Nat) (c : UInt8) (s : List UInt8) : dvalA n (c :: s) = dvalA (10 * n + (c.toNat - 48)) s := by unfold dvalA; rw [List.foldl_cons]
theorem dvalA_big (s : List UInt8) (n : Nat) : n * 10 ^ s.length ≤ dvalA n s := by
 induction s generalizing n with
 | nil => simp [dvalA]
 | cons c s ih =>
  rw [dvalA_cons]
  have h := ih (10 * n + (c.toNat - 48))
  have : n * 10 ^ (c :: s).length = (10 * n) * 10 ^ s.length := by
   rw [List.length_cons, Nat.pow_succ, Nat.mul_comm (10 ^ s.length) 10, ← Nat.mul_assoc, Nat.mul_comm n 10]
  rw [this]
  exact Nat.le_trans (Nat.mul_le_mul_right _ (by omega)) h
theorem size01 {n : Int} (h : R64 n) : m_ref01_size n = some (if n < 0 then -n else n) := by
 obtain ⟨h1, h2⟩ := h
 unfold m_ref01_size
 by_cases hn : n < 0
 ·simp only [hn, decide_true, if_true]
  rw [wi (p := n + 1) ⟨by omega, by omega⟩, wi (p := -(n + 1)) ⟨by omega, by omega⟩, wu (p := -(n + 1)) ⟨by omega, by omega⟩, wu ⟨by omega, by omega⟩]
  congr 1; omega
 ·simp only [hn, decide_false, Bool.false_eq_true, if_false]
  rw [wu ⟨by omega, by omega⟩]
theorem dvalA_snoc (n : Nat) (s : List UInt8) (c : UInt8) : dvalA n (s ++ [c]) = 10 * dvalA n s + (c.toNat - 48) := by
 unfold dvalA; rw [List.foldl_append]; rfl
theorem of48 {u : Nat} (h : u < 10) : (UInt8.ofNat (48 + u)).toNat = 48 + u := by
 rw [UInt8.toNat_ofNat']; omega
theorem dig48 {u : Nat} (h : u < 10) : dig (UInt8.ofNat (48 + u)) = true := by
 unfold dig; rw [of48 h]; simp <;> omega
theorem dd_small {u : Nat} (h : u < 10) : Lib.decDigits u = [UInt8.ofNat (48 + u)] := by rw [Lib.decDigits, dif_pos h]
theorem dd_big {u : Nat} (h : ¬ u < 10) : Lib.decDigits u = Lib.decDigits (u / 10) ++ [UInt8.ofNat (48 + u % 10)] := by rw [Lib.decDigits, dif_neg h]
theorem head_app {s t : List UInt8} (h : s ≠ []) : (s ++ t).head? = s.head? := by cases s with | nil => exact absurd rfl h | cons c r => rfl
theorem dd_spec (u : Nat) : (Lib.decDigits u).all dig = true ∧ dval (Lib.decDigits u) = u ∧ Lib.decDigits u ≠ [] ∧ (u ≠ 0 → (Lib.decDigits u).head? ≠ some 48) := by
 induction u using Nat.strongRecOn with
 | _ u ih =>
  by_cases h : u < 10
  ·rw [dd_small h]
   refine ⟨by rw [List.all_cons, dig48 h]; rfl, ?_, by simp, fun h0 => ?_⟩
   ·unfold dval; rw [dvalA_cons]; simp only [dvalA, List.foldl_nil]; rw [of48 h]; omega
   ·rw [List.head?_cons]
    intro e
    injection e with e
    have := congrArg UInt8.toNat e
    rw [of48 h] at this
    simp at this; omega
  ·obtain ⟨h1, h2, h3, h4⟩ := ih (u / 10) (by omega)
   rw [dd_big h]
   have hm : u % 10 < 10 := by omega
   refine ⟨by rw [List.all_append, h1, List.all_cons, dig48 hm]; rfl, ?_, by simp, fun h0 => ?_⟩
   ·unfold dval at h2 ⊢; rw [dvalA_snoc, h2, of48 hm]; omega
   ·rw [head_app h3]; exact h4 (by omega)
theorem dd_len {u : Nat} (h : u < 10000000000) : (Lib.decDigits u).length ≤ 10 := by
 obtain ⟨h1, h2, h3, h4⟩ := dd_spec u
 by_cases h0 : 10 < (Lib.decDigits u).length
 ·obtain ⟨c, r, he⟩ : ∃ c r, Lib.decDigits u = c :: r := by cases hd : Lib.decDigits u with | nil => exact absurd hd h3 | cons c r => exact ⟨c, r, rfl⟩
  rw [he] at h0 h1 h2 h4
  by_cases hu : u = 0
  ·subst hu; rw [dd_small (by omega)] at he; injection he with _ he; subst he; simp at h0
  ·have hne := h4 hu
   simp only [List.all_cons, Bool.and_eq_true] at h1
   have hc := h1.1
   simp only [dig, Bool.and_eq_true, decide_eq_true_eq] at hc
   have hne : c.toNat ≠ 48 := fun e => hne (by rw [List.head?_cons]; congr 1; exact UInt8.toNat_inj.1 (by simpa using e))
   unfold dval at h2
   rw [dvalA_cons] at h2
   have hb := dvalA_big r (10 * 0 + (c.toNat - 48))
   have hp : 10 ^ 10 ≤ 10 ^ r.length := Nat.pow_le_pow_right (by omega) (by simp at h0; omega)
   have : 1 * 10 ^ r.length ≤ (10 * 0 + (c.toNat - 48)) * 10 ^ r.length := Nat.mul_le_mul_right _ (by omega)
   omega
 ·omega
theorem itoa_nn {n : Int} (h : 0 ≤ n) : Lib.itoa n = Lib.decDigits n.toNat := by unfold Lib.itoa; rw [if_neg (by omega)]
theorem itoa_ng {n : Int} (h : n < 0) : Lib.itoa n = 45 :: Lib.decDigits n.natAbs := by unfold Lib.itoa; rw [if_pos h]
theorem ref01_plain_run : ∀ (f : Nat) (u : Nat) (s : List UInt8), u < f → u < 18446744073709551616 → (Lib.decDigits u).length + s.length ≤ 4294967296 → m_ref01_plain_l1 f u s = some (Lib.decDigits u ++ s)
 | 0, _, _, h, _, _ => absurd h (by omega)
 | f + 1, u, s, hf, hu, hl => by
  have hpick : ∀ d : Nat, d < 10 → lsub ([48, 49, 50, 51, 52, 53, 54, 55, 56, 57] : List UInt8) (d : Int) (wu64 ((d : Int) + 1)) = some [UInt8.ofNat (48 + d)] := fun d hd => by
   rw [wu (p := (d : Int) + 1) ⟨by omega, by omega⟩]
   unfold lsub
   rw [if_pos ⟨by omega, by omega, by simp <;> omega⟩]
   rw [show ((d : Int)).toNat = d by omega, show ((d : Int) + 1).toNat - d = 1 by omega]
   have : ∀ d : Fin 10, some ((([48, 49, 50, 51, 52, 53, 54, 55, 56, 57] : List UInt8).drop d.val).take 1) = some [UInt8.ofNat (48 + d.val)] := by decide
   exact this ⟨d, hd⟩
  unfold m_ref01_plain_l1
  by_cases h : u < 10
  ·rw [if_neg (by simp <;> omega), hpick u h, dd_small h]
   rw [dd_small h] at hl
   unfold lapp
   simp only [Option.bind_some]
   rw [if_pos (by simpa using hl)]
   rfl
  ·rw [if_pos (by simp <;> omega)]
   rw [dd_big h] at hl ⊢
   simp only [List.length_append, List.length_cons, List.length_nil] at hl
   have e1 : Int.tmod (u : Int) 10 = ((u % 10 : Nat) : Int) := by rw [Int.tmod_eq_emod_of_nonneg (by omega)]; rfl
   have e2 : Int.tdiv (u : Int) 10 = ((u / 10 : Nat) : Int) := by rw [Int.tdiv_eq_ediv_of_nonneg (by omega)]; rfl
   rw [e1, e2, hpick (u % 10) (by omega), wu (p := ((u / 10 : Nat) : Int)) ⟨by omega, by omega⟩]
   unfold lapp
   simp only [Option.bind_some]
   rw [if_pos (by show _ ≤ 4294967296; simp only [List.length_cons, List.length_nil]; omega), Option.bind_some]
   rw [ref01_plain_run f (u / 10) _ (by omega) (by omega) (by simp only [List.length_append, List.length_cons, List.length_nil]; omega)]
   simp
theorem ref01_plain {u : Nat} (hu : u < 10000000000) : m_ref01_plain (u : Int) = some (Lib.decDigits u) := by
 have := dd_len hu
 unfold m_ref01_plain
 rw [ref01_plain_run fu u [] (by unfold fu; omega) (by omega) (by simp only [List.length_nil]; omega)]
 simp
theorem ref01_Digits {n : Int} (h : -2147483647 ≤ n ∧ n ≤ 2147483647) : m_ref01_Digits n = some (Lib.itoa n) := by
 unfold m_ref01_Digits
 rw [size01 ⟨by omega, by omega⟩]
 by_cases hn : n < 0
 ·simp only [hn, decide_true, if_true, Option.bind_some]
  rw [show -n = ((n.natAbs : Nat) : Int) by omega, ref01_plain (by omega), itoa_ng hn]
  have := dd_len (u := n.natAbs) (by omega)
  simp only [Option.bind_some]
  unfold lapp
  rw [if_pos (by show 1 + _ ≤ 4294967296; omega)]
  rfl
 ·simp only [hn, decide_false, Bool.false_eq_true, if_false, Option.bind_some]
  obtain ⟨u, rfl⟩ : ∃ u : Nat, n = u := ⟨n.toNat, by omega⟩
  rw [ref01_plain (by omega), itoa_nn (by omega)]
  rfl
theorem frac_Itoa {n : Int} (h : -2147483647 ≤ n ∧ n ≤ 2147483647) : m_strconv_FormatInt n 10 = some (Lib.itoa n) := by
 unfold m_strconv_FormatInt m_internal_strconv_FormatInt
 rw [if_pos ⟨rfl, by omega, by omega⟩]; rfl
theorem itoa_len {n : Int} (h : -2147483647 ≤ n ∧ n ≤ 2147483647) : (Lib.itoa n).length ≤ 11 := by
 by_cases hn : n < 0
 ·rw [itoa_ng hn]; have := dd_len (u := n.natAbs) (by omega); simp <;> omega
 ·rw [itoa_nn (by omega)]; have := dd_len (u := n.toNat) (by omega); omega
def fmtS (a : GVal) : List UInt8 := if frOK a then (if a.D = 1 then Lib.itoa a.N else Lib.itoa a.N ++ 47 :: Lib.itoa a.D) else []
theorem frac_Format {a : GVal} (ha : VaR a) : m_frac_Format a = some (fmtS a) := by
 unfold m_frac_Format fmtS
 rw [frac_Valid ha]
 cases h : frOK a
 ·rfl
 ·obtain ⟨a1, a2, a3, a4, a5⟩ := frOK_bd h
  simp only [Option.bind_some, Bool.not_true, Bool.false_eq_true, if_false, if_true, frac_Itoa ⟨a3, a4⟩, frac_Itoa (n := a.D) ⟨by omega, by omega⟩]
  by_cases hd : a.D = 1
  ·simp [hd]
  ·have l1 := itoa_len (n := a.N) ⟨a3, a4⟩
   have l2 := itoa_len (n := a.D) ⟨by omega, by omega⟩
   simp only [hd, decide_false, Bool.false_eq_true, if_false]
   unfold lapp
   rw [if_pos (by show _ + 1 ≤ 4294967296; omega), Option.bind_some, if_pos (by rw [List.length_append]; show _ + 1 + _ ≤ 4294967296; omega)]
   simp
theorem ref01_Format {a : GVal} (ha : VaR a) : m_ref01_Format a = some (fmtS a) := by
 unfold m_ref01_Format fmtS
 rw [ref01_Valid ha]
 cases h : frOK a
 ·rfl
 ·obtain ⟨a1, a2, a3, a4, a5⟩ := frOK_bd h
  simp only [Option.bind_some, Bool.not_true, Bool.false_eq_true, if_false, if_true, ref01_Digits ⟨a3, a4⟩, ref01_Digits (n := a.D) ⟨by omega, by omega⟩]
  by_cases hd : a.D = 1
  ·simp [hd]
  ·have l1 := itoa_len (n := a.N) ⟨a3, a4⟩
   have l2 := itoa_len (n := a.D) ⟨by omega, by omega⟩
   simp only [hd, decide_false, Bool.false_eq_true, if_false]
   unfold lapp
   rw [if_pos (by show _ + 1 ≤ 4294967296; omega), Option.bind_some, if_pos (by rw [List.length_append]; show _ + 1 + _ ≤ 4294967296; omega)]
   simp
theorem New_full {n d : Int} (hn : R64 n) (hd : R64 d) (h0 : d ≠ 0) : ∃ q e x y, m_frac_New n d = some (q, e) ∧ 1 ≤ y ∧ Int.gcd x y = 1 ∧ x * d = n * y ∧ (((2147483647 < x ∨ x < -2147483647 ∨ 2147483647 < y) ∧ e = 3 ∧ q = ⟨0, 0⟩) ∨ (¬ (2147483647 < x ∨ x < -2147483647 ∨ 2147483647 < y) ∧ e = 0 ∧ q = ⟨x, y⟩)) := by
 obtain ⟨n1, n2⟩ := hn
 obtain ⟨d1, d2⟩ := hd
 unfold m_frac_New
 simp only [h0, decide_false, Bool.false_eq_true, if_false, Option.bind_some]
 rw [frac_magnitude ⟨n1, n2⟩, frac_magnitude ⟨d1, d2⟩, Option.bind_some, Option.bind_some, frac_gcd (by split <;> omega) (by split <;> omega) (by split <;> omega), Option.bind_some]
 generalize hneg : (decide (n < 0) != decide (d < 0)) = neg
 generalize hm : (if n < 0 then -n else n) = m
 generalize hk : (if d < 0 then -d else d) = k
 have hm0 : 0 ≤ m ∧ m ≤ 9223372036854775808 := by rw [← hm]; split <;> omega
 have hk0 : 1 ≤ k ∧ k ≤ 9223372036854775808 := by rw [← hk]; split <;> omega
 have hnm : n * k = (if neg then -m else m) * d := by
  rw [← hneg, ← hm, ← hk]
  by_cases c1 : n < 0 <;> by_cases c2 : d < 0 <;> simp [c1, c2, Int.neg_mul, Int.mul_neg]
 generalize hg : Int.gcd m k = g
 have hg0 : g ≠ 0 := fun h => by
  rw [h] at hg
  have := (Int.gcd_eq_zero_iff.1 hg).2
  omega
 have hgi : (g : Int) ≠ 0 := by omega
 rw [if_pos hgi]
 obtain ⟨x, hx⟩ : (g : Int) ∣ m := by rw [← hg]; exact Int.gcd_dvd_left ..
 obtain ⟨y, hy⟩ : (g : Int) ∣ k := by rw [← hg]; exact Int.gcd_dvd_right ..
 have ex : Int.tdiv m g = x := by rw [hx]; exact Int.mul_tdiv_cancel_left _ hgi
 have ey : Int.tdiv k g = y := by rw [hy]; exact Int.mul_tdiv_cancel_left _ hgi
 have hx0 : 0 ≤ x ∧ x ≤ 9223372036854775808 := by
  have h1 : 0 ≤ x := by
   rcases Int.lt_or_le x 0 with h | h
   ·have := Int.mul_neg_of_pos_of_neg (show (0 : Int) < g by omega) h; omega
   ·exact h
  have := Int.mul_le_mul_of_nonneg_right (show (1 : Int) ≤ g by omega) h1
  omega
 have hy0 : 1 ≤ y ∧ y ≤ 9223372036854775808 := by
  have h1 : 0 < y := by
   rcases Int.lt_or_le 0 y with h | h
   ·exact h
   ·have := Int.mul_nonpos_of_nonneg_of_nonpos (show (0 : Int) ≤ g by omega) h; omega
  have := Int.mul_le_mul_of_nonneg_right (show (1 : Int) ≤ g by omega) (show 0 ≤ y by omega)
  omega
 have hco : Int.gcd x y = 1 := by
  have h1 : Int.gcd (g * x) (g * y) = g := by rw [← hx, ← hy]; exact hg
  rw [Int.gcd_mul_left] at h1
  have h2 : (g : Int).natAbs = g := by simp
  rw [h2] at h1
  exact Nat.eq_of_mul_eq_mul_left (Nat.pos_of_ne_zero hg0) (by rw [h1, Nat.mul_one])
 rw [ex, ey, wu (p := x) ⟨by omega, by omega⟩, wu (p := y) ⟨by omega, by omega⟩]
 have hR : (if neg then -x else x) * d = n * y := by
  have e1 : (if neg then -m else m) = g * (if neg then -x else x) := by cases neg <;> simp [hx, Int.mul_neg]
  rw [e1, hy] at hnm
  have e2 : (g : Int) * ((if neg then -x else x) * d) = g * (n * y) := by
   rw [← Int.mul_assoc, ← hnm, ← Int.mul_assoc, Int.mul_comm n (g : Int), Int.mul_assoc]
  exact Int.eq_of_mul_eq_mul_left hgi e2
 have hco' : Int.gcd (if neg then -x else x) y = 1 := by cases neg <;> simp [hco, Int.neg_gcd]
 by_cases c : 2147483647 < x ∨ 2147483647 < y
 ·rw [if_pos (by simpa using c)]
  refine ⟨_, _, if neg then -x else x, y, rfl, by omega, hco', hR, .inl ⟨?_, rfl, rfl⟩⟩
  cases neg <;> simp <;> omega
 ·rw [if_neg (by simpa using c), wi (p := x) ⟨by omega, by omega⟩, wi (p := y) ⟨by omega, by omega⟩, wi (p := -x) ⟨by omega, by omega⟩]
  cases neg
  ·exact ⟨⟨x, y⟩, 0, x, y, rfl, by omega, hco', hR, .inr ⟨by omega, rfl, rfl⟩⟩
  ·exact ⟨⟨-x, y⟩, 0, -x, y, rfl, by omega, hco', hR, .inr ⟨by omega, rfl, rfl⟩⟩
theorem value_Format {t : GType} {v : GVal} (hv : VaR v) : ∃ x, (tyB t = true → okV t v = true → m_value_fraction t v = some x ∧ frOK x = true) ∧ m_value_Format t v = some (if tyB t && okV t v then fmtS x else []) ∧ m_ref04_Format t v = some (if tyB t && okV t v then fmtS x else []) := by
 unfold m_value_Format m_ref04_Format
 rw [value_Valid hv, ref04_Valid hv]
 cases ht : tyB t
 ·exact ⟨default, fun h => (by cases h), rfl, rfl⟩
 cases ho : okV t v
 ·exact ⟨default, fun _ h => (by cases h), rfl, rfl⟩
 obtain ⟨x, e1, e2, hx⟩ := fraction ht ho
 refine ⟨x, fun _ _ => ⟨e1, hx⟩, ?_, ?_⟩
 ·simp [e1, frac_Format (frVaR hx)]
 ·simp [e2, ref01_Format (frVaR hx)]
end Go.Proofs.YtebpdmfmknfkjaaGreatDoor
