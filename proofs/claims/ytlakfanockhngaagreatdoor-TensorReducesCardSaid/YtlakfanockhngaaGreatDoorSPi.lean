import Derived.Test.YtlakfanockhngaaGreatDoorSPh
namespace Go.Proofs.YtlakfanockhngaaGreatDoor
open Go Go.RowKit Go.Vc
set_option linter.unusedVariables false
set_option linter.unusedSimpArgs false
def toR (v : GVal) : Rat := Rat.divInt v.N v.D
theorem New_spec {n d : Int} (hn : R64 n) (hd : R64 d) (h0 : d ≠ 0) : ∃ q e, m_frac_New n d = some (q, e) ∧ ((e = 3 ∧ q = ⟨0, 0⟩) ∨ (e = 0 ∧ frOK q = true ∧ toR q = Rat.divInt n d)) := by
 obtain ⟨n1, n2⟩ := hn
 obtain ⟨d1, d2⟩ := hd
 unfold m_frac_New
 simp only [h0, decide_false, Bool.false_eq_true, if_false, Option.bind_some]
 rw [frac_magnitude ⟨n1, n2⟩, frac_magnitude ⟨d1, d2⟩, Option.bind_some, Option.bind_some, frac_gcd (by split <;> omega) (by split <;> omega) (by split <;> omega), Option.bind_some]
 generalize hneg : (decide (n < 0) != decide (d < 0)) = neg
 generalize hm : (if n < 0 then -n else n) = m
 generalize hk : (if d < 0 then -d else d) = k
 have hm0 : 0 ≤ m ∧ m ≤ 9223372036854775808 := by rw [← hm]; split <;> omega
 have hk0 : 1 ≤ k ∧ k ≤ 9223372036854775808 := by rw [← hk]; split <;> omega
 have hnm : n * k = (if neg then -m else m) * d := by
  rw [← hneg, ← hm, ← hk]
  by_cases c1 : n < 0 <;> by_cases c2 : d < 0 <;> simp [c1, c2, Int.neg_mul, Int.mul_neg]
 generalize hg : Int.gcd m k = g
 have hg0 : g ≠ 0 := fun h => by
  rw [h] at hg
  have := (Int.gcd_eq_zero_iff.1 hg).2
  omega
 have hgi : (g : Int) ≠ 0 := by omega
 rw [if_pos hgi]
 obtain ⟨x, hx⟩ : (g : Int) ∣ m := by rw [← hg]; exact Int.gcd_dvd_left ..
 obtain ⟨y, hy⟩ : (g : Int) ∣ k := by rw [← hg]; exact Int.gcd_dvd_right ..
 have ex : Int.tdiv m g = x := by rw [hx]; exact Int.mul_tdiv_cancel_left _ hgi
 have ey : Int.tdiv k g = y := by rw [hy]; exact Int.mul_tdiv_cancel_left _ hgi
 have hx0 : 0 ≤ x ∧ x ≤ 9223372036854775808 := by
  have h1 : 0 ≤ x := by
   rcases Int.lt_or_le x 0 with h | h
   ·have := Int.mul_neg_of_pos_of_neg (show (0 : Int) < g by omega) h; omega
   ·exact h
  have := Int.mul_le_mul_of_nonneg_right (show (1 : Int) ≤ g by omega) h1
  omega
 have hy0 : 1 ≤ y ∧ y ≤ 9223372036854775808 := by
  have h1 : 0 < y := by
   rcases Int.lt_or_le 0 y with h | h
   ·exact h
   ·have := Int.mul_nonpos_of_nonneg_of_nonpos (show (0 : Int) ≤ g by omega) h; omega
  have := Int.mul_le_mul_of_nonneg_right (show (1 : Int) ≤ g by omega) (show 0 ≤ y by omega)
  omega
 have hco : Int.gcd x y = 1 := by
  have h1 : Int.gcd (g * x) (g * y) = g := by rw [← hx, ← hy]; exact hg
  rw [Int.gcd_mul_left] at h1
  have h2 : (g : Int).natAbs = g := by simp
  rw [h2] at h1
  exact Nat.eq_of_mul_eq_mul_left (Nat.pos_of_ne_zero hg0) (by rw [h1, Nat.mul_one])
 rw [ex, ey, wu (p := x) ⟨by omega, by omega⟩, wu (p := y) ⟨by omega, by omega⟩]
 by_cases c : 2147483647 < x ∨ 2147483647 < y
 ·rw [if_pos (by simpa using c)]
  exact ⟨_, _, rfl, .inl ⟨rfl, rfl⟩⟩
 ·rw [if_neg (by simpa using c), wi (p := x) ⟨by omega, by omega⟩, wi (p := y) ⟨by omega, by omega⟩, wi (p := -x) ⟨by omega, by omega⟩]
  have hR : Rat.divInt (if neg then -x else x) y = Rat.divInt n d := by
   rw [Rat.divInt_eq_divInt_iff (by omega) h0]
   have e1 : (if neg then -m else m) = g * (if neg then -x else x) := by cases neg <;> simp [hx, Int.mul_neg]
   rw [e1, hy] at hnm
   have e2 : (g : Int) * ((if neg then -x else x) * d) = g * (n * y) := by
    rw [← Int.mul_assoc, ← hnm, ← Int.mul_assoc, Int.mul_comm n (g : Int), Int.mul_assoc]
   exact Int.eq_of_mul_eq_mul_left hgi e2
  cases neg
  ·refine ⟨⟨x, y⟩, 0, rfl, .inr ⟨rfl, ?_, hR⟩⟩
   unfold frOK; simp [hco]; omega
  ·refine ⟨⟨-x, y⟩, 0, rfl, .inr ⟨rfl, ?_, hR⟩⟩
   unfold frOK; rw [Int.neg_gcd]; simp [hco]; omega
def ratOp (op : Int) (x y : Rat) : Rat := if op = 4 then x + y else x * y
theorem Apply_exact {op : Int} {t : GType} {a b : GVal} (hop : op = 4 ∨ op = 6) (ht : tyB t = true) (k2 : t.Kind ≠ 2) (ha : okV t a = true) (hb : okV t b = true) :
  ∃ q e, m_value_Apply op t a b = some (q, e) ∧ ((e = 3 ∧ q = ⟨0, 0⟩) ∨ (e = 0 ∧ okV t q = true ∧ toR q = ratOp op (toR a) (toR b))) := by
 have fa := frOK_of ht ha
 have fb := frOK_of ht hb
 obtain ⟨a1, a2, a3, a4, a5⟩ := frOK_bd fa
 obtain ⟨b1, b2, b3, b4, b5⟩ := frOK_bd fb
 unfold m_value_Apply m_value_Apply_j1
 have c1 : (decide (op < 4) || decide (10 < op)) = false := by
  rw [← Bool.decide_or, decide_eq_false_iff_not]; omega
 have c8 : decide (op = 8) = false := by simp; omega
 have c9 : decide (op = 9) = false := by simp; omega
 have c10 : decide (op = 10) = false := by simp; omega
 rw [value_ValidateType, value_Valid (frVaR fa), value_Valid (frVaR fb)]
 simp only [c1, c8, c9, c10, ht, ha, hb, gd, Bool.and_self, Bool.not_true, Bool.not_false, if_true, Bool.or_self, Bool.false_eq_true, if_false, Option.bind_some, decide_true, bind_pair]
 unfold m_value_arithmetic
 by_cases k3 : t.Kind = 3
 ·obtain ⟨p1, p2, p3⟩ := okV_int k3 ha
  obtain ⟨r1, r2, r3⟩ := okV_int k3 hb
  have key : ∀ n, m_value_integer_j1 n = some (if -2147483647 ≤ n ∧ n ≤ 2147483647 then (⟨n, 1⟩, 0) else (⟨0, 0⟩, 3)) := fun n => by
   unfold m_value_integer_j1 m_value_whole
   by_cases h : -2147483647 ≤ n ∧ n ≤ 2147483647
   ·simp [h.1, h.2]
   ·have : (decide (-2147483647 ≤ n) && decide (n ≤ 2147483647)) = false := by rw [← Bool.decide_and, decide_eq_false_iff_not]; exact h
    rw [if_neg h]; simp [this]
  have okq : ∀ n, -2147483647 ≤ n ∧ n ≤ 2147483647 → okV t ⟨n, 1⟩ = true := fun n hn => by unfold okV; simp [k3, hn.1, hn.2]
  simp only [k3, decide_true, if_true, bind_pair]
  unfold m_value_integer
  rcases hop with h | h
  ·subst h
   simp only [decide_true, if_true]
   rw [wi (p := a.N + b.N) ⟨by omega, by omega⟩, key]
   by_cases h : -2147483647 ≤ a.N + b.N ∧ a.N + b.N ≤ 2147483647
   ·rw [if_pos h]
    refine ⟨_, _, rfl, .inr ⟨rfl, okq _ h, ?_⟩⟩
    simp only [ratOp, if_true, toR, p1, r1]
    rw [Rat.divInt_add_divInt _ _ (by omega) (by omega)]
    simp
   ·rw [if_neg h]; exact ⟨_, _, rfl, .inl ⟨rfl, rfl⟩⟩
  ·subst h
   have hmb := mul_bd (x := a.N) (y := b.N) (B := 2147483647) ⟨by omega, by omega⟩ ⟨by omega, by omega⟩
   simp only [show decide ((6 : Int) = 4) = false from rfl, show decide ((6 : Int) = 5) = false from rfl, Bool.false_eq_true, if_false, decide_true, if_true]
   rw [wi (p := a.N * b.N) ⟨by omega, by omega⟩, key]
   by_cases h : -2147483647 ≤ a.N * b.N ∧ a.N * b.N ≤ 2147483647
   ·rw [if_pos h]
    refine ⟨_, _, rfl, .inr ⟨rfl, okq _ h, ?_⟩⟩
    simp only [ratOp, show ¬ ((6 : Int) = 4) by omega, if_false, toR, p1, r1]
    rw [Rat.divInt_mul_divInt]
    simp
   ·rw [if_neg h]; exact ⟨_, _, rfl, .inl ⟨rfl, rfl⟩⟩
 ·have k1 : t.Kind = 1 := by have := tyB_kind ht; omega
  have okq : ∀ q, frOK q = true → okV t q = true := fun q hq => by unfold okV; simp [k1, hq]
  have x1 := mul_bd (x := a.N) (y := b.D) (B := 2147483647) ⟨by omega, by omega⟩ ⟨by omega, by omega⟩
  have x2 := mul_bd (x := b.N) (y := a.D) (B := 2147483647) ⟨by omega, by omega⟩ ⟨by omega, by omega⟩
  have x3 := mul_bd (x := a.D) (y := b.D) (B := 2147483647) ⟨by omega, by omega⟩ ⟨by omega, by omega⟩
  have x4 := mul_bd (x := a.N) (y := b.N) (B := 2147483647) ⟨by omega, by omega⟩ ⟨by omega, by omega⟩
  have x5 : a.D * b.D ≠ 0 := Int.mul_ne_zero (by omega) (by omega)
  simp only [k1, k2, k3, show decide ((1 : Int) = 3) = false from rfl, show decide ((1 : Int) = 2) = false from rfl, Bool.and_false, Bool.false_eq_true, if_false, bind_pair]
  rcases hop with h | h
  ·subst h
   simp only [decide_true, if_true]
   unfold m_frac_Add
   simp only [frac_Valid (frVaR fa), frac_Valid (frVaR fb), fa, fb, gd, Option.bind_some, Bool.not_true, Bool.not_false, if_true, Bool.or_self, Bool.false_eq_true, if_false, bind_pair]
   rw [wi (p := a.N * b.D) ⟨by omega, by omega⟩, wi (p := b.N * a.D) ⟨by omega, by omega⟩, wi (p := a.D * b.D) ⟨by omega, by omega⟩, wi (p := a.N * b.D + b.N * a.D) ⟨by omega, by omega⟩]
   obtain ⟨q, e, h1, h2⟩ := New_spec (n := a.N * b.D + b.N * a.D) (d := a.D * b.D) ⟨by omega, by omega⟩ ⟨by omega, by omega⟩ x5
   refine ⟨q, e, h1, h2.imp id fun ⟨h3, h4, h5⟩ => ⟨h3, okq q h4, ?_⟩⟩
   rw [h5]
   simp only [ratOp, if_true, toR]
   rw [Rat.divInt_add_divInt _ _ (by omega) (by omega)]
  ·subst h
   simp only [show decide ((6 : Int) = 4) = false from rfl, show decide ((6 : Int) = 5) = false from rfl, Bool.false_eq_true, if_false, decide_true, if_true]
   unfold m_frac_Mul
   simp only [frac_Valid (frVaR fa), frac_Valid (frVaR fb), fa, fb, gd, Option.bind_some, Bool.not_true, Bool.not_false, if_true, Bool.or_self, Bool.false_eq_true, if_false, bind_pair]
   rw [wi (p := a.N * b.N) ⟨by omega, by omega⟩, wi (p := a.D * b.D) ⟨by omega, by omega⟩]
   obtain ⟨q, e, h1, h2⟩ := New_spec (n := a.N * b.N) (d := a.D * b.D) ⟨by omega, by omega⟩ ⟨by omega, by omega⟩ x5
   refine ⟨q, e, h1, h2.imp id fun ⟨h3, h4, h5⟩ => ⟨h3, okq q h4, ?_⟩⟩
   rw [h5]
   simp only [ratOp, show ¬ ((6 : Int) = 4) by omega, if_false, toR]
   rw [Rat.divInt_mul_divInt]
def foldA (op : Int) (t : GType) : GVal → List GVal → Option (GVal × Int)
 | out, [] => some (out, 0)
 | out, x :: xs => (m_value_Apply op t out x).bind fun r => if r.2 = 0 then foldA op t r.1 xs else some (⟨0, 0⟩, r.2)
theorem reduce_l1 {zs : List GVal} {r1 : Int × Bool} {t : GType} (hz : (zs.length : Int) ≤ 4611686018427387904) : ∀ (f : Nat) (i : Int) (out : GVal), 0 ≤ i → i ≤ zs.length → ((zs.length : Int) - i).toNat < f → m_value_Reduce_l1 zs r1 t f i out = foldA r1.1 t out (zs.drop i.toNat) := by
 intro f
 induction f with
 | zero => intro i out _ _ h; omega
 | succ f ih =>
  intro i out h0 h1 hf
  rw [m_value_Reduce_l1]
  by_cases h : i < (zs.length : Int)
  ·have hl : lat zs i = some (zs[i.toNat]'(by omega)) := by unfold lat; rw [if_pos h0]; exact List.getElem?_eq_getElem (by omega)
   rw [List.drop_eq_getElem_cons (i := i.toNat) (by omega), foldA]
   simp only [h, decide_true, if_true, hl, Option.bind_some]
   congr 1
   funext r
   by_cases h2 : r.2 = 0
   ·simp only [h2, decide_true, Bool.not_true, Bool.false_eq_true, if_false, if_true]
    rw [wi (p := i + 1) ⟨by omega, by omega⟩, ih (i + 1) r.1 (by omega) (by omega) (by omega), show (i + 1).toNat = i.toNat + 1 by omega]
   ·simp [h2]
  ·have : zs.drop i.toNat = [] := List.drop_eq_nil_of_le (by omega)
   simp [h, this, foldA]
theorem reduce_l2 {l : List GVal} {r1 : Int × Bool} {t : GType} {fold : Int} (hv : ∀ x ∈ l, VaR x) (hz : (l.length : Int) ≤ 4611686018427387904) : ∀ (f : Nat) (i : Int), 0 ≤ i → i ≤ l.length → ((l.length : Int) - i).toNat < f →
  m_value_Reduce_l2 l t fold r1 f i = if (l.drop i.toNat).all (fun x => tyB t && okV t x) = true then m_value_Reduce_j1 l fold t r1 else some (⟨0, 0⟩, 1) := by
 intro f
 induction f with
 | zero => intro i _ _ h; omega
 | succ f ih =>
  intro i h0 h1 hf
  rw [m_value_Reduce_l2]
  by_cases h : i < (l.length : Int)
  ·obtain ⟨e, hl, hmem, hdrop⟩ : ∃ e, lat l i = some e ∧ e ∈ l ∧ l.drop i.toNat = e :: l.drop (i.toNat + 1) := ⟨l[i.toNat]'(by omega), by unfold lat; rw [if_pos h0]; exact List.getElem?_eq_getElem (by omega), List.getElem_mem _, List.drop_eq_getElem_cons (by omega)⟩
   rw [hdrop]
   simp only [h, decide_true, if_true, hl, Option.bind_some, List.all_cons]
   rw [value_Valid (hv _ hmem), Option.bind_some]
   rcases Bool.eq_false_or_eq_true (tyB t && okV t e) with hc | hc
   rotate_left
   ·simp only [hc, Bool.not_false, if_true, Bool.false_and, Bool.false_eq_true, if_false]
   ·simp only [hc, Bool.not_true, Bool.false_eq_true, if_false, Bool.true_and]
    rw [wi (p := i + 1) ⟨by omega, by omega⟩, ih (i + 1) (by omega) (by omega) (by omega), show (i + 1).toNat = i.toNat + 1 by omega]
  ·have : l.drop i.toNat = [] := List.drop_eq_nil_of_le (by omega)
   simp [h, this]
theorem value_Reduce {fold op : Int} {t : GType} {x : GVal} {xs : List GVal} (hop : m_value_operator fold = some (op, true)) (ht : tyB t = true) (hv : ∀ y ∈ x :: xs, VaR y) (hz : ((x :: xs).length : Int) ≤ 4611686018427387904) :
  m_value_Reduce fold t (x :: xs) = if (x :: xs).all (fun y => okV t y) = true then foldA op t x xs else some (⟨0, 0⟩, 1) := by
 have hlen : ((x :: xs).length : Int) = xs.length + 1 := by simp
 unfold m_value_Reduce
 rw [hop, value_ValidateType, ht]
 simp only [Option.bind_some, Bool.not_true, Bool.false_eq_true, if_false, if_true, decide_true]
 rw [reduce_l2 hv hz fu 0 (by omega) (by omega) (by unfold fu; omega)]
 simp only [Int.toNat_zero, List.drop_zero, ht, Bool.true_and]
 split
 ·unfold m_value_Reduce_j1
  rw [if_neg (by simp; omega), show lat (x :: xs) 0 = some x from rfl, Option.bind_some]
  have hf : lfrom (x :: xs) 1 = some xs := by
   unfold lfrom
   rw [if_pos ⟨by omega, by omega⟩]
   rfl
  rw [hf, Option.bind_some, reduce_l1 (by omega) fu 0 x (by omega) (by omega) (by unfold fu; omega)]
  rfl
 ·rfl
def leq (op : Int) (x y : GVal) : Prop := if op = 9 then x.N * y.D ≤ y.N * x.D else y.N * x.D ≤ x.N * y.D
theorem Apply_ext {op : Int} {t : GType} {a b : GVal} (hop : op = 9 ∨ op = 10) (ht : tyB t = true) (ha : okV t a = true) (hb : okV t b = true) :
  ∃ q, m_value_Apply op t a b = some (q, 0) ∧ (q = a ∨ q = b) ∧ leq op q a ∧ leq op q b := by
 have fa := frOK_of ht ha
 have fb := frOK_of ht hb
 unfold m_value_Apply m_value_Apply_j1
 have c1 : (decide (op < 4) || decide (10 < op)) = false := by
  rw [← Bool.decide_or, decide_eq_false_iff_not]; omega
 have c8 : decide (op = 8) = false := by simp; omega
 rw [value_ValidateType, value_Valid (frVaR fa), value_Valid (frVaR fb), value_Compare (frVaR fa) (frVaR fb)]
 simp only [c1, c8, ht, ha, hb, gd, Bool.and_self, Bool.not_true, Bool.not_false, if_true, Bool.or_self, Bool.false_eq_true, if_false, Option.bind_some, decide_true]
 have hcmp : cmp t a b = ord (a.N * b.D) (b.N * a.D) := by unfold cmp; simp [ht, ha, hb]
 rw [hcmp]
 unfold ord leq
 rcases hop with h | h
 ·subst h
  simp only [decide_true, if_true]
  by_cases h1 : a.N * b.D < b.N * a.D
  ·refine ⟨a, by simp [h1], .inl rfl, Int.le_refl _, by omega⟩
  ·by_cases h2 : b.N * a.D < a.N * b.D
   ·exact ⟨b, by simp [h1, h2], .inr rfl, by omega, Int.le_refl _⟩
   ·exact ⟨a, by simp [h1, h2], .inl rfl, Int.le_refl _, by omega⟩
 ·subst h
  simp only [show decide ((10 : Int) = 9) = false from rfl, show ¬ ((10 : Int) = 9) by omega, Bool.false_eq_true, if_false, decide_true, if_true]
  by_cases h1 : a.N * b.D < b.N * a.D
  ·refine ⟨b, by simp [h1], .inr rfl, by omega, Int.le_refl _⟩
  ·by_cases h2 : b.N * a.D < a.N * b.D
   ·exact ⟨a, by simp [h1, h2], .inl rfl, Int.le_refl _, by omega⟩
   ·exact ⟨a, by simp [h1, h2], .inl rfl, Int.le_refl _, by omega⟩
theorem value_operator (fold : Int) : m_value_operator fold = some (if fold = 1 ∨ fold = 5 then (4, true) else if fold = 2 then (6, true) else if fold = 3 then (9, true) else if fold = 4 then (10, true) else (0, false)) := by
 unfold m_value_operator m_value_operator_j1
 by_cases h1 : fold = 1
 ·simp [h1]
 by_cases h5 : fold = 5
 ·simp [h5]
 by_cases h2 : fold = 2
 ·simp [h2]
 by_cases h3 : fold = 3
 ·simp [h3]
 by_cases h4 : fold = 4
 ·simp [h4]
 simp [h1, h2, h3, h4, h5]
end Go.Proofs.YtlakfanockhngaaGreatDoor
