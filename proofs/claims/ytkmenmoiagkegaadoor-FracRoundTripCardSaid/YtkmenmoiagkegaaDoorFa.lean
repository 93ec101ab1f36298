/- Fractions: which numbers are valid, what New answers; program and reference agree. Conditions: the range of int64. -/
import Derived.Test.YtkmenmoiagkegaaDoorOp
import Derived.KernelRfl
namespace Go.Proofs.YtkmenmoiagkegaaDoor
open Go Go.RowKit Go.Vc
set_option linter.unusedVariables false
set_option linter.unusedSimpArgs false

theorem ex01 : m_law01_examples = some true := by kernel_rfl

structure VaR (v : GVal) : Prop where
  N : R64 v.N
  D : R64 v.D
theorem okI_R {n : Int} (h : okI .i64 n) : R64 n := wf_int h
theorem VaR.of {v : GVal} (h : okGVal v) : VaR v := ⟨okI_R h.1, okI_R h.2⟩

/-! ### The greatest common divisor -/
theorem gcd_l1 (m : Nat → Int → Int → Option Int) (hm : ∀ f a b, m (f + 1) a b = if (!decide (b = 0)) = true then (if b ≠ 0 then m f b (Int.tmod a b) else none) else some a) :
    ∀ (f : Nat) (a b : Int), 0 ≤ a → 0 ≤ b → b.toNat < f → m f a b = some (Int.gcd a b)
  | 0, _, _, _, _, h => absurd h (by omega)
  | f + 1, a, b, ha, hb, hf => by
    rw [hm]
    by_cases h : b = 0
    · subst h
      simp
      omega
    · have h1 : 0 < b := by omega
      have h2 : Int.tmod a b = a % b := Int.tmod_eq_emod_of_nonneg ha
      have h3 : 0 ≤ a % b := Int.emod_nonneg _ h
      have h4 : a % b < b := Int.emod_lt_of_pos _ h1
      simp only [h, decide_false, Bool.not_false, if_true, ne_eq, not_false_eq_true]
      rw [h2, gcd_l1 m hm f b (a % b) hb h3 (by omega)]
      congr 1
      have e : Int.gcd b (a % b) = Int.gcd a b := by
        obtain ⟨m, rfl⟩ := Int.eq_ofNat_of_zero_le ha
        obtain ⟨k, rfl⟩ := Int.eq_ofNat_of_zero_le hb
        show Nat.gcd k ((m : Int) % (k : Int)).natAbs = Nat.gcd m k
        rw [show ((m : Int) % (k : Int)) = ((m % k : Nat) : Int) from rfl, Int.natAbs_natCast, Nat.gcd_comm m k, Nat.gcd_rec k m, Nat.gcd_comm]
      rw [e]
theorem base_gcd {a b : Int} (ha : 0 ≤ a) (hb : 0 ≤ b) (h : b ≤ 18446744073709551615) : m_base_gcd a b = some (Int.gcd a b : Int) :=
  gcd_l1 m_base_gcd_l1 (fun _ _ _ => rfl) fu a b ha hb (by unfold fu; omega)
theorem frac_gcd {a b : Int} (ha : 0 ≤ a) (hb : 0 ≤ b) (h : b ≤ 18446744073709551615) : m_frac_gcd a b = some (Int.gcd a b : Int) :=
  gcd_l1 m_frac_gcd_l1 (fun _ _ _ => rfl) fu a b ha hb (by unfold fu; omega)
theorem ref01_gcd {a b : Int} (ha : 0 ≤ a) (hb : 0 ≤ b) (h : b ≤ 18446744073709551615) : m_ref01_gcd a b = some (Int.gcd a b : Int) :=
  gcd_l1 m_ref01_gcd_l1 (fun _ _ _ => rfl) fu a b ha hb (by unfold fu; omega)

/-! ### Valid numbers -/
def frOK (v : GVal) : Bool := decide (1 ≤ v.D ∧ v.D ≤ 2147483647 ∧ -2147483647 ≤ v.N ∧ v.N ≤ 2147483647 ∧ Int.gcd v.N v.D = 1)
theorem wi {p : Int} (h : R64 p) : wi64 p = p := wr_i64 h
theorem wu {p : Int} (h : RU64 p) : wu64 p = p := wr_u64 h
theorem wi64_R (x : Int) : R64 (wi64 x) := by
  simp only [wi64, IntKind.wrap, IntKind.signed, IntKind.bits]
  constructor <;> simp <;> omega
theorem abs_gcd (n d : Int) : Int.gcd (if n < 0 then -n else n) d = Int.gcd n d := by
  split
  · rw [Int.neg_gcd]
  · rfl
theorem frac_magnitude {n : Int} (h : R64 n) : m_frac_magnitude n = some (if n < 0 then -n else n) := by
  obtain ⟨h1, h2⟩ := h
  unfold m_frac_magnitude
  by_cases hn : n < 0
  · simp only [hn, decide_true, if_true]
    congr 1
    simp [IntKind.wrap, IntKind.signed, IntKind.bits]
    omega
  · simp only [hn, decide_false, Bool.false_eq_true, if_false]
    rw [wu ⟨by omega, by omega⟩]
theorem frac_Valid {v : GVal} (h : VaR v) : m_frac_Valid v = some (frOK v) := by
  unfold m_frac_Valid frOK
  by_cases hd : 1 ≤ v.D ∧ v.D ≤ 2147483647
  · by_cases hn : -2147483647 ≤ v.N ∧ v.N ≤ 2147483647
    · simp only [m_frac_inRange, gd, hd.1, hd.2, hn.1, hn.2, decide_true, Bool.and_self, if_true, Option.bind_some]
      rw [frac_magnitude h.N, Option.bind_some, wu ⟨by omega, by omega⟩, frac_gcd (by split <;> omega) (by omega) (by omega), Option.bind_some, abs_gcd]
      simp
      omega
    · have e : (decide (-2147483647 ≤ v.N) && decide (v.N ≤ 2147483647)) = false := by simpa [Int.not_le] using hn
      simp [m_frac_inRange, gd, hd.1, hd.2]
      have hn' : ¬ (-2147483647 ≤ v.N ∧ v.N ≤ 2147483647) := hn
      simp only [Bool.and_eq_true, decide_eq_true_eq, hn', if_false, Option.bind_some]
      simp
      intro h1 h2
      exact absurd ⟨h1, h2⟩ hn'
  · have e : (decide (1 ≤ v.D) && decide (v.D ≤ 2147483647)) = false := by simpa [Int.not_le] using hd
    simp only [gd, e, Bool.false_and, Bool.false_eq_true, if_false, Option.bind_some]
    simp
    intro h1 h2
    exact absurd ⟨h1, h2⟩ hd
theorem ref01_Valid {v : GVal} (h : VaR v) : m_ref01_Valid v = some (frOK v) := by
  unfold m_ref01_Valid m_base_Val frOK
  obtain ⟨n1, n2⟩ := h.N
  obtain ⟨d1, d2⟩ := h.D
  simp only [show decide ((1 : Int) = 2) = false from rfl, show decide ((1 : Int) = 3) = false from rfl, Bool.false_eq_true, if_false]
  by_cases hr : 1 ≤ v.D ∧ v.D ≤ 2147483647 ∧ -2147483647 ≤ v.N ∧ v.N ≤ 2147483647
  · obtain ⟨r1, r2, r3, r4⟩ := hr
    rw [if_neg (by simp; omega)]
    have hm : max v.N (wi64 (-v.N)) = if v.N < 0 then -v.N else v.N := by rw [wi ⟨by omega, by omega⟩]; split <;> omega
    rw [hm, base_gcd (by split <;> omega) (by omega) (by omega), Option.bind_some, abs_gcd]
    simp [r1, r2, r3, r4]
    omega
  · rw [if_pos (by simp; omega)]
    simp; omega
theorem ref01_size {n : Int} (h : R64 n) : m_ref01_size n = some (if n < 0 then -n else n) := by
  obtain ⟨h1, h2⟩ := h
  unfold m_ref01_size
  by_cases hn : n < 0
  · simp only [hn, decide_true, if_true]
    rw [wi (p := n + 1) ⟨by omega, by omega⟩, wi (p := -(n + 1)) ⟨by omega, by omega⟩, wu (p := -(n + 1)) ⟨by omega, by omega⟩, wu ⟨by omega, by omega⟩]
    congr 1; omega
  · simp only [hn, decide_false, Bool.false_eq_true, if_false]
    rw [wu ⟨by omega, by omega⟩]
theorem mul_bd {x y : Int} {B : Nat} (hx : -(B : Int) ≤ x ∧ x ≤ B) (hy : -(B : Int) ≤ y ∧ y ≤ B) : -((B * B : Nat) : Int) ≤ x * y ∧ x * y ≤ ((B * B : Nat) : Int) := by
  have h1 : x.natAbs ≤ B := by omega
  have h2 : y.natAbs ≤ B := by omega
  have h3 := Nat.mul_le_mul h1 h2
  rw [← Int.natAbs_mul] at h3
  omega
theorem frOK_D1 {v : GVal} (hD : v.D = 1) (hN : -2147483647 ≤ v.N ∧ v.N ≤ 2147483647) : frOK v = true := by
  unfold frOK; simp [hD, hN]
theorem frOK_bd {v : GVal} (h : frOK v = true) : 1 ≤ v.D ∧ v.D ≤ 2147483647 ∧ -2147483647 ≤ v.N ∧ v.N ≤ 2147483647 ∧ Int.gcd v.N v.D = 1 := by
  unfold frOK at h; simpa using h
theorem dvd_cop {d n m : Int} (h : d ∣ n * m) (hg : Int.gcd d n = 1) : d ∣ m := by
  rw [← Int.natAbs_dvd_natAbs] at h ⊢
  rw [Int.natAbs_mul] at h
  exact Nat.Coprime.dvd_of_dvd_mul_left hg h
theorem fr_eq {a b : GVal} (ha : frOK a = true) (hb : frOK b = true) (h : a.N * b.D = b.N * a.D) : a = b := by
  obtain ⟨a1, a2, a3, a4, a5⟩ := frOK_bd ha
  obtain ⟨b1, b2, b3, b4, b5⟩ := frOK_bd hb
  have h1 : a.D ∣ b.D := by
    have h3 : a.D ∣ a.N * b.D := ⟨b.N, by rw [h, Int.mul_comm]⟩
    exact dvd_cop h3 (by rw [Int.gcd_comm]; exact a5)
  have h2 : b.D ∣ a.D := by
    have h3 : b.D ∣ b.N * a.D := ⟨a.N, by rw [← h, Int.mul_comm]⟩
    exact dvd_cop h3 (by rw [Int.gcd_comm]; exact b5)
  have h3 : a.D = b.D := by
    have := Int.le_of_dvd (by omega) h1
    have := Int.le_of_dvd (by omega) h2
    omega
  have h4 : a.N = b.N := by
    rw [h3] at h
    exact Int.eq_of_mul_eq_mul_right (by omega) h
  cases a; cases b; simp_all

/-! ### Comparing -/
def ord (a b : Int) : Int := if a < b then -1 else if b < a then 1 else 0
theorem frac_order (a b : Int) : m_frac_order a b = some (ord a b) := by
  unfold m_frac_order ord; by_cases h : a < b <;> by_cases k : b < a <;> simp [h, k]
theorem ref01_order (a b : Int) : m_ref01_order a b = some (ord a b) := by
  unfold m_ref01_order ord; by_cases h : a < b <;> by_cases k : b < a <;> simp [h, k]
theorem frVaR {v : GVal} (h : frOK v = true) : VaR v := by
  obtain ⟨a1, a2, a3, a4, a5⟩ := frOK_bd h
  exact ⟨⟨by omega, by omega⟩, ⟨by omega, by omega⟩⟩
theorem cross {a b : GVal} (ha : frOK a = true) (hb : frOK b = true) : -4611686018427387904 ≤ a.N * b.D ∧ a.N * b.D ≤ 4611686018427387904 := by
  obtain ⟨a1, a2, a3, a4, a5⟩ := frOK_bd ha
  obtain ⟨b1, b2, b3, b4, b5⟩ := frOK_bd hb
  have := mul_bd (x := a.N) (y := b.D) (B := 2147483647) ⟨by omega, by omega⟩ ⟨by omega, by omega⟩
  omega
theorem ref01_Compare {a b : GVal} (ha : frOK a = true) (hb : frOK b = true) : m_ref01_Compare a b = some (ord (a.N * b.D) (b.N * a.D)) := by
  have h1 := cross ha hb
  have h2 := cross hb ha
  unfold m_ref01_Compare
  rw [ref01_Valid (frVaR ha), ref01_Valid (frVaR hb), ha, hb, wi ⟨by omega, by omega⟩, wi ⟨by omega, by omega⟩]
  simp [gd, ref01_order]
theorem frac_Compare {a b : GVal} (ha : frOK a = true) (hb : frOK b = true) : m_frac_Compare a b = some (ord (a.N * b.D) (b.N * a.D)) := by
  have h1 := cross ha hb
  have h2 := cross hb ha
  unfold m_frac_Compare
  rw [frac_Valid (frVaR ha), frac_Valid (frVaR hb), ha, hb, wi ⟨by omega, by omega⟩, wi ⟨by omega, by omega⟩]
  simp [gd, frac_order]

theorem bind_pair {α β : Type} (m : Option (α × β)) : (m.bind fun r => some (r.1, r.2)) = m := by cases m <;> rfl
/-- Program and reference give the same fraction. -/
theorem ref01_New {n d : Int} (hn : R64 n) (hd : R64 d) : m_ref01_New n d = m_frac_New n d := by
  unfold m_ref01_New m_frac_New
  by_cases h0 : d = 0
  · simp [h0]
  simp only [h0, decide_false, Bool.false_eq_true, if_false, bind_pair]
  rw [ref01_size hn, ref01_size hd, frac_magnitude hn, frac_magnitude hd]
  simp only [Option.bind_some]
  unfold m_ref01_made
  obtain ⟨n1, n2⟩ := hn
  obtain ⟨d1, d2⟩ := hd
  rw [frac_gcd (by split <;> omega) (by split <;> omega) (by split <;> omega), ref01_gcd (by split <;> omega) (by split <;> omega) (by split <;> omega)]
end Go.Proofs.YtkmenmoiagkegaaDoor
