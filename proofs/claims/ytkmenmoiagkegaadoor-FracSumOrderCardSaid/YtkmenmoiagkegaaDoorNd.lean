/- Quotients, lowest terms, and what Sum computes in the program. Conditions: at most 40 summands. -/
import Derived.Test.YtkmenmoiagkegaaDoorNc
namespace Go.Proofs.YtkmenmoiagkegaaDoor
open Go Go.RowKit Go.Vc
set_option linter.unusedVariables false
set_option linter.unusedSimpArgs false

/-! ### Quotients -/
def mult (b k : Nat) : List (List Int) := (List.range k).map fun j => big (b * 2 ^ j)
theorem mult_len (b k : Nat) : (mult b k).length = k := by simp [mult]
theorem mult_at {b k j : Nat} (h : j < k) : (mult b k)[j]? = some (big (b * 2 ^ j)) := by simp [mult, h]
theorem mult_lat {b k j : Nat} (h : j < k) : lat (mult b k) (j : Int) = some (big (b * 2 ^ j)) := by unfold lat; rw [if_pos (by omega), show (j : Int).toNat = j by omega, mult_at h]
theorem mult_succ (b k : Nat) : mult b (k + 1) = mult b k ++ [big (b * 2 ^ k)] := by simp [mult, List.range_succ]
theorem big_len_mul {n k : Nat} : (big (n * 2 ^ k)).length ≤ (big n).length + k := by
  induction k with
  | zero => simp
  | succ k ih =>
    refine Nat.le_trans (big_len_lt _ ((big (n * 2 ^ k)).length + 1) ?_) (by omega)
    have := nv_bd (big_dg (n * 2 ^ k))
    rw [big_nv] at this
    rw [Nat.pow_succ, ← Nat.mul_assoc, bp_succ]
    omega
theorem quo_l1 {a b : Nat} (hla : (big a).length < 1000000) (hlb : (big b).length < 1000000) : ∀ (r : Nat) (f : Nat) (k : Nat), k + r = 33 → 1 ≤ k → r < f → ∃ K, 1 ≤ K ∧ K ≤ 33 ∧ (K = 33 ∨ a < b * 2 ^ (K - 1)) ∧ m_frac_quotient_l1 (big a) f (mult b k) = m_frac_quotient_j1 (big a) (mult b K) := by
  intro r
  induction r with
  | zero =>
    intro f k hk h1 hf
    obtain ⟨f, rfl⟩ : ∃ g, f = g + 1 := ⟨f - 1, by omega⟩
    refine ⟨k, h1, by omega, .inl (by omega), ?_⟩
    rw [m_frac_quotient_l1, mult_len]
    have : decide (((k : Nat) : Int) ≤ 32) = false := by simp; omega
    simp [this, gd]
  | succ r ih =>
    intro f k hk h1 hf
    obtain ⟨f, rfl⟩ : ∃ g, f = g + 1 := ⟨f - 1, by omega⟩
    have hlen := big_len_mul (n := b) (k := k - 1)
    have hl1 : (big (b * 2 ^ (k - 1))).length < LN := by show _ < 2147483648; omega
    have e1 : lat (mult b k) (wi64 ((k : Int) - 1)) = some (big (b * 2 ^ (k - 1))) := by
      rw [wi ⟨by omega, by omega⟩, show (k : Int) - 1 = ((k - 1 : Nat) : Int) by omega]; exact mult_lat (by omega)
    rw [m_frac_quotient_l1, mult_len]
    have : decide (((k : Nat) : Int) ≤ 32) = true := by simp; omega
    simp only [this, gd, if_true, e1, Option.bind_some, frac_compare hl1 (show (big a).length < LN by show _ < 2147483648; omega), Bool.true_and]
    by_cases hc : b * 2 ^ (k - 1) ≤ a
    · have ho : ord ((b * 2 ^ (k - 1) : Nat) : Int) a ≤ 0 := by unfold ord; split; decide; split; omega; decide
      rw [if_pos (by simpa using ho)]
      have ht := frac_times (n := b * 2 ^ (k - 1)) (b := 2) hl1 (by decide)
      rw [show ((2 : Nat) : Int) = 2 from rfl, Nat.mul_assoc, ← Nat.pow_succ, show (k - 1).succ = k by omega] at ht
      have e2 : lapp (mult b k) [big (b * 2 ^ k)] = some (mult b (k + 1)) := by
        unfold lapp; rw [if_pos (by rw [mult_len]; show k + 1 ≤ 4294967296; omega), ← mult_succ]
      rw [ht, Option.bind_some, e2, Option.bind_some]
      exact ih f (k + 1) (by omega) (by omega) (by omega)
    · have ho : ¬ ord ((b * 2 ^ (k - 1) : Nat) : Int) a ≤ 0 := by unfold ord; rw [if_neg (by omega), if_pos (by omega)]; decide
      rw [if_neg (by simpa using ho)]
      exact ⟨k, h1, by omega, .inr (by omega), rfl⟩
/-- Subtracting the multiples from the greatest down. -/
def gq (b : Nat) : Nat → Nat → Nat × Nat
  | 0, a => (a, 0)
  | i + 1, a => if b * 2 ^ i ≤ a then ((gq b i (a - b * 2 ^ i)).1, (gq b i (a - b * 2 ^ i)).2 + 2 ^ i) else gq b i a
theorem gq_spec (b : Nat) : ∀ (i a : Nat), (gq b i a).1 + b * (gq b i a).2 = a ∧ (gq b i a).2 + 1 ≤ 2 ^ i ∧ (a < b * 2 ^ i → (gq b i a).1 < b)
  | 0, a => by simp [gq]
  | i + 1, a => by
    unfold gq
    by_cases h : b * 2 ^ i ≤ a
    · rw [if_pos h]
      obtain ⟨h1, h2, h3⟩ := gq_spec b i (a - b * 2 ^ i)
      refine ⟨?_, ?_, fun h4 => h3 ?_⟩
      · simp only; rw [Nat.mul_add]; omega
      · simp only; rw [Nat.pow_succ]; omega
      · rw [Nat.pow_succ, ← Nat.mul_assoc] at h4; omega
    · rw [if_neg h]
      obtain ⟨h1, h2, h3⟩ := gq_spec b i a
      exact ⟨h1, by rw [Nat.pow_succ]; omega, fun _ => h3 (by omega)⟩
theorem quo_back {b K : Nat} (hK : K ≤ 33) (hlb : (big b).length < 1000000) : ∀ (i f a n : Nat), i ≤ K → i < f → (big a).length < 1000000 → n + 2 ^ i ≤ 2 ^ 33 →
    m_slices_Backward_frac_nat_frac_nat_1_s_l1 (mult b K) (fun k_0 k_1 (q : Nat × (List Int × Int)) => if q.1 = 0 then m_frac_quotient_b1 k_0 k_1 q.2.1 q.2.2 else none) f ((i : Int) - 1) (0, (big a, (n : Int))) = some ((), (0, (big (gq b i a).1, ((n + (gq b i a).2 : Nat) : Int))))
  | 0, f, a, n, _, hf, _, _ => by
    obtain ⟨f, rfl⟩ : ∃ g, f = g + 1 := ⟨f - 1, by omega⟩
    rw [m_slices_Backward_frac_nat_frac_nat_1_s_l1]
    simp [gq]
  | i + 1, f, a, n, hi, hf, hla, hn => by
    obtain ⟨f, rfl⟩ : ∃ g, f = g + 1 := ⟨f - 1, by omega⟩
    have hlen := big_len_mul (n := b) (k := i)
    have hl1 : (big (b * 2 ^ i)).length < LN := by show _ < 2147483648; omega
    have hl2 : (big a).length < LN := by show _ < 2147483648; omega
    rw [Nat.pow_succ] at hn
    rw [m_slices_Backward_frac_nat_frac_nat_1_s_l1, show (((i + 1 : Nat) : Int) - 1) = (i : Int) by omega, mult_lat (by omega)]
    simp only [show decide (0 ≤ (i : Int)) = true by simp, if_true, Option.bind_some]
    have e3 : wi64 ((i : Int) - 1) = (i : Int) - 1 := wi ⟨by omega, by omega⟩
    rw [gq]
    by_cases hc : b * 2 ^ i ≤ a
    · have ho : ord ((b * 2 ^ i : Nat) : Int) a ≤ 0 := by unfold ord; split; decide; split; omega; decide
      have hpw : (2 : Nat) ^ i ≤ 2 ^ 33 := Nat.pow_le_pow_right (by omega) (by omega)
      have e1 : (1 : Int) * 2 ^ (min (Int.toNat (i : Int)) 64) = ((2 ^ i : Nat) : Int) := by
        rw [Int.one_mul, show min (Int.toNat (i : Int)) 64 = i by omega]; simp
      have hb1 : m_frac_quotient_b1 (i : Int) (big (b * 2 ^ i)) (big a) (n : Int) = some (true, (0, (big (a - b * 2 ^ i), ((n + 2 ^ i : Nat) : Int)))) := by
        unfold m_frac_quotient_b1
        rw [frac_compare hl1 hl2, Option.bind_some, if_pos (by simpa using ho), frac_minus hl2 hl1 hc, Option.bind_some, if_pos (show (0 : Int) ≤ (i : Int) by omega), e1, wi (p := ((2 ^ i : Nat) : Int)) ⟨by omega, by omega⟩, wi ⟨by omega, by omega⟩, show (n : Int) + ((2 ^ i : Nat) : Int) = ((n + 2 ^ i : Nat) : Int) by omega]
      rw [hb1, if_pos hc]
      simp only [Option.bind_some, Bool.not_true, Bool.false_eq_true, if_false]
      rw [e3, quo_back hK hlb i f (a - b * 2 ^ i) (n + 2 ^ i) (by omega) (by omega) (Nat.lt_of_le_of_lt (len_le (by omega)) hla) (by omega)]
      congr 4
      omega
    · have ho : ¬ ord ((b * 2 ^ i : Nat) : Int) a ≤ 0 := by unfold ord; rw [if_neg (by omega), if_pos (by omega)]; decide
      have hb1 : m_frac_quotient_b1 (i : Int) (big (b * 2 ^ i)) (big a) (n : Int) = some (true, (0, (big a, (n : Int)))) := by
        unfold m_frac_quotient_b1
        rw [frac_compare hl1 hl2, Option.bind_some, if_neg (by simpa using ho)]
      rw [hb1, if_neg hc]
      simp only [Option.bind_some, Bool.not_true, Bool.false_eq_true, if_false]
      rw [e3]
      exact quo_back hK hlb i f a n (by omega) (by omega) hla (by omega)
theorem frac_quotient {a b : Nat} (hla : (big a).length < 1000000) (hlb : (big b).length < 1000000) (hb : 0 < b) (hd : b ∣ a) : ∃ n, m_frac_quotient (big a) (big b) = some (n, decide (a / b ≤ 2147483647)) ∧ (a / b ≤ 2147483647 → n = ((a / b : Nat) : Int)) := by
  unfold m_frac_quotient
  rw [wi ⟨by omega, by omega⟩]
  by_cases hlen : (big b).length + 1 < (big a).length
  · rw [if_pos (decide_eq_true (by omega))]
    have ha0 : a ≠ 0 := fun e => by subst e; rw [big_zero] at hlen; simp at hlen
    have h1 := big_len_ge ha0
    have h2 := (nv_bd (big_dg b)).2
    rw [big_nv] at h2
    have h3 := bp_le (show (big b).length + 1 ≤ (big a).length - 1 by omega)
    rw [bp_succ] at h3
    have h4 : 2147483648 ≤ a / b := by
      rw [Nat.le_div_iff_mul_le hb]
      omega
    exact ⟨0, by rw [decide_eq_false (by omega)], fun h => by omega⟩
  · rw [if_neg (by rw [decide_eq_false (by omega)]; decide)]
    have e0 : ([big b] : List (List Int)) = mult b 1 := by simp [mult]
    obtain ⟨K, k1, k2, k3, k4⟩ := quo_l1 hla hlb 32 fu 1 (by omega) (by omega) (by unfold fu; omega)
    rw [e0, k4]
    unfold m_frac_quotient_j1 m_slices_Backward_frac_nat_frac_nat m_slices_Backward_frac_nat_frac_nat_1_s
    have hpw : (2 : Nat) ^ K ≤ 2 ^ 33 := Nat.pow_le_pow_right (by omega) k2
    have hq := quo_back (b := b) k2 hlb K fu a 0 (by omega) (by unfold fu; omega) hla (by omega)
    rw [show ((0 : Nat) : Int) = 0 from rfl] at hq
    rw [Option.bind_some, mult_len, wi ⟨by omega, by omega⟩, Option.bind_some, hq, Option.bind_some]
    simp only [if_true, Nat.zero_add]
    obtain ⟨g1, g2, g3⟩ := gq_spec b K a
    obtain ⟨c, rfl⟩ := hd
    have hdiv : b * c / b = c := Nat.mul_div_cancel_left c hb
    rw [hdiv]
    have hz : (decide (((big (gq b K (b * c)).1).length : Int) = 0)) = decide ((gq b K (b * c)).1 = 0) := by
      congr 1
      apply propext
      rw [show (((big (gq b K (b * c)).1).length : Int) = 0) ↔ (big (gq b K (b * c)).1).length = 0 by omega, List.length_eq_zero_iff, big_nil]
    rw [hz]
    generalize (gq b K (b * c)).1 = r at g1 g3 ⊢
    generalize (gq b K (b * c)).2 = q at g1 g2 ⊢
    have hcase : b * c < b * 2 ^ K ∨ (K = 33 ∧ b * 2 ^ 33 ≤ b * c) := by
      rcases k3 with h | h
      · subst h; omega
      · have : b * 2 ^ (K - 1) ≤ b * 2 ^ K := Nat.mul_le_mul_left _ (Nat.pow_le_pow_right (by omega) (by omega))
        omega
    rcases hcase with h | ⟨rfl, h⟩
    · have hr := g3 h
      have hrz : r = 0 := by
        have hdv : b ∣ r := by
          have : b ∣ r + b * q := by rw [g1]; exact Nat.dvd_mul_right ..
          exact (Nat.dvd_add_left (Nat.dvd_mul_right b q)).1 this
        rcases Nat.eq_zero_or_pos r with h | h
        · exact h
        · have := Nat.le_of_dvd h hdv; omega
      subst hrz
      have hqc : q = c := Nat.eq_of_mul_eq_mul_left hb (by omega)
      subst hqc
      refine ⟨(q : Int), ?_, fun _ => rfl⟩
      simp
      omega
    · have hc : 2 ^ 33 ≤ c := Nat.le_of_mul_le_mul_left h hb
      have hr : r ≠ 0 := fun e => by
        subst e
        have : q = c := Nat.eq_of_mul_eq_mul_left hb (by omega)
        omega
      exact ⟨(q : Int), by simp [hr]; omega, fun h => by omega⟩

/-! ### Lowest terms -/
/-- The fraction a/b in lowest terms, or the error. -/
def lowS (a b : Nat) : GVal × Int := if a / Nat.gcd a b ≤ 2147483647 ∧ b / Nat.gcd a b ≤ 2147483647 then (⟨(a / Nat.gcd a b : Nat), (b / Nat.gcd a b : Nat)⟩, 0) else (⟨0, 0⟩, 3)
theorem frac_lowest {a b : Nat} (hla : (big a).length < 1000000) (hlb : (big b).length < 1000000) (hb : 0 < b) : m_frac_lowest (big a) (big b) = some (lowS a b) := by
  unfold m_frac_lowest lowS
  by_cases ha : a = 0
  · subst ha
    rw [big_zero]
    simp [Nat.div_self hb]
  · have hne : big a ≠ [] := fun e => ha (big_nil.1 e)
    have hg := Nat.gcd_pos_of_pos_right a hb
    have hlg : (big (Nat.gcd a b)).length < 1000000 := Nat.lt_of_le_of_lt (len_le (Nat.gcd_le_left b (by omega))) hla
    rw [if_neg (by simp; exact hne), frac_common hla hlb (by omega) hb, Option.bind_some]
    obtain ⟨n, h1, h2⟩ := frac_quotient hla hlg hg (Nat.gcd_dvd_left a b)
    obtain ⟨d, h3, h4⟩ := frac_quotient hlb hlg hg (Nat.gcd_dvd_right a b)
    rw [h1, Option.bind_some, h3, Option.bind_some]
    by_cases c1 : a / Nat.gcd a b ≤ 2147483647
    · by_cases c2 : b / Nat.gcd a b ≤ 2147483647
      · rw [h2 c1, h4 c2]; simp [c1, c2]
      · simp [c2]
    · simp [c1]
theorem gcd_quot {a b : Nat} (hb : 0 < b) : Nat.gcd (a / Nat.gcd a b) (b / Nat.gcd a b) = 1 ∧ 0 < b / Nat.gcd a b := by
  have hg := Nat.gcd_pos_of_pos_right a hb
  exact ⟨Nat.coprime_div_gcd_div_gcd hg, Nat.div_pos (Nat.gcd_le_right a hb) hg⟩
theorem lowS_congr {a b a' b' : Nat} (hb : 0 < b) (hb' : 0 < b') (h : a * b' = a' * b) : lowS a b = lowS a' b' := by
  obtain ⟨g1, g2⟩ := gcd_quot (a := a) hb
  obtain ⟨g3, g4⟩ := gcd_quot (a := a') hb'
  have d1 := Nat.div_mul_cancel (Nat.gcd_dvd_left a b)
  have d2 := Nat.div_mul_cancel (Nat.gcd_dvd_right a b)
  have d3 := Nat.div_mul_cancel (Nat.gcd_dvd_left a' b')
  have d4 := Nat.div_mul_cancel (Nat.gcd_dvd_right a' b')
  have hg := Nat.gcd_pos_of_pos_right a hb
  have hg' := Nat.gcd_pos_of_pos_right a' hb'
  unfold lowS
  generalize a / Nat.gcd a b = x at *
  generalize b / Nat.gcd a b = y at *
  generalize a' / Nat.gcd a' b' = x' at *
  generalize b' / Nat.gcd a' b' = y' at *
  generalize Nat.gcd a b = g at *
  generalize Nat.gcd a' b' = g' at *
  have key : x * y' = x' * y := by
    have : (g * g') * (x * y') = (g * g') * (x' * y) := by subst d1 d2 d3 d4; grind
    exact Nat.eq_of_mul_eq_mul_left (Nat.mul_pos hg hg') this
  obtain ⟨e1, e2⟩ := low_eq (x := x) (y := y) (p := x') (q := y') (by omega) (by omega) (by exact_mod_cast g1) (by exact_mod_cast g3) (by exact_mod_cast key)
  have e1 : x = x' := by omega
  have e2 : y = y' := by omega
  subst e1 e2
  rfl
/-- The same with a sign. -/
def lowZ (p : Int) (b : Nat) : GVal × Int := if p < 0 then (⟨-(lowS p.natAbs b).1.N, (lowS p.natAbs b).1.D⟩, (lowS p.natAbs b).2) else lowS p.natAbs b
theorem lowZ_congr {p p' : Int} {b b' : Nat} (hb : 0 < b) (hb' : 0 < b') (h : p * b' = p' * b) : lowZ p b = lowZ p' b' := by
  have h1 : p.natAbs * b' = p'.natAbs * b := by
    have := congrArg Int.natAbs h
    rw [Int.natAbs_mul, Int.natAbs_mul, Int.natAbs_natCast, Int.natAbs_natCast] at this
    exact this
  have hs : p < 0 ↔ p' < 0 := by
    constructor
    · intro hp
      rcases Int.lt_or_le p' 0 with h2 | h2
      · exact h2
      · have := Int.mul_neg_of_neg_of_pos hp (show (0 : Int) < b' by omega)
        have := Int.mul_nonneg h2 (show (0 : Int) ≤ b by omega)
        omega
    · intro hp
      rcases Int.lt_or_le p 0 with h2 | h2
      · exact h2
      · have := Int.mul_neg_of_neg_of_pos hp (show (0 : Int) < b by omega)
        have := Int.mul_nonneg h2 (show (0 : Int) ≤ b' by omega)
        omega
  unfold lowZ
  rw [lowS_congr hb hb' h1]
  by_cases hp : p < 0
  · rw [if_pos hp, if_pos (hs.1 hp)]
  · rw [if_neg hp, if_neg (fun h => hp (hs.2 h))]
theorem lowS_bd (a b : Nat) : -2147483647 ≤ (lowS a b).1.N ∧ (lowS a b).1.N ≤ 2147483647 := by
  unfold lowS
  generalize a / Nat.gcd a b = x
  generalize b / Nat.gcd a b = y
  split
  · simp only; omega
  · simp

/-! ### Sum -/
def toR (v : GVal) : Rat := Rat.divInt v.N v.D
def qsum : List GVal → Rat
  | [] => 0
  | v :: l => toR v + qsum l
def allOK (l : List GVal) : Bool := l.all frOK
theorem Sum_j2 {P N A : Nat} (h1 : (big P).length < 1000000) (h2 : (big N).length < 1000000) (h3 : (big A).length < 1000000) (hA : 0 < A) : m_frac_Sum_j2 (big P) (big N) (big A) = some (lowZ ((P : Int) - N) A) := by
  have l1 : (big P).length < LN := by show _ < 2147483648; omega
  have l2 : (big N).length < LN := by show _ < 2147483648; omega
  unfold m_frac_Sum_j2 lowZ
  rw [frac_compare l1 l2, Option.bind_some]
  by_cases h : P < N
  · have ho : ord (P : Int) N < 0 := by unfold ord; rw [if_pos (by omega)]; decide
    rw [if_pos (by simpa using ho), frac_minus l2 l1 (by omega), Option.bind_some, frac_lowest (Nat.lt_of_le_of_lt (len_le (by omega)) h2) h3 hA, Option.bind_some, if_pos (by omega), show ((P : Int) - N).natAbs = N - P by omega]
    have := lowS_bd (N - P) A
    rw [wi ⟨by omega, by omega⟩]
  · have ho : ¬ ord (P : Int) N < 0 := by unfold ord; rw [if_neg (by omega)]; split <;> decide
    rw [if_neg (by simpa using ho), frac_minus l1 l2 (by omega), Option.bind_some, frac_lowest (Nat.lt_of_le_of_lt (len_le (by omega)) h1) h3 hA, if_neg (by omega), show ((P : Int) - N).natAbs = P - N by omega]
    rfl
theorem qsum_step {v : GVal} {p n a rest by_ g : Nat} {m : Nat} (hv : 0 < v.D) (hg : (v.D.toNat / g) = by_) (h1 : g * by_ = v.D.toNat) (h2 : g * rest = a) (ha : 0 < a) (P N : Int) (hPN : P - N = ((p : Int) - n) * by_ + rest * v.N) : Rat.divInt (P - N) ((a * by_ : Nat) : Int) = Rat.divInt ((p : Int) - n) a + toR v := by
  have hby : 0 < by_ := Nat.pos_of_ne_zero fun e => by subst e; simp at h1; omega
  have hab : (a : Int) * (by_ : Int) ≠ 0 := Int.mul_ne_zero (by omega) (by omega)
  unfold toR
  rw [Rat.divInt_add_divInt _ _ (by omega) (by omega), Rat.divInt_eq_divInt_iff (by push_cast; exact hab) (Int.mul_ne_zero (by omega) (by omega)), hPN]
  have e1 : v.D = (g : Int) * by_ := by
    have h3 : v.D = ((v.D.toNat : Nat) : Int) := by omega
    rw [h3, ← h1]; push_cast; rfl
  have e2 : (a : Int) = (g : Int) * rest := by rw [← h2]; push_cast; rfl
  push_cast
  rw [e1, e2]
  grind
theorem Sum_run {l : List GVal} (hl : l.length ≤ 40) (hok : allOK l = true) : ∀ (f : Nat) (p n a i : Nat), i ≤ l.length → l.length - i < f → 0 < a → (p : Int) < bp (i + 1) → (n : Int) < bp (i + 1) → (a : Int) < bp (i + 1) →
    ∃ P N A : Nat, 0 < A ∧ m_frac_Sum_l1 l f (big p) (big n) (big a) i = some (lowZ ((P : Int) - N) A) ∧ Rat.divInt ((P : Int) - N) A = Rat.divInt ((p : Int) - n) a + qsum (l.drop i) := by
  intro f
  induction f with
  | zero => intro p n a i _ h; omega
  | succ f ih =>
    intro p n a i hi hf ha hp hn haa
    have lp := big_len_lt p _ hp
    have ln := big_len_lt n _ hn
    have la := big_len_lt a _ haa
    have lp' : (big p).length < LN := by show _ < 2147483648; omega
    have ln' : (big n).length < LN := by show _ < 2147483648; omega
    have la' : (big a).length < LN := by show _ < 2147483648; omega
    rw [m_frac_Sum_l1]
    by_cases h : i < l.length
    · have e0 : lat l (i : Int) = some l[i] := by unfold lat; rw [if_pos (by omega)]; simp [h]
      have hv : frOK l[i] = true := List.all_eq_true.1 hok _ (List.getElem_mem h)
      rw [e0, List.drop_eq_getElem_cons h]
      generalize l[i] = v at hv
      obtain ⟨a1, a2, a3, a4, a5⟩ := frOK_bd hv
      obtain ⟨d, hd⟩ : ∃ d : Nat, v.D = d := ⟨v.D.toNat, by omega⟩
      have hd0 : 0 < d := by omega
      have hg0 : 0 < Nat.gcd (a % d) d := Nat.gcd_pos_of_pos_right _ hd0
      have hgd : Nat.gcd (a % d) d ∣ d := Nat.gcd_dvd_right ..
      have hga : Nat.gcd (a % d) d ∣ a := (Nat.dvd_mod_iff hgd).1 (Nat.gcd_dvd_left ..)
      have hgle := Nat.le_of_dvd hd0 hgd
      have hmod : a % d < d := Nat.mod_lt _ hd0
      have hmag : (if v.N < 0 then -v.N else v.N) = (v.N.natAbs : Int) := by split <;> omega
      have hby : d / Nat.gcd (a % d) d ≤ d := Nat.div_le_self ..
      have hby0 : 0 < d / Nat.gcd (a % d) d := Nat.div_pos hgle hg0
      have k1 : Nat.gcd (a % d) d * (d / Nat.gcd (a % d) d) = d := Nat.mul_div_cancel' hgd
      have k2 : Nat.gcd (a % d) d * (a / Nat.gcd (a % d) d) = a := Nat.mul_div_cancel' hga
      have hr : a / Nat.gcd (a % d) d ≤ a := Nat.div_le_self ..
      simp only [show decide ((i : Int) < (l.length : Int)) = true by simp; exact h, if_true, Option.bind_some, hd]
      rw [wu32_id (x := (d : Int)) ⟨by omega, by omega⟩, frac_mod la' hd0 (by omega), Option.bind_some, wu (p := ((a % d : Nat) : Int)) ⟨by omega, by omega⟩, wu (p := (d : Int)) ⟨by omega, by omega⟩, frac_gcd (by omega) (by omega) (by omega), Option.bind_some]
      have eg : ((Int.gcd ((a % d : Nat) : Int) (d : Int) : Nat) : Int) = ((Nat.gcd (a % d) d : Nat) : Int) := by rw [Int.gcd_natCast_natCast]
      rw [eg]
      generalize Nat.gcd (a % d) d = g at *
      rw [if_pos (by omega), show Int.tdiv (d : Int) (g : Int) = ((d / g : Nat) : Int) by rw [Int.tdiv_eq_ediv_of_nonneg (by omega)]; rfl, wu (p := ((d / g : Nat) : Int)) ⟨by omega, by omega⟩, wu32_id (x := ((d / g : Nat) : Int)) ⟨by omega, by omega⟩, wu32_id (x := (g : Int)) ⟨by omega, by omega⟩]
      have lr : (big (a / g)).length < LN := Nat.lt_of_le_of_lt (len_le hr) la'
      simp only [Option.bind_some, frac_div la' hg0 (show g < 4294967296 by omega), frac_times lp' (show d / g < 4294967296 by omega), frac_times ln' (show d / g < 4294967296 by omega), frac_times la' (show d / g < 4294967296 by omega), frac_magnitude (n := v.N) ⟨by omega, by omega⟩, hmag]
      rw [wu32_id (x := ((v.N.natAbs : Nat) : Int)) ⟨by omega, by omega⟩, frac_times lr (show v.N.natAbs < 4294967296 by omega)]
      simp only [Option.bind_some]
      generalize d / g = by_ at *
      generalize a / g = rest at *
      -- bounds
      have bnd : ∀ x : Nat, (x : Int) < bp (i + 1) → ((x * by_ : Nat) : Int) < 2147483648 * bp (i + 1) := fun x hx => by
        have h1 : (x : Int) * by_ ≤ x * 2147483647 := Int.mul_le_mul_of_nonneg_left (by omega) (by omega)
        push_cast; omega
      have bterm : ((rest * v.N.natAbs : Nat) : Int) < 2147483648 * bp (i + 1) := by
        have h1 : (rest : Int) * (v.N.natAbs : Nat) ≤ rest * 2147483647 := Int.mul_le_mul_of_nonneg_left (by omega) (by omega)
        rw [Int.natCast_mul]; omega
      have bp' := bnd p hp
      have bn' := bnd n hn
      have ba' := bnd a haa
      have bpp := bp_pos (i + 1)
      have L : ∀ x : Nat, (x : Int) < 4294967296 * bp (i + 1) → (big x).length < LN := fun x hx => by
        have := big_len_lt x (i + 2) (by rw [bp_succ]; exact hx)
        show _ < 2147483648; omega
      have e2 : wi64 ((i : Int) + 1) = ((i + 1 : Nat) : Int) := by rw [wi ⟨by omega, by omega⟩]; omega
      by_cases hneg : v.N < 0
      · rw [if_pos (by simpa using hneg), frac_plus (L _ (by omega)) (L _ (by omega)), Option.bind_some]
        unfold m_frac_Sum_j3
        rw [e2]
        obtain ⟨P, N, A, q1, q2, q3⟩ := ih (p * by_) (n * by_ + rest * v.N.natAbs) (a * by_) (i + 1) (by omega) (by omega) (Nat.mul_pos ha hby0) (by rw [bp_succ]; omega) (by rw [bp_succ]; omega) (by rw [bp_succ]; omega)
        refine ⟨P, N, A, q1, q2, ?_⟩
        rw [q3, qsum, ← Rat.add_assoc]
        congr 1
        exact qsum_step (v := v) (p := p) (n := n) (a := a) (rest := rest) (by_ := by_) (g := g) (m := 0) (by omega) (by rw [hd, Int.toNat_natCast]; exact Nat.div_eq_of_eq_mul_right hg0 k1.symm) (by rw [hd]; simpa using k1) k2 ha _ _ (by
          have : ((v.N.natAbs : Nat) : Int) = -v.N := by omega
          push_cast
          rw [show ((v.N.natAbs : Nat) : Int) = -v.N by omega] at *
          grind)
      · rw [if_neg (by simpa using hneg), frac_plus (L _ (by omega)) (L _ (by omega)), Option.bind_some]
        unfold m_frac_Sum_j3
        rw [e2]
        obtain ⟨P, N, A, q1, q2, q3⟩ := ih (p * by_ + rest * v.N.natAbs) (n * by_) (a * by_) (i + 1) (by omega) (by omega) (Nat.mul_pos ha hby0) (by rw [bp_succ]; omega) (by rw [bp_succ]; omega) (by rw [bp_succ]; omega)
        refine ⟨P, N, A, q1, q2, ?_⟩
        rw [q3, qsum, ← Rat.add_assoc]
        congr 1
        exact qsum_step (v := v) (p := p) (n := n) (a := a) (rest := rest) (by_ := by_) (g := g) (m := 0) (by omega) (by rw [hd, Int.toNat_natCast]; exact Nat.div_eq_of_eq_mul_right hg0 k1.symm) (by rw [hd]; simpa using k1) k2 ha _ _ (by
          push_cast
          rw [show ((v.N.natAbs : Nat) : Int) = v.N by omega] at *
          grind)
    · have e : l.drop i = [] := List.drop_eq_nil_of_le (by omega)
      simp only [show decide ((i : Int) < (l.length : Int)) = false by simp; omega, Bool.false_eq_true, if_false]
      refine ⟨p, n, a, ha, Sum_j2 (by omega) (by omega) (by omega) ha, ?_⟩
      rw [e, qsum, Rat.add_zero]
theorem Sum_valid {l : List GVal} (hl : l.length ≤ 40) (hR : ∀ v ∈ l, VaR v) : ∀ (f i : Nat), i ≤ l.length → l.length - i < f → m_frac_Sum_l2 l f i = if (l.drop i).all frOK = true then m_frac_Sum_j1 l else some (⟨0, 0⟩, 1)
  | 0, _, _, h => absurd h (by omega)
  | f + 1, i, hi, hf => by
    rw [m_frac_Sum_l2]
    by_cases h : i < l.length
    · have e0 : lat l (i : Int) = some l[i] := by unfold lat; rw [if_pos (by omega)]; simp [h]
      have hv := hR l[i] (List.getElem_mem h)
      rw [e0, List.drop_eq_getElem_cons h, List.all_cons]
      generalize l[i] = v at hv
      simp only [show decide ((i : Int) < (l.length : Int)) = true by simp; exact h, if_true, Option.bind_some, frac_Valid hv]
      rw [show wi64 ((i : Int) + 1) = ((i + 1 : Nat) : Int) by rw [wi ⟨by omega, by omega⟩]; omega, Sum_valid hl hR f (i + 1) (by omega) (by omega)]
      cases frOK v <;> simp
    · have e : l.drop i = [] := List.drop_eq_nil_of_le (by omega)
      simp only [show decide ((i : Int) < (l.length : Int)) = false by simp; omega, Bool.false_eq_true, if_false]
      rw [e]; simp
/-- What Sum gives: the exact sum in lowest terms, or an error. -/
theorem frac_Sum {l : List GVal} (hl : l.length ≤ 40) (hR : ∀ v ∈ l, VaR v) : (allOK l = false → m_frac_Sum l = some (⟨0, 0⟩, 1)) ∧ (allOK l = true → ∃ (p : Int) (b : Nat), 0 < b ∧ m_frac_Sum l = some (lowZ p b) ∧ Rat.divInt p b = qsum l) := by
  unfold m_frac_Sum
  have hv := Sum_valid hl hR fu 0 (by omega) (by unfold fu; omega)
  rw [show ((0 : Nat) : Int) = 0 from rfl, List.drop_zero] at hv
  rw [hv]
  constructor
  · intro h; unfold allOK at h; rw [h]; rfl
  · intro h
    have h' := h
    unfold allOK at h'
    rw [if_pos h']
    unfold m_frac_Sum_j1
    obtain ⟨P, N, A, q1, q2, q3⟩ := Sum_run hl h fu 0 0 1 0 (by omega) (by unfold fu; omega) (by decide) (by decide) (by decide) (by decide)
    rw [show ((0 : Nat) : Int) = 0 from rfl, big_zero, show big 1 = [1] by rw [big_pos (by decide), show 1 / 4294967296 = 0 from rfl, big_zero]; rfl] at q2
    refine ⟨(P : Int) - N, A, q1, q2, ?_⟩
    rw [q3, List.drop_zero]
    have : Rat.divInt (((0 : Nat) : Int) - ((0 : Nat) : Int)) ((1 : Nat) : Int) = 0 := by rw [show ((0 : Nat) : Int) - ((0 : Nat) : Int) = 0 by omega, Rat.zero_divInt]
    rw [this, Rat.zero_add]
end Go.Proofs.YtkmenmoiagkegaaDoor
