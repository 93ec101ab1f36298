import Derived.Test.YtebpdmfmknfkjaaGreatDoorSOp
import Derived.KernelRfl
namespace Go.Proofs.YtebpdmfmknfkjaaGreatDoor
open Go Go.RowKit Go.Vc
set_option linter.unusedVariables false
set_option linter.unusedSimpArgs false
def pw (n : Int) : Int := 2 ^ n.toNat
theorem pw_bd {n : Int} (h : n ≤ 30) : 1 ≤ pw n ∧ pw n ≤ 1073741824 := by
 unfold pw
 have h1 : n.toNat ≤ 30 := by omega
 have h2 : (2 : Nat) ^ n.toNat ≤ 2 ^ 30 := Nat.pow_le_pow_right (by omega) h1
 have h3 : 1 ≤ (2 : Nat) ^ n.toNat := Nat.one_le_two_pow
 have e : ((2 : Int) ^ n.toNat) = ((2 ^ n.toNat : Nat) : Int) := by simp
 rw [e]
 omega
theorem pw_sh' {n : Int} (h0 : 0 ≤ n) (h : n ≤ 30) : (2 : Int) ^ (min (Int.toNat n) 64) = pw n := by
 unfold pw
 congr 1
 omega
structure VaR (v : GVal) : Prop where
 N : R64 v.N
 D : R64 v.D
theorem okI_R {n : Int} (h : okI .i64 n) : R64 n := wf_int h
theorem VaR.of {v : GVal} (h : okGVal v) : VaR v := ⟨okI_R h.1, okI_R h.2⟩
def tyB (t : GType) : Bool :=
 if t.Kind = 1 ∨ t.Kind = 3 then decide (t.Bits = 0 ∧ t.Frac = 0 ∧ t.Round = 0 ∧ t.Over = 0)
 else decide (t.Kind = 2 ∧ 2 ≤ t.Bits ∧ t.Bits ≤ 31 ∧ 0 ≤ t.Frac ∧ t.Frac ≤ 30 ∧ 1 ≤ t.Round ∧ t.Round ≤ 4 ∧ (t.Over = 1 ∨ t.Over = 2))
theorem base_Type (t : GType) : m_base_Type t = some (tyB t) := by
 unfold m_base_Type tyB
 by_cases h1 : t.Kind = 1
 ·simp [h1]; try simp only [Bool.decide_and, Bool.and_assoc]
 by_cases h3 : t.Kind = 3
 ·simp [h3]; try simp only [Bool.decide_and, Bool.and_assoc]
 simp [h1, h3, Bool.and_assoc]
theorem value_plain (t : GType) : m_value_plain t = some (decide (t.Bits = 0 ∧ t.Frac = 0 ∧ t.Round = 0 ∧ t.Over = 0)) := by
 unfold m_value_plain
 simp [Bool.and_assoc]
theorem fixed_ValidateType (t : GType) : m_fixed_ValidateType t = some (if t.Kind = 2 ∧ tyB t = true then 0 else 10) := by
 unfold m_fixed_ValidateType tyB
 simp only [Option.bind_some]
 by_cases h2 : t.Kind = 2
 ·simp only [h2]
  by_cases h : 2 ≤ t.Bits ∧ t.Bits ≤ 31 ∧ 0 ≤ t.Frac ∧ t.Frac ≤ 30 ∧ 1 ≤ t.Round ∧ t.Round ≤ 4 ∧ (t.Over = 1 ∨ t.Over = 2)
  ·obtain ⟨a, b, c, d, e, f, g⟩ := h
   simp [a, b, c, d, e, f, g, Int.not_lt.2 a, Int.not_lt.2 b, Int.not_lt.2 c, Int.not_lt.2 d]
   omega
  ·rw [if_pos, if_neg]
   ·simpa using h
   ·simp only [Bool.or_eq_true, Bool.and_eq_true, decide_eq_true_eq, Bool.not_eq_true', decide_eq_false_iff_not, Bool.and_eq_false_iff, Bool.or_eq_false_iff]
    omega
 ·simp [h2]
theorem value_ValidateType (t : GType) : m_value_ValidateType t = some (if tyB t = true then 0 else 10) := by
 unfold m_value_ValidateType m_value_ValidateType_j1
 simp only [value_plain, fixed_ValidateType, Option.bind_some]
 unfold tyB
 by_cases h1 : t.Kind = 1
 ·simp [h1]; split <;> simp_all
 by_cases h3 : t.Kind = 3
 ·simp [h3]; split <;> simp_all
 by_cases h2 : t.Kind = 2
 ·simp [h2, h1, h3]; split <;> simp_all
 ·simp [h1, h2, h3]
theorem tyB_fix {t : GType} (h : tyB t = true) (h2 : t.Kind = 2) : 2 ≤ t.Bits ∧ t.Bits ≤ 31 ∧ 0 ≤ t.Frac ∧ t.Frac ≤ 30 ∧ 1 ≤ t.Round ∧ t.Round ≤ 4 ∧ (t.Over = 1 ∨ t.Over = 2) := by
 unfold tyB at h
 simpa [h2] using h
theorem tyB_kind {t : GType} (h : tyB t = true) : t.Kind = 1 ∨ t.Kind = 2 ∨ t.Kind = 3 := by
 unfold tyB at h
 split at h
 ·omega
 ·simp at h; omega
theorem gcd_l1 (m : Nat → Int → Int → Option Int) (hm : ∀ f a b, m (f + 1) a b = if (!decide (b = 0)) = true then (if b ≠ 0 then m f b (Int.tmod a b) else none) else some a) :
  ∀ (f : Nat) (a b : Int), 0 ≤ a → 0 ≤ b → b.toNat < f → m f a b = some (Int.gcd a b)
 | 0, _, _, _, _, h => absurd h (by omega)
 | f + 1, a, b, ha, hb, hf => by
  rw [hm]
  by_cases h : b = 0
  ·subst h
   simp
   omega
  ·have h1 : 0 < b := by omega
   have h2 : Int.tmod a b = a % b := Int.tmod_eq_emod_of_nonneg ha
   have h3 : 0 ≤ a % b := Int.emod_nonneg _ h
   have h4 : a % b < b := Int.emod_lt_of_pos _ h1
   simp only [h, decide_false, Bool.not_false, if_true, ne_eq, not_false_eq_true]
   rw [h2, gcd_l1 m hm f b (a % b) hb h3 (by omega)]
   congr 1
   have e : Int.gcd b (a % b) = Int.gcd a b := by
    obtain ⟨m, rfl⟩ := Int.eq_ofNat_of_zero_le ha
    obtain ⟨k, rfl⟩ := Int.eq_ofNat_of_zero_le hb
    show Nat.gcd k ((m : Int) % (k : Int)).natAbs = Nat.gcd m k
    rw [show ((m : Int) % (k : Int)) = ((m % k : Nat) : Int) from rfl, Int.natAbs_natCast, Nat.gcd_comm m k, Nat.gcd_rec k m, Nat.gcd_comm]
   rw [e]
theorem base_gcd {a b : Int} (ha : 0 ≤ a) (hb : 0 ≤ b) (h : b ≤ 18446744073709551615) : m_base_gcd a b = some (Int.gcd a b : Int) :=
 gcd_l1 m_base_gcd_l1 (fun _ _ _ => rfl) fu a b ha hb (by unfold fu; omega)
theorem frac_gcd {a b : Int} (ha : 0 ≤ a) (hb : 0 ≤ b) (h : b ≤ 18446744073709551615) : m_frac_gcd a b = some (Int.gcd a b : Int) :=
 gcd_l1 m_frac_gcd_l1 (fun _ _ _ => rfl) fu a b ha hb (by unfold fu; omega)
def frOK (v : GVal) : Bool := decide (1 ≤ v.D ∧ v.D ≤ 2147483647 ∧ -2147483647 ≤ v.N ∧ v.N ≤ 2147483647 ∧ Int.gcd v.N v.D = 1)
def okV (t : GType) (v : GVal) : Bool :=
 if t.Kind = 2 then decide (v.D = 1 ∧ -pw (t.Bits - 1) ≤ v.N ∧ v.N < pw (t.Bits - 1))
 else if t.Kind = 3 then decide (v.D = 1 ∧ -2147483647 ≤ v.N ∧ v.N ≤ 2147483647)
 else frOK v
theorem wi {p : Int} (h : R64 p) : wi64 p = p := wr_i64 h
theorem wu {p : Int} (h : RU64 p) : wu64 p = p := wr_u64 h
theorem abs_gcd (n d : Int) : Int.gcd (if n < 0 then -n else n) d = Int.gcd n d := by
 split
 ·rw [Int.neg_gcd]
 ·rfl
theorem frac_magnitude {n : Int} (h : R64 n) : m_frac_magnitude n = some (if n < 0 then -n else n) := by
 obtain ⟨h1, h2⟩ := h
 unfold m_frac_magnitude
 by_cases hn : n < 0
 ·simp only [hn, decide_true, if_true]
  congr 1
  simp [IntKind.wrap, IntKind.signed, IntKind.bits]
  omega
 ·simp only [hn, decide_false, Bool.false_eq_true, if_false]
  rw [wu ⟨by omega, by omega⟩]
theorem frac_Valid {v : GVal} (h : VaR v) : m_frac_Valid v = some (frOK v) := by
 unfold m_frac_Valid frOK
 by_cases hd : 1 ≤ v.D ∧ v.D ≤ 2147483647
 ·by_cases hn : -2147483647 ≤ v.N ∧ v.N ≤ 2147483647
  ·simp only [m_frac_inRange, gd, hd.1, hd.2, hn.1, hn.2, decide_true, Bool.and_self, if_true, Option.bind_some]
   rw [frac_magnitude h.N, Option.bind_some, wu ⟨by omega, by omega⟩, frac_gcd (by split <;> omega) (by omega) (by omega), Option.bind_some, abs_gcd]
   simp
   omega
  ·have e : (decide (-2147483647 ≤ v.N) && decide (v.N ≤ 2147483647)) = false := by simpa [Int.not_le] using hn
   simp [m_frac_inRange, gd, hd.1, hd.2]
   have hn' : ¬ (-2147483647 ≤ v.N ∧ v.N ≤ 2147483647) := hn
   simp only [Bool.and_eq_true, decide_eq_true_eq, hn', if_false, Option.bind_some]
   simp
   intro h1 h2
   exact absurd ⟨h1, h2⟩ hn'
 ·have e : (decide (1 ≤ v.D) && decide (v.D ≤ 2147483647)) = false := by simpa [Int.not_le] using hd
  simp only [gd, e, Bool.false_and, Bool.false_eq_true, if_false, Option.bind_some]
  simp
  intro h1 h2
  exact absurd ⟨h1, h2⟩ hd
theorem base_Val {t : GType} {v : GVal} (ht : tyB t = true) (h : VaR v) : m_base_Val t v = some (okV t v) := by
 unfold m_base_Val okV
 obtain ⟨n1, n2⟩ := h.N
 obtain ⟨d1, d2⟩ := h.D
 by_cases h2 : t.Kind = 2
 ·obtain ⟨a, b, c, d, e, f, g⟩ := tyB_fix ht h2
  have hb : wi64 (t.Bits - 1) = t.Bits - 1 := wi ⟨by omega, by omega⟩
  have hp := pw_bd (n := t.Bits - 1) (by omega)
  simp only [h2, decide_true, if_true, hb, show (0 : Int) ≤ t.Bits - 1 by omega, pw_sh' (n := t.Bits - 1) (by omega) (by omega), Int.one_mul]
  rw [wi (p := pw (t.Bits - 1)) ⟨by omega, by omega⟩, Option.bind_some, wi ⟨by omega, by omega⟩]
  simp [Bool.and_assoc]
 ·simp only [h2, decide_false, Bool.false_eq_true, if_false]
  by_cases hr : 1 ≤ v.D ∧ v.D ≤ 2147483647 ∧ -2147483647 ≤ v.N ∧ v.N ≤ 2147483647
  ·obtain ⟨r1, r2, r3, r4⟩ := hr
   rw [if_neg (by simp; omega)]
   by_cases h3 : t.Kind = 3
   ·simp [h3, r3, r4]
   ·simp only [h3, decide_false, Bool.false_eq_true, if_false]
    have hm : max v.N (wi64 (-v.N)) = if v.N < 0 then -v.N else v.N := by rw [wi ⟨by omega, by omega⟩]; split <;> omega
    rw [hm, base_gcd (by split <;> omega) (by omega) (by omega), Option.bind_some, abs_gcd]
    simp [frOK, r1, r2, r3, r4]
    omega
  ·rw [if_pos (by simp; omega)]
   by_cases h3 : t.Kind = 3
   ·simp [h3]; omega
   ·simp [h3, frOK]; omega
theorem round_valid {b : Int} (h1 : 2 ≤ b) (h2 : b ≤ 31) : m_round_valid b = some true := by
 unfold m_round_valid; simp [h1, h2]
theorem round_MinInt {b : Int} (h1 : 2 ≤ b) (h2 : b ≤ 31) : m_round_MinInt b = some (-pw (b - 1)) := by
 unfold m_round_MinInt
 have hb : wi64 (b - 1) = b - 1 := wi ⟨by omega, by omega⟩
 have hp := pw_bd (n := b - 1) (by omega)
 rw [round_valid h1 h2, hb, wu (p := b - 1) ⟨by omega, by omega⟩, pw_sh' (by omega) (by omega)]
 simp only [Option.bind_some, Bool.not_true, Bool.false_eq_true, if_false, Int.one_mul]
 rw [if_pos (by omega), wi (p := pw (b - 1)) ⟨by omega, by omega⟩, wi ⟨by omega, by omega⟩]
theorem round_MaxInt {b : Int} (h1 : 2 ≤ b) (h2 : b ≤ 31) : m_round_MaxInt b = some (pw (b - 1) - 1) := by
 unfold m_round_MaxInt
 have hb : wi64 (b - 1) = b - 1 := wi ⟨by omega, by omega⟩
 have hp := pw_bd (n := b - 1) (by omega)
 rw [round_valid h1 h2, hb, wu (p := b - 1) ⟨by omega, by omega⟩, pw_sh' (by omega) (by omega)]
 simp only [Option.bind_some, Bool.not_true, Bool.false_eq_true, if_false, Int.one_mul]
 rw [if_pos (by omega), wi (p := pw (b - 1)) ⟨by omega, by omega⟩, wi ⟨by omega, by omega⟩]
theorem fixed_Valid {t : GType} (v : GVal) (ht : tyB t = true) (h2 : t.Kind = 2) : m_fixed_Valid t v = some (okV t v) := by
 obtain ⟨a, b, c, d, e, f, g⟩ := tyB_fix ht h2
 unfold m_fixed_Valid okV
 simp only [fixed_ValidateType, h2, ht, and_self, if_true, Option.bind_some, decide_true, Bool.true_and, round_MinInt a b, round_MaxInt a b]
 by_cases hd : v.D = 1
 ·simp only [hd, decide_true, gd, Bool.true_and, if_true, Option.bind_some]
  by_cases hn : -pw (t.Bits - 1) ≤ v.N
  ·simp only [hn, decide_true, if_true, Option.bind_some, Bool.true_and, true_and]
   simp; omega
  ·simp [hn]
 ·simp [hd, gd]
theorem value_Valid {t : GType} {v : GVal} (h : VaR v) : m_value_Valid t v = some (tyB t && okV t v) := by
 unfold m_value_Valid
 rw [value_ValidateType]
 cases ht : tyB t
 ·rfl
 ·simp only [if_true, Option.bind_some, decide_true, Bool.not_true, Bool.false_eq_true, if_false, Bool.true_and]
  by_cases h2 : t.Kind = 2
  ·simp [h2, fixed_Valid v ht h2]
  ·by_cases h3 : t.Kind = 3
   ·simp only [h2, h3, decide_false, decide_true, Bool.false_eq_true, if_false, if_true, m_value_whole, gd, okV]
    by_cases hd : v.D = 1
    ·simp [hd]
    ·simp [hd]
   ·simp only [h2, h3, decide_false, Bool.false_eq_true, if_false, frac_Valid h, Option.bind_some, okV]
theorem ref04_Valid {t : GType} {v : GVal} (h : VaR v) : m_ref04_Valid t v = some (tyB t && okV t v) := by
 unfold m_ref04_Valid
 rw [base_Type]
 cases ht : tyB t
 ·rfl
 ·simp only [Option.bind_some, gd, if_true, base_Val ht h, Bool.true_and]
end Go.Proofs.YtebpdmfmknfkjaaGreatDoor
