import Derived.Test.YtmhoikfoogemnaaGreatDoorSWa
namespace Go.Proofs.YtmhoikfoogemnaaGreatDoor
open Go Go.RowKit Go.Vc
set_option linter.unusedVariables false
set_option linter.unusedSimpArgs false
end Go.Proofs.YtmhoikfoogemnaaGreatDoor
namespace Go.Proofs.YtmhoikfoogemnaaGreatDoor
open Go Go.RowKit Go.Vc
set_option linter.unusedVariables false
set_option linter.unusedSimpArgs false
theorem and32_nat (x : Int) : ((BitVec.ofInt 64 x) &&& (BitVec.ofInt 64 4294967295)).toNat = (x % 4294967296).toNat := by
 rw [BitVec.toNat_and, BitVec.toNat_ofInt, BitVec.toNat_ofInt]
 rw [show ((4294967295 : Int) % ((2 ^ 64 : Nat) : Int)).toNat = 2 ^ 32 - 1 by decide, Nat.and_two_pow_sub_one_eq_mod]
 omega
theorem and32u (x : Int) : bits .and .u64 x 4294967295 = x % 4294967296 := by
 unfold bits
 simp only []
 show IntKind.u64.wrap (((BitVec.ofInt 64 x) &&& (BitVec.ofInt 64 4294967295)).toNat : Int) = _
 rw [and32_nat, Int.toNat_of_nonneg (by omega)]
 exact wu ⟨by omega, by omega⟩
abbrev U64 (x : Int) : Prop := 0 ≤ x ∧ x < 18446744073709551616
theorem wu_mod (x : Int) : wu64 x = x % 18446744073709551616 := by simp [wu64, IntKind.wrap, IntKind.signed, IntKind.bits]
theorem mag_ok {n : Int} (h : R64 n) : m_lin_magnitude n = some (n.natAbs : Int) := by
 obtain ⟨h1, h2⟩ := h
 unfold m_lin_magnitude
 by_cases c : n < 0
 ·rw [if_pos (by simpa using c), wu_mod, wu_mod]
  refine congrArg some ?_
  omega
 ·rw [if_neg (by simpa using c), wu_mod]
  refine congrArg some ?_
  omega
theorem product_ok {a b : Int} (ha : U64 a) (hb : U64 b) : ∃ hi lo, m_lin_product a b = some (hi, lo) ∧ U64 hi ∧ U64 lo ∧ hi * 18446744073709551616 + lo = a * b := by
 obtain ⟨a0, a1, ea, q1, q2, q3, q4⟩ : ∃ a0 a1, a = a1 * 4294967296 + a0 ∧ 0 ≤ a0 ∧ a0 < 4294967296 ∧ 0 ≤ a1 ∧ a1 < 4294967296 := ⟨a % 4294967296, a / 4294967296, by omega, by omega, by omega, by omega, by omega⟩
 obtain ⟨b0, b1, eb, r1, r2, r3, r4⟩ : ∃ b0 b1, b = b1 * 4294967296 + b0 ∧ 0 ≤ b0 ∧ b0 < 4294967296 ∧ 0 ≤ b1 ∧ b1 < 4294967296 := ⟨b % 4294967296, b / 4294967296, by omega, by omega, by omega, by omega, by omega⟩
 have f1 : Int.fdiv a (2 ^ 32) = a1 := by rw [Int.fdiv_eq_ediv_of_nonneg _ (by decide), show (2 : Int) ^ 32 = 4294967296 from rfl]; omega
 have f2 : Int.fdiv b (2 ^ 32) = b1 := by rw [Int.fdiv_eq_ediv_of_nonneg _ (by decide), show (2 : Int) ^ 32 = 4294967296 from rfl]; omega
 have bd : ∀ {x y : Int}, 0 ≤ x → x < 4294967296 → 0 ≤ y → y < 4294967296 → 0 ≤ x * y ∧ x * y ≤ 18446744065119617025 := fun {x y} hx hx' hy hy' => by
  refine ⟨Int.mul_nonneg hx hy, ?_⟩
  have := Int.mul_le_mul (show x ≤ 4294967295 by omega) (show y ≤ 4294967295 by omega) hy (by omega)
  omega
 obtain ⟨p00, e00⟩ : ∃ p, p = a0 * b0 := ⟨_, rfl⟩
 obtain ⟨p01, e01⟩ : ∃ p, p = a0 * b1 := ⟨_, rfl⟩
 obtain ⟨p10, e10⟩ : ∃ p, p = a1 * b0 := ⟨_, rfl⟩
 obtain ⟨p11, e11⟩ : ∃ p, p = a1 * b1 := ⟨_, rfl⟩
 obtain ⟨g1, g2⟩ := bd q1 q2 r1 r2
 obtain ⟨g3, g4⟩ := bd q1 q2 r3 r4
 obtain ⟨g5, g6⟩ := bd q3 q4 r1 r2
 obtain ⟨g7, g8⟩ := bd q3 q4 r3 r4
 rw [← e00] at g1 g2
 rw [← e01] at g3 g4
 rw [← e10] at g5 g6
 rw [← e11] at g7 g8
 have eab : a * b = p11 * 18446744073709551616 + (p10 + p01) * 4294967296 + p00 := by rw [ea, eb, e00, e01, e10, e11]; grind
 have fd : ∀ x : Int, Int.fdiv x (2 ^ 32) = x / 4294967296 := fun x => by rw [Int.fdiv_eq_ediv_of_nonneg _ (by decide)]; rfl
 unfold m_lin_product
 rw [and32u, and32u, show a % 4294967296 = a0 by omega, show b % 4294967296 = b0 by omega, f1, f2, ← e00, ← e01, ← e10, ← e11]
 simp only [Option.bind_some, wu_mod, fd, and32u]
 refine ⟨_, _, rfl, ⟨by omega, by omega⟩, ⟨by omega, by omega⟩, ?_⟩
 rw [eab]
 omega
end Go.Proofs.YtmhoikfoogemnaaGreatDoor
namespace Go.Proofs.YtmhoikfoogemnaaGreatDoor
open Go Go.RowKit Go.Vc
set_option linter.unusedVariables false
set_option linter.unusedSimpArgs false
def esum (v : List UInt8 → Int) : List GMono → Int
 | [] => 0
 | m :: l => m.By * v m.Name + esum v l
def ev (v : List UInt8 → Int) (l : GLin) : Int := l.K + esum v l.L
structure Wf (l : GLin) : Prop where
 k : R64 l.K
 b : ∀ m ∈ l.L, R64 m.By
 len : l.L.length ≤ 4294967296
theorem mulR_bd {x y : Int} (hx : R64 x) (hy : R64 y) : -85070591730234615865843651857942052864 ≤ x * y ∧ x * y ≤ 85070591730234615865843651857942052864 ∧ (x.natAbs : Int) * (y.natAbs : Int) ≤ 85070591730234615865843651857942052864 := by
 have h1 : x.natAbs ≤ 9223372036854775808 := by have := hx.1; have := hx.2; omega
 have h2 : y.natAbs ≤ 9223372036854775808 := by have := hy.1; have := hy.2; omega
 have h3 := Nat.mul_le_mul h1 h2
 have h4 : (x * y).natAbs = x.natAbs * y.natAbs := Int.natAbs_mul x y
 have h5 : ((x.natAbs : Int) * (y.natAbs : Int)) = ((x.natAbs * y.natAbs : Nat) : Int) := (Int.natCast_mul _ _).symm
 rw [h5]
 generalize x.natAbs * y.natAbs = q at *
 omega
theorem sgn_mul (x y : Int) : x * y = if (decide (x < 0) != decide (y < 0)) = true then -((x.natAbs : Int) * (y.natAbs : Int)) else (x.natAbs : Int) * (y.natAbs : Int) := by
 by_cases h1 : x < 0 <;> by_cases h2 : y < 0
 ·rw [if_neg (by simp [h1, h2]), show (x.natAbs : Int) = -x by omega, show (y.natAbs : Int) = -y by omega, Int.neg_mul_neg]
 ·rw [if_pos (by simp [h1, h2]), show (x.natAbs : Int) = -x by omega, show (y.natAbs : Int) = y by omega, Int.neg_mul, Int.neg_neg]
 ·rw [if_pos (by simp [h1, h2]), show (x.natAbs : Int) = x by omega, show (y.natAbs : Int) = -y by omega, Int.mul_neg, Int.neg_neg]
 ·rw [if_neg (by simp [h1, h2]), show (x.natAbs : Int) = x by omega, show (y.natAbs : Int) = y by omega]
end Go.Proofs.YtmhoikfoogemnaaGreatDoor
namespace Go.Proofs.YtmhoikfoogemnaaGreatDoor
open Go Go.RowKit Go.Vc
set_option linter.unusedVariables false
set_option linter.unusedSimpArgs false
end Go.Proofs.YtmhoikfoogemnaaGreatDoor
