import Derived.Test.YtaokohndeepbjaaSWb
namespace Go.Proofs.Ytaokohndeepbjaa
open Go Go.RowKit Go.Vc
set_option linter.unusedVariables false
set_option linter.unusedSimpArgs false
theorem and32_nat (x : Int) : ((BitVec.ofInt 64 x) &&& (BitVec.ofInt 64 4294967295)).toNat = (x % 4294967296).toNat := by
 rw [BitVec.toNat_and, BitVec.toNat_ofInt, BitVec.toNat_ofInt]
 rw [show ((4294967295 : Int) % ((2 ^ 64 : Nat) : Int)).toNat = 2 ^ 32 - 1 by decide, Nat.and_two_pow_sub_one_eq_mod]
 omega
theorem and32u (x : Int) : bits .and .u64 x 4294967295 = x % 4294967296 := by
 unfold bits
 simp only []
 show IntKind.u64.wrap (((BitVec.ofInt 64 x) &&& (BitVec.ofInt 64 4294967295)).toNat : Int) = _
 rw [and32_nat, Int.toNat_of_nonneg (by omega)]
 exact wu ⟨by omega, by omega⟩
theorem xor_ones {h : Int} (h0 : 0 ≤ h) (h1 : h < 18446744073709551616) : bits .xor .u64 18446744073709551615 h = 18446744073709551615 - h := by
 unfold bits
 simp only []
 show IntKind.u64.wrap (((BitVec.ofInt 64 18446744073709551615) ^^^ (BitVec.ofInt 64 h)).toNat : Int) = _
 rw [show BitVec.ofInt 64 18446744073709551615 = BitVec.allOnes 64 from by decide, BitVec.allOnes_xor, BitVec.toNat_not, BitVec.toNat_ofInt]
 have e : (((2 ^ 64 - 1 - (h % ((2 ^ 64 : Nat) : Int)).toNat : Nat)) : Int) = 18446744073709551615 - h := by omega
 rw [e]
 exact wu ⟨by omega, by omega⟩
abbrev U64 (x : Int) : Prop := 0 ≤ x ∧ x < 18446744073709551616
theorem wu_mod (x : Int) : wu64 x = x % 18446744073709551616 := by simp [wu64, IntKind.wrap, IntKind.signed, IntKind.bits]
theorem mag_ok {n : Int} (h : R64 n) : m_lin_magnitude n = some (n.natAbs : Int) := by
 obtain ⟨h1, h2⟩ := h
 unfold m_lin_magnitude
 by_cases c : n < 0
 ·rw [if_pos (by simpa using c), wu_mod, wu_mod]
  refine congrArg some ?_
  omega
 ·rw [if_neg (by simpa using c), wu_mod]
  refine congrArg some ?_
  omega
theorem product_ok {a b : Int} (ha : U64 a) (hb : U64 b) : ∃ hi lo, m_lin_product a b = some (hi, lo) ∧ U64 hi ∧ U64 lo ∧ hi * 18446744073709551616 + lo = a * b := by
 obtain ⟨a0, a1, ea, q1, q2, q3, q4⟩ : ∃ a0 a1, a = a1 * 4294967296 + a0 ∧ 0 ≤ a0 ∧ a0 < 4294967296 ∧ 0 ≤ a1 ∧ a1 < 4294967296 := ⟨a % 4294967296, a / 4294967296, by omega, by omega, by omega, by omega, by omega⟩
 obtain ⟨b0, b1, eb, r1, r2, r3, r4⟩ : ∃ b0 b1, b = b1 * 4294967296 + b0 ∧ 0 ≤ b0 ∧ b0 < 4294967296 ∧ 0 ≤ b1 ∧ b1 < 4294967296 := ⟨b % 4294967296, b / 4294967296, by omega, by omega, by omega, by omega, by omega⟩
 have f1 : Int.fdiv a (2 ^ 32) = a1 := by rw [Int.fdiv_eq_ediv_of_nonneg _ (by decide), show (2 : Int) ^ 32 = 4294967296 from rfl]; omega
 have f2 : Int.fdiv b (2 ^ 32) = b1 := by rw [Int.fdiv_eq_ediv_of_nonneg _ (by decide), show (2 : Int) ^ 32 = 4294967296 from rfl]; omega
 have bd : ∀ {x y : Int}, 0 ≤ x → x < 4294967296 → 0 ≤ y → y < 4294967296 → 0 ≤ x * y ∧ x * y ≤ 18446744065119617025 := fun {x y} hx hx' hy hy' => by
  refine ⟨Int.mul_nonneg hx hy, ?_⟩
  have := Int.mul_le_mul (show x ≤ 4294967295 by omega) (show y ≤ 4294967295 by omega) hy (by omega)
  omega
 obtain ⟨p00, e00⟩ : ∃ p, p = a0 * b0 := ⟨_, rfl⟩
 obtain ⟨p01, e01⟩ : ∃ p, p = a0 * b1 := ⟨_, rfl⟩
 obtain ⟨p10, e10⟩ : ∃ p, p = a1 * b0 := ⟨_, rfl⟩
 obtain ⟨p11, e11⟩ : ∃ p, p = a1 * b1 := ⟨_, rfl⟩
 obtain ⟨g1, g2⟩ := bd q1 q2 r1 r2
 obtain ⟨g3, g4⟩ := bd q1 q2 r3 r4
 obtain ⟨g5, g6⟩ := bd q3 q4 r1 r2
 obtain ⟨g7, g8⟩ := bd q3 q4 r3 r4
 rw [← e00] at g1 g2
 rw [← e01] at g3 g4
 rw [← e10] at g5 g6
 rw [← e11] at g7 g8
 have eab : a * b = p11 * 18446744073709551616 + (p10 + p01) * 4294967296 + p00 := by rw [ea, eb, e00, e01, e10, e11]; grind
 have fd : ∀ x : Int, Int.fdiv x (2 ^ 32) = x / 4294967296 := fun x => by rw [Int.fdiv_eq_ediv_of_nonneg _ (by decide)]; rfl
 unfold m_lin_product
 rw [and32u, and32u, show a % 4294967296 = a0 by omega, show b % 4294967296 = b0 by omega, f1, f2, ← e00, ← e01, ← e10, ← e11]
 simp only [Option.bind_some, wu_mod, fd, and32u]
 refine ⟨_, _, rfl, ⟨by omega, by omega⟩, ⟨by omega, by omega⟩, ?_⟩
 rw [eab]
 omega
def okW (w : Glin_wide) : Prop := U64 w.high ∧ U64 w.mid ∧ U64 w.low
def Wv (w : Glin_wide) : Int := w.high * 340282366920938463463374607431768211456 + w.mid * 18446744073709551616 + w.low
theorem add_j1 (w : Glin_wide) (hw : okW w) (hi lo top : Int) (h1 : U64 hi) (h2 : U64 lo) (h3 : U64 top) :
  ∃ w', m_lin_wide_add_w_j1 w hi lo top = some ((), w') ∧ okW w' ∧ ∃ k, Wv w' = Wv w + (top * 340282366920938463463374607431768211456 + hi * 18446744073709551616 + lo) + k * 6277101735386680763835789423207666416102355444464034512896 := by
 obtain ⟨H, M, L⟩ := w
 obtain ⟨⟨a1, a2⟩, ⟨b1, b2⟩, c1, c2⟩ := hw
 obtain ⟨d1, d2⟩ := h1
 obtain ⟨f1, f2⟩ := h2
 obtain ⟨g1, g2⟩ := h3
 dsimp only at a1 a2 b1 b2 c1 c2
 have key : ∀ (carry over : Int), (carry = if L + lo < 18446744073709551616 then 0 else 1) → (over = (if M + hi < 18446744073709551616 then 0 else 1) + (if (M + hi) % 18446744073709551616 + carry < 18446744073709551616 then 0 else 1)) →
   ∃ w', m_lin_wide_add_w_j4 ⟨H, M, L⟩ top hi carry lo over = some ((), w') ∧ okW w' ∧ ∃ k, Wv w' = Wv ⟨H, M, L⟩ + (top * 340282366920938463463374607431768211456 + hi * 18446744073709551616 + lo) + k * 6277101735386680763835789423207666416102355444464034512896 := by
  intro carry over hc ho
  unfold m_lin_wide_add_w_j4
  refine ⟨_, rfl, ⟨⟨?_, ?_⟩, ⟨?_, ?_⟩, ?_, ?_⟩, (if H + top + over < 18446744073709551616 then 0 else if H + top + over < 36893488147419103232 then -1 else -2), ?_⟩
  all_goals simp only [wu_mod, Wv]
  any_goals omega
 have l1 : ∀ {x y : Int}, 0 ≤ x → x < 18446744073709551616 → 0 ≤ y → y < 18446744073709551616 → (wu64 (x + y) < y ↔ ¬ x + y < 18446744073709551616) := fun {x y} _ _ _ _ => by rw [wu_mod]; omega
 have step3 : ∀ carry over1 : Int, (carry = if L + lo < 18446744073709551616 then 0 else 1) → (over1 = if M + hi < 18446744073709551616 then 0 else 1) →
   ∃ w', m_lin_wide_add_w_j3 ⟨H, M, L⟩ hi carry top lo over1 = some ((), w') ∧ okW w' ∧ ∃ k, Wv w' = Wv ⟨H, M, L⟩ + (top * 340282366920938463463374607431768211456 + hi * 18446744073709551616 + lo) + k * 6277101735386680763835789423207666416102355444464034512896 := by
  intro carry over1 hc ho
  unfold m_lin_wide_add_w_j3
  have hc01 : 0 ≤ carry ∧ carry ≤ 1 := by split at hc <;> omega
  have hlt : (wu64 ((wu64 (M + hi)) + carry) < wu64 (M + hi)) ↔ ¬ (M + hi) % 18446744073709551616 + carry < 18446744073709551616 := by simp only [wu_mod]; omega
  by_cases c : (M + hi) % 18446744073709551616 + carry < 18446744073709551616
  ·rw [if_neg (by simpa using fun h => hlt.1 h c)]
   exact key _ _ hc (by rw [if_pos c, ← ho]; omega)
  ·rw [if_pos (by simpa using hlt.2 c)]
   refine key _ _ hc ?_
   rw [if_neg c, ← ho, wu_mod]
   have : 0 ≤ over1 ∧ over1 ≤ 1 := by split at ho <;> omega
   omega
 have step2 : ∀ carry : Int, (carry = if L + lo < 18446744073709551616 then 0 else 1) →
   ∃ w', m_lin_wide_add_w_j2 ⟨H, M, L⟩ hi top lo carry = some ((), w') ∧ okW w' ∧ ∃ k, Wv w' = Wv ⟨H, M, L⟩ + (top * 340282366920938463463374607431768211456 + hi * 18446744073709551616 + lo) + k * 6277101735386680763835789423207666416102355444464034512896 := by
  intro carry hc
  unfold m_lin_wide_add_w_j2
  have hl := l1 b1 b2 d1 d2
  by_cases c : M + hi < 18446744073709551616
  ·rw [if_neg (by simpa using fun h => hl.1 h c)]; exact step3 _ _ hc (by rw [if_pos c])
  ·rw [if_pos (by simpa using hl.2 c)]; exact step3 _ _ hc (by rw [if_neg c])
 unfold m_lin_wide_add_w_j1
 have hl := l1 c1 c2 f1 f2
 by_cases c : L + lo < 18446744073709551616
 ·rw [if_neg (by simpa using fun h => hl.1 h c)]; exact step2 _ (by rw [if_pos c])
 ·rw [if_pos (by simpa using hl.2 c)]; exact step2 _ (by rw [if_neg c])
theorem add_ok (w : Glin_wide) (hw : okW w) (hi lo : Int) (neg : Bool) (h1 : U64 hi) (h2 : U64 lo) :
  ∃ w', m_lin_wide_add_w w hi lo neg = some ((), w') ∧ okW w' ∧ ∃ k, Wv w' = Wv w + (if neg = true then -(hi * 18446744073709551616 + lo) else hi * 18446744073709551616 + lo) + k * 6277101735386680763835789423207666416102355444464034512896 := by
 obtain ⟨d1, d2⟩ := h1
 obtain ⟨f1, f2⟩ := h2
 unfold m_lin_wide_add_w
 cases neg with
 | false =>
  rw [if_neg (by simp), if_neg (by simp)]
  obtain ⟨w', e1, e2, k, e3⟩ := add_j1 w hw hi lo 0 ⟨d1, d2⟩ ⟨f1, f2⟩ ⟨by omega, by omega⟩
  exact ⟨w', e1, e2, k, by rw [e3]; omega⟩
 | true =>
  rw [if_pos rfl, if_pos rfl, xor_ones (by omega) (by omega), xor_ones d1 d2, xor_ones f1 f2]
  simp only [Option.bind_some]
  by_cases c1 : lo = 0
  ·rw [if_pos (by rw [c1]; rfl)]
   by_cases c2 : hi = 0
   ·rw [if_pos (by rw [c2]; rfl), c1, c2]
    obtain ⟨w', e1, e2, k, e3⟩ := add_j1 w hw (wu64 (18446744073709551615 - 0 + 1)) (wu64 (18446744073709551615 - 0 + 1)) (wu64 (18446744073709551615 - 0 + 1)) (by decide) (by decide) (by decide)
    refine ⟨w', e1, e2, k, ?_⟩
    rw [e3, show wu64 (18446744073709551615 - 0 + 1) = 0 from rfl]; omega
   ·have n2 : ¬ wu64 (18446744073709551615 - hi + 1) = 0 := by rw [wu_mod]; omega
    rw [if_neg (by simpa using n2), c1]
    have g1 : wu64 (18446744073709551615 - hi + 1) = 18446744073709551616 - hi := by rw [wu_mod]; omega
    rw [g1]
    obtain ⟨w', e1, e2, k, e3⟩ := add_j1 w hw (18446744073709551616 - hi) (wu64 (18446744073709551615 - 0 + 1)) (18446744073709551615 - 0) ⟨by omega, by omega⟩ (by decide) (by decide)
    refine ⟨w', e1, e2, k + 1, ?_⟩
    rw [e3, show wu64 (18446744073709551615 - 0 + 1) = 0 from rfl]; omega
  ·have n1 : ¬ wu64 (18446744073709551615 - lo + 1) = 0 := by rw [wu_mod]; omega
   have g1 : wu64 (18446744073709551615 - lo + 1) = 18446744073709551616 - lo := by rw [wu_mod]; omega
   rw [if_neg (by simpa using n1), g1]
   obtain ⟨w', e1, e2, k, e3⟩ := add_j1 w hw (18446744073709551615 - hi) (18446744073709551616 - lo) (18446744073709551615 - 0) ⟨by omega, by omega⟩ ⟨by omega, by omega⟩ (by decide)
   refine ⟨w', e1, e2, k + 1, ?_⟩
   rw [e3]; omega
theorem narrow_ok (w : Glin_wide) (hw : okW w) (v : Int) (k : Int) (hv : Wv w = v + k * 6277101735386680763835789423207666416102355444464034512896) (h1 : -3138550867693340381917894711603833208051177722232017256448 ≤ v) (h2 : v < 3138550867693340381917894711603833208051177722232017256448) :
  ∃ n ok, m_lin_wide_narrow w = some (n, ok) ∧ (ok = true ↔ R64 v) ∧ (ok = true → n = v) := by
 obtain ⟨H, M, L⟩ := w
 obtain ⟨⟨a1, a2⟩, ⟨b1, b2⟩, c1, c2⟩ := hw
 dsimp only at a1 a2 b1 b2 c1 c2
 unfold Wv at hv
 dsimp only at hv
 unfold m_lin_wide_narrow
 simp only [Option.bind_some]
 have e1 : wi64 L = if L < 9223372036854775808 then L else L - 18446744073709551616 := by
  split
  ·exact wi ⟨by omega, by omega⟩
  ·exact wi_of (y := L - 18446744073709551616) (c := 1) ⟨by omega, by omega⟩ (by omega)
 have e2 : wu64 (Int.fdiv (wi64 L) (2 ^ 63)) = if L < 9223372036854775808 then 0 else 18446744073709551615 := by
  rw [e1, wu_mod, Int.fdiv_eq_ediv_of_nonneg _ (by decide), show (2 : Int) ^ 63 = 9223372036854775808 from rfl]
  split <;> omega
 rw [e2, e1]
 refine ⟨_, _, rfl, ?_, ?_⟩
 ·rw [Bool.and_eq_true, decide_eq_true_iff, decide_eq_true_iff]
  by_cases c : L < 9223372036854775808
  ·rw [if_pos c]
   constructor
   ·rintro ⟨rfl, rfl⟩; exact ⟨by omega, by omega⟩
   ·rintro ⟨q1, q2⟩; omega
  ·rw [if_neg c]
   constructor
   ·rintro ⟨rfl, rfl⟩; exact ⟨by omega, by omega⟩
   ·rintro ⟨q1, q2⟩; omega
 ·rw [Bool.and_eq_true, decide_eq_true_iff, decide_eq_true_iff]
  by_cases c : L < 9223372036854775808
  ·rw [if_pos c, if_pos c]; rintro ⟨rfl, rfl⟩; omega
  ·rw [if_neg c, if_neg c]; rintro ⟨rfl, rfl⟩; omega
end Go.Proofs.Ytaokohndeepbjaa
