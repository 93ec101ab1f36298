/- Division by a small number; the greatest common divisor; quotients; lowest terms. Conditions: at most 2^30 digits. -/
import Derived.Test.YtkmenmoiagkegaaDoorNb
namespace Go.Proofs.YtkmenmoiagkegaaDoor
open Go Go.RowKit Go.Vc
set_option linter.unusedVariables false
set_option linter.unusedSimpArgs false

/-! ### Division by a small number -/
theorem or_add {x y : Int} (hx : 0 ≤ x ∧ x < 4294967296) (hy : 0 ≤ y ∧ y < 4294967296) : bits .or .u64 (x * 4294967296) y = x * 4294967296 + y := by
  obtain ⟨m, rfl⟩ := Int.eq_ofNat_of_zero_le hx.1
  obtain ⟨k, rfl⟩ := Int.eq_ofNat_of_zero_le hy.1
  have hm : m < 4294967296 := by omega
  have hk : k < 4294967296 := by omega
  have e1 : ((m : Int) * 4294967296) = ((4294967296 * m : Nat) : Int) := by omega
  unfold bits
  simp only []
  rw [e1, BitVec.ofInt_natCast, BitVec.ofInt_natCast, BitVec.toNat_or, BitVec.toNat_ofNat, BitVec.toNat_ofNat]
  show IntKind.u64.wrap (((4294967296 * m % 2 ^ 64) ||| (k % 2 ^ 64) : Nat) : Int) = _
  rw [Nat.mod_eq_of_lt (by omega), Nat.mod_eq_of_lt (by omega)]
  have e2 : 4294967296 * m ||| k = 4294967296 * m + k := by
    have := Nat.two_pow_add_eq_or_of_lt (i := 32) (b := k) (by omega) m
    rw [show (2 : Nat) ^ 32 = 4294967296 from rfl] at this
    exact this.symm
  rw [e2]
  have := wu (p := ((4294967296 * m + k : Nat) : Int)) ⟨by omega, by omega⟩
  rw [show IntKind.u64.wrap ((4294967296 * m + k : Nat) : Int) = ((4294967296 * m + k : Nat) : Int) from this]
  omega
theorem div_step {r d low b B : Int} (hb : 0 < b) (hr : 0 ≤ r ∧ r < b) (hd : 0 ≤ d ∧ d < 4294967296) (hB : 0 < B) (hl : 0 ≤ low ∧ low < B) : (r * (4294967296 * B) + (low + B * d)) / b = B * ((r * 4294967296 + d) / b) + ((r * 4294967296 + d) % b * B + low) / b ∧ (r * (4294967296 * B) + (low + B * d)) % b = ((r * 4294967296 + d) % b * B + low) % b := by
  have h1 := Int.mul_ediv_add_emod (r * 4294967296 + d) b
  have e : r * (4294967296 * B) + (low + B * d) = ((r * 4294967296 + d) % b * B + low) + b * (B * ((r * 4294967296 + d) / b)) := by
    generalize (r * 4294967296 + d) / b = q at *
    generalize (r * 4294967296 + d) % b = s at *
    grind
  rw [e, Int.add_mul_ediv_left _ _ (by omega), Int.add_mul_emod_self_left]
  exact ⟨Int.add_comm _ _, rfl⟩
theorem quo_lt {r d b : Int} (hb : 0 < b) (hr : 0 ≤ r ∧ r < b) (hd : 0 ≤ d ∧ d < 4294967296) : 0 ≤ (r * 4294967296 + d) / b ∧ (r * 4294967296 + d) / b < 4294967296 := by
  constructor
  · exact Int.ediv_nonneg (by omega) (by omega)
  · rw [Int.ediv_lt_iff_lt_mul hb]; omega
theorem nv_zeros (k : Nat) : nv (List.replicate k 0) = 0 := by
  induction k with
  | zero => rfl
  | succ k ih => rw [List.replicate_succ, nv_cons, ih]; rfl
theorem Dg_zeros (k : Nat) : Dg (List.replicate k 0) := fun x hx => by rw [(List.mem_replicate.1 hx).2]; omega
theorem set_top {o : List Int} {i : Nat} {x : Int} : (List.replicate (i + 1) 0 ++ o).set i x = List.replicate i 0 ++ (x :: o) := by
  rw [List.replicate_succ', List.append_assoc, List.set_append_right _ _ (by simp), List.length_replicate, Nat.sub_self]; rfl
theorem frac_div_run {a : List Int} {b : Int} (ha : Dg a) (hla : a.length < LN) (hb : 0 < b ∧ b < 4294967296) : ∀ (f : Nat) (o : List Int) (r : Int) (i : Nat), i ≤ a.length → i < f → Dg o → i + o.length = a.length → 0 ≤ r ∧ r < b →
    m_frac_nat_div_l1 a b f (List.replicate i 0 ++ o) r ((i : Int) - 1) = some (big (bp i * nv o + (r * bp i + nv (a.take i)) / b).toNat, (r * bp i + nv (a.take i)) % b)
  | 0, _, _, _, _, h, _, _, _ => absurd h (by omega)
  | f + 1, o, r, 0, hi, hf, hd, ho, hr => by
    have hla' : a.length < 2147483648 := hla
    rw [m_frac_nat_div_l1]
    simp only [show decide (0 ≤ (((0 : Nat) : Int) - 1)) = false from rfl, Bool.false_eq_true, if_false]
    rw [List.replicate_zero, List.nil_append, frac_norm hd (by show o.length ≤ 2147483648; omega), Option.bind_some, List.take_zero, nv_nil, bp_zero, wu32_id ⟨by omega, by omega⟩, Int.mul_one, Int.add_zero, Int.one_mul, Int.ediv_eq_zero_of_lt hr.1 hr.2, Int.add_zero, Int.emod_eq_of_lt hr.1 hr.2]
  | f + 1, o, r, i + 1, hi, hf, hd, ho, hr => by
    have hla' : a.length < 2147483648 := hla
    have h1 : i < a.length := by omega
    rw [m_frac_nat_div_l1, show (((i + 1 : Nat) : Int) - 1) = (i : Int) by omega, lat_some h1, nv_take_succ h1]
    have hx := ha.at_ h1
    have hlow := nv_bd (ha.take i)
    rw [List.length_take, Nat.min_eq_left (by omega)] at hlow
    generalize a[i] = d at hx
    have hq := quo_lt hb.1 hr hx
    have hm1 := Int.emod_nonneg (r * 4294967296 + d) (show b ≠ 0 by omega)
    have hm2 := Int.emod_lt_of_pos (r * 4294967296 + d) hb.1
    obtain ⟨s1, s2⟩ := div_step hb.1 hr hx (bp_pos i) hlow
    simp only [show decide (0 ≤ (i : Int)) = true by simp, if_true, Option.bind_some]
    rw [show r * 2 ^ 32 = r * 4294967296 from rfl, wu (p := r * 4294967296) ⟨by omega, by omega⟩, wu (p := d) ⟨by omega, by omega⟩, or_add ⟨by omega, by omega⟩ hx, wu (p := b) ⟨by omega, by omega⟩, Int.tdiv_eq_ediv_of_nonneg (by omega), Int.tmod_eq_emod_of_nonneg (by omega), wu (p := (r * 4294967296 + d) / b) ⟨by omega, by omega⟩, wu32_id hq]
    rw [if_pos (by omega), if_pos ⟨by omega, by rw [List.length_append, List.length_replicate]; omega⟩, show Int.toNat (i : Int) = i by omega, set_top, wi ⟨by omega, by omega⟩]
    rw [frac_div_run ha hla hb f _ _ i (by omega) (by omega) (Dg.mk hq hd) (by simp; omega) ⟨hm1, hm2⟩, bp_succ, s1, s2, nv_cons]
    congr 4
    grind
theorem frac_div {n b : Nat} (h1 : (big n).length < LN) (hb : 0 < b) (hb2 : b < 4294967296) : m_frac_nat_div (big n) b = some (big (n / b), ((n % b : Nat) : Int)) := by
  have h1' : (big n).length < 2147483648 := h1
  unfold m_frac_nat_div
  have e : lmake (0 : Int) ((big n).length : Int) ((big n).length : Int) = some (List.replicate (big n).length 0) := by
    unfold lmake; rw [if_pos ⟨by omega, by omega, by show _ ≤ (4294967296 : Int); omega⟩]; rfl
  rw [e, Option.bind_some, wi ⟨by omega, by omega⟩, Option.bind_some]
  have := frac_div_run (b := b) (big_dg n) h1 ⟨by omega, by omega⟩ fu [] 0 (big n).length (by omega) (by unfold fu; omega) Dg.nil (by simp) ⟨by omega, by omega⟩
  rw [List.append_nil] at this
  rw [this, List.take_length, big_nv, nv_nil]
  congr 2
  · congr 1
    rw [Int.mul_zero, Int.zero_mul, Int.zero_add, Int.zero_add, show ((n : Int) / (b : Int)) = ((n / b : Nat) : Int) from rfl]; exact Int.toNat_natCast _
  · rw [Int.zero_mul, Int.zero_add]; rfl
theorem frac_mod {n b : Nat} (h1 : (big n).length < LN) (hb : 0 < b) (hb2 : b < 4294967296) : m_frac_nat_mod (big n) b = some ((n % b : Nat) : Int) := by
  unfold m_frac_nat_mod; rw [frac_div h1 hb hb2]; rfl
theorem ref01_rest_run {a : List Int} {b : Int} (ha : Dg a) (hla : a.length < LN) (hb : 0 < b ∧ b < 4294967296) : ∀ (f : Nat) (r : Int) (i : Nat), i ≤ a.length → i < f → 0 ≤ r ∧ r < b →
    m_ref01_rest_l1 a b f r ((i : Int) - 1) = some ((r * bp i + nv (a.take i)) % b)
  | 0, _, _, _, h, _ => absurd h (by omega)
  | f + 1, r, 0, hi, hf, hr => by
    rw [m_ref01_rest_l1]
    simp only [show decide (0 ≤ (((0 : Nat) : Int) - 1)) = false from rfl, Bool.false_eq_true, if_false]
    rw [List.take_zero, nv_nil, bp_zero, Int.mul_one, Int.add_zero, Int.emod_eq_of_lt hr.1 hr.2]
  | f + 1, r, i + 1, hi, hf, hr => by
    have hla' : a.length < 2147483648 := hla
    have h1 : i < a.length := by omega
    rw [m_ref01_rest_l1, show (((i + 1 : Nat) : Int) - 1) = (i : Int) by omega, lat_some h1, nv_take_succ h1]
    have hx := ha.at_ h1
    have hlow := nv_bd (ha.take i)
    rw [List.length_take, Nat.min_eq_left (by omega)] at hlow
    generalize a[i] = d at hx
    have hm1 := Int.emod_nonneg (r * 4294967296 + d) (show b ≠ 0 by omega)
    have hm2 := Int.emod_lt_of_pos (r * 4294967296 + d) hb.1
    obtain ⟨s1, s2⟩ := div_step hb.1 hr hx (bp_pos i) hlow
    simp only [show decide (0 ≤ (i : Int)) = true by simp, if_true, Option.bind_some]
    rw [if_pos (by omega), wu (p := r * 4294967296) ⟨by omega, by omega⟩, wu (p := r * 4294967296 + d) ⟨by omega, by omega⟩, Int.tmod_eq_emod_of_nonneg (by omega), wi ⟨by omega, by omega⟩]
    rw [ref01_rest_run ha hla hb f _ i (by omega) (by omega) ⟨hm1, hm2⟩, bp_succ, s2]
theorem ref01_rest {n b : Nat} (h1 : (big n).length < LN) (hb : 0 < b) (hb2 : b < 4294967296) : m_ref01_rest (big n) b = some ((n % b : Nat) : Int) := by
  have h1' : (big n).length < 2147483648 := h1
  unfold m_ref01_rest
  rw [wi ⟨by omega, by omega⟩, Option.bind_some, ref01_rest_run (b := b) (big_dg n) h1 ⟨by omega, by omega⟩ fu 0 (big n).length (by omega) (by unfold fu; omega) ⟨by omega, by omega⟩, List.take_length, big_nv, Int.zero_mul, Int.zero_add]
  rfl
theorem ref01_part_run {a : List Int} {b : Int} (ha : Dg a) (hla : a.length < LN) (hb : 0 < b ∧ b < 4294967296) : ∀ (f : Nat) (o : List Int) (r : Int) (i : Nat), i ≤ a.length → i < f → Dg o → i + o.length = a.length → 0 ≤ r ∧ r < b →
    m_ref01_part_l1 a b f (List.replicate i 0 ++ o) r ((i : Int) - 1) = some (big (bp i * nv o + (r * bp i + nv (a.take i)) / b).toNat)
  | 0, _, _, _, _, h, _, _, _ => absurd h (by omega)
  | f + 1, o, r, 0, hi, hf, hd, ho, hr => by
    have hla' : a.length < 2147483648 := hla
    rw [m_ref01_part_l1]
    simp only [show decide (0 ≤ (((0 : Nat) : Int) - 1)) = false from rfl, Bool.false_eq_true, if_false]
    rw [List.replicate_zero, List.nil_append, ref01_trim hd (by show o.length ≤ 2147483648; omega), Option.bind_some, List.take_zero, nv_nil, bp_zero, Int.mul_one, Int.add_zero, Int.one_mul, Int.ediv_eq_zero_of_lt hr.1 hr.2, Int.add_zero]
  | f + 1, o, r, i + 1, hi, hf, hd, ho, hr => by
    have hla' : a.length < 2147483648 := hla
    have h1 : i < a.length := by omega
    rw [m_ref01_part_l1, show (((i + 1 : Nat) : Int) - 1) = (i : Int) by omega, lat_some h1, nv_take_succ h1]
    have hx := ha.at_ h1
    have hlow := nv_bd (ha.take i)
    rw [List.length_take, Nat.min_eq_left (by omega)] at hlow
    generalize a[i] = d at hx
    have hq := quo_lt hb.1 hr hx
    have hm1 := Int.emod_nonneg (r * 4294967296 + d) (show b ≠ 0 by omega)
    have hm2 := Int.emod_lt_of_pos (r * 4294967296 + d) hb.1
    obtain ⟨s1, s2⟩ := div_step hb.1 hr hx (bp_pos i) hlow
    simp only [show decide (0 ≤ (i : Int)) = true by simp, if_true, Option.bind_some]
    rw [wu (p := r * 4294967296) ⟨by omega, by omega⟩, wu (p := r * 4294967296 + d) ⟨by omega, by omega⟩, Int.tdiv_eq_ediv_of_nonneg (by omega), Int.tmod_eq_emod_of_nonneg (by omega), wu (p := (r * 4294967296 + d) / b) ⟨by omega, by omega⟩]
    rw [if_pos (by omega), if_pos ⟨by omega, by rw [List.length_append, List.length_replicate]; omega⟩, show Int.toNat (i : Int) = i by omega, set_top, wi ⟨by omega, by omega⟩]
    rw [ref01_part_run ha hla hb f _ _ i (by omega) (by omega) (Dg.mk hq hd) (by simp; omega) ⟨hm1, hm2⟩, bp_succ, s1, nv_cons]
    congr 3
    grind
theorem ref01_part {n b : Nat} (h1 : (big n).length < LN) (hb : 0 < b) (hb2 : b < 4294967296) : m_ref01_part (big n) b = some (big (n / b)) := by
  have h1' : (big n).length < 2147483648 := h1
  unfold m_ref01_part
  have e : lmake (0 : Int) ((big n).length : Int) ((big n).length : Int) = some (List.replicate (big n).length 0) := by
    unfold lmake; rw [if_pos ⟨by omega, by omega, by show _ ≤ (4294967296 : Int); omega⟩]; rfl
  rw [e, Option.bind_some, wi ⟨by omega, by omega⟩, Option.bind_some]
  have := ref01_part_run (b := b) (big_dg n) h1 ⟨by omega, by omega⟩ fu [] 0 (big n).length (by omega) (by unfold fu; omega) Dg.nil (by simp) ⟨by omega, by omega⟩
  rw [List.append_nil] at this
  rw [this, List.take_length, big_nv, nv_nil]
  congr 2
  rw [Int.mul_zero, Int.zero_mul, Int.zero_add, Int.zero_add, show ((n : Int) / (b : Int)) = ((n / b : Nat) : Int) from rfl]; exact Int.toNat_natCast _

/-! ### The greatest common divisor -/
theorem len_le {n m : Nat} (h : n ≤ m) : (big n).length ≤ (big m).length := by
  rcases Nat.lt_or_ge (big m).length (big n).length with h1 | h1
  · have := big_lt_of_len h1; omega
  · exact h1
theorem frac_even (n : Nat) : m_frac_nat_even (big n) = some (decide (n % 2 = 0)) := by
  unfold m_frac_nat_even
  by_cases h : n = 0
  · subst h; rw [big_zero]; rfl
  · have hne : big n ≠ [] := fun e => h (big_nil.1 e)
    have hlen : 0 < (big n).length := List.length_pos_iff.2 hne
    rw [show decide (((big n).length : Int) = 0) = false by simp; exact hne]
    have e0 : lat (big n) 0 = some ((n % 4294967296 : Nat) : Int) := by rw [big_pos h]; rfl
    simp only [Bool.not_false, gd, if_true, e0, Option.bind_some, Bool.false_or]
    congr 2
    rw [Int.tmod_eq_emod_of_nonneg (by omega)]
    apply propext; omega
theorem frac_half {n : Nat} (h1 : (big n).length < LN) : m_frac_nat_half (big n) = some (big (n / 2)) := by
  unfold m_frac_nat_half
  have := frac_div (b := 2) h1 (by decide) (by decide)
  rw [show ((2 : Nat) : Int) = 2 from rfl] at this
  rw [this]; rfl
theorem gcd_half {a b : Nat} (ha : a % 2 = 0) (hb : b % 2 ≠ 0) : Nat.gcd (a / 2) b = Nat.gcd a b := by
  have hc : Nat.Coprime 2 b := by
    rw [Nat.coprime_iff_gcd_eq_one]
    have h1 : Nat.gcd 2 b ∣ 2 := Nat.gcd_dvd_left ..
    have h2 : Nat.gcd 2 b ∣ b := Nat.gcd_dvd_right ..
    have h3 := Nat.le_of_dvd (by decide) h1
    have h4 : Nat.gcd 2 b ≠ 0 := fun e => by have := Nat.gcd_eq_zero_iff.1 e; omega
    have h5 : Nat.gcd 2 b ≠ 2 := fun e => by rw [e] at h2; omega
    omega
  have e : a = 2 * (a / 2) := by omega
  conv => rhs; rw [e]
  exact (Nat.Coprime.gcd_mul_left_cancel _ hc).symm
theorem gcd_half2 {a b : Nat} (ha : a % 2 = 0) (hb : b % 2 = 0) : 2 * Nat.gcd (a / 2) (b / 2) = Nat.gcd a b := by
  rw [← Nat.gcd_mul_left, show 2 * (a / 2) = a by omega, show 2 * (b / 2) = b by omega]
theorem gcd_sub_l {a b : Nat} (h : b ≤ a) : Nat.gcd (a - b) b = Nat.gcd a b := Nat.gcd_sub_self_left h
theorem gcd_sub_r {a b : Nat} (h : a ≤ b) : Nat.gcd a (b - a) = Nat.gcd a b := by rw [Nat.gcd_comm, gcd_sub_l h, Nat.gcd_comm]
theorem common_l1 {s : Nat} : ∀ (f : Nat) (n : Nat), s < f → (big n).length + s < LN → m_frac_common_l1 f (big n) s = some (big (n * 2 ^ s)) := by
  induction s with
  | zero =>
    intro f n hf _
    obtain ⟨f, rfl⟩ : ∃ g, f = g + 1 := ⟨f - 1, by omega⟩
    rw [m_frac_common_l1]; simp
  | succ s ih =>
    intro f n hf hl
    have hl' : (big n).length + (s + 1) < 2147483648 := hl
    obtain ⟨f, rfl⟩ : ∃ g, f = g + 1 := ⟨f - 1, by omega⟩
    rw [m_frac_common_l1]
    have ht := frac_times (n := n) (b := 2) (by show _ < 2147483648; omega) (by decide)
    rw [show ((2 : Nat) : Int) = 2 from rfl] at ht
    simp only [show decide (0 < ((s + 1 : Nat) : Int)) = true by simp <;> omega, if_true, ht, Option.bind_some]
    have e : wi64 (((s + 1 : Nat) : Int) - 1) = (s : Int) := by rw [wi ⟨by omega, by omega⟩]; omega
    have hlen : (big (n * 2)).length ≤ (big n).length + 1 := by
      refine big_len_lt _ _ ?_
      have := nv_bd (big_dg n)
      rw [big_nv] at this
      rw [bp_succ]; omega
    rw [e, ih f (n * 2) (by omega) (by show _ < 2147483648; omega), Nat.mul_assoc, ← Nat.pow_succ']
theorem common_l2 {s : Nat} {N : Nat} (hN : (big N).length < LN) : ∀ (k : Nat) (f : Nat) (p q a b : Nat), p + q = k → 2 * k + 1 < f → 0 < a → 0 < b → a < 2 ^ p → b < 2 ^ q → a ≤ N → b ≤ N → ¬ (a % 2 = 0 ∧ b % 2 = 0) → m_frac_common_l2 s f (big a) (big b) = m_frac_common_j2 s (big (Nat.gcd a b)) := by
  intro k
  induction k using Nat.strongRecOn with
  | _ k ih =>
    intro f p q a b hk hf ha hb hap hbq haN hbN hodd
    have hla : (big a).length < LN := Nat.lt_of_le_of_lt (len_le haN) hN
    have hlb : (big b).length < LN := Nat.lt_of_le_of_lt (len_le hbN) hN
    obtain ⟨f, rfl⟩ : ∃ g, f = g + 1 := ⟨f - 1, by omega⟩
    have hp : 0 < p := Nat.pos_of_ne_zero fun e => by subst e; simp at hap; omega
    have hq : 0 < q := Nat.pos_of_ne_zero fun e => by subst e; simp at hbq; omega
    have hpe : 2 ^ p = 2 * 2 ^ (p - 1) := by rw [← Nat.pow_succ', show (p - 1).succ = p by omega]
    have hqe : 2 ^ q = 2 * 2 ^ (q - 1) := by rw [← Nat.pow_succ', show (q - 1).succ = q by omega]
    rw [m_frac_common_l2, frac_compare hla hlb, Option.bind_some]
    by_cases hab : a = b
    · subst hab
      rw [if_neg (by simp [ord]), Nat.gcd_self]
    · have ho : ord (a : Int) b ≠ 0 := by unfold ord; split; decide; split; decide; omega
      rw [if_pos (by simpa using ho), frac_even, Option.bind_some]
      by_cases h1 : a % 2 = 0
      · have h2 : b % 2 ≠ 0 := fun h => hodd ⟨h1, h⟩
        rw [if_pos (by simpa using h1), frac_half hla, Option.bind_some, ← gcd_half h1 h2]
        exact ih (p - 1 + q) (by omega) f (p - 1) q (a / 2) b rfl (by omega) (by omega) hb (by omega) hbq (by omega) hbN (fun h => h2 h.2)
      · rw [if_neg (by simpa using h1), frac_even, Option.bind_some]
        by_cases h2 : b % 2 = 0
        · rw [if_pos (by simpa using h2), frac_half hlb, Option.bind_some, Nat.gcd_comm a b, ← gcd_half h2 h1, Nat.gcd_comm]
          exact ih (p + (q - 1)) (by omega) f p (q - 1) a (b / 2) rfl (by omega) ha (by omega) hap (by omega) haN (by omega) (fun h => h1 h.1)
        · rw [if_neg (by simpa using h2)]
          simp only [Option.bind_some]
          by_cases hlt : b < a
          · have ho2 : ord (a : Int) b = 1 := by unfold ord; rw [if_neg (by omega), if_pos (by omega)]
            rw [ho2, if_pos (by decide), frac_minus hla hlb (by omega), Option.bind_some]
            -- the difference is even: the next round halves it
            obtain ⟨f, rfl⟩ : ∃ g, f = g + 1 := ⟨f - 1, by omega⟩
            have hld : (big (a - b)).length < LN := Nat.lt_of_le_of_lt (len_le (by omega)) hN
            rw [← gcd_sub_l (Nat.le_of_lt hlt), m_frac_common_l2, frac_compare hld hlb, Option.bind_some]
            by_cases he : a - b = b
            · omega
            · have ho : ord ((a - b : Nat) : Int) b ≠ 0 := by unfold ord; split; decide; split; decide; omega
              have hev : (a - b) % 2 = 0 := by omega
              rw [if_pos (by simpa using ho), frac_even, Option.bind_some, if_pos (by simpa using hev), frac_half hld, Option.bind_some, ← gcd_half hev h2]
              exact ih (p - 1 + q) (by omega) f (p - 1) q ((a - b) / 2) b rfl (by omega) (by omega) hb (by omega) hbq (by omega) hbN (fun h => h2 h.2)
          · have ho2 : ord (a : Int) b = -1 := by unfold ord; rw [if_pos (by omega)]
            rw [ho2, if_neg (by decide), frac_minus hlb hla (by omega), Option.bind_some]
            obtain ⟨f, rfl⟩ : ∃ g, f = g + 1 := ⟨f - 1, by omega⟩
            have hld : (big (b - a)).length < LN := Nat.lt_of_le_of_lt (len_le (by omega)) hN
            rw [← gcd_sub_r (show a ≤ b by omega), m_frac_common_l2, frac_compare hla hld, Option.bind_some]
            by_cases he : a = b - a
            · omega
            · have ho : ord (a : Int) ((b - a : Nat) : Int) ≠ 0 := by unfold ord; split; decide; split; decide; omega
              have hev : (b - a) % 2 = 0 := by omega
              rw [if_pos (by simpa using ho), frac_even, Option.bind_some, if_neg (by simpa using h1), frac_even, Option.bind_some, if_pos (by simpa using hev), frac_half hld, Option.bind_some, Nat.gcd_comm a (b - a), ← gcd_half hev h1, Nat.gcd_comm]
              exact ih (p + (q - 1)) (by omega) f p (q - 1) a ((b - a) / 2) rfl (by omega) ha (by omega) hap (by omega) haN (by omega) (fun h => h1 h.1)
theorem pow_len (n : Nat) : n < 2 ^ (32 * (big n).length) := by
  have h := (nv_bd (big_dg n)).2
  rw [big_nv, bp_nat] at h
  rw [Nat.pow_mul, show (2 : Nat) ^ 32 = 4294967296 from rfl]
  omega
theorem common_l3 {N : Nat} (hN : (big N).length < 1000000) : ∀ (k : Nat) (f : Nat) (s a b : Nat), k < f → a < 2 ^ k → s + k ≤ 32000000 → 0 < a → 0 < b → a ≤ N → b ≤ N → m_frac_common_l3 f (big a) (big b) s = some (big (Nat.gcd a b * 2 ^ s)) := by
  intro k
  induction k with
  | zero => intro f s a b hf hk hs ha hb; simp at hk; omega
  | succ k ih =>
    intro f s a b hf hk hs ha hb haN hbN
    have hla : (big a).length < 1000000 := Nat.lt_of_le_of_lt (len_le haN) hN
    have hlb : (big b).length < 1000000 := Nat.lt_of_le_of_lt (len_le hbN) hN
    have hla' : (big a).length < LN := by show _ < 2147483648; omega
    have hlb' : (big b).length < LN := by show _ < 2147483648; omega
    obtain ⟨f, rfl⟩ : ∃ g, f = g + 1 := ⟨f - 1, by omega⟩
    rw [m_frac_common_l3, frac_even, Option.bind_some]
    have hg : (gd (decide (a % 2 = 0)) (m_frac_nat_even (big b))) = some (if a % 2 = 0 then decide (b % 2 = 0) else default) := by
      unfold gd
      by_cases h : a % 2 = 0
      · simp only [h, decide_true, if_true]; exact frac_even b
      · simp [h]
    rw [hg, Option.bind_some]
    by_cases h : a % 2 = 0 ∧ b % 2 = 0
    · rw [if_pos (by simp [h.1, h.2]), frac_half hla', Option.bind_some, frac_half hlb', Option.bind_some, show wi64 ((s : Int) + 1) = ((s + 1 : Nat) : Int) by rw [wi ⟨by omega, by omega⟩]; omega]
      rw [ih f (s + 1) (a / 2) (b / 2) (by omega) (by rw [Nat.pow_succ] at hk; omega) (by omega) (by omega) (by omega) (by omega) (by omega), ← gcd_half2 h.1 h.2, Nat.pow_succ]
      congr 2
      rw [Nat.mul_comm (2 ^ s) 2, ← Nat.mul_assoc, Nat.mul_comm 2]
    · have e : (decide (a % 2 = 0) && (if a % 2 = 0 then decide (b % 2 = 0) else default)) = false := by
        by_cases h1 : a % 2 = 0
        · have : ¬ b % 2 = 0 := fun h2 => h ⟨h1, h2⟩
          simp [h1, this]
        · simp [h1]
      rw [if_neg (by rw [e]; simp)]
      unfold m_frac_common_j1
      rw [common_l2 (N := N) (by show _ < 2147483648; omega) (32 * (big a).length + 32 * (big b).length) fu _ _ a b rfl (by unfold fu; omega) ha hb (pow_len a) (pow_len b) haN hbN h]
      unfold m_frac_common_j2
      have hgl : (big (Nat.gcd a b)).length < 1000000 := Nat.lt_of_le_of_lt (len_le (Nat.gcd_le_left b ha)) hla
      exact common_l1 fu _ (by unfold fu; omega) (by show _ < 2147483648; omega)
theorem frac_common {a b : Nat} (hla : (big a).length < 1000000) (hlb : (big b).length < 1000000) (ha : 0 < a) (hb : 0 < b) : m_frac_common (big a) (big b) = some (big (Nat.gcd a b)) := by
  unfold m_frac_common
  have hm : (big (max a b)).length < 1000000 := by rcases Nat.le_total a b with h | h; rw [Nat.max_eq_right h]; exact hlb; rw [Nat.max_eq_left h]; exact hla
  have := common_l3 (N := max a b) hm (32 * (big a).length) fu 0 a b (by unfold fu; omega) (pow_len a) (by omega) ha hb (by omega) (by omega)
  rw [show ((0 : Nat) : Int) = 0 from rfl] at this
  rw [this]; simp
end Go.Proofs.YtkmenmoiagkegaaDoor
