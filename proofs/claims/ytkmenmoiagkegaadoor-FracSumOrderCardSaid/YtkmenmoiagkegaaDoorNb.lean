/- Sums, differences, comparison, division of numbers of any size. Conditions: at most 2^31 digits. -/
import Derived.Test.YtkmenmoiagkegaaDoorNa
namespace Go.Proofs.YtkmenmoiagkegaaDoor
open Go Go.RowKit Go.Vc
set_option linter.unusedVariables false
set_option linter.unusedSimpArgs false

/-! ### Plus -/
theorem nv_drop {l : List Int} {i : Nat} (h : i < l.length) : nv (l.drop i) = l[i] + 4294967296 * nv (l.drop (i + 1)) := by rw [drop_cons h, nv_cons]
theorem nv_drop_nil {l : List Int} {i : Nat} (h : l.length ≤ i) : nv (l.drop i) = 0 := by rw [List.drop_eq_nil_of_le h]; rfl
/-- The digit at a place, zero beyond the end. -/
def da (l : List Int) (i : Nat) : Int := if h : i < l.length then l[i] else 0
theorem nv_da (l : List Int) (i : Nat) : nv (l.drop i) = da l i + 4294967296 * nv (l.drop (i + 1)) := by
  unfold da
  by_cases h : i < l.length
  · rw [dif_pos h, nv_drop h]
  · rw [dif_neg h, nv_drop_nil (by omega), nv_drop_nil (by omega)]; rfl
theorem da_bd {l : List Int} (h : Dg l) (i : Nat) : 0 ≤ da l i ∧ da l i < 4294967296 := by
  unfold da
  by_cases hi : i < l.length
  · rw [dif_pos hi]; exact h.at_ hi
  · rw [dif_neg hi]; omega
theorem step_add {o : List Int} {c r : Int} : nv (o ++ [c % 4294967296]) + bp (o ++ [c % 4294967296]).length * (c / 4294967296 + r) = nv o + bp o.length * (c + 4294967296 * r) := by
  have h1 := Int.mul_ediv_add_emod c 4294967296
  rw [nv_app, nv_one, List.length_append, List.length_singleton, bp_succ]
  generalize c % 4294967296 = x at *
  generalize c / 4294967296 = y at *
  grind
theorem frac_plus_run {a b : List Int} (ha : Dg a) (hb : Dg b) (hla : a.length < LN) (hlb : b.length < LN) : ∀ (f : Nat) (o : List Int) (c : Int) (i : Nat), i ≤ max a.length b.length → max a.length b.length - i < f → Dg o → o.length = i → 0 ≤ c ∧ c ≤ 1 →
    m_frac_nat_plus_l1 a b f o c i = some (big (nv o + bp o.length * (c + (nv (a.drop i) + nv (b.drop i)))).toNat)
  | 0, _, _, _, _, h, _, _, _ => absurd h (by omega)
  | f + 1, o, c, i, hi, hf, hd, ho, hc => by
    have hla' : a.length < 2147483648 := hla
    have hlb' : b.length < 2147483648 := hlb
    rw [m_frac_nat_plus_l1]
    have e2 : wi64 ((i : Int) + 1) = ((i + 1 : Nat) : Int) := by rw [wi ⟨by omega, by omega⟩]; omega
    have hx := da_bd ha i
    have hy := da_bd hb i
    have emax : max (a.length : Int) (b.length : Int) = ((max a.length b.length : Nat) : Int) := by omega
    rw [emax]
    by_cases h : i < max a.length b.length
    · have fin : m_frac_nat_plus_j2 o (m_frac_nat_plus_l1 a b f) i (c + da a i + da b i) = some (big (nv o + bp o.length * (c + (nv (a.drop i) + nv (b.drop i)))).toNat) := by
        unfold m_frac_nat_plus_j2
        rw [wu32_mod (by omega), lapp_one (by show o.length ≤ 2147483648; omega), Option.bind_some]
        have e1 : Int.fdiv (c + da a i + da b i) (2 ^ 32) = (c + da a i + da b i) / 4294967296 := by rw [Int.fdiv_eq_ediv_of_nonneg _ (by decide)]; rfl
        rw [e1, e2, frac_plus_run ha hb hla hlb f _ _ (i + 1) (by omega) (by omega) (hd.app (Dg.mk ⟨Int.emod_nonneg _ (by decide), Int.emod_lt_of_pos _ (by decide)⟩ Dg.nil)) (by simp [ho]) ⟨by omega, by omega⟩, step_add, nv_da a i, nv_da b i]
        congr 3
        grind
      have second : m_frac_nat_plus_j1 i b o (m_frac_nat_plus_l1 a b f) (c + da a i) = some (big (nv o + bp o.length * (c + (nv (a.drop i) + nv (b.drop i)))).toNat) := by
        unfold m_frac_nat_plus_j1
        by_cases h2 : i < b.length
        · rw [lat_some h2]
          have e : b[i] = da b i := by unfold da; rw [dif_pos h2]
          rw [e]
          simp only [show decide ((i : Int) < (b.length : Int)) = true by simp; exact h2, if_true, Option.bind_some]
          rw [wu (p := da b i) ⟨by omega, by omega⟩, wu ⟨by omega, by omega⟩]
          exact fin
        · have e : da b i = 0 := by unfold da; rw [dif_neg h2]
          simp only [show decide ((i : Int) < (b.length : Int)) = false by simp; omega, Bool.false_eq_true, if_false]
          rw [e, Int.add_zero] at fin
          exact fin
      simp only [show decide ((i : Int) < ((max a.length b.length : Nat) : Int)) = true by simp <;> omega, if_true]
      by_cases h1 : i < a.length
      · rw [lat_some h1]
        have e : a[i] = da a i := by unfold da; rw [dif_pos h1]
        rw [e]
        simp only [show decide ((i : Int) < (a.length : Int)) = true by simp; exact h1, if_true, Option.bind_some]
        rw [wu (p := da a i) ⟨by omega, by omega⟩, wu ⟨by omega, by omega⟩]
        exact second
      · have e : da a i = 0 := by unfold da; rw [dif_neg h1]
        simp only [show decide ((i : Int) < (a.length : Int)) = false by simp; omega, Bool.false_eq_true, if_false]
        rw [e, Int.add_zero] at second
        exact second
    · simp only [show decide ((i : Int) < ((max a.length b.length : Nat) : Int)) = false by simp <;> omega, Bool.false_eq_true, if_false]
      rw [wu32_id ⟨by omega, by omega⟩, lapp_one (by show o.length ≤ 2147483648; omega), Option.bind_some, frac_norm (hd.app (Dg.mk ⟨by omega, by omega⟩ Dg.nil)) (by simp; show o.length + 1 ≤ 2147483648; omega), Option.bind_some, nv_app, nv_one, nv_drop_nil (by omega), nv_drop_nil (by omega)]
      simp
theorem sum_fin (n k : Nat) : (nv [] + bp ([] : List Int).length * (0 + (nv ((big n).drop 0) + nv ((big k).drop 0)))).toNat = n + k := by
  rw [List.drop_zero, List.drop_zero, big_nv, big_nv, nv_nil]
  show (0 + bp 0 * (0 + ((n : Int) + k))).toNat = n + k
  rw [bp_zero]; omega
theorem frac_plus {n k : Nat} (h1 : (big n).length < LN) (h2 : (big k).length < LN) : m_frac_nat_plus (big n) (big k) = some (big (n + k)) := by
  have h1' : (big n).length < 2147483648 := h1
  have h2' : (big k).length < 2147483648 := h2
  unfold m_frac_nat_plus
  have := frac_plus_run (big_dg n) (big_dg k) h1 h2 fu [] 0 0 (by omega) (by unfold fu; omega) Dg.nil rfl ⟨by omega, by omega⟩
  rw [show ((0 : Nat) : Int) = 0 from rfl] at this
  rw [this, sum_fin]
theorem ref01_plus_run {a b : List Int} (ha : Dg a) (hb : Dg b) (hla : a.length < LN) (hlb : b.length < LN) : ∀ (f : Nat) (o : List Int) (c : Int) (i : Nat), i ≤ max a.length b.length → max a.length b.length - i < f → Dg o → o.length = i → 0 ≤ c ∧ c ≤ 1 →
    m_ref01_plus_l1 a b f o c i = some (big (nv o + bp o.length * (c + (nv (a.drop i) + nv (b.drop i)))).toNat)
  | 0, _, _, _, _, h, _, _, _ => absurd h (by omega)
  | f + 1, o, c, i, hi, hf, hd, ho, hc => by
    have hla' : a.length < 2147483648 := hla
    have hlb' : b.length < 2147483648 := hlb
    rw [m_ref01_plus_l1]
    have e2 : wi64 ((i : Int) + 1) = ((i + 1 : Nat) : Int) := by rw [wi ⟨by omega, by omega⟩]; omega
    have hx := da_bd ha i
    have hy := da_bd hb i
    have eor : (decide ((i : Int) < (a.length : Int)) || decide ((i : Int) < (b.length : Int))) = decide (i < max a.length b.length) := by
      rw [← Bool.decide_or]; congr 1; apply propext; omega
    rw [eor]
    by_cases h : i < max a.length b.length
    · have fin : m_ref01_plus_j2 o (m_ref01_plus_l1 a b f) i (c + da a i + da b i) = some (big (nv o + bp o.length * (c + (nv (a.drop i) + nv (b.drop i)))).toNat) := by
        unfold m_ref01_plus_j2
        rw [Int.tmod_eq_emod_of_nonneg (by omega), Int.tdiv_eq_ediv_of_nonneg (by omega), wu ⟨by omega, by omega⟩, lapp_one (by show o.length ≤ 2147483648; omega)]
        simp only [Option.bind_some]
        rw [e2, ref01_plus_run ha hb hla hlb f _ _ (i + 1) (by omega) (by omega) (hd.app (Dg.mk ⟨Int.emod_nonneg _ (by decide), Int.emod_lt_of_pos _ (by decide)⟩ Dg.nil)) (by simp [ho]) ⟨by omega, by omega⟩, step_add, nv_da a i, nv_da b i]
        congr 3
        grind
      have second : m_ref01_plus_j1 i b o (m_ref01_plus_l1 a b f) (c + da a i) = some (big (nv o + bp o.length * (c + (nv (a.drop i) + nv (b.drop i)))).toNat) := by
        unfold m_ref01_plus_j1
        by_cases h2 : i < b.length
        · rw [lat_some h2]
          have e : b[i] = da b i := by unfold da; rw [dif_pos h2]
          rw [e]
          simp only [show decide ((i : Int) < (b.length : Int)) = true by simp; exact h2, if_true, Option.bind_some]
          rw [wu ⟨by omega, by omega⟩]
          exact fin
        · have e : da b i = 0 := by unfold da; rw [dif_neg h2]
          simp only [show decide ((i : Int) < (b.length : Int)) = false by simp; omega, Bool.false_eq_true, if_false]
          rw [e, Int.add_zero] at fin
          exact fin
      simp only [h, decide_true, if_true]
      by_cases h1 : i < a.length
      · rw [lat_some h1]
        have e : a[i] = da a i := by unfold da; rw [dif_pos h1]
        rw [e]
        simp only [show decide ((i : Int) < (a.length : Int)) = true by simp; exact h1, if_true, Option.bind_some]
        rw [wu ⟨by omega, by omega⟩]
        exact second
      · have e : da a i = 0 := by unfold da; rw [dif_neg h1]
        simp only [show decide ((i : Int) < (a.length : Int)) = false by simp; omega, Bool.false_eq_true, if_false]
        rw [e, Int.add_zero] at second
        exact second
    · simp only [h, decide_false, Bool.false_eq_true, if_false]
      rw [lapp_one (by show o.length ≤ 2147483648; omega), Option.bind_some, ref01_trim (hd.app (Dg.mk ⟨by omega, by omega⟩ Dg.nil)) (by simp; show o.length + 1 ≤ 2147483648; omega), Option.bind_some, nv_app, nv_one, nv_drop_nil (by omega), nv_drop_nil (by omega)]
      simp
theorem ref01_plus {n k : Nat} (h1 : (big n).length < LN) (h2 : (big k).length < LN) : m_ref01_plus (big n) (big k) = some (big (n + k)) := by
  have h1' : (big n).length < 2147483648 := h1
  have h2' : (big k).length < 2147483648 := h2
  unfold m_ref01_plus
  have := ref01_plus_run (big_dg n) (big_dg k) h1 h2 fu [] 0 0 (by omega) (by unfold fu; omega) Dg.nil rfl ⟨by omega, by omega⟩
  rw [show ((0 : Nat) : Int) = 0 from rfl] at this
  rw [this, sum_fin]

/-! ### Comparing -/
theorem nv_take_succ {l : List Int} {i : Nat} (h : i < l.length) : nv (l.take (i + 1)) = nv (l.take i) + bp i * l[i] := by
  rw [List.take_succ_eq_append_getElem h, nv_app, nv_one, List.length_take, Nat.min_eq_left (by omega)]
theorem cmp_step {x y p q B : Int} (hx : 0 ≤ x ∧ x < B) (hy : 0 ≤ y ∧ y < B) (h : p < q) : x + B * p < y + B * q := by
  have : B * (p + 1) ≤ B * q := Int.mul_le_mul_of_nonneg_left (by omega) (by omega)
  rw [Int.mul_add, Int.mul_one] at this
  omega
theorem frac_cmp_run {a b : List Int} (ha : Dg a) (hb : Dg b) (hl : a.length = b.length) (hla : a.length < LN) : ∀ (f : Nat) (i : Nat), i ≤ a.length → i < f → m_frac_nat_compare_l1 a b f ((i : Int) - 1) = some (ord (nv (a.take i)) (nv (b.take i)))
  | 0, _, _, h => absurd h (by omega)
  | f + 1, 0, hi, hf => by rw [m_frac_nat_compare_l1]; simp [ord]
  | f + 1, i + 1, hi, hf => by
    have hla' : a.length < 2147483648 := hla
    rw [m_frac_nat_compare_l1, show (((i + 1 : Nat) : Int) - 1) = (i : Int) by omega]
    have h1 : i < a.length := by omega
    have h2 : i < b.length := by omega
    have hx := nv_bd (ha.take i)
    have hy := nv_bd (hb.take i)
    rw [List.length_take, Nat.min_eq_left (by omega)] at hx hy
    rw [lat_some h1, lat_some h2, nv_take_succ h1, nv_take_succ h2]
    generalize a[i] = p
    generalize b[i] = q
    simp only [show decide (0 ≤ (i : Int)) = true by simp, if_true, Option.bind_some]
    by_cases c1 : p < q
    · have := cmp_step hx hy c1
      rw [if_pos (by simpa using c1)]
      unfold ord; rw [if_pos this]
    · rw [if_neg (by simpa using c1)]
      by_cases c2 : q < p
      · have := cmp_step hy hx c2
        rw [if_pos (by simpa using c2)]
        unfold ord; rw [if_neg (by omega), if_pos this]
      · rw [if_neg (by simpa using c2), wi ⟨by omega, by omega⟩, frac_cmp_run ha hb hl hla f i (by omega) (by omega)]
        have e : p = q := by omega
        subst e
        congr 1
        unfold ord
        have k1 : nv (a.take i) + bp i * p < nv (b.take i) + bp i * p ↔ nv (a.take i) < nv (b.take i) := by omega
        have k2 : nv (b.take i) + bp i * p < nv (a.take i) + bp i * p ↔ nv (b.take i) < nv (a.take i) := by omega
        simp only [k1, k2]
theorem big_lt_of_len {n k : Nat} (h : (big n).length < (big k).length) : n < k := by
  have h1 := nv_bd (big_dg n)
  rw [big_nv] at h1
  have hk : k ≠ 0 := fun e => by subst e; rw [big_zero] at h; simp at h
  have h2 := big_len_ge hk
  have h3 := bp_le (show (big n).length ≤ (big k).length - 1 by omega)
  omega
theorem frac_compare {n k : Nat} (h1 : (big n).length < LN) (h2 : (big k).length < LN) : m_frac_nat_compare (big n) (big k) = some (ord n k) := by
  have h1' : (big n).length < 2147483648 := h1
  unfold m_frac_nat_compare
  by_cases h : (big n).length = (big k).length
  · rw [if_neg (by simp [h]), wi ⟨by omega, by omega⟩, Option.bind_some, frac_cmp_run (big_dg n) (big_dg k) h h1 fu (big n).length (by omega) (by unfold fu; omega), List.take_length, h, List.take_length, big_nv, big_nv]
  · rw [if_pos (by simp; omega)]
    by_cases c : (big n).length < (big k).length
    · have := big_lt_of_len c
      rw [if_pos (by simpa using c)]
      unfold ord; rw [if_pos (by omega)]
    · have := big_lt_of_len (show (big k).length < (big n).length by omega)
      rw [if_neg (by simpa using c)]
      unfold ord; rw [if_neg (by omega), if_pos (by omega)]
theorem ref01_below_run {a b : List Int} (ha : Dg a) (hb : Dg b) (hl : a.length = b.length) (hla : a.length < LN) : ∀ (f : Nat) (i : Nat), i ≤ a.length → i < f → m_ref01_below_l1 a b f ((i : Int) - 1) = some (decide (nv (a.take i) < nv (b.take i)))
  | 0, _, _, h => absurd h (by omega)
  | f + 1, 0, hi, hf => by rw [m_ref01_below_l1]; simp
  | f + 1, i + 1, hi, hf => by
    have hla' : a.length < 2147483648 := hla
    rw [m_ref01_below_l1, show (((i + 1 : Nat) : Int) - 1) = (i : Int) by omega]
    have h1 : i < a.length := by omega
    have h2 : i < b.length := by omega
    have hx := nv_bd (ha.take i)
    have hy := nv_bd (hb.take i)
    rw [List.length_take, Nat.min_eq_left (by omega)] at hx hy
    rw [lat_some h1, lat_some h2, nv_take_succ h1, nv_take_succ h2]
    generalize a[i] = p
    generalize b[i] = q
    simp only [show decide (0 ≤ (i : Int)) = true by simp, if_true, Option.bind_some]
    by_cases c : p = q
    · subst c
      rw [if_neg (by simp), wi ⟨by omega, by omega⟩, ref01_below_run ha hb hl hla f i (by omega) (by omega)]
      congr 2
      apply propext; omega
    · rw [if_pos (by simpa using c)]
      congr 2
      apply propext
      constructor
      · intro h; exact cmp_step hx hy h
      · intro h
        rcases Int.lt_or_lt_of_ne c with h3 | h3
        · exact h3
        · have := cmp_step hy hx h3; omega
theorem ref01_below {n k : Nat} (h1 : (big n).length < LN) (h2 : (big k).length < LN) : m_ref01_below (big n) (big k) = some (decide (n < k)) := by
  have h1' : (big n).length < 2147483648 := h1
  unfold m_ref01_below
  by_cases h : (big n).length = (big k).length
  · rw [if_neg (by simp [h]), wi ⟨by omega, by omega⟩, Option.bind_some, ref01_below_run (big_dg n) (big_dg k) h h1 fu (big n).length (by omega) (by unfold fu; omega), List.take_length, h, List.take_length, big_nv, big_nv]
    congr 2
    apply propext; omega
  · rw [if_pos (by simp; omega)]
    by_cases c : (big n).length < (big k).length
    · have := big_lt_of_len c
      rw [show decide (((big n).length : Int) < ((big k).length : Int)) = true by simpa using c, decide_eq_true this]
    · have := big_lt_of_len (show (big k).length < (big n).length by omega)
      rw [show decide (((big n).length : Int) < ((big k).length : Int)) = false by simpa using c, decide_eq_false (by omega)]

/-! ### Minus -/
theorem step_sub {o : List Int} {x r s y : Int} (h : x = y + 4294967296 * s) : nv (o ++ [x]) + bp (o ++ [x]).length * (r - s) = nv o + bp o.length * (y + 4294967296 * r) := by
  subst h
  rw [nv_app, nv_one, List.length_append, List.length_singleton, bp_succ]
  grind
theorem sub_end {o : List Int} (hd : Dg o) {t : Int} (ht : 0 ≤ t) (h : 0 ≤ nv o - bp o.length * t) : nv o - bp o.length * t = nv o := by
  have hb := nv_bd hd
  have : t = 0 := by
    rcases Int.lt_or_le 0 t with h1 | h1
    · have h2 : bp o.length * 1 ≤ bp o.length * t := Int.mul_le_mul_of_nonneg_left (by omega) (by omega)
      omega
    · omega
  subst this; simp
theorem set_mid {o : List Int} {k : Nat} {x : Int} : (o ++ List.replicate (k + 1) 0).set o.length x = (o ++ [x]) ++ List.replicate k 0 := by
  rw [List.set_append_right _ _ (by omega), Nat.sub_self, List.replicate_succ, List.set_cons_zero]; simp
theorem frac_minus_run {a b : List Int} (ha : Dg a) (hb : Dg b) (hla : a.length < LN) (hlb : b.length < LN) : ∀ (f : Nat) (o : List Int) (c : Int) (i : Nat), i ≤ a.length → a.length - i < f → Dg o → o.length = i → 0 ≤ c ∧ c ≤ 1 →
    0 ≤ nv o + bp o.length * (nv (a.drop i) - nv (b.drop i) - c) →
    m_frac_nat_minus_l1 a b f (o ++ List.replicate (a.length - i) 0) c i = some (big (nv o + bp o.length * (nv (a.drop i) - nv (b.drop i) - c)).toNat)
  | 0, _, _, _, _, h, _, _, _, _ => absurd h (by omega)
  | f + 1, o, c, i, hi, hf, hd, ho, hc, hp => by
    have hla' : a.length < 2147483648 := hla
    have hlb' : b.length < 2147483648 := hlb
    rw [m_frac_nat_minus_l1]
    have e2 : wi64 ((i : Int) + 1) = ((i + 1 : Nat) : Int) := by rw [wi ⟨by omega, by omega⟩]; omega
    have hx := da_bd ha i
    have hy := da_bd hb i
    by_cases h : i < a.length
    · obtain ⟨k, hk⟩ : ∃ k, a.length - i = k + 1 := ⟨a.length - i - 1, by omega⟩
      have hk2 : a.length - (i + 1) = k := by omega
      rw [hk]
      have fin : ∀ (x s : Int), x = da a i - da b i - c + 4294967296 * s → 0 ≤ x ∧ x < 4294967296 → 0 ≤ s ∧ s ≤ 1 → m_frac_nat_minus_j2 i (o ++ List.replicate (k + 1) 0) (m_frac_nat_minus_l1 a b f) x s = some (big (nv o + bp o.length * (nv (a.drop i) - nv (b.drop i) - c)).toNat) := fun x s hxs hx0 hs => by
        have e3 := step_sub (o := o) (r := nv (a.drop (i + 1)) - nv (b.drop (i + 1))) hxs
        have e4 : nv o + bp o.length * (nv (a.drop i) - nv (b.drop i) - c) = nv o + bp o.length * (da a i - da b i - c + 4294967296 * (nv (a.drop (i + 1)) - nv (b.drop (i + 1)))) := by rw [nv_da a i, nv_da b i]; grind
        unfold m_frac_nat_minus_j2
        rw [if_pos ⟨by omega, by rw [List.length_append, List.length_replicate, ho]; omega⟩, show Int.toNat (i : Int) = o.length by omega, set_mid, wu32_id hx0, e2]
        have := frac_minus_run ha hb hla hlb f (o ++ [x]) s (i + 1) (by omega) (by omega) (hd.app (Dg.mk hx0 Dg.nil)) (by simp [ho]) hs (by rw [e3, ← e4]; exact hp)
        rw [hk2] at this
        rw [this, e3, ← e4]
      have third : m_frac_nat_minus_j1 i (o ++ List.replicate (k + 1) 0) (m_frac_nat_minus_l1 a b f) (da a i - c - da b i) = some (big (nv o + bp o.length * (nv (a.drop i) - nv (b.drop i) - c)).toNat) := by
        unfold m_frac_nat_minus_j1
        by_cases hn : da a i - c - da b i < 0
        · rw [if_pos (by simpa using hn), wi ⟨by omega, by omega⟩]
          exact fin _ 1 (by omega) ⟨by omega, by omega⟩ ⟨by omega, by omega⟩
        · rw [if_neg (by simpa using hn)]
          exact fin _ 0 (by omega) ⟨by omega, by omega⟩ ⟨by omega, by omega⟩
      rw [lat_some h]
      have e : a[i] = da a i := by unfold da; rw [dif_pos h]
      rw [e]
      simp only [show decide ((i : Int) < (a.length : Int)) = true by simp; exact h, if_true, Option.bind_some]
      rw [wi (p := da a i) ⟨by omega, by omega⟩, wi (p := da a i - c) ⟨by omega, by omega⟩]
      by_cases h2 : i < b.length
      · rw [lat_some h2]
        have e : b[i] = da b i := by unfold da; rw [dif_pos h2]
        rw [e]
        simp only [show decide ((i : Int) < (b.length : Int)) = true by simp; exact h2, if_true, Option.bind_some]
        rw [wi (p := da b i) ⟨by omega, by omega⟩, wi ⟨by omega, by omega⟩]
        exact third
      · have e : da b i = 0 := by unfold da; rw [dif_neg h2]
        simp only [show decide ((i : Int) < (b.length : Int)) = false by simp; omega, Bool.false_eq_true, if_false]
        rw [e, Int.sub_zero] at third
        exact third
    · have hia : i = a.length := by omega
      have hbn := nv_bd (hb.drop i)
      simp only [show decide ((i : Int) < (a.length : Int)) = false by simp; omega, Bool.false_eq_true, if_false]
      rw [show a.length - i = 0 by omega, List.replicate_zero, List.append_nil, frac_norm hd (by show o.length ≤ 2147483648; omega), Option.bind_some]
      rw [nv_drop_nil (l := a) (by omega)] at hp ⊢
      have e : nv o + bp o.length * (0 - nv (b.drop i) - c) = nv o - bp o.length * (nv (b.drop i) + c) := by grind
      rw [e] at hp ⊢
      rw [sub_end hd (by omega) hp]
theorem sub_fin {n k : Nat} (h : k ≤ n) : (nv [] + bp ([] : List Int).length * (nv ((big n).drop 0) - nv ((big k).drop 0) - 0)).toNat = n - k := by
  rw [List.drop_zero, List.drop_zero, big_nv, big_nv, nv_nil]
  show (0 + bp 0 * ((n : Int) - k - 0)).toNat = n - k
  rw [bp_zero]; omega
theorem sub_fin0 {n k : Nat} (h : k ≤ n) : 0 ≤ nv [] + bp ([] : List Int).length * (nv ((big n).drop 0) - nv ((big k).drop 0) - 0) := by
  rw [List.drop_zero, List.drop_zero, big_nv, big_nv, nv_nil]
  show 0 ≤ 0 + bp 0 * ((n : Int) - k - 0)
  rw [bp_zero]; omega
theorem frac_minus {n k : Nat} (h1 : (big n).length < LN) (h2 : (big k).length < LN) (h : k ≤ n) : m_frac_nat_minus (big n) (big k) = some (big (n - k)) := by
  have h1' : (big n).length < 2147483648 := h1
  unfold m_frac_nat_minus
  have e : lmake (0 : Int) ((big n).length : Int) ((big n).length : Int) = some (List.replicate (big n).length 0) := by
    unfold lmake; rw [if_pos ⟨by omega, by omega, by show _ ≤ (4294967296 : Int); omega⟩]; rfl
  rw [e, Option.bind_some]
  have := frac_minus_run (big_dg n) (big_dg k) h1 h2 fu [] 0 0 (by omega) (by unfold fu; omega) Dg.nil rfl ⟨by omega, by omega⟩ (sub_fin0 h)
  rw [show ((0 : Nat) : Int) = 0 from rfl] at this
  rw [List.nil_append, Nat.sub_zero] at this
  rw [this, sub_fin h]
theorem ref01_less_run {a b : List Int} (ha : Dg a) (hb : Dg b) (hla : a.length < LN) (hlb : b.length < LN) : ∀ (f : Nat) (o : List Int) (c : Int) (i : Nat), i ≤ a.length → a.length - i < f → Dg o → o.length = i → 0 ≤ c ∧ c ≤ 1 →
    0 ≤ nv o + bp o.length * (nv (a.drop i) - nv (b.drop i) - c) →
    m_ref01_less_l1 a b f o c i = some (big (nv o + bp o.length * (nv (a.drop i) - nv (b.drop i) - c)).toNat)
  | 0, _, _, _, _, h, _, _, _, _ => absurd h (by omega)
  | f + 1, o, c, i, hi, hf, hd, ho, hc, hp => by
    have hla' : a.length < 2147483648 := hla
    have hlb' : b.length < 2147483648 := hlb
    rw [m_ref01_less_l1]
    have e2 : wi64 ((i : Int) + 1) = ((i + 1 : Nat) : Int) := by rw [wi ⟨by omega, by omega⟩]; omega
    have hx := da_bd ha i
    have hy := da_bd hb i
    by_cases h : i < a.length
    · have fin : m_ref01_less_j1 o (m_ref01_less_l1 a b f) i (4294967296 + da a i - c - da b i) = some (big (nv o + bp o.length * (nv (a.drop i) - nv (b.drop i) - c)).toNat) := by
        unfold m_ref01_less_j1
        have hdm := Int.mul_ediv_add_emod (4294967296 + da a i - c - da b i) 4294967296
        have hm1 := Int.emod_nonneg (4294967296 + da a i - c - da b i) (show (4294967296 : Int) ≠ 0 by decide)
        have hm2 := Int.emod_lt_of_pos (4294967296 + da a i - c - da b i) (show (0 : Int) < 4294967296 by decide)
        rw [Int.tmod_eq_emod_of_nonneg (by omega), Int.tdiv_eq_ediv_of_nonneg (by omega)]
        generalize (4294967296 + da a i - c - da b i) % 4294967296 = x at hdm hm1 hm2 ⊢
        generalize (4294967296 + da a i - c - da b i) / 4294967296 = q at hdm ⊢
        have hq : 0 ≤ q ∧ q ≤ 1 := by omega
        rw [wu (p := q) ⟨by omega, by omega⟩, wu (p := 1 - q) ⟨by omega, by omega⟩, lapp_one (by show o.length ≤ 2147483648; omega)]
        simp only [Option.bind_some]
        have hxs : x = da a i - da b i - c + 4294967296 * (1 - q) := by omega
        have e3 := step_sub (o := o) (r := nv (a.drop (i + 1)) - nv (b.drop (i + 1))) hxs
        have e4 : nv o + bp o.length * (nv (a.drop i) - nv (b.drop i) - c) = nv o + bp o.length * (da a i - da b i - c + 4294967296 * (nv (a.drop (i + 1)) - nv (b.drop (i + 1)))) := by rw [nv_da a i, nv_da b i]; grind
        rw [e2, ref01_less_run ha hb hla hlb f (o ++ [x]) (1 - q) (i + 1) (by omega) (by omega) (hd.app (Dg.mk ⟨hm1, hm2⟩ Dg.nil)) (by simp [ho]) ⟨by omega, by omega⟩ (by rw [e3, ← e4]; exact hp), e3, ← e4]
      rw [lat_some h]
      have e : a[i] = da a i := by unfold da; rw [dif_pos h]
      rw [e]
      simp only [show decide ((i : Int) < (a.length : Int)) = true by simp; exact h, if_true, Option.bind_some]
      rw [wu (p := 4294967296 + da a i) ⟨by omega, by omega⟩, wu (p := 4294967296 + da a i - c) ⟨by omega, by omega⟩]
      by_cases h2 : i < b.length
      · rw [lat_some h2]
        have e : b[i] = da b i := by unfold da; rw [dif_pos h2]
        rw [e]
        simp only [show decide ((i : Int) < (b.length : Int)) = true by simp; exact h2, if_true, Option.bind_some]
        rw [wu ⟨by omega, by omega⟩]
        exact fin
      · have e : da b i = 0 := by unfold da; rw [dif_neg h2]
        simp only [show decide ((i : Int) < (b.length : Int)) = false by simp; omega, Bool.false_eq_true, if_false]
        rw [e, Int.sub_zero] at fin
        exact fin
    · have hbn := nv_bd (hb.drop i)
      simp only [show decide ((i : Int) < (a.length : Int)) = false by simp; omega, Bool.false_eq_true, if_false]
      rw [ref01_trim hd (by show o.length ≤ 2147483648; omega), Option.bind_some]
      rw [nv_drop_nil (l := a) (by omega)] at hp ⊢
      have e : nv o + bp o.length * (0 - nv (b.drop i) - c) = nv o - bp o.length * (nv (b.drop i) + c) := by grind
      rw [e] at hp ⊢
      rw [sub_end hd (by omega) hp]
theorem ref01_less {n k : Nat} (h1 : (big n).length < LN) (h2 : (big k).length < LN) (h : k ≤ n) : m_ref01_less (big n) (big k) = some (big (n - k)) := by
  have h1' : (big n).length < 2147483648 := h1
  unfold m_ref01_less
  have := ref01_less_run (big_dg n) (big_dg k) h1 h2 fu [] 0 0 (by omega) (by unfold fu; omega) Dg.nil rfl ⟨by omega, by omega⟩ (sub_fin0 h)
  rw [show ((0 : Nat) : Int) = 0 from rfl] at this
  rw [this, sub_fin h]
end Go.Proofs.YtkmenmoiagkegaaDoor
