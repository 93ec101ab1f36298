/- Numbers of any size as digits to the base 2^32: what the program's functions on them compute. Conditions: at most 2^31 digits. -/
import Derived.Test.YtkmenmoiagkegaaDoorFn
namespace Go.Proofs.YtkmenmoiagkegaaDoor
open Go Go.RowKit Go.Vc
set_option linter.unusedVariables false
set_option linter.unusedSimpArgs false

/-! ### Digits -/
def nv : List Int → Int
  | [] => 0
  | d :: r => d + 4294967296 * nv r
def bp (n : Nat) : Int := 4294967296 ^ n
def Dg (l : List Int) : Prop := ∀ d ∈ l, 0 ≤ d ∧ d < 4294967296
/-- The digits of a number, the last one not zero. -/
def big (n : Nat) : List Int := if h : n = 0 then [] else ((n % 4294967296 : Nat) : Int) :: big (n / 4294967296)
termination_by n
decreasing_by omega
theorem bp_zero : bp 0 = 1 := rfl
theorem bp_succ (n : Nat) : bp (n + 1) = 4294967296 * bp n := by unfold bp; rw [Int.pow_succ, Int.mul_comm]
theorem bp_pos (n : Nat) : 0 < bp n := by
  induction n with
  | zero => decide
  | succ n ih => rw [bp_succ]; omega
theorem bp_le {m n : Nat} (h : m ≤ n) : bp m ≤ bp n := by
  induction h with
  | refl => exact Int.le_refl _
  | step _ ih => rw [bp_succ]; have := bp_pos m; omega
theorem bp_nat (n : Nat) : bp n = ((4294967296 ^ n : Nat) : Int) := by unfold bp; simp
theorem nv_nil : nv [] = 0 := rfl
theorem nv_cons (d : Int) (l : List Int) : nv (d :: l) = d + 4294967296 * nv l := rfl
theorem nv_app (l m : List Int) : nv (l ++ m) = nv l + bp l.length * nv m := by
  induction l with
  | nil => simp [nv_nil, bp_zero]
  | cons d l ih => rw [List.cons_append, nv_cons, nv_cons, ih, List.length_cons, bp_succ]; grind
theorem nv_one (d : Int) : nv [d] = d := by simp [nv]
theorem Dg.cons {d : Int} {l : List Int} (h : Dg (d :: l)) : (0 ≤ d ∧ d < 4294967296) ∧ Dg l := ⟨h d (by simp), fun x hx => h x (by simp [hx])⟩
theorem Dg.mk {d : Int} {l : List Int} (h1 : 0 ≤ d ∧ d < 4294967296) (h2 : Dg l) : Dg (d :: l) := fun x hx => by
  simp only [List.mem_cons] at hx
  rcases hx with rfl | hx
  · exact h1
  · exact h2 x hx
theorem Dg.nil : Dg [] := fun _ h => by simp at h
theorem Dg.app {l m : List Int} (h1 : Dg l) (h2 : Dg m) : Dg (l ++ m) := fun x hx => by
  rcases List.mem_append.1 hx with h | h
  · exact h1 x h
  · exact h2 x h
theorem Dg.left {l m : List Int} (h : Dg (l ++ m)) : Dg l := fun x hx => h x (List.mem_append_left _ hx)
theorem Dg.right {l m : List Int} (h : Dg (l ++ m)) : Dg m := fun x hx => h x (List.mem_append_right _ hx)
theorem Dg.take {l : List Int} (h : Dg l) (n : Nat) : Dg (l.take n) := fun x hx => h x (List.mem_of_mem_take hx)
theorem Dg.drop {l : List Int} (h : Dg l) (n : Nat) : Dg (l.drop n) := fun x hx => h x (List.mem_of_mem_drop hx)
theorem nv_bd {l : List Int} (h : Dg l) : 0 ≤ nv l ∧ nv l < bp l.length := by
  induction l with
  | nil => decide
  | cons d l ih =>
    obtain ⟨h1, h2⟩ := h.cons
    have := ih h2
    rw [nv_cons, List.length_cons, bp_succ]
    omega
theorem big_zero : big 0 = [] := by rw [big]; rfl
theorem big_pos {n : Nat} (h : n ≠ 0) : big n = ((n % 4294967296 : Nat) : Int) :: big (n / 4294967296) := by rw [big]; simp [h]
theorem big_dg (n : Nat) : Dg (big n) := by
  induction n using Nat.strongRecOn with
  | _ n ih =>
    by_cases h : n = 0
    · subst h; rw [big_zero]; exact Dg.nil
    · rw [big_pos h]; exact Dg.mk ⟨by omega, by show _ < (4294967296 : Int); omega⟩ (ih _ (by omega))
theorem big_nv (n : Nat) : nv (big n) = n := by
  induction n using Nat.strongRecOn with
  | _ n ih =>
    by_cases h : n = 0
    · subst h; rw [big_zero]; rfl
    · rw [big_pos h, nv_cons, ih _ (by omega)]
      show _ + (4294967296 : Int) * _ = _
      omega
theorem big_nil {n : Nat} : big n = [] ↔ n = 0 := by
  constructor
  · intro h; have := big_nv n; rw [h] at this; simp [nv] at this; omega
  · intro h; subst h; exact big_zero
theorem big_len_lt (n k : Nat) (h : (n : Int) < bp k) : (big n).length ≤ k := by
  induction k generalizing n with
  | zero => rw [bp_zero] at h; have : n = 0 := by omega
            subst this; rw [big_zero]; simp
  | succ k ih =>
    by_cases h0 : n = 0
    · subst h0; rw [big_zero]; simp
    · rw [big_pos h0, List.length_cons]
      have := ih (n / 4294967296) (by rw [bp_succ] at h; have h : (n : Int) < 4294967296 * bp k := h; omega)
      omega
theorem big_len_ge {n : Nat} (h : n ≠ 0) : bp ((big n).length - 1) ≤ n := by
  induction n using Nat.strongRecOn with
  | _ n ih =>
    rw [big_pos h, List.length_cons, Nat.add_sub_cancel]
    by_cases h0 : n / 4294967296 = 0
    · rw [h0, big_zero]; show bp 0 ≤ _; rw [bp_zero]; omega
    · have h1 := ih (n / 4294967296) (by omega) h0
      have h2 : 0 < (big (n / 4294967296)).length := List.length_pos_iff.2 fun e => h0 (big_nil.1 e)
      obtain ⟨k, hk⟩ : ∃ k, (big (n / 4294967296)).length = k + 1 := ⟨(big (n / 4294967296)).length - 1, by omega⟩
      rw [hk, Nat.add_sub_cancel] at h1
      rw [hk, bp_succ]
      have : (4294967296 : Int) * bp k ≤ n := by omega
      exact this
/-- Digits without a leading zero are those of their number. -/
theorem big_of {l : List Int} (h : Dg l) (hl : l.getLast? ≠ some 0) : l = big (nv l).toNat := by
  induction l with
  | nil => rw [nv_nil]; exact big_zero.symm
  | cons d l ih =>
    obtain ⟨h1, h2⟩ := h.cons
    have hb := nv_bd h2
    by_cases h0 : l = []
    · subst h0
      rw [nv_one]
      have hd : d ≠ 0 := fun e => hl (by simp [e])
      have h1' : 0 ≤ d ∧ d < (4294967296 : Int) := h1
      rw [big_pos (by omega), show d.toNat / 4294967296 = 0 by omega, big_zero]
      congr 1; omega
    · have hl' : l.getLast? ≠ some 0 := by rwa [List.getLast?_cons_of_ne_nil h0] at hl
      have e := ih h2 hl'
      have hn : nv l ≠ 0 := fun e2 => h0 (by rw [e2] at e; simpa [big_zero] using e)
      have h1' : 0 ≤ d ∧ d < (4294967296 : Int) := h1
      rw [nv_cons]
      have h3 : (d + 4294967296 * nv l).toNat ≠ 0 := by show (d + 4294967296 * nv l).toNat ≠ 0; omega
      rw [big_pos h3]
      have e1 : (((d + 4294967296 * nv l).toNat % 4294967296 : Nat) : Int) = d := by show (((d + 4294967296 * nv l).toNat % 4294967296 : Nat) : Int) = d; omega
      have e2 : (d + 4294967296 * nv l).toNat / 4294967296 = (nv l).toNat := by show (d + 4294967296 * nv l).toNat / 4294967296 = _; omega
      rw [e1, e2, ← e]
theorem lat_some {l : List Int} {i : Nat} (h : i < l.length) : lat l (i : Int) = some l[i] := by unfold lat; rw [if_pos (by omega)]; simp [h]
theorem drop_cons {l : List Int} {i : Nat} (h : i < l.length) : l.drop i = l[i] :: l.drop (i + 1) := List.drop_eq_getElem_cons h
theorem Dg.at_ {l : List Int} (h : Dg l) {i : Nat} (hi : i < l.length) : 0 ≤ l[i] ∧ l[i] < 4294967296 := h _ (List.getElem_mem hi)
theorem wu32_mod {x : Int} (h : 0 ≤ x) : wu32 x = x % 4294967296 := by simp [wu32, IntKind.wrap, IntKind.signed, IntKind.bits]
theorem wu32_id {x : Int} (h : 0 ≤ x ∧ x < 4294967296) : wu32 x = x := by rw [wu32_mod h.1]; omega
abbrev LN : Nat := 2147483648

/-! ### Leading zeros -/
theorem norm_run (m : Nat → List Int → Option (List Int)) (hm : ∀ f a, m (f + 1) a = (gd (decide (0 < (a.length : Int))) (lat a (wi64 ((a.length : Int) - 1)))).bind fun e1 => if ((decide (0 < (a.length : Int))) && (decide (e1 = 0))) = true then (lupto a (wi64 ((a.length : Int) - 1))).bind fun zs1 => m f zs1 else some a) :
    ∀ (f : Nat) (l : List Int), Dg l → l.length ≤ LN → l.length < f → m f l = some (big (nv l).toNat)
  | 0, _, _, _, h => absurd h (by omega)
  | f + 1, l, hd, hl, hf => by
    have hl' : l.length ≤ 2147483648 := hl
    rw [hm]
    by_cases h0 : l = []
    · subst h0; simp [gd, nv_nil, big_zero]
    · have hs := List.dropLast_concat_getLast h0
      have hlen : 0 < l.length := List.length_pos_iff.2 h0
      have e1 : wi64 ((l.length : Int) - 1) = ((l.length - 1 : Nat) : Int) := by rw [wi ⟨by omega, by omega⟩]; omega
      have hx : l[l.length - 1] = l.getLast h0 := (List.getLast_eq_getElem h0).symm
      rw [e1, lat_some (by omega), hx]
      have e2 : lupto l ((l.length - 1 : Nat) : Int) = some l.dropLast := by
        unfold lupto
        rw [if_pos ⟨by omega, by omega⟩, List.dropLast_eq_take]
        congr 2
      rw [e2]
      have hdl : decide (0 < (l.length : Int)) = true := by simp; exact hlen
      simp only [hdl, gd, if_true, Option.bind_some, Bool.true_and]
      by_cases hz : l.getLast h0 = 0
      · rw [if_pos (by simpa using hz)]
        have hd2 : Dg l.dropLast := by rw [← hs] at hd; exact hd.left
        rw [norm_run m hm f l.dropLast hd2 (by rw [List.length_dropLast]; omega) (by rw [List.length_dropLast]; omega)]
        have : nv l = nv l.dropLast := by
          rw [← hs, nv_app, hz, nv_one]; simp
        rw [this]
      · rw [if_neg (by simpa using hz)]
        congr 1
        exact big_of hd (by rw [List.getLast?_eq_some_getLast h0]; simpa using hz)
theorem frac_norm {l : List Int} (hd : Dg l) (hl : l.length ≤ LN) : m_frac_nat_norm l = some (big (nv l).toNat) :=
  norm_run m_frac_nat_norm_l1 (fun _ _ => rfl) fu l hd hl (by have : l.length ≤ 2147483648 := hl; unfold fu; omega)
theorem ref01_trim {l : List Int} (hd : Dg l) (hl : l.length ≤ LN) : m_ref01_trim l = some (big (nv l).toNat) :=
  norm_run m_ref01_trim_l1 (fun _ _ => rfl) fu l hd hl (by have : l.length ≤ 2147483648 := hl; unfold fu; omega)
theorem lapp_one {l : List Int} {d : Int} (h : l.length ≤ LN) : lapp l [d] = some (l ++ [d]) := by
  have h : l.length ≤ 2147483648 := h
  unfold lapp; rw [if_pos (by simp; show l.length + 1 ≤ 4294967296; omega)]

/-! ### Times -/
theorem step_mul {o : List Int} {c d by_ r : Int} (h : 0 ≤ c + d * by_) : nv (o ++ [(c + d * by_) % 4294967296]) + bp (o ++ [(c + d * by_) % 4294967296]).length * ((c + d * by_) / 4294967296 + by_ * r) = nv o + bp o.length * (c + by_ * (d + 4294967296 * r)) := by
  have h1 := Int.mul_ediv_add_emod (c + d * by_) 4294967296
  rw [nv_app, nv_one, List.length_append, List.length_singleton, bp_succ]
  generalize (c + d * by_) % 4294967296 = x at *
  generalize (c + d * by_) / 4294967296 = y at *
  grind
theorem mul_bd2 {c d b : Int} (hc : 0 ≤ c ∧ c < 4294967296) (hd : 0 ≤ d ∧ d < 4294967296) (hb : 0 ≤ b ∧ b < 4294967296) : 0 ≤ d * b ∧ 0 ≤ c + d * b ∧ c + d * b < 18446744073709551616 ∧ (c + d * b) / 4294967296 < 4294967296 ∧ 0 ≤ (c + d * b) / 4294967296 := by
  have h1 : 0 ≤ d * b := Int.mul_nonneg hd.1 hb.1
  have h2 : d * b ≤ 4294967295 * 4294967295 := Int.mul_le_mul (by omega) (by omega) hb.1 (by omega)
  omega
theorem frac_times_run {a : List Int} {b : Int} (ha : Dg a) (hl : a.length < LN) (hb : 0 ≤ b ∧ b < 4294967296) : ∀ (f : Nat) (o : List Int) (c : Int) (i : Nat), i ≤ a.length → a.length - i < f → Dg o → o.length = i → 0 ≤ c ∧ c < 4294967296 →
    m_frac_nat_times_l1 a b f o c i = some (big (nv o + bp o.length * (c + b * nv (a.drop i))).toNat)
  | 0, _, _, _, _, h, _, _, _ => absurd h (by omega)
  | f + 1, o, c, i, hi, hf, hd, ho, hc => by
    have hl' : a.length < 2147483648 := hl
    rw [m_frac_nat_times_l1]
    by_cases h : i < a.length
    · have hx := ha.at_ h
      obtain ⟨q1, q2, q3, q4, q5⟩ := mul_bd2 hc hx hb
      rw [lat_some h, drop_cons h]
      generalize a[i] = d at hx q1 q2 q3 q4 q5
      simp only [show decide ((i : Int) < (a.length : Int)) = true by simp; exact h, if_true, Option.bind_some]
      rw [wu (p := d) ⟨by omega, by omega⟩, wu (p := b) ⟨by omega, by omega⟩, wu (p := d * b) ⟨by omega, by omega⟩, wu (p := c + d * b) ⟨by omega, by omega⟩, wu32_mod q2, lapp_one (by show o.length ≤ 2147483648; omega)]
      simp only [Option.bind_some]
      have e1 : Int.fdiv (c + d * b) (2 ^ 32) = (c + d * b) / 4294967296 := by rw [Int.fdiv_eq_ediv_of_nonneg _ (by decide)]; rfl
      have e2 : wi64 ((i : Int) + 1) = ((i + 1 : Nat) : Int) := by rw [wi ⟨by omega, by omega⟩]; omega
      rw [e1, e2, frac_times_run ha hl hb f _ _ (i + 1) (by omega) (by omega) (hd.app (Dg.mk ⟨Int.emod_nonneg _ (by decide), Int.emod_lt_of_pos _ (by decide)⟩ Dg.nil)) (by simp [ho]) ⟨q5, q4⟩, step_mul q2, nv_cons]
    · have e : a.drop i = [] := List.drop_eq_nil_of_le (by omega)
      simp only [show decide ((i : Int) < (a.length : Int)) = false by simp; omega, Bool.false_eq_true, if_false]
      rw [wu32_id hc, lapp_one (by show o.length ≤ 2147483648; omega), Option.bind_some, frac_norm (hd.app (Dg.mk hc Dg.nil)) (by simp; show o.length + 1 ≤ 2147483648; omega), Option.bind_some, e, nv_app, nv_one, nv_nil]
      simp
theorem frac_times {n b : Nat} (hl : (big n).length < LN) (hb : b < 4294967296) : m_frac_nat_times (big n) b = some (big (n * b)) := by
  have hl' : (big n).length < 2147483648 := hl
  unfold m_frac_nat_times
  have e : lmake (0 : Int) 0 (wi64 (((big n).length : Int) + 1)) = some [] := by
    rw [wi ⟨by omega, by omega⟩]
    unfold lmake; rw [if_pos ⟨by omega, by omega, by show _ ≤ (4294967296 : Int); omega⟩]; rfl
  rw [e, Option.bind_some]
  have := frac_times_run (a := big n) (b := b) (big_dg n) hl ⟨by omega, by omega⟩ fu [] 0 0 (by omega) (by unfold fu; omega) Dg.nil rfl ⟨by omega, by omega⟩
  rw [show ((0 : Nat) : Int) = 0 from rfl] at this
  rw [this, List.drop_zero, big_nv, nv_nil]
  congr 2
  show (0 + bp 0 * (0 + (b : Int) * n)).toNat = n * b
  rw [bp_zero, show (0 : Int) + 1 * (0 + (b : Int) * n) = ((n * b : Nat) : Int) by push_cast; grind]
  exact Int.toNat_natCast _
theorem ref01_times_run {a : List Int} {b : Int} (ha : Dg a) (hl : a.length < LN) (hb : 0 ≤ b ∧ b < 4294967296) : ∀ (f : Nat) (o : List Int) (c : Int) (i : Nat), i ≤ a.length → a.length - i < f → Dg o → o.length = i → 0 ≤ c ∧ c < 4294967296 →
    m_ref01_times_l1 a b f o c i = some (big (nv o + bp o.length * (c + b * nv (a.drop i))).toNat)
  | 0, _, _, _, _, h, _, _, _ => absurd h (by omega)
  | f + 1, o, c, i, hi, hf, hd, ho, hc => by
    have hl' : a.length < 2147483648 := hl
    rw [m_ref01_times_l1]
    by_cases h : i < a.length
    · have hx := ha.at_ h
      obtain ⟨q1, q2, q3, q4, q5⟩ := mul_bd2 hc hx hb
      rw [lat_some h, drop_cons h]
      generalize a[i] = d at hx q1 q2 q3 q4 q5
      simp only [show decide ((i : Int) < (a.length : Int)) = true by simp; exact h, if_true, Option.bind_some]
      rw [wu (p := d * b) ⟨by omega, by omega⟩, Int.add_comm (d * b) c, wu (p := c + d * b) ⟨by omega, by omega⟩, Int.tmod_eq_emod_of_nonneg q2, Int.tdiv_eq_ediv_of_nonneg q2, wu (p := (c + d * b) / 4294967296) ⟨by omega, by omega⟩, lapp_one (by show o.length ≤ 2147483648; omega)]
      simp only [Option.bind_some]
      have e2 : wi64 ((i : Int) + 1) = ((i + 1 : Nat) : Int) := by rw [wi ⟨by omega, by omega⟩]; omega
      rw [e2, ref01_times_run ha hl hb f _ _ (i + 1) (by omega) (by omega) (hd.app (Dg.mk ⟨Int.emod_nonneg _ (by decide), Int.emod_lt_of_pos _ (by decide)⟩ Dg.nil)) (by simp [ho]) ⟨q5, q4⟩, step_mul q2, nv_cons]
    · have e : a.drop i = [] := List.drop_eq_nil_of_le (by omega)
      simp only [show decide ((i : Int) < (a.length : Int)) = false by simp; omega, Bool.false_eq_true, if_false]
      rw [lapp_one (by show o.length ≤ 2147483648; omega), Option.bind_some, ref01_trim (hd.app (Dg.mk hc Dg.nil)) (by simp; show o.length + 1 ≤ 2147483648; omega), Option.bind_some, e, nv_app, nv_one, nv_nil]
      simp
theorem ref01_times {n b : Nat} (hl : (big n).length < LN) (hb : b < 4294967296) : m_ref01_times (big n) b = some (big (n * b)) := by
  have hl' : (big n).length < 2147483648 := hl
  unfold m_ref01_times
  have := ref01_times_run (a := big n) (b := b) (big_dg n) hl ⟨by omega, by omega⟩ fu [] 0 0 (by omega) (by unfold fu; omega) Dg.nil rfl ⟨by omega, by omega⟩
  rw [show ((0 : Nat) : Int) = 0 from rfl] at this
  rw [this, List.drop_zero, big_nv, nv_nil]
  congr 2
  show (0 + bp 0 * (0 + (b : Int) * n)).toNat = n * b
  rw [bp_zero, show (0 : Int) + 1 * (0 + (b : Int) * n) = ((n * b : Nat) : Int) by push_cast; grind]
  exact Int.toNat_natCast _
end Go.Proofs.YtkmenmoiagkegaaDoor
