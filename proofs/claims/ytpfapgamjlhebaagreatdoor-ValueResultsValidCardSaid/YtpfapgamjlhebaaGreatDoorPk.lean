/- The laws of Format and Parse of values, and that results are valid, in plain terms. Conditions: the ranges of int and int64. -/
import Derived.Test.YtpfapgamjlhebaaGreatDoorFn
namespace Go.Proofs.YtpfapgamjlhebaaGreatDoor
open Go Go.RowKit Go.Vc
set_option linter.unusedVariables false
set_option linter.unusedSimpArgs false

/-! ### Format and Parse -/
theorem parse_err {s : List UInt8} (h : (parseS s).2 ≠ 0) : (parseS s).1 = ⟨0, 0⟩ := by
  have fin : ∀ neg d b, (parseFin neg d b).2 ≠ 0 → (parseFin neg d b).1 = ⟨0, 0⟩ := fun neg d b h => by
    unfold parseFin at h ⊢
    by_cases c : dval d ≤ 2147483647 ∧ dval b ≤ 2147483647
    · rw [if_pos c] at h ⊢
      by_cases hf : frOK ⟨if neg = true then -(dval d : Int) else dval d, dval b⟩ = true
      · rw [if_pos hf] at h; exact absurd rfl h
      · rw [if_neg hf]
    · rw [if_neg c]
  have tb : ∀ t b, (parseTB t b).2 ≠ 0 → (parseTB t b).1 = ⟨0, 0⟩ := fun t b h => by
    unfold parseTB at h ⊢
    by_cases c : wholeB t = true
    · rw [if_pos c] at h ⊢
      cases b with
      | none => exact fin _ _ _ h
      | some b =>
        dsimp only at h ⊢
        by_cases c2 : (decB b && !decide (b = [48]) && !decide (b = [49])) = true
        · rw [if_pos c2] at h ⊢; exact fin _ _ _ h
        · rw [if_neg c2]
    · rw [if_neg c]
  unfold parseS at h ⊢
  split at h <;> exact tb _ _ h
theorem parse_ok {s : List UInt8} (h : (parseS s).2 = 0) : frOK (parseS s).1 = true ∧ fmtS (parseS s).1 = s := fmt_parse (v := (parseS s).1) (by rw [← h])
/-- What both read. -/
def vparse (t : GType) (s : List UInt8) : GVal × Int :=
  if tyB t = true then
    if (parseS s).2 ≠ 0 then (⟨0, 0⟩, (parseS s).2)
    else if t.Kind = 1 then ((parseS s).1, 0)
    else if t.Kind = 3 then (if (parseS s).1.D = 1 then ((parseS s).1, 0) else (⟨0, 0⟩, 5))
    else if Int.tmod (pw t.Frac) (parseS s).1.D = 0 then
      (if okV t ⟨(parseS s).1.N * Int.tdiv (pw t.Frac) (parseS s).1.D, 1⟩ = true then (⟨(parseS s).1.N * Int.tdiv (pw t.Frac) (parseS s).1.D, 1⟩, 0) else (⟨0, 0⟩, 3))
    else (⟨0, 0⟩, 5)
  else (⟨0, 0⟩, 10)
theorem quo_bd {v : GVal} {f : Int} (hv : frOK v = true) (h0 : 0 ≤ f) (h : f ≤ 30) : 0 ≤ Int.tdiv (pw f) v.D ∧ Int.tdiv (pw f) v.D ≤ 1073741824 ∧ -2305843009213693952 ≤ v.N * Int.tdiv (pw f) v.D ∧ v.N * Int.tdiv (pw f) v.D ≤ 2305843009213693952 := by
  obtain ⟨a1, a2, a3, a4, a5⟩ := frOK_bd hv
  have hp := pw_bd h
  have hq := (tdiv_bd (n := pw f) (d := v.D) (by omega)).1 (by omega)
  have := mul_bd (x := v.N) (y := Int.tdiv (pw f) v.D) (B := 2147483648) ⟨by omega, by omega⟩ ⟨by omega, by omega⟩
  have h3 := Int.mul_le_mul_of_nonneg_right a4 hq.1
  have h4 := Int.mul_le_mul_of_nonneg_right a3 hq.1
  refine ⟨by omega, by omega, by omega, by omega⟩
theorem value_Parse {t : GType} {s : List UInt8} (hl : s.length ≤ 4294967296) : m_value_Parse t s = some (vparse t s) := by
  unfold m_value_Parse vparse
  rw [value_ValidateType]
  cases ht : tyB t
  · rfl
  rw [frac_Parse hl]
  simp only [if_true, Option.bind_some, decide_true, Bool.not_true, Bool.false_eq_true, if_false]
  by_cases h0 : (parseS s).2 = 0
  · obtain ⟨hv, _⟩ := parse_ok h0
    simp only [h0, decide_true, Bool.not_true, Bool.false_eq_true, if_false, ne_eq, not_true_eq_false]
    revert hv
    generalize (parseS s).1 = v
    intro hv
    obtain ⟨a1, a2, a3, a4, a5⟩ := frOK_bd hv
    by_cases k3 : t.Kind = 3
    · by_cases hd : v.D = 1
      · simp [k3, hd]
      · simp [k3, hd]
    by_cases k2 : t.Kind = 2
    · obtain ⟨q1, q2, q3, q4, q5, q6, q7⟩ := tyB_fix ht k2
      have hp := pw_bd (n := t.Frac) q4
      obtain ⟨b1, b2, b3, b4⟩ := quo_bd hv q3 q4
      simp only [k2, show decide ((2 : Int) = 3) = false from rfl, Bool.false_eq_true, if_false, decide_true, if_true, q3, pw_sh' q3 q4, Int.one_mul, show ¬ ((2 : Int) = 1) by decide, show ¬ ((2 : Int) = 3) by decide, decide_false]
      rw [wi (p := pw t.Frac) ⟨by omega, by omega⟩, if_pos (by omega), wi (p := Int.tdiv (pw t.Frac) v.D) ⟨by omega, by omega⟩, wi (p := v.N * Int.tdiv (pw t.Frac) v.D) ⟨by omega, by omega⟩, fixed_Valid _ ht k2]
      by_cases hm : Int.tmod (pw t.Frac) v.D = 0
      · cases ho : okV t ⟨v.N * Int.tdiv (pw t.Frac) v.D, 1⟩ <;> simp [hm]
      · simp [hm]
    · have k1 : t.Kind = 1 := by rcases tyB_kind ht with k | k | k; exact k; exact absurd k k2; exact absurd k k3
      simp [k1]
  · simp [h0]
theorem ref04_Parse {t : GType} {s : List UInt8} (hl : s.length ≤ 4294967296) : m_ref04_Parse t s = some (vparse t s) := by
  unfold m_ref04_Parse vparse
  rw [base_Type]
  cases ht : tyB t
  · rfl
  rw [ref01_Parse hl]
  simp only [if_true, Option.bind_some, Bool.not_true, Bool.false_eq_true, if_false]
  by_cases h0 : (parseS s).2 = 0
  · obtain ⟨hv, _⟩ := parse_ok h0
    simp only [h0, decide_true, Bool.not_true, Bool.false_or, Bool.false_eq_true, if_false, ne_eq, not_true_eq_false]
    revert hv
    generalize (parseS s).1 = v
    intro hv
    obtain ⟨a1, a2, a3, a4, a5⟩ := frOK_bd hv
    by_cases k1 : t.Kind = 1
    · simp [k1]
    by_cases k3 : t.Kind = 3
    · by_cases hd : v.D = 1
      · simp [k3, hd]
      · simp [k3, hd]
    have k2 : t.Kind = 2 := by rcases tyB_kind ht with k | k | k; exact absurd k k1; exact k; exact absurd k k3
    obtain ⟨q1, q2, q3, q4, q5, q6, q7⟩ := tyB_fix ht k2
    have hp := pw_bd (n := t.Frac) q4
    obtain ⟨b1, b2, b3, b4⟩ := quo_bd hv q3 q4
    rw [ref04_step q3 q4]
    simp only [k1, k3, decide_false, Bool.false_eq_true, if_false, Option.bind_some]
    rw [if_pos (by omega), wi (p := Int.tdiv (pw t.Frac) v.D) ⟨by omega, by omega⟩, wi (p := v.N * Int.tdiv (pw t.Frac) v.D) ⟨by omega, by omega⟩, base_Val ht ⟨⟨by simp only; omega, by simp only; omega⟩, ⟨by simp only; omega, by simp only; omega⟩⟩]
    by_cases hm : Int.tmod (pw t.Frac) v.D = 0
    · cases ho : okV t ⟨v.N * Int.tdiv (pw t.Frac) v.D, 1⟩ <;> simp [hm]
    · simp [hm]
  · have e := parse_err h0
    simp [h0, e]
theorem value_Format {t : GType} {v : GVal} (hv : VaR v) : ∃ x, (tyB t = true → okV t v = true → m_value_fraction t v = some x ∧ frOK x = true) ∧ m_value_Format t v = some (if tyB t && okV t v then fmtS x else []) ∧ m_ref04_Format t v = some (if tyB t && okV t v then fmtS x else []) := by
  unfold m_value_Format m_ref04_Format
  rw [value_Valid hv, ref04_Valid hv]
  cases ht : tyB t
  · exact ⟨default, fun h => (by cases h), rfl, rfl⟩
  cases ho : okV t v
  · exact ⟨default, fun _ h => (by cases h), rfl, rfl⟩
  obtain ⟨x, e1, e2, hx⟩ := fraction ht ho
  refine ⟨x, fun _ _ => ⟨e1, hx⟩, ?_, ?_⟩
  · simp [e1, frac_Format (frVaR hx)]
  · simp [e2, ref01_Format (frVaR hx)]
theorem law_ValueFormat (t : GType) (v : GVal) (s : List UInt8) (_ : okGType t) (hv : okGVal v) (hs : okS s) : m_law04_ValueFormat t v s = some true := by
  unfold m_law04_ValueFormat
  rw [ex04]
  by_cases hl : (100 : Int) < (s.length : Int)
  · simp [hl]
  · rw [if_neg (by simpa using hl), value_Parse (by omega), ref04_Parse (by omega)]
    obtain ⟨x, _, h1, h2⟩ := value_Format (t := t) (VaR.of hv)
    rw [h1, h2]
    simp [gd]

/-! ### Results are valid -/
theorem fixed_apply_ok {t : GType} {a b q : GVal} {m : GType → Int → Int → Option (Int × Int)} (ht : tyB t = true) (h2 : t.Kind = 2) (ha : okV t a = true) (hb : okV t b = true) (h : m_fixed_apply ⟨m⟩ t a b = some (q, 0)) : okV t q = true := by
  cases hm : m t a.N b.N with
  | none => unfold m_fixed_apply at h; rw [fixed_check2 ht h2 ha hb] at h; simp [hm] at h
  | some r =>
    obtain ⟨n, e⟩ := r
    rw [fixed_apply ht h2 ha hb hm] at h
    by_cases he : e = 0
    · rw [if_pos he] at h
      injection h with h; injection h with h _
      subst h
      have := nar_bd ht h2 n
      unfold okV; rw [if_pos h2]; simp <;> omega
    · rw [if_neg he] at h
      injection h with h; injection h with _ h
      exact absurd h he
theorem whole_ok {t : GType} {n : Int} {q : GVal} (h3 : t.Kind = 3) (h : m_value_integer_j1 n = some (q, 0)) : okV t q = true := by
  unfold m_value_integer_j1 m_value_whole at h
  simp only [Option.bind_some] at h
  split at h
  · injection h with h; injection h with _ h; cases h
  · rename_i hc
    injection h with h; injection h with h _
    subst h
    simp only [Bool.not_eq_true', Bool.not_eq_false, Bool.and_eq_true, decide_eq_true_eq] at hc
    unfold okV; simp [h3]; omega
theorem integer_ok {t : GType} {op a b : Int} {q : GVal} (h3 : t.Kind = 3) (h : m_value_integer op a b = some (q, 0)) : okV t q = true := by
  unfold m_value_integer at h
  simp only [Option.bind_some] at h
  repeat' split at h
  all_goals first | exact whole_ok h3 h | (injection h with h; injection h with _ h; cases h; done) | cases h
theorem frac_op_ok {a b q : GVal} (ha : frOK a = true) (hb : frOK b = true) : (m_frac_Add a b = some (q, 0) → frOK q = true) ∧ (m_frac_Sub a b = some (q, 0) → frOK q = true) ∧ (m_frac_Mul a b = some (q, 0) → frOK q = true) ∧ (m_frac_Div a b = some (q, 0) → frOK q = true) := by
  have R : ∀ x : Int, R64 (wi64 x) := fun x => by
    simp only [wi64, IntKind.wrap, IntKind.signed, IntKind.bits]
    constructor <;> simp <;> omega
  unfold m_frac_Add m_frac_Sub m_frac_Mul m_frac_Div
  simp only [frac_Valid (frVaR ha), frac_Valid (frVaR hb), ha, hb, gd, Option.bind_some, Bool.not_true, Bool.not_false, if_true, Bool.or_self, Bool.false_eq_true, if_false, bind_pair]
  exact ⟨fun h => (New_valid (R _) (R _) h).1, fun h => (New_valid (R _) (R _) h).1, fun h => (New_valid (R _) (R _) h).1, fun h => (New_valid (R _) (R _) h).1⟩
theorem arith_ok {op : Int} {t : GType} {a b q : GVal} (ht : tyB t = true) (ha : okV t a = true) (hb : okV t b = true) (h : m_value_arithmetic op t a b = some (q, 0)) : okV t q = true := by
  unfold m_value_arithmetic at h
  simp only [bind_pair] at h
  by_cases k3 : t.Kind = 3
  · rw [if_pos (by simpa using k3)] at h; exact integer_ok k3 h
  rw [if_neg (by simpa using k3)] at h
  by_cases k2 : t.Kind = 2
  · simp only [k2, decide_true, Bool.and_true, if_true, m_fixed_Add, m_fixed_Sub, m_fixed_Mul, m_fixed_Div, bind_pair] at h
    repeat' split at h
    all_goals exact fixed_apply_ok ht k2 ha hb h
  · have k1 : t.Kind = 1 := by rcases tyB_kind ht with k | k | k; exact k; exact absurd k k2; exact absurd k k3
    obtain ⟨p1, p2, p3, p4⟩ := frac_op_ok (q := q) (okV_fr k1 ha) (okV_fr k1 hb)
    have fin : frOK q = true → okV t q = true := fun hq => by unfold okV; simp [k1, hq]
    simp only [k2, decide_false, Bool.and_false, Bool.false_eq_true, if_false] at h
    repeat' split at h
    · exact fin (p1 h)
    · exact fin (p2 h)
    · exact fin (p3 h)
    · exact fin (p4 h)
theorem Apply_ok {op : Int} {t : GType} {a b q : GVal} (ha : VaR a) (hb : VaR b) (h : m_value_Apply op t a b = some (q, 0)) : tyB t = true ∧ okV t q = true := by
  unfold m_value_Apply m_value_Apply_j1 at h
  rw [value_ValidateType, value_Valid ha, value_Valid hb] at h
  by_cases hop : (decide (op < 4) || decide (10 < op)) = true
  · rw [if_pos hop] at h; injection h with h; injection h with _ h; cases h
  rw [if_neg hop] at h
  cases ht : tyB t
  · rw [ht] at h
    simp only [Bool.false_eq_true, if_false, Option.bind_some, show decide ((10 : Int) = 0) = false from rfl, Bool.not_false, if_true] at h
    injection h with h; injection h with _ h; cases h
  refine ⟨rfl, ?_⟩
  rw [ht] at h
  simp only [if_true, Option.bind_some, decide_true, Bool.not_true, Bool.false_eq_true, if_false, Bool.true_and, bind_pair] at h
  cases h1 : okV t a
  · rw [h1] at h
    simp only [Bool.not_false, Bool.not_true, Bool.false_and, gd, Bool.false_eq_true, if_false, Option.bind_some, Bool.true_or, if_true] at h
    injection h with h; injection h with _ h; cases h
  rw [h1] at h
  simp only [Bool.not_true, Bool.not_false, Bool.true_and, Bool.false_or] at h
  by_cases h8 : op = 8
  · subst h8
    simp only [decide_true, Bool.not_true, gd, Bool.false_eq_true, if_false, Option.bind_some, Bool.false_and, if_true, m_value_negate, bind_pair] at h
    by_cases k2 : t.Kind = 2
    · rw [if_pos (by simpa using k2)] at h
      unfold m_fixed_Neg at h
      rw [bind_pair] at h
      exact fixed_apply_ok ht k2 h1 h1 h
    · rw [if_neg (by simpa using k2)] at h
      injection h with h; injection h with h _
      subst h
      have fa := frOK_of ht h1
      obtain ⟨a1, a2, a3, a4, a5⟩ := frOK_bd fa
      rw [wi ⟨by omega, by omega⟩]
      rcases tyB_kind ht with k | k | k
      · unfold okV; simp only [k, show ¬ ((1 : Int) = 2) by decide, show ¬ ((1 : Int) = 3) by decide, if_false]
        unfold frOK; rw [Int.neg_gcd]; simp [a5]; omega
      · exact absurd k k2
      · obtain ⟨b1, b2, b3⟩ := okV_int k h1
        unfold okV; simp [k, b1]; omega
  · simp only [h8, decide_false, Bool.not_false, gd, if_true, Option.bind_some, Bool.true_and, Bool.false_eq_true, if_false] at h
    cases h2 : okV t b
    · rw [h2] at h
      simp only [Bool.not_false, if_true] at h
      injection h with h; injection h with _ h; cases h
    rw [h2] at h
    simp only [Bool.not_true, Bool.false_eq_true, if_false, value_Compare ha hb, Option.bind_some] at h
    have pick : ∀ c : Bool, (if c = true then some (b, (0 : Int)) else some (a, 0)) = some (q, 0) → okV t q = true := fun c h => by
      cases c
      · injection h with h; injection h with h _; subst h; exact h1
      · injection h with h; injection h with h _; subst h; exact h2
    by_cases h9 : op = 9
    · subst h9; simp only [decide_true, if_true] at h; exact pick _ h
    · simp only [h9, decide_false, Bool.false_eq_true, if_false] at h
      by_cases h10 : op = 10
      · subst h10; simp only [decide_true, if_true] at h; exact pick _ h
      · simp only [h10, decide_false, Bool.false_eq_true, if_false] at h
        exact arith_ok ht h1 h2 h
/-- What a cast of a valid number gives. -/
theorem Cast_spec {f t : GType} {v : GVal} (hv : VaR v) (hf : tyB f = true) (ht : tyB t = true) (h1 : okV f v = true) : ∃ x, m_value_fraction f v = some x ∧ frOK x = true ∧
    m_value_Cast f t v = some (if t.Kind = 3 then (⟨x.N / x.D, 1⟩, 0) else if t.Kind = 2 then (⟨nar t (rnd (x.N * pw t.Frac) x.D t.Round), 1⟩, 0) else (x, 0)) := by
  obtain ⟨x, e1, e2, hx⟩ := fraction hf h1
  refine ⟨x, e1, hx, ?_⟩
  unfold m_value_Cast
  rw [value_ValidateType, value_ValidateType, value_Valid hv, hf, ht, h1]
  obtain ⟨x1, x2, x3, x4, x5⟩ := frOK_bd hx
  simp only [Option.bind_some, gd, if_true, decide_true, Bool.not_true, Bool.not_false, Bool.or_self, Bool.false_eq_true, if_false, Bool.and_self, e1]
  by_cases k3 : t.Kind = 3
  · simp only [k3, decide_true, if_true]
    rw [frac_Floor hx]; rfl
  simp only [k3, decide_false, Bool.false_eq_true, if_false]
  by_cases k2 : t.Kind = 2
  · obtain ⟨q1, q2, q3, q4, q5, q6, q7⟩ := tyB_fix ht k2
    have hp := pw_bd (n := t.Frac) q4
    have hb2 : -2305843008139952128 ≤ x.N * pw t.Frac ∧ x.N * pw t.Frac ≤ 2305843008139952128 := by
      have h3 := Int.mul_le_mul_of_nonneg_right x4 (show 0 ≤ pw t.Frac by omega)
      have h4 := Int.mul_le_mul_of_nonneg_right x3 (show 0 ≤ pw t.Frac by omega)
      omega
    have hs : wi64 (x.N * pw t.Frac) = x.N * pw t.Frac := wi ⟨by omega, by omega⟩
    have e : dvd (x.N * pw t.Frac) x.D t.Round = rnd (x.N * pw t.Frac) x.D t.Round := by unfold dvd; rw [if_neg (by omega)]
    simp only [k2, decide_true, if_true, bind_pair]
    unfold m_fixed_FromFrac m_round_Quantize m_round_mode
    rw [fixed_ValidateType, frac_Valid (frVaR hx), hx]
    have c1 : decide (t.Frac < 0) = false := by simp; omega
    have c2 : decide (30 < t.Frac) = false := by simp; omega
    simp only [k2, ht, and_self, if_true, Option.bind_some, decide_true, Bool.not_true, Bool.not_false, Bool.false_eq_true, if_false, c1, c2, Bool.or_self, gd, q5, q6, Bool.and_self, pw_sh q3 q4, hs, bind_pair]
    rw [wu (p := t.Frac) ⟨by omega, by omega⟩, if_pos q3, round_Divide (by omega) ⟨by omega, by omega⟩ ⟨by omega, by omega⟩ q5 q6]
    simp only [Option.bind_some, decide_true, Bool.not_true, Bool.not_false, Bool.or_self, Bool.false_eq_true, if_false, if_true, fixed_narrow _ ht k2, e]
  · simp [k2]
theorem Cast_bad {f t : GType} {v : GVal} (hv : VaR v) (h : ¬ (tyB f = true ∧ tyB t = true ∧ okV f v = true)) : ∃ e, m_value_Cast f t v = some (⟨0, 0⟩, e) ∧ e ≠ 0 := by
  unfold m_value_Cast
  rw [value_ValidateType, value_ValidateType, value_Valid hv]
  cases hf : tyB f
  · exact ⟨10, by simp [gd], by decide⟩
  cases ht : tyB t
  · exact ⟨10, by simp [gd], by decide⟩
  cases ho : okV f v
  · exact ⟨1, by simp [gd], by decide⟩
  · exact absurd ⟨hf, ht, ho⟩ h
/-- A valid number of a fixed type as a fraction. -/
theorem fraction_fix {t : GType} {v x : GVal} (ht : tyB t = true) (k2 : t.Kind = 2) (hv : okV t v = true) (h : m_value_fraction t v = some x) : x.N * pw t.Frac = v.N * x.D := by
  obtain ⟨q1, q2, q3, q4, q5, q6, q7⟩ := tyB_fix ht k2
  obtain ⟨v1, v2, v3⟩ := okV_fix ht k2 hv
  have hp := pw_bd (n := t.Frac) q4
  obtain ⟨x', e1, _, hx⟩ := fraction ht hv
  rw [h] at e1
  injection e1 with e1
  subst e1
  unfold m_value_fraction m_fixed_ToFrac at h
  simp only [k2, decide_true, if_true, fixed_check1 ht k2 hv, Option.bind_some, Bool.not_true, Bool.false_eq_true, if_false, q3, pw_sh' q3 q4, Int.one_mul, bind_pair] at h
  rw [wi (p := pw t.Frac) ⟨by omega, by omega⟩] at h
  obtain ⟨q, e, a, b, h1, h2, h3, h4, h5⟩ := New_full (n := v.N) (d := pw t.Frac) ⟨by omega, by omega⟩ ⟨by omega, by omega⟩ (by omega)
  rw [h1, Option.bind_some] at h
  injection h with h
  dsimp only at h
  subst h
  rcases h5 with ⟨_, _, rfl⟩ | ⟨_, _, rfl⟩
  · obtain ⟨x1, _⟩ := frOK_bd hx
    simp at x1
  · exact h4
theorem fraction_other {t : GType} {v x : GVal} (k2 : t.Kind ≠ 2) (h : m_value_fraction t v = some x) : x = v := by
  unfold m_value_fraction at h
  rw [if_neg (by simpa using k2)] at h
  exact (Option.some.inj h).symm
theorem okV_same {t : GType} {v : GVal} (ht : tyB t = true) (k2 : t.Kind = 2) (hv : okV t v = true) : nar t v.N = v.N := by
  unfold okV at hv
  simp only [k2, if_true, decide_eq_true_eq] at hv
  unfold nar
  rw [if_pos ⟨hv.2.1, by omega⟩]
theorem rnd_mul {k d how : Int} (hd : 0 < d) : rnd (k * d) d how = k := by
  unfold rnd
  have h1 : k * d / d = k := Int.mul_ediv_cancel _ (by omega)
  have h2 : k * d % d = 0 := Int.mul_emod_left k d
  simp [h1, h2]
  try omega
theorem Cast_self {t : GType} {v : GVal} (hv : VaR v) (ht : tyB t = true) (h1 : okV t v = true) : m_value_Cast t t v = some (v, 0) := by
  obtain ⟨x, e1, hx, e2⟩ := Cast_spec hv ht ht h1
  rw [e2]
  obtain ⟨x1, x2, x3, x4, x5⟩ := frOK_bd hx
  by_cases k3 : t.Kind = 3
  · rw [if_pos k3]
    have := fraction_other (by omega) e1
    subst this
    obtain ⟨b1, _⟩ := okV_int k3 h1
    rw [b1, Int.ediv_one, ← b1]
  rw [if_neg k3]
  by_cases k2 : t.Kind = 2
  · rw [if_pos k2, fraction_fix ht k2 h1 e1, rnd_mul (by omega), okV_same ht k2 h1]
    obtain ⟨v1, _⟩ := okV_fix ht k2 h1
    rw [← v1]
  · rw [if_neg k2, fraction_other k2 e1]
theorem Cast_ok {f t : GType} {v q : GVal} (hv : VaR v) (h : m_value_Cast f t v = some (q, 0)) : tyB t = true ∧ okV t q = true := by
  by_cases hc : tyB f = true ∧ tyB t = true ∧ okV f v = true
  · obtain ⟨hf, ht, ho⟩ := hc
    refine ⟨ht, ?_⟩
    obtain ⟨x, e1, hx, e2⟩ := Cast_spec hv hf ht ho
    obtain ⟨x1, x2, x3, x4, x5⟩ := frOK_bd hx
    rw [e2] at h
    injection h with h
    by_cases k3 : t.Kind = 3
    · rw [if_pos k3] at h
      injection h with h _
      subst h
      obtain ⟨b1, b2, _⟩ := ediv_bd (n := x.N) (d := x.D) (by omega) (B := 2147483647) (by omega) ⟨by omega, by omega⟩
      unfold okV; simp [k3]; omega
    rw [if_neg k3] at h
    by_cases k2 : t.Kind = 2
    · rw [if_pos k2] at h
      injection h with h _
      subst h
      have := nar_bd ht k2 (rnd (x.N * pw t.Frac) x.D t.Round)
      unfold okV; rw [if_pos k2]; simp; omega
    · rw [if_neg k2] at h
      injection h with h _
      subst h
      have k1 : t.Kind = 1 := by rcases tyB_kind ht with k | k | k; exact k; exact absurd k k2; exact absurd k k3
      unfold okV; simp [k1, hx]
  · obtain ⟨e, h1, h2⟩ := Cast_bad hv hc
    rw [h] at h1
    injection h1 with h1; injection h1 with _ h1
    exact absurd h1.symm h2
theorem Parse_ok {t : GType} {s : List UInt8} {q : GVal} (hl : s.length ≤ 4294967296) (h : vparse t s = (q, 0)) : tyB t = true ∧ okV t q = true ∧ m_value_Format t q = some s := by
  unfold vparse at h
  by_cases ht : tyB t = true
  · rw [if_pos ht] at h
    by_cases h0 : (parseS s).2 = 0
    · rw [if_neg (by simpa using h0)] at h
      obtain ⟨hv, hw⟩ := parse_ok h0
      revert h hv hw
      generalize (parseS s).1 = v
      intro h hv hw
      obtain ⟨a1, a2, a3, a4, a5⟩ := frOK_bd hv
      have fin : ∀ (ho : okV t q = true), VaR q → (∀ x, m_value_fraction t q = some x → frOK x = true → x = v) → m_value_Format t q = some s := fun ho hR hx => by
        obtain ⟨x, e0, e1, _⟩ := value_Format (t := t) hR
        obtain ⟨e2, e3⟩ := e0 ht ho
        rw [e1, ht, ho, hx x e2 e3, hw]; rfl
      by_cases k1 : t.Kind = 1
      · rw [if_pos k1] at h
        injection h with h _
        subst h
        have ho : okV t v = true := by unfold okV; simp [k1, hv]
        exact ⟨ht, ho, fin ho (frVaR hv) fun x hx _ => fraction_other (by omega) hx⟩
      rw [if_neg k1] at h
      by_cases k3 : t.Kind = 3
      · rw [if_pos k3] at h
        by_cases hd : v.D = 1
        · rw [if_pos hd] at h
          injection h with h _
          subst h
          have ho : okV t v = true := by unfold okV; simp [k3, hd, a3, a4]
          exact ⟨ht, ho, fin ho (frVaR hv) fun x hx _ => fraction_other (by omega) hx⟩
        · rw [if_neg hd] at h
          injection h with _ h; cases h
      rw [if_neg k3] at h
      have k2 : t.Kind = 2 := by rcases tyB_kind ht with k | k | k; exact absurd k k1; exact k; exact absurd k k3
      by_cases hm : Int.tmod (pw t.Frac) v.D = 0
      · rw [if_pos hm] at h
        by_cases ho : okV t ⟨v.N * Int.tdiv (pw t.Frac) v.D, 1⟩ = true
        · rw [if_pos ho] at h
          injection h with h _
          subst h
          refine ⟨ht, ho, fin ho (frVaR (frOK_of ht ho)) fun x hx hxo => ?_⟩
          obtain ⟨q1, q2, q3, q4, q5, q6, q7⟩ := tyB_fix ht k2
          have hp := pw_bd (n := t.Frac) q4
          have e := fraction_fix ht k2 ho hx
          obtain ⟨x1, x2, x3, x4, x5⟩ := frOK_bd hxo
          have hq := Int.mul_tdiv_add_tmod (pw t.Frac) v.D
          rw [hm] at hq
          simp only at e
          generalize Int.tdiv (pw t.Frac) v.D = k at e hq
          generalize pw t.Frac = p at e hq hp
          have key : x.N * v.D = v.N * x.D := by
            have hk : k ≠ 0 := fun h => by subst h; omega
            have : k * (x.N * v.D) = k * (v.N * x.D) := by grind
            exact Int.eq_of_mul_eq_mul_left hk this
          exact fr_eq hxo hv key
        · rw [if_neg ho] at h
          injection h with _ h; cases h
      · rw [if_neg hm] at h
        injection h with _ h; cases h
    · rw [if_pos (by simpa using h0)] at h
      injection h with _ h; exact absurd h h0
  · rw [if_neg ht] at h
    injection h with _ h; cases h
theorem Parse_Format {t : GType} {v : GVal} (hv : VaR v) (ht : tyB t = true) (ho : okV t v = true) : ∃ s, m_value_Format t v = some s ∧ s.length ≤ 100 ∧ vparse t s = (v, 0) := by
  obtain ⟨x, e0, e1, _⟩ := value_Format (t := t) hv
  obtain ⟨e2, hx⟩ := e0 ht ho
  obtain ⟨x1, x2, x3, x4, x5⟩ := frOK_bd hx
  rw [ht, ho] at e1
  refine ⟨fmtS x, e1, ?_, ?_⟩
  · unfold fmtS
    rw [if_pos hx]
    have l1 := itoa_len (n := x.N) ⟨x3, x4⟩
    have l2 := itoa_len (n := x.D) ⟨by omega, by omega⟩
    split
    · omega
    · simp only [List.length_append, List.length_cons]; omega
  · unfold vparse
    rw [if_pos ht, parse_fmt hx]
    simp only [ne_eq, not_true_eq_false, if_false]
    by_cases k1 : t.Kind = 1
    · rw [if_pos k1, fraction_other (by omega) e2]
    rw [if_neg k1]
    by_cases k3 : t.Kind = 3
    · have := fraction_other (by omega) e2
      subst this
      rw [if_pos k3, if_pos (okV_int k3 ho).1]
    rw [if_neg k3]
    have k2 : t.Kind = 2 := by rcases tyB_kind ht with k | k | k; exact absurd k k1; exact k; exact absurd k k3
    have e := fraction_fix ht k2 ho e2
    obtain ⟨q1, q2, q3, q4, q5, q6, q7⟩ := tyB_fix ht k2
    have hp := pw_bd (n := t.Frac) q4
    have hdv : x.D ∣ pw t.Frac := by
      refine dvd_cop (n := x.N) ⟨v.N, by rw [e, Int.mul_comm]⟩ (by rw [Int.gcd_comm]; exact x5)
    have hm : Int.tmod (pw t.Frac) x.D = 0 := Int.tmod_eq_zero_of_dvd hdv
    have hq := Int.mul_tdiv_add_tmod (pw t.Frac) x.D
    rw [hm] at hq
    have hN : x.N * Int.tdiv (pw t.Frac) x.D = v.N := by
      generalize Int.tdiv (pw t.Frac) x.D = k at hq
      generalize pw t.Frac = p at e hq
      have : x.D * (x.N * k) = x.D * v.N := by grind
      exact Int.eq_of_mul_eq_mul_left (by omega) this
    obtain ⟨v1, _⟩ := okV_fix ht k2 ho
    have hv1 : (⟨v.N, 1⟩ : GVal) = v := by rw [← v1]
    rw [if_pos hm, hN, hv1, if_pos ho]
theorem law_ValueResultsValid (op : Int) (ts : Gs39) (l : Gs40) (s : List UInt8) (_ : okI .i64 op) (_ : okGs39 ts) (hl : okGs40 l) (hs : okS s) : m_law04_ValueResultsValid op ts l s = some true := by
  have h0 : VaR l.e0 := VaR.of hl.1
  have h1 : VaR l.e1 := VaR.of hl.2
  unfold m_law04_ValueResultsValid
  rw [ex04]
  by_cases hlen : (100 : Int) < (s.length : Int)
  · simp [hlen]
  have hls : s.length ≤ 4294967296 := by omega
  rw [if_neg (by simpa using hlen), value_Apply h0 h1]
  obtain ⟨⟨a, e⟩, ha⟩ := Apply_some (op := op) (t := ts.e0) h0 h1
  have hcast : ∃ r, m_value_Cast ts.e0 ts.e1 l.e0 = some r := by
    by_cases hc : tyB ts.e0 = true ∧ tyB ts.e1 = true ∧ okV ts.e0 l.e0 = true
    · obtain ⟨x, _, _, h⟩ := Cast_spec (f := ts.e0) (t := ts.e1) h0 hc.1 hc.2.1 hc.2.2; exact ⟨_, h⟩
    · obtain ⟨x, h, _⟩ := Cast_bad (f := ts.e0) (t := ts.e1) h0 hc; exact ⟨_, h⟩
  obtain ⟨⟨b, g⟩, hb⟩ := hcast
  obtain ⟨⟨c, k⟩, hc⟩ : ∃ r, vparse ts.e0 s = r := ⟨_, rfl⟩
  rw [ha, hb, value_Parse hls, hc]
  simp only [Option.bind_some]
  have v5 : (gd (decide (e = 0)) (m_value_Valid ts.e0 a)) = some (decide (e = 0)) := by
    by_cases h : e = 0
    · subst h
      obtain ⟨p1, p2⟩ := Apply_ok (op := op) (t := ts.e0) (q := a) h0 h1 (by rw [value_Apply h0 h1]; exact ha)
      simp [gd, value_Valid (frVaR (frOK_of p1 p2)), p1, p2]
    · simp [gd, h]
  rw [v5]
  simp only [Option.bind_some]
  have n5 : (decide (e = 0) && !decide (e = 0)) = false := by cases decide (e = 0) <;> rfl
  simp only [n5, Bool.not_false, Bool.true_and]
  have v6 : (gd (decide (g = 0)) (m_value_Valid ts.e1 b)) = some (decide (g = 0)) := by
    by_cases h : g = 0
    · subst h
      obtain ⟨p1, p2⟩ := Cast_ok h0 hb
      simp [gd, value_Valid (frVaR (frOK_of p1 p2)), p1, p2]
    · simp [gd, h]
  rw [v6]
  simp only [Option.bind_some]
  have n6 : (decide (g = 0) && !decide (g = 0)) = false := by cases decide (g = 0) <;> rfl
  simp only [n6, Bool.or_self, Bool.not_false, Bool.true_and]
  have v7 : (gd (decide (k = 0)) (m_value_Valid ts.e0 c)) = some (decide (k = 0)) := by
    by_cases h : k = 0
    · subst h
      obtain ⟨p1, p2, _⟩ := Parse_ok hls hc
      simp [gd, value_Valid (frVaR (frOK_of p1 p2)), p1, p2]
    · simp [gd, h]
  rw [v7]
  simp only [Option.bind_some]
  have v8 : ∃ r8, (gd ((decide (k = 0)) && !(!decide (k = 0))) (m_value_Format ts.e0 c)) = some r8 ∧ (k = 0 → r8 = s) := by
    by_cases h : k = 0
    · subst h
      obtain ⟨p1, p2, p3⟩ := Parse_ok hls hc
      exact ⟨s, by simp [gd, p3], fun _ => rfl⟩
    · exact ⟨default, by simp [gd, h], fun h' => absurd h' h⟩
  obtain ⟨r8, v8, w8⟩ := v8
  rw [v8]
  simp only [Option.bind_some]
  have n8 : (decide (k = 0) && (!decide (k = 0) || !decide (r8 = s))) = false := by
    by_cases h : k = 0
    · simp [h, w8 h]
    · simp [h]
  rw [n8, value_Valid h0]
  simp only [Bool.or_self, Bool.false_eq_true, if_false, Option.bind_some]
  by_cases hv : (tyB ts.e0 && okV ts.e0 l.e0) = true
  · rw [if_pos hv]
    simp only [Bool.and_eq_true] at hv
    obtain ⟨s', f1, f2, f3⟩ := Parse_Format h0 hv.1 hv.2
    rw [Cast_self h0 hv.1 hv.2, f1]
    simp only [Option.bind_some, value_Parse (t := ts.e0) (s := s') (by omega), f3]
    simp
  · rw [if_neg hv]
end Go.Proofs.YtpfapgamjlhebaaGreatDoor
