/- What Format writes; Parse is its inverse. Conditions: the range of int64. -/
import Derived.Test.YtkmenmoiagkegaaDoorFv
namespace Go.Proofs.YtkmenmoiagkegaaDoor
open Go Go.RowKit Go.Vc
set_option linter.unusedVariables false
set_option linter.unusedSimpArgs false

theorem dvalA_snoc (n : Nat) (s : List UInt8) (c : UInt8) : dvalA n (s ++ [c]) = 10 * dvalA n s + (c.toNat - 48) := by
  unfold dvalA; rw [List.foldl_append]; rfl
theorem of48 {u : Nat} (h : u < 10) : (UInt8.ofNat (48 + u)).toNat = 48 + u := by
  rw [UInt8.toNat_ofNat']; omega
theorem dig48 {u : Nat} (h : u < 10) : dig (UInt8.ofNat (48 + u)) = true := by
  unfold dig; rw [of48 h]; simp <;> omega
theorem dd_small {u : Nat} (h : u < 10) : Lib.decDigits u = [UInt8.ofNat (48 + u)] := by rw [Lib.decDigits, dif_pos h]
theorem dd_big {u : Nat} (h : ¬ u < 10) : Lib.decDigits u = Lib.decDigits (u / 10) ++ [UInt8.ofNat (48 + u % 10)] := by rw [Lib.decDigits, dif_neg h]
theorem head_app {s t : List UInt8} (h : s ≠ []) : (s ++ t).head? = s.head? := by cases s with | nil => exact absurd rfl h | cons c r => rfl
/-- The numeral of a number: digits, its value, no leading zero. -/
theorem dd_spec (u : Nat) : (Lib.decDigits u).all dig = true ∧ dval (Lib.decDigits u) = u ∧ Lib.decDigits u ≠ [] ∧ (u ≠ 0 → (Lib.decDigits u).head? ≠ some 48) := by
  induction u using Nat.strongRecOn with
  | _ u ih =>
    by_cases h : u < 10
    · rw [dd_small h]
      refine ⟨by rw [List.all_cons, dig48 h]; rfl, ?_, by simp, fun h0 => ?_⟩
      · unfold dval; rw [dvalA_cons]; simp only [dvalA, List.foldl_nil]; rw [of48 h]; omega
      · rw [List.head?_cons]
        intro e
        injection e with e
        have := congrArg UInt8.toNat e
        rw [of48 h] at this
        simp at this; omega
    · obtain ⟨h1, h2, h3, h4⟩ := ih (u / 10) (by omega)
      rw [dd_big h]
      have hm : u % 10 < 10 := by omega
      refine ⟨by rw [List.all_append, h1, List.all_cons, dig48 hm]; rfl, ?_, by simp, fun h0 => ?_⟩
      · unfold dval at h2 ⊢; rw [dvalA_snoc, h2, of48 hm]; omega
      · rw [head_app h3]; exact h4 (by omega)
theorem dd_decB (u : Nat) : decB (Lib.decDigits u) = true := by
  obtain ⟨h1, h2, h3, h4⟩ := dd_spec u
  unfold decB
  rw [h1]
  by_cases h : u = 0
  · subst h; rw [dd_small (by omega)]; rfl
  · simp [h3, h4 h]
theorem dd_inj : ∀ (n : Nat) (s : List UInt8), s.length = n → decB s = true → Lib.decDigits (dval s) = s
  | 0, s, hn, h => absurd (List.eq_nil_of_length_eq_zero hn) (decB_dig h).2.1
  | n + 1, s, hn, h => by
    obtain ⟨h1, h2, h3⟩ := decB_dig h
    have hs := List.dropLast_concat_getLast h2
    have hlen : s.dropLast.length = n := by rw [List.length_dropLast]; omega
    generalize s.getLast h2 = c at hs
    generalize s.dropLast = t at hs hlen
    subst hs
    simp only [List.all_append, List.all_cons, List.all_nil, Bool.and_true, Bool.and_eq_true] at h1
    have hc := h1.2
    simp only [dig, Bool.and_eq_true, decide_eq_true_eq] at hc
    have hd : dval (t ++ [c]) = 10 * dval t + (c.toNat - 48) := dvalA_snoc 0 t c
    have e1 : UInt8.ofNat (48 + (c.toNat - 48)) = c := by rw [show 48 + (c.toNat - 48) = c.toNat by omega]; exact UInt8.ofNat_toNat
    rw [hd]
    by_cases ht : t = []
    · subst ht
      rw [show 10 * dval [] + (c.toNat - 48) = c.toNat - 48 by simp [dval, dvalA], dd_small (by omega), e1]; rfl
    · have h4 : t.head? ≠ some 48 := by
        have h5 := h3.resolve_left (fun e => by
          have h6 := congrArg List.length e
          have := lpos ht
          rw [List.length_append] at h6
          simp only [List.length_cons, List.length_nil] at h6
          omega)
        rwa [head_app ht] at h5
      have hb : decB t = true := by unfold decB; rw [h1.1]; simp [ht, h4]
      have hne : t ≠ [48] := fun e => by rw [e] at h4; simp at h4
      have hp := dval_pos hb hne
      rw [dd_big (by omega), show (10 * dval t + (c.toNat - 48)) / 10 = dval t by omega, show (10 * dval t + (c.toNat - 48)) % 10 = c.toNat - 48 by omega, e1, dd_inj n t hlen hb]
theorem dd_len {u : Nat} (h : u < 10000000000) : (Lib.decDigits u).length ≤ 10 := by
  obtain ⟨h1, h2, h3, h4⟩ := dd_spec u
  by_cases h0 : 10 < (Lib.decDigits u).length
  · obtain ⟨c, r, he⟩ : ∃ c r, Lib.decDigits u = c :: r := by cases hd : Lib.decDigits u with | nil => exact absurd hd h3 | cons c r => exact ⟨c, r, rfl⟩
    rw [he] at h0 h1 h2 h4
    by_cases hu : u = 0
    · subst hu; rw [dd_small (by omega)] at he; injection he with _ he; subst he; simp at h0
    · have hne := h4 hu
      simp only [List.all_cons, Bool.and_eq_true] at h1
      have hc := h1.1
      simp only [dig, Bool.and_eq_true, decide_eq_true_eq] at hc
      have hne : c.toNat ≠ 48 := fun e => hne (by rw [List.head?_cons]; congr 1; exact UInt8.toNat_inj.1 (by simpa using e))
      unfold dval at h2
      rw [dvalA_cons] at h2
      have hb := dvalA_big r (10 * 0 + (c.toNat - 48))
      have hp : 10 ^ 10 ≤ 10 ^ r.length := Nat.pow_le_pow_right (by omega) (by simp at h0; omega)
      have : 1 * 10 ^ r.length ≤ (10 * 0 + (c.toNat - 48)) * 10 ^ r.length := Nat.mul_le_mul_right _ (by omega)
      omega
  · omega
theorem itoa_nn {n : Int} (h : 0 ≤ n) : Lib.itoa n = Lib.decDigits n.toNat := by unfold Lib.itoa; rw [if_neg (by omega)]
theorem itoa_ng {n : Int} (h : n < 0) : Lib.itoa n = 45 :: Lib.decDigits n.natAbs := by unfold Lib.itoa; rw [if_pos h]
/-- The reference writes digits one by one. -/
theorem ref01_plain_run : ∀ (f : Nat) (u : Nat) (s : List UInt8), u < f → u < 18446744073709551616 → (Lib.decDigits u).length + s.length ≤ 4294967296 → m_ref01_plain_l1 f u s = some (Lib.decDigits u ++ s)
  | 0, _, _, h, _, _ => absurd h (by omega)
  | f + 1, u, s, hf, hu, hl => by
    have hpick : ∀ d : Nat, d < 10 → lsub ([48, 49, 50, 51, 52, 53, 54, 55, 56, 57] : List UInt8) (d : Int) (wu64 ((d : Int) + 1)) = some [UInt8.ofNat (48 + d)] := fun d hd => by
      rw [wu (p := (d : Int) + 1) ⟨by omega, by omega⟩]
      unfold lsub
      rw [if_pos ⟨by omega, by omega, by simp <;> omega⟩]
      rw [show ((d : Int)).toNat = d by omega, show ((d : Int) + 1).toNat - d = 1 by omega]
      have : ∀ d : Fin 10, some ((([48, 49, 50, 51, 52, 53, 54, 55, 56, 57] : List UInt8).drop d.val).take 1) = some [UInt8.ofNat (48 + d.val)] := by decide
      exact this ⟨d, hd⟩
    unfold m_ref01_plain_l1
    by_cases h : u < 10
    · rw [if_neg (by simp <;> omega), hpick u h, dd_small h]
      rw [dd_small h] at hl
      unfold lapp
      simp only [Option.bind_some]
      rw [if_pos (by simpa using hl)]
      rfl
    · rw [if_pos (by simp <;> omega)]
      rw [dd_big h] at hl ⊢
      simp only [List.length_append, List.length_cons, List.length_nil] at hl
      have e1 : Int.tmod (u : Int) 10 = ((u % 10 : Nat) : Int) := by rw [Int.tmod_eq_emod_of_nonneg (by omega)]; rfl
      have e2 : Int.tdiv (u : Int) 10 = ((u / 10 : Nat) : Int) := by rw [Int.tdiv_eq_ediv_of_nonneg (by omega)]; rfl
      rw [e1, e2, hpick (u % 10) (by omega), wu (p := ((u / 10 : Nat) : Int)) ⟨by omega, by omega⟩]
      unfold lapp
      simp only [Option.bind_some]
      rw [if_pos (by show _ ≤ 4294967296; simp only [List.length_cons, List.length_nil]; omega), Option.bind_some]
      rw [ref01_plain_run f (u / 10) _ (by omega) (by omega) (by simp only [List.length_append, List.length_cons, List.length_nil]; omega)]
      simp
theorem ref01_plain {u : Nat} (hu : u < 10000000000) : m_ref01_plain (u : Int) = some (Lib.decDigits u) := by
  have := dd_len hu
  unfold m_ref01_plain
  rw [ref01_plain_run fu u [] (by unfold fu; omega) (by omega) (by simp only [List.length_nil]; omega)]
  simp
theorem ref01_Digits {n : Int} (h : -2147483647 ≤ n ∧ n ≤ 2147483647) : m_ref01_Digits n = some (Lib.itoa n) := by
  unfold m_ref01_Digits
  rw [size01 ⟨by omega, by omega⟩]
  by_cases hn : n < 0
  · simp only [hn, decide_true, if_true, Option.bind_some]
    rw [show -n = ((n.natAbs : Nat) : Int) by omega, ref01_plain (by omega), itoa_ng hn]
    have := dd_len (u := n.natAbs) (by omega)
    simp only [Option.bind_some]
    unfold lapp
    rw [if_pos (by show 1 + _ ≤ 4294967296; omega)]
    rfl
  · simp only [hn, decide_false, Bool.false_eq_true, if_false, Option.bind_some]
    obtain ⟨u, rfl⟩ : ∃ u : Nat, n = u := ⟨n.toNat, by omega⟩
    rw [ref01_plain (by omega), itoa_nn (by omega)]
    rfl
theorem frac_Itoa {n : Int} (h : -2147483647 ≤ n ∧ n ≤ 2147483647) : m_strconv_FormatInt n 10 = some (Lib.itoa n) := by
  unfold m_strconv_FormatInt m_internal_strconv_FormatInt
  rw [if_pos ⟨rfl, by omega, by omega⟩]; rfl
theorem itoa_len {n : Int} (h : -2147483647 ≤ n ∧ n ≤ 2147483647) : (Lib.itoa n).length ≤ 11 := by
  by_cases hn : n < 0
  · rw [itoa_ng hn]; have := dd_len (u := n.natAbs) (by omega); simp <;> omega
  · rw [itoa_nn (by omega)]; have := dd_len (u := n.toNat) (by omega); omega
/-- What both write. -/
def fmtS (a : GVal) : List UInt8 := if frOK a then (if a.D = 1 then Lib.itoa a.N else Lib.itoa a.N ++ 47 :: Lib.itoa a.D) else []
theorem frac_Format {a : GVal} (ha : VaR a) : m_frac_Format a = some (fmtS a) := by
  unfold m_frac_Format fmtS
  rw [frac_Valid ha]
  cases h : frOK a
  · rfl
  · obtain ⟨a1, a2, a3, a4, a5⟩ := frOK_bd h
    simp only [Option.bind_some, Bool.not_true, Bool.false_eq_true, if_false, if_true, frac_Itoa ⟨a3, a4⟩, frac_Itoa (n := a.D) ⟨by omega, by omega⟩]
    by_cases hd : a.D = 1
    · simp [hd]
    · have l1 := itoa_len (n := a.N) ⟨a3, a4⟩
      have l2 := itoa_len (n := a.D) ⟨by omega, by omega⟩
      simp only [hd, decide_false, Bool.false_eq_true, if_false]
      unfold lapp
      rw [if_pos (by show _ + 1 ≤ 4294967296; omega), Option.bind_some, if_pos (by rw [List.length_append]; show _ + 1 + _ ≤ 4294967296; omega)]
      simp
theorem ref01_Format {a : GVal} (ha : VaR a) : m_ref01_Format a = some (fmtS a) := by
  unfold m_ref01_Format fmtS
  rw [ref01_Valid ha]
  cases h : frOK a
  · rfl
  · obtain ⟨a1, a2, a3, a4, a5⟩ := frOK_bd h
    simp only [Option.bind_some, Bool.not_true, Bool.false_eq_true, if_false, if_true, ref01_Digits ⟨a3, a4⟩, ref01_Digits (n := a.D) ⟨by omega, by omega⟩]
    by_cases hd : a.D = 1
    · simp [hd]
    · have l1 := itoa_len (n := a.N) ⟨a3, a4⟩
      have l2 := itoa_len (n := a.D) ⟨by omega, by omega⟩
      simp only [hd, decide_false, Bool.false_eq_true, if_false]
      unfold lapp
      rw [if_pos (by show _ + 1 ≤ 4294967296; omega), Option.bind_some, if_pos (by rw [List.length_append]; show _ + 1 + _ ≤ 4294967296; omega)]
      simp

/-! ### Back and forth -/
theorem no_stroke {s : List UInt8} (h : s.all dig = true) : stroke s = none := by
  induction s with
  | nil => rfl
  | cons c r ih =>
    simp only [List.all_cons, Bool.and_eq_true] at h
    have hc : c ≠ 47 := fun e => by subst e; simp [dig] at h
    unfold stroke
    rw [if_neg hc, ih h.2]; rfl
theorem stroke_app {s : List UInt8} (h : stroke s = none) (r : List UInt8) : stroke (s ++ 47 :: r) = some s.length := by
  induction s with
  | nil => simp [stroke]
  | cons c s ih =>
    unfold stroke at h
    split at h
    · cases h
    · rename_i hc
      have hn : stroke s = none := by cases hs : stroke s with | none => rfl | some i => rw [hs] at h; cases h
      rw [List.cons_append, stroke, if_neg hc, ih hn]; simp
theorem itoa_stroke (n : Int) : stroke (Lib.itoa n) = none := by
  by_cases hn : n < 0
  · rw [itoa_ng hn, stroke, if_neg (by decide), no_stroke (dd_spec _).1]; rfl
  · rw [itoa_nn (by omega)]; exact no_stroke (dd_spec _).1
theorem itoa_sign (n : Int) : splitSign (Lib.itoa n) = (decide (n < 0), Lib.decDigits n.natAbs) := by
  by_cases hn : n < 0
  · rw [itoa_ng hn]; simp [splitSign, hn]
  · rw [itoa_nn (by omega), digs_no_sign (dd_spec _).1, show n.natAbs = n.toNat by omega]; simp [hn]
theorem itoa_whole (n : Int) : wholeB (Lib.itoa n) = true := by
  unfold wholeB
  rw [itoa_sign, dd_decB]
  by_cases hn : n < 0
  · have : Lib.decDigits n.natAbs ≠ [48] := fun e => by
      have := (dd_spec n.natAbs).2.1
      rw [e] at this
      simp [dval, dvalA] at this
      omega
    simp [this]
  · simp [hn]
theorem parse_fin_of {n d : Int} (h : frOK ⟨n, d⟩ = true) : parseFin (decide (n < 0)) (Lib.decDigits n.natAbs) (Lib.decDigits d.toNat) = (⟨n, d⟩, 0) := by
  obtain ⟨a1, a2, a3, a4, a5⟩ := frOK_bd h
  simp only at a1 a2 a3 a4
  unfold parseFin
  rw [(dd_spec n.natAbs).2.1, (dd_spec d.toNat).2.1, if_pos ⟨by omega, by omega⟩]
  have e1 : (if decide (n < 0) = true then -((n.natAbs : Nat) : Int) else ((n.natAbs : Nat) : Int)) = n := by
    by_cases hn : n < 0
    · simp [hn] <;> omega
    · simp [hn] <;> omega
  rw [e1, show ((d.toNat : Nat) : Int) = d by omega, h]; rfl
theorem parse_fmt {a : GVal} (h : frOK a = true) : parseS (fmtS a) = (a, 0) := by
  obtain ⟨a1, a2, a3, a4, a5⟩ := frOK_bd h
  unfold fmtS
  rw [if_pos h]
  by_cases hd : a.D = 1
  · rw [if_pos hd]
    unfold parseS parseTB
    rw [itoa_stroke]
    simp only [itoa_whole, if_true, itoa_sign]
    have := parse_fin_of (n := a.N) (d := 1) (by rw [← hd]; exact h)
    rw [show Lib.decDigits (1 : Int).toNat = [49] from dd_small (by decide)] at this
    rw [this, ← hd]
  · rw [if_neg hd]
    unfold parseS parseTB
    rw [stroke_app (itoa_stroke _)]
    simp only [List.take_left', show ∀ (x y : List UInt8), (x ++ 47 :: y).drop (x.length + 1) = y from fun x y => by simp, itoa_whole, if_true, itoa_sign, itoa_nn (show 0 ≤ a.D by omega)]
    have k : dval (Lib.decDigits a.D.toNat) = a.D.toNat := (dd_spec _).2.1
    have n8 : Lib.decDigits a.D.toNat ≠ [48] := fun e => by rw [e] at k; simp [dval, dvalA] at k; omega
    have n9 : Lib.decDigits a.D.toNat ≠ [49] := fun e => by rw [e] at k; simp [dval, dvalA] at k; omega
    rw [dd_decB]
    simp only [n8, n9, decide_false, Bool.not_false, Bool.and_self, if_true]
    exact parse_fin_of h
/-- What is read is written again. -/
theorem sign_itoa {s : List UInt8} (h : wholeB s = true) : Lib.itoa (if (splitSign s).1 then -(dval (splitSign s).2 : Int) else dval (splitSign s).2) = s := by
  unfold wholeB at h
  simp only [Bool.and_eq_true, Bool.not_eq_true', Bool.and_eq_false_iff, decide_eq_false_iff_not] at h
  obtain ⟨h1, h2⟩ := h
  revert h1 h2
  unfold splitSign
  split
  · rename_i t
    intro h1 h2
    have h8 := h2.resolve_left (by simp)
    have hp := dval_pos h1 h8
    show Lib.itoa (-(dval t : Int)) = 45 :: t
    replace hp : 1 ≤ dval t := hp
    rw [itoa_ng (by omega), show (-(dval t : Int)).natAbs = dval t by omega, dd_inj _ t rfl h1]
  · intro h1 h2
    simp only [Bool.false_eq_true, if_false]
    rw [itoa_nn (by omega), show ((dval s : Nat) : Int).toNat = dval s by omega, dd_inj _ s rfl h1]
theorem parse_fin_inv {neg : Bool} {d b : List UInt8} {v : GVal} (h : parseFin neg d b = (v, 0)) : v = ⟨if neg then -(dval d : Int) else dval d, dval b⟩ ∧ frOK v = true := by
  unfold parseFin at h
  by_cases c : dval d ≤ 2147483647 ∧ dval b ≤ 2147483647
  · rw [if_pos c] at h
    by_cases hf : frOK ⟨if neg = true then -(dval d : Int) else dval d, dval b⟩ = true
    · rw [if_pos hf] at h
      injection h with h _
      subst h; exact ⟨rfl, hf⟩
    · rw [if_neg hf] at h
      injection h with _ h; cases h
  · rw [if_neg c] at h
    injection h with _ h; cases h
theorem fmt_parse {s : List UInt8} {v : GVal} (h : parseS s = (v, 0)) : frOK v = true ∧ fmtS v = s := by
  unfold parseS at h
  have no5 : ((⟨0, 0⟩, 5) : GVal × Int) ≠ (v, 0) := fun e => by injection e with _ e; cases e
  split at h
  · rename_i hs
    unfold parseTB at h
    split at h
    · rename_i hw
      obtain ⟨h1, h2⟩ := parse_fin_inv h
      refine ⟨h2, ?_⟩
      unfold fmtS
      rw [if_pos h2, h1]
      simp only [show ((dval [49] : Nat) : Int) = 1 from rfl, if_true]
      exact sign_itoa hw
    · exact absurd h no5
  · rename_i i hs
    unfold parseTB at h
    split at h
    · rename_i hw
      dsimp only at h
      split at h
      · rename_i hb
        simp only [Bool.and_eq_true, Bool.not_eq_true', decide_eq_false_iff_not] at hb
        obtain ⟨h1, h2⟩ := parse_fin_inv h
        refine ⟨h2, ?_⟩
        obtain ⟨g1, g2, g3⟩ := decB_dig hb.1.1
        have hD : Lib.decDigits (dval (s.drop (i + 1))) = s.drop (i + 1) := dd_inj _ _ rfl hb.1.1
        have hne : ¬ (dval (s.drop (i + 1)) : Int) = 1 := fun e => by
          rw [show dval (s.drop (i + 1)) = 1 by omega, dd_small (by omega)] at hD
          exact hb.2 hD.symm
        unfold fmtS
        rw [if_pos h2, h1]
        simp only [hne, if_false]
        rw [sign_itoa hw, itoa_nn (by omega), show ((dval (s.drop (i + 1)) : Nat) : Int).toNat = dval (s.drop (i + 1)) by omega, hD]
        have hi := stroke_lt hs
        have hc : s[i]? = some 47 := by
          clear h h1 h2 hb g1 g2 g3 hD hne hw no5 v
          induction s generalizing i with
          | nil => cases hs
          | cons c r ih =>
            unfold stroke at hs
            split at hs
            · rename_i hc; injection hs with hs; subst hs; simp [hc]
            · obtain ⟨j, hj, rfl⟩ := Option.map_eq_some_iff.1 hs
              simpa using ih j hj (stroke_lt hj)
        have hd2 : s.drop i = 47 :: s.drop (i + 1) := by
          rw [List.drop_eq_getElem_cons hi]
          congr 1
          rw [List.getElem?_eq_getElem hi] at hc
          exact Option.some.inj hc
        rw [← hd2, List.take_append_drop]
      · exact absurd h no5
    · exact absurd h no5
end Go.Proofs.YtkmenmoiagkegaaDoor
