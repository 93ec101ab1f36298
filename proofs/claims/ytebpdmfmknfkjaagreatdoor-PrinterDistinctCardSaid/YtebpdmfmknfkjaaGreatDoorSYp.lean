import Derived.Test.YtebpdmfmknfkjaaGreatDoorSYo
namespace Go.Proofs.YtebpdmfmknfkjaaGreatDoor
open Go Go.RowKit Go.Vc
set_option linter.unusedVariables false
set_option linter.unusedSimpArgs false
abbrev tks (ls : List (List UInt8)) : List (List UInt8) := ls.filter nonB
theorem nb_of {t : List UInt8} (h : okTok t) : nonB t = true := by
 obtain ⟨c, q, rfl, hc⟩ := okTok_head h
 unfold nonB
 rw [decide_eq_true_eq]
 intro hh
 injection hh with h1 h2
 subst h1
 revert hc; decide
theorem nb_wd {t : List UInt8} (h : isWd t) : nonB t = true := nb_of (Or.inl h)
theorem nb_nm {t : List UInt8} (h : isNm t) : nonB t = true := nb_of (Or.inr (Or.inl h))
theorem nb_dd (u : Nat) : nonB (Lib.decDigits u) = true := nb_nm (isNm_dd u)
theorem dd_in {u v : Nat} (h : Lib.decDigits u = Lib.decDigits v) : u = v := by rw [← (dd_spec u).2.1, ← (dd_spec v).2.1, h]
theorem nm_wd {s t : List UInt8} (hs : isNm s) (ht : isWd t) : s ≠ t := fun h => by
 have h1 := isNm_head hs
 have h2 := ht.1
 rw [h] at h1
 rw [let_dig h2] at h1; cases h1
theorem wd_sign {t : List UInt8} (h : isWd t) : t ∉ signs := fun hs => by
 have h2 := h.1
 unfold signs at hs
 simp only [List.mem_cons, List.not_mem_nil, or_false] at hs
 rcases hs with rfl | rfl | rfl | rfl | rfl | rfl | rfl | rfl | rfl | rfl | rfl | rfl | rfl | rfl | rfl | rfl | rfl <;> revert h2 <;> decide
theorem nm_sign {t : List UInt8} (h : isNm t) : t ∉ signs := fun hs => by
 have h2 := isNm_head h
 unfold signs at hs
 simp only [List.mem_cons, List.not_mem_nil, or_false] at hs
 rcases hs with rfl | rfl | rfl | rfl | rfl | rfl | rfl | rfl | rfl | rfl | rfl | rfl | rfl | rfl | rfl | rfl | rfl <;> revert h2 <;> decide
theorem dd_sign (u : Nat) {s : List UInt8} (h : s ∈ signs) : Lib.decDigits u ≠ s := fun hh => nm_sign (isNm_dd u) (by rw [hh]; exact h)
theorem wd_sign' {t s : List UInt8} (ht : isWd t) (h : s ∈ signs) : t ≠ s := fun hh => wd_sign ht (by rw [hh]; exact h)
def stopF (r : List (List UInt8)) : Prop := ∃ t s, r = t :: s ∧ (t = [93] ∨ t = [41] ∨ t = [44])
theorem tks_body {c : Int} {nm : List UInt8} (h : nm = [] ∨ nameB nm = true) : tks (bodyL c nm) = bodyL c nm := by
 unfold tks bodyL
 split
 ·simp [nb_dd]
 ·rename_i h0
  have := nb_wd (isWd_name (h.resolve_left h0))
  split
  ·simp [this]
  ·simp [this, nb_dd, show nonB [42] = true by decide]
theorem body_ur {c c' : Int} {nm nm' : List UInt8} {r r' : List (List UInt8)} (h : nm = [] ∨ nameB nm = true) (h' : nm' = [] ∨ nameB nm' = true) (hr : r.head? ≠ some [42]) (hr' : r'.head? ≠ some [42])
  (e : bodyL c nm ++ r = bodyL c' nm' ++ r') : c.natAbs = c'.natAbs ∧ nm = nm' ∧ r = r' := by
 unfold bodyL at e
 by_cases h0 : nm = [] <;> by_cases h0' : nm' = []
 ·rw [if_pos h0, if_pos h0'] at e
  simp only [List.cons_append, List.nil_append, List.cons.injEq] at e
  exact ⟨dd_in e.1, by rw [h0, h0'], e.2⟩
 ·have hw := isWd_name (h'.resolve_left h0')
  rw [if_pos h0, if_neg h0'] at e
  split at e
  ·simp only [List.cons_append, List.nil_append, List.cons.injEq] at e
   exact absurd e.1 (nm_wd (isNm_dd _) hw)
  ·simp only [List.cons_append, List.nil_append, List.cons.injEq] at e
   rw [e.2] at hr; simp at hr
 ·have hw := isWd_name (h.resolve_left h0)
  rw [if_neg h0, if_pos h0'] at e
  split at e
  ·simp only [List.cons_append, List.nil_append, List.cons.injEq] at e
   exact absurd e.1.symm (nm_wd (isNm_dd _) hw)
  ·simp only [List.cons_append, List.nil_append, List.cons.injEq] at e
   rw [← e.2] at hr'; simp at hr'
 ·have hw := isWd_name (h.resolve_left h0)
  have hw' := isWd_name (h'.resolve_left h0')
  rw [if_neg h0, if_neg h0'] at e
  split at e
  ·split at e
   ·simp only [List.cons_append, List.nil_append, List.cons.injEq] at e
    exact ⟨by omega, e.1, e.2⟩
   ·simp only [List.cons_append, List.nil_append, List.cons.injEq] at e
    exact absurd e.1.symm (nm_wd (isNm_dd _) hw)
  ·split at e
   ·simp only [List.cons_append, List.nil_append, List.cons.injEq] at e
    exact absurd e.1 (nm_wd (isNm_dd _) hw')
   ·simp only [List.cons_append, List.nil_append, List.cons.injEq] at e
    exact ⟨dd_in e.1, e.2.2.1, e.2.2.2⟩
theorem body_hd {c : Int} {nm : List UInt8} (h : nm = [] ∨ nameB nm = true) : ∃ t s, bodyL c nm = t :: s ∧ t ∉ signs := by
 unfold bodyL
 split
 ·exact ⟨_, _, rfl, nm_sign (isNm_dd _)⟩
 ·rename_i h0
  split
  ·exact ⟨_, _, rfl, wd_sign (isWd_name (h.resolve_left h0))⟩
  ·exact ⟨_, _, rfl, nm_sign (isNm_dd _)⟩
def sgnK (first : Bool) (c : Int) : List (List UInt8) := if c < 0 then [[45]] else if first = true then [] else [[43]]
theorem tks_sgn (b : Bool) (c : Int) : tks (sgnL b c) = sgnK b c := by
 unfold tks sgnL sgnK
 cases b <;> by_cases h : c < 0 <;> simp [h] <;> decide
abbrev okTer (ts : List (Int × List UInt8)) : Prop := ∀ x ∈ ts, x.2 = [] ∨ nameB x.2 = true
theorem tks_ter {b : Bool} {x : Int × List UInt8} {ts : List (Int × List UInt8)} (h : x.2 = [] ∨ nameB x.2 = true) : tks (terL b (x :: ts)) = sgnK b x.1 ++ (bodyL x.1 x.2 ++ tks (terL false ts)) := by
 rw [terL]
 show List.filter nonB _ = _
 rw [List.filter_append, List.filter_append]
 rw [show List.filter nonB (sgnL b x.1) = sgnK b x.1 from tks_sgn b x.1, show List.filter nonB (bodyL x.1 x.2) = bodyL x.1 x.2 from tks_body h]
theorem ter_hd {b : Bool} {x : Int × List UInt8} {ts : List (Int × List UInt8)} (h : x.2 = [] ∨ nameB x.2 = true) (r : List (List UInt8)) : ∃ t s, tks (terL b (x :: ts)) ++ r = t :: s ∧ t ≠ [93] ∧ t ≠ [41] ∧ t ≠ [44] ∧ t ≠ [42] := by
 rw [tks_ter h]
 unfold sgnK
 obtain ⟨t, s, e, hn⟩ := body_hd (c := x.1) h
 split
 ·exact ⟨_, _, rfl, by decide⟩
 ·split
  ·rw [e]; exact ⟨_, _, rfl, fun hh => hn (by rw [hh]; decide), fun hh => hn (by rw [hh]; decide), fun hh => hn (by rw [hh]; decide), fun hh => hn (by rw [hh]; decide)⟩
  ·exact ⟨_, _, rfl, by decide⟩
theorem ter_ur : ∀ {ts ts' : List (Int × List UInt8)} {b : Bool} {r r' : List (List UInt8)}, okTer ts → okTer ts' → stopF r → stopF r' → tks (terL b ts) ++ r = tks (terL b ts') ++ r' → ts = ts' ∧ r = r'
 | [], [], b, r, r', _, _, _, _, e => ⟨rfl, by simpa [terL] using e⟩
 | [], x :: ts, b, r, r', _, h', hr, _, e => by
  obtain ⟨t, s, h1, h2⟩ := ter_hd (b := b) (ts := ts) (h' x (by simp)) r'
  rw [h1] at e
  obtain ⟨t', s', h3, h4⟩ := hr
  have e' : r = t :: s := e
  rw [h3] at e'
  injection e' with e1 e2
  subst e1
  rcases h4 with h4 | h4 | h4
  ·exact absurd h4 h2.1
  ·exact absurd h4 h2.2.1
  ·exact absurd h4 h2.2.2.1
 | x :: ts, [], b, r, r', h, _, _, hr', e => by
  obtain ⟨t, s, h1, h2⟩ := ter_hd (b := b) (ts := ts) (h x (by simp)) r
  rw [h1] at e
  obtain ⟨t', s', h3, h4⟩ := hr'
  have e' : t :: s = r' := e
  rw [h3] at e'
  injection e' with e1 e2
  subst e1
  rcases h4 with h4 | h4 | h4
  ·exact absurd h4 h2.1
  ·exact absurd h4 h2.2.1
  ·exact absurd h4 h2.2.2.1
 | x :: ts, y :: ts', b, r, r', h, h', hr, hr', e => by
  have hx := h x (by simp)
  have hy := h' y (by simp)
  rw [tks_ter hx, tks_ter hy, List.append_assoc, List.append_assoc, List.append_assoc, List.append_assoc] at e
  obtain ⟨t, s, h1, h2⟩ := body_hd (c := x.1) hx
  obtain ⟨t', s', h1', h2'⟩ := body_hd (c := y.1) hy
  have key : (x.1 < 0 ↔ y.1 < 0) ∧ bodyL x.1 x.2 ++ (tks (terL false ts) ++ r) = bodyL y.1 y.2 ++ (tks (terL false ts') ++ r') := by
   unfold sgnK at e
   by_cases c1 : x.1 < 0 <;> by_cases c2 : y.1 < 0
   ·rw [if_pos c1, if_pos c2] at e
    exact ⟨⟨fun _ => c2, fun _ => c1⟩, (List.cons.inj e).2⟩
   ·exfalso
    rw [if_pos c1, if_neg c2, h1'] at e
    cases b
    ·simp at e
    ·exact h2' (by rw [← (List.cons.inj e).1]; decide)
   ·exfalso
    rw [if_neg c1, if_pos c2, h1] at e
    cases b
    ·simp at e
    ·exact h2 (by rw [(List.cons.inj e).1]; decide)
   ·rw [if_neg c1, if_neg c2] at e
    refine ⟨⟨fun hh => absurd hh c1, fun hh => absurd hh c2⟩, ?_⟩
    cases b
    ·exact (List.cons.inj e).2
    ·exact e
  have hd : ∀ {q : List (Int × List UInt8)} {z : List (List UInt8)}, okTer q → stopF z → (tks (terL false q) ++ z).head? ≠ some [42] := by
   intro q z hq hz
   cases q with
   | nil =>
    obtain ⟨a, b, rfl, hab⟩ := hz
    show some a ≠ _
    rcases hab with rfl | rfl | rfl <;> decide
   | cons p q =>
    obtain ⟨a, b, h5, h6⟩ := ter_hd (b := false) (ts := q) (hq p (by simp)) z
    rw [h5]
    intro hh
    injection hh with hh
    exact h6.2.2.2 hh
  have ht := fun z hz => h z (List.mem_cons_of_mem x hz)
  have ht' := fun z hz => h' z (List.mem_cons_of_mem y hz)
  obtain ⟨b1, b2, b3⟩ := body_ur hx hy (hd ht hr) (hd ht' hr') key.2
  obtain ⟨q1, q2⟩ := ter_ur ht ht' hr hr' b3
  refine ⟨?_, q2⟩
  rw [q1]
  congr 1
  exact Prod.ext (by have := key.1; omega) b2
theorem lin_ur {f f' : GLin} {r r' : List (List UInt8)} (h : okLin f) (h' : okLin f') (hr : stopF r) (hr' : stopF r') (e : tks (linL f) ++ r = tks (linL f') ++ r') : f = f' ∧ r = r' := by
 obtain ⟨e1, e2⟩ := ter_ur (terms_ok h) (terms_ok h') hr hr' e
 refine ⟨?_, e2⟩
 have hf : ∀ {g : GLin}, okLin g → (termsOf g).filter (fun x => decide (x.2 ≠ [])) = g.L.map (fun m => (m.By, m.Name)) := fun {g} hg => by
  unfold termsOf
  rw [List.filter_append, List.filter_eq_self.2, List.filter_eq_nil_iff.2, List.append_nil]
  ·intro x hx
   split at hx
   ·rw [List.mem_singleton.1 hx]; simp
   ·simp at hx
  ·intro x hx
   obtain ⟨m, hm, rfl⟩ := List.mem_map.1 hx
   simpa using (nameB_len (hg.1 m hm).1).1
 have hL : f.L.map (fun m => (m.By, m.Name)) = f'.L.map (fun m => (m.By, m.Name)) := by rw [← hf h, ← hf h', e1]
 have hLL : f.L = f'.L := by
  have inj : ∀ (a b : List GMono), a.map (fun m => (m.By, m.Name)) = b.map (fun m => (m.By, m.Name)) → a = b := by
   intro a
   induction a with
   | nil => intro b hb; cases b with | nil => rfl | cons y b => cases hb
   | cons x a ih =>
    intro b hb
    cases b with
    | nil => cases hb
    | cons y b =>
     rw [List.map_cons, List.map_cons] at hb
     injection hb with h1 h2
     rw [ih b h2]
     cases x; cases y
     simp only [Prod.mk.injEq] at h1
     rw [h1.1, h1.2]
  exact inj _ _ hL
 unfold termsOf at e1
 rw [hLL] at e1
 have e3 := List.append_cancel_left e1
 have hK : f.K = f'.K := by
  by_cases hn : f'.L = []
  ·rw [if_pos (Or.inr hn), if_pos (Or.inr hn)] at e3
   simpa using e3
  ·by_cases k1 : f.K = 0 <;> by_cases k2 : f'.K = 0
   ·rw [k1, k2]
   ·rw [if_neg (by simp [k1, hn]), if_pos (Or.inl k2)] at e3; cases e3
   ·rw [if_neg (c := f'.K ≠ 0 ∨ f'.L = []) (by simp [k2, hn]), if_pos (Or.inl k1)] at e3; cases e3
   ·rw [if_pos (Or.inl k1), if_pos (Or.inl k2)] at e3
    simpa using e3
 cases f; cases f'
 simp only at hK hLL
 rw [hK, hLL]
theorem lin_hd {f : GLin} (h : okLin f) (r : List (List UInt8)) : ∃ t s, tks (linL f) ++ r = t :: s ∧ t ≠ [93] ∧ t ≠ [41] ∧ t ≠ [44] ∧ t ≠ [42] := by
 unfold linL
 cases ht : termsOf f with
 | nil =>
  unfold termsOf at ht
  rw [List.append_eq_nil_iff, List.map_eq_nil_iff] at ht
  rw [ht.1] at ht
  simp at ht
 | cons x ts => exact ter_hd (terms_ok h x (by rw [ht]; simp)) r
theorem itoa_tk {n : Int} (h : 0 ≤ n) : itoaL n = [Lib.decDigits n.natAbs] := by unfold itoaL; rw [if_neg (by omega)]
theorem tks_ty {t : GType} (h : tyB t = true) : tks (tyL t) = if t.Kind = 1 then [[102, 114, 97, 99]] else if t.Kind = 3 then [[105, 110, 116]] else [[102, 105, 120], [40], Lib.decDigits t.Bits.natAbs, [44], Lib.decDigits t.Frac.natAbs, [44], modeT t.Round, [44], overT t.Over, [41]] := by
 unfold tyL tks
 by_cases k1 : t.Kind = 1
 ·rw [if_pos k1, if_pos k1]; decide
 by_cases k3 : t.Kind = 3
 ·rw [if_neg k1, if_neg k1, if_pos k3, if_pos k3]; decide
 rw [if_neg k1, if_neg k1, if_neg k3, if_neg k3]
 unfold tyB at h
 rw [if_neg (by simp [k1, k3])] at h
 simp only [decide_eq_true_eq] at h
 rw [itoa_tk (by omega), itoa_tk (by omega)]
 simp [nb_dd, nb_wd (isWd_mode _), nb_wd (isWd_over _), show nonB [102, 105, 120] = true by decide, show nonB [40] = true by decide, show nonB [44] = true by decide, show nonB [41] = true by decide, show nonB [32] = false by decide]
theorem mode_in {a b : Int} (ha : 1 ≤ a ∧ a ≤ 4) (hb : 1 ≤ b ∧ b ≤ 4) (h : modeT a = modeT b) : a = b := by
 have h1 : a = 1 ∨ a = 2 ∨ a = 3 ∨ a = 4 := by omega
 have h2 : b = 1 ∨ b = 2 ∨ b = 3 ∨ b = 4 := by omega
 rcases h1 with rfl | rfl | rfl | rfl <;> rcases h2 with rfl | rfl | rfl | rfl <;> first | rfl | (exfalso; revert h; decide)
theorem over_in {a b : Int} (ha : a = 1 ∨ a = 2) (hb : b = 1 ∨ b = 2) (h : overT a = overT b) : a = b := by
 rcases ha with rfl | rfl <;> rcases hb with rfl | rfl <;> first | rfl | (exfalso; revert h; decide)
theorem type_ur {t t' : GType} {r r' : List (List UInt8)} (h : tyB t = true) (h' : tyB t' = true) (e : tks (tyL t) ++ r = tks (tyL t') ++ r') : t = t' ∧ r = r' := by
 rw [tks_ty h, tks_ty h'] at e
 have zero : ∀ {u : GType}, tyB u = true → (u.Kind = 1 ∨ u.Kind = 3) → u = ⟨u.Kind, 0, 0, 0, 0⟩ := fun {u} hu hk => by
  unfold tyB at hu
  rw [if_pos hk] at hu
  simp only [decide_eq_true_eq] at hu
  cases u
  simp only at hu
  rw [hu.1, hu.2.1, hu.2.2.1, hu.2.2.2]
 by_cases k1 : t.Kind = 1 <;> by_cases k1' : t'.Kind = 1
 ·rw [if_pos k1, if_pos k1'] at e
  exact ⟨by rw [zero h (Or.inl k1), zero h' (Or.inl k1'), k1, k1'], (List.cons.inj e).2⟩
 ·exfalso
  rw [if_pos k1, if_neg k1'] at e
  split at e
  ·have := (List.cons.inj e).1; revert this; decide
  ·have := (List.cons.inj e).1; revert this; decide
 ·exfalso
  rw [if_neg k1, if_pos k1'] at e
  split at e
  ·have := (List.cons.inj e).1; revert this; decide
  ·have := (List.cons.inj e).1; revert this; decide
 rw [if_neg k1, if_neg k1'] at e
 by_cases k3 : t.Kind = 3 <;> by_cases k3' : t'.Kind = 3
 ·rw [if_pos k3, if_pos k3'] at e
  exact ⟨by rw [zero h (Or.inr k3), zero h' (Or.inr k3'), k3, k3'], (List.cons.inj e).2⟩
 ·exfalso
  rw [if_pos k3, if_neg k3'] at e
  have := (List.cons.inj e).1; revert this; decide
 ·exfalso
  rw [if_neg k3, if_pos k3'] at e
  have := (List.cons.inj e).1; revert this; decide
 rw [if_neg k3, if_neg k3'] at e
 simp only [List.cons_append, List.nil_append, List.cons.injEq] at e
 obtain ⟨_, _, e1, _, e2, _, e3, _, e4, _, e5⟩ := e
 unfold tyB at h h'
 rw [if_neg (by simp [k1, k3])] at h
 rw [if_neg (by simp [k1', k3'])] at h'
 simp only [decide_eq_true_eq] at h h'
 refine ⟨?_, e5⟩
 have b1 := dd_in e1
 have b2 := dd_in e2
 have b3 := mode_in (by omega) (by omega) e3
 have b4 := over_in h.2.2.2.2.2.2.2 h'.2.2.2.2.2.2.2 e4
 have b0 : t.Kind = t'.Kind := by omega
 have c1 : t.Bits = t'.Bits := by omega
 have c2 : t.Frac = t'.Frac := by omega
 cases t; cases t'
 simp only at b0 c1 c2 b3 b4
 rw [b0, c1, c2, b3, b4]
theorem fraction_fx {t : GType} {v x : GVal} (ht : tyB t = true) (k2 : t.Kind = 2) (hv : okV t v = true) (h : m_value_fraction t v = some x) : x.N * pw t.Frac = v.N * x.D := by
 obtain ⟨q1, q2, q3, q4, q5, q6, q7⟩ := tyB_fix ht k2
 obtain ⟨v1, v2, v3⟩ := okV_fix ht k2 hv
 have hp := pw_bd (n := t.Frac) q4
 obtain ⟨x', e1, _, hx⟩ := fraction ht hv
 rw [h] at e1
 injection e1 with e1
 subst e1
 unfold m_value_fraction m_fixed_ToFrac at h
 simp only [k2, decide_true, if_true, fixed_check1 ht k2 hv, Option.bind_some, Bool.not_true, Bool.false_eq_true, if_false, q3, pw_sh' q3 q4, Int.one_mul, bind_pair] at h
 rw [wi (p := pw t.Frac) ⟨by omega, by omega⟩] at h
 obtain ⟨q, e, a, b, h1, h2, h3, h4, h5⟩ := New_full (n := v.N) (d := pw t.Frac) ⟨by omega, by omega⟩ ⟨by omega, by omega⟩ (by omega)
 rw [h1, Option.bind_some] at h
 injection h with h
 dsimp only at h
 subst h
 rcases h5 with ⟨_, _, rfl⟩ | ⟨_, _, rfl⟩
 ·obtain ⟨x1, _⟩ := frOK_bd hx
  simp at x1
 ·exact h4
theorem frX_in {t : GType} {v v' : GVal} (ht : tyB t = true) (hv : VaR v) (hv' : VaR v') (ho : okV t v = true) (ho' : okV t v' = true) (e : frX t v = frX t v') : v = v' := by
 obtain ⟨a1, a2, _⟩ := valT_fr hv ht ho
 obtain ⟨b1, b2, _⟩ := valT_fr hv' ht ho'
 by_cases k2 : t.Kind = 2
 ·have c1 := fraction_fx ht k2 ho a1
  have c2 := fraction_fx ht k2 ho' b1
  rw [e] at c1
  obtain ⟨x1, _⟩ := frOK_bd b2
  have c3 : v.N = v'.N := Int.eq_of_mul_eq_mul_right (show (frX t v').D ≠ 0 by omega) (by rw [← c1, ← c2])
  have d1 := (okV_fix ht k2 ho).1
  have d2 := (okV_fix ht k2 ho').1
  cases v; cases v'
  simp only at c3 d1 d2
  rw [c3, d1, d2]
 ·unfold m_value_fraction at a1 b1
  rw [if_neg (by simpa using k2)] at a1 b1
  injection a1 with a1
  injection b1 with b1
  rw [a1, b1, e]
theorem tks_itoa (n : Int) : tks (itoaL n) = itoaL n := by
 unfold tks itoaL
 split <;> simp [nb_dd, show nonB [45] = true by decide]
theorem itoa_ur {n n' : Int} {r r' : List (List UInt8)} (e : itoaL n ++ r = itoaL n' ++ r') : n = n' ∧ r = r' := by
 unfold itoaL at e
 by_cases c : n < 0 <;> by_cases c' : n' < 0
 ·rw [if_pos c, if_pos c'] at e
  simp only [List.cons_append, List.nil_append, List.cons.injEq] at e
  exact ⟨by have := dd_in e.2.1; omega, e.2.2⟩
 ·rw [if_pos c, if_neg c'] at e
  simp only [List.cons_append, List.nil_append, List.cons.injEq] at e
  exact absurd e.1.symm (dd_sign _ (by decide))
 ·rw [if_neg c, if_pos c'] at e
  simp only [List.cons_append, List.nil_append, List.cons.injEq] at e
  exact absurd e.1 (dd_sign _ (by decide))
 ·rw [if_neg c, if_neg c'] at e
  simp only [List.cons_append, List.nil_append, List.cons.injEq] at e
  exact ⟨by have := dd_in e.1; omega, e.2⟩
theorem fmt_ur {x x' : GVal} {r r' : List (List UInt8)} (hr : ∃ s, r = [41] :: s) (hr' : ∃ s, r' = [41] :: s) (e : tks (fmtL x) ++ r = tks (fmtL x') ++ r') : x = x' ∧ r = r' := by
 have ht : ∀ y : GVal, tks (fmtL y) = if y.D = 1 then itoaL y.N else itoaL y.N ++ ([47] :: itoaL y.D) := fun y => by
  unfold fmtL
  split
  ·exact tks_itoa _
  ·show List.filter nonB _ = _
   rw [List.filter_append, List.filter_append, show List.filter nonB (itoaL y.N) = itoaL y.N from tks_itoa _, show List.filter nonB (itoaL y.D) = itoaL y.D from tks_itoa _]
   rfl
 rw [ht, ht] at e
 obtain ⟨s, rfl⟩ := hr
 obtain ⟨s', rfl⟩ := hr'
 by_cases d : x.D = 1 <;> by_cases d' : x'.D = 1
 ·rw [if_pos d, if_pos d'] at e
  obtain ⟨e1, e2⟩ := itoa_ur e
  refine ⟨?_, e2⟩
  cases x; cases x'
  simp only at e1 d d'
  rw [e1, d, d']
 ·rw [if_pos d, if_neg d', List.append_assoc] at e
  obtain ⟨e1, e2⟩ := itoa_ur e
  exact absurd (List.cons.inj e2).1 (by decide)
 ·rw [if_neg d, if_pos d', List.append_assoc] at e
  obtain ⟨e1, e2⟩ := itoa_ur e
  exact absurd (List.cons.inj e2).1 (by decide)
 ·rw [if_neg d, if_neg d', List.append_assoc, List.append_assoc] at e
  obtain ⟨e1, e2⟩ := itoa_ur e
  obtain ⟨e3, e4⟩ := itoa_ur (List.cons.inj e2).2
  refine ⟨?_, e4⟩
  cases x; cases x'
  simp only at e1 e3
  rw [e1, e3]
def closeR (r : List (List UInt8)) : Prop := ∃ t s, r = t :: s ∧ (t = [93] ∨ t = [41])
theorem closeR.stop {r : List (List UInt8)} (h : closeR r) : stopF r := by
 obtain ⟨t, s, h1, h2⟩ := h
 exact ⟨t, s, h1, h2.elim Or.inl fun h => Or.inr (Or.inl h)⟩
theorem tks_join {α : Type} (f : α → List (List UInt8)) (x y : α) (l : List α) : tks (joinL ((x :: y :: l).map f)) = tks (f x) ++ ([44] :: tks (joinL ((y :: l).map f))) := by
 rw [List.map_cons, List.map_cons, joinL]
 show List.filter nonB _ = _
 rw [List.filter_append, List.filter_append]
 rfl
theorem join_ur {α : Type} {f : α → List (List UInt8)} : ∀ {l l' : List α} {r r' : List (List UInt8)},
  (∀ x ∈ l, ∀ y ∈ l', ∀ s s', stopF s → stopF s' → tks (f x) ++ s = tks (f y) ++ s' → x = y ∧ s = s') → (∀ x, (x ∈ l ∨ x ∈ l') → ∀ r, ∃ t s, tks (f x) ++ r = t :: s ∧ t ≠ [93] ∧ t ≠ [41]) →
  closeR r → closeR r' → tks (joinL (l.map f)) ++ r = tks (joinL (l'.map f)) ++ r' → l = l' ∧ r = r'
 | [], [], r, r', _, _, _, _, e => ⟨rfl, e⟩
 | [], y :: l', r, r', _, hh, hr, _, e => by
  exfalso
  obtain ⟨t, s, rfl, hc⟩ := hr
  have : ∃ z, tks (joinL ((y :: l').map f)) ++ r' = tks (f y) ++ z := by
   cases l' with
   | nil => exact ⟨r', rfl⟩
   | cons y2 l' => exact ⟨_, by rw [tks_join, List.append_assoc]⟩
  obtain ⟨z, hz⟩ := this
  obtain ⟨t', s', h1, h2⟩ := hh y (Or.inr (by simp)) z
  rw [hz, h1] at e
  have e' : t :: s = t' :: s' := e
  rcases hc with rfl | rfl
  ·exact h2.1 (List.cons.inj e').1.symm
  ·exact h2.2 (List.cons.inj e').1.symm
 | x :: l, [], r, r', _, hh, _, hr', e => by
  exfalso
  obtain ⟨t, s, rfl, hc⟩ := hr'
  have : ∃ z, tks (joinL ((x :: l).map f)) ++ r = tks (f x) ++ z := by
   cases l with
   | nil => exact ⟨r, rfl⟩
   | cons y2 l' => exact ⟨_, by rw [tks_join, List.append_assoc]⟩
  obtain ⟨z, hz⟩ := this
  obtain ⟨t', s', h1, h2⟩ := hh x (Or.inl (by simp)) z
  rw [hz, h1] at e
  have e' : t' :: s' = t :: s := e
  rcases hc with rfl | rfl
  ·exact h2.1 (List.cons.inj e').1
  ·exact h2.2 (List.cons.inj e').1
 | [x], [y], r, r', hu, _, hr, hr', e => by
  obtain ⟨e1, e2⟩ := hu x (by simp) y (by simp) r r' hr.stop hr'.stop e
  exact ⟨by rw [e1], e2⟩
 | [x], y :: y2 :: l', r, r', hu, _, hr, hr', e => by
  exfalso
  rw [tks_join, List.append_assoc] at e
  obtain ⟨_, e2⟩ := hu x (by simp) y (by simp) r _ hr.stop ⟨_, _, rfl, Or.inr (Or.inr rfl)⟩ e
  obtain ⟨t, s, rfl, hc⟩ := hr
  have := (List.cons.inj e2).1
  rcases hc with rfl | rfl <;> revert this <;> decide
 | x :: x2 :: l, [y], r, r', hu, _, hr, hr', e => by
  exfalso
  rw [tks_join, List.append_assoc] at e
  obtain ⟨_, e2⟩ := hu x (by simp) y (by simp) _ r' ⟨_, _, rfl, Or.inr (Or.inr rfl)⟩ hr'.stop e
  obtain ⟨t, s, rfl, hc⟩ := hr'
  have := (List.cons.inj e2).1
  rcases hc with rfl | rfl <;> revert this <;> decide
 | x :: x2 :: l, y :: y2 :: l', r, r', hu, hh, hr, hr', e => by
  rw [tks_join, tks_join, List.append_assoc, List.append_assoc] at e
  obtain ⟨e1, e2⟩ := hu x (by simp) y (by simp) _ _ ⟨_, _, rfl, Or.inr (Or.inr rfl)⟩ ⟨_, _, rfl, Or.inr (Or.inr rfl)⟩ e
  obtain ⟨e3, e4⟩ := join_ur (l := x2 :: l) (l' := y2 :: l') (fun a ha b hb => hu a (List.mem_cons_of_mem _ ha) b (List.mem_cons_of_mem _ hb)) (fun a ha => hh a (ha.imp (List.mem_cons_of_mem _) (List.mem_cons_of_mem _))) hr hr' (List.cons.inj e2).2
  exact ⟨by rw [e1, e3], e4⟩
theorem tks_ixg {x : GIndex} (h : okIx x) (hf : x.From ≠ []) : tks (ixL x) = x.From :: [91] :: (tks (joinL (x.At.map linL)) ++ [[93]]) := by
 have h3 := h.2.2
 rw [if_neg hf] at h3
 unfold ixL
 rw [if_neg hf]
 show List.filter nonB _ = _
 rw [List.filter_append, List.filter_append, List.filter_append, List.filter_cons_of_pos (nb_wd (isWd_name h3.1))]
 rfl
theorem ix_hd {x : GIndex} (h : okIx x) (r : List (List UInt8)) : ∃ t s, tks (ixL x) ++ r = t :: s ∧ t ≠ [93] ∧ t ≠ [41] := by
 by_cases hf : x.From = []
 ·unfold ixL
  rw [if_pos hf]
  obtain ⟨t, s, h1, h2, h3, _⟩ := lin_hd h.1 r
  exact ⟨t, s, h1, h2, h3⟩
 ·rw [tks_ixg h hf]
  have h3 := h.2.2
  rw [if_neg hf] at h3
  exact ⟨_, _, rfl, wd_sign' (isWd_name h3.1) (by decide), wd_sign' (isWd_name h3.1) (by decide)⟩
theorem ter_name {b : Bool} {x : Int × List UInt8} {ts : List (Int × List UInt8)} {r s : List (List UInt8)} {t : List UInt8} (h : okTer (x :: ts)) (hr : stopF r) (ht : isWd t) (e : tks (terL b (x :: ts)) ++ r = t :: s) : s.head? ≠ some [91] := by
 have hx := h x (by simp)
 rw [tks_ter hx, List.append_assoc, List.append_assoc] at e
 unfold sgnK at e
 have hb : bodyL x.1 x.2 ++ (tks (terL false ts) ++ r) = t :: s := by
  split at e
  ·exact absurd (List.cons.inj e).1.symm (wd_sign' ht (by decide))
  ·split at e
   ·exact e
   ·exact absurd (List.cons.inj e).1.symm (wd_sign' ht (by decide))
 unfold bodyL at hb
 split at hb
 ·exact absurd (List.cons.inj hb).1 (nm_wd (isNm_dd _) ht)
 ·split at hb
  ·have := (List.cons.inj hb).2
   have this : tks (terL false ts) ++ r = s := this
   cases ts with
   | nil =>
    obtain ⟨a, c, rfl, hac⟩ := hr
    rw [← this]
    show some a ≠ _
    rcases hac with rfl | rfl | rfl <;> decide
   | cons p q =>
    rw [tks_ter (h p (by simp))] at this
    rw [← this]
    unfold sgnK
    split
    ·show some ([45] : List UInt8) ≠ _; decide
    ·show some ([43] : List UInt8) ≠ _; decide
  ·exact absurd (List.cons.inj hb).1 (nm_wd (isNm_dd _) ht)
theorem index_ur {x y : GIndex} {r r' : List (List UInt8)} (h : okIx x) (h' : okIx y) (hr : stopF r) (hr' : stopF r') (e : tks (ixL x) ++ r = tks (ixL y) ++ r') : x = y ∧ r = r' := by
 have h3 := h.2.2
 have h3' := h'.2.2
 have cross : ∀ {u v : GIndex} {z z' : List (List UInt8)}, okIx u → okIx v → u.From = [] → v.From ≠ [] → stopF z → tks (ixL u) ++ z ≠ tks (ixL v) ++ z' := by
  intro u v z z' hu hv h0 h1 hz ee
  rw [tks_ixg hv h1] at ee
  unfold ixL at ee
  rw [if_pos h0] at ee
  have hvn := hv.2.2
  rw [if_neg h1] at hvn
  unfold linL at ee
  cases ht : termsOf u.Lin with
  | nil =>
   unfold termsOf at ht
   rw [List.append_eq_nil_iff, List.map_eq_nil_iff] at ht
   rw [ht.1] at ht
   simp at ht
  | cons p q =>
   rw [ht] at ee
   exact ter_name (fun y hy => terms_ok hu.1 y (by rw [ht]; exact hy)) hz (isWd_name hvn.1) ee rfl
 by_cases f1 : x.From = [] <;> by_cases f2 : y.From = []
 ·rw [if_pos f1] at h3
  rw [if_pos f2] at h3'
  unfold ixL at e
  rw [if_pos f1, if_pos f2] at e
  obtain ⟨e1, e2⟩ := lin_ur h.1 h'.1 hr hr' e
  refine ⟨?_, e2⟩
  cases x; cases y
  simp only at e1 f1 f2 h3 h3'
  rw [e1, f1, f2, h3, h3']
 ·exact absurd e (cross h h' f1 f2 hr)
 ·exact absurd e.symm (cross h' h f2 f1 hr')
 ·rw [tks_ixg h f1, tks_ixg h' f2] at e
  rw [if_neg f1] at h3
  rw [if_neg f2] at h3'
  simp only [List.cons_append, List.cons.injEq, true_and, List.append_assoc, List.nil_append] at e
  obtain ⟨e1, e2⟩ := e
  obtain ⟨e3, e4⟩ := join_ur (fun a ha b hb s s' hs hs' ee => lin_ur (h.2.1 a ha) (h'.2.1 b hb) hs hs' ee) (fun a ha r => by
   obtain ⟨t, s, h1, h2, h3, _⟩ := lin_hd (ha.elim (h.2.1 a) (h'.2.1 a)) r
   exact ⟨t, s, h1, h2, h3⟩) ⟨_, _, rfl, Or.inl rfl⟩ ⟨_, _, rfl, Or.inl rfl⟩ e2
  refine ⟨?_, (List.cons.inj e4).2⟩
  have hl : ∀ {l : GLin}, l.K = 0 → l.L = [] → l = ⟨0, []⟩ := fun {l} a b => by cases l; simp only at a b; rw [a, b]
  have l1 := hl h3.2.1 h3.2.2
  have l2 := hl h3'.2.1 h3'.2.2
  cases x; cases y
  simp only at e1 e3 l1 l2
  rw [e1, e3, l1, l2]
end Go.Proofs.YtebpdmfmknfkjaaGreatDoor
