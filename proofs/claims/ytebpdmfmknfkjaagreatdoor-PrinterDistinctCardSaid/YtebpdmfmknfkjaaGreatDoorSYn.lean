import Derived.Test.YtebpdmfmknfkjaaGreatDoorSYm
namespace Go.Proofs.YtebpdmfmknfkjaaGreatDoor
open Go Go.RowKit Go.Vc
set_option linter.unusedVariables false
set_option linter.unusedSimpArgs false
def brk (st : List (List UInt8)) (t : List UInt8) : Option (List (List UInt8)) :=
  if t = [40] ∨ t = [91] then some (st ++ [t]) else if t = [41] then (if st.getLast? = some [40] then some st.dropLast else none) else if t = [93] then (if st.getLast? = some [91] then some st.dropLast else none) else some st
def runB : List (List UInt8) → List (List UInt8) → Option (List (List UInt8))
  | [], st => some st
  | t :: r, st => (brk st t).bind fun s => runB r s
theorem runB_app : ∀ (a b st : List (List UInt8)), runB (a ++ b) st = (runB a st).bind fun s => runB b s
  | [], b, st => rfl
  | t :: a, b, st => by
    show (brk st t).bind (fun s => runB (a ++ b) s) = ((brk st t).bind fun s => runB a s).bind fun s => runB b s
    cases brk st t with
    | none => rfl
    | some s => exact runB_app a b s
abbrev neuL (a : List (List UInt8)) : Prop := ∀ st, runB a st = some st
theorem neu_app {a b : List (List UInt8)} (h1 : neuL a) (h2 : neuL b) : neuL (a ++ b) := fun st => by rw [runB_app, h1 st]; exact h2 st
theorem neu_wrap {a : List (List UInt8)} {o c : List UInt8} (h : neuL a) (hoc : (o = [40] ∧ c = [41]) ∨ (o = [91] ∧ c = [93])) : neuL (o :: (a ++ [c])) := fun st => by
  show (brk st o).bind (fun s => runB (a ++ [c]) s) = some st
  rcases hoc with ⟨rfl, rfl⟩ | ⟨rfl, rfl⟩
  · rw [show brk st [40] = some (st ++ [[40]]) from rfl, Option.bind_some, runB_app, h, Option.bind_some]
    show (brk (st ++ [[40]]) [41]).bind (fun s => some s) = some st
    unfold brk; simp
  · rw [show brk st [91] = some (st ++ [[91]]) from rfl, Option.bind_some, runB_app, h, Option.bind_some]
    show (brk (st ++ [[91]]) [93]).bind (fun s => some s) = some st
    unfold brk; simp
def isBr (t : List UInt8) : Bool := decide (t = [40]) || decide (t = [41]) || decide (t = [91]) || decide (t = [93])
theorem neu_one {t : List UInt8} (h : isBr t = false) : neuL [t] := fun st => by
  unfold isBr at h
  simp only [Bool.or_eq_false_iff, decide_eq_false_iff_not] at h
  show (brk st t).bind (fun s => some s) = some st
  unfold brk
  rw [if_neg (by simp [h]), if_neg h.1.1.2, if_neg h.2]; rfl
def stopN (n : Option UInt8) : Prop := ∀ c, n = some c → wordB c = false
structure Lex (ls : List (List UInt8)) (T : List UInt8) (any : Bool) : Prop where
  flat : ls.flatten = T
  ok : ∀ n, (any = true ∨ stopN n) → okLx ls n
  neu : neuL ls
theorem Lex.nil : Lex [] [] true := ⟨rfl, fun _ _ => trivial, fun _ => rfl⟩
theorem Lex.app {a b : List (List UInt8)} {A B : List UInt8} {y : Bool} (ha : Lex a A true) (hb : Lex b B y) : Lex (a ++ b) (A ++ B) y :=
  ⟨by rw [List.flatten_append, ha.flat, hb.flat], fun n h => okLx_app (ha.ok _ (Or.inl rfl)) (hb.ok n h), neu_app ha.neu hb.neu⟩
theorem Lex.app2 {a b : List (List UInt8)} {A B : List UInt8} {y z : Bool} (ha : Lex a A z) (hb : Lex b B y) (hB : ∃ c r, B = c :: r ∧ wordB c = false) : Lex (a ++ b) (A ++ B) y :=
  ⟨by rw [List.flatten_append, ha.flat, hb.flat], fun n h => okLx_app (ha.ok _ (Or.inr (by
    obtain ⟨c, r, rfl, hc⟩ := hB
    rw [hb.flat]
    intro d hd
    injection hd with hd; rw [← hd]; exact hc))) (hb.ok n h), neu_app ha.neu hb.neu⟩
theorem Lex.weak {a : List (List UInt8)} {A : List UInt8} {y : Bool} (ha : Lex a A true) : Lex a A y := ⟨ha.flat, fun n _ => ha.ok n (Or.inl rfl), ha.neu⟩
theorem Lex.weak2 {a : List (List UInt8)} {A : List UInt8} {y : Bool} (ha : Lex a A y) : Lex a A false := ⟨ha.flat, fun n h => ha.ok n (Or.inr (h.resolve_left (by simp))), ha.neu⟩
theorem Lex.blank : Lex [[32]] [32] true := ⟨rfl, fun _ _ => ⟨Or.inl rfl, trivial⟩, neu_one (by decide)⟩
theorem sep_sign {t : List UInt8} {m : Option UInt8} (ht : t ∈ signs) (h60 : t = [60] → m ≠ some 61) : sepT t m := by
  have h : letB (t.headD 0) = false ∧ digB (t.headD 0) = false := by
    unfold signs at ht
    simp only [List.mem_cons, List.not_mem_nil, or_false] at ht
    rcases ht with rfl | rfl | rfl | rfl | rfl | rfl | rfl | rfl | rfl | rfl | rfl | rfl | rfl | rfl | rfl | rfl | rfl <;> decide
  exact ⟨fun hh => (by rw [h.1] at hh; cases hh), fun hh => (by rw [h.2] at hh; cases hh), h60⟩
theorem okLx_sign {t : List UInt8} (ht : t ∈ signs) (h60 : t ≠ [60]) (n : Option UInt8) : okLx [t] n := ⟨Or.inr ⟨Or.inr (Or.inr ht), sep_sign ht fun h => absurd h h60⟩, trivial⟩
theorem Lex.sign {t : List UInt8} (ht : t ∈ signs) (h60 : t ≠ [60]) (hb : isBr t = false) : Lex [t] t true :=
  ⟨by simp, fun n _ => okLx_sign ht h60 n, neu_one hb⟩
theorem wordB_of {c : UInt8} (h : digB c = true) : wordB c = true := by
  unfold wordB; unfold digB at h; rw [h]; simp
theorem word_nobr {t : List UInt8} (h : letB (t.headD 0) = true ∨ digB (t.headD 0) = true) : isBr t = false := by
  rw [Bool.eq_false_iff]
  unfold isBr
  simp only [ne_eq, Bool.or_eq_true, decide_eq_true_eq]
  rintro (((rfl | rfl) | rfl) | rfl) <;> revert h <;> decide
theorem Lex.word {t : List UInt8} (h : isWd t) : Lex [t] t false :=
  ⟨by simp, fun n hn => ⟨Or.inr ⟨Or.inl h, ⟨fun _ c hc => hn.resolve_left (by simp) c hc, fun hd => (by rw [let_dig h.1] at hd; cases hd), fun h60 => (by have := h.1; subst h60; exact absurd this (by decide))⟩⟩, trivial⟩, neu_one (word_nobr (Or.inl h.1))⟩
theorem isNm_head {t : List UInt8} (h : isNm t) : digB (t.headD 0) = true := by
  obtain ⟨h1, h2⟩ := h
  cases t with
  | nil => exact absurd rfl h2
  | cons c t => rw [List.all_cons, Bool.and_eq_true] at h1; exact h1.1
theorem Lex.num {t : List UInt8} (h : isNm t) : Lex [t] t false :=
  ⟨by simp, fun n hn => ⟨Or.inr ⟨Or.inr (Or.inl h), ⟨fun hl => (by have := let_dig hl; rw [isNm_head h] at this; cases this), fun _ c hc => (by
    have := hn.resolve_left (by simp) c hc
    cases hd : digB c
    · rfl
    · rw [wordB_of hd] at this; cases this), fun h60 => (by have := isNm_head h; subst h60; exact absurd this (by decide))⟩⟩, trivial⟩, neu_one (word_nobr (Or.inr (isNm_head h)))⟩
theorem Lex.paren {a : List (List UInt8)} {A : List UInt8} {z : Bool} (ha : Lex a A z) : Lex ([[40]] ++ (a ++ [[41]])) ([40] ++ (A ++ [41])) true := by
  have h2 : Lex (a ++ [[41]]) (A ++ [41]) true → True := fun _ => trivial
  refine ⟨by simp [ha.flat], fun n _ => ?_, neu_wrap ha.neu (Or.inl ⟨rfl, rfl⟩)⟩
  refine okLx_app (okLx_sign (by decide) (by decide) _) (okLx_app (ha.ok _ (Or.inr fun c hc => ?_)) (okLx_sign (by decide) (by decide) _))
  injection hc with hc; rw [← hc]; decide
theorem Lex.brack {a : List (List UInt8)} {A : List UInt8} {z : Bool} (ha : Lex a A z) : Lex ([[91]] ++ (a ++ [[93]])) ([91] ++ (A ++ [93])) true := by
  refine ⟨by simp [ha.flat], fun n _ => ?_, neu_wrap ha.neu (Or.inr ⟨rfl, rfl⟩)⟩
  refine okLx_app (okLx_sign (by decide) (by decide) _) (okLx_app (ha.ok _ (Or.inr fun c hc => ?_)) (okLx_sign (by decide) (by decide) _))
  injection hc with hc; rw [← hc]; decide
theorem Lex.oper {t : List UInt8} (ht : t ∈ signs) (hb : isBr t = false) : Lex ([[32]] ++ ([t] ++ [[32]])) ([32] ++ (t ++ [32])) true := by
  refine ⟨by simp, fun n _ => ?_, neu_app (neu_one (by decide)) (neu_app (neu_one hb) (neu_one (by decide)))⟩
  exact ⟨Or.inl rfl, Or.inr ⟨Or.inr (Or.inr ht), sep_sign ht fun h => by show some (32 : UInt8) ≠ some 61; decide⟩, Or.inl rfl, trivial⟩
def joinL : List (List (List UInt8)) → List (List UInt8)
  | [] => []
  | [a] => a
  | a :: b :: r => a ++ ([[44], [32]] ++ joinL (b :: r))
theorem Lex.join {α : Type} {l : List α} {f : α → List (List UInt8)} {g : α → List UInt8} {z : Bool} (h : ∀ x ∈ l, Lex (f x) (g x) z) : Lex (joinL (l.map f)) (joinT (l.map g)) false := by
  induction l with
  | nil => exact Lex.nil.weak
  | cons x l ih =>
    cases l with
    | nil => exact (h x (by simp)).weak2
    | cons y l =>
      have h2 := ih fun z hz => h z (by simp [hz])
      have hc : Lex ([[44]] ++ [[32]]) ([44] ++ [32]) true := (Lex.sign (by decide) (by decide) (by decide)).app Lex.blank
      exact (h x (by simp)).app2 (hc.app h2) ⟨44, _, rfl, by decide⟩
theorem isNm_dd (u : Nat) : isNm (Lib.decDigits u) := by
  obtain ⟨h1, _, h3, _⟩ := dd_spec u
  refine ⟨List.all_eq_true.2 fun c hc => ?_, h3⟩
  have := List.all_eq_true.1 h1 c hc
  unfold dig at this; unfold digB
  simp only [Bool.and_eq_true, decide_eq_true_eq] at this ⊢; omega
theorem isWd_name {s : List UInt8} (h : nameB s = true) : isWd s := by
  unfold nameB at h
  simp only [Bool.and_eq_true, decide_eq_true_eq] at h
  obtain ⟨⟨⟨⟨h1, h2⟩, h3⟩, h4⟩, _⟩ := h
  refine ⟨?_, h4, h2, h1⟩
  cases s with
  | nil => exact absurd rfl h1
  | cons c s => exact h3
def itoaL (n : Int) : List (List UInt8) := if n < 0 then [[45], Lib.decDigits n.natAbs] else [Lib.decDigits n.natAbs]
theorem Lex.itoa (n : Int) : Lex (itoaL n) (Lib.itoa n) false := by
  unfold itoaL
  by_cases h : n < 0
  · rw [if_pos h, itoa_ng h]
    exact (Lex.sign (t := [45]) (by decide) (by decide) (by decide)).app (Lex.num (isNm_dd _))
  · rw [if_neg h, itoa_nn (by omega), show n.toNat = n.natAbs by omega]
    exact Lex.num (isNm_dd _)
def termsOf (l : GLin) : List (Int × List UInt8) := l.L.map (fun m => (m.By, m.Name)) ++ (if l.K ≠ 0 ∨ l.L = [] then [(l.K, [])] else [])
def sgnL (first : Bool) (c : Int) : List (List UInt8) := if first = true then (if c < 0 then [[45]] else []) else (if c < 0 then [[32], [45], [32]] else [[32], [43], [32]])
def bodyL (c : Int) (nm : List UInt8) : List (List UInt8) := if nm = [] then [Lib.decDigits c.natAbs] else if c.natAbs = 1 then [nm] else [Lib.decDigits c.natAbs, [42], nm]
def terL : Bool → List (Int × List UInt8) → List (List UInt8)
  | _, [] => []
  | b, x :: r => sgnL b x.1 ++ (bodyL x.1 x.2 ++ terL false r)
def terT : Bool → List (Int × List UInt8) → List UInt8
  | _, [] => []
  | b, x :: r => (if b = true then (if x.1 < 0 then [45] else []) else (if x.1 < 0 then [32, 45, 32] else [32, 43, 32])) ++ (bodyT x.1 x.2 ++ terT false r)
def linL (l : GLin) : List (List UInt8) := terL true (termsOf l)
theorem fold_ter : ∀ (ts : List (Int × List UInt8)) (s : List UInt8), ts.foldl (fun s x => addT s x.1 x.2) s = s ++ terT (decide (s = [])) ts
  | [], s => by simp [terT]
  | x :: ts, s => by
    rw [List.foldl_cons, fold_ter ts, decide_eq_false (addT_ne s x.2)]
    unfold addT sgnT
    rw [terT]
    by_cases h : s = [] <;> simp [h]
theorem linT_ter {l : GLin} (h : okLin l) : linT l = terT true (termsOf l) := by
  have e : linS l = (termsOf l).foldl (fun s x => addT s x.1 x.2) [] := by
    unfold linS termsOf foldT
    rw [List.foldl_append, List.foldl_map]
    split <;> rfl
  unfold linT
  rw [if_pos h, e, fold_ter]; rfl
theorem Lex.body {c : Int} {nm : List UInt8} (h : nm = [] ∨ nameB nm = true) : Lex (bodyL c nm) (bodyT c nm) false := by
  unfold bodyL bodyT
  by_cases h0 : nm = []
  · rw [if_pos h0, if_pos h0]; exact Lex.num (isNm_dd _)
  have hn := Lex.word (isWd_name (h.resolve_left h0))
  rw [if_neg h0, if_neg h0]
  split
  · exact hn
  · exact (Lex.num (isNm_dd _)).app2 ((Lex.sign (t := [42]) (by decide) (by decide) (by decide)).app hn) ⟨42, _, rfl, by decide⟩
theorem Lex.ter : ∀ {ts : List (Int × List UInt8)} {b : Bool}, (∀ x ∈ ts, x.2 = [] ∨ nameB x.2 = true) → Lex (terL b ts) (terT b ts) false ∧ (b = false → ts ≠ [] → ∃ c r, terT b ts = c :: r ∧ wordB c = false)
  | [], b, _ => ⟨Lex.nil.weak, fun _ h => absurd rfl h⟩
  | x :: ts, b, h => by
    obtain ⟨h1, h2⟩ := Lex.ter (b := false) fun y hy => h y (List.mem_cons_of_mem _ hy)
    have hs : Lex (sgnL b x.1) (if b = true then (if x.1 < 0 then [45] else []) else (if x.1 < 0 then [32, 45, 32] else [32, 43, 32])) true := by
      unfold sgnL
      cases b
      · simp only [Bool.false_eq_true, if_false]
        split
        · exact Lex.oper (t := [45]) (by decide) (by decide)
        · exact Lex.oper (t := [43]) (by decide) (by decide)
      · simp only [if_true]
        split
        · exact Lex.sign (t := [45]) (by decide) (by decide) (by decide)
        · exact Lex.nil
    have hb : Lex (bodyL x.1 x.2 ++ terL false ts) (bodyT x.1 x.2 ++ terT false ts) false := by
      have h0 := Lex.body (c := x.1) (h x (by simp))
      by_cases he : ts = []
      · subst he; simp only [terL, terT, List.append_nil]; exact h0
      · exact h0.app2 h1 (h2 rfl he)
    refine ⟨hs.app hb, fun hb0 _ => ?_⟩
    subst hb0
    rw [terT]
    simp only [Bool.false_eq_true, if_false]
    split
    · exact ⟨32, _, rfl, by decide⟩
    · exact ⟨32, _, rfl, by decide⟩
theorem terms_ok {l : GLin} (h : okLin l) : ∀ x ∈ termsOf l, x.2 = [] ∨ nameB x.2 = true := fun x hx => by
  unfold termsOf at hx
  rcases List.mem_append.1 hx with hx | hx
  · obtain ⟨m, hm, rfl⟩ := List.mem_map.1 hx
    exact Or.inr (h.1 m hm).1
  · split at hx
    · rw [List.mem_singleton.1 hx]; exact Or.inl rfl
    · simp at hx
theorem Lex.lin {l : GLin} (h : okLin l) : Lex (linL l) (linT l) false := by rw [linT_ter h]; exact (Lex.ter (terms_ok h)).1
def tyL (t : GType) : List (List UInt8) :=
  if t.Kind = 1 then [[102, 114, 97, 99]] else if t.Kind = 3 then [[105, 110, 116]]
  else [[102, 105, 120]] ++ ([[40]] ++ ((itoaL t.Bits ++ ([[44], [32]] ++ (itoaL t.Frac ++ ([[44], [32]] ++ ([modeT t.Round] ++ ([[44], [32]] ++ [overT t.Over])))))) ++ [[41]]))
theorem Lex.comma : Lex [[44], [32]] [44, 32] true := (Lex.sign (t := [44]) (by decide) (by decide) (by decide)).app Lex.blank
theorem isWd_mode (n : Int) : isWd (modeT n) := by unfold modeT; repeat' split
                                                   all_goals exact ⟨by decide, by decide, by decide, by decide⟩
theorem isWd_over (n : Int) : isWd (overT n) := by unfold overT; repeat' split
                                                   all_goals exact ⟨by decide, by decide, by decide, by decide⟩
theorem Lex.type {t : GType} (h : tyB t = true) : Lex (tyL t) (tyT t) false := by
  unfold tyL tyT
  rw [if_pos h]
  split
  · exact Lex.word ⟨by decide, by decide, by decide, by decide⟩
  split
  · exact Lex.word ⟨by decide, by decide, by decide, by decide⟩
  have c : ∀ {a : List (List UInt8)} {A : List UInt8}, ∃ d r, [44, 32] ++ A = d :: r ∧ wordB d = false := fun {a A} => ⟨44, _, rfl, by decide⟩
  have h1 := (Lex.itoa t.Bits).app2 (Lex.comma.app ((Lex.itoa t.Frac).app2 (Lex.comma.app ((Lex.word (isWd_mode t.Round)).app2 (Lex.comma.app (Lex.word (isWd_over t.Over))) ⟨44, _, rfl, by decide⟩)) ⟨44, _, rfl, by decide⟩)) ⟨44, _, rfl, by decide⟩
  have h2 := (Lex.word (t := [102, 105, 120]) ⟨by decide, by decide, by decide, by decide⟩).app2 h1.paren ⟨40, _, rfl, by decide⟩
  have e : [102, 105, 120, 40] ++ (Lib.itoa t.Bits ++ ([44, 32] ++ (Lib.itoa t.Frac ++ ([44, 32] ++ (modeT t.Round ++ ([44, 32] ++ (overT t.Over ++ [41]))))))) = [102, 105, 120] ++ ([40] ++ ((Lib.itoa t.Bits ++ ([44, 32] ++ (Lib.itoa t.Frac ++ ([44, 32] ++ (modeT t.Round ++ ([44, 32] ++ overT t.Over)))))) ++ [41])) := by simp
  rw [e]
  exact h2.weak
def frX (t : GType) (v : GVal) : GVal := (m_value_fraction t v).getD default
theorem valT_fr {t : GType} {v : GVal} (hv : VaR v) (ht : tyB t = true) (ho : okV t v = true) : m_value_fraction t v = some (frX t v) ∧ frOK (frX t v) = true ∧ valT t v = fmtS (frX t v) := by
  obtain ⟨x, h1, h2, h3⟩ := value_Format (t := t) hv
  obtain ⟨h4, h5⟩ := h1 ht ho
  have e : frX t v = x := by unfold frX; rw [h4]; rfl
  refine ⟨by rw [e]; exact h4, by rw [e]; exact h5, ?_⟩
  unfold valT
  rw [h2, ht, ho, e]; rfl
def fmtL (a : GVal) : List (List UInt8) := if a.D = 1 then itoaL a.N else itoaL a.N ++ ([[47]] ++ itoaL a.D)
theorem Lex.fmt {a : GVal} (h : frOK a = true) : Lex (fmtL a) (fmtS a) false := by
  unfold fmtL fmtS
  rw [if_pos h]
  split
  · exact Lex.itoa _
  · exact (Lex.itoa _).app2 ((Lex.sign (t := [47]) (by decide) (by decide) (by decide)).app (Lex.itoa _)) ⟨47, _, rfl, by decide⟩
def ixL (x : GIndex) : List (List UInt8) := if x.From = [] then linL x.Lin else [x.From] ++ ([[91]] ++ (joinL (x.At.map linL) ++ [[93]]))
abbrev okIx (x : GIndex) : Prop := okLin x.Lin ∧ (∀ f ∈ x.At, okLin f) ∧ (if x.From = [] then x.At = [] else nameB x.From = true ∧ x.Lin.K = 0 ∧ x.Lin.L = [])
theorem Lex.index {x : GIndex} (h : okIx x) : Lex (ixL x) (ixT x) false := by
  obtain ⟨h1, h2, h3⟩ := h
  unfold ixL ixT
  by_cases hf : x.From = []
  · rw [if_pos hf] at h3
    rw [if_pos hf, if_pos ⟨h1, h2⟩, if_pos hf, if_pos h3]
    have := Lex.lin h1
    unfold linT at this
    rwa [if_pos h1] at this
  · rw [if_neg hf] at h3
    rw [if_neg hf, if_pos ⟨h1, h2⟩, if_neg hf, if_pos h3]
    exact ((Lex.word (isWd_name h3.1)).app2 (Lex.join fun f hf => Lex.lin (h2 f hf)).brack ⟨91, _, rfl, by decide⟩).weak2
def opL (a : GExpr) (t : List (List UInt8)) (least : Int) : List (List UInt8) := if lvl a.Op < least then [[40]] ++ (t ++ [[41]]) else t
def exLB (e : GExpr) (ts : List (List (List UInt8))) : List (List UInt8) :=
  if e.Op = 1 then tyL e.Type_ ++ ([[40]] ++ (fmtL (frX e.Type_ e.Val) ++ [[41]]))
  else if e.Op = 2 then [[91]] ++ (linL e.Lin ++ [[93]])
  else if e.Op = 3 then [e.Name] ++ ([[91]] ++ (joinL (e.Idx.map ixL) ++ [[93]]))
  else if e.Op = 8 then [[45]] ++ opL (e.Args.getD 0 default) (ts.getD 0 []) 7
  else if e.Op = 18 then [[33]] ++ opL (e.Args.getD 0 default) (ts.getD 0 []) 3
  else if e.Op = 9 then [[109, 105, 110]] ++ ([[40]] ++ (joinL ts ++ [[41]]))
  else if e.Op = 10 then [[109, 97, 120]] ++ ([[40]] ++ (joinL ts ++ [[41]]))
  else if e.Op = 11 then [[105, 102]] ++ ([[40]] ++ (joinL ts ++ [[41]]))
  else if e.Op = 12 then [[99, 97, 115, 116]] ++ ([[40]] ++ (joinL (tyL e.Type_ :: ts) ++ [[41]]))
  else opL (e.Args.getD 0 default) (ts.getD 0 []) (lvl e.Op) ++ (([[32]] ++ ([symT e.Op] ++ [[32]])) ++ opL (e.Args.getD 1 default) (ts.getD 1 []) (lvl e.Op + 1))
def exL : GExpr → List (List UInt8)
  | ⟨op, nm, v, t, l, ix, args⟩ => exLB ⟨op, nm, v, t, l, ix, args⟩ (go args)
  where go : List GExpr → List (List (List UInt8))
    | [] => []
    | x :: xs => exL x :: go xs
theorem exL_go : ∀ (l : List GExpr), exL.go l = l.map exL
  | [] => rfl
  | x :: l => by rw [exL.go, exL_go l, List.map_cons]
theorem exL_eq (e : GExpr) : exL e = exLB e (e.Args.map exL) := by cases e; rw [exL, exL_go]
theorem Lex.opd {a : GExpr} {t : List (List UInt8)} {T : List UInt8} (least : Int) (h : Lex t T true) : Lex (opL a t least) (opd a T least) true := by
  unfold opL Go.Proofs.YtebpdmfmknfkjaaGreatDoor.opd
  split
  · exact h.paren
  · exact h
end Go.Proofs.YtebpdmfmknfkjaaGreatDoor
