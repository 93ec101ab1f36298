import Derived.Test.YtebpdmfmknfkjaaGreatDoorSYn
namespace Go.Proofs.YtebpdmfmknfkjaaGreatDoor
open Go Go.RowKit Go.Vc
set_option linter.unusedVariables false
set_option linter.unusedSimpArgs false
theorem okIx_of {e : GExpr} (hn : nodeErr e = 0) : ∀ x ∈ e.Idx, okIx x := fun x hx => by
 obtain ⟨p1, p2, p3, p4, p5⟩ := nodeErr_zero hn
 unfold plainN at p1
 unfold namedN at p2
 unfold formN at p5
 simp only [Bool.and_eq_true, List.all_eq_true] at p1 p2 p5
 have q1 := p1.2 x hx
 have q2 := p2.2 x hx
 obtain ⟨q3, q4⟩ := p5.2 x hx
 unfold ixP at q1
 refine ⟨of_decide_eq_true q3, fun f hf => of_decide_eq_true (q4 f hf), ?_⟩
 by_cases hf : x.From = []
 ·rw [if_pos hf] at q1 ⊢
  simpa using q1
 ·rw [if_neg hf] at q1 ⊢
  unfold zLin at q1
  simp only [Bool.and_eq_true, decide_eq_true_eq] at q1
  simp only [hf, decide_false, Bool.false_or] at q2
  exact ⟨q2, q1.1, List.length_eq_zero_iff.1 (by omega)⟩
structure NodeF (e : GExpr) : Prop where
 op1 : 1 ≤ e.Op
 op2 : e.Op ≤ 18
 ty : (e.Op = 1 ∨ e.Op = 12) → tyB e.Type_ = true
 nty : e.Op ≠ 1 → e.Op ≠ 12 → e.Type_ = ⟨0, 0, 0, 0, 0⟩
 val : e.Op = 1 → okV e.Type_ e.Val = true
 nval : e.Op ≠ 1 → e.Val = ⟨0, 0⟩
 lin : okLin e.Lin
 nlin : e.Op ≠ 2 → e.Lin = ⟨0, []⟩
 nam : e.Op = 3 → nameB e.Name = true
 nnam : e.Op ≠ 3 → e.Name = [] ∧ e.Idx = []
 ix : ∀ x ∈ e.Idx, okIx x
 len : (e.Args.length : Int) = opsN e.Op
theorem nodeF {e : GExpr} (hn : nodeErr e = 0) : NodeF e := by
 have hix := okIx_of hn
 obtain ⟨p1, p2, p3, p4, p5⟩ := nodeErr_zero hn
 unfold plainN zLin zTy at p1
 unfold namedN at p2
 unfold rankN at p3
 unfold typeN at p4
 unfold formN okLinB at p5
 simp only [Bool.and_eq_true, Bool.or_eq_true, decide_eq_true_eq, Bool.not_eq_true', decide_eq_false_iff_not] at p1 p2 p3 p4 p5
 obtain ⟨⟨⟨⟨⟨⟨o1, o2⟩, v⟩, t⟩, l⟩, nm⟩, _⟩ := p1
 refine ⟨o1, o2, fun h => ?_, fun h1 h12 => ?_, fun h => ?_, fun h => ?_, p5.1.2, fun h => ?_, fun h => ?_, fun h => ?_, hix, p3.1.1⟩
 ·rcases p4.1 with hh | hh
  ·rcases h with h | h <;> simp [h] at hh
  ·exact hh
 ·have := t.resolve_left (by rintro (h | h) <;> contradiction)
  cases ht : e.Type_
  rw [ht] at this
  simp only at this
  obtain ⟨⟨⟨⟨a, b⟩, c⟩, d⟩, f⟩ := this
  rw [a, b, c, d, f]
 ·exact p5.1.1.resolve_left (fun hh => hh h)
 ·have := v.resolve_left h
  cases hv : e.Val
  rw [hv] at this
  simp only at this
  rw [this.1, this.2]
 ·have := l.resolve_left h
  cases hl : e.Lin with | mk K L =>
  rw [hl] at this
  simp only at this
  rw [this.1, List.length_eq_zero_iff.1 (show L.length = 0 by omega)]
 ·exact p2.1.resolve_left (fun hh => hh h)
 ·have := nm.resolve_left h
  exact ⟨this.1, List.length_eq_zero_iff.1 (by omega)⟩
theorem lex_expr : ∀ (k : Nat) (e : GExpr), wE e < k → okGExpr e → eErr e = 0 → Lex (exL e) (exT e) true
 | 0, _, h, _, _ => absurd h (by omega)
 | k + 1, e, hk, ho, he => by
  obtain ⟨hn, ha⟩ := eErr_zero he
  have nf := nodeF hn
  obtain ⟨o1, o2, o3⟩ := ho.out
  have hargs : ∀ a ∈ e.Args, Lex (exL a) (exT a) true := fun a hm => lex_expr k a (by have := wE_arg hm; omega) (o3.1 a hm) (ha a hm)
  have hget : ∀ i, i < e.Args.length → Lex ((e.Args.map exL).getD i []) ((e.Args.map exT).getD i []) true := fun i hi => by
   rw [List.getD_eq_getElem?_getD, List.getD_eq_getElem?_getD, List.getElem?_map, List.getElem?_map, List.getElem?_eq_getElem hi]
   exact hargs _ (List.getElem_mem hi)
  have hlen := nf.len
  have wd : ∀ t ∈ [[109, 105, 110], [109, 97, 120], [105, 102], [99, 97, 115, 116]], isWd t := by
   intro t ht
   simp only [List.mem_cons, List.not_mem_nil, or_false] at ht
   rcases ht with rfl | rfl | rfl | rfl <;> exact ⟨by decide, by decide, by decide, by decide⟩
  rw [exL_eq, exT_eq]
  unfold exLB exB
  by_cases h1 : e.Op = 1
  ·rw [if_pos h1, if_pos h1]
   obtain ⟨_, v2, v3⟩ := valT_fr (VaR.of (okGExpr_iff.1 ho).2.2.1) (nf.ty (Or.inl h1)) (nf.val h1)
   rw [v3]
   exact (Lex.type (nf.ty (Or.inl h1))).app2 (Lex.fmt v2).paren ⟨40, _, rfl, by decide⟩
  rw [if_neg h1, if_neg h1]
  by_cases h2 : e.Op = 2
  ·rw [if_pos h2, if_pos h2]; exact (Lex.lin nf.lin).brack
  rw [if_neg h2, if_neg h2]
  by_cases h3 : e.Op = 3
  ·rw [if_pos h3, if_pos h3]
   exact (Lex.word (isWd_name (nf.nam h3))).app2 (Lex.join fun x hx => Lex.index (nf.ix x hx)).brack ⟨91, _, rfl, by decide⟩
  rw [if_neg h3, if_neg h3]
  by_cases h8 : e.Op = 8
  ·rw [if_pos h8, if_pos h8]
   have : e.Args.length = 1 := by rw [h8] at hlen; have : opsN 8 = 1 := rfl; omega
   exact (Lex.sign (t := [45]) (by decide) (by decide) (by decide)).app (Lex.opd 7 (hget 0 (by omega)))
  rw [if_neg h8, if_neg h8]
  by_cases h18 : e.Op = 18
  ·rw [if_pos h18, if_pos h18]
   have : e.Args.length = 1 := by rw [h18] at hlen; have : opsN 18 = 1 := rfl; omega
   exact (Lex.sign (t := [33]) (by decide) (by decide) (by decide)).app (Lex.opd 3 (hget 0 (by omega)))
  rw [if_neg h18, if_neg h18]
  by_cases h9 : e.Op = 9
  ·rw [if_pos h9, if_pos h9]
   exact (Lex.word (wd _ (by simp))).app2 (Lex.join hargs).paren ⟨40, _, rfl, by decide⟩
  rw [if_neg h9, if_neg h9]
  by_cases h10 : e.Op = 10
  ·rw [if_pos h10, if_pos h10]
   exact (Lex.word (wd _ (by simp))).app2 (Lex.join hargs).paren ⟨40, _, rfl, by decide⟩
  rw [if_neg h10, if_neg h10]
  by_cases h11 : e.Op = 11
  ·rw [if_pos h11, if_pos h11]
   exact (Lex.word (wd _ (by simp))).app2 (Lex.join hargs).paren ⟨40, _, rfl, by decide⟩
  rw [if_neg h11, if_neg h11]
  by_cases h12 : e.Op = 12
  ·rw [if_pos h12, if_pos h12]
   have hj := Lex.join (l := (tyL e.Type_, tyT e.Type_) :: e.Args.map fun a => (exL a, exT a)) (f := Prod.fst) (g := Prod.snd) (z := false) (fun x hx => by
    rcases List.mem_cons.1 hx with rfl | hx
    ·exact Lex.type (nf.ty (Or.inr h12))
    ·obtain ⟨a, hm, rfl⟩ := List.mem_map.1 hx
     exact (hargs a hm).weak2)
   rw [List.map_cons, List.map_cons, List.map_map, List.map_map] at hj
   exact (Lex.word (wd _ (by simp))).app2 hj.paren ⟨40, _, rfl, by decide⟩
  rw [if_neg h12, if_neg h12]
  have hl2 : e.Args.length = 2 := by
   unfold opsN at hlen
   rw [if_neg (by simp [h1, h2, h3]), if_neg (by simp [h8, h12, h18]), if_neg h11] at hlen; omega
  have hsy : symT e.Op ∈ signs ∧ isBr (symT e.Op) = false := by
   have e1 := nf.op1; have e2 := nf.op2
   unfold symT
   repeat' split
   all_goals first | exact ⟨by decide, by decide⟩ | (exfalso; omega)
  exact (Lex.opd _ (hget 0 (by omega))).app ((Lex.oper hsy.1 hsy.2).app (Lex.opd _ (hget 1 (by omega))))
theorem tok_bare {t : List UInt8} (h : okTok t) : t.filter (fun c => decide (c ≠ 32)) = t := by
 rw [List.filter_eq_self]
 intro c hc
 have hw : ∀ d : UInt8, (wordB d = true → decide (d ≠ 32) = true) := fun d hd => by
  rw [decide_eq_true_eq]; rintro rfl; revert hd; decide
 rcases h with ⟨_, h2, _, _⟩ | ⟨h1, _⟩ | h
 ·exact hw c (List.all_eq_true.1 h2 c hc)
 ·exact hw c (wordB_of (List.all_eq_true.1 h1 c hc))
 ·unfold signs at h
  simp only [List.mem_cons, List.not_mem_nil, or_false] at h
  rcases h with rfl | rfl | rfl | rfl | rfl | rfl | rfl | rfl | rfl | rfl | rfl | rfl | rfl | rfl | rfl | rfl | rfl <;> simp at hc <;> (first | (rcases hc with rfl | rfl <;> decide) | (subst hc; decide))
theorem bare_ok : ∀ {ls : List (List UInt8)} {n : Option UInt8}, okLx ls n → ls.flatten.filter (fun c => decide (c ≠ 32)) = (ls.filter nonB).flatten
 | [], _, _ => rfl
 | t :: ls, n, h => by
  rw [List.flatten_cons, List.filter_append, bare_ok h.2]
  rcases h.1 with rfl | ⟨h1, _⟩
  ·rw [List.filter_cons_of_neg (by simp [nonB])]; rfl
  ·have : t ≠ [32] := fun hh => by
    have := tok_bare h1; rw [hh] at this; exact absurd this (by decide)
   rw [List.filter_cons_of_pos (by simp [nonB, this]), List.flatten_cons, tok_bare h1]
theorem lex_len : ∀ {ls : List (List UInt8)} {n : Option UInt8}, okLx ls n → ls.length ≤ ls.flatten.length
 | [], _, _ => by simp
 | t :: ls, n, h => by
  have h2 := lex_len h.2
  have : 1 ≤ t.length := by
   rcases h.1 with rfl | ⟨h1, _⟩
   ·simp
   ·obtain ⟨c, q, rfl, _⟩ := okTok_head h1; simp
  rw [List.flatten_cons, List.length_append, List.length_cons]; omega
theorem exT_head {e : GExpr} (ho : okGExpr e) (he : eErr e = 0) : ∃ t r, exL e = t :: r ∧ t ≠ [32] := by
 have key : ∀ (k : Nat) (e : GExpr), wE e < k → okGExpr e → eErr e = 0 → ∃ t r, exL e = t :: r ∧ t ≠ [32] := by
  intro k
  induction k with
  | zero => intro e h; omega
  | succ k ih =>
   intro e hk ho he
   obtain ⟨hn, ha⟩ := eErr_zero he
   have nf := nodeF hn
   obtain ⟨o1, o2, o3⟩ := ho.out
   have hlen := nf.len
   rw [exL_eq]
   unfold exLB
   by_cases h1 : e.Op = 1
   ·rw [if_pos h1]
    unfold tyL
    split
    ·exact ⟨_, _, rfl, by decide⟩
    split
    ·exact ⟨_, _, rfl, by decide⟩
    ·exact ⟨_, _, rfl, by decide⟩
   rw [if_neg h1]
   by_cases h2 : e.Op = 2
   ·rw [if_pos h2]; exact ⟨_, _, rfl, by decide⟩
   rw [if_neg h2]
   by_cases h3 : e.Op = 3
   ·rw [if_pos h3]
    refine ⟨_, _, rfl, fun hh => ?_⟩
    have := (isWd_name (nf.nam h3)).1
    rw [hh] at this; revert this; decide
   rw [if_neg h3]
   by_cases h8 : e.Op = 8
   ·rw [if_pos h8]; exact ⟨_, _, rfl, by decide⟩
   rw [if_neg h8]
   by_cases h18 : e.Op = 18
   ·rw [if_pos h18]; exact ⟨_, _, rfl, by decide⟩
   rw [if_neg h18]
   by_cases h9 : e.Op = 9
   ·rw [if_pos h9]; exact ⟨_, _, rfl, by decide⟩
   rw [if_neg h9]
   by_cases h10 : e.Op = 10
   ·rw [if_pos h10]; exact ⟨_, _, rfl, by decide⟩
   rw [if_neg h10]
   by_cases h11 : e.Op = 11
   ·rw [if_pos h11]; exact ⟨_, _, rfl, by decide⟩
   rw [if_neg h11]
   by_cases h12 : e.Op = 12
   ·rw [if_pos h12]; exact ⟨_, _, rfl, by decide⟩
   rw [if_neg h12]
   have hl2 : e.Args.length = 2 := by
    unfold opsN at hlen
    rw [if_neg (by simp [h1, h2, h3]), if_neg (by simp [h8, h12, h18]), if_neg h11] at hlen; omega
   obtain ⟨a, b, hab⟩ := len2 hl2
   rw [hab]
   obtain ⟨t, r, htr, hne⟩ := ih a (by have := wE_arg (e := e) (a := a) (by rw [hab]; simp); omega) (o3.1 a (by rw [hab]; simp)) (ha a (by rw [hab]; simp))
   unfold opL
   simp only [List.map_cons, List.getD_cons_zero]
   split
   ·exact ⟨_, _, rfl, by decide⟩
   ·rw [htr]; exact ⟨_, _, rfl, hne⟩
 exact key (wE e + 1) e (by omega) ho he
theorem expr_toks {e : GExpr} (ho : okGExpr e) (he : eErr e = 0) (hl : (exT e).length ≤ 65536) : m_lexer_Tokenize (exT e) = some (tkL 0 (exL e), 0, 0) := by
 have lx := lex_expr (wE e + 1) e (by omega) ho he
 obtain ⟨t, r, htr, hne⟩ := exT_head ho he
 have hok := lx.ok none (Or.inl rfl)
 have hll := lex_len hok
 have := tok_ok hok (Or.inr ⟨t, r, htr, hne⟩) (by rw [lx.flat]; exact hl) (by rw [lx.flat] at hll; omega)
 rwa [lx.flat] at this
end Go.Proofs.YtebpdmfmknfkjaaGreatDoor
