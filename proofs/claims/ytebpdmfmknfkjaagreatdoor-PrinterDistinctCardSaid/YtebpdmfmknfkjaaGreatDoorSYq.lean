import Derived.Test.YtebpdmfmknfkjaaGreatDoorSYp
namespace Go.Proofs.YtebpdmfmknfkjaaGreatDoor
open Go Go.RowKit Go.Vc
set_option linter.unusedVariables false
set_option linter.unusedSimpArgs false
abbrev VE (e : GExpr) : Prop := okGExpr e ∧ eErr e = 0
theorem VE.node {e : GExpr} (h : VE e) : NodeF e := nodeF (eErr_zero h.2).1
theorem VE.arg {e a : GExpr} (h : VE e) (ha : a ∈ e.Args) : VE a := ⟨h.1.out.2.2.1 a ha, (eErr_zero h.2).2 a ha⟩
def opLv (t : List UInt8) : Int := if t = [124] then 1 else if t = [38] then 2 else if t = [60] ∨ t = [60, 61] ∨ t = [61, 61] then 4 else if t = [43] ∨ t = [45] then 5 else if t = [42] ∨ t = [47] then 6 else 0
def stopE (L : Int) (r : List (List UInt8)) : Prop := ∀ t s, r = t :: s → opLv t < L
theorem stopF.e {r : List (List UInt8)} (h : stopF r) : stopE 1 r := by
 obtain ⟨t, s, rfl, h⟩ := h
 intro t' s' e
 injection e with e1 e2
 subst e1
 rcases h with rfl | rfl | rfl <;> decide
theorem stopE.mono {L M : Int} {r : List (List UInt8)} (h : stopE L r) (hl : L ≤ M) : stopE M r := fun t s e => by have := h t s e; omega
def tkX (e : GExpr) (L : Int) : List (List UInt8) := tks (opL e (exL e) L)
theorem tkX_lo {e : GExpr} {L : Int} (h : lvl e.Op < L) : tkX e L = [40] :: (tks (exL e) ++ [[41]]) := by
 unfold tkX opL
 rw [if_pos h]
 show List.filter nonB _ = _
 rw [List.filter_append, List.filter_append]; rfl
theorem tkX_hi {e : GExpr} {L : Int} (h : ¬ lvl e.Op < L) : tkX e L = tks (exL e) := by unfold tkX opL; rw [if_neg h]
theorem tkX_next {e : GExpr} {L : Int} (h : lvl e.Op ≠ L) : tkX e L = tkX e (L + 1) := by
 by_cases c : lvl e.Op < L
 ·rw [tkX_lo c, tkX_lo (by omega)]
 ·rw [tkX_hi c, tkX_hi (by omega)]
theorem lvl_bd (op : Int) : 1 ≤ lvl op ∧ lvl op ≤ 8 := by
 unfold lvl
 repeat' split
 all_goals omega
theorem tkX_one (e : GExpr) : tkX e 1 = tks (exL e) := tkX_hi (by have := lvl_bd e.Op; omega)
def isBin (op : Int) : Prop := op = 4 ∨ op = 5 ∨ op = 6 ∨ op = 7 ∨ op = 13 ∨ op = 14 ∨ op = 15 ∨ op = 16 ∨ op = 17
def binE (op : Int) (a b : GExpr) : GExpr := ⟨op, [], ⟨0, 0⟩, ⟨0, 0, 0, 0, 0⟩, ⟨0, []⟩, [], [a, b]⟩
theorem ext_of {e f : GExpr} (h1 : e.Op = f.Op) (h2 : e.Name = f.Name) (h3 : e.Val = f.Val) (h4 : e.Type_ = f.Type_) (h5 : e.Lin = f.Lin) (h6 : e.Idx = f.Idx) (h7 : e.Args = f.Args) : e = f := by
 cases e; cases f
 simp only at h1 h2 h3 h4 h5 h6 h7
 rw [h1, h2, h3, h4, h5, h6, h7]
theorem bin_lv {op : Int} (h : isBin op) : opLv (symT op) = lvl op ∧ symT op ∈ signs := by
 unfold isBin at h
 rcases h with rfl | rfl | rfl | rfl | rfl | rfl | rfl | rfl | rfl <;> exact ⟨by decide, by decide⟩
theorem sym_in {a b : Int} (ha : isBin a) (hb : isBin b) (h : symT a = symT b) : a = b := by
 unfold isBin at ha hb
 rcases ha with rfl | rfl | rfl | rfl | rfl | rfl | rfl | rfl | rfl <;> rcases hb with rfl | rfl | rfl | rfl | rfl | rfl | rfl | rfl | rfl <;> first | rfl | (exfalso; revert h; decide)
theorem bin_form {e : GExpr} (h : VE e) (hb : isBin e.Op) : ∃ a b, e = binE e.Op a b ∧ a ∈ e.Args ∧ b ∈ e.Args ∧ tks (exL e) = tkX a (lvl e.Op) ++ (symT e.Op :: tkX b (lvl e.Op + 1)) := by
 have nf := h.node
 have hlen := nf.len
 unfold isBin at hb
 have hl2 : e.Args.length = 2 := by
  unfold opsN at hlen
  rw [if_neg (by omega), if_neg (by omega), if_neg (by omega)] at hlen; omega
 obtain ⟨a, b, hab⟩ := len2 hl2
 have hn := nf.nnam (by omega)
 refine ⟨a, b, ext_of rfl hn.1 (nf.nval (by omega)) (nf.nty (by omega) (by omega)) (nf.nlin (by omega)) hn.2 hab, by rw [hab]; simp, by rw [hab]; simp, ?_⟩
 rw [exL_eq]
 unfold exLB
 rw [if_neg (by omega), if_neg (by omega), if_neg (by omega), if_neg (by omega), if_neg (by omega), if_neg (by omega), if_neg (by omega), if_neg (by omega), if_neg (by omega), hab]
 simp only [List.map_cons, List.map_nil, List.getD_cons_zero, List.getD_cons_succ]
 unfold tkX
 show List.filter nonB _ = _
 rw [List.filter_append, List.filter_append, List.filter_append, List.filter_append]
 have hs := (bin_lv (op := e.Op) (by unfold isBin; exact hb)).2
 rw [show List.filter nonB [symT e.Op] = [symT e.Op] by rw [List.filter_cons_of_pos (nb_of (Or.inr (Or.inr hs)))]; rfl]
 rfl
theorem first_tok : ∀ (k : Nat) (e : GExpr), wE e < k → VE e → ∃ t s, tks (exL e) = t :: s ∧ t ≠ [41] ∧ t ≠ [93] ∧ t ≠ [44] ∧ (4 ≤ lvl e.Op → t ≠ [33]) ∧ (lvl e.Op = 8 → t ≠ [40] ∧ t ≠ [45])
 | 0, _, h, _ => absurd h (by omega)
 | k + 1, e, hk, h => by
  have nf := h.node
  have o1 := nf.op1
  have o2 := nf.op2
  by_cases hb : isBin e.Op
  ·obtain ⟨a, b, _, ha, _, ht⟩ := bin_form h hb
   obtain ⟨t, s, h1, h2, h3, h4, h5, h6⟩ := first_tok k a (by have := wE_arg ha; omega) (h.arg ha)
   rw [ht]
   have h8 : lvl e.Op ≠ 8 := by unfold isBin at hb; rcases hb with h | h | h | h | h | h | h | h | h <;> rw [h] <;> decide
   by_cases c : lvl a.Op < lvl e.Op
   ·rw [tkX_lo c]; exact ⟨_, _, rfl, by decide, by decide, by decide, fun _ => by decide, fun hh => absurd hh h8⟩
   ·rw [tkX_hi c, h1]; exact ⟨_, _, rfl, h2, h3, h4, fun hh => h5 (by omega), fun hh => absurd hh h8⟩
  unfold isBin at hb
  rw [exL_eq]
  unfold exLB
  by_cases h1 : e.Op = 1
  ·rw [if_pos h1]
   have e1 := tks_ty (nf.ty (Or.inl h1))
   show ∃ t s, List.filter nonB _ = t :: s ∧ _
   rw [List.filter_append, show List.filter nonB (tyL e.Type_) = _ from e1]
   split
   ·exact ⟨_, _, rfl, by decide, by decide, by decide, fun _ => by decide, fun _ => by decide⟩
   split
   ·exact ⟨_, _, rfl, by decide, by decide, by decide, fun _ => by decide, fun _ => by decide⟩
   ·exact ⟨_, _, rfl, by decide, by decide, by decide, fun _ => by decide, fun _ => by decide⟩
  rw [if_neg h1]
  by_cases h2 : e.Op = 2
  ·rw [if_pos h2]; exact ⟨_, _, rfl, by decide, by decide, by decide, fun _ => by decide, fun _ => by decide⟩
  rw [if_neg h2]
  by_cases h3 : e.Op = 3
  ·rw [if_pos h3]
   have hw := isWd_name (nf.nam h3)
   show ∃ t s, List.filter nonB _ = t :: s ∧ _
   rw [List.filter_append, List.filter_cons_of_pos (nb_wd hw)]
   exact ⟨_, _, rfl, wd_sign' hw (by decide), wd_sign' hw (by decide), wd_sign' hw (by decide), fun _ => wd_sign' hw (by decide), fun _ => ⟨wd_sign' hw (by decide), wd_sign' hw (by decide)⟩⟩
  rw [if_neg h3]
  by_cases h8 : e.Op = 8
  ·rw [if_pos h8]; exact ⟨_, _, rfl, by decide, by decide, by decide, fun _ => by decide, fun hh => absurd hh (by rw [h8]; decide)⟩
  rw [if_neg h8]
  by_cases h18 : e.Op = 18
  ·rw [if_pos h18]; exact ⟨_, _, rfl, by decide, by decide, by decide, fun hh => absurd hh (by rw [h18]; decide), fun hh => absurd hh (by rw [h18]; decide)⟩
  rw [if_neg h18]
  by_cases h9 : e.Op = 9
  ·rw [if_pos h9]; exact ⟨_, _, rfl, by decide, by decide, by decide, fun _ => by decide, fun _ => by decide⟩
  rw [if_neg h9]
  by_cases h10 : e.Op = 10
  ·rw [if_pos h10]; exact ⟨_, _, rfl, by decide, by decide, by decide, fun _ => by decide, fun _ => by decide⟩
  rw [if_neg h10]
  by_cases h11 : e.Op = 11
  ·rw [if_pos h11]; exact ⟨_, _, rfl, by decide, by decide, by decide, fun _ => by decide, fun _ => by decide⟩
  rw [if_neg h11]
  by_cases h12 : e.Op = 12
  ·rw [if_pos h12]; exact ⟨_, _, rfl, by decide, by decide, by decide, fun _ => by decide, fun _ => by decide⟩
  exfalso; omega
theorem first {e : GExpr} (h : VE e) : ∃ t s, tks (exL e) = t :: s ∧ t ≠ [41] ∧ t ≠ [93] ∧ t ≠ [44] ∧ (4 ≤ lvl e.Op → t ≠ [33]) ∧ (lvl e.Op = 8 → t ≠ [40] ∧ t ≠ [45]) := first_tok (wE e + 1) e (by omega) h
def rb (h : GExpr) (l : List (Int × GExpr)) : GExpr := l.foldl (fun a p => binE p.1 a p.2) h
def tailT (L : Int) (l : List (Int × GExpr)) : List (List UInt8) := (l.map fun p => symT p.1 :: tkX p.2 (L + 1)).flatten
theorem spine {L : Int} (hL : ∀ op, 1 ≤ op → op ≤ 18 → lvl op = L → isBin op) : ∀ (k : Nat) (e : GExpr), wE e < k → VE e → ∃ h l, e = rb h l ∧ VE h ∧ (∀ p ∈ l, isBin p.1 ∧ lvl p.1 = L ∧ VE p.2) ∧ tkX e L = tkX h (L + 1) ++ tailT L l
 | 0, _, h, _ => absurd h (by omega)
 | k + 1, e, hk, h => by
  by_cases c : lvl e.Op = L
  ·have hb := hL e.Op h.node.op1 h.node.op2 c
   obtain ⟨a, b, he, ha, hbm, ht⟩ := bin_form h hb
   obtain ⟨q, l, e1, e2, e3, e4⟩ := spine hL k a (by have := wE_arg ha; omega) (h.arg ha)
   refine ⟨q, l ++ [(e.Op, b)], ?_, e2, ?_, ?_⟩
   ·unfold rb
    rw [List.foldl_append]
    show e = binE e.Op (rb q l) b
    rw [← e1]; exact he
   ·intro p hp
    rcases List.mem_append.1 hp with hp | hp
    ·exact e3 p hp
    ·rw [List.mem_singleton.1 hp]; exact ⟨hb, c, h.arg hbm⟩
   ·rw [tkX_hi (by omega), ht, c, e4]
    unfold tailT
    simp
  ·exact ⟨e, [], rfl, h, by simp, by rw [tkX_next c]; simp [tailT]⟩
theorem tail_ur {L : Int} : ∀ {l l' : List (Int × GExpr)} {r r' : List (List UInt8)}, (∀ p ∈ l, isBin p.1 ∧ lvl p.1 = L) → (∀ p ∈ l', isBin p.1 ∧ lvl p.1 = L) → stopE L r → stopE L r' →
  (∀ p ∈ l, ∀ q ∈ l', ∀ s s', stopE (L + 1) s → stopE (L + 1) s' → tkX p.2 (L + 1) ++ s = tkX q.2 (L + 1) ++ s' → p.2 = q.2 ∧ s = s') → tailT L l ++ r = tailT L l' ++ r' → l = l' ∧ r = r'
 | [], [], r, r', _, _, _, _, _, e => ⟨rfl, e⟩
 | [], p :: l', r, r', _, h', hr, _, _, e => by
  exfalso
  have := hr (symT p.1) _ e
  rw [(bin_lv (h' p (by simp)).1).1, (h' p (by simp)).2] at this; omega
 | p :: l, [], r, r', h, _, _, hr', _, e => by
  exfalso
  have := hr' (symT p.1) _ e.symm
  rw [(bin_lv (h p (by simp)).1).1, (h p (by simp)).2] at this; omega
 | p :: l, q :: l', r, r', h, h', hr, hr', hu, e => by
  have e' : symT p.1 :: (tkX p.2 (L + 1) ++ (tailT L l ++ r)) = symT q.1 :: (tkX q.2 (L + 1) ++ (tailT L l' ++ r')) := by
   have : ∀ (x : Int × GExpr) (m : List (Int × GExpr)) z, tailT L (x :: m) ++ z = symT x.1 :: (tkX x.2 (L + 1) ++ (tailT L m ++ z)) := fun x m z => by unfold tailT; simp
   rw [← this, ← this]; exact e
  have hst : ∀ {m : List (Int × GExpr)} {z : List (List UInt8)}, (∀ p ∈ m, isBin p.1 ∧ lvl p.1 = L) → stopE L z → stopE (L + 1) (tailT L m ++ z) := by
   intro m z hm hz t s ee
   cases m with
   | nil => have := hz t s ee; omega
   | cons x m =>
    have : t = symT x.1 := (List.cons.inj ee).1.symm
    rw [this, (bin_lv (hm x (by simp)).1).1, (hm x (by simp)).2]; omega
  have hm := fun x hx => h x (List.mem_cons_of_mem p hx)
  have hm' := fun x hx => h' x (List.mem_cons_of_mem q hx)
  obtain ⟨e1, e2⟩ := List.cons.inj e'
  obtain ⟨e3, e4⟩ := hu p (by simp) q (by simp) _ _ (hst hm hr) (hst hm' hr') e2
  obtain ⟨e5, e6⟩ := tail_ur hm hm' hr hr' (fun a ha b hb => hu a (List.mem_cons_of_mem p ha) b (List.mem_cons_of_mem q hb)) e4
  refine ⟨?_, e6⟩
  rw [e5]
  congr 1
  exact Prod.ext (sym_in (h p (by simp)).1 (h' q (by simp)).1 e1) e3
def URat (m : Nat) (L : Int) : Prop := ∀ e e' r r', (tkX e L).length ≤ m → VE e → VE e' → stopE L r → stopE L r' → tkX e L ++ r = tkX e' L ++ r' → e = e' ∧ r = r'
theorem ur_bin {m : Nat} {L : Int} (hL : ∀ op, 1 ≤ op → op ≤ 18 → lvl op = L → isBin op) (h : URat m (L + 1)) : URat m L := fun e e' r r' hm hv hv' hr hr' ee => by
 obtain ⟨a, l, e1, e2, e3, e4⟩ := spine hL (wE e + 1) e (by omega) hv
 obtain ⟨a', l', e1', e2', e3', e4'⟩ := spine hL (wE e' + 1) e' (by omega) hv'
 have hst : ∀ {q : List (Int × GExpr)} {z : List (List UInt8)}, (∀ p ∈ q, isBin p.1 ∧ lvl p.1 = L ∧ VE p.2) → stopE L z → stopE (L + 1) (tailT L q ++ z) := by
  intro q z hq hz t s ee
  cases q with
  | nil => have := hz t s ee; omega
  | cons x q =>
   have : t = symT x.1 := (List.cons.inj ee).1.symm
   rw [this, (bin_lv (hq x (by simp)).1).1, (hq x (by simp)).2.1]; omega
 rw [e4, e4', List.append_assoc, List.append_assoc] at ee
 have hlen : (tkX a (L + 1)).length + (tailT L l).length ≤ m := by rw [e4, List.length_append] at hm; exact hm
 obtain ⟨h1, h2⟩ := h a a' _ _ (by omega) e2 e2' (hst e3 hr) (hst e3' hr') ee
 have hin : ∀ {q : List (Int × GExpr)} {p : Int × GExpr}, p ∈ q → (tkX p.2 (L + 1)).length ≤ (tailT L q).length := by
  intro q p hp
  induction q with
  | nil => simp at hp
  | cons x q ih =>
   have e0 : (tailT L (x :: q)).length = 1 + (tkX x.2 (L + 1)).length + (tailT L q).length := by unfold tailT; simp; omega
   rcases List.mem_cons.1 hp with rfl | hp
   ·omega
   ·have := ih hp; omega
 obtain ⟨h3, h4⟩ := tail_ur (fun p hp => ⟨(e3 p hp).1, (e3 p hp).2.1⟩) (fun p hp => ⟨(e3' p hp).1, (e3' p hp).2.1⟩) hr hr' (fun p hp q hq s s' hs hs' e5 => h p.2 q.2 s s' (by have := hin hp; omega) (e3 p hp).2.2 (e3' q hq).2.2 hs hs' e5) h2
 exact ⟨by rw [e1, e1', h1, h3], h4⟩
def unE (op : Int) (a : GExpr) : GExpr := ⟨op, [], ⟨0, 0⟩, ⟨0, 0, 0, 0, 0⟩, ⟨0, []⟩, [], [a]⟩
theorem un_form {e : GExpr} {s : List UInt8} {L : Int} (h : VE e) (hc : (e.Op = 8 ∧ s = [45] ∧ L = 7) ∨ (e.Op = 18 ∧ s = [33] ∧ L = 3)) : ∃ a, e = unE e.Op a ∧ a ∈ e.Args ∧ tks (exL e) = s :: tkX a L := by
 have nf := h.node
 have hlen := nf.len
 have hl1 : e.Args.length = 1 := by
  rcases hc with ⟨h, _⟩ | ⟨h, _⟩ <;> rw [h] at hlen
  ·have : opsN 8 = 1 := rfl; omega
  ·have : opsN 18 = 1 := rfl; omega
 obtain ⟨a, ha⟩ := List.length_eq_one_iff.1 hl1
 have hn := nf.nnam (by omega)
 refine ⟨a, ext_of rfl hn.1 (nf.nval (by omega)) (nf.nty (by omega) (by omega)) (nf.nlin (by omega)) hn.2 ha, by rw [ha]; simp, ?_⟩
 rw [exL_eq]
 unfold exLB
 rcases hc with ⟨h, rfl, rfl⟩ | ⟨h, rfl, rfl⟩
 ·rw [if_neg (by omega), if_neg (by omega), if_neg (by omega), if_pos h, ha]; rfl
 ·rw [if_neg (by omega), if_neg (by omega), if_neg (by omega), if_neg (by omega), if_pos h, ha]; rfl
theorem ur_un {m : Nat} {L op : Int} {s : List UInt8} (hc : (op = 8 ∧ s = [45] ∧ L = 7) ∨ (op = 18 ∧ s = [33] ∧ L = 3)) (hL : ∀ o, 1 ≤ o → o ≤ 18 → lvl o = L → o = op)
  (hf : ∀ e, VE e → lvl e.Op ≠ L → ∀ r t z, tkX e (L + 1) ++ r = t :: z → t ≠ s) (h : URat m (L + 1)) (ih : ∀ m' < m, URat m' L) : URat m L := fun e e' r r' hm hv hv' hr hr' ee => by
 have hop : lvl op = L := by rcases hc with ⟨rfl, _, rfl⟩ | ⟨rfl, _, rfl⟩ <;> decide
 have form : ∀ {x : GExpr}, VE x → lvl x.Op = L → x.Op = op ∧ ∃ a, x = unE op a ∧ a ∈ x.Args ∧ tkX x L = s :: tkX a L := fun {x} hx hl => by
  have ho := hL x.Op hx.node.op1 hx.node.op2 hl
  obtain ⟨a, h1, h2, h3⟩ := un_form (e := x) (s := s) (L := L) hx (by rw [ho]; exact hc)
  exact ⟨ho, a, by rw [← ho]; exact h1, h2, by rw [tkX_hi (by omega)]; exact h3⟩
 by_cases c : lvl e.Op = L <;> by_cases c' : lvl e'.Op = L
 ·obtain ⟨_, a, h1, h2, h3⟩ := form hv c
  obtain ⟨_, a', h1', h2', h3'⟩ := form hv' c'
  rw [h3] at hm
  rw [h3, h3'] at ee
  obtain ⟨e1, e2⟩ := ih (m - 1) (by simp at hm; omega) a a' r r' (by simp at hm; omega) (hv.arg h2) (hv'.arg h2') hr hr' (List.cons.inj ee).2
  exact ⟨by rw [h1, h1', e1], e2⟩
 ·exfalso
  obtain ⟨_, a, h1, h2, h3⟩ := form hv c
  rw [h3, tkX_next c'] at ee
  exact hf e' hv' c' r' s _ ee.symm rfl
 ·exfalso
  obtain ⟨_, a, h1, h2, h3⟩ := form hv' c'
  rw [h3, tkX_next c] at ee
  exact hf e hv c r s _ ee rfl
 ·rw [tkX_next c] at ee hm
  rw [tkX_next c'] at ee
  exact h e e' r r' hm hv hv' (hr.mono (by omega)) (hr'.mono (by omega)) ee
end Go.Proofs.YtebpdmfmknfkjaaGreatDoor
