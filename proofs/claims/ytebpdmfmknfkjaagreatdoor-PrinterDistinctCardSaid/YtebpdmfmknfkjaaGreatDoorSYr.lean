import Derived.Test.YtebpdmfmknfkjaaGreatDoorSYq
namespace Go.Proofs.YtebpdmfmknfkjaaGreatDoor
open Go Go.RowKit Go.Vc
set_option linter.unusedVariables false
set_option linter.unusedSimpArgs false
def tokOp (t : List UInt8) : Int :=
 if t = [102, 114, 97, 99] ∨ t = [105, 110, 116] ∨ t = [102, 105, 120] then 1 else if t = [91] then 2 else if t = [109, 105, 110] then 9 else if t = [109, 97, 120] then 10
 else if t = [105, 102] then 11 else if t = [99, 97, 115, 116] then 12 else 3
theorem tokOp_name {t : List UInt8} (h : nameB t = true) : tokOp t = 3 := by
 unfold tokOp
 rw [if_neg, if_neg, if_neg, if_neg, if_neg, if_neg]
 all_goals first
  | (intro hh; subst hh; revert h; decide)
  | (rintro (hh | hh | hh) <;> subst hh <;> revert h <;> decide)
def primK (e : GExpr) : List (List UInt8) :=
 if e.Op = 1 then tks (tyL e.Type_) ++ ([40] :: (tks (fmtL (frX e.Type_ e.Val)) ++ [[41]]))
 else if e.Op = 2 then [91] :: (tks (linL e.Lin) ++ [[93]])
 else if e.Op = 3 then e.Name :: [91] :: (tks (joinL (e.Idx.map ixL)) ++ [[93]])
 else if e.Op = 9 then [109, 105, 110] :: [40] :: (tks (joinL (e.Args.map exL)) ++ [[41]])
 else if e.Op = 10 then [109, 97, 120] :: [40] :: (tks (joinL (e.Args.map exL)) ++ [[41]])
 else if e.Op = 11 then [105, 102] :: [40] :: (tks (joinL (e.Args.map exL)) ++ [[41]])
 else [99, 97, 115, 116] :: [40] :: (tks (tyL e.Type_) ++ ([44] :: (tks (joinL (e.Args.map exL)) ++ [[41]])))
theorem fl3 (a b c : List (List UInt8)) : List.filter nonB (a ++ (b ++ c)) = tks a ++ (tks b ++ tks c) := by rw [List.filter_append, List.filter_append]
theorem prim_ops {e : GExpr} (h : VE e) (h8 : lvl e.Op = 8) : e.Op = 1 ∨ e.Op = 2 ∨ e.Op = 3 ∨ e.Op = 9 ∨ e.Op = 10 ∨ e.Op = 11 ∨ e.Op = 12 := by
 have o1 := h.node.op1
 have o2 := h.node.op2
 unfold lvl at h8
 repeat' split at h8
 all_goals first | omega | (exfalso; omega)
theorem prim_ok {e : GExpr} (h : VE e) (h8 : lvl e.Op = 8) : tks (exL e) = primK e := by
 have nf := h.node
 have ho := prim_ops h h8
 rw [exL_eq]
 unfold exLB primK
 by_cases h1 : e.Op = 1
 ·rw [if_pos h1, if_pos h1]
  show List.filter nonB _ = _
  rw [List.filter_append, fl3]; rfl
 rw [if_neg h1, if_neg h1]
 by_cases h2 : e.Op = 2
 ·rw [if_pos h2, if_pos h2]
  show List.filter nonB _ = _
  rw [fl3]; rfl
 rw [if_neg h2, if_neg h2]
 by_cases h3 : e.Op = 3
 ·rw [if_pos h3, if_pos h3]
  show List.filter nonB _ = _
  rw [List.filter_append, fl3, List.filter_cons_of_pos (nb_wd (isWd_name (nf.nam h3)))]; rfl
 rw [if_neg h3, if_neg h3, if_neg (by omega), if_neg (by omega)]
 by_cases h9 : e.Op = 9
 ·rw [if_pos h9, if_pos h9]
  show List.filter nonB _ = _
  rw [List.filter_append, fl3]; rfl
 rw [if_neg h9, if_neg h9]
 by_cases h10 : e.Op = 10
 ·rw [if_pos h10, if_pos h10]
  show List.filter nonB _ = _
  rw [List.filter_append, fl3]; rfl
 rw [if_neg h10, if_neg h10]
 by_cases h11 : e.Op = 11
 ·rw [if_pos h11, if_pos h11]
  show List.filter nonB _ = _
  rw [List.filter_append, fl3]; rfl
 rw [if_neg h11, if_neg h11, if_pos (by omega)]
 have h12 : e.Op = 12 := by omega
 have hl1 : e.Args.length = 1 := by have hlen := nf.len; rw [h12] at hlen; have : opsN 12 = 1 := rfl; omega
 obtain ⟨a, ha⟩ := List.length_eq_one_iff.1 hl1
 rw [ha]
 show List.filter nonB _ = _
 rw [List.filter_append, fl3]
 simp only [List.map_cons, List.map_nil, joinL]
 rw [show tks (tyL e.Type_ ++ ([[44], [32]] ++ exL a)) = tks (tyL e.Type_) ++ ([44] :: tks (exL a)) by
  show List.filter nonB _ = _
  rw [fl3]; rfl]
 simp only [List.append_assoc]
 rfl
theorem prim_first {e : GExpr} (h : VE e) (h8 : lvl e.Op = 8) : ∃ t s, primK e = t :: s ∧ tokOp t = e.Op := by
 have nf := h.node
 have ho := prim_ops h h8
 unfold primK
 by_cases h1 : e.Op = 1
 ·rw [if_pos h1, tks_ty (nf.ty (Or.inl h1)), h1]
  split
  ·exact ⟨_, _, rfl, by decide⟩
  split
  ·exact ⟨_, _, rfl, by decide⟩
  ·exact ⟨_, _, rfl, by decide⟩
 rw [if_neg h1]
 by_cases h2 : e.Op = 2
 ·rw [if_pos h2, h2]; exact ⟨_, _, rfl, by decide⟩
 rw [if_neg h2]
 by_cases h3 : e.Op = 3
 ·rw [if_pos h3]; exact ⟨_, _, rfl, by rw [h3]; exact tokOp_name (nf.nam h3)⟩
 rw [if_neg h3]
 by_cases h9 : e.Op = 9
 ·rw [if_pos h9, h9]; exact ⟨_, _, rfl, by decide⟩
 rw [if_neg h9]
 by_cases h10 : e.Op = 10
 ·rw [if_pos h10, h10]; exact ⟨_, _, rfl, by decide⟩
 rw [if_neg h10]
 by_cases h11 : e.Op = 11
 ·rw [if_pos h11, h11]; exact ⟨_, _, rfl, by decide⟩
 rw [if_neg h11]
 exact ⟨_, _, rfl, by rw [show e.Op = 12 by omega]; decide⟩
theorem join_len : ∀ {l : List GExpr} {a : GExpr}, a ∈ l → (tks (exL a)).length ≤ (tks (joinL (l.map exL))).length
 | [x], a, h => by rw [List.mem_singleton.1 h]; exact Nat.le_refl _
 | x :: y :: l, a, h => by
  rw [tks_join, List.length_append, List.length_cons]
  rcases List.mem_cons.1 h with rfl | h
  ·omega
  ·have := join_len h; omega
theorem args_ur {m : Nat} {l l' : List GExpr} {r r' : List (List UInt8)} (hu : URat m 1) (hm : (tks (joinL (l.map exL))).length ≤ m) (h : ∀ a ∈ l, VE a) (h' : ∀ a ∈ l', VE a) (hr : closeR r) (hr' : closeR r')
  (e : tks (joinL (l.map exL)) ++ r = tks (joinL (l'.map exL)) ++ r') : l = l' ∧ r = r' :=
 join_ur (fun x hx y hy s s' hs hs' ee => hu x y s s' (by rw [tkX_one]; have := join_len hx; omega) (h x hx) (h' y hy) hs.e hs'.e (by rw [tkX_one, tkX_one]; exact ee))
  (fun x hx r => by
   obtain ⟨t, s, h1, h2, h3, _⟩ := first (hx.elim (h x) (h' x))
   exact ⟨t, s ++ r, by rw [h1]; rfl, h3, h2⟩) hr hr' e
theorem ur_8 {m : Nat} (ih : ∀ m' < m, URat m' 1) : URat m 8 := fun e e' r r' hm hv hv' hr hr' ee => by
 have prim8 : ∀ {x : GExpr}, ¬ lvl x.Op < 8 → lvl x.Op = 8 := fun {x} h => by have := lvl_bd x.Op; omega
 by_cases c : lvl e.Op < 8 <;> by_cases c' : lvl e'.Op < 8
 ·rw [tkX_lo c] at ee hm
  rw [tkX_lo c'] at ee
  simp only [List.cons_append, List.cons.injEq, true_and, List.append_assoc, List.nil_append] at ee
  simp only [List.length_cons, List.length_append, List.length_nil] at hm
  have hs : ∀ z : List (List UInt8), stopE 1 ([41] :: z) := fun z t s e0 => by rw [← (List.cons.inj e0).1]; decide
  obtain ⟨e1, e2⟩ := ih (m - 2) (by omega) e e' _ _ (by rw [tkX_one]; omega) hv hv' (hs r) (hs r') (by rw [tkX_one, tkX_one]; exact ee)
  exact ⟨e1, (List.cons.inj e2).2⟩
 ·exfalso
  rw [tkX_lo c, tkX_hi c'] at ee
  obtain ⟨t, s, h1, _, _, _, _, h2⟩ := first hv'
  rw [h1] at ee
  exact (h2 (prim8 c')).1 (List.cons.inj ee).1.symm
 ·exfalso
  rw [tkX_hi c, tkX_lo c'] at ee
  obtain ⟨t, s, h1, _, _, _, _, h2⟩ := first hv
  rw [h1] at ee
  exact (h2 (prim8 c)).1 (List.cons.inj ee).1
 rw [tkX_hi c, prim_ok hv (prim8 c)] at ee hm
 rw [tkX_hi c', prim_ok hv' (prim8 c')] at ee
 have nf := hv.node
 have nf' := hv'.node
 have ho := prim_ops hv (prim8 c)
 obtain ⟨t, s, h1, h2⟩ := prim_first hv (prim8 c)
 obtain ⟨t', s', h1', h2'⟩ := prim_first hv' (prim8 c')
 have hop : e.Op = e'.Op := by
  rw [h1, h1'] at ee
  rw [← h2, ← h2', (List.cons.inj ee).1]
 have cl : ∀ z : List (List UInt8), closeR ([41] :: z) := fun z => ⟨_, _, rfl, Or.inr rfl⟩
 have cb : ∀ z : List (List UInt8), closeR ([93] :: z) := fun z => ⟨_, _, rfl, Or.inl rfl⟩
 clear h1 h1' h2 h2'
 unfold primK at ee hm
 have noargs : e.Op = 1 ∨ e.Op = 2 ∨ e.Op = 3 → e.Args = e'.Args := fun h => by
  have hn : ∀ {x : GExpr}, NodeF x → x.Op = 1 ∨ x.Op = 2 ∨ x.Op = 3 → x.Args = [] := fun {x} hx hc => by
   have := hx.len
   unfold opsN at this
   rw [if_pos hc] at this
   exact List.length_eq_zero_iff.1 (by omega)
  rw [hn nf h, hn nf' (by rw [← hop]; exact h)]
 have fields : ∀ (hn3 : e.Op ≠ 3), e.Name = e'.Name ∧ e.Idx = e'.Idx := fun hn3 => by
  obtain ⟨a1, a2⟩ := nf.nnam hn3
  obtain ⟨b1, b2⟩ := nf'.nnam (by rw [← hop]; exact hn3)
  exact ⟨by rw [a1, b1], by rw [a2, b2]⟩
 have fval : e.Op ≠ 1 → e.Val = e'.Val := fun h => by rw [nf.nval h, nf'.nval (by rw [← hop]; exact h)]
 have fty : e.Op ≠ 1 → e.Op ≠ 12 → e.Type_ = e'.Type_ := fun h h' => by rw [nf.nty h h', nf'.nty (by rw [← hop]; exact h) (by rw [← hop]; exact h')]
 have flin : e.Op ≠ 2 → e.Lin = e'.Lin := fun h => by rw [nf.nlin h, nf'.nlin (by rw [← hop]; exact h)]
 by_cases k1 : e.Op = 1
 ·rw [if_pos k1, if_pos (by rw [← hop]; exact k1), List.append_assoc, List.append_assoc] at ee
  obtain ⟨e1, e2⟩ := type_ur (nf.ty (Or.inl k1)) (nf'.ty (Or.inl (by rw [← hop]; exact k1))) ee
  simp only [List.cons_append, List.cons.injEq, true_and, List.append_assoc, List.nil_append] at e2
  obtain ⟨e3, e4⟩ := fmt_ur ⟨_, rfl⟩ ⟨_, rfl⟩ e2
  refine ⟨ext_of hop (fields (by omega)).1 ?_ e1 (flin (by omega)) (fields (by omega)).2 (noargs (Or.inl k1)), (List.cons.inj e4).2⟩
  exact frX_in (nf.ty (Or.inl k1)) (VaR.of (okGExpr_iff.1 hv.1).2.2.1) (VaR.of (okGExpr_iff.1 hv'.1).2.2.1) (nf.val k1) (by rw [e1]; exact nf'.val (by rw [← hop]; exact k1)) (by rw [e3, e1])
 rw [if_neg k1] at ee hm
 rw [if_neg (c := e'.Op = 1) (by rw [← hop]; exact k1)] at ee
 by_cases k2 : e.Op = 2
 ·rw [if_pos k2, if_pos (by rw [← hop]; exact k2)] at ee
  simp only [List.cons_append, List.cons.injEq, true_and, List.append_assoc, List.nil_append] at ee
  obtain ⟨e1, e2⟩ := lin_ur nf.lin nf'.lin (cb r).stop (cb r').stop ee
  exact ⟨ext_of hop (fields (by omega)).1 (fval k1) (fty k1 (by omega)) e1 (fields (by omega)).2 (noargs (Or.inr (Or.inl k2))), (List.cons.inj e2).2⟩
 rw [if_neg k2] at ee hm
 rw [if_neg (c := e'.Op = 2) (by rw [← hop]; exact k2)] at ee
 by_cases k3 : e.Op = 3
 ·rw [if_pos k3, if_pos (by rw [← hop]; exact k3)] at ee
  simp only [List.cons_append, List.cons.injEq, true_and, List.append_assoc, List.nil_append] at ee
  obtain ⟨e0, e1⟩ := ee
  obtain ⟨e2, e3⟩ := join_ur (fun a ha b hb s s' hs hs' e5 => index_ur (nf.ix a ha) (nf'.ix b hb) hs hs' e5) (fun a ha r => ix_hd (ha.elim (nf.ix a) (nf'.ix a)) r) (cb r) (cb r') e1
  exact ⟨ext_of hop e0 (fval k1) (fty k1 (by omega)) (flin k2) e2 (noargs (Or.inr (Or.inr k3))), (List.cons.inj e3).2⟩
 rw [if_neg k3] at ee hm
 rw [if_neg (c := e'.Op = 3) (by rw [← hop]; exact k3)] at ee
 have fin : ∀ {l l' : List (List UInt8)}, (tks (joinL (e.Args.map exL))).length + 1 ≤ m → tks (joinL (e.Args.map exL)) ++ ([41] :: r) = tks (joinL (e'.Args.map exL)) ++ ([41] :: r') → e.Args = e'.Args ∧ r = r' := fun {_ _} hl e5 => by
  obtain ⟨e1, e2⟩ := args_ur (ih (m - 1) (by omega)) (by omega) (fun a ha => hv.arg ha) (fun a ha => hv'.arg ha) (cl r) (cl r') e5
  exact ⟨e1, (List.cons.inj e2).2⟩
 by_cases k9 : e.Op = 9
 ·rw [if_pos k9] at ee hm
  rw [if_pos (c := e'.Op = 9) (by rw [← hop]; exact k9)] at ee
  simp only [List.cons_append, List.cons.injEq, true_and, List.append_assoc, List.nil_append] at ee
  obtain ⟨e1, e2⟩ := fin (l := []) (l' := []) (by simp at hm; omega) ee
  exact ⟨ext_of hop (fields k3).1 (fval k1) (fty k1 (by omega)) (flin k2) (fields k3).2 e1, e2⟩
 rw [if_neg k9] at ee hm
 rw [if_neg (c := e'.Op = 9) (by rw [← hop]; exact k9)] at ee
 by_cases k10 : e.Op = 10
 ·rw [if_pos k10] at ee hm
  rw [if_pos (c := e'.Op = 10) (by rw [← hop]; exact k10)] at ee
  simp only [List.cons_append, List.cons.injEq, true_and, List.append_assoc, List.nil_append] at ee
  obtain ⟨e1, e2⟩ := fin (l := []) (l' := []) (by simp at hm; omega) ee
  exact ⟨ext_of hop (fields k3).1 (fval k1) (fty k1 (by omega)) (flin k2) (fields k3).2 e1, e2⟩
 rw [if_neg k10] at ee hm
 rw [if_neg (c := e'.Op = 10) (by rw [← hop]; exact k10)] at ee
 by_cases k11 : e.Op = 11
 ·rw [if_pos k11] at ee hm
  rw [if_pos (c := e'.Op = 11) (by rw [← hop]; exact k11)] at ee
  simp only [List.cons_append, List.cons.injEq, true_and, List.append_assoc, List.nil_append] at ee
  obtain ⟨e1, e2⟩ := fin (l := []) (l' := []) (by simp at hm; omega) ee
  exact ⟨ext_of hop (fields k3).1 (fval k1) (fty k1 (by omega)) (flin k2) (fields k3).2 e1, e2⟩
 rw [if_neg k11] at ee hm
 rw [if_neg (c := e'.Op = 11) (by rw [← hop]; exact k11)] at ee
 have k12 : e.Op = 12 := by omega
 simp only [List.cons_append, List.cons.injEq, true_and, List.append_assoc, List.nil_append] at ee
 obtain ⟨e1, e2⟩ := type_ur (nf.ty (Or.inr k12)) (nf'.ty (Or.inr (by rw [← hop]; exact k12))) ee
 simp only [List.cons_append, List.cons.injEq, true_and, List.append_assoc, List.nil_append] at e2
 obtain ⟨e3, e4⟩ := fin (l := []) (l' := []) (by simp at hm; omega) e2
 exact ⟨ext_of hop (fields k3).1 (fval k1) e1 (flin k2) (fields k3).2 e3, e4⟩
theorem ur_all : ∀ (m : Nat) (L : Int), 1 ≤ L → L ≤ 8 → URat m L := by
 intro m
 induction m using Nat.strongRecOn with
 | _ m ih =>
  have op_cases : ∀ {o : Int}, 1 ≤ o → o ≤ 18 → o = 1 ∨ o = 2 ∨ o = 3 ∨ o = 4 ∨ o = 5 ∨ o = 6 ∨ o = 7 ∨ o = 8 ∨ o = 9 ∨ o = 10 ∨ o = 11 ∨ o = 12 ∨ o = 13 ∨ o = 14 ∨ o = 15 ∨ o = 16 ∨ o = 17 ∨ o = 18 := by intro o h1 h2; omega
  have hbin : ∀ L : Int, (L = 1 ∨ L = 2 ∨ L = 4 ∨ L = 5 ∨ L = 6) → ∀ o, 1 ≤ o → o ≤ 18 → lvl o = L → isBin o := by
   intro L hL o h1 h2 hl
   unfold isBin
   rcases op_cases h1 h2 with rfl | rfl | rfl | rfl | rfl | rfl | rfl | rfl | rfl | rfl | rfl | rfl | rfl | rfl | rfl | rfl | rfl | rfl
   all_goals first | omega | (exfalso; have e : lvl _ = L := hl; revert hl; unfold lvl; simp; omega)
  have u8 : URat m 8 := ur_8 fun m' hm => ih m' hm 1 (by omega) (by omega)
  have u7 : URat m 7 := ur_un (op := 8) (s := [45]) (Or.inl ⟨rfl, rfl, rfl⟩) (fun o h1 h2 hl => by
   rcases op_cases h1 h2 with rfl | rfl | rfl | rfl | rfl | rfl | rfl | rfl | rfl | rfl | rfl | rfl | rfl | rfl | rfl | rfl | rfl | rfl
   all_goals first | rfl | (exfalso; revert hl; decide)) (fun e he hne r t z ee => by
   rw [show (7 : Int) + 1 = 8 by omega] at ee
   by_cases c : lvl e.Op < 8
   ·rw [tkX_lo c] at ee
    rw [← (List.cons.inj ee).1]; decide
   ·rw [tkX_hi c] at ee
    obtain ⟨t', s', h1, _, _, _, _, h2⟩ := first he
    rw [h1] at ee
    rw [← (List.cons.inj ee).1]
    exact (h2 (by have := lvl_bd e.Op; omega)).2) u8 fun m' hm => ih m' hm 7 (by omega) (by omega)
  have u6 : URat m 6 := ur_bin (hbin 6 (by simp)) u7
  have u5 : URat m 5 := ur_bin (hbin 5 (by simp)) u6
  have u4 : URat m 4 := ur_bin (hbin 4 (by simp)) u5
  have u3 : URat m 3 := ur_un (op := 18) (s := [33]) (Or.inr ⟨rfl, rfl, rfl⟩) (fun o h1 h2 hl => by
   rcases op_cases h1 h2 with rfl | rfl | rfl | rfl | rfl | rfl | rfl | rfl | rfl | rfl | rfl | rfl | rfl | rfl | rfl | rfl | rfl | rfl
   all_goals first | rfl | (exfalso; revert hl; decide)) (fun e he hne r t z ee => by
   rw [show (3 : Int) + 1 = 4 by omega] at ee
   by_cases c : lvl e.Op < 4
   ·rw [tkX_lo c] at ee
    rw [← (List.cons.inj ee).1]; decide
   ·rw [tkX_hi c] at ee
    obtain ⟨t', s', h1, _, _, _, h2, _⟩ := first he
    rw [h1] at ee
    rw [← (List.cons.inj ee).1]
    exact h2 (by omega)) u4 fun m' hm => ih m' hm 3 (by omega) (by omega)
  have u2 : URat m 2 := ur_bin (hbin 2 (by simp)) u3
  have u1 : URat m 1 := ur_bin (hbin 1 (by simp)) u2
  intro L h1 h2
  have hc : L = 1 ∨ L = 2 ∨ L = 3 ∨ L = 4 ∨ L = 5 ∨ L = 6 ∨ L = 7 ∨ L = 8 := by omega
  rcases hc with rfl | rfl | rfl | rfl | rfl | rfl | rfl | rfl
  ·exact u1
  ·exact u2
  ·exact u3
  ·exact u4
  ·exact u5
  ·exact u6
  ·exact u7
  ·exact u8
theorem exT_in {a b : GExpr} (ha : VE a) (hb : VE b) (la : (exT a).length ≤ 65536) (h : exT a = exT b) : a = b := by
 have e1 := expr_toks ha.1 ha.2 la
 have e2 := expr_toks hb.1 hb.2 (by rw [← h]; exact la)
 rw [h, e2] at e1
 have e3 : tkL 0 (exL b) = tkL 0 (exL a) := by injection e1 with e1; exact (Prod.mk.inj e1).1
 have e4 : tks (exL a) = tks (exL b) := by
  have := congrArg (fun z => z.map (·.Text)) e3
  simp only [tkL_text] at this
  exact this.symm
 have hs : stopE 1 [] := fun t s e => by cases e
 exact (ur_all _ 1 (by omega) (by omega) a b [] [] (Nat.le_refl _) ha hb hs hs (by rw [tkX_one, tkX_one, List.append_nil, List.append_nil]; exact e4)).1
theorem eqs_loop {α : Type} {L : Nat → Int → Option Bool} {a b : List α} (hn : a.length < 4611686018427387904) (hl : a.length = b.length)
  (rd : ∀ f (i : Nat) x y, a[i]? = some x → b[i]? = some y → ∃ r : Bool, (r = true ↔ x = y) ∧ L (f + 1) (i : Int) = if r = true then L f ((i + 1 : Nat) : Int) else some false)
  (fin : ∀ f, L (f + 1) (a.length : Int) = some true) : ∃ r, L fu 0 = some r ∧ (r = true ↔ a = b) := by
 refine loop_fu (L := fun f (_ : Unit) i => L f i) (n := a.length) hn (fun i _ => a.take i = b.take i) (fun r => r = true ↔ a = b) ?_ ?_ () (by simp)
 ·intro f i _ hi hI
  obtain ⟨x, hx⟩ := at_some hi
  obtain ⟨y, hy⟩ := at_some (l := b) (i := i) (by omega)
  obtain ⟨r, h1, h2⟩ := rd f i x y hx hy
  rw [h2]
  by_cases hr : r = true
  ·left
   refine ⟨(), ?_, by rw [if_pos hr]⟩
   rw [take_succ' hx, take_succ' hy, hI, h1.1 hr]
  ·right
   refine ⟨false, by rw [if_neg hr], ⟨fun h => (by cases h), fun h => ?_⟩⟩
   subst h
   rw [hx] at hy
   injection hy with hy
   exact absurd (h1.2 hy) hr
 ·intro f _ hI
  refine ⟨true, fin f, ⟨fun _ => ?_, fun _ => rfl⟩⟩
  rw [List.take_length, hl, List.take_length] at hI
  exact hI
theorem base_Lin_eq {a b : GLin} (h : a.L.length < 4611686018427387904) : ∃ r, m_base_Lin a b = some r ∧ (r = true ↔ a = b) := by
 unfold m_base_Lin
 by_cases hk : a.K = b.K
 ·by_cases hl : a.L.length = b.L.length
  ·rw [if_neg (by simp [hk, hl])]
   obtain ⟨r, h1, h2⟩ := eqs_loop (L := fun f i => m_base_Lin_l1 a b f i) h hl (fun f i x y hx hy => by
    have hi := lt_of_at hx
    refine ⟨decide (x.Name = y.Name) && decide (x.By = y.By), ?_, ?_⟩
    ·simp only [Bool.and_eq_true, decide_eq_true_eq]
     constructor
     ·rintro ⟨q1, q2⟩; cases x; cases y; simp only at q1 q2; rw [q1, q2]
     ·rintro rfl; exact ⟨rfl, rfl⟩
    ·simp only [m_base_Lin_l1]
     rw [if_pos (lt_dec hi), lat_at hx, Option.bind_some, lat_at hy, Option.bind_some, wis (by omega)]
     cases (decide (x.Name = y.Name) && decide (x.By = y.By)) <;> rfl) (fun f => by
    simp only [m_base_Lin_l1]
    rw [if_neg (by simp)])
   refine ⟨r, h1, h2.trans ?_⟩
   cases a; cases b
   simp only at hk
   simp [hk]
  ·rw [if_pos (by simp; omega)]
   exact ⟨false, rfl, ⟨fun h => (by cases h), fun h => absurd (by rw [h]) hl⟩⟩
 ·rw [if_pos (by simp [hk])]
  exact ⟨false, rfl, ⟨fun h => (by cases h), fun h => absurd (by rw [h]) hk⟩⟩
theorem base_Lins_eq {a b : List GLin} (h : a.length < 4611686018427387904) (hh : ∀ f ∈ a, f.L.length < 4611686018427387904) : ∃ r, m_base_Lins a b = some r ∧ (r = true ↔ a = b) := by
 unfold m_base_Lins
 by_cases hl : a.length = b.length
 ·rw [if_neg (by simp [hl])]
  exact eqs_loop (L := fun f i => m_base_Lins_l1 a b f i) h hl (fun f i x y hx hy => by
   have hi := lt_of_at hx
   obtain ⟨r, h1, h2⟩ := base_Lin_eq (a := x) (b := y) (hh x (List.mem_of_getElem? hx))
   refine ⟨r, h2, ?_⟩
   simp only [m_base_Lins_l1]
   rw [if_pos (lt_dec hi), lat_at hx, Option.bind_some, lat_at hy, Option.bind_some, h1, Option.bind_some, wis (by omega)]
   cases r <;> rfl) (fun f => by
   simp only [m_base_Lins_l1]
   rw [if_neg (by simp)])
 ·rw [if_pos (by simp; omega)]
  exact ⟨false, rfl, ⟨fun h => (by cases h), fun h => absurd (by rw [h]) hl⟩⟩
theorem base_Index_eq {a b : GIndex} (h : okGIndex a) : ∃ r, m_base_Index a b = some r ∧ (r = true ↔ a = b) := by
 obtain ⟨o1, _, o2⟩ := h
 obtain ⟨r1, p1, p2⟩ := base_Lin_eq (a := a.Lin) (b := b.Lin) (by have := o1.2.2; omega)
 obtain ⟨r2, q1, q2⟩ := base_Lins_eq (a := a.At) (b := b.At) (by have := o2.2; omega) (fun f hf => by have := (o2.1 f hf).2.2; omega)
 unfold m_base_Index
 rw [p1, q1, gd_some, Option.bind_some, gd_some, Option.bind_some]
 refine ⟨_, rfl, ?_⟩
 by_cases hf : a.From = b.From
 ·simp only [hf, decide_true, if_true, Bool.true_and]
  cases r1
  ·simp only [Bool.false_and, Bool.false_eq_true, false_iff]
   intro h; subst h; simp at p2
  ·have := p2.1 rfl
   simp only [if_true, Bool.true_and, q2]
   cases a; cases b
   simp only at hf this
   simp [hf, this]
 ·simp only [hf, decide_false, Bool.false_and, Bool.false_eq_true, false_iff]
  intro h; subst h; exact hf rfl
theorem base_Indices_eq {a b : List GIndex} (h : a.length < 4611686018427387904) (hh : ∀ f ∈ a, okGIndex f) : ∃ r, m_base_Indices a b = some r ∧ (r = true ↔ a = b) := by
 unfold m_base_Indices
 by_cases hl : a.length = b.length
 ·rw [if_neg (by simp [hl])]
  exact eqs_loop (L := fun f i => m_base_Indices_l1 a b f i) h hl (fun f i x y hx hy => by
   have hi := lt_of_at hx
   obtain ⟨r, h1, h2⟩ := base_Index_eq (a := x) (b := y) (hh x (List.mem_of_getElem? hx))
   refine ⟨r, h2, ?_⟩
   simp only [m_base_Indices_l1]
   rw [if_pos (lt_dec hi), lat_at hx, Option.bind_some, lat_at hy, Option.bind_some, h1, Option.bind_some, wis (by omega)]
   cases r <;> rfl) (fun f => by
   simp only [m_base_Indices_l1]
   rw [if_neg (by simp)])
 ·rw [if_pos (by simp; omega)]
  exact ⟨false, rfl, ⟨fun h => (by cases h), fun h => absurd (by rw [h]) hl⟩⟩
theorem base_Expr_eq : ∀ (f : Nat) (a b : GExpr), okGExpr a → wE a < f → ∃ r, m_base_Expr_r f a b = some r ∧ (r = true ↔ a = b)
 | 0, _, _, _, h => absurd h (by omega)
 | f + 1, a, b, ho, hf => by
  obtain ⟨o1, o2, o3⟩ := ho.out
  obtain ⟨l1, l2, l3, l4⟩ := ho.len
  obtain ⟨r1, p1, p2⟩ := base_Lin_eq (a := a.Lin) (b := b.Lin) l3
  obtain ⟨r2, q1, q2⟩ := base_Indices_eq (a := a.Idx) (b := b.Idx) l1 o2.1
  have hargs : ∃ r, m_base_Exprs (m_base_Expr_r f) a.Args b.Args = some r ∧ (r = true ↔ a.Args = b.Args) := by
   unfold m_base_Exprs
   by_cases hl : a.Args.length = b.Args.length
   ·rw [if_neg (by simp [hl])]
    exact eqs_loop (L := fun g i => m_base_Exprs_l1 a.Args b.Args (m_base_Expr_r f) g i) l2 hl (fun g i x y hx hy => by
     have hi := lt_of_at hx
     have hm := List.mem_of_getElem? hx
     obtain ⟨r, h1, h2⟩ := base_Expr_eq f x y (o3.1 x hm) (by have := wE_arg hm; omega)
     refine ⟨r, h2, ?_⟩
     simp only [m_base_Exprs_l1]
     rw [if_pos (lt_dec hi), lat_at hx, Option.bind_some, lat_at hy, Option.bind_some, h1, Option.bind_some, wis (by omega)]
     cases r <;> rfl) (fun g => by
     simp only [m_base_Exprs_l1]
     rw [if_neg (by simp)])
   ·rw [if_pos (by simp; omega)]
    exact ⟨false, rfl, ⟨fun h => (by cases h), fun h => absurd (by rw [h]) hl⟩⟩
  obtain ⟨r3, s1, s2⟩ := hargs
  show ∃ r, m_base_Expr_b (m_base_Expr_r f) a b = some r ∧ _
  unfold m_base_Expr_b
  rw [p1, q1, s1, gd_some, Option.bind_some, gd_some, Option.bind_some, gd_some, Option.bind_some]
  generalize hc : (((decide (a.Op = b.Op) && decide (a.Name = b.Name)) && (decide (a.Val.N = b.Val.N) && decide (a.Val.D = b.Val.D))) && ((decide (a.Type_.Kind = b.Type_.Kind)) && (decide (a.Type_.Bits = b.Type_.Bits)) && (decide (a.Type_.Frac = b.Type_.Frac)) && (decide (a.Type_.Round = b.Type_.Round)) && (decide (a.Type_.Over = b.Type_.Over)))) = c
  refine ⟨_, rfl, ?_⟩
  have hcc : c = true ↔ (a.Op = b.Op ∧ a.Name = b.Name ∧ a.Val = b.Val ∧ a.Type_ = b.Type_) := by
   rw [← hc]
   simp only [Bool.and_eq_true, decide_eq_true_eq]
   constructor
   ·rintro ⟨⟨⟨x1, x2⟩, x3, x4⟩, ⟨⟨⟨y1, y2⟩, y3⟩, y4⟩, y5⟩
    refine ⟨x1, x2, ?_, ?_⟩
    ·cases hv : a.Val; cases hw : b.Val; rw [hv, hw] at x3 x4; simp only at x3 x4; rw [x3, x4]
    ·cases hv : a.Type_; cases hw : b.Type_; rw [hv, hw] at y1 y2 y3 y4 y5; simp only at y1 y2 y3 y4 y5; rw [y1, y2, y3, y4, y5]
   ·rintro ⟨x1, x2, x3, x4⟩
    rw [x1, x2, x3, x4]; simp
  cases c
  ·simp only [Bool.false_and, Bool.false_eq_true, false_iff]
   intro h; subst h; simp at hcc
  ·obtain ⟨x1, x2, x3, x4⟩ := hcc.1 rfl
   simp only [if_true, Bool.true_and]
   cases r1
   ·simp only [Bool.false_and, Bool.false_eq_true, false_iff]
    intro h; subst h; simp at p2
   ·have y1 := p2.1 rfl
    simp only [if_true, Bool.true_and]
    cases r2
    ·simp only [Bool.false_and, Bool.false_eq_true, false_iff]
     intro h; subst h; simp at q2
    ·have y2 := q2.1 rfl
     simp only [if_true, Bool.true_and, s2]
     exact ⟨fun h => ext_of x1 x2 x3 x4 y1 y2 h, fun h => by rw [h]⟩
theorem law_PrinterDistinct (a b : GExpr) (ha : okGExpr a) (hb : okGExpr b) : m_law15_PrinterDistinct a b = some true := by
 unfold m_law15_PrinterDistinct
 rw [ref15_Small ha, ref15_Small hb, Option.bind_some, gd_some, Option.bind_some, alive15]
 by_cases h1 : wE a ≤ 300
 ·by_cases h2 : wE b ≤ 300
  ·simp only [h1, h2, decide_true, Bool.not_true, Bool.not_false, if_true, Bool.or_self, (validate_ok ha h1).2, (validate_ok hb h2).2, gd_some, Option.bind_some, Bool.false_or]
   by_cases v1 : vE a = 0
   ·by_cases v2 : vE b = 0
    ·have p1 := (exprs_ok ha h1).1
     have p2 := (exprs_ok hb h2).1
     rw [if_pos v1] at p1
     rw [if_pos v2] at p2
     obtain ⟨r, e1, e2⟩ := base_Expr_eq fu a b ha (by unfold fu; omega)
     have la := exT_len (wE a + 1) a (by omega) ha (vE_zero v1)
     have hr : decide (exT a = exT b) = r := by
      by_cases hx : exT a = exT b
      ·rw [decide_eq_true hx, e2.2 (exT_in ⟨ha, vE_zero v1⟩ ⟨hb, vE_zero v2⟩ (by omega) hx)]
      ·rw [decide_eq_false hx]
       cases r
       ·rfl
       ·exact absurd (by rw [e2.1 rfl]) hx
     simp only [v1, v2, decide_true, Bool.not_true, Bool.not_false, if_true, Bool.or_self, Bool.false_eq_true, if_false, p1, p2, Option.bind_some]
     unfold m_base_Expr
     rw [e1, Option.bind_some, hr]
     simp [gd]
    ·simp [v1, v2]
   ·simp [v1]
  ·simp [h1, h2, gd]
 ·simp [h1, gd]
end Go.Proofs.YtebpdmfmknfkjaaGreatDoor
