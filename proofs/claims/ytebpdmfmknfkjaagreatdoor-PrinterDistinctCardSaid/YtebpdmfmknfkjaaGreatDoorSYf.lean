import Derived.Test.YtebpdmfmknfkjaaGreatDoorSYe
namespace Go.Proofs.YtebpdmfmknfkjaaGreatDoor
open Go Go.RowKit Go.Vc
set_option linter.unusedVariables false
set_option linter.unusedSimpArgs false
theorem all_loop {α R : Type} {m : Nat → Int → Option R} {l : List α} {p : α → Bool} {k r0 : Option R} (hn : l.length < 4611686018427387904)
  (rd : ∀ (f i : Nat) x, l[i]? = some x → m (f + 1) (i : Int) = if p x = true then m f ((i + 1 : Nat) : Int) else r0) (ed : ∀ f, m (f + 1) (l.length : Int) = k) : m fu 0 = if l.all p = true then k else r0 := by
 refine loop_eq (L := fun f (_ : Unit) i => m f i) (n := l.length) hn (fun i _ => (l.take i).all p = true) ?_ ?_ () (by simp)
 ·intro f i _ hi hI
  obtain ⟨x, hx⟩ := at_some hi
  by_cases h : p x = true
  ·left; exact ⟨(), by rw [take_succ' hx, List.all_append, hI]; simp [h], by rw [rd f i x hx, if_pos h]⟩
  ·right
   rw [show m (f + 1) (i : Int) = r0 by rw [rd f i x hx, if_neg h], if_neg]
   intro h2; exact h (List.all_eq_true.1 h2 x (List.mem_of_getElem? hx))
 ·intro f _ hI
  rw [List.take_length] at hI
  rw [if_pos hI]; exact ed f
def allI {α : Type} (p : Nat → α → Bool) : Nat → List α → Bool
 | _, [] => true
 | k, x :: r => p k x && allI p (k + 1) r
theorem allI_iff {α : Type} {p : Nat → α → Bool} : ∀ {l : List α} {k : Nat}, allI p k l = true ↔ ∀ i x, l[i]? = some x → p (k + i) x = true
 | [], k => by simp [allI]
 | a :: l, k => by
  rw [allI, Bool.and_eq_true, allI_iff (l := l)]
  constructor
  ·rintro ⟨h1, h2⟩ i x hx
   cases i with
   | zero => injection hx with hx; subst hx; exact h1
   | succ i => have := h2 i x hx; rwa [Nat.add_assoc, Nat.add_comm 1] at this
  ·intro h
   refine ⟨h 0 a rfl, fun i x hx => ?_⟩
   have := h (i + 1) x hx
   rwa [← Nat.add_assoc, Nat.add_right_comm] at this
theorem allI_loop {α R : Type} {m : Nat → Int → Option R} {l : List α} {p : Nat → α → Bool} {k r0 : Option R} (hn : l.length < 4611686018427387904)
  (rd : ∀ (f i : Nat) x, l[i]? = some x → m (f + 1) (i : Int) = if p i x = true then m f ((i + 1 : Nat) : Int) else r0) (ed : ∀ f, m (f + 1) (l.length : Int) = k) : m fu 0 = if allI p 0 l = true then k else r0 := by
 refine loop_eq (L := fun f (_ : Unit) i => m f i) (n := l.length) hn (fun i _ => ∀ j x, j < i → l[j]? = some x → p j x = true) ?_ ?_ () (fun j x h => absurd h (by omega))
 ·intro f i _ hi hI
  obtain ⟨x, hx⟩ := at_some hi
  by_cases h : p i x = true
  ·left; exact ⟨(), fun j y hj hy => by
    by_cases e : j = i
    ·subst e; rw [hx] at hy; injection hy with hy; subst hy; exact h
    ·exact hI j y (by omega) hy, by rw [rd f i x hx, if_pos h]⟩
  ·right
   rw [show m (f + 1) (i : Int) = r0 by rw [rd f i x hx, if_neg h], if_neg]
   intro h2; have := allI_iff.1 h2 i x hx; rw [Nat.zero_add] at this; exact h this
 ·intro f _ hI
  rw [if_pos (allI_iff.2 fun i x hx => by rw [Nat.zero_add]; exact hI i x (List.getElem?_eq_some_iff.1 hx).1 hx)]; exact ed f
theorem contains_ix {l : List GIndex} {f : GIndex → Option Bool} {g : GIndex → Bool} (hn : l.length < 4611686018427387904) (h : ∀ x ∈ l, f x = some (g x)) : m_slices_ContainsFunc_api_Index_api_Index l f = some (!l.all fun x => !g x) := by
 obtain ⟨r, h1, h2⟩ := loop_fu (L := fun f' (_ : Unit) i => m_slices_IndexFunc_api_Index_api_Index_l1 l f f' i) (n := l.length) hn (fun i _ => (l.take i).all (fun x => !g x) = true) (fun r => decide (0 ≤ r) = !l.all fun x => !g x)
  (fun f' i _ hi hI => by
   obtain ⟨x, hx⟩ := at_some hi
   have hm := List.mem_of_getElem? hx
   simp only [m_slices_IndexFunc_api_Index_api_Index_l1]
   rw [if_pos (lt_dec hi), lat_at hx, Option.bind_some, h x hm, Option.bind_some]
   by_cases hv : g x = true
   ·right; refine ⟨(i : Int), by rw [if_pos hv], ?_⟩
    rw [decide_eq_true (by omega)]; symm
    rw [Bool.not_eq_true', Bool.eq_false_iff]; intro h2
    have := List.all_eq_true.1 h2 x hm; rw [hv] at this; cases this
   ·left; refine ⟨(), ?_, by rw [if_neg hv, wis (by omega)]⟩
    rw [take_succ' hx, List.all_append, hI]; simp [hv])
  (fun f' _ hI => by
   rw [List.take_length] at hI
   simp only [m_slices_IndexFunc_api_Index_api_Index_l1]
   exact ⟨-1, by rw [if_neg (by simp)], by rw [hI]; rfl⟩) () (by simp)
 unfold m_slices_ContainsFunc_api_Index_api_Index m_slices_IndexFunc_api_Index_api_Index
 rw [show m_slices_IndexFunc_api_Index_api_Index_l1 l f fu 0 = some r from h1, Option.bind_some, h2]
def zLin (l : GLin) : Bool := decide (l.K = 0) && decide ((l.L.length : Int) = 0)
def ixP (x : GIndex) : Bool := if x.From = [] then decide ((x.At.length : Int) = 0) else zLin x.Lin
def okLinB (l : GLin) : Bool := decide (okLin l)
def zTy (t : GType) : Bool := (decide (t.Kind = 0)) && (decide (t.Bits = 0)) && (decide (t.Frac = 0)) && (decide (t.Round = 0)) && (decide (t.Over = 0))
def plainN (e : GExpr) : Bool := decide (1 ≤ e.Op) && decide (e.Op ≤ 18) && (decide (e.Op = 1) || (decide (e.Val.N = 0) && decide (e.Val.D = 0))) && (decide (e.Op = 1) || decide (e.Op = 12) || zTy e.Type_) &&
 (decide (e.Op = 2) || zLin e.Lin) && (decide (e.Op = 3) || (decide (e.Name = []) && decide ((e.Idx.length : Int) = 0))) && e.Idx.all ixP
def namedN (e : GExpr) : Bool := (!decide (e.Op = 3) || nameB e.Name) && e.Idx.all fun x => decide (x.From = []) || nameB x.From
def opsN (op : Int) : Int := if op = 1 ∨ op = 2 ∨ op = 3 then 0 else if op = 8 ∨ op = 12 ∨ op = 18 then 1 else if op = 11 then 3 else 2
def rankN (e : GExpr) : Bool := decide ((e.Args.length : Int) = opsN e.Op) && !decide (6 < (e.Idx.length : Int)) && e.Idx.all fun x => !decide (6 < (x.At.length : Int))
def condN (e : GExpr) : Bool := decide (13 ≤ e.Op) && decide (e.Op ≤ 18)
def wantN (op : Int) (i : Nat) : Bool := ((decide (op = 11) && decide ((i : Int) = 0)) || decide (op = 16) || decide (op = 17)) || decide (op = 18)
def typeN (e : GExpr) : Bool := (!(decide (e.Op = 1) || decide (e.Op = 12)) || tyB e.Type_) && allI (fun i a => condN a == wantN e.Op i) 0 e.Args
def formN (e : GExpr) : Bool := (!decide (e.Op = 1) || okV e.Type_ e.Val) && okLinB e.Lin && e.Idx.all fun x => okLinB x.Lin && x.At.all okLinB
def nodeErr (e : GExpr) : Int := if plainN e = true then (if namedN e = true then (if rankN e = true then (if typeN e = true then (if formN e = true then 0 else 1) else 10) else 11) else 7) else 5
abbrev lenE (e : GExpr) : Prop := e.Idx.length < 4611686018427387904 ∧ e.Args.length < 4611686018427387904 ∧ e.Lin.L.length < 4611686018427387904 ∧ ∀ x ∈ e.Idx, x.Lin.L.length < 4611686018427387904 ∧ x.At.length < 4611686018427387904 ∧ ∀ f ∈ x.At, f.L.length < 4611686018427387904
theorem okGExpr.len {e : GExpr} (h : okGExpr e) : lenE e := by
 obtain ⟨h1, h2, h3⟩ := h.out
 refine ⟨by have := h2.2; omega, by have := h3.2; omega, by have := h1.2.2; omega, fun x hx => ?_⟩
 obtain ⟨a, _, b⟩ := h2.1 x hx
 exact ⟨by have := a.2.2; omega, by have := b.2; omega, fun f hf => by have := (b.1 f hf).2.2; omega⟩
theorem expr_syntax {e : GExpr} (h : lenE e) : m_expr_syntax e = some (plainN e) := by
 have hc := contains_ix (l := e.Idx) (f := m_expr_syntax_1) (g := fun x => !ixP x) h.1 (fun x _ => by
  unfold m_expr_syntax_1 m_expr_wellFormed m_expr_isZero ixP
  by_cases hx : x.From = [] <;> simp [hx, zLin])
 unfold m_expr_syntax plainN
 rw [hc]
 simp only [m_expr_isZero, Bool.not_not]
 by_cases h1 : e.Op < 1
 ·simp [h1, show ¬ 1 ≤ e.Op by omega]
 by_cases h2 : 18 < e.Op
 ·simp [h2, show ¬ e.Op ≤ 18 by omega]
 have g1 : decide (1 ≤ e.Op) = true := decide_eq_true (by omega)
 have g2 : decide (e.Op ≤ 18) = true := decide_eq_true (by omega)
 rw [g1, g2, decide_eq_false h1, decide_eq_false h2]
 cases a1 : decide (e.Op = 1) <;> cases a2 : decide (e.Op = 2) <;> cases a3 : decide (e.Op = 3) <;> cases a12 : decide (e.Op = 12) <;>
  cases b1 : (decide (e.Val.N = 0) && decide (e.Val.D = 0)) <;> cases b2 : zTy e.Type_ <;> cases b3 : zLin e.Lin <;> cases b4 : decide (e.Name = []) <;> cases b5 : decide ((e.Idx.length : Int) = 0) <;>
  simp_all [gd, zTy, zLin]
theorem expr_names {e : GExpr} (h : lenE e) : m_expr_names e = some (namedN e) := by
 have hc := contains_ix (l := e.Idx) (f := m_expr_names_1) (g := fun x => !(decide (x.From = []) || nameB x.From)) h.1 (fun x _ => by
  unfold m_expr_names_1
  by_cases hx : x.From = [] <;> simp [hx, gd, isName_all])
 unfold m_expr_names namedN
 rw [hc]
 simp only [isName_all, Bool.not_not]
 by_cases h3 : e.Op = 3
 ·cases nameB e.Name <;> simp [h3, gd]
 ·simp [h3, gd]
theorem operands_ok (op : Int) : m_expr_operands op = some (opsN op) ∧ m_ref14_args op = some (opsN op) := by
 unfold m_expr_operands m_expr_operands_j1 m_expr_operands_j2 m_ref14_args m_ref14_args_j1 m_ref14_args_j2 opsN
 by_cases h1 : op = 1
 ·simp [h1]
 by_cases h2 : op = 2
 ·simp [h2]
 by_cases h3 : op = 3
 ·simp [h3]
 by_cases h8 : op = 8
 ·simp [h8]
 by_cases h12 : op = 12
 ·simp [h12]
 by_cases h18 : op = 18
 ·simp [h18]
 by_cases h11 : op = 11
 ·simp [h11]
 simp [h1, h2, h3, h8, h12, h18, h11]
theorem expr_rank {e : GExpr} (h : lenE e) : m_expr_rank e = some (rankN e) := by
 have hc := contains_ix (l := e.Idx) (f := m_expr_rank_1) (g := fun x => decide (6 < (x.At.length : Int))) h.1 (fun x _ => rfl)
 unfold m_expr_rank rankN
 rw [(operands_ok _).1, hc]
 simp only [Option.bind_some, Bool.not_not]
 cases decide ((e.Args.length : Int) = opsN e.Op) <;> cases decide (6 < (e.Idx.length : Int)) <;> simp
theorem wants_ok (op : Int) (i : Nat) : m_expr_requiresCondition op (i : Int) = some (wantN op i) ∧ m_ref14_wants op (i : Int) = some (wantN op i) := by
 unfold m_expr_requiresCondition m_ref14_wants wantN
 by_cases h1 : op = 16
 ·simp [h1]
 by_cases h2 : op = 17
 ·simp [h2]
 by_cases h3 : op = 18
 ·simp [h3]
 simp [h1, h2, h3]
theorem types_loop {e : GExpr} (h : lenE e) : m_expr_types_l1 e fu 0 = some (allI (fun i a => condN a == wantN e.Op i) 0 e.Args) ∧ m_ref14_typed_l1 e fu 0 = some (allI (fun i a => condN a == wantN e.Op i) 0 e.Args) := by
 constructor
 ·rw [allI_loop (m := fun f i => m_expr_types_l1 e f i) (l := e.Args) (p := fun i a => condN a == wantN e.Op i) (k := some true) (r0 := some false) h.2.1 ?_ ?_]
  ·cases allI (fun i a => condN a == wantN e.Op i) 0 e.Args <;> rfl
  ·intro f i x hx
   have hi := (List.getElem?_eq_some_iff.1 hx).1
   have := h.2.1
   simp only [m_expr_types_l1]
   rw [if_pos (lt_dec hi), lat_at hx, Option.bind_some, show m_expr_IsCondition x = some (condN x) from rfl, (wants_ok _ _).1, Option.bind_some, Option.bind_some, wis (by omega)]
   cases condN x <;> cases wantN e.Op i <;> rfl
  ·intro f
   simp only [m_expr_types_l1]
   rw [if_neg (by simp)]
 ·rw [allI_loop (m := fun f i => m_ref14_typed_l1 e f i) (l := e.Args) (p := fun i a => condN a == wantN e.Op i) (k := some true) (r0 := some false) h.2.1 ?_ ?_]
  ·cases allI (fun i a => condN a == wantN e.Op i) 0 e.Args <;> rfl
  ·intro f i x hx
   have hi := (List.getElem?_eq_some_iff.1 hx).1
   have := h.2.1
   simp only [m_ref14_typed_l1]
   rw [if_pos (lt_dec hi), lat_at hx, Option.bind_some, show m_ref14_IsCondition x = some (condN x) from rfl, (wants_ok _ _).2, Option.bind_some, Option.bind_some, wis (by omega)]
   cases condN x <;> cases wantN e.Op i <;> rfl
  ·intro f
   simp only [m_ref14_typed_l1]
   rw [if_neg (by simp)]
theorem expr_types {e : GExpr} (h : lenE e) : m_expr_types e = some (typeN e) ∧ m_ref14_typed e = some (typeN e) := by
 unfold m_expr_types m_ref14_typed typeN
 rw [(types_loop h).1, (types_loop h).2, value_ValidateType, base_Type]
 cases (decide (e.Op = 1) || decide (e.Op = 12)) <;> cases tyB e.Type_ <;> simp [gd]
theorem pos_len (n : Nat) : decide (0 < (n : Int)) = !decide ((n : Int) = 0) := by
 by_cases h : n = 0
 ·subst h; rfl
 ·rw [decide_eq_true (by omega), decide_eq_false (by omega)]; rfl
theorem ref14_plain {e : GExpr} (h : lenE e) : m_ref14_plain e = some (plainN e) := by
 have hl : m_ref14_plain_l1 e fu 0 = some (e.Idx.all ixP) := by
  rw [all_loop (m := fun f i => m_ref14_plain_l1 e f i) (l := e.Idx) (p := ixP) (k := some true) (r0 := some false) h.1 ?_ ?_]
  ·cases e.Idx.all ixP <;> rfl
  ·intro f i x hx
   have hi := (List.getElem?_eq_some_iff.1 hx).1
   have := h.1
   simp only [m_ref14_plain_l1]
   rw [if_pos (lt_dec hi), lat_at hx, Option.bind_some, wis (by omega)]
   have e1 : (((decide (x.From = ([] : List UInt8))) && (decide (0 < (x.At.length : Int)))) || ((!decide (x.From = ([] : List UInt8))) && ((!decide (x.Lin.K = 0)) || (decide (0 < (x.Lin.L.length : Int)))))) = !ixP x := by
    unfold ixP zLin
    have c1 : decide (0 < (x.At.length : Int)) = !decide ((x.At.length : Int) = 0) := pos_len _
    have c2 : decide (0 < (x.Lin.L.length : Int)) = !decide ((x.Lin.L.length : Int) = 0) := pos_len _
    rw [c1, c2]
    by_cases hx : x.From = [] <;> simp [hx]
   rw [e1]
   cases ixP x <;> rfl
  ·intro f
   simp only [m_ref14_plain_l1]
   rw [if_neg (by simp)]
 unfold m_ref14_plain plainN
 rw [hl]
 by_cases h1 : e.Op < 1
 ·simp [h1, show ¬ 1 ≤ e.Op by omega]
 by_cases h2 : 18 < e.Op
 ·simp [h2, show ¬ e.Op ≤ 18 by omega]
 have g1 : decide (1 ≤ e.Op) = true := decide_eq_true (by omega)
 have g2 : decide (e.Op ≤ 18) = true := decide_eq_true (by omega)
 have c1 : decide (0 < (e.Lin.L.length : Int)) = !decide ((e.Lin.L.length : Int) = 0) := pos_len _
 have c2 : decide (0 < (e.Idx.length : Int)) = !decide ((e.Idx.length : Int) = 0) := pos_len _
 rw [g1, g2, decide_eq_false h1, decide_eq_false h2, c1, c2]
 have e3 : ((decide (e.Type_.Kind = 0)) && (decide (e.Type_.Bits = 0)) && (decide (e.Type_.Frac = 0)) && (decide (e.Type_.Round = 0)) && (decide (e.Type_.Over = 0))) = zTy e.Type_ := rfl
 rw [e3]
 unfold zLin
 generalize decide (e.Op = 1) = a1, decide (e.Op = 2) = a2, decide (e.Op = 3) = a3, decide (e.Op = 12) = a12, (decide (e.Val.N = 0) && decide (e.Val.D = 0)) = b1, zTy e.Type_ = b2, decide (e.Lin.K = 0) = b3, decide ((e.Lin.L.length : Int) = 0) = b4, decide (e.Name = []) = b5, decide ((e.Idx.length : Int) = 0) = b6
 cases a1 <;> cases a2 <;> cases a3 <;> cases a12 <;> cases b1 <;> cases b2 <;> cases b3 <;> cases b4 <;> cases b5 <;> cases b6 <;> simp
theorem ref14_named {e : GExpr} (h : lenE e) : m_ref14_named e = some (namedN e) := by
 have hl : m_ref14_named_l1 e fu 0 = some (e.Idx.all fun x => decide (x.From = []) || nameB x.From) := by
  rw [all_loop (m := fun f i => m_ref14_named_l1 e f i) (l := e.Idx) (p := fun x => decide (x.From = []) || nameB x.From) (k := some true) (r0 := some false) h.1 ?_ ?_]
  ·cases e.Idx.all fun x => decide (x.From = []) || nameB x.From <;> rfl
  ·intro f i x hx
   have hi := (List.getElem?_eq_some_iff.1 hx).1
   have := h.1
   simp only [m_ref14_named_l1]
   rw [if_pos (lt_dec hi), lat_at hx, Option.bind_some, wis (by omega)]
   by_cases hf : x.From = []
   ·simp [hf, gd]
   ·cases hn : nameB x.From <;> simp [hf, gd, base_Name_all, hn]
  ·intro f
   simp only [m_ref14_named_l1]
   rw [if_neg (by simp)]
 unfold m_ref14_named namedN
 rw [hl, base_Name_all]
 by_cases h3 : e.Op = 3
 ·cases nameB e.Name <;> simp [h3, gd]
 ·simp [h3, gd]
theorem ref14_ranked {e : GExpr} (h : lenE e) : m_ref14_ranked e = some (rankN e) := by
 have hl : m_ref14_ranked_l1 e fu 0 = some (e.Idx.all fun x => !decide (6 < (x.At.length : Int))) := by
  rw [all_loop (m := fun f i => m_ref14_ranked_l1 e f i) (l := e.Idx) (p := fun x => !decide (6 < (x.At.length : Int))) (k := some true) (r0 := some false) h.1 ?_ ?_]
  ·cases e.Idx.all fun x => !decide (6 < (x.At.length : Int)) <;> rfl
  ·intro f i x hx
   have hi := (List.getElem?_eq_some_iff.1 hx).1
   have := h.1
   simp only [m_ref14_ranked_l1]
   rw [if_pos (lt_dec hi), lat_at hx, Option.bind_some, wis (by omega)]
   cases decide (6 < (x.At.length : Int)) <;> rfl
  ·intro f
   simp only [m_ref14_ranked_l1]
   rw [if_neg (by simp)]
 unfold m_ref14_ranked rankN
 rw [(operands_ok _).2, hl]
 simp only [Option.bind_some]
 cases decide ((e.Args.length : Int) = opsN e.Op) <;> cases decide (6 < (e.Idx.length : Int)) <;> simp
theorem ref14_formed {e : GExpr} (h : lenE e) (hv : VaR e.Val) (ht : e.Op = 1 → tyB e.Type_ = true) : m_ref14_formed e = some (formN e) := by
 have hl : m_ref14_formed_l1 e fu 0 = some (e.Idx.all fun x => okLinB x.Lin && x.At.all okLinB) := by
  rw [all_loop (m := fun f i => m_ref14_formed_l1 e f i) (l := e.Idx) (p := fun x => okLinB x.Lin && x.At.all okLinB) (k := some true) (r0 := some false) h.1 ?_ ?_]
  ·cases e.Idx.all fun x => okLinB x.Lin && x.At.all okLinB <;> rfl
  ·intro f i x hx
   have hi := (List.getElem?_eq_some_iff.1 hx).1
   have h0 := h.1
   obtain ⟨p1, p2, p3⟩ := h.2.2.2 x (List.mem_of_getElem? hx)
   simp only [m_ref14_formed_l1]
   rw [if_pos (lt_dec hi), lat_at hx, Option.bind_some, (lin_Val p1).2, Option.bind_some]
   have hin : m_ref14_formed_l2 e (i : Int) (m_ref14_formed_l1 e f) fu 0 = if x.At.all okLinB = true then m_ref14_formed_l1 e f ((i + 1 : Nat) : Int) else some false := by
    refine all_loop (m := fun f' k => m_ref14_formed_l2 e (i : Int) (m_ref14_formed_l1 e f) f' k) (l := x.At) (p := okLinB) p2 ?_ ?_
    ·intro f' k y hy
     have hk := (List.getElem?_eq_some_iff.1 hy).1
     simp only [m_ref14_formed_l2]
     rw [lat_at hx, Option.bind_some, if_pos (lt_dec hk), Option.bind_some, lat_at hy, Option.bind_some, (lin_Val (p3 y (List.mem_of_getElem? hy))).2, Option.bind_some, wis (by omega)]
     unfold okLinB
     cases decide (okLin y) <;> rfl
    ·intro f'
     simp only [m_ref14_formed_l2]
     rw [lat_at hx, Option.bind_some, if_neg (by simp)]
     unfold m_ref14_formed_j1; rw [wis (by omega)]
   rw [hin]
   unfold okLinB
   cases decide (okLin x.Lin) <;> rfl
  ·intro f
   simp only [m_ref14_formed_l1]
   rw [if_neg (by simp)]
 unfold m_ref14_formed formN
 rw [hl, (lin_Val h.2.2.1).2]
 unfold okLinB
 by_cases h1 : e.Op = 1
 ·rw [base_Val (ht h1) hv]
  cases okV e.Type_ e.Val <;> cases decide (okLin e.Lin) <;> simp [h1, gd]
 ·cases decide (okLin e.Lin) <;> simp [h1, gd]
end Go.Proofs.YtebpdmfmknfkjaaGreatDoor
