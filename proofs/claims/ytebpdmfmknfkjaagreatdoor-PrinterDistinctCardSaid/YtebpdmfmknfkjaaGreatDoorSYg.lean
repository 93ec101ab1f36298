import Derived.Test.YtebpdmfmknfkjaaGreatDoorSYf
namespace Go.Proofs.YtebpdmfmknfkjaaGreatDoor
open Go Go.RowKit Go.Vc
set_option linter.unusedVariables false
set_option linter.unusedSimpArgs false
theorem expr_validNode {e : GExpr} (h : lenE e) (hv : VaR e.Val) : m_expr_validNode e = some (nodeErr e) := by
 let Y : GLin → Nat × Int → Option (Bool × (Nat × Int)) := fun k_0 q => if q.1 = 0 then m_expr_validNode_b1 k_0 q.2 else none
 have hY : ∀ (l : GLin), l.L.length < 4611686018427387904 → Y l (0, 0) = some (if okLinB l = true then (true, (0, 0)) else (false, (1, 1))) := fun l hl => by
  show (if (0 : Nat) = 0 then m_expr_validNode_b1 l 0 else none) = _
  rw [if_pos rfl]
  unfold m_expr_validNode_b1 okLinB
  rw [(lin_Val hl).1, Option.bind_some]
  by_cases ho : okLin l <;> simp [ho]
 have hl : m_expr_forms_1_s_l1 e Y fu 0 (0, 0) = if (e.Idx.all fun x => okLinB x.Lin && x.At.all okLinB) = true then some ((), (0, 0)) else some ((), (1, 1)) := by
  refine all_loop (m := fun f i => m_expr_forms_1_s_l1 e Y f i (0, 0)) (l := e.Idx) (p := fun x => okLinB x.Lin && x.At.all okLinB) h.1 ?_ ?_
  ·intro f i x hx
   have hi := (List.getElem?_eq_some_iff.1 hx).1
   have h0 := h.1
   obtain ⟨p1, p2, p3⟩ := h.2.2.2 x (List.mem_of_getElem? hx)
   simp only [m_expr_forms_1_s_l1]
   rw [if_pos (lt_dec hi), lat_at hx, Option.bind_some, hY _ p1, Option.bind_some]
   have hin : m_expr_forms_1_s_l2 x Y (m_expr_forms_1_s_l1 e Y f) (i : Int) fu 0 (0, 0) = if x.At.all okLinB = true then m_expr_forms_1_s_l1 e Y f ((i + 1 : Nat) : Int) (0, 0) else some ((), (1, 1)) := by
    refine all_loop (m := fun f' k => m_expr_forms_1_s_l2 x Y (m_expr_forms_1_s_l1 e Y f) (i : Int) f' k (0, 0)) (l := x.At) (p := okLinB) p2 ?_ ?_
    ·intro f' k y hy
     have hk := (List.getElem?_eq_some_iff.1 hy).1
     simp only [m_expr_forms_1_s_l2]
     rw [if_pos (lt_dec hk), lat_at hy, Option.bind_some, hY _ (p3 y (List.mem_of_getElem? hy)), Option.bind_some, wis (by omega)]
     cases okLinB y <;> rfl
    ·intro f'
     simp only [m_expr_forms_1_s_l2]
     rw [if_neg (by simp)]
     unfold m_expr_forms_1_s_j1; rw [wis (by omega)]
   cases okLinB x.Lin
   ·rfl
   ·simp only [if_true, Bool.true_and, Bool.not_true, Bool.false_eq_true, if_false]; exact hin
  ·intro f
   simp only [m_expr_forms_1_s_l1]
   rw [if_neg (by simp)]
 unfold m_expr_validNode nodeErr
 rw [expr_syntax h, expr_names h, expr_rank h, (expr_types h).1, value_Valid hv]
 cases plainN e
 ·rfl
 cases namedN e
 ·rfl
 cases rankN e
 ·rfl
 cases ht : typeN e
 ·rfl
 simp only [Option.bind_some, Bool.not_true, Bool.false_eq_true, if_false, if_true]
 have ht1 : e.Op = 1 → tyB e.Type_ = true := fun h1 => by unfold typeN at ht; simp [h1] at ht; exact ht.1
 unfold formN
 have hform : (m_expr_forms e).bind (fun r6 => (m_expr_forms_1_s Y r6 (0, 0)).bind fun ⟨u1, o1, v2⟩ => if o1 = 0 then some 0 else if o1 = 1 then some v2 else none) = some (if (okLinB e.Lin && e.Idx.all fun x => okLinB x.Lin && x.At.all okLinB) = true then (0 : Int) else 1) := by
  unfold m_expr_forms m_expr_forms_1_s
  rw [Option.bind_some, hY _ h.2.2.1, Option.bind_some]
  cases okLinB e.Lin
  ·rfl
  ·simp only [if_true, Bool.true_and, Bool.not_true, Bool.false_eq_true, if_false]
   rw [hl]
   cases (e.Idx.all fun x => okLinB x.Lin && x.At.all okLinB) <;> rfl
 by_cases h1 : e.Op = 1
 ·simp only [h1, ht1 h1, decide_true, gd, if_true, Bool.true_and, Option.bind_some, Bool.not_true, Bool.false_or]
  cases okV e.Type_ e.Val
  ·simp
  ·simp only [Bool.not_true, Bool.false_eq_true, if_false, Bool.true_and]; exact hform
 ·simp only [h1, decide_false, gd, Bool.false_eq_true, if_false, Bool.false_and, Option.bind_some, Bool.not_false, Bool.true_or, Bool.true_and]
  exact hform
def fstI {α : Type} (g : α → Int) : List α → Int
 | [] => 0
 | x :: l => if g x = 0 then fstI g l else g x
theorem fstI_zero {α : Type} {g : α → Int} : ∀ {l : List α}, fstI g l = 0 ↔ ∀ x ∈ l, g x = 0
 | [] => by simp [fstI]
 | x :: l => by
  rw [fstI]
  by_cases h : g x = 0
  ·rw [if_pos h, fstI_zero]; simp [h]
  ·rw [if_neg h]; simp [h]
def eErr : GExpr → Int
 | ⟨op, nm, v, t, l, ix, args⟩ => if nodeErr ⟨op, nm, v, t, l, ix, args⟩ = 0 then go args else nodeErr ⟨op, nm, v, t, l, ix, args⟩
 where go : List GExpr → Int
  | [] => 0
  | x :: xs => if eErr x = 0 then go xs else eErr x
theorem eErr_go : ∀ (l : List GExpr), eErr.go l = fstI eErr l
 | [] => rfl
 | x :: l => by rw [eErr.go, fstI, eErr_go l]
theorem eErr_eq (e : GExpr) : eErr e = if nodeErr e = 0 then fstI eErr e.Args else nodeErr e := by cases e; rw [eErr, eErr_go]
def nE : GExpr → Nat
 | ⟨_, _, _, _, _, _, args⟩ => 1 + go args
 where go : List GExpr → Nat
  | [] => 0
  | x :: xs => nE x + go xs
theorem nE_go : ∀ (l : List GExpr), nE.go l = (l.map nE).sum
 | [] => rfl
 | x :: l => by rw [nE.go, nE_go l, List.map_cons, List.sum_cons]
theorem nE_eq (e : GExpr) : nE e = 1 + (e.Args.map nE).sum := by cases e; rw [nE, nE_go]
def maxL : List Nat → Nat
 | [] => 0
 | x :: l => max x (maxL l)
def dE : GExpr → Nat
 | ⟨_, _, _, _, _, _, args⟩ => 1 + go args
 where go : List GExpr → Nat
  | [] => 0
  | x :: xs => max (dE x) (go xs)
theorem dE_go : ∀ (l : List GExpr), dE.go l = maxL (l.map dE)
 | [] => rfl
 | x :: l => by rw [dE.go, dE_go l, List.map_cons, maxL]
theorem dE_eq (e : GExpr) : dE e = 1 + maxL (e.Args.map dE) := by cases e; rw [dE, dE_go]
theorem wE_arg {e a : GExpr} (h : a ∈ e.Args) : wE a < wE e := by
 rw [wE_eq e]
 have := mem_le_sum (List.mem_map_of_mem (f := wE) h)
 omega
theorem nE_le : ∀ (k : Nat) (e : GExpr), wE e < k → nE e ≤ wE e
 | 0, _, h => absurd h (by omega)
 | k + 1, e, h => by
  rw [nE_eq, wE_eq]
  have : (e.Args.map nE).sum ≤ (e.Args.map wE).sum := by
   have hall : ∀ a ∈ e.Args, nE a ≤ wE a := fun a ha => nE_le k a (by have := wE_arg ha; omega)
   generalize e.Args = l at hall
   induction l with
   | nil => simp
   | cons x l ih =>
    rw [List.map_cons, List.map_cons, List.sum_cons, List.sum_cons]
    have h1 := hall x (by simp)
    have h2 := ih fun a ha => hall a (by simp [ha])
    omega
  omega
theorem nE_wE (e : GExpr) : nE e ≤ wE e := nE_le (wE e + 1) e (by omega)
theorem first_loop {α R : Type} {m : Nat → Int → Option R} {l : List α} {g : α → Int} {k : Option R} {r : Int → Option R} (hn : l.length < 4611686018427387904)
  (rd : ∀ (f i : Nat) x, l[i]? = some x → m (f + 1) (i : Int) = if g x = 0 then m f ((i + 1 : Nat) : Int) else r (g x)) (ed : ∀ f, m (f + 1) (l.length : Int) = k) : m fu 0 = if fstI g l = 0 then k else r (fstI g l) := by
 refine loop_eq (L := fun f (_ : Unit) i => m f i) (n := l.length) hn (fun i _ => fstI g l = fstI g (l.drop i)) ?_ ?_ () rfl
 ·intro f i _ hi hI
  obtain ⟨x, hx⟩ := at_some hi
  rw [drop_at hx, fstI] at hI
  by_cases h : g x = 0
  ·left; rw [if_pos h] at hI; exact ⟨(), hI, by rw [rd f i x hx, if_pos h]⟩
  ·right
   rw [if_neg h] at hI
   rw [show m (f + 1) (i : Int) = r (g x) by rw [rd f i x hx, if_neg h], hI, if_neg h]
 ·intro f _ hI
  rw [List.drop_length] at hI
  rw [hI, show fstI g ([] : List α) = 0 from rfl, if_pos rfl]; exact ed f
theorem ref14_part {f : Nat} : ∀ {e : GExpr}, okGExpr e → wE e < f → m_ref14_part_r f e = some (eErr e) := by
 induction f with
 | zero => intro e _ h; omega
 | succ f ih =>
  intro e ho hw
  have hl := ho.len
  have hv : VaR e.Val := VaR.of (okGExpr_iff.1 ho).2.2.1
  show m_ref14_part_b (m_ref14_part_r f) e = _
  unfold m_ref14_part_b
  rw [ref14_plain hl, ref14_named hl, ref14_ranked hl, (expr_types hl).2, eErr_eq]
  unfold nodeErr
  cases plainN e
  ·rfl
  cases namedN e
  ·rfl
  cases rankN e
  ·rfl
  cases ht : typeN e
  ·rfl
  have ht1 : e.Op = 1 → tyB e.Type_ = true := fun h1 => by unfold typeN at ht; simp [h1] at ht; exact ht.1
  rw [ref14_formed hl hv ht1]
  cases formN e
  ·rfl
  simp only [Option.bind_some, Bool.not_true, Bool.false_eq_true, if_false, if_true]
  rw [first_loop (m := fun f' i => m_ref14_part_l1 e (m_ref14_part_r f) f' i) (l := e.Args) (g := eErr) (k := some 0) (r := some) hl.2.1 ?_ ?_]
  ·by_cases h : fstI eErr e.Args = 0
   ·rw [if_pos h, h]
   ·rw [if_neg h]
  ·intro f' i x hx
   have hi := (List.getElem?_eq_some_iff.1 hx).1
   have hm := List.mem_of_getElem? hx
   have := hl.2.1
   have := wE_arg hm
   simp only [m_ref14_part_l1]
   rw [if_pos (lt_dec hi), lat_at hx, Option.bind_some, ih (ho.out.2.2.1 x hm) (by omega), Option.bind_some, wis (by omega)]
   by_cases h : eErr x = 0
   ·rw [if_neg (by simp [h]), if_pos h]
   ·rw [if_pos (by simp [h]), if_neg h]
  ·intro f'
   simp only [m_ref14_part_l1]
   rw [if_neg (by simp)]
theorem expr_walk {f : Nat} : ∀ {e : GExpr}, okGExpr e → wE e < f → m_expr_walk_s_r f e (fun k_0 q => if q.1 = 0 then m_expr_Validate_b1 k_0 q.2 else none) ((0, 0) : Nat × Int) = some (if eErr e = 0 then (true, (0, 0)) else (false, (1, eErr e))) := by
 induction f with
 | zero => intro e _ h; omega
 | succ f ih =>
  intro e ho hw
  have hl := ho.len
  have hv : VaR e.Val := VaR.of (okGExpr_iff.1 ho).2.2.1
  show m_expr_walk_s_b (m_expr_walk_s_r f) e _ _ = _
  unfold m_expr_walk_s_b
  have h0 : (fun (k_0 : GExpr) (q : Nat × Int) => if q.1 = 0 then m_expr_Validate_b1 k_0 q.2 else none) e (0, 0) = some (if nodeErr e = 0 then (true, (0, 0)) else (false, (1, nodeErr e))) := by
   show (if (0 : Nat) = 0 then m_expr_Validate_b1 e 0 else none) = _
   rw [if_pos rfl]
   unfold m_expr_Validate_b1
   rw [expr_validNode hl hv, Option.bind_some]
   by_cases h : nodeErr e = 0 <;> simp [h]
  rw [h0, Option.bind_some, eErr_eq]
  by_cases h : nodeErr e = 0
  rotate_left
  ·simp [h]
  simp only [h, if_true, Bool.not_true, Bool.false_eq_true, if_false]
  rw [first_loop (m := fun f' i => m_expr_walk_s_l1 e (m_expr_walk_s_r f) _ f' i ((0, 0) : Nat × Int)) (l := e.Args) (g := eErr) (k := some (true, (0, 0))) (r := fun v => some (false, (1, v))) hl.2.1 ?_ ?_]
  ·by_cases h : fstI eErr e.Args = 0
   ·rw [if_pos h, if_pos h]
   ·rw [if_neg h, if_neg h]
  ·intro f' i x hx
   have hi := (List.getElem?_eq_some_iff.1 hx).1
   have hm := List.mem_of_getElem? hx
   have := hl.2.1
   have := wE_arg hm
   simp only [m_expr_walk_s_l1]
   rw [if_pos (lt_dec hi), lat_at hx, Option.bind_some, ih (ho.out.2.2.1 x hm) (by omega), Option.bind_some, wis (by omega)]
   by_cases h : eErr x = 0
   ·simp [h]
   ·simp [h]
  ·intro f'
   simp only [m_expr_walk_s_l1]
   rw [if_neg (by simp)]
theorem expr_sizeWalk {f : Nat} : ∀ {e : GExpr} {n : Nat}, okGExpr e → wE e < f → n + nE e ≤ 2000 → m_expr_walk_s_r f e (fun k_0 q => if q.1 = 0 then m_expr_Size_b1 k_0 q.2 else none) ((0, (n : Int)) : Nat × Int) = some (true, (0, ((n + nE e : Nat) : Int))) := by
 induction f with
 | zero => intro e n _ h; omega
 | succ f ih =>
  intro e n ho hw hn
  have hl := ho.len
  show m_expr_walk_s_b (m_expr_walk_s_r f) e _ _ = _
  unfold m_expr_walk_s_b
  rw [nE_eq] at hn ⊢
  have h0 : (fun (k_0 : GExpr) (q : Nat × Int) => if q.1 = 0 then m_expr_Size_b1 k_0 q.2 else none) e (0, (n : Int)) = some (true, (0, ((n + 1 : Nat) : Int))) := by
   show (if (0 : Nat) = 0 then m_expr_Size_b1 e (n : Int) else none) = _
   rw [if_pos rfl]
   unfold m_expr_Size_b1
   rw [wis (by omega), if_neg (by simp; omega)]
  rw [h0, Option.bind_some]
  simp only [Bool.not_true, Bool.false_eq_true, if_false]
  refine loop_eq (L := fun f' s i => m_expr_walk_s_l1 e (m_expr_walk_s_r f) (fun k_0 q => if q.1 = 0 then m_expr_Size_b1 k_0 q.2 else none) f' i s) (n := e.Args.length) hl.2.1 (fun i s => s = ((0, ((n + 1 + ((e.Args.map nE).take i).sum : Nat) : Int)) : Nat × Int)) ?_ ?_ ((0, ((n + 1 : Nat) : Int)) : Nat × Int) (by simp only [List.take_zero, List.sum_nil, Nat.add_zero])
  ·rintro f' i s hi rfl
   obtain ⟨x, hx⟩ := at_some hi
   have hm := List.mem_of_getElem? hx
   have hx2 : (e.Args.map nE)[i]? = some (nE x) := by rw [List.getElem?_map, hx]; rfl
   have h1 := take_sum hx2
   have h2 := take_le (e.Args.map nE) (i + 1)
   have := wE_arg hm
   left
   refine ⟨_, rfl, ?_⟩
   simp only [m_expr_walk_s_l1]
   rw [if_pos (lt_dec hi), lat_at hx, Option.bind_some, ih (ho.out.2.2.1 x hm) (by omega) (by omega), Option.bind_some, wis (by omega)]
   simp only [Bool.not_true, Bool.false_eq_true, if_false]
   rw [h1, Nat.add_assoc (n + 1)]
  ·rintro f' s rfl
   simp only [m_expr_walk_s_l1]
   rw [if_neg (by simp), show e.Args.length = (e.Args.map nE).length by rw [List.length_map], List.take_length, ← Nat.add_assoc]
theorem expr_Size {e : GExpr} (ho : okGExpr e) (hw : wE e ≤ 300) : m_expr_Size e = some (nE e : Int) := by
 have := nE_wE e
 unfold m_expr_Size m_expr_Walk m_expr_Walk_1_s m_expr_walk_s
 rw [Option.bind_some]
 have h := expr_sizeWalk (f := fu) (n := 0) ho (by unfold fu; omega) (by omega)
 rw [show ((0 : Nat) : Int) = 0 from rfl] at h
 rw [h]
 simp
theorem ref14_size_r {f : Nat} : ∀ {e : GExpr} {most : Nat}, okGExpr e → wE e < f → nE e ≤ most → most ≤ 2000 → m_ref14_size_r f e (most : Int) = some (nE e : Int) := by
 induction f with
 | zero => intro e n _ h; omega
 | succ f ih =>
  intro e most ho hw hn hm
  have hl := ho.len
  show m_ref14_size_b (m_ref14_size_r f) e (most : Int) = _
  unfold m_ref14_size_b
  rw [nE_eq] at hn ⊢
  refine loop_eq (L := fun f' s i => m_ref14_size_l1 e (most : Int) (m_ref14_size_r f) f' s i) (n := e.Args.length) hl.2.1 (fun i s => s = ((1 + ((e.Args.map nE).take i).sum : Nat) : Int)) ?_ ?_ _ (by simp)
  ·rintro f' i s hi rfl
   obtain ⟨x, hx⟩ := at_some hi
   have hm := List.mem_of_getElem? hx
   have hx2 : (e.Args.map nE)[i]? = some (nE x) := by rw [List.getElem?_map, hx]; rfl
   have h1 := take_sum hx2
   have h2 := take_le (e.Args.map nE) (i + 1)
   have := wE_arg hm
   left
   refine ⟨_, rfl, ?_⟩
   simp only [m_ref14_size_l1]
   rw [lt_dec hi, decide_eq_true (by omega), Bool.and_self, if_pos rfl, lat_at hx, Option.bind_some, wi_ (by omega), show (most : Int) - ((1 + ((e.Args.map nE).take i).sum : Nat) : Int) = ((most - (1 + ((e.Args.map nE).take i).sum) : Nat) : Int) by omega, ih (ho.out.2.2.1 x hm) (by omega) (by omega) (by omega), Option.bind_some, wis (by omega), wia (by omega), h1, Nat.add_assoc]
  ·rintro f' s rfl
   simp only [m_ref14_size_l1]
   rw [if_neg (by simp), show e.Args.length = (e.Args.map nE).length by rw [List.length_map], List.take_length]
theorem ref14_Size {e : GExpr} (ho : okGExpr e) (hw : wE e ≤ 300) : m_ref14_Size e = some (nE e : Int) := by
 have := nE_wE e
 unfold m_ref14_Size m_ref14_size
 rw [show (2000 : Int) = ((2000 : Nat) : Int) from rfl, ref14_size_r ho (by unfold fu; omega) (by omega) (by omega), Option.bind_some]
 refine congrArg some ?_
 omega
theorem maxL_app (a b : List Nat) : maxL (a ++ b) = max (maxL a) (maxL b) := by
 induction a with
 | nil => simp [maxL]
 | cons x a ih => rw [List.cons_append, maxL, maxL, ih]; omega
theorem dE_pos (e : GExpr) : 1 ≤ dE e := by rw [dE_eq]; omega
theorem expr_depth_r {f : Nat} : ∀ {e : GExpr} {lim : Nat}, okGExpr e → lim < f → 1 ≤ lim → lim ≤ 41 → m_expr_depth_r f e (lim : Int) = some ((min (dE e) lim : Nat) : Int) ∧ m_ref14_depth_r f e (lim : Int) = some ((min (dE e) lim : Nat) : Int) := by
 induction f with
 | zero => intro e n _ h; omega
 | succ f ih =>
  intro e lim ho hw h1 hm
  have hl := ho.len
  have hp := dE_pos e
  show m_expr_depth_b (m_expr_depth_r f) e (lim : Int) = _ ∧ m_ref14_depth_b (m_ref14_depth_r f) e (lim : Int) = _
  unfold m_expr_depth_b m_ref14_depth_b
  have step : ∀ (i : Nat) x, e.Args[i]? = some x → 1 < lim → max ((1 + min (maxL ((e.Args.map dE).take i)) (lim - 1) : Nat) : Int) (wi64 (1 + ((min (dE x) (lim - 1) : Nat) : Int))) = ((1 + min (maxL ((e.Args.map dE).take (i + 1))) (lim - 1) : Nat) : Int) := fun i x hx h2 => by
   rw [wi_ (by omega), take_succ' (x := dE x) (by rw [List.getElem?_map, hx]; rfl), maxL_app]
   simp only [maxL]
   omega
  have last : 1 < lim → ((1 + min (maxL ((e.Args.map dE).take e.Args.length)) (lim - 1) : Nat) : Int) = ((min (dE e) lim : Nat) : Int) := fun h2 => by
   rw [dE_eq, show e.Args.length = (e.Args.map dE).length by rw [List.length_map], List.take_length]; omega
  by_cases hlim : 1 < lim
  ·constructor
   ·rw [if_neg (by simp; omega)]
    refine loop_eq (L := fun f' s i => m_expr_depth_l1 e (m_expr_depth_r f) (lim : Int) f' s i) (n := e.Args.length) hl.2.1 (fun i s => s = ((1 + min (maxL ((e.Args.map dE).take i)) (lim - 1) : Nat) : Int)) ?_ ?_ _ (by simp [maxL])
    ·rintro f' i s hi rfl
     obtain ⟨x, hx⟩ := at_some hi
     have hm := List.mem_of_getElem? hx
     left
     refine ⟨_, rfl, ?_⟩
     simp only [m_expr_depth_l1]
     rw [if_pos (lt_dec hi), lat_at hx, Option.bind_some, wi_ (by omega), show (lim : Int) - 1 = ((lim - 1 : Nat) : Int) by omega, (ih (ho.out.2.2.1 x hm) (by omega) (by omega) (by omega)).1, Option.bind_some, wis (by omega), step i x hx hlim]
    ·rintro f' s rfl
     simp only [m_expr_depth_l1]
     rw [if_neg (by simp), last hlim]
   ·refine loop_eq (L := fun f' s i => m_ref14_depth_l1 e (lim : Int) (m_ref14_depth_r f) f' s i) (n := e.Args.length) hl.2.1 (fun i s => s = ((1 + min (maxL ((e.Args.map dE).take i)) (lim - 1) : Nat) : Int)) ?_ ?_ _ (by simp [maxL])
    ·rintro f' i s hi rfl
     obtain ⟨x, hx⟩ := at_some hi
     have hm := List.mem_of_getElem? hx
     left
     refine ⟨_, rfl, ?_⟩
     simp only [m_ref14_depth_l1]
     rw [lt_dec hi, decide_eq_true (show (1 : Int) < (lim : Int) by omega), Bool.and_self, if_pos rfl, lat_at hx, Option.bind_some, wi_ (by omega), show (lim : Int) - 1 = ((lim - 1 : Nat) : Int) by omega, (ih (ho.out.2.2.1 x hm) (by omega) (by omega) (by omega)).2, Option.bind_some, wis (by omega), step i x hx hlim]
    ·rintro f' s rfl
     simp only [m_ref14_depth_l1]
     rw [if_neg (by simp), last hlim]
  ·have e1 : lim = 1 := by omega
   subst e1
   constructor
   ·rw [if_pos (by simp)]; refine congrArg some ?_; omega
   ·obtain ⟨g, hg⟩ : ∃ g, fu = g + 1 := ⟨fu - 1, by unfold fu; omega⟩
    rw [hg]
    simp only [m_ref14_depth_l1]
    rw [if_neg (by simp)]; refine congrArg some ?_; omega
def vE (e : GExpr) : Int := if 40 < dE e then 13 else eErr e
theorem validate_ok {e : GExpr} (ho : okGExpr e) (hw : wE e ≤ 300) : m_expr_Validate e = some (vE e) ∧ m_ref14_Validate e = some (vE e) := by
 have hn := nE_wE e
 obtain ⟨d1, d2⟩ := expr_depth_r (f := fu) (lim := 41) ho (by unfold fu; omega) (by omega) (by omega)
 unfold m_expr_Validate m_ref14_Validate m_expr_Depth m_ref14_Depth m_expr_depth m_ref14_depth vE
 rw [show (41 : Int) = ((41 : Nat) : Int) from rfl, d1, d2, expr_Size ho hw, ref14_Size ho hw]
 simp only [Option.bind_some]
 by_cases hd : 40 < dE e
 ·rw [if_pos hd, if_pos (by simp; omega), if_pos (by simp; omega)]; exact ⟨rfl, rfl⟩
 ·rw [if_neg hd, if_neg (by simp; omega), if_neg (by simp; omega), if_neg (by simp; omega), if_neg (by simp; omega)]
  unfold m_ref14_part
  rw [ref14_part ho (by unfold fu; omega)]
  refine ⟨?_, rfl⟩
  unfold m_expr_Walk m_expr_Walk_1_s m_expr_walk_s
  rw [Option.bind_some, expr_walk ho (by unfold fu; omega)]
  by_cases h : eErr e = 0
  ·simp [h]
  ·simp [h]
end Go.Proofs.YtebpdmfmknfkjaaGreatDoor
