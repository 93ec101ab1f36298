import Derived.Test.YtebpdmfmknfkjaaGreatDoorSYg
namespace Go.Proofs.YtebpdmfmknfkjaaGreatDoor
open Go Go.RowKit Go.Vc
set_option linter.unusedVariables false
set_option linter.unusedSimpArgs false
def lvl (op : Int) : Int :=
  if op = 17 then 1 else if op = 16 then 2 else if op = 18 then 3 else if op = 13 ∨ op = 14 ∨ op = 15 then 4
  else if op = 4 ∨ op = 5 then 5 else if op = 6 ∨ op = 7 then 6 else if op = 8 then 7 else 8
def symT (op : Int) : List UInt8 :=
  if op = 4 then [43] else if op = 5 then [45] else if op = 6 then [42] else if op = 7 then [47] else if op = 13 then [60] else if op = 14 then [60, 61] else if op = 15 then [61, 61] else if op = 16 then [38] else if op = 17 then [124] else []
theorem prec_ok (op : Int) : m_printer_precedence op = some (lvl op) ∧ m_ref15_Level op = some (lvl op) := by
  have h : m_printer_precedence op = some (lvl op) := by
    unfold m_printer_precedence m_printer_precedence_j1 m_printer_precedence_j2 m_printer_precedence_j3 lvl
    by_cases h17 : op = 17
    · simp [h17]
    by_cases h16 : op = 16
    · simp [h16]
    by_cases h18 : op = 18
    · simp [h18]
    by_cases h13 : op = 13
    · simp [h13]
    by_cases h14 : op = 14
    · simp [h14]
    by_cases h15 : op = 15
    · simp [h15]
    by_cases h4 : op = 4
    · simp [h4]
    by_cases h5 : op = 5
    · simp [h5]
    by_cases h6 : op = 6
    · simp [h6]
    by_cases h7 : op = 7
    · simp [h7]
    by_cases h8 : op = 8
    · simp [h8]
    simp [h17, h16, h18, h13, h14, h15, h4, h5, h6, h7, h8]
  exact ⟨h, h⟩
theorem symbol_ok (op : Int) : m_printer_symbol op = some (symT op) := by
  unfold m_printer_symbol symT
  simp only [decide_eq_true_eq]
  repeat' split
  all_goals rfl
theorem sign_ok (op : Int) : m_ref15_sign op = some (if symT op = [] then [] else [32] ++ (symT op ++ [32])) := by
  unfold m_ref15_sign symT
  by_cases h4 : op = 4
  · simp [h4]
  by_cases h5 : op = 5
  · simp [h5]
  by_cases h6 : op = 6
  · simp [h6]
  by_cases h7 : op = 7
  · simp [h7]
  by_cases h13 : op = 13
  · simp [h13]
  by_cases h14 : op = 14
  · simp [h14]
  by_cases h15 : op = 15
  · simp [h15]
  by_cases h16 : op = 16
  · simp [h16]
  by_cases h17 : op = 17
  · simp [h17]
  simp [h4, h5, h6, h7, h13, h14, h15, h16, h17]
theorem symT_len (op : Int) : (symT op).length ≤ 2 := by unfold symT; repeat' split
                                                         all_goals simp
def valT (t : GType) (v : GVal) : List UInt8 := (m_value_Format t v).getD []
theorem valT_ok (t : GType) {v : GVal} (hv : VaR v) : m_value_Format t v = some (valT t v) ∧ m_ref04_Format t v = some (valT t v) ∧ (valT t v).length ≤ 30 := by
  obtain ⟨x, h1, h2, h3⟩ := value_Format (t := t) hv
  have e : valT t v = if tyB t && okV t v then fmtS x else [] := by unfold valT; rw [h2]; rfl
  refine ⟨by rw [e]; exact h2, by rw [e]; exact h3, ?_⟩
  rw [e]
  split
  · rename_i hc
    simp only [Bool.and_eq_true] at hc
    obtain ⟨_, hx⟩ := h1 hc.1 hc.2
    obtain ⟨a1, a2, a3, a4, a5⟩ := frOK_bd hx
    have l1 := itoa_len (n := x.N) ⟨by omega, by omega⟩
    have l2 := itoa_len (n := x.D) ⟨by omega, by omega⟩
    unfold fmtS
    rw [if_pos hx]
    split
    · omega
    · simp only [List.length_append, List.length_cons]; omega
  · simp
def opd (a : GExpr) (t : List UInt8) (least : Int) : List UInt8 := if lvl a.Op < least then [40] ++ (t ++ [41]) else t
def exB (e : GExpr) (ts : List (List UInt8)) : List UInt8 :=
  if e.Op = 1 then tyT e.Type_ ++ ([40] ++ (valT e.Type_ e.Val ++ [41]))
  else if e.Op = 2 then [91] ++ (linT e.Lin ++ [93])
  else if e.Op = 3 then e.Name ++ ([91] ++ (joinT (e.Idx.map ixT) ++ [93]))
  else if e.Op = 8 then [45] ++ opd (e.Args.getD 0 default) (ts.getD 0 []) 7
  else if e.Op = 18 then [33] ++ opd (e.Args.getD 0 default) (ts.getD 0 []) 3
  else if e.Op = 9 then [109, 105, 110] ++ ([40] ++ (joinT ts ++ [41]))
  else if e.Op = 10 then [109, 97, 120] ++ ([40] ++ (joinT ts ++ [41]))
  else if e.Op = 11 then [105, 102] ++ ([40] ++ (joinT ts ++ [41]))
  else if e.Op = 12 then [99, 97, 115, 116] ++ ([40] ++ (joinT (tyT e.Type_ :: ts) ++ [41]))
  else opd (e.Args.getD 0 default) (ts.getD 0 []) (lvl e.Op) ++ (([32] ++ (symT e.Op ++ [32])) ++ opd (e.Args.getD 1 default) (ts.getD 1 []) (lvl e.Op + 1))
def exT : GExpr → List UInt8
  | ⟨op, nm, v, t, l, ix, args⟩ => exB ⟨op, nm, v, t, l, ix, args⟩ (go args)
  where go : List GExpr → List (List UInt8)
    | [] => []
    | x :: xs => exT x :: go xs
theorem exT_go : ∀ (l : List GExpr), exT.go l = l.map exT
  | [] => rfl
  | x :: l => by rw [exT.go, exT_go l, List.map_cons]
theorem exT_eq (e : GExpr) : exT e = exB e (e.Args.map exT) := by cases e; rw [exT, exT_go]
theorem opd_len (a : GExpr) (t : List UInt8) (least : Int) : (opd a t least).length ≤ t.length + 2 := by unfold opd; split <;> simp
theorem sum_map_le {α : Type} {f g : α → Nat} {l : List α} (h : ∀ x ∈ l, f x ≤ g x) : (l.map f).sum ≤ (l.map g).sum := by
  induction l with
  | nil => simp
  | cons x l ih =>
    rw [List.map_cons, List.map_cons, List.sum_cons, List.sum_cons]
    have := h x (by simp)
    have := ih fun y hy => h y (by simp [hy])
    omega
theorem sum_lin {α : Type} (f : α → Nat) (c d : Nat) (l : List α) : (l.map fun x => c * f x + d).sum = c * (l.map f).sum + d * l.length := by
  induction l with
  | nil => simp
  | cons x l ih => simp only [List.map_cons, List.sum_cons, List.length_cons, ih, Nat.mul_add, Nat.mul_one]; omega
theorem ixT_len2 {x : GIndex} (ho : okGIndex x) : (ixT x).length ≤ 60 * wI x + 60 := by
  obtain ⟨o1, _, o2⟩ := ho
  have hj := joinT_len (x.At.map linT)
  have hs : lenJ (x.At.map linT) ≤ 40 * (x.At.map (·.L.length)).sum + 26 * x.At.length := by
    unfold lenJ
    rw [List.map_map, ← sum_lin]
    exact sum_map_le fun f hf => by have := linT_len (o2.1 f hf).r; simp only [Function.comp]; omega
  unfold wI ixT
  split
  · rename_i hk
    split
    · split
      · have := linS_len hk.1 o1.r.1 o1.r.2; omega
      · simp
    · split
      · rename_i hc
        have := (nameB_len hc.1).2
        simp only [List.length_append, List.length_cons, List.length_nil]; omega
      · simp
  · simp
theorem nodeErr_zero {e : GExpr} (h : nodeErr e = 0) : plainN e = true ∧ namedN e = true ∧ rankN e = true ∧ typeN e = true ∧ formN e = true := by
  unfold nodeErr at h
  repeat' split at h
  all_goals simp_all
theorem eErr_zero {e : GExpr} (h : eErr e = 0) : nodeErr e = 0 ∧ ∀ a ∈ e.Args, eErr a = 0 := by
  rw [eErr_eq] at h
  by_cases hn : nodeErr e = 0
  · rw [if_pos hn] at h; exact ⟨hn, fstI_zero.1 h⟩
  · rw [if_neg hn] at h; exact absurd h hn
theorem lenJ_args {l : List GExpr} (h : ∀ a ∈ l, (exT a).length ≤ 100 * wE a) : lenJ (l.map exT) ≤ 100 * (l.map wE).sum + 2 * l.length := by
  unfold lenJ
  rw [List.map_map, ← sum_lin]
  exact sum_map_le fun a ha => by have := h a ha; simp only [Function.comp]; omega
theorem getD_map (l : List GExpr) (i : Nat) (h : i < l.length) : (l.map exT).getD i [] = exT (l.getD i default) ∧ l.getD i default ∈ l := by
  rw [List.getD_eq_getElem?_getD, List.getD_eq_getElem?_getD, List.getElem?_map, List.getElem?_eq_getElem h]
  exact ⟨rfl, List.getElem_mem h⟩
theorem len2 {α : Type} : ∀ {l : List α}, l.length = 2 → ∃ a b, l = [a, b]
  | [a, b], _ => ⟨a, b, rfl⟩
theorem len3 {α : Type} : ∀ {l : List α}, l.length = 3 → ∃ a b c, l = [a, b, c]
  | [a, b, c], _ => ⟨a, b, c, rfl⟩
theorem exT_len : ∀ (k : Nat) (e : GExpr), wE e < k → okGExpr e → eErr e = 0 → (exT e).length ≤ 100 * wE e
  | 0, _, h, _, _ => absurd h (by omega)
  | k + 1, e, hk, ho, he => by
    obtain ⟨hn, ha⟩ := eErr_zero he
    obtain ⟨p1, p2, p3, p4, p5⟩ := nodeErr_zero hn
    obtain ⟨o1, o2, o3⟩ := ho.out
    have hv := (valT_ok e.Type_ (VaR.of (okGExpr_iff.1 ho).2.2.1)).2.2
    have ht := tyT_len e.Type_
    have hl := linT_len o1.r
    have hargs : ∀ a ∈ e.Args, (exT a).length ≤ 100 * wE a := fun a hm => exT_len k a (by have := wE_arg hm; omega) (o3.1 a hm) (ha a hm)
    have hjj := lenJ_args hargs
    have hj := joinT_len (e.Args.map exT)
    have hj2 := joinT_len (tyT e.Type_ :: e.Args.map exT)
    have hj3 : lenJ (tyT e.Type_ :: e.Args.map exT) = (tyT e.Type_).length + 2 + lenJ (e.Args.map exT) := by unfold lenJ; rw [List.map_cons, List.sum_cons]
    have hx := joinT_len (e.Idx.map ixT)
    have hxx : lenJ (e.Idx.map ixT) ≤ 60 * (e.Idx.map wI).sum + 62 * e.Idx.length := by
      unfold lenJ
      rw [List.map_map, ← sum_lin]
      exact sum_map_le fun x hx => by have := ixT_len2 (o2.1 x hx); simp only [Function.comp]; omega
    have hal : e.Args.length ≤ 3 := by
      unfold rankN at p3
      simp only [Bool.and_eq_true, decide_eq_true_eq] at p3
      have := p3.1.1; unfold opsN at this
      split at this
      · omega
      · split at this
        · omega
        · split at this <;> omega
    have hnm : e.Op = 3 → e.Name.length ≤ 16 := fun h3 => by
      unfold namedN at p2
      simp only [h3, decide_true, Bool.not_true, Bool.false_or, Bool.and_eq_true] at p2
      exact (nameB_len p2.1).2
    have hop : ∀ (i : Nat) (c : Int), i < e.Args.length → (opd (e.Args.getD i default) ((e.Args.map exT).getD i []) c).length ≤ 100 * wE (e.Args.getD i default) + 2 := fun i c hi => by
      obtain ⟨q1, q2⟩ := getD_map e.Args i hi
      have := opd_len (e.Args.getD i default) ((e.Args.map exT).getD i []) c
      rw [q1] at this ⊢
      have := hargs _ q2
      omega
    have hsy := symT_len e.Op
    rw [exT_eq, wE_eq]
    have hlen : (e.Args.length : Int) = opsN e.Op := by
      unfold rankN at p3
      simp only [Bool.and_eq_true, decide_eq_true_eq] at p3
      exact p3.1.1
    unfold exB
    by_cases h1 : e.Op = 1
    · rw [if_pos h1]; simp only [List.length_append, List.length_cons, List.length_nil]; omega
    rw [if_neg h1]
    by_cases h2 : e.Op = 2
    · rw [if_pos h2]; simp only [List.length_append, List.length_cons, List.length_nil]; omega
    rw [if_neg h2]
    by_cases h3 : e.Op = 3
    · rw [if_pos h3]; have := hnm h3; simp only [List.length_append, List.length_cons, List.length_nil]; omega
    rw [if_neg h3]
    by_cases h8 : e.Op = 8
    · rw [if_pos h8]
      have hl1 : e.Args.length = 1 := by rw [h8] at hlen; have : opsN 8 = 1 := rfl; omega
      have := hop 0 7 (by omega)
      obtain ⟨a, ha1⟩ := List.length_eq_one_iff.1 hl1
      rw [ha1] at this ⊢
      simp at this ⊢; omega
    rw [if_neg h8]
    by_cases h18 : e.Op = 18
    · rw [if_pos h18]
      have hl1 : e.Args.length = 1 := by rw [h18] at hlen; have : opsN 18 = 1 := rfl; omega
      have := hop 0 3 (by omega)
      obtain ⟨a, ha1⟩ := List.length_eq_one_iff.1 hl1
      rw [ha1] at this ⊢
      simp at this ⊢; omega
    rw [if_neg h18]
    by_cases h9 : e.Op = 9
    · rw [if_pos h9]; simp only [List.length_append, List.length_cons, List.length_nil]; omega
    rw [if_neg h9]
    by_cases h10 : e.Op = 10
    · rw [if_pos h10]; simp only [List.length_append, List.length_cons, List.length_nil]; omega
    rw [if_neg h10]
    by_cases h11 : e.Op = 11
    · rw [if_pos h11]; simp only [List.length_append, List.length_cons, List.length_nil]; omega
    rw [if_neg h11]
    by_cases h12 : e.Op = 12
    · rw [if_pos h12]; simp only [List.length_append, List.length_cons, List.length_nil]; omega
    rw [if_neg h12]
    have hl2 : e.Args.length = 2 := by
      unfold opsN at hlen
      rw [if_neg (by simp [h1, h2, h3]), if_neg (by simp [h8, h12, h18]), if_neg h11] at hlen; omega
    have q0 := hop 0 (lvl e.Op) (by omega)
    have q1 := hop 1 (lvl e.Op + 1) (by omega)
    obtain ⟨a, b, ha1⟩ := len2 hl2
    rw [ha1] at q0 q1 ⊢
    simp at q0 q1 ⊢; omega
end Go.Proofs.YtebpdmfmknfkjaaGreatDoor
