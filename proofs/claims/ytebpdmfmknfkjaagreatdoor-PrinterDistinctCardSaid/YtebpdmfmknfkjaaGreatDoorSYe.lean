import Derived.Test.YtebpdmfmknfkjaaGreatDoorSYd
namespace Go.Proofs.YtebpdmfmknfkjaaGreatDoor
open Go Go.RowKit Go.Vc
set_option linter.unusedVariables false
set_option linter.unusedSimpArgs false
def joinT : List (List UInt8) → List UInt8
 | [] => []
 | [a] => a
 | a :: b :: r => a ++ ([44, 32] ++ joinT (b :: r))
theorem joinT_snoc : ∀ (ts : List (List UInt8)) (t : List UInt8), joinT (ts ++ [t]) = if ts = [] then t else joinT ts ++ ([44, 32] ++ t)
 | [], t => rfl
 | [a], t => rfl
 | a :: b :: r, t => by
  have := joinT_snoc (b :: r) t
  rw [if_neg (by simp)] at this ⊢
  simp only [List.cons_append] at this ⊢
  rw [joinT, this]; simp [joinT]
def lenJ (ts : List (List UInt8)) : Nat := (ts.map fun t => t.length + 2).sum
theorem joinT_len : ∀ (ts : List (List UInt8)), (joinT ts).length ≤ lenJ ts
 | [] => by simp [joinT, lenJ]
 | [a] => by simp [joinT, lenJ]
 | a :: b :: r => by
  have := joinT_len (b :: r)
  rw [joinT]
  simp only [lenJ, List.map_cons, List.sum_cons, List.length_append, List.length_cons, List.length_nil] at *
  omega
theorem lenJ_take (ts : List (List UInt8)) (i : Nat) : lenJ (ts.take i) ≤ lenJ ts := by
 unfold lenJ; rw [List.map_take]; exact take_le _ _
theorem lenJ_at {ts : List (List UInt8)} {i : Nat} {t : List UInt8} (h : ts[i]? = some t) : lenJ (ts.take i) + t.length + 2 ≤ lenJ ts := by
 have h1 := lenJ_take ts (i + 1)
 rw [take_succ' h] at h1
 unfold lenJ at *
 rw [List.map_append, List.sum_append] at h1
 simpa [Nat.add_assoc] using h1
theorem lenJ_le {ts : List (List UInt8)} {c : Nat} (h : ∀ t ∈ ts, t.length ≤ c) : lenJ ts ≤ ts.length * (c + 2) := by
 induction ts with
 | nil => simp [lenJ]
 | cons a ts ih =>
  have h1 := ih fun t ht => h t (by simp [ht])
  have h2 := h a (by simp)
  unfold lenJ at *
  rw [List.map_cons, List.sum_cons, List.length_cons, Nat.add_mul]; omega
theorem take_ne {α : Type} {l : List α} {i : Nat} (h : i + 1 < l.length) : ¬ l.take (i + 1) = [] := fun h0 => by
 rcases List.take_eq_nil_iff.1 h0 with h0 | h0
 ·omega
 ·rw [h0] at h; simp at h
theorem list_ok {item : Int → Option (List UInt8)} (ts : List (List UInt8)) (hn : ts.length < 4611686018427387904) (hi : ∀ (i : Nat) t, ts[i]? = some t → item (i : Int) = some t) (hl : lenJ ts ≤ 4294967296) : m_printer_list (ts.length : Int) item = some (joinT ts) := by
 unfold m_printer_list
 refine loop_eq (L := fun f s i => m_printer_list_l1 (ts.length : Int) item f i s) (n := ts.length) hn (fun i s => s = joinT (ts.take i)) ?_ ?_ [] rfl
 ·rintro f i s h rfl
  obtain ⟨t, ht⟩ := at_some h
  have h1 := joinT_len (ts.take i)
  have h2 := lenJ_at ht
  left
  refine ⟨_, rfl, ?_⟩
  rw [take_succ' ht, joinT_snoc]
  simp only [m_printer_list_l1]
  rw [if_pos (lt_dec h)]
  cases i with
  | zero =>
   rw [if_neg (by simp), if_pos (by simp)]
   unfold m_printer_list_j1
   rw [hi 0 t ht, Option.bind_some]
   simp only [List.take_zero, joinT]
   rw [lapp_nil (by omega), Option.bind_some]; rfl
  | succ i =>
   rw [if_pos (by simp), if_neg (take_ne h), lapp_ok (by simp only [List.length_cons, List.length_nil]; omega), Option.bind_some]
   unfold m_printer_list_j1
   rw [hi (i + 1) t ht, Option.bind_some, lapp_ok (by simp only [List.length_append, List.length_cons, List.length_nil]; omega), Option.bind_some, wis (by omega), List.append_assoc]
 ·rintro f s rfl
  simp only [m_printer_list_l1]
  rw [if_neg (by simp), List.take_length]
abbrev okR (l : GLin) : Prop := (∀ m ∈ l.L, R64 m.By) ∧ R64 l.K
theorem okGLin.r {l : GLin} (h : okGLin l) : okR l := ⟨fun m hm => okI_R (h.2.1 m hm).2, okI_R h.1⟩
theorem linT_len {l : GLin} (h : okR l) : (linT l).length ≤ 40 * l.L.length + 24 := by
 unfold linT
 by_cases ho : okLin l
 ·rw [if_pos ho]; exact linS_len ho h.1 h.2
 ·rw [if_neg ho]; simp
theorem forms_valid {l : List GLin} (hn : l.length < 4611686018427387904) (h : ∀ f ∈ l, f.L.length < 4611686018427387904) : m_printer_forms_valid l = some (decide (∀ f ∈ l, okLin f)) ∧ m_ref15_valid l = some (decide (∀ f ∈ l, okLin f)) := by
 have bad : ∀ {i : Nat} {x : GLin}, l[i]? = some x → ¬ okLin x → decide (∀ f ∈ l, okLin f) = false := fun hx ho => decide_eq_false fun h => ho (h _ (List.mem_of_getElem? hx))
 have good : (∀ f ∈ l.take l.length, okLin f) → decide (∀ f ∈ l, okLin f) = true := fun h => decide_eq_true (by rwa [List.take_length] at h)
 have nxt : ∀ {i : Nat} {x : GLin}, l[i]? = some x → okLin x → (∀ f ∈ l.take i, okLin f) → ∀ f ∈ l.take (i + 1), okLin f := fun hx ho h f hf => by
  rw [take_succ' hx, List.mem_append, List.mem_singleton] at hf
  rcases hf with hf | rfl
  ·exact h f hf
  ·exact ho
 constructor
 ·refine loop_eq (L := fun f (_ : Unit) i => m_printer_forms_valid_l1 l f i) (n := l.length) hn (fun i _ => ∀ f ∈ l.take i, okLin f) ?_ ?_ () (by simp)
  ·intro f i _ hi hI
   obtain ⟨x, hx⟩ := at_some hi
   simp only [m_printer_forms_valid_l1]
   rw [if_pos (lt_dec hi), lat_at hx, Option.bind_some, (lin_Val (h x (List.mem_of_getElem? hx))).1, Option.bind_some]
   by_cases ho : okLin x
   ·left; exact ⟨(), nxt hx ho hI, by rw [if_pos ho, if_neg (by decide), wis (by omega)]⟩
   ·right; rw [if_neg ho, if_pos (by decide), bad hx ho]
  ·intro f _ hI
   simp only [m_printer_forms_valid_l1]
   rw [if_neg (by simp), good hI]
 ·refine loop_eq (L := fun f (_ : Unit) i => m_ref15_valid_l1 l f i) (n := l.length) hn (fun i _ => ∀ f ∈ l.take i, okLin f) ?_ ?_ () (by simp)
  ·intro f i _ hi hI
   obtain ⟨x, hx⟩ := at_some hi
   simp only [m_ref15_valid_l1]
   rw [if_pos (lt_dec hi), lat_at hx, Option.bind_some, (lin_Val (h x (List.mem_of_getElem? hx))).2, Option.bind_some]
   by_cases ho : okLin x
   ·left; exact ⟨(), nxt hx ho hI, by rw [decide_eq_true ho, if_neg (by simp), wis (by omega)]⟩
   ·right; rw [decide_eq_false ho, if_pos (by simp), bad hx ho]
  ·intro f _ hI
   simp only [m_ref15_valid_l1]
   rw [if_neg (by simp), good hI]
theorem forms_list {l : List GLin} (hn : l.length < 4611686018427387904) (h : ∀ f ∈ l, okR f ∧ f.L.length < 90000000) (hl : lenJ (l.map linT) ≤ 4294967296) : m_printer_list (l.length : Int) (m_printer_forms_item l) = some (joinT (l.map linT)) ∧ m_ref15_forms l = some (joinT (l.map linT)) := by
 constructor
 ·rw [show (l.length : Int) = ((l.map linT).length : Int) by rw [List.length_map]]
  refine list_ok (l.map linT) (by rw [List.length_map]; exact hn) (fun i t ht => ?_) hl
  obtain ⟨x, hx, rfl⟩ := map_at ht
  obtain ⟨⟨h1, h2⟩, h3⟩ := h x (List.mem_of_getElem? hx)
  unfold m_printer_forms_item
  rw [lat_at hx, Option.bind_some, lin_Format h1 h2 h3]; rfl
 ·unfold m_ref15_forms
  refine loop_eq (L := fun f s i => m_ref15_forms_l1 l f s i) (n := l.length) hn (fun i s => s = joinT ((l.map linT).take i)) ?_ ?_ [] rfl
  ·rintro f i s hi rfl
   obtain ⟨x, hx⟩ := at_some hi
   have ht : (l.map linT)[i]? = some (linT x) := by rw [List.getElem?_map, hx]; rfl
   obtain ⟨⟨h1, h2⟩, h3⟩ := h x (List.mem_of_getElem? hx)
   have h4 := joinT_len ((l.map linT).take i)
   have h5 := lenJ_at ht
   left
   refine ⟨_, rfl, ?_⟩
   rw [take_succ' ht, joinT_snoc]
   simp only [m_ref15_forms_l1]
   rw [if_pos (lt_dec hi)]
   cases i with
   | zero =>
    rw [if_neg (by simp), if_pos (by simp)]
    unfold m_ref15_forms_j1
    rw [show lat l ((0 : Nat) : Int) = some x from lat_at hx, Option.bind_some, ref05_Format h1 h2 h3, Option.bind_some]
    simp only [List.take_zero, joinT]
    rw [lapp_nil (by omega), Option.bind_some]; rfl
   | succ i =>
    rw [if_pos (by simp), if_neg (take_ne (by rw [List.length_map]; exact hi)), lapp_ok (by simp only [List.length_cons, List.length_nil]; omega), Option.bind_some]
    unfold m_ref15_forms_j1
    rw [lat_at hx, Option.bind_some, ref05_Format h1 h2 h3, Option.bind_some, lapp_ok (by simp only [List.length_append, List.length_cons, List.length_nil]; omega), Option.bind_some, wis (by omega), List.append_assoc]
  ·rintro f s rfl
   simp only [m_ref15_forms_l1]
   rw [if_neg (by simp), show l.length = (l.map linT).length by rw [List.length_map], List.take_length]
def ixT (x : GIndex) : List UInt8 :=
 if okLin x.Lin ∧ ∀ f ∈ x.At, okLin f then
  if x.From = [] then (if x.At = [] then linS x.Lin else [])
  else if nameB x.From = true ∧ x.Lin.K = 0 ∧ x.Lin.L = [] then x.From ++ ([91] ++ (joinT (x.At.map linT) ++ [93])) else []
 else []
def smI (x : GIndex) : Prop := okGIndex x ∧ wI x ≤ 300
theorem smI.lens {x : GIndex} (h : smI x) : x.Lin.L.length ≤ 300 ∧ x.At.length ≤ 300 ∧ (∀ f ∈ x.At, f.L.length ≤ 300) ∧ lenJ (x.At.map linT) ≤ 3700000 := by
 obtain ⟨⟨_, _, ho⟩, h⟩ := h
 unfold wI at h
 have h3 : ∀ f ∈ x.At, f.L.length ≤ 300 := fun f hf => by
  have := mem_le_sum (List.mem_map_of_mem (f := fun f : GLin => f.L.length) hf); omega
 refine ⟨by omega, by omega, h3, ?_⟩
 have := lenJ_le (ts := x.At.map linT) (c := 12024) (fun t ht => by
  obtain ⟨f, hf, rfl⟩ := List.mem_map.1 ht
  have := linT_len (ho.1 f hf).r
  have := h3 f hf
  omega)
 rw [List.length_map] at this
 have h4 : x.At.length * (12024 + 2) ≤ 300 * (12024 + 2) := Nat.mul_le_mul_right _ (by omega)
 omega
theorem isName_all (s : List UInt8) : m_lexer_IsName s = some (nameB s) := by
 by_cases h : s.length ≤ 16
 ·exact isName_ok s (by omega)
 ·unfold m_lexer_IsName nameB
  have e : decide ((s.length : Int) ≤ 16) = false := by rw [decide_eq_false_iff_not]; omega
  rw [e, decide_eq_false h]
  cases s with
  | nil => simp at h
  | cons c t => simp [gd]
theorem printer_Index {x : GIndex} (h : smI x) : m_printer_Index x = some (ixT x) ∧ m_ref15_Index x = some (ixT x) := by
 obtain ⟨l1, l2, l3, l4⟩ := h.lens
 obtain ⟨⟨o1, _, o2⟩, _⟩ := h
 have hv := forms_valid (l := x.At) (by omega) fun f hf => by have := l3 f hf; omega
 have hf := forms_list (l := x.At) (by omega) (fun f hf => ⟨(o2.1 f hf).r, by have := l3 f hf; omega⟩) (by omega)
 have hj := joinT_len (x.At.map linT)
 have hL := lin_Val (l := x.Lin) (by omega)
 have hF := lin_Format o1.r.1 o1.r.2 (by omega)
 have hR := ref05_Format o1.r.1 o1.r.2 (by omega)
 unfold m_printer_Index m_ref15_Index ixT
 rw [hL.1, hL.2]
 by_cases ho : okLin x.Lin
 rotate_left
 ·simp [ho, gd]
 simp only [if_pos ho, decide_eq_true ho, Option.bind_some, decide_true, Bool.not_true, Bool.not_false, gd, if_true, hv.1, hv.2]
 by_cases hA : ∀ f ∈ x.At, okLin f
 rotate_left
 ·simp [hA]
 simp only [decide_eq_true hA, Bool.not_true, Bool.or_self, Bool.false_eq_true, if_false, if_pos (And.intro ho hA)]
 by_cases h0 : x.From = []
 ·by_cases h1 : x.At = []
  ·simp [h0, h1, hF, hR, linT, ho]
  ·have : 0 < (x.At.length : Int) := by have := List.length_pos_iff.2 h1; omega
   simp [h0, h1]
 ·simp only [h0, decide_false, Bool.false_and, Bool.false_eq_true, if_false, isName_all, base_Name_all, Option.bind_some]
  by_cases hc : nameB x.From = true ∧ x.Lin.K = 0 ∧ x.Lin.L = []
  ·obtain ⟨c1, c2, c3⟩ := hc
   have h16 := (nameB_len c1).2
   simp only [c1, c2, c3, and_self, decide_true, Bool.not_true, Bool.or_self, Bool.false_eq_true, if_false, if_true, List.length_nil, Int.natCast_zero, show ¬ ((0 : Int) < 0) by decide, decide_false, hf.1, hf.2]
   rw [lapp_ok (by simp only [List.length_cons, List.length_nil]; omega), Option.bind_some, Option.bind_some, lapp_ok (by simp only [List.length_append, List.length_cons, List.length_nil]; omega), Option.bind_some, lapp_ok (by simp only [List.length_append, List.length_cons, List.length_nil]; omega)]
   simp
  ·rw [if_neg hc]
   have : ((!nameB x.From || !decide (x.Lin.K = 0)) || decide (0 < (x.Lin.L.length : Int))) = true := by
    by_cases c1 : nameB x.From = true
    ·by_cases c2 : x.Lin.K = 0
     ·have c3 : x.Lin.L ≠ [] := fun c3 => hc ⟨c1, c2, c3⟩
      have := List.length_pos_iff.2 c3
      simp; omega
     ·simp [c2]
    ·simp [c1]
   rw [this]; exact ⟨rfl, rfl⟩
end Go.Proofs.YtebpdmfmknfkjaaGreatDoor
