import Derived.Test.YtebpdmfmknfkjaaGreatDoorSYj
namespace Go.Proofs.YtebpdmfmknfkjaaGreatDoor
open Go Go.RowKit Go.Vc
set_option linter.unusedVariables false
set_option linter.unusedSimpArgs false
theorem names_lenJ {l : List (List UInt8)} : lenJ l ≤ 2 * szL List.length l := by
 unfold lenJ szL
 rw [show (l.map fun t => t.length + 2) = l.map (fun t => 1 * t.length + 2) by simp, sum_lin]; omega
theorem names_valid {l : List (List UInt8)} (hl : szL List.length l ≤ 1048576) : m_printer_names_valid l = some (l.all nameB) := by
 have hn := szL_len List.length l
 unfold m_printer_names_valid
 refine valid_loop (by omega) (fun f i x hx => ?_) fun f => ?_
 ·have hi := lt_of_at hx
  simp only [m_printer_names_valid_l1]
  rw [if_pos (lt_dec hi), lat_at hx, Option.bind_some, isName_all, Option.bind_some, wis (by omega)]
  cases nameB x <;> simp
 ·simp only [m_printer_names_valid_l1]
  rw [if_neg (by simp)]
theorem names_list {l : List (List UInt8)} (hl : szL List.length l ≤ 1048576) : m_printer_list (l.length : Int) (m_printer_names_item l) = some (joinT l) := by
 have hn := szL_len List.length l
 have hj := names_lenJ (l := l)
 refine list_ok l (by omega) (fun i t ht => ?_) (by omega)
 unfold m_printer_names_item
 rw [lat_at ht, Option.bind_some]
theorem ref15_names {l : List (List UInt8)} (hl : szL List.length l ≤ 1048576) : m_ref15_names l = some (if l.all nameB = true then (joinT l, true) else ([], false)) := by
 have hn := szL_len List.length l
 have hj := names_lenJ (l := l)
 have key : m_ref15_names l = some (if l.all nameB = true then (joinT (l.map id), true) else ([], false)) := by
  unfold m_ref15_names
  refine join_loop (by omega) (by rw [List.map_id]; omega) (fun f i s x hx ho hs => ?_) (fun f i s x hx ho => ?_) fun f s => ?_
  ·have hi := lt_of_at hx
   simp only [id] at hs
   simp only [m_ref15_names_l1]
   rw [if_pos (lt_dec hi)]
   unfold m_ref15_names_j1
   simp only [lat_at hx, Option.bind_some, base_Name_all, ho, Bool.not_true, Bool.false_eq_true, if_false, wis (show i < 4611686018427387904 by omega), id]
   cases i with
   | zero =>
    rw [if_neg (by simp), if_pos rfl]
    simp (disch := (first | omega | (simp only [List.length_append, List.length_cons, List.length_nil]; omega))) only [lapp_ok, Option.bind_some, List.append_assoc]
   | succ i =>
    rw [if_pos (by simp), if_neg (by omega)]
    simp (disch := (first | omega | (simp only [List.length_append, List.length_cons, List.length_nil]; omega))) only [lapp_ok, Option.bind_some, List.append_assoc]
  ·have hi := lt_of_at hx
   simp only [m_ref15_names_l1]
   rw [if_pos (lt_dec hi)]
   simp [lat_at hx, base_Name_all, ho]
  ·simp only [m_ref15_names_l1]
   rw [if_neg (by simp)]
 rwa [List.map_id] at key
def rowT (w : List UInt8) (l : List (List UInt8)) : List UInt8 := if l = [] then [] else w ++ ([32] ++ (joinT l ++ [59, 10]))
theorem row_ok {w b : List UInt8} {l : List (List UInt8)} (hl : szL List.length l ≤ 1048576) (hw : w.length ≤ 10) (hb : b.length ≤ 4000000000) : m_printer_row_w b w l = some ((), b ++ rowT w l) := by
 have hj := names_lenJ (l := l)
 have h1 := joinT_len l
 unfold m_printer_row_w rowT
 by_cases h : l = []
 ·rw [if_neg (by simp [h]), if_pos h, List.append_nil]
 ·rw [if_pos (by simpa using List.length_pos_iff.2 h), if_neg h, names_list hl]
  simp (disch := (first | omega | (simp only [List.length_append, List.length_cons, List.length_nil]; omega))) only [lapp_ok, Option.bind_some, List.append_assoc]
theorem rowT_len {w : List UInt8} {l : List (List UInt8)} (hw : w.length ≤ 10) : (rowT w l).length ≤ 13 + 2 * szL List.length l := by
 have hj := names_lenJ (l := l)
 have h1 := joinT_len l
 unfold rowT
 split <;> simp only [List.length_append, List.length_cons, List.length_nil] <;> omega
def conB (c : GConstraint) : Bool := decide (okLin c.Lin)
def conT (c : GConstraint) : List UInt8 := if okLin c.Lin then (if c.Eq = true then [48, 32, 61, 61, 32] ++ linT c.Lin else [48, 32, 60, 61, 32] ++ linT c.Lin) else []
theorem con_ok {c : GConstraint} (h : okGConstraint c) (hl : c.Lin.L.length ≤ 1048576) : m_constraint_Validate c = some (if okLin c.Lin then 0 else 1) ∧ m_ref06_Validate c = some (if okLin c.Lin then 0 else 1) ∧ m_constraint_Format c = some (conT c) ∧ m_ref06_Format c = some (conT c) := by
 obtain ⟨v1, v2⟩ := lin_Val (l := c.Lin) (by omega)
 have hr := h.1.r
 have hL := linT_len hr
 have q1 : m_constraint_Validate c = some (if okLin c.Lin then 0 else 1) := by unfold m_constraint_Validate; rw [v1]; rfl
 have q2 : m_ref06_Validate c = some (if okLin c.Lin then 0 else 1) := by
  unfold m_ref06_Validate; rw [v2, Option.bind_some]
  by_cases ho : okLin c.Lin <;> simp [ho]
 have p1 : (if okLin c.Lin then (0 : Int) else 1) = 0 ↔ okLin c.Lin := by by_cases ho : okLin c.Lin <;> simp [ho]
 refine ⟨q1, q2, ?_, ?_⟩
 ·unfold m_constraint_Format conT
  rw [q1, Option.bind_some]
  by_cases ho : okLin c.Lin
  ·simp only [ho, if_true, decide_true, Bool.not_true, Bool.false_eq_true, if_false, lin_Format hr.1 hr.2 (show c.Lin.L.length < 90000000 by omega), Option.bind_some]
   split <;> simp (disch := (first | omega | (simp only [List.length_append, List.length_cons, List.length_nil]; omega))) only [lapp_ok, Option.bind_some]
  ·simp [ho]
 ·unfold m_ref06_Format conT
  rw [q2, Option.bind_some]
  by_cases ho : okLin c.Lin
  ·simp only [ho, if_true, decide_true, Bool.not_true, Bool.false_eq_true, if_false, ref05_Format hr.1 hr.2 (show c.Lin.L.length < 90000000 by omega), Option.bind_some]
   split <;> simp (disch := (first | omega | (simp only [List.length_append, List.length_cons, List.length_nil]; omega))) only [lapp_ok, Option.bind_some]
  ·simp [ho]
def whT (c : GConstraint) : List UInt8 := [119, 104, 101, 114, 101, 32] ++ (conT c ++ [59, 10])
theorem conT_len {c : GConstraint} (h : okGConstraint c) : (conT c).length ≤ 40 * szGConstraint c + 29 := by
 have hL := linT_len h.1.r
 have h2 := szL_len szGMono c.Lin.L
 have e : szGConstraint c = szL szGMono c.Lin.L := rfl
 unfold conT
 split
 ·split <;> simp only [List.length_append, List.length_cons, List.length_nil] <;> omega
 ·simp
theorem con_sz {l : List GConstraint} {c : GConstraint} (hl : szL szGConstraint l ≤ 1048576) (hc : c ∈ l) : c.Lin.L.length ≤ 1048576 := by
 have h1 := szL_mem (f := szGConstraint) hc
 have h2 := szL_len szGMono c.Lin.L
 have e : szGConstraint c = szL szGMono c.Lin.L := rfl
 omega
def parB (x : GParam) : Bool := nameB x.Name && tyB x.Type_ && decide (∀ f ∈ x.Dims, okLin f)
def parT (x : GParam) : List UInt8 := [105, 110, 32] ++ (x.Name ++ ([58, 32] ++ (tyT x.Type_ ++ ([91] ++ (joinT (x.Dims.map linT) ++ [93, 59, 10])))))
theorem lins_lenJ {l : List GLin} (h : okW okGLin l) : lenJ (l.map linT) ≤ 40 * szL szGLin l := by
 unfold lenJ szL
 rw [List.map_map]
 have h1 : (l.map ((fun t => t.length + 2) ∘ linT)).sum ≤ (l.map fun x => 40 * szGLin x + 26).sum := sum_map_le fun a ha => by
  have := linT_len (h.1 a ha).r
  have h2 := szL_len szGMono a.L
  have e : szGLin a = szL szGMono a.L := rfl
  simp only [Function.comp]; omega
 rw [sum_lin] at h1
 omega
theorem parT_len {x : GParam} (h : okGParam x) : (parT x).length ≤ 40 * szGParam x + 70 := by
 have h1 := lins_lenJ h.2.2
 have h2 := joinT_len (x.Dims.map linT)
 have h3 := tyT_len x.Type_
 have e : szGParam x = x.Name.length + szGType x.Type_ + (szL szGLin) x.Dims := rfl
 unfold parT
 simp only [List.length_append, List.length_cons, List.length_nil]; omega
theorem lin_sz {l : List GLin} {f : GLin} (hl : szL szGLin l ≤ 1048576) (hf : f ∈ l) : f.L.length ≤ 1048576 := by
 have h1 := szL_mem (f := szGLin) hf
 have h2 := szL_len szGMono f.L
 have e : szGLin f = szL szGMono f.L := rfl
 omega
theorem par_sz {x : GParam} (h : szGParam x ≤ 1048576) : szL szGLin x.Dims ≤ 1048576 ∧ x.Name.length ≤ 1048576 := by
 have e : szGParam x = x.Name.length + szGType x.Type_ + (szL szGLin) x.Dims := rfl
 omega
theorem par_dims {x : GParam} (h : okGParam x) (hz : szGParam x ≤ 1048576) : m_printer_forms_valid x.Dims = some (decide (∀ f ∈ x.Dims, okLin f)) ∧ m_ref15_valid x.Dims = some (decide (∀ f ∈ x.Dims, okLin f)) ∧ m_printer_list (x.Dims.length : Int) (m_printer_forms_item x.Dims) = some (joinT (x.Dims.map linT)) ∧ m_ref15_forms x.Dims = some (joinT (x.Dims.map linT)) := by
 obtain ⟨z1, z2⟩ := par_sz hz
 have hn := szL_len szGLin x.Dims
 have hj := lins_lenJ h.2.2
 obtain ⟨a, b⟩ := forms_valid (l := x.Dims) (by omega) fun f hf => by have := lin_sz z1 hf; omega
 obtain ⟨c, d⟩ := forms_list (l := x.Dims) (by omega) (fun f hf => ⟨(h.2.2.1 f hf).r, by have := lin_sz z1 hf; omega⟩) (by omega)
 exact ⟨a, b, c, d⟩
theorem defX_len {d : GDef} (h : smD d) (hv : vE d.Body = 0) : (defX d).length ≤ 40 * szGDef d + 30200 := by
 have hs := defSz d
 have hfl := foldX_len h
 obtain ⟨⟨o1, o2, o3, o4, o5, o6⟩, h300, hz⟩ := h
 have hj3 := axes_lenJ o3
 have hl3 := joinT_len (d.Dims.map axT)
 have hT := tyT_len d.Type_
 have hel := exT_len (wE d.Body + 1) d.Body (by omega) o6 (vE_zero hv)
 unfold defX
 simp only [List.length_append, List.length_cons, List.length_nil]; omega
theorem defT_len {d : GDef} (h : smD d) : (defT d).length ≤ 40 * szGDef d + 30200 := by
 unfold defT
 split
 ·rename_i hb
  unfold defB at hb
  simp only [Bool.and_eq_true, decide_eq_true_eq] at hb
  exact defX_len h hb.2
 ·simp
theorem defT_nil (d : GDef) : decide (defT d = []) = !defB d := by
 unfold defT defX
 cases defB d <;> simp
theorem chk_loop {α R : Type} {L : Nat → Int → Option R} {l : List α} {ok : α → Bool} {k bad : Option R} (hn : l.length < 4611686018427387904)
  (rd : ∀ f (i : Nat) x, l[i]? = some x → L (f + 1) (i : Int) = if ok x = true then L f ((i + 1 : Nat) : Int) else bad)
  (fin : ∀ f, L (f + 1) (l.length : Int) = k) : L fu 0 = if l.all ok = true then k else bad := by
 refine loop_eq (L := fun f (_ : Unit) i => L f i) (n := l.length) hn (fun i _ => (l.take i).all ok = true) ?_ ?_ () (by simp)
 ·intro f i _ hi hI
  obtain ⟨x, hx⟩ := at_some hi
  rw [rd f i x hx]
  by_cases ho : ok x = true
  ·left; refine ⟨(), ?_, by rw [if_pos ho]⟩
   rw [take_succ' hx, List.all_append, hI]; simp [ho]
  ·right; rw [if_neg ho, if_neg]
   intro h; exact ho (List.all_eq_true.1 h x (List.mem_of_getElem? hx))
 ·intro f _ hI
  rw [fin f]; rw [List.take_length] at hI; rw [if_pos hI]
def sm5 (f : GLin) : Bool := decide (f.L.length ≤ 40) && f.L.all fun m => decide (m.Name.length ≤ 40)
theorem ref05_Small (f : GLin) : m_ref05_Small f = some (sm5 f) := by
 unfold m_ref05_Small sm5
 by_cases h : f.L.length ≤ 40
 ·rw [if_neg (by simp; omega), chk_loop (L := m_ref05_Small_l1 f) (ok := fun m => decide (m.Name.length ≤ 40)) (k := some true) (bad := some false) (l := f.L) (by omega) (fun g i x hx => ?_) fun g => ?_]
  ·simp only [h, decide_true, Bool.true_and]; split <;> simp_all
  ·have hi := lt_of_at hx
   simp only [m_ref05_Small_l1]
   rw [if_pos (lt_dec hi), lat_at hx, Option.bind_some, wis (by omega)]
   by_cases hc : x.Name.length ≤ 40
   ·rw [if_neg (by simp; omega), if_pos (by simpa using hc)]
   ·rw [if_pos (by simp; omega), if_neg (by simpa using hc)]
  ·simp only [m_ref05_Small_l1]
   rw [if_neg (by simp)]
 ·rw [if_pos (by simp; omega)]; simp [h]
def smL (l : List GLin) : Bool := decide (l.length ≤ 20) && l.all sm5
theorem ref15_small (l : List GLin) : m_ref15_small l = some (smL l) := by
 unfold m_ref15_small smL
 by_cases h : l.length ≤ 20
 ·rw [if_neg (by simp; omega), chk_loop (L := m_ref15_small_l1 l) (ok := sm5) (k := some true) (bad := some false) (l := l) (by omega) (fun g i x hx => ?_) fun g => ?_]
  ·simp only [h, decide_true, Bool.true_and]; split <;> simp_all
  ·have hi := lt_of_at hx
   simp only [m_ref15_small_l1]
   rw [if_pos (lt_dec hi), lat_at hx, Option.bind_some, ref05_Small, Option.bind_some, wis (by omega)]
   cases sm5 x <;> simp
  ·simp only [m_ref15_small_l1]
   rw [if_neg (by simp)]
 ·rw [if_pos (by simp; omega)]; simp [h]
def smDB (d : GDef) : Bool := (decide (wE d.Body ≤ 300) && decide ((d.Dims.length : Int) ≤ 20)) && decide ((d.Red.length : Int) ≤ 20)
theorem ref15_SmallDef {d : GDef} (h : okGDef d) : m_ref15_SmallDef d = some (smDB d) := by
 unfold m_ref15_SmallDef smDB
 rw [ref15_Small h.2.2.2.2.2, Option.bind_some]
def smPB (p : GProg) : Bool := (decide (p.Sizes.length ≤ 20 ∧ p.Where.length ≤ 20 ∧ p.Params.length ≤ 20 ∧ p.Defs.length ≤ 20 ∧ p.Outs.length ≤ 20) && p.Params.all fun x => smL x.Dims) && p.Defs.all smDB
theorem ref15_SmallProg {p : GProg} (h : okGProg p) : m_ref15_SmallProg p = some (smPB p) := by
 unfold m_ref15_SmallProg smPB
 by_cases hl : p.Sizes.length ≤ 20 ∧ p.Where.length ≤ 20 ∧ p.Params.length ≤ 20 ∧ p.Defs.length ≤ 20 ∧ p.Outs.length ≤ 20
 ·have q1 : m_ref15_SmallProg_j1 p = some (p.Defs.all smDB) := by
   unfold m_ref15_SmallProg_j1
   refine valid_loop (by omega) (fun f i x hx => ?_) fun f => ?_
   ·have hi := lt_of_at hx
    simp only [m_ref15_SmallProg_l1]
    rw [if_pos (lt_dec hi), lat_at hx, Option.bind_some, ref15_SmallDef (h.2.2.2.1.1 x (List.mem_of_getElem? hx)), Option.bind_some, wis (by omega)]
    cases smDB x <;> simp
   ·simp only [m_ref15_SmallProg_l1]
    rw [if_neg (by simp)]
  rw [if_neg (by simp; omega), chk_loop (L := m_ref15_SmallProg_l2 p) (ok := fun x => smL x.Dims) (k := some (p.Defs.all smDB)) (bad := some false) (l := p.Params) (by omega) (fun g i x hx => ?_) fun g => ?_]
  ·simp only [hl, and_self, decide_true, Bool.true_and]
   cases (p.Params.all fun x => smL x.Dims) <;> simp
  ·have hi := lt_of_at hx
   simp only [m_ref15_SmallProg_l2]
   rw [if_pos (lt_dec hi), lat_at hx, Option.bind_some, ref15_small, Option.bind_some, wis (by omega)]
   cases smL x.Dims <;> simp
  ·simp only [m_ref15_SmallProg_l2]
   rw [if_neg (by simp), q1]
 ·rw [if_pos (by simp; omega)]; simp [hl]
def dfT (d : GDef) : List UInt8 := defT d ++ [10]
def progB (p : GProg) : Bool := (p.Sizes.all nameB && p.Outs.all nameB) && (p.Where.all conB && (p.Params.all parB && p.Defs.all defB))
def outW : List UInt8 := [111, 117, 116]
def progT (p : GProg) : List UInt8 := if progB p = true then rowT [115, 105, 122, 101] p.Sizes ++ (p.Where.map whT).flatten ++ (p.Params.map parT).flatten ++ (p.Defs.map dfT).flatten ++ rowT outW p.Outs else []
abbrev smP (p : GProg) : Prop := okGProg p ∧ szGProg p ≤ 1048576 ∧ p.Defs.length ≤ 20 ∧ ∀ d ∈ p.Defs, wE d.Body ≤ 300
theorem progSz (p : GProg) : szL List.length p.Sizes + szL szGConstraint p.Where + szL szGParam p.Params + szL szGDef p.Defs + szL List.length p.Outs = szGProg p := rfl
theorem smP.d {p : GProg} (h : smP p) {d : GDef} (hd : d ∈ p.Defs) : smD d := by
 have h1 := progSz p
 have h2 := szL_mem (f := szGDef) hd
 exact ⟨h.1.2.2.2.1.1 d hd, h.2.2.2 d hd, by have := h.2.1; omega⟩
theorem smP.sums {p : GProg} (h : smP p) : (p.Where.map fun c => 40 * szGConstraint c + 40).sum ≤ 50000000 ∧ (p.Params.map fun x => 40 * szGParam x + 70).sum ≤ 100000000 ∧ (p.Defs.map fun d => 40 * szGDef d + 30201).sum ≤ 100000000 := by
 have h1 := progSz p
 have h2 := h.2.1
 have h3 := h.2.2.1
 rw [sum_lin, sum_lin, sum_lin]
 unfold szL at h1
 omega
theorem printer_l1 {p : GProg} (h : smP p) {s : List UInt8} (hs : s.length ≤ 300000000) : m_printer_Prog_l1 p fu 0 s = some (if p.Defs.all defB = true then s ++ (p.Defs.map dfT).flatten ++ rowT outW p.Outs else []) := by
 have hq := h.sums
 have hsz := progSz p
 have h2 := h.2.1
 have hn := szL_len szGDef p.Defs
 have key := emit_loop (L := fun f s i => m_printer_Prog_l1 p f i s) (l := p.Defs) (ok := defB) (tx := dfT) (c := fun d => 40 * szGDef d + 30201) (bad := some []) (k := fun s => some (s ++ rowT outW p.Outs)) (s0 := s) (B := 400000000) (by omega)
  (fun d hd => by have := defT_len (h.d hd); unfold dfT; simp only [List.length_append, List.length_cons, List.length_nil]; omega) (by omega)
  (fun f i s x hx ho hl => by
   have hi := lt_of_at hx
   have hd := h.d (List.mem_of_getElem? hx)
   have hdl := defT_len hd
   simp only [m_printer_Prog_l1]
   rw [if_pos (lt_dec hi), lat_at hx, Option.bind_some, printer_Def hd, Option.bind_some, defT_nil, ho, if_neg (by simp), wis (by omega)]
   simp (disch := (first | omega | (simp only [List.length_append, List.length_cons, List.length_nil]; omega))) only [lapp_ok, Option.bind_some]
   rfl)
  (fun f i s x hx ho => by
   have hi := lt_of_at hx
   have hd := h.d (List.mem_of_getElem? hx)
   simp only [m_printer_Prog_l1]
   rw [if_pos (lt_dec hi), lat_at hx, Option.bind_some, printer_Def hd, Option.bind_some, defT_nil, ho, if_pos (by simp)])
  (fun f s hl => by
   simp only [m_printer_Prog_l1]
   rw [if_neg (by simp), row_ok (by omega) (by simp) (by omega)]
   rfl)
 rw [key]
 split <;> rfl
theorem printer_l2 {p : GProg} (h : smP p) {s : List UInt8} (hs : s.length ≤ 100000000) : m_printer_Prog_l2 p fu 0 s = some (if p.Params.all parB = true ∧ p.Defs.all defB = true then s ++ (p.Params.map parT).flatten ++ (p.Defs.map dfT).flatten ++ rowT outW p.Outs else []) := by
 have hq := h.sums
 have hsz := progSz p
 have h2 := h.2.1
 have hn := szL_len szGParam p.Params
 have hp : ∀ x ∈ p.Params, okGParam x ∧ szGParam x ≤ 1048576 := fun x hx => ⟨h.1.2.2.1.1 x hx, by have := szL_mem (f := szGParam) hx; omega⟩
 have key := emit_loop (L := fun f s i => m_printer_Prog_l2 p f i s) (l := p.Params) (ok := parB) (tx := parT) (c := fun x => 40 * szGParam x + 70) (bad := some []) (k := fun s => m_printer_Prog_l1 p fu 0 s) (s0 := s) (B := 300000000) (by omega)
  (fun x hx => parT_len (hp x hx).1) (by omega)
  (fun f i s x hx ho hl => by
   have hi := lt_of_at hx
   obtain ⟨o, z⟩ := hp x (List.mem_of_getElem? hx)
   obtain ⟨d1, d2, d3, d4⟩ := par_dims o z
   have hdl := parT_len o
   have hT := tyT_len x.Type_
   have h1 := lins_lenJ o.2.2
   have h2 := joinT_len (x.Dims.map linT)
   have h3 := par_sz z
   unfold parB at ho
   simp only [Bool.and_eq_true] at ho
   simp only [m_printer_Prog_l2]
   rw [if_pos (lt_dec hi)]
   simp only [lat_at hx, Option.bind_some, isName_all, value_ValidateType, gd_some, d1, d3, ho.1.1, ho.1.2, ho.2, (type_ok x.Type_).1, Bool.not_true, Bool.not_false, Bool.false_eq_true, if_true, if_false, Bool.or_false, decide_true, wis (show i < 4611686018427387904 by omega)]
   simp (disch := (first | omega | (simp only [List.length_append, List.length_cons, List.length_nil]; omega))) only [lapp_ok, Option.bind_some]
   unfold parT
   simp only [List.append_assoc])
  (fun f i s x hx ho => by
   have hi := lt_of_at hx
   obtain ⟨o, z⟩ := hp x (List.mem_of_getElem? hx)
   obtain ⟨d1, d2, d3, d4⟩ := par_dims o z
   simp only [m_printer_Prog_l2]
   rw [if_pos (lt_dec hi)]
   simp only [lat_at hx, Option.bind_some, isName_all, value_ValidateType, gd_some, d1]
   rw [if_pos]
   unfold parB at ho
   revert ho
   cases nameB x.Name <;> cases tyB x.Type_ <;> cases decide (∀ f ∈ x.Dims, okLin f) <;> simp)
  (fun f s hl => by
   simp only [m_printer_Prog_l2]
   rw [if_neg (by simp)]
   rfl)
 rw [key]
 by_cases hc : p.Params.all parB = true
 ·have hb : (s ++ (p.Params.map parT).flatten).length ≤ 300000000 := by
   rw [List.length_append, List.length_flatten, List.map_map]
   have : (p.Params.map (List.length ∘ parT)).sum ≤ (p.Params.map fun x => 40 * szGParam x + 70).sum := sum_map_le fun x hx => parT_len (hp x hx).1
   omega
  rw [if_pos hc, printer_l1 h hb]
  simp only [hc, true_and]
 ·rw [if_neg hc]; simp [hc]
theorem printer_l3 {p : GProg} (h : smP p) {s : List UInt8} (hs : s.length ≤ 10000000) : m_printer_Prog_l3 p fu 0 s = some (if p.Where.all conB = true ∧ p.Params.all parB = true ∧ p.Defs.all defB = true then s ++ (p.Where.map whT).flatten ++ (p.Params.map parT).flatten ++ (p.Defs.map dfT).flatten ++ rowT outW p.Outs else []) := by
 have hq := h.sums
 have hsz := progSz p
 have h2 := h.2.1
 have hn := szL_len szGConstraint p.Where
 have hp : ∀ x ∈ p.Where, okGConstraint x ∧ x.Lin.L.length ≤ 1048576 ∧ szGConstraint x ≤ 1048576 := fun x hx => ⟨h.1.2.1.1 x hx, con_sz (by omega) hx, by have := szL_mem (f := szGConstraint) hx; omega⟩
 have hwl : ∀ x ∈ p.Where, (whT x).length ≤ 40 * szGConstraint x + 40 := fun x hx => by
  have := conT_len (hp x hx).1
  unfold whT; simp only [List.length_append, List.length_cons, List.length_nil]; omega
 have key := emit_loop (L := fun f s i => m_printer_Prog_l3 p f i s) (l := p.Where) (ok := conB) (tx := whT) (c := fun x => 40 * szGConstraint x + 40) (bad := some []) (k := fun s => m_printer_Prog_l2 p fu 0 s) (s0 := s) (B := 100000000) (by omega) hwl (by omega)
  (fun f i s x hx ho hl => by
   have hi := lt_of_at hx
   obtain ⟨o, z, z2⟩ := hp x (List.mem_of_getElem? hx)
   obtain ⟨d1, d2, d3, d4⟩ := con_ok o z
   have hdl := conT_len o
   unfold conB at ho
   simp only [m_printer_Prog_l3]
   rw [if_pos (lt_dec hi), lat_at hx, Option.bind_some, d1, if_pos (of_decide_eq_true ho), Option.bind_some, if_neg (by simp), d3, wis (by omega)]
   simp (disch := (first | omega | (simp only [List.length_append, List.length_cons, List.length_nil]; omega))) only [lapp_ok, Option.bind_some]
   rfl)
  (fun f i s x hx ho => by
   have hi := lt_of_at hx
   obtain ⟨o, z, z2⟩ := hp x (List.mem_of_getElem? hx)
   obtain ⟨d1, d2, d3, d4⟩ := con_ok o z
   unfold conB at ho
   simp only [m_printer_Prog_l3]
   rw [if_pos (lt_dec hi), lat_at hx, Option.bind_some, d1, if_neg (of_decide_eq_false ho), Option.bind_some, if_pos (by simp)])
  (fun f s hl => by
   simp only [m_printer_Prog_l3]
   rw [if_neg (by simp)]
   rfl)
 rw [key]
 by_cases hc : p.Where.all conB = true
 ·have hb : (s ++ (p.Where.map whT).flatten).length ≤ 100000000 := by
   rw [List.length_append, List.length_flatten, List.map_map]
   have : (p.Where.map (List.length ∘ whT)).sum ≤ (p.Where.map fun x => 40 * szGConstraint x + 40).sum := sum_map_le fun x hx => hwl x hx
   omega
  rw [if_pos hc, printer_l2 h hb]
  simp only [hc, true_and]
 ·rw [if_neg hc]; simp [hc]
theorem printer_Prog {p : GProg} (h : smP p) : m_printer_Prog p = some (progT p) := by
 have hsz := progSz p
 have h2 := h.2.1
 unfold m_printer_Prog progT progB
 simp only [names_valid (show szL List.length p.Sizes ≤ 1048576 by omega), names_valid (show szL List.length p.Outs ≤ 1048576 by omega), gd_some, Option.bind_some]
 by_cases hc : p.Sizes.all nameB = true ∧ p.Outs.all nameB = true
 ·simp only [hc.1, hc.2, Bool.not_true, Bool.not_false, if_true, Bool.or_false, Bool.false_eq_true, if_false, Bool.true_and, Bool.and_self]
  have hr := rowT_len (w := [115, 105, 122, 101]) (l := p.Sizes) (by simp)
  rw [row_ok (by omega) (by simp) (by simp), Option.bind_some]
  simp only [List.nil_append]
  rw [printer_l3 h (by omega)]
  simp only [Bool.and_eq_true]
 ·rw [if_pos, if_neg]
  ·simp only [Bool.and_eq_true]; exact fun q => hc q.1
  ·revert hc; cases p.Sizes.all nameB <;> cases p.Outs.all nameB <;> simp
theorem ref_j4 {p : GProg} (h : smP p) {s : List UInt8} (hs : s.length ≤ 400000000) : m_ref15_Prog_j4 p (joinT p.Outs, true) s = some (s ++ rowT outW p.Outs) := by
 have hsz := progSz p
 have h2 := h.2.1
 have hj := names_lenJ (l := p.Outs)
 have h1 := joinT_len p.Outs
 unfold m_ref15_Prog_j4 rowT outW
 by_cases hc : p.Outs = []
 ·simp [hc]
 ·have hp : decide (0 < (p.Outs.length : Int)) = true := by simpa using List.length_pos_iff.2 hc
  simp only [hp, hc, if_true, if_false]
  simp (disch := (first | omega | (simp only [List.length_append, List.length_cons, List.length_nil]; omega))) only [lapp_ok, Option.bind_some]
  simp
theorem ref_l1 {p : GProg} (h : smP p) {s : List UInt8} (hs : s.length ≤ 300000000) : m_ref15_Prog_l1 p (joinT p.Outs, true) fu s 0 = some (if p.Defs.all defB = true then s ++ (p.Defs.map dfT).flatten ++ rowT outW p.Outs else []) := by
 have hq := h.sums
 have hsz := progSz p
 have h2 := h.2.1
 have hn := szL_len szGDef p.Defs
 have key := emit_loop (L := m_ref15_Prog_l1 p (joinT p.Outs, true)) (l := p.Defs) (ok := defB) (tx := dfT) (c := fun d => 40 * szGDef d + 30201) (bad := some []) (k := fun s => some (s ++ rowT outW p.Outs)) (s0 := s) (B := 400000000) (by omega)
  (fun d hd => by have := defT_len (h.d hd); unfold dfT; simp only [List.length_append, List.length_cons, List.length_nil]; omega) (by omega)
  (fun f i s x hx ho hl => by
   have hi := lt_of_at hx
   have hd := h.d (List.mem_of_getElem? hx)
   have hdl := defT_len hd
   simp only [m_ref15_Prog_l1]
   rw [if_pos (lt_dec hi), lat_at hx, Option.bind_some, ref15_Def hd, Option.bind_some, defT_nil, ho, if_neg (by simp), wis (by omega)]
   simp (disch := (first | omega | (simp only [List.length_append, List.length_cons, List.length_nil]; omega))) only [lapp_ok, Option.bind_some]
   rw [List.append_assoc]
   rfl)
  (fun f i s x hx ho => by
   have hi := lt_of_at hx
   have hd := h.d (List.mem_of_getElem? hx)
   simp only [m_ref15_Prog_l1]
   rw [if_pos (lt_dec hi), lat_at hx, Option.bind_some, ref15_Def hd, Option.bind_some, defT_nil, ho, if_pos (by simp)])
  (fun f s hl => by
   simp only [m_ref15_Prog_l1]
   rw [if_neg (by simp), ref_j4 h (by omega)])
 rw [key]
 split <;> rfl
theorem ref_l2 {p : GProg} (h : smP p) {s : List UInt8} (hs : s.length ≤ 100000000) : m_ref15_Prog_l2 p (joinT p.Outs, true) fu s 0 = some (if p.Params.all parB = true ∧ p.Defs.all defB = true then s ++ (p.Params.map parT).flatten ++ (p.Defs.map dfT).flatten ++ rowT outW p.Outs else []) := by
 have hq := h.sums
 have hsz := progSz p
 have h2 := h.2.1
 have hn := szL_len szGParam p.Params
 have hp : ∀ x ∈ p.Params, okGParam x ∧ szGParam x ≤ 1048576 := fun x hx => ⟨h.1.2.2.1.1 x hx, by have := szL_mem (f := szGParam) hx; omega⟩
 have key := emit_loop (L := m_ref15_Prog_l2 p (joinT p.Outs, true)) (l := p.Params) (ok := parB) (tx := parT) (c := fun x => 40 * szGParam x + 70) (bad := some []) (k := fun s => m_ref15_Prog_l1 p (joinT p.Outs, true) fu s 0) (s0 := s) (B := 300000000) (by omega)
  (fun x hx => parT_len (hp x hx).1) (by omega)
  (fun f i s x hx ho hl => by
   have hi := lt_of_at hx
   obtain ⟨o, z⟩ := hp x (List.mem_of_getElem? hx)
   obtain ⟨d1, d2, d3, d4⟩ := par_dims o z
   have hdl := parT_len o
   have hT := tyT_len x.Type_
   have h1 := lins_lenJ o.2.2
   have h2 := joinT_len (x.Dims.map linT)
   have h3 := par_sz z
   unfold parB at ho
   simp only [Bool.and_eq_true] at ho
   simp only [m_ref15_Prog_l2]
   rw [if_pos (lt_dec hi)]
   simp only [lat_at hx, Option.bind_some, base_Name_all, base_Type, gd_some, d2, d4, ho.1.1, ho.1.2, ho.2, (type_ok x.Type_).2, Bool.not_true, Bool.not_false, Bool.false_eq_true, if_true, if_false, Bool.or_false, decide_true, wis (show i < 4611686018427387904 by omega)]
   simp (disch := (first | omega | (simp only [List.length_append, List.length_cons, List.length_nil]; omega))) only [lapp_ok, Option.bind_some]
   unfold parT
   simp only [List.append_assoc])
  (fun f i s x hx ho => by
   have hi := lt_of_at hx
   obtain ⟨o, z⟩ := hp x (List.mem_of_getElem? hx)
   obtain ⟨d1, d2, d3, d4⟩ := par_dims o z
   simp only [m_ref15_Prog_l2]
   rw [if_pos (lt_dec hi)]
   simp only [lat_at hx, Option.bind_some, base_Name_all, base_Type, gd_some, d2]
   rw [if_pos]
   unfold parB at ho
   revert ho
   cases nameB x.Name <;> cases tyB x.Type_ <;> cases decide (∀ f ∈ x.Dims, okLin f) <;> simp)
  (fun f s hl => by
   simp only [m_ref15_Prog_l2]
   rw [if_neg (by simp)]
   rfl)
 rw [key]
 by_cases hc : p.Params.all parB = true
 ·have hb : (s ++ (p.Params.map parT).flatten).length ≤ 300000000 := by
   rw [List.length_append, List.length_flatten, List.map_map]
   have : (p.Params.map (List.length ∘ parT)).sum ≤ (p.Params.map fun x => 40 * szGParam x + 70).sum := sum_map_le fun x hx => parT_len (hp x hx).1
   omega
  rw [if_pos hc, ref_l1 h hb]
  simp only [hc, true_and]
 ·rw [if_neg hc]; simp [hc]
theorem ref_l3 {p : GProg} (h : smP p) {s : List UInt8} (hs : s.length ≤ 10000000) : m_ref15_Prog_l3 p (joinT p.Outs, true) fu s 0 = some (if p.Where.all conB = true ∧ p.Params.all parB = true ∧ p.Defs.all defB = true then s ++ (p.Where.map whT).flatten ++ (p.Params.map parT).flatten ++ (p.Defs.map dfT).flatten ++ rowT outW p.Outs else []) := by
 have hq := h.sums
 have hsz := progSz p
 have h2 := h.2.1
 have hn := szL_len szGConstraint p.Where
 have hp : ∀ x ∈ p.Where, okGConstraint x ∧ x.Lin.L.length ≤ 1048576 ∧ szGConstraint x ≤ 1048576 := fun x hx => ⟨h.1.2.1.1 x hx, con_sz (by omega) hx, by have := szL_mem (f := szGConstraint) hx; omega⟩
 have hwl : ∀ x ∈ p.Where, (whT x).length ≤ 40 * szGConstraint x + 40 := fun x hx => by
  have := conT_len (hp x hx).1
  unfold whT; simp only [List.length_append, List.length_cons, List.length_nil]; omega
 have key := emit_loop (L := m_ref15_Prog_l3 p (joinT p.Outs, true)) (l := p.Where) (ok := conB) (tx := whT) (c := fun x => 40 * szGConstraint x + 40) (bad := some []) (k := fun s => m_ref15_Prog_l2 p (joinT p.Outs, true) fu s 0) (s0 := s) (B := 100000000) (by omega) hwl (by omega)
  (fun f i s x hx ho hl => by
   have hi := lt_of_at hx
   obtain ⟨o, z, z2⟩ := hp x (List.mem_of_getElem? hx)
   obtain ⟨d1, d2, d3, d4⟩ := con_ok o z
   have hdl := conT_len o
   unfold conB at ho
   simp only [m_ref15_Prog_l3]
   rw [if_pos (lt_dec hi)]
   simp only [lat_at hx, Option.bind_some, d2, d4, if_pos (of_decide_eq_true ho), decide_true, Bool.not_true, Bool.false_eq_true, if_false, wis (show i < 4611686018427387904 by omega)]
   simp (disch := (first | omega | (simp only [List.length_append, List.length_cons, List.length_nil]; omega))) only [lapp_ok, Option.bind_some]
   unfold whT
   simp only [List.append_assoc])
  (fun f i s x hx ho => by
   have hi := lt_of_at hx
   obtain ⟨o, z, z2⟩ := hp x (List.mem_of_getElem? hx)
   obtain ⟨d1, d2, d3, d4⟩ := con_ok o z
   unfold conB at ho
   simp only [m_ref15_Prog_l3]
   rw [if_pos (lt_dec hi), lat_at hx, Option.bind_some, d2, if_neg (of_decide_eq_false ho), Option.bind_some, if_pos (by simp)])
  (fun f s hl => by
   simp only [m_ref15_Prog_l3]
   rw [if_neg (by simp)]
   rfl)
 rw [key]
 by_cases hc : p.Where.all conB = true
 ·have hb : (s ++ (p.Where.map whT).flatten).length ≤ 100000000 := by
   rw [List.length_append, List.length_flatten, List.map_map]
   have : (p.Where.map (List.length ∘ whT)).sum ≤ (p.Where.map fun x => 40 * szGConstraint x + 40).sum := sum_map_le fun x hx => hwl x hx
   omega
  rw [if_pos hc, ref_l2 h hb]
  simp only [hc, true_and]
 ·rw [if_neg hc]; simp [hc]
theorem ref15_Prog {p : GProg} (h : smP p) : m_ref15_Prog p = some (progT p) := by
 have hsz := progSz p
 have h2 := h.2.1
 unfold m_ref15_Prog progT progB
 simp only [ref15_names (show szL List.length p.Sizes ≤ 1048576 by omega), ref15_names (show szL List.length p.Outs ≤ 1048576 by omega), Option.bind_some]
 by_cases hc : p.Sizes.all nameB = true ∧ p.Outs.all nameB = true
 ·simp only [hc.1, hc.2, Bool.not_true, Bool.not_false, if_true, Bool.or_false, Bool.false_eq_true, if_false, Bool.true_and, Bool.and_self]
  have hj := names_lenJ (l := p.Sizes)
  have h1 := joinT_len p.Sizes
  unfold m_ref15_Prog_j1
  by_cases he : p.Sizes = []
  ·rw [if_neg (by simp [he]), ref_l3 h (by simp)]
   simp only [he, rowT, if_true, List.nil_append, Bool.and_eq_true]
  ·have hp : decide (0 < (p.Sizes.length : Int)) = true := by simpa using List.length_pos_iff.2 he
   simp only [hp, if_true]
   simp (disch := (first | omega | (simp only [List.length_append, List.length_cons, List.length_nil]; omega))) only [lapp_ok, Option.bind_some]
   rw [ref_l3 h (by simp only [List.length_append, List.length_cons, List.length_nil]; omega)]
   have e : rowT [115, 105, 122, 101] p.Sizes = [115, 105, 122, 101, 32] ++ joinT p.Sizes ++ [59, 10] := by simp [rowT, he]
   rw [e]
   simp only [Bool.and_eq_true]
 ·rw [if_pos, if_neg]
  ·simp only [Bool.and_eq_true]; exact fun q => hc q.1
  ·revert hc; cases p.Sizes.all nameB <;> cases p.Outs.all nameB <;> simp
theorem law_PrinterProgs (p : GProg) (ho : okGProg p) (hz : szGProg p ≤ 1048576) : m_law15_PrinterProgs p = some true := by
 unfold m_law15_PrinterProgs
 rw [ref15_SmallProg ho, Option.bind_some, alive15]
 by_cases h : smPB p = true
 ·have hs : smP p := by
   unfold smPB at h
   simp only [Bool.and_eq_true, decide_eq_true_eq, List.all_eq_true] at h
   refine ⟨ho, hz, h.1.1.2.2.2.1, fun d hd => ?_⟩
   have := h.2 d hd
   unfold smDB at this
   simp only [Bool.and_eq_true, decide_eq_true_eq] at this
   exact this.1.1
  rw [printer_Prog hs, ref15_Prog hs]
  simp [h, gd]
 ·simp [h]
end Go.Proofs.YtebpdmfmknfkjaaGreatDoor
