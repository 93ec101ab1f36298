import Derived.Test.YtebpdmfmknfkjaaGreatDoorSYi
namespace Go.Proofs.YtebpdmfmknfkjaaGreatDoor
open Go Go.RowKit Go.Vc
set_option linter.unusedVariables false
set_option linter.unusedSimpArgs false
theorem lt_of_at {α : Type} {l : List α} {i : Nat} {x : α} (h : l[i]? = some x) : i < l.length := (List.getElem?_eq_some_iff.1 h).1
theorem valid_loop {α : Type} {L : Nat → Int → Option Bool} {l : List α} {ok : α → Bool} (hn : l.length < 4611686018427387904)
    (rd : ∀ f (i : Nat) x, l[i]? = some x → L (f + 1) (i : Int) = if ok x = true then L f ((i + 1 : Nat) : Int) else some false)
    (fin : ∀ f, L (f + 1) (l.length : Int) = some true) : L fu 0 = some (l.all ok) := by
  refine loop_eq (L := fun f (_ : Unit) i => L f i) (n := l.length) hn (fun i _ => (l.take i).all ok = true) ?_ ?_ () (by simp)
  · intro f i _ hi hI
    obtain ⟨x, hx⟩ := at_some hi
    rw [rd f i x hx]
    by_cases ho : ok x = true
    · left; refine ⟨(), ?_, by rw [if_pos ho]⟩
      rw [take_succ' hx, List.all_append, hI]; simp [ho]
    · right; rw [if_neg ho]
      have : l.all ok = false := by
        rw [Bool.eq_false_iff]
        intro h; exact ho (List.all_eq_true.1 h x (List.mem_of_getElem? hx))
      rw [this]
  · intro f _ hI
    rw [fin f]; rw [List.take_length] at hI; rw [hI]
theorem emit_loop {α R : Type} {L : Nat → List UInt8 → Int → Option R} {l : List α} {ok : α → Bool} {tx : α → List UInt8} {c : α → Nat} {bad : Option R} {k : List UInt8 → Option R} {s0 : List UInt8} {B : Nat} (hn : l.length < 4611686018427387904)
    (hc : ∀ x ∈ l, (tx x).length ≤ c x) (hB : s0.length + (l.map c).sum ≤ B)
    (good : ∀ f (i : Nat) s x, l[i]? = some x → ok x = true → s.length + c x ≤ B → L (f + 1) s (i : Int) = L f (s ++ tx x) ((i + 1 : Nat) : Int))
    (no : ∀ f (i : Nat) s x, l[i]? = some x → ok x = false → L (f + 1) s (i : Int) = bad)
    (fin : ∀ f s, s.length ≤ B → L (f + 1) s (l.length : Int) = k s) : L fu s0 0 = if l.all ok = true then k (s0 ++ (l.map tx).flatten) else bad := by
  refine loop_eq (L := L) (n := l.length) hn (fun i s => (l.take i).all ok = true ∧ s = s0 ++ ((l.take i).map tx).flatten ∧ s.length ≤ s0.length + ((l.take i).map c).sum) ?_ ?_ s0 ⟨by simp, by simp, by simp⟩
  · rintro f i s hi ⟨hI, hs, hl⟩
    obtain ⟨x, hx⟩ := at_some hi
    have hm := List.mem_of_getElem? hx
    have h1 := take_sum (zs := l.map c) (i := i) (x := c x) (by rw [List.getElem?_map, hx]; rfl)
    have h2 := take_le (l.map c) (i + 1)
    rw [← List.map_take] at h1 h2
    rw [← List.map_take] at h1
    have h3 := hc x hm
    by_cases ho : ok x = true
    · left
      refine ⟨_, ⟨?_, ?_, ?_⟩, good f i s x hx ho (by omega)⟩
      · rw [take_succ' hx, List.all_append, hI]; simp [ho]
      · rw [take_succ' hx, hs]; simp
      · rw [List.length_append]; omega
    · right
      rw [no f i s x hx (by simpa using ho), if_neg]
      intro h; exact ho (List.all_eq_true.1 h x hm)
  · rintro f s ⟨hI, hs, hl⟩
    rw [List.take_length] at *
    rw [fin f s (by omega), if_pos hI, hs]
theorem join_loop {α : Type} {L : Nat → List UInt8 → Int → Option (List UInt8 × Bool)} {l : List α} {ok : α → Bool} {tx : α → List UInt8} (hn : l.length < 4611686018427387904) (hl : lenJ (l.map tx) ≤ 4294967296)
    (good : ∀ f (i : Nat) s x, l[i]? = some x → ok x = true → s.length + (tx x).length + 2 ≤ 4294967296 → L (f + 1) s (i : Int) = L f (if i = 0 then s ++ tx x else s ++ ([44, 32] ++ tx x)) ((i + 1 : Nat) : Int))
    (no : ∀ f (i : Nat) s x, l[i]? = some x → ok x = false → L (f + 1) s (i : Int) = some ([], false))
    (fin : ∀ f s, L (f + 1) s (l.length : Int) = some (s, true)) : L fu [] 0 = some (if l.all ok = true then (joinT (l.map tx), true) else ([], false)) := by
  refine loop_eq (L := L) (n := l.length) hn (fun i s => (l.take i).all ok = true ∧ s = joinT ((l.map tx).take i)) ?_ ?_ [] ⟨by simp, by simp [joinT]⟩
  · rintro f i s hi ⟨hI, rfl⟩
    obtain ⟨x, hx⟩ := at_some hi
    have hm := List.mem_of_getElem? hx
    have ht : (l.map tx)[i]? = some (tx x) := by rw [List.getElem?_map, hx]; rfl
    have h4 := joinT_len ((l.map tx).take i)
    have h5 := lenJ_at ht
    by_cases ho : ok x = true
    · left
      refine ⟨_, ⟨?_, ?_⟩, good f i _ x hx ho (by omega)⟩
      · rw [take_succ' hx, List.all_append, hI]; simp [ho]
      · rw [take_succ' ht, joinT_snoc]
        cases i with
        | zero => simp [joinT]
        | succ i => rw [if_neg (by omega), if_neg (take_ne (by rw [List.length_map]; exact hi))]
    · right
      rw [no f i _ x hx (by simpa using ho), if_neg]
      intro h; exact ho (List.all_eq_true.1 h x hm)
  · rintro f s ⟨hI, rfl⟩
    rw [List.take_length] at hI
    rw [fin, if_pos hI, show l.length = (l.map tx).length by rw [List.length_map], List.take_length]
def axB (a : GAxis) : Bool := nameB a.Name && decide (okLin a.Size)
def axT (a : GAxis) : List UInt8 := a.Name ++ ([32, 60, 32] ++ linT a.Size)
theorem szL_len {α : Type} (f : α → Nat) (l : List α) : l.length ≤ szL f l := by unfold szL; omega
theorem szL_mem {α : Type} {f : α → Nat} {l : List α} {x : α} (h : x ∈ l) : f x + 1 ≤ szL f l := by
  have := le_sum_of (List.mem_map_of_mem (f := f) h)
  have : 0 < l.length := List.length_pos_of_mem h
  unfold szL; omega
theorem axT_len {a : GAxis} (h : okGAxis a) : (axT a).length ≤ 40 * szGAxis a + 27 := by
  have h1 := linT_len h.2.r
  have h2 := szL_len szGMono a.Size.L
  unfold axT szGAxis szGLin
  simp only [List.length_append, List.length_cons, List.length_nil]; omega
theorem axes_lenJ {l : List GAxis} (h : okW okGAxis l) : lenJ (l.map axT) ≤ 40 * szL szGAxis l := by
  unfold lenJ szL
  rw [List.map_map]
  have h1 : (l.map ((fun t => t.length + 2) ∘ axT)).sum ≤ (l.map fun x => 40 * szGAxis x + 29).sum := sum_map_le fun a ha => by have := axT_len (h.1 a ha); simp only [Function.comp]; omega
  rw [sum_lin] at h1
  omega
theorem axis_sz {l : List GAxis} {a : GAxis} (hl : szL szGAxis l ≤ 1048576) (ha : a ∈ l) : a.Size.L.length ≤ 1048576 := by
  have h1 := szL_mem (f := szGAxis) ha
  have h2 := szL_len szGMono a.Size.L
  have e : szGAxis a = a.Name.length + szL szGMono a.Size.L := rfl
  omega
theorem axes_valid {l : List GAxis} (h : okW okGAxis l) (hl : szL szGAxis l ≤ 1048576) : m_printer_axes_valid l = some (l.all axB) := by
  have hn := szL_len szGAxis l
  unfold m_printer_axes_valid
  refine valid_loop (by omega) (fun f i x hx => ?_) fun f => ?_
  · have hi := lt_of_at hx
    have hm := List.mem_of_getElem? hx
    simp only [m_printer_axes_valid_l1]
    rw [if_pos (lt_dec hi), lat_at hx, Option.bind_some, isName_all, Option.bind_some, (lin_Val (by have := axis_sz hl hm; omega)).1, wis (by omega)]
    unfold axB
    cases nameB x.Name <;> by_cases ho : okLin x.Size <;> simp [gd, ho]
  · simp only [m_printer_axes_valid_l1]
    rw [if_neg (by simp)]
theorem axes_item {l : List GAxis} {i : Nat} {x : GAxis} (h : okW okGAxis l) (hl : szL szGAxis l ≤ 1048576) (hx : l[i]? = some x) : m_printer_axes_item l (i : Int) = some (axT x) := by
  have hm := List.mem_of_getElem? hx
  have h1 := axis_sz hl hm
  have h2 := szL_mem (f := szGAxis) hm
  have hr := (h.1 x hm).2.r
  have h3 := linT_len hr
  have h4 : x.Name.length ≤ 1048576 := by have e : szGAxis x = x.Name.length + szGLin x.Size := rfl; omega
  unfold m_printer_axes_item axT
  simp only [lat_at hx, Option.bind_some]
  rw [lapp_ok (by simp only [List.length_cons, List.length_nil]; omega), Option.bind_some, lin_Format hr.1 hr.2 (by omega), Option.bind_some, lapp_ok (by simp only [List.length_append, List.length_cons, List.length_nil]; omega), Option.bind_some, List.append_assoc]
theorem axes_list {l : List GAxis} (h : okW okGAxis l) (hl : szL szGAxis l ≤ 1048576) : m_printer_list (l.length : Int) (m_printer_axes_item l) = some (joinT (l.map axT)) := by
  have hn := szL_len szGAxis l
  have hj := axes_lenJ h
  rw [show (l.length : Int) = ((l.map axT).length : Int) by rw [List.length_map]]
  refine list_ok (l.map axT) (by rw [List.length_map]; omega) (fun i t ht => ?_) (by omega)
  obtain ⟨x, hx, rfl⟩ := map_at ht
  exact axes_item h hl hx
theorem ref15_axes {l : List GAxis} (h : okW okGAxis l) (hl : szL szGAxis l ≤ 1048576) : m_ref15_axes l = some (if l.all axB = true then (joinT (l.map axT), true) else ([], false)) := by
  have hn := szL_len szGAxis l
  have hj := axes_lenJ h
  unfold m_ref15_axes
  refine join_loop (by omega) (by omega) (fun f i s x hx ho hs => ?_) (fun f i s x hx ho => ?_) fun f s => ?_
  · have hi := lt_of_at hx
    have hm := List.mem_of_getElem? hx
    have h1 := axis_sz hl hm
    have hr := (h.1 x hm).2.r
    unfold axB at ho
    rw [Bool.and_eq_true] at ho
    unfold axT at hs
    simp only [List.length_append, List.length_cons, List.length_nil] at hs
    simp only [m_ref15_axes_l1]
    rw [if_pos (lt_dec hi)]
    unfold m_ref15_axes_j1
    simp only [lat_at hx, Option.bind_some, base_Name_all, ho.1, gd, Bool.not_true, Bool.not_false, if_true, (lin_Val (show x.Size.L.length < 4611686018427387904 by omega)).2, ho.2, Bool.or_false, Bool.false_eq_true, if_false, ref05_Format hr.1 hr.2 (by omega), wis (show i < 4611686018427387904 by omega)]
    unfold axT
    cases i with
    | zero =>
      rw [if_neg (by simp), if_pos rfl]
      simp (disch := (first | omega | (simp only [List.length_append, List.length_cons, List.length_nil]; omega))) only [lapp_ok, Option.bind_some, List.append_assoc]
    | succ i =>
      rw [if_pos (by simp), if_neg (by omega)]
      simp (disch := (first | omega | (simp only [List.length_append, List.length_cons, List.length_nil]; omega))) only [lapp_ok, Option.bind_some, List.append_assoc]
  · have hi := lt_of_at hx
    have hm := List.mem_of_getElem? hx
    have h1 := axis_sz hl hm
    unfold axB at ho
    simp only [m_ref15_axes_l1]
    rw [if_pos (lt_dec hi)]
    simp only [lat_at hx, Option.bind_some, base_Name_all, (lin_Val (show x.Size.L.length < 4611686018427387904 by omega)).2]
    have hv := (lin_Val (show x.Size.L.length < 4611686018427387904 by omega)).2
    cases hb : nameB x.Name <;> by_cases hk : okLin x.Size <;> simp_all [gd]
  · simp only [m_ref15_axes_l1]
    rw [if_neg (by simp)]
def fwT (n : Int) : List UInt8 := if n = 1 then [115, 117, 109] else if n = 2 then [112, 114, 111, 100] else if n = 3 then [109, 105, 110] else if n = 4 then [109, 97, 120] else [115, 99, 97, 110]
theorem fwT_len (n : Int) : (fwT n).length ≤ 4 := by unfold fwT; repeat' split
                                                     all_goals simp
def foldX (d : GDef) : List UInt8 := if d.Fold = 0 then [] else fwT d.Fold ++ (if d.Red = [] then [58, 32] else [32] ++ (joinT (d.Red.map axT) ++ [58, 32]))
def defA (d : GDef) : Bool := nameB d.Name && d.Dims.all axB && d.Red.all axB && tyB d.Type_
def defF (d : GDef) : Prop := (0 ≤ d.Fold ∧ d.Fold ≤ 5) ∧ ((d.Fold = 0 ∨ d.Fold = 5) → d.Red = [])
instance (d : GDef) : Decidable (defF d) := inferInstanceAs (Decidable (_ ∧ _))
def defB (d : GDef) : Bool := defA d && decide (defF d) && decide (vE d.Body = 0)
def defX (d : GDef) : List UInt8 := [100, 101, 102, 32] ++ (d.Name ++ ([58, 32] ++ (tyT d.Type_ ++ ([91] ++ (joinT (d.Dims.map axT) ++ ([93, 32, 61, 32] ++ (foldX d ++ (exT d.Body ++ [59]))))))))
def defT (d : GDef) : List UInt8 := if defB d = true then defX d else []
abbrev smD (d : GDef) : Prop := okGDef d ∧ wE d.Body ≤ 300 ∧ szGDef d ≤ 1048576
theorem defSz (d : GDef) : szL szGAxis d.Dims + szL szGAxis d.Red + d.Name.length ≤ szGDef d := by
  have e : szGDef d = d.Name.length + szGType d.Type_ + (szL szGAxis) d.Dims + (szL szGAxis) d.Red + szGExpr d.Body := rfl
  omega
theorem word_ok {n : Int} : m_ref15_word n = some (fwT n) := by
  unfold m_ref15_word fwT
  simp only [decide_eq_true_eq]
  repeat' split
  all_goals rfl
theorem fold_ok {d : GDef} (h : smD d) (hF : 0 ≤ d.Fold ∧ d.Fold ≤ 5) : m_printer_fold d = some (foldX d) := by
  obtain ⟨⟨o1, o2, o3, o4, o5, o6⟩, h300, hz⟩ := h
  have hs := defSz d
  have hj1 : ∀ w : List UInt8, w.length ≤ 4 → m_printer_fold_j1 d w = some (w ++ (if d.Red = [] then [58, 32] else [32] ++ (joinT (d.Red.map axT) ++ [58, 32]))) := fun w hw => by
    unfold m_printer_fold_j1
    by_cases hr : d.Red = []
    · rw [if_neg (by simp [hr]), if_pos hr, lapp_ok (by simp only [List.length_cons, List.length_nil]; omega), Option.bind_some]
    · have hj := axes_lenJ o4
      have hl := joinT_len (d.Red.map axT)
      rw [if_pos (by simpa using List.length_pos_iff.2 hr), if_neg hr, axes_list o4 (by omega), Option.bind_some]
      simp (disch := (first | omega | (simp only [List.length_append, List.length_cons, List.length_nil]; omega))) only [lapp_ok, Option.bind_some]
      simp only [List.append_assoc]
  unfold m_printer_fold foldX fwT
  by_cases h0 : d.Fold = 0
  · simp [h0]
  by_cases h1 : d.Fold = 1
  · simp [h1, hj1 [115, 117, 109] (by simp)]
  by_cases h2 : d.Fold = 2
  · simp [h2, hj1 [112, 114, 111, 100] (by simp)]
  by_cases h3 : d.Fold = 3
  · simp [h3, hj1 [109, 105, 110] (by simp)]
  by_cases h4 : d.Fold = 4
  · simp [h4, hj1 [109, 97, 120] (by simp)]
  have h5 : d.Fold = 5 := by omega
  simp [h5, hj1 [115, 99, 97, 110] (by simp)]
theorem foldX_len {d : GDef} (h : smD d) : (foldX d).length ≤ 7 + 40 * szL szGAxis d.Red := by
  obtain ⟨⟨o1, o2, o3, o4, o5, o6⟩, h300, hz⟩ := h
  have hj := axes_lenJ o4
  have hl := joinT_len (d.Red.map axT)
  have hw := fwT_len d.Fold
  unfold foldX
  split
  · simp
  · split <;> simp only [List.length_append, List.length_cons, List.length_nil] <;> omega
theorem gd_some {α : Type} [Inhabited α] (g : Bool) (v : α) : gd g (some v) = some (if g = true then v else default) := by unfold gd; cases g <;> rfl
theorem exT_ne (e : GExpr) : exT e ≠ [] := by
  rw [exT_eq]
  unfold exB
  repeat' split
  all_goals simp
theorem printer_Def {d : GDef} (h : smD d) : m_printer_Def d = some (defT d) := by
  have hfl := foldX_len h
  obtain ⟨⟨o1, o2, o3, o4, o5, o6⟩, h300, hz⟩ := id h
  have hs := defSz d
  have hj3 := axes_lenJ o3
  have hl3 := joinT_len (d.Dims.map axT)
  have hT := tyT_len d.Type_
  obtain ⟨v1, v2⟩ := validate_ok o6 h300
  unfold m_printer_Def defT defB
  simp only [isName_all, axes_valid o3 (show szL szGAxis d.Dims ≤ 1048576 by omega), axes_valid o4 (show szL szGAxis d.Red ≤ 1048576 by omega), value_ValidateType, gd_some, Option.bind_some, v1]
  by_cases hA : defA d = true
  · have hA' := hA
    unfold defA at hA'
    simp only [Bool.and_eq_true] at hA'
    obtain ⟨⟨⟨a1, a2⟩, a3⟩, a4⟩ := hA'
    simp only [a1, a2, a3, a4, hA, Bool.not_true, Bool.not_false, Bool.false_eq_true, if_true, if_false, Bool.or_false, Bool.true_and, decide_true]
    by_cases hF : defF d
    · have hF' := hF
      unfold defF at hF'
      have c : ((decide (d.Fold < 0) || decide (5 < d.Fold)) || ((decide (d.Fold = 0) || decide (d.Fold = 5)) && decide (0 < (d.Red.length : Int)))) = false := by
        rw [Bool.eq_false_iff]
        simp only [ne_eq, Bool.or_eq_true, Bool.and_eq_true, decide_eq_true_eq]
        rintro ((c | c) | ⟨c1, c2⟩)
        · omega
        · omega
        · rw [hF'.2 c1] at c2; simp at c2
      rw [c, if_neg (by simp)]
      by_cases hv : vE d.Body = 0
      · have he := (exprs_ok o6 h300).1
        rw [if_pos hv] at he
        have hel := exT_len (wE d.Body + 1) d.Body (by omega) o6 (vE_zero hv)
        simp only [hv, hF, decide_true, Bool.not_true, Bool.false_eq_true, if_false, Bool.and_true, if_true, (type_ok d.Type_).1, axes_list o3 (show szL szGAxis d.Dims ≤ 1048576 by omega), fold_ok h hF'.1, he, Option.bind_some]
        simp (disch := (first | omega | (simp only [List.length_append, List.length_cons, List.length_nil]; omega))) only [lapp_ok, Option.bind_some]
        unfold defX
        simp only [List.append_assoc]
      · simp [hv]
    · rw [if_pos]
      · simp [hF]
      · unfold defF at hF
        simp only [Bool.or_eq_true, Bool.and_eq_true, decide_eq_true_eq]
        by_cases c1 : d.Fold < 0
        · exact Or.inl (Or.inl c1)
        · by_cases c2 : 5 < d.Fold
          · exact Or.inl (Or.inr c2)
          · right
            by_cases c3 : d.Fold = 0 ∨ d.Fold = 5
            · refine ⟨c3, ?_⟩
              have : d.Red ≠ [] := fun hr => hF ⟨⟨by omega, by omega⟩, fun _ => hr⟩
              have := List.length_pos_iff.2 this
              omega
            · exact absurd ⟨⟨by omega, by omega⟩, fun c => absurd c c3⟩ hF
  · rw [if_pos]
    · simp [hA]
    · unfold defA at hA
      revert hA
      cases nameB d.Name <;> cases d.Dims.all axB <;> cases d.Red.all axB <;> cases tyB d.Type_ <;> simp
theorem ref15_Def {d : GDef} (h : smD d) : m_ref15_Def d = some (defT d) := by
  have hfl := foldX_len h
  obtain ⟨⟨o1, o2, o3, o4, o5, o6⟩, h300, hz⟩ := id h
  have hs := defSz d
  have hj3 := axes_lenJ o3
  have hl3 := joinT_len (d.Dims.map axT)
  have hj4 := axes_lenJ o4
  have hl4 := joinT_len (d.Red.map axT)
  have hT := tyT_len d.Type_
  unfold m_ref15_Def defT defB
  rw [ref15_axes o3 (show szL szGAxis d.Dims ≤ 1048576 by omega), ref15_axes o4 (show szL szGAxis d.Red ≤ 1048576 by omega), (exprs_ok o6 h300).2]
  simp only [Option.bind_some, base_Name_all, base_Type, gd_some]
  by_cases hA : defA d = true ∧ vE d.Body = 0
  · have hA' := hA.1
    unfold defA at hA'
    simp only [Bool.and_eq_true] at hA'
    obtain ⟨⟨⟨a1, a2⟩, a3⟩, a4⟩ := hA'
    have hen := exT_ne d.Body
    have hel := exT_len (wE d.Body + 1) d.Body (by omega) o6 (vE_zero hA.2)
    simp only [a1, a2, a3, a4, hA.1, hA.2, hen, Bool.not_true, Bool.not_false, Bool.false_eq_true, if_true, if_false, Bool.or_false, Bool.false_or, Bool.true_and, decide_true, decide_false, Bool.and_true]
    by_cases hF : defF d
    · have hF' := hF
      unfold defF at hF'
      simp only [hF, decide_true, if_true]
      rw [if_neg (by simp; omega)]
      have c : (decide (0 < (d.Red.length : Int)) && (decide (d.Fold = 0) || decide (d.Fold = 5))) = false := by
        rw [Bool.eq_false_iff]
        simp only [ne_eq, Bool.or_eq_true, Bool.and_eq_true, decide_eq_true_eq]
        rintro ⟨c2, c1⟩
        rw [hF'.2 c1] at c2; simp at c2
      rw [c, if_neg (by simp)]
      simp only [(type_ok d.Type_).2, Option.bind_some]
      simp (disch := (first | omega | (simp only [List.length_append, List.length_cons, List.length_nil]; omega))) only [lapp_ok, Option.bind_some]
      unfold foldX at hfl
      unfold defX foldX
      by_cases h0 : d.Fold = 0
      · simp only [h0, decide_true, Bool.not_true, Bool.false_eq_true, if_false, if_true]
        simp only [List.append_assoc, List.nil_append]
      · have hw := fwT_len d.Fold
        simp only [h0, decide_false, Bool.not_false, if_true, if_false, word_ok, Option.bind_some] at hfl ⊢
        rw [lapp_ok (by simp only [List.length_append, List.length_cons, List.length_nil]; omega), Option.bind_some]
        by_cases hr : d.Red = []
        · simp only [hr, List.length_nil, if_true] at hfl ⊢
          rw [if_neg (by simp)]
          simp (disch := (first | omega | (simp only [List.length_append, List.length_cons, List.length_nil]; omega))) only [lapp_ok, Option.bind_some]
          simp only [List.append_assoc]
        · have hp : decide (0 < (d.Red.length : Int)) = true := by simpa using List.length_pos_iff.2 hr
          simp only [hp, hr, if_true, if_false]
          simp (disch := (first | omega | (simp only [List.length_append, List.length_cons, List.length_nil]; omega))) only [lapp_ok, Option.bind_some]
          simp only [List.append_assoc]
    · simp only [hF, decide_false, Bool.false_eq_true, if_false]
      by_cases c : (decide (d.Fold < 0) || decide (5 < d.Fold)) = true
      · rw [if_pos c]
      · rw [if_neg c, if_pos]
        unfold defF at hF
        simp only [Bool.or_eq_true, decide_eq_true_eq] at c
        simp only [Bool.or_eq_true, Bool.and_eq_true, decide_eq_true_eq]
        by_cases c3 : d.Fold = 0 ∨ d.Fold = 5
        · refine ⟨?_, c3⟩
          have : d.Red ≠ [] := fun hr => hF ⟨⟨by omega, by omega⟩, fun _ => hr⟩
          have := List.length_pos_iff.2 this
          omega
        · exact absurd ⟨⟨by omega, by omega⟩, fun c => absurd c c3⟩ hF
  · rw [if_pos]
    · rw [if_neg]
      simp only [Bool.and_eq_true, decide_eq_true_eq]
      exact fun ⟨⟨q1, _⟩, q2⟩ => hA ⟨q1, q2⟩
    · unfold defA at hA
      have hen := exT_ne d.Body
      revert hA
      by_cases hv : vE d.Body = 0 <;> cases nameB d.Name <;> cases d.Dims.all axB <;> cases d.Red.all axB <;> cases tyB d.Type_ <;> simp [hv, hen]
end Go.Proofs.YtebpdmfmknfkjaaGreatDoor
