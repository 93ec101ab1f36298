import Derived.Test.YtpedfojbfbccaaaGreatSXg
import Derived.Test.YtpedfojbfbccaaaGreatSXa
namespace Go.Proofs.YtpedfojbfbccaaaGreat
open Go Go.RowKit Go.Vc
set_option linter.unusedVariables false
set_option linter.unusedSimpArgs false
def SpB (m : GMesh) (rank : Nat) (s : List Int) : Prop := s.length = rank ∧ PlB s ∧ ∀ x ∈ s, x < (m.Dims.length : Int)
theorem spec_loop {R : Type} {m : GMesh} {s : List Int} (hs : s.length < 4611686018427387904) (W fin : Option R) (L : Nat → Int → Option R)
  (hm : ∀ f (i : Nat) x, s[i]? = some x → L (f + 1) (i : Int) = if (m.Dims.length : Int) ≤ x then W else L f ((i + 1 : Nat) : Int)) (hz : ∀ f, L (f + 1) (s.length : Int) = fin) [Decidable (∀ x ∈ s, x < (m.Dims.length : Int))] :
  L fu 0 = if ∀ x ∈ s, x < (m.Dims.length : Int) then fin else W := by
 refine loop_eq (L := fun f (_ : Unit) i => L f i) (n := s.length) hs (fun i _ => ∀ x ∈ s.take i, x < (m.Dims.length : Int)) ?_ ?_ () (by simp)
 ·rintro f i - hi hI
  obtain ⟨x, hx⟩ := at_some hi
  rw [hm f i x hx]
  by_cases hc : (m.Dims.length : Int) ≤ x
  ·right
   rw [if_pos hc, if_neg fun h => by have := h x (List.mem_of_getElem? hx); omega]
  ·left
   refine ⟨(), fun y hy => ?_, by rw [if_neg hc]⟩
   rw [take_succ' hx] at hy
   rcases List.mem_append.1 hy with h | h
   ·exact hI y h
   ·rw [List.mem_singleton.1 h]; omega
 ·rintro f - hI
  rw [List.take_length] at hI
  rw [hz, if_pos hI]
open Classical in
theorem coll_checkSpec (m : GMesh) (rank : Nat) (s : List Int) (hs : s.length < 4611686018427387904) : m_collective_checkSpec m (rank : Int) s = some (decide (SpB m rank s)) := by
 obtain ⟨b, h1, h2, h3⟩ := plain_same s hs
 unfold m_collective_checkSpec
 rw [h1]
 by_cases hl : s.length = rank
 rotate_left
 ·have hl' : ¬ (s.length : Int) = (rank : Int) := by omega
  rw [decide_eq_false (fun h : SpB m rank s => hl h.1)]
  simp [gd, hl']
 have hl' : (s.length : Int) = (rank : Int) := by omega
 rw [decide_eq_true hl', show gd (!(!true)) (some b) = some b from rfl, Option.bind_some]
 cases b
 ·rw [decide_eq_false (fun h : SpB m rank s => by have := h3.2 h.2.1; cases this)]; rfl
 rw [if_neg (by simp)]
 rw [spec_loop (m := m) (s := s) hs (some false) (some true) (m_collective_checkSpec_l1 s m) (fun f i x hx => by
  have hlt := (List.getElem?_eq_some_iff.1 hx).1
  simp only [m_collective_checkSpec_l1]
  rw [if_pos (lt_dec hlt), lat_at hx, Option.bind_some, wis (by omega)]
  by_cases hc : (m.Dims.length : Int) ≤ x
  ·rw [if_pos (by simpa using hc), if_pos hc]
  ·rw [if_neg (by simpa using hc), if_neg hc]) (fun f => by simp only [m_collective_checkSpec_l1]; rw [if_neg (by simp)])]
 by_cases hc : ∀ x ∈ s, x < (m.Dims.length : Int)
 ·rw [if_pos hc, decide_eq_true (show SpB m rank s from ⟨hl, h3.1 rfl, hc⟩)]
 ·rw [if_neg hc, decide_eq_false fun h : SpB m rank s => hc h.2.2]
open Classical in
theorem ref_spec_round {m : GMesh} {dn : List Nat} {from_ to_ s : List Int} {i : Nat} (hi : ([from_, to_] : List (List Int))[i]? = some s) (hs : s.length ≤ 40) (f : Nat) :
  m_ref53_specs_l3 from_ to_ (ci dn) m (f + 1) (i : Int) = if SpB m dn.length s then m_ref53_specs_l3 from_ to_ (ci dn) m f ((i + 1 : Nat) : Int) else some 24 := by
 have hi2 : i < 2 := by have := (List.getElem?_eq_some_iff.1 hi).1; simpa using this
 obtain ⟨b, h1, h2, h3⟩ := plain_same s (by omega)
 simp only [m_ref53_specs_l3]
 rw [if_pos (by simp; omega), lat_at hi, Option.bind_some, ci_len]
 by_cases hl : s.length = dn.length
 rotate_left
 ·have hl' : ¬ (s.length : Int) = (dn.length : Int) := by omega
  rw [if_neg (fun h : SpB m dn.length s => hl h.1)]
  simp [gd, hl', h2]
 have hl' : (s.length : Int) = (dn.length : Int) := by omega
 rw [decide_eq_true hl', show gd (!(!true)) (some s) = some s from rfl, Option.bind_some, h2, show gd (!(!true)) (some b) = some b from rfl, Option.bind_some]
 cases b
 ·rw [if_neg (fun h : SpB m dn.length s => by have := h3.2 h.2.1; cases this)]; rfl
 rw [if_neg (by simp)]
 rw [spec_loop (m := m) (s := s) (by omega) (some 24) (m_ref53_specs_l3 from_ to_ (ci dn) m f ((i + 1 : Nat) : Int)) (m_ref53_specs_l4 from_ to_ (i : Int) m (m_ref53_specs_l3 from_ to_ (ci dn) m f)) (fun g k x hx => by
  have hlt := (List.getElem?_eq_some_iff.1 hx).1
  simp only [m_ref53_specs_l4]
  rw [lat_at hi, Option.bind_some, if_pos (lt_dec hlt), Option.bind_some, lat_at hx, Option.bind_some, wis (by omega)]
  by_cases hc : (m.Dims.length : Int) ≤ x
  ·rw [if_pos (by simpa using hc), if_pos hc]
  ·rw [if_neg (by simpa using hc), if_neg hc]) (fun g => by
  simp only [m_ref53_specs_l4]
  rw [lat_at hi, Option.bind_some, if_neg (by simp), m_ref53_specs_j4, wis (by omega)])]
 by_cases hc : ∀ x ∈ s, x < (m.Dims.length : Int)
 ·rw [if_pos hc, if_pos (show SpB m dn.length s from ⟨hl, h3.1 rfl, hc⟩)]
 ·rw [if_neg hc, if_neg fun h : SpB m dn.length s => hc h.2.2]
def whV (m : GMesh) (dn : List Nat) (from_ : List Int) (i : Nat) : Int := if 0 ≤ (from_[i]?).getD 0 then wi64 (((dn[i]?).getD 0 : Nat) * (m.Dims[((from_[i]?).getD 0).toNat]?).getD 0) else ((dn[i]?).getD 0 : Nat)
def whL (m : GMesh) (dn : List Nat) (from_ : List Int) (n : Nat) : List Int := (List.range n).map (whV m dn from_)
theorem whL_len (m : GMesh) (dn : List Nat) (from_ : List Int) (n : Nat) : (whL m dn from_ n).length = n := by simp [whL]
theorem whL_succ (m : GMesh) (dn : List Nat) (from_ : List Int) (n : Nat) : whL m dn from_ (n + 1) = whL m dn from_ n ++ [whV m dn from_ n] := by simp [whL, List.range_succ]
theorem lat_sp {m : GMesh} {md : List Nat} (hm : m.Dims = ci md) {x : Int} (h0 : 0 ≤ x) (h1 : x < (m.Dims.length : Int)) : ∃ q : Nat, md[x.toNat]? = some q ∧ lat m.Dims x = some (q : Int) ∧ m.Dims[x.toNat]? = some (q : Int) := by
 obtain ⟨n, rfl⟩ := Int.eq_ofNat_of_zero_le h0
 rw [hm, ci_len] at h1
 obtain ⟨q, hq⟩ := at_some (l := md) (i := n) (by omega)
 exact ⟨q, by simpa using hq, by rw [hm]; exact ci_at hq, by rw [hm, ci_get, Int.toNat_natCast, hq]; rfl⟩
theorem checkReshard_same {m : GMesh} {l : List GTensor} {md dn : List Nat} {ty : GType} (hl : TeL l) (h : Ok m l md ty dn) {from_ to_ : List Int} (h1 : from_.length ≤ 40) (h2 : to_.length ≤ 40) :
  ∃ e, m_collective_checkReshard m l from_ to_ = some e ∧ m_ref53_specs m (ci dn) from_ to_ = some e := by
 classical
 obtain ⟨t0, r, hl0⟩ := h.ne
 have ht0 := (h.ten t0 (by rw [hl0]; simp)).1
 have a0 : lat l 0 = some t0 := by rw [hl0]; rfl
 have hdl := ht0.shp.len
 have hle := ht0.shp.le
 unfold m_collective_checkReshard m_ref53_specs
 rw [coll_check hl, Option.bind_some, h.ch, if_neg (by simp), a0, Option.bind_some, ht0.shp.eq, ci_len, coll_checkSpec m dn.length from_ (by omega), Option.bind_some]
 obtain ⟨g, hg⟩ : ∃ g, fu = g + 1 + 1 + 1 := ⟨fu - 3, rfl⟩
 have e0 := ref_spec_round (m := m) (dn := dn) (from_ := from_) (to_ := to_) (i := 0) (s := from_) rfl h1 (g + 1 + 1)
 have e1 := ref_spec_round (m := m) (dn := dn) (from_ := from_) (to_ := to_) (i := 1) (s := to_) rfl h2 (g + 1)
 rw [← hg] at e0
 replace e0 : m_ref53_specs_l3 from_ to_ (ci dn) m fu 0 = _ := e0
 rw [e0]
 by_cases c1 : SpB m dn.length from_
 rotate_left
 ·refine ⟨24, ?_, by rw [if_neg c1]⟩
  rw [decide_eq_false c1]; simp [gd]
 rw [decide_eq_true c1, show gd (!(!true)) (some t0) = some t0 from rfl, Option.bind_some, ht0.shp.eq, ci_len, coll_checkSpec m dn.length to_ (by omega), show gd (!(!true)) (some (decide (SpB m dn.length to_))) = some (decide (SpB m dn.length to_)) from rfl, Option.bind_some, if_pos c1, e1]
 by_cases c2 : SpB m dn.length to_
 rotate_left
 ·refine ⟨24, ?_, by rw [if_neg c2]⟩
  rw [decide_eq_false c2]; rfl
 rw [decide_eq_true c2, if_neg (by decide), if_pos c2, Option.bind_some, lapp_nil (by rw [ht0.shp.eq, ci_len]; omega), Option.bind_some, ht0.shp.eq]
 have hP : m_collective_checkReshard_l2 from_ m to_ fu (ci dn) 0 = m_collective_checkReshard_j1 to_ m (whL m dn from_ dn.length) := by
  refine loop_eq (L := m_collective_checkReshard_l2 from_ m to_) (n := dn.length) (by omega) (fun i s => s = whL m dn from_ i ++ (ci dn).drop i) ?_ ?_ (ci dn) (by simp [whL])
  ·rintro f i s hi rfl
   obtain ⟨x, hx⟩ := at_some (l := from_) (i := i) (by rw [c1.1]; exact hi)
   obtain ⟨d, hd⟩ := at_some hi
   have hdc : (ci dn)[i]? = some (d : Int) := by rw [ci_get, hd]; rfl
   left
   have hset : ∀ y : Int, (whL m dn from_ i ++ (ci dn).drop i).set i y = whL m dn from_ i ++ [y] ++ (ci dn).drop (i + 1) := fun y => by
    rw [List.set_append_right _ _ (by rw [whL_len]; exact Nat.le_refl _), whL_len, drop_at hdc]; simp
   simp only [m_collective_checkReshard_l2]
   rw [c1.1, if_pos (lt_dec hi), lat_at hx, Option.bind_some]
   by_cases h0 : 0 ≤ x
   ·obtain ⟨q, hq, hq2, hq3⟩ := lat_sp h.m.eq h0 (c1.2.2 x (List.mem_of_getElem? hx))
    refine ⟨_, rfl, ?_⟩
    rw [if_pos (by simpa using h0), latN, List.getElem?_append_right (by rw [whL_len]; exact Nat.le_refl _), whL_len, List.getElem?_drop, show i + (i - i) = i by omega, hdc, Option.bind_some, hq2, Option.bind_some, if_pos (by simp [whL_len, ci_len]; omega), m_collective_checkReshard_j2, Int.toNat_natCast, hset, wis (by omega), whL_succ]
    unfold whV
    rw [hx, hd]
    simp only [Option.getD_some]
    rw [if_pos h0, hq3]; rfl
   ·refine ⟨_, rfl, ?_⟩
    rw [if_neg (by simpa using h0), m_collective_checkReshard_j2, wis (by omega), whL_succ, drop_at hdc]
    unfold whV
    rw [hx, hd]
    simp only [Option.getD_some]
    rw [if_neg h0]; simp
  ·rintro f s rfl
   simp only [m_collective_checkReshard_l2]
   rw [c1.1, if_neg (by simp), List.drop_of_length_le (by rw [ci_len]; exact Nat.le_refl _), List.append_nil]
 have hR : m_ref53_specs_l3 from_ to_ (ci dn) m (g + 1) ((1 + 1 : Nat) : Int) = m_ref53_specs_j2 to_ m (whL m dn from_ dn.length) := by
  simp only [m_ref53_specs_l3]
  rw [if_neg (by simp), m_ref53_specs_j1]
  refine loop_eq (L := m_ref53_specs_l2 (ci dn) from_ m to_) (n := dn.length) (by omega) (fun i s => s = whL m dn from_ i) ?_ ?_ [] rfl
  ·rintro f i s hi rfl
   obtain ⟨x, hx⟩ := at_some (l := from_) (i := i) (by rw [c1.1]; exact hi)
   obtain ⟨d, hd⟩ := at_some hi
   left
   refine ⟨_, rfl, ?_⟩
   simp only [m_ref53_specs_l2]
   rw [ci_len, if_pos (lt_dec hi), ci_at hd, Option.bind_some, lat_at hx, Option.bind_some]
   by_cases h0 : 0 ≤ x
   ·obtain ⟨q, hq, hq2, hq3⟩ := lat_sp h.m.eq h0 (c1.2.2 x (List.mem_of_getElem? hx))
    rw [if_pos (by simpa using h0), Option.bind_some, hq2, Option.bind_some, m_ref53_specs_j3, lapp_ok (by rw [whL_len]; simp; omega), Option.bind_some, wis (by omega), whL_succ]
    unfold whV
    rw [hx, hd]
    simp only [Option.getD_some]
    rw [if_pos h0, hq3]; rfl
   ·rw [if_neg (by simpa using h0), m_ref53_specs_j3, lapp_ok (by rw [whL_len]; simp; omega), Option.bind_some, wis (by omega), whL_succ]
    unfold whV
    rw [hx, hd]
    simp only [Option.getD_some]
    rw [if_neg h0]
  ·rintro f s rfl
   simp only [m_ref53_specs_l2]
   rw [ci_len, if_neg (by simp)]
 rw [hP, hR]
 have hwl := whL_len m dn from_ dn.length
 generalize whL m dn from_ dn.length = wl at hwl
 unfold m_collective_checkReshard_j1 m_ref53_specs_j2
 rw [shape_Validate wl (by omega), ref12_Shape wl (by omega), Option.bind_some, Option.bind_some]
 by_cases hsh : shErr wl = 0
 rotate_left
 ·exact ⟨shErr wl, by rw [if_pos (by simp [hsh])], by rw [if_pos (by simp [hsh])]⟩
 rw [if_neg (by simp [hsh]), if_neg (by simp [hsh])]
 have key := loop_sim (L := fun f (_ : Unit) i => m_collective_checkReshard_l1 to_ wl m f i) (M := fun f (_ : Unit) i => m_ref53_specs_l1 wl to_ m f i) (n := dn.length) (by omega) (fun _ _ _ => True) (fun _ => True) ?_ ?_ () () trivial
 ·obtain ⟨e, _, k1, k2⟩ := key
  exact ⟨e, k1, k2⟩
 ·rintro i - - hi -
  obtain ⟨x, hx⟩ := at_some (l := to_) (i := i) (by rw [c2.1]; exact hi)
  obtain ⟨d, hd⟩ := at_some (l := wl) (i := i) (by omega)
  simp only [m_collective_checkReshard_l1, m_ref53_specs_l1]
  rw [c2.1, hwl, lat_at hx, lat_at hd]
  simp only [lt_dec hi, if_true, Option.bind_some]
  by_cases h0 : 0 ≤ x
  ·obtain ⟨q, hq, hq2, hq3⟩ := lat_sp h.m.eq h0 (c2.2.2 x (List.mem_of_getElem? hx))
   have hq1 := h.m.pos q (List.mem_of_getElem? hq)
   have hq0 : ¬ (q : Int) = 0 := by omega
   simp only [h0, decide_true, gd, if_true, Option.bind_some, hq2, Bool.true_and, forall_const, ne_eq, hq0, not_false_eq_true]
   by_cases hc : Int.tmod d (q : Int) = 0
   ·left
    exact ⟨(), (), trivial, fun f => by rw [if_neg (by simp [hc]), wis (by omega)], fun f => by rw [if_neg (by simp [hc]), wis (by omega)]⟩
   ·right
    exact ⟨15, trivial, fun f => by rw [if_pos (by simp [hc])], fun f => by rw [if_pos (by simp [hc])]⟩
  ·left
   refine ⟨(), (), trivial, fun f => ?_, fun f => ?_⟩
   ·simp only [h0, decide_false, gd, Bool.false_eq_true, if_false, Option.bind_some, Bool.false_and, false_implies, if_true]
    rw [wis (by omega)]
   ·simp only [h0, decide_false, gd, Bool.false_eq_true, if_false, Option.bind_some, Bool.false_and, false_implies, if_true]
    rw [wis (by omega)]
 ·rintro - - -
  refine ⟨0, trivial, fun f => ?_, fun f => ?_⟩
  ·simp only [m_collective_checkReshard_l1]
   rw [c2.1, if_neg (by simp)]
  ·simp only [m_ref53_specs_l1]
   rw [hwl, if_neg (by simp)]
theorem copy_loop {m : GMesh} {l : List GTensor} {md dn : List Nat} {ty : GType} (hl : TeL l) (h : Ok m l md ty dn) (pl : List GTransfer) : m_collective_Reshard_l2 l pl m fu [] 0 = m_collective_Reshard_l1 pl m fu l 0 := by
 have hlen := h.len
 have hle := h.m.le
 refine loop_eq (L := m_collective_Reshard_l2 l pl m) (n := l.length) (by omega) (fun i s => s = l.take i) ?_ ?_ [] (by simp)
 ·rintro f i s hi rfl
  obtain ⟨t, ht⟩ := at_some hi
  have hmem := List.mem_of_getElem? ht
  have hten := (h.ten t hmem).1
  have k1 := hten.shp.len; have k2 := hten.shp.le; have k3 := hten.len
  have k4 : t.Dims.length = dn.length := by rw [hten.shp.eq, ci_len]
  left
  refine ⟨_, rfl, ?_⟩
  have hNew : m_tensor_New t.Type_ t.Dims t.Vals = some (t, 0) := by
   unfold m_tensor_New
   rw [lapp_nil (by omega), Option.bind_some, lapp_nil (by omega), Option.bind_some]
   have := tensor_Validate (hl.r t hmem) (hl.d t hmem) (hl.v t hmem)
   replace this : m_tensor_Validate ⟨t.Type_, t.Dims, t.Vals⟩ = some (teErr t) := this
   rw [this, Option.bind_some, hten.err, if_neg (by simp)]
  simp only [m_collective_Reshard_l2]
  rw [if_pos (lt_dec hi), lat_at ht, Option.bind_some, hNew, Option.bind_some, lapp_ok (by simp; omega), Option.bind_some, wis (by omega), take_succ' ht]
 ·rintro f s rfl
  simp only [m_collective_Reshard_l2]
  rw [if_neg (by simp), m_collective_Reshard_j1, List.take_length]
theorem Reshard_same {m : GMesh} {l : List GTensor} (hl : TeL l) (hn : l.length ≤ 20) {from_ to_ : List Int} (h1 : from_.length ≤ 40) (h2 : to_.length ≤ 40) : ∃ r, (TeL r.1 ∧ r.1.length ≤ 20) ∧ m_collective_Reshard m l from_ to_ = some r ∧ m_ref53_Reshard m l from_ to_ = some r := by
 have e1 : m_collective_Reshard m l from_ to_ = m_collective_Reshard m l from_ to_ := rfl
 have e2 : m_ref53_Reshard m l from_ to_ = m_ref53_Reshard m l from_ to_ := rfl
 conv at e1 => rhs; unfold m_collective_Reshard
 conv at e2 => rhs; unfold m_ref53_Reshard; rw [ref53_Check hl, Option.bind_some]
 by_cases hc : chErr m l = 0
 rotate_left
 ·refine ⟨([], 0, chErr m l), ⟨TeL.nil, by simp⟩, ?_, by rw [e2, if_pos (by simp [hc])]⟩
  have : m_collective_checkReshard m l from_ to_ = some (chErr m l) := by
   unfold m_collective_checkReshard
   rw [coll_check hl, Option.bind_some, if_pos (by simp [hc])]
  rw [e1, this, Option.bind_some, if_pos (by simp [hc])]
 obtain ⟨md, ty, dn, hok⟩ := Ok.of hc
 obtain ⟨t0, r0, hl0⟩ := hok.ne
 have ht0 := (hok.ten t0 (by rw [hl0]; simp)).1
 have a0 : lat l 0 = some t0 := by rw [hl0]; rfl
 obtain ⟨e, c1, c2⟩ := checkReshard_same hl hok h1 h2
 rw [c1, Option.bind_some] at e1
 rw [if_neg (by simp [hc]), a0, Option.bind_some, ht0.shp.eq, c2, Option.bind_some] at e2
 by_cases he : e = 0
 rotate_left
 ·exact ⟨([], 0, e), ⟨TeL.nil, by simp⟩, by rw [e1, if_pos (by simp [he])], by rw [e2, if_pos (by simp [he])]⟩
 rw [if_neg (by simp [he])] at e1 e2
 obtain ⟨pl, p1, p2, p3⟩ := Plan_same from_ to_ h1 h2
 rw [p1, Option.bind_some, copy_loop hl hok] at e1
 rw [p2, Option.bind_some] at e2
 have key := loop_sim (L := m_collective_Reshard_l1 pl m) (M := m_ref53_Reshard_l1 pl m) (n := pl.length) (by omega) (fun i s t => s = t ∧ TeL s ∧ s.length ≤ 20) (fun r => TeL r.1 ∧ r.1.length ≤ 20) ?_ ?_ l l ⟨rfl, hl, hn⟩
 ·obtain ⟨r, q0, q1, q2⟩ := key
  exact ⟨r, q0, e1.trans q1, e2.trans q2⟩
 ·rintro i s _ hi ⟨rfl, hs, hsn⟩
  obtain ⟨tr, htr⟩ := at_some hi
  have fin : ∀ (q : List GTensor × Int), TeL q.1 → q.1.length ≤ 20 → (∀ f, m_collective_Reshard_l1 pl m (f + 1) s (i : Int) = m_collective_Reshard_j2 (m_collective_Reshard_l1 pl m f) (i : Int) q.1 q.2) → (∀ f, m_ref53_Reshard_l1 pl m (f + 1) s (i : Int) = m_ref53_Reshard_j2 (m_ref53_Reshard_l1 pl m f) (i : Int) q.1 q.2) →
    (∃ s' t', (s' = t' ∧ TeL s' ∧ s'.length ≤ 20) ∧ (∀ f, m_collective_Reshard_l1 pl m (f + 1) s (i : Int) = m_collective_Reshard_l1 pl m f s' ((i + 1 : Nat) : Int)) ∧ ∀ f, m_ref53_Reshard_l1 pl m (f + 1) s (i : Int) = m_ref53_Reshard_l1 pl m f t' ((i + 1 : Nat) : Int)) ∨
    ∃ r : List GTensor × Int × Int, (TeL r.1 ∧ r.1.length ≤ 20) ∧ (∀ f, m_collective_Reshard_l1 pl m (f + 1) s (i : Int) = some r) ∧ ∀ f, m_ref53_Reshard_l1 pl m (f + 1) s (i : Int) = some r := fun q k1 k2 k3 k4 => by
   by_cases hq : q.2 = 0
   ·left
    exact ⟨q.1, q.1, ⟨rfl, k1, k2⟩, fun f => by rw [k3, m_collective_Reshard_j2, if_neg (by simp [hq]), wis (by omega)], fun f => by rw [k4, m_ref53_Reshard_j2, if_neg (by simp [hq]), wis (by omega)]⟩
   ·right
    exact ⟨([], 0, q.2), ⟨TeL.nil, by simp⟩, fun f => by rw [k3, m_collective_Reshard_j2, if_pos (by simp [hq])], fun f => by rw [k4, m_ref53_Reshard_j2, if_pos (by simp [hq])]⟩
  obtain ⟨qs, s1, s2, s3⟩ := SliceLocal_same (m := m) hs tr.Mesh tr.From
  by_cases o3 : tr.Op = 3
  ·obtain ⟨q, q1, q2, q3⟩ := AllToAll_same (m := m) hs tr.Mesh tr.From tr.To
   refine fin q q1.1 (by have := q1.2; omega) (fun f => ?_) (fun f => ?_)
   ·simp only [m_collective_Reshard_l1]
    rw [if_pos (lt_dec hi), lat_at htr, Option.bind_some, if_pos (by simpa using o3), q2, Option.bind_some]
   ·simp only [m_ref53_Reshard_l1]
    rw [if_pos (lt_dec hi), lat_at htr, Option.bind_some, s3, Option.bind_some, if_neg (by simp [o3]), m_ref53_Reshard_j1, if_pos (by simpa using o3), q3, Option.bind_some]
  ·by_cases o1 : tr.Op = 1
   ·obtain ⟨q, q1, q2, q3⟩ := AllGather_same (m := m) hs tr.Mesh tr.From
    refine fin q q1.1 (by have := q1.2; omega) (fun f => ?_) (fun f => ?_)
    ·simp only [m_collective_Reshard_l1]
     rw [if_pos (lt_dec hi), lat_at htr, Option.bind_some, if_neg (by simpa using o3), if_pos (by simpa using o1), q2, Option.bind_some]
    ·simp only [m_ref53_Reshard_l1]
     rw [if_pos (lt_dec hi), lat_at htr, Option.bind_some, s3, Option.bind_some, if_pos (by simpa using o1), q3, Option.bind_some, m_ref53_Reshard_j1, if_neg (by simpa using o3)]
   ·refine fin qs s1.1 (by have := s1.2; omega) (fun f => ?_) (fun f => ?_)
    ·simp only [m_collective_Reshard_l1]
     rw [if_pos (lt_dec hi), lat_at htr, Option.bind_some, if_neg (by simpa using o3), if_neg (by simpa using o1), s2, Option.bind_some]
    ·simp only [m_ref53_Reshard_l1]
     rw [if_pos (lt_dec hi), lat_at htr, Option.bind_some, s3, Option.bind_some, if_neg (by simpa using o1), m_ref53_Reshard_j1, if_neg (by simpa using o3)]
 ·rintro s _ ⟨rfl, hs, hsn⟩
  refine ⟨(s, (pl.length : Int), 0), ⟨hs, hsn⟩, fun f => ?_, fun f => ?_⟩
  ·simp only [m_collective_Reshard_l1]; rw [if_neg (by simp)]
  ·simp only [m_ref53_Reshard_l1]; rw [if_neg (by simp)]
theorem law_CollectiveReshards (m : GMesh) (l : List GTensor) (from_ to_ : List Int) (_ : okGMesh m) (hl : okL okGTensor l) (_ : okL (okI .i64) from_) (_ : okL (okI .i64) to_) : m_law53_CollectiveReshards m l from_ to_ = some true := by
 unfold m_law53_CollectiveReshards
 obtain ⟨b, h1, h2⟩ := small_spec m l
 rw [h1, Option.bind_some]
 cases b
 ·simp [ex53b]
 obtain ⟨_, s2, s3⟩ := h2 rfl
 have hT := TeL.of hl s3
 by_cases hs : from_.length ≤ 40 ∧ to_.length ≤ 40
 rotate_left
 ·rw [if_pos (by simp; omega), ex53b]; rfl
 rw [if_neg (by simp; omega)]
 obtain ⟨r, ⟨r1, r2⟩, r3, r4⟩ := Reshard_same (m := m) hT s2 hs.1 hs.2
 rw [r3, r4, Option.bind_some, Option.bind_some, base_Tensors_same r1 (by omega), ex53b]
 simp [gd]
end Go.Proofs.YtpedfojbfbccaaaGreat
