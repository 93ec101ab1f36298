import Derived.Test.YtpedfojbfbccaaaGreatSXb
namespace Go.Proofs.YtpedfojbfbccaaaGreat
open Go Go.RowKit Go.Vc
set_option linter.unusedVariables false
set_option linter.unusedSimpArgs false
theorem TeL.mono {l l' : List GTensor} (h : TeL l) (hs : ∀ t ∈ l', t ∈ l) : TeL l' := ⟨fun t ht => h.r t (hs t ht), fun t ht => h.d t (hs t ht), fun t ht => h.v t (hs t ht)⟩
theorem grp_lt {O m I a : Nat} (ha : a < O * m * I) : ∀ d ∈ grp O m I a, d < O * m * I := by
 obtain ⟨q1, q2, q3, q4⟩ := num_split ha
 intro d hd
 unfold grp at hd
 obtain ⟨c, hc, rfl⟩ := List.mem_map.1 hd
 have hc := List.mem_range.1 hc
 have e1 : (a / (m * I) + 1) * m ≤ O * m := Nat.mul_le_mul_right _ q1
 have e2 : (a / (m * I) * m + c + 1) * I ≤ O * m * I := Nat.mul_le_mul_right _ (by rw [Nat.add_mul] at e1; omega)
 rw [Nat.add_mul, Nat.one_mul] at e2
 omega
def sel (l : List GTensor) (g : List Nat) : List GTensor := g.filterMap fun d => l[d]?
theorem sel_len {l : List GTensor} {g : List Nat} (h : ∀ d ∈ g, d < l.length) : (sel l g).length = g.length := by
 induction g with
 | nil => rfl
 | cons d g ih =>
  obtain ⟨x, hx⟩ := at_some (h d (by simp))
  have := ih fun e he => h e (by simp [he])
  unfold sel at this ⊢
  simp [hx, this]
theorem sel_mem {l : List GTensor} {g : List Nat} {t : GTensor} (h : t ∈ sel l g) : t ∈ l := by
 unfold sel at h
 obtain ⟨d, _, hd⟩ := List.mem_filterMap.1 h
 exact List.mem_of_getElem? hd
theorem sel_succ {l : List GTensor} {g : List Nat} {k d : Nat} {x : GTensor} (h : g[k]? = some d) (hx : l[d]? = some x) : sel l (g.take (k + 1)) = sel l (g.take k) ++ [x] := by
 rw [take_succ' h]; unfold sel; rw [List.filterMap_append]; simp [hx]
theorem group_loop {R : Type} {l : List GTensor} {g : List Nat} (hg : ∀ d ∈ g, d < l.length) (hn : g.length ≤ 16) (m : Nat → List GTensor → Int → Option R) (fin : List GTensor → Option R)
  (hm : ∀ f s (k d : Nat) x, g[k]? = some d → l[d]? = some x → m (f + 1) s (k : Int) = (lapp s [x]).bind fun z => m f z (wi64 ((k : Int) + 1)))
  (hz : ∀ f s, m (f + 1) s (g.length : Int) = fin s) : m fu [] 0 = fin (sel l g) := by
 refine loop_eq (L := m) (n := g.length) (by omega) (fun k s => s = sel l (g.take k)) ?_ ?_ [] (by simp [sel])
 ·rintro f k s hk rfl
  obtain ⟨d, hd⟩ := at_some hk
  obtain ⟨x, hx⟩ := at_some (hg d (List.mem_of_getElem? hd))
  left
  refine ⟨_, rfl, ?_⟩
  have hlen : (sel l (g.take k)).length = (g.take k).length := sel_len fun e he => hg e (List.mem_of_mem_take he)
  rw [hm f _ k d x hd hx, lapp_ok (by rw [hlen, List.length_take]; simp; omega), Option.bind_some, wis (by omega), sel_succ hd hx]
 ·rintro f s rfl
  rw [hz, List.take_length]
def axErr (m : GMesh) (l : List GTensor) (axis along : Int) : Int :=
 if chErr m l = 0 then (if 0 ≤ axis ∧ axis < (m.Dims.length : Int) then (match l with | [] => 0 | t0 :: _ => if 0 ≤ along ∧ along < (t0.Dims.length : Int) then 0 else 11) else 23) else chErr m l
theorem Ok.ne {m : GMesh} {l : List GTensor} {md : List Nat} {ty : GType} {dn : List Nat} (h : Ok m l md ty dn) : ∃ t0 r, l = t0 :: r := by
 have := prd_pos h.m.pos
 have h2 := h.len
 rcases l with _ | ⟨t0, r⟩
 ·simp at h2; omega
 ·exact ⟨t0, r, rfl⟩
theorem coll_axes {m : GMesh} {l : List GTensor} (hl : TeL l) (axis along : Int) : m_collective_checkAxes m l axis along = some (axErr m l axis along) := by
 unfold m_collective_checkAxes axErr
 rw [coll_check hl, Option.bind_some]
 by_cases hc : chErr m l = 0
 rotate_left
 ·rw [if_pos (by simp [hc]), if_neg hc]
 rw [if_neg (by simp [hc]), if_pos hc, m_collective_hasAxis, Option.bind_some]
 obtain ⟨md, ty, dn, hok⟩ := Ok.of hc
 obtain ⟨t0, r, rfl⟩ := hok.ne
 by_cases ha : 0 ≤ axis ∧ axis < (m.Dims.length : Int)
 rotate_left
 ·rw [if_pos (by simp; omega), if_neg ha]
 rw [if_neg (by simp; omega), if_pos ha]
 simp only
 by_cases h0 : along < 0
 ·rw [if_neg (by omega)]; simp [gd, h0]
 ·rw [show gd (!(decide (along < 0))) (lat (t0 :: r) 0) = some t0 by unfold gd; rw [if_pos (by simp; omega)]; rfl, Option.bind_some]
  by_cases h1 : along < (t0.Dims.length : Int)
  ·rw [if_neg (by simp; omega), if_pos (by omega)]
  ·rw [if_pos (by simp; omega), if_neg (by omega)]
theorem grp_len (O m I a : Nat) : (grp O m I a).length = m := by simp [grp]
theorem Ok.grp {m : GMesh} {l : List GTensor} {md dn : List Nat} {ty : GType} (h : Ok m l md ty dn) {i x a : Nat} (hx : md[i]? = some x) (ha : a < l.length) :
  (∀ d ∈ Go.Proofs.YtpedfojbfbccaaaGreat.grp (prd (md.take i)) x (prd (md.drop (i + 1))) a, d < l.length) ∧ (Go.Proofs.YtpedfojbfbccaaaGreat.grp (prd (md.take i)) x (prd (md.drop (i + 1))) a).length ≤ 16 ∧ 1 ≤ x ∧ x ≤ 16 := by
 have hax := Ax.of hx
 have hle := le_prd h.m.pos (List.mem_of_getElem? hx)
 have h1 := h.m.pos x (List.mem_of_getElem? hx)
 have h2 := h.m.le
 rw [h.len, hax.prd] at ha ⊢
 exact ⟨grp_lt ha, by rw [grp_len]; omega, h1, by omega⟩
theorem block_ok {md : List Nat} {i x j b w : Nat} (hx : (pt md j)[i]? = some w) (hm : md[i]? = some x) (hp : Pos md) (hb : b % x = 0) (hb1 : 1 ≤ b) : w * (b / x) < (w + 1) * (b / x) ∧ (w + 1) * (b / x) ≤ b := by
 obtain ⟨q, hq, hlt⟩ := (pt_bd j hp).at_ hm
 rw [hx] at hq
 obtain rfl := Option.some.inj hq
 have hx1 : 1 ≤ x := hp x (List.mem_of_getElem? hm)
 have e : x * (b / x) = b := by have := Nat.div_add_mod b x; omega
 have hd : 1 ≤ b / x := by
  rcases Nat.eq_zero_or_pos (b / x) with h | h
  ·rw [h] at e; omega
  ·exact h
 constructor
 ·rw [Nat.add_mul]; omega
 ·have : (w + 1) * (b / x) ≤ x * (b / x) := Nat.mul_le_mul_right _ hlt
  omega
theorem base_Tensors_same {l : List GTensor} (hl : TeL l) (hn : l.length < 4611686018427387904) : m_base_Tensors l l = some true := by
 unfold m_base_Tensors
 rw [if_neg (by simp)]
 refine any_no (n := l.length) hn _ (fun f i hi => ?_) (fun f => ?_)
 ·obtain ⟨t, ht⟩ := at_some hi
  have hm := List.mem_of_getElem? ht
  simp only [m_base_Tensors_l1]
  rw [if_pos (lt_dec hi), lat_at ht, Option.bind_some, Option.bind_some, base_Tensor _ _ (hl.d t hm) (hl.v t hm), Option.bind_some, if_neg (by simp), wis (by omega)]
 ·simp only [m_base_Tensors_l1]
  rw [if_neg (by simp)]
theorem small_spec (m : GMesh) (l : List GTensor) : ∃ b, m_law53_small m l = some b ∧ (b = true → m.Dims.length ≤ 20 ∧ l.length ≤ 20 ∧ ∀ t ∈ l, t.Dims.length ≤ 20 ∧ t.Vals.length ≤ 5000) := by
 unfold m_law53_small
 by_cases hc : 20 < l.length ∨ 20 < m.Dims.length
 ·exact ⟨false, by rw [if_pos (by simp; omega)], fun h => by cases h⟩
 rw [if_neg (by simp; omega)]
 refine loop_fu (L := fun f (_ : Unit) i => m_law53_small_l1 l f i) (n := l.length) (by omega) (fun i _ => ∀ t ∈ l.take i, t.Dims.length ≤ 20 ∧ t.Vals.length ≤ 5000) _ ?_ ?_ () (by simp)
 ·rintro f i - hi hI
  obtain ⟨t, ht⟩ := at_some hi
  simp only [m_law53_small_l1]
  rw [if_pos (lt_dec hi), lat_at ht, Option.bind_some]
  by_cases h1 : 300 < t.Vals.length
  ·right
   have h1a : ¬ (t.Vals.length : Int) ≤ 300 := by omega
   have h1b : (300 : Int) < (t.Vals.length : Int) := by omega
   exact ⟨false, by simp [gd, h1a, h1b], fun h => by cases h⟩
  ·rw [show gd (!(decide (300 < (t.Vals.length : Int)))) (some t) = some t by unfold gd; rw [if_pos (by simp; omega)], Option.bind_some]
   by_cases h2 : 20 < t.Dims.length
   ·right
    exact ⟨false, by rw [if_pos (by simp; omega)], fun h => by cases h⟩
   ·left
    refine ⟨(), fun y hy => ?_, by rw [if_neg (by simp; omega), wis (by omega)]⟩
    rw [take_succ' ht] at hy
    rcases List.mem_append.1 hy with h | h
    ·exact hI y h
    ·rw [List.mem_singleton.1 h]; omega
 ·rintro f - hI
  rw [List.take_length] at hI
  refine ⟨true, ?_, fun _ => ⟨by omega, by omega, hI⟩⟩
  simp only [m_law53_small_l1]
  rw [if_neg (by simp)]
end Go.Proofs.YtpedfojbfbccaaaGreat
