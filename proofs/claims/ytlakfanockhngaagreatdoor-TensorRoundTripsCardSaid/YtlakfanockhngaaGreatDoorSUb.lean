/- Permutation of axes: program and reference; the law TensorPermutes. Conditions: the ranges of Go's types. -/
import Derived.Test.YtlakfanockhngaaGreatDoorSUa
namespace Go.Proofs.YtlakfanockhngaaGreatDoor
open Go Go.RowKit Go.Vc
set_option linter.unusedVariables false
set_option linter.unusedSimpArgs false

/-! ### Orders of axes -/
structure Pm (n : Nat) (on : List Nat) : Prop where
  len : on.length = n
  lt : ∀ a ∈ on, a < n
  nd : on.Nodup
def ix : List Nat → Nat → Nat
  | [], _ => 0
  | b :: l, a => if a = b then 0 else ix l a + 1
theorem ix_get {l : List Nat} {a : Nat} (h : a ∈ l) : l[ix l a]? = some a := by
  induction l with
  | nil => cases h
  | cons b l ih =>
    unfold ix
    by_cases e : a = b
    · rw [if_pos e]; simp [e]
    · rw [if_neg e]
      rcases List.mem_cons.1 h with h | h
      · exact absurd h e
      · simpa using ih h
theorem ix_of {l : List Nat} (hn : l.Nodup) {k a : Nat} (h : l[k]? = some a) : ix l a = k := by
  induction l generalizing k with
  | nil => simp at h
  | cons b l ih =>
    rw [List.nodup_cons] at hn
    unfold ix
    cases k with
    | zero => simp at h; rw [if_pos h.symm]
    | succ k =>
      have h' : l[k]? = some a := by simpa using h
      have hm := List.mem_of_getElem? h'
      rw [if_neg (fun (e : a = b) => hn.1 (e ▸ hm)), ih hn.2 h']
theorem nd_take {l : List Nat} (h : l.Nodup) {i a : Nat} (hi : l[i]? = some a) : a ∉ l.take i := by
  intro hm
  obtain ⟨k, hk⟩ := List.mem_iff_getElem?.1 hm
  rw [List.getElem?_take] at hk
  split at hk
  · have e1 := ix_of h hk
    have e2 := ix_of h hi
    omega
  · cases hk
theorem mid_sub {l m1 m2 : List Nat} {x : Nat} (hx : x ∉ l) (hs : ∀ a ∈ x :: l, a ∈ m1 ++ x :: m2) : ∀ a ∈ l, a ∈ m1 ++ m2 := fun a ha => by
  have := hs a (by simp [ha])
  simp only [List.mem_append, List.mem_cons] at this ⊢
  rcases this with h | rfl | h
  · exact .inl h
  · exact absurd ha hx
  · exact .inr h
theorem sub_prd {g : Nat → Nat} : ∀ (l m : List Nat), l.Nodup → (∀ a ∈ l, a ∈ m) → l.length = m.length → prd (l.map g) = prd (m.map g)
  | [], m, _, _, h => by cases m with | nil => rfl | cons => simp at h
  | x :: l, m, hn, hs, h => by
    rw [List.nodup_cons] at hn
    obtain ⟨m1, m2, rfl⟩ := List.append_of_mem (hs x (by simp))
    have ih := sub_prd (g := g) l (m1 ++ m2) hn.2 (mid_sub hn.1 hs) (by simp at h ⊢; omega)
    rw [List.map_cons, prd, ih]
    simp only [List.map_append, List.map_cons, prd_app, prd]
    rw [← Nat.mul_assoc, ← Nat.mul_assoc, Nat.mul_comm (g x)]
theorem sub_len : ∀ (l m : List Nat), l.Nodup → (∀ a ∈ l, a ∈ m) → l.length ≤ m.length
  | [], m, _, _ => by simp
  | x :: l, m, hn, hs => by
    rw [List.nodup_cons] at hn
    obtain ⟨m1, m2, rfl⟩ := List.append_of_mem (hs x (by simp))
    have ih := sub_len l (m1 ++ m2) hn.2 (mid_sub hn.1 hs)
    simp at ih ⊢; omega
theorem Pm.mem {n : Nat} {on : List Nat} (h : Pm n on) {a : Nat} (ha : a < n) : a ∈ on := by
  apply Classical.byContradiction
  intro hc
  have := sub_len (a :: on) (List.range n) (by rw [List.nodup_cons]; exact ⟨hc, h.nd⟩) (fun b hb => by
    rcases List.mem_cons.1 hb with rfl | hb
    · simpa using ha
    · simpa using h.lt b hb)
  simp [h.len] at this
  omega
def pdim (dn on : List Nat) : List Nat := on.map fun a => (dn[a]?).getD 0
theorem pdim_prd {dn on : List Nat} (h : Pm dn.length on) : prd (pdim dn on) = prd dn := by
  unfold pdim
  rw [sub_prd on (List.range dn.length) h.nd (fun a ha => List.mem_range.2 (h.lt a ha)) (by simp [h.len])]
  congr 1
  refine list_ext' (by simp) fun j hj => ?_
  simp at hj
  simp [hj]
theorem pdim_len (dn on : List Nat) : (pdim dn on).length = on.length := by simp [pdim]
theorem pdim_at {dn on : List Nat} (h : Pm dn.length on) {k a : Nat} (hk : on[k]? = some a) : ∃ x, dn[a]? = some x ∧ (pdim dn on)[k]? = some x := by
  obtain ⟨x, hx⟩ := at_some (h.lt a (List.mem_of_getElem? hk))
  exact ⟨x, hx, by simp [pdim, hk, hx]⟩
theorem pdim_shp {d : List Int} {dn on : List Nat} (hs : Shp d dn) (h : Pm dn.length on) : Shp (ci (pdim dn on)) (pdim dn on) := by
  refine ⟨rfl, fun x hx => ?_, by rw [pdim_prd h]; exact hs.le, by rw [pdim_len, h.len]; exact hs.len⟩
  unfold pdim at hx
  obtain ⟨a, ha, rfl⟩ := List.mem_map.1 hx
  obtain ⟨y, hy⟩ := at_some (h.lt a ha)
  rw [hy]; exact hs.pos y (List.mem_of_getElem? hy)
/-- The point before the axes were permuted. -/
def unp (on p : List Nat) : List Nat := (List.range on.length).map fun a => (p[ix on a]?).getD 0
theorem unp_len (on p : List Nat) : (unp on p).length = on.length := by simp [unp]
theorem unp_at {n : Nat} {on p : List Nat} (h : Pm n on) {k a x : Nat} (hk : on[k]? = some a) (hx : p[k]? = some x) : (unp on p)[a]? = some x := by
  have ha := h.lt a (List.mem_of_getElem? hk)
  unfold unp; simp [h.len, ha, ix_of h.nd hk, hx]
theorem unp_eq {n : Nat} {on p q : List Nat} (h : Pm n on) (hq : q.length = n) (hp : p.length = n) (he : ∀ k a x : Nat, on[k]? = some a → p[k]? = some x → q[a]? = some x) : q = unp on p := by
  refine list_ext' (by rw [hq, unp_len, h.len]) fun j hj => ?_
  have h1 := ix_get (h.mem (a := j) (by omega))
  have h2 := (List.getElem?_eq_some_iff.1 h1).1
  obtain ⟨x, hx⟩ := at_some (l := p) (i := ix on j) (by rw [hp, ← h.len]; exact h2)
  rw [he _ _ _ h1 hx, unp_at h h1 hx]
theorem unp_bd {dn on p : List Nat} (h : Pm dn.length on) (hb : Bd (pdim dn on) p) : Bd dn (unp on p) := by
  refine Bd.of (by rw [unp_len, h.len]) fun a x q hx hq => ?_
  have h1 := ix_get (h.mem (a := a) (List.getElem?_eq_some_iff.1 hx).1)
  obtain ⟨y, hy, hy2⟩ := pdim_at h h1
  obtain ⟨z, hz, hlt⟩ := hb.at_ hy2
  rw [unp_at h h1 hz] at hq
  rw [hx] at hy
  rw [Option.some.inj hy, ← Option.some.inj hq]; exact hlt
/-- The loop that puts a point's coordinates into their places. -/
theorem perm_loop {R : Type} {n : Nat} {on p : List Nat} (h : Pm n on) (hp : p.length = n) (hn : n ≤ 6) (m : Nat → List Int → Int → Option R) (fin : List Int → Option R)
    (hm : ∀ f s (k a x : Nat), on[k]? = some a → p[k]? = some x → s.length = n → m (f + 1) s (k : Int) = m f (s.set a (x : Int)) ((k + 1 : Nat) : Int))
    (hz : ∀ f s, m (f + 1) s (n : Int) = fin s) : m fu (List.replicate n 0) 0 = fin (ci (unp on p)) := by
  refine loop_eq (L := m) (n := n) (by omega) (fun i s => ∃ q : List Nat, s = ci q ∧ q.length = n ∧ ∀ k a x : Nat, k < i → on[k]? = some a → p[k]? = some x → q[a]? = some x) ?_ ?_ (List.replicate n 0) ⟨List.replicate n 0, by simp [ci], by simp, fun k a x hk => by omega⟩
  · rintro f i s hi ⟨q, rfl, hq, hI⟩
    obtain ⟨a, ha⟩ := at_some (l := on) (i := i) (by rw [h.len]; exact hi)
    obtain ⟨x, hx⟩ := at_some (l := p) (i := i) (by omega)
    have han := h.lt a (List.mem_of_getElem? ha)
    left
    refine ⟨ci (q.set a x), ⟨q.set a x, rfl, by simp [hq], fun k b y hk hb hy => ?_⟩, by rw [hm f _ i a x ha hx (by rw [ci_len]; exact hq), ci_set]⟩
    by_cases e : k = i
    · subst e
      rw [ha] at hb; rw [hx] at hy
      rw [← Option.some.inj hb, ← Option.some.inj hy, List.getElem?_set_self (by omega)]
    · have hne : a ≠ b := fun e2 => by
        subst e2
        have e1 := ix_of h.nd ha
        have e2 := ix_of h.nd hb
        omega
      rw [List.getElem?_set_ne hne]
      exact hI k b y (by omega) hb hy
  · rintro f s ⟨q, rfl, hq, hI⟩
    rw [hz, unp_eq h hq hp fun k a x hk hx => hI k a x (by have := (List.getElem?_eq_some_iff.1 hk).1; rw [h.len] at this; exact this) hk hx]

/-! ### The orders that are accepted -/
theorem pm_take {n : Nat} {order : List Int} {on on' : List Nat} {i : Nat} (h1 : order.take i = ci on) (h' : order = ci on') : on = on'.take i := by
  rw [h', ci_take] at h1; exact (ci_inj h1).symm
theorem not_pm {n : Nat} {order : List Int} {on : List Nat} {i : Nat} {e : Int} (h1 : order.take i = ci on) (he : order[i]? = some e) (hbad : e < 0 ∨ (n : Int) ≤ e ∨ ∃ a : Nat, e = a ∧ a ∈ on) : ¬ ∃ on', Pm n on' ∧ order = ci on' := by
  rintro ⟨on', hp, ho⟩
  have hon := pm_take (n := n) h1 ho
  rw [ho, ci_get] at he
  obtain ⟨a, ha, rfl⟩ := Option.map_eq_some_iff.1 he
  have hlt := hp.lt a (List.mem_of_getElem? ha)
  rcases hbad with hb | hb | ⟨b, hb, hm⟩
  · omega
  · omega
  · have e : a = b := by omega
    subst e
    rw [hon] at hm
    exact nd_take hp.nd ha hm
theorem is_pm {n : Nat} {order : List Int} {on : List Nat} (hn : order.length = n) (h1 : order.take n = ci on) (h2 : ∀ a ∈ on, a < n) (h3 : on.Nodup) : Pm n on ∧ order = ci on := by
  rw [← hn, List.take_length] at h1
  exact ⟨⟨by rw [← hn, h1, ci_len], h2, h3⟩, h1⟩
theorem set_app {α : Type} {a : List α} {k : Nat} {z x : α} : (a ++ List.replicate (k + 1) z).set a.length x = a ++ [x] ++ List.replicate k z := by
  rw [List.set_append_right _ _ (Nat.le_refl _)]; simp [List.replicate_succ]
theorem shape_Permute {d : List Int} {dn : List Nat} (hs : Shp d dn) {order : List Int} (hol : order.length < 4611686018427387904) :
    ∃ r, m_shape_Permute d order = some r ∧ ((∃ on, Pm dn.length on ∧ order = ci on ∧ r = (ci (pdim dn on), 0)) ∨ ((¬ ∃ on, Pm dn.length on ∧ order = ci on) ∧ r = ([], 1))) := by
  have hl := hs.len
  have hdl : d.length = dn.length := by rw [hs.eq, ci_len]
  unfold m_shape_Permute
  rw [shape_Validate d (by omega), Option.bind_some, hs.err, if_neg (by simp)]
  by_cases hn : order.length = dn.length
  rotate_left
  · refine ⟨([], 1), by rw [if_pos (by simp; omega)], .inr ⟨?_, rfl⟩⟩
    rintro ⟨on, hp, ho⟩
    rw [ho, ci_len, hp.len] at hn; exact hn rfl
  rw [if_neg (by simp; omega), hdl, lmake_ok 0 (by omega), Option.bind_some]
  refine loop_fu (L := fun f s i => m_shape_Permute_l1 order d f s.1 i s.2) (n := dn.length) (by omega)
    (fun i s => ∃ on, order.take i = ci on ∧ (∀ a ∈ on, a < dn.length) ∧ on.Nodup ∧ s.1 = ci (pdim dn on) ++ List.replicate (dn.length - i) 0 ∧ s.2.length = 6 ∧ ∀ a, a < 6 → s.2[a]? = some (decide (a ∈ on))) _ ?_ ?_ (List.replicate dn.length 0, List.replicate 6 false) ⟨[], by simp [ci], by simp, by simp, by simp [pdim, ci], by simp, fun a ha => by show (List.replicate 6 false)[a]? = _; rw [List.getElem?_replicate, if_pos ha]; simp⟩
  · rintro f i ⟨out, seen⟩ hi ⟨on, h1, h2, h3, h4, h5, h6⟩
    dsimp only at h4 h5 h6
    obtain ⟨e, he⟩ := at_some (l := order) (i := i) (by omega)
    have honl : on.length = i := by have := congrArg List.length h1; rw [ci_len, List.length_take] at this; omega
    simp only [m_shape_Permute_l1]
    rw [hn, if_pos (lt_dec hi), lat_at he, Option.bind_some, hdl]
    by_cases hr : e < 0 ∨ (dn.length : Int) ≤ e
    · right
      refine ⟨([], 1), ?_, .inr ⟨not_pm h1 he (by omega), rfl⟩⟩
      have hc : ((decide (e < 0)) || (decide ((dn.length : Int) ≤ e))) = true := by simpa using hr
      rw [hc]
      simp [gd]
    · obtain ⟨a, rfl⟩ := Int.eq_ofNat_of_zero_le (show 0 ≤ e by omega)
      have hc : ((decide ((a : Int) < 0)) || (decide ((dn.length : Int) ≤ (a : Int)))) = false := by simp; omega
      rw [hc]
      obtain ⟨x, hx⟩ := at_some (l := dn) (i := a) (by omega)
      have hlx : lat d (a : Int) = some (x : Int) := by rw [hs.eq]; exact ci_at hx
      rw [if_pos (fun _ => by omega)]
      rw [show gd (!false) (lat seen (a : Int)) = some (decide (a ∈ on)) by simp only [gd, Bool.not_false, if_true]; exact lat_at (h6 a (by omega)), Option.bind_some, Bool.false_or]
      by_cases hm : a ∈ on
      · right
        exact ⟨([], 1), by rw [if_pos (by simpa using hm)], .inr ⟨not_pm h1 he (.inr (.inr ⟨a, rfl, hm⟩)), rfl⟩⟩
      · left
        have hpl : (ci (pdim dn on)).length = i := by rw [ci_len, pdim_len, honl]
        rw [if_neg (by simpa using hm), if_pos (by omega), hlx, Option.bind_some, if_pos (by rw [h4, List.length_append, hpl, List.length_replicate]; omega), Int.toNat_natCast, Int.toNat_natCast, wis (by omega)]
        refine ⟨(out.set i x, seen.set a true), ⟨on ++ [a], ?_, ?_, ?_, ?_, by simp [h5], fun b hb => ?_⟩, rfl⟩
        · rw [take_succ' he, h1, ci_app]; rfl
        · intro b hb
          rcases List.mem_append.1 hb with hb | hb
          · exact h2 b hb
          · rw [List.mem_singleton.1 hb]; omega
        · rw [List.nodup_append]
          refine ⟨h3, by simp, fun y hy z hz => ?_⟩
          rw [List.mem_singleton.1 hz]; intro e; exact hm (e ▸ hy)
        · show out.set i (x : Int) = _
          obtain ⟨k, hk⟩ : ∃ k, dn.length - i = k + 1 := ⟨dn.length - i - 1, by omega⟩
          rw [h4, hk, ← hpl, set_app, hpl, show dn.length - (i + 1) = k by omega]
          congr 1
          rw [show pdim dn (on ++ [a]) = pdim dn on ++ [x] by simp [pdim, hx], ci_app]; rfl
        · by_cases e : b = a
          · subst e; rw [List.getElem?_set_self (by omega)]; simp
          · rw [List.getElem?_set_ne (fun h => e h.symm), h6 b hb]; simp [e]
  · rintro f ⟨out, seen⟩ ⟨on, h1, h2, h3, h4, h5, h6⟩
    dsimp only at h4
    have hp := is_pm hn h1 h2 h3
    refine ⟨(ci (pdim dn on), 0), ?_, .inl ⟨on, hp.1, hp.2, rfl⟩⟩
    simp only [m_shape_Permute_l1]
    rw [hn, if_neg (by simp), h4]; simp

/-! ### Permute -/
def peT (t : GTensor) (dn on : List Nat) : GTensor := ⟨t.Type_, ci (pdim dn on), (List.range (prd (pdim dn on))).filterMap fun a => t.Vals[off dn (unp on (pt (pdim dn on) a))]?⟩
theorem tensor_Permute {t : GTensor} (hr : TeR t) (h1 : t.Dims.length < 4611686018427387904) (h2 : t.Vals.length < 4611686018427387904) {order : List Int} (hol : order.length < 4611686018427387904) :
    (teErr t ≠ 0 ∧ m_tensor_Permute t order = some (z0, teErr t)) ∨ (∃ dn, Ten t dn ∧ ((∃ on, Pm dn.length on ∧ order = ci on ∧ m_tensor_Permute t order = some (peT t dn on, 0)) ∨ ((¬ ∃ on, Pm dn.length on ∧ order = ci on) ∧ m_tensor_Permute t order = some (z0, 1)))) := by
  unfold m_tensor_Permute
  rw [tensor_Validate hr h1 h2, Option.bind_some]
  by_cases he : teErr t = 0
  rotate_left
  · exact .inl ⟨he, by rw [if_pos (by simp [he])]; rfl⟩
  obtain ⟨dn, ht⟩ := Ten.of he
  have hl := ht.shp.len
  refine .inr ⟨dn, ht, ?_⟩
  rw [if_neg (by simp [he])]
  obtain ⟨r, h, ⟨on, hp, ho, rfl⟩ | ⟨hno, rfl⟩⟩ := shape_Permute ht.shp hol
  · refine .inl ⟨on, hp, ho, ?_⟩
    rw [h, Option.bind_some, if_neg (by simp)]
    rw [gather_ok (fun a => off dn (unp on (pt (pdim dn on) a))) ht (pdim_shp ht.shp hp) fun a ha => ?_]
    · rfl
    · refine ⟨unp on (pt (pdim dn on) a), ?_, unp_bd hp (pt_bd a (pdim_shp ht.shp hp).pos), rfl⟩
      have hpl : (pt (pdim dn on) a).length = dn.length := by rw [pt_len, pdim_len, hp.len]
      unfold m_tensor_Permute_1
      rw [ci_len, hpl, lmake_ok 0 (by omega), Option.bind_some]
      refine perm_loop hp hpl hl (m_tensor_Permute_1_l1 order (ci (pt (pdim dn on) a))) (fun s => some s) (fun f s k b x hk hx hsl => ?_) (fun f s => ?_)
      · have hklt := (List.getElem?_eq_some_iff.1 hk).1
        have hb := hp.lt b (List.mem_of_getElem? hk)
        have hpn := hp.len
        simp only [m_tensor_Permute_1_l1]
        rw [ho, ci_len, if_pos (lt_dec hklt), ci_at hk, Option.bind_some, ci_at hx, Option.bind_some, if_pos (by omega), Int.toNat_natCast, wis (by omega)]
      · simp only [m_tensor_Permute_1_l1]
        rw [ho, ci_len, hp.len, if_neg (by simp)]
  · refine .inr ⟨hno, ?_⟩
    rw [h, Option.bind_some, if_pos (by decide)]; rfl
theorem peT_vals {t : GTensor} {dn on : List Nat} (ht : Ten t dn) (hp : Pm dn.length on) : ∀ a, a < prd (pdim dn on) → ∃ x, t.Vals[off dn (unp on (pt (pdim dn on) a))]? = some x := fun a ha =>
  at_some (by rw [ht.len]; exact off_lt (unp_bd hp (pt_bd a (pdim_shp ht.shp hp).pos)))
theorem peT_ten {t : GTensor} {dn on : List Nat} (ht : Ten t dn) (hp : Pm dn.length on) : Ten (peT t dn on) (pdim dn on) := by
  refine ⟨ht.ty, pdim_shp ht.shp hp, ?_, fun v hv => ?_⟩
  · exact fm_len _ _ (peT_vals ht hp)
  · obtain ⟨a, _, ha⟩ := List.mem_filterMap.1 hv
    exact ht.ok v (List.mem_of_getElem? ha)
theorem Ten.refl {t : GTensor} {dn : List Nat} (ht : Ten t dn) : m_base_Tensor t t = some true := by
  have h1 := ht.shp.len; have h2 := ht.shp.le; have h3 := ht.len
  refine base_Tensor_refl ?_ ?_
  · rw [ht.shp.eq, ci_len]; omega
  · omega
end Go.Proofs.YtlakfanockhngaaGreatDoor
