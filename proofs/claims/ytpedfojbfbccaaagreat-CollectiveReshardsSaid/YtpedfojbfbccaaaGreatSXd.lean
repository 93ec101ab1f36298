import Derived.Test.YtpedfojbfbccaaaGreatSXb
namespace Go.Proofs.YtpedfojbfbccaaaGreat
open Go Go.RowKit Go.Vc
set_option linter.unusedVariables false
set_option linter.unusedSimpArgs false
theorem TeL.mono {l l' : List GTensor} (h : TeL l) (hs : ∀ t ∈ l', t ∈ l) : TeL l' := ⟨fun t ht => h.r t (hs t ht), fun t ht => h.d t (hs t ht), fun t ht => h.v t (hs t ht)⟩
theorem TeL.nil : TeL [] := ⟨fun _ h => (by cases h), fun _ h => (by cases h), fun _ h => (by cases h)⟩
theorem TeL.snoc {l : List GTensor} {t : GTensor} (h : TeL l) (ht : TeL [t]) : TeL (l ++ [t]) := by
 refine ⟨fun x hx => ?_, fun x hx => ?_, fun x hx => ?_⟩ <;> rcases List.mem_append.1 hx with hx | hx
 ·exact h.r x hx
 ·exact ht.r x hx
 ·exact h.d x hx
 ·exact ht.d x hx
 ·exact h.v x hx
 ·exact ht.v x hx
theorem TeL.one {t : GTensor} (h1 : TyR t.Type_) (h2 : ∀ v ∈ t.Vals, VaR v) (h3 : t.Dims.length ≤ 4096) (h4 : t.Vals.length ≤ 4096) : TeL [t] :=
 ⟨fun x hx => by rw [List.mem_singleton.1 hx]; exact ⟨h1, h2⟩, fun x hx => by rw [List.mem_singleton.1 hx]; omega, fun x hx => by rw [List.mem_singleton.1 hx]; omega⟩
theorem z0_TeL : TeL [z0] := TeL.one ⟨⟨by decide, by decide⟩, ⟨by decide, by decide⟩, ⟨by decide, by decide⟩, ⟨by decide, by decide⟩, ⟨by decide, by decide⟩⟩ (fun v h => by cases h) (by simp [z0]) (by simp [z0])
theorem catV_mem {α : Type} {O I : Nat} {ps : List (List α × Nat)} {x : α} (h : x ∈ catV O I ps) : ∃ p ∈ ps, x ∈ p.1 := by
 unfold catV at h
 obtain ⟨o, _, h1⟩ := List.mem_flatMap.1 h
 obtain ⟨p, h2, h3⟩ := List.mem_flatMap.1 h1
 exact ⟨p, h2, List.mem_of_mem_drop (List.mem_of_mem_take h3)⟩
theorem slV_mem {α : Type} {O m I f t : Nat} {v : List α} {x : α} (h : x ∈ slV O m I f t v) : x ∈ v := by
 unfold slV at h
 obtain ⟨o, _, h1⟩ := List.mem_flatMap.1 h
 exact List.mem_of_mem_drop (List.mem_of_mem_take h1)
theorem prs_mem {l : List GTensor} {ms : List Nat} {p : List GVal × Nat} (h : p ∈ prs l ms) : ∃ t ∈ l, p.1 = t.Vals := by
 unfold prs at h
 have := List.of_mem_zip h
 obtain ⟨t, ht, he⟩ := List.mem_map.1 this.1
 exact ⟨t, ht, he.symm⟩
theorem catS_TeL {l : List GTensor} {i : Nat} {ty : GType} {d1 d2 ms : List Nat} (hl : TeL l) (h : Jn l i ty d1 d2 ms) : TeL [(catS ty d1 d2 ms l).1] := by
 obtain ⟨t0, r, m0, mr, he, hme, _⟩ := h.head
 have hty := (h.ten 0 t0 m0 (by rw [he]; rfl) (by rw [hme]; rfl)).2
 unfold catS
 split
 ·rename_i hS
  obtain ⟨_, _, _, p4, _⟩ := h.pos
  refine TeL.one (by rw [← hty]; exact (hl.r t0 (by rw [he]; simp)).ty) (fun v hv => ?_) (by simp only [ci_len]; simp; omega) (by simp only; rw [catV_len h.lens, prs_map h.len]; exact hS)
  obtain ⟨p, hp, hv⟩ := catV_mem hv
  obtain ⟨t, ht, he⟩ := prs_mem hp
  rw [he] at hv
  exact (hl.r t ht).vals v hv
 ·exact z0_TeL
theorem slS_TeL {t : GTensor} {dn : List Nat} (hl : TeL [t]) (ht : Ten t dn) (ax f to_ : Int) : TeL [(slS t ax f to_).1] := by
 have hr := hl.r t (by simp)
 unfold slS
 split
 ·split
  ·split
   ·exact z0_TeL
   ·split
    ·refine TeL.one hr.ty (fun v hv => hr.vals v (slV_mem hv)) ?_ ?_
     ·simp only [List.length_set]; rw [ht.shp.eq, ci_len]; have := ht.shp.len; omega
     ·rename_i m hm hc
      obtain ⟨i, rfl⟩ := Int.eq_ofNat_of_zero_le (by assumption : 0 ≤ ax ∧ ax < (t.Dims.length : Int)).1
      rw [Int.toNat_natCast] at hm ⊢
      rw [ht.shp.eq, ci_get] at hm
      obtain ⟨mn, hmn, rfl⟩ := Option.map_eq_some_iff.1 hm
      have hax := Ax.of hmn
      simp only
      rw [ht.shp.eq, ci_take, ci_drop, ci_nat, ci_nat, slV_len (by rw [ht.len, hax.prd]; simp) (by omega) (by omega)]
      refine Nat.le_trans ?_ ht.shp.le
      rw [hax.prd]
      exact Nat.mul_le_mul_right _ (Nat.mul_le_mul_left _ (by omega))
    ·exact z0_TeL
  ·exact z0_TeL
 ·exact z0_TeL
theorem grp_lt {O m I a : Nat} (ha : a < O * m * I) : ∀ d ∈ grp O m I a, d < O * m * I := by
 obtain ⟨q1, q2, q3, q4⟩ := num_split ha
 intro d hd
 unfold grp at hd
 obtain ⟨c, hc, rfl⟩ := List.mem_map.1 hd
 have hc := List.mem_range.1 hc
 have e1 : (a / (m * I) + 1) * m ≤ O * m := Nat.mul_le_mul_right _ q1
 have e2 : (a / (m * I) * m + c + 1) * I ≤ O * m * I := Nat.mul_le_mul_right _ (by rw [Nat.add_mul] at e1; omega)
 rw [Nat.add_mul, Nat.one_mul] at e2
 omega
def sel (l : List GTensor) (g : List Nat) : List GTensor := g.filterMap fun d => l[d]?
theorem sel_len {l : List GTensor} {g : List Nat} (h : ∀ d ∈ g, d < l.length) : (sel l g).length = g.length := by
 induction g with
 | nil => rfl
 | cons d g ih =>
  obtain ⟨x, hx⟩ := at_some (h d (by simp))
  have := ih fun e he => h e (by simp [he])
  unfold sel at this ⊢
  simp [hx, this]
theorem sel_mem {l : List GTensor} {g : List Nat} {t : GTensor} (h : t ∈ sel l g) : t ∈ l := by
 unfold sel at h
 obtain ⟨d, _, hd⟩ := List.mem_filterMap.1 h
 exact List.mem_of_getElem? hd
theorem sel_succ {l : List GTensor} {g : List Nat} {k d : Nat} {x : GTensor} (h : g[k]? = some d) (hx : l[d]? = some x) : sel l (g.take (k + 1)) = sel l (g.take k) ++ [x] := by
 rw [take_succ' h]; unfold sel; rw [List.filterMap_append]; simp [hx]
theorem group_loop {R : Type} {l : List GTensor} {g : List Nat} (hg : ∀ d ∈ g, d < l.length) (hn : g.length ≤ 16) (m : Nat → List GTensor → Int → Option R) (fin : List GTensor → Option R)
  (hm : ∀ f s (k d : Nat) x, g[k]? = some d → l[d]? = some x → m (f + 1) s (k : Int) = (lapp s [x]).bind fun z => m f z (wi64 ((k : Int) + 1)))
  (hz : ∀ f s, m (f + 1) s (g.length : Int) = fin s) : m fu [] 0 = fin (sel l g) := by
 refine loop_eq (L := m) (n := g.length) (by omega) (fun k s => s = sel l (g.take k)) ?_ ?_ [] (by simp [sel])
 ·rintro f k s hk rfl
  obtain ⟨d, hd⟩ := at_some hk
  obtain ⟨x, hx⟩ := at_some (hg d (List.mem_of_getElem? hd))
  left
  refine ⟨_, rfl, ?_⟩
  have hlen : (sel l (g.take k)).length = (g.take k).length := sel_len fun e he => hg e (List.mem_of_mem_take he)
  rw [hm f _ k d x hd hx, lapp_ok (by rw [hlen, List.length_take]; simp; omega), Option.bind_some, wis (by omega), sel_succ hd hx]
 ·rintro f s rfl
  rw [hz, List.take_length]
def axErr (m : GMesh) (l : List GTensor) (axis along : Int) : Int :=
 if chErr m l = 0 then (if 0 ≤ axis ∧ axis < (m.Dims.length : Int) then (match l with | [] => 0 | t0 :: _ => if 0 ≤ along ∧ along < (t0.Dims.length : Int) then 0 else 11) else 23) else chErr m l
theorem Ok.ne {m : GMesh} {l : List GTensor} {md : List Nat} {ty : GType} {dn : List Nat} (h : Ok m l md ty dn) : ∃ t0 r, l = t0 :: r := by
 have := prd_pos h.m.pos
 have h2 := h.len
 rcases l with _ | ⟨t0, r⟩
 ·simp at h2; omega
 ·exact ⟨t0, r, rfl⟩
theorem coll_axes {m : GMesh} {l : List GTensor} (hl : TeL l) (axis along : Int) : m_collective_checkAxes m l axis along = some (axErr m l axis along) := by
 unfold m_collective_checkAxes axErr
 rw [coll_check hl, Option.bind_some]
 by_cases hc : chErr m l = 0
 rotate_left
 ·rw [if_pos (by simp [hc]), if_neg hc]
 rw [if_neg (by simp [hc]), if_pos hc, m_collective_hasAxis, Option.bind_some]
 obtain ⟨md, ty, dn, hok⟩ := Ok.of hc
 obtain ⟨t0, r, rfl⟩ := hok.ne
 by_cases ha : 0 ≤ axis ∧ axis < (m.Dims.length : Int)
 rotate_left
 ·rw [if_pos (by simp; omega), if_neg ha]
 rw [if_neg (by simp; omega), if_pos ha]
 simp only
 by_cases h0 : along < 0
 ·rw [if_neg (by omega)]; simp [gd, h0]
 ·rw [show gd (!(decide (along < 0))) (lat (t0 :: r) 0) = some t0 by unfold gd; rw [if_pos (by simp; omega)]; rfl, Option.bind_some]
  by_cases h1 : along < (t0.Dims.length : Int)
  ·rw [if_neg (by simp; omega), if_pos (by omega)]
  ·rw [if_pos (by simp; omega), if_neg (by omega)]
theorem ref_axes {m : GMesh} {l : List GTensor} (hl : TeL l) (axis along : Int) : m_ref53_axes m l axis along = some (axErr m l axis along) := by
 unfold m_ref53_axes axErr
 rw [ref53_Check hl, Option.bind_some]
 by_cases hc : chErr m l = 0
 rotate_left
 ·rw [if_pos (by simp [hc]), if_neg hc]
 rw [if_neg (by simp [hc]), if_pos hc]
 obtain ⟨md, ty, dn, hok⟩ := Ok.of hc
 obtain ⟨t0, r, rfl⟩ := hok.ne
 by_cases ha : 0 ≤ axis ∧ axis < (m.Dims.length : Int)
 rotate_left
 ·rw [if_pos (by simp; omega), if_neg ha]
 rw [if_neg (by simp; omega), if_pos ha]
 simp only
 by_cases h0 : along < 0
 ·rw [if_neg (by omega)]; simp [gd, h0]
 ·rw [show gd (!(decide (along < 0))) (lat (t0 :: r) 0) = some t0 by unfold gd; rw [if_pos (by simp; omega)]; rfl, Option.bind_some]
  by_cases h1 : along < (t0.Dims.length : Int)
  ·rw [if_neg (by simp; omega), if_pos (by omega)]
  ·rw [if_pos (by simp; omega), if_neg (by omega)]
theorem axErr0 {m : GMesh} {l : List GTensor} {axis along : Int} (h : axErr m l axis along = 0) : ∃ md ty dn, ∃ i k x b : Nat, Ok m l md ty dn ∧ axis = (i : Int) ∧ along = (k : Int) ∧ md[i]? = some x ∧ dn[k]? = some b := by
 unfold axErr at h
 split at h
 rotate_left
 ·contradiction
 rename_i hc
 obtain ⟨md, ty, dn, hok⟩ := Ok.of hc
 obtain ⟨t0, r, rfl⟩ := hok.ne
 split at h
 rotate_left
 ·cases h
 rename_i ha
 simp only at h
 split at h
 rotate_left
 ·cases h
 rename_i hb
 obtain ⟨i, rfl⟩ := Int.eq_ofNat_of_zero_le ha.1
 obtain ⟨k, rfl⟩ := Int.eq_ofNat_of_zero_le hb.1
 have ht := (hok.ten t0 (by simp)).1
 have h1 := ha.2; have h2 := hb.2
 rw [hok.m.eq, ci_len] at h1
 rw [ht.shp.eq, ci_len] at h2
 obtain ⟨x, hx⟩ := at_some (l := md) (i := i) (by omega)
 obtain ⟨b, hb⟩ := at_some (l := dn) (i := k) (by omega)
 exact ⟨md, ty, dn, i, k, x, b, hok, rfl, rfl, hx, hb⟩
theorem grp_len (O m I a : Nat) : (grp O m I a).length = m := by simp [grp]
theorem Ok.grp {m : GMesh} {l : List GTensor} {md dn : List Nat} {ty : GType} (h : Ok m l md ty dn) {i x a : Nat} (hx : md[i]? = some x) (ha : a < l.length) :
  (∀ d ∈ Go.Proofs.YtpedfojbfbccaaaGreat.grp (prd (md.take i)) x (prd (md.drop (i + 1))) a, d < l.length) ∧ (Go.Proofs.YtpedfojbfbccaaaGreat.grp (prd (md.take i)) x (prd (md.drop (i + 1))) a).length ≤ 16 ∧ 1 ≤ x ∧ x ≤ 16 := by
 have hax := Ax.of hx
 have hle := le_prd h.m.pos (List.mem_of_getElem? hx)
 have h1 := h.m.pos x (List.mem_of_getElem? hx)
 have h2 := h.m.le
 rw [h.len, hax.prd] at ha ⊢
 exact ⟨grp_lt ha, by rw [grp_len]; omega, h1, by omega⟩
theorem AllGather_same {m : GMesh} {l : List GTensor} (hl : TeL l) (axis along : Int) : ∃ r, (TeL r.1 ∧ r.1.length ≤ l.length) ∧ m_collective_AllGather m l axis along = some r ∧ m_ref53_AllGather m l axis along = some r := by
 unfold m_collective_AllGather m_ref53_AllGather
 rw [coll_axes hl, ref_axes hl, Option.bind_some, Option.bind_some]
 by_cases he : axErr m l axis along = 0
 rotate_left
 ·exact ⟨([], axErr m l axis along), ⟨TeL.nil, by simp⟩, by rw [if_pos (by simp [he])], by rw [if_pos (by simp [he])]⟩
 rw [if_neg (by simp [he]), if_neg (by simp [he])]
 obtain ⟨md, ty, dn, i, k, x, b, hok, rfl, rfl, hx, hb⟩ := axErr0 he
 have hlen := hok.len
 have hle := hok.m.le
 unfold m_collective_operation_apply
 have key := loop_sim (L := fun f s j => m_collective_operation_apply_l1 l m (i : Int) ⟨fun y_1 y_2 => m_collective_AllGather_1 y_1 y_2 (k : Int)⟩ f s j) (M := fun f s j => m_ref53_AllGather_l1 l m (i : Int) (k : Int) f s j) (n := l.length) (by omega)
  (fun j s t => s = t ∧ s.length = j ∧ TeL s) (fun r => TeL r.1 ∧ r.1.length ≤ l.length) ?_ ?_ [] [] ⟨rfl, rfl, TeL.nil⟩
 ·obtain ⟨r, h1, h2, h3⟩ := key
  exact ⟨r, h1, by rw [h2]; rfl, h3⟩
 ·rintro j s _ hj ⟨rfl, hs, hst⟩
  have hg := hok.grp hx hj
  have hsel : TeL (sel l (grp (prd (md.take i)) x (prd (md.drop (i + 1))) j)) := hl.mono fun t ht => sel_mem ht
  have hsl := sel_len hg.1
  obtain ⟨r, c1, c2, c3, c4⟩ := Concat_same hsel (by rw [hsl]; omega) (k : Int)
  have hrT : TeL [r.1] := by
   by_cases hj : jErr (k : Int) (sel l (grp (prd (md.take i)) x (prd (md.drop (i + 1))) j)) = 0
   ·obtain ⟨i', ty', d1, d2, ms, hi', hJ⟩ := Jn.of hj
    rw [c4 i' ty' d1 d2 ms hj hi' hJ]; exact catS_TeL hsel hJ
   ·rw [c3 hj]; exact z0_TeL
  have hL : ∀ f, m_collective_operation_apply_l1 l m (i : Int) ⟨fun y_1 y_2 => m_collective_AllGather_1 y_1 y_2 (k : Int)⟩ (f + 1) s (j : Int) = if r.2 = 0 then m_collective_operation_apply_l1 l m (i : Int) ⟨fun y_1 y_2 => m_collective_AllGather_1 y_1 y_2 (k : Int)⟩ f (s ++ [r.1]) ((j + 1 : Nat) : Int) else some ([], r.2) := fun f => by
   simp only [m_collective_operation_apply_l1]
   rw [if_pos (lt_dec hj), mesh_Group hok.m (by rw [← hlen]; exact hj) hx, Option.bind_some]
   rw [group_loop hg.1 hg.2.1 (m_collective_operation_apply_l2 (ci (grp (prd (md.take i)) x (prd (md.drop (i + 1))) j)) l ⟨fun y_1 y_2 => m_collective_AllGather_1 y_1 y_2 (k : Int)⟩ (j : Int) s (m_collective_operation_apply_l1 l m (i : Int) ⟨fun y_1 y_2 => m_collective_AllGather_1 y_1 y_2 (k : Int)⟩ f)) (m_collective_operation_apply_j2 ⟨fun y_1 y_2 => m_collective_AllGather_1 y_1 y_2 (k : Int)⟩ (j : Int) s (m_collective_operation_apply_l1 l m (i : Int) ⟨fun y_1 y_2 => m_collective_AllGather_1 y_1 y_2 (k : Int)⟩ f)) (fun f s q d y hq hy => by
    have hlt := (List.getElem?_eq_some_iff.1 hq).1
    simp only [m_collective_operation_apply_l2]
    rw [ci_len, if_pos (lt_dec hlt), ci_at hq, Option.bind_some, lat_at hy, Option.bind_some]) (fun f s => by simp only [m_collective_operation_apply_l2]; rw [ci_len, if_neg (by simp)])]
   simp only [m_collective_operation_apply_j2, m_collective_AllGather_1]
   rw [c1, Option.bind_some, Option.bind_some]
   by_cases hr : r.2 = 0
   ·rw [if_neg (by simp [hr]), if_pos hr, lapp_ok (by simp; omega), Option.bind_some, m_collective_operation_apply_j1, wis (by omega)]
   ·rw [if_pos (by simp [hr]), if_neg hr]
  have hM : ∀ f, m_ref53_AllGather_l1 l m (i : Int) (k : Int) (f + 1) s (j : Int) = if r.2 = 0 then m_ref53_AllGather_l1 l m (i : Int) (k : Int) f (s ++ [r.1]) ((j + 1 : Nat) : Int) else some ([], r.2) := fun f => by
   simp only [m_ref53_AllGather_l1]
   rw [if_pos (lt_dec hj), ref51_Group hok.m (by rw [← hlen]; exact hj) hx, Option.bind_some]
   rw [group_loop hg.1 hg.2.1 (m_ref53_AllGather_l2 (ci (grp (prd (md.take i)) x (prd (md.drop (i + 1))) j)) l (k : Int) s (m_ref53_AllGather_l1 l m (i : Int) (k : Int) f) (j : Int)) (m_ref53_AllGather_j2 (k : Int) s (m_ref53_AllGather_l1 l m (i : Int) (k : Int) f) (j : Int)) (fun f s q d y hq hy => by
    have hlt := (List.getElem?_eq_some_iff.1 hq).1
    simp only [m_ref53_AllGather_l2]
    rw [ci_len, if_pos (lt_dec hlt), ci_at hq, Option.bind_some, lat_at hy, Option.bind_some]) (fun f s => by simp only [m_ref53_AllGather_l2]; rw [ci_len, if_neg (by simp)])]
   rw [m_ref53_AllGather_j2, c2, Option.bind_some]
   by_cases hr : r.2 = 0
   ·rw [if_neg (by simp [hr]), if_pos hr, lapp_ok (by simp; omega), Option.bind_some, m_ref53_AllGather_j1, wis (by omega)]
   ·rw [if_pos (by simp [hr]), if_neg hr]
  by_cases hr : r.2 = 0
  ·left
   exact ⟨s ++ [r.1], s ++ [r.1], ⟨rfl, by simp [hs], hst.snoc hrT⟩, fun f => by rw [hL, if_pos hr], fun f => by rw [hM, if_pos hr]⟩
  ·right
   exact ⟨([], r.2), ⟨TeL.nil, by simp⟩, fun f => by rw [hL, if_neg hr], fun f => by rw [hM, if_neg hr]⟩
 ·rintro s _ ⟨rfl, hs, hst⟩
  refine ⟨(s, 0), ⟨hst, by simp only; omega⟩, fun f => ?_, fun f => ?_⟩
  ·simp only [m_collective_operation_apply_l1]; rw [if_neg (by simp)]
  ·simp only [m_ref53_AllGather_l1]; rw [if_neg (by simp)]
theorem block_ok {md : List Nat} {i x j b w : Nat} (hx : (pt md j)[i]? = some w) (hm : md[i]? = some x) (hp : Pos md) (hb : b % x = 0) (hb1 : 1 ≤ b) : w * (b / x) < (w + 1) * (b / x) ∧ (w + 1) * (b / x) ≤ b := by
 obtain ⟨q, hq, hlt⟩ := (pt_bd j hp).at_ hm
 rw [hx] at hq
 obtain rfl := Option.some.inj hq
 have hx1 : 1 ≤ x := hp x (List.mem_of_getElem? hm)
 have e : x * (b / x) = b := by have := Nat.div_add_mod b x; omega
 have hd : 1 ≤ b / x := by
  rcases Nat.eq_zero_or_pos (b / x) with h | h
  ·rw [h] at e; omega
  ·exact h
 constructor
 ·rw [Nat.add_mul]; omega
 ·have : (w + 1) * (b / x) ≤ x * (b / x) := Nat.mul_le_mul_right _ hlt
  omega
theorem SliceLocal_same {m : GMesh} {l : List GTensor} (hl : TeL l) (axis along : Int) : ∃ r, (TeL r.1 ∧ r.1.length ≤ l.length) ∧ m_collective_SliceLocal m l axis along = some r ∧ m_ref53_SliceLocal m l axis along = some r := by
 unfold m_collective_SliceLocal m_ref53_SliceLocal
 rw [coll_axes hl, ref_axes hl, Option.bind_some, Option.bind_some]
 by_cases he : axErr m l axis along = 0
 rotate_left
 ·exact ⟨([], axErr m l axis along), ⟨TeL.nil, by simp⟩, by rw [if_pos (by simp [he])], by rw [if_pos (by simp [he])]⟩
 rw [if_neg (by simp [he]), if_neg (by simp [he])]
 obtain ⟨md, ty, dn, i, k, x, b, hok, rfl, rfl, hx, hb⟩ := axErr0 he
 have hlen := hok.len
 have hle := hok.m.le
 obtain ⟨t0, r0, hl0⟩ := hok.ne
 have ht0 := (hok.ten t0 (by rw [hl0]; simp)).1
 have hx1 := hok.m.pos x (List.mem_of_getElem? hx)
 have hx16 := le_prd hok.m.pos (List.mem_of_getElem? hx)
 have hbs := mem_small ht0.shp hb
 have a0 : lat l 0 = some t0 := by rw [hl0]; rfl
 have a1 : lat m.Dims (i : Int) = some (x : Int) := by rw [hok.m.eq]; exact ci_at hx
 have a2 : lat t0.Dims (k : Int) = some (b : Int) := by rw [ht0.shp.eq]; exact ci_at hb
 have hx0 : ¬ (x : Int) = 0 := by omega
 have etm : Int.tmod (b : Int) (x : Int) = ((b % x : Nat) : Int) := (Int.ofNat_tmod _ _).symm
 have etd : wi64 (Int.tdiv (b : Int) (x : Int)) = ((b / x : Nat) : Int) := by
  rw [← Int.ofNat_tdiv]; exact wiN (by have := Nat.div_le_self b x; omega)
 simp only [a0, a1, a2, Option.bind_some, hx0, ne_eq, not_false_eq_true, if_true, etm]
 by_cases hd : b % x = 0
 rotate_left
 ·exact ⟨([], 15), ⟨TeL.nil, by simp⟩, by rw [if_pos (by simp; omega)], by rw [if_pos (by simp; omega)]⟩
 rw [if_neg (by simp; omega), if_neg (by simp; omega), etd]
 unfold m_collective_operation_apply
 have key := loop_sim (L := fun f s j => m_collective_operation_apply_l1 l m (i : Int) ⟨fun y_1 y_2 => m_collective_SliceLocal_1 y_1 y_2 m l (k : Int) (i : Int) ((b / x : Nat) : Int)⟩ f s j) (M := fun f s j => m_ref53_SliceLocal_l1 l m (i : Int) (k : Int) (b : Int) (x : Int) f s j) (n := l.length) (by omega)
  (fun j s t => s = t ∧ s.length = j ∧ TeL s) (fun r => TeL r.1 ∧ r.1.length ≤ l.length) ?_ ?_ [] [] ⟨rfl, rfl, TeL.nil⟩
 ·obtain ⟨r, h1, h2, h3⟩ := key
  exact ⟨r, h1, by rw [h2]; rfl, h3⟩
 ·rintro j s _ hj ⟨rfl, hs, hst⟩
  have hg := hok.grp hx hj
  obtain ⟨t, ht⟩ := at_some hj
  have hmem := List.mem_of_getElem? ht
  have hten := (hok.ten t hmem).1
  have hjp : j < prd md := by rw [← hlen]; exact hj
  obtain ⟨w, hw, hwx⟩ := (pt_bd j hok.m.pos).at_ hx
  have hblk := block_ok hw hx hok.m.pos hd hbs.1
  have e1 : wi64 ((w : Int) * ((b / x : Nat) : Int)) = ((w * (b / x) : Nat) : Int) := wim (by omega)
  have e2 : wi64 (wi64 ((w : Int) + 1) * ((b / x : Nat) : Int)) = (((w + 1) * (b / x) : Nat) : Int) := by rw [wis (by omega), wim (by omega)]
  have hsl := slS_ok hten hb hblk.1 hblk.2
  have h0 : (slS t (k : Int) ((w * (b / x) : Nat) : Int) (((w + 1) * (b / x) : Nat) : Int)).2 = 0 := by rw [hsl]
  have hT : TeL [t] := hl.mono fun y hy => by rw [List.mem_singleton.1 hy]; exact hmem
  have hsT := slS_TeL hT hten (k : Int) ((w * (b / x) : Nat) : Int) (((w + 1) * (b / x) : Nat) : Int)
  left
  refine ⟨s ++ [(slS t (k : Int) ((w * (b / x) : Nat) : Int) (((w + 1) * (b / x) : Nat) : Int)).1], s ++ [(slS t (k : Int) ((w * (b / x) : Nat) : Int) (((w + 1) * (b / x) : Nat) : Int)).1], ⟨rfl, by simp [hs], hst.snoc hsT⟩, fun f => ?_, fun f => ?_⟩
  ·simp only [m_collective_operation_apply_l1]
   rw [if_pos (lt_dec hj), mesh_Group hok.m hjp hx, Option.bind_some]
   rw [group_loop hg.1 hg.2.1 (m_collective_operation_apply_l2 (ci (grp (prd (md.take i)) x (prd (md.drop (i + 1))) j)) l ⟨fun y_1 y_2 => m_collective_SliceLocal_1 y_1 y_2 m l (k : Int) (i : Int) ((b / x : Nat) : Int)⟩ (j : Int) s (m_collective_operation_apply_l1 l m (i : Int) ⟨fun y_1 y_2 => m_collective_SliceLocal_1 y_1 y_2 m l (k : Int) (i : Int) ((b / x : Nat) : Int)⟩ f)) (m_collective_operation_apply_j2 ⟨fun y_1 y_2 => m_collective_SliceLocal_1 y_1 y_2 m l (k : Int) (i : Int) ((b / x : Nat) : Int)⟩ (j : Int) s (m_collective_operation_apply_l1 l m (i : Int) ⟨fun y_1 y_2 => m_collective_SliceLocal_1 y_1 y_2 m l (k : Int) (i : Int) ((b / x : Nat) : Int)⟩ f)) (fun f s q d y hq hy => by
    have hlt := (List.getElem?_eq_some_iff.1 hq).1
    simp only [m_collective_operation_apply_l2]
    rw [ci_len, if_pos (lt_dec hlt), ci_at hq, Option.bind_some, lat_at hy, Option.bind_some]) (fun f s => by simp only [m_collective_operation_apply_l2]; rw [ci_len, if_neg (by simp)])]
   simp only [m_collective_operation_apply_j2, m_collective_SliceLocal_1]
   rw [mesh_Coordinates hok.m hjp, Option.bind_some, lat_at ht, Option.bind_some, ci_at hw, Option.bind_some, Option.bind_some, e1, e2, tensor_Slice (hl.r t hmem) (hl.d t hmem) (hl.v t hmem), Option.bind_some, Option.bind_some]
   rw [if_neg (by rw [h0]; decide), lapp_ok (by simp; omega), Option.bind_some, m_collective_operation_apply_j1, wis (by omega)]
  ·simp only [m_ref53_SliceLocal_l1]
   rw [if_pos (lt_dec hj), ref51_Coordinates hok.m hjp, Option.bind_some, lat_at ht, Option.bind_some, ci_at hw, Option.bind_some, Option.bind_some, etd, e1, e2, ref12_Slice (hl.r t hmem) (hl.d t hmem) (hl.v t hmem), Option.bind_some, lapp_ok (by simp; omega), Option.bind_some, wis (by omega)]
 ·rintro s _ ⟨rfl, hs, hst⟩
  refine ⟨(s, 0), ⟨hst, by simp only; omega⟩, fun f => ?_, fun f => ?_⟩
  ·simp only [m_collective_operation_apply_l1]; rw [if_neg (by simp)]
  ·simp only [m_ref53_SliceLocal_l1]; rw [if_neg (by simp)]
theorem AllToAll_same {m : GMesh} {l : List GTensor} (hl : TeL l) (axis from_ to_ : Int) : ∃ r, (TeL r.1 ∧ r.1.length ≤ l.length) ∧ m_collective_AllToAll m l axis from_ to_ = some r ∧ m_ref53_AllToAll m l axis from_ to_ = some r := by
 obtain ⟨r, h1, h2, h3⟩ := AllGather_same (m := m) hl axis from_
 obtain ⟨q, q1, q2, q3⟩ := SliceLocal_same (m := m) h1.1 axis to_
 unfold m_collective_AllToAll m_ref53_AllToAll
 rw [h2, h3, Option.bind_some, Option.bind_some]
 by_cases hr : r.2 = 0
 ·rw [if_neg (by simp [hr]), if_neg (by simp [hr]), q2, q3]
  exact ⟨q, ⟨q1.1, by have := q1.2; have := h1.2; omega⟩, rfl, rfl⟩
 ·rw [if_pos (by simp [hr]), if_pos (by simp [hr])]
  exact ⟨([], r.2), ⟨TeL.nil, by simp⟩, rfl, rfl⟩
theorem base_Tensors_same {l : List GTensor} (hl : TeL l) (hn : l.length < 4611686018427387904) : m_base_Tensors l l = some true := by
 unfold m_base_Tensors
 rw [if_neg (by simp)]
 refine any_no (n := l.length) hn _ (fun f i hi => ?_) (fun f => ?_)
 ·obtain ⟨t, ht⟩ := at_some hi
  have hm := List.mem_of_getElem? ht
  simp only [m_base_Tensors_l1]
  rw [if_pos (lt_dec hi), lat_at ht, Option.bind_some, Option.bind_some, base_Tensor _ _ (hl.d t hm) (hl.v t hm), Option.bind_some, if_neg (by simp), wis (by omega)]
 ·simp only [m_base_Tensors_l1]
  rw [if_neg (by simp)]
theorem TeL.of {l : List GTensor} (h : okL okGTensor l) (hs : ∀ t ∈ l, t.Dims.length ≤ 20 ∧ t.Vals.length ≤ 5000) : TeL l := by
 refine ⟨fun t hm => ?_, fun t hm => ?_, fun t hm => ?_⟩
 ·have := h.1 t hm
  exact ⟨TyR.of this.1, fun v hv => VaR.of (this.2.2.1 v hv)⟩
 ·have := (hs t hm).1; omega
 ·have := (hs t hm).2; omega
theorem small_spec (m : GMesh) (l : List GTensor) : ∃ b, m_law53_small m l = some b ∧ (b = true → m.Dims.length ≤ 20 ∧ l.length ≤ 20 ∧ ∀ t ∈ l, t.Dims.length ≤ 20 ∧ t.Vals.length ≤ 5000) := by
 unfold m_law53_small
 by_cases hc : 20 < l.length ∨ 20 < m.Dims.length
 ·exact ⟨false, by rw [if_pos (by simp; omega)], fun h => by cases h⟩
 rw [if_neg (by simp; omega)]
 refine loop_fu (L := fun f (_ : Unit) i => m_law53_small_l1 l f i) (n := l.length) (by omega) (fun i _ => ∀ t ∈ l.take i, t.Dims.length ≤ 20 ∧ t.Vals.length ≤ 5000) _ ?_ ?_ () (by simp)
 ·rintro f i - hi hI
  obtain ⟨t, ht⟩ := at_some hi
  simp only [m_law53_small_l1]
  rw [if_pos (lt_dec hi), lat_at ht, Option.bind_some]
  by_cases h1 : 300 < t.Vals.length
  ·right
   have h1a : ¬ (t.Vals.length : Int) ≤ 300 := by omega
   have h1b : (300 : Int) < (t.Vals.length : Int) := by omega
   exact ⟨false, by simp [gd, h1a, h1b], fun h => by cases h⟩
  ·rw [show gd (!(decide (300 < (t.Vals.length : Int)))) (some t) = some t by unfold gd; rw [if_pos (by simp; omega)], Option.bind_some]
   by_cases h2 : 20 < t.Dims.length
   ·right
    exact ⟨false, by rw [if_pos (by simp; omega)], fun h => by cases h⟩
   ·left
    refine ⟨(), fun y hy => ?_, by rw [if_neg (by simp; omega), wis (by omega)]⟩
    rw [take_succ' ht] at hy
    rcases List.mem_append.1 hy with h | h
    ·exact hI y h
    ·rw [List.mem_singleton.1 h]; omega
 ·rintro f - hI
  rw [List.take_length] at hI
  refine ⟨true, ?_, fun _ => ⟨by omega, by omega, hI⟩⟩
  simp only [m_law53_small_l1]
  rw [if_neg (by simp)]
end Go.Proofs.YtpedfojbfbccaaaGreat
