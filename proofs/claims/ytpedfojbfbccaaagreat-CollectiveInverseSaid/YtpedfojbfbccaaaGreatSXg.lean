/- AllGather and SliceLocal told outright; the law CollectiveInverse. Conditions: the ranges of Go's types. -/
import Derived.Test.YtpedfojbfbccaaaGreatSXf
namespace Go.Proofs.YtpedfojbfbccaaaGreat
open Go Go.RowKit Go.Vc
set_option linter.unusedVariables false
set_option linter.unusedSimpArgs false

/-! ### AllGather -/
theorem Ok.jn {m : GMesh} {l : List GTensor} {md dn : List Nat} {ty : GType} (h : Ok m l md ty dn) {i x j k b : Nat} (hx : md[i]? = some x) (hj : j < l.length) (hb : dn[k]? = some b) :
    Jn (sel l (Go.Proofs.YtpedfojbfbccaaaGreat.grp (prd (md.take i)) x (prd (md.drop (i + 1))) j)) k ty (dn.take k) (dn.drop (k + 1)) (List.replicate x b) := by
  obtain ⟨h1, h2, h3, h4⟩ := h.grp hx hj
  have hax := Ax.of hb
  have hl := sel_len h1
  rw [grp_len] at hl
  refine ⟨by rw [hl]; simp, fun c t m' ht hm => ?_, hax.len, fun e => by rw [e] at hl; simp at hl; omega⟩
  have hm' : m' = b := by
    rw [List.getElem?_replicate] at hm
    split at hm
    · exact (Option.some.inj hm).symm
    · cases hm
  subst hm'
  rw [← hax.eq]
  exact h.ten t (sel_mem (List.mem_of_getElem? ht))
/-- What a group gives. -/
def agG (O x I : Nat) (ty : GType) (d1 d2 : List Nat) (b : Nat) (l : List GTensor) (j : Nat) : GTensor × Int := catS ty d1 d2 (List.replicate x b) (sel l (grp O x I j))
theorem jErr_of {l : List GTensor} {i : Nat} {ty : GType} {d1 d2 ms : List Nat} (h : Jn l i ty d1 d2 ms) : jErr (i : Int) l = 0 := by
  obtain ⟨t0, r, m0, mr, rfl, rfl, _⟩ := h.head
  have key : ∀ t ∈ t0 :: r, ∃ m, Ten t (d1 ++ m :: d2) ∧ t.Type_ = ty := fun t ht => by
    obtain ⟨k, hk⟩ := List.mem_iff_getElem?.1 ht
    have hlt := (List.getElem?_eq_some_iff.1 hk).1
    obtain ⟨m, hm⟩ := at_some (l := m0 :: mr) (i := k) (by rw [← h.len]; exact hlt)
    exact ⟨m, h.ten k t m hk hm⟩
  obtain ⟨ma, ha1, ha2⟩ := key t0 (by simp)
  have hi := h.ax
  simp only [jErr]
  rw [if_pos (firstErr_of fun t ht => by obtain ⟨m, hm, _⟩ := key t ht; exact hm.err), if_pos (firstErr_of fun t ht => by
    obtain ⟨m, hm, he⟩ := key t (by simp [ht])
    unfold jT
    rw [if_pos (by rw [he, ha2]), if_pos (by rw [hm.shp.eq, ha1.shp.eq, ci_len, ci_len]; simp)]), if_pos (by rw [ha1.shp.eq, ci_len]; simp; omega)]
  refine firstErr_of fun t ht => ?_
  obtain ⟨m, hm, he⟩ := key t (by simp [ht])
  unfold jD
  rw [if_pos]
  rw [hm.shp.eq, ha1.shp.eq, Int.toNat_natCast, show (0 : Int) = ((0 : Nat) : Int) from rfl, ci_set, ci_set, mid_set hi, mid_set hi]
theorem AllGather_ok {m : GMesh} {l : List GTensor} {md dn : List Nat} {ty : GType} (hl : TeL l) (h : Ok m l md ty dn) {i x k b : Nat} (hx : md[i]? = some x) (hb : dn[k]? = some b) :
    m_collective_AllGather m l (i : Int) (k : Int) = some (if runG (agG (prd (md.take i)) x (prd (md.drop (i + 1))) ty (dn.take k) (dn.drop (k + 1)) b l) l.length = 0 then (ranG (agG (prd (md.take i)) x (prd (md.drop (i + 1))) ty (dn.take k) (dn.drop (k + 1)) b l) l.length, 0) else ([], runG (agG (prd (md.take i)) x (prd (md.drop (i + 1))) ty (dn.take k) (dn.drop (k + 1)) b l) l.length)) := by
  have hlen := h.len
  have hle := h.m.le
  have hil : i < md.length := (List.getElem?_eq_some_iff.1 hx).1
  have hkl : k < dn.length := (List.getElem?_eq_some_iff.1 hb).1
  obtain ⟨t0, r, hl0⟩ := h.ne
  have ht0 := h.ten t0 (by rw [hl0]; simp)
  have he : axErr m l (i : Int) (k : Int) = 0 := by
    unfold axErr
    have hc : chErr m l = 0 := by
      unfold chErr
      rw [if_pos h.m.b, h.m.eq, ci_nat, if_pos hlen, if_pos (firstErr_of fun t ht => (h.ten t ht).1.err), hl0]
      simp only
      refine firstErr_of fun t ht => ?_
      have := h.ten t (by rw [hl0]; simp [ht])
      unfold cT
      rw [if_pos (by rw [this.2, ht0.2]), if_pos (by rw [this.1.shp.eq, ht0.1.shp.eq])]
    rw [if_pos hc, if_pos (by rw [h.m.eq, ci_len]; omega), hl0]
    simp only
    rw [if_pos (by rw [ht0.1.shp.eq, ci_len]; omega)]
  unfold m_collective_AllGather
  rw [coll_axes hl, Option.bind_some, if_neg (by simp [he])]
  unfold m_collective_operation_apply
  have key := red_loop (V := l.length) (agG (prd (md.take i)) x (prd (md.drop (i + 1))) ty (dn.take k) (dn.drop (k + 1)) b l) (by omega) (m_collective_operation_apply_l1 l m (i : Int) ⟨fun y_1 y_2 => m_collective_AllGather_1 y_1 y_2 (k : Int)⟩) (fun e => some ([], e)) (fun vs => some (vs, 0)) (fun f j s hj hs => by
    have hg := h.grp hx hj
    have hJ := h.jn hx hj hb
    have hsel : TeL (sel l (grp (prd (md.take i)) x (prd (md.drop (i + 1))) j)) := hl.mono fun t ht => sel_mem ht
    have hsl := sel_len hg.1
    simp only [m_collective_operation_apply_l1]
    rw [if_pos (lt_dec hj), mesh_Group h.m (by rw [← hlen]; exact hj) hx, Option.bind_some]
    rw [group_loop hg.1 hg.2.1 (m_collective_operation_apply_l2 (ci (grp (prd (md.take i)) x (prd (md.drop (i + 1))) j)) l ⟨fun y_1 y_2 => m_collective_AllGather_1 y_1 y_2 (k : Int)⟩ (j : Int) s (m_collective_operation_apply_l1 l m (i : Int) ⟨fun y_1 y_2 => m_collective_AllGather_1 y_1 y_2 (k : Int)⟩ f)) (m_collective_operation_apply_j2 ⟨fun y_1 y_2 => m_collective_AllGather_1 y_1 y_2 (k : Int)⟩ (j : Int) s (m_collective_operation_apply_l1 l m (i : Int) ⟨fun y_1 y_2 => m_collective_AllGather_1 y_1 y_2 (k : Int)⟩ f)) (fun f s q d y hq hy => by
      have hlt := (List.getElem?_eq_some_iff.1 hq).1
      simp only [m_collective_operation_apply_l2]
      rw [ci_len, if_pos (lt_dec hlt), ci_at hq, Option.bind_some, lat_at hy, Option.bind_some]) (fun f s => by simp only [m_collective_operation_apply_l2]; rw [ci_len, if_neg (by simp)])]
    simp only [m_collective_operation_apply_j2, m_collective_AllGather_1]
    rw [tensor_Concat hsel (by rw [hsl]; omega) (jErr_of hJ) hJ, Option.bind_some, Option.bind_some]
    unfold agG
    by_cases hr : (catS ty (dn.take k) (dn.drop (k + 1)) (List.replicate x b) (sel l (grp (prd (md.take i)) x (prd (md.drop (i + 1))) j))).2 = 0
    · rw [if_neg (by simp [hr]), if_pos hr, lapp_ok (by simp; omega), Option.bind_some, m_collective_operation_apply_j1, wis (by omega)]
    · rw [if_pos (by simp [hr]), if_neg hr]) (fun f s hs => by
    simp only [m_collective_operation_apply_l1]; rw [if_neg (by simp)])
  rw [key]
  split <;> rfl
theorem sumL_rep (n b : Nat) : sumL (List.replicate n b) = n * b := by
  induction n with
  | zero => simp [sumL]
  | succ n ih => rw [List.replicate_succ, sumL, ih, Nat.add_mul]; omega
/-- A gathered tensor. -/
theorem agG_ok {m : GMesh} {l : List GTensor} {md dn : List Nat} {ty : GType} (h : Ok m l md ty dn) {i x j k b : Nat} (hx : md[i]? = some x) (hj : j < l.length) (hb : dn[k]? = some b)
    (h0 : prd (dn.take k) * (x * b) * prd (dn.drop (k + 1)) ≤ 4096) :
    agG (prd (md.take i)) x (prd (md.drop (i + 1))) ty (dn.take k) (dn.drop (k + 1)) b l j = (⟨ty, ci (dn.set k (x * b)), catV (prd (dn.take k)) (prd (dn.drop (k + 1))) (prs (sel l (grp (prd (md.take i)) x (prd (md.drop (i + 1))) j)) (List.replicate x b))⟩, 0) := by
  have hax := Ax.of hb
  unfold agG catS
  rw [sumL_rep, if_pos h0, (hax.set (x * b)).eq]
theorem agG_ten {m : GMesh} {l : List GTensor} {md dn : List Nat} {ty : GType} (h : Ok m l md ty dn) {i x j k b : Nat} (hx : md[i]? = some x) (hj : j < l.length) (hb : dn[k]? = some b)
    (h0 : prd (dn.take k) * (x * b) * prd (dn.drop (k + 1)) ≤ 4096) :
    Ten (agG (prd (md.take i)) x (prd (md.drop (i + 1))) ty (dn.take k) (dn.drop (k + 1)) b l j).1 (dn.set k (x * b)) ∧ (agG (prd (md.take i)) x (prd (md.drop (i + 1))) ty (dn.take k) (dn.drop (k + 1)) b l j).1.Type_ = ty := by
  have hax := Ax.of hb
  have hJ := h.jn hx hj hb
  have hax' := hax.set (x * b)
  obtain ⟨t0, r, hl0⟩ := h.ne
  have ht0 := h.ten t0 (by rw [hl0]; simp)
  obtain ⟨p1, pm, p2⟩ := hax.pos ht0.1.shp.pos
  have hx1 := h.m.pos x (List.mem_of_getElem? hx)
  rw [agG_ok h hx hj hb h0]
  refine ⟨⟨by rw [← ht0.2]; exact ht0.1.ty, ⟨rfl, ?_, by rw [hax'.prd]; exact h0, by rw [List.length_set]; exact ht0.1.shp.len⟩, ?_, fun v hv => ?_⟩, rfl⟩
  · rw [hax'.eq]
    intro y hy
    simp only [List.mem_append, List.mem_cons] at hy
    rcases hy with hy | rfl | hy
    · exact p1 y hy
    · exact Nat.mul_pos hx1 pm
    · exact p2 y hy
  · simp only
    rw [catV_len hJ.lens, prs_map hJ.len, sumL_rep, hax'.prd]
  · obtain ⟨p, hp, hv⟩ := catV_mem hv
    obtain ⟨t, ht, he⟩ := prs_mem hp
    have := h.ten t (sel_mem ht)
    rw [he] at hv
    show okV ty v = true
    rw [← this.2]; exact this.1.ok v hv

/-! ### SliceLocal -/
def slG (md : List Nat) (i k q : Nat) (l : List GTensor) (j : Nat) : GTensor × Int := slS ((l[j]?).getD z0) (k : Int) ((((pt md j)[i]?).getD 0 * q : Nat) : Int) (((((pt md j)[i]?).getD 0 + 1) * q : Nat) : Int)
theorem Ok.ax0 {m : GMesh} {l : List GTensor} {md dn : List Nat} {ty : GType} (h : Ok m l md ty dn) {i x k b : Nat} (hx : md[i]? = some x) (hb : dn[k]? = some b) : axErr m l (i : Int) (k : Int) = 0 := by
  have hlen := h.len
  have hil : i < md.length := (List.getElem?_eq_some_iff.1 hx).1
  have hkl : k < dn.length := (List.getElem?_eq_some_iff.1 hb).1
  obtain ⟨t0, r, hl0⟩ := h.ne
  have ht0 := h.ten t0 (by rw [hl0]; simp)
  unfold axErr
  have hc : chErr m l = 0 := by
    unfold chErr
    rw [if_pos h.m.b, h.m.eq, ci_nat, if_pos hlen, if_pos (firstErr_of fun t ht => (h.ten t ht).1.err), hl0]
    simp only
    refine firstErr_of fun t ht => ?_
    have := h.ten t (by rw [hl0]; simp [ht])
    unfold cT
    rw [if_pos (by rw [this.2, ht0.2]), if_pos (by rw [this.1.shp.eq, ht0.1.shp.eq])]
  rw [if_pos hc, if_pos (by rw [h.m.eq, ci_len]; omega), hl0]
  simp only
  rw [if_pos (by rw [ht0.1.shp.eq, ci_len]; omega)]
theorem slG_ok {m : GMesh} {l : List GTensor} {md dn : List Nat} {ty : GType} (h : Ok m l md ty dn) {i x j k b : Nat} (hx : md[i]? = some x) (hj : j < l.length) (hb : dn[k]? = some b) (hd : b % x = 0) :
    ∃ t w, l[j]? = some t ∧ (pt md j)[i]? = some w ∧ w < x ∧ w * (b / x) < (w + 1) * (b / x) ∧ (w + 1) * (b / x) ≤ b ∧ slG md i k (b / x) l j = slS t (k : Int) ((w * (b / x) : Nat) : Int) (((w + 1) * (b / x) : Nat) : Int) := by
  obtain ⟨t, ht⟩ := at_some hj
  obtain ⟨w, hw, hwx⟩ := (pt_bd j h.m.pos).at_ hx
  have hten := (h.ten t (List.mem_of_getElem? ht)).1
  have hbs := mem_small hten.shp hb
  have hblk := block_ok hw hx h.m.pos hd hbs.1
  exact ⟨t, w, ht, hw, hwx, hblk.1, hblk.2, by unfold slG; rw [ht, hw]; rfl⟩
theorem SliceLocal_ok {m : GMesh} {l : List GTensor} {md dn : List Nat} {ty : GType} (hl : TeL l) (h : Ok m l md ty dn) {i x k b : Nat} (hx : md[i]? = some x) (hb : dn[k]? = some b) (hd : b % x = 0) :
    m_collective_SliceLocal m l (i : Int) (k : Int) = some (ranG (slG md i k (b / x) l) l.length, 0) := by
  have hlen := h.len
  have hle := h.m.le
  obtain ⟨t0, r0, hl0⟩ := h.ne
  have ht0 := (h.ten t0 (by rw [hl0]; simp)).1
  have hx1 := h.m.pos x (List.mem_of_getElem? hx)
  have hx16 := le_prd h.m.pos (List.mem_of_getElem? hx)
  have hbs := mem_small ht0.shp hb
  have a0 : lat l 0 = some t0 := by rw [hl0]; rfl
  have a1 : lat m.Dims (i : Int) = some (x : Int) := by rw [h.m.eq]; exact ci_at hx
  have a2 : lat t0.Dims (k : Int) = some (b : Int) := by rw [ht0.shp.eq]; exact ci_at hb
  have hx0 : ¬ (x : Int) = 0 := by omega
  have etm : Int.tmod (b : Int) (x : Int) = ((b % x : Nat) : Int) := (Int.ofNat_tmod _ _).symm
  have etd : wi64 (Int.tdiv (b : Int) (x : Int)) = ((b / x : Nat) : Int) := by
    rw [← Int.ofNat_tdiv]; exact wiN (by have := Nat.div_le_self b x; omega)
  unfold m_collective_SliceLocal
  rw [coll_axes hl, Option.bind_some, if_neg (by simp [h.ax0 hx hb])]
  simp only [a0, a1, a2, Option.bind_some, hx0, ne_eq, not_false_eq_true, if_true, etm]
  rw [if_neg (by simp; omega), etd]
  unfold m_collective_operation_apply
  have hall : ∀ j, j < l.length → (slG md i k (b / x) l j).2 = 0 := fun j hj => by
    obtain ⟨t, w, ht, hw, hwx, h1, h2, e⟩ := slG_ok h hx hj hb hd
    rw [e, slS_ok (h.ten t (List.mem_of_getElem? ht)).1 hb h1 h2]
  have key := red_loop (V := l.length) (slG md i k (b / x) l) (by omega) (m_collective_operation_apply_l1 l m (i : Int) ⟨fun y_1 y_2 => m_collective_SliceLocal_1 y_1 y_2 m l (k : Int) (i : Int) ((b / x : Nat) : Int)⟩) (fun e => some ([], e)) (fun vs => some (vs, 0)) (fun f j s hj hs => by
    have hg := h.grp hx hj
    obtain ⟨t, w, ht, hw, hwx, h1, h2, e⟩ := slG_ok h hx hj hb hd
    have hmem := List.mem_of_getElem? ht
    have hjp : j < prd md := by rw [← hlen]; exact hj
    have e1 : wi64 ((w : Int) * ((b / x : Nat) : Int)) = ((w * (b / x) : Nat) : Int) := wim (by omega)
    have e2 : wi64 (wi64 ((w : Int) + 1) * ((b / x : Nat) : Int)) = (((w + 1) * (b / x) : Nat) : Int) := by rw [wis (by omega), wim (by omega)]
    have h0 := hall j hj
    rw [if_pos h0, e] at *
    simp only [m_collective_operation_apply_l1]
    rw [if_pos (lt_dec hj), mesh_Group h.m hjp hx, Option.bind_some]
    rw [group_loop hg.1 hg.2.1 (m_collective_operation_apply_l2 (ci (grp (prd (md.take i)) x (prd (md.drop (i + 1))) j)) l ⟨fun y_1 y_2 => m_collective_SliceLocal_1 y_1 y_2 m l (k : Int) (i : Int) ((b / x : Nat) : Int)⟩ (j : Int) s (m_collective_operation_apply_l1 l m (i : Int) ⟨fun y_1 y_2 => m_collective_SliceLocal_1 y_1 y_2 m l (k : Int) (i : Int) ((b / x : Nat) : Int)⟩ f)) (m_collective_operation_apply_j2 ⟨fun y_1 y_2 => m_collective_SliceLocal_1 y_1 y_2 m l (k : Int) (i : Int) ((b / x : Nat) : Int)⟩ (j : Int) s (m_collective_operation_apply_l1 l m (i : Int) ⟨fun y_1 y_2 => m_collective_SliceLocal_1 y_1 y_2 m l (k : Int) (i : Int) ((b / x : Nat) : Int)⟩ f)) (fun f s q d y hq hy => by
      have hlt := (List.getElem?_eq_some_iff.1 hq).1
      simp only [m_collective_operation_apply_l2]
      rw [ci_len, if_pos (lt_dec hlt), ci_at hq, Option.bind_some, lat_at hy, Option.bind_some]) (fun f s => by simp only [m_collective_operation_apply_l2]; rw [ci_len, if_neg (by simp)])]
    simp only [m_collective_operation_apply_j2, m_collective_SliceLocal_1]
    rw [mesh_Coordinates h.m hjp, Option.bind_some, lat_at ht, Option.bind_some, ci_at hw, Option.bind_some, Option.bind_some, e1, e2, tensor_Slice (hl.r t hmem) (hl.d t hmem) (hl.v t hmem), Option.bind_some, Option.bind_some]
    rw [if_neg (by rw [h0]; decide), lapp_ok (by simp; omega), Option.bind_some, m_collective_operation_apply_j1, wis (by omega)]) (fun f s hs => by
    simp only [m_collective_operation_apply_l1]; rw [if_neg (by simp)])
  rw [key, if_pos (runG_all hall)]; rfl

/-! ### A piece of what was joined -/
theorem cat_piece {α : Type} {O I : Nat} {ps : List (List α × Nat)} {w b : Nat} {v : List α} (hL : Lens O I ps) (hw : ps[w]? = some (v, b)) :
    slV O (sumL (ps.map (·.2))) I (sumL ((ps.map (·.2)).take w)) (sumL ((ps.map (·.2)).take w) + b) (catV O I ps) = v := by
  have hv : v.length = O * b * I := hL (v, b) (List.mem_of_getElem? hw)
  have hW : sumL ((ps.map (·.2)).take w) + b ≤ sumL (ps.map (·.2)) := by
    have h1 : (ps.map (·.2))[w]? = some b := by rw [List.getElem?_map, hw]; rfl
    have := sumL_take_le (ps.map (·.2)) (w + 1)
    rw [sumL_take_succ h1] at this; exact this
  have hc := catV_len hL
  refine list_ext' ?_ fun j hj => ?_
  · rw [slV_len hc hW (by omega), hv, Nat.add_sub_cancel_left]
  · rw [slV_len hc hW (by omega), show sumL ((ps.map (·.2)).take w) + b - sumL ((ps.map (·.2)).take w) = b by omega] at hj
    obtain ⟨q1, q2, q3, q4⟩ := num_split hj
    have h1 := slV_get (v := catV O I ps) (f := sumL ((ps.map (·.2)).take w)) hc hW (Nat.le_add_right _ _) q1 (k := (j / I) % b) (i := j % I) (by rw [Nat.add_sub_cancel_left]; exact q2) q3
    rw [show sumL ((ps.map (·.2)).take w) + b - sumL ((ps.map (·.2)).take w) = b by omega, ← q4] at h1
    rw [h1, catV_get hL q1 q3 (by omega), pick_at ps w _ v b hw (by omega) (by omega)]
    rw [show sumL ((ps.map (·.2)).take w) + (j / I) % b - sumL ((ps.map (·.2)).take w) = (j / I) % b by omega, ← q4]
theorem grp_self {O m I a : Nat} (ha : a < O * m * I) : (grp O m I a)[(a / I) % m]? = some a := by
  obtain ⟨q1, q2, q3, q4⟩ := num_split ha
  unfold grp
  rw [List.getElem?_map, List.getElem?_range q2]
  simp only [Option.map_some]
  rw [← q4]
theorem ten_eq {t u : GTensor} {dn : List Nat} (ht : Ten t dn) (h1 : u.Type_ = t.Type_) (h2 : u.Dims = ci dn) (h3 : u.Vals = t.Vals) : u = t := by
  have := ht.shp.eq
  cases t; cases u
  simp only at h1 h2 h3 this
  rw [h1, h2, h3, this]
/-- Gathered and cut again: the tensors as they were. -/
theorem gather_slice {m : GMesh} {l : List GTensor} {md dn : List Nat} {ty : GType} (h : Ok m l md ty dn) {i x k b : Nat} (hx : md[i]? = some x) (hb : dn[k]? = some b)
    (h0 : prd (dn.take k) * (x * b) * prd (dn.drop (k + 1)) ≤ 4096) :
    Ok m (ranG (agG (prd (md.take i)) x (prd (md.drop (i + 1))) ty (dn.take k) (dn.drop (k + 1)) b l) l.length) md ty (dn.set k (x * b)) ∧
    ranG (slG md i k (x * b / x) (ranG (agG (prd (md.take i)) x (prd (md.drop (i + 1))) ty (dn.take k) (dn.drop (k + 1)) b l) l.length)) l.length = l := by
  have hx1 := h.m.pos x (List.mem_of_getElem? hx)
  have hax := Ax.of hb
  have hkl : k < dn.length := (List.getElem?_eq_some_iff.1 hb).1
  have hok : Ok m (ranG (agG (prd (md.take i)) x (prd (md.drop (i + 1))) ty (dn.take k) (dn.drop (k + 1)) b l) l.length) md ty (dn.set k (x * b)) := ⟨h.m, by rw [ranG_len]; exact h.len, fun t ht => by
    obtain ⟨j, hj, rfl⟩ := ranG_mem ht
    exact agG_ten h hx hj hb h0⟩
  refine ⟨hok, list_ext' (by rw [ranG_len]) fun j hj => ?_⟩
  rw [ranG_len] at hj
  rw [ranG_get _ hj]
  have hb' : (dn.set k (x * b))[k]? = some (x * b) := by rw [List.getElem?_set_self hkl]
  obtain ⟨t, w, ht, hw, hwx, h1, h2, e⟩ := slG_ok hok hx (by rw [ranG_len]; exact hj) hb' (Nat.mul_mod_right x b)
  rw [ranG_get _ hj] at ht
  have ht' := (Option.some.inj ht).symm
  have hten := agG_ten h hx hj hb h0
  rw [← ht'] at hten
  have eb : x * b / x = b := Nat.mul_div_cancel_left _ (by omega)
  rw [eb] at h1 h2 e ⊢
  rw [e, slS_ok hten.1 hb' h1 h2]
  obtain ⟨u, hu⟩ := at_some hj
  rw [hu]
  have hut := h.ten u (List.mem_of_getElem? hu)
  congr 1
  have hJ := h.jn hx hj hb
  have ewb : (w + 1) * b = w * b + b := by rw [Nat.add_mul, Nat.one_mul]
  have hjp : j < prd (md.take i) * x * prd (md.drop (i + 1)) := by rw [← (Ax.of hx).prd, ← h.len]; exact hj
  refine ten_eq hut.1 ?_ ?_ ?_
  · show t.Type_ = _
    rw [hten.2, hut.2]
  · show ci _ = _
    rw [List.set_set, show (w + 1) * b - w * b = b by omega]
    congr 1
    exact list_ext' (by simp) fun q hq => by
      by_cases e : q = k
      · subst e; rw [List.getElem?_set_self hkl, hb]
      · rw [List.getElem?_set_ne (fun h => e h.symm)]
  · show slV _ _ _ _ _ t.Vals = u.Vals
    have e1 : (dn.set k (x * b)).take k = dn.take k := by rw [(hax.set (x * b)).eq, List.take_left' hax.len]
    have e2 : (dn.set k (x * b)).drop (k + 1) = dn.drop (k + 1) := by
      rw [(hax.set (x * b)).eq, show dn.take k ++ x * b :: dn.drop (k + 1) = (dn.take k ++ [x * b]) ++ dn.drop (k + 1) by simp, List.drop_left' (by rw [List.length_append, hax.len]; rfl)]
    rw [e1, e2, ht', agG_ok h hx hj hb h0]
    have hp : (prs (sel l (grp (prd (md.take i)) x (prd (md.drop (i + 1))) j)) (List.replicate x b))[w]? = some (u.Vals, b) := by
      have hww : w = (j / prd (md.drop (i + 1))) % x := by rw [pt_at hx] at hw; exact (Option.some.inj hw).symm
      have hgs := grp_self hjp
      rw [← hww] at hgs
      have hg := h.grp hx hj
      have hs : (sel l (grp (prd (md.take i)) x (prd (md.drop (i + 1))) j))[w]? = some u := by rw [sel_get hg.1, hgs]; exact hu
      unfold prs
      rw [List.getElem?_zip_eq_some]
      exact ⟨by rw [List.getElem?_map, hs]; rfl, by rw [List.getElem?_replicate, if_pos hwx]⟩
    have hcp := cat_piece hJ.lens hp
    rw [prs_map hJ.len, sumL_rep, List.take_replicate, sumL_rep, Nat.min_eq_left (by omega)] at hcp
    rw [ewb]
    exact hcp

/-! ### The law -/
theorem catS_err (ty : GType) (d1 d2 ms : List Nat) (l : List GTensor) (h : (catS ty d1 d2 ms l).2 = 0) : prd d1 * sumL ms * prd d2 ≤ 4096 := by
  unfold catS at h
  split at h
  · assumption
  · cases h
theorem Ok.ch {m : GMesh} {l : List GTensor} {md dn : List Nat} {ty : GType} (h : Ok m l md ty dn) : chErr m l = 0 := by
  obtain ⟨t0, r, hl0⟩ := h.ne
  have ht0 := h.ten t0 (by rw [hl0]; simp)
  unfold chErr
  rw [if_pos h.m.b, h.m.eq, ci_nat, if_pos h.len, if_pos (firstErr_of fun t ht => (h.ten t ht).1.err), hl0]
  simp only
  refine firstErr_of fun t ht => ?_
  have := h.ten t (by rw [hl0]; simp [ht])
  unfold cT
  rw [if_pos (by rw [this.2, ht0.2]), if_pos (by rw [this.1.shp.eq, ht0.1.shp.eq])]
theorem inv_j1 {m : GMesh} {l : List GTensor} {md dn : List Nat} {ty : GType} (hl : TeL l) (h : Ok m l md ty dn) : m_law53_CollectiveInverse_j1 m l = some true := by
  have hlen := h.len
  have hle := h.m.le
  have hml := h.m.len
  obtain ⟨x, hx⟩ := at_some (l := md) (i := 0) (by omega)
  obtain ⟨a1, a2⟩ := AllReduce_ok h hx (fold := 4) (by omega)
  have hrun : runG (arG (prd (md.take 0)) x (prd (md.drop (0 + 1))) 4 ty dn l) l.length = 0 := runG_all fun j hj => (h.gr hx hj).max
  have hR : m_collective_AllReduce m l 0 4 = some (ranG (arG (prd (md.take 0)) x (prd (md.drop (0 + 1))) 4 ty dn l) l.length, 0) := by
    have hb0 : (decide ((0 : Int) ≤ 0) && decide ((0 : Int) < (m.Dims.length : Int))) = true := by
      rw [h.m.eq, ci_len]; simp only [Bool.and_eq_true, decide_eq_true_eq]; omega
    unfold m_collective_AllReduce
    rw [coll_check hl, Option.bind_some, h.ch, if_neg (by simp), m_collective_hasAxis, Option.bind_some, hb0, if_neg (by decide), if_neg (by simp)]
    rw [show (0 : Int) = ((0 : Nat) : Int) from rfl, a1, Option.bind_some]
    unfold arS
    rw [if_pos hrun]; rfl
  unfold m_law53_CollectiveInverse_j1
  rw [hR, Option.bind_some, if_neg (by simp [ranG_len])]
  have hn := prd_pos h.m.pos
  refine loop_from (L := fun f (_ : Unit) i => m_law53_CollectiveInverse_l1 (ranG (arG (prd (md.take 0)) x (prd (md.drop (0 + 1))) 4 ty dn l) l.length, 0) m f i) (n := l.length) (i0 := 1) (by omega) (by omega) (fun i _ => 1 ≤ i) ?_ ?_ () (Nat.le_refl _)
  · rintro f j - hj h1
    simp only [m_law53_CollectiveInverse_l1]
    rw [ranG_len]
    by_cases hone : md.length = 1
    · left
      refine ⟨(), by omega, ?_⟩
      rw [if_pos (by simp [hj]; rw [h.m.eq, ci_len]; omega), lat_at (ranG_get _ hj), Option.bind_some, show (0 : Int) = ((0 : Nat) : Int) from rfl, lat_at (ranG_get _ (show 0 < l.length by omega)), Option.bind_some]
      have hmd : md = [x] := by
        rcases md with _ | ⟨y, _ | ⟨z, q⟩⟩
        · simp at hone
        · simp at hx; rw [hx]
        · simp at hone
      have hgj : ∀ q, q < l.length → grp (prd (md.take 0)) x (prd (md.drop (0 + 1))) q = List.range x := fun q hq => by
        rw [hmd]
        simp only [List.take_zero, Nat.zero_add, List.drop_one, List.tail_cons, prd, grp]
        have hqx : q < x := by rw [hlen, hmd] at hq; simpa [prd] using hq
        conv => rhs; rw [← List.map_id (List.range x)]
        refine List.map_congr_left fun c _ => ?_
        simp [Nat.div_eq_of_lt hqx, Nat.mod_one]
      have hsame : arG (prd (md.take 0)) x (prd (md.drop (0 + 1))) 4 ty dn l j = arG (prd (md.take 0)) x (prd (md.drop (0 + 1))) 4 ty dn l 0 := by
        unfold arG; rw [hgj j hj, hgj 0 (by omega)]
      have htt := (h.gr hx (show 0 < l.length by omega)).cmb (fold := 4) (by omega) (h.gr hx (show 0 < l.length by omega)).max
      rw [hsame]
      have k1 := htt.1.shp.len; have k2 := htt.1.shp.le; have k3 := htt.1.len; have k4 := congrArg List.length htt.1.shp.eq
      rw [ci_len] at k4
      unfold arG
      rw [base_Tensor _ _ (by omega) (by omega), Option.bind_some, if_neg (by simp), wis (by omega)]
    · right
      rw [if_neg (by simp; intro _; rw [h.m.eq, ci_len]; omega), ex53b]; rfl
  · rintro f - _
    simp only [m_law53_CollectiveInverse_l1]
    rw [ranG_len, if_neg (by simp), ex53b]; rfl
theorem law_CollectiveInverse (m : GMesh) (l : List GTensor) (axis along : Int) (_ : okGMesh m) (hl : okL okGTensor l) (_ : okI .i64 axis) (_ : okI .i64 along) : m_law53_CollectiveInverse m l axis along = some true := by
  unfold m_law53_CollectiveInverse
  obtain ⟨b, h1, h2⟩ := small_spec m l
  rw [h1, Option.bind_some]
  cases b
  · simp [gd, ex53b]
  obtain ⟨_, s2, s3⟩ := h2 rfl
  have hT := TeL.of hl s3
  rw [ref53_Check hT, show gd (!(!true)) (some (chErr m l)) = some (chErr m l) from rfl, Option.bind_some]
  by_cases hc : chErr m l = 0
  rotate_left
  · rw [if_pos (by simp [hc]), ex53b]; rfl
  rw [if_neg (by simp [hc])]
  obtain ⟨md, ty, dn, hok⟩ := Ok.of hc
  have hj1 := inv_j1 hT hok
  obtain ⟨r, ⟨r1, r2⟩, r3, _⟩ := AllGather_same (m := m) hT axis along
  rw [r3, Option.bind_some]
  by_cases h0 : r.2 = 0
  rotate_left
  · rw [if_neg (by simpa using h0)]; exact hj1
  rw [if_pos (by simpa using h0)]
  by_cases hax : axErr m l axis along = 0
  rotate_left
  · exfalso
    unfold m_collective_AllGather at r3
    rw [coll_axes hT, Option.bind_some, if_pos (by simp [hax])] at r3
    rw [← Option.some.inj r3] at h0; exact hax h0
  obtain ⟨md', ty', dn', i, k, x, b, hok', rfl, rfl, hx, hb⟩ := axErr0 hax
  rw [AllGather_ok hT hok' hx hb] at r3
  have hr := Option.some.inj r3
  have hn := prd_pos hok'.m.pos
  have hlen := hok'.len
  by_cases hrun : runG (agG (prd (md'.take i)) x (prd (md'.drop (i + 1))) ty' (dn'.take k) (dn'.drop (k + 1)) b l) l.length = 0
  rotate_left
  · rw [if_neg hrun] at hr
    rw [← hr] at h0; exact absurd h0 hrun
  rw [if_pos hrun] at hr
  have hle : prd (dn'.take k) * (x * b) * prd (dn'.drop (k + 1)) ≤ 4096 := by
    have := catS_err _ _ _ _ _ (runG_zero hrun 0 (by omega))
    rwa [sumL_rep] at this
  obtain ⟨g1, g2⟩ := gather_slice hok' hx hb hle
  have hkl : k < dn'.length := (List.getElem?_eq_some_iff.1 hb).1
  have hb' : (dn'.set k (x * b))[k]? = some (x * b) := by rw [List.getElem?_set_self hkl]
  have hS := SliceLocal_ok (by rw [← hr] at r1; exact r1) g1 hx hb' (Nat.mul_mod_right x b)
  rw [← hr, hS, Option.bind_some, ranG_len, g2, base_Tensors_same hT (by omega)]
  simpa [gd] using hj1
end Go.Proofs.YtpedfojbfbccaaaGreat
