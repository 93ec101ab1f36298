import Derived.Test.YtpedfojbfbccaaaGreatSXf
namespace Go.Proofs.YtpedfojbfbccaaaGreat
open Go Go.RowKit Go.Vc
set_option linter.unusedVariables false
set_option linter.unusedSimpArgs false
theorem Ok.jn {m : GMesh} {l : List GTensor} {md dn : List Nat} {ty : GType} (h : Ok m l md ty dn) {i x j k b : Nat} (hx : md[i]? = some x) (hj : j < l.length) (hb : dn[k]? = some b) :
  Jn (sel l (Go.Proofs.YtpedfojbfbccaaaGreat.grp (prd (md.take i)) x (prd (md.drop (i + 1))) j)) k ty (dn.take k) (dn.drop (k + 1)) (List.replicate x b) := by
 obtain ⟨h1, h2, h3, h4⟩ := h.grp hx hj
 have hax := Ax.of hb
 have hl := sel_len h1
 rw [grp_len] at hl
 refine ⟨by rw [hl]; simp, fun c t m' ht hm => ?_, hax.len, fun e => by rw [e] at hl; simp at hl; omega⟩
 have hm' : m' = b := by
  rw [List.getElem?_replicate] at hm
  split at hm
  ·exact (Option.some.inj hm).symm
  ·cases hm
 subst hm'
 rw [← hax.eq]
 exact h.ten t (sel_mem (List.mem_of_getElem? ht))
def agG (O x I : Nat) (ty : GType) (d1 d2 : List Nat) (b : Nat) (l : List GTensor) (j : Nat) : GTensor × Int := catS ty d1 d2 (List.replicate x b) (sel l (grp O x I j))
theorem jErr_of {l : List GTensor} {i : Nat} {ty : GType} {d1 d2 ms : List Nat} (h : Jn l i ty d1 d2 ms) : jErr (i : Int) l = 0 := by
 obtain ⟨t0, r, m0, mr, rfl, rfl, _⟩ := h.head
 have key : ∀ t ∈ t0 :: r, ∃ m, Ten t (d1 ++ m :: d2) ∧ t.Type_ = ty := fun t ht => by
  obtain ⟨k, hk⟩ := List.mem_iff_getElem?.1 ht
  have hlt := (List.getElem?_eq_some_iff.1 hk).1
  obtain ⟨m, hm⟩ := at_some (l := m0 :: mr) (i := k) (by rw [← h.len]; exact hlt)
  exact ⟨m, h.ten k t m hk hm⟩
 obtain ⟨ma, ha1, ha2⟩ := key t0 (by simp)
 have hi := h.ax
 simp only [jErr]
 rw [if_pos (firstErr_of fun t ht => by obtain ⟨m, hm, _⟩ := key t ht; exact hm.err), if_pos (firstErr_of fun t ht => by
  obtain ⟨m, hm, he⟩ := key t (by simp [ht])
  unfold jT
  rw [if_pos (by rw [he, ha2]), if_pos (by rw [hm.shp.eq, ha1.shp.eq, ci_len, ci_len]; simp)]), if_pos (by rw [ha1.shp.eq, ci_len]; simp; omega)]
 refine firstErr_of fun t ht => ?_
 obtain ⟨m, hm, he⟩ := key t (by simp [ht])
 unfold jD
 rw [if_pos]
 rw [hm.shp.eq, ha1.shp.eq, Int.toNat_natCast, show (0 : Int) = ((0 : Nat) : Int) from rfl, ci_set, ci_set, mid_set hi, mid_set hi]
theorem AllGather_ok {m : GMesh} {l : List GTensor} {md dn : List Nat} {ty : GType} (hl : TeL l) (h : Ok m l md ty dn) {i x k b : Nat} (hx : md[i]? = some x) (hb : dn[k]? = some b) :
  m_collective_AllGather m l (i : Int) (k : Int) = some (if runG (agG (prd (md.take i)) x (prd (md.drop (i + 1))) ty (dn.take k) (dn.drop (k + 1)) b l) l.length = 0 then (ranG (agG (prd (md.take i)) x (prd (md.drop (i + 1))) ty (dn.take k) (dn.drop (k + 1)) b l) l.length, 0) else ([], runG (agG (prd (md.take i)) x (prd (md.drop (i + 1))) ty (dn.take k) (dn.drop (k + 1)) b l) l.length)) := by
 have hlen := h.len
 have hle := h.m.le
 have hil : i < md.length := (List.getElem?_eq_some_iff.1 hx).1
 have hkl : k < dn.length := (List.getElem?_eq_some_iff.1 hb).1
 obtain ⟨t0, r, hl0⟩ := h.ne
 have ht0 := h.ten t0 (by rw [hl0]; simp)
 have he : axErr m l (i : Int) (k : Int) = 0 := by
  unfold axErr
  have hc : chErr m l = 0 := by
   unfold chErr
   rw [if_pos h.m.b, h.m.eq, ci_nat, if_pos hlen, if_pos (firstErr_of fun t ht => (h.ten t ht).1.err), hl0]
   simp only
   refine firstErr_of fun t ht => ?_
   have := h.ten t (by rw [hl0]; simp [ht])
   unfold cT
   rw [if_pos (by rw [this.2, ht0.2]), if_pos (by rw [this.1.shp.eq, ht0.1.shp.eq])]
  rw [if_pos hc, if_pos (by rw [h.m.eq, ci_len]; omega), hl0]
  simp only
  rw [if_pos (by rw [ht0.1.shp.eq, ci_len]; omega)]
 unfold m_collective_AllGather
 rw [coll_axes hl, Option.bind_some, if_neg (by simp [he])]
 unfold m_collective_operation_apply
 have key := red_loop (V := l.length) (agG (prd (md.take i)) x (prd (md.drop (i + 1))) ty (dn.take k) (dn.drop (k + 1)) b l) (by omega) (m_collective_operation_apply_l1 l m (i : Int) ⟨fun y_1 y_2 => m_collective_AllGather_1 y_1 y_2 (k : Int)⟩) (fun e => some ([], e)) (fun vs => some (vs, 0)) (fun f j s hj hs => by
  have hg := h.grp hx hj
  have hJ := h.jn hx hj hb
  have hsel : TeL (sel l (grp (prd (md.take i)) x (prd (md.drop (i + 1))) j)) := hl.mono fun t ht => sel_mem ht
  have hsl := sel_len hg.1
  simp only [m_collective_operation_apply_l1]
  rw [if_pos (lt_dec hj), mesh_Group h.m (by rw [← hlen]; exact hj) hx, Option.bind_some]
  rw [group_loop hg.1 hg.2.1 (m_collective_operation_apply_l2 (ci (grp (prd (md.take i)) x (prd (md.drop (i + 1))) j)) l ⟨fun y_1 y_2 => m_collective_AllGather_1 y_1 y_2 (k : Int)⟩ (j : Int) s (m_collective_operation_apply_l1 l m (i : Int) ⟨fun y_1 y_2 => m_collective_AllGather_1 y_1 y_2 (k : Int)⟩ f)) (m_collective_operation_apply_j2 ⟨fun y_1 y_2 => m_collective_AllGather_1 y_1 y_2 (k : Int)⟩ (j : Int) s (m_collective_operation_apply_l1 l m (i : Int) ⟨fun y_1 y_2 => m_collective_AllGather_1 y_1 y_2 (k : Int)⟩ f)) (fun f s q d y hq hy => by
   have hlt := (List.getElem?_eq_some_iff.1 hq).1
   simp only [m_collective_operation_apply_l2]
   rw [ci_len, if_pos (lt_dec hlt), ci_at hq, Option.bind_some, lat_at hy, Option.bind_some]) (fun f s => by simp only [m_collective_operation_apply_l2]; rw [ci_len, if_neg (by simp)])]
  simp only [m_collective_operation_apply_j2, m_collective_AllGather_1]
  rw [tensor_Concat hsel (by rw [hsl]; omega) (jErr_of hJ) hJ, Option.bind_some, Option.bind_some]
  unfold agG
  by_cases hr : (catS ty (dn.take k) (dn.drop (k + 1)) (List.replicate x b) (sel l (grp (prd (md.take i)) x (prd (md.drop (i + 1))) j))).2 = 0
  ·rw [if_neg (by simp [hr]), if_pos hr, lapp_ok (by simp; omega), Option.bind_some, m_collective_operation_apply_j1, wis (by omega)]
  ·rw [if_pos (by simp [hr]), if_neg hr]) (fun f s hs => by
  simp only [m_collective_operation_apply_l1]; rw [if_neg (by simp)])
 rw [key]
 split <;> rfl
theorem sumL_rep (n b : Nat) : sumL (List.replicate n b) = n * b := by
 induction n with
 | zero => simp [sumL]
 | succ n ih => rw [List.replicate_succ, sumL, ih, Nat.add_mul]; omega
theorem agG_ok {m : GMesh} {l : List GTensor} {md dn : List Nat} {ty : GType} (h : Ok m l md ty dn) {i x j k b : Nat} (hx : md[i]? = some x) (hj : j < l.length) (hb : dn[k]? = some b)
  (h0 : prd (dn.take k) * (x * b) * prd (dn.drop (k + 1)) ≤ 4096) :
  agG (prd (md.take i)) x (prd (md.drop (i + 1))) ty (dn.take k) (dn.drop (k + 1)) b l j = (⟨ty, ci (dn.set k (x * b)), catV (prd (dn.take k)) (prd (dn.drop (k + 1))) (prs (sel l (grp (prd (md.take i)) x (prd (md.drop (i + 1))) j)) (List.replicate x b))⟩, 0) := by
 have hax := Ax.of hb
 unfold agG catS
 rw [sumL_rep, if_pos h0, (hax.set (x * b)).eq]
def slG (md : List Nat) (i k q : Nat) (l : List GTensor) (j : Nat) : GTensor × Int := slS ((l[j]?).getD z0) (k : Int) ((((pt md j)[i]?).getD 0 * q : Nat) : Int) (((((pt md j)[i]?).getD 0 + 1) * q : Nat) : Int)
theorem Ok.ax0 {m : GMesh} {l : List GTensor} {md dn : List Nat} {ty : GType} (h : Ok m l md ty dn) {i x k b : Nat} (hx : md[i]? = some x) (hb : dn[k]? = some b) : axErr m l (i : Int) (k : Int) = 0 := by
 have hlen := h.len
 have hil : i < md.length := (List.getElem?_eq_some_iff.1 hx).1
 have hkl : k < dn.length := (List.getElem?_eq_some_iff.1 hb).1
 obtain ⟨t0, r, hl0⟩ := h.ne
 have ht0 := h.ten t0 (by rw [hl0]; simp)
 unfold axErr
 have hc : chErr m l = 0 := by
  unfold chErr
  rw [if_pos h.m.b, h.m.eq, ci_nat, if_pos hlen, if_pos (firstErr_of fun t ht => (h.ten t ht).1.err), hl0]
  simp only
  refine firstErr_of fun t ht => ?_
  have := h.ten t (by rw [hl0]; simp [ht])
  unfold cT
  rw [if_pos (by rw [this.2, ht0.2]), if_pos (by rw [this.1.shp.eq, ht0.1.shp.eq])]
 rw [if_pos hc, if_pos (by rw [h.m.eq, ci_len]; omega), hl0]
 simp only
 rw [if_pos (by rw [ht0.1.shp.eq, ci_len]; omega)]
theorem slG_ok {m : GMesh} {l : List GTensor} {md dn : List Nat} {ty : GType} (h : Ok m l md ty dn) {i x j k b : Nat} (hx : md[i]? = some x) (hj : j < l.length) (hb : dn[k]? = some b) (hd : b % x = 0) :
  ∃ t w, l[j]? = some t ∧ (pt md j)[i]? = some w ∧ w < x ∧ w * (b / x) < (w + 1) * (b / x) ∧ (w + 1) * (b / x) ≤ b ∧ slG md i k (b / x) l j = slS t (k : Int) ((w * (b / x) : Nat) : Int) (((w + 1) * (b / x) : Nat) : Int) := by
 obtain ⟨t, ht⟩ := at_some hj
 obtain ⟨w, hw, hwx⟩ := (pt_bd j h.m.pos).at_ hx
 have hten := (h.ten t (List.mem_of_getElem? ht)).1
 have hbs := mem_small hten.shp hb
 have hblk := block_ok hw hx h.m.pos hd hbs.1
 exact ⟨t, w, ht, hw, hwx, hblk.1, hblk.2, by unfold slG; rw [ht, hw]; rfl⟩
theorem SliceLocal_ok {m : GMesh} {l : List GTensor} {md dn : List Nat} {ty : GType} (hl : TeL l) (h : Ok m l md ty dn) {i x k b : Nat} (hx : md[i]? = some x) (hb : dn[k]? = some b) (hd : b % x = 0) :
  m_collective_SliceLocal m l (i : Int) (k : Int) = some (ranG (slG md i k (b / x) l) l.length, 0) := by
 have hlen := h.len
 have hle := h.m.le
 obtain ⟨t0, r0, hl0⟩ := h.ne
 have ht0 := (h.ten t0 (by rw [hl0]; simp)).1
 have hx1 := h.m.pos x (List.mem_of_getElem? hx)
 have hx16 := le_prd h.m.pos (List.mem_of_getElem? hx)
 have hbs := mem_small ht0.shp hb
 have a0 : lat l 0 = some t0 := by rw [hl0]; rfl
 have a1 : lat m.Dims (i : Int) = some (x : Int) := by rw [h.m.eq]; exact ci_at hx
 have a2 : lat t0.Dims (k : Int) = some (b : Int) := by rw [ht0.shp.eq]; exact ci_at hb
 have hx0 : ¬ (x : Int) = 0 := by omega
 have etm : Int.tmod (b : Int) (x : Int) = ((b % x : Nat) : Int) := (Int.ofNat_tmod _ _).symm
 have etd : wi64 (Int.tdiv (b : Int) (x : Int)) = ((b / x : Nat) : Int) := by
  rw [← Int.ofNat_tdiv]; exact wiN (by have := Nat.div_le_self b x; omega)
 unfold m_collective_SliceLocal
 rw [coll_axes hl, Option.bind_some, if_neg (by simp [h.ax0 hx hb])]
 simp only [a0, a1, a2, Option.bind_some, hx0, ne_eq, not_false_eq_true, if_true, etm]
 rw [if_neg (by simp; omega), etd]
 unfold m_collective_operation_apply
 have hall : ∀ j, j < l.length → (slG md i k (b / x) l j).2 = 0 := fun j hj => by
  obtain ⟨t, w, ht, hw, hwx, h1, h2, e⟩ := slG_ok h hx hj hb hd
  rw [e, slS_ok (h.ten t (List.mem_of_getElem? ht)).1 hb h1 h2]
 have key := red_loop (V := l.length) (slG md i k (b / x) l) (by omega) (m_collective_operation_apply_l1 l m (i : Int) ⟨fun y_1 y_2 => m_collective_SliceLocal_1 y_1 y_2 m l (k : Int) (i : Int) ((b / x : Nat) : Int)⟩) (fun e => some ([], e)) (fun vs => some (vs, 0)) (fun f j s hj hs => by
  have hg := h.grp hx hj
  obtain ⟨t, w, ht, hw, hwx, h1, h2, e⟩ := slG_ok h hx hj hb hd
  have hmem := List.mem_of_getElem? ht
  have hjp : j < prd md := by rw [← hlen]; exact hj
  have e1 : wi64 ((w : Int) * ((b / x : Nat) : Int)) = ((w * (b / x) : Nat) : Int) := wim (by omega)
  have e2 : wi64 (wi64 ((w : Int) + 1) * ((b / x : Nat) : Int)) = (((w + 1) * (b / x) : Nat) : Int) := by rw [wis (by omega), wim (by omega)]
  have h0 := hall j hj
  rw [if_pos h0, e] at *
  simp only [m_collective_operation_apply_l1]
  rw [if_pos (lt_dec hj), mesh_Group h.m hjp hx, Option.bind_some]
  rw [group_loop hg.1 hg.2.1 (m_collective_operation_apply_l2 (ci (grp (prd (md.take i)) x (prd (md.drop (i + 1))) j)) l ⟨fun y_1 y_2 => m_collective_SliceLocal_1 y_1 y_2 m l (k : Int) (i : Int) ((b / x : Nat) : Int)⟩ (j : Int) s (m_collective_operation_apply_l1 l m (i : Int) ⟨fun y_1 y_2 => m_collective_SliceLocal_1 y_1 y_2 m l (k : Int) (i : Int) ((b / x : Nat) : Int)⟩ f)) (m_collective_operation_apply_j2 ⟨fun y_1 y_2 => m_collective_SliceLocal_1 y_1 y_2 m l (k : Int) (i : Int) ((b / x : Nat) : Int)⟩ (j : Int) s (m_collective_operation_apply_l1 l m (i : Int) ⟨fun y_1 y_2 => m_collective_SliceLocal_1 y_1 y_2 m l (k : Int) (i : Int) ((b / x : Nat) : Int)⟩ f)) (fun f s q d y hq hy => by
   have hlt := (List.getElem?_eq_some_iff.1 hq).1
   simp only [m_collective_operation_apply_l2]
   rw [ci_len, if_pos (lt_dec hlt), ci_at hq, Option.bind_some, lat_at hy, Option.bind_some]) (fun f s => by simp only [m_collective_operation_apply_l2]; rw [ci_len, if_neg (by simp)])]
  simp only [m_collective_operation_apply_j2, m_collective_SliceLocal_1]
  rw [mesh_Coordinates h.m hjp, Option.bind_some, lat_at ht, Option.bind_some, ci_at hw, Option.bind_some, Option.bind_some, e1, e2, tensor_Slice (hl.r t hmem) (hl.d t hmem) (hl.v t hmem), Option.bind_some, Option.bind_some]
  rw [if_neg (by rw [h0]; decide), lapp_ok (by simp; omega), Option.bind_some, m_collective_operation_apply_j1, wis (by omega)]) (fun f s hs => by
  simp only [m_collective_operation_apply_l1]; rw [if_neg (by simp)])
 rw [key, if_pos (runG_all hall)]; rfl
theorem Ok.ch {m : GMesh} {l : List GTensor} {md dn : List Nat} {ty : GType} (h : Ok m l md ty dn) : chErr m l = 0 := by
 obtain ⟨t0, r, hl0⟩ := h.ne
 have ht0 := h.ten t0 (by rw [hl0]; simp)
 unfold chErr
 rw [if_pos h.m.b, h.m.eq, ci_nat, if_pos h.len, if_pos (firstErr_of fun t ht => (h.ten t ht).1.err), hl0]
 simp only
 refine firstErr_of fun t ht => ?_
 have := h.ten t (by rw [hl0]; simp [ht])
 unfold cT
 rw [if_pos (by rw [this.2, ht0.2]), if_pos (by rw [this.1.shp.eq, ht0.1.shp.eq])]
end Go.Proofs.YtpedfojbfbccaaaGreat
