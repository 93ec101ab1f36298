/- A tensor cut in two and joined, permuted and permuted back: the law TensorRoundTrips. Conditions: the ranges of Go's types. -/
import Derived.Test.YtlakfanockhngaaGreatDoorSUb
namespace Go.Proofs.YtlakfanockhngaaGreatDoor
open Go Go.RowKit Go.Vc
set_option linter.unusedVariables false
set_option linter.unusedSimpArgs false

/-! ### Cut and join -/
theorem slV_mem' {α : Type} {O m I f t : Nat} {v : List α} {x : α} (h : x ∈ slV O m I f t v) : x ∈ v := by
  unfold slV at h
  obtain ⟨o, _, h1⟩ := List.mem_flatMap.1 h
  exact List.mem_of_mem_drop (List.mem_of_mem_take h1)
theorem slS_ten {t : GTensor} {dn : List Nat} {i m f to_ : Nat} (ht : Ten t dn) (hm : dn[i]? = some m) (h1 : f < to_) (h2 : to_ ≤ m) : Ten (slS t i f to_).1 (dn.set i (to_ - f)) ∧ (slS t i f to_).1.Type_ = t.Type_ := by
  have hax := Ax.of hm
  rw [slS_ok ht hm h1 h2]
  refine ⟨⟨ht.ty, hax.shp ht.shp (by omega) (by omega), ?_, fun v hv => ht.ok v (slV_mem' hv)⟩, rfl⟩
  rw [(hax.set (to_ - f)).prd]
  exact slV_len (by rw [ht.len, hax.prd]) h2 (by omega)
theorem cat_cut {α : Type} {O m I c : Nat} {v : List α} (hv : v.length = O * m * I) (hc : c < m) : catV O I [(slV O m I 0 c v, c), (slV O m I c m v, m - c)] = v := by
  have hL : Lens O I [(slV O m I 0 c v, c), (slV O m I c m v, m - c)] := fun p hp => by
    simp only [List.mem_cons, List.not_mem_nil, or_false] at hp
    rcases hp with rfl | rfl
    · simpa using slV_len (f := 0) (t := c) hv (by omega) (by omega)
    · simpa using slV_len (f := c) (t := m) hv (by omega) (by omega)
  have hS : sumL ([(slV O m I 0 c v, c), (slV O m I c m v, m - c)].map (·.2)) = m := by simp [sumL]; omega
  refine list_ext' (by rw [catV_len hL, hS, hv]) fun j hj => ?_
  rw [catV_len hL, hS] at hj
  obtain ⟨q1, q2, q3, q4⟩ := num_split hj
  have hg := catV_get hL q1 q3 (q := (j / I) % m) (by rw [hS]; exact q2)
  rw [hS, ← q4] at hg
  rw [hg]
  by_cases hq : (j / I) % m < c
  · simp only [pick]
    rw [if_pos hq]
    have := slV_get (v := v) hv (f := 0) (t := c) (o := j / (m * I)) (k := (j / I) % m) (i := j % I) (by omega) (by omega) q1 (by omega) q3
    rw [Nat.sub_zero, Nat.zero_add, ← q4] at this
    exact this
  · simp only [pick]
    rw [if_neg hq, if_pos (by omega)]
    have := slV_get (v := v) hv (f := c) (t := m) (o := j / (m * I)) (k := (j / I) % m - c) (i := j % I) (by omega) (by omega) q1 (by omega) q3
    rw [show c + ((j / I) % m - c) = (j / I) % m by omega, ← q4] at this
    exact this
theorem cut_join {t : GTensor} {dn : List Nat} {i m c : Nat} (ht : Ten t dn) (hr : TeR t) (hm : dn[i]? = some m) (h0 : 0 < c) (hc : c < m) : m_tensor_Concat (i : Int) [(slS t i (0 : Nat) c).1, (slS t i c m).1] = some (t, 0) := by
  have hax := Ax.of hm
  have hle := ht.shp.le
  have hlen := ht.shp.len
  obtain ⟨a1, a2⟩ := slS_ten ht hm (f := 0) (to_ := c) h0 (by omega)
  obtain ⟨b1, b2⟩ := slS_ten ht hm (f := c) (to_ := m) hc (Nat.le_refl _)
  rw [Nat.sub_zero] at a1
  have e1 := (hax.set c).eq
  have e2 := (hax.set (m - c)).eq
  have hi := hax.len
  have hj : Jn [(slS t i (0 : Nat) c).1, (slS t i c m).1] i t.Type_ (dn.take i) (dn.drop (i + 1)) [c, m - c] := by
    refine ⟨rfl, fun k t' m' hk hm' => ?_, hi, by simp⟩
    rcases k with _ | _ | k
    · simp at hk hm'; subst hk; subst hm'; rw [← e1]; exact ⟨a1, a2⟩
    · simp at hk hm'; subst hk; subst hm'; rw [← e2]; exact ⟨b1, b2⟩
    · simp at hk
  have hTR : TeL [(slS t i (0 : Nat) c).1, (slS t i c m).1] := by
    refine ⟨fun x hx => ?_, fun x hx => ?_, fun x hx => ?_⟩ <;> simp only [List.mem_cons, List.not_mem_nil, or_false] at hx <;> rcases hx with rfl | rfl
    · exact ⟨by rw [a2]; exact hr.ty, fun v hv => frVaR (frOK_of a1.ty (a1.ok v hv))⟩
    · exact ⟨by rw [b2]; exact hr.ty, fun v hv => frVaR (frOK_of b1.ty (b1.ok v hv))⟩
    · rw [a1.shp.eq, ci_len]; have := a1.shp.len; omega
    · rw [b1.shp.eq, ci_len]; have := b1.shp.len; omega
    · rw [a1.len]; have := a1.shp.le; omega
    · rw [b1.len]; have := b1.shp.le; omega
  have hJ : jErr (i : Int) [(slS t i (0 : Nat) c).1, (slS t i c m).1] = 0 := by
    have hil : i < dn.length := (List.getElem?_eq_some_iff.1 hm).1
    simp only [jErr]
    rw [if_pos (firstErr_of (fun x hx => by
      simp only [List.mem_cons, List.not_mem_nil, or_false] at hx
      rcases hx with rfl | rfl
      · exact a1.err
      · exact b1.err)), if_pos (firstErr_of (fun x hx => by
      rw [List.mem_singleton.1 hx]
      unfold jT
      rw [if_pos (by rw [a2, b2]), if_pos (by rw [a1.shp.eq, b1.shp.eq, ci_len, ci_len]; simp)])), if_pos (by rw [a1.shp.eq, ci_len]; simp; omega)]
    refine firstErr_of fun x hx => ?_
    rw [List.mem_singleton.1 hx]
    unfold jD
    rw [if_pos]
    rw [a1.shp.eq, b1.shp.eq, Int.toNat_natCast, show (0 : Int) = ((0 : Nat) : Int) from rfl, ci_set, ci_set]
    simp
  rw [tensor_Concat hTR (by simp) hJ hj]
  have hpr := hax.prd
  unfold catS
  rw [show sumL [c, m - c] = m by simp [sumL]; omega, if_pos (by rw [← hpr]; exact hle)]
  have hvl : t.Vals.length = prd (dn.take i) * m * prd (dn.drop (i + 1)) := by rw [ht.len, hpr]
  have hv : catV (prd (dn.take i)) (prd (dn.drop (i + 1))) (prs [(slS t i (0 : Nat) c).1, (slS t i c m).1] [c, m - c]) = t.Vals := by
    rw [slS_ok ht hm h0 (by omega), slS_ok ht hm hc (Nat.le_refl _)]
    exact cat_cut hvl hc
  rw [hv]
  congr 2
  have hd := ht.shp.eq
  rw [← hax.eq, ← hd]

/-! ### Permuted back -/
theorem back_at {n : Nat} {on : List Nat} (h : Pm n on) {k a : Nat} (hk : on[k]? = some a) : (unp on (List.range n))[a]? = some k := by
  have := (List.getElem?_eq_some_iff.1 hk).1
  rw [h.len] at this
  exact unp_at h hk (by simp [this])
theorem back_pm {n : Nat} {on : List Nat} (h : Pm n on) : Pm n (unp on (List.range n)) := by
  have hl : (unp on (List.range n)).length = n := by rw [unp_len, h.len]
  have key : ∀ a, a < n → ∃ k, on[k]? = some a ∧ (unp on (List.range n))[a]? = some k := fun a ha => ⟨ix on a, ix_get (h.mem ha), back_at h (ix_get (h.mem ha))⟩
  refine ⟨hl, fun x hx => ?_, ?_⟩
  · obtain ⟨a, ha⟩ := List.mem_iff_getElem?.1 hx
    obtain ⟨k, hk, hk2⟩ := key a (by rw [← hl]; exact (List.getElem?_eq_some_iff.1 ha).1)
    rw [ha] at hk2
    rw [Option.some.inj hk2, ← h.len]
    exact (List.getElem?_eq_some_iff.1 hk).1
  · rw [List.nodup_iff_pairwise_ne, List.pairwise_iff_getElem]
    intro a b ha hb hab e
    obtain ⟨k, hk, hk2⟩ := key a (by rw [← hl]; exact ha)
    obtain ⟨k', hk', hk2'⟩ := key b (by rw [← hl]; exact hb)
    rw [List.getElem?_eq_getElem ha] at hk2
    rw [List.getElem?_eq_getElem hb] at hk2'
    have e1 := Option.some.inj hk2
    have e2 := Option.some.inj hk2'
    have ekk : k = k' := by rw [← e1, ← e2]; exact e
    rw [ekk, hk'] at hk
    have := Option.some.inj hk; omega
theorem peT_back {t : GTensor} {dn on : List Nat} (ht : Ten t dn) (hp : Pm dn.length on) : peT (peT t dn on) (pdim dn on) (unp on (List.range dn.length)) = t := by
  have hb := back_pm hp
  have hs := pdim_shp ht.shp hp
  have hbl : Pm (pdim dn on).length (unp on (List.range dn.length)) := by rw [pdim_len, hp.len]; exact hb
  have hdd : pdim (pdim dn on) (unp on (List.range dn.length)) = dn := by
    refine list_ext' (by rw [pdim_len, hb.len]) fun a ha => ?_
    rw [pdim_len, hb.len] at ha
    have hk := ix_get (hp.mem ha)
    obtain ⟨x, hx, hx2⟩ := pdim_at hp hk
    obtain ⟨y, hy, hy2⟩ := pdim_at hbl (back_at hp hk)
    rw [hy2, hx, ← hy, hx2]
  have hten := peT_ten ht hp
  have hten2 := peT_ten hten hbl
  have hv : (peT (peT t dn on) (pdim dn on) (unp on (List.range dn.length))).Vals = t.Vals := by
    refine list_ext' (by rw [hten2.len, hdd, ht.len]) fun j hj => ?_
    rw [hten2.len, hdd] at hj
    have hjj : j < prd (pdim (pdim dn on) (unp on (List.range dn.length))) := by rw [hdd]; exact hj
    show ((List.range _).filterMap _)[j]? = _
    rw [fm_get _ _ j (peT_vals hten hbl) hjj, hdd]
    have hpl : (pt dn j).length = dn.length := pt_len _ _
    have hbd : Bd (pdim dn on) (unp (unp on (List.range dn.length)) (pt dn j)) := unp_bd hbl (by rw [hdd]; exact pt_bd j ht.shp.pos)
    have ho := off_lt hbd
    show ((List.range _).filterMap _)[off (pdim dn on) (unp (unp on (List.range dn.length)) (pt dn j))]? = _
    rw [fm_get _ _ _ (peT_vals ht hp) ho, pt_off hs.pos hbd]
    have e : pt dn j = unp on (unp (unp on (List.range dn.length)) (pt dn j)) := by
      refine unp_eq hp hpl (by rw [unp_len, hb.len]) fun k a x hk hx => ?_
      obtain ⟨y, hy⟩ := at_some (l := pt dn j) (i := a) (by rw [hpl]; exact hp.lt a (List.mem_of_getElem? hk))
      rw [unp_at hb (back_at hp hk) hy] at hx
      rw [hy, Option.some.inj hx]
    rw [← e, off_pt ht.shp.pos hj]
  have hd : (peT (peT t dn on) (pdim dn on) (unp on (List.range dn.length))).Dims = t.Dims := by
    show ci (pdim (pdim dn on) _) = _
    rw [hdd, ht.shp.eq]
  have hty : (peT (peT t dn on) (pdim dn on) (unp on (List.range dn.length))).Type_ = t.Type_ := rfl
  generalize peT (peT t dn on) (pdim dn on) (unp on (List.range dn.length)) = u at hv hd hty
  cases u; cases t
  simp only at hv hd hty
  rw [hv, hd, hty]
theorem rt_j1 {t : GTensor} {dn : List Nat} (ht : Ten t dn) (hr : TeR t) {order : List Int} (hol : order.length ≤ 20) : m_law12_TensorRoundTrips_j1 t order = some true := by
  have h1 := ht.shp.len; have h2 := ht.shp.le; have h3 := ht.len
  have h4 : t.Dims.length = dn.length := by rw [ht.shp.eq, ci_len]
  unfold m_law12_TensorRoundTrips_j1
  rcases tensor_Permute hr (by omega) (by omega) (order := order) (by omega) with ⟨he, _⟩ | ⟨dn', ht', ⟨on, hp, ho, h⟩ | ⟨_, h⟩⟩
  · exact absurd ht.err he
  · have e : dn' = dn := by have := ht'.shp.eq; rw [ht.shp.eq] at this; exact (ci_inj this).symm
    subst e
    have hpn := hp.len
    rw [h, Option.bind_some, if_neg (by simp), ho, ci_len, hpn, lmake_ok 0 (by omega), Option.bind_some]
    rw [perm_loop hp (p := List.range dn'.length) (by simp) h1 (m_law12_TensorRoundTrips_l1 (ci on) (peT t dn' on, 0) t) (m_law12_TensorRoundTrips_j2 (peT t dn' on, 0) t) (fun f s k a x hk hx hsl => by
      have hklt := (List.getElem?_eq_some_iff.1 hk).1
      have ha := hp.lt a (List.mem_of_getElem? hk)
      have hx' : x = k := by
        have := (List.getElem?_eq_some_iff.1 hx)
        obtain ⟨_, h⟩ := this
        simpa using h.symm
      subst hx'
      simp only [m_law12_TensorRoundTrips_l1]
      rw [ci_len, if_pos (lt_dec hklt), ci_at hk, Option.bind_some, show decide ((a : Int) < 0) = false by simp, show gd (!false) (some (a : Int)) = some (a : Int) from rfl, Option.bind_some, Bool.false_or, if_neg (by simp; omega), Option.bind_some, if_pos (by omega), Int.toNat_natCast, wis (by omega)]) (fun f s => by
      simp only [m_law12_TensorRoundTrips_l1]
      rw [ci_len, hpn, if_neg (by simp)])]
    have hten := peT_ten ht hp
    have hr' : TeR (peT t dn' on) := ⟨hr.ty, fun v hv => frVaR (frOK_of hten.ty (hten.ok v hv))⟩
    have k1 := hten.shp.len; have k2 := hten.shp.le; have k3 := hten.len
    have k4 : (peT t dn' on).Dims.length = (pdim dn' on).length := by rw [hten.shp.eq, ci_len]
    have hb := back_pm hp
    simp only [m_law12_TensorRoundTrips_j2]
    rcases tensor_Permute hr' (by omega) (by omega) (order := ci (unp on (List.range dn'.length))) (by rw [ci_len, hb.len]; omega) with ⟨he, _⟩ | ⟨dq, htq, ⟨oq, hpq, hoq, hq⟩ | ⟨hno, _⟩⟩
    · exact absurd hten.err he
    · have e1 : dq = pdim dn' on := by have := htq.shp.eq; rw [hten.shp.eq] at this; exact (ci_inj this).symm
      have e2 : oq = unp on (List.range dn'.length) := (ci_inj hoq).symm
      subst e1; subst e2
      rw [hq, peT_back ht hp, Option.bind_some, ht.refl, ex12]; rfl
    · exfalso
      have e1 : dq = pdim dn' on := by have := htq.shp.eq; rw [hten.shp.eq] at this; exact (ci_inj this).symm
      subst e1
      exact hno ⟨_, by rw [pdim_len, hp.len]; exact hb, rfl⟩
  · rw [h, Option.bind_some, if_pos (by decide), ex12]; rfl
theorem law_TensorRoundTrips (t : GTensor) (order : List Int) (axis at_ : Int) (ht : okGTensor t) (_ : okL (okI .i64) order) (_ : okI .i64 axis) (_ : okI .i64 at_) : m_law12_TensorRoundTrips t order axis at_ = some true := by
  unfold m_law12_TensorRoundTrips
  rw [small12, Option.bind_some]
  by_cases hs : ((t.Vals.length : Int) ≤ 500 ∧ (t.Dims.length : Int) ≤ 20) ∧ order.length ≤ 20
  rotate_left
  · have hb : ((!((decide ((t.Vals.length : Int) ≤ 500)) && (decide ((t.Dims.length : Int) ≤ 20)))) || (decide (20 < (order.length : Int)))) = true := by simp; omega
    rw [hb]; simp [gd, ex12]
  have hb : ((!((decide ((t.Vals.length : Int) ≤ 500)) && (decide ((t.Dims.length : Int) ≤ 20)))) || (decide (20 < (order.length : Int)))) = false := by simp; omega
  have hr := TeR.of ht
  rw [hb, ref12_Validate hr (by omega) (by omega), show gd (!false) (some (teErr t)) = some (teErr t) from rfl, Option.bind_some, Bool.false_or]
  by_cases he : teErr t = 0
  rotate_left
  · rw [if_pos (by simp [he]), ex12]; rfl
  rw [if_neg (by simp [he])]
  obtain ⟨dn, hten⟩ := Ten.of he
  have hj := rt_j1 hten hr hs.2
  have hdl : t.Dims.length = dn.length := by rw [hten.shp.eq, ci_len]
  by_cases hc : (0 ≤ axis ∧ axis < (t.Dims.length : Int)) ∧ 0 < at_
  rotate_left
  · have hcb : (((decide (0 ≤ axis)) && (decide (axis < (t.Dims.length : Int)))) && (decide (0 < at_))) = false := by
      cases h : (((decide (0 ≤ axis)) && (decide (axis < (t.Dims.length : Int)))) && (decide (0 < at_)))
      · rfl
      · simp only [Bool.and_eq_true, decide_eq_true_eq] at h; exact absurd h hc
    rw [hcb]; simpa [gd] using hj
  have hcb : (((decide (0 ≤ axis)) && (decide (axis < (t.Dims.length : Int)))) && (decide (0 < at_))) = true := by simp only [Bool.and_eq_true, decide_eq_true_eq]; exact hc
  obtain ⟨i, rfl⟩ := Int.eq_ofNat_of_zero_le hc.1.1
  obtain ⟨m, hm⟩ := at_some (l := dn) (i := i) (by have := hc.1.2; omega)
  have hlm : lat t.Dims (i : Int) = some (m : Int) := by rw [hten.shp.eq]; exact ci_at hm
  rw [hcb, hlm, show gd true (some (m : Int)) = some (m : Int) from rfl, Option.bind_some, Bool.true_and]
  by_cases hlt : at_ < (m : Int)
  rotate_left
  · rw [if_neg (by simpa using hlt)]; exact hj
  rw [if_pos (by simpa using hlt)]
  obtain ⟨c, rfl⟩ := Int.eq_ofNat_of_zero_le (show 0 ≤ at_ by omega)
  have h0 : 0 < c := by omega
  have hcm : c < m := by omega
  have k0 : ∀ f to_ : Nat, f < to_ → to_ ≤ m → (slS t (i : Int) (f : Int) (to_ : Int)).2 = 0 := fun f to_ h1 h2 => by rw [slS_ok hten hm h1 h2]
  rw [tensor_Slice hr (by omega) (by omega), Option.bind_some, Option.bind_some, tensor_Slice hr (by omega) (by omega), Option.bind_some]
  have hcj := cut_join hten hr hm h0 hcm
  rw [show ((0 : Nat) : Int) = 0 from rfl] at hcj
  have k1 := k0 0 c h0 (by omega)
  rw [show ((0 : Nat) : Int) = 0 from rfl] at k1
  rw [hcj, Option.bind_some, k1, k0 c m hcm (Nat.le_refl _), hten.refl]
  simpa [gd] using hj
end Go.Proofs.YtlakfanockhngaaGreatDoor
