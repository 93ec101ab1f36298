import Derived.Test.YtpedfojbfbccaaaGreatSXi
namespace Go.Proofs.YtpedfojbfbccaaaGreat
open Go Go.RowKit Go.Vc
set_option linter.unusedVariables false
set_option linter.unusedSimpArgs false
def eLn (md : List Nat) (d : Nat) (y : Int) : Nat := if 0 ≤ y then d / (md[y.toNat]?).getD 1 else d
def eLo (md p : List Nat) (d : Nat) (y : Int) : Nat := if 0 ≤ y then (p[y.toNat]?).getD 0 * (d / (md[y.toNat]?).getD 1) else 0
def zipE (e : Nat → Int → Nat) : List Nat → List Int → List Nat
 | d :: dn, y :: s => e d y :: zipE e dn s
 | _, _ => []
theorem zipE_len {e : Nat → Int → Nat} : ∀ (dn : List Nat) (s : List Int), s.length = dn.length → (zipE e dn s).length = dn.length
 | [], [], _ => rfl
 | d :: dn, y :: s, h => by simp [zipE, zipE_len dn s (by simpa using h)]
 | [], _ :: _, h => by simp at h
 | _ :: _, [], h => by simp at h
theorem zipE_at {e : Nat → Int → Nat} : ∀ (dn : List Nat) (s : List Int) (k d : Nat) (y : Int), dn[k]? = some d → s[k]? = some y → (zipE e dn s)[k]? = some (e d y)
 | d :: dn, y :: s, 0, u, v, hu, hv => by simp at hu hv; simp [zipE, hu, hv]
 | d :: dn, y :: s, k + 1, u, v, hu, hv => by simpa [zipE] using zipE_at dn s k u v (by simpa using hu) (by simpa using hv)
 | [], _, _, _, _, hu, _ => by simp at hu
 | _ :: _, [], _, _, _, _, hv => by simp at hv
theorem zipE_set {e : Nat → Int → Nat} : ∀ (dn : List Nat) (s : List Int) (k d : Nat) (y : Int), dn[k]? = some d → zipE e dn (s.set k y) = (zipE e dn s).set k (e d y)
 | d :: dn, y :: s, 0, u, v, hu => by simp at hu; simp [zipE, hu]
 | d :: dn, y :: s, k + 1, u, v, hu => by simpa [zipE] using zipE_set dn s k u v (by simpa using hu)
 | [], s, _, _, _, hu => by simp at hu
 | d :: dn, [], _, _, _, _ => by simp [zipE]
structure Sp (md dn : List Nat) (s : List Int) : Prop where
 len : s.length = dn.length
 rng : ∀ (k : Nat) (x : Int), s[k]? = some x → x < (md.length : Int)
 uniq : ∀ (k k' : Nat) (x : Int), 0 ≤ x → s[k]? = some x → s[k']? = some x → k = k'
 dv : ∀ (k : Nat) (x : Int) (d q : Nat), s[k]? = some x → 0 ≤ x → dn[k]? = some d → md[x.toNat]? = some q → d % q = 0
theorem Sp.md {md dn : List Nat} {s : List Int} (h : Sp md dn s) {k : Nat} {x : Int} (hk : s[k]? = some x) (h0 : 0 ≤ x) : ∃ q, md[x.toNat]? = some q := at_some (by have := h.rng k x hk; omega)
theorem Sp.sub {md dn : List Nat} {s : List Int} (h : Sp md dn s) (hm : Pos md) (hd : Pos dn) {p : List Nat} (hp : Bd md p) : Sub dn (zipE (eLo md p) dn s) (zipE (eLn md) dn s) := by
 refine ⟨zipE_len _ _ h.len, zipE_len _ _ h.len, fun z hz => ?_, fun k d a b hk ha hb => ?_⟩
 ·obtain ⟨k, hk⟩ := List.mem_iff_getElem?.1 hz
  have hkl := (List.getElem?_eq_some_iff.1 hk).1
  rw [zipE_len _ _ h.len] at hkl
  obtain ⟨d, hdk⟩ := at_some hkl
  obtain ⟨y, hy⟩ := at_some (l := s) (i := k) (by rw [h.len]; exact hkl)
  rw [zipE_at _ _ k d y hdk hy] at hk
  have hz' := Option.some.inj hk
  have hd1 := hd d (List.mem_of_getElem? hdk)
  rw [← hz']
  unfold eLn
  split
  ·rename_i h0
   obtain ⟨q, hq⟩ := h.md hy h0
   have hdv := h.dv k y d q hy h0 hdk hq
   rw [hq]
   have := Nat.div_add_mod d q
   simp only [Option.getD_some]
   rcases Nat.eq_zero_or_pos (d / q) with e | e
   ·rw [e] at this; omega
   ·exact e
  ·exact hd1
 ·obtain ⟨y, hy⟩ := at_some (l := s) (i := k) (by rw [h.len]; exact (List.getElem?_eq_some_iff.1 hk).1)
  rw [zipE_at _ _ k d y hk hy] at ha hb
  have ha' := Option.some.inj ha
  have hb' := Option.some.inj hb
  rw [← ha', ← hb']
  unfold eLo eLn
  by_cases h0 : 0 ≤ y
  ·rw [if_pos h0, if_pos h0]
   obtain ⟨q, hq⟩ := h.md hy h0
   obtain ⟨w, hw, hwq⟩ := hp.at_ hq
   rw [hq, hw]
   simp only [Option.getD_some]
   have h1 : (w + 1) * (d / q) ≤ q * (d / q) := Nat.mul_le_mul_right _ hwq
   have h2 := Nat.div_add_mod d q
   rw [Nat.add_mul, Nat.one_mul] at h1
   omega
  ·rw [if_neg h0, if_neg h0]; omega
theorem Sp.clear {md dn : List Nat} {s : List Int} (h : Sp md dn s) (k : Nat) : Sp md dn (s.set k (-1)) := by
 have key : ∀ (q : Nat) (x : Int), (s.set k (-1))[q]? = some x → 0 ≤ x → s[q]? = some x := fun q x hq h0 => by
  by_cases e : q = k
  ·subst e
   have hl := (List.getElem?_eq_some_iff.1 hq).1
   rw [List.length_set] at hl
   rw [List.getElem?_set_self hl] at hq
   have := Option.some.inj hq; omega
  ·rwa [List.getElem?_set_ne (fun h => e h.symm)] at hq
 refine ⟨by rw [List.length_set]; exact h.len, fun q x hq => ?_, fun q q' x h0 hq hq' => h.uniq q q' x h0 (key q x hq h0) (key q' x hq' h0), fun q x d z hq h0 => h.dv q x d z (key q x hq h0) h0⟩
 by_cases h0 : 0 ≤ x
 ·exact h.rng q x (key q x hq h0)
 ·omega
theorem Sp.put {md dn : List Nat} {s : List Int} (h : Sp md dn s) {k a x d : Nat} (hn : ∀ q, q ≠ k → s[q]? ≠ some (a : Int)) (hx : md[a]? = some x) (hd : dn[k]? = some d) (hv : d % x = 0) : Sp md dn (s.set k (a : Int)) := by
 have hal := (List.getElem?_eq_some_iff.1 hx).1
 have hkl : k < s.length := by rw [h.len]; exact (List.getElem?_eq_some_iff.1 hd).1
 have key : ∀ (q : Nat) (y : Int), (s.set k (a : Int))[q]? = some y → (q = k ∧ y = a) ∨ (q ≠ k ∧ s[q]? = some y) := fun q y hq => by
  by_cases e : q = k
  ·subst e
   rw [List.getElem?_set_self hkl] at hq
   exact .inl ⟨rfl, (Option.some.inj hq).symm⟩
  ·rw [List.getElem?_set_ne (fun h => e h.symm)] at hq
   exact .inr ⟨e, hq⟩
 refine ⟨by rw [List.length_set]; exact h.len, fun q y hq => ?_, fun q q' y h0 hq hq' => ?_, fun q y d' z hq h0 hd' hz => ?_⟩
 ·rcases key q y hq with ⟨_, rfl⟩ | ⟨_, hq⟩
  ·omega
  ·exact h.rng q y hq
 ·rcases key q y hq with ⟨e1, rfl⟩ | ⟨e1, hq⟩
  ·rcases key q' _ hq' with ⟨e2, _⟩ | ⟨e2, hq'⟩
   ·omega
   ·exact absurd hq' (hn q' e2)
  ·rcases key q' y hq' with ⟨e2, rfl⟩ | ⟨e2, hq'⟩
   ·exact absurd hq (hn q e1)
   ·exact h.uniq q q' y h0 hq hq'
 ·rcases key q y hq with ⟨rfl, rfl⟩ | ⟨_, hq⟩
  ·rw [hd] at hd'; rw [Int.toNat_natCast, hx] at hz
   rw [← Option.some.inj hd', ← Option.some.inj hz]; exact hv
  ·exact h.dv q y d' z hq h0 hd' hz
def blk (t : GTensor) (md dn : List Nat) (s : List Int) (j : Nat) : GTensor := BL t dn (zipE (eLo md (pt md j)) dn s) (zipE (eLn md) dn s)
def blks (t : GTensor) (md dn : List Nat) (s : List Int) : List GTensor := (List.range (prd md)).map (blk t md dn s)
theorem blks_len (t : GTensor) (md dn : List Nat) (s : List Int) : (blks t md dn s).length = prd md := by simp [blks]
theorem blks_get {t : GTensor} {md dn : List Nat} {s : List Int} {j : Nat} (h : j < prd md) : (blks t md dn s)[j]? = some (blk t md dn s j) := by simp [blks, h]
theorem blks_ok {m : GMesh} {t : GTensor} {md dn : List Nat} {s : List Int} (hm : Msh m.Dims md) (ht : Ten t dn) (hs : Sp md dn s) : Ok m (blks t md dn s) md t.Type_ (zipE (eLn md) dn s) := by
 refine ⟨hm, blks_len _ _ _ _, fun u hu => ?_⟩
 unfold blks at hu
 obtain ⟨j, hj, rfl⟩ := List.mem_map.1 hu
 exact ⟨BL_ten ht (hs.sub hm.pos ht.shp.pos (pt_bd j hm.pos)), rfl⟩
theorem blks_TeL {m : GMesh} {t : GTensor} {md dn : List Nat} {s : List Int} (hm : Msh m.Dims md) (ht : Ten t dn) (hr : TeR t) (hs : Sp md dn s) : TeL (blks t md dn s) := Ten.TeL (ty := t.Type_) hr.ty (blks_ok hm ht hs).ten
theorem zipE_p {md p dn : List Nat} {s : List Int} (hs : Sp md dn s) {k a x d w : Nat} (hp : p.length = md.length) (hk : s[k]? = some (a : Int)) (hx : md[a]? = some x) (hd : dn[k]? = some d) : zipE (eLo md (p.set a w)) dn s = (zipE (eLo md p) dn s).set k (w * (d / x)) := by
 have hal : a < p.length := by rw [hp]; exact (List.getElem?_eq_some_iff.1 hx).1
 have hl := zipE_len (e := eLo md (p.set a w)) _ _ hs.len
 have hl2 := zipE_len (e := eLo md p) _ _ hs.len
 refine list_ext' (by rw [List.length_set, hl, hl2]) fun q hq => ?_
 rw [hl] at hq
 obtain ⟨e, he⟩ := at_some hq
 obtain ⟨y, hy⟩ := at_some (l := s) (i := q) (by rw [hs.len]; exact hq)
 rw [zipE_at _ _ q e y he hy]
 by_cases c : q = k
 ·subst c
  rw [List.getElem?_set_self (by rw [hl2]; exact hq)]
  rw [hd] at he; rw [hk] at hy
  rw [← Option.some.inj he, ← Option.some.inj hy]
  unfold eLo
  rw [if_pos (by omega), Int.toNat_natCast, List.getElem?_set_self hal, hx]; rfl
 ·rw [List.getElem?_set_ne (fun h => c h.symm), zipE_at _ _ q e y he hy]
  unfold eLo
  by_cases h0 : 0 ≤ y
  ·rw [if_pos h0, if_pos h0]
   have : a ≠ y.toNat := fun ea => c (hs.uniq q k y h0 hy (by rw [hk, ea, Int.toNat_of_nonneg h0]))
   rw [List.getElem?_set_ne this]
  ·rw [if_neg h0, if_neg h0]
theorem gather_step {m : GMesh} {t : GTensor} {md dn : List Nat} {s : List Int} (hm : Msh m.Dims md) (ht : Ten t dn) (hr : TeR t) (hs : Sp md dn s) {k a : Nat} (hk : s[k]? = some (a : Int)) :
  m_collective_AllGather m (blks t md dn s) (a : Int) (k : Int) = some (blks t md dn (s.set k (-1)), 0) := by
 obtain ⟨x, hx⟩ := hs.md hk (by omega)
 rw [Int.toNat_natCast] at hx
 have hkl : k < s.length := (List.getElem?_eq_some_iff.1 hk).1
 obtain ⟨d, hd⟩ := at_some (l := dn) (i := k) (by rw [← hs.len]; exact hkl)
 have hdv := hs.dv k a d x hk (by omega) hd (by rw [Int.toNat_natCast]; exact hx)
 have hxb : x * (d / x) = d := by have := Nat.div_add_mod d x; omega
 have hx1 := hm.pos x (List.mem_of_getElem? hx)
 have hd1 := ht.shp.pos d (List.mem_of_getElem? hd)
 have hb1 : 1 ≤ d / x := by
  rcases Nat.eq_zero_or_pos (d / x) with e | e
  ·rw [e] at hxb; omega
  ·exact e
 have hs' := hs.clear k
 have hok := blks_ok hm ht hs
 have hb : (zipE (eLn md) dn s)[k]? = some (d / x) := by
  rw [zipE_at _ _ k d a hd hk]
  unfold eLn
  rw [if_pos (by omega), Int.toNat_natCast, hx]; rfl
 have hln' : zipE (eLn md) dn (s.set k (-1)) = (zipE (eLn md) dn s).set k d := by rw [zipE_set _ _ k d _ hd]; rfl
 have hax := Ax.of hb
 have hsub' : ∀ j, Sub dn (zipE (eLo md (pt md j)) dn (s.set k (-1))) (zipE (eLn md) dn (s.set k (-1))) := fun j => hs'.sub hm.pos ht.shp.pos (pt_bd j hm.pos)
 have h0 : prd ((zipE (eLn md) dn s).take k) * (x * (d / x)) * prd ((zipE (eLn md) dn s).drop (k + 1)) ≤ 4096 := by
  rw [hxb, ← (hax.set d).prd, ← hln']
  exact Nat.le_trans (hsub' 0).prd_le ht.shp.le
 have hTL := blks_TeL hm ht hr hs
 rw [AllGather_ok hTL hok hx hb, blks_len]
 have hz : ∀ j, j < prd md → agG (prd (md.take a)) x (prd (md.drop (a + 1))) t.Type_ ((zipE (eLn md) dn s).take k) ((zipE (eLn md) dn s).drop (k + 1)) (d / x) (blks t md dn s) j = (blk t md dn (s.set k (-1)) j, 0) := fun j hj => by
  have hjl : j < (blks t md dn s).length := by rw [blks_len]; exact hj
  rw [agG_ok hok hx hjl hb h0]
  congr 1
  have hg := hok.grp hx hjl
  have hJ := hok.jn hx hjl hb
  have hten := BL_ten ht (hsub' j)
  have hlk : (zipE (eLo md (pt md j)) dn (s.set k (-1)))[k]? = some 0 := by
   rw [zipE_at _ _ k d (-1) hd (List.getElem?_set_self hkl)]; rfl
  have hnk : (zipE (eLn md) dn (s.set k (-1)))[k]? = some (x * (d / x)) := by
   rw [zipE_at _ _ k d (-1) hd (List.getElem?_set_self hkl), hxb]; rfl
  have htake : (zipE (eLn md) dn (s.set k (-1))).take k = (zipE (eLn md) dn s).take k := by rw [hln', (hax.set d).eq, List.take_left' hax.len]
  have hdrop : (zipE (eLn md) dn (s.set k (-1))).drop (k + 1) = (zipE (eLn md) dn s).drop (k + 1) := by
   rw [hln', (hax.set d).eq, show (zipE (eLn md) dn s).take k ++ d :: (zipE (eLn md) dn s).drop (k + 1) = ((zipE (eLn md) dn s).take k ++ [d]) ++ (zipE (eLn md) dn s).drop (k + 1) by simp, List.drop_left' (by rw [List.length_append, hax.len]; rfl)]
  have hVl : (blk t md dn (s.set k (-1)) j).Vals.length = prd ((zipE (eLn md) dn s).take k) * (x * (d / x)) * prd ((zipE (eLn md) dn s).drop (k + 1)) := by
   show (BL _ _ _ _).Vals.length = _
   rw [BL_len ht (hsub' j), hln', (hax.set d).prd, hxb]
  have hprs : prs (sel (blks t md dn s) (grp (prd (md.take a)) x (prd (md.drop (a + 1))) j)) (List.replicate x (d / x)) = (List.range x).map fun w => (slV (prd ((zipE (eLn md) dn s).take k)) (x * (d / x)) (prd ((zipE (eLn md) dn s).drop (k + 1))) (w * (d / x)) ((w + 1) * (d / x)) (blk t md dn (s.set k (-1)) j).Vals, d / x) := by
   have hsl := sel_len hg.1
   rw [grp_len] at hsl
   refine list_ext' (by unfold prs; simp [hsl]) fun w hw => ?_
   have hwx : w < x := by unfold prs at hw; simpa [hsl] using hw
   obtain ⟨gp1, gp2⟩ := grp_pt (Ax.of hx) hm.pos hj hwx
   have hgw : (grp (prd (md.take a)) x (prd (md.drop (a + 1))) j)[w]? = some ((j / (x * prd (md.drop (a + 1))) * x + w) * prd (md.drop (a + 1)) + j % prd (md.drop (a + 1))) := by
    unfold grp; rw [List.getElem?_map, List.getElem?_range hwx]; rfl
   have hsw : (sel (blks t md dn s) (grp (prd (md.take a)) x (prd (md.drop (a + 1))) j))[w]? = some (blk t md dn s ((j / (x * prd (md.drop (a + 1))) * x + w) * prd (md.drop (a + 1)) + j % prd (md.drop (a + 1)))) := by
    rw [sel_get hg.1, hgw]; exact blks_get gp2
   have hpw : (prs (sel (blks t md dn s) (grp (prd (md.take a)) x (prd (md.drop (a + 1))) j)) (List.replicate x (d / x)))[w]? = some ((blk t md dn s ((j / (x * prd (md.drop (a + 1))) * x + w) * prd (md.drop (a + 1)) + j % prd (md.drop (a + 1)))).Vals, d / x) := by
    unfold prs
    rw [List.getElem?_zip_eq_some]
    exact ⟨by rw [List.getElem?_map, hsw]; rfl, by rw [List.getElem?_replicate, if_pos hwx]⟩
   rw [hpw, List.getElem?_map, List.getElem?_range hwx]
   simp only [Option.map_some]
   congr 2
   have hw1 : w * (d / x) < (w + 1) * (d / x) := by rw [Nat.add_mul]; omega
   have hw2 : (w + 1) * (d / x) ≤ x * (d / x) := Nat.mul_le_mul_right _ hwx
   have e1 := slS_ok hten hnk hw1 hw2
   have e2 := BL_slice ht (hsub' j) hlk hnk hw1 hw2
   rw [htake, hdrop] at e1
   rw [e1] at e2
   have e3 := congrArg (fun q : GTensor × Int => q.1.Vals) e2
   refine Eq.trans ?_ e3.symm
   show (BL _ _ _ _).Vals = (BL _ _ _ _).Vals
   congr 2
   ·rw [gp1, zipE_p hs (pt_len md j) hk hx hd, zipE_set _ _ k d _ hd, List.set_set, Nat.zero_add]
   ·rw [hln', List.set_set, show (w + 1) * (d / x) - w * (d / x) = d / x by rw [Nat.add_mul, Nat.one_mul]; omega, set_back hb]
  rw [hprs, cat_slices hVl hb1]
  exact ten_ext rfl (by show ci _ = ci _; rw [hln', hxb]) rfl
 rw [if_pos (runG_all fun j hj => by rw [hz j hj])]
 congr 2
 refine list_ext' (by rw [ranG_len, blks_len]) fun j hj => ?_
 rw [ranG_len] at hj
 rw [ranG_get _ hj, hz j hj, blks_get hj]
theorem slice_step {m : GMesh} {t : GTensor} {md dn : List Nat} {s : List Int} (hm : Msh m.Dims md) (ht : Ten t dn) (hr : TeR t) (hs : Sp md dn s) {k a : Nat} (hk : s[k]? = some (-1)) (hs' : Sp md dn (s.set k (a : Int))) :
  m_collective_SliceLocal m (blks t md dn s) (a : Int) (k : Int) = some (blks t md dn (s.set k (a : Int)), 0) := by
 have hkl : k < s.length := (List.getElem?_eq_some_iff.1 hk).1
 have hk' : (s.set k (a : Int))[k]? = some (a : Int) := List.getElem?_set_self hkl
 obtain ⟨x, hx⟩ := hs'.md hk' (by omega)
 rw [Int.toNat_natCast] at hx
 obtain ⟨d, hd⟩ := at_some (l := dn) (i := k) (by rw [← hs.len]; exact hkl)
 have hdv := hs'.dv k a d x hk' (by omega) hd (by rw [Int.toNat_natCast]; exact hx)
 have hok := blks_ok hm ht hs
 have hb : (zipE (eLn md) dn s)[k]? = some d := by rw [zipE_at _ _ k d (-1) hd hk]; rfl
 rw [SliceLocal_ok (blks_TeL hm ht hr hs) hok hx hb hdv, blks_len]
 congr 2
 refine list_ext' (by rw [ranG_len, blks_len]) fun j hj => ?_
 rw [ranG_len] at hj
 rw [ranG_get _ hj, blks_get hj]
 obtain ⟨u, w, hu, hw, hwx, h1, h2, e⟩ := slG_ok hok hx (by rw [blks_len]; exact hj) hb hdv
 rw [blks_get hj] at hu
 have hu' := (Option.some.inj hu).symm
 subst hu'
 have hsub := hs.sub hm.pos ht.shp.pos (pt_bd j hm.pos)
 have hlk : (zipE (eLo md (pt md j)) dn s)[k]? = some 0 := by rw [zipE_at _ _ k d (-1) hd hk]; rfl
 rw [e]
 unfold blk
 rw [BL_slice ht hsub hlk hb h1 h2]
 show some (BL _ _ _ _) = some (BL _ _ _ _)
 have z1 : eLo md (pt md j) d (a : Int) = w * (d / x) := by
  unfold eLo
  rw [if_pos (by omega), Int.toNat_natCast, hw, hx]; rfl
 have z2 : eLn md d (a : Int) = d / x := by
  unfold eLn
  rw [if_pos (by omega), Int.toNat_natCast, hx]; rfl
 rw [zipE_set _ _ k d _ hd, zipE_set _ _ k d _ hd, z1, z2, Nat.zero_add, show (w + 1) * (d / x) - w * (d / x) = d / x by rw [Nat.add_mul, Nat.one_mul]; omega]
def trS (s : List Int) (n q : Nat) : List Int := s.take q ++ List.replicate (n - q) (-1)
theorem trS_next {s : List Int} {n q : Nat} {y : Int} (hn : s.length = n) (hy : s[q]? = some y) : trS s n (q + 1) = (trS s n q).set q y := by
 have hq := (List.getElem?_eq_some_iff.1 hy).1
 unfold trS
 obtain ⟨c, hc⟩ : ∃ c, n - q = c + 1 := ⟨n - q - 1, by omega⟩
 have hl : (s.take q).length = q := by rw [List.length_take]; omega
 rw [take_succ' hy, hc, show n - (q + 1) = c by omega]
 conv => rhs; rw [show (s.take q ++ List.replicate (c + 1) (-1 : Int)).set q y = (s.take q ++ List.replicate (c + 1) (-1 : Int)).set (s.take q).length y by rw [hl]]
 rw [List.set_append_right _ _ (Nat.le_refl _)]; simp [List.replicate_succ]
theorem trS_at {s : List Int} {n q : Nat} (hn : s.length = n) (hq : q < n) : (trS s n q)[q]? = some (-1) := by
 unfold trS
 have hl : (s.take q).length = q := by rw [List.length_take]; omega
 rw [List.getElem?_append_right (by omega), hl, Nat.sub_self, List.getElem?_replicate, if_pos (by omega)]
theorem trS_get {s : List Int} {n q k : Nat} {x : Int} (hn : s.length = n) (h : (trS s n q)[k]? = some x) (h0 : 0 ≤ x) : s[k]? = some x := by
 unfold trS at h
 by_cases e : k < (s.take q).length
 ·rw [List.getElem?_append_left e, List.getElem?_take] at h
  split at h
  ·exact h
  ·cases h
 ·rw [List.getElem?_append_right (by omega)] at h
  have := List.eq_of_mem_replicate (List.mem_of_getElem? h)
  omega
theorem trS_sp {md dn : List Nat} {s : List Int} (h : Sp md dn s) {q : Nat} (hq : q ≤ dn.length) : Sp md dn (trS s dn.length q) := by
 refine ⟨by unfold trS; rw [List.length_append, List.length_take, List.length_replicate, h.len]; omega, fun k x hk => ?_, fun k k' x h0 hk hk' => h.uniq k k' x h0 (trS_get h.len hk h0) (trS_get h.len hk' h0), fun k x d z hk h0 => h.dv k x d z (trS_get h.len hk h0) h0⟩
 by_cases h0 : 0 ≤ x
 ·exact h.rng k x (trS_get h.len hk h0)
 ·omega
theorem zipE_none {e : Nat → Int → Nat} : ∀ dn : List Nat, zipE e dn (List.replicate dn.length (-1)) = dn.map fun d => e d (-1)
 | [] => rfl
 | d :: dn => by rw [List.length_cons, List.replicate_succ, zipE, zipE_none dn]; rfl
theorem blk_start {t : GTensor} {md dn : List Nat} {s : List Int} (ht : Ten t dn) (j : Nat) : blk t md dn (trS s dn.length 0) j = t := by
 unfold blk trS
 rw [List.take_zero, List.nil_append, Nat.sub_zero, zipE_none, zipE_none]
 have e1 : dn.map (fun d => eLo md (pt md j) d (-1)) = List.replicate dn.length 0 := by
  refine list_ext' (by simp) fun q hq => ?_
  simp at hq
  simp [hq, eLo]
 have e2 : dn.map (fun d => eLn md d (-1)) = dn := by
  conv => rhs; rw [← List.map_id dn]
  exact List.map_congr_left fun d _ => rfl
 rw [e1, e2, BL_full ht]
theorem blocks_ok {m : GMesh} {t : GTensor} {md dn : List Nat} {s : List Int} (hm : Msh m.Dims md) (ht : Ten t dn) (hr : TeR t) (hs : Sp md dn s) : m_ref53_Blocks m t s = some (blks t md dn s) := by
 have hle := hm.le
 have h6 := ht.shp.len
 have hle4 := ht.shp.le
 have hdev : m_ref51_Devices m = some (prd md : Int) := by rw [ref51_Devices, if_pos hm.b, hm.eq, ci_nat]
 unfold m_ref53_Blocks
 refine loop_eq (L := m_ref53_Blocks_l1 m s t) (n := prd md) (by omega) (fun i out => out = (List.range i).map (blk t md dn s)) ?_ ?_ [] rfl
 ·rintro f i out hi rfl
  left
  refine ⟨_, rfl, ?_⟩
  simp only [m_ref53_Blocks_l1]
  rw [hdev, Option.bind_some, if_pos (lt_dec hi), ref51_Coordinates hm hi, Option.bind_some]
  have key : m_ref53_Blocks_l2 s t m (ci (pt md i), true) ((List.range i).map (blk t md dn s)) (m_ref53_Blocks_l1 m s t f) (i : Int) fu 0 t = m_ref53_Blocks_j2 ((List.range i).map (blk t md dn s)) (m_ref53_Blocks_l1 m s t f) (i : Int) (blk t md dn s i) := by
   refine loop_eq (L := fun g b q => m_ref53_Blocks_l2 s t m (ci (pt md i), true) ((List.range i).map (blk t md dn s)) (m_ref53_Blocks_l1 m s t f) (i : Int) g q b) (n := dn.length) (by omega) (fun q b => b = blk t md dn (trS s dn.length q) i) ?_ ?_ t (blk_start ht i).symm
   ·rintro g q b hq rfl
    obtain ⟨y, hy⟩ := at_some (l := s) (i := q) (by rw [hs.len]; exact hq)
    obtain ⟨d, hd⟩ := at_some hq
    have hsq := trS_sp hs (show q ≤ dn.length by omega)
    have hsub := hsq.sub hm.pos ht.shp.pos (pt_bd i hm.pos)
    have hlk : (zipE (eLo md (pt md i)) dn (trS s dn.length q))[q]? = some 0 := by rw [zipE_at _ _ q d (-1) hd (trS_at hs.len hq)]; rfl
    have hnk : (zipE (eLn md) dn (trS s dn.length q))[q]? = some d := by rw [zipE_at _ _ q d (-1) hd (trS_at hs.len hq)]; rfl
    left
    simp only [m_ref53_Blocks_l2]
    rw [hs.len, if_pos (lt_dec hq), lat_at hy, Option.bind_some]
    by_cases h0 : 0 ≤ y
    ·obtain ⟨a, rfl⟩ := Int.eq_ofNat_of_zero_le h0
     obtain ⟨x, hx⟩ := hs.md hy h0
     rw [Int.toNat_natCast] at hx
     have hdv := hs.dv q a d x hy h0 hd (by rw [Int.toNat_natCast]; exact hx)
     have hx1 := hm.pos x (List.mem_of_getElem? hx)
     have hd1 := ht.shp.pos d (List.mem_of_getElem? hd)
     have hd4 := Nat.le_trans (le_prd ht.shp.pos (List.mem_of_getElem? hd)) hle4
     obtain ⟨w, hw, hwx⟩ := (pt_bd i hm.pos).at_ hx
     have hblk := block_ok hw hx hm.pos hdv hd1
     have hmx : lat m.Dims (a : Int) = some (x : Int) := by rw [hm.eq]; exact ci_at hx
     have htd : lat t.Dims (q : Int) = some (d : Int) := by rw [ht.shp.eq]; exact ci_at hd
     have etd : wi64 (Int.tdiv (d : Int) (x : Int)) = ((d / x : Nat) : Int) := by
      rw [← Int.ofNat_tdiv]; exact wiN (by have := Nat.div_le_self d x; omega)
     have e1 : wi64 ((w : Int) * ((d / x : Nat) : Int)) = ((w * (d / x) : Nat) : Int) := wim (by omega)
     have e2 : wi64 (wi64 ((w : Int) + 1) * ((d / x : Nat) : Int)) = (((w + 1) * (d / x) : Nat) : Int) := by
      have hw16 : w < 4096 := by have := le_prd hm.pos (List.mem_of_getElem? hx); omega
      rw [wis (by omega), wim (by omega)]
     have hten := BL_ten ht hsub
     have hrb : TeR (BL t dn (zipE (eLo md (pt md i)) dn (trS s dn.length q)) (zipE (eLn md) dn (trS s dn.length q))) := ⟨hr.ty, fun v hv => frVaR (frOK_of hten.ty (hten.ok v hv))⟩
     have k1 := hten.shp.len; have k2 := hten.shp.le; have k3 := hten.len; have k4 := congrArg List.length hten.shp.eq
     rw [ci_len] at k4
     refine ⟨blk t md dn (trS s dn.length (q + 1)) i, rfl, ?_⟩
     rw [if_pos (by simp), htd, Option.bind_some, Option.bind_some, hmx, Option.bind_some, if_pos (by omega), Option.bind_some, ci_at hw, Option.bind_some, Option.bind_some, ci_at hw, Option.bind_some, etd, e1, e2]
     unfold blk
     rw [ref12_Slice hrb (by omega) (by omega), Option.bind_some, BL_slice ht hsub hlk hnk hblk.1 hblk.2, m_ref53_Blocks_j3, wis (by omega)]
     congr 1
     have z1 : eLo md (pt md i) d (a : Int) = w * (d / x) := by
      unfold eLo
      rw [if_pos (by omega), Int.toNat_natCast, hw, hx]; rfl
     have z2 : eLn md d (a : Int) = d / x := by
      unfold eLn
      rw [if_pos (by omega), Int.toNat_natCast, hx]; rfl
     show BL _ _ _ _ = BL _ _ _ _
     rw [trS_next hs.len hy, zipE_set _ _ q d _ hd, zipE_set _ _ q d _ hd, z1, z2, Nat.zero_add, show (w + 1) * (d / x) - w * (d / x) = d / x by rw [Nat.add_mul, Nat.one_mul]; omega]
    ·refine ⟨blk t md dn (trS s dn.length (q + 1)) i, rfl, ?_⟩
     rw [if_neg (by simpa using h0), m_ref53_Blocks_j3, wis (by omega)]
     congr 1
     unfold blk
     rw [trS_next hs.len hy, zipE_set _ _ q d _ hd, zipE_set _ _ q d _ hd]
     have z1 : eLo md (pt md i) d y = 0 := by unfold eLo; rw [if_neg h0]
     have z2 : eLn md d y = d := by unfold eLn; rw [if_neg h0]
     rw [z1, z2, set_back hlk, set_back hnk]
   ·rintro g b rfl
    simp only [m_ref53_Blocks_l2]
    rw [hs.len, if_neg (by simp)]
    congr 2
    unfold trS
    rw [Nat.sub_self, List.replicate_zero, List.append_nil, ← hs.len, List.take_length]
  rw [key, m_ref53_Blocks_j2, lapp_ok (by simp; omega), Option.bind_some, m_ref53_Blocks_j1, wis (by omega), List.range_succ, List.map_append]; rfl
 ·rintro f out rfl
  simp only [m_ref53_Blocks_l1]
  rw [hdev, Option.bind_some, if_neg (by simp)]; rfl
end Go.Proofs.YtpedfojbfbccaaaGreat
