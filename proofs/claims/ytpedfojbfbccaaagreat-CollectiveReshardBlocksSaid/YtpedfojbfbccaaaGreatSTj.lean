import Derived.Test.YtpedfojbfbccaaaGreatSTi
namespace Go.Proofs.YtpedfojbfbccaaaGreat
open Go Go.RowKit Go.Vc
set_option linter.unusedVariables false
set_option linter.unusedSimpArgs false
def meB (d : List Int) : Bool := decide (1 ≤ d.length ∧ d.length ≤ 3) && d.all (fun x => decide (1 ≤ x ∧ x ≤ 16)) && decide (prd (d.map Int.toNat) ≤ 16)
structure Msh (d : List Int) (dn : List Nat) : Prop where
 eq : d = ci dn
 pos : Pos dn
 le : prd dn ≤ 16
 len : 1 ≤ dn.length ∧ dn.length ≤ 3
theorem Msh.of {d : List Int} (h : meB d = true) : ∃ dn, Msh d dn := by
 unfold meB at h
 simp only [Bool.and_eq_true, decide_eq_true_eq] at h
 obtain ⟨⟨h1, h2⟩, h3⟩ := h
 have h2' : ∀ x ∈ d, 1 ≤ x ∧ x ≤ 16 := fun x hx => by simpa using List.all_eq_true.1 h2 x hx
 obtain ⟨dn, rfl⟩ := ci_of (l := d) fun x hx => by have := h2' x hx; omega
 rw [ci_nat] at h3
 rw [ci_len] at h1
 exact ⟨dn, rfl, fun x hx => by have := h2' (x : Int) (mem_ci hx); omega, h3, h1⟩
theorem Msh.shp {d : List Int} {dn : List Nat} (h : Msh d dn) : Shp d dn := ⟨h.eq, h.pos, by have := h.le; omega, by have := h.len; omega⟩
theorem Msh.b {d : List Int} {dn : List Nat} (h : Msh d dn) : meB d = true := by
 unfold meB
 rw [h.eq, ci_len, ci_nat]
 simp only [Bool.and_eq_true, decide_eq_true_eq]
 refine ⟨⟨h.len, List.all_eq_true.2 fun x hx => ?_⟩, h.le⟩
 unfold ci at hx
 obtain ⟨n, hn, rfl⟩ := List.mem_map.1 hx
 have h1 := h.pos n hn
 have h2 := le_prd h.pos hn
 have h3 := h.le
 simp; omega
theorem mesh_mul {d : List Int} (hl : 1 ≤ d.length ∧ d.length ≤ 3) (m : Nat → Int → Int → Option Int)
  (hm : ∀ f s (i : Nat) e, d[i]? = some e → m (f + 1) s (i : Int) = if e < 1 ∨ 16 < e then some 23 else m f (wi64 (s * e)) (wi64 ((i : Int) + 1)))
  (hz : ∀ f s, m (f + 1) s (d.length : Int) = if 16 < s then some 23 else some 0) : m fu 1 0 = some (if meB d = true then 0 else 23) := by
 refine loop_eq (L := fun f s i => m f s i) (n := d.length) (by omega) (fun i s => ∃ dn : List Nat, d.take i = ci dn ∧ (∀ x ∈ dn, 1 ≤ x ∧ x ≤ 16) ∧ s = (prd dn : Int) ∧ prd dn ≤ 16 ^ i) ?_ ?_ 1 ⟨[], by simp [ci], by simp, by simp [prd], by simp [prd]⟩
 ·rintro f i s hi ⟨dn, h1, h2, rfl, h4⟩
  obtain ⟨e, he⟩ := at_some hi
  rw [hm f _ i e he]
  by_cases hc : e < 1 ∨ 16 < e
  ·right
   rw [if_pos hc, if_neg]
   intro hb
   unfold meB at hb
   simp only [Bool.and_eq_true, decide_eq_true_eq] at hb
   have := List.all_eq_true.1 hb.1.2 e (List.mem_of_getElem? he)
   simp at this; omega
  ·left
   rw [if_neg hc]
   obtain ⟨en, rfl⟩ := Int.eq_ofNat_of_zero_le (show 0 ≤ e by omega)
   have hp : (16 : Nat) ^ i ≤ 256 := by
    have : i ≤ 2 := by omega
    exact Nat.pow_le_pow_right (n := 16) (by omega) this
   have h5 : prd dn * en ≤ 16 ^ i * 16 := Nat.mul_le_mul h4 (by omega)
   refine ⟨_, ⟨dn ++ [en], ?_, ?_, ?_, ?_⟩, by rw [wis (by omega)]⟩
   ·rw [take_succ' he, h1, ci_app]; rfl
   ·intro x hx
    rcases List.mem_append.1 hx with hx | hx
    ·exact h2 x hx
    ·rw [List.mem_singleton.1 hx]; omega
   ·rw [wim (by omega), prd_app]; simp [prd]
   ·rw [prd_app]; simpa [prd, Nat.pow_succ] using h5
 ·rintro f s ⟨dn, h1, h2, rfl, h4⟩
  rw [List.take_length] at h1
  subst h1
  rw [hz]
  have hall : (ci dn).all (fun x => decide (1 ≤ x ∧ x ≤ 16)) = true := List.all_eq_true.2 fun x hx => by
   unfold ci at hx
   obtain ⟨n, hn, rfl⟩ := List.mem_map.1 hx
   have := h2 n hn; simp; omega
  have hb : meB (ci dn) = decide (prd dn ≤ 16) := by
   unfold meB; rw [hall, ci_nat, decide_eq_true hl]; simp
  rw [hb]
  by_cases hc : prd dn ≤ 16
  ·rw [if_neg (by omega), if_pos (by simpa using hc)]
  ·rw [if_pos (by omega), if_neg (by simpa using hc)]
theorem meB_len {d : List Int} (h : ¬ (1 ≤ d.length ∧ d.length ≤ 3)) : ¬ meB d = true := by
 intro hb; unfold meB at hb; simp only [Bool.and_eq_true, decide_eq_true_eq] at hb; exact h hb.1.1
theorem mesh_Validate (m : GMesh) : m_mesh_Validate m = some (if meB m.Dims = true then 0 else 23) := by
 unfold m_mesh_Validate
 by_cases hl : 1 ≤ m.Dims.length ∧ m.Dims.length ≤ 3
 ·rw [if_neg (by simp; omega)]
  refine mesh_mul hl (m_mesh_Validate_l1 m) (fun f s i e he => ?_) (fun f s => ?_)
  ·have hlt := (List.getElem?_eq_some_iff.1 he).1
   simp only [m_mesh_Validate_l1]
   rw [if_pos (lt_dec hlt), lat_at he, Option.bind_some]
   by_cases hc : e < 1 ∨ 16 < e
   ·rw [if_pos (by simpa using hc), if_pos hc]
   ·rw [if_neg (by simpa using hc), if_neg hc]
  ·simp only [m_mesh_Validate_l1]
   rw [if_neg (by simp)]
   by_cases hc : 16 < s
   ·rw [if_pos (by simpa using hc), if_pos hc]
   ·rw [if_neg (by simpa using hc), if_neg hc]
 ·rw [if_pos (by simp; omega), if_neg (meB_len hl)]
theorem ref51_Validate (m : GMesh) : m_ref51_Validate m = some (if meB m.Dims = true then 0 else 23) := by
 unfold m_ref51_Validate
 by_cases hl : 1 ≤ m.Dims.length ∧ m.Dims.length ≤ 3
 ·rw [if_neg (by simp; omega)]
  refine mesh_mul hl (m_ref51_Validate_l1 m) (fun f s i e he => ?_) (fun f s => ?_)
  ·have hlt := (List.getElem?_eq_some_iff.1 he).1
   simp only [m_ref51_Validate_l1]
   rw [if_pos (lt_dec hlt), lat_at he, Option.bind_some]
   by_cases h1 : e < 1
   ·simp [gd, h1]
   ·rw [show gd (!(decide (e < 1))) (some e) = some e by unfold gd; rw [if_pos (by simp; omega)], Option.bind_some, Option.bind_some]
    by_cases hc : 16 < e
    ·rw [if_pos (by simp; omega), if_pos (by omega)]
    ·rw [if_neg (by simp; omega), if_neg (by omega)]
  ·simp only [m_ref51_Validate_l1]
   rw [if_neg (by simp)]
   by_cases hc : 16 < s
   ·rw [if_pos (by simpa using hc), if_pos hc]
   ·rw [if_neg (by simpa using hc), if_neg hc]
 ·rw [if_pos (by simp; omega), if_neg (meB_len hl)]
theorem box_Validate {d : List Int} {dn : List Nat} (h : Msh d dn) : m_box_Validate d = some 0 := by
 have hlen := h.len; have hle := h.le
 obtain rfl := h.eq
 unfold m_box_Validate
 rw [if_neg (by rw [ci_len]; simp; omega)]
 refine loop_eq (L := fun f s i => m_box_Validate_l2 (ci dn) f s i) (n := dn.length) (by omega) (fun i s => s = false) ?_ ?_ false rfl
 ·rintro f i s hi rfl
  obtain ⟨x, hx⟩ := at_some hi
  have hx1 := h.pos x (List.mem_of_getElem? hx)
  left
  refine ⟨false, rfl, ?_⟩
  simp only [m_box_Validate_l2]
  rw [ci_len, if_pos (lt_dec hi), ci_at hx, Option.bind_some, if_neg (by simp), Option.bind_some, wis (by omega)]
  rw [show (false || decide ((x : Int) = 0)) = false from by rw [Bool.false_or]; exact decide_eq_false (by omega)]
 ·rintro f s rfl
  simp only [m_box_Validate_l2]
  rw [ci_len, if_neg (by simp), m_box_Validate_j1]
  refine loop_eq (L := fun f s i => m_box_Validate_l1 (ci dn) false f s i) (n := dn.length) (by omega) (fun i s => s = ((prd (dn.take i) : Nat) : Int)) ?_ ?_ 1 (by simp [prd])
  ·rintro f i s hi rfl
   obtain ⟨x, hx⟩ := at_some hi
   have h1 := prd_pos (h.pos.take i)
   have h2 := prd_take_le h.pos (i + 1)
   rw [prd_take_succ hx] at h2
   left
   refine ⟨_, rfl, ?_⟩
   have hdiv : wi64 (Int.tdiv 65536 ((prd (dn.take i) : Nat) : Int)) = ((65536 / prd (dn.take i) : Nat) : Int) := by
    rw [show Int.tdiv 65536 ((prd (dn.take i) : Nat) : Int) = ((65536 / prd (dn.take i) : Nat) : Int) from (Int.ofNat_tdiv 65536 _).symm]
    exact wiN (by have := Nat.div_le_self 65536 (prd (dn.take i)); omega)
   have hnl : ¬ 65536 / prd (dn.take i) < x := by rw [Nat.div_lt_iff_lt_mul h1, Nat.mul_comm]; omega
   simp only [m_box_Validate_l1]
   rw [ci_len, if_pos (lt_dec hi), ci_at hx, Option.bind_some, if_pos (by intro _; omega), hdiv]
   rw [if_neg (by simp only [Bool.not_false, Bool.true_and, decide_eq_true_eq]; exact fun h => hnl (Int.ofNat_lt.1 h)), if_pos (show (!false) = true from rfl), m_box_Validate_j2, wim (by omega), wis (by omega), prd_take_succ hx]
  ·rintro f s rfl
   simp only [m_box_Validate_l1]
   rw [ci_len, if_neg (by simp)]
theorem box_Count {d : List Int} {dn : List Nat} (h : Msh d dn) : m_box_Count d = some (prd dn : Int) := by
 have hlen := h.len; have hle := h.le
 have hbv := box_Validate h
 obtain rfl := h.eq
 unfold m_box_Count
 rw [hbv, Option.bind_some, if_neg (by simp)]
 refine any_no (n := dn.length) (by omega) _ (fun f i hi => ?_) (fun f => ?_)
 ·obtain ⟨x, hx⟩ := at_some hi
  have hx1 := h.pos x (List.mem_of_getElem? hx)
  simp only [m_box_Count_l2]
  rw [ci_len, if_pos (lt_dec hi), ci_at hx, Option.bind_some, if_neg (by simp; omega), wis (by omega)]
 ·simp only [m_box_Count_l2]
  rw [ci_len, if_neg (by simp), m_box_Count_j1]
  refine size_mul h.pos (by omega) (by omega) (m_box_Count_l1 (ci dn)) (fun f s i e he hi => ?_) (fun f s => ?_)
  ·rw [m_box_Count_l1, he, if_pos (by rw [ci_len]; simpa using hi)]; rfl
  ·rw [m_box_Count_l1, if_neg (by rw [ci_len]; simp)]
theorem mesh_Devices (m : GMesh) : m_mesh_Devices m = some (if meB m.Dims = true then (prd (m.Dims.map Int.toNat) : Int) else 0) := by
 unfold m_mesh_Devices
 rw [mesh_Validate, Option.bind_some]
 by_cases h : meB m.Dims = true
 ·obtain ⟨dn, hm⟩ := Msh.of h
  rw [if_pos h, if_neg (by simp), if_pos h, box_Count hm, hm.eq, ci_nat]; rfl
 ·rw [if_neg h, if_pos (by simp), if_neg h]
theorem ref51_Devices (m : GMesh) : m_ref51_Devices m = some (if meB m.Dims = true then (prd (m.Dims.map Int.toNat) : Int) else 0) := by
 unfold m_ref51_Devices
 rw [ref51_Validate, Option.bind_some]
 by_cases h : meB m.Dims = true
 ·obtain ⟨dn, hm⟩ := Msh.of h
  have hlen := hm.len; have hle := hm.le
  rw [if_pos h, if_neg (by simp), if_pos h, hm.eq, ci_nat]
  refine size_mul hm.pos (by omega) (by omega) (m_ref51_Devices_l1 m) (fun f s i e he hi => ?_) (fun f s => ?_)
  ·rw [m_ref51_Devices_l1, hm.eq, he, if_pos (by rw [ci_len]; simpa using hi)]; rfl
  ·rw [m_ref51_Devices_l1, hm.eq, if_neg (by rw [ci_len]; simp)]
 ·rw [if_neg h, if_pos (by simp), if_neg h]
theorem box_Point {d : List Int} {dn : List Nat} {a : Nat} (h : Msh d dn) (ha : a < prd dn) : m_box_Point d a = some (ci (pt dn a), true) := by
 have hl := h.len; have hp := h.le
 have hs := box_Count h
 obtain rfl := h.eq
 unfold m_box_Point
 rw [show gd (!(decide ((a : Int) < 0))) (m_box_Count (ci dn)) = m_box_Count (ci dn) by unfold gd; rw [if_pos (by simp)], hs, Option.bind_some, if_neg (by simp; omega), ci_len, lmake_ok 0 (by omega), Option.bind_some, Option.bind_some]
 rw [show wi64 ((dn.length : Int) - 1) = (dn.length : Int) - 1 from wr_i64 (p := (dn.length : Int) - 1) ⟨by omega, by omega⟩]
 refine point_loop (N := dn.length) h.pos (by omega) (by omega) (by omega) (List.replicate dn.length 0) (by simp) (Nat.le_refl _) (m_box_Point_l1 (ci dn)) (fun f i at_ e p he h0 hi hpl => ?_) (fun f at_ p hpp => ?_)
 ·simp only [m_box_Point_l1, he, Option.bind_some, hpl]
  rw [if_pos (by simp), if_pos h0, if_pos (by omega), if_pos h0]
  rw [show wi64 ((i : Int) - 1) = (i : Int) - 1 from wr_i64 (p := (i : Int) - 1) ⟨by omega, by omega⟩]; rfl
 ·simp only [m_box_Point_l1]
  rw [if_neg (by decide), hpp]; simp
theorem mesh_Coordinates {m : GMesh} {dn : List Nat} {a : Nat} (h : Msh m.Dims dn) (ha : a < prd dn) : m_mesh_Coordinates m a = some (ci (pt dn a), true) := by
 unfold m_mesh_Coordinates
 rw [mesh_Validate, Option.bind_some, if_pos h.b, if_neg (by simp), box_Point h ha]; rfl
theorem ref51_Coordinates {m : GMesh} {dn : List Nat} {a : Nat} (h : Msh m.Dims dn) (ha : a < prd dn) : m_ref51_Coordinates m a = some (ci (pt dn a), true) := by
 have hl := h.len; have hp := h.le
 unfold m_ref51_Coordinates
 rw [show gd (!(decide ((a : Int) < 0))) (m_ref51_Devices m) = m_ref51_Devices m by unfold gd; rw [if_pos (by simp)], ref51_Devices, Option.bind_some, if_pos h.b, h.eq, ci_nat, if_neg (by simp; omega), ci_len, lmake_ok 0 (by omega), Option.bind_some, Option.bind_some]
 rw [show wi64 ((dn.length : Int) - 1) = (dn.length : Int) - 1 from wr_i64 (p := (dn.length : Int) - 1) ⟨by omega, by omega⟩]
 refine point_loop (N := dn.length) h.pos (by omega) (by omega) (by omega) (List.replicate dn.length 0) (by simp) (Nat.le_refl _) (m_ref51_Coordinates_l1 m) (fun f i at_ e p he h0 hi hpl => ?_) (fun f at_ p hpp => ?_)
 ·simp only [m_ref51_Coordinates_l1, h.eq, he, Option.bind_some, hpl]
  rw [if_pos (by simp), if_pos h0, if_pos (by omega), if_pos h0]
  rw [show wi64 ((i : Int) - 1) = (i : Int) - 1 from wr_i64 (p := (i : Int) - 1) ⟨by omega, by omega⟩]; rfl
 ·simp only [m_ref51_Coordinates_l1]
  rw [if_neg (by decide), hpp]; simp
theorem mesh_Device {m : GMesh} {dn pn : List Nat} (h : Msh m.Dims dn) (hb : Bd dn pn) : m_mesh_Device m (ci pn) = some (((off dn pn : Nat) : Int), true) := by
 have hl := h.len
 have hs := h.shp
 unfold m_mesh_Device
 rw [mesh_Validate, Option.bind_some, if_pos h.b, if_neg (by simp)]
 unfold m_box_Rank m_box_inside
 rw [box_Validate h, Option.bind_some, h.eq, if_neg (by rw [ci_len, ci_len, hb.len]; simp)]
 rw [show m_box_inside_l1 (ci dn) (ci pn) fu 0 = some true from any_no (n := dn.length) (by omega) (m_box_inside_l1 (ci dn) (ci pn)) (fun f i hi => by
  obtain ⟨x, hx⟩ := at_some hi
  obtain ⟨q, hq, hlt⟩ := hb.at_ hx
  simp only [m_box_inside_l1]
  rw [ci_len, if_pos (lt_dec hi), ci_at hx, Option.bind_some, ci_at hq, Option.bind_some, show gd (!(decide ((q : Int) < 0))) (some (q : Int)) = some (q : Int) by unfold gd; rw [if_pos (by simp)], Option.bind_some, if_neg (by simp; omega), wis (by omega)]) (fun f => by simp only [m_box_inside_l1]; rw [ci_len, if_neg (by simp)]), Option.bind_some, if_neg (by simp)]
 rw [show m_box_Rank_l1 (ci dn) (ci pn) fu 0 0 = some (((off dn pn : Nat) : Int), true) from loop_eq (L := fun f s i => m_box_Rank_l1 (ci dn) (ci pn) f s i) (n := dn.length) (by omega) (fun i s => s = ((off (dn.take i) (pn.take i) : Nat) : Int)) (by
  rintro f i s hi rfl
  obtain ⟨x, hx⟩ := at_some hi
  obtain ⟨q, hq, hlt⟩ := hb.at_ hx
  left
  refine ⟨_, rfl, ?_⟩
  simp only [m_box_Rank_l1]
  rw [ci_len, if_pos (lt_dec hi), ci_at hx, Option.bind_some, ci_at hq, Option.bind_some, Option.bind_some, off_step hs hb hx hq, wis (by omega)]) (by
  rintro f s rfl
  simp only [m_box_Rank_l1]
  rw [ci_len, if_neg (by simp), List.take_length, List.take_of_length_le (by rw [hb.len]; exact Nat.le_refl _)]) 0 (by simp [off])]
 rfl
def grp (O m I a : Nat) : List Nat := (List.range m).map fun c => (a / (m * I) * m + c) * I + a % I
theorem mesh_Group {m : GMesh} {dn : List Nat} {i x a : Nat} (h : Msh m.Dims dn) (ha : a < prd dn) (hx : dn[i]? = some x) : m_mesh_Group m (i : Int) (a : Int) = some (ci (grp (prd (dn.take i)) x (prd (dn.drop (i + 1))) a)) := by
 have hl := h.len; have hle := h.le
 have hi := (List.getElem?_eq_some_iff.1 hx).1
 have hax := Ax.of hx
 have hxs := mem_small h.shp hx
 have hpr := hax.prd
 have hplen := pt_len dn a
 unfold m_mesh_Group
 rw [mesh_Coordinates h ha, Option.bind_some, if_neg (by simp; rw [h.eq, ci_len]; omega), h.eq, ci_at hx, Option.bind_some]
 refine loop_eq (L := fun f s c => m_mesh_Group_l1 (x : Int) (ci (pt dn a), true) (i : Int) m f s c) (n := x) (by omega) (fun c s => s = ci ((List.range c).map fun c => (a / (x * prd (dn.drop (i + 1))) * x + c) * prd (dn.drop (i + 1)) + a % prd (dn.drop (i + 1)))) ?_ ?_ [] (by simp [ci])
 ·rintro f c s hc rfl
  left
  refine ⟨_, rfl, ?_⟩
  simp only [m_mesh_Group_l1]
  rw [if_pos (lt_dec hc), clone_int_o (by rw [ci_len]; omega), Option.bind_some, if_pos (by rw [ci_len]; omega), Int.toNat_natCast, ci_set]
  rw [mesh_Device h (pt_set_bd hax h.pos a hax hc), Option.bind_some, hax.off_set h.pos a (by rw [← hpr]; exact ha) hax, lapp_ok (by rw [ci_len]; simp; omega), Option.bind_some, wis (by omega), List.range_succ, List.map_append, ci_app]
  rfl
 ·rintro f s rfl
  simp only [m_mesh_Group_l1]
  rw [if_neg (by simp)]; rfl
end Go.Proofs.YtpedfojbfbccaaaGreat
