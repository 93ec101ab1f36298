import Derived.Test.YtlakfanockhngaaGreatDoorSUa
namespace Go.Proofs.YtlakfanockhngaaGreatDoor
open Go Go.RowKit Go.Vc
set_option linter.unusedVariables false
set_option linter.unusedSimpArgs false
theorem New_o {ty : GType} {dims : List Int} {vals : List GVal} (hr : TeR ⟨ty, dims, vals⟩) (h1 : dims.length ≤ 4294967296) (h2 : vals.length ≤ 4294967296) : m_tensor_New_o ty dims vals = some (neS ⟨ty, dims, vals⟩) := by
 unfold m_tensor_New_o neS
 rw [lapp_nil h1, Option.bind_some, lapp_nil h2, Option.bind_some, tensor_Validate hr (by simp only; omega) (by simp only; omega), Option.bind_some]
 by_cases h : teErr ⟨ty, dims, vals⟩ = 0
 ·rw [if_neg (by simp [h]), if_pos h]
 ·rw [if_pos (by simp [h]), if_neg h]; rfl
theorem Full_o {ty : GType} {d : List Int} {v : GVal} (hv : VaR v) (hd : d.length ≤ 4294967296) : m_tensor_Full_o ty d v = some (fuS ty d v) := by
 unfold m_tensor_Full_o fuS
 rw [value_ValidateType, Option.bind_some]
 by_cases ht : tyB ty = true
 rotate_left
 ·rw [if_neg ht, if_pos (by decide), if_neg ht]; rfl
 rw [if_pos ht, if_neg (by decide), if_pos ht, shape_Validate _ (by omega), Option.bind_some]
 by_cases hs : shErr d = 0
 rotate_left
 ·rw [if_pos (by simp [hs]), if_neg hs]; rfl
 obtain ⟨dn, hS⟩ := Shp.of hs
 have hle := hS.le
 rw [if_neg (by simp [hs]), if_pos hs, value_Valid hv, Option.bind_some, ht, Bool.true_and]
 by_cases ho : okV ty v = true
 rotate_left
 ·rw [if_pos (by simpa using ho), if_neg ho]; rfl
 rw [if_neg (by simpa using ho), if_pos ho, lapp_nil hd, Option.bind_some, hS.size, Option.bind_some]
 rw [show prd (d.map Int.toNat) = prd dn by rw [hS.eq, ci_nat]]
 refine loop_eq (L := fun f s i => m_tensor_Full_o_l1 (prd dn : Int) v f i s) (n := prd dn) (by omega) (fun i s => s = ⟨ty, d, List.replicate i v⟩) ?_ ?_ ⟨ty, d, []⟩ rfl
 ·rintro f i s hi rfl
  left
  refine ⟨_, rfl, ?_⟩
  simp only [m_tensor_Full_o_l1]
  rw [if_pos (lt_dec hi), lapp_ok (by simp; omega), Option.bind_some, wis (by omega), ← List.replicate_succ']
 ·rintro f s rfl
  simp only [m_tensor_Full_o_l1]
  rw [if_neg (by simp)]
theorem Set_o {t : GTensor} (hr : TeR t) (h1 : t.Dims.length ≤ 4294967296) (h2 : t.Vals.length ≤ 4294967296) {p : List Int} (hp : p.length < 4611686018427387904) {v : GVal} (hv : VaR v) : m_tensor_Set_o t v p = some (seS t v p) := by
 unfold m_tensor_Set_o seS
 rw [tensor_locate hr (by omega) (by omega) hp, Option.bind_some]
 by_cases h : (loS t p).2 = 0
 rotate_left
 ·rw [if_pos (by simp [h]), if_neg h]; rfl
 obtain ⟨dn, pn, ht, _, hb, e1⟩ := loS_in h
 have hlt := off_lt hb
 rw [if_neg (by simp [h]), if_pos h, value_Valid hv, Option.bind_some, ht.ty, Bool.true_and]
 by_cases ho : okV t.Type_ v = true
 rotate_left
 ·rw [if_pos (by simpa using ho), if_neg ho]; rfl
 rw [if_neg (by simpa using ho), if_pos ho, clone_o h1 h2, Option.bind_some, if_pos (by rw [e1, ht.len]; omega)]
theorem loop_len {σ R : Type} {L : Nat → σ → Int → Option R} {n : Nat} (g : σ → Nat) (hn : n < 4611686018427387904) {v : Option R}
  (rd : ∀ f i s, i < n → g s = n → ∃ s', g s' = n ∧ L (f + 1) s (i : Int) = L f s' ((i + 1 : Nat) : Int)) (z : ∀ f s, g s = n → L (f + 1) s (n : Int) = v) (s : σ) (h : g s = n) : L fu s 0 = v :=
 loop_eq (L := L) hn (fun _ s => g s = n) (fun f i s hi hI => by
  obtain ⟨s', h1, h2⟩ := rd f i s hi hI
  exact Or.inl ⟨s', h1, h2⟩) z s h
theorem seS_dims {t : GTensor} (h1 : t.Dims.length ≤ 4294967296) (h2 : t.Vals.length ≤ 4294967296) (v : GVal) (p : List Int) : (seS t v p).1.Dims.length ≤ 4294967296 ∧ (seS t v p).1.Vals.length ≤ 4294967296 := by
 unfold seS
 split
 ·split
  ·exact ⟨h1, by simpa only [List.length_set] using h2⟩
  ·exact ⟨by simp [z0], by simp [z0]⟩
 ·exact ⟨by simp [z0], by simp [z0]⟩
theorem fuS_dims (ty : GType) {d : List Int} (h1 : d.length ≤ 4294967296) (v : GVal) : (fuS ty d v).1.Dims.length ≤ 4294967296 := by
 unfold fuS
 split
 ·split
  ·split
   ·exact h1
   ·simp [z0]
  ·simp [z0]
 ·simp [z0]
section
variable (r4 : GTensor × Int) (t : GTensor)
theorem ind1 (hz : m_base_Tensor r4.1 t = some true) (c : GTensor) (h : c.Dims.length ≤ 4294967296) : m_law12_TensorIndependent_j4 r4 t c = some true := by
 rw [m_law12_TensorIndependent_j4]
 refine loop_len (L := fun f s i => m_law12_TensorIndependent_l1 r4 t f i s) (n := c.Dims.length) (fun s => s.Dims.length) (by omega) ?_ ?_ c rfl
 ·intro f i s hi hI
  obtain ⟨x, hx⟩ := at_some (l := s.Dims) (i := i) (by omega)
  refine ⟨⟨s.Type_, s.Dims.set i (wi64 (x + 1)), s.Vals⟩, by simpa using hI, ?_⟩
  simp only [m_law12_TensorIndependent_l1]
  rw [if_pos (by simp; omega), lat_at hx, Option.bind_some, if_pos (by omega), wis (by omega), Int.toNat_natCast]
 ·intro f s hI
  simp only [m_law12_TensorIndependent_l1]
  rw [if_neg (by simp; omega), m_law12_TensorIndependent_j5, hz, ex12]; rfl
theorem ind2 (hz : m_base_Tensor r4.1 t = some true) (r6 : GTensor × Int) (b : GTensor) (h : r6.1.Dims.length ≤ 4294967296 ∧ r6.1.Vals.length ≤ 4294967296) : m_law12_TensorIndependent_j3 r4 t r6 b = some true := by
 rw [m_law12_TensorIndependent_j3]
 refine loop_len (L := fun f s i => m_law12_TensorIndependent_l2 r4 t f i s) (n := r6.1.Vals.length) (fun s => s.Vals.length + (if s.Dims.length ≤ 4294967296 then 0 else 4294967297)) (by omega) ?_ ?_ r6.1 (by rw [if_pos h.1]; rfl)
 ·intro f i s hi hI
  have hd : s.Dims.length ≤ 4294967296 := by
   by_cases hd : s.Dims.length ≤ 4294967296
   ·exact hd
   ·simp only [if_neg hd] at hI; omega
  simp only [if_pos hd] at hI
  obtain ⟨x, hx⟩ := at_some (l := s.Vals) (i := i) (by omega)
  refine ⟨⟨s.Type_, s.Dims, s.Vals.set i ⟨wi64 (x.N + 1), x.D⟩⟩, by simp only [List.length_set, if_pos hd]; omega, ?_⟩
  simp only [m_law12_TensorIndependent_l2]
  rw [if_pos (by simp; omega), lat_at hx, Option.bind_some, if_pos (by omega), wis (by omega), Int.toNat_natCast]; rfl
 ·intro f s hI
  have hd : s.Dims.length ≤ 4294967296 := by
   by_cases hd : s.Dims.length ≤ 4294967296
   ·exact hd
   ·simp only [if_neg hd] at hI; omega
  simp only [if_pos hd] at hI
  simp only [m_law12_TensorIndependent_l2]
  rw [if_neg (by simp; omega)]; exact ind1 r4 t hz s hd
theorem ind3 (hz : m_base_Tensor r4.1 t = some true) (r6 r5 : GTensor × Int) (h : r6.1.Dims.length ≤ 4294967296 ∧ r6.1.Vals.length ≤ 4294967296) (h5 : r5.1.Dims.length ≤ 4294967296) : m_law12_TensorIndependent_j2 r4 t r6 r5 = some true := by
 rw [m_law12_TensorIndependent_j2]
 refine loop_len (L := fun f s i => m_law12_TensorIndependent_l3 r4 t r6 f i s) (n := r5.1.Dims.length) (fun s => s.Dims.length) (by omega) ?_ ?_ r5.1 rfl
 ·intro f i s hi hI
  obtain ⟨x, hx⟩ := at_some (l := s.Dims) (i := i) (by omega)
  refine ⟨⟨s.Type_, s.Dims.set i (wi64 (x + 1)), s.Vals⟩, by simpa using hI, ?_⟩
  simp only [m_law12_TensorIndependent_l3]
  rw [if_pos (by simp; omega), lat_at hx, Option.bind_some, if_pos (by omega), wis (by omega), Int.toNat_natCast]
 ·intro f s hI
  simp only [m_law12_TensorIndependent_l3]
  rw [if_neg (by simp; omega)]; exact ind2 r4 t hz r6 s h
theorem ind4 (hz : m_base_Tensor r4.1 t = some true) (r6 r5 : GTensor × Int) (h : r6.1.Dims.length ≤ 4294967296 ∧ r6.1.Vals.length ≤ 4294967296) (h5 : r5.1.Dims.length ≤ 4294967296) (vs : List GVal) (hv : vs.length ≤ 4294967296) : m_law12_TensorIndependent_j1 r4 t r6 r5 vs = some true := by
 rw [m_law12_TensorIndependent_j1]
 refine loop_len (L := fun f s i => m_law12_TensorIndependent_l4 r4 t r6 r5 f s i) (n := vs.length) (fun s => s.length) (by omega) ?_ ?_ vs rfl
 ·intro f i s hi hI
  obtain ⟨x, hx⟩ := at_some (l := s) (i := i) (by omega)
  refine ⟨s.set i ⟨wi64 (x.N + 1), x.D⟩, by simpa using hI, ?_⟩
  simp only [m_law12_TensorIndependent_l4]
  rw [if_pos (by simp; omega), lat_at hx, Option.bind_some, if_pos (by omega), wis (by omega), Int.toNat_natCast]; rfl
 ·intro f s hI
  simp only [m_law12_TensorIndependent_l4]
  rw [if_neg (by simp; omega)]; exact ind3 r4 t hz r6 r5 h h5
theorem ind5 (hz : m_base_Tensor r4.1 t = some true) (r6 r5 : GTensor × Int) (h : r6.1.Dims.length ≤ 4294967296 ∧ r6.1.Vals.length ≤ 4294967296) (h5 : r5.1.Dims.length ≤ 4294967296) (vs : List GVal) (hv : vs.length ≤ 4294967296) (ds : List Int) (hd : ds.length ≤ 4294967296) : m_law12_TensorIndependent_l5 r4 t r6 r5 vs fu ds 0 = some true := by
 refine loop_len (L := fun f s i => m_law12_TensorIndependent_l5 r4 t r6 r5 vs f s i) (n := ds.length) (fun s => s.length) (by omega) ?_ ?_ ds rfl
 ·intro f i s hi hI
  obtain ⟨x, hx⟩ := at_some (l := s) (i := i) (by omega)
  refine ⟨s.set i (wi64 (x + 1)), by simpa using hI, ?_⟩
  simp only [m_law12_TensorIndependent_l5]
  rw [if_pos (by simp; omega), lat_at hx, Option.bind_some, if_pos (by omega), wis (by omega), Int.toNat_natCast]
 ·intro f s hI
  simp only [m_law12_TensorIndependent_l5]
  rw [if_neg (by simp; omega)]; exact ind4 r4 t hz r6 r5 h h5 vs hv
end
theorem law_TensorIndependent (t : GTensor) (v : GVal) (p : List Int) (ht : okGTensor t) (hv : okGVal v) (_ : okL (okI .i64) p) : m_law12_TensorIndependent t v p = some true := by
 unfold m_law12_TensorIndependent
 rw [small12, Option.bind_some]
 by_cases hs : ((t.Vals.length : Int) ≤ 500 ∧ (t.Dims.length : Int) ≤ 20) ∧ p.length ≤ 20
 rotate_left
 ·have e : ((!(decide ((t.Vals.length : Int) ≤ 500) && decide ((t.Dims.length : Int) ≤ 20))) || decide (20 < (p.length : Int))) = true := by simp; omega
  rw [e]
  simp only [gd, Bool.not_true, Bool.false_eq_true, if_false, Option.bind_some, Bool.true_or, if_true]
  rw [ex12]; rfl
 have e : ((!(decide ((t.Vals.length : Int) ≤ 500) && decide ((t.Dims.length : Int) ≤ 20))) || decide (20 < (p.length : Int))) = false := by simp; omega
 have hr := TeR.of ht
 have h1 : t.Dims.length ≤ 4294967296 := by omega
 have h2 : t.Vals.length ≤ 4294967296 := by omega
 rw [e]
 simp only [gd, Bool.not_false, if_true, Bool.false_or]
 rw [ref12_Validate hr (by omega) (by omega), Option.bind_some]
 by_cases he : teErr t = 0
 rotate_left
 ·rw [if_pos (by simpa using he), ex12]; rfl
 obtain ⟨dn, hT⟩ := Ten.of he
 have hpos := prd_pos hT.shp.pos
 obtain ⟨x, hx⟩ := at_some (l := t.Vals) (i := 0) (by rw [hT.len]; omega)
 have hx' : lat t.Vals 0 = some x := lat_at (i := 0) hx
 have hN : neS (⟨t.Type_, t.Dims, t.Vals⟩ : GTensor) = (t, 0) := by unfold neS; rw [if_pos he]
 rw [if_neg (by simp [he]), lapp_nil h1, Option.bind_some, lapp_nil h2, Option.bind_some, New_o hr h1 h2, Option.bind_some, hx', Option.bind_some, Full_o (hr.2 x (List.mem_of_getElem? hx)) h1, Option.bind_some, hN]
 rw [Set_o hr h1 h2 (by omega) (VaR.of hv), Option.bind_some, if_neg (by simp)]
 exact ind5 (t, 0) t (base_Tensor_refl (a := t) (by omega) (by omega)) _ _ (seS_dims h1 h2 v p) (fuS_dims _ h1 _) _ h2 _ h1
end Go.Proofs.YtlakfanockhngaaGreatDoor
