import Derived.Test.YtlakfanockhngaaGreatDoorSTb
namespace Go.Proofs.YtlakfanockhngaaGreatDoor
open Go Go.RowKit Go.Vc
set_option linter.unusedVariables false
set_option linter.unusedSimpArgs false
theorem off_take_succ {d p : List Nat} {i x q : Nat} (hx : d[i]? = some x) (hq : p[i]? = some q) : off (d.take (i + 1)) (p.take (i + 1)) = off (d.take i) (p.take i) * x + q := by
 have h1 := (List.getElem?_eq_some_iff.1 hx).1
 have h2 := (List.getElem?_eq_some_iff.1 hq).1
 rw [take_succ' hx, take_succ' hq, off_app (by rw [List.length_take, List.length_take]; omega)]
 simp [off, prd]
theorem Bd.take {d p : List Nat} (h : Bd d p) (i : Nat) : Bd (d.take i) (p.take i) := by
 induction d generalizing p i with
 | nil => cases p with | nil => simpa using h | cons => exact h.elim
 | cons x d ih => cases p with
  | nil => exact h.elim
  | cons q p => cases i with
   | zero => trivial
   | succ i => exact ⟨h.1, ih h.2 i⟩
def inB (d p : List Int) : Bool := decide (p.length = d.length) && (List.zip d p).all fun x => decide (0 ≤ x.2 ∧ x.2 < x.1)
theorem prd_small {dn : List Nat} {d : List Int} (h : Shp d dn) (i : Nat) : prd (dn.take i) ≤ 4096 := Nat.le_trans (prd_take_le h.pos i) h.le
theorem off_step {dn pn : List Nat} {d : List Int} (h : Shp d dn) (hb : Bd dn pn) {i x q : Nat} (hx : dn[i]? = some x) (hq : pn[i]? = some q) :
  wi64 ((wi64 (((off (dn.take i) (pn.take i) : Nat) : Int) * (x : Int))) + (q : Int)) = ((off (dn.take (i + 1)) (pn.take (i + 1)) : Nat) : Int) := by
 have h1 := off_lt (hb.take (i + 1))
 have h2 := prd_small h (i + 1)
 rw [off_take_succ hx hq] at h1 ⊢
 rw [wim (by omega), wia (by omega)]
theorem ref12_Offset {d : List Int} {dn pn : List Nat} (h : Shp d dn) (hb : Bd dn pn) : m_ref12_Offset d (ci pn) = some ((off dn pn : Nat) : Int) := by
 have hl := h.len
 obtain rfl := h.eq
 unfold m_ref12_Offset
 refine loop_eq (L := fun f s i => m_ref12_Offset_l1 (ci dn) (ci pn) f s i) (n := dn.length) (by omega) (fun i s => s = ((off (dn.take i) (pn.take i) : Nat) : Int)) ?_ ?_ 0 (by simp [off])
 ·rintro f i s hi rfl
  obtain ⟨x, hx⟩ := at_some hi
  obtain ⟨q, hq⟩ := at_some (l := pn) (i := i) (by rw [hb.len]; exact hi)
  left
  refine ⟨_, rfl, ?_⟩
  simp only [m_ref12_Offset_l1, ci_len, ci_at hx, ci_at hq, Option.bind_some]
  rw [if_pos (lt_dec hi), off_step h hb hx hq, wis (by omega)]
 ·rintro f s rfl
  simp only [m_ref12_Offset_l1, ci_len]
  rw [if_neg (by simp), List.take_length, List.take_of_length_le (by rw [hb.len]; exact Nat.le_refl _)]
theorem pt_at {d : List Nat} {a i x : Nat} (hx : d[i]? = some x) : (pt d a)[i]? = some ((a / prd (d.drop (i + 1))) % x) := by
 induction d generalizing i with
 | nil => simp at hx
 | cons y d ih => cases i with
  | zero => simp at hx; subst hx; simp [pt]
  | succ i => simpa [pt] using ih (by simpa using hx)
theorem set_drop {α : Type} {l : List α} {i : Nat} {x : α} (h : i < l.length) : (l.set i x).drop i = x :: l.drop (i + 1) := by
 rw [drop_at (x := x) (by simp [h])]
 congr 1
 exact List.drop_set_of_lt (by omega)
theorem point_loop {R : Type} {dn : List Nat} {a : Nat} {r0 : Option R} (hp : Pos dn) (hd : prd dn < 4611686018427387904) (ha : a < 4611686018427387904) (hn : dn.length < 4611686018427387904) (z : List Int) (N : Nat) (hz : z.length = N) (hN : dn.length ≤ N)
  (m : Nat → Int → List Int → Int → Option R)
  (hm : ∀ (f i : Nat) (at_ e : Int) (p : List Int), lat (ci dn) (i : Int) = some e → e ≠ 0 → i < dn.length → p.length = N → m (f + 1) at_ p (i : Int) = m f (wi64 (Int.tdiv at_ e)) (p.set i (Int.tmod at_ e)) ((i : Int) - 1))
  (hfin : ∀ f at_ p, p = ci (pt dn a) ++ z.drop dn.length → m (f + 1) at_ p (-1) = r0) : m fu a z ((dn.length : Int) - 1) = r0 := by
 refine loop_down (L := fun f (s : Int × List Int) i => m f s.1 s.2 i) (fun i s => i ≤ dn.length ∧ s.1 = ((a / prd (dn.drop i) : Nat) : Int) ∧ s.2.length = N ∧ s.2.drop i = ci ((pt dn a).drop i) ++ z.drop dn.length) ?_ ?_ dn.length hn ((a : Int), z) ⟨Nat.le_refl _, by simp [prd], hz, by rw [List.drop_of_length_le (Nat.le_of_eq (pt_len dn a))]; rfl⟩
 ·rintro f i ⟨at_, p⟩ ⟨hi, h1, h2, h3⟩
  dsimp only at h1 h2 h3
  obtain ⟨x, hx⟩ := at_some (l := dn) (i := i) (by omega)
  have hx1 := hp x (List.mem_of_getElem? hx)
  left
  refine ⟨(wi64 (Int.tdiv at_ x), p.set i (Int.tmod at_ x)), ?_, hm f i at_ x p (ci_at hx) (by omega) (by omega) h2⟩
  subst h1
  have e1 : Int.tdiv ((a / prd (dn.drop (i + 1)) : Nat) : Int) (x : Int) = ((a / prd (dn.drop i) : Nat) : Int) := by
   rw [← Int.ofNat_tdiv, Nat.div_div_eq_div_mul, drop_at hx, prd, Nat.mul_comm]
  have e2 : Int.tmod ((a / prd (dn.drop (i + 1)) : Nat) : Int) (x : Int) = (((a / prd (dn.drop (i + 1))) % x : Nat) : Int) := (Int.ofNat_tmod _ _).symm
  refine ⟨by omega, ?_, by simp [h2], ?_⟩
  ·dsimp only; rw [e1]; exact wiN (Nat.lt_of_le_of_lt (Nat.div_le_self _ _) ha)
  ·dsimp only; rw [set_drop (by omega), h3, e2, drop_at (pt_at hx)]; rfl
 ·rintro f ⟨at_, p⟩ ⟨_, h1, h2, h3⟩
  exact hfin f at_ p (by simpa using h3)
theorem ref12_Point {d : List Int} {dn : List Nat} {a : Nat} (h : Shp d dn) (ha : a < 4611686018427387904) : m_ref12_Point d a = some (ci (pt dn a)) := by
 have hl := h.len; have hp := h.le
 obtain rfl := h.eq
 unfold m_ref12_Point
 rw [show lmake (0 : Int) ((ci dn).length : Int) ((ci dn).length : Int) = some (List.replicate dn.length 0) by rw [ci_len]; exact lmake_ok 0 (by omega), Option.bind_some, Option.bind_some, ci_len]
 rw [show wi64 ((dn.length : Int) - 1) = (dn.length : Int) - 1 from wr_i64 (p := (dn.length : Int) - 1) ⟨by omega, by omega⟩]
 refine point_loop (N := dn.length) h.pos (by omega) ha (by omega) (List.replicate dn.length 0) (by simp) (Nat.le_refl _) (m_ref12_Point_l1 (ci dn)) (fun f i at_ e p he h0 hi hpl => ?_) (fun f at_ p hpp => ?_)
 ·simp only [m_ref12_Point_l1, he, Option.bind_some, hpl]
  rw [if_pos (by simp), if_pos h0, if_pos (by omega), if_pos h0]
  rw [show wi64 ((i : Int) - 1) = (i : Int) - 1 from wr_i64 (p := (i : Int) - 1) ⟨by omega, by omega⟩]; rfl
 ·simp only [m_ref12_Point_l1]
  rw [if_neg (by decide), hpp]; simp
structure TeR (t : GTensor) : Prop where
 ty : TyR t.Type_
 vals : ∀ v ∈ t.Vals, VaR v
def teErr (t : GTensor) : Int :=
 if tyB t.Type_ = true then (if shErr t.Dims = 0 then (if t.Vals.length = prd (t.Dims.map Int.toNat) ∧ t.Vals.all (fun v => okV t.Type_ v) = true then 0 else 1) else shErr t.Dims) else 10
structure Ten (t : GTensor) (dn : List Nat) : Prop where
 ty : tyB t.Type_ = true
 shp : Shp t.Dims dn
 len : t.Vals.length = prd dn
 ok : ∀ v ∈ t.Vals, okV t.Type_ v = true
theorem Ten.of {t : GTensor} (h : teErr t = 0) : ∃ dn, Ten t dn := by
 unfold teErr at h
 split at h
 ·rename_i h1
  split at h
  ·rename_i h2
   split at h
   ·rename_i h3
    obtain ⟨dn, hs⟩ := Shp.of h2
    have h4 := h3.1
    rw [hs.eq, ci_nat] at h4
    exact ⟨dn, h1, hs, h4, fun v hv => List.all_eq_true.1 h3.2 v hv⟩
   ·cases h
  ·contradiction
 ·cases h
theorem Ten.err {t : GTensor} {dn : List Nat} (h : Ten t dn) : teErr t = 0 := by
 unfold teErr
 rw [if_pos h.ty, if_pos h.shp.err, if_pos ⟨by rw [h.shp.eq, ci_nat]; exact h.len, List.all_eq_true.2 h.ok⟩]
theorem val_loop {t : GTensor} (hv : ∀ v ∈ t.Vals, VaR v) (hl : t.Vals.length < 4611686018427387904) (m : Nat → Int → Option Int)
  (hm : ∀ f i v, lat t.Vals i = some v → v ∈ t.Vals → i < (t.Vals.length : Int) → m (f + 1) i = if (!okV t.Type_ v) = true then some 1 else m f (wi64 (i + 1)))
  (hz : ∀ f, m (f + 1) (t.Vals.length : Int) = some 0) : m fu 0 = some (if t.Vals.all (fun v => okV t.Type_ v) = true then 0 else 1) := by
 refine loop_eq (L := fun f (_ : Unit) i => m f i) (n := t.Vals.length) hl (fun i _ => ∀ v ∈ t.Vals.take i, okV t.Type_ v = true) ?_ ?_ () (by simp)
 ·rintro f i - hi hI
  obtain ⟨v, hv'⟩ := at_some hi
  rw [hm f _ v (lat_at hv') (List.mem_of_getElem? hv') (by omega)]
  cases ho : okV t.Type_ v
  ·right
   rw [if_pos (by rfl), if_neg]
   intro ha
   have := List.all_eq_true.1 ha v (List.mem_of_getElem? hv')
   rw [ho] at this; cases this
  ·left
   refine ⟨(), fun y hy => ?_, by rw [if_neg (by simp), wis (by omega)]⟩
   rw [take_succ' hv'] at hy
   rcases List.mem_append.1 hy with h | h
   ·exact hI y h
   ·rw [List.mem_singleton.1 h]; exact ho
 ·rintro f - hI
  rw [List.take_length] at hI
  rw [hz, if_pos (List.all_eq_true.2 hI)]
theorem tensor_Validate {t : GTensor} (hr : TeR t) (h1 : t.Dims.length < 4611686018427387904) (h2 : t.Vals.length < 4611686018427387904) : m_tensor_Validate t = some (teErr t) := by
 unfold m_tensor_Validate teErr
 rw [value_ValidateType, Option.bind_some]
 cases ht : tyB t.Type_
 ·simp
 simp only [if_true, decide_true, Bool.not_true, Bool.false_eq_true, if_false]
 rw [shape_Validate _ h1, Option.bind_some]
 by_cases hs : shErr t.Dims = 0
 ·obtain ⟨dn, hS⟩ := Shp.of hs
  rw [if_neg (by simp [hs]), if_pos hs, hS.size, Option.bind_some, hS.eq, ci_nat]
  by_cases hl : t.Vals.length = prd dn
  ·rw [if_neg (by simp [hl]), val_loop hr.vals h2 (m_tensor_Validate_l1 t) (fun f i v hi hm hlt => ?_) (fun f => ?_)]
   ·by_cases ha : t.Vals.all (fun v => okV t.Type_ v) = true
    ·rw [if_pos ha, if_pos ⟨hl, ha⟩]
    ·rw [if_neg ha, if_neg fun h => ha h.2]
   ·rw [m_tensor_Validate_l1, hi, if_pos (by simpa using hlt), Option.bind_some, value_Valid (hr.vals v hm), ht]; rfl
   ·rw [m_tensor_Validate_l1, if_neg (by simp)]
  ·rw [if_pos (by simpa using fun h => hl (by omega)), if_neg fun h => hl h.1]
 ·rw [if_pos (by simp [hs]), if_neg hs]
theorem ref12_Validate {t : GTensor} (hr : TeR t) (h1 : t.Dims.length < 4611686018427387904) (h2 : t.Vals.length < 4611686018427387904) : m_ref12_Validate t = some (teErr t) := by
 unfold m_ref12_Validate teErr
 rw [base_Type, Option.bind_some]
 cases ht : tyB t.Type_
 ·simp
 simp only [if_true, decide_true, Bool.not_true, Bool.false_eq_true, if_false]
 rw [ref12_Shape _ h1, Option.bind_some]
 by_cases hs : shErr t.Dims = 0
 ·obtain ⟨dn, hS⟩ := Shp.of hs
  have hb := hS.le; have hlen := hS.len
  rw [if_neg (by simp [hs]), if_pos hs, hS.eq, ref12_Size hS.pos (by omega) (by omega), Option.bind_some, ci_nat]
  by_cases hl : t.Vals.length = prd dn
  ·rw [if_neg (by simp [hl]), val_loop hr.vals h2 (m_ref12_Validate_l1 t) (fun f i v hi hm hlt => ?_) (fun f => ?_)]
   ·by_cases ha : t.Vals.all (fun v => okV t.Type_ v) = true
    ·rw [if_pos ha, if_pos ⟨hl, ha⟩]
    ·rw [if_neg ha, if_neg fun h => ha h.2]
   ·rw [m_ref12_Validate_l1, hi, if_pos (by simpa using hlt), Option.bind_some, base_Val ht (hr.vals v hm)]; rfl
   ·rw [m_ref12_Validate_l1, if_neg (by simp)]
  ·rw [if_pos (by simpa using fun h => hl (by omega)), if_neg fun h => hl h.1]
 ·rw [if_pos (by simp [hs]), if_neg hs]
end Go.Proofs.YtlakfanockhngaaGreatDoor
