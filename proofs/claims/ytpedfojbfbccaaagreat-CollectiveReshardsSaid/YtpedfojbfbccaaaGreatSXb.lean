import Derived.Test.YtpedfojbfbccaaaGreatSTj
namespace Go.Proofs.YtpedfojbfbccaaaGreat
open Go Go.RowKit Go.Vc
set_option linter.unusedVariables false
set_option linter.unusedSimpArgs false
theorem ex53b : m_law53_examples = some true := by kernel_rfl
theorem same_loop {P Q : List Nat} {i : Nat} (hl : P.length = Q.length) (hP : P.length < 1000) (out : List Int) (d : Int) (self : List Int → Int → Option (List Int)) :
  m_ref51_Group_l2 (ci P, true) (i : Int) (ci Q, true) out d self fu true 0 = m_ref51_Group_j2 out d self (decide (P.set i 0 = Q.set i 0)) := by
 refine loop_eq (L := fun f s k => m_ref51_Group_l2 (ci P, true) (i : Int) (ci Q, true) out d self f s k) (n := P.length) (by omega) (fun k s => s = true ↔ ∀ j : Nat, j < k → j ≠ i → P[j]? = Q[j]?) ?_ ?_ true (by simp)
 ·rintro f k s hk hI
  obtain ⟨x, hx⟩ := at_some hk
  obtain ⟨y, hy⟩ := at_some (l := Q) (i := k) (by omega)
  left
  refine ⟨s && ((decide ((k : Int) = (i : Int))) || (decide ((x : Int) = (y : Int)))), ?_, ?_⟩
  ·rw [Bool.and_eq_true, hI]
   simp only [Bool.or_eq_true, decide_eq_true_eq]
   constructor
   ·rintro ⟨h1, h2⟩ j hj hji
    rcases Nat.lt_or_ge j k with h | h
    ·exact h1 j h hji
    ·obtain rfl : j = k := by omega
     rcases h2 with h2 | h2
     ·omega
     ·rw [hx, hy]; congr 1; omega
   ·intro h
    refine ⟨fun j hj => h j (by omega), ?_⟩
    by_cases e : k = i
    ·left; omega
    ·right
     have := h k (by omega) e
     rw [hx, hy] at this
     have := Option.some.inj this; omega
  ·simp only [m_ref51_Group_l2]
   rw [ci_len, if_pos (lt_dec hk), ci_at hx, ci_at hy, wis (by omega)]
   by_cases e : (k : Int) = (i : Int)
   ·simp [gd, e]
   ·cases s <;> simp [gd, e]
 ·rintro f s hI
  simp only [m_ref51_Group_l2]
  rw [ci_len, if_neg (by simp)]
  congr 1
  have : s = true ↔ P.set i 0 = Q.set i 0 := by
   rw [hI]
   constructor
   ·intro h
    refine list_ext' (by simp [hl]) fun j hj => ?_
    rw [List.length_set] at hj
    by_cases e : j = i
    ·subst e; rw [List.getElem?_set_self (by omega), List.getElem?_set_self (by omega)]
    ·rw [List.getElem?_set_ne (fun h => e h.symm), List.getElem?_set_ne (fun h => e h.symm)]; exact h j hj e
   ·intro h j hj hji
    have := congrArg (·[j]?) h
    simpa [List.getElem?_set_ne (fun h => hji h.symm)] using this
  cases s
  ·rw [decide_eq_false fun h => by have := this.2 h; cases this]
  ·rw [decide_eq_true (this.1 rfl)]
theorem pt_inj {d : List Nat} {a b : Nat} (h : Pos d) (ha : a < prd d) (hb : b < prd d) (e : pt d a = pt d b) : a = b := by
 rw [← off_pt h ha, ← off_pt h hb, e]
theorem pt_mod {d : List Nat} {a b : Nat} (h : Pos d) : pt d a = pt d b ↔ a % prd d = b % prd d := by
 constructor
 ·intro e; rw [← off_pt_mod d a h, ← off_pt_mod d b h, e]
 ·intro e
  have h1 := pt_add d (a % prd d) (a / prd d) h
  have h2 := pt_add d (b % prd d) (b / prd d) h
  rw [Nat.mul_comm, Nat.mod_add_div] at h1 h2
  rw [h1, h2, e]
theorem ax_same {dn d1 d2 : List Nat} {i m a b : Nat} (h : Ax dn i d1 m d2) (hp : Pos dn) (ha : a < prd dn) (hb : b < prd dn) : (pt dn a).set i 0 = (pt dn b).set i 0 ↔ a / (m * prd d2) = b / (m * prd d2) ∧ a % prd d2 = b % prd d2 := by
 obtain ⟨p1, pm, p2⟩ := h.pos hp
 rw [h.prd] at ha hb
 have e : ∀ a, (pt dn a).set i 0 = pt d1 (a / (m * prd d2)) ++ 0 :: pt d2 a := fun a => by
  rw [h.pt, List.set_append_right _ _ (by rw [pt_len, h.len]; exact Nat.le_refl _), pt_len, h.len]; simp
 rw [e, e]
 constructor
 ·intro he
  have := List.append_inj he (by rw [pt_len, pt_len])
  refine ⟨pt_inj p1 (num_split ha).1 (num_split hb).1 this.1, ?_⟩
  have h2 := this.2
  simp only [List.cons.injEq, true_and] at h2
  exact (pt_mod p2).1 h2
 ·rintro ⟨h1, h2⟩
  rw [h1, (pt_mod p2).2 h2]
theorem ref51_Group {m : GMesh} {dn : List Nat} {i x a : Nat} (h : Msh m.Dims dn) (ha : a < prd dn) (hx : dn[i]? = some x) : m_ref51_Group m (i : Int) (a : Int) = some (ci (grp (prd (dn.take i)) x (prd (dn.drop (i + 1))) a)) := by
 have hl := h.len; have hle := h.le
 have hi := (List.getElem?_eq_some_iff.1 hx).1
 have hax := Ax.of hx
 have hpr := hax.prd
 obtain ⟨p1, pm, p2⟩ := hax.pos h.pos
 have hI := prd_pos p2
 have hx16 := le_prd h.pos (List.mem_of_getElem? hx)
 have ha2 : a < prd (dn.take i) * x * prd (dn.drop (i + 1)) := by rw [← hpr]; exact ha
 obtain ⟨q1, q2, q3, q4⟩ := num_split ha2
 unfold m_ref51_Group
 rw [ref51_Coordinates h ha, Option.bind_some, if_neg (by simp; rw [h.eq, ci_len]; omega)]
 have hF : ∀ c, c < x → (a / (x * prd (dn.drop (i + 1))) * x + c) * prd (dn.drop (i + 1)) + a % prd (dn.drop (i + 1)) < prd dn := fun c hc => by
  have e1 : (a / (x * prd (dn.drop (i + 1))) + 1) * x ≤ prd (dn.take i) * x := Nat.mul_le_mul_right _ q1
  have e2 : (a / (x * prd (dn.drop (i + 1))) * x + c + 1) * prd (dn.drop (i + 1)) ≤ prd (dn.take i) * x * prd (dn.drop (i + 1)) := Nat.mul_le_mul_right _ (by rw [Nat.add_mul] at e1; omega)
  rw [Nat.add_mul, Nat.one_mul] at e2
  rw [hpr]; omega
 have hmono : ∀ c c', c < c' → (a / (x * prd (dn.drop (i + 1))) * x + c) * prd (dn.drop (i + 1)) + a % prd (dn.drop (i + 1)) < (a / (x * prd (dn.drop (i + 1))) * x + c') * prd (dn.drop (i + 1)) + a % prd (dn.drop (i + 1)) := fun c c' hc => by
  have := Nat.mul_lt_mul_of_pos_right (show a / (x * prd (dn.drop (i + 1))) * x + c < a / (x * prd (dn.drop (i + 1))) * x + c' by omega) hI
  omega
 have hcl : ∀ d c, c < x → d = (a / (x * prd (dn.drop (i + 1))) * x + c) * prd (dn.drop (i + 1)) + a % prd (dn.drop (i + 1)) → d / (x * prd (dn.drop (i + 1))) = a / (x * prd (dn.drop (i + 1))) ∧ d % prd (dn.drop (i + 1)) = a % prd (dn.drop (i + 1)) := fun d c hc he => by
  have hr := Nat.mod_lt a hI
  constructor
  ·rw [he, Nat.mul_comm x, ← Nat.div_div_eq_div_mul, Nat.mul_comm _ (prd (dn.drop (i + 1))), Nat.mul_add_div hI, Nat.div_eq_of_lt hr, Nat.add_zero, Nat.mul_comm _ x, Nat.mul_add_div (by omega), Nat.div_eq_of_lt hc, Nat.add_zero]
  ·rw [he, Nat.mul_comm _ (prd (dn.drop (i + 1))), Nat.mul_add_mod, Nat.mod_mod]
 refine loop_eq (L := fun f s d => m_ref51_Group_l1 m (ci (pt dn a), true) (i : Int) f s d) (n := prd dn) (by omega)
  (fun d s => ∃ k, k ≤ x ∧ s = ci ((List.range k).map fun c => (a / (x * prd (dn.drop (i + 1))) * x + c) * prd (dn.drop (i + 1)) + a % prd (dn.drop (i + 1))) ∧ (∀ c, c < k → (a / (x * prd (dn.drop (i + 1))) * x + c) * prd (dn.drop (i + 1)) + a % prd (dn.drop (i + 1)) < d) ∧ (k < x → d ≤ (a / (x * prd (dn.drop (i + 1))) * x + k) * prd (dn.drop (i + 1)) + a % prd (dn.drop (i + 1)))) ?_ ?_ [] ⟨0, by omega, by simp [ci], by simp, by simp⟩
 ·rintro f d s hd ⟨k, hk, rfl, h1, h2⟩
  left
  simp only [m_ref51_Group_l1]
  rw [ref51_Devices, Option.bind_some, if_pos h.b, h.eq, ci_nat, if_pos (lt_dec hd), ref51_Coordinates h hd, Option.bind_some, same_loop (by rw [pt_len, pt_len]) (by rw [pt_len]; omega), m_ref51_Group_j2]
  simp only [m_ref51_Group_j1]
  rw [wis (by omega)]
  by_cases hc : (pt dn a).set i 0 = (pt dn d).set i 0
  ·rw [decide_eq_true hc, if_pos rfl, lapp_ok (by rw [ci_len]; simp; omega), Option.bind_some]
   have hs := (ax_same hax h.pos ha hd).1 hc
   have hd2 : d < prd (dn.take i) * x * prd (dn.drop (i + 1)) := by rw [← hpr]; exact hd
   obtain ⟨r1, r2, r3, r4⟩ := num_split hd2
   rw [← hs.1, ← hs.2] at r4
   have hck : (d / prd (dn.drop (i + 1))) % x = k := by
    rcases Nat.lt_trichotomy ((d / prd (dn.drop (i + 1))) % x) k with hlt | heq | hgt
    ·have := h1 _ hlt; omega
    ·exact heq
    ·have h3 := h2 (by omega)
     have h4 := hmono _ _ hgt; omega
   have hkx : k < x := by rw [← hck]; exact r2
   refine ⟨_, ⟨k + 1, by omega, ?_, fun c hcc => ?_, fun hkk => ?_⟩, rfl⟩
   ·rw [List.range_succ, List.map_append, ci_app]
    congr 1
    rw [hck] at r4
    simp only [ci, List.map_cons, List.map_nil]
    rw [← r4]
   ·rcases Nat.lt_or_ge c k with h | h
    ·have := h1 c h; omega
    ·obtain rfl : c = k := by omega
     rw [hck] at r4; omega
   ·have h3 := hmono k (k + 1) (by omega)
    rw [hck] at r4; omega
  ·rw [decide_eq_false hc, if_neg (by simp)]
   refine ⟨_, ⟨k, hk, rfl, fun c hcc => by have := h1 c hcc; omega, fun hkk => ?_⟩, rfl⟩
   have h3 := h2 hkk
   rcases Nat.lt_or_ge d ((a / (x * prd (dn.drop (i + 1))) * x + k) * prd (dn.drop (i + 1)) + a % prd (dn.drop (i + 1))) with hdl | hdl
   ·omega
   ·exfalso
    apply hc
    refine (ax_same hax h.pos ha hd).2 ?_
    have := hcl d k hkk (by omega)
    exact ⟨this.1.symm, this.2.symm⟩
 ·rintro f s ⟨k, hk, rfl, h1, h2⟩
  simp only [m_ref51_Group_l1]
  rw [ref51_Devices, Option.bind_some, if_pos h.b, h.eq, ci_nat, if_neg (by simp)]
  have : k = x := by
   rcases Nat.lt_or_ge k x with hlt | hge
   ·have := h2 hlt; have := hF k hlt; omega
   ·omega
  subst this; rfl
def cT (t0 t : GTensor) : Int := if t.Type_ = t0.Type_ then (if t.Dims = t0.Dims then 0 else 15) else 10
def chErr (m : GMesh) (l : List GTensor) : Int :=
 if meB m.Dims = true then
  (if l.length = prd (m.Dims.map Int.toNat) then
   (if firstErr teErr l = 0 then (match l with | [] => 0 | t0 :: r => firstErr (cT t0) r) else firstErr teErr l)
  else 1)
 else 23
theorem coll_check {m : GMesh} {l : List GTensor} (hl : TeL l) : m_collective_check m l = some (chErr m l) := by
 unfold m_collective_check chErr
 rw [mesh_Validate, Option.bind_some]
 by_cases hb : meB m.Dims = true
 rotate_left
 ·rw [if_neg hb, if_pos (by simp), if_neg hb]
 obtain ⟨dn, hm⟩ := Msh.of hb
 rw [if_pos hb, if_neg (by simp), mesh_Devices, Option.bind_some, if_pos hb, if_pos hb]
 by_cases hn : l.length = prd (m.Dims.map Int.toNat)
 rotate_left
 ·rw [if_pos (by simp; omega), if_neg hn]
 rw [if_neg (by simp; omega), if_pos hn]
 rw [hm.eq, ci_nat] at hn
 have hle := hm.le
 have hpos := prd_pos hm.pos
 rcases l with _ | ⟨t0, r⟩
 ·simp at hn; omega
 have e1 := err_loop (l := t0 :: r) teErr (fun e => some e) (m_collective_check_j1 (t0 :: r)) 0 (by omega) (by omega) (m_collective_check_l2 (t0 :: r)) (fun f k x hx _ => by
  have hlt := (List.getElem?_eq_some_iff.1 hx).1
  have hmm := List.mem_of_getElem? hx
  simp only [m_collective_check_l2]
  rw [if_pos (lt_dec hlt), lat_at hx, Option.bind_some, tensor_Validate (hl.r x hmm) (hl.d x hmm) (hl.v x hmm), Option.bind_some, wis (by omega)]
  by_cases h : teErr x = 0
  ·rw [if_neg (by simp [h]), if_pos h]
  ·rw [if_pos (by simp [h]), if_neg h]) (fun f => by simp only [m_collective_check_l2]; rw [if_neg (by simp)])
 rw [List.drop_zero] at e1
 replace e1 : m_collective_check_l2 (t0 :: r) fu 0 = _ := e1
 rw [e1]
 by_cases hT : firstErr teErr (t0 :: r) = 0
 rotate_left
 ·rw [if_neg hT, if_neg hT]
 rw [if_pos hT, if_pos hT, m_collective_check_j1, lfrom1, Option.bind_some]
 simp only [List.length_cons] at hn
 have e2 := err_loop (l := r) (cT t0) (fun e => some e) (some 0) 0 (by omega) (by omega) (m_collective_check_l1 r (t0 :: r)) (fun f k x hx _ => by
  have hlt := (List.getElem?_eq_some_iff.1 hx).1
  have hmm := List.mem_of_getElem? hx
  simp only [m_collective_check_l1]
  rw [if_pos (lt_dec hlt), lat_at hx, Option.bind_some, show lat (t0 :: r) 0 = some t0 from rfl, Option.bind_some, Option.bind_some, shape_Same _ _ (hl.d x (by simp [hmm])), Option.bind_some, wis (by omega)]
  rw [show ((decide (x.Type_.Kind = t0.Type_.Kind)) && (decide (x.Type_.Bits = t0.Type_.Bits)) && (decide (x.Type_.Frac = t0.Type_.Frac)) && (decide (x.Type_.Round = t0.Type_.Round)) && (decide (x.Type_.Over = t0.Type_.Over))) = tyE x.Type_ t0.Type_ from rfl, tyE_dec]
  unfold cT
  by_cases h1 : x.Type_ = t0.Type_ <;> by_cases h2 : x.Dims = t0.Dims <;> simp [h1, h2]) (fun f => by simp only [m_collective_check_l1]; rw [if_neg (by simp)])
 rw [List.drop_zero] at e2
 replace e2 : m_collective_check_l1 r (t0 :: r) fu 0 = _ := e2
 rw [e2]
 by_cases h : firstErr (cT t0) r = 0
 ·rw [if_pos h]; exact congrArg some h.symm
 ·rw [if_neg h]
theorem ref53_Check {m : GMesh} {l : List GTensor} (hl : TeL l) : m_ref53_Check m l = some (chErr m l) := by
 unfold m_ref53_Check chErr
 rw [ref51_Validate, Option.bind_some]
 by_cases hb : meB m.Dims = true
 rotate_left
 ·rw [if_neg hb, if_pos (by simp), if_neg hb]
 obtain ⟨dn, hm⟩ := Msh.of hb
 rw [if_pos hb, if_neg (by simp), ref51_Devices, Option.bind_some, if_pos hb, if_pos hb]
 by_cases hn : l.length = prd (m.Dims.map Int.toNat)
 rotate_left
 ·rw [if_pos (by simp; omega), if_neg hn]
 rw [if_neg (by simp; omega), if_pos hn]
 rw [hm.eq, ci_nat] at hn
 have hle := hm.le
 have hpos := prd_pos hm.pos
 rcases l with _ | ⟨t0, r⟩
 ·simp at hn; omega
 have e1 := err_loop (l := t0 :: r) teErr (fun e => some e) (m_ref53_Check_j1 (t0 :: r)) 0 (by omega) (by omega) (m_ref53_Check_l2 (t0 :: r)) (fun f k x hx _ => by
  have hlt := (List.getElem?_eq_some_iff.1 hx).1
  have hmm := List.mem_of_getElem? hx
  simp only [m_ref53_Check_l2]
  rw [if_pos (lt_dec hlt), lat_at hx, Option.bind_some, ref12_Validate (hl.r x hmm) (hl.d x hmm) (hl.v x hmm), Option.bind_some, wis (by omega)]
  by_cases h : teErr x = 0
  ·rw [if_neg (by simp [h]), if_pos h]
  ·rw [if_pos (by simp [h]), if_neg h]) (fun f => by simp only [m_ref53_Check_l2]; rw [if_neg (by simp)])
 rw [List.drop_zero] at e1
 replace e1 : m_ref53_Check_l2 (t0 :: r) fu 0 = _ := e1
 rw [e1]
 by_cases hT : firstErr teErr (t0 :: r) = 0
 rotate_left
 ·rw [if_neg hT, if_neg hT]
 rw [if_pos hT, if_pos hT, m_ref53_Check_j1]
 have e2 := err_loop (l := t0 :: r) (cT t0) (fun e => some e) (some 0) 1 (by simp) (by omega) (m_ref53_Check_l1 (t0 :: r)) (fun f k x hx _ => by
  have hlt := (List.getElem?_eq_some_iff.1 hx).1
  have hmm := List.mem_of_getElem? hx
  simp only [m_ref53_Check_l1]
  rw [if_pos (lt_dec hlt), lat_at hx, Option.bind_some, show lat (t0 :: r) 0 = some t0 from rfl, Option.bind_some, Option.bind_some, Option.bind_some, base_Ints _ _ (hl.d x hmm), Option.bind_some, wis (by omega)]
  rw [show ((decide (x.Type_.Kind = t0.Type_.Kind)) && (decide (x.Type_.Bits = t0.Type_.Bits)) && (decide (x.Type_.Frac = t0.Type_.Frac)) && (decide (x.Type_.Round = t0.Type_.Round)) && (decide (x.Type_.Over = t0.Type_.Over))) = tyE x.Type_ t0.Type_ from rfl, tyE_dec]
  unfold cT
  by_cases h1 : x.Type_ = t0.Type_ <;> by_cases h2 : x.Dims = t0.Dims <;> simp [h1, h2]) (fun f => by simp only [m_ref53_Check_l1]; rw [if_neg (by simp)])
 rw [show (t0 :: r).drop 1 = r from rfl] at e2
 replace e2 : m_ref53_Check_l1 (t0 :: r) fu 1 = _ := e2
 rw [e2]
 by_cases h : firstErr (cT t0) r = 0
 ·rw [if_pos h]; exact congrArg some h.symm
 ·rw [if_neg h]
structure Ok (m : GMesh) (l : List GTensor) (md : List Nat) (ty : GType) (dn : List Nat) : Prop where
 m : Msh m.Dims md
 len : l.length = prd md
 ten : ∀ t ∈ l, Ten t dn ∧ t.Type_ = ty
theorem Ok.of {m : GMesh} {l : List GTensor} (h : chErr m l = 0) : ∃ md ty dn, Ok m l md ty dn := by
 unfold chErr at h
 split at h
 rotate_left
 ·cases h
 rename_i hb
 split at h
 rotate_left
 ·cases h
 rename_i hn
 split at h
 rotate_left
 ·contradiction
 rename_i hT
 obtain ⟨md, hm⟩ := Msh.of hb
 rw [hm.eq, ci_nat] at hn
 have hp := prd_pos hm.pos
 rcases l with _ | ⟨t0, r⟩
 ·simp at hn; omega
 simp only at h
 obtain ⟨dn, ht0⟩ := Ten.of (firstErr0 hT t0 (by simp))
 refine ⟨md, t0.Type_, dn, hm, hn, fun t ht => ?_⟩
 rcases List.mem_cons.1 ht with rfl | hr
 ·exact ⟨ht0, rfl⟩
 ·obtain ⟨dn', ht'⟩ := Ten.of (firstErr0 hT t ht)
  have := firstErr0 h t hr
  unfold cT at this
  split at this
  ·rename_i hty
   split at this
   ·rename_i hd
    have e : dn' = dn := by
     have h1 := ht'.shp.eq
     have h2 := ht0.shp.eq
     rw [hd, h2] at h1
     exact (ci_inj h1).symm
    exact ⟨e ▸ ht', hty⟩
   ·cases this
  ·cases this
end Go.Proofs.YtpedfojbfbccaaaGreat
