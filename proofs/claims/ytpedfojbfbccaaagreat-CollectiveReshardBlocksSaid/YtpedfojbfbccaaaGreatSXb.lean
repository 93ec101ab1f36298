import Derived.Test.YtpedfojbfbccaaaGreatSTj
namespace Go.Proofs.YtpedfojbfbccaaaGreat
open Go Go.RowKit Go.Vc
set_option linter.unusedVariables false
set_option linter.unusedSimpArgs false
theorem ex53b : m_law53_examples = some true := by kernel_rfl
theorem pt_mod {d : List Nat} {a b : Nat} (h : Pos d) : pt d a = pt d b ↔ a % prd d = b % prd d := by
 constructor
 ·intro e; rw [← off_pt_mod d a h, ← off_pt_mod d b h, e]
 ·intro e
  have h1 := pt_add d (a % prd d) (a / prd d) h
  have h2 := pt_add d (b % prd d) (b / prd d) h
  rw [Nat.mul_comm, Nat.mod_add_div] at h1 h2
  rw [h1, h2, e]
def cT (t0 t : GTensor) : Int := if t.Type_ = t0.Type_ then (if t.Dims = t0.Dims then 0 else 15) else 10
def chErr (m : GMesh) (l : List GTensor) : Int :=
 if meB m.Dims = true then
  (if l.length = prd (m.Dims.map Int.toNat) then
   (if firstErr teErr l = 0 then (match l with | [] => 0 | t0 :: r => firstErr (cT t0) r) else firstErr teErr l)
  else 1)
 else 23
theorem coll_check {m : GMesh} {l : List GTensor} (hl : TeL l) : m_collective_check m l = some (chErr m l) := by
 unfold m_collective_check chErr
 rw [mesh_Validate, Option.bind_some]
 by_cases hb : meB m.Dims = true
 rotate_left
 ·rw [if_neg hb, if_pos (by simp), if_neg hb]
 obtain ⟨dn, hm⟩ := Msh.of hb
 rw [if_pos hb, if_neg (by simp), mesh_Devices, Option.bind_some, if_pos hb, if_pos hb]
 by_cases hn : l.length = prd (m.Dims.map Int.toNat)
 rotate_left
 ·rw [if_pos (by simp; omega), if_neg hn]
 rw [if_neg (by simp; omega), if_pos hn]
 rw [hm.eq, ci_nat] at hn
 have hle := hm.le
 have hpos := prd_pos hm.pos
 rcases l with _ | ⟨t0, r⟩
 ·simp at hn; omega
 have e1 := err_loop (l := t0 :: r) teErr (fun e => some e) (m_collective_check_j1 (t0 :: r)) 0 (by omega) (by omega) (m_collective_check_l2 (t0 :: r)) (fun f k x hx _ => by
  have hlt := (List.getElem?_eq_some_iff.1 hx).1
  have hmm := List.mem_of_getElem? hx
  simp only [m_collective_check_l2]
  rw [if_pos (lt_dec hlt), lat_at hx, Option.bind_some, tensor_Validate (hl.r x hmm) (hl.d x hmm) (hl.v x hmm), Option.bind_some, wis (by omega)]
  by_cases h : teErr x = 0
  ·rw [if_neg (by simp [h]), if_pos h]
  ·rw [if_pos (by simp [h]), if_neg h]) (fun f => by simp only [m_collective_check_l2]; rw [if_neg (by simp)])
 rw [List.drop_zero] at e1
 replace e1 : m_collective_check_l2 (t0 :: r) fu 0 = _ := e1
 rw [e1]
 by_cases hT : firstErr teErr (t0 :: r) = 0
 rotate_left
 ·rw [if_neg hT, if_neg hT]
 rw [if_pos hT, if_pos hT, m_collective_check_j1, lfrom1, Option.bind_some]
 simp only [List.length_cons] at hn
 have e2 := err_loop (l := r) (cT t0) (fun e => some e) (some 0) 0 (by omega) (by omega) (m_collective_check_l1 r (t0 :: r)) (fun f k x hx _ => by
  have hlt := (List.getElem?_eq_some_iff.1 hx).1
  have hmm := List.mem_of_getElem? hx
  simp only [m_collective_check_l1]
  rw [if_pos (lt_dec hlt), lat_at hx, Option.bind_some, show lat (t0 :: r) 0 = some t0 from rfl, Option.bind_some, Option.bind_some, shape_Same _ _ (hl.d x (by simp [hmm])), Option.bind_some, wis (by omega)]
  rw [show ((decide (x.Type_.Kind = t0.Type_.Kind)) && (decide (x.Type_.Bits = t0.Type_.Bits)) && (decide (x.Type_.Frac = t0.Type_.Frac)) && (decide (x.Type_.Round = t0.Type_.Round)) && (decide (x.Type_.Over = t0.Type_.Over))) = tyE x.Type_ t0.Type_ from rfl, tyE_dec]
  unfold cT
  by_cases h1 : x.Type_ = t0.Type_ <;> by_cases h2 : x.Dims = t0.Dims <;> simp [h1, h2]) (fun f => by simp only [m_collective_check_l1]; rw [if_neg (by simp)])
 rw [List.drop_zero] at e2
 replace e2 : m_collective_check_l1 r (t0 :: r) fu 0 = _ := e2
 rw [e2]
 by_cases h : firstErr (cT t0) r = 0
 ·rw [if_pos h]; exact congrArg some h.symm
 ·rw [if_neg h]
structure Ok (m : GMesh) (l : List GTensor) (md : List Nat) (ty : GType) (dn : List Nat) : Prop where
 m : Msh m.Dims md
 len : l.length = prd md
 ten : ∀ t ∈ l, Ten t dn ∧ t.Type_ = ty
theorem Ok.of {m : GMesh} {l : List GTensor} (h : chErr m l = 0) : ∃ md ty dn, Ok m l md ty dn := by
 unfold chErr at h
 split at h
 rotate_left
 ·cases h
 rename_i hb
 split at h
 rotate_left
 ·cases h
 rename_i hn
 split at h
 rotate_left
 ·contradiction
 rename_i hT
 obtain ⟨md, hm⟩ := Msh.of hb
 rw [hm.eq, ci_nat] at hn
 have hp := prd_pos hm.pos
 rcases l with _ | ⟨t0, r⟩
 ·simp at hn; omega
 simp only at h
 obtain ⟨dn, ht0⟩ := Ten.of (firstErr0 hT t0 (by simp))
 refine ⟨md, t0.Type_, dn, hm, hn, fun t ht => ?_⟩
 rcases List.mem_cons.1 ht with rfl | hr
 ·exact ⟨ht0, rfl⟩
 ·obtain ⟨dn', ht'⟩ := Ten.of (firstErr0 hT t ht)
  have := firstErr0 h t hr
  unfold cT at this
  split at this
  ·rename_i hty
   split at this
   ·rename_i hd
    have e : dn' = dn := by
     have h1 := ht'.shp.eq
     have h2 := ht0.shp.eq
     rw [hd, h2] at h1
     exact (ci_inj h1).symm
    exact ⟨e ▸ ht', hty⟩
   ·cases this
  ·cases this
end Go.Proofs.YtpedfojbfbccaaaGreat
