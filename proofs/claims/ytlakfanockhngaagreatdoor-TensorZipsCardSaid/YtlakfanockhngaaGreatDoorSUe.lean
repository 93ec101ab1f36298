/- Elementwise application of a function: the law TensorZips. Conditions: the ranges of Go's types. -/
import Derived.Test.YtlakfanockhngaaGreatDoorSUd
namespace Go.Proofs.YtlakfanockhngaaGreatDoor
open Go Go.RowKit Go.Vc
set_option linter.unusedVariables false
set_option linter.unusedSimpArgs false

/-! ### Results one after the other, until the first error -/
theorem first_ne {α : Type} (g : Nat → α × Int) (V : Nat) : (∀ n, n < V → (g n).2 = 0) ∨ ∃ N, N < V ∧ (g N).2 ≠ 0 ∧ ∀ n, n < N → (g n).2 = 0 := by
  induction V with
  | zero => left; intro n h; omega
  | succ V ih =>
    rcases ih with h | ⟨N, h1, h2, h3⟩
    · by_cases hv : (g V).2 = 0
      · left
        intro n hn
        rcases Nat.lt_or_ge n V with h' | h'
        · exact h n h'
        · obtain rfl : n = V := by omega
          exact hv
      · right; exact ⟨V, by omega, hv, h⟩
    · right; exact ⟨N, by omega, h2, h3⟩
def ranG {α : Type} (g : Nat → α × Int) (n : Nat) : List α := (List.range n).map fun k => (g k).1
theorem ranG_len {α : Type} (g : Nat → α × Int) (n : Nat) : (ranG g n).length = n := by simp [ranG]
theorem ranG_succ {α : Type} (g : Nat → α × Int) (n : Nat) : ranG g (n + 1) = ranG g n ++ [(g n).1] := by simp [ranG, List.range_succ]
/-! ### Zip -/
def pairE (a b : GTensor) : Int := if teErr a = 0 then (if teErr b = 0 then (if a.Type_ = b.Type_ then (if a.Dims = b.Dims then 0 else 15) else 10) else teErr b) else teErr a
def zG (op stop : Int) (a b : GTensor) (i : Nat) : GVal × Int := if (i : Int) = stop then (⟨1, 0⟩, 0) else (m_ref04_Apply op a.Type_ ((a.Vals[i]?).getD ⟨0, 0⟩) ((b.Vals[i]?).getD ⟨0, 0⟩)).getD (⟨0, 0⟩, 0)
def zR (op stop : Int) (a b : GTensor) (i : Nat) : GVal × Int := ((zG op stop a b i).1, if (zG op stop a b i).2 = 0 then (if okV a.Type_ (zG op stop a b i).1 = true then 0 else 1) else (zG op stop a b i).2)
theorem zG_ok {op stop : Int} {a b : GTensor} {i : Nat} {x y : GVal} (hx : a.Vals[i]? = some x) (hy : b.Vals[i]? = some y) (vx : VaR x) (vy : VaR y) : m_law12_apply a.Type_ op (decide ((i : Int) = stop)) x y = some (zG op stop a b i) ∧ ((zG op stop a b i).2 = 0 → VaR (zG op stop a b i).1) := by
  unfold m_law12_apply zG
  rw [hx, hy]
  simp only [Option.getD_some]
  by_cases h : (i : Int) = stop
  · rw [if_pos (by simpa using h), if_pos h]
    exact ⟨rfl, fun _ => ⟨⟨by decide, by decide⟩, ⟨by decide, by decide⟩⟩⟩
  · rw [if_neg (by simpa using h), if_neg h]
    obtain ⟨q, hq⟩ := Apply_some (op := op) (t := a.Type_) vx vy
    rw [hq, Option.bind_some]
    refine ⟨rfl, fun he => ?_⟩
    have he' : q.2 = 0 := he
    have := Apply_ok (q := q.1) vx vy (by rw [value_Apply vx vy, hq, ← he'])
    exact frVaR (frOK_of this.1 this.2)
theorem pairE0 {a b : GTensor} (h : pairE a b = 0) : ∃ dn, Ten a dn ∧ Ten b dn ∧ a.Type_ = b.Type_ ∧ a.Vals.length = b.Vals.length := by
  unfold pairE at h
  split at h
  · rename_i e1
    split at h
    · rename_i e2
      split at h
      · rename_i e3
        split at h
        · rename_i e4
          obtain ⟨dn, ha⟩ := Ten.of e1
          obtain ⟨dm, hb⟩ := Ten.of e2
          have e : dm = dn := by have := hb.shp.eq; rw [← e4, ha.shp.eq] at this; exact (ci_inj this).symm
          subst e
          exact ⟨dm, ha, hb, e3, by rw [ha.len, hb.len]⟩
        · cases h
      · cases h
    · contradiction
  · contradiction
theorem ref12_Pair {a b : GTensor} (ha : TeR a) (hb : TeR b) (h1 : a.Dims.length < 4611686018427387904) (h2 : a.Vals.length < 4611686018427387904) (h3 : b.Dims.length < 4611686018427387904) (h4 : b.Vals.length < 4611686018427387904) : m_ref12_Pair a b = some (pairE a b) := by
  unfold m_ref12_Pair pairE
  rw [ref12_Validate ha h1 h2, Option.bind_some]
  by_cases e1 : teErr a = 0
  rotate_left
  · rw [if_pos (by simp [e1]), if_neg e1]
  rw [if_neg (by simp [e1]), if_pos e1, ref12_Validate hb h3 h4, Option.bind_some]
  by_cases e2 : teErr b = 0
  rotate_left
  · rw [if_pos (by simp [e2]), if_neg e2]
  rw [if_neg (by simp [e2]), if_pos e2]
  rw [show ((decide (a.Type_.Kind = b.Type_.Kind)) && (decide (a.Type_.Bits = b.Type_.Bits)) && (decide (a.Type_.Frac = b.Type_.Frac)) && (decide (a.Type_.Round = b.Type_.Round)) && (decide (a.Type_.Over = b.Type_.Over))) = tyE a.Type_ b.Type_ from rfl, tyE_dec]
  by_cases e3 : a.Type_ = b.Type_
  rotate_left
  · rw [if_pos (by simp [e3]), if_neg e3]
  rw [if_neg (by simp [e3]), if_pos e3, base_Ints _ _ h1, Option.bind_some]
  by_cases e4 : a.Dims = b.Dims
  · rw [if_neg (by simp [e4]), if_pos e4]
  · rw [if_pos (by simp [e4]), if_neg e4]
theorem set_mid {α : Type} {p v : List α} {x y : α} {i : Nat} (hp : p.length = i) (hv : v[i]? = some x) : (p ++ v.drop i).set i y = p ++ [y] ++ v.drop (i + 1) := by
  rw [List.set_append_right _ _ (by omega), hp, drop_at hv]; simp
/-- What both give: the tensor, the number of calls, the error. -/
theorem zip_loops {a b : GTensor} {dn : List Nat} (ha : Ten a dn) (hb : Ten b dn) (ra : TeR a) (rb : TeR b) (ht : a.Type_ = b.Type_) (op stop : Int) : ∃ (u : GTensor) (e c : Int), (u = z0 ∨ u.Dims = a.Dims ∧ u.Vals.length = a.Vals.length) ∧
    m_tensor_Zip_s_l1 a b (fun x_1 x_2 s => m_law12_TensorZips_1_w x_1 x_2 s a op stop) fu 0 a 0 = some ((u, e), c) ∧
    m_law12_zip_l1 a b op stop fu 0 ⟨a.Type_, a.Dims, []⟩ = some (u, c, e) := by
  have hle := ha.shp.le
  have hal := ha.len
  have hbl : b.Vals.length = a.Vals.length := by rw [ha.len, hb.len]
  -- one round of each
  have stepP : ∀ (f i : Nat), i < a.Vals.length → m_tensor_Zip_s_l1 a b (fun x_1 x_2 s => m_law12_TensorZips_1_w x_1 x_2 s a op stop) (f + 1) (i : Int) ⟨a.Type_, a.Dims, ranG (zR op stop a b) i ++ a.Vals.drop i⟩ (i : Int) =
      if (zR op stop a b i).2 = 0 then m_tensor_Zip_s_l1 a b (fun x_1 x_2 s => m_law12_TensorZips_1_w x_1 x_2 s a op stop) f ((i + 1 : Nat) : Int) ⟨a.Type_, a.Dims, ranG (zR op stop a b) (i + 1) ++ a.Vals.drop (i + 1)⟩ ((i + 1 : Nat) : Int) else some ((z0, (zR op stop a b i).2), ((i + 1 : Nat) : Int)) := fun f i hi => by
    obtain ⟨x, hx⟩ := at_some hi
    obtain ⟨y, hy⟩ := at_some (l := b.Vals) (i := i) (by omega)
    obtain ⟨g1, g2⟩ := zG_ok (op := op) (stop := stop) hx hy (ra.vals x (List.mem_of_getElem? hx)) (rb.vals y (List.mem_of_getElem? hy))
    simp only [m_tensor_Zip_s_l1]
    rw [if_pos (lt_dec hi), lat_at hx, Option.bind_some, lat_at hy, Option.bind_some]
    simp only [m_law12_TensorZips_1_w]
    rw [wis (by omega), wid (by omega), g1, Option.bind_some]
    simp only [Option.bind_some]
    by_cases he : (zG op stop a b i).2 = 0
    · have e2 : (zR op stop a b i).2 = if okV a.Type_ (zG op stop a b i).1 = true then 0 else 1 := by unfold zR; rw [if_pos he]
      rw [if_neg (by simp [he]), value_Valid (g2 he), Option.bind_some, ha.ty, Bool.true_and, e2]
      by_cases ho : okV a.Type_ (zG op stop a b i).1 = true
      · rw [if_neg (by simp [ho]), if_pos ho, if_pos rfl, if_pos (by simp [ranG_len]; omega), Int.toNat_natCast, set_mid (ranG_len _ _) hx, ranG_succ]
        rfl
      · rw [if_pos (by simpa using ho), if_neg ho, if_neg (by decide)]; rfl
    · have e2 : (zR op stop a b i).2 = (zG op stop a b i).2 := by unfold zR; rw [if_neg he]
      rw [if_pos (by simp [he]), e2, if_neg he]; rfl
  have stepR : ∀ (f i : Nat), i < a.Vals.length → m_law12_zip_l1 a b op stop (f + 1) (i : Int) ⟨a.Type_, a.Dims, ranG (zR op stop a b) i⟩ =
      if (zR op stop a b i).2 = 0 then m_law12_zip_l1 a b op stop f ((i + 1 : Nat) : Int) ⟨a.Type_, a.Dims, ranG (zR op stop a b) (i + 1)⟩ else some (z0, ((i + 1 : Nat) : Int), (zR op stop a b i).2) := fun f i hi => by
    obtain ⟨x, hx⟩ := at_some hi
    obtain ⟨y, hy⟩ := at_some (l := b.Vals) (i := i) (by omega)
    obtain ⟨g1, g2⟩ := zG_ok (op := op) (stop := stop) hx hy (ra.vals x (List.mem_of_getElem? hx)) (rb.vals y (List.mem_of_getElem? hy))
    simp only [m_law12_zip_l1]
    rw [if_pos (lt_dec hi), lat_at hx, Option.bind_some, lat_at hy, Option.bind_some, g1, Option.bind_some]
    by_cases he : (zG op stop a b i).2 = 0
    · have e2 : (zR op stop a b i).2 = if okV a.Type_ (zG op stop a b i).1 = true then 0 else 1 := by unfold zR; rw [if_pos he]
      rw [show gd (decide ((zG op stop a b i).2 = 0)) (m_base_Val a.Type_ (zG op stop a b i).1) = some (okV a.Type_ (zG op stop a b i).1) by rw [base_Val ha.ty (g2 he)]; simp [gd, he], Option.bind_some, e2]
      by_cases ho : okV a.Type_ (zG op stop a b i).1 = true
      · rw [if_neg (by simp [ho]), if_pos ho, if_pos rfl, m_law12_zip_j2, he, if_neg (by simp), lapp_ok (by simp [ranG_len]; omega), Option.bind_some, wis (by omega), ranG_succ]
        rfl
      · rw [if_pos (by simp [he, ho]), if_neg ho, if_neg (by decide), m_law12_zip_j2, if_pos (by decide), wis (by omega)]; rfl
    · have e2 : (zR op stop a b i).2 = (zG op stop a b i).2 := by unfold zR; rw [if_neg he]
      rw [show gd (decide ((zG op stop a b i).2 = 0)) (m_base_Val a.Type_ (zG op stop a b i).1) = some default by simp [gd, he], Option.bind_some, if_neg (by simp [he]), e2, if_neg he, m_law12_zip_j2, if_pos (by simp [he]), wis (by omega)]; rfl
  rcases first_ne (zR op stop a b) a.Vals.length with h | ⟨N, h1, h2, h3⟩
  · refine ⟨⟨a.Type_, a.Dims, ranG (zR op stop a b) a.Vals.length⟩, 0, (a.Vals.length : Int), .inr ⟨rfl, ranG_len _ _⟩, ?_, ?_⟩
    · refine loop_eq (L := fun f (s : GTensor × Int) i => m_tensor_Zip_s_l1 a b (fun x_1 x_2 s => m_law12_TensorZips_1_w x_1 x_2 s a op stop) f i s.1 s.2) (n := a.Vals.length) (by omega) (fun i s => s = (⟨a.Type_, a.Dims, ranG (zR op stop a b) i ++ a.Vals.drop i⟩, (i : Int))) ?_ ?_ (a, 0) (by simp [ranG])
      · rintro f i s hi rfl
        left
        exact ⟨_, rfl, by dsimp only; rw [stepP f i hi, if_pos (h i hi)]⟩
      · rintro f s rfl
        simp only [m_tensor_Zip_s_l1]
        rw [if_neg (by simp), List.drop_length, List.append_nil]
    · refine loop_eq (L := fun f s i => m_law12_zip_l1 a b op stop f i s) (n := a.Vals.length) (by omega) (fun i s => s = ⟨a.Type_, a.Dims, ranG (zR op stop a b) i⟩) ?_ ?_ _ rfl
      · rintro f i s hi rfl
        left
        exact ⟨_, rfl, by rw [stepR f i hi, if_pos (h i hi)]⟩
      · rintro f s rfl
        simp only [m_law12_zip_l1]
        rw [if_neg (by simp), m_law12_zip_j1]
  · refine ⟨z0, (zR op stop a b N).2, ((N + 1 : Nat) : Int), .inl rfl, ?_, ?_⟩
    · refine loop_eq (L := fun f (s : GTensor × Int) i => m_tensor_Zip_s_l1 a b (fun x_1 x_2 s => m_law12_TensorZips_1_w x_1 x_2 s a op stop) f i s.1 s.2) (n := N) (by omega) (fun i s => s = (⟨a.Type_, a.Dims, ranG (zR op stop a b) i ++ a.Vals.drop i⟩, (i : Int))) ?_ ?_ (a, 0) (by simp [ranG])
      · rintro f i s hi rfl
        left
        exact ⟨_, rfl, by dsimp only; rw [stepP f i (by omega), if_pos (h3 i hi)]⟩
      · rintro f s rfl
        dsimp only
        rw [stepP f N h1, if_neg h2]
    · refine loop_eq (L := fun f s i => m_law12_zip_l1 a b op stop f i s) (n := N) (by omega) (fun i s => s = ⟨a.Type_, a.Dims, ranG (zR op stop a b) i⟩) ?_ ?_ _ rfl
      · rintro f i s hi rfl
        left
        exact ⟨_, rfl, by rw [stepR f i (by omega), if_pos (h3 i hi)]⟩
      · rintro f s rfl
        rw [stepR f N h1, if_neg h2]
theorem Zip_same {a b : GTensor} (ra : TeR a) (rb : TeR b) (h1 : a.Dims.length ≤ 20) (h2 : a.Vals.length ≤ 1000) (h3 : b.Dims.length ≤ 20) (h4 : b.Vals.length ≤ 1000) (op stop : Int) : ∃ (u : GTensor) (e c : Int), m_base_Tensor u u = some true ∧
    m_tensor_Zip_s a b (fun x_1 x_2 s => m_law12_TensorZips_1_w x_1 x_2 s a op stop) 0 = some ((u, e), c) ∧ m_law12_zip a b op stop = some (u, c, e) := by
  have e2 : m_law12_zip a b op stop = m_law12_zip a b op stop := rfl
  conv at e2 => rhs; unfold m_law12_zip; rw [ref12_Pair ra rb (by omega) (by omega) (by omega) (by omega), Option.bind_some]
  unfold m_tensor_Zip_s
  rw [tensor_Validate ra (by omega) (by omega), Option.bind_some]
  unfold pairE at e2
  by_cases k1 : teErr a = 0
  rotate_left
  · rw [if_neg k1, if_pos (by simp [k1])] at e2
    exact ⟨z0, teErr a, 0, z0_refl, by rw [if_pos (by simp [k1])]; rfl, e2⟩
  rw [if_pos k1] at e2
  rw [if_neg (by simp [k1]), tensor_Validate rb (by omega) (by omega), Option.bind_some]
  by_cases k2 : teErr b = 0
  rotate_left
  · rw [if_neg k2, if_pos (by simp [k2])] at e2
    exact ⟨z0, teErr b, 0, z0_refl, by rw [if_pos (by simp [k2])]; rfl, e2⟩
  rw [if_pos k2] at e2
  rw [if_neg (by simp [k2])]
  rw [show ((decide (a.Type_.Kind = b.Type_.Kind)) && (decide (a.Type_.Bits = b.Type_.Bits)) && (decide (a.Type_.Frac = b.Type_.Frac)) && (decide (a.Type_.Round = b.Type_.Round)) && (decide (a.Type_.Over = b.Type_.Over))) = tyE a.Type_ b.Type_ from rfl, tyE_dec]
  by_cases k3 : a.Type_ = b.Type_
  rotate_left
  · rw [if_neg k3, if_pos (by decide)] at e2
    exact ⟨z0, 10, 0, z0_refl, by rw [if_pos (by simp [k3])]; rfl, e2⟩
  rw [if_pos k3] at e2
  rw [if_neg (by simp [k3]), shape_Same _ _ (by omega), Option.bind_some]
  by_cases k4 : a.Dims = b.Dims
  rotate_left
  · rw [if_neg k4, if_pos (by decide)] at e2
    exact ⟨z0, 15, 0, z0_refl, by rw [if_pos (by simp [k4])]; rfl, e2⟩
  have hp : pairE a b = 0 := by unfold pairE; rw [if_pos k1, if_pos k2, if_pos k3, if_pos k4]
  rw [if_pos k4, if_neg (by decide)] at e2
  rw [if_neg (by simp [k4]), clone_o (by omega) (by omega), Option.bind_some]
  obtain ⟨dn, ta, tb, _, _⟩ := pairE0 hp
  obtain ⟨u, e, c, q1, q2, q3⟩ := zip_loops ta tb ra rb k3 op stop
  refine ⟨u, e, c, ?_, q2, e2.trans q3⟩
  rcases q1 with rfl | ⟨q1, q4⟩
  · exact z0_refl
  · exact base_Tensor_refl (by rw [q1]; omega) (by omega)
theorem law_TensorZips (a b : GTensor) (op stop : Int) (ha : okGTensor a) (hb : okGTensor b) (_ : okI .i64 op) (_ : okI .i64 stop) : m_law12_TensorZips a b op stop = some true := by
  unfold m_law12_TensorZips
  rw [small12, Option.bind_some]
  by_cases hs : (a.Vals.length : Int) ≤ 1000 ∧ (a.Dims.length : Int) ≤ 20
  rotate_left
  · have hf : ((decide ((a.Vals.length : Int) ≤ 1000)) && (decide ((a.Dims.length : Int) ≤ 20))) = false := by simp; omega
    rw [hf]; simp [gd, ex12]
  have hf : ((decide ((a.Vals.length : Int) ≤ 1000)) && (decide ((a.Dims.length : Int) ≤ 20))) = true := by simp; omega
  rw [hf, small12, show gd (!(!true)) (some ((decide ((b.Vals.length : Int) ≤ 1000)) && (decide ((b.Dims.length : Int) ≤ 20)))) = some ((decide ((b.Vals.length : Int) ≤ 1000)) && (decide ((b.Dims.length : Int) ≤ 20))) from rfl, Option.bind_some]
  by_cases hs2 : (b.Vals.length : Int) ≤ 1000 ∧ (b.Dims.length : Int) ≤ 20
  rotate_left
  · rw [if_pos (by simp; omega), ex12]; rfl
  rw [if_neg (by simp; omega)]
  obtain ⟨u, e, c, q1, q2, q3⟩ := Zip_same (TeR.of ha) (TeR.of hb) (by omega) (by omega) (by omega) (by omega) op stop
  rw [q2, q3]
  simp only [Option.bind_some]
  unfold m_tensor_Zip_o
  rw [q1, ex12]
  simp [gd]
end Go.Proofs.YtlakfanockhngaaGreatDoor
