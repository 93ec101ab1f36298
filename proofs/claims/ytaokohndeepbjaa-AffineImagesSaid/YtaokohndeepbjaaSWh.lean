import Derived.Test.YtaokohndeepbjaaSWg
import Derived.Test.YtaokohndeepbjaaSVup
namespace Go.Proofs.Ytaokohndeepbjaa
open Go Go.RowKit Go.Vc
set_option linter.unusedVariables false
set_option linter.unusedSimpArgs false
def lx : List Int → List Int → Bool
 | [], [] => false
 | [], _ :: _ => true
 | _ :: _, [] => false
 | x :: a, y :: b => decide (x < y) || (decide (x = y) && lx a b)
theorem lx_irr : ∀ a, lx a a = false
 | [] => rfl
 | x :: a => by simp [lx, lx_irr a]
theorem lx_asy : ∀ a b, lx a b = true → lx b a = false
 | [], [], h => rfl
 | [], _ :: _, _ => rfl
 | _ :: _, [], h => by simp [lx] at h
 | x :: a, y :: b, h => by
  simp only [lx, Bool.or_eq_true, decide_eq_true_eq, Bool.and_eq_true, Bool.or_eq_false_iff, decide_eq_false_iff_not, Bool.and_eq_false_iff] at h ⊢
  rcases h with h | ⟨rfl, h⟩
  ·exact ⟨by omega, .inl (by omega)⟩
  ·exact ⟨by omega, .inr (lx_asy a b h)⟩
theorem lx_tri : ∀ a b, lx a b = false → lx b a = false → a = b
 | [], [], _, _ => rfl
 | [], _ :: _, h, _ => by simp [lx] at h
 | _ :: _, [], _, h => by simp [lx] at h
 | x :: a, y :: b, h, k => by
  simp only [lx, Bool.or_eq_false_iff, decide_eq_false_iff_not, Bool.and_eq_false_iff] at h k
  have e : x = y := by omega
  subst e
  rw [lx_tri a b (h.2.resolve_left (by simp)) (k.2.resolve_left (by simp))]
theorem lx_trans : ∀ a b c, lx a b = true → lx b c = true → lx a c = true
 | x, [], _, h, _ => by cases x <;> simp [lx] at h
 | [], y :: b, [], _, h => by simp [lx] at h
 | [], y :: b, z :: c, _, _ => by simp [lx]
 | x :: a, y :: b, [], _, h => by simp [lx] at h
 | x :: a, y :: b, z :: c, h, k => by
  simp only [lx, Bool.or_eq_true, decide_eq_true_eq, Bool.and_eq_true] at h k ⊢
  rcases h with h | ⟨rfl, h⟩ <;> rcases k with k | ⟨rfl, k⟩
  ·left; omega
  ·exact .inl h
  ·exact .inl k
  ·exact .inr ⟨rfl, lx_trans a b c h k⟩
theorem lx_nt (x y z : List Int) (h : ¬ lx x y = true) (k : ¬ lx y z = true) : ¬ lx x z = true := by
 intro l
 rw [Bool.not_eq_true] at h k
 cases h2 : lx y x with
 | false => rw [lx_tri _ _ h h2] at l; rw [l] at k; cases k
 | true =>
  have := lx_trans _ _ _ h2 l
  rw [this] at k; cases k
theorem pair_sw : SW (fun (a b : Gaffine_pair) => lx a.to_ b.to_ = true) := ⟨fun x h => (by rw [lx_irr] at h; cases h), fun x y h k => (by rw [lx_asy _ _ h] at k; cases k), fun x y z h k => lx_nt _ _ _ h k⟩
theorem cmp_ok (x y : Int) : m_cmp_Compare_int64 x y = some (if x < y then -1 else if y < x then 1 else 0) := by
 unfold m_cmp_Compare_int64 m_cmp_isNaN_int64
 simp only [decide_true, Bool.not_true, Option.bind_some, Bool.false_eq_true, if_false, decide_eq_true_eq]
 split <;> (try split) <;> rfl
theorem compare_ok (a b : List Int) (ha : a.length < 4611686018427387904) : ∃ c, m_slices_Compare_int64_int64 a b = some c ∧ (c < 0 ↔ lx a b = true) := by
 unfold m_slices_Compare_int64_int64
 refine loop_fu (L := fun f (_ : Unit) i => m_slices_Compare_int64_int64_l1 a b f i) (n := a.length) ha (fun i _ => lx a b = lx (a.drop i) (b.drop i) ∧ i ≤ b.length) (fun c => c < 0 ↔ lx a b = true) ?_ ?_ () (by simp)
 ·intro f i _ hi ⟨hI, hb⟩
  obtain ⟨x, hx⟩ := at_some hi
  simp only [m_slices_Compare_int64_int64_l1]
  rw [if_pos (lt_dec hi), lat_at hx, Option.bind_some]
  by_cases c : b.length ≤ i
  ·right; refine ⟨1, if_pos (by simpa using c), ?_⟩
   rw [hI, drop_at hx, List.drop_of_length_le c]; simp [lx]
  ·obtain ⟨y, hy⟩ := at_some (l := b) (i := i) (by omega)
   rw [if_neg (by simpa using c), lat_at hy, Option.bind_some, cmp_ok, Option.bind_some, wis (by omega)]
   rw [drop_at hx, drop_at hy] at hI
   by_cases h1 : x < y
   ·right; refine ⟨-1, by rw [if_pos h1]; rfl, ?_⟩
    rw [hI]; simp [lx, h1]
   ·by_cases h2 : y < x
    ·right; refine ⟨1, by rw [if_neg h1, if_pos h2]; rfl, ?_⟩
     rw [hI]; simp [lx, h1, show ¬ x = y by omega]
    ·left; refine ⟨(), ⟨?_, by omega⟩, by rw [if_neg h1, if_neg h2, if_neg (by simp)]⟩
     rw [hI]; simp [lx, show x = y by omega]
 ·intro f _ ⟨hI, hb⟩
  simp only [m_slices_Compare_int64_int64_l1]
  rw [if_neg (by simp), m_slices_Compare_int64_int64_j1]
  rw [List.drop_of_length_le (Nat.le_refl _)] at hI
  by_cases c : a.length < b.length
  ·refine ⟨-1, if_pos (by simpa using c), ?_⟩
   obtain ⟨y, hy⟩ := at_some c
   rw [hI, drop_at hy]; simp [lx]
  ·refine ⟨0, if_neg (by simpa using c), ?_⟩
   rw [hI, List.drop_of_length_le (by omega)]; simp [lx]
theorem less_ok (a b : List Int) (ha : a.length < 4611686018427387904) (hl : a.length = b.length) : m_ref10_Less a b = some (lx a b) := by
 unfold m_ref10_Less
 refine loop_eq (L := fun f (_ : Unit) i => m_ref10_Less_l1 a b f i) (n := a.length) ha (fun i _ => lx a b = lx (a.drop i) (b.drop i)) ?_ ?_ () (by simp)
 ·intro f i _ hi hI
  obtain ⟨x, hx⟩ := at_some hi
  obtain ⟨y, hy⟩ := at_some (l := b) (i := i) (by omega)
  simp only [m_ref10_Less_l1]
  rw [if_pos (lt_dec hi), lat_at hx, Option.bind_some, lat_at hy, Option.bind_some, Option.bind_some, Option.bind_some, wis (by omega)]
  rw [drop_at hx, drop_at hy] at hI
  by_cases h1 : x = y
  ·left; refine ⟨(), ?_, by rw [if_neg (by simpa using h1)]⟩
   rw [hI]; simp [lx, h1]
  ·right; rw [if_pos (by simpa using h1), hI]; simp [lx, h1]
 ·intro f _ hI
  simp only [m_ref10_Less_l1]
  rw [if_neg (by simp), hI, List.drop_of_length_le (Nat.le_refl _), List.drop_of_length_le (by omega)]; rfl
theorem equal_ok (a b : List Int) (ha : a.length < 4611686018427387904) : m_slices_Equal_int64_int64 a b = some (decide (a = b)) := by
 unfold m_slices_Equal_int64_int64
 by_cases hl : a.length = b.length
 rotate_left
 ·rw [if_pos (by simp; omega), decide_eq_false (fun e => hl (by rw [e]))]
 rw [if_neg (by simp; omega)]
 obtain ⟨r, h1, h2⟩ := loop_fu (L := fun f (_ : Unit) i => m_slices_Equal_int64_int64_l1 a b f i) (n := a.length) ha (fun i _ => ∀ j, j < i → a[j]? = b[j]?) (fun r => r = decide (a = b))
  (fun f i _ hi hI => by
   obtain ⟨x, hx⟩ := at_some hi
   obtain ⟨y, hy⟩ := at_some (l := b) (i := i) (by omega)
   simp only [m_slices_Equal_int64_int64_l1]
   rw [if_pos (lt_dec hi), lat_at hx, Option.bind_some, lat_at hy, Option.bind_some]
   by_cases e : x = y
   ·left; refine ⟨(), fun j hj => ?_, by rw [if_neg (by simpa using e), wis (by omega)]⟩
    by_cases hji : j = i
    ·rw [hji, hx, hy, e]
    ·exact hI j (by omega)
   ·right; refine ⟨false, by rw [if_pos (by simpa using e)], ?_⟩
    rw [decide_eq_false]; rintro rfl; rw [hx] at hy; injection hy with hy; exact e hy)
  (fun f _ hI => by
   simp only [m_slices_Equal_int64_int64_l1]
   exact ⟨true, by rw [if_neg (by simp)], by rw [decide_eq_true]; exact list_ext' hl hI⟩) () (fun j hj => by omega)
 rw [show m_slices_Equal_int64_int64_l1 a b fu 0 = some r from h1, h2]
structure Bx (m : List GLin) (names : List (List UInt8)) (ext : List Int) (N : Nat) (pt : Nat → List Int) : Prop where
 ok : okMap m names
 wf : ∀ f ∈ m, Wf f
 hN : N ≤ 65536
 len : ext.length = names.length
 cnt : m_box_Count ext = some (N : Int)
 pnt : ∀ k, k < N → m_box_Point ext (k : Int) = some (pt k, true)
 pl : ∀ k, k < N → (pt k).length = names.length ∧ ∀ x ∈ pt k, R64 x
def img (m : List GLin) (names : List (List UInt8)) (p : List Int) : List Int := m.map (ev (vl names p))
def okp (m : List GLin) (names : List (List UInt8)) (p : List Int) : Prop := ∀ f ∈ m, R64 (ev (vl names p) f)
theorem Bx.of {m : List GLin} {names : List (List UInt8)} {ext : List Int} (ok : okMap m names) (wf : ∀ f ∈ m, Wf f) (len : ext.length = names.length) (hv : m_box_Validate ext = some 0) : ∃ N pt, Bx m names ext N pt := by
 obtain ⟨r, r1, r2⟩ := box_val ext (by have := ok.2.1; omega)
 rw [hv] at r1; injection r1 with r1; subst r1
 obtain ⟨N, n1, n2, n3, n4⟩ := r2 rfl
 have hp : ∀ k, ∃ p, k < N → m_box_Point ext (k : Int) = some (p, true) ∧ p.length = ext.length ∧ ∀ x ∈ p, R64 x := fun k => by
  by_cases hk : k < N
  ·obtain ⟨p, h⟩ := point_ok ext N k n2 n1 hk (n3 (by omega)) n4; exact ⟨p, fun _ => h⟩
  ·exact ⟨[], fun h => absurd h hk⟩
 exact ⟨N, fun k => Classical.choose (hp k), ok, wf, n1, len, n4, fun k hk => (Classical.choose_spec (hp k) hk).1, fun k hk => len ▸ (Classical.choose_spec (hp k) hk).2⟩
theorem all_id {ext : List Int} (h : ext.length ≤ 1000) : m_box_All ext = some ext := by unfold m_box_All; rw [lapp_nil (by omega)]; rfl
theorem Bx.img {m : List GLin} {names : List (List UInt8)} {ext : List Int} {N : Nat} {pt : Nat → List Int} (h : Bx m names ext N pt) {k : Nat} (hk : k < N) :
  (m_affine_image m names (pt k) = some (img m names (pt k), 0) ∧ okp m names (pt k)) ∨ (m_affine_image m names (pt k) = some ([], 3) ∧ ¬ okp m names (pt k)) := by
 obtain ⟨r, r1, r2⟩ := image_ok m names (pt k) h.ok (h.pl k hk).1 h.wf (h.pl k hk).2
 rcases r2 with ⟨rfl, q⟩ | ⟨rfl, f, hf, q⟩
 ·exact .inl ⟨r1, q⟩
 ·exact .inr ⟨r1, fun k => q (k f hf)⟩
def pairs (m : List GLin) (names : List (List UInt8)) (pt : Nat → List Int) (N : Nat) : List Gaffine_pair := (List.range N).map fun k => ⟨pt k, img m names (pt k)⟩
theorem all_ok {m : List GLin} {names : List (List UInt8)} {ext : List Int} {N : Nat} {pt : Nat → List Int} (h : Bx m names ext N pt) :
  ∃ r, m_affine_all m names ext = some r ∧ ((r = (pairs m names pt N, 0) ∧ ∀ k, k < N → okp m names (pt k)) ∨ r.2 = 3) := by
 have hel : ext.length ≤ 16 := by have := h.ok.2.1; have := h.len; omega
 have hN := h.hN
 unfold m_affine_all m_affine_visit_s
 rw [all_id (by omega), Option.bind_some]
 obtain ⟨s', e1, e2⟩ := walk ext N h.hN h.cnt pt h.pnt
  (fun (k_0 : List Int) (q : Nat × (Int × List Gaffine_pair)) => if q.1 = 0 then m_affine_visit_s_b1 m names (fun x_1 x_4 s => m_affine_all_1_w x_1 x_4 s) k_0 q.2.1 q.2.2 else none)
  (fun k q => q.1 = 0 ∧ q.2.1 = 0 ∧ q.2.2 = pairs m names pt k ∧ ∀ j, j < k → okp m names (pt j))
  (fun q => (q.1 = 0 ∧ q.2.2 = pairs m names pt N ∧ ∀ j, j < N → okp m names (pt j)) ∨ (q.1 = 1 ∧ q.2.1 = 3))
  (fun k q hk ⟨q1, q2, q3, q4⟩ => by
   have hpl := (h.pl k hk).1
   have hnl := h.ok.2.1
   rw [if_pos q1]
   unfold m_affine_visit_s_b1
   rcases h.img hk with ⟨i1, i2⟩ | ⟨i1, i2⟩
   ·rw [i1, Option.bind_some]
    dsimp only
    rw [if_neg (by simp)]
    unfold m_affine_all_1_w m_slices_Clone_int_int_o
    rw [lapp_nil (by omega), Option.bind_some, Option.bind_some, q3, lapp_ok (by unfold pairs; simp; omega)]
    refine ⟨true, (0, (q.2.1, pairs m names pt (k + 1))), ?_, fun _ => ⟨rfl, q2, rfl, fun j hj => ?_⟩, fun h => by cases h⟩
    ·simp only [Option.bind_some, Bool.not_true, Bool.false_eq_true, if_false, pairs, List.range_succ, List.map_append]; rfl
    ·by_cases e : j = k
     ·exact e ▸ i2
     ·exact q4 j (by omega)
   ·rw [i1, Option.bind_some]
    exact ⟨false, (1, (3, q.2.2)), by simp, fun h => (by cases h), fun _ => .inr ⟨rfl, rfl⟩⟩)
  (fun q ⟨q1, q2, q3, q4⟩ => .inl ⟨q1, q3, q4⟩) (0, (0, [])) ⟨rfl, rfl, rfl, fun j hj => by omega⟩
 obtain ⟨o, v, s⟩ := s'
 rw [e1]
 rcases e2 with ⟨a1, a2, a3⟩ | ⟨a1, a2⟩
 ·dsimp only at a1 a2; subst a1; subst a2
  exact ⟨_, rfl, .inl ⟨rfl, a3⟩⟩
 ·dsimp only at a1 a2; subst a1; subst a2
  exact ⟨_, rfl, .inr rfl⟩
theorem first_ok {m : List GLin} {names : List (List UInt8)} {ext : List Int} {N : Nat} {pt : Nat → List Int} (h : Bx m names ext N pt) (hok : ∀ k, k < N → okp m names (pt k)) (hv : m_affine_Validate m names = some 0) (hb : m_affine_boxed names ext = some 0) (to : List Int) :
  ∃ p b e, m_affine_FirstPreimage m names ext to = some (p, b, e) ∧ (e = 0 → (b = true ∧ ∃ k, k < N ∧ p = pt k ∧ img m names (pt k) = to) ∨ (b = false ∧ ∀ k, k < N → img m names (pt k) ≠ to)) ∧ (to.length = m.length → e = 0) := by
 have hel : ext.length ≤ 16 := by have := h.ok.2.1; have := h.len; omega
 unfold m_affine_FirstPreimage
 rw [hv, Option.bind_some, if_neg (by simp), hb, Option.bind_some, if_neg (by simp)]
 by_cases hl : to.length = m.length
 rotate_left
 ·exact ⟨_, _, _, by rw [if_pos (by simp; omega)], fun h => (by cases h), fun h => absurd h hl⟩
 rw [if_neg (by simp; omega)]
 unfold m_affine_visit_s
 rw [all_id (by omega), Option.bind_some]
 obtain ⟨s', e1, e2⟩ := walk ext N h.hN h.cnt pt h.pnt
  (fun (k_0 : List Int) (q : Nat × (Int × (List Int × Bool))) => if q.1 = 0 then m_affine_visit_s_b1 m names (fun x_1 x_4 s => m_affine_FirstPreimage_1_w2 x_1 x_4 to (s.1) (s.2)) k_0 q.2.1 q.2.2 else none)
  (fun k q => q.1 = 0 ∧ q.2.1 = 0 ∧ q.2.2 = ([], false) ∧ ∀ j, j < k → img m names (pt j) ≠ to)
  (fun q => (q.1 = 0 ∧ q.2.2 = ([], false) ∧ ∀ j, j < N → img m names (pt j) ≠ to) ∨ (q.1 = 2 ∧ ∃ k, k < N ∧ q.2.2 = (pt k, true) ∧ img m names (pt k) = to))
  (fun k q hk ⟨q1, q2, q3, q4⟩ => by
   have hml := h.ok.1
   rw [if_pos q1]
   unfold m_affine_visit_s_b1
   rcases h.img hk with ⟨i1, i2⟩ | ⟨i1, i2⟩
   ·rw [i1, Option.bind_some]
    dsimp only
    rw [if_neg (by simp)]
    unfold m_affine_FirstPreimage_1_w2
    rw [equal_ok _ _ (by unfold Go.Proofs.Ytaokohndeepbjaa.img; simp; omega), Option.bind_some, q3]
    by_cases c : img m names (pt k) = to
    ·rw [decide_eq_true c]
     exact ⟨false, (2, (q.2.1, (pt k, true))), by simp, fun h => (by cases h), fun _ => .inr ⟨rfl, k, hk, rfl, c⟩⟩
    ·rw [decide_eq_false c]
     refine ⟨true, (0, (q.2.1, ([], false))), by simp, fun _ => ⟨rfl, q2, rfl, fun j hj => ?_⟩, fun h => (by cases h)⟩
     by_cases e : j = k
     ·exact e ▸ c
     ·exact q4 j (by omega)
   ·exact absurd (hok k hk) i2)
  (fun q ⟨q1, q2, q3, q4⟩ => .inl ⟨q1, q3, q4⟩) (0, (0, ([], false))) ⟨rfl, rfl, rfl, fun j hj => by omega⟩
 obtain ⟨o, v, s⟩ := s'
 rw [e1]
 rcases e2 with ⟨a1, a2, a3⟩ | ⟨a1, k, k1, k2, k3⟩
 ·dsimp only at a1 a2; subst a1; subst a2
  exact ⟨[], false, 0, rfl, fun _ => .inr ⟨rfl, a3⟩, fun _ => rfl⟩
 ·dsimp only at a1 k2; subst a1; subst k2
  exact ⟨pt k, true, 0, rfl, fun _ => .inl ⟨rfl, k, k1, rfl, k3⟩, fun _ => rfl⟩
theorem sorted_ok10 (d : List Gaffine_pair) (hd : d.length ≤ 65536) (hl : ∀ x ∈ d, x.to_.length ≤ 1000) : ∃ d', d'.Perm d ∧ Sd (fun (a b : Gaffine_pair) => lx a.to_ b.to_ = true) d' ∧ m_affine_sorted d = some d' := by
 obtain ⟨d', r1, r2, r3⟩ := Soaffine_pair.stable_ok pair_sw (cmp := m_affine_sorted_1) d (by omega) (by
  rw [List.pairwise_iff_forall_sublist]
  intro u v huv
  obtain ⟨c, c1, c2⟩ := compare_ok v.to_ u.to_ (by have := hl v (huv.subset (by simp)); omega)
  exact ⟨c, by unfold m_affine_sorted_1; rw [c1]; rfl, c2⟩)
 refine ⟨d', r1, r2, ?_⟩
 unfold m_affine_sorted m_slices_Clone_affine_pair_affine_pair_o
 rw [lapp_nil (by omega), Option.bind_some, Option.bind_some, r3]; rfl
theorem image_l1 (d : List Gaffine_pair) (hd : d.length ≤ 65536) (hl : ∀ x ∈ d, x.to_.length ≤ 1000) (hs : Sd (fun (a b : Gaffine_pair) => lx a.to_ b.to_ = true) d) :
  ∃ out, m_affine_Image_l1 d fu [] 0 = some (out, 0) ∧ out.Pairwise (fun a b => lx a b = true) ∧ out.length ≤ 65536 ∧ ∀ t, t ∈ out ↔ ∃ x ∈ d, x.to_ = t := by
 obtain ⟨r, h1, h2⟩ := loop_fu (L := fun f o i => m_affine_Image_l1 d f o i) (n := d.length) (by omega)
  (fun i o => o.Pairwise (fun a b => lx a b = true) ∧ o.length ≤ i ∧ (∀ t, t ∈ o ↔ ∃ x ∈ d.take i, x.to_ = t) ∧ (∀ y, 0 < i → d[i - 1]? = some y → ∃ (k : Nat), k + 1 = o.length ∧ o[k]? = some y.to_) ∧ (i = 0 → o = []))
  (fun r => r.2 = 0 ∧ r.1.Pairwise (fun a b => lx a b = true) ∧ r.1.length ≤ 65536 ∧ ∀ t, t ∈ r.1 ↔ ∃ x ∈ d, x.to_ = t)
  (fun f i o hi ⟨h1, h2, h3, h4, h5⟩ => by
   obtain ⟨x, hx⟩ := at_some hi
   have hxm := List.mem_of_getElem? hx
   have hmem : ∀ t, (∃ z ∈ d.take (i + 1), z.to_ = t) ↔ ((∃ z ∈ d.take i, z.to_ = t) ∨ x.to_ = t) := fun t => by
    rw [take_succ' hx]
    constructor
    ·rintro ⟨z, hz, e⟩; rcases List.mem_append.1 hz with hz | hz
     ·exact .inl ⟨z, hz, e⟩
     ·rw [List.mem_singleton.1 hz] at e; exact .inr e
    ·rintro (⟨z, hz, e⟩ | e)
     ·exact ⟨z, List.mem_append_left _ hz, e⟩
     ·exact ⟨x, by simp, e⟩
   have app : o.Pairwise (fun a b => lx a b = true) → (∀ t ∈ o, lx t x.to_ = true) → (fun i o => o.Pairwise (fun a b => lx a b = true) ∧ o.length ≤ i ∧ (∀ t, t ∈ o ↔ ∃ x ∈ d.take i, x.to_ = t) ∧ (∀ y, 0 < i → d[i - 1]? = some y → ∃ (k : Nat), k + 1 = o.length ∧ o[k]? = some y.to_) ∧ (i = 0 → o = [])) (i + 1) (o ++ [x.to_]) := fun hp ht => by
    refine ⟨List.pairwise_append.2 ⟨hp, List.pairwise_singleton _ _, fun a ha b hb => by rw [List.mem_singleton.1 hb]; exact ht a ha⟩, by simp; omega, fun t => ?_, fun y _ hy => ⟨o.length, by simp, ?_⟩, fun h => by omega⟩
    ·rw [hmem, List.mem_append, h3, List.mem_singleton]; exact or_congr_right eq_comm
    ·rw [Nat.add_sub_cancel] at hy; rw [hx] at hy; injection hy with hy; rw [← hy]; simp
   left
   simp only [m_affine_Image_l1]
   rw [if_pos (lt_dec hi), lat_at hx, Option.bind_some]
   by_cases ho : o.length = 0
   ·have : o = [] := List.length_eq_zero_iff.1 ho
    subst this
    refine ⟨[] ++ [x.to_], app h1 (by simp), ?_⟩
    simp only [List.length_nil]
    simp only [gd, show decide (((0 : Nat) : Int) = 0) = true from rfl, Bool.not_true, Bool.false_eq_true, if_false, Option.bind_some, Bool.true_or, if_true]
    rw [lapp_ok (by simp), Option.bind_some, m_affine_Image_j1, wis (by omega)]
   ·have hi0 : 0 < i := Nat.pos_of_ne_zero fun h => ho (by rw [h5 h]; rfl)
    obtain ⟨y, hy⟩ := at_some (l := d) (i := i - 1) (by omega)
    obtain ⟨k, k1, k2⟩ := h4 y hi0 hy
    have e1 : wi64 ((o.length : Int) - 1) = (k : Int) := by rw [show (o.length : Int) - 1 = (k : Int) by omega]; exact wiN (by omega)
    have hym : y.to_.length ≤ 1000 := hl y (List.mem_of_getElem? hy)
    have hns : lx x.to_ y.to_ = false := by
     have := hs.get (i := i - 1) (j := i) (by omega) hy hx
     simpa using this
    rw [e1, lat_at k2, show decide ((o.length : Int) = 0) = false by rw [decide_eq_false_iff_not]; omega]
    simp only [gd, Bool.not_false, if_true, Option.bind_some, Bool.false_or]
    rw [equal_ok _ _ (by omega), Option.bind_some]
    by_cases c : y.to_ = x.to_
    ·refine ⟨o, ⟨h1, by omega, fun t => ?_, fun z _ hz => ⟨k, k1, ?_⟩, fun h => by omega⟩, by rw [if_neg (by simpa using c), m_affine_Image_j1, wis (by omega)]⟩
     ·rw [hmem, h3]
      exact ⟨.inl, fun h => h.elim id fun h => ⟨y, by
       have : (d.take i)[i - 1]? = some y := by rw [List.getElem?_take, if_pos (by omega)]; exact hy
       exact List.mem_of_getElem? this, c.trans h⟩⟩
     ·rw [Nat.add_sub_cancel] at hz; rw [hx] at hz; injection hz with hz; rw [k2, ← hz, c]
    ·have hlt : lx y.to_ x.to_ = true := by
      cases hq : lx y.to_ x.to_ with
      | true => rfl
      | false => exact absurd (lx_tri _ _ hq hns) c
     refine ⟨o ++ [x.to_], app h1 (fun t ht => ?_), by rw [if_pos (by simpa using c), lapp_ok (by simp; omega), Option.bind_some, m_affine_Image_j1, wis (by omega)]⟩
     obtain ⟨j, hj⟩ := List.mem_iff_getElem?.1 ht
     by_cases e : j = k
     ·rw [e, k2] at hj; injection hj with hj; rw [← hj]; exact hlt
     ·obtain ⟨g1, rfl⟩ := List.getElem?_eq_some_iff.1 hj
      obtain ⟨g2, g3⟩ := List.getElem?_eq_some_iff.1 k2
      have := List.pairwise_iff_getElem.1 h1 j k g1 g2 (by omega)
      rw [g3] at this
      exact lx_trans _ _ _ this hlt)
  (fun f o ⟨h1, h2, h3, h4, h5⟩ => by
   rw [List.take_length] at h3
   exact ⟨(o, 0), by simp only [m_affine_Image_l1]; rw [if_neg (by simp)], rfl, h1, by show o.length ≤ 65536; omega, h3⟩) [] ⟨List.Pairwise.nil, by simp, by simp, fun y h => by omega, fun _ => rfl⟩
 obtain ⟨out, e⟩ := r
 exact ⟨out, by obtain ⟨q, _⟩ := h2; dsimp only at q; subst q; exact h1, h2.2⟩
theorem boxed_zero {names : List (List UInt8)} {ext : List Int} (hl : ext.length < 4611686018427387904) : ∃ r, m_affine_boxed names ext = some r ∧ (r = 0 → m_box_Validate ext = some 0 ∧ ext.length = names.length) := by
 obtain ⟨v, v1, _⟩ := box_val ext hl
 unfold m_affine_boxed
 rw [v1, Option.bind_some]
 by_cases hv : v = 0
 ·rw [if_neg (by simpa using hv)]
  by_cases c : ext.length = names.length
  ·exact ⟨0, by rw [if_neg (by simp; omega)], fun _ => ⟨by rw [hv], c⟩⟩
  ·exact ⟨11, by rw [if_pos (by simp; omega)], fun h => by cases h⟩
 ·exact ⟨v, by rw [if_pos (by simpa using hv)], fun h => absurd h hv⟩
theorem law_AffineImages (m : List GLin) (names : List (List UInt8)) (ext : List Int) (to : List Int) (hm : okL okGLin m) (_ : okL okS names) (_ : okL (okI .i64) ext) (_ : okL (okI .i64) to) : m_law10_AffineImages m names ext to = some true := by
 unfold m_law10_AffineImages
 obtain ⟨b, h1, h2⟩ := few_ok m names ext
 rw [h1, Option.bind_some, ex10]
 cases b with
 | false => simp [gd]
 | true =>
  obtain ⟨h20, hm20, hn20, he20⟩ := h2 rfl
  obtain ⟨fb, f1⟩ := Few_tot ext 100 (by omega)
  rw [f1]
  simp only [gd, Bool.not_true, Bool.not_false, if_true, Option.bind_some, Bool.false_or]
  by_cases c : (!fb || decide (40 < (to.length : Int))) = true
  ·rw [if_pos c]
  rw [if_neg c]
  have htl : to.length ≤ 40 := by
   simp only [Bool.or_eq_true, decide_eq_true_eq, not_or] at c; omega
  obtain ⟨v, v0, v1, _⟩ := Validate_both m names fun f hf => by have := h20 f hf; omega
  have hErr : ∀ e : Int, e ≠ 0 → m_affine_Image m names ext = some ([], e) → ((m_affine_Image m names ext).bind fun r4 => if (!decide (r4.2 = 0)) = true then (if decide ((r4.1.length : Int) = 0) = true then some true else some default).bind fun r5 => some ((decide ((r4.1.length : Int) = 0)) && r5) else
   (m_affine_Injective m names ext).bind fun r6 => (if (!(!decide (r6.2 = 0))) = true then m_box_Count ext else some default).bind fun r7 => if ((!decide (r6.2 = 0)) || (r6.1 != (decide ((r4.1.length : Int) = r7)))) = true then some false else m_law10_AffineImages_l1 r4 to m names ext fu false 0) = some true := fun e he hI => by
   rw [hI, Option.bind_some]; simp [he]
  by_cases hv : v = 0
  rotate_left
  ·exact hErr v hv (by unfold m_affine_Image; rw [v1, Option.bind_some, if_pos (by simpa using hv)])
  subst hv
  obtain ⟨bx, b1, b2⟩ := boxed_zero (names := names) (ext := ext) (by omega)
  by_cases hb : bx = 0
  rotate_left
  ·exact hErr bx hb (by unfold m_affine_Image; rw [v1, Option.bind_some, if_neg (by simp), b1, Option.bind_some, if_pos (by simpa using hb)])
  subst hb
  obtain ⟨hbv, hbl⟩ := b2 rfl
  have hok := v0.1 rfl
  obtain ⟨N, pt, hB⟩ := Bx.of hok (wfs hm h20) hbl hbv
  obtain ⟨r, r1, r2⟩ := all_ok hB
  rcases r2 with ⟨rfl, hall⟩ | hr3
  rotate_left
  ·exact hErr r.2 (by rw [hr3]; decide) (by unfold m_affine_Image; rw [v1, Option.bind_some, if_neg (by simp), b1, Option.bind_some, if_neg (by simp), r1, Option.bind_some, if_pos (by rw [hr3]; rfl)])
  have hNb := hB.hN
  have hpl : ∀ x ∈ pairs m names pt N, x.to_.length = m.length := fun x hx => by
   unfold pairs at hx; obtain ⟨k, _, rfl⟩ := List.mem_map.1 hx; simp [img]
  have hml := hok.1
  obtain ⟨d', p1, p2, p3⟩ := sorted_ok10 (pairs m names pt N) (by simp [pairs]; omega) (fun x hx => by have := hpl x hx; omega)
  obtain ⟨out, o1, o2, o3, o4⟩ := image_l1 d' (by rw [p1.length_eq]; simp [pairs]; omega) (fun x hx => by have := hpl x (p1.mem_iff.1 hx); omega) p2
  have hI : m_affine_Image m names ext = some (out, 0) := by
   unfold m_affine_Image; rw [v1, Option.bind_some, if_neg (by simp), b1, Option.bind_some, if_neg (by simp), r1, Option.bind_some, if_neg (by simp), p3, Option.bind_some]; exact o1
  have hmem : ∀ t, t ∈ out ↔ ∃ k, k < N ∧ img m names (pt k) = t := fun t => by
   rw [o4]
   constructor
   ·rintro ⟨x, hx, e⟩
    have := p1.mem_iff.1 hx
    unfold pairs at this; obtain ⟨k, hk, rfl⟩ := List.mem_map.1 this
    exact ⟨k, by simpa using hk, e⟩
   ·rintro ⟨k, hk, e⟩
    exact ⟨⟨pt k, img m names (pt k)⟩, p1.mem_iff.2 (List.mem_map.2 ⟨k, by simpa using hk, rfl⟩), e⟩
  have hInj : m_affine_Injective m names ext = some (decide ((out.length : Int) = (N : Int)), 0) := by
   unfold m_affine_Injective
   rw [hI, Option.bind_some, hB.cnt]; simp [gd]
  rw [hI, Option.bind_some, hInj, Option.bind_some, hB.cnt]
  dsimp only
  rw [if_neg (by simp)]
  simp only [decide_true, Bool.not_true, Bool.not_false, if_true, Option.bind_some, Bool.false_or]
  rw [if_neg (by simp)]
  refine loop_eq (L := fun f h i => m_law10_AffineImages_l1 (out, 0) to m names ext f h i) (n := out.length) (by omega) (fun i h => h = decide (to ∈ out.take i)) (fun f i hs hi hh => ?_) (fun f hs hh => ?_) false (by simp)
  ·obtain ⟨t, ht⟩ := at_some hi
   have htm := List.mem_of_getElem? ht
   obtain ⟨k0, hk0, e0⟩ := (hmem t).1 htm
   have htl2 : t.length = m.length := by rw [← e0]; simp [img]
   obtain ⟨p, pb, pe, q1, q2, q3⟩ := first_ok hB hall v1 b1 t
   have q4 := q3 htl2
   subst q4
   rcases q2 rfl with ⟨rfl, k, hk, rfl, ek⟩ | ⟨_, hno⟩
   rotate_left
   ·exact absurd e0 (hno k0 hk0)
   have hA : m_affine_Apply m names (pt k) = some (t, 0) := by
    unfold m_affine_Apply
    rw [v1, Option.bind_some, if_neg (by simp), if_neg (by rw [(hB.pl k hk).1]; simp)]
    rcases hB.img hk with ⟨i1, _⟩ | ⟨_, i2⟩
    ·rw [i1, Option.bind_some, ek]
    ·exact absurd (hall k hk) i2
   left
   refine ⟨hs || decide (t = to), ?_, ?_⟩
   ·rw [take_succ' ht, hh, Bool.eq_iff_iff, Bool.or_eq_true, decide_eq_true_iff, decide_eq_true_iff, decide_eq_true_iff, List.mem_append, List.mem_singleton]; exact or_congr_right eq_comm
   ·have hlt : ∀ u, 0 < i → out[i - 1]? = some u → m_ref10_Less u t = some true := fun u hi0 hu => by
     obtain ⟨ku, hku, eu⟩ := (hmem u).1 (List.mem_of_getElem? hu)
     have hul : u.length = m.length := by rw [← eu]; simp [img]
     obtain ⟨g1, g2⟩ := List.getElem?_eq_some_iff.1 hu
     obtain ⟨g3, g4⟩ := List.getElem?_eq_some_iff.1 ht
     have := List.pairwise_iff_getElem.1 o2 (i - 1) i g1 g3 (by omega)
     rw [g2, g4] at this
     rw [less_ok u t (by omega) (by omega), this]
    obtain ⟨e1, a1, a2⟩ : ∃ e1, gd (decide (0 < (i : Int))) (lat out (wi64 ((i : Int) - 1))) = some e1 ∧ (0 < i → out[i - 1]? = some e1) := by
     by_cases hi0 : 0 < i
     ·obtain ⟨u, hu⟩ := at_some (l := out) (i := i - 1) (by omega)
      refine ⟨u, ?_, fun _ => hu⟩
      rw [wid' (by omega) (by omega), lat_at hu, decide_eq_true (p := 0 < (i : Int)) (by omega)]; rfl
     ·exact ⟨default, by rw [decide_eq_false (p := 0 < (i : Int)) (by omega)]; rfl, fun h => absurd h hi0⟩
    obtain ⟨e2, a3, a4⟩ : ∃ e2, gd (decide (0 < (i : Int))) (lat out (i : Int)) = some e2 ∧ (0 < i → e2 = t) := by
     by_cases hi0 : 0 < i
     ·exact ⟨t, by rw [lat_at ht, decide_eq_true (p := 0 < (i : Int)) (by omega)]; rfl, fun _ => rfl⟩
     ·exact ⟨default, by rw [decide_eq_false (p := 0 < (i : Int)) (by omega)]; rfl, fun h => absurd h hi0⟩
    obtain ⟨r10, a5, a6⟩ : ∃ r10, gd (decide (0 < (i : Int))) (m_ref10_Less e1 e2) = some r10 ∧ (decide (0 < (i : Int)) && !r10) = false := by
     by_cases hi0 : 0 < i
     ·exact ⟨true, by rw [decide_eq_true (p := 0 < (i : Int)) (by omega), a4 hi0, hlt e1 hi0 (a2 hi0)]; rfl, by simp⟩
     ·exact ⟨default, by rw [decide_eq_false (p := 0 < (i : Int)) (by omega)]; rfl, by rw [decide_eq_false (p := 0 < (i : Int)) (by omega)]; rfl⟩
    simp only [m_law10_AffineImages_l1]
    rw [if_pos (lt_dec hi), a1, Option.bind_some, a3, Option.bind_some, a5, Option.bind_some, a6, if_neg (by simp), lat_at ht]
    obtain ⟨r11, a7, a8⟩ : ∃ r11, ((gd (!hs) (some t)).bind fun e3 => gd (!hs) (m_base_Int64s e3 to)) = some r11 ∧ (hs || r11) = (hs || decide (t = to)) := by
     cases hs with
     | true => exact ⟨default, by simp [gd], by simp⟩
     | false => exact ⟨decide (t = to), by simp [gd, int64s_ok t to (by omega)], rfl⟩
    rw [← Option.bind_assoc, a7]
    simp only [Option.bind_some]
    rw [q1]
    simp only [Option.bind_some]
    rw [hA]
    simp [gd, int64s_ok t t (by omega), a8, wis (i := i) (by omega)]
  ·rw [List.take_length] at hh
   simp only [m_law10_AffineImages_l1]
   rw [if_neg (by simp)]
   unfold m_law10_AffineImages_j1
   obtain ⟨p, pb, pe, q1, q2, q3⟩ := first_ok hB hall v1 b1 to
   rw [q1, Option.bind_some, ex10]
   by_cases c0 : pe = 0
   ·have e3 : (pb == hs) = true := by
     rw [hh]
     rcases q2 c0 with ⟨rfl, k, hk, _, ek⟩ | ⟨rfl, hno⟩
     ·rw [decide_eq_true ((hmem to).2 ⟨k, hk, ek⟩)]; rfl
     ·rw [decide_eq_false (fun h => by obtain ⟨k, hk, e⟩ := (hmem to).1 h; exact hno k hk e)]; rfl
    simp [gd, e3]
   ·simp [gd, c0]
end Go.Proofs.Ytaokohndeepbjaa
