import Derived.Test.YtaokohndeepbjaaSVsp
namespace Go.Proofs.Ytaokohndeepbjaa.Soaffine_pair
open Go Go.RowKit Go.Vc
set_option linter.unusedVariables false
set_option linter.unusedSimpArgs false
variable {cmp : Gaffine_pair → Gaffine_pair → Option Int} {lt : Gaffine_pair → Gaffine_pair → Prop}
theorem mv_r (y : Gaffine_pair) (Y : List Gaffine_pair) : ∀ (R1 A : List Gaffine_pair) (f i : Nat), R1.length < f → i = A.length + 1 + R1.length → i < 4611686018427387904 →
  m_slices_symMergeCmpFunc_affine_pair_w_l4 (i : Int) f (A.length : Int) (A ++ y :: (R1 ++ Y)) = some ((), A ++ R1 ++ y :: Y) := by
 intro R1
 induction R1 with
 | nil =>
  intro A f i hf hi hB
  obtain ⟨f, rfl⟩ : ∃ g, f = g + 1 := ⟨f - 1, by omega⟩
  simp only [m_slices_symMergeCmpFunc_affine_pair_w_l4]
  rw [wid' (by omega) hB, if_neg (by simp at hi; simp; omega)]; simp
 | cons x R1 ih =>
  intro A f i hf hi hB
  obtain ⟨f, rfl⟩ : ∃ g, f = g + 1 := ⟨f - 1, by omega⟩
  rw [List.length_cons] at hf hi
  simp only [m_slices_symMergeCmpFunc_affine_pair_w_l4]
  rw [wid' (by omega) hB, if_pos (by simp; omega), wis (by omega), List.cons_append, latm1 A (R1 ++ Y) y x rfl, Option.bind_some, latm A (x :: (R1 ++ Y)) y rfl, Option.bind_some, if_pos (by simp; omega), if_pos (by simp; omega), Int.toNat_natCast, Int.toNat_natCast, swpR]
  have e := ih (A ++ [x]) f i (by omega) (by simp; omega) hB
  rw [show (A ++ [x]).length = A.length + 1 by simp] at e
  rw [show A ++ x :: y :: (R1 ++ Y) = A ++ [x] ++ y :: (R1 ++ Y) by simp, e]; simp
theorem mv_l (x : Gaffine_pair) (A : List Gaffine_pair) : ∀ (n : Nat) (L2 Y : List Gaffine_pair) (f : Nat), L2.length = n → n < f → A.length + n < 4611686018427387904 →
  m_slices_symMergeCmpFunc_affine_pair_w_l2 (A.length : Int) f ((A.length + n : Nat) : Int) (A ++ L2 ++ x :: Y) = some ((), A ++ x :: (L2 ++ Y)) := by
 intro n
 induction n with
 | zero =>
  intro L2 Y f hl hf hB
  obtain ⟨f, rfl⟩ : ∃ g, f = g + 1 := ⟨f - 1, by omega⟩
  obtain rfl : L2 = [] := List.length_eq_zero_iff.1 hl
  simp only [m_slices_symMergeCmpFunc_affine_pair_w_l2]
  rw [if_neg (by simp)]; simp
 | succ n ih =>
  intro L2 Y f hl hf hB
  obtain ⟨f, rfl⟩ : ∃ g, f = g + 1 := ⟨f - 1, by omega⟩
  obtain ⟨L0, y, rfl⟩ : ∃ L0 y, L2 = L0 ++ [y] := by
   rcases List.eq_nil_or_concat L2 with h | ⟨P0, y, h⟩
   ·subst h; simp at hl
   ·exact ⟨P0, y, by simpa using h⟩
  have hk : L0.length = n := by simpa using hl
  simp only [m_slices_symMergeCmpFunc_affine_pair_w_l2]
  rw [show A.length + (n + 1) = (A.length + n) + 1 by omega, wid (by omega), show A ++ (L0 ++ [y]) ++ x :: Y = (A ++ L0) ++ y :: x :: Y by simp]
  rw [if_pos (by simp; omega), latm (A ++ L0) (x :: Y) y (by simp; omega), Option.bind_some, latm1 (A ++ L0) Y y x (by simp; omega), Option.bind_some, if_pos (by simp; omega), if_pos (by simp; omega), Int.toNat_natCast, Int.toNat_natCast]
  have e3 := swpL (A ++ L0) Y x y
  rw [show (A ++ L0).length = A.length + n by simp; omega] at e3
  rw [e3, ih L0 (y :: Y) f hk (by omega) (by omega)]; simp
theorem symA (sw : SW lt) (X R Y : List Gaffine_pair) (y : Gaffine_pair) (hB : X.length + 1 + R.length < 2305843009213693952) (hR : Sd lt R) (hA : ∀ x ∈ R, Ag cmp lt y x) :
  ∃ M, M.Perm (y :: R) ∧ Sd lt M ∧ m_slices_symMergeCmpFunc_affine_pair_w_l5 (X ++ y :: (R ++ Y)) (X.length : Int) cmp fu ((X.length + 1 : Nat) : Int) ((X.length + 1 + R.length : Nat) : Int) = some ((), X ++ M ++ Y) := by
 have hd : X ++ y :: (R ++ Y) = (X ++ [y]) ++ R ++ Y := by simp
 obtain ⟨s, h1, h2, h3, h4, h5⟩ := bins (fun f i j => m_slices_symMergeCmpFunc_affine_pair_w_l5 (X ++ y :: (R ++ Y)) (X.length : Int) cmp f i j) (fun i => m_slices_symMergeCmpFunc_affine_pair_w_j8 (X.length : Int) (X ++ y :: (R ++ Y)) i)
  (fun h => ∃ x, R[h - (X.length + 1)]? = some x ∧ lt x y) (lo := X.length + 1) (hi := X.length + 1 + R.length) (by omega) hB
  (fun h h' a b c ⟨x, hx, hlt⟩ => by
   obtain ⟨x', hx'⟩ := at_some (l := R) (i := h' - (X.length + 1)) (by omega)
   refine ⟨x', hx', Classical.byContradiction fun hn => ?_⟩
   exact sw.nt _ _ _ (hR.get' sw (by omega) hx' hx) hn hlt)
  (fun f i j a b c => by
   obtain ⟨x, hx⟩ := at_some (l := R) (i := (i + j) / 2 - (X.length + 1)) (by omega)
   obtain ⟨z, hz, hzl⟩ := hA x (List.mem_of_getElem? hx)
   have g1 : lat (X ++ y :: (R ++ Y)) (((i + j) / 2 : Nat) : Int) = some x := by rw [hd]; exact latR _ _ _ (by simp; omega) hx
   simp only [m_slices_symMergeCmpFunc_affine_pair_w_l5]
   rw [if_pos (by simpa using b), midN (by omega)]
   simp only [Option.bind_some]
   rw [g1, Option.bind_some, latm X (R ++ Y) y rfl, Option.bind_some, hz, Option.bind_some]
   by_cases hc : z < 0
   ·left; exact ⟨⟨x, hx, hzl.1 hc⟩, by rw [if_pos (by simpa using hc), wis (by omega)]⟩
   ·right; refine ⟨fun ⟨x', hx', hl⟩ => ?_, by rw [if_neg (by simpa using hc)]⟩
    rw [hx] at hx'; injection hx' with hx'; subst hx'; exact hc (hzl.2 hl))
  (fun f i a b => by
   simp only [m_slices_symMergeCmpFunc_affine_pair_w_l5]
   rw [if_neg (by simp)])
 refine ⟨R.take (s - (X.length + 1)) ++ y :: R.drop (s - (X.length + 1)), ?_, ?_, ?_⟩
 ·refine List.perm_middle.trans ?_
  rw [List.take_append_drop]
 ·refine Sd.app (hR.take' _) (List.pairwise_cons.2 ⟨fun z hz => ?_, hR.drop' _⟩) fun u hu z hz => ?_
  ·obtain ⟨i, hi, hz⟩ := mem_drop' hz
   obtain ⟨hi2, _⟩ := List.getElem?_eq_some_iff.1 hz
   exact fun hl => h4 (i + (X.length + 1)) (by omega) (by omega) ⟨z, by rw [Nat.add_sub_cancel]; exact hz, hl⟩
  ·obtain ⟨i, hi, hu⟩ := mem_take' hu
   obtain ⟨x', hx', hl⟩ := h3 (i + (X.length + 1)) (by omega) (by omega)
   rw [Nat.add_sub_cancel, hu] at hx'; injection hx' with hx'; subst hx'
   rcases List.mem_cons.1 hz with rfl | hz
   ·exact sw.asy _ _ hl
   ·obtain ⟨k, hk, hz⟩ := mem_drop' hz
    exact hR.get (by omega) hu hz
 ·rw [h5, m_slices_symMergeCmpFunc_affine_pair_w_j8]
  have e := mv_r y (R.drop (s - (X.length + 1)) ++ Y) (R.take (s - (X.length + 1))) X fu s (by simp; unfold fu; omega) (by rw [List.length_take]; omega) (by omega)
  rw [← List.append_assoc (R.take _), List.take_append_drop] at e
  rw [e]; simp
theorem symB (sw : SW lt) (X L Y : List Gaffine_pair) (x : Gaffine_pair) (hB : X.length + L.length + 1 < 2305843009213693952) (hL : Sd lt L) (hA : ∀ y ∈ L, Ag cmp lt y x) :
  ∃ M, M.Perm (L ++ [x]) ∧ Sd lt M ∧ m_slices_symMergeCmpFunc_affine_pair_w_l3 (X ++ L ++ x :: Y) ((X.length + L.length : Nat) : Int) cmp fu (X.length : Int) ((X.length + L.length : Nat) : Int) = some ((), X ++ M ++ Y) := by
 obtain ⟨s, h1, h2, h3, h4, h5⟩ := bins (fun f i j => m_slices_symMergeCmpFunc_affine_pair_w_l3 (X ++ L ++ x :: Y) ((X.length + L.length : Nat) : Int) cmp f i j) (fun i => m_slices_symMergeCmpFunc_affine_pair_w_j7 ((X.length + L.length : Nat) : Int) (X ++ L ++ x :: Y) i)
  (fun h => ∃ y, L[h - X.length]? = some y ∧ ¬ lt x y) (lo := X.length) (hi := X.length + L.length) (by omega) (by omega)
  (fun h h' a b c ⟨y, hy, hlt⟩ => by
   obtain ⟨y', hy'⟩ := at_some (l := L) (i := h' - X.length) (by omega)
   exact ⟨y', hy', sw.nt _ _ _ hlt (hL.get' sw (by omega) hy' hy)⟩)
  (fun f i j a b c => by
   obtain ⟨y, hy⟩ := at_some (l := L) (i := (i + j) / 2 - X.length) (by omega)
   obtain ⟨z, hz, hzl⟩ := hA y (List.mem_of_getElem? hy)
   have g1 : lat (X ++ L ++ x :: Y) (((i + j) / 2 : Nat) : Int) = some y := latR _ _ _ (by omega) hy
   simp only [m_slices_symMergeCmpFunc_affine_pair_w_l3]
   rw [if_pos (by simpa using b), midN (by omega)]
   simp only [Option.bind_some]
   rw [latm (X ++ L) Y x (by simp), Option.bind_some, g1, Option.bind_some, hz, Option.bind_some]
   by_cases hc : z < 0
   ·right; refine ⟨fun ⟨y', hy', hl⟩ => ?_, by rw [if_neg (by simpa using hc)]⟩
    rw [hy] at hy'; injection hy' with hy'; subst hy'; exact hl (hzl.1 hc)
   ·left; exact ⟨⟨y, hy, fun hl => hc (hzl.2 hl)⟩, by rw [if_pos (by simpa using hc), wis (by omega)]⟩)
  (fun f i a b => by
   simp only [m_slices_symMergeCmpFunc_affine_pair_w_l3]
   rw [if_neg (by simp)])
 have hlt : ∀ z ∈ L.drop (s - X.length), lt x z := fun z hz => by
  obtain ⟨i, hi, hz⟩ := mem_drop' hz
  obtain ⟨hi2, _⟩ := List.getElem?_eq_some_iff.1 hz
  exact Classical.byContradiction fun hl => h4 (i + X.length) (by omega) (by omega) ⟨z, by rw [Nat.add_sub_cancel]; exact hz, hl⟩
 refine ⟨L.take (s - X.length) ++ x :: L.drop (s - X.length), ?_, ?_, ?_⟩
 ·refine List.perm_middle.trans ?_
  rw [List.take_append_drop]
  exact (List.perm_append_singleton x L).symm
 ·refine Sd.app (hL.take' _) (List.pairwise_cons.2 ⟨fun z hz => sw.asy _ _ (hlt z hz), hL.drop' _⟩) fun u hu z hz => ?_
  obtain ⟨i, hi, hu⟩ := mem_take' hu
  rcases List.mem_cons.1 hz with rfl | hz
  ·obtain ⟨y', hy', hl⟩ := h3 (i + X.length) (by omega) (by omega)
   rw [Nat.add_sub_cancel, hu] at hy'; injection hy' with hy'; subst hy'; exact hl
  ·obtain ⟨k, hk, hz⟩ := mem_drop' hz
   exact hL.get (by omega) hu hz
 ·rw [h5, m_slices_symMergeCmpFunc_affine_pair_w_j7]
  have e := mv_l x (X ++ L.take (s - X.length)) (L.drop (s - X.length)).length (L.drop (s - X.length)) Y fu rfl (by simp; unfold fu; omega) (by simp; omega)
  rw [show (X ++ L.take (s - X.length)).length = s by rw [List.length_append, List.length_take]; omega, show s + (L.drop (s - X.length)).length = X.length + L.length by rw [List.length_drop]; omega, List.append_assoc X, List.take_append_drop] at e
  rw [e]; simp
theorem sym_j4 (sw : SW lt) (rec : List Gaffine_pair → Int → Int → Int → (Gaffine_pair → Gaffine_pair → Option Int) → Option (Unit × List Gaffine_pair)) (X L1 L2 R1 R2 Y : List Gaffine_pair) (mid m a b s e : Nat)
  (ha : a = X.length) (hs : s = a + L1.length) (hm : m = s + L2.length) (he : e = m + R1.length) (hb : b = e + R2.length) (hmid : mid = s + R1.length) (hB : b + mid < 2305843009213693952)
  (hL1 : Sd lt L1) (hL2 : Sd lt L2) (hR1 : Sd lt R1) (hR2 : Sd lt R2) (c1 : ∀ x ∈ L1, ∀ y ∈ R2, ¬ lt y x) (c2 : ∀ x ∈ R1, ∀ y ∈ L2, ¬ lt y x) (c3 : ∀ x ∈ L1, ∀ y ∈ L2, ¬ lt y x) (c4 : ∀ x ∈ R1, ∀ y ∈ R2, ¬ lt y x)
  (r1 : 1 ≤ L1.length → 1 ≤ R1.length → ∀ Y' : List Gaffine_pair, ∃ M, M.Perm (L1 ++ R1) ∧ Sd lt M ∧ rec (X ++ L1 ++ R1 ++ Y') (a : Int) (s : Int) (mid : Int) cmp = some ((), X ++ M ++ Y'))
  (r2 : 1 ≤ L2.length → 1 ≤ R2.length → ∀ X' : List Gaffine_pair, X'.length = mid → ∃ M, M.Perm (L2 ++ R2) ∧ Sd lt M ∧ rec (X' ++ L2 ++ R2 ++ Y) (mid : Int) (e : Int) (b : Int) cmp = some ((), X' ++ M ++ Y)) :
  ∃ M, M.Perm ((L1 ++ L2) ++ (R1 ++ R2)) ∧ Sd lt M ∧ m_slices_symMergeCmpFunc_affine_pair_w_j4 (mid : Int) (m : Int) (X ++ L1 ++ L2 ++ R1 ++ R2 ++ Y) cmp (a : Int) rec (b : Int) (s : Int) = some ((), X ++ M ++ Y) := by
 have e1 : wi64 (wi64 ((mid : Int) + (m : Int)) - (s : Int)) = (e : Int) := by rw [wia (by omega), wisub (by omega) (by omega)]; congr 1; omega
 have hrot : m_slices_symMergeCmpFunc_affine_pair_w_j4 (mid : Int) (m : Int) (X ++ L1 ++ L2 ++ R1 ++ R2 ++ Y) cmp (a : Int) rec (b : Int) (s : Int) = m_slices_symMergeCmpFunc_affine_pair_w_j5 (a : Int) (s : Int) (mid : Int) rec cmp (e : Int) (b : Int) (X ++ L1 ++ R1 ++ (L2 ++ R2 ++ Y)) := by
  rw [m_slices_symMergeCmpFunc_affine_pair_w_j4, e1, Option.bind_some]
  by_cases h : s < m ∧ m < e
  ·rw [if_pos (by simp; omega)]
   have k := rotate (cmp := cmp) (X ++ L1) L2 R1 (R2 ++ Y) (by omega) (by omega) (a := s) (m := m) (b := e) (by simp; omega) (by simp; omega) (by simp; omega) (by omega)
   rw [show X ++ L1 ++ L2 ++ R1 ++ R2 ++ Y = X ++ L1 ++ L2 ++ R1 ++ (R2 ++ Y) by simp, k, Option.bind_some]
   congr 1; simp
  ·rw [if_neg (by simp; omega)]
   congr 1
   by_cases h2 : L2.length = 0
   ·rw [List.length_eq_zero_iff.1 h2]; simp
   ·rw [List.length_eq_zero_iff.1 (show R1.length = 0 by omega)]; simp
 obtain ⟨M1, p1, s1, q1⟩ : ∃ M1, M1.Perm (L1 ++ R1) ∧ Sd lt M1 ∧ m_slices_symMergeCmpFunc_affine_pair_w_j5 (a : Int) (s : Int) (mid : Int) rec cmp (e : Int) (b : Int) (X ++ L1 ++ R1 ++ (L2 ++ R2 ++ Y)) = m_slices_symMergeCmpFunc_affine_pair_w_j6 (mid : Int) (e : Int) (b : Int) rec cmp (X ++ M1 ++ (L2 ++ R2 ++ Y)) := by
  rw [m_slices_symMergeCmpFunc_affine_pair_w_j5]
  by_cases h : a < s ∧ s < mid
  ·obtain ⟨M, k1, k2, k3⟩ := r1 (by omega) (by omega) (L2 ++ R2 ++ Y)
   exact ⟨M, k1, k2, by rw [if_pos (by simp; omega), k3, Option.bind_some]⟩
  ·refine ⟨L1 ++ R1, List.Perm.refl _, ?_, by rw [if_neg (by simp; omega)]; simp⟩
   by_cases h2 : L1.length = 0
   ·rw [List.length_eq_zero_iff.1 h2]; simpa using hR1
   ·rw [List.length_eq_zero_iff.1 (show R1.length = 0 by omega)]; simpa using hL1
 have l1 : M1.length = L1.length + R1.length := by have := p1.length_eq; simpa using this
 obtain ⟨M2, p2, s2, q2⟩ : ∃ M2, M2.Perm (L2 ++ R2) ∧ Sd lt M2 ∧ m_slices_symMergeCmpFunc_affine_pair_w_j6 (mid : Int) (e : Int) (b : Int) rec cmp (X ++ M1 ++ (L2 ++ R2 ++ Y)) = some ((), X ++ M1 ++ M2 ++ Y) := by
  rw [m_slices_symMergeCmpFunc_affine_pair_w_j6]
  by_cases h : mid < e ∧ e < b
  ·obtain ⟨M, k1, k2, k3⟩ := r2 (by omega) (by omega) (X ++ M1) (by simp; omega)
   refine ⟨M, k1, k2, ?_⟩
   rw [if_pos (by simp; omega), show X ++ M1 ++ (L2 ++ R2 ++ Y) = X ++ M1 ++ L2 ++ R2 ++ Y by simp, k3, Option.bind_some]
  ·refine ⟨L2 ++ R2, List.Perm.refl _, ?_, by rw [if_neg (by simp; omega)]; simp⟩
   by_cases h2 : L2.length = 0
   ·rw [List.length_eq_zero_iff.1 h2]; simpa using hR2
   ·rw [List.length_eq_zero_iff.1 (show R2.length = 0 by omega)]; simpa using hL2
 refine ⟨M1 ++ M2, ?_, ?_, by rw [hrot, q1, q2]; simp⟩
 ·refine (p1.append p2).trans ?_
  simp only [List.append_assoc]
  refine List.Perm.append_left L1 ?_
  rw [← List.append_assoc, ← List.append_assoc]
  exact List.Perm.append_right R2 List.perm_append_comm
 ·refine Sd.app s1 s2 fun x hx y hy => ?_
  rcases List.mem_append.1 (p1.mem_iff.1 hx) with hx | hx <;> rcases List.mem_append.1 (p2.mem_iff.1 hy) with hy | hy
  ·exact c3 x hx y hy
  ·exact c1 x hx y hy
  ·exact c2 x hx y hy
  ·exact c4 x hx y hy
theorem symMerge_r (sw : SW lt) : ∀ (n f : Nat) (X L R Y : List Gaffine_pair), L.length + R.length ≤ n → n < f → 1 ≤ L.length → 1 ≤ R.length → X.length + L.length + R.length < 1152921504606846976 → Sd lt L → Sd lt R → (∀ y ∈ L, ∀ x ∈ R, Ag cmp lt y x) →
  ∃ M, M.Perm (L ++ R) ∧ Sd lt M ∧ m_slices_symMergeCmpFunc_affine_pair_w_r f (X ++ L ++ R ++ Y) (X.length : Int) ((X.length + L.length : Nat) : Int) ((X.length + L.length + R.length : Nat) : Int) cmp = some ((), X ++ M ++ Y) := by
 intro n
 induction n with
 | zero => intro f X L R Y h1 h2 h3; omega
 | succ n ih =>
  intro f X L R Y hn hf hL1 hR1 hB hL hR hA
  obtain ⟨f, rfl⟩ : ∃ g, f = g + 1 := ⟨f - 1, by omega⟩
  simp only [m_slices_symMergeCmpFunc_affine_pair_w_r]
  unfold m_slices_symMergeCmpFunc_affine_pair_w_b
  rw [wisub (by omega) (by omega), show X.length + L.length - X.length = L.length by omega]
  by_cases h1 : L.length = 1
  ·obtain ⟨y, rfl⟩ := List.length_eq_one_iff.1 h1
   obtain ⟨M, k1, k2, k3⟩ := symA sw X R Y y (by omega) hR (fun x hx => hA y (by simp) x hx)
   refine ⟨M, by simpa using k1, k2, ?_⟩
   rw [if_pos (by simp), ← k3]; simp
  rw [if_neg (by simp; omega), m_slices_symMergeCmpFunc_affine_pair_w_j1, wisub (by omega) (by omega), show X.length + L.length + R.length - (X.length + L.length) = R.length by omega]
  by_cases h2 : R.length = 1
  ·obtain ⟨x, rfl⟩ := List.length_eq_one_iff.1 h2
   obtain ⟨M, k1, k2, k3⟩ := symB sw X L Y x (by simp at hB; omega) hL (fun y hy => hA y hy x (by simp))
   refine ⟨M, k1, k2, ?_⟩
   rw [if_pos (by simp), ← k3]; simp
  rw [if_neg (by simp; omega), m_slices_symMergeCmpFunc_affine_pair_w_j2]
  obtain ⟨a, ha⟩ : ∃ a, a = X.length := ⟨_, rfl⟩
  obtain ⟨m, hm⟩ : ∃ m, m = X.length + L.length := ⟨_, rfl⟩
  obtain ⟨b, hb⟩ : ∃ b, b = X.length + L.length + R.length := ⟨_, rfl⟩
  rw [← hb, ← hm, ← ha, midN (by omega), Option.bind_some]
  obtain ⟨mid, hmid⟩ : ∃ mid, mid = (a + b) / 2 := ⟨_, rfl⟩
  rw [← hmid]
  have main : ∀ st r0 : Nat, a ≤ st → st ≤ r0 → r0 ≤ m → mid + m - st ≤ b → r0 ≤ mid → (st = a ∨ mid + m - st = b) → (r0 = m ∨ r0 = mid) → ∃ M, M.Perm (L ++ R) ∧ Sd lt M ∧ m_slices_symMergeCmpFunc_affine_pair_w_j3 (mid : Int) (m : Int) (X ++ L ++ R ++ Y) cmp (a : Int) (m_slices_symMergeCmpFunc_affine_pair_w_r f) (b : Int) (st : Int) (r0 : Int) = some ((), X ++ M ++ Y) := by
   intro st r0 q1 q2 q3 q4 q5 q6 q7
   rw [m_slices_symMergeCmpFunc_affine_pair_w_j3, wia (by omega), wid' (by omega) (by omega), Option.bind_some]
   obtain ⟨s, h1, h2, h3, h4, h5⟩ := bins (fun f' i j => m_slices_symMergeCmpFunc_affine_pair_w_l1 (X ++ L ++ R ++ Y) ((mid + m - 1 : Nat) : Int) cmp (mid : Int) (m : Int) (a : Int) (m_slices_symMergeCmpFunc_affine_pair_w_r f) (b : Int) f' i j)
    (fun i => m_slices_symMergeCmpFunc_affine_pair_w_j4 (mid : Int) (m : Int) (X ++ L ++ R ++ Y) cmp (a : Int) (m_slices_symMergeCmpFunc_affine_pair_w_r f) (b : Int) i)
    (fun c => ∃ y x, L[c - a]? = some y ∧ R[mid + m - 1 - c - m]? = some x ∧ ¬ lt x y) (lo := st) (hi := r0) q2 (by omega)
    (fun h h' a1 b1 c1 ⟨y, x, hy, hx, hl⟩ => by
     obtain ⟨y', hy'⟩ := at_some (l := L) (i := h' - a) (by omega)
     obtain ⟨x', hx'⟩ := at_some (l := R) (i := mid + m - 1 - h' - m) (by omega)
     refine ⟨y', x', hy', hx', ?_⟩
     exact sw.nt _ _ _ (hR.get' sw (by omega) hx hx') (sw.nt _ _ _ hl (hL.get' sw (by omega) hy' hy)))
    (fun f' i j a1 b1 c1 => by
     obtain ⟨y, hy⟩ := at_some (l := L) (i := (i + j) / 2 - a) (by omega)
     obtain ⟨x, hx⟩ := at_some (l := R) (i := mid + m - 1 - (i + j) / 2 - m) (by omega)
     obtain ⟨z, hz, hzl⟩ := hA y (List.mem_of_getElem? hy) x (List.mem_of_getElem? hx)
     simp only [m_slices_symMergeCmpFunc_affine_pair_w_l1]
     rw [if_pos (by simpa using b1), midN (by omega)]
     simp only [Option.bind_some]
     have g1 : lat (X ++ L ++ R ++ Y) ((mid + m - 1 - (i + j) / 2 : Nat) : Int) = some x := latR (X ++ L) R Y (by simp; omega) hx
     have g2 : lat (X ++ L ++ R ++ Y) (((i + j) / 2 : Nat) : Int) = some y := by rw [List.append_assoc (X ++ L)]; exact latR X L (R ++ Y) (by omega) hy
     rw [wisub (by omega) (by omega), g1, Option.bind_some, g2, Option.bind_some, hz, Option.bind_some]
     by_cases hc : z < 0
     ·right; refine ⟨fun ⟨y', x', hy', hx', hl⟩ => ?_, by rw [if_neg (by simpa using hc)]⟩
      rw [hy] at hy'; injection hy' with hy'; subst hy'
      rw [hx] at hx'; injection hx' with hx'; subst hx'; exact hl (hzl.1 hc)
     ·left; exact ⟨⟨y, x, hy, hx, fun hl => hc (hzl.2 hl)⟩, by rw [if_pos (by simpa using hc), wis (by omega)]⟩)
    (fun f' i a1 b1 => by
     simp only [m_slices_symMergeCmpFunc_affine_pair_w_l1]
     rw [if_neg (by simp)])
   rw [h5]
   have hLt := List.take_append_drop (s - a) L
   have hRt := List.take_append_drop (mid - s) R
   have lL1 : (L.take (s - a)).length = s - a := by rw [List.length_take]; omega
   have lL2 : (L.drop (s - a)).length = m - s := by rw [List.length_drop]; omega
   have lR1 : (R.take (mid - s)).length = mid - s := by rw [List.length_take]; omega
   have lR2 : (R.drop (mid - s)).length = b - (mid + m - s) := by rw [List.length_drop]; omega
   obtain ⟨M, k1, k2, k3⟩ := sym_j4 (cmp := cmp) sw (m_slices_symMergeCmpFunc_affine_pair_w_r f) X (L.take (s - a)) (L.drop (s - a)) (R.take (mid - s)) (R.drop (mid - s)) Y mid m a b s (mid + m - s) ha (by omega) (by omega) (by omega) (by omega) (by omega) (by omega)
    (hL.take' _) (hL.drop' _) (hR.take' _) (hR.drop' _)
    (fun x hx y hy => by
     obtain ⟨i, hi, hx⟩ := mem_take' hx
     obtain ⟨k, hk, hy⟩ := mem_drop' hy
     obtain ⟨hk2, _⟩ := List.getElem?_eq_some_iff.1 hy
     by_cases he : s = st
     ·omega
     ·obtain ⟨y0, x0, hy0, hx0, hl⟩ := h3 (s - 1) (by omega) (by omega)
      exact sw.nt _ _ _ (hR.get' sw (by omega) hx0 hy) (sw.nt _ _ _ hl (hL.get' sw (by omega) hx hy0)))
    (fun x hx y hy => by
     obtain ⟨i, hi, hx⟩ := mem_take' hx
     obtain ⟨k, hk, hy⟩ := mem_drop' hy
     obtain ⟨hk2, _⟩ := List.getElem?_eq_some_iff.1 hy
     by_cases he : s = r0
     ·omega
     ·obtain ⟨y0, hy0⟩ := at_some (l := L) (i := s - a) (by omega)
      obtain ⟨x0, hx0⟩ := at_some (l := R) (i := mid + m - 1 - s - m) (by omega)
      have hl : lt x0 y0 := Classical.byContradiction fun hl => h4 s (Nat.le_refl _) (by omega) ⟨y0, x0, hy0, hx0, hl⟩
      exact sw.nt _ _ _ (hL.get' sw (by omega) hy0 hy) (sw.nt _ _ _ (sw.asy _ _ hl) (hR.get' sw (by omega) hx hx0)))
    (fun x hx y hy => by
     obtain ⟨i, hi, hx⟩ := mem_take' hx
     obtain ⟨k, hk, hy⟩ := mem_drop' hy
     exact hL.get (by omega) hx hy)
    (fun x hx y hy => by
     obtain ⟨i, hi, hx⟩ := mem_take' hx
     obtain ⟨k, hk, hy⟩ := mem_drop' hy
     exact hR.get (by omega) hx hy)
    (fun e1 e2 Y' => by
     obtain ⟨M, k1, k2, k3⟩ := ih f X (L.take (s - a)) (R.take (mid - s)) Y' (by omega) (by omega) e1 e2 (by omega) (hL.take' _) (hR.take' _) (fun y hy x hx => hA y (List.mem_of_mem_take hy) x (List.mem_of_mem_take hx))
     refine ⟨M, k1, k2, ?_⟩
     rw [← k3]; congr 1 <;> congr 1 <;> omega)
    (fun e1 e2 X' hX' => by
     obtain ⟨M, k1, k2, k3⟩ := ih f X' (L.drop (s - a)) (R.drop (mid - s)) Y (by omega) (by omega) e1 e2 (by omega) (hL.drop' _) (hR.drop' _) (fun y hy x hx => hA y (List.mem_of_mem_drop hy) x (List.mem_of_mem_drop hx))
     refine ⟨M, k1, k2, ?_⟩
     rw [← k3]; congr 1 <;> congr 1 <;> omega)
   refine ⟨M, by rw [hLt, hRt] at k1; exact k1, k2, ?_⟩
   rw [← k3]
   congr 1
   rw [show X ++ List.take (s - a) L ++ List.drop (s - a) L ++ List.take (mid - s) R ++ List.drop (mid - s) R ++ Y = X ++ (List.take (s - a) L ++ List.drop (s - a) L) ++ (List.take (mid - s) R ++ List.drop (mid - s) R) ++ Y by simp only [List.append_assoc], hLt, hRt]
  by_cases hc : mid < m
  ·rw [if_pos (by simpa using hc), wia (by omega), wisub (by omega) (by omega), Option.bind_some]
   exact main (mid + m - b) mid (by omega) (by omega) (by omega) (by omega) (by omega) (by omega) (by omega)
  ·rw [if_neg (by simpa using hc)]
   exact main a m (by omega) (by omega) (by omega) (by omega) (by omega) (by omega) (by omega)
end Go.Proofs.Ytaokohndeepbjaa.Soaffine_pair
