import Derived.Test.YtaokohndeepbjaaSVb
namespace Go.Proofs.Ytaokohndeepbjaa.Soaffine_pair
open Go Go.RowKit Go.Vc
set_option linter.unusedVariables false
set_option linter.unusedSimpArgs false
variable {cmp : Gaffine_pair → Gaffine_pair → Option Int} {lt : Gaffine_pair → Gaffine_pair → Prop}
theorem ins_in (sw : SW lt) (a : Nat) (X Y : List Gaffine_pair) (x : Gaffine_pair) (self : Int → List Gaffine_pair → Option (Unit × List Gaffine_pair)) (i : Int) (hX : X.length = a) :
  ∀ (k : Nat) (P Q : List Gaffine_pair) (f : Nat), P.length = k → k < f → a + k < 4611686018427387904 → Sd lt P → (∀ y ∈ P, Ag cmp lt y x) →
  ∃ P1 P2, P = P1 ++ P2 ∧ (∀ y ∈ P1, ¬ lt x y) ∧ (∀ y ∈ P2, lt x y) ∧ m_slices_insertionSortCmpFunc_affine_pair_w_l2 (a : Int) cmp self i f ((a + k : Nat) : Int) (X ++ P ++ x :: (Q ++ Y)) = self (wi64 (i + 1)) (X ++ P1 ++ x :: (P2 ++ Q ++ Y)) := by
 intro k
 induction k with
 | zero =>
  intro P Q f hP hf hb _ _
  obtain ⟨f, rfl⟩ : ∃ g, f = g + 1 := ⟨f - 1, by omega⟩
  obtain rfl : P = [] := List.length_eq_zero_iff.1 hP
  refine ⟨[], [], rfl, fun y hy => absurd hy (by simp), fun y hy => absurd hy (by simp), ?_⟩
  simp only [m_slices_insertionSortCmpFunc_affine_pair_w_l2]
  rw [show decide ((a : Int) < ((a + 0 : Nat) : Int)) = false by simp]
  simp [gd, m_slices_insertionSortCmpFunc_affine_pair_w_j1]
 | succ k ih =>
  intro P Q f hP hf hb hs hA
  obtain ⟨f, rfl⟩ : ∃ g, f = g + 1 := ⟨f - 1, by omega⟩
  obtain ⟨P0, y, rfl⟩ : ∃ P0 y, P = P0 ++ [y] := by
   rcases List.eq_nil_or_concat P with h | ⟨P0, y, h⟩
   ·subst h; simp at hP
   ·exact ⟨P0, y, by simpa using h⟩
  have hk : P0.length = k := by simpa using hP
  obtain ⟨c, hc, hlt⟩ := hA y (by simp)
  have e1 : lat (X ++ (P0 ++ [y]) ++ x :: (Q ++ Y)) ((a + (k + 1) : Nat) : Int) = some x := latm _ _ _ (by simp; omega)
  have e2 : lat (X ++ (P0 ++ [y]) ++ x :: (Q ++ Y)) (wi64 (((a + (k + 1) : Nat) : Int) - 1)) = some y := by
   rw [show a + (k + 1) = (a + k) + 1 by omega, wid (by omega), show X ++ (P0 ++ [y]) ++ x :: (Q ++ Y) = (X ++ P0) ++ y :: (x :: (Q ++ Y)) by simp]
   exact latm _ _ _ (by simp; omega)
  simp only [m_slices_insertionSortCmpFunc_affine_pair_w_l2]
  rw [show decide ((a : Int) < ((a + (k + 1) : Nat) : Int)) = true by simp; omega]
  simp only [gd, if_true, e1, e2, Option.bind_some, hc, Bool.true_and]
  by_cases h0 : c < 0
  ·rw [if_pos (by simpa using h0), if_pos (by simp; omega), if_pos (by rw [show a + (k + 1) = (a + k) + 1 by omega, wid (by omega)]; simp; omega)]
   obtain ⟨P1, P2, h1, h2, h3, h4⟩ := ih P0 (y :: Q) f hk (by omega) (by omega) (List.pairwise_append.1 hs).1 (fun z hz => hA z (by simp [hz]))
   refine ⟨P1, P2 ++ [y], by rw [h1]; simp, h2, fun z hz => ?_, ?_⟩
   ·rcases List.mem_append.1 hz with hz | hz
    ·exact h3 z hz
    ·rw [List.mem_singleton.1 hz]; exact hlt.1 h0
   ·rw [show a + (k + 1) = (a + k) + 1 by omega, wid (by omega), Int.toNat_natCast, Int.toNat_natCast]
    have e3 := swpL (X ++ P0) (Q ++ Y) x y
    rw [show (X ++ P0).length = a + k by simp; omega] at e3
    rw [show X ++ (P0 ++ [y]) ++ x :: (Q ++ Y) = (X ++ P0) ++ y :: x :: (Q ++ Y) by simp, e3]
    have e4 := h4
    rw [show X ++ P0 ++ x :: (y :: Q ++ Y) = X ++ P0 ++ x :: y :: (Q ++ Y) by simp] at e4
    rw [e4]; simp
  ·rw [if_neg (by simpa using h0)]
   refine ⟨P0 ++ [y], [], by simp, fun z hz => ?_, fun z hz => absurd hz (by simp), by simp [m_slices_insertionSortCmpFunc_affine_pair_w_j1]⟩
   have hxy : ¬ lt x y := fun h => h0 (hlt.2 h)
   rcases List.mem_append.1 hz with hz | hz
   ·exact sw.nt x y z hxy ((List.pairwise_append.1 hs).2.2 z hz y (by simp))
   ·rw [List.mem_singleton.1 hz]; exact hxy
theorem ins_out (sw : SW lt) (a b : Nat) (X Y : List Gaffine_pair) (hX : X.length = a) (hb : b < 4611686018427387904) :
  ∀ (R S : List Gaffine_pair) (f : Nat), a + S.length + R.length = b → R.length < f → Sd lt S → (∀ y ∈ S, ∀ x ∈ R, Ag cmp lt y x) → R.Pairwise (Ag cmp lt) →
  ∃ S', S'.Perm (S ++ R) ∧ Sd lt S' ∧ m_slices_insertionSortCmpFunc_affine_pair_w_l1 (b : Int) (a : Int) cmp f ((a + S.length : Nat) : Int) (X ++ S ++ (R ++ Y)) = some ((), X ++ S' ++ Y) := by
 intro R
 induction R with
 | nil =>
  intro S f hl hf hs _ _
  obtain ⟨f, rfl⟩ : ∃ g, f = g + 1 := ⟨f - 1, by omega⟩
  refine ⟨S, by simp, hs, ?_⟩
  simp only [m_slices_insertionSortCmpFunc_affine_pair_w_l1]
  rw [if_neg (by simp at hl; simp; omega)]; simp
 | cons x R ih =>
  intro S f hl hf hs hA hR
  obtain ⟨f, rfl⟩ : ∃ g, f = g + 1 := ⟨f - 1, by omega⟩
  rw [List.length_cons] at hl hf
  simp only [m_slices_insertionSortCmpFunc_affine_pair_w_l1]
  rw [if_pos (by simp; omega)]
  obtain ⟨P1, P2, h1, h2, h3, h4⟩ := ins_in sw a X (R ++ Y) x (m_slices_insertionSortCmpFunc_affine_pair_w_l1 (b : Int) (a : Int) cmp f) ((a + S.length : Nat) : Int) hX S.length S [] fu rfl (by unfold fu; omega) (by omega) hs (fun y hy => hA y hy x (by simp))
  have e : X ++ S ++ (x :: R ++ Y) = X ++ S ++ x :: ([] ++ (R ++ Y)) := by simp
  rw [e, h4, wis (by omega)]
  have hp : (P1 ++ x :: P2).Perm (x :: S) := by rw [h1]; exact List.perm_middle
  have hs' : Sd lt (P1 ++ x :: P2) := by
   have hs2 : Sd lt (P1 ++ P2) := h1 ▸ hs
   obtain ⟨s1, s2, s3⟩ := List.pairwise_append.1 hs2
   refine Sd.app s1 (List.pairwise_cons.2 ⟨fun y hy => sw.asy _ _ (h3 y hy), s2⟩) fun y hy z hz => ?_
   rcases List.mem_cons.1 hz with rfl | hz
   ·exact h2 y hy
   ·exact s3 y hy z hz
  have hln : (P1 ++ x :: P2).length = S.length + 1 := by have := hp.length_eq; simpa using this
  obtain ⟨S', k1, k2, k3⟩ := ih (P1 ++ x :: P2) f (by omega) (by omega) hs' (fun y hy z hz => by
   rcases List.mem_cons.1 (hp.mem_iff.1 hy) with rfl | hy
   ·exact (List.pairwise_cons.1 hR).1 z hz
   ·exact hA y hy z (by simp [hz])) (List.pairwise_cons.1 hR).2
  refine ⟨S', k1.trans ((hp.append_right R).trans ?_), k2, ?_⟩
  ·rw [List.cons_append]; exact List.perm_middle.symm
  ·rw [hln] at k3
   rw [show a + S.length + 1 = a + (S.length + 1) by omega, ← k3]; simp
theorem insertion (sw : SW lt) (X S Y : List Gaffine_pair) (hN : X.length + S.length < 4611686018427387000) (hS : S.Pairwise (Ag cmp lt)) :
  ∃ S', S'.Perm S ∧ Sd lt S' ∧ m_slices_insertionSortCmpFunc_affine_pair_w (X ++ S ++ Y) (X.length : Int) ((X.length + S.length : Nat) : Int) cmp = some ((), X ++ S' ++ Y) := by
 unfold m_slices_insertionSortCmpFunc_affine_pair_w
 cases S with
 | nil =>
  refine ⟨[], List.Perm.refl _, List.Pairwise.nil, ?_⟩
  obtain ⟨fq, hfq⟩ : ∃ f, fu = f + 1 := ⟨18446744073709551615, rfl⟩
  rw [wis (by omega), hfq]
  simp only [m_slices_insertionSortCmpFunc_affine_pair_w_l1]
  rw [if_neg (by simp; omega)]
 | cons x R =>
  rw [List.length_cons] at hN
  obtain ⟨S', h1, h2, h3⟩ := ins_out sw X.length (X.length + (x :: R).length) X Y rfl (by simp; omega) R [x] fu (by simp; omega) (by unfold fu; omega) (List.pairwise_singleton _ _) (fun y hy z hz => by rw [List.mem_singleton.1 hy]; exact (List.pairwise_cons.1 hS).1 z hz) (List.pairwise_cons.1 hS).2
  refine ⟨S', by simpa using h1, h2, ?_⟩
  rw [wis (by omega), ← h3]; simp
theorem swap_l1 (X Z Y : List Gaffine_pair) (a b n : Nat) : ∀ (U2 V2 V1 U1 : List Gaffine_pair) (f : Nat), U2.length = V2.length → V1.length = U1.length → U2.length < f → X.length = a → b = a + V1.length + U2.length + Z.length → n = V1.length + U2.length → b + n < 4611686018427387904 →
  m_slices_swapRangeCmpFunc_affine_pair_w_l1 (n : Int) (b : Int) (a : Int) f (V1.length : Int) (X ++ V1 ++ (U2 ++ Z ++ (U1 ++ (V2 ++ Y)))) = some ((), X ++ (V1 ++ V2) ++ Z ++ (U1 ++ U2) ++ Y) := by
 intro U2
 induction U2 with
 | nil =>
  intro V2 V1 U1 f h1 h2 hf hX hb hn hB
  obtain ⟨f, rfl⟩ : ∃ g, f = g + 1 := ⟨f - 1, by omega⟩
  obtain rfl : V2 = [] := List.length_eq_zero_iff.1 (by simpa using h1.symm)
  simp only [m_slices_swapRangeCmpFunc_affine_pair_w_l1]
  rw [if_neg (by simp at hn; simp; omega)]; simp
 | cons u U2 ih =>
  intro V2 V1 U1 f h1 h2 hf hX hb hn hB
  obtain ⟨f, rfl⟩ : ∃ g, f = g + 1 := ⟨f - 1, by omega⟩
  obtain ⟨v, V2, rfl⟩ : ∃ v V, V2 = v :: V := by cases V2 with | nil => simp at h1 | cons v V => exact ⟨v, V, rfl⟩
  rw [List.length_cons] at h1 hf hb hn
  have hl : V2.length = U2.length := by simp at h1; omega
  have e0 : X ++ V1 ++ (u :: U2 ++ Z ++ (U1 ++ (v :: V2 ++ Y))) = (X ++ V1) ++ u :: ((U2 ++ Z ++ U1) ++ v :: (V2 ++ Y)) := by simp
  have ea : wi64 ((a : Int) + (V1.length : Int)) = ((a + V1.length : Nat) : Int) := wia (by omega)
  have eb : wi64 ((b : Int) + (V1.length : Int)) = ((b + V1.length : Nat) : Int) := wia (by omega)
  have g1 : lat ((X ++ V1) ++ u :: ((U2 ++ Z ++ U1) ++ v :: (V2 ++ Y))) ((a + V1.length : Nat) : Int) = some u := latm _ _ _ (by simp; omega)
  have g2 : lat ((X ++ V1) ++ u :: ((U2 ++ Z ++ U1) ++ v :: (V2 ++ Y))) ((b + V1.length : Nat) : Int) = some v := by
   rw [show (X ++ V1) ++ u :: ((U2 ++ Z ++ U1) ++ v :: (V2 ++ Y)) = ((X ++ V1) ++ u :: (U2 ++ Z ++ U1)) ++ v :: (V2 ++ Y) by simp]
   exact latm _ _ _ (by simp; omega)
  simp only [m_slices_swapRangeCmpFunc_affine_pair_w_l1]
  rw [if_pos (by simp; omega), e0, ea, eb, g2, Option.bind_some, g1, Option.bind_some, if_pos (by simp; omega), if_pos (by simp; omega), wis (by omega), Int.toNat_natCast, Int.toNat_natCast]
  have e1 := swp2 (X ++ V1) (U2 ++ Z ++ U1) (V2 ++ Y) u v (q := b + V1.length) (by simp; omega)
  rw [show (X ++ V1).length = a + V1.length by simp; omega] at e1
  rw [e1]
  have e2 := ih V2 (V1 ++ [v]) (U1 ++ [u]) f (by omega) (by simp; omega) (by omega) hX (by simp; omega) (by simp; omega) hB
  rw [show (V1 ++ [v]).length = V1.length + 1 by simp] at e2
  rw [show (X ++ V1) ++ v :: ((U2 ++ Z ++ U1) ++ u :: (V2 ++ Y)) = X ++ (V1 ++ [v]) ++ (U2 ++ Z ++ (U1 ++ [u] ++ (V2 ++ Y))) by simp, e2]
  simp
theorem swapRange (X U Z V Y : List Gaffine_pair) (h : U.length = V.length) {a b n : Nat} (ha : a = X.length) (hb : b = X.length + U.length + Z.length) (hn : n = U.length) (hB : b + n < 4611686018427387904) :
  m_slices_swapRangeCmpFunc_affine_pair_w (X ++ U ++ Z ++ V ++ Y) (a : Int) (b : Int) (n : Int) cmp = some ((), X ++ V ++ Z ++ U ++ Y) := by
 unfold m_slices_swapRangeCmpFunc_affine_pair_w
 have e := swap_l1 X Z Y a b n U V [] [] fu h rfl (by unfold fu; omega) ha.symm (by simp; omega) (by simpa using hn) hB
 rw [show X ++ U ++ Z ++ V ++ Y = X ++ [] ++ (U ++ Z ++ ([] ++ (V ++ Y))) by simp]
 simpa using e
theorem rot_l1 : ∀ (k f : Nat) (P U V Q : List Gaffine_pair) (m : Nat), U.length + V.length ≤ k → k < f → 1 ≤ U.length → 1 ≤ V.length → m = P.length + U.length → m + V.length < 4611686018427387904 →
  m_slices_rotateCmpFunc_affine_pair_w_l1 (m : Int) cmp f (U.length : Int) (V.length : Int) (P ++ U ++ V ++ Q) = some ((), P ++ V ++ U ++ Q) := by
 intro k
 induction k with
 | zero => intro f P U V Q m h1 h2 h3 h4; omega
 | succ k ih =>
  intro f P U V Q m hk hf hU hV hm hB
  obtain ⟨f, rfl⟩ : ∃ g, f = g + 1 := ⟨f - 1, by omega⟩
  have em : ∀ i : Nat, i ≤ m → wi64 ((m : Int) - (i : Int)) = ((m - i : Nat) : Int) := fun i hi => by rw [show (m : Int) - (i : Int) = ((m - i : Nat) : Int) by omega]; exact wiN (by omega)
  simp only [m_slices_rotateCmpFunc_affine_pair_w_l1]
  by_cases he : U.length = V.length
  ·rw [if_neg (by simp; omega), em _ (by omega)]
   have e := swapRange (cmp := cmp) P U [] V Q he (a := m - U.length) (b := m) (n := U.length) (by omega) (by simp; omega) rfl (by omega)
   rw [show P ++ U ++ V ++ Q = P ++ U ++ [] ++ V ++ Q by simp, e]; simp
  ·rw [if_pos (by simp; omega)]
   by_cases hgt : V.length < U.length
   ·rw [if_pos (by simpa using hgt), em _ (by omega)]
    obtain ⟨U1, U2, rfl, hl⟩ : ∃ U1 U2, U = U1 ++ U2 ∧ U1.length = V.length := ⟨U.take V.length, U.drop V.length, (List.take_append_drop _ _).symm, by simp; omega⟩
    rw [List.length_append] at hk hU hm hgt he ⊢
    have e := swapRange (cmp := cmp) P U1 U2 V Q hl (a := m - (U1.length + U2.length)) (b := m) (n := V.length) (by omega) (by omega) hl.symm (by omega)
    rw [show P ++ (U1 ++ U2) ++ V ++ Q = P ++ U1 ++ U2 ++ V ++ Q by simp, e, Option.bind_some]
    rw [show wi64 (((U1.length + U2.length : Nat) : Int) - (V.length : Int)) = (U2.length : Int) by rw [show ((U1.length + U2.length : Nat) : Int) - (V.length : Int) = (U2.length : Int) by omega]; exact wiN (by omega)]
    have e2 := ih f (P ++ V) U2 U1 Q m (by omega) (by omega) (by omega) (by omega) (by simp; omega) (by omega)
    rw [hl] at e2
    rw [e2]; simp
   ·rw [if_neg (by simpa using hgt), em _ (by omega)]
    obtain ⟨V1, V2, rfl, hl⟩ : ∃ V1 V2, V = V1 ++ V2 ∧ V2.length = U.length := ⟨V.take (V.length - U.length), V.drop (V.length - U.length), (List.take_append_drop _ _).symm, by simp; omega⟩
    rw [List.length_append] at hk hV hB hgt he ⊢
    rw [wia (a := m) (b := V1.length + V2.length) (by omega), show wi64 (((m + (V1.length + V2.length) : Nat) : Int) - (U.length : Int)) = ((m + V1.length : Nat) : Int) by rw [show ((m + (V1.length + V2.length) : Nat) : Int) - (U.length : Int) = ((m + V1.length : Nat) : Int) by omega]; exact wiN (by omega)]
    have e := swapRange (cmp := cmp) P U V1 V2 Q hl.symm (a := m - U.length) (b := m + V1.length) (n := U.length) (by omega) (by omega) rfl (by omega)
    rw [show P ++ U ++ (V1 ++ V2) ++ Q = P ++ U ++ V1 ++ V2 ++ Q by simp, e, Option.bind_some]
    rw [show wi64 (((V1.length + V2.length : Nat) : Int) - (U.length : Int)) = (V1.length : Int) by rw [show ((V1.length + V2.length : Nat) : Int) - (U.length : Int) = (V1.length : Int) by omega]; exact wiN (by omega)]
    have e2 := ih f P V2 V1 (U ++ Q) m (by omega) (by omega) (by omega) (by omega) (by omega) (by omega)
    rw [hl] at e2
    rw [show P ++ V2 ++ V1 ++ U ++ Q = P ++ V2 ++ V1 ++ (U ++ Q) by simp, e2]; simp
theorem rotate (P U V Q : List Gaffine_pair) (hU : 1 ≤ U.length) (hV : 1 ≤ V.length) {a m b : Nat} (ha : a = P.length) (hm : m = P.length + U.length) (hb : b = P.length + U.length + V.length) (hB : b < 4611686018427387904) :
  m_slices_rotateCmpFunc_affine_pair_w (P ++ U ++ V ++ Q) (a : Int) (m : Int) (b : Int) cmp = some ((), P ++ V ++ U ++ Q) := by
 unfold m_slices_rotateCmpFunc_affine_pair_w
 rw [show wi64 ((m : Int) - (a : Int)) = (U.length : Int) by rw [show (m : Int) - (a : Int) = (U.length : Int) by omega]; exact wiN (by omega), show wi64 ((b : Int) - (m : Int)) = (V.length : Int) by rw [show (b : Int) - (m : Int) = (V.length : Int) by omega]; exact wiN (by omega)]
 exact rot_l1 (U.length + V.length) fu P U V Q m (Nat.le_refl _) (by unfold fu; omega) hU hV hm (by omega)
end Go.Proofs.Ytaokohndeepbjaa.Soaffine_pair
