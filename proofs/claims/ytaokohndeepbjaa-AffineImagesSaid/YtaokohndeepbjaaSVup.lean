import Derived.Test.YtaokohndeepbjaaSVtp
namespace Go.Proofs.Ytaokohndeepbjaa.Soaffine_pair
open Go Go.RowKit Go.Vc
set_option linter.unusedVariables false
set_option linter.unusedSimpArgs false
variable {cmp : Gaffine_pair → Gaffine_pair → Option Int} {lt : Gaffine_pair → Gaffine_pair → Prop}
theorem symMerge (sw : SW lt) (X L R Y : List Gaffine_pair) (hL1 : 1 ≤ L.length) (hR1 : 1 ≤ R.length) (hB : X.length + L.length + R.length < 1152921504606846976) (hL : Sd lt L) (hR : Sd lt R) (hA : ∀ y ∈ L, ∀ x ∈ R, Ag cmp lt y x) {a m b : Nat} (ha : a = X.length) (hm : m = X.length + L.length) (hb : b = X.length + L.length + R.length) :
  ∃ M, M.Perm (L ++ R) ∧ Sd lt M ∧ m_slices_symMergeCmpFunc_affine_pair_w (X ++ L ++ R ++ Y) (a : Int) (m : Int) (b : Int) cmp = some ((), X ++ M ++ Y) := by
 subst ha hm hb
 exact symMerge_r sw (L.length + R.length) fu X L R Y (Nat.le_refl _) (by unfold fu; omega) hL1 hR1 hB hL hR hA
theorem blocks_end (sw : SW lt) (P d : List Gaffine_pair) (n f : Nat) (hd : d.length < 20) (hn : n = P.length + d.length) (hB : n < 4294967297) (hA : d.Pairwise (Ag cmp lt)) :
  ∃ d', Bk lt 20 d d' ∧ m_slices_stableCmpFunc_affine_pair_w_l3 (n : Int) cmp (f + 1) (P.length : Int) ((P.length + 20 : Nat) : Int) (P ++ d) = m_slices_stableCmpFunc_affine_pair_w_l1 (n : Int) cmp fu 20 (P ++ d') := by
 obtain ⟨S', h1, h2, h3⟩ := insertion sw P d [] (by omega) hA
 refine ⟨S', .last (by omega) h1 h2, ?_⟩
 simp only [m_slices_stableCmpFunc_affine_pair_w_l3]
 rw [if_neg (by simp; omega), m_slices_stableCmpFunc_affine_pair_w_j1]
 rw [← hn, List.append_nil, List.append_nil] at h3
 rw [h3]; rfl
theorem blocks (sw : SW lt) : ∀ (k f : Nat) (P d : List Gaffine_pair) (n : Nat), d.length ≤ k → k < f → n = P.length + d.length → n < 4294967297 → d.Pairwise (Ag cmp lt) →
  ∃ d', Bk lt 20 d d' ∧ m_slices_stableCmpFunc_affine_pair_w_l3 (n : Int) cmp f (P.length : Int) ((P.length + 20 : Nat) : Int) (P ++ d) = m_slices_stableCmpFunc_affine_pair_w_l1 (n : Int) cmp fu 20 (P ++ d') := by
 intro k
 induction k with
 | zero =>
  intro f P d n h1 h2 h3 h4 h5
  obtain ⟨f, rfl⟩ : ∃ g, f = g + 1 := ⟨f - 1, by omega⟩
  exact blocks_end sw P d n f (by omega) h3 h4 h5
 | succ k ih =>
  intro f P d n h1 h2 h3 h4 h5
  obtain ⟨f, rfl⟩ : ∃ g, f = g + 1 := ⟨f - 1, by omega⟩
  by_cases hd : d.length < 20
  ·exact blocks_end sw P d n f hd h3 h4 h5
  obtain ⟨B, R, rfl, hl⟩ : ∃ B R, d = B ++ R ∧ B.length = 20 := ⟨d.take 20, d.drop 20, (List.take_append_drop _ _).symm, by rw [List.length_take]; omega⟩
  rw [List.length_append] at h1 h3
  obtain ⟨a1, a2, _⟩ := List.pairwise_append.1 h5
  obtain ⟨S', k1, k2, k3⟩ := insertion sw P B R (by omega) a1
  have hl' : S'.length = 20 := by have := k1.length_eq; omega
  obtain ⟨d', q1, q2⟩ := ih f (P ++ S') R n (by omega) (by omega) (by simp; omega) h4 a2
  refine ⟨S' ++ d', .cons hl k1 k2 q1, ?_⟩
  simp only [m_slices_stableCmpFunc_affine_pair_w_l3]
  rw [hl] at k3
  rw [if_pos (by simp; omega), ← List.append_assoc, k3, Option.bind_some, show ((P.length + 20 : Nat) : Int) + 20 = ((P.length + 20 : Nat) : Int) + ((20 : Nat) : Int) from rfl, wia (by omega)]
  rw [show (P ++ S').length = P.length + 20 by simp; omega] at q2
  rw [q2]; simp
theorem pass (sw : SW lt) (bs : Nat) (hbs : 1 ≤ bs) (self : Int → List Gaffine_pair → Option (Unit × List Gaffine_pair)) : ∀ (k f : Nat) (P d d' : List Gaffine_pair) (n : Nat), d.length ≤ k → k < f → Bk lt bs d d' → d.Pairwise (Ag cmp lt) → n = P.length + d.length → n + 4 * bs < 1152921504606846976 →
  ∃ d'', Bk lt (2 * bs) d d'' ∧ m_slices_stableCmpFunc_affine_pair_w_l2 (n : Int) (bs : Int) cmp self f (P.length : Int) ((P.length + 2 * bs : Nat) : Int) (P ++ d') = self (wi64 ((bs : Int) * 2)) (P ++ d'') := by
 intro k
 induction k with
 | zero =>
  intro f P d d' n h1 h2 h3 h4 h5 h6
  obtain ⟨f, rfl⟩ : ∃ g, f = g + 1 := ⟨f - 1, by omega⟩
  obtain ⟨p1, p2⟩ := h3.done (by omega) hbs
  refine ⟨d', .last (by omega) p1 p2, ?_⟩
  simp only [m_slices_stableCmpFunc_affine_pair_w_l2]
  rw [if_neg (by simp; omega), m_slices_stableCmpFunc_affine_pair_w_j2, wia (by omega), if_neg (by simp; omega), m_slices_stableCmpFunc_affine_pair_w_j3]
 | succ k ih =>
  intro f P d d' n h1 h2 h3 h4 h5 h6
  obtain ⟨f, rfl⟩ : ∃ g, f = g + 1 := ⟨f - 1, by omega⟩
  have full : ∀ (B B' C C' t t' : List Gaffine_pair), d = B ++ (C ++ t) → d' = B' ++ (C' ++ t') → B.length = bs → C.length = bs → B'.Perm B → C'.Perm C → Sd lt B' → Sd lt C' → Bk lt bs t t' →
    ∃ d'', Bk lt (2 * bs) d d'' ∧ m_slices_stableCmpFunc_affine_pair_w_l2 (n : Int) (bs : Int) cmp self (f + 1) (P.length : Int) ((P.length + 2 * bs : Nat) : Int) (P ++ d') = self (wi64 ((bs : Int) * 2)) (P ++ d'') := by
   rintro B B' C C' t t' rfl rfl lB lC pB pC sB sC hK
   rw [List.length_append, List.length_append] at h1 h5
   have lB' := pB.length_eq
   have lC' := pC.length_eq
   obtain ⟨a1, a2, a3⟩ := List.pairwise_append.1 h4
   obtain ⟨M, k1, k2, k3⟩ := symMerge sw P B' C' t' (by omega) (by omega) (by omega) sB sC (fun y hy x hx => a3 y (pB.mem_iff.1 hy) x (List.mem_append_left _ (pC.mem_iff.1 hx))) (a := P.length) (m := P.length + bs) (b := P.length + 2 * bs) rfl (by omega) (by omega)
   have lM : M.length = 2 * bs := by have := k1.length_eq; rw [List.length_append] at this; omega
   obtain ⟨d'', q1, q2⟩ := ih f (P ++ M) t t' n (by omega) (by omega) hK (List.pairwise_append.1 a2).2.1 (by simp; omega) h6
   refine ⟨M ++ d'', ?_, ?_⟩
   ·rw [← List.append_assoc]
    exact .cons (by rw [List.length_append]; omega) (k1.trans (pB.append pC)) k2 q1
   ·simp only [m_slices_stableCmpFunc_affine_pair_w_l2]
    rw [if_pos (by simp; omega), wia (by omega), show P ++ (B' ++ (C' ++ t')) = P ++ B' ++ C' ++ t' by simp, k3, Option.bind_some, Option.bind_some]
    rw [show wi64 (2 * (bs : Int)) = ((2 * bs : Nat) : Int) by rw [show (2 : Int) * (bs : Int) = ((2 * bs : Nat) : Int) by omega]; exact wiN (by omega), wia (by omega)]
    rw [show (P ++ M).length = P.length + 2 * bs by simp; omega] at q2
    rw [q2]; simp
  cases h3 with
  | last hl hp hs =>
   refine ⟨d', .last (by omega) hp hs, ?_⟩
   simp only [m_slices_stableCmpFunc_affine_pair_w_l2]
   rw [if_neg (by simp; omega), m_slices_stableCmpFunc_affine_pair_w_j2, wia (by omega), if_neg (by simp; omega), m_slices_stableCmpFunc_affine_pair_w_j3]
  | @cons B B' r r' hl hp hs h =>
   cases h with
   | @cons C C' t t' hl2 hp2 hs2 h2' => exact full B B' C C' t t' rfl rfl hl hl2 hp hp2 hs hs2 h2'
   | last hl2 hp2 hs2 =>
    by_cases he : r.length = bs
    ·exact full B B' r r' [] [] (by simp) (by simp) hl he hp hp2 hs hs2 (.last (by simp) (List.Perm.refl _) List.Pairwise.nil)
    ·rw [List.length_append] at h1 h5
     have lB' := hp.length_eq
     have lr' := hp2.length_eq
     obtain ⟨a1, a2, a3⟩ := List.pairwise_append.1 h4
     simp only [m_slices_stableCmpFunc_affine_pair_w_l2]
     rw [if_neg (by simp; omega), m_slices_stableCmpFunc_affine_pair_w_j2, wia (by omega)]
     by_cases h0 : r.length = 0
     ·obtain rfl : r = [] := List.length_eq_zero_iff.1 h0
      obtain rfl : r' = [] := hp2.eq_nil
      refine ⟨B' ++ [], .last (by simp; omega) (by simpa using hp) (by simpa using hs), ?_⟩
      rw [if_neg (by simp at h5; simp; omega), m_slices_stableCmpFunc_affine_pair_w_j3]
     ·obtain ⟨M, k1, k2, k3⟩ := symMerge sw P B' r' [] (by omega) (by omega) (by omega) hs hs2 (fun y hy x hx => a3 y (hp.mem_iff.1 hy) x (hp2.mem_iff.1 hx)) (a := P.length) (m := P.length + bs) (b := n) rfl (by omega) (by omega)
      refine ⟨M, .last (by rw [List.length_append]; omega) (k1.trans (hp.append hp2)) k2, ?_⟩
      rw [if_pos (by simp; omega), show P ++ (B' ++ r') = P ++ B' ++ r' ++ [] by simp, k3, Option.bind_some]; simp [m_slices_stableCmpFunc_affine_pair_w_j3]
theorem outer (sw : SW lt) : ∀ (k f bs : Nat) (d d' : List Gaffine_pair), d.length ≤ bs + k → k < f → 1 ≤ bs → d.length < 4294967297 → Bk lt bs d d' → d.Pairwise (Ag cmp lt) →
  ∃ d'', d''.Perm d ∧ Sd lt d'' ∧ m_slices_stableCmpFunc_affine_pair_w_l1 (d.length : Int) cmp f (bs : Int) d' = some ((), d'') := by
 intro k
 induction k with
 | zero =>
  intro f bs d d' h1 h2 h3 h4 h5 h6
  obtain ⟨f, rfl⟩ : ∃ g, f = g + 1 := ⟨f - 1, by omega⟩
  obtain ⟨p1, p2⟩ := h5.done (by omega) h3
  refine ⟨d', p1, p2, ?_⟩
  simp only [m_slices_stableCmpFunc_affine_pair_w_l1]
  rw [if_neg (by simp; omega)]
 | succ k ih =>
  intro f bs d d' h1 h2 h3 h4 h5 h6
  obtain ⟨f, rfl⟩ : ∃ g, f = g + 1 := ⟨f - 1, by omega⟩
  simp only [m_slices_stableCmpFunc_affine_pair_w_l1]
  by_cases hb : bs < d.length
  ·rw [if_pos (by simpa using hb)]
   obtain ⟨e, q1, q2⟩ := pass sw bs h3 (m_slices_stableCmpFunc_affine_pair_w_l1 (d.length : Int) cmp f) d.length fu [] d d' d.length (Nat.le_refl _) (by unfold fu; omega) h5 h6 (by simp) (by omega)
   obtain ⟨d'', r1, r2, r3⟩ := ih f (2 * bs) d e (by omega) (by omega) (by omega) h4 q1 h6
   refine ⟨d'', r1, r2, ?_⟩
   rw [show wi64 (2 * (bs : Int)) = ((2 * bs : Nat) : Int) by rw [show (2 : Int) * (bs : Int) = ((2 * bs : Nat) : Int) by omega]; exact wiN (by omega)]
   rw [show wi64 ((bs : Int) * 2) = ((2 * bs : Nat) : Int) by rw [show (bs : Int) * 2 = ((2 * bs : Nat) : Int) by omega]; exact wiN (by omega)] at q2
   simp only [List.length_nil, Nat.zero_add, List.nil_append] at q2
   exact q2.trans r3
  ·rw [if_neg (by simpa using hb)]
   obtain ⟨p1, p2⟩ := h5.done (by omega) h3
   exact ⟨d', p1, p2, rfl⟩
theorem stable_ok (sw : SW lt) (d : List Gaffine_pair) (hn : d.length ≤ 4294967296) (hd : d.Pairwise (Ag cmp lt)) : ∃ d', d'.Perm d ∧ Sd lt d' ∧ m_slices_SortStableFunc_affine_pair_affine_pair_w d cmp = some ((), d') := by
 obtain ⟨e, h1, h2⟩ := blocks sw d.length fu [] d d.length (Nat.le_refl _) (by unfold fu; omega) (by simp) (by omega) hd
 obtain ⟨d', r1, r2, r3⟩ := outer sw d.length fu 20 d e (by omega) (by unfold fu; omega) (by decide) (by omega) h1 hd
 refine ⟨d', r1, r2, ?_⟩
 unfold m_slices_SortStableFunc_affine_pair_affine_pair_w m_slices_stableCmpFunc_affine_pair_w
 simp only [List.length_nil, Nat.zero_add, List.nil_append] at h2
 have h2' : m_slices_stableCmpFunc_affine_pair_w_l3 (d.length : Int) cmp fu 0 20 d = m_slices_stableCmpFunc_affine_pair_w_l1 (d.length : Int) cmp fu 20 e := h2
 have r3' : m_slices_stableCmpFunc_affine_pair_w_l1 (d.length : Int) cmp fu 20 e = some ((), d') := r3
 rw [h2', r3']; rfl
end Go.Proofs.Ytaokohndeepbjaa.Soaffine_pair
