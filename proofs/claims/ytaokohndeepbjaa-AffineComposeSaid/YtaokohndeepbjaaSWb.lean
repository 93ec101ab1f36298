import Derived.Test.YtaokohndeepbjaaSWa
namespace Go.Proofs.Ytaokohndeepbjaa
open Go Go.RowKit Go.Vc
set_option linter.unusedVariables false
set_option linter.unusedSimpArgs false
theorem loop_two3 {σ τ R S : Type} {L : Nat → σ → Int → Option R} {M : Nat → τ → Int → Option S} {n : Nat} (hn : n < 4611686018427387904) (I : Nat → σ → τ → Prop) (Q : R → Option S → Prop)
  (rd : ∀ i s t, i < n → I i s t → (∃ s' t', I (i + 1) s' t' ∧ (∀ f, L (f + 1) s (i : Int) = L f s' ((i + 1 : Nat) : Int)) ∧ ∀ f, M (f + 1) t (i : Int) = M f t' ((i + 1 : Nat) : Int)) ∨ ∃ r q, Q r q ∧ (∀ f, L (f + 1) s (i : Int) = some r) ∧ ∀ f, M (f + 1) t (i : Int) = q)
  (fin : ∀ s t, I n s t → ∃ r q, Q r q ∧ (∀ f, L (f + 1) s (n : Int) = some r) ∧ ∀ f, M (f + 1) t (n : Int) = q) (s : σ) (t : τ) (h0 : I 0 s t) : ∃ r q, Q r q ∧ L fu s 0 = some r ∧ M fu t 0 = q := by
 have key : ∀ (k f g i : Nat) (s : σ) (t : τ), i + k = n → k < f → k < g → I i s t → ∃ r q, Q r q ∧ L f s (i : Int) = some r ∧ M g t (i : Int) = q := by
  intro k
  induction k with
  | zero =>
   intro f g i s t h hf hg hI
   obtain ⟨f, rfl⟩ : ∃ q, f = q + 1 := ⟨f - 1, by omega⟩
   obtain ⟨g, rfl⟩ : ∃ q, g = q + 1 := ⟨g - 1, by omega⟩
   obtain rfl : i = n := by omega
   obtain ⟨r, q, h0, h1, h2⟩ := fin s t hI
   exact ⟨r, q, h0, h1 f, h2 g⟩
  | succ k ih =>
   intro f g i s t h hf hg hI
   obtain ⟨f, rfl⟩ : ∃ q, f = q + 1 := ⟨f - 1, by omega⟩
   obtain ⟨g, rfl⟩ : ∃ q, g = q + 1 := ⟨g - 1, by omega⟩
   rcases rd i s t (by omega) hI with ⟨s', t', h1, h2, h3⟩ | ⟨r, q, h0, h1, h2⟩
   ·rw [h2, h3]; exact ih f g (i + 1) s' t' (by omega) (by omega) (by omega) h1
   ·exact ⟨r, q, h0, h1 f, h2 g⟩
 exact key n fu fu 0 s t (by omega) (by unfold fu; omega) (by unfold fu; omega) h0
def okNames (names : List (List UInt8)) : Prop := (∀ s ∈ names, nameB s = true) ∧ names.Nodup
def okForm (names : List (List UInt8)) (f : GLin) : Prop := okLin f ∧ ∀ x ∈ f.L, x.Name ∈ names
def okMap (m : List GLin) (names : List (List UInt8)) : Prop := m.length ≤ 16 ∧ names.length ≤ 16 ∧ okNames names ∧ ∀ f ∈ m, okForm names f
theorem nodup_take {α : Type} {l : List α} {i : Nat} {x : α} (h : (l.take i).Nodup) (hx : l[i]? = some x) (hn : x ∉ l.take i) : (l.take (i + 1)).Nodup := by
 rw [take_succ' hx, List.nodup_append]
 exact ⟨h, by simp, fun a ha b hb => by rw [List.mem_singleton.1 hb]; rintro rfl; exact hn ha⟩
theorem nodup_not {α : Type} {l : List α} {i : Nat} {x : α} (hx : l[i]? = some x) (hn : x ∈ l.take i) : ¬ l.Nodup := by
 intro h
 obtain ⟨j, hj⟩ := List.mem_iff_getElem?.1 hn
 rw [List.getElem?_take] at hj
 split at hj
 ·next hji =>
  obtain ⟨q1, q2⟩ := List.getElem?_eq_some_iff.1 hj
  obtain ⟨q3, q4⟩ := List.getElem?_eq_some_iff.1 hx
  have := List.pairwise_iff_getElem.1 h j i q1 q3 hji
  rw [q2, q4] at this; exact this rfl
 ·cases hj
theorem names_ok (names : List (List UInt8)) (m : List GLin) (hl : names.length < 4611686018427387904) :
  ∃ r, (r = 0 ↔ okNames names) ∧ m_affine_named names = some r ∧ m_ref10_Validate_l3 names m fu 0 = if r = 0 then m_ref10_Validate_j1 m names else some r := by
 unfold m_affine_named
 have lp : ∀ s : List UInt8, m_lin_Var s = some (if nameB s = true then ⟨0, [⟨s, 1⟩]⟩ else ⟨0, []⟩) := fun s => by
  unfold m_lin_Var; rw [identifier_ok, Option.bind_some]; cases nameB s <;> simp
 obtain ⟨r, q, hQ, h1, h2⟩ := loop_two3 (L := fun f (_ : Unit) i => m_affine_named_l1 names f i) (M := fun f (_ : Unit) i => m_ref10_Validate_l3 names m f i) (n := names.length) hl
  (fun i _ _ => okNames (names.take i)) (fun r q => (r = 0 ↔ okNames names) ∧ (if r = 0 then m_ref10_Validate_j1 m names else some r) = q)
  (by
   rintro i ⟨⟩ ⟨⟩ hi ⟨hI, hJ⟩
   obtain ⟨x, hx⟩ := at_some hi
   have hxm := List.mem_of_getElem? hx
   have hu : lupto names (i : Int) = some (names.take i) := by unfold lupto; rw [if_pos ⟨by omega, by simp; omega⟩, Int.toNat_natCast]
   by_cases c1 : nameB x = true
   rotate_left
   ·right; refine ⟨7, some 7, ⟨⟨fun h => (by cases h), fun h => absurd (h.1 x hxm) c1⟩, rfl⟩, fun f => ?_, fun f => ?_⟩
    ·simp only [m_affine_named_l1]; rw [if_pos (lt_dec hi), lat_at hx, Option.bind_some, lp, if_neg c1, Option.bind_some]; rfl
    ·simp only [m_ref10_Validate_l3]; rw [if_pos (lt_dec hi), lat_at hx, Option.bind_some, base_Name_all, Option.bind_some, if_pos (by simpa using c1)]
   by_cases c2 : x ∈ names.take i
   ·right; refine ⟨8, some 8, ⟨⟨fun h => (by cases h), fun h => absurd h.2 (nodup_not hx c2)⟩, rfl⟩, fun f => ?_, fun f => ?_⟩
    ·simp only [m_affine_named_l1]; rw [if_pos (lt_dec hi), lat_at hx, Option.bind_some, lp, if_pos c1, Option.bind_some, if_neg (by simp), hu, Option.bind_some, contains_str _ _ (by simp; omega), decide_eq_true c2]; rfl
    ·simp only [m_ref10_Validate_l3]; rw [if_pos (lt_dec hi), lat_at hx, Option.bind_some, base_Name_all, Option.bind_some, if_neg (by simpa using c1), hu, Option.bind_some, Option.bind_some, has_str _ _ (by simp; omega), decide_eq_true c2]; rfl
   left; refine ⟨(), (), ⟨?_, nodup_take hJ hx c2⟩, fun f => ?_, fun f => ?_⟩
   ·rw [take_succ' hx]; intro y hy; rcases List.mem_append.1 hy with hy | hy
    ·exact hI y hy
    ·rw [List.mem_singleton.1 hy]; exact c1
   ·simp only [m_affine_named_l1]; rw [if_pos (lt_dec hi), lat_at hx, Option.bind_some, lp, if_pos c1, Option.bind_some, if_neg (by simp), hu, Option.bind_some, contains_str _ _ (by simp; omega), decide_eq_false c2, wis (by omega)]; rfl
   ·simp only [m_ref10_Validate_l3]; rw [if_pos (lt_dec hi), lat_at hx, Option.bind_some, base_Name_all, Option.bind_some, if_neg (by simpa using c1), hu, Option.bind_some, Option.bind_some, has_str _ _ (by simp; omega), decide_eq_false c2, wis (by omega)]; rfl)
  (by
   rintro ⟨⟩ ⟨⟩ hI
   rw [List.take_length] at hI
   refine ⟨0, m_ref10_Validate_j1 m names, ⟨⟨fun _ => hI, fun _ => rfl⟩, rfl⟩, fun f => ?_, fun f => ?_⟩
   ·simp only [m_affine_named_l1]; rw [if_neg (by simp)]
   ·simp only [m_ref10_Validate_l3]; rw [if_neg (by simp)]) () () ⟨by simp, by simp⟩
 exact ⟨r, hQ.1, h1, by rw [hQ.2]; exact h2⟩
theorem Validate_both (m : List GLin) (names : List (List UInt8)) (hm : ∀ f ∈ m, f.L.length < 4611686018427387904) :
  ∃ r, (r = 0 ↔ okMap m names) ∧ m_affine_Validate m names = some r ∧ m_ref10_Validate m names = some r := by
 unfold m_affine_Validate m_ref10_Validate
 by_cases h16 : 16 < m.length ∨ 16 < names.length
 ·have c : (decide (16 < (m.length : Int)) || decide (16 < (names.length : Int))) = true := by simp; omega
  exact ⟨2, ⟨fun h => (by cases h), fun h => (by have := h.1; have := h.2.1; omega)⟩, if_pos c, if_pos c⟩
 have c : ¬ (decide (16 < (m.length : Int)) || decide (16 < (names.length : Int))) = true := by simp; omega
 obtain ⟨r, r0, r1, r2⟩ := names_ok names m (by omega)
 by_cases hr : r = 0
 rotate_left
 ·exact ⟨r, ⟨fun h => absurd h hr, fun h => absurd (r0.2 h.2.2.1) hr⟩, (if_neg c).trans (by rw [r1, Option.bind_some, if_pos (by simpa using hr)]), (if_neg c).trans (by rw [r2, if_neg hr])⟩
 have hN := r0.1 hr
 obtain ⟨q, h0, h1, h2⟩ := loop_sim (L := fun f (_ : Unit) i => m_affine_Validate_l1 m names f i) (M := fun f (_ : Unit) i => m_ref10_Validate_l1 m names f i) (n := m.length) (by omega)
  (fun i _ _ => ∀ f ∈ m.take i, okForm names f) (fun q => q = 0 ↔ ∀ f ∈ m, okForm names f)
  (by
   rintro i ⟨⟩ ⟨⟩ hi hI
   obtain ⟨x, hx⟩ := at_some hi
   have hxm := List.mem_of_getElem? hx
   obtain ⟨b, b0, b1, b2⟩ := lin_Validate x (hm x hxm)
   have eL : ∀ f, m_affine_Validate_l1 m names (f + 1) (i : Int) = if b = true then m_affine_Validate_l2 x names (m_affine_Validate_l1 m names f) (i : Int) fu 0 else some 1 := fun f => by
    simp only [m_affine_Validate_l1]
    rw [if_pos (lt_dec hi), lat_at hx, Option.bind_some, b1, Option.bind_some]
    cases b <;> simp
   have eR : ∀ f, m_ref10_Validate_l1 m names (f + 1) (i : Int) = if b = true then m_ref10_Validate_l2 m (i : Int) names (m_ref10_Validate_l1 m names f) fu 0 else some 1 := fun f => by
    simp only [m_ref10_Validate_l1]
    rw [if_pos (lt_dec hi), lat_at hx, Option.bind_some, b2, Option.bind_some]
    cases b <;> simp
   by_cases hb : b = true
   rotate_left
   ·right; exact ⟨1, ⟨fun h => (by cases h), fun h => absurd (b0.2 (h x hxm).1) hb⟩, fun f => by rw [eL, if_neg hb], fun f => by rw [eR, if_neg hb]⟩
   have iL : ∀ self : Int → Option Int, m_affine_Validate_l2 x names self (i : Int) fu 0 = if x.L.all (fun y => decide (y.Name ∈ names)) = true then self ((i + 1 : Nat) : Int) else some 9 := fun self => by
    refine loop_eq (L := fun f (_ : Unit) k => m_affine_Validate_l2 x names self (i : Int) f k) (n := x.L.length) (hm x hxm) (fun k _ => ∀ y ∈ x.L.take k, y.Name ∈ names) ?_ ?_ () (by simp)
    ·intro f k _ hk hK
     obtain ⟨y, hy⟩ := at_some hk
     simp only [m_affine_Validate_l2]
     rw [if_pos (lt_dec hk), lat_at hy, Option.bind_some, contains_str _ _ (by omega), Option.bind_some]
     by_cases hc : y.Name ∈ names
     ·left; refine ⟨(), ?_, by rw [if_neg (by simpa using hc), wis (by have := hm x hxm; omega)]⟩
      rw [take_succ' hy]; intro z hz; rcases List.mem_append.1 hz with hz | hz
      ·exact hK z hz
      ·rw [List.mem_singleton.1 hz]; exact hc
     ·right; rw [if_pos (by simpa using hc), if_neg (fun h => hc (by simpa using List.all_eq_true.1 h y (List.mem_of_getElem? hy)))]
    ·intro f _ hK
     rw [List.take_length] at hK
     simp only [m_affine_Validate_l2]
     rw [if_neg (by simp), m_affine_Validate_j1, wis (by omega), if_pos (List.all_eq_true.2 fun y hy => by simpa using hK y hy)]
   have iR : ∀ self : Int → Option Int, m_ref10_Validate_l2 m (i : Int) names self fu 0 = if x.L.all (fun y => decide (y.Name ∈ names)) = true then self ((i + 1 : Nat) : Int) else some 9 := fun self => by
    refine loop_eq (L := fun f (_ : Unit) k => m_ref10_Validate_l2 m (i : Int) names self f k) (n := x.L.length) (hm x hxm) (fun k _ => ∀ y ∈ x.L.take k, y.Name ∈ names) ?_ ?_ () (by simp)
    ·intro f k _ hk hK
     obtain ⟨y, hy⟩ := at_some hk
     simp only [m_ref10_Validate_l2]
     rw [lat_at hx, Option.bind_some, if_pos (lt_dec hk), Option.bind_some, lat_at hy, Option.bind_some, has_str _ _ (by omega), Option.bind_some]
     by_cases hc : y.Name ∈ names
     ·left; refine ⟨(), ?_, by rw [if_neg (by simpa using hc), wis (by have := hm x hxm; omega)]⟩
      rw [take_succ' hy]; intro z hz; rcases List.mem_append.1 hz with hz | hz
      ·exact hK z hz
      ·rw [List.mem_singleton.1 hz]; exact hc
     ·right; rw [if_pos (by simpa using hc), if_neg (fun h => hc (by simpa using List.all_eq_true.1 h y (List.mem_of_getElem? hy)))]
    ·intro f _ hK
     rw [List.take_length] at hK
     simp only [m_ref10_Validate_l2]
     rw [lat_at hx, Option.bind_some, if_neg (by simp), m_ref10_Validate_j2, wis (by omega), if_pos (List.all_eq_true.2 fun y hy => by simpa using hK y hy)]
   by_cases ha : x.L.all (fun y => decide (y.Name ∈ names)) = true
   ·left; refine ⟨(), (), ?_, fun f => by rw [eL, if_pos hb, iL, if_pos ha], fun f => by rw [eR, if_pos hb, iR, if_pos ha]⟩
    rw [take_succ' hx]; intro y hy; rcases List.mem_append.1 hy with hy | hy
    ·exact hI y hy
    ·rw [List.mem_singleton.1 hy]; exact ⟨b0.1 hb, fun z hz => by simpa using List.all_eq_true.1 ha z hz⟩
   ·right; exact ⟨9, ⟨fun h => (by cases h), fun h => absurd (List.all_eq_true.2 fun z hz => by simpa using (h x hxm).2 z hz) ha⟩, fun f => by rw [eL, if_pos hb, iL, if_neg ha], fun f => by rw [eR, if_pos hb, iR, if_neg ha]⟩)
  (by
   rintro ⟨⟩ ⟨⟩ hI
   rw [List.take_length] at hI
   refine ⟨0, ⟨fun _ => hI, fun _ => rfl⟩, fun f => ?_, fun f => ?_⟩
   ·simp only [m_affine_Validate_l1]; rw [if_neg (by simp)]
   ·simp only [m_ref10_Validate_l1]; rw [if_neg (by simp)]) () () (by simp)
 exact ⟨q, ⟨fun h => ⟨by omega, by omega, hN, h0.1 h⟩, fun h => h0.2 h.2.2.2⟩, (if_neg c).trans (by rw [r1, Option.bind_some, if_neg (by simpa using hr)]; exact h1), (if_neg c).trans (by rw [r2, if_pos hr, m_ref10_Validate_j1]; exact h2)⟩
end Go.Proofs.Ytaokohndeepbjaa
