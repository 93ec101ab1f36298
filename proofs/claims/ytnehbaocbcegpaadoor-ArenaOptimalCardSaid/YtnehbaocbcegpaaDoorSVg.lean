import Derived.Test.YtnehbaocbcegpaaDoorSVf
namespace Go.Proofs.YtnehbaocbcegpaaDoor
open Go Go.RowKit Go.Vc
set_option linter.unusedVariables false
set_option linter.unusedSimpArgs false
theorem loop_two {σ τ R S : Type} {L : Nat → σ → Int → Option R} {M : Nat → τ → Int → Option S} {n : Nat} (hn : n < 4611686018427387904) (I : Nat → σ → τ → Prop) (Q : R → S → Prop)
  (rd : ∀ i s t, i < n → I i s t → ∃ s' t', I (i + 1) s' t' ∧ (∀ f, L (f + 1) s (i : Int) = L f s' ((i + 1 : Nat) : Int)) ∧ ∀ f, M (f + 1) t (i : Int) = M f t' ((i + 1 : Nat) : Int))
  (fin : ∀ s t, I n s t → ∃ r q, Q r q ∧ (∀ f, L (f + 1) s (n : Int) = some r) ∧ ∀ f, M (f + 1) t (n : Int) = some q) (s : σ) (t : τ) (h0 : I 0 s t) : ∃ r q, Q r q ∧ L fu s 0 = some r ∧ M fu t 0 = some q := by
 have key : ∀ (k f g i : Nat) (s : σ) (t : τ), i + k = n → k < f → k < g → I i s t → ∃ r q, Q r q ∧ L f s (i : Int) = some r ∧ M g t (i : Int) = some q := by
  intro k
  induction k with
  | zero =>
   intro f g i s t h hf hg hI
   obtain ⟨f, rfl⟩ : ∃ q, f = q + 1 := ⟨f - 1, by omega⟩
   obtain ⟨g, rfl⟩ : ∃ q, g = q + 1 := ⟨g - 1, by omega⟩
   obtain rfl : i = n := by omega
   obtain ⟨r, q, h0, h1, h2⟩ := fin s t hI
   exact ⟨r, q, h0, h1 f, h2 g⟩
  | succ k ih =>
   intro f g i s t h hf hg hI
   obtain ⟨f, rfl⟩ : ∃ q, f = q + 1 := ⟨f - 1, by omega⟩
   obtain ⟨g, rfl⟩ : ∃ q, g = q + 1 := ⟨g - 1, by omega⟩
   obtain ⟨s', t', h1, h2, h3⟩ := rd i s t (by omega) hI
   rw [h2, h3]; exact ih f g (i + 1) s' t' (by omega) (by omega) (by omega) h1
 exact key n fu fu 0 s t (by omega) (by unfold fu; omega) (by unfold fu; omega) h0
structure Pl (l : List GLifetime) (order : List Int) (i : Nat) (slots : List GSlot) (at_ : List Int) (size : Int) : Prop where
 rel : Rel l slots at_ (4096 * (i : Int))
 nc : ∀ (j k : Nat) (a b : GLifetime) (x y : Int), j ≠ k → l[j]? = some a → l[k]? = some b → at_[j]? = some x → at_[k]? = some y → 0 ≤ x → 0 ≤ y → ¬ Cl a b x y
 old : ∀ (j : Nat) (y : Int), at_[j]? = some y → 0 ≤ y → (j : Int) ∈ order.take i
 all : ∀ (j : Nat), (j : Int) ∈ order.take i → ∃ y, at_[j]? = some y ∧ 0 ≤ y
 end_ : ∀ (j : Nat) (a : GLifetime) (x : Int), l[j]? = some a → at_[j]? = some x → 0 ≤ x → x + a.Size ≤ size
 s0 : 0 ≤ size
 s1 : size ≤ 4096 * (i : Int)
theorem set_get {α : Type} (l : List α) (k j : Nat) (v : α) (hk : k < l.length) : (l.set k v)[j]? = if j = k then some v else l[j]? := by
 rw [List.getElem?_set]; by_cases h : k = j
 ·subst h; simp [hk]
 ·rw [if_neg h, if_neg (fun e => h e.symm)]
theorem place_both (l : List GLifetime) (hl : l.length ≤ 60) (hok : ∀ x ∈ l, okLt x) (order : List Int) (ho : order.length ≤ 60) (hn : order.Nodup) (hin : ∀ k ∈ order, 0 ≤ k ∧ k < (l.length : Int)) :
  ∃ slots at_ size, m_arena_place l order = some (slots, size) ∧ m_ref42_fit l order = some (at_, size, true) ∧ Pl l order order.length slots at_ size := by
 have neg : ∀ (j : Nat) (x : Int), (List.replicate l.length (-1 : Int))[j]? = some x → x = -1 := by
  intro j x hx
  rw [List.getElem?_replicate] at hx
  split at hx
  ·injection hx with hx; exact hx.symm
  ·cases hx
 have init : Pl l order 0 (List.replicate l.length ⟨[], 0, 0⟩) (List.replicate l.length (-1)) 0 := by
  refine ⟨⟨by simp, by simp, fun j z s y h1 h2 h3 => ?_⟩, fun j k a b x y _ _ _ hx _ x0 => ?_, fun j y hy y0 => ?_, fun j hj => by simp at hj, fun j a x _ hx x0 => ?_, by simp, by simp⟩
  ·rw [List.getElem?_replicate, if_pos (List.getElem?_eq_some_iff.1 h1).1] at h2
   injection h2 with h2; subst h2; exact .inl ⟨neg j y h3, rfl⟩
  ·have := neg j x hx; omega
  ·have := neg j y hy; omega
  ·have := neg j x hx; omega
 obtain ⟨r, q, hQ, e1, e2⟩ := loop_two (L := fun f (s : List GSlot × Int) i => m_arena_place_l1 order l f s.1 s.2 i) (M := fun f (s : List Int × Int) i => m_ref42_fit_l1 order l f s.1 s.2 i) (n := order.length) (by omega)
  (fun i s t => s.2 = t.2 ∧ Pl l order i s.1 t.1 t.2) (fun r q => q = (q.1, r.2, true) ∧ Pl l order order.length r.1 q.1 r.2)
  (by
   rintro i ⟨slots, size⟩ ⟨at_, size'⟩ hi ⟨rfl, hP⟩
   obtain ⟨k, hk⟩ := at_some hi
   obtain ⟨k0, k1⟩ := hin k (List.mem_of_getElem? hk)
   obtain ⟨kn, rfl⟩ : ∃ kn : Nat, k = kn := ⟨k.toNat, by omega⟩
   have hkl : kn < l.length := by omega
   obtain ⟨a, ha⟩ := at_some hkl
   have hao := hok a (List.mem_of_getElem? ha)
   have hls := hP.rel.ls
   have hla := hP.rel.la
   dsimp only at hP hls hla
   have hR : Rel l slots at_ 1000000 := ⟨hls, hla, fun j z s y h1 h2 h3 => (hP.rel.cell j z s y h1 h2 h3).imp id fun ⟨a1, a2, a3⟩ => ⟨a1, by omega, a3⟩⟩
   have hfree : at_[kn]? = some (-1) := by
    obtain ⟨y, hy⟩ := at_some (l := at_) (i := kn) (by omega)
    obtain ⟨s, hs⟩ := at_some (l := slots) (i := kn) (by omega)
    rcases hP.rel.cell kn a s y ha hs hy with ⟨h, _⟩ | ⟨h, _⟩
    ·rw [hy, h]
    ·obtain ⟨j, hj, hjk⟩ := mem_take' (hP.old kn y hy h)
     obtain ⟨q1, q2⟩ := List.getElem?_eq_some_iff.1 hjk
     obtain ⟨q3, q4⟩ := List.getElem?_eq_some_iff.1 hk
     have := List.pairwise_iff_getElem.1 hn j i q1 q3 hj
     rw [q2, q4] at this; exact absurd rfl this
   obtain ⟨x, hx, hL⟩ := fit_prog l slots at_ hR (by omega) hok kn a ha hfree
   have hxB : x ≤ 4096 * (i : Int) := by
    rcases hL.cand with h | ⟨j, z, y, h1, h2, h3, h4⟩
    ·omega
    ·obtain ⟨s, hs⟩ := at_some (l := slots) (i := j) (by have := (List.getElem?_eq_some_iff.1 h1).1; omega)
     rcases hP.rel.cell j z s y h1 hs h2 with h | h
     ·omega
     ·omega
   have hr := place_ref l slots at_ hR (by omega) hok kn a ha x hL (by omega)
   have x0 := hL.nn
   obtain ⟨_, _, a1, a2⟩ := id hao
   have s0 := hP.s0
   have s1 := hP.s1
   have hmax : max size (wi64 (x + a.Size)) = max size (x + a.Size) := by rw [wi (p := x + a.Size) ⟨by omega, by omega⟩]
   refine ⟨(slots.set kn ⟨a.Name, x, a.Size⟩, max size (x + a.Size)), (at_.set kn x, max size (x + a.Size)), ⟨rfl, ⟨?_, ?_, ?_, ?_, ?_, ?_, ?_⟩⟩, fun f => ?_, fun f => ?_⟩
   ·refine ⟨by simpa using hls, by simpa using hla, fun j z s y h1 h2 h3 => ?_⟩
    dsimp only at h2 h3
    rw [set_get _ _ _ _ (by omega)] at h2 h3
    by_cases hj : j = kn
    ·rw [if_pos hj] at h2 h3; injection h2 with h2; injection h3 with h3
     rw [hj, ha] at h1; injection h1 with h1; subst h1; subst h2; subst h3
     exact .inr ⟨x0, by omega, rfl⟩
    ·rw [if_neg hj] at h2 h3
     exact (hP.rel.cell j z s y h1 h2 h3).imp id fun ⟨a1, a2, a3⟩ => ⟨a1, by omega, a3⟩
   ·intro j j' b c u v hjj hb hc hu hv u0 v0
    dsimp only at hu hv
    rw [set_get _ _ _ _ (by omega)] at hu hv
    by_cases hj : j = kn
    ·rw [if_pos hj] at hu; injection hu with hu; subst hu
     rw [hj, ha] at hb; injection hb with hb; subst hb
     rw [if_neg (by omega)] at hv
     exact hL.fr j' c v hc hv v0
    ·rw [if_neg hj] at hu
     by_cases hj' : j' = kn
     ·rw [if_pos hj'] at hv; injection hv with hv; subst hv
      rw [hj', ha] at hc; injection hc with hc; subst hc
      exact fun h => hL.fr j b u hb hu u0 h.symm
     ·rw [if_neg hj'] at hv
      exact hP.nc j j' b c u v hjj hb hc hu hv u0 v0
   ·intro j y hy y0
    dsimp only at hy
    rw [set_get _ _ _ _ (by omega)] at hy
    rw [take_succ' hk]
    by_cases hj : j = kn
    ·rw [hj]; simp
    ·rw [if_neg hj] at hy; exact List.mem_append_left _ (hP.old j y hy y0)
   ·intro j hj
    dsimp only
    rw [set_get _ _ _ _ (by omega)]
    by_cases hjk : j = kn
    ·rw [if_pos hjk]; exact ⟨x, rfl, x0⟩
    ·rw [if_neg hjk]
     rw [take_succ' hk] at hj
     rcases List.mem_append.1 hj with hj | hj
     ·exact hP.all j hj
     ·rw [List.mem_singleton] at hj; omega
   ·intro j b u hb hu u0
    dsimp only at hu ⊢
    rw [set_get _ _ _ _ (by omega)] at hu
    by_cases hj : j = kn
    ·rw [if_pos hj] at hu; injection hu with hu; subst hu
     rw [hj, ha] at hb; injection hb with hb; subst hb; omega
    ·rw [if_neg hj] at hu
     have := hP.end_ j b u hb hu u0; omega
   ·dsimp only; omega
   ·dsimp only; omega
   ·simp only [m_arena_place_l1]
    rw [if_pos (lt_dec hi), lat_at hk, Option.bind_some, hx, Option.bind_some, lat_at ha, Option.bind_some, Option.bind_some, if_pos ⟨by omega, by omega⟩, Option.bind_some, Option.bind_some, hmax, wis (by omega)]
    rfl
   ·simp only [m_ref42_fit_l1]
    rw [if_pos (lt_dec hi), lat_at hk, Option.bind_some, lat_at ha, Option.bind_some, if_neg (by simp; omega), hr, Option.bind_some]
    simp only [Bool.not_true, Bool.false_eq_true, if_false]
    rw [if_pos ⟨by omega, by omega⟩, Option.bind_some, Option.bind_some, hmax, wis (by omega)]
    rfl)
  (by
   rintro ⟨slots, size⟩ ⟨at_, size'⟩ ⟨rfl, hP⟩
   refine ⟨(slots, size), (at_, size, true), ⟨rfl, hP⟩, fun f => ?_, fun f => ?_⟩
   ·simp only [m_arena_place_l1]; rw [if_neg (by simp)]
   ·simp only [m_ref42_fit_l1]; rw [if_neg (by simp)])
  (List.replicate l.length ⟨[], 0, 0⟩, 0) (List.replicate l.length (-1), 0) ⟨rfl, init⟩
 obtain ⟨slots, size⟩ := r
 obtain ⟨at_, size', b⟩ := q
 obtain ⟨h1, hP⟩ := hQ
 dsimp only at h1 hP e1 e2
 injection h1 with _ h1
 injection h1 with h1 h2
 subst h1; subst h2
 refine ⟨slots, at_, size', ?_, ?_, hP⟩
 ·unfold m_arena_place
  rw [lmake_ok _ (by omega), Option.bind_some]; exact e1
 ·unfold m_ref42_fit
  rw [lmake_ok _ (by omega), Option.bind_some]
  obtain ⟨t, ht, e3⟩ := loop_k (L := fun f (t : List Int) i => m_ref42_fit_l2 order l f t i) (n := l.length) (by omega) (fun t => m_ref42_fit_j1 order l t)
   (fun i t => t = List.replicate i (-1) ++ List.replicate (l.length - i) 0)
   (fun f i t hi ht => by
    refine ⟨_, rfl, ?_⟩
    subst ht
    simp only [m_ref42_fit_l2]
    rw [if_pos (by simp; omega), if_pos ⟨by omega, by simp; omega⟩, wis (by omega)]
    congr 1
    rw [show l.length - i = (l.length - (i + 1)) + 1 by omega, List.replicate_succ, List.replicate_succ']
    have := setm (List.replicate i (-1)) (List.replicate (l.length - (i + 1)) 0) (0 : Int) (-1)
    rw [List.length_replicate] at this
    rw [Int.toNat_natCast, this]; simp)
   (fun f t ht => by
    subst ht
    simp only [m_ref42_fit_l2]
    rw [if_neg (by simp)]) (List.replicate l.length 0) (by simp)
  rw [show m_ref42_fit_l2 order l fu (List.replicate l.length 0) 0 = m_ref42_fit_j1 order l t from e3, ht, m_ref42_fit_j1]
  simpa using e2
end Go.Proofs.YtnehbaocbcegpaaDoor
