/- Which tensors can be joined along an axis: program and reference. Conditions: at most 1000 tensors. -/
import Derived.Test.YtlakfanockhngaaGreatDoorSTe
namespace Go.Proofs.YtlakfanockhngaaGreatDoor
open Go Go.RowKit Go.Vc
set_option linter.unusedVariables false
set_option linter.unusedSimpArgs false

/-! ### The first error in a list -/
def firstErr {α : Type} (g : α → Int) : List α → Int
  | [] => 0
  | x :: l => if g x = 0 then firstErr g l else g x
theorem firstErr0 {α : Type} {g : α → Int} {l : List α} (h : firstErr g l = 0) : ∀ x ∈ l, g x = 0 := by
  induction l with
  | nil => intro x hx; cases hx
  | cons y l ih =>
    intro x hx
    simp only [firstErr] at h
    split at h
    · rename_i h0
      rcases List.mem_cons.1 hx with rfl | hx
      · exact h0
      · exact ih h x hx
    · contradiction
/-! ### Joining -/
def jT (t0 t : GTensor) : Int := if t.Type_ = t0.Type_ then (if t.Dims.length = t0.Dims.length then 0 else 11) else 10
def jD (t0 : GTensor) (ax : Int) (t : GTensor) : Int := if t.Dims.set ax.toNat 0 = t0.Dims.set ax.toNat 0 then 0 else 15
/-- The error of joining. -/
def jErr (ax : Int) : List GTensor → Int
  | [] => 1
  | t0 :: r =>
    if firstErr teErr (t0 :: r) = 0 then
      (if firstErr (jT t0) r = 0 then
        (if 0 ≤ ax ∧ ax < (t0.Dims.length : Int) then firstErr (jD t0 ax) r else 11)
      else firstErr (jT t0) r)
    else firstErr teErr (t0 :: r)
/-- Tensors that can be joined: the dimensions before and behind the axis, the lengths along it. -/
structure Jn (l : List GTensor) (i : Nat) (ty : GType) (d1 d2 ms : List Nat) : Prop where
  len : l.length = ms.length
  ten : ∀ (k : Nat) t m, l[k]? = some t → ms[k]? = some m → Ten t (d1 ++ m :: d2) ∧ t.Type_ = ty
  ax : d1.length = i
  ne : l ≠ []
theorem Jn.of {l : List GTensor} {ax : Int} (h : jErr ax l = 0) : ∃ i ty d1 d2 ms, ax = ((i : Nat) : Int) ∧ Jn l i ty d1 d2 ms := by
  rcases l with _ | ⟨t0, r⟩
  · cases h
  simp only [jErr] at h
  by_cases h1 : firstErr teErr (t0 :: r) = 0
  rotate_left
  · rw [if_neg h1] at h; contradiction
  rw [if_pos h1] at h
  by_cases h2 : firstErr (jT t0) r = 0
  rotate_left
  · rw [if_neg h2] at h; contradiction
  rw [if_pos h2] at h
  by_cases ha : 0 ≤ ax ∧ ax < (t0.Dims.length : Int)
  rotate_left
  · rw [if_neg ha] at h; cases h
  rw [if_pos ha] at h
  obtain ⟨i, rfl⟩ := Int.eq_ofNat_of_zero_le ha.1
  have hT := firstErr0 h1
  have hJ := firstErr0 h2
  have hD := firstErr0 h
  obtain ⟨dn0, ht0⟩ := Ten.of (hT t0 (by simp))
  have hi : i < dn0.length := by have := ha.2; rw [ht0.shp.eq, ci_len] at this; omega
  obtain ⟨m0, hm0⟩ := at_some hi
  have hax := Ax.of hm0
  have key : ∀ t ∈ t0 :: r, ∃ m, Ten t (dn0.take i ++ m :: dn0.drop (i + 1)) ∧ t.Type_ = t0.Type_ := by
    intro t ht
    rcases List.mem_cons.1 ht with rfl | hr
    · exact ⟨m0, by rw [← hax.eq]; exact ht0, rfl⟩
    · obtain ⟨dn, hten⟩ := Ten.of (hT t ht)
      have j1 := hJ t hr
      have j2 := hD t hr
      unfold jT at j1
      split at j1
      · rename_i hty
        split at j1
        · rename_i hlen
          unfold jD at j2
          split at j2
          · rename_i hset
            rw [Int.toNat_natCast] at hset
            rw [hten.shp.eq, ht0.shp.eq, ci_len, ci_len] at hlen
            obtain ⟨m, hm⟩ := at_some (l := dn) (i := i) (by omega)
            have hax2 := Ax.of hm
            rw [hten.shp.eq, ht0.shp.eq, show (0 : Int) = ((0 : Nat) : Int) from rfl, ci_set, ci_set] at hset
            have hs := ci_inj hset
            rw [(hax2.set 0).eq, (hax.set 0).eq] at hs
            have hs2 := List.append_inj hs (by rw [hax2.len, hax.len])
            refine ⟨m, ?_, hty⟩
            have e : dn = dn0.take i ++ m :: dn0.drop (i + 1) := by
              rw [← hs2.1]
              have := hs2.2
              simp only [List.cons.injEq, true_and] at this
              rw [← this]; exact hax2.eq
            rw [← e]; exact hten
          · cases j2
        · cases j1
      · cases j1
  have : ∀ l' : List GTensor, (∀ t ∈ l', ∃ m, Ten t (dn0.take i ++ m :: dn0.drop (i + 1)) ∧ t.Type_ = t0.Type_) → ∃ ms : List Nat, l'.length = ms.length ∧ ∀ (k : Nat) t m, l'[k]? = some t → ms[k]? = some m → Ten t (dn0.take i ++ m :: dn0.drop (i + 1)) ∧ t.Type_ = t0.Type_ := by
    intro l'
    induction l' with
    | nil => intro _; exact ⟨[], rfl, fun k t m h => by simp at h⟩
    | cons x l' ih =>
      intro hall
      obtain ⟨ms, h1, h2⟩ := ih fun t ht => hall t (by simp [ht])
      obtain ⟨m, hm⟩ := hall x (by simp)
      refine ⟨m :: ms, by simp [h1], fun k t m' ht hm' => ?_⟩
      cases k with
      | zero => simp at ht hm'; subst ht; subst hm'; exact hm
      | succ k => exact h2 k t m' (by simpa using ht) (by simpa using hm')
  obtain ⟨ms, q1, q2⟩ := this (t0 :: r) key
  exact ⟨i, t0.Type_, dn0.take i, dn0.drop (i + 1), ms, rfl, q1, q2, hax.len, by simp⟩
end Go.Proofs.YtlakfanockhngaaGreatDoor
