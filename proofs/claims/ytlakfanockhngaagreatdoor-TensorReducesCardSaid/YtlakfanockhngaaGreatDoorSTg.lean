import Derived.Test.YtlakfanockhngaaGreatDoorSTf
namespace Go.Proofs.YtlakfanockhngaaGreatDoor
open Go Go.RowKit Go.Vc
set_option linter.unusedVariables false
set_option linter.unusedSimpArgs false
def pick {α : Type} (I o i : Nat) : List (List α × Nat) → Nat → Option α
 | [], _ => none
 | p :: ps, q => if q < p.2 then p.1[(o * p.2 + q) * I + i]? else pick I o i ps (q - p.2)
theorem split_ok {d : List Int} {d1 d2 : List Nat} {m i : Nat} (hs : Shp d (d1 ++ m :: d2)) (hi : d1.length = i) : m_tensor_split d (i : Int) = some ((prd d1 : Int), (m : Int), (prd d2 : Int)) := by
 have hl := hs.len
 have hp := hs.pos
 have hle := hs.le
 simp only [List.length_append, List.length_cons] at hl
 have p1 : Pos d1 := hp.app.1
 have p2 : Pos d2 := fun x hx => hp x (by simp [hx])
 have pm := hp m (by simp)
 rw [prd_app] at hle
 simp only [prd] at hle
 have b1 := prd_pos p1
 have b2 := prd_pos p2
 have h1 : prd d1 ≤ 4096 := Nat.le_trans (Nat.le_mul_of_pos_right _ (Nat.mul_pos pm b2)) hle
 have h2 : prd d2 ≤ 4096 := by
  have e1 : prd d2 ≤ m * prd d2 := Nat.le_mul_of_pos_left _ pm
  have e2 : m * prd d2 ≤ prd d1 * (m * prd d2) := Nat.le_mul_of_pos_left _ b1
  omega
 have s1 : Shp (ci d1) d1 := ⟨rfl, p1, h1, by omega⟩
 have s2 : Shp (ci d2) d2 := ⟨rfl, p2, h2, by omega⟩
 subst hi
 unfold m_tensor_split
 have hd := hs.eq
 rw [hd, show lupto (ci (d1 ++ m :: d2)) (d1.length : Int) = some (ci d1) by unfold lupto; rw [if_pos (by rw [ci_len]; simp; omega), Int.toNat_natCast, ci_take, List.take_left], Option.bind_some, ci_at (x := m) (by rw [List.getElem?_append_right (Nat.le_refl _)]; simp), Option.bind_some, wis (by omega)]
 rw [show lfrom (ci (d1 ++ m :: d2)) ((d1.length + 1 : Nat) : Int) = some (ci d2) by unfold lfrom; rw [if_pos (by rw [ci_len]; simp; omega), Int.toNat_natCast, ci_drop, List.drop_length_add_append]; rfl, Option.bind_some, s1.size, Option.bind_some, s2.size]
 rfl
end Go.Proofs.YtlakfanockhngaaGreatDoor
