import Derived.Test.YtebpdmfmknfkjaaGreatDoorSPj
import Derived.Test.YtebpdmfmknfkjaaGreatDoorSTa
namespace Go.Proofs.YtebpdmfmknfkjaaGreatDoor
open Go Go.RowKit Go.Vc
set_option linter.unusedVariables false
set_option linter.unusedSimpArgs false
def dig (c : UInt8) : Bool := decide (48 ≤ c.toNat) && decide (c.toNat ≤ 57)
def dvalA (n : Nat) (s : List UInt8) : Nat := s.foldl (fun n c => 10 * n + (c.toNat - 48)) n
def dval (s : List UInt8) : Nat := dvalA 0 s
theorem dvalA_cons (n : Nat) (c : UInt8) (s : List UInt8) : dvalA n (c :: s) = dvalA (10 * n + (c.toNat - 48)) s := by unfold dvalA; rw [List.foldl_cons]
theorem size01 {n : Int} (h : R64 n) : m_ref01_size n = some (if n < 0 then -n else n) := by
 obtain ⟨h1, h2⟩ := h
 unfold m_ref01_size
 by_cases hn : n < 0
 ·simp only [hn, decide_true, if_true]
  rw [wi (p := n + 1) ⟨by omega, by omega⟩, wi (p := -(n + 1)) ⟨by omega, by omega⟩, wu (p := -(n + 1)) ⟨by omega, by omega⟩, wu ⟨by omega, by omega⟩]
  congr 1; omega
 ·simp only [hn, decide_false, Bool.false_eq_true, if_false]
  rw [wu ⟨by omega, by omega⟩]
theorem dvalA_snoc (n : Nat) (s : List UInt8) (c : UInt8) : dvalA n (s ++ [c]) = 10 * dvalA n s + (c.toNat - 48) := by
 unfold dvalA; rw [List.foldl_append]; rfl
theorem of48 {u : Nat} (h : u < 10) : (UInt8.ofNat (48 + u)).toNat = 48 + u := by
 rw [UInt8.toNat_ofNat']; omega
theorem dig48 {u : Nat} (h : u < 10) : dig (UInt8.ofNat (48 + u)) = true := by
 unfold dig; rw [of48 h]; simp <;> omega
theorem dd_small {u : Nat} (h : u < 10) : Lib.decDigits u = [UInt8.ofNat (48 + u)] := by rw [Lib.decDigits, dif_pos h]
theorem dd_big {u : Nat} (h : ¬ u < 10) : Lib.decDigits u = Lib.decDigits (u / 10) ++ [UInt8.ofNat (48 + u % 10)] := by rw [Lib.decDigits, dif_neg h]
theorem head_app {s t : List UInt8} (h : s ≠ []) : (s ++ t).head? = s.head? := by cases s with | nil => exact absurd rfl h | cons c r => rfl
theorem dd_spec (u : Nat) : (Lib.decDigits u).all dig = true ∧ dval (Lib.decDigits u) = u ∧ Lib.decDigits u ≠ [] ∧ (u ≠ 0 → (Lib.decDigits u).head? ≠ some 48) := by
 induction u using Nat.strongRecOn with
 | _ u ih =>
  by_cases h : u < 10
  ·rw [dd_small h]
   refine ⟨by rw [List.all_cons, dig48 h]; rfl, ?_, by simp, fun h0 => ?_⟩
   ·unfold dval; rw [dvalA_cons]; simp only [dvalA, List.foldl_nil]; rw [of48 h]; omega
   ·rw [List.head?_cons]
    intro e
    injection e with e
    have := congrArg UInt8.toNat e
    rw [of48 h] at this
    simp at this; omega
  ·obtain ⟨h1, h2, h3, h4⟩ := ih (u / 10) (by omega)
   rw [dd_big h]
   have hm : u % 10 < 10 := by omega
   refine ⟨by rw [List.all_append, h1, List.all_cons, dig48 hm]; rfl, ?_, by simp, fun h0 => ?_⟩
   ·unfold dval at h2 ⊢; rw [dvalA_snoc, h2, of48 hm]; omega
   ·rw [head_app h3]; exact h4 (by omega)
end Go.Proofs.YtebpdmfmknfkjaaGreatDoor
