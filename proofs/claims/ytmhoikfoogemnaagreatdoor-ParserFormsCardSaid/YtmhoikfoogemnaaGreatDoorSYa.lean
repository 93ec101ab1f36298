import Derived.Test.YtmhoikfoogemnaaGreatDoorSPj
import Derived.Test.YtmhoikfoogemnaaGreatDoorSVa
import Derived.Lib.ItoaNum
namespace Go.Proofs.YtmhoikfoogemnaaGreatDoor
open Go Go.RowKit Go.Vc
set_option linter.unusedVariables false
set_option linter.unusedSimpArgs false
def dig (c : UInt8) : Bool := decide (48 ≤ c.toNat) && decide (c.toNat ≤ 57)
def dvalA (n : Nat) (s : List UInt8) : Nat := s.foldl (fun n c => 10 * n + (c.toNat - 48)) n
def dval (s : List UInt8) : Nat := dvalA 0 s
theorem dvalA_cons (n : Nat) (c : UInt8) (s : List UInt8) : dvalA n (c :: s) = dvalA (10 * n + (c.toNat - 48)) s := by unfold dvalA; rw [List.foldl_cons]
theorem dvalA_big (s : List UInt8) (n : Nat) : n * 10 ^ s.length ≤ dvalA n s := by
 induction s generalizing n with
 | nil => simp [dvalA]
 | cons c s ih =>
  rw [dvalA_cons]
  have h := ih (10 * n + (c.toNat - 48))
  have : n * 10 ^ (c :: s).length = (10 * n) * 10 ^ s.length := by
   rw [List.length_cons, Nat.pow_succ, Nat.mul_comm (10 ^ s.length) 10, ← Nat.mul_assoc, Nat.mul_comm n 10]
  rw [this]
  exact Nat.le_trans (Nat.mul_le_mul_right _ (by omega)) h
theorem dvalA_snoc (n : Nat) (s : List UInt8) (c : UInt8) : dvalA n (s ++ [c]) = 10 * dvalA n s + (c.toNat - 48) := by
 unfold dvalA; rw [List.foldl_append]; rfl
end Go.Proofs.YtmhoikfoogemnaaGreatDoor
