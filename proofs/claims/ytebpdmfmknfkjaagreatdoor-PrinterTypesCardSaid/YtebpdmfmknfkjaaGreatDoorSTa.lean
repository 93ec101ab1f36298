import Derived.Test.YtebpdmfmknfkjaaGreatDoorSPj
import Derived.KernelRfl
namespace Go.Proofs.YtebpdmfmknfkjaaGreatDoor
open Go Go.RowKit Go.Vc
set_option linter.unusedVariables false
set_option linter.unusedSimpArgs false
theorem lapp_ok {α : Type} {xs ys : List α} (h : xs.length + ys.length ≤ 4294967296) : lapp xs ys = some (xs ++ ys) := by unfold lapp; rw [if_pos h]
def prd : List Nat → Nat
 | [] => 1
 | x :: d => x * prd d
def off : List Nat → List Nat → Nat
 | _ :: d, q :: p => q * prd d + off d p
 | _, _ => 0
end Go.Proofs.YtebpdmfmknfkjaaGreatDoor
