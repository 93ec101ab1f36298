import Derived.Test.YtlakfanockhngaaGreatDoorSTf
namespace Go.Proofs.YtlakfanockhngaaGreatDoor
open Go Go.RowKit Go.Vc
set_option linter.unusedVariables false
set_option linter.unusedSimpArgs false
def pick {α : Type} (I o i : Nat) : List (List α × Nat) → Nat → Option α
 | [], _ => none
 | p :: ps, q => if q < p.2 then p.1[(o * p.2 + q) * I + i]? else pick I o i ps (q - p.2)
end Go.Proofs.YtlakfanockhngaaGreatDoor
