import Derived.Test.YtnehbaocbcegpaaDoorSOp
import Derived.KernelRfl
namespace Go.Proofs.YtnehbaocbcegpaaDoor
open Go Go.RowKit Go.Vc
set_option linter.unusedVariables false
set_option linter.unusedSimpArgs false
theorem wi {p : Int} (h : R64 p) : wi64 p = p := wr_i64 h
end Go.Proofs.YtnehbaocbcegpaaDoor
