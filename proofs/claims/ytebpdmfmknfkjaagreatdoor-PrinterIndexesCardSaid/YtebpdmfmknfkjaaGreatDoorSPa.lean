import Derived.Test.YtebpdmfmknfkjaaGreatDoorSOp
import Derived.KernelRfl
namespace Go.Proofs.YtebpdmfmknfkjaaGreatDoor
open Go Go.RowKit Go.Vc
set_option linter.unusedVariables false
set_option linter.unusedSimpArgs false
theorem okI_R {n : Int} (h : okI .i64 n) : R64 n := wf_int h
theorem wi {p : Int} (h : R64 p) : wi64 p = p := wr_i64 h
theorem wu {p : Int} (h : RU64 p) : wu64 p = p := wr_u64 h
end Go.Proofs.YtebpdmfmknfkjaaGreatDoor
