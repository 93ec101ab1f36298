import Derived.Test.YtlakfanockhngaaGreatDoorSLfO
import Derived.Test.YtlakfanockhngaaGreatDoorSLfS
import Derived.Test.YtlakfanockhngaaGreatDoorSLfQ
import Derived.Test.YtlakfanockhngaaGreatDoorProg
import Derived.KernelRfl
import Derived.Shelf.Strconv.Itoa3
namespace Go.Proofs.YtlakfanockhngaaGreatDoor
open Go Go.RowKit Go.Vc
set_option linter.unusedVariables false
theorem gPow10 : Tryz.prog.globalNamed "internal/strconv.uint64pow10" = some 0 := by kernel_rfl
def clPow10 : Cl := tabCl gPow10 .u64 Lib.pow10Tab
def m_internal_strconv_FormatInt (n b : Int) : Option (List UInt8) := if b = 10 ∧ -9223372036854775808 ≤ n ∧ n ≤ 9223372036854775807 then some (Lib.itoa n) else none
end Go.Proofs.YtlakfanockhngaaGreatDoor
