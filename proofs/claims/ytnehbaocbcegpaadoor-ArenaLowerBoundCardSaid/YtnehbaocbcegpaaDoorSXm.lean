import Derived.Test.YtnehbaocbcegpaaDoorSLfO
import Derived.Test.YtnehbaocbcegpaaDoorSLfS
import Derived.Test.YtnehbaocbcegpaaDoorSLfQ
import Derived.Test.YtnehbaocbcegpaaDoorProg
import Derived.KernelRfl
import Derived.Shelf.Strings.Fields
namespace Go.Proofs.YtnehbaocbcegpaaDoor
open Go Go.RowKit Go.Vc
set_option linter.unusedVariables false
theorem gSpace : Tryd.prog.globalNamed "strings.asciiSpace" = some 0 := by kernel_rfl
def clSpace : Cl := tabCl gSpace .u8 Lib.asciiSpaceTab
def m_strings_Fields (s : List UInt8) : Option (List (List UInt8)) := if (∀ b ∈ s, b.toNat < 128) ∧ s.length < 4294967281 then some (Lib.fields s) else none
end Go.Proofs.YtnehbaocbcegpaaDoor
