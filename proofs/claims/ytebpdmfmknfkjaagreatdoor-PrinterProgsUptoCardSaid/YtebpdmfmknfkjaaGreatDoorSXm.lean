import Derived.Test.YtebpdmfmknfkjaaGreatDoorSLfO
import Derived.Test.YtebpdmfmknfkjaaGreatDoorSLfS
import Derived.Test.YtebpdmfmknfkjaaGreatDoorSLfT
import Derived.Test.YtebpdmfmknfkjaaGreatDoorProg
import Derived.KernelRfl
import Derived.Shelf.Strconv.Itoa3
import Derived.Shelf.Strings.Fields
namespace Go.Proofs.YtebpdmfmknfkjaaGreatDoor
open Go Go.RowKit Go.Vc
set_option linter.unusedVariables false
theorem gPow10 : Tryz.prog.globalNamed "internal/strconv.uint64pow10" = some 0 := by kernel_rfl
def clPow10 : Cl := tabCl gPow10 .u64 Lib.pow10Tab
theorem gSpace : Tryz.prog.globalNamed "strings.asciiSpace" = some 1 := by kernel_rfl
def clSpace : Cl := tabCl gSpace .u8 Lib.asciiSpaceTab
def m_internal_strconv_FormatInt (n b : Int) : Option (List UInt8) := if b = 10 ∧ -9223372036854775808 ≤ n ∧ n ≤ 9223372036854775807 then some (Lib.itoa n) else none
def m_internal_strconv_FormatUint (n b : Int) : Option (List UInt8) := if b = 10 ∧ 0 ≤ n ∧ n < 18446744073709551616 then some (Lib.itoa n) else none
def m_strings_Fields (s : List UInt8) : Option (List (List UInt8)) := if (∀ b ∈ s, b.toNat < 128) ∧ s.length < 4294967281 then some (Lib.fields s) else none
end Go.Proofs.YtebpdmfmknfkjaaGreatDoor
