import Derived.Test.YtmhoikfoogemnaaGreatDoorSLfO
import Derived.Test.YtmhoikfoogemnaaGreatDoorSLfS
import Derived.Test.YtmhoikfoogemnaaGreatDoorSLfX
import Derived.Test.YtmhoikfoogemnaaGreatDoorProg
import Derived.KernelRfl
import Derived.Lib.ParseIntB
import Derived.Lib.AtoiErrMem
import Derived.Lib.Bytealg
import Derived.Shelf.Strings.Fields
namespace Go.Proofs.YtmhoikfoogemnaaGreatDoor
open Go Go.RowKit Go.Vc
set_option linter.unusedVariables false
theorem gSpace : Tryz.prog.globalNamed "strings.asciiSpace" = some 0 := by kernel_rfl
def clSpace : Cl := tabCl gSpace .u8 Lib.asciiSpaceTab
def m_strings_Fields (s : List UInt8) : Option (List (List UInt8)) := if (∀ b ∈ s, b.toNat < 128) ∧ s.length < 4294967281 then some (Lib.fields s) else none
def m_strconv_ParseInt (s : List UInt8) (b bits : Int) : Option (Int × Unit) := if b = 10 ∧ bits = 64 ∧ s.length ≤ 4294967296 then (match Lib.parseIntB 64 s with | .ok v => some (v, ()) | _ => none) else none
def m_internal_stringslite_Index (s p : List UInt8) : Option Int := match p with
 | [c] => some (Lib.indexByte s c)
 | _ => none
end Go.Proofs.YtmhoikfoogemnaaGreatDoor
