/- Plain functions for what is taken from the shelf, and the tables that they lean on. -/
import Derived.Test.YtkmenmoiagkegaaDoorLfO
import Derived.Test.YtkmenmoiagkegaaDoorLfS
import Derived.Test.YtkmenmoiagkegaaDoorProg
import Derived.Shelf.Strconv.Itoa3
import Derived.Lib.ParseIntB
import Derived.Lib.AtoiErrMem
import Derived.Lib.Bytealg
namespace Go.Proofs.YtkmenmoiagkegaaDoor
open Go Go.RowKit Go.Vc
set_option linter.unusedVariables false

theorem gPow10 : Tryd.prog.globalNamed "internal/strconv.uint64pow10" = some 1 := by kernel_rfl
def clPow10 : Cl := tabCl gPow10 .u64 Lib.pow10Tab
/- The number that a text spells. -/
def m_strconv_ParseInt (s : List UInt8) (b bits : Int) : Option (Int × Unit) := if b = 10 ∧ bits = 64 ∧ s.length ≤ 4294967296 then (match Lib.parseIntB 64 s with | .ok v => some (v, ()) | _ => none) else none

/- The decimal numeral. -/
def m_internal_strconv_FormatInt (n b : Int) : Option (List UInt8) := if b = 10 ∧ -9223372036854775808 ≤ n ∧ n ≤ 9223372036854775807 then some (Lib.itoa n) else none

/- Where a byte stands in a string. -/
def m_internal_stringslite_Index (s p : List UInt8) : Option Int := match p with
  | [c] => some (Lib.indexByte s c)
  | _ => none

end Go.Proofs.YtkmenmoiagkegaaDoor
