import Derived.Test.YtnehbaocbcegpaaDoorSLfF
import Derived.RangeFuncRecord
namespace Go.Vc
open Go Go.RowKit
section
variable {P : Program} {C0 F C : NP} {w0 w w' : World} {os os' : List MO} {cl : List Cl} {f : MO → List MO} {r l : Nat} {o o' : Obj} {rc : Loop}
end
section
variable {P : Program} {ro : Option Nat} {n : Fr} {Kn : Act → World → Prop} {Ke : Nat → Act → World → Prop} {Kr : Act → World → Prop} {env : Env} {w : World}
variable {C0 F C : NP} {w0 : World} {os : List MO} {cl : List Cl} {f : MO → List MO} {l r m : Nat} {fn : FuncId} {tmps : Array Value} {ps : Array Tmp} {assign body : Code} {R : Ending → World → Prop}
end
end Go.Vc
