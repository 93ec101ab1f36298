import Derived.Test.YtebpdmfmknfkjaaGreatDoorSLfS
import Derived.MapKept
namespace Go.Vc
open Go Go.RowKit
structure KC (κ : Type) [DecidableEq κ] where
 enc : κ → Value
 d : TypeDesc
 key : ∀ a, MapKept.IsKey d (enc a)
 same : ∀ a b, Instr.sameNow d (enc a) (enc b) = some (decide (a = b))
 bits : ∀ a, Instr.sameBits 10000 (enc a) (enc a) = true
section
variable {κ β : Type} [DecidableEq κ]
end
section
variable {κ β : Type} [DecidableEq κ] {kc : KC κ} {ev : β → Value} {m : List (κ × β)}
variable {P : Program} {ro : Option Nat} {n : Fr} {Kn : Act → World → Prop} {Ke : Nat → Act → World → Prop} {Kr : Act → World → Prop} {env : Env} {w : World}
variable {ops : Array Oper} {rest : List Oper} {rs : Tr} {fl : Fl} {o : Oper} {i d : Nat} {v : Value} {x y z : Operand} {t kt et : TypeId} {md : Bool} {X : List Nat}
variable {C0 F C : NP} {w0 : World} {os : List MO} {cl : List Cl} {f : MO → List MO} {b : Nat}
end
end Go.Vc
