import Derived.Test.YtebpdmfmknfkjaaGreatDoorSLfN
namespace Go.Vc
open Go Go.RowKit
section
variable {P : Program} {ro : Option Nat} {n : Fr} {Kn : Act → World → Prop} {Ke : Nat → Act → World → Prop} {Kr : Act → World → Prop} {env : Env} {w : World}
variable {ops : Array Oper} {o : Oper} {i d : Nat} {v : Value} {S : Sn} {rest : Tr}
end
section
variable {P : Program} {ro : Option Nat} {n : Fr} {Kn : Act → World → Prop} {Ke : Nat → Act → World → Prop} {Kr : Act → World → Prop} {env : Env} {w : World}
variable {ops : Array Oper} {rest : List Oper} {rs : Tr} {fl : Fl} {o : Oper} {i d : Nat} {v u : Value} {x y z : Operand} {t t' e : TypeId} {md : Bool} {X : List Nat}
variable {C0 F C : NP} {w0 : World} {os : List MO} {cl : List Cl} {f : MO → List MO} {α : Type} {c : Cod α} {A A2 : Option Addr} {xs ys : List α}
end
end Go.Vc
