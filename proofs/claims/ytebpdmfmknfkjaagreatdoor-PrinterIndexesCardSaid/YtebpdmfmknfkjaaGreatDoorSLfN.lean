import Derived.Test.YtebpdmfmknfkjaaGreatDoorSLfM
namespace Go.Vc
open Go Go.RowKit
section
variable {P : Program} {ro : Option Nat} {n : Fr} {Kn : Act → World → Prop} {Ke : Nat → Act → World → Prop} {Kr : Act → World → Prop} {env : Env} {w : World}
variable {ops : Array Oper} {rest : List Oper} {rs : Tr} {fl : Fl} {o : Oper} {i d : Nat} {v : Value} {x y z : Operand} {t t' e : TypeId} {md : Bool} {X : List Nat}
variable {C0 F C : NP} {w0 : World} {os os' : List MO} {cl : List Cl} {f : MO → List MO} {b N : Nat} {T : TypeId} {α : Type} {enc : α → Value} {xs ys : List α} {c : Cod α} {A A2 : Option Addr}
theorem rels_one {D : NP} (hc : ∀ D w u, c.rel D w u [enc u]) : ∀ xs : List α, Rels c D w xs (xs.map fun u => [enc u])
 | [] => trivial
 | _ :: r => ⟨hc _ _ _, rels_one hc r⟩
theorem flat_one : ∀ xs : List α, (xs.map fun u => [enc u]).flatten = xs.map enc
 | [] => rfl
 | u :: r => by simp [flat_one r]
end
end Go.Vc
