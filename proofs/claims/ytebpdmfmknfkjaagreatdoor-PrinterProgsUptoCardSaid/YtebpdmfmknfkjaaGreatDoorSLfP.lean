import Derived.Test.YtebpdmfmknfkjaaGreatDoorSLfS
import Derived.MapKept
namespace Go.Vc
open Go Go.RowKit
structure KC (κ : Type) [DecidableEq κ] where
 enc : κ → Value
 d : TypeDesc
 key : ∀ a, MapKept.IsKey d (enc a)
 same : ∀ a b, Instr.sameNow d (enc a) (enc b) = some (decide (a = b))
 bits : ∀ a, Instr.sameBits 10000 (enc a) (enc a) = true
section
variable {κ β : Type} [DecidableEq κ]
end
section
variable {κ β : Type} [DecidableEq κ] {kc : KC κ} {ev : β → Value} {m : List (κ × β)}
variable {P : Program} {ro : Option Nat} {n : Fr} {Kn : Act → World → Prop} {Ke : Nat → Act → World → Prop} {Kr : Act → World → Prop} {env : Env} {w : World}
variable {ops : Array Oper} {rest : List Oper} {rs : Tr} {fl : Fl} {o : Oper} {i d : Nat} {v : Value} {x y z : Operand} {t kt et : TypeId} {md : Bool} {X : List Nat}
variable {C0 F C : NP} {w0 : World} {os : List MO} {cl : List Cl} {f : MO → List MO} {b : Nat}
end
end Go.Vc
namespace Go.Vc
open Go Go.RowKit
section
variable {P : Program} {ro : Option Nat} {n : Fr} {Kn : Act → World → Prop} {Ke : Nat → Act → World → Prop} {Kr : Act → World → Prop} {env : Env} {w : World}
variable {ops : Array Oper} {rest : List Oper} {rs : Tr} {fl : Fl} {o : Oper} {i d : Nat} {v : Value} {x y z : Operand} {t t' e : TypeId} {md : Bool} {X : List Nat}
variable {C0 F C : NP} {w0 : World} {os os' : List MO} {cl : List Cl} {f : MO → List MO} {b N : Nat} {T : TypeId} {α : Type} {enc : α → Value} {xs ys : List α} {c : Cod α} {A A2 : Option Addr}
theorem rels_one {D : NP} (hc : ∀ D w u, c.rel D w u [enc u]) : ∀ xs : List α, Rels c D w xs (xs.map fun u => [enc u])
 | [] => trivial
 | _ :: r => ⟨hc _ _ _, rels_one hc r⟩
theorem flat_one : ∀ xs : List α, (xs.map fun u => [enc u]).flatten = xs.map enc
 | [] => rfl
 | u :: r => by simp [flat_one r]
end
end Go.Vc
namespace Go.Vc
open Go Go.RowKit
section
variable {P : Program} {ro : Option Nat} {n : Fr} {Kn : Act → World → Prop} {Ke : Nat → Act → World → Prop} {Kr : Act → World → Prop} {env : Env} {w : World}
variable {ops : Array Oper} {o : Oper} {i d : Nat} {v : Value} {S : Sn} {rest : Tr}
end
section
variable {P : Program} {ro : Option Nat} {n : Fr} {Kn : Act → World → Prop} {Ke : Nat → Act → World → Prop} {Kr : Act → World → Prop} {env : Env} {w : World}
variable {ops : Array Oper} {rest : List Oper} {rs : Tr} {fl : Fl} {o : Oper} {i d : Nat} {v u : Value} {x y z : Operand} {t t' e : TypeId} {md : Bool} {X : List Nat}
variable {C0 F C : NP} {w0 : World} {os : List MO} {cl : List Cl} {f : MO → List MO} {α : Type} {c : Cod α} {A A2 : Option Addr} {xs ys : List α}
theorem s_gcallS {β : Type} [Inhabited β] {g : FuncId} {args : Array Value} {b : Bool} (V : β → Value) (Ψ : β → World → Prop) (hg : Grd n env ops o b) (hd : o.dst = some d) (hr : b = true → Runs P n env o w (.ok (.enter g args) w))
  (hc : b = true → Calls P g args w fun e w' => ∃ x, e = .returned (V x) ∧ Ext w w' ∧ Ψ x w')
  (h : ∀ x w', Ext w w' → (b = true → Ψ x w') → SeqW P ro n ops Kn Ke Kr rest ((d, gv b (V x)) :: env) w') : SeqW P ro n ops Kn Ke Kr (o :: rest) env w :=
 s_gcall (fun u w' => ∃ x, u = V x ∧ Ext w w' ∧ Ψ x w') hg hd hr (fun hb => (hc hb).mono fun e w' ⟨x, h1, h2⟩ => ⟨V x, h1, x, rfl, h2⟩) fun u w' h1 h2 => by
  cases b with
  | true => obtain ⟨x, rfl, hx, hp⟩ := h1 rfl; exact h x w' hx fun _ => hp
  | false => rw [h2 rfl]; exact h default w .rfl' fun hb => by cases hb
end
end Go.Vc
