/- Maps with keys that are compared at once, as lists of pairs: made, read, written. Conditions: stated with each rule. -/
import Derived.Test.YtlakfanockhngaaGreatDoorSLfS
import Derived.MapKept
namespace Go.Vc
open Go Go.RowKit

/-- Keys: how they lie in a map; when two are the same. -/
structure KC (κ : Type) [DecidableEq κ] where
  enc : κ → Value
  d : TypeDesc
  key : ∀ a, MapKept.IsKey d (enc a)
  same : ∀ a b, Instr.sameNow d (enc a) (enc b) = some (decide (a = b))
  bits : ∀ a, Instr.sameBits 10000 (enc a) (enc a) = true
section
variable {κ β : Type} [DecidableEq κ]
def Ents (kc : KC κ) (ev : β → Value) (m : List (κ × β)) (es : List MapEntry) : Prop := es.map (fun e => (e.key, e.val)) = m.map (fun p => (kc.enc p.1, ev p.2))
def MO.map (kc : KC κ) (ev : β → Value) (b : Nat) (m : List (κ × β)) : MO where
  inv C _ w := (∀ k, C k ↔ k = b) ∧ ∃ es clock, w.heap[b]? = some (.map es clock) ∧ Ents kc ev m es.toList
  lt h k hk := by rw [(h.1 k).1 hk]; obtain ⟨_, es, clock, h, _⟩ := h; exact (Array.getElem?_eq_some_iff.1 h).1
  sp h hc _ := ⟨h.1, by obtain ⟨h1, es, clock, h, k⟩ := h; exact ⟨es, clock, (hc b ((h1 b).2 rfl)).trans h, k⟩⟩
end

section
variable {κ β : Type} [DecidableEq κ] {kc : KC κ} {ev : β → Value} {m : List (κ × β)}
variable {P : Program} {ro : Option Nat} {n : Fr} {Kn : Act → World → Prop} {Ke : Nat → Act → World → Prop} {Kr : Act → World → Prop} {env : Env} {w : World}
variable {ops : Array Oper} {rest : List Oper} {rs : Tr} {fl : Fl} {o : Oper} {i d : Nat} {v : Value} {x y z : Operand} {t kt et : TypeId} {md : Bool} {X : List Nat}
variable {C0 F C : NP} {w0 : World} {os : List MO} {cl : List Cl} {f : MO → List MO} {b : Nat}

end
end Go.Vc
