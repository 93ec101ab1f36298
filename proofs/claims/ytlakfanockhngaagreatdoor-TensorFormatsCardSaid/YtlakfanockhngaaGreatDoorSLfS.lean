/- State that a function value carries; loops over functions: the loop's record and the block of its deferred calls as objects; the rounds; the statement; the frame's end. Conditions: stated with each rule. -/
import Derived.Test.YtlakfanockhngaaGreatDoorSLfF
import Derived.RangeFuncRecord
namespace Go.Vc
open Go Go.RowKit

def MO.obj (r : Nat) (o : Obj) : MO where
  inv C _ w := (∀ k, C k ↔ k = r) ∧ w.heap[r]? = some o
  lt h k hk := by rw [(h.1 k).1 hk]; exact (Array.getElem?_eq_some_iff.1 h.2).1
  sp h hc _ := ⟨h.1, (hc r ((h.1 r).2 rfl)).trans h.2⟩
abbrev MO.loop (l : Nat) (r : Loop) : MO := MO.obj l (.loop r)
section
variable {P : Program} {C0 F C : NP} {w0 w w' : World} {os os' : List MO} {cl : List Cl} {f : MO → List MO} {r l : Nat} {o o' : Obj} {rc : Loop}
theorem Bun.newObj (h : Bun C0 F w0 C w os cl) (o : Obj) : ∃ C', (∀ md, Sp (DM md F C) w (DM md F C') (w.alloc o)) ∧ Bun C0 F w0 C' (w.alloc o) (MO.obj w.heap.size o :: os) cl :=
  h.new (b := w.heap.size) (Ext.alloc _) rfl (by simp) fun D _ => ⟨fun _ => Iff.rfl, heap_alloc_new w o⟩
end

/-! ### The state of a loop over a function: where it stands, what its objects hold -/
def StI.loop {σ β : Type} (l : Nat) (rc : Nat → Loop) (os : σ → β → List MO) (cl : σ → β → List Cl) : StI (Nat × σ) :=
  StI.of (fun s b => MO.loop l (rc s.1) :: os s.2 b) (fun s b => cl s.2 b)

section
variable {P : Program} {ro : Option Nat} {n : Fr} {Kn : Act → World → Prop} {Ke : Nat → Act → World → Prop} {Kr : Act → World → Prop} {env : Env} {w : World}
variable {C0 F C : NP} {w0 : World} {os : List MO} {cl : List Cl} {f : MO → List MO} {l r m : Nat} {fn : FuncId} {tmps : Array Value} {ps : Array Tmp} {assign body : Code} {R : Ending → World → Prop}
theorem Subs.up {c : Cl} {L L' : List Cl} (h : Subs L L') : Subs (c :: L) L' := by
  induction L' with
  | nil => trivial
  | cons a L' ih => exact ⟨.s h.1, ih h.2⟩
theorem Subs.refl (L : List Cl) : Subs L L := by
  induction L with
  | nil => trivial
  | cons a L ih => exact ⟨.z, ih.up⟩
end
end Go.Vc
