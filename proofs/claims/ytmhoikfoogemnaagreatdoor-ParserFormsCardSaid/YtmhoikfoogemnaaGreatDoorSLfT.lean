import Derived.Test.YtmhoikfoogemnaaGreatDoorSLfQ
import Derived.Laws.IdiomStrings
namespace Go.Vc
open Go Go.RowKit
def Cod.bot (α : Type) (n : Nat) : Cod α where
 n := n
 rel _ _ _ _ := False
 len h := h.elim
 one h := h.elim
 sp _ h := h
def itC {α : Type} (S : Cod α → Cod α) (n : Nat) : Nat → Cod α
 | 0 => Cod.bot α n
 | k + 1 => S (itC S n k)
def Cod.fix {α : Type} (S : Cod α → Cod α) (n : Nat) (hn : ∀ c, (S c).n = n) : Cod α where
 n := n
 rel D w x cs := ∃ k, (itC S n k).rel D w x cs
 len h := by
  obtain ⟨k, h⟩ := h
  cases k with
  | zero => exact False.elim h
  | succ k => exact ((itC S n (k + 1)).len h).trans (hn _)
 one h := by obtain ⟨k, h⟩ := h; exact (itC S n k).one h
 sp hs h := by obtain ⟨k, h⟩ := h; exact ⟨k, (itC S n k).sp hs h⟩
section
variable {α : Type} {c c' : Cod α} {D : NP} {w : World} {A : Option Addr} {cap : Nat} {xs : List α} {S : Cod α → Cod α} {n : Nat}
theorem Rels.mono (hm : ∀ D w x cs, c.rel D w x cs → c'.rel D w x cs) : ∀ {xs : List α} {css : List (List Value)}, Rels c D w xs css → Rels c' D w xs css
 | [], [], h => h
 | [], _ :: _, h => h.elim
 | _ :: _, [], h => h.elim
 | _ :: _, _ :: _, h => ⟨hm _ _ _ _ h.1, Rels.mono hm h.2⟩
theorem SlC.mono (h : SlC c D w A cap xs) (hm : ∀ D w x cs, c.rel D w x cs → c'.rel D w x cs) : SlC c' D w A cap xs :=
 ⟨h.1, fun hn => let ⟨ad, h1, h2, h3, css, h4, h5⟩ := h.2 hn; ⟨ad, h1, h2, h3, css, h4.mono hm, h5⟩⟩
theorem itC_step (hS : ∀ {c c' : Cod α}, (∀ D w x cs, c.rel D w x cs → c'.rel D w x cs) → ∀ D w x cs, (S c).rel D w x cs → (S c').rel D w x cs) (k : Nat) : ∀ D w x cs, (itC S n k).rel D w x cs → (itC S n (k + 1)).rel D w x cs := by
 induction k with
 | zero => exact fun _ _ _ _ h => False.elim h
 | succ k ih => exact hS ih
theorem itC_mono (hS : ∀ {c c' : Cod α}, (∀ D w x cs, c.rel D w x cs → c'.rel D w x cs) → ∀ D w x cs, (S c).rel D w x cs → (S c').rel D w x cs) {k m : Nat} (h : k ≤ m) : ∀ D w x cs, (itC S n k).rel D w x cs → (itC S n m).rel D w x cs := by
 induction h with
 | refl => exact fun _ _ _ _ h => h
 | step _ ih => exact fun D w x cs h => itC_step hS _ D w x cs (ih D w x cs h)
theorem Rels.fix_out {hn : ∀ c, (S c).n = n} (hS : ∀ {c c' : Cod α}, (∀ D w x cs, c.rel D w x cs → c'.rel D w x cs) → ∀ D w x cs, (S c).rel D w x cs → (S c').rel D w x cs) : ∀ {xs : List α} {css : List (List Value)}, Rels (Cod.fix S n hn) D w xs css → ∃ k, Rels (itC S n k) D w xs css
 | [], [], _ => ⟨0, trivial⟩
 | [], _ :: _, h => h.elim
 | _ :: _, [], h => h.elim
 | _ :: _, _ :: _, h => by
  obtain ⟨⟨k, h1⟩, h2⟩ := h
  obtain ⟨m, h3⟩ := Rels.fix_out hS h2
  exact ⟨max k m, itC_mono hS (Nat.le_max_left ..) _ _ _ _ h1, h3.mono (itC_mono hS (Nat.le_max_right ..))⟩
theorem SlC.fix_out {hn : ∀ c, (S c).n = n} (h : SlC (Cod.fix S n hn) D w A cap xs) (hS : ∀ {c c' : Cod α}, (∀ D w x cs, c.rel D w x cs → c'.rel D w x cs) → ∀ D w x cs, (S c).rel D w x cs → (S c').rel D w x cs) : ∃ k, SlC (itC S n k) D w A cap xs := by
 rcases Nat.eq_zero_or_pos xs.length with h0 | h0
 ·exact ⟨0, h.1, fun hn => by omega⟩
 ·obtain ⟨ad, h1, h2, h3, css, h4, h5⟩ := h.2 h0
  obtain ⟨k, h6⟩ := h4.fix_out hS
  exact ⟨k, h.1, fun _ => ⟨ad, h1, h2, h3, css, h6, h5⟩⟩
end
section
variable {P : Program} {ro : Ro} {n : Fr} {Kn : Act → World → Prop} {Ke : Nat → Act → World → Prop} {Kr : Act → World → Prop} {env : Env} {w : World}
variable {ops : Array Oper} {rest : List Oper} {o : Oper} {i d : Nat} {v u : Value} {x y : Operand} {t t' e : TypeId}
theorem y_makeBound {f : FuncId} {ys : List Operand} {vs : List Value} {xs : Array Operand} (ho : o.op = .makeFunc (.func f) ys.toArray xs) (hx0 : xs = #[]) (hys : EvA n env ys vs) : Yld P n env o (.func (.func f) vs.toArray #[]) w := fun a ha => by
 subst hx0
 simp [execOp, ho, hys.map ha, Instr.makeFunc]
end
end Go.Vc
