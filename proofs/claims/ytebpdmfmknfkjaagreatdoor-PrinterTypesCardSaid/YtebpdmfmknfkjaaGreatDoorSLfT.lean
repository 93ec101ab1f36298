import Derived.Test.YtebpdmfmknfkjaaGreatDoorSLfQ
import Derived.Test.YtebpdmfmknfkjaaGreatDoorSLfO
import Derived.Laws.IdiomStrings
namespace Go.Vc
open Go Go.RowKit Go.WideShapes
def Cod.bot (α : Type) (n : Nat) : Cod α where
 n := n
 rel _ _ _ _ := False
 len h := h.elim
 one h := h.elim
 sp _ h := h
def itC {α : Type} (S : Cod α → Cod α) (n : Nat) : Nat → Cod α
 | 0 => Cod.bot α n
 | k + 1 => S (itC S n k)
def Cod.fix {α : Type} (S : Cod α → Cod α) (n : Nat) (hn : ∀ c, (S c).n = n) : Cod α where
 n := n
 rel D w x cs := ∃ k, (itC S n k).rel D w x cs
 len h := by
  obtain ⟨k, h⟩ := h
  cases k with
  | zero => exact False.elim h
  | succ k => exact ((itC S n (k + 1)).len h).trans (hn _)
 one h := by obtain ⟨k, h⟩ := h; exact (itC S n k).one h
 sp hs h := by obtain ⟨k, h⟩ := h; exact ⟨k, (itC S n k).sp hs h⟩
section
variable {α : Type} {c c' : Cod α} {D : NP} {w : World} {A : Option Addr} {cap : Nat} {xs : List α} {S : Cod α → Cod α} {n : Nat}
theorem Rels.mono (hm : ∀ D w x cs, c.rel D w x cs → c'.rel D w x cs) : ∀ {xs : List α} {css : List (List Value)}, Rels c D w xs css → Rels c' D w xs css
 | [], [], h => h
 | [], _ :: _, h => h.elim
 | _ :: _, [], h => h.elim
 | _ :: _, _ :: _, h => ⟨hm _ _ _ _ h.1, Rels.mono hm h.2⟩
theorem SlC.mono (h : SlC c D w A cap xs) (hm : ∀ D w x cs, c.rel D w x cs → c'.rel D w x cs) : SlC c' D w A cap xs :=
 ⟨h.1, fun hn => let ⟨ad, h1, h2, h3, css, h4, h5⟩ := h.2 hn; ⟨ad, h1, h2, h3, css, h4.mono hm, h5⟩⟩
end
section
variable {P : Program} {ro : Option Nat} {n : Fr} {Kn : Act → World → Prop} {Ke : Nat → Act → World → Prop} {Kr : Act → World → Prop} {env : Env} {w : World}
variable {ops : Array Oper} {rest : List Oper} {o : Oper} {i d : Nat} {v u : Value} {x y : Operand} {t t' e : TypeId}
theorem y_makeBound {f : FuncId} {ys : List Operand} {vs : List Value} {xs : Array Operand} (ho : o.op = .makeFunc (.func f) ys.toArray xs) (hx0 : xs = #[]) (hys : EvA n env ys vs) : Yld P n env o (.func (.func f) vs.toArray #[]) w := fun a ha => by
 subst hx0
 simp [execOp, ho, hys.map ha, Instr.makeFunc]
theorem CallV.fnB {args : List Value} {R : Ending → World → Prop} {f : FuncId} {fs : List Value} (hok : FnOK P f) (h : Calls P f (fs ++ args).toArray w R) : CallV P (.func (.func f) fs.toArray #[]) args w R :=
 .inl ⟨f, fs, [], rfl, hok, by simpa using h⟩
end
section
variable {P : Program} {t e : TypeId} {α : Type} {c : Cod α} {ok : α → Prop} {N : Nat}
end
end Go.Vc
