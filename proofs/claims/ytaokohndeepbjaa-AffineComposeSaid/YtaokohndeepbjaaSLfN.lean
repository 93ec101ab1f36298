import Derived.Test.YtaokohndeepbjaaSLfM
namespace Go.Vc
open Go Go.RowKit
section
variable {P : Program} {ro : Option Nat} {n : Fr} {Kn : Act → World → Prop} {Ke : Nat → Act → World → Prop} {Kr : Act → World → Prop} {env : Env} {w : World}
variable {ops : Array Oper} {rest : List Oper} {rs : Tr} {fl : Fl} {o : Oper} {i d : Nat} {v : Value} {x y z : Operand} {t t' e : TypeId} {md : Bool} {X : List Nat}
variable {C0 F C : NP} {w0 : World} {os os' : List MO} {cl : List Cl} {f : MO → List MO} {b N : Nat} {T : TypeId} {α : Type} {enc : α → Value} {xs ys : List α} {c : Cod α} {A A2 : Option Addr}
theorem run_equalInNil {m cap : Nat} (k : Nat) (ht : P.underlying t = some (.slice e)) : (Op.equalIn (k + 1) t (.slice A m cap) (.slice none 0 0)).run P w = .ok A.isNone w := by
 unfold Op.equalIn
 simp only [Sem.run_bind, run_underlying ht, Result.andThen]
 cases A <;> rfl
theorem run_eqnil {m cap : Nat} (ht : P.underlying t = some (.slice e)) : (binOp .eql t (.slice A m cap) (.slice none 0 0)).run P w = .ok (.bool A.isNone) w := by
 have h : (Op.equal t (.slice A m cap) (.slice none 0 0)).run P w = .ok A.isNone w := run_equalInNil 9999 ht
 simp [binOp, h]
theorem y_eqnil {m cap : Nat} (ho : o.op = .binOp .eql t x y t') (hx : Ev n env x (.slice A m cap)) (hy : Ev n env y (.slice none 0 0)) (ht : P.underlying t = some (.slice e)) : Yld P n env o (.bool A.isNone) w := y_bin ho hx hy (run_eqnil ht) (by simp [go_sem])
theorem Bun.nilEmpty {cap : Nat} (h : Bun C0 F w0 C w os cl) (hi : In cl (Cl.sl c A cap xs)) (ha : A.isNone = true) : xs = [] := by
 rcases xs with _ | ⟨a, r⟩
 ·rfl
 ·obtain ⟨ad, h1, _⟩ := (h.get hi).2 (by simp)
  rw [h1] at ha; cases ha
end
end Go.Vc
