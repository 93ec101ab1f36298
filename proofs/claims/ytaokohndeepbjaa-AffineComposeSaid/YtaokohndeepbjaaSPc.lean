import Derived.Test.YtaokohndeepbjaaSPb
namespace Go.Proofs.Ytaokohndeepbjaa
open Go Go.RowKit Go.Vc
set_option linter.unusedVariables false
set_option linter.unusedSimpArgs false
theorem wiwu {x : Int} (h : R64 x) : wi64 (wu64 x) = x := by
 obtain ⟨h1, h2⟩ := h
 simp [IntKind.wrap, IntKind.signed, IntKind.bits]
 omega
theorem wi_of {x y c : Int} (h : R64 y) (e : x = y + c * 18446744073709551616) : wi64 x = y := by
 obtain ⟨h1, h2⟩ := h
 simp [IntKind.wrap, IntKind.signed, IntKind.bits]
 omega
def stop (a b : Int) (neg : Bool) (how : Int) : Prop := (a % b = 0 ∨ how = 3) ∨ (how = 1 ∧ neg = false) ∨ (how = 2 ∧ neg = true) ∨ (how = 4 ∧ (2 * (a % b) < b ∨ (2 * (a % b) = b ∧ (a / b) % 2 = 0)))
instance {a b : Int} {neg : Bool} {how : Int} : Decidable (stop a b neg how) := by unfold stop; infer_instance
end Go.Proofs.Ytaokohndeepbjaa
