import Derived.Test.YtmhoikfoogemnaaGreatDoorSOp
import Derived.KernelRfl
namespace Go.Proofs.YtmhoikfoogemnaaGreatDoor
open Go Go.RowKit Go.Vc
set_option linter.unusedVariables false
set_option linter.unusedSimpArgs false
theorem wi {p : Int} (h : R64 p) : wi64 p = p := wr_i64 h
theorem wu {p : Int} (h : RU64 p) : wu64 p = p := wr_u64 h
end Go.Proofs.YtmhoikfoogemnaaGreatDoor
namespace Go.Proofs.YtmhoikfoogemnaaGreatDoor
open Go Go.RowKit Go.Vc
set_option linter.unusedVariables false
set_option linter.unusedSimpArgs false
end Go.Proofs.YtmhoikfoogemnaaGreatDoor
namespace Go.Proofs.YtmhoikfoogemnaaGreatDoor
open Go Go.RowKit Go.Vc
set_option linter.unusedVariables false
set_option linter.unusedSimpArgs false
theorem wiwu {x : Int} (h : R64 x) : wi64 (wu64 x) = x := by
 obtain ⟨h1, h2⟩ := h
 simp [IntKind.wrap, IntKind.signed, IntKind.bits]
 omega
theorem wi_of {x y c : Int} (h : R64 y) (e : x = y + c * 18446744073709551616) : wi64 x = y := by
 obtain ⟨h1, h2⟩ := h
 simp [IntKind.wrap, IntKind.signed, IntKind.bits]
 omega
def rnd (n d how : Int) : Int :=
 if n % d = 0 ∨ how = 1 then n / d
 else if how = 2 then n / d + 1
 else if how = 3 then (if n < 0 then n / d + 1 else n / d)
 else if d - n % d < n % d ∨ (d - n % d = n % d ∧ (n / d) % 2 ≠ 0) then n / d + 1 else n / d
def stop (a b : Int) (neg : Bool) (how : Int) : Prop := (a % b = 0 ∨ how = 3) ∨ (how = 1 ∧ neg = false) ∨ (how = 2 ∧ neg = true) ∨ (how = 4 ∧ (2 * (a % b) < b ∨ (2 * (a % b) = b ∧ (a / b) % 2 = 0)))
instance {a b : Int} {neg : Bool} {how : Int} : Decidable (stop a b neg how) := by unfold stop; infer_instance
end Go.Proofs.YtmhoikfoogemnaaGreatDoor
namespace Go.Proofs.YtmhoikfoogemnaaGreatDoor
open Go Go.RowKit Go.Vc
set_option linter.unusedVariables false
set_option linter.unusedSimpArgs false
end Go.Proofs.YtmhoikfoogemnaaGreatDoor
namespace Go.Proofs.YtmhoikfoogemnaaGreatDoor
open Go Go.RowKit Go.Vc
set_option linter.unusedVariables false
set_option linter.unusedSimpArgs false
def ord (a b : Int) : Int := if a < b then -1 else if b < a then 1 else 0
end Go.Proofs.YtmhoikfoogemnaaGreatDoor
namespace Go.Proofs.YtmhoikfoogemnaaGreatDoor
open Go Go.RowKit Go.Vc
set_option linter.unusedVariables false
set_option linter.unusedSimpArgs false
end Go.Proofs.YtmhoikfoogemnaaGreatDoor
namespace Go.Proofs.YtmhoikfoogemnaaGreatDoor
open Go Go.RowKit Go.Vc
set_option linter.unusedVariables false
set_option linter.unusedSimpArgs false
end Go.Proofs.YtmhoikfoogemnaaGreatDoor
namespace Go.Proofs.YtmhoikfoogemnaaGreatDoor
open Go Go.RowKit Go.Vc
set_option linter.unusedVariables false
set_option linter.unusedSimpArgs false
end Go.Proofs.YtmhoikfoogemnaaGreatDoor
namespace Go.Proofs.YtmhoikfoogemnaaGreatDoor
open Go Go.RowKit Go.Vc
set_option linter.unusedVariables false
set_option linter.unusedSimpArgs false
def leq (op : Int) (x y : GVal) : Prop := if op = 9 then x.N * y.D ≤ y.N * x.D else y.N * x.D ≤ x.N * y.D
end Go.Proofs.YtmhoikfoogemnaaGreatDoor
namespace Go.Proofs.YtmhoikfoogemnaaGreatDoor
open Go Go.RowKit Go.Vc
set_option linter.unusedVariables false
set_option linter.unusedSimpArgs false
end Go.Proofs.YtmhoikfoogemnaaGreatDoor
