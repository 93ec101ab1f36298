import Derived.Test.YtlakfanockhngaaGreatDoorSTi
namespace Go.Proofs.YtlakfanockhngaaGreatDoor
open Go Go.RowKit Go.Vc
set_option linter.unusedVariables false
set_option linter.unusedSimpArgs false
theorem ex12 : m_law12_examples = some true := by kernel_rfl
theorem TeR.of {t : GTensor} (h : okGTensor t) : TeR t := ⟨TyR.of h.1, fun v hv => VaR.of (h.2.2.1 v hv)⟩
theorem small12 (t : GTensor) (n : Int) : m_law12_Small t n = some ((decide ((t.Vals.length : Int) ≤ n)) && (decide ((t.Dims.length : Int) ≤ 20))) := rfl
theorem base_Tensor_refl {a : GTensor} (h1 : a.Dims.length < 4611686018427387904) (h2 : a.Vals.length < 4611686018427387904) : m_base_Tensor a a = some true := by
 rw [base_Tensor a a h1 h2, decide_eq_true rfl]
def neS (t : GTensor) : GTensor × Int := if teErr t = 0 then (t, 0) else (z0, teErr t)
def fuS (ty : GType) (d : List Int) (v : GVal) : GTensor × Int :=
 if tyB ty = true then (if shErr d = 0 then (if okV ty v = true then (⟨ty, d, List.replicate (prd (d.map Int.toNat)) v⟩, 0) else (z0, 1)) else (z0, shErr d)) else (z0, 10)
def loS (t : GTensor) (p : List Int) : Int × Int :=
 if teErr t = 0 then (if p.length = t.Dims.length then (if inB t.Dims p = true then (((off (t.Dims.map Int.toNat) (p.map Int.toNat) : Nat) : Int), 0) else (0, 12)) else (0, 11)) else (0, teErr t)
theorem tensor_locate {t : GTensor} (hr : TeR t) (h1 : t.Dims.length < 4611686018427387904) (h2 : t.Vals.length < 4611686018427387904) {p : List Int} (hp : p.length < 4611686018427387904) : m_tensor_locate t p = some (loS t p) := by
 unfold m_tensor_locate loS
 rw [tensor_Validate hr h1 h2, Option.bind_some]
 by_cases he : teErr t = 0
 rotate_left
 ·rw [if_pos (by simp [he]), if_neg he]
 obtain ⟨dn, ht⟩ := Ten.of he
 rw [if_neg (by simp [he]), if_pos he]
 by_cases hl : p.length = t.Dims.length
 rotate_left
 ·rw [if_pos (by simpa using fun h => hl (by omega)), if_neg hl]
 rw [if_neg (by simp [hl]), if_pos hl]
 rcases shape_Offset ht.shp hp with ⟨a, b⟩ | ⟨pn, rfl, hb, hin, ho⟩
 ·rw [b, a]; rfl
 ·rw [ho, hin, ht.shp.eq, ci_nat, ci_nat]; rfl
theorem loS_in {t : GTensor} {p : List Int} (h : (loS t p).2 = 0) : ∃ dn pn, Ten t dn ∧ p = ci pn ∧ Bd dn pn ∧ (loS t p).1 = ((off dn pn : Nat) : Int) := by
 unfold loS at h ⊢
 by_cases he : teErr t = 0
 rotate_left
 ·rw [if_neg he] at h; exact absurd h he
 obtain ⟨dn, ht⟩ := Ten.of he
 rw [if_pos he] at h ⊢
 by_cases hl : p.length = t.Dims.length
 rotate_left
 ·rw [if_neg hl] at h; cases h
 rw [if_pos hl] at h ⊢
 by_cases hin : inB t.Dims p = true
 rotate_left
 ·rw [if_neg hin] at h; cases h
 rw [if_pos hin]
 rw [ht.shp.eq] at hin ⊢
 obtain ⟨pn, rfl, hb⟩ := inB_ci hin
 exact ⟨dn, pn, ht, rfl, hb, by rw [ci_nat, ci_nat]⟩
def seS (t : GTensor) (v : GVal) (p : List Int) : GTensor × Int :=
 if (loS t p).2 = 0 then (if okV t.Type_ v = true then (⟨t.Type_, t.Dims, t.Vals.set (loS t p).1.toNat v⟩, 0) else (z0, 1)) else (z0, (loS t p).2)
theorem clone_o {t : GTensor} (h1 : t.Dims.length ≤ 4294967296) (h2 : t.Vals.length ≤ 4294967296) : m_tensor_clone_o t = some t := by
 unfold m_tensor_clone_o
 rw [lapp_nil h1, Option.bind_some, lapp_nil h2]; rfl
end Go.Proofs.YtlakfanockhngaaGreatDoor
