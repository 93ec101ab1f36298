import Derived.Test.YtaokohndeepbjaaSWc
namespace Go.Proofs.Ytaokohndeepbjaa
open Go Go.RowKit Go.Vc
set_option linter.unusedVariables false
set_option linter.unusedSimpArgs false
theorem first_ix {names : List (List UInt8)} {s : List UInt8} (h : s ∈ names) : ∃ i : Nat, names[i]? = some s ∧ ∀ j, j < i → ∀ y, names[j]? = some y → y ≠ s := by
 induction names with
 | nil => cases h
 | cons n ns ih =>
  by_cases e : n = s
  ·exact ⟨0, by simp [e], fun j hj => by omega⟩
  ·obtain ⟨i, h1, h2⟩ := ih (by simpa [Ne.symm e] using h)
   refine ⟨i + 1, by simpa using h1, fun j hj y hy => ?_⟩
   cases j with
   | zero => simp at hy; exact hy ▸ e
   | succ j => exact h2 j (by omega) y (by simpa using hy)
theorem place_ok {names : List (List UInt8)} {s : List UInt8} {i : Nat} (hl : names.length < 4611686018427387904) (h1 : names[i]? = some s) (h2 : ∀ j, j < i → ∀ y, names[j]? = some y → y ≠ s) : m_ref10_Place names s = some (i : Int) := by
 have hi := (List.getElem?_eq_some_iff.1 h1).1
 unfold m_ref10_Place
 refine any_yes (n := names.length) hl hi (fun f i => m_ref10_Place_l1 names s f i) (fun f j hj => ?_) (fun f => ?_)
 ·obtain ⟨y, hy⟩ := at_some (l := names) (i := j) (by omega)
  left; simp only [m_ref10_Place_l1]; rw [if_pos (lt_dec (by omega)), lat_at hy, Option.bind_some, if_neg (by simpa using h2 j hj y hy), wis (by omega)]
 ·simp only [m_ref10_Place_l1]; rw [if_pos (lt_dec hi), lat_at h1, Option.bind_some, if_pos (by simp)]
theorem index_ok {names : List (List UInt8)} {s : List UInt8} {i : Nat} (hl : names.length < 4611686018427387904) (h1 : names[i]? = some s) (h2 : ∀ j, j < i → ∀ y, names[j]? = some y → y ≠ s) : m_slices_Index_string_string names s = some (i : Int) := by
 have hi := (List.getElem?_eq_some_iff.1 h1).1
 unfold m_slices_Index_string_string
 refine any_yes (n := names.length) hl hi (fun f i => m_slices_Index_string_string_l1 names s f i) (fun f j hj => ?_) (fun f => ?_)
 ·obtain ⟨y, hy⟩ := at_some (l := names) (i := j) (by omega)
  left; simp only [m_slices_Index_string_string_l1]; rw [if_pos (lt_dec (by omega)), lat_at hy, Option.bind_some, if_neg (by simpa using fun e => h2 j hj y hy e.symm), wis (by omega)]
 ·simp only [m_slices_Index_string_string_l1]; rw [if_pos (lt_dec hi), lat_at h1, Option.bind_some, if_pos (by simp)]
def esum (v : List UInt8 → Int) : List GMono → Int
 | [] => 0
 | m :: l => m.By * v m.Name + esum v l
def ev (v : List UInt8 → Int) (l : GLin) : Int := l.K + esum v l.L
theorem esum_app (v : List UInt8 → Int) (a b : List GMono) : esum v (a ++ b) = esum v a + esum v b := by
 induction a with
 | nil => simp [esum]
 | cons m a ih => simp only [List.cons_append, esum, ih]; omega
structure Wf (l : GLin) : Prop where
 k : R64 l.K
 b : ∀ m ∈ l.L, R64 m.By
 len : l.L.length ≤ 4294967296
theorem Wf.of {l : GLin} (h : okGLin l) (hl : l.L.length ≤ 4294967296) : Wf l := ⟨okI_R h.1, fun m hm => okI_R (h.2.1 m hm).2, hl⟩
theorem mulR_bd {x y : Int} (hx : R64 x) (hy : R64 y) : -85070591730234615865843651857942052864 ≤ x * y ∧ x * y ≤ 85070591730234615865843651857942052864 ∧ (x.natAbs : Int) * (y.natAbs : Int) ≤ 85070591730234615865843651857942052864 := by
 have h1 : x.natAbs ≤ 9223372036854775808 := by have := hx.1; have := hx.2; omega
 have h2 : y.natAbs ≤ 9223372036854775808 := by have := hy.1; have := hy.2; omega
 have h3 := Nat.mul_le_mul h1 h2
 have h4 : (x * y).natAbs = x.natAbs * y.natAbs := Int.natAbs_mul x y
 have h5 : ((x.natAbs : Int) * (y.natAbs : Int)) = ((x.natAbs * y.natAbs : Nat) : Int) := (Int.natCast_mul _ _).symm
 rw [h5]
 generalize x.natAbs * y.natAbs = q at *
 omega
theorem sgn_mul (x y : Int) : x * y = if (decide (x < 0) != decide (y < 0)) = true then -((x.natAbs : Int) * (y.natAbs : Int)) else (x.natAbs : Int) * (y.natAbs : Int) := by
 by_cases h1 : x < 0 <;> by_cases h2 : y < 0
 ·rw [if_neg (by simp [h1, h2]), show (x.natAbs : Int) = -x by omega, show (y.natAbs : Int) = -y by omega, Int.neg_mul_neg]
 ·rw [if_pos (by simp [h1, h2]), show (x.natAbs : Int) = -x by omega, show (y.natAbs : Int) = y by omega, Int.neg_mul, Int.neg_neg]
 ·rw [if_pos (by simp [h1, h2]), show (x.natAbs : Int) = x by omega, show (y.natAbs : Int) = -y by omega, Int.mul_neg, Int.neg_neg]
 ·rw [if_neg (by simp [h1, h2]), show (x.natAbs : Int) = x by omega, show (y.natAbs : Int) = y by omega]
end Go.Proofs.Ytaokohndeepbjaa
