/- Reading arguments: what a reading tells of the cells. -/
import Derived.Test.YtndiieicjjifkaaDoorVcMem
import Derived.Deep.Slices
import Derived.WideShapes
import Derived.Carry
import Derived.Lib.LaidTab
namespace Go.Vc
open Go Go.RowKit Go.WideShapes
theorem cells_spec {w : World} {base : Nat} {a : Addr} {n : Nat} {cs : List Value} (h : w.cells? base a n = some cs) : cs.length = n ∧ CellsAt w a cs := by
  unfold World.cells? at h
  split at h
  · have hl := Lib.mapM_length h
    rw [List.length_range] at hl
    refine ⟨hl, fun j u hu => ?_⟩
    have hj : j < n := by rw [← hl]; exact (List.getElem?_eq_some_iff.1 hu).1
    obtain ⟨b, hb, he⟩ := Lib.mapM_at h j j (by simp [hj])
    rw [hu] at hb
    injection hb with hb
    subst hb
    exact he
  · cases h
/-- A list chosen place by place. -/
theorem list_of {α : Type} (p : Nat → α → Prop) (n : Nat) (h : ∀ i, i < n → ∃ x, p i x) : ∃ l : List α, l.length = n ∧ ∀ (i : Nat) (hi : i < l.length), p i l[i] := by
  induction n with
  | zero => exact ⟨[], rfl, fun i hi => absurd hi (by simp)⟩
  | succ n ih =>
    obtain ⟨l, hl, hp⟩ := ih fun i hi => h i (by omega)
    obtain ⟨x, hx⟩ := h n (by omega)
    refine ⟨l ++ [x], by simp [hl], fun i hi => ?_⟩
    rcases Nat.lt_or_ge i l.length with h1 | h1
    · rw [List.getElem_append_left h1]; exact hp i h1
    · have : i = n := by simp at hi; omega
      subst this
      rw [List.getElem_append_right h1]
      simp [hl, hx]
/-- Cells of a row, element by element, are the cells of the whole. -/
theorem CellsAt.flat {w : World} {a : Addr} {k : Nat} (l : List (List Value)) (hk : ∀ x ∈ l, x.length = k) (h : ∀ (i : Nat) (hi : i < l.length), CellsAt w (a.add (i * k)) l[i]) : CellsAt w a l.flatten := by
  rcases Nat.eq_zero_or_pos k with h0 | h0
  · have : l.flatten = [] := by
      apply List.eq_nil_iff_forall_not_mem.2
      intro x hx
      obtain ⟨y, hy, hxy⟩ := List.mem_flatten.1 hx
      have := hk y hy
      rw [h0] at this
      rw [List.eq_nil_of_length_eq_zero this] at hxy
      cases hxy
    rw [this]; intro j u hu; simp at hu
  intro j u hu
  have key : ∀ (l : List (List Value)), (∀ x ∈ l, x.length = k) → ∀ j u, l.flatten[j]? = some u → ∃ hi : j / k < l.length, (l[j / k])[j % k]? = some u := by
    intro l
    induction l with
    | nil => intro _ j u hu; simp at hu
    | cons x l ih =>
      intro hk j u hu
      have hx := hk x (by simp)
      rw [List.flatten_cons] at hu
      rcases Nat.lt_or_ge j k with hj | hj
      · rw [List.getElem?_append_left (by omega)] at hu
        refine ⟨by rw [Nat.div_eq_of_lt hj]; simp, ?_⟩
        simp only [Nat.div_eq_of_lt hj, Nat.mod_eq_of_lt hj, List.getElem_cons_zero]
        exact hu
      · rw [List.getElem?_append_right (by omega), hx] at hu
        obtain ⟨h1, h2⟩ := ih (fun y hy => hk y (by simp [hy])) (j - k) u hu
        have e1 : j / k = (j - k) / k + 1 := by rw [Nat.div_eq_sub_div h0 hj]
        have e2 : j % k = (j - k) % k := Nat.mod_eq_sub_mod hj
        refine ⟨by rw [e1]; simp; omega, ?_⟩
        simp only [e1, e2, List.getElem_cons_succ]
        exact h2
  obtain ⟨hi, hx⟩ := key l hk j u hu
  have := h (j / k) hi (j % k) u hx
  rw [add_add, Nat.mul_comm, Nat.div_add_mod] at this
  exact this
end Go.Vc
