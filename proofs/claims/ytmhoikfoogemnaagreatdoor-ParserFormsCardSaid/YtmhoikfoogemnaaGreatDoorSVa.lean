import Derived.Test.YtmhoikfoogemnaaGreatDoorSPj
import Derived.KernelRfl
namespace Go.Proofs.YtmhoikfoogemnaaGreatDoor
open Go Go.RowKit Go.Vc
set_option linter.unusedVariables false
set_option linter.unusedSimpArgs false
theorem wiN {n : Nat} (h : n < 4611686018427387904) : wi64 (n : Int) = n := wr_i64 (p := (n : Int)) ⟨by omega, by omega⟩
theorem wis {i : Nat} (h : i < 4611686018427387904) : wi64 ((i : Int) + 1) = ((i + 1 : Nat) : Int) := by
 have h2 : R64 ((i : Int) + 1) := ⟨by omega, by omega⟩
 exact (wr_i64 h2).trans (by omega)
theorem wid {i : Nat} (h : i < 4611686018427387904) : wi64 (((i + 1 : Nat) : Int) - 1) = (i : Int) := by
 rw [show ((i + 1 : Nat) : Int) - 1 = (i : Int) by omega]; exact wiN h
theorem latN {α : Type} (l : List α) (i : Nat) : lat l (i : Int) = l[i]? := by simp [Vc.lat]
theorem lat_at {α : Type} {l : List α} {i : Nat} {x : α} (h : l[i]? = some x) : lat l (i : Int) = some x := (latN l i).trans h
theorem lt_dec {a b : Nat} (h : a < b) : decide ((a : Int) < (b : Int)) = true := by simpa using h
theorem lapp_ok {α : Type} {xs ys : List α} (h : xs.length + ys.length ≤ 4294967296) : lapp xs ys = some (xs ++ ys) := by unfold lapp; rw [if_pos h]
theorem loop_ok {σ R : Type} {L : Nat → σ → Int → Option R} {n : Nat} (I : Nat → σ → Prop) (Q : R → Prop)
  (rd : ∀ f i s, i < n → I i s → (∃ s', I (i + 1) s' ∧ L (f + 1) s (i : Int) = L f s' ((i + 1 : Nat) : Int)) ∨ ∃ r, L (f + 1) s (i : Int) = some r ∧ Q r)
  (fin : ∀ f s, I n s → ∃ r, L (f + 1) s (n : Int) = some r ∧ Q r) :
  ∀ (k f i : Nat) (s : σ), i + k = n → k < f → I i s → ∃ r, L f s (i : Int) = some r ∧ Q r
 | 0, f, i, s, h, hf, hI => by
  obtain ⟨f, rfl⟩ : ∃ g, f = g + 1 := ⟨f - 1, by omega⟩
  obtain rfl : i = n := by omega
  exact fin f s hI
 | k + 1, f, i, s, h, hf, hI => by
  obtain ⟨f, rfl⟩ : ∃ g, f = g + 1 := ⟨f - 1, by omega⟩
  rcases rd f i s (by omega) hI with ⟨s', h1, h2⟩ | ⟨r, h1, h2⟩
  ·rw [h2]; exact loop_ok I Q rd fin k f (i + 1) s' (by omega) (by omega) h1
  ·exact ⟨r, h1, h2⟩
theorem loop_fu {σ R : Type} {L : Nat → σ → Int → Option R} {n : Nat} (hn : n < 4611686018427387904) (I : Nat → σ → Prop) (Q : R → Prop)
  (rd : ∀ f i s, i < n → I i s → (∃ s', I (i + 1) s' ∧ L (f + 1) s (i : Int) = L f s' ((i + 1 : Nat) : Int)) ∨ ∃ r, L (f + 1) s (i : Int) = some r ∧ Q r)
  (fin : ∀ f s, I n s → ∃ r, L (f + 1) s (n : Int) = some r ∧ Q r) (s : σ) (h0 : I 0 s) : ∃ r, L fu s 0 = some r ∧ Q r :=
 loop_ok I Q rd fin n fu 0 s (by omega) (by unfold fu; omega) h0
theorem loop_eq {σ R : Type} {L : Nat → σ → Int → Option R} {n : Nat} {r0 : Option R} (hn : n < 4611686018427387904) (I : Nat → σ → Prop)
  (rd : ∀ f i s, i < n → I i s → (∃ s', I (i + 1) s' ∧ L (f + 1) s (i : Int) = L f s' ((i + 1 : Nat) : Int)) ∨ L (f + 1) s (i : Int) = r0)
  (fin : ∀ f s, I n s → L (f + 1) s (n : Int) = r0) (s : σ) (h0 : I 0 s) : L fu s 0 = r0 := by
 have key : ∀ (k f i : Nat) (s : σ), i + k = n → k < f → I i s → L f s (i : Int) = r0 := by
  intro k
  induction k with
  | zero =>
   intro f i s h hf hI
   obtain ⟨f, rfl⟩ : ∃ g, f = g + 1 := ⟨f - 1, by omega⟩
   obtain rfl : i = n := by omega
   exact fin f s hI
  | succ k ih =>
   intro f i s h hf hI
   obtain ⟨f, rfl⟩ : ∃ g, f = g + 1 := ⟨f - 1, by omega⟩
   rcases rd f i s (by omega) hI with ⟨s', h1, h2⟩ | h1
   ·rw [h2]; exact ih f (i + 1) s' (by omega) (by omega) h1
   ·exact h1
 exact key n fu 0 s (by omega) (by unfold fu; omega) h0
theorem take_succ' {α : Type} {l : List α} {i : Nat} {x : α} (h : l[i]? = some x) : l.take (i + 1) = l.take i ++ [x] := by rw [List.take_add_one, h]; rfl
theorem drop_at {α : Type} {l : List α} {i : Nat} {x : α} (h : l[i]? = some x) : l.drop i = x :: l.drop (i + 1) := by
 obtain ⟨h1, h2⟩ := List.getElem?_eq_some_iff.1 h
 rw [List.drop_eq_getElem_cons h1, h2]
theorem at_some {α : Type} {l : List α} {i : Nat} (h : i < l.length) : ∃ x, l[i]? = some x := ⟨l[i], by simp [h]⟩
def prd : List Nat → Nat
 | [] => 1
 | x :: d => x * prd d
def off : List Nat → List Nat → Nat
 | _ :: d, q :: p => q * prd d + off d p
 | _, _ => 0
def Pos (d : List Nat) : Prop := ∀ x ∈ d, 1 ≤ x
end Go.Proofs.YtmhoikfoogemnaaGreatDoor
namespace Go.Proofs.YtmhoikfoogemnaaGreatDoor
open Go Go.RowKit Go.Vc
set_option linter.unusedVariables false
set_option linter.unusedSimpArgs false
theorem kw42 : m_lexer_keywords = m_base_Words := by kernel_rfl
def kwL : List (List UInt8) := (m_base_Words).getD []
theorem base_Words : m_base_Words = some kwL := rfl
theorem contains_str (l : List (List UInt8)) (v : List UInt8) (hl : l.length < 4611686018427387904) : m_slices_Contains_string_string l v = some (decide (v ∈ l)) := by
 obtain ⟨r, h1, h2⟩ := loop_fu (L := fun f (_ : Unit) i => m_slices_Index_string_string_l1 l v f i) (n := l.length) hl (fun i _ => v ∉ l.take i) (fun r => decide (0 ≤ r) = decide (v ∈ l))
  (fun f i _ hi hI => by
   obtain ⟨x, hx⟩ := at_some hi
   simp only [m_slices_Index_string_string_l1]
   rw [if_pos (lt_dec hi), lat_at hx, Option.bind_some]
   by_cases hv : v = x
   ·right; refine ⟨(i : Int), by rw [if_pos (by simpa using hv)], ?_⟩
    rw [decide_eq_true (by omega), decide_eq_true (by rw [hv]; exact List.mem_of_getElem? hx)]
   ·left; refine ⟨(), ?_, by rw [if_neg (by simpa using hv), wis (by omega)]⟩
    rw [take_succ' hx]; simp [hI, hv])
  (fun f _ hI => by
   rw [List.take_length] at hI
   simp only [m_slices_Index_string_string_l1]
   exact ⟨-1, by rw [if_neg (by simp)], by rw [decide_eq_false hI]; rfl⟩) () (by simp)
 unfold m_slices_Contains_string_string m_slices_Index_string_string
 rw [show m_slices_Index_string_string_l1 l v fu 0 = some r from h1, Option.bind_some, h2]
theorem has_str (l : List (List UInt8)) (v : List UInt8) (hl : l.length < 4611686018427387904) : m_base_Has l v = some (decide (v ∈ l)) := by
 obtain ⟨r, h1, h2⟩ := loop_fu (L := fun f (_ : Unit) i => m_base_Has_l1 l v f i) (n := l.length) hl (fun i _ => v ∉ l.take i) (fun r => r = decide (v ∈ l))
  (fun f i _ hi hI => by
   obtain ⟨x, hx⟩ := at_some hi
   simp only [m_base_Has_l1]
   rw [if_pos (lt_dec hi), lat_at hx, Option.bind_some]
   by_cases hv : x = v
   ·right; refine ⟨true, by rw [if_pos (by simpa using hv)], ?_⟩
    rw [decide_eq_true (by rw [← hv]; exact List.mem_of_getElem? hx)]
   ·left; refine ⟨(), ?_, by rw [if_neg (by simpa using hv), wis (by omega)]⟩
    rw [take_succ' hx]; simp [hI]; exact fun h => hv h.symm)
  (fun f _ hI => by
   rw [List.take_length] at hI
   simp only [m_base_Has_l1]
   exact ⟨false, by rw [if_neg (by simp)], by rw [decide_eq_false hI]⟩) () (by simp)
 unfold m_base_Has
 rw [show m_base_Has_l1 l v fu 0 = some r from h1, h2]
theorem isKeyword (s : List UInt8) : m_lexer_IsKeyword s = some (decide (s ∈ kwL)) := by
 unfold m_lexer_IsKeyword
 rw [kw42, base_Words, Option.bind_some, contains_str _ _ (by decide), Option.bind_some]
end Go.Proofs.YtmhoikfoogemnaaGreatDoor
