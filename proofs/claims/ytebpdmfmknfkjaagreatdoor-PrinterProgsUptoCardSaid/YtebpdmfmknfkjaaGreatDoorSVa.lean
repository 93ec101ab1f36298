import Derived.Test.YtebpdmfmknfkjaaGreatDoorSTa
namespace Go.Proofs.YtebpdmfmknfkjaaGreatDoor
open Go Go.RowKit Go.Vc
set_option linter.unusedVariables false
set_option linter.unusedSimpArgs false
theorem kw42 : m_lexer_keywords = m_base_Words := by kernel_rfl
def kwL : List (List UInt8) := (m_base_Words).getD []
theorem base_Words : m_base_Words = some kwL := rfl
theorem contains_str (l : List (List UInt8)) (v : List UInt8) (hl : l.length < 4611686018427387904) : m_slices_Contains_string_string l v = some (decide (v ∈ l)) := by
 obtain ⟨r, h1, h2⟩ := loop_fu (L := fun f (_ : Unit) i => m_slices_Index_string_string_l1 l v f i) (n := l.length) hl (fun i _ => v ∉ l.take i) (fun r => decide (0 ≤ r) = decide (v ∈ l))
  (fun f i _ hi hI => by
   obtain ⟨x, hx⟩ := at_some hi
   simp only [m_slices_Index_string_string_l1]
   rw [if_pos (lt_dec hi), lat_at hx, Option.bind_some]
   by_cases hv : v = x
   ·right; refine ⟨(i : Int), by rw [if_pos (by simpa using hv)], ?_⟩
    rw [decide_eq_true (by omega), decide_eq_true (by rw [hv]; exact List.mem_of_getElem? hx)]
   ·left; refine ⟨(), ?_, by rw [if_neg (by simpa using hv), wis (by omega)]⟩
    rw [take_succ' hx]; simp [hI, hv])
  (fun f _ hI => by
   rw [List.take_length] at hI
   simp only [m_slices_Index_string_string_l1]
   exact ⟨-1, by rw [if_neg (by simp)], by rw [decide_eq_false hI]; rfl⟩) () (by simp)
 unfold m_slices_Contains_string_string m_slices_Index_string_string
 rw [show m_slices_Index_string_string_l1 l v fu 0 = some r from h1, Option.bind_some, h2]
theorem has_str (l : List (List UInt8)) (v : List UInt8) (hl : l.length < 4611686018427387904) : m_base_Has l v = some (decide (v ∈ l)) := by
 obtain ⟨r, h1, h2⟩ := loop_fu (L := fun f (_ : Unit) i => m_base_Has_l1 l v f i) (n := l.length) hl (fun i _ => v ∉ l.take i) (fun r => r = decide (v ∈ l))
  (fun f i _ hi hI => by
   obtain ⟨x, hx⟩ := at_some hi
   simp only [m_base_Has_l1]
   rw [if_pos (lt_dec hi), lat_at hx, Option.bind_some]
   by_cases hv : x = v
   ·right; refine ⟨true, by rw [if_pos (by simpa using hv)], ?_⟩
    rw [decide_eq_true (by rw [← hv]; exact List.mem_of_getElem? hx)]
   ·left; refine ⟨(), ?_, by rw [if_neg (by simpa using hv), wis (by omega)]⟩
    rw [take_succ' hx]; simp [hI]; exact fun h => hv h.symm)
  (fun f _ hI => by
   rw [List.take_length] at hI
   simp only [m_base_Has_l1]
   exact ⟨false, by rw [if_neg (by simp)], by rw [decide_eq_false hI]⟩) () (by simp)
 unfold m_base_Has
 rw [show m_base_Has_l1 l v fu 0 = some r from h1, h2]
theorem isKeyword (s : List UInt8) : m_lexer_IsKeyword s = some (decide (s ∈ kwL)) := by
 unfold m_lexer_IsKeyword
 rw [kw42, base_Words, Option.bind_some, contains_str _ _ (by decide), Option.bind_some]
end Go.Proofs.YtebpdmfmknfkjaaGreatDoor
