import Derived.Test.YtaokohndeepbjaaSWd
namespace Go.Proofs.Ytaokohndeepbjaa
open Go Go.RowKit Go.Vc
set_option linter.unusedVariables false
set_option linter.unusedSimpArgs false
theorem ex10 : m_law10_examples = some true := by kernel_rfl
theorem box_tot (ext : List Int) (h : ext.length < 4611686018427387904) : ∃ r, m_ref10_Box ext = some r := by
 unfold m_ref10_Box
 by_cases c : 16 < ext.length
 ·exact ⟨2, if_pos (by simp; omega)⟩
 have tail : ∀ n, ∃ r, m_ref10_Box_j1 ext n = some r := fun n => by
  unfold m_ref10_Box_j1
  obtain ⟨r, h1, _⟩ := loop_fu (L := fun f n i => m_ref10_Box_l1 ext f n i) (n := ext.length) h (fun _ _ => True) (fun _ => True)
   (fun f i n hi _ => by
    obtain ⟨x, hx⟩ := at_some hi
    simp only [m_ref10_Box_l1]
    rw [lt_dec hi, Bool.true_and, lat_at hx, Option.bind_some, Option.bind_some, wis (by omega)]
    by_cases c1 : 0 < n
    ·rw [if_pos (by simpa using c1)]
     by_cases c2 : 65536 < x
     ·right; exact ⟨2, by rw [if_pos (by simpa using c2)], trivial⟩
     ·rw [if_neg (by simpa using c2)]
      by_cases c3 : 65536 < wi64 (n * x)
      ·right; exact ⟨2, by rw [if_pos (by simpa using c3)], trivial⟩
      ·left; exact ⟨_, trivial, by rw [if_neg (by simpa using c3)]⟩
    ·right; exact ⟨0, by rw [if_neg (by simpa using c1)], trivial⟩)
   (fun f n _ => by
    simp only [m_ref10_Box_l1]
    exact ⟨0, by rw [if_neg (by simp)], trivial⟩) n trivial
  exact ⟨r, h1⟩
 obtain ⟨r, h1, _⟩ := loop_fu (L := fun f n i => m_ref10_Box_l2 ext f n i) (n := ext.length) h (fun _ _ => True) (fun _ => True)
  (fun f i n hi _ => by
   obtain ⟨x, hx⟩ := at_some hi
   simp only [m_ref10_Box_l2]
   rw [if_pos (lt_dec hi), lat_at hx, Option.bind_some, Option.bind_some, m_ref10_Box_j2, m_ref10_Box_j2, wis (by omega)]
   by_cases c1 : x < 0
   ·right; exact ⟨1, by rw [if_pos (by simpa using c1)], trivial⟩
   ·left
    rw [if_neg (by simpa using c1)]
    by_cases c2 : x = 0
    ·exact ⟨_, trivial, by rw [if_pos (by simpa using c2)]⟩
    ·exact ⟨_, trivial, by rw [if_neg (by simpa using c2)]⟩)
  (fun f n _ => by
   simp only [m_ref10_Box_l2]
   rw [if_neg (by simp)]
   obtain ⟨r, hr⟩ := tail n
   exact ⟨r, hr, trivial⟩) 1 trivial
 exact ⟨r, (if_neg (by simp; omega)).trans h1⟩
theorem Few_tot (ext : List Int) (k : Int) (h : ext.length < 4611686018427387904) : ∃ r, m_ref10_Few ext k = some r := by
 obtain ⟨b, hb⟩ := box_tot ext h
 unfold m_ref10_Few
 rw [hb, Option.bind_some]
 by_cases c : b = 0
 ·rw [if_neg (by simpa using c)]
  obtain ⟨r, h1, _⟩ := loop_fu (L := fun f n i => m_ref10_Few_l1 ext k f n i) (n := ext.length) h (fun _ _ => True) (fun _ => True)
   (fun f i n hi _ => by
    obtain ⟨x, hx⟩ := at_some hi
    left; exact ⟨_, trivial, by simp only [m_ref10_Few_l1]; rw [if_pos (lt_dec hi), lat_at hx, Option.bind_some, wis (by omega)]⟩)
   (fun f n _ => ⟨_, by simp only [m_ref10_Few_l1]; rw [if_neg (by simp)], trivial⟩) 1 trivial
  exact ⟨r, h1⟩
 ·exact ⟨true, by rw [if_pos (by simpa using c)]⟩
theorem few_ok (m : List GLin) (names : List (List UInt8)) (ext : List Int) : ∃ b, m_law10_few m names ext = some b ∧ (b = true → (∀ f ∈ m, f.L.length ≤ 20) ∧ m.length ≤ 20 ∧ names.length ≤ 20 ∧ ext.length ≤ 20) := by
 unfold m_law10_few
 by_cases c : 20 < m.length ∨ 20 < names.length ∨ 20 < ext.length
 ·have e : ((decide (20 < (m.length : Int)) || decide (20 < (names.length : Int))) || decide (20 < (ext.length : Int))) = true := by simp; omega
  rw [e]; exact ⟨false, by simp [gd], by simp⟩
 have e : ((decide (20 < (m.length : Int)) || decide (20 < (names.length : Int))) || decide (20 < (ext.length : Int))) = false := by simp; omega
 rw [e]
 obtain ⟨q, hq⟩ := Few_tot ext 200 (by omega)
 rw [hq]
 simp only [gd, Bool.not_false, if_true, Option.bind_some, Bool.false_or]
 cases q with
 | false => exact ⟨false, by simp, by simp⟩
 | true =>
  simp only [Bool.not_true, Bool.false_eq_true, if_false]
  have tail : ∃ r, m_law10_few_j1 names = some r := by
   unfold m_law10_few_j1
   obtain ⟨r, h1, _⟩ := loop_fu (L := fun f (_ : Unit) i => m_law10_few_l1 names f i) (n := names.length) (by omega) (fun _ _ => True) (fun _ => True)
    (fun f i _ hi _ => by
     obtain ⟨x, hx⟩ := at_some hi
     simp only [m_law10_few_l1]
     rw [if_pos (lt_dec hi), lat_at hx, Option.bind_some, wis (by omega)]
     by_cases c : 100 < x.length
     ·right; exact ⟨false, by rw [if_pos (by simp; omega)], trivial⟩
     ·left; exact ⟨(), trivial, by rw [if_neg (by simp; omega)]⟩)
    (fun f _ _ => ⟨true, by simp only [m_law10_few_l1]; rw [if_neg (by simp)], trivial⟩) () trivial
   exact ⟨r, h1⟩
  obtain ⟨r, h1, h2⟩ := loop_fu (L := fun f (_ : Unit) i => m_law10_few_l2 m names f i) (n := m.length) (by omega) (fun i _ => ∀ f ∈ m.take i, f.L.length ≤ 20) (fun r => r = true → ∀ f ∈ m, f.L.length ≤ 20)
   (fun f i _ hi hI => by
    obtain ⟨x, hx⟩ := at_some hi
    simp only [m_law10_few_l2]
    rw [if_pos (lt_dec hi), lat_at hx, Option.bind_some, wis (by omega)]
    by_cases c : 20 < x.L.length
    ·right; exact ⟨false, by rw [if_pos (by simp; omega)], by simp⟩
    ·left; refine ⟨(), ?_, by rw [if_neg (by simp; omega)]⟩
     rw [take_succ' hx]; intro y hy; rcases List.mem_append.1 hy with hy | hy
     ·exact hI y hy
     ·rw [List.mem_singleton.1 hy]; omega)
   (fun f _ hI => by
    rw [List.take_length] at hI
    simp only [m_law10_few_l2]
    obtain ⟨r, hr⟩ := tail
    exact ⟨r, by rw [if_neg (by simp)]; exact hr, fun _ => hI⟩) () (by simp)
  exact ⟨r, h1, fun hr => ⟨h2 hr, by omega, by omega, by omega⟩⟩
theorem wfs {m : List GLin} (h : okL okGLin m) (h20 : ∀ f ∈ m, f.L.length ≤ 20) : ∀ f ∈ m, Wf f := fun f hf => Wf.of (h.1 f hf) (by have := h20 f hf; omega)
end Go.Proofs.Ytaokohndeepbjaa
