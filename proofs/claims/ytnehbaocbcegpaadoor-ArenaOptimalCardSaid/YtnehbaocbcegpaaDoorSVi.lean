import Derived.Test.YtnehbaocbcegpaaDoorSVh
namespace Go.Proofs.YtnehbaocbcegpaaDoor
open Go Go.RowKit Go.Vc
set_option linter.unusedVariables false
set_option linter.unusedSimpArgs false
theorem few_ok (l : List GLifetime) (m : Nat) (hm : m ≤ 1000) : ∃ b, m_law42_few l (m : Int) = some b ∧ (b = true → l.length ≤ m ∧ ∀ x ∈ l, x.Name.length ≤ 100) := by
 unfold m_law42_few
 by_cases h : m < l.length
 ·exact ⟨false, if_pos (by simpa using h), by simp⟩
 obtain ⟨r, h1, h2⟩ := loop_fu (L := fun f (_ : Unit) i => m_law42_few_l1 l f i) (n := l.length) (by omega) (fun i _ => ∀ x ∈ l.take i, x.Name.length ≤ 100) (fun r => r = true → ∀ x ∈ l, x.Name.length ≤ 100)
  (fun f i _ hi hI => by
   obtain ⟨x, hx⟩ := at_some hi
   simp only [m_law42_few_l1]
   rw [if_pos (lt_dec hi), lat_at hx, Option.bind_some]
   by_cases hc : 100 < x.Name.length
   ·right; exact ⟨false, if_pos (by simp; omega), by simp⟩
   ·left; refine ⟨(), ?_, by rw [if_neg (by simp; omega), wis (by omega)]⟩
    rw [take_succ' hx]; intro y hy; rcases List.mem_append.1 hy with hy | hy
    ·exact hI y hy
    ·rw [List.mem_singleton.1 hy]; omega)
  (fun f _ hI => by
   rw [List.take_length] at hI
   simp only [m_law42_few_l1]
   exact ⟨true, by rw [if_neg (by simp)], fun _ => hI⟩) () (by simp)
 exact ⟨r, (if_neg (by simp; omega)).trans h1, fun hr => ⟨by omega, h2 hr⟩⟩
def sz (l : List GLifetime) (x : Int) : Int := (l[x.toNat]?.map (·.Size)).getD 0
theorem ci_mem {l : List Nat} {k : Int} : k ∈ ci l ↔ ∃ n, n ∈ l ∧ (n : Int) = k := by unfold ci; simp
end Go.Proofs.YtnehbaocbcegpaaDoor
