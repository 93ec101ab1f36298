import Derived.Test.YtnehbaocbcegpaaDoorSVe
namespace Go.Proofs.YtnehbaocbcegpaaDoor
open Go Go.RowKit Go.Vc
set_option linter.unusedVariables false
set_option linter.unusedSimpArgs false
def lsum (p : Int) : List GLifetime → Int
 | [] => 0
 | y :: t => (if y.From ≤ p ∧ p ≤ y.To then y.Size else 0) + lsum p t
theorem lsum_app (p : Int) (a b : List GLifetime) : lsum p (a ++ b) = lsum p a + lsum p b := by
 induction a with
 | nil => simp [lsum]
 | cons y a ih => simp only [List.cons_append, lsum, ih]; omega
theorem lsum_bd (p : Int) (a : List GLifetime) (h : ∀ x ∈ a, okLt x) : 0 ≤ lsum p a ∧ lsum p a ≤ 4096 * (a.length : Int) := by
 induction a with
 | nil => simp [lsum]
 | cons y a ih =>
  obtain ⟨i1, i2⟩ := ih fun x hx => h x (by simp [hx])
  obtain ⟨_, _, y1, y2⟩ := h y (by simp)
  simp only [lsum, List.length_cons]
  split <;> omega
theorem lower_both (l : List GLifetime) (N : Int) (hl : l.length ≤ 60) (hn : ∀ x ∈ l, x.Name.length < 4611686018427387904) (hN0 : 0 ≤ N) (hN : (∀ x ∈ l, okLt x) → ∀ x ∈ l, lsum x.From l ≤ N) :
  ∃ r, r ≤ N ∧ m_arena_LowerBound l = some r ∧ m_ref42_LowerBound l = some r := by
 obtain ⟨v, v0, v1, v2⟩ := validate l (by omega) hn
 unfold m_arena_LowerBound m_ref42_LowerBound
 rw [v1, v2, Option.bind_some, Option.bind_some]
 by_cases hv : v = 0
 rotate_left
 ·rw [if_pos (by simpa using hv)]; exact ⟨_, hN0, rfl, if_pos (by simpa using hv)⟩
 rw [if_neg (by simpa using hv), if_neg (by simpa using hv)]
 have hok := v0 hv
 have hN := hN hok
 have iL : ∀ (self : Int → Int → Option Int) (i : Nat) (x : GLifetime) (most : Int), l[i]? = some x → m_arena_LowerBound_l2 l x self (i : Int) most fu 0 0 = self (max most (lsum x.From l)) (wi64 ((i : Int) + 1)) := by
  intro self i x most hx
  refine loop_eq (L := fun f t k => m_arena_LowerBound_l2 l x self (i : Int) most f t k) (n := l.length) (by omega) (fun k t => t = lsum x.From (l.take k)) ?_ ?_ 0 rfl
  ·intro f k t hk ht
   obtain ⟨y, hy⟩ := at_some hk
   obtain ⟨_, _, y1, y2⟩ := hok y (List.mem_of_getElem? hy)
   have hb := lsum_bd x.From (l.take k) (fun z hz => hok z (List.mem_of_mem_take hz))
   rw [List.length_take] at hb
   left
   simp only [m_arena_LowerBound_l2]
   rw [if_pos (lt_dec hk), lat_at hy, Option.bind_some]
   have hls := lsum_app x.From (l.take k) [y]
   simp only [lsum] at hls
   by_cases hc : y.From ≤ x.From ∧ x.From ≤ y.To
   ·rw [if_pos hc] at hls
    rw [if_pos (by simpa using hc), Option.bind_some, m_arena_LowerBound_j3, wi (p := t + y.Size) ⟨by omega, by omega⟩, wis (by omega)]
    refine ⟨_, ?_, rfl⟩
    rw [take_succ' hy, hls]; omega
   ·rw [if_neg hc] at hls
    rw [if_neg (by simpa using hc), m_arena_LowerBound_j3, wis (by omega)]
    refine ⟨_, ?_, rfl⟩
    rw [take_succ' hy, hls]; omega
  ·intro f t ht
   rw [List.take_length] at ht
   simp only [m_arena_LowerBound_l2]
   rw [if_neg (by simp), m_arena_LowerBound_j2, m_arena_LowerBound_j1, ht]
 have iR : ∀ (self : Int → Int → Option Int) (i : Nat) (x : GLifetime) (most : Int), l[i]? = some x → m_ref42_LowerBound_l2 l (i : Int) self most fu 0 0 = self (max most (lsum x.From l)) (wi64 ((i : Int) + 1)) := by
  intro self i x most hx
  refine loop_eq (L := fun f t k => m_ref42_LowerBound_l2 l (i : Int) self most f t k) (n := l.length) (by omega) (fun k t => t = lsum x.From (l.take k)) ?_ ?_ 0 rfl
  ·intro f k t hk ht
   obtain ⟨y, hy⟩ := at_some hk
   obtain ⟨_, _, y1, y2⟩ := hok y (List.mem_of_getElem? hy)
   have hb := lsum_bd x.From (l.take k) (fun z hz => hok z (List.mem_of_mem_take hz))
   rw [List.length_take] at hb
   left
   simp only [m_ref42_LowerBound_l2]
   rw [if_pos (lt_dec hk), lat_at hy, Option.bind_some, lat_at hx, Option.bind_some]
   have hls := lsum_app x.From (l.take k) [y]
   simp only [lsum] at hls
   by_cases hc : y.From ≤ x.From ∧ x.From ≤ y.To
   ·rw [if_pos hc] at hls
    rw [decide_eq_true hc.1]
    simp only [gd, if_true, Option.bind_some, Bool.true_and]
    rw [if_pos (by simpa using hc.2), m_ref42_LowerBound_j3, show min y.Size 2147483647 = y.Size by omega, wi (p := t + y.Size) ⟨by omega, by omega⟩, wis (by omega)]
    refine ⟨_, ?_, rfl⟩
    rw [take_succ' hy, hls]; omega
   ·rw [if_neg hc] at hls
    refine ⟨t, ?_, ?_⟩
    ·rw [take_succ' hy, hls]; omega
    ·by_cases h1 : y.From ≤ x.From
     ·rw [decide_eq_true h1]
      simp only [gd, if_true, Option.bind_some, Bool.true_and]
      rw [if_neg (by simpa using fun h => hc ⟨h1, h⟩), m_ref42_LowerBound_j3, wis (by omega)]
     ·rw [decide_eq_false h1]
      simp only [gd, Bool.false_and]
      simp only [Bool.false_eq_true, if_false, Option.bind_some]
      rw [m_ref42_LowerBound_j3, wis (by omega)]
  ·intro f t ht
   rw [List.take_length] at ht
   simp only [m_ref42_LowerBound_l2]
   rw [if_neg (by simp), m_ref42_LowerBound_j2, m_ref42_LowerBound_j1, ht]
 refine loop_sim (L := fun f m i => m_arena_LowerBound_l1 l f m i) (M := fun f m i => m_ref42_LowerBound_l1 l f m i) (n := l.length) (by omega) (fun i m m' => m = m' ∧ m ≤ N) (fun r => r ≤ N) ?_ ?_ 0 0 ⟨rfl, hN0⟩
 ·rintro i m m' hi ⟨rfl, hm⟩
  obtain ⟨x, hx⟩ := at_some hi
  left
  refine ⟨max m (lsum x.From l), max m (lsum x.From l), ⟨rfl, ?_⟩, fun f => ?_, fun f => ?_⟩
  ·have := hN x (List.mem_of_getElem? hx); omega
  ·simp only [m_arena_LowerBound_l1]; rw [if_pos (lt_dec hi), lat_at hx, Option.bind_some, iL _ i x m hx, wis (by omega)]
  ·simp only [m_ref42_LowerBound_l1]; rw [if_pos (lt_dec hi), iR _ i x m hx, wis (by omega)]
 ·rintro m m' ⟨rfl, hm⟩
  refine ⟨m, hm, fun f => ?_, fun f => ?_⟩
  ·simp only [m_arena_LowerBound_l1]; rw [if_neg (by simp)]
  ·simp only [m_ref42_LowerBound_l1]; rw [if_neg (by simp)]
theorem few_ok (l : List GLifetime) (m : Nat) (hm : m ≤ 1000) : ∃ b, m_law42_few l (m : Int) = some b ∧ (b = true → l.length ≤ m ∧ ∀ x ∈ l, x.Name.length ≤ 100) := by
 unfold m_law42_few
 by_cases h : m < l.length
 ·exact ⟨false, if_pos (by simpa using h), by simp⟩
 obtain ⟨r, h1, h2⟩ := loop_fu (L := fun f (_ : Unit) i => m_law42_few_l1 l f i) (n := l.length) (by omega) (fun i _ => ∀ x ∈ l.take i, x.Name.length ≤ 100) (fun r => r = true → ∀ x ∈ l, x.Name.length ≤ 100)
  (fun f i _ hi hI => by
   obtain ⟨x, hx⟩ := at_some hi
   simp only [m_law42_few_l1]
   rw [if_pos (lt_dec hi), lat_at hx, Option.bind_some]
   by_cases hc : 100 < x.Name.length
   ·right; exact ⟨false, if_pos (by simp; omega), by simp⟩
   ·left; refine ⟨(), ?_, by rw [if_neg (by simp; omega), wis (by omega)]⟩
    rw [take_succ' hx]; intro y hy; rcases List.mem_append.1 hy with hy | hy
    ·exact hI y hy
    ·rw [List.mem_singleton.1 hy]; omega)
  (fun f _ hI => by
   rw [List.take_length] at hI
   simp only [m_law42_few_l1]
   exact ⟨true, by rw [if_neg (by simp)], fun _ => hI⟩) () (by simp)
 exact ⟨r, (if_neg (by simp; omega)).trans h1, fun hr => ⟨by omega, h2 hr⟩⟩
theorem law_ArenaLowerBound (l : List GLifetime) (_ : okL okGLifetime l) : m_law42_ArenaLowerBound l = some true := by
 unfold m_law42_ArenaLowerBound
 obtain ⟨b, h1, h2⟩ := few_ok l 60 (by omega)
 rw [show m_law42_few l 60 = some b from h1, Option.bind_some, ex42]
 cases b with
 | false => rfl
 | true =>
  obtain ⟨hl, hn⟩ := h2 rfl
  obtain ⟨r, _, r1, r2⟩ := lower_both l 300000 hl (fun x hx => by have := hn x hx; omega) (by omega) fun hok x _ => by have := lsum_bd x.From l hok; omega
  simp [gd, r1, r2]
end Go.Proofs.YtnehbaocbcegpaaDoor
