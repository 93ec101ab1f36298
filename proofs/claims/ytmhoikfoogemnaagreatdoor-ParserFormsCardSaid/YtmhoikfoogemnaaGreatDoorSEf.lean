import Derived.Test.YtmhoikfoogemnaaGreatDoorSYq
import Derived.Test.YtmhoikfoogemnaaGreatDoorSEe
namespace Go.Proofs.YtmhoikfoogemnaaGreatDoor
open Go Go.RowKit Go.Vc
set_option linter.unusedVariables false
set_option linter.unusedSimpArgs false
theorem eqs_loop {α : Type} {L : Nat → Int → Option Bool} {a b : List α} (hn : a.length < 4611686018427387904) (hl : a.length = b.length)
  (rd : ∀ f (i : Nat) x y, a[i]? = some x → b[i]? = some y → ∃ r : Bool, (r = true ↔ x = y) ∧ L (f + 1) (i : Int) = if r = true then L f ((i + 1 : Nat) : Int) else some false)
  (fin : ∀ f, L (f + 1) (a.length : Int) = some true) : ∃ r, L fu 0 = some r ∧ (r = true ↔ a = b) := by
 refine loop_fu (L := fun f (_ : Unit) i => L f i) (n := a.length) hn (fun i _ => a.take i = b.take i) (fun r => r = true ↔ a = b) ?_ ?_ () (by simp)
 ·intro f i _ hi hI
  obtain ⟨x, hx⟩ := at_some hi
  obtain ⟨y, hy⟩ := at_some (l := b) (i := i) (by omega)
  obtain ⟨r, h1, h2⟩ := rd f i x y hx hy
  rw [h2]
  by_cases hr : r = true
  ·left
   refine ⟨(), ?_, by rw [if_pos hr]⟩
   rw [take_succ' hx, take_succ' hy, hI, h1.1 hr]
  ·right
   refine ⟨false, by rw [if_neg hr], ⟨fun h => (by cases h), fun h => ?_⟩⟩
   subst h
   rw [hx] at hy
   injection hy with hy
   exact absurd (h1.2 hy) hr
 ·intro f _ hI
  refine ⟨true, fin f, ⟨fun _ => ?_, fun _ => rfl⟩⟩
  rw [List.take_length, hl, List.take_length] at hI
  exact hI
theorem base_Lin_eq {a b : GLin} (h : a.L.length < 4611686018427387904) : ∃ r, m_base_Lin a b = some r ∧ (r = true ↔ a = b) := by
 unfold m_base_Lin
 by_cases hk : a.K = b.K
 ·by_cases hl : a.L.length = b.L.length
  ·rw [if_neg (by simp [hk, hl])]
   obtain ⟨r, h1, h2⟩ := eqs_loop (L := fun f i => m_base_Lin_l1 a b f i) h hl (fun f i x y hx hy => by
    have hi := lt_of_at hx
    refine ⟨decide (x.Name = y.Name) && decide (x.By = y.By), ?_, ?_⟩
    ·simp only [Bool.and_eq_true, decide_eq_true_eq]
     constructor
     ·rintro ⟨q1, q2⟩; cases x; cases y; simp only at q1 q2; rw [q1, q2]
     ·rintro rfl; exact ⟨rfl, rfl⟩
    ·simp only [m_base_Lin_l1]
     rw [if_pos (lt_dec hi), lat_at hx, Option.bind_some, lat_at hy, Option.bind_some, wis (by omega)]
     cases (decide (x.Name = y.Name) && decide (x.By = y.By)) <;> rfl) (fun f => by
    simp only [m_base_Lin_l1]
    rw [if_neg (by simp)])
   refine ⟨r, h1, h2.trans ?_⟩
   cases a; cases b
   simp only at hk
   simp [hk]
  ·rw [if_pos (by simp; omega)]
   exact ⟨false, rfl, ⟨fun h => (by cases h), fun h => absurd (by rw [h]) hl⟩⟩
 ·rw [if_pos (by simp [hk])]
  exact ⟨false, rfl, ⟨fun h => (by cases h), fun h => absurd (by rw [h]) hk⟩⟩
end Go.Proofs.YtmhoikfoogemnaaGreatDoor
namespace Go.Proofs.YtmhoikfoogemnaaGreatDoor
open Go Go.RowKit Go.Vc
set_option linter.unusedVariables false
set_option linter.unusedSimpArgs false
theorem few_ok (l : List GToken) (n : Nat) (hl : l.length < 4611686018427387904) (hn : n ≤ 50000) : ∃ b, m_law16_few l (n : Int) = some b ∧ (b = true → l.length ≤ n ∧ ∀ t ∈ l, t.Text.length ≤ 100) := by
 unfold m_law16_few
 by_cases h : (n : Int) < (l.length : Int)
 ·rw [if_pos (by simpa using h)]; exact ⟨false, rfl, fun h => by cases h⟩
 ·rw [if_neg (by simpa using h)]
  obtain ⟨r, h1, h2⟩ := loop_fu (L := fun f (_ : Unit) i => m_law16_few_l1 l f i) (n := l.length) hl (fun i _ => ∀ t ∈ l.take i, t.Text.length ≤ 100) (fun r => r = true → ∀ t ∈ l, t.Text.length ≤ 100)
   (fun f i _ hi hI => by
    obtain ⟨t, ht⟩ := at_some hi
    simp only [m_law16_few_l1]
    rw [if_pos (lt_dec hi), lat_at ht, Option.bind_some]
    by_cases c : 100 < (t.Text.length : Int)
    ·right; exact ⟨false, by rw [if_pos (by simpa using c)], fun h => by cases h⟩
    ·left
     refine ⟨(), ?_, by rw [if_neg (by simpa using c), wis (by omega)]⟩
     rw [take_succ' ht]; intro x hx
     rcases List.mem_append.1 hx with hx | hx
     ·exact hI x hx
     ·rw [List.mem_singleton.1 hx]; omega)
   (fun f _ hI => by
    rw [List.take_length] at hI
    simp only [m_law16_few_l1]
    exact ⟨true, by rw [if_neg (by simp)], fun _ => hI⟩) () (by simp)
  exact ⟨r, h1, fun h => ⟨by omega, h2 h⟩⟩
theorem base_Lin_same (a : GLin) (h : a.L.length < 4611686018427387904) : m_base_Lin a a = some true := by
 obtain ⟨r, h1, h2⟩ := base_Lin_eq (a := a) (b := a) h
 rw [h1, h2.2 rfl]
theorem Rok.start {l : List GToken} {at_ : Int} (h0 : 0 ≤ at_) (h1 : at_ ≤ l.length) (hl : l.length ≤ 50000) (ht : ∀ t ∈ l, t.Text.length ≤ 50000) : Rok ⟨l, 0⟩ ⟨l, at_, 0⟩ := ⟨.inl ⟨rfl, rfl⟩, h0, h1, hl, ht, by show (0 : Int) ≤ 0; omega, by show (0 : Int) ≤ 160; omega⟩
theorem St0 (l : List GToken) (r : PR) : (⟨l, r.at_, r.deep, 0, 0⟩ : RS) = St ⟨l, 0⟩ r := by
 unfold St
 show _ = (⟨l, r.at_ + 0, r.deep + 0, 0, 0⟩ : RS)
 rw [Int.add_zero, Int.add_zero]
theorem Lin_same {l : List GToken} {at_ : Int} (hl : l.length ≤ 50000) (ht : ∀ t ∈ l, t.Text.length ≤ 50000) : ∃ r, m_parser_Lin l at_ = some r ∧ m_ref16_Lin l at_ = some r ∧ r.1.L.length ≤ 100000 := by
 unfold m_parser_Lin m_ref16_Lin
 by_cases h : at_ < 0 ∨ (l.length : Int) < at_
 ·rw [if_pos (by simpa using h), if_pos (by simpa using h)]; exact ⟨_, rfl, rfl, by simp⟩
 ·have hb : (decide (at_ < 0) || decide ((l.length : Int) < at_)) = false := by
   rw [Bool.eq_false_iff]; intro h2; exact h (by simpa using h2)
  rw [hb, if_neg (by simp), if_neg (by simp)]
  have hR := Rok.start (l := l) (at_ := at_) (by omega) (by omega) hl ht
  unfold m_parser_Lin_1_w2
  rcases form_sim hR with ⟨x, r', e1, e2, hn, _, hI⟩ | ⟨a, e, e1, hq⟩
  ·rw [e1, St0 l ⟨l, at_, 0⟩, e2]
   have := hI.len; have := hn.ok.a1; have := hn.ok.ll
   have : (⟨l, at_, 0⟩ : PR).at_ = at_ := rfl
   exact ⟨(x, r'.at_, 0), rfl, by show some (x, r'.at_ + 0, (0 : Int)) = _; rw [Int.add_zero], by show x.L.length ≤ _; omega⟩
  ·obtain ⟨y, s, e2, q1, q2, q3⟩ := hq rfl
   rw [e1, St0 l ⟨l, at_, 0⟩, e2]
   refine ⟨(⟨0, []⟩, a, e), ?_, ?_, by simp⟩
   ·show (if e ≠ 0 then _ else none) = _
    rw [if_pos q3]
   ·rw [Option.bind_some, if_pos (by simp [q1, q3]), q1, q2]
theorem law_ParserForms (l : List GToken) (at_ : Int) (hl : okW okGToken l) (ha : okI .i64 at_) : m_law16_ParserForms l at_ = some true := by
 unfold m_law16_ParserForms
 obtain ⟨b, h1, h2⟩ := few_ok l 300 (by have := hl.2; omega) (by omega)
 rw [show (300 : Int) = ((300 : Nat) : Int) from rfl, h1, Option.bind_some, alive16]
 cases b with
 | false => rfl
 | true =>
  obtain ⟨h3, h4⟩ := h2 rfl
  obtain ⟨r, e1, e2, e3⟩ := Lin_same (at_ := at_) (l := l) (by omega) (fun t ht => by have := h4 t ht; omega)
  rw [if_neg (by simp), e1, e2, Option.bind_some, Option.bind_some, base_Lin_same _ (by omega)]
  simp [gd]
end Go.Proofs.YtmhoikfoogemnaaGreatDoor
