import Derived.Test.YtpedfojbfbccaaaGreatSTc
namespace Go.Proofs.YtpedfojbfbccaaaGreat
open Go Go.RowKit Go.Vc
set_option linter.unusedVariables false
set_option linter.unusedSimpArgs false
theorem mget_mput {β : Type} (m : List (Int × β)) (k k' : Int) (v : β) : mget (mput m k v) k' = if k' = k then some v else mget m k' := by
 induction m with
 | nil => simp [mput, mget]
 | cons p m ih =>
  obtain ⟨a, b⟩ := p
  simp only [mput]
  by_cases h : k = a
  ·subst h; simp only [if_true, mget]; by_cases e : k' = k <;> simp [e]
  ·simp only [h, if_false, mget]
   by_cases e : k' = a
   ·subst e; rw [if_pos rfl, if_neg (fun e => h e.symm), if_pos rfl]
   ·rw [if_neg e, ih, if_neg e]
def PlB (s : List Int) : Prop := (∀ x ∈ s, -1 ≤ x) ∧ ∀ (k i : Nat) (x : Int), k < i → s[i]? = some x → s[k]? = some x → x < 0
theorem lupto_ok {α : Type} {l : List α} {i : Nat} (h : i ≤ l.length) : lupto l (i : Int) = some (l.take i) := by unfold lupto; rw [if_pos (by omega)]; simp
theorem coll_plain (s : List Int) (hs : s.length < 4611686018427387904) : ∃ b, m_collective_plain s = some b ∧ (b = true ↔ PlB s) := by
 unfold m_collective_plain
 refine loop_fu (L := fun f (_ : Unit) i => m_collective_plain_l1 s f i) hs (fun i _ => PlB (s.take i)) (fun b => b = true ↔ PlB s) ?_ ?_ () ⟨by simp, by simp⟩
 ·rintro f i - hi ⟨h1, h2⟩
  obtain ⟨x, hx⟩ := at_some hi
  simp only [m_collective_plain_l1]
  rw [if_pos (lt_dec hi), lat_at hx, Option.bind_some]
  by_cases hx1 : x < -1
  ·right
   refine ⟨false, by rw [if_pos (by simpa using hx1)], ?_⟩
   simp only [Bool.false_eq_true, false_iff]
   intro h; have := h.1 x (List.mem_of_getElem? hx); omega
  rw [if_neg (by simpa using hx1), lupto_ok (by omega), Option.bind_some]
  by_cases hd : ∃ k, k < i ∧ s[k]? = some x ∧ 0 ≤ x
  ·obtain ⟨k, hk, hkx, h0⟩ := hd
   right
   refine ⟨false, ?_, ?_⟩
   ·refine any_yes (n := i) (k := k) (by omega) hk _ (fun g j hj => ?_) (fun g => ?_)
    ·obtain ⟨y, hy⟩ := at_some (l := s.take i) (i := j) (by rw [List.length_take]; omega)
     simp only [m_collective_plain_l2]
     rw [if_pos (lt_dec (by rw [List.length_take]; omega)), lat_at hy, Option.bind_some, wis (by omega)]
     by_cases hc : ((decide (0 ≤ x)) && (decide (x = y))) = true
     ·right; rw [if_pos hc]
     ·left; rw [if_neg hc]
    ·simp only [m_collective_plain_l2]
     rw [if_pos (lt_dec (by rw [List.length_take]; omega)), lat_at (x := x) (by rw [List.getElem?_take, if_pos hk]; exact hkx), Option.bind_some, if_pos (by simp [h0])]
   ·simp only [Bool.false_eq_true, false_iff]
    intro h; have := h.2 k i x hk hx hkx; omega
  ·left
   refine ⟨(), ?_, ?_⟩
   ·rw [take_succ' hx]
    refine ⟨fun y hy => ?_, fun k j y hkj hj hk => ?_⟩
    ·rcases List.mem_append.1 hy with h | h
     ·exact h1 y h
     ·rw [List.mem_singleton.1 h]; omega
    ·have hlen : (s.take i).length = i := by rw [List.length_take]; omega
     by_cases hji : j < i
     ·rw [List.getElem?_append_left (by omega)] at hj hk; exact h2 k j y hkj hj hk
     ·have hj' : j = i := by
       have := (List.getElem?_eq_some_iff.1 hj).1; simp [hlen] at this; omega
      subst hj'
      rw [List.getElem?_append_right (by omega), hlen] at hj
      simp at hj; subst hj
      rw [List.getElem?_append_left (by omega), List.getElem?_take, if_pos hkj] at hk
      by_cases h0 : 0 ≤ x
      ·exact absurd ⟨k, hkj, hk, h0⟩ hd
      ·omega
   ·refine any_no (n := i) (by omega) _ (fun g j hj => ?_) (fun g => ?_)
    ·obtain ⟨y, hy⟩ := at_some (l := s.take i) (i := j) (by rw [List.length_take]; omega)
     simp only [m_collective_plain_l2]
     rw [if_pos (lt_dec (by rw [List.length_take]; omega)), lat_at hy, Option.bind_some, wis (by omega), if_neg]
     rw [List.getElem?_take, if_pos hj] at hy
     simp only [Bool.and_eq_true, decide_eq_true_eq]
     rintro ⟨h0, rfl⟩
     exact hd ⟨j, hj, hy, h0⟩
    ·simp only [m_collective_plain_l2]
     rw [if_neg (by simp; omega), m_collective_plain_j1, wis (by omega)]
 ·rintro f - hI
  refine ⟨true, ?_, ?_⟩
  ·simp only [m_collective_plain_l1]; rw [if_neg (by simp)]
  ·rw [List.take_length] at hI; simp [hI]
theorem ref53_Plain (s : List Int) (hs : s.length < 4611686018427387904) : ∃ b, m_ref53_Plain s = some b ∧ (b = true ↔ PlB s) := by
 unfold m_ref53_Plain
 refine loop_fu (L := fun f (_ : Unit) i => m_ref53_Plain_l1 s f i) hs (fun i _ => PlB (s.take i)) (fun b => b = true ↔ PlB s) ?_ ?_ () ⟨by simp, by simp⟩
 ·rintro f i - hi ⟨h1, h2⟩
  obtain ⟨x, hx⟩ := at_some hi
  simp only [m_ref53_Plain_l1]
  rw [if_pos (lt_dec hi)]
  by_cases hd : ∃ k, k < i ∧ s[k]? = some x ∧ 0 ≤ x
  ·obtain ⟨k, hk, hkx, h0⟩ := hd
   right
   refine ⟨false, ?_, ?_⟩
   ·refine any_yes (n := i) (k := k) (by omega) hk _ (fun g j hj => ?_) (fun g => ?_)
    ·obtain ⟨y, hy⟩ := at_some (l := s) (i := j) (by omega)
     simp only [m_ref53_Plain_l2]
     rw [if_pos (lt_dec (by omega)), lat_at hy, Option.bind_some, lat_at hx, Option.bind_some, wis (by omega)]
     by_cases hc : y = x
     ·right; simp [gd, hc, h0]
     ·left; simp [gd, hc]
    ·simp only [m_ref53_Plain_l2]
     rw [if_pos (lt_dec (by omega)), lat_at hkx, Option.bind_some, lat_at hx, Option.bind_some]
     simp [gd, h0]
   ·simp only [Bool.false_eq_true, false_iff]
    intro h; have := h.2 k i x hk hx hkx; omega
  ·have hend : m_ref53_Plain_l2 (i : Int) s (m_ref53_Plain_l1 s f) fu 0 = m_ref53_Plain_j2 s (i : Int) (m_ref53_Plain_l1 s f) := by
    refine any_no (n := i) (by omega) _ (fun g j hj => ?_) (fun g => ?_)
    ·obtain ⟨y, hy⟩ := at_some (l := s) (i := j) (by omega)
     simp only [m_ref53_Plain_l2]
     rw [if_pos (lt_dec (by omega)), lat_at hy, Option.bind_some, lat_at hx, Option.bind_some, wis (by omega)]
     by_cases hc : y = x
     ·subst hc
      have h0 : ¬ 0 ≤ y := fun h0 => hd ⟨j, hj, hy, h0⟩
      simp [gd, h0]
     ·simp [gd, hc]
    ·simp only [m_ref53_Plain_l2]
     rw [if_neg (by simp)]
   rw [hend, m_ref53_Plain_j2, lat_at hx, Option.bind_some]
   by_cases hx1 : x < -1
   ·right
    refine ⟨false, by rw [if_pos (by simpa using hx1)], ?_⟩
    simp only [Bool.false_eq_true, false_iff]
    intro h; have := h.1 x (List.mem_of_getElem? hx); omega
   ·left
    refine ⟨(), ?_, by rw [if_neg (by simpa using hx1), m_ref53_Plain_j1, wis (by omega)]⟩
    rw [take_succ' hx]
    refine ⟨fun y hy => ?_, fun k j y hkj hj hk => ?_⟩
    ·rcases List.mem_append.1 hy with h | h
     ·exact h1 y h
     ·rw [List.mem_singleton.1 h]; omega
    ·have hlen : (s.take i).length = i := by rw [List.length_take]; omega
     by_cases hji : j < i
     ·rw [List.getElem?_append_left (by omega)] at hj hk; exact h2 k j y hkj hj hk
     ·have hj' : j = i := by
       have := (List.getElem?_eq_some_iff.1 hj).1; simp [hlen] at this; omega
      subst hj'
      rw [List.getElem?_append_right (by omega), hlen] at hj
      simp at hj; subst hj
      rw [List.getElem?_append_left (by omega), List.getElem?_take, if_pos hkj] at hk
      by_cases h0 : 0 ≤ x
      ·exact absurd ⟨k, hkj, hk, h0⟩ hd
      ·omega
 ·rintro f - hI
  refine ⟨true, ?_, ?_⟩
  ·simp only [m_ref53_Plain_l1]; rw [if_neg (by simp)]
  ·rw [List.take_length] at hI; simp [hI]
theorem plain_same (s : List Int) (hs : s.length < 4611686018427387904) : ∃ b, m_collective_plain s = some b ∧ m_ref53_Plain s = some b ∧ (b = true ↔ PlB s) := by
 obtain ⟨b, h1, h2⟩ := coll_plain s hs
 obtain ⟨c, h3, h4⟩ := ref53_Plain s hs
 have : b = c := by cases b <;> cases c <;> simp_all
 exact ⟨b, h1, this ▸ h3, h2⟩
def Rc (from_ to_ : List Int) (x : Int) (j : Nat) : Prop := to_[j]? = some x ∧ from_[j]? = some (-1)
theorem receiver_yes {from_ to_ : List Int} {x : Int} {j : Nat} (hl : from_.length = to_.length) (hn : to_.length < 4611686018427387904) (hr : Rc from_ to_ x j) (hu : ∀ k, to_[k]? = some x → k = j) : m_collective_receiver from_ to_ x = some (j : Int) := by
 have hj : j < to_.length := (List.getElem?_eq_some_iff.1 hr.1).1
 unfold m_collective_receiver
 refine any_yes (k := j) hn hj _ (fun f i hi => .inl ?_) (fun f => ?_)
 ·obtain ⟨y, hy⟩ := at_some (l := to_) (i := i) (by omega)
  simp only [m_collective_receiver_l1]
  rw [if_pos (lt_dec (by omega)), lat_at hy, Option.bind_some, wis (by omega)]
  have : y ≠ x := fun e => by subst e; have := hu i hy; omega
  simp [gd, this]
 ·simp only [m_collective_receiver_l1]
  rw [if_pos (lt_dec hj), lat_at hr.1, Option.bind_some, lat_at hr.2]
  simp [gd]
theorem receiver_no {from_ to_ : List Int} {x : Int} (hl : from_.length = to_.length) (hn : to_.length < 4611686018427387904) (hr : ∀ j, ¬ Rc from_ to_ x j) : m_collective_receiver from_ to_ x = some (-1) := by
 unfold m_collective_receiver
 refine any_no hn _ (fun f i hi => ?_) (fun f => ?_)
 ·obtain ⟨y, hy⟩ := at_some (l := to_) (i := i) (by omega)
  obtain ⟨z, hz⟩ := at_some (l := from_) (i := i) (by omega)
  simp only [m_collective_receiver_l1]
  rw [if_pos (lt_dec (by omega)), lat_at hy, Option.bind_some, lat_at hz, wis (by omega)]
  by_cases e : y = x
  ·subst e
   have : z ≠ -1 := fun e => hr i ⟨hy, e ▸ hz⟩
   simp [gd, this]
  ·simp [gd, e]
 ·simp only [m_collective_receiver_l1]
  rw [if_neg (by simp)]
end Go.Proofs.YtpedfojbfbccaaaGreat
