import Derived.Test.YtpedfojbfbccaaaGreatSTc
namespace Go.Proofs.YtpedfojbfbccaaaGreat
open Go Go.RowKit Go.Vc
set_option linter.unusedVariables false
set_option linter.unusedSimpArgs false
theorem mget_mput {β : Type} (m : List (Int × β)) (k k' : Int) (v : β) : mget (mput m k v) k' = if k' = k then some v else mget m k' := by
 induction m with
 | nil => simp [mput, mget]
 | cons p m ih =>
  obtain ⟨a, b⟩ := p
  simp only [mput]
  by_cases h : k = a
  ·subst h; simp only [if_true, mget]; by_cases e : k' = k <;> simp [e]
  ·simp only [h, if_false, mget]
   by_cases e : k' = a
   ·subst e; rw [if_pos rfl, if_neg (fun e => h e.symm), if_pos rfl]
   ·rw [if_neg e, ih, if_neg e]
def PlB (s : List Int) : Prop := (∀ x ∈ s, -1 ≤ x) ∧ ∀ (k i : Nat) (x : Int), k < i → s[i]? = some x → s[k]? = some x → x < 0
theorem lupto_ok {α : Type} {l : List α} {i : Nat} (h : i ≤ l.length) : lupto l (i : Int) = some (l.take i) := by unfold lupto; rw [if_pos (by omega)]; simp
theorem coll_plain (s : List Int) (hs : s.length < 4611686018427387904) : ∃ b, m_collective_plain s = some b ∧ (b = true ↔ PlB s) := by
 unfold m_collective_plain
 refine loop_fu (L := fun f (_ : Unit) i => m_collective_plain_l1 s f i) hs (fun i _ => PlB (s.take i)) (fun b => b = true ↔ PlB s) ?_ ?_ () ⟨by simp, by simp⟩
 ·rintro f i - hi ⟨h1, h2⟩
  obtain ⟨x, hx⟩ := at_some hi
  simp only [m_collective_plain_l1]
  rw [if_pos (lt_dec hi), lat_at hx, Option.bind_some]
  by_cases hx1 : x < -1
  ·right
   refine ⟨false, by rw [if_pos (by simpa using hx1)], ?_⟩
   simp only [Bool.false_eq_true, false_iff]
   intro h; have := h.1 x (List.mem_of_getElem? hx); omega
  rw [if_neg (by simpa using hx1), lupto_ok (by omega), Option.bind_some]
  by_cases hd : ∃ k, k < i ∧ s[k]? = some x ∧ 0 ≤ x
  ·obtain ⟨k, hk, hkx, h0⟩ := hd
   right
   refine ⟨false, ?_, ?_⟩
   ·refine any_yes (n := i) (k := k) (by omega) hk _ (fun g j hj => ?_) (fun g => ?_)
    ·obtain ⟨y, hy⟩ := at_some (l := s.take i) (i := j) (by rw [List.length_take]; omega)
     simp only [m_collective_plain_l2]
     rw [if_pos (lt_dec (by rw [List.length_take]; omega)), lat_at hy, Option.bind_some, wis (by omega)]
     by_cases hc : ((decide (0 ≤ x)) && (decide (x = y))) = true
     ·right; rw [if_pos hc]
     ·left; rw [if_neg hc]
    ·simp only [m_collective_plain_l2]
     rw [if_pos (lt_dec (by rw [List.length_take]; omega)), lat_at (x := x) (by rw [List.getElem?_take, if_pos hk]; exact hkx), Option.bind_some, if_pos (by simp [h0])]
   ·simp only [Bool.false_eq_true, false_iff]
    intro h; have := h.2 k i x hk hx hkx; omega
  ·left
   refine ⟨(), ?_, ?_⟩
   ·rw [take_succ' hx]
    refine ⟨fun y hy => ?_, fun k j y hkj hj hk => ?_⟩
    ·rcases List.mem_append.1 hy with h | h
     ·exact h1 y h
     ·rw [List.mem_singleton.1 h]; omega
    ·have hlen : (s.take i).length = i := by rw [List.length_take]; omega
     by_cases hji : j < i
     ·rw [List.getElem?_append_left (by omega)] at hj hk; exact h2 k j y hkj hj hk
     ·have hj' : j = i := by
       have := (List.getElem?_eq_some_iff.1 hj).1; simp [hlen] at this; omega
      subst hj'
      rw [List.getElem?_append_right (by omega), hlen] at hj
      simp at hj; subst hj
      rw [List.getElem?_append_left (by omega), List.getElem?_take, if_pos hkj] at hk
      by_cases h0 : 0 ≤ x
      ·exact absurd ⟨k, hkj, hk, h0⟩ hd
      ·omega
   ·refine any_no (n := i) (by omega) _ (fun g j hj => ?_) (fun g => ?_)
    ·obtain ⟨y, hy⟩ := at_some (l := s.take i) (i := j) (by rw [List.length_take]; omega)
     simp only [m_collective_plain_l2]
     rw [if_pos (lt_dec (by rw [List.length_take]; omega)), lat_at hy, Option.bind_some, wis (by omega), if_neg]
     rw [List.getElem?_take, if_pos hj] at hy
     simp only [Bool.and_eq_true, decide_eq_true_eq]
     rintro ⟨h0, rfl⟩
     exact hd ⟨j, hj, hy, h0⟩
    ·simp only [m_collective_plain_l2]
     rw [if_neg (by simp; omega), m_collective_plain_j1, wis (by omega)]
 ·rintro f - hI
  refine ⟨true, ?_, ?_⟩
  ·simp only [m_collective_plain_l1]; rw [if_neg (by simp)]
  ·rw [List.take_length] at hI; simp [hI]
theorem ref53_Plain (s : List Int) (hs : s.length < 4611686018427387904) : ∃ b, m_ref53_Plain s = some b ∧ (b = true ↔ PlB s) := by
 unfold m_ref53_Plain
 refine loop_fu (L := fun f (_ : Unit) i => m_ref53_Plain_l1 s f i) hs (fun i _ => PlB (s.take i)) (fun b => b = true ↔ PlB s) ?_ ?_ () ⟨by simp, by simp⟩
 ·rintro f i - hi ⟨h1, h2⟩
  obtain ⟨x, hx⟩ := at_some hi
  simp only [m_ref53_Plain_l1]
  rw [if_pos (lt_dec hi)]
  by_cases hd : ∃ k, k < i ∧ s[k]? = some x ∧ 0 ≤ x
  ·obtain ⟨k, hk, hkx, h0⟩ := hd
   right
   refine ⟨false, ?_, ?_⟩
   ·refine any_yes (n := i) (k := k) (by omega) hk _ (fun g j hj => ?_) (fun g => ?_)
    ·obtain ⟨y, hy⟩ := at_some (l := s) (i := j) (by omega)
     simp only [m_ref53_Plain_l2]
     rw [if_pos (lt_dec (by omega)), lat_at hy, Option.bind_some, lat_at hx, Option.bind_some, wis (by omega)]
     by_cases hc : y = x
     ·right; simp [gd, hc, h0]
     ·left; simp [gd, hc]
    ·simp only [m_ref53_Plain_l2]
     rw [if_pos (lt_dec (by omega)), lat_at hkx, Option.bind_some, lat_at hx, Option.bind_some]
     simp [gd, h0]
   ·simp only [Bool.false_eq_true, false_iff]
    intro h; have := h.2 k i x hk hx hkx; omega
  ·have hend : m_ref53_Plain_l2 (i : Int) s (m_ref53_Plain_l1 s f) fu 0 = m_ref53_Plain_j2 s (i : Int) (m_ref53_Plain_l1 s f) := by
    refine any_no (n := i) (by omega) _ (fun g j hj => ?_) (fun g => ?_)
    ·obtain ⟨y, hy⟩ := at_some (l := s) (i := j) (by omega)
     simp only [m_ref53_Plain_l2]
     rw [if_pos (lt_dec (by omega)), lat_at hy, Option.bind_some, lat_at hx, Option.bind_some, wis (by omega)]
     by_cases hc : y = x
     ·subst hc
      have h0 : ¬ 0 ≤ y := fun h0 => hd ⟨j, hj, hy, h0⟩
      simp [gd, h0]
     ·simp [gd, hc]
    ·simp only [m_ref53_Plain_l2]
     rw [if_neg (by simp)]
   rw [hend, m_ref53_Plain_j2, lat_at hx, Option.bind_some]
   by_cases hx1 : x < -1
   ·right
    refine ⟨false, by rw [if_pos (by simpa using hx1)], ?_⟩
    simp only [Bool.false_eq_true, false_iff]
    intro h; have := h.1 x (List.mem_of_getElem? hx); omega
   ·left
    refine ⟨(), ?_, by rw [if_neg (by simpa using hx1), m_ref53_Plain_j1, wis (by omega)]⟩
    rw [take_succ' hx]
    refine ⟨fun y hy => ?_, fun k j y hkj hj hk => ?_⟩
    ·rcases List.mem_append.1 hy with h | h
     ·exact h1 y h
     ·rw [List.mem_singleton.1 h]; omega
    ·have hlen : (s.take i).length = i := by rw [List.length_take]; omega
     by_cases hji : j < i
     ·rw [List.getElem?_append_left (by omega)] at hj hk; exact h2 k j y hkj hj hk
     ·have hj' : j = i := by
       have := (List.getElem?_eq_some_iff.1 hj).1; simp [hlen] at this; omega
      subst hj'
      rw [List.getElem?_append_right (by omega), hlen] at hj
      simp at hj; subst hj
      rw [List.getElem?_append_left (by omega), List.getElem?_take, if_pos hkj] at hk
      by_cases h0 : 0 ≤ x
      ·exact absurd ⟨k, hkj, hk, h0⟩ hd
      ·omega
 ·rintro f - hI
  refine ⟨true, ?_, ?_⟩
  ·simp only [m_ref53_Plain_l1]; rw [if_neg (by simp)]
  ·rw [List.take_length] at hI; simp [hI]
theorem plain_same (s : List Int) (hs : s.length < 4611686018427387904) : ∃ b, m_collective_plain s = some b ∧ m_ref53_Plain s = some b ∧ (b = true ↔ PlB s) := by
 obtain ⟨b, h1, h2⟩ := coll_plain s hs
 obtain ⟨c, h3, h4⟩ := ref53_Plain s hs
 have : b = c := by cases b <;> cases c <;> simp_all
 exact ⟨b, h1, this ▸ h3, h2⟩
def Rc (from_ to_ : List Int) (x : Int) (j : Nat) : Prop := to_[j]? = some x ∧ from_[j]? = some (-1)
theorem receiver_yes {from_ to_ : List Int} {x : Int} {j : Nat} (hl : from_.length = to_.length) (hn : to_.length < 4611686018427387904) (hr : Rc from_ to_ x j) (hu : ∀ k, to_[k]? = some x → k = j) : m_collective_receiver from_ to_ x = some (j : Int) := by
 have hj : j < to_.length := (List.getElem?_eq_some_iff.1 hr.1).1
 unfold m_collective_receiver
 refine any_yes (k := j) hn hj _ (fun f i hi => .inl ?_) (fun f => ?_)
 ·obtain ⟨y, hy⟩ := at_some (l := to_) (i := i) (by omega)
  simp only [m_collective_receiver_l1]
  rw [if_pos (lt_dec (by omega)), lat_at hy, Option.bind_some, wis (by omega)]
  have : y ≠ x := fun e => by subst e; have := hu i hy; omega
  simp [gd, this]
 ·simp only [m_collective_receiver_l1]
  rw [if_pos (lt_dec hj), lat_at hr.1, Option.bind_some, lat_at hr.2]
  simp [gd]
theorem receiver_no {from_ to_ : List Int} {x : Int} (hl : from_.length = to_.length) (hn : to_.length < 4611686018427387904) (hr : ∀ j, ¬ Rc from_ to_ x j) : m_collective_receiver from_ to_ x = some (-1) := by
 unfold m_collective_receiver
 refine any_no hn _ (fun f i hi => ?_) (fun f => ?_)
 ·obtain ⟨y, hy⟩ := at_some (l := to_) (i := i) (by omega)
  obtain ⟨z, hz⟩ := at_some (l := from_) (i := i) (by omega)
  simp only [m_collective_receiver_l1]
  rw [if_pos (lt_dec (by omega)), lat_at hy, Option.bind_some, lat_at hz, wis (by omega)]
  by_cases e : y = x
  ·subst e
   have : z ≠ -1 := fun e => hr i ⟨hy, e ▸ hz⟩
   simp [gd, this]
  ·simp [gd, e]
 ·simp only [m_collective_receiver_l1]
  rw [if_neg (by simp)]
theorem ref_l3_yes {from_ to_ : List Int} {x i1 : Int} {j : Nat} {out : List GTransfer} {self : List GTransfer → List Bool → Int → Option (List GTransfer)} {dn : List Bool} {t0 : GTransfer} (hl : from_.length = to_.length) (hdl : dn.length = to_.length) (hn : to_.length < 4611686018427387904) (hr : Rc from_ to_ x j) (hu : ∀ k, to_[k]? = some x → k = j) :
  m_ref53_Plan_l3 to_ x from_ i1 out self fu dn 0 t0 = m_ref53_Plan_j4 out self i1 (dn.set j true) ⟨3, x, i1, j, []⟩ := by
 have hj : j < to_.length := (List.getElem?_eq_some_iff.1 hr.1).1
 refine loop_eq (L := fun f (s : List Bool × GTransfer) i => m_ref53_Plan_l3 to_ x from_ i1 out self f s.1 i s.2) hn (fun i s => s = if i ≤ j then (dn, t0) else (dn.set j true, ⟨3, x, i1, j, []⟩)) ?_ ?_ (dn, t0) (by simp)
 ·rintro f i s hi rfl
  left
  obtain ⟨y, hy⟩ := at_some (l := to_) (i := i) (by omega)
  simp only [m_ref53_Plan_l3]
  by_cases hij : i = j
  ·subst hij
   obtain rfl : y = x := by rw [hr.1] at hy; exact (Option.some.inj hy).symm
   refine ⟨_, rfl, ?_⟩
   have hni : ¬ i + 1 ≤ i := by omega
   rw [if_pos (lt_dec hi), lat_at hy, Option.bind_some, lat_at hr.2]
   simp only [Nat.le_refl, if_true, decide_true, gd, Option.bind_some, Bool.and_true, hni, if_false]
   rw [if_pos ⟨by omega, by rw [hdl]; omega⟩, m_ref53_Plan_j5, wis (by omega)]
   simp
  ·have hyx : y ≠ x := fun e => by subst e; exact hij (hu i hy)
   refine ⟨_, rfl, ?_⟩
   rw [if_pos (lt_dec hi), lat_at hy, Option.bind_some]
   by_cases hle : i ≤ j
   ·have h2 : i + 1 ≤ j := by omega
    simp only [hyx, decide_false, gd, hle, h2, if_true, Bool.false_eq_true, if_false, Option.bind_some, Bool.false_and, m_ref53_Plan_j5]
    rw [wis (by omega)]
   ·have h2 : ¬ i + 1 ≤ j := by omega
    simp only [hyx, decide_false, gd, hle, h2, if_true, Bool.false_eq_true, if_false, Option.bind_some, Bool.false_and, m_ref53_Plan_j5]
    rw [wis (by omega)]
 ·rintro f s rfl
  simp only [m_ref53_Plan_l3]
  rw [if_neg (by simp), if_neg (by omega)]
theorem ref_l3_no {from_ to_ : List Int} {x i1 : Int} {out : List GTransfer} {self : List GTransfer → List Bool → Int → Option (List GTransfer)} {dn : List Bool} {t0 : GTransfer} (hl : from_.length = to_.length) (hn : to_.length < 4611686018427387904) (hr : ∀ j, ¬ Rc from_ to_ x j) :
  m_ref53_Plan_l3 to_ x from_ i1 out self fu dn 0 t0 = m_ref53_Plan_j4 out self i1 dn t0 := by
 refine any_no hn (fun f i => m_ref53_Plan_l3 to_ x from_ i1 out self f dn i t0) (fun f i hi => ?_) (fun f => ?_)
 ·obtain ⟨y, hy⟩ := at_some (l := to_) (i := i) (by omega)
  obtain ⟨z, hz⟩ := at_some (l := from_) (i := i) (by omega)
  simp only [m_ref53_Plan_l3]
  rw [if_pos (lt_dec (by omega)), lat_at hy, Option.bind_some, lat_at hz]
  by_cases e : y = x
  ·subst e
   have : z ≠ -1 := fun e => hr i ⟨hy, e ▸ hz⟩
   simp [gd, this, m_ref53_Plan_j5, wis (show i < 4611686018427387904 by omega)]
  ·simp [gd, e, m_ref53_Plan_j5, wis (show i < 4611686018427387904 by omega)]
 ·simp only [m_ref53_Plan_l3]
  rw [if_neg (by simp)]
theorem Plan_same (from_ to_ : List Int) (h1 : from_.length ≤ 40) (h2 : to_.length ≤ 40) : ∃ r, m_collective_Plan from_ to_ = some r ∧ m_ref53_Plan from_ to_ = some r ∧ r.length ≤ 80 := by
 obtain ⟨b, b1, b2, b3⟩ := plain_same from_ (by omega)
 obtain ⟨c, c1, c2, c3⟩ := plain_same to_ (by omega)
 unfold m_collective_Plan m_ref53_Plan
 rw [b1, b2]
 by_cases hl : from_.length = to_.length
 ·cases b
  ·exact ⟨[], by simp [hl, gd], by simp [hl, gd], by simp⟩
  rw [c1, c2]
  cases c
  ·exact ⟨[], by simp [hl, gd], by simp [hl, gd], by simp⟩
  have hpl := c3.1 rfl
  simp only [hl, decide_true, Bool.not_true, Bool.not_false, gd, if_true, Option.bind_some, Bool.or_false, Bool.false_eq_true, if_false]
  rw [lmake_ok false (by omega), Option.bind_some]
  have h0 : ∀ (j : Nat) (b : Bool), (List.replicate to_.length false)[j]? = some b → (mget ([] : List (Int × Bool)) (j : Int)).getD false = b := fun j b hb => by
   simp only [mget, Option.getD_none]
   have := List.eq_of_mem_replicate (List.mem_of_getElem? hb)
   exact this.symm
  have key := loop_sim (L := fun f (s : List GTransfer × List (Int × Bool)) i => m_collective_Plan_l2 from_ to_ f s.1 i s.2) (M := fun f (s : List GTransfer × List Bool) i => m_ref53_Plan_l2 from_ to_ f s.1 s.2 i) (n := from_.length) (by omega)
   (fun i s t => s.1 = t.1 ∧ s.1.length ≤ i ∧ t.2.length = to_.length ∧ ∀ (j : Nat) (b : Bool), t.2[j]? = some b → (mget s.2 (j : Int)).getD false = b) (fun r => r.length ≤ 80) ?_ ?_ (([] : List GTransfer), ([] : List (Int × Bool))) (([] : List GTransfer), List.replicate to_.length false) ⟨rfl, by simp, by simp, h0⟩
  ·obtain ⟨r, k0, k1, k2⟩ := key
   exact ⟨r, k1, k2, k0⟩
  ·rintro i ⟨out, m⟩ ⟨out2, dn⟩ hi ⟨e, hol, hdl, hm⟩
   dsimp only at e hol hdl hm
   subst e
   obtain ⟨x, hx⟩ := at_some hi
   obtain ⟨y, hy⟩ := at_some (l := to_) (i := i) (by omega)
   left
   simp only [m_collective_Plan_l2, m_ref53_Plan_l2]
   by_cases hc : x < 0
   ·refine ⟨(out, m), (out, dn), ⟨rfl, by simp; omega, hdl, hm⟩, fun f => ?_, fun f => ?_⟩
    ·rw [if_pos (lt_dec hi), lat_at hx, Option.bind_some]; simp [hc, gd, m_collective_Plan_j3, wis (show i < 4611686018427387904 by omega)]
    ·rw [if_pos (lt_dec hi), lat_at hx, Option.bind_some]; simp [hc, gd, m_ref53_Plan_j3, wis (show i < 4611686018427387904 by omega)]
   by_cases hxy : y = x
   ·refine ⟨(out, m), (out, dn), ⟨rfl, by simp; omega, hdl, hm⟩, fun f => ?_, fun f => ?_⟩
    ·rw [if_pos (lt_dec hi), lat_at hx, Option.bind_some, lat_at hy]; simp [hc, hxy, gd, m_collective_Plan_j3, wis (show i < 4611686018427387904 by omega)]
    ·rw [if_pos (lt_dec hi), lat_at hx, Option.bind_some, lat_at hy]; simp [hc, hxy, gd, m_ref53_Plan_j3, wis (show i < 4611686018427387904 by omega)]
   have hu : ∀ j k, to_[j]? = some x → to_[k]? = some x → k = j := fun j k hj hk => by
    rcases Nat.lt_trichotomy j k with h | h | h
    ·have := hpl.2 j k x h hk hj; omega
    ·exact h.symm
    ·have := hpl.2 k j x h hj hk; omega
   by_cases hrc : ∃ j, Rc from_ to_ x j
   ·obtain ⟨j, hj⟩ := hrc
    have hjl : j < to_.length := (List.getElem?_eq_some_iff.1 hj.1).1
    refine ⟨(out ++ [⟨3, x, i, j, []⟩], mput m j true), (out ++ [⟨3, x, i, j, []⟩], dn.set j true), ⟨rfl, by simp; omega, by simpa using hdl, fun k b hb => ?_⟩, fun f => ?_, fun f => ?_⟩
    ·dsimp only
     rw [mget_mput]
     by_cases hkj : k = j
     ·subst hkj
      rw [List.getElem?_set_self (by omega)] at hb
      simpa using hb
     ·rw [if_neg (by omega)]
      rw [List.getElem?_set_ne (fun e => hkj e.symm)] at hb
      exact hm k b hb
    ·rw [if_pos (lt_dec hi), lat_at hx, Option.bind_some, lat_at hy, receiver_yes (by omega) (by omega) hj fun k hk => hu j k hj.1 hk]
     simp only [hc, hxy, decide_false, Bool.not_false, gd, if_true, Option.bind_some, Bool.or_false, Bool.false_eq_true, if_false]
     rw [if_pos (by simp), lapp_ok (by simp; omega), Option.bind_some, m_collective_Plan_j3, wis (by omega)]
    ·rw [if_pos (lt_dec hi), lat_at hx, Option.bind_some, lat_at hy]
     simp only [hc, hxy, decide_false, Bool.not_false, gd, if_true, Option.bind_some, Bool.or_false, Bool.false_eq_true, if_false]
     rw [ref_l3_yes (by omega) hdl (by omega) hj fun k hk => hu j k hj.1 hk, m_ref53_Plan_j4, lapp_ok (by simp; omega), Option.bind_some, m_ref53_Plan_j3, wis (by omega)]
   ·have hrn : ∀ j, ¬ Rc from_ to_ x j := fun j hj => hrc ⟨j, hj⟩
    refine ⟨(out ++ [⟨1, x, i, i, []⟩], m), (out ++ [⟨1, x, i, i, []⟩], dn), ⟨rfl, by simp; omega, hdl, hm⟩, fun f => ?_, fun f => ?_⟩
    ·rw [if_pos (lt_dec hi), lat_at hx, Option.bind_some, lat_at hy, receiver_no (by omega) (by omega) hrn]
     simp only [hc, hxy, decide_false, Bool.not_false, gd, if_true, Option.bind_some, Bool.or_false, Bool.false_eq_true, if_false]
     rw [if_neg (by decide), lapp_ok (by simp; omega), Option.bind_some, m_collective_Plan_j3, wis (by omega)]
    ·rw [if_pos (lt_dec hi), lat_at hx, Option.bind_some, lat_at hy]
     simp only [hc, hxy, decide_false, Bool.not_false, gd, if_true, Option.bind_some, Bool.or_false, Bool.false_eq_true, if_false]
     rw [ref_l3_no (by omega) (by omega) hrn, m_ref53_Plan_j4, lapp_ok (by simp; omega), Option.bind_some, m_ref53_Plan_j3, wis (by omega)]
  ·rintro ⟨out, m⟩ ⟨out2, dn⟩ ⟨e, hol, hdl, hm⟩
   dsimp only at e hol hdl hm
   subst e
   simp only [m_collective_Plan_l2, m_ref53_Plan_l2]
   have key := loop_sim (L := fun f (s : List GTransfer) i => m_collective_Plan_l1 to_ from_ m f s i) (M := fun f (s : List GTransfer) i => m_ref53_Plan_l1 to_ from_ dn f s i) (n := to_.length) (by omega)
    (fun i s t => s = t ∧ s.length ≤ from_.length + i) (fun r => r.length ≤ 80) ?_ ?_ out out ⟨rfl, by omega⟩
   ·obtain ⟨r, q0, q1, q2⟩ := key
    refine ⟨r, q0, fun f => ?_, fun f => ?_⟩
    ·rw [if_neg (by simp), m_collective_Plan_j1]; exact q1
    ·rw [if_neg (by simp), m_ref53_Plan_j1]; exact q2
   ·rintro i o _ hi ⟨rfl, ho⟩
    obtain ⟨y, hy⟩ := at_some hi
    obtain ⟨x, hx⟩ := at_some (l := from_) (i := i) (by omega)
    obtain ⟨b, hb⟩ := at_some (l := dn) (i := i) (by omega)
    have hmb := hm i b hb
    left
    simp only [m_collective_Plan_l1, m_ref53_Plan_l1]
    by_cases hc : 0 ≤ y ∧ x ≠ y ∧ b = false
    ·refine ⟨o ++ [⟨4, y, i, i, []⟩], o ++ [⟨4, y, i, i, []⟩], ⟨rfl, by simp; omega⟩, fun f => ?_, fun f => ?_⟩
     ·rw [if_pos (lt_dec hi), lat_at hy, Option.bind_some, lat_at hx, hmb]
      simp only [hc.1, hc.2.1, hc.2.2, decide_true, decide_false, gd, if_true, Option.bind_some, Bool.not_false, Bool.and_true]
      rw [lapp_ok (by simp; omega), Option.bind_some, m_collective_Plan_j2, wis (by omega)]
     ·rw [if_pos (lt_dec hi), lat_at hy, Option.bind_some, lat_at hx, lat_at hb]
      simp only [hc.1, hc.2.1, hc.2.2, decide_true, decide_false, gd, if_true, Option.bind_some, Bool.not_false, Bool.and_true]
      rw [lapp_ok (by simp; omega), Option.bind_some, m_ref53_Plan_j2, wis (by omega)]
    ·refine ⟨o, o, ⟨rfl, by omega⟩, fun f => ?_, fun f => ?_⟩
     ·rw [if_pos (lt_dec hi), lat_at hy, Option.bind_some, lat_at hx, hmb]
      by_cases e1 : 0 ≤ y <;> by_cases e2 : x = y <;> cases b <;> first | (exfalso; exact hc ⟨e1, e2, rfl⟩) | simp [e1, e2, gd, m_collective_Plan_j2, wis (show i < 4611686018427387904 by omega)]
     ·rw [if_pos (lt_dec hi), lat_at hy, Option.bind_some, lat_at hx, lat_at hb]
      by_cases e1 : 0 ≤ y <;> by_cases e2 : x = y <;> cases b <;> first | (exfalso; exact hc ⟨e1, e2, rfl⟩) | simp [e1, e2, gd, m_ref53_Plan_j2, wis (show i < 4611686018427387904 by omega)]
   ·rintro o _ ⟨rfl, ho⟩
    refine ⟨o, by omega, fun f => ?_, fun f => ?_⟩
    ·simp only [m_collective_Plan_l1]; rw [if_neg (by simp)]
    ·simp only [m_ref53_Plan_l1]; rw [if_neg (by simp)]
 ·have hl' : ¬ (from_.length : Int) = (to_.length : Int) := by omega
  exact ⟨[], by simp [gd, hl'], by simp [gd, hl'], by simp⟩
end Go.Proofs.YtpedfojbfbccaaaGreat
