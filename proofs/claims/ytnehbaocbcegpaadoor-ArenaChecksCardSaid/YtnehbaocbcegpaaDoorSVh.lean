import Derived.Test.YtnehbaocbcegpaaDoorSVg
namespace Go.Proofs.YtnehbaocbcegpaaDoor
open Go Go.RowKit Go.Vc
set_option linter.unusedVariables false
set_option linter.unusedSimpArgs false
def cB (a b : GLifetime) (x y : Int) : Bool := (((((decide (a.From ≤ b.To)) && (decide (b.From ≤ a.To))) && (decide (0 < a.Size))) && (decide (0 < b.Size))) && (decide (x < wi64 (y + b.Size)))) && (decide (y < wi64 (x + a.Size)))
theorem clash_cB (a b : GLifetime) (x y : Int) : m_ref42_clash a b x y = some (cB a b x y) := rfl
theorem meet_cB (a b : GLifetime) (s t : GSlot) (hs : s.Len = a.Size) (ht : t.Len = b.Size) : ∃ r, m_arena_meet s t = some r ∧ (decide (Ov a b) && r) = cB b a t.At s.At := by
 refine ⟨_, rfl, ?_⟩
 rw [hs, ht]
 unfold cB
 rw [show decide (Ov a b) = (decide (b.From ≤ a.To) && decide (a.From ≤ b.To)) by rw [Bool.eq_iff_iff, Bool.and_eq_true, decide_eq_true_iff, decide_eq_true_iff, decide_eq_true_iff]; exact and_comm]
 rw [Bool.eq_iff_iff]; simp only [Bool.and_eq_true]
 constructor
 ·rintro ⟨⟨h1, h2⟩, ⟨⟨h3, h4⟩, h5⟩, h6⟩; exact ⟨⟨⟨⟨⟨h1, h2⟩, h4⟩, h3⟩, h6⟩, h5⟩
 ·rintro ⟨⟨⟨⟨⟨h1, h2⟩, h4⟩, h3⟩, h6⟩, h5⟩; exact ⟨⟨h1, h2⟩, ⟨⟨h3, h4⟩, h5⟩, h6⟩
def early (l : List GLifetime) (slots : List GSlot) (i : Nat) (x : GLifetime) (s : GSlot) : Prop := ∃ (k : Nat) (z : GLifetime) (t : GSlot), k < i ∧ l[k]? = some z ∧ slots[k]? = some t ∧ cB x z s.At t.At = true
theorem check_in (l : List GLifetime) (slots : List GSlot) (hl : l.length ≤ 1000) (hs : slots.length = l.length) (i : Nat) (hi : i < l.length) (x : GLifetime) (s : GSlot) (hx : l[i]? = some x) (hsl : s.Len = x.Size)
  (hlen : ∀ (k : Nat) (z : GLifetime) (t : GSlot), k < i → l[k]? = some z → slots[k]? = some t → t.Len = z.Size) :
  (∀ self : Int → Option (Int × Int), (early l slots i x s → m_arena_Check_l2 (i : Int) l slots s self fu 0 = some ((i : Int), 21)) ∧ (¬ early l slots i x s → m_arena_Check_l2 (i : Int) l slots s self fu 0 = self (wi64 ((i : Int) + 1)))) ∧
  (∀ self : Int → Option (Int × Int), (early l slots i x s → m_ref42_Check_l2 (i : Int) l slots s self fu 0 = some ((i : Int), 21)) ∧ (¬ early l slots i x s → m_ref42_Check_l2 (i : Int) l slots s self fu 0 = self (wi64 ((i : Int) + 1)))) := by
 have rdL : ∀ (self : Int → Option (Int × Int)) (f k : Nat), k < i → ∃ b : Bool, (b = true ↔ ∃ (z : GLifetime) (t : GSlot), l[k]? = some z ∧ slots[k]? = some t ∧ cB x z s.At t.At = true) ∧ m_arena_Check_l2 (i : Int) l slots s self (f + 1) (k : Int) = if b = true then some ((i : Int), 21) else m_arena_Check_l2 (i : Int) l slots s self f ((k + 1 : Nat) : Int) := by
  intro self f k hk
  obtain ⟨z, hz⟩ := at_some (l := l) (i := k) (by omega)
  obtain ⟨t, ht⟩ := at_some (l := slots) (i := k) (by omega)
  obtain ⟨r, hr, he⟩ := meet_cB z x t s (hlen k z t hk hz ht) hsl
  refine ⟨cB x z s.At t.At, ⟨fun h => ⟨z, t, hz, ht, h⟩, ?_⟩, ?_⟩
  ·rintro ⟨z', t', h1, h2, h3⟩; rw [hz] at h1; rw [ht] at h2; injection h1 with h1; injection h2 with h2; subst h1; subst h2; exact h3
  ·simp only [m_arena_Check_l2]
   rw [if_pos (lt_dec hk), lat_at hz, Option.bind_some, lat_at hx, Option.bind_some, overlap_ok, Option.bind_some, lat_at ht, wis (by omega), ← he]
   cases hO : decide (Ov z x)
   ·simp [gd]
   ·simp only [gd, if_true, Option.bind_some, hr]
 have rdR : ∀ (self : Int → Option (Int × Int)) (f k : Nat), k < i → ∃ b : Bool, (b = true ↔ ∃ (z : GLifetime) (t : GSlot), l[k]? = some z ∧ slots[k]? = some t ∧ cB x z s.At t.At = true) ∧ m_ref42_Check_l2 (i : Int) l slots s self (f + 1) (k : Int) = if b = true then some ((i : Int), 21) else m_ref42_Check_l2 (i : Int) l slots s self f ((k + 1 : Nat) : Int) := by
  intro self f k hk
  obtain ⟨z, hz⟩ := at_some (l := l) (i := k) (by omega)
  obtain ⟨t, ht⟩ := at_some (l := slots) (i := k) (by omega)
  refine ⟨cB x z s.At t.At, ⟨fun h => ⟨z, t, hz, ht, h⟩, ?_⟩, ?_⟩
  ·rintro ⟨z', t', h1, h2, h3⟩; rw [hz] at h1; rw [ht] at h2; injection h1 with h1; injection h2 with h2; subst h1; subst h2; exact h3
  ·simp only [m_ref42_Check_l2]
   rw [if_pos (lt_dec hk), lat_at hx, Option.bind_some, lat_at hz, Option.bind_some, lat_at ht, Option.bind_some, clash_cB, Option.bind_some, wis (by omega)]
 refine ⟨fun self => ⟨fun ⟨k, z, t, hk, h1, h2, h3⟩ => ?_, fun hne => ?_⟩, fun self => ⟨fun ⟨k, z, t, hk, h1, h2, h3⟩ => ?_, fun hne => ?_⟩⟩
 ·refine any_yes (n := i) (by omega) hk (fun f j => m_arena_Check_l2 (i : Int) l slots s self f j) (fun f j hj => ?_) (fun f => ?_)
  ·obtain ⟨b, hb, e⟩ := rdL self f j (by omega)
   rw [e]; cases b
   ·left; rw [if_neg (by simp)]
   ·right; rw [if_pos rfl]
  ·obtain ⟨b, hb, e⟩ := rdL self f k hk
   rw [e, if_pos (hb.2 ⟨z, t, h1, h2, h3⟩)]
 ·refine any_no (n := i) (by omega) (fun f j => m_arena_Check_l2 (i : Int) l slots s self f j) (fun f j hj => ?_) (fun f => ?_)
  ·obtain ⟨b, hb, e⟩ := rdL self f j hj
   rw [e, if_neg (fun h => by obtain ⟨z, t, h1⟩ := hb.1 h; exact hne ⟨j, z, t, hj, h1⟩)]
  ·simp only [m_arena_Check_l2]; rw [if_neg (by simp), m_arena_Check_j1]
 ·refine any_yes (n := i) (by omega) hk (fun f j => m_ref42_Check_l2 (i : Int) l slots s self f j) (fun f j hj => ?_) (fun f => ?_)
  ·obtain ⟨b, hb, e⟩ := rdR self f j (by omega)
   rw [e]; cases b
   ·left; rw [if_neg (by simp)]
   ·right; rw [if_pos rfl]
  ·obtain ⟨b, hb, e⟩ := rdR self f k hk
   rw [e, if_pos (hb.2 ⟨z, t, h1, h2, h3⟩)]
 ·refine any_no (n := i) (by omega) (fun f j => m_ref42_Check_l2 (i : Int) l slots s self f j) (fun f j hj => ?_) (fun f => ?_)
  ·obtain ⟨b, hb, e⟩ := rdR self f j hj
   rw [e, if_neg (fun h => by obtain ⟨z, t, h1⟩ := hb.1 h; exact hne ⟨j, z, t, hj, h1⟩)]
  ·simp only [m_ref42_Check_l2]; rw [if_neg (by simp), m_ref42_Check_j1]
theorem check_same (l : List GLifetime) (slots : List GSlot) (size : Int) (hl : l.length ≤ 60) (hn : ∀ x ∈ l, x.Name.length < 4611686018427387904) :
  ∃ r, m_arena_Check l slots size = some r ∧ m_ref42_Check l slots size = some r := by
 obtain ⟨v, _, v1, v2⟩ := validate l (by omega) hn
 unfold m_arena_Check m_ref42_Check
 rw [v1, v2, Option.bind_some, Option.bind_some]
 by_cases hv : v = 0
 rotate_left
 ·have c : (!decide (v = 0)) = true := by simpa using hv
  exact ⟨_, if_pos c, if_pos c⟩
 have c : ¬ (!decide (v = 0)) = true := by simpa using hv
 by_cases hs : l.length = slots.length
 rotate_left
 ·have d : (!decide ((l.length : Int) = (slots.length : Int))) = true := by simp; omega
  exact ⟨_, (if_neg c).trans (if_pos d), (if_neg c).trans (if_pos d)⟩
 have d : ¬ (!decide ((l.length : Int) = (slots.length : Int))) = true := by simp; omega
 obtain ⟨r, _, h1, h2⟩ := loop_sim (L := fun f (_ : Unit) i => m_arena_Check_l1 slots l size f i) (M := fun f (_ : Unit) i => m_ref42_Check_l1 l slots size f i) (n := l.length) (by omega)
  (fun i _ _ => ∀ (k : Nat) (z : GLifetime) (t : GSlot), k < i → l[k]? = some z → slots[k]? = some t → t.Len = z.Size) (fun _ => True)
  (by
   rintro i ⟨⟩ ⟨⟩ hi hI
   obtain ⟨x, hx⟩ := at_some hi
   obtain ⟨s, hsi⟩ := at_some (l := slots) (i := i) (by omega)
   have eL : ∀ f, m_arena_Check_l1 slots l size (f + 1) (i : Int) = if ((!decide (s.Name = x.Name)) || (!decide (s.Len = x.Size))) = true then some ((i : Int), 1) else if (((decide (s.At < 0)) || (decide (size < s.Len))) || (decide (wi64 (size - s.Len) < s.At))) = true then some ((i : Int), 22) else m_arena_Check_l2 (i : Int) l slots s (m_arena_Check_l1 slots l size f) fu 0 := fun f => by
    simp only [m_arena_Check_l1]
    rw [if_pos (by simp; omega), lat_at hsi, Option.bind_some, lat_at hx, Option.bind_some]
    cases decide (s.Name = x.Name)
    ·simp [gd]
    ·simp only [gd, Bool.not_true, Bool.not_false, if_true, Option.bind_some]
     congr 2
     rw [Bool.or_assoc, Bool.or_comm (decide (wi64 (size - s.Len) < s.At)), ← Bool.or_assoc]
   have eR : ∀ f, m_ref42_Check_l1 l slots size (f + 1) (i : Int) = if ((!decide (s.Name = x.Name)) || (!decide (s.Len = x.Size))) = true then some ((i : Int), 1) else if (((decide (s.At < 0)) || (decide (size < s.Len))) || (decide (wi64 (size - s.Len) < s.At))) = true then some ((i : Int), 22) else m_ref42_Check_l2 (i : Int) l slots s (m_ref42_Check_l1 l slots size f) fu 0 := fun f => by
    simp only [m_ref42_Check_l1]
    rw [if_pos (lt_dec hi), lat_at hsi, Option.bind_some, lat_at hx, Option.bind_some]
    cases decide (s.Name = x.Name)
    ·simp [gd]
    ·simp only [gd, Bool.not_true, Bool.not_false, if_true, Option.bind_some]
   by_cases c1 : ((!decide (s.Name = x.Name)) || (!decide (s.Len = x.Size))) = true
   ·right; exact ⟨((i : Int), 1), trivial, fun f => by rw [eL, if_pos c1], fun f => by rw [eR, if_pos c1]⟩
   by_cases c2 : (((decide (s.At < 0)) || (decide (size < s.Len))) || (decide (wi64 (size - s.Len) < s.At))) = true
   ·right; exact ⟨((i : Int), 22), trivial, fun f => by rw [eL, if_neg c1, if_pos c2], fun f => by rw [eR, if_neg c1, if_pos c2]⟩
   have hsl : s.Len = x.Size := by simp at c1; exact c1.2
   obtain ⟨iL, iR⟩ := check_in l slots (by omega) hs.symm i hi x s hx hsl hI
   by_cases c3 : early l slots i x s
   ·right; exact ⟨((i : Int), 21), trivial, fun f => by rw [eL, if_neg c1, if_neg c2]; exact (iL _).1 c3, fun f => by rw [eR, if_neg c1, if_neg c2]; exact (iR _).1 c3⟩
   ·left; refine ⟨(), (), ?_, fun f => by rw [eL, if_neg c1, if_neg c2, (iL _).2 c3, wis (by omega)], fun f => by rw [eR, if_neg c1, if_neg c2, (iR _).2 c3, wis (by omega)]⟩
    intro k z t hk h1 h2
    by_cases hki : k = i
    ·rw [hki] at h1 h2; rw [hx] at h1; rw [hsi] at h2; injection h1 with h1; injection h2 with h2; subst h1; subst h2; exact hsl
    ·exact hI k z t (by omega) h1 h2)
  (by
   rintro ⟨⟩ ⟨⟩ _
   refine ⟨(0, 0), trivial, fun f => ?_, fun f => ?_⟩
   ·simp only [m_arena_Check_l1]; rw [if_neg (by simp; omega)]
   ·simp only [m_ref42_Check_l1]; rw [if_neg (by simp)]) () () (fun k z t hk => by omega)
 exact ⟨r, (if_neg c).trans ((if_neg d).trans h1), (if_neg c).trans ((if_neg d).trans h2)⟩
end Go.Proofs.YtnehbaocbcegpaaDoor
