import Derived.Test.YtnehbaocbcegpaaDoorSVe
import Derived.Test.YtnehbaocbcegpaaDoorSVui
import Derived.Test.YtnehbaocbcegpaaDoorSVus
namespace Go.Proofs.YtnehbaocbcegpaaDoor
open Go Go.RowKit Go.Vc
set_option linter.unusedVariables false
set_option linter.unusedSimpArgs false
def Ov (a b : GLifetime) : Prop := a.From ≤ b.To ∧ b.From ≤ a.To
instance (a b : GLifetime) : Decidable (Ov a b) := by unfold Ov; infer_instance
theorem Ov.symm {a b : GLifetime} (h : Ov a b) : Ov b a := ⟨h.2, h.1⟩
def Cl (a b : GLifetime) (x y : Int) : Prop := Ov a b ∧ x < y + b.Size ∧ y < x + a.Size
instance (a b : GLifetime) (x y : Int) : Decidable (Cl a b x y) := by unfold Cl; infer_instance
theorem Cl.symm {a b : GLifetime} {x y : Int} (h : Cl a b x y) : Cl b a y x := ⟨h.1.symm, h.2.2, h.2.1⟩
theorem overlap_ok (a b : GLifetime) : m_liveness_Overlap a b = some (decide (Ov a b)) := by unfold m_liveness_Overlap; refine congrArg some ?_; rw [Bool.eq_iff_iff, Bool.and_eq_true, decide_eq_true_iff, decide_eq_true_iff, decide_eq_true_iff]; rfl
theorem clash_ok (a b : GLifetime) (x y : Int) (ha : okLt a) (hb : okLt b) (hx : 0 ≤ x ∧ x ≤ 1000000) (hy : 0 ≤ y ∧ y ≤ 1000000) : m_ref42_clash a b x y = some (decide (Cl a b x y)) := by
 obtain ⟨_, _, a1, a2⟩ := ha; obtain ⟨_, _, b1, b2⟩ := hb
 unfold m_ref42_clash m_ref41_Overlap Cl
 rw [wi (p := y + b.Size) ⟨by omega, by omega⟩, wi (p := x + a.Size) ⟨by omega, by omega⟩, decide_eq_true (p := 0 < a.Size) (by omega), decide_eq_true (p := 0 < b.Size) (by omega)]
 refine congrArg some ?_
 rw [Bool.eq_iff_iff]; simp [Ov, and_assoc]
structure Rel (l : List GLifetime) (slots : List GSlot) (at_ : List Int) (B : Int) : Prop where
 ls : slots.length = l.length
 la : at_.length = l.length
 cell : ∀ (i : Nat) (x : GLifetime) (s : GSlot) (y : Int), l[i]? = some x → slots[i]? = some s → at_[i]? = some y →
  (y = -1 ∧ s.Len = 0) ∨ (0 ≤ y ∧ y + x.Size ≤ B ∧ s = ⟨x.Name, y, x.Size⟩)
def Free (l : List GLifetime) (at_ : List Int) (a : GLifetime) (x : Int) : Prop := ∀ (j : Nat) (z : GLifetime) (y : Int), l[j]? = some z → at_[j]? = some y → 0 ≤ y → ¬ Cl a z x y
structure Least (l : List GLifetime) (at_ : List Int) (a : GLifetime) (x : Int) : Prop where
 nn : 0 ≤ x
 fr : Free l at_ a x
 le : ∀ y, 0 ≤ y → y < x → ¬ Free l at_ a y
 cand : x = 0 ∨ ∃ (i : Nat) (z : GLifetime) (y : Int), l[i]? = some z ∧ at_[i]? = some y ∧ 0 ≤ y ∧ x = y + z.Size
def Way (a : GLifetime) (s : GSlot) (x : Int) : Prop := x < s.At + s.Len ∧ s.At < x + a.Size
theorem fit_l1 (l : List GLifetime) (k : Nat) (a : GLifetime) (ha : l[k]? = some a) (hok : okLt a) (r : List GSlot) (hr : r.length < 4611686018427387904)
  (hb : ∀ s ∈ r, 0 ≤ s.At ∧ 0 < s.Len ∧ s.At + s.Len ≤ 1000000) (hs : r.Pairwise (fun s t => s.At ≤ t.At)) :
  ∃ x, m_arena_fit_l1 r l (k : Int) fu 0 0 = some x ∧ 0 ≤ x ∧ (∀ s ∈ r, ¬ Way a s x) ∧ (∀ y, 0 ≤ y → y < x → ∃ s ∈ r, Way a s y) ∧ (x = 0 ∨ ∃ s ∈ r, x = s.At + s.Len) := by
 obtain ⟨_, _, a1, a2⟩ := hok
 refine loop_fu (L := fun f (x : Int) i => m_arena_fit_l1 r l (k : Int) f x i) (n := r.length) hr
  (fun i x => 0 ≤ x ∧ (∀ s ∈ r.take i, s.At + s.Len ≤ x) ∧ (∀ y, 0 ≤ y → y < x → ∃ s ∈ r, Way a s y) ∧ (x = 0 ∨ ∃ s ∈ r, x = s.At + s.Len)) _ ?_ ?_ 0 ⟨by omega, by simp, fun y h1 h2 => by omega, .inl rfl⟩
 ·intro f i x hi ⟨h0, h1, h2, h3⟩
  obtain ⟨s, hsi⟩ := at_some hi
  have hsm := List.mem_of_getElem? hsi
  obtain ⟨s1, s2, s3⟩ := hb s hsm
  have hx : x ≤ 1000000 := by
   rcases h3 with h3 | ⟨t, ht, h3⟩
   ·omega
   ·have := hb t ht; omega
  simp only [m_arena_fit_l1]
  rw [if_pos (lt_dec hi), lat_at hsi, Option.bind_some, lat_at ha, Option.bind_some, wi (p := x + a.Size) ⟨by omega, by omega⟩, wi (p := s.At + s.Len) ⟨by omega, by omega⟩]
  by_cases hc : x + a.Size ≤ s.At
  ·right; refine ⟨x, by rw [if_pos (by simpa using hc)], h0, ?_, h2, h3⟩
   intro t ht ⟨w1, w2⟩
   obtain ⟨j, hj⟩ := List.mem_iff_getElem?.1 ht
   by_cases hji : j < i
   ·have := h1 t (List.mem_of_getElem? (i := j) (by rw [List.getElem?_take, if_pos hji]; exact hj)); omega
   ·rcases Nat.lt_or_eq_of_le (Nat.le_of_not_lt hji) with h | h
    ·obtain ⟨q1, rfl⟩ := List.getElem?_eq_some_iff.1 hsi
     obtain ⟨q2, rfl⟩ := List.getElem?_eq_some_iff.1 hj
     have := List.pairwise_iff_getElem.1 hs i j q1 q2 h; omega
    ·subst h; rw [hsi] at hj; injection hj with hj; subst hj; omega
  ·left; refine ⟨max x (s.At + s.Len), ⟨by omega, ?_, ?_, ?_⟩, by rw [if_neg (by simpa using hc), Option.bind_some, wis (by omega)]⟩
   ·rw [take_succ' hsi]; intro t ht
    rcases List.mem_append.1 ht with ht | ht
    ·have := h1 t ht; omega
    ·rw [List.mem_singleton.1 ht]; omega
   ·intro y y0 y1
    by_cases hy : y < x
    ·exact h2 y y0 hy
    ·exact ⟨s, hsm, by omega, by omega⟩
   ·by_cases hm : x ≤ s.At + s.Len
    ·right; exact ⟨s, hsm, by omega⟩
    ·rw [show max x (s.At + s.Len) = x by omega]; exact h3
 ·intro f x ⟨h0, h1, h2, h3⟩
  rw [List.take_length] at h1
  refine ⟨x, ?_, h0, fun s hs ⟨w1, _⟩ => by have := h1 s hs; omega, h2, h3⟩
  simp only [m_arena_fit_l1]; rw [if_neg (by simp)]
theorem slotLt : SW (fun (a b : GSlot) => a.At < b.At) := ⟨fun x => Int.lt_irrefl _, fun x y h => by omega, fun x y z h1 h2 => by omega⟩
theorem loop_k {σ R : Type} {L : Nat → σ → Int → Option R} {n : Nat} (hn : n < 4611686018427387904) (K : σ → Option R) (I : Nat → σ → Prop)
  (rd : ∀ f i s, i < n → I i s → ∃ s', I (i + 1) s' ∧ L (f + 1) s (i : Int) = L f s' ((i + 1 : Nat) : Int))
  (fin : ∀ f s, I n s → L (f + 1) s (n : Int) = K s) (s : σ) (h0 : I 0 s) : ∃ s', I n s' ∧ L fu s 0 = K s' := by
 have key : ∀ (k f i : Nat) (s : σ), i + k = n → k < f → I i s → ∃ s', I n s' ∧ L f s (i : Int) = K s' := by
  intro k
  induction k with
  | zero =>
   intro f i s h hf hI
   obtain ⟨f, rfl⟩ : ∃ g, f = g + 1 := ⟨f - 1, by omega⟩
   obtain rfl : i = n := by omega
   exact ⟨s, hI, fin f s hI⟩
  | succ k ih =>
   intro f i s h hf hI
   obtain ⟨f, rfl⟩ : ∃ g, f = g + 1 := ⟨f - 1, by omega⟩
   obtain ⟨s', h1, h2⟩ := rd f i s (by omega) hI
   rw [h2]; exact ih f (i + 1) s' (by omega) (by omega) h1
 exact key n fu 0 s (by omega) (by unfold fu; omega) h0
theorem fit_prog (l : List GLifetime) (slots : List GSlot) (at_ : List Int) (hR : Rel l slots at_ 1000000) (hl : l.length ≤ 1000) (hok : ∀ x ∈ l, okLt x) (k : Nat) (a : GLifetime) (ha : l[k]? = some a) (hk : at_[k]? = some (-1)) :
  ∃ x, m_arena_fit l slots (k : Int) = some x ∧ Least l at_ a x := by
 have hao := hok a (List.mem_of_getElem? ha)
 have hls := hR.ls
 have hla := hR.la
 obtain ⟨busy, ⟨e2, e3⟩, e1⟩ := loop_k (L := fun f (b : List GSlot) i => m_arena_fit_l2 slots (k : Int) l f b i) (n := slots.length) (by omega) (fun b => m_arena_fit_j1 l (k : Int) b)
  (fun i b => b.length ≤ i ∧ ∀ s, s ∈ b ↔ ∃ (j : Nat) (z : GLifetime) (y : Int), j < i ∧ l[j]? = some z ∧ at_[j]? = some y ∧ 0 ≤ y ∧ Ov z a ∧ slots[j]? = some s)
  (fun f i b hi ⟨h1, h2⟩ => by
   obtain ⟨s, hs⟩ := at_some hi
   obtain ⟨z, hz⟩ := at_some (l := l) (i := i) (by omega)
   obtain ⟨y, hy⟩ := at_some (l := at_) (i := i) (by omega)
   simp only [m_arena_fit_l2]
   rw [if_pos (lt_dec hi), lat_at hs, Option.bind_some, lat_at hz, lat_at ha]
   by_cases hc : 0 ≤ y ∧ Ov z a
   ·obtain ⟨c1, c2⟩ := hc
    obtain ⟨d1, d2, d3⟩ : 0 ≤ y ∧ y + z.Size ≤ 1000000 ∧ s = ⟨z.Name, y, z.Size⟩ := by
     rcases hR.cell i z s y hz hs hy with h | h
     ·omega
     ·exact h
    have d4 := (hok z (List.mem_of_getElem? hz)).2.2.1
    have hne : i ≠ k := by rintro rfl; rw [hk] at hy; injection hy with hy; omega
    refine ⟨b ++ [s], ⟨by simp; omega, fun t => ?_⟩, ?_⟩
    ·rw [List.mem_append, h2, List.mem_singleton]
     constructor
     ·rintro (⟨j, z', y', q1, q2⟩ | rfl)
      ·exact ⟨j, z', y', by omega, q2⟩
      ·exact ⟨i, z, y, by omega, hz, hy, c1, c2, hs⟩
     ·rintro ⟨j, z', y', q1, q2, q3, q4, q5, q6⟩
      by_cases hj : j = i
      ·subst hj; rw [hs] at q6; injection q6 with q6; exact .inr q6.symm
      ·exact .inl ⟨j, z', y', by omega, q2, q3, q4, q5, q6⟩
    ·rw [show decide (0 < s.Len) = true by rw [d3]; simpa using (show 0 < z.Size by omega), show decide ((i : Int) = (k : Int)) = false by rw [decide_eq_false_iff_not]; omega]
     simp only [gd, Bool.not_false, Bool.and_true, if_true, Option.bind_some, overlap_ok, decide_eq_true c2]
     rw [lapp_ok (by simp; omega), Option.bind_some, m_arena_fit_j2, wis (by omega)]
   ·refine ⟨b, ⟨by omega, fun t => ?_⟩, ?_⟩
    ·rw [h2]
     constructor
     ·rintro ⟨j, z', y', q1, q2⟩; exact ⟨j, z', y', by omega, q2⟩
     ·rintro ⟨j, z', y', q1, q2, q3, q4, q5, q6⟩
      by_cases hj : j = i
      ·subst hj; rw [hz] at q2; rw [hy] at q3; injection q2 with q2; injection q3 with q3; subst q2; subst q3; exact absurd ⟨q4, q5⟩ hc
      ·exact ⟨j, z', y', by omega, q2, q3, q4, q5, q6⟩
    ·rcases hR.cell i z s y hz hs hy with ⟨d1, d2⟩ | ⟨d1, d2, d3⟩
     ·rw [d2]; simp [gd, m_arena_fit_j2, wis (i := i) (by omega)]
     ·have c2 : ¬ Ov z a := fun h => hc ⟨d1, h⟩
      by_cases h5 : ((decide (0 < s.Len)) && (!decide ((i : Int) = (k : Int)))) = true
      ·rw [h5]; simp only [gd, if_true, Option.bind_some, overlap_ok, decide_eq_false c2, Bool.and_false]
       rw [if_neg (by simp), m_arena_fit_j2, wis (by omega)]
      ·rw [Bool.not_eq_true] at h5; rw [h5]; simp only [gd, Bool.false_and]
       simp [m_arena_fit_j2, wis (i := i) (by omega)])
  (fun f b _ => by simp only [m_arena_fit_l2]; rw [if_neg (by simp)]) [] ⟨by simp, by simp⟩
 have e1' : m_arena_fit l slots (k : Int) = m_arena_fit_j1 l (k : Int) busy := e1
 have hb : ∀ s ∈ busy, 0 ≤ s.At ∧ 0 < s.Len ∧ s.At + s.Len ≤ 1000000 := by
  intro s hs
  obtain ⟨j, z, y, q1, q2, q3, q4, q5, q6⟩ := (e3 s).1 hs
  have := (hok z (List.mem_of_getElem? q2)).2.2.1
  rcases hR.cell j z s y q2 q6 q3 with ⟨d1, d2⟩ | ⟨d1, d2, d3⟩
  ·omega
  ·rw [d3]; exact ⟨d1, by simpa using (show 0 < z.Size by omega), d2⟩
 obtain ⟨d', p1, p2, p3⟩ := Soapi_Slot.sorted_ok slotLt (cmp := m_arena_fit_1) busy (by omega) (by
  rw [List.pairwise_iff_forall_sublist]
  intro u v huv
  have m1 := hb u (huv.subset (by simp))
  have m2 := hb v (huv.subset (by simp))
  exact ⟨v.At - u.At, by unfold m_arena_fit_1; rw [wi ⟨by omega, by omega⟩], by show v.At - u.At < 0 ↔ v.At < u.At; omega⟩)
 have hp := p1.length_eq
 obtain ⟨x, f1, f2, f3, f4, f5⟩ := fit_l1 l k a ha hao d' (by omega) (fun s hs => hb s (p1.mem_iff.1 hs)) (p2.imp (fun h => by show _ ≤ _; omega))
 refine ⟨x, by rw [e1', m_arena_fit_j1, p3, Option.bind_some]; exact f1, f2, ?_, ?_, ?_⟩
 ·intro j z y hz hy y0 ⟨c1, c2, c3⟩
  obtain ⟨s, hs⟩ := at_some (l := slots) (i := j) (by have := (List.getElem?_eq_some_iff.1 hz).1; omega)
  have hm : s ∈ d' := p1.mem_iff.2 ((e3 s).2 ⟨j, z, y, (List.getElem?_eq_some_iff.1 hs).1, hz, hy, y0, c1.symm, hs⟩)
  rcases hR.cell j z s y hz hs hy with ⟨d1, d2⟩ | ⟨d1, d2, d3⟩
  ·omega
  ·refine f3 s hm ?_; rw [d3]; exact ⟨c2, c3⟩
 ·intro y y0 y1 hF
  obtain ⟨s, hs, w1, w2⟩ := f4 y y0 y1
  obtain ⟨j, z, u, q1, q2, q3, q4, q5, q6⟩ := (e3 s).1 (p1.mem_iff.1 hs)
  rcases hR.cell j z s u q2 q6 q3 with ⟨d1, d2⟩ | ⟨d1, d2, d3⟩
  ·omega
  ·rw [d3] at w1 w2; exact hF j z u q2 q3 q4 ⟨q5.symm, w1, w2⟩
 ·rcases f5 with h | ⟨s, hs, h⟩
  ·exact .inl h
  ·obtain ⟨j, z, u, q1, q2, q3, q4, q5, q6⟩ := (e3 s).1 (p1.mem_iff.1 hs)
   rcases hR.cell j z s u q2 q6 q3 with ⟨d1, d2⟩ | ⟨d1, d2, d3⟩
   ·omega
   ·right; exact ⟨j, z, u, q2, q3, q4, by rw [h, d3]⟩
theorem place_ref (l : List GLifetime) (slots : List GSlot) (at_ : List Int) (hR : Rel l slots at_ 1000000) (hl : l.length ≤ 1000) (hok : ∀ x ∈ l, okLt x) (k : Nat) (a : GLifetime) (ha : l[k]? = some a) (x : Int) (hx : Least l at_ a x) (hxB : x ≤ 1000000) :
  m_ref42_place l at_ (k : Int) = some (x, true) := by
 have hao := hok a (List.mem_of_getElem? ha)
 have hls := hR.ls
 have hla := hR.la
 obtain ⟨_, _, a1, a2⟩ := hao
 have inner : ∀ (self : Int → Bool → Int → Option (Int × Bool)) (i : Int) (best : Int) (found : Bool) (c : Int), 0 ≤ c → c ≤ 1000000 →
   ∃ fr, (fr = true ↔ Free l at_ a c) ∧ m_ref42_place_l2 l at_ (k : Int) c self i best found fu true 0 = m_ref42_place_j3 self i c best found fr := by
  intro self i best found c c0 c1
  obtain ⟨fr, h1, h2⟩ := loop_k (L := fun f (b : Bool) j => m_ref42_place_l2 l at_ (k : Int) c self i best found f b j) (n := l.length) (by omega) (fun b => m_ref42_place_j3 self i c best found b)
   (fun i b => b = true ↔ ∀ (j : Nat) (z : GLifetime) (y : Int), j < i → l[j]? = some z → at_[j]? = some y → 0 ≤ y → ¬ Cl a z c y)
   (fun f i b hi h1 => by
    obtain ⟨z, hz⟩ := at_some hi
    obtain ⟨y, hy⟩ := at_some (l := at_) (i := i) (by omega)
    obtain ⟨s, hs⟩ := at_some (l := slots) (i := i) (by omega)
    refine ⟨b && (decide (y < 0) || !decide (Cl a z c y)), ?_, ?_⟩
    ·rw [Bool.and_eq_true, h1]
     constructor
     ·rintro ⟨q1, q2⟩ j z' y' hj hz' hy' y0
      by_cases hji : j = i
      ·subst hji; rw [hz] at hz'; rw [hy] at hy'; injection hz' with hz'; injection hy' with hy'; subst hz'; subst hy'
       rw [decide_eq_false (by omega)] at q2; simpa using q2
      ·exact q1 j z' y' (by omega) hz' hy' y0
     ·intro q
      refine ⟨fun j z' y' hj => q j z' y' (by omega), ?_⟩
      by_cases y0 : y < 0
      ·rw [decide_eq_true y0]; rfl
      ·rw [decide_eq_false (q i z y (by omega) hz hy (by omega))]; simp
    ·simp only [m_ref42_place_l2]
     rw [if_pos (lt_dec hi), lat_at hz, lat_at hy, lat_at ha, wis (by omega)]
     cases b with
     | false => simp [gd]
     | true =>
      by_cases y0 : y < 0
      ·simp only [gd, if_true, Option.bind_some, Bool.true_and]
       rw [decide_eq_true y0]; simp
      ·have y1 : y ≤ 1000000 := by
        rcases hR.cell i z s y hz hs hy with h | h
        ·omega
        ·have := (hok z (List.mem_of_getElem? hz)).2.2.1; omega
       simp only [gd, if_true, Option.bind_some, Bool.true_and]
       rw [decide_eq_false y0]
       simp only [Bool.not_false, if_true, Option.bind_some, Bool.false_or]
       rw [clash_ok a z c y (hok a (List.mem_of_getElem? ha)) (hok z (List.mem_of_getElem? hz)) ⟨c0, c1⟩ ⟨by omega, y1⟩, Option.bind_some])
   (fun f b _ => by simp only [m_ref42_place_l2]; rw [if_neg (by simp)]) true (by simp)
  exact ⟨fr, h1.trans ⟨fun h j z y hz => h j z y (List.getElem?_eq_some_iff.1 hz).1 hz, fun h j z y _ => h j z y⟩, h2⟩
 have step : ∀ (self : Int → Bool → Int → Option (Int × Bool)) (i : Int) (best : Int) (found : Bool) (c : Int) (seen : Prop), 0 ≤ c → c ≤ 1000000 →
   (found = true → 0 ≤ best ∧ Free l at_ a best) ∧ (seen → found = true ∧ best = x) →
   ∃ (b' : Int) (f' : Bool), ((f' = true → 0 ≤ b' ∧ Free l at_ a b') ∧ (seen ∨ c = x → f' = true ∧ b' = x)) ∧ m_ref42_place_j2 l (k : Int) found best self i at_ c = self b' f' (wi64 (i + 1)) := by
  intro self i best found c seen c0 c1 ⟨h1, h2⟩
  unfold m_ref42_place_j2
  rw [lat_at ha, Option.bind_some, wi (p := 2147483647 - a.Size) ⟨by omega, by omega⟩, decide_eq_false (p := 2147483647 - a.Size < c) (by omega), Bool.false_or]
  have low : ∀ y, 0 ≤ y → Free l at_ a y → x ≤ y := fun y y0 hF => by
   rcases Int.lt_or_le y x with h | h
   ·exact absurd hF (hx.le y y0 h)
   ·exact h
  by_cases hc : (found && decide (best ≤ c)) = true
  ·rw [if_pos hc, m_ref42_place_j1]
   rw [Bool.and_eq_true, decide_eq_true_iff] at hc
   refine ⟨best, found, ⟨h1, ?_⟩, rfl⟩
   rintro (h | h)
   ·exact h2 h
   ·exact ⟨hc.1, Int.le_antisymm (h ▸ hc.2) (low _ (h1 hc.1).1 (h1 hc.1).2)⟩
  ·rw [if_neg hc]
   obtain ⟨fr, g1, g2⟩ := inner self i best found c c0 c1
   rw [g2, m_ref42_place_j3]
   by_cases hf : fr = true
   ·rw [if_pos hf, m_ref42_place_j1]
    refine ⟨c, true, ⟨fun _ => ⟨c0, g1.1 hf⟩, ?_⟩, rfl⟩
    rintro (h | h)
    ·obtain ⟨q1, q2⟩ := h2 h
     rw [q1, q2] at hc
     have := low c c0 (g1.1 hf)
     simp at hc; omega
    ·exact ⟨rfl, h⟩
   ·rw [if_neg hf, m_ref42_place_j1]
    refine ⟨best, found, ⟨h1, ?_⟩, rfl⟩
    rintro (h | h)
    ·exact h2 h
    ·exact absurd (g1.2 (h ▸ hx.fr)) hf
 unfold m_ref42_place
 obtain ⟨f, hf⟩ : ∃ f, fu = f + 1 := ⟨18446744073709551615, rfl⟩
 have hkl := (List.getElem?_eq_some_iff.1 ha).1
 rw [hf]
 simp only [m_ref42_place_l1]
 rw [if_pos (by simp; omega), show decide ((0 : Int) ≤ -1) = false from rfl]
 simp only [gd, Bool.false_and, Bool.false_eq_true, if_false, Option.bind_some]
 obtain ⟨b0, f0, i0, e0⟩ := step (m_ref42_place_l1 l at_ (k : Int) f) (-1) 0 false 0 False (by omega) (by omega) ⟨by simp, by simp⟩
 rw [e0, show wi64 (-1 + 1) = ((0 : Nat) : Int) from rfl]
 obtain ⟨r, hr, hq⟩ := loop_ok (L := fun f (s : Int × Bool) i => m_ref42_place_l1 l at_ (k : Int) f s.1 s.2 i) (n := l.length)
  (fun i s => (s.2 = true → 0 ≤ s.1 ∧ Free l at_ a s.1) ∧ ((x = 0 ∨ ∃ (j : Nat) (z : GLifetime) (y : Int), j < i ∧ l[j]? = some z ∧ at_[j]? = some y ∧ 0 ≤ y ∧ x = y + z.Size) → s.2 = true ∧ s.1 = x)) (fun r => r = (x, true))
  (fun f i s hi hI => by
   obtain ⟨z, hz⟩ := at_some hi
   obtain ⟨y, hy⟩ := at_some (l := at_) (i := i) (by omega)
   obtain ⟨sl, hs⟩ := at_some (l := slots) (i := i) (by omega)
   left
   simp only [m_ref42_place_l1]
   rw [if_pos (lt_dec hi), lat_at hz, lat_at hy, show decide (0 ≤ (i : Int)) = true by simp]
   simp only [gd, if_true, Option.bind_some, Bool.true_and]
   by_cases y0 : y < 0
   ·rw [if_pos (by simpa using y0), m_ref42_place_j1, wis (by omega)]
    refine ⟨s, ⟨hI.1, ?_⟩, rfl⟩
    rintro (h | ⟨j, z', y', q1, q2, q3, q4, q5⟩)
    ·exact hI.2 (.inl h)
    ·by_cases hji : j = i
     ·subst hji; rw [hy] at q3; injection q3 with q3; omega
     ·exact hI.2 (.inr ⟨j, z', y', by omega, q2, q3, q4, q5⟩)
   ·have y1 : y + z.Size ≤ 1000000 := by
     rcases hR.cell i z sl y hz hs hy with h | h
     ·omega
     ·omega
    have z1 := (hok z (List.mem_of_getElem? hz)).2.2.1
    rw [if_neg (by simpa using y0), wi (p := y + z.Size) ⟨by omega, by omega⟩]
    obtain ⟨b', f', i', e'⟩ := step (m_ref42_place_l1 l at_ (k : Int) f) (i : Int) s.1 s.2 (y + z.Size) _ (by omega) (by omega) hI
    refine ⟨(b', f'), ⟨i'.1, ?_⟩, by rw [e', wis (by omega)]⟩
    rintro (h | ⟨j, z', y', q1, q2, q3, q4, q5⟩)
    ·exact i'.2 (.inl (.inl h))
    ·by_cases hji : j = i
     ·subst hji; rw [hy] at q3; injection q3 with q3; rw [hz] at q2; injection q2 with q2; subst q2; subst q3
      exact i'.2 (.inr q5.symm)
     ·exact i'.2 (.inl (.inr ⟨j, z', y', by omega, q2, q3, q4, q5⟩)))
  (fun f s hI => by
   simp only [m_ref42_place_l1]
   rw [if_neg (by simp)]
   refine ⟨_, rfl, ?_⟩
   obtain ⟨q1, q2⟩ := hI.2 (hx.cand.imp id fun ⟨j, z, y, h1, h2⟩ => ⟨j, z, y, (List.getElem?_eq_some_iff.1 h1).1, h1, h2⟩)
   rw [← q1, ← q2]) l.length f 0 (b0, f0) (by omega) (by unfold fu at hf; omega) ⟨i0.1, by
   rintro (h | ⟨j, z', y', q1, _⟩)
   ·exact i0.2 (.inr h.symm)
   ·omega⟩
 rw [hr, hq]
end Go.Proofs.YtnehbaocbcegpaaDoor
