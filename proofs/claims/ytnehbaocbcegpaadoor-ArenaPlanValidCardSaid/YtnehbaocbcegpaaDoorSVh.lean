import Derived.Test.YtnehbaocbcegpaaDoorSVg
namespace Go.Proofs.YtnehbaocbcegpaaDoor
open Go Go.RowKit Go.Vc
set_option linter.unusedVariables false
set_option linter.unusedSimpArgs false
def cB (a b : GLifetime) (x y : Int) : Bool := (((((decide (a.From ≤ b.To)) && (decide (b.From ≤ a.To))) && (decide (0 < a.Size))) && (decide (0 < b.Size))) && (decide (x < wi64 (y + b.Size)))) && (decide (y < wi64 (x + a.Size)))
theorem clash_cB (a b : GLifetime) (x y : Int) : m_ref42_clash a b x y = some (cB a b x y) := rfl
theorem meet_cB (a b : GLifetime) (s t : GSlot) (hs : s.Len = a.Size) (ht : t.Len = b.Size) : ∃ r, m_arena_meet s t = some r ∧ (decide (Ov a b) && r) = cB b a t.At s.At := by
 refine ⟨_, rfl, ?_⟩
 rw [hs, ht]
 unfold cB
 rw [show decide (Ov a b) = (decide (b.From ≤ a.To) && decide (a.From ≤ b.To)) by rw [Bool.eq_iff_iff, Bool.and_eq_true, decide_eq_true_iff, decide_eq_true_iff, decide_eq_true_iff]; exact and_comm]
 rw [Bool.eq_iff_iff]; simp only [Bool.and_eq_true]
 constructor
 ·rintro ⟨⟨h1, h2⟩, ⟨⟨h3, h4⟩, h5⟩, h6⟩; exact ⟨⟨⟨⟨⟨h1, h2⟩, h4⟩, h3⟩, h6⟩, h5⟩
 ·rintro ⟨⟨⟨⟨⟨h1, h2⟩, h4⟩, h3⟩, h6⟩, h5⟩; exact ⟨⟨h1, h2⟩, ⟨⟨h3, h4⟩, h5⟩, h6⟩
def early (l : List GLifetime) (slots : List GSlot) (i : Nat) (x : GLifetime) (s : GSlot) : Prop := ∃ (k : Nat) (z : GLifetime) (t : GSlot), k < i ∧ l[k]? = some z ∧ slots[k]? = some t ∧ cB x z s.At t.At = true
theorem check_in (l : List GLifetime) (slots : List GSlot) (hl : l.length ≤ 1000) (hs : slots.length = l.length) (i : Nat) (hi : i < l.length) (x : GLifetime) (s : GSlot) (hx : l[i]? = some x) (hsl : s.Len = x.Size)
  (hlen : ∀ (k : Nat) (z : GLifetime) (t : GSlot), k < i → l[k]? = some z → slots[k]? = some t → t.Len = z.Size) :
  (∀ self : Int → Option (Int × Int), (early l slots i x s → m_arena_Check_l2 (i : Int) l slots s self fu 0 = some ((i : Int), 21)) ∧ (¬ early l slots i x s → m_arena_Check_l2 (i : Int) l slots s self fu 0 = self (wi64 ((i : Int) + 1)))) ∧
  (∀ self : Int → Option (Int × Int), (early l slots i x s → m_ref42_Check_l2 (i : Int) l slots s self fu 0 = some ((i : Int), 21)) ∧ (¬ early l slots i x s → m_ref42_Check_l2 (i : Int) l slots s self fu 0 = self (wi64 ((i : Int) + 1)))) := by
 have rdL : ∀ (self : Int → Option (Int × Int)) (f k : Nat), k < i → ∃ b : Bool, (b = true ↔ ∃ (z : GLifetime) (t : GSlot), l[k]? = some z ∧ slots[k]? = some t ∧ cB x z s.At t.At = true) ∧ m_arena_Check_l2 (i : Int) l slots s self (f + 1) (k : Int) = if b = true then some ((i : Int), 21) else m_arena_Check_l2 (i : Int) l slots s self f ((k + 1 : Nat) : Int) := by
  intro self f k hk
  obtain ⟨z, hz⟩ := at_some (l := l) (i := k) (by omega)
  obtain ⟨t, ht⟩ := at_some (l := slots) (i := k) (by omega)
  obtain ⟨r, hr, he⟩ := meet_cB z x t s (hlen k z t hk hz ht) hsl
  refine ⟨cB x z s.At t.At, ⟨fun h => ⟨z, t, hz, ht, h⟩, ?_⟩, ?_⟩
  ·rintro ⟨z', t', h1, h2, h3⟩; rw [hz] at h1; rw [ht] at h2; injection h1 with h1; injection h2 with h2; subst h1; subst h2; exact h3
  ·simp only [m_arena_Check_l2]
   rw [if_pos (lt_dec hk), lat_at hz, Option.bind_some, lat_at hx, Option.bind_some, overlap_ok, Option.bind_some, lat_at ht, wis (by omega), ← he]
   cases hO : decide (Ov z x)
   ·simp [gd]
   ·simp only [gd, if_true, Option.bind_some, hr]
 have rdR : ∀ (self : Int → Option (Int × Int)) (f k : Nat), k < i → ∃ b : Bool, (b = true ↔ ∃ (z : GLifetime) (t : GSlot), l[k]? = some z ∧ slots[k]? = some t ∧ cB x z s.At t.At = true) ∧ m_ref42_Check_l2 (i : Int) l slots s self (f + 1) (k : Int) = if b = true then some ((i : Int), 21) else m_ref42_Check_l2 (i : Int) l slots s self f ((k + 1 : Nat) : Int) := by
  intro self f k hk
  obtain ⟨z, hz⟩ := at_some (l := l) (i := k) (by omega)
  obtain ⟨t, ht⟩ := at_some (l := slots) (i := k) (by omega)
  refine ⟨cB x z s.At t.At, ⟨fun h => ⟨z, t, hz, ht, h⟩, ?_⟩, ?_⟩
  ·rintro ⟨z', t', h1, h2, h3⟩; rw [hz] at h1; rw [ht] at h2; injection h1 with h1; injection h2 with h2; subst h1; subst h2; exact h3
  ·simp only [m_ref42_Check_l2]
   rw [if_pos (lt_dec hk), lat_at hx, Option.bind_some, lat_at hz, Option.bind_some, lat_at ht, Option.bind_some, clash_cB, Option.bind_some, wis (by omega)]
 refine ⟨fun self => ⟨fun ⟨k, z, t, hk, h1, h2, h3⟩ => ?_, fun hne => ?_⟩, fun self => ⟨fun ⟨k, z, t, hk, h1, h2, h3⟩ => ?_, fun hne => ?_⟩⟩
 ·refine any_yes (n := i) (by omega) hk (fun f j => m_arena_Check_l2 (i : Int) l slots s self f j) (fun f j hj => ?_) (fun f => ?_)
  ·obtain ⟨b, hb, e⟩ := rdL self f j (by omega)
   rw [e]; cases b
   ·left; rw [if_neg (by simp)]
   ·right; rw [if_pos rfl]
  ·obtain ⟨b, hb, e⟩ := rdL self f k hk
   rw [e, if_pos (hb.2 ⟨z, t, h1, h2, h3⟩)]
 ·refine any_no (n := i) (by omega) (fun f j => m_arena_Check_l2 (i : Int) l slots s self f j) (fun f j hj => ?_) (fun f => ?_)
  ·obtain ⟨b, hb, e⟩ := rdL self f j hj
   rw [e, if_neg (fun h => by obtain ⟨z, t, h1⟩ := hb.1 h; exact hne ⟨j, z, t, hj, h1⟩)]
  ·simp only [m_arena_Check_l2]; rw [if_neg (by simp), m_arena_Check_j1]
 ·refine any_yes (n := i) (by omega) hk (fun f j => m_ref42_Check_l2 (i : Int) l slots s self f j) (fun f j hj => ?_) (fun f => ?_)
  ·obtain ⟨b, hb, e⟩ := rdR self f j (by omega)
   rw [e]; cases b
   ·left; rw [if_neg (by simp)]
   ·right; rw [if_pos rfl]
  ·obtain ⟨b, hb, e⟩ := rdR self f k hk
   rw [e, if_pos (hb.2 ⟨z, t, h1, h2, h3⟩)]
 ·refine any_no (n := i) (by omega) (fun f j => m_ref42_Check_l2 (i : Int) l slots s self f j) (fun f j hj => ?_) (fun f => ?_)
  ·obtain ⟨b, hb, e⟩ := rdR self f j hj
   rw [e, if_neg (fun h => by obtain ⟨z, t, h1⟩ := hb.1 h; exact hne ⟨j, z, t, hj, h1⟩)]
  ·simp only [m_ref42_Check_l2]; rw [if_neg (by simp), m_ref42_Check_j1]
theorem check_ok (l : List GLifetime) (slots : List GSlot) (size : Int) (hl : l.length ≤ 60) (hv : m_ref41_Validate l = some 0) (hs : slots.length = l.length) (hB : size ≤ 1000000)
  (h1 : ∀ (i : Nat) (x : GLifetime) (s : GSlot), l[i]? = some x → slots[i]? = some s → s.Name = x.Name ∧ s.Len = x.Size ∧ 0 ≤ s.At ∧ s.At + s.Len ≤ size ∧ 1 ≤ x.Size)
  (h2 : ∀ (j k : Nat) (a b : GLifetime) (s t : GSlot), j ≠ k → l[j]? = some a → l[k]? = some b → slots[j]? = some s → slots[k]? = some t → ¬ Cl a b s.At t.At) : m_ref42_Check l slots size = some (0, 0) := by
 unfold m_ref42_Check
 rw [hv, Option.bind_some, if_neg (by simp), if_neg (by simp [hs])]
 refine any_no (n := l.length) (by omega) (fun f i => m_ref42_Check_l1 l slots size f i) (fun f i hi => ?_) (fun f => ?_)
 ·obtain ⟨x, hx⟩ := at_some hi
  obtain ⟨s, hsi⟩ := at_some (l := slots) (i := i) (by omega)
  obtain ⟨g1, g2, g3, g4, g5⟩ := h1 i x s hx hsi
  have ne : ¬ early l slots i x s := by
   rintro ⟨k, z, t, hk, hz, ht, hc⟩
   obtain ⟨k1, k2, k3, k4, k5⟩ := h1 k z t hz ht
   refine h2 i k x z s t (by omega) hx hz hsi ht ?_
   unfold cB at hc
   rw [wi (p := t.At + z.Size) ⟨by omega, by omega⟩, wi (p := s.At + x.Size) ⟨by omega, by omega⟩] at hc
   simp only [Bool.and_eq_true, decide_eq_true_iff] at hc
   obtain ⟨⟨⟨⟨⟨q1, q2⟩, _⟩, _⟩, q3⟩, q4⟩ := hc
   exact ⟨⟨q1, q2⟩, q3, q4⟩
  have := (check_in l slots (by omega) hs i hi x s hx g2 (fun k z t _ hz ht => (h1 k z t hz ht).2.1)).2 (m_ref42_Check_l1 l slots size f)
  simp only [m_ref42_Check_l1]
  rw [if_pos (lt_dec hi), lat_at hsi, Option.bind_some, lat_at hx, Option.bind_some, decide_eq_true g1]
  simp only [gd, Bool.not_true, Bool.not_false, if_true, Option.bind_some, Bool.false_or]
  rw [if_neg (by simpa using g2), wi (p := size - s.Len) ⟨by omega, by omega⟩, if_neg (by simp; omega), this.2 ne, wis (by omega)]
 ·simp only [m_ref42_Check_l1]; rw [if_neg (by simp)]
def lsum (p : Int) : List GLifetime → Int
 | [] => 0
 | y :: t => (if y.From ≤ p ∧ p ≤ y.To then y.Size else 0) + lsum p t
theorem lsum_app (p : Int) (a b : List GLifetime) : lsum p (a ++ b) = lsum p a + lsum p b := by
 induction a with
 | nil => simp [lsum]
 | cons y a ih => simp only [List.cons_append, lsum, ih]; omega
theorem lsum_bd (p : Int) (a : List GLifetime) (h : ∀ x ∈ a, okLt x) : 0 ≤ lsum p a ∧ lsum p a ≤ 4096 * (a.length : Int) := by
 induction a with
 | nil => simp [lsum]
 | cons y a ih =>
  obtain ⟨i1, i2⟩ := ih fun x hx => h x (by simp [hx])
  obtain ⟨_, _, y1, y2⟩ := h y (by simp)
  simp only [lsum, List.length_cons]
  split <;> omega
theorem lower_both (l : List GLifetime) (N : Int) (hl : l.length ≤ 60) (hn : ∀ x ∈ l, x.Name.length < 4611686018427387904) (hN0 : 0 ≤ N) (hN : (∀ x ∈ l, okLt x) → ∀ x ∈ l, lsum x.From l ≤ N) :
  ∃ r, r ≤ N ∧ m_arena_LowerBound l = some r ∧ m_ref42_LowerBound l = some r := by
 obtain ⟨v, v0, v1, v2⟩ := validate l (by omega) hn
 unfold m_arena_LowerBound m_ref42_LowerBound
 rw [v1, v2, Option.bind_some, Option.bind_some]
 by_cases hv : v = 0
 rotate_left
 ·rw [if_pos (by simpa using hv)]; exact ⟨_, hN0, rfl, if_pos (by simpa using hv)⟩
 rw [if_neg (by simpa using hv), if_neg (by simpa using hv)]
 have hok := v0 hv
 have hN := hN hok
 have iL : ∀ (self : Int → Int → Option Int) (i : Nat) (x : GLifetime) (most : Int), l[i]? = some x → m_arena_LowerBound_l2 l x self (i : Int) most fu 0 0 = self (max most (lsum x.From l)) (wi64 ((i : Int) + 1)) := by
  intro self i x most hx
  refine loop_eq (L := fun f t k => m_arena_LowerBound_l2 l x self (i : Int) most f t k) (n := l.length) (by omega) (fun k t => t = lsum x.From (l.take k)) ?_ ?_ 0 rfl
  ·intro f k t hk ht
   obtain ⟨y, hy⟩ := at_some hk
   obtain ⟨_, _, y1, y2⟩ := hok y (List.mem_of_getElem? hy)
   have hb := lsum_bd x.From (l.take k) (fun z hz => hok z (List.mem_of_mem_take hz))
   rw [List.length_take] at hb
   left
   simp only [m_arena_LowerBound_l2]
   rw [if_pos (lt_dec hk), lat_at hy, Option.bind_some]
   have hls := lsum_app x.From (l.take k) [y]
   simp only [lsum] at hls
   by_cases hc : y.From ≤ x.From ∧ x.From ≤ y.To
   ·rw [if_pos hc] at hls
    rw [if_pos (by simpa using hc), Option.bind_some, m_arena_LowerBound_j3, wi (p := t + y.Size) ⟨by omega, by omega⟩, wis (by omega)]
    refine ⟨_, ?_, rfl⟩
    rw [take_succ' hy, hls]; omega
   ·rw [if_neg hc] at hls
    rw [if_neg (by simpa using hc), m_arena_LowerBound_j3, wis (by omega)]
    refine ⟨_, ?_, rfl⟩
    rw [take_succ' hy, hls]; omega
  ·intro f t ht
   rw [List.take_length] at ht
   simp only [m_arena_LowerBound_l2]
   rw [if_neg (by simp), m_arena_LowerBound_j2, m_arena_LowerBound_j1, ht]
 have iR : ∀ (self : Int → Int → Option Int) (i : Nat) (x : GLifetime) (most : Int), l[i]? = some x → m_ref42_LowerBound_l2 l (i : Int) self most fu 0 0 = self (max most (lsum x.From l)) (wi64 ((i : Int) + 1)) := by
  intro self i x most hx
  refine loop_eq (L := fun f t k => m_ref42_LowerBound_l2 l (i : Int) self most f t k) (n := l.length) (by omega) (fun k t => t = lsum x.From (l.take k)) ?_ ?_ 0 rfl
  ·intro f k t hk ht
   obtain ⟨y, hy⟩ := at_some hk
   obtain ⟨_, _, y1, y2⟩ := hok y (List.mem_of_getElem? hy)
   have hb := lsum_bd x.From (l.take k) (fun z hz => hok z (List.mem_of_mem_take hz))
   rw [List.length_take] at hb
   left
   simp only [m_ref42_LowerBound_l2]
   rw [if_pos (lt_dec hk), lat_at hy, Option.bind_some, lat_at hx, Option.bind_some]
   have hls := lsum_app x.From (l.take k) [y]
   simp only [lsum] at hls
   by_cases hc : y.From ≤ x.From ∧ x.From ≤ y.To
   ·rw [if_pos hc] at hls
    rw [decide_eq_true hc.1]
    simp only [gd, if_true, Option.bind_some, Bool.true_and]
    rw [if_pos (by simpa using hc.2), m_ref42_LowerBound_j3, show min y.Size 2147483647 = y.Size by omega, wi (p := t + y.Size) ⟨by omega, by omega⟩, wis (by omega)]
    refine ⟨_, ?_, rfl⟩
    rw [take_succ' hy, hls]; omega
   ·rw [if_neg hc] at hls
    refine ⟨t, ?_, ?_⟩
    ·rw [take_succ' hy, hls]; omega
    ·by_cases h1 : y.From ≤ x.From
     ·rw [decide_eq_true h1]
      simp only [gd, if_true, Option.bind_some, Bool.true_and]
      rw [if_neg (by simpa using fun h => hc ⟨h1, h⟩), m_ref42_LowerBound_j3, wis (by omega)]
     ·rw [decide_eq_false h1]
      simp only [gd, Bool.false_and]
      simp only [Bool.false_eq_true, if_false, Option.bind_some]
      rw [m_ref42_LowerBound_j3, wis (by omega)]
  ·intro f t ht
   rw [List.take_length] at ht
   simp only [m_ref42_LowerBound_l2]
   rw [if_neg (by simp), m_ref42_LowerBound_j2, m_ref42_LowerBound_j1, ht]
 refine loop_sim (L := fun f m i => m_arena_LowerBound_l1 l f m i) (M := fun f m i => m_ref42_LowerBound_l1 l f m i) (n := l.length) (by omega) (fun i m m' => m = m' ∧ m ≤ N) (fun r => r ≤ N) ?_ ?_ 0 0 ⟨rfl, hN0⟩
 ·rintro i m m' hi ⟨rfl, hm⟩
  obtain ⟨x, hx⟩ := at_some hi
  left
  refine ⟨max m (lsum x.From l), max m (lsum x.From l), ⟨rfl, ?_⟩, fun f => ?_, fun f => ?_⟩
  ·have := hN x (List.mem_of_getElem? hx); omega
  ·simp only [m_arena_LowerBound_l1]; rw [if_pos (lt_dec hi), lat_at hx, Option.bind_some, iL _ i x m hx, wis (by omega)]
  ·simp only [m_ref42_LowerBound_l1]; rw [if_pos (lt_dec hi), iR _ i x m hx, wis (by omega)]
 ·rintro m m' ⟨rfl, hm⟩
  refine ⟨m, hm, fun f => ?_, fun f => ?_⟩
  ·simp only [m_arena_LowerBound_l1]; rw [if_neg (by simp)]
  ·simp only [m_ref42_LowerBound_l1]; rw [if_neg (by simp)]
def cov (p N : Int) : List (GLifetime × Int) → Int
 | [] => 0
 | (y, a) :: t => (if y.From ≤ p ∧ p ≤ y.To then max 0 (min N (a + y.Size) - a) else 0) + cov p N t
theorem cov_none (p N : Int) (z : List (GLifetime × Int)) (h : ∀ q ∈ z, q.1.From ≤ p ∧ p ≤ q.1.To → ¬ (q.2 ≤ N ∧ N < q.2 + q.1.Size)) : cov p (N + 1) z = cov p N z := by
 induction z with
 | nil => rfl
 | cons q z ih =>
  obtain ⟨y, a⟩ := q
  have h1 := h (y, a) (by simp)
  dsimp only at h1
  simp only [cov, ih fun q hq => h q (by simp [hq])]
  split
  ·next hc => have := h1 hc; omega
  ·rfl
theorem cov_step (p N : Int) (z : List (GLifetime × Int)) (h : z.Pairwise (fun q r => ¬ Cl q.1 r.1 q.2 r.2)) : cov p (N + 1) z ≤ cov p N z + 1 := by
 induction z with
 | nil => simp [cov]
 | cons q z ih =>
  obtain ⟨y, a⟩ := q
  obtain ⟨h1, h2⟩ := List.pairwise_cons.1 h
  simp only [cov]
  by_cases hc : (y.From ≤ p ∧ p ≤ y.To) ∧ a ≤ N ∧ N < a + y.Size
  ·obtain ⟨hc, hd⟩ := hc
   rw [if_pos hc, if_pos hc, cov_none p N z fun q hq hq1 hq2 => h1 q hq ⟨⟨by show y.From ≤ q.1.To; omega, by show q.1.From ≤ y.To; omega⟩, by show a < q.2 + q.1.Size; omega, by show q.2 < a + y.Size; omega⟩]
   omega
  ·have := ih h2
   split
   ·next hc2 => have : ¬ (a ≤ N ∧ N < a + y.Size) := fun h => hc ⟨hc2, h⟩; omega
   ·omega
theorem cov_le (p : Int) (z : List (GLifetime × Int)) (h : z.Pairwise (fun q r => ¬ Cl q.1 r.1 q.2 r.2)) (h0 : ∀ q ∈ z, 0 ≤ q.2 ∧ 0 ≤ q.1.Size) (N : Nat) : cov p (N : Int) z ≤ (N : Int) := by
 induction N with
 | zero =>
  have : cov p 0 z = 0 := by
   clear h
   induction z with
   | nil => rfl
   | cons q z ih =>
    obtain ⟨y, a⟩ := q
    have := h0 (y, a) (by simp)
    dsimp only at this
    simp only [cov, ih fun q hq => h0 q (by simp [hq])]
    split <;> omega
  exact Int.le_of_eq this
 | succ N ih => have := cov_step p N z h; rw [show ((N + 1 : Nat) : Int) = (N : Int) + 1 by omega]; omega
theorem cov_all (p N : Int) (l : List GLifetime) (at_ : List Int) (hl : at_.length = l.length) (h : ∀ (j : Nat) (y : GLifetime) (a : Int), l[j]? = some y → at_[j]? = some a → 0 ≤ a ∧ a + y.Size ≤ N ∧ 0 ≤ y.Size) : lsum p l = cov p N (l.zip at_) := by
 induction l generalizing at_ with
 | nil => rfl
 | cons y l ih =>
  cases at_ with
  | nil => simp at hl
  | cons a at_ =>
   have h1 := h 0 y a rfl rfl
   simp only [lsum, List.zip_cons_cons, cov]
   rw [ih at_ (by simpa using hl) fun j z b hz hb => h (j + 1) z b (by simpa using hz) (by simpa using hb)]
   split <;> omega
theorem live_le (l : List GLifetime) (hok : ∀ x ∈ l, okLt x) (at_ : List Int) (size : Int) (hl : at_.length = l.length) (s0 : 0 ≤ size)
  (h1 : ∀ (j : Nat) (y : GLifetime) (a : Int), l[j]? = some y → at_[j]? = some a → 0 ≤ a ∧ a + y.Size ≤ size)
  (h2 : ∀ (j k : Nat) (a b : GLifetime) (x y : Int), j ≠ k → l[j]? = some a → l[k]? = some b → at_[j]? = some x → at_[k]? = some y → ¬ Cl a b x y) (p : Int) : lsum p l ≤ size := by
 obtain ⟨N, rfl⟩ : ∃ N : Nat, size = N := ⟨size.toNat, by omega⟩
 have ok := fun (j : Nat) (y : GLifetime) (hy : l[j]? = some y) => hok y (List.mem_of_getElem? hy)
 rw [cov_all p (N : Int) l at_ hl fun j y a hy ha => ⟨(h1 j y a hy ha).1, (h1 j y a hy ha).2, by have := (ok j y hy).2.2.1; omega⟩]
 have gz : ∀ (j : Nat) (q : GLifetime × Int), (l.zip at_)[j]? = some q → l[j]? = some q.1 ∧ at_[j]? = some q.2 := fun j q hq => by
  rw [List.getElem?_zip_eq_some] at hq; exact hq
 refine cov_le p _ ?_ ?_ N
 ·rw [List.pairwise_iff_getElem]
  intro i j hi hj hij
  obtain ⟨q1, q2⟩ := gz i _ (List.getElem?_eq_getElem hi)
  obtain ⟨q3, q4⟩ := gz j _ (List.getElem?_eq_getElem hj)
  exact h2 i j _ _ _ _ (by omega) q1 q3 q2 q4
 ·intro q hq
  obtain ⟨j, hj⟩ := List.mem_iff_getElem?.1 hq
  obtain ⟨q1, q2⟩ := gz j q hj
  exact ⟨(h1 j _ _ q1 q2).1, by have := (ok j _ q1).2.2.1; omega⟩
end Go.Proofs.YtnehbaocbcegpaaDoor
