import Derived.Test.YtaokohndeepbjaaSWe
namespace Go.Proofs.Ytaokohndeepbjaa
open Go Go.RowKit Go.Vc
set_option linter.unusedVariables false
set_option linter.unusedSimpArgs false
def pI : List Int → Int
 | [] => 1
 | x :: l => x * pI l
theorem pI_app (a b : List Int) : pI (a ++ b) = pI a * pI b := by
 induction a with
 | nil => simp [pI]
 | cons x a ih => simp [pI, ih, Int.mul_assoc]
theorem pI_one (x : Int) : pI [x] = x := by simp [pI]
theorem box_val (ext : List Int) (hl : ext.length < 4611686018427387904) : ∃ r, m_box_Validate ext = some r ∧ (r = 0 → ∃ N : Nat, N ≤ 65536 ∧ ext.length ≤ 16 ∧ (0 < N → ∀ x ∈ ext, 1 ≤ x ∧ x ≤ 65536) ∧ m_box_Count ext = some (N : Int)) := by
 by_cases c : 16 < ext.length
 ·exact ⟨2, by unfold m_box_Validate; rw [if_pos (by simp; omega)], fun h => by cases h⟩
 have tail : ∀ e : Bool, (∀ x ∈ ext, 0 ≤ x) → (e = false → ∀ x ∈ ext, 1 ≤ x) → ∃ r, m_box_Validate_j1 ext e = some r ∧ (r = 0 → e = false → ∀ j, j ≤ ext.length → 1 ≤ pI (ext.take j) ∧ pI (ext.take j) ≤ 65536) := by
  intro e h0 h1
  unfold m_box_Validate_j1
  refine loop_fu (L := fun f p i => m_box_Validate_l1 ext e f p i) (n := ext.length) hl (fun i p => 1 ≤ p ∧ (e = false → p = pI (ext.take i) ∧ ∀ j, j ≤ i → 1 ≤ pI (ext.take j) ∧ pI (ext.take j) ≤ 65536)) _ ?_ ?_ 1 ⟨by omega, fun _ => ⟨by simp [pI], fun j hj => by rw [show j = 0 by omega]; simp [pI]⟩⟩
  ·intro f i p hi ⟨hp1, hp⟩
   obtain ⟨x, hx⟩ := at_some hi
   simp only [m_box_Validate_l1]
   rw [if_pos (lt_dec hi), lat_at hx, Option.bind_some, if_pos (by intro _; omega)]
   cases e with
   | true =>
    left
    exact ⟨p, ⟨hp1, by simp⟩, by rw [if_neg (by simp), if_neg (by simp), m_box_Validate_j2, wis (by omega)]⟩
   | false =>
    obtain ⟨q1, q2⟩ := hp rfl
    have q3 := q2 i (Nat.le_refl _)
    rw [← q1] at q3
    have hx1 := h1 rfl x (List.mem_of_getElem? hx)
    have hd : wi64 (Int.tdiv 65536 p) = 65536 / p := by
     rw [Int.tdiv_eq_ediv_of_nonneg (by omega)]
     have k1 : 65536 / p ≤ 65536 := Int.ediv_le_self _ (by omega)
     have k2 : 0 ≤ 65536 / p := Int.ediv_nonneg (by omega) (by omega)
     exact wi ⟨by omega, by omega⟩
    rw [hd]
    by_cases c2 : 65536 / p < x
    ·right; exact ⟨2, by rw [if_pos (by simpa using c2)], fun h => by cases h⟩
    ·have k3 : x * p ≤ 65536 := (Int.le_ediv_iff_mul_le (by omega)).1 (by omega)
     have k4 : 1 ≤ x * p := by
      have := Int.mul_le_mul hx1 hp1 (by omega) (by omega); omega
     have k5 : pI (ext.take (i + 1)) = x * p := by rw [take_succ' hx, pI_app, pI_one, ← q1, Int.mul_comm]
     left
     refine ⟨x * p, ⟨k4, fun _ => ⟨k5.symm, fun j hj => ?_⟩⟩, by rw [if_neg (by simpa using c2), if_pos (by simp), m_box_Validate_j2, wis (by omega), Int.mul_comm p x, wi ⟨by omega, by omega⟩]⟩
     by_cases hji : j = i + 1
     ·rw [hji, k5]; exact ⟨k4, k3⟩
     ·exact q2 j (by omega)
  ·intro f p ⟨hp1, hp⟩
   refine ⟨0, by simp only [m_box_Validate_l1]; rw [if_neg (by simp)], fun _ he => (hp he).2⟩
 unfold m_box_Validate
 obtain ⟨r, h1, h2⟩ := loop_fu (L := fun f e i => m_box_Validate_l2 ext f e i) (n := ext.length) hl (fun i e => (∀ x ∈ ext.take i, 0 ≤ x) ∧ (e = false ↔ ∀ x ∈ ext.take i, 1 ≤ x))
  (fun r => r = 0 → (∀ x ∈ ext, 0 ≤ x) ∧ ((∀ x ∈ ext, 1 ≤ x) → ∀ j, j ≤ ext.length → 1 ≤ pI (ext.take j) ∧ pI (ext.take j) ≤ 65536))
  (fun f i e hi ⟨he, he2⟩ => by
   obtain ⟨x, hx⟩ := at_some hi
   simp only [m_box_Validate_l2]
   rw [if_pos (lt_dec hi), lat_at hx, Option.bind_some, Option.bind_some, wis (by omega)]
   by_cases c1 : x < 0
   ·right; exact ⟨1, by rw [if_pos (by simpa using c1)], fun h => by cases h⟩
   ·left
    refine ⟨(e || decide (x = 0)), ⟨?_, ?_⟩, by rw [if_neg (by simpa using c1)]⟩
    ·rw [take_succ' hx]; intro y hy; rcases List.mem_append.1 hy with hy | hy
     ·exact he y hy
     ·rw [List.mem_singleton.1 hy]; omega
    ·rw [Bool.or_eq_false_iff, he2, decide_eq_false_iff_not, take_succ' hx]
     constructor
     ·rintro ⟨k1, k2⟩ y hy; rcases List.mem_append.1 hy with hy | hy
      ·exact k1 y hy
      ·rw [List.mem_singleton.1 hy]; omega
     ·intro k; exact ⟨fun y hy => k y (List.mem_append_left _ hy), by have := k x (by simp); omega⟩)
  (fun f e ⟨he, he2⟩ => by
   rw [List.take_length] at he he2
   simp only [m_box_Validate_l2]
   rw [if_neg (by simp)]
   obtain ⟨r, r1, r2⟩ := tail e he he2.1
   exact ⟨r, r1, fun h => ⟨he, fun h1 => r2 h (he2.2 h1)⟩⟩) false ⟨by simp, by simp⟩
 refine ⟨r, (if_neg (by simp; omega)).trans h1, fun hr => ?_⟩
 obtain ⟨g1, g2⟩ := h2 hr
 have hV : m_box_Validate ext = some 0 := by unfold m_box_Validate; rw [hr] at h1; exact (if_neg (by simp; omega)).trans h1
 by_cases hz : ∀ x ∈ ext, 1 ≤ x
 ·have g3 := g2 hz
  have g4 := g3 ext.length (Nat.le_refl _)
  rw [List.take_length] at g4
  refine ⟨(pI ext).toNat, by omega, by omega, fun _ x hx => ⟨hz x hx, ?_⟩, ?_⟩
  ·obtain ⟨i, hi⟩ := List.mem_iff_getElem?.1 hx
   have hil := (List.getElem?_eq_some_iff.1 hi).1
   have k1 := g3 i (by omega)
   have k2 := g3 (i + 1) (by omega)
   rw [take_succ' hi, pI_app, pI_one] at k2
   have := Int.mul_le_mul k1.1 (Int.le_refl x) (by have := hz x hx; omega) (by omega)
   omega
  ·unfold m_box_Count
   rw [hV, Option.bind_some, if_neg (by simp)]
   refine any_no (n := ext.length) hl (fun f i => m_box_Count_l2 ext f i) (fun f i hi => ?_) (fun f => ?_)
   ·obtain ⟨x, hx⟩ := at_some hi
    have := hz x (List.mem_of_getElem? hx)
    simp only [m_box_Count_l2]
    rw [if_pos (lt_dec hi), lat_at hx, Option.bind_some, if_neg (by simp; omega), wis (by omega)]
   ·simp only [m_box_Count_l2]
    rw [if_neg (by simp), m_box_Count_j1]
    refine loop_eq (L := fun f s i => m_box_Count_l1 ext f s i) (n := ext.length) hl (fun i s => s = pI (ext.take i)) (fun f i s hi hs => ?_) (fun f s hs => ?_) 1 (by simp [pI])
    ·obtain ⟨x, hx⟩ := at_some hi
     left
     refine ⟨_, rfl, ?_⟩
     have k2 := g3 (i + 1) (by omega)
     rw [take_succ' hx, pI_app, pI_one] at k2
     simp only [m_box_Count_l1]
     rw [if_pos (lt_dec hi), lat_at hx, Option.bind_some, wis (by omega), hs, take_succ' hx, pI_app, pI_one, wi ⟨by omega, by omega⟩]
    ·simp only [m_box_Count_l1]
     rw [if_neg (by simp), hs, List.take_length, Int.toNat_of_nonneg (by omega)]
 ·refine ⟨0, by omega, by omega, fun h => by omega, ?_⟩
  obtain ⟨x, hx, hx1⟩ : ∃ x ∈ ext, ¬ 1 ≤ x := Classical.byContradiction fun h => hz fun x hx => Classical.byContradiction fun h1 => h ⟨x, hx, h1⟩
  have hx0 : x = 0 := by have := g1 x hx; omega
  obtain ⟨i, hi⟩ := List.mem_iff_getElem?.1 hx
  have hil := (List.getElem?_eq_some_iff.1 hi).1
  unfold m_box_Count
  rw [hV, Option.bind_some, if_neg (by simp)]
  refine any_yes (n := ext.length) hl hil (fun f i => m_box_Count_l2 ext f i) (fun f j hj => ?_) (fun f => ?_)
  ·obtain ⟨y, hy⟩ := at_some (l := ext) (i := j) (by omega)
   simp only [m_box_Count_l2]
   rw [if_pos (lt_dec (by omega)), lat_at hy, Option.bind_some, wis (by omega)]
   by_cases c0 : y = 0
   ·right; rw [if_pos (by simpa using c0)]; rfl
   ·left; rw [if_neg (by simpa using c0)]
  ·simp only [m_box_Count_l2]
   rw [if_pos (lt_dec hil), lat_at hi, Option.bind_some, if_pos (by simpa using hx0)]; rfl
theorem point_ok (ext : List Int) (N k : Nat) (hl : ext.length ≤ 16) (hN : N ≤ 65536) (hk : k < N) (h1 : ∀ x ∈ ext, 1 ≤ x ∧ x ≤ 65536) (hC : m_box_Count ext = some (N : Int)) :
  ∃ p, m_box_Point ext (k : Int) = some (p, true) ∧ p.length = ext.length ∧ ∀ x ∈ p, R64 x := by
 have key : ∀ (i f : Nat) (a : Int) (p : List Int), i ≤ ext.length → i < f → p.length = ext.length → (∀ x ∈ p, R64 x) → 0 ≤ a → a ≤ 65536 → ∃ q, m_box_Point_l1 ext f a p ((i : Int) - 1) = some (q, true) ∧ q.length = ext.length ∧ ∀ x ∈ q, R64 x := by
  intro i
  induction i with
  | zero =>
   intro f a p hi hf hp hr a0 a1
   obtain ⟨f, rfl⟩ : ∃ g, f = g + 1 := ⟨f - 1, by omega⟩
   exact ⟨p, by simp only [m_box_Point_l1]; rw [if_neg (by decide)], hp, hr⟩
  | succ i ih =>
   intro f a p hi hf hp hr a0 a1
   obtain ⟨f, rfl⟩ : ∃ g, f = g + 1 := ⟨f - 1, by omega⟩
   obtain ⟨x, hx⟩ := at_some (l := ext) (i := i) (by omega)
   obtain ⟨x1, x2⟩ := h1 x (List.mem_of_getElem? hx)
   rw [show (((i + 1 : Nat) : Int) - 1) = (i : Int) by omega]
   simp only [m_box_Point_l1]
   rw [if_pos (by simp), lat_at hx, Option.bind_some, if_pos (show x ≠ 0 by omega), if_pos ⟨by omega, by omega⟩, Option.bind_some, if_pos (show x ≠ 0 by omega), wi (p := (i : Int) - 1) ⟨by omega, by omega⟩, Int.toNat_natCast]
   have t1 : Int.tdiv a x = a / x := Int.tdiv_eq_ediv_of_nonneg a0
   have t2 : Int.tmod a x = a % x := Int.tmod_eq_emod_of_nonneg a0
   have t3 : a / x ≤ a := Int.ediv_le_self _ a0
   have t4 : 0 ≤ a / x := Int.ediv_nonneg a0 (by omega)
   have t5 := Int.emod_nonneg a (show x ≠ 0 by omega)
   have t6 := Int.emod_lt_of_pos a (show 0 < x by omega)
   rw [t1, t2, wi ⟨by omega, by omega⟩]
   exact ih f (a / x) (p.set i (a % x)) (by omega) (by omega) (by simpa using hp) (fun y hy => by
    rcases List.mem_or_eq_of_mem_set hy with hy | rfl
    ·exact hr y hy
    ·exact ⟨by omega, by omega⟩) t4 (by omega)
 unfold m_box_Point
 rw [decide_eq_false (p := (k : Int) < 0) (by omega)]
 simp only [gd, Bool.not_false, if_true, hC, Option.bind_some, Bool.false_or]
 rw [if_neg (by simp; omega), lmake_ok 0 (by omega), Option.bind_some, wi (p := (ext.length : Int) - 1) ⟨by omega, by omega⟩]
 exact key ext.length fu (k : Int) (List.replicate ext.length 0) (Nat.le_refl _) (by unfold fu; omega) (by simp) (fun x hx => by rw [(List.mem_replicate.1 hx).2]; exact ⟨by omega, by omega⟩) (by omega) (by omega)
theorem walk {σ : Type} (ext : List Int) (N : Nat) (hN : N ≤ 65536) (hC : m_box_Count ext = some (N : Int)) (pt : Nat → List Int) (hP : ∀ k, k < N → m_box_Point ext (k : Int) = some (pt k, true))
  (y : List Int → σ → Option (Bool × σ)) (I : Nat → σ → Prop) (Q : σ → Prop) (rd : ∀ k s, k < N → I k s → ∃ b s', y (pt k) s = some (b, s') ∧ (b = true → I (k + 1) s') ∧ (b = false → Q s')) (fin : ∀ s, I N s → Q s) (s : σ) (h0 : I 0 s) :
  ∃ s', m_box_All_1_s y ext s = some ((), s') ∧ Q s' := by
 unfold m_box_All_1_s m_box_numbers m_box_numbers_1_s
 rw [Option.bind_some, hC, Option.bind_some]
 obtain ⟨r, h1, h2⟩ := loop_fu (L := fun f q i => m_box_numbers_1_s_l1 (N : Int) (fun (k_0 : Int) (q : Nat × σ) => if q.1 = 0 then m_box_All_1_s_b1 ext y k_0 q.2 else none) f i q) (n := N) (by omega)
  (fun i (q : Nat × σ) => q.1 = 0 ∧ I i q.2) (fun r => (r.2.1 = 0 ∨ r.2.1 = 1) ∧ Q r.2.2)
  (fun f i q hi ⟨q1, q2⟩ => by
   obtain ⟨b, s', e1, e2, e3⟩ := rd i q.2 hi q2
   simp only [m_box_numbers_1_s_l1]
   rw [if_pos (lt_dec hi), if_pos q1]
   unfold m_box_All_1_s_b1
   rw [hP i hi, Option.bind_some, e1]
   cases b with
   | true => left; exact ⟨(0, s'), ⟨rfl, e2 rfl⟩, by simp [wis (i := i) (by omega)]⟩
   | false => right; exact ⟨((), 1, s'), by simp, .inr rfl, e3 rfl⟩)
  (fun f q ⟨q1, q2⟩ => ⟨((), q), by simp only [m_box_numbers_1_s_l1]; rw [if_neg (by simp)], .inl q1, fin _ q2⟩) (0, s) ⟨rfl, h0⟩
 obtain ⟨u, o, s'⟩ := r
 have h1' : m_box_numbers_1_s_l1 (N : Int) (fun k_0 q => if q.1 = 0 then m_box_All_1_s_b1 ext y k_0 q.2 else none) fu 0 (0, s) = some (u, o, s') := h1
 rw [h1']
 refine ⟨s', ?_, h2.2⟩
 rcases h2.1 with h | h <;> dsimp only at h <;> subst h <;> rfl
end Go.Proofs.Ytaokohndeepbjaa
