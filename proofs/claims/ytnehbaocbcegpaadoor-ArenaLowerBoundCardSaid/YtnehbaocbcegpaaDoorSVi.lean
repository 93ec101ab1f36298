import Derived.Test.YtnehbaocbcegpaaDoorSVh
namespace Go.Proofs.YtnehbaocbcegpaaDoor
open Go Go.RowKit Go.Vc
set_option linter.unusedVariables false
set_option linter.unusedSimpArgs false
theorem few_ok (l : List GLifetime) (m : Nat) (hm : m ≤ 1000) : ∃ b, m_law42_few l (m : Int) = some b ∧ (b = true → l.length ≤ m ∧ ∀ x ∈ l, x.Name.length ≤ 100) := by
 unfold m_law42_few
 by_cases h : m < l.length
 ·exact ⟨false, if_pos (by simpa using h), by simp⟩
 obtain ⟨r, h1, h2⟩ := loop_fu (L := fun f (_ : Unit) i => m_law42_few_l1 l f i) (n := l.length) (by omega) (fun i _ => ∀ x ∈ l.take i, x.Name.length ≤ 100) (fun r => r = true → ∀ x ∈ l, x.Name.length ≤ 100)
  (fun f i _ hi hI => by
   obtain ⟨x, hx⟩ := at_some hi
   simp only [m_law42_few_l1]
   rw [if_pos (lt_dec hi), lat_at hx, Option.bind_some]
   by_cases hc : 100 < x.Name.length
   ·right; exact ⟨false, if_pos (by simp; omega), by simp⟩
   ·left; refine ⟨(), ?_, by rw [if_neg (by simp; omega), wis (by omega)]⟩
    rw [take_succ' hx]; intro y hy; rcases List.mem_append.1 hy with hy | hy
    ·exact hI y hy
    ·rw [List.mem_singleton.1 hy]; omega)
  (fun f _ hI => by
   rw [List.take_length] at hI
   simp only [m_law42_few_l1]
   exact ⟨true, by rw [if_neg (by simp)], fun _ => hI⟩) () (by simp)
 exact ⟨r, (if_neg (by simp; omega)).trans h1, fun hr => ⟨by omega, h2 hr⟩⟩
theorem slots_refl (a : List GSlot) (h : a.length < 4611686018427387904) : m_law42_slots a a = some true := by
 unfold m_law42_slots
 rw [if_neg (by simp)]
 refine any_no (n := a.length) h (fun f i => m_law42_slots_l1 a a f i) (fun f i hi => ?_) (fun f => ?_)
 ·obtain ⟨x, hx⟩ := at_some hi
  simp only [m_law42_slots_l1]
  rw [if_pos (lt_dec hi), lat_at hx, Option.bind_some, Option.bind_some, if_neg (by simp), wis (by omega)]
 ·simp only [m_law42_slots_l1]; rw [if_neg (by simp)]
def sz (l : List GLifetime) (x : Int) : Int := (l[x.toNat]?.map (·.Size)).getD 0
theorem sz_at {l : List GLifetime} {i : Nat} {x : GLifetime} (h : l[i]? = some x) : sz l (i : Int) = x.Size := by unfold sz; rw [Int.toNat_natCast, h]; rfl
def Bf (l : List GLifetime) (x y : Int) : Prop := sz l y < sz l x ∨ (sz l x = sz l y ∧ x < y)
theorem bf_sw (l : List GLifetime) : SW (Bf l) := ⟨fun x h => by unfold Bf at h; omega, fun x y h1 h2 => by unfold Bf at h1 h2; omega, fun x y z h1 h2 h3 => by unfold Bf at h1 h2 h3; omega⟩
theorem ci_mem {l : List Nat} {k : Int} : k ∈ ci l ↔ ∃ n, n ∈ l ∧ (n : Int) = k := by unfold ci; simp
theorem order_prog (l : List GLifetime) (hl : l.length ≤ 60) (hok : ∀ x ∈ l, okLt x) : ∃ o, o.Perm (ci (List.range l.length)) ∧ Sd (Bf l) o ∧ m_arena_sorted_int (ci (List.range l.length)) (fun y_1 y_2 => m_arena_Plan_1 y_1 y_2 l) = some o := by
 refine Soint.sorted_ok (bf_sw l) _ (by simp [ci_len]; omega) ?_
 unfold ci
 rw [List.pairwise_map, List.pairwise_iff_getElem]
 intro i j hi hj hij
 rw [List.length_range] at hi hj
 rw [List.getElem_range, List.getElem_range]
 obtain ⟨x, hx⟩ := at_some hi
 obtain ⟨y, hy⟩ := at_some hj
 obtain ⟨_, _, x1, x2⟩ := hok x (List.mem_of_getElem? hx)
 obtain ⟨_, _, y1, y2⟩ := hok y (List.mem_of_getElem? hy)
 refine ⟨x.Size - y.Size, ?_, ?_⟩
 ·unfold m_arena_Plan_1
  dsimp only
  rw [lat_at hx, Option.bind_some, lat_at hy, Option.bind_some, wi ⟨by omega, by omega⟩]
 ·unfold Bf; rw [sz_at hx, sz_at hy]; omega
theorem ins_ref (l : List GLifetime) (hl : l.length ≤ 60) (i : Nat) (x : GLifetime) (hx : l[i]? = some x) (self : List Int → Int → Option (List GSlot × Int × Int)) :
  ∀ (k f : Nat) (A C : List Int), A.length = k → k < f → (∀ y ∈ A, 0 ≤ y ∧ y < (i : Int)) → Sd (Bf l) (A ++ C) → (∀ y ∈ C, sz l y < x.Size) → A.length + C.length = i →
   ∃ o, o.Perm (A ++ C ++ [(i : Int)]) ∧ Sd (Bf l) o ∧ m_ref42_Plan_l3 l self (i : Int) f (A ++ (i : Int) :: C) (k : Int) = self o (wi64 ((i : Int) + 1)) := by
 have hil := (List.getElem?_eq_some_iff.1 hx).1
 have fin : ∀ (A C : List Int), (∀ y ∈ A, 0 ≤ y ∧ y < (i : Int)) → Sd (Bf l) (A ++ C) → (∀ y ∈ C, sz l y < x.Size) → (∀ y ∈ A, x.Size ≤ sz l y) → Sd (Bf l) (A ++ (i : Int) :: C) := by
  intro A C h1 h2 h3 h4
  obtain ⟨a1, a2, a3⟩ := List.pairwise_append.1 h2
  refine List.pairwise_append.2 ⟨a1, List.pairwise_cons.2 ⟨fun y hy => ?_, a2⟩, fun y hy z hz => ?_⟩
  ·have := h3 y hy; unfold Bf; rw [sz_at hx]; omega
  ·rcases List.mem_cons.1 hz with rfl | hz
   ·have := h4 y hy; have := h1 y hy; unfold Bf; rw [sz_at hx]; omega
   ·exact a3 y hy z hz
 have perm : ∀ (A C : List Int), (A ++ (i : Int) :: C).Perm (A ++ C ++ [(i : Int)]) := fun A C => List.perm_middle.trans (List.perm_append_singleton _ _).symm
 intro k
 induction k with
 | zero =>
  intro f A C hA hf h1 h2 h3 h4
  obtain ⟨f, rfl⟩ : ∃ g, f = g + 1 := ⟨f - 1, by omega⟩
  obtain rfl : A = [] := List.length_eq_zero_iff.1 hA
  refine ⟨_, perm [] C, fin [] C h1 h2 h3 (by simp), ?_⟩
  simp only [m_ref42_Plan_l3]
  rw [show decide (0 < ((0 : Nat) : Int)) = false from rfl]
  simp only [gd, Bool.false_and]
  simp only [Bool.false_eq_true, if_false, Option.bind_some]
  rw [m_ref42_Plan_j2]
 | succ k ih =>
  intro f A C hA hf h1 h2 h3 h4
  obtain ⟨f, rfl⟩ : ∃ g, f = g + 1 := ⟨f - 1, by omega⟩
  obtain ⟨B, y, rfl⟩ : ∃ B y, A = B ++ [y] := ⟨A.dropLast, A.getLast (by intro h; subst h; simp at hA), (List.dropLast_concat_getLast _).symm⟩
  have hB : B.length = k := by simpa using hA
  obtain ⟨y0, y1⟩ := h1 y (by simp)
  obtain ⟨yn, rfl⟩ : ∃ yn : Nat, y = yn := ⟨y.toNat, by omega⟩
  obtain ⟨z, hz⟩ := at_some (l := l) (i := yn) (by omega)
  have e0 : B ++ [(yn : Int)] ++ (i : Int) :: C = B ++ (yn : Int) :: (i : Int) :: C := by simp
  have g1 : lat (B ++ (yn : Int) :: (i : Int) :: C) (k : Int) = some (yn : Int) := latm _ _ _ hB.symm
  have g2 : lat (B ++ (yn : Int) :: (i : Int) :: C) ((k + 1 : Nat) : Int) = some (i : Int) := latm1 _ _ _ _ (by omega)
  simp only [m_ref42_Plan_l3]
  rw [e0, wid (by omega), g1, g2, show decide (0 < ((k + 1 : Nat) : Int)) = true by rw [decide_eq_true_iff]; omega]
  simp only [gd, if_true, Option.bind_some, Bool.true_and, lat_at hz, lat_at hx]
  by_cases hc : z.Size < x.Size
  ·rw [if_pos (by simpa using hc), if_pos ⟨by omega, by simp; omega⟩, if_pos ⟨by omega, by simp; omega⟩, Int.toNat_natCast, Int.toNat_natCast]
   have sw := swpL B C (i : Int) (yn : Int)
   rw [hB] at sw
   rw [sw]
   obtain ⟨o, p1, p2, p3⟩ := ih f B ((yn : Int) :: C) hB (by omega) (fun w hw => h1 w (by simp [hw])) (by simpa using h2) (fun w hw => by
    rcases List.mem_cons.1 hw with rfl | hw
    ·rw [sz_at hz]; exact hc
    ·exact h3 w hw) (by simp at h4 ⊢; omega)
   exact ⟨o, p1.trans (by simp), p2, p3⟩
  ·rw [if_neg (by simpa using hc), m_ref42_Plan_j2]
   refine ⟨_, ?_, ?_, rfl⟩
   ·rw [← e0]; exact perm _ C
   ·rw [← e0]
    refine fin _ C h1 h2 h3 fun w hw => ?_
    rcases List.mem_append.1 hw with hw | hw
    ·obtain ⟨a1, _, _⟩ := List.pairwise_append.1 h2
     have := (List.pairwise_append.1 a1).2.2 w hw (yn : Int) (by simp)
     unfold Bf at this; rw [sz_at hz] at this; omega
    ·rw [List.mem_singleton.1 hw, sz_at hz]; omega
theorem order_ref (l : List GLifetime) (hl : l.length ≤ 60) : ∃ o, o.Perm (ci (List.range l.length)) ∧ Sd (Bf l) o ∧ m_ref42_Plan_l2 l fu [] 0 = m_ref42_Plan_j1 l o := by
 obtain ⟨o, ⟨h1, h2⟩, h3⟩ := loop_k (L := fun f o i => m_ref42_Plan_l2 l f o i) (n := l.length) (by omega) (fun o => m_ref42_Plan_j1 l o) (fun i o => o.Perm (ci (List.range i)) ∧ Sd (Bf l) o)
  (fun f i o hi ⟨h1, h2⟩ => by
   obtain ⟨x, hx⟩ := at_some hi
   have hlen : o.length = i := by have := h1.length_eq; rw [ci_len, List.length_range] at this; exact this
   obtain ⟨o', p1, p2, p3⟩ := ins_ref l hl i x hx (m_ref42_Plan_l2 l f) i fu o [] hlen (by unfold fu; omega) (fun y hy => by
    obtain ⟨n, hn, rfl⟩ := ci_mem.1 (h1.mem_iff.1 hy); rw [List.mem_range] at hn; omega) (by simpa using h2) (by simp) (by simpa using hlen)
   refine ⟨o', ⟨?_, p2⟩, ?_⟩
   ·rw [List.range_succ, ci_app]; rw [List.append_nil] at p1; exact p1.trans (h1.append_right _)
   ·simp only [m_ref42_Plan_l2]
    rw [if_pos (lt_dec hi), lapp_ok (by simp; omega), Option.bind_some, p3, wis (by omega)])
  (fun f o _ => by simp only [m_ref42_Plan_l2]; rw [if_neg (by simp)]) [] ⟨by simp [ci], List.Pairwise.nil⟩
 exact ⟨o, h1, h2, h3⟩
theorem plan_both (l : List GLifetime) (hl : l.length ≤ 60) (hn : ∀ x ∈ l, x.Name.length < 4611686018427387904) :
  ∃ r, m_arena_Plan l = some r ∧ m_ref42_Plan l = some r ∧ r.1.length ≤ 60 ∧ ((r.2.2 ≠ 0 ∧ r.1 = [] ∧ r.2.1 = 0) ∨ (r.2.2 = 0 ∧ m_ref41_Validate l = some 0 ∧ (∀ x ∈ l, okLt x) ∧ ∃ order at_, Pl l order order.length r.1 at_ r.2.1 ∧ order.length ≤ 60 ∧ ∀ j : Nat, j < l.length → ∃ y, at_[j]? = some y ∧ 0 ≤ y)) := by
 obtain ⟨v, v0, v1, v2⟩ := validate l (by omega) hn
 unfold m_arena_Plan m_ref42_Plan
 rw [v1, v2, Option.bind_some, Option.bind_some]
 by_cases hv : v = 0
 rotate_left
 ·have c : (!decide (v = 0)) = true := by simpa using hv
  exact ⟨_, if_pos c, if_pos c, by simp, .inl ⟨hv, rfl, rfl⟩⟩
 have c : ¬ (!decide (v = 0)) = true := by simpa using hv
 have hok := v0 hv
 obtain ⟨o, p1, p2, p3⟩ := order_prog l hl hok
 obtain ⟨o', q1, q2, q3⟩ := order_ref l hl
 have he : o' = o := List.Perm.eq_of_pairwise (le := fun x y => ¬ Bf l y x) (fun a b _ _ h1 h2 => by unfold Bf at h1 h2; omega) q2 p2 (q1.trans p1.symm)
 subst he
 have hol : o'.length = l.length := by have := p1.length_eq; rw [ci_len, List.length_range] at this; exact this
 obtain ⟨slots, at_, size, e1, e2, hP⟩ := place_both l hl hok o' (by omega) (p1.nodup_iff.2 (by
   unfold ci; rw [List.nodup_iff_pairwise_ne, List.pairwise_map]; exact List.Pairwise.imp (fun h => by omega) (List.pairwise_lt_range (n := l.length)))) (fun k hk => by
   obtain ⟨n, hn, rfl⟩ := ci_mem.1 (p1.mem_iff.1 hk); rw [List.mem_range] at hn; omega)
 have hls := hP.rel.ls
 have hla := hP.rel.la
 have hall : ∀ j : Nat, j < l.length → ∃ y, at_[j]? = some y ∧ 0 ≤ y := fun j hj => hP.all j (by rw [List.take_length]; exact p1.mem_iff.2 (ci_mem.2 ⟨j, by simpa using hj, rfl⟩))
 have s1 := hP.s1
 refine ⟨(slots, size, 0), (if_neg c).trans ?_, (if_neg c).trans ?_, by simp; omega, .inr ⟨rfl, by rw [hv], hok, o', at_, hP, by omega, hall⟩⟩
 ·obtain ⟨t, ht, h3⟩ := loop_k (L := fun f o i => m_arena_Plan_l1 l f o i) (n := l.length) (by omega) (fun o => m_arena_Plan_j1 l o) (fun i o => o = ci (List.range i))
   (fun f i o hi ho => by
    refine ⟨_, rfl, ?_⟩
    subst ho
    simp only [m_arena_Plan_l1]
    rw [if_pos (lt_dec hi), lapp_ok (by simp [ci_len]; omega), Option.bind_some, wis (by omega), List.range_succ, ci_app]; rfl)
   (fun f o _ => by simp only [m_arena_Plan_l1]; rw [if_neg (by simp)]) [] rfl
  rw [show m_arena_Plan_l1 l fu [] 0 = m_arena_Plan_j1 l t from h3, ht, m_arena_Plan_j1, p3, Option.bind_some, e1, Option.bind_some, if_neg (by simp; omega)]
 ·rw [q3, m_ref42_Plan_j1, e2, Option.bind_some]
  dsimp only
  rw [if_neg (by simp)]
  refine loop_eq (L := fun f o i => m_ref42_Plan_l1 l (at_, size, true) f o i) (n := l.length) (by omega) (fun i o => o = slots.take i) (fun f i t hi ht => ?_) (fun f t ht => ?_) [] rfl
  ·obtain ⟨x, hx⟩ := at_some hi
   obtain ⟨s, hs⟩ := at_some (l := slots) (i := i) (by omega)
   obtain ⟨y, hy, y0⟩ := hall i hi
   left
   refine ⟨slots.take (i + 1), rfl, ?_⟩
   simp only [m_ref42_Plan_l1]
   rw [if_pos (lt_dec hi), lat_at hx, Option.bind_some, lat_at hy, Option.bind_some, Option.bind_some, ht, lapp_ok (by simp; omega), Option.bind_some, wis (by omega), take_succ' hs]
   rcases hP.rel.cell i x s y hx hs hy with ⟨h, _⟩ | ⟨_, _, h⟩
   ·omega
   ·rw [h]
  ·simp only [m_ref42_Plan_l1]
   rw [if_neg (by simp), ht, ← hls, List.take_length]
theorem law_ArenaPlans (l : List GLifetime) (_ : okL okGLifetime l) : m_law42_ArenaPlans l = some true := by
 unfold m_law42_ArenaPlans
 obtain ⟨b, h1, h2⟩ := few_ok l 60 (by omega)
 rw [show m_law42_few l 60 = some b from h1, Option.bind_some, ex42]
 cases b with
 | false => rfl
 | true =>
  obtain ⟨hl, hn⟩ := h2 rfl
  obtain ⟨r, r1, r2, r3, _⟩ := plan_both l hl fun x hx => by have := hn x hx; omega
  rw [if_neg (by simp), r1, r2, Option.bind_some, Option.bind_some, slots_refl _ (by omega)]
  simp [gd]
theorem law_ArenaLowerBound (l : List GLifetime) (_ : okL okGLifetime l) : m_law42_ArenaLowerBound l = some true := by
 unfold m_law42_ArenaLowerBound
 obtain ⟨b, h1, h2⟩ := few_ok l 60 (by omega)
 rw [show m_law42_few l 60 = some b from h1, Option.bind_some, ex42]
 cases b with
 | false => rfl
 | true =>
  obtain ⟨hl, hn⟩ := h2 rfl
  obtain ⟨r, _, r1, r2⟩ := lower_both l 300000 hl (fun x hx => by have := hn x hx; omega) (by omega) fun hok x _ => by have := lsum_bd x.From l hok; omega
  simp [gd, r1, r2]
end Go.Proofs.YtnehbaocbcegpaaDoor
