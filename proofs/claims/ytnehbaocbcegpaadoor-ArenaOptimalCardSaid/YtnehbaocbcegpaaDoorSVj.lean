import Derived.Test.YtnehbaocbcegpaaDoorSVi
namespace Go.Proofs.YtnehbaocbcegpaaDoor
open Go Go.RowKit Go.Vc
set_option linter.unusedVariables false
set_option linter.unusedSimpArgs false
theorem contains_int (l : List Int) (v : Int) (hl : l.length < 4611686018427387904) : m_slices_Contains_int_int l v = some (decide (v ∈ l)) := by
 obtain ⟨r, h1, h2⟩ := loop_fu (L := fun f (_ : Unit) i => m_slices_Index_int_int_l1 l v f i) (n := l.length) hl (fun i _ => v ∉ l.take i) (fun r => decide (0 ≤ r) = decide (v ∈ l))
  (fun f i _ hi hI => by
   obtain ⟨x, hx⟩ := at_some hi
   simp only [m_slices_Index_int_int_l1]
   rw [if_pos (lt_dec hi), lat_at hx, Option.bind_some]
   by_cases hv : v = x
   ·right; refine ⟨(i : Int), by rw [if_pos (by simpa using hv)], ?_⟩
    rw [decide_eq_true (by omega), decide_eq_true (by rw [hv]; exact List.mem_of_getElem? hx)]
   ·left; refine ⟨(), ?_, by rw [if_neg (by simpa using hv), wis (by omega)]⟩
    rw [take_succ' hx]; simp [hI, hv])
  (fun f _ hI => by
   rw [List.take_length] at hI
   simp only [m_slices_Index_int_int_l1]
   exact ⟨-1, by rw [if_neg (by simp)], by rw [decide_eq_false hI]; rfl⟩) () (by simp)
 unfold m_slices_Contains_int_int m_slices_Index_int_int
 rw [show m_slices_Index_int_int_l1 l v fu 0 = some r from h1, Option.bind_some, h2]
theorem used_ref (order : List Int) (ho : order.length < 4611686018427387904) (i : Int) (self : Int → Int → Option Int) (best : Int) (rc : List GLifetime → List Int → Option Int) (l : List GLifetime) :
  m_ref42_orders_l2 order i self best rc l fu false 0 = m_ref42_orders_j2 self i best order rc l (decide (i ∈ order)) := by
 refine loop_eq (L := fun f u k => m_ref42_orders_l2 order i self best rc l f u k) (n := order.length) ho (fun k u => u = decide (i ∈ order.take k)) (fun f k u hk hu => ?_) (fun f u hu => ?_) false (by simp)
 ·obtain ⟨x, hx⟩ := at_some hk
  left
  refine ⟨u || decide (x = i), ?_, ?_⟩
  ·rw [take_succ' hx, hu, Bool.eq_iff_iff, Bool.or_eq_true, decide_eq_true_iff, decide_eq_true_iff, decide_eq_true_iff, List.mem_append, List.mem_singleton]; exact or_congr_right eq_comm
  ·simp only [m_ref42_orders_l2]
   rw [if_pos (lt_dec hk), lat_at hx, wis (by omega)]
   cases u <;> simp [gd]
 ·simp only [m_ref42_orders_l2]
  rw [if_neg (by simp), hu, List.take_length]
theorem len_of_sub {α : Type} [DecidableEq α] : ∀ (a b : List α), a.Nodup → (∀ x ∈ a, x ∈ b) → a.length ≤ b.length
 | [], b, _, _ => Nat.zero_le _
 | x :: a, b, h, hs => by
  obtain ⟨h1, h2⟩ := List.nodup_cons.1 h
  have hx := hs x (by simp)
  have := len_of_sub a (b.erase x) h2 fun y hy => (List.mem_erase_of_ne (by rintro rfl; exact h1 hy)).2 (hs y (by simp [hy]))
  have h3 := List.length_erase_of_mem hx
  have h4 := List.length_pos_of_mem hx
  simp only [List.length_cons]; omega
def upd (b r : Int) : Int := if b < 0 ∨ r < b then r else b
def updB (b m : Int) : Int := if m < 0 then b else upd b m
def bst (order : List Int) (R : Nat → Int) : Nat → Int
 | 0 => -1
 | i + 1 => if (i : Int) ∈ order then bst order R i else upd (bst order R i) (R i)
theorem upd_updB (b m r : Int) (hr : 0 ≤ r) : upd (updB b m) r = updB b (upd m r) := by
 unfold updB upd
 split <;> split <;> split <;> (try split) <;> (try split) <;> omega
theorem bst_bd (order : List Int) (R : Nat → Int) (n : Nat) (hR : ∀ i, i < n → ((i : Nat) : Int) ∉ order → 0 ≤ R i ∧ R i ≤ 300000) : ∀ i, i ≤ n → -1 ≤ bst order R i ∧ bst order R i ≤ 300000 ∧ ((∃ j, j < i ∧ ((j : Nat) : Int) ∉ order) → 0 ≤ bst order R i)
 | 0, _ => ⟨by simp [bst], by simp [bst], fun ⟨j, hj, _⟩ => by omega⟩
 | i + 1, hi => by
  obtain ⟨h1, h2, h3⟩ := bst_bd order R n hR i (by omega)
  simp only [bst]
  by_cases hc : (i : Int) ∈ order
  ·rw [if_pos hc]; refine ⟨h1, h2, fun ⟨j, hj, hn⟩ => h3 ⟨j, ?_, hn⟩⟩
   by_cases e : j = i
   ·subst e; exact absurd hc hn
   ·omega
  ·rw [if_neg hc]
   obtain ⟨r1, r2⟩ := hR i (by omega) hc
   unfold upd; split <;> exact ⟨by omega, by omega, fun _ => by omega⟩
theorem optimal_rec (l : List GLifetime) (hl : l.length ≤ 60) (hok : ∀ x ∈ l, okLt x) : ∀ (k f g : Nat) (order : List Int), order.length + k = l.length → k < f → k < g → order.Nodup → (∀ x ∈ order, 0 ≤ x ∧ x < (l.length : Int)) →
  ∃ r, 0 ≤ r ∧ r ≤ 300000 ∧ m_ref42_orders_r g l order = some r ∧ ∀ b, m_arena_Optimal_1_w_r f order l b = some ((), upd b r) := by
 intro k
 induction k with
 | zero =>
  intro f g order hk hf hg hn hin
  obtain ⟨f, rfl⟩ : ∃ q, f = q + 1 := ⟨f - 1, by omega⟩
  obtain ⟨g, rfl⟩ : ∃ q, g = q + 1 := ⟨g - 1, by omega⟩
  obtain ⟨slots, at_, size, e1, e2, hP⟩ := place_both l hl hok order (by omega) hn hin
  have s0 := hP.s0
  have s1 := hP.s1
  refine ⟨size, s0, by omega, ?_, fun b => ?_⟩
  ·simp only [m_ref42_orders_r]
   unfold m_ref42_orders_b
   rw [if_pos (by simp; omega), e2, Option.bind_some, if_neg (by simp)]
  ·simp only [m_arena_Optimal_1_w_r]
   unfold m_arena_Optimal_1_w_b upd
   rw [if_pos (by simp; omega), e1, Option.bind_some]
   by_cases h : b < 0 ∨ size < b
   ·rw [if_pos (by simpa using h), if_pos h]
   ·rw [if_neg (by simpa using h), if_neg h]
 | succ k ih =>
  intro f g order hk hf hg hn hin
  obtain ⟨f, rfl⟩ : ∃ q, f = q + 1 := ⟨f - 1, by omega⟩
  obtain ⟨g, rfl⟩ : ∃ q, g = q + 1 := ⟨g - 1, by omega⟩
  obtain ⟨R, hRd⟩ : ∃ R : Nat → Int, R = fun (i : Nat) => (m_ref42_orders_r g l (order ++ [(i : Int)])).getD 0 := ⟨_, rfl⟩
  have nx : ∀ i : Nat, i < l.length → (i : Int) ∉ order → 0 ≤ R i ∧ R i ≤ 300000 ∧ m_ref42_orders_r g l (order ++ [(i : Int)]) = some (R i) ∧ ∀ b, m_arena_Optimal_1_w_r f (order ++ [(i : Int)]) l b = some ((), upd b (R i)) := by
   intro i hi hni
   obtain ⟨r, r0, r1, r2, r3⟩ := ih f g (order ++ [(i : Int)]) (by simp; omega) (by omega) (by omega) (by
    rw [List.nodup_append]; exact ⟨hn, by simp, fun a ha b hb => by rw [List.mem_singleton.1 hb]; rintro rfl; exact hni ha⟩) (fun x hx => by
    rcases List.mem_append.1 hx with hx | hx
    ·exact hin x hx
    ·rw [List.mem_singleton.1 hx]; omega)
   have : R i = r := by rw [hRd]; show (m_ref42_orders_r g l (order ++ [(i : Int)])).getD 0 = r; rw [r2]; rfl
   rw [this]; exact ⟨r0, r1, r2, r3⟩
  have bd := bst_bd order R l.length (fun i hi hni => ⟨(nx i hi hni).1, (nx i hi hni).2.1⟩)
  have ex : ∃ j, j < l.length ∧ ((j : Nat) : Int) ∉ order := by
   refine Classical.byContradiction fun hc => ?_
   have := len_of_sub (ci (List.range l.length)) order (by
    unfold ci; rw [List.nodup_iff_pairwise_ne, List.pairwise_map]; exact List.Pairwise.imp (fun h => by omega) (List.pairwise_lt_range (n := l.length))) (fun x hx => by
    obtain ⟨n, hn, rfl⟩ := ci_mem.1 hx
    exact Classical.byContradiction fun h => hc ⟨n, by simpa using hn, h⟩)
   rw [ci_len, List.length_range] at this; omega
  obtain ⟨b1, b2, b3⟩ := bd l.length (Nat.le_refl _)
  have b4 := b3 ex
  refine ⟨bst order R l.length, b4, b2, ?_, fun b => ?_⟩
  ·simp only [m_ref42_orders_r]
   unfold m_ref42_orders_b
   rw [if_neg (by simp; omega)]
   refine loop_eq (L := fun q s i => m_ref42_orders_l1 l order (m_ref42_orders_r g) q s i) (n := l.length) (by omega) (fun i s => s = bst order R i) (fun q i s hi hs => ?_) (fun q s hs => ?_) (-1) rfl
   ·left
    refine ⟨bst order R (i + 1), rfl, ?_⟩
    simp only [m_ref42_orders_l1]
    rw [if_pos (lt_dec hi), used_ref order (by omega), m_ref42_orders_j2]
    simp only [bst]
    by_cases hc : (i : Int) ∈ order
    ·rw [if_pos (by simpa using hc), if_pos hc, m_ref42_orders_j1, wis (by omega), hs]
    ·obtain ⟨n0, n1, n2, n3⟩ := nx i hi hc
     rw [if_neg (by simpa using hc), if_neg hc, lapp_nil (by omega), Option.bind_some, lapp_ok (by simp; omega), Option.bind_some, n2, Option.bind_some, decide_eq_true n0, Bool.true_and, hs]
     unfold upd
     by_cases hd : bst order R i < 0 ∨ R i < bst order R i
     ·rw [if_pos (by simpa using hd), if_pos hd, m_ref42_orders_j1, wis (by omega)]
     ·rw [if_neg (by simpa using hd), if_neg hd, m_ref42_orders_j1, wis (by omega)]
   ·simp only [m_ref42_orders_l1]; rw [if_neg (by simp), hs]
  ·simp only [m_arena_Optimal_1_w_r]
   unfold m_arena_Optimal_1_w_b
   rw [if_neg (by simp; omega)]
   refine loop_eq (L := fun q s i => m_arena_Optimal_1_w_l1 l order (m_arena_Optimal_1_w_r f) q i s) (n := l.length) (by omega) (fun i s => s = updB b (bst order R i)) (fun q i s hi hs => ?_) (fun q s hs => ?_) b (by simp [bst, updB])
   ·left
    refine ⟨updB b (bst order R (i + 1)), rfl, ?_⟩
    simp only [m_arena_Optimal_1_w_l1]
    rw [if_pos (lt_dec hi), contains_int order _ (by omega), Option.bind_some]
    simp only [bst]
    by_cases hc : (i : Int) ∈ order
    ·rw [if_neg (by simpa using hc), if_pos hc, m_arena_Optimal_1_w_j1, wis (by omega), hs]
    ·obtain ⟨n0, n1, n2, n3⟩ := nx i hi hc
     rw [if_pos (by simpa using hc), if_neg hc, lapp_nil (by omega), Option.bind_some, lapp_ok (by simp; omega), Option.bind_some, n3, Option.bind_some, hs, upd_updB _ _ _ n0]
     simp only [m_arena_Optimal_1_w_j1]
     rw [wis (by omega)]
   ·simp only [m_arena_Optimal_1_w_l1]
    rw [if_neg (by simp), hs]
    unfold updB; rw [if_neg (by omega)]
theorem law_ArenaOptimal (l : List GLifetime) (_ : okL okGLifetime l) : m_law42_ArenaOptimal l = some true := by
 unfold m_law42_ArenaOptimal
 obtain ⟨b, h1, h2⟩ := few_ok l 12 (by omega)
 rw [show m_law42_few l 12 = some b from h1, Option.bind_some, ex42]
 cases b with
 | false => rfl
 | true =>
  obtain ⟨hl, hn⟩ := h2 rfl
  have key : ∃ r, m_arena_Optimal l = some r ∧ m_ref42_Optimal l = some r := by
   obtain ⟨v, v0, v1, v2⟩ := validate l (by omega) fun x hx => by have := hn x hx; omega
   unfold m_arena_Optimal m_ref42_Optimal
   rw [v1, v2, Option.bind_some, Option.bind_some]
   by_cases hv : v = 0
   rotate_left
   ·have c : (!decide (v = 0)) = true := by simpa using hv
    exact ⟨_, if_pos c, if_pos c⟩
   have c : ¬ (!decide (v = 0)) = true := by simpa using hv
   by_cases h7 : 7 < l.length
   ·have d : decide (7 < (l.length : Int)) = true := by simp; omega
    exact ⟨_, (if_neg c).trans (if_pos d), (if_neg c).trans (if_pos d)⟩
   have d : ¬ decide (7 < (l.length : Int)) = true := by simp; omega
   obtain ⟨r, r0, r1, r2, r3⟩ := optimal_rec l (by omega) (v0 hv) l.length fu fu [] (by simp) (by unfold fu; omega) (by unfold fu; omega) List.nodup_nil (by simp)
   refine ⟨(r, 0), (if_neg c).trans ((if_neg d).trans ?_), (if_neg c).trans ((if_neg d).trans ?_)⟩
   ·unfold m_arena_Optimal_1_w
    rw [r3, Option.bind_some, show upd (-1) r = r by unfold upd; rw [if_pos (by omega)]]
    dsimp only
    rw [if_neg (by simp; omega), show max r 0 = r by omega]
   ·unfold m_ref42_orders
    rw [r2, Option.bind_some, if_neg (by simp; omega)]
  obtain ⟨r, r1, r2⟩ := key
  rw [if_neg (by simp), r1, r2, Option.bind_some, Option.bind_some]
  simp [gd]
end Go.Proofs.YtnehbaocbcegpaaDoor
