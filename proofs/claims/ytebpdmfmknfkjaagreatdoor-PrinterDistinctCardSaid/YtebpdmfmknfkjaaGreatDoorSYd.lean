import Derived.Test.YtebpdmfmknfkjaaGreatDoorSYc
namespace Go.Proofs.YtebpdmfmknfkjaaGreatDoor
open Go Go.RowKit Go.Vc
set_option linter.unusedVariables false
set_option linter.unusedSimpArgs false
def wI (x : GIndex) : Nat := x.Lin.L.length + x.At.length + (x.At.map (·.L.length)).sum
def wE : GExpr → Nat
 | ⟨_, _, _, _, l, idx, args⟩ => 1 + l.L.length + idx.length + (idx.map wI).sum + go args
 where go : List GExpr → Nat
  | [] => 0
  | x :: xs => wE x + go xs
theorem wEs_eq : ∀ (xs : List GExpr), wE.go xs = (xs.map wE).sum
 | [] => rfl
 | x :: xs => by rw [wE.go, wEs_eq xs, List.map_cons, List.sum_cons]
theorem wE_eq (x : GExpr) : wE x = 1 + x.Lin.L.length + x.Idx.length + (x.Idx.map wI).sum + (x.Args.map wE).sum := by
 cases x; rw [wE, wEs_eq]
theorem take_sum {zs : List Nat} {i x : Nat} (h : zs[i]? = some x) : (zs.take (i + 1)).sum = (zs.take i).sum + x := by rw [take_succ' h, List.sum_append]; simp
theorem take_le (zs : List Nat) (i : Nat) : (zs.take i).sum ≤ zs.sum := by
 conv => rhs; rw [← List.take_append_drop i zs, List.sum_append]
 omega
theorem mem_le_sum {zs : List Nat} {x : Nat} (h : x ∈ zs) : x ≤ zs.sum := by
 induction zs with
 | nil => cases h
 | cons a zs ih =>
  rw [List.sum_cons]
  rcases List.mem_cons.1 h with rfl | h
  ·omega
  ·have := ih h; omega
theorem stop_loop {R : Type} {L : Nat → Int → Int → Option R} {k : Int → Option R} (zs : List Nat) (hlen : zs.length < 4611686018427387904) {most B : Int} (n0 : Int)
  (rd : ∀ (f i : Nat) (n : Int) (x : Nat), zs[i]? = some x → n0 ≤ n → n ≤ most → ∃ d : Int, 0 ≤ d ∧ n + d ≤ most + B ∧ ((x : Int) ≤ most - n → d = x) ∧ (most - n < x → most - n < d) ∧ L (f + 1) n (i : Int) = L f (n + d) ((i + 1 : Nat) : Int))
  (ex : ∀ (f i : Nat) (n : Int), i ≤ zs.length → (i = zs.length ∨ most < n) → L (f + 1) n (i : Int) = k n) (h1 : n0 ≤ most + B) :
  ∃ n : Int, L fu n0 0 = k n ∧ n0 ≤ n ∧ n ≤ most + B ∧ (n0 + (zs.sum : Nat) ≤ most → n = n0 + (zs.sum : Nat)) ∧ (most < n0 + (zs.sum : Nat) → most < n) := by
 have key : ∀ (m f i : Nat) (n : Int), i + m = zs.length → m < f → n0 ≤ n → n ≤ most + B → (n = n0 + ((zs.take i).sum : Nat) ∨ most < n ∧ most < n0 + (zs.sum : Nat)) →
   ∃ n' : Int, L f n (i : Int) = k n' ∧ n0 ≤ n' ∧ n' ≤ most + B ∧ (n0 + (zs.sum : Nat) ≤ most → n' = n0 + (zs.sum : Nat)) ∧ (most < n0 + (zs.sum : Nat) → most < n') := by
  intro m
  induction m with
  | zero =>
   intro f i n h hf g0 g1 hI
   obtain ⟨f, rfl⟩ : ∃ q, f = q + 1 := ⟨f - 1, by omega⟩
   refine ⟨n, ex f i n (by omega) (.inl (by omega)), g0, g1, ?_, ?_⟩
   ·intro h3; rcases hI with h | ⟨h, h4⟩
    ·rw [h, show i = zs.length by omega, List.take_length]
    ·omega
   ·intro h3; rcases hI with h | ⟨h, h4⟩
    ·rw [h, show i = zs.length by omega, List.take_length]; exact h3
    ·exact h
  | succ m ih =>
   intro f i n h hf g0 g1 hI
   obtain ⟨f, rfl⟩ : ∃ q, f = q + 1 := ⟨f - 1, by omega⟩
   by_cases hn : n ≤ most
   ·have hI : n = n0 + ((zs.take i).sum : Nat) := hI.resolve_right fun h => by omega
    obtain ⟨x, hx⟩ := at_some (l := zs) (i := i) (by omega)
    obtain ⟨d, d0, d1, d2, d3, d4⟩ := rd f i n x hx g0 hn
    rw [d4]
    have ht := take_sum hx
    have hs := take_le zs (i + 1)
    refine ih f (i + 1) (n + d) (by omega) (by omega) (by omega) d1 ?_
    by_cases hx2 : (x : Int) ≤ most - n
    ·left; rw [d2 hx2, ht, hI]; omega
    ·right; have := d3 (by omega); exact ⟨by omega, by omega⟩
   ·refine ⟨n, ex f i n (by omega) (.inr (by omega)), g0, g1, ?_, fun _ => by omega⟩
    intro h3
    have hs := take_le zs i
    rcases hI with h | ⟨_, h4⟩ <;> omega
 exact key zs.length fu 0 n0 (by omega) (by unfold fu; omega) (by omega) h1 (.inl (by simp))
theorem okGExpr.out {e : GExpr} (h : okGExpr e) : okGLin e.Lin ∧ okW okGIndex e.Idx ∧ okW okGExpr e.Args := by obtain ⟨_, _, _, _, h1, h2, h3⟩ := okGExpr_iff.1 h; exact ⟨h1, h2, h3⟩
theorem map_at {α β : Type} {f : α → β} {l : List α} {i : Nat} {y : β} (h : (l.map f)[i]? = some y) : ∃ x, l[i]? = some x ∧ f x = y := by rw [List.getElem?_map, Option.map_eq_some_iff] at h; exact h
theorem wi_ {p : Int} (h : -4611686018427387904 ≤ p ∧ p ≤ 4611686018427387904) : wi64 p = p := wr_i64 (p := p) ⟨by omega, by omega⟩
theorem weigh_r : ∀ (f : Nat) (e : GExpr) (most : Int), okGExpr e → 0 ≤ most → most ≤ 300 → most < (f : Int) →
  ∃ r, m_base_Weigh_r f e most = some r ∧ 0 ≤ r ∧ r ≤ most + 562949953421312 ∧ ((wE e : Int) ≤ most → r = wE e) ∧ (most < (wE e : Int) → most < r)
 | 0, e, most, _, h0, _, hf => by omega
 | f + 1, e, most, he, h0, h3, hf => by
  obtain ⟨hL, hI, hA⟩ := he.out
  have l1 := hL.2.2
  have l2 := hI.2
  have l3 := hA.2
  show ∃ r, m_base_Weigh_b (m_base_Weigh_r f) e most = some r ∧ _
  unfold m_base_Weigh_b
  rw [wi_ (p := 1 + (e.Lin.L.length : Int)) (by omega), wi_ (p := 1 + (e.Lin.L.length : Int) + (e.Idx.length : Int)) (by omega), Option.bind_some]
  have args : ∀ n : Int, 1 ≤ n → n ≤ most + 562949953421312 → ∃ r, m_base_Weigh_j1 e most (m_base_Weigh_r f) n = some r ∧ n ≤ r ∧ r ≤ most + 562949953421312 ∧ (n + (((e.Args.map wE).sum : Nat) : Int) ≤ most → r = n + (((e.Args.map wE).sum : Nat) : Int)) ∧ (most < n + (((e.Args.map wE).sum : Nat) : Int) → most < r) := by
   intro n hn1 hn2
   refine stop_loop (L := fun f' n i => m_base_Weigh_l1 e most (m_base_Weigh_r f) f' n i) (k := some) (e.Args.map wE) (by rw [List.length_map]; omega) n ?_ ?_ hn2
   ·intro f' i n' x hx g0 g1
    obtain ⟨y, hy, rfl⟩ := map_at hx
    have hi := (List.getElem?_eq_some_iff.1 hy).1
    obtain ⟨r, q1, q2, q3, q4, q5⟩ := weigh_r f y (most - n') (hA.1 y (List.mem_of_getElem? hy)) (by omega) (by omega) (by omega)
    refine ⟨r, q2, by omega, q4, q5, ?_⟩
    simp only [m_base_Weigh_l1]
    rw [lt_dec hi, decide_eq_true g1, Bool.and_self, if_pos rfl, lat_at hy, Option.bind_some, wi_ (p := most - n') (by omega), q1, Option.bind_some, wi_ (p := n' + r) (by omega), wis (by omega)]
   ·intro f' i n' hi hor
    rw [List.length_map] at hi hor
    simp only [m_base_Weigh_l1]
    rw [if_neg]
    rcases hor with h | h
    ·simp [h]
    ·simp; omega
  have idx : ∃ n, m_base_Weigh_l2 e most (m_base_Weigh_r f) fu (1 + (e.Lin.L.length : Int) + (e.Idx.length : Int)) 0 = m_base_Weigh_j1 e most (m_base_Weigh_r f) n ∧ 1 + (e.Lin.L.length : Int) + (e.Idx.length : Int) ≤ n ∧ n ≤ most + 562949953421312 ∧
    (1 + (e.Lin.L.length : Int) + (e.Idx.length : Int) + (((e.Idx.map wI).sum : Nat) : Int) ≤ most → n = 1 + (e.Lin.L.length : Int) + (e.Idx.length : Int) + (((e.Idx.map wI).sum : Nat) : Int)) ∧ (most < 1 + (e.Lin.L.length : Int) + (e.Idx.length : Int) + (((e.Idx.map wI).sum : Nat) : Int) → most < n) := by
   refine stop_loop (L := fun f' n i => m_base_Weigh_l2 e most (m_base_Weigh_r f) f' n i) (k := m_base_Weigh_j1 e most (m_base_Weigh_r f)) (e.Idx.map wI) (by rw [List.length_map]; omega) _ ?_ ?_ (by omega)
   ·intro f' i n x hx g0 g1
    obtain ⟨y, hy, rfl⟩ := map_at hx
    have hi := (List.getElem?_eq_some_iff.1 hy).1
    obtain ⟨o1, _, o2⟩ := hI.1 y (List.mem_of_getElem? hy)
    have p1 := o1.2.2
    have p2 := o2.2
    obtain ⟨n', q1, q2, q3, q4, q5⟩ := stop_loop (L := fun f'' n k => m_base_Weigh_l3 e (i : Int) most (m_base_Weigh_l2 e most (m_base_Weigh_r f) f') f'' n k) (k := fun n => m_base_Weigh_l2 e most (m_base_Weigh_r f) f' n ((i + 1 : Nat) : Int)) (y.At.map (·.L.length)) (by rw [List.length_map]; omega) (most := most) (B := 562949953421312) (n + (y.Lin.L.length : Int) + (y.At.length : Int)) (by
     intro f'' k n'' x hx g2 g3
     obtain ⟨z, hz, rfl⟩ := map_at hx
     have hk := (List.getElem?_eq_some_iff.1 hz).1
     have p3 := (o2.1 z (List.mem_of_getElem? hz)).2.2
     refine ⟨(z.L.length : Int), by omega, by omega, fun _ => rfl, fun h => h, ?_⟩
     simp only [m_base_Weigh_l3]
     rw [lat_at hy, Option.bind_some, lt_dec hk, decide_eq_true g3, Bool.and_self, if_pos rfl, Option.bind_some, lat_at hz, Option.bind_some, Option.bind_some, wi_ (p := n'' + (z.L.length : Int)) (by omega), wis (by omega)]) (by
     intro f'' k n'' hk hor
     rw [List.length_map] at hk hor
     simp only [m_base_Weigh_l3]
     rw [lat_at hy, Option.bind_some, if_neg]
     ·unfold m_base_Weigh_j2; rw [wis (by omega)]
     ·rcases hor with h | h
      ·simp [h]
      ·simp; omega) (by omega)
    refine ⟨n' - n, by omega, by omega, fun h => ?_, fun h => ?_, ?_⟩
    ·have := q4 (by unfold wI at h; omega)
     unfold wI; omega
    ·have := q5 (by unfold wI at h; omega)
     omega
    ·simp only [m_base_Weigh_l2]
     rw [lt_dec hi, decide_eq_true g1, Bool.and_self, if_pos rfl, lat_at hy, Option.bind_some, Option.bind_some, wi_ (p := n + (y.Lin.L.length : Int)) (by omega), wi_ (p := n + (y.Lin.L.length : Int) + (y.At.length : Int)) (by omega), q1, show n + (n' - n) = n' by omega]
   ·intro f' i n' hi hor
    rw [List.length_map] at hi hor
    simp only [m_base_Weigh_l2]
    rw [if_neg]
    rcases hor with h | h
    ·simp [h]
    ·simp; omega
  obtain ⟨n, i1, i2, i3, i4, i5⟩ := idx
  obtain ⟨r, a1, a2, a3, a4, a5⟩ := args n (by omega) i3
  refine ⟨r, by rw [i1, a1], by omega, a3, ?_, ?_⟩
  ·rw [wE_eq]
   intro h
   have e1 := i4 (by omega)
   have e2 := a4 (by omega)
   omega
  ·rw [wE_eq]
   intro h
   by_cases hc : 1 + (e.Lin.L.length : Int) + (e.Idx.length : Int) + (((e.Idx.map wI).sum : Nat) : Int) ≤ most
   ·have e1 := i4 hc
    exact a5 (by omega)
   ·have := i5 (by omega); omega
theorem base_Weigh {e : GExpr} (he : okGExpr e) {most : Int} (h0 : 0 ≤ most) (h : most ≤ 300) : ∃ r, m_base_Weigh e most = some r ∧ ((wE e : Int) ≤ most → r = wE e) ∧ (most < (wE e : Int) → most < r) := by
 obtain ⟨r, h1, _, _, h4, h5⟩ := weigh_r fu e most he h0 h (by unfold fu; omega)
 exact ⟨r, h1, h4, h5⟩
theorem ref15_Small {e : GExpr} (he : okGExpr e) : m_ref15_Small e = some (decide (wE e ≤ 300)) := by
 obtain ⟨r, h1, h2, h3⟩ := base_Weigh he (most := 300) (by omega) (by omega)
 unfold m_ref15_Small
 rw [h1, Option.bind_some]
 refine congrArg some (decide_eq_decide.2 ?_)
 constructor
 ·intro h; by_cases hc : wE e ≤ 300
  ·exact hc
  ·have := h3 (by omega); omega
 ·intro h; have := h2 (by omega); omega
end Go.Proofs.YtebpdmfmknfkjaaGreatDoor
