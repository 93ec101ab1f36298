import Derived.Test.YtaokohndeepbjaaSWj
namespace Go.Proofs.Ytaokohndeepbjaa
open Go Go.RowKit Go.Vc
set_option linter.unusedVariables false
set_option linter.unusedSimpArgs false
theorem loop_two4 {σ τ R S : Type} {L : Nat → σ → Int → Option R} {M : Nat → τ → Int → Option S} {n : Nat} (hn : n < 4611686018427387904) (I : Nat → σ → τ → Prop) (Q : Option R → Option S → Prop)
  (rd : ∀ i s t, i < n → I i s t → (∃ s' t', I (i + 1) s' t' ∧ (∀ f, L (f + 1) s (i : Int) = L f s' ((i + 1 : Nat) : Int)) ∧ ∀ f, M (f + 1) t (i : Int) = M f t' ((i + 1 : Nat) : Int)) ∨ ∃ r q, Q r q ∧ (∀ f, L (f + 1) s (i : Int) = r) ∧ ∀ f, M (f + 1) t (i : Int) = q)
  (fin : ∀ s t, I n s t → ∃ r q, Q r q ∧ (∀ f, L (f + 1) s (n : Int) = r) ∧ ∀ f, M (f + 1) t (n : Int) = q) (s : σ) (t : τ) (h0 : I 0 s t) : ∃ r q, Q r q ∧ L fu s 0 = r ∧ M fu t 0 = q := by
 have key : ∀ (k f g i : Nat) (s : σ) (t : τ), i + k = n → k < f → k < g → I i s t → ∃ r q, Q r q ∧ L f s (i : Int) = r ∧ M g t (i : Int) = q := by
  intro k
  induction k with
  | zero =>
   intro f g i s t h hf hg hI
   obtain ⟨f, rfl⟩ : ∃ q, f = q + 1 := ⟨f - 1, by omega⟩
   obtain ⟨g, rfl⟩ : ∃ q, g = q + 1 := ⟨g - 1, by omega⟩
   obtain rfl : i = n := by omega
   obtain ⟨r, q, h0, h1, h2⟩ := fin s t hI
   exact ⟨r, q, h0, h1 f, h2 g⟩
  | succ k ih =>
   intro f g i s t h hf hg hI
   obtain ⟨f, rfl⟩ : ∃ q, f = q + 1 := ⟨f - 1, by omega⟩
   obtain ⟨g, rfl⟩ : ∃ q, g = q + 1 := ⟨g - 1, by omega⟩
   rcases rd i s t (by omega) hI with ⟨s', t', h1, h2, h3⟩ | ⟨r, q, h0, h1, h2⟩
   ·rw [h2, h3]; exact ih f g (i + 1) s' t' (by omega) (by omega) (by omega) h1
   ·exact ⟨r, q, h0, h1 f, h2 g⟩
 exact key n fu fu 0 s t (by omega) (by unfold fu; omega) (by unfold fu; omega) h0
theorem drop_nil {α : Type} {l : List α} {i : Nat} (h : l.length ≤ i) : l.drop i = [] := List.drop_of_length_le h
theorem okM_c {by_ : Int} {y : GMono} {b : List GMono} : okM by_ (y :: b) ↔ R64 (y.By * by_) ∧ okM by_ b := ⟨fun h => ⟨h y (by simp), fun m hm => h m (by simp [hm])⟩, fun ⟨h1, h2⟩ m hm => by
 rcases List.mem_cons.1 hm with rfl | hm
 ·exact h1
 ·exact h2 m hm⟩
theorem scM_c (by_ : Int) (y : GMono) (b : List GMono) : scM by_ (y :: b) = ⟨y.Name, y.By * by_⟩ :: scM by_ b := rfl
theorem plus_l1 (a b : GLin) (by_ : Int) (hby : R64 by_) (h0 : by_ ≠ 0) (wa : ∀ m ∈ a.L, R64 m.By) (wb : ∀ m ∈ b.L, R64 m.By ∧ m.By ≠ 0) (hl : a.L.length + b.L.length ≤ 100000) :
  ∀ (n f i j : Nat) (good : Bool) (out : GLin), (a.L.drop i).length + (b.L.drop j).length ≤ n → n < f → i ≤ a.L.length → j ≤ b.L.length → out.L.length + n < 1000000 →
   ∃ o g, m_ref10_plus_l1 a b by_ f good i j out = some (o, g) ∧ (g = true ↔ good = true ∧ okM by_ (b.L.drop j) ∧ okA (a.L.drop i) (scM by_ (b.L.drop j))) ∧ (okM by_ (b.L.drop j) → okA (a.L.drop i) (scM by_ (b.L.drop j)) → o = ⟨out.K, out.L ++ mrg (a.L.drop i) (scM by_ (b.L.drop j))⟩) := by
 intro n
 induction n with
 | zero =>
  intro f i j good out hn hf hi hj ho
  obtain ⟨f, rfl⟩ : ∃ g, f = g + 1 := ⟨f - 1, by omega⟩
  rw [List.length_drop, List.length_drop] at hn
  rw [drop_nil (l := a.L) (i := i) (by omega), drop_nil (l := b.L) (i := j) (by omega)]
  refine ⟨out, good, ?_, by simp [okM, okA], fun _ _ => by simp [mrg, scM]⟩
  simp only [m_ref10_plus_l1]
  rw [if_neg (by simp; omega)]
 | succ n ih =>
  intro f i j good out hn hf hi hj ho
  obtain ⟨f, rfl⟩ : ∃ g, f = g + 1 := ⟨f - 1, by omega⟩
  simp only [m_ref10_plus_l1]
  have takeA : ∀ x, a.L[i]? = some x → ∃ o g, ((lapp out.L [x]).bind fun zs1 => m_ref10_plus_l1 a b by_ f good (wi64 ((i : Int) + 1)) (j : Int) ⟨out.K, zs1⟩) = some (o, g) ∧ (g = true ↔ good = true ∧ okM by_ (b.L.drop j) ∧ okA (a.L.drop (i + 1)) (scM by_ (b.L.drop j))) ∧ (okM by_ (b.L.drop j) → okA (a.L.drop (i + 1)) (scM by_ (b.L.drop j)) → o = ⟨out.K, out.L ++ x :: mrg (a.L.drop (i + 1)) (scM by_ (b.L.drop j))⟩) := by
   intro x hx
   have hil := (List.getElem?_eq_some_iff.1 hx).1
   rw [List.length_drop, List.length_drop] at hn
   obtain ⟨o, g, e1, e2, e3⟩ := ih f (i + 1) j good ⟨out.K, out.L ++ [x]⟩ (by rw [List.length_drop, List.length_drop]; omega) (by omega) (by omega) hj (by simp; omega)
   exact ⟨o, g, by rw [lapp_ok (by simp; omega), Option.bind_some, wis (by omega)]; exact e1, e2, fun h1 h2 => by rw [e3 h1 h2]; simp⟩
  have takeB : ∀ y (i2 : Nat) (n1 : Int) (fit : Bool), b.L[j]? = some y → (a.L.drop i2).length ≤ (a.L.drop i).length → i2 ≤ a.L.length → ∃ o g, m_ref10_plus_j1 out y (m_ref10_plus_l1 a b by_ f) good (j : Int) (i2 : Int) n1 fit = some (o, g) ∧ (g = true ↔ (good && fit) = true ∧ okM by_ (b.L.drop (j + 1)) ∧ okA (a.L.drop i2) (scM by_ (b.L.drop (j + 1)))) ∧ (okM by_ (b.L.drop (j + 1)) → okA (a.L.drop i2) (scM by_ (b.L.drop (j + 1))) → o = ⟨out.K, out.L ++ ((if n1 = 0 then [] else [⟨y.Name, n1⟩]) ++ mrg (a.L.drop i2) (scM by_ (b.L.drop (j + 1))))⟩) := by
   intro y i2 n1 fit hy h2 h3
   have hjl := (List.getElem?_eq_some_iff.1 hy).1
   rw [List.length_drop] at hn h2
   rw [List.length_drop] at hn h2
   unfold m_ref10_plus_j1
   by_cases c : n1 = 0
   ·obtain ⟨o, g, e1, e2, e3⟩ := ih f i2 (j + 1) (good && fit) out (by rw [List.length_drop, List.length_drop]; omega) (by omega) h3 (by omega) (by omega)
    exact ⟨o, g, by rw [if_neg (by simpa using c), wis (by omega)]; exact e1, e2, fun k1 k2 => by rw [e3 k1 k2, if_pos c]; simp⟩
   ·obtain ⟨o, g, e1, e2, e3⟩ := ih f i2 (j + 1) (good && fit) ⟨out.K, out.L ++ [⟨y.Name, n1⟩]⟩ (by rw [List.length_drop, List.length_drop]; omega) (by omega) h3 (by omega) (by simp; omega)
    exact ⟨o, g, by rw [if_pos (by simpa using c), lapp_ok (by simp; omega), Option.bind_some, wis (by omega)]; exact e1, e2, fun k1 k2 => by rw [e3 k1 k2, if_neg c]; simp⟩
  by_cases hj2 : b.L.length ≤ j
  ·rw [drop_nil hj2]
   by_cases hi2 : a.L.length ≤ i
   ·rw [List.drop_of_length_le hi2]
    refine ⟨out, good, ?_, by simp [okM, okA], fun _ _ => by simp [mrg, scM]⟩
    rw [if_neg (by simp; omega)]
   ·obtain ⟨x, hx⟩ := at_some (l := a.L) (i := i) (by omega)
    obtain ⟨o, g, e1, e2, e3⟩ := takeA x hx
    rw [drop_nil hj2] at e2 e3
    rw [drop_at hx]
    refine ⟨o, g, ?_, by rw [e2]; simp [okM, scM, okA, okA_nil], fun h1 _ => ?_⟩
    ·rw [if_pos (by simp; omega), lat_at hx, decide_eq_true (p := (b.L.length : Int) ≤ (j : Int)) (by omega), decide_eq_true (p := (i : Int) < (a.L.length : Int)) (by omega)]
     simp only [gd, Bool.not_true, Bool.false_and, Bool.true_or, Bool.false_eq_true, if_false, if_true, Option.bind_some]
     exact e1
    ·rw [e3 h1 (by simp [scM, okA_nil])]; simp [scM, mrg, mrg_nil]
  ·obtain ⟨y, hy⟩ := at_some (l := b.L) (i := j) (by omega)
   obtain ⟨hyb, hy0⟩ := wb y (List.mem_of_getElem? hy)
   rw [drop_at hy, scM_c, okM_c]
   rw [decide_eq_false (p := (b.L.length : Int) ≤ (j : Int)) (by omega), decide_eq_true (p := (j : Int) < (b.L.length : Int)) (by omega), if_pos (by simp), lat_at hy]
   by_cases hi2 : a.L.length ≤ i
   ·rw [List.drop_of_length_le hi2, decide_eq_false (p := (i : Int) < (a.L.length : Int)) (by omega)]
    simp only [gd, Bool.not_false, Bool.and_false, Bool.false_and, Bool.false_or, Bool.false_eq_true, if_false, if_true, Option.bind_some]
    rw [base_Times hyb hby]
    by_cases c : R64 (y.By * by_)
    ·rw [if_pos c]
     obtain ⟨o, g, e1, e2, e3⟩ := takeB y i (y.By * by_) true hy (Nat.le_refl _) hi
     rw [drop_nil hi2] at e2 e3
     refine ⟨o, g, e1, by rw [e2, Bool.and_true]; exact ⟨fun h => ⟨h.1, ⟨c, h.2.1⟩, by simp [okA]⟩, fun h => ⟨h.1, h.2.1.2, by simp [okA]⟩⟩, fun h1 _ => ?_⟩
     rw [e3 h1.2 (by simp [okA]), if_neg (Int.mul_ne_zero hy0 h0)]; simp [mrg]
    ·rw [if_neg c]
     obtain ⟨o, g, e1, e2, e3⟩ := takeB y i 0 false hy (Nat.le_refl _) hi
     exact ⟨o, g, e1, by rw [e2]; exact ⟨fun h => absurd h.1 (by simp), fun h => absurd h.2.1.1 c⟩, fun h1 => absurd h1.1 c⟩
   ·obtain ⟨x, hx⟩ := at_some (l := a.L) (i := i) (by omega)
    have hxa := wa x (List.mem_of_getElem? hx)
    have hA := takeA x hx
    rw [drop_at hy, scM_c, okM_c] at hA
    rw [drop_at hx, decide_eq_true (p := (i : Int) < (a.L.length : Int)) (by omega), lat_at hx]
    simp only [gd, Bool.not_false, Bool.and_true, Bool.true_and, Bool.false_or, if_true, Option.bind_some]
    by_cases c1 : Op.bytesLess x.Name y.Name = true
    ·obtain ⟨o, g, e1, e2, e3⟩ := hA
     refine ⟨o, g, by rw [if_pos c1]; exact e1, by rw [e2, okA_cc, if_pos c1], fun h1 h2 => ?_⟩
     rw [okA_cc, if_pos c1] at h2
     rw [e3 h1 h2, mrg_cc, if_pos c1]
    rw [if_neg c1, base_Times hyb hby]
    by_cases c2 : Op.bytesLess y.Name x.Name = true
    ·have hne : ¬ x.Name = y.Name := fun e => bl_ne c2 e.symm
     by_cases c : R64 (y.By * by_)
     ·rw [if_pos c]
      obtain ⟨o, g, e1, e2, e3⟩ := takeB y i (y.By * by_) true hy (Nat.le_refl _) hi
      rw [drop_at hx] at e2 e3
      refine ⟨o, g, by rw [Option.bind_some, if_neg (by simpa using hne)]; exact e1, by rw [e2, okA_cc, if_neg c1, if_pos c2, Bool.and_true]; exact ⟨fun h => ⟨h.1, ⟨c, h.2.1⟩, h.2.2⟩, fun h => ⟨h.1, h.2.1.2, h.2.2⟩⟩, fun h1 h2 => ?_⟩
      rw [okA_cc, if_neg c1, if_pos c2] at h2
      rw [e3 h1.2 h2, if_neg (Int.mul_ne_zero hy0 h0), mrg_cc, if_neg c1, if_pos c2]; rfl
     ·rw [if_neg c]
      obtain ⟨o, g, e1, e2, e3⟩ := takeB y i 0 false hy (Nat.le_refl _) hi
      exact ⟨o, g, by rw [Option.bind_some, if_neg (by simpa using hne)]; exact e1, by rw [e2]; exact ⟨fun h => absurd h.1 (by simp), fun h => absurd h.2.1.1 c⟩, fun h1 => absurd h1.1 c⟩
    ·have he : x.Name = y.Name := bl_tri _ _ (by simpa using c1) (by simpa using c2)
     have hd : (a.L.drop (i + 1)).length ≤ (a.L.drop i).length := by rw [List.length_drop, List.length_drop]; omega
     have he' : decide (x.Name = y.Name) = true := by simpa using he
     by_cases c : R64 (y.By * by_)
     ·rw [if_pos c, Option.bind_some, if_pos he', wis (by omega), base_Plus hxa c]
      by_cases cp : R64 (x.By + y.By * by_)
      ·rw [if_pos cp, Option.bind_some]
       obtain ⟨o, g, e1, e2, e3⟩ := takeB y (i + 1) (x.By + y.By * by_) (true && true) hy hd (by omega)
       refine ⟨o, g, e1, by rw [e2, okA_cc, if_neg c1, if_neg c2, Bool.and_self, Bool.and_true]; exact ⟨fun h => ⟨h.1, ⟨c, h.2.1⟩, cp, h.2.2⟩, fun h => ⟨h.1, h.2.1.2, h.2.2.2⟩⟩, fun h1 h2 => ?_⟩
       rw [okA_cc, if_neg c1, if_neg c2] at h2
       rw [e3 h1.2 h2.2, mrg_cc, if_neg c1, if_neg c2]
       dsimp only
       split
       ·simp
       ·rw [he]; simp
      ·rw [if_neg cp, Option.bind_some]
       obtain ⟨o, g, e1, e2, e3⟩ := takeB y (i + 1) 0 (true && false) hy hd (by omega)
       refine ⟨o, g, e1, by rw [e2, okA_cc, if_neg c1, if_neg c2]; exact ⟨fun h => absurd h.1 (by simp), fun h => absurd h.2.2.1 cp⟩, fun h1 h2 => ?_⟩
       rw [okA_cc, if_neg c1, if_neg c2] at h2
       exact absurd h2.1 cp
     ·rw [if_neg c, Option.bind_some, if_pos he', wis (by omega), base_Plus hxa (by decide)]
      obtain ⟨n1, b1, en⟩ : ∃ n1 b1, (if R64 (x.By + 0) then (x.By + 0, true) else (0, false)) = ((n1 : Int), (b1 : Bool)) := ⟨_, _, rfl⟩
      rw [en, Option.bind_some]
      obtain ⟨o, g, e1, e2, e3⟩ := takeB y (i + 1) n1 (false && b1) hy hd (by omega)
      exact ⟨o, g, e1, by rw [e2]; exact ⟨fun h => absurd h.1 (by simp), fun h => absurd h.2.1.1 c⟩, fun h1 => absurd h1.1 c⟩
def cmb (l b : GLin) (by_ : Int) : GLin := ⟨l.K + b.K * by_, mrg l.L (scM by_ b.L)⟩
def okC (l b : GLin) (by_ : Int) : Prop := (R64 (b.K * by_) ∧ okM by_ b.L) ∧ R64 (l.K + b.K * by_) ∧ okA l.L (scM by_ b.L)
theorem plus_ref (l b : GLin) (by_ : Int) (hby : R64 by_) (h0 : by_ ≠ 0) (wl : Wf l) (wb : Wf b) (ob : okLin b) (hl : l.L.length + b.L.length ≤ 100000) :
  ∃ o g, m_ref10_plus l b by_ = some (o, g) ∧ (g = true ↔ okC l b by_) ∧ (okC l b by_ → o = cmb l b by_) := by
 unfold m_ref10_plus
 rw [base_Times wb.k hby, Option.bind_some]
 have key : ∀ (k0 : Int) (g0 : Bool), ∃ o g, m_ref10_plus_l1 l b by_ fu g0 0 0 ⟨k0, []⟩ = some (o, g) ∧ (g = true ↔ g0 = true ∧ okM by_ b.L ∧ okA l.L (scM by_ b.L)) ∧ (okM by_ b.L → okA l.L (scM by_ b.L) → o = ⟨k0, mrg l.L (scM by_ b.L)⟩) := fun k0 g0 => by
  obtain ⟨o, g, e1, e2, e3⟩ := plus_l1 l b by_ hby h0 wl.b (fun m hm => ⟨wb.b m hm, (ob.1 m hm).2⟩) hl (l.L.length + b.L.length) fu 0 0 g0 ⟨k0, []⟩ (by simp) (by unfold fu; omega) (by omega) (by omega) (by simp; omega)
  exact ⟨o, g, e1, by simpa using e2, by simpa using e3⟩
 unfold okC cmb
 by_cases c : R64 (b.K * by_)
 ·rw [if_pos c, base_Plus wl.k c]
  by_cases cp : R64 (l.K + b.K * by_)
  ·rw [if_pos cp, Option.bind_some]
   obtain ⟨o, g, e1, e2, e3⟩ := key (l.K + b.K * by_) (true && true)
   exact ⟨o, g, e1, by rw [e2]; exact ⟨fun h => ⟨⟨c, h.2.1⟩, cp, h.2.2⟩, fun h => ⟨rfl, h.1.2, h.2.2⟩⟩, fun h => e3 h.1.2 h.2.2⟩
  ·rw [if_neg cp, Option.bind_some]
   obtain ⟨o, g, e1, e2, e3⟩ := key 0 (true && false)
   exact ⟨o, g, e1, by rw [e2]; exact ⟨fun h => absurd h.1 (by simp), fun h => absurd h.2.1 cp⟩, fun h => absurd h.2.1 cp⟩
 ·rw [if_neg c, base_Plus wl.k (by decide)]
  obtain ⟨n1, b1, en⟩ : ∃ n1 b1, (if R64 (l.K + 0) then (l.K + 0, true) else (0, false)) = ((n1 : Int), (b1 : Bool)) := ⟨_, _, rfl⟩
  rw [en, Option.bind_some]
  obtain ⟨o, g, e1, e2, e3⟩ := key n1 (false && b1)
  exact ⟨o, g, e1, by rw [e2]; exact ⟨fun h => absurd h.1 (by simp), fun h => absurd h.1.1 c⟩, fun h => absurd h.1.1 c⟩
theorem step_prog (l b : GLin) (by_ : Int) (hby : R64 by_) (h0 : by_ ≠ 0) (ol : okLin l) (ob : okLin b) (wl : Wf l) (wb : Wf b) (hl : l.L.length + b.L.length ≤ 100000) :
  ∃ r5, m_lin_Scale b by_ = some r5 ∧ ((r5.2 = 3 ∧ ¬ okC l b by_) ∨ (r5.2 = 0 ∧ ∃ r6, m_lin_Add l r5.1 = some r6 ∧ ((r6.2 = 3 ∧ ¬ okC l b by_) ∨ (r6 = (cmb l b by_, 0) ∧ okC l b by_)))) := by
 obtain ⟨r5, e5, h5⟩ := Scale_ok b by_ ob wb hby h0 (by omega)
 refine ⟨r5, e5, ?_⟩
 rcases h5 with ⟨rfl, k1, k2⟩ | ⟨rfl, k⟩
 ·right
  refine ⟨rfl, ?_⟩
  have wsc : Wf ⟨b.K * by_, scM by_ b.L⟩ := ⟨k1, fun m hm => by
   unfold scM at hm; obtain ⟨q, hq, rfl⟩ := List.mem_map.1 hm; exact k2 q hq, by have := wb.len; simp only [scM_len]; omega⟩
  obtain ⟨r6, e6, h6⟩ := Add_ok l ⟨b.K * by_, scM by_ b.L⟩ ol ⟨scM_ok h0 ob.1, scM_asc ob.2⟩ wl wsc (by simp only [scM_len]; omega)
  refine ⟨r6, e6, ?_⟩
  rcases h6 with ⟨rfl, q1, q2⟩ | ⟨rfl, q⟩
  ·exact .inr ⟨rfl, ⟨k1, k2⟩, q1, q2⟩
  ·exact .inl ⟨rfl, fun h => q h.2⟩
 ·exact .inl ⟨rfl, fun h => k h.1⟩
theorem cmb_ok (names : List (List UInt8)) (l b : GLin) (by_ : Int) (h0 : by_ ≠ 0) (ol : okForm names l) (ob : okForm names b) (wl : Wf l) (wb : Wf b) (hl : l.L.length + b.L.length ≤ 100000) (hc : okC l b by_) :
  okForm names (cmb l b by_) ∧ Wf (cmb l b by_) ∧ (cmb l b by_).L.length ≤ l.L.length + b.L.length ∧ ∀ v, ev v (cmb l b by_) = ev v l + by_ * ev v b := by
 obtain ⟨⟨c1, c2⟩, c3, c4⟩ := hc
 have hlen := mrg_len l.L (scM by_ b.L)
 rw [scM_len] at hlen
 have hsc := scM_ok h0 ob.1.1
 refine ⟨⟨⟨?_, mrg_asc _ _ ol.1.2 (scM_asc ob.1.2)⟩, ?_⟩, ⟨c3, ?_, ?_⟩, hlen, fun v => ?_⟩
 ·exact mrg_all (P := fun m => nameB m.Name = true ∧ m.By ≠ 0) (fun x y hx hy _ _ _ hz => ⟨hx.1, hz⟩) _ _ c4 ol.1.1 hsc
 ·intro m hm
  rcases mrg_names _ _ m hm with ⟨q, hq, e⟩ | ⟨q, hq, e⟩
  ·rw [← e]; exact ol.2 q hq
  ·rw [← e]; unfold scM at hq; obtain ⟨z, hz, rfl⟩ := List.mem_map.1 hq; exact ob.2 z hz
 ·exact mrg_all (P := fun m => R64 m.By) (fun x y _ _ _ _ h _ => h) _ _ c4 wl.b (fun m hm => by unfold scM at hm; obtain ⟨q, hq, rfl⟩ := List.mem_map.1 hm; exact c2 q hq)
 ·show (mrg l.L (scM by_ b.L)).length ≤ _; omega
 ·unfold ev cmb
  dsimp only
  rw [esum_mrg, esum_sc, Int.mul_add, Int.mul_comm b.K by_]; omega
def fl : List (List UInt8) → List GLin → List UInt8 → GLin
 | n :: ns, x :: p, s => if n = s then x else fl ns p s
 | _, _, _ => ⟨0, []⟩
theorem fl_at {names : List (List UInt8)} {p : List GLin} {s : List UInt8} {i : Nat} {x : GLin} (h1 : names[i]? = some s) (h2 : ∀ j, j < i → ∀ y, names[j]? = some y → y ≠ s) (hx : p[i]? = some x) : fl names p s = x := by
 induction names generalizing p i with
 | nil => simp at h1
 | cons n ns ih =>
  cases p with
  | nil => simp at hx
  | cons a p =>
   cases i with
   | zero => simp at h1 hx; simp [fl, h1, hx]
   | succ i =>
    have := h2 0 (by omega) n (by simp)
    simp only [fl]
    rw [if_neg this]
    exact ih (by simpa using h1) (fun j hj y hy => h2 (j + 1) (by omega) y (by simpa using hy)) (by simpa using hx)
structure Cp (names : List (List UInt8)) (m : List GLin) (f c : GLin) : Prop where
 ok : okForm names c
 wf : Wf c
 val : ∀ v, ev v c = ev (fun s => ev v (fl names m s)) f
def goOn (R : Option GLin) (j : GLin → Option (List GLin × Int)) : Option (List GLin × Int) := match R with | some c => j c | none => some ([], 3)
open Classical in
noncomputable def cfold (names : List (List UInt8)) (m : List GLin) : List GMono → GLin → Option GLin
 | [], s => some s
 | x :: L, s => if okC s (fl names m x.Name) x.By then cfold names m L (cmb s (fl names m x.Name) x.By) else none
theorem form_uni (m : List GLin) (names : List (List UInt8)) (next : List GLin) (hm : okMap m names) (hml : m.length = names.length) (wm : ∀ f ∈ m, Wf f) (h20 : ∀ f ∈ m, f.L.length ≤ 20) (i : Nat) (f : GLin) (hf : next[i]? = some f) (of : okForm names f) (wf : Wf f) (hfl : f.L.length ≤ 20) (out : List GLin) :
  ∃ R : Option GLin, (∀ c, R = some c → Cp names m f c) ∧ ∀ sp sr : List GLin → Int → Option (List GLin × Int), m_affine_Compose_l2 f names m out sp (i : Int) fu 0 ⟨f.K, []⟩ = goOn R (fun c => m_affine_Compose_j2 out sp (i : Int) c) ∧
   m_ref10_Compose_l2 next (i : Int) names m out sr fu 0 ⟨f.K, []⟩ = goOn R (fun c => m_ref10_Compose_j2 out sr (i : Int) c) := by
 have main : ∀ sp sr : List GLin → Int → Option (List GLin × Int), (∀ c, cfold names m f.L ⟨f.K, []⟩ = some c → Cp names m f c) ∧ m_affine_Compose_l2 f names m out sp (i : Int) fu 0 ⟨f.K, []⟩ = goOn (cfold names m f.L ⟨f.K, []⟩) (fun c => m_affine_Compose_j2 out sp (i : Int) c) ∧
   m_ref10_Compose_l2 next (i : Int) names m out sr fu 0 ⟨f.K, []⟩ = goOn (cfold names m f.L ⟨f.K, []⟩) (fun c => m_ref10_Compose_j2 out sr (i : Int) c) := by
  intro sp sr
  generalize hR : cfold names m f.L ⟨f.K, []⟩ = R
  obtain ⟨q1, q2, hq, e1, e2⟩ := loop_two4 (L := fun g s k => m_affine_Compose_l2 f names m out sp (i : Int) g k s) (M := fun g s k => m_ref10_Compose_l2 next (i : Int) names m out sr g k s) (n := f.L.length) (by omega)
   (fun k s t => s = t ∧ cfold names m (f.L.drop k) s = R ∧ okForm names s ∧ Wf s ∧ s.L.length ≤ 20 * k ∧ ∀ v, ev v s = f.K + esum (fun s => ev v (fl names m s)) (f.L.take k))
   (fun q1 q2 => (∀ c, R = some c → Cp names m f c) ∧ q1 = goOn R (fun c => m_affine_Compose_j2 out sp (i : Int) c) ∧ q2 = goOn R (fun c => m_ref10_Compose_j2 out sr (i : Int) c))
   (by
    rintro k s t hk ⟨rfl, hcf, os, ws, ls, vs⟩
    obtain ⟨x, hx⟩ := at_some hk
    have hxm := List.mem_of_getElem? hx
    obtain ⟨ix, i1, i2⟩ := first_ix (of.2 x hxm)
    have hnl := hm.2.1
    obtain ⟨b, hb⟩ := at_some (l := m) (i := ix) (by have := (List.getElem?_eq_some_iff.1 i1).1; omega)
    have hbm := List.mem_of_getElem? hb
    have hby := wf.b x hxm
    have h0 := (of.1.1 x hxm).2
    have ob := hm.2.2.2 b hbm
    have hbl := h20 b hbm
    obtain ⟨r5, p1, p2⟩ := step_prog s b x.By hby h0 os.1 ob.1 ws (wm b hbm) (by omega)
    obtain ⟨o, g, g1, g2, g3⟩ := plus_ref s b x.By hby h0 ws (wm b hbm) ob.1 (by omega)
    have eL : ∀ q, m_affine_Compose_l2 f names m out sp (i : Int) (q + 1) (k : Int) s = if !decide (r5.2 = 0) then some ([], r5.2) else (m_lin_Add s r5.1).bind fun r6 => if !decide (r6.2 = 0) then some ([], r6.2) else m_affine_Compose_l2 f names m out sp (i : Int) q ((k + 1 : Nat) : Int) r6.1 := fun q => by
     simp only [m_affine_Compose_l2]
     rw [if_pos (lt_dec hk), lat_at hx, Option.bind_some, index_ok (by omega) i1 i2, Option.bind_some, lat_at hb, Option.bind_some, p1, Option.bind_some, wis (by omega)]
    have eR : ∀ q, m_ref10_Compose_l2 next (i : Int) names m out sr (q + 1) (k : Int) s = if !g then some ([], 3) else m_ref10_Compose_l2 next (i : Int) names m out sr q ((k + 1 : Nat) : Int) o := fun q => by
     simp only [m_ref10_Compose_l2]
     rw [lat_at hf, Option.bind_some, if_pos (lt_dec hk), Option.bind_some, lat_at hx, Option.bind_some, Option.bind_some, lat_at hx, Option.bind_some, place_ok (by omega) i1 i2, Option.bind_some, lat_at hb, Option.bind_some, g1, Option.bind_some, wis (by omega)]
    have hfl2 := fl_at i1 i2 hb
    rw [drop_at hx] at hcf
    simp only [cfold, hfl2] at hcf
    by_cases c : okC s b x.By
    ·left
     rw [if_pos (show okC s (fl names m x.Name) x.By by rw [hfl2]; exact c)] at hcf
     obtain ⟨c1, c2, c3, c4⟩ := cmb_ok names s b x.By h0 os ob ws (wm b hbm) (by omega) c
     refine ⟨cmb s b x.By, cmb s b x.By, ⟨rfl, hcf, c1, c2, by omega, fun v => ?_⟩, fun q => ?_, fun q => ?_⟩
     ·rw [c4, vs, take_succ' hx, esum_app]
      simp only [esum, hfl2]; omega
     ·rw [eL]
      rcases p2 with ⟨_, k2⟩ | ⟨k1, r6, k2, ⟨_, k3⟩ | ⟨rfl, _⟩⟩
      ·exact absurd c k2
      ·exact absurd c k3
      ·rw [k1, if_neg (by simp), k2, Option.bind_some, if_neg (by simp)]
     ·rw [eR, g2.2 c, if_neg (by simp), g3 c]
    ·right
     rw [if_neg (show ¬ okC s (fl names m x.Name) x.By by rw [hfl2]; exact c)] at hcf
     subst hcf
     refine ⟨some ([], 3), some ([], 3), ⟨fun c h => (by cases h), rfl, rfl⟩, fun q => ?_, fun q => ?_⟩
     ·rw [eL]
      rcases p2 with ⟨k1, _⟩ | ⟨k1, r6, k2, ⟨k3, _⟩ | ⟨_, k3⟩⟩
      ·rw [k1, if_pos (by simp)]
      ·rw [k1, if_neg (by simp), k2, Option.bind_some, k3, if_pos (by simp)]
      ·exact absurd k3 c
     ·have hg : g = false := by rw [Bool.eq_false_iff]; exact fun h => c (g2.1 h)
      rw [eR, hg, if_pos (by simp)])
   (by
    rintro s t ⟨rfl, hcf, os, ws, ls, vs⟩
    rw [List.take_length] at vs
    rw [drop_nil (Nat.le_refl _)] at hcf
    simp only [cfold] at hcf
    subst hcf
    refine ⟨m_affine_Compose_j2 out sp (i : Int) s, m_ref10_Compose_j2 out sr (i : Int) s, ⟨fun c h => by injection h with h; subst h; exact ⟨os, ws, vs⟩, rfl, rfl⟩, fun q => ?_, fun q => ?_⟩
    ·simp only [m_affine_Compose_l2]; rw [if_neg (by simp)]
    ·simp only [m_ref10_Compose_l2]; rw [lat_at hf, Option.bind_some, if_neg (by simp)]) ⟨f.K, []⟩ ⟨f.K, []⟩ ⟨rfl, by simpa using hR, ⟨⟨by simp, List.Pairwise.nil⟩, by simp⟩, ⟨wf.k, by simp, by simp⟩, by simp, fun v => by simp [ev, esum]⟩
  exact ⟨hq.1, e1.trans hq.2.1, e2.trans hq.2.2⟩
 exact ⟨cfold names m f.L ⟨f.K, []⟩, (main (fun _ _ => none) (fun _ _ => none)).1, fun sp sr => (main sp sr).2⟩
theorem Compose_both (m : List GLin) (names : List (List UInt8)) (next : List GLin) (wm : ∀ f ∈ m, Wf f) (wn : ∀ f ∈ next, Wf f) (h20 : ∀ f ∈ m, f.L.length ≤ 20) (n20 : ∀ f ∈ next, f.L.length ≤ 20) :
  ∃ r, m_affine_Compose m names next = some r ∧ m_ref10_Compose m names next = some r ∧ r.1.length ≤ 16 ∧ ((r.2 ≠ 0 ∧ r.1 = []) ∨ (r.2 = 0 ∧ okMap m names ∧ okMap next names ∧ m.length = names.length ∧ r.1.length = next.length ∧ ∀ (i : Nat) (f c : GLin), next[i]? = some f → r.1[i]? = some c → Cp names m f c)) := by
 obtain ⟨v, v0, v1, v2⟩ := Validate_both m names fun f hf => by have := h20 f hf; omega
 obtain ⟨u, u0, u1, u2⟩ := Validate_both next names fun f hf => by have := n20 f hf; omega
 unfold m_affine_Compose m_ref10_Compose
 rw [v1, v2, u1, u2, Option.bind_some, Option.bind_some]
 by_cases hv : v = 0
 rotate_left
 ·have c : (!decide (v = 0)) = true := by simpa using hv
  exact ⟨_, if_pos c, if_pos c, by simp, .inl ⟨hv, rfl⟩⟩
 have c : ¬ (!decide (v = 0)) = true := by simpa using hv
 by_cases hu : u = 0
 rotate_left
 ·have d : (!decide (u = 0)) = true := by simpa using hu
  exact ⟨_, (if_neg c).trans (if_pos d), (if_neg c).trans (if_pos d), by simp, .inl ⟨hu, rfl⟩⟩
 have d : ¬ (!decide (u = 0)) = true := by simpa using hu
 by_cases hl : m.length = names.length
 rotate_left
 ·have e : (!decide ((m.length : Int) = (names.length : Int))) = true := by simp; omega
  exact ⟨_, (if_neg c).trans ((if_neg d).trans (if_pos e)), (if_neg c).trans ((if_neg d).trans (if_pos e)), by simp, .inl ⟨by decide, rfl⟩⟩
 have e : ¬ (!decide ((m.length : Int) = (names.length : Int))) = true := by simp; omega
 have om := v0.1 hv
 have on := u0.1 hu
 have hnl := on.1
 obtain ⟨r, hr, e1, e2⟩ := loop_sim (L := fun f o i => m_affine_Compose_l1 next names m f o i) (M := fun f o i => m_ref10_Compose_l1 next names m f o i) (n := next.length) (by omega)
  (fun i s t => s = t ∧ s.length = i ∧ ∀ (j : Nat) (f c : GLin), next[j]? = some f → s[j]? = some c → Cp names m f c)
  (fun r => r.1.length ≤ 16 ∧ ((r.2 ≠ 0 ∧ r.1 = []) ∨ (r.2 = 0 ∧ r.1.length = next.length ∧ ∀ (i : Nat) (f c : GLin), next[i]? = some f → r.1[i]? = some c → Cp names m f c)))
  (by
   rintro i out _ hi ⟨rfl, hlen, hC⟩
   obtain ⟨f, hf⟩ := at_some hi
   have hfm := List.mem_of_getElem? hf
   have eL : ∀ g, m_affine_Compose_l1 next names m (g + 1) out (i : Int) = m_affine_Compose_l2 f names m out (m_affine_Compose_l1 next names m g) (i : Int) fu 0 ⟨f.K, []⟩ := fun g => by
    simp only [m_affine_Compose_l1]; rw [if_pos (lt_dec hi), lat_at hf, Option.bind_some, m_lin_Const, Option.bind_some]
   have eR : ∀ g, m_ref10_Compose_l1 next names m (g + 1) out (i : Int) = m_ref10_Compose_l2 next (i : Int) names m out (m_ref10_Compose_l1 next names m g) fu 0 ⟨f.K, []⟩ := fun g => by
    simp only [m_ref10_Compose_l1]; rw [if_pos (lt_dec hi), lat_at hf, Option.bind_some]
   obtain ⟨R, k1, k2⟩ := form_uni m names next om hl wm h20 i f hf (on.2.2.2 f hfm) (wn f hfm) (n20 f hfm) out
   cases R with
   | some cc =>
    left
    refine ⟨out ++ [cc], out ++ [cc], ⟨rfl, by simp [hlen], fun j f' c' hf' hc' => ?_⟩, fun g => ?_, fun g => ?_⟩
    ·rw [List.getElem?_append] at hc'
     split at hc'
     ·exact hC j f' c' hf' hc'
     ·have hj : j = i := by
       have := (List.getElem?_eq_some_iff.1 hc').1; simp at this; omega
      subst hj
      rw [hf] at hf'; injection hf' with hf'; subst hf'
      rw [hlen] at hc'; simp at hc'; subst hc'
      exact k1 _ rfl
    ·rw [eL, (k2 _ (fun _ _ => none)).1]; dsimp only [goOn]; rw [m_affine_Compose_j2, lapp_ok (by simp; omega), Option.bind_some, m_affine_Compose_j1, wis (by omega)]
    ·rw [eR, (k2 (fun _ _ => none) _).2]; dsimp only [goOn]; rw [m_ref10_Compose_j2, lapp_ok (by simp; omega), Option.bind_some, m_ref10_Compose_j1, wis (by omega)]
   | none =>
    right
    exact ⟨([], 3), ⟨by simp, .inl ⟨by decide, rfl⟩⟩, fun g => by rw [eL, (k2 _ (fun _ _ => none)).1]; rfl, fun g => by rw [eR, (k2 (fun _ _ => none) _).2]; rfl⟩)
  (by
   rintro out _ ⟨rfl, hlen, hC⟩
   refine ⟨(out, 0), ⟨by dsimp only; omega, .inr ⟨rfl, hlen, hC⟩⟩, fun g => ?_, fun g => ?_⟩
   ·simp only [m_affine_Compose_l1]; rw [if_neg (by simp)]
   ·simp only [m_ref10_Compose_l1]; rw [if_neg (by simp)]) [] [] ⟨rfl, rfl, by simp⟩
 refine ⟨r, (if_neg c).trans ((if_neg d).trans ((if_neg e).trans e1)), (if_neg c).trans ((if_neg d).trans ((if_neg e).trans e2)), hr.1, ?_⟩
 rcases hr.2 with h | ⟨h1, h2, h3⟩
 ·exact .inl h
 ·exact .inr ⟨h1, om, on, hl, h2, h3⟩
theorem base_Lin_refl (a : GLin) (h : a.L.length < 4611686018427387904) : m_base_Lin a a = some true := by
 unfold m_base_Lin
 rw [if_neg (by simp)]
 refine any_no (n := a.L.length) h (fun f i => m_base_Lin_l1 a a f i) (fun f i hi => ?_) (fun f => ?_)
 ·obtain ⟨x, hx⟩ := at_some hi
  simp only [m_base_Lin_l1]
  rw [if_pos (lt_dec hi), lat_at hx, Option.bind_some, Option.bind_some, if_neg (by simp), wis (by omega)]
 ·simp only [m_base_Lin_l1]; rw [if_neg (by simp)]
theorem base_Lins_refl (a : List GLin) (hl : a.length < 4611686018427387904) (h : ∀ x ∈ a, x.L.length < 4611686018427387904) : m_base_Lins a a = some true := by
 unfold m_base_Lins
 rw [if_neg (by simp)]
 refine any_no (n := a.length) hl (fun f i => m_base_Lins_l1 a a f i) (fun f i hi => ?_) (fun f => ?_)
 ·obtain ⟨x, hx⟩ := at_some hi
  simp only [m_base_Lins_l1]
  rw [if_pos (lt_dec hi), lat_at hx, Option.bind_some, Option.bind_some, base_Lin_refl x (h x (List.mem_of_getElem? hx)), Option.bind_some, if_neg (by simp), wis (by omega)]
 ·simp only [m_base_Lins_l1]; rw [if_neg (by simp)]
theorem law_AffineCompose (m : List GLin) (names : List (List UInt8)) (next : List GLin) (hm : okL okGLin m) (_ : okL okS names) (hn : okL okGLin next) : m_law10_AffineCompose m names next = some true := by
 unfold m_law10_AffineCompose
 obtain ⟨b, h1, h2⟩ := few_ok m names []
 obtain ⟨b', h1', h2'⟩ := few_ok next [] []
 rw [h1, Option.bind_some, ex10, h1']
 cases b with
 | false => simp [gd]
 | true =>
  cases b' with
  | false => simp [gd]
  | true =>
   obtain ⟨h20, hm20, hn20, _⟩ := h2 rfl
   obtain ⟨n20, nm20, _⟩ := h2' rfl
   obtain ⟨r, r1, r2, r3, r4⟩ := Compose_both m names next (wfs hm h20) (wfs hn n20) h20 n20
   have hL : m_base_Lins r.1 r.1 = some true := base_Lins_refl r.1 (by omega) fun x hx => by
    rcases r4 with ⟨_, h⟩ | ⟨_, _, _, _, hlen, hC⟩
    ·rw [h] at hx; cases hx
    ·obtain ⟨i, hi⟩ := List.mem_iff_getElem?.1 hx
     obtain ⟨f, hf⟩ := at_some (l := next) (i := i) (by have := (List.getElem?_eq_some_iff.1 hi).1; omega)
     have := (hC i f x hf hi).wf.len; omega
   rw [r1, r2]
   simp [gd, hL]
end Go.Proofs.Ytaokohndeepbjaa
