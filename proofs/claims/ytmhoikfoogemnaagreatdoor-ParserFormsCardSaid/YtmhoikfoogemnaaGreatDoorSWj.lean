import Derived.Test.YtmhoikfoogemnaaGreatDoorSWi
namespace Go.Proofs.YtmhoikfoogemnaaGreatDoor
open Go Go.RowKit Go.Vc
set_option linter.unusedVariables false
set_option linter.unusedSimpArgs false
def mrg : List GMono → List GMono → List GMono
 | [], b => b
 | x :: a, [] => x :: a
 | x :: a, y :: b =>
  if Op.bytesLess x.Name y.Name = true then x :: mrg a (y :: b)
  else if Op.bytesLess y.Name x.Name = true then y :: mrg (x :: a) b
  else if x.By + y.By = 0 then mrg a b else ⟨x.Name, x.By + y.By⟩ :: mrg a b
termination_by a b => a.length + b.length
def okA : List GMono → List GMono → Prop
 | [], _ => True
 | _ :: _, [] => True
 | x :: a, y :: b =>
  if Op.bytesLess x.Name y.Name = true then okA a (y :: b)
  else if Op.bytesLess y.Name x.Name = true then okA (x :: a) b
  else R64 (x.By + y.By) ∧ okA a b
termination_by a b => a.length + b.length
theorem mrg_nil (a : List GMono) : mrg a [] = a := by cases a <;> simp [mrg]
theorem okA_nil (a : List GMono) : okA a [] := by cases a <;> simp [okA]
theorem mrg_cc (x y : GMono) (a b : List GMono) : mrg (x :: a) (y :: b) = if Op.bytesLess x.Name y.Name = true then x :: mrg a (y :: b) else if Op.bytesLess y.Name x.Name = true then y :: mrg (x :: a) b else if x.By + y.By = 0 then mrg a b else ⟨x.Name, x.By + y.By⟩ :: mrg a b := by rw [mrg]
theorem okA_cc (x y : GMono) (a b : List GMono) : okA (x :: a) (y :: b) ↔ if Op.bytesLess x.Name y.Name = true then okA a (y :: b) else if Op.bytesLess y.Name x.Name = true then okA (x :: a) b else R64 (x.By + y.By) ∧ okA a b := by rw [okA]
theorem mrg_ind {P : List GMono → List GMono → Prop} (h1 : ∀ b, P [] b) (h2 : ∀ x a, P (x :: a) []) (h3 : ∀ x a y b, Op.bytesLess x.Name y.Name = true → P a (y :: b) → P (x :: a) (y :: b))
  (h4 : ∀ x a y b, ¬ Op.bytesLess x.Name y.Name = true → Op.bytesLess y.Name x.Name = true → P (x :: a) b → P (x :: a) (y :: b)) (h5 : ∀ x a y b, ¬ Op.bytesLess x.Name y.Name = true → ¬ Op.bytesLess y.Name x.Name = true → P a b → P (x :: a) (y :: b)) : ∀ a b, P a b := by
 have key : ∀ (n : Nat) (a b : List GMono), a.length + b.length ≤ n → P a b := by
  intro n
  induction n with
  | zero => intro a b h; cases a with | nil => exact h1 b | cons x a => simp at h
  | succ n ih =>
   intro a b h
   cases a with
   | nil => exact h1 b
   | cons x a =>
    cases b with
    | nil => exact h2 x a
    | cons y b =>
     simp only [List.length_cons] at h
     by_cases c1 : Op.bytesLess x.Name y.Name = true
     ·exact h3 x a y b c1 (ih a (y :: b) (by simp only [List.length_cons]; omega))
     ·by_cases c2 : Op.bytesLess y.Name x.Name = true
      ·exact h4 x a y b c1 c2 (ih (x :: a) b (by simp only [List.length_cons]; omega))
      ·exact h5 x a y b c1 c2 (ih a b (by omega))
 intro a b
 exact key _ a b (Nat.le_refl _)
theorem mrg_len (a b : List GMono) : (mrg a b).length ≤ a.length + b.length := by
 refine mrg_ind (P := fun a b => (mrg a b).length ≤ a.length + b.length) ?_ ?_ ?_ ?_ ?_ a b
 ·intro b; simp [mrg]
 ·intro x a; simp [mrg]
 ·intro x a y b c1 ih; rw [mrg_cc, if_pos c1]; simp only [List.length_cons] at *; omega
 ·intro x a y b c1 c2 ih; rw [mrg_cc, if_neg c1, if_pos c2]; simp only [List.length_cons] at *; omega
 ·intro x a y b c1 c2 ih; rw [mrg_cc, if_neg c1, if_neg c2]; split <;> simp only [List.length_cons] at * <;> omega
theorem mrg_names (a b : List GMono) : ∀ m ∈ mrg a b, (∃ x ∈ a, x.Name = m.Name) ∨ (∃ y ∈ b, y.Name = m.Name) := by
 refine mrg_ind (P := fun a b => ∀ m ∈ mrg a b, (∃ x ∈ a, x.Name = m.Name) ∨ (∃ y ∈ b, y.Name = m.Name)) ?_ ?_ ?_ ?_ ?_ a b
 ·intro b m hm; rw [mrg] at hm; exact .inr ⟨m, hm, rfl⟩
 ·intro x a m hm; rw [mrg] at hm; exact .inl ⟨m, hm, rfl⟩
 ·intro x a y b c1 ih m hm
  rw [mrg_cc, if_pos c1] at hm
  rcases List.mem_cons.1 hm with rfl | hm
  ·exact .inl ⟨m, by simp, rfl⟩
  ·exact (ih m hm).imp (fun ⟨q, h, e⟩ => ⟨q, by simp [h], e⟩) id
 ·intro x a y b c1 c2 ih m hm
  rw [mrg_cc, if_neg c1, if_pos c2] at hm
  rcases List.mem_cons.1 hm with rfl | hm
  ·exact .inr ⟨m, by simp, rfl⟩
  ·exact (ih m hm).imp id (fun ⟨q, h, e⟩ => ⟨q, by simp [h], e⟩)
 ·intro x a y b c1 c2 ih m hm
  rw [mrg_cc, if_neg c1, if_neg c2] at hm
  have rest : m ∈ mrg a b → (∃ q ∈ x :: a, q.Name = m.Name) ∨ (∃ q ∈ y :: b, q.Name = m.Name) := fun hm => (ih m hm).imp (fun ⟨q, h, e⟩ => ⟨q, by simp [h], e⟩) (fun ⟨q, h, e⟩ => ⟨q, by simp [h], e⟩)
  split at hm
  ·exact rest hm
  ·rcases List.mem_cons.1 hm with rfl | hm
   ·exact .inl ⟨x, by simp, rfl⟩
   ·exact rest hm
abbrev Asc (l : List GMono) : Prop := l.Pairwise (fun a b => Op.bytesLess a.Name b.Name = true)
theorem mrg_asc (a b : List GMono) : Asc a → Asc b → Asc (mrg a b) := by
 refine mrg_ind (P := fun a b => Asc a → Asc b → Asc (mrg a b)) ?_ ?_ ?_ ?_ ?_ a b
 ·intro b _ hb; rw [mrg]; exact hb
 ·intro x a ha _; rw [mrg]; exact ha
 ·intro x a y b c1 ih ha hb
  obtain ⟨a1, a2⟩ := List.pairwise_cons.1 ha
  obtain ⟨b1, b2⟩ := List.pairwise_cons.1 hb
  rw [mrg_cc, if_pos c1]
  refine List.pairwise_cons.2 ⟨fun m hm => ?_, ih a2 hb⟩
  rcases mrg_names _ _ m hm with ⟨q, h, e⟩ | ⟨q, h, e⟩
  ·rw [← e]; exact a1 q h
  ·rw [← e]; rcases List.mem_cons.1 h with rfl | h
   ·exact c1
   ·exact bl_trans _ _ _ c1 (b1 q h)
 ·intro x a y b c1 c2 ih ha hb
  obtain ⟨a1, a2⟩ := List.pairwise_cons.1 ha
  obtain ⟨b1, b2⟩ := List.pairwise_cons.1 hb
  rw [mrg_cc, if_neg c1, if_pos c2]
  refine List.pairwise_cons.2 ⟨fun m hm => ?_, ih ha b2⟩
  rcases mrg_names _ _ m hm with ⟨q, h, e⟩ | ⟨q, h, e⟩
  ·rw [← e]; rcases List.mem_cons.1 h with rfl | h
   ·exact c2
   ·exact bl_trans _ _ _ c2 (a1 q h)
  ·rw [← e]; exact b1 q h
 ·intro x a y b c1 c2 ih ha hb
  obtain ⟨a1, a2⟩ := List.pairwise_cons.1 ha
  obtain ⟨b1, b2⟩ := List.pairwise_cons.1 hb
  have e0 : x.Name = y.Name := bl_tri _ _ (by simpa using c1) (by simpa using c2)
  rw [mrg_cc, if_neg c1, if_neg c2]
  split
  ·exact ih a2 b2
  ·refine List.pairwise_cons.2 ⟨fun m hm => ?_, ih a2 b2⟩
   rcases mrg_names _ _ m hm with ⟨q, h, e⟩ | ⟨q, h, e⟩
   ·rw [← e]; exact a1 q h
   ·rw [← e]; show Op.bytesLess x.Name q.Name = true; rw [e0]; exact b1 q h
theorem mrg_all {P : GMono → Prop} (hs : ∀ x y : GMono, P x → P y → ¬ Op.bytesLess x.Name y.Name = true → ¬ Op.bytesLess y.Name x.Name = true → R64 (x.By + y.By) → ¬ x.By + y.By = 0 → P ⟨x.Name, x.By + y.By⟩) (a b : List GMono) : okA a b → (∀ m ∈ a, P m) → (∀ m ∈ b, P m) → ∀ m ∈ mrg a b, P m := by
 refine mrg_ind (P := fun a b => okA a b → (∀ m ∈ a, P m) → (∀ m ∈ b, P m) → ∀ m ∈ mrg a b, P m) ?_ ?_ ?_ ?_ ?_ a b
 ·intro b _ _ hb m hm; rw [mrg] at hm; exact hb m hm
 ·intro x a _ ha _ m hm; rw [mrg] at hm; exact ha m hm
 ·intro x a y b c1 ih ho ha hb m hm
  rw [okA_cc, if_pos c1] at ho
  rw [mrg_cc, if_pos c1] at hm
  rcases List.mem_cons.1 hm with rfl | hm
  ·exact ha m (by simp)
  ·exact ih ho (fun q hq => ha q (by simp [hq])) hb m hm
 ·intro x a y b c1 c2 ih ho ha hb m hm
  rw [okA_cc, if_neg c1, if_pos c2] at ho
  rw [mrg_cc, if_neg c1, if_pos c2] at hm
  rcases List.mem_cons.1 hm with rfl | hm
  ·exact hb m (by simp)
  ·exact ih ho ha (fun q hq => hb q (by simp [hq])) m hm
 ·intro x a y b c1 c2 ih ho ha hb m hm
  rw [okA_cc, if_neg c1, if_neg c2] at ho
  rw [mrg_cc, if_neg c1, if_neg c2] at hm
  have rest := ih ho.2 (fun q hq => ha q (by simp [hq])) (fun q hq => hb q (by simp [hq]))
  split at hm
  ·exact rest m hm
  ·next hz =>
   rcases List.mem_cons.1 hm with rfl | hm
   ·exact hs x y (ha x (by simp)) (hb y (by simp)) c1 c2 ho.1 hz
   ·exact rest m hm
def scM (by_ : Int) (l : List GMono) : List GMono := l.map fun m => ⟨m.Name, m.By * by_⟩
def okM (by_ : Int) (l : List GMono) : Prop := ∀ m ∈ l, R64 (m.By * by_)
theorem Scale_ok (a : GLin) (by_ : Int) (ha : okLin a) (hw : Wf a) (hb : R64 by_) (h0 : by_ ≠ 0) (hl : a.L.length ≤ 100000) :
  ∃ r, m_lin_Scale a by_ = some r ∧ ((r = (⟨a.K * by_, scM by_ a.L⟩, 0) ∧ R64 (a.K * by_) ∧ okM by_ a.L) ∨ (r = (⟨0, []⟩, 3) ∧ ¬ (R64 (a.K * by_) ∧ okM by_ a.L))) := by
 obtain ⟨b, b0, b1, _⟩ := lin_Validate a (by omega)
 unfold m_lin_Scale
 rw [b1, if_pos (b0.2 ha), Option.bind_some, if_neg (by simp), if_neg (by simpa using h0), times_ok hw.k hb, Option.bind_some]
 obtain ⟨kk, kf, ek, e1, e2⟩ : ∃ (kk : Int) (kf : Bool), (if R64 (a.K * by_) then (a.K * by_, true) else (0, false)) = (kk, kf) ∧ (kf = true ↔ R64 (a.K * by_)) ∧ (R64 (a.K * by_) → kk = a.K * by_) := by
  by_cases c : R64 (a.K * by_)
  ·exact ⟨_, _, if_pos c, ⟨fun _ => c, fun _ => rfl⟩, fun _ => rfl⟩
  ·exact ⟨_, _, if_neg c, ⟨fun h => (by cases h), fun h => absurd h c⟩, fun h => absurd h c⟩
 rw [ek]
 refine loop_fu (L := fun f (s : Bool × GLin) i => m_lin_Scale_l1 a by_ f s.1 i s.2) (n := a.L.length) (by omega)
  (fun i s => (s.1 = true ↔ R64 (a.K * by_) ∧ okM by_ (a.L.take i)) ∧ s.2.L.length = i ∧ (s.1 = true → s.2 = ⟨a.K * by_, scM by_ (a.L.take i)⟩)) _ ?_ ?_ (kf, ⟨kk, []⟩) ⟨by rw [e1]; simp [okM], rfl, fun h => by rw [e2 (e1.1 h)]; rfl⟩
 ·rintro f i ⟨fl, out⟩ hi ⟨h1, h2, h3⟩
  obtain ⟨x, hx⟩ := at_some hi
  have hxm := List.mem_of_getElem? hx
  dsimp only at h1 h2 h3
  left
  have okt : okM by_ (a.L.take (i + 1)) ↔ okM by_ (a.L.take i) ∧ R64 (x.By * by_) := by
   rw [take_succ' hx]; unfold okM
   exact ⟨fun h => ⟨fun m hm => h m (List.mem_append_left _ hm), h x (by simp)⟩, fun ⟨k1, k2⟩ m hm => by
    rcases List.mem_append.1 hm with hm | hm
    ·exact k1 m hm
    ·rw [List.mem_singleton.1 hm]; exact k2⟩
  by_cases c : R64 (x.By * by_)
  ·refine ⟨(fl && true, ⟨out.K, out.L ++ [⟨x.Name, x.By * by_⟩]⟩), ⟨?_, by simp [h2], ?_⟩, ?_⟩
   ·rw [Bool.and_true, h1, okt]; exact ⟨fun ⟨p, q⟩ => ⟨p, q, c⟩, fun ⟨p, q, _⟩ => ⟨p, q⟩⟩
   ·intro hf
    have := h3 (by simpa using hf)
    rw [this, take_succ' hx]; simp [scM]
   ·simp only [m_lin_Scale_l1]
    rw [if_pos (lt_dec hi), lat_at hx, Option.bind_some, times_ok (hw.b x hxm) hb, if_pos c, Option.bind_some, lapp_ok (by simp; omega), Option.bind_some, wis (by omega)]
  ·refine ⟨(fl && false, ⟨out.K, out.L ++ [⟨x.Name, 0⟩]⟩), ⟨?_, by simp [h2], ?_⟩, ?_⟩
   ·rw [Bool.and_false]; exact ⟨fun h => (by cases h), fun ⟨_, h⟩ => absurd (okt.1 h).2 c⟩
   ·intro hf; simp at hf
   ·simp only [m_lin_Scale_l1]
    rw [if_pos (lt_dec hi), lat_at hx, Option.bind_some, times_ok (hw.b x hxm) hb, if_neg c, Option.bind_some, lapp_ok (by simp; omega), Option.bind_some, wis (by omega)]
 ·rintro f ⟨fl, out⟩ ⟨h1, h2, h3⟩
  rw [List.take_length] at h1 h3
  dsimp only at h1 h3
  simp only [m_lin_Scale_l1]
  rw [if_neg (by simp), m_lin_Scale_j1]
  cases fl with
  | true => exact ⟨_, by rw [if_neg (by simp)], .inl ⟨by rw [h3 rfl], h1.1 rfl⟩⟩
  | false => exact ⟨_, by rw [if_pos (by simp)], .inr ⟨rfl, fun h => by have := h1.2 h; cases this⟩⟩
theorem lat0 {α : Type} (x : α) (l : List α) : lat (x :: l) 0 = some x := rfl
theorem lfrom1 {α : Type} (x : α) (l : List α) : lfrom (x :: l) 1 = some l := by unfold lfrom; rw [if_pos ⟨by omega, by simp; omega⟩]; rfl
theorem each_ok (name : List UInt8) (x y : Int) (fl : Bool) (out : GLin) (hx : R64 x) (hy : R64 y) (ho : out.L.length < 1000000) :
  ∃ s', m_lin_Add_1_w name x y fl out = some ((), s') ∧ s'.1 = (fl && decide (R64 (x + y))) ∧ s'.2.L.length ≤ out.L.length + 1 ∧ s'.2.K = out.K ∧ (R64 (x + y) → s'.2.L = out.L ++ if x + y = 0 then [] else [⟨name, x + y⟩]) := by
 unfold m_lin_Add_1_w
 rw [plus_ok hx hy, Option.bind_some]
 dsimp only
 by_cases c : wi64 (x + y) = 0
 ·refine ⟨_, by rw [if_neg (by simpa using c)], rfl, by dsimp only; omega, rfl, fun h => ?_⟩
  rw [wi h] at c; rw [if_pos c]; simp
 ·refine ⟨_, by rw [if_pos (by simpa using c), lapp_ok (by simp; omega)]; rfl, rfl, by simp, rfl, fun h => ?_⟩
  rw [wi h] at c ⊢; rw [if_neg c]
theorem merge_ok : ∀ (n f : Nat) (a b : List GMono) (fl : Bool) (out : GLin), a.length + b.length ≤ n → n < f → (∀ m ∈ a, m.By ≠ 0 ∧ R64 m.By) → (∀ m ∈ b, m.By ≠ 0 ∧ R64 m.By) → out.L.length + n < 1000000 →
  ∃ s', m_lin_merge_s_l1 (fun x_1 x_2 x_3 (s : Bool × GLin) => m_lin_Add_1_w x_1 x_2 x_3 (s.1) (s.2)) f a b (fl, out) = some ((), s') ∧ (s'.1 = true ↔ fl = true ∧ okA a b) ∧ (okA a b → s'.2 = ⟨out.K, out.L ++ mrg a b⟩) := by
 intro n
 induction n with
 | zero =>
  intro f a b fl out hn hf ha hb ho
  obtain ⟨f, rfl⟩ : ∃ g, f = g + 1 := ⟨f - 1, by omega⟩
  obtain rfl : a = [] := List.length_eq_zero_iff.1 (by omega)
  obtain rfl : b = [] := List.length_eq_zero_iff.1 (by omega)
  exact ⟨(fl, out), by simp only [m_lin_merge_s_l1]; rw [if_neg (by simp)], by simp [okA], fun _ => by simp [mrg]⟩
 | succ n ih =>
  intro f a b fl out hn hf ha hb ho
  obtain ⟨f, rfl⟩ : ∃ g, f = g + 1 := ⟨f - 1, by omega⟩
  simp only [m_lin_merge_s_l1]
  have r0 : R64 0 := by decide
  have takeA : ∀ x a', a = x :: a' → ∃ s', ((m_lin_Add_1_w x.Name x.By 0 fl out).bind fun x_1 => match x_1 with | (r1, s3) => (lfrom a 1).bind fun zs1 => m_lin_merge_s_l1 (fun x_1 x_2 x_3 (s : Bool × GLin) => m_lin_Add_1_w x_1 x_2 x_3 (s.1) (s.2)) f zs1 b s3) = some ((), s') ∧ (s'.1 = true ↔ fl = true ∧ okA a' b) ∧ (okA a' b → s'.2 = ⟨out.K, out.L ++ x :: mrg a' b⟩) := by
   rintro x a' rfl
   obtain ⟨h1, h2⟩ := ha x (by simp)
   obtain ⟨⟨fl', out'⟩, e1, e2, e3, e4, e5⟩ := each_ok x.Name x.By 0 fl out h2 r0 (by omega)
   rw [Int.add_zero] at e2 e5
   simp only [List.length_cons] at hn
   obtain ⟨s', g1, g2, g3⟩ := ih f a' b fl' out' (by omega) (by omega) (fun m hm => ha m (by simp [hm])) hb (by dsimp only at e3; omega)
   refine ⟨s', by rw [e1, Option.bind_some]; dsimp only; rw [lfrom1, Option.bind_some]; exact g1, ?_, fun h => ?_⟩
   ·dsimp only at e2; rw [g2, e2]; simp [h2]
   ·dsimp only at e4 e5; rw [g3 h, e4, e5 h2, if_neg h1]; simp
  have takeB : ∀ y b', b = y :: b' → ∃ s', ((m_lin_Add_1_w y.Name 0 y.By fl out).bind fun x_1 => match x_1 with | (r1, s3) => (lfrom b 1).bind fun zs1 => m_lin_merge_s_l1 (fun x_1 x_2 x_3 (s : Bool × GLin) => m_lin_Add_1_w x_1 x_2 x_3 (s.1) (s.2)) f a zs1 s3) = some ((), s') ∧ (s'.1 = true ↔ fl = true ∧ okA a b') ∧ (okA a b' → s'.2 = ⟨out.K, out.L ++ y :: mrg a b'⟩) := by
   rintro y b' rfl
   obtain ⟨h1, h2⟩ := hb y (by simp)
   obtain ⟨⟨fl', out'⟩, e1, e2, e3, e4, e5⟩ := each_ok y.Name 0 y.By fl out r0 h2 (by omega)
   rw [Int.zero_add] at e2 e5
   simp only [List.length_cons] at hn
   obtain ⟨s', g1, g2, g3⟩ := ih f a b' fl' out' (by omega) (by omega) ha (fun m hm => hb m (by simp [hm])) (by dsimp only at e3; omega)
   refine ⟨s', by rw [e1, Option.bind_some]; dsimp only; rw [lfrom1, Option.bind_some]; exact g1, ?_, fun h => ?_⟩
   ·dsimp only at e2; rw [g2, e2]; simp [h2]
   ·dsimp only at e4 e5; rw [g3 h, e4, e5 h2, if_neg h1]; simp
  cases a with
  | nil =>
   cases b with
   | nil => exact ⟨(fl, out), by rw [if_neg (by simp)], by simp [okA], fun _ => by simp [mrg]⟩
   | cons y b =>
    obtain ⟨s', g1, g2, g3⟩ := takeB y b rfl
    refine ⟨s', ?_, ?_, fun _ => ?_⟩
    ·rw [if_pos (by simp)]
     have d1 : decide (((y :: b).length : Int) = 0) = false := by rw [decide_eq_false_iff_not]; simp; omega
     have d2 : decide (0 < (([] : List GMono).length : Int)) = false := rfl
     have d3 : decide ((([] : List GMono).length : Int) = 0) = true := rfl
     simp only [d1, d2, d3, gd, Bool.not_false, Bool.not_true, Bool.and_false, Bool.false_and, Bool.false_or, Bool.true_or, Bool.false_eq_true, if_false, if_true, Option.bind_some, lat0]
     exact g1
    ·rw [g2]; simp [okA]
    ·rw [g3 (by simp [okA])]; simp [mrg]
  | cons x a =>
   cases b with
   | nil =>
    obtain ⟨s', g1, g2, g3⟩ := takeA x a rfl
    refine ⟨s', ?_, ?_, fun _ => ?_⟩
    ·rw [if_pos (by simp)]
     have d3 : decide ((([] : List GMono).length : Int) = 0) = true := rfl
     simp only [d3, gd, Bool.not_true, Bool.false_and, Bool.true_or, Bool.false_eq_true, if_false, if_true, Option.bind_some, lat0]
     exact g1
    ·rw [g2]; simp [okA, okA_nil]
    ·rw [g3 (okA_nil a), mrg_nil]; simp [mrg]
   | cons y b =>
    rw [if_pos (by simp)]
    have d1 : decide (((y :: b).length : Int) = 0) = false := by rw [decide_eq_false_iff_not]; simp; omega
    have d2 : decide (0 < ((x :: a).length : Int)) = true := by rw [decide_eq_true_iff]; simp <;> omega
    have d3 : decide (((x :: a).length : Int) = 0) = false := by rw [decide_eq_false_iff_not]; simp; omega
    simp only [d1, d2, d3, gd, Bool.not_false, Bool.and_true, Bool.true_and, Bool.false_or, if_true, Option.bind_some, lat0]
    by_cases c1 : Op.bytesLess x.Name y.Name = true
    ·obtain ⟨s', g1, g2, g3⟩ := takeA x a rfl
     refine ⟨s', by rw [if_pos c1]; exact g1, ?_, fun h => ?_⟩
     ·rw [g2, okA_cc, if_pos c1]
     ·rw [okA_cc, if_pos c1] at h; rw [g3 h, mrg_cc, if_pos c1]
    rw [if_neg c1]
    by_cases c2 : Op.bytesLess y.Name x.Name = true
    ·obtain ⟨s', g1, g2, g3⟩ := takeB y b rfl
     refine ⟨s', by rw [if_pos c2]; exact g1, ?_, fun h => ?_⟩
     ·rw [g2, okA_cc, if_neg c1, if_pos c2]
     ·rw [okA_cc, if_neg c1, if_pos c2] at h; rw [g3 h, mrg_cc, if_neg c1, if_pos c2]
    rw [if_neg c2]
    obtain ⟨h1, h2⟩ := ha x (by simp)
    obtain ⟨h3, h4⟩ := hb y (by simp)
    obtain ⟨⟨fl', out'⟩, e1, e2, e3, e4, e5⟩ := each_ok x.Name x.By y.By fl out h2 h4 (by omega)
    simp only [List.length_cons] at hn
    obtain ⟨s', g1, g2, g3⟩ := ih f a b fl' out' (by omega) (by omega) (fun m hm => ha m (by simp [hm])) (fun m hm => hb m (by simp [hm])) (by dsimp only at e3; omega)
    refine ⟨s', by rw [e1, Option.bind_some]; dsimp only; rw [lfrom1, Option.bind_some, lfrom1, Option.bind_some]; exact g1, ?_, fun h => ?_⟩
    ·dsimp only at e2; rw [g2, e2, okA_cc, if_neg c1, if_neg c2, Bool.and_eq_true, decide_eq_true_iff]
     exact ⟨fun ⟨⟨p, q⟩, r⟩ => ⟨p, q, r⟩, fun ⟨p, q, r⟩ => ⟨⟨p, q⟩, r⟩⟩
    ·rw [okA_cc, if_neg c1, if_neg c2] at h
     dsimp only at e4 e5
     rw [g3 h.2, e4, e5 h.1, mrg_cc, if_neg c1, if_neg c2]
     split <;> simp
theorem Add_ok (a b : GLin) (ha : okLin a) (hb : okLin b) (wa : Wf a) (wb : Wf b) (hl : a.L.length + b.L.length ≤ 100000) :
  ∃ r, m_lin_Add a b = some r ∧ ((r = (⟨a.K + b.K, mrg a.L b.L⟩, 0) ∧ R64 (a.K + b.K) ∧ okA a.L b.L) ∨ (r = (⟨0, []⟩, 3) ∧ ¬ (R64 (a.K + b.K) ∧ okA a.L b.L))) := by
 obtain ⟨q, q0, q1, _⟩ := lin_Validate a (by omega)
 obtain ⟨p, p0, p1, _⟩ := lin_Validate b (by omega)
 unfold m_lin_Add
 rw [q1, if_pos (q0.2 ha), Option.bind_some, p1, if_pos (p0.2 hb)]
 simp only [gd, decide_true, Bool.not_true, Bool.not_false, if_true, Option.bind_some, Bool.or_false, Bool.false_eq_true, if_false]
 rw [plus_ok wa.k wb.k, Option.bind_some]
 obtain ⟨⟨fl, out⟩, e1, e2, e3⟩ := merge_ok (a.L.length + b.L.length) fu a.L b.L (decide (R64 (a.K + b.K))) ⟨wi64 (a.K + b.K), []⟩ (Nat.le_refl _) (by unfold fu; omega) (fun m hm => ⟨(ha.1 m hm).2, wa.b m hm⟩) (fun m hm => ⟨(hb.1 m hm).2, wb.b m hm⟩) (by simp; omega)
 unfold m_lin_merge_s
 rw [e1, Option.bind_some]
 dsimp only at e2 e3 ⊢
 rw [decide_eq_true_iff] at e2
 cases fl with
 | true =>
  obtain ⟨h1, h2⟩ := e2.1 rfl
  exact ⟨_, by rw [if_neg (by simp)], .inl ⟨by rw [e3 h2, wi h1]; simp, h1, h2⟩⟩
 | false => exact ⟨_, by rw [if_pos (by simp)], .inr ⟨rfl, fun h => by have := e2.2 h; cases this⟩⟩
end Go.Proofs.YtmhoikfoogemnaaGreatDoor
