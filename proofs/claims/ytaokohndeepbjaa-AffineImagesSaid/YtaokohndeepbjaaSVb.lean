import Derived.Test.YtaokohndeepbjaaSTa
namespace Go.Proofs.Ytaokohndeepbjaa
open Go Go.RowKit Go.Vc
set_option linter.unusedVariables false
set_option linter.unusedSimpArgs false
section
variable {α : Type}
theorem getm (B C : List α) (v : α) : (B ++ v :: C)[B.length]? = some v := by simp
theorem setm (B C : List α) (v u : α) : (B ++ v :: C).set B.length u = B ++ u :: C := by
 induction B with
 | nil => rfl
 | cons a B ih => simp
theorem latm (B C : List α) (v : α) {i : Nat} (h : i = B.length) : lat (B ++ v :: C) (i : Int) = some v := by subst h; exact lat_at (getm B C v)
theorem latm1 (A B : List α) (y x : α) {i : Nat} (h : i = A.length + 1) : lat (A ++ y :: x :: B) (i : Int) = some x := by
 rw [show A ++ y :: x :: B = (A ++ [y]) ++ x :: B by simp]; exact latm _ _ _ (by simpa using h)
theorem swpL (A B : List α) (x y : α) : ((A ++ y :: x :: B).set (A.length + 1) y).set A.length x = A ++ x :: y :: B := by
 induction A with
 | nil => rfl
 | cons a A ih => simp
theorem swpR (A B : List α) (x y : α) : ((A ++ y :: x :: B).set A.length x).set (A.length + 1) y = A ++ x :: y :: B := by
 induction A with
 | nil => rfl
 | cons a A ih => simp
theorem swp2 (A B C : List α) (u v : α) {q : Nat} (hq : q = A.length + 1 + B.length) : ((A ++ u :: (B ++ v :: C)).set A.length v).set q u = A ++ v :: (B ++ u :: C) := by
 rw [setm, show A ++ v :: (B ++ v :: C) = (A ++ v :: B) ++ v :: C by simp, show q = (A ++ v :: B).length by rw [hq]; simp; omega, setm]; simp
structure SW (lt : α → α → Prop) : Prop where
 irr : ∀ x, ¬ lt x x
 asy : ∀ x y, lt x y → ¬ lt y x
 nt : ∀ x y z, ¬ lt x y → ¬ lt y z → ¬ lt x z
def Ag (cmp : α → α → Option Int) (lt : α → α → Prop) (y x : α) : Prop := ∃ c, cmp x y = some c ∧ (c < 0 ↔ lt x y)
abbrev Sd (lt : α → α → Prop) (l : List α) : Prop := l.Pairwise fun x y => ¬ lt y x
theorem Sd.get {lt : α → α → Prop} {l : List α} (h : Sd lt l) {i j : Nat} {x y : α} (hij : i < j) (hx : l[i]? = some x) (hy : l[j]? = some y) : ¬ lt y x := by
 obtain ⟨h1, rfl⟩ := List.getElem?_eq_some_iff.1 hx
 obtain ⟨h2, rfl⟩ := List.getElem?_eq_some_iff.1 hy
 exact List.pairwise_iff_getElem.1 h i j h1 h2 hij
theorem Sd.get' {lt : α → α → Prop} (sw : SW lt) {l : List α} (h : Sd lt l) {i j : Nat} {x y : α} (hij : i ≤ j) (hx : l[i]? = some x) (hy : l[j]? = some y) : ¬ lt y x := by
 rcases Nat.lt_or_eq_of_le hij with h1 | h1
 ·exact h.get h1 hx hy
 ·subst h1; rw [hx] at hy; injection hy with hy; subst hy; exact sw.irr x
theorem Sd.app {lt : α → α → Prop} {a b : List α} (ha : Sd lt a) (hb : Sd lt b) (h : ∀ x ∈ a, ∀ y ∈ b, ¬ lt y x) : Sd lt (a ++ b) := List.pairwise_append.2 ⟨ha, hb, h⟩
inductive Bk (lt : α → α → Prop) (bs : Nat) : List α → List α → Prop where
 | last {d d' : List α} (hl : d.length ≤ bs) (hp : d'.Perm d) (hs : Sd lt d') : Bk lt bs d d'
 | cons {B B' d d' : List α} (hl : B.length = bs) (hp : B'.Perm B) (hs : Sd lt B') (h : Bk lt bs d d') : Bk lt bs (B ++ d) (B' ++ d')
theorem Bk.perm {lt : α → α → Prop} {bs : Nat} {d d' : List α} (h : Bk lt bs d d') : d'.Perm d := by
 induction h with
 | last _ hp _ => exact hp
 | cons _ hp _ _ ih => exact hp.append ih
theorem Bk.done {lt : α → α → Prop} {bs : Nat} {d d' : List α} (h : Bk lt bs d d') (hn : d.length ≤ bs) (h0 : 0 < bs) : d'.Perm d ∧ Sd lt d' := by
 refine ⟨h.perm, ?_⟩
 cases h with
 | last _ _ hs => exact hs
 | @cons B B' d d' hl hp hs h =>
  rw [List.length_append] at hn
  have e : d = [] := List.length_eq_zero_iff.1 (by omega)
  subst e
  have e' : d' = [] := h.perm.eq_nil
  subst e'
  simpa using hs
end
section
variable {α : Type}
theorem latR (A R Y : List α) {h t : Nat} {x : α} (hh : h = A.length + t) (hx : R[t]? = some x) : lat (A ++ R ++ Y) (h : Int) = some x := by
 obtain ⟨ht, _⟩ := List.getElem?_eq_some_iff.1 hx
 refine lat_at ?_
 rw [List.append_assoc, List.getElem?_append_right (by omega), List.getElem?_append_left (by omega), hh, Nat.add_sub_cancel_left]; exact hx
theorem mem_take' {R : List α} {t : Nat} {x : α} (h : x ∈ R.take t) : ∃ i, i < t ∧ R[i]? = some x := by
 obtain ⟨i, hi⟩ := List.mem_iff_getElem?.1 h
 rw [List.getElem?_take] at hi
 split at hi
 ·exact ⟨i, by assumption, hi⟩
 ·cases hi
theorem mem_drop' {R : List α} {t : Nat} {x : α} (h : x ∈ R.drop t) : ∃ i, t ≤ i ∧ R[i]? = some x := by
 obtain ⟨i, hi⟩ := List.mem_iff_getElem?.1 h
 rw [List.getElem?_drop] at hi
 exact ⟨t + i, by omega, hi⟩
theorem Sd.take' {lt : α → α → Prop} {l : List α} (h : Sd lt l) (t : Nat) : Sd lt (l.take t) := List.Pairwise.sublist (List.take_sublist t l) h
theorem Sd.drop' {lt : α → α → Prop} {l : List α} (h : Sd lt l) (t : Nat) : Sd lt (l.drop t) := List.Pairwise.sublist (List.drop_sublist t l) h
end
theorem wid' {i : Nat} (h0 : 1 ≤ i) (h : i < 4611686018427387904) : wi64 ((i : Int) - 1) = ((i - 1 : Nat) : Int) := by
 rw [show (i : Int) - 1 = ((i - 1 : Nat) : Int) by omega]; exact wiN (by omega)
theorem wisub {i j : Nat} (h0 : j ≤ i) (h : i < 4611686018427387904) : wi64 ((i : Int) - (j : Int)) = ((i - j : Nat) : Int) := by
 rw [show (i : Int) - (j : Int) = ((i - j : Nat) : Int) by omega]; exact wiN (by omega)
theorem midN {i j : Nat} (h : i + j < 4611686018427387904) : wi64 (Int.fdiv (wu64 (wi64 ((i : Int) + (j : Int)))) (2 ^ 1)) = (((i + j) / 2 : Nat) : Int) := by
 rw [wia h, wu (p := ((i + j : Nat) : Int)) ⟨by omega, by omega⟩, show (2 : Int) ^ 1 = 2 from rfl, Int.fdiv_eq_ediv_of_nonneg _ (by decide), show (((i + j : Nat) : Int)) / 2 = (((i + j) / 2 : Nat) : Int) by omega]
 exact wiN (by omega)
theorem bins {R : Type} (L : Nat → Int → Int → Option R) (K : Int → Option R) (p : Nat → Prop) {lo hi : Nat} (hlo : lo ≤ hi) (hhi : hi < 2305843009213693952)
  (mono : ∀ h h', lo ≤ h' → h' ≤ h → h < hi → p h → p h')
  (step : ∀ f (i j : Nat), lo ≤ i → i < j → j ≤ hi → (p ((i + j) / 2) ∧ L (f + 1) i j = L f (((i + j) / 2 + 1 : Nat) : Int) j) ∨ (¬ p ((i + j) / 2) ∧ L (f + 1) i j = L f i (((i + j) / 2 : Nat) : Int)))
  (stop : ∀ f (i : Nat), lo ≤ i → i ≤ hi → L (f + 1) i i = K i) : ∃ s : Nat, lo ≤ s ∧ s ≤ hi ∧ (∀ h, lo ≤ h → h < s → p h) ∧ (∀ h, s ≤ h → h < hi → ¬ p h) ∧ L fu lo hi = K s := by
 have key : ∀ (k f i j : Nat), j - i ≤ k → k < f → lo ≤ i → i ≤ j → j ≤ hi → (∀ h, lo ≤ h → h < i → p h) → (∀ h, j ≤ h → h < hi → ¬ p h) → ∃ s : Nat, lo ≤ s ∧ s ≤ hi ∧ (∀ h, lo ≤ h → h < s → p h) ∧ (∀ h, s ≤ h → h < hi → ¬ p h) ∧ L f i j = K s := by
  intro k
  induction k with
  | zero =>
   intro f i j hk hf h1 h2 h3 h4 h5
   obtain ⟨f, rfl⟩ : ∃ g, f = g + 1 := ⟨f - 1, by omega⟩
   obtain rfl : i = j := by omega
   exact ⟨i, h1, h3, h4, h5, stop f i h1 h3⟩
  | succ k ih =>
   intro f i j hk hf h1 h2 h3 h4 h5
   obtain ⟨f, rfl⟩ : ∃ g, f = g + 1 := ⟨f - 1, by omega⟩
   by_cases hij : i = j
   ·subst hij; exact ⟨i, h1, h3, h4, h5, stop f i h1 h3⟩
   ·rcases step f i j h1 (by omega) h3 with ⟨e1, e2⟩ | ⟨e1, e2⟩
    ·rw [e2]; exact ih f ((i + j) / 2 + 1) j (by omega) (by omega) (by omega) (by omega) h3 (fun h a b => mono ((i + j) / 2) h a (by omega) (by omega) e1) h5
    ·rw [e2]; exact ih f i ((i + j) / 2) (by omega) (by omega) h1 (by omega) (by omega) h4 (fun h a b c => e1 (mono h ((i + j) / 2) (by omega) a b c))
 exact key (hi - lo) fu lo hi (Nat.le_refl _) (by unfold fu; omega) (Nat.le_refl _) hlo (Nat.le_refl _) (fun h a b => by omega) (fun h a b => by omega)
end Go.Proofs.Ytaokohndeepbjaa
