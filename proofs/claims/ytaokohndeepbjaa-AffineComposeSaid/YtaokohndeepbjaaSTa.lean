import Derived.Test.YtaokohndeepbjaaSPj
import Derived.KernelRfl
namespace Go.Proofs.Ytaokohndeepbjaa
open Go Go.RowKit Go.Vc
set_option linter.unusedVariables false
set_option linter.unusedSimpArgs false
theorem wiN {n : Nat} (h : n < 4611686018427387904) : wi64 (n : Int) = n := wr_i64 (p := (n : Int)) ⟨by omega, by omega⟩
theorem wis {i : Nat} (h : i < 4611686018427387904) : wi64 ((i : Int) + 1) = ((i + 1 : Nat) : Int) := by
 have h2 : R64 ((i : Int) + 1) := ⟨by omega, by omega⟩
 exact (wr_i64 h2).trans (by omega)
theorem latN {α : Type} (l : List α) (i : Nat) : lat l (i : Int) = l[i]? := by simp [Vc.lat]
theorem lat_at {α : Type} {l : List α} {i : Nat} {x : α} (h : l[i]? = some x) : lat l (i : Int) = some x := (latN l i).trans h
theorem lt_dec {a b : Nat} (h : a < b) : decide ((a : Int) < (b : Int)) = true := by simpa using h
theorem lapp_ok {α : Type} {xs ys : List α} (h : xs.length + ys.length ≤ 4294967296) : lapp xs ys = some (xs ++ ys) := by unfold lapp; rw [if_pos h]
theorem loop_ok {σ R : Type} {L : Nat → σ → Int → Option R} {n : Nat} (I : Nat → σ → Prop) (Q : R → Prop)
  (rd : ∀ f i s, i < n → I i s → (∃ s', I (i + 1) s' ∧ L (f + 1) s (i : Int) = L f s' ((i + 1 : Nat) : Int)) ∨ ∃ r, L (f + 1) s (i : Int) = some r ∧ Q r)
  (fin : ∀ f s, I n s → ∃ r, L (f + 1) s (n : Int) = some r ∧ Q r) :
  ∀ (k f i : Nat) (s : σ), i + k = n → k < f → I i s → ∃ r, L f s (i : Int) = some r ∧ Q r
 | 0, f, i, s, h, hf, hI => by
  obtain ⟨f, rfl⟩ : ∃ g, f = g + 1 := ⟨f - 1, by omega⟩
  obtain rfl : i = n := by omega
  exact fin f s hI
 | k + 1, f, i, s, h, hf, hI => by
  obtain ⟨f, rfl⟩ : ∃ g, f = g + 1 := ⟨f - 1, by omega⟩
  rcases rd f i s (by omega) hI with ⟨s', h1, h2⟩ | ⟨r, h1, h2⟩
  ·rw [h2]; exact loop_ok I Q rd fin k f (i + 1) s' (by omega) (by omega) h1
  ·exact ⟨r, h1, h2⟩
theorem loop_fu {σ R : Type} {L : Nat → σ → Int → Option R} {n : Nat} (hn : n < 4611686018427387904) (I : Nat → σ → Prop) (Q : R → Prop)
  (rd : ∀ f i s, i < n → I i s → (∃ s', I (i + 1) s' ∧ L (f + 1) s (i : Int) = L f s' ((i + 1 : Nat) : Int)) ∨ ∃ r, L (f + 1) s (i : Int) = some r ∧ Q r)
  (fin : ∀ f s, I n s → ∃ r, L (f + 1) s (n : Int) = some r ∧ Q r) (s : σ) (h0 : I 0 s) : ∃ r, L fu s 0 = some r ∧ Q r :=
 loop_ok I Q rd fin n fu 0 s (by omega) (by unfold fu; omega) h0
theorem loop_eq {σ R : Type} {L : Nat → σ → Int → Option R} {n : Nat} {r0 : Option R} (hn : n < 4611686018427387904) (I : Nat → σ → Prop)
  (rd : ∀ f i s, i < n → I i s → (∃ s', I (i + 1) s' ∧ L (f + 1) s (i : Int) = L f s' ((i + 1 : Nat) : Int)) ∨ L (f + 1) s (i : Int) = r0)
  (fin : ∀ f s, I n s → L (f + 1) s (n : Int) = r0) (s : σ) (h0 : I 0 s) : L fu s 0 = r0 := by
 have key : ∀ (k f i : Nat) (s : σ), i + k = n → k < f → I i s → L f s (i : Int) = r0 := by
  intro k
  induction k with
  | zero =>
   intro f i s h hf hI
   obtain ⟨f, rfl⟩ : ∃ g, f = g + 1 := ⟨f - 1, by omega⟩
   obtain rfl : i = n := by omega
   exact fin f s hI
  | succ k ih =>
   intro f i s h hf hI
   obtain ⟨f, rfl⟩ : ∃ g, f = g + 1 := ⟨f - 1, by omega⟩
   rcases rd f i s (by omega) hI with ⟨s', h1, h2⟩ | h1
   ·rw [h2]; exact ih f (i + 1) s' (by omega) (by omega) h1
   ·exact h1
 exact key n fu 0 s (by omega) (by unfold fu; omega) h0
theorem loop_sim {σ τ R : Type} {L : Nat → σ → Int → Option R} {M : Nat → τ → Int → Option R} {n : Nat} (hn : n < 4611686018427387904) (I : Nat → σ → τ → Prop) (Q : R → Prop)
  (rd : ∀ i s t, i < n → I i s t → (∃ s' t', I (i + 1) s' t' ∧ (∀ f, L (f + 1) s (i : Int) = L f s' ((i + 1 : Nat) : Int)) ∧ ∀ f, M (f + 1) t (i : Int) = M f t' ((i + 1 : Nat) : Int)) ∨ ∃ r, Q r ∧ (∀ f, L (f + 1) s (i : Int) = some r) ∧ ∀ f, M (f + 1) t (i : Int) = some r)
  (fin : ∀ s t, I n s t → ∃ r, Q r ∧ (∀ f, L (f + 1) s (n : Int) = some r) ∧ ∀ f, M (f + 1) t (n : Int) = some r) (s : σ) (t : τ) (h0 : I 0 s t) : ∃ r, Q r ∧ L fu s 0 = some r ∧ M fu t 0 = some r := by
 have key : ∀ (k f g i : Nat) (s : σ) (t : τ), i + k = n → k < f → k < g → I i s t → ∃ r, Q r ∧ L f s (i : Int) = some r ∧ M g t (i : Int) = some r := by
  intro k
  induction k with
  | zero =>
   intro f g i s t h hf hg hI
   obtain ⟨f, rfl⟩ : ∃ q, f = q + 1 := ⟨f - 1, by omega⟩
   obtain ⟨g, rfl⟩ : ∃ q, g = q + 1 := ⟨g - 1, by omega⟩
   obtain rfl : i = n := by omega
   obtain ⟨r, h0, h1, h2⟩ := fin s t hI
   exact ⟨r, h0, h1 f, h2 g⟩
  | succ k ih =>
   intro f g i s t h hf hg hI
   obtain ⟨f, rfl⟩ : ∃ q, f = q + 1 := ⟨f - 1, by omega⟩
   obtain ⟨g, rfl⟩ : ∃ q, g = q + 1 := ⟨g - 1, by omega⟩
   rcases rd i s t (by omega) hI with ⟨s', t', h1, h2, h3⟩ | ⟨r, h0, h1, h2⟩
   ·rw [h2, h3]; exact ih f g (i + 1) s' t' (by omega) (by omega) (by omega) h1
   ·exact ⟨r, h0, h1 f, h2 g⟩
 exact key n fu fu 0 s t (by omega) (by unfold fu; omega) (by unfold fu; omega) h0
theorem any_no {R : Type} {n : Nat} (hn : n < 4611686018427387904) {r2 : Option R} (m : Nat → Int → Option R)
  (hm : ∀ f i, i < n → m (f + 1) (i : Int) = m f ((i + 1 : Nat) : Int)) (hz : ∀ f, m (f + 1) (n : Int) = r2) : m fu 0 = r2 :=
 loop_eq (L := fun f (_ : Unit) i => m f i) hn (fun _ _ => True) (fun f i _ hi _ => .inl ⟨(), trivial, hm f i hi⟩) (fun f _ _ => hz f) () trivial
theorem any_yes {R : Type} {n k : Nat} (hn : n < 4611686018427387904) (hk : k < n) {r1 : Option R} (m : Nat → Int → Option R)
  (hm : ∀ f i, i < k → m (f + 1) (i : Int) = m f ((i + 1 : Nat) : Int) ∨ m (f + 1) (i : Int) = r1) (hz : ∀ f, m (f + 1) (k : Int) = r1) : m fu 0 = r1 :=
 loop_eq (L := fun f (_ : Unit) i => m f i) (n := k) (by omega) (fun _ _ => True) (fun f i _ hi _ => (hm f i hi).imp (fun h => ⟨(), trivial, h⟩) id) (fun f _ _ => hz f) () trivial
theorem take_succ' {α : Type} {l : List α} {i : Nat} {x : α} (h : l[i]? = some x) : l.take (i + 1) = l.take i ++ [x] := by rw [List.take_add_one, h]; rfl
theorem drop_at {α : Type} {l : List α} {i : Nat} {x : α} (h : l[i]? = some x) : l.drop i = x :: l.drop (i + 1) := by
 obtain ⟨h1, h2⟩ := List.getElem?_eq_some_iff.1 h
 rw [List.drop_eq_getElem_cons h1, h2]
theorem at_some {α : Type} {l : List α} {i : Nat} (h : i < l.length) : ∃ x, l[i]? = some x := ⟨l[i], by simp [h]⟩
def prd : List Nat → Nat
 | [] => 1
 | x :: d => x * prd d
def off : List Nat → List Nat → Nat
 | _ :: d, q :: p => q * prd d + off d p
 | _, _ => 0
end Go.Proofs.Ytaokohndeepbjaa
