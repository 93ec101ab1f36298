import Derived.Test.YtebpdmfmknfkjaaGreatDoorSPj
import Derived.KernelRfl
namespace Go.Proofs.YtebpdmfmknfkjaaGreatDoor
open Go Go.RowKit Go.Vc
set_option linter.unusedVariables false
set_option linter.unusedSimpArgs false
theorem wiN {n : Nat} (h : n < 4611686018427387904) : wi64 (n : Int) = n := wr_i64 (p := (n : Int)) ⟨by omega, by omega⟩
theorem wis {i : Nat} (h : i < 4611686018427387904) : wi64 ((i : Int) + 1) = ((i + 1 : Nat) : Int) := by
 have h2 : R64 ((i : Int) + 1) := ⟨by omega, by omega⟩
 exact (wr_i64 h2).trans (by omega)
theorem wia {a b : Nat} (h : a + b < 4611686018427387904) : wi64 ((a : Int) + (b : Int)) = ((a + b : Nat) : Int) := by
 rw [← Int.natCast_add]; exact wiN h
theorem latN {α : Type} (l : List α) (i : Nat) : lat l (i : Int) = l[i]? := by simp [Vc.lat]
theorem lat_at {α : Type} {l : List α} {i : Nat} {x : α} (h : l[i]? = some x) : lat l (i : Int) = some x := (latN l i).trans h
theorem lt_dec {a b : Nat} (h : a < b) : decide ((a : Int) < (b : Int)) = true := by simpa using h
theorem lapp_ok {α : Type} {xs ys : List α} (h : xs.length + ys.length ≤ 4294967296) : lapp xs ys = some (xs ++ ys) := by unfold lapp; rw [if_pos h]
theorem lapp_nil {α : Type} {ys : List α} (h : ys.length ≤ 4294967296) : lapp [] ys = some ys := by rw [lapp_ok (by simpa using h)]; rfl
theorem loop_ok {σ R : Type} {L : Nat → σ → Int → Option R} {n : Nat} (I : Nat → σ → Prop) (Q : R → Prop)
  (rd : ∀ f i s, i < n → I i s → (∃ s', I (i + 1) s' ∧ L (f + 1) s (i : Int) = L f s' ((i + 1 : Nat) : Int)) ∨ ∃ r, L (f + 1) s (i : Int) = some r ∧ Q r)
  (fin : ∀ f s, I n s → ∃ r, L (f + 1) s (n : Int) = some r ∧ Q r) :
  ∀ (k f i : Nat) (s : σ), i + k = n → k < f → I i s → ∃ r, L f s (i : Int) = some r ∧ Q r
 | 0, f, i, s, h, hf, hI => by
  obtain ⟨f, rfl⟩ : ∃ g, f = g + 1 := ⟨f - 1, by omega⟩
  obtain rfl : i = n := by omega
  exact fin f s hI
 | k + 1, f, i, s, h, hf, hI => by
  obtain ⟨f, rfl⟩ : ∃ g, f = g + 1 := ⟨f - 1, by omega⟩
  rcases rd f i s (by omega) hI with ⟨s', h1, h2⟩ | ⟨r, h1, h2⟩
  ·rw [h2]; exact loop_ok I Q rd fin k f (i + 1) s' (by omega) (by omega) h1
  ·exact ⟨r, h1, h2⟩
theorem loop_fu {σ R : Type} {L : Nat → σ → Int → Option R} {n : Nat} (hn : n < 4611686018427387904) (I : Nat → σ → Prop) (Q : R → Prop)
  (rd : ∀ f i s, i < n → I i s → (∃ s', I (i + 1) s' ∧ L (f + 1) s (i : Int) = L f s' ((i + 1 : Nat) : Int)) ∨ ∃ r, L (f + 1) s (i : Int) = some r ∧ Q r)
  (fin : ∀ f s, I n s → ∃ r, L (f + 1) s (n : Int) = some r ∧ Q r) (s : σ) (h0 : I 0 s) : ∃ r, L fu s 0 = some r ∧ Q r :=
 loop_ok I Q rd fin n fu 0 s (by omega) (by unfold fu; omega) h0
theorem loop_eq {σ R : Type} {L : Nat → σ → Int → Option R} {n : Nat} {r0 : Option R} (hn : n < 4611686018427387904) (I : Nat → σ → Prop)
  (rd : ∀ f i s, i < n → I i s → (∃ s', I (i + 1) s' ∧ L (f + 1) s (i : Int) = L f s' ((i + 1 : Nat) : Int)) ∨ L (f + 1) s (i : Int) = r0)
  (fin : ∀ f s, I n s → L (f + 1) s (n : Int) = r0) (s : σ) (h0 : I 0 s) : L fu s 0 = r0 := by
 have key : ∀ (k f i : Nat) (s : σ), i + k = n → k < f → I i s → L f s (i : Int) = r0 := by
  intro k
  induction k with
  | zero =>
   intro f i s h hf hI
   obtain ⟨f, rfl⟩ : ∃ g, f = g + 1 := ⟨f - 1, by omega⟩
   obtain rfl : i = n := by omega
   exact fin f s hI
  | succ k ih =>
   intro f i s h hf hI
   obtain ⟨f, rfl⟩ : ∃ g, f = g + 1 := ⟨f - 1, by omega⟩
   rcases rd f i s (by omega) hI with ⟨s', h1, h2⟩ | h1
   ·rw [h2]; exact ih f (i + 1) s' (by omega) (by omega) h1
   ·exact h1
 exact key n fu 0 s (by omega) (by unfold fu; omega) h0
theorem take_succ' {α : Type} {l : List α} {i : Nat} {x : α} (h : l[i]? = some x) : l.take (i + 1) = l.take i ++ [x] := by rw [List.take_add_one, h]; rfl
theorem drop_at {α : Type} {l : List α} {i : Nat} {x : α} (h : l[i]? = some x) : l.drop i = x :: l.drop (i + 1) := by
 obtain ⟨h1, h2⟩ := List.getElem?_eq_some_iff.1 h
 rw [List.drop_eq_getElem_cons h1, h2]
theorem at_some {α : Type} {l : List α} {i : Nat} (h : i < l.length) : ∃ x, l[i]? = some x := ⟨l[i], by simp [h]⟩
def prd : List Nat → Nat
 | [] => 1
 | x :: d => x * prd d
def off : List Nat → List Nat → Nat
 | _ :: d, q :: p => q * prd d + off d p
 | _, _ => 0
end Go.Proofs.YtebpdmfmknfkjaaGreatDoor
