import Derived.Test.YtpedfojbfbccaaaGreatSXe
namespace Go.Proofs.YtpedfojbfbccaaaGreat
open Go Go.RowKit Go.Vc
set_option linter.unusedVariables false
set_option linter.unusedSimpArgs false
def runG {α : Type} (g : Nat → α × Int) : Nat → Int
 | 0 => 0
 | n + 1 => if runG g n = 0 then (g n).2 else runG g n
theorem runG_all {α : Type} {g : Nat → α × Int} : ∀ {V : Nat}, (∀ n, n < V → (g n).2 = 0) → runG g V = 0
 | 0, _ => rfl
 | V + 1, h => by rw [runG, if_pos (runG_all fun n hn => h n (by omega))]; exact h V (by omega)
theorem runG_first {α : Type} {g : Nat → α × Int} {N : Nat} (h1 : (g N).2 ≠ 0) (h2 : ∀ n, n < N → (g n).2 = 0) : ∀ {V : Nat}, N < V → runG g V = (g N).2
 | V + 1, h => by
  rw [runG]
  by_cases e : N = V
  ·subst e; rw [if_pos (runG_all h2)]
  ·have := runG_first h1 h2 (V := V) (by omega)
   rw [if_neg (by rw [this]; exact h1), this]
theorem first_ne {α : Type} (g : Nat → α × Int) (V : Nat) : (∀ n, n < V → (g n).2 = 0) ∨ ∃ N, N < V ∧ (g N).2 ≠ 0 ∧ ∀ n, n < N → (g n).2 = 0 := by
 induction V with
 | zero => left; intro n h; omega
 | succ V ih =>
  rcases ih with h | ⟨N, h1, h2, h3⟩
  ·by_cases hv : (g V).2 = 0
   ·left
    intro n hn
    rcases Nat.lt_or_ge n V with h' | h'
    ·exact h n h'
    ·obtain rfl : n = V := by omega
     exact hv
   ·right; exact ⟨V, by omega, hv, h⟩
  ·right; exact ⟨N, by omega, h2, h3⟩
def ranG {α : Type} (g : Nat → α × Int) (n : Nat) : List α := (List.range n).map fun k => (g k).1
theorem ranG_len {α : Type} (g : Nat → α × Int) (n : Nat) : (ranG g n).length = n := by simp [ranG]
theorem ranG_succ {α : Type} (g : Nat → α × Int) (n : Nat) : ranG g (n + 1) = ranG g n ++ [(g n).1] := by simp [ranG, List.range_succ]
theorem ranG_get {α : Type} (g : Nat → α × Int) {n k : Nat} (h : k < n) : (ranG g n)[k]? = some (g k).1 := by simp [ranG, h]
theorem red_loop {α R : Type} {V : Nat} (g : Nat → α × Int) (hV : V < 4611686018427387904) (m : Nat → List α → Int → Option R) (W : Int → Option R) (fin : List α → Option R)
  (hm : ∀ f (i : Nat) vs, i < V → vs.length = i → m (f + 1) vs (i : Int) = if (g i).2 = 0 then m f (vs ++ [(g i).1]) ((i + 1 : Nat) : Int) else W (g i).2)
  (hz : ∀ f vs, vs.length = V → m (f + 1) vs (V : Int) = fin vs) : m fu [] 0 = if runG g V = 0 then fin (ranG g V) else W (runG g V) := by
 rcases first_ne g V with h | ⟨N, h1, h2, h3⟩
 ·rw [if_pos (runG_all h)]
  refine loop_eq (L := m) (n := V) hV (fun i s => s = ranG g i) ?_ ?_ [] rfl
  ·rintro f i s hi rfl
   left
   exact ⟨_, rfl, by rw [hm f i _ hi (ranG_len g i), if_pos (h i hi), ranG_succ]⟩
  ·rintro f s rfl
   exact hz f _ (ranG_len g V)
 ·have e := runG_first h2 h3 h1
  rw [if_neg (by rw [e]; exact h2), e]
  refine loop_eq (L := m) (n := N) (by omega) (fun i s => s = ranG g i) ?_ ?_ [] rfl
  ·rintro f i s hi rfl
   left
   exact ⟨_, rfl, by rw [hm f i _ (by omega) (ranG_len g i), if_pos (h3 i hi), ranG_succ]⟩
  ·rintro f s rfl
   rw [hm f N _ h1 (ranG_len g N), if_neg h2]
theorem sel_get {l : List GTensor} {g : List Nat} (h : ∀ d ∈ g, d < l.length) (k : Nat) : (sel l g)[k]? = g[k]?.bind fun d => l[d]? := by
 induction g generalizing k with
 | nil => rfl
 | cons d g ih =>
  obtain ⟨x, hx⟩ := at_some (h d (by simp))
  have e : sel l (d :: g) = x :: sel l g := by unfold sel; simp [hx]
  rw [e]
  cases k with
  | zero => simp [hx]
  | succ k => simpa using ih (fun e he => h e (by simp [he])) k
theorem Ten.TeL {l : List GTensor} {dn : List Nat} {ty : GType} (hy : TyR ty) (h : ∀ t ∈ l, Ten t dn ∧ t.Type_ = ty) : Go.Proofs.YtpedfojbfbccaaaGreat.TeL l := by
 refine ⟨fun t ht => ?_, fun t ht => ?_, fun t ht => ?_⟩
 ·obtain ⟨h1, h2⟩ := h t ht
  exact ⟨by rw [h2]; exact hy, fun v hv => frVaR (frOK_of h1.ty (h1.ok v hv))⟩
 ·have := (h t ht).1.shp.len; rw [(h t ht).1.shp.eq, ci_len]; omega
 ·have := (h t ht).1.shp.le; rw [(h t ht).1.len]; omega
end Go.Proofs.YtpedfojbfbccaaaGreat
