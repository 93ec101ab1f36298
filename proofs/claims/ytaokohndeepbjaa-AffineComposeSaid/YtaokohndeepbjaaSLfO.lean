import Derived.Test.YtaokohndeepbjaaSLfF
import Derived.Deep.Slices
import Derived.WideShapes
import Derived.Carry
import Derived.OpenShut
import Derived.Lib.LaidTab
import Derived.Sort.Grow
import Derived.Deep.Draws
namespace Go.Vc
open Go Go.RowKit Go.WideShapes
theorem cells_spec {w : World} {base : Nat} {a : Addr} {n : Nat} {cs : List Value} (h : w.cells? base a n = some cs) : cs.length = n ∧ CellsAt w a cs := by
 unfold World.cells? at h
 split at h
 ·have hl := Lib.mapM_length h
  rw [List.length_range] at hl
  refine ⟨hl, fun j u hu => ?_⟩
  have hj : j < n := by rw [← hl]; exact (List.getElem?_eq_some_iff.1 hu).1
  obtain ⟨b, hb, he⟩ := Lib.mapM_at h j j (by simp [hj])
  rw [hu] at hb
  injection hb with hb
  subst hb
  exact he
 ·cases h
theorem list_of {α : Type} (p : Nat → α → Prop) (n : Nat) (h : ∀ i, i < n → ∃ x, p i x) : ∃ l : List α, l.length = n ∧ ∀ (i : Nat) (hi : i < l.length), p i l[i] := by
 induction n with
 | zero => exact ⟨[], rfl, fun i hi => absurd hi (by simp)⟩
 | succ n ih =>
  obtain ⟨l, hl, hp⟩ := ih fun i hi => h i (by omega)
  obtain ⟨x, hx⟩ := h n (by omega)
  refine ⟨l ++ [x], by simp [hl], fun i hi => ?_⟩
  rcases Nat.lt_or_ge i l.length with h1 | h1
  ·rw [List.getElem_append_left h1]; exact hp i h1
  ·have : i = n := by simp at hi; omega
   subst this
   rw [List.getElem_append_right h1]
   simp [hl, hx]
theorem CellsAt.flat {w : World} {a : Addr} {k : Nat} (l : List (List Value)) (hk : ∀ x ∈ l, x.length = k) (h : ∀ (i : Nat) (hi : i < l.length), CellsAt w (a.add (i * k)) l[i]) : CellsAt w a l.flatten := by
 rcases Nat.eq_zero_or_pos k with h0 | h0
 ·have : l.flatten = [] := by
   apply List.eq_nil_iff_forall_not_mem.2
   intro x hx
   obtain ⟨y, hy, hxy⟩ := List.mem_flatten.1 hx
   have := hk y hy
   rw [h0] at this
   rw [List.eq_nil_of_length_eq_zero this] at hxy
   cases hxy
  rw [this]; intro j u hu; simp at hu
 intro j u hu
 have key : ∀ (l : List (List Value)), (∀ x ∈ l, x.length = k) → ∀ j u, l.flatten[j]? = some u → ∃ hi : j / k < l.length, (l[j / k])[j % k]? = some u := by
  intro l
  induction l with
  | nil => intro _ j u hu; simp at hu
  | cons x l ih =>
   intro hk j u hu
   have hx := hk x (by simp)
   rw [List.flatten_cons] at hu
   rcases Nat.lt_or_ge j k with hj | hj
   ·rw [List.getElem?_append_left (by omega)] at hu
    refine ⟨by rw [Nat.div_eq_of_lt hj]; simp, ?_⟩
    simp only [Nat.div_eq_of_lt hj, Nat.mod_eq_of_lt hj, List.getElem_cons_zero]
    exact hu
   ·rw [List.getElem?_append_right (by omega), hx] at hu
    obtain ⟨h1, h2⟩ := ih (fun y hy => hk y (by simp [hy])) (j - k) u hu
    have e1 : j / k = (j - k) / k + 1 := by rw [Nat.div_eq_sub_div h0 hj]
    have e2 : j % k = (j - k) % k := Nat.mod_eq_sub_mod hj
    refine ⟨by rw [e1]; simp; omega, ?_⟩
    simp only [e1, e2, List.getElem_cons_succ]
    exact h2
 obtain ⟨hi, hx⟩ := key l hk j u hu
 have := h (j / k) hi (j % k) u hx
 rw [add_add, Nat.mul_comm, Nat.div_add_mod] at this
 exact this
def Opn (P : Program) (t : TypeId) {α : Type} (c : Cod α) (ok : α → Prop) : Prop :=
 ∀ {H : Type} (enc : TypeId × Value → H) (w : World) (sp : Nat → Bool) (held : Bool) (fuel : Nat) (cs : List Value) (x : DataW H × List MemPlace),
  DataW.trod enc P w 0 sp held fuel t cs = some x → ∃ v : α, c.rel noM w v cs ∧ ok v
abbrev okI (k : IntKind) (n : Int) : Prop := (Lit.int k n).wf = true
abbrev okS (s : List UInt8) : Prop := s.length ≤ maxLen
abbrev okL {α : Type} (ok : α → Prop) (xs : List α) : Prop := (∀ x ∈ xs, ok x) ∧ xs.length ≤ maxLen
section
variable {P : Program} {t e : TypeId} {α : Type} {c : Cod α} {ok : α → Prop}
theorem Opn.int {k : IntKind} (ht : P.underlying t = some (.int k)) : Opn P t (cInt k) (okI k) := fun enc w sp held fuel cs x h => by
 obtain ⟨n, h1, _, h2⟩ := DataW.trod_int ht h
 exact ⟨n, h1, h2⟩
theorem Opn.str (ht : P.underlying t = some .string) : Opn P t cStr okS := fun enc w sp held fuel cs x h => by
 obtain ⟨s, h1, _, h2⟩ := DataW.trod_string ht h
 refine ⟨s.data.toList, ?_, by show s.data.toList.length ≤ maxLen; rw [Array.length_toList]; exact h2⟩
 subst h1
 simp [cStr, str]
theorem Rels.of_pairs {D : NP} {w : World} {l : List (α × List Value)} (h : ∀ q ∈ l, c.rel D w q.1 q.2) : Rels c D w (l.map (·.1)) (l.map (·.2)) := by
 induction l with
 | nil => trivial
 | cons q l ih => exact ⟨h q (by simp), ih fun p hp => h p (by simp [hp])⟩
theorem CellsAt.lives {w : World} {a : Addr} {l : List Value} (h : CellsAt w a l) (h0 : 0 < l.length) : a.block < w.heap.size := by
 obtain ⟨v, hv⟩ : ∃ v, l[0]? = some v := ⟨l[0], by simp [h0]⟩
 have h1 := h 0 v hv
 rw [Addr.add_zero'] at h1
 unfold World.cell? at h1
 by_cases hb : a.block < w.heap.size
 ·exact hb
 ·have : w.heap[a.block]? = none := by simp; omega
  simp [this] at h1
theorem Opn.sl (ht : P.underlying t = some (.slice e)) (hc : P.cellsOf e = c.n) (h0 : 0 < c.n) (he : Opn P e c ok) : Opn P t (cSl c) (okL ok) := fun enc w sp held fuel cs x h => by
 rcases DataW.trod_slice ht h with ⟨h1, _⟩ | ⟨a, len, cap, elems, rest, n, _, h1, _, _, hcap, hmax, hlen, hel, _⟩
 ·exact ⟨[], ⟨none, 0, h1, SlC.nil⟩, fun x hx => (by simp at hx), by simp⟩
 ·obtain ⟨l, hl, hp⟩ := list_of (fun i (q : α × List Value) => (c.rel noM w q.1 q.2 ∧ ok q.1) ∧ CellsAt w (a.add (i * c.n)) q.2) len fun i hi => by
   have h2 := hel i hi
   obtain ⟨y, hy⟩ : ∃ y, elems[i]? = some y := ⟨elems[i]'(by omega), by simp [hlen, hi]⟩
   rw [hy, Option.bind_eq_some_iff] at h2
   obtain ⟨cs', h3, h4⟩ := h2
   obtain ⟨h5, h6⟩ := cells_spec h3
   obtain ⟨v, h7, h8⟩ := he enc w sp held n cs' y h4
   rw [hc] at h6
   exact ⟨(v, cs'), ⟨h7, h8⟩, h6⟩
  have hall : ∀ q ∈ l, c.rel noM w q.1 q.2 ∧ ok q.1 := fun q hq => by
   obtain ⟨i, hi, rfl⟩ := List.getElem_of_mem hq
   exact (hp i hi).1
  refine ⟨l.map (·.1), ⟨some a, cap, by rw [h1, List.length_map, hl], ?_⟩, fun x hx => ?_, ?_⟩
  ·refine ⟨by rw [List.length_map, hl]; exact hcap, fun hn => ⟨a, rfl, ?_, fun h => h, l.map (·.2), Rels.of_pairs fun q hq => (hall q hq).1, ?_⟩⟩
   ·have hn' : 0 < l.length := by simpa using hn
    have h2 := hp 0 hn'
    rw [Nat.zero_mul, Addr.add_zero'] at h2
    exact CellsAt.lives h2.2 (by rw [c.len (h2.1).1]; exact h0)
   ·refine CellsAt.flat (k := c.n) _ (fun x hx => ?_) fun i hi => ?_
    ·obtain ⟨q, hq, rfl⟩ := List.mem_map.1 hx
     exact c.len (hall q hq).1
    ·rw [List.getElem_map]
     exact (hp i (by simpa using hi)).2
  ·obtain ⟨q, hq, rfl⟩ := List.mem_map.1 hx
   exact (hall q hq).2
  ·rw [List.length_map, hl]; omega
theorem Opn.arg {H : Type} {enc : TypeId × Value → H} {w : World} {sp : Nat → Bool} {held : Bool} {v : Value} {d : DataW H} {ps : List MemPlace} (ho : Opn P t c ok) (h : DataW.Trod enc P w 0 sp held t v d ps) : ∃ x, c.rel noM w x v.cells.toList ∧ ok x := by
 obtain ⟨fuel, hf⟩ := h
 exact ho enc w sp held fuel _ _ hf
theorem wf_int {k : IntKind} {n : Int} (h : (Lit.int k n).wf = true) : k.min ≤ n ∧ n ≤ k.max := by
 simpa [Lit.wf, IntKind.has] using h
end
end Go.Vc
