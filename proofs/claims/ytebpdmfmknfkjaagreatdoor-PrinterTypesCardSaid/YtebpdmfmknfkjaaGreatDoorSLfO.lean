import Derived.Test.YtebpdmfmknfkjaaGreatDoorSLfF
import Derived.Deep.Slices
import Derived.WideShapes
import Derived.Carry
import Derived.OpenShut
import Derived.Lib.LaidTab
import Derived.Sort.Grow
import Derived.Deep.Draws
namespace Go.Vc
open Go Go.RowKit Go.WideShapes
def Opn (P : Program) (t : TypeId) {α : Type} (c : Cod α) (ok : α → Prop) : Prop :=
 ∀ {H : Type} (enc : TypeId × Value → H) (w : World) (sp : Nat → Bool) (held : Bool) (fuel : Nat) (cs : List Value) (x : DataW H × List MemPlace),
  DataW.trod enc P w 0 sp held fuel t cs = some x → ∃ v : α, c.rel noM w v cs ∧ ok v
abbrev okI (k : IntKind) (n : Int) : Prop := (Lit.int k n).wf = true
section
variable {P : Program} {t e : TypeId} {α : Type} {c : Cod α} {ok : α → Prop}
theorem Opn.int {k : IntKind} (ht : P.underlying t = some (.int k)) : Opn P t (cInt k) (okI k) := fun enc w sp held fuel cs x h => by
 obtain ⟨n, h1, _, h2⟩ := DataW.trod_int ht h
 exact ⟨n, h1, h2⟩
theorem Opn.arg {H : Type} {enc : TypeId × Value → H} {w : World} {sp : Nat → Bool} {held : Bool} {v : Value} {d : DataW H} {ps : List MemPlace} (ho : Opn P t c ok) (h : DataW.Trod enc P w 0 sp held t v d ps) : ∃ x, c.rel noM w x v.cells.toList ∧ ok x := by
 obtain ⟨fuel, hf⟩ := h
 exact ho enc w sp held fuel _ _ hf
theorem okAgg {w : World} {r : Reach} {base : Nat} {v : Value} (ht : (match P.underlying t with | some (.struct _) | some (.array _ _) => true | _ => false) = true) (h : Value.okWide P w r base t v) : ∃ cs, v = .agg cs := by
 unfold Value.okWide at h
 split at h
 ·obtain ⟨cs, h, _⟩ := h; exact ⟨cs, h⟩
 ·obtain ⟨cs, h, _⟩ := h; exact ⟨cs, h⟩
 ·rename_i h1 h2
  split at ht
  ·rename_i h3; exact absurd h3 (h1 _)
  ·rename_i h3; exact absurd h3 (h2 _ _)
  ·cases ht
theorem Ext.grown {w : World} {k : Nat} {os : Array Obj} : Ext w (Go.Sort.grow (w.drewN k) os) := by
 refine ⟨?_, ?_, ?_, ?_, fun i hi => ?_⟩
 ·simp [Go.Sort.grow, World.drewN]
 ·simp [Go.Sort.grow, World.drewN]
 ·simp [Go.Sort.grow, World.drewN]
 ·simp [Go.Sort.grow, World.drewN]
 ·have e : (w.drewN k).heap = w.heap := by simp [World.drewN]
  show ((w.drewN k).heap ++ os)[i]? = _
  rw [e, Array.getElem?_append_left hi]
theorem TabIs_same {name : String} {g : Nat} {k : IntKind} {zs : List Int} {w w' : World} (hg : P.globalNamed name = some g) (h : Lib.TabIs P w name k zs) (he : w'.heap[g]? = w.heap[g]?) : Lib.TabIs P w' name k zs := by
 unfold Lib.TabIs World.var? at *
 rw [hg] at *
 simp only [Option.bind_some] at *
 rw [he]; exact h
def tabCl {name : String} {g : Nat} (hg : P.globalNamed name = some g) (k : IntKind) (zs : List Int) : Cl :=
 ⟨fun D w => Lib.TabIs P w name k zs ∧ g < w.heap.size ∧ ¬ D g, fun hs ⟨h1, h2, h3⟩ => ⟨TabIs_same hg h1 (hs.keep _ h2 h3).1, Nat.lt_of_lt_of_le h2 hs.size, (hs.keep _ h2 h3).2⟩⟩
theorem tabCl.start {name : String} {g : Nat} (hg : P.globalNamed name = some g) {k : IntKind} {zs : List Int} {w : World} (h : Lib.TabIs P w name k zs) : (tabCl hg k zs).p noM w := by
 refine ⟨h, ?_, fun h => h⟩
 unfold Lib.TabIs World.var? at h
 rw [hg] at h
 by_cases hb : g < w.heap.size
 ·exact hb
 ·have e : w.heap[g]? = none := by simp; omega
  simp [e] at h
end
end Go.Vc
