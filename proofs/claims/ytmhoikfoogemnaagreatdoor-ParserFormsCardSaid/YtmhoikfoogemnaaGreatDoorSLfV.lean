import Derived.Test.YtmhoikfoogemnaaGreatDoorSLfT
import Derived.Test.YtmhoikfoogemnaaGreatDoorSLfO
namespace Go.Vc
open Go Go.RowKit Go.WideShapes
structure Meas where
 f : ∀ {H : Type}, DataW H → Nat
 pos : ∀ {H : Type} (d : DataW H), 1 ≤ f d
 str : ∀ {H : Type} (l : List UInt8), l.length + 1 ≤ f (.lit (.string l) : DataW H)
 sl : ∀ {H : Type} (xs ys : List (DataW H)), (xs.map f).sum + 1 ≤ f (.slice xs ys)
 agg : ∀ {H : Type} (xs : List (DataW H)), (xs.map f).sum + 1 ≤ f (.agg xs)
abbrev okW {α : Type} (ok : α → Prop) (xs : List α) : Prop := (∀ x ∈ xs, ok x) ∧ xs.length ≤ 140737488355328
abbrev szL {α : Type} (f : α → Nat) (xs : List α) : Nat := (xs.map f).sum + xs.length
abbrev wOK {H : Type} (P : Program) (t : TypeId) (d : DataW H) : Prop := (DataW.weights P t d).all (· ≤ reachBytes) = true
def OpnB (P : Program) (t : TypeId) {α : Type} (c : Cod α) (ok : α → Prop) (sz : α → Nat) (N : Nat) : Prop :=
 ∀ {H : Type} (enc : TypeId × Value → H) (w : World) (sp : Nat → Bool) (held : Bool) (fuel : Nat) (cs : List Value) (x : DataW H × List MemPlace),
  fuel < N → DataW.trod enc P w 0 sp held fuel t cs = some x → wOK P t x.1 → ∃ v : α, c.rel noM w v cs ∧ ok v ∧ ∀ M : Meas, sz v + 1 ≤ M.f x.1
section
variable {P : Program} {t e : TypeId} {α : Type} {c : Cod α} {ok : α → Prop} {sz : α → Nat} {N : Nat}
theorem OpnB.int {k : IntKind} (ht : P.underlying t = some (.int k)) : OpnB P t (cInt k) (okI k) (fun _ => 0) N := fun enc w sp held fuel cs x _ h _ => by
 obtain ⟨n, h1, _, h2⟩ := DataW.trod_int ht h
 exact ⟨n, h1, h2, fun M => by have := M.pos x.1; omega⟩
theorem OpnB.str (ht : P.underlying t = some .string) : OpnB P t cStr okS List.length N := fun enc w sp held fuel cs x _ h _ => by
 obtain ⟨s, h1, h3, h2⟩ := DataW.trod_string ht h
 refine ⟨s.data.toList, ?_, by show s.data.toList.length ≤ maxLen; rw [Array.length_toList]; exact h2, fun M => ?_⟩
 ·subst h1
  simp [cStr, Go.Vc.str]
 ·rw [h3]; exact M.str _
theorem wAll_at {H : Type} : ∀ {ds : List (DataW H)} {p : Nat → Bool} {d : DataW H}, (DataW.weightsAll P e ds).all p = true → d ∈ ds → (DataW.weights P e d).all p = true
 | [], _, _, _, h => by cases h
 | d :: ds, p, d', h, hm => by
  rw [DataW.weightsAll, List.all_append, Bool.and_eq_true] at h
  rcases List.mem_cons.1 hm with rfl | hm
  ·exact h.1
  ·exact wAll_at h.2 hm
theorem wEach_at {H : Type} : ∀ {ts : List TypeId} {ds : List (DataW H)} {p : Nat → Bool} {i : Nat} {t : TypeId} {d : DataW H}, (DataW.weightsEach P ts ds).all p = true → ts[i]? = some t → ds[i]? = some d → (DataW.weights P t d).all p = true
 | [], _, _, _, _, _, _, h, _ => by cases h
 | _ :: _, [], _, _, _, _, _, _, h => by cases h
 | t :: ts, d :: ds, p, i, t', d', h, ht, hd => by
  rw [DataW.weightsEach, List.all_append, Bool.and_eq_true] at h
  cases i with
  | zero => injection ht with ht; injection hd with hd; subst ht; subst hd; exact h.1
  | succ i => exact wEach_at h.2 ht hd
theorem wAgg_at {H : Type} {fs : Array Field} {ds : List (DataW H)} {i : Nat} {f : Field} {d : DataW H} (ht : P.underlying t = some (.struct fs)) (h : wOK P t (.agg ds)) (hf : fs[i]? = some f) (hd : ds[i]? = some d) : wOK P f.type d := by
 unfold wOK at h
 rw [DataW.weights, ht] at h
 exact wEach_at h (by rw [List.getElem?_map, Array.getElem?_toList, hf]; rfl) hd
theorem wSl {H : Type} {xs ys : List (DataW H)} (ht : P.underlying t = some (.slice e)) (hb : Nat.blt 0 (P.bytesOf e) = true) (h : wOK P t (.slice xs ys)) : xs.length ≤ 140737488355328 ∧ ∀ d ∈ xs, wOK P e d := by
 unfold wOK at h
 rw [DataW.weights, ht] at h
 simp only [List.all_cons, Bool.and_eq_true, List.all_append] at h
 refine ⟨?_, fun d hd => wAll_at h.2.1 hd⟩
 have h1 : (xs.length + ys.length) * P.bytesOf e ≤ reachBytes := of_decide_eq_true h.1
 have h2 : 0 < P.bytesOf e := Nat.le_of_ble_eq_true hb
 have h3 : (xs.length + ys.length) * 1 ≤ (xs.length + ys.length) * P.bytesOf e := Nat.mul_le_mul_left _ h2
 unfold reachBytes at h1
 omega
theorem sum_le {β : Type} (f : α → Nat) (g : β → Nat) : ∀ (xs : List α) (ys : List β), xs.length = ys.length → (∀ i (hi : i < xs.length) (hj : i < ys.length), f xs[i] + 1 ≤ g ys[i]) → szL f xs ≤ (ys.map g).sum
 | [], [], _, _ => Nat.le_refl _
 | [], _ :: _, h, _ => by simp at h
 | _ :: _, [], h, _ => by simp at h
 | x :: xs, y :: ys, h, hp => by
  have h1 := hp 0 (by simp) (by simp)
  have h2 := sum_le f g xs ys (by simpa using h) fun i hi hj => hp (i + 1) (by simpa using hi) (by simpa using hj)
  simp only [szL, List.map_cons, List.sum_cons, List.length_cons, List.getElem_cons_zero] at *
  omega
theorem OpnB.sl (ht : P.underlying t = some (.slice e)) (hc : P.cellsOf e = c.n) (h0 : 0 < c.n) (hb : Nat.blt 0 (P.bytesOf e) = true) (he : OpnB P e c ok sz N) : OpnB P t (cSl c) (okW ok) (szL sz) N := fun enc w sp held fuel cs x hN h hw => by
 rcases DataW.trod_slice ht h with ⟨h1, _⟩ | ⟨a, len, cap, elems, rest, n, hfn, h1, hx, _, hcap, hmax, hlen, hel, _⟩
 ·exact ⟨[], ⟨none, 0, h1, SlC.nil⟩, ⟨fun x hx => (by simp at hx), by simp⟩, fun M => by have := M.pos x.1; simpa [szL] using this⟩
 ·subst hx
  obtain ⟨hw1, hw2⟩ := wSl ht hb hw
  rw [List.length_map] at hw1
  obtain ⟨l, hl, hp⟩ := list_of (fun i (q : α × List Value) => ((c.rel noM w q.1 q.2 ∧ ok q.1) ∧ CellsAt w (a.add (i * c.n)) q.2) ∧ ∀ M : Meas, ∀ y, elems[i]? = some y → sz q.1 + 1 ≤ M.f y.1) len fun i hi => by
   have h2 := hel i hi
   obtain ⟨y, hy⟩ : ∃ y, elems[i]? = some y := ⟨elems[i]'(by omega), by simp [hlen, hi]⟩
   rw [hy, Option.bind_eq_some_iff] at h2
   obtain ⟨cs', h3, h4⟩ := h2
   obtain ⟨h5, h6⟩ := cells_spec h3
   obtain ⟨v, h7, h8, h9⟩ := he enc w sp held n cs' y (by omega) h4 (hw2 _ (List.mem_map_of_mem (List.mem_of_getElem? hy)))
   rw [hc] at h6
   exact ⟨(v, cs'), ⟨⟨h7, h8⟩, h6⟩, fun M y' hy' => by rw [hy] at hy'; injection hy' with hy'; subst hy'; exact h9 M⟩
  have hall : ∀ q ∈ l, c.rel noM w q.1 q.2 ∧ ok q.1 := fun q hq => by
   obtain ⟨i, hi, rfl⟩ := List.getElem_of_mem hq
   exact (hp i hi).1.1
  refine ⟨l.map (·.1), ⟨some a, cap, by rw [h1, List.length_map, hl], ?_⟩, ⟨fun x hx => ?_, ?_⟩, fun M => ?_⟩
  ·refine ⟨by rw [List.length_map, hl]; exact hcap, fun hn => ⟨a, rfl, ?_, fun h => h, l.map (·.2), Rels.of_pairs fun q hq => (hall q hq).1, ?_⟩⟩
   ·have hn' : 0 < l.length := by simpa using hn
    have h2 := (hp 0 hn').1
    rw [Nat.zero_mul, Addr.add_zero'] at h2
    exact CellsAt.lives h2.2 (by rw [c.len (h2.1).1]; exact h0)
   ·refine CellsAt.flat (k := c.n) _ (fun x hx => ?_) fun i hi => ?_
    ·obtain ⟨q, hq, rfl⟩ := List.mem_map.1 hx
     exact c.len (hall q hq).1
    ·rw [List.getElem_map]
     exact (hp i (by simpa using hi)).1.2
  ·obtain ⟨q, hq, rfl⟩ := List.mem_map.1 hx
   exact (hall q hq).2
  ·rw [List.length_map, hl, ← hlen]; exact hw1
  ·refine Nat.le_trans (Nat.add_le_add_right (sum_le sz M.f (l.map (·.1)) (elems.map (·.1)) (by simp [hl, hlen]) fun i hi hj => ?_) 1) (M.sl _ _)
   simp only [List.getElem_map]
   simp only [List.length_map] at hi hj
   exact (hp i hi).2 M _ (by simp [hj])
theorem OpnB.arg {H : Type} {enc : TypeId × Value → H} {w : World} {sp : Nat → Bool} {held : Bool} {v : Value} {d : DataW H} {ps : List MemPlace} (ho : ∀ N, OpnB P t c ok sz N) (h : DataW.Trod enc P w 0 sp held t v d ps) (hw : wOK P t d) : ∃ x, c.rel noM w x v.cells.toList ∧ ok x ∧ ∀ M : Meas, sz x + 1 ≤ M.f d := by
 obtain ⟨fuel, hf⟩ := h
 exact ho (fuel + 1) enc w sp held fuel _ _ (Nat.lt_succ_self _) hf hw
end
end Go.Vc
