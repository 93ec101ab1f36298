/- Memory that a call owns: the blocks that it may still write ('M'), rows that it appends to; what is known behind each step. Conditions: stated with each rule. -/
import Derived.Test.YtlakfanockhngaaGreatDoorSVcOps
import Derived.Maps.AppendAt
import Derived.Laws.MakeOwn
import Derived.Laws.OwnMore
import Derived.Laws.IdiomStrings
namespace Go.Vc
open Go Go.RowKit

abbrev noM : Nat → Prop := fun _ => False
/-- From one state to a later one: what the call may not write is as it was, and may not be written now. -/
structure Stp (M : Nat → Prop) (w : World) (M' : Nat → Prop) (w' : World) : Prop where
  os : w'.os = w.os
  tape : w'.tape = w.tape
  output : w'.output = w.output
  size : w.heap.size ≤ w'.heap.size
  keep : ∀ k, k < w.heap.size → ¬ M k → w'.heap[k]? = w.heap[k]? ∧ ¬ M' k
  lt : ∀ k, M' k → k < w'.heap.size
section
variable {M M' M'' : Nat → Prop} {a b c w w' w0 : World}
theorem Stp.start : Stp noM w0 noM w0 := ⟨rfl, rfl, rfl, Nat.le_refl _, fun _ _ h => ⟨rfl, h⟩, fun _ h => h.elim⟩
theorem Stp.self (h : Stp M a M' b) : Stp M' b M' b := ⟨rfl, rfl, rfl, Nat.le_refl _, fun _ _ h => ⟨rfl, h⟩, h.lt⟩
theorem Stp.trans (h : Stp M a M' b) (k : Stp M' b M'' c) : Stp M a M'' c :=
  ⟨k.os.trans h.os, k.tape.trans h.tape, k.output.trans h.output, Nat.le_trans h.size k.size, fun i hi hn =>
    ⟨(k.keep i (Nat.lt_of_lt_of_le hi h.size) (h.keep i hi hn).2).1.trans (h.keep i hi hn).1, (k.keep i (Nat.lt_of_lt_of_le hi h.size) (h.keep i hi hn).2).2⟩, k.lt⟩
theorem Stp.ext0 (h : Stp noM w0 M w) : Ext w0 w := ⟨h.os, h.tape, h.output, h.size, fun k hk => (h.keep k hk (fun h => h)).1⟩
theorem Stp.step (h : Stp M a M' b) (hx : Ext b c) : Stp M a M' c :=
  ⟨hx.os.trans h.os, hx.tape.trans h.tape, hx.output.trans h.output, Nat.le_trans h.size hx.size, fun i hi hn =>
    ⟨(hx.block i (Nat.lt_of_lt_of_le hi h.size)).trans (h.keep i hi hn).1, (h.keep i hi hn).2⟩, fun k hk => Nat.lt_of_lt_of_le (h.lt k hk) hx.size⟩
def bOf (A : Option Addr) : Option Nat := A.map (·.block)
theorem ownBlock_slice (A : Option Addr) (n c : Nat) : (Value.slice A n c).ownBlock = bOf A := by cases A <;> rfl
/-- A row that the call owns: it may be appended to, and written. -/
def Own (M : Nat → Prop) (w : World) (e : TypeId) (size : Nat) (A : Option Addr) (n c : Nat) (xs : List Value) : Prop :=
  w.ownsRow 0 e size (.slice A n c) n xs ∧ ∀ k, bOf A = some k → M k
section
variable {e : TypeId} {size n : Nat} {A A2 : Option Addr} {n2 c' c2 : Nat} {xs : List Value}
theorem Own.nil : Own M w e size none 0 0 [] := ⟨World.ownsRow_nil w 0 e size, fun _ h => by cases h⟩
theorem Own.lt (h : Own M w e size A n c' xs) : ∀ k, bOf A = some k → k < w.heap.size := fun k hk => (h.1.lt k (by rw [ownBlock_slice]; exact hk)).2
theorem Own.mono (h : Own M w e size A n c' xs) (hM : ∀ k, M k → M' k) : Own M' w e size A n c' xs := ⟨h.1, fun k hk => hM k (h.2 k hk)⟩
theorem Own.kept (h : Own M w e size A n c' xs) (hk : ∀ k, bOf A = some k → w'.heap[k]? = w.heap[k]?) : Own M w' e size A n c' xs := by
  refine ⟨⟨h.1.1, ?_⟩, h.2⟩
  rcases h.1.2 with h2 | ⟨g, cap, cur, hv, hg, hh, r⟩
  · exact .inl h2
  · refine .inr ⟨g, cap, cur, hv, hg, ?_, r⟩
    injection hv with hA
    subst hA
    rw [hk g rfl]; exact hh
theorem Own.ext (h : Own M w e size A n c' xs) (hx : Ext w w') : Own M w' e size A n c' xs := h.kept fun k hk => hx.block k (h.lt k hk)
theorem Own.grown {r : Option Nat} (h : Own M w e size A n c' xs) (hx : w.grownBy w' r) (hn : ∀ k, r = some k → bOf A ≠ some k) : Own M w' e size A n c' xs :=
  h.kept fun k hk => hx.block k (h.lt k hk) (fun e => hn k e.symm hk)
theorem Own.cells (h : Own M w e size A n c' xs) {ad : Addr} (hA : A = some ad) {i : Nat} {l : List Value} (hl : (xs.drop i).take l.length = l) : CellsAt w (ad.add i) l := by
  rcases h.1.2 with ⟨hv, _⟩ | ⟨g, cap, cur, hv, _, hh, _, _, _, htake⟩
  · subst hA; cases hv
  · subst hA
    injection hv with hA
    injection hA with hA
    subst hA
    have hc : CellsAt w (⟨g, 0, none⟩ : Addr) xs := fun j u hu => h.1.cells (g := g) rfl j u hu
    exact hc.part hl
theorem Own.addr (h : Own M w e size A n c' xs) (hn : 0 < n) : ∃ ad, A = some ad := by
  rcases h.1.2 with ⟨_, h0⟩ | ⟨g, _, _, hv, _⟩
  · omega
  · injection hv with hA; exact ⟨_, hA⟩
theorem Own.len (h : Own M w e size A n c' xs) : xs.length = n * size := h.1.1
end
theorem Blk.grown {g : Nat} {t : TypeId} {cs : Array Value} {r : Option Nat} (h : Blk w g t cs) (hg : w.grownBy w' r) (hn : r ≠ some g) : Blk w' g t cs := (hg.block g h.lt (fun e => hn e.symm)).trans h
end

section
variable {P : Program} {ro : Option Nat} {n : Fr} {Kn : Act → World → Prop} {Ke : Nat → Act → World → Prop} {Kr : Act → World → Prop} {env : Env} {w : World}
variable {ops : Array Oper} {rest : List Oper} {rs : Tr} {fl : Fl} {o : Oper} {i d : Nat} {x y z : Operand} {t e : TypeId} {M : Nat → Prop}

/-- What the program's table says of a type. -/
def Info (P : Program) (e : TypeId) (size bytes : Nat) (z : Value) : Prop := ∃ j, P.info? e = some j ∧ j.zero = some z ∧ j.size = size ∧ j.bytes = bytes ∧ z.cells.size = size
theorem info_mk {size bytes : Nat} {z : Value} (h : (P.info? e).map (fun i => (i.zero, i.size, i.bytes)) = some (some z, size, bytes)) (hz : z.cells.size = size) : Info P e size bytes z := by
  obtain ⟨j, hj, h2⟩ := Option.map_eq_some_iff.1 h
  simp only [Prod.mk.injEq] at h2
  exact ⟨j, hj, h2.1, h2.2.1, h2.2.2, hz⟩

/-- A slice literal. -/
theorem run_buildSlice {size len : Nat} {zv : Value} {bytes : Nat} {vs : List (Nat × Value)} {cs : Array Value} (ht : P.underlying t = some (.slice e)) (hi : Info P e size bytes zv) (hlen : Nat.ble (len * size) 16777216 = true)
    (hf : Instr.fill (fun i => some (i * size, size)) ((Array.range (len * size)).map (fun i => (if len * size = 0 then #[] else zv.cells)[i % (if len * size = 0 then #[] else zv.cells).size]!)) vs = some cs) :
    (Instr.buildSlice t len vs.toArray).run P w = .ok (.slice (some ⟨w.heap.size, 0, none⟩) len len) (w.alloc (.cells cs e)) := by
  obtain ⟨j, hj, hz, hs, hby, hzs⟩ := hi
  have hl := Nat.le_of_ble_eq_true hlen
  by_cases h0 : len * size = 0
  · have e0 : ∀ f : Nat → Value, (Array.range 0).map f = #[] := fun f => by simp
    simp only [h0, if_true, e0] at hf
    have hb : (Instr.buildSlice t len vs.toArray).run P w = ((match Instr.fill (fun i => some (i * size, size)) #[] vs with | some cells => (do pure (.slice (some (← newRow e cells)) len len) : Sem Value) | none => stuck "buildSlice: a part of the wrong size").run P w) := by
      simp [Instr.buildSlice, run_underlying ht, sizeOf, typeInfo, hj, hs, h0, e0]
      cases Instr.fill (fun i => some (i * size, size)) #[] vs <;> rfl
    rw [hb, hf]
    simp [newRow, newObj, Sem.run]
  · simp only [h0, if_false] at hf
    simp [Instr.buildSlice, run_underlying ht, sizeOf, typeInfo, hj, hs, h0, hf, newRow, newObj, Sem.run, zeroValue, hz, Nat.not_lt.2 hl]
/-- A block that is known whole is a row of the call's own. -/
theorem Own.of_blk {size len : Nat} {b : Nat} {cs : Array Value} (h : Blk w b e cs) (hs : cs.size = len * size) (hm : Nat.ble len 140737488355328 = true) (hM : M b) : Own M w e size (some ⟨b, 0, none⟩) len len cs.toList :=
  ⟨⟨by simpa using hs, .inr ⟨b, len, cs, rfl, Nat.zero_le _, h, Nat.le_refl _, by simp only [maxLen]; have := Nat.le_of_ble_eq_true hm; omega, hs, List.take_of_length_le (by simp [hs])⟩⟩, fun k hk => by injection hk with hk; exact hk ▸ hM⟩

/-- 's[l:h]' of a slice. -/
theorem y_slicel {A : Option Addr} {m c size : Nat} {p q : Int} {k k' : IntKind} {r : Option Operand} (ho : o.op = .slice t x (some y) (some z) r) (hr : r = none) (ht : P.underlying t = some (.slice e)) (hs : (P.info? e).map (·.size) = some size) (hx : Ev n env x (.slice A m c)) (hy : Ev n env y (.int k p)) (hz : Ev n env z (.int k' q)) (h0 : 0 ≤ p ∧ p ≤ q ∧ q ≤ c) :
    Yld P n env o (.slice (if c = p.toNat then A else A.map (·.add (p.toNat * size))) (q.toNat - p.toNat) (c - p.toNat)) w := fun a ha => by
  subst hr
  obtain ⟨j, hj, hs⟩ := Option.map_eq_some_iff.1 hs
  have h : P.underlying t = some (.slice (P.elem t)) := by simp [Program.elem, ht]
  have he : P.elem t = e := by simp [Program.elem, ht]
  simp only [execOp, ho, hx a ha, hy a ha, hz a ha, Option.map_some, Option.map_none]
  simp [Instr.sliceAt, Instr.slice, Instr.sliceBounds, Instr.sliceBound, run_underlying ht, asIntOf, h0.1, h0.2.1, h0.2.2, sizeOf, typeInfo, hj, hs, show 0 ≤ q by omega, Int.toNat_of_nonneg (show 0 ≤ q by omega)]
theorem y_slicel_l {A : Option Addr} {m c size : Nat} {p : Int} {k : IntKind} {r : Option Operand} (ho : o.op = .slice t x (some y) none r) (hr : r = none) (ht : P.underlying t = some (.slice e)) (hs : (P.info? e).map (·.size) = some size) (hx : Ev n env x (.slice A m c)) (hy : Ev n env y (.int k p)) (h0 : 0 ≤ p ∧ p ≤ m) :
    Yld P n env o (.slice (if c = p.toNat then A else A.map (·.add (p.toNat * size))) (m - p.toNat) (c - p.toNat)) w := fun a ha => by
  subst hr
  obtain ⟨j, hj, hs⟩ := Option.map_eq_some_iff.1 hs
  simp only [execOp, ho, hx a ha, hy a ha, Option.map_some, Option.map_none]
  simp [Instr.sliceAt, Instr.slice, Instr.sliceBounds, Instr.sliceBound, run_underlying ht, asIntOf, h0.1, h0.2, sizeOf, typeInfo, hj, hs]
theorem y_slicel_h {A : Option Addr} {m c size : Nat} {q : Int} {k' : IntKind} {r : Option Operand} (ho : o.op = .slice t x none (some z) r) (hr : r = none) (ht : P.underlying t = some (.slice e)) (hs : (P.info? e).map (·.size) = some size) (hx : Ev n env x (.slice A m c)) (hz : Ev n env z (.int k' q)) (h0 : 0 ≤ q ∧ q ≤ c) :
    Yld P n env o (.slice A q.toNat c) w := fun a ha => by
  subst hr
  obtain ⟨j, hj, hs⟩ := Option.map_eq_some_iff.1 hs
  simp only [execOp, ho, hx a ha, hz a ha, Option.map_some, Option.map_none]
  by_cases hc : c = 0
  · subst hc
    have hq : q = 0 := by have := h0.2; omega
    subst hq
    simp [Instr.sliceAt, Instr.slice, Instr.sliceBounds, Instr.sliceBound, run_underlying ht, asIntOf, sizeOf, typeInfo, hj]
  · have : A.map (·.add (0 * size)) = A := by cases A <;> simp [Addr.add]
    simp [Instr.sliceAt, Instr.slice, Instr.sliceBounds, Instr.sliceBound, run_underlying ht, asIntOf, h0.1, h0.2, sizeOf, typeInfo, hj, hc]
    try (cases A <;> simp [Addr.add])
/-- A shorter part of a row of the call's own. -/
theorem Own.take {M : Nat → Prop} {e : TypeId} {size m c h : Nat} {A : Option Addr} {xs : List Value} (hO : Own M w e size A m c xs) (hh : h ≤ m) : Own M w e size A h c (xs.take (h * size)) := by
  refine ⟨⟨?_, ?_⟩, hO.2⟩
  · rw [List.length_take, hO.1.1]; exact Nat.min_eq_left (Nat.mul_le_mul_right _ hh)
  · rcases hO.1.2 with ⟨h1, h2⟩ | ⟨g, cap, cur, hv, hg, hh', h3, h4, h5, h6⟩
    · injection h1 with h1 h1a h1b
      subst h1 h1b
      exact .inl ⟨by rw [show h = 0 by omega], by omega⟩
    · injection hv with hA hn hc
      subst hA hc
      refine .inr ⟨g, c, cur, rfl, hg, hh', by omega, h4, h5, ?_⟩
      rw [← h6, List.take_take, Nat.min_eq_left (Nat.mul_le_mul_right _ hh)]
end
end Go.Vc

namespace Go.Vc
open Go Go.RowKit
section
variable {P : Program} {ro : Option Nat} {n : Fr} {Kn : Act → World → Prop} {Ke : Nat → Act → World → Prop} {Kr : Act → World → Prop} {env : Env} {w : World}
variable {ops : Array Oper} {rest : List Oper} {rs : Tr} {fl : Fl} {o : Oper} {i d : Nat} {x y z : Operand} {t e : TypeId} {M : Nat → Prop}

/-- 'l' with 'new' from place 'i' on. -/
def spl (l : List Value) (i : Nat) (new : List Value) : List Value := l.take i ++ new ++ l.drop (i + new.length)
theorem y_max {k : IntKind} {p q : Int} {t t' : TypeId} (ho : o.op = .call { callee := .builtin .max, args := #[x, y], argTypes := #[t, t'] }) (hx : Ev n env x (.int k p)) (hy : Ev n env y (.int k q)) : Yld P n env o (.int k (max p q)) w := fun a ha => by
  have e : max p q = if q > p then q else p := by split <;> omega
  unfold execOp
  simp only [ho, resolve, invoke, builtin, Sem.run_bind, Sem.run_pure, Result.andThen_ok, List.map_toArray, List.map_cons, List.map_nil, hx a ha, hy a ha]
  simp [Builtin.max_, Builtin.max2, e]
theorem b8 {q : Int} (h : 0 ≤ q ∧ q ≤ 255) : (((UInt8.ofNat q.toNat).toNat : Nat) : Int) = q := by
  rw [UInt8.toNat_ofNat_of_lt' (by show q.toNat < 256; omega)]; omega
end
end Go.Vc

namespace Go.Vc
open Go Go.RowKit
theorem add_add {ad : Addr} {i j : Nat} : (ad.add i).add j = ad.add (i + j) := by
  unfold Addr.add
  by_cases hi : i = 0 <;> by_cases hj : j = 0 <;> simp [hi, hj, Nat.add_assoc]
theorem eq_dec_int (a b : Int) : (a == b) = decide (a = b) := rfl
theorem eq_dec_str (a b : List UInt8) : (a == b) = decide (a = b) := beq_dec a b
end Go.Vc
