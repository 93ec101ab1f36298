/- Memory that a call owns: the blocks that it may still write ('M'), rows that it appends to; what is known behind each step. Conditions: stated with each rule. -/
import Derived.Test.YtpedfojbfbccaaaVcOps
import Derived.Maps.AppendAt
import Derived.Laws.MakeOwn
import Derived.Laws.OwnMore
import Derived.Laws.IdiomStrings
namespace Go.Vc
open Go Go.RowKit

abbrev noM : Nat → Prop := fun _ => False
/-- From one state to a later one: what the call may not write is as it was, and may not be written now. -/
structure Stp (M : Nat → Prop) (w : World) (M' : Nat → Prop) (w' : World) : Prop where
  os : w'.os = w.os
  tape : w'.tape = w.tape
  output : w'.output = w.output
  size : w.heap.size ≤ w'.heap.size
  keep : ∀ k, k < w.heap.size → ¬ M k → w'.heap[k]? = w.heap[k]? ∧ ¬ M' k
  lt : ∀ k, M' k → k < w'.heap.size
section
variable {M M' M'' : Nat → Prop} {a b c w w' w0 : World}
theorem Stp.start : Stp noM w0 noM w0 := ⟨rfl, rfl, rfl, Nat.le_refl _, fun _ _ h => ⟨rfl, h⟩, fun _ h => h.elim⟩
theorem Stp.self (h : Stp M a M' b) : Stp M' b M' b := ⟨rfl, rfl, rfl, Nat.le_refl _, fun _ _ h => ⟨rfl, h⟩, h.lt⟩
theorem Stp.trans (h : Stp M a M' b) (k : Stp M' b M'' c) : Stp M a M'' c :=
  ⟨k.os.trans h.os, k.tape.trans h.tape, k.output.trans h.output, Nat.le_trans h.size k.size, fun i hi hn =>
    ⟨(k.keep i (Nat.lt_of_lt_of_le hi h.size) (h.keep i hi hn).2).1.trans (h.keep i hi hn).1, (k.keep i (Nat.lt_of_lt_of_le hi h.size) (h.keep i hi hn).2).2⟩, k.lt⟩
theorem Stp.ext0 (h : Stp noM w0 M w) : Ext w0 w := ⟨h.os, h.tape, h.output, h.size, fun k hk => (h.keep k hk (fun h => h)).1⟩
theorem Stp.step (h : Stp M a M' b) (hx : Ext b c) : Stp M a M' c :=
  ⟨hx.os.trans h.os, hx.tape.trans h.tape, hx.output.trans h.output, Nat.le_trans h.size hx.size, fun i hi hn =>
    ⟨(hx.block i (Nat.lt_of_lt_of_le hi h.size)).trans (h.keep i hi hn).1, (h.keep i hi hn).2⟩, fun k hk => Nat.lt_of_lt_of_le (h.lt k hk) hx.size⟩
theorem Stp.upd {g : Nat} (h : Stp M a M' b) (hx : Upd [g] b c) (hg : M' g) : Stp M a M' c :=
  ⟨hx.os.trans h.os, hx.tape.trans h.tape, hx.output.trans h.output, Nat.le_trans h.size hx.size, fun i hi hn =>
    ⟨(hx.block i (Nat.lt_of_lt_of_le hi h.size) (fun hm => (h.keep i hi hn).2 (by simp at hm; exact hm ▸ hg))).trans (h.keep i hi hn).1, (h.keep i hi hn).2⟩, fun k hk => Nat.lt_of_lt_of_le (h.lt k hk) hx.size⟩
/-- What is new since the beginning of the call. -/
theorem Stp.fresh (h : Stp noM w0 M w) {k : Nat} (hk : M k) : w0.heap.size ≤ k := Nat.le_of_not_lt fun hlt => (h.keep k hlt (fun h => h)).2 hk

/-- A new block that the call may write. -/
theorem grow_new (M : Nat → Prop) (b : Nat) : ∃ M' : Nat → Prop, (∀ k, M k → M' k) ∧ M' b ∧ ∀ (M0 : Nat → Prop) (a w w' : World), Stp M0 a M w → Ext w w' → w.heap.size = b → w'.heap.size = b + 1 → Stp M0 a M' w' := by
  refine ⟨fun k => M k ∨ k = b, fun k h => .inl h, .inr rfl, fun M0 a w w' h hx h1 h2 => ?_⟩
  have h3 := h.step hx
  have hs := h.size
  exact ⟨h3.os, h3.tape, h3.output, h3.size, fun i hi hn => ⟨(h3.keep i hi hn).1, fun hm => hm.elim (h3.keep i hi hn).2 (fun e => by omega)⟩, fun k hk => hk.elim (h3.lt k) (fun e => by omega)⟩

def bOf (A : Option Addr) : Option Nat := A.map (·.block)
theorem ownBlock_slice (A : Option Addr) (n c : Nat) : (Value.slice A n c).ownBlock = bOf A := by cases A <;> rfl
/-- A row that the call owns: it may be appended to, and written. -/
def Own (M : Nat → Prop) (w : World) (e : TypeId) (size : Nat) (A : Option Addr) (n c : Nat) (xs : List Value) : Prop :=
  w.ownsRow 0 e size (.slice A n c) n xs ∧ ∀ k, bOf A = some k → M k
section
variable {e : TypeId} {size n : Nat} {A A2 : Option Addr} {n2 c' c2 : Nat} {xs : List Value}
theorem Own.nil : Own M w e size none 0 0 [] := ⟨World.ownsRow_nil w 0 e size, fun _ h => by cases h⟩
theorem Own.lt (h : Own M w e size A n c' xs) : ∀ k, bOf A = some k → k < w.heap.size := fun k hk => (h.1.lt k (by rw [ownBlock_slice]; exact hk)).2
theorem Own.mono (h : Own M w e size A n c' xs) (hM : ∀ k, M k → M' k) : Own M' w e size A n c' xs := ⟨h.1, fun k hk => hM k (h.2 k hk)⟩
theorem Own.kept (h : Own M w e size A n c' xs) (hk : ∀ k, bOf A = some k → w'.heap[k]? = w.heap[k]?) : Own M w' e size A n c' xs := by
  refine ⟨⟨h.1.1, ?_⟩, h.2⟩
  rcases h.1.2 with h2 | ⟨g, cap, cur, hv, hg, hh, r⟩
  · exact .inl h2
  · refine .inr ⟨g, cap, cur, hv, hg, ?_, r⟩
    injection hv with hA
    subst hA
    rw [hk g rfl]; exact hh
theorem Own.ext (h : Own M w e size A n c' xs) (hx : Ext w w') : Own M w' e size A n c' xs := h.kept fun k hk => hx.block k (h.lt k hk)
theorem Own.upd {g : Nat} (h : Own M w e size A n c' xs) (hx : Upd [g] w w') (hn : bOf A ≠ some g) : Own M w' e size A n c' xs :=
  h.kept fun k hk => hx.block k (h.lt k hk) (by simp; rintro rfl; exact hn hk)
theorem Own.grown {r : Option Nat} (h : Own M w e size A n c' xs) (hx : w.grownBy w' r) (hn : ∀ k, r = some k → bOf A ≠ some k) : Own M w' e size A n c' xs :=
  h.kept fun k hk => hx.block k (h.lt k hk) (fun e => hn k e.symm hk)
theorem Own.cells (h : Own M w e size A n c' xs) {ad : Addr} (hA : A = some ad) {i : Nat} {l : List Value} (hl : (xs.drop i).take l.length = l) : CellsAt w (ad.add i) l := by
  rcases h.1.2 with ⟨hv, _⟩ | ⟨g, cap, cur, hv, _, hh, _, _, _, htake⟩
  · subst hA; cases hv
  · subst hA
    injection hv with hA
    injection hA with hA
    subst hA
    have hc : CellsAt w (⟨g, 0, none⟩ : Addr) xs := fun j u hu => h.1.cells (g := g) rfl j u hu
    exact hc.part hl
theorem Own.addr (h : Own M w e size A n c' xs) (hn : 0 < n) : ∃ ad, A = some ad := by
  rcases h.1.2 with ⟨_, h0⟩ | ⟨g, _, _, hv, _⟩
  · omega
  · injection hv with hA; exact ⟨_, hA⟩
theorem Own.len (h : Own M w e size A n c' xs) : xs.length = n * size := h.1.1
end
theorem Blk.grown {g : Nat} {t : TypeId} {cs : Array Value} {r : Option Nat} (h : Blk w g t cs) (hg : w.grownBy w' r) (hn : r ≠ some g) : Blk w' g t cs := (hg.block g h.lt (fun e => hn e.symm)).trans h
theorem CellsAt.stp {ad : Addr} {l : List Value} (h : CellsAt w ad l) (hs : Stp M w M' w') (hn : ¬ M ad.block) : CellsAt w' ad l := fun j u hu => by
  have hc := h j u hu
  have hb := World.block_lt_of_cell? w _ hc
  have e : (ad.add j).block = ad.block := by unfold Addr.add; split <;> rfl
  rw [e] at hb
  exact (World.cell?_of_block (by rw [e]; exact (hs.keep _ hb hn).1)).trans hc

/-- Behind an append. -/
theorem grow_own (M : Nat → Prop) (A A' : Option Addr) (w w' : World) (hM : ∀ k, bOf A = some k → M k) (hg : w.grownBy w' (bOf A)) (hat : bOf A' = bOf A ∨ bOf A' = some w.heap.size) (hlt : ∀ k, bOf A' = some k → k < w'.heap.size) :
    ∃ M' : Nat → Prop, (∀ k, M k → M' k) ∧ (∀ k, bOf A' = some k → M' k) ∧ ∀ (M0 : Nat → Prop) (a : World), Stp M0 a M w → Stp M0 a M' w' := by
  refine ⟨fun k => M k ∨ bOf A' = some k, fun k h => .inl h, fun k h => .inr h, fun M0 a h => ?_⟩
  refine ⟨hg.os.trans h.os, hg.tape.trans h.tape, hg.output.trans h.output, Nat.le_trans h.size hg.size, fun i hi hn => ⟨?_, ?_⟩, fun k hk => hk.elim (fun hm => Nat.lt_of_lt_of_le (h.lt k hm) hg.size) (hlt k)⟩
  · exact (hg.block i (Nat.lt_of_lt_of_le hi h.size) (fun e => (h.keep i hi hn).2 (hM i e.symm))).trans (h.keep i hi hn).1
  · rintro (hm | hm)
    · exact (h.keep i hi hn).2 hm
    · rcases hat with e | e
      · exact (h.keep i hi hn).2 (hM i (e ▸ hm))
      · rw [e] at hm; injection hm with hm; have := h.size; omega
theorem dis_new {A : Option Addr} {b : Nat} (h : ∀ k, bOf A = some k → k < w.heap.size) (hb : w.heap.size = b) : bOf A ≠ some b := fun e => by have := h b e; omega
theorem dis_app {A A' : Option Addr} {b : Nat} (h : bOf A ≠ some b) (hb : b < w.heap.size) (hat : bOf A' = bOf A ∨ bOf A' = some w.heap.size) : bOf A' ≠ some b := by
  rcases hat with e | e
  · rw [e]; exact h
  · rw [e]; intro h; injection h with h; omega
theorem disA_app {A A' A2 : Option Addr} (h : ∀ k, bOf A = some k → bOf A2 ≠ some k) (h2 : ∀ k, bOf A2 = some k → k < w.heap.size) (hat : bOf A' = bOf A ∨ bOf A' = some w.heap.size) : ∀ k, bOf A' = some k → bOf A2 ≠ some k := by
  intro k hk he
  rcases hat with e | e
  · exact h k (e ▸ hk) he
  · rw [e] at hk; injection hk with hk; have := h2 k he; omega
theorem disA_symm {A A2 : Option Addr} (h : ∀ k, bOf A = some k → bOf A2 ≠ some k) : ∀ k, bOf A2 = some k → bOf A ≠ some k := fun k h2 h1 => h k h1 h2
theorem disA_nil {A : Option Addr} : ∀ k, bOf (none : Option Addr) = some k → bOf A ≠ some k := fun _ h => by cases h
end

section
variable {P : Program} {ro : Option Nat} {n : Fr} {Kn : Act → World → Prop} {Ke : Nat → Act → World → Prop} {Kr : Act → World → Prop} {env : Env} {w : World}
variable {ops : Array Oper} {rest : List Oper} {rs : Tr} {fl : Fl} {o : Oper} {i d : Nat} {x y z : Operand} {t e : TypeId} {M : Nat → Prop}

/-- What the program's table says of a type. -/
def Info (P : Program) (e : TypeId) (size bytes : Nat) (z : Value) : Prop := ∃ j, P.info? e = some j ∧ j.zero = some z ∧ j.size = size ∧ j.bytes = bytes ∧ z.cells.size = size
theorem info_mk {size bytes : Nat} {z : Value} (h : (P.info? e).map (fun i => (i.zero, i.size, i.bytes)) = some (some z, size, bytes)) (hz : z.cells.size = size) : Info P e size bytes z := by
  obtain ⟨j, hj, h2⟩ := Option.map_eq_some_iff.1 h
  simp only [Prod.mk.injEq] at h2
  exact ⟨j, hj, h2.1, h2.2.1, h2.2.2, hz⟩

theorem run_append {A : Option Addr} {m c size bytes : Nat} {zv : Value} {xs : List Value} {ad : Addr} {k c2 : Nat} {news : List Value} (ht : P.underlying t = some (.slice e)) (hi : Info P e size bytes zv) (hsz : 0 < size) (hO : Own M w e size A m c xs)
    (hc : CellsAt w ad news) (hl : news.length = k * size) (hone : news.all (·.oneCell') = true) (hb : (m + k) * bytes ≤ 140737488355328) (hm : m + k ≤ 140737488355328) (ty : TypeId) :
    ∃ A' c' w', (Builtin.append_ #[t, t] ty #[.slice A m c, .slice (some ad) k c2]).run P w = .ok (.slice A' (m + k) c') w' ∧ w'.ownsRow 0 e size (.slice A' (m + k) c') (m + k) (xs ++ news) ∧ w.grownBy w' (bOf A) ∧ (bOf A' = bOf A ∨ bOf A' = some w.heap.size) := by
  obtain ⟨j, hj, hz, hs, hby, hzs⟩ := hi
  obtain ⟨v', w', h1, h2, h3, _, h5⟩ := run_append_own_at (P := P) w 0 t ty e j zv size bytes ht hj hz hs hby hzs hsz (.slice A m c) m xs hO.1 ad k c2 news hl hc (fun u hu => List.all_eq_true.1 hone u hu) (by simp only [maxLen]; omega) hb (Nat.zero_le _)
  have hv : ∃ A' c', v' = .slice A' (m + k) c' := by
    rcases h2.2 with ⟨e1, e2⟩ | ⟨g, cap, _, e1, _⟩
    · exact ⟨none, 0, by rw [e1, e2]⟩
    · exact ⟨_, _, e1⟩
  obtain ⟨A', c', rfl⟩ := hv
  rw [ownBlock_slice, ownBlock_slice] at h5
  rw [ownBlock_slice] at h3
  exact ⟨A', c', w', h1, h2, h3, h5⟩
theorem s_append {A : Option Addr} {m c size bytes : Nat} {zv : Value} {xs : List Value} {ad : Addr} {k c2 : Nat} {news : List Value} (hg : Grd n env ops o true) (hd : o.dst = some d)
    (ho : o.op = .call { callee := .builtin .append, args := #[x, y], argTypes := #[t, t] }) (ht : P.underlying t = some (.slice e)) (hi : Info P e size bytes zv) (hsz : 0 < size) (hx : Ev n env x (.slice A m c)) (hy : Ev n env y (.slice (some ad) k c2)) (hO : Own M w e size A m c xs)
    (hc : CellsAt w ad news) (hl : news.length = k * size) (hone : news.all (·.oneCell') = true) (hb : (m + k) * bytes ≤ 140737488355328) (hm : m + k ≤ 140737488355328)
    (h : ∀ A' c' w' M', w.grownBy w' (bOf A) → (bOf A' = bOf A ∨ bOf A' = some w.heap.size) → (∀ k, M k → M' k) → Own M' w' e size A' (m + k) c' (xs ++ news) → (∀ (M0 : Nat → Prop) (a : World), Stp M0 a M w → Stp M0 a M' w') → SeqW P ro n ops Kn Ke Kr rest ((d, .slice A' (m + k) c') :: env) w') :
    SeqW P ro n ops Kn Ke Kr (o :: rest) env w := by
  obtain ⟨A', c', w', h1, h2, h3, h5⟩ := run_append (P := P) (c2 := c2) ht hi hsz hO hc hl hone hb hm o.type
  have hlt : ∀ q, bOf A' = some q → q < w'.heap.size := fun q hq => (h2.lt q (by rw [ownBlock_slice]; exact hq)).2
  obtain ⟨M', g1, g2, g3⟩ := grow_own M A A' w w' hO.2 h3 h5 hlt
  refine s_val hg hd (w' := w') (v := .slice A' (m + k) c') (fun a ha => ?_) (h A' c' w' M' h3 h5 g1 ⟨h2, g2⟩ g3)
  unfold execOp
  simp only [ho, resolve, invoke, builtin, Sem.run_bind, Sem.run_pure, Result.andThen_ok, List.map_toArray, List.map_cons, List.map_nil, hx a ha, hy a ha, h1]

/-- A slice literal. -/
theorem run_buildSlice {size len : Nat} {zv : Value} {bytes : Nat} {vs : List (Nat × Value)} {cs : Array Value} (ht : P.underlying t = some (.slice e)) (hi : Info P e size bytes zv) (hlen : Nat.ble (len * size) 16777216 = true)
    (hf : Instr.fill (fun i => some (i * size, size)) ((Array.range (len * size)).map (fun i => (if len * size = 0 then #[] else zv.cells)[i % (if len * size = 0 then #[] else zv.cells).size]!)) vs = some cs) :
    (Instr.buildSlice t len vs.toArray).run P w = .ok (.slice (some ⟨w.heap.size, 0, none⟩) len len) (w.alloc (.cells cs e)) := by
  obtain ⟨j, hj, hz, hs, hby, hzs⟩ := hi
  have hl := Nat.le_of_ble_eq_true hlen
  by_cases h0 : len * size = 0
  · have e0 : ∀ f : Nat → Value, (Array.range 0).map f = #[] := fun f => by simp
    simp only [h0, if_true, e0] at hf
    have hb : (Instr.buildSlice t len vs.toArray).run P w = ((match Instr.fill (fun i => some (i * size, size)) #[] vs with | some cells => (do pure (.slice (some (← newRow e cells)) len len) : Sem Value) | none => stuck "buildSlice: a part of the wrong size").run P w) := by
      simp [Instr.buildSlice, run_underlying ht, sizeOf, typeInfo, hj, hs, h0, e0]
      cases Instr.fill (fun i => some (i * size, size)) #[] vs <;> rfl
    rw [hb, hf]
    simp [newRow, newObj, Sem.run]
  · simp only [h0, if_false] at hf
    simp [Instr.buildSlice, run_underlying ht, sizeOf, typeInfo, hj, hs, h0, hf, newRow, newObj, Sem.run, zeroValue, hz, Nat.not_lt.2 hl]
theorem s_buildSlice {size len : Nat} {zv : Value} {bytes : Nat} {ps : List (Nat × Operand)} {vs : List (Nat × Value)} {cs : Array Value} (hg : Grd n env ops o true) (hd : o.dst = some d) (ho : o.op = .buildSlice t len ps.toArray) (ht : P.underlying t = some (.slice e)) (hi : Info P e size bytes zv) (hlen : Nat.ble (len * size) 16777216 = true)
    (hp : EvL n env ps vs) (hf : Instr.fill (fun i => some (i * size, size)) ((Array.range (len * size)).map (fun i => (if len * size = 0 then #[] else zv.cells)[i % (if len * size = 0 then #[] else zv.cells).size]!)) vs = some cs)
    (h : ∀ b w', w.heap.size = b → w'.heap.size = b + 1 → Ext w w' → Blk w' b e cs → SeqW P ro n ops Kn Ke Kr rest ((d, .slice (some ⟨b, 0, none⟩) len len) :: env) w') : SeqW P ro n ops Kn Ke Kr (o :: rest) env w :=
  s_val hg hd (w' := w.alloc (.cells cs e)) (v := .slice (some ⟨w.heap.size, 0, none⟩) len len) (fun a ha => by
    unfold execOp
    simp only [ho, hp.map ha, Sem.run_bind, run_buildSlice (w := w) ht hi hlen hf, Result.andThen_ok, Sem.run_pure]) (h _ _ rfl (by simp) (Ext.alloc _) Blk.new)
/-- A block that is known whole is a row of the call's own. -/
theorem Own.of_blk {size len : Nat} {b : Nat} {cs : Array Value} (h : Blk w b e cs) (hs : cs.size = len * size) (hm : Nat.ble len 140737488355328 = true) (hM : M b) : Own M w e size (some ⟨b, 0, none⟩) len len cs.toList :=
  ⟨⟨by simpa using hs, .inr ⟨b, len, cs, rfl, Nat.zero_le _, h, Nat.le_refl _, by simp only [maxLen]; have := Nat.le_of_ble_eq_true hm; omega, hs, List.take_of_length_le (by simp [hs])⟩⟩, fun k hk => by injection hk with hk; exact hk ▸ hM⟩

/-- 's[l:h]' of a slice. -/
theorem y_slicel {A : Option Addr} {m c size : Nat} {p q : Int} {k k' : IntKind} {r : Option Operand} (ho : o.op = .slice t x (some y) (some z) r) (hr : r = none) (ht : P.underlying t = some (.slice e)) (hs : (P.info? e).map (·.size) = some size) (hx : Ev n env x (.slice A m c)) (hy : Ev n env y (.int k p)) (hz : Ev n env z (.int k' q)) (h0 : 0 ≤ p ∧ p ≤ q ∧ q ≤ c) :
    Yld P n env o (.slice (if c = p.toNat then A else A.map (·.add (p.toNat * size))) (q.toNat - p.toNat) (c - p.toNat)) w := fun a ha => by
  subst hr
  obtain ⟨j, hj, hs⟩ := Option.map_eq_some_iff.1 hs
  have h : P.underlying t = some (.slice (P.elem t)) := by simp [Program.elem, ht]
  have he : P.elem t = e := by simp [Program.elem, ht]
  simp only [execOp, ho, hx a ha, hy a ha, hz a ha, Option.map_some, Option.map_none]
  simp [Instr.sliceAt, Instr.slice, Instr.sliceBounds, Instr.sliceBound, run_underlying ht, asIntOf, h0.1, h0.2.1, h0.2.2, sizeOf, typeInfo, hj, hs, show 0 ≤ q by omega, Int.toNat_of_nonneg (show 0 ≤ q by omega)]
theorem y_slicel_l {A : Option Addr} {m c size : Nat} {p : Int} {k : IntKind} {r : Option Operand} (ho : o.op = .slice t x (some y) none r) (hr : r = none) (ht : P.underlying t = some (.slice e)) (hs : (P.info? e).map (·.size) = some size) (hx : Ev n env x (.slice A m c)) (hy : Ev n env y (.int k p)) (h0 : 0 ≤ p ∧ p ≤ m) :
    Yld P n env o (.slice (if c = p.toNat then A else A.map (·.add (p.toNat * size))) (m - p.toNat) (c - p.toNat)) w := fun a ha => by
  subst hr
  obtain ⟨j, hj, hs⟩ := Option.map_eq_some_iff.1 hs
  simp only [execOp, ho, hx a ha, hy a ha, Option.map_some, Option.map_none]
  simp [Instr.sliceAt, Instr.slice, Instr.sliceBounds, Instr.sliceBound, run_underlying ht, asIntOf, h0.1, h0.2, sizeOf, typeInfo, hj, hs]
theorem y_slicel_h {A : Option Addr} {m c size : Nat} {q : Int} {k' : IntKind} {r : Option Operand} (ho : o.op = .slice t x none (some z) r) (hr : r = none) (ht : P.underlying t = some (.slice e)) (hs : (P.info? e).map (·.size) = some size) (hx : Ev n env x (.slice A m c)) (hz : Ev n env z (.int k' q)) (h0 : 0 ≤ q ∧ q ≤ c) :
    Yld P n env o (.slice A q.toNat c) w := fun a ha => by
  subst hr
  obtain ⟨j, hj, hs⟩ := Option.map_eq_some_iff.1 hs
  simp only [execOp, ho, hx a ha, hz a ha, Option.map_some, Option.map_none]
  by_cases hc : c = 0
  · subst hc
    have hq : q = 0 := by have := h0.2; omega
    subst hq
    simp [Instr.sliceAt, Instr.slice, Instr.sliceBounds, Instr.sliceBound, run_underlying ht, asIntOf, sizeOf, typeInfo, hj]
  · have : A.map (·.add (0 * size)) = A := by cases A <;> simp [Addr.add]
    simp [Instr.sliceAt, Instr.slice, Instr.sliceBounds, Instr.sliceBound, run_underlying ht, asIntOf, h0.1, h0.2, sizeOf, typeInfo, hj, hc]
    try (cases A <;> simp [Addr.add])
/-- A shorter part of a row of the call's own. -/
theorem Own.take {M : Nat → Prop} {e : TypeId} {size m c h : Nat} {A : Option Addr} {xs : List Value} (hO : Own M w e size A m c xs) (hh : h ≤ m) : Own M w e size A h c (xs.take (h * size)) := by
  refine ⟨⟨?_, ?_⟩, hO.2⟩
  · rw [List.length_take, hO.1.1]; exact Nat.min_eq_left (Nat.mul_le_mul_right _ hh)
  · rcases hO.1.2 with ⟨h1, h2⟩ | ⟨g, cap, cur, hv, hg, hh', h3, h4, h5, h6⟩
    · injection h1 with h1 h1a h1b
      subst h1 h1b
      exact .inl ⟨by rw [show h = 0 by omega], by omega⟩
    · injection hv with hA hn hc
      subst hA hc
      refine .inr ⟨g, c, cur, rfl, hg, hh', by omega, h4, h5, ?_⟩
      rw [← h6, List.take_take, Nat.min_eq_left (Nat.mul_le_mul_right _ hh)]
end
end Go.Vc

namespace Go.Vc
open Go Go.RowKit
section
variable {P : Program} {ro : Option Nat} {n : Fr} {Kn : Act → World → Prop} {Ke : Nat → Act → World → Prop} {Kr : Act → World → Prop} {env : Env} {w : World}
variable {ops : Array Oper} {rest : List Oper} {rs : Tr} {fl : Fl} {o : Oper} {i d : Nat} {x y z : Operand} {t e : TypeId} {M : Nat → Prop}

/-- 'l' with 'new' from place 'i' on. -/
def spl (l : List Value) (i : Nat) (new : List Value) : List Value := l.take i ++ new ++ l.drop (i + new.length)
/-- A store into a row of the call's own. -/
theorem s_storeOwn {A : Option Addr} {m c size j : Nat} {v : Value} {xs new : List Value} {ad : Addr} (hg : Grd n env ops o true) (hd : o.dst = none) (ho : o.op = .store t x y) (hO : Own M w e size A m c xs) (hA : A = some ad) (hx : Ev n env x (.pointer (some (ad.add j)))) (hy : Ev n env y v)
    (hv : v.cells.toList = new) (hs : (P.info? t).map (·.size) = some new.length) (hone : new.all (·.oneCell') = true) (hj : j + new.length ≤ m * size)
    (h : ∀ w', w'.heap.size = w.heap.size → (∀ k, k < w.heap.size → bOf A ≠ some k → w'.heap[k]? = w.heap[k]?) → Own M w' e size A m c (spl xs j new) → (∀ (M0 : Nat → Prop) (a : World), Stp M0 a M w → Stp M0 a M w') → SeqW P ro n ops Kn Ke Kr rest env w') : SeqW P ro n ops Kn Ke Kr (o :: rest) env w := by
  subst hA
  obtain ⟨i0, hi0, hs⟩ := Option.map_eq_some_iff.1 hs
  have hsz : v.cells.size = i0.size := by rw [hs, ← hv]; simp
  rcases hO.1.2 with ⟨h1, _⟩ | ⟨g, cap, cur, h1, hb, hh, h2, h3, h4, h5⟩
  · cases h1
  · injection h1 with h1 h1b h1c
    injection h1 with h1
    subst h1 h1c
    have hadd : (⟨g, 0, none⟩ : Addr).add j = ⟨g, j, none⟩ := by rw [Addr.add_lit]; simp
    have hfit : j + new.length ≤ cur.size := by rw [h4]; exact Nat.le_trans hj (Nat.mul_le_mul_right _ h2)
    have hst := run_storeCells_at P g j e new 0 cur w hh (by simpa using hfit) (fun u hu => List.all_eq_true.1 hone u hu)
    simp only [Nat.add_zero] at hst
    have hO' : Own M (w.setRow g (cur.toList.take j ++ new ++ cur.toList.drop (j + new.length)).toArray) e size (some ⟨g, 0, none⟩) m c (spl xs j new) := by
      have hxl := hO.1.1
      refine ⟨⟨?_, .inr ⟨g, c, _, rfl, hb, setRow_heap w g cur _ e _ hh, h2, h3, ?_, ?_⟩⟩, hO.2⟩
      · simp only [spl, List.length_append, List.length_take, List.length_drop]; omega
      · simp only [List.size_toArray, List.length_append, List.length_take, List.length_drop, Array.length_toList]; omega
      · rw [← h5]
        simp only [spl]
        have e1 : (cur.toList.take (m * size)).take j = cur.toList.take j := by rw [List.take_take, Nat.min_eq_left (by omega)]
        rw [e1, List.drop_take]
        have hl1 : (cur.toList.take j).length = j := by rw [List.length_take, Array.length_toList]; omega
        rw [List.take_append, List.take_of_length_le (by simp [hl1]; omega)]
        congr 2
        simp [hl1]
    refine s_skip hg hd (w' := w.setRow g (cur.toList.take j ++ new ++ cur.toList.drop (j + new.length)).toArray) (fun a ha => ?_) (h _ (by simp) (fun k _ hk => setRow_other w g k _ (fun e => hk (by subst e; rfl))) hO' fun M0 a h => h.upd (g := g) Upd.setRow (hO.2 g rfl))
    simp only [execOp, ho, hx a ha, hy a ha, hadd]
    simp [Instr.storeAt, Instr.sureAddr, storeVar, sizeOf, typeInfo, hi0, hsz, hv, hst]
theorem Own.far {A A2 : Option Addr} {m c size : Nat} {w' : World} {xs : List Value} (h : Own M w e size A2 m c xs) (hk : ∀ k, k < w.heap.size → bOf A ≠ some k → w'.heap[k]? = w.heap[k]?) (hn : ∀ k, bOf A = some k → bOf A2 ≠ some k) : Own M w' e size A2 m c xs :=
  h.kept fun k hk2 => hk k (h.lt k hk2) (fun e => hn k e hk2)
theorem Blk.farOwn {A : Option Addr} {w' : World} {g : Nat} {cs : Array Value} (h : Blk w g t cs) (hk : ∀ k, k < w.heap.size → bOf A ≠ some k → w'.heap[k]? = w.heap[k]?) (hn : bOf A ≠ some g) : Blk w' g t cs := (hk g h.lt hn).trans h

/-- make of a length. -/
theorem s_makeSlice {size bytes : Nat} {zv : Value} {k k' : IntKind} {p q : Int} (hg : Grd n env ops o true) (hd : o.dst = some d) (ho : o.op = .makeSlice t x y) (ht : P.underlying t = some (.slice e)) (hi : Info P e size bytes zv) (_hsz : 0 < size) (hx : Ev n env x (.int k p)) (hy : Ev n env y (.int k' q)) (h0 : 0 ≤ p ∧ p ≤ q) (hb : q * (bytes : Int) ≤ 140737488355328) (hq : q ≤ 140737488355328)
    (h : ∀ b w' M', w.heap.size = b → w'.heap.size = b + 1 → Ext w w' → (∀ k, M k → M' k) → Own M' w' e size (some ⟨b, 0, none⟩) p.toNat q.toNat (madeCells zv.cells (p.toNat * size)).toList → (∀ (M0 : Nat → Prop) (a : World), Stp M0 a M w → Stp M0 a M' w') → SeqW P ro n ops Kn Ke Kr rest ((d, .slice (some ⟨b, 0, none⟩) p.toNat q.toNat) :: env) w') : SeqW P ro n ops Kn Ke Kr (o :: rest) env w := by
  obtain ⟨j, hj, hz, hs, hby, hzs⟩ := hi
  have hb' : (j.bytes : Int) * q ≤ 281474976710656 := by rw [hby, Int.mul_comm]; omega
  have hr := run_make (P := P) w t e j zv ht hj hz k k' p q (by omega) (by omega) hb' (by omega)
  obtain ⟨M', g1, g2, g3⟩ := grow_new M w.heap.size
  have hqn : ((q.toNat : Nat) : Int) = q := Int.toNat_of_nonneg (by omega)
  have hO : Own M' (w.alloc (.cells (madeCells zv.cells (q.toNat * j.size)) e)) e size (some ⟨w.heap.size, 0, none⟩) p.toNat q.toNat (madeCells zv.cells (p.toNat * size)).toList := by
    refine ⟨⟨by simp [madeCells], .inr ⟨w.heap.size, q.toNat, _, rfl, Nat.zero_le _, heap_alloc_new w _, by omega, by simp only [maxLen]; omega, by simp [madeCells, hs], ?_⟩⟩, fun k hk => by injection hk with hk; exact hk ▸ g2⟩
    rw [hs]
    have hle : p.toNat * size ≤ q.toNat * size := Nat.mul_le_mul_right _ (by omega)
    apply List.ext_getElem?
    intro i
    rw [List.getElem?_take]
    by_cases hi : i < p.toNat * size
    · simp [madeCells, hi, Nat.lt_of_lt_of_le hi hle]
    · simp [madeCells, hi]
  refine s_val hg hd (w' := _) (v := .slice (some ⟨w.heap.size, 0, none⟩) p.toNat q.toNat) (fun a ha => ?_) (h _ _ M' rfl (by simp) (Ext.alloc _) g1 hO fun M0 a h => g3 M0 a _ _ h (Ext.alloc _) rfl (by simp))
  unfold execOp
  simp only [ho, hx a ha, hy a ha, Sem.run_bind, hr, Result.andThen_ok, Sem.run_pure]

theorem y_max {k : IntKind} {p q : Int} {t t' : TypeId} (ho : o.op = .call { callee := .builtin .max, args := #[x, y], argTypes := #[t, t'] }) (hx : Ev n env x (.int k p)) (hy : Ev n env y (.int k q)) : Yld P n env o (.int k (max p q)) w := fun a ha => by
  have e : max p q = if q > p then q else p := by split <;> omega
  unfold execOp
  simp only [ho, resolve, invoke, builtin, Sem.run_bind, Sem.run_pure, Result.andThen_ok, List.map_toArray, List.map_cons, List.map_nil, hx a ha, hy a ha]
  simp [Builtin.max_, Builtin.max2, e]
theorem y_min {k : IntKind} {p q : Int} {t t' : TypeId} (ho : o.op = .call { callee := .builtin .min, args := #[x, y], argTypes := #[t, t'] }) (hx : Ev n env x (.int k p)) (hy : Ev n env y (.int k q)) : Yld P n env o (.int k (min p q)) w := fun a ha => by
  have e : min p q = if q < p then q else p := by split <;> omega
  unfold execOp
  simp only [ho, resolve, invoke, builtin, Sem.run_bind, Sem.run_pure, Result.andThen_ok, List.map_toArray, List.map_cons, List.map_nil, hx a ha, hy a ha]
  simp [Builtin.min_, Builtin.min2, e]
theorem b8 {q : Int} (h : 0 ≤ q ∧ q ≤ 255) : (((UInt8.ofNat q.toNat).toNat : Nat) : Int) = q := by
  rw [UInt8.toNat_ofNat_of_lt' (by show q.toNat < 256; omega)]; omega
/-- string(b) of a row whose cells are known. -/
theorem y_bstr {ad : Addr} {m c : Nat} {l : List UInt8} {t t' : TypeId} (ho : o.op = .convert t t' x) (ht : P.underlying t = some (.slice e)) (he : P.underlying e = some (.int .u8)) (ht' : P.underlying t' = some .string) (hx : Ev n env x (.slice (some ad) m c))
    (hc : CellsAt w ad (l.map fun b => .int .u8 b.toNat)) (hl : l.length = m) : Yld P n env o (str l) w := fun a ha => by
  subst hl
  simp only [execOp, ho, hx a ha]
  rw [Sem.run_bind, run_convert_bytes_back w t t' e ad c l ht he ht' fun j hj => hc j _ (by simp [hj])]
  rfl
theorem y_com {k : IntKind} {p : Int} (ho : o.op = .unOp .xor t x) (hx : Ev n env x (.int k p)) : Yld P n env o (.int k (bits .xor k (if k.signed then -1 else k.max) p)) w := fun a ha => by
  simp only [execOp, ho, hx a ha]; simp [Op.unary, Op.intBits, bits]
/-- A named test. -/
theorem s_b {b : Bool} (hg : Grd n env ops o true) (hd : o.dst = some d) (hr : Yld P n env o (.bool b) w) (h : ∀ c : Bool, c = b → SeqW P ro n ops Kn Ke Kr rest ((d, .bool c) :: env) w) : SeqW P ro n ops Kn Ke Kr (o :: rest) env w := s_q hg hd hr (h b rfl)
end
end Go.Vc

namespace Go.Vc
open Go Go.RowKit
theorem add_add {ad : Addr} {i j : Nat} : (ad.add i).add j = ad.add (i + j) := by
  unfold Addr.add
  by_cases hi : i = 0 <;> by_cases hj : j = 0 <;> simp [hi, hj, Nat.add_assoc]
theorem own_in {p : Int} {m size k l : Nat} (h : 0 ≤ p ∧ p < (m : Int)) (hk : k + l ≤ size) : p.toNat * size + k + l ≤ m * size := by
  have h1 : p.toNat + 1 ≤ m := by omega
  have h2 := Nat.mul_le_mul_right size h1
  rw [Nat.add_mul] at h2
  omega
theorem own_le {M : Nat → Prop} {w : World} {e : TypeId} {size m c : Nat} {A : Option Addr} {xs : List Value} {p : Int} (hO : Own M w e size A m c xs) (h : 0 ≤ p ∧ p ≤ (m : Int)) : 0 ≤ p ∧ p ≤ (c : Int) := by
  rcases hO.1.2 with ⟨h1, h2⟩ | ⟨g, cap, cur, h1, _, _, h2, _⟩
  · injection h1 with _ _ h3; subst h3; omega
  · injection h1 with _ _ h3; subst h3; omega
theorem eq_dec_int (a b : Int) : (a == b) = decide (a = b) := rfl
theorem eq_dec_str (a b : List UInt8) : (a == b) = decide (a = b) := beq_dec a b
end Go.Vc
