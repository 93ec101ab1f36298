import Derived.Test.YtebpdmfmknfkjaaGreatDoorSXm
import Derived.Lib.AppendStr
import Derived.Laws.Externs
namespace Go.Vc
open Go Go.RowKit
abbrev byteCells (l : List UInt8) : List Value := Lib.byteCells l
def MO.bld (tb T : TypeId) (b : Nat) (l : List UInt8) : MO where
 inv C _ w := C b ∧ (∀ k, C k → k < w.heap.size) ∧ ∃ p v, (p = none ∨ p = some ⟨b, 0, none⟩) ∧ Blk w b T #[.pointer p, v] ∧ w.ownsRow 0 tb 1 v l.length (byteCells l) ∧ v.ownBlock ≠ some b ∧ ∀ k, v.ownBlock = some k → C k
 lt h k hk := h.2.1 k hk
 sp h hc hs := by
  obtain ⟨h1, hlt, p, v, hp, hb, ho, hn, hv⟩ := h
  refine ⟨h1, fun k hk => Nat.lt_of_lt_of_le (hlt k hk) hs.size, p, v, hp, (hc b h1).trans hb, ⟨ho.1, ?_⟩, hn, hv⟩
  rcases ho.2 with h2 | ⟨g, cap, cur, e1, e2, e3, r⟩
  ·exact .inl h2
  ·refine .inr ⟨g, cap, cur, e1, e2, ?_, r⟩
   rw [hc g (hv g (by rw [e1]; rfl))]; exact e3
section
variable {C0 F C : NP} {w0 w : World} {os os' : List MO} {cl : List Cl} {f : MO → List MO} {b : Nat} {tb T : TypeId} {l l' : List UInt8}
theorem Bun.toBld (h : Bun C0 F w0 C w os cl) (ha : At os (MO.box b T #[.pointer none, .slice none 0 0]) f) : ∃ C', Bun C0 F w0 C' w (f (MO.bld tb T b [])) cl := by
 obtain ⟨C1, h1, h2, h3⟩ := h.turn ha
 obtain ⟨C', _, h5⟩ := h3 w C1 ⟨rfl, rfl, rfl, Nat.le_refl _, fun k hk hn => ⟨rfl, hn⟩, fun k hk => by rw [(h1.1 k).1 hk]; exact h1.2.lt⟩
 exact ⟨C', h5 (MO.bld tb T b []) ⟨(h1.1 b).2 rfl, fun k hk => by rw [(h1.1 k).1 hk]; exact h1.2.lt, none, .slice none 0 0, .inl rfl, h1.2, World.ownsRow_nil w 0 _ _, by simp [Value.ownBlock], fun k hk => by simp [Value.ownBlock] at hk⟩⟩
theorem bld_done {C1 : NP} {w1 w2 w3 : World} {v v' : Value} (hT : T ≠ tb) (hm : C1 b) (h1 : Upd [b] w w1) (hv : ∀ k, v.ownBlock = some k → C1 k)
  (hg : w1.grownBy w2 v.ownBlock) (hown : w2.ownsRow 0 tb 1 v' l'.length (byteCells l')) (hat : v'.ownBlock = v.ownBlock ∨ ∃ k, v'.ownBlock = some k ∧ w1.heap.size ≤ k)
  (hb : Blk w2 b T #[.pointer (some ⟨b, 0, none⟩), v]) (hw : w3 = w2.setCell ⟨b, 1, none⟩ v') :
  ∃ C1', Stp C1 w C1' w3 ∧ ∀ D, (MO.bld tb T b l').inv C1' D w3 := by
 subst hw
 have hne := Lib.ownBlock_ne hown hb hT
 have hU : Upd [b] w2 (w2.setCell ⟨b, 1, none⟩ v') := Upd.setCell (p := ⟨b, 1, none⟩) (by simp) _
 have hlt : ∀ k, (k = b ∨ v'.ownBlock = some k) → k < (w2.setCell ⟨b, 1, none⟩ v').heap.size := fun k hk => by
  rcases hk with rfl | hk
  ·exact Nat.lt_of_lt_of_le hb.lt hU.size
  ·exact Nat.lt_of_lt_of_le (hown.lt k hk).2 hU.size
 refine ⟨fun k => k = b ∨ v'.ownBlock = some k, ⟨hU.os.trans (hg.os.trans h1.os), hU.tape.trans (hg.tape.trans h1.tape), hU.output.trans (hg.output.trans h1.output), Nat.le_trans h1.size (Nat.le_trans hg.size hU.size), fun k hk hn => ⟨?_, ?_⟩, hlt⟩, fun D => ⟨.inl rfl, hlt, some ⟨b, 0, none⟩, v', .inr rfl, hb.set_ 1 v', ?_, hne, fun k hk => .inr hk⟩⟩
 ·have hkb : k ≠ b := by rintro rfl; exact hn hm
  have hk1 := Nat.lt_of_lt_of_le hk h1.size
  rw [hU.block k (Nat.lt_of_lt_of_le hk1 hg.size) (by simpa using hkb), hg.block k hk1 (fun e => hn (hv k e.symm)), h1.block k hk (by simpa using hkb)]
 ·rintro (rfl | hk')
  ·exact hn hm
  ·rcases hat with h | ⟨k', h, hle⟩
   ·exact hn (hv k (h.symm.trans hk'))
   ·rw [h] at hk'; cases hk'; have := h1.size; omega
 ·refine hown.kept (row := some b) ⟨rfl, rfl, rfl, by simp [World.setCell], fun k _ hk => Below.heap_setCell _ _ _ _ (fun e => hk (by simp [e]))⟩ (Or.inr hne)
theorem Bun.endBld {w' : World} {C1 : NP} (h : Bun C0 F w0 C w os cl) (h2 : ∀ k, C1 k → C k) (h3 : AllMO os' (fun k => C k ∧ ¬ C1 k) (Dj F C) w) {bs : List Nat} (hU : Upd bs w w') (hbs : ∀ k ∈ bs, C1 k) : ∃ C', Sp (Dj F C) w (Dj F C') w' ∧ Bun C0 F w0 C' w' os' cl := by
 have hsp : Sp (Dj F C) w (Dj F C) w' := ⟨hU.size, fun k hk hn => ⟨hU.block k hk fun hb => hn (.inr (h2 k (hbs k hb))), hn⟩⟩
 refine ⟨C, hsp, ⟨hU.os.trans h.st.os, hU.tape.trans h.st.tape, hU.output.trans h.st.output, Nat.le_trans h.st.size hU.size, fun k hk hn => ?_, fun k hk => Nat.lt_of_lt_of_le (h.st.lt k hk) hU.size⟩, ?_, h.cl.sp hsp, h.dj, fun k hk => Nat.lt_of_lt_of_le (h.fl k hk) hU.size⟩
 ·obtain ⟨e1, e2⟩ := h.st.keep k hk hn
  exact ⟨(hU.block k (Nat.lt_of_lt_of_le hk h.st.size) fun hb => e2 (h2 k (hbs k hb))).trans e1, e2⟩
 ·exact (h3.sp (fun k hk hl => hU.block k hl fun hb => hk.2 (hbs k hb)) hsp).mono fun k hk => hk.1
end
theorem run_append_string_at {P : Program} {w : World} {t u ty e : TypeId} {i : TypeInfo} (ht : P.underlying t = some (.slice e)) (hu : P.underlying u = some .string) (hi : P.info? e = some i) (hz : i.zero = some (.int .u8 0)) (hsize : i.size = 1) (hby : i.bytes = 1)
  {v : Value} {n : Nat} {xs : List Value} (hown : w.ownsRow 0 e 1 v n xs) {s : ByteArray} (hbytes : n + s.size ≤ 140737488355328) :
  ∃ v' w', (Builtin.append_ #[t, u] ty #[v, .string s]).run P w = .ok v' w' ∧ w'.ownsRow 0 e 1 v' (n + s.size) (xs ++ Lib.strCells s) ∧ w.grownBy w' v.ownBlock ∧ (v'.ownBlock = v.ownBlock ∨ ∃ k, v'.ownBlock = some k ∧ w.heap.size ≤ k) := by
 obtain ⟨v', w', hr, h2, h3, _⟩ := Lib.run_append_own_string (P := P) w 0 t u ty e i ht hu hi hz hsize hby v n xs hown s (by unfold maxLen; omega) hbytes (Nat.zero_le _)
 refine ⟨v', w', hr, h2, h3, ?_⟩
 have hxl : xs.length = n := by simpa using hown.1
 rcases hown.2 with ⟨rfl, rfl⟩ | ⟨g, cap, cur, rfl, hbg, hg, hnc, hcm, hcs, htake⟩
 ·obtain ⟨v2, w2, hr2, h4, _⟩ := Lib.run_append_own_string (P := P) w w.heap.size t u ty e i ht hu hi hz hsize hby (.slice none 0 0) 0 xs ⟨by simpa using hxl, .inl ⟨rfl, rfl⟩⟩ s (by unfold maxLen; omega) hbytes (Nat.le_refl _)
  have hv2 : v2 = v' := by have := hr2.symm.trans hr; injection this
  subst hv2
  cases hb : v2.ownBlock with
  | none => exact .inl rfl
  | some k => exact .inr ⟨k, rfl, (h4.lt k hb).1⟩
 ·by_cases hroom : n + s.size ≤ cap
  ·have hr2 := Lib.run_append_room_string (P := P) w t u ty e i ht hu hi hsize g n cap cur hg s hroom (by omega)
   have := hr2.symm.trans hr
   injection this with this
   exact .inl (by rw [← this]; rfl)
  ·have holds : ∀ j u, xs[j]? = some u → w.cell? ((⟨g, 0, none⟩ : Addr).add j) = some u := hown.cells (g := g) rfl
   have hr2 := Lib.run_append_grow_string (P := P) w t u ty e i (.int .u8 0) ht hu hi hz ⟨g, 0, none⟩ n cap xs (by rw [hsize]; simpa using hxl) holds s (by omega) (by omega) (by rw [hby]; exact growslice_fits (by omega) (by omega))
   have := hr2.symm.trans hr
   injection this with this
   exact .inr ⟨w.heap.size, by rw [← this]; rfl, Nat.le_refl _⟩
theorem wpList_append_string_at {P : Program} {w : World} {ops : Array Oper} {rest : List Oper} {o : Oper} {a : Act} {Q : Exit → Act → World → Prop} (hgd : o.guard = none) (sl x : Operand) (t u : TypeId)
  (ho : o.op = .call { callee := .builtin .append, args := #[sl, x], argTypes := #[t, u] }) (e : TypeId) (i : TypeInfo) (ht : P.underlying t = some (.slice e)) (hu : P.underlying u = some .string) (hi : P.info? e = some i) (hz : i.zero = some (.int .u8 0))
  (hsize : i.size = 1) (hby : i.bytes = 1) (v : Value) (n : Nat) (xs : List Value) (hs : a.eval sl = v) (hown : w.ownsRow 0 e 1 v n xs) (s : ByteArray) (hx : a.eval x = .string s) (hbytes : n + s.size ≤ 140737488355328)
  (h : ∀ v' w', w'.ownsRow 0 e 1 v' (n + s.size) (xs ++ Lib.strCells s) → w.grownBy w' v.ownBlock → (v'.ownBlock = v.ownBlock ∨ ∃ k, v'.ownBlock = some k ∧ w.heap.size ≤ k) → wpList P ops Q rest (a.put o.dst v') w') : wpList P ops Q (o :: rest) a w := by
 refine wpList_plain hgd fun K hK => ?_
 obtain ⟨v', w', hr, h2, h3, h4⟩ := run_append_string_at (P := P) (ty := o.type) ht hu hi hz hsize hby hown hbytes
 unfold Oper.wp execOp
 simp only [ho, resolve, invoke, builtin, Sem.run_bind, Sem.run_pure, Result.andThen_ok, List.map_toArray, List.map_cons, List.map_nil, hs, hx, hr]
 exact hK _ _ (h v' w' h2 h3 h4)
end Go.Vc
