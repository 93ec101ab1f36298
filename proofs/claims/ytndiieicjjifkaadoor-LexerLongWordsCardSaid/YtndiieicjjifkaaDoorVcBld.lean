/- strings.Builder, of the call's own: what its three methods leave. The lemmas that are called are the library's. -/
import Derived.Test.YtndiieicjjifkaaDoorVcMem
import Derived.Test.YtndiieicjjifkaaDoorShelf
import Derived.Lib.AppendStr
import Derived.Laws.Externs
namespace Go.Vc
open Go Go.RowKit
abbrev byteCells (l : List UInt8) : List Value := Lib.byteCells l
/-- A builder at block b: its blocks (itself, its row) are among S; it holds l. -/
structure Bd (M S : Nat → Prop) (w : World) (b : Nat) (l : List UInt8) : Prop where
  sub : ∀ k, S k → M k
  lt : ∀ k, S k → k < w.heap.size
  mem : S b
  at_ : ∃ p v, (p = none ∨ p = some ⟨b, 0, none⟩) ∧ Blk w b 42 #[.pointer p, v] ∧ w.ownsRow 0 5 1 v l.length (byteCells l) ∧ v.ownBlock ≠ some b ∧ ∀ k, v.ownBlock = some k → S k
theorem Bd.mono {M M' S : Nat → Prop} {w : World} {b : Nat} {l : List UInt8} (h : Bd M S w b l) (hM : ∀ k, M k → M' k) : Bd M' S w b l := ⟨fun k hk => hM k (h.sub k hk), h.lt, h.mem, h.at_⟩
theorem Bd.kept {M S : Nat → Prop} {w w' : World} {b : Nat} {l : List UInt8} (h : Bd M S w b l) (hs : w.heap.size ≤ w'.heap.size) (hk : ∀ k, S k → w'.heap[k]? = w.heap[k]?) : Bd M S w' b l := by
  obtain ⟨p, v, hp, hb, ho, hn, hv⟩ := h.at_
  refine ⟨h.sub, fun k hk => Nat.lt_of_lt_of_le (h.lt k hk) hs, h.mem, p, v, hp, (hk b h.mem).trans hb, ⟨ho.1, ?_⟩, hn, hv⟩
  rcases ho.2 with h2 | ⟨g, cap, cur, e1, e2, e3, r⟩
  · exact .inl h2
  · refine .inr ⟨g, cap, cur, e1, e2, ?_, r⟩
    rw [hk g (hv g (by rw [e1]; rfl))]; exact e3
theorem Bd.ext {M S : Nat → Prop} {w w' : World} {b : Nat} {l : List UInt8} (h : Bd M S w b l) (hx : Ext w w') : Bd M S w' b l := h.kept hx.size fun k hk => hx.block k (h.lt k hk)
theorem Bd.upd {M S : Nat → Prop} {w w' : World} {b g : Nat} {l : List UInt8} (h : Bd M S w b l) (hx : Upd [g] w w') (hn : ¬ S g) : Bd M S w' b l :=
  h.kept hx.size fun k hk => hx.block k (h.lt k hk) (by simp; rintro rfl; exact hn hk)
theorem Bd.grown {M S : Nat → Prop} {w w' : World} {b : Nat} {r : Option Nat} {l : List UInt8} (h : Bd M S w b l) (hx : w.grownBy w' r) (hn : ∀ k, r = some k → ¬ S k) : Bd M S w' b l :=
  h.kept hx.size fun k hk => hx.block k (h.lt k hk) (fun e => hn k e.symm hk)
theorem Bd.farOwn {M S : Nat → Prop} {w w' : World} {b : Nat} {A : Option Addr} {l : List UInt8} (h : Bd M S w b l) (hs : w.heap.size ≤ w'.heap.size) (hk : ∀ k, k < w.heap.size → bOf A ≠ some k → w'.heap[k]? = w.heap[k]?) (hn : ∀ k, bOf A = some k → ¬ S k) : Bd M S w' b l :=
  h.kept hs fun k hS => hk k (h.lt k hS) (fun e => hn k e hS)
theorem disS_app {S : Nat → Prop} {w : World} {A A' : Option Addr} (h : ∀ k, bOf A = some k → ¬ S k) (hlt : ∀ k, S k → k < w.heap.size) (hat : bOf A' = bOf A ∨ bOf A' = some w.heap.size) : ∀ k, bOf A' = some k → ¬ S k := fun k hk hs => by
  rcases hat with e | e
  · exact h k (e.symm.trans hk) hs
  · have := hlt k hs; rw [e] at hk; injection hk with hk; omega
/-- What a step on a builder leaves. -/
structure BdStep (S S' : Nat → Prop) (w w' : World) : Prop where
  os : w'.os = w.os
  tape : w'.tape = w.tape
  output : w'.output = w.output
  size : w.heap.size ≤ w'.heap.size
  far : ∀ k, k < w.heap.size → ¬ S k → w'.heap[k]? = w.heap[k]?
  new : ∀ k, S' k → S k ∨ w.heap.size ≤ k
theorem BdStep.blk {S S' : Nat → Prop} {w w' : World} {g : Nat} {t : TypeId} {cs : Array Value} (h : BdStep S S' w w') (hB : Blk w g t cs) (hn : ¬ S g) : Blk w' g t cs := (h.far g hB.lt hn).trans hB
theorem BdStep.own {S S' M : Nat → Prop} {w w' : World} {e : TypeId} {size n c : Nat} {A : Option Addr} {xs : List Value} (h : BdStep S S' w w') (hO : Own M w e size A n c xs) (hn : ∀ k, bOf A = some k → ¬ S k) : Own M w' e size A n c xs :=
  hO.kept fun k hk => h.far k (hO.lt k hk) (hn k hk)
theorem BdStep.apart {S S' : Nat → Prop} {w w' : World} {g : Nat} (h : BdStep S S' w w') (hg : g < w.heap.size) (hn : ¬ S g) : ¬ S' g := fun hs => (h.new g hs).elim hn (fun hle => by omega)
theorem bd_stp {M S S' : Nat → Prop} {w w' : World} {b : Nat} {l l' : List UInt8} (hB : Bd M S w b l) (h : BdStep S S' w w') (hB' : Bd S' S' w' b l') :
    ∃ M' : Nat → Prop, (∀ k, M k → M' k) ∧ Bd M' S' w' b l' ∧ ∀ (M0 : Nat → Prop) (a : World), Stp M0 a M w → Stp M0 a M' w' := by
  refine ⟨fun k => M k ∨ S' k, fun k hk => .inl hk, hB'.mono fun k hk => .inr hk, fun M0 a hs => ⟨h.os.trans hs.os, h.tape.trans hs.tape, h.output.trans hs.output, Nat.le_trans hs.size h.size, fun k hk hn => ?_, fun k hk => ?_⟩⟩
  · obtain ⟨e, hm⟩ := hs.keep k hk hn
    have hkw := Nat.lt_of_lt_of_le hk hs.size
    have hS : ¬ S k := fun h' => hm (hB.sub k h')
    exact ⟨(h.far k hkw hS).trans e, fun h' => h'.elim hm (h.apart hkw hS)⟩
  · exact hk.elim (fun h' => Nat.lt_of_lt_of_le (hs.lt k h') h.size) (hB'.lt k)
theorem run_append_string_at {P : Program} {w : World} {t u ty e : TypeId} {i : TypeInfo} (ht : P.underlying t = some (.slice e)) (hu : P.underlying u = some .string) (hi : P.info? e = some i) (hz : i.zero = some (.int .u8 0)) (hsize : i.size = 1) (hby : i.bytes = 1)
    {v : Value} {n : Nat} {xs : List Value} (hown : w.ownsRow 0 e 1 v n xs) {s : ByteArray} (hbytes : n + s.size ≤ 140737488355328) :
    ∃ v' w', (Builtin.append_ #[t, u] ty #[v, .string s]).run P w = .ok v' w' ∧ w'.ownsRow 0 e 1 v' (n + s.size) (xs ++ Lib.strCells s) ∧ w.grownBy w' v.ownBlock ∧ (v'.ownBlock = v.ownBlock ∨ ∃ k, v'.ownBlock = some k ∧ w.heap.size ≤ k) := by
  obtain ⟨v', w', hr, h2, h3, _⟩ := Lib.run_append_own_string (P := P) w 0 t u ty e i ht hu hi hz hsize hby v n xs hown s (by unfold maxLen; omega) hbytes (Nat.zero_le _)
  refine ⟨v', w', hr, h2, h3, ?_⟩
  have hxl : xs.length = n := by simpa using hown.1
  rcases hown.2 with ⟨rfl, rfl⟩ | ⟨g, cap, cur, rfl, hbg, hg, hnc, hcm, hcs, htake⟩
  · obtain ⟨v2, w2, hr2, h4, _⟩ := Lib.run_append_own_string (P := P) w w.heap.size t u ty e i ht hu hi hz hsize hby (.slice none 0 0) 0 xs ⟨by simpa using hxl, .inl ⟨rfl, rfl⟩⟩ s (by unfold maxLen; omega) hbytes (Nat.le_refl _)
    have hv2 : v2 = v' := by have := hr2.symm.trans hr; injection this
    subst hv2
    cases hb : v2.ownBlock with
    | none => exact .inl rfl
    | some k => exact .inr ⟨k, rfl, (h4.lt k hb).1⟩
  · by_cases hroom : n + s.size ≤ cap
    · have hr2 := Lib.run_append_room_string (P := P) w t u ty e i ht hu hi hsize g n cap cur hg s hroom (by omega)
      have := hr2.symm.trans hr
      injection this with this
      exact .inl (by rw [← this]; rfl)
    · have holds : ∀ j u, xs[j]? = some u → w.cell? ((⟨g, 0, none⟩ : Addr).add j) = some u := hown.cells (g := g) rfl
      have hr2 := Lib.run_append_grow_string (P := P) w t u ty e i (.int .u8 0) ht hu hi hz ⟨g, 0, none⟩ n cap xs (by rw [hsize]; simpa using hxl) holds s (by omega) (by omega) (by rw [hby]; exact growslice_fits (by omega) (by omega))
      have := hr2.symm.trans hr
      injection this with this
      exact .inr ⟨w.heap.size, by rw [← this]; rfl, Nat.le_refl _⟩
theorem wpList_append_string_at {P : Program} {w : World} {ops : Array Oper} {rest : List Oper} {o : Oper} {a : Act} {Q : Exit → Act → World → Prop} (hgd : o.guard = none) (sl x : Operand) (t u : TypeId)
    (ho : o.op = .call { callee := .builtin .append, args := #[sl, x], argTypes := #[t, u] }) (e : TypeId) (i : TypeInfo) (ht : P.underlying t = some (.slice e)) (hu : P.underlying u = some .string) (hi : P.info? e = some i) (hz : i.zero = some (.int .u8 0))
    (hsize : i.size = 1) (hby : i.bytes = 1) (v : Value) (n : Nat) (xs : List Value) (hs : a.eval sl = v) (hown : w.ownsRow 0 e 1 v n xs) (s : ByteArray) (hx : a.eval x = .string s) (hbytes : n + s.size ≤ 140737488355328)
    (h : ∀ v' w', w'.ownsRow 0 e 1 v' (n + s.size) (xs ++ Lib.strCells s) → w.grownBy w' v.ownBlock → (v'.ownBlock = v.ownBlock ∨ ∃ k, v'.ownBlock = some k ∧ w.heap.size ≤ k) → wpList P ops Q rest (a.put o.dst v') w') : wpList P ops Q (o :: rest) a w := by
  refine wpList_plain hgd fun K hK => ?_
  obtain ⟨v', w', hr, h2, h3, h4⟩ := run_append_string_at (P := P) (ty := o.type) ht hu hi hz hsize hby hown hbytes
  unfold Oper.wp execOp
  simp only [ho, resolve, invoke, builtin, Sem.run_bind, Sem.run_pure, Result.andThen_ok, List.map_toArray, List.map_cons, List.map_nil, hs, hx, hr]
  exact hK _ _ (h v' w' h2 h3 h4)
theorem Stp.of_ext {w w' : World} (h : Ext w w') : Stp noM w noM w' := ⟨h.os, h.tape, h.output, h.size, fun k hk _ => ⟨h.block k hk, fun h => h⟩, fun _ h => h.elim⟩
/-- A builder just allocated. -/
theorem Bd.new {M : Nat → Prop} {w : World} {b : Nat} (hM : M b) (hB : Blk w b 42 #[.pointer none, .slice none 0 0]) : Bd M (fun k => k = b) w b [] :=
  ⟨fun k hk => hk ▸ hM, fun k hk => hk ▸ hB.lt, rfl, none, .slice none 0 0, .inl rfl, hB, World.ownsRow_nil w 0 _ _, by simp [Value.ownBlock], fun k hk => by simp [Value.ownBlock] at hk⟩
end Go.Vc
namespace Go.Proofs.YtndiieicjjifkaaDoor
open Go Go.RowKit Go.Vc
theorem bld_size : ∃ j, Tryd.prog.info? 42 = some j ∧ j.size = 2 := Option.map_eq_some_iff.1 (by kernel_rfl : (Tryd.prog.info? 42).map (·.size) = some 2)
theorem bld_lies : liesAt Tryd.prog Tryd.prog.depth 42 (2 / Tryd.prog.cellsOf 42) 0 42 1 = true := by kernel_rfl
theorem bld_byte : (Tryd.prog.info? 5).map (fun i => (i.zero, i.size, i.bytes)) = some (some (.int .u8 0), 1, 1) := by kernel_rfl

set_option maxHeartbeats 1000000 in
set_option maxRecDepth 100000 in
theorem bld_check_used (b : Nat) (w : World) (h0 : w.cell? ⟨b, 0, none⟩ = some (.pointer (some ⟨b, 0, none⟩))) :
    Calls Tryd.prog 42 #[.pointer (some ⟨b, 0, none⟩)] w fun e w' => e = .returned (.tuple #[]) ∧ w' = w := by
  obtain ⟨j, hj, _⟩ := bld_size
  go_enter Tryd.func42, Tryd.ntmps42
  go_wp2
  rw [Lib.run_neq_ptr_same w _ Tryd.underlying40 hj]
  go_wp2
  go_end0
  exact ⟨rfl, rfl⟩
set_option maxHeartbeats 1000000 in
set_option maxRecDepth 100000 in
theorem bld_check_fresh (b : Nat) (w : World) (h0 : w.cell? ⟨b, 0, none⟩ = some (.pointer none)) (hsh : w.shape? b = some (42, 2)) (hfz : w.frozen? ⟨b, 0, none⟩ = false) :
    Calls Tryd.prog 42 #[.pointer (some ⟨b, 0, none⟩)] w fun e w' => e = .returned (.tuple #[]) ∧ w' = w.setCell ⟨b, 0, none⟩ (.pointer (some ⟨b, 0, none⟩)) := by
  obtain ⟨j, hj, hjs⟩ := bld_size
  go_enter Tryd.func42, Tryd.ntmps42
  go_wp2
  rw [Lib.run_to_unsafe w ⟨b, 0, none⟩ Tryd.underlying40 Tryd.underlying58 hj (by rw [hjs]; decide) hsh (Nat.zero_lt_succ 1)]
  simp only [Result.andThen]
  rw [Oper.upon_value]
  go_wp2
  rw [run_callFunc_extern Tryd.func45 (by kernel_rfl) (by kernel_rfl) (by kernel_rfl) (e := Extern.AbiNoEscape.same) (by kernel_rfl)]
  rw [Lib.run_noEscape]
  simp only [Result.andThen]
  rw [Oper.upon_value]
  go_wp2
  rw [Lib.run_from_unsafe w ⟨b, 0, none⟩ Tryd.underlying58 Tryd.underlying40 hj hsh bld_lies]
  simp only [Result.andThen]
  rw [Oper.upon_value]
  go_wp2
  go_end0
  exact ⟨rfl, rfl⟩
theorem bld_check {b : Nat} {w : World} {p : Option Addr} {v : Value} (hp : p = none ∨ p = some ⟨b, 0, none⟩) (hb : Blk w b 42 #[.pointer p, v]) :
    Calls Tryd.prog 42 #[.pointer (some ⟨b, 0, none⟩)] w fun e w' => e = .returned (.tuple #[]) ∧ Upd [b] w w' ∧ Blk w' b 42 #[.pointer (some ⟨b, 0, none⟩), v] := by
  rcases hp with rfl | rfl
  · refine (bld_check_fresh b w (by rw [hb.cell]; rfl) (by unfold Blk at hb; simp [World.shape?, hb]) (hb.frozen 0)).mono ?_
    rintro e w' ⟨rfl, rfl⟩
    exact ⟨rfl, Upd.setCell (p := ⟨b, 0, none⟩) (by simp) _, hb.set_ 0 _⟩
  · refine (bld_check_used b w (by rw [hb.cell]; rfl)).mono ?_
    rintro e w' ⟨rfl, rfl⟩
    exact ⟨rfl, Upd.refl, hb⟩

/-- Behind the append and the store. -/
theorem bld_done {M S : Nat → Prop} {w w1 w2 w3 : World} {b : Nat} {l l' : List UInt8} {v v' : Value} (hB : Bd M S w b l) (h1 : Upd [b] w w1) (hv : ∀ k, v.ownBlock = some k → S k)
    (hg : w1.grownBy w2 v.ownBlock) (hown : w2.ownsRow 0 5 1 v' l'.length (byteCells l')) (hat : v'.ownBlock = v.ownBlock ∨ ∃ k, v'.ownBlock = some k ∧ w1.heap.size ≤ k)
    (hb : Blk w2 b 42 #[.pointer (some ⟨b, 0, none⟩), v]) (hw : w3 = w2.setCell ⟨b, 1, none⟩ v') :
    ∃ S', BdStep S S' w w3 ∧ Bd S' S' w3 b l' := by
  subst hw
  have hne := Lib.ownBlock_ne hown hb (show (42 : TypeId) ≠ 5 by decide)
  have hU : Upd [b] w2 (w2.setCell ⟨b, 1, none⟩ v') := Upd.setCell (p := ⟨b, 1, none⟩) (by simp) _
  refine ⟨fun k => k = b ∨ v'.ownBlock = some k, ⟨hU.os.trans (hg.os.trans h1.os), hU.tape.trans (hg.tape.trans h1.tape), hU.output.trans (hg.output.trans h1.output), Nat.le_trans h1.size (Nat.le_trans hg.size hU.size), fun k hk hn => ?_, fun k hk => ?_⟩, ⟨fun _ h => h, fun k hk => ?_, .inl rfl, some ⟨b, 0, none⟩, v', .inr rfl, hb.set_ 1 v', ?_, hne, fun k hk => .inr hk⟩⟩
  · have hkb : k ≠ b := by rintro rfl; exact hn hB.mem
    have hk1 := Nat.lt_of_lt_of_le hk h1.size
    rw [hU.block k (Nat.lt_of_lt_of_le hk1 hg.size) (by simpa using hkb), hg.block k hk1 (fun e => hn (hv k e.symm)), h1.block k hk (by simpa using hkb)]
  · rcases hk with rfl | hk
    · exact .inl hB.mem
    · rcases hat with h | ⟨k', h, hle⟩
      · exact .inl (hv k (h.symm.trans hk))
      · rw [h] at hk; cases hk; exact .inr (Nat.le_trans h1.size hle)
  · rcases hk with rfl | hk
    · exact Nat.lt_of_lt_of_le hb.lt hU.size
    · exact Nat.lt_of_lt_of_le (hown.lt k hk).2 hU.size
  · refine hown.kept (row := some b) ⟨rfl, rfl, rfl, by simp [World.setCell], fun k _ hk => Below.heap_setCell _ _ _ _ (fun e => hk (by simp [e]))⟩ (Or.inr hne)
-- WRITEBYTE
set_option maxHeartbeats 2000000 in
set_option maxRecDepth 100000 in
theorem bld_writeByte {M S : Nat → Prop} {w : World} {b : Nat} {l : List UInt8} (c : UInt8) (hB : Bd M S w b l) (hlen : l.length + 1 ≤ 140737488355328) :
    Calls Tryd.prog 23 #[.pointer (some ⟨b, 0, none⟩), .int .u8 c.toNat] w fun e w' => e = .returned .nilIface ∧ ∃ S', BdStep S S' w w' ∧ Bd S' S' w' b (l ++ [c]) := by
  obtain ⟨p, v, hp, hbk, hown, hne, hv⟩ := hB.at_
  obtain ⟨i0, hi, hz0, hz1, hz2⟩ := info_parts bld_byte
  have e42 : ∀ args w, (callFunc 42 args).run Tryd.prog w = .ok (.enter 42 args) w := enters_of Tryd.func42 (by kernel_rfl) rfl
  go_enter Tryd.func23, Tryd.ntmps23
  go_wp2_with (go_at_fn 42; refine (bld_check hp hbk).mono ?_)
  rintro e w1 ⟨rfl, hU, hb1⟩
  have hown1 : w1.ownsRow 0 5 1 v l.length (byteCells l) := hown.kept (row := some b) ⟨hU.os, hU.tape, hU.output, hU.size, fun k hk hn => hU.block k hk (by simpa using fun e => hn (by rw [e]))⟩ (.inr hne)
  have c1 : w1.cell? ⟨b, 1, none⟩ = some v := by rw [hb1.cell]; rfl
  go_wp2_with (at_builtin; refine wpList_append_own_at _ rfl _ _ 35 rfl 0 5 i0 (.int .u8 0) 1 1 Tryd.underlying35 hi hz0 hz1 hz2 rfl (by decide) _ _ _ rfl (hown1.alloc _) ⟨w1.heap.size, 0, none⟩ 1 1 [.int .u8 c.toNat] rfl rfl ?c1 ?c2 ?c3 ?c4 ?c5 ?_)
  case c1 =>
    intro j u hj
    match j, hj with
    | 0, hj => simp at hj; subst hj; simp [Addr.add]
  case c2 => intro u hu; simp at hu; subst hu; rfl
  case c3 => unfold maxLen; omega
  case c4 => omega
  case c5 => exact Nat.zero_le _
  intro v' w2 hown' hgrow _ hat
  have hg1 : w1.grownBy w2 v.ownBlock := ⟨hgrow.os, hgrow.tape, hgrow.output, Nat.le_trans (by simp) hgrow.size, fun k hk hn => (hgrow.block k (by simp; omega) hn).trans (Lib.alloc_old w1 _ k hk)⟩
  have hb2 : Blk w2 b 42 #[.pointer (some ⟨b, 0, none⟩), v] := hb1.grown hg1 hne
  have d0 : w2.cell? ⟨b, 0, none⟩ = some (.pointer (some ⟨b, 0, none⟩)) := by rw [hb2.cell]; rfl
  have d1 : w2.cell? ⟨b, 1, none⟩ = some v := by rw [hb2.cell]; rfl
  have f1 : w2.frozen? ⟨b, 1, none⟩ = false := hb2.frozen 1
  obtain ⟨ao, n', cap, rfl⟩ : ∃ ao n' cap, v' = .slice ao n' cap := by
    rcases hown'.2 with ⟨hv, _⟩ | ⟨g, cap, cur, hv, _⟩
    · exact ⟨_, _, _, hv⟩
    · exact ⟨_, _, _, hv⟩
  go_wp2
  go_ret
  refine ⟨rfl, bld_done hB hU hv hg1 (l' := l ++ [c]) (by simpa [Lib.byteCells] using hown') (hat.imp id fun h => ⟨_, h, by simp⟩) hb2 rfl⟩
-- END WRITEBYTE
set_option maxHeartbeats 2000000 in
set_option maxRecDepth 100000 in
theorem bld_writeString {M S : Nat → Prop} {w : World} {b : Nat} {l : List UInt8} (x : List UInt8) (hB : Bd M S w b l) (hlen : l.length + x.length ≤ 140737488355328) :
    Calls Tryd.prog 24 #[.pointer (some ⟨b, 0, none⟩), str x] w fun e w' => e = .returned (.tuple #[.int .i64 x.length, .nilIface]) ∧ ∃ S', BdStep S S' w w' ∧ Bd S' S' w' b (l ++ x) := by
  obtain ⟨p, v, hp, hbk, hown, hne, hv⟩ := hB.at_
  obtain ⟨i0, hi, hz0, hz1, hz2⟩ := info_parts bld_byte
  have e42 : ∀ args w, (callFunc 42 args).run Tryd.prog w = .ok (.enter 42 args) w := enters_of Tryd.func42 (by kernel_rfl) rfl
  have hsz : (⟨x.toArray⟩ : ByteArray).size = x.length := by simp [ByteArray.size]
  go_enter Tryd.func24, Tryd.ntmps24
  go_wp2_with (go_at_fn 42; refine (bld_check hp hbk).mono ?_)
  rintro e w1 ⟨rfl, hU, hb1⟩
  have hown1 : w1.ownsRow 0 5 1 v l.length (byteCells l) := hown.kept (row := some b) ⟨hU.os, hU.tape, hU.output, hU.size, fun k hk hn => hU.block k hk (by simpa using fun e => hn (by rw [e]))⟩ (.inr hne)
  have c1 : w1.cell? ⟨b, 1, none⟩ = some v := by rw [hb1.cell]; rfl
  go_wp2_with (at_builtin; refine wpList_append_string_at rfl _ _ 35 9 rfl 5 i0 Tryd.underlying35 Tryd.underlying9 hi hz0 hz1 hz2 _ _ _ rfl hown1 ⟨x.toArray⟩ rfl (by rw [hsz]; exact hlen) ?_)
  intro v' w2 hown' hg1 hat
  have hb2 : Blk w2 b 42 #[.pointer (some ⟨b, 0, none⟩), v] := hb1.grown hg1 hne
  have d0 : w2.cell? ⟨b, 0, none⟩ = some (.pointer (some ⟨b, 0, none⟩)) := by rw [hb2.cell]; rfl
  have d1 : w2.cell? ⟨b, 1, none⟩ = some v := by rw [hb2.cell]; rfl
  have f1 : w2.frozen? ⟨b, 1, none⟩ = false := hb2.frozen 1
  obtain ⟨ao, n', cap, rfl⟩ : ∃ ao n' cap, v' = .slice ao n' cap := by
    rcases hown'.2 with ⟨hv, _⟩ | ⟨g, cap, cur, hv, _⟩
    · exact ⟨_, _, _, hv⟩
    · exact ⟨_, _, _, hv⟩
  go_wp2
  go_ret2
  refine ⟨by simp, bld_done hB hU hv hg1 (l' := l ++ x) (by rw [List.length_append, byteCells, Lib.byteCells_append]; exact hown') hat hb2 rfl⟩
/-- String: a row may be marked; below what the call began with all is as it was. -/
theorem bld_string {M S : Nat → Prop} {w0 w : World} {b : Nat} {l : List UInt8} (hB : Bd M S w b l) (hS : Stp noM w0 M w) :
    Calls Tryd.prog 25 #[.pointer (some ⟨b, 0, none⟩)] w fun e w' => e = .returned (str l) ∧ Stp noM w0 noM w' ∧ Ext w0 w' := by
  obtain ⟨p, v, hp, hbk, hown, hne, hv⟩ := hB.at_
  have hfr : ∀ k, S k → w0.heap.size ≤ k := fun k hk => hS.fresh (hB.sub k hk)
  have hown0 : w.ownsRow w0.heap.size 5 1 v l.length (byteCells l) := ⟨hown.1, hown.2.imp id fun ⟨g, cap, cur, e1, e2, r⟩ => ⟨g, cap, cur, e1, hfr g (hv g (by rw [e1]; rfl)), r⟩⟩
  have hat : Lib.BuilderAt 42 5 w0.heap.size b (.pointer p) (Lib.byteCells l) w := ⟨hfr b hB.mem, v, hbk, by rw [Lib.byteCells_length]; exact hown0, hne⟩
  have hI : Lib.IsBuilder 42 5 w0.heap.size b (Lib.byteCells l) w := by
    rcases hp with rfl | rfl
    · exact .inl hat
    · exact .inr hat
  refine (Tryd.Builder_String_any w0.heap.size b l w hI hS.size).mono ?_
  rintro e w' ⟨rfl, hb⟩
  have hx : Ext w0 w' := hS.ext0.trans hb
  exact ⟨rfl, Stp.of_ext hx, hx⟩
end Go.Proofs.YtndiieicjjifkaaDoor
