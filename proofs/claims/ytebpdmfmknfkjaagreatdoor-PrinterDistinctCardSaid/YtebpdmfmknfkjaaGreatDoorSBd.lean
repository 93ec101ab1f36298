import Derived.Test.YtebpdmfmknfkjaaGreatDoorSLfU
import Derived.Test.YtebpdmfmknfkjaaGreatDoorSShelf
import Derived.Shelf.Strings.Builder1
import Derived.KernelRfl
set_option linter.unusedVariables false
set_option linter.unusedSimpArgs false
namespace Go.Vc
open Go Go.RowKit
theorem upd_drew {w : World} {bs : List Nat} : Upd bs w w.drew := ⟨rfl, rfl, rfl, Nat.le_refl _, fun _ _ _ => rfl⟩
theorem upd_alloc {w : World} {bs : List Nat} (o : Obj) : Upd bs w (w.alloc o) := .of_ext (Ext.alloc _)
theorem upd_freeze {w : World} {p : Addr} (n : Nat) : Upd [p.block] w (w.freeze p n) := by
 unfold World.freeze
 split
 ·exact .refl
 ·exact ⟨rfl, rfl, rfl, by simp, fun k hk hn => by
   simp only [Array.getElem?_modify]
   rw [if_neg (fun e => hn (by simp [e]))]⟩
end Go.Vc
namespace Go.Proofs.YtebpdmfmknfkjaaGreatDoor
open Go Go.RowKit Go.Vc
structure BldT (P : Program) (T : TypeId) : Prop where
 lies : liesAt P P.depth T (2 / P.cellsOf T) 0 80 1 = true
 ne : T ≠ 5
theorem bldT_mk {P : Program} {T : TypeId} (h : liesAt P P.depth T (2 / P.cellsOf T) 0 80 1 = true) (hn : T ≠ 5) : BldT P T := ⟨h, hn⟩
theorem bld_size : ∃ j, Tryz.prog.info? 80 = some j ∧ j.size = 2 := Option.map_eq_some_iff.1 (by kernel_rfl : (Tryz.prog.info? 80).map (·.size) = some 2)
theorem bld_byte : (Tryz.prog.info? 5).map (fun i => (i.zero, i.size, i.bytes)) = some (some (.int .u8 0), 1, 1) := by kernel_rfl
section
variable {T : TypeId} {b : Nat} {l : List UInt8} {w : World} {p : Option Addr} {v : Value}
set_option maxHeartbeats 1000000 in
set_option maxRecDepth 100000 in
theorem bld_check_used (h0 : w.cell? ⟨b, 0, none⟩ = some (.pointer (some ⟨b, 0, none⟩))) :
  Calls Tryz.prog 119 #[.pointer (some ⟨b, 0, none⟩)] w fun e w' => e = .returned (.tuple #[]) ∧ w' = w := by
 obtain ⟨j, hj, _⟩ := bld_size
 go_enter Tryz.func119, Tryz.ntmps119
 go_wp2
 rw [Lib.run_neq_ptr_same w _ Tryz.underlying77 hj]
 go_wp2
 go_end0
 exact ⟨rfl, rfl⟩
set_option maxHeartbeats 1000000 in
set_option maxRecDepth 100000 in
theorem bld_check_fresh (hT : BldT Tryz.prog T) (h0 : w.cell? ⟨b, 0, none⟩ = some (.pointer none)) (hsh : w.shape? b = some (T, 2)) (hfz : w.frozen? ⟨b, 0, none⟩ = false) :
  Calls Tryz.prog 119 #[.pointer (some ⟨b, 0, none⟩)] w fun e w' => e = .returned (.tuple #[]) ∧ w' = w.setCell ⟨b, 0, none⟩ (.pointer (some ⟨b, 0, none⟩)) := by
 obtain ⟨j, hj, hjs⟩ := bld_size
 go_enter Tryz.func119, Tryz.ntmps119
 go_wp2
 rw [Lib.run_to_unsafe w ⟨b, 0, none⟩ Tryz.underlying77 Tryz.underlying144 hj (by rw [hjs]; decide) hsh (Nat.zero_lt_succ 1)]
 simp only [Result.andThen]
 rw [Oper.upon_value]
 go_wp2
 rw [run_callFunc_extern Tryz.func144 (by kernel_rfl) (by kernel_rfl) (by kernel_rfl) (e := Extern.AbiNoEscape.same) (by kernel_rfl)]
 rw [Lib.run_noEscape]
 simp only [Result.andThen]
 rw [Oper.upon_value]
 go_wp2
 rw [Lib.run_from_unsafe w ⟨b, 0, none⟩ Tryz.underlying144 Tryz.underlying77 hj hsh hT.lies]
 simp only [Result.andThen]
 rw [Oper.upon_value]
 go_wp2
 go_end0
 exact ⟨rfl, rfl⟩
theorem bld_check (hT : BldT Tryz.prog T) (hp : p = none ∨ p = some ⟨b, 0, none⟩) (hb : Blk w b T #[.pointer p, v]) :
  Calls Tryz.prog 119 #[.pointer (some ⟨b, 0, none⟩)] w fun e w' => e = .returned (.tuple #[]) ∧ Upd [b] w w' ∧ Blk w' b T #[.pointer (some ⟨b, 0, none⟩), v] := by
 rcases hp with rfl | rfl
 ·refine (bld_check_fresh hT (by rw [hb.cell]; rfl) (by unfold Blk at hb; simp [World.shape?, hb]) (hb.frozen 0)).mono ?_
  rintro e w' ⟨rfl, rfl⟩
  exact ⟨rfl, Upd.setCell (p := ⟨b, 0, none⟩) (by simp) _, hb.set_ 0 _⟩
 ·refine (bld_check_used (by rw [hb.cell]; rfl)).mono ?_
  rintro e w' ⟨rfl, rfl⟩
  exact ⟨rfl, Upd.refl, hb⟩
set_option maxHeartbeats 2000000 in
set_option maxRecDepth 100000 in
theorem bld_write {C1 : NP} (hT : BldT Tryz.prog T) (x : List UInt8) {D : NP} (hB : (MO.bld 5 T b l).inv C1 D w) (hlen : l.length + x.length ≤ 140737488355328) :
  Calls Tryz.prog 66 #[.pointer (some ⟨b, 0, none⟩), str x] w fun e w' => e = .returned (.tuple #[.int .i64 x.length, .nilIface]) ∧ ∃ C1', Stp C1 w C1' w' ∧ ∀ D, (MO.bld 5 T b (l ++ x)).inv C1' D w' := by
 obtain ⟨hm, hlt, p, v, hp, hbk, hown, hne, hv⟩ := hB
 obtain ⟨i0, hi, hz0, hz1, hz2⟩ := info_parts bld_byte
 have e42 : ∀ args w, (callFunc 119 args).run Tryz.prog w = .ok (.enter 119 args) w := enters_of Tryz.func119 (by kernel_rfl) rfl
 have hsz : (⟨x.toArray⟩ : ByteArray).size = x.length := by simp [ByteArray.size]
 go_enter Tryz.func66, Tryz.ntmps66
 go_wp2_with (go_at_fn 119; refine (bld_check hT hp hbk).mono ?_)
 rintro e w1 ⟨rfl, hU, hb1⟩
 have hown1 : w1.ownsRow 0 5 1 v l.length (byteCells l) := hown.kept (row := some b) ⟨hU.os, hU.tape, hU.output, hU.size, fun k hk hn => hU.block k hk (by simpa using fun e => hn (by rw [e]))⟩ (.inr hne)
 have c1 : w1.cell? ⟨b, 1, none⟩ = some v := by rw [hb1.cell]; rfl
 go_wp2_with (at_builtin; refine wpList_append_string_at rfl _ _ 78 9 rfl 5 i0 Tryz.underlying78 Tryz.underlying9 hi hz0 hz1 hz2 _ _ _ rfl hown1 ⟨x.toArray⟩ rfl (by rw [hsz]; exact hlen) ?_)
 intro v' w2 hown' hg1 hat
 have hb2 : Blk w2 b T #[.pointer (some ⟨b, 0, none⟩), v] := hb1.grown hg1 hne
 have d0 : w2.cell? ⟨b, 0, none⟩ = some (.pointer (some ⟨b, 0, none⟩)) := by rw [hb2.cell]; rfl
 have d1 : w2.cell? ⟨b, 1, none⟩ = some v := by rw [hb2.cell]; rfl
 have f1 : w2.frozen? ⟨b, 1, none⟩ = false := hb2.frozen 1
 obtain ⟨ao, n', cap, rfl⟩ : ∃ ao n' cap, v' = .slice ao n' cap := by
  rcases hown'.2 with ⟨hv, _⟩ | ⟨g, cap, cur, hv, _⟩
  ·exact ⟨_, _, _, hv⟩
  ·exact ⟨_, _, _, hv⟩
 go_wp2
 go_ret2
 refine ⟨by simp, bld_done hT.ne hm hU hv hg1 (l' := l ++ x) (by rw [List.length_append, byteCells, Lib.byteCells_append]; exact hown') hat hb2 rfl⟩
set_option maxHeartbeats 1000000 in
set_option maxRecDepth 100000 in
theorem bld_row (hb : Blk w b T #[.pointer p, v]) (hown : w.ownsRow 0 5 1 v l.length (byteCells l)) (h0 : l ≠ []) :
  Calls Tryz.prog 47 #[.pointer (some ⟨b, 0, none⟩)] w fun e w' => e = .returned (str l) ∧ ∃ bs, Upd bs w w' ∧ ∀ k ∈ bs, v.ownBlock = some k := by
 have hl0 : l.length ≠ 0 := by simpa using h0
 obtain ⟨g, cap, cur, rfl, hbg, hg, hnc, hcm, hcs, htake⟩ : ∃ g cap cur, v = .slice (some ⟨g, 0, none⟩) l.length cap ∧ 0 ≤ g ∧ w.heap[g]? = some (.cells cur 5 (0, 0)) ∧ l.length ≤ cap ∧ cap ≤ maxLen ∧ cur.size = cap * 1 ∧ cur.toList.take (l.length * 1) = Lib.byteCells l := by
  rcases hown.2 with ⟨_, hz⟩ | ⟨g, cap, cur, hv, r⟩
  ·exact absurd hz hl0
  ·exact ⟨g, cap, cur, hv, r⟩
 have c1 : w.drew.cell? ⟨b, 1, none⟩ = some (.slice (some ⟨g, 0, none⟩) l.length cap) := by
  have : w.cell? ⟨b, 1, none⟩ = some (.slice (some ⟨g, 0, none⟩) l.length cap) := by rw [hb.cell]; rfl
  exact this
 have hSD : (Builtin.unsafeSliceData_ #[78] 129 #[.slice (some ⟨g, 0, none⟩) l.length cap]).run Tryz.prog w.drew = .ok (.pointer (some ⟨g, 0, none⟩)) w.drew :=
  Lib.run_unsafeSliceData_row _ _ _ _ _ _ (by omega)
 have hUS : (Builtin.unsafeString_ #[129, 3] 9 #[.pointer (some ⟨g, 0, none⟩), .int .i64 l.length]).run Tryz.prog w.drew = .ok (.string ⟨l.toArray⟩) (w.drew.freeze ⟨g, 0, none⟩ l.length) := by
  refine Lib.run_unsafeString_row w.drew 129 3 9 5 Tryz.underlying129 Tryz.Builder_Extra_169.cellsByte g cur.size (by have hg' : w.drew.heap[g]? = some (.cells cur 5 (0, 0)) := hg; simp [World.shape?, hg']) l h0 (by omega) (by unfold maxLen at hcm; omega) ?_
  intro j x hx
  have := hown.cells (g := g) rfl j (.int .u8 x.toNat) (by simp [byteCells, Lib.byteCells, hx])
  exact this
 have mixed : Tryz.prog.follows .mixedOrders = true := by kernel_rfl
 go_enter Tryz.func47, Tryz.ntmps47
 go_wp2
 go_region_o
 all_goals (go_wp2; go_ret; exact ⟨rfl, [g], upd_drew.trans (upd_freeze (p := ⟨g, 0, none⟩) _), fun k hk => by simp at hk; subst hk; rfl⟩)
set_option maxHeartbeats 1000000 in
set_option maxRecDepth 100000 in
theorem bld_nil (hb : Blk w b T #[.pointer p, .slice none 0 0]) :
  Calls Tryz.prog 47 #[.pointer (some ⟨b, 0, none⟩)] w fun e w' => e = .returned (str []) ∧ Upd [] w w' := by
 have hUS : ∀ (W : World) (q : Option Addr), (Builtin.unsafeString_ #[129, 3] 9 #[.pointer q, .int .i64 0]).run Tryz.prog W = .ok (.string .empty) W := fun W q => Lib.run_unsafeString_none W _ _ _ q
 have c1 : w.drew.cell? ⟨b, 1, none⟩ = some (.slice none 0 0) := by
  have : w.cell? ⟨b, 1, none⟩ = some (.slice none 0 0) := by rw [hb.cell]; rfl
  exact this
 have hSD : (Builtin.unsafeSliceData_ #[78] 129 #[.slice none 0 0]).run Tryz.prog w.drew = .ok (.pointer none) w.drew := rfl
 have mixed : Tryz.prog.follows .mixedOrders = true := by kernel_rfl
 go_enter Tryz.func47, Tryz.ntmps47
 go_wp2
 go_region_o
 all_goals (go_wp2; go_ret; exact ⟨rfl, upd_drew⟩)
set_option maxHeartbeats 1000000 in
set_option maxRecDepth 100000 in
theorem bld_noroom {g : Nat} {cur : Array Value} (hb : Blk w b T #[.pointer p, .slice (some ⟨g, 0, none⟩) 0 0]) (hg : w.heap[g]? = some (.cells cur 5 (0, 0))) :
  Calls Tryz.prog 47 #[.pointer (some ⟨b, 0, none⟩)] w fun e w' => e = .returned (str []) ∧ Upd [] w w' := by
 have hUS : ∀ (W : World) (q : Option Addr), (Builtin.unsafeString_ #[129, 3] 9 #[.pointer q, .int .i64 0]).run Tryz.prog W = .ok (.string .empty) W := fun W q => Lib.run_unsafeString_none W _ _ _ q
 have hlt : b < w.heap.size := hb.lt
 have c0 : w.cell? ⟨b, 1, none⟩ = some (.slice (some ⟨g, 0, none⟩) 0 0) := by rw [hb.cell]; rfl
 have c1 : w.drew.cell? ⟨b, 1, none⟩ = some (.slice (some ⟨g, 0, none⟩) 0 0) := c0
 have hSD : (Builtin.unsafeSliceData_ #[78] 129 #[.slice (some ⟨g, 0, none⟩) 0 0]).run Tryz.prog w.drew = .ok (.pointer (some ⟨w.drew.heap.size, 0, none⟩)) (w.drew.alloc (.view ⟨g, 0, none⟩ 5)) :=
  Lib.run_unsafeSliceData_zero w.drew _ _ 5 Tryz.underlying129 ⟨g, 0, none⟩ 0 (5, cur.size) (by have hg' : w.drew.heap[g]? = some (.cells cur 5 (0, 0)) := hg; simp [World.shape?, hg'])
 have c2 : (w.drew.alloc (.view ⟨g, 0, none⟩ 5)).cell? ⟨b, 1, none⟩ = some (.slice (some ⟨g, 0, none⟩) 0 0) := by
  have hb' : w.drew.heap[b]? = _ := hb
  have : (w.drew.alloc (.view ⟨g, 0, none⟩ 5)).heap[b]? = _ := (Lib.alloc_old w.drew _ b hlt).trans hb'
  rw [Lib.cell_of_heap this]; rfl
 have c3 : (w.alloc (.view ⟨g, 0, none⟩ 5)).drew.cell? ⟨b, 1, none⟩ = some (.slice (some ⟨g, 0, none⟩) 0 0) := c2
 have mixed : Tryz.prog.follows .mixedOrders = true := by kernel_rfl
 go_enter Tryz.func47, Tryz.ntmps47
 go_wp2
 go_region_o
 all_goals (go_wp2; go_ret; exact ⟨rfl, upd_drew.trans (upd_alloc _)⟩)
set_option maxHeartbeats 1000000 in
set_option maxRecDepth 100000 in
theorem bld_room {g cap : Nat} (hb : Blk w b T #[.pointer p, .slice (some ⟨g, 0, none⟩) 0 cap]) (hc0 : cap ≠ 0) :
  Calls Tryz.prog 47 #[.pointer (some ⟨b, 0, none⟩)] w fun e w' => e = .returned (str []) ∧ Upd [] w w' := by
 have hUS : ∀ (W : World) (q : Option Addr), (Builtin.unsafeString_ #[129, 3] 9 #[.pointer q, .int .i64 0]).run Tryz.prog W = .ok (.string .empty) W := fun W q => Lib.run_unsafeString_none W _ _ _ q
 have c1 : w.drew.cell? ⟨b, 1, none⟩ = some (.slice (some ⟨g, 0, none⟩) 0 cap) := by
  have : w.cell? ⟨b, 1, none⟩ = some (.slice (some ⟨g, 0, none⟩) 0 cap) := by rw [hb.cell]; rfl
  exact this
 have hSD : (Builtin.unsafeSliceData_ #[78] 129 #[.slice (some ⟨g, 0, none⟩) 0 cap]).run Tryz.prog w.drew = .ok (.pointer (some ⟨g, 0, none⟩)) w.drew :=
  Lib.run_unsafeSliceData_row _ _ _ _ _ _ hc0
 clear hc0
 have mixed : Tryz.prog.follows .mixedOrders = true := by kernel_rfl
 go_enter Tryz.func47, Tryz.ntmps47
 go_wp2
 go_region_o
 all_goals (go_wp2; go_ret; exact ⟨rfl, upd_drew⟩)
theorem bld_string (hb : Blk w b T #[.pointer p, v]) (hown : w.ownsRow 0 5 1 v l.length (byteCells l)) :
  Calls Tryz.prog 47 #[.pointer (some ⟨b, 0, none⟩)] w fun e w' => e = .returned (str l) ∧ ∃ bs, Upd bs w w' ∧ ∀ k ∈ bs, v.ownBlock = some k := by
 cases l with
 | cons x l => exact bld_row hb hown (by simp)
 | nil =>
  have key : Calls Tryz.prog 47 #[.pointer (some ⟨b, 0, none⟩)] w fun e w' => e = .returned (str []) ∧ Upd [] w w' := by
   rcases hown.2 with ⟨rfl, _⟩ | ⟨g, cap, cur, rfl, _, hg, _⟩
   ·exact bld_nil hb
   ·by_cases hc : cap = 0
    ·subst hc; exact bld_noroom hb hg
    ·exact bld_room hb hc
  exact key.mono fun e w' ⟨h1, h2⟩ => ⟨h1, [], h2, fun k hk => by cases hk⟩
set_option maxHeartbeats 1000000 in
set_option maxRecDepth 100000 in
theorem bld_len (hb : Blk w b T #[.pointer p, v]) (hown : w.ownsRow 0 5 1 v l.length (byteCells l)) :
  Calls Tryz.prog 78 #[.pointer (some ⟨b, 0, none⟩)] w fun e w' => e = .returned (.int .i64 l.length) ∧ w' = w := by
 have c1 : w.cell? ⟨b, 1, none⟩ = some v := by rw [hb.cell]; rfl
 obtain ⟨ao, cap, rfl⟩ : ∃ ao cap, v = .slice ao l.length cap := by
  rcases hown.2 with ⟨hv, h0⟩ | ⟨g, cap, cur, hv, _⟩
  ·exact ⟨none, 0, by rw [hv, h0]⟩
  ·exact ⟨_, _, hv⟩
 go_enter Tryz.func78, Tryz.ntmps78
 go_wp2
 go_ret
 exact ⟨rfl, rfl⟩
end
section
variable {C0 F C : NP} {w0 w : World} {os os' : List MO} {cl : List Cl} {f : MO → List MO} {b : Nat} {T : TypeId} {l : List UInt8}
theorem c_bldWrite (hT : BldT Tryz.prog T) (C0 F : NP) (w0 : World) (b : Nat) (l y zs : List UInt8) (hI : Bun C0 F w0 C0 w0 [MO.bld 5 T b l] []) (hz : lapp l y = some zs) :
  Calls Tryz.prog 66 #[.pointer (some ⟨b, 0, none⟩), str y] w0 fun e w => ∃ C, e = .returned (.tuple #[.int .i64 y.length, .nilIface]) ∧ Bun C0 F w0 C w [MO.bld 5 T b zs] [] := by
 obtain ⟨hlen, hz⟩ := chk_some hz
 obtain rfl := some_inj hz
 obtain ⟨C1, h1, h2, h3⟩ := hI.turn .z
 refine (bld_write hT y h1 (by unfold LIM at hlen; omega)).mono ?_
 rintro e w' ⟨rfl, C1', hs, hm⟩
 obtain ⟨C', _, h5⟩ := h3 w' C1' hs
 exact ⟨C', rfl, h5 _ (hm _)⟩
theorem c_bldLen (hI : Bun C0 F w0 C w os cl) (ha : At os (MO.bld 5 T b l) f) : Calls Tryz.prog 78 #[.pointer (some ⟨b, 0, none⟩)] w fun e w' => e = .returned (.int .i64 l.length) ∧ w = w' := by
 obtain ⟨C1, ⟨_, _, p, v, _, hb, ho, _, _⟩, _⟩ := hI.look ha
 exact (bld_len hb ho).mono fun _ _ h => ⟨h.1, h.2.symm⟩
theorem c_bldString (hT : BldT Tryz.prog T) (hI : Bun C0 F w0 C w os cl) (hr : Rm os (MO.bld 5 T b l) os') :
  Calls Tryz.prog 47 #[.pointer (some ⟨b, 0, none⟩)] w fun e w' => e = .returned (str l) ∧ ∃ C', Sp (Dj F C) w (Dj F C') w' ∧ Bun C0 F w0 C' w' os' cl := by
 obtain ⟨C1, h1, h2, h3⟩ := hI.mo.rm hr
 obtain ⟨hm, hlt, p, v, hp, hb, ho, hn, hv⟩ := h1
 refine (bld_string hb ho).mono ?_
 rintro e w' ⟨rfl, bs, hU, hbs⟩
 exact ⟨rfl, hI.endBld h2 h3 hU fun k hk => hv k (hbs k hk)⟩
end
end Go.Proofs.YtebpdmfmknfkjaaGreatDoor
