import Derived.Test.YtebpdmfmknfkjaaGreatDoorSMd
import Derived.Test.YtebpdmfmknfkjaaGreatDoorSShelf
import Derived.Test.YtebpdmfmknfkjaaGreatDoorSBd
namespace Go.Proofs.YtebpdmfmknfkjaaGreatDoor
open Go Go.RowKit Go.Vc
set_option linter.unusedVariables false
theorem c_internal_strconv_FormatInt (F : NP) (w0 : World) (_ : ∀ k, F k → k < w0.heap.size) (n b : Int) (hc : AllCl [clPow10] F w0) (r : List UInt8) (h : m_internal_strconv_FormatInt n b = some r) :
  Calls Tryz.prog 120 #[(Value.int .i64 n), (Value.int .i64 b)] w0 fun e w => e = .returned (str r) ∧ Ext w0 w ∧ AllCl [] F w := by
 unfold m_internal_strconv_FormatInt at h
 obtain ⟨⟨rfl, h0, h1⟩, hz⟩ := chk_some h
 obtain rfl := some_inj hz
 exact (Tryz.internal_strconv_FormatInt_10 n h0 h1 w0 hc.1.1).mono fun e w ⟨h2, k, os, h3⟩ => ⟨h2, h3 ▸ Ext.grown, trivial⟩
section
open Go.Shelf Go.Sort Go.Lib
theorem fu_zero (w : World) (T : TypeId) (nd : Nat) (hs : nd ≤ 24) : Holds (fun (b : UInt8) => Value.int .u8 (b.toNat : Int)) (w.alloc (.cells Lib.zeros24 T)) w.heap.size 0 (Array.replicate nd (0 : UInt8)) := fun j hj => by
 have hj' : j < nd := by simpa using hj
 refine ⟨?_, World.frozen?_alloc_new _ _ _ _⟩
 rw [World.cell?_alloc_new, Lib.zeros24_at _ (by omega), getElem!_pos _ j hj]
 simp
theorem fu_fin (w : World) (o : Obj) (dk : Array UInt8) (k : Nat) : ∃ os, (putRow (fun (b : UInt8) => Value.int .u8 (b.toNat : Int)) (w.alloc o) w.heap.size 0 dk).drewN k = grow (w.drewN k) os := by
 rw [alloc_eq_grow]
 obtain ⟨os', _, e⟩ := putRow_grow_new (fun (b : UInt8) => Value.int .u8 (b.toNat : Int)) w #[o] w.heap.size 0 dk (Nat.le_refl _)
 exact ⟨os', by rw [e]; rfl⟩
set_option maxHeartbeats 6400000 in
set_option maxRecDepth 100000 in
theorem fu_FormatUint_10 (u : Nat) (hu64 : u < 18446744073709551616) (w : World)
  (htab : Lib.TabIs Tryz.prog w "internal/strconv.uint64pow10" .u64 Lib.pow10Tab) :
  Calls Tryz.prog 122 #[.int .u64 u, .int .i64 10] w fun e w' => e = .returned (.string ⟨(Lib.decDigits u).toArray⟩) ∧ ∃ k os, w' = grow (w.drewN k) os := by
 have e_small : ∀ args w, (callFunc 145 args).run Tryz.prog w = .ok (.enter 145 args) w := enters_of Tryz.func145 (by kernel_rfl) rfl
 have e_nd : ∀ args w, (callFunc 146 args).run Tryz.prog w = .ok (.enter 146 args) w := enters_of Tryz.func146 (by kernel_rfl) rfl
 have e_fb : ∀ args w, (callFunc 147 args).run Tryz.prog w = .ok (.enter 147 args) w := enters_of Tryz.func147 (by kernel_rfl) rfl
 by_cases hs : u < 100
 ·go_enter Tryz.func122, Tryz.ntmps122
  go_wp2_with (go_at_fn 145; refine (Tryz.internal_strconv_small u hs _).mono ?_; rintro e w' ⟨rfl, rfl⟩)
  go_ret
  exact ⟨rfl, 0, #[], by simp [World.drewN_zero]⟩
 ·have hu1 : 1 ≤ u := by omega
  have hnd20 : Lib.nDigits u ≤ 20 := by have := Lib.numDigits_eq u hu1 hu64; split at this <;> omega
  have hal : Tryz.prog.arrayLen 146 = 24 := by simp [Program.arrayLen, Tryz.underlying146]
  have hsl1 : ∀ W, (Instr.sliceAt 146 (.pointer (some ⟨w.heap.size, 0, none⟩)) none (some (.int .i64 ((Lib.nDigits u : Int)))) none).run Tryz.prog W = .ok (.slice (some ⟨w.heap.size, 0, none⟩) (Lib.nDigits u) 24) W := fun W => by
   rw [run_sliceAt_array_h W 146 ⟨w.heap.size, 0, none⟩ (by simp [Program.arrayLen, Program.elem, Tryz.underlying146]) .i64 (Lib.nDigits u : Int) (by omega) (by rw [hal]; omega)]
   go_simp
  have hH0 := fu_zero w 146 (Lib.nDigits u) (by omega)
  have hfmt := Tryz.internal_strconv_formatBase10 w.heap.size 0 24 u (Array.replicate (Lib.nDigits u) 0) (w.alloc (.cells Lib.zeros24 146)) hH0 (by rw [Array.size_replicate]; exact Lib.lt_pow_nDigits u) hu64 (by rw [Array.size_replicate]; omega)
  rw [Array.size_replicate] at hfmt
  have HH0 := Lib.hid hH0
  clear hH0 hal
  go_enter Tryz.func122, Tryz.ntmps122
  go_wp2_with (first
   | (go_at_fn 146; refine (Tryz.internal_strconv_numDigits u hu1 hu64 _ (Lib.tabIs_alloc htab _)).mono ?_; rintro e w' ⟨rfl, rfl⟩))
  go_at_fn 147
  refine hfmt.mono ?_
  rintro e w' ⟨rfl, k, v', dk, rfl, hF⟩
  have hcv : (convert 78 9 (.slice (some ⟨w.heap.size, 0, none⟩) (Lib.nDigits u) 24)).run Tryz.prog ((putRow (fun (b : UInt8) => Value.int .u8 (b.toNat : Int)) (w.alloc (.cells Lib.zeros24 146)) w.heap.size 0 dk).drewN k) = .ok (.string ⟨(Lib.decDigits u).toArray⟩) ((putRow (fun (b : UInt8) => Value.int .u8 (b.toNat : Int)) (w.alloc (.cells Lib.zeros24 146)) w.heap.size 0 dk).drewN k) := by
   have h := run_convert_bytes_back (P := Tryz.prog) ((putRow (fun (b : UInt8) => Value.int .u8 (b.toNat : Int)) (w.alloc (.cells Lib.zeros24 146)) w.heap.size 0 dk).drewN k) 78 9 5 ⟨w.heap.size, 0, none⟩ 24 (Lib.decDigits u) Tryz.underlying78 Tryz.underlying5 Tryz.underlying9 (fun j hj => by
    rw [Lib.row_is_numeral hF j hj, Lib.add_plain, World.cell?_drewN]
    exact cell?_putRow (fun (b : UInt8) => Value.int .u8 (b.toNat : Int)) _ w.heap.size 0 _ dk HH0.out (by rw [hF.size, Array.size_replicate]) j (by rw [hF.size]; rw [Lib.decDigits_length] at hj; exact hj))
   rw [Lib.decDigits_length] at h
   exact h
  go_wp2
  go_ret
  obtain ⟨os, eo⟩ := fu_fin w (.cells Lib.zeros24 146) dk k
  exact ⟨rfl, k, os, eo⟩
end
theorem c_internal_strconv_FormatUint (F : NP) (w0 : World) (_ : ∀ k, F k → k < w0.heap.size) (n b : Int) (hc : AllCl [clPow10] F w0) (r : List UInt8) (h : m_internal_strconv_FormatUint n b = some r) :
  Calls Tryz.prog 122 #[(Value.int .u64 n), (Value.int .i64 b)] w0 fun e w => e = .returned (str r) ∧ Ext w0 w ∧ AllCl [] F w := by
 unfold m_internal_strconv_FormatUint at h
 obtain ⟨⟨rfl, h0, h1⟩, hz⟩ := chk_some h
 obtain rfl := some_inj hz
 obtain ⟨u, rfl⟩ : ∃ u : Nat, n = u := ⟨n.toNat, by omega⟩
 rw [Lib.itoa_nonneg]
 exact (fu_FormatUint_10 u (by omega) w0 hc.1.1).mono fun e w ⟨h2, k, os, h3⟩ => ⟨h2, h3 ▸ Ext.grown, trivial⟩
theorem c_strings_Fields (F : NP) (w0 : World) (hF : ∀ k, F k → k < w0.heap.size) (s : List UInt8) (hc : AllCl [clSpace] F w0) (r : List (List UInt8)) (h : m_strings_Fields s = some r) :
  Calls Tryz.prog 150 #[(str s)] w0 fun e w => ∃ (A1 : Option Addr) (c1 : Nat), e = .returned (Value.slice A1 r.length c1) ∧ Ext w0 w ∧ AllCl [Cl.sl cStr A1 c1 r] F w := by
 unfold m_strings_Fields at h
 obtain ⟨⟨h0, h1⟩, hz⟩ := chk_some h
 obtain rfl := some_inj hz
 refine (Tryz.strings_Fields ⟨s.toArray⟩ w0 (by show s.toArray.size < _; simpa using h1) (fun j b hb => h0 b (List.mem_of_getElem? (by simpa using hb))) hc.1.1).mono ?_
 rintro e w ⟨rfl, rfl⟩
 refine ⟨_, _, rfl, Ext.alloc _, ⟨Nat.le_refl _, fun _ => ⟨_, rfl, ?_, fun k => absurd (hF _ k) (Nat.lt_irrefl _), (Lib.fields s).map fun l => [str l], ?_, ?_⟩⟩, trivial⟩
 ·show w0.heap.size < (w0.heap.push _).size
  rw [Array.size_push]; exact Nat.lt_succ_self _
 ·exact rels_one (c := cStr) (enc := str) (fun _ _ _ => rfl) _
 ·rw [flat_one]; exact CellsAt.of_blk Blk.new (by simp only [List.drop_zero, List.toList_toArray]; exact List.take_of_length_le (by simp))
end Go.Proofs.YtebpdmfmknfkjaaGreatDoor
