import Derived.Test.YtmhoikfoogemnaaGreatDoorSMd
import Derived.Test.YtmhoikfoogemnaaGreatDoorSShelf
import Derived.Test.YtmhoikfoogemnaaGreatDoorSCg
namespace Go.Proofs.YtmhoikfoogemnaaGreatDoor
open Go Go.RowKit Go.Vc
set_option linter.unusedVariables false
theorem c_strings_Fields (F : NP) (w0 : World) (hF : ∀ k, F k → k < w0.heap.size) (s : List UInt8) (hc : AllCl [clSpace] F w0) (r : List (List UInt8)) (h : m_strings_Fields s = some r) :
  Calls Tryz.prog 247 #[(str s)] w0 fun e w => ∃ (A1 : Option Addr) (c1 : Nat), e = .returned (Value.slice A1 r.length c1) ∧ Ext w0 w ∧ AllCl [Cl.sl cStr A1 c1 r] F w := by
 unfold m_strings_Fields at h
 obtain ⟨⟨h0, h1⟩, hz⟩ := chk_some h
 obtain rfl := some_inj hz
 refine (Tryz.strings_Fields ⟨s.toArray⟩ w0 (by show s.toArray.size < _; simpa using h1) (fun j b hb => h0 b (List.mem_of_getElem? (by simpa using hb))) hc.1.1).mono ?_
 rintro e w ⟨rfl, rfl⟩
 refine ⟨_, _, rfl, Ext.alloc _, ⟨Nat.le_refl _, fun _ => ⟨_, rfl, ?_, fun k => absurd (hF _ k) (Nat.lt_irrefl _), (Lib.fields s).map fun l => [str l], ?_, ?_⟩⟩, trivial⟩
 ·show w0.heap.size < (w0.heap.push _).size
  rw [Array.size_push]; exact Nat.lt_succ_self _
 ·exact rels_one (c := cStr) (enc := str) (fun _ _ _ => rfl) _
 ·rw [flat_one]; exact CellsAt.of_blk Blk.new (by simp only [List.drop_zero, List.toList_toArray]; exact List.take_of_length_le (by simp))
theorem c_strconv_ParseInt (F : NP) (w0 : World) (_ : ∀ k, F k → k < w0.heap.size) (s : List UInt8) (b bits : Int) (hc : AllCl [] F w0) (r : Int × Unit) (h : m_strconv_ParseInt s b bits = some r) :
  Calls Tryz.prog 270 #[(str s), (Value.int .i64 b), (Value.int .i64 bits)] w0 fun e w => ∃ (v1 : Value), e = .returned (Value.tuple #[(Value.int .i64 r.1), v1]) ∧ Ext w0 w ∧ AllCl [] F w := by
 unfold m_strconv_ParseInt at h
 obtain ⟨⟨rfl, rfl, h0⟩, hz⟩ := chk_some h
 split at hz
 ·rename_i v hv
  obtain rfl := some_inj hz
  refine (Tryz.strconv_ParseInt_10_at64_ok ⟨s.toArray⟩ (by show s.toArray.size ≤ _; simp; omega) v hv w0).mono fun e w ⟨h2, h3⟩ => ⟨_, h2, ?_, trivial⟩
  rcases h3 with rfl | ⟨t, rfl⟩
  ·exact .rfl'
  ·exact Lib.bytesWorld_below _ _ _
 ·cases hz
theorem c_internal_stringslite_Index (F : NP) (w0 : World) (_ : ∀ k, F k → k < w0.heap.size) (s p : List UInt8) (hc : AllCl [] F w0) (r : Int) (h : m_internal_stringslite_Index s p = some r) :
  Calls Tryz.prog 271 #[(str s), (str p)] w0 fun e w => e = .returned (Value.int .i64 r) ∧ Ext w0 w ∧ AllCl [] F w := by
 unfold m_internal_stringslite_Index at h
 split at h
 ·obtain rfl := some_inj h
  exact (Tryz.stringslite_Index_one ⟨s.toArray⟩ _ w0).mono fun e w ⟨h2, h3⟩ => ⟨h2, h3 ▸ .rfl', trivial⟩
 ·cases h
end Go.Proofs.YtmhoikfoogemnaaGreatDoor
