import Derived.Test.YtnehbaocbcegpaaDoorSMd
import Derived.Test.YtnehbaocbcegpaaDoorShelf
namespace Go.Proofs.YtnehbaocbcegpaaDoor
open Go Go.RowKit Go.Vc
set_option linter.unusedVariables false
theorem c_strings_Fields (F : NP) (w0 : World) (hF : ∀ k, F k → k < w0.heap.size) (s : List UInt8) (hc : AllCl [clSpace] F w0) (r : List (List UInt8)) (h : m_strings_Fields s = some r) :
  Calls Tryd.prog 54 #[(str s)] w0 fun e w => ∃ (A1 : Option Addr) (c1 : Nat), e = .returned (Value.slice A1 r.length c1) ∧ Ext w0 w ∧ AllCl [Cl.sl cStr A1 c1 r] F w := by
 unfold m_strings_Fields at h
 obtain ⟨⟨h0, h1⟩, hz⟩ := chk_some h
 obtain rfl := some_inj hz
 refine (Tryd.strings_Fields ⟨s.toArray⟩ w0 (by show s.toArray.size < _; simpa using h1) (fun j b hb => h0 b (List.mem_of_getElem? (by simpa using hb))) hc.1.1).mono ?_
 rintro e w ⟨rfl, rfl⟩
 refine ⟨_, _, rfl, Ext.alloc _, ⟨Nat.le_refl _, fun _ => ⟨_, rfl, ?_, fun k => absurd (hF _ k) (Nat.lt_irrefl _), (Lib.fields s).map fun l => [str l], ?_, ?_⟩⟩, trivial⟩
 ·show w0.heap.size < (w0.heap.push _).size
  rw [Array.size_push]; exact Nat.lt_succ_self _
 ·exact rels_one (c := cStr) (enc := str) (fun _ _ _ => rfl) _
 ·rw [flat_one]; exact CellsAt.of_blk Blk.new (by simp only [List.drop_zero, List.toList_toArray]; exact List.take_of_length_le (by simp))
end Go.Proofs.YtnehbaocbcegpaaDoor
