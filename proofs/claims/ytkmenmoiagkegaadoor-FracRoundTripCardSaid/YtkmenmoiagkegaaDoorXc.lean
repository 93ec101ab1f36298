/- What is taken from the shelf does what its plain function says. -/
import Derived.Test.YtkmenmoiagkegaaDoorMd
import Derived.Test.YtkmenmoiagkegaaDoorShelf
namespace Go.Proofs.YtkmenmoiagkegaaDoor
open Go Go.RowKit Go.Vc
set_option linter.unusedVariables false

theorem c_strconv_ParseInt (F : NP) (w0 : World) (_ : ∀ k, F k → k < w0.heap.size) (s : List UInt8) (b bits : Int) (hc : AllCl [] F w0) (r : Int × Unit) (h : m_strconv_ParseInt s b bits = some r) :
    Calls Tryd.prog 77 #[(str s), (Value.int .i64 b), (Value.int .i64 bits)] w0 fun e w => ∃ (v1 : Value), e = .returned (Value.tuple #[(Value.int .i64 r.1), v1]) ∧ Ext w0 w ∧ AllCl [] F w := by
  unfold m_strconv_ParseInt at h
  obtain ⟨⟨rfl, rfl, h0⟩, hz⟩ := chk_some h
  split at hz
  · rename_i v hv
    obtain rfl := some_inj hz
    refine (Tryd.strconv_ParseInt_10_at64_ok ⟨s.toArray⟩ (by show s.toArray.size ≤ _; simp; omega) v hv w0).mono fun e w ⟨h2, h3⟩ => ⟨_, h2, ?_, trivial⟩
    rcases h3 with rfl | ⟨t, rfl⟩
    · exact .rfl'
    · exact Lib.bytesWorld_below _ _ _
  · cases hz

theorem c_internal_strconv_FormatInt (F : NP) (w0 : World) (_ : ∀ k, F k → k < w0.heap.size) (n b : Int) (hc : AllCl [clPow10] F w0) (r : List UInt8) (h : m_internal_strconv_FormatInt n b = some r) :
    Calls Tryd.prog 78 #[(Value.int .i64 n), (Value.int .i64 b)] w0 fun e w => e = .returned (str r) ∧ Ext w0 w ∧ AllCl [] F w := by
  unfold m_internal_strconv_FormatInt at h
  obtain ⟨⟨rfl, h0, h1⟩, hz⟩ := chk_some h
  obtain rfl := some_inj hz
  exact (Tryd.internal_strconv_FormatInt_10 n h0 h1 w0 hc.1.1).mono fun e w ⟨h2, k, os, h3⟩ => ⟨h2, h3 ▸ Ext.grown, trivial⟩

theorem c_internal_stringslite_Index (F : NP) (w0 : World) (_ : ∀ k, F k → k < w0.heap.size) (s p : List UInt8) (hc : AllCl [] F w0) (r : Int) (h : m_internal_stringslite_Index s p = some r) :
    Calls Tryd.prog 83 #[(str s), (str p)] w0 fun e w => e = .returned (Value.int .i64 r) ∧ Ext w0 w ∧ AllCl [] F w := by
  unfold m_internal_stringslite_Index at h
  split at h
  · obtain rfl := some_inj h
    exact (Tryd.stringslite_Index_one ⟨s.toArray⟩ _ w0).mono fun e w ⟨h2, h3⟩ => ⟨h2, h3 ▸ .rfl', trivial⟩
  · cases h

end Go.Proofs.YtkmenmoiagkegaaDoor
