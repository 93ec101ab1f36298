import Derived.Test.YtlakfanockhngaaGreatDoorSMd
import Derived.Test.YtlakfanockhngaaGreatDoorShelf
namespace Go.Proofs.YtlakfanockhngaaGreatDoor
open Go Go.RowKit Go.Vc
set_option linter.unusedVariables false
theorem c_internal_strconv_FormatInt (F : NP) (w0 : World) (_ : ∀ k, F k → k < w0.heap.size) (n b : Int) (hc : AllCl [clPow10] F w0) (r : List UInt8) (h : m_internal_strconv_FormatInt n b = some r) :
  Calls Tryz.prog 152 #[(Value.int .i64 n), (Value.int .i64 b)] w0 fun e w => e = .returned (str r) ∧ Ext w0 w ∧ AllCl [] F w := by
 unfold m_internal_strconv_FormatInt at h
 obtain ⟨⟨rfl, h0, h1⟩, hz⟩ := chk_some h
 obtain rfl := some_inj hz
 exact (Tryz.internal_strconv_FormatInt_10 n h0 h1 w0 hc.1.1).mono fun e w ⟨h2, k, os, h3⟩ => ⟨h2, h3 ▸ Ext.grown, trivial⟩
end Go.Proofs.YtlakfanockhngaaGreatDoor
