import Derived.Test.YtmhoikfoogemnaaGreatDoorKMd
import Derived.Test.YtmhoikfoogemnaaGreatDoorKShelf
import Derived.Test.YtmhoikfoogemnaaGreatDoorKCg
namespace Go.Proofs.YtmhoikfoogemnaaGreatDoor
open Go Go.RowKit Go.Vc
set_option linter.unusedVariables false
theorem tR (F:NP) (w0:World) (hF:∀ k,F k→k<w0.heap.size) (s:List UInt8) (hc:AllCl [av] F w0) (r:List (List UInt8)) (h:nL s=some r):
  Calls Tryz.prog 247 #[(aE s)] w0 fun e w=>∃ (A1:Option Addr) (c1:Nat),e= .returned (Value.slice A1 r.length c1)∧Ext w0 w∧AllCl [Cl.sl dF A1 c1 r] F w:=by
 unfold nL at h
 obtain⟨⟨h0,h1⟩,hz⟩:=eF h
 obtain rfl:=aj hz
 refine(Tryz.strings_Fields ⟨s.toArray⟩ w0 (by show s.toArray.size< _;simpa using h1) (fun j b hb=>h0 b (List.mem_of_getElem? (by simpa using hb))) hc.1.1).mono ?_
 rintro e w ⟨rfl,rfl⟩
 refine⟨_,_,rfl,Ext.alloc _,⟨Nat.le_refl _,fun _=>⟨_,rfl,?_,fun k=>absurd (hF _ k) (Nat.lt_irrefl _),(Lib.fields s).map fun l=>[aE l],?_,?_⟩⟩,trivial⟩
 ·show w0.heap.size<(w0.heap.push _).size
  rw[Array.size_push];exact Nat.lt_succ_self _
 ·exact zN (c:=dF) (enc:=aE) (fun _ _ _=>rfl) _
 ·rw[Al];exact CellsAt.of_blk Blk.new (by simp only[List.drop_zero,List.toList_toArray];exact List.take_of_length_le (by simp))
theorem sv (F:NP) (w0:World) (_:∀ k,F k→k<w0.heap.size) (s:List UInt8) (b bits:Int) (hc:AllCl [] F w0) (r:Int×Unit) (h:kM s b bits=some r):
  Calls Tryz.prog 270 #[(aE s),(Value.int .i64 b),(Value.int .i64 bits)] w0 fun e w=>∃ (v1:Value),e= .returned (Value.tuple #[(Value.int .i64 r.1),v1])∧Ext w0 w∧AllCl [] F w:=by
 unfold kM at h
 obtain⟨⟨rfl,rfl,h0⟩,hz⟩:=eF h
 split at hz
 ·rename_i v hv
  obtain rfl:=aj hz
  refine(Tryz.strconv_ParseInt_10_at64_ok ⟨s.toArray⟩ (by show s.toArray.size≤ _;simp;omega) v hv w0).mono fun e w ⟨h2,h3⟩=>⟨_,h2,?_,trivial⟩
  rcases h3 with rfl | ⟨t,rfl⟩
  ·exact .rfl'
  ·exact Lib.bytesWorld_below _ _ _
 ·cases hz
theorem ov (F:NP) (w0:World) (_:∀ k,F k→k<w0.heap.size) (s p:List UInt8) (hc:AllCl [] F w0) (r:Int) (h:fP s p=some r):
  Calls Tryz.prog 271 #[(aE s),(aE p)] w0 fun e w=>e= .returned (Value.int .i64 r)∧Ext w0 w∧AllCl [] F w:=by
 unfold fP at h
 split at h
 ·obtain rfl:=aj h
  exact(Tryz.stringslite_Index_one ⟨s.toArray⟩ _ w0).mono fun e w ⟨h2,h3⟩=>⟨h2,h3▸ .rfl',trivial⟩
 ·cases h
end Go.Proofs.YtmhoikfoogemnaaGreatDoor
