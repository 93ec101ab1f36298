import Derived.Test.YtmhoikfoogemnaaGreatDoorJMd
import Derived.Test.YtmhoikfoogemnaaGreatDoorJShelf
import Derived.Test.YtmhoikfoogemnaaGreatDoorJCg
namespace Go.Proofs.YtmhoikfoogemnaaGreatDoor
open Go Go.RowKit Go.Vc
set_option linter.unusedVariables false
theorem tC (F:NP) (w0:World) (hF:∀ k,F k→k<w0.heap.size) (s:List UInt8) (hc:AllCl [au] F w0) (r:List (List UInt8)) (h:nr s=some r):
  Calls Tryz.prog 247 #[(str s)] w0 fun e w=>∃ (A1:Option Addr) (c1:Nat),e= .returned (Value.slice A1 r.length c1)∧Ext w0 w∧AllCl [Cl.sl cStr A1 c1 r] F w:=by
 unfold nr at h
 obtain⟨⟨h0,h1⟩,hz⟩:=eu h
 obtain rfl:=ai hz
 refine(Tryz.strings_Fields ⟨s.toArray⟩ w0 (by show s.toArray.size< _;simpa using h1) (fun j b hb=>h0 b (List.mem_of_getElem? (by simpa using hb))) hc.1.1).mono ?_
 rintro e w ⟨rfl,rfl⟩
 refine⟨_,_,rfl,Ext.alloc _,⟨Nat.le_refl _,fun _=>⟨_,rfl,?_,fun k=>absurd (hF _ k) (Nat.lt_irrefl _),(Lib.fields s).map fun l=>[str l],?_,?_⟩⟩,trivial⟩
 ·show w0.heap.size<(w0.heap.push _).size
  rw[Array.size_push];exact Nat.lt_succ_self _
 ·exact zj (c:=cStr) (enc:=str) (fun _ _ _=>rfl) _
 ·rw[zK];exact CellsAt.of_blk Blk.new (by simp only[List.drop_zero,List.toList_toArray];exact List.take_of_length_le (by simp))
theorem sc (F:NP) (w0:World) (_:∀ k,F k→k<w0.heap.size) (s:List UInt8) (b bits:Int) (hc:AllCl [] F w0) (r:Int×Unit) (h:kz s b bits=some r):
  Calls Tryz.prog 270 #[(str s),(Value.int .i64 b),(Value.int .i64 bits)] w0 fun e w=>∃ (v1:Value),e= .returned (Value.tuple #[(Value.int .i64 r.1),v1])∧Ext w0 w∧AllCl [] F w:=by
 unfold kz at h
 obtain⟨⟨rfl,rfl,h0⟩,hz⟩:=eu h
 split at hz
 ·rename_i v hv
  obtain rfl:=ai hz
  refine(Tryz.strconv_ParseInt_10_at64_ok ⟨s.toArray⟩ (by show s.toArray.size≤ _;simp;omega) v hv w0).mono fun e w ⟨h2,h3⟩=>⟨_,h2,?_,trivial⟩
  rcases h3 with rfl | ⟨t,rfl⟩
  ·exact .rfl'
  ·exact Lib.bytesWorld_below _ _ _
 ·cases hz
theorem oa (F:NP) (w0:World) (_:∀ k,F k→k<w0.heap.size) (s p:List UInt8) (hc:AllCl [] F w0) (r:Int) (h:fB s p=some r):
  Calls Tryz.prog 271 #[(str s),(str p)] w0 fun e w=>e= .returned (Value.int .i64 r)∧Ext w0 w∧AllCl [] F w:=by
 unfold fB at h
 split at h
 ·obtain rfl:=ai h
  exact(Tryz.stringslite_Index_one ⟨s.toArray⟩ _ w0).mono fun e w ⟨h2,h3⟩=>⟨h2,h3▸ .rfl',trivial⟩
 ·cases h
end Go.Proofs.YtmhoikfoogemnaaGreatDoor
