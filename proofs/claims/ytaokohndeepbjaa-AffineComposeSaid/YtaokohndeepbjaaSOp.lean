import Derived.Test.YtaokohndeepbjaaSMd
namespace Go.Proofs.Ytaokohndeepbjaa
open Go Go.RowKit Go.Vc
set_option linter.unusedVariables false
set_option linter.unusedSimpArgs false
open Go.WideShapes
def okGMono (x : GMono) : Prop := okS x.Name ∧ (okI .i64) x.By
set_option maxRecDepth 100000 in
theorem opn_53 : Opn Try.prog 53 cGMono okGMono := fun enc w sp held fuel cs x h => by
 obtain ⟨xs, m, _, _, hl, hxs, hf⟩ := DataW.trod_struct Try.underlying53 h
 rw [show Try.prog.cellsOf 53 = 2 by kernel_rfl] at hl
 obtain ⟨c0, c1, rfl⟩ : ∃ c0 c1, cs = [c0, c1] := by (match cs, hl with | [c0, c1], _ => exact ⟨c0, c1, rfl⟩)
 have f0 := hf 0 _ rfl
 obtain ⟨x0, g0⟩ : ∃ x, xs[0]? = some x := ⟨xs[0]'(by rw [hxs]; decide), by simp [hxs]⟩
 rw [g0] at f0
 obtain ⟨v0, r0, k0⟩ := (Opn.str Try.underlying9) enc w sp held m _ _ f0
 replace r0 : cStr.rel noM w v0 (([c0, c1].drop 0).take (Try.prog.cellsOf 9)) := r0
 rw [show Try.prog.cellsOf 9 = 1 by kernel_rfl] at r0
 replace r0 : cStr.rel noM w v0 [c0] := r0
 have q0 : [c0] = [(str v0)] := r0
 have f1 := hf 1 _ rfl
 obtain ⟨x1, g1⟩ : ∃ x, xs[1]? = some x := ⟨xs[1]'(by rw [hxs]; decide), by simp [hxs]⟩
 rw [g1] at f1
 obtain ⟨v1, r1, k1⟩ := (Opn.int Try.underlying2) enc w sp held m _ _ f1
 replace r1 : (cInt .i64).rel noM w v1 (([c0, c1].drop 1).take (Try.prog.cellsOf 2)) := r1
 rw [show Try.prog.cellsOf 2 = 1 by kernel_rfl] at r1
 replace r1 : (cInt .i64).rel noM w v1 [c1] := r1
 have q1 : [c1] = [(Value.int .i64 v1)] := r1
 simp only [List.cons.injEq, and_true] at q0
 obtain rfl := q0
 simp only [List.cons.injEq, and_true] at q1
 obtain rfl := q1
 exact ⟨⟨v0, v1⟩, rfl, k0, k1⟩
def okGLin (x : GLin) : Prop := (okI .i64) x.K ∧ (okL okGMono) x.L
set_option maxRecDepth 100000 in
theorem opn_51 : Opn Try.prog 51 cGLin okGLin := fun enc w sp held fuel cs x h => by
 obtain ⟨xs, m, _, _, hl, hxs, hf⟩ := DataW.trod_struct Try.underlying51 h
 rw [show Try.prog.cellsOf 51 = 2 by kernel_rfl] at hl
 obtain ⟨c0, c1, rfl⟩ : ∃ c0 c1, cs = [c0, c1] := by (match cs, hl with | [c0, c1], _ => exact ⟨c0, c1, rfl⟩)
 have f0 := hf 0 _ rfl
 obtain ⟨x0, g0⟩ : ∃ x, xs[0]? = some x := ⟨xs[0]'(by rw [hxs]; decide), by simp [hxs]⟩
 rw [g0] at f0
 obtain ⟨v0, r0, k0⟩ := (Opn.int Try.underlying2) enc w sp held m _ _ f0
 replace r0 : (cInt .i64).rel noM w v0 (([c0, c1].drop 0).take (Try.prog.cellsOf 2)) := r0
 rw [show Try.prog.cellsOf 2 = 1 by kernel_rfl] at r0
 replace r0 : (cInt .i64).rel noM w v0 [c0] := r0
 have q0 : [c0] = [(Value.int .i64 v0)] := r0
 have f1 := hf 1 _ rfl
 obtain ⟨x1, g1⟩ : ∃ x, xs[1]? = some x := ⟨xs[1]'(by rw [hxs]; decide), by simp [hxs]⟩
 rw [g1] at f1
 obtain ⟨v1, r1, k1⟩ := (Opn.sl Try.underlying49 (by kernel_rfl) (by decide) opn_53) enc w sp held m _ _ f1
 replace r1 : (cSl cGMono).rel noM w v1 (([c0, c1].drop 1).take (Try.prog.cellsOf 49)) := r1
 rw [show Try.prog.cellsOf 49 = 1 by kernel_rfl] at r1
 replace r1 : (cSl cGMono).rel noM w v1 [c1] := r1
 obtain ⟨A_1_0, c_1_0, q1, hf1_0⟩ := r1
 simp only [List.cons.injEq, and_true] at q0
 obtain rfl := q0
 simp only [List.cons.injEq, and_true] at q1
 obtain rfl := q1
 exact ⟨⟨v0, v1⟩, ⟨A_1_0, c_1_0, rfl, hf1_0⟩, k0, k1⟩
end Go.Proofs.Ytaokohndeepbjaa
