import Derived.Test.YtnehbaocbcegpaaDoorSMd
namespace Go.Proofs.YtnehbaocbcegpaaDoor
open Go Go.RowKit Go.Vc
set_option linter.unusedVariables false
set_option linter.unusedSimpArgs false
open Go.WideShapes
def okGLifetime (x : GLifetime) : Prop := okS x.Name ∧ (okI .i64) x.From ∧ (okI .i64) x.To ∧ (okI .i64) x.Size
set_option maxRecDepth 100000 in
theorem opn_37 : Opn Tryd.prog 37 cGLifetime okGLifetime := fun enc w sp held fuel cs x h => by
 obtain ⟨xs, m, _, _, hl, hxs, hf⟩ := DataW.trod_struct Tryd.underlying37 h
 rw [show Tryd.prog.cellsOf 37 = 4 by kernel_rfl] at hl
 obtain ⟨c0, c1, c2, c3, rfl⟩ : ∃ c0 c1 c2 c3, cs = [c0, c1, c2, c3] := by (match cs, hl with | [c0, c1, c2, c3], _ => exact ⟨c0, c1, c2, c3, rfl⟩)
 have f0 := hf 0 _ rfl
 obtain ⟨x0, g0⟩ : ∃ x, xs[0]? = some x := ⟨xs[0]'(by rw [hxs]; decide), by simp [hxs]⟩
 rw [g0] at f0
 obtain ⟨v0, r0, k0⟩ := (Opn.str Tryd.underlying9) enc w sp held m _ _ f0
 replace r0 : cStr.rel noM w v0 (([c0, c1, c2, c3].drop 0).take (Tryd.prog.cellsOf 9)) := r0
 rw [show Tryd.prog.cellsOf 9 = 1 by kernel_rfl] at r0
 replace r0 : cStr.rel noM w v0 [c0] := r0
 have q0 : [c0] = [(str v0)] := r0
 have f1 := hf 1 _ rfl
 obtain ⟨x1, g1⟩ : ∃ x, xs[1]? = some x := ⟨xs[1]'(by rw [hxs]; decide), by simp [hxs]⟩
 rw [g1] at f1
 obtain ⟨v1, r1, k1⟩ := (Opn.int Tryd.underlying3) enc w sp held m _ _ f1
 replace r1 : (cInt .i64).rel noM w v1 (([c0, c1, c2, c3].drop 1).take (Tryd.prog.cellsOf 3)) := r1
 rw [show Tryd.prog.cellsOf 3 = 1 by kernel_rfl] at r1
 replace r1 : (cInt .i64).rel noM w v1 [c1] := r1
 have q1 : [c1] = [(Value.int .i64 v1)] := r1
 have f2 := hf 2 _ rfl
 obtain ⟨x2, g2⟩ : ∃ x, xs[2]? = some x := ⟨xs[2]'(by rw [hxs]; decide), by simp [hxs]⟩
 rw [g2] at f2
 obtain ⟨v2, r2, k2⟩ := (Opn.int Tryd.underlying3) enc w sp held m _ _ f2
 replace r2 : (cInt .i64).rel noM w v2 (([c0, c1, c2, c3].drop 2).take (Tryd.prog.cellsOf 3)) := r2
 rw [show Tryd.prog.cellsOf 3 = 1 by kernel_rfl] at r2
 replace r2 : (cInt .i64).rel noM w v2 [c2] := r2
 have q2 : [c2] = [(Value.int .i64 v2)] := r2
 have f3 := hf 3 _ rfl
 obtain ⟨x3, g3⟩ : ∃ x, xs[3]? = some x := ⟨xs[3]'(by rw [hxs]; decide), by simp [hxs]⟩
 rw [g3] at f3
 obtain ⟨v3, r3, k3⟩ := (Opn.int Tryd.underlying3) enc w sp held m _ _ f3
 replace r3 : (cInt .i64).rel noM w v3 (([c0, c1, c2, c3].drop 3).take (Tryd.prog.cellsOf 3)) := r3
 rw [show Tryd.prog.cellsOf 3 = 1 by kernel_rfl] at r3
 replace r3 : (cInt .i64).rel noM w v3 [c3] := r3
 have q3 : [c3] = [(Value.int .i64 v3)] := r3
 simp only [List.cons.injEq, and_true] at q0
 obtain rfl := q0
 simp only [List.cons.injEq, and_true] at q1
 obtain rfl := q1
 simp only [List.cons.injEq, and_true] at q2
 obtain rfl := q2
 simp only [List.cons.injEq, and_true] at q3
 obtain rfl := q3
 exact ⟨⟨v0, v1, v2, v3⟩, rfl, k0, k1, k2, k3⟩
end Go.Proofs.YtnehbaocbcegpaaDoor
