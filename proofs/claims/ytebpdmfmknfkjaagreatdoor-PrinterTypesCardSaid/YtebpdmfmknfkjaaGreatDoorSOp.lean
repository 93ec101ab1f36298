import Derived.Test.YtebpdmfmknfkjaaGreatDoorSMd
namespace Go.Proofs.YtebpdmfmknfkjaaGreatDoor
open Go Go.RowKit Go.Vc
set_option linter.unusedVariables false
set_option linter.unusedSimpArgs false
open Go.WideShapes
def okGType (x : GType) : Prop := (okI .i64) x.Kind ∧ (okI .i64) x.Bits ∧ (okI .i64) x.Frac ∧ (okI .i64) x.Round ∧ (okI .i64) x.Over
set_option maxRecDepth 100000 in
theorem opn_23 : Opn Tryz.prog 23 cGType okGType := fun enc w sp held fuel cs x h => by
 obtain ⟨xs, m, hm, _, hl, hxs, hf⟩ := DataW.trod_struct Tryz.underlying23 h
 rw [show Tryz.prog.cellsOf 23 = 5 by kernel_rfl] at hl
 obtain ⟨c0, c1, c2, c3, c4, rfl⟩ : ∃ c0 c1 c2 c3 c4, cs = [c0, c1, c2, c3, c4] := by (match cs, hl with | [c0, c1, c2, c3, c4], _ => exact ⟨c0, c1, c2, c3, c4, rfl⟩)
 have f0 := hf 0 _ rfl
 obtain ⟨x0, g0⟩ : ∃ x, xs[0]? = some x := ⟨xs[0]'(by rw [hxs]; decide), by simp [hxs]⟩
 rw [g0] at f0
 obtain ⟨v0, r0, k0⟩ := (Opn.int Tryz.underlying3) enc w sp held m _ _ f0
 replace r0 : (cInt .i64).rel noM w v0 (([c0, c1, c2, c3, c4].drop 0).take (Tryz.prog.cellsOf 3)) := r0
 rw [show Tryz.prog.cellsOf 3 = 1 by kernel_rfl] at r0
 replace r0 : (cInt .i64).rel noM w v0 [c0] := r0
 have q0 : [c0] = [(Value.int .i64 v0)] := r0
 have f1 := hf 1 _ rfl
 obtain ⟨x1, g1⟩ : ∃ x, xs[1]? = some x := ⟨xs[1]'(by rw [hxs]; decide), by simp [hxs]⟩
 rw [g1] at f1
 obtain ⟨v1, r1, k1⟩ := (Opn.int Tryz.underlying3) enc w sp held m _ _ f1
 replace r1 : (cInt .i64).rel noM w v1 (([c0, c1, c2, c3, c4].drop 1).take (Tryz.prog.cellsOf 3)) := r1
 rw [show Tryz.prog.cellsOf 3 = 1 by kernel_rfl] at r1
 replace r1 : (cInt .i64).rel noM w v1 [c1] := r1
 have q1 : [c1] = [(Value.int .i64 v1)] := r1
 have f2 := hf 2 _ rfl
 obtain ⟨x2, g2⟩ : ∃ x, xs[2]? = some x := ⟨xs[2]'(by rw [hxs]; decide), by simp [hxs]⟩
 rw [g2] at f2
 obtain ⟨v2, r2, k2⟩ := (Opn.int Tryz.underlying3) enc w sp held m _ _ f2
 replace r2 : (cInt .i64).rel noM w v2 (([c0, c1, c2, c3, c4].drop 2).take (Tryz.prog.cellsOf 3)) := r2
 rw [show Tryz.prog.cellsOf 3 = 1 by kernel_rfl] at r2
 replace r2 : (cInt .i64).rel noM w v2 [c2] := r2
 have q2 : [c2] = [(Value.int .i64 v2)] := r2
 have f3 := hf 3 _ rfl
 obtain ⟨x3, g3⟩ : ∃ x, xs[3]? = some x := ⟨xs[3]'(by rw [hxs]; decide), by simp [hxs]⟩
 rw [g3] at f3
 obtain ⟨v3, r3, k3⟩ := (Opn.int Tryz.underlying3) enc w sp held m _ _ f3
 replace r3 : (cInt .i64).rel noM w v3 (([c0, c1, c2, c3, c4].drop 3).take (Tryz.prog.cellsOf 3)) := r3
 rw [show Tryz.prog.cellsOf 3 = 1 by kernel_rfl] at r3
 replace r3 : (cInt .i64).rel noM w v3 [c3] := r3
 have q3 : [c3] = [(Value.int .i64 v3)] := r3
 have f4 := hf 4 _ rfl
 obtain ⟨x4, g4⟩ : ∃ x, xs[4]? = some x := ⟨xs[4]'(by rw [hxs]; decide), by simp [hxs]⟩
 rw [g4] at f4
 obtain ⟨v4, r4, k4⟩ := (Opn.int Tryz.underlying3) enc w sp held m _ _ f4
 replace r4 : (cInt .i64).rel noM w v4 (([c0, c1, c2, c3, c4].drop 4).take (Tryz.prog.cellsOf 3)) := r4
 rw [show Tryz.prog.cellsOf 3 = 1 by kernel_rfl] at r4
 replace r4 : (cInt .i64).rel noM w v4 [c4] := r4
 have q4 : [c4] = [(Value.int .i64 v4)] := r4
 simp only [List.cons.injEq, and_true] at q0
 obtain rfl := q0
 simp only [List.cons.injEq, and_true] at q1
 obtain rfl := q1
 simp only [List.cons.injEq, and_true] at q2
 obtain rfl := q2
 simp only [List.cons.injEq, and_true] at q3
 obtain rfl := q3
 simp only [List.cons.injEq, and_true] at q4
 obtain rfl := q4
 exact ⟨⟨v0, v1, v2, v3, v4⟩, rfl, k0, k1, k2, k3, k4⟩
end Go.Proofs.YtebpdmfmknfkjaaGreatDoor
