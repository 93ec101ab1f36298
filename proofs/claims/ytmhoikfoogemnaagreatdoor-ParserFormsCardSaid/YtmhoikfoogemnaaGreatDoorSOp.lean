import Derived.Test.YtmhoikfoogemnaaGreatDoorSMd
import Derived.Test.YtmhoikfoogemnaaGreatDoorSLfV
namespace Go.Proofs.YtmhoikfoogemnaaGreatDoor
open Go Go.RowKit Go.Vc
set_option linter.unusedVariables false
set_option linter.unusedSimpArgs false
open Go.WideShapes
def okGToken (x : GToken) : Prop := (okI .i64) x.Kind ∧ (okI .i64) x.At ∧ okS x.Text
def szGToken (x : GToken) : Nat := x.Text.length
set_option maxRecDepth 100000 in
theorem opn_62 (N : Nat) : OpnB Tryz.prog 62 cGToken okGToken szGToken N := by
 intro H enc w sp held fuel cs x hN h hw
 obtain ⟨xs, m, hm, hx, hl, hxs, hf⟩ := DataW.trod_struct Tryz.underlying62 h
 subst hx
 replace hxs : xs.length = 3 := hxs
 rw [show Tryz.prog.cellsOf 62 = 3 by kernel_rfl] at hl
 obtain ⟨c0, c1, c2, rfl⟩ : ∃ c0 c1 c2, cs = [c0, c1, c2] := by (match cs, hl with | [c0, c1, c2], _ => exact ⟨c0, c1, c2, rfl⟩)
 obtain ⟨x0, x1, x2, rfl⟩ : ∃ x0 x1 x2, xs = [x0, x1, x2] := by (match xs, hxs with | [x0, x1, x2], _ => exact ⟨x0, x1, x2, rfl⟩)
 have f0 : DataW.trod enc Tryz.prog w 0 sp held m 3 (([c0, c1, c2].drop 0).take (Tryz.prog.cellsOf 3)) = some x0 := hf 0 _ rfl
 rw [show Tryz.prog.cellsOf 3 = 1 by kernel_rfl] at f0
 obtain ⟨v0, r0, k0, z0⟩ := (OpnB.int Tryz.underlying3) enc w sp held m _ _ (show m < N by omega) f0 (wAgg_at Tryz.underlying62 hw (i := 0) rfl rfl)
 replace r0 : (cInt .i64).rel noM w v0 [c0] := r0
 have q0 : [c0] = [(Value.int .i64 v0)] := r0
 have f1 : DataW.trod enc Tryz.prog w 0 sp held m 3 (([c0, c1, c2].drop 1).take (Tryz.prog.cellsOf 3)) = some x1 := hf 1 _ rfl
 rw [show Tryz.prog.cellsOf 3 = 1 by kernel_rfl] at f1
 obtain ⟨v1, r1, k1, z1⟩ := (OpnB.int Tryz.underlying3) enc w sp held m _ _ (show m < N by omega) f1 (wAgg_at Tryz.underlying62 hw (i := 1) rfl rfl)
 replace r1 : (cInt .i64).rel noM w v1 [c1] := r1
 have q1 : [c1] = [(Value.int .i64 v1)] := r1
 have f2 : DataW.trod enc Tryz.prog w 0 sp held m 9 (([c0, c1, c2].drop 2).take (Tryz.prog.cellsOf 9)) = some x2 := hf 2 _ rfl
 rw [show Tryz.prog.cellsOf 9 = 1 by kernel_rfl] at f2
 obtain ⟨v2, r2, k2, z2⟩ := (OpnB.str Tryz.underlying9) enc w sp held m _ _ (show m < N by omega) f2 (wAgg_at Tryz.underlying62 hw (i := 2) rfl rfl)
 replace r2 : cStr.rel noM w v2 [c2] := r2
 have q2 : [c2] = [(str v2)] := r2
 simp only [List.cons.injEq, and_true] at q0
 obtain rfl := q0
 simp only [List.cons.injEq, and_true] at q1
 obtain rfl := q1
 simp only [List.cons.injEq, and_true] at q2
 obtain rfl := q2
 refine ⟨⟨v0, v1, v2⟩, rfl, ⟨k0, k1, k2⟩, fun M => ?_⟩
 have hM := M.agg (([x0, x1, x2] : List (DataW H × List MemPlace)).map (·.1))
 simp only [List.map_cons, List.map_nil, List.sum_cons, List.sum_nil] at hM ⊢
 have y0 := z0 M
 have y1 := z1 M
 have y2 := z2 M
 unfold szGToken
 dsimp only at *
 omega
end Go.Proofs.YtmhoikfoogemnaaGreatDoor
