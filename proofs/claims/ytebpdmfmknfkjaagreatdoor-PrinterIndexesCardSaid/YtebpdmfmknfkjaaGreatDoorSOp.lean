import Derived.Test.YtebpdmfmknfkjaaGreatDoorSMd
import Derived.Test.YtebpdmfmknfkjaaGreatDoorSLfV
namespace Go.Proofs.YtebpdmfmknfkjaaGreatDoor
open Go Go.RowKit Go.Vc
set_option linter.unusedVariables false
set_option linter.unusedSimpArgs false
open Go.WideShapes
def okGType (x : GType) : Prop := (okI .i64) x.Kind ∧ (okI .i64) x.Bits ∧ (okI .i64) x.Frac ∧ (okI .i64) x.Round ∧ (okI .i64) x.Over
def okGMono (x : GMono) : Prop := okS x.Name ∧ (okI .i64) x.By
def szGMono (x : GMono) : Nat := x.Name.length
set_option maxRecDepth 100000 in
theorem opn_112 (N : Nat) : OpnB Tryz.prog 112 cGMono okGMono szGMono N := by
 intro H enc w sp held fuel cs x hN h hw
 obtain ⟨xs, m, hm, hx, hl, hxs, hf⟩ := DataW.trod_struct Tryz.underlying112 h
 subst hx
 replace hxs : xs.length = 2 := hxs
 rw [show Tryz.prog.cellsOf 112 = 2 by kernel_rfl] at hl
 obtain ⟨c0, c1, rfl⟩ : ∃ c0 c1, cs = [c0, c1] := by (match cs, hl with | [c0, c1], _ => exact ⟨c0, c1, rfl⟩)
 obtain ⟨x0, x1, rfl⟩ : ∃ x0 x1, xs = [x0, x1] := by (match xs, hxs with | [x0, x1], _ => exact ⟨x0, x1, rfl⟩)
 have f0 : DataW.trod enc Tryz.prog w 0 sp held m 9 (([c0, c1].drop 0).take (Tryz.prog.cellsOf 9)) = some x0 := hf 0 _ rfl
 rw [show Tryz.prog.cellsOf 9 = 1 by kernel_rfl] at f0
 obtain ⟨v0, r0, k0, z0⟩ := (OpnB.str Tryz.underlying9) enc w sp held m _ _ (show m < N by omega) f0 (wAgg_at Tryz.underlying112 hw (i := 0) rfl rfl)
 replace r0 : cStr.rel noM w v0 [c0] := r0
 have q0 : [c0] = [(str v0)] := r0
 have f1 : DataW.trod enc Tryz.prog w 0 sp held m 2 (([c0, c1].drop 1).take (Tryz.prog.cellsOf 2)) = some x1 := hf 1 _ rfl
 rw [show Tryz.prog.cellsOf 2 = 1 by kernel_rfl] at f1
 obtain ⟨v1, r1, k1, z1⟩ := (OpnB.int Tryz.underlying2) enc w sp held m _ _ (show m < N by omega) f1 (wAgg_at Tryz.underlying112 hw (i := 1) rfl rfl)
 replace r1 : (cInt .i64).rel noM w v1 [c1] := r1
 have q1 : [c1] = [(Value.int .i64 v1)] := r1
 simp only [List.cons.injEq, and_true] at q0
 obtain rfl := q0
 simp only [List.cons.injEq, and_true] at q1
 obtain rfl := q1
 refine ⟨⟨v0, v1⟩, rfl, ⟨k0, k1⟩, fun M => ?_⟩
 have hM := M.agg (([x0, x1] : List (DataW H × List MemPlace)).map (·.1))
 simp only [List.map_cons, List.map_nil, List.sum_cons, List.sum_nil] at hM ⊢
 have y0 := z0 M
 have y1 := z1 M
 unfold szGMono
 dsimp only at *
 omega
def okGLin (x : GLin) : Prop := (okI .i64) x.K ∧ (okW okGMono) x.L
def szGLin (x : GLin) : Nat := (szL szGMono) x.L
set_option maxRecDepth 100000 in
theorem opn_29 (N : Nat) : OpnB Tryz.prog 29 cGLin okGLin szGLin N := by
 intro H enc w sp held fuel cs x hN h hw
 obtain ⟨xs, m, hm, hx, hl, hxs, hf⟩ := DataW.trod_struct Tryz.underlying29 h
 subst hx
 replace hxs : xs.length = 2 := hxs
 rw [show Tryz.prog.cellsOf 29 = 2 by kernel_rfl] at hl
 obtain ⟨c0, c1, rfl⟩ : ∃ c0 c1, cs = [c0, c1] := by (match cs, hl with | [c0, c1], _ => exact ⟨c0, c1, rfl⟩)
 obtain ⟨x0, x1, rfl⟩ : ∃ x0 x1, xs = [x0, x1] := by (match xs, hxs with | [x0, x1], _ => exact ⟨x0, x1, rfl⟩)
 have f0 : DataW.trod enc Tryz.prog w 0 sp held m 2 (([c0, c1].drop 0).take (Tryz.prog.cellsOf 2)) = some x0 := hf 0 _ rfl
 rw [show Tryz.prog.cellsOf 2 = 1 by kernel_rfl] at f0
 obtain ⟨v0, r0, k0, z0⟩ := (OpnB.int Tryz.underlying2) enc w sp held m _ _ (show m < N by omega) f0 (wAgg_at Tryz.underlying29 hw (i := 0) rfl rfl)
 replace r0 : (cInt .i64).rel noM w v0 [c0] := r0
 have q0 : [c0] = [(Value.int .i64 v0)] := r0
 have f1 : DataW.trod enc Tryz.prog w 0 sp held m 27 (([c0, c1].drop 1).take (Tryz.prog.cellsOf 27)) = some x1 := hf 1 _ rfl
 rw [show Tryz.prog.cellsOf 27 = 1 by kernel_rfl] at f1
 obtain ⟨v1, r1, k1, z1⟩ := (OpnB.sl Tryz.underlying27 (by kernel_rfl) (by decide) (by kernel_rfl) (opn_112 _)) enc w sp held m _ _ (show m < N by omega) f1 (wAgg_at Tryz.underlying29 hw (i := 1) rfl rfl)
 replace r1 : (cSl cGMono).rel noM w v1 [c1] := r1
 obtain ⟨A_1_0, c_1_0, q1, hf1_0⟩ := r1
 simp only [List.cons.injEq, and_true] at q0
 obtain rfl := q0
 simp only [List.cons.injEq, and_true] at q1
 obtain rfl := q1
 refine ⟨⟨v0, v1⟩, ⟨A_1_0, c_1_0, rfl, hf1_0⟩, ⟨k0, k1⟩, fun M => ?_⟩
 have hM := M.agg (([x0, x1] : List (DataW H × List MemPlace)).map (·.1))
 simp only [List.map_cons, List.map_nil, List.sum_cons, List.sum_nil] at hM ⊢
 have y0 := z0 M
 have y1 := z1 M
 unfold szGLin
 dsimp only at *
 omega
def okGIndex (x : GIndex) : Prop := okGLin x.Lin ∧ okS x.From ∧ (okW okGLin) x.At
def szGIndex (x : GIndex) : Nat := szGLin x.Lin + x.From.length + (szL szGLin) x.At
set_option maxRecDepth 100000 in
theorem opn_32 (N : Nat) : OpnB Tryz.prog 32 cGIndex okGIndex szGIndex N := by
 intro H enc w sp held fuel cs x hN h hw
 obtain ⟨xs, m, hm, hx, hl, hxs, hf⟩ := DataW.trod_struct Tryz.underlying32 h
 subst hx
 replace hxs : xs.length = 3 := hxs
 rw [show Tryz.prog.cellsOf 32 = 4 by kernel_rfl] at hl
 obtain ⟨c0, c1, c2, c3, rfl⟩ : ∃ c0 c1 c2 c3, cs = [c0, c1, c2, c3] := by (match cs, hl with | [c0, c1, c2, c3], _ => exact ⟨c0, c1, c2, c3, rfl⟩)
 obtain ⟨x0, x1, x2, rfl⟩ : ∃ x0 x1 x2, xs = [x0, x1, x2] := by (match xs, hxs with | [x0, x1, x2], _ => exact ⟨x0, x1, x2, rfl⟩)
 have f0 : DataW.trod enc Tryz.prog w 0 sp held m 29 (([c0, c1, c2, c3].drop 0).take (Tryz.prog.cellsOf 29)) = some x0 := hf 0 _ rfl
 rw [show Tryz.prog.cellsOf 29 = 2 by kernel_rfl] at f0
 obtain ⟨v0, r0, k0, z0⟩ := (opn_29 _) enc w sp held m _ _ (show m < N by omega) f0 (wAgg_at Tryz.underlying32 hw (i := 0) rfl rfl)
 replace r0 : cGLin.rel noM w v0 [c0, c1] := r0
 obtain ⟨A_0_0, c_0_0, q0, hf0_0⟩ := r0
 have f1 : DataW.trod enc Tryz.prog w 0 sp held m 9 (([c0, c1, c2, c3].drop 2).take (Tryz.prog.cellsOf 9)) = some x1 := hf 1 _ rfl
 rw [show Tryz.prog.cellsOf 9 = 1 by kernel_rfl] at f1
 obtain ⟨v1, r1, k1, z1⟩ := (OpnB.str Tryz.underlying9) enc w sp held m _ _ (show m < N by omega) f1 (wAgg_at Tryz.underlying32 hw (i := 1) rfl rfl)
 replace r1 : cStr.rel noM w v1 [c2] := r1
 have q1 : [c2] = [(str v1)] := r1
 have f2 : DataW.trod enc Tryz.prog w 0 sp held m 30 (([c0, c1, c2, c3].drop 3).take (Tryz.prog.cellsOf 30)) = some x2 := hf 2 _ rfl
 rw [show Tryz.prog.cellsOf 30 = 1 by kernel_rfl] at f2
 obtain ⟨v2, r2, k2, z2⟩ := (OpnB.sl Tryz.underlying30 (by kernel_rfl) (by decide) (by kernel_rfl) (opn_29 _)) enc w sp held m _ _ (show m < N by omega) f2 (wAgg_at Tryz.underlying32 hw (i := 2) rfl rfl)
 replace r2 : (cSl cGLin).rel noM w v2 [c3] := r2
 obtain ⟨A_2_0, c_2_0, q2, hf2_0⟩ := r2
 simp only [List.cons.injEq, and_true] at q0
 obtain ⟨rfl, rfl⟩ := q0
 simp only [List.cons.injEq, and_true] at q1
 obtain rfl := q1
 simp only [List.cons.injEq, and_true] at q2
 obtain rfl := q2
 refine ⟨⟨v0, v1, v2⟩, ⟨A_0_0, c_0_0, A_2_0, c_2_0, rfl, hf0_0, hf2_0⟩, ⟨k0, k1, k2⟩, fun M => ?_⟩
 have hM := M.agg (([x0, x1, x2] : List (DataW H × List MemPlace)).map (·.1))
 simp only [List.map_cons, List.map_nil, List.sum_cons, List.sum_nil] at hM ⊢
 have y0 := z0 M
 have y1 := z1 M
 have y2 := z2 M
 unfold szGIndex
 dsimp only at *
 omega
def okGVal (x : GVal) : Prop := (okI .i64) x.N ∧ (okI .i64) x.D
inductive okGExpr : GExpr → Prop where
 | mk {x : GExpr} (h0 : (okI .i64) x.Op) (h1 : okS x.Name) (h2 : okGVal x.Val) (h3 : okGType x.Type_) (h4 : okGLin x.Lin) (h5 : (okW okGIndex) x.Idx) (hl : x.Args.length ≤ 140737488355328) (hr : ∀ y ∈ x.Args, okGExpr y) : okGExpr x
theorem okGExpr_iff {x : GExpr} : okGExpr x ↔ ((okI .i64) x.Op ∧ okS x.Name ∧ okGVal x.Val ∧ okGType x.Type_ ∧ okGLin x.Lin ∧ (okW okGIndex) x.Idx ∧ (okW okGExpr) x.Args) := ⟨fun h => by cases h with | mk h0 h1 h2 h3 h4 h5 hl hr => exact ⟨h0, h1, h2, h3, h4, h5, ⟨hr, hl⟩⟩, fun ⟨h0, h1, h2, h3, h4, h5, ⟨hr, hl⟩⟩ => .mk h0 h1 h2 h3 h4 h5 hl hr⟩
end Go.Proofs.YtebpdmfmknfkjaaGreatDoor
