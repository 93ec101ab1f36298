import Derived.Test.YtmhoikfoogemnaaGreatDoorHMd
import Derived.Test.YtmhoikfoogemnaaGreatDoorHXm
namespace Go.Proofs.YtmhoikfoogemnaaGreatDoor
open Go Go.RowKit Go.Vc
set_option linter.unusedVariables false
set_option linter.unusedSimpArgs false
open Go.WideShapes
def Ce (x:co):Prop:=(GY .i64) x.N∧(GY .i64) x.D
def BS (x:co):Nat:=0
set_option maxRecDepth 100000 in
theorem NR (N:Nat):OpnB Tryz.prog 33 M3 Ce BS N:=by
 intro H enc w sp held fuel cs x hN h hw
 obtain⟨xs,m,hm,hx,hl,hxs,hf⟩:=DataW.trod_struct Tryz.underlying33 h
 subst hx
 replace hxs:xs.length=2:=hxs
 rw[show Tryz.prog.cellsOf 33=2 by kernel_rfl]at hl
 obtain⟨c0,c1,rfl⟩:∃ c0 c1,cs=[c0,c1]:=by(match cs,hl with | [c0,c1],_=>exact⟨c0,c1,rfl⟩)
 obtain⟨x0,x1,rfl⟩:∃ x0 x1,xs=[x0,x1]:=by(match xs,hxs with | [x0,x1],_=>exact⟨x0,x1,rfl⟩)
 have f0:DataW.trod enc Tryz.prog w 0 sp held m 2 (([c0,c1].drop 0).take (Tryz.prog.cellsOf 2))=some x0:=hf 0 _ rfl
 rw[show Tryz.prog.cellsOf 2=1 by kernel_rfl]at f0
 obtain⟨v0,r0,k0,z0⟩:=(OpnB.int Tryz.underlying2) enc w sp held m _ _ (show m<N by omega) f0 (cq Tryz.underlying33 hw (i:=0) rfl rfl)
 replace r0:(nz .i64).rel cH w v0 [c0]:=r0
 have q0:[c0]=[(Value.int .i64 v0)]:=r0
 have f1:DataW.trod enc Tryz.prog w 0 sp held m 2 (([c0,c1].drop 1).take (Tryz.prog.cellsOf 2))=some x1:=hf 1 _ rfl
 rw[show Tryz.prog.cellsOf 2=1 by kernel_rfl]at f1
 obtain⟨v1,r1,k1,z1⟩:=(OpnB.int Tryz.underlying2) enc w sp held m _ _ (show m<N by omega) f1 (cq Tryz.underlying33 hw (i:=1) rfl rfl)
 replace r1:(nz .i64).rel cH w v1 [c1]:=r1
 have q1:[c1]=[(Value.int .i64 v1)]:=r1
 simp only[List.cons.injEq,and_true]at q0
 obtain rfl:=q0
 simp only[List.cons.injEq,and_true]at q1
 obtain rfl:=q1
 refine⟨⟨v0,v1⟩,rfl,⟨k0,k1⟩,λM=>?_⟩
 have hM:=M.agg (([x0,x1]:List (DataW H×List MemPlace)).map (·.1))
 simp only[List.map_cons,List.map_nil,List.sum_cons,List.sum_nil]at hM ⊢
 have y0:=z0 M
 have y1:=z1 M
 unfold BS
 dsimp only at *
 omega
def wg (x:bu):Prop:=(GY .i64) x.Kind∧(GY .i64) x.Bits∧(GY .i64) x.Frac∧(GY .i64) x.Round∧(GY .i64) x.Over
def pH (x:bu):Nat:=0
set_option maxRecDepth 100000 in
theorem FB (N:Nat):OpnB Tryz.prog 35 Dl wg pH N:=by
 intro H enc w sp held fuel cs x hN h hw
 obtain⟨xs,m,hm,hx,hl,hxs,hf⟩:=DataW.trod_struct Tryz.underlying35 h
 subst hx
 replace hxs:xs.length=5:=hxs
 rw[show Tryz.prog.cellsOf 35=5 by kernel_rfl]at hl
 obtain⟨c0,c1,c2,c3,c4,rfl⟩:∃ c0 c1 c2 c3 c4,cs=[c0,c1,c2,c3,c4]:=by(match cs,hl with | [c0,c1,c2,c3,c4],_=>exact⟨c0,c1,c2,c3,c4,rfl⟩)
 obtain⟨x0,x1,x2,x3,x4,rfl⟩:∃ x0 x1 x2 x3 x4,xs=[x0,x1,x2,x3,x4]:=by(match xs,hxs with | [x0,x1,x2,x3,x4],_=>exact⟨x0,x1,x2,x3,x4,rfl⟩)
 have f0:DataW.trod enc Tryz.prog w 0 sp held m 3 (([c0,c1,c2,c3,c4].drop 0).take (Tryz.prog.cellsOf 3))=some x0:=hf 0 _ rfl
 rw[show Tryz.prog.cellsOf 3=1 by kernel_rfl]at f0
 obtain⟨v0,r0,k0,z0⟩:=(OpnB.int Tryz.underlying3) enc w sp held m _ _ (show m<N by omega) f0 (cq Tryz.underlying35 hw (i:=0) rfl rfl)
 replace r0:(nz .i64).rel cH w v0 [c0]:=r0
 have q0:[c0]=[(Value.int .i64 v0)]:=r0
 have f1:DataW.trod enc Tryz.prog w 0 sp held m 3 (([c0,c1,c2,c3,c4].drop 1).take (Tryz.prog.cellsOf 3))=some x1:=hf 1 _ rfl
 rw[show Tryz.prog.cellsOf 3=1 by kernel_rfl]at f1
 obtain⟨v1,r1,k1,z1⟩:=(OpnB.int Tryz.underlying3) enc w sp held m _ _ (show m<N by omega) f1 (cq Tryz.underlying35 hw (i:=1) rfl rfl)
 replace r1:(nz .i64).rel cH w v1 [c1]:=r1
 have q1:[c1]=[(Value.int .i64 v1)]:=r1
 have f2:DataW.trod enc Tryz.prog w 0 sp held m 3 (([c0,c1,c2,c3,c4].drop 2).take (Tryz.prog.cellsOf 3))=some x2:=hf 2 _ rfl
 rw[show Tryz.prog.cellsOf 3=1 by kernel_rfl]at f2
 obtain⟨v2,r2,k2,z2⟩:=(OpnB.int Tryz.underlying3) enc w sp held m _ _ (show m<N by omega) f2 (cq Tryz.underlying35 hw (i:=2) rfl rfl)
 replace r2:(nz .i64).rel cH w v2 [c2]:=r2
 have q2:[c2]=[(Value.int .i64 v2)]:=r2
 have f3:DataW.trod enc Tryz.prog w 0 sp held m 3 (([c0,c1,c2,c3,c4].drop 3).take (Tryz.prog.cellsOf 3))=some x3:=hf 3 _ rfl
 rw[show Tryz.prog.cellsOf 3=1 by kernel_rfl]at f3
 obtain⟨v3,r3,k3,z3⟩:=(OpnB.int Tryz.underlying3) enc w sp held m _ _ (show m<N by omega) f3 (cq Tryz.underlying35 hw (i:=3) rfl rfl)
 replace r3:(nz .i64).rel cH w v3 [c3]:=r3
 have q3:[c3]=[(Value.int .i64 v3)]:=r3
 have f4:DataW.trod enc Tryz.prog w 0 sp held m 3 (([c0,c1,c2,c3,c4].drop 4).take (Tryz.prog.cellsOf 3))=some x4:=hf 4 _ rfl
 rw[show Tryz.prog.cellsOf 3=1 by kernel_rfl]at f4
 obtain⟨v4,r4,k4,z4⟩:=(OpnB.int Tryz.underlying3) enc w sp held m _ _ (show m<N by omega) f4 (cq Tryz.underlying35 hw (i:=4) rfl rfl)
 replace r4:(nz .i64).rel cH w v4 [c4]:=r4
 have q4:[c4]=[(Value.int .i64 v4)]:=r4
 simp only[List.cons.injEq,and_true]at q0
 obtain rfl:=q0
 simp only[List.cons.injEq,and_true]at q1
 obtain rfl:=q1
 simp only[List.cons.injEq,and_true]at q2
 obtain rfl:=q2
 simp only[List.cons.injEq,and_true]at q3
 obtain rfl:=q3
 simp only[List.cons.injEq,and_true]at q4
 obtain rfl:=q4
 refine⟨⟨v0,v1,v2,v3,v4⟩,rfl,⟨k0,k1,k2,k3,k4⟩,λM=>?_⟩
 have hM:=M.agg (([x0,x1,x2,x3,x4]:List (DataW H×List MemPlace)).map (·.1))
 simp only[List.map_cons,List.map_nil,List.sum_cons,List.sum_nil]at hM ⊢
 have y0:=z0 M
 have y1:=z1 M
 have y2:=z2 M
 have y3:=z3 M
 have y4:=z4 M
 unfold pH
 dsimp only at *
 omega
def GZ (x:bv):Prop:=KK x.Name∧(GY .i64) x.By
def lC (x:bv):Nat:=x.Name.length
set_option maxRecDepth 100000 in
theorem NN (N:Nat):OpnB Tryz.prog 64 ai GZ lC N:=by
 intro H enc w sp held fuel cs x hN h hw
 obtain⟨xs,m,hm,hx,hl,hxs,hf⟩:=DataW.trod_struct Tryz.underlying64 h
 subst hx
 replace hxs:xs.length=2:=hxs
 rw[show Tryz.prog.cellsOf 64=2 by kernel_rfl]at hl
 obtain⟨c0,c1,rfl⟩:∃ c0 c1,cs=[c0,c1]:=by(match cs,hl with | [c0,c1],_=>exact⟨c0,c1,rfl⟩)
 obtain⟨x0,x1,rfl⟩:∃ x0 x1,xs=[x0,x1]:=by(match xs,hxs with | [x0,x1],_=>exact⟨x0,x1,rfl⟩)
 have f0:DataW.trod enc Tryz.prog w 0 sp held m 9 (([c0,c1].drop 0).take (Tryz.prog.cellsOf 9))=some x0:=hf 0 _ rfl
 rw[show Tryz.prog.cellsOf 9=1 by kernel_rfl]at f0
 obtain⟨v0,r0,k0,z0⟩:=(OpnB.str Tryz.underlying9) enc w sp held m _ _ (show m<N by omega) f0 (cq Tryz.underlying64 hw (i:=0) rfl rfl)
 replace r0:be.rel cH w v0 [c0]:=r0
 have q0:[c0]=[(str v0)]:=r0
 have f1:DataW.trod enc Tryz.prog w 0 sp held m 2 (([c0,c1].drop 1).take (Tryz.prog.cellsOf 2))=some x1:=hf 1 _ rfl
 rw[show Tryz.prog.cellsOf 2=1 by kernel_rfl]at f1
 obtain⟨v1,r1,k1,z1⟩:=(OpnB.int Tryz.underlying2) enc w sp held m _ _ (show m<N by omega) f1 (cq Tryz.underlying64 hw (i:=1) rfl rfl)
 replace r1:(nz .i64).rel cH w v1 [c1]:=r1
 have q1:[c1]=[(Value.int .i64 v1)]:=r1
 simp only[List.cons.injEq,and_true]at q0
 obtain rfl:=q0
 simp only[List.cons.injEq,and_true]at q1
 obtain rfl:=q1
 refine⟨⟨v0,v1⟩,rfl,⟨k0,k1⟩,λM=>?_⟩
 have hM:=M.agg (([x0,x1]:List (DataW H×List MemPlace)).map (·.1))
 simp only[List.map_cons,List.map_nil,List.sum_cons,List.sum_nil]at hM ⊢
 have y0:=z0 M
 have y1:=z1 M
 unfold lC
 dsimp only at *
 omega
def okGLin (x:aC):Prop:=(GY .i64) x.K∧(Cc GZ) x.L
def jP (x:aC):Nat:=(oz lC) x.L
set_option maxRecDepth 100000 in
theorem wQ (N:Nat):OpnB Tryz.prog 27 dU okGLin jP N:=by
 intro H enc w sp held fuel cs x hN h hw
 obtain⟨xs,m,hm,hx,hl,hxs,hf⟩:=DataW.trod_struct Tryz.underlying27 h
 subst hx
 replace hxs:xs.length=2:=hxs
 rw[show Tryz.prog.cellsOf 27=2 by kernel_rfl]at hl
 obtain⟨c0,c1,rfl⟩:∃ c0 c1,cs=[c0,c1]:=by(match cs,hl with | [c0,c1],_=>exact⟨c0,c1,rfl⟩)
 obtain⟨x0,x1,rfl⟩:∃ x0 x1,xs=[x0,x1]:=by(match xs,hxs with | [x0,x1],_=>exact⟨x0,x1,rfl⟩)
 have f0:DataW.trod enc Tryz.prog w 0 sp held m 2 (([c0,c1].drop 0).take (Tryz.prog.cellsOf 2))=some x0:=hf 0 _ rfl
 rw[show Tryz.prog.cellsOf 2=1 by kernel_rfl]at f0
 obtain⟨v0,r0,k0,z0⟩:=(OpnB.int Tryz.underlying2) enc w sp held m _ _ (show m<N by omega) f0 (cq Tryz.underlying27 hw (i:=0) rfl rfl)
 replace r0:(nz .i64).rel cH w v0 [c0]:=r0
 have q0:[c0]=[(Value.int .i64 v0)]:=r0
 have f1:DataW.trod enc Tryz.prog w 0 sp held m 25 (([c0,c1].drop 1).take (Tryz.prog.cellsOf 25))=some x1:=hf 1 _ rfl
 rw[show Tryz.prog.cellsOf 25=1 by kernel_rfl]at f1
 obtain⟨v1,r1,k1,z1⟩:=(OpnB.sl Tryz.underlying25 (by kernel_rfl) (by decide) (by kernel_rfl) (NN _)) enc w sp held m _ _ (show m<N by omega) f1 (cq Tryz.underlying27 hw (i:=1) rfl rfl)
 replace r1:(Ik ai).rel cH w v1 [c1]:=r1
 obtain⟨A_1_0,c_1_0,q1,hf1_0⟩:=r1
 simp only[List.cons.injEq,and_true]at q0
 obtain rfl:=q0
 simp only[List.cons.injEq,and_true]at q1
 obtain rfl:=q1
 refine⟨⟨v0,v1⟩,⟨A_1_0,c_1_0,rfl,hf1_0⟩,⟨k0,k1⟩,λM=>?_⟩
 have hM:=M.agg (([x0,x1]:List (DataW H×List MemPlace)).map (·.1))
 simp only[List.map_cons,List.map_nil,List.sum_cons,List.sum_nil]at hM ⊢
 have y0:=z0 M
 have y1:=z1 M
 unfold jP
 dsimp only at *
 omega
def nP (x:aM):Prop:=okGLin x.Lin∧KK x.From∧(Cc okGLin) x.At
def vO (x:aM):Nat:=jP x.Lin+x.From.length+(oz jP) x.At
set_option maxRecDepth 100000 in
theorem Ls (N:Nat):OpnB Tryz.prog 132 al nP vO N:=by
 intro H enc w sp held fuel cs x hN h hw
 obtain⟨xs,m,hm,hx,hl,hxs,hf⟩:=DataW.trod_struct Tryz.underlying132 h
 subst hx
 replace hxs:xs.length=3:=hxs
 rw[show Tryz.prog.cellsOf 132=4 by kernel_rfl]at hl
 obtain⟨c0,c1,c2,c3,rfl⟩:∃ c0 c1 c2 c3,cs=[c0,c1,c2,c3]:=by(match cs,hl with | [c0,c1,c2,c3],_=>exact⟨c0,c1,c2,c3,rfl⟩)
 obtain⟨x0,x1,x2,rfl⟩:∃ x0 x1 x2,xs=[x0,x1,x2]:=by(match xs,hxs with | [x0,x1,x2],_=>exact⟨x0,x1,x2,rfl⟩)
 have f0:DataW.trod enc Tryz.prog w 0 sp held m 27 (([c0,c1,c2,c3].drop 0).take (Tryz.prog.cellsOf 27))=some x0:=hf 0 _ rfl
 rw[show Tryz.prog.cellsOf 27=2 by kernel_rfl]at f0
 obtain⟨v0,r0,k0,z0⟩:=(wQ _) enc w sp held m _ _ (show m<N by omega) f0 (cq Tryz.underlying132 hw (i:=0) rfl rfl)
 replace r0:dU.rel cH w v0 [c0,c1]:=r0
 obtain⟨A_0_0,c_0_0,q0,hf0_0⟩:=r0
 have f1:DataW.trod enc Tryz.prog w 0 sp held m 9 (([c0,c1,c2,c3].drop 2).take (Tryz.prog.cellsOf 9))=some x1:=hf 1 _ rfl
 rw[show Tryz.prog.cellsOf 9=1 by kernel_rfl]at f1
 obtain⟨v1,r1,k1,z1⟩:=(OpnB.str Tryz.underlying9) enc w sp held m _ _ (show m<N by omega) f1 (cq Tryz.underlying132 hw (i:=1) rfl rfl)
 replace r1:be.rel cH w v1 [c2]:=r1
 have q1:[c2]=[(str v1)]:=r1
 have f2:DataW.trod enc Tryz.prog w 0 sp held m 93 (([c0,c1,c2,c3].drop 3).take (Tryz.prog.cellsOf 93))=some x2:=hf 2 _ rfl
 rw[show Tryz.prog.cellsOf 93=1 by kernel_rfl]at f2
 obtain⟨v2,r2,k2,z2⟩:=(OpnB.sl Tryz.underlying93 (by kernel_rfl) (by decide) (by kernel_rfl) (wQ _)) enc w sp held m _ _ (show m<N by omega) f2 (cq Tryz.underlying132 hw (i:=2) rfl rfl)
 replace r2:(Ik dU).rel cH w v2 [c3]:=r2
 obtain⟨A_2_0,c_2_0,q2,hf2_0⟩:=r2
 simp only[List.cons.injEq,and_true]at q0
 obtain⟨rfl,rfl⟩:=q0
 simp only[List.cons.injEq,and_true]at q1
 obtain rfl:=q1
 simp only[List.cons.injEq,and_true]at q2
 obtain rfl:=q2
 refine⟨⟨v0,v1,v2⟩,⟨A_0_0,c_0_0,A_2_0,c_2_0,rfl,hf0_0,hf2_0⟩,⟨k0,k1,k2⟩,λM=>?_⟩
 have hM:=M.agg (([x0,x1,x2]:List (DataW H×List MemPlace)).map (·.1))
 simp only[List.map_cons,List.map_nil,List.sum_cons,List.sum_nil]at hM ⊢
 have y0:=z0 M
 have y1:=z1 M
 have y2:=z2 M
 unfold vO
 dsimp only at *
 omega
inductive okGExpr:ae→Prop where
 | mk {x:ae} (h0:(GY .i64) x.Op) (h1:KK x.Name) (h2:Ce x.Val) (h3:wg x.Type_) (h4:okGLin x.Lin) (h5:(Cc nP) x.Idx) (hl:x.Args.length≤140737488355328) (hr:∀ y∈x.Args,okGExpr y):okGExpr x
theorem nC {x:ae} :okGExpr x↔((GY .i64) x.Op∧KK x.Name∧Ce x.Val∧wg x.Type_∧okGLin x.Lin∧(Cc nP) x.Idx∧(Cc okGExpr) x.Args):=⟨λh=>by cases h with | mk h0 h1 h2 h3 h4 h5 hl hr=>exact⟨h0,h1,h2,h3,h4,h5,hr,hl⟩,λ⟨h0,h1,h2,h3,h4,h5,hr,hl⟩=> .mk h0 h1 h2 h3 h4 h5 hl hr⟩
def oO:ae→Nat
 | ⟨v0,v1,v2,v3,v4,v5,v6⟩=>v1.length+BS v2+pH v3+jP v4+(oz vO) v5+go v6+v6.length
 where go:List ae→Nat
  | []=>0
  | x::xs=>oO x+go xs
theorem xn:∀ (xs:List ae),oO.go xs=(xs.map oO).sum
 | []=>rfl
 | x::xs=>by rw[oO.go,xn xs,List.map_cons,List.sum_cons]
theorem Ff (x:ae):oO x=x.Name.length+BS x.Val+pH x.Type_+jP x.Lin+(oz vO) x.Idx+(oz oO) x.Args:=by
 cases x with | mk v0 v1 v2 v3 v4 v5 v6=>rw[oO,xn];simp only[oz];omega
set_option maxRecDepth 100000 in
theorem NQ (N:Nat):OpnB Tryz.prog 39 an okGExpr oO N:=by
 induction N with
 | zero=>exact OpnB.zero
 | succ N ih=>
 intro H enc w sp held fuel cs x hN h hw
 obtain⟨xs,m,hm,hx,hl,hxs,hf⟩:=DataW.trod_struct Tryz.underlying39 h
 subst hx
 replace hxs:xs.length=7:=hxs
 rw[show Tryz.prog.cellsOf 39=13 by kernel_rfl]at hl
 obtain⟨c0,c1,c2,c3,c4,c5,c6,c7,c8,c9,c10,c11,c12,rfl⟩:∃ c0 c1 c2 c3 c4 c5 c6 c7 c8 c9 c10 c11 c12,cs=[c0,c1,c2,c3,c4,c5,c6,c7,c8,c9,c10,c11,c12]:=by(match cs,hl with | [c0,c1,c2,c3,c4,c5,c6,c7,c8,c9,c10,c11,c12],_=>exact⟨c0,c1,c2,c3,c4,c5,c6,c7,c8,c9,c10,c11,c12,rfl⟩)
 obtain⟨x0,x1,x2,x3,x4,x5,x6,rfl⟩:∃ x0 x1 x2 x3 x4 x5 x6,xs=[x0,x1,x2,x3,x4,x5,x6]:=by(match xs,hxs with | [x0,x1,x2,x3,x4,x5,x6],_=>exact⟨x0,x1,x2,x3,x4,x5,x6,rfl⟩)
 have f0:DataW.trod enc Tryz.prog w 0 sp held m 3 (([c0,c1,c2,c3,c4,c5,c6,c7,c8,c9,c10,c11,c12].drop 0).take (Tryz.prog.cellsOf 3))=some x0:=hf 0 _ rfl
 rw[show Tryz.prog.cellsOf 3=1 by kernel_rfl]at f0
 obtain⟨v0,r0,k0,z0⟩:=(OpnB.int Tryz.underlying3) enc w sp held m _ _ (show m<N by omega) f0 (cq Tryz.underlying39 hw (i:=0) rfl rfl)
 replace r0:(nz .i64).rel cH w v0 [c0]:=r0
 have q0:[c0]=[(Value.int .i64 v0)]:=r0
 have f1:DataW.trod enc Tryz.prog w 0 sp held m 9 (([c0,c1,c2,c3,c4,c5,c6,c7,c8,c9,c10,c11,c12].drop 1).take (Tryz.prog.cellsOf 9))=some x1:=hf 1 _ rfl
 rw[show Tryz.prog.cellsOf 9=1 by kernel_rfl]at f1
 obtain⟨v1,r1,k1,z1⟩:=(OpnB.str Tryz.underlying9) enc w sp held m _ _ (show m<N by omega) f1 (cq Tryz.underlying39 hw (i:=1) rfl rfl)
 replace r1:be.rel cH w v1 [c1]:=r1
 have q1:[c1]=[(str v1)]:=r1
 have f2:DataW.trod enc Tryz.prog w 0 sp held m 33 (([c0,c1,c2,c3,c4,c5,c6,c7,c8,c9,c10,c11,c12].drop 2).take (Tryz.prog.cellsOf 33))=some x2:=hf 2 _ rfl
 rw[show Tryz.prog.cellsOf 33=2 by kernel_rfl]at f2
 obtain⟨v2,r2,k2,z2⟩:=(NR _) enc w sp held m _ _ (show m<N by omega) f2 (cq Tryz.underlying39 hw (i:=2) rfl rfl)
 replace r2:M3.rel cH w v2 [c2,c3]:=r2
 have q2:[c2,c3]=[(Value.int .i64 v2.N),(Value.int .i64 v2.D)]:=r2
 have f3:DataW.trod enc Tryz.prog w 0 sp held m 35 (([c0,c1,c2,c3,c4,c5,c6,c7,c8,c9,c10,c11,c12].drop 4).take (Tryz.prog.cellsOf 35))=some x3:=hf 3 _ rfl
 rw[show Tryz.prog.cellsOf 35=5 by kernel_rfl]at f3
 obtain⟨v3,r3,k3,z3⟩:=(FB _) enc w sp held m _ _ (show m<N by omega) f3 (cq Tryz.underlying39 hw (i:=3) rfl rfl)
 replace r3:Dl.rel cH w v3 [c4,c5,c6,c7,c8]:=r3
 have q3:[c4,c5,c6,c7,c8]=[(Value.int .i64 v3.Kind),(Value.int .i64 v3.Bits),(Value.int .i64 v3.Frac),(Value.int .i64 v3.Round),(Value.int .i64 v3.Over)]:=r3
 have f4:DataW.trod enc Tryz.prog w 0 sp held m 27 (([c0,c1,c2,c3,c4,c5,c6,c7,c8,c9,c10,c11,c12].drop 9).take (Tryz.prog.cellsOf 27))=some x4:=hf 4 _ rfl
 rw[show Tryz.prog.cellsOf 27=2 by kernel_rfl]at f4
 obtain⟨v4,r4,k4,z4⟩:=(wQ _) enc w sp held m _ _ (show m<N by omega) f4 (cq Tryz.underlying39 hw (i:=4) rfl rfl)
 replace r4:dU.rel cH w v4 [c9,c10]:=r4
 obtain⟨A_4_0,c_4_0,q4,hf4_0⟩:=r4
 have f5:DataW.trod enc Tryz.prog w 0 sp held m 36 (([c0,c1,c2,c3,c4,c5,c6,c7,c8,c9,c10,c11,c12].drop 11).take (Tryz.prog.cellsOf 36))=some x5:=hf 5 _ rfl
 rw[show Tryz.prog.cellsOf 36=1 by kernel_rfl]at f5
 obtain⟨v5,r5,k5,z5⟩:=(OpnB.sl Tryz.underlying36 (by kernel_rfl) (by decide) (by kernel_rfl) (Ls _)) enc w sp held m _ _ (show m<N by omega) f5 (cq Tryz.underlying39 hw (i:=5) rfl rfl)
 replace r5:(Ik al).rel cH w v5 [c11]:=r5
 obtain⟨A_5_0,c_5_0,q5,hf5_0⟩:=r5
 have f6:DataW.trod enc Tryz.prog w 0 sp held m 37 (([c0,c1,c2,c3,c4,c5,c6,c7,c8,c9,c10,c11,c12].drop 12).take (Tryz.prog.cellsOf 37))=some x6:=hf 6 _ rfl
 rw[show Tryz.prog.cellsOf 37=1 by kernel_rfl]at f6
 obtain⟨v6,r6,k6,z6⟩:=(OpnB.sl Tryz.underlying37 (by kernel_rfl) (by decide) (by kernel_rfl) ih) enc w sp held m _ _ (show m<N by omega) f6 (cq Tryz.underlying39 hw (i:=6) rfl rfl)
 replace r6:(Ik an).rel cH w v6 [c12]:=r6
 obtain⟨A_6_0,c_6_0,q6,hf6_0⟩:=r6
 simp only[List.cons.injEq,and_true]at q0
 obtain rfl:=q0
 simp only[List.cons.injEq,and_true]at q1
 obtain rfl:=q1
 simp only[List.cons.injEq,and_true]at q2
 obtain⟨rfl,rfl⟩:=q2
 simp only[List.cons.injEq,and_true]at q3
 obtain⟨rfl,rfl,rfl,rfl,rfl⟩:=q3
 simp only[List.cons.injEq,and_true]at q4
 obtain⟨rfl,rfl⟩:=q4
 simp only[List.cons.injEq,and_true]at q5
 obtain rfl:=q5
 simp only[List.cons.injEq,and_true]at q6
 obtain rfl:=q6
 refine⟨⟨v0,v1,v2,v3,v4,v5,v6⟩,kE ⟨A_4_0,c_4_0,A_5_0,c_5_0,A_6_0,c_6_0,rfl,hf4_0,hf5_0,hf6_0⟩,nC.2 ⟨k0,k1,k2,k3,k4,k5,k6⟩,λM=>?_⟩
 have hM:=M.agg (([x0,x1,x2,x3,x4,x5,x6]:List (DataW H×List MemPlace)).map (·.1))
 simp only[List.map_cons,List.map_nil,List.sum_cons,List.sum_nil]at hM ⊢
 have y0:=z0 M
 have y1:=z1 M
 have y2:=z2 M
 have y3:=z3 M
 have y4:=z4 M
 have y5:=z5 M
 have y6:=z6 M
 rw[Ff]
 dsimp only at *
 omega
def mJ (x:aD):Prop:=okGLin x.Lin∧okB x.Eq
def cr (x:aD):Nat:=jP x.Lin
set_option maxRecDepth 100000 in
theorem Lt (N:Nat):OpnB Tryz.prog 107 az mJ cr N:=by
 intro H enc w sp held fuel cs x hN h hw
 obtain⟨xs,m,hm,hx,hl,hxs,hf⟩:=DataW.trod_struct Tryz.underlying107 h
 subst hx
 replace hxs:xs.length=2:=hxs
 rw[show Tryz.prog.cellsOf 107=3 by kernel_rfl]at hl
 obtain⟨c0,c1,c2,rfl⟩:∃ c0 c1 c2,cs=[c0,c1,c2]:=by(match cs,hl with | [c0,c1,c2],_=>exact⟨c0,c1,c2,rfl⟩)
 obtain⟨x0,x1,rfl⟩:∃ x0 x1,xs=[x0,x1]:=by(match xs,hxs with | [x0,x1],_=>exact⟨x0,x1,rfl⟩)
 have f0:DataW.trod enc Tryz.prog w 0 sp held m 27 (([c0,c1,c2].drop 0).take (Tryz.prog.cellsOf 27))=some x0:=hf 0 _ rfl
 rw[show Tryz.prog.cellsOf 27=2 by kernel_rfl]at f0
 obtain⟨v0,r0,k0,z0⟩:=(wQ _) enc w sp held m _ _ (show m<N by omega) f0 (cq Tryz.underlying107 hw (i:=0) rfl rfl)
 replace r0:dU.rel cH w v0 [c0,c1]:=r0
 obtain⟨A_0_0,c_0_0,q0,hf0_0⟩:=r0
 have f1:DataW.trod enc Tryz.prog w 0 sp held m 4 (([c0,c1,c2].drop 2).take (Tryz.prog.cellsOf 4))=some x1:=hf 1 _ rfl
 rw[show Tryz.prog.cellsOf 4=1 by kernel_rfl]at f1
 obtain⟨v1,r1,k1,z1⟩:=(OpnB.bool Tryz.underlying4) enc w sp held m _ _ (show m<N by omega) f1 (cq Tryz.underlying107 hw (i:=1) rfl rfl)
 replace r1:M4.rel cH w v1 [c2]:=r1
 have q1:[c2]=[(Value.bool v1)]:=r1
 simp only[List.cons.injEq,and_true]at q0
 obtain⟨rfl,rfl⟩:=q0
 simp only[List.cons.injEq,and_true]at q1
 obtain rfl:=q1
 refine⟨⟨v0,v1⟩,⟨A_0_0,c_0_0,rfl,hf0_0⟩,⟨k0,k1⟩,λM=>?_⟩
 have hM:=M.agg (([x0,x1]:List (DataW H×List MemPlace)).map (·.1))
 simp only[List.map_cons,List.map_nil,List.sum_cons,List.sum_nil]at hM ⊢
 have y0:=z0 M
 have y1:=z1 M
 unfold cr
 dsimp only at *
 omega
def qf (x:fE):Prop:=KK x.Name∧wg x.Type_∧(Cc okGLin) x.Dims
def ie (x:fE):Nat:=x.Name.length+pH x.Type_+(oz jP) x.Dims
set_option maxRecDepth 100000 in
theorem NM (N:Nat):OpnB Tryz.prog 95 bH qf ie N:=by
 intro H enc w sp held fuel cs x hN h hw
 obtain⟨xs,m,hm,hx,hl,hxs,hf⟩:=DataW.trod_struct Tryz.underlying95 h
 subst hx
 replace hxs:xs.length=3:=hxs
 rw[show Tryz.prog.cellsOf 95=7 by kernel_rfl]at hl
 obtain⟨c0,c1,c2,c3,c4,c5,c6,rfl⟩:∃ c0 c1 c2 c3 c4 c5 c6,cs=[c0,c1,c2,c3,c4,c5,c6]:=by(match cs,hl with | [c0,c1,c2,c3,c4,c5,c6],_=>exact⟨c0,c1,c2,c3,c4,c5,c6,rfl⟩)
 obtain⟨x0,x1,x2,rfl⟩:∃ x0 x1 x2,xs=[x0,x1,x2]:=by(match xs,hxs with | [x0,x1,x2],_=>exact⟨x0,x1,x2,rfl⟩)
 have f0:DataW.trod enc Tryz.prog w 0 sp held m 9 (([c0,c1,c2,c3,c4,c5,c6].drop 0).take (Tryz.prog.cellsOf 9))=some x0:=hf 0 _ rfl
 rw[show Tryz.prog.cellsOf 9=1 by kernel_rfl]at f0
 obtain⟨v0,r0,k0,z0⟩:=(OpnB.str Tryz.underlying9) enc w sp held m _ _ (show m<N by omega) f0 (cq Tryz.underlying95 hw (i:=0) rfl rfl)
 replace r0:be.rel cH w v0 [c0]:=r0
 have q0:[c0]=[(str v0)]:=r0
 have f1:DataW.trod enc Tryz.prog w 0 sp held m 35 (([c0,c1,c2,c3,c4,c5,c6].drop 1).take (Tryz.prog.cellsOf 35))=some x1:=hf 1 _ rfl
 rw[show Tryz.prog.cellsOf 35=5 by kernel_rfl]at f1
 obtain⟨v1,r1,k1,z1⟩:=(FB _) enc w sp held m _ _ (show m<N by omega) f1 (cq Tryz.underlying95 hw (i:=1) rfl rfl)
 replace r1:Dl.rel cH w v1 [c1,c2,c3,c4,c5]:=r1
 have q1:[c1,c2,c3,c4,c5]=[(Value.int .i64 v1.Kind),(Value.int .i64 v1.Bits),(Value.int .i64 v1.Frac),(Value.int .i64 v1.Round),(Value.int .i64 v1.Over)]:=r1
 have f2:DataW.trod enc Tryz.prog w 0 sp held m 93 (([c0,c1,c2,c3,c4,c5,c6].drop 6).take (Tryz.prog.cellsOf 93))=some x2:=hf 2 _ rfl
 rw[show Tryz.prog.cellsOf 93=1 by kernel_rfl]at f2
 obtain⟨v2,r2,k2,z2⟩:=(OpnB.sl Tryz.underlying93 (by kernel_rfl) (by decide) (by kernel_rfl) (wQ _)) enc w sp held m _ _ (show m<N by omega) f2 (cq Tryz.underlying95 hw (i:=2) rfl rfl)
 replace r2:(Ik dU).rel cH w v2 [c6]:=r2
 obtain⟨A_2_0,c_2_0,q2,hf2_0⟩:=r2
 simp only[List.cons.injEq,and_true]at q0
 obtain rfl:=q0
 simp only[List.cons.injEq,and_true]at q1
 obtain⟨rfl,rfl,rfl,rfl,rfl⟩:=q1
 simp only[List.cons.injEq,and_true]at q2
 obtain rfl:=q2
 refine⟨⟨v0,v1,v2⟩,⟨A_2_0,c_2_0,rfl,hf2_0⟩,⟨k0,k1,k2⟩,λM=>?_⟩
 have hM:=M.agg (([x0,x1,x2]:List (DataW H×List MemPlace)).map (·.1))
 simp only[List.map_cons,List.map_nil,List.sum_cons,List.sum_nil]at hM ⊢
 have y0:=z0 M
 have y1:=z1 M
 have y2:=z2 M
 unfold ie
 dsimp only at *
 omega
def uo (x:fG):Prop:=KK x.Name∧okGLin x.Size
def gp (x:fG):Nat:=x.Name.length+jP x.Size
set_option maxRecDepth 100000 in
theorem GU (N:Nat):OpnB Tryz.prog 204 cb uo gp N:=by
 intro H enc w sp held fuel cs x hN h hw
 obtain⟨xs,m,hm,hx,hl,hxs,hf⟩:=DataW.trod_struct Tryz.underlying204 h
 subst hx
 replace hxs:xs.length=2:=hxs
 rw[show Tryz.prog.cellsOf 204=3 by kernel_rfl]at hl
 obtain⟨c0,c1,c2,rfl⟩:∃ c0 c1 c2,cs=[c0,c1,c2]:=by(match cs,hl with | [c0,c1,c2],_=>exact⟨c0,c1,c2,rfl⟩)
 obtain⟨x0,x1,rfl⟩:∃ x0 x1,xs=[x0,x1]:=by(match xs,hxs with | [x0,x1],_=>exact⟨x0,x1,rfl⟩)
 have f0:DataW.trod enc Tryz.prog w 0 sp held m 9 (([c0,c1,c2].drop 0).take (Tryz.prog.cellsOf 9))=some x0:=hf 0 _ rfl
 rw[show Tryz.prog.cellsOf 9=1 by kernel_rfl]at f0
 obtain⟨v0,r0,k0,z0⟩:=(OpnB.str Tryz.underlying9) enc w sp held m _ _ (show m<N by omega) f0 (cq Tryz.underlying204 hw (i:=0) rfl rfl)
 replace r0:be.rel cH w v0 [c0]:=r0
 have q0:[c0]=[(str v0)]:=r0
 have f1:DataW.trod enc Tryz.prog w 0 sp held m 27 (([c0,c1,c2].drop 1).take (Tryz.prog.cellsOf 27))=some x1:=hf 1 _ rfl
 rw[show Tryz.prog.cellsOf 27=2 by kernel_rfl]at f1
 obtain⟨v1,r1,k1,z1⟩:=(wQ _) enc w sp held m _ _ (show m<N by omega) f1 (cq Tryz.underlying204 hw (i:=1) rfl rfl)
 replace r1:dU.rel cH w v1 [c1,c2]:=r1
 obtain⟨A_1_0,c_1_0,q1,hf1_0⟩:=r1
 simp only[List.cons.injEq,and_true]at q0
 obtain rfl:=q0
 simp only[List.cons.injEq,and_true]at q1
 obtain⟨rfl,rfl⟩:=q1
 refine⟨⟨v0,v1⟩,⟨A_1_0,c_1_0,rfl,hf1_0⟩,⟨k0,k1⟩,λM=>?_⟩
 have hM:=M.agg (([x0,x1]:List (DataW H×List MemPlace)).map (·.1))
 simp only[List.map_cons,List.map_nil,List.sum_cons,List.sum_nil]at hM ⊢
 have y0:=z0 M
 have y1:=z1 M
 unfold gp
 dsimp only at *
 omega
def wR (x:cU):Prop:=KK x.Name∧wg x.Type_∧(Cc uo) x.Dims∧(Cc uo) x.Red∧(GY .i64) x.Fold∧okGExpr x.Body
def nq (x:cU):Nat:=x.Name.length+pH x.Type_+(oz gp) x.Dims+(oz gp) x.Red+oO x.Body
set_option maxRecDepth 100000 in
theorem Lu (N:Nat):OpnB Tryz.prog 100 fb wR nq N:=by
 intro H enc w sp held fuel cs x hN h hw
 obtain⟨xs,m,hm,hx,hl,hxs,hf⟩:=DataW.trod_struct Tryz.underlying100 h
 subst hx
 replace hxs:xs.length=6:=hxs
 rw[show Tryz.prog.cellsOf 100=22 by kernel_rfl]at hl
 obtain⟨c0,c1,c2,c3,c4,c5,c6,c7,c8,c9,c10,c11,c12,c13,c14,c15,c16,c17,c18,c19,c20,c21,rfl⟩:∃ c0 c1 c2 c3 c4 c5 c6 c7 c8 c9 c10 c11 c12 c13 c14 c15 c16 c17 c18 c19 c20 c21,cs=[c0,c1,c2,c3,c4,c5,c6,c7,c8,c9,c10,c11,c12,c13,c14,c15,c16,c17,c18,c19,c20,c21]:=by(match cs,hl with | [c0,c1,c2,c3,c4,c5,c6,c7,c8,c9,c10,c11,c12,c13,c14,c15,c16,c17,c18,c19,c20,c21],_=>exact⟨c0,c1,c2,c3,c4,c5,c6,c7,c8,c9,c10,c11,c12,c13,c14,c15,c16,c17,c18,c19,c20,c21,rfl⟩)
 obtain⟨x0,x1,x2,x3,x4,x5,rfl⟩:∃ x0 x1 x2 x3 x4 x5,xs=[x0,x1,x2,x3,x4,x5]:=by(match xs,hxs with | [x0,x1,x2,x3,x4,x5],_=>exact⟨x0,x1,x2,x3,x4,x5,rfl⟩)
 have f0:DataW.trod enc Tryz.prog w 0 sp held m 9 (([c0,c1,c2,c3,c4,c5,c6,c7,c8,c9,c10,c11,c12,c13,c14,c15,c16,c17,c18,c19,c20,c21].drop 0).take (Tryz.prog.cellsOf 9))=some x0:=hf 0 _ rfl
 rw[show Tryz.prog.cellsOf 9=1 by kernel_rfl]at f0
 obtain⟨v0,r0,k0,z0⟩:=(OpnB.str Tryz.underlying9) enc w sp held m _ _ (show m<N by omega) f0 (cq Tryz.underlying100 hw (i:=0) rfl rfl)
 replace r0:be.rel cH w v0 [c0]:=r0
 have q0:[c0]=[(str v0)]:=r0
 have f1:DataW.trod enc Tryz.prog w 0 sp held m 35 (([c0,c1,c2,c3,c4,c5,c6,c7,c8,c9,c10,c11,c12,c13,c14,c15,c16,c17,c18,c19,c20,c21].drop 1).take (Tryz.prog.cellsOf 35))=some x1:=hf 1 _ rfl
 rw[show Tryz.prog.cellsOf 35=5 by kernel_rfl]at f1
 obtain⟨v1,r1,k1,z1⟩:=(FB _) enc w sp held m _ _ (show m<N by omega) f1 (cq Tryz.underlying100 hw (i:=1) rfl rfl)
 replace r1:Dl.rel cH w v1 [c1,c2,c3,c4,c5]:=r1
 have q1:[c1,c2,c3,c4,c5]=[(Value.int .i64 v1.Kind),(Value.int .i64 v1.Bits),(Value.int .i64 v1.Frac),(Value.int .i64 v1.Round),(Value.int .i64 v1.Over)]:=r1
 have f2:DataW.trod enc Tryz.prog w 0 sp held m 98 (([c0,c1,c2,c3,c4,c5,c6,c7,c8,c9,c10,c11,c12,c13,c14,c15,c16,c17,c18,c19,c20,c21].drop 6).take (Tryz.prog.cellsOf 98))=some x2:=hf 2 _ rfl
 rw[show Tryz.prog.cellsOf 98=1 by kernel_rfl]at f2
 obtain⟨v2,r2,k2,z2⟩:=(OpnB.sl Tryz.underlying98 (by kernel_rfl) (by decide) (by kernel_rfl) (GU _)) enc w sp held m _ _ (show m<N by omega) f2 (cq Tryz.underlying100 hw (i:=2) rfl rfl)
 replace r2:(Ik cb).rel cH w v2 [c6]:=r2
 obtain⟨A_2_0,c_2_0,q2,hf2_0⟩:=r2
 have f3:DataW.trod enc Tryz.prog w 0 sp held m 98 (([c0,c1,c2,c3,c4,c5,c6,c7,c8,c9,c10,c11,c12,c13,c14,c15,c16,c17,c18,c19,c20,c21].drop 7).take (Tryz.prog.cellsOf 98))=some x3:=hf 3 _ rfl
 rw[show Tryz.prog.cellsOf 98=1 by kernel_rfl]at f3
 obtain⟨v3,r3,k3,z3⟩:=(OpnB.sl Tryz.underlying98 (by kernel_rfl) (by decide) (by kernel_rfl) (GU _)) enc w sp held m _ _ (show m<N by omega) f3 (cq Tryz.underlying100 hw (i:=3) rfl rfl)
 replace r3:(Ik cb).rel cH w v3 [c7]:=r3
 obtain⟨A_3_0,c_3_0,q3,hf3_0⟩:=r3
 have f4:DataW.trod enc Tryz.prog w 0 sp held m 3 (([c0,c1,c2,c3,c4,c5,c6,c7,c8,c9,c10,c11,c12,c13,c14,c15,c16,c17,c18,c19,c20,c21].drop 8).take (Tryz.prog.cellsOf 3))=some x4:=hf 4 _ rfl
 rw[show Tryz.prog.cellsOf 3=1 by kernel_rfl]at f4
 obtain⟨v4,r4,k4,z4⟩:=(OpnB.int Tryz.underlying3) enc w sp held m _ _ (show m<N by omega) f4 (cq Tryz.underlying100 hw (i:=4) rfl rfl)
 replace r4:(nz .i64).rel cH w v4 [c8]:=r4
 have q4:[c8]=[(Value.int .i64 v4)]:=r4
 have f5:DataW.trod enc Tryz.prog w 0 sp held m 39 (([c0,c1,c2,c3,c4,c5,c6,c7,c8,c9,c10,c11,c12,c13,c14,c15,c16,c17,c18,c19,c20,c21].drop 9).take (Tryz.prog.cellsOf 39))=some x5:=hf 5 _ rfl
 rw[show Tryz.prog.cellsOf 39=13 by kernel_rfl]at f5
 obtain⟨v5,r5,k5,z5⟩:=(NQ _) enc w sp held m _ _ (show m<N by omega) f5 (cq Tryz.underlying100 hw (i:=5) rfl rfl)
 replace r5:an.rel cH w v5 [c9,c10,c11,c12,c13,c14,c15,c16,c17,c18,c19,c20,c21]:=r5
 obtain⟨A_5_0,c_5_0,A_5_2,c_5_2,A_5_4,c_5_4,q5,hf5_0,hf5_1,hf5_2⟩:=ci r5
 simp only[List.cons.injEq,and_true]at q0
 obtain rfl:=q0
 simp only[List.cons.injEq,and_true]at q1
 obtain⟨rfl,rfl,rfl,rfl,rfl⟩:=q1
 simp only[List.cons.injEq,and_true]at q2
 obtain rfl:=q2
 simp only[List.cons.injEq,and_true]at q3
 obtain rfl:=q3
 simp only[List.cons.injEq,and_true]at q4
 obtain rfl:=q4
 simp only[List.cons.injEq,and_true]at q5
 obtain⟨rfl,rfl,rfl,rfl,rfl,rfl,rfl,rfl,rfl,rfl,rfl,rfl,rfl⟩:=q5
 refine⟨⟨v0,v1,v2,v3,v4,v5⟩,⟨A_2_0,c_2_0,A_3_0,c_3_0,A_5_0,c_5_0,A_5_2,c_5_2,A_5_4,c_5_4,rfl,hf2_0,hf3_0,hf5_0,hf5_1,hf5_2⟩,⟨k0,k1,k2,k3,k4,k5⟩,λM=>?_⟩
 have hM:=M.agg (([x0,x1,x2,x3,x4,x5]:List (DataW H×List MemPlace)).map (·.1))
 simp only[List.map_cons,List.map_nil,List.sum_cons,List.sum_nil]at hM ⊢
 have y0:=z0 M
 have y1:=z1 M
 have y2:=z2 M
 have y3:=z3 M
 have y4:=z4 M
 have y5:=z5 M
 unfold nq
 dsimp only at *
 omega
def yj (x:aV):Prop:=(Cc KK) x.Sizes∧(Cc mJ) x.Where∧(Cc qf) x.Params∧(Cc wR) x.Defs∧(Cc KK) x.Outs
def vN (x:aV):Nat:=(oz List.length) x.Sizes+(oz cr) x.Where+(oz ie) x.Params+(oz nq) x.Defs+(oz List.length) x.Outs
set_option maxRecDepth 100000 in
theorem NO (N:Nat):OpnB Tryz.prog 55 Pg yj vN N:=by
 intro H enc w sp held fuel cs x hN h hw
 obtain⟨xs,m,hm,hx,hl,hxs,hf⟩:=DataW.trod_struct Tryz.underlying55 h
 subst hx
 replace hxs:xs.length=5:=hxs
 rw[show Tryz.prog.cellsOf 55=5 by kernel_rfl]at hl
 obtain⟨c0,c1,c2,c3,c4,rfl⟩:∃ c0 c1 c2 c3 c4,cs=[c0,c1,c2,c3,c4]:=by(match cs,hl with | [c0,c1,c2,c3,c4],_=>exact⟨c0,c1,c2,c3,c4,rfl⟩)
 obtain⟨x0,x1,x2,x3,x4,rfl⟩:∃ x0 x1 x2 x3 x4,xs=[x0,x1,x2,x3,x4]:=by(match xs,hxs with | [x0,x1,x2,x3,x4],_=>exact⟨x0,x1,x2,x3,x4,rfl⟩)
 have f0:DataW.trod enc Tryz.prog w 0 sp held m 50 (([c0,c1,c2,c3,c4].drop 0).take (Tryz.prog.cellsOf 50))=some x0:=hf 0 _ rfl
 rw[show Tryz.prog.cellsOf 50=1 by kernel_rfl]at f0
 obtain⟨v0,r0,k0,z0⟩:=(OpnB.sl Tryz.underlying50 (by kernel_rfl) (by decide) (by kernel_rfl) (OpnB.str Tryz.underlying9)) enc w sp held m _ _ (show m<N by omega) f0 (cq Tryz.underlying55 hw (i:=0) rfl rfl)
 replace r0:(Ik be).rel cH w v0 [c0]:=r0
 obtain⟨A_0_0,c_0_0,q0,hf0_0⟩:=r0
 have f1:DataW.trod enc Tryz.prog w 0 sp held m 51 (([c0,c1,c2,c3,c4].drop 1).take (Tryz.prog.cellsOf 51))=some x1:=hf 1 _ rfl
 rw[show Tryz.prog.cellsOf 51=1 by kernel_rfl]at f1
 obtain⟨v1,r1,k1,z1⟩:=(OpnB.sl Tryz.underlying51 (by kernel_rfl) (by decide) (by kernel_rfl) (Lt _)) enc w sp held m _ _ (show m<N by omega) f1 (cq Tryz.underlying55 hw (i:=1) rfl rfl)
 replace r1:(Ik az).rel cH w v1 [c1]:=r1
 obtain⟨A_1_0,c_1_0,q1,hf1_0⟩:=r1
 have f2:DataW.trod enc Tryz.prog w 0 sp held m 52 (([c0,c1,c2,c3,c4].drop 2).take (Tryz.prog.cellsOf 52))=some x2:=hf 2 _ rfl
 rw[show Tryz.prog.cellsOf 52=1 by kernel_rfl]at f2
 obtain⟨v2,r2,k2,z2⟩:=(OpnB.sl Tryz.underlying52 (by kernel_rfl) (by decide) (by kernel_rfl) (NM _)) enc w sp held m _ _ (show m<N by omega) f2 (cq Tryz.underlying55 hw (i:=2) rfl rfl)
 replace r2:(Ik bH).rel cH w v2 [c2]:=r2
 obtain⟨A_2_0,c_2_0,q2,hf2_0⟩:=r2
 have f3:DataW.trod enc Tryz.prog w 0 sp held m 53 (([c0,c1,c2,c3,c4].drop 3).take (Tryz.prog.cellsOf 53))=some x3:=hf 3 _ rfl
 rw[show Tryz.prog.cellsOf 53=1 by kernel_rfl]at f3
 obtain⟨v3,r3,k3,z3⟩:=(OpnB.sl Tryz.underlying53 (by kernel_rfl) (by decide) (by kernel_rfl) (Lu _)) enc w sp held m _ _ (show m<N by omega) f3 (cq Tryz.underlying55 hw (i:=3) rfl rfl)
 replace r3:(Ik fb).rel cH w v3 [c3]:=r3
 obtain⟨A_3_0,c_3_0,q3,hf3_0⟩:=r3
 have f4:DataW.trod enc Tryz.prog w 0 sp held m 50 (([c0,c1,c2,c3,c4].drop 4).take (Tryz.prog.cellsOf 50))=some x4:=hf 4 _ rfl
 rw[show Tryz.prog.cellsOf 50=1 by kernel_rfl]at f4
 obtain⟨v4,r4,k4,z4⟩:=(OpnB.sl Tryz.underlying50 (by kernel_rfl) (by decide) (by kernel_rfl) (OpnB.str Tryz.underlying9)) enc w sp held m _ _ (show m<N by omega) f4 (cq Tryz.underlying55 hw (i:=4) rfl rfl)
 replace r4:(Ik be).rel cH w v4 [c4]:=r4
 obtain⟨A_4_0,c_4_0,q4,hf4_0⟩:=r4
 simp only[List.cons.injEq,and_true]at q0
 obtain rfl:=q0
 simp only[List.cons.injEq,and_true]at q1
 obtain rfl:=q1
 simp only[List.cons.injEq,and_true]at q2
 obtain rfl:=q2
 simp only[List.cons.injEq,and_true]at q3
 obtain rfl:=q3
 simp only[List.cons.injEq,and_true]at q4
 obtain rfl:=q4
 refine⟨⟨v0,v1,v2,v3,v4⟩,⟨A_0_0,c_0_0,A_1_0,c_1_0,A_2_0,c_2_0,A_3_0,c_3_0,A_4_0,c_4_0,rfl,hf0_0,hf1_0,hf2_0,hf3_0,hf4_0⟩,⟨k0,k1,k2,k3,k4⟩,λM=>?_⟩
 have hM:=M.agg (([x0,x1,x2,x3,x4]:List (DataW H×List MemPlace)).map (·.1))
 simp only[List.map_cons,List.map_nil,List.sum_cons,List.sum_nil]at hM ⊢
 have y0:=z0 M
 have y1:=z1 M
 have y2:=z2 M
 have y3:=z3 M
 have y4:=z4 M
 unfold vN
 dsimp only at *
 omega
end Go.Proofs.YtmhoikfoogemnaaGreatDoor
