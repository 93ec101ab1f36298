import Derived.Test.YtmhoikfoogemnaaGreatDoorMMd
import Derived.Test.YtmhoikfoogemnaaGreatDoorMXm
namespace Go.Proofs.YtmhoikfoogemnaaGreatDoor
open Go Go.RowKit Go.Vc
set_option linter.unusedVariables false
set_option linter.unusedSimpArgs false
open Go.WideShapes
def yA (x:bj):Prop:=(DE .i64) x.N∧(DE .i64) x.D
def yn (x:bj):Nat:=0
set_option maxRecDepth 100000 in
theorem Iy (N:Nat):OpnB Tryz.prog 33 HZ yA yn N:=by
 intro H enc w sp held fuel cs x hN h hw
 obtain⟨xs,m,hm,hx,hl,hxs,hf⟩:=DataW.trod_struct Tryz.underlying33 h
 subst hx
 replace hxs:xs.length=2:=hxs
 rw[show Tryz.prog.cellsOf 33=2 by kernel_rfl]at hl
 obtain⟨c0,c1,rfl⟩:∃ c0 c1,cs=[c0,c1]:=by(match cs,hl with | [c0,c1],_=>exact⟨c0,c1,rfl⟩)
 obtain⟨x0,x1,rfl⟩:∃ x0 x1,xs=[x0,x1]:=by(match xs,hxs with | [x0,x1],_=>exact⟨x0,x1,rfl⟩)
 have f0:DataW.trod enc Tryz.prog w 0 sp held m 2 (([c0,c1].drop 0).take (Tryz.prog.cellsOf 2))=some x0:=hf 0 _ rfl
 rw[show Tryz.prog.cellsOf 2=1 by kernel_rfl]at f0
 obtain⟨v0,r0,k0,z0⟩:=(OpnB.int Tryz.underlying2) enc w sp held m _ _ (show m<N by omega) f0 (gb Tryz.underlying33 hw (i:=0) rfl rfl)
 replace r0:(hH .i64).rel d7 w v0 [c0]:=r0
 have q0:[c0]=[(Value.int .i64 v0)]:=r0
 have f1:DataW.trod enc Tryz.prog w 0 sp held m 2 (([c0,c1].drop 1).take (Tryz.prog.cellsOf 2))=some x1:=hf 1 _ rfl
 rw[show Tryz.prog.cellsOf 2=1 by kernel_rfl]at f1
 obtain⟨v1,r1,k1,z1⟩:=(OpnB.int Tryz.underlying2) enc w sp held m _ _ (show m<N by omega) f1 (gb Tryz.underlying33 hw (i:=1) rfl rfl)
 replace r1:(hH .i64).rel d7 w v1 [c1]:=r1
 have q1:[c1]=[(Value.int .i64 v1)]:=r1
 simp only[List.cons.injEq,and_true]at q0
 obtain rfl:=q0
 simp only[List.cons.injEq,and_true]at q1
 obtain rfl:=q1
 refine⟨⟨v0,v1⟩,rfl,⟨k0,k1⟩,fun M=> ?_⟩
 have hM:=M.agg (([x0,x1]:List (DataW H×List MemPlace)).map (·.1))
 simp only[List.map_cons,List.map_nil,List.sum_cons,List.sum_nil]at hM ⊢
 have y0:=z0 M
 have y1:=z1 M
 unfold yn
 dsimp only at *
 omega
def yB (x:aM):Prop:=(DE .i64) x.Kind∧(DE .i64) x.Bits∧(DE .i64) x.Frac∧(DE .i64) x.Round∧(DE .i64) x.Over
def uI (x:aM):Nat:=0
set_option maxRecDepth 100000 in
theorem Ix (N:Nat):OpnB Tryz.prog 35 FQ yB uI N:=by
 intro H enc w sp held fuel cs x hN h hw
 obtain⟨xs,m,hm,hx,hl,hxs,hf⟩:=DataW.trod_struct Tryz.underlying35 h
 subst hx
 replace hxs:xs.length=5:=hxs
 rw[show Tryz.prog.cellsOf 35=5 by kernel_rfl]at hl
 obtain⟨c0,c1,c2,c3,c4,rfl⟩:∃ c0 c1 c2 c3 c4,cs=[c0,c1,c2,c3,c4]:=by(match cs,hl with | [c0,c1,c2,c3,c4],_=>exact⟨c0,c1,c2,c3,c4,rfl⟩)
 obtain⟨x0,x1,x2,x3,x4,rfl⟩:∃ x0 x1 x2 x3 x4,xs=[x0,x1,x2,x3,x4]:=by(match xs,hxs with | [x0,x1,x2,x3,x4],_=>exact⟨x0,x1,x2,x3,x4,rfl⟩)
 have f0:DataW.trod enc Tryz.prog w 0 sp held m 3 (([c0,c1,c2,c3,c4].drop 0).take (Tryz.prog.cellsOf 3))=some x0:=hf 0 _ rfl
 rw[show Tryz.prog.cellsOf 3=1 by kernel_rfl]at f0
 obtain⟨v0,r0,k0,z0⟩:=(OpnB.int Tryz.underlying3) enc w sp held m _ _ (show m<N by omega) f0 (gb Tryz.underlying35 hw (i:=0) rfl rfl)
 replace r0:(hH .i64).rel d7 w v0 [c0]:=r0
 have q0:[c0]=[(Value.int .i64 v0)]:=r0
 have f1:DataW.trod enc Tryz.prog w 0 sp held m 3 (([c0,c1,c2,c3,c4].drop 1).take (Tryz.prog.cellsOf 3))=some x1:=hf 1 _ rfl
 rw[show Tryz.prog.cellsOf 3=1 by kernel_rfl]at f1
 obtain⟨v1,r1,k1,z1⟩:=(OpnB.int Tryz.underlying3) enc w sp held m _ _ (show m<N by omega) f1 (gb Tryz.underlying35 hw (i:=1) rfl rfl)
 replace r1:(hH .i64).rel d7 w v1 [c1]:=r1
 have q1:[c1]=[(Value.int .i64 v1)]:=r1
 have f2:DataW.trod enc Tryz.prog w 0 sp held m 3 (([c0,c1,c2,c3,c4].drop 2).take (Tryz.prog.cellsOf 3))=some x2:=hf 2 _ rfl
 rw[show Tryz.prog.cellsOf 3=1 by kernel_rfl]at f2
 obtain⟨v2,r2,k2,z2⟩:=(OpnB.int Tryz.underlying3) enc w sp held m _ _ (show m<N by omega) f2 (gb Tryz.underlying35 hw (i:=2) rfl rfl)
 replace r2:(hH .i64).rel d7 w v2 [c2]:=r2
 have q2:[c2]=[(Value.int .i64 v2)]:=r2
 have f3:DataW.trod enc Tryz.prog w 0 sp held m 3 (([c0,c1,c2,c3,c4].drop 3).take (Tryz.prog.cellsOf 3))=some x3:=hf 3 _ rfl
 rw[show Tryz.prog.cellsOf 3=1 by kernel_rfl]at f3
 obtain⟨v3,r3,k3,z3⟩:=(OpnB.int Tryz.underlying3) enc w sp held m _ _ (show m<N by omega) f3 (gb Tryz.underlying35 hw (i:=3) rfl rfl)
 replace r3:(hH .i64).rel d7 w v3 [c3]:=r3
 have q3:[c3]=[(Value.int .i64 v3)]:=r3
 have f4:DataW.trod enc Tryz.prog w 0 sp held m 3 (([c0,c1,c2,c3,c4].drop 4).take (Tryz.prog.cellsOf 3))=some x4:=hf 4 _ rfl
 rw[show Tryz.prog.cellsOf 3=1 by kernel_rfl]at f4
 obtain⟨v4,r4,k4,z4⟩:=(OpnB.int Tryz.underlying3) enc w sp held m _ _ (show m<N by omega) f4 (gb Tryz.underlying35 hw (i:=4) rfl rfl)
 replace r4:(hH .i64).rel d7 w v4 [c4]:=r4
 have q4:[c4]=[(Value.int .i64 v4)]:=r4
 simp only[List.cons.injEq,and_true]at q0
 obtain rfl:=q0
 simp only[List.cons.injEq,and_true]at q1
 obtain rfl:=q1
 simp only[List.cons.injEq,and_true]at q2
 obtain rfl:=q2
 simp only[List.cons.injEq,and_true]at q3
 obtain rfl:=q3
 simp only[List.cons.injEq,and_true]at q4
 obtain rfl:=q4
 refine⟨⟨v0,v1,v2,v3,v4⟩,rfl,⟨k0,k1,k2,k3,k4⟩,fun M=> ?_⟩
 have hM:=M.agg (([x0,x1,x2,x3,x4]:List (DataW H×List MemPlace)).map (·.1))
 simp only[List.map_cons,List.map_nil,List.sum_cons,List.sum_nil]at hM ⊢
 have y0:=z0 M
 have y1:=z1 M
 have y2:=z2 M
 have y3:=z3 M
 have y4:=z4 M
 unfold uI
 dsimp only at *
 omega
def CO (x:aw):Prop:=Kw x.Name∧(DE .i64) x.By
def yo (x:aw):Nat:=x.Name.length
set_option maxRecDepth 100000 in
theorem Iv (N:Nat):OpnB Tryz.prog 64 ag CO yo N:=by
 intro H enc w sp held fuel cs x hN h hw
 obtain⟨xs,m,hm,hx,hl,hxs,hf⟩:=DataW.trod_struct Tryz.underlying64 h
 subst hx
 replace hxs:xs.length=2:=hxs
 rw[show Tryz.prog.cellsOf 64=2 by kernel_rfl]at hl
 obtain⟨c0,c1,rfl⟩:∃ c0 c1,cs=[c0,c1]:=by(match cs,hl with | [c0,c1],_=>exact⟨c0,c1,rfl⟩)
 obtain⟨x0,x1,rfl⟩:∃ x0 x1,xs=[x0,x1]:=by(match xs,hxs with | [x0,x1],_=>exact⟨x0,x1,rfl⟩)
 have f0:DataW.trod enc Tryz.prog w 0 sp held m 9 (([c0,c1].drop 0).take (Tryz.prog.cellsOf 9))=some x0:=hf 0 _ rfl
 rw[show Tryz.prog.cellsOf 9=1 by kernel_rfl]at f0
 obtain⟨v0,r0,k0,z0⟩:=(OpnB.str Tryz.underlying9) enc w sp held m _ _ (show m<N by omega) f0 (gb Tryz.underlying64 hw (i:=0) rfl rfl)
 replace r0:fp.rel d7 w v0 [c0]:=r0
 have q0:[c0]=[(str v0)]:=r0
 have f1:DataW.trod enc Tryz.prog w 0 sp held m 2 (([c0,c1].drop 1).take (Tryz.prog.cellsOf 2))=some x1:=hf 1 _ rfl
 rw[show Tryz.prog.cellsOf 2=1 by kernel_rfl]at f1
 obtain⟨v1,r1,k1,z1⟩:=(OpnB.int Tryz.underlying2) enc w sp held m _ _ (show m<N by omega) f1 (gb Tryz.underlying64 hw (i:=1) rfl rfl)
 replace r1:(hH .i64).rel d7 w v1 [c1]:=r1
 have q1:[c1]=[(Value.int .i64 v1)]:=r1
 simp only[List.cons.injEq,and_true]at q0
 obtain rfl:=q0
 simp only[List.cons.injEq,and_true]at q1
 obtain rfl:=q1
 refine⟨⟨v0,v1⟩,rfl,⟨k0,k1⟩,fun M=> ?_⟩
 have hM:=M.agg (([x0,x1]:List (DataW H×List MemPlace)).map (·.1))
 simp only[List.map_cons,List.map_nil,List.sum_cons,List.sum_nil]at hM ⊢
 have y0:=z0 M
 have y1:=z1 M
 unfold yo
 dsimp only at *
 omega
def okGLin (x:ay):Prop:=(DE .i64) x.K∧(HH CO) x.L
def tn (x:ay):Nat:=(F8 yo) x.L
set_option maxRecDepth 100000 in
theorem Bw (N:Nat):OpnB Tryz.prog 27 ga okGLin tn N:=by
 intro H enc w sp held fuel cs x hN h hw
 obtain⟨xs,m,hm,hx,hl,hxs,hf⟩:=DataW.trod_struct Tryz.underlying27 h
 subst hx
 replace hxs:xs.length=2:=hxs
 rw[show Tryz.prog.cellsOf 27=2 by kernel_rfl]at hl
 obtain⟨c0,c1,rfl⟩:∃ c0 c1,cs=[c0,c1]:=by(match cs,hl with | [c0,c1],_=>exact⟨c0,c1,rfl⟩)
 obtain⟨x0,x1,rfl⟩:∃ x0 x1,xs=[x0,x1]:=by(match xs,hxs with | [x0,x1],_=>exact⟨x0,x1,rfl⟩)
 have f0:DataW.trod enc Tryz.prog w 0 sp held m 2 (([c0,c1].drop 0).take (Tryz.prog.cellsOf 2))=some x0:=hf 0 _ rfl
 rw[show Tryz.prog.cellsOf 2=1 by kernel_rfl]at f0
 obtain⟨v0,r0,k0,z0⟩:=(OpnB.int Tryz.underlying2) enc w sp held m _ _ (show m<N by omega) f0 (gb Tryz.underlying27 hw (i:=0) rfl rfl)
 replace r0:(hH .i64).rel d7 w v0 [c0]:=r0
 have q0:[c0]=[(Value.int .i64 v0)]:=r0
 have f1:DataW.trod enc Tryz.prog w 0 sp held m 25 (([c0,c1].drop 1).take (Tryz.prog.cellsOf 25))=some x1:=hf 1 _ rfl
 rw[show Tryz.prog.cellsOf 25=1 by kernel_rfl]at f1
 obtain⟨v1,r1,k1,z1⟩:=(OpnB.sl Tryz.underlying25 (by kernel_rfl) (by decide) (by kernel_rfl) (Iv _)) enc w sp held m _ _ (show m<N by omega) f1 (gb Tryz.underlying27 hw (i:=1) rfl rfl)
 replace r1:(KT ag).rel d7 w v1 [c1]:=r1
 obtain⟨A_1_0,c_1_0,q1,hf1_0⟩:=r1
 simp only[List.cons.injEq,and_true]at q0
 obtain rfl:=q0
 simp only[List.cons.injEq,and_true]at q1
 obtain rfl:=q1
 refine⟨⟨v0,v1⟩,⟨A_1_0,c_1_0,rfl,hf1_0⟩,⟨k0,k1⟩,fun M=> ?_⟩
 have hM:=M.agg (([x0,x1]:List (DataW H×List MemPlace)).map (·.1))
 simp only[List.map_cons,List.map_nil,List.sum_cons,List.sum_nil]at hM ⊢
 have y0:=z0 M
 have y1:=z1 M
 unfold tn
 dsimp only at *
 omega
def l5 (x:av):Prop:=okGLin x.Lin∧Kw x.From∧(HH okGLin) x.At
def sc (x:av):Nat:=tn x.Lin+x.From.length+(F8 tn) x.At
set_option maxRecDepth 100000 in
theorem GM (N:Nat):OpnB Tryz.prog 132 ai l5 sc N:=by
 intro H enc w sp held fuel cs x hN h hw
 obtain⟨xs,m,hm,hx,hl,hxs,hf⟩:=DataW.trod_struct Tryz.underlying132 h
 subst hx
 replace hxs:xs.length=3:=hxs
 rw[show Tryz.prog.cellsOf 132=4 by kernel_rfl]at hl
 obtain⟨c0,c1,c2,c3,rfl⟩:∃ c0 c1 c2 c3,cs=[c0,c1,c2,c3]:=by(match cs,hl with | [c0,c1,c2,c3],_=>exact⟨c0,c1,c2,c3,rfl⟩)
 obtain⟨x0,x1,x2,rfl⟩:∃ x0 x1 x2,xs=[x0,x1,x2]:=by(match xs,hxs with | [x0,x1,x2],_=>exact⟨x0,x1,x2,rfl⟩)
 have f0:DataW.trod enc Tryz.prog w 0 sp held m 27 (([c0,c1,c2,c3].drop 0).take (Tryz.prog.cellsOf 27))=some x0:=hf 0 _ rfl
 rw[show Tryz.prog.cellsOf 27=2 by kernel_rfl]at f0
 obtain⟨v0,r0,k0,z0⟩:=(Bw _) enc w sp held m _ _ (show m<N by omega) f0 (gb Tryz.underlying132 hw (i:=0) rfl rfl)
 replace r0:ga.rel d7 w v0 [c0,c1]:=r0
 obtain⟨A_0_0,c_0_0,q0,hf0_0⟩:=r0
 have f1:DataW.trod enc Tryz.prog w 0 sp held m 9 (([c0,c1,c2,c3].drop 2).take (Tryz.prog.cellsOf 9))=some x1:=hf 1 _ rfl
 rw[show Tryz.prog.cellsOf 9=1 by kernel_rfl]at f1
 obtain⟨v1,r1,k1,z1⟩:=(OpnB.str Tryz.underlying9) enc w sp held m _ _ (show m<N by omega) f1 (gb Tryz.underlying132 hw (i:=1) rfl rfl)
 replace r1:fp.rel d7 w v1 [c2]:=r1
 have q1:[c2]=[(str v1)]:=r1
 have f2:DataW.trod enc Tryz.prog w 0 sp held m 93 (([c0,c1,c2,c3].drop 3).take (Tryz.prog.cellsOf 93))=some x2:=hf 2 _ rfl
 rw[show Tryz.prog.cellsOf 93=1 by kernel_rfl]at f2
 obtain⟨v2,r2,k2,z2⟩:=(OpnB.sl Tryz.underlying93 (by kernel_rfl) (by decide) (by kernel_rfl) (Bw _)) enc w sp held m _ _ (show m<N by omega) f2 (gb Tryz.underlying132 hw (i:=2) rfl rfl)
 replace r2:(KT ga).rel d7 w v2 [c3]:=r2
 obtain⟨A_2_0,c_2_0,q2,hf2_0⟩:=r2
 simp only[List.cons.injEq,and_true]at q0
 obtain⟨rfl,rfl⟩:=q0
 simp only[List.cons.injEq,and_true]at q1
 obtain rfl:=q1
 simp only[List.cons.injEq,and_true]at q2
 obtain rfl:=q2
 refine⟨⟨v0,v1,v2⟩,⟨A_0_0,c_0_0,A_2_0,c_2_0,rfl,hf0_0,hf2_0⟩,⟨k0,k1,k2⟩,fun M=> ?_⟩
 have hM:=M.agg (([x0,x1,x2]:List (DataW H×List MemPlace)).map (·.1))
 simp only[List.map_cons,List.map_nil,List.sum_cons,List.sum_nil]at hM ⊢
 have y0:=z0 M
 have y1:=z1 M
 have y2:=z2 M
 unfold sc
 dsimp only at *
 omega
inductive okGExpr:ac→Prop where
 | mk {x:ac} (h0:(DE .i64) x.Op) (h1:Kw x.Name) (h2:yA x.Val) (h3:yB x.Type_) (h4:okGLin x.Lin) (h5:(HH l5) x.Idx) (hl:x.Args.length≤140737488355328) (hr:∀ y∈x.Args,okGExpr y):okGExpr x
theorem lQ {x:ac} :okGExpr x↔((DE .i64) x.Op∧Kw x.Name∧yA x.Val∧yB x.Type_∧okGLin x.Lin∧(HH l5) x.Idx∧(HH okGExpr) x.Args):=⟨fun h=>by cases h with | mk h0 h1 h2 h3 h4 h5 hl hr=>exact⟨h0,h1,h2,h3,h4,h5,⟨hr,hl⟩⟩,fun⟨h0,h1,h2,h3,h4,h5,⟨hr,hl⟩⟩=> .mk h0 h1 h2 h3 h4 h5 hl hr⟩
def ov:ac→Nat
 | ⟨v0,v1,v2,v3,v4,v5,v6⟩=>v1.length+yn v2+uI v3+tn v4+(F8 sc) v5+go v6+v6.length
 where go:List ac→Nat
  | []=>0
  | x::xs=>ov x+go xs
theorem tQ:∀ (xs:List ac),ov.go xs=(xs.map ov).sum
 | []=>rfl
 | x::xs=>by rw[ov.go,tQ xs,List.map_cons,List.sum_cons]
theorem Bg (x:ac):ov x=x.Name.length+yn x.Val+uI x.Type_+tn x.Lin+(F8 sc) x.Idx+(F8 ov) x.Args:=by
 cases x with | mk v0 v1 v2 v3 v4 v5 v6=>rw[ov,tQ];simp only[F8];omega
set_option maxRecDepth 100000 in
theorem Iw (N:Nat):OpnB Tryz.prog 39 al okGExpr ov N:=by
 induction N with
 | zero=>exact OpnB.zero
 | succ N ih=>
 intro H enc w sp held fuel cs x hN h hw
 obtain⟨xs,m,hm,hx,hl,hxs,hf⟩:=DataW.trod_struct Tryz.underlying39 h
 subst hx
 replace hxs:xs.length=7:=hxs
 rw[show Tryz.prog.cellsOf 39=13 by kernel_rfl]at hl
 obtain⟨c0,c1,c2,c3,c4,c5,c6,c7,c8,c9,c10,c11,c12,rfl⟩:∃ c0 c1 c2 c3 c4 c5 c6 c7 c8 c9 c10 c11 c12,cs=[c0,c1,c2,c3,c4,c5,c6,c7,c8,c9,c10,c11,c12]:=by(match cs,hl with | [c0,c1,c2,c3,c4,c5,c6,c7,c8,c9,c10,c11,c12],_=>exact⟨c0,c1,c2,c3,c4,c5,c6,c7,c8,c9,c10,c11,c12,rfl⟩)
 obtain⟨x0,x1,x2,x3,x4,x5,x6,rfl⟩:∃ x0 x1 x2 x3 x4 x5 x6,xs=[x0,x1,x2,x3,x4,x5,x6]:=by(match xs,hxs with | [x0,x1,x2,x3,x4,x5,x6],_=>exact⟨x0,x1,x2,x3,x4,x5,x6,rfl⟩)
 have f0:DataW.trod enc Tryz.prog w 0 sp held m 3 (([c0,c1,c2,c3,c4,c5,c6,c7,c8,c9,c10,c11,c12].drop 0).take (Tryz.prog.cellsOf 3))=some x0:=hf 0 _ rfl
 rw[show Tryz.prog.cellsOf 3=1 by kernel_rfl]at f0
 obtain⟨v0,r0,k0,z0⟩:=(OpnB.int Tryz.underlying3) enc w sp held m _ _ (show m<N by omega) f0 (gb Tryz.underlying39 hw (i:=0) rfl rfl)
 replace r0:(hH .i64).rel d7 w v0 [c0]:=r0
 have q0:[c0]=[(Value.int .i64 v0)]:=r0
 have f1:DataW.trod enc Tryz.prog w 0 sp held m 9 (([c0,c1,c2,c3,c4,c5,c6,c7,c8,c9,c10,c11,c12].drop 1).take (Tryz.prog.cellsOf 9))=some x1:=hf 1 _ rfl
 rw[show Tryz.prog.cellsOf 9=1 by kernel_rfl]at f1
 obtain⟨v1,r1,k1,z1⟩:=(OpnB.str Tryz.underlying9) enc w sp held m _ _ (show m<N by omega) f1 (gb Tryz.underlying39 hw (i:=1) rfl rfl)
 replace r1:fp.rel d7 w v1 [c1]:=r1
 have q1:[c1]=[(str v1)]:=r1
 have f2:DataW.trod enc Tryz.prog w 0 sp held m 33 (([c0,c1,c2,c3,c4,c5,c6,c7,c8,c9,c10,c11,c12].drop 2).take (Tryz.prog.cellsOf 33))=some x2:=hf 2 _ rfl
 rw[show Tryz.prog.cellsOf 33=2 by kernel_rfl]at f2
 obtain⟨v2,r2,k2,z2⟩:=(Iy _) enc w sp held m _ _ (show m<N by omega) f2 (gb Tryz.underlying39 hw (i:=2) rfl rfl)
 replace r2:HZ.rel d7 w v2 [c2,c3]:=r2
 have q2:[c2,c3]=[(Value.int .i64 v2.N),(Value.int .i64 v2.D)]:=r2
 have f3:DataW.trod enc Tryz.prog w 0 sp held m 35 (([c0,c1,c2,c3,c4,c5,c6,c7,c8,c9,c10,c11,c12].drop 4).take (Tryz.prog.cellsOf 35))=some x3:=hf 3 _ rfl
 rw[show Tryz.prog.cellsOf 35=5 by kernel_rfl]at f3
 obtain⟨v3,r3,k3,z3⟩:=(Ix _) enc w sp held m _ _ (show m<N by omega) f3 (gb Tryz.underlying39 hw (i:=3) rfl rfl)
 replace r3:FQ.rel d7 w v3 [c4,c5,c6,c7,c8]:=r3
 have q3:[c4,c5,c6,c7,c8]=[(Value.int .i64 v3.Kind),(Value.int .i64 v3.Bits),(Value.int .i64 v3.Frac),(Value.int .i64 v3.Round),(Value.int .i64 v3.Over)]:=r3
 have f4:DataW.trod enc Tryz.prog w 0 sp held m 27 (([c0,c1,c2,c3,c4,c5,c6,c7,c8,c9,c10,c11,c12].drop 9).take (Tryz.prog.cellsOf 27))=some x4:=hf 4 _ rfl
 rw[show Tryz.prog.cellsOf 27=2 by kernel_rfl]at f4
 obtain⟨v4,r4,k4,z4⟩:=(Bw _) enc w sp held m _ _ (show m<N by omega) f4 (gb Tryz.underlying39 hw (i:=4) rfl rfl)
 replace r4:ga.rel d7 w v4 [c9,c10]:=r4
 obtain⟨A_4_0,c_4_0,q4,hf4_0⟩:=r4
 have f5:DataW.trod enc Tryz.prog w 0 sp held m 36 (([c0,c1,c2,c3,c4,c5,c6,c7,c8,c9,c10,c11,c12].drop 11).take (Tryz.prog.cellsOf 36))=some x5:=hf 5 _ rfl
 rw[show Tryz.prog.cellsOf 36=1 by kernel_rfl]at f5
 obtain⟨v5,r5,k5,z5⟩:=(OpnB.sl Tryz.underlying36 (by kernel_rfl) (by decide) (by kernel_rfl) (GM _)) enc w sp held m _ _ (show m<N by omega) f5 (gb Tryz.underlying39 hw (i:=5) rfl rfl)
 replace r5:(KT ai).rel d7 w v5 [c11]:=r5
 obtain⟨A_5_0,c_5_0,q5,hf5_0⟩:=r5
 have f6:DataW.trod enc Tryz.prog w 0 sp held m 37 (([c0,c1,c2,c3,c4,c5,c6,c7,c8,c9,c10,c11,c12].drop 12).take (Tryz.prog.cellsOf 37))=some x6:=hf 6 _ rfl
 rw[show Tryz.prog.cellsOf 37=1 by kernel_rfl]at f6
 obtain⟨v6,r6,k6,z6⟩:=(OpnB.sl Tryz.underlying37 (by kernel_rfl) (by decide) (by kernel_rfl) ih) enc w sp held m _ _ (show m<N by omega) f6 (gb Tryz.underlying39 hw (i:=6) rfl rfl)
 replace r6:(KT al).rel d7 w v6 [c12]:=r6
 obtain⟨A_6_0,c_6_0,q6,hf6_0⟩:=r6
 simp only[List.cons.injEq,and_true]at q0
 obtain rfl:=q0
 simp only[List.cons.injEq,and_true]at q1
 obtain rfl:=q1
 simp only[List.cons.injEq,and_true]at q2
 obtain⟨rfl,rfl⟩:=q2
 simp only[List.cons.injEq,and_true]at q3
 obtain⟨rfl,rfl,rfl,rfl,rfl⟩:=q3
 simp only[List.cons.injEq,and_true]at q4
 obtain⟨rfl,rfl⟩:=q4
 simp only[List.cons.injEq,and_true]at q5
 obtain rfl:=q5
 simp only[List.cons.injEq,and_true]at q6
 obtain rfl:=q6
 refine⟨⟨v0,v1,v2,v3,v4,v5,v6⟩,ez ⟨A_4_0,c_4_0,A_5_0,c_5_0,A_6_0,c_6_0,rfl,hf4_0,hf5_0,hf6_0⟩,lQ.2 ⟨k0,k1,k2,k3,k4,k5,k6⟩,fun M=> ?_⟩
 have hM:=M.agg (([x0,x1,x2,x3,x4,x5,x6]:List (DataW H×List MemPlace)).map (·.1))
 simp only[List.map_cons,List.map_nil,List.sum_cons,List.sum_nil]at hM ⊢
 have y0:=z0 M
 have y1:=z1 M
 have y2:=z2 M
 have y3:=z3 M
 have y4:=z4 M
 have y5:=z5 M
 have y6:=z6 M
 rw[Bg]
 dsimp only at *
 omega
end Go.Proofs.YtmhoikfoogemnaaGreatDoor
