import Derived.Test.YtmhoikfoogemnaaGreatDoorKCQ3f
import Derived.Test.YtmhoikfoogemnaaGreatDoorKLfJ
namespace Go.Proofs.YtmhoikfoogemnaaGreatDoor
open Go Go.RowKit Go.Vc
set_option maxRecDepth 100000
set_option maxHeartbeats 4000000
set_option linter.unusedVariables false
set_option linter.unusedSimpArgs false
def kJ:Tr:=(.c (5,.s) .n)
def kI:Tr:=(.c (4,.s) .n)
variable {σ:Type} {C0 F:NP} {w0:World} {a1 a2 a3 a4 a5 a6 a7 a8 a9 a10 a11 a12:Option Addr} {b1 b2 b3 b4 b5 b6 b7 b8 b9 b10 b11 b12 c1 c2 c3 c4 c5 c6 c7 c8 c9 c10 c11 c12:Nat}
theorem rP (hF:dG F w0) {p1:ac} (hc:AllCl [Cl.sl ag a1 c1 p1.L] F w0) {r:GIndex×ac} (h:gp p1=some r):Cg 237 #[(Value.agg (ab p1 a1 c1))] w0 fun e w=>∃ a2 c2 a3 c3 a4 c4,e= .returned (Value.tuple #[(Value.agg (mO r.1 a2 c2 a3 c3)),(Value.agg (ab r.2 a4 c4))])∧Ext w0 w∧AllCl [Cl.sl ai a2 c2 r.1.Lin.L,Cl.sl fS a3 c3 r.1.At,Cl.sl ag a4 c4 r.2.L] F w:=by
 refine EN Tryz.func237 Tryz.ntmps237 hF hc fun hI=> ?_
 rw[gp]at h
 refine sr (mS (v:=(Value.agg (ab p1 a1 c1))) (cs:=(ab p1 a1 c1)) hI gn rfl rfl et rfl ?_)
 intro b1 c5 w1 hI
 refine lN fun b2 c6 w2 hI=> ?_
 refine lN fun b3 c7 w3 hI=> ?_
 refine nk (al (T ?_))
 refine sB h (fun _ k=>pm hI.lt FS k) (Rc Tryz.func133) fun r1 w4 h hI=> ?_
 refine sm ?_
 refine az (aT rfl rfl rfl rfl) rfl (fun hc=>(am (l:=(ah p1 a1 c1)) rfl et j5 rfl aG (CellsAt.of_blk (hI.blk (.s (.s .z))) rfl))) ?_
 obtain⟨r2,hx3,h⟩:=ae h
 replace hx3:=ay hx3
 refine sU (fun hc=>bv hI.lt FS (hx3 hc)) (Rg Tryz.func72) fun w5 hI=> ?_
 refine TC (fun hb h=> ?_) fun hb h=> ?_
 ·refine T ?_
  obtain⟨r3,hx5,h⟩:=ae h
  refine aB gn rfl (Rc Tryz.func134) (Calls.mono (oB hI.lt FS hx5) ?_)
  rintro _ w6 ⟨a5,c8,rfl,hx6,hl3⟩
  refine⟨_,rfl,?_⟩
  replace hI:=(hI.ext hx6).adds hl3;dsimp only[ca,na]at hI
  refine T ?_
  refine lN fun b4 c9 w7 hI=> ?_
  refine sa ?_
  refine lA fun c10 w8 hI=> ?_
  refine T ?_
  obtain⟨r4,hx7,h⟩:=ae h
  refine aB gn rfl (Rc Tryz.func110) (Calls.mono (cr hI.lt FS hx7) ?_)
  rintro _ w9 ⟨a6,c11,rfl,hx8,hl4⟩
  refine⟨_,rfl,?_⟩
  replace hI:=(hI.ext hx8).adds hl4;dsimp only[ca,na]at hI
  obtain⟨r5,hx9,h⟩:=ae h
  refine aB gn rfl (Rc Tryz.func179) (Calls.mono (xn hI.lt FS hx9) ?_)
  rintro _ w10 ⟨a7,c12,a8,c13,rfl,hx10,hl5⟩
  refine⟨_,rfl,?_⟩
  replace hI:=(hI.ext hx10).adds hl5;dsimp only[ca,na]at hI
  refine T ?_
  refine lA fun c14 w11 hI=> ?_
  refine nk (al (aI [4,5] false (.c (0,.q) (.c (1,.q) (.c (2,.q) (.two 3 (.c (4,.s) kJ) 4 (.c (3,.s) kJ))))) hI (by kernel_rfl) (by kernel_rfl) ?_))
  intro w15 hI
  refine cj (α:=NP) (T:=kJ) (fun x=>[(0,(Value.agg (ab p1 a1 c1))),(1,vp b1 0),(2,vp b2 0),(3,vp b3 0),(4,(aE r3.1)),(5,vp b4 0),(6,vs a7 r5.1.length c12),(8,(Value.agg (ab p1 a1 c1))),(9,vb r1),(10,vb r1),(11,(gv r1 (Value.agg (ab p1 a1 c1)))),(12,(gv r1 (vb r2))),(13,vb (r1&&r2)),(14,(Value.tuple #[(aE r3.1),(Value.agg (ab r3.2 a5 c8))])),(15,(Value.agg (ab p1 a1 c1))),(16,(Value.tuple #[(aE r3.1),(Value.agg (ab r3.2 a5 c8))])),(17,(aE r3.1)),(18,(Value.agg (ab r3.2 a5 c8))),(19,(Value.tuple #[vs a7 r5.1.length c12,(Value.agg (ab r5.2 a8 c13))])),(20,(Value.agg (ab r3.2 a5 c8))),(21,(Value.agg (ab r4 a6 c11))),(22,(Value.tuple #[vs a7 r5.1.length c12,(Value.agg (ab r5.2 a8 c13))])),(23,vs a7 r5.1.length c12),(24,(Value.agg (ab r5.2 a8 c13))),(25,(aE r3.1)),(26,vs a7 r5.1.length c12),(27,(Value.agg #[vi 0,vs none 0 0,(aE r3.1),vs a7 r5.1.length c12])),(28,(Value.agg (ab r5.2 a8 c13)))]) (fun x w=>Bun du F w0 x w [MO.box b4 72 (ab r5.2 a8 c13),MO.box b3 72 au,MO.box b2 132 #[vi 0,vs none 0 0,(aE r3.1),vs a7 r5.1.length c12],MO.box b1 72 (ab p1 a1 c1)] [Cl.sl fS a7 c12 r5.1,Cl.sl ag a8 c13 r5.2.L,Cl.sl ag a6 c11 r4.L,Cl.sl ag a5 c8 r3.2.L,Cl.sl ag a1 c1 p1.L]) (fun x w=>SN [] (DM true F x) w) ?_ ?_
  ·clear hI;rintro c17 w14 hI
   try dsimp only at hI ⊢
   unfold kJ
   refine vA fun c16 w13 hI=> ?_
   refine V ?_
   refine aA ?_
   have hI:=hI.add (c:=Cl.sl ai none 0 ([]:List GMono)) SlC.nil
   obtain rfl:=aj h
   refine QG ?_
   exact⟨none,0,a7,c12,a8,c13,rfl,hI.ext0,hI.fin ⟨.z,(.s .z),(.s (.s .z)),trivial⟩⟩
  intro hk_tr_ref16_index_1_0
  refine V ?_
  refine l6 rfl gn rfl (fun w'=>(ax (vs:=[(1,(aE r3.1)),(2,vs a7 r5.1.length c12)]) (cs:=#[vi 0,vs none 0 0,(aE r3.1),vs a7 r5.1.length c12]) rfl ⟨rfl,et,⟨rfl,et,trivial⟩⟩ (by kernel_rfl))) ?_
  refine da ?_ ?_
  ·skip
   refine bn rfl gn rfl (am (l:=(ah r5.2 a8 c13)) rfl et j5 rfl aG (CellsAt.of_blk (hI.blk .z) rfl)) SX.self ?_
   refine bJ (F:=F) (C:=c14) rfl rfl ?_
   refine vA fun c15 w12 hI=> ?_
   exact aW (hk_tr_ref16_index_1_0 c15 _ (hI.arr GO SU)) SB
  refine bu (F:=F) (C:=c14) rfl rfl ?_
  refine vA fun c15 w12 hI=> ?_
  refine bn rfl gn rfl (am (l:=(ah r5.2 a8 c13)) rfl et j5 rfl aG (CellsAt.of_blk (hI.blk .z) rfl)) SX.self ?_
  exact aW (hk_tr_ref16_index_1_0 c15 _ (hI.arr GO SU)) SB
 refine T ?_
 obtain⟨r6,hx11,h⟩:=ae h
 refine aB gn rfl (Rc Tryz.func32) (Calls.mono (oC hI.lt FS hx11) ?_)
 rintro _ w16 ⟨a9,c18,a10,c19,rfl,hx12,hl6⟩
 refine⟨_,rfl,?_⟩
 replace hI:=(hI.ext hx12).adds hl6;dsimp only[ca,na]at hI
 refine T ?_
 refine lN fun b5 c20 w17 hI=> ?_
 refine lA fun c21 w18 hI=> ?_
 refine lA fun c22 w19 hI=> ?_
 refine nk (al (aI [3,4] false (.c (0,.q) (.c (1,.q) (.two 2 (.c (3,.s) kI) 3 (.c (2,.s) kI)))) hI (by kernel_rfl) (by kernel_rfl) ?_))
 intro w23 hI
 refine cj (α:=NP) (T:=kI) (fun x=>[(0,(Value.agg (ab p1 a1 c1))),(1,vp b1 0),(2,vp b2 0),(3,vp b3 0),(7,vp b5 0),(8,(Value.agg (ab p1 a1 c1))),(9,vb r1),(10,vb r1),(11,(gv r1 (Value.agg (ab p1 a1 c1)))),(12,(gv r1 (vb r2))),(13,vb (r1&&r2)),(29,(Value.tuple #[(Value.agg (bQ r6.1 a9 c18)),(Value.agg (ab r6.2 a10 c19))])),(30,(Value.agg (ab p1 a1 c1))),(31,(Value.tuple #[(Value.agg (bQ r6.1 a9 c18)),(Value.agg (ab r6.2 a10 c19))])),(32,(Value.agg (bQ r6.1 a9 c18))),(33,(Value.agg (ab r6.2 a10 c19))),(34,(Value.agg (bQ r6.1 a9 c18))),(35,(Value.agg #[vi r6.1.K,vs a9 r6.1.L.length c18,(aE ([]:List UInt8)),vs none 0 0])),(36,(Value.agg (ab r6.2 a10 c19)))]) (fun x w=>Bun du F w0 x w [MO.box b5 27 (bQ r6.1 a9 c18),MO.box b3 72 au,MO.box b2 132 #[vi r6.1.K,vs a9 r6.1.L.length c18,(aE ([]:List UInt8)),vs none 0 0],MO.box b1 72 (ab r6.2 a10 c19)] [Cl.sl ai a9 c18 r6.1.L,Cl.sl ag a10 c19 r6.2.L,Cl.sl ag a1 c1 p1.L]) (fun x w=>SN [] (DM true F x) w) ?_ ?_
 ·clear hI;rintro c25 w22 hI
  try dsimp only at hI ⊢
  unfold kI
  refine vA fun c24 w21 hI=> ?_
  refine V ?_
  refine aA ?_
  have hI:=hI.add (c:=Cl.sl fS none 0 ([]:List GLin)) SlC.nil
  obtain rfl:=aj h
  refine QG ?_
  exact⟨a9,c18,none,0,a10,c19,rfl,hI.ext0,hI.fin ⟨(.s .z),.z,(.s (.s .z)),trivial⟩⟩
 intro hk_tr_ref16_index_2_0
 refine ct rfl gn rfl (fun w' hw'=>(am (l:=(gc r6.1 a9 c18)) rfl et oy rfl bt ((CA.blk (hI.blk .z) rfl).at_ (SX.any rfl hw')))) (by kernel_rfl) ?_
 refine l6 rfl gn rfl (fun w'=>(ax (vs:=[(0,(Value.agg (bQ r6.1 a9 c18)))]) (cs:=#[vi r6.1.K,vs a9 r6.1.L.length c18,(aE ([]:List UInt8)),vs none 0 0]) rfl ⟨rfl,et,trivial⟩ (by kernel_rfl))) ?_
 refine da ?_ ?_
 ·skip
  refine bn rfl gn rfl (am (l:=(ah r6.2 a10 c19)) rfl et j5 rfl aG (CellsAt.of_blk (hI.blk (.s (.s (.s .z)))) rfl)) SX.self ?_
  refine bJ (F:=F) (C:=c22) rfl rfl ?_
  refine vA fun c23 w20 hI=> ?_
  exact aW (hk_tr_ref16_index_2_0 c23 _ (hI.arr GO SU)) SB
 refine bu (F:=F) (C:=c22) rfl rfl ?_
 refine vA fun c23 w20 hI=> ?_
 refine bn rfl gn rfl (am (l:=(ah r6.2 a10 c19)) rfl et j5 rfl aG (CellsAt.of_blk (hI.blk (.s (.s (.s .z)))) rfl)) SX.self ?_
 exact aW (hk_tr_ref16_index_2_0 c23 _ (hI.arr GO SU)) SB
def lj:Tr:=(.c (3,.s) .n)
theorem yM (hF:dG F w0) {p1:ac} (hc:AllCl [Cl.sl ag a1 c1 p1.L] F w0) {r:GExpr×ac} (h:iN p1=some r):Cg 211 #[(Value.agg (ab p1 a1 c1))] w0 fun e w=>∃ a2 c2 a3 c3 a4 c4 a5 c5,e= .returned (Value.tuple #[(Value.agg (aq r.1 a2 c2 a3 c3 a4 c4)),(Value.agg (ab r.2 a5 c5))])∧Ext w0 w∧AllCl [Cl.sl ai a2 c2 r.1.Lin.L,Cl.sl ak a3 c3 r.1.Idx,Cl.sl an a4 c4 r.1.Args,Cl.sl ag a5 c5 r.2.L] F w:=by
 refine EN Tryz.func211 Tryz.ntmps211 hF hc fun hI=> ?_
 rw[iN]at h
 refine sr (mS (v:=(Value.agg (ab p1 a1 c1))) (cs:=(ab p1 a1 c1)) hI gn rfl rfl et rfl ?_)
 intro b1 c6 w1 hI
 refine lN fun b2 c7 w2 hI=> ?_
 refine lN fun b3 c8 w3 hI=> ?_
 refine T ?_
 obtain⟨r1,hx1,h⟩:=ae h
 refine aB gn rfl (Rc Tryz.func134) (Calls.mono (oB hI.lt FS hx1) ?_)
 rintro _ w4 ⟨a6,c9,rfl,hx2,hl1⟩
 refine⟨_,rfl,?_⟩
 replace hI:=(hI.ext hx2).adds hl1;dsimp only[ca,na]at hI
 refine T ?_
 refine lA fun c10 w5 hI=> ?_
 refine T ?_
 obtain⟨r2,hx3,h⟩:=ae h
 refine aB gn rfl (Rc Tryz.func110) (Calls.mono (cr hI.lt FS hx3) ?_)
 rintro _ w6 ⟨a7,c11,rfl,hx4,hl2⟩
 refine⟨_,rfl,?_⟩
 replace hI:=(hI.ext hx4).adds hl2;dsimp only[ca,na]at hI
 refine lA fun c12 w7 hI=> ?_
 refine T ?_
 refine sq (ax (vs:=[(0,vi 3),(1,(aE r1.1))]) (cs:=#[vi 3,(aE r1.1),vi 0,vi 0,vi 0,vi 0,vi 0,vi 0,vi 0,vi 0,vs none 0 0,vs none 0 0,vs none 0 0]) rfl ⟨rfl,ao,⟨rfl,et,trivial⟩⟩ (by kernel_rfl)) ?_
 refine lN fun b4 c13 w8 hI=> ?_
 refine lA fun c14 w9 hI=> ?_
 refine nk (al (T ?_))
 refine sB h (fun _ k=>bv hI.lt FS k) (Rc Tryz.func72) fun r3 w10 h hI=> ?_
 refine TC (fun hb h=> ?_) fun hb h=> ?_
 ·refine T ?_
  refine lS fun c15 w11 hI=> ?_
  refine nk (al (aI [2,3] false (.c (0,.q) (.two 1 (.c (2,.s) lj) 2 (.c (1,.s) lj))) hI (by kernel_rfl) (by kernel_rfl) ?_))
  intro w15 hI
  refine cj (α:=NP) (T:=lj) (fun x=>[(0,(Value.agg (ab p1 a1 c1))),(1,vp b1 0),(2,vp b2 0),(3,vp b3 0),(4,(aE r1.1)),(5,vp b4 0),(7,(Value.tuple #[(aE r1.1),(Value.agg (ab r1.2 a6 c9))])),(8,(Value.agg (ab p1 a1 c1))),(9,(Value.tuple #[(aE r1.1),(Value.agg (ab r1.2 a6 c9))])),(10,(aE r1.1)),(11,(Value.agg (ab r1.2 a6 c9))),(12,(Value.agg (ab r1.2 a6 c9))),(13,(Value.agg (ab r2 a7 c11))),(14,(aE r1.1)),(15,(Value.agg #[vi 3,(aE r1.1),vi 0,vi 0,vi 0,vi 0,vi 0,vi 0,vi 0,vi 0,vs none 0 0,vs none 0 0,vs none 0 0])),(16,(Value.agg (ab r2 a7 c11))),(17,vb r3),(18,vp b1 1),(19,vi r2.At),(20,(vi (ar (r2.At+1)))),(21,vp b1 1),(22,(Value.agg #[vi 3,(aE r1.1),vi 0,vi 0,vi 0,vi 0,vi 0,vi 0,vi 0,vi 0,vs none 0 0,vs none 0 0,vs none 0 0])),(23,(Value.agg #[vs a7 r2.L.length c11,(vi (ar (r2.At+1))),vi r2.Deep,vi r2.E,vi r2.Pos]))]) (fun x w=>Bun du F w0 x w [MO.box b4 39 #[vi 3,(aE r1.1),vi 0,vi 0,vi 0,vi 0,vi 0,vi 0,vi 0,vi 0,vs none 0 0,vs none 0 0,vs none 0 0],MO.box b3 72 au,MO.box b2 39 #[vi 3,(aE r1.1),vi 0,vi 0,vi 0,vi 0,vi 0,vi 0,vi 0,vi 0,vs none 0 0,vs none 0 0,vs none 0 0],MO.box b1 72 #[vs a7 r2.L.length c11,(vi (ar (r2.At+1))),vi r2.Deep,vi r2.E,vi r2.Pos]] [Cl.sl ag a7 c11 r2.L,Cl.sl ag a6 c9 r1.2.L,Cl.sl ag a1 c1 p1.L]) (fun x w=>SN [] (DM true F x) w) ?_ ?_
  ·clear hI;rintro c18 w14 hI
   try dsimp only at hI ⊢
   unfold lj
   refine vA fun c17 w13 hI=> ?_
   refine V ?_
   refine aA ?_
   have hI:=hI.add (c:=Cl.sl ai none 0 ([]:List GMono)) SlC.nil
   have hI:=hI.add (c:=Cl.sl ak none 0 ([]:List GIndex)) SlC.nil
   have hI:=hI.add (c:=Cl.sl an none 0 ([]:List GExpr)) SlC.nil
   obtain rfl:=aj h
   refine QG ?_
   exact⟨none,0,none,0,none,0,a7,c11,rfl,hI.ext0,hI.fin ⟨(.s (.s .z)),(.s .z),.z,(.s (.s (.s .z))),trivial⟩⟩
  intro hk_tr_ref16_read_1_0
  refine ct rfl gn rfl (fun w' hw'=>(am (l:=[vi 3,(aE r1.1),vi 0,vi 0,vi 0,vi 0,vi 0,vi 0,vi 0,vi 0,vs none 0 0,vs none 0 0,vs none 0 0]) rfl et jT rfl aC ((CA.blk (hI.blk .z) rfl).at_ (SX.any rfl hw')))) (by kernel_rfl) ?_
  refine da ?_ ?_
  ·skip
   refine bn rfl gn rfl (am (l:=[vs a7 r2.L.length c11,(vi (ar (r2.At+1))),vi r2.Deep,vi r2.E,vi r2.Pos]) rfl et j5 rfl aG (CellsAt.of_blk (hI.blk (.s (.s (.s .z)))) rfl)) SX.self ?_
   refine bJ (F:=F) (C:=c15) rfl rfl ?_
   refine vA fun c16 w12 hI=> ?_
   exact aW (hk_tr_ref16_read_1_0 c16 _ (hI.arr GO SU)) SB
  refine bu (F:=F) (C:=c15) rfl rfl ?_
  refine vA fun c16 w12 hI=> ?_
  refine bn rfl gn rfl (am (l:=[vs a7 r2.L.length c11,(vi (ar (r2.At+1))),vi r2.Deep,vi r2.E,vi r2.Pos]) rfl et j5 rfl aG (CellsAt.of_blk (hI.blk (.s (.s (.s .z)))) rfl)) SX.self ?_
  exact aW (hk_tr_ref16_read_1_0 c16 _ (hI.arr GO SU)) SB
 refine T ?_
 obtain⟨r4,hx7,h⟩:=ae h
 refine aB gn rfl (Rc Tryz.func237) (Calls.mono (rP hI.lt FS hx7) ?_)
 rintro _ w16 ⟨a8,c19,a9,c20,a10,c21,rfl,hx8,hl4⟩
 refine⟨_,rfl,?_⟩
 replace hI:=(hI.ext hx8).adds hl4;dsimp only[ca,na]at hI
 refine T ?_
 refine lN fun b5 c22 w17 hI=> ?_
 refine lA fun c23 w18 hI=> ?_
 refine lA fun c24 w19 hI=> ?_
 refine T ?_
 refine ll hI ak ([r4.1]:List GIndex) oe (.cs ⟨a8,c19,a9,c20,rfl,hI.get .z,hI.get (.s .z)⟩ .nl) fun b6 c25 w20 hI=> ?_
 obtain⟨zs1,hx9,h⟩:=ae h
 replace hI:=hI.nil ak 132 none
 refine lY (xs:=([]:List GIndex)) (ys:=([r4.1]:List GIndex)) hI .z (hI.rd (.s .z)) hx9 gn rfl rfl AF oe rfl rfl et et ?_
 intro a11 c26 c27 w21 hI
 refine T ?_
 refine lS fun c28 w22 hI=> ?_
 refine T ?_
 refine bw (α:=GIndex×GExpr×ac×(Option Addr)×Nat×(Option Addr)×Nat×(Option Addr)×Nat×(Option Addr)×Nat×(Option Addr)×Nat×(Option Addr)×Nat) (fun _=>⟨55,[]⟩) (fun x=>[(1,vp b1 0),(2,vp b2 0),(3,vp b3 0),(5,vp b4 0)]) (fun x=>fun w=>∃ C,Bun du F w0 C w [MO.row ai 64 (x.2.2.2.2.2.2.2.1) (x.2.2.2.2.2.2.2.2.1) (x.2.1).Lin.L,MO.row ak 132 (x.2.2.2.2.2.2.2.2.2.1) (x.2.2.2.2.2.2.2.2.2.2.1) (x.2.1).Idx,MO.row an 39 (x.2.2.2.2.2.2.2.2.2.2.2.1) (x.2.2.2.2.2.2.2.2.2.2.2.2.1) (x.2.1).Args,MO.box b1 72 (ab (x.2.2.1) (x.2.2.2.2.2.2.2.2.2.2.2.2.2.1) (x.2.2.2.2.2.2.2.2.2.2.2.2.2.2)),MO.box b2 39 #[vi 0,(aE ([]:List UInt8)),vi 0,vi 0,vi 0,vi 0,vi 0,vi 0,vi 0,vi 0,vs none 0 0,vs none 0 0,vs none 0 0],MO.box b3 72 au,MO.box b4 39 (aq (x.2.1) (x.2.2.2.2.2.2.2.1) (x.2.2.2.2.2.2.2.2.1) (x.2.2.2.2.2.2.2.2.2.1) (x.2.2.2.2.2.2.2.2.2.2.1) (x.2.2.2.2.2.2.2.2.2.2.2.1) (x.2.2.2.2.2.2.2.2.2.2.2.2.1))] [Cl.sl ai (x.2.2.2.1) (x.2.2.2.2.1) (x.1).Lin.L,Cl.sl fS (x.2.2.2.2.2.1) (x.2.2.2.2.2.2.1) (x.1).At,Cl.sl ag (x.2.2.2.2.2.2.2.2.2.2.2.2.2.1) (x.2.2.2.2.2.2.2.2.2.2.2.2.2.2) (x.2.2.1).L]∧kT (x.1) (x.2.1) (x.2.2.1)=some r) ?_ ?_
 ·clear h hI;rintro⟨x1,bg,p2,a12,c29,a13,c30,a14,c31,a15,c32,a16,c33,a17,c34⟩ w23 ⟨c35,hI,h⟩
  try dsimp only at hI h ⊢
  rw[kT]at h
  refine al (aI [3,4] false (.c (0,.q) (.c (1,.q) (.c (2,.s) (.c (3,.s) (.c (4,.s) .n))))) hI (by kernel_rfl) (by kernel_rfl) ?_)
  intro w24 hI
  refine ct rfl gn rfl (fun w' hw'=>(am (l:=(aX bg a14 c31 a15 c32 a16 c33)) rfl et jT rfl aC ((CA.blk (hI.blk (.s (.s (.s (.s (.s (.s .z))))))) rfl).at_ (SX.any rfl hw')))) (by kernel_rfl) ?_
  refine ct rfl gn rfl (fun w' hw'=>(am (l:=(ah p2 a17 c34)) rfl et j5 rfl aG ((CA.blk (hI.blk (.s (.s (.s .z)))) rfl).at_ (SX.any rfl hw')))) (by kernel_rfl) ?_
  obtain⟨r5,hx10,h⟩:=ae h
  refine dC rfl gn rfl (aF (vs:=[(Value.agg (ab p2 a17 c34)),(aE ([93]:List UInt8))]) rfl vW ⟨et,⟨ao,trivial⟩⟩) (Calls.mono (cr hI.lt FS hx10) ?_)
  rintro _ w25 ⟨a18,c36,rfl,hx11,hl5⟩
  refine⟨_,rfl,hx11,?_⟩
  replace hI:=(hI.ext hx11).adds hl5;dsimp only[ca,na]at hI
  refine bJ (F:=F) (C:=c35) rfl rfl ?_
  refine vA fun c37 w26 hI=> ?_
  refine vA fun c38 w27 hI=> ?_
  refine V ?_
  refine aA ?_
  obtain⟨c39,hI⟩:=hI.release .z
  obtain⟨c40,hI⟩:=hI.release .z
  obtain⟨c41,hI⟩:=hI.release .z
  obtain rfl:=aj h
  refine QG ?_
  exact⟨a14,c31,a15,c32,a16,c33,a18,c36,rfl,hI.ext0,hI.fin ⟨(.s (.s .z)),(.s .z),.z,(.s (.s (.s .z))),trivial⟩⟩
 refine T ?_
 have hI:=hI.nil ai 64 none
 have hI:=hI.nil an 39 none
 refine bh (α:=Nat×ac×GExpr×GIndex×(Option Addr)×Nat×(Option Addr)×Nat×(Option Addr)×Nat×(Option Addr)×Nat×(Option Addr)×Nat×(Option Addr)×Nat) (fun x=>fun w=>∃ C,Bun du F w0 C w [MO.row ai 64 (x.2.2.2.2.2.2.1) (x.2.2.2.2.2.2.2.1) (x.2.2.1).Lin.L,MO.row ak 132 (x.2.2.2.2.2.2.2.2.1) (x.2.2.2.2.2.2.2.2.2.1) (x.2.2.1).Idx,MO.row an 39 (x.2.2.2.2.2.2.2.2.2.2.1) (x.2.2.2.2.2.2.2.2.2.2.2.1) (x.2.2.1).Args,MO.box b1 72 (ab (x.2.1) (x.2.2.2.2.1) (x.2.2.2.2.2.1)),MO.box b2 39 #[vi 0,(aE ([]:List UInt8)),vi 0,vi 0,vi 0,vi 0,vi 0,vi 0,vi 0,vi 0,vs none 0 0,vs none 0 0,vs none 0 0],MO.box b3 72 au,MO.box b4 39 (aq (x.2.2.1) (x.2.2.2.2.2.2.1) (x.2.2.2.2.2.2.2.1) (x.2.2.2.2.2.2.2.2.1) (x.2.2.2.2.2.2.2.2.2.1) (x.2.2.2.2.2.2.2.2.2.2.1) (x.2.2.2.2.2.2.2.2.2.2.2.1)),MO.box b5 132 (mO (x.2.2.2.1) (x.2.2.2.2.2.2.2.2.2.2.2.2.1) (x.2.2.2.2.2.2.2.2.2.2.2.2.2.1) (x.2.2.2.2.2.2.2.2.2.2.2.2.2.2.1) (x.2.2.2.2.2.2.2.2.2.2.2.2.2.2.2))] [Cl.sl ag (x.2.2.2.2.1) (x.2.2.2.2.2.1) (x.2.1).L,Cl.sl ai (x.2.2.2.2.2.2.2.2.2.2.2.2.1) (x.2.2.2.2.2.2.2.2.2.2.2.2.2.1) (x.2.2.2.1).Lin.L,Cl.sl fS (x.2.2.2.2.2.2.2.2.2.2.2.2.2.2.1) (x.2.2.2.2.2.2.2.2.2.2.2.2.2.2.2) (x.2.2.2.1).At]∧eO (x.1) (x.2.1) (x.2.2.1) (x.2.2.2.1)=some r) (fun x _=>x.1) (fun x=>[(1,vp b1 0),(2,vp b2 0),(3,vp b3 0),(5,vp b4 0),(6,vp b5 0)]) (fu,r4.2,(⟨3,r1.1,(⟨0,0⟩:GVal),(⟨0,0,0,0,0⟩:GType),(⟨0,([]:List GMono)⟩:GLin),zs1,([]:List GExpr)⟩:GExpr),r4.1,a10,c21,none,0,a11,c26,none,0,a8,c19,a9,c20) ⟨_,hI.arr (.c (.s .z) (.c (.s .z) (.c .z (.c (.s (.s (.s (.s (.s .z))))) (.c (.s (.s (.s (.s .z)))) (.c (.s (.s (.s .z))) (.c (.s (.s .z)) (.c (.s .z) .n)))))))) ⟨(.s (.s .z)),.z,(.s .z),trivial⟩,h⟩ SB ?_
 clear h hI;rintro⟨fuel1,p3,out2,x2,a19,c42,a20,c43,a21,c44,a22,c45,a23,c46,a24,c47⟩ w28 ⟨c48,hI,h⟩
 dsimp only at hI h ⊢
 rcases fuel1 with _ | fuel1
 ·rw[eO]at h;cases h
 rw[eO]at h
 refine al (T ?_)
 refine sB h (fun _ k=>bv hI.lt FS k) (Rc Tryz.func72) fun r6 w29 h hI=> ?_
 refine TC (fun hb h=> ?_) fun hb h=> ?_
 ·have hk1:=hb
  refine T ?_
  refine lS fun c49 w30 hI=> ?_
  refine T ?_
  obtain⟨r7,hx14,h⟩:=ae h
  refine aB gn rfl (Rc Tryz.func237) (Calls.mono (rP hI.lt FS hx14) ?_)
  rintro _ w31 ⟨a25,c50,a26,c51,a27,c52,rfl,hx15,hl7⟩
  refine⟨_,rfl,?_⟩
  replace hI:=(hI.ext hx15).adds hl7;dsimp only[ca,na]at hI
  refine T ?_
  refine lA fun c53 Dv hI=> ?_
  refine lA fun c54 w33 hI=> ?_
  refine T ?_
  refine ll hI ak ([r7.1]:List GIndex) oe (.cs ⟨a25,c50,a26,c51,rfl,hI.get .z,hI.get (.s .z)⟩ .nl) fun b7 c55 w34 hI=> ?_
  obtain⟨zs2,hx16,h⟩:=ae h
  refine lY (xs:=out2.Idx) (ys:=([r7.1]:List GIndex)) hI (.s (.s .z)) (hI.rd .z) hx16 gn rfl rfl AF oe rfl rfl et et ?_
  intro a28 c56 c57 w35 hI
  refine T ?_
  refine lS fun c58 w36 hI=> ?_
  refine aM ?_
  exact jY (fuel1,r7.2,(⟨out2.Op,out2.Name,out2.Val,out2.Type_,out2.Lin,zs2,out2.Args⟩:GExpr),r7.1,a27,c52,a20,c43,a28,c56,a22,c45,a25,c50,a26,c51) SB ⟨_,hI.arr GO SU,h⟩ (Nat.lt_succ_self _)
 refine bk ?_
 refine eU ?_
 exact bi (x2,out2,p3,a23,c46,a24,c47,a20,c43,a21,c44,a22,c45,a19,c42) SB ⟨_,hI.arr GO SU,h⟩ rfl
def jH:Tr:=(.c (3,.s) .n)
def jG:Tr:=(.c (6,.s) .n)
def jE:Tr:=(.c (8,.s) (.c (9,.s) .n))
def jF:Tr:=(.c (3,.s) (.c (4,.q) (.c (5,.q) (.c (6,.q) jE))))
theorem uH {rec_:(ac→Int→Option (GExpr×ac))} (hrec:It rec_) (hF:dG F w0) {p1:ac} (hc:AllCl [Cl.sl ag a1 c1 p1.L] F w0) {r:GExpr×ac} (h:fM rec_ p1=some r):Cg 151 #[(Value.agg (ab p1 a1 c1))] w0 fun e w=>∃ a2 c2 a3 c3 a4 c4 a5 c5,e= .returned (Value.tuple #[(Value.agg (aq r.1 a2 c2 a3 c3 a4 c4)),(Value.agg (ab r.2 a5 c5))])∧Ext w0 w∧AllCl [Cl.sl ai a2 c2 r.1.Lin.L,Cl.sl ak a3 c3 r.1.Idx,Cl.sl an a4 c4 r.1.Args,Cl.sl ag a5 c5 r.2.L] F w:=by
 refine EN Tryz.func151 Tryz.ntmps151 hF hc fun hI=> ?_
 rw[fM]at h
 refine sr (mS (v:=(Value.agg (ab p1 a1 c1))) (cs:=(ab p1 a1 c1)) hI gn rfl rfl et rfl ?_)
 intro b1 c6 w1 hI
 refine lN fun b2 c7 w2 hI=> ?_
 refine lN fun b3 c8 w3 hI=> ?_
 refine nk (al (T ?_))
 refine sB h (fun _ k=>bv hI.lt FS k) (Rc Tryz.func72) fun r1 w4 h hI=> ?_
 refine TC (fun hb h=> ?_) fun hb h=> ?_
 ·refine T ?_
  obtain⟨r2,hx3,h⟩:=ae h
  refine aB gn rfl (Rc Tryz.func209) (Calls.mono (ny hrec hI.lt FS hx3) ?_)
  rintro _ w5 ⟨a6,c9,a7,c10,a8,c11,a9,c12,rfl,hx4,hl2⟩
  refine⟨_,rfl,?_⟩
  replace hI:=(hI.ext hx4).adds hl2;dsimp only[ca,na]at hI
  refine T ?_
  refine lN fun b4 c13 w6 hI=> ?_
  refine lN fun b5 c14 w7 hI=> ?_
  refine lA fun c15 w8 hI=> ?_
  refine lA fun c16 w9 hI=> ?_
  refine nk (al (T ?_))
  refine TC (fun hb h=> ?_) fun hb h=> ?_
  ·refine al (aI [2,3] false (.c (0,.q) (.two 1 (.c (2,.s) jH) 2 (.c (1,.s) jH))) hI (by kernel_rfl) (by kernel_rfl) ?_)
   intro w13 hI
   refine cj (α:=NP) (T:=jH) (fun x=>[(0,(Value.agg (ab p1 a1 c1))),(1,vp b1 0),(2,vp b2 0),(3,vp b3 0),(4,vp b4 0),(5,vp b5 0),(14,(Value.agg (ab p1 a1 c1))),(15,vb r1),(16,(Value.tuple #[(Value.agg (aq r2.1 a6 c9 a7 c10 a8 c11)),(Value.agg (ab r2.2 a9 c12))])),(17,(Value.agg (ab p1 a1 c1))),(18,(Value.tuple #[(Value.agg (aq r2.1 a6 c9 a7 c10 a8 c11)),(Value.agg (ab r2.2 a9 c12))])),(19,(Value.agg (aq r2.1 a6 c9 a7 c10 a8 c11))),(20,(Value.agg (ab r2.2 a9 c12))),(21,vp b5 3),(22,vi r2.2.E),(23,(vb (!decide (r2.2.E=0)))),(24,(Value.agg #[vi 0,(aE ([]:List UInt8)),vi 0,vi 0,vi 0,vi 0,vi 0,vi 0,vi 0,vi 0,vs none 0 0,vs none 0 0,vs none 0 0])),(25,(Value.agg (ab r2.2 a9 c12)))]) (fun x w=>Bun du F w0 x w [MO.box b5 72 (ab r2.2 a9 c12),MO.box b4 39 (aq r2.1 a6 c9 a7 c10 a8 c11),MO.box b3 72 au,MO.box b2 39 #[vi 0,(aE ([]:List UInt8)),vi 0,vi 0,vi 0,vi 0,vi 0,vi 0,vi 0,vi 0,vs none 0 0,vs none 0 0,vs none 0 0],MO.box b1 72 (ab p1 a1 c1)] [Cl.sl ai a6 c9 r2.1.Lin.L,Cl.sl ak a7 c10 r2.1.Idx,Cl.sl an a8 c11 r2.1.Args,Cl.sl ag a9 c12 r2.2.L,Cl.sl ag a1 c1 p1.L]) (fun x w=>SN [] (DM true F x) w) ?_ ?_
   ·clear hI;rintro c19 w12 hI
    try dsimp only at hI ⊢
    unfold jH
    refine vA fun c18 w11 hI=> ?_
    refine V ?_
    refine aA ?_
    have hI:=hI.add (c:=Cl.sl ai none 0 ([]:List GMono)) SlC.nil
    have hI:=hI.add (c:=Cl.sl ak none 0 ([]:List GIndex)) SlC.nil
    have hI:=hI.add (c:=Cl.sl an none 0 ([]:List GExpr)) SlC.nil
    obtain rfl:=aj h
    refine QG ?_
    exact⟨none,0,none,0,none,0,a9,c12,rfl,hI.ext0,hI.fin ⟨(.s (.s .z)),(.s .z),.z,(.s (.s (.s (.s (.s (.s .z)))))),trivial⟩⟩
   intro hk_tr_ref16_primary_1_0
   refine l6 rfl gn rfl (fun w'=>(ax (vs:=[]) (cs:=#[vi 0,(aE ([]:List UInt8)),vi 0,vi 0,vi 0,vi 0,vi 0,vi 0,vi 0,vi 0,vs none 0 0,vs none 0 0,vs none 0 0]) rfl trivial (by kernel_rfl))) ?_
   refine da ?_ ?_
   ·skip
    refine bn rfl gn rfl (am (l:=(ah r2.2 a9 c12)) rfl et j5 rfl aG (CellsAt.of_blk (hI.blk .z) rfl)) SX.self ?_
    refine bJ (F:=F) (C:=c16) rfl rfl ?_
    refine vA fun c17 w10 hI=> ?_
    exact aW (hk_tr_ref16_primary_1_0 c17 _ (hI.arr GO SU)) SB
   refine bu (F:=F) (C:=c16) rfl rfl ?_
   refine vA fun c17 w10 hI=> ?_
   refine bn rfl gn rfl (am (l:=(ah r2.2 a9 c12)) rfl et j5 rfl aG (CellsAt.of_blk (hI.blk .z) rfl)) SX.self ?_
   exact aW (hk_tr_ref16_primary_1_0 c17 _ (hI.arr GO SU)) SB
  refine T ?_
  refine al ?_
  obtain⟨e1,hx5,h⟩:=ae h
  refine aI [5,6] false (.c (0,.q) (.c (1,.q) (.c (2,.q) (.c (3,.q) (.two 4 (.c (5,.s) jG) 5 (.c (4,.s) jG)))))) hI (by kernel_rfl) (by kernel_rfl) ?_
  intro w17 hI
  refine cj (α:=(Option Addr)×Nat×(Option Addr)×Nat×(Option Addr)×Nat×NP) (T:=jG) (fun x=>[(0,(Value.agg (ab p1 a1 c1))),(1,vp b1 0),(2,vp b2 0),(3,vp b3 0),(4,vp b4 0),(5,vp b5 0),(14,(Value.agg (ab p1 a1 c1))),(15,vb r1),(16,(Value.tuple #[(Value.agg (aq r2.1 a6 c9 a7 c10 a8 c11)),(Value.agg (ab r2.2 a9 c12))])),(17,(Value.agg (ab p1 a1 c1))),(18,(Value.tuple #[(Value.agg (aq r2.1 a6 c9 a7 c10 a8 c11)),(Value.agg (ab r2.2 a9 c12))])),(19,(Value.agg (aq r2.1 a6 c9 a7 c10 a8 c11))),(20,(Value.agg (ab r2.2 a9 c12))),(21,vp b5 3),(22,vi r2.2.E),(23,(vb (!decide (r2.2.E=0)))),(26,vp b4 12),(27,vs a8 r2.1.Args.length c11),(29,(Value.agg (aq e1 (x.1) (x.2.1) (x.2.2.1) (x.2.2.2.1) (x.2.2.2.2.1) (x.2.2.2.2.2.1)))),(30,(Value.agg (ab r2.2 a9 c12)))]) (fun x w=>Bun du F w0 (x.2.2.2.2.2.2) w [MO.box b5 72 (ab r2.2 a9 c12),MO.box b4 39 (aq r2.1 a6 c9 a7 c10 a8 c11),MO.box b3 72 au,MO.box b2 39 (aq e1 (x.1) (x.2.1) (x.2.2.1) (x.2.2.2.1) (x.2.2.2.2.1) (x.2.2.2.2.2.1)),MO.box b1 72 (ab p1 a1 c1)] [Cl.sl an (x.2.2.2.2.1) (x.2.2.2.2.2.1) e1.Args,Cl.sl ak (x.2.2.1) (x.2.2.2.1) e1.Idx,Cl.sl ai (x.1) (x.2.1) e1.Lin.L,Cl.sl ai a6 c9 r2.1.Lin.L,Cl.sl ak a7 c10 r2.1.Idx,Cl.sl an a8 c11 r2.1.Args,Cl.sl ag a9 c12 r2.2.L,Cl.sl ag a1 c1 p1.L]) (fun x w=>SN [] (DM true F (x.2.2.2.2.2.2)) w) ?_ ?_
  ·clear hI;rintro⟨a10,c20,a11,c21,a12,c22,c25⟩ w16 hI
   try dsimp only at hI ⊢
   unfold jG
   refine vA fun c24 w15 hI=> ?_
   refine V ?_
   refine aA ?_
   obtain rfl:=aj h
   refine QG ?_
   exact⟨a10,c20,a11,c21,a12,c22,a9,c12,rfl,hI.ext0,hI.fin ⟨(.s (.s .z)),(.s .z),.z,(.s (.s (.s (.s (.s (.s .z)))))),trivial⟩⟩
  intro hk_tr_ref16_primary_2_0
  refine V ?_
  obtain⟨ad1,cs1,hA1,hr1,hq1⟩:=hI.clat (.s (.s .z)) hx5
  obtain⟨a10,c20,a11,c21,a12,c22,rfl,hf1,hf2,hf3⟩:=iG hr1
  have hI:=hI.ads hf1
  have hI:=hI.ads hf2
  have hI:=hI.ads hf3
  refine vI ?_
  refine ct rfl gn rfl (fun w' hw'=>(am (l:=(aX e1 a10 c20 a11 c21 a12 c22)) rfl et jT rfl aC (hq1.at_ (SX.any rfl hw')))) (by kernel_rfl) ?_
  refine da ?_ ?_
  ·skip
   refine bn rfl gn rfl (am (l:=(ah r2.2 a9 c12)) rfl et j5 rfl aG (CellsAt.of_blk (hI.blk .z) rfl)) SX.self ?_
   refine bJ (F:=F) (C:=c16) rfl rfl ?_
   refine vA fun c23 w14 hI=> ?_
   exact aW (hk_tr_ref16_primary_2_0 (a10,c20,a11,c21,a12,c22,c23) _ (hI.arr GO SU)) SB
  refine bu (F:=F) (C:=c16) rfl rfl ?_
  refine vA fun c23 w14 hI=> ?_
  refine bn rfl gn rfl (am (l:=(ah r2.2 a9 c12)) rfl et j5 rfl aG (CellsAt.of_blk (hI.blk .z) rfl)) SX.self ?_
  exact aW (hk_tr_ref16_primary_2_0 (a10,c20,a11,c21,a12,c22,c23) _ (hI.arr GO SU)) SB
 refine T ?_
 refine al (T ?_)
 refine sB h (fun _ k=>bv hI.lt FS k) (Rc Tryz.func72) fun r3 w18 h hI=> ?_
 refine TC (fun hb h=> ?_) fun hb h=> ?_
 ·refine T ?_
  refine lS fun c26 w19 hI=> ?_
  refine T ?_
  obtain⟨r4,hx8,h⟩:=ae h
  refine aB gn rfl (Rc Tryz.func32) (Calls.mono (oC hI.lt FS hx8) ?_)
  rintro _ w20 ⟨a13,c27,a14,c28,rfl,hx9,hl4⟩
  refine⟨_,rfl,?_⟩
  replace hI:=(hI.ext hx9).adds hl4;dsimp only[ca,na]at hI
  refine T ?_
  refine lN fun b6 c29 w21 hI=> ?_
  refine lN fun b7 c30 w22 hI=> ?_
  refine lA fun c31 w23 hI=> ?_
  refine lA fun c32 w24 hI=> ?_
  refine nk (al (aI [4,5] false (.c (0,.q) (.c (1,.q) (.c (2,.q) (.c (3,.s) (.c (4,.s) (.c (5,.s) .n)))))) hI (by kernel_rfl) (by kernel_rfl) ?_))
  intro w25 hI
  refine ct rfl gn rfl (fun w' hw'=>(am (l:=(gc r4.1 a13 c27)) rfl et oy rfl bt ((CA.blk (hI.blk (.s .z)) rfl).at_ (SX.any rfl hw')))) (by kernel_rfl) ?_
  refine l6 rfl gn rfl (fun w'=>(ax (vs:=[(0,vi 2),(4,(Value.agg (bQ r4.1 a13 c27)))]) (cs:=#[vi 2,(aE ([]:List UInt8)),vi 0,vi 0,vi 0,vi 0,vi 0,vi 0,vi 0,vi r4.1.K,vs a13 r4.1.L.length c27,vs none 0 0,vs none 0 0]) rfl ⟨rfl,ao,⟨rfl,et,trivial⟩⟩ (by kernel_rfl))) ?_
  refine ct rfl gn rfl (fun w' hw'=>(am (l:=(ah r4.2 a14 c28)) rfl et j5 rfl aG ((CA.blk (hI.blk .z) rfl).at_ (SX.any rfl hw')))) (by kernel_rfl) ?_
  obtain⟨r5,hx10,h⟩:=ae h
  refine dC rfl gn rfl (aF (vs:=[(Value.agg (ab r4.2 a14 c28)),(aE ([93]:List UInt8))]) rfl vW ⟨et,⟨ao,trivial⟩⟩) (Calls.mono (cr hI.lt FS hx10) ?_)
  rintro _ w26 ⟨a15,c33,rfl,hx11,hl5⟩
  refine⟨_,rfl,hx11,?_⟩
  replace hI:=(hI.ext hx11).adds hl5;dsimp only[ca,na]at hI
  refine bJ (F:=F) (C:=c32) rfl rfl ?_
  refine vA fun c34 w27 hI=> ?_
  refine vA fun c35 w28 hI=> ?_
  refine V ?_
  refine aA ?_
  have hI:=hI.add (c:=Cl.sl ak none 0 ([]:List GIndex)) SlC.nil
  have hI:=hI.add (c:=Cl.sl an none 0 ([]:List GExpr)) SlC.nil
  obtain rfl:=aj h
  refine QG ?_
  exact⟨a13,c27,none,0,none,0,a15,c33,rfl,hI.ext0,hI.fin ⟨(.s (.s (.s .z))),(.s .z),.z,(.s (.s .z)),trivial⟩⟩
 refine T ?_
 refine al (T ?_)
 refine ll hI dF ([([102,114,97,99]:List UInt8),([105,110,116]:List UInt8),([102,105,120]:List UInt8)]:List (List UInt8)) lZ Rr fun b8 c36 w29 hI=> ?_
 refine sB h (fun _ k=>us NE ⟨(hI.get0 .z),hI.lend .z,trivial⟩ k) (Rc Tryz.func181) fun r6 w30 h hI=> ?_
 refine TC (fun hb h=> ?_) fun hb h=> ?_
 ·refine T ?_
  obtain⟨r7,hx14,h⟩:=ae h
  refine aB gn rfl (Rc Tryz.func178) (Calls.mono (ur hI.lt FS hx14) ?_)
  rintro _ w31 ⟨a16,c37,rfl,hx15,hl7⟩
  refine⟨_,rfl,?_⟩
  replace hI:=(hI.ext hx15).adds hl7;dsimp only[ca,na]at hI
  refine T ?_
  refine lN fun b9 c38 Dv hI=> ?_
  refine lN fun b10 c39 w33 hI=> ?_
  refine lA fun c40 w34 hI=> ?_
  refine lA fun c41 w35 hI=> ?_
  refine nk (al ?_)
  obtain⟨r8,hx16,h⟩:=ae h
  obtain⟨r9,hx18,h⟩:=ae h
  refine aI [8,9] false (.c (0,.q) (.c (2,.q) (.two 1 (.two 3 (.c (4,.q) (.c (5,.q) (.c (6,.q) (.c (7,.s) jE)))) 7 jF) 7 (.c (1,.s) jF)))) hI (by kernel_rfl) (by kernel_rfl) ?_
  intro w43 hI
  refine cj (α:=(Option Addr)×Nat×(Option Addr)×Nat×Nat×NP) (T:=jE) (fun x=>[(0,(Value.agg (ab p1 a1 c1))),(1,vp b1 0),(2,vp b2 0),(3,vp b3 0),(8,vp b9 0),(9,vp b10 0),(10,(Value.pointer (some ⟨(x.2.2.2.2.1),0,none⟩))),(14,(Value.agg (ab p1 a1 c1))),(15,vb r1),(31,(Value.agg (ab p1 a1 c1))),(32,vb r3),(46,(Value.agg (ab p1 a1 c1))),(47,(vs (some ⟨b8,0,none⟩) ([([102,114,97,99]:List UInt8),([105,110,116]:List UInt8),([102,105,120]:List UInt8)]:List (List UInt8)).length 3)),(48,vb r6),(49,(Value.tuple #[(Value.agg (co r7.1)),(Value.agg (ab r7.2 a16 c37))])),(50,(Value.agg (ab p1 a1 c1))),(51,(Value.tuple #[(Value.agg (co r7.1)),(Value.agg (ab r7.2 a16 c37))])),(52,(Value.agg (co r7.1))),(53,(Value.agg (ab r7.2 a16 c37))),(54,(Value.tuple #[(Value.agg (o6 r9.1)),(Value.agg (ab r9.2 (x.2.2.1) (x.2.2.2.1)))])),(55,(Value.agg (ab r7.2 a16 c37))),(56,(Value.agg (ab r8 (x.1) (x.2.1)))),(57,(Value.agg (co r7.1))),(58,(Value.tuple #[(Value.agg (o6 r9.1)),(Value.agg (ab r9.2 (x.2.2.1) (x.2.2.2.1)))])),(59,(Value.agg (o6 r9.1))),(60,(Value.agg (ab r9.2 (x.2.2.1) (x.2.2.2.1))))]) (fun x w=>Bun du F w0 (x.2.2.2.2.2) w [MO.box (x.2.2.2.2.1) 33 #[vi 0,vi 0],MO.box b10 72 (ab r7.2 a16 c37),MO.box b9 35 (co r7.1),MO.row dF 9 (some ⟨b8,0,none⟩) 3 ([([102,114,97,99]:List UInt8),([105,110,116]:List UInt8),([102,105,120]:List UInt8)]:List (List UInt8)),MO.box b3 72 au,MO.box b2 39 #[vi 0,(aE ([]:List UInt8)),vi 0,vi 0,vi 0,vi 0,vi 0,vi 0,vi 0,vi 0,vs none 0 0,vs none 0 0,vs none 0 0],MO.box b1 72 (ab p1 a1 c1)] [Cl.sl ag (x.2.2.1) (x.2.2.2.1) r9.2.L,Cl.sl ag (x.1) (x.2.1) r8.L,Cl.sl ag a16 c37 r7.2.L,Cl.sl ag a1 c1 p1.L]) (fun x w=>SN [8,9] (DM false F (x.2.2.2.2.2)) w) ?_ ?_
  ·clear hI;rintro⟨a17,c42,a18,c43,b11,c48⟩ w42 hI
   try dsimp only at hI ⊢
   unfold jE
   refine bJ (F:=F) (C:=c48) rfl rfl ?_
   refine vA fun c45 w39 hI=> ?_
   refine vA fun c46 w40 hI=> ?_
   refine V ?_
   refine al (aI [5,6] false (.c (0,.q) (.c (1,.q) (.c (2,.q) (.c (3,.q) (.c (4,.s) (.c (5,.s) (.c (6,.s) .n))))))) hI (by kernel_rfl) (by kernel_rfl) ?_)
   intro w44 hI
   refine ct rfl gn rfl (fun w' hw'=>(am (l:=(dD r7.1)) rfl et qr rfl cD ((CA.blk (hI.blk (.s (.s .z))) rfl).at_ (SX.any rfl hw')))) (by kernel_rfl) ?_
   refine ct rfl gn rfl (fun w' hw'=>(am (l:=(qD r9.1)) rfl et ES rfl mY ((CA.blk (hI.blk .z) rfl).at_ (SX.any rfl hw')))) (by kernel_rfl) ?_
   refine l6 rfl gn rfl (fun w'=>(ax (vs:=[(0,vi 1),(3,(Value.agg (co r7.1))),(2,(Value.agg (o6 r9.1)))]) (cs:=#[vi 1,(aE ([]:List UInt8)),vi r9.1.N,vi r9.1.D,vi r7.1.Kind,vi r7.1.Bits,vi r7.1.Frac,vi r7.1.Round,vi r7.1.Over,vi 0,vs none 0 0,vs none 0 0,vs none 0 0]) rfl ⟨rfl,ao,⟨rfl,et,⟨rfl,et,trivial⟩⟩⟩ (by kernel_rfl))) ?_
   refine ct rfl gn rfl (fun w' hw'=>(am (l:=(ah r9.2 a18 c43)) rfl et j5 rfl aG ((CA.blk (hI.blk (.s .z)) rfl).at_ (SX.any rfl hw')))) (by kernel_rfl) ?_
   obtain⟨r10,hx20,h⟩:=ae h
   refine dC rfl gn rfl (aF (vs:=[(Value.agg (ab r9.2 a18 c43)),(aE ([41]:List UInt8))]) rfl vW ⟨et,⟨ao,trivial⟩⟩) (Calls.mono (cr hI.lt FS hx20) ?_)
   rintro _ w45 ⟨a19,c49,rfl,hx21,hl10⟩
   refine⟨_,rfl,hx21,?_⟩
   replace hI:=(hI.ext hx21).adds hl10;dsimp only[ca,na]at hI
   refine bJ (F:=F) (C:=c46) rfl rfl ?_
   refine vA fun c50 w46 hI=> ?_
   refine vA fun c51 w47 hI=> ?_
   refine V ?_
   refine aA ?_
   have hI:=hI.add (c:=Cl.sl ai none 0 ([]:List GMono)) SlC.nil
   have hI:=hI.add (c:=Cl.sl ak none 0 ([]:List GIndex)) SlC.nil
   have hI:=hI.add (c:=Cl.sl an none 0 ([]:List GExpr)) SlC.nil
   obtain rfl:=aj h
   refine QG ?_
   exact⟨none,0,none,0,none,0,a19,c49,rfl,hI.ext0,hI.fin ⟨(.s (.s .z)),(.s .z),.z,(.s (.s (.s .z))),trivial⟩⟩
  intro hk_tr_ref16_primary_3_1
  refine cj (α:=(Option Addr)×Nat×Nat×NP) (T:=jF) (fun x=>[(0,(Value.agg (ab p1 a1 c1))),(1,vp b1 0),(2,vp b2 0),(3,vp b3 0),(8,vp b9 0),(9,vp b10 0),(10,(Value.pointer (some ⟨(x.2.2.1),0,none⟩))),(14,(Value.agg (ab p1 a1 c1))),(15,vb r1),(31,(Value.agg (ab p1 a1 c1))),(32,vb r3),(46,(Value.agg (ab p1 a1 c1))),(47,(vs (some ⟨b8,0,none⟩) ([([102,114,97,99]:List UInt8),([105,110,116]:List UInt8),([102,105,120]:List UInt8)]:List (List UInt8)).length 3)),(48,vb r6),(49,(Value.tuple #[(Value.agg (co r7.1)),(Value.agg (ab r7.2 a16 c37))])),(50,(Value.agg (ab p1 a1 c1))),(51,(Value.tuple #[(Value.agg (co r7.1)),(Value.agg (ab r7.2 a16 c37))])),(52,(Value.agg (co r7.1))),(53,(Value.agg (ab r7.2 a16 c37))),(55,(Value.agg (ab r7.2 a16 c37))),(56,(Value.agg (ab r8 (x.1) (x.2.1)))),(57,(Value.agg (co r7.1)))]) (fun x w=>Bun du F w0 (x.2.2.2) w [MO.box (x.2.2.1) 33 #[vi 0,vi 0],MO.box b10 72 (ab r7.2 a16 c37),MO.box b9 35 (co r7.1),MO.row dF 9 (some ⟨b8,0,none⟩) 3 ([([102,114,97,99]:List UInt8),([105,110,116]:List UInt8),([102,105,120]:List UInt8)]:List (List UInt8)),MO.box b3 72 au,MO.box b2 39 #[vi 0,(aE ([]:List UInt8)),vi 0,vi 0,vi 0,vi 0,vi 0,vi 0,vi 0,vi 0,vs none 0 0,vs none 0 0,vs none 0 0],MO.box b1 72 (ab p1 a1 c1)] [Cl.sl ag (x.1) (x.2.1) r8.L,Cl.sl ag a16 c37 r7.2.L,Cl.sl ag a1 c1 p1.L]) (fun x w=>SN [8,9] (DM false F (x.2.2.2)) w) ?_ ?_
  ·clear hI;rintro⟨a17,c42,b11,c47⟩ w41 hI
   try dsimp only at hI ⊢
   unfold jF
   refine dC rfl gn rfl (aF (vs:=[(Value.agg (ab r8 a17 c42)),(Value.agg (co r7.1))]) rfl D5 ⟨et,⟨et,trivial⟩⟩) (Calls.mono (pF hI.lt FS hx18) ?_)
   rintro _ w37 ⟨a18,c43,rfl,hx19,hl9⟩
   refine⟨_,rfl,hx19,?_⟩
   replace hI:=(hI.ext hx19).adds hl9;dsimp only[ca,na]at hI
   refine V ?_
   exact aW (hk_tr_ref16_primary_3_1 (a17,c42,a18,c43,b11,c47) _ (hI.arr GO SU)) SB
  intro hk_tr_ref16_primary_3_0
  refine ct rfl gn rfl (fun w' hw'=>(am (l:=(ah r7.2 a16 c37)) rfl et j5 rfl aG ((CA.blk (hI.blk .z) rfl).at_ (SX.any rfl hw')))) (by kernel_rfl) ?_
  refine ct rfl gn rfl (fun w' hw'=>(am (l:=(dD r7.1)) rfl et qr rfl cD ((CA.blk (hI.blk (.s .z)) rfl).at_ (SX.any rfl hw')))) (by kernel_rfl) ?_
  refine da ?_ ?_
  ·skip
   refine dC rfl gn rfl (aF (vs:=[(Value.agg (ab r7.2 a16 c37)),(aE ([40]:List UInt8))]) rfl vW ⟨et,⟨ao,trivial⟩⟩) (Calls.mono (cr hI.lt FS hx16) ?_)
   rintro _ w36 ⟨a17,c42,rfl,hx17,hl8⟩
   refine⟨_,rfl,hx17,?_⟩
   replace hI:=(hI.ext hx17).adds hl8;dsimp only[ca,na]at hI
   refine da ?_ ?_
   ·skip
    refine dC rfl gn rfl (aF (vs:=[(Value.agg (ab r8 a17 c42)),(Value.agg (co r7.1))]) rfl D5 ⟨et,⟨et,trivial⟩⟩) (Calls.mono (pF hI.lt FS hx18) ?_)
    rintro _ w37 ⟨a18,c43,rfl,hx19,hl9⟩
    refine⟨_,rfl,hx19,?_⟩
    replace hI:=(hI.ext hx19).adds hl9;dsimp only[ca,na]at hI
    refine V ?_
    refine gb (cs:=#[vi 0,vi 0]) hI rfl gn rfl rfl pP rfl ?_
    intro b11 c44 w38 hI
    exact aW (hk_tr_ref16_primary_3_1 (a17,c42,a18,c43,b11,c44) _ (hI.arr GO SU)) SB
   refine gb (cs:=#[vi 0,vi 0]) hI rfl gn rfl rfl pP rfl ?_
   intro b11 c44 w38 hI
   exact aW (hk_tr_ref16_primary_3_0 (a17,c42,b11,c44) _ (hI.arr GO SU)) SB
  refine gb (cs:=#[vi 0,vi 0]) hI rfl gn rfl rfl pP rfl ?_
  intro b11 c44 w38 hI
  refine dC rfl gn rfl (aF (vs:=[(Value.agg (ab r7.2 a16 c37)),(aE ([40]:List UInt8))]) rfl vW ⟨et,⟨ao,trivial⟩⟩) (Calls.mono (cr hI.lt FS hx16) ?_)
  rintro _ w36 ⟨a17,c42,rfl,hx17,hl8⟩
  refine⟨_,rfl,hx17,?_⟩
  replace hI:=(hI.ext hx17).adds hl8;dsimp only[ca,na]at hI
  exact aW (hk_tr_ref16_primary_3_0 (a17,c42,b11,c44) _ (hI.arr GO SU)) SB
 refine T ?_
 refine ll hI dF ([([109,105,110]:List UInt8),([109,97,120]:List UInt8),([105,102]:List UInt8),([99,97,115,116]:List UInt8)]:List (List UInt8)) lZ Rr fun b12 c52 w48 hI=> ?_
 refine T ?_
 refine al (T ?_)
 refine sB h (fun _ k=>us NE ⟨(hI.get0 .z),hI.lend .z,trivial⟩ k) (Rc Tryz.func181) fun r11 w49 h hI=> ?_
 refine TC (fun hb h=> ?_) fun hb h=> ?_
 ·refine T ?_
  obtain⟨c53,hI⟩:=hI.release .z
  obtain⟨r12,hx24,h⟩:=ae h
  refine aB gn rfl (Rc Tryz.func105) (Calls.mono (oO hI.lt FS hx24) ?_)
  rintro _ w50 ⟨a20,c54,rfl,hx25,hl12⟩
  refine⟨_,rfl,?_⟩
  replace hI:=(hI.ext hx25).adds hl12;dsimp only[ca,na]at hI
  refine T ?_
  refine lN fun b13 c55 w51 hI=> ?_
  refine sa ?_
  refine lA fun c56 w52 hI=> ?_
  refine nk (al (T ?_))
  refine TC (fun hb h=> ?_) fun hb h=> ?_
  ·refine T ?_
   obtain⟨r13,hx26,h⟩:=ae h
   refine aB gn rfl (Rc Tryz.func209) (Calls.mono (ny hrec hI.lt FS hx26) ?_)
   rintro _ w53 ⟨a21,c57,a22,c58,a23,c59,a24,c60,rfl,hx27,hl13⟩
   refine⟨_,rfl,?_⟩
   replace hI:=(hI.ext hx27).adds hl13;dsimp only[ca,na]at hI
   refine T ?_
   refine lA fun c61 w54 hI=> ?_
   refine lA fun c62 w55 hI=> ?_
   refine T ?_
   refine aA ?_
   obtain rfl:=aj h
   refine QG ?_
   exact⟨a21,c57,a22,c58,a23,c59,a24,c60,rfl,hI.ext0,hI.fin ⟨.z,(.s .z),(.s (.s .z)),(.s (.s (.s .z))),trivial⟩⟩
  refine TC (fun hb h=> ?_) fun hb h=> ?_
  ·refine T ?_
   obtain⟨r14,hx28,h⟩:=ae h
   refine aB gn rfl (Rc Tryz.func209) (Calls.mono (ny hrec hI.lt FS hx28) ?_)
   rintro _ w56 ⟨a25,c63,a26,c64,a27,c65,a28,c66,rfl,hx29,hl14⟩
   refine⟨_,rfl,?_⟩
   replace hI:=(hI.ext hx29).adds hl14;dsimp only[ca,na]at hI
   refine T ?_
   refine lA fun c67 w57 hI=> ?_
   refine lA fun c68 w58 hI=> ?_
   refine nk (aA ?_)
   obtain rfl:=aj h
   refine QG ?_
   exact⟨a25,c63,a26,c64,a27,c65,a28,c66,rfl,hI.ext0,hI.fin ⟨.z,(.s .z),(.s (.s .z)),(.s (.s (.s .z))),trivial⟩⟩
  refine TC (fun hb h=> ?_) fun hb h=> ?_
  ·refine T ?_
   obtain⟨r15,hx30,h⟩:=ae h
   refine aB gn rfl (Rc Tryz.func209) (Calls.mono (ny hrec hI.lt FS hx30) ?_)
   rintro _ w59 ⟨a29,c69,a30,c70,a31,c71,a32,c72,rfl,hx31,hl15⟩
   refine⟨_,rfl,?_⟩
   replace hI:=(hI.ext hx31).adds hl15;dsimp only[ca,na]at hI
   refine T ?_
   refine lA fun c73 w60 hI=> ?_
   refine lA fun c74 w61 hI=> ?_
   refine nk (aA ?_)
   obtain rfl:=aj h
   refine QG ?_
   exact⟨a29,c69,a30,c70,a31,c71,a32,c72,rfl,hI.ext0,hI.fin ⟨.z,(.s .z),(.s (.s .z)),(.s (.s (.s .z))),trivial⟩⟩
  refine T ?_
  obtain⟨r16,hx32,h⟩:=ae h
  refine aB gn rfl (Rc Tryz.func209) (Calls.mono (ny hrec hI.lt FS hx32) ?_)
  rintro _ w62 ⟨a33,c75,a34,c76,a35,c77,a36,c78,rfl,hx33,hl16⟩
  refine⟨_,rfl,?_⟩
  replace hI:=(hI.ext hx33).adds hl16;dsimp only[ca,na]at hI
  refine T ?_
  refine lA fun c79 w63 hI=> ?_
  refine lA fun c80 w64 hI=> ?_
  refine nk (aA ?_)
  obtain rfl:=aj h
  refine QG ?_
  exact⟨a33,c75,a34,c76,a35,c77,a36,c78,rfl,hI.ext0,hI.fin ⟨.z,(.s .z),(.s (.s .z)),(.s (.s (.s .z))),trivial⟩⟩
 refine T ?_
 obtain⟨r17,hx34,h⟩:=ae h
 refine aB gn rfl (Rc Tryz.func211) (Calls.mono (yM hI.lt FS hx34) ?_)
 rintro _ w65 ⟨a37,c81,a38,c82,a39,c83,a40,c84,rfl,hx35,hl17⟩
 refine⟨_,rfl,?_⟩
 replace hI:=(hI.ext hx35).adds hl17;dsimp only[ca,na]at hI
 refine T ?_
 refine lA fun c85 w66 hI=> ?_
 refine lA fun c86 w67 hI=> ?_
 refine nk (aA ?_)
 obtain rfl:=aj h
 refine QG ?_
 exact⟨a37,c81,a38,c82,a39,c83,a40,c84,rfl,hI.ext0,hI.fin ⟨.z,(.s .z),(.s (.s .z)),(.s (.s (.s .z))),trivial⟩⟩
theorem pE (hF:dG F w0) {p1:ac} {n1:Int} (hc:AllCl [Cl.sl ag a1 c1 p1.L] F w0) {r:Int} (h:dZ p1 n1=some r):CR F w0 152 #[(Value.agg (ab p1 a1 c1)),vi n1] (vi r) []:=by
 refine EN Tryz.func152 Tryz.ntmps152 hF hc fun hI=> ?_
 rw[dZ]at h
 refine sr (lX fun b1 c3 w1 hI=> ?_)
 refine T ?_
 refine al (T ?_)
 refine az (aT rfl rfl rfl rfl) rfl (fun hc=>(am (l:=(ah p1 a1 c1)) rfl et j5 rfl aG (hI.kblk (l:=(ah p1 a1 c1)) .z rfl).1)) ?_
 obtain⟨r1,hx1,h⟩:=ae h
 replace hx1:=ay hx1
 refine sU (fun hc=>bv hI.lt FS (hx1 hc)) (Rg Tryz.func72) fun w2 hI=> ?_
 refine TR fun hb h=> ?_
 refine T ?_
 refine az (aT rfl rfl rfl rfl) rfl (fun hc=>(am (l:=(ah p1 a1 c1)) rfl et j5 rfl aG (hI.kblk (l:=(ah p1 a1 c1)) .z rfl).1)) ?_
 obtain⟨r2,hx3,h⟩:=ae h
 replace hx3:=ay hx3
 refine sU (fun hc=>bv hI.lt FS (hx3 hc)) (Rg Tryz.func72) fun w3 hI=> ?_
 refine TR fun hb h=> ?_
 refine T ?_
 refine az (aT rfl rfl rfl rfl) rfl (fun hc=>(am (l:=(ah p1 a1 c1)) rfl et j5 rfl aG (hI.kblk (l:=(ah p1 a1 c1)) .z rfl).1)) ?_
 obtain⟨r3,hx5,h⟩:=ae h
 replace hx5:=ay hx5
 refine sU (fun hc=>bv hI.lt FS (hx5 hc)) (Rg Tryz.func72) fun w4 hI=> ?_
 refine TR fun hb h=> ?_
 refine T ?_
 refine az (aT rfl rfl rfl rfl) rfl (fun hc=>(am (l:=(ah p1 a1 c1)) rfl et j5 rfl aG (hI.kblk (l:=(ah p1 a1 c1)) .z rfl).1)) ?_
 obtain⟨r4,hx7,h⟩:=ae h
 replace hx7:=ay hx7
 refine sU (fun hc=>bv hI.lt FS (hx7 hc)) (Rg Tryz.func72) fun w5 hI=> ?_
 refine TR fun hb h=> ?_
 refine T ?_
 refine az (aT rfl rfl rfl rfl) rfl (fun hc=>(am (l:=(ah p1 a1 c1)) rfl et j5 rfl aG (hI.kblk (l:=(ah p1 a1 c1)) .z rfl).1)) ?_
 obtain⟨r5,hx9,h⟩:=ae h
 replace hx9:=ay hx9
 refine sU (fun hc=>bv hI.lt FS (hx9 hc)) (Rg Tryz.func72) fun w6 hI=> ?_
 refine TR fun hb h=> ?_
 refine T ?_
 refine az (aT rfl rfl rfl rfl) rfl (fun hc=>(am (l:=(ah p1 a1 c1)) rfl et j5 rfl aG (hI.kblk (l:=(ah p1 a1 c1)) .z rfl).1)) ?_
 obtain⟨r6,hx11,h⟩:=ae h
 replace hx11:=ay hx11
 refine sU (fun hc=>bv hI.lt FS (hx11 hc)) (Rg Tryz.func72) fun w7 hI=> ?_
 refine TR fun hb h=> ?_
 refine T ?_
 refine az (aT rfl rfl rfl rfl) rfl (fun hc=>(am (l:=(ah p1 a1 c1)) rfl et j5 rfl aG (hI.kblk (l:=(ah p1 a1 c1)) .z rfl).1)) ?_
 obtain⟨r7,hx13,h⟩:=ae h
 replace hx13:=ay hx13
 refine sU (fun hc=>bv hI.lt FS (hx13 hc)) (Rg Tryz.func72) fun w8 hI=> ?_
 refine TR fun hb h=> ?_
 refine T ?_
 refine az (aT rfl rfl rfl rfl) rfl (fun hc=>(am (l:=(ah p1 a1 c1)) rfl et j5 rfl aG (hI.kblk (l:=(ah p1 a1 c1)) .z rfl).1)) ?_
 obtain⟨r8,hx15,h⟩:=ae h
 replace hx15:=ay hx15
 refine sU (fun hc=>bv hI.lt FS (hx15 hc)) (Rg Tryz.func72) fun w9 hI=> ?_
 refine TR fun hb h=> ?_
 refine T ?_
 refine az (aT rfl rfl rfl rfl) rfl (fun hc=>(am (l:=(ah p1 a1 c1)) rfl et j5 rfl aG (hI.kblk (l:=(ah p1 a1 c1)) .z rfl).1)) ?_
 obtain⟨r9,hx17,h⟩:=ae h
 replace hx17:=ay hx17
 refine sU (fun hc=>bv hI.lt FS (hx17 hc)) (Rg Tryz.func72) fun w10 hI=> ?_
 refine TR fun hb h=> ?_
 exact RF
def kH:Tr:=(.c (3,.s) .n)
def kG:Tr:=(.c (3,.s) .n)
theorem uJ {rec_:(ac→Int→Option (GExpr×ac))} (hrec:It rec_) (hF:dG F w0) {p1:ac} {n1:Int} (hc:AllCl [Cl.sl ag a1 c1 p1.L] F w0) {r:GExpr×ac} (h:bm rec_ p1 n1=some r):Cg 80 #[(Value.agg (ab p1 a1 c1)),vi n1] w0 fun e w=>∃ a2 c2 a3 c3 a4 c4 a5 c5,e= .returned (Value.tuple #[(Value.agg (aq r.1 a2 c2 a3 c3 a4 c4)),(Value.agg (ab r.2 a5 c5))])∧Ext w0 w∧AllCl [Cl.sl ai a2 c2 r.1.Lin.L,Cl.sl ak a3 c3 r.1.Idx,Cl.sl an a4 c4 r.1.Args,Cl.sl ag a5 c5 r.2.L] F w:=by
 refine EN Tryz.func80 Tryz.ntmps80 hF hc fun hI=> ?_
 rw[bm]at h
 refine sr (lX fun b1 c7 w1 hI=> ?_)
 refine lN fun b2 c8 w2 hI=> ?_
 refine lN fun b3 c9 w3 hI=> ?_
 refine nk (al (T ?_))
 refine az (aT rfl rfl rfl rfl) rfl (fun hc=>(am (l:=(ah p1 a1 c1)) rfl et j5 rfl aG (hI.kblk (l:=(ah p1 a1 c1)) .z rfl).1)) ?_
 obtain⟨r1,hx1,h⟩:=ae h
 replace hx1:=ay hx1
 refine sU (fun hc=>bv hI.lt FS (hx1 hc)) (Rg Tryz.func72) fun w4 hI=> ?_
 refine T ?_
 refine az (iy rfl rfl rfl rfl) rfl (fun hc=>(am (l:=(ah p1 a1 c1)) rfl et j5 rfl aG (hI.kblk (l:=(ah p1 a1 c1)) .z rfl).1)) ?_
 obtain⟨r2,hx3,h⟩:=ae h
 replace hx3:=ay hx3
 refine sU (fun hc=>bv hI.lt FS (hx3 hc)) (Rg Tryz.func72) fun w5 hI=> ?_
 refine TC (fun hb h=> ?_) fun hb h=> ?_
 ·refine sr (sq (ax (vs:=[(0,vi 18)]) (cs:=#[vi 18,(aE ([]:List UInt8)),vi 0,vi 0,vi 0,vi 0,vi 0,vi 0,vi 0,vi 0,vs none 0 0,vs none 0 0,vs none 0 0]) rfl ⟨rfl,ao,trivial⟩ (by kernel_rfl)) ?_)
  refine lN fun b4 c10 w6 hI=> ?_
  refine ba (new:=[vi 18,(aE ([]:List UInt8)),vi 0,vi 0,vi 0,vi 0,vi 0,vi 0,vi 0,vi 0,vs none 0 0,vs none 0 0,vs none 0 0]) (cs':=#[vi 18,(aE ([]:List UInt8)),vi 0,vi 0,vi 0,vi 0,vi 0,vi 0,vi 0,vi 0,vs none 0 0,vs none 0 0,vs none 0 0]) hI .z gn rfl rfl et et rfl aC rfl rfl rfl ?_
  intro c11 w7 hI
  refine nk (bw (α:=GExpr×(Option Addr)×Nat×(Option Addr)×Nat×(Option Addr)×Nat) (fun _=>⟨86,[]⟩) (fun x=>[(1,vi n1),(2,vp b1 0),(4,vp b2 0),(5,vp b3 0),(6,vp b4 0)]) (fun x=>fun w=>∃ C,Bun du F w0 C w [MO.row ai 64 (x.2.1) (x.2.2.1) (x.1).Lin.L,MO.row ak 132 (x.2.2.2.1) (x.2.2.2.2.1) (x.1).Idx,MO.row an 39 (x.2.2.2.2.2.1) (x.2.2.2.2.2.2) (x.1).Args,MO.box b2 39 #[vi 0,(aE ([]:List UInt8)),vi 0,vi 0,vi 0,vi 0,vi 0,vi 0,vi 0,vi 0,vs none 0 0,vs none 0 0,vs none 0 0],MO.box b3 72 au,MO.box b4 39 (aq (x.1) (x.2.1) (x.2.2.1) (x.2.2.2.1) (x.2.2.2.2.1) (x.2.2.2.2.2.1) (x.2.2.2.2.2.2))] [Cl.blk b1 72 (ab p1 a1 c1),Cl.sl ag a1 c1 p1.L]∧ja p1 rec_ n1 (x.1)=some r) ?_ ?_)
  ·clear h hI;rintro⟨bg,a6,c12,a7,c13,a8,c14⟩ w8 ⟨c15,hI,h⟩
   try dsimp only at hI h ⊢
   rw[ja]at h
   refine sr (sq (am (l:=(ah p1 a1 c1)) rfl et j5 rfl aG (hI.kblk (l:=(ah p1 a1 c1)) .z rfl).1) ?_)
   obtain⟨r3,hx5,h⟩:=ae h
   refine aB gn rfl (Rc Tryz.func150) (Calls.mono (qU hI.lt FS hx5) ?_)
   rintro _ w9 ⟨a9,c16,rfl,hx6,hl3⟩
   refine⟨_,rfl,?_⟩
   replace hI:=(hI.ext hx6).adds hl3;dsimp only[ca,na]at hI
   refine sm ?_
   obtain⟨r4,hx7,h⟩:=ae h
   refine aB gn rfl (Rc Tryz.func80) (Calls.mono (hrec hI.lt FS hx7) ?_)
   rintro _ w10 ⟨a10,c17,a11,c18,a12,c19,a13,c20,rfl,hx8,hl4⟩
   refine⟨_,rfl,?_⟩
   replace hI:=(hI.ext hx8).adds hl4;dsimp only[ca,na]at hI
   refine T ?_
   refine lN fun b5 c21 w11 hI=> ?_
   refine lN fun b6 c22 w12 hI=> ?_
   refine ba (new:=(aX r4.1 a10 c17 a11 c18 a12 c19)) (cs':=(aq r4.1 a10 c17 a11 c18 a12 c19)) hI (.s .z) gn rfl rfl et et rfl aC rfl rfl rfl ?_
   intro c23 w13 hI
   refine ba (new:=(ah r4.2 a13 c20)) (cs':=(ab r4.2 a13 c20)) hI .z gn rfl rfl et et rfl aG rfl rfl rfl ?_
   intro c24 w14 hI
   refine T ?_
   refine ll hI an ([r4.1]:List GExpr) jr (.cs (dM ⟨a10,c17,a11,c18,a12,c19,rfl,hI.get .z,hI.get (.s .z),hI.get (.s (.s .z))⟩) .nl) fun b7 c25 w15 hI=> ?_
   refine T ?_
   refine ba (new:=[vs (some ⟨b7,0,none⟩) ([r4.1]:List GExpr).length 1]) (cs':=#[vi bg.Op,(aE bg.Name),vi bg.Val.N,vi bg.Val.D,vi bg.Type_.Kind,vi bg.Type_.Bits,vi bg.Type_.Frac,vi bg.Type_.Round,vi bg.Type_.Over,vi bg.Lin.K,vs a6 bg.Lin.L.length c12,vs a7 bg.Idx.length c13,vs (some ⟨b7,0,none⟩) ([r4.1]:List GExpr).length 1]) hI (.s (.s (.s (.s (.s (.s (.s (.s .z)))))))) gn rfl rfl et et rfl Fd rfl rfl rfl ?_
   intro c26 w16 hI
   refine T ?_
   refine lS fun c27 w17 hI=> ?_
   refine nk (al (aI [2,3] false (.c (0,.q) (.two 1 (.c (2,.s) kH) 2 (.c (1,.s) kH))) hI (by kernel_rfl) (by kernel_rfl) ?_))
   intro w21 hI
   refine cj (α:=NP) (T:=kH) (fun x=>[(1,vi n1),(2,vp b1 0),(4,vp b2 0),(5,vp b3 0),(6,vp b4 0),(7,vp b5 0),(8,vp b6 0),(32,(Value.tuple #[(Value.agg (aq r4.1 a10 c17 a11 c18 a12 c19)),(Value.agg (ab r4.2 a13 c20))])),(33,(Value.agg (ab p1 a1 c1))),(34,(Value.agg (ab r3 a9 c16))),(35,vi n1),(36,(Value.tuple #[(Value.agg (aq r4.1 a10 c17 a11 c18 a12 c19)),(Value.agg (ab r4.2 a13 c20))])),(37,(Value.agg (aq r4.1 a10 c17 a11 c18 a12 c19))),(38,(Value.agg (ab r4.2 a13 c20))),(39,(Value.agg (aq r4.1 a10 c17 a11 c18 a12 c19))),(40,vs (some ⟨b7,0,none⟩) ([r4.1]:List GExpr).length 1),(41,vp b4 12),(42,vp b1 2),(43,vi p1.Deep),(44,vp b6 2),(45,(Value.agg #[vi bg.Op,(aE bg.Name),vi bg.Val.N,vi bg.Val.D,vi bg.Type_.Kind,vi bg.Type_.Bits,vi bg.Type_.Frac,vi bg.Type_.Round,vi bg.Type_.Over,vi bg.Lin.K,vs a6 bg.Lin.L.length c12,vs a7 bg.Idx.length c13,vs (some ⟨b7,0,none⟩) ([r4.1]:List GExpr).length 1])),(46,(Value.agg #[vs a13 r4.2.L.length c20,vi r4.2.At,vi p1.Deep,vi r4.2.E,vi r4.2.Pos]))]) (fun x w=>Bun du F w0 x w [MO.row an 39 (some ⟨b7,0,none⟩) 1 ([r4.1]:List GExpr),MO.box b6 72 #[vs a13 r4.2.L.length c20,vi r4.2.At,vi p1.Deep,vi r4.2.E,vi r4.2.Pos],MO.box b5 39 (aq r4.1 a10 c17 a11 c18 a12 c19),MO.row ai 64 a6 c12 bg.Lin.L,MO.row ak 132 a7 c13 bg.Idx,MO.row an 39 a8 c14 bg.Args,MO.box b2 39 #[vi bg.Op,(aE bg.Name),vi bg.Val.N,vi bg.Val.D,vi bg.Type_.Kind,vi bg.Type_.Bits,vi bg.Type_.Frac,vi bg.Type_.Round,vi bg.Type_.Over,vi bg.Lin.K,vs a6 bg.Lin.L.length c12,vs a7 bg.Idx.length c13,vs (some ⟨b7,0,none⟩) ([r4.1]:List GExpr).length 1],MO.box b3 72 au,MO.box b4 39 #[vi bg.Op,(aE bg.Name),vi bg.Val.N,vi bg.Val.D,vi bg.Type_.Kind,vi bg.Type_.Bits,vi bg.Type_.Frac,vi bg.Type_.Round,vi bg.Type_.Over,vi bg.Lin.K,vs a6 bg.Lin.L.length c12,vs a7 bg.Idx.length c13,vs (some ⟨b7,0,none⟩) ([r4.1]:List GExpr).length 1]] [Cl.sl ai a10 c17 r4.1.Lin.L,Cl.sl ak a11 c18 r4.1.Idx,Cl.sl an a12 c19 r4.1.Args,Cl.sl ag a13 c20 r4.2.L,Cl.sl ag a9 c16 r3.L,Cl.blk b1 72 (ab p1 a1 c1),Cl.sl ag a1 c1 p1.L]) (fun x w=>SN [] (DM true F x) w) ?_ ?_
   ·clear hI;rintro c30 w20 hI
    try dsimp only at hI ⊢
    unfold kH
    refine vA fun c29 w19 hI=> ?_
    refine V ?_
    refine aA ?_
    obtain⟨c31,hI⟩:=hI.release (.s (.s (.s .z)))
    obtain⟨c32,hI⟩:=hI.release (.s (.s (.s .z)))
    obtain⟨c33,hI⟩:=hI.release .z
    obtain rfl:=aj h
    exact eV (vs:=[(Value.agg #[vi bg.Op,(aE bg.Name),vi bg.Val.N,vi bg.Val.D,vi bg.Type_.Kind,vi bg.Type_.Bits,vi bg.Type_.Frac,vi bg.Type_.Round,vi bg.Type_.Over,vi bg.Lin.K,vs a6 bg.Lin.L.length c12,vs a7 bg.Idx.length c13,vs (some ⟨b7,0,none⟩) ([r4.1]:List GExpr).length 1]),(Value.agg #[vs a13 r4.2.L.length c20,vi r4.2.At,vi p1.Deep,vi r4.2.E,vi r4.2.Pos])]) Tryz.results80 ⟨⟨_,aK rfl rfl,ci (l:=[vi bg.Op,(aE bg.Name),vi bg.Val.N,vi bg.Val.D,vi bg.Type_.Kind,vi bg.Type_.Bits,vi bg.Type_.Frac,vi bg.Type_.Round,vi bg.Type_.Over,vi bg.Lin.K,vs a6 bg.Lin.L.length c12,vs a7 bg.Idx.length c13,vs (some ⟨b7,0,none⟩) ([r4.1]:List GExpr).length 1]) jT rfl aC (CellsAt.of_blk (hI.blk (.s (.s (.s .z)))) rfl)⟩,⟨⟨_,aK rfl rfl,ci (l:=[vs a13 r4.2.L.length c20,vi r4.2.At,vi p1.Deep,vi r4.2.E,vi r4.2.Pos]) j5 rfl aG (CellsAt.of_blk (hI.blk (.s (.s (.s (.s .z))))) rfl)⟩,trivial⟩⟩ ⟨a6,c12,a7,c13,some ⟨b7,0,none⟩,1,a13,c20,rfl,hI.ext0,hI.fin ⟨(.s (.s .z)),(.s .z),.z,(.s (.s (.s (.s (.s (.s .z)))))),trivial⟩⟩
   intro hk_tr_ref16_level_1_0
   refine ct rfl gn rfl (fun w' hw'=>(am (l:=[vi bg.Op,(aE bg.Name),vi bg.Val.N,vi bg.Val.D,vi bg.Type_.Kind,vi bg.Type_.Bits,vi bg.Type_.Frac,vi bg.Type_.Round,vi bg.Type_.Over,vi bg.Lin.K,vs a6 bg.Lin.L.length c12,vs a7 bg.Idx.length c13,vs (some ⟨b7,0,none⟩) ([r4.1]:List GExpr).length 1]) rfl et jT rfl aC ((CA.blk (hI.blk (.s (.s (.s (.s (.s (.s (.s (.s .z))))))))) rfl).at_ (SX.any rfl hw')))) (by kernel_rfl) ?_
   refine da ?_ ?_
   ·skip
    refine bn rfl gn rfl (am (l:=[vs a13 r4.2.L.length c20,vi r4.2.At,vi p1.Deep,vi r4.2.E,vi r4.2.Pos]) rfl et j5 rfl aG (CellsAt.of_blk (hI.blk (.s .z)) rfl)) SX.self ?_
    refine bJ (F:=F) (C:=c27) rfl rfl ?_
    refine vA fun c28 w18 hI=> ?_
    exact aW (hk_tr_ref16_level_1_0 c28 _ (hI.arr (.c .z (.c .z (.c .z (.c .z (.c .z (.c .z (.c .z (.c .z (.c .z .n))))))))) ⟨.z,(.s .z),(.s (.s .z)),(.s (.s (.s .z))),(.s (.s (.s (.s .z)))),(.s (.s (.s (.s (.s .z))))),(.s (.s (.s (.s (.s (.s .z)))))),trivial⟩)) ⟨rfl,rfl,rfl,rfl,rfl,rfl,rfl,rfl,rfl,rfl,rfl,rfl,rfl,rfl,rfl,rfl,rfl,rfl,rfl,rfl,rfl,rfl,trivial⟩
   refine bu (F:=F) (C:=c27) rfl rfl ?_
   refine vA fun c28 w18 hI=> ?_
   refine bn rfl gn rfl (am (l:=[vs a13 r4.2.L.length c20,vi r4.2.At,vi p1.Deep,vi r4.2.E,vi r4.2.Pos]) rfl et j5 rfl aG (CellsAt.of_blk (hI.blk (.s .z)) rfl)) SX.self ?_
   exact aW (hk_tr_ref16_level_1_0 c28 _ (hI.arr (.c .z (.c .z (.c .z (.c .z (.c .z (.c .z (.c .z (.c .z (.c .z .n))))))))) ⟨.z,(.s .z),(.s (.s .z)),(.s (.s (.s .z))),(.s (.s (.s (.s .z)))),(.s (.s (.s (.s (.s .z))))),(.s (.s (.s (.s (.s (.s .z)))))),trivial⟩)) ⟨rfl,rfl,rfl,rfl,rfl,rfl,rfl,rfl,rfl,rfl,rfl,rfl,rfl,rfl,rfl,rfl,rfl,rfl,rfl,rfl,rfl,rfl,trivial⟩
  refine TC (fun hb h=> ?_) fun hb h=> ?_
  ·refine T ?_
   refine lS fun c34 w22 hI=> ?_
   refine aM ?_
   have hI:=hI.nil ai 64 none
   have hI:=hI.nil ak 132 none
   have hI:=hI.nil an 39 none
   exact bi ((⟨8,([]:List UInt8),(⟨0,0⟩:GVal),(⟨0,0,0,0,0⟩:GType),(⟨0,([]:List GMono)⟩:GLin),([]:List GIndex),([]:List GExpr)⟩:GExpr),none,0,none,0,none,0) ⟨rfl,rfl,rfl,rfl,rfl,trivial⟩ ⟨_,hI.arr (.c (.s (.s .z)) (.c (.s .z) (.c .z (.c (.s (.s .z)) (.c (.s .z) (.c .z .n)))))) ⟨.z,(.s .z),trivial⟩,h⟩ rfl
  refine bf ?_
  have hI:=hI.nil ai 64 none
  have hI:=hI.nil ak 132 none
  have hI:=hI.nil an 39 none
  exact bi ((⟨18,([]:List UInt8),(⟨0,0⟩:GVal),(⟨0,0,0,0,0⟩:GType),(⟨0,([]:List GMono)⟩:GLin),([]:List GIndex),([]:List GExpr)⟩:GExpr),none,0,none,0,none,0) ⟨rfl,rfl,rfl,rfl,rfl,trivial⟩ ⟨_,hI.arr (.c (.s (.s .z)) (.c (.s .z) (.c .z (.c (.s (.s .z)) (.c (.s .z) (.c .z .n)))))) ⟨.z,(.s .z),trivial⟩,h⟩ rfl
 refine T ?_
 refine al (T ?_)
 refine TC (fun hb h=> ?_) fun hb h=> ?_
 ·refine sr (sq (am (l:=(ah p1 a1 c1)) rfl et j5 rfl aG (hI.kblk (l:=(ah p1 a1 c1)) .z rfl).1) ?_)
  obtain⟨r5,hx9,h⟩:=ae h
  refine aB gn rfl (Rc Tryz.func151) (Calls.mono (uH hrec hI.lt FS hx9) ?_)
  rintro _ w23 ⟨a14,c35,a15,c36,a16,c37,a17,c38,rfl,hx10,hl5⟩
  refine⟨_,rfl,?_⟩
  replace hI:=(hI.ext hx10).adds hl5;dsimp only[ca,na]at hI
  refine T ?_
  refine ba (new:=(aX r5.1 a14 c35 a15 c36 a16 c37)) (cs':=(aq r5.1 a14 c35 a15 c36 a16 c37)) hI (.s .z) gn rfl rfl et et rfl aC rfl rfl rfl ?_
  intro c39 w24 hI
  refine ba (new:=(ah r5.2 a17 c38)) (cs':=(ab r5.2 a17 c38)) hI .z gn rfl rfl et et rfl aG rfl rfl rfl ?_
  intro c40 w25 hI
  refine nk (aA ?_)
  obtain rfl:=aj h
  exact eV (vs:=[(Value.agg (aq r5.1 a14 c35 a15 c36 a16 c37)),(Value.agg (ab r5.2 a17 c38))]) Tryz.results80 ⟨⟨_,aK rfl rfl,ci (l:=(aX r5.1 a14 c35 a15 c36 a16 c37)) jT rfl aC (CellsAt.of_blk (hI.blk (.s .z)) rfl)⟩,⟨⟨_,aK rfl rfl,ci (l:=(ah r5.2 a17 c38)) j5 rfl aG (CellsAt.of_blk (hI.blk .z) rfl)⟩,trivial⟩⟩ ⟨a14,c35,a15,c36,a16,c37,a17,c38,rfl,hI.ext0,hI.fin ⟨.z,(.s .z),(.s (.s .z)),(.s (.s (.s .z))),trivial⟩⟩
 refine T ?_
 refine sq (am (l:=(ah p1 a1 c1)) rfl et j5 rfl aG (hI.kblk (l:=(ah p1 a1 c1)) .z rfl).1) ?_
 refine T ?_
 obtain⟨r6,hx11,h⟩:=ae h
 refine aB gn rfl (Rc Tryz.func80) (Calls.mono (hrec hI.lt FS hx11) ?_)
 rintro _ w26 ⟨a18,c41,a19,c42,a20,c43,a21,c44,rfl,hx12,hl6⟩
 refine⟨_,rfl,?_⟩
 replace hI:=(hI.ext hx12).adds hl6;dsimp only[ca,na]at hI
 refine T ?_
 refine lN fun b8 c45 w27 hI=> ?_
 refine lN fun b9 c46 w28 hI=> ?_
 refine ba (new:=(aX r6.1 a18 c41 a19 c42 a20 c43)) (cs':=(aq r6.1 a18 c41 a19 c42 a20 c43)) hI (.s .z) gn rfl rfl et et rfl aC rfl rfl rfl ?_
 intro c47 w29 hI
 refine ba (new:=(ah r6.2 a21 c44)) (cs':=(ab r6.2 a21 c44)) hI .z gn rfl rfl et et rfl aG rfl rfl rfl ?_
 intro c48 w30 hI
 refine T ?_
 refine al (T ?_)
 refine bh (α:=Nat×GExpr×ac×(Option Addr)×Nat×(Option Addr)×Nat×(Option Addr)×Nat×(Option Addr)×Nat) (fun x=>fun w=>∃ C,Bun du F w0 C w [MO.box b2 39 #[vi 0,(aE ([]:List UInt8)),vi 0,vi 0,vi 0,vi 0,vi 0,vi 0,vi 0,vi 0,vs none 0 0,vs none 0 0,vs none 0 0],MO.box b3 72 au,MO.box b8 39 (aq (x.2.1) (x.2.2.2.1) (x.2.2.2.2.1) (x.2.2.2.2.2.1) (x.2.2.2.2.2.2.1) (x.2.2.2.2.2.2.2.1) (x.2.2.2.2.2.2.2.2.1)),MO.box b9 72 (ab (x.2.2.1) (x.2.2.2.2.2.2.2.2.2.1) (x.2.2.2.2.2.2.2.2.2.2))] [Cl.sl ai (x.2.2.2.1) (x.2.2.2.2.1) (x.2.1).Lin.L,Cl.sl ak (x.2.2.2.2.2.1) (x.2.2.2.2.2.2.1) (x.2.1).Idx,Cl.sl an (x.2.2.2.2.2.2.2.1) (x.2.2.2.2.2.2.2.2.1) (x.2.1).Args,Cl.sl ag (x.2.2.2.2.2.2.2.2.2.1) (x.2.2.2.2.2.2.2.2.2.2) (x.2.2.1).L]∧bp n1 rec_ (x.1) (x.2.1) (x.2.2.1)=some r) (fun x _=>x.1) (fun x=>[(1,vi n1),(4,vp b2 0),(5,vp b3 0),(9,vp b8 0),(10,vp b9 0)]) (fu,r6.1,r6.2,a18,c41,a19,c42,a20,c43,a21,c44) ⟨_,hI.arr (.c (.s (.s (.s .z))) (.c (.s (.s .z)) (.c (.s .z) (.c .z .n)))) ⟨.z,(.s .z),(.s (.s .z)),(.s (.s (.s .z))),trivial⟩,h⟩ ⟨rfl,rfl,rfl,rfl,rfl,trivial⟩ ?_
 clear h hI;rintro⟨fuel1,x1,q1,a22,c49,a23,c50,a24,c51,a25,c52⟩ w31 ⟨c53,hI,h⟩
 dsimp only at hI h ⊢
 rcases fuel1 with _ | fuel1
 ·rw[bp]at h;cases h
 rw[bp]at h
 refine al (T ?_)
 refine sB h (fun _ k=>pE hI.lt FS k) (Rc Tryz.func152) fun r7 Dv h hI=> ?_
 refine TC (fun hb h=> ?_) fun hb h=> ?_
 ·refine T ?_
  refine sB h (fun _ k=>pE hI.lt FS k) (Rc Tryz.func152) fun r8 w33 h hI=> ?_
  refine T ?_
  refine lS fun c54 w34 hI=> ?_
  refine T ?_
  obtain⟨r9,hx17,h⟩:=ae h
  refine aB gn rfl (Rc Tryz.func80) (Calls.mono (hrec hI.lt FS hx17) ?_)
  rintro _ w35 ⟨a26,c55,a27,c56,a28,c57,a29,c58,rfl,hx18,hl9⟩
  refine⟨_,rfl,?_⟩
  replace hI:=(hI.ext hx18).adds hl9;dsimp only[ca,na]at hI
  refine T ?_
  refine lN fun b10 c59 w36 hI=> ?_
  refine lN fun b11 c60 w37 hI=> ?_
  refine ba (new:=(aX r9.1 a26 c55 a27 c56 a28 c57)) (cs':=(aq r9.1 a26 c55 a27 c56 a28 c57)) hI (.s .z) gn rfl rfl et et rfl aC rfl rfl rfl ?_
  intro c61 w38 hI
  refine ba (new:=(ah r9.2 a29 c58)) (cs':=(ab r9.2 a29 c58)) hI .z gn rfl rfl et et rfl aG rfl rfl rfl ?_
  intro c62 w39 hI
  refine T ?_
  refine ll hI an ([x1,r9.1]:List GExpr) jr (.cs (dM ⟨a22,c49,a23,c50,a24,c51,rfl,hI.get (.s (.s (.s (.s .z)))),hI.get (.s (.s (.s (.s (.s .z))))),hI.get (.s (.s (.s (.s (.s (.s .z))))))⟩) (.cs (dM ⟨a26,c55,a27,c56,a28,c57,rfl,hI.get .z,hI.get (.s .z),hI.get (.s (.s .z))⟩) .nl)) fun b12 c63 w40 hI=> ?_
  refine sq (ax (vs:=[(0,vi r8),(6,vs (some ⟨b12,0,none⟩) ([x1,r9.1]:List GExpr).length 2)]) (cs:=#[vi r8,(aE ([]:List UInt8)),vi 0,vi 0,vi 0,vi 0,vi 0,vi 0,vi 0,vi 0,vs none 0 0,vs none 0 0,vs (some ⟨b12,0,none⟩) ([x1,r9.1]:List GExpr).length 2]) rfl ⟨rfl,et,⟨rfl,et,trivial⟩⟩ (by kernel_rfl)) ?_
  refine ba (new:=[vi r8,(aE ([]:List UInt8)),vi 0,vi 0,vi 0,vi 0,vi 0,vi 0,vi 0,vi 0,vs none 0 0,vs none 0 0,vs (some ⟨b12,0,none⟩) ([x1,r9.1]:List GExpr).length 2]) (cs':=#[vi r8,(aE ([]:List UInt8)),vi 0,vi 0,vi 0,vi 0,vi 0,vi 0,vi 0,vi 0,vs none 0 0,vs none 0 0,vs (some ⟨b12,0,none⟩) ([x1,r9.1]:List GExpr).length 2]) hI (.s (.s (.s (.s (.s .z))))) gn rfl rfl et et rfl aC rfl rfl rfl ?_
  intro c64 w41 hI
  refine T ?_
  refine ba (new:=(ah r9.2 a29 c58)) (cs':=(ab r9.2 a29 c58)) hI (.s (.s (.s (.s (.s (.s .z)))))) gn rfl rfl et et rfl aG rfl rfl rfl ?_
  intro c65 w42 hI
  refine aM ?_
  have hI:=hI.add (c:=Cl.sl ai none 0 ([]:List GMono)) SlC.nil
  have hI:=hI.add (c:=Cl.sl ak none 0 ([]:List GIndex)) SlC.nil
  obtain⟨c66,hI⟩:=hI.release .z
  exact jY (fuel1,(⟨r8,([]:List UInt8),(⟨0,0⟩:GVal),(⟨0,0,0,0,0⟩:GType),(⟨0,([]:List GMono)⟩:GLin),([]:List GIndex),([x1,r9.1]:List GExpr)⟩:GExpr),r9.2,none,0,none,0,some ⟨b12,0,none⟩,2,a29,c58) ⟨rfl,rfl,rfl,rfl,rfl,trivial⟩ ⟨_,hI.arr (.c (.s (.s .z)) (.c (.s (.s .z)) (.c (.s (.s .z)) (.c (.s (.s .z)) .n)))) ⟨(.s (.s .z)),(.s .z),.z,(.s (.s (.s (.s (.s (.s .z)))))),trivial⟩,h⟩ (Nat.lt_succ_self _)
 refine bk ?_
 refine eU ?_
 refine bb (al (aI [2,3] false (.c (0,.q) (.two 1 (.c (2,.s) kG) 2 (.c (1,.s) kG))) hI (by kernel_rfl) (by kernel_rfl) ?_))
 intro w46 hI
 refine cj (α:=NP) (T:=kG) (fun x=>[(1,vi n1),(4,vp b2 0),(5,vp b3 0),(9,vp b8 0),(10,vp b9 0),(60,(Value.agg (ab q1 a25 c52))),(61,vi n1),(62,vi r7),(63,(vb (!decide (r7=0)))),(84,(Value.agg (aq x1 a22 c49 a23 c50 a24 c51))),(85,(Value.agg (ab q1 a25 c52)))]) (fun x w=>Bun du F w0 x w [MO.box b2 39 (aq x1 a22 c49 a23 c50 a24 c51),MO.box b3 72 au,MO.box b8 39 (aq x1 a22 c49 a23 c50 a24 c51),MO.box b9 72 (ab q1 a25 c52)] [Cl.sl ai a22 c49 x1.Lin.L,Cl.sl ak a23 c50 x1.Idx,Cl.sl an a24 c51 x1.Args,Cl.sl ag a25 c52 q1.L]) (fun x w=>SN [] (DM true F x) w) ?_ ?_
 ·clear hI;rintro c69 w45 hI
  try dsimp only at hI ⊢
  unfold kG
  refine vA fun c68 w44 hI=> ?_
  refine V ?_
  refine aA ?_
  obtain rfl:=aj h
  exact eV (vs:=[(Value.agg (aq x1 a22 c49 a23 c50 a24 c51)),(Value.agg (ab q1 a25 c52))]) Tryz.results80 ⟨⟨_,aK rfl rfl,ci (l:=(aX x1 a22 c49 a23 c50 a24 c51)) jT rfl aC (CellsAt.of_blk (hI.blk .z) rfl)⟩,⟨⟨_,aK rfl rfl,ci (l:=(ah q1 a25 c52)) j5 rfl aG (CellsAt.of_blk (hI.blk (.s .z)) rfl)⟩,trivial⟩⟩ ⟨a22,c49,a23,c50,a24,c51,a25,c52,rfl,hI.ext0,hI.fin ⟨.z,(.s .z),(.s (.s .z)),(.s (.s (.s .z))),trivial⟩⟩
 intro hk_tr_ref16_level_4_0
 refine ct rfl gn rfl (fun w' hw'=>(am (l:=(aX x1 a22 c49 a23 c50 a24 c51)) rfl et jT rfl aC ((CA.blk (hI.blk (.s (.s .z))) rfl).at_ (SX.any rfl hw')))) (by kernel_rfl) ?_
 refine da ?_ ?_
 ·skip
  refine bn rfl gn rfl (am (l:=(ah q1 a25 c52)) rfl et j5 rfl aG (CellsAt.of_blk (hI.blk (.s (.s (.s .z)))) rfl)) SX.self ?_
  refine bJ (F:=F) (C:=c53) rfl rfl ?_
  refine vA fun c67 w43 hI=> ?_
  exact aW (hk_tr_ref16_level_4_0 c67 _ (hI.arr (.c .z (.c .z (.c .z (.c .z .n)))) ⟨.z,(.s .z),(.s (.s .z)),(.s (.s (.s .z))),trivial⟩)) ⟨rfl,rfl,rfl,rfl,rfl,rfl,rfl,rfl,rfl,rfl,rfl,trivial⟩
 refine bu (F:=F) (C:=c53) rfl rfl ?_
 refine vA fun c67 w43 hI=> ?_
 refine bn rfl gn rfl (am (l:=(ah q1 a25 c52)) rfl et j5 rfl aG (CellsAt.of_blk (hI.blk (.s (.s (.s .z)))) rfl)) SX.self ?_
 exact aW (hk_tr_ref16_level_4_0 c67 _ (hI.arr (.c .z (.c .z (.c .z (.c .z .n)))) ⟨.z,(.s .z),(.s (.s .z)),(.s (.s (.s .z))),trivial⟩)) ⟨rfl,rfl,rfl,rfl,rfl,rfl,rfl,rfl,rfl,rfl,rfl,trivial⟩
theorem uI (n:Nat):It (aD n):=by
 induction n with
 | zero=>intro F;intros;rename_i h;cases h
 | succ n ih=>intro F;intros;apply uJ ih<;>assumption
theorem xm:It (nX):=uI fu
abbrev Qs8 (f_:(GExpr→Int→Option Int)):Prop:=∀ ⦃F:NP⦄ ⦃w0:World⦄ (hF:dG F w0) ⦃e1:GExpr⦄ ⦃most1:Int⦄ ⦃a1 a2 a3:Option Addr⦄ ⦃c1 c2 c3:Nat⦄ (hc:AllCl [Cl.sl ai a1 c1 e1.Lin.L,Cl.sl ak a2 c2 e1.Idx,Cl.sl an a3 c3 e1.Args] F w0) ⦃r:Int⦄ (h:f_ e1 most1=some r),CR F w0 160 #[(Value.agg (aq e1 a1 c1 a2 c2 a3 c3)),vi most1] (vi r) []
theorem uL {rec_:(GExpr→Int→Option Int)} (hrec:Qs8 rec_) (hF:dG F w0) {e1:GExpr} {most1:Int} (hc:AllCl [Cl.sl ai a1 c1 e1.Lin.L,Cl.sl ak a2 c2 e1.Idx,Cl.sl an a3 c3 e1.Args] F w0) {r:Int} (h:kU rec_ e1 most1=some r):CR F w0 160 #[(Value.agg (aq e1 a1 c1 a2 c2 a3 c3)),vi most1] (vi r) []:=by
 refine EN Tryz.func160 Tryz.ntmps160 hF hc fun hI=> ?_
 rw[kU]at h
 refine sr (lX fun b1 c5 w1 hI=> ?_)
 refine T ?_
 refine al (T ?_)
 refine bh (α:=Nat×Int×Int) (fun x=>fun w=>∃ C,Bun du F w0 C w [] [Cl.blk b1 39 (aq e1 a1 c1 a2 c2 a3 c3),Cl.sl ai a1 c1 e1.Lin.L,Cl.sl ak a2 c2 e1.Idx,Cl.sl an a3 c3 e1.Args]∧fe e1 most1 rec_ (x.1) (x.2.1) (x.2.2)=some r) (fun x _=>x.1) (fun x=>[(1,vi most1),(2,vp b1 0),(5,vi (x.2.1)),(6,vi (x.2.2))]) (fu,1,0) BH SB ?_
 clear h hI;rintro⟨fuel1,d1,i1⟩ w2 ⟨c6,hI,h⟩
 dsimp only at hI h ⊢
 rcases fuel1 with _ | fuel1
 ·rw[fe]at h;cases h
 rw[fe]at h
 refine al (T ?_)
 refine TC (fun hb h=> ?_) fun hb h=> ?_
 ·refine T ?_
  refine al (T ?_)
  obtain⟨e2,hx1,h⟩:=ae h
  obtain⟨ad1,cs1,hA1,hr1,hq1⟩:=hI.clat (.s (.s (.s .z))) hx1
  obtain⟨a4,c7,a5,c8,a6,c9,rfl,hf1,hf2,hf3⟩:=iG hr1
  have hI:=hI.ads hf1
  have hI:=hI.ads hf2
  have hI:=hI.ads hf3
  refine sI ?_
  refine T ?_
  refine sB h (fun _ k=>hrec hI.lt FS k) (Rc Tryz.func160) fun r1 w3 h hI=> ?_
  refine T ?_
  refine sq (Dm rfl et et) ?_
  refine T ?_
  refine aM ?_
  exact kl (fuel1,max d1 (ar (1+r1)),ar (i1+1))
 refine bk ?_
 refine eU ?_
 refine bb ?_
 exact RF
theorem uK (n:Nat):Qs8 (jv n):=by
 induction n with
 | zero=>intro F;intros;rename_i h;cases h
 | succ n ih=>intro F;intros;apply uL ih<;>assumption
theorem xt:Qs8 (pk):=uK fu
theorem xu (hF:dG F w0) {e1:GExpr} (hc:AllCl [Cl.sl ai a1 c1 e1.Lin.L,Cl.sl ak a2 c2 e1.Idx,Cl.sl an a3 c3 e1.Args] F w0) {r:Int} (h:nY e1=some r):CR F w0 85 #[(Value.agg (aq e1 a1 c1 a2 c2 a3 c3))] (vi r) []:=by
 refine EN Tryz.func85 Tryz.ntmps85 hF hc fun hI=> ?_
 rw[nY]at h
 refine sr (lX fun b1 c5 w1 hI=> ?_)
 refine T ?_
 refine sq (am (l:=(aX e1 a1 c1 a2 c2 a3 c3)) rfl et jT rfl aC (hI.kblk (l:=(aX e1 a1 c1 a2 c2 a3 c3)) .z rfl).1) ?_
 refine sB h (fun _ k=>xt hI.lt FS k) (Rc Tryz.func160) fun r1 w2 h hI=> ?_
 exact RF
abbrev Qs9 (f_:(GExpr→Int→Option Int)):Prop:=∀ ⦃F:NP⦄ ⦃w0:World⦄ (hF:dG F w0) ⦃e1:GExpr⦄ ⦃most1:Int⦄ ⦃a1 a2 a3:Option Addr⦄ ⦃c1 c2 c3:Nat⦄ (hc:AllCl [Cl.sl ai a1 c1 e1.Lin.L,Cl.sl ak a2 c2 e1.Idx,Cl.sl an a3 c3 e1.Args] F w0) ⦃r:Int⦄ (h:f_ e1 most1=some r),CR F w0 161 #[(Value.agg (aq e1 a1 c1 a2 c2 a3 c3)),vi most1] (vi r) []
theorem wC {rec_:(GExpr→Int→Option Int)} (hrec:Qs9 rec_) (hF:dG F w0) {e1:GExpr} {most1:Int} (hc:AllCl [Cl.sl ai a1 c1 e1.Lin.L,Cl.sl ak a2 c2 e1.Idx,Cl.sl an a3 c3 e1.Args] F w0) {r:Int} (h:lG rec_ e1 most1=some r):CR F w0 161 #[(Value.agg (aq e1 a1 c1 a2 c2 a3 c3)),vi most1] (vi r) []:=by
 refine EN Tryz.func161 Tryz.ntmps161 hF hc fun hI=> ?_
 rw[lG]at h
 refine sr (lX fun b1 c5 w1 hI=> ?_)
 refine T ?_
 refine al (T ?_)
 refine bh (α:=Nat×Int×Int) (fun x=>fun w=>∃ C,Bun du F w0 C w [] [Cl.blk b1 39 (aq e1 a1 c1 a2 c2 a3 c3),Cl.sl ai a1 c1 e1.Lin.L,Cl.sl ak a2 c2 e1.Idx,Cl.sl an a3 c3 e1.Args]∧dr e1 most1 rec_ (x.1) (x.2.1) (x.2.2)=some r) (fun x _=>x.1) (fun x=>[(1,vi most1),(2,vp b1 0),(5,vi (x.2.1)),(6,vi (x.2.2))]) (fu,1,0) BH SB ?_
 clear h hI;rintro⟨fuel1,n1,i1⟩ w2 ⟨c6,hI,h⟩
 dsimp only at hI h ⊢
 rcases fuel1 with _ | fuel1
 ·rw[dr]at h;cases h
 rw[dr]at h
 refine al (T ?_)
 refine TC (fun hb h=> ?_) fun hb h=> ?_
 ·refine T ?_
  refine al (T ?_)
  obtain⟨e2,hx1,h⟩:=ae h
  obtain⟨ad1,cs1,hA1,hr1,hq1⟩:=hI.clat (.s (.s (.s .z))) hx1
  obtain⟨a4,c7,a5,c8,a6,c9,rfl,hf1,hf2,hf3⟩:=iG hr1
  have hI:=hI.ads hf1
  have hI:=hI.ads hf2
  have hI:=hI.ads hf3
  refine sI ?_
  refine T ?_
  refine sB h (fun _ k=>hrec hI.lt FS k) (Rc Tryz.func161) fun r1 w3 h hI=> ?_
  refine T ?_
  refine aM ?_
  exact kl (fuel1,ar (n1+r1),ar (i1+1))
 refine bk ?_
 refine eU ?_
 refine bb ?_
 exact RF
theorem wB (n:Nat):Qs9 (fG n):=by
 induction n with
 | zero=>intro F;intros;rename_i h;cases h
 | succ n ih=>intro F;intros;apply wC ih<;>assumption
theorem yO:Qs9 (pW):=wB fu
theorem yR (hF:dG F w0) {e1:GExpr} (hc:AllCl [Cl.sl ai a1 c1 e1.Lin.L,Cl.sl ak a2 c2 e1.Idx,Cl.sl an a3 c3 e1.Args] F w0) {r:Int} (h:m9 e1=some r):CR F w0 86 #[(Value.agg (aq e1 a1 c1 a2 c2 a3 c3))] (vi r) []:=by
 refine EN Tryz.func86 Tryz.ntmps86 hF hc fun hI=> ?_
 rw[m9]at h
 refine sr (lX fun b1 c5 w1 hI=> ?_)
 refine T ?_
 refine sq (am (l:=(aX e1 a1 c1 a2 c2 a3 c3)) rfl et jT rfl aC (hI.kblk (l:=(aX e1 a1 c1 a2 c2 a3 c3)) .z rfl).1) ?_
 refine sB h (fun _ k=>yO hI.lt FS k) (Rc Tryz.func161) fun r1 w2 h hI=> ?_
 refine sq (HI rfl et ao) ?_
 exact RF
theorem xq (hF:dG F w0) {e1:GExpr} (hc:AllCl [Cl.sl ai a1 c1 e1.Lin.L,Cl.sl ak a2 c2 e1.Idx,Cl.sl an a3 c3 e1.Args] F w0) {r:Bool} (h:mx e1=some r):CR F w0 162 #[(Value.agg (aq e1 a1 c1 a2 c2 a3 c3))] (vb r) []:=by
 refine EN Tryz.func162 Tryz.ntmps162 hF hc fun hI=> ?_
 rw[mx]at h
 refine sr (lX fun b1 c5 w1 hI=> ?_)
 refine rJ ?_
 refine nk (al (sr (sq (aN rfl et jT rfl jt rfl) ?_)))
 refine sq (bo (v:=(vi e1.Op)) rfl et u3 rfl (hI.kblk (l:=[vi e1.Op]) .z rfl).1) ?_
 refine sq (qE rfl et ao) ?_
 refine sm ?_
 refine az (cq rfl rfl rfl rfl) rfl (fun hc=>aN rfl et jT rfl jt rfl) ?_
 refine az (cq rfl rfl rfl rfl) rfl (fun hc=>(bo (v:=(vi e1.Op)) rfl (aQ et hc) u3 rfl (hI.kblk (l:=[vi e1.Op]) .z rfl).1)) ?_
 refine az (cq rfl rfl rfl rfl) rfl (fun hc=>rF rfl (aQ et hc) ao) ?_
 refine sq (ya rfl et et) ?_
 refine TC (fun hb h=> ?_) fun hb h=> ?_
 ·refine sr (rJ ?_)
  refine nk (aA ?_)
  obtain rfl:=aj h
  exact eV (vs:=[vb false]) Tryz.results162 ⟨aK rfl rfl,trivial⟩ (fq hI trivial)
 refine bf (bb (al (sr (sq (aN rfl et jT rfl jt rfl) ?_))))
 refine sq (bo (v:=(vi e1.Op)) rfl et u3 rfl (hI.kblk (l:=[vi e1.Op]) .z rfl).1) ?_
 refine sq (ow rfl et ao) ?_
 refine sm ?_
 refine az (aT rfl rfl rfl rfl) rfl (fun hc=>aN rfl et jT rfl mY rfl) ?_
 refine az (aT rfl rfl rfl rfl) rfl (fun hc=>(am (l:=(qD e1.Val)) rfl (aQ et hc) ES rfl mY (hI.kblk (l:=(qD e1.Val)) .z rfl).1)) ?_
 refine az (aT rfl rfl rfl rfl) rfl (fun hc=>ax (vs:=[]) (cs:=#[vi 0,vi 0]) rfl trivial (by kernel_rfl)) ?_
 refine az (aT rfl rfl rfl rfl) rfl (fun hc=>ji rfl (aQ et hc) (aQ et hc) (sX ..) (sj ..)) ?_
 refine sq (rG rfl et et) ?_
 refine sm ?_
 refine az (cq rfl rfl rfl rfl) rfl (fun hc=>aN rfl et jT rfl jt rfl) ?_
 refine az (cq rfl rfl rfl rfl) rfl (fun hc=>(bo (v:=(vi e1.Op)) rfl (aQ et hc) u3 rfl (hI.kblk (l:=[vi e1.Op]) .z rfl).1)) ?_
 refine az (cq rfl rfl rfl rfl) rfl (fun hc=>ow rfl (aQ et hc) ao) ?_
 refine az (cq rfl rfl rfl rfl) rfl (fun hc=>ft rfl (aQ et hc)) ?_
 refine az (iy rfl rfl rfl rfl) rfl (fun hc=>aN rfl et jT rfl jt rfl) ?_
 refine az (iy rfl rfl rfl rfl) rfl (fun hc=>(bo (v:=(vi e1.Op)) rfl (aQ et hc) u3 rfl (hI.kblk (l:=[vi e1.Op]) .z rfl).1)) ?_
 refine az (iy rfl rfl rfl rfl) rfl (fun hc=>ow rfl (aQ et hc) ao) ?_
 refine az (cq rfl rfl rfl rfl) rfl (fun hc=>vq rfl hc et et) ?_
 refine az (cq rfl rfl rfl rfl) rfl (fun hc=>ft rfl (aQ et hc)) ?_
 refine az (iy rfl rfl rfl rfl) rfl (fun hc=>aN rfl et jT rfl cD rfl) ?_
 refine az (iy rfl rfl rfl rfl) rfl (fun hc=>(am (l:=(dD e1.Type_)) rfl (aQ et hc) qr rfl cD (hI.kblk (l:=(dD e1.Type_)) .z rfl).1)) ?_
 refine az (iy rfl rfl rfl rfl) rfl (fun hc=>ax (vs:=[]) (cs:=x8) rfl trivial (by kernel_rfl)) ?_
 refine az (iy rfl rfl rfl rfl) rfl (fun hc=>ji rfl (aQ et hc) (aQ et hc) (sW ..) (qd ..)) ?_
 refine az (cq rfl rfl rfl rfl) rfl (fun hc=>vq rfl hc et et) ?_
 refine sq (ya rfl et et) ?_
 refine aM ?_
 refine nR (e:=[(1,vp b1 0),(37,(vb (((!decide (e1.Op=1))&&(!((decide (e1.Val.N=0))&&(decide (e1.Val.D=0)))))||(((!decide (e1.Op=1))&&(!decide (e1.Op=12)))&&(!((decide (e1.Type_.Kind=0))&&(decide (e1.Type_.Bits=0))&&(decide (e1.Type_.Frac=0))&&(decide (e1.Type_.Round=0))&&(decide (e1.Type_.Over=0))))))))]) SB ?_
 refine TC (fun hb h=> ?_) fun hb h=> ?_
 ·refine sr (rJ ?_)
  refine nk (aA ?_)
  obtain rfl:=aj h
  exact eV (vs:=[vb false]) Tryz.results162 ⟨aK rfl rfl,trivial⟩ (fq hI trivial)
 refine bf (bb (al (sr (sq (aN rfl et jT rfl jt rfl) ?_))))
 refine sq (bo (v:=(vi e1.Op)) rfl et u3 rfl (hI.kblk (l:=[vi e1.Op]) .z rfl).1) ?_
 refine sq (ow rfl et ao) ?_
 refine sm ?_
 refine az (aT rfl rfl rfl rfl) rfl (fun hc=>aN rfl et jT rfl bt rfl) ?_
 refine az (aT rfl rfl rfl rfl) rfl (fun hc=>aN rfl (aQ et hc) oy rfl DE rfl) ?_
 refine az (aT rfl rfl rfl rfl) rfl (fun hc=>(bo (v:=(vi e1.Lin.K)) rfl (aQ et hc) u2 rfl (hI.kblk (l:=[vi e1.Lin.K]) .z rfl).1)) ?_
 refine az (aT rfl rfl rfl rfl) rfl (fun hc=>ow rfl (aQ et hc) ao) ?_
 refine az (aT rfl rfl rfl rfl) rfl (fun hc=>ft rfl (aQ et hc)) ?_
 refine az (gP rfl rfl rfl rfl) rfl (fun hc=>aN rfl et jT rfl bt rfl) ?_
 refine az (gP rfl rfl rfl rfl) rfl (fun hc=>aN rfl (aQ et hc) oy rfl BN rfl) ?_
 refine az (gP rfl rfl rfl rfl) rfl (fun hc=>(bo (v:=(vs a1 e1.Lin.L.length c1)) rfl (aQ et hc) Cn rfl (hI.kblk (l:=[vs a1 e1.Lin.L.length c1]) .z rfl).1)) ?_
 refine az (gP rfl rfl rfl rfl) rfl (fun hc=>nK rfl Cn (aQ et hc)) ?_
 refine az (gP rfl rfl rfl rfl) rfl (fun hc=>rF rfl (aQ et hc) ao) ?_
 refine az (aT rfl rfl rfl rfl) rfl (fun hc=>zn rfl hc et et) ?_
 refine sq (rG rfl et et) ?_
 refine sm ?_
 refine az (cq rfl rfl rfl rfl) rfl (fun hc=>aN rfl et jT rfl jt rfl) ?_
 refine az (cq rfl rfl rfl rfl) rfl (fun hc=>(bo (v:=(vi e1.Op)) rfl (aQ et hc) u3 rfl (hI.kblk (l:=[vi e1.Op]) .z rfl).1)) ?_
 refine az (cq rfl rfl rfl rfl) rfl (fun hc=>ow rfl (aQ et hc) ao) ?_
 refine az (cq rfl rfl rfl rfl) rfl (fun hc=>ft rfl (aQ et hc)) ?_
 refine az (iy rfl rfl rfl rfl) rfl (fun hc=>aN rfl et jT rfl oF rfl) ?_
 refine az (iy rfl rfl rfl rfl) rfl (fun hc=>(bo (v:=(aE e1.Name)) rfl (aQ et hc) u9 rfl (hI.kblk (l:=[(aE e1.Name)]) .z rfl).1)) ?_
 refine az (iy rfl rfl rfl rfl) rfl (fun hc=>BE rfl (aQ et hc) ao) ?_
 refine az (iy rfl rfl rfl rfl) rfl (fun hc=>ft rfl (aQ et hc)) ?_
 refine az (gP rfl rfl rfl rfl) rfl (fun hc=>aN rfl et jT rfl sD rfl) ?_
 refine az (gP rfl rfl rfl rfl) rfl (fun hc=>(bo (v:=(vs a2 e1.Idx.length c2)) rfl (aQ et hc) AF rfl (hI.kblk (l:=[vs a2 e1.Idx.length c2]) .z rfl).1)) ?_
 refine az (gP rfl rfl rfl rfl) rfl (fun hc=>nK rfl AF (aQ et hc)) ?_
 refine az (gP rfl rfl rfl rfl) rfl (fun hc=>rF rfl (aQ et hc) ao) ?_
 refine az (iy rfl rfl rfl rfl) rfl (fun hc=>zn rfl hc et et) ?_
 refine az (cq rfl rfl rfl rfl) rfl (fun hc=>vq rfl hc et et) ?_
 refine sq (ya rfl et et) ?_
 refine aM ?_
 refine nR (e:=[(1,vp b1 0),(69,(vb (((!decide (e1.Op=2))&&((!decide (e1.Lin.K=0))||(decide (0<(e1.Lin.L.length:Int)))))||((!decide (e1.Op=3))&&((!decide (e1.Name=([]:List UInt8)))||(decide (0<(e1.Idx.length:Int))))))))]) SB ?_
 refine TC (fun hb h=> ?_) fun hb h=> ?_
 ·refine sr (rJ ?_)
  refine nk (aA ?_)
  obtain rfl:=aj h
  exact eV (vs:=[vb false]) Tryz.results162 ⟨aK rfl rfl,trivial⟩ (fq hI trivial)
 refine bf (bb (al (sr (rJ ?_))))
 refine nk (oE (bh (α:=Nat×Int) (fun x=>fun w=>∃ C,Bun du F w0 C w [] [Cl.blk b1 39 (aq e1 a1 c1 a2 c2 a3 c3),Cl.sl ai a1 c1 e1.Lin.L,Cl.sl ak a2 c2 e1.Idx,Cl.sl an a3 c3 e1.Args]∧fb e1 (x.1) (x.2)=some r) (fun x _=>x.1) (fun x=>[(1,vp b1 0),(3,vi (x.2))]) (fu,0) BH SB ?_))
 clear h hI;rintro⟨fuel1,i1⟩ w2 ⟨c6,hI,h⟩
 dsimp only at hI h ⊢
 rcases fuel1 with _ | fuel1
 ·rw[fb]at h;cases h
 rw[fb]at h
 refine al (sr (sm ?_))
 refine sq (aN rfl et jT rfl sD rfl) ?_
 refine sq (bo (v:=(vs a2 e1.Idx.length c2)) rfl et AF rfl (hI.kblk (l:=[vs a2 e1.Idx.length c2]) .z rfl).1) ?_
 refine sq (nK rfl AF et) ?_
 refine sq (qE rfl et et) ?_
 refine TC (fun hb h=> ?_) fun hb h=> ?_
 ·refine bf (bb (al (oE (sr (sq (aN rfl et jT rfl sD rfl) ?_)))))
  refine sq (bo (v:=(vs a2 e1.Idx.length c2)) rfl et AF rfl (hI.kblk (l:=[vs a2 e1.Idx.length c2]) .z rfl).1) ?_
  refine sm ?_
  obtain⟨e2,hx1,h⟩:=ae h
  obtain⟨ad1,cs1,hA1,hr1,hq1⟩:=hI.clat (.s (.s .z)) hx1
  obtain⟨a4,c7,a5,c8,rfl,hf1,hf2⟩:=hr1
  have hI:=hI.ads hf1
  have hI:=hI.ads hf2
  refine sq (iW rfl AF oG et et (oI hx1) hA1) ?_
  refine sq (am (l:=(qK e2 a4 c7 a5 c8)) rfl et ux rfl oG hq1.1) ?_
  refine lN fun b2 c9 w3 hI=> ?_
  refine lA fun c10 w4 hI=> ?_
  refine nk (sr (sq (aN rfl et ux rfl oF rfl) ?_))
  refine sq (bo (v:=(aE e2.From)) rfl et u9 rfl (CellsAt.of_blk (hI.blk .z) rfl)) ?_
  refine sq (Dr rfl et ao) ?_
  refine sm ?_
  refine az (aT rfl rfl rfl rfl) rfl (fun hc=>aN rfl et ux rfl BM rfl) ?_
  refine az (aT rfl rfl rfl rfl) rfl (fun hc=>(bo (v:=(vs a5 e2.At.length c8)) rfl (aQ et hc) FU rfl (CellsAt.of_blk (hI.blk .z) rfl))) ?_
  refine az (aT rfl rfl rfl rfl) rfl (fun hc=>nK rfl FU (aQ et hc)) ?_
  refine az (aT rfl rfl rfl rfl) rfl (fun hc=>rF rfl (aQ et hc) ao) ?_
  refine sq (rG rfl et et) ?_
  refine sm ?_
  refine az (cq rfl rfl rfl rfl) rfl (fun hc=>aN rfl et ux rfl oF rfl) ?_
  refine az (cq rfl rfl rfl rfl) rfl (fun hc=>(bo (v:=(aE e2.From)) rfl (aQ et hc) u9 rfl (CellsAt.of_blk (hI.blk .z) rfl))) ?_
  refine az (cq rfl rfl rfl rfl) rfl (fun hc=>BE rfl (aQ et hc) ao) ?_
  refine az (cq rfl rfl rfl rfl) rfl (fun hc=>ft rfl (aQ et hc)) ?_
  refine az (iy rfl rfl rfl rfl) rfl (fun hc=>aN rfl et ux rfl bt rfl) ?_
  refine az (iy rfl rfl rfl rfl) rfl (fun hc=>aN rfl (aQ et hc) oy rfl DE rfl) ?_
  refine az (iy rfl rfl rfl rfl) rfl (fun hc=>(bo (v:=(vi e2.Lin.K)) rfl (aQ et hc) u2 rfl (CellsAt.of_blk (hI.blk .z) rfl))) ?_
  refine az (iy rfl rfl rfl rfl) rfl (fun hc=>ow rfl (aQ et hc) ao) ?_
  refine az (iy rfl rfl rfl rfl) rfl (fun hc=>ft rfl (aQ et hc)) ?_
  refine az (gP rfl rfl rfl rfl) rfl (fun hc=>aN rfl et ux rfl bt rfl) ?_
  refine az (gP rfl rfl rfl rfl) rfl (fun hc=>aN rfl (aQ et hc) oy rfl BN rfl) ?_
  refine az (gP rfl rfl rfl rfl) rfl (fun hc=>(bo (v:=(vs a4 e2.Lin.L.length c7)) rfl (aQ et hc) Cn rfl (CellsAt.of_blk (hI.blk .z) rfl))) ?_
  refine az (gP rfl rfl rfl rfl) rfl (fun hc=>nK rfl Cn (aQ et hc)) ?_
  refine az (gP rfl rfl rfl rfl) rfl (fun hc=>rF rfl (aQ et hc) ao) ?_
  refine az (iy rfl rfl rfl rfl) rfl (fun hc=>zn rfl hc et et) ?_
  refine az (cq rfl rfl rfl rfl) rfl (fun hc=>vq rfl hc et et) ?_
  refine sq (ya rfl et et) ?_
  refine aM ?_
  refine nR (e:=[(1,vp b1 0),(3,vi i1),(108,(vb (((decide (e2.From=([]:List UInt8)))&&(decide (0<(e2.At.length:Int))))||((!decide (e2.From=([]:List UInt8)))&&((!decide (e2.Lin.K=0))||(decide (0<(e2.Lin.L.length:Int))))))))]) SB ?_
  refine TC (fun hb h=> ?_) fun hb h=> ?_
  ·refine sr (rJ ?_)
   refine nk (aA ?_)
   obtain rfl:=aj h
   exact eV (vs:=[vb false]) Tryz.results162 ⟨aK rfl rfl,trivial⟩ (fq hI trivial)
  refine bf (bb (kz rfl ?_))
  refine sm ?_
  refine sq (qo rfl et ao) ?_
  refine sa ?_
  refine aM ?_
  exact kl (fuel1,ar (i1+1))
 refine bk ?_
 refine eU ?_
 refine bb (sr (rJ ?_))
 refine nk (aA ?_)
 obtain rfl:=aj h
 exact eV (vs:=[vb true]) Tryz.results162 ⟨aK rfl rfl,trivial⟩ (fq hI trivial)
theorem xr (hF:dG F w0) {e1:GExpr} (hc:AllCl [Cl.sl ai a1 c1 e1.Lin.L,Cl.sl ak a2 c2 e1.Idx,Cl.sl an a3 c3 e1.Args] F w0) {r:Bool} (h:my e1=some r):CR F w0 163 #[(Value.agg (aq e1 a1 c1 a2 c2 a3 c3))] (vb r) []:=by
 refine EN Tryz.func163 Tryz.ntmps163 hF hc fun hI=> ?_
 rw[my]at h
 refine sr (lX fun b1 c5 w1 hI=> ?_)
 refine T ?_
 refine al (T ?_)
 obtain⟨r1,hx1,h⟩:=ae h
 replace hx1:=ay hx1
 refine sU (fun hc=>om hI.lt trivial (hx1 hc)) (Rg Tryz.func61) fun w2 hI=> ?_
 refine TR fun hb h=> ?_
 refine T ?_
 refine al (T ?_)
 refine bh (α:=Nat×Int) (fun x=>fun w=>∃ C,Bun du F w0 C w [] [Cl.blk b1 39 (aq e1 a1 c1 a2 c2 a3 c3),Cl.sl ai a1 c1 e1.Lin.L,Cl.sl ak a2 c2 e1.Idx,Cl.sl an a3 c3 e1.Args]∧fc e1 (x.1) (x.2)=some r) (fun x _=>x.1) (fun x=>[(1,vp b1 0),(3,vi (x.2))]) (fu,0) BH SB ?_
 clear h hI;rintro⟨fuel1,i1⟩ w3 ⟨c6,hI,h⟩
 dsimp only at hI h ⊢
 rcases fuel1 with _ | fuel1
 ·rw[fc]at h;cases h
 rw[fc]at h
 refine al (T ?_)
 refine TC (fun hb h=> ?_) fun hb h=> ?_
 ·refine T ?_
  refine al (T ?_)
  obtain⟨e2,hx3,h⟩:=ae h
  obtain⟨ad1,cs1,hA1,hr1,hq1⟩:=hI.clat (.s (.s .z)) hx3
  obtain⟨a4,c7,a5,c8,rfl,hf1,hf2⟩:=hr1
  have hI:=hI.ads hf1
  have hI:=hI.ads hf2
  refine sI ?_
  refine T ?_
  obtain⟨e3,hx4,h⟩:=ae h
  replace hx4:=ay hx4
  obtain⟨ad2,cs2,hq2⟩:=hI.gclat (.s (.s (.s (.s .z)))) hx4
  obtain⟨a6,c9,a7,c10,hq3⟩:∃ (a6:Option Addr) (c9:Nat) (a7:Option Addr) (c10:Nat),(!decide (e2.From=([]:List UInt8)))=true→(a2=some ad2∧cs2=(qK e3 a6 c9 a7 c10)∧CA (Dj F c6) w3 (ad2.add (Int.toNat i1 * 4)) cs2∧SlC ai (Dj F c6) w3 a6 c9 e3.Lin.L∧SlC fS (Dj F c6) w3 a7 c10 e3.At):=by
   by_cases hc:(!decide (e2.From=([]:List UInt8)))=true
   ·obtain⟨k1,k2,k3⟩:=hq2 hc;obtain⟨a6,c9,a7,c10,rfl,hf3,hf4⟩:=k2;exact⟨a6,c9,a7,c10,fun _=>⟨k1,rfl,k3,hf3,hf4⟩⟩
   exact⟨default,default,default,default,fun k=>absurd k hc⟩
  clear hq2
  have hI:=hI.add (c:=Cl.gsl (!decide (e2.From=([]:List UInt8))) ai a6 c9 e3.Lin.L) (fun hc=>(hq3 hc).2.2.2.1)
  have hI:=hI.add (c:=Cl.gsl (!decide (e2.From=([]:List UInt8))) fS a7 c10 e3.At) (fun hc=>(hq3 hc).2.2.2.2)
  have hq4:(!decide (e2.From=([]:List UInt8)))=true→CA (Dj F c6) w3 (ad2.add (Int.toNat i1 * 4)) (qK e3 a6 c9 a7 c10):=fun hc=>uq (hq3 hc).2.1 (hq3 hc).2.2.1
  refine sJ ?_
  refine T ?_
  obtain⟨r2,hx5,h⟩:=ae h
  replace hx5:=ay hx5
  refine sU (fun hc=>om hI.lt trivial (hx5 hc)) (Rg Tryz.func61) fun w4 hI=> ?_
  refine TR fun hb h=> ?_
  refine T ?_
  refine aM ?_
  exact kl (fuel1,ar (i1+1))
 refine bk ?_
 refine eU ?_
 refine bb ?_
 exact RF
theorem yQ (hF:dG F w0) {op1:Int} (hc:AllCl [] F w0) {r:Int} (h:m8 op1=some r):CR F w0 212 #[vi op1] (vi r) []:=by
 refine EN Tryz.func212 Tryz.ntmps212 hF hc fun hI=> ?_
 rw[m8]at h
 refine T ?_
 refine al (T ?_)
 refine bw (α:=Bool) (fun _=>⟨14,[]⟩) (fun x=>[(3,vi op1),(4,vb x)]) (fun x=>fun w=>∃ C,Bun du F w0 C w [] []∧jx op1 x=some r) ?_ ?_
 ·clear h hI;rintro i1 w1 ⟨c1,hI,h⟩
  try dsimp only at hI h ⊢
  rw[jx]at h
  refine TR fun hb h=> ?_
  refine bw (α:=Bool) (fun _=>⟨14,[]⟩) (fun x=>[(3,vi op1),(8,vb x)]) (fun x=>fun w=>∃ C,Bun du F w0 C w [] []∧jw op1 x=some r) ?_ ?_
  ·clear h hI;rintro i2 w2 ⟨c2,hI,h⟩
   try dsimp only at hI h ⊢
   rw[jw]at h
   refine TR fun hb h=> ?_
   refine TR fun hb h=> ?_
   exact RF
  refine TC (fun hb h=> ?_) fun hb h=> ?_
  ·exact bf (bi (decide (op1=8)) SB BH rfl)
  refine TC (fun hb h=> ?_) fun hb h=> ?_
  ·exact bf (bi (decide (op1=12)) SB BH rfl)
  refine T ?_
  refine aM ?_
  exact kj (decide (op1=18))
 refine TC (fun hb h=> ?_) fun hb h=> ?_
 ·exact bf (bi (decide (op1=1)) SB BH rfl)
 refine TC (fun hb h=> ?_) fun hb h=> ?_
 ·exact bf (bi (decide (op1=2)) SB BH rfl)
 refine T ?_
 refine aM ?_
 exact kj (decide (op1=3))
theorem wD (hF:dG F w0) {e1:GExpr} (hc:AllCl [Cl.sl ai a1 c1 e1.Lin.L,Cl.sl ak a2 c2 e1.Idx,Cl.sl an a3 c3 e1.Args] F w0) {r:Bool} (h:lH e1=some r):CR F w0 164 #[(Value.agg (aq e1 a1 c1 a2 c2 a3 c3))] (vb r) []:=by
 refine EN Tryz.func164 Tryz.ntmps164 hF hc fun hI=> ?_
 rw[lH]at h
 refine sr (lX fun b1 c5 w1 hI=> ?_)
 refine T ?_
 refine al (al (aI [] false (.c (0,.q) (.c (1,.q) (.c (2,.q) (.c (3,.q) (.c (4,.q) (.c (5,.s) (.c (6,.q) (.c (7,.q) (.c (8,.q) (.c (9,.q) (.c (10,.q) (.c (11,.q) (.c (12,.q) .n))))))))))))) hI (by kernel_rfl) (by kernel_rfl) ?_))
 intro w2 hI
 refine V ?_
 obtain⟨r1,hx1,h⟩:=ae h
 refine dC rfl gn rfl (aF (vs:=[vi e1.Op]) rfl GU ⟨et,trivial⟩) (Calls.mono (yQ hI.lt trivial hx1) ?_)
 rintro _ w3 ⟨rfl,hx2,hl1⟩
 refine⟨_,rfl,hx2,?_⟩
 replace hI:=(hI.ext hx2)
 refine V ?_
 refine TR fun hb h=> ?_
 refine T ?_
 refine al (T ?_)
 refine bh (α:=Nat×Int) (fun x=>fun w=>∃ C,Bun du F w0 C w [] [Cl.blk b1 39 (aq e1 a1 c1 a2 c2 a3 c3),Cl.sl ai a1 c1 e1.Lin.L,Cl.sl ak a2 c2 e1.Idx,Cl.sl an a3 c3 e1.Args]∧ez e1 (x.1) (x.2)=some r) (fun x _=>x.1) (fun x=>[(1,vp b1 0),(3,vi (x.2))]) (fu,0) BH SB ?_
 clear h hI;rintro⟨fuel1,i1⟩ w4 ⟨c6,hI,h⟩
 dsimp only at hI h ⊢
 rcases fuel1 with _ | fuel1
 ·rw[ez]at h;cases h
 rw[ez]at h
 refine al (T ?_)
 refine TC (fun hb h=> ?_) fun hb h=> ?_
 ·refine T ?_
  refine al (T ?_)
  obtain⟨e2,hx3,h⟩:=ae h
  obtain⟨ad1,cs1,hA1,hr1,hq1⟩:=hI.clat (.s (.s .z)) hx3
  obtain⟨a4,c7,a5,c8,rfl,hf1,hf2⟩:=hr1
  have hI:=hI.ads hf1
  have hI:=hI.ads hf2
  refine sI ?_
  refine TR fun hb h=> ?_
  refine T ?_
  refine aM ?_
  exact kl (fuel1,ar (i1+1))
 refine bk ?_
 refine eU ?_
 refine bb ?_
 exact RF
theorem rC (hF:dG F w0) {e1:GExpr} (hc:AllCl [Cl.sl ai a1 c1 e1.Lin.L,Cl.sl ak a2 c2 e1.Idx,Cl.sl an a3 c3 e1.Args] F w0) {r:Bool} (h:j1 e1=some r):CR F w0 213 #[(Value.agg (aq e1 a1 c1 a2 c2 a3 c3))] (vb r) []:=by
 refine EN Tryz.func213 Tryz.ntmps213 hF hc fun hI=> ?_
 rw[j1]at h
 refine sr (lX fun b1 c5 w1 hI=> ?_)
 exact RF
theorem xo (hF:dG F w0) {op1 at1:Int} (hc:AllCl [] F w0) {r:Bool} (h:mv op1 at1=some r):CR F w0 214 #[vi op1,vi at1] (vb r) []:=by
 refine EN Tryz.func214 Tryz.ntmps214 hF hc fun hI=> ?_
 rw[mv]at h
 exact RF
theorem xp (hF:dG F w0) {e1:GExpr} (hc:AllCl [Cl.sl ai a1 c1 e1.Lin.L,Cl.sl ak a2 c2 e1.Idx,Cl.sl an a3 c3 e1.Args] F w0) {r:Bool} (h:mw e1=some r):CR F w0 165 #[(Value.agg (aq e1 a1 c1 a2 c2 a3 c3))] (vb r) []:=by
 refine EN Tryz.func165 Tryz.ntmps165 hF hc fun hI=> ?_
 rw[mw]at h
 refine sr (lX fun b1 c5 w1 hI=> ?_)
 refine T ?_
 refine al (T ?_)
 refine az (aT rfl rfl rfl rfl) rfl (fun hc=>(am (l:=(dD e1.Type_)) rfl (aQ et hc) qr rfl cD (hI.kblk (l:=(dD e1.Type_)) .z rfl).1)) ?_
 obtain⟨r1,hx1,h⟩:=ae h
 replace hx1:=ay hx1
 refine sU (fun hc=>ra hI.lt trivial (hx1 hc)) (Rg Tryz.func62) fun w2 hI=> ?_
 refine TR fun hb h=> ?_
 refine T ?_
 refine al (T ?_)
 refine bh (α:=Nat×Int) (fun x=>fun w=>∃ C,Bun du F w0 C w [] [Cl.blk b1 39 (aq e1 a1 c1 a2 c2 a3 c3),Cl.sl ai a1 c1 e1.Lin.L,Cl.sl ak a2 c2 e1.Idx,Cl.sl an a3 c3 e1.Args]∧fa e1 (x.1) (x.2)=some r) (fun x _=>x.1) (fun x=>[(1,vp b1 0),(3,vi (x.2))]) (fu,0) BH SB ?_
 clear h hI;rintro⟨fuel1,i1⟩ w3 ⟨c6,hI,h⟩
 dsimp only at hI h ⊢
 rcases fuel1 with _ | fuel1
 ·rw[fa]at h;cases h
 rw[fa]at h
 refine al (T ?_)
 refine TC (fun hb h=> ?_) fun hb h=> ?_
 ·refine T ?_
  refine al (T ?_)
  refine al (aI [] false (.c (0,.q) (.c (1,.q) (.c (2,.q) (.c (3,.q) (.c (4,.q) (.c (6,.q) (.c (7,.q) (.c (8,.q) (.c (5,.s) (.c (9,.s) (.c (10,.q) .n))))))))))) hI (by kernel_rfl) (by kernel_rfl) ?_)
  intro w4 hI
  refine V ?_
  obtain⟨e2,hx3,h⟩:=ae h
  obtain⟨ad1,cs1,hA1,hr1,hq1⟩:=hI.clat (.s (.s (.s .z))) hx3
  obtain⟨a4,c7,a5,c8,a6,c9,rfl,hf1,hf2,hf3⟩:=iG hr1
  have hI:=hI.ads hf1
  have hI:=hI.ads hf2
  have hI:=hI.ads hf3
  refine vI ?_
  refine ct rfl gn rfl (fun w' hw'=>(am (l:=(aX e2 a4 c7 a5 c8 a6 c9)) rfl et jT rfl aC (hq1.at_ (SX.any rfl hw')))) (by kernel_rfl) ?_
  refine V ?_
  obtain⟨r2,hx4,h⟩:=ae h
  refine dC rfl gn rfl (aF (vs:=[(Value.agg (aq e2 a4 c7 a5 c8 a6 c9))]) rfl GT ⟨et,trivial⟩) (Calls.mono (rC hI.lt FS hx4) ?_)
  rintro _ w5 ⟨rfl,hx5,hl2⟩
  refine⟨_,rfl,hx5,?_⟩
  replace hI:=(hI.ext hx5)
  obtain⟨r3,hx6,h⟩:=ae h
  refine dC rfl gn rfl (aF (vs:=[vi e1.Op,vi i1]) rfl GS ⟨et,⟨et,trivial⟩⟩) (Calls.mono (xo hI.lt trivial hx6) ?_)
  rintro _ w6 ⟨rfl,hx7,hl3⟩
  refine⟨_,rfl,hx7,?_⟩
  replace hI:=(hI.ext hx7)
  refine l6 rfl gn rfl (fun w'=>Dl rfl u4 et et) ?_
  refine V ?_
  refine TR fun hb h=> ?_
  refine T ?_
  refine aM ?_
  exact kl (fuel1,ar (i1+1))
 refine bk ?_
 refine eU ?_
 refine bb ?_
 exact RF
theorem wH (hF:dG F w0) {e1:GExpr} (hc:AllCl [Cl.sl ai a1 c1 e1.Lin.L,Cl.sl ak a2 c2 e1.Idx,Cl.sl an a3 c3 e1.Args] F w0) {r:Bool} (h:lJ e1=some r):CR F w0 166 #[(Value.agg (aq e1 a1 c1 a2 c2 a3 c3))] (vb r) []:=by
 refine EN Tryz.func166 Tryz.ntmps166 hF hc fun hI=> ?_
 rw[lJ]at h
 refine sr (lX fun b1 c5 w1 hI=> ?_)
 refine T ?_
 refine al (T ?_)
 refine az (aT rfl rfl rfl rfl) rfl (fun hc=>(am (l:=(dD e1.Type_)) rfl (aQ et hc) qr rfl cD (hI.kblk (l:=(dD e1.Type_)) .z rfl).1)) ?_
 refine T ?_
 refine az (aT rfl rfl rfl rfl) rfl (fun hc=>(am (l:=(qD e1.Val)) rfl (aQ et hc) ES rfl mY (hI.kblk (l:=(qD e1.Val)) .z rfl).1)) ?_
 obtain⟨r1,hx1,h⟩:=ae h
 replace hx1:=ay hx1
 refine sU (fun hc=>wS hI.lt trivial (hx1 hc)) (Rg Tryz.func215) fun w2 hI=> ?_
 refine T ?_
 refine az (cq rfl rfl rfl rfl) rfl (fun hc=>(am (l:=(gc e1.Lin a1 c1)) rfl (aQ et hc) oy rfl bt (hI.kblk (l:=(gc e1.Lin a1 c1)) .z rfl).1)) ?_
 obtain⟨r2,hx3,h⟩:=ae h
 replace hx3:=ay hx3
 refine sU (fun hc=>mL hI.lt FS (hx3 hc)) (Rg Tryz.func114) fun w3 hI=> ?_
 refine TR fun hb h=> ?_
 refine T ?_
 refine al (T ?_)
 refine bh (α:=Nat×Int) (fun x=>fun w=>∃ C,Bun du F w0 C w [] [Cl.blk b1 39 (aq e1 a1 c1 a2 c2 a3 c3),Cl.sl ai a1 c1 e1.Lin.L,Cl.sl ak a2 c2 e1.Idx,Cl.sl an a3 c3 e1.Args]∧bT e1 (x.1) (x.2)=some r) (fun x _=>x.1) (fun x=>[(1,vp b1 0),(3,vi (x.2))]) (fu,0) BH SB ?_
 clear h hI;rintro⟨fuel1,i1⟩ w4 ⟨c6,hI,h⟩
 dsimp only at hI h ⊢
 rcases fuel1 with _ | fuel1
 ·rw[bT]at h;cases h
 rw[bT]at h
 refine al (T ?_)
 refine TC (fun hb h=> ?_) fun hb h=> ?_
 ·refine T ?_
  refine bw (α:=Unit) (fun _=>⟨59,[]⟩) (fun _=>[(1,vp b1 0),(3,vi i1)]) (fun _=>fun w=>∃ C,Bun du F w0 C w [] [Cl.blk b1 39 (aq e1 a1 c1 a2 c2 a3 c3),Cl.sl ai a1 c1 e1.Lin.L,Cl.sl ak a2 c2 e1.Idx,Cl.sl an a3 c3 e1.Args]∧lu (bT e1 fuel1) i1=some r) ?_ ?_
  ·clear h hI;rintro _ w5 ⟨c7,hI,h⟩
   try dsimp only at hI h ⊢
   rw[lu]at h
   refine T ?_
   refine aM ?_
   exact kl (fuel1,ar (i1+1))
  refine T ?_
  refine al (T ?_)
  obtain⟨e2,hx5,h⟩:=ae h
  obtain⟨ad1,cs1,hA1,hr1,hq1⟩:=hI.clat (.s (.s .z)) hx5
  obtain⟨a4,c8,a5,c9,rfl,hf1,hf2⟩:=hr1
  have hI:=hI.ads hf1
  have hI:=hI.ads hf2
  refine sI ?_
  refine T ?_
  refine sq (am (l:=(gc e2.Lin a4 c8)) rfl et oy rfl bt (CA.part hq1 rfl).1) ?_
  refine sB h (fun _ k=>mL hI.lt FS k) (Rc Tryz.func114) fun r3 w6 h hI=> ?_
  refine TR fun hb h=> ?_
  refine T ?_
  refine bh (α:=Nat×Int) (fun x=>fun w=>∃ C,Bun du F w0 C w [] [Cl.blk b1 39 (aq e1 a1 c1 a2 c2 a3 c3),Cl.sl ai a1 c1 e1.Lin.L,Cl.sl ak a2 c2 e1.Idx,Cl.sl an a3 c3 e1.Args]∧eB e1 i1 (bT e1 fuel1) (x.1) (x.2)=some r) (fun x _=>x.1) (fun x=>[(1,vp b1 0),(3,vi i1),(4,vi (x.2))]) (fu,0) BH SB ?_
  clear h hI;rintro⟨fuel2,k1⟩ w7 ⟨c10,hI,h⟩
  dsimp only at hI h ⊢
  rcases fuel2 with _ | fuel2
  ·rw[eB]at h;cases h
  rw[eB]at h
  refine al (T ?_)
  obtain⟨e3,hx8,h⟩:=ae h
  obtain⟨ad2,cs2,hA2,hr2,hq2⟩:=hI.clat (.s (.s .z)) hx8
  obtain⟨a6,c11,a7,c12,rfl,hf3,hf4⟩:=hr2
  have hI:=hI.ads hf3
  have hI:=hI.ads hf4
  refine sI ?_
  refine TC (fun hb h=> ?_) fun hb h=> ?_
  ·refine T ?_
   refine al (T ?_)
   obtain⟨e4,hx9,h⟩:=ae h
   obtain⟨ad3,cs3,hA3,hr3,hq3⟩:=hI.clat (.s (.s (.s (.s .z)))) hx9
   obtain⟨a8,c13,a9,c14,rfl,hf5,hf6⟩:=hr3
   have hI:=hI.ads hf5
   have hI:=hI.ads hf6
   refine sI ?_
   refine T ?_
   obtain⟨e5,hx10,h⟩:=ae h
   obtain⟨ad4,cs4,hA4,hr4,hq4⟩:=hI.clat .z hx10
   obtain⟨a10,c15,rfl,hf7⟩:=hr4
   have hI:=hI.ads hf7
   refine sI ?_
   refine T ?_
   refine sB h (fun _ k=>mL hI.lt FS k) (Rc Tryz.func114) fun r4 w8 h hI=> ?_
   refine TR fun hb h=> ?_
   refine T ?_
   refine aM ?_
   exact kl (fuel2,ar (k1+1))
  refine bk ?_
  refine eU ?_
  exact kj ()
 refine bk ?_
 refine eU ?_
 refine bb ?_
 exact RF
end Go.Proofs.YtmhoikfoogemnaaGreatDoor
