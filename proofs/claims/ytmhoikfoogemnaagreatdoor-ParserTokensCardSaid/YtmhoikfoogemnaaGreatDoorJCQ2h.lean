import Derived.Test.YtmhoikfoogemnaaGreatDoorJCQ2g
import Derived.Test.YtmhoikfoogemnaaGreatDoorJLfJ
namespace Go.Proofs.YtmhoikfoogemnaaGreatDoor
open Go Go.RowKit Go.Vc
set_option maxRecDepth 100000
set_option maxHeartbeats 4000000
set_option linter.unusedVariables false
set_option linter.unusedSimpArgs false
variable {σ:Type} {C0 F:NP} {w0:World} {a1 a2 a3 a4 a5 a6 a7 a8 a9 a10 a11 a12:Option Addr} {b1 b2 b3 b4 b5 b6 b7 b8 b9 b10 b11 b12 c1 c2 c3 c4 c5 c6 c7 c8 c9 c10 c11 c12:Nat}
abbrev GG (f_:(GExpr→Option Int)):Prop:=∀ ⦃F:NP⦄ ⦃w0:World⦄ (hF:dy F w0) ⦃e1:GExpr⦄ ⦃a1 a2 a3:Option Addr⦄ ⦃c1 c2 c3:Nat⦄ (hc:AllCl [Cl.sl ah a1 c1 e1.Lin.L,Cl.sl ak a2 c2 e1.Idx,Cl.sl an a3 c3 e1.Args] F w0) ⦃r:Int⦄ (h:f_ e1=some r),CR F w0 87 #[(Value.agg (ap e1 a1 c1 a2 c2 a3 c3))] (vi r) []
theorem wj {rec_:(GExpr→Option Int)} (hrec:GG rec_) (hF:dy F w0) {e1:GExpr} (hc:AllCl [Cl.sl ah a1 c1 e1.Lin.L,Cl.sl ak a2 c2 e1.Idx,Cl.sl an a3 c3 e1.Args] F w0) {r:Int} (h:lw rec_ e1=some r):CR F w0 87 #[(Value.agg (ap e1 a1 c1 a2 c2 a3 c3))] (vi r) []:=by
 refine EN Tryz.func87 Tryz.ntmps87 hF hc fun hI=> ?_
 rw[lw]at h
 refine sr (lX fun b1 c5 w1 hI=> ?_)
 refine T ?_
 refine al (T ?_)
 refine sq (am (l:=(aU e1 a1 c1 a2 c2 a3 c3)) rfl et jy rfl aC (hI.kblk (l:=(aU e1 a1 c1 a2 c2 a3 c3)) .z rfl).1) ?_
 refine sB h (fun _ k=>wT hI.lt FS k) (Rc Tryz.func162) fun r1 w2 h hI=> ?_
 refine TR fun hb h=> ?_
 refine sr (sq (am (l:=(aU e1 a1 c1 a2 c2 a3 c3)) rfl et jy rfl aC (hI.kblk (l:=(aU e1 a1 c1 a2 c2 a3 c3)) .z rfl).1) ?_)
 refine sB h (fun _ k=>wU hI.lt FS k) (Rc Tryz.func163) fun r2 w3 h hI=> ?_
 refine TR fun hb h=> ?_
 refine sr (sq (am (l:=(aU e1 a1 c1 a2 c2 a3 c3)) rfl et jy rfl aC (hI.kblk (l:=(aU e1 a1 c1 a2 c2 a3 c3)) .z rfl).1) ?_)
 refine sB h (fun _ k=>wg hI.lt FS k) (Rc Tryz.func164) fun r3 w4 h hI=> ?_
 refine TR fun hb h=> ?_
 refine sr (sq (am (l:=(aU e1 a1 c1 a2 c2 a3 c3)) rfl et jy rfl aC (hI.kblk (l:=(aU e1 a1 c1 a2 c2 a3 c3)) .z rfl).1) ?_)
 refine sB h (fun _ k=>wS hI.lt FS k) (Rc Tryz.func165) fun r4 w5 h hI=> ?_
 refine TR fun hb h=> ?_
 refine sr (sq (am (l:=(aU e1 a1 c1 a2 c2 a3 c3)) rfl et jy rfl aC (hI.kblk (l:=(aU e1 a1 c1 a2 c2 a3 c3)) .z rfl).1) ?_)
 refine sB h (fun _ k=>wl hI.lt FS k) (Rc Tryz.func166) fun r5 w6 h hI=> ?_
 refine TR fun hb h=> ?_
 refine T ?_
 refine al (T ?_)
 refine bc (α:=Nat×Int) (fun x=>fun w=>∃ C,Bun noM F w0 C w [] [Cl.blk b1 39 (ap e1 a1 c1 a2 c2 a3 c3),Cl.sl ah a1 c1 e1.Lin.L,Cl.sl ak a2 c2 e1.Idx,Cl.sl an a3 c3 e1.Args]∧gq e1 rec_ (x.1) (x.2)=some r) (fun x _=>x.1) (fun x=>[(1,vp b1 0),(3,vi (x.2))]) (fu,0) BH SB ?_
 clear h hI;rintro⟨fuel1,i1⟩ w7 ⟨c6,hI,h⟩
 dsimp only at hI h ⊢
 rcases fuel1 with _ | fuel1
 ·rw[gq]at h;cases h
 rw[gq]at h
 refine al (T ?_)
 refine TC (fun hb h=> ?_) fun hb h=> ?_
 ·refine T ?_
  refine al (T ?_)
  obtain⟨e2,hx11,h⟩:=ae h
  obtain⟨ad1,cs1,hA1,hr1,hq1⟩:=hI.clat (.s (.s (.s .z))) hx11
  obtain⟨a4,c7,a5,c8,a6,c9,rfl,hf1,hf2,hf3⟩:=ij hr1
  have hI:=hI.ads hf1
  have hI:=hI.ads hf2
  have hI:=hI.ads hf3
  refine sI ?_
  refine T ?_
  refine sB h (fun _ k=>hrec hI.lt FS k) (Rc Tryz.func87) fun r6 w8 h hI=> ?_
  refine TR fun hb h=> ?_
  refine T ?_
  refine aK ?_
  exact kl (fuel1,aq (i1+1))
 refine bh ?_
 refine eD ?_
 refine aX ?_
 exact RF
theorem wh (n:Nat):GG (jT n):=by
 induction n with
 | zero=>intro F;intros;rename_i h;cases h
 | succ n ih=>intro F;intros;apply wj ih<;>assumption
theorem yo:GG (pK):=wh fu
theorem tD (hF:dy F w0) {e1:GExpr} (hc:AllCl [Cl.sl ah a1 c1 e1.Lin.L,Cl.sl ak a2 c2 e1.Idx,Cl.sl an a3 c3 e1.Args] F w0) {r:Int} (h:jU e1=some r):CR F w0 44 #[(Value.agg (ap e1 a1 c1 a2 c2 a3 c3))] (vi r) []:=by
 refine EN Tryz.func44 Tryz.ntmps44 hF hc fun hI=> ?_
 rw[jU]at h
 refine sr (lX fun b1 c5 w1 hI=> ?_)
 refine T ?_
 refine al (sr (sq (am (l:=(aU e1 a1 c1 a2 c2 a3 c3)) rfl et jy rfl aC (hI.kblk (l:=(aU e1 a1 c1 a2 c2 a3 c3)) .z rfl).1) ?_))
 refine sB h (fun _ k=>wW hI.lt FS k) (Rc Tryz.func85) fun r1 w2 h hI=> ?_
 refine TR fun hb h=> ?_
 refine T ?_
 refine al (sr (sq (am (l:=(aU e1 a1 c1 a2 c2 a3 c3)) rfl et jy rfl aC (hI.kblk (l:=(aU e1 a1 c1 a2 c2 a3 c3)) .z rfl).1) ?_))
 refine sB h (fun _ k=>yq hI.lt FS k) (Rc Tryz.func86) fun r2 w3 h hI=> ?_
 refine TR fun hb h=> ?_
 refine T ?_
 refine sq (am (l:=(aU e1 a1 c1 a2 c2 a3 c3)) rfl et jy rfl aC (hI.kblk (l:=(aU e1 a1 c1 a2 c2 a3 c3)) .z rfl).1) ?_
 refine sB h (fun _ k=>yo hI.lt FS k) (Rc Tryz.func87) fun r3 w4 h hI=> ?_
 exact RF
def g9:Tr:=(.c (3,.s) .n)
def gZ:Tr:=(.c (3,.s) .n)
def gY:Tr:=(.c (3,.s) .n)
theorem sd (hF:dy F w0) {p1:ac} (hc:AllCl [Cl.sl cGToken a1 c1 p1.L] F w0) {r:GExpr×ac} (h:kA p1=some r):Cg 36 #[(Value.agg (ab p1 a1 c1))] w0 fun e w=>∃ a2 c2 a3 c3 a4 c4 a5 c5,e= .returned (Value.tuple #[(Value.agg (ap r.1 a2 c2 a3 c3 a4 c4)),(Value.agg (ab r.2 a5 c5))])∧Ext w0 w∧AllCl [Cl.sl ah a2 c2 r.1.Lin.L,Cl.sl ak a3 c3 r.1.Idx,Cl.sl an a4 c4 r.1.Args,Cl.sl cGToken a5 c5 r.2.L] F w:=by
 refine EN Tryz.func36 Tryz.ntmps36 hF hc fun hI=> ?_
 rw[kA]at h
 refine sr (mB (v:=(Value.agg (ab p1 a1 c1))) (cs:=(ab p1 a1 c1)) hI gn rfl rfl et rfl ?_)
 intro b1 c6 w1 hI
 refine lN fun b2 c7 w2 hI=> ?_
 refine lN fun b3 c8 w3 hI=> ?_
 refine T ?_
 obtain⟨r1,hx1,h⟩:=ae h
 refine aA gn rfl (Rc Tryz.func80) (Calls.mono (wP hI.lt FS hx1) ?_)
 rintro _ w4 ⟨a6,c9,a7,c10,a8,c11,a9,c12,rfl,hx2,hl1⟩
 refine⟨_,rfl,?_⟩
 replace hI:=(hI.ext hx2).adds hl1;dsimp only[ca,na]at hI
 refine T ?_
 refine lN fun b4 c13 w5 hI=> ?_
 refine lA fun c14 w6 hI=> ?_
 refine lA fun c15 w7 hI=> ?_
 refine nk (al (T ?_))
 refine TC (fun hb h=> ?_) fun hb h=> ?_
 ·refine T ?_
  refine sB h (fun _ k=>tD hI.lt FS k) (Rc Tryz.func44) fun r2 w8 h hI=> ?_
  refine TC (fun hb h=> ?_) fun hb h=> ?_
  ·refine T ?_
   obtain⟨r3,hx5,h⟩:=ae h
   refine aA gn rfl (Rc Tryz.func81) (Calls.mono (jx hI.lt FS hx5) ?_)
   rintro _ w9 ⟨a10,c16,rfl,hx6,hl3⟩
   refine⟨_,rfl,?_⟩
   replace hI:=(hI.ext hx6).adds hl3;dsimp only[ca,na]at hI
   refine lA fun c17 w10 hI=> ?_
   refine nk (al (aD [2,3] false (.c (0,.q) (.two 1 (.c (2,.s) g9) 2 (.c (1,.s) g9))) hI (by kernel_rfl) (by kernel_rfl) ?_))
   intro w14 hI
   refine bP (α:=NP) (T:=g9) (fun x=>[(0,(Value.agg (ab p1 a1 c1))),(1,vp b1 0),(2,vp b2 0),(3,vp b3 0),(4,vi p1.At),(5,vp b4 0),(6,vi r2),(7,vp b1 1),(8,vi p1.At),(9,(Value.tuple #[(Value.agg (ap r1.1 a6 c9 a7 c10 a8 c11)),(Value.agg (ab r1.2 a9 c12))])),(10,(Value.agg (ab p1 a1 c1))),(11,(Value.tuple #[(Value.agg (ap r1.1 a6 c9 a7 c10 a8 c11)),(Value.agg (ab r1.2 a9 c12))])),(12,(Value.agg (ap r1.1 a6 c9 a7 c10 a8 c11))),(13,(Value.agg (ab r1.2 a9 c12))),(14,vp b1 3),(15,vi r1.2.E),(16,(vb (decide (r1.2.E=0)))),(17,(Value.agg (ap r1.1 a6 c9 a7 c10 a8 c11))),(18,vi r2),(19,vi r2),(20,(vb (!decide (r2=0)))),(21,(Value.agg (ab r1.2 a9 c12))),(22,vi p1.At),(23,vi r2),(24,(Value.agg (ab r3 a10 c16))),(25,(Value.agg (ap r1.1 a6 c9 a7 c10 a8 c11))),(26,(Value.agg (ab r3 a10 c16)))]) (fun x w=>Bun noM F w0 x w [MO.box b4 39 (ap r1.1 a6 c9 a7 c10 a8 c11),MO.box b3 72 ar,MO.box b2 39 (ap r1.1 a6 c9 a7 c10 a8 c11),MO.box b1 72 (ab r3 a10 c16)] [Cl.sl cGToken a10 c16 r3.L,Cl.sl ah a6 c9 r1.1.Lin.L,Cl.sl ak a7 c10 r1.1.Idx,Cl.sl an a8 c11 r1.1.Args,Cl.sl cGToken a9 c12 r1.2.L,Cl.sl cGToken a1 c1 p1.L]) (fun x w=>SN [] (DM true F x) w) ?_ ?_
   ·clear hI;rintro c20 w13 hI
    try dsimp only at hI ⊢
    unfold g9
    refine vA fun c19 w12 hI=> ?_
    refine V ?_
    refine az ?_
    obtain rfl:=ai h
    refine QG ?_
    exact⟨a6,c9,a7,c10,a8,c11,a10,c16,rfl,hI.ext0,hI.fin ⟨(.s .z),(.s (.s .z)),(.s (.s (.s .z))),.z,trivial⟩⟩
   intro hk_tr_ref16_expression_1_0
   refine cp rfl gn rfl (fun w' hw'=>(am (l:=(aU r1.1 a6 c9 a7 c10 a8 c11)) rfl et jy rfl aC ((CA.blk (hI.blk .z) rfl).at_ (SX.any rfl hw')))) (by kernel_rfl) ?_
   refine cK ?_ ?_
   ·skip
    refine be rfl gn rfl (am (l:=(ag r3 a10 c16)) rfl et km rfl aG (CellsAt.of_blk (hI.blk (.s (.s (.s .z)))) rfl)) SX.self ?_
    refine bH (F:=F) (C:=c17) rfl rfl ?_
    refine vA fun c18 w11 hI=> ?_
    exact aQ (hk_tr_ref16_expression_1_0 c18 _ (hI.arr GO SU)) SB
   refine bo (F:=F) (C:=c17) rfl rfl ?_
   refine vA fun c18 w11 hI=> ?_
   refine be rfl gn rfl (am (l:=(ag r3 a10 c16)) rfl et km rfl aG (CellsAt.of_blk (hI.blk (.s (.s (.s .z)))) rfl)) SX.self ?_
   exact aQ (hk_tr_ref16_expression_1_0 c18 _ (hI.arr GO SU)) SB
  refine T ?_
  refine al (aD [2,3] false (.c (0,.q) (.two 1 (.c (2,.s) gZ) 2 (.c (1,.s) gZ))) hI (by kernel_rfl) (by kernel_rfl) ?_)
  intro w18 hI
  refine bP (α:=NP) (T:=gZ) (fun x=>[(0,(Value.agg (ab p1 a1 c1))),(1,vp b1 0),(2,vp b2 0),(3,vp b3 0),(4,vi p1.At),(5,vp b4 0),(6,vi r2),(7,vp b1 1),(8,vi p1.At),(9,(Value.tuple #[(Value.agg (ap r1.1 a6 c9 a7 c10 a8 c11)),(Value.agg (ab r1.2 a9 c12))])),(10,(Value.agg (ab p1 a1 c1))),(11,(Value.tuple #[(Value.agg (ap r1.1 a6 c9 a7 c10 a8 c11)),(Value.agg (ab r1.2 a9 c12))])),(12,(Value.agg (ap r1.1 a6 c9 a7 c10 a8 c11))),(13,(Value.agg (ab r1.2 a9 c12))),(14,vp b1 3),(15,vi r1.2.E),(16,(vb (decide (r1.2.E=0)))),(17,(Value.agg (ap r1.1 a6 c9 a7 c10 a8 c11))),(18,vi r2),(19,vi r2),(20,(vb (!decide (r2=0)))),(25,(Value.agg (ap r1.1 a6 c9 a7 c10 a8 c11))),(26,(Value.agg (ab r1.2 a9 c12)))]) (fun x w=>Bun noM F w0 x w [MO.box b4 39 (ap r1.1 a6 c9 a7 c10 a8 c11),MO.box b3 72 ar,MO.box b2 39 (ap r1.1 a6 c9 a7 c10 a8 c11),MO.box b1 72 (ab r1.2 a9 c12)] [Cl.sl ah a6 c9 r1.1.Lin.L,Cl.sl ak a7 c10 r1.1.Idx,Cl.sl an a8 c11 r1.1.Args,Cl.sl cGToken a9 c12 r1.2.L,Cl.sl cGToken a1 c1 p1.L]) (fun x w=>SN [] (DM true F x) w) ?_ ?_
  ·clear hI;rintro c23 w17 hI
   try dsimp only at hI ⊢
   unfold gZ
   refine vA fun c22 w16 hI=> ?_
   refine V ?_
   refine az ?_
   obtain rfl:=ai h
   refine QG ?_
   exact⟨a6,c9,a7,c10,a8,c11,a9,c12,rfl,hI.ext0,hI.fin ⟨.z,(.s .z),(.s (.s .z)),(.s (.s (.s .z))),trivial⟩⟩
  intro hk_tr_ref16_expression_2_0
  refine cp rfl gn rfl (fun w' hw'=>(am (l:=(aU r1.1 a6 c9 a7 c10 a8 c11)) rfl et jy rfl aC ((CA.blk (hI.blk .z) rfl).at_ (SX.any rfl hw')))) (by kernel_rfl) ?_
  refine cK ?_ ?_
  ·skip
   refine be rfl gn rfl (am (l:=(ag r1.2 a9 c12)) rfl et km rfl aG (CellsAt.of_blk (hI.blk (.s (.s (.s .z)))) rfl)) SX.self ?_
   refine bH (F:=F) (C:=c15) rfl rfl ?_
   refine vA fun c21 w15 hI=> ?_
   exact aQ (hk_tr_ref16_expression_2_0 c21 _ (hI.arr GO SU)) SB
  refine bo (F:=F) (C:=c15) rfl rfl ?_
  refine vA fun c21 w15 hI=> ?_
  refine be rfl gn rfl (am (l:=(ag r1.2 a9 c12)) rfl et km rfl aG (CellsAt.of_blk (hI.blk (.s (.s (.s .z)))) rfl)) SX.self ?_
  exact aQ (hk_tr_ref16_expression_2_0 c21 _ (hI.arr GO SU)) SB
 refine T ?_
 refine al (aD [2,3] false (.c (0,.q) (.two 1 (.c (2,.s) gY) 2 (.c (1,.s) gY))) hI (by kernel_rfl) (by kernel_rfl) ?_)
 intro w22 hI
 refine bP (α:=NP) (T:=gY) (fun x=>[(0,(Value.agg (ab p1 a1 c1))),(1,vp b1 0),(2,vp b2 0),(3,vp b3 0),(4,vi p1.At),(5,vp b4 0),(7,vp b1 1),(8,vi p1.At),(9,(Value.tuple #[(Value.agg (ap r1.1 a6 c9 a7 c10 a8 c11)),(Value.agg (ab r1.2 a9 c12))])),(10,(Value.agg (ab p1 a1 c1))),(11,(Value.tuple #[(Value.agg (ap r1.1 a6 c9 a7 c10 a8 c11)),(Value.agg (ab r1.2 a9 c12))])),(12,(Value.agg (ap r1.1 a6 c9 a7 c10 a8 c11))),(13,(Value.agg (ab r1.2 a9 c12))),(14,vp b1 3),(15,vi r1.2.E),(16,(vb (decide (r1.2.E=0)))),(25,(Value.agg (ap r1.1 a6 c9 a7 c10 a8 c11))),(26,(Value.agg (ab r1.2 a9 c12)))]) (fun x w=>Bun noM F w0 x w [MO.box b4 39 (ap r1.1 a6 c9 a7 c10 a8 c11),MO.box b3 72 ar,MO.box b2 39 (ap r1.1 a6 c9 a7 c10 a8 c11),MO.box b1 72 (ab r1.2 a9 c12)] [Cl.sl ah a6 c9 r1.1.Lin.L,Cl.sl ak a7 c10 r1.1.Idx,Cl.sl an a8 c11 r1.1.Args,Cl.sl cGToken a9 c12 r1.2.L,Cl.sl cGToken a1 c1 p1.L]) (fun x w=>SN [] (DM true F x) w) ?_ ?_
 ·clear hI;rintro c26 w21 hI
  try dsimp only at hI ⊢
  unfold gY
  refine vA fun c25 w20 hI=> ?_
  refine V ?_
  refine az ?_
  obtain rfl:=ai h
  refine QG ?_
  exact⟨a6,c9,a7,c10,a8,c11,a9,c12,rfl,hI.ext0,hI.fin ⟨.z,(.s .z),(.s (.s .z)),(.s (.s (.s .z))),trivial⟩⟩
 intro hk_tr_ref16_expression_3_0
 refine cp rfl gn rfl (fun w' hw'=>(am (l:=(aU r1.1 a6 c9 a7 c10 a8 c11)) rfl et jy rfl aC ((CA.blk (hI.blk .z) rfl).at_ (SX.any rfl hw')))) (by kernel_rfl) ?_
 refine cK ?_ ?_
 ·skip
  refine be rfl gn rfl (am (l:=(ag r1.2 a9 c12)) rfl et km rfl aG (CellsAt.of_blk (hI.blk (.s (.s (.s .z)))) rfl)) SX.self ?_
  refine bH (F:=F) (C:=c15) rfl rfl ?_
  refine vA fun c24 w19 hI=> ?_
  exact aQ (hk_tr_ref16_expression_3_0 c24 _ (hI.arr GO SU)) SB
 refine bo (F:=F) (C:=c15) rfl rfl ?_
 refine vA fun c24 w19 hI=> ?_
 refine be rfl gn rfl (am (l:=(ag r1.2 a9 c12)) rfl et km rfl aG (CellsAt.of_blk (hI.blk (.s (.s (.s .z)))) rfl)) SX.self ?_
 exact aQ (hk_tr_ref16_expression_3_0 c24 _ (hI.arr GO SU)) SB
def ik:Tr:= .n
def jK:Tr:=(.c (4,.s) (.c (7,.q) ik))
def jL:Tr:=(.c (2,.s) (.c (6,.q) (.c (7,.q) ik)))
def jM:Tr:=(.c (5,.s) (.c (6,.q) (.c (7,.q) ik)))
def jJ:Tr:= .n
theorem wc (hF:dy F w0) {l1:List GToken} {at1:Int} (hc:AllCl [Cl.sl cGToken a1 c1 l1] F w0) {r:GExpr×Int×Int} (h:lr l1 at1=some r):Cg 16 #[vs a1 l1.length c1,vi at1] w0 fun e w=>∃ a2 c2 a3 c3 a4 c4,e= .returned (Value.tuple #[(Value.agg (ap r.1 a2 c2 a3 c3 a4 c4)),vi r.2.1,vi r.2.2])∧Ext w0 w∧AllCl [Cl.sl ah a2 c2 r.1.Lin.L,Cl.sl ak a3 c3 r.1.Idx,Cl.sl an a4 c4 r.1.Args] F w:=by
 refine EN Tryz.func16 Tryz.ntmps16 hF hc fun hI=> ?_
 rw[lr]at h
 refine sr (cU (cs:=#[vi 0,(str ([]:List UInt8)),vi 0,vi 0,vi 0,vi 0,vi 0,vi 0,vi 0,vi 0,vs none 0 0,vs none 0 0,vs none 0 0]) hI gn rfl rfl dQ rfl ?_)
 intro b1 c5 w1 hI
 refine ry ?_
 refine ry ?_
 refine nk (al (sr (sm ?_)))
 refine sq (qr rfl et aj) ?_
 refine sm ?_
 refine ay (bX rfl rfl rfl rfl) rfl (fun hc=>fj rfl et) ?_
 refine ay (bX rfl rfl rfl rfl) rfl (fun hc=>fj rfl et) ?_
 refine ay (bX rfl rfl rfl rfl) rfl (fun hc=>np rfl FF (aO et hc)) ?_
 refine ay (bX rfl rfl rfl rfl) rfl (fun hc=>qs rfl (aO et hc) (aO et hc)) ?_
 refine sq (wD rfl et et) ?_
 refine TC (fun hb h=> ?_) fun hb h=> ?_
 ·refine sr (sq (aw (vs:=[]) (cs:=#[vi 0,(str ([]:List UInt8)),vi 0,vi 0,vi 0,vi 0,vi 0,vi 0,vi 0,vi 0,vs none 0 0,vs none 0 0,vs none 0 0]) rfl trivial (by kernel_rfl)) ?_)
  refine lA fun c6 w2 hI=> ?_
  refine ry ?_
  refine ry ?_
  refine nk (az ?_)
  have hI:=hI.add (c:=Cl.sl ah none 0 ([]:List GMono)) SlC.nil
  have hI:=hI.add (c:=Cl.sl ak none 0 ([]:List GIndex)) SlC.nil
  have hI:=hI.add (c:=Cl.sl an none 0 ([]:List GExpr)) SlC.nil
  obtain rfl:=ai h
  exact eG (vs:=[(Value.agg #[vi 0,(str ([]:List UInt8)),vi 0,vi 0,vi 0,vi 0,vi 0,vi 0,vi 0,vi 0,vs none 0 0,vs none 0 0,vs none 0 0]),vi 0,vi 1]) Tryz.results16 ⟨⟨_,aH rfl rfl,cg (l:=[vi 0,(str ([]:List UInt8)),vi 0,vi 0,vi 0,vi 0,vi 0,vi 0,vi 0,vi 0,vs none 0 0,vs none 0 0,vs none 0 0]) jy rfl aC (CellsAt.of_blk (hI.blk .z) rfl)⟩,⟨aH rfl rfl,⟨aH rfl rfl,trivial⟩⟩⟩ ⟨none,0,none,0,none,0,rfl,hI.ext0,hI.fin ⟨(.s (.s .z)),(.s .z),.z,trivial⟩⟩
 refine bb (aX (sr (sm ?_)))
 refine sm ?_
 refine sq (aw (vs:=[(0,vs a1 l1.length c1),(1,vi at1)]) (cs:=#[vs a1 l1.length c1,vi at1,vi 0,vi 0,vi 0]) rfl ⟨rfl,et,⟨rfl,et,trivial⟩⟩ (by kernel_rfl)) ?_
 obtain⟨r1,hx1,h⟩:=ae h
 refine aA gn rfl (Rc Tryz.func36) (Calls.mono (sd hI.lt FS hx1) ?_)
 rintro _ w3 ⟨a5,c7,a6,c8,a7,c9,a8,c10,rfl,hx2,hl1⟩
 refine⟨_,rfl,?_⟩
 replace hI:=(hI.ext hx2).adds hl1
 refine sm ?_
 refine sq (gm rfl et rfl) ?_
 refine sq (gm rfl et rfl) ?_
 refine lN fun b2 c11 w4 hI=> ?_
 refine lN fun b3 c12 w5 hI=> ?_
 refine lA fun c13 w6 hI=> ?_
 refine lA fun c14 w7 hI=> ?_
 refine nk (al (sr (sq (aL rfl et km rfl jN rfl) ?_)))
 refine sq (bf (v:=(vi r1.2.E)) rfl et Af rfl (CellsAt.of_blk (hI.blk .z) rfl)) ?_
 refine sq (oo rfl et aj) ?_
 refine TC (fun hb h=> ?_) fun hb h=> ?_
 ·refine al (aD [5] false (.c (0,.q) (.c (1,.q) (.c (3,.q) (.three 2 (.two 4 jM 5 (.c (6,.q) jK)) 4 (.two 2 jM 5 jL) 5 (.two 2 (.c (6,.q) jK) 4 jL))))) hI (by kernel_rfl) (by kernel_rfl) ?_)
  intro w13 hI
  refine bP (α:=NP) (T:=ik) (fun x=>[(0,vs a1 l1.length c1),(1,vi at1),(4,vp b1 0),(5,vi r1.2.Pos),(6,vi r1.2.E),(7,vp b2 0),(8,vp b3 0),(9,vi at1),(10,(vb (decide (at1<0)))),(11,(vb (decide (at1<0)))),(12,(gv (!(decide (at1<0))) (vi at1))),(13,(gv (!(decide (at1<0))) (vs a1 l1.length c1))),(14,(gv (!(decide (at1<0))) (vi (l1.length:Int)))),(15,(gv (!(decide (at1<0))) (vb (decide ((l1.length:Int)<at1))))),(16,(vb ((decide (at1<0))||(decide ((l1.length:Int)<at1))))),(18,(Value.tuple #[(Value.agg (ap r1.1 a5 c7 a6 c8 a7 c9)),(Value.agg (ab r1.2 a8 c10))])),(19,vs a1 l1.length c1),(20,vi at1),(21,(Value.agg #[vs a1 l1.length c1,vi at1,vi 0,vi 0,vi 0])),(22,(Value.tuple #[(Value.agg (ap r1.1 a5 c7 a6 c8 a7 c9)),(Value.agg (ab r1.2 a8 c10))])),(23,(Value.agg (ap r1.1 a5 c7 a6 c8 a7 c9))),(24,(Value.agg (ab r1.2 a8 c10))),(25,vp b3 3),(26,vi r1.2.E),(27,(vb (!decide (r1.2.E=0)))),(28,(Value.agg #[vi 0,(str ([]:List UInt8)),vi 0,vi 0,vi 0,vi 0,vi 0,vi 0,vi 0,vi 0,vs none 0 0,vs none 0 0,vs none 0 0])),(29,vp b3 4),(30,vi r1.2.Pos),(31,vp b3 3),(32,vi r1.2.E)]) (fun x w=>Bun noM F w0 x w [MO.box b3 72 (ab r1.2 a8 c10),MO.box b2 39 (ap r1.1 a5 c7 a6 c8 a7 c9),MO.box b1 39 #[vi 0,(str ([]:List UInt8)),vi 0,vi 0,vi 0,vi 0,vi 0,vi 0,vi 0,vi 0,vs none 0 0,vs none 0 0,vs none 0 0]] [Cl.sl ah a5 c7 r1.1.Lin.L,Cl.sl ak a6 c8 r1.1.Idx,Cl.sl an a7 c9 r1.1.Args,Cl.sl cGToken a8 c10 r1.2.L,Cl.sl cGToken a1 c1 l1]) (fun x w=>SN [] (DM true F x) w) ?_ ?_
  ·clear hI;rintro c19 w12 hI
   try dsimp only at hI ⊢
   unfold ik
   refine nj ?_
   refine mZ (e:=[(4,vp b1 0),(5,vi r1.2.Pos),(6,vi r1.2.E)]) ⟨rfl,rfl,rfl,trivial⟩ ?_
   refine az ?_
   have hI:=hI.add (c:=Cl.sl ah none 0 ([]:List GMono)) SlC.nil
   have hI:=hI.add (c:=Cl.sl ak none 0 ([]:List GIndex)) SlC.nil
   have hI:=hI.add (c:=Cl.sl an none 0 ([]:List GExpr)) SlC.nil
   obtain rfl:=ai h
   exact eG (vs:=[(Value.agg #[vi 0,(str ([]:List UInt8)),vi 0,vi 0,vi 0,vi 0,vi 0,vi 0,vi 0,vi 0,vs none 0 0,vs none 0 0,vs none 0 0]),vi r1.2.Pos,vi r1.2.E]) Tryz.results16 ⟨⟨_,aH rfl rfl,cg (l:=[vi 0,(str ([]:List UInt8)),vi 0,vi 0,vi 0,vi 0,vi 0,vi 0,vi 0,vi 0,vs none 0 0,vs none 0 0,vs none 0 0]) jy rfl aC (CellsAt.of_blk (hI.blk (.s (.s .z))) rfl)⟩,⟨aH rfl rfl,⟨aH rfl rfl,trivial⟩⟩⟩ ⟨none,0,none,0,none,0,rfl,hI.ext0,hI.fin ⟨(.s (.s .z)),(.s .z),.z,trivial⟩⟩
  intro hk_tr_ref16_ExprAt_1_3
  refine bP (α:=NP) (T:=jK) (fun x=>[(0,vs a1 l1.length c1),(1,vi at1),(4,vp b1 0),(5,vi r1.2.Pos),(6,vi 0),(7,vp b2 0),(8,vp b3 0),(9,vi at1),(10,(vb (decide (at1<0)))),(11,(vb (decide (at1<0)))),(12,(gv (!(decide (at1<0))) (vi at1))),(13,(gv (!(decide (at1<0))) (vs a1 l1.length c1))),(14,(gv (!(decide (at1<0))) (vi (l1.length:Int)))),(15,(gv (!(decide (at1<0))) (vb (decide ((l1.length:Int)<at1))))),(16,(vb ((decide (at1<0))||(decide ((l1.length:Int)<at1))))),(18,(Value.tuple #[(Value.agg (ap r1.1 a5 c7 a6 c8 a7 c9)),(Value.agg (ab r1.2 a8 c10))])),(19,vs a1 l1.length c1),(20,vi at1),(21,(Value.agg #[vs a1 l1.length c1,vi at1,vi 0,vi 0,vi 0])),(22,(Value.tuple #[(Value.agg (ap r1.1 a5 c7 a6 c8 a7 c9)),(Value.agg (ab r1.2 a8 c10))])),(23,(Value.agg (ap r1.1 a5 c7 a6 c8 a7 c9))),(24,(Value.agg (ab r1.2 a8 c10))),(25,vp b3 3),(26,vi r1.2.E),(27,(vb (!decide (r1.2.E=0)))),(28,(Value.agg #[vi 0,(str ([]:List UInt8)),vi 0,vi 0,vi 0,vi 0,vi 0,vi 0,vi 0,vi 0,vs none 0 0,vs none 0 0,vs none 0 0])),(29,vp b3 4),(30,vi r1.2.Pos),(31,vp b3 3)]) (fun x w=>Bun noM F w0 x w [MO.box b3 72 (ab r1.2 a8 c10),MO.box b2 39 (ap r1.1 a5 c7 a6 c8 a7 c9),MO.box b1 39 #[vi 0,(str ([]:List UInt8)),vi 0,vi 0,vi 0,vi 0,vi 0,vi 0,vi 0,vi 0,vs none 0 0,vs none 0 0,vs none 0 0]] [Cl.sl ah a5 c7 r1.1.Lin.L,Cl.sl ak a6 c8 r1.1.Idx,Cl.sl an a7 c9 r1.1.Args,Cl.sl cGToken a8 c10 r1.2.L,Cl.sl cGToken a1 c1 l1]) (fun x w=>SN [] (DM true F x) w) ?_ ?_
  ·clear hI;rintro c18 w11 hI
   try dsimp only at hI ⊢
   unfold jK
   refine be rfl gn rfl (bf (v:=(vi r1.2.E)) rfl et Af rfl (CellsAt.of_blk (hI.blk .z) rfl)) SX.self ?_
   refine kW rfl gn rfl (fun w'=>bE rfl et) ?_
   exact aQ (hk_tr_ref16_ExprAt_1_3 c18 _ (hI.arr (.c .z (.c .z (.c .z .n))) ⟨.z,(.s .z),(.s (.s .z)),(.s (.s (.s .z))),(.s (.s (.s (.s .z)))),trivial⟩)) ⟨rfl,rfl,rfl,rfl,rfl,rfl,rfl,rfl,rfl,rfl,rfl,rfl,rfl,rfl,rfl,rfl,rfl,rfl,rfl,rfl,rfl,rfl,rfl,rfl,rfl,rfl,rfl,rfl,rfl,rfl,trivial⟩
  intro hk_tr_ref16_ExprAt_1_2
  refine bP (α:=NP) (T:=jL) (fun x=>[(0,vs a1 l1.length c1),(1,vi at1),(4,vp b1 0),(5,vi 0),(6,vi 0),(7,vp b2 0),(8,vp b3 0),(9,vi at1),(10,(vb (decide (at1<0)))),(11,(vb (decide (at1<0)))),(12,(gv (!(decide (at1<0))) (vi at1))),(13,(gv (!(decide (at1<0))) (vs a1 l1.length c1))),(14,(gv (!(decide (at1<0))) (vi (l1.length:Int)))),(15,(gv (!(decide (at1<0))) (vb (decide ((l1.length:Int)<at1))))),(16,(vb ((decide (at1<0))||(decide ((l1.length:Int)<at1))))),(18,(Value.tuple #[(Value.agg (ap r1.1 a5 c7 a6 c8 a7 c9)),(Value.agg (ab r1.2 a8 c10))])),(19,vs a1 l1.length c1),(20,vi at1),(21,(Value.agg #[vs a1 l1.length c1,vi at1,vi 0,vi 0,vi 0])),(22,(Value.tuple #[(Value.agg (ap r1.1 a5 c7 a6 c8 a7 c9)),(Value.agg (ab r1.2 a8 c10))])),(23,(Value.agg (ap r1.1 a5 c7 a6 c8 a7 c9))),(24,(Value.agg (ab r1.2 a8 c10))),(25,vp b3 3),(26,vi r1.2.E),(27,(vb (!decide (r1.2.E=0)))),(28,(Value.agg #[vi 0,(str ([]:List UInt8)),vi 0,vi 0,vi 0,vi 0,vi 0,vi 0,vi 0,vi 0,vs none 0 0,vs none 0 0,vs none 0 0])),(29,vp b3 4),(31,vp b3 3),(32,vi r1.2.E)]) (fun x w=>Bun noM F w0 x w [MO.box b3 72 (ab r1.2 a8 c10),MO.box b2 39 (ap r1.1 a5 c7 a6 c8 a7 c9),MO.box b1 39 #[vi 0,(str ([]:List UInt8)),vi 0,vi 0,vi 0,vi 0,vi 0,vi 0,vi 0,vi 0,vs none 0 0,vs none 0 0,vs none 0 0]] [Cl.sl ah a5 c7 r1.1.Lin.L,Cl.sl ak a6 c8 r1.1.Idx,Cl.sl an a7 c9 r1.1.Args,Cl.sl cGToken a8 c10 r1.2.L,Cl.sl cGToken a1 c1 l1]) (fun x w=>SN [] (DM true F x) w) ?_ ?_
  ·clear hI;rintro c17 w10 hI
   try dsimp only at hI ⊢
   unfold jL
   refine be rfl gn rfl (bf (v:=(vi r1.2.Pos)) rfl et u3 rfl (CellsAt.of_blk (hI.blk .z) rfl)) SX.self ?_
   refine kW rfl gn rfl (fun w'=>bE rfl et) ?_
   refine kW rfl gn rfl (fun w'=>bE rfl et) ?_
   exact aQ (hk_tr_ref16_ExprAt_1_3 c17 _ (hI.arr (.c .z (.c .z (.c .z .n))) ⟨.z,(.s .z),(.s (.s .z)),(.s (.s (.s .z))),(.s (.s (.s (.s .z)))),trivial⟩)) ⟨rfl,rfl,rfl,rfl,rfl,rfl,rfl,rfl,rfl,rfl,rfl,rfl,rfl,rfl,rfl,rfl,rfl,rfl,rfl,rfl,rfl,rfl,rfl,rfl,rfl,rfl,rfl,rfl,rfl,rfl,trivial⟩
  intro hk_tr_ref16_ExprAt_1_1
  refine bP (α:=NP) (T:=jM) (fun x=>[(0,vs a1 l1.length c1),(1,vi at1),(4,vp b1 0),(5,vi 0),(6,vi 0),(7,vp b2 0),(8,vp b3 0),(9,vi at1),(10,(vb (decide (at1<0)))),(11,(vb (decide (at1<0)))),(12,(gv (!(decide (at1<0))) (vi at1))),(13,(gv (!(decide (at1<0))) (vs a1 l1.length c1))),(14,(gv (!(decide (at1<0))) (vi (l1.length:Int)))),(15,(gv (!(decide (at1<0))) (vb (decide ((l1.length:Int)<at1))))),(16,(vb ((decide (at1<0))||(decide ((l1.length:Int)<at1))))),(18,(Value.tuple #[(Value.agg (ap r1.1 a5 c7 a6 c8 a7 c9)),(Value.agg (ab r1.2 a8 c10))])),(19,vs a1 l1.length c1),(20,vi at1),(21,(Value.agg #[vs a1 l1.length c1,vi at1,vi 0,vi 0,vi 0])),(22,(Value.tuple #[(Value.agg (ap r1.1 a5 c7 a6 c8 a7 c9)),(Value.agg (ab r1.2 a8 c10))])),(23,(Value.agg (ap r1.1 a5 c7 a6 c8 a7 c9))),(24,(Value.agg (ab r1.2 a8 c10))),(25,vp b3 3),(26,vi r1.2.E),(27,(vb (!decide (r1.2.E=0)))),(28,(Value.agg #[vi 0,(str ([]:List UInt8)),vi 0,vi 0,vi 0,vi 0,vi 0,vi 0,vi 0,vi 0,vs none 0 0,vs none 0 0,vs none 0 0])),(29,vp b3 4),(30,vi r1.2.Pos),(31,vp b3 3),(32,vi r1.2.E)]) (fun x w=>Bun noM F w0 x w [MO.box b3 72 (ab r1.2 a8 c10),MO.box b2 39 (ap r1.1 a5 c7 a6 c8 a7 c9),MO.box b1 39 #[vi 0,(str ([]:List UInt8)),vi 0,vi 0,vi 0,vi 0,vi 0,vi 0,vi 0,vi 0,vs none 0 0,vs none 0 0,vs none 0 0]] [Cl.sl ah a5 c7 r1.1.Lin.L,Cl.sl ak a6 c8 r1.1.Idx,Cl.sl an a7 c9 r1.1.Args,Cl.sl cGToken a8 c10 r1.2.L,Cl.sl cGToken a1 c1 l1]) (fun x w=>SN [5] (DM false F x) w) ?_ ?_
  ·clear hI;rintro c16 w9 hI
   try dsimp only at hI ⊢
   unfold jM
   refine bH (F:=F) (C:=c16) rfl rfl ?_
   refine vA fun c15 w8 hI=> ?_
   refine kW rfl gn rfl (fun w'=>bE rfl et) ?_
   refine kW rfl gn rfl (fun w'=>bE rfl et) ?_
   exact aQ (hk_tr_ref16_ExprAt_1_3 c15 _ (hI.arr (.c .z (.c .z (.c .z .n))) ⟨.z,(.s .z),(.s (.s .z)),(.s (.s (.s .z))),(.s (.s (.s (.s .z)))),trivial⟩)) ⟨rfl,rfl,rfl,rfl,rfl,rfl,rfl,rfl,rfl,rfl,rfl,rfl,rfl,rfl,rfl,rfl,rfl,rfl,rfl,rfl,rfl,rfl,rfl,rfl,rfl,rfl,rfl,rfl,rfl,rfl,trivial⟩
  intro hk_tr_ref16_ExprAt_1_0
  refine kW rfl gn rfl (fun w'=>(aw (vs:=[]) (cs:=#[vi 0,(str ([]:List UInt8)),vi 0,vi 0,vi 0,vi 0,vi 0,vi 0,vi 0,vi 0,vs none 0 0,vs none 0 0,vs none 0 0]) rfl trivial (by kernel_rfl))) ?_
  refine kW rfl gn rfl (fun w'=>aL rfl et km rfl iZ rfl) ?_
  refine kW rfl gn rfl (fun w'=>aL rfl et km rfl jN rfl) ?_
  refine rl ?_ ?_ ?_
  ·skip
   refine be rfl gn rfl (bf (v:=(vi r1.2.Pos)) rfl et u3 rfl (CellsAt.of_blk (hI.blk .z) rfl)) SX.self ?_
   refine cK ?_ ?_
   ·skip
    refine be rfl gn rfl (bf (v:=(vi r1.2.E)) rfl et Af rfl (CellsAt.of_blk (hI.blk .z) rfl)) SX.self ?_
    exact aQ (hk_tr_ref16_ExprAt_1_0 c14 _ (hI.arr (.c .z (.c .z (.c .z .n))) ⟨.z,(.s .z),(.s (.s .z)),(.s (.s (.s .z))),(.s (.s (.s (.s .z)))),trivial⟩)) ⟨rfl,rfl,rfl,rfl,rfl,rfl,rfl,rfl,rfl,rfl,rfl,rfl,rfl,rfl,rfl,rfl,rfl,rfl,rfl,rfl,rfl,rfl,rfl,rfl,rfl,rfl,rfl,rfl,rfl,rfl,trivial⟩
   refine bo (F:=F) (C:=c14) rfl rfl ?_
   refine vA fun c15 w8 hI=> ?_
   refine kW rfl gn rfl (fun w'=>bE rfl et) ?_
   exact aQ (hk_tr_ref16_ExprAt_1_2 c15 _ (hI.arr (.c .z (.c .z (.c .z .n))) ⟨.z,(.s .z),(.s (.s .z)),(.s (.s (.s .z))),(.s (.s (.s (.s .z)))),trivial⟩)) ⟨rfl,rfl,rfl,rfl,rfl,rfl,rfl,rfl,rfl,rfl,rfl,rfl,rfl,rfl,rfl,rfl,rfl,rfl,rfl,rfl,rfl,rfl,rfl,rfl,rfl,rfl,rfl,rfl,rfl,trivial⟩
  ·skip
   refine be rfl gn rfl (bf (v:=(vi r1.2.E)) rfl et Af rfl (CellsAt.of_blk (hI.blk .z) rfl)) SX.self ?_
   refine cK ?_ ?_
   ·skip
    refine be rfl gn rfl (bf (v:=(vi r1.2.Pos)) rfl et u3 rfl (CellsAt.of_blk (hI.blk .z) rfl)) SX.self ?_
    exact aQ (hk_tr_ref16_ExprAt_1_0 c14 _ (hI.arr (.c .z (.c .z (.c .z .n))) ⟨.z,(.s .z),(.s (.s .z)),(.s (.s (.s .z))),(.s (.s (.s (.s .z)))),trivial⟩)) ⟨rfl,rfl,rfl,rfl,rfl,rfl,rfl,rfl,rfl,rfl,rfl,rfl,rfl,rfl,rfl,rfl,rfl,rfl,rfl,rfl,rfl,rfl,rfl,rfl,rfl,rfl,rfl,rfl,rfl,rfl,trivial⟩
   refine bo (F:=F) (C:=c14) rfl rfl ?_
   refine vA fun c15 w8 hI=> ?_
   exact aQ (hk_tr_ref16_ExprAt_1_1 c15 _ (hI.arr (.c .z (.c .z (.c .z .n))) ⟨.z,(.s .z),(.s (.s .z)),(.s (.s (.s .z))),(.s (.s (.s (.s .z)))),trivial⟩)) ⟨rfl,rfl,rfl,rfl,rfl,rfl,rfl,rfl,rfl,rfl,rfl,rfl,rfl,rfl,rfl,rfl,rfl,rfl,rfl,rfl,rfl,rfl,rfl,rfl,rfl,rfl,rfl,rfl,rfl,trivial⟩
  refine bo (F:=F) (C:=c14) rfl rfl ?_
  refine vA fun c15 w8 hI=> ?_
  refine cK ?_ ?_
  ·skip
   refine be rfl gn rfl (bf (v:=(vi r1.2.Pos)) rfl et u3 rfl (CellsAt.of_blk (hI.blk .z) rfl)) SX.self ?_
   refine kW rfl gn rfl (fun w'=>bE rfl et) ?_
   exact aQ (hk_tr_ref16_ExprAt_1_2 c15 _ (hI.arr (.c .z (.c .z (.c .z .n))) ⟨.z,(.s .z),(.s (.s .z)),(.s (.s (.s .z))),(.s (.s (.s (.s .z)))),trivial⟩)) ⟨rfl,rfl,rfl,rfl,rfl,rfl,rfl,rfl,rfl,rfl,rfl,rfl,rfl,rfl,rfl,rfl,rfl,rfl,rfl,rfl,rfl,rfl,rfl,rfl,rfl,rfl,rfl,rfl,rfl,trivial⟩
  refine be rfl gn rfl (bf (v:=(vi r1.2.E)) rfl et Af rfl (CellsAt.of_blk (hI.blk .z) rfl)) SX.self ?_
  exact aQ (hk_tr_ref16_ExprAt_1_1 c15 _ (hI.arr (.c .z (.c .z (.c .z .n))) ⟨.z,(.s .z),(.s (.s .z)),(.s (.s (.s .z))),(.s (.s (.s (.s .z)))),trivial⟩)) ⟨rfl,rfl,rfl,rfl,rfl,rfl,rfl,rfl,rfl,rfl,rfl,rfl,rfl,rfl,rfl,rfl,rfl,rfl,rfl,rfl,rfl,rfl,rfl,rfl,rfl,rfl,rfl,rfl,rfl,trivial⟩
 refine bb (aX (al (aD [3] false (.c (0,.q) (.c (1,.q) (.two 2 (.c (3,.s) (.c (4,.q) (.c (5,.q) jJ))) 3 (.c (2,.s) (.c (4,.q) (.c (5,.q) jJ)))))) hI (by kernel_rfl) (by kernel_rfl) ?_)))
 intro w16 hI
 refine bP (α:=NP) (T:=jJ) (fun x=>[(0,vs a1 l1.length c1),(1,vi at1),(4,vp b1 0),(5,vi r1.2.At),(6,vi 0),(7,vp b2 0),(8,vp b3 0),(9,vi at1),(10,(vb (decide (at1<0)))),(11,(vb (decide (at1<0)))),(12,(gv (!(decide (at1<0))) (vi at1))),(13,(gv (!(decide (at1<0))) (vs a1 l1.length c1))),(14,(gv (!(decide (at1<0))) (vi (l1.length:Int)))),(15,(gv (!(decide (at1<0))) (vb (decide ((l1.length:Int)<at1))))),(16,(vb ((decide (at1<0))||(decide ((l1.length:Int)<at1))))),(18,(Value.tuple #[(Value.agg (ap r1.1 a5 c7 a6 c8 a7 c9)),(Value.agg (ab r1.2 a8 c10))])),(19,vs a1 l1.length c1),(20,vi at1),(21,(Value.agg #[vs a1 l1.length c1,vi at1,vi 0,vi 0,vi 0])),(22,(Value.tuple #[(Value.agg (ap r1.1 a5 c7 a6 c8 a7 c9)),(Value.agg (ab r1.2 a8 c10))])),(23,(Value.agg (ap r1.1 a5 c7 a6 c8 a7 c9))),(24,(Value.agg (ab r1.2 a8 c10))),(25,vp b3 3),(26,vi r1.2.E),(27,(vb (!decide (r1.2.E=0)))),(33,(Value.agg (ap r1.1 a5 c7 a6 c8 a7 c9))),(34,vp b3 1),(35,vi r1.2.At)]) (fun x w=>Bun noM F w0 x w [MO.box b3 72 (ab r1.2 a8 c10),MO.box b2 39 (ap r1.1 a5 c7 a6 c8 a7 c9),MO.box b1 39 (ap r1.1 a5 c7 a6 c8 a7 c9)] [Cl.sl ah a5 c7 r1.1.Lin.L,Cl.sl ak a6 c8 r1.1.Idx,Cl.sl an a7 c9 r1.1.Args,Cl.sl cGToken a8 c10 r1.2.L,Cl.sl cGToken a1 c1 l1]) (fun x w=>SN [] (DM true F x) w) ?_ ?_
 ·clear hI;rintro c21 w15 hI
  try dsimp only at hI ⊢
  unfold jJ
  refine nj ?_
  refine mZ (e:=[(4,vp b1 0),(5,vi r1.2.At),(6,vi 0)]) ⟨rfl,rfl,rfl,trivial⟩ ?_
  refine az ?_
  obtain rfl:=ai h
  exact eG (vs:=[(Value.agg (ap r1.1 a5 c7 a6 c8 a7 c9)),vi r1.2.At,vi 0]) Tryz.results16 ⟨⟨_,aH rfl rfl,cg (l:=(aU r1.1 a5 c7 a6 c8 a7 c9)) jy rfl aC (CellsAt.of_blk (hI.blk (.s (.s .z))) rfl)⟩,⟨aH rfl rfl,⟨aH rfl rfl,trivial⟩⟩⟩ ⟨a5,c7,a6,c8,a7,c9,rfl,hI.ext0,hI.fin ⟨.z,(.s .z),(.s (.s .z)),trivial⟩⟩
 intro hk_tr_ref16_ExprAt_2_0
 refine cp rfl gn rfl (fun w' hw'=>(am (l:=(aU r1.1 a5 c7 a6 c8 a7 c9)) rfl et jy rfl aC ((CA.blk (hI.blk (.s .z)) rfl).at_ (SX.any rfl hw')))) (by kernel_rfl) ?_
 refine kW rfl gn rfl (fun w'=>aL rfl et km rfl iZ rfl) ?_
 refine cK ?_ ?_
 ·skip
  refine be rfl gn rfl (bf (v:=(vi r1.2.At)) rfl et u3 rfl (CellsAt.of_blk (hI.blk .z) rfl)) SX.self ?_
  refine bH (F:=F) (C:=c14) rfl rfl ?_
  refine vA fun c20 w14 hI=> ?_
  refine kW rfl gn rfl (fun w'=>bE rfl et) ?_
  refine kW rfl gn rfl (fun w'=>bE rfl aj) ?_
  exact aQ (hk_tr_ref16_ExprAt_2_0 c20 _ (hI.arr (.c .z (.c .z (.c .z .n))) ⟨.z,(.s .z),(.s (.s .z)),(.s (.s (.s .z))),(.s (.s (.s (.s .z)))),trivial⟩)) ⟨rfl,rfl,rfl,rfl,rfl,rfl,rfl,rfl,rfl,rfl,rfl,rfl,rfl,rfl,rfl,rfl,rfl,rfl,rfl,rfl,rfl,rfl,rfl,rfl,rfl,rfl,rfl,rfl,trivial⟩
 refine bo (F:=F) (C:=c14) rfl rfl ?_
 refine vA fun c20 w14 hI=> ?_
 refine be rfl gn rfl (bf (v:=(vi r1.2.At)) rfl et u3 rfl (CellsAt.of_blk (hI.blk .z) rfl)) SX.self ?_
 refine kW rfl gn rfl (fun w'=>bE rfl et) ?_
 refine kW rfl gn rfl (fun w'=>bE rfl aj) ?_
 exact aQ (hk_tr_ref16_ExprAt_2_0 c20 _ (hI.arr (.c .z (.c .z (.c .z .n))) ⟨.z,(.s .z),(.s (.s .z)),(.s (.s (.s .z))),(.s (.s (.s (.s .z)))),trivial⟩)) ⟨rfl,rfl,rfl,rfl,rfl,rfl,rfl,rfl,rfl,rfl,rfl,rfl,rfl,rfl,rfl,rfl,rfl,rfl,rfl,rfl,rfl,rfl,rfl,rfl,rfl,rfl,rfl,rfl,trivial⟩
theorem z7 (hF:dy F w0) {a1 b1:List GLin} (hc:AllCl [Cl.sl fE a2 c1 a1,Cl.sl fE a3 c2 b1] F w0) {r:Bool} (h:nU a1 b1=some r):CR F w0 54 #[vs a2 a1.length c1,vs a3 b1.length c2] (vb r) []:=by
 refine EN Tryz.func54 Tryz.ntmps54 hF hc fun hI=> ?_
 rw[nU]at h
 refine T ?_
 refine al (T ?_)
 refine TR fun hb h=> ?_
 refine T ?_
 refine al (T ?_)
 refine bc (α:=Nat×Int) (fun x=>fun w=>∃ C,Bun noM F w0 C w [] [Cl.sl fE a2 c1 a1,Cl.sl fE a3 c2 b1]∧gX a1 b1 (x.1) (x.2)=some r) (fun x _=>x.1) (fun x=>[(0,vs a2 a1.length c1),(1,vs a3 b1.length c2),(5,vi (x.2))]) (fu,0) BH SB ?_
 clear h hI;rintro⟨fuel1,i1⟩ w1 ⟨c3,hI,h⟩
 dsimp only at hI h ⊢
 rcases fuel1 with _ | fuel1
 ·rw[gX]at h;cases h
 rw[gX]at h
 refine al (T ?_)
 refine TC (fun hb h=> ?_) fun hb h=> ?_
 ·refine T ?_
  refine al (T ?_)
  refine al (aD [] false (.c (0,.q) (.c (1,.q) (.c (2,.q) (.c (3,.q) (.c (4,.q) (.c (5,.q) (.c (6,.q) (.c (7,.q) (.c (8,.s) (.c (9,.q) .n)))))))))) hI (by kernel_rfl) (by kernel_rfl) ?_)
  intro w2 hI
  refine V ?_
  obtain⟨e1,hx1,h⟩:=ae h
  obtain⟨ad1,cs1,hA1,hr1,hq1⟩:=hI.clat .z hx1
  obtain⟨a4,c4,rfl,hf1⟩:=hr1
  have hI:=hI.ads hf1
  refine vI ?_
  refine cp rfl gn rfl (fun w' hw'=>(am (l:=(fO e1 a4 c4)) rfl et ob rfl bq (hq1.at_ (SX.any rfl hw')))) (by kernel_rfl) ?_
  refine V ?_
  obtain⟨e2,hx2,h⟩:=ae h
  obtain⟨ad2,cs2,hA2,hr2,hq2⟩:=hI.clat (.s (.s .z)) hx2
  obtain⟨a5,c5,rfl,hf2⟩:=hr2
  have hI:=hI.ads hf2
  refine vI ?_
  refine cp rfl gn rfl (fun w' hw'=>(am (l:=(fO e2 a5 c5)) rfl et ob rfl bq (hq2.at_ (SX.any rfl hw')))) (by kernel_rfl) ?_
  obtain⟨r1,hx3,h⟩:=ae h
  refine dR rfl gn rfl (aI (vs:=[(Value.agg (bO e1 a4 c4)),(Value.agg (bO e2 a5 c5))]) rfl Fe ⟨et,⟨et,trivial⟩⟩) (Calls.mono (p7 hI.lt FS hx3) ?_)
  rintro _ w3 ⟨rfl,hx4,hl1⟩
  refine⟨_,rfl,hx4,?_⟩
  replace hI:=(hI.ext hx4)
  refine V ?_
  refine TR fun hb h=> ?_
  refine T ?_
  refine aK ?_
  exact kl (fuel1,aq (i1+1))
 refine bh ?_
 refine eD ?_
 refine aX ?_
 exact RF
theorem yB (hF:dy F w0) {a1 b1:GIndex} (hc:AllCl [Cl.sl ah a2 c1 a1.Lin.L,Cl.sl fE a3 c2 a1.At,Cl.sl ah a4 c3 b1.Lin.L,Cl.sl fE a5 c4 b1.At] F w0) {r:Bool} (h:mX a1 b1=some r):CR F w0 82 #[(Value.agg (jG a1 a2 c1 a3 c2)),(Value.agg (jG b1 a4 c3 a5 c4))] (vb r) []:=by
 refine EN Tryz.func82 Tryz.ntmps82 hF hc fun hI=> ?_
 rw[mX]at h
 refine sr (lX fun b2 c6 w1 hI=> ?_)
 refine lX fun b3 c8 w2 hI=> ?_
 refine T ?_
 refine ay (aT rfl rfl rfl rfl) rfl (fun hc=>(am (l:=(fO a1.Lin a2 c1)) rfl (aO et hc) ob rfl bq (hI.kblk (l:=(fO a1.Lin a2 c1)) (.s .z) rfl).1)) ?_
 refine T ?_
 refine ay (aT rfl rfl rfl rfl) rfl (fun hc=>(am (l:=(fO b1.Lin a4 c3)) rfl (aO et hc) ob rfl bq (hI.kblk (l:=(fO b1.Lin a4 c3)) .z rfl).1)) ?_
 obtain⟨r1,hx1,h⟩:=ae h
 replace hx1:=ax hx1
 refine sU (fun hc=>p7 hI.lt FS (hx1 hc)) (Rg Tryz.func14) fun w3 hI=> ?_
 refine T ?_
 obtain⟨r2,hx3,h⟩:=ae h
 replace hx3:=ax hx3
 refine sU (fun hc=>z7 hI.lt FS (hx3 hc)) (Rg Tryz.func54) fun w4 hI=> ?_
 exact RF
theorem wx (hF:dy F w0) {a1 b1:List GIndex} (hc:AllCl [Cl.sl ak a2 c1 a1,Cl.sl ak a3 c2 b1] F w0) {r:Bool} (h:lK a1 b1=some r):CR F w0 37 #[vs a2 a1.length c1,vs a3 b1.length c2] (vb r) []:=by
 refine EN Tryz.func37 Tryz.ntmps37 hF hc fun hI=> ?_
 rw[lK]at h
 refine T ?_
 refine al (T ?_)
 refine TR fun hb h=> ?_
 refine T ?_
 refine al (T ?_)
 refine bc (α:=Nat×Int) (fun x=>fun w=>∃ C,Bun noM F w0 C w [] [Cl.sl ak a2 c1 a1,Cl.sl ak a3 c2 b1]∧fh a1 b1 (x.1) (x.2)=some r) (fun x _=>x.1) (fun x=>[(0,vs a2 a1.length c1),(1,vs a3 b1.length c2),(5,vi (x.2))]) (fu,0) BH SB ?_
 clear h hI;rintro⟨fuel1,i1⟩ w1 ⟨c3,hI,h⟩
 dsimp only at hI h ⊢
 rcases fuel1 with _ | fuel1
 ·rw[fh]at h;cases h
 rw[fh]at h
 refine al (T ?_)
 refine TC (fun hb h=> ?_) fun hb h=> ?_
 ·refine T ?_
  refine al (T ?_)
  refine al (aD [] false (.c (0,.q) (.c (1,.q) (.c (2,.q) (.c (3,.q) (.c (4,.q) (.c (5,.q) (.c (6,.q) (.c (7,.q) (.c (8,.s) (.c (9,.q) .n)))))))))) hI (by kernel_rfl) (by kernel_rfl) ?_)
  intro w2 hI
  refine V ?_
  obtain⟨e1,hx1,h⟩:=ae h
  obtain⟨ad1,cs1,hA1,hr1,hq1⟩:=hI.clat .z hx1
  obtain⟨a4,c4,a5,c5,rfl,hf1,hf2⟩:=hr1
  have hI:=hI.ads hf1
  have hI:=hI.ads hf2
  refine vI ?_
  refine cp rfl gn rfl (fun w' hw'=>(am (l:=(oy e1 a4 c4 a5 c5)) rfl et uj rfl ot (hq1.at_ (SX.any rfl hw')))) (by kernel_rfl) ?_
  refine V ?_
  obtain⟨e2,hx2,h⟩:=ae h
  obtain⟨ad2,cs2,hA2,hr2,hq2⟩:=hI.clat (.s (.s (.s .z))) hx2
  obtain⟨a6,c6,a7,c7,rfl,hf3,hf4⟩:=hr2
  have hI:=hI.ads hf3
  have hI:=hI.ads hf4
  refine vI ?_
  refine cp rfl gn rfl (fun w' hw'=>(am (l:=(oy e2 a6 c6 a7 c7)) rfl et uj rfl ot (hq2.at_ (SX.any rfl hw')))) (by kernel_rfl) ?_
  obtain⟨r1,hx3,h⟩:=ae h
  refine dR rfl gn rfl (aI (vs:=[(Value.agg (jG e1 a4 c4 a5 c5)),(Value.agg (jG e2 a6 c6 a7 c7))]) rfl He ⟨et,⟨et,trivial⟩⟩) (Calls.mono (yB hI.lt FS hx3) ?_)
  rintro _ w3 ⟨rfl,hx4,hl1⟩
  refine⟨_,rfl,hx4,?_⟩
  replace hI:=(hI.ext hx4)
  refine V ?_
  refine TR fun hb h=> ?_
  refine T ?_
  refine aK ?_
  exact kl (fuel1,aq (i1+1))
 refine bh ?_
 refine eD ?_
 refine aX ?_
 exact RF
abbrev EX (f_:(GExpr→GExpr→Option Bool)):Prop:=∀ ⦃F:NP⦄ ⦃w0:World⦄ (hF:dy F w0) ⦃a1 b1:GExpr⦄ ⦃a2 a3 a4 a5 a6 a7:Option Addr⦄ ⦃c1 c2 c3 c4 c5 c6:Nat⦄ (hc:AllCl [Cl.sl ah a2 c1 a1.Lin.L,Cl.sl ak a3 c2 a1.Idx,Cl.sl an a4 c3 a1.Args,Cl.sl ah a5 c4 b1.Lin.L,Cl.sl ak a6 c5 b1.Idx,Cl.sl an a7 c6 b1.Args] F w0) ⦃r:Bool⦄ (h:f_ a1 b1=some r),CR F w0 17 #[(Value.agg (ap a1 a2 c1 a3 c2 a4 c3)),(Value.agg (ap b1 a5 c4 a6 c5 a7 c6))] (vb r) []
theorem yC {rec_:(GExpr→GExpr→Option Bool)} (hrec:EX rec_) (hF:dy F w0) {a1 b1:List GExpr} (hc:AllCl [Cl.sl an a2 c1 a1,Cl.sl an a3 c2 b1] F w0) {r:Bool} (h:mY rec_ a1 b1=some r):CR F w0 38 #[vs a2 a1.length c1,vs a3 b1.length c2] (vb r) []:=by
 refine EN Tryz.func38 Tryz.ntmps38 hF hc fun hI=> ?_
 rw[mY]at h
 refine T ?_
 refine al (T ?_)
 refine TR fun hb h=> ?_
 refine T ?_
 refine al (T ?_)
 refine bc (α:=Nat×Int) (fun x=>fun w=>∃ C,Bun noM F w0 C w [] [Cl.sl an a2 c1 a1,Cl.sl an a3 c2 b1]∧gw a1 b1 rec_ (x.1) (x.2)=some r) (fun x _=>x.1) (fun x=>[(0,vs a2 a1.length c1),(1,vs a3 b1.length c2),(5,vi (x.2))]) (fu,0) BH SB ?_
 clear h hI;rintro⟨fuel1,i1⟩ w1 ⟨c3,hI,h⟩
 dsimp only at hI h ⊢
 rcases fuel1 with _ | fuel1
 ·rw[gw]at h;cases h
 rw[gw]at h
 refine al (T ?_)
 refine TC (fun hb h=> ?_) fun hb h=> ?_
 ·refine T ?_
  refine al (T ?_)
  refine al (aD [] false (.c (0,.q) (.c (1,.q) (.c (2,.q) (.c (3,.q) (.c (4,.q) (.c (5,.q) (.c (6,.q) (.c (7,.q) (.c (8,.s) (.c (9,.q) .n)))))))))) hI (by kernel_rfl) (by kernel_rfl) ?_)
  intro w2 hI
  refine V ?_
  obtain⟨e1,hx1,h⟩:=ae h
  obtain⟨ad1,cs1,hA1,hr1,hq1⟩:=hI.clat .z hx1
  obtain⟨a4,c4,a5,c5,a6,c6,rfl,hf1,hf2,hf3⟩:=ij hr1
  have hI:=hI.ads hf1
  have hI:=hI.ads hf2
  have hI:=hI.ads hf3
  refine vI ?_
  refine cp rfl gn rfl (fun w' hw'=>(am (l:=(aU e1 a4 c4 a5 c5 a6 c6)) rfl et jy rfl aC (hq1.at_ (SX.any rfl hw')))) (by kernel_rfl) ?_
  refine V ?_
  obtain⟨e2,hx2,h⟩:=ae h
  obtain⟨ad2,cs2,hA2,hr2,hq2⟩:=hI.clat (.s (.s (.s (.s .z)))) hx2
  obtain⟨a7,c7,a8,c8,a9,c9,rfl,hf4,hf5,hf6⟩:=ij hr2
  have hI:=hI.ads hf4
  have hI:=hI.ads hf5
  have hI:=hI.ads hf6
  refine vI ?_
  refine cp rfl gn rfl (fun w' hw'=>(am (l:=(aU e2 a7 c7 a8 c8 a9 c9)) rfl et jy rfl aC (hq2.at_ (SX.any rfl hw')))) (by kernel_rfl) ?_
  obtain⟨r1,hx3,h⟩:=ae h
  refine dR rfl gn rfl (aI (vs:=[(Value.agg (ap e1 a4 c4 a5 c5 a6 c6)),(Value.agg (ap e2 a7 c7 a8 c8 a9 c9))]) rfl Hh ⟨et,⟨et,trivial⟩⟩) (Calls.mono (hrec hI.lt FS hx3) ?_)
  rintro _ w3 ⟨rfl,hx4,hl1⟩
  refine⟨_,rfl,hx4,?_⟩
  replace hI:=(hI.ext hx4)
  refine V ?_
  refine TR fun hb h=> ?_
  refine T ?_
  refine aK ?_
  exact kl (fuel1,aq (i1+1))
 refine bh ?_
 refine eD ?_
 refine aX ?_
 exact RF
theorem xk {rec_:(GExpr→GExpr→Option Bool)} (hrec:EX rec_) (hF:dy F w0) {a1 b1:GExpr} (hc:AllCl [Cl.sl ah a2 c1 a1.Lin.L,Cl.sl ak a3 c2 a1.Idx,Cl.sl an a4 c3 a1.Args,Cl.sl ah a5 c4 b1.Lin.L,Cl.sl ak a6 c5 b1.Idx,Cl.sl an a7 c6 b1.Args] F w0) {r:Bool} (h:mr rec_ a1 b1=some r):CR F w0 17 #[(Value.agg (ap a1 a2 c1 a3 c2 a4 c3)),(Value.agg (ap b1 a5 c4 a6 c5 a7 c6))] (vb r) []:=by
 refine EN Tryz.func17 Tryz.ntmps17 hF hc fun hI=> ?_
 rw[mr]at h
 refine sr (lX fun b2 c8 w1 hI=> ?_)
 refine lX fun b3 c10 w2 hI=> ?_
 refine T ?_
 refine ay (aT rfl rfl rfl rfl) rfl (fun hc=>(am (l:=(qq a1.Val)) rfl (aO et hc) D9 rfl mG (hI.kblk (l:=(qq a1.Val)) (.s .z) rfl).1)) ?_
 refine T ?_
 refine ay (aT rfl rfl rfl rfl) rfl (fun hc=>(am (l:=(qq b1.Val)) rfl (aO et hc) D9 rfl mG (hI.kblk (l:=(qq b1.Val)) .z rfl).1)) ?_
 refine ay (aT rfl rfl rfl rfl) rfl (fun hc=>iO rfl (aO et hc) (aO et hc) (zN ..) (rV ..)) ?_
 refine T ?_
 refine ay (aT rfl rfl rfl rfl) rfl (fun hc=>(am (l:=(dx a1.Type_)) rfl (aO et hc) qf rfl cA (hI.kblk (l:=(dx a1.Type_)) (.s .z) rfl).1)) ?_
 refine T ?_
 refine ay (aT rfl rfl rfl rfl) rfl (fun hc=>(am (l:=(dx b1.Type_)) rfl (aO et hc) qf rfl cA (hI.kblk (l:=(dx b1.Type_)) .z rfl).1)) ?_
 refine ay (aT rfl rfl rfl rfl) rfl (fun hc=>iO rfl (aO et hc) (aO et hc) (ub ..) (pT ..)) ?_
 refine T ?_
 refine ay (aT rfl rfl rfl rfl) rfl (fun hc=>(am (l:=(fO a1.Lin a2 c1)) rfl (aO et hc) ob rfl bq (hI.kblk (l:=(fO a1.Lin a2 c1)) (.s .z) rfl).1)) ?_
 refine T ?_
 refine ay (aT rfl rfl rfl rfl) rfl (fun hc=>(am (l:=(fO b1.Lin a5 c4)) rfl (aO et hc) ob rfl bq (hI.kblk (l:=(fO b1.Lin a5 c4)) .z rfl).1)) ?_
 obtain⟨r1,hx1,h⟩:=ae h
 replace hx1:=ax hx1
 refine sU (fun hc=>p7 hI.lt FS (hx1 hc)) (Rg Tryz.func14) fun w3 hI=> ?_
 refine T ?_
 obtain⟨r2,hx3,h⟩:=ae h
 replace hx3:=ax hx3
 refine sU (fun hc=>wx hI.lt FS (hx3 hc)) (Rg Tryz.func37) fun w4 hI=> ?_
 refine T ?_
 obtain⟨r3,hx5,h⟩:=ae h
 replace hx5:=ax hx5
 refine sU (fun hc=>yC hrec hI.lt FS (hx5 hc)) (Rg Tryz.func38) fun w5 hI=> ?_
 exact RF
theorem xj (n:Nat):EX (jD n):=by
 induction n with
 | zero=>intro F;intros;rename_i h;cases h
 | succ n ih=>intro F;intros;apply xk ih<;>assumption
theorem z8:EX (oU):=xj fu
theorem qN (F:NP) (w0:World) (hF:∀ k,F k→k<w0.heap.size) (l1:List GToken) (at1:Int) (a1:Option Addr) (c1:Nat) (hc:AllCl [Cl.sl cGToken a1 c1 l1,au] F w0) (r:Bool)
  (h:ju l1 at1=some r):
  Calls Tryz.prog 4 #[vs a1 l1.length c1,vi at1] w0 fun e w=>e= .returned (vb r)∧Ext w0 w∧AllCl [] F w:=by
 refine EN Tryz.func4 Tryz.ntmps4 hF hc fun hI=> ?_
 rw[ju]at h
 refine T ?_
 refine al (T ?_)
 refine sB h (fun _ k=>zY hI.lt FS k) (Rc Tryz.func10) fun r1 w1 h hI=> ?_
 refine TC (fun hb h=> ?_) fun hb h=> ?_
 ·refine sr ?_
  refine sB h (fun _ k=>pB hI.lt FS k) (Rc Tryz.func11) fun r2 w2 h hI=> ?_
  exact RF
 refine T ?_
 obtain⟨r3,hx5,h⟩:=ae h
 refine aA gn rfl (Rc Tryz.func15) (Calls.mono (ql hI.lt FS hx5) ?_)
 rintro _ w3 ⟨a2,c2,a3,c3,a4,c4,rfl,hx6,hl3⟩
 refine⟨_,rfl,?_⟩
 replace hI:=(hI.ext hx6).adds hl3;dsimp only[ca,na]at hI
 refine T ?_
 refine lN fun b1 c5 w4 hI=> ?_
 refine lA fun c6 w5 hI=> ?_
 refine T ?_
 obtain⟨r4,hx7,h⟩:=ae h
 refine aA gn rfl (Rc Tryz.func16) (Calls.mono (wc hI.lt FS hx7) ?_)
 rintro _ w6 ⟨a5,c7,a6,c8,a7,c9,rfl,hx8,hl4⟩
 refine⟨_,rfl,?_⟩
 replace hI:=(hI.ext hx8).adds hl4;dsimp only[ca,na]at hI
 refine T ?_
 refine lN fun b2 c10 w7 hI=> ?_
 refine lA fun c11 w8 hI=> ?_
 refine T ?_
 refine sB h (fun _ k=>z8 hI.lt FS k) (Rc Tryz.func17) fun r5 w9 h hI=> ?_
 refine T ?_
 obtain⟨r6,hx11,h⟩:=ae h
 replace hx11:=ax hx11
 refine sU (fun hc=>pB hI.lt FS (hx11 hc)) (Rg Tryz.func11) fun w10 hI=> ?_
 exact RF
end Go.Proofs.YtmhoikfoogemnaaGreatDoor
