import Derived.Test.YtmhoikfoogemnaaGreatDoorKCQ3g
import Derived.Test.YtmhoikfoogemnaaGreatDoorKLfJ
namespace Go.Proofs.YtmhoikfoogemnaaGreatDoor
open Go Go.RowKit Go.Vc
set_option maxRecDepth 100000
set_option maxHeartbeats 4000000
set_option linter.unusedVariables false
set_option linter.unusedSimpArgs false
variable {σ:Type} {C0 F:NP} {w0:World} {a1 a2 a3 a4 a5 a6 a7 a8 a9 a10 a11 a12:Option Addr} {b1 b2 b3 b4 b5 b6 b7 b8 b9 b10 b11 b12 c1 c2 c3 c4 c5 c6 c7 c8 c9 c10 c11 c12:Nat}
abbrev Hx (f_:(GExpr→Option Int)):Prop:=∀ ⦃F:NP⦄ ⦃w0:World⦄ (hF:dG F w0) ⦃e1:GExpr⦄ ⦃a1 a2 a3:Option Addr⦄ ⦃c1 c2 c3:Nat⦄ (hc:AllCl [Cl.sl ai a1 c1 e1.Lin.L,Cl.sl ak a2 c2 e1.Idx,Cl.sl an a3 c3 e1.Args] F w0) ⦃r:Int⦄ (h:f_ e1=some r),CR F w0 87 #[(Value.agg (aq e1 a1 c1 a2 c2 a3 c3))] (vi r) []
theorem wG {rec_:(GExpr→Option Int)} (hrec:Hx rec_) (hF:dG F w0) {e1:GExpr} (hc:AllCl [Cl.sl ai a1 c1 e1.Lin.L,Cl.sl ak a2 c2 e1.Idx,Cl.sl an a3 c3 e1.Args] F w0) {r:Int} (h:lI rec_ e1=some r):CR F w0 87 #[(Value.agg (aq e1 a1 c1 a2 c2 a3 c3))] (vi r) []:=by
 refine EN Tryz.func87 Tryz.ntmps87 hF hc fun hI=> ?_
 rw[lI]at h
 refine sr (lX fun b1 c5 w1 hI=> ?_)
 refine T ?_
 refine al (T ?_)
 refine sq (am (l:=(aX e1 a1 c1 a2 c2 a3 c3)) rfl et jT rfl aC (hI.kblk (l:=(aX e1 a1 c1 a2 c2 a3 c3)) .z rfl).1) ?_
 refine sB h (fun _ k=>xq hI.lt FS k) (Rc Tryz.func162) fun r1 w2 h hI=> ?_
 refine TR fun hb h=> ?_
 refine sr (sq (am (l:=(aX e1 a1 c1 a2 c2 a3 c3)) rfl et jT rfl aC (hI.kblk (l:=(aX e1 a1 c1 a2 c2 a3 c3)) .z rfl).1) ?_)
 refine sB h (fun _ k=>xr hI.lt FS k) (Rc Tryz.func163) fun r2 w3 h hI=> ?_
 refine TR fun hb h=> ?_
 refine sr (sq (am (l:=(aX e1 a1 c1 a2 c2 a3 c3)) rfl et jT rfl aC (hI.kblk (l:=(aX e1 a1 c1 a2 c2 a3 c3)) .z rfl).1) ?_)
 refine sB h (fun _ k=>wD hI.lt FS k) (Rc Tryz.func164) fun r3 w4 h hI=> ?_
 refine TR fun hb h=> ?_
 refine sr (sq (am (l:=(aX e1 a1 c1 a2 c2 a3 c3)) rfl et jT rfl aC (hI.kblk (l:=(aX e1 a1 c1 a2 c2 a3 c3)) .z rfl).1) ?_)
 refine sB h (fun _ k=>xp hI.lt FS k) (Rc Tryz.func165) fun r4 w5 h hI=> ?_
 refine TR fun hb h=> ?_
 refine sr (sq (am (l:=(aX e1 a1 c1 a2 c2 a3 c3)) rfl et jT rfl aC (hI.kblk (l:=(aX e1 a1 c1 a2 c2 a3 c3)) .z rfl).1) ?_)
 refine sB h (fun _ k=>wH hI.lt FS k) (Rc Tryz.func166) fun r5 w6 h hI=> ?_
 refine TR fun hb h=> ?_
 refine T ?_
 refine al (T ?_)
 refine bh (α:=Nat×Int) (fun x=>fun w=>∃ C,Bun du F w0 C w [] [Cl.blk b1 39 (aq e1 a1 c1 a2 c2 a3 c3),Cl.sl ai a1 c1 e1.Lin.L,Cl.sl ak a2 c2 e1.Idx,Cl.sl an a3 c3 e1.Args]∧gJ e1 rec_ (x.1) (x.2)=some r) (fun x _=>x.1) (fun x=>[(1,vp b1 0),(3,vi (x.2))]) (fu,0) BH SB ?_
 clear h hI;rintro⟨fuel1,i1⟩ w7 ⟨c6,hI,h⟩
 dsimp only at hI h ⊢
 rcases fuel1 with _ | fuel1
 ·rw[gJ]at h;cases h
 rw[gJ]at h
 refine al (T ?_)
 refine TC (fun hb h=> ?_) fun hb h=> ?_
 ·refine T ?_
  refine al (T ?_)
  obtain⟨e2,hx11,h⟩:=ae h
  obtain⟨ad1,cs1,hA1,hr1,hq1⟩:=hI.clat (.s (.s (.s .z))) hx11
  obtain⟨a4,c7,a5,c8,a6,c9,rfl,hf1,hf2,hf3⟩:=iG hr1
  have hI:=hI.ads hf1
  have hI:=hI.ads hf2
  have hI:=hI.ads hf3
  refine sI ?_
  refine T ?_
  refine sB h (fun _ k=>hrec hI.lt FS k) (Rc Tryz.func87) fun r6 w8 h hI=> ?_
  refine TR fun hb h=> ?_
  refine T ?_
  refine aM ?_
  exact kl (fuel1,ar (i1+1))
 refine bk ?_
 refine eU ?_
 refine bb ?_
 exact RF
theorem wF (n:Nat):Hx (j8 n):=by
 induction n with
 | zero=>intro F;intros;rename_i h;cases h
 | succ n ih=>intro F;intros;apply wG ih<;>assumption
theorem yP:Hx (pX):=wF fu
theorem tS (hF:dG F w0) {e1:GExpr} (hc:AllCl [Cl.sl ai a1 c1 e1.Lin.L,Cl.sl ak a2 c2 e1.Idx,Cl.sl an a3 c3 e1.Args] F w0) {r:Int} (h:j9 e1=some r):CR F w0 44 #[(Value.agg (aq e1 a1 c1 a2 c2 a3 c3))] (vi r) []:=by
 refine EN Tryz.func44 Tryz.ntmps44 hF hc fun hI=> ?_
 rw[j9]at h
 refine sr (lX fun b1 c5 w1 hI=> ?_)
 refine T ?_
 refine al (sr (sq (am (l:=(aX e1 a1 c1 a2 c2 a3 c3)) rfl et jT rfl aC (hI.kblk (l:=(aX e1 a1 c1 a2 c2 a3 c3)) .z rfl).1) ?_))
 refine sB h (fun _ k=>xu hI.lt FS k) (Rc Tryz.func85) fun r1 w2 h hI=> ?_
 refine TR fun hb h=> ?_
 refine T ?_
 refine al (sr (sq (am (l:=(aX e1 a1 c1 a2 c2 a3 c3)) rfl et jT rfl aC (hI.kblk (l:=(aX e1 a1 c1 a2 c2 a3 c3)) .z rfl).1) ?_))
 refine sB h (fun _ k=>yR hI.lt FS k) (Rc Tryz.func86) fun r2 w3 h hI=> ?_
 refine TR fun hb h=> ?_
 refine T ?_
 refine sq (am (l:=(aX e1 a1 c1 a2 c2 a3 c3)) rfl et jT rfl aC (hI.kblk (l:=(aX e1 a1 c1 a2 c2 a3 c3)) .z rfl).1) ?_
 refine sB h (fun _ k=>yP hI.lt FS k) (Rc Tryz.func87) fun r3 w4 h hI=> ?_
 exact RF
def iq:Tr:=(.c (3,.s) .n)
def ip:Tr:=(.c (3,.s) .n)
def io:Tr:=(.c (3,.s) .n)
theorem sw (hF:dG F w0) {p1:ac} (hc:AllCl [Cl.sl ag a1 c1 p1.L] F w0) {r:GExpr×ac} (h:eJ p1=some r):Cg 36 #[(Value.agg (ab p1 a1 c1))] w0 fun e w=>∃ a2 c2 a3 c3 a4 c4 a5 c5,e= .returned (Value.tuple #[(Value.agg (aq r.1 a2 c2 a3 c3 a4 c4)),(Value.agg (ab r.2 a5 c5))])∧Ext w0 w∧AllCl [Cl.sl ai a2 c2 r.1.Lin.L,Cl.sl ak a3 c3 r.1.Idx,Cl.sl an a4 c4 r.1.Args,Cl.sl ag a5 c5 r.2.L] F w:=by
 refine EN Tryz.func36 Tryz.ntmps36 hF hc fun hI=> ?_
 rw[eJ]at h
 refine sr (mS (v:=(Value.agg (ab p1 a1 c1))) (cs:=(ab p1 a1 c1)) hI gn rfl rfl et rfl ?_)
 intro b1 c6 w1 hI
 refine lN fun b2 c7 w2 hI=> ?_
 refine lN fun b3 c8 w3 hI=> ?_
 refine T ?_
 obtain⟨r1,hx1,h⟩:=ae h
 refine aB gn rfl (Rc Tryz.func80) (Calls.mono (xm hI.lt FS hx1) ?_)
 rintro _ w4 ⟨a6,c9,a7,c10,a8,c11,a9,c12,rfl,hx2,hl1⟩
 refine⟨_,rfl,?_⟩
 replace hI:=(hI.ext hx2).adds hl1;dsimp only[ca,na]at hI
 refine T ?_
 refine lN fun b4 c13 w5 hI=> ?_
 refine lA fun c14 w6 hI=> ?_
 refine lA fun c15 w7 hI=> ?_
 refine nk (al (T ?_))
 refine TC (fun hb h=> ?_) fun hb h=> ?_
 ·refine T ?_
  refine sB h (fun _ k=>tS hI.lt FS k) (Rc Tryz.func44) fun r2 w8 h hI=> ?_
  refine TC (fun hb h=> ?_) fun hb h=> ?_
  ·refine T ?_
   obtain⟨r3,hx5,h⟩:=ae h
   refine aB gn rfl (Rc Tryz.func81) (Calls.mono (jS hI.lt FS hx5) ?_)
   rintro _ w9 ⟨a10,c16,rfl,hx6,hl3⟩
   refine⟨_,rfl,?_⟩
   replace hI:=(hI.ext hx6).adds hl3;dsimp only[ca,na]at hI
   refine lA fun c17 w10 hI=> ?_
   refine nk (al (aI [2,3] false (.c (0,.q) (.two 1 (.c (2,.s) iq) 2 (.c (1,.s) iq))) hI (by kernel_rfl) (by kernel_rfl) ?_))
   intro w14 hI
   refine cj (α:=NP) (T:=iq) (fun x=>[(0,(Value.agg (ab p1 a1 c1))),(1,vp b1 0),(2,vp b2 0),(3,vp b3 0),(4,vi p1.At),(5,vp b4 0),(6,vi r2),(7,vp b1 1),(8,vi p1.At),(9,(Value.tuple #[(Value.agg (aq r1.1 a6 c9 a7 c10 a8 c11)),(Value.agg (ab r1.2 a9 c12))])),(10,(Value.agg (ab p1 a1 c1))),(11,(Value.tuple #[(Value.agg (aq r1.1 a6 c9 a7 c10 a8 c11)),(Value.agg (ab r1.2 a9 c12))])),(12,(Value.agg (aq r1.1 a6 c9 a7 c10 a8 c11))),(13,(Value.agg (ab r1.2 a9 c12))),(14,vp b1 3),(15,vi r1.2.E),(16,(vb (decide (r1.2.E=0)))),(17,(Value.agg (aq r1.1 a6 c9 a7 c10 a8 c11))),(18,vi r2),(19,vi r2),(20,(vb (!decide (r2=0)))),(21,(Value.agg (ab r1.2 a9 c12))),(22,vi p1.At),(23,vi r2),(24,(Value.agg (ab r3 a10 c16))),(25,(Value.agg (aq r1.1 a6 c9 a7 c10 a8 c11))),(26,(Value.agg (ab r3 a10 c16)))]) (fun x w=>Bun du F w0 x w [MO.box b4 39 (aq r1.1 a6 c9 a7 c10 a8 c11),MO.box b3 72 au,MO.box b2 39 (aq r1.1 a6 c9 a7 c10 a8 c11),MO.box b1 72 (ab r3 a10 c16)] [Cl.sl ag a10 c16 r3.L,Cl.sl ai a6 c9 r1.1.Lin.L,Cl.sl ak a7 c10 r1.1.Idx,Cl.sl an a8 c11 r1.1.Args,Cl.sl ag a9 c12 r1.2.L,Cl.sl ag a1 c1 p1.L]) (fun x w=>SN [] (DM true F x) w) ?_ ?_
   ·clear hI;rintro c20 w13 hI
    try dsimp only at hI ⊢
    unfold iq
    refine vA fun c19 w12 hI=> ?_
    refine V ?_
    refine aA ?_
    obtain rfl:=aj h
    refine QG ?_
    exact⟨a6,c9,a7,c10,a8,c11,a10,c16,rfl,hI.ext0,hI.fin ⟨(.s .z),(.s (.s .z)),(.s (.s (.s .z))),.z,trivial⟩⟩
   intro hk_tr_ref16_expression_1_0
   refine ct rfl gn rfl (fun w' hw'=>(am (l:=(aX r1.1 a6 c9 a7 c10 a8 c11)) rfl et jT rfl aC ((CA.blk (hI.blk .z) rfl).at_ (SX.any rfl hw')))) (by kernel_rfl) ?_
   refine da ?_ ?_
   ·skip
    refine bn rfl gn rfl (am (l:=(ah r3 a10 c16)) rfl et j5 rfl aG (CellsAt.of_blk (hI.blk (.s (.s (.s .z)))) rfl)) SX.self ?_
    refine bJ (F:=F) (C:=c17) rfl rfl ?_
    refine vA fun c18 w11 hI=> ?_
    exact aW (hk_tr_ref16_expression_1_0 c18 _ (hI.arr GO SU)) SB
   refine bu (F:=F) (C:=c17) rfl rfl ?_
   refine vA fun c18 w11 hI=> ?_
   refine bn rfl gn rfl (am (l:=(ah r3 a10 c16)) rfl et j5 rfl aG (CellsAt.of_blk (hI.blk (.s (.s (.s .z)))) rfl)) SX.self ?_
   exact aW (hk_tr_ref16_expression_1_0 c18 _ (hI.arr GO SU)) SB
  refine T ?_
  refine al (aI [2,3] false (.c (0,.q) (.two 1 (.c (2,.s) ip) 2 (.c (1,.s) ip))) hI (by kernel_rfl) (by kernel_rfl) ?_)
  intro w18 hI
  refine cj (α:=NP) (T:=ip) (fun x=>[(0,(Value.agg (ab p1 a1 c1))),(1,vp b1 0),(2,vp b2 0),(3,vp b3 0),(4,vi p1.At),(5,vp b4 0),(6,vi r2),(7,vp b1 1),(8,vi p1.At),(9,(Value.tuple #[(Value.agg (aq r1.1 a6 c9 a7 c10 a8 c11)),(Value.agg (ab r1.2 a9 c12))])),(10,(Value.agg (ab p1 a1 c1))),(11,(Value.tuple #[(Value.agg (aq r1.1 a6 c9 a7 c10 a8 c11)),(Value.agg (ab r1.2 a9 c12))])),(12,(Value.agg (aq r1.1 a6 c9 a7 c10 a8 c11))),(13,(Value.agg (ab r1.2 a9 c12))),(14,vp b1 3),(15,vi r1.2.E),(16,(vb (decide (r1.2.E=0)))),(17,(Value.agg (aq r1.1 a6 c9 a7 c10 a8 c11))),(18,vi r2),(19,vi r2),(20,(vb (!decide (r2=0)))),(25,(Value.agg (aq r1.1 a6 c9 a7 c10 a8 c11))),(26,(Value.agg (ab r1.2 a9 c12)))]) (fun x w=>Bun du F w0 x w [MO.box b4 39 (aq r1.1 a6 c9 a7 c10 a8 c11),MO.box b3 72 au,MO.box b2 39 (aq r1.1 a6 c9 a7 c10 a8 c11),MO.box b1 72 (ab r1.2 a9 c12)] [Cl.sl ai a6 c9 r1.1.Lin.L,Cl.sl ak a7 c10 r1.1.Idx,Cl.sl an a8 c11 r1.1.Args,Cl.sl ag a9 c12 r1.2.L,Cl.sl ag a1 c1 p1.L]) (fun x w=>SN [] (DM true F x) w) ?_ ?_
  ·clear hI;rintro c23 w17 hI
   try dsimp only at hI ⊢
   unfold ip
   refine vA fun c22 w16 hI=> ?_
   refine V ?_
   refine aA ?_
   obtain rfl:=aj h
   refine QG ?_
   exact⟨a6,c9,a7,c10,a8,c11,a9,c12,rfl,hI.ext0,hI.fin ⟨.z,(.s .z),(.s (.s .z)),(.s (.s (.s .z))),trivial⟩⟩
  intro hk_tr_ref16_expression_2_0
  refine ct rfl gn rfl (fun w' hw'=>(am (l:=(aX r1.1 a6 c9 a7 c10 a8 c11)) rfl et jT rfl aC ((CA.blk (hI.blk .z) rfl).at_ (SX.any rfl hw')))) (by kernel_rfl) ?_
  refine da ?_ ?_
  ·skip
   refine bn rfl gn rfl (am (l:=(ah r1.2 a9 c12)) rfl et j5 rfl aG (CellsAt.of_blk (hI.blk (.s (.s (.s .z)))) rfl)) SX.self ?_
   refine bJ (F:=F) (C:=c15) rfl rfl ?_
   refine vA fun c21 w15 hI=> ?_
   exact aW (hk_tr_ref16_expression_2_0 c21 _ (hI.arr GO SU)) SB
  refine bu (F:=F) (C:=c15) rfl rfl ?_
  refine vA fun c21 w15 hI=> ?_
  refine bn rfl gn rfl (am (l:=(ah r1.2 a9 c12)) rfl et j5 rfl aG (CellsAt.of_blk (hI.blk (.s (.s (.s .z)))) rfl)) SX.self ?_
  exact aW (hk_tr_ref16_expression_2_0 c21 _ (hI.arr GO SU)) SB
 refine T ?_
 refine al (aI [2,3] false (.c (0,.q) (.two 1 (.c (2,.s) io) 2 (.c (1,.s) io))) hI (by kernel_rfl) (by kernel_rfl) ?_)
 intro w22 hI
 refine cj (α:=NP) (T:=io) (fun x=>[(0,(Value.agg (ab p1 a1 c1))),(1,vp b1 0),(2,vp b2 0),(3,vp b3 0),(4,vi p1.At),(5,vp b4 0),(7,vp b1 1),(8,vi p1.At),(9,(Value.tuple #[(Value.agg (aq r1.1 a6 c9 a7 c10 a8 c11)),(Value.agg (ab r1.2 a9 c12))])),(10,(Value.agg (ab p1 a1 c1))),(11,(Value.tuple #[(Value.agg (aq r1.1 a6 c9 a7 c10 a8 c11)),(Value.agg (ab r1.2 a9 c12))])),(12,(Value.agg (aq r1.1 a6 c9 a7 c10 a8 c11))),(13,(Value.agg (ab r1.2 a9 c12))),(14,vp b1 3),(15,vi r1.2.E),(16,(vb (decide (r1.2.E=0)))),(25,(Value.agg (aq r1.1 a6 c9 a7 c10 a8 c11))),(26,(Value.agg (ab r1.2 a9 c12)))]) (fun x w=>Bun du F w0 x w [MO.box b4 39 (aq r1.1 a6 c9 a7 c10 a8 c11),MO.box b3 72 au,MO.box b2 39 (aq r1.1 a6 c9 a7 c10 a8 c11),MO.box b1 72 (ab r1.2 a9 c12)] [Cl.sl ai a6 c9 r1.1.Lin.L,Cl.sl ak a7 c10 r1.1.Idx,Cl.sl an a8 c11 r1.1.Args,Cl.sl ag a9 c12 r1.2.L,Cl.sl ag a1 c1 p1.L]) (fun x w=>SN [] (DM true F x) w) ?_ ?_
 ·clear hI;rintro c26 w21 hI
  try dsimp only at hI ⊢
  unfold io
  refine vA fun c25 w20 hI=> ?_
  refine V ?_
  refine aA ?_
  obtain rfl:=aj h
  refine QG ?_
  exact⟨a6,c9,a7,c10,a8,c11,a9,c12,rfl,hI.ext0,hI.fin ⟨.z,(.s .z),(.s (.s .z)),(.s (.s (.s .z))),trivial⟩⟩
 intro hk_tr_ref16_expression_3_0
 refine ct rfl gn rfl (fun w' hw'=>(am (l:=(aX r1.1 a6 c9 a7 c10 a8 c11)) rfl et jT rfl aC ((CA.blk (hI.blk .z) rfl).at_ (SX.any rfl hw')))) (by kernel_rfl) ?_
 refine da ?_ ?_
 ·skip
  refine bn rfl gn rfl (am (l:=(ah r1.2 a9 c12)) rfl et j5 rfl aG (CellsAt.of_blk (hI.blk (.s (.s (.s .z)))) rfl)) SX.self ?_
  refine bJ (F:=F) (C:=c15) rfl rfl ?_
  refine vA fun c24 w19 hI=> ?_
  exact aW (hk_tr_ref16_expression_3_0 c24 _ (hI.arr GO SU)) SB
 refine bu (F:=F) (C:=c15) rfl rfl ?_
 refine vA fun c24 w19 hI=> ?_
 refine bn rfl gn rfl (am (l:=(ah r1.2 a9 c12)) rfl et j5 rfl aG (CellsAt.of_blk (hI.blk (.s (.s (.s .z)))) rfl)) SX.self ?_
 exact aW (hk_tr_ref16_expression_3_0 c24 _ (hI.arr GO SU)) SB
theorem Az (hF:dG F w0) {a1 b1:List GLin} (hc:AllCl [Cl.sl fS a2 c1 a1,Cl.sl fS a3 c2 b1] F w0) {r:Bool} (h:od a1 b1=some r):CR F w0 54 #[vs a2 a1.length c1,vs a3 b1.length c2] (vb r) []:=by
 refine EN Tryz.func54 Tryz.ntmps54 hF hc fun hI=> ?_
 rw[od]at h
 refine T ?_
 refine al (T ?_)
 refine TR fun hb h=> ?_
 refine T ?_
 refine al (T ?_)
 refine bh (α:=Nat×Int) (fun x=>fun w=>∃ C,Bun du F w0 C w [] [Cl.sl fS a2 c1 a1,Cl.sl fS a3 c2 b1]∧il a1 b1 (x.1) (x.2)=some r) (fun x _=>x.1) (fun x=>[(0,vs a2 a1.length c1),(1,vs a3 b1.length c2),(5,vi (x.2))]) (fu,0) BH SB ?_
 clear h hI;rintro⟨fuel1,i1⟩ w1 ⟨c3,hI,h⟩
 dsimp only at hI h ⊢
 rcases fuel1 with _ | fuel1
 ·rw[il]at h;cases h
 rw[il]at h
 refine al (T ?_)
 refine TC (fun hb h=> ?_) fun hb h=> ?_
 ·refine T ?_
  refine al (T ?_)
  refine al (aI [] false (.c (0,.q) (.c (1,.q) (.c (2,.q) (.c (3,.q) (.c (4,.q) (.c (5,.q) (.c (6,.q) (.c (7,.q) (.c (8,.s) (.c (9,.q) .n)))))))))) hI (by kernel_rfl) (by kernel_rfl) ?_)
  intro w2 hI
  refine V ?_
  obtain⟨e1,hx1,h⟩:=ae h
  obtain⟨ad1,cs1,hA1,hr1,hq1⟩:=hI.clat .z hx1
  obtain⟨a4,c4,rfl,hf1⟩:=hr1
  have hI:=hI.ads hf1
  refine vI ?_
  refine ct rfl gn rfl (fun w' hw'=>(am (l:=(gc e1 a4 c4)) rfl et oy rfl bt (hq1.at_ (SX.any rfl hw')))) (by kernel_rfl) ?_
  refine V ?_
  obtain⟨e2,hx2,h⟩:=ae h
  obtain⟨ad2,cs2,hA2,hr2,hq2⟩:=hI.clat (.s (.s .z)) hx2
  obtain⟨a5,c5,rfl,hf2⟩:=hr2
  have hI:=hI.ads hf2
  refine vI ?_
  refine ct rfl gn rfl (fun w' hw'=>(am (l:=(gc e2 a5 c5)) rfl et oy rfl bt (hq2.at_ (SX.any rfl hw')))) (by kernel_rfl) ?_
  obtain⟨r1,hx3,h⟩:=ae h
  refine dC rfl gn rfl (aF (vs:=[(Value.agg (bQ e1 a4 c4)),(Value.agg (bQ e2 a5 c5))]) rfl F6 ⟨et,⟨et,trivial⟩⟩) (Calls.mono (qk hI.lt FS hx3) ?_)
  rintro _ w3 ⟨rfl,hx4,hl1⟩
  refine⟨_,rfl,hx4,?_⟩
  replace hI:=(hI.ext hx4)
  refine V ?_
  refine TR fun hb h=> ?_
  refine T ?_
  refine aM ?_
  exact kl (fuel1,ar (i1+1))
 refine bk ?_
 refine eU ?_
 refine bb ?_
 exact RF
theorem y6 (hF:dG F w0) {a1 b1:GIndex} (hc:AllCl [Cl.sl ai a2 c1 a1.Lin.L,Cl.sl fS a3 c2 a1.At,Cl.sl ai a4 c3 b1.Lin.L,Cl.sl fS a5 c4 b1.At] F w0) {r:Bool} (h:nr a1 b1=some r):CR F w0 82 #[(Value.agg (mO a1 a2 c1 a3 c2)),(Value.agg (mO b1 a4 c3 a5 c4))] (vb r) []:=by
 refine EN Tryz.func82 Tryz.ntmps82 hF hc fun hI=> ?_
 rw[nr]at h
 refine sr (lX fun b2 c6 w1 hI=> ?_)
 refine lX fun b3 c8 w2 hI=> ?_
 refine T ?_
 refine az (aT rfl rfl rfl rfl) rfl (fun hc=>(am (l:=(gc a1.Lin a2 c1)) rfl (aQ et hc) oy rfl bt (hI.kblk (l:=(gc a1.Lin a2 c1)) (.s .z) rfl).1)) ?_
 refine T ?_
 refine az (aT rfl rfl rfl rfl) rfl (fun hc=>(am (l:=(gc b1.Lin a4 c3)) rfl (aQ et hc) oy rfl bt (hI.kblk (l:=(gc b1.Lin a4 c3)) .z rfl).1)) ?_
 obtain⟨r1,hx1,h⟩:=ae h
 replace hx1:=ay hx1
 refine sU (fun hc=>qk hI.lt FS (hx1 hc)) (Rg Tryz.func14) fun w3 hI=> ?_
 refine T ?_
 obtain⟨r2,hx3,h⟩:=ae h
 replace hx3:=ay hx3
 refine sU (fun hc=>Az hI.lt FS (hx3 hc)) (Rg Tryz.func54) fun w4 hI=> ?_
 exact RF
theorem wT (hF:dG F w0) {a1 b1:List GIndex} (hc:AllCl [Cl.sl ak a2 c1 a1,Cl.sl ak a3 c2 b1] F w0) {r:Bool} (h:lW a1 b1=some r):CR F w0 37 #[vs a2 a1.length c1,vs a3 b1.length c2] (vb r) []:=by
 refine EN Tryz.func37 Tryz.ntmps37 hF hc fun hI=> ?_
 rw[lW]at h
 refine T ?_
 refine al (T ?_)
 refine TR fun hb h=> ?_
 refine T ?_
 refine al (T ?_)
 refine bh (α:=Nat×Int) (fun x=>fun w=>∃ C,Bun du F w0 C w [] [Cl.sl ak a2 c1 a1,Cl.sl ak a3 c2 b1]∧fB a1 b1 (x.1) (x.2)=some r) (fun x _=>x.1) (fun x=>[(0,vs a2 a1.length c1),(1,vs a3 b1.length c2),(5,vi (x.2))]) (fu,0) BH SB ?_
 clear h hI;rintro⟨fuel1,i1⟩ w1 ⟨c3,hI,h⟩
 dsimp only at hI h ⊢
 rcases fuel1 with _ | fuel1
 ·rw[fB]at h;cases h
 rw[fB]at h
 refine al (T ?_)
 refine TC (fun hb h=> ?_) fun hb h=> ?_
 ·refine T ?_
  refine al (T ?_)
  refine al (aI [] false (.c (0,.q) (.c (1,.q) (.c (2,.q) (.c (3,.q) (.c (4,.q) (.c (5,.q) (.c (6,.q) (.c (7,.q) (.c (8,.s) (.c (9,.q) .n)))))))))) hI (by kernel_rfl) (by kernel_rfl) ?_)
  intro w2 hI
  refine V ?_
  obtain⟨e1,hx1,h⟩:=ae h
  obtain⟨ad1,cs1,hA1,hr1,hq1⟩:=hI.clat .z hx1
  obtain⟨a4,c4,a5,c5,rfl,hf1,hf2⟩:=hr1
  have hI:=hI.ads hf1
  have hI:=hI.ads hf2
  refine vI ?_
  refine ct rfl gn rfl (fun w' hw'=>(am (l:=(qK e1 a4 c4 a5 c5)) rfl et ux rfl oG (hq1.at_ (SX.any rfl hw')))) (by kernel_rfl) ?_
  refine V ?_
  obtain⟨e2,hx2,h⟩:=ae h
  obtain⟨ad2,cs2,hA2,hr2,hq2⟩:=hI.clat (.s (.s (.s .z))) hx2
  obtain⟨a6,c6,a7,c7,rfl,hf3,hf4⟩:=hr2
  have hI:=hI.ads hf3
  have hI:=hI.ads hf4
  refine vI ?_
  refine ct rfl gn rfl (fun w' hw'=>(am (l:=(qK e2 a6 c6 a7 c7)) rfl et ux rfl oG (hq2.at_ (SX.any rfl hw')))) (by kernel_rfl) ?_
  obtain⟨r1,hx3,h⟩:=ae h
  refine dC rfl gn rfl (aF (vs:=[(Value.agg (mO e1 a4 c4 a5 c5)),(Value.agg (mO e2 a6 c6 a7 c7))]) rfl H7 ⟨et,⟨et,trivial⟩⟩) (Calls.mono (y6 hI.lt FS hx3) ?_)
  rintro _ w3 ⟨rfl,hx4,hl1⟩
  refine⟨_,rfl,hx4,?_⟩
  replace hI:=(hI.ext hx4)
  refine V ?_
  refine TR fun hb h=> ?_
  refine T ?_
  refine aM ?_
  exact kl (fuel1,ar (i1+1))
 refine bk ?_
 refine eU ?_
 refine bb ?_
 exact RF
abbrev FJ (f_:(GExpr→GExpr→Option Bool)):Prop:=∀ ⦃F:NP⦄ ⦃w0:World⦄ (hF:dG F w0) ⦃a1 b1:GExpr⦄ ⦃a2 a3 a4 a5 a6 a7:Option Addr⦄ ⦃c1 c2 c3 c4 c5 c6:Nat⦄ (hc:AllCl [Cl.sl ai a2 c1 a1.Lin.L,Cl.sl ak a3 c2 a1.Idx,Cl.sl an a4 c3 a1.Args,Cl.sl ai a5 c4 b1.Lin.L,Cl.sl ak a6 c5 b1.Idx,Cl.sl an a7 c6 b1.Args] F w0) ⦃r:Bool⦄ (h:f_ a1 b1=some r),CR F w0 17 #[(Value.agg (aq a1 a2 c1 a3 c2 a4 c3)),(Value.agg (aq b1 a5 c4 a6 c5 a7 c6))] (vb r) []
theorem y7 {rec_:(GExpr→GExpr→Option Bool)} (hrec:FJ rec_) (hF:dG F w0) {a1 b1:List GExpr} (hc:AllCl [Cl.sl an a2 c1 a1,Cl.sl an a3 c2 b1] F w0) {r:Bool} (h:nt rec_ a1 b1=some r):CR F w0 38 #[vs a2 a1.length c1,vs a3 b1.length c2] (vb r) []:=by
 refine EN Tryz.func38 Tryz.ntmps38 hF hc fun hI=> ?_
 rw[nt]at h
 refine T ?_
 refine al (T ?_)
 refine TR fun hb h=> ?_
 refine T ?_
 refine al (T ?_)
 refine bh (α:=Nat×Int) (fun x=>fun w=>∃ C,Bun du F w0 C w [] [Cl.sl an a2 c1 a1,Cl.sl an a3 c2 b1]∧gN a1 b1 rec_ (x.1) (x.2)=some r) (fun x _=>x.1) (fun x=>[(0,vs a2 a1.length c1),(1,vs a3 b1.length c2),(5,vi (x.2))]) (fu,0) BH SB ?_
 clear h hI;rintro⟨fuel1,i1⟩ w1 ⟨c3,hI,h⟩
 dsimp only at hI h ⊢
 rcases fuel1 with _ | fuel1
 ·rw[gN]at h;cases h
 rw[gN]at h
 refine al (T ?_)
 refine TC (fun hb h=> ?_) fun hb h=> ?_
 ·refine T ?_
  refine al (T ?_)
  refine al (aI [] false (.c (0,.q) (.c (1,.q) (.c (2,.q) (.c (3,.q) (.c (4,.q) (.c (5,.q) (.c (6,.q) (.c (7,.q) (.c (8,.s) (.c (9,.q) .n)))))))))) hI (by kernel_rfl) (by kernel_rfl) ?_)
  intro w2 hI
  refine V ?_
  obtain⟨e1,hx1,h⟩:=ae h
  obtain⟨ad1,cs1,hA1,hr1,hq1⟩:=hI.clat .z hx1
  obtain⟨a4,c4,a5,c5,a6,c6,rfl,hf1,hf2,hf3⟩:=iG hr1
  have hI:=hI.ads hf1
  have hI:=hI.ads hf2
  have hI:=hI.ads hf3
  refine vI ?_
  refine ct rfl gn rfl (fun w' hw'=>(am (l:=(aX e1 a4 c4 a5 c5 a6 c6)) rfl et jT rfl aC (hq1.at_ (SX.any rfl hw')))) (by kernel_rfl) ?_
  refine V ?_
  obtain⟨e2,hx2,h⟩:=ae h
  obtain⟨ad2,cs2,hA2,hr2,hq2⟩:=hI.clat (.s (.s (.s (.s .z)))) hx2
  obtain⟨a7,c7,a8,c8,a9,c9,rfl,hf4,hf5,hf6⟩:=iG hr2
  have hI:=hI.ads hf4
  have hI:=hI.ads hf5
  have hI:=hI.ads hf6
  refine vI ?_
  refine ct rfl gn rfl (fun w' hw'=>(am (l:=(aX e2 a7 c7 a8 c8 a9 c9)) rfl et jT rfl aC (hq2.at_ (SX.any rfl hw')))) (by kernel_rfl) ?_
  obtain⟨r1,hx3,h⟩:=ae h
  refine dC rfl gn rfl (aF (vs:=[(Value.agg (aq e1 a4 c4 a5 c5 a6 c6)),(Value.agg (aq e2 a7 c7 a8 c8 a9 c9))]) rfl F5 ⟨et,⟨et,trivial⟩⟩) (Calls.mono (hrec hI.lt FS hx3) ?_)
  rintro _ w3 ⟨rfl,hx4,hl1⟩
  refine⟨_,rfl,hx4,?_⟩
  replace hI:=(hI.ext hx4)
  refine V ?_
  refine TR fun hb h=> ?_
  refine T ?_
  refine aM ?_
  exact kl (fuel1,ar (i1+1))
 refine bk ?_
 refine eU ?_
 refine bb ?_
 exact RF
theorem xI {rec_:(GExpr→GExpr→Option Bool)} (hrec:FJ rec_) (hF:dG F w0) {a1 b1:GExpr} (hc:AllCl [Cl.sl ai a2 c1 a1.Lin.L,Cl.sl ak a3 c2 a1.Idx,Cl.sl an a4 c3 a1.Args,Cl.sl ai a5 c4 b1.Lin.L,Cl.sl ak a6 c5 b1.Idx,Cl.sl an a7 c6 b1.Args] F w0) {r:Bool} (h:mH rec_ a1 b1=some r):CR F w0 17 #[(Value.agg (aq a1 a2 c1 a3 c2 a4 c3)),(Value.agg (aq b1 a5 c4 a6 c5 a7 c6))] (vb r) []:=by
 refine EN Tryz.func17 Tryz.ntmps17 hF hc fun hI=> ?_
 rw[mH]at h
 refine sr (lX fun b2 c8 w1 hI=> ?_)
 refine lX fun b3 c10 w2 hI=> ?_
 refine T ?_
 refine az (aT rfl rfl rfl rfl) rfl (fun hc=>(am (l:=(qD a1.Val)) rfl (aQ et hc) ES rfl mY (hI.kblk (l:=(qD a1.Val)) (.s .z) rfl).1)) ?_
 refine T ?_
 refine az (aT rfl rfl rfl rfl) rfl (fun hc=>(am (l:=(qD b1.Val)) rfl (aQ et hc) ES rfl mY (hI.kblk (l:=(qD b1.Val)) .z rfl).1)) ?_
 refine az (aT rfl rfl rfl rfl) rfl (fun hc=>ji rfl (aQ et hc) (aQ et hc) (An ..) (sj ..)) ?_
 refine T ?_
 refine az (aT rfl rfl rfl rfl) rfl (fun hc=>(am (l:=(dD a1.Type_)) rfl (aQ et hc) qr rfl cD (hI.kblk (l:=(dD a1.Type_)) (.s .z) rfl).1)) ?_
 refine T ?_
 refine az (aT rfl rfl rfl rfl) rfl (fun hc=>(am (l:=(dD b1.Type_)) rfl (aQ et hc) qr rfl cD (hI.kblk (l:=(dD b1.Type_)) .z rfl).1)) ?_
 refine az (aT rfl rfl rfl rfl) rfl (fun hc=>ji rfl (aQ et hc) (aQ et hc) (uo ..) (qd ..)) ?_
 refine T ?_
 refine az (aT rfl rfl rfl rfl) rfl (fun hc=>(am (l:=(gc a1.Lin a2 c1)) rfl (aQ et hc) oy rfl bt (hI.kblk (l:=(gc a1.Lin a2 c1)) (.s .z) rfl).1)) ?_
 refine T ?_
 refine az (aT rfl rfl rfl rfl) rfl (fun hc=>(am (l:=(gc b1.Lin a5 c4)) rfl (aQ et hc) oy rfl bt (hI.kblk (l:=(gc b1.Lin a5 c4)) .z rfl).1)) ?_
 obtain⟨r1,hx1,h⟩:=ae h
 replace hx1:=ay hx1
 refine sU (fun hc=>qk hI.lt FS (hx1 hc)) (Rg Tryz.func14) fun w3 hI=> ?_
 refine T ?_
 obtain⟨r2,hx3,h⟩:=ae h
 replace hx3:=ay hx3
 refine sU (fun hc=>wT hI.lt FS (hx3 hc)) (Rg Tryz.func37) fun w4 hI=> ?_
 refine T ?_
 obtain⟨r3,hx5,h⟩:=ae h
 replace hx5:=ay hx5
 refine sU (fun hc=>y7 hrec hI.lt FS (hx5 hc)) (Rg Tryz.func38) fun w5 hI=> ?_
 exact RF
theorem xH (n:Nat):FJ (jX n):=by
 induction n with
 | zero=>intro F;intros;rename_i h;cases h
 | succ n ih=>intro F;intros;apply xI ih<;>assumption
theorem AA:FJ (pc):=xH fu
theorem qT (hF:dG F w0) {s1:List UInt8} {l1:List aS} {at1:Int} (hc:AllCl [Cl.sl ag a1 c1 l1] F w0) {r:Int} (h:lF s1 l1 at1=some r):CR F w0 42 #[(aE s1),vs a1 l1.length c1,vi at1] (vi r) []:=by
 refine EN Tryz.func42 Tryz.ntmps42 hF hc fun hI=> ?_
 rw[lF]at h
 refine T ?_
 refine al (T ?_)
 refine TC (fun hb h=> ?_) fun hb h=> ?_
 ·refine T ?_
  obtain⟨e1,hx1,h⟩:=ae h
  obtain⟨ad1,cs1,hA1,hr1,hq1⟩:=hI.clat .z hx1
  obtain rfl:cs1=(kx e1):=hr1
  refine sI ?_
  exact RF
 exact RF
def ln:Tr:= .n
def lp:Tr:=(.c (8,.s) (.c (9,.q) (.c (10,.q) ln)))
theorem yN (hF:dG F w0) {s1:List UInt8} (hc:AllCl [] F w0) {r:GExpr×Int×Int} (h:m7 s1=some r):Cg 19 #[(aE s1)] w0 fun e w=>∃ a1 c1 a2 c2 a3 c3,e= .returned (Value.tuple #[(Value.agg (aq r.1 a1 c1 a2 c2 a3 c3)),vi r.2.1,vi r.2.2])∧Ext w0 w∧AllCl [Cl.sl ai a1 c1 r.1.Lin.L,Cl.sl ak a2 c2 r.1.Idx,Cl.sl an a3 c3 r.1.Args] F w:=by
 refine oN Tryz.func19 rfl Tryz.ntmps19 rfl ?_
 have hI:=Bun.start hF hc
 clear hc
 rw[m7]at h
 refine sr (cF (cs:=#[vi 0,(aE ([]:List UInt8)),vi 0,vi 0,vi 0,vi 0,vi 0,vi 0,vi 0,vi 0,vs none 0 0,vs none 0 0,vs none 0 0]) hI gn rfl rfl dN rfl ?_)
 clear hI;intro b1 c4 w1 hI
 refine rJ ?_
 refine rJ ?_
 refine nk (sr (sm ?_))
 obtain⟨r1,hx1,h⟩:=ae h
 refine aB gn rfl (aF (vs:=[(aE s1)]) rfl F4 ⟨et,trivial⟩) (Calls.mono (pG (F:=(Dj F c4)) (w0:=w1) hI.lt (s1:=s1) trivial (r:=r1) hx1) ?_)
 rintro _ w2 ⟨a4,c5,rfl,hx2,hl1⟩
 refine⟨_,rfl,?_⟩
 replace hI:=(hI.ext hx2).adds hl1
 refine sm ?_
 refine sq (eW rfl et rfl) ?_
 refine sq (eW rfl et rfl) ?_
 refine sq (eW rfl et rfl) ?_
 refine sa ?_
 refine sa ?_
 refine sa ?_
 refine nk (al (sr (sm ?_)))
 refine sq (ow rfl et ao) ?_
 refine nk (vm h et (fun hb h=> ?_) (fun hb h=> ?_))
 ·refine sr (sq (ax (vs:=[]) (cs:=#[vi 0,(aE ([]:List UInt8)),vi 0,vi 0,vi 0,vi 0,vi 0,vi 0,vi 0,vi 0,vs none 0 0,vs none 0 0,vs none 0 0]) rfl trivial (by kernel_rfl)) ?_)
  refine sm ?_
  refine sm ?_
  refine ba (new:=[vi 0,(aE ([]:List UInt8)),vi 0,vi 0,vi 0,vi 0,vi 0,vi 0,vi 0,vi 0,vs none 0 0,vs none 0 0,vs none 0 0]) (cs':=#[vi 0,(aE ([]:List UInt8)),vi 0,vi 0,vi 0,vi 0,vi 0,vi 0,vi 0,vi 0,vs none 0 0,vs none 0 0,vs none 0 0]) hI .z gn rfl rfl et et rfl aC rfl rfl rfl ?_
  clear hI;intro c6 w3 hI
  refine sa ?_
  refine sa ?_
  refine nk (aA ?_)
  have hI:=hI.add (c:=Cl.sl ai none 0 ([]:List GMono)) SlC.nil
  have hI:=hI.add (c:=Cl.sl ak none 0 ([]:List GIndex)) SlC.nil
  have hI:=hI.add (c:=Cl.sl an none 0 ([]:List GExpr)) SlC.nil
  obtain rfl:=aj h
  exact eV (vs:=[(Value.agg #[vi 0,(aE ([]:List UInt8)),vi 0,vi 0,vi 0,vi 0,vi 0,vi 0,vi 0,vi 0,vs none 0 0,vs none 0 0,vs none 0 0]),vi r1.2.1,vi r1.2.2]) Tryz.results19 ⟨⟨_,aK rfl rfl,ci (l:=[vi 0,(aE ([]:List UInt8)),vi 0,vi 0,vi 0,vi 0,vi 0,vi 0,vi 0,vi 0,vs none 0 0,vs none 0 0,vs none 0 0]) jT rfl aC (CellsAt.of_blk (hI.blk .z) rfl)⟩,⟨aK rfl rfl,⟨aK rfl rfl,trivial⟩⟩⟩ ⟨none,0,none,0,none,0,rfl,hI.ext0,hI.fin ⟨(.s (.s .z)),(.s .z),.z,trivial⟩⟩
 refine bf (bb (sr (sm ?_)))
 refine sq (ax (vs:=[(0,vs a4 r1.1.length c5)]) (cs:=#[vs a4 r1.1.length c5,vi 0,vi 0,vi 0,vi 0]) rfl ⟨rfl,et,trivial⟩ (by kernel_rfl)) ?_
 obtain⟨r2,hx3,h⟩:=ae h
 refine aB gn rfl (aF (vs:=[(Value.agg #[vs a4 r1.1.length c5,vi 0,vi 0,vi 0,vi 0])]) rfl Ia ⟨et,trivial⟩) (Calls.mono (sw (F:=(Dj F c4)) (w0:=w2) hI.lt (p1:=(⟨r1.1,0,0,0,0⟩:ac)) (a1:=a4) (c1:=c5) ⟨(hI.get .z),trivial⟩ (r:=r2) hx3) ?_)
 rintro _ w4 ⟨a5,c7,a6,c8,a7,c9,a8,c10,rfl,hx4,hl2⟩
 refine⟨_,rfl,?_⟩
 replace hI:=(hI.ext hx4).adds hl2
 refine sm ?_
 refine sq (eW rfl et rfl) ?_
 refine sq (eW rfl et rfl) ?_
 refine cF (cs:=#[vi 0,(aE ([]:List UInt8)),vi 0,vi 0,vi 0,vi 0,vi 0,vi 0,vi 0,vi 0,vs none 0 0,vs none 0 0,vs none 0 0]) hI gn rfl rfl dN rfl ?_
 clear hI;intro b2 c11 w5 hI
 refine cF (cs:=au) hI gn rfl rfl EW rfl ?_
 clear hI;intro b3 c12 w6 hI
 refine ba (new:=(aX r2.1 a5 c7 a6 c8 a7 c9)) (cs':=(aq r2.1 a5 c7 a6 c8 a7 c9)) hI (.s .z) gn rfl rfl et et rfl aC rfl rfl rfl ?_
 clear hI;intro c13 w7 hI
 refine ba (new:=(ah r2.2 a8 c10)) (cs':=(ab r2.2 a8 c10)) hI .z gn rfl rfl et et rfl aG rfl rfl rfl ?_
 clear hI;intro c14 w8 hI
 refine nk (bw (α:=ac×(Option Addr)×Nat) (fun _=>⟨51,[]⟩) (fun x=>[(0,(aE s1)),(2,vp b1 0),(5,vs a4 r1.1.length c5),(8,vp b2 0),(9,vp b3 0)]) (fun x=>fun w=>∃ C,Bun du F w0 C w [MO.box b1 39 #[vi 0,(aE ([]:List UInt8)),vi 0,vi 0,vi 0,vi 0,vi 0,vi 0,vi 0,vi 0,vs none 0 0,vs none 0 0,vs none 0 0],MO.box b2 39 (aq r2.1 a5 c7 a6 c8 a7 c9),MO.box b3 72 (ab (x.1) (x.2.1) (x.2.2))] [Cl.sl ag (x.2.1) (x.2.2) (x.1).L,Cl.sl ag a4 c5 r1.1,Cl.sl ai a5 c7 r2.1.Lin.L,Cl.sl ak a6 c8 r2.1.Idx,Cl.sl an a7 c9 r2.1.Args]∧iB s1 r1 r2 (x.1)=some r) ?_ ?_)
 ·clear h hI;rintro⟨p1,a9,c15⟩ w9 ⟨c16,hI,h⟩
  try dsimp only at hI h
  rw[iB]at h
  refine Gi (e:=[(0,(aE s1)),(2,vp b1 0),(5,vs a4 r1.1.length c5),(8,vp b2 0),(9,vp b3 0)]) ⟨rfl,rfl,rfl,rfl,rfl,trivial⟩ ?_
  refine al (sr (sq (aN rfl et j5 rfl jK rfl) ?_))
  refine sq (bo (v:=(vi p1.E)) rfl et AG rfl (CellsAt.of_blk (hI.blk (.s (.s .z))) rfl)) ?_
  refine sq (ow rfl et ao) ?_
  refine nk (vm h et (fun hb h=> ?_) (fun hb h=> ?_))
  ·refine al ?_
   obtain⟨r3,hx5,h⟩:=ae h
   refine aI [8] false (.c (0,.q) (.c (1,.q) (.c (2,.q) (.c (3,.q) (.c (4,.q) (.c (6,.q) (.two 5 (.two 7 lp 8 (.c (9,.q) (.c (7,.s) (.c (10,.q) ln)))) 7 (.c (5,.s) lp)))))))) hI (by kernel_rfl) (by kernel_rfl) ?_
   clear hI;intro w14 hI
   refine cj (α:=NP) (T:=ln) (fun x=>[(0,(aE s1)),(2,vp b1 0),(3,vi r3),(4,vi p1.E),(5,vs a4 r1.1.length c5),(8,vp b2 0),(9,vp b3 0),(39,vp b3 3),(40,vi p1.E),(41,(vb (!decide (p1.E=0)))),(42,(Value.agg #[vi 0,(aE ([]:List UInt8)),vi 0,vi 0,vi 0,vi 0,vi 0,vi 0,vi 0,vi 0,vs none 0 0,vs none 0 0,vs none 0 0])),(43,(aE s1)),(44,vs a4 r1.1.length c5),(45,vp b3 4),(46,vi p1.Pos),(47,vi r3),(48,vp b3 3),(49,vi p1.E)]) (fun x w=>Bun du F w0 x w [MO.box b1 39 #[vi 0,(aE ([]:List UInt8)),vi 0,vi 0,vi 0,vi 0,vi 0,vi 0,vi 0,vi 0,vs none 0 0,vs none 0 0,vs none 0 0],MO.box b2 39 (aq r2.1 a5 c7 a6 c8 a7 c9),MO.box b3 72 (ab p1 a9 c15)] [Cl.sl ag a9 c15 p1.L,Cl.sl ag a4 c5 r1.1,Cl.sl ai a5 c7 r2.1.Lin.L,Cl.sl ak a6 c8 r2.1.Idx,Cl.sl an a7 c9 r2.1.Args]) (fun x w=>SN [] (DM true F x) w) ?_ ?_
   ·clear hI;rintro c19 w13 hI
    try dsimp only at hI ⊢
    unfold ln
    refine oq ?_
    refine bb (aA ?_)
    have hI:=hI.add (c:=Cl.sl ai none 0 ([]:List GMono)) SlC.nil
    have hI:=hI.add (c:=Cl.sl ak none 0 ([]:List GIndex)) SlC.nil
    have hI:=hI.add (c:=Cl.sl an none 0 ([]:List GExpr)) SlC.nil
    obtain rfl:=aj h
    exact eV (vs:=[(Value.agg #[vi 0,(aE ([]:List UInt8)),vi 0,vi 0,vi 0,vi 0,vi 0,vi 0,vi 0,vi 0,vs none 0 0,vs none 0 0,vs none 0 0]),vi r3,vi p1.E]) Tryz.results19 ⟨⟨_,aK rfl rfl,ci (l:=[vi 0,(aE ([]:List UInt8)),vi 0,vi 0,vi 0,vi 0,vi 0,vi 0,vi 0,vi 0,vs none 0 0,vs none 0 0,vs none 0 0]) jT rfl aC (CellsAt.of_blk (hI.blk .z) rfl)⟩,⟨aK rfl rfl,⟨aK rfl rfl,trivial⟩⟩⟩ ⟨none,0,none,0,none,0,rfl,hI.ext0,hI.fin ⟨(.s (.s .z)),(.s .z),.z,trivial⟩⟩
   intro hk_tr_ref16_Expr_1_1
   refine cj (α:=NP) (T:=lp) (fun x=>[(0,(aE s1)),(2,vp b1 0),(5,vs a4 r1.1.length c5),(8,vp b2 0),(9,vp b3 0),(39,vp b3 3),(40,vi p1.E),(41,(vb (!decide (p1.E=0)))),(42,(Value.agg #[vi 0,(aE ([]:List UInt8)),vi 0,vi 0,vi 0,vi 0,vi 0,vi 0,vi 0,vi 0,vs none 0 0,vs none 0 0,vs none 0 0])),(43,(aE s1)),(44,vs a4 r1.1.length c5),(45,vp b3 4),(46,vi p1.Pos),(47,vi r3),(48,vp b3 3),(49,vi p1.E)]) (fun x w=>Bun du F w0 x w [MO.box b1 39 #[vi 0,(aE ([]:List UInt8)),vi 0,vi 0,vi 0,vi 0,vi 0,vi 0,vi 0,vi 0,vs none 0 0,vs none 0 0,vs none 0 0],MO.box b2 39 (aq r2.1 a5 c7 a6 c8 a7 c9),MO.box b3 72 (ab p1 a9 c15)] [Cl.sl ag a9 c15 p1.L,Cl.sl ag a4 c5 r1.1,Cl.sl ai a5 c7 r2.1.Lin.L,Cl.sl ak a6 c8 r2.1.Idx,Cl.sl an a7 c9 r2.1.Args]) (fun x w=>SN [8] (DM false F x) w) ?_ ?_
   ·clear hI;rintro c18 w12 hI
    try dsimp only at hI ⊢
    unfold lp
    refine bJ (F:=F) (C:=c18) rfl rfl ?_
    refine oJ (new:=[vi 0,(aE ([]:List UInt8)),vi 0,vi 0,vi 0,vi 0,vi 0,vi 0,vi 0,vi 0,vs none 0 0,vs none 0 0,vs none 0 0]) (cs':=#[vi 0,(aE ([]:List UInt8)),vi 0,vi 0,vi 0,vi 0,vi 0,vi 0,vi 0,vi 0,vs none 0 0,vs none 0 0,vs none 0 0]) hI .z rfl gn rfl rfl et et rfl aC rfl rfl rfl ?_
    clear hI;intro c17 w11 hI
    refine l6 rfl gn rfl (fun w'=>cy rfl et) ?_
    refine l6 rfl gn rfl (fun w'=>cy rfl et) ?_
    exact aW (hk_tr_ref16_Expr_1_1 c17 _ (hI.arr (.c .z (.c .z (.c .z .n))) ⟨.z,(.s .z),(.s (.s .z)),(.s (.s (.s .z))),(.s (.s (.s (.s .z)))),trivial⟩)) ⟨rfl,rfl,rfl,rfl,rfl,rfl,rfl,rfl,rfl,rfl,rfl,rfl,rfl,rfl,rfl,rfl,rfl,rfl,trivial⟩
   intro hk_tr_ref16_Expr_1_0
   refine l6 rfl gn rfl (fun w'=>(ax (vs:=[]) (cs:=#[vi 0,(aE ([]:List UInt8)),vi 0,vi 0,vi 0,vi 0,vi 0,vi 0,vi 0,vi 0,vs none 0 0,vs none 0 0,vs none 0 0]) rfl trivial (by kernel_rfl))) ?_
   refine l6 rfl gn rfl (fun w'=>ft rfl et) ?_
   refine l6 rfl gn rfl (fun w'=>ft rfl et) ?_
   refine l6 rfl gn rfl (fun w'=>aN rfl et j5 rfl jt rfl) ?_
   refine ct rfl gn rfl (fun w' hw'=>(bo (v:=(vi p1.Pos)) rfl et u3 rfl ((CA.blk (hI.blk (.s (.s .z))) rfl).at_ (SX.any rfl hw')))) (by kernel_rfl) ?_
   refine l6 rfl gn rfl (fun w'=>aN rfl et j5 rfl jK rfl) ?_
   refine da ?_ ?_
   ·skip
    refine dC rfl gn rfl (aF (vs:=[(aE s1),vs a4 r1.1.length c5,vi p1.Pos]) rfl F0 ⟨et,⟨et,⟨et,trivial⟩⟩⟩) (Calls.mono (qT (F:=(Dj F c16)) (w0:=w14) hI.lt (s1:=s1) (l1:=r1.1) (at1:=p1.Pos) (a1:=a4) (c1:=c5) ⟨(hI.get (.s .z)),trivial⟩ (r:=r3) hx5) ?_)
    rintro _ w10 ⟨rfl,hx6,hl3⟩
    refine⟨_,rfl,hx6,?_⟩
    replace hI:=(hI.ext hx6)
    refine da ?_ ?_
    ·skip
     refine bn rfl gn rfl (bo (v:=(vi p1.E)) rfl et AG rfl (CellsAt.of_blk (hI.blk (.s (.s .z))) rfl)) SX.self ?_
     exact aW (hk_tr_ref16_Expr_1_0 c16 _ (hI.arr (.c .z (.c .z (.c .z .n))) ⟨.z,(.s .z),(.s (.s .z)),(.s (.s (.s .z))),(.s (.s (.s (.s .z)))),trivial⟩)) ⟨rfl,rfl,rfl,rfl,rfl,rfl,rfl,rfl,rfl,rfl,rfl,rfl,rfl,rfl,rfl,rfl,trivial⟩
    refine bu (F:=F) (C:=c16) rfl rfl ?_
    refine oJ (new:=[vi 0,(aE ([]:List UInt8)),vi 0,vi 0,vi 0,vi 0,vi 0,vi 0,vi 0,vi 0,vs none 0 0,vs none 0 0,vs none 0 0]) (cs':=#[vi 0,(aE ([]:List UInt8)),vi 0,vi 0,vi 0,vi 0,vi 0,vi 0,vi 0,vi 0,vs none 0 0,vs none 0 0,vs none 0 0]) hI .z rfl gn rfl rfl et et rfl aC rfl rfl rfl ?_
    clear hI;intro c17 w11 hI
    refine l6 rfl gn rfl (fun w'=>cy rfl et) ?_
    refine bn rfl gn rfl (bo (v:=(vi p1.E)) rfl et AG rfl (CellsAt.of_blk (hI.blk (.s (.s .z))) rfl)) SX.self ?_
    refine l6 rfl gn rfl (fun w'=>cy rfl et) ?_
    exact aW (hk_tr_ref16_Expr_1_1 c17 _ (hI.arr (.c .z (.c .z (.c .z .n))) ⟨.z,(.s .z),(.s (.s .z)),(.s (.s (.s .z))),(.s (.s (.s (.s .z)))),trivial⟩)) ⟨rfl,rfl,rfl,rfl,rfl,rfl,rfl,rfl,rfl,rfl,rfl,rfl,rfl,rfl,rfl,rfl,rfl,rfl,trivial⟩
   refine bn rfl gn rfl (bo (v:=(vi p1.E)) rfl et AG rfl (CellsAt.of_blk (hI.blk (.s (.s .z))) rfl)) SX.self ?_
   refine dC rfl gn rfl (aF (vs:=[(aE s1),vs a4 r1.1.length c5,vi p1.Pos]) rfl F0 ⟨et,⟨et,⟨et,trivial⟩⟩⟩) (Calls.mono (qT (F:=(Dj F c16)) (w0:=w14) hI.lt (s1:=s1) (l1:=r1.1) (at1:=p1.Pos) (a1:=a4) (c1:=c5) ⟨(hI.get (.s .z)),trivial⟩ (r:=r3) hx5) ?_)
   rintro _ w10 ⟨rfl,hx6,hl3⟩
   refine⟨_,rfl,hx6,?_⟩
   replace hI:=(hI.ext hx6)
   exact aW (hk_tr_ref16_Expr_1_0 c16 _ (hI.arr (.c .z (.c .z (.c .z .n))) ⟨.z,(.s .z),(.s (.s .z)),(.s (.s (.s .z))),(.s (.s (.s (.s .z)))),trivial⟩)) ⟨rfl,rfl,rfl,rfl,rfl,rfl,rfl,rfl,rfl,rfl,rfl,rfl,rfl,rfl,rfl,rfl,trivial⟩
  refine bf (bb (sr (sq (am (l:=(aX r2.1 a5 c7 a6 c8 a7 c9)) rfl et jT rfl aC (CellsAt.of_blk (hI.blk (.s .z)) rfl)) ?_)))
  refine ba (new:=(aX r2.1 a5 c7 a6 c8 a7 c9)) (cs':=(aq r2.1 a5 c7 a6 c8 a7 c9)) hI .z gn rfl rfl et et rfl aC rfl rfl rfl ?_
  clear hI;intro c20 w15 hI
  refine rJ ?_
  refine rJ ?_
  refine nk (aA ?_)
  obtain rfl:=aj h
  exact eV (vs:=[(Value.agg (aq r2.1 a5 c7 a6 c8 a7 c9)),vi 0,vi 0]) Tryz.results19 ⟨⟨_,aK rfl rfl,ci (l:=(aX r2.1 a5 c7 a6 c8 a7 c9)) jT rfl aC (CellsAt.of_blk (hI.blk .z) rfl)⟩,⟨aK rfl rfl,⟨aK rfl rfl,trivial⟩⟩⟩ ⟨a5,c7,a6,c8,a7,c9,rfl,hI.ext0,hI.fin ⟨(.s (.s .z)),(.s (.s (.s .z))),(.s (.s (.s (.s .z)))),trivial⟩⟩
 refine sr (sq (aN rfl et j5 rfl jK rfl) ?_)
 refine sq (bo (v:=(vi r2.2.E)) rfl et AG rfl (CellsAt.of_blk (hI.blk .z) rfl)) ?_
 refine sq (zp rfl et ao) ?_
 refine sm ?_
 refine az (aT rfl rfl rfl rfl) rfl (fun hc=>aN rfl et j5 rfl jt rfl) ?_
 refine az (aT rfl rfl rfl rfl) rfl (fun hc=>(bo (v:=(vi r2.2.At)) rfl (aQ et hc) u3 rfl (CellsAt.of_blk (hI.blk .z) rfl))) ?_
 refine az (aT rfl rfl rfl rfl) rfl (fun hc=>ft rfl et) ?_
 refine az (aT rfl rfl rfl rfl) rfl (fun hc=>nK rfl HT (aQ et hc)) ?_
 refine az (aT rfl rfl rfl rfl) rfl (fun hc=>qE rfl (aQ et hc) (aQ et hc)) ?_
 refine sq (rG rfl et et) ?_
 refine aM ?_
 refine nR (e:=[(0,(aE s1)),(2,vp b1 0),(5,vs a4 r1.1.length c5),(8,vp b2 0),(9,vp b3 0),(36,(vb ((decide (r2.2.E=0))&&(decide (r2.2.At<(r1.1.length:Int))))))]) ⟨rfl,rfl,rfl,rfl,rfl,rfl,trivial⟩ ?_
 refine vm h et (fun hb h=> ?_) (fun hb h=> ?_)
 ·refine kz rfl ?_
  refine sq (am (l:=(ah r2.2 a8 c10)) rfl et j5 rfl aG (CellsAt.of_blk (hI.blk .z) rfl)) ?_
  obtain⟨r4,hx7,h⟩:=ae h
  refine aB gn rfl (aF (vs:=[(Value.agg (ab r2.2 a8 c10))]) rfl H9 ⟨et,trivial⟩) (Calls.mono (lc (F:=(Dj F c14)) (w0:=w8) hI.lt (p1:=r2.2) (a1:=a8) (c1:=c10) ⟨(hI.get (.s (.s (.s .z)))),trivial⟩ (r:=r4) hx7) ?_)
  rintro _ w16 ⟨a10,c21,rfl,hx8,hl4⟩
  refine⟨_,rfl,?_⟩
  replace hI:=(hI.ext hx8).adds hl4
  refine ba (new:=(ah r4 a10 c21)) (cs':=(ab r4 a10 c21)) hI .z gn rfl rfl et et rfl aG rfl rfl rfl ?_
  clear hI;intro c22 w17 hI
  refine aM ?_
  exact bi (r4,a10,c21) ⟨rfl,rfl,rfl,rfl,rfl,trivial⟩ ⟨_,hI.arr (.c (.s (.s .z)) (.c (.s .z) (.c .z .n))) ⟨.z,(.s (.s (.s (.s (.s .z))))),(.s .z),(.s (.s .z)),(.s (.s (.s .z))),trivial⟩,h⟩ rfl
 exact bf (bi (r2.2,a8,c10) ⟨rfl,rfl,rfl,rfl,rfl,trivial⟩ ⟨_,hI.arr (.c (.s (.s .z)) (.c (.s .z) (.c .z .n))) ⟨(.s (.s (.s .z))),(.s (.s (.s (.s .z)))),.z,(.s .z),(.s (.s .z)),trivial⟩,h⟩ rfl)
theorem rD (F:NP) (w0:World) (hF:∀ k,F k→k<w0.heap.size) (s1:List UInt8) (hc:AllCl [av] F w0) (r:Bool)
  (h:j3 s1=some r):
  Calls Tryz.prog 5 #[(aE s1)] w0 fun e w=>e= .returned (vb r)∧Ext w0 w∧AllCl [] F w:=by
 refine EN Tryz.func5 Tryz.ntmps5 hF hc fun hI=> ?_
 rw[j3]at h
 refine T ?_
 refine al (T ?_)
 refine TC (fun hb h=> ?_) fun hb h=> ?_
 ·refine sr ?_
  obtain⟨r1,hx1,h⟩:=ae h
  refine aB gn rfl (aF (vs:=[]) rfl Id trivial) (Calls.mono (pM hI.lt FS hx1) ?_)
  rintro _ w1 ⟨rfl,hx2,hl1⟩
  refine⟨_,rfl,?_⟩
  replace hI:=(hI.ext hx2)
  exact RF
 refine T ?_
 obtain⟨r2,hx3,h⟩:=ae h
 refine aB gn rfl (aF (vs:=[(aE s1)]) rfl zZ ⟨et,trivial⟩) (Calls.mono (mI hI.lt FS hx3) ?_)
 rintro _ w2 ⟨a1,c1,a2,c2,a3,c3,rfl,hx4,hl2⟩
 refine⟨_,rfl,?_⟩
 replace hI:=(hI.ext hx4).adds hl2;dsimp only[ca,na]at hI
 refine T ?_
 refine lN fun b1 c4 w3 hI=> ?_
 refine lA fun c5 w4 hI=> ?_
 refine T ?_
 obtain⟨r3,hx5,h⟩:=ae h
 refine aB gn rfl (aF (vs:=[(aE s1)]) rfl Ib ⟨et,trivial⟩) (Calls.mono (yN hI.lt trivial hx5) ?_)
 rintro _ w5 ⟨a4,c6,a5,c7,a6,c8,rfl,hx6,hl3⟩
 refine⟨_,rfl,?_⟩
 replace hI:=(hI.ext hx6).adds hl3;dsimp only[ca,na]at hI
 refine T ?_
 refine lN fun b2 c9 w6 hI=> ?_
 refine lA fun c10 w7 hI=> ?_
 refine T ?_
 obtain⟨r4,hx7,h⟩:=ae h
 refine aB gn rfl (aF (vs:=[(Value.agg (aq r2.1 a1 c1 a2 c2 a3 c3)),(Value.agg (aq r3.1 a4 c6 a5 c7 a6 c8))]) rfl F5 ⟨et,⟨et,trivial⟩⟩) (Calls.mono (AA hI.lt FS hx7) ?_)
 rintro _ w8 ⟨rfl,hx8,hl4⟩
 refine⟨_,rfl,?_⟩
 replace hI:=(hI.ext hx8)
 refine T ?_
 obtain⟨r5,hx9,h⟩:=ae h
 replace hx9:=ay hx9
 refine sU (fun hc=>pM hI.lt FS (hx9 hc)) (Rg Tryz.func11) fun w9 hI=> ?_
 exact RF
end Go.Proofs.YtmhoikfoogemnaaGreatDoor
