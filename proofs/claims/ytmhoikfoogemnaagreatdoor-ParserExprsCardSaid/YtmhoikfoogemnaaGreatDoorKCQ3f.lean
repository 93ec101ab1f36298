import Derived.Test.YtmhoikfoogemnaaGreatDoorKCQ3e
import Derived.Test.YtmhoikfoogemnaaGreatDoorKLfJ
namespace Go.Proofs.YtmhoikfoogemnaaGreatDoor
open Go Go.RowKit Go.Vc
set_option maxRecDepth 100000
set_option maxHeartbeats 4000000
set_option linter.unusedVariables false
set_option linter.unusedSimpArgs false
variable {σ:Type} {C0 F:NP} {w0:World} {a1 a2 a3 a4 a5 a6 a7 a8 a9 a10 a11 a12:Option Addr} {b1 b2 b3 b4 b5 b6 b7 b8 b9 b10 b11 b12 c1 c2 c3 c4 c5 c6 c7 c8 c9 c10 c11 c12:Nat}
theorem rR (hF:dG F w0) {l1:GLin} {name1:List UInt8} (hc:AllCl [Cl.sl ai a1 c1 l1.L] F w0) {r:Int} (h:mA l1 name1=some r):CR F w0 192 #[(Value.agg (bQ l1 a1 c1)),(aE name1)] (vi r) []:=by
 refine EN Tryz.func192 Tryz.ntmps192 hF hc fun hI=> ?_
 rw[mA]at h
 refine sr (lX fun b1 c3 w1 hI=> ?_)
 refine T ?_
 refine al (T ?_)
 refine bh (α:=Nat×Int) (fun x=>fun w=>∃ C,Bun du F w0 C w [] [Cl.blk b1 27 (bQ l1 a1 c1),Cl.sl ai a1 c1 l1.L]∧fX l1 name1 (x.1) (x.2)=some r) (fun x _=>x.1) (fun x=>[(1,(aE name1)),(2,vp b1 0),(5,vi (x.2))]) (fu,0) BH SB ?_
 clear h hI;rintro⟨fuel1,i1⟩ w2 ⟨c4,hI,h⟩
 dsimp only at hI h ⊢
 rcases fuel1 with _ | fuel1
 ·rw[fX]at h;cases h
 rw[fX]at h
 refine al (T ?_)
 refine TC (fun hb h=> ?_) fun hb h=> ?_
 ·refine T ?_
  refine al (T ?_)
  obtain⟨e1,hx1,h⟩:=ae h
  obtain⟨ad1,cs1,hA1,hr1,hq1⟩:=hI.clat (.s .z) hx1
  obtain rfl:cs1=(ky e1):=hr1
  refine sI ?_
  refine TC (fun hb h=> ?_) fun hb h=> ?_
  ·refine T ?_
   obtain⟨e2,hx2,h⟩:=ae h
   obtain⟨ad2,cs2,hA2,hr2,hq2⟩:=hI.clat (.s .z) hx2
   obtain rfl:cs2=(ky e2):=hr2
   refine sI ?_
   exact RF
  refine T ?_
  refine aM ?_
  exact kl (fuel1,ar (i1+1))
 refine bk ?_
 refine eU ?_
 refine bb ?_
 exact RF
theorem Au (hF:dG F w0) {a1 b1:GLin} (hc:AllCl [Cl.sl ai a2 c1 a1.L,Cl.sl ai a3 c2 b1.L] F w0) {r:GLin×Int} (h:mP a1 b1=some r):Cg 139 #[(Value.agg (bQ a1 a2 c1)),(Value.agg (bQ b1 a3 c2))] w0 fun e w=>∃ a4 c3,e= .returned (Value.tuple #[(Value.agg (bQ r.1 a4 c3)),vi r.2])∧Ext w0 w∧AllCl [Cl.sl ai a4 c3 r.1.L] F w:=by
 refine EN Tryz.func139 Tryz.ntmps139 hF hc fun hI=> ?_
 rw[mP]at h
 refine sr (lX fun b2 c5 w1 hI=> ?_)
 refine lX fun b3 c7 w2 hI=> ?_
 refine lN fun b4 c8 w3 hI=> ?_
 refine T ?_
 refine al (sr (sq (am (l:=(gc a1 a2 c1)) rfl et oy rfl bt (hI.kblk (l:=(gc a1 a2 c1)) (.s .z) rfl).1) ?_))
 refine sB h (fun _ k=>nS hI.lt FS k) (Rc Tryz.func170) fun r1 w4 h hI=> ?_
 refine T ?_
 refine az (cq rfl rfl rfl rfl) rfl (fun hc=>(am (l:=(gc b1 a3 c2)) rfl et oy rfl bt (hI.kblk (l:=(gc b1 a3 c2)) .z rfl).1)) ?_
 obtain⟨r2,hx3,h⟩:=ae h
 replace hx3:=ay hx3
 refine sU (fun hc=>nS hI.lt FS (hx3 hc)) (Rg Tryz.func170) fun w5 hI=> ?_
 refine TC (fun hb h=> ?_) fun hb h=> ?_
 ·refine sr (sq (ax (vs:=[]) (cs:=#[vi 0,vs none 0 0]) rfl trivial (by kernel_rfl)) ?_)
  refine lA fun c9 w6 hI=> ?_
  refine T ?_
  refine aA ?_
  have hI:=hI.add (c:=Cl.sl ai none 0 ([]:List GMono)) SlC.nil
  obtain rfl:=aj h
  refine QG ?_
  exact⟨none,0,rfl,hI.ext0,hI.fin ⟨.z,trivial⟩⟩
 refine T ?_
 refine sB h (fun _ k=>rb hI.lt trivial k) (Rc Tryz.func190) fun r3 w7 h hI=> ?_
 refine T ?_
 refine al (T ?_)
 refine TC (fun hb h=> ?_) fun hb h=> ?_
 ·refine sr (sq (ax (vs:=[]) (cs:=#[vi 0,vs none 0 0]) rfl trivial (by kernel_rfl)) ?_)
  refine lA fun c10 w8 hI=> ?_
  refine T ?_
  refine aA ?_
  have hI:=hI.add (c:=Cl.sl ai none 0 ([]:List GMono)) SlC.nil
  obtain rfl:=aj h
  refine QG ?_
  exact⟨none,0,rfl,hI.ext0,hI.fin ⟨.z,trivial⟩⟩
 refine T ?_
 refine sq (ax (vs:=[(0,vi r3.1)]) (cs:=#[vi r3.1,vs none 0 0]) rfl ⟨rfl,et,trivial⟩ (by kernel_rfl)) ?_
 refine lN fun b5 c11 w9 hI=> ?_
 refine lA fun c12 w10 hI=> ?_
 refine T ?_
 refine sq (am (l:=(gc a1 a2 c1)) rfl et oy rfl bt (hI.kblk (l:=(gc a1 a2 c1)) (.s .z) rfl).1) ?_
 refine sq (am (l:=(gc b1 a3 c2)) rfl et oy rfl bt (hI.kblk (l:=(gc b1 a3 c2)) .z rfl).1) ?_
 refine ll hI fS ([a1,b1]:List GLin) pd (.cs ⟨a2,c1,rfl,hI.get (.s (.s .z))⟩ (.cs ⟨a3,c2,rfl,hI.get (.s (.s (.s .z)))⟩ .nl)) fun b6 c13 w11 hI=> ?_
 obtain⟨c14,hI⟩:=hI.release .z
 obtain⟨r4,hx7,h⟩:=ae h
 refine aB gn rfl (Rc Tryz.func191) (Calls.mono (xx hI.lt FS hx7) ?_)
 rintro _ w12 ⟨a5,c15,rfl,hx8,hl4⟩
 refine⟨_,rfl,?_⟩
 replace hI:=(hI.ext hx8).adds hl4;dsimp only[ca,na]at hI
 refine T ?_
 refine al (T ?_)
 have hI:=hI.nil ai 64 none
 refine bh (α:=Nat×Int×GLin×(Option Addr)×Nat) (fun x=>fun w=>∃ C,Bun du F w0 C w [MO.row ai 64 (x.2.2.2.1) (x.2.2.2.2) (x.2.2.1).L,MO.box b4 27 #[vi 0,vs none 0 0],MO.box b5 27 (bQ (x.2.2.1) (x.2.2.2.1) (x.2.2.2.2))] [Cl.blk b2 27 (bQ a1 a2 c1),Cl.sl ai a2 c1 a1.L,Cl.blk b3 27 (bQ b1 a3 c2),Cl.sl ai a3 c2 b1.L,Cl.sl dF a5 c15 r4]∧dw r4 a1 b1 (x.1) (x.2.1) (x.2.2.1)=some r) (fun x _=>x.1) (fun x=>[(2,vp b2 0),(3,vp b3 0),(4,vp b4 0),(8,vp b5 0),(9,vs a5 r4.length c15),(10,vi (x.2.1))]) (fu,0,(⟨r3.1,([]:List GMono)⟩:GLin),none,0) ⟨_,hI.arr (.c .z (.c (.s .z) (.c .z .n))) ⟨(.s (.s (.s .z))),(.s (.s (.s (.s .z)))),(.s (.s .z)),(.s (.s (.s (.s (.s .z))))),.z,trivial⟩,h⟩ SB ?_
 clear h hI;rintro⟨fuel1,i1,bg,a6,c16⟩ w13 ⟨c17,hI,h⟩
 dsimp only at hI h ⊢
 rcases fuel1 with _ | fuel1
 ·rw[dw]at h;cases h
 rw[dw]at h
 refine al (T ?_)
 refine TC (fun hb h=> ?_) fun hb h=> ?_
 ·refine T ?_
  refine bw (α:=GLin×(Option Addr)×Nat) (fun _=>⟨78,[]⟩) (fun x=>[(2,vp b2 0),(3,vp b3 0),(4,vp b4 0),(8,vp b5 0),(9,vs a5 r4.length c15),(10,vi i1)]) (fun x=>fun w=>∃ C,Bun du F w0 C w [MO.row ai 64 (x.2.1) (x.2.2) (x.1).L,MO.box b4 27 #[vi 0,vs none 0 0],MO.box b5 27 (bQ (x.1) (x.2.1) (x.2.2))] [Cl.blk b2 27 (bQ a1 a2 c1),Cl.sl ai a2 c1 a1.L,Cl.blk b3 27 (bQ b1 a3 c2),Cl.sl ai a3 c2 b1.L,Cl.sl dF a5 c15 r4]∧kb (dw r4 a1 b1 fuel1) i1 (x.1)=some r) ?_ ?_
  ·clear h hI;rintro⟨out2,a7,c18⟩ w14 ⟨c19,hI,h⟩
   try dsimp only at hI h ⊢
   rw[kb]at h
   refine T ?_
   refine aM ?_
   exact jY (fuel1,ar (i1+1),out2,a7,c18) SB ⟨_,hI.arr GO SU,h⟩ (Nat.lt_succ_self _)
  refine T ?_
  refine al (aI [] false (.c (0,.q) (.c (1,.q) (.c (2,.q) (.c (3,.q) (.c (4,.q) (.c (6,.q) (.c (7,.q) (.c (8,.q) (.c (9,.q) (.c (10,.q) (.c (5,.s) (.c (11,.s) (.c (12,.s) (.c (13,.q) (.c (14,.q) (.c (15,.q) (.c (16,.q) (.c (17,.q) .n)))))))))))))))))) hI (by kernel_rfl) (by kernel_rfl) ?_)
  intro w15 hI
  refine ct rfl gn rfl (fun w' hw'=>(am (l:=(gc a1 a2 c1)) rfl et oy rfl bt ((hI.kblk (l:=(gc a1 a2 c1)) .z rfl).at_ (SX.any rfl hw')))) (by kernel_rfl) ?_
  refine V ?_
  obtain⟨e1,hx9,h⟩:=ae h
  obtain⟨ad1,cs1,hA1,hr1,hq1⟩:=hI.clat (.s (.s (.s (.s .z)))) hx9
  obtain rfl:cs1=[(aE e1)]:=hr1
  refine vI ?_
  refine V ?_
  refine ct rfl gn rfl (fun w' hw'=>(am (l:=(gc b1 a3 c2)) rfl et oy rfl bt ((hI.kblk (l:=(gc b1 a3 c2)) (.s (.s .z)) rfl).at_ (SX.any rfl hw')))) (by kernel_rfl) ?_
  refine V ?_
  obtain⟨e2,hx10,h⟩:=ae h
  obtain⟨ad2,cs2,hA2,hr2,hq2⟩:=hI.clat (.s (.s (.s (.s .z)))) hx10
  obtain rfl:cs2=[(aE e2)]:=hr2
  refine vI ?_
  refine V ?_
  obtain⟨r5,hx11,h⟩:=ae h
  refine dC rfl gn rfl (aF (vs:=[(Value.agg (bQ a1 a2 c1)),(aE e1)]) rfl D6 ⟨et,⟨et,trivial⟩⟩) (Calls.mono (rR hI.lt FS hx11) ?_)
  rintro _ w16 ⟨rfl,hx12,hl5⟩
  refine⟨_,rfl,hx12,?_⟩
  replace hI:=(hI.ext hx12)
  obtain⟨r6,hx13,h⟩:=ae h
  refine dC rfl gn rfl (aF (vs:=[(Value.agg (bQ b1 a3 c2)),(aE e2)]) rfl D6 ⟨et,⟨et,trivial⟩⟩) (Calls.mono (rR hI.lt FS hx13) ?_)
  rintro _ w17 ⟨rfl,hx14,hl6⟩
  refine⟨_,rfl,hx14,?_⟩
  replace hI:=(hI.ext hx14)
  obtain⟨r7,hx15,h⟩:=ae h
  refine dC rfl gn rfl (aF (vs:=[vi r5,vi r6]) rfl G4 ⟨et,⟨et,trivial⟩⟩) (Calls.mono (rb hI.lt trivial hx15) ?_)
  rintro _ w18 ⟨rfl,hx16,hl7⟩
  refine⟨_,rfl,hx16,?_⟩
  replace hI:=(hI.ext hx16)
  refine V ?_
  refine al (T ?_)
  refine TC (fun hb h=> ?_) fun hb h=> ?_
  ·refine sr (sq (ax (vs:=[]) (cs:=#[vi 0,vs none 0 0]) rfl trivial (by kernel_rfl)) ?_)
   refine lA fun c20 w19 hI=> ?_
   refine T ?_
   refine aA ?_
   have hI:=hI.add (c:=Cl.sl ai none 0 ([]:List GMono)) SlC.nil
   obtain rfl:=aj h
   refine QG ?_
   exact⟨none,0,rfl,hI.ext0,hI.fin ⟨.z,trivial⟩⟩
  refine TC (fun hb h=> ?_) fun hb h=> ?_
  ·refine aI [9,11] false (.c (0,.q) (.c (1,.q) (.c (2,.q) (.c (3,.q) (.c (4,.q) (.c (5,.q) (.c (6,.q) (.c (7,.q) (.c (8,.s) (.c (9,.s) (.c (10,.q) (.c (11,.s) .n)))))))))))) hI (by kernel_rfl) (by kernel_rfl) ?_
   intro w20 hI
   refine V ?_
   obtain⟨e3,hx17,h⟩:=ae h
   obtain⟨ad3,cs3,hA3,hr3,hq3⟩:=hI.clat (.s (.s (.s (.s .z)))) hx17
   obtain rfl:cs3=[(aE e3)]:=hr3
   refine vI ?_
   refine V ?_
   refine l6 rfl gn rfl (fun w'=>(ax (vs:=[(0,(aE e3)),(1,vi r7.1)]) (cs:=#[(aE e3),vi r7.1]) rfl ⟨rfl,et,⟨rfl,et,trivial⟩⟩ (by kernel_rfl))) ?_
   refine vl hI ai ([(⟨e3,r7.1⟩:GMono)]:List GMono) nu Rr fun b7 c21 w21 hI=> ?_
   refine bJ (F:=F) (C:=c21) rfl rfl ?_
   obtain⟨zs1,hx18,h⟩:=ae h
   refine rp (xs:=bg.L) (ys:=([(⟨e3,r7.1⟩:GMono)]:List GMono)) hI (.s .z) (hI.rd .z) hx18 rfl gn rfl rfl Cn nu rfl rfl et et ?_
   intro a8 c22 c23 w22 hI
   refine V ?_
   refine vS fun c24 w23 hI=> ?_
   refine oq ?_
   exact bi ((⟨bg.K,zs1⟩:GLin),a8,c22) SB ⟨_,hI.arr GO SU,h⟩ rfl
  exact bf (bi (bg,a6,c16) SB ⟨_,hI.arr GO SU,h⟩ rfl)
 refine bk ?_
 refine eU ?_
 refine bb ?_
 refine T ?_
 refine lA fun c25 w24 hI=> ?_
 refine T ?_
 refine aA ?_
 obtain⟨c26,hI⟩:=hI.release .z
 obtain rfl:=aj h
 refine QG ?_
 exact⟨a6,c16,rfl,hI.ext0,hI.fin ⟨.z,trivial⟩⟩
def li:Tr:=(.c (3,.s) .n)
def lh:Tr:=(.c (3,.s) .n)
theorem tc (hF:dG F w0) {p1:ac} {f1:GLin} {negative1:Bool} (hc:AllCl [Cl.sl ag a1 c1 p1.L,Cl.sl ai a2 c2 f1.L] F w0) {r:GLin×ac} (h:ew p1 f1 negative1=some r):Cg 73 #[(Value.agg (ab p1 a1 c1)),(Value.agg (bQ f1 a2 c2)),vb negative1] w0 fun e w=>∃ a3 c3 a4 c4,e= .returned (Value.tuple #[(Value.agg (bQ r.1 a3 c3)),(Value.agg (ab r.2 a4 c4))])∧Ext w0 w∧AllCl [Cl.sl ai a3 c3 r.1.L,Cl.sl ag a4 c4 r.2.L] F w:=by
 refine EN Tryz.func73 Tryz.ntmps73 hF hc fun hI=> ?_
 rw[ew]at h
 refine sr (mS (v:=(Value.agg (ab p1 a1 c1))) (cs:=(ab p1 a1 c1)) hI gn rfl rfl et rfl ?_)
 intro b1 c5 w1 hI
 refine lX fun b2 c7 w2 hI=> ?_
 refine lN fun b3 c8 w3 hI=> ?_
 refine lN fun b4 c9 w4 hI=> ?_
 refine T ?_
 refine sq (ax (vs:=[(0,vi 1)]) (cs:=#[vi 1,vs none 0 0]) rfl ⟨rfl,ao,trivial⟩ (by kernel_rfl)) ?_
 refine lN fun b5 c10 w5 hI=> ?_
 refine lA fun c11 w6 hI=> ?_
 refine nk (bw (α:=(List UInt8)×GLin×ac×(Option Addr)×Nat×(Option Addr)×Nat) (fun _=>⟨90,[]⟩) (fun x=>[(2,vb negative1),(3,vp b1 0),(4,vp b2 0),(6,vp b3 0),(7,vp b4 0),(8,vi p1.At),(9,(aE (x.1))),(10,vp b5 0)]) (fun x=>fun w=>∃ C,Bun du F w0 C w [MO.box b1 72 (ab (x.2.2.1) (x.2.2.2.2.2.1) (x.2.2.2.2.2.2)),MO.box b3 27 #[vi 0,vs none 0 0],MO.box b4 72 au,MO.box b5 27 (bQ (x.2.1) (x.2.2.2.1) (x.2.2.2.2.1))] [Cl.sl ai (x.2.2.2.1) (x.2.2.2.2.1) (x.2.1).L,Cl.sl ag (x.2.2.2.2.2.1) (x.2.2.2.2.2.2) (x.2.2.1).L,Cl.blk b2 27 (bQ f1 a2 c2),Cl.sl ai a2 c2 f1.L]∧bl negative1 f1 p1 (x.1) (x.2.1) (x.2.2.1)=some r) ?_ ?_)
 ·clear h hI;rintro⟨s1,x1,p2,a5,c12,a6,c13⟩ w7 ⟨c14,hI,h⟩
  try dsimp only at hI h ⊢
  rw[bl]at h
  refine al (T ?_)
  refine TC (fun hb h=> ?_) fun hb h=> ?_
  ·refine al (aI [2,3] false (.c (0,.q) (.two 1 (.c (2,.s) li) 2 (.c (1,.s) li))) hI (by kernel_rfl) (by kernel_rfl) ?_)
   intro w11 hI
   refine cj (α:=NP) (T:=li) (fun x=>[(2,vb negative1),(3,vp b1 0),(4,vp b2 0),(6,vp b3 0),(7,vp b4 0),(8,vi p1.At),(9,(aE s1)),(10,vp b5 0),(55,vp b1 3),(56,vi p2.E),(57,(vb (!decide (p2.E=0)))),(58,(Value.agg #[vi 0,vs none 0 0])),(59,(Value.agg (ab p2 a6 c13)))]) (fun x w=>Bun du F w0 x w [MO.box b1 72 (ab p2 a6 c13),MO.box b3 27 #[vi 0,vs none 0 0],MO.box b4 72 au,MO.box b5 27 (bQ x1 a5 c12)] [Cl.sl ai a5 c12 x1.L,Cl.sl ag a6 c13 p2.L,Cl.blk b2 27 (bQ f1 a2 c2),Cl.sl ai a2 c2 f1.L]) (fun x w=>SN [] (DM true F x) w) ?_ ?_
   ·clear hI;rintro c17 w10 hI
    try dsimp only at hI ⊢
    unfold li
    refine vA fun c16 w9 hI=> ?_
    refine V ?_
    refine aA ?_
    have hI:=hI.add (c:=Cl.sl ai none 0 ([]:List GMono)) SlC.nil
    obtain rfl:=aj h
    exact eV (vs:=[(Value.agg #[vi 0,vs none 0 0]),(Value.agg (ab p2 a6 c13))]) Tryz.results73 ⟨⟨_,aK rfl rfl,ci (l:=[vi 0,vs none 0 0]) oy rfl bt (CellsAt.of_blk (hI.blk (.s .z)) rfl)⟩,⟨⟨_,aK rfl rfl,ci (l:=(ah p2 a6 c13)) j5 rfl aG (CellsAt.of_blk (hI.blk (.s (.s .z))) rfl)⟩,trivial⟩⟩ ⟨none,0,a6,c13,rfl,hI.ext0,hI.fin ⟨.z,(.s (.s .z)),trivial⟩⟩
   intro hk_tr_ref16_term_1_0
   refine l6 rfl gn rfl (fun w'=>ax (vs:=[]) (cs:=#[vi 0,vs none 0 0]) rfl trivial (by kernel_rfl)) ?_
   refine da ?_ ?_
   ·skip
    refine bn rfl gn rfl (am (l:=(ah p2 a6 c13)) rfl et j5 rfl aG (CellsAt.of_blk (hI.blk .z) rfl)) SX.self ?_
    refine bJ (F:=F) (C:=c14) rfl rfl ?_
    refine vA fun c15 w8 hI=> ?_
    exact aW (hk_tr_ref16_term_1_0 c15 _ (hI.arr (.c .z (.c .z (.c .z (.c .z .n)))) ⟨.z,(.s .z),(.s (.s .z)),(.s (.s (.s .z))),trivial⟩)) ⟨rfl,rfl,rfl,rfl,rfl,rfl,rfl,rfl,rfl,rfl,rfl,rfl,rfl,trivial⟩
   refine bu (F:=F) (C:=c14) rfl rfl ?_
   refine vA fun c15 w8 hI=> ?_
   refine bn rfl gn rfl (am (l:=(ah p2 a6 c13)) rfl et j5 rfl aG (CellsAt.of_blk (hI.blk .z) rfl)) SX.self ?_
   exact aW (hk_tr_ref16_term_1_0 c15 _ (hI.arr (.c .z (.c .z (.c .z (.c .z .n)))) ⟨.z,(.s .z),(.s (.s .z)),(.s (.s (.s .z))),trivial⟩)) ⟨rfl,rfl,rfl,rfl,rfl,rfl,rfl,rfl,rfl,rfl,rfl,rfl,rfl,trivial⟩
  refine T ?_
  refine sB h (fun _ k=>qS hI.lt trivial k) (Rc Tryz.func137) fun r1 w12 h hI=> ?_
  refine T ?_
  obtain⟨r2,hx3,h⟩:=ae h
  refine aB gn rfl (Rc Tryz.func138) (Calls.mono (xw hI.lt FS hx3) ?_)
  rintro _ w13 ⟨a7,c18,rfl,hx4,hl2⟩
  refine⟨_,rfl,?_⟩
  replace hI:=(hI.ext hx4).adds hl2;dsimp only[ca,na]at hI
  refine T ?_
  refine lA fun c19 w14 hI=> ?_
  refine T ?_
  refine sq (am (l:=(gc f1 a2 c2)) rfl et oy rfl bt (hI.kblk (l:=(gc f1 a2 c2)) (.s (.s (.s .z))) rfl).1) ?_
  refine T ?_
  obtain⟨r3,hx5,h⟩:=ae h
  refine aB gn rfl (Rc Tryz.func139) (Calls.mono (Au hI.lt FS hx5) ?_)
  rintro _ w15 ⟨a8,c20,rfl,hx6,hl3⟩
  refine⟨_,rfl,?_⟩
  replace hI:=(hI.ext hx6).adds hl3;dsimp only[ca,na]at hI
  refine T ?_
  refine lN fun b6 c21 w16 hI=> ?_
  refine lA fun c22 w17 hI=> ?_
  refine T ?_
  refine al (T ?_)
  refine TC (fun hb h=> ?_) fun hb h=> ?_
  ·refine sr (sq (ax (vs:=[]) (cs:=#[vi 0,vs none 0 0]) rfl trivial (by kernel_rfl)) ?_)
   refine T ?_
   obtain⟨r4,hx7,h⟩:=ae h
   refine aB gn rfl (Rc Tryz.func81) (Calls.mono (jS hI.lt FS hx7) ?_)
   rintro _ w18 ⟨a9,c23,rfl,hx8,hl4⟩
   refine⟨_,rfl,?_⟩
   replace hI:=(hI.ext hx8).adds hl4;dsimp only[ca,na]at hI
   refine lA fun c24 w19 hI=> ?_
   refine lA fun c25 w20 hI=> ?_
   refine nk (aA ?_)
   have hI:=hI.add (c:=Cl.sl ai none 0 ([]:List GMono)) SlC.nil
   obtain rfl:=aj h
   exact eV (vs:=[(Value.agg #[vi 0,vs none 0 0]),(Value.agg (ab r4 a9 c23))]) Tryz.results73 ⟨⟨_,aK rfl rfl,ci (l:=[vi 0,vs none 0 0]) oy rfl bt (CellsAt.of_blk (hI.blk (.s (.s .z))) rfl)⟩,⟨⟨_,aK rfl rfl,ci (l:=(ah r4 a9 c23)) j5 rfl aG (CellsAt.of_blk (hI.blk (.s (.s (.s .z)))) rfl)⟩,trivial⟩⟩ ⟨none,0,a9,c23,rfl,hI.ext0,hI.fin ⟨.z,(.s .z),trivial⟩⟩
  refine T ?_
  refine al (aI [2,3] false (.c (0,.q) (.two 1 (.c (2,.s) lh) 2 (.c (1,.s) lh))) hI (by kernel_rfl) (by kernel_rfl) ?_)
  intro w24 hI
  refine cj (α:=NP) (T:=lh) (fun x=>[(3,vp b1 0),(6,vp b3 0),(7,vp b4 0),(8,vi p1.At),(18,vb r1.2),(19,vp b6 0),(20,vi r3.2),(78,vb r1.2),(79,vb (!r1.2)),(80,vb (!r1.2)),(81,(gv (!(!r1.2)) (vi r3.2))),(82,(gv (!(!r1.2)) (vb (!decide (r3.2=0))))),(83,(vb ((!r1.2)||(!decide (r3.2=0))))),(88,(Value.agg (bQ r3.1 a8 c20))),(89,(Value.agg (ab p2 a6 c13)))]) (fun x w=>Bun du F w0 x w [MO.box b6 27 (bQ r3.1 a8 c20),MO.box b1 72 (ab p2 a6 c13),MO.box b3 27 (bQ r3.1 a8 c20),MO.box b4 72 au,MO.box b5 27 (bQ r2.1 a7 c18)] [Cl.sl ai a8 c20 r3.1.L,Cl.sl ai a7 c18 r2.1.L,Cl.sl ai a5 c12 x1.L,Cl.sl ag a6 c13 p2.L,Cl.blk b2 27 (bQ f1 a2 c2),Cl.sl ai a2 c2 f1.L]) (fun x w=>SN [] (DM true F x) w) ?_ ?_
  ·clear hI;rintro c28 w23 hI
   try dsimp only at hI ⊢
   unfold lh
   refine vA fun c27 w22 hI=> ?_
   refine V ?_
   refine aA ?_
   obtain rfl:=aj h
   exact eV (vs:=[(Value.agg (bQ r3.1 a8 c20)),(Value.agg (ab p2 a6 c13))]) Tryz.results73 ⟨⟨_,aK rfl rfl,ci (l:=(gc r3.1 a8 c20)) oy rfl bt (CellsAt.of_blk (hI.blk (.s (.s .z))) rfl)⟩,⟨⟨_,aK rfl rfl,ci (l:=(ah p2 a6 c13)) j5 rfl aG (CellsAt.of_blk (hI.blk (.s (.s (.s .z)))) rfl)⟩,trivial⟩⟩ ⟨a8,c20,a6,c13,rfl,hI.ext0,hI.fin ⟨.z,(.s (.s (.s .z))),trivial⟩⟩
  intro hk_tr_ref16_term_2_0
  refine ct rfl gn rfl (fun w' hw'=>(am (l:=(gc r3.1 a8 c20)) rfl et oy rfl bt ((CA.blk (hI.blk .z) rfl).at_ (SX.any rfl hw')))) (by kernel_rfl) ?_
  refine da ?_ ?_
  ·skip
   refine bn rfl gn rfl (am (l:=(ah p2 a6 c13)) rfl et j5 rfl aG (CellsAt.of_blk (hI.blk (.s .z)) rfl)) SX.self ?_
   refine bJ (F:=F) (C:=c22) rfl rfl ?_
   refine vA fun c26 w21 hI=> ?_
   exact aW (hk_tr_ref16_term_2_0 c26 _ (hI.arr (.c .z (.c .z (.c .z (.c .z (.c .z .n))))) ⟨.z,(.s .z),(.s (.s .z)),(.s (.s (.s .z))),(.s (.s (.s (.s .z)))),(.s (.s (.s (.s (.s .z))))),trivial⟩)) ⟨rfl,rfl,rfl,rfl,rfl,rfl,rfl,rfl,rfl,rfl,rfl,rfl,rfl,rfl,rfl,trivial⟩
  refine bu (F:=F) (C:=c22) rfl rfl ?_
  refine vA fun c26 w21 hI=> ?_
  refine bn rfl gn rfl (am (l:=(ah p2 a6 c13)) rfl et j5 rfl aG (CellsAt.of_blk (hI.blk (.s .z)) rfl)) SX.self ?_
  exact aW (hk_tr_ref16_term_2_0 c26 _ (hI.arr (.c .z (.c .z (.c .z (.c .z (.c .z .n))))) ⟨.z,(.s .z),(.s (.s .z)),(.s (.s (.s .z))),(.s (.s (.s (.s .z)))),(.s (.s (.s (.s (.s .z))))),trivial⟩)) ⟨rfl,rfl,rfl,rfl,rfl,rfl,rfl,rfl,rfl,rfl,rfl,rfl,rfl,rfl,rfl,trivial⟩
 refine T ?_
 refine sB h (fun _ k=>pm hI.lt FS k) (Rc Tryz.func133) fun r5 w25 h hI=> ?_
 refine TC (fun hb h=> ?_) fun hb h=> ?_
 ·refine T ?_
  obtain⟨r6,hx11,h⟩:=ae h
  refine aB gn rfl (Rc Tryz.func134) (Calls.mono (oB hI.lt FS hx11) ?_)
  rintro _ w26 ⟨a10,c29,rfl,hx12,hl6⟩
  refine⟨_,rfl,?_⟩
  replace hI:=(hI.ext hx12).adds hl6;dsimp only[ca,na]at hI
  refine T ?_
  refine lN fun b7 c30 w27 hI=> ?_
  refine sa ?_
  refine lA fun c31 w28 hI=> ?_
  refine T ?_
  obtain⟨r7,hx13,h⟩:=ae h
  refine aB gn rfl (Rc Tryz.func135) (Calls.mono (ut hI.lt trivial hx13) ?_)
  rintro _ w29 ⟨a11,c32,rfl,hx14,hl7⟩
  refine⟨_,rfl,?_⟩
  replace hI:=(hI.ext hx14).adds hl7;dsimp only[ca,na]at hI
  refine lA fun c33 w30 hI=> ?_
  refine T ?_
  refine lA fun c34 w31 hI=> ?_
  refine aM ?_
  exact bi (([49]:List UInt8),r7,r6.2,a11,c32,a10,c29) ⟨rfl,rfl,rfl,rfl,rfl,rfl,rfl,rfl,trivial⟩ ⟨_,hI.arr (.c (.s (.s (.s (.s .z)))) (.c (.s (.s (.s .z))) (.c (.s (.s .z)) (.c (.s .z) .n)))) ⟨.z,(.s .z),(.s (.s .z)),(.s (.s (.s (.s .z)))),trivial⟩,h⟩ rfl
 refine T ?_
 obtain⟨r8,hx15,h⟩:=ae h
 refine aB gn rfl (Rc Tryz.func136) (Calls.mono (nw hI.lt FS hx15) ?_)
 rintro _ Dv ⟨a12,c35,rfl,hx16,hl8⟩
 refine⟨_,rfl,?_⟩
 replace hI:=(hI.ext hx16).adds hl8;dsimp only[ca,na]at hI
 refine T ?_
 refine lN fun b8 c36 w33 hI=> ?_
 refine sa ?_
 refine lA fun c37 w34 hI=> ?_
 refine T ?_
 refine lA fun c38 w35 hI=> ?_
 refine T ?_
 refine sB h (fun _ k=>bv hI.lt FS k) (Rc Tryz.func72) fun r9 w36 h hI=> ?_
 refine TC (fun hb h=> ?_) fun hb h=> ?_
 ·refine T ?_
  refine lS fun c39 w37 hI=> ?_
  refine T ?_
  obtain⟨r10,hx19,h⟩:=ae h
  refine aB gn rfl (Rc Tryz.func134) (Calls.mono (oB hI.lt FS hx19) ?_)
  rintro _ w38 ⟨a13,c40,rfl,hx20,hl10⟩
  refine⟨_,rfl,?_⟩
  replace hI:=(hI.ext hx20).adds hl10;dsimp only[ca,na]at hI
  refine T ?_
  refine lN fun b9 c41 w39 hI=> ?_
  refine sa ?_
  refine lA fun c42 w40 hI=> ?_
  refine T ?_
  obtain⟨r11,hx21,h⟩:=ae h
  refine aB gn rfl (Rc Tryz.func135) (Calls.mono (ut hI.lt trivial hx21) ?_)
  rintro _ w41 ⟨a14,c43,rfl,hx22,hl11⟩
  refine⟨_,rfl,?_⟩
  replace hI:=(hI.ext hx22).adds hl11;dsimp only[ca,na]at hI
  refine lA fun c44 w42 hI=> ?_
  refine T ?_
  refine lA fun c45 w43 hI=> ?_
  refine aM ?_
  exact bi (r8.1,r11,r10.2,a14,c43,a13,c40) ⟨rfl,rfl,rfl,rfl,rfl,rfl,rfl,rfl,trivial⟩ ⟨_,hI.arr (.c (.s (.s (.s (.s (.s .z))))) (.c (.s (.s (.s (.s .z)))) (.c (.s (.s (.s .z))) (.c (.s (.s .z)) .n)))) ⟨.z,(.s .z),(.s (.s (.s .z))),(.s (.s (.s (.s (.s .z))))),trivial⟩,h⟩ rfl
 refine bf ?_
 have hI:=hI.add (c:=Cl.sl ai none 0 ([]:List GMono)) SlC.nil
 exact bi (r8.1,(⟨1,([]:List GMono)⟩:GLin),r8.2,none,0,a12,c35) ⟨rfl,rfl,rfl,rfl,rfl,rfl,rfl,rfl,trivial⟩ ⟨_,hI.arr (.c (.s (.s (.s (.s .z)))) (.c (.s (.s (.s .z))) (.c (.s (.s .z)) (.c (.s .z) .n)))) ⟨.z,(.s .z),(.s (.s .z)),(.s (.s (.s (.s .z)))),trivial⟩,h⟩ rfl
def lk:Tr:=(.c (3,.s) .n)
theorem oC (hF:dG F w0) {p1:ac} (hc:AllCl [Cl.sl ag a1 c1 p1.L] F w0) {r:GLin×ac} (h:fN p1=some r):Cg 32 #[(Value.agg (ab p1 a1 c1))] w0 fun e w=>∃ a2 c2 a3 c3,e= .returned (Value.tuple #[(Value.agg (bQ r.1 a2 c2)),(Value.agg (ab r.2 a3 c3))])∧Ext w0 w∧AllCl [Cl.sl ai a2 c2 r.1.L,Cl.sl ag a3 c3 r.2.L] F w:=by
 refine EN Tryz.func32 Tryz.ntmps32 hF hc fun hI=> ?_
 rw[fN]at h
 refine sr (mS (v:=(Value.agg (ab p1 a1 c1))) (cs:=(ab p1 a1 c1)) hI gn rfl rfl et rfl ?_)
 intro b1 c4 w1 hI
 refine lN fun b2 c5 w2 hI=> ?_
 refine lN fun b3 c6 w3 hI=> ?_
 refine T ?_
 refine sB h (fun _ k=>bv hI.lt FS k) (Rc Tryz.func72) fun r1 w4 h hI=> ?_
 refine T ?_
 refine bw (α:=ac×(Option Addr)×Nat) (fun _=>⟨41,[]⟩) (fun x=>[(1,vp b1 0),(2,vp b2 0),(3,vp b3 0),(4,vb r1)]) (fun x=>fun w=>∃ C,Bun du F w0 C w [MO.box b1 72 (ab (x.1) (x.2.1) (x.2.2)),MO.box b2 27 #[vi 0,vs none 0 0],MO.box b3 72 au] [Cl.sl ag (x.2.1) (x.2.2) (x.1).L]∧ju r1 (x.1)=some r) ?_ ?_
 ·clear h hI;rintro⟨p2,a4,c7⟩ w5 ⟨c8,hI,h⟩
  try dsimp only at hI h ⊢
  rw[ju]at h
  refine T ?_
  refine sq (ax (vs:=[]) (cs:=#[vi 0,vs none 0 0]) rfl trivial (by kernel_rfl)) ?_
  refine sm ?_
  have hI:=hI.add (c:=Cl.sl ai none 0 ([]:List GMono)) SlC.nil
  obtain⟨r2,hx3,h⟩:=ae h
  refine aB gn rfl (Rc Tryz.func73) (Calls.mono (tc hI.lt FS hx3) ?_)
  rintro _ w6 ⟨a5,c9,a6,c10,rfl,hx4,hl2⟩
  refine⟨_,rfl,?_⟩
  replace hI:=(hI.ext hx4).adds hl2;dsimp only[ca,na]at hI
  refine T ?_
  refine lN fun b4 c11 w7 hI=> ?_
  refine lA fun c12 w8 hI=> ?_
  refine lA fun c13 w9 hI=> ?_
  refine nk (al (T ?_))
  refine bh (α:=Nat×ac×GLin×(Option Addr)×Nat×(Option Addr)×Nat) (fun x=>fun w=>∃ C,Bun du F w0 C w [MO.box b1 72 (ab (x.2.1) (x.2.2.2.1) (x.2.2.2.2.1)),MO.box b2 27 #[vi 0,vs none 0 0],MO.box b3 72 au,MO.box b4 27 (bQ (x.2.2.1) (x.2.2.2.2.2.1) (x.2.2.2.2.2.2))] [Cl.sl ag (x.2.2.2.1) (x.2.2.2.2.1) (x.2.1).L,Cl.sl ai (x.2.2.2.2.2.1) (x.2.2.2.2.2.2) (x.2.2.1).L]∧dq (x.1) (x.2.1) (x.2.2.1)=some r) (fun x _=>x.1) (fun x=>[(1,vp b1 0),(2,vp b2 0),(3,vp b3 0),(5,vp b4 0)]) (fu,r2.2,r2.1,a6,c10,a5,c9) BH SB ?_
  clear h hI;rintro⟨fuel1,p3,f1,a7,c14,a8,c15⟩ w10 ⟨c16,hI,h⟩
  dsimp only at hI h ⊢
  rcases fuel1 with _ | fuel1
  ·rw[dq]at h;cases h
  rw[dq]at h
  refine al (T ?_)
  refine sB h (fun _ k=>bv hI.lt FS k) (Rc Tryz.func72) fun r3 w11 h hI=> ?_
  refine sm ?_
  refine az (cq rfl rfl rfl rfl) rfl (fun hc=>(am (l:=(ah p3 a7 c14)) rfl et j5 rfl aG (CellsAt.of_blk (hI.blk .z) rfl))) ?_
  obtain⟨r4,hx7,h⟩:=ae h
  replace hx7:=ay hx7
  refine sU (fun hc=>bv hI.lt FS (hx7 hc)) (Rg Tryz.func72) fun w12 hI=> ?_
  refine TC (fun hb h=> ?_) fun hb h=> ?_
  ·refine T ?_
   refine sB h (fun _ k=>bv hI.lt FS k) (Rc Tryz.func72) fun r5 w13 h hI=> ?_
   refine T ?_
   refine lS fun c17 w14 hI=> ?_
   refine T ?_
   obtain⟨r6,hx11,h⟩:=ae h
   refine aB gn rfl (Rc Tryz.func73) (Calls.mono (tc hI.lt FS hx11) ?_)
   rintro _ w15 ⟨a9,c18,a10,c19,rfl,hx12,hl6⟩
   refine⟨_,rfl,?_⟩
   replace hI:=(hI.ext hx12).adds hl6;dsimp only[ca,na]at hI
   refine T ?_
   refine lA fun c20 w16 hI=> ?_
   refine lA fun c21 w17 hI=> ?_
   refine aM ?_
   exact kl (fuel1,r6.2,r6.1,a10,c19,a9,c18)
  refine bk ?_
  refine eU ?_
  refine bb (al (aI [2,3] false (.c (0,.q) (.two 1 (.c (2,.s) lk) 2 (.c (1,.s) lk))) hI (by kernel_rfl) (by kernel_rfl) ?_))
  intro w21 hI
  refine cj (α:=NP) (T:=lk) (fun x=>[(1,vp b1 0),(2,vp b2 0),(3,vp b3 0),(5,vp b4 0),(20,(Value.agg (ab p3 a7 c14))),(21,vb r3),(22,vb r3),(23,(gv (!r3) (Value.agg (ab p3 a7 c14)))),(24,(gv (!r3) (vb r4))),(25,vb (r3||r4)),(39,(Value.agg (bQ f1 a8 c15))),(40,(Value.agg (ab p3 a7 c14)))]) (fun x w=>Bun du F w0 x w [MO.box b1 72 (ab p3 a7 c14),MO.box b2 27 (bQ f1 a8 c15),MO.box b3 72 au,MO.box b4 27 (bQ f1 a8 c15)] [Cl.sl ag a7 c14 p3.L,Cl.sl ai a8 c15 f1.L]) (fun x w=>SN [] (DM true F x) w) ?_ ?_
  ·clear hI;rintro c24 w20 hI
   try dsimp only at hI ⊢
   unfold lk
   refine vA fun c23 w19 hI=> ?_
   refine V ?_
   refine aA ?_
   obtain rfl:=aj h
   refine QG ?_
   exact⟨a8,c15,a7,c14,rfl,hI.ext0,hI.fin ⟨(.s .z),.z,trivial⟩⟩
  intro hk_tr_ref16_form_3_0
  refine ct rfl gn rfl (fun w' hw'=>(am (l:=(gc f1 a8 c15)) rfl et oy rfl bt ((CA.blk (hI.blk (.s (.s (.s .z)))) rfl).at_ (SX.any rfl hw')))) (by kernel_rfl) ?_
  refine da ?_ ?_
  ·skip
   refine bn rfl gn rfl (am (l:=(ah p3 a7 c14)) rfl et j5 rfl aG (CellsAt.of_blk (hI.blk .z) rfl)) SX.self ?_
   refine bJ (F:=F) (C:=c16) rfl rfl ?_
   refine vA fun c22 w18 hI=> ?_
   exact aW (hk_tr_ref16_form_3_0 c22 _ (hI.arr GO SU)) SB
  refine bu (F:=F) (C:=c16) rfl rfl ?_
  refine vA fun c22 w18 hI=> ?_
  refine bn rfl gn rfl (am (l:=(ah p3 a7 c14)) rfl et j5 rfl aG (CellsAt.of_blk (hI.blk .z) rfl)) SX.self ?_
  exact aW (hk_tr_ref16_form_3_0 c22 _ (hI.arr GO SU)) SB
 refine TC (fun hb h=> ?_) fun hb h=> ?_
 ·refine T ?_
  refine lS fun c25 w22 hI=> ?_
  refine aM ?_
  exact kj ((⟨p1.L,ar (p1.At+1),p1.Deep,p1.E,p1.Pos⟩:ac),a1,c1)
 exact bf (bi (p1,a1,c1) SB BH rfl)
theorem qU (hF:dG F w0) {p1:ac} (hc:AllCl [Cl.sl ag a1 c1 p1.L] F w0) {r:ac} (h:fF p1=some r):Cg 150 #[(Value.agg (ab p1 a1 c1))] w0 fun e w=>∃ a2 c2,e= .returned (Value.agg (ab r a2 c2))∧Ext w0 w∧AllCl [Cl.sl ag a2 c2 r.L] F w:=by
 refine EN Tryz.func150 Tryz.ntmps150 hF hc fun hI=> ?_
 rw[fF]at h
 refine sr (mS (v:=(Value.agg (ab p1 a1 c1))) (cs:=(ab p1 a1 c1)) hI gn rfl rfl et rfl ?_)
 intro b1 c3 w1 hI
 refine lN fun b2 c4 w2 hI=> ?_
 refine nk (al (T ?_))
 refine TC (fun hb h=> ?_) fun hb h=> ?_
 ·refine T ?_
  obtain⟨r1,hx1,h⟩:=ae h
  refine aB gn rfl (Rc Tryz.func81) (Calls.mono (jS hI.lt FS hx1) ?_)
  rintro _ w3 ⟨a3,c5,rfl,hx2,hl1⟩
  refine⟨_,rfl,?_⟩
  replace hI:=(hI.ext hx2).adds hl1;dsimp only[ca,na]at hI
  refine lA fun c6 w4 hI=> ?_
  refine nk (aA ?_)
  obtain rfl:=aj h
  refine QG ?_
  exact⟨a3,c5,rfl,hI.ext0,hI.fin ⟨.z,trivial⟩⟩
 refine T ?_
 refine lS fun c7 w5 hI=> ?_
 refine T ?_
 refine lS fun c8 w6 hI=> ?_
 refine T ?_
 refine lA fun c9 w7 hI=> ?_
 refine nk (aA ?_)
 obtain rfl:=aj h
 refine QG ?_
 exact⟨a1,c1,rfl,hI.ext0,hI.fin ⟨.z,trivial⟩⟩
theorem cr (hF:dG F w0) {p1:ac} {s1:List UInt8} (hc:AllCl [Cl.sl ag a1 c1 p1.L] F w0) {r:ac} (h:aH p1 s1=some r):Cg 110 #[(Value.agg (ab p1 a1 c1)),(aE s1)] w0 fun e w=>∃ a2 c2,e= .returned (Value.agg (ab r a2 c2))∧Ext w0 w∧AllCl [Cl.sl ag a2 c2 r.L] F w:=by
 refine EN Tryz.func110 Tryz.ntmps110 hF hc fun hI=> ?_
 rw[aH]at h
 refine sr (mS (v:=(Value.agg (ab p1 a1 c1))) (cs:=(ab p1 a1 c1)) hI gn rfl rfl et rfl ?_)
 intro b1 c3 w1 hI
 refine lN fun b2 c4 w2 hI=> ?_
 refine nk (al (T ?_))
 refine sB h (fun _ k=>bv hI.lt FS k) (Rc Tryz.func72) fun r1 w3 h hI=> ?_
 refine TC (fun hb h=> ?_) fun hb h=> ?_
 ·refine T ?_
  obtain⟨r2,hx3,h⟩:=ae h
  refine aB gn rfl (Rc Tryz.func41) (Calls.mono (lc hI.lt FS hx3) ?_)
  rintro _ w4 ⟨a3,c5,rfl,hx4,hl2⟩
  refine⟨_,rfl,?_⟩
  replace hI:=(hI.ext hx4).adds hl2;dsimp only[ca,na]at hI
  refine lA fun c6 w5 hI=> ?_
  refine nk (aA ?_)
  obtain rfl:=aj h
  refine QG ?_
  exact⟨a3,c5,rfl,hI.ext0,hI.fin ⟨.z,trivial⟩⟩
 refine T ?_
 refine lS fun c7 w6 hI=> ?_
 refine T ?_
 refine lA fun c8 w7 hI=> ?_
 refine nk (aA ?_)
 obtain rfl:=aj h
 refine QG ?_
 exact⟨a1,c1,rfl,hI.ext0,hI.fin ⟨.z,trivial⟩⟩
theorem qx (hF:dG F w0) {p1:ac} (hc:AllCl [Cl.sl ag a1 c1 p1.L] F w0) {r:Int×ac} (h:gI p1=some r):Cg 220 #[(Value.agg (ab p1 a1 c1))] w0 fun e w=>∃ a2 c2,e= .returned (Value.tuple #[vi r.1,(Value.agg (ab r.2 a2 c2))])∧Ext w0 w∧AllCl [Cl.sl ag a2 c2 r.2.L] F w:=by
 refine EN Tryz.func220 Tryz.ntmps220 hF hc fun hI=> ?_
 rw[gI]at h
 refine sr (mS (v:=(Value.agg (ab p1 a1 c1))) (cs:=(ab p1 a1 c1)) hI gn rfl rfl et rfl ?_)
 intro b1 c3 w1 hI
 refine rJ ?_
 refine lN fun b2 c4 w2 hI=> ?_
 refine T ?_
 obtain⟨r1,hx1,h⟩:=ae h
 refine aB gn rfl (Rc Tryz.func136) (Calls.mono (nw hI.lt FS hx1) ?_)
 rintro _ w3 ⟨a3,c5,rfl,hx2,hl1⟩
 refine⟨_,rfl,?_⟩
 replace hI:=(hI.ext hx2).adds hl1;dsimp only[ca,na]at hI
 refine T ?_
 refine lA fun c6 w4 hI=> ?_
 refine T ?_
 refine sB h (fun _ k=>qS hI.lt trivial k) (Rc Tryz.func137) fun r2 w5 h hI=> ?_
 refine T ?_
 refine al (T ?_)
 refine TC (fun hb h=> ?_) fun hb h=> ?_
 ·refine T ?_
  obtain⟨r3,hx5,h⟩:=ae h
  refine aB gn rfl (Rc Tryz.func81) (Calls.mono (jS hI.lt FS hx5) ?_)
  rintro _ w6 ⟨a4,c7,rfl,hx6,hl3⟩
  refine⟨_,rfl,?_⟩
  replace hI:=(hI.ext hx6).adds hl3;dsimp only[ca,na]at hI
  refine rJ ?_
  refine lA fun c8 w7 hI=> ?_
  refine T ?_
  refine aA ?_
  obtain rfl:=aj h
  refine QG ?_
  exact⟨a4,c7,rfl,hI.ext0,hI.fin ⟨.z,trivial⟩⟩
 refine T ?_
 refine al (aI [3] false (.c (0,.q) (.c (1,.q) (.c (2,.q) (.c (3,.s) .n)))) hI (by kernel_rfl) (by kernel_rfl) ?_)
 intro w8 hI
 refine V ?_
 refine ct rfl gn rfl (fun w' hw'=>(am (l:=(ah r1.2 a3 c5)) rfl et j5 rfl aG ((CA.blk (hI.blk (.s .z)) rfl).at_ (SX.any rfl hw')))) (by kernel_rfl) ?_
 refine V ?_
 refine bJ (F:=F) (C:=c6) rfl rfl ?_
 refine vA fun c9 w9 hI=> ?_
 refine V ?_
 refine aA ?_
 obtain rfl:=aj h
 refine QG ?_
 exact⟨a3,c5,rfl,hI.ext0,hI.fin ⟨.z,trivial⟩⟩
theorem oO (hF:dG F w0) {p1:ac} {l1:List (List UInt8)} (hc:AllCl [Cl.sl ag a1 c1 p1.L,Cl.sl dF a2 c2 l1] F w0) {r:Int×ac} (h:ie p1 l1=some r):Cg 105 #[(Value.agg (ab p1 a1 c1)),vs a2 l1.length c2] w0 fun e w=>∃ a3 c3,e= .returned (Value.tuple #[vi r.1,(Value.agg (ab r.2 a3 c3))])∧Ext w0 w∧AllCl [Cl.sl ag a3 c3 r.2.L] F w:=by
 refine EN Tryz.func105 Tryz.ntmps105 hF hc fun hI=> ?_
 rw[ie]at h
 refine sr (mS (v:=(Value.agg (ab p1 a1 c1))) (cs:=(ab p1 a1 c1)) hI gn rfl rfl et rfl ?_)
 intro b1 c4 w1 hI
 refine rJ ?_
 refine lN fun b2 c5 w2 hI=> ?_
 refine nk (al (T ?_))
 refine bh (α:=Nat×Int) (fun x=>fun w=>∃ C,Bun du F w0 C w [MO.box b1 72 (ab p1 a1 c1),MO.box b2 72 au] [Cl.sl dF a2 c2 l1,Cl.sl ag a1 c1 p1.L]∧cV l1 p1 (x.1) (x.2)=some r) (fun x _=>x.1) (fun x=>[(1,vs a2 l1.length c2),(2,vp b1 0),(5,vp b2 0),(6,vi (x.2))]) (fu,0) BH SB ?_
 clear h hI;rintro⟨fuel1,i1⟩ w3 ⟨c6,hI,h⟩
 dsimp only at hI h ⊢
 rcases fuel1 with _ | fuel1
 ·rw[cV]at h;cases h
 rw[cV]at h
 refine al (T ?_)
 refine TC (fun hb h=> ?_) fun hb h=> ?_
 ·refine T ?_
  refine al (T ?_)
  refine al (aI [] false (.c (0,.q) (.c (1,.q) (.c (2,.q) (.c (3,.q) (.c (4,.q) (.c (5,.s) .n)))))) hI (by kernel_rfl) (by kernel_rfl) ?_)
  intro w4 hI
  refine ct rfl gn rfl (fun w' hw'=>(am (l:=(ah p1 a1 c1)) rfl et j5 rfl aG ((CA.blk (hI.blk .z) rfl).at_ (SX.any rfl hw')))) (by kernel_rfl) ?_
  refine V ?_
  obtain⟨e1,hx1,h⟩:=ae h
  obtain⟨ad1,cs1,hA1,hr1,hq1⟩:=hI.clat .z hx1
  obtain rfl:cs1=[(aE e1)]:=hr1
  refine vI ?_
  refine V ?_
  obtain⟨r1,hx2,h⟩:=ae h
  refine dC rfl gn rfl (aF (vs:=[(Value.agg (ab p1 a1 c1)),vi 0,(aE e1)]) rfl FY ⟨et,⟨ao,⟨et,trivial⟩⟩⟩) (Calls.mono (bv hI.lt FS hx2) ?_)
  rintro _ w5 ⟨rfl,hx3,hl1⟩
  refine⟨_,rfl,hx3,?_⟩
  replace hI:=(hI.ext hx3)
  refine V ?_
  refine TC (fun hb h=> ?_) fun hb h=> ?_
  ·refine T ?_
   refine lS fun c7 w6 hI=> ?_
   refine nk (al (aI [4] false (.c (0,.q) (.c (1,.q) (.c (2,.q) (.c (3,.q) (.c (4,.s) .n))))) hI (by kernel_rfl) (by kernel_rfl) ?_))
   intro w7 hI
   refine V ?_
   refine ct rfl gn rfl (fun w' hw'=>(am (l:=[vs a1 p1.L.length c1,(vi (ar (p1.At+1))),vi p1.Deep,vi p1.E,vi p1.Pos]) rfl et j5 rfl aG ((CA.blk (hI.blk .z) rfl).at_ (SX.any rfl hw')))) (by kernel_rfl) ?_
   refine V ?_
   refine bJ (F:=F) (C:=c7) rfl rfl ?_
   refine vA fun c8 w8 hI=> ?_
   refine V ?_
   refine aA ?_
   obtain rfl:=aj h
   refine QG ?_
   exact⟨a1,c1,rfl,hI.ext0,hI.fin ⟨(.s .z),trivial⟩⟩
  refine T ?_
  refine aM ?_
  exact kl (fuel1,ar (i1+1))
 refine bk ?_
 refine eU ?_
 refine bb ?_
 refine T ?_
 obtain⟨r2,hx4,h⟩:=ae h
 refine aB gn rfl (Rc Tryz.func41) (Calls.mono (lc hI.lt FS hx4) ?_)
 rintro _ w9 ⟨a4,c9,rfl,hx5,hl2⟩
 refine⟨_,rfl,?_⟩
 replace hI:=(hI.ext hx5).adds hl2;dsimp only[ca,na]at hI
 refine rJ ?_
 refine lA fun c10 w10 hI=> ?_
 refine nk (aA ?_)
 obtain rfl:=aj h
 refine QG ?_
 exact⟨a4,c9,rfl,hI.ext0,hI.fin ⟨.z,trivial⟩⟩
theorem ra (hF:dG F w0) {t1:GType} (hc:AllCl [] F w0) {r:Bool} (h:lT t1=some r):CR F w0 62 #[(Value.agg (co t1))] (vb r) []:=by
 refine EN Tryz.func62 Tryz.ntmps62 hF hc fun hI=> ?_
 rw[lT]at h
 refine sr (lX fun b1 c2 w1 hI=> ?_)
 refine T ?_
 refine al (T ?_)
 refine TR fun hb h=> ?_
 exact RF
def ma:Tr:=(.c (3,.s) .n)
def l9:Tr:=(.c (3,.s) .n)
def l8:Tr:=(.c (3,.s) .n)
def l7:Tr:=(.c (3,.s) .n)
theorem ur (hF:dG F w0) {p1:ac} (hc:AllCl [Cl.sl ag a1 c1 p1.L] F w0) {r:GType×ac} (h:iX p1=some r):Cg 178 #[(Value.agg (ab p1 a1 c1))] w0 fun e w=>∃ a2 c2,e= .returned (Value.tuple #[(Value.agg (co r.1)),(Value.agg (ab r.2 a2 c2))])∧Ext w0 w∧AllCl [Cl.sl ag a2 c2 r.2.L] F w:=by
 refine EN Tryz.func178 Tryz.ntmps178 hF hc fun hI=> ?_
 rw[iX]at h
 refine sr (mS (v:=(Value.agg (ab p1 a1 c1))) (cs:=(ab p1 a1 c1)) hI gn rfl rfl et rfl ?_)
 intro b1 c3 w1 hI
 refine lN fun b2 c4 w2 hI=> ?_
 refine lN fun b3 c5 w3 hI=> ?_
 refine T ?_
 refine al (T ?_)
 refine sB h (fun _ k=>bv hI.lt FS k) (Rc Tryz.func72) fun r1 w4 h hI=> ?_
 refine TC (fun hb h=> ?_) fun hb h=> ?_
 ·refine T ?_
  refine lS fun c6 w5 hI=> ?_
  refine nk (al (aI [2,3] false (.c (0,.q) (.two 1 (.c (2,.s) ma) 2 (.c (1,.s) ma))) hI (by kernel_rfl) (by kernel_rfl) ?_))
  intro w9 hI
  refine cj (α:=NP) (T:=ma) (fun x=>[(0,(Value.agg (ab p1 a1 c1))),(1,vp b1 0),(2,vp b2 0),(3,vp b3 0),(4,vi p1.At),(10,vp b1 1),(11,vi p1.At),(12,(Value.agg (ab p1 a1 c1))),(13,vb r1),(14,vp b1 1),(15,vi p1.At),(16,(vi (ar (p1.At+1)))),(17,vp b1 1),(18,(Value.agg #[vi 1,vi 0,vi 0,vi 0,vi 0])),(19,(Value.agg #[vs a1 p1.L.length c1,(vi (ar (p1.At+1))),vi p1.Deep,vi p1.E,vi p1.Pos]))]) (fun x w=>Bun du F w0 x w [MO.box b3 72 au,MO.box b2 35 #[vi 1,vi 0,vi 0,vi 0,vi 0],MO.box b1 72 #[vs a1 p1.L.length c1,(vi (ar (p1.At+1))),vi p1.Deep,vi p1.E,vi p1.Pos]] [Cl.sl ag a1 c1 p1.L]) (fun x w=>SN [] (DM true F x) w) ?_ ?_
  ·clear hI;rintro c9 w8 hI
   try dsimp only at hI ⊢
   unfold ma
   refine vA fun c8 w7 hI=> ?_
   refine V ?_
   refine aA ?_
   obtain rfl:=aj h
   refine QG ?_
   exact⟨a1,c1,rfl,hI.ext0,hI.fin ⟨.z,trivial⟩⟩
  intro hk_tr_ref16_typ_1_0
  refine l6 rfl gn rfl (fun w'=>(ax (vs:=[(0,vi 1)]) (cs:=#[vi 1,vi 0,vi 0,vi 0,vi 0]) rfl ⟨rfl,ao,trivial⟩ (by kernel_rfl))) ?_
  refine da ?_ ?_
  ·skip
   refine bn rfl gn rfl (am (l:=[vs a1 p1.L.length c1,(vi (ar (p1.At+1))),vi p1.Deep,vi p1.E,vi p1.Pos]) rfl et j5 rfl aG (CellsAt.of_blk (hI.blk (.s (.s .z))) rfl)) SX.self ?_
   refine bJ (F:=F) (C:=c6) rfl rfl ?_
   refine vA fun c7 w6 hI=> ?_
   exact aW (hk_tr_ref16_typ_1_0 c7 _ (hI.arr GO SU)) SB
  refine bu (F:=F) (C:=c6) rfl rfl ?_
  refine vA fun c7 w6 hI=> ?_
  refine bn rfl gn rfl (am (l:=[vs a1 p1.L.length c1,(vi (ar (p1.At+1))),vi p1.Deep,vi p1.E,vi p1.Pos]) rfl et j5 rfl aG (CellsAt.of_blk (hI.blk (.s (.s .z))) rfl)) SX.self ?_
  exact aW (hk_tr_ref16_typ_1_0 c7 _ (hI.arr GO SU)) SB
 refine T ?_
 refine al (T ?_)
 refine sB h (fun _ k=>bv hI.lt FS k) (Rc Tryz.func72) fun r2 w10 h hI=> ?_
 refine TC (fun hb h=> ?_) fun hb h=> ?_
 ·refine T ?_
  refine lS fun c10 w11 hI=> ?_
  refine nk (al (aI [2,3] false (.c (0,.q) (.two 1 (.c (2,.s) l9) 2 (.c (1,.s) l9))) hI (by kernel_rfl) (by kernel_rfl) ?_))
  intro w15 hI
  refine cj (α:=NP) (T:=l9) (fun x=>[(0,(Value.agg (ab p1 a1 c1))),(1,vp b1 0),(2,vp b2 0),(3,vp b3 0),(4,vi p1.At),(10,vp b1 1),(11,vi p1.At),(12,(Value.agg (ab p1 a1 c1))),(13,vb r1),(20,(Value.agg (ab p1 a1 c1))),(21,vb r2),(22,vp b1 1),(23,vi p1.At),(24,(vi (ar (p1.At+1)))),(25,vp b1 1),(26,(Value.agg #[vi 3,vi 0,vi 0,vi 0,vi 0])),(27,(Value.agg #[vs a1 p1.L.length c1,(vi (ar (p1.At+1))),vi p1.Deep,vi p1.E,vi p1.Pos]))]) (fun x w=>Bun du F w0 x w [MO.box b3 72 au,MO.box b2 35 #[vi 3,vi 0,vi 0,vi 0,vi 0],MO.box b1 72 #[vs a1 p1.L.length c1,(vi (ar (p1.At+1))),vi p1.Deep,vi p1.E,vi p1.Pos]] [Cl.sl ag a1 c1 p1.L]) (fun x w=>SN [] (DM true F x) w) ?_ ?_
  ·clear hI;rintro c13 w14 hI
   try dsimp only at hI ⊢
   unfold l9
   refine vA fun c12 w13 hI=> ?_
   refine V ?_
   refine aA ?_
   obtain rfl:=aj h
   refine QG ?_
   exact⟨a1,c1,rfl,hI.ext0,hI.fin ⟨.z,trivial⟩⟩
  intro hk_tr_ref16_typ_2_0
  refine l6 rfl gn rfl (fun w'=>(ax (vs:=[(0,vi 3)]) (cs:=#[vi 3,vi 0,vi 0,vi 0,vi 0]) rfl ⟨rfl,ao,trivial⟩ (by kernel_rfl))) ?_
  refine da ?_ ?_
  ·skip
   refine bn rfl gn rfl (am (l:=[vs a1 p1.L.length c1,(vi (ar (p1.At+1))),vi p1.Deep,vi p1.E,vi p1.Pos]) rfl et j5 rfl aG (CellsAt.of_blk (hI.blk (.s (.s .z))) rfl)) SX.self ?_
   refine bJ (F:=F) (C:=c10) rfl rfl ?_
   refine vA fun c11 w12 hI=> ?_
   exact aW (hk_tr_ref16_typ_2_0 c11 _ (hI.arr GO SU)) SB
  refine bu (F:=F) (C:=c10) rfl rfl ?_
  refine vA fun c11 w12 hI=> ?_
  refine bn rfl gn rfl (am (l:=[vs a1 p1.L.length c1,(vi (ar (p1.At+1))),vi p1.Deep,vi p1.E,vi p1.Pos]) rfl et j5 rfl aG (CellsAt.of_blk (hI.blk (.s (.s .z))) rfl)) SX.self ?_
  exact aW (hk_tr_ref16_typ_2_0 c11 _ (hI.arr GO SU)) SB
 refine T ?_
 obtain⟨r3,hx5,h⟩:=ae h
 refine aB gn rfl (Rc Tryz.func110) (Calls.mono (cr hI.lt FS hx5) ?_)
 rintro _ w16 ⟨a3,c14,rfl,hx6,hl3⟩
 refine⟨_,rfl,?_⟩
 replace hI:=(hI.ext hx6).adds hl3;dsimp only[ca,na]at hI
 obtain⟨r4,hx7,h⟩:=ae h
 refine aB gn rfl (Rc Tryz.func110) (Calls.mono (cr hI.lt FS hx7) ?_)
 rintro _ w17 ⟨a4,c15,rfl,hx8,hl4⟩
 refine⟨_,rfl,?_⟩
 replace hI:=(hI.ext hx8).adds hl4;dsimp only[ca,na]at hI
 refine lA fun c16 w18 hI=> ?_
 refine T ?_
 obtain⟨r5,hx9,h⟩:=ae h
 refine aB gn rfl (Rc Tryz.func220) (Calls.mono (qx hI.lt FS hx9) ?_)
 rintro _ w19 ⟨a5,c17,rfl,hx10,hl5⟩
 refine⟨_,rfl,?_⟩
 replace hI:=(hI.ext hx10).adds hl5;dsimp only[ca,na]at hI
 refine T ?_
 refine lA fun c18 w20 hI=> ?_
 refine T ?_
 obtain⟨r6,hx11,h⟩:=ae h
 refine aB gn rfl (Rc Tryz.func110) (Calls.mono (cr hI.lt FS hx11) ?_)
 rintro _ w21 ⟨a6,c19,rfl,hx12,hl6⟩
 refine⟨_,rfl,?_⟩
 replace hI:=(hI.ext hx12).adds hl6;dsimp only[ca,na]at hI
 refine lA fun c20 w22 hI=> ?_
 refine T ?_
 obtain⟨r7,hx13,h⟩:=ae h
 refine aB gn rfl (Rc Tryz.func220) (Calls.mono (qx hI.lt FS hx13) ?_)
 rintro _ w23 ⟨a7,c21,rfl,hx14,hl7⟩
 refine⟨_,rfl,?_⟩
 replace hI:=(hI.ext hx14).adds hl7;dsimp only[ca,na]at hI
 refine T ?_
 refine lA fun c22 w24 hI=> ?_
 refine T ?_
 obtain⟨r8,hx15,h⟩:=ae h
 refine aB gn rfl (Rc Tryz.func110) (Calls.mono (cr hI.lt FS hx15) ?_)
 rintro _ w25 ⟨a8,c23,rfl,hx16,hl8⟩
 refine⟨_,rfl,?_⟩
 replace hI:=(hI.ext hx16).adds hl8;dsimp only[ca,na]at hI
 refine lA fun c24 w26 hI=> ?_
 refine T ?_
 refine ll hI dF ([([102,108,111,111,114]:List UInt8),([99,101,105,108]:List UInt8),([122,101,114,111]:List UInt8),([101,118,101,110]:List UInt8)]:List (List UInt8)) lZ Rr fun b4 c25 w27 hI=> ?_
 obtain⟨c26,hI⟩:=hI.release .z
 obtain⟨r9,hx17,h⟩:=ae h
 refine aB gn rfl (Rc Tryz.func105) (Calls.mono (oO hI.lt FS hx17) ?_)
 rintro _ w28 ⟨a9,c27,rfl,hx18,hl9⟩
 refine⟨_,rfl,?_⟩
 replace hI:=(hI.ext hx18).adds hl9;dsimp only[ca,na]at hI
 refine T ?_
 refine lA fun c28 w29 hI=> ?_
 refine T ?_
 obtain⟨r10,hx19,h⟩:=ae h
 refine aB gn rfl (Rc Tryz.func110) (Calls.mono (cr hI.lt FS hx19) ?_)
 rintro _ w30 ⟨a10,c29,rfl,hx20,hl10⟩
 refine⟨_,rfl,?_⟩
 replace hI:=(hI.ext hx20).adds hl10;dsimp only[ca,na]at hI
 refine lA fun c30 w31 hI=> ?_
 refine T ?_
 refine ll hI dF ([([115,97,116]:List UInt8),([119,114,97,112]:List UInt8)]:List (List UInt8)) lZ Rr fun b5 c31 Dv hI=> ?_
 obtain⟨c32,hI⟩:=hI.release .z
 obtain⟨r11,hx21,h⟩:=ae h
 refine aB gn rfl (Rc Tryz.func105) (Calls.mono (oO hI.lt FS hx21) ?_)
 rintro _ w33 ⟨a11,c33,rfl,hx22,hl11⟩
 refine⟨_,rfl,?_⟩
 replace hI:=(hI.ext hx22).adds hl11;dsimp only[ca,na]at hI
 refine T ?_
 refine lA fun c34 w34 hI=> ?_
 refine T ?_
 obtain⟨r12,hx23,h⟩:=ae h
 refine aB gn rfl (Rc Tryz.func110) (Calls.mono (cr hI.lt FS hx23) ?_)
 rintro _ w35 ⟨a12,c35,rfl,hx24,hl12⟩
 refine⟨_,rfl,?_⟩
 replace hI:=(hI.ext hx24).adds hl12;dsimp only[ca,na]at hI
 refine lA fun c36 w36 hI=> ?_
 refine T ?_
 refine sq (ax (vs:=[(0,vi 2),(1,vi r5.1),(2,vi r7.1),(3,vi r9.1),(4,vi r11.1)]) (cs:=#[vi 2,vi r5.1,vi r7.1,vi r9.1,vi r11.1]) rfl ⟨rfl,ao,⟨rfl,et,⟨rfl,et,⟨rfl,et,⟨rfl,et,trivial⟩⟩⟩⟩⟩ (by kernel_rfl)) ?_
 refine lN fun b6 c37 w37 hI=> ?_
 refine lA fun c38 w38 hI=> ?_
 refine T ?_
 refine al (T ?_)
 refine az (aT rfl rfl rfl rfl) rfl (fun hc=>(am (l:=[vi 2,vi r5.1,vi r7.1,vi r9.1,vi r11.1]) rfl et qr rfl cD (CellsAt.of_blk (hI.blk .z) rfl))) ?_
 obtain⟨r13,hx25,h⟩:=ae h
 replace hx25:=ay hx25
 refine sU (fun hc=>ra hI.lt trivial (hx25 hc)) (Rg Tryz.func62) fun w39 hI=> ?_
 refine TC (fun hb h=> ?_) fun hb h=> ?_
 ·refine T ?_
  obtain⟨r14,hx27,h⟩:=ae h
  refine aB gn rfl (Rc Tryz.func81) (Calls.mono (jS hI.lt FS hx27) ?_)
  rintro _ w40 ⟨a13,c39,rfl,hx28,hl14⟩
  refine⟨_,rfl,?_⟩
  replace hI:=(hI.ext hx28).adds hl14;dsimp only[ca,na]at hI
  refine lA fun c40 w41 hI=> ?_
  refine nk (al (aI [2,3] false (.c (0,.q) (.two 1 (.c (2,.s) l8) 2 (.c (1,.s) l8))) hI (by kernel_rfl) (by kernel_rfl) ?_))
  intro w45 hI
  refine cj (α:=NP) (T:=l8) (fun x=>[(1,vp b1 0),(2,vp b2 0),(3,vp b3 0),(4,vi p1.At),(9,vp b6 0),(66,vp b1 3),(67,vi r12.E),(68,(vb (decide (r12.E=0)))),(69,(vb (decide (r12.E=0)))),(70,(gv (decide (r12.E=0)) (Value.agg #[vi 2,vi r5.1,vi r7.1,vi r9.1,vi r11.1]))),(71,(gv (decide (r12.E=0)) (vb r13))),(72,(gv (decide (r12.E=0)) (vb (!r13)))),(73,(vb ((decide (r12.E=0))&&(!r13)))),(74,(Value.agg (ab r12 a12 c35))),(75,vi p1.At),(76,(Value.agg (ab r14 a13 c39))),(77,(Value.agg #[vi 2,vi r5.1,vi r7.1,vi r9.1,vi r11.1])),(78,(Value.agg (ab r14 a13 c39)))]) (fun x w=>Bun du F w0 x w [MO.box b6 35 #[vi 2,vi r5.1,vi r7.1,vi r9.1,vi r11.1],MO.box b3 72 au,MO.box b2 35 #[vi 2,vi r5.1,vi r7.1,vi r9.1,vi r11.1],MO.box b1 72 (ab r14 a13 c39)] [Cl.sl ag a13 c39 r14.L,Cl.sl ag a12 c35 r12.L,Cl.sl ag a11 c33 r11.2.L,Cl.sl dF (some ⟨b5,0,none⟩) 2 ([([115,97,116]:List UInt8),([119,114,97,112]:List UInt8)]:List (List UInt8)),Cl.sl ag a10 c29 r10.L,Cl.sl ag a9 c27 r9.2.L,Cl.sl dF (some ⟨b4,0,none⟩) 4 ([([102,108,111,111,114]:List UInt8),([99,101,105,108]:List UInt8),([122,101,114,111]:List UInt8),([101,118,101,110]:List UInt8)]:List (List UInt8)),Cl.sl ag a8 c23 r8.L,Cl.sl ag a7 c21 r7.2.L,Cl.sl ag a6 c19 r6.L,Cl.sl ag a5 c17 r5.2.L,Cl.sl ag a4 c15 r4.L,Cl.sl ag a3 c14 r3.L,Cl.sl ag a1 c1 p1.L]) (fun x w=>SN [] (DM true F x) w) ?_ ?_
  ·clear hI;rintro c43 w44 hI
   try dsimp only at hI ⊢
   unfold l8
   refine vA fun c42 w43 hI=> ?_
   refine V ?_
   refine aA ?_
   obtain rfl:=aj h
   refine QG ?_
   exact⟨a13,c39,rfl,hI.ext0,hI.fin ⟨.z,trivial⟩⟩
  intro hk_tr_ref16_typ_3_0
  refine ct rfl gn rfl (fun w' hw'=>(am (l:=[vi 2,vi r5.1,vi r7.1,vi r9.1,vi r11.1]) rfl et qr rfl cD ((CA.blk (hI.blk .z) rfl).at_ (SX.any rfl hw')))) (by kernel_rfl) ?_
  refine da ?_ ?_
  ·skip
   refine bn rfl gn rfl (am (l:=(ah r14 a13 c39)) rfl et j5 rfl aG (CellsAt.of_blk (hI.blk (.s (.s (.s .z)))) rfl)) SX.self ?_
   refine bJ (F:=F) (C:=c40) rfl rfl ?_
   refine vA fun c41 w42 hI=> ?_
   exact aW (hk_tr_ref16_typ_3_0 c41 _ (hI.arr GO SU)) SB
  refine bu (F:=F) (C:=c40) rfl rfl ?_
  refine vA fun c41 w42 hI=> ?_
  refine bn rfl gn rfl (am (l:=(ah r14 a13 c39)) rfl et j5 rfl aG (CellsAt.of_blk (hI.blk (.s (.s (.s .z)))) rfl)) SX.self ?_
  exact aW (hk_tr_ref16_typ_3_0 c41 _ (hI.arr GO SU)) SB
 refine T ?_
 refine al (aI [2,3] false (.c (0,.q) (.two 1 (.c (2,.s) l7) 2 (.c (1,.s) l7))) hI (by kernel_rfl) (by kernel_rfl) ?_)
 intro w49 hI
 refine cj (α:=NP) (T:=l7) (fun x=>[(1,vp b1 0),(2,vp b2 0),(3,vp b3 0),(4,vi p1.At),(9,vp b6 0),(66,vp b1 3),(67,vi r12.E),(68,(vb (decide (r12.E=0)))),(69,(vb (decide (r12.E=0)))),(70,(gv (decide (r12.E=0)) (Value.agg #[vi 2,vi r5.1,vi r7.1,vi r9.1,vi r11.1]))),(71,(gv (decide (r12.E=0)) (vb r13))),(72,(gv (decide (r12.E=0)) (vb (!r13)))),(73,(vb ((decide (r12.E=0))&&(!r13)))),(77,(Value.agg #[vi 2,vi r5.1,vi r7.1,vi r9.1,vi r11.1])),(78,(Value.agg (ab r12 a12 c35)))]) (fun x w=>Bun du F w0 x w [MO.box b6 35 #[vi 2,vi r5.1,vi r7.1,vi r9.1,vi r11.1],MO.box b3 72 au,MO.box b2 35 #[vi 2,vi r5.1,vi r7.1,vi r9.1,vi r11.1],MO.box b1 72 (ab r12 a12 c35)] [Cl.sl ag a12 c35 r12.L,Cl.sl ag a11 c33 r11.2.L,Cl.sl dF (some ⟨b5,0,none⟩) 2 ([([115,97,116]:List UInt8),([119,114,97,112]:List UInt8)]:List (List UInt8)),Cl.sl ag a10 c29 r10.L,Cl.sl ag a9 c27 r9.2.L,Cl.sl dF (some ⟨b4,0,none⟩) 4 ([([102,108,111,111,114]:List UInt8),([99,101,105,108]:List UInt8),([122,101,114,111]:List UInt8),([101,118,101,110]:List UInt8)]:List (List UInt8)),Cl.sl ag a8 c23 r8.L,Cl.sl ag a7 c21 r7.2.L,Cl.sl ag a6 c19 r6.L,Cl.sl ag a5 c17 r5.2.L,Cl.sl ag a4 c15 r4.L,Cl.sl ag a3 c14 r3.L,Cl.sl ag a1 c1 p1.L]) (fun x w=>SN [] (DM true F x) w) ?_ ?_
 ·clear hI;rintro c46 w48 hI
  try dsimp only at hI ⊢
  unfold l7
  refine vA fun c45 w47 hI=> ?_
  refine V ?_
  refine aA ?_
  obtain rfl:=aj h
  refine QG ?_
  exact⟨a12,c35,rfl,hI.ext0,hI.fin ⟨.z,trivial⟩⟩
 intro hk_tr_ref16_typ_4_0
 refine ct rfl gn rfl (fun w' hw'=>(am (l:=[vi 2,vi r5.1,vi r7.1,vi r9.1,vi r11.1]) rfl et qr rfl cD ((CA.blk (hI.blk .z) rfl).at_ (SX.any rfl hw')))) (by kernel_rfl) ?_
 refine da ?_ ?_
 ·skip
  refine bn rfl gn rfl (am (l:=(ah r12 a12 c35)) rfl et j5 rfl aG (CellsAt.of_blk (hI.blk (.s (.s (.s .z)))) rfl)) SX.self ?_
  refine bJ (F:=F) (C:=c38) rfl rfl ?_
  refine vA fun c44 w46 hI=> ?_
  exact aW (hk_tr_ref16_typ_4_0 c44 _ (hI.arr GO SU)) SB
 refine bu (F:=F) (C:=c38) rfl rfl ?_
 refine vA fun c44 w46 hI=> ?_
 refine bn rfl gn rfl (am (l:=(ah r12 a12 c35)) rfl et j5 rfl aG (CellsAt.of_blk (hI.blk (.s (.s (.s .z)))) rfl)) SX.self ?_
 exact aW (hk_tr_ref16_typ_4_0 c44 _ (hI.arr GO SU)) SB
def lm:Tr:=(.c (3,.s) .n)
abbrev It (f_:(ac→Int→Option (GExpr×ac))):Prop:=∀ ⦃F:NP⦄ ⦃w0:World⦄ (hF:dG F w0) ⦃p1:ac⦄ ⦃n1:Int⦄ ⦃a1:Option Addr⦄ ⦃c1:Nat⦄ (hc:AllCl [Cl.sl ag a1 c1 p1.L] F w0) ⦃r:GExpr×ac⦄ (h:f_ p1 n1=some r),Cg 80 #[(Value.agg (ab p1 a1 c1)),vi n1] w0 fun e w=>∃ a2 c2 a3 c3 a4 c4 a5 c5,e= .returned (Value.tuple #[(Value.agg (aq r.1 a2 c2 a3 c3 a4 c4)),(Value.agg (ab r.2 a5 c5))])∧Ext w0 w∧AllCl [Cl.sl ai a2 c2 r.1.Lin.L,Cl.sl ak a3 c3 r.1.Idx,Cl.sl an a4 c4 r.1.Args,Cl.sl ag a5 c5 r.2.L] F w
theorem ny {rec_:(ac→Int→Option (GExpr×ac))} (hrec:It rec_) (hF:dG F w0) {p1:ac} {op1 many1:Int} {typed1:Bool} (hc:AllCl [Cl.sl ag a1 c1 p1.L] F w0) {r:GExpr×ac} (h:dO rec_ p1 op1 many1 typed1=some r):Cg 209 #[(Value.agg (ab p1 a1 c1)),vi op1,vi many1,vb typed1] w0 fun e w=>∃ a2 c2 a3 c3 a4 c4 a5 c5,e= .returned (Value.tuple #[(Value.agg (aq r.1 a2 c2 a3 c3 a4 c4)),(Value.agg (ab r.2 a5 c5))])∧Ext w0 w∧AllCl [Cl.sl ai a2 c2 r.1.Lin.L,Cl.sl ak a3 c3 r.1.Idx,Cl.sl an a4 c4 r.1.Args,Cl.sl ag a5 c5 r.2.L] F w:=by
 refine EN Tryz.func209 Tryz.ntmps209 hF hc fun hI=> ?_
 rw[dO]at h
 refine sr (mS (v:=(Value.agg (ab p1 a1 c1))) (cs:=(ab p1 a1 c1)) hI gn rfl rfl et rfl ?_)
 intro b1 c6 w1 hI
 refine lN fun b2 c7 w2 hI=> ?_
 refine lN fun b3 c8 w3 hI=> ?_
 refine T ?_
 refine sq (ax (vs:=[(0,vi op1)]) (cs:=#[vi op1,(aE ([]:List UInt8)),vi 0,vi 0,vi 0,vi 0,vi 0,vi 0,vi 0,vi 0,vs none 0 0,vs none 0 0,vs none 0 0]) rfl ⟨rfl,et,trivial⟩ (by kernel_rfl)) ?_
 refine lN fun b4 c9 w4 hI=> ?_
 refine ba (new:=[vi op1,(aE ([]:List UInt8)),vi 0,vi 0,vi 0,vi 0,vi 0,vi 0,vi 0,vi 0,vs none 0 0,vs none 0 0,vs none 0 0]) (cs':=#[vi op1,(aE ([]:List UInt8)),vi 0,vi 0,vi 0,vi 0,vi 0,vi 0,vi 0,vi 0,vs none 0 0,vs none 0 0,vs none 0 0]) hI .z gn rfl rfl et et rfl aC rfl rfl rfl ?_
 intro c10 w5 hI
 refine T ?_
 refine al (T ?_)
 refine sB h (fun _ k=>bv hI.lt FS k) (Rc Tryz.func72) fun r1 w6 h hI=> ?_
 refine TC (fun hb h=> ?_) fun hb h=> ?_
 ·refine sr (sq (ax (vs:=[]) (cs:=#[vi 0,(aE ([]:List UInt8)),vi 0,vi 0,vi 0,vi 0,vi 0,vi 0,vi 0,vi 0,vs none 0 0,vs none 0 0,vs none 0 0]) rfl trivial (by kernel_rfl)) ?_)
  refine T ?_
  obtain⟨r2,hx3,h⟩:=ae h
  refine aB gn rfl (Rc Tryz.func41) (Calls.mono (lc hI.lt FS hx3) ?_)
  rintro _ w7 ⟨a6,c11,rfl,hx4,hl2⟩
  refine⟨_,rfl,?_⟩
  replace hI:=(hI.ext hx4).adds hl2;dsimp only[ca,na]at hI
  refine ba (new:=[vi 0,(aE ([]:List UInt8)),vi 0,vi 0,vi 0,vi 0,vi 0,vi 0,vi 0,vi 0,vs none 0 0,vs none 0 0,vs none 0 0]) (cs':=#[vi 0,(aE ([]:List UInt8)),vi 0,vi 0,vi 0,vi 0,vi 0,vi 0,vi 0,vi 0,vs none 0 0,vs none 0 0,vs none 0 0]) hI (.s (.s .z)) gn rfl rfl et et rfl aC rfl rfl rfl ?_
  intro c12 w8 hI
  refine ba (new:=(ah r2 a6 c11)) (cs':=(ab r2 a6 c11)) hI (.s .z) gn rfl rfl et et rfl aG rfl rfl rfl ?_
  intro c13 w9 hI
  refine nk (aA ?_)
  have hI:=hI.add (c:=Cl.sl ai none 0 ([]:List GMono)) SlC.nil
  have hI:=hI.add (c:=Cl.sl ak none 0 ([]:List GIndex)) SlC.nil
  have hI:=hI.add (c:=Cl.sl an none 0 ([]:List GExpr)) SlC.nil
  obtain rfl:=aj h
  exact eV (vs:=[(Value.agg #[vi 0,(aE ([]:List UInt8)),vi 0,vi 0,vi 0,vi 0,vi 0,vi 0,vi 0,vi 0,vs none 0 0,vs none 0 0,vs none 0 0]),(Value.agg (ab r2 a6 c11))]) Tryz.results209 ⟨⟨_,aK rfl rfl,ci (l:=[vi 0,(aE ([]:List UInt8)),vi 0,vi 0,vi 0,vi 0,vi 0,vi 0,vi 0,vi 0,vs none 0 0,vs none 0 0,vs none 0 0]) jT rfl aC (CellsAt.of_blk (hI.blk (.s (.s .z))) rfl)⟩,⟨⟨_,aK rfl rfl,ci (l:=(ah r2 a6 c11)) j5 rfl aG (CellsAt.of_blk (hI.blk (.s .z)) rfl)⟩,trivial⟩⟩ ⟨none,0,none,0,none,0,a6,c11,rfl,hI.ext0,hI.fin ⟨(.s (.s .z)),(.s .z),.z,(.s (.s (.s .z))),trivial⟩⟩
 refine T ?_
 obtain⟨r3,hx5,h⟩:=ae h
 refine aB gn rfl (Rc Tryz.func150) (Calls.mono (qU hI.lt FS hx5) ?_)
 rintro _ w10 ⟨a7,c14,rfl,hx6,hl3⟩
 refine⟨_,rfl,?_⟩
 replace hI:=(hI.ext hx6).adds hl3;dsimp only[ca,na]at hI
 refine ba (new:=(ah r3 a7 c14)) (cs':=(ab r3 a7 c14)) hI (.s (.s (.s .z))) gn rfl rfl et et rfl aG rfl rfl rfl ?_
 intro c15 w11 hI
 refine nk (bw (α:=GExpr×ac×(Option Addr)×Nat×(Option Addr)×Nat×(Option Addr)×Nat×(Option Addr)×Nat) (fun _=>⟨68,[]⟩) (fun x=>[(2,vi many1),(3,vb typed1),(4,vp b1 0),(8,vp b2 0),(9,vp b3 0),(10,vp b4 0),(11,vi p1.Deep)]) (fun x=>fun w=>∃ C,Bun du F w0 C w [MO.row ai 64 (x.2.2.1) (x.2.2.2.1) (x.1).Lin.L,MO.row ak 132 (x.2.2.2.2.1) (x.2.2.2.2.2.1) (x.1).Idx,MO.row an 39 (x.2.2.2.2.2.2.1) (x.2.2.2.2.2.2.2.1) (x.1).Args,MO.box b1 72 (ab (x.2.1) (x.2.2.2.2.2.2.2.2.1) (x.2.2.2.2.2.2.2.2.2)),MO.box b2 39 #[vi 0,(aE ([]:List UInt8)),vi 0,vi 0,vi 0,vi 0,vi 0,vi 0,vi 0,vi 0,vs none 0 0,vs none 0 0,vs none 0 0],MO.box b3 72 au,MO.box b4 39 (aq (x.1) (x.2.2.1) (x.2.2.2.1) (x.2.2.2.2.1) (x.2.2.2.2.2.1) (x.2.2.2.2.2.2.1) (x.2.2.2.2.2.2.2.1))] [Cl.sl ag (x.2.2.2.2.2.2.2.2.1) (x.2.2.2.2.2.2.2.2.2) (x.2.1).L]∧dW many1 typed1 rec_ p1 (x.1) (x.2.1)=some r) ?_ ?_)
 ·clear h hI;rintro⟨bg,p2,a8,c16,a9,c17,a10,c18,a11,c19⟩ w12 ⟨c20,hI,h⟩
  try dsimp only at hI h ⊢
  rw[dW]at h
  refine bw (α:=ac×GExpr×(Option Addr)×Nat×(Option Addr)×Nat×(Option Addr)×Nat×(Option Addr)×Nat) (fun _=>⟨68,[]⟩) (fun x=>[(4,vp b1 0),(8,vp b2 0),(9,vp b3 0),(10,vp b4 0),(11,vi p1.Deep)]) (fun x=>fun w=>∃ C,Bun du F w0 C w [MO.row ai 64 (x.2.2.2.2.1) (x.2.2.2.2.2.1) (x.2.1).Lin.L,MO.row ak 132 (x.2.2.2.2.2.2.1) (x.2.2.2.2.2.2.2.1) (x.2.1).Idx,MO.row an 39 (x.2.2.2.2.2.2.2.2.1) (x.2.2.2.2.2.2.2.2.2) (x.2.1).Args,MO.box b1 72 (ab (x.1) (x.2.2.1) (x.2.2.2.1)),MO.box b2 39 #[vi 0,(aE ([]:List UInt8)),vi 0,vi 0,vi 0,vi 0,vi 0,vi 0,vi 0,vi 0,vs none 0 0,vs none 0 0,vs none 0 0],MO.box b3 72 au,MO.box b4 39 (aq (x.2.1) (x.2.2.2.2.1) (x.2.2.2.2.2.1) (x.2.2.2.2.2.2.1) (x.2.2.2.2.2.2.2.1) (x.2.2.2.2.2.2.2.2.1) (x.2.2.2.2.2.2.2.2.2))] [Cl.sl ag (x.2.2.1) (x.2.2.2.1) (x.1).L]∧iA p1 (x.1) (x.2.1)=some r) ?_ ?_
  ·clear h hI;rintro⟨p3,out2,a12,c21,a13,c22,a14,c23,a15,c24⟩ w13 ⟨c25,hI,h⟩
   try dsimp only at hI h ⊢
   rw[iA]at h
   refine T ?_
   obtain⟨r4,hx7,h⟩:=ae h
   refine aB gn rfl (Rc Tryz.func110) (Calls.mono (cr hI.lt FS hx7) ?_)
   rintro _ w14 ⟨a16,c26,rfl,hx8,hl4⟩
   refine⟨_,rfl,?_⟩
   replace hI:=(hI.ext hx8).adds hl4;dsimp only[ca,na]at hI
   refine ba (new:=(ah r4 a16 c26)) (cs':=(ab r4 a16 c26)) hI (.s (.s (.s .z))) gn rfl rfl et et rfl aG rfl rfl rfl ?_
   intro c27 w15 hI
   refine T ?_
   refine lS fun c28 w16 hI=> ?_
   refine nk (al (aI [2,3] false (.c (0,.q) (.two 1 (.c (2,.s) lm) 2 (.c (1,.s) lm))) hI (by kernel_rfl) (by kernel_rfl) ?_))
   intro w20 hI
   refine cj (α:=NP) (T:=lm) (fun x=>[(4,vp b1 0),(8,vp b2 0),(9,vp b3 0),(10,vp b4 0),(11,vi p1.Deep),(62,(Value.agg (ab p3 a12 c21))),(63,(Value.agg (ab r4 a16 c26))),(64,vi p1.Deep),(65,vp b1 2),(66,(Value.agg (aq out2 a13 c22 a14 c23 a15 c24))),(67,(Value.agg #[vs a16 r4.L.length c26,vi r4.At,vi p1.Deep,vi r4.E,vi r4.Pos]))]) (fun x w=>Bun du F w0 x w [MO.row ai 64 a13 c22 out2.Lin.L,MO.row ak 132 a14 c23 out2.Idx,MO.row an 39 a15 c24 out2.Args,MO.box b1 72 #[vs a16 r4.L.length c26,vi r4.At,vi p1.Deep,vi r4.E,vi r4.Pos],MO.box b2 39 (aq out2 a13 c22 a14 c23 a15 c24),MO.box b3 72 au,MO.box b4 39 (aq out2 a13 c22 a14 c23 a15 c24)] [Cl.sl ag a16 c26 r4.L,Cl.sl ag a12 c21 p3.L]) (fun x w=>SN [] (DM true F x) w) ?_ ?_
   ·clear hI;rintro c31 w19 hI
    try dsimp only at hI ⊢
    unfold lm
    refine vA fun c30 w18 hI=> ?_
    refine V ?_
    refine aA ?_
    obtain⟨c32,hI⟩:=hI.release .z
    obtain⟨c33,hI⟩:=hI.release .z
    obtain⟨c34,hI⟩:=hI.release .z
    obtain rfl:=aj h
    exact eV (vs:=[(Value.agg (aq out2 a13 c22 a14 c23 a15 c24)),(Value.agg #[vs a16 r4.L.length c26,vi r4.At,vi p1.Deep,vi r4.E,vi r4.Pos])]) Tryz.results209 ⟨⟨_,aK rfl rfl,ci (l:=(aX out2 a13 c22 a14 c23 a15 c24)) jT rfl aC (CellsAt.of_blk (hI.blk (.s .z)) rfl)⟩,⟨⟨_,aK rfl rfl,ci (l:=[vs a16 r4.L.length c26,vi r4.At,vi p1.Deep,vi r4.E,vi r4.Pos]) j5 rfl aG (CellsAt.of_blk (hI.blk (.s (.s .z))) rfl)⟩,trivial⟩⟩ ⟨a13,c22,a14,c23,a15,c24,a16,c26,rfl,hI.ext0,hI.fin ⟨(.s (.s .z)),(.s .z),.z,(.s (.s (.s .z))),trivial⟩⟩
   intro hk_tr_ref16_call_1_0
   refine ct rfl gn rfl (fun w' hw'=>(am (l:=(aX out2 a13 c22 a14 c23 a15 c24)) rfl et jT rfl aC ((CA.blk (hI.blk (.s (.s (.s (.s (.s (.s .z))))))) rfl).at_ (SX.any rfl hw')))) (by kernel_rfl) ?_
   refine da ?_ ?_
   ·skip
    refine bn rfl gn rfl (am (l:=[vs a16 r4.L.length c26,vi r4.At,vi p1.Deep,vi r4.E,vi r4.Pos]) rfl et j5 rfl aG (CellsAt.of_blk (hI.blk (.s (.s (.s .z)))) rfl)) SX.self ?_
    refine bJ (F:=F) (C:=c28) rfl rfl ?_
    refine vA fun c29 w17 hI=> ?_
    exact aW (hk_tr_ref16_call_1_0 c29 _ (hI.arr (.c .z (.c .z (.c .z (.c .z (.c .z (.c .z (.c .z .n))))))) ⟨.z,(.s .z),trivial⟩)) ⟨rfl,rfl,rfl,rfl,rfl,rfl,rfl,rfl,rfl,rfl,rfl,trivial⟩
   refine bu (F:=F) (C:=c28) rfl rfl ?_
   refine vA fun c29 w17 hI=> ?_
   refine bn rfl gn rfl (am (l:=[vs a16 r4.L.length c26,vi r4.At,vi p1.Deep,vi r4.E,vi r4.Pos]) rfl et j5 rfl aG (CellsAt.of_blk (hI.blk (.s (.s (.s .z)))) rfl)) SX.self ?_
   exact aW (hk_tr_ref16_call_1_0 c29 _ (hI.arr (.c .z (.c .z (.c .z (.c .z (.c .z (.c .z (.c .z .n))))))) ⟨.z,(.s .z),trivial⟩)) ⟨rfl,rfl,rfl,rfl,rfl,rfl,rfl,rfl,rfl,rfl,rfl,trivial⟩
  refine T ?_
  refine bh (α:=Nat×Int×ac×GExpr×(Option Addr)×Nat×(Option Addr)×Nat×(Option Addr)×Nat×(Option Addr)×Nat) (fun x=>fun w=>∃ C,Bun du F w0 C w [MO.row ai 64 (x.2.2.2.2.2.2.1) (x.2.2.2.2.2.2.2.1) (x.2.2.2.1).Lin.L,MO.row ak 132 (x.2.2.2.2.2.2.2.2.1) (x.2.2.2.2.2.2.2.2.2.1) (x.2.2.2.1).Idx,MO.row an 39 (x.2.2.2.2.2.2.2.2.2.2.1) (x.2.2.2.2.2.2.2.2.2.2.2) (x.2.2.2.1).Args,MO.box b1 72 (ab (x.2.2.1) (x.2.2.2.2.1) (x.2.2.2.2.2.1)),MO.box b2 39 #[vi 0,(aE ([]:List UInt8)),vi 0,vi 0,vi 0,vi 0,vi 0,vi 0,vi 0,vi 0,vs none 0 0,vs none 0 0,vs none 0 0],MO.box b3 72 au,MO.box b4 39 (aq (x.2.2.2.1) (x.2.2.2.2.2.2.1) (x.2.2.2.2.2.2.2.1) (x.2.2.2.2.2.2.2.2.1) (x.2.2.2.2.2.2.2.2.2.1) (x.2.2.2.2.2.2.2.2.2.2.1) (x.2.2.2.2.2.2.2.2.2.2.2))] [Cl.sl ag (x.2.2.2.2.1) (x.2.2.2.2.2.1) (x.2.2.1).L]∧bK many1 typed1 rec_ p1 (x.1) (x.2.1) (x.2.2.1) (x.2.2.2.1)=some r) (fun x _=>x.1) (fun x=>[(2,vi many1),(3,vb typed1),(4,vp b1 0),(8,vp b2 0),(9,vp b3 0),(10,vp b4 0),(11,vi p1.Deep),(14,vi (x.2.1))]) (fu,0,p2,bg,a11,c19,a8,c16,a9,c17,a10,c18) ⟨_,hI.arr (.c .z (.c .z (.c .z (.c .z (.c .z (.c .z (.c .z .n))))))) ⟨.z,trivial⟩,h⟩ ⟨rfl,rfl,rfl,rfl,rfl,rfl,rfl,rfl,trivial⟩ ?_
  clear h hI;rintro⟨fuel1,i1,p4,out3,a17,c35,a18,c36,a19,c37,a20,c38⟩ w21 ⟨c39,hI,h⟩
  dsimp only at hI h ⊢
  rcases fuel1 with _ | fuel1
  ·rw[bK]at h;cases h
  rw[bK]at h
  refine al (T ?_)
  refine TC (fun hb h=> ?_) fun hb h=> ?_
  ·refine T ?_
   refine al (T ?_)
   refine bw (α:=ac×(Option Addr)×Nat) (fun _=>⟨68,[]⟩) (fun x=>[(2,vi many1),(3,vb typed1),(4,vp b1 0),(8,vp b2 0),(9,vp b3 0),(10,vp b4 0),(11,vi p1.Deep),(14,vi i1)]) (fun x=>fun w=>∃ C,Bun du F w0 C w [MO.box b1 72 (ab (x.1) (x.2.1) (x.2.2)),MO.box b2 39 #[vi 0,(aE ([]:List UInt8)),vi 0,vi 0,vi 0,vi 0,vi 0,vi 0,vi 0,vi 0,vs none 0 0,vs none 0 0,vs none 0 0],MO.box b3 72 au,MO.box b4 39 (aq out3 a18 c36 a19 c37 a20 c38),MO.row ai 64 a18 c36 out3.Lin.L,MO.row ak 132 a19 c37 out3.Idx,MO.row an 39 a20 c38 out3.Args] [Cl.sl ag (x.2.1) (x.2.2) (x.1).L]∧dV rec_ out3 (bK many1 typed1 rec_ p1 fuel1) i1 (x.1)=some r) ?_ ?_
   ·clear h hI;rintro⟨p5,a21,c40⟩ w22 ⟨c41,hI,h⟩
    try dsimp only at hI h ⊢
    rw[dV]at h
    refine T ?_
    obtain⟨r5,hx9,h⟩:=ae h
    refine aB gn rfl (Rc Tryz.func80) (Calls.mono (hrec hI.lt FS hx9) ?_)
    rintro _ w23 ⟨a22,c42,a23,c43,a24,c44,a25,c45,rfl,hx10,hl5⟩
    refine⟨_,rfl,?_⟩
    replace hI:=(hI.ext hx10).adds hl5;dsimp only[ca,na]at hI
    refine T ?_
    refine lN fun b5 c46 w24 hI=> ?_
    refine lN fun b6 c47 w25 hI=> ?_
    refine ba (new:=(aX r5.1 a22 c42 a23 c43 a24 c44)) (cs':=(aq r5.1 a22 c42 a23 c43 a24 c44)) hI (.s .z) gn rfl rfl et et rfl aC rfl rfl rfl ?_
    intro c48 w26 hI
    refine ba (new:=(ah r5.2 a25 c45)) (cs':=(ab r5.2 a25 c45)) hI .z gn rfl rfl et et rfl aG rfl rfl rfl ?_
    intro c49 w27 hI
    refine T ?_
    refine ll hI an ([r5.1]:List GExpr) jr (.cs (dM ⟨a22,c42,a23,c43,a24,c44,rfl,hI.get .z,hI.get (.s .z),hI.get (.s (.s .z))⟩) .nl) fun b7 c50 w28 hI=> ?_
    obtain⟨zs1,hx11,h⟩:=ae h
    refine lY (xs:=out3.Args) (ys:=([r5.1]:List GExpr)) hI (.s (.s (.s (.s (.s (.s (.s (.s (.s .z))))))))) (hI.rd .z) hx11 gn rfl rfl HA jr rfl rfl et et ?_
    intro a26 c51 c52 w29 hI
    refine T ?_
    refine lS fun c53 w30 hI=> ?_
    refine T ?_
    refine ba (new:=(ah r5.2 a25 c45)) (cs':=(ab r5.2 a25 c45)) hI (.s (.s (.s .z))) gn rfl rfl et et rfl aG rfl rfl rfl ?_
    intro c54 w31 hI
    refine T ?_
    refine aM ?_
    exact jY (fuel1,ar (i1+1),r5.2,(⟨out3.Op,out3.Name,out3.Val,out3.Type_,out3.Lin,out3.Idx,zs1⟩:GExpr),a25,c45,a18,c36,a19,c37,a26,c51) ⟨rfl,rfl,rfl,rfl,rfl,rfl,rfl,rfl,trivial⟩ ⟨_,hI.arr (.c (.s (.s (.s (.s (.s (.s (.s .z))))))) (.c (.s (.s (.s (.s (.s (.s (.s .z))))))) (.c (.s (.s (.s (.s (.s (.s (.s .z))))))) (.c (.s (.s (.s .z))) (.c (.s (.s (.s .z))) (.c (.s (.s (.s .z))) (.c (.s (.s (.s .z))) .n))))))) ⟨(.s (.s (.s .z))),trivial⟩,h⟩ (Nat.lt_succ_self _)
   refine TC (fun hb h=> ?_) fun hb h=> ?_
   ·refine T ?_
    obtain⟨r6,hx12,h⟩:=ae h
    refine aB gn rfl (Rc Tryz.func110) (Calls.mono (cr hI.lt FS hx12) ?_)
    rintro _ Dv ⟨a27,c55,rfl,hx13,hl6⟩
    refine⟨_,rfl,?_⟩
    replace hI:=(hI.ext hx13).adds hl6;dsimp only[ca,na]at hI
    refine ba (new:=(ah r6 a27 c55)) (cs':=(ab r6 a27 c55)) hI (.s (.s (.s .z))) gn rfl rfl et et rfl aG rfl rfl rfl ?_
    intro c56 w33 hI
    refine aM ?_
    exact bi (r6,a27,c55) ⟨rfl,rfl,rfl,rfl,rfl,rfl,rfl,rfl,trivial⟩ ⟨_,hI.arr (.c (.s (.s (.s .z))) (.c (.s (.s (.s .z))) (.c (.s (.s (.s .z))) (.c (.s (.s (.s .z))) (.c .z (.c .z (.c .z .n))))))) ⟨.z,trivial⟩,h⟩ rfl
   exact bf (bi (p4,a17,c35) ⟨rfl,rfl,rfl,rfl,rfl,rfl,rfl,rfl,trivial⟩ ⟨_,hI.arr (.c (.s (.s (.s .z))) (.c (.s (.s (.s .z))) (.c (.s (.s (.s .z))) (.c (.s (.s (.s .z))) (.c .z (.c .z (.c .z .n))))))) ⟨.z,trivial⟩,h⟩ rfl)
  refine bk ?_
  refine eU ?_
  exact bi (p4,out3,a17,c35,a18,c36,a19,c37,a20,c38) ⟨rfl,rfl,rfl,rfl,rfl,trivial⟩ ⟨_,hI.arr (.c .z (.c .z (.c .z (.c .z (.c .z (.c .z (.c .z .n))))))) ⟨.z,trivial⟩,h⟩ rfl
 refine TC (fun hb h=> ?_) fun hb h=> ?_
 ·refine T ?_
  obtain⟨r7,hx14,h⟩:=ae h
  refine aB gn rfl (Rc Tryz.func178) (Calls.mono (ur hI.lt FS hx14) ?_)
  rintro _ w34 ⟨a28,c57,rfl,hx15,hl7⟩
  refine⟨_,rfl,?_⟩
  replace hI:=(hI.ext hx15).adds hl7;dsimp only[ca,na]at hI
  refine T ?_
  refine lN fun b8 c58 w35 hI=> ?_
  refine lN fun b9 c59 w36 hI=> ?_
  refine ba (new:=(dD r7.1)) (cs':=(co r7.1)) hI (.s .z) gn rfl rfl et et rfl cD rfl rfl rfl ?_
  intro c60 w37 hI
  refine ba (new:=(ah r7.2 a28 c57)) (cs':=(ab r7.2 a28 c57)) hI .z gn rfl rfl et et rfl aG rfl rfl rfl ?_
  intro c61 w38 hI
  refine T ?_
  refine ba (new:=(dD r7.1)) (cs':=#[vi op1,(aE ([]:List UInt8)),vi 0,vi 0,vi r7.1.Kind,vi r7.1.Bits,vi r7.1.Frac,vi r7.1.Round,vi r7.1.Over,vi 0,vs none 0 0,vs none 0 0,vs none 0 0]) hI (.s (.s .z)) gn rfl rfl et et rfl cD rfl rfl rfl ?_
  intro c62 w39 hI
  refine T ?_
  refine ba (new:=(ah r7.2 a28 c57)) (cs':=(ab r7.2 a28 c57)) hI (.s (.s (.s (.s (.s .z))))) gn rfl rfl et et rfl aG rfl rfl rfl ?_
  intro c63 w40 hI
  refine aM ?_
  have hI:=hI.nil ai 64 none
  have hI:=hI.nil ak 132 none
  have hI:=hI.nil an 39 none
  exact bi ((⟨op1,([]:List UInt8),(⟨0,0⟩:GVal),r7.1,(⟨0,([]:List GMono)⟩:GLin),([]:List GIndex),([]:List GExpr)⟩:GExpr),r7.2,none,0,none,0,none,0,a28,c57) ⟨rfl,rfl,rfl,rfl,rfl,rfl,rfl,trivial⟩ ⟨_,hI.arr (.c (.s (.s .z)) (.c (.s .z) (.c .z (.c (.s (.s (.s (.s (.s .z))))) (.c (.s (.s (.s (.s .z)))) (.c (.s (.s (.s .z))) (.c (.s (.s .z)) .n))))))) ⟨.z,trivial⟩,h⟩ rfl
 refine bf ?_
 have hI:=hI.nil ai 64 none
 have hI:=hI.nil ak 132 none
 have hI:=hI.nil an 39 none
 exact bi ((⟨op1,([]:List UInt8),(⟨0,0⟩:GVal),(⟨0,0,0,0,0⟩:GType),(⟨0,([]:List GMono)⟩:GLin),([]:List GIndex),([]:List GExpr)⟩:GExpr),r3,none,0,none,0,none,0,a7,c14) ⟨rfl,rfl,rfl,rfl,rfl,rfl,rfl,trivial⟩ ⟨_,hI.arr (.c (.s (.s .z)) (.c (.s .z) (.c .z (.c (.s (.s (.s .z))) (.c (.s (.s .z)) (.c (.s .z) (.c .z .n))))))) ⟨.z,trivial⟩,h⟩ rfl
theorem us (hF:dG F w0) {p1:ac} {l1:List (List UInt8)} (hc:AllCl [Cl.sl ag a1 c1 p1.L,Cl.sl dF a2 c2 l1] F w0) {r:Bool} (h:lE p1 l1=some r):CR F w0 181 #[(Value.agg (ab p1 a1 c1)),vs a2 l1.length c2] (vb r) []:=by
 refine EN Tryz.func181 Tryz.ntmps181 hF hc fun hI=> ?_
 rw[lE]at h
 refine sr (lX fun b1 c4 w1 hI=> ?_)
 refine T ?_
 refine al (T ?_)
 refine bh (α:=Nat×Int) (fun x=>fun w=>∃ C,Bun du F w0 C w [] [Cl.sl dF a2 c2 l1,Cl.blk b1 72 (ab p1 a1 c1),Cl.sl ag a1 c1 p1.L]∧eI l1 p1 (x.1) (x.2)=some r) (fun x _=>x.1) (fun x=>[(1,vs a2 l1.length c2),(2,vp b1 0),(5,vi (x.2))]) (fu,0) BH SB ?_
 clear h hI;rintro⟨fuel1,i1⟩ w2 ⟨c5,hI,h⟩
 dsimp only at hI h ⊢
 rcases fuel1 with _ | fuel1
 ·rw[eI]at h;cases h
 rw[eI]at h
 refine al (T ?_)
 refine TC (fun hb h=> ?_) fun hb h=> ?_
 ·refine T ?_
  refine al (T ?_)
  refine al (aI [] false (.c (0,.q) (.c (1,.q) (.c (2,.q) (.c (3,.q) (.c (4,.q) (.c (5,.s) .n)))))) hI (by kernel_rfl) (by kernel_rfl) ?_)
  intro w3 hI
  refine ct rfl gn rfl (fun w' hw'=>(am (l:=(ah p1 a1 c1)) rfl et j5 rfl aG ((hI.kblk (l:=(ah p1 a1 c1)) (.s .z) rfl).at_ (SX.any rfl hw')))) (by kernel_rfl) ?_
  refine V ?_
  obtain⟨e1,hx1,h⟩:=ae h
  obtain⟨ad1,cs1,hA1,hr1,hq1⟩:=hI.clat .z hx1
  obtain rfl:cs1=[(aE e1)]:=hr1
  refine vI ?_
  refine V ?_
  obtain⟨r1,hx2,h⟩:=ae h
  refine dC rfl gn rfl (aF (vs:=[(Value.agg (ab p1 a1 c1)),vi 0,(aE e1)]) rfl FY ⟨et,⟨ao,⟨et,trivial⟩⟩⟩) (Calls.mono (bv hI.lt FS hx2) ?_)
  rintro _ w4 ⟨rfl,hx3,hl1⟩
  refine⟨_,rfl,hx3,?_⟩
  replace hI:=(hI.ext hx3)
  refine V ?_
  refine TR fun hb h=> ?_
  refine T ?_
  refine aM ?_
  exact kl (fuel1,ar (i1+1))
 refine bk ?_
 refine eU ?_
 refine bb ?_
 exact RF
theorem rT (hF:dG F w0) {s1:List UInt8} (hc:AllCl [] F w0) {r:Bool} (h:kZ s1=some r):CR F w0 249 #[(aE s1)] (vb r) []:=by
 refine EN Tryz.func249 Tryz.ntmps249 hF hc fun hI=> ?_
 rw[kZ]at h
 refine T ?_
 refine bw (α:=Int) (fun _=>⟨45,[]⟩) (fun x=>[(0,(aE s1)),(3,vi x)]) (fun x=>fun w=>∃ C,Bun du F w0 C w [] []∧fh s1 x=some r) ?_ ?_
 ·clear h hI;rintro from1 w1 ⟨c1,hI,h⟩
  try dsimp only at hI h ⊢
  rw[fh]at h
  refine bw (α:=Unit) (fun _=>⟨45,[]⟩) (fun _=>[(0,(aE s1)),(3,vi from1)]) (fun _=>fun w=>∃ C,Bun du F w0 C w [] []∧gW from1 s1=some r) ?_ ?_
  ·clear h hI;rintro _ w2 ⟨c2,hI,h⟩
   try dsimp only at hI h ⊢
   rw[gW]at h
   refine T ?_
   obtain⟨b1,hx1,h⟩:=ae h
   replace hx1:=ay hx1
   refine sJ ?_
   exact RF
  refine T ?_
  refine bh (α:=Nat×Int) (fun x=>fun w=>∃ C,Bun du F w0 C w [] []∧jd s1 from1 (x.1) (x.2)=some r) (fun x _=>x.1) (fun x=>[(0,(aE s1)),(3,vi from1),(4,vi (x.2))]) (fu,from1) BH SB ?_
  clear h hI;rintro⟨fuel1,i1⟩ w3 ⟨c3,hI,h⟩
  dsimp only at hI h ⊢
  rcases fuel1 with _ | fuel1
  ·rw[jd]at h;cases h
  rw[jd]at h
  refine al (T ?_)
  refine TC (fun hb h=> ?_) fun hb h=> ?_
  ·refine T ?_
   refine al (T ?_)
   obtain⟨b2,hx2,h⟩:=ae h
   refine sI ?_
   refine T ?_
   obtain⟨b3,hx3,h⟩:=ae h
   replace hx3:=ay hx3
   refine sJ ?_
   refine TR fun hb h=> ?_
   refine T ?_
   refine aM ?_
   exact kl (fuel1,ar (i1+1))
  refine bk ?_
  refine eU ?_
  exact kj ()
 refine T ?_
 obtain⟨b4,hx4,h⟩:=ae h
 replace hx4:=ay hx4
 refine sJ ?_
 refine TC (fun hb h=> ?_) fun hb h=> ?_
 ·refine T ?_
  refine aM ?_
  exact kj 1
 exact bf (bi 0 SB BH rfl)
theorem rS (hF:dG F w0) {s1:List UInt8} (hc:AllCl [] F w0) {r:Int×Bool} (h:hP s1=some r):CR F w0 250 #[(aE s1)] (Value.tuple #[vi r.1,vb r.2]) []:=by
 refine EN Tryz.func250 Tryz.ntmps250 hF hc fun hI=> ?_
 rw[hP]at h
 refine T ?_
 refine bw (α:=Int) (fun _=>⟨37,[]⟩) (fun x=>[(0,(aE s1)),(4,vi x)]) (fun x=>fun w=>∃ C,Bun du F w0 C w [] []∧ff s1 x=some r) ?_ ?_
 ·clear h hI;rintro n1 w1 ⟨c1,hI,h⟩
  try dsimp only at hI h ⊢
  rw[ff]at h
  refine al (T ?_)
  obtain⟨b1,hx1,h⟩:=ae h
  replace hx1:=ay hx1
  refine sJ ?_
  refine TR fun hb h=> ?_
  exact RF
 refine T ?_
 refine bh (α:=Nat×Int×Int) (fun x=>fun w=>∃ C,Bun du F w0 C w [] []∧ck s1 (x.1) (x.2.1) (x.2.2)=some r) (fun x _=>x.1) (fun x=>[(0,(aE s1)),(4,vi (x.2.1)),(5,vi (x.2.2))]) (fu,0,0) BH SB ?_
 clear h hI;rintro⟨fuel1,n2,i1⟩ w2 ⟨c2,hI,h⟩
 dsimp only at hI h ⊢
 rcases fuel1 with _ | fuel1
 ·rw[ck]at h;cases h
 rw[ck]at h
 refine al (T ?_)
 refine TC (fun hb h=> ?_) fun hb h=> ?_
 ·refine T ?_
  refine bw (α:=Int) (fun _=>⟨37,[]⟩) (fun x=>[(0,(aE s1)),(4,vi x),(5,vi i1)]) (fun x=>fun w=>∃ C,Bun du F w0 C w [] []∧jc (ck s1 fuel1) i1 x=some r) ?_ ?_
  ·clear h hI;rintro n3 w3 ⟨c3,hI,h⟩
   try dsimp only at hI h ⊢
   rw[jc]at h
   refine T ?_
   refine aM ?_
   exact kl (fuel1,n3,ar (i1+1))
  refine T ?_
  refine al (T ?_)
  obtain⟨b2,hx2,h⟩:=ae h
  refine sI ?_
  refine TC (fun hb h=> ?_) fun hb h=> ?_
  ·refine bk ?_
   refine eU ?_
   exact kj n2
  refine T ?_
  obtain⟨b3,hx3,h⟩:=ae h
  refine sq (Di rfl u9 et et hx3) ?_
  refine sq (uc rfl et ao) ?_
  refine sq (AN rfl (by rw[u5];rfl) u2 et) ?_
  refine sq (qo rfl et et) ?_
  obtain⟨n4,hx4,h⟩:=ae h
  refine sq (tu (cy rfl et) (congrArg (Value.int .i64) (aj hx4))) ?_
  refine TR fun hb h=> ?_
  exact bf (bi n4 SB BH rfl)
 refine bk ?_
 refine eU ?_
 exact kj n2
theorem tf (hF:dG F w0) {n1:Int} (hc:AllCl [] F w0) {r:Int} (h:jN n1=some r):CR F w0 183 #[vi n1] (Value.int .u64 r) []:=by
 refine EN Tryz.func183 Tryz.ntmps183 hF hc fun hI=> ?_
 rw[jN]at h
 refine T ?_
 refine al (T ?_)
 refine TR fun hb h=> ?_
 exact RF
theorem Av (hF:dG F w0) {a1 b1:Int} (hc:AllCl [] F w0) {r:Int} (h:o9 a1 b1=some r):CR F w0 245 #[(Value.int .u64 a1),(Value.int .u64 b1)] (Value.int .u64 r) []:=by
 refine EN Tryz.func245 Tryz.ntmps245 hF hc fun hI=> ?_
 rw[o9]at h
 refine T ?_
 refine al (T ?_)
 refine bh (α:=Nat×Int×Int) (fun x=>fun w=>∃ C,Bun du F w0 C w [] []∧ke (x.1) (x.2.1) (x.2.2)=some r) (fun x _=>x.1) (fun x=>[(0,(Value.int .u64 (x.2.1))),(1,(Value.int .u64 (x.2.2)))]) (fu,a1,b1) BH SB ?_
 clear h hI;rintro⟨fuel1,a2,b2⟩ w1 ⟨c1,hI,h⟩
 dsimp only at hI h ⊢
 rcases fuel1 with _ | fuel1
 ·rw[ke]at h;cases h
 rw[ke]at h
 refine al (T ?_)
 refine TC (fun hb h=> ?_) fun hb h=> ?_
 ·refine T ?_
  refine aI [] false (.c (0,.q) (.c (1,.q) (.c (2,.q) (.c (3,.q) (.c (4,.q) (.c (5,.q) .n)))))) hI (by kernel_rfl) (by kernel_rfl) ?_
  intro w2 hI
  refine V ?_
  obtain⟨ho1,h⟩:=eF h
  refine l6 rfl gn rfl (fun w'=>zl rfl et et ho1) ?_
  refine V ?_
  refine oq ?_
  exact kl (fuel1,b2,Int.tmod a2 b2)
 refine bk ?_
 refine eU ?_
 refine bb ?_
 exact RF
theorem xz (hF:dG F w0) {s1:List UInt8} (hc:AllCl [] F w0) {r:GVal×Int} (h:mC s1=some r):CR F w0 244 #[(aE s1)] (Value.tuple #[(Value.agg (o6 r.1)),vi r.2]) []:=by
 refine EN Tryz.func244 Tryz.ntmps244 hF hc fun hI=> ?_
 rw[mC]at h
 refine sr (cF (cs:=#[vi 0,vi 0]) hI gn rfl rfl pP rfl ?_)
 intro b1 c1 w1 hI
 refine T ?_
 refine bw (α:=(List UInt8)×(List UInt8)) (fun _=>⟨83,[]⟩) (fun x=>[(2,vp b1 0),(4,(aE (x.1))),(5,(aE (x.2)))]) (fun x=>fun w=>∃ C,Bun du F w0 C w [MO.box b1 33 #[vi 0,vi 0]] []∧kh (x.1) (x.2)=some r) ?_ ?_
 ·clear h hI;rintro⟨up1,down1⟩ w2 ⟨c2,hI,h⟩
  try dsimp only at hI h ⊢
  rw[kh]at h
  refine al (T ?_)
  refine sB h (fun _ k=>rT hI.lt trivial k) (Rc Tryz.func249) fun r1 w3 h hI=> ?_
  refine TC (fun hb h=> ?_) fun hb h=> ?_
  ·refine sr (sq (ax (vs:=[]) (cs:=#[vi 0,vi 0]) rfl trivial (by kernel_rfl)) ?_)
   refine lA fun c3 w4 hI=> ?_
   exact RQ
  refine T ?_
  refine bw (α:=(List UInt8)) (fun _=>⟨83,[]⟩) (fun x=>[(2,vp b1 0),(4,(aE up1)),(5,(aE x))]) (fun x=>fun w=>∃ C,Bun du F w0 C w [MO.box b1 33 #[vi 0,vi 0]] []∧jf up1 x=some r) ?_ ?_
  ·clear h hI;rintro down2 w5 ⟨c4,hI,h⟩
   try dsimp only at hI h ⊢
   rw[jf]at h
   refine T ?_
   refine sB h (fun _ k=>rS hI.lt trivial k) (Rc Tryz.func250) fun r2 w6 h hI=> ?_
   refine T ?_
   refine sB h (fun _ k=>rS hI.lt trivial k) (Rc Tryz.func250) fun r3 w7 h hI=> ?_
   refine T ?_
   refine al (T ?_)
   refine TC (fun hb h=> ?_) fun hb h=> ?_
   ·refine sr (sq (ax (vs:=[]) (cs:=#[vi 0,vi 0]) rfl trivial (by kernel_rfl)) ?_)
    refine lA fun c5 w8 hI=> ?_
    exact RQ
   refine T ?_
   refine al (T ?_)
   refine sB h (fun _ k=>tf hI.lt trivial k) (Rc Tryz.func183) fun r4 w9 h hI=> ?_
   refine sm ?_
   refine sB h (fun _ k=>tf hI.lt trivial k) (Rc Tryz.func183) fun r5 w10 h hI=> ?_
   refine sB h (fun _ k=>Av hI.lt trivial k) (Rc Tryz.func245) fun r6 w11 h hI=> ?_
   refine TC (fun hb h=> ?_) fun hb h=> ?_
   ·refine sr (sq (ax (vs:=[]) (cs:=#[vi 0,vi 0]) rfl trivial (by kernel_rfl)) ?_)
    refine lA fun c6 w12 hI=> ?_
    exact RQ
   refine T ?_
   refine sq (ax (vs:=[(0,vi r2.1),(1,vi r3.1)]) (cs:=#[vi r2.1,vi r3.1]) rfl ⟨rfl,et,⟨rfl,et,trivial⟩⟩ (by kernel_rfl)) ?_
   refine lA fun c7 w13 hI=> ?_
   exact RQ
  refine TC (fun hb h=> ?_) fun hb h=> ?_
  ·refine T ?_
   refine aM ?_
   exact kj ([49]:List UInt8)
  exact bf (bi down1 SB BH rfl)
 refine T ?_
 refine bh (α:=Nat×(List UInt8)×(List UInt8)×Int) (fun x=>fun w=>∃ C,Bun du F w0 C w [MO.box b1 33 #[vi 0,vi 0]] []∧dx s1 (x.1) (x.2.1) (x.2.2.1) (x.2.2.2)=some r) (fun x _=>x.1) (fun x=>[(0,(aE s1)),(2,vp b1 0),(4,(aE (x.2.1))),(5,(aE (x.2.2.1))),(6,vi (x.2.2.2))]) (fu,s1,([]:List UInt8),0) BH SB ?_
 clear h hI;rintro⟨fuel1,up2,down3,i1⟩ w14 ⟨c8,hI,h⟩
 dsimp only at hI h ⊢
 rcases fuel1 with _ | fuel1
 ·rw[dx]at h;cases h
 rw[dx]at h
 refine al (T ?_)
 refine TC (fun hb h=> ?_) fun hb h=> ?_
 ·refine T ?_
  refine bw (α:=(List UInt8)×(List UInt8)) (fun _=>⟨83,[]⟩) (fun x=>[(0,(aE s1)),(2,vp b1 0),(4,(aE (x.1))),(5,(aE (x.2))),(6,vi i1)]) (fun x=>fun w=>∃ C,Bun du F w0 C w [MO.box b1 33 #[vi 0,vi 0]] []∧je (dx s1 fuel1) i1 (x.1) (x.2)=some r) ?_ ?_
  ·clear h hI;rintro⟨up3,down4⟩ w15 ⟨c9,hI,h⟩
   try dsimp only at hI h ⊢
   rw[je]at h
   refine T ?_
   refine aM ?_
   exact kl (fuel1,up3,down4,ar (i1+1))
  refine T ?_
  obtain⟨b2,hx13,h⟩:=ae h
  refine sI ?_
  refine TC (fun hb h=> ?_) fun hb h=> ?_
  ·refine T ?_
   obtain⟨s2,hx14,h⟩:=ae h
   refine sI ?_
   refine T ?_
   obtain⟨s3,hx15,h⟩:=ae h
   refine sI ?_
   refine T ?_
   refine sB h (fun _ k=>rT hI.lt trivial k) (Rc Tryz.func249) fun r7 w16 h hI=> ?_
   refine T ?_
   obtain⟨b3,hx18,h⟩:=ae h
   replace hx18:=ay hx18
   refine sJ ?_
   refine TC (fun hb h=> ?_) fun hb h=> ?_
   ·refine sr (sq (ax (vs:=[]) (cs:=#[vi 0,vi 0]) rfl trivial (by kernel_rfl)) ?_)
    refine lA fun c10 w17 hI=> ?_
    exact RQ
   exact bf (bi (s2,s3) SB BH rfl)
  exact bf (bi (up2,down3) SB BH rfl)
 refine bk ?_
 refine eU ?_
 exact kj (up2,down3)
theorem qf (hF:dG F w0) {t1:GType} (hc:AllCl [] F w0) {r:Int} (h:mc t1=some r):CR F w0 218 #[(Value.agg (co t1))] (vi r) []:=by
 refine EN Tryz.func218 Tryz.ntmps218 hF hc fun hI=> ?_
 rw[mc]at h
 refine sr (lX fun b1 c2 w1 hI=> ?_)
 refine T ?_
 obtain⟨ho1,h⟩:=eF h
 refine sq (zk rfl ao et ho1) ?_
 exact RF
theorem Bw (hF:dG F w0) {a1 b1:Int} (hc:AllCl [] F w0) {r:Int} (h:p8 a1 b1=some r):CR F w0 238 #[vi a1,vi b1] (vi r) []:=by
 refine EN Tryz.func238 Tryz.ntmps238 hF hc fun hI=> ?_
 rw[p8]at h
 refine T ?_
 refine al (T ?_)
 refine bh (α:=Nat×Int×Int) (fun x=>fun w=>∃ C,Bun du F w0 C w [] []∧k9 (x.1) (x.2.1) (x.2.2)=some r) (fun x _=>x.1) (fun x=>[(0,vi (x.2.1)),(1,vi (x.2.2))]) (fu,a1,b1) BH SB ?_
 clear h hI;rintro⟨fuel1,a2,b2⟩ w1 ⟨c1,hI,h⟩
 dsimp only at hI h ⊢
 rcases fuel1 with _ | fuel1
 ·rw[k9]at h;cases h
 rw[k9]at h
 refine al (T ?_)
 refine TC (fun hb h=> ?_) fun hb h=> ?_
 ·refine T ?_
  refine aI [] false (.c (0,.q) (.c (1,.q) (.c (2,.q) (.c (3,.q) (.c (4,.q) (.c (5,.q) .n)))))) hI (by kernel_rfl) (by kernel_rfl) ?_
  intro w2 hI
  refine V ?_
  obtain⟨ho1,h⟩:=eF h
  refine l6 rfl gn rfl (fun w'=>zl rfl et et ho1) ?_
  refine V ?_
  refine oq ?_
  exact kl (fuel1,b2,Int.tmod a2 b2)
 refine bk ?_
 refine eU ?_
 refine bb ?_
 exact RF
theorem wS (hF:dG F w0) {t1:GType} {v1:GVal} (hc:AllCl [] F w0) {r:Bool} (h:nO t1 v1=some r):CR F w0 215 #[(Value.agg (co t1)),(Value.agg (o6 v1))] (vb r) []:=by
 refine EN Tryz.func215 Tryz.ntmps215 hF hc fun hI=> ?_
 rw[nO]at h
 refine sr (lX fun b1 c2 w1 hI=> ?_)
 refine lX fun b2 c4 w2 hI=> ?_
 refine T ?_
 refine al (T ?_)
 refine TC (fun hb h=> ?_) fun hb h=> ?_
 ·refine T ?_
  obtain⟨ho1,h⟩:=eF h
  refine sq (zk rfl ao et ho1) ?_
  obtain⟨half1,hx1,h⟩:=ae h
  refine sq (tu (cy rfl et) (congrArg (Value.int .i64) (aj hx1))) ?_
  exact RF
 refine T ?_
 refine al (T ?_)
 refine TR fun hb h=> ?_
 refine T ?_
 refine al (T ?_)
 refine TR fun hb h=> ?_
 refine T ?_
 refine sq (Dm rfl et et) ?_
 refine T ?_
 refine sB h (fun _ k=>Bw hI.lt trivial k) (Rc Tryz.func238) fun r1 w3 h hI=> ?_
 exact RF
def kK:Tr:=(.c (10,.s) .n)
theorem xy (hF:dG F w0) {t1:GType} {s1:List UInt8} (hc:AllCl [] F w0) {r:GVal×Int} (h:mB t1 s1=some r):CR F w0 236 #[(Value.agg (co t1)),(aE s1)] (Value.tuple #[(Value.agg (o6 r.1)),vi r.2]) []:=by
 refine EN Tryz.func236 Tryz.ntmps236 hF hc fun hI=> ?_
 rw[mB]at h
 refine sr (lX fun b1 c2 w1 hI=> ?_)
 refine lN fun b2 c3 w2 hI=> ?_
 refine T ?_
 refine al (sr (sq (am (l:=(dD t1)) rfl et qr rfl cD (hI.kblk (l:=(dD t1)) .z rfl).1) ?_))
 refine sB h (fun _ k=>ra hI.lt trivial k) (Rc Tryz.func62) fun r1 w3 h hI=> ?_
 refine TC (fun hb h=> ?_) fun hb h=> ?_
 ·refine sr (sq (ax (vs:=[]) (cs:=#[vi 0,vi 0]) rfl trivial (by kernel_rfl)) ?_)
  refine lA fun c4 w4 hI=> ?_
  exact RQ
 refine T ?_
 refine sB h (fun _ k=>xz hI.lt trivial k) (Rc Tryz.func244) fun r2 w5 h hI=> ?_
 refine T ?_
 refine lN fun b3 c5 w6 hI=> ?_
 refine lA fun c6 w7 hI=> ?_
 refine T ?_
 refine al (T ?_)
 refine TC (fun hb h=> ?_) fun hb h=> ?_
 ·refine T ?_
  refine lA fun c7 w8 hI=> ?_
  exact RQ
 refine T ?_
 refine al (T ?_)
 refine TC (fun hb h=> ?_) fun hb h=> ?_
 ·refine al (T ?_)
  refine TC (fun hb h=> ?_) fun hb h=> ?_
  ·refine sr (sq (ax (vs:=[]) (cs:=#[vi 0,vi 0]) rfl trivial (by kernel_rfl)) ?_)
   refine lA fun c8 w9 hI=> ?_
   exact RQ
  refine T ?_
  refine lA fun c9 w10 hI=> ?_
  exact RQ
 refine T ?_
 refine al (al (aI [] false (.c (0,.q) (.c (2,.q) (.c (3,.q) (.c (1,.s) (.c (4,.q) (.c (5,.q) .n)))))) hI (by kernel_rfl) (by kernel_rfl) ?_))
 intro w11 hI
 refine ct rfl gn rfl (fun w' hw'=>(am (l:=(dD t1)) rfl et qr rfl cD ((hI.kblk (l:=(dD t1)) .z rfl).at_ (SX.any rfl hw')))) (by kernel_rfl) ?_
 refine V ?_
 obtain⟨r3,hx5,h⟩:=ae h
 refine dC rfl gn rfl (aF (vs:=[(Value.agg (co t1))]) rfl A7 ⟨et,trivial⟩) (Calls.mono (qf hI.lt trivial hx5) ?_)
 rintro _ w12 ⟨rfl,hx6,hl3⟩
 refine⟨_,rfl,hx6,?_⟩
 replace hI:=(hI.ext hx6)
 obtain⟨ho1,h⟩:=eF h
 refine l6 rfl gn rfl (fun w'=>zl rfl et et ho1) ?_
 refine V ?_
 refine TC (fun hb h=> ?_) fun hb h=> ?_
 ·refine sr (sq (ax (vs:=[]) (cs:=#[vi 0,vi 0]) rfl trivial (by kernel_rfl)) ?_)
  refine lA fun c10 w13 hI=> ?_
  exact RQ
 refine T ?_
 refine al ?_
 obtain⟨r4,hx7,h⟩:=ae h
 refine aI [10] false (.c (0,.q) (.c (1,.q) (.c (2,.q) (.c (4,.q) (.c (5,.q) (.two 3 (.c (6,.q) (.c (7,.q) (.c (8,.q) (.c (9,.s) kK)))) 9 (.c (3,.s) (.c (6,.q) (.c (7,.q) (.c (8,.q) kK)))))))))) hI (by kernel_rfl) (by kernel_rfl) ?_
 intro w18 hI
 refine cj (α:=Nat×NP) (T:=kK) (fun x=>[(2,vp b1 0),(4,vp b2 0),(6,vp b3 0),(8,(Value.pointer (some ⟨(x.1),0,none⟩))),(40,(vb (!decide (Int.tmod r3 r2.1.D=0)))),(42,vp b3 0),(43,vi r2.1.N),(44,(Value.agg (co t1))),(45,vi r4),(46,vp b3 1),(47,vi r2.1.D),(48,(vi (ar (Int.tdiv r4 r2.1.D)))),(49,(vi (ar (r2.1.N * (ar (Int.tdiv r4 r2.1.D)))))),(50,(Value.agg #[(vi (ar (r2.1.N * (ar (Int.tdiv r4 r2.1.D))))),vi 1]))]) (fun x w=>Bun du F w0 (x.2) w [MO.box (x.1) 33 #[vi 0,vi 0],MO.box b3 33 (o6 r2.1),MO.box b2 33 #[vi 0,vi 0]] [Cl.blk b1 35 (co t1)]) (fun x w=>SN [10] (DM false F (x.2)) w) ?_ ?_
 ·clear hI;rintro⟨b4,c13⟩ w17 hI
  try dsimp only at hI ⊢
  unfold kK
  refine bJ (F:=F) (C:=c13) rfl rfl ?_
  refine vA fun c12 w16 hI=> ?_
  refine V ?_
  refine al (sr (sq (am (l:=(dD t1)) rfl et qr rfl cD (hI.kblk (l:=(dD t1)) .z rfl).1) ?_))
  refine T ?_
  refine sB h (fun _ k=>wS hI.lt trivial k) (Rc Tryz.func215) fun r5 w19 h hI=> ?_
  refine TC (fun hb h=> ?_) fun hb h=> ?_
  ·refine sr (sq (ax (vs:=[]) (cs:=#[vi 0,vi 0]) rfl trivial (by kernel_rfl)) ?_)
   refine lA fun c14 w20 hI=> ?_
   exact RQ
  refine T ?_
  refine lA fun c15 w21 hI=> ?_
  exact RQ
 intro hk_tr_ref04_Parse_1_0
 refine V ?_
 refine ct rfl gn rfl (fun w' hw'=>(am (l:=(dD t1)) rfl et qr rfl cD ((hI.kblk (l:=(dD t1)) .z rfl).at_ (SX.any rfl hw')))) (by kernel_rfl) ?_
 refine V ?_
 refine da ?_ ?_
 ·skip
  refine dC rfl gn rfl (aF (vs:=[(Value.agg (co t1))]) rfl A7 ⟨et,trivial⟩) (Calls.mono (qf hI.lt trivial hx7) ?_)
  rintro _ w14 ⟨rfl,hx8,hl4⟩
  refine⟨_,rfl,hx8,?_⟩
  replace hI:=(hI.ext hx8)
  refine l6 rfl gn rfl (fun w'=>zm rfl et et ho1) ?_
  refine V ?_
  refine l6 rfl gn rfl (fun w'=>(ax (vs:=[(0,(vi (ar (r2.1.N * (ar (Int.tdiv r4 r2.1.D)))))),(1,vi 1)]) (cs:=#[(vi (ar (r2.1.N * (ar (Int.tdiv r4 r2.1.D))))),vi 1]) rfl ⟨rfl,et,⟨rfl,ao,trivial⟩⟩ (by kernel_rfl))) ?_
  refine gb (cs:=#[vi 0,vi 0]) hI rfl gn rfl rfl pP rfl ?_
  intro b4 c11 w15 hI
  exact aW (hk_tr_ref04_Parse_1_0 (b4,c11) _ (hI.arr GO SU)) SB
 refine gb (cs:=#[vi 0,vi 0]) hI rfl gn rfl rfl pP rfl ?_
 intro b4 c11 w15 hI
 refine dC rfl gn rfl (aF (vs:=[(Value.agg (co t1))]) rfl A7 ⟨et,trivial⟩) (Calls.mono (qf hI.lt trivial hx7) ?_)
 rintro _ w14 ⟨rfl,hx8,hl4⟩
 refine⟨_,rfl,hx8,?_⟩
 replace hI:=(hI.ext hx8)
 refine l6 rfl gn rfl (fun w'=>zm rfl et et ho1) ?_
 refine V ?_
 refine l6 rfl gn rfl (fun w'=>(ax (vs:=[(0,(vi (ar (r2.1.N * (ar (Int.tdiv r4 r2.1.D)))))),(1,vi 1)]) (cs:=#[(vi (ar (r2.1.N * (ar (Int.tdiv r4 r2.1.D))))),vi 1]) rfl ⟨rfl,et,⟨rfl,ao,trivial⟩⟩ (by kernel_rfl))) ?_
 exact aW (hk_tr_ref04_Parse_1_0 (b4,c11) _ (hI.arr GO SU)) SB
def jp:Tr:=(.c (3,.s) .n)
def jo:Tr:=(.c (3,.s) .n)
theorem pF (hF:dG F w0) {p1:ac} {t1:GType} (hc:AllCl [Cl.sl ag a1 c1 p1.L] F w0) {r:GVal×ac} (h:fW p1 t1=some r):Cg 210 #[(Value.agg (ab p1 a1 c1)),(Value.agg (co t1))] w0 fun e w=>∃ a2 c2,e= .returned (Value.tuple #[(Value.agg (o6 r.1)),(Value.agg (ab r.2 a2 c2))])∧Ext w0 w∧AllCl [Cl.sl ag a2 c2 r.2.L] F w:=by
 refine EN Tryz.func210 Tryz.ntmps210 hF hc fun hI=> ?_
 rw[fW]at h
 refine sr (mS (v:=(Value.agg (ab p1 a1 c1))) (cs:=(ab p1 a1 c1)) hI gn rfl rfl et rfl ?_)
 intro b1 c3 w1 hI
 refine lX fun b2 c5 w2 hI=> ?_
 refine lN fun b3 c6 w3 hI=> ?_
 refine lN fun b4 c7 w4 hI=> ?_
 refine T ?_
 refine bw (α:=(List UInt8)×ac×(Option Addr)×Nat) (fun _=>⟨62,[]⟩) (fun x=>[(2,vp b1 0),(3,vp b2 0),(4,vp b3 0),(5,vp b4 0),(6,vi p1.At),(7,(aE (x.1)))]) (fun x=>fun w=>∃ C,Bun du F w0 C w [MO.box b1 72 (ab (x.2.1) (x.2.2.1) (x.2.2.2)),MO.box b3 33 #[vi 0,vi 0],MO.box b4 72 au] [Cl.sl ag (x.2.2.1) (x.2.2.2) (x.2.1).L,Cl.blk b2 35 (co t1)]∧d7 t1 p1 (x.1) (x.2.1)=some r) ?_ ?_
 ·clear h hI;rintro⟨s1,p2,a3,c8⟩ w5 ⟨c9,hI,h⟩
  try dsimp only at hI h ⊢
  rw[d7]at h
  refine T ?_
  obtain⟨r1,hx1,h⟩:=ae h
  refine aB gn rfl (Rc Tryz.func136) (Calls.mono (nw hI.lt FS hx1) ?_)
  rintro _ w6 ⟨a4,c10,rfl,hx2,hl1⟩
  refine⟨_,rfl,?_⟩
  replace hI:=(hI.ext hx2).adds hl1;dsimp only[ca,na]at hI
  refine T ?_
  refine lA fun c11 w7 hI=> ?_
  refine T ?_
  obtain⟨s2,hx3,h⟩:=ae h
  refine sq (tB rfl et et hx3) ?_
  refine T ?_
  refine bw (α:=(List UInt8)×ac×(Option Addr)×Nat) (fun _=>⟨62,[]⟩) (fun x=>[(2,vp b1 0),(3,vp b2 0),(4,vp b3 0),(5,vp b4 0),(6,vi p1.At),(7,(aE (x.1)))]) (fun x=>fun w=>∃ C,Bun du F w0 C w [MO.box b1 72 (ab (x.2.1) (x.2.2.1) (x.2.2.2)),MO.box b3 33 #[vi 0,vi 0],MO.box b4 72 au] [Cl.sl ag (x.2.2.1) (x.2.2.2) (x.2.1).L,Cl.blk b2 35 (co t1)]∧cM t1 p1 (x.1) (x.2.1)=some r) ?_ ?_
  ·clear h hI;rintro⟨s3,p3,a5,c12⟩ w8 ⟨c13,hI,h⟩
   try dsimp only at hI h ⊢
   rw[cM]at h
   refine al (T ?_)
   refine TC (fun hb h=> ?_) fun hb h=> ?_
   ·refine al (aI [2,3] false (.c (0,.q) (.two 1 (.c (2,.s) jp) 2 (.c (1,.s) jp))) hI (by kernel_rfl) (by kernel_rfl) ?_)
    intro w12 hI
    refine cj (α:=NP) (T:=jp) (fun x=>[(2,vp b1 0),(3,vp b2 0),(4,vp b3 0),(5,vp b4 0),(6,vi p1.At),(7,(aE s3)),(42,vp b1 3),(43,vi p3.E),(44,(vb (!decide (p3.E=0)))),(45,(Value.agg #[vi 0,vi 0])),(46,(Value.agg (ab p3 a5 c12)))]) (fun x w=>Bun du F w0 x w [MO.box b1 72 (ab p3 a5 c12),MO.box b3 33 #[vi 0,vi 0],MO.box b4 72 au] [Cl.sl ag a5 c12 p3.L,Cl.blk b2 35 (co t1)]) (fun x w=>SN [] (DM true F x) w) ?_ ?_
    ·clear hI;rintro c16 w11 hI
     try dsimp only at hI ⊢
     unfold jp
     refine vA fun c15 w10 hI=> ?_
     refine V ?_
     refine aA ?_
     obtain rfl:=aj h
     refine QG ?_
     exact⟨a5,c12,rfl,hI.ext0,hI.fin ⟨.z,trivial⟩⟩
    intro hk_tr_ref16_constant_1_0
    refine l6 rfl gn rfl (fun w'=>ax (vs:=[]) (cs:=#[vi 0,vi 0]) rfl trivial (by kernel_rfl)) ?_
    refine da ?_ ?_
    ·skip
     refine bn rfl gn rfl (am (l:=(ah p3 a5 c12)) rfl et j5 rfl aG (CellsAt.of_blk (hI.blk .z) rfl)) SX.self ?_
     refine bJ (F:=F) (C:=c13) rfl rfl ?_
     refine vA fun c14 w9 hI=> ?_
     exact aW (hk_tr_ref16_constant_1_0 c14 _ (hI.arr GO SU)) SB
    refine bu (F:=F) (C:=c13) rfl rfl ?_
    refine vA fun c14 w9 hI=> ?_
    refine bn rfl gn rfl (am (l:=(ah p3 a5 c12)) rfl et j5 rfl aG (CellsAt.of_blk (hI.blk .z) rfl)) SX.self ?_
    exact aW (hk_tr_ref16_constant_1_0 c14 _ (hI.arr GO SU)) SB
   refine T ?_
   refine sq (am (l:=(dD t1)) rfl et qr rfl cD (hI.kblk (l:=(dD t1)) (.s .z) rfl).1) ?_
   refine sm ?_
   refine sB h (fun _ k=>xy hI.lt trivial k) (Rc Tryz.func236) fun r2 w13 h hI=> ?_
   refine T ?_
   refine lN fun b5 c17 w14 hI=> ?_
   refine lA fun c18 w15 hI=> ?_
   refine T ?_
   refine al (T ?_)
   refine TC (fun hb h=> ?_) fun hb h=> ?_
   ·refine sr (sq (ax (vs:=[]) (cs:=#[vi 0,vi 0]) rfl trivial (by kernel_rfl)) ?_)
    refine T ?_
    obtain⟨r3,hx6,h⟩:=ae h
    refine aB gn rfl (Rc Tryz.func81) (Calls.mono (jS hI.lt FS hx6) ?_)
    rintro _ w16 ⟨a6,c19,rfl,hx7,hl3⟩
    refine⟨_,rfl,?_⟩
    replace hI:=(hI.ext hx7).adds hl3;dsimp only[ca,na]at hI
    refine lA fun c20 w17 hI=> ?_
    refine lA fun c21 w18 hI=> ?_
    refine nk (aA ?_)
    obtain rfl:=aj h
    refine QG ?_
    exact⟨a6,c19,rfl,hI.ext0,hI.fin ⟨.z,trivial⟩⟩
   refine T ?_
   refine al (aI [2,3] false (.c (0,.q) (.two 1 (.c (2,.s) jo) 2 (.c (1,.s) jo))) hI (by kernel_rfl) (by kernel_rfl) ?_)
   intro w22 hI
   refine cj (α:=NP) (T:=jo) (fun x=>[(2,vp b1 0),(3,vp b2 0),(4,vp b3 0),(5,vp b4 0),(6,vi p1.At),(7,(aE s3)),(9,vp b5 0),(10,vi r2.2),(42,vp b1 3),(43,vi p3.E),(44,(vb (!decide (p3.E=0)))),(47,(Value.tuple #[(Value.agg (o6 r2.1)),vi r2.2])),(48,(Value.agg (co t1))),(49,(aE s3)),(50,(Value.tuple #[(Value.agg (o6 r2.1)),vi r2.2])),(51,(Value.agg (o6 r2.1))),(52,vi r2.2),(53,vi r2.2),(54,(vb (!decide (r2.2=0)))),(60,(Value.agg (o6 r2.1))),(61,(Value.agg (ab p3 a5 c12)))]) (fun x w=>Bun du F w0 x w [MO.box b5 33 (o6 r2.1),MO.box b1 72 (ab p3 a5 c12),MO.box b3 33 (o6 r2.1),MO.box b4 72 au] [Cl.sl ag a5 c12 p3.L,Cl.blk b2 35 (co t1)]) (fun x w=>SN [] (DM true F x) w) ?_ ?_
   ·clear hI;rintro c24 w21 hI
    try dsimp only at hI ⊢
    unfold jo
    refine vA fun c23 w20 hI=> ?_
    refine V ?_
    refine aA ?_
    obtain rfl:=aj h
    refine QG ?_
    exact⟨a5,c12,rfl,hI.ext0,hI.fin ⟨.z,trivial⟩⟩
   intro hk_tr_ref16_constant_2_0
   refine ct rfl gn rfl (fun w' hw'=>(am (l:=(qD r2.1)) rfl et ES rfl mY ((CA.blk (hI.blk .z) rfl).at_ (SX.any rfl hw')))) (by kernel_rfl) ?_
   refine da ?_ ?_
   ·skip
    refine bn rfl gn rfl (am (l:=(ah p3 a5 c12)) rfl et j5 rfl aG (CellsAt.of_blk (hI.blk (.s .z)) rfl)) SX.self ?_
    refine bJ (F:=F) (C:=c18) rfl rfl ?_
    refine vA fun c22 w19 hI=> ?_
    exact aW (hk_tr_ref16_constant_2_0 c22 _ (hI.arr GO SU)) SB
   refine bu (F:=F) (C:=c18) rfl rfl ?_
   refine vA fun c22 w19 hI=> ?_
   refine bn rfl gn rfl (am (l:=(ah p3 a5 c12)) rfl et j5 rfl aG (CellsAt.of_blk (hI.blk (.s .z)) rfl)) SX.self ?_
   exact aW (hk_tr_ref16_constant_2_0 c22 _ (hI.arr GO SU)) SB
  refine T ?_
  refine sB h (fun _ k=>bv hI.lt FS k) (Rc Tryz.func72) fun r4 w23 h hI=> ?_
  refine TC (fun hb h=> ?_) fun hb h=> ?_
  ·refine T ?_
   refine lS fun c25 w24 hI=> ?_
   refine T ?_
   obtain⟨r5,hx10,h⟩:=ae h
   refine aB gn rfl (Rc Tryz.func136) (Calls.mono (nw hI.lt FS hx10) ?_)
   rintro _ w25 ⟨a7,c26,rfl,hx11,hl5⟩
   refine⟨_,rfl,?_⟩
   replace hI:=(hI.ext hx11).adds hl5;dsimp only[ca,na]at hI
   refine T ?_
   refine lA fun c27 w26 hI=> ?_
   refine T ?_
   obtain⟨s4,hx12,h⟩:=ae h
   refine sq (tB rfl ao et hx12) ?_
   obtain⟨s5,hx13,h⟩:=ae h
   refine sq (tB rfl et et hx13) ?_
   refine sa ?_
   refine aM ?_
   exact kj (s5,r5.2,a7,c26)
  exact bf (bi (s2,r1.2,a4,c10) SB BH rfl)
 refine T ?_
 refine sB h (fun _ k=>bv hI.lt FS k) (Rc Tryz.func72) fun r6 w27 h hI=> ?_
 refine TC (fun hb h=> ?_) fun hb h=> ?_
 ·refine T ?_
  refine lS fun c28 w28 hI=> ?_
  refine aM ?_
  exact kj (([45]:List UInt8),(⟨p1.L,ar (p1.At+1),p1.Deep,p1.E,p1.Pos⟩:ac),a1,c1)
 exact bf (bi (([]:List UInt8),p1,a1,c1) SB BH rfl)
theorem xn (hF:dG F w0) {p1:ac} (hc:AllCl [Cl.sl ag a1 c1 p1.L] F w0) {r:List GLin×ac} (h:jW p1=some r):Cg 179 #[(Value.agg (ab p1 a1 c1))] w0 fun e w=>∃ a2 c2 a3 c3,e= .returned (Value.tuple #[vs a2 r.1.length c2,(Value.agg (ab r.2 a3 c3))])∧Ext w0 w∧AllCl [Cl.sl fS a2 c2 r.1,Cl.sl ag a3 c3 r.2.L] F w:=by
 refine EN Tryz.func179 Tryz.ntmps179 hF hc fun hI=> ?_
 rw[jW]at h
 refine sr (mS (v:=(Value.agg (ab p1 a1 c1))) (cs:=(ab p1 a1 c1)) hI gn rfl rfl et rfl ?_)
 intro b1 c4 w1 hI
 refine rJ ?_
 refine lN fun b2 c5 w2 hI=> ?_
 refine T ?_
 refine al (T ?_)
 refine sB h (fun _ k=>bv hI.lt FS k) (Rc Tryz.func72) fun r1 w3 h hI=> ?_
 refine TC (fun hb h=> ?_) fun hb h=> ?_
 ·refine T ?_
  refine lS fun c6 w4 hI=> ?_
  refine nk (al (aI [2] false (.c (0,.q) (.c (1,.q) (.c (2,.s) .n))) hI (by kernel_rfl) (by kernel_rfl) ?_))
  intro w5 hI
  refine ct rfl gn rfl (fun w' hw'=>(am (l:=[vs a1 p1.L.length c1,(vi (ar (p1.At+1))),vi p1.Deep,vi p1.E,vi p1.Pos]) rfl et j5 rfl aG ((CA.blk (hI.blk (.s .z)) rfl).at_ (SX.any rfl hw')))) (by kernel_rfl) ?_
  refine V ?_
  refine bJ (F:=F) (C:=c6) rfl rfl ?_
  refine vA fun c7 w6 hI=> ?_
  refine V ?_
  refine aA ?_
  have hI:=hI.add (c:=Cl.sl fS none 0 ([]:List GLin)) SlC.nil
  obtain rfl:=aj h
  refine QG ?_
  exact⟨none,0,a1,c1,rfl,hI.ext0,hI.fin ⟨.z,(.s .z),trivial⟩⟩
 refine T ?_
 obtain⟨r2,hx3,h⟩:=ae h
 refine aB gn rfl (Rc Tryz.func32) (Calls.mono (oC hI.lt FS hx3) ?_)
 rintro _ w7 ⟨a4,c8,a5,c9,rfl,hx4,hl2⟩
 refine⟨_,rfl,?_⟩
 replace hI:=(hI.ext hx4).adds hl2;dsimp only[ca,na]at hI
 refine T ?_
 refine lN fun b3 c10 w8 hI=> ?_
 refine lA fun c11 w9 hI=> ?_
 refine lA fun c12 w10 hI=> ?_
 refine T ?_
 refine ll hI fS ([r2.1]:List GLin) pd (.cs ⟨a4,c8,rfl,hI.get .z⟩ .nl) fun b4 c13 w11 hI=> ?_
 obtain⟨zs1,hx5,h⟩:=ae h
 replace hI:=hI.nil fS 27 none
 refine lY (xs:=([]:List GLin)) (ys:=([r2.1]:List GLin)) hI .z (hI.rd (.s .z)) hx5 gn rfl rfl FU pd rfl rfl et et ?_
 intro a6 c14 c15 w12 hI
 refine T ?_
 refine al (T ?_)
 refine bh (α:=Nat×(List GLin)×ac×GLin×(Option Addr)×Nat×(Option Addr)×Nat×(Option Addr)×Nat) (fun x=>fun w=>∃ C,Bun du F w0 C w [MO.row fS 27 (x.2.2.2.2.1) (x.2.2.2.2.2.1) (x.2.1),MO.box b1 72 (ab (x.2.2.1) (x.2.2.2.2.2.2.1) (x.2.2.2.2.2.2.2.1)),MO.box b2 72 au,MO.box b3 27 (bQ (x.2.2.2.1) (x.2.2.2.2.2.2.2.2.1) (x.2.2.2.2.2.2.2.2.2))] [Cl.sl ag (x.2.2.2.2.2.2.1) (x.2.2.2.2.2.2.2.1) (x.2.2.1).L,Cl.sl ai (x.2.2.2.2.2.2.2.2.1) (x.2.2.2.2.2.2.2.2.2) (x.2.2.2.1).L]∧eZ (x.1) (x.2.1) (x.2.2.1) (x.2.2.2.1)=some r) (fun x _=>x.1) (fun x=>[(1,vp b1 0),(3,vp b2 0),(4,vs (x.2.2.2.2.1) (x.2.1).length (x.2.2.2.2.2.1)),(5,vp b3 0)]) (fu,zs1,r2.2,r2.1,a6,c14,a5,c9,a4,c8) BH SB ?_
 clear h hI;rintro⟨fuel1,bg,p2,f1,a7,c16,a8,c17,a9,c18⟩ w13 ⟨c19,hI,h⟩
 dsimp only at hI h ⊢
 rcases fuel1 with _ | fuel1
 ·rw[eZ]at h;cases h
 rw[eZ]at h
 refine al (T ?_)
 refine sB h (fun _ k=>bv hI.lt FS k) (Rc Tryz.func72) fun r3 w14 h hI=> ?_
 refine TC (fun hb h=> ?_) fun hb h=> ?_
 ·have hk1:=hb
  refine T ?_
  refine lS fun c20 w15 hI=> ?_
  refine T ?_
  obtain⟨r4,hx8,h⟩:=ae h
  refine aB gn rfl (Rc Tryz.func32) (Calls.mono (oC hI.lt FS hx8) ?_)
  rintro _ w16 ⟨a10,c21,a11,c22,rfl,hx9,hl4⟩
  refine⟨_,rfl,?_⟩
  replace hI:=(hI.ext hx9).adds hl4;dsimp only[ca,na]at hI
  refine T ?_
  refine lA fun c23 w17 hI=> ?_
  refine lA fun c24 w18 hI=> ?_
  refine T ?_
  refine ll hI fS ([r4.1]:List GLin) pd (.cs ⟨a10,c21,rfl,hI.get .z⟩ .nl) fun b5 c25 w19 hI=> ?_
  obtain⟨zs2,hx10,h⟩:=ae h
  refine lY (xs:=bg) (ys:=([r4.1]:List GLin)) hI (.s .z) (hI.rd .z) hx10 gn rfl rfl FU pd rfl rfl et et ?_
  intro a12 c26 c27 w20 hI
  refine sa ?_
  refine aM ?_
  exact kl (fuel1,zs2,r4.2,r4.1,a12,c26,a11,c22,a10,c21)
 refine bk ?_
 refine eU ?_
 refine bb ?_
 refine T ?_
 obtain⟨r5,hx11,h⟩:=ae h
 refine aB gn rfl (Rc Tryz.func110) (Calls.mono (cr hI.lt FS hx11) ?_)
 rintro _ w21 ⟨a13,c28,rfl,hx12,hl5⟩
 refine⟨_,rfl,?_⟩
 replace hI:=(hI.ext hx12).adds hl5;dsimp only[ca,na]at hI
 refine sa ?_
 refine lA fun c29 w22 hI=> ?_
 refine nk (aA ?_)
 obtain⟨c30,hI⟩:=hI.release .z
 obtain rfl:=aj h
 refine QG ?_
 exact⟨a7,c16,a13,c28,rfl,hI.ext0,hI.fin ⟨.z,(.s .z),trivial⟩⟩
end Go.Proofs.YtmhoikfoogemnaaGreatDoor
