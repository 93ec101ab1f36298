import Derived.Test.YtmhoikfoogemnaaGreatDoorMCQ4e
import Derived.Test.YtmhoikfoogemnaaGreatDoorMLfJ
namespace Go.Proofs.YtmhoikfoogemnaaGreatDoor
open Go Go.RowKit Go.Vc
set_option maxRecDepth 100000
set_option maxHeartbeats 4000000
set_option linter.unusedVariables false
set_option linter.unusedSimpArgs false
variable {σ:Type} {C0 F:NP} {w0:World} {a1 a2 a3 a4 a5 a6 a7 a8 a9 a10 a11 a12:Option Addr} {b1 b2 b3 b4 b5 b6 b7 b8 b9 b10 b11 b12 c1 c2 c3 c4 c5 c6 c7 c8 c9 c10 c11 c12:Nat}
theorem rf (hF:dL F w0) {e1:ac} (hc:AllCl [Cl.sl ag a1 c1 e1.Lin.L,Cl.sl ai a2 c2 e1.Idx,Cl.sl al a3 c3 e1.Args] F w0) {r:Bool} (h:jg e1=some r):CR F w0 213 #[(Value.agg (an e1 a1 c1 a2 c2 a3 c3))] (vb r) []:=by
 refine EN Tryz.func213 Tryz.ntmps213 hF hc fun hI=> ?_
 rw[jg]at h
 refine sr (lX fun b1 c5 w1 hI=> ?_)
 exact RF
theorem xb (hF:dL F w0) {op1 at1:Int} (hc:AllCl [] F w0) {r:Bool} (h:ln op1 at1=some r):CR F w0 214 #[vi op1,vi at1] (vb r) []:=by
 refine EN Tryz.func214 Tryz.ntmps214 hF hc fun hI=> ?_
 rw[ln]at h
 exact RF
theorem xc (hF:dL F w0) {e1:ac} (hc:AllCl [Cl.sl ag a1 c1 e1.Lin.L,Cl.sl ai a2 c2 e1.Idx,Cl.sl al a3 c3 e1.Args] F w0) {r:Bool} (h:lp e1=some r):CR F w0 165 #[(Value.agg (an e1 a1 c1 a2 c2 a3 c3))] (vb r) []:=by
 refine EN Tryz.func165 Tryz.ntmps165 hF hc fun hI=> ?_
 rw[lp]at h
 refine sr (lX fun b1 c5 w1 hI=> ?_)
 refine T ?_
 refine aj (T ?_)
 refine ar (aV rfl rfl rfl rfl) rfl (fun hc=>(am (l:=(cH e1.Type_)) rfl (aF et hc) qc rfl cO (hI.kblk (l:=(cH e1.Type_)) .z rfl).1)) ?_
 obtain⟨r1,hx1,h⟩:=ab h
 replace hx1:=aC hx1
 refine sU (fun hc=>qM hI.lt trivial (hx1 hc)) (Rg Tryz.func62) fun w2 hI=> ?_
 refine TR fun hb h=> ?_
 refine T ?_
 refine aj (T ?_)
 refine bh (α:=Nat×Int) (fun x=>fun w=>∃ C,Bun d7 F w0 C w [] [Cl.blk b1 39 (an e1 a1 c1 a2 c2 a3 c3),Cl.sl ag a1 c1 e1.Lin.L,Cl.sl ai a2 c2 e1.Idx,Cl.sl al a3 c3 e1.Args]∧en e1 (x.1) (x.2)=some r) (fun x _=>x.1) (fun x=>[(1,vp b1 0),(3,vi (x.2))]) (fu,0) BH SB ?_
 clear h hI;rintro⟨fuel1,i1⟩ w3 ⟨c6,hI,h⟩
 dsimp only at hI h ⊢
 rcases fuel1 with _ | fuel1
 ·rw[en]at h;cases h
 rw[en]at h
 refine aj (T ?_)
 refine TC (fun hb h=> ?_) fun hb h=> ?_
 ·refine T ?_
  refine aj (T ?_)
  refine aj (aP [] false (.c (0,.q) (.c (1,.q) (.c (2,.q) (.c (3,.q) (.c (4,.q) (.c (6,.q) (.c (7,.q) (.c (8,.q) (.c (5,.s) (.c (9,.s) (.c (10,.q) .n))))))))))) hI (by kernel_rfl) (by kernel_rfl) ?_)
  intro w4 hI
  refine V ?_
  obtain⟨e2,hx3,h⟩:=ab h
  obtain⟨ad1,cs1,hA1,hr1,hq1⟩:=hI.clat (.s (.s (.s .z))) hx3
  obtain⟨a4,c7,a5,c8,a6,c9,rfl,hf1,hf2,hf3⟩:=bP hr1
  have hI:=hI.ads hf1
  have hI:=hI.ads hf2
  have hI:=hI.ads hf3
  refine vI ?_
  refine d5 rfl gn rfl (fun w' hw'=>(am (l:=(aK e2 a4 c7 a5 c8 a6 c9)) rfl et gP rfl aB (hq1.at_ (SX.any rfl hw')))) (by kernel_rfl) ?_
  refine V ?_
  obtain⟨r2,hx4,h⟩:=ab h
  refine bN rfl gn rfl (ax (vs:=[(Value.agg (an e2 a4 c7 a5 c8 a6 c9))]) rfl IP ⟨et,trivial⟩) (Calls.mono (rf hI.lt FS hx4) ?_)
  rintro _ w5 ⟨rfl,hx5,hl2⟩
  refine⟨_,rfl,hx5,?_⟩
  replace hI:=(hI.ext hx5)
  obtain⟨r3,hx6,h⟩:=ab h
  refine bN rfl gn rfl (ax (vs:=[vi e1.Op,vi i1]) rfl IM ⟨et,⟨et,trivial⟩⟩) (Calls.mono (xb hI.lt trivial hx6) ?_)
  rintro _ w6 ⟨rfl,hx7,hl3⟩
  refine⟨_,rfl,hx7,?_⟩
  replace hI:=(hI.ext hx7)
  refine iy rfl gn rfl (fun w'=>Cf rfl u4 et et) ?_
  refine V ?_
  refine TR fun hb h=> ?_
  refine T ?_
  refine aG ?_
  exact kl (fuel1,au (i1+1))
 refine bp ?_
 refine fE ?_
 refine aS ?_
 exact RF
theorem wm (hF:dL F w0) {e1:ac} (hc:AllCl [Cl.sl ag a1 c1 e1.Lin.L,Cl.sl ai a2 c2 e1.Idx,Cl.sl al a3 c3 e1.Args] F w0) {r:Bool} (h:kB e1=some r):CR F w0 166 #[(Value.agg (an e1 a1 c1 a2 c2 a3 c3))] (vb r) []:=by
 refine EN Tryz.func166 Tryz.ntmps166 hF hc fun hI=> ?_
 rw[kB]at h
 refine sr (lX fun b1 c5 w1 hI=> ?_)
 refine T ?_
 refine aj (T ?_)
 refine ar (aV rfl rfl rfl rfl) rfl (fun hc=>(am (l:=(cH e1.Type_)) rfl (aF et hc) qc rfl cO (hI.kblk (l:=(cH e1.Type_)) .z rfl).1)) ?_
 refine T ?_
 refine ar (aV rfl rfl rfl rfl) rfl (fun hc=>(am (l:=(mA e1.Val)) rfl (aF et hc) Cs rfl jI (hI.kblk (l:=(mA e1.Val)) .z rfl).1)) ?_
 obtain⟨r1,hx1,h⟩:=ab h
 replace hx1:=aC hx1
 refine sU (fun hc=>rR hI.lt trivial (hx1 hc)) (Rg Tryz.func215) fun w2 hI=> ?_
 refine T ?_
 refine ar (bo rfl rfl rfl rfl) rfl (fun hc=>(am (l:=(gY e1.Lin a1 c1)) rfl (aF et hc) oH rfl bk (hI.kblk (l:=(gY e1.Lin a1 c1)) .z rfl).1)) ?_
 obtain⟨r2,hx3,h⟩:=ab h
 replace hx3:=aC hx3
 refine sU (fun hc=>iP hI.lt FS (hx3 hc)) (Rg Tryz.func114) fun w3 hI=> ?_
 refine TR fun hb h=> ?_
 refine T ?_
 refine aj (T ?_)
 refine bh (α:=Nat×Int) (fun x=>fun w=>∃ C,Bun d7 F w0 C w [] [Cl.blk b1 39 (an e1 a1 c1 a2 c2 a3 c3),Cl.sl ag a1 c1 e1.Lin.L,Cl.sl ai a2 c2 e1.Idx,Cl.sl al a3 c3 e1.Args]∧bv e1 (x.1) (x.2)=some r) (fun x _=>x.1) (fun x=>[(1,vp b1 0),(3,vi (x.2))]) (fu,0) BH SB ?_
 clear h hI;rintro⟨fuel1,i1⟩ w4 ⟨c6,hI,h⟩
 dsimp only at hI h ⊢
 rcases fuel1 with _ | fuel1
 ·rw[bv]at h;cases h
 rw[bv]at h
 refine aj (T ?_)
 refine TC (fun hb h=> ?_) fun hb h=> ?_
 ·refine T ?_
  refine bJ (α:=Unit) (fun _=>⟨59,[]⟩) (fun _=>[(1,vp b1 0),(3,vi i1)]) (fun _=>fun w=>∃ C,Bun d7 F w0 C w [] [Cl.blk b1 39 (an e1 a1 c1 a2 c2 a3 c3),Cl.sl ag a1 c1 e1.Lin.L,Cl.sl ai a2 c2 e1.Idx,Cl.sl al a3 c3 e1.Args]∧ke (bv e1 fuel1) i1=some r) ?_ ?_
  ·clear h hI;rintro _ w5 ⟨c7,hI,h⟩
   try dsimp only at hI h ⊢
   rw[ke]at h
   refine T ?_
   refine aG ?_
   exact kl (fuel1,au (i1+1))
  refine T ?_
  refine aj (T ?_)
  obtain⟨e2,hx5,h⟩:=ab h
  obtain⟨ad1,cs1,hA1,hr1,hq1⟩:=hI.clat (.s (.s .z)) hx5
  obtain⟨a4,c8,a5,c9,rfl,hf1,hf2⟩:=hr1
  have hI:=hI.ads hf1
  have hI:=hI.ads hf2
  refine sI ?_
  refine T ?_
  refine sq (am (l:=(gY e2.Lin a4 c8)) rfl et oH rfl bk (CA.part hq1 rfl).1) ?_
  refine sB h (fun _ k=>iP hI.lt FS k) (Rc Tryz.func114) fun r3 w6 h hI=> ?_
  refine TR fun hb h=> ?_
  refine T ?_
  refine bh (α:=Nat×Int) (fun x=>fun w=>∃ C,Bun d7 F w0 C w [] [Cl.blk b1 39 (an e1 a1 c1 a2 c2 a3 c3),Cl.sl ag a1 c1 e1.Lin.L,Cl.sl ai a2 c2 e1.Idx,Cl.sl al a3 c3 e1.Args]∧dV e1 i1 (bv e1 fuel1) (x.1) (x.2)=some r) (fun x _=>x.1) (fun x=>[(1,vp b1 0),(3,vi i1),(4,vi (x.2))]) (fu,0) BH SB ?_
  clear h hI;rintro⟨fuel2,k1⟩ w7 ⟨c10,hI,h⟩
  dsimp only at hI h ⊢
  rcases fuel2 with _ | fuel2
  ·rw[dV]at h;cases h
  rw[dV]at h
  refine aj (T ?_)
  obtain⟨e3,hx8,h⟩:=ab h
  obtain⟨ad2,cs2,hA2,hr2,hq2⟩:=hI.clat (.s (.s .z)) hx8
  obtain⟨a6,c11,a7,c12,rfl,hf3,hf4⟩:=hr2
  have hI:=hI.ads hf3
  have hI:=hI.ads hf4
  refine sI ?_
  refine TC (fun hb h=> ?_) fun hb h=> ?_
  ·refine T ?_
   refine aj (T ?_)
   obtain⟨e4,hx9,h⟩:=ab h
   obtain⟨ad3,cs3,hA3,hr3,hq3⟩:=hI.clat (.s (.s (.s (.s .z)))) hx9
   obtain⟨a8,c13,a9,c14,rfl,hf5,hf6⟩:=hr3
   have hI:=hI.ads hf5
   have hI:=hI.ads hf6
   refine sI ?_
   refine T ?_
   obtain⟨e5,hx10,h⟩:=ab h
   obtain⟨ad4,cs4,hA4,hr4,hq4⟩:=hI.clat .z hx10
   obtain⟨a10,c15,rfl,hf7⟩:=hr4
   have hI:=hI.ads hf7
   refine sI ?_
   refine T ?_
   refine sB h (fun _ k=>iP hI.lt FS k) (Rc Tryz.func114) fun r4 w8 h hI=> ?_
   refine TR fun hb h=> ?_
   refine T ?_
   refine aG ?_
   exact kl (fuel2,au (k1+1))
  refine bp ?_
  refine fE ?_
  exact kj ()
 refine bp ?_
 refine fE ?_
 refine aS ?_
 exact RF
abbrev Qs9 (f_:(ac→Option Int)):Prop:=∀ ⦃F:NP⦄ ⦃w0:World⦄ (hF:dL F w0) ⦃e1:ac⦄ ⦃a1 a2 a3:Option Addr⦄ ⦃c1 c2 c3:Nat⦄ (hc:AllCl [Cl.sl ag a1 c1 e1.Lin.L,Cl.sl ai a2 c2 e1.Idx,Cl.sl al a3 c3 e1.Args] F w0) ⦃r:Int⦄ (h:f_ e1=some r),CR F w0 87 #[(Value.agg (an e1 a1 c1 a2 c2 a3 c3))] (vi r) []
theorem wl {rec_:(ac→Option Int)} (hrec:Qs9 rec_) (hF:dL F w0) {e1:ac} (hc:AllCl [Cl.sl ag a1 c1 e1.Lin.L,Cl.sl ai a2 c2 e1.Idx,Cl.sl al a3 c3 e1.Args] F w0) {r:Int} (h:kA rec_ e1=some r):CR F w0 87 #[(Value.agg (an e1 a1 c1 a2 c2 a3 c3))] (vi r) []:=by
 refine EN Tryz.func87 Tryz.ntmps87 hF hc fun hI=> ?_
 rw[kA]at h
 refine sr (lX fun b1 c5 w1 hI=> ?_)
 refine T ?_
 refine aj (T ?_)
 refine sq (am (l:=(aK e1 a1 c1 a2 c2 a3 c3)) rfl et gP rfl aB (hI.kblk (l:=(aK e1 a1 c1 a2 c2 a3 c3)) .z rfl).1) ?_
 refine sB h (fun _ k=>xd hI.lt FS k) (Rc Tryz.func162) fun r1 w2 h hI=> ?_
 refine TR fun hb h=> ?_
 refine sr (sq (am (l:=(aK e1 a1 c1 a2 c2 a3 c3)) rfl et gP rfl aB (hI.kblk (l:=(aK e1 a1 c1 a2 c2 a3 c3)) .z rfl).1) ?_)
 refine sB h (fun _ k=>xe hI.lt FS k) (Rc Tryz.func163) fun r2 w3 h hI=> ?_
 refine TR fun hb h=> ?_
 refine sr (sq (am (l:=(aK e1 a1 c1 a2 c2 a3 c3)) rfl et gP rfl aB (hI.kblk (l:=(aK e1 a1 c1 a2 c2 a3 c3)) .z rfl).1) ?_)
 refine sB h (fun _ k=>wj hI.lt FS k) (Rc Tryz.func164) fun r3 w4 h hI=> ?_
 refine TR fun hb h=> ?_
 refine sr (sq (am (l:=(aK e1 a1 c1 a2 c2 a3 c3)) rfl et gP rfl aB (hI.kblk (l:=(aK e1 a1 c1 a2 c2 a3 c3)) .z rfl).1) ?_)
 refine sB h (fun _ k=>xc hI.lt FS k) (Rc Tryz.func165) fun r4 w5 h hI=> ?_
 refine TR fun hb h=> ?_
 refine sr (sq (am (l:=(aK e1 a1 c1 a2 c2 a3 c3)) rfl et gP rfl aB (hI.kblk (l:=(aK e1 a1 c1 a2 c2 a3 c3)) .z rfl).1) ?_)
 refine sB h (fun _ k=>wm hI.lt FS k) (Rc Tryz.func166) fun r5 w6 h hI=> ?_
 refine TR fun hb h=> ?_
 refine T ?_
 refine aj (T ?_)
 refine bh (α:=Nat×Int) (fun x=>fun w=>∃ C,Bun d7 F w0 C w [] [Cl.blk b1 39 (an e1 a1 c1 a2 c2 a3 c3),Cl.sl ag a1 c1 e1.Lin.L,Cl.sl ai a2 c2 e1.Idx,Cl.sl al a3 c3 e1.Args]∧fJ e1 rec_ (x.1) (x.2)=some r) (fun x _=>x.1) (fun x=>[(1,vp b1 0),(3,vi (x.2))]) (fu,0) BH SB ?_
 clear h hI;rintro⟨fuel1,i1⟩ w7 ⟨c6,hI,h⟩
 dsimp only at hI h ⊢
 rcases fuel1 with _ | fuel1
 ·rw[fJ]at h;cases h
 rw[fJ]at h
 refine aj (T ?_)
 refine TC (fun hb h=> ?_) fun hb h=> ?_
 ·refine T ?_
  refine aj (T ?_)
  obtain⟨e2,hx11,h⟩:=ab h
  obtain⟨ad1,cs1,hA1,hr1,hq1⟩:=hI.clat (.s (.s (.s .z))) hx11
  obtain⟨a4,c7,a5,c8,a6,c9,rfl,hf1,hf2,hf3⟩:=bP hr1
  have hI:=hI.ads hf1
  have hI:=hI.ads hf2
  have hI:=hI.ads hf3
  refine sI ?_
  refine T ?_
  refine sB h (fun _ k=>hrec hI.lt FS k) (Rc Tryz.func87) fun r6 w8 h hI=> ?_
  refine TR fun hb h=> ?_
  refine T ?_
  refine aG ?_
  exact kl (fuel1,au (i1+1))
 refine bp ?_
 refine fE ?_
 refine aS ?_
 exact RF
theorem wk (n:Nat):Qs9 (jp n):=by
 induction n with
 | zero=>intro F;intros;rename_i h;cases h
 | succ n ih=>intro F;intros;apply wl ih<;>assumption
theorem zc:Qs9 (pE):=wk fu
theorem tD (hF:dL F w0) {e1:ac} (hc:AllCl [Cl.sl ag a1 c1 e1.Lin.L,Cl.sl ai a2 c2 e1.Idx,Cl.sl al a3 c3 e1.Args] F w0) {r:Int} (h:jq e1=some r):CR F w0 44 #[(Value.agg (an e1 a1 c1 a2 c2 a3 c3))] (vi r) []:=by
 refine EN Tryz.func44 Tryz.ntmps44 hF hc fun hI=> ?_
 rw[jq]at h
 refine sr (lX fun b1 c5 w1 hI=> ?_)
 refine T ?_
 refine aj (sr (sq (am (l:=(aK e1 a1 c1 a2 c2 a3 c3)) rfl et gP rfl aB (hI.kblk (l:=(aK e1 a1 c1 a2 c2 a3 c3)) .z rfl).1) ?_))
 refine sB h (fun _ k=>xg hI.lt FS k) (Rc Tryz.func85) fun r1 w2 h hI=> ?_
 refine TR fun hb h=> ?_
 refine T ?_
 refine aj (sr (sq (am (l:=(aK e1 a1 c1 a2 c2 a3 c3)) rfl et gP rfl aB (hI.kblk (l:=(aK e1 a1 c1 a2 c2 a3 c3)) .z rfl).1) ?_))
 refine sB h (fun _ k=>ze hI.lt FS k) (Rc Tryz.func86) fun r2 w3 h hI=> ?_
 refine TR fun hb h=> ?_
 refine T ?_
 refine sq (am (l:=(aK e1 a1 c1 a2 c2 a3 c3)) rfl et gP rfl aB (hI.kblk (l:=(aK e1 a1 c1 a2 c2 a3 c3)) .z rfl).1) ?_
 refine sB h (fun _ k=>zc hI.lt FS k) (Rc Tryz.func87) fun r3 w4 h hI=> ?_
 exact RF
theorem AQ (hF:dL F w0) {a1 b1:List ay} (hc:AllCl [Cl.sl ga a2 c1 a1,Cl.sl ga a3 c2 b1] F w0) {r:Bool} (h:m5 a1 b1=some r):CR F w0 54 #[vs a2 a1.length c1,vs a3 b1.length c2] (vb r) []:=by
 refine EN Tryz.func54 Tryz.ntmps54 hF hc fun hI=> ?_
 rw[m5]at h
 refine T ?_
 refine aj (T ?_)
 refine TR fun hb h=> ?_
 refine T ?_
 refine aj (T ?_)
 refine bh (α:=Nat×Int) (fun x=>fun w=>∃ C,Bun d7 F w0 C w [] [Cl.sl ga a2 c1 a1,Cl.sl ga a3 c2 b1]∧gq a1 b1 (x.1) (x.2)=some r) (fun x _=>x.1) (fun x=>[(0,vs a2 a1.length c1),(1,vs a3 b1.length c2),(5,vi (x.2))]) (fu,0) BH SB ?_
 clear h hI;rintro⟨fuel1,i1⟩ w1 ⟨c3,hI,h⟩
 dsimp only at hI h ⊢
 rcases fuel1 with _ | fuel1
 ·rw[gq]at h;cases h
 rw[gq]at h
 refine aj (T ?_)
 refine TC (fun hb h=> ?_) fun hb h=> ?_
 ·refine T ?_
  refine aj (T ?_)
  refine aj (aP [] false (.c (0,.q) (.c (1,.q) (.c (2,.q) (.c (3,.q) (.c (4,.q) (.c (5,.q) (.c (6,.q) (.c (7,.q) (.c (8,.s) (.c (9,.q) .n)))))))))) hI (by kernel_rfl) (by kernel_rfl) ?_)
  intro w2 hI
  refine V ?_
  obtain⟨e1,hx1,h⟩:=ab h
  obtain⟨ad1,cs1,hA1,hr1,hq1⟩:=hI.clat .z hx1
  obtain⟨a4,c4,rfl,hf1⟩:=hr1
  have hI:=hI.ads hf1
  refine vI ?_
  refine d5 rfl gn rfl (fun w' hw'=>(am (l:=(gY e1 a4 c4)) rfl et oH rfl bk (hq1.at_ (SX.any rfl hw')))) (by kernel_rfl) ?_
  refine V ?_
  obtain⟨e2,hx2,h⟩:=ab h
  obtain⟨ad2,cs2,hA2,hr2,hq2⟩:=hI.clat (.s (.s .z)) hx2
  obtain⟨a5,c5,rfl,hf2⟩:=hr2
  have hI:=hI.ads hf2
  refine vI ?_
  refine d5 rfl gn rfl (fun w' hw'=>(am (l:=(gY e2 a5 c5)) rfl et oH rfl bk (hq2.at_ (SX.any rfl hw')))) (by kernel_rfl) ?_
  obtain⟨r1,hx3,h⟩:=ab h
  refine bN rfl gn rfl (ax (vs:=[(Value.agg (dM e1 a4 c4)),(Value.agg (dM e2 a5 c5))]) rfl HG ⟨et,⟨et,trivial⟩⟩) (Calls.mono (pU hI.lt FS hx3) ?_)
  rintro _ w3 ⟨rfl,hx4,hl1⟩
  refine⟨_,rfl,hx4,?_⟩
  replace hI:=(hI.ext hx4)
  refine V ?_
  refine TR fun hb h=> ?_
  refine T ?_
  refine aG ?_
  exact kl (fuel1,au (i1+1))
 refine bp ?_
 refine fE ?_
 refine aS ?_
 exact RF
theorem zr (hF:dL F w0) {a1 b1:av} (hc:AllCl [Cl.sl ag a2 c1 a1.Lin.L,Cl.sl ga a3 c2 a1.At,Cl.sl ag a4 c3 b1.Lin.L,Cl.sl ga a5 c4 b1.At] F w0) {r:Bool} (h:mp a1 b1=some r):CR F w0 82 #[(Value.agg (jE a1 a2 c1 a3 c2)),(Value.agg (jE b1 a4 c3 a5 c4))] (vb r) []:=by
 refine EN Tryz.func82 Tryz.ntmps82 hF hc fun hI=> ?_
 rw[mp]at h
 refine sr (lX fun b2 c6 w1 hI=> ?_)
 refine lX fun b3 c8 w2 hI=> ?_
 refine T ?_
 refine ar (aV rfl rfl rfl rfl) rfl (fun hc=>(am (l:=(gY a1.Lin a2 c1)) rfl (aF et hc) oH rfl bk (hI.kblk (l:=(gY a1.Lin a2 c1)) (.s .z) rfl).1)) ?_
 refine T ?_
 refine ar (aV rfl rfl rfl rfl) rfl (fun hc=>(am (l:=(gY b1.Lin a4 c3)) rfl (aF et hc) oH rfl bk (hI.kblk (l:=(gY b1.Lin a4 c3)) .z rfl).1)) ?_
 obtain⟨r1,hx1,h⟩:=ab h
 replace hx1:=aC hx1
 refine sU (fun hc=>pU hI.lt FS (hx1 hc)) (Rg Tryz.func14) fun w3 hI=> ?_
 refine T ?_
 obtain⟨r2,hx3,h⟩:=ab h
 replace hx3:=aC hx3
 refine sU (fun hc=>AQ hI.lt FS (hx3 hc)) (Rg Tryz.func54) fun w4 hI=> ?_
 exact RF
theorem wB (hF:dL F w0) {a1 b1:List av} (hc:AllCl [Cl.sl ai a2 c1 a1,Cl.sl ai a3 c2 b1] F w0) {r:Bool} (h:kO a1 b1=some r):CR F w0 37 #[vs a2 a1.length c1,vs a3 b1.length c2] (vb r) []:=by
 refine EN Tryz.func37 Tryz.ntmps37 hF hc fun hI=> ?_
 rw[kO]at h
 refine T ?_
 refine aj (T ?_)
 refine TR fun hb h=> ?_
 refine T ?_
 refine aj (T ?_)
 refine bh (α:=Nat×Int) (fun x=>fun w=>∃ C,Bun d7 F w0 C w [] [Cl.sl ai a2 c1 a1,Cl.sl ai a3 c2 b1]∧eH a1 b1 (x.1) (x.2)=some r) (fun x _=>x.1) (fun x=>[(0,vs a2 a1.length c1),(1,vs a3 b1.length c2),(5,vi (x.2))]) (fu,0) BH SB ?_
 clear h hI;rintro⟨fuel1,i1⟩ w1 ⟨c3,hI,h⟩
 dsimp only at hI h ⊢
 rcases fuel1 with _ | fuel1
 ·rw[eH]at h;cases h
 rw[eH]at h
 refine aj (T ?_)
 refine TC (fun hb h=> ?_) fun hb h=> ?_
 ·refine T ?_
  refine aj (T ?_)
  refine aj (aP [] false (.c (0,.q) (.c (1,.q) (.c (2,.q) (.c (3,.q) (.c (4,.q) (.c (5,.q) (.c (6,.q) (.c (7,.q) (.c (8,.s) (.c (9,.q) .n)))))))))) hI (by kernel_rfl) (by kernel_rfl) ?_)
  intro w2 hI
  refine V ?_
  obtain⟨e1,hx1,h⟩:=ab h
  obtain⟨ad1,cs1,hA1,hr1,hq1⟩:=hI.clat .z hx1
  obtain⟨a4,c4,a5,c5,rfl,hf1,hf2⟩:=hr1
  have hI:=hI.ads hf1
  have hI:=hI.ads hf2
  refine vI ?_
  refine d5 rfl gn rfl (fun w' hw'=>(am (l:=(nR e1 a4 c4 a5 c5)) rfl et mY rfl kr (hq1.at_ (SX.any rfl hw')))) (by kernel_rfl) ?_
  refine V ?_
  obtain⟨e2,hx2,h⟩:=ab h
  obtain⟨ad2,cs2,hA2,hr2,hq2⟩:=hI.clat (.s (.s (.s .z))) hx2
  obtain⟨a6,c6,a7,c7,rfl,hf3,hf4⟩:=hr2
  have hI:=hI.ads hf3
  have hI:=hI.ads hf4
  refine vI ?_
  refine d5 rfl gn rfl (fun w' hw'=>(am (l:=(nR e2 a6 c6 a7 c7)) rfl et mY rfl kr (hq2.at_ (SX.any rfl hw')))) (by kernel_rfl) ?_
  obtain⟨r1,hx3,h⟩:=ab h
  refine bN rfl gn rfl (ax (vs:=[(Value.agg (jE e1 a4 c4 a5 c5)),(Value.agg (jE e2 a6 c6 a7 c7))]) rfl Kp ⟨et,⟨et,trivial⟩⟩) (Calls.mono (zr hI.lt FS hx3) ?_)
  rintro _ w3 ⟨rfl,hx4,hl1⟩
  refine⟨_,rfl,hx4,?_⟩
  replace hI:=(hI.ext hx4)
  refine V ?_
  refine TR fun hb h=> ?_
  refine T ?_
  refine aG ?_
  exact kl (fuel1,au (i1+1))
 refine bp ?_
 refine fE ?_
 refine aS ?_
 exact RF
abbrev Ho (f_:(ac→ac→Option Bool)):Prop:=∀ ⦃F:NP⦄ ⦃w0:World⦄ (hF:dL F w0) ⦃a1 b1:ac⦄ ⦃a2 a3 a4 a5 a6 a7:Option Addr⦄ ⦃c1 c2 c3 c4 c5 c6:Nat⦄ (hc:AllCl [Cl.sl ag a2 c1 a1.Lin.L,Cl.sl ai a3 c2 a1.Idx,Cl.sl al a4 c3 a1.Args,Cl.sl ag a5 c4 b1.Lin.L,Cl.sl ai a6 c5 b1.Idx,Cl.sl al a7 c6 b1.Args] F w0) ⦃r:Bool⦄ (h:f_ a1 b1=some r),CR F w0 17 #[(Value.agg (an a1 a2 c1 a3 c2 a4 c3)),(Value.agg (an b1 a5 c4 a6 c5 a7 c6))] (vb r) []
theorem zt {rec_:(ac→ac→Option Bool)} (hrec:Ho rec_) (hF:dL F w0) {a1 b1:List ac} (hc:AllCl [Cl.sl al a2 c1 a1,Cl.sl al a3 c2 b1] F w0) {r:Bool} (h:mq rec_ a1 b1=some r):CR F w0 38 #[vs a2 a1.length c1,vs a3 b1.length c2] (vb r) []:=by
 refine EN Tryz.func38 Tryz.ntmps38 hF hc fun hI=> ?_
 rw[mq]at h
 refine T ?_
 refine aj (T ?_)
 refine TR fun hb h=> ?_
 refine T ?_
 refine aj (T ?_)
 refine bh (α:=Nat×Int) (fun x=>fun w=>∃ C,Bun d7 F w0 C w [] [Cl.sl al a2 c1 a1,Cl.sl al a3 c2 b1]∧fN a1 b1 rec_ (x.1) (x.2)=some r) (fun x _=>x.1) (fun x=>[(0,vs a2 a1.length c1),(1,vs a3 b1.length c2),(5,vi (x.2))]) (fu,0) BH SB ?_
 clear h hI;rintro⟨fuel1,i1⟩ w1 ⟨c3,hI,h⟩
 dsimp only at hI h ⊢
 rcases fuel1 with _ | fuel1
 ·rw[fN]at h;cases h
 rw[fN]at h
 refine aj (T ?_)
 refine TC (fun hb h=> ?_) fun hb h=> ?_
 ·refine T ?_
  refine aj (T ?_)
  refine aj (aP [] false (.c (0,.q) (.c (1,.q) (.c (2,.q) (.c (3,.q) (.c (4,.q) (.c (5,.q) (.c (6,.q) (.c (7,.q) (.c (8,.s) (.c (9,.q) .n)))))))))) hI (by kernel_rfl) (by kernel_rfl) ?_)
  intro w2 hI
  refine V ?_
  obtain⟨e1,hx1,h⟩:=ab h
  obtain⟨ad1,cs1,hA1,hr1,hq1⟩:=hI.clat .z hx1
  obtain⟨a4,c4,a5,c5,a6,c6,rfl,hf1,hf2,hf3⟩:=bP hr1
  have hI:=hI.ads hf1
  have hI:=hI.ads hf2
  have hI:=hI.ads hf3
  refine vI ?_
  refine d5 rfl gn rfl (fun w' hw'=>(am (l:=(aK e1 a4 c4 a5 c5 a6 c6)) rfl et gP rfl aB (hq1.at_ (SX.any rfl hw')))) (by kernel_rfl) ?_
  refine V ?_
  obtain⟨e2,hx2,h⟩:=ab h
  obtain⟨ad2,cs2,hA2,hr2,hq2⟩:=hI.clat (.s (.s (.s (.s .z)))) hx2
  obtain⟨a7,c7,a8,c8,a9,c9,rfl,hf4,hf5,hf6⟩:=bP hr2
  have hI:=hI.ads hf4
  have hI:=hI.ads hf5
  have hI:=hI.ads hf6
  refine vI ?_
  refine d5 rfl gn rfl (fun w' hw'=>(am (l:=(aK e2 a7 c7 a8 c8 a9 c9)) rfl et gP rfl aB (hq2.at_ (SX.any rfl hw')))) (by kernel_rfl) ?_
  obtain⟨r1,hx3,h⟩:=ab h
  refine bN rfl gn rfl (ax (vs:=[(Value.agg (an e1 a4 c4 a5 c5 a6 c6)),(Value.agg (an e2 a7 c7 a8 c8 a9 c9))]) rfl Ku ⟨et,⟨et,trivial⟩⟩) (Calls.mono (hrec hI.lt FS hx3) ?_)
  rintro _ w3 ⟨rfl,hx4,hl1⟩
  refine⟨_,rfl,hx4,?_⟩
  replace hI:=(hI.ext hx4)
  refine V ?_
  refine TR fun hb h=> ?_
  refine T ?_
  refine aG ?_
  exact kl (fuel1,au (i1+1))
 refine bp ?_
 refine fE ?_
 refine aS ?_
 exact RF
theorem xu {rec_:(ac→ac→Option Bool)} (hrec:Ho rec_) (hF:dL F w0) {a1 b1:ac} (hc:AllCl [Cl.sl ag a2 c1 a1.Lin.L,Cl.sl ai a3 c2 a1.Idx,Cl.sl al a4 c3 a1.Args,Cl.sl ag a5 c4 b1.Lin.L,Cl.sl ai a6 c5 b1.Idx,Cl.sl al a7 c6 b1.Args] F w0) {r:Bool} (h:lC rec_ a1 b1=some r):CR F w0 17 #[(Value.agg (an a1 a2 c1 a3 c2 a4 c3)),(Value.agg (an b1 a5 c4 a6 c5 a7 c6))] (vb r) []:=by
 refine EN Tryz.func17 Tryz.ntmps17 hF hc fun hI=> ?_
 rw[lC]at h
 refine sr (lX fun b2 c8 w1 hI=> ?_)
 refine lX fun b3 c10 w2 hI=> ?_
 refine T ?_
 refine ar (aV rfl rfl rfl rfl) rfl (fun hc=>(am (l:=(mA a1.Val)) rfl (aF et hc) Cs rfl jI (hI.kblk (l:=(mA a1.Val)) (.s .z) rfl).1)) ?_
 refine T ?_
 refine ar (aV rfl rfl rfl rfl) rfl (fun hc=>(am (l:=(mA b1.Val)) rfl (aF et hc) Cs rfl jI (hI.kblk (l:=(mA b1.Val)) .z rfl).1)) ?_
 refine ar (aV rfl rfl rfl rfl) rfl (fun hc=>iB rfl (aF et hc) (aF et hc) (AD ..) (rL ..)) ?_
 refine T ?_
 refine ar (aV rfl rfl rfl rfl) rfl (fun hc=>(am (l:=(cH a1.Type_)) rfl (aF et hc) qc rfl cO (hI.kblk (l:=(cH a1.Type_)) (.s .z) rfl).1)) ?_
 refine T ?_
 refine ar (aV rfl rfl rfl rfl) rfl (fun hc=>(am (l:=(cH b1.Type_)) rfl (aF et hc) qc rfl cO (hI.kblk (l:=(cH b1.Type_)) .z rfl).1)) ?_
 refine ar (aV rfl rfl rfl rfl) rfl (fun hc=>iB rfl (aF et hc) (aF et hc) (ui ..) (pN ..)) ?_
 refine T ?_
 refine ar (aV rfl rfl rfl rfl) rfl (fun hc=>(am (l:=(gY a1.Lin a2 c1)) rfl (aF et hc) oH rfl bk (hI.kblk (l:=(gY a1.Lin a2 c1)) (.s .z) rfl).1)) ?_
 refine T ?_
 refine ar (aV rfl rfl rfl rfl) rfl (fun hc=>(am (l:=(gY b1.Lin a5 c4)) rfl (aF et hc) oH rfl bk (hI.kblk (l:=(gY b1.Lin a5 c4)) .z rfl).1)) ?_
 obtain⟨r1,hx1,h⟩:=ab h
 replace hx1:=aC hx1
 refine sU (fun hc=>pU hI.lt FS (hx1 hc)) (Rg Tryz.func14) fun w3 hI=> ?_
 refine T ?_
 obtain⟨r2,hx3,h⟩:=ab h
 replace hx3:=aC hx3
 refine sU (fun hc=>wB hI.lt FS (hx3 hc)) (Rg Tryz.func37) fun w4 hI=> ?_
 refine T ?_
 obtain⟨r3,hx5,h⟩:=ab h
 replace hx5:=aC hx5
 refine sU (fun hc=>zt hrec hI.lt FS (hx5 hc)) (Rg Tryz.func38) fun w5 hI=> ?_
 exact RF
theorem xt (n:Nat):Ho (jf n):=by
 induction n with
 | zero=>intro F;intros;rename_i h;cases h
 | succ n ih=>intro F;intros;apply xu ih<;>assumption
theorem AR:Ho (oB):=xt fu
abbrev JH (f_:(ac→Int→Option Int)):Prop:=∀ ⦃F:NP⦄ ⦃w0:World⦄ (hF:dL F w0) ⦃e1:ac⦄ ⦃most1:Int⦄ ⦃a1 a2 a3:Option Addr⦄ ⦃c1 c2 c3:Nat⦄ (hc:AllCl [Cl.sl ag a1 c1 e1.Lin.L,Cl.sl ai a2 c2 e1.Idx,Cl.sl al a3 c3 e1.Args] F w0) ⦃r:Int⦄ (h:f_ e1 most1=some r),CR F w0 43 #[(Value.agg (an e1 a1 c1 a2 c2 a3 c3)),vi most1] (vi r) []
theorem wA {rec_:(ac→Int→Option Int)} (hrec:JH rec_) (hF:dL F w0) {e1:ac} {most1:Int} (hc:AllCl [Cl.sl ag a1 c1 e1.Lin.L,Cl.sl ai a2 c2 e1.Idx,Cl.sl al a3 c3 e1.Args] F w0) {r:Int} (h:kL rec_ e1 most1=some r):CR F w0 43 #[(Value.agg (an e1 a1 c1 a2 c2 a3 c3)),vi most1] (vi r) []:=by
 refine EN Tryz.func43 Tryz.ntmps43 hF hc fun hI=> ?_
 rw[kL]at h
 refine sr (lX fun b1 c5 w1 hI=> ?_)
 refine tS ?_
 refine nk (sr (sq (ao rfl et gP rfl bk rfl) ?_))
 refine sq (ao rfl et oH rfl qT rfl) ?_
 refine sq (aO (v:=(vs a1 e1.Lin.L.length c1)) rfl et wJ rfl (hI.kblk (l:=[vs a1 e1.Lin.L.length c1]) .z rfl).1) ?_
 refine sq (jc rfl wJ et) ?_
 refine sq (lO rfl af et) ?_
 refine sq (ao rfl et gP rfl lV rfl) ?_
 refine sq (aO (v:=(vs a2 e1.Idx.length c2)) rfl et rX rfl (hI.kblk (l:=[vs a2 e1.Idx.length c2]) .z rfl).1) ?_
 refine sq (jc rfl rX et) ?_
 refine sq (lO rfl et et) ?_
 obtain⟨n1,hx1,h⟩:=ab h
 refine sq (rS (cb rfl et) (congrArg (Value.int .i64) (ak hx1))) ?_
 refine nk (bJ (α:=Int) (fun _=>⟨101,[]⟩) (fun x=>[(1,vi most1),(2,vp b1 0),(5,vi x)]) (fun x=>fun w=>∃ C,Bun d7 F w0 C w [] [Cl.blk b1 39 (an e1 a1 c1 a2 c2 a3 c3),Cl.sl ag a1 c1 e1.Lin.L,Cl.sl ai a2 c2 e1.Idx,Cl.sl al a3 c3 e1.Args]∧iO e1 most1 rec_ x=some r) ?_ ?_)
 ·clear h hI;rintro n2 w2 ⟨c6,hI,h⟩
  try dsimp only at hI h ⊢
  rw[iO]at h
  refine aj (sr (tS ?_))
  refine nk (la (bh (α:=Nat×Int×Int) (fun x=>fun w=>∃ C,Bun d7 F w0 C w [] [Cl.blk b1 39 (an e1 a1 c1 a2 c2 a3 c3),Cl.sl ag a1 c1 e1.Lin.L,Cl.sl ai a2 c2 e1.Idx,Cl.sl al a3 c3 e1.Args]∧fM e1 most1 rec_ (x.1) (x.2.1) (x.2.2)=some r) (fun x _=>x.1) (fun x=>[(1,vi most1),(2,vp b1 0),(5,vi (x.2.1)),(8,vi (x.2.2))]) (fu,n2,0) BH SB ?_))
  clear h hI;rintro⟨fuel1,n3,i1⟩ w3 ⟨c7,hI,h⟩
  dsimp only at hI h ⊢
  rcases fuel1 with _ | fuel1
  ·rw[fM]at h;cases h
  rw[fM]at h
  refine aj (sr (sm ?_))
  refine sq (ao rfl et gP rfl CG rfl) ?_
  refine sq (aO (v:=(vs a3 e1.Args.length c3)) rfl et F6 rfl (hI.kblk (l:=[vs a3 e1.Args.length c3]) .z rfl).1) ?_
  refine sq (jc rfl F6 et) ?_
  refine sq (oY rfl et et) ?_
  refine sm ?_
  refine ar (aV rfl rfl rfl rfl) rfl (fun hc=>eF rfl et) ?_
  refine ar (aV rfl rfl rfl rfl) rfl (fun hc=>eF rfl et) ?_
  refine ar (aV rfl rfl rfl rfl) rfl (fun hc=>xz rfl (aF et hc) (aF et hc)) ?_
  refine sq (qi rfl et et) ?_
  refine TC (fun hb h=> ?_) fun hb h=> ?_
  ·refine aT (aS (aj (la (iv rfl ?_))))
   refine sm ?_
   refine sq (ao rfl et gP rfl CG rfl) ?_
   refine sq (aO (v:=(vs a3 e1.Args.length c3)) rfl et F6 rfl (hI.kblk (l:=[vs a3 e1.Args.length c3]) .z rfl).1) ?_
   refine sm ?_
   obtain⟨e2,hx2,h⟩:=ab h
   obtain⟨ad1,cs1,hA1,hr1,hq1⟩:=hI.clat (.s (.s (.s .z))) hx2
   obtain⟨a4,c8,a5,c9,a6,c10,rfl,hf1,hf2,hf3⟩:=bP hr1
   have hI:=hI.ads hf1
   have hI:=hI.ads hf2
   have hI:=hI.ads hf3
   refine sq (hO rfl F6 aB et et (nq hx2) hA1) ?_
   refine sq (am (l:=(aK e2 a4 c8 a5 c9 a6 c10)) rfl et gP rfl aB hq1.1) ?_
   refine sm ?_
   refine sm ?_
   refine sq (Ee rfl et et) ?_
   refine sB h (fun _ k=>hrec hI.lt FS k) (Rc Tryz.func43) fun r1 w4 h hI=> ?_
   refine sq (lO rfl et et) ?_
   refine sa ?_
   refine nk (iv rfl ?_)
   refine sm ?_
   refine sq (lO rfl et af) ?_
   refine sa ?_
   refine aG ?_
   exact kl (fuel1,au (n3+r1),au (i1+1))
  refine bp ?_
  refine fE ?_
  refine aS (sr (sm ?_))
  refine sa ?_
  refine nk (aJ ?_)
  obtain rfl:=ak h
  exact fr (vs:=[vi n3]) Tryz.results43 ⟨aI rfl rfl,trivial⟩ (fq hI trivial)
 refine sr (tS ?_)
 refine nk (la (bh (α:=Nat×Int×Int) (fun x=>fun w=>∃ C,Bun d7 F w0 C w [] [Cl.blk b1 39 (an e1 a1 c1 a2 c2 a3 c3),Cl.sl ag a1 c1 e1.Lin.L,Cl.sl ai a2 c2 e1.Idx,Cl.sl al a3 c3 e1.Args]∧cx e1 most1 rec_ (x.1) (x.2.1) (x.2.2)=some r) (fun x _=>x.1) (fun x=>[(1,vi most1),(2,vp b1 0),(5,vi (x.2.1)),(6,vi (x.2.2))]) (fu,n1,0) BH SB ?_))
 clear h hI;rintro⟨fuel2,n4,i2⟩ w5 ⟨c11,hI,h⟩
 dsimp only at hI h ⊢
 rcases fuel2 with _ | fuel2
 ·rw[cx]at h;cases h
 rw[cx]at h
 refine aj (sr (sm ?_))
 refine sq (ao rfl et gP rfl lV rfl) ?_
 refine sq (aO (v:=(vs a2 e1.Idx.length c2)) rfl et rX rfl (hI.kblk (l:=[vs a2 e1.Idx.length c2]) .z rfl).1) ?_
 refine sq (jc rfl rX et) ?_
 refine sq (oY rfl et et) ?_
 refine sm ?_
 refine ar (aV rfl rfl rfl rfl) rfl (fun hc=>eF rfl et) ?_
 refine ar (aV rfl rfl rfl rfl) rfl (fun hc=>eF rfl et) ?_
 refine ar (aV rfl rfl rfl rfl) rfl (fun hc=>xz rfl (aF et hc) (aF et hc)) ?_
 refine sq (qi rfl et et) ?_
 refine TC (fun hb h=> ?_) fun hb h=> ?_
 ·refine aT (aS (bJ (α:=Int) (fun _=>⟨101,[]⟩) (fun x=>[(1,vi most1),(2,vp b1 0),(5,vi x),(6,vi i2)]) (fun x=>fun w=>∃ C,Bun d7 F w0 C w [] [Cl.blk b1 39 (an e1 a1 c1 a2 c2 a3 c3),Cl.sl ag a1 c1 e1.Lin.L,Cl.sl ai a2 c2 e1.Idx,Cl.sl al a3 c3 e1.Args]∧lG (cx e1 most1 rec_ fuel2) i2 x=some r) ?_ ?_))
  ·clear h hI;rintro n5 w6 ⟨c12,hI,h⟩
   try dsimp only at hI h ⊢
   rw[lG]at h
   refine iv rfl ?_
   refine sm ?_
   refine sq (lO rfl et af) ?_
   refine sa ?_
   refine aG ?_
   exact kl (fuel2,n5,au (i2+1))
  refine la (aj (aP [] false (.c (0,.q) (.c (1,.q) (.c (2,.q) (.c (3,.q) (.c (4,.q) (.c (5,.q) (.c (6,.q) (.c (7,.q) (.c (8,.q) (.c (9,.q) (.c (10,.q) (.c (11,.q) (.c (12,.q) (.c (13,.q) (.c (14,.q) (.c (15,.q) (.c (16,.q) (.c (17,.q) (.c (18,.q) .n))))))))))))))))))) hI (by kernel_rfl) (by kernel_rfl) ?_))
  intro w7 hI
  refine iy rfl gn rfl (fun w'=>eF rfl et) ?_
  refine iy rfl gn rfl (fun w'=>ao rfl et gP rfl lV rfl) ?_
  refine d5 rfl gn rfl (fun w' hw'=>(aO (v:=(vs a2 e1.Idx.length c2)) rfl et rX rfl ((hI.kblk (l:=[vs a2 e1.Idx.length c2]) .z rfl).at_ (SX.any rfl hw')))) (by kernel_rfl) ?_
  refine iy rfl gn rfl (fun w'=>eF rfl et) ?_
  obtain⟨e3,hx5,h⟩:=ab h
  obtain⟨ad2,cs2,hA2,hr2,hq2⟩:=hI.clat (.s (.s .z)) hx5
  obtain⟨a7,c13,a8,c14,rfl,hf4,hf5⟩:=hr2
  have hI:=hI.ads hf4
  have hI:=hI.ads hf5
  refine iy rfl gn rfl (fun w'=>hO rfl rX kr et et (nq hx5) hA2) ?_
  refine iy rfl gn rfl (fun w'=>ao rfl et mY rfl bk rfl) ?_
  refine iy rfl gn rfl (fun w'=>yf rfl et oH rfl qT rfl) ?_
  refine d5 rfl gn rfl (fun w' hw'=>(aO (v:=(vs a7 e3.Lin.L.length c13)) rfl et wJ rfl ((CA.part hq2 rfl).at_ (SX.any rfl hw')))) (by kernel_rfl) ?_
  refine iy rfl gn rfl (fun w'=>jc rfl wJ et) ?_
  refine iy rfl gn rfl (fun w'=>lO rfl et et) ?_
  refine iy rfl gn rfl (fun w'=>ao rfl et gP rfl lV rfl) ?_
  refine d5 rfl gn rfl (fun w' hw'=>(aO (v:=(vs a2 e1.Idx.length c2)) rfl et rX rfl ((hI.kblk (l:=[vs a2 e1.Idx.length c2]) (.s (.s .z)) rfl).at_ (SX.any rfl hw')))) (by kernel_rfl) ?_
  refine iy rfl gn rfl (fun w'=>eF rfl et) ?_
  obtain⟨e4,hx6,h⟩:=ab h
  obtain⟨ad3,cs3,hA3,hr3,hq3⟩:=hI.clat (.s (.s (.s (.s .z)))) hx6
  obtain⟨a9,c15,a10,c16,rfl,hf6,hf7⟩:=hr3
  have hI:=hI.ads hf6
  have hI:=hI.ads hf7
  refine iy rfl gn rfl (fun w'=>hO rfl rX kr et et (nq hx6) hA3) ?_
  refine iy rfl gn rfl (fun w'=>ao rfl et mY rfl ow rfl) ?_
  refine d5 rfl gn rfl (fun w' hw'=>(aO (v:=(vs a10 e4.At.length c16)) rfl et A7 rfl ((CA.part hq3 rfl).at_ (SX.any rfl hw')))) (by kernel_rfl) ?_
  refine iy rfl gn rfl (fun w'=>jc rfl A7 et) ?_
  refine iy rfl gn rfl (fun w'=>lO rfl et et) ?_
  refine iy rfl gn rfl (fun w'=>cb rfl et) ?_
  refine nu ?_
  refine mN (e:=[(1,vi most1),(2,vp b1 0),(5,(vi (au ((au (n4+(e3.Lin.L.length:Int)))+(e4.At.length:Int))))),(6,vi i2)]) SB ?_
  refine sr (tS ?_)
  refine nk (la (bh (α:=Nat×Int×Int) (fun x=>fun w=>∃ C,Bun d7 F w0 C w [] [Cl.blk b1 39 (an e1 a1 c1 a2 c2 a3 c3),Cl.sl ag a1 c1 e1.Lin.L,Cl.sl ai a2 c2 e1.Idx,Cl.sl al a3 c3 e1.Args]∧fL e1 i2 most1 (cx e1 most1 rec_ fuel2) (x.1) (x.2.1) (x.2.2)=some r) (fun x _=>x.1) (fun x=>[(1,vi most1),(2,vp b1 0),(5,vi (x.2.1)),(6,vi i2),(7,vi (x.2.2))]) (fu,au ((au (n4+(e3.Lin.L.length:Int)))+(e4.At.length:Int)),0) BH SB ?_))
  clear h hI;rintro⟨fuel3,n6,k1⟩ w8 ⟨c17,hI,h⟩
  dsimp only at hI h ⊢
  rcases fuel3 with _ | fuel3
  ·rw[fL]at h;cases h
  rw[fL]at h
  refine aj (sr (sm ?_))
  refine sq (ao rfl et gP rfl lV rfl) ?_
  refine sq (aO (v:=(vs a2 e1.Idx.length c2)) rfl et rX rfl (hI.kblk (l:=[vs a2 e1.Idx.length c2]) .z rfl).1) ?_
  refine sm ?_
  obtain⟨e5,hx7,h⟩:=ab h
  obtain⟨ad4,cs4,hA4,hr4,hq4⟩:=hI.clat (.s (.s .z)) hx7
  obtain⟨a11,c18,a12,c19,rfl,hf8,hf9⟩:=hr4
  have hI:=hI.ads hf8
  have hI:=hI.ads hf9
  refine sq (hO rfl rX kr et et (nq hx7) hA4) ?_
  refine sq (ao rfl et mY rfl ow rfl) ?_
  refine sq (aO (v:=(vs a12 e5.At.length c19)) rfl et A7 rfl (CA.part hq4 rfl).1) ?_
  refine sq (jc rfl A7 et) ?_
  refine sq (oY rfl et et) ?_
  refine sm ?_
  refine ar (aV rfl rfl rfl rfl) rfl (fun hc=>eF rfl et) ?_
  refine ar (aV rfl rfl rfl rfl) rfl (fun hc=>eF rfl et) ?_
  refine ar (aV rfl rfl rfl rfl) rfl (fun hc=>xz rfl (aF et hc) (aF et hc)) ?_
  refine sq (qi rfl et et) ?_
  refine TC (fun hb h=> ?_) fun hb h=> ?_
  ·refine aT (aS (aj (la (iv rfl ?_))))
   refine sm ?_
   refine sq (ao rfl et gP rfl lV rfl) ?_
   refine sq (aO (v:=(vs a2 e1.Idx.length c2)) rfl et rX rfl (hI.kblk (l:=[vs a2 e1.Idx.length c2]) (.s (.s .z)) rfl).1) ?_
   refine sm ?_
   obtain⟨e6,hx8,h⟩:=ab h
   obtain⟨ad5,cs5,hA5,hr5,hq5⟩:=hI.clat (.s (.s (.s (.s .z)))) hx8
   obtain⟨a13,c20,a14,c21,rfl,hf10,hf11⟩:=hr5
   have hI:=hI.ads hf10
   have hI:=hI.ads hf11
   refine sq (hO rfl rX kr et et (nq hx8) hA5) ?_
   refine sq (ao rfl et mY rfl ow rfl) ?_
   refine sq (aO (v:=(vs a14 e6.At.length c21)) rfl et A7 rfl (CA.part hq5 rfl).1) ?_
   refine sm ?_
   obtain⟨e7,hx9,h⟩:=ab h
   obtain⟨ad6,cs6,hA6,hr6,hq6⟩:=hI.clat .z hx9
   obtain⟨a15,c22,rfl,hf12⟩:=hr6
   have hI:=hI.ads hf12
   refine sq (hO rfl A7 bk et et (nq hx9) hA6) ?_
   refine sq (ao rfl et oH rfl qT rfl) ?_
   refine sq (aO (v:=(vs a15 e7.L.length c22)) rfl et wJ rfl (CA.part hq6 rfl).1) ?_
   refine sq (jc rfl wJ et) ?_
   refine sq (lO rfl et et) ?_
   obtain⟨n7,hx10,h⟩:=ab h
   refine sq (rS (cb rfl et) (congrArg (Value.int .i64) (ak hx10))) ?_
   refine aG ?_
   refine mN (e:=[(1,vi most1),(2,vp b1 0),(5,vi n7),(6,vi i2),(7,vi k1)]) SB ?_
   refine iv rfl ?_
   refine sm ?_
   refine sq (lO rfl et af) ?_
   refine sa ?_
   refine aG ?_
   exact kl (fuel3,n7,au (k1+1))
  refine bp ?_
  refine fE ?_
  exact kj n6
 refine bp ?_
 refine fE ?_
 exact kj n4
theorem wz (n:Nat):JH (dh n):=by
 induction n with
 | zero=>intro F;intros;rename_i h;cases h
 | succ n ih=>intro F;intros;apply wA ih<;>assumption
theorem zq:JH (pJ):=wz fu
theorem wZ (hF:dL F w0) {e1:ac} (hc:AllCl [Cl.sl ag a1 c1 e1.Lin.L,Cl.sl ai a2 c2 e1.Idx,Cl.sl al a3 c3 e1.Args] F w0) {r:Bool} (h:lk e1=some r):CR F w0 20 #[(Value.agg (an e1 a1 c1 a2 c2 a3 c3))] (vb r) []:=by
 refine EN Tryz.func20 Tryz.ntmps20 hF hc fun hI=> ?_
 rw[lk]at h
 refine sr (lX fun b1 c5 w1 hI=> ?_)
 refine T ?_
 refine sq (am (l:=(aK e1 a1 c1 a2 c2 a3 c3)) rfl et gP rfl aB (hI.kblk (l:=(aK e1 a1 c1 a2 c2 a3 c3)) .z rfl).1) ?_
 refine sB h (fun _ k=>zq hI.lt FS k) (Rc Tryz.func43) fun r1 w2 h hI=> ?_
 exact RF
theorem y8 (hF:dL F w0) {op1:Int} (hc:AllCl [] F w0) {r:List UInt8} (h:l7 op1=some r):CR F w0 88 #[vi op1] (str r) []:=by
 refine EN Tryz.func88 Tryz.ntmps88 hF hc fun hI=> ?_
 rw[l7]at h
 refine T ?_
 refine aj (T ?_)
 refine TR fun hb h=> ?_
 refine TR fun hb h=> ?_
 refine TR fun hb h=> ?_
 refine TR fun hb h=> ?_
 refine TR fun hb h=> ?_
 refine TR fun hb h=> ?_
 refine TR fun hb h=> ?_
 refine TR fun hb h=> ?_
 refine TR fun hb h=> ?_
 exact RF
theorem oP (hF:dL F w0) {op1:Int} (hc:AllCl [] F w0) {r:Int} (h:hP op1=some r):CR F w0 90 #[vi op1] (vi r) []:=by
 refine EN Tryz.func90 Tryz.ntmps90 hF hc fun hI=> ?_
 rw[hP]at h
 refine T ?_
 refine aj (T ?_)
 refine TR fun hb h=> ?_
 refine TR fun hb h=> ?_
 refine TR fun hb h=> ?_
 refine bJ (α:=Bool) (fun _=>⟨22,[]⟩) (fun x=>[(3,vi op1),(10,vb x)]) (fun x=>fun w=>∃ C,Bun d7 F w0 C w [] []∧ig op1 x=some r) ?_ ?_
 ·clear h hI;rintro i1 w1 ⟨c1,hI,h⟩
  try dsimp only at hI h ⊢
  rw[ig]at h
  refine TR fun hb h=> ?_
  refine bJ (α:=Bool) (fun _=>⟨22,[]⟩) (fun x=>[(3,vi op1),(14,vb x)]) (fun x=>fun w=>∃ C,Bun d7 F w0 C w [] []∧jn op1 x=some r) ?_ ?_
  ·clear h hI;rintro i2 w2 ⟨c2,hI,h⟩
   try dsimp only at hI h ⊢
   rw[jn]at h
   refine TR fun hb h=> ?_
   refine bJ (α:=Bool) (fun _=>⟨22,[]⟩) (fun x=>[(3,vi op1),(17,vb x)]) (fun x=>fun w=>∃ C,Bun d7 F w0 C w [] []∧jm op1 x=some r) ?_ ?_
   ·clear h hI;rintro i3 w3 ⟨c3,hI,h⟩
    try dsimp only at hI h ⊢
    rw[jm]at h
    refine TR fun hb h=> ?_
    refine TR fun hb h=> ?_
    exact RF
   refine TC (fun hb h=> ?_) fun hb h=> ?_
   ·exact aT (br (decide (op1=6)) SB BH rfl)
   refine T ?_
   refine aG ?_
   exact kj (decide (op1=7))
  refine TC (fun hb h=> ?_) fun hb h=> ?_
  ·exact aT (br (decide (op1=4)) SB BH rfl)
  refine T ?_
  refine aG ?_
  exact kj (decide (op1=5))
 refine TC (fun hb h=> ?_) fun hb h=> ?_
 ·exact aT (br (decide (op1=13)) SB BH rfl)
 refine TC (fun hb h=> ?_) fun hb h=> ?_
 ·exact aT (br (decide (op1=14)) SB BH rfl)
 refine T ?_
 refine aG ?_
 exact kj (decide (op1=15))
abbrev Hn (f_:(ac→Option (List UInt8))):Prop:=∀ ⦃F:NP⦄ ⦃w0:World⦄ (hF:dL F w0) ⦃e1:ac⦄ ⦃a1 a2 a3:Option Addr⦄ ⦃c1 c2 c3:Nat⦄ (hc:AllCl [Cl.sl ag a1 c1 e1.Lin.L,Cl.sl ai a2 c2 e1.Idx,Cl.sl al a3 c3 e1.Args] F w0) ⦃r:List UInt8⦄ (h:f_ e1=some r),CR F w0 45 #[(Value.agg (an e1 a1 c1 a2 c2 a3 c3))] (str r) []
theorem lI {rec_:(ac→Option (List UInt8))} (hrec:Hn rec_) (hF:dL F w0) {e1:ac} {least1:Int} (hc:AllCl [Cl.sl ag a1 c1 e1.Lin.L,Cl.sl ai a2 c2 e1.Idx,Cl.sl al a3 c3 e1.Args] F w0) {r:List UInt8} (h:fH rec_ e1 least1=some r):CR F w0 89 #[(Value.agg (an e1 a1 c1 a2 c2 a3 c3)),vi least1] (str r) []:=by
 refine EN Tryz.func89 Tryz.ntmps89 hF hc fun hI=> ?_
 rw[fH]at h
 refine sr (lX fun b1 c5 w1 hI=> ?_)
 refine T ?_
 refine aj (T ?_)
 refine sB h (fun _ k=>oP hI.lt trivial k) (Rc Tryz.func90) fun r1 w2 h hI=> ?_
 refine TC (fun hb h=> ?_) fun hb h=> ?_
 ·refine sr (sq (am (l:=(aK e1 a1 c1 a2 c2 a3 c3)) rfl et gP rfl aB (hI.kblk (l:=(aK e1 a1 c1 a2 c2 a3 c3)) .z rfl).1) ?_)
  refine sB h (fun _ k=>hrec hI.lt FS k) (Rc Tryz.func45) fun r2 w3 h hI=> ?_
  obtain⟨s1,hx5,h⟩:=ab h
  refine sq (bm rfl af et hx5) ?_
  obtain⟨s2,hx6,h⟩:=ab h
  refine sq (bm rfl et af hx6) ?_
  exact RF
 refine T ?_
 refine sq (am (l:=(aK e1 a1 c1 a2 c2 a3 c3)) rfl et gP rfl aB (hI.kblk (l:=(aK e1 a1 c1 a2 c2 a3 c3)) .z rfl).1) ?_
 refine sB h (fun _ k=>hrec hI.lt FS k) (Rc Tryz.func45) fun r3 w4 h hI=> ?_
 exact RF
theorem rr (hF:dL F w0) {n1:Int} (hc:AllCl [] F w0) {r:List UInt8} (h:hU n1=some r):CR F w0 182 #[(Value.int .u64 n1)] (str r) []:=by
 refine EN Tryz.func182 Tryz.ntmps182 hF hc fun hI=> ?_
 rw[hU]at h
 refine T ?_
 refine aj (T ?_)
 refine bh (α:=Nat×Int×(List UInt8)) (fun x=>fun w=>∃ C,Bun d7 F w0 C w [] []∧es (x.1) (x.2.1) (x.2.2)=some r) (fun x _=>x.1) (fun x=>[(0,(Value.int .u64 (x.2.1))),(3,(str (x.2.2)))]) (fu,n1,([]:List UInt8)) BH SB ?_
 clear h hI;rintro⟨fuel1,n2,s1⟩ w1 ⟨c1,hI,h⟩
 dsimp only at hI h ⊢
 rcases fuel1 with _ | fuel1
 ·rw[es]at h;cases h
 rw[es]at h
 refine aj (T ?_)
 refine TC (fun hb h=> ?_) fun hb h=> ?_
 ·refine T ?_
  refine sq (uS rfl et af (by decide)) ?_
  refine sm ?_
  refine sq (uS rfl et af (by decide)) ?_
  refine T ?_
  obtain⟨s2,hx1,h⟩:=ab h
  refine sq (ye rfl u9 af et et hx1) ?_
  refine sm ?_
  obtain⟨s3,hx2,h⟩:=ab h
  refine sq (bm rfl et et hx2) ?_
  refine T ?_
  refine sq (xy rfl et af (by decide)) ?_
  refine sa ?_
  refine aG ?_
  exact kl (fuel1,ei (Int.tdiv n2 10),s3)
 refine bp ?_
 refine fE ?_
 refine aS ?_
 refine T ?_
 obtain⟨s4,hx3,h⟩:=ab h
 refine sq (ye rfl u9 af et et hx3) ?_
 refine sm ?_
 obtain⟨s5,hx4,h⟩:=ab h
 refine sq (bm rfl et et hx4) ?_
 exact RF
theorem kR (hF:dL F w0) {n1:Int} (hc:AllCl [] F w0) {r:List UInt8} (h:d9 n1=some r):CR F w0 117 #[vi n1] (str r) []:=by
 refine EN Tryz.func117 Tryz.ntmps117 hF hc fun hI=> ?_
 rw[d9]at h
 refine T ?_
 refine aj (T ?_)
 refine TC (fun hb h=> ?_) fun hb h=> ?_
 ·refine T ?_
  refine sB h (fun _ k=>nC hI.lt trivial k) (Rc Tryz.func183) fun r1 w1 h hI=> ?_
  refine sB h (fun _ k=>rr hI.lt trivial k) (Rc Tryz.func182) fun r2 w2 h hI=> ?_
  obtain⟨s1,hx5,h⟩:=ab h
  refine sq (bm rfl af et hx5) ?_
  exact RF
 refine T ?_
 refine sB h (fun _ k=>nC hI.lt trivial k) (Rc Tryz.func183) fun r3 w3 h hI=> ?_
 refine sB h (fun _ k=>rr hI.lt trivial k) (Rc Tryz.func182) fun r4 w4 h hI=> ?_
 exact RF
theorem y9 (hF:dL F w0) {how1:Int} (hc:AllCl [] F w0) {r:List UInt8} (h:l8 how1=some r):CR F w0 118 #[vi how1] (str r) []:=by
 refine EN Tryz.func118 Tryz.ntmps118 hF hc fun hI=> ?_
 rw[l8]at h
 refine T ?_
 refine aj (T ?_)
 refine TR fun hb h=> ?_
 refine TR fun hb h=> ?_
 refine TR fun hb h=> ?_
 exact RF
theorem sT (hF:dL F w0) {t1:aM} (hc:AllCl [] F w0) {r:List UInt8} (h:kT t1=some r):CR F w0 64 #[(Value.agg (dC t1))] (str r) []:=by
 refine EN Tryz.func64 Tryz.ntmps64 hF hc fun hI=> ?_
 rw[kT]at h
 refine sr (lX fun b1 c2 w1 hI=> ?_)
 refine T ?_
 refine aj (sr (sq (am (l:=(cH t1)) rfl et qc rfl cO (hI.kblk (l:=(cH t1)) .z rfl).1) ?_))
 refine sB h (fun _ k=>qM hI.lt trivial k) (Rc Tryz.func62) fun r1 w2 h hI=> ?_
 refine TR fun hb h=> ?_
 refine T ?_
 refine aj (T ?_)
 refine TR fun hb h=> ?_
 refine T ?_
 refine aj (T ?_)
 refine TR fun hb h=> ?_
 refine aT (aS (sr ?_))
 obtain⟨over1,hx3,h⟩:=ab h
 refine sq (rS (cb rfl af) (congrArg (fun l=>str l) (ak hx3))) ?_
 refine nk (bJ (α:=(List UInt8)) (fun _=>⟨34,[]⟩) (fun x=>[(1,vp b1 0),(3,(str x))]) (fun x=>fun w=>∃ C,Bun d7 F w0 C w [] [Cl.blk b1 35 (dC t1)]∧iF t1 x=some r) ?_ ?_)
 ·clear h hI;rintro over2 w3 ⟨c3,hI,h⟩
  try dsimp only at hI h ⊢
  rw[iF]at h
  refine aj (aP [] false (.c (0,.q) (.c (1,.q) (.c (5,.q) (.c (6,.q) (.c (10,.q) (.c (11,.q) (.c (15,.q) (.c (2,.s) (.c (3,.q) (.c (4,.q) (.c (7,.s) (.c (8,.q) (.c (9,.q) (.c (12,.s) (.c (13,.q) (.c (14,.q) (.c (16,.q) (.c (17,.q) (.c (18,.q) .n))))))))))))))))))) hI (by kernel_rfl) (by kernel_rfl) ?_)
  intro w4 hI
  refine V ?_
  obtain⟨r2,hx4,h⟩:=ab h
  refine bN rfl gn rfl (ax (vs:=[vi t1.Bits]) rfl yy ⟨et,trivial⟩) (Calls.mono (kR hI.lt trivial hx4) ?_)
  rintro _ w5 ⟨rfl,hx5,hl2⟩
  refine⟨_,rfl,hx5,?_⟩
  replace hI:=(hI.ext hx5)
  obtain⟨s1,hx6,h⟩:=ab h
  refine iy rfl gn rfl (fun w'=>bm rfl af et hx6) ?_
  obtain⟨s2,hx7,h⟩:=ab h
  refine iy rfl gn rfl (fun w'=>bm rfl et af hx7) ?_
  obtain⟨r3,hx8,h⟩:=ab h
  refine bN rfl gn rfl (ax (vs:=[vi t1.Frac]) rfl yy ⟨et,trivial⟩) (Calls.mono (kR hI.lt trivial hx8) ?_)
  rintro _ w6 ⟨rfl,hx9,hl3⟩
  refine⟨_,rfl,hx9,?_⟩
  replace hI:=(hI.ext hx9)
  obtain⟨s3,hx10,h⟩:=ab h
  refine iy rfl gn rfl (fun w'=>bm rfl et et hx10) ?_
  obtain⟨s4,hx11,h⟩:=ab h
  refine iy rfl gn rfl (fun w'=>bm rfl et af hx11) ?_
  obtain⟨r4,hx12,h⟩:=ab h
  refine bN rfl gn rfl (ax (vs:=[vi t1.Round]) rfl I9 ⟨et,trivial⟩) (Calls.mono (y9 hI.lt trivial hx12) ?_)
  rintro _ w7 ⟨rfl,hx13,hl4⟩
  refine⟨_,rfl,hx13,?_⟩
  replace hI:=(hI.ext hx13)
  obtain⟨s5,hx14,h⟩:=ab h
  refine iy rfl gn rfl (fun w'=>bm rfl et et hx14) ?_
  obtain⟨s6,hx15,h⟩:=ab h
  refine iy rfl gn rfl (fun w'=>bm rfl et af hx15) ?_
  obtain⟨s7,hx16,h⟩:=ab h
  refine iy rfl gn rfl (fun w'=>bm rfl et et hx16) ?_
  obtain⟨s8,hx17,h⟩:=ab h
  refine iy rfl gn rfl (fun w'=>bm rfl et af hx17) ?_
  refine V ?_
  exact RF
 refine TC (fun hb h=> ?_) fun hb h=> ?_
 ·refine iv rfl ?_
  obtain⟨over3,hx18,h⟩:=ab h
  refine sq (rS (cb rfl af) (congrArg (fun l=>str l) (ak hx18))) ?_
  refine aG ?_
  exact kj over3
 exact aT (br over1 SB BH rfl)
theorem xj (hF:dL F w0) {t1:aM} {v1:bj} (hc:AllCl [] F w0) {r:Bool} (h:lu t1 v1=some r):CR F w0 167 #[(Value.agg (dC t1)),(Value.agg (pW v1))] (vb r) []:=by
 refine EN Tryz.func167 Tryz.ntmps167 hF hc fun hI=> ?_
 rw[lu]at h
 refine sr (lX fun b1 c2 w1 hI=> ?_)
 refine lX fun b2 c4 w2 hI=> ?_
 refine T ?_
 refine sq (am (l:=(cH t1)) rfl et qc rfl cO (hI.kblk (l:=(cH t1)) (.s .z) rfl).1) ?_
 refine sB h (fun _ k=>qM hI.lt trivial k) (Rc Tryz.func62) fun r1 w3 h hI=> ?_
 refine sm ?_
 refine ar (aV rfl rfl rfl rfl) rfl (fun hc=>(am (l:=(cH t1)) rfl et qc rfl cO (hI.kblk (l:=(cH t1)) (.s .z) rfl).1)) ?_
 refine ar (aV rfl rfl rfl rfl) rfl (fun hc=>(am (l:=(mA v1)) rfl et Cs rfl jI (hI.kblk (l:=(mA v1)) .z rfl).1)) ?_
 obtain⟨r2,hx3,h⟩:=ab h
 replace hx3:=aC hx3
 refine sU (fun hc=>rR hI.lt trivial (hx3 hc)) (Rg Tryz.func215) fun w4 hI=> ?_
 exact RF
theorem zg (hF:dL F w0) {minus1:Bool} {n1 d1:Int} (hc:AllCl [] F w0) {r:bj×Int} (h:nA minus1 n1 d1=some r):CR F w0 239 #[vb minus1,(Value.int .u64 n1),(Value.int .u64 d1)] (Value.tuple #[(Value.agg (pW r.1)),vi r.2]) []:=by
 refine EN Tryz.func239 Tryz.ntmps239 hF hc fun hI=> ?_
 rw[nA]at h
 refine sr (cP (cs:=#[vi 0,vi 0]) hI gn rfl rfl yc rfl ?_)
 intro b1 c1 w1 hI
 refine T ?_
 refine sB h (fun _ k=>AL hI.lt trivial k) (Rc Tryz.func245) fun r1 w2 h hI=> ?_
 refine T ?_
 obtain⟨ho1,h⟩:=eS h
 refine sq (xy rfl et et ho1) ?_
 refine T ?_
 refine sq (xy rfl et et ho1) ?_
 refine T ?_
 refine aj (T ?_)
 refine TC (fun hb h=> ?_) fun hb h=> ?_
 ·refine sr (sq (aH (vs:=[]) (cs:=#[vi 0,vi 0]) rfl trivial (by kernel_rfl)) ?_)
  refine lA fun c2 w3 hI=> ?_
  exact RQ
 refine T ?_
 refine aj (T ?_)
 refine TC (fun hb h=> ?_) fun hb h=> ?_
 ·refine T ?_
  refine sq (aH (vs:=[(0,(vi (au (-(au (ei (Int.tdiv n1 r1))))))),(1,(vi (au (ei (Int.tdiv d1 r1)))))]) (cs:=#[(vi (au (-(au (ei (Int.tdiv n1 r1)))))),(vi (au (ei (Int.tdiv d1 r1))))]) rfl ⟨rfl,et,⟨rfl,et,trivial⟩⟩ (by kernel_rfl)) ?_
  refine lA fun c3 w4 hI=> ?_
  exact RQ
 refine T ?_
 refine sq (aH (vs:=[(0,(vi (au (ei (Int.tdiv n1 r1))))),(1,(vi (au (ei (Int.tdiv d1 r1)))))]) (cs:=#[(vi (au (ei (Int.tdiv n1 r1)))),(vi (au (ei (Int.tdiv d1 r1))))]) rfl ⟨rfl,et,⟨rfl,et,trivial⟩⟩ (by kernel_rfl)) ?_
 refine lA fun c4 w5 hI=> ?_
 exact RQ
theorem AM (hF:dL F w0) {n1 d1:Int} (hc:AllCl [] F w0) {r:bj×Int} (h:oA n1 d1=some r):CR F w0 217 #[vi n1,vi d1] (Value.tuple #[(Value.agg (pW r.1)),vi r.2]) []:=by
 refine EN Tryz.func217 Tryz.ntmps217 hF hc fun hI=> ?_
 rw[oA]at h
 refine sr (cP (cs:=#[vi 0,vi 0]) hI gn rfl rfl yc rfl ?_)
 intro b1 c1 w1 hI
 refine T ?_
 refine aj (T ?_)
 refine TC (fun hb h=> ?_) fun hb h=> ?_
 ·refine sr (sq (aH (vs:=[]) (cs:=#[vi 0,vi 0]) rfl trivial (by kernel_rfl)) ?_)
  refine lA fun c2 w2 hI=> ?_
  exact RQ
 refine T ?_
 refine sq (Cf rfl u4 et et) ?_
 refine sm ?_
 refine sB h (fun _ k=>nC hI.lt trivial k) (Rc Tryz.func183) fun r1 w3 h hI=> ?_
 refine sm ?_
 refine sB h (fun _ k=>nC hI.lt trivial k) (Rc Tryz.func183) fun r2 w4 h hI=> ?_
 refine sB h (fun _ k=>zg hI.lt trivial k) (Rc Tryz.func239) fun r3 w5 h hI=> ?_
 refine T ?_
 refine lA fun c3 w6 hI=> ?_
 exact RQ
theorem xi (hF:dL F w0) {t1:aM} {v1:bj} (hc:AllCl [] F w0) {r:bj} (h:je t1 v1=some r):CR F w0 169 #[(Value.agg (dC t1)),(Value.agg (pW v1))] (Value.agg (pW r)) []:=by
 refine EN Tryz.func169 Tryz.ntmps169 hF hc fun hI=> ?_
 rw[je]at h
 refine sr (lX fun b1 c2 w1 hI=> ?_)
 refine C6 (v:=(Value.agg (pW v1))) (cs:=(pW v1)) hI gn rfl rfl et rfl ?_
 intro b2 c3 w2 hI
 refine lN fun b3 c4 w3 hI=> ?_
 refine nk (aj (T ?_))
 refine TC (fun hb h=> ?_) fun hb h=> ?_
 ·refine aP [8] false (.c (0,.q) (.c (1,.q) (.c (2,.q) (.c (3,.s) (.c (4,.s) (.c (5,.q) (.c (6,.q) (.c (7,.q) (.c (8,.s) .n))))))))) hI (by kernel_rfl) (by kernel_rfl) ?_
  intro w4 hI
  refine V ?_
  refine d5 rfl gn rfl (fun w' hw'=>(am (l:=(cH t1)) rfl et qc rfl cO ((hI.kblk (l:=(cH t1)) .z rfl).at_ (SX.any rfl hw')))) (by kernel_rfl) ?_
  obtain⟨r1,hx1,h⟩:=ab h
  refine bN rfl gn rfl (ax (vs:=[(Value.agg (dC t1))]) rfl IK ⟨et,trivial⟩) (Calls.mono (zf hI.lt trivial hx1) ?_)
  rintro _ w5 ⟨rfl,hx2,hl1⟩
  refine⟨_,rfl,hx2,?_⟩
  replace hI:=(hI.ext hx2)
  obtain⟨r2,hx3,h⟩:=ab h
  refine bN rfl gn rfl (ax (vs:=[vi v1.N,vi r1]) rfl IL ⟨et,⟨et,trivial⟩⟩) (Calls.mono (AM hI.lt trivial hx3) ?_)
  rintro _ w6 ⟨rfl,hx4,hl2⟩
  refine⟨_,rfl,hx4,?_⟩
  replace hI:=(hI.ext hx4)
  refine V ?_
  refine gt (F:=F) (C:=c4) rfl rfl ?_
  refine vA fun c5 w7 hI=> ?_
  refine V ?_
  refine T ?_
  refine lA fun c6 w8 hI=> ?_
  exact RQ
 refine T ?_
 refine lA fun c7 w9 hI=> ?_
 exact RQ
theorem xk (hF:dL F w0) {v1:bj} (hc:AllCl [] F w0) {r:Bool} (h:lv v1=some r):CR F w0 216 #[(Value.agg (pW v1))] (vb r) []:=by
 refine EN Tryz.func216 Tryz.ntmps216 hF hc fun hI=> ?_
 rw[lv]at h
 refine sr (lX fun b1 c2 w1 hI=> ?_)
 refine T ?_
 refine sq (aH (vs:=[(0,vi 1)]) (cs:=#[vi 1,vi 0,vi 0,vi 0,vi 0]) rfl ⟨rfl,af,trivial⟩ (by kernel_rfl)) ?_
 refine sq (am (l:=(mA v1)) rfl et Cs rfl jI (hI.kblk (l:=(mA v1)) .z rfl).1) ?_
 refine sB h (fun _ k=>rR hI.lt trivial k) (Rc Tryz.func215) fun r1 w2 h hI=> ?_
 exact RF
theorem wp (hF:dL F w0) {a1:bj} (hc:AllCl [] F w0) {r:List UInt8} (h:il a1=some r):CR F w0 168 #[(Value.agg (pW a1))] (str r) []:=by
 refine EN Tryz.func168 Tryz.ntmps168 hF hc fun hI=> ?_
 rw[il]at h
 refine sr (lX fun b1 c2 w1 hI=> ?_)
 refine T ?_
 refine aj (sr (sq (am (l:=(mA a1)) rfl et Cs rfl jI (hI.kblk (l:=(mA a1)) .z rfl).1) ?_))
 refine sB h (fun _ k=>xk hI.lt trivial k) (Rc Tryz.func216) fun r1 w2 h hI=> ?_
 refine TR fun hb h=> ?_
 refine T ?_
 refine aj (T ?_)
 refine TC (fun hb h=> ?_) fun hb h=> ?_
 ·refine T ?_
  refine sB h (fun _ k=>kR hI.lt trivial k) (Rc Tryz.func117) fun r2 w3 h hI=> ?_
  exact RF
 refine T ?_
 refine aj (aP [] false (.c (0,.q) (.c (1,.q) (.c (4,.q) (.c (5,.q) (.c (2,.s) (.c (3,.q) (.c (6,.s) (.c (7,.q) (.c (8,.q) .n))))))))) hI (by kernel_rfl) (by kernel_rfl) ?_)
 intro w4 hI
 refine V ?_
 obtain⟨r3,hx5,h⟩:=ab h
 refine bN rfl gn rfl (ax (vs:=[vi a1.N]) rfl yy ⟨et,trivial⟩) (Calls.mono (kR hI.lt trivial hx5) ?_)
 rintro _ w5 ⟨rfl,hx6,hl3⟩
 refine⟨_,rfl,hx6,?_⟩
 replace hI:=(hI.ext hx6)
 obtain⟨s1,hx7,h⟩:=ab h
 refine iy rfl gn rfl (fun w'=>bm rfl et af hx7) ?_
 obtain⟨r4,hx8,h⟩:=ab h
 refine bN rfl gn rfl (ax (vs:=[vi a1.D]) rfl yy ⟨et,trivial⟩) (Calls.mono (kR hI.lt trivial hx8) ?_)
 rintro _ w6 ⟨rfl,hx9,hl4⟩
 refine⟨_,rfl,hx9,?_⟩
 replace hI:=(hI.ext hx9)
 obtain⟨s2,hx10,h⟩:=ab h
 refine iy rfl gn rfl (fun w'=>bm rfl et et hx10) ?_
 refine V ?_
 exact RF
theorem wo (hF:dL F w0) {t1:aM} {v1:bj} (hc:AllCl [] F w0) {r:List UInt8} (h:kE t1 v1=some r):CR F w0 91 #[(Value.agg (dC t1)),(Value.agg (pW v1))] (str r) []:=by
 refine EN Tryz.func91 Tryz.ntmps91 hF hc fun hI=> ?_
 rw[kE]at h
 refine sr (lX fun b1 c2 w1 hI=> ?_)
 refine lX fun b2 c4 w2 hI=> ?_
 refine T ?_
 refine aj (sr (sq (am (l:=(cH t1)) rfl et qc rfl cO (hI.kblk (l:=(cH t1)) (.s .z) rfl).1) ?_))
 refine sq (am (l:=(mA v1)) rfl et Cs rfl jI (hI.kblk (l:=(mA v1)) .z rfl).1) ?_
 refine sB h (fun _ k=>xj hI.lt trivial k) (Rc Tryz.func167) fun r1 w3 h hI=> ?_
 refine TR fun hb h=> ?_
 refine T ?_
 refine sq (am (l:=(cH t1)) rfl et qc rfl cO (hI.kblk (l:=(cH t1)) (.s .z) rfl).1) ?_
 refine sq (am (l:=(mA v1)) rfl et Cs rfl jI (hI.kblk (l:=(mA v1)) .z rfl).1) ?_
 refine sB h (fun _ k=>xi hI.lt trivial k) (Rc Tryz.func169) fun r2 w4 h hI=> ?_
 refine sB h (fun _ k=>wp hI.lt trivial k) (Rc Tryz.func168) fun r3 w5 h hI=> ?_
 exact RF
theorem pQ (hF:dL F w0) {n1:Int} (hc:AllCl [] F w0) {r:Int} (h:jL n1=some r):CR F w0 171 #[vi n1] (Value.int .u64 r) []:=by
 refine EN Tryz.func171 Tryz.ntmps171 hF hc fun hI=> ?_
 rw[jL]at h
 refine T ?_
 refine aj (T ?_)
 refine TR fun hb h=> ?_
 exact RF
theorem qF (hF:dL F w0) {n1:Int} (hc:AllCl [] F w0) {r:List UInt8} (h:jr n1=some r):CR F w0 172 #[(Value.int .u64 n1)] (str r) []:=by
 refine EN Tryz.func172 Tryz.ntmps172 hF hc fun hI=> ?_
 rw[jr]at h
 refine T ?_
 refine bh (α:=Nat×Int×(List UInt8)) (fun x=>fun w=>∃ C,Bun d7 F w0 C w [] []∧fv (x.1) (x.2.1) (x.2.2)=some r) (fun x _=>x.1) (fun x=>[(0,(Value.int .u64 (x.2.1))),(3,(str (x.2.2)))]) (fu,n1,([]:List UInt8)) BH SB ?_
 clear h hI;rintro⟨fuel1,n2,s1⟩ w1 ⟨c1,hI,h⟩
 dsimp only at hI h ⊢
 rcases fuel1 with _ | fuel1
 ·rw[fv]at h;cases h
 rw[fv]at h
 refine T ?_
 refine sq (uS rfl et af (by decide)) ?_
 refine T ?_
 refine ll hI (hH .u8) ([H5 (ei (48+(Int.tmod n2 10)))]:List Int) Jo Rr fun b1 c2 w2 hI=> ?_
 refine sq (Bd rfl et u219 u9 u5 (hI.rd .z)) ?_
 refine sm ?_
 obtain⟨s2,hx1,h⟩:=ab h
 refine sq (bm rfl et et hx1) ?_
 refine T ?_
 refine sq (xy rfl et af (by decide)) ?_
 refine TR fun hb h=> ?_
 exact aT (kP (fuel1,ei (Int.tdiv n2 10),s2) SB BH (Nat.lt_succ_self _))
theorem sW (hF:dL F w0) {s1 t1:List UInt8} {negative1:Bool} (hc:AllCl [] F w0) {r:List UInt8} (h:kU s1 negative1 t1=some r):CR F w0 173 #[(str s1),vb negative1,(str t1)] (str r) []:=by
 refine EN Tryz.func173 Tryz.ntmps173 hF hc fun hI=> ?_
 rw[kU]at h
 refine T ?_
 refine aj (T ?_)
 refine TC (fun hb h=> ?_) fun hb h=> ?_
 ·refine T ?_
  obtain⟨s2,hx1,h⟩:=ab h
  refine sq (bm rfl af et hx1) ?_
  exact RF
 refine T ?_
 refine aj (T ?_)
 refine TR fun hb h=> ?_
 refine T ?_
 refine aj (T ?_)
 refine TC (fun hb h=> ?_) fun hb h=> ?_
 ·refine T ?_
  obtain⟨s3,hx2,h⟩:=ab h
  refine sq (bm rfl et af hx2) ?_
  refine sm ?_
  obtain⟨s4,hx3,h⟩:=ab h
  refine sq (bm rfl et et hx3) ?_
  exact RF
 refine T ?_
 obtain⟨s5,hx4,h⟩:=ab h
 refine sq (bm rfl et af hx4) ?_
 refine sm ?_
 obtain⟨s6,hx5,h⟩:=ab h
 refine sq (bm rfl et et hx5) ?_
 exact RF
theorem oa (hF:dL F w0) {l1:ay} (hc:AllCl [Cl.sl ag a1 c1 l1.L] F w0) {r:List UInt8} (h:ik l1=some r):CR F w0 92 #[(Value.agg (dM l1 a1 c1))] (str r) []:=by
 refine EN Tryz.func92 Tryz.ntmps92 hF hc fun hI=> ?_
 rw[ik]at h
 refine sr (lX fun b1 c3 w1 hI=> ?_)
 refine T ?_
 refine aj (sr (sq (am (l:=(gY l1 a1 c1)) rfl et oH rfl bk (hI.kblk (l:=(gY l1 a1 c1)) .z rfl).1) ?_))
 refine sB h (fun _ k=>tF hI.lt FS k) (Rc Tryz.func170) fun r1 w2 h hI=> ?_
 refine TR fun hb h=> ?_
 refine T ?_
 refine bJ (α:=(List UInt8)) (fun _=>⟨62,[]⟩) (fun x=>[(1,vp b1 0),(3,(str x))]) (fun x=>fun w=>∃ C,Bun d7 F w0 C w [] [Cl.blk b1 27 (dM l1 a1 c1),Cl.sl ag a1 c1 l1.L]∧kg l1 x=some r) ?_ ?_
 ·clear h hI;rintro s1 w3 ⟨c4,hI,h⟩
  try dsimp only at hI h ⊢
  rw[kg]at h
  refine aj (T ?_)
  refine TC (fun hb h=> ?_) fun hb h=> ?_
  ·refine aP [] false (.c (0,.q) (.c (1,.q) (.c (2,.q) (.c (3,.q) (.c (4,.q) (.c (5,.q) (.c (6,.s) (.c (7,.s) (.c (8,.s) (.c (9,.q) .n)))))))))) hI (by kernel_rfl) (by kernel_rfl) ?_
   intro w4 hI
   refine V ?_
   obtain⟨r2,hx3,h⟩:=ab h
   refine bN rfl gn rfl (ax (vs:=[vi l1.K]) rfl I4 ⟨et,trivial⟩) (Calls.mono (pQ hI.lt trivial hx3) ?_)
   rintro _ w5 ⟨rfl,hx4,hl2⟩
   refine⟨_,rfl,hx4,?_⟩
   replace hI:=(hI.ext hx4)
   obtain⟨r3,hx5,h⟩:=ab h
   refine bN rfl gn rfl (ax (vs:=[(Value.int .u64 r2)]) rfl I3 ⟨et,trivial⟩) (Calls.mono (qF hI.lt trivial hx5) ?_)
   rintro _ w6 ⟨rfl,hx6,hl3⟩
   refine⟨_,rfl,hx6,?_⟩
   replace hI:=(hI.ext hx6)
   obtain⟨r4,hx7,h⟩:=ab h
   refine bN rfl gn rfl (ax (vs:=[(str s1),(vb (decide (l1.K<0))),(str r3)]) rfl I2 ⟨et,⟨et,⟨et,trivial⟩⟩⟩) (Calls.mono (sW hI.lt trivial hx7) ?_)
   rintro _ w7 ⟨rfl,hx8,hl4⟩
   refine⟨_,rfl,hx8,?_⟩
   replace hI:=(hI.ext hx8)
   refine V ?_
   exact RF
  exact RF
 refine T ?_
 refine bh (α:=Nat×(List UInt8)×Int) (fun x=>fun w=>∃ C,Bun d7 F w0 C w [] [Cl.blk b1 27 (dM l1 a1 c1),Cl.sl ag a1 c1 l1.L]∧bY l1 (x.1) (x.2.1) (x.2.2)=some r) (fun x _=>x.1) (fun x=>[(1,vp b1 0),(3,(str (x.2.1))),(4,vi (x.2.2))]) (fu,([]:List UInt8),0) BH SB ?_
 clear h hI;rintro⟨fuel1,s2,i1⟩ w8 ⟨c5,hI,h⟩
 dsimp only at hI h ⊢
 rcases fuel1 with _ | fuel1
 ·rw[bY]at h;cases h
 rw[bY]at h
 refine aj (T ?_)
 refine TC (fun hb h=> ?_) fun hb h=> ?_
 ·refine T ?_
  refine aj (T ?_)
  obtain⟨e1,hx9,h⟩:=ab h
  obtain⟨ad1,cs1,hA1,hr1,hq1⟩:=hI.clat (.s .z) hx9
  obtain rfl:cs1=(ki e1):=hr1
  refine sI ?_
  refine T ?_
  obtain⟨e2,hx10,h⟩:=ab h
  obtain⟨ad2,cs2,hA2,hr2,hq2⟩:=hI.clat (.s .z) hx10
  obtain rfl:cs2=(ki e2):=hr2
  refine sI ?_
  refine T ?_
  refine bJ (α:=(List UInt8)) (fun _=>⟨62,[]⟩) (fun x=>[(1,vp b1 0),(3,(str s2)),(4,vi i1),(5,vi e1.By),(6,(str x))]) (fun x=>fun w=>∃ C,Bun d7 F w0 C w [] [Cl.blk b1 27 (dM l1 a1 c1),Cl.sl ag a1 c1 l1.L]∧gw s2 e1 (bY l1 fuel1) i1 x=some r) ?_ ?_
  ·clear h hI;rintro t1 w9 ⟨c6,hI,h⟩
   try dsimp only at hI h ⊢
   rw[gw]at h
   refine T ?_
   refine sB h (fun _ k=>sW hI.lt trivial k) (Rc Tryz.func173) fun r5 w10 h hI=> ?_
   refine T ?_
   refine aG ?_
   exact kl (fuel1,r5,au (i1+1))
  refine T ?_
  refine sB h (fun _ k=>pQ hI.lt trivial k) (Rc Tryz.func171) fun r6 w11 h hI=> ?_
  refine TC (fun hb h=> ?_) fun hb h=> ?_
  ·refine T ?_
   refine sB h (fun _ k=>pQ hI.lt trivial k) (Rc Tryz.func171) fun r7 w12 h hI=> ?_
   refine sB h (fun _ k=>qF hI.lt trivial k) (Rc Tryz.func172) fun r8 w13 h hI=> ?_
   obtain⟨s3,hx19,h⟩:=ab h
   refine sq (bm rfl et af hx19) ?_
   refine sm ?_
   obtain⟨s4,hx20,h⟩:=ab h
   refine sq (bm rfl et et hx20) ?_
   refine sa ?_
   refine aG ?_
   exact kj s4
  exact aT (br e2.Name SB BH rfl)
 refine bp ?_
 refine fE ?_
 exact kj s2
theorem wX (hF:dL F w0) {l1:List ay} (hc:AllCl [Cl.sl ga a1 c1 l1] F w0) {r:Bool} (h:mR l1=some r):CR F w0 63 #[vs a1 l1.length c1] (vb r) []:=by
 refine EN Tryz.func63 Tryz.ntmps63 hF hc fun hI=> ?_
 rw[mR]at h
 refine T ?_
 refine aj (T ?_)
 refine bh (α:=Nat×Int) (fun x=>fun w=>∃ C,Bun d7 F w0 C w [] [Cl.sl ga a1 c1 l1]∧fa l1 (x.1) (x.2)=some r) (fun x _=>x.1) (fun x=>[(0,vs a1 l1.length c1),(3,vi (x.2))]) (fu,0) BH SB ?_
 clear h hI;rintro⟨fuel1,i1⟩ w1 ⟨c2,hI,h⟩
 dsimp only at hI h ⊢
 rcases fuel1 with _ | fuel1
 ·rw[fa]at h;cases h
 rw[fa]at h
 refine aj (T ?_)
 refine TC (fun hb h=> ?_) fun hb h=> ?_
 ·refine T ?_
  refine aj (T ?_)
  obtain⟨e1,hx1,h⟩:=ab h
  obtain⟨ad1,cs1,hA1,hr1,hq1⟩:=hI.clat .z hx1
  obtain⟨a2,c3,rfl,hf1⟩:=hr1
  have hI:=hI.ads hf1
  refine sI ?_
  refine T ?_
  refine sB h (fun _ k=>iP hI.lt FS k) (Rc Tryz.func114) fun r1 w2 h hI=> ?_
  refine TR fun hb h=> ?_
  refine T ?_
  refine aG ?_
  exact kl (fuel1,au (i1+1))
 refine bp ?_
 refine fE ?_
 refine aS ?_
 exact RF
theorem wY (hF:dL F w0) {l1:List ay} (hc:AllCl [Cl.sl ga a1 c1 l1] F w0) {r:List UInt8} (h:lj l1=some r):CR F w0 65 #[vs a1 l1.length c1] (str r) []:=by
 refine EN Tryz.func65 Tryz.ntmps65 hF hc fun hI=> ?_
 rw[lj]at h
 refine T ?_
 refine aj (T ?_)
 refine bh (α:=Nat×(List UInt8)×Int) (fun x=>fun w=>∃ C,Bun d7 F w0 C w [] [Cl.sl ga a1 c1 l1]∧dD l1 (x.1) (x.2.1) (x.2.2)=some r) (fun x _=>x.1) (fun x=>[(0,vs a1 l1.length c1),(3,(str (x.2.1))),(4,vi (x.2.2))]) (fu,([]:List UInt8),0) BH SB ?_
 clear h hI;rintro⟨fuel1,s1,i1⟩ w1 ⟨c2,hI,h⟩
 dsimp only at hI h ⊢
 rcases fuel1 with _ | fuel1
 ·rw[dD]at h;cases h
 rw[dD]at h
 refine aj (T ?_)
 refine TC (fun hb h=> ?_) fun hb h=> ?_
 ·refine T ?_
  refine aj (T ?_)
  refine bJ (α:=(List UInt8)) (fun _=>⟨23,[]⟩) (fun x=>[(0,vs a1 l1.length c1),(3,(str x)),(4,vi i1)]) (fun x=>fun w=>∃ C,Bun d7 F w0 C w [] [Cl.sl ga a1 c1 l1]∧ie l1 i1 (dD l1 fuel1) x=some r) ?_ ?_
  ·clear h hI;rintro s2 w2 ⟨c3,hI,h⟩
   try dsimp only at hI h ⊢
   rw[ie]at h
   refine T ?_
   obtain⟨e1,hx1,h⟩:=ab h
   obtain⟨ad1,cs1,hA1,hr1,hq1⟩:=hI.clat .z hx1
   obtain⟨a2,c4,rfl,hf1⟩:=hr1
   have hI:=hI.ads hf1
   refine sI ?_
   refine T ?_
   refine sB h (fun _ k=>oa hI.lt FS k) (Rc Tryz.func92) fun r1 w3 h hI=> ?_
   obtain⟨s3,hx4,h⟩:=ab h
   refine sq (bm rfl et et hx4) ?_
   refine T ?_
   refine aG ?_
   exact kl (fuel1,s3,au (i1+1))
  refine TC (fun hb h=> ?_) fun hb h=> ?_
  ·refine T ?_
   obtain⟨s4,hx5,h⟩:=ab h
   refine sq (bm rfl et af hx5) ?_
   refine sa ?_
   refine aG ?_
   exact kj s4
  exact aT (br s1 SB BH rfl)
 refine bp ?_
 refine fE ?_
 refine aS ?_
 exact RF
theorem xa (hF:dL F w0) {x1:av} (hc:AllCl [Cl.sl ag a1 c1 x1.Lin.L,Cl.sl ga a2 c2 x1.At] F w0) {r:List UInt8} (h:lm x1=some r):CR F w0 93 #[(Value.agg (jE x1 a1 c1 a2 c2))] (str r) []:=by
 refine EN Tryz.func93 Tryz.ntmps93 hF hc fun hI=> ?_
 rw[lm]at h
 refine sr (lX fun b1 c4 w1 hI=> ?_)
 refine tS ?_
 refine nk (aj (sr (sq (ao rfl et mY rfl bk rfl) ?_)))
 refine sq (am (l:=(gY x1.Lin a1 c1)) rfl et oH rfl bk (hI.kblk (l:=(gY x1.Lin a1 c1)) .z rfl).1) ?_
 refine sB h (fun _ k=>iP hI.lt FS k) (Rc Tryz.func114) fun r1 w2 h hI=> ?_
 refine sq (rV rfl et) ?_
 refine sm ?_
 refine ar (bo rfl rfl rfl rfl) rfl (fun hc=>ao rfl et mY rfl ow rfl) ?_
 refine ar (bo rfl rfl rfl rfl) rfl (fun hc=>(aO (v:=(vs a2 x1.At.length c2)) rfl (aF et hc) A7 rfl (hI.kblk (l:=[vs a2 x1.At.length c2]) .z rfl).1)) ?_
 obtain⟨r2,hx3,h⟩:=ab h
 replace hx3:=aC hx3
 refine sU (fun hc=>wX hI.lt FS (hx3 hc)) (Rg Tryz.func63) fun w3 hI=> ?_
 refine ar (bo rfl rfl rfl rfl) rfl (fun hc=>rV rfl (aF et hc)) ?_
 refine sq (un rfl et et) ?_
 refine TC (fun hb h=> ?_) fun hb h=> ?_
 ·refine sr (tS ?_)
  refine nk (aJ ?_)
  obtain rfl:=ak h
  exact fr (vs:=[(str ([]:List UInt8))]) Tryz.results93 ⟨aI rfl rfl,trivial⟩ (fq hI trivial)
 refine aT (aS (aj (sr (sq (ao rfl et mY rfl tr rfl) ?_))))
 refine sq (aO (v:=(str x1.From)) rfl et u9 rfl (hI.kblk (l:=[(str x1.From)]) .z rfl).1) ?_
 refine sq (Ci rfl et af) ?_
 refine TC (fun hb h=> ?_) fun hb h=> ?_
 ·refine aj (sr (sq (ao rfl et mY rfl ow rfl) ?_))
  refine sq (aO (v:=(vs a2 x1.At.length c2)) rfl et A7 rfl (hI.kblk (l:=[vs a2 x1.At.length c2]) .z rfl).1) ?_
  refine sq (jc rfl A7 et) ?_
  refine sq (qh rfl et af) ?_
  refine TC (fun hb h=> ?_) fun hb h=> ?_
  ·refine sr (tS ?_)
   refine nk (aJ ?_)
   obtain rfl:=ak h
   exact fr (vs:=[(str ([]:List UInt8))]) Tryz.results93 ⟨aI rfl rfl,trivial⟩ (fq hI trivial)
  refine aT (aS (sr (sq (ao rfl et mY rfl bk rfl) ?_)))
  refine sq (am (l:=(gY x1.Lin a1 c1)) rfl et oH rfl bk (hI.kblk (l:=(gY x1.Lin a1 c1)) .z rfl).1) ?_
  refine sB h (fun _ k=>oa hI.lt FS k) (Rc Tryz.func92) fun r3 w4 h hI=> ?_
  refine sa ?_
  refine nk (aJ ?_)
  obtain rfl:=ak h
  exact fr (vs:=[(str r3)]) Tryz.results93 ⟨aI rfl rfl,trivial⟩ (fq hI trivial)
 refine aT (aS (aj (sr (sq (ao rfl et mY rfl tr rfl) ?_))))
 refine sq (aO (v:=(str x1.From)) rfl et u9 rfl (hI.kblk (l:=[(str x1.From)]) .z rfl).1) ?_
 refine sB h (fun _ k=>oF hI.lt trivial k) (Rc Tryz.func61) fun r4 w5 h hI=> ?_
 refine sq (rV rfl et) ?_
 refine sm ?_
 refine ar (bo rfl rfl rfl rfl) rfl (fun hc=>ao rfl et mY rfl bk rfl) ?_
 refine ar (bo rfl rfl rfl rfl) rfl (fun hc=>ao rfl (aF et hc) oH rfl Bk rfl) ?_
 refine ar (bo rfl rfl rfl rfl) rfl (fun hc=>(aO (v:=(vi x1.Lin.K)) rfl (aF et hc) u2 rfl (hI.kblk (l:=[vi x1.Lin.K]) .z rfl).1)) ?_
 refine ar (bo rfl rfl rfl rfl) rfl (fun hc=>nJ rfl (aF et hc) af) ?_
 refine sq (un rfl et et) ?_
 refine sm ?_
 refine ar (bo rfl rfl rfl rfl) rfl (fun hc=>ao rfl et mY rfl bk rfl) ?_
 refine ar (bo rfl rfl rfl rfl) rfl (fun hc=>ao rfl (aF et hc) oH rfl qT rfl) ?_
 refine ar (bo rfl rfl rfl rfl) rfl (fun hc=>(aO (v:=(vs a1 x1.Lin.L.length c1)) rfl (aF et hc) wJ rfl (hI.kblk (l:=[vs a1 x1.Lin.L.length c1]) .z rfl).1)) ?_
 refine ar (bo rfl rfl rfl rfl) rfl (fun hc=>jc rfl wJ (aF et hc)) ?_
 refine ar (bo rfl rfl rfl rfl) rfl (fun hc=>qh rfl (aF et hc) af) ?_
 refine sq (un rfl et et) ?_
 refine aG ?_
 refine mN (e:=[(1,vp b1 0),(39,(vb (((!r4)||(!decide (x1.Lin.K=0)))||(decide (0<(x1.Lin.L.length:Int))))))]) SB ?_
 refine TC (fun hb h=> ?_) fun hb h=> ?_
 ·refine sr (tS ?_)
  refine nk (aJ ?_)
  obtain rfl:=ak h
  exact fr (vs:=[(str ([]:List UInt8))]) Tryz.results93 ⟨aI rfl rfl,trivial⟩ (fq hI trivial)
 refine aT (aS (aj (aP [] false (.c (0,.q) (.c (1,.q) (.c (2,.q) (.c (3,.q) (.c (4,.q) (.c (5,.s) (.c (6,.q) (.c (7,.q) (.c (8,.q) .n))))))))) hI (by kernel_rfl) (by kernel_rfl) ?_)))
 intro w6 hI
 refine iy rfl gn rfl (fun w'=>ao rfl et mY rfl tr rfl) ?_
 refine d5 rfl gn rfl (fun w' hw'=>(aO (v:=(str x1.From)) rfl et u9 rfl ((hI.kblk (l:=[(str x1.From)]) .z rfl).at_ (SX.any rfl hw')))) (by kernel_rfl) ?_
 obtain⟨s1,hx9,h⟩:=ab h
 refine iy rfl gn rfl (fun w'=>bm rfl et af hx9) ?_
 refine iy rfl gn rfl (fun w'=>ao rfl et mY rfl ow rfl) ?_
 refine d5 rfl gn rfl (fun w' hw'=>(aO (v:=(vs a2 x1.At.length c2)) rfl et A7 rfl ((hI.kblk (l:=[vs a2 x1.At.length c2]) .z rfl).at_ (SX.any rfl hw')))) (by kernel_rfl) ?_
 obtain⟨r5,hx10,h⟩:=ab h
 refine bN rfl gn rfl (ax (vs:=[vs a2 x1.At.length c2]) rfl Kq ⟨et,trivial⟩) (Calls.mono (wY hI.lt FS hx10) ?_)
 rintro _ w7 ⟨rfl,hx11,hl5⟩
 refine⟨_,rfl,hx11,?_⟩
 replace hI:=(hI.ext hx11)
 obtain⟨s2,hx12,h⟩:=ab h
 refine iy rfl gn rfl (fun w'=>bm rfl et et hx12) ?_
 obtain⟨s3,hx13,h⟩:=ab h
 refine iy rfl gn rfl (fun w'=>bm rfl et af hx13) ?_
 refine iy rfl gn rfl (fun w'=>cb rfl et) ?_
 refine nu ?_
 refine aS (aJ ?_)
 obtain rfl:=ak h
 exact fr (vs:=[(str s3)]) Tryz.results93 ⟨aI rfl rfl,trivial⟩ (fq hI trivial)
theorem we {rec_:(ac→Option (List UInt8))} (hrec:Hn rec_) (hF:dL F w0) {e1:ac} (hc:AllCl [Cl.sl ag a1 c1 e1.Lin.L,Cl.sl ai a2 c2 e1.Idx,Cl.sl al a3 c3 e1.Args] F w0) {r:List UInt8} (h:kx rec_ e1=some r):CR F w0 45 #[(Value.agg (an e1 a1 c1 a2 c2 a3 c3))] (str r) []:=by
 refine EN Tryz.func45 Tryz.ntmps45 hF hc fun hI=> ?_
 rw[kx]at h
 refine sr (lX fun b1 c5 w1 hI=> ?_)
 refine T ?_
 refine aj (T ?_)
 refine sB h (fun _ k=>y8 hI.lt trivial k) (Rc Tryz.func88) fun r1 w2 h hI=> ?_
 refine TC (fun hb h=> ?_) fun hb h=> ?_
 ·refine aj (aP [] false (.c (0,.q) (.c (1,.q) (.c (2,.q) (.c (3,.q) (.c (4,.q) (.c (5,.q) (.c (8,.q) (.c (10,.q) (.c (11,.q) (.c (12,.q) (.c (13,.q) (.c (14,.q) (.c (15,.q) (.c (6,.s) (.c (7,.s) (.c (9,.q) (.c (16,.s) (.c (17,.q) (.c (18,.s) (.c (19,.q) (.c (20,.q) .n))))))))))))))))))))) hI (by kernel_rfl) (by kernel_rfl) ?_)
  intro w3 hI
  refine V ?_
  obtain⟨e2,hx3,h⟩:=ab h
  obtain⟨ad1,cs1,hA1,hr1,hq1⟩:=hI.clat (.s (.s (.s .z))) hx3
  obtain⟨a4,c6,a5,c7,a6,c8,rfl,hf1,hf2,hf3⟩:=bP hr1
  have hI:=hI.ads hf1
  have hI:=hI.ads hf2
  have hI:=hI.ads hf3
  refine vI ?_
  refine d5 rfl gn rfl (fun w' hw'=>(am (l:=(aK e2 a4 c6 a5 c7 a6 c8)) rfl et gP rfl aB (hq1.at_ (SX.any rfl hw')))) (by kernel_rfl) ?_
  refine V ?_
  obtain⟨e3,hx4,h⟩:=ab h
  obtain⟨ad2,cs2,hA2,hr2,hq2⟩:=hI.clat (.s (.s (.s (.s (.s (.s .z)))))) hx4
  obtain⟨a7,c9,a8,c10,a9,c11,rfl,hf4,hf5,hf6⟩:=bP hr2
  have hI:=hI.ads hf4
  have hI:=hI.ads hf5
  have hI:=hI.ads hf6
  refine vI ?_
  refine d5 rfl gn rfl (fun w' hw'=>(am (l:=(aK e3 a7 c9 a8 c10 a9 c11)) rfl et gP rfl aB (hq2.at_ (SX.any rfl hw')))) (by kernel_rfl) ?_
  refine V ?_
  obtain⟨r2,hx5,h⟩:=ab h
  refine bN rfl gn rfl (ax (vs:=[vi e1.Op]) rfl HA ⟨et,trivial⟩) (Calls.mono (oP hI.lt trivial hx5) ?_)
  rintro _ w4 ⟨rfl,hx6,hl2⟩
  refine⟨_,rfl,hx6,?_⟩
  replace hI:=(hI.ext hx6)
  obtain⟨r3,hx7,h⟩:=ab h
  refine bN rfl gn rfl (ax (vs:=[(Value.agg (an e2 a4 c6 a5 c7 a6 c8)),vi r2]) rfl HB ⟨et,⟨et,trivial⟩⟩) (Calls.mono (lI hrec hI.lt FS hx7) ?_)
  rintro _ w5 ⟨rfl,hx8,hl3⟩
  refine⟨_,rfl,hx8,?_⟩
  replace hI:=(hI.ext hx8)
  obtain⟨s1,hx9,h⟩:=ab h
  refine iy rfl gn rfl (fun w'=>bm rfl et et hx9) ?_
  obtain⟨r4,hx10,h⟩:=ab h
  refine bN rfl gn rfl (ax (vs:=[vi e1.Op]) rfl HA ⟨et,trivial⟩) (Calls.mono (oP hI.lt trivial hx10) ?_)
  rintro _ w6 ⟨rfl,hx11,hl4⟩
  refine⟨_,rfl,hx11,?_⟩
  replace hI:=(hI.ext hx11)
  refine V ?_
  obtain⟨r5,hx12,h⟩:=ab h
  refine bN rfl gn rfl (ax (vs:=[(Value.agg (an e3 a7 c9 a8 c10 a9 c11)),(vi (au (r4+1)))]) rfl HB ⟨et,⟨et,trivial⟩⟩) (Calls.mono (lI hrec hI.lt FS hx12) ?_)
  rintro _ w7 ⟨rfl,hx13,hl5⟩
  refine⟨_,rfl,hx13,?_⟩
  replace hI:=(hI.ext hx13)
  obtain⟨s2,hx14,h⟩:=ab h
  refine iy rfl gn rfl (fun w'=>bm rfl et et hx14) ?_
  refine V ?_
  exact RF
 refine T ?_
 refine bJ (α:=Unit) (fun _=>⟨162,[]⟩) (fun _=>[(1,vp b1 0)]) (fun _=>fun w=>∃ C,Bun d7 F w0 C w [] [Cl.blk b1 39 (an e1 a1 c1 a2 c2 a3 c3),Cl.sl ag a1 c1 e1.Lin.L,Cl.sl ai a2 c2 e1.Idx,Cl.sl al a3 c3 e1.Args]∧lF e1 rec_=some r) ?_ ?_
 ·clear h hI;rintro _ w8 ⟨c12,hI,h⟩
  try dsimp only at hI h ⊢
  rw[lF]at h
  refine aj (aP [] false (.c (0,.q) (.c (1,.q) (.c (5,.q) (.c (6,.q) (.c (7,.q) (.c (8,.q) (.c (2,.s) (.c (3,.q) (.c (4,.q) (.c (9,.s) (.c (10,.q) (.c (11,.q) (.c (12,.q) .n))))))))))))) hI (by kernel_rfl) (by kernel_rfl) ?_)
  intro w9 hI
  refine V ?_
  refine d5 rfl gn rfl (fun w' hw'=>(am (l:=(cH e1.Type_)) rfl et qc rfl cO ((hI.kblk (l:=(cH e1.Type_)) .z rfl).at_ (SX.any rfl hw')))) (by kernel_rfl) ?_
  refine V ?_
  obtain⟨e4,hx15,h⟩:=ab h
  obtain⟨ad3,cs3,hA3,hr3,hq3⟩:=hI.clat (.s (.s (.s .z))) hx15
  obtain⟨a10,c13,a11,c14,a12,c15,rfl,hf7,hf8,hf9⟩:=bP hr3
  have hI:=hI.ads hf7
  have hI:=hI.ads hf8
  have hI:=hI.ads hf9
  refine vI ?_
  refine d5 rfl gn rfl (fun w' hw'=>(am (l:=(aK e4 a10 c13 a11 c14 a12 c15)) rfl et gP rfl aB (hq3.at_ (SX.any rfl hw')))) (by kernel_rfl) ?_
  obtain⟨r6,hx16,h⟩:=ab h
  refine bN rfl gn rfl (ax (vs:=[(Value.agg (dC e1.Type_))]) rfl HD ⟨et,trivial⟩) (Calls.mono (sT hI.lt trivial hx16) ?_)
  rintro _ w10 ⟨rfl,hx17,hl6⟩
  refine⟨_,rfl,hx17,?_⟩
  replace hI:=(hI.ext hx17)
  obtain⟨s3,hx18,h⟩:=ab h
  refine iy rfl gn rfl (fun w'=>bm rfl af et hx18) ?_
  obtain⟨s4,hx19,h⟩:=ab h
  refine iy rfl gn rfl (fun w'=>bm rfl et af hx19) ?_
  obtain⟨r7,hx20,h⟩:=ab h
  refine bN rfl gn rfl (ax (vs:=[(Value.agg (an e4 a10 c13 a11 c14 a12 c15))]) rfl tZ ⟨et,trivial⟩) (Calls.mono (hrec hI.lt FS hx20) ?_)
  rintro _ w11 ⟨rfl,hx21,hl7⟩
  refine⟨_,rfl,hx21,?_⟩
  replace hI:=(hI.ext hx21)
  obtain⟨s5,hx22,h⟩:=ab h
  refine iy rfl gn rfl (fun w'=>bm rfl et et hx22) ?_
  obtain⟨s6,hx23,h⟩:=ab h
  refine iy rfl gn rfl (fun w'=>bm rfl et af hx23) ?_
  refine V ?_
  exact RF
 refine TC (fun hb h=> ?_) fun hb h=> ?_
 ·refine aj (aP [] false (.c (0,.q) (.c (1,.q) (.c (4,.q) (.c (5,.q) (.c (6,.q) (.c (7,.q) (.c (2,.s) (.c (3,.q) (.c (8,.s) (.c (9,.q) (.c (10,.q) (.c (11,.q) .n)))))))))))) hI (by kernel_rfl) (by kernel_rfl) ?_)
  intro w12 hI
  refine V ?_
  refine d5 rfl gn rfl (fun w' hw'=>(am (l:=(cH e1.Type_)) rfl et qc rfl cO ((hI.kblk (l:=(cH e1.Type_)) .z rfl).at_ (SX.any rfl hw')))) (by kernel_rfl) ?_
  refine V ?_
  refine d5 rfl gn rfl (fun w' hw'=>(am (l:=(cH e1.Type_)) rfl et qc rfl cO ((hI.kblk (l:=(cH e1.Type_)) .z rfl).at_ (SX.any rfl hw')))) (by kernel_rfl) ?_
  refine V ?_
  refine d5 rfl gn rfl (fun w' hw'=>(am (l:=(mA e1.Val)) rfl et Cs rfl jI ((hI.kblk (l:=(mA e1.Val)) .z rfl).at_ (SX.any rfl hw')))) (by kernel_rfl) ?_
  obtain⟨r8,hx24,h⟩:=ab h
  refine bN rfl gn rfl (ax (vs:=[(Value.agg (dC e1.Type_))]) rfl HD ⟨et,trivial⟩) (Calls.mono (sT hI.lt trivial hx24) ?_)
  rintro _ w13 ⟨rfl,hx25,hl8⟩
  refine⟨_,rfl,hx25,?_⟩
  replace hI:=(hI.ext hx25)
  obtain⟨s7,hx26,h⟩:=ab h
  refine iy rfl gn rfl (fun w'=>bm rfl et af hx26) ?_
  obtain⟨r9,hx27,h⟩:=ab h
  refine bN rfl gn rfl (ax (vs:=[(Value.agg (dC e1.Type_)),(Value.agg (pW e1.Val))]) rfl Ko ⟨et,⟨et,trivial⟩⟩) (Calls.mono (wo hI.lt trivial hx27) ?_)
  rintro _ w14 ⟨rfl,hx28,hl9⟩
  refine⟨_,rfl,hx28,?_⟩
  replace hI:=(hI.ext hx28)
  obtain⟨s8,hx29,h⟩:=ab h
  refine iy rfl gn rfl (fun w'=>bm rfl et et hx29) ?_
  obtain⟨s9,hx30,h⟩:=ab h
  refine iy rfl gn rfl (fun w'=>bm rfl et af hx30) ?_
  refine V ?_
  exact RF
 refine TC (fun hb h=> ?_) fun hb h=> ?_
 ·refine T ?_
  refine sq (am (l:=(gY e1.Lin a1 c1)) rfl et oH rfl bk (hI.kblk (l:=(gY e1.Lin a1 c1)) .z rfl).1) ?_
  refine sB h (fun _ k=>oa hI.lt FS k) (Rc Tryz.func92) fun r10 w15 h hI=> ?_
  obtain⟨s10,hx33,h⟩:=ab h
  refine sq (bm rfl af et hx33) ?_
  obtain⟨s11,hx34,h⟩:=ab h
  refine sq (bm rfl et af hx34) ?_
  exact RF
 refine TC (fun hb h=> ?_) fun hb h=> ?_
 ·refine T ?_
  obtain⟨s12,hx35,h⟩:=ab h
  refine sq (bm rfl et af hx35) ?_
  refine T ?_
  refine aj (T ?_)
  refine bh (α:=Nat×(List UInt8)×Int) (fun x=>fun w=>∃ C,Bun d7 F w0 C w [] [Cl.blk b1 39 (an e1 a1 c1 a2 c2 a3 c3),Cl.sl ag a1 c1 e1.Lin.L,Cl.sl ai a2 c2 e1.Idx,Cl.sl al a3 c3 e1.Args]∧dy e1 (x.1) (x.2.1) (x.2.2)=some r) (fun x _=>x.1) (fun x=>[(1,vp b1 0),(4,(str (x.2.1))),(5,vi (x.2.2))]) (fu,s12,0) BH SB ?_
  clear h hI;rintro⟨fuel1,s13,i1⟩ w16 ⟨c16,hI,h⟩
  dsimp only at hI h ⊢
  rcases fuel1 with _ | fuel1
  ·rw[dy]at h;cases h
  rw[dy]at h
  refine aj (T ?_)
  refine TC (fun hb h=> ?_) fun hb h=> ?_
  ·refine T ?_
   refine aj (T ?_)
   refine bJ (α:=(List UInt8)) (fun _=>⟨162,[]⟩) (fun x=>[(1,vp b1 0),(4,(str x)),(5,vi i1)]) (fun x=>fun w=>∃ C,Bun d7 F w0 C w [] [Cl.blk b1 39 (an e1 a1 c1 a2 c2 a3 c3),Cl.sl ag a1 c1 e1.Lin.L,Cl.sl ai a2 c2 e1.Idx,Cl.sl al a3 c3 e1.Args]∧iE e1 i1 (dy e1 fuel1) x=some r) ?_ ?_
   ·clear h hI;rintro s14 w17 ⟨c17,hI,h⟩
    try dsimp only at hI h ⊢
    rw[iE]at h
    refine T ?_
    obtain⟨e5,hx36,h⟩:=ab h
    obtain⟨ad4,cs4,hA4,hr4,hq4⟩:=hI.clat (.s (.s .z)) hx36
    obtain⟨a13,c18,a14,c19,rfl,hf10,hf11⟩:=hr4
    have hI:=hI.ads hf10
    have hI:=hI.ads hf11
    refine sI ?_
    refine T ?_
    refine sB h (fun _ k=>xa hI.lt FS k) (Rc Tryz.func93) fun r11 w18 h hI=> ?_
    obtain⟨s15,hx39,h⟩:=ab h
    refine sq (bm rfl et et hx39) ?_
    refine T ?_
    refine aG ?_
    exact kl (fuel1,s15,au (i1+1))
   refine TC (fun hb h=> ?_) fun hb h=> ?_
   ·refine T ?_
    obtain⟨s16,hx40,h⟩:=ab h
    refine sq (bm rfl et af hx40) ?_
    refine sa ?_
    refine aG ?_
    exact kj s16
   exact aT (br s13 SB BH rfl)
  refine bp ?_
  refine fE ?_
  refine aS ?_
  refine T ?_
  obtain⟨s17,hx41,h⟩:=ab h
  refine sq (bm rfl et af hx41) ?_
  exact RF
 refine TC (fun hb h=> ?_) fun hb h=> ?_
 ·refine T ?_
  obtain⟨e6,hx42,h⟩:=ab h
  obtain⟨ad5,cs5,hA5,hr5,hq5⟩:=hI.clat (.s (.s (.s .z))) hx42
  obtain⟨a15,c20,a16,c21,a17,c22,rfl,hf12,hf13,hf14⟩:=bP hr5
  have hI:=hI.ads hf12
  have hI:=hI.ads hf13
  have hI:=hI.ads hf14
  refine sI ?_
  refine T ?_
  refine sB h (fun _ k=>lI hrec hI.lt FS k) (Rc Tryz.func89) fun r12 w19 h hI=> ?_
  obtain⟨s18,hx45,h⟩:=ab h
  refine sq (bm rfl af et hx45) ?_
  exact RF
 refine TC (fun hb h=> ?_) fun hb h=> ?_
 ·refine T ?_
  obtain⟨e7,hx46,h⟩:=ab h
  obtain⟨ad6,cs6,hA6,hr6,hq6⟩:=hI.clat (.s (.s (.s .z))) hx46
  obtain⟨a18,c23,a19,c24,a20,c25,rfl,hf15,hf16,hf17⟩:=bP hr6
  have hI:=hI.ads hf15
  have hI:=hI.ads hf16
  have hI:=hI.ads hf17
  refine sI ?_
  refine T ?_
  refine sB h (fun _ k=>lI hrec hI.lt FS k) (Rc Tryz.func89) fun r13 w20 h hI=> ?_
  obtain⟨s19,hx49,h⟩:=ab h
  refine sq (bm rfl af et hx49) ?_
  exact RF
 refine TC (fun hb h=> ?_) fun hb h=> ?_
 ·refine aj (aP [] false (.c (0,.q) (.c (1,.q) (.c (2,.q) (.c (3,.q) (.c (7,.q) (.c (8,.q) (.c (9,.q) (.c (10,.q) (.c (4,.s) (.c (5,.q) (.c (6,.q) (.c (11,.s) (.c (12,.q) (.c (13,.q) (.c (14,.q) .n))))))))))))))) hI (by kernel_rfl) (by kernel_rfl) ?_)
  intro w21 hI
  refine V ?_
  obtain⟨e8,hx50,h⟩:=ab h
  obtain⟨ad7,cs7,hA7,hr7,hq7⟩:=hI.clat (.s (.s (.s .z))) hx50
  obtain⟨a21,c26,a22,c27,a23,c28,rfl,hf18,hf19,hf20⟩:=bP hr7
  have hI:=hI.ads hf18
  have hI:=hI.ads hf19
  have hI:=hI.ads hf20
  refine vI ?_
  refine d5 rfl gn rfl (fun w' hw'=>(am (l:=(aK e8 a21 c26 a22 c27 a23 c28)) rfl et gP rfl aB (hq7.at_ (SX.any rfl hw')))) (by kernel_rfl) ?_
  refine V ?_
  obtain⟨e9,hx51,h⟩:=ab h
  obtain⟨ad8,cs8,hA8,hr8,hq8⟩:=hI.clat (.s (.s (.s (.s (.s (.s .z)))))) hx51
  obtain⟨a24,c29,a25,c30,a26,c31,rfl,hf21,hf22,hf23⟩:=bP hr8
  have hI:=hI.ads hf21
  have hI:=hI.ads hf22
  have hI:=hI.ads hf23
  refine vI ?_
  refine d5 rfl gn rfl (fun w' hw'=>(am (l:=(aK e9 a24 c29 a25 c30 a26 c31)) rfl et gP rfl aB (hq8.at_ (SX.any rfl hw')))) (by kernel_rfl) ?_
  obtain⟨r14,hx52,h⟩:=ab h
  refine bN rfl gn rfl (ax (vs:=[(Value.agg (an e8 a21 c26 a22 c27 a23 c28))]) rfl tZ ⟨et,trivial⟩) (Calls.mono (hrec hI.lt FS hx52) ?_)
  rintro _ w22 ⟨rfl,hx53,hl14⟩
  refine⟨_,rfl,hx53,?_⟩
  replace hI:=(hI.ext hx53)
  obtain⟨s20,hx54,h⟩:=ab h
  refine iy rfl gn rfl (fun w'=>bm rfl af et hx54) ?_
  obtain⟨s21,hx55,h⟩:=ab h
  refine iy rfl gn rfl (fun w'=>bm rfl et af hx55) ?_
  obtain⟨r15,hx56,h⟩:=ab h
  refine bN rfl gn rfl (ax (vs:=[(Value.agg (an e9 a24 c29 a25 c30 a26 c31))]) rfl tZ ⟨et,trivial⟩) (Calls.mono (hrec hI.lt FS hx56) ?_)
  rintro _ w23 ⟨rfl,hx57,hl15⟩
  refine⟨_,rfl,hx57,?_⟩
  replace hI:=(hI.ext hx57)
  obtain⟨s22,hx58,h⟩:=ab h
  refine iy rfl gn rfl (fun w'=>bm rfl et et hx58) ?_
  obtain⟨s23,hx59,h⟩:=ab h
  refine iy rfl gn rfl (fun w'=>bm rfl et af hx59) ?_
  refine V ?_
  exact RF
 refine TC (fun hb h=> ?_) fun hb h=> ?_
 ·refine aj (aP [] false (.c (0,.q) (.c (1,.q) (.c (2,.q) (.c (3,.q) (.c (7,.q) (.c (8,.q) (.c (9,.q) (.c (10,.q) (.c (4,.s) (.c (5,.q) (.c (6,.q) (.c (11,.s) (.c (12,.q) (.c (13,.q) (.c (14,.q) .n))))))))))))))) hI (by kernel_rfl) (by kernel_rfl) ?_)
  intro w24 hI
  refine V ?_
  obtain⟨e10,hx60,h⟩:=ab h
  obtain⟨ad9,cs9,hA9,hr9,hq9⟩:=hI.clat (.s (.s (.s .z))) hx60
  obtain⟨a27,c32,a28,c33,a29,c34,rfl,hf24,hf25,hf26⟩:=bP hr9
  have hI:=hI.ads hf24
  have hI:=hI.ads hf25
  have hI:=hI.ads hf26
  refine vI ?_
  refine d5 rfl gn rfl (fun w' hw'=>(am (l:=(aK e10 a27 c32 a28 c33 a29 c34)) rfl et gP rfl aB (hq9.at_ (SX.any rfl hw')))) (by kernel_rfl) ?_
  refine V ?_
  obtain⟨e11,hx61,h⟩:=ab h
  obtain⟨ad10,cs10,hA10,hr10,hq10⟩:=hI.clat (.s (.s (.s (.s (.s (.s .z)))))) hx61
  obtain⟨a30,c35,a31,c36,a32,c37,rfl,hf27,hf28,hf29⟩:=bP hr10
  have hI:=hI.ads hf27
  have hI:=hI.ads hf28
  have hI:=hI.ads hf29
  refine vI ?_
  refine d5 rfl gn rfl (fun w' hw'=>(am (l:=(aK e11 a30 c35 a31 c36 a32 c37)) rfl et gP rfl aB (hq10.at_ (SX.any rfl hw')))) (by kernel_rfl) ?_
  obtain⟨r16,hx62,h⟩:=ab h
  refine bN rfl gn rfl (ax (vs:=[(Value.agg (an e10 a27 c32 a28 c33 a29 c34))]) rfl tZ ⟨et,trivial⟩) (Calls.mono (hrec hI.lt FS hx62) ?_)
  rintro _ w25 ⟨rfl,hx63,hl16⟩
  refine⟨_,rfl,hx63,?_⟩
  replace hI:=(hI.ext hx63)
  obtain⟨s24,hx64,h⟩:=ab h
  refine iy rfl gn rfl (fun w'=>bm rfl af et hx64) ?_
  obtain⟨s25,hx65,h⟩:=ab h
  refine iy rfl gn rfl (fun w'=>bm rfl et af hx65) ?_
  obtain⟨r17,hx66,h⟩:=ab h
  refine bN rfl gn rfl (ax (vs:=[(Value.agg (an e11 a30 c35 a31 c36 a32 c37))]) rfl tZ ⟨et,trivial⟩) (Calls.mono (hrec hI.lt FS hx66) ?_)
  rintro _ w26 ⟨rfl,hx67,hl17⟩
  refine⟨_,rfl,hx67,?_⟩
  replace hI:=(hI.ext hx67)
  obtain⟨s26,hx68,h⟩:=ab h
  refine iy rfl gn rfl (fun w'=>bm rfl et et hx68) ?_
  obtain⟨s27,hx69,h⟩:=ab h
  refine iy rfl gn rfl (fun w'=>bm rfl et af hx69) ?_
  refine V ?_
  exact RF
 refine TC (fun hb h=> ?_) fun hb h=> ?_
 ·refine aj (aP [] false (.c (0,.q) (.c (1,.q) (.c (2,.q) (.c (3,.q) (.c (7,.q) (.c (8,.q) (.c (9,.q) (.c (10,.q) (.c (14,.q) (.c (15,.q) (.c (16,.q) (.c (17,.q) (.c (4,.s) (.c (5,.q) (.c (6,.q) (.c (11,.s) (.c (12,.q) (.c (13,.q) (.c (18,.s) (.c (19,.q) (.c (20,.q) (.c (21,.q) .n)))))))))))))))))))))) hI (by kernel_rfl) (by kernel_rfl) ?_)
  intro w27 hI
  refine V ?_
  obtain⟨e12,hx70,h⟩:=ab h
  obtain⟨ad11,cs11,hA11,hr11,hq11⟩:=hI.clat (.s (.s (.s .z))) hx70
  obtain⟨a33,c38,a34,c39,a35,c40,rfl,hf30,hf31,hf32⟩:=bP hr11
  have hI:=hI.ads hf30
  have hI:=hI.ads hf31
  have hI:=hI.ads hf32
  refine vI ?_
  refine d5 rfl gn rfl (fun w' hw'=>(am (l:=(aK e12 a33 c38 a34 c39 a35 c40)) rfl et gP rfl aB (hq11.at_ (SX.any rfl hw')))) (by kernel_rfl) ?_
  refine V ?_
  obtain⟨e13,hx71,h⟩:=ab h
  obtain⟨ad12,cs12,hA12,hr12,hq12⟩:=hI.clat (.s (.s (.s (.s (.s (.s .z)))))) hx71
  obtain⟨a36,c41,a37,c42,a38,c43,rfl,hf33,hf34,hf35⟩:=bP hr12
  have hI:=hI.ads hf33
  have hI:=hI.ads hf34
  have hI:=hI.ads hf35
  refine vI ?_
  refine d5 rfl gn rfl (fun w' hw'=>(am (l:=(aK e13 a36 c41 a37 c42 a38 c43)) rfl et gP rfl aB (hq12.at_ (SX.any rfl hw')))) (by kernel_rfl) ?_
  refine V ?_
  obtain⟨e14,hx72,h⟩:=ab h
  obtain⟨ad13,cs13,hA13,hr13,hq13⟩:=hI.clat (.s (.s (.s (.s (.s (.s (.s (.s (.s .z))))))))) hx72
  obtain⟨a39,c44,a40,c45,a41,c46,rfl,hf36,hf37,hf38⟩:=bP hr13
  have hI:=hI.ads hf36
  have hI:=hI.ads hf37
  have hI:=hI.ads hf38
  refine vI ?_
  refine d5 rfl gn rfl (fun w' hw'=>(am (l:=(aK e14 a39 c44 a40 c45 a41 c46)) rfl et gP rfl aB (hq13.at_ (SX.any rfl hw')))) (by kernel_rfl) ?_
  obtain⟨r18,hx73,h⟩:=ab h
  refine bN rfl gn rfl (ax (vs:=[(Value.agg (an e12 a33 c38 a34 c39 a35 c40))]) rfl tZ ⟨et,trivial⟩) (Calls.mono (hrec hI.lt FS hx73) ?_)
  rintro _ w28 ⟨rfl,hx74,hl18⟩
  refine⟨_,rfl,hx74,?_⟩
  replace hI:=(hI.ext hx74)
  obtain⟨s28,hx75,h⟩:=ab h
  refine iy rfl gn rfl (fun w'=>bm rfl af et hx75) ?_
  obtain⟨s29,hx76,h⟩:=ab h
  refine iy rfl gn rfl (fun w'=>bm rfl et af hx76) ?_
  obtain⟨r19,hx77,h⟩:=ab h
  refine bN rfl gn rfl (ax (vs:=[(Value.agg (an e13 a36 c41 a37 c42 a38 c43))]) rfl tZ ⟨et,trivial⟩) (Calls.mono (hrec hI.lt FS hx77) ?_)
  rintro _ w29 ⟨rfl,hx78,hl19⟩
  refine⟨_,rfl,hx78,?_⟩
  replace hI:=(hI.ext hx78)
  obtain⟨s30,hx79,h⟩:=ab h
  refine iy rfl gn rfl (fun w'=>bm rfl et et hx79) ?_
  obtain⟨s31,hx80,h⟩:=ab h
  refine iy rfl gn rfl (fun w'=>bm rfl et af hx80) ?_
  obtain⟨r20,hx81,h⟩:=ab h
  refine bN rfl gn rfl (ax (vs:=[(Value.agg (an e14 a39 c44 a40 c45 a41 c46))]) rfl tZ ⟨et,trivial⟩) (Calls.mono (hrec hI.lt FS hx81) ?_)
  rintro _ w30 ⟨rfl,hx82,hl20⟩
  refine⟨_,rfl,hx82,?_⟩
  replace hI:=(hI.ext hx82)
  obtain⟨s32,hx83,h⟩:=ab h
  refine iy rfl gn rfl (fun w'=>bm rfl et et hx83) ?_
  obtain⟨s33,hx84,h⟩:=ab h
  refine iy rfl gn rfl (fun w'=>bm rfl et af hx84) ?_
  refine V ?_
  exact RF
 exact aT (br () ⟨rfl,trivial⟩ BH rfl)
theorem wc (n:Nat):Hn (jl n):=by
 induction n with
 | zero=>intro F;intros;rename_i h;cases h
 | succ n ih=>intro F;intros;apply we ih<;>assumption
theorem y7:Hn (pC):=wc fu
theorem za (hF:dL F w0) {e1:ac} (hc:AllCl [Cl.sl ag a1 c1 e1.Lin.L,Cl.sl ai a2 c2 e1.Idx,Cl.sl al a3 c3 e1.Args] F w0) {r:List UInt8} (h:l9 e1=some r):CR F w0 21 #[(Value.agg (an e1 a1 c1 a2 c2 a3 c3))] (str r) []:=by
 refine EN Tryz.func21 Tryz.ntmps21 hF hc fun hI=> ?_
 rw[l9]at h
 refine sr (lX fun b1 c5 w1 hI=> ?_)
 refine T ?_
 refine aj (sr (sq (am (l:=(aK e1 a1 c1 a2 c2 a3 c3)) rfl et gP rfl aB (hI.kblk (l:=(aK e1 a1 c1 a2 c2 a3 c3)) .z rfl).1) ?_))
 refine sB h (fun _ k=>tD hI.lt FS k) (Rc Tryz.func44) fun r1 w2 h hI=> ?_
 refine TR fun hb h=> ?_
 refine T ?_
 refine sq (am (l:=(aK e1 a1 c1 a2 c2 a3 c3)) rfl et gP rfl aB (hI.kblk (l:=(aK e1 a1 c1 a2 c2 a3 c3)) .z rfl).1) ?_
 refine sB h (fun _ k=>y7 hI.lt FS k) (Rc Tryz.func45) fun r2 w3 h hI=> ?_
 exact RF
end Go.Proofs.YtmhoikfoogemnaaGreatDoor
