import Derived.Test.YtmhoikfoogemnaaGreatDoorMCQ4b
import Derived.Test.YtmhoikfoogemnaaGreatDoorMLfJ
namespace Go.Proofs.YtmhoikfoogemnaaGreatDoor
open Go Go.RowKit Go.Vc
set_option maxRecDepth 100000
set_option maxHeartbeats 4000000
set_option linter.unusedVariables false
set_option linter.unusedSimpArgs false
variable {σ:Type} {C0 F:NP} {w0:World} {a1 a2 a3 a4 a5 a6 a7 a8 a9 a10 a11 a12:Option Addr} {b1 b2 b3 b4 b5 b6 b7 b8 b9 b10 b11 b12 c1 c2 c3 c4 c5 c6 c7 c8 c9 c10 c11 c12:Nat}
theorem uD (hF:dL F w0) {op1:Int} (hc:AllCl [] F w0) {r:Int} (h:jY op1=some r):CR F w0 200 #[vi op1] (vi r) []:=by
 refine EN Tryz.func200 Tryz.ntmps200 hF hc fun hI=> ?_
 rw[jY]at h
 refine T ?_
 refine aj (T ?_)
 refine bJ (α:=Bool) (fun _=>⟨14,[]⟩) (fun x=>[(3,vi op1),(4,vb x)]) (fun x=>fun w=>∃ C,Bun d7 F w0 C w [] []∧fY op1 x=some r) ?_ ?_
 ·clear h hI;rintro i1 w1 ⟨c1,hI,h⟩
  try dsimp only at hI h ⊢
  rw[fY]at h
  refine TR fun hb h=> ?_
  refine bJ (α:=Bool) (fun _=>⟨14,[]⟩) (fun x=>[(3,vi op1),(8,vb x)]) (fun x=>fun w=>∃ C,Bun d7 F w0 C w [] []∧fX op1 x=some r) ?_ ?_
  ·clear h hI;rintro i2 w2 ⟨c2,hI,h⟩
   try dsimp only at hI h ⊢
   rw[fX]at h
   refine TR fun hb h=> ?_
   refine TR fun hb h=> ?_
   exact RF
  refine TC (fun hb h=> ?_) fun hb h=> ?_
  ·exact aT (br (decide (op1=8)) SB BH rfl)
  refine TC (fun hb h=> ?_) fun hb h=> ?_
  ·exact aT (br (decide (op1=12)) SB BH rfl)
  refine T ?_
  refine aG ?_
  exact kj (decide (op1=18))
 refine TC (fun hb h=> ?_) fun hb h=> ?_
 ·exact aT (br (decide (op1=1)) SB BH rfl)
 refine TC (fun hb h=> ?_) fun hb h=> ?_
 ·exact aT (br (decide (op1=2)) SB BH rfl)
 refine T ?_
 refine aG ?_
 exact kj (decide (op1=3))
theorem xr (hF:dL F w0) {x1:av} (hc:AllCl [Cl.sl ag a1 c1 x1.Lin.L,Cl.sl ga a2 c2 x1.At] F w0) {r:Bool} (h:lB x1=some r):CR F w0 201 #[(Value.agg (jE x1 a1 c1 a2 c2))] (vb r) []:=by
 refine EN Tryz.func201 Tryz.ntmps201 hF hc fun hI=> ?_
 rw[lB]at h
 refine sr (lX fun b1 c4 w1 hI=> ?_)
 exact RF
theorem AO (hF:dL F w0) {e1:ac} (hc:AllCl [Cl.sl ag a1 c1 e1.Lin.L,Cl.sl ai a2 c2 e1.Idx,Cl.sl al a3 c3 e1.Args] F w0) {r:Bool} (h:m4 e1=some r):CR F w0 146 #[(Value.agg (an e1 a1 c1 a2 c2 a3 c3))] (vb r) []:=by
 refine EN Tryz.func146 Tryz.ntmps146 hF hc fun hI=> ?_
 rw[m4]at h
 refine sr (lX fun b1 c5 w1 hI=> ?_)
 refine T ?_
 refine aj (aj (aP [] false (.c (0,.q) (.c (1,.q) (.c (2,.q) (.c (3,.q) (.c (4,.q) (.c (5,.s) (.c (6,.q) (.c (7,.q) (.c (8,.q) (.c (9,.q) (.c (10,.q) (.c (11,.q) (.c (12,.q) .n))))))))))))) hI (by kernel_rfl) (by kernel_rfl) ?_))
 intro w2 hI
 refine V ?_
 obtain⟨r1,hx1,h⟩:=ab h
 refine bN rfl gn rfl (ax (vs:=[vi e1.Op]) rfl IX ⟨et,trivial⟩) (Calls.mono (uD hI.lt trivial hx1) ?_)
 rintro _ w3 ⟨rfl,hx2,hl1⟩
 refine⟨_,rfl,hx2,?_⟩
 replace hI:=(hI.ext hx2)
 refine V ?_
 refine TR fun hb h=> ?_
 refine T ?_
 have hI:=hI.add (c:=q8 (Value.func (.func 201) #[] #[]) lB) ⟨rfl,fun D' w' hs hl x_1 A_2 c_3 A_4 c_5 r k h=>CallV.fn (cap:=[]) IW (xr hl ⟨k.1,k.2.1,trivial⟩ h)⟩
 refine sB h (fun _ k=>dB hI.lt FS k) (Rc Tryz.func196) fun r2 w4 h hI=> ?_
 exact RF
theorem rQ (hF:dL F w0) {e1:ac} (hc:AllCl [Cl.sl ag a1 c1 e1.Lin.L,Cl.sl ai a2 c2 e1.Idx,Cl.sl al a3 c3 e1.Args] F w0) {r:Bool} (h:jM e1=some r):CR F w0 203 #[(Value.agg (an e1 a1 c1 a2 c2 a3 c3))] (vb r) []:=by
 refine EN Tryz.func203 Tryz.ntmps203 hF hc fun hI=> ?_
 rw[jM]at h
 refine sr (lX fun b1 c5 w1 hI=> ?_)
 exact RF
theorem oX (hF:dL F w0) {op1 i1:Int} (hc:AllCl [] F w0) {r:Bool} (h:eQ op1 i1=some r):CR F w0 204 #[vi op1,vi i1] (vb r) []:=by
 refine EN Tryz.func204 Tryz.ntmps204 hF hc fun hI=> ?_
 rw[eQ]at h
 refine T ?_
 refine aj (T ?_)
 refine aj (T ?_)
 refine TC (fun hb h=> ?_) fun hb h=> ?_
 ·refine TR fun hb h=> ?_
  exact RF
 refine TC (fun hb h=> ?_) fun hb h=> ?_
 ·refine TR fun hb h=> ?_
  exact RF
 refine TR fun hb h=> ?_
 exact RF
theorem zk (hF:dL F w0) {e1:ac} (hc:AllCl [Cl.sl ag a1 c1 e1.Lin.L,Cl.sl ai a2 c2 e1.Idx,Cl.sl al a3 c3 e1.Args] F w0) {r:Bool} (h:mj e1=some r):CR F w0 147 #[(Value.agg (an e1 a1 c1 a2 c2 a3 c3))] (vb r) []:=by
 refine EN Tryz.func147 Tryz.ntmps147 hF hc fun hI=> ?_
 rw[mj]at h
 refine sr (lX fun b1 c5 w1 hI=> ?_)
 refine T ?_
 refine aj (T ?_)
 refine ar (aV rfl rfl rfl rfl) rfl (fun hc=>(am (l:=(cH e1.Type_)) rfl (aF et hc) qc rfl cO (hI.kblk (l:=(cH e1.Type_)) .z rfl).1)) ?_
 obtain⟨r1,hx1,h⟩:=ab h
 replace hx1:=aC hx1
 refine sU (fun hc=>jb hI.lt trivial (hx1 hc)) (Rg Tryz.func202) fun w2 hI=> ?_
 refine TR fun hb h=> ?_
 refine T ?_
 refine aj (T ?_)
 refine bh (α:=Nat×Int) (fun x=>fun w=>∃ C,Bun d7 F w0 C w [] [Cl.blk b1 39 (an e1 a1 c1 a2 c2 a3 c3),Cl.sl ag a1 c1 e1.Lin.L,Cl.sl ai a2 c2 e1.Idx,Cl.sl al a3 c3 e1.Args]∧eW e1 (x.1) (x.2)=some r) (fun x _=>x.1) (fun x=>[(1,vp b1 0),(20,vs a3 e1.Args.length c3),(21,vi (e1.Args.length:Int)),(22,vi (x.2))]) (fu,0) BH SB ?_
 clear h hI;rintro⟨fuel1,i1⟩ w3 ⟨c6,hI,h⟩
 dsimp only at hI h ⊢
 rcases fuel1 with _ | fuel1
 ·rw[eW]at h;cases h
 rw[eW]at h
 refine T ?_
 refine aj (xY h et (fun hb h=> ?_) (fun hb h=> ?_))
 ·refine T ?_
  refine aj (T ?_)
  obtain⟨e2,hx3,h⟩:=ab h
  obtain⟨ad1,cs1,hA1,hr1,hq1⟩:=hI.clat (.s (.s (.s .z))) hx3
  obtain⟨a4,c7,a5,c8,a6,c9,rfl,hf1,hf2,hf3⟩:=bP hr1
  have hI:=hI.ads hf1
  have hI:=hI.ads hf2
  have hI:=hI.ads hf3
  refine sI ?_
  refine T ?_
  refine lN fun b2 c10 w4 hI=> ?_
  refine sa ?_
  refine lA fun c11 w5 hI=> ?_
  refine nk (aj (aP [] false (.c (0,.q) (.c (2,.q) (.c (3,.q) (.c (4,.q) (.c (1,.s) (.c (5,.s) (.c (6,.q) .n))))))) hI (by kernel_rfl) (by kernel_rfl) ?_))
  intro w6 hI
  refine d5 rfl gn rfl (fun w' hw'=>(am (l:=(aK e2 a4 c7 a5 c8 a6 c9)) rfl et gP rfl aB ((CA.blk (hI.blk .z) rfl).at_ (SX.any rfl hw')))) (by kernel_rfl) ?_
  refine V ?_
  obtain⟨r2,hx4,h⟩:=ab h
  refine bN rfl gn rfl (ax (vs:=[(Value.agg (an e2 a4 c7 a5 c8 a6 c9))]) rfl IV ⟨et,trivial⟩) (Calls.mono (rQ hI.lt FS hx4) ?_)
  rintro _ w7 ⟨rfl,hx5,hl2⟩
  refine⟨_,rfl,hx5,?_⟩
  replace hI:=(hI.ext hx5)
  obtain⟨r3,hx6,h⟩:=ab h
  refine bN rfl gn rfl (ax (vs:=[vi e1.Op,vi i1]) rfl IU ⟨et,⟨et,trivial⟩⟩) (Calls.mono (oX hI.lt trivial hx6) ?_)
  rintro _ w8 ⟨rfl,hx7,hl3⟩
  refine⟨_,rfl,hx7,?_⟩
  replace hI:=(hI.ext hx7)
  refine iy rfl gn rfl (fun w'=>Cf rfl u4 et et) ?_
  refine V ?_
  refine TR fun hb h=> ?_
  refine T ?_
  refine aG ?_
  exact kl (fuel1,au (i1+1))
 refine bp ?_
 refine fE ?_
 refine aS ?_
 exact RF
theorem wS (hF:dL F w0) {n1:Int} (hc:AllCl [] F w0) {r:Bool} (h:mQ n1=some r):CR F w0 206 #[vi n1] (vb r) []:=by
 refine EN Tryz.func206 Tryz.ntmps206 hF hc fun hI=> ?_
 rw[mQ]at h
 exact RF
theorem wU (hF:dL F w0) {t1:aM} {v1:bj} (hc:AllCl [] F w0) {r:Bool} (h:lg t1 v1=some r):CR F w0 148 #[(Value.agg (dC t1)),(Value.agg (pW v1))] (vb r) []:=by
 refine EN Tryz.func148 Tryz.ntmps148 hF hc fun hI=> ?_
 rw[lg]at h
 refine sr (lX fun b1 c2 w1 hI=> ?_)
 refine lX fun b2 c4 w2 hI=> ?_
 refine T ?_
 refine aj (sr (sq (am (l:=(cH t1)) rfl et qc rfl cO (hI.kblk (l:=(cH t1)) (.s .z) rfl).1) ?_))
 refine sB h (fun _ k=>jb hI.lt trivial k) (Rc Tryz.func202) fun r1 w3 h hI=> ?_
 refine TR fun hb h=> ?_
 refine T ?_
 refine aj (T ?_)
 refine TC (fun hb h=> ?_) fun hb h=> ?_
 ·refine sr (sq (am (l:=(cH t1)) rfl et qc rfl cO (hI.kblk (l:=(cH t1)) (.s .z) rfl).1) ?_)
  refine sq (am (l:=(mA v1)) rfl et Cs rfl jI (hI.kblk (l:=(mA v1)) .z rfl).1) ?_
  refine sB h (fun _ k=>rt hI.lt trivial k) (Rc Tryz.func205) fun r2 w4 h hI=> ?_
  exact RF
 refine TC (fun hb h=> ?_) fun hb h=> ?_
 ·refine T ?_
  obtain⟨r3,hx5,h⟩:=ab h
  replace hx5:=aC hx5
  refine sU (fun hc=>wS hI.lt trivial (hx5 hc)) (Rg Tryz.func206) fun w5 hI=> ?_
  exact RF
 refine T ?_
 refine sq (am (l:=(mA v1)) rfl et Cs rfl jI (hI.kblk (l:=(mA v1)) .z rfl).1) ?_
 refine sB h (fun _ k=>sZ hI.lt trivial k) (Rc Tryz.func207) fun r4 w6 h hI=> ?_
 exact RF
theorem zm (hF:dL F w0) {e1:ac} (hc:AllCl [Cl.sl ag a1 c1 e1.Lin.L,Cl.sl ai a2 c2 e1.Idx,Cl.sl al a3 c3 e1.Args] F w0) {r:ac} (h:mm e1=some r):Cg 149 #[(Value.agg (an e1 a1 c1 a2 c2 a3 c3))] w0 fun e w=>∃ b1 a4 c4 a5 c5 a6 c6,e= .returned (Value.func (.func 208) #[] #[vp b1 0])∧Ext w0 w∧AllCl [Cl.sl ag a4 c4 r.Lin.L,Cl.sl ai a5 c5 r.Idx,Cl.sl al a6 c6 r.Args,Cl.blk b1 39 (an r a4 c4 a5 c5 a6 c6)] F w:=by
 refine EN Tryz.func149 Tryz.ntmps149 hF hc fun hI=> ?_
 rw[mm]at h
 refine sr (lX fun b2 c8 w1 hI=> ?_)
 refine T ?_
 refine sq (mF (vs:=[]) (cap:=[vp b2 0]) rfl rfl ⟨et,trivial⟩) ?_
 refine T ?_
 refine aJ ?_
 obtain rfl:=ak h
 refine QG ?_
 exact⟨b2,a1,c1,a2,c2,a3,c3,rfl,hI.ext0,hI.fin ⟨(.s .z),(.s (.s .z)),(.s (.s (.s .z))),.z,trivial⟩⟩
theorem tL {I:StI σ} {yield1:(ay→σ→Option (Bool×σ))} {a1:ac} {s1:σ} {fv1:Value} (hI:Bun C0 F w0 C0 w0 [MO.st I s1] [m8 I fv1 yield1,Cl.sl ag a2 c1 a1.Lin.L,Cl.sl ai a3 c2 a1.Idx,Cl.sl al a4 c3 a1.Args,Cl.blk b1 39 (an a1 a2 c1 a3 c2 a4 c3)]) {r:Unit×σ} (h:jA yield1 a1 s1=some r):Cg 208 #[fv1,vp b1 0] w0 fun e w=>∃ C,e= .returned (Value.tuple #[])∧Bun C0 F w0 C w [MO.st I r.2] []:=by
 refine pO Tryz.func208 rfl Tryz.ntmps208 rfl ?_
 rw[jA]at h
 refine aj (sr (sm ?_))
 refine sq (ao rfl et gP rfl bk rfl) ?_
 refine sq (am (l:=(gY a1.Lin a2 c1)) rfl et oH rfl bk (hI.kblk (l:=(gY a1.Lin a2 c1)) (.s (.s (.s (.s .z)))) rfl).1) ?_
 obtain⟨⟨r1,s2⟩,hx1,h⟩:=ab h
 try dsimp only at h
 obtain⟨c4,f1,hB,hl1,hk1⟩:=hI.hands (.l .n)
 refine se (args:=[(Value.agg (dM a1.Lin a2 c1))]) gn rfl rfl et ⟨et,trivial⟩ (CallV.mono ((hI.get .z).2 c4 f1 w0 (Sp.less hl1) a1.Lin a2 c1 s1 _ (hB.subs ⟨(.s .z),trivial⟩) hx1) ?_)
 rintro _ w1 ⟨c5,rfl,hB2⟩
 obtain⟨c6,hs1,hI⟩:=hk1 _ _ _ _ hB2
 replace hI:Bun C0 F w0 c6 w1 [MO.st I s2] [m8 I fv1 yield1,Cl.sl ag a2 c1 a1.Lin.L,Cl.sl ai a3 c2 a1.Idx,Cl.sl al a4 c3 a1.Args,Cl.blk b1 39 (an a1 a2 c1 a3 c2 a4 c3)]:=hI
 refine⟨_,rfl,?_⟩
 refine sq (rV rfl et) ?_
 refine TC (fun hb h=> ?_) fun hb h=> ?_
 ·refine aJ ?_
  obtain rfl:=ak h
  exact fr (vs:=[]) Tryz.results208 trivial ⟨_,rfl,hI.arr GO SU⟩
 refine aT (aS (sr (sq (ao rfl et gP rfl lV rfl) ?_)))
 refine sq (aO (v:=(vs a3 a1.Idx.length c2)) rfl et rX rfl (hI.kblk (l:=[vs a3 a1.Idx.length c2]) (.s (.s (.s (.s .z)))) rfl).1) ?_
 refine sq (jc rfl rX et) ?_
 refine sq (eF rfl af) ?_
 refine nk (la (bh (α:=Nat×Int×σ) (fun x=>fun w=>∃ C,Bun C0 F w0 C w [MO.st I (x.2.2)] [m8 I fv1 yield1,Cl.sl ai a3 c2 a1.Idx]∧bl a1 yield1 (x.1) (x.2.1) (x.2.2)=some r) (fun x _=>x.1) (fun x=>[(0,fv1),(13,vs a3 a1.Idx.length c2),(14,vi (a1.Idx.length:Int)),(15,vi (x.2.1))]) (fu,0,s2) BH SB ?_))
 clear h hI;rintro⟨fuel1,i1,s3⟩ w2 ⟨c7,hI,h⟩
 dsimp only at hI h ⊢
 rcases fuel1 with _ | fuel1
 ·rw[bl]at h;cases h
 rw[bl]at h
 refine sr (sq (oY rfl et et) ?_)
 refine nk (aj (xY h et (fun hb h=> ?_) (fun hb h=> ?_)))
 ·refine aT (aS (bJ (α:=σ) (fun _=>⟨37,[]⟩) (fun x=>[(0,fv1),(13,vs a3 a1.Idx.length c2),(14,vi (a1.Idx.length:Int)),(15,vi i1)]) (fun x=>fun w=>∃ C,Bun C0 F w0 C w [MO.st I x] [m8 I fv1 yield1,Cl.sl ai a3 c2 a1.Idx]∧ji (bl a1 yield1 fuel1) i1 x=some r) ?_ ?_))
  ·clear h hI;rintro s4 w3 ⟨c8,hI,h⟩
   try dsimp only at hI h ⊢
   rw[ji]at h
   refine iv rfl ?_
   refine sq (lO rfl et af) ?_
   refine sm ?_
   refine aG ?_
   exact kl (fuel1,au (i1+1),s4)
  refine la (sr ?_)
  obtain⟨e1,hx2,h⟩:=ab h
  obtain⟨ad1,cs1,hA1,hr1,hq1⟩:=hI.clat (.s .z) hx2
  obtain⟨a5,c9,a6,c10,rfl,hf1,hf2⟩:=hr1
  have hI:=hI.ads hf1
  have hI:=hI.ads hf2
  refine sq (hO rfl rX kr et et (nq hx2) hA1) ?_
  refine sq (am (l:=(nR e1 a5 c9 a6 c10)) rfl et mY rfl kr hq1.1) ?_
  refine lN fun b2 c11 w4 hI=> ?_
  refine lA fun c12 w5 hI=> ?_
  refine nk (aj (sr (sm ?_)))
  refine sq (ao rfl et mY rfl bk rfl) ?_
  refine sq (am (l:=(gY e1.Lin a5 c9)) rfl et oH rfl bk (CellsAt.of_blk (hI.blk .z) rfl)) ?_
  obtain⟨⟨r2,s5⟩,hx3,h⟩:=ab h
  try dsimp only at h
  obtain⟨c13,f2,hB,hl2,hk2⟩:=hI.hands (.r (.l .n))
  refine se (args:=[(Value.agg (dM e1.Lin a5 c9))]) gn rfl rfl et ⟨et,trivial⟩ (CallV.mono ((hI.get (.s (.s .z))).2 c13 f2 w5 (Sp.less hl2) e1.Lin a5 c9 s3 _ (hB.subs ⟨(.s .z),trivial⟩) hx3) ?_)
  rintro _ w6 ⟨c14,rfl,hB2⟩
  obtain⟨c15,hs2,hI⟩:=hk2 _ _ _ _ hB2
  replace hI:Bun C0 F w0 c15 w6 [MO.st I s5,MO.box b2 132 (jE e1 a5 c9 a6 c10)] [Cl.sl ga a6 c10 e1.At,Cl.sl ag a5 c9 e1.Lin.L,m8 I fv1 yield1,Cl.sl ai a3 c2 a1.Idx]:=hI
  refine⟨_,rfl,?_⟩
  refine sq (rV rfl et) ?_
  refine TC (fun hb h=> ?_) fun hb h=> ?_
  ·refine aJ ?_
   obtain rfl:=ak h
   exact fr (vs:=[]) Tryz.results208 trivial ⟨_,rfl,hI.arr GO SU⟩
  refine aT (aS (sr (sq (ao rfl et mY rfl ow rfl) ?_)))
  refine sq (aO (v:=(vs a6 e1.At.length c10)) rfl et A7 rfl (CellsAt.of_blk (hI.blk (.s .z)) rfl)) ?_
  refine sq (jc rfl A7 et) ?_
  refine sq (eF rfl af) ?_
  refine nk (la (bh (α:=Nat×Int×σ) (fun x=>fun w=>∃ C,Bun C0 F w0 C w [MO.st I (x.2.2)] [m8 I fv1 yield1,Cl.sl ai a3 c2 a1.Idx,Cl.sl ga a6 c10 e1.At]∧cT e1 yield1 (bl a1 yield1 fuel1) i1 (x.1) (x.2.1) (x.2.2)=some r) (fun x _=>x.1) (fun x=>[(0,fv1),(13,vs a3 a1.Idx.length c2),(14,vi (a1.Idx.length:Int)),(15,vi i1),(25,vs a6 e1.At.length c10),(26,vi (e1.At.length:Int)),(27,vi (x.2.1))]) (fu,0,s5) BH SB ?_))
  clear h hI;rintro⟨fuel2,i2,s6⟩ w7 ⟨c16,hI,h⟩
  dsimp only at hI h ⊢
  rcases fuel2 with _ | fuel2
  ·rw[cT]at h;cases h
  rw[cT]at h
  refine sr (sq (oY rfl et et) ?_)
  refine nk (aj (xY h et (fun hb h=> ?_) (fun hb h=> ?_)))
  ·refine aT (aS (aj (la (sr ?_))))
   obtain⟨e2,hx4,h⟩:=ab h
   obtain⟨ad2,cs2,hA2,hr2,hq2⟩:=hI.clat (.s (.s .z)) hx4
   obtain⟨a7,c17,rfl,hf3⟩:=hr2
   have hI:=hI.ads hf3
   refine sq (hO rfl A7 bk et et (nq hx4) hA2) ?_
   refine sq (am (l:=(gY e2 a7 c17)) rfl et oH rfl bk hq2.1) ?_
   refine lN fun b3 c18 w8 hI=> ?_
   refine lA fun c19 w9 hI=> ?_
   refine nk (sr (sm ?_))
   refine sq (am (l:=(gY e2 a7 c17)) rfl et oH rfl bk (CellsAt.of_blk (hI.blk .z) rfl)) ?_
   obtain⟨⟨r3,s7⟩,hx5,h⟩:=ab h
   try dsimp only at h
   obtain⟨c20,f3,hB,hl3,hk3⟩:=hI.hands (.r (.l .n))
   refine se (args:=[(Value.agg (dM e2 a7 c17))]) gn rfl rfl et ⟨et,trivial⟩ (CallV.mono ((hI.get (.s .z)).2 c20 f3 w9 (Sp.less hl3) e2 a7 c17 s6 _ (hB.subs ⟨.z,trivial⟩) hx5) ?_)
   rintro _ w10 ⟨c21,rfl,hB2⟩
   obtain⟨c22,hs3,hI⟩:=hk3 _ _ _ _ hB2
   replace hI:Bun C0 F w0 c22 w10 [MO.st I s7,MO.box b3 27 (dM e2 a7 c17)] [Cl.sl ag a7 c17 e2.L,m8 I fv1 yield1,Cl.sl ai a3 c2 a1.Idx,Cl.sl ga a6 c10 e1.At]:=hI
   refine⟨_,rfl,?_⟩
   refine sq (rV rfl et) ?_
   refine TC (fun hb h=> ?_) fun hb h=> ?_
   ·refine aJ ?_
    obtain rfl:=ak h
    exact fr (vs:=[]) Tryz.results208 trivial ⟨_,rfl,hI.arr GO SU⟩
   refine aT (aS (iv rfl ?_))
   refine sq (lO rfl et af) ?_
   refine sm ?_
   refine aG ?_
   exact kl (fuel2,au (i2+1),s7)
  refine bp ?_
  refine fE ?_
  exact kj s6
 refine bp ?_
 refine fE ?_
 obtain rfl:=ak h
 exact fr (vs:=[]) Tryz.results208 trivial ⟨_,rfl,hI.arr GO SU⟩
theorem tK (hF:dL F w0) {e1:ac} (hc:AllCl [Cl.sl ag a1 c1 e1.Lin.L,Cl.sl ai a2 c2 e1.Idx,Cl.sl al a3 c3 e1.Args,ap] F w0) {r:Int} (h:jy e1=some r):CR F w0 79 #[(Value.agg (an e1 a1 c1 a2 c2 a3 c3))] (vi r) []:=by
 refine EN Tryz.func79 Tryz.ntmps79 hF hc fun hI=> ?_
 rw[jy]at h
 refine sr (lX fun b1 c5 w1 hI=> ?_)
 refine lN fun b2 c6 w2 hI=> ?_
 refine nk (aj (T ?_))
 refine sq (am (l:=(aK e1 a1 c1 a2 c2 a3 c3)) rfl et gP rfl aB (hI.kblk (l:=(aK e1 a1 c1 a2 c2 a3 c3)) .z rfl).1) ?_
 refine sB h (fun _ k=>xq hI.lt FS k) (Rc Tryz.func144) fun r1 w3 h hI=> ?_
 refine TC (fun hb h=> ?_) fun hb h=> ?_
 ·refine sr (cU (new:=[vi 5]) (cs':=#[vi 5]) hI .z gn rfl rfl et af rfl kb rfl rfl rfl ?_)
  intro c7 w4 hI
  refine nk (aJ ?_)
  obtain rfl:=ak h
  exact fr (vs:=[vi 5]) Tryz.results79 ⟨⟨_,aI rfl rfl,jC (v:=(vi 5)) Eq rfl (CellsAt.of_blk (hI.blk .z) rfl)⟩,trivial⟩ (fq hI trivial)
 refine sr (sq (am (l:=(aK e1 a1 c1 a2 c2 a3 c3)) rfl et gP rfl aB (hI.kblk (l:=(aK e1 a1 c1 a2 c2 a3 c3)) .z rfl).1) ?_)
 refine sB h (fun _ k=>zl hI.lt FS k) (Rc Tryz.func145) fun r2 w5 h hI=> ?_
 refine TC (fun hb h=> ?_) fun hb h=> ?_
 ·refine sr (cU (new:=[vi 7]) (cs':=#[vi 7]) hI .z gn rfl rfl et af rfl kb rfl rfl rfl ?_)
  intro c8 w6 hI
  refine nk (aJ ?_)
  obtain rfl:=ak h
  exact fr (vs:=[vi 7]) Tryz.results79 ⟨⟨_,aI rfl rfl,jC (v:=(vi 7)) Eq rfl (CellsAt.of_blk (hI.blk .z) rfl)⟩,trivial⟩ (fq hI trivial)
 refine sr (sq (am (l:=(aK e1 a1 c1 a2 c2 a3 c3)) rfl et gP rfl aB (hI.kblk (l:=(aK e1 a1 c1 a2 c2 a3 c3)) .z rfl).1) ?_)
 refine sB h (fun _ k=>AO hI.lt FS k) (Rc Tryz.func146) fun r3 w7 h hI=> ?_
 refine TC (fun hb h=> ?_) fun hb h=> ?_
 ·refine sr (cU (new:=[vi 11]) (cs':=#[vi 11]) hI .z gn rfl rfl et af rfl kb rfl rfl rfl ?_)
  intro c9 w8 hI
  refine nk (aJ ?_)
  obtain rfl:=ak h
  exact fr (vs:=[vi 11]) Tryz.results79 ⟨⟨_,aI rfl rfl,jC (v:=(vi 11)) Eq rfl (CellsAt.of_blk (hI.blk .z) rfl)⟩,trivial⟩ (fq hI trivial)
 refine sr (sq (am (l:=(aK e1 a1 c1 a2 c2 a3 c3)) rfl et gP rfl aB (hI.kblk (l:=(aK e1 a1 c1 a2 c2 a3 c3)) .z rfl).1) ?_)
 refine sB h (fun _ k=>zk hI.lt FS k) (Rc Tryz.func147) fun r4 w9 h hI=> ?_
 refine TC (fun hb h=> ?_) fun hb h=> ?_
 ·refine sr (cU (new:=[vi 10]) (cs':=#[vi 10]) hI .z gn rfl rfl et af rfl kb rfl rfl rfl ?_)
  intro c10 w10 hI
  refine nk (aJ ?_)
  obtain rfl:=ak h
  exact fr (vs:=[vi 10]) Tryz.results79 ⟨⟨_,aI rfl rfl,jC (v:=(vi 10)) Eq rfl (CellsAt.of_blk (hI.blk .z) rfl)⟩,trivial⟩ (fq hI trivial)
 refine T ?_
 refine ar (aV rfl rfl rfl rfl) rfl (fun hc=>(am (l:=(cH e1.Type_)) rfl (aF et hc) qc rfl cO (hI.kblk (l:=(cH e1.Type_)) .z rfl).1)) ?_
 refine T ?_
 refine ar (aV rfl rfl rfl rfl) rfl (fun hc=>(am (l:=(mA e1.Val)) rfl (aF et hc) Cs rfl jI (hI.kblk (l:=(mA e1.Val)) .z rfl).1)) ?_
 obtain⟨r5,hx9,h⟩:=ab h
 replace hx9:=aC hx9
 refine sU (fun hc=>wU hI.lt trivial (hx9 hc)) (Rg Tryz.func148) fun w11 hI=> ?_
 refine TC (fun hb h=> ?_) fun hb h=> ?_
 ·refine sr (cU (new:=[vi 1]) (cs':=#[vi 1]) hI .z gn rfl rfl et af rfl kb rfl rfl rfl ?_)
  intro c11 w12 hI
  refine nk (aJ ?_)
  obtain rfl:=ak h
  exact fr (vs:=[vi 1]) Tryz.results79 ⟨⟨_,aI rfl rfl,jC (v:=(vi 1)) Eq rfl (CellsAt.of_blk (hI.blk .z) rfl)⟩,trivial⟩ (fq hI trivial)
 refine T ?_
 refine aj (sr (sq (am (l:=(aK e1 a1 c1 a2 c2 a3 c3)) rfl et gP rfl aB (hI.kblk (l:=(aK e1 a1 c1 a2 c2 a3 c3)) .z rfl).1) ?_))
 obtain⟨r6,hx11,h⟩:=ab h
 refine bq gn rfl (Rc Tryz.func149) (Calls.mono (zm hI.lt FS hx11) ?_)
 rintro _ w13 ⟨b3,a4,c12,a5,c13,a6,c14,rfl,hx12,hl6⟩
 refine⟨_,rfl,?_⟩
 replace hI:=(hI.ext hx12).adds hl6;dsimp only[ca,na]at hI
 refine T ?_
 refine qG [Code.ret] hI et IR (fun l1 q1 fn1 tm1 rc1 hrc1 c16 w15 hE1 hI=> ?_)
 obtain⟨c17,f1,hB,hl7,hk1⟩:=hI.hands (.l (.r (.l .n)))
 have hB:Bun c17 f1 w15 c17 w15 [MO.st (StI.loop l1 rc1 (fun(s:Int) (b:Unit)=>[MO.box b2 28 #[vi s]]) (fun(s:Int) (b:Unit)=>[Cl.blk b3 39 (an r6 a4 c12 a5 c13 a6 c14),Cl.sl ag a4 c12 r6.Lin.L,Cl.sl ai a5 c13 r6.Idx,Cl.sl al a6 c14 r6.Args,ap])) (0,0)] _:=Bun.mkst (b:=()) hB ⟨(.s (.s (.s .z))),.z,(.s .z),(.s (.s .z)),(.s (.s (.s (.s (.s (.s (.s (.s .z)))))))),trivial⟩
 have hY1:fnS_k7 (StI.loop l1 rc1 (fun(s:Int) (b:Unit)=>[MO.box b2 28 #[vi s]]) (fun(s:Int) (b:Unit)=>[Cl.blk b3 39 (an r6 a4 c12 a5 c13 a6 c14),Cl.sl ag a4 c12 r6.Lin.L,Cl.sl ai a5 c13 r6.Idx,Cl.sl al a6 c14 r6.Args,ap])) (Value.func (.yield l1) #[] #[]) (fun k_0 q=>if q.1=0 then dH k_0 q.2 else none) (Dj f1 c17) w15:=by
  refine⟨rfl,fun C0 F w0 _=> ?_⟩
  rintro y1 a7 c18 ⟨o_,v1⟩ r hB h
  replace h:o_=0∧dH y1 v1=some r:=eS h
  have ho_:=h.1;subst ho_;replace h:=h.2
  rw[dH]at h
  obtain⟨_,hI⟩:=Bun.unst hB
  subst hrc1
  dsimp only[ca,na]at hI
  clear hB
  refine qE hI rfl (rH (hE1 ⟨38,[]⟩ rfl rfl)) ?_
  refine T ?_
  refine lN fun b4 c19 w16 hI=> ?_
  refine lA fun c20 w17 hI=> ?_
  refine aG (yJ hI (.s .z) (fun c21 w18 hI=> ?_))
  refine T ?_
  refine sB h (fun _ k=>mw hI.lt FS k) (Rc Tryz.func122) fun r7 w19 h hI=> ?_
  refine TC (fun hb h=> ?_) fun hb h=> ?_
  ·refine sr (cU (new:=[vi 1]) (cs':=#[vi 1]) hI (.s (.s .z)) gn rfl rfl et af rfl kb rfl rfl rfl ?_)
   intro c22 w20 hI
   refine nk (aJ ?_)
   obtain rfl:=ak h
   exact fun _ _=>qW (js:=[Code.ret]) (oS:=(fun(s:Int) (b:Unit)=>[MO.box b2 28 #[vi s]])) (cS:=(fun(s:Int) (b:Unit)=>[Cl.blk b3 39 (an r6 a4 c12 a5 c13 a6 c14),Cl.sl ag a4 c12 r6.Lin.L,Cl.sl ai a5 c13 r6.Idx,Cl.sl al a6 c14 r6.Args,ap])) (out:=1) (s:=1) (b:=()) (hI.arr GO SU) rfl (fun C w hB=>⟨C,rfl,hB⟩)
  refine aT ?_
  obtain rfl:=ak h
  exact fun _ _=>qW (js:=[Code.ret]) (oS:=(fun(s:Int) (b:Unit)=>[MO.box b2 28 #[vi s]])) (cS:=(fun(s:Int) (b:Unit)=>[Cl.blk b3 39 (an r6 a4 c12 a5 c13 a6 c14),Cl.sl ag a4 c12 r6.Lin.L,Cl.sl ai a5 c13 r6.Idx,Cl.sl al a6 c14 r6.Args,ap])) (out:=0) (s:=v1) (b:=()) (hI.arr GO SU) rfl (fun C w hB=>⟨C,rfl,hB⟩)
 obtain⟨⟨u1,o1,v2⟩,hx15,h⟩:=ab h
 try dsimp only at h
 refine Calls.mono (tL ((hB.add (c:=m8 (StI.loop l1 rc1 (fun(s:Int) (b:Unit)=>[MO.box b2 28 #[vi s]]) (fun(s:Int) (b:Unit)=>[Cl.blk b3 39 (an r6 a4 c12 a5 c13 a6 c14),Cl.sl ag a4 c12 r6.Lin.L,Cl.sl ai a5 c13 r6.Idx,Cl.sl al a6 c14 r6.Args,ap])) (Value.func (.yield l1) #[] #[]) (fun k_0 q=>if q.1=0 then dH k_0 q.2 else none)) hY1).subs ⟨.z,(.s .z),(.s (.s .z)),(.s (.s (.s .z))),(.s (.s (.s (.s .z)))),trivial⟩) hx15) ?_
 rintro _ w22 ⟨c24,rfl,hB2⟩
 obtain⟨_,hB2⟩:=Bun.unst hB2
 subst hrc1
 refine HN hk1 hB2 fun c25 hI=> ?_
 refine⟨_,rfl,tw hI .z (fun c26 w23 hI=> ?_)⟩
 by_cases hz1:o1=0
 ·subst hz1;rw[if_pos rfl]at h
  refine aS (sr (cU (new:=[vi 0]) (cs':=#[vi 0]) hI (.s .z) gn rfl rfl et af rfl kb rfl rfl rfl ?_))
  intro c27 w24 hI
  refine nk (aJ ?_)
  obtain⟨w25,hs2,c28,hI⟩:∃ w2,pq Tryz.prog [q1] w24 w2∧∃ C,Bun d7 F w0 C w2 [MO.obj l1 _,MO.box b2 28 #[vi 0],MO.obj q1 (.deferred none)] [Cl.blk b3 39 (an r6 a4 c12 a5 c13 a6 c14),Cl.sl ag a4 c12 r6.Lin.L,Cl.sl ai a5 c13 r6.Idx,Cl.sl al a6 c14 r6.Args,ap,Cl.sl ag a4 c12 r6.Lin.L,Cl.sl ai a5 c13 r6.Idx,Cl.sl al a6 c14 r6.Args,Cl.blk b3 39 (an r6 a4 c12 a5 c13 a6 c14),Cl.blk b1 39 (an e1 a1 c1 a2 c2 a3 c3),Cl.sl ag a1 c1 e1.Lin.L,Cl.sl ai a2 c2 e1.Idx,Cl.sl al a3 c3 e1.Args,ap]:=hI.shut (.s (.s .z)) fun C w hI=>o0 ⟨_,hI⟩
  obtain rfl:=ak h
  exact rB (vs:=[vi 0]) hs2 Tryz.results79 ⟨⟨_,aI rfl rfl,jC (v:=(vi 0)) Eq rfl (CellsAt.of_blk (hI.blk (.s .z)) rfl)⟩,trivial⟩ (fq hI trivial)
 rw[if_neg hz1]at h
 by_cases hz2:o1=1
 ·subst hz2;rw[if_pos rfl]at h
  refine aJ ?_
  obtain⟨w26,hs3,c29,hI⟩:∃ w2,pq Tryz.prog [q1] w23 w2∧∃ C,Bun d7 F w0 C w2 [MO.obj l1 _,MO.box b2 28 #[vi v2],MO.obj q1 (.deferred none)] [Cl.blk b3 39 (an r6 a4 c12 a5 c13 a6 c14),Cl.sl ag a4 c12 r6.Lin.L,Cl.sl ai a5 c13 r6.Idx,Cl.sl al a6 c14 r6.Args,ap,Cl.sl ag a4 c12 r6.Lin.L,Cl.sl ai a5 c13 r6.Idx,Cl.sl al a6 c14 r6.Args,Cl.blk b3 39 (an r6 a4 c12 a5 c13 a6 c14),Cl.blk b1 39 (an e1 a1 c1 a2 c2 a3 c3),Cl.sl ag a1 c1 e1.Lin.L,Cl.sl ai a2 c2 e1.Idx,Cl.sl al a3 c3 e1.Args,ap]:=hI.shut (.s (.s .z)) fun C w hI=>o0 ⟨_,hI⟩
  obtain rfl:=ak h
  exact rB (vs:=[vi v2]) hs3 Tryz.results79 ⟨⟨_,aI rfl rfl,jC (v:=(vi v2)) Eq rfl (CellsAt.of_blk (hI.blk (.s .z)) rfl)⟩,trivial⟩ (fq hI trivial)
 rw[if_neg hz2]at h
 cases h
theorem uE (hF:dL F w0) {e1:ac} (hc:AllCl [Cl.sl ag a1 c1 e1.Lin.L,Cl.sl ai a2 c2 e1.Idx,Cl.sl al a3 c3 e1.Args,ap] F w0) {r:Int} (h:iN e1=some r):CR F w0 35 #[(Value.agg (an e1 a1 c1 a2 c2 a3 c3))] (vi r) []:=by
 refine EN Tryz.func35 Tryz.ntmps35 hF hc fun hI=> ?_
 rw[iN]at h
 refine sr (lX fun b1 c5 w1 hI=> ?_)
 refine lN fun b2 c6 w2 hI=> ?_
 refine nk (aj (sr (sq (am (l:=(aK e1 a1 c1 a2 c2 a3 c3)) rfl et gP rfl aB (hI.kblk (l:=(aK e1 a1 c1 a2 c2 a3 c3)) .z rfl).1) ?_)))
 refine sB h (fun _ k=>zo hI.lt FS k) (Rc Tryz.func76) fun r1 w3 h hI=> ?_
 refine TC (fun hb h=> ?_) fun hb h=> ?_
 ·refine sr (cU (new:=[vi 13]) (cs':=#[vi 13]) hI .z gn rfl rfl et af rfl kb rfl rfl rfl ?_)
  intro c7 w4 hI
  refine nk (aJ ?_)
  obtain rfl:=ak h
  exact fr (vs:=[vi 13]) Tryz.results35 ⟨⟨_,aI rfl rfl,jC (v:=(vi 13)) Eq rfl (CellsAt.of_blk (hI.blk .z) rfl)⟩,trivial⟩ (fq hI trivial)
 refine T ?_
 refine aj (sr (sq (am (l:=(aK e1 a1 c1 a2 c2 a3 c3)) rfl et gP rfl aB (hI.kblk (l:=(aK e1 a1 c1 a2 c2 a3 c3)) .z rfl).1) ?_))
 refine sB h (fun _ k=>AP hI.lt FS k) (Rc Tryz.func77) fun r2 w5 h hI=> ?_
 refine TC (fun hb h=> ?_) fun hb h=> ?_
 ·refine sr (cU (new:=[vi 2]) (cs':=#[vi 2]) hI .z gn rfl rfl et af rfl kb rfl rfl rfl ?_)
  intro c8 w6 hI
  refine nk (aJ ?_)
  obtain rfl:=ak h
  exact fr (vs:=[vi 2]) Tryz.results35 ⟨⟨_,aI rfl rfl,jC (v:=(vi 2)) Eq rfl (CellsAt.of_blk (hI.blk .z) rfl)⟩,trivial⟩ (fq hI trivial)
 refine T ?_
 refine aj (sr (sq (am (l:=(aK e1 a1 c1 a2 c2 a3 c3)) rfl et gP rfl aB (hI.kblk (l:=(aK e1 a1 c1 a2 c2 a3 c3)) .z rfl).1) ?_))
 obtain⟨r3,hx5,h⟩:=ab h
 refine bq gn rfl (Rc Tryz.func78) (Calls.mono (um hI.lt FS hx5) ?_)
 rintro _ w7 ⟨b3,a4,c9,a5,c10,a6,c11,rfl,hx6,hl3⟩
 refine⟨_,rfl,?_⟩
 replace hI:=(hI.ext hx6).adds hl3;dsimp only[ca,na]at hI
 refine T ?_
 refine qG [Code.ret] hI et E9 (fun l1 q1 fn1 tm1 rc1 hrc1 c13 w9 hE1 hI=> ?_)
 obtain⟨c14,f1,hB,hl4,hk1⟩:=hI.hands (.l (.r (.l .n)))
 have hB:Bun c14 f1 w9 c14 w9 [MO.st (StI.loop l1 rc1 (fun(s:Int) (b:Unit)=>[MO.box b2 28 #[vi s]]) (fun(s:Int) (b:Unit)=>[Cl.blk b3 39 (an r3 a4 c9 a5 c10 a6 c11),Cl.sl ag a4 c9 r3.Lin.L,Cl.sl ai a5 c10 r3.Idx,Cl.sl al a6 c11 r3.Args,ap])) (0,0)] _:=Bun.mkst (b:=()) hB ⟨(.s (.s (.s .z))),.z,(.s .z),(.s (.s .z)),(.s (.s (.s (.s (.s (.s (.s (.s .z)))))))),trivial⟩
 have hY1:fnS_k5 (StI.loop l1 rc1 (fun(s:Int) (b:Unit)=>[MO.box b2 28 #[vi s]]) (fun(s:Int) (b:Unit)=>[Cl.blk b3 39 (an r3 a4 c9 a5 c10 a6 c11),Cl.sl ag a4 c9 r3.Lin.L,Cl.sl ai a5 c10 r3.Idx,Cl.sl al a6 c11 r3.Args,ap])) (Value.func (.yield l1) #[] #[]) (fun k_0 q=>if q.1=0 then du k_0 q.2 else none) (Dj f1 c14) w9:=by
  refine⟨rfl,fun C0 F w0 _=> ?_⟩
  rintro y1 a7 c15 a8 c16 a9 c17 ⟨o_,v1⟩ r hB h
  replace h:o_=0∧du y1 v1=some r:=eS h
  have ho_:=h.1;subst ho_;replace h:=h.2
  rw[du]at h
  obtain⟨_,hI⟩:=Bun.unst hB
  subst hrc1
  dsimp only[ca,na]at hI
  clear hB
  refine qE hI rfl (rH (hE1 ⟨19,[]⟩ rfl rfl)) ?_
  refine T ?_
  refine lN fun b4 c18 w10 hI=> ?_
  refine lA fun c19 w11 hI=> ?_
  refine aG (yJ hI (.s .z) (fun c20 w12 hI=> ?_))
  refine T ?_
  refine sB h (fun _ k=>tK hI.lt FS k) (Rc Tryz.func79) fun r4 w13 h hI=> ?_
  refine TC (fun hb h=> ?_) fun hb h=> ?_
  ·refine T ?_
   refine lS fun c21 w14 hI=> ?_
   refine nk (aJ ?_)
   obtain rfl:=ak h
   exact fun _ _=>qW (js:=[Code.ret]) (oS:=(fun(s:Int) (b:Unit)=>[MO.box b2 28 #[vi s]])) (cS:=(fun(s:Int) (b:Unit)=>[Cl.blk b3 39 (an r3 a4 c9 a5 c10 a6 c11),Cl.sl ag a4 c9 r3.Lin.L,Cl.sl ai a5 c10 r3.Idx,Cl.sl al a6 c11 r3.Args,ap])) (out:=1) (s:=r4) (b:=()) (hI.arr GO SU) rfl (fun C w hB=>⟨C,rfl,hB⟩)
  refine aT ?_
  obtain rfl:=ak h
  exact fun _ _=>qW (js:=[Code.ret]) (oS:=(fun(s:Int) (b:Unit)=>[MO.box b2 28 #[vi s]])) (cS:=(fun(s:Int) (b:Unit)=>[Cl.blk b3 39 (an r3 a4 c9 a5 c10 a6 c11),Cl.sl ag a4 c9 r3.Lin.L,Cl.sl ai a5 c10 r3.Idx,Cl.sl al a6 c11 r3.Args,ap])) (out:=0) (s:=v1) (b:=()) (hI.arr GO SU) rfl (fun C w hB=>⟨C,rfl,hB⟩)
 obtain⟨⟨u1,o1,v2⟩,hx9,h⟩:=ab h
 try dsimp only at h
 refine Calls.mono (p9 ((hB.add (c:=ph (StI.loop l1 rc1 (fun(s:Int) (b:Unit)=>[MO.box b2 28 #[vi s]]) (fun(s:Int) (b:Unit)=>[Cl.blk b3 39 (an r3 a4 c9 a5 c10 a6 c11),Cl.sl ag a4 c9 r3.Lin.L,Cl.sl ai a5 c10 r3.Idx,Cl.sl al a6 c11 r3.Args,ap])) (Value.func (.yield l1) #[] #[]) (fun k_0 q=>if q.1=0 then du k_0 q.2 else none)) hY1).subs ⟨.z,(.s .z),(.s (.s .z)),(.s (.s (.s .z))),(.s (.s (.s (.s .z)))),trivial⟩) hx9) ?_
 rintro _ w16 ⟨c23,rfl,hB2⟩
 obtain⟨_,hB2⟩:=Bun.unst hB2
 subst hrc1
 refine HN hk1 hB2 fun c24 hI=> ?_
 refine⟨_,rfl,tw hI .z (fun c25 w17 hI=> ?_)⟩
 by_cases hz1:o1=0
 ·subst hz1;rw[if_pos rfl]at h
  refine aS (sr (cU (new:=[vi 0]) (cs':=#[vi 0]) hI (.s .z) gn rfl rfl et af rfl kb rfl rfl rfl ?_))
  intro c26 w18 hI
  refine nk (aJ ?_)
  obtain⟨w19,hs2,c27,hI⟩:∃ w2,pq Tryz.prog [q1] w18 w2∧∃ C,Bun d7 F w0 C w2 [MO.obj l1 _,MO.box b2 28 #[vi 0],MO.obj q1 (.deferred none)] [Cl.blk b3 39 (an r3 a4 c9 a5 c10 a6 c11),Cl.sl ag a4 c9 r3.Lin.L,Cl.sl ai a5 c10 r3.Idx,Cl.sl al a6 c11 r3.Args,ap,Cl.sl ag a4 c9 r3.Lin.L,Cl.sl ai a5 c10 r3.Idx,Cl.sl al a6 c11 r3.Args,Cl.blk b3 39 (an r3 a4 c9 a5 c10 a6 c11),Cl.blk b1 39 (an e1 a1 c1 a2 c2 a3 c3),Cl.sl ag a1 c1 e1.Lin.L,Cl.sl ai a2 c2 e1.Idx,Cl.sl al a3 c3 e1.Args,ap]:=hI.shut (.s (.s .z)) fun C w hI=>o0 ⟨_,hI⟩
  obtain rfl:=ak h
  exact rB (vs:=[vi 0]) hs2 Tryz.results35 ⟨⟨_,aI rfl rfl,jC (v:=(vi 0)) Eq rfl (CellsAt.of_blk (hI.blk (.s .z)) rfl)⟩,trivial⟩ (fq hI trivial)
 rw[if_neg hz1]at h
 by_cases hz2:o1=1
 ·subst hz2;rw[if_pos rfl]at h
  refine aJ ?_
  obtain⟨w20,hs3,c28,hI⟩:∃ w2,pq Tryz.prog [q1] w17 w2∧∃ C,Bun d7 F w0 C w2 [MO.obj l1 _,MO.box b2 28 #[vi v2],MO.obj q1 (.deferred none)] [Cl.blk b3 39 (an r3 a4 c9 a5 c10 a6 c11),Cl.sl ag a4 c9 r3.Lin.L,Cl.sl ai a5 c10 r3.Idx,Cl.sl al a6 c11 r3.Args,ap,Cl.sl ag a4 c9 r3.Lin.L,Cl.sl ai a5 c10 r3.Idx,Cl.sl al a6 c11 r3.Args,Cl.blk b3 39 (an r3 a4 c9 a5 c10 a6 c11),Cl.blk b1 39 (an e1 a1 c1 a2 c2 a3 c3),Cl.sl ag a1 c1 e1.Lin.L,Cl.sl ai a2 c2 e1.Idx,Cl.sl al a3 c3 e1.Args,ap]:=hI.shut (.s (.s .z)) fun C w hI=>o0 ⟨_,hI⟩
  obtain rfl:=ak h
  exact rB (vs:=[vi v2]) hs3 Tryz.results35 ⟨⟨_,aI rfl rfl,jC (v:=(vi v2)) Eq rfl (CellsAt.of_blk (hI.blk (.s .z)) rfl)⟩,trivial⟩ (fq hI trivial)
 rw[if_neg hz2]at h
 cases h
theorem gB {r1:aa} (hI:Bun C0 F w0 C0 w0 [MO.box b1 67 (ae r1 a1 c1)] [Cl.sl ah a1 c1 r1.l]) {r:bC (Unit×aa)} (h:bs r1=some r):CP C0 F w0 194 #[vp b1 0] r fun rx e w=>∃ a2 c2 C,e= .returned (Value.tuple #[])∧Bun C0 F w0 C w [MO.box b1 67 (ae rx.2 a2 c2)] [Cl.sl ah a2 c2 rx.2.l]:=by
 refine eY (l:=[vp b1 0]) Tryz.func194 rfl Tryz.ntmps194 rfl ?_
 rw[bs]at h
 refine bJ (α:=Unit) (fun _=>⟨27,[]⟩) (fun _=>[(0,vp b1 0)]) (fun _=>fun w=>∃ C,Bun C0 F w0 C w [MO.box b1 67 (ae r1 a1 c1)] [Cl.sl ah a1 c1 r1.l]∧ec r1=some r) ?_ ?_
 ·clear h hI;rintro _ w1 ⟨c3,hI,h⟩
  try dsimp only at hI h ⊢
  rw[ec]at h
  refine T ?_
  refine lS fun c4 w2 hI=> ?_
  refine T ?_
  refine lS fun c5 w3 hI=> ?_
  refine aG ?_
  obtain rfl:=ak h
  refine QG ?_
  exact .inl ⟨_,rfl,a1,c1,_,rfl,hI.arr GO SU⟩
 refine TC (fun hb h=> ?_) fun hb h=> ?_
 ·refine T ?_
  rcases gR h with⟨r2,hx1,h⟩ | ⟨pa_,pn_,hx1,hp_⟩
  rotate_left
  ·subst hp_
   refine mP gn rfl (ax (vs:=[vp b1 0,vi r1.at_,vi 13]) rfl su ⟨et,⟨et,⟨af,trivial⟩⟩⟩) (Calls.mono (aN NE ⟨(hI.get0 .z),hI.lendBox .z,trivial⟩ hx1) ?_)
   intro e_ w_ hq_;obtain⟨rfl,hx_⟩:=el hq_;have hI_:=hI.ext hx_;exact .inr ⟨_,rfl,gO (.inr ⟨_,_,rfl,rfl,⟨_,hI_.arr .n trivial⟩⟩)⟩
  try dsimp only at h
  refine bq gn rfl (Rc Tryz.func71) (Calls.mono (aN NE ⟨(hI.get0 .z),hI.lendBox .z,trivial⟩ hx1) ?_)
  intro e_ w4 hq_;obtain⟨rfl,hx2,hl1⟩:=ej hq_
  refine⟨_,rfl,?_⟩
  replace hI:=(hI.ext hx2)
  refine aG ?_
  exact kj ()
 exact aT (br () ⟨rfl,trivial⟩ BH rfl)
theorem jN {r1:aa} (hI:Bun C0 F w0 C0 w0 [MO.box b1 67 (ae r1 a1 c1)] [Cl.sl ah a1 c1 r1.l]) {r:bC (Unit×aa)} (h:cz r1=some r):CP C0 F w0 253 #[vp b1 0] r fun rx e w=>∃ a2 c2 C,e= .returned (Value.tuple #[])∧Bun C0 F w0 C w [MO.box b1 67 (ae rx.2 a2 c2)] [Cl.sl ah a2 c2 rx.2.l]:=by
 refine eY (l:=[vp b1 0]) Tryz.func253 rfl Tryz.ntmps253 rfl ?_
 rw[cz]at h
 refine aj (T ?_)
 refine sB h (fun _ k=>dw NE ⟨(hI.get0 .z),hI.lendBox .z,trivial⟩ k) (Rc Tryz.func121) fun r2 w1 h hI=> ?_
 refine TC (fun hb h=> ?_) fun hb h=> ?_
 ·refine T ?_
  obtain⟨c3,f1,hB,hl2,hk1⟩:=hI.hands (.l .n)
  refine dZ h (fun _ hx3=>di HS hx3) (ko hk1) (Rc Tryz.func103) ?_
  rintro⟨r3,s1⟩ hx3 h _ w2 ⟨a3,c4,c5,rfl,hB2⟩
  try dsimp only at h
  refine HN hk1 hB2 fun c6 hI=> ?_
  refine⟨_,rfl,?_⟩
  refine T ?_
  obtain⟨c7,f2,hB,hl3,hk2⟩:=hI.hands (.l .n)
  refine dZ h (fun _ hx4=>gB HS hx4) (ko hk2) (Rc Tryz.func194) ?_
  rintro⟨r4,s2⟩ hx4 h _ w3 ⟨a4,c8,c9,rfl,hB2⟩
  try dsimp only at h
  refine HN hk2 hB2 fun c10 hI=> ?_
  refine⟨_,rfl,?_⟩
  refine aG ?_
  obtain rfl:=ak h
  refine QG ?_
  exact .inl ⟨_,rfl,a4,c8,_,rfl,hI.arr GO SU⟩
 refine T ?_
 obtain⟨c11,f3,hB,hl4,hk3⟩:=hI.hands (.l .n)
 refine dZ h (fun _ hx5=>gB HS hx5) (ko hk3) (Rc Tryz.func194) ?_
 rintro⟨r5,s3⟩ hx5 h _ w4 ⟨a5,c12,c13,rfl,hB2⟩
 try dsimp only at h
 refine HN hk3 hB2 fun c14 hI=> ?_
 refine⟨_,rfl,?_⟩
 refine aG ?_
 obtain rfl:=ak h
 refine QG ?_
 exact .inl ⟨_,rfl,a5,c12,_,rfl,hI.arr GO SU⟩
theorem aL {r1:aa} {s1:List UInt8} (hI:Bun C0 F w0 C0 w0 [MO.box b1 67 (ae r1 a1 c1)] [Cl.sl ah a1 c1 r1.l]) {r:bC (Unit×aa)} (h:aA r1 s1=some r):CP C0 F w0 104 #[vp b1 0,(str s1)] r fun rx e w=>∃ a2 c2 C,e= .returned (Value.tuple #[])∧Bun C0 F w0 C w [MO.box b1 67 (ae rx.2 a2 c2)] [Cl.sl ah a2 c2 rx.2.l]:=by
 refine eY (l:=[vp b1 0,(str s1)]) Tryz.func104 rfl Tryz.ntmps104 rfl ?_
 rw[aA]at h
 refine T ?_
 obtain⟨c3,f1,hB,hl1,hk1⟩:=hI.hands (.l .n)
 obtain⟨⟨r2,s2⟩,hx1,h⟩:=ab h
 try dsimp only at h
 refine bq gn rfl (Rc Tryz.func68) (Calls.mono (aD HS hx1) ?_)
 rintro _ w1 ⟨a3,c4,c5,rfl,hB2⟩
 refine HN hk1 hB2 fun c6 hI=> ?_
 refine⟨_,rfl,?_⟩
 refine TC (fun hb h=> ?_) fun hb h=> ?_
 ·refine T ?_
  obtain⟨c7,f2,hB,hl2,hk2⟩:=hI.hands (.l .n)
  refine dZ h (fun _ hx2=>di HS hx2) (ko hk2) (Rc Tryz.func103) ?_
  rintro⟨r3,s3⟩ hx2 h _ w2 ⟨a4,c8,c9,rfl,hB2⟩
  try dsimp only at h
  refine HN hk2 hB2 fun c10 hI=> ?_
  refine⟨_,rfl,?_⟩
  refine aG ?_
  obtain rfl:=ak h
  refine QG ?_
  exact .inl ⟨_,rfl,a4,c8,_,rfl,hI.arr GO SU⟩
 refine aT ?_
 obtain rfl:=ak h
 refine QG ?_
 exact .inl ⟨_,rfl,a3,c4,_,rfl,hI.arr GO SU⟩
theorem jD {r1:aa} (hI:Bun C0 F w0 C0 w0 [MO.box b1 67 (ae r1 a1 c1)] [Cl.sl ah a1 c1 r1.l]) {r:bC (Unit×aa)} (h:dg r1=some r):CP C0 F w0 254 #[vp b1 0] r fun rx e w=>∃ a2 c2 C,e= .returned (Value.tuple #[])∧Bun C0 F w0 C w [MO.box b1 67 (ae rx.2 a2 c2)] [Cl.sl ah a2 c2 rx.2.l]:=by
 refine eY (l:=[vp b1 0]) Tryz.func254 rfl Tryz.ntmps254 rfl ?_
 rw[dg]at h
 refine T ?_
 obtain⟨c3,f1,hB,hl1,hk1⟩:=hI.hands (.l .n)
 refine dZ h (fun _ hx1=>aL HS hx1) (ko hk1) (Rc Tryz.func104) ?_
 rintro⟨r2,s1⟩ hx1 h _ w1 ⟨a3,c4,c5,rfl,hB2⟩
 try dsimp only at h
 refine HN hk1 hB2 fun c6 hI=> ?_
 refine⟨_,rfl,?_⟩
 refine T ?_
 refine lS fun c7 w2 hI=> ?_
 refine aG ?_
 obtain rfl:=ak h
 refine QG ?_
 exact .inl ⟨_,rfl,a3,c4,_,rfl,hI.arr GO SU⟩
theorem g9 {r1:aa} {l1:List (List UInt8)} (hI:Bun C0 F w0 C0 w0 [MO.box b1 67 (ae r1 a1 c1)] [Cl.sl ah a1 c1 r1.l,Cl.sl fp a2 c2 l1]) {r:Int×aa} (h:bD r1 l1=some r):Cg 98 #[vp b1 0,vs a2 l1.length c2] w0 fun e w=>∃ a3 c3 C,e= .returned (vi r.1)∧Bun C0 F w0 C w [MO.box b1 67 (ae r.2 a3 c3)] [Cl.sl ah a3 c3 r.2.l]:=by
 refine pO Tryz.func98 rfl Tryz.ntmps98 rfl ?_
 rw[bD]at h
 refine T ?_
 refine aj (T ?_)
 refine bh (α:=Nat×Int) (fun x=>fun w=>∃ C,Bun C0 F w0 C w [MO.box b1 67 (ae r1 a1 c1)] [Cl.sl ah a1 c1 r1.l,Cl.sl fp a2 c2 l1]∧bQ l1 r1 (x.1) (x.2)=some r) (fun x _=>x.1) (fun x=>[(0,vp b1 0),(7,vs a2 l1.length c2),(8,vi (l1.length:Int)),(9,vi (x.2))]) (fu,0) BH SB ?_
 clear h hI;rintro⟨fuel1,i1⟩ w1 ⟨c4,hI,h⟩
 dsimp only at hI h ⊢
 rcases fuel1 with _ | fuel1
 ·rw[bQ]at h;cases h
 rw[bQ]at h
 refine T ?_
 refine aj (xY h et (fun hb h=> ?_) (fun hb h=> ?_))
 ·refine T ?_
  refine aj (T ?_)
  obtain⟨e1,hx1,h⟩:=ab h
  obtain⟨ad1,cs1,hA1,hr1,hq1⟩:=hI.clat (.s .z) hx1
  obtain rfl:cs1=[(str e1)]:=hr1
  refine sI ?_
  refine T ?_
  refine sB h (fun _ k=>dw NE ⟨(hI.get0 .z),hI.lendBox .z,trivial⟩ k) (Rc Tryz.func121) fun r2 w2 h hI=> ?_
  refine TC (fun hb h=> ?_) fun hb h=> ?_
  ·refine T ?_
   refine lS fun c5 w3 hI=> ?_
   refine T ?_
   refine aJ ?_
   obtain rfl:=ak h
   refine QG ?_
   exact⟨a1,c1,_,rfl,hI.arr GO SU⟩
  refine T ?_
  refine aG ?_
  exact kl (fuel1,au (i1+1))
 refine bp ?_
 refine fE ?_
 refine aS ?_
 refine T ?_
 refine aJ ?_
 obtain rfl:=ak h
 refine QG ?_
 exact⟨a1,c1,_,rfl,hI.arr GO SU⟩
theorem lT {r1:aa} (hI:Bun C0 F w0 C0 w0 [MO.box b1 67 (ae r1 a1 c1)] [Cl.sl ah a1 c1 r1.l]) {r:bC (Int×aa)} (h:d6 r1=some r):CP C0 F w0 219 #[vp b1 0] r fun rx e w=>∃ a2 c2 C,e= .returned (vi rx.1)∧Bun C0 F w0 C w [MO.box b1 67 (ae rx.2 a2 c2)] [Cl.sl ah a2 c2 rx.2.l]:=by
 refine eY (l:=[vp b1 0]) Tryz.func219 rfl Tryz.ntmps219 rfl ?_
 rw[d6]at h
 refine T ?_
 obtain⟨c3,f1,hB,hl1,hk1⟩:=hI.hands (.l .n)
 refine dZ h (fun _ hx1=>gk HS hx1) (ko hk1) (Rc Tryz.func130) ?_
 rintro⟨r2,s1⟩ hx1 h _ w1 ⟨a3,c4,c5,rfl,hB2⟩
 try dsimp only at h
 refine HN hk1 hB2 fun c6 hI=> ?_
 refine⟨_,rfl,?_⟩
 refine sB h (fun _ k=>p7 hI.lt trivial k) (Rc Tryz.func131) fun r3 w2 h hI=> ?_
 refine T ?_
 refine aj (T ?_)
 refine TC (fun hb h=> ?_) fun hb h=> ?_
 ·refine T ?_
  rcases gR h with⟨r4,hx4,h⟩ | ⟨pa_,pn_,hx4,hp_⟩
  rotate_left
  ·subst hp_
   refine mP gn rfl (ax (vs:=[vp b1 0,vi r1.at_,vi 3]) rfl su ⟨et,⟨et,⟨af,trivial⟩⟩⟩) (Calls.mono (aN NE ⟨(hI.get0 .z),hI.lendBox .z,trivial⟩ hx4) ?_)
   intro e_ w_ hq_;obtain⟨rfl,hx_⟩:=el hq_;have hI_:=hI.ext hx_;exact .inr ⟨_,rfl,gO (.inr ⟨_,_,rfl,rfl,⟨_,hI_.arr .n trivial⟩⟩)⟩
  try dsimp only at h
  refine bq gn rfl (Rc Tryz.func71) (Calls.mono (aN NE ⟨(hI.get0 .z),hI.lendBox .z,trivial⟩ hx4) ?_)
  intro e_ w3 hq_;obtain⟨rfl,hx5,hl3⟩:=ej hq_
  refine⟨_,rfl,?_⟩
  replace hI:=(hI.ext hx5)
  refine T ?_
  refine aJ ?_
  obtain rfl:=ak h
  refine QG ?_
  exact .inl ⟨_,rfl,a3,c4,_,rfl,hI.arr GO SU⟩
 refine T ?_
 refine aJ ?_
 obtain rfl:=ak h
 refine QG ?_
 exact .inl ⟨_,rfl,a3,c4,_,rfl,hI.arr GO SU⟩
theorem mD {r1:aa} (hI:Bun C0 F w0 C0 w0 [MO.box b1 67 (ae r1 a1 c1)] [Cl.sl ah a1 c1 r1.l]) {r:bC (aM×aa)} (h:eI r1=some r):CP C0 F w0 174 #[vp b1 0] r fun rx e w=>∃ a2 c2 C,e= .returned (Value.agg (dC rx.1))∧Bun C0 F w0 C w [MO.box b1 67 (ae rx.2 a2 c2)] [Cl.sl ah a2 c2 rx.2.l]:=by
 refine eY (l:=[vp b1 0]) Tryz.func174 rfl Tryz.ntmps174 rfl ?_
 rw[eI]at h
 refine sr (cP (cs:=ya) hI gn rfl rfl Gg rfl ?_)
 intro b2 c3 w1 hI
 refine T ?_
 refine bJ (α:=aa×(Option Addr)×Nat) (fun _=>⟨66,[]⟩) (fun x=>[(0,vp b1 0),(2,vp b2 0),(3,vi r1.at_)]) (fun x=>fun w=>∃ C,Bun C0 F w0 C w [MO.box b1 67 (ae (x.1) (x.2.1) (x.2.2)),MO.box b2 35 ya] [Cl.sl ah (x.2.1) (x.2.2) (x.1).l]∧eM r1 (x.1)=some r) ?_ ?_
 ·clear h hI;rintro⟨r2,a3,c4⟩ w2 ⟨c5,hI,h⟩
  try dsimp only at hI h ⊢
  rw[eM]at h
  refine sr (sq (aH (vs:=[(0,vi 2)]) (cs:=#[vi 2,vi 0,vi 0,vi 0,vi 0]) rfl ⟨rfl,af,trivial⟩ (by kernel_rfl)) ?_)
  refine lN fun b3 c6 w3 hI=> ?_
  refine lA fun c7 w4 hI=> ?_
  refine T ?_
  obtain⟨c8,f1,hB,hl1,hk1⟩:=hI.hands (.r (.l (.r .n)))
  refine dZ h (fun _ hx1=>aL HS hx1) (ko hk1) (Rc Tryz.func104) ?_
  rintro⟨r3,s1⟩ hx1 h _ w5 ⟨a4,c9,c10,rfl,hB2⟩
  try dsimp only at h
  refine HN hk1 hB2 fun c11 hI=> ?_
  refine⟨_,rfl,?_⟩
  refine T ?_
  obtain⟨c12,f2,hB,hl2,hk2⟩:=hI.hands (.l (.r (.r .n)))
  refine dZ h (fun _ hx2=>lT HS hx2) (ko hk2) (Rc Tryz.func219) ?_
  rintro⟨r4,s2⟩ hx2 h _ w6 ⟨a5,c13,c14,rfl,hB2⟩
  try dsimp only at h
  refine HN hk2 hB2 fun c15 hI=> ?_
  refine⟨_,rfl,?_⟩
  refine T ?_
  refine lS fun c16 w7 hI=> ?_
  refine T ?_
  obtain⟨c17,f3,hB,hl3,hk3⟩:=hI.hands (.l (.r (.r .n)))
  refine dZ h (fun _ hx3=>aL HS hx3) (ko hk3) (Rc Tryz.func104) ?_
  rintro⟨r5,s3⟩ hx3 h _ w8 ⟨a6,c18,c19,rfl,hB2⟩
  try dsimp only at h
  refine HN hk3 hB2 fun c20 hI=> ?_
  refine⟨_,rfl,?_⟩
  refine T ?_
  obtain⟨c21,f4,hB,hl4,hk4⟩:=hI.hands (.l (.r (.r .n)))
  refine dZ h (fun _ hx4=>lT HS hx4) (ko hk4) (Rc Tryz.func219) ?_
  rintro⟨r6,s4⟩ hx4 h _ w9 ⟨a7,c22,c23,rfl,hB2⟩
  try dsimp only at h
  refine HN hk4 hB2 fun c24 hI=> ?_
  refine⟨_,rfl,?_⟩
  refine T ?_
  refine lS fun c25 w10 hI=> ?_
  refine T ?_
  obtain⟨c26,f5,hB,hl5,hk5⟩:=hI.hands (.l (.r (.r .n)))
  refine dZ h (fun _ hx5=>aL HS hx5) (ko hk5) (Rc Tryz.func104) ?_
  rintro⟨r7,s5⟩ hx5 h _ w11 ⟨a8,c27,c28,rfl,hB2⟩
  try dsimp only at h
  refine HN hk5 hB2 fun c29 hI=> ?_
  refine⟨_,rfl,?_⟩
  refine T ?_
  refine jZ (c:=fp) (xs:=([([102,108,111,111,114]:List UInt8),([99,101,105,108]:List UInt8),([122,101,114,111]:List UInt8),([101,118,101,110]:List UInt8)]:List (List UInt8))) (vs:=[(0,(str ([102,108,111,111,114]:List UInt8))),(1,(str ([99,101,105,108]:List UInt8))),(2,(str ([122,101,114,111]:List UInt8))),(3,(str ([101,118,101,110]:List UInt8)))]) (cs:=#[(str ([102,108,111,111,114]:List UInt8)),(str ([99,101,105,108]:List UInt8)),(str ([122,101,114,111]:List UInt8)),(str ([101,118,101,110]:List UInt8))]) (css:=[[(str ([102,108,111,111,114]:List UInt8))],[(str ([99,101,105,108]:List UInt8))],[(str ([122,101,114,111]:List UInt8))],[(str ([101,118,101,110]:List UInt8))]]) hI gn rfl rfl Ep nT rfl ⟨rfl,af,⟨rfl,af,⟨rfl,af,⟨rfl,af,trivial⟩⟩⟩⟩ (by kernel_rfl) ⟨rfl,⟨rfl,⟨rfl,⟨rfl,trivial⟩⟩⟩⟩ rfl rfl rfl ?_
  intro b4 c30 w12 hI
  obtain⟨c31,hI⟩:=hI.release .z
  obtain⟨c32,f6,hB,hl6,hk6⟩:=hI.hands (.l (.r (.r .n)))
  obtain⟨⟨r8,s6⟩,hx6,h⟩:=ab h
  try dsimp only at h
  refine bq gn rfl (Rc Tryz.func98) (Calls.mono (g9 HS hx6) ?_)
  rintro _ w13 ⟨a9,c33,c34,rfl,hB2⟩
  refine HN hk6 hB2 fun c35 hI=> ?_
  refine⟨_,rfl,?_⟩
  refine T ?_
  refine lS fun c36 w14 hI=> ?_
  refine nk (bJ (α:=aa×(Option Addr)×Nat) (fun _=>⟨66,[]⟩) (fun x=>[(0,vp b1 0),(2,vp b2 0),(3,vi r1.at_),(4,vp b3 0)]) (fun x=>fun w=>∃ C,Bun C0 F w0 C w [MO.box b1 67 (ae (x.1) (x.2.1) (x.2.2)),MO.box b2 35 ya,MO.box b3 35 #[vi 2,vi r4,vi r6,(vi (au (r8+1))),vi 0]] [Cl.sl ah (x.2.1) (x.2.2) (x.1).l]∧eK r4 r6 r8 r1 (x.1)=some r) ?_ ?_)
  ·clear h hI;rintro⟨r9,a10,c37⟩ w15 ⟨c38,hI,h⟩
   try dsimp only at hI h ⊢
   rw[eK]at h
   refine T ?_
   obtain⟨c39,f7,hB,hl7,hk7⟩:=hI.hands (.l (.r (.r .n)))
   refine dZ h (fun _ hx7=>aL HS hx7) (ko hk7) (Rc Tryz.func104) ?_
   rintro⟨r10,s7⟩ hx7 h _ w16 ⟨a11,c40,c41,rfl,hB2⟩
   try dsimp only at h
   refine HN hk7 hB2 fun c42 hI=> ?_
   refine⟨_,rfl,?_⟩
   refine T ?_
   refine jZ (c:=fp) (xs:=([([115,97,116]:List UInt8),([119,114,97,112]:List UInt8)]:List (List UInt8))) (vs:=[(0,(str ([115,97,116]:List UInt8))),(1,(str ([119,114,97,112]:List UInt8)))]) (cs:=#[(str ([115,97,116]:List UInt8)),(str ([119,114,97,112]:List UInt8))]) (css:=[[(str ([115,97,116]:List UInt8))],[(str ([119,114,97,112]:List UInt8))]]) hI gn rfl rfl Ep nT rfl ⟨rfl,af,⟨rfl,af,trivial⟩⟩ (by kernel_rfl) ⟨rfl,⟨rfl,trivial⟩⟩ rfl rfl rfl ?_
   intro b5 c43 w17 hI
   obtain⟨c44,hI⟩:=hI.release .z
   obtain⟨c45,f8,hB,hl8,hk8⟩:=hI.hands (.l (.r (.r .n)))
   obtain⟨⟨r11,s8⟩,hx8,h⟩:=ab h
   try dsimp only at h
   refine bq gn rfl (Rc Tryz.func98) (Calls.mono (g9 HS hx8) ?_)
   rintro _ w18 ⟨a12,c46,c47,rfl,hB2⟩
   refine HN hk8 hB2 fun c48 hI=> ?_
   refine⟨_,rfl,?_⟩
   refine T ?_
   refine lS fun c49 w19 hI=> ?_
   refine nk (bJ (α:=aa×(Option Addr)×Nat) (fun _=>⟨66,[]⟩) (fun x=>[(0,vp b1 0),(2,vp b2 0),(3,vi r1.at_),(4,vp b3 0)]) (fun x=>fun w=>∃ C,Bun C0 F w0 C w [MO.box b1 67 (ae (x.1) (x.2.1) (x.2.2)),MO.box b2 35 ya,MO.box b3 35 #[vi 2,vi r4,vi r6,(vi (au (r8+1))),(vi (au (r11+1)))]] [Cl.sl ah (x.2.1) (x.2.2) (x.1).l]∧eJ r4 r6 r8 r11 r1 (x.1)=some r) ?_ ?_)
   ·clear h hI;rintro⟨r12,a13,c50⟩ w20 ⟨c51,hI,h⟩
    try dsimp only at hI h ⊢
    rw[eJ]at h
    refine T ?_
    obtain⟨c52,f9,hB,hl9,hk9⟩:=hI.hands (.l (.r (.r .n)))
    refine dZ h (fun _ hx9=>aL HS hx9) (ko hk9) (Rc Tryz.func104) ?_
    rintro⟨r13,s9⟩ hx9 h _ w21 ⟨a14,c53,c54,rfl,hB2⟩
    try dsimp only at h
    refine HN hk9 hB2 fun c55 hI=> ?_
    refine⟨_,rfl,?_⟩
    refine nk (aj (T ?_))
    refine sB h (fun _ k=>jb hI.lt trivial k) (Rc Tryz.func202) fun r14 w22 h hI=> ?_
    refine TC (fun hb h=> ?_) fun hb h=> ?_
    ·refine T ?_
     rcases gR h with⟨r15,hx12,h⟩ | ⟨pa_,pn_,hx12,hp_⟩
     rotate_left
     ·subst hp_
      refine mP gn rfl (ax (vs:=[vp b1 0,vi r1.at_,vi 10]) rfl su ⟨et,⟨et,⟨af,trivial⟩⟩⟩) (Calls.mono (aN NE ⟨(hI.get0 .z),hI.lendBox .z,trivial⟩ hx12) ?_)
      intro e_ w_ hq_;obtain⟨rfl,hx_⟩:=el hq_;have hI_:=hI.ext hx_;exact .inr ⟨_,rfl,gO (.inr ⟨_,_,rfl,rfl,⟨_,hI_.arr .n trivial⟩⟩)⟩
     try dsimp only at h
     refine bq gn rfl (Rc Tryz.func71) (Calls.mono (aN NE ⟨(hI.get0 .z),hI.lendBox .z,trivial⟩ hx12) ?_)
     intro e_ w23 hq_;obtain⟨rfl,hx13,hl11⟩:=ej hq_
     refine⟨_,rfl,?_⟩
     replace hI:=(hI.ext hx13)
     refine T ?_
     refine lA fun c56 w24 hI=> ?_
     refine nk (aJ ?_)
     obtain rfl:=ak h
     refine QG ?_
     exact .inl ⟨_,rfl,a14,c53,_,rfl,hI.arr GO SU⟩
    refine T ?_
    refine lA fun c57 w25 hI=> ?_
    refine nk (aJ ?_)
    obtain rfl:=ak h
    refine QG ?_
    exact .inl ⟨_,rfl,a14,c53,_,rfl,hI.arr GO SU⟩
   refine TC (fun hb h=> ?_) fun hb h=> ?_
   ·refine T ?_
    obtain⟨c58,f10,hB,hl12,hk10⟩:=hI.hands (.l (.r (.r .n)))
    refine dZ h (fun _ hx14=>di HS hx14) (ko hk10) (Rc Tryz.func103) ?_
    rintro⟨r16,s10⟩ hx14 h _ w26 ⟨a15,c59,c60,rfl,hB2⟩
    try dsimp only at h
    refine HN hk10 hB2 fun c61 hI=> ?_
    refine⟨_,rfl,?_⟩
    refine aG ?_
    exact kj (s10,a15,c59)
   exact aT (br (s8,a12,c46) SB BH rfl)
  refine TC (fun hb h=> ?_) fun hb h=> ?_
  ·refine T ?_
   obtain⟨c62,f11,hB,hl13,hk11⟩:=hI.hands (.l (.r (.r .n)))
   refine dZ h (fun _ hx15=>di HS hx15) (ko hk11) (Rc Tryz.func103) ?_
   rintro⟨r17,s11⟩ hx15 h _ w27 ⟨a16,c63,c64,rfl,hB2⟩
   try dsimp only at h
   refine HN hk11 hB2 fun c65 hI=> ?_
   refine⟨_,rfl,?_⟩
   refine aG ?_
   exact kj (s11,a16,c63)
  exact aT (br (s6,a9,c33) SB BH rfl)
 refine T ?_
 refine jZ (c:=fp) (xs:=([([102,114,97,99]:List UInt8),([105,110,116]:List UInt8),([102,105,120]:List UInt8)]:List (List UInt8))) (vs:=[(0,(str ([102,114,97,99]:List UInt8))),(1,(str ([105,110,116]:List UInt8))),(2,(str ([102,105,120]:List UInt8)))]) (cs:=#[(str ([102,114,97,99]:List UInt8)),(str ([105,110,116]:List UInt8)),(str ([102,105,120]:List UInt8))]) (css:=[[(str ([102,114,97,99]:List UInt8))],[(str ([105,110,116]:List UInt8))],[(str ([102,105,120]:List UInt8))]]) hI gn rfl rfl Ep nT rfl ⟨rfl,af,⟨rfl,af,⟨rfl,af,trivial⟩⟩⟩ (by kernel_rfl) ⟨rfl,⟨rfl,⟨rfl,trivial⟩⟩⟩ rfl rfl rfl ?_
 intro b6 c66 w28 hI
 obtain⟨c67,hI⟩:=hI.release .z
 obtain⟨c68,f12,hB,hl14,hk12⟩:=hI.hands (.r (.l .n))
 obtain⟨⟨r18,s12⟩,hx16,h⟩:=ab h
 try dsimp only at h
 refine bq gn rfl (Rc Tryz.func98) (Calls.mono (g9 HS hx16) ?_)
 rintro _ w29 ⟨a17,c69,c70,rfl,hB2⟩
 refine HN hk12 hB2 fun c71 hI=> ?_
 refine⟨_,rfl,?_⟩
 refine TC (fun hb h=> ?_) fun hb h=> ?_
 ·refine sr (sq (aH (vs:=[(0,vi 1)]) (cs:=#[vi 1,vi 0,vi 0,vi 0,vi 0]) rfl ⟨rfl,af,trivial⟩ (by kernel_rfl)) ?_)
  refine lA fun c72 w30 hI=> ?_
  refine nk (aJ ?_)
  obtain rfl:=ak h
  refine QG ?_
  exact .inl ⟨_,rfl,a17,c69,_,rfl,hI.arr GO SU⟩
 refine TC (fun hb h=> ?_) fun hb h=> ?_
 ·refine sr (sq (aH (vs:=[(0,vi 3)]) (cs:=#[vi 3,vi 0,vi 0,vi 0,vi 0]) rfl ⟨rfl,af,trivial⟩ (by kernel_rfl)) ?_)
  refine lA fun c73 w31 hI=> ?_
  refine nk (aJ ?_)
  obtain rfl:=ak h
  refine QG ?_
  exact .inl ⟨_,rfl,a17,c69,_,rfl,hI.arr GO SU⟩
 refine TC (fun hb h=> ?_) fun hb h=> ?_
 ·refine T ?_
  obtain⟨c74,f13,hB,hl15,hk13⟩:=hI.hands (.l (.r .n))
  refine dZ h (fun _ hx17=>di HS hx17) (ko hk13) (Rc Tryz.func103) ?_
  rintro⟨r19,s13⟩ hx17 h _ J4 ⟨a18,c75,c76,rfl,hB2⟩
  try dsimp only at h
  refine HN hk13 hB2 fun c77 hI=> ?_
  refine⟨_,rfl,?_⟩
  refine aG ?_
  exact kj (s13,a18,c75)
 exact aT (br (s12,a17,c69) SB BH rfl)
theorem iw {r1:aa} (hI:Bun C0 F w0 C0 w0 [MO.box b1 67 (ae r1 a1 c1)] [Cl.sl ah a1 c1 r1.l]) {r:bC (ac×aa)} (h:bH r1=some r):CP C0 F w0 255 #[vp b1 0] r fun rx e w=>∃ a2 c2 a3 c3 a4 c4 a5 c5 C,e= .returned (Value.agg (an rx.1 a2 c2 a3 c3 a4 c4))∧Bun C0 F w0 C w [MO.box b1 67 (ae rx.2 a5 c5)] [Cl.sl ag a2 c2 rx.1.Lin.L,Cl.sl ai a3 c3 rx.1.Idx,Cl.sl al a4 c4 rx.1.Args,Cl.sl ah a5 c5 rx.2.l]:=by
 refine eY (l:=[vp b1 0]) Tryz.func255 rfl Tryz.ntmps255 rfl ?_
 rw[bH]at h
 refine sr (cP (cs:=#[vi 0,(str ([]:List UInt8)),vi 0,vi 0,vi 0,vi 0,vi 0,vi 0,vi 0,vi 0,vs none 0 0,vs none 0 0,vs none 0 0]) hI gn rfl rfl dN rfl ?_)
 intro b2 c6 w1 hI
 refine T ?_
 obtain⟨c7,f1,hB,hl1,hk1⟩:=hI.hands (.r (.l .n))
 refine dZ h (fun _ hx1=>mD HS hx1) (ko hk1) (Rc Tryz.func174) ?_
 rintro⟨r2,s1⟩ hx1 h _ w2 ⟨a6,c8,c9,rfl,hB2⟩
 try dsimp only at h
 refine HN hk1 hB2 fun c10 hI=> ?_
 refine⟨_,rfl,?_⟩
 refine lN fun b3 c11 w3 hI=> ?_
 refine lA fun c12 w4 hI=> ?_
 refine T ?_
 obtain⟨c13,f2,hB,hl2,hk2⟩:=hI.hands (.r (.l (.r .n)))
 refine dZ h (fun _ hx2=>aL HS hx2) (ko hk2) (Rc Tryz.func104) ?_
 rintro⟨r3,s2⟩ hx2 h _ w5 ⟨a7,c14,c15,rfl,hB2⟩
 try dsimp only at h
 refine HN hk2 hB2 fun c16 hI=> ?_
 refine⟨_,rfl,?_⟩
 refine T ?_
 refine bJ (α:=(List UInt8)×aa×(Option Addr)×Nat) (fun _=>⟨46,[]⟩) (fun x=>[(0,vp b1 0),(2,vp b2 0),(3,vp b3 0),(4,vi s2.at_),(5,(str (x.1)))]) (fun x=>fun w=>∃ C,Bun C0 F w0 C w [MO.box b1 67 (ae (x.2.1) (x.2.2.1) (x.2.2.2)),MO.box b2 39 #[vi 0,(str ([]:List UInt8)),vi 0,vi 0,vi 0,vi 0,vi 0,vi 0,vi 0,vi 0,vs none 0 0,vs none 0 0,vs none 0 0],MO.box b3 35 (dC r2)] [Cl.sl ah (x.2.2.1) (x.2.2.2) (x.2.1).l]∧cn r2 s2 (x.1) (x.2.1)=some r) ?_ ?_
 ·clear h hI;rintro⟨text1,r4,a8,c17⟩ w6 ⟨c18,hI,h⟩
  try dsimp only at hI h ⊢
  rw[cn]at h
  refine T ?_
  obtain⟨c19,f3,hB,hl3,hk3⟩:=hI.hands (.l (.r (.r .n)))
  refine dZ h (fun _ hx3=>gk HS hx3) (ko hk3) (Rc Tryz.func130) ?_
  rintro⟨r5,s3⟩ hx3 h _ w7 ⟨a9,c20,c21,rfl,hB2⟩
  try dsimp only at h
  refine HN hk3 hB2 fun c22 hI=> ?_
  refine⟨_,rfl,?_⟩
  obtain⟨s4,hx4,h⟩:=ab h
  refine sq (bm rfl et et hx4) ?_
  refine T ?_
  refine bJ (α:=(List UInt8)×aa×(Option Addr)×Nat) (fun _=>⟨46,[]⟩) (fun x=>[(0,vp b1 0),(2,vp b2 0),(3,vp b3 0),(4,vi s2.at_),(5,(str (x.1)))]) (fun x=>fun w=>∃ C,Bun C0 F w0 C w [MO.box b1 67 (ae (x.2.1) (x.2.2.1) (x.2.2.2)),MO.box b2 39 #[vi 0,(str ([]:List UInt8)),vi 0,vi 0,vi 0,vi 0,vi 0,vi 0,vi 0,vi 0,vs none 0 0,vs none 0 0,vs none 0 0],MO.box b3 35 (dC r2)] [Cl.sl ah (x.2.2.1) (x.2.2.2) (x.2.1).l]∧ck r2 s2 (x.1) (x.2.1)=some r) ?_ ?_
  ·clear h hI;rintro⟨text2,r6,a10,c23⟩ w8 ⟨c24,hI,h⟩
   try dsimp only at hI h ⊢
   rw[ck]at h
   refine T ?_
   refine sB h (fun _ k=>wV hI.lt trivial k) (Rc Tryz.func260) fun r7 w9 h hI=> ?_
   refine T ?_
   refine lN fun b4 c25 w10 hI=> ?_
   refine lA fun c26 w11 hI=> ?_
   refine T ?_
   refine bJ (α:=Unit) (fun _=>⟨46,[]⟩) (fun _=>[(0,vp b1 0),(2,vp b2 0),(3,vp b3 0),(6,vp b4 0)]) (fun _=>fun w=>∃ C,Bun C0 F w0 C w [MO.box b1 67 (ae r6 a10 c23),MO.box b2 39 #[vi 0,(str ([]:List UInt8)),vi 0,vi 0,vi 0,vi 0,vi 0,vi 0,vi 0,vi 0,vs none 0 0,vs none 0 0,vs none 0 0],MO.box b3 35 (dC r2),MO.box b4 33 (pW r7.1)] [Cl.sl ah a10 c23 r6.l]∧dm r6 r7 r2=some r) ?_ ?_
   ·clear h hI;rintro _ w12 ⟨c27,hI,h⟩
    try dsimp only at hI h ⊢
    rw[dm]at h
    refine T ?_
    obtain⟨c28,f4,hB,hl5,hk4⟩:=hI.hands (.l (.r (.r (.r .n))))
    refine dZ h (fun _ hx7=>aL HS hx7) (ko hk4) (Rc Tryz.func104) ?_
    rintro⟨r8,s5⟩ hx7 h _ w13 ⟨a11,c29,c30,rfl,hB2⟩
    try dsimp only at h
    refine HN hk4 hB2 fun c31 hI=> ?_
    refine⟨_,rfl,?_⟩
    refine T ?_
    refine sq (aH (vs:=[(0,vi 1),(3,(Value.agg (dC r2))),(2,(Value.agg (pW r7.1)))]) (cs:=#[vi 1,(str ([]:List UInt8)),vi r7.1.N,vi r7.1.D,vi r2.Kind,vi r2.Bits,vi r2.Frac,vi r2.Round,vi r2.Over,vi 0,vs none 0 0,vs none 0 0,vs none 0 0]) rfl ⟨rfl,af,⟨rfl,et,⟨rfl,et,trivial⟩⟩⟩ (by kernel_rfl)) ?_
    refine lA fun c32 w14 hI=> ?_
    refine nk (aJ ?_)
    have hI:=hI.add (c:=Cl.sl ag none 0 ([]:List aw)) SlC.nil
    have hI:=hI.add (c:=Cl.sl ai none 0 ([]:List av)) SlC.nil
    have hI:=hI.add (c:=Cl.sl al none 0 ([]:List ac)) SlC.nil
    obtain rfl:=ak h
    refine QG ?_
    exact .inl ⟨_,rfl,none,0,none,0,none,0,a11,c29,_,rfl,hI.arr GO SU⟩
   refine TC (fun hb h=> ?_) fun hb h=> ?_
   ·refine T ?_
    rcases gR h with⟨r9,hx8,h⟩ | ⟨pa_,pn_,hx8,hp_⟩
    rotate_left
    ·subst hp_
     refine mP gn rfl (ax (vs:=[vp b1 0,vi s2.at_,vi r7.2]) rfl su ⟨et,⟨et,⟨et,trivial⟩⟩⟩) (Calls.mono (aN NE ⟨(hI.get0 .z),hI.lendBox (.s .z),trivial⟩ hx8) ?_)
     intro e_ w_ hq_;obtain⟨rfl,hx_⟩:=el hq_;have hI_:=hI.ext hx_;exact .inr ⟨_,rfl,gO (.inr ⟨_,_,rfl,rfl,⟨_,hI_.arr .n trivial⟩⟩)⟩
    try dsimp only at h
    refine bq gn rfl (Rc Tryz.func71) (Calls.mono (aN NE ⟨(hI.get0 .z),hI.lendBox (.s .z),trivial⟩ hx8) ?_)
    intro e_ w15 hq_;obtain⟨rfl,hx9,hl6⟩:=ej hq_
    refine⟨_,rfl,?_⟩
    replace hI:=(hI.ext hx9)
    refine aG ?_
    exact kj ()
   exact aT (br () SB BH rfl)
  refine T ?_
  obtain⟨c33,f5,hB,hl7,hk5⟩:=hI.hands (.l (.r (.r .n)))
  obtain⟨⟨r10,s6⟩,hx10,h⟩:=ab h
  try dsimp only at h
  refine bq gn rfl (Rc Tryz.func68) (Calls.mono (aD HS hx10) ?_)
  rintro _ w16 ⟨a12,c34,c35,rfl,hB2⟩
  refine HN hk5 hB2 fun c36 hI=> ?_
  refine⟨_,rfl,?_⟩
  refine TC (fun hb h=> ?_) fun hb h=> ?_
  ·refine T ?_
   obtain⟨c37,f6,hB,hl8,hk6⟩:=hI.hands (.l (.r (.r .n)))
   refine dZ h (fun _ hx11=>gk HS hx11) (ko hk6) (Rc Tryz.func130) ?_
   rintro⟨r11,s7⟩ hx11 h _ w17 ⟨a13,c38,c39,rfl,hB2⟩
   try dsimp only at h
   refine HN hk6 hB2 fun c40 hI=> ?_
   refine⟨_,rfl,?_⟩
   obtain⟨s8,hx12,h⟩:=ab h
   refine sq (bm rfl af et hx12) ?_
   obtain⟨s9,hx13,h⟩:=ab h
   refine sq (bm rfl et et hx13) ?_
   refine sa ?_
   refine aG ?_
   exact kj (s9,s7,a13,c38)
  exact aT (br (s4,s6,a12,c34) SB BH rfl)
 refine T ?_
 obtain⟨c41,f7,hB,hl9,hk7⟩:=hI.hands (.l (.r (.r .n)))
 obtain⟨⟨r12,s10⟩,hx14,h⟩:=ab h
 try dsimp only at h
 refine bq gn rfl (Rc Tryz.func68) (Calls.mono (aD HS hx14) ?_)
 rintro _ w18 ⟨a14,c42,c43,rfl,hB2⟩
 refine HN hk7 hB2 fun c44 hI=> ?_
 refine⟨_,rfl,?_⟩
 refine TC (fun hb h=> ?_) fun hb h=> ?_
 ·refine T ?_
  refine aG ?_
  exact kj (([45]:List UInt8),s10,a14,c42)
 exact aT (br (([]:List UInt8),s10,a14,c42) SB BH rfl)
def dT:Tr:=(.c (5,.s) (.c (6,.q) (.c (7,.s) .n)))
def cN:Tr:=(.c (4,.s) dT)
abbrev yb (f_:(aa→Option (bC (ac×aa)))):Prop:=∀ ⦃C0 F:NP⦄ ⦃w0:World⦄ ⦃r1:aa⦄ ⦃b1 c1:Nat⦄ ⦃a1:Option Addr⦄ (hI:Bun C0 F w0 C0 w0 [MO.box b1 67 (ae r1 a1 c1)] [Cl.sl ah a1 c1 r1.l,ap]) ⦃r:bC (ac×aa)⦄ (h:f_ r1=some r),CP C0 F w0 34 #[vp b1 0] r fun rx e w=>∃ a2 c2 a3 c3 a4 c4 a5 c5 C,e= .returned (Value.agg (an rx.1 a2 c2 a3 c3 a4 c4))∧Bun C0 F w0 C w [MO.box b1 67 (ae rx.2 a5 c5)] [Cl.sl ag a2 c2 rx.1.Lin.L,Cl.sl ai a3 c3 rx.1.Idx,Cl.sl al a4 c4 rx.1.Args,Cl.sl ah a5 c5 rx.2.l]
theorem jP {rec_:(aa→Option (bC (ac×aa)))} (hrec:yb rec_) {r1:aa} {op1 many1:Int} (hI:Bun C0 F w0 C0 w0 [MO.box b1 67 (ae r1 a1 c1)] [Cl.sl ah a1 c1 r1.l,ap]) {r:bC (ac×aa)} (h:aX rec_ r1 op1 many1=some r):CP C0 F w0 256 #[vp b1 0,vi op1,vi many1] r fun rx e w=>∃ a2 c2 a3 c3 a4 c4 a5 c5 C,e= .returned (Value.agg (an rx.1 a2 c2 a3 c3 a4 c4))∧Bun C0 F w0 C w [MO.box b1 67 (ae rx.2 a5 c5)] [Cl.sl ag a2 c2 rx.1.Lin.L,Cl.sl ai a3 c3 rx.1.Idx,Cl.sl al a4 c4 rx.1.Args,Cl.sl ah a5 c5 rx.2.l]:=by
 refine eY (l:=[vp b1 0,vi op1,vi many1]) Tryz.func256 rfl Tryz.ntmps256 rfl ?_
 rw[aX]at h
 refine sr (cP (cs:=#[vi 0,(str ([]:List UInt8)),vi 0,vi 0,vi 0,vi 0,vi 0,vi 0,vi 0,vi 0,vs none 0 0,vs none 0 0,vs none 0 0]) hI gn rfl rfl dN rfl ?_)
 intro b2 c6 w1 hI
 refine T ?_
 refine sq (aH (vs:=[(0,vi op1)]) (cs:=#[vi op1,(str ([]:List UInt8)),vi 0,vi 0,vi 0,vi 0,vi 0,vi 0,vi 0,vi 0,vs none 0 0,vs none 0 0,vs none 0 0]) rfl ⟨rfl,et,trivial⟩ (by kernel_rfl)) ?_
 refine lN fun b3 c7 w2 hI=> ?_
 refine lA fun c8 w3 hI=> ?_
 refine T ?_
 obtain⟨c9,f1,hB,hl1,hk1⟩:=hI.hands (.r (.r (.l .n)))
 refine dZ h (fun _ hx1=>jN HS hx1) (ko hk1) (Rc Tryz.func253) ?_
 rintro⟨r2,s1⟩ hx1 h _ w4 ⟨a6,c10,c11,rfl,hB2⟩
 try dsimp only at h
 refine HN hk1 hB2 fun c12 hI=> ?_
 refine⟨_,rfl,?_⟩
 refine nk (aj (T ?_))
 have hI:=hI.nil ag 64 none
 have hI:=hI.nil ai 132 none
 have hI:=hI.nil al 39 none
 refine bh (α:=Nat×Int×aa×ac×(Option Addr)×Nat×(Option Addr)×Nat×(Option Addr)×Nat×(Option Addr)×Nat) (fun x=>fun w=>∃ C,Bun C0 F w0 C w [MO.row ag 64 (x.2.2.2.2.2.2.1) (x.2.2.2.2.2.2.2.1) (x.2.2.2.1).Lin.L,MO.row ai 132 (x.2.2.2.2.2.2.2.2.1) (x.2.2.2.2.2.2.2.2.2.1) (x.2.2.2.1).Idx,MO.row al 39 (x.2.2.2.2.2.2.2.2.2.2.1) (x.2.2.2.2.2.2.2.2.2.2.2) (x.2.2.2.1).Args,MO.box b1 67 (ae (x.2.2.1) (x.2.2.2.2.1) (x.2.2.2.2.2.1)),MO.box b2 39 #[vi 0,(str ([]:List UInt8)),vi 0,vi 0,vi 0,vi 0,vi 0,vi 0,vi 0,vi 0,vs none 0 0,vs none 0 0,vs none 0 0],MO.box b3 39 (an (x.2.2.2.1) (x.2.2.2.2.2.2.1) (x.2.2.2.2.2.2.2.1) (x.2.2.2.2.2.2.2.2.1) (x.2.2.2.2.2.2.2.2.2.1) (x.2.2.2.2.2.2.2.2.2.2.1) (x.2.2.2.2.2.2.2.2.2.2.2))] [Cl.sl ah (x.2.2.2.2.1) (x.2.2.2.2.2.1) (x.2.2.1).l,ap]∧aZ many1 rec_ (x.1) (x.2.1) (x.2.2.1) (x.2.2.2.1)=some r) (fun x _=>x.1) (fun x=>[(0,vp b1 0),(6,vp b2 0),(7,vp b3 0),(13,vi many1),(14,vi (x.2.1))]) (fu,0,s1,(⟨op1,([]:List UInt8),(⟨0,0⟩:bj),(⟨0,0,0,0,0⟩:aM),(⟨0,([]:List aw)⟩:ay),([]:List av),([]:List ac)⟩:ac),a6,c10,none,0,none,0,none,0) ⟨_,hI.arr (.c (.s (.s .z)) (.c (.s .z) (.c .z (.c .z (.c (.s .z) (.c .z .n)))))) ⟨.z,(.s (.s .z)),trivial⟩,h⟩ SB ?_
 clear h hI;rintro⟨fuel1,i1,r3,e1,a7,c13,a8,c14,a9,c15,a10,c16⟩ w5 ⟨c17,hI,h⟩
 dsimp only at hI h ⊢
 rcases fuel1 with _ | fuel1
 ·rw[aZ]at h;cases h
 rw[aZ]at h
 refine T ?_
 refine aj (xY h et (fun hb h=> ?_) (fun hb h=> ?_))
 ·refine T ?_
  refine aj (T ?_)
  refine bJ (α:=aa×(Option Addr)×Nat) (fun _=>⟨32,[]⟩) (fun x=>[(0,vp b1 0),(6,vp b2 0),(7,vp b3 0),(13,vi many1),(14,vi i1)]) (fun x=>fun w=>∃ C,Bun C0 F w0 C w [MO.box b1 67 (ae (x.1) (x.2.1) (x.2.2)),MO.box b2 39 #[vi 0,(str ([]:List UInt8)),vi 0,vi 0,vi 0,vi 0,vi 0,vi 0,vi 0,vi 0,vs none 0 0,vs none 0 0,vs none 0 0],MO.box b3 39 (an e1 a8 c14 a9 c15 a10 c16),MO.row ag 64 a8 c14 e1.Lin.L,MO.row ai 132 a9 c15 e1.Idx,MO.row al 39 a10 c16 e1.Args] [Cl.sl ah (x.2.1) (x.2.2) (x.1).l,ap]∧dr rec_ e1 (aZ many1 rec_ fuel1) i1 (x.1)=some r) ?_ ?_
  ·clear h hI;rintro⟨r4,a11,c18⟩ w6 ⟨c19,hI,h⟩
   try dsimp only at hI h ⊢
   rw[dr]at h
   rcases gR h with⟨⟨r5,s2⟩,hx2,h⟩ | ⟨pa_,pn_,hx2,hp_⟩
   rotate_left
   ·subst hp_
    refine aP [3,5,7] false (.c (0,.q) (.c (2,.q) (.two 1 (.c (3,.s) cN) 3 (.two 1 cN 4 (.c (1,.s) dT))))) hI (by kernel_rfl) (by kernel_rfl) ?_
    intro w13 hI
    refine V ?_
    refine gC ?_ ?_
    ·skip
     refine dI rfl gn rfl (aO (v:=(vs a10 e1.Args.length c16)) rfl et F6 rfl (CellsAt.of_blk (hI.blk (.s (.s .z))) rfl)) SX.self ?_
     refine gt (F:=F) (C:=c19) rfl rfl ?_
     obtain⟨c20,f2,hB,hl2,hk2⟩:=hI.hands (.l (.r (.r (.r (.r (.r .n))))))
     refine eD rfl gn rfl (ax (vs:=[vp b1 0]) rfl pZ ⟨et,trivial⟩) (Calls.mono (hrec HS hx2) ?_)
     intro e_ w_ hq_;obtain⟨rfl,C_,hB_⟩:=el hq_;obtain⟨C9_,-,hI_⟩:=hk2 _ _ _ _ hB_;exact .inr ⟨_,rfl,gO (.inr ⟨_,_,rfl,rfl,⟨_,hI_.arr .n trivial⟩⟩)⟩
    refine dx (F:=F) (C:=c19) rfl rfl ?_
    obtain⟨c20,f2,hB,hl2,hk2⟩:=hI.hands (.l (.r (.r (.r (.r (.r .n))))))
    refine eD rfl gn rfl (ax (vs:=[vp b1 0]) rfl pZ ⟨et,trivial⟩) (Calls.mono (hrec HS hx2) ?_)
    intro e_ w_ hq_;obtain⟨rfl,C_,hB_⟩:=el hq_;obtain⟨C9_,-,hI_⟩:=hk2 _ _ _ _ hB_;exact .inr ⟨_,rfl,gO (.inr ⟨_,_,rfl,rfl,⟨_,hI_.arr .n trivial⟩⟩)⟩
   try dsimp only at h
   obtain⟨zs1,hx3,h⟩:=ab h
   refine aP [3,5,7] false (.c (0,.q) (.c (2,.q) (.two 1 (.c (3,.s) cN) 3 (.two 1 cN 4 (.c (1,.s) dT))))) hI (by kernel_rfl) (by kernel_rfl) ?_
   intro w14 hI
   refine fQ (α:=(Option Addr)×Nat×(Option Addr)×Nat×(Option Addr)×Nat×(Option Addr)×Nat×Nat×NP) (T:=dT) (fun x=>[(0,vp b1 0),(6,vp b2 0),(7,vp b3 0),(13,vi many1),(14,vi i1),(21,vp b3 12),(22,vs a10 e1.Args.length c16),(23,vp b1 0),(24,(Value.agg (an r5 (x.1) (x.2.1) (x.2.2.1) (x.2.2.2.1) (x.2.2.2.2.1) (x.2.2.2.2.2.1)))),(25,(vs (some ⟨(x.2.2.2.2.2.2.2.2.1),0,none⟩) ([r5]:List ac).length 1))]) (fun x w=>Bun C0 F w0 (x.2.2.2.2.2.2.2.2.2) w [MO.row al 39 (some ⟨(x.2.2.2.2.2.2.2.2.1),0,none⟩) 1 ([r5]:List ac),MO.box b1 67 (ae s2 (x.2.2.2.2.2.2.1) (x.2.2.2.2.2.2.2.1)),MO.box b2 39 #[vi 0,(str ([]:List UInt8)),vi 0,vi 0,vi 0,vi 0,vi 0,vi 0,vi 0,vi 0,vs none 0 0,vs none 0 0,vs none 0 0],MO.box b3 39 (an e1 a8 c14 a9 c15 a10 c16),MO.row ag 64 a8 c14 e1.Lin.L,MO.row ai 132 a9 c15 e1.Idx,MO.row al 39 a10 c16 e1.Args] [Cl.sl ag (x.1) (x.2.1) r5.Lin.L,Cl.sl ai (x.2.2.1) (x.2.2.2.1) r5.Idx,Cl.sl al (x.2.2.2.2.1) (x.2.2.2.2.2.1) r5.Args,Cl.sl ah (x.2.2.2.2.2.2.1) (x.2.2.2.2.2.2.2.1) s2.l,Cl.sl ah a11 c18 r4.l,ap]) (fun x w=>SN [] (DM true F (x.2.2.2.2.2.2.2.2.2)) w) ?_ ?_
   ·clear hI;rintro⟨a12,c21,a13,c22,a14,c23,a15,c24,b4,c32⟩ w12 hI
    try dsimp only at hI ⊢
    unfold dT
    refine xN (xs:=e1.Args) (ys:=([r5]:List ac)) hI (.s (.s (.s (.s (.s (.s .z)))))) (hI.rd .z) hx3 rfl gn rfl rfl F6 km rfl rfl et et ?_
    intro a16 c28 c29 w9 hI
    refine V ?_
    refine vS fun c30 w10 hI=> ?_
    refine V ?_
    refine T ?_
    refine aG ?_
    exact kP (fuel1,au (i1+1),s2,(⟨e1.Op,e1.Name,e1.Val,e1.Type_,e1.Lin,e1.Idx,zs1⟩:ac),a15,c24,a8,c14,a9,c15,a16,c28) SB ⟨_,hI.arr GO SU,h⟩ (Nat.lt_succ_self _)
   intro hk_tr_parser_reader_call_w_3_1
   refine fQ (α:=(Option Addr)×Nat×(Option Addr)×Nat×(Option Addr)×Nat×(Option Addr)×Nat×NP) (T:=cN) (fun x=>[(0,vp b1 0),(6,vp b2 0),(7,vp b3 0),(13,vi many1),(14,vi i1),(21,vp b3 12),(22,vs a10 e1.Args.length c16),(23,vp b1 0),(24,(Value.agg (an r5 (x.1) (x.2.1) (x.2.2.1) (x.2.2.2.1) (x.2.2.2.2.1) (x.2.2.2.2.2.1))))]) (fun x w=>Bun C0 F w0 (x.2.2.2.2.2.2.2.2) w [MO.box b1 67 (ae s2 (x.2.2.2.2.2.2.1) (x.2.2.2.2.2.2.2.1)),MO.box b2 39 #[vi 0,(str ([]:List UInt8)),vi 0,vi 0,vi 0,vi 0,vi 0,vi 0,vi 0,vi 0,vs none 0 0,vs none 0 0,vs none 0 0],MO.box b3 39 (an e1 a8 c14 a9 c15 a10 c16),MO.row ag 64 a8 c14 e1.Lin.L,MO.row ai 132 a9 c15 e1.Idx,MO.row al 39 a10 c16 e1.Args] [Cl.sl ag (x.1) (x.2.1) r5.Lin.L,Cl.sl ai (x.2.2.1) (x.2.2.2.1) r5.Idx,Cl.sl al (x.2.2.2.2.1) (x.2.2.2.2.2.1) r5.Args,Cl.sl ah (x.2.2.2.2.2.2.1) (x.2.2.2.2.2.2.2.1) s2.l,Cl.sl ah a11 c18 r4.l,ap]) (fun x w=>SN [] (DM true F (x.2.2.2.2.2.2.2.2)) w) ?_ ?_
   ·clear hI;rintro⟨a12,c21,a13,c22,a14,c23,a15,c24,c31⟩ w11 hI
    try dsimp only at hI ⊢
    unfold cN
    refine vl hI al ([r5]:List ac) km (.cs (ez ⟨a12,c21,a13,c22,a14,c23,rfl,hI.get .z,hI.get (.s .z),hI.get (.s (.s .z))⟩) .nl) fun b4 c27 w8 hI=> ?_
    exact cD (hk_tr_parser_reader_call_w_3_1 (a12,c21,a13,c22,a14,c23,a15,c24,b4,c27) _ (hI.arr GO SU)) SB
   intro hk_tr_parser_reader_call_w_3_0
   refine V ?_
   refine gC ?_ ?_
   ·skip
    refine dI rfl gn rfl (aO (v:=(vs a10 e1.Args.length c16)) rfl et F6 rfl (CellsAt.of_blk (hI.blk (.s (.s .z))) rfl)) SX.self ?_
    refine gt (F:=F) (C:=c19) rfl rfl ?_
    obtain⟨c20,f2,hB,hl2,hk2⟩:=hI.hands (.l (.r (.r (.r (.r (.r .n))))))
    refine eC rfl gn rfl (ax (vs:=[vp b1 0]) rfl pZ ⟨et,trivial⟩) (Calls.mono (hrec HS hx2) ?_)
    intro e_ w7 hq_;obtain⟨a12,c21,a13,c22,a14,c23,a15,c24,c25,rfl,hB2⟩:=ej hq_
    obtain⟨c26,hs2,hI⟩:=hk2 _ _ _ _ hB2
    dsimp only[ca,na]at hI
    refine⟨_,rfl,DM true F c26,hs2,?_⟩
    exact cD (hk_tr_parser_reader_call_w_3_0 (a12,c21,a13,c22,a14,c23,a15,c24,c26) _ (hI.arr GO SU)) SB
   refine dx (F:=F) (C:=c19) rfl rfl ?_
   obtain⟨c20,f2,hB,hl2,hk2⟩:=hI.hands (.l (.r (.r (.r (.r (.r .n))))))
   refine eC rfl gn rfl (ax (vs:=[vp b1 0]) rfl pZ ⟨et,trivial⟩) (Calls.mono (hrec HS hx2) ?_)
   intro e_ w7 hq_;obtain⟨a12,c21,a13,c22,a14,c23,a15,c24,c25,rfl,hB2⟩:=ej hq_
   obtain⟨c26,hs2,hI⟩:=hk2 _ _ _ _ hB2
   dsimp only[ca,na]at hI
   refine⟨_,rfl,DM true F c26,hs2,?_⟩
   refine gC ?_ ?_
   ·skip
    refine dI rfl gn rfl (aO (v:=(vs a10 e1.Args.length c16)) rfl et F6 rfl (CellsAt.of_blk (hI.blk (.s (.s .z))) rfl)) SX.self ?_
    exact cD (hk_tr_parser_reader_call_w_3_0 (a12,c21,a13,c22,a14,c23,a15,c24,c26) _ (hI.arr GO SU)) SB
   refine vl hI al ([r5]:List ac) km (.cs (ez ⟨a12,c21,a13,c22,a14,c23,rfl,hI.get .z,hI.get (.s .z),hI.get (.s (.s .z))⟩) .nl) fun b4 c27 w8 hI=> ?_
   refine dI rfl gn rfl (aO (v:=(vs a10 e1.Args.length c16)) rfl et F6 rfl (CellsAt.of_blk (hI.blk (.s (.s (.s .z)))) rfl)) SX.self ?_
   exact cD (hk_tr_parser_reader_call_w_3_1 (a12,c21,a13,c22,a14,c23,a15,c24,b4,c27) _ (hI.arr GO SU)) SB
  refine TC (fun hb h=> ?_) fun hb h=> ?_
  ·refine T ?_
   obtain⟨c33,f3,hB,hl3,hk3⟩:=hI.hands (.r (.r (.r (.l (.r (.r .n))))))
   refine dZ h (fun _ hx4=>aL HS hx4) (ko hk3) (Rc Tryz.func104) ?_
   rintro⟨r6,s3⟩ hx4 h _ w15 ⟨a17,c34,c35,rfl,hB2⟩
   try dsimp only at h
   refine HN hk3 hB2 fun c36 hI=> ?_
   refine⟨_,rfl,?_⟩
   refine aG ?_
   exact br (s3,a17,c34) SB ⟨_,hI.arr GO SU,h⟩ rfl
  exact aT (br (r3,a7,c13) SB ⟨_,hI.arr GO SU,h⟩ rfl)
 refine bp ?_
 refine fE ?_
 refine aS ?_
 refine T ?_
 obtain⟨c37,f4,hB,hl4,hk4⟩:=hI.hands (.r (.r (.r (.l (.r (.r .n))))))
 refine dZ h (fun _ hx5=>jD HS hx5) (ko hk4) (Rc Tryz.func254) ?_
 rintro⟨r7,s4⟩ hx5 h _ w16 ⟨a18,c38,c39,rfl,hB2⟩
 try dsimp only at h
 refine HN hk4 hB2 fun c40 hI=> ?_
 refine⟨_,rfl,?_⟩
 refine T ?_
 refine lA fun c41 w17 hI=> ?_
 refine nk (aJ ?_)
 obtain⟨c42,hI⟩:=hI.release (.s .z)
 obtain⟨c43,hI⟩:=hI.release (.s .z)
 obtain⟨c44,hI⟩:=hI.release (.s .z)
 obtain rfl:=ak h
 refine QG ?_
 exact .inl ⟨_,rfl,a8,c14,a9,c15,a10,c16,a18,c38,_,rfl,hI.arr GO SU⟩
def dP:Tr:=(.c (6,.s) .n)
def dQ:Tr:=(.c (5,.s) dP)
def dR:Tr:=(.c (0,.s) (.c (4,.q) dP))
def dS:Tr:=(.c (3,.s) (.c (4,.q) dP))
def cL:Tr:=(.two 0 dS 3 dR)
def bu:Tr:=(.c (2,.s) dS)
def cM:Tr:=(.two 3 (.c (4,.q) dQ) 5 dS)
theorem pT {rec_:(aa→Option (bC (ac×aa)))} (hrec:yb rec_) {r1:aa} (hI:Bun C0 F w0 C0 w0 [MO.box b1 67 (ae r1 a1 c1)] [Cl.sl ah a1 c1 r1.l,ap]) {r:bC (ac×aa)} (h:ew rec_ r1=some r):CP C0 F w0 257 #[vp b1 0] r fun rx e w=>∃ a2 c2 a3 c3 a4 c4 a5 c5 C,e= .returned (Value.agg (an rx.1 a2 c2 a3 c3 a4 c4))∧Bun C0 F w0 C w [MO.box b1 67 (ae rx.2 a5 c5)] [Cl.sl ag a2 c2 rx.1.Lin.L,Cl.sl ai a3 c3 rx.1.Idx,Cl.sl al a4 c4 rx.1.Args,Cl.sl ah a5 c5 rx.2.l]:=by
 refine eY (l:=[vp b1 0]) Tryz.func257 rfl Tryz.ntmps257 rfl ?_
 rw[ew]at h
 refine sr (cP (cs:=#[vi 0,(str ([]:List UInt8)),vi 0,vi 0,vi 0,vi 0,vi 0,vi 0,vi 0,vi 0,vs none 0 0,vs none 0 0,vs none 0 0]) hI gn rfl rfl dN rfl ?_)
 intro b2 c6 w1 hI
 refine T ?_
 obtain⟨c7,f1,hB,hl1,hk1⟩:=hI.hands (.r (.l .n))
 refine dZ h (fun _ hx1=>jN HS hx1) (ko hk1) (Rc Tryz.func253) ?_
 rintro⟨r2,s1⟩ hx1 h _ w2 ⟨a6,c8,c9,rfl,hB2⟩
 try dsimp only at h
 refine HN hk1 hB2 fun c10 hI=> ?_
 refine⟨_,rfl,?_⟩
 refine T ?_
 obtain⟨c11,f2,hB,hl2,hk2⟩:=hI.hands (.l (.r .n))
 refine dZ h (fun _ hx2=>mD HS hx2) (ko hk2) (Rc Tryz.func174) ?_
 rintro⟨r3,s2⟩ hx2 h _ w3 ⟨a7,c12,c13,rfl,hB2⟩
 try dsimp only at h
 refine HN hk2 hB2 fun c14 hI=> ?_
 refine⟨_,rfl,?_⟩
 refine lN fun b3 c15 w4 hI=> ?_
 refine lA fun c16 w5 hI=> ?_
 refine T ?_
 obtain⟨c17,f3,hB,hl3,hk3⟩:=hI.hands (.r (.l (.r .n)))
 refine dZ h (fun _ hx3=>aL HS hx3) (ko hk3) (Rc Tryz.func104) ?_
 rintro⟨r4,s3⟩ hx3 h _ w6 ⟨a8,c18,c19,rfl,hB2⟩
 try dsimp only at h
 refine HN hk3 hB2 fun c20 hI=> ?_
 refine⟨_,rfl,?_⟩
 refine nk (aj ?_)
 rcases gR h with⟨⟨r5,s4⟩,hx4,h⟩ | ⟨pa_,pn_,hx4,hp_⟩
 rotate_left
 ·subst hp_
  refine aP [2,6] false (.c (1,.q) (.three 0 (.two 2 cM 5 bu) 2 (.three 0 cM 3 (.two 0 (.c (4,.q) dQ) 5 dR) 5 cL) 5 (.two 0 bu 2 cL))) hI (by kernel_rfl) (by kernel_rfl) ?_
  intro w18 hI
  refine fQ (α:=Nat×NP) (T:=bu) (fun x=>[(0,vp b1 0),(2,vp b2 0),(3,vp b3 0),(4,(Value.pointer (some ⟨(x.1),0,none⟩))),(5,vp b1 0),(6,(Value.tuple #[])),(7,vp b1 0),(8,(Value.agg (dC r3))),(9,vp b1 0),(10,(Value.tuple #[])),(11,(Value.agg (dC r3))),(12,vp b1 0)]) (fun x w=>Bun C0 F w0 (x.2) w [MO.box (x.1) 39 #[vi 0,(str ([]:List UInt8)),vi 0,vi 0,vi 0,vi 0,vi 0,vi 0,vi 0,vi 0,vs none 0 0,vs none 0 0,vs none 0 0],MO.box b1 67 (ae s3 a8 c18),MO.box b3 35 (dC r3),MO.box b2 39 #[vi 0,(str ([]:List UInt8)),vi 0,vi 0,vi 0,vi 0,vi 0,vi 0,vi 0,vi 0,vs none 0 0,vs none 0 0,vs none 0 0]] [Cl.sl ah a8 c18 s3.l,Cl.sl ah a7 c12 s2.l,Cl.sl ah a6 c8 s1.l,Cl.sl ah a1 c1 r1.l,ap]) (fun x w=>SN [2,6] (DM false F (x.2)) w) ?_ ?_
  ·clear hI;rintro⟨b5,c32⟩ w12 hI
   try dsimp only at hI ⊢
   unfold bu
   refine gt (F:=F) (C:=c32) rfl rfl ?_
   obtain⟨c21,f4,hB,hl4,hk4⟩:=hI.hands (.r (.l (.r (.r .n))))
   refine eD rfl gn rfl (ax (vs:=[vp b1 0]) rfl pZ ⟨et,trivial⟩) (Calls.mono (hrec HS hx4) ?_)
   intro e_ w_ hq_;obtain⟨rfl,C_,hB_⟩:=el hq_;obtain⟨C9_,-,hI_⟩:=hk4 _ _ _ _ hB_;exact .inr ⟨_,rfl,gO (.inr ⟨_,_,rfl,rfl,⟨_,hI_.arr .n trivial⟩⟩)⟩
  intro hk_tr_parser_reader_cast_w_1_1
  refine V ?_
  refine th ?_ ?_ ?_
  ·skip
   refine dI rfl gn rfl (am (l:=(cH r3)) rfl et qc rfl cO (CellsAt.of_blk (hI.blk (.s .z)) rfl)) SX.self ?_
   refine gC ?_ ?_
   ·skip
    refine dx (F:=F) (C:=c20) rfl rfl ?_
    obtain⟨c21,f4,hB,hl4,hk4⟩:=hI.hands (.l (.r (.r .n)))
    refine eD rfl gn rfl (ax (vs:=[vp b1 0]) rfl pZ ⟨et,trivial⟩) (Calls.mono (hrec HS hx4) ?_)
    intro e_ w_ hq_;obtain⟨rfl,C_,hB_⟩:=el hq_;obtain⟨C9_,-,hI_⟩:=hk4 _ _ _ _ hB_;exact .inr ⟨_,rfl,gO (.inr ⟨_,_,rfl,rfl,⟨_,hI_.arr .n trivial⟩⟩)⟩
   refine ir (cs:=#[vi 0,(str ([]:List UInt8)),vi 0,vi 0,vi 0,vi 0,vi 0,vi 0,vi 0,vi 0,vs none 0 0,vs none 0 0,vs none 0 0]) hI rfl gn rfl rfl dN rfl ?_
   intro b5 c29 w9 hI
   exact cD (hk_tr_parser_reader_cast_w_1_1 (b5,c29) _ (hI.arr GO SU)) SB
  ·skip
   refine dx (F:=F) (C:=c20) rfl rfl ?_
   obtain⟨c21,f4,hB,hl4,hk4⟩:=hI.hands (.l (.r (.r .n)))
   refine eD rfl gn rfl (ax (vs:=[vp b1 0]) rfl pZ ⟨et,trivial⟩) (Calls.mono (hrec HS hx4) ?_)
   intro e_ w_ hq_;obtain⟨rfl,C_,hB_⟩:=el hq_;obtain⟨C9_,-,hI_⟩:=hk4 _ _ _ _ hB_;exact .inr ⟨_,rfl,gO (.inr ⟨_,_,rfl,rfl,⟨_,hI_.arr .n trivial⟩⟩)⟩
  refine ir (cs:=#[vi 0,(str ([]:List UInt8)),vi 0,vi 0,vi 0,vi 0,vi 0,vi 0,vi 0,vi 0,vs none 0 0,vs none 0 0,vs none 0 0]) hI rfl gn rfl rfl dN rfl ?_
  intro b5 c29 w9 hI
  refine gC ?_ ?_
  ·skip
   refine dI rfl gn rfl (am (l:=(cH r3)) rfl et qc rfl cO (CellsAt.of_blk (hI.blk (.s (.s .z))) rfl)) SX.self ?_
   exact cD (hk_tr_parser_reader_cast_w_1_1 (b5,c29) _ (hI.arr GO SU)) SB
  refine dx (F:=F) (C:=c29) rfl rfl ?_
  obtain⟨c21,f4,hB,hl4,hk4⟩:=hI.hands (.r (.l (.r (.r .n))))
  refine eD rfl gn rfl (ax (vs:=[vp b1 0]) rfl pZ ⟨et,trivial⟩) (Calls.mono (hrec HS hx4) ?_)
  intro e_ w_ hq_;obtain⟨rfl,C_,hB_⟩:=el hq_;obtain⟨C9_,-,hI_⟩:=hk4 _ _ _ _ hB_;exact .inr ⟨_,rfl,gO (.inr ⟨_,_,rfl,rfl,⟨_,hI_.arr .n trivial⟩⟩)⟩
 try dsimp only at h
 refine aP [2,6] false (.c (1,.q) (.three 0 (.two 2 cM 5 bu) 2 (.three 0 cM 3 (.two 0 (.c (4,.q) dQ) 5 dR) 5 cL) 5 (.two 0 bu 2 cL))) hI (by kernel_rfl) (by kernel_rfl) ?_
 intro w19 hI
 refine fQ (α:=(Option Addr)×Nat×(Option Addr)×Nat×(Option Addr)×Nat×(Option Addr)×Nat×Nat×Nat×NP) (T:=dP) (fun x=>[(0,vp b1 0),(2,vp b2 0),(3,vp b3 0),(4,(Value.pointer (some ⟨(x.2.2.2.2.2.2.2.2.2.1),0,none⟩))),(5,vp b1 0),(6,(Value.tuple #[])),(7,vp b1 0),(8,(Value.agg (dC r3))),(9,vp b1 0),(10,(Value.tuple #[])),(11,(Value.agg (dC r3))),(12,vp b1 0),(13,(Value.agg (an r5 (x.1) (x.2.1) (x.2.2.1) (x.2.2.2.1) (x.2.2.2.2.1) (x.2.2.2.2.2.1)))),(14,(vs (some ⟨(x.2.2.2.2.2.2.2.2.1),0,none⟩) ([r5]:List ac).length 1)),(15,(Value.agg #[vi 12,(str ([]:List UInt8)),vi 0,vi 0,vi r3.Kind,vi r3.Bits,vi r3.Frac,vi r3.Round,vi r3.Over,vi 0,vs none 0 0,vs none 0 0,(vs (some ⟨(x.2.2.2.2.2.2.2.2.1),0,none⟩) ([r5]:List ac).length 1)]))]) (fun x w=>Bun C0 F w0 (x.2.2.2.2.2.2.2.2.2.2) w [MO.row al 39 (some ⟨(x.2.2.2.2.2.2.2.2.1),0,none⟩) 1 ([r5]:List ac),MO.box (x.2.2.2.2.2.2.2.2.2.1) 39 #[vi 0,(str ([]:List UInt8)),vi 0,vi 0,vi 0,vi 0,vi 0,vi 0,vi 0,vi 0,vs none 0 0,vs none 0 0,vs none 0 0],MO.box b1 67 (ae s4 (x.2.2.2.2.2.2.1) (x.2.2.2.2.2.2.2.1)),MO.box b3 35 (dC r3),MO.box b2 39 #[vi 0,(str ([]:List UInt8)),vi 0,vi 0,vi 0,vi 0,vi 0,vi 0,vi 0,vi 0,vs none 0 0,vs none 0 0,vs none 0 0]] [Cl.sl ag (x.1) (x.2.1) r5.Lin.L,Cl.sl ai (x.2.2.1) (x.2.2.2.1) r5.Idx,Cl.sl al (x.2.2.2.2.1) (x.2.2.2.2.2.1) r5.Args,Cl.sl ah (x.2.2.2.2.2.2.1) (x.2.2.2.2.2.2.2.1) s4.l,Cl.sl ah a8 c18 s3.l,Cl.sl ah a7 c12 s2.l,Cl.sl ah a6 c8 s1.l,Cl.sl ah a1 c1 r1.l,ap]) (fun x w=>SN [] (DM true F (x.2.2.2.2.2.2.2.2.2.2)) w) ?_ ?_
 ·clear hI;rintro⟨a9,c22,a10,c23,a11,c24,a12,c25,b4,b5,c37⟩ w17 hI
  try dsimp only at hI ⊢
  unfold dP
  refine vA fun c30 w10 hI=> ?_
  refine V ?_
  refine T ?_
  obtain⟨c38,f5,hB,hl5,hk5⟩:=hI.hands (.r (.r (.l (.r (.r .n)))))
  refine dZ h (fun _ hx5=>jD HS hx5) (ko hk5) (Rc Tryz.func254) ?_
  rintro⟨r6,s5⟩ hx5 h _ w20 ⟨a13,c39,c40,rfl,hB2⟩
  try dsimp only at h
  refine HN hk5 hB2 fun c41 hI=> ?_
  refine⟨_,rfl,?_⟩
  refine T ?_
  refine lA fun c42 w21 hI=> ?_
  refine nk (aJ ?_)
  obtain⟨c43,hI⟩:=hI.release (.s .z)
  have hI:=hI.add (c:=Cl.sl ag none 0 ([]:List aw)) SlC.nil
  have hI:=hI.add (c:=Cl.sl ai none 0 ([]:List av)) SlC.nil
  obtain rfl:=ak h
  refine QG ?_
  exact .inl ⟨_,rfl,none,0,none,0,some ⟨b4,0,none⟩,1,a13,c39,_,rfl,hI.arr GO SU⟩
 intro hk_tr_parser_reader_cast_w_1_6
 refine fQ (α:=(Option Addr)×Nat×(Option Addr)×Nat×(Option Addr)×Nat×(Option Addr)×Nat×Nat×NP) (T:=dQ) (fun x=>[(0,vp b1 0),(2,vp b2 0),(3,vp b3 0),(5,vp b1 0),(6,(Value.tuple #[])),(7,vp b1 0),(8,(Value.agg (dC r3))),(9,vp b1 0),(10,(Value.tuple #[])),(11,(Value.agg (dC r3))),(12,vp b1 0),(13,(Value.agg (an r5 (x.1) (x.2.1) (x.2.2.1) (x.2.2.2.1) (x.2.2.2.2.1) (x.2.2.2.2.2.1)))),(14,(vs (some ⟨(x.2.2.2.2.2.2.2.2.1),0,none⟩) ([r5]:List ac).length 1)),(15,(Value.agg #[vi 12,(str ([]:List UInt8)),vi 0,vi 0,vi r3.Kind,vi r3.Bits,vi r3.Frac,vi r3.Round,vi r3.Over,vi 0,vs none 0 0,vs none 0 0,(vs (some ⟨(x.2.2.2.2.2.2.2.2.1),0,none⟩) ([r5]:List ac).length 1)]))]) (fun x w=>Bun C0 F w0 (x.2.2.2.2.2.2.2.2.2) w [MO.row al 39 (some ⟨(x.2.2.2.2.2.2.2.2.1),0,none⟩) 1 ([r5]:List ac),MO.box b1 67 (ae s4 (x.2.2.2.2.2.2.1) (x.2.2.2.2.2.2.2.1)),MO.box b3 35 (dC r3),MO.box b2 39 #[vi 0,(str ([]:List UInt8)),vi 0,vi 0,vi 0,vi 0,vi 0,vi 0,vi 0,vi 0,vs none 0 0,vs none 0 0,vs none 0 0]] [Cl.sl ag (x.1) (x.2.1) r5.Lin.L,Cl.sl ai (x.2.2.1) (x.2.2.2.1) r5.Idx,Cl.sl al (x.2.2.2.2.1) (x.2.2.2.2.2.1) r5.Args,Cl.sl ah (x.2.2.2.2.2.2.1) (x.2.2.2.2.2.2.2.1) s4.l,Cl.sl ah a8 c18 s3.l,Cl.sl ah a7 c12 s2.l,Cl.sl ah a6 c8 s1.l,Cl.sl ah a1 c1 r1.l,ap]) (fun x w=>SN [] (DM true F (x.2.2.2.2.2.2.2.2.2)) w) ?_ ?_
 ·clear hI;rintro⟨a9,c22,a10,c23,a11,c24,a12,c25,b4,c36⟩ w16 hI
  try dsimp only at hI ⊢
  unfold dQ
  refine ir (cs:=#[vi 0,(str ([]:List UInt8)),vi 0,vi 0,vi 0,vi 0,vi 0,vi 0,vi 0,vi 0,vs none 0 0,vs none 0 0,vs none 0 0]) hI rfl gn rfl rfl dN rfl ?_
  intro b5 c29 w9 hI
  exact cD (hk_tr_parser_reader_cast_w_1_6 (a9,c22,a10,c23,a11,c24,a12,c25,b4,b5,c29) _ (hI.arr GO SU)) SB
 intro hk_tr_parser_reader_cast_w_1_5
 refine fQ (α:=(Option Addr)×Nat×(Option Addr)×Nat×(Option Addr)×Nat×(Option Addr)×Nat×Nat×Nat×NP) (T:=dR) (fun x=>[(0,vp b1 0),(2,vp b2 0),(3,vp b3 0),(4,(Value.pointer (some ⟨(x.2.2.2.2.2.2.2.2.2.1),0,none⟩))),(5,vp b1 0),(6,(Value.tuple #[])),(7,vp b1 0),(8,(Value.agg (dC r3))),(9,vp b1 0),(10,(Value.tuple #[])),(12,vp b1 0),(13,(Value.agg (an r5 (x.1) (x.2.1) (x.2.2.1) (x.2.2.2.1) (x.2.2.2.2.1) (x.2.2.2.2.2.1)))),(14,(vs (some ⟨(x.2.2.2.2.2.2.2.2.1),0,none⟩) ([r5]:List ac).length 1))]) (fun x w=>Bun C0 F w0 (x.2.2.2.2.2.2.2.2.2.2) w [MO.box (x.2.2.2.2.2.2.2.2.2.1) 39 #[vi 0,(str ([]:List UInt8)),vi 0,vi 0,vi 0,vi 0,vi 0,vi 0,vi 0,vi 0,vs none 0 0,vs none 0 0,vs none 0 0],MO.row al 39 (some ⟨(x.2.2.2.2.2.2.2.2.1),0,none⟩) 1 ([r5]:List ac),MO.box b1 67 (ae s4 (x.2.2.2.2.2.2.1) (x.2.2.2.2.2.2.2.1)),MO.box b3 35 (dC r3),MO.box b2 39 #[vi 0,(str ([]:List UInt8)),vi 0,vi 0,vi 0,vi 0,vi 0,vi 0,vi 0,vi 0,vs none 0 0,vs none 0 0,vs none 0 0]] [Cl.sl ag (x.1) (x.2.1) r5.Lin.L,Cl.sl ai (x.2.2.1) (x.2.2.2.1) r5.Idx,Cl.sl al (x.2.2.2.2.1) (x.2.2.2.2.2.1) r5.Args,Cl.sl ah (x.2.2.2.2.2.2.1) (x.2.2.2.2.2.2.2.1) s4.l,Cl.sl ah a8 c18 s3.l,Cl.sl ah a7 c12 s2.l,Cl.sl ah a6 c8 s1.l,Cl.sl ah a1 c1 r1.l,ap]) (fun x w=>SN [] (DM true F (x.2.2.2.2.2.2.2.2.2.2)) w) ?_ ?_
 ·clear hI;rintro⟨a9,c22,a10,c23,a11,c24,a12,c25,b4,b5,c35⟩ w15 hI
  try dsimp only at hI ⊢
  unfold dR
  refine dI rfl gn rfl (am (l:=(cH r3)) rfl et qc rfl cO (CellsAt.of_blk (hI.blk (.s (.s (.s .z)))) rfl)) SX.self ?_
  refine iy rfl gn rfl (fun w'=>(aH (vs:=[(0,vi 12),(3,(Value.agg (dC r3))),(6,vs (some ⟨b4,0,none⟩) ([r5]:List ac).length 1)]) (cs:=#[vi 12,(str ([]:List UInt8)),vi 0,vi 0,vi r3.Kind,vi r3.Bits,vi r3.Frac,vi r3.Round,vi r3.Over,vi 0,vs none 0 0,vs none 0 0,vs (some ⟨b4,0,none⟩) ([r5]:List ac).length 1]) rfl ⟨rfl,af,⟨rfl,et,⟨rfl,et,trivial⟩⟩⟩ (by kernel_rfl))) ?_
  exact cD (hk_tr_parser_reader_cast_w_1_6 (a9,c22,a10,c23,a11,c24,a12,c25,b4,b5,c35) _ (hI.arr GO SU)) SB
 intro hk_tr_parser_reader_cast_w_1_4
 refine fQ (α:=(Option Addr)×Nat×(Option Addr)×Nat×(Option Addr)×Nat×(Option Addr)×Nat×Nat×NP) (T:=dS) (fun x=>[(0,vp b1 0),(2,vp b2 0),(3,vp b3 0),(4,(Value.pointer (some ⟨(x.2.2.2.2.2.2.2.2.1),0,none⟩))),(5,vp b1 0),(6,(Value.tuple #[])),(7,vp b1 0),(8,(Value.agg (dC r3))),(9,vp b1 0),(10,(Value.tuple #[])),(11,(Value.agg (dC r3))),(12,vp b1 0),(13,(Value.agg (an r5 (x.1) (x.2.1) (x.2.2.1) (x.2.2.2.1) (x.2.2.2.2.1) (x.2.2.2.2.2.1))))]) (fun x w=>Bun C0 F w0 (x.2.2.2.2.2.2.2.2.2) w [MO.box (x.2.2.2.2.2.2.2.2.1) 39 #[vi 0,(str ([]:List UInt8)),vi 0,vi 0,vi 0,vi 0,vi 0,vi 0,vi 0,vi 0,vs none 0 0,vs none 0 0,vs none 0 0],MO.box b1 67 (ae s4 (x.2.2.2.2.2.2.1) (x.2.2.2.2.2.2.2.1)),MO.box b3 35 (dC r3),MO.box b2 39 #[vi 0,(str ([]:List UInt8)),vi 0,vi 0,vi 0,vi 0,vi 0,vi 0,vi 0,vi 0,vs none 0 0,vs none 0 0,vs none 0 0]] [Cl.sl ag (x.1) (x.2.1) r5.Lin.L,Cl.sl ai (x.2.2.1) (x.2.2.2.1) r5.Idx,Cl.sl al (x.2.2.2.2.1) (x.2.2.2.2.2.1) r5.Args,Cl.sl ah (x.2.2.2.2.2.2.1) (x.2.2.2.2.2.2.2.1) s4.l,Cl.sl ah a8 c18 s3.l,Cl.sl ah a7 c12 s2.l,Cl.sl ah a6 c8 s1.l,Cl.sl ah a1 c1 r1.l,ap]) (fun x w=>SN [] (DM true F (x.2.2.2.2.2.2.2.2.2)) w) ?_ ?_
 ·clear hI;rintro⟨a9,c22,a10,c23,a11,c24,a12,c25,b5,c34⟩ w14 hI
  try dsimp only at hI ⊢
  unfold dS
  refine vl hI al ([r5]:List ac) km (.cs (ez ⟨a9,c22,a10,c23,a11,c24,rfl,hI.get .z,hI.get (.s .z),hI.get (.s (.s .z))⟩) .nl) fun b4 c28 w8 hI=> ?_
  refine iy rfl gn rfl (fun w'=>(aH (vs:=[(0,vi 12),(3,(Value.agg (dC r3))),(6,vs (some ⟨b4,0,none⟩) ([r5]:List ac).length 1)]) (cs:=#[vi 12,(str ([]:List UInt8)),vi 0,vi 0,vi r3.Kind,vi r3.Bits,vi r3.Frac,vi r3.Round,vi r3.Over,vi 0,vs none 0 0,vs none 0 0,vs (some ⟨b4,0,none⟩) ([r5]:List ac).length 1]) rfl ⟨rfl,af,⟨rfl,et,⟨rfl,et,trivial⟩⟩⟩ (by kernel_rfl))) ?_
  exact cD (hk_tr_parser_reader_cast_w_1_6 (a9,c22,a10,c23,a11,c24,a12,c25,b4,b5,c28) _ (hI.arr GO SU)) SB
 intro hk_tr_parser_reader_cast_w_1_3
 refine fQ (α:=(Option Addr)×Nat×(Option Addr)×Nat×(Option Addr)×Nat×(Option Addr)×Nat×Nat×NP) (T:=cL) (fun x=>[(0,vp b1 0),(2,vp b2 0),(3,vp b3 0),(4,(Value.pointer (some ⟨(x.2.2.2.2.2.2.2.2.1),0,none⟩))),(5,vp b1 0),(6,(Value.tuple #[])),(7,vp b1 0),(8,(Value.agg (dC r3))),(9,vp b1 0),(10,(Value.tuple #[])),(12,vp b1 0),(13,(Value.agg (an r5 (x.1) (x.2.1) (x.2.2.1) (x.2.2.2.1) (x.2.2.2.2.1) (x.2.2.2.2.2.1))))]) (fun x w=>Bun C0 F w0 (x.2.2.2.2.2.2.2.2.2) w [MO.box (x.2.2.2.2.2.2.2.2.1) 39 #[vi 0,(str ([]:List UInt8)),vi 0,vi 0,vi 0,vi 0,vi 0,vi 0,vi 0,vi 0,vs none 0 0,vs none 0 0,vs none 0 0],MO.box b1 67 (ae s4 (x.2.2.2.2.2.2.1) (x.2.2.2.2.2.2.2.1)),MO.box b3 35 (dC r3),MO.box b2 39 #[vi 0,(str ([]:List UInt8)),vi 0,vi 0,vi 0,vi 0,vi 0,vi 0,vi 0,vi 0,vs none 0 0,vs none 0 0,vs none 0 0]] [Cl.sl ag (x.1) (x.2.1) r5.Lin.L,Cl.sl ai (x.2.2.1) (x.2.2.2.1) r5.Idx,Cl.sl al (x.2.2.2.2.1) (x.2.2.2.2.2.1) r5.Args,Cl.sl ah (x.2.2.2.2.2.2.1) (x.2.2.2.2.2.2.2.1) s4.l,Cl.sl ah a8 c18 s3.l,Cl.sl ah a7 c12 s2.l,Cl.sl ah a6 c8 s1.l,Cl.sl ah a1 c1 r1.l,ap]) (fun x w=>SN [] (DM true F (x.2.2.2.2.2.2.2.2.2)) w) ?_ ?_
 ·clear hI;rintro⟨a9,c22,a10,c23,a11,c24,a12,c25,b5,c33⟩ w13 hI
  try dsimp only at hI ⊢
  unfold cL
  refine gC ?_ ?_
  ·skip
   refine dI rfl gn rfl (am (l:=(cH r3)) rfl et qc rfl cO (CellsAt.of_blk (hI.blk (.s (.s .z))) rfl)) SX.self ?_
   exact cD (hk_tr_parser_reader_cast_w_1_3 (a9,c22,a10,c23,a11,c24,a12,c25,b5,c33) _ (hI.arr GO SU)) SB
  refine vl hI al ([r5]:List ac) km (.cs (ez ⟨a9,c22,a10,c23,a11,c24,rfl,hI.get .z,hI.get (.s .z),hI.get (.s (.s .z))⟩) .nl) fun b4 c28 w8 hI=> ?_
  exact cD (hk_tr_parser_reader_cast_w_1_4 (a9,c22,a10,c23,a11,c24,a12,c25,b4,b5,c28) _ (hI.arr GO SU)) SB
 intro hk_tr_parser_reader_cast_w_1_2
 refine fQ (α:=Nat×NP) (T:=bu) (fun x=>[(0,vp b1 0),(2,vp b2 0),(3,vp b3 0),(4,(Value.pointer (some ⟨(x.1),0,none⟩))),(5,vp b1 0),(6,(Value.tuple #[])),(7,vp b1 0),(8,(Value.agg (dC r3))),(9,vp b1 0),(10,(Value.tuple #[])),(11,(Value.agg (dC r3))),(12,vp b1 0)]) (fun x w=>Bun C0 F w0 (x.2) w [MO.box (x.1) 39 #[vi 0,(str ([]:List UInt8)),vi 0,vi 0,vi 0,vi 0,vi 0,vi 0,vi 0,vi 0,vs none 0 0,vs none 0 0,vs none 0 0],MO.box b1 67 (ae s3 a8 c18),MO.box b3 35 (dC r3),MO.box b2 39 #[vi 0,(str ([]:List UInt8)),vi 0,vi 0,vi 0,vi 0,vi 0,vi 0,vi 0,vi 0,vs none 0 0,vs none 0 0,vs none 0 0]] [Cl.sl ah a8 c18 s3.l,Cl.sl ah a7 c12 s2.l,Cl.sl ah a6 c8 s1.l,Cl.sl ah a1 c1 r1.l,ap]) (fun x w=>SN [2,6] (DM false F (x.2)) w) ?_ ?_
 ·clear hI;rintro⟨b5,c32⟩ w12 hI
  try dsimp only at hI ⊢
  unfold bu
  refine gt (F:=F) (C:=c32) rfl rfl ?_
  obtain⟨c21,f4,hB,hl4,hk4⟩:=hI.hands (.r (.l (.r (.r .n))))
  refine eC rfl gn rfl (ax (vs:=[vp b1 0]) rfl pZ ⟨et,trivial⟩) (Calls.mono (hrec HS hx4) ?_)
  intro e_ w7 hq_;obtain⟨a9,c22,a10,c23,a11,c24,a12,c25,c26,rfl,hB2⟩:=ej hq_
  obtain⟨c27,hs4,hI⟩:=hk4 _ _ _ _ hB2
  dsimp only[ca,na]at hI
  refine⟨_,rfl,DM true F c27,hs4,?_⟩
  exact cD (hk_tr_parser_reader_cast_w_1_3 (a9,c22,a10,c23,a11,c24,a12,c25,b5,c27) _ (hI.arr GO SU)) SB
 intro hk_tr_parser_reader_cast_w_1_1
 refine fQ (α:=(Option Addr)×Nat×(Option Addr)×Nat×(Option Addr)×Nat×(Option Addr)×Nat×NP) (T:=cM) (fun x=>[(0,vp b1 0),(2,vp b2 0),(3,vp b3 0),(5,vp b1 0),(6,(Value.tuple #[])),(7,vp b1 0),(8,(Value.agg (dC r3))),(9,vp b1 0),(10,(Value.tuple #[])),(11,(Value.agg (dC r3))),(12,vp b1 0),(13,(Value.agg (an r5 (x.1) (x.2.1) (x.2.2.1) (x.2.2.2.1) (x.2.2.2.2.1) (x.2.2.2.2.2.1))))]) (fun x w=>Bun C0 F w0 (x.2.2.2.2.2.2.2.2) w [MO.box b1 67 (ae s4 (x.2.2.2.2.2.2.1) (x.2.2.2.2.2.2.2.1)),MO.box b3 35 (dC r3),MO.box b2 39 #[vi 0,(str ([]:List UInt8)),vi 0,vi 0,vi 0,vi 0,vi 0,vi 0,vi 0,vi 0,vs none 0 0,vs none 0 0,vs none 0 0]] [Cl.sl ag (x.1) (x.2.1) r5.Lin.L,Cl.sl ai (x.2.2.1) (x.2.2.2.1) r5.Idx,Cl.sl al (x.2.2.2.2.1) (x.2.2.2.2.2.1) r5.Args,Cl.sl ah (x.2.2.2.2.2.2.1) (x.2.2.2.2.2.2.2.1) s4.l,Cl.sl ah a8 c18 s3.l,Cl.sl ah a7 c12 s2.l,Cl.sl ah a6 c8 s1.l,Cl.sl ah a1 c1 r1.l,ap]) (fun x w=>SN [] (DM true F (x.2.2.2.2.2.2.2.2)) w) ?_ ?_
 ·clear hI;rintro⟨a9,c22,a10,c23,a11,c24,a12,c25,c31⟩ w11 hI
  try dsimp only at hI ⊢
  unfold cM
  refine gC ?_ ?_
  ·skip
   refine vl hI al ([r5]:List ac) km (.cs (ez ⟨a9,c22,a10,c23,a11,c24,rfl,hI.get .z,hI.get (.s .z),hI.get (.s (.s .z))⟩) .nl) fun b4 c28 w8 hI=> ?_
   refine iy rfl gn rfl (fun w'=>(aH (vs:=[(0,vi 12),(3,(Value.agg (dC r3))),(6,vs (some ⟨b4,0,none⟩) ([r5]:List ac).length 1)]) (cs:=#[vi 12,(str ([]:List UInt8)),vi 0,vi 0,vi r3.Kind,vi r3.Bits,vi r3.Frac,vi r3.Round,vi r3.Over,vi 0,vs none 0 0,vs none 0 0,vs (some ⟨b4,0,none⟩) ([r5]:List ac).length 1]) rfl ⟨rfl,af,⟨rfl,et,⟨rfl,et,trivial⟩⟩⟩ (by kernel_rfl))) ?_
   exact cD (hk_tr_parser_reader_cast_w_1_5 (a9,c22,a10,c23,a11,c24,a12,c25,b4,c28) _ (hI.arr GO SU)) SB
  refine ir (cs:=#[vi 0,(str ([]:List UInt8)),vi 0,vi 0,vi 0,vi 0,vi 0,vi 0,vi 0,vi 0,vs none 0 0,vs none 0 0,vs none 0 0]) hI rfl gn rfl rfl dN rfl ?_
  intro b5 c29 w9 hI
  exact cD (hk_tr_parser_reader_cast_w_1_3 (a9,c22,a10,c23,a11,c24,a12,c25,b5,c29) _ (hI.arr GO SU)) SB
 intro hk_tr_parser_reader_cast_w_1_0
 refine V ?_
 refine th ?_ ?_ ?_
 ·skip
  refine dI rfl gn rfl (am (l:=(cH r3)) rfl et qc rfl cO (CellsAt.of_blk (hI.blk (.s .z)) rfl)) SX.self ?_
  refine gC ?_ ?_
  ·skip
   refine dx (F:=F) (C:=c20) rfl rfl ?_
   obtain⟨c21,f4,hB,hl4,hk4⟩:=hI.hands (.l (.r (.r .n)))
   refine eC rfl gn rfl (ax (vs:=[vp b1 0]) rfl pZ ⟨et,trivial⟩) (Calls.mono (hrec HS hx4) ?_)
   intro e_ w7 hq_;obtain⟨a9,c22,a10,c23,a11,c24,a12,c25,c26,rfl,hB2⟩:=ej hq_
   obtain⟨c27,hs4,hI⟩:=hk4 _ _ _ _ hB2
   dsimp only[ca,na]at hI
   refine⟨_,rfl,DM true F c27,hs4,?_⟩
   exact cD (hk_tr_parser_reader_cast_w_1_0 (a9,c22,a10,c23,a11,c24,a12,c25,c27) _ (hI.arr GO SU)) SB
  refine ir (cs:=#[vi 0,(str ([]:List UInt8)),vi 0,vi 0,vi 0,vi 0,vi 0,vi 0,vi 0,vi 0,vs none 0 0,vs none 0 0,vs none 0 0]) hI rfl gn rfl rfl dN rfl ?_
  intro b5 c29 w9 hI
  exact cD (hk_tr_parser_reader_cast_w_1_1 (b5,c29) _ (hI.arr GO SU)) SB
 ·skip
  refine dx (F:=F) (C:=c20) rfl rfl ?_
  obtain⟨c21,f4,hB,hl4,hk4⟩:=hI.hands (.l (.r (.r .n)))
  refine eC rfl gn rfl (ax (vs:=[vp b1 0]) rfl pZ ⟨et,trivial⟩) (Calls.mono (hrec HS hx4) ?_)
  intro e_ w7 hq_;obtain⟨a9,c22,a10,c23,a11,c24,a12,c25,c26,rfl,hB2⟩:=ej hq_
  obtain⟨c27,hs4,hI⟩:=hk4 _ _ _ _ hB2
  dsimp only[ca,na]at hI
  refine⟨_,rfl,DM true F c27,hs4,?_⟩
  refine th ?_ ?_ ?_
  ·skip
   refine dI rfl gn rfl (am (l:=(cH r3)) rfl et qc rfl cO (CellsAt.of_blk (hI.blk (.s .z)) rfl)) SX.self ?_
   exact cD (hk_tr_parser_reader_cast_w_1_0 (a9,c22,a10,c23,a11,c24,a12,c25,c27) _ (hI.arr GO SU)) SB
  ·skip
   refine vl hI al ([r5]:List ac) km (.cs (ez ⟨a9,c22,a10,c23,a11,c24,rfl,hI.get .z,hI.get (.s .z),hI.get (.s (.s .z))⟩) .nl) fun b4 c28 w8 hI=> ?_
   refine gC ?_ ?_
   ·skip
    refine dI rfl gn rfl (am (l:=(cH r3)) rfl et qc rfl cO (CellsAt.of_blk (hI.blk (.s (.s .z))) rfl)) SX.self ?_
    refine iy rfl gn rfl (fun w'=>(aH (vs:=[(0,vi 12),(3,(Value.agg (dC r3))),(6,vs (some ⟨b4,0,none⟩) ([r5]:List ac).length 1)]) (cs:=#[vi 12,(str ([]:List UInt8)),vi 0,vi 0,vi r3.Kind,vi r3.Bits,vi r3.Frac,vi r3.Round,vi r3.Over,vi 0,vs none 0 0,vs none 0 0,vs (some ⟨b4,0,none⟩) ([r5]:List ac).length 1]) rfl ⟨rfl,af,⟨rfl,et,⟨rfl,et,trivial⟩⟩⟩ (by kernel_rfl))) ?_
    exact cD (hk_tr_parser_reader_cast_w_1_5 (a9,c22,a10,c23,a11,c24,a12,c25,b4,c28) _ (hI.arr GO SU)) SB
   refine ir (cs:=#[vi 0,(str ([]:List UInt8)),vi 0,vi 0,vi 0,vi 0,vi 0,vi 0,vi 0,vi 0,vs none 0 0,vs none 0 0,vs none 0 0]) hI rfl gn rfl rfl dN rfl ?_
   intro b5 c29 w9 hI
   exact cD (hk_tr_parser_reader_cast_w_1_4 (a9,c22,a10,c23,a11,c24,a12,c25,b4,b5,c29) _ (hI.arr GO SU)) SB
  refine ir (cs:=#[vi 0,(str ([]:List UInt8)),vi 0,vi 0,vi 0,vi 0,vi 0,vi 0,vi 0,vi 0,vs none 0 0,vs none 0 0,vs none 0 0]) hI rfl gn rfl rfl dN rfl ?_
  intro b5 c29 w9 hI
  exact cD (hk_tr_parser_reader_cast_w_1_2 (a9,c22,a10,c23,a11,c24,a12,c25,b5,c29) _ (hI.arr GO SU)) SB
 refine ir (cs:=#[vi 0,(str ([]:List UInt8)),vi 0,vi 0,vi 0,vi 0,vi 0,vi 0,vi 0,vi 0,vs none 0 0,vs none 0 0,vs none 0 0]) hI rfl gn rfl rfl dN rfl ?_
 intro b5 c29 w9 hI
 refine gC ?_ ?_
 ·skip
  refine dI rfl gn rfl (am (l:=(cH r3)) rfl et qc rfl cO (CellsAt.of_blk (hI.blk (.s (.s .z))) rfl)) SX.self ?_
  exact cD (hk_tr_parser_reader_cast_w_1_1 (b5,c29) _ (hI.arr GO SU)) SB
 refine dx (F:=F) (C:=c29) rfl rfl ?_
 obtain⟨c21,f4,hB,hl4,hk4⟩:=hI.hands (.r (.l (.r (.r .n))))
 refine eC rfl gn rfl (ax (vs:=[vp b1 0]) rfl pZ ⟨et,trivial⟩) (Calls.mono (hrec HS hx4) ?_)
 intro e_ w7 hq_;obtain⟨a9,c22,a10,c23,a11,c24,a12,c25,c26,rfl,hB2⟩:=ej hq_
 obtain⟨c27,hs4,hI⟩:=hk4 _ _ _ _ hB2
 dsimp only[ca,na]at hI
 refine⟨_,rfl,DM true F c27,hs4,?_⟩
 exact cD (hk_tr_parser_reader_cast_w_1_2 (a9,c22,a10,c23,a11,c24,a12,c25,b5,c27) _ (hI.arr GO SU)) SB
theorem pl {r1:aa} (hI:Bun C0 F w0 C0 w0 [MO.box b1 67 (ae r1 a1 c1)] [Cl.sl ah a1 c1 r1.l,ap]) {r:bC (List ay×aa)} (h:fb r1=some r):CP C0 F w0 175 #[vp b1 0] r fun rx e w=>∃ a2 c2 a3 c3 C,e= .returned (vs a2 rx.1.length c2)∧Bun C0 F w0 C w [MO.box b1 67 (ae rx.2 a3 c3)] [Cl.sl ga a2 c2 rx.1,Cl.sl ah a3 c3 rx.2.l]:=by
 refine eY (l:=[vp b1 0]) Tryz.func175 rfl Tryz.ntmps175 rfl ?_
 rw[fb]at h
 refine T ?_
 refine aj (T ?_)
 obtain⟨c4,f1,hB,hl1,hk1⟩:=hI.hands (.l .n)
 obtain⟨⟨r2,s1⟩,hx1,h⟩:=ab h
 try dsimp only at h
 refine bq gn rfl (Rc Tryz.func68) (Calls.mono (aD HS hx1) ?_)
 rintro _ w1 ⟨a4,c5,c6,rfl,hB2⟩
 refine HN hk1 hB2 fun c7 hI=> ?_
 refine⟨_,rfl,?_⟩
 refine TC (fun hb h=> ?_) fun hb h=> ?_
 ·refine T ?_
  refine aJ ?_
  have hI:=hI.add (c:=Cl.sl ga none 0 ([]:List ay)) SlC.nil
  obtain rfl:=ak h
  refine QG ?_
  exact .inl ⟨_,rfl,none,0,a4,c5,_,rfl,hI.arr GO SU⟩
 refine T ?_
 obtain⟨c8,f2,hB,hl2,hk2⟩:=hI.hands (.l .n)
 refine dZ h (fun _ hx2=>fF HS hx2) (ko hk2) (Rc Tryz.func31) ?_
 rintro⟨r3,s2⟩ hx2 h _ w2 ⟨a5,c9,a6,c10,c11,rfl,hB2⟩
 try dsimp only at h
 refine HN hk2 hB2 fun c12 hI=> ?_
 refine⟨_,rfl,?_⟩
 refine ll hI ga ([r3]:List ay) yM (.cs ⟨a5,c9,rfl,hI.get .z⟩ .nl) fun b2 c13 w3 hI=> ?_
 refine T ?_
 refine aj (T ?_)
 refine bh (α:=Nat×(List ay)×aa×(Option Addr)×Nat×(Option Addr)×Nat) (fun x=>fun w=>∃ C,Bun C0 F w0 C w [MO.row ga 27 (x.2.2.2.1) (x.2.2.2.2.1) (x.2.1),MO.box b1 67 (ae (x.2.2.1) (x.2.2.2.2.2.1) (x.2.2.2.2.2.2))] [Cl.sl ah (x.2.2.2.2.2.1) (x.2.2.2.2.2.2) (x.2.2.1).l,ap]∧bF (x.1) (x.2.1) (x.2.2.1)=some r) (fun x _=>x.1) (fun x=>[(0,vp b1 0),(3,vs (x.2.2.2.1) (x.2.1).length (x.2.2.2.2.1))]) (fu,([r3]:List ay),s2,some ⟨b2,0,none⟩,1,a6,c10) BH SB ?_
 clear h hI;rintro⟨fuel1,mz,r4,a7,c14,a8,c15⟩ w4 ⟨c16,hI,h⟩
 dsimp only at hI h ⊢
 rcases fuel1 with _ | fuel1
 ·rw[bF]at h;cases h
 rw[bF]at h
 refine aj (T ?_)
 obtain⟨c17,f3,hB,hl3,hk3⟩:=hI.hands (.r (.l .n))
 obtain⟨⟨r5,s3⟩,hx3,h⟩:=ab h
 try dsimp only at h
 refine bq gn rfl (Rc Tryz.func68) (Calls.mono (aD HS hx3) ?_)
 rintro _ w5 ⟨a9,c18,c19,rfl,hB2⟩
 refine HN hk3 hB2 fun c20 hI=> ?_
 refine⟨_,rfl,?_⟩
 refine TC (fun hb h=> ?_) fun hb h=> ?_
 ·have hk4:=hb
  refine T ?_
  obtain⟨c21,f4,hB,hl4,hk5⟩:=hI.hands (.l (.r .n))
  refine dZ h (fun _ hx4=>fF HS hx4) (ko hk5) (Rc Tryz.func31) ?_
  rintro⟨r6,s4⟩ hx4 h _ w6 ⟨a10,c22,a11,c23,c24,rfl,hB2⟩
  try dsimp only at h
  refine HN hk5 hB2 fun c25 hI=> ?_
  refine⟨_,rfl,?_⟩
  refine ll hI ga ([r6]:List ay) yM (.cs ⟨a10,c22,rfl,hI.get .z⟩ .nl) fun b3 c26 w7 hI=> ?_
  obtain⟨zs1,hx5,h⟩:=ab h
  refine qq (xs:=mz) (ys:=([r6]:List ay)) hI (.s (.s .z)) (hI.rd .z) hx5 gn rfl rfl A7 yM rfl rfl et et ?_
  intro a12 c27 c28 w8 hI
  refine sa ?_
  refine aG ?_
  exact kl (fuel1,zs1,s4,a12,c27,a11,c23)
 refine bp ?_
 refine fE ?_
 refine aS ?_
 refine T ?_
 obtain⟨c29,f5,hB,hl5,hk6⟩:=hI.hands (.l (.r .n))
 refine dZ h (fun _ hx6=>aL HS hx6) (ko hk6) (Rc Tryz.func104) ?_
 rintro⟨r7,s5⟩ hx6 h _ w9 ⟨a13,c30,c31,rfl,hB2⟩
 try dsimp only at h
 refine HN hk6 hB2 fun c32 hI=> ?_
 refine⟨_,rfl,?_⟩
 refine T ?_
 refine aJ ?_
 obtain⟨c33,hI⟩:=hI.release (.s .z)
 obtain rfl:=ak h
 refine QG ?_
 exact .inl ⟨_,rfl,a7,c14,a13,c30,_,rfl,hI.arr GO SU⟩
end Go.Proofs.YtmhoikfoogemnaaGreatDoor
