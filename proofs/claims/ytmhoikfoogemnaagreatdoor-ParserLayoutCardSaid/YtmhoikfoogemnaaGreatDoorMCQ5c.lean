import Derived.Test.YtmhoikfoogemnaaGreatDoorMCQ5b
import Derived.Test.YtmhoikfoogemnaaGreatDoorMLfW
namespace Go.Proofs.YtmhoikfoogemnaaGreatDoor
open Go Go.RowKit Go.Vc
set_option maxRecDepth 100000
set_option maxHeartbeats 4000000
set_option linter.unusedVariables false
set_option linter.unusedSimpArgs false
theorem xw (F:NP) (w0:World) (hF:∀ k,F k→k<w0.heap.size) (e1:GExpr) (a1:Option Addr) (c1:Nat) (a2:Option Addr) (c2:Nat) (a3:Option Addr) (c3:Nat) (hc:AllCl [Cl.sl aj a1 c1 e1.Lin.L,Cl.sl ak a2 c2 e1.Idx,Cl.sl au a3 c3 e1.Args] F w0) (r:Bool)
  (h:lZ e1=some r):
  Calls Tryz.prog 147 #[(Value.agg (am e1 a1 c1 a2 c2 a3 c3))] w0 fun e w=>e= .returned (vb r)∧Ext w0 w∧AllCl [] F w:=by
 refine aL Tryz.func147 rfl Tryz.ntmps147 rfl ?_
 have hI:=Bun.start hF hc
 clear hc
 rw[lZ]at h
 refine sr (fU (v:=(Value.agg (am e1 a1 c1 a2 c2 a3 c3))) (cs:=(am e1 a1 c1 a2 c2 a3 c3)) hI gn rfl rfl et rfl ?_)
 clear hI;intro b1 c4 w1 hI
 obtain⟨c5,hI⟩:=hI.relBox .z
 refine T ?_
 refine aB (T ?_)
 refine bZ (bE rfl rfl rfl rfl) rfl (fun hc=>(aJ (l:=(gz e1.Type_)) rfl (bg et hc) tj rfl d4 (hI.kblk (l:=(gz e1.Type_)) .z rfl).1)) ?_
 obtain⟨r1,hx1,h⟩:=af h
 replace hx1:=aP hx1
 refine dx (v:=(vi r1)) (bE rfl rfl rfl rfl) rfl (fun hc=>(ag (vs:=[(Value.agg (cv e1.Type_))]) rfl wQ ⟨(bg et hc),trivial⟩)) (fun hc=>(jk (Dj F c5) w1 hI.lt e1.Type_ trivial r1 (hx1 hc)).mono fun _ _ k=>⟨k.1,k.2.1⟩) ?_
 intro w2 hx2;replace hI:=hI.ext hx2
 refine T ?_
 refine bc h et (fun hb h=> ?_) (fun hb h=> ?_)
 ·refine T ?_
  refine al ?_
  obtain rfl:=ac h
  exact QF hI
 refine T ?_
 refine aB (T ?_)
 refine cO (α:=Nat×Int) (fun x=>fun w=>∃ C,Bun d5 F w0 C w [] [Cl.blk b1 39 (am e1 a1 c1 a2 c2 a3 c3),Cl.sl aj a1 c1 e1.Lin.L,Cl.sl ak a2 c2 e1.Idx,Cl.sl au a3 c3 e1.Args]∧fg e1 (x.1) (x.2)=some r) (fun x _=>x.1) (fun x=>[(1,vp b1 0),(20,vs a3 e1.Args.length c3),(21,vi (e1.Args.length:Int)),(22,vi (x.2))]) (fu,0) ⟨_,hI.arr .n ⟨.z,(.s .z),(.s (.s .z)),(.s (.s (.s .z))),trivial⟩,h⟩ SB ?_
 clear h hI;rintro⟨fuel1,i1⟩ w3 ⟨c6,hI,h⟩
 dsimp only at hI h
 rcases fuel1 with _ | fuel1
 ·rw[fg]at h;cases h
 rw[fg]at h
 refine bz (e:=[(1,vp b1 0),(20,vs a3 e1.Args.length c3),(21,vi (e1.Args.length:Int)),(22,vi i1)]) SB ?_
 refine T ?_
 refine aB (bc h et (fun hb h=> ?_) (fun hb h=> ?_))
 ·refine T ?_
  refine aB (T ?_)
  obtain⟨e2,hx3,h⟩:=af h
  obtain⟨ad1,cs1,hA1,hr1,hq1⟩:=hI.clat (.s (.s (.s .z))) hx3
  obtain⟨a4,c7,a5,c8,a6,c9,rfl,hf1,hf2,hf3⟩:=lE hr1
  have hI:=hI.add (c:=Cl.sl aj a4 c7 e2.Lin.L) hf1
  have hI:=hI.add (c:=Cl.sl ak a5 c8 e2.Idx) hf2
  have hI:=hI.add (c:=Cl.sl au a6 c9 e2.Args) hf3
  refine sI ?_
  refine T ?_
  refine aN (cs:=#[vi 0,(aC ([]:List UInt8)),vi 0,vi 0,vi 0,vi 0,vi 0,vi 0,vi 0,vi 0,vs none 0 0,vs none 0 0,vs none 0 0]) hI gn rfl rfl bA rfl ?_
  clear hI;intro b2 c10 w4 hI
  refine sa ?_
  refine ay (new:=(aQ e2 a4 c7 a5 c8 a6 c9)) (cs':=(am e2 a4 c7 a5 c8 a6 c9)) hI .z gn rfl rfl et et rfl aF rfl rfl rfl ?_
  clear hI;intro c11 w5 hI
  refine nk (aB (bx [] false (.c (0,.q) (.c (2,.q) (.c (3,.q) (.c (4,.q) (.c (1,.s) (.c (5,.s) (.c (6,.q) .n))))))) hI (by kernel_rfl) (by kernel_rfl) ?_))
  clear hI;intro w6 hI
  refine me rfl gn rfl (fun w' hw'=>(aJ (l:=(aQ e2 a4 c7 a5 c8 a6 c9)) rfl et nq rfl aF ((CA.blk (hI.blk .z) rfl).at_ (SX.any rfl hw')))) (by kernel_rfl) ?_
  refine V ?_
  obtain⟨r2,hx4,h⟩:=af h
  refine l8 rfl gn rfl (ag (vs:=[(Value.agg (am e2 a4 c7 a5 c8 a6 c9))]) rfl Gg ⟨et,trivial⟩) (Calls.mono (qZ (Dj F c11) w6 hI.lt e2 a4 c7 a5 c8 a6 c9 ⟨(hI.get (.s (.s .z))),(hI.get (.s .z)),(hI.get .z),trivial⟩ r2 hx4) ?_)
  rintro _ w7 ⟨rfl,hx5,hl2⟩
  refine⟨_,rfl,hx5,?_⟩
  replace hI:=(hI.ext hx5)
  obtain⟨r3,hx6,h⟩:=af h
  refine l8 rfl gn rfl (ag (vs:=[vi e1.Op,vi i1]) rfl Gf ⟨et,⟨et,trivial⟩⟩) (Calls.mono (ox (Dj F c11) w7 hI.lt e1.Op i1 trivial r3 hx6) ?_)
  rintro _ w8 ⟨rfl,hx7,hl3⟩
  refine⟨_,rfl,hx7,?_⟩
  replace hI:=(hI.ext hx7)
  refine pt rfl gn rfl (fun w'=>EK rfl u4 et et) ?_
  refine V ?_
  refine bc h et (fun hb h=> ?_) (fun hb h=> ?_)
  ·refine T ?_
   refine al ?_
   obtain rfl:=ac h
   exact QF hI
  refine T ?_
  refine bl ?_
  exact cg (fuel1,az (i1+1)) SB ⟨_,hI.arr GO SU,h⟩ (Nat.lt_succ_self _)
 refine dv ?_
 refine kb ?_
 refine cA ?_
 refine T ?_
 refine al ?_
 obtain rfl:=ac h
 exact QF hI
theorem vz (F:NP) (w0:World) (hF:∀ k,F k→k<w0.heap.size) (n1:Int) (hc:AllCl [] F w0) (r:Bool)
  (h:mB n1=some r):
  Calls Tryz.prog 206 #[vi n1] w0 fun e w=>e= .returned (vb r)∧Ext w0 w∧AllCl [] F w:=by
 refine aL Tryz.func206 rfl Tryz.ntmps206 rfl ?_
 have hI:=Bun.start hF hc
 clear hc
 rw[mB]at h
 refine T ?_
 refine al ?_
 obtain rfl:=ac h
 exact QF hI
theorem vC (F:NP) (w0:World) (hF:∀ k,F k→k<w0.heap.size) (t1:GType) (v1:GVal) (hc:AllCl [] F w0) (r:Bool)
  (h:lk t1 v1=some r):
  Calls Tryz.prog 148 #[(Value.agg (cv t1)),(Value.agg (oM v1))] w0 fun e w=>e= .returned (vb r)∧Ext w0 w∧AllCl [] F w:=by
 refine aL Tryz.func148 rfl Tryz.ntmps148 rfl ?_
 have hI:=Bun.start hF hc
 clear hc
 rw[lk]at h
 refine sr (fU (v:=(Value.agg (cv t1))) (cs:=(cv t1)) hI gn rfl rfl et rfl ?_)
 clear hI;intro b1 c1 w1 hI
 obtain⟨c2,hI⟩:=hI.relBox .z
 refine fU (v:=(Value.agg (oM v1))) (cs:=(oM v1)) hI gn rfl rfl et rfl ?_
 clear hI;intro b2 c3 w2 hI
 obtain⟨c4,hI⟩:=hI.relBox .z
 refine T ?_
 refine aB (sr (sq (aJ (l:=(gz t1)) rfl et tj rfl d4 (hI.kblk (l:=(gz t1)) (.s .z) rfl).1) ?_))
 obtain⟨r1,hx1,h⟩:=af h
 refine aE gn rfl (ag (vs:=[(Value.agg (cv t1))]) rfl wQ ⟨et,trivial⟩) (Calls.mono (jk (Dj F c4) w2 hI.lt t1 trivial r1 hx1) ?_)
 rintro _ w3 ⟨rfl,hx2,hl1⟩
 refine⟨_,rfl,?_⟩
 replace hI:=(hI.ext hx2)
 refine T ?_
 refine bc h et (fun hb h=> ?_) (fun hb h=> ?_)
 ·refine T ?_
  refine al ?_
  obtain rfl:=ac h
  exact QF hI
 refine T ?_
 refine aB (T ?_)
 refine bc h et (fun hb h=> ?_) (fun hb h=> ?_)
 ·refine sr (sq (aJ (l:=(gz t1)) rfl et tj rfl d4 (hI.kblk (l:=(gz t1)) (.s .z) rfl).1) ?_)
  refine sq (aJ (l:=(qn v1)) rfl et G0 rfl fH (hI.kblk (l:=(qn v1)) .z rfl).1) ?_
  obtain⟨r2,hx3,h⟩:=af h
  refine aE gn rfl (ag (vs:=[(Value.agg (cv t1)),(Value.agg (oM v1))]) rfl CO ⟨et,⟨et,trivial⟩⟩) (Calls.mono (qD (Dj F c4) w3 hI.lt t1 v1 trivial r2 hx3) ?_)
  rintro _ w4 ⟨rfl,hx4,hl2⟩
  refine⟨_,rfl,?_⟩
  replace hI:=(hI.ext hx4)
  refine T ?_
  refine al ?_
  obtain rfl:=ac h
  exact QF hI
 refine T ?_
 refine bc h et (fun hb h=> ?_) (fun hb h=> ?_)
 ·refine T ?_
  obtain⟨r3,hx5,h⟩:=af h
  replace hx5:=aP hx5
  refine dx (v:=(vb r3)) (bE rfl rfl rfl rfl) rfl (fun hc=>(ag (vs:=[vi v1.N]) rfl Ge ⟨(bg et hc),trivial⟩)) (fun hc=>(vz (Dj F c4) w3 hI.lt v1.N trivial r3 (hx5 hc)).mono fun _ _ k=>⟨k.1,k.2.1⟩) ?_
  intro w5 hx6;replace hI:=hI.ext hx6
  refine T ?_
  refine al ?_
  obtain rfl:=ac h
  exact QF hI
 refine T ?_
 refine sq (aJ (l:=(qn v1)) rfl et G0 rfl fH (hI.kblk (l:=(qn v1)) .z rfl).1) ?_
 obtain⟨r4,hx7,h⟩:=af h
 refine aE gn rfl (ag (vs:=[(Value.agg (oM v1))]) rfl CN ⟨et,trivial⟩) (Calls.mono (rK (Dj F c4) w3 hI.lt v1 trivial r4 hx7) ?_)
 rintro _ w6 ⟨rfl,hx8,hl4⟩
 refine⟨_,rfl,?_⟩
 replace hI:=(hI.ext hx8)
 refine T ?_
 refine al ?_
 obtain rfl:=ac h
 exact QF hI
theorem xy (F:NP) (w0:World) (hF:∀ k,F k→k<w0.heap.size) (e1:GExpr) (a1:Option Addr) (c1:Nat) (a2:Option Addr) (c2:Nat) (a3:Option Addr) (c3:Nat) (hc:AllCl [Cl.sl aj a1 c1 e1.Lin.L,Cl.sl ak a2 c2 e1.Idx,Cl.sl au a3 c3 e1.Args] F w0) (r:GExpr)
  (h:l5 e1=some r):
  Calls Tryz.prog 149 #[(Value.agg (am e1 a1 c1 a2 c2 a3 c3))] w0 fun e w=>∃ (b1:Nat) (a4:Option Addr) (c4:Nat) (a5:Option Addr) (c5:Nat) (a6:Option Addr) (c6:Nat),e= .returned (Value.func (.func 208) #[] #[vp b1 0])∧Ext w0 w∧AllCl [Cl.sl aj a4 c4 r.Lin.L,Cl.sl ak a5 c5 r.Idx,Cl.sl au a6 c6 r.Args,Cl.blk b1 39 (am r a4 c4 a5 c5 a6 c6)] F w:=by
 refine aL Tryz.func149 rfl Tryz.ntmps149 rfl ?_
 have hI:=Bun.start hF hc
 clear hc
 rw[l5]at h
 refine sr (fU (v:=(Value.agg (am e1 a1 c1 a2 c2 a3 c3))) (cs:=(am e1 a1 c1 a2 c2 a3 c3)) hI gn rfl rfl et rfl ?_)
 clear hI;intro b2 c7 w1 hI
 obtain⟨c8,hI⟩:=hI.relBox .z
 refine T ?_
 refine sq (mm (vs:=[]) (cap:=[vp b2 0]) rfl rfl ⟨et,trivial⟩) ?_
 refine T ?_
 refine al ?_
 obtain rfl:=ac h
 refine QG ?_
 exact⟨b2,a1,c1,a2,c2,a3,c3,rfl,hI.ext0,hI.fin ⟨(.s .z),(.s (.s .z)),(.s (.s (.s .z))),.z,trivial⟩⟩
theorem sE {σ:Type} (I:StI σ) (C0 F:NP) (w0:World) (yield1:(GLin→σ→Option (Bool×σ))) (a1:GExpr) (s1:σ) (fv1:Value) (b1:Nat) (a2:Option Addr) (c1:Nat) (a3:Option Addr) (c2:Nat) (a4:Option Addr) (c3:Nat) (hI:Bun C0 F w0 C0 w0 [MO.st I s1] [mU I fv1 yield1,Cl.sl aj a2 c1 a1.Lin.L,Cl.sl ak a3 c2 a1.Idx,Cl.sl au a4 c3 a1.Args,Cl.blk b1 39 (am a1 a2 c1 a3 c2 a4 c3)]) (r:Unit×σ)
  (h:jK yield1 a1 s1=some r):
  Calls Tryz.prog 208 #[fv1,vp b1 0] w0 fun e w=>∃ (C:NP),e= .returned (Value.tuple #[])∧Bun C0 F w0 C w [MO.st I r.2] []:=by
 refine aL Tryz.func208 rfl Tryz.ntmps208 rfl ?_
 rw[jK]at h
 refine aB (sr (sm ?_))
 refine sq (dH rfl et nq rfl aW rfl) ?_
 refine sq (aJ (l:=(gx a1.Lin a2 c1)) rfl et rZ rfl aW (hI.kblk (l:=(gx a1.Lin a2 c1)) (.s (.s (.s (.s .z)))) rfl).1) ?_
 obtain⟨⟨r1,s2⟩,hx1,h⟩:=af h
 try dsimp only at h
 obtain⟨c4,f1,hB,hl1,hk1⟩:=hI.hands (.l .n)
 refine rh (args:=[(Value.agg (bI a1.Lin a2 c1))]) gn rfl rfl et ⟨et,trivial⟩ (CallV.mono ((hI.get .z).2 c4 f1 w0 (Sp.less hl1) a1.Lin a2 c1 s1 _ (hB.subs ⟨(.s .z),trivial⟩) hx1) ?_)
 rintro _ w1 ⟨c5,rfl,hB2⟩
 obtain⟨c6,hs1,hI⟩:=hk1 _ _ _ _ hB2
 replace hI:Bun C0 F w0 c6 w1 [MO.st I s2] [mU I fv1 yield1,Cl.sl aj a2 c1 a1.Lin.L,Cl.sl ak a3 c2 a1.Idx,Cl.sl au a4 c3 a1.Args,Cl.blk b1 39 (am a1 a2 c1 a3 c2 a4 c3)]:=hI
 refine⟨_,rfl,?_⟩
 refine sq (vZ rfl et) ?_
 refine nk (bc h et (fun hb h=> ?_) (fun hb h=> ?_))
 ·refine al ?_
  obtain rfl:=ac h
  exact jt (vs:=[]) Tryz.results208 trivial ⟨_,rfl,hI.arr (.c .z .n) trivial⟩
 refine cc (cA (sr (sq (dH rfl et nq rfl wH rfl) ?_)))
 refine sq (eG (v:=(vs a3 a1.Idx.length c2)) rfl et B3 rfl (hI.kblk (l:=[vs a3 a1.Idx.length c2]) (.s (.s (.s (.s .z)))) rfl).1) ?_
 refine sq (rV rfl B3 et) ?_
 refine sq (kz rfl ai) ?_
 refine nk (rO (cO (α:=Nat×Int×σ) (fun x=>fun w=>∃ C,Bun C0 F w0 C w [MO.st I (x.2.2)] [mU I fv1 yield1,Cl.sl ak a3 c2 a1.Idx]∧bp a1 yield1 (x.1) (x.2.1) (x.2.2)=some r) (fun x _=>x.1) (fun x=>[(0,fv1),(13,vs a3 a1.Idx.length c2),(14,vi (a1.Idx.length:Int)),(15,vi (x.2.1))]) (fu,0,s2) ⟨_,hI.arr (.c .z .n) ⟨.z,(.s (.s .z)),trivial⟩,h⟩ ⟨rfl,rfl,rfl,rfl,trivial⟩ ?_))
 clear h hI;rintro⟨fuel1,i1,s3⟩ w2 ⟨c7,hI,h⟩
 dsimp only at hI h
 rcases fuel1 with _ | fuel1
 ·rw[bp]at h;cases h
 rw[bp]at h
 refine bz (e:=[(0,fv1),(13,vs a3 a1.Idx.length c2),(14,vi (a1.Idx.length:Int)),(15,vi i1)]) ⟨rfl,rfl,rfl,rfl,trivial⟩ ?_
 refine sr (sq (sP rfl et et) ?_)
 refine nk (aB (bc h et (fun hb h=> ?_) (fun hb h=> ?_)))
 ·refine cc (cA (du (α:=σ) (fun _=>⟨37,[]⟩) (fun x=>[(0,fv1),(13,vs a3 a1.Idx.length c2),(14,vi (a1.Idx.length:Int)),(15,vi i1)]) (fun x=>fun w=>∃ C,Bun C0 F w0 C w [MO.st I x] [mU I fv1 yield1,Cl.sl ak a3 c2 a1.Idx]∧jx (bp a1 yield1 fuel1) i1 x=some r) ?_ ?_))
  ·clear h hI;rintro s4 w3 ⟨c8,hI,h⟩
   try dsimp only at hI h
   rw[jx]at h
   refine bz (e:=[(0,fv1),(13,vs a3 a1.Idx.length c2),(14,vi (a1.Idx.length:Int)),(15,vi i1)]) ⟨rfl,rfl,rfl,rfl,trivial⟩ ?_
   refine mW rfl ?_
   refine sq (qq rfl et ai) ?_
   refine sm ?_
   refine bl ?_
   exact cg (fuel1,az (i1+1),s4) ⟨rfl,rfl,rfl,rfl,trivial⟩ ⟨_,hI.arr (.c .z .n) ⟨.z,(.s .z),trivial⟩,h⟩ (Nat.lt_succ_self _)
  refine rO (sr ?_)
  obtain⟨e1,hx2,h⟩:=af h
  obtain⟨ad1,cs1,hA1,hr1,hq1⟩:=hI.clat (.s .z) hx2
  obtain⟨a5,c9,a6,c10,rfl,hf1,hf2⟩:=hr1
  have hI:=hI.add (c:=Cl.sl aj a5 c9 e1.Lin.L) hf1
  have hI:=hI.add (c:=Cl.sl ju a6 c10 e1.At) hf2
  refine sq (pA rfl B3 lM et et (uJ hx2) hA1) ?_
  refine sq (aJ (l:=(o4 e1 a5 c9 a6 c10)) rfl et A9 rfl lM hq1.1) ?_
  refine aN (cs:=#[vi 0,vs none 0 0,(aC ([]:List UInt8)),vs none 0 0]) hI gn rfl rfl tZ rfl ?_
  clear hI;intro b2 c11 w4 hI
  refine ay (new:=(o4 e1 a5 c9 a6 c10)) (cs':=(eF e1 a5 c9 a6 c10)) hI .z gn rfl rfl et et rfl lM rfl rfl rfl ?_
  clear hI;intro c12 w5 hI
  refine nk (aB (sr (sm ?_)))
  refine sq (dH rfl et A9 rfl aW rfl) ?_
  refine sq (aJ (l:=(gx e1.Lin a5 c9)) rfl et rZ rfl aW (CellsAt.of_blk (hI.blk .z) rfl)) ?_
  obtain⟨⟨r2,s5⟩,hx3,h⟩:=af h
  try dsimp only at h
  obtain⟨c13,f2,hB,hl2,hk2⟩:=hI.hands (.r (.l .n))
  refine rh (args:=[(Value.agg (bI e1.Lin a5 c9))]) gn rfl rfl et ⟨et,trivial⟩ (CallV.mono ((hI.get (.s (.s .z))).2 c13 f2 w5 (Sp.less hl2) e1.Lin a5 c9 s3 _ (hB.subs ⟨(.s .z),trivial⟩) hx3) ?_)
  rintro _ w6 ⟨c14,rfl,hB2⟩
  obtain⟨c15,hs2,hI⟩:=hk2 _ _ _ _ hB2
  replace hI:Bun C0 F w0 c15 w6 [MO.st I s5,MO.box b2 132 (eF e1 a5 c9 a6 c10)] [Cl.sl ju a6 c10 e1.At,Cl.sl aj a5 c9 e1.Lin.L,mU I fv1 yield1,Cl.sl ak a3 c2 a1.Idx]:=hI
  refine⟨_,rfl,?_⟩
  refine sq (vZ rfl et) ?_
  refine nk (bc h et (fun hb h=> ?_) (fun hb h=> ?_))
  ·refine al ?_
   obtain rfl:=ac h
   exact jt (vs:=[]) Tryz.results208 trivial ⟨_,rfl,hI.arr (.c .z .n) trivial⟩
  refine cc (cA (sr (sq (dH rfl et A9 rfl Au rfl) ?_)))
  refine sq (eG (v:=(vs a6 e1.At.length c10)) rfl et GZ rfl (CellsAt.of_blk (hI.blk (.s .z)) rfl)) ?_
  refine sq (rV rfl GZ et) ?_
  refine sq (kz rfl ai) ?_
  refine nk (rO (cO (α:=Nat×Int×σ) (fun x=>fun w=>∃ C,Bun C0 F w0 C w [MO.st I (x.2.2)] [mU I fv1 yield1,Cl.sl ak a3 c2 a1.Idx,Cl.sl ju a6 c10 e1.At]∧cY e1 yield1 (bp a1 yield1 fuel1) i1 (x.1) (x.2.1) (x.2.2)=some r) (fun x _=>x.1) (fun x=>[(0,fv1),(13,vs a3 a1.Idx.length c2),(14,vi (a1.Idx.length:Int)),(15,vi i1),(25,vs a6 e1.At.length c10),(26,vi (e1.At.length:Int)),(27,vi (x.2.1))]) (fu,0,s5) ⟨_,hI.arr (.c .z .n) ⟨(.s (.s .z)),(.s (.s (.s .z))),.z,trivial⟩,h⟩ ⟨rfl,rfl,rfl,rfl,rfl,rfl,rfl,trivial⟩ ?_))
  clear h hI;rintro⟨fuel2,i2,s6⟩ w7 ⟨c16,hI,h⟩
  dsimp only at hI h
  rcases fuel2 with _ | fuel2
  ·rw[cY]at h;cases h
  rw[cY]at h
  refine bz (e:=[(0,fv1),(13,vs a3 a1.Idx.length c2),(14,vi (a1.Idx.length:Int)),(15,vi i1),(25,vs a6 e1.At.length c10),(26,vi (e1.At.length:Int)),(27,vi i2)]) ⟨rfl,rfl,rfl,rfl,rfl,rfl,rfl,trivial⟩ ?_
  refine sr (sq (sP rfl et et) ?_)
  refine nk (aB (bc h et (fun hb h=> ?_) (fun hb h=> ?_)))
  ·refine cc (cA (aB (rO (sr ?_))))
   obtain⟨e2,hx4,h⟩:=af h
   obtain⟨ad2,cs2,hA2,hr2,hq2⟩:=hI.clat (.s (.s .z)) hx4
   obtain⟨a7,c17,rfl,hf3⟩:=hr2
   have hI:=hI.add (c:=Cl.sl aj a7 c17 e2.L) hf3
   refine sq (pA rfl GZ aW et et (uJ hx4) hA2) ?_
   refine sq (aJ (l:=(gx e2 a7 c17)) rfl et rZ rfl aW hq2.1) ?_
   refine aN (cs:=#[vi 0,vs none 0 0]) hI gn rfl rfl fA rfl ?_
   clear hI;intro b3 c18 w8 hI
   refine ay (new:=(gx e2 a7 c17)) (cs':=(bI e2 a7 c17)) hI .z gn rfl rfl et et rfl aW rfl rfl rfl ?_
   clear hI;intro c19 w9 hI
   refine nk (sr (sm ?_))
   refine sq (aJ (l:=(gx e2 a7 c17)) rfl et rZ rfl aW (CellsAt.of_blk (hI.blk .z) rfl)) ?_
   obtain⟨⟨r3,s7⟩,hx5,h⟩:=af h
   try dsimp only at h
   obtain⟨c20,f3,hB,hl3,hk3⟩:=hI.hands (.r (.l .n))
   refine rh (args:=[(Value.agg (bI e2 a7 c17))]) gn rfl rfl et ⟨et,trivial⟩ (CallV.mono ((hI.get (.s .z)).2 c20 f3 w9 (Sp.less hl3) e2 a7 c17 s6 _ (hB.subs ⟨.z,trivial⟩) hx5) ?_)
   rintro _ w10 ⟨c21,rfl,hB2⟩
   obtain⟨c22,hs3,hI⟩:=hk3 _ _ _ _ hB2
   replace hI:Bun C0 F w0 c22 w10 [MO.st I s7,MO.box b3 27 (bI e2 a7 c17)] [Cl.sl aj a7 c17 e2.L,mU I fv1 yield1,Cl.sl ak a3 c2 a1.Idx,Cl.sl ju a6 c10 e1.At]:=hI
   refine⟨_,rfl,?_⟩
   refine sq (vZ rfl et) ?_
   refine nk (bc h et (fun hb h=> ?_) (fun hb h=> ?_))
   ·refine al ?_
    obtain rfl:=ac h
    exact jt (vs:=[]) Tryz.results208 trivial ⟨_,rfl,hI.arr (.c .z .n) trivial⟩
   refine cc (cA (mW rfl ?_))
   refine sq (qq rfl et ai) ?_
   refine sm ?_
   refine bl ?_
   exact cg (fuel2,az (i2+1),s7) ⟨rfl,rfl,rfl,rfl,rfl,rfl,rfl,trivial⟩ ⟨_,hI.arr (.c .z .n) ⟨(.s .z),(.s (.s .z)),(.s (.s (.s .z))),trivial⟩,h⟩ (Nat.lt_succ_self _)
  refine dv ?_
  refine kb ?_
  exact bi s6 ⟨rfl,rfl,rfl,rfl,trivial⟩ ⟨_,hI.arr (.c .z .n) ⟨.z,(.s .z),trivial⟩,h⟩ rfl
 refine dv ?_
 refine kb ?_
 obtain rfl:=ac h
 exact jt (vs:=[]) Tryz.results208 trivial ⟨_,rfl,hI.arr (.c .z .n) trivial⟩
theorem sD (F:NP) (w0:World) (hF:∀ k,F k→k<w0.heap.size) (e1:GExpr) (a1:Option Addr) (c1:Nat) (a2:Option Addr) (c2:Nat) (a3:Option Addr) (c3:Nat) (hc:AllCl [Cl.sl aj a1 c1 e1.Lin.L,Cl.sl ak a2 c2 e1.Idx,Cl.sl au a3 c3 e1.Args,aA] F w0) (r:Int)
  (h:jJ e1=some r):
  Calls Tryz.prog 79 #[(Value.agg (am e1 a1 c1 a2 c2 a3 c3))] w0 fun e w=>e= .returned (vi r)∧Ext w0 w∧AllCl [] F w:=by
 refine aL Tryz.func79 rfl Tryz.ntmps79 rfl ?_
 have hI:=Bun.start hF hc
 clear hc
 rw[jJ]at h
 refine sr (fU (v:=(Value.agg (am e1 a1 c1 a2 c2 a3 c3))) (cs:=(am e1 a1 c1 a2 c2 a3 c3)) hI gn rfl rfl et rfl ?_)
 clear hI;intro b1 c4 w1 hI
 obtain⟨c5,hI⟩:=hI.relBox .z
 refine aN (cs:=#[vi 0]) hI gn rfl rfl tM rfl ?_
 clear hI;intro b2 c6 w2 hI
 refine nk (aB (T ?_))
 refine sq (aJ (l:=(aQ e1 a1 c1 a2 c2 a3 c3)) rfl et nq rfl aF (hI.kblk (l:=(aQ e1 a1 c1 a2 c2 a3 c3)) .z rfl).1) ?_
 obtain⟨r1,hx1,h⟩:=af h
 refine aE gn rfl (ag (vs:=[(Value.agg (am e1 a1 c1 a2 c2 a3 c3))]) rfl Gx ⟨et,trivial⟩) (Calls.mono (vQ (Dj F c6) w2 hI.lt e1 a1 c1 a2 c2 a3 c3 ⟨(hI.get (.s .z)),(hI.get (.s (.s .z))),(hI.get (.s (.s (.s .z)))),trivial⟩ r1 hx1) ?_)
 rintro _ w3 ⟨rfl,hx2,hl1⟩
 refine⟨_,rfl,?_⟩
 replace hI:=(hI.ext hx2)
 refine T ?_
 refine bc h et (fun hb h=> ?_) (fun hb h=> ?_)
 ·refine sr (ay (new:=[vi 5]) (cs':=#[vi 5]) hI .z gn rfl rfl et ai rfl jU rfl rfl rfl ?_)
  clear hI;intro c7 w4 hI
  refine nk (al ?_)
  obtain rfl:=ac h
  exact jt (vs:=[vi 5]) Tryz.results79 ⟨⟨_,aZ rfl rfl,jM (v:=(vi 5)) B4 rfl (CellsAt.of_blk (hI.blk .z) rfl)⟩,trivial⟩ (fq hI trivial)
 refine sr (sq (aJ (l:=(aQ e1 a1 c1 a2 c2 a3 c3)) rfl et nq rfl aF (hI.kblk (l:=(aQ e1 a1 c1 a2 c2 a3 c3)) .z rfl).1) ?_)
 obtain⟨r2,hx3,h⟩:=af h
 refine aE gn rfl (ag (vs:=[(Value.agg (am e1 a1 c1 a2 c2 a3 c3))]) rfl Gw ⟨et,trivial⟩) (Calls.mono (xx (Dj F c6) w3 hI.lt e1 a1 c1 a2 c2 a3 c3 ⟨(hI.get (.s .z)),(hI.get (.s (.s .z))),(hI.get (.s (.s (.s .z)))),(hI.get (.s (.s (.s (.s .z))))),trivial⟩ r2 hx3) ?_)
 rintro _ w5 ⟨rfl,hx4,hl2⟩
 refine⟨_,rfl,?_⟩
 replace hI:=(hI.ext hx4)
 refine T ?_
 refine bc h et (fun hb h=> ?_) (fun hb h=> ?_)
 ·refine sr (ay (new:=[vi 7]) (cs':=#[vi 7]) hI .z gn rfl rfl et ai rfl jU rfl rfl rfl ?_)
  clear hI;intro c8 w6 hI
  refine nk (al ?_)
  obtain rfl:=ac h
  exact jt (vs:=[vi 7]) Tryz.results79 ⟨⟨_,aZ rfl rfl,jM (v:=(vi 7)) B4 rfl (CellsAt.of_blk (hI.blk .z) rfl)⟩,trivial⟩ (fq hI trivial)
 refine sr (sq (aJ (l:=(aQ e1 a1 c1 a2 c2 a3 c3)) rfl et nq rfl aF (hI.kblk (l:=(aQ e1 a1 c1 a2 c2 a3 c3)) .z rfl).1) ?_)
 obtain⟨r3,hx5,h⟩:=af h
 refine aE gn rfl (ag (vs:=[(Value.agg (am e1 a1 c1 a2 c2 a3 c3))]) rfl Gv ⟨et,trivial⟩) (Calls.mono (yT (Dj F c6) w5 hI.lt e1 a1 c1 a2 c2 a3 c3 ⟨(hI.get (.s .z)),(hI.get (.s (.s .z))),(hI.get (.s (.s (.s .z)))),trivial⟩ r3 hx5) ?_)
 rintro _ w7 ⟨rfl,hx6,hl3⟩
 refine⟨_,rfl,?_⟩
 replace hI:=(hI.ext hx6)
 refine T ?_
 refine bc h et (fun hb h=> ?_) (fun hb h=> ?_)
 ·refine sr (ay (new:=[vi 11]) (cs':=#[vi 11]) hI .z gn rfl rfl et ai rfl jU rfl rfl rfl ?_)
  clear hI;intro c9 w8 hI
  refine nk (al ?_)
  obtain rfl:=ac h
  exact jt (vs:=[vi 11]) Tryz.results79 ⟨⟨_,aZ rfl rfl,jM (v:=(vi 11)) B4 rfl (CellsAt.of_blk (hI.blk .z) rfl)⟩,trivial⟩ (fq hI trivial)
 refine sr (sq (aJ (l:=(aQ e1 a1 c1 a2 c2 a3 c3)) rfl et nq rfl aF (hI.kblk (l:=(aQ e1 a1 c1 a2 c2 a3 c3)) .z rfl).1) ?_)
 obtain⟨r4,hx7,h⟩:=af h
 refine aE gn rfl (ag (vs:=[(Value.agg (am e1 a1 c1 a2 c2 a3 c3))]) rfl Gu ⟨et,trivial⟩) (Calls.mono (xw (Dj F c6) w7 hI.lt e1 a1 c1 a2 c2 a3 c3 ⟨(hI.get (.s .z)),(hI.get (.s (.s .z))),(hI.get (.s (.s (.s .z)))),trivial⟩ r4 hx7) ?_)
 rintro _ w9 ⟨rfl,hx8,hl4⟩
 refine⟨_,rfl,?_⟩
 replace hI:=(hI.ext hx8)
 refine T ?_
 refine bc h et (fun hb h=> ?_) (fun hb h=> ?_)
 ·refine sr (ay (new:=[vi 10]) (cs':=#[vi 10]) hI .z gn rfl rfl et ai rfl jU rfl rfl rfl ?_)
  clear hI;intro c10 w10 hI
  refine nk (al ?_)
  obtain rfl:=ac h
  exact jt (vs:=[vi 10]) Tryz.results79 ⟨⟨_,aZ rfl rfl,jM (v:=(vi 10)) B4 rfl (CellsAt.of_blk (hI.blk .z) rfl)⟩,trivial⟩ (fq hI trivial)
 refine T ?_
 refine bZ (bE rfl rfl rfl rfl) rfl (fun hc=>(aJ (l:=(gz e1.Type_)) rfl (bg et hc) tj rfl d4 (hI.kblk (l:=(gz e1.Type_)) .z rfl).1)) ?_
 refine T ?_
 refine bZ (bE rfl rfl rfl rfl) rfl (fun hc=>(aJ (l:=(qn e1.Val)) rfl (bg et hc) G0 rfl fH (hI.kblk (l:=(qn e1.Val)) .z rfl).1)) ?_
 obtain⟨r5,hx9,h⟩:=af h
 replace hx9:=aP hx9
 refine dx (v:=(vb r5)) (bE rfl rfl rfl rfl) rfl (fun hc=>(ag (vs:=[(Value.agg (cv e1.Type_)),(Value.agg (oM e1.Val))]) rfl Gt ⟨(bg et hc),⟨(bg et hc),trivial⟩⟩)) (fun hc=>(vC (Dj F c6) w9 hI.lt e1.Type_ e1.Val trivial r5 (hx9 hc)).mono fun _ _ k=>⟨k.1,k.2.1⟩) ?_
 intro w11 hx10;replace hI:=hI.ext hx10
 refine T ?_
 refine bc h et (fun hb h=> ?_) (fun hb h=> ?_)
 ·refine sr (ay (new:=[vi 1]) (cs':=#[vi 1]) hI .z gn rfl rfl et ai rfl jU rfl rfl rfl ?_)
  clear hI;intro c11 w12 hI
  refine nk (al ?_)
  obtain rfl:=ac h
  exact jt (vs:=[vi 1]) Tryz.results79 ⟨⟨_,aZ rfl rfl,jM (v:=(vi 1)) B4 rfl (CellsAt.of_blk (hI.blk .z) rfl)⟩,trivial⟩ (fq hI trivial)
 refine T ?_
 refine aB (sr (sq (aJ (l:=(aQ e1 a1 c1 a2 c2 a3 c3)) rfl et nq rfl aF (hI.kblk (l:=(aQ e1 a1 c1 a2 c2 a3 c3)) .z rfl).1) ?_))
 obtain⟨r6,hx11,h⟩:=af h
 refine aE gn rfl (ag (vs:=[(Value.agg (am e1 a1 c1 a2 c2 a3 c3))]) rfl Gs ⟨et,trivial⟩) (Calls.mono (xy (Dj F c6) w11 hI.lt e1 a1 c1 a2 c2 a3 c3 ⟨(hI.get (.s .z)),(hI.get (.s (.s .z))),(hI.get (.s (.s (.s .z)))),trivial⟩ r6 hx11) ?_)
 rintro _ w13 ⟨b3,a4,c12,a5,c13,a6,c14,rfl,hx12,hl6⟩
 refine⟨_,rfl,?_⟩
 replace hI:=(hI.ext hx12).adds hl6;dsimp only[ca,na]at hI
 refine T ?_
 refine pR [Code.ret] hI et Gd (fun l1 q1 fn1 tm1 rc1 hrc1 c16 w15 hE1 hI=> ?_)
 obtain⟨c17,f1,hB,hl7,hk1⟩:=hI.hands (.l (.r (.l .n)))
 have hB:Bun c17 f1 w15 c17 w15 [MO.st (StI.loop l1 rc1 (fun(s:Int) (b:Unit)=>[MO.box b2 28 #[vi s]]) (fun(s:Int) (b:Unit)=>[Cl.blk b3 39 (am r6 a4 c12 a5 c13 a6 c14),Cl.sl aj a4 c12 r6.Lin.L,Cl.sl ak a5 c13 r6.Idx,Cl.sl au a6 c14 r6.Args,aA])) (0,0)] _:=Bun.mkst (b:=()) hB ⟨(.s (.s (.s .z))),.z,(.s .z),(.s (.s .z)),(.s (.s (.s (.s (.s (.s (.s (.s .z)))))))),trivial⟩
 have hY1:fnS_k7 (StI.loop l1 rc1 (fun(s:Int) (b:Unit)=>[MO.box b2 28 #[vi s]]) (fun(s:Int) (b:Unit)=>[Cl.blk b3 39 (am r6 a4 c12 a5 c13 a6 c14),Cl.sl aj a4 c12 r6.Lin.L,Cl.sl ak a5 c13 r6.Idx,Cl.sl au a6 c14 r6.Args,aA])) (Value.func (.yield l1) #[] #[]) (fun k_0 q=>if q.1=0 then cX k_0 q.2 else none) (Dj f1 c17) w15:=by
  refine⟨rfl,fun C0 F w0 _=> ?_⟩
  rintro y1 a7 c18 ⟨o_,v1⟩ r hB h
  replace h:o_=0∧cX y1 v1=some r:=ic h
  have ho_:=h.1;subst ho_;replace h:=h.2
  rw[cX]at h
  obtain⟨_,hI⟩:=Bun.unst hB
  subst hrc1
  dsimp only[ca,na]at hI
  clear hB
  refine pQ hI rfl (qQ (hE1 ⟨38,[]⟩ rfl rfl)) ?_
  refine T ?_
  refine aN (cs:=#[vi 0,vs none 0 0]) hI gn rfl rfl fA rfl ?_
  clear hI;intro b4 c19 w16 hI
  refine ay (new:=(gx y1 a7 c18)) (cs':=(bI y1 a7 c18)) hI .z gn rfl rfl et et rfl aW rfl rfl rfl ?_
  clear hI;intro c20 w17 hI
  refine bl (xa hI (.s .z) (fun c21 w18 hI=> ?_))
  refine T ?_
  obtain⟨r7,hx13,h⟩:=af h
  refine aE gn rfl (ag (vs:=[(Value.agg (bI y1 a7 c18))]) rfl wV ⟨et,trivial⟩) (Calls.mono (ma (Dj F c21) w18 hI.lt y1 a7 c18 ⟨(hI.get (.s (.s (.s (.s (.s .z)))))),trivial⟩ r7 hx13) ?_)
  rintro _ w19 ⟨rfl,hx14,hl8⟩
  refine⟨_,rfl,?_⟩
  replace hI:=(hI.ext hx14)
  refine T ?_
  refine bc h et (fun hb h=> ?_) (fun hb h=> ?_)
  ·refine sr (ay (new:=[vi 1]) (cs':=#[vi 1]) hI (.s (.s .z)) gn rfl rfl et ai rfl jU rfl rfl rfl ?_)
   clear hI;intro c22 w20 hI
   refine nk (al ?_)
   obtain rfl:=ac h
   exact fun _ _=>qd (js:=[Code.ret]) (oS:=(fun(s:Int) (b:Unit)=>[MO.box b2 28 #[vi s]])) (cS:=(fun(s:Int) (b:Unit)=>[Cl.blk b3 39 (am r6 a4 c12 a5 c13 a6 c14),Cl.sl aj a4 c12 r6.Lin.L,Cl.sl ak a5 c13 r6.Idx,Cl.sl au a6 c14 r6.Args,aA])) (out:=1) (s:=1) (b:=()) (hI.arr (.c (.s .z) (.c (.s .z) .n)) ⟨.z,(.s .z),(.s (.s .z)),(.s (.s (.s .z))),(.s (.s (.s (.s .z)))),trivial⟩) rfl (fun C w hB=>⟨C,rfl,hB⟩)
  refine cc ?_
  obtain rfl:=ac h
  exact fun _ _=>qd (js:=[Code.ret]) (oS:=(fun(s:Int) (b:Unit)=>[MO.box b2 28 #[vi s]])) (cS:=(fun(s:Int) (b:Unit)=>[Cl.blk b3 39 (am r6 a4 c12 a5 c13 a6 c14),Cl.sl aj a4 c12 r6.Lin.L,Cl.sl ak a5 c13 r6.Idx,Cl.sl au a6 c14 r6.Args,aA])) (out:=0) (s:=v1) (b:=()) (hI.arr (.c (.s .z) (.c (.s .z) .n)) ⟨.z,(.s .z),(.s (.s .z)),(.s (.s (.s .z))),(.s (.s (.s (.s .z)))),trivial⟩) rfl (fun C w hB=>⟨C,rfl,hB⟩)
 obtain⟨⟨u1,o1,v2⟩,hx15,h⟩:=af h
 try dsimp only at h
 refine Calls.mono (sE (StI.loop l1 rc1 (fun(s:Int) (b:Unit)=>[MO.box b2 28 #[vi s]]) (fun(s:Int) (b:Unit)=>[Cl.blk b3 39 (am r6 a4 c12 a5 c13 a6 c14),Cl.sl aj a4 c12 r6.Lin.L,Cl.sl ak a5 c13 r6.Idx,Cl.sl au a6 c14 r6.Args,aA])) c17 f1 w15 (fun k_0 q=>if q.1=0 then cX k_0 q.2 else none) r6 (0,0) (Value.func (.yield l1) #[] #[]) b3 a4 c12 a5 c13 a6 c14 ((hB.add (c:=mU (StI.loop l1 rc1 (fun(s:Int) (b:Unit)=>[MO.box b2 28 #[vi s]]) (fun(s:Int) (b:Unit)=>[Cl.blk b3 39 (am r6 a4 c12 a5 c13 a6 c14),Cl.sl aj a4 c12 r6.Lin.L,Cl.sl ak a5 c13 r6.Idx,Cl.sl au a6 c14 r6.Args,aA])) (Value.func (.yield l1) #[] #[]) (fun k_0 q=>if q.1=0 then cX k_0 q.2 else none)) hY1).subs ⟨.z,(.s .z),(.s (.s .z)),(.s (.s (.s .z))),(.s (.s (.s (.s .z)))),trivial⟩) _ hx15) ?_
 rintro _ w22 ⟨c24,rfl,hB2⟩
 obtain⟨_,hB2⟩:=Bun.unst hB2
 subst hrc1
 obtain⟨c25,hs1,hI⟩:=hk1 _ _ _ _ hB2
 dsimp only[ca,na]at hI
 refine⟨_,rfl,so hI .z (fun c26 w23 hI=> ?_)⟩
 by_cases hz1:o1=0
 ·subst hz1;rw[if_pos rfl]at h
  refine cA (sr (ay (new:=[vi 0]) (cs':=#[vi 0]) hI (.s .z) gn rfl rfl et ai rfl jU rfl rfl rfl ?_))
  clear hI;intro c27 w24 hI
  refine nk (al ?_)
  obtain⟨w25,hs2,c28,hI⟩:∃ w2,oL Tryz.prog [q1] w24 w2∧∃ C,Bun d5 F w0 C w2 [MO.obj l1 _,MO.box b2 28 #[vi 0],MO.obj q1 (.deferred none)] [Cl.blk b3 39 (am r6 a4 c12 a5 c13 a6 c14),Cl.sl aj a4 c12 r6.Lin.L,Cl.sl ak a5 c13 r6.Idx,Cl.sl au a6 c14 r6.Args,aA,Cl.sl aj a4 c12 r6.Lin.L,Cl.sl ak a5 c13 r6.Idx,Cl.sl au a6 c14 r6.Args,Cl.blk b3 39 (am r6 a4 c12 a5 c13 a6 c14),Cl.blk b1 39 (am e1 a1 c1 a2 c2 a3 c3),Cl.sl aj a1 c1 e1.Lin.L,Cl.sl ak a2 c2 e1.Idx,Cl.sl au a3 c3 e1.Args,aA]:=hI.shut (.s (.s .z)) fun C w hI=>oA ⟨_,hI⟩
  obtain rfl:=ac h
  exact qK (vs:=[vi 0]) hs2 Tryz.results79 ⟨⟨_,aZ rfl rfl,jM (v:=(vi 0)) B4 rfl (CellsAt.of_blk (hI.blk (.s .z)) rfl)⟩,trivial⟩ (fq hI trivial)
 rw[if_neg hz1]at h
 by_cases hz2:o1=1
 ·subst hz2;rw[if_pos rfl]at h
  refine al ?_
  obtain⟨w26,hs3,c29,hI⟩:∃ w2,oL Tryz.prog [q1] w23 w2∧∃ C,Bun d5 F w0 C w2 [MO.obj l1 _,MO.box b2 28 #[vi v2],MO.obj q1 (.deferred none)] [Cl.blk b3 39 (am r6 a4 c12 a5 c13 a6 c14),Cl.sl aj a4 c12 r6.Lin.L,Cl.sl ak a5 c13 r6.Idx,Cl.sl au a6 c14 r6.Args,aA,Cl.sl aj a4 c12 r6.Lin.L,Cl.sl ak a5 c13 r6.Idx,Cl.sl au a6 c14 r6.Args,Cl.blk b3 39 (am r6 a4 c12 a5 c13 a6 c14),Cl.blk b1 39 (am e1 a1 c1 a2 c2 a3 c3),Cl.sl aj a1 c1 e1.Lin.L,Cl.sl ak a2 c2 e1.Idx,Cl.sl au a3 c3 e1.Args,aA]:=hI.shut (.s (.s .z)) fun C w hI=>oA ⟨_,hI⟩
  obtain rfl:=ac h
  exact qK (vs:=[vi v2]) hs3 Tryz.results79 ⟨⟨_,aZ rfl rfl,jM (v:=(vi v2)) B4 rfl (CellsAt.of_blk (hI.blk (.s .z)) rfl)⟩,trivial⟩ (fq hI trivial)
 rw[if_neg hz2]at h
 cases h
theorem tI (F:NP) (w0:World) (hF:∀ k,F k→k<w0.heap.size) (e1:GExpr) (a1:Option Addr) (c1:Nat) (a2:Option Addr) (c2:Nat) (a3:Option Addr) (c3:Nat) (hc:AllCl [Cl.sl aj a1 c1 e1.Lin.L,Cl.sl ak a2 c2 e1.Idx,Cl.sl au a3 c3 e1.Args,aA] F w0) (r:Int)
  (h:hH e1=some r):
  Calls Tryz.prog 35 #[(Value.agg (am e1 a1 c1 a2 c2 a3 c3))] w0 fun e w=>e= .returned (vi r)∧Ext w0 w∧AllCl [] F w:=by
 refine aL Tryz.func35 rfl Tryz.ntmps35 rfl ?_
 have hI:=Bun.start hF hc
 clear hc
 rw[hH]at h
 refine sr (fU (v:=(Value.agg (am e1 a1 c1 a2 c2 a3 c3))) (cs:=(am e1 a1 c1 a2 c2 a3 c3)) hI gn rfl rfl et rfl ?_)
 clear hI;intro b1 c4 w1 hI
 obtain⟨c5,hI⟩:=hI.relBox .z
 refine aN (cs:=#[vi 0]) hI gn rfl rfl tM rfl ?_
 clear hI;intro b2 c6 w2 hI
 refine nk (aB (sr (sq (aJ (l:=(aQ e1 a1 c1 a2 c2 a3 c3)) rfl et nq rfl aF (hI.kblk (l:=(aQ e1 a1 c1 a2 c2 a3 c3)) .z rfl).1) ?_)))
 obtain⟨r1,hx1,h⟩:=af h
 refine aE gn rfl (ag (vs:=[(Value.agg (am e1 a1 c1 a2 c2 a3 c3))]) rfl HD ⟨et,trivial⟩) (Calls.mono (xA (Dj F c6) w2 hI.lt e1 a1 c1 a2 c2 a3 c3 ⟨(hI.get (.s .z)),(hI.get (.s (.s .z))),(hI.get (.s (.s (.s .z)))),trivial⟩ r1 hx1) ?_)
 rintro _ w3 ⟨rfl,hx2,hl1⟩
 refine⟨_,rfl,?_⟩
 replace hI:=(hI.ext hx2)
 refine T ?_
 refine bc h et (fun hb h=> ?_) (fun hb h=> ?_)
 ·refine sr (ay (new:=[vi 13]) (cs':=#[vi 13]) hI .z gn rfl rfl et ai rfl jU rfl rfl rfl ?_)
  clear hI;intro c7 w4 hI
  refine nk (al ?_)
  obtain rfl:=ac h
  exact jt (vs:=[vi 13]) Tryz.results35 ⟨⟨_,aZ rfl rfl,jM (v:=(vi 13)) B4 rfl (CellsAt.of_blk (hI.blk .z) rfl)⟩,trivial⟩ (fq hI trivial)
 refine T ?_
 refine aB (sr (sq (aJ (l:=(aQ e1 a1 c1 a2 c2 a3 c3)) rfl et nq rfl aF (hI.kblk (l:=(aQ e1 a1 c1 a2 c2 a3 c3)) .z rfl).1) ?_))
 obtain⟨r2,hx3,h⟩:=af h
 refine aE gn rfl (ag (vs:=[(Value.agg (am e1 a1 c1 a2 c2 a3 c3))]) rfl HC ⟨et,trivial⟩) (Calls.mono (yU (Dj F c6) w3 hI.lt e1 a1 c1 a2 c2 a3 c3 ⟨(hI.get (.s .z)),(hI.get (.s (.s .z))),(hI.get (.s (.s (.s .z)))),trivial⟩ r2 hx3) ?_)
 rintro _ w5 ⟨rfl,hx4,hl2⟩
 refine⟨_,rfl,?_⟩
 replace hI:=(hI.ext hx4)
 refine T ?_
 refine bc h et (fun hb h=> ?_) (fun hb h=> ?_)
 ·refine sr (ay (new:=[vi 2]) (cs':=#[vi 2]) hI .z gn rfl rfl et ai rfl jU rfl rfl rfl ?_)
  clear hI;intro c8 w6 hI
  refine nk (al ?_)
  obtain rfl:=ac h
  exact jt (vs:=[vi 2]) Tryz.results35 ⟨⟨_,aZ rfl rfl,jM (v:=(vi 2)) B4 rfl (CellsAt.of_blk (hI.blk .z) rfl)⟩,trivial⟩ (fq hI trivial)
 refine T ?_
 refine aB (sr (sq (aJ (l:=(aQ e1 a1 c1 a2 c2 a3 c3)) rfl et nq rfl aF (hI.kblk (l:=(aQ e1 a1 c1 a2 c2 a3 c3)) .z rfl).1) ?_))
 obtain⟨r3,hx5,h⟩:=af h
 refine aE gn rfl (ag (vs:=[(Value.agg (am e1 a1 c1 a2 c2 a3 c3))]) rfl EU ⟨et,trivial⟩) (Calls.mono (tf (Dj F c6) w5 hI.lt e1 a1 c1 a2 c2 a3 c3 ⟨(hI.get (.s .z)),(hI.get (.s (.s .z))),(hI.get (.s (.s (.s .z)))),trivial⟩ r3 hx5) ?_)
 rintro _ w7 ⟨b3,a4,c9,a5,c10,a6,c11,rfl,hx6,hl3⟩
 refine⟨_,rfl,?_⟩
 replace hI:=(hI.ext hx6).adds hl3;dsimp only[ca,na]at hI
 refine T ?_
 refine pR [Code.ret] hI et CW (fun l1 q1 fn1 tm1 rc1 hrc1 c13 w9 hE1 hI=> ?_)
 obtain⟨c14,f1,hB,hl4,hk1⟩:=hI.hands (.l (.r (.l .n)))
 have hB:Bun c14 f1 w9 c14 w9 [MO.st (StI.loop l1 rc1 (fun(s:Int) (b:Unit)=>[MO.box b2 28 #[vi s]]) (fun(s:Int) (b:Unit)=>[Cl.blk b3 39 (am r3 a4 c9 a5 c10 a6 c11),Cl.sl aj a4 c9 r3.Lin.L,Cl.sl ak a5 c10 r3.Idx,Cl.sl au a6 c11 r3.Args,aA])) (0,0)] _:=Bun.mkst (b:=()) hB ⟨(.s (.s (.s .z))),.z,(.s .z),(.s (.s .z)),(.s (.s (.s (.s (.s (.s (.s (.s .z)))))))),trivial⟩
 have hY1:fnS_k5 (StI.loop l1 rc1 (fun(s:Int) (b:Unit)=>[MO.box b2 28 #[vi s]]) (fun(s:Int) (b:Unit)=>[Cl.blk b3 39 (am r3 a4 c9 a5 c10 a6 c11),Cl.sl aj a4 c9 r3.Lin.L,Cl.sl ak a5 c10 r3.Idx,Cl.sl au a6 c11 r3.Args,aA])) (Value.func (.yield l1) #[] #[]) (fun k_0 q=>if q.1=0 then cN k_0 q.2 else none) (Dj f1 c14) w9:=by
  refine⟨rfl,fun C0 F w0 _=> ?_⟩
  rintro y1 a7 c15 a8 c16 a9 c17 ⟨o_,v1⟩ r hB h
  replace h:o_=0∧cN y1 v1=some r:=ic h
  have ho_:=h.1;subst ho_;replace h:=h.2
  rw[cN]at h
  obtain⟨_,hI⟩:=Bun.unst hB
  subst hrc1
  dsimp only[ca,na]at hI
  clear hB
  refine pQ hI rfl (qQ (hE1 ⟨19,[]⟩ rfl rfl)) ?_
  refine T ?_
  refine aN (cs:=#[vi 0,(aC ([]:List UInt8)),vi 0,vi 0,vi 0,vi 0,vi 0,vi 0,vi 0,vi 0,vs none 0 0,vs none 0 0,vs none 0 0]) hI gn rfl rfl bA rfl ?_
  clear hI;intro b4 c18 w10 hI
  refine ay (new:=(aQ y1 a7 c15 a8 c16 a9 c17)) (cs':=(am y1 a7 c15 a8 c16 a9 c17)) hI .z gn rfl rfl et et rfl aF rfl rfl rfl ?_
  clear hI;intro c19 w11 hI
  refine bl (xa hI (.s .z) (fun c20 w12 hI=> ?_))
  refine T ?_
  obtain⟨r4,hx7,h⟩:=af h
  refine aE gn rfl (ag (vs:=[(Value.agg (am y1 a7 c15 a8 c16 a9 c17))]) rfl HB ⟨et,trivial⟩) (Calls.mono (sD (Dj F c20) w12 hI.lt y1 a7 c15 a8 c16 a9 c17 ⟨(hI.get (.s (.s (.s (.s (.s .z)))))),(hI.get (.s (.s (.s (.s (.s (.s .z))))))),(hI.get (.s (.s (.s (.s (.s (.s (.s .z)))))))),(hI.get (.s (.s (.s (.s .z))))),trivial⟩ r4 hx7) ?_)
  rintro _ w13 ⟨rfl,hx8,hl5⟩
  refine⟨_,rfl,?_⟩
  replace hI:=(hI.ext hx8)
  refine T ?_
  refine bc h et (fun hb h=> ?_) (fun hb h=> ?_)
  ·refine T ?_
   refine ay (new:=[vi r4]) (cs':=#[vi r4]) hI (.s (.s .z)) gn rfl rfl et et rfl jU rfl rfl rfl ?_
   clear hI;intro c21 w14 hI
   refine nk (al ?_)
   obtain rfl:=ac h
   exact fun _ _=>qd (js:=[Code.ret]) (oS:=(fun(s:Int) (b:Unit)=>[MO.box b2 28 #[vi s]])) (cS:=(fun(s:Int) (b:Unit)=>[Cl.blk b3 39 (am r3 a4 c9 a5 c10 a6 c11),Cl.sl aj a4 c9 r3.Lin.L,Cl.sl ak a5 c10 r3.Idx,Cl.sl au a6 c11 r3.Args,aA])) (out:=1) (s:=r4) (b:=()) (hI.arr (.c (.s .z) (.c (.s .z) .n)) ⟨.z,(.s .z),(.s (.s .z)),(.s (.s (.s .z))),(.s (.s (.s (.s .z)))),trivial⟩) rfl (fun C w hB=>⟨C,rfl,hB⟩)
  refine cc ?_
  obtain rfl:=ac h
  exact fun _ _=>qd (js:=[Code.ret]) (oS:=(fun(s:Int) (b:Unit)=>[MO.box b2 28 #[vi s]])) (cS:=(fun(s:Int) (b:Unit)=>[Cl.blk b3 39 (am r3 a4 c9 a5 c10 a6 c11),Cl.sl aj a4 c9 r3.Lin.L,Cl.sl ak a5 c10 r3.Idx,Cl.sl au a6 c11 r3.Args,aA])) (out:=0) (s:=v1) (b:=()) (hI.arr (.c (.s .z) (.c (.s .z) .n)) ⟨.z,(.s .z),(.s (.s .z)),(.s (.s (.s .z))),(.s (.s (.s (.s .z)))),trivial⟩) rfl (fun C w hB=>⟨C,rfl,hB⟩)
 obtain⟨⟨u1,o1,v2⟩,hx9,h⟩:=af h
 try dsimp only at h
 refine Calls.mono (pr (StI.loop l1 rc1 (fun(s:Int) (b:Unit)=>[MO.box b2 28 #[vi s]]) (fun(s:Int) (b:Unit)=>[Cl.blk b3 39 (am r3 a4 c9 a5 c10 a6 c11),Cl.sl aj a4 c9 r3.Lin.L,Cl.sl ak a5 c10 r3.Idx,Cl.sl au a6 c11 r3.Args,aA])) c14 f1 w9 (fun k_0 q=>if q.1=0 then cN k_0 q.2 else none) r3 (0,0) (Value.func (.yield l1) #[] #[]) b3 a4 c9 a5 c10 a6 c11 ((hB.add (c:=mV (StI.loop l1 rc1 (fun(s:Int) (b:Unit)=>[MO.box b2 28 #[vi s]]) (fun(s:Int) (b:Unit)=>[Cl.blk b3 39 (am r3 a4 c9 a5 c10 a6 c11),Cl.sl aj a4 c9 r3.Lin.L,Cl.sl ak a5 c10 r3.Idx,Cl.sl au a6 c11 r3.Args,aA])) (Value.func (.yield l1) #[] #[]) (fun k_0 q=>if q.1=0 then cN k_0 q.2 else none)) hY1).subs ⟨.z,(.s .z),(.s (.s .z)),(.s (.s (.s .z))),(.s (.s (.s (.s .z)))),trivial⟩) _ hx9) ?_
 rintro _ w16 ⟨c23,rfl,hB2⟩
 obtain⟨_,hB2⟩:=Bun.unst hB2
 subst hrc1
 obtain⟨c24,hs1,hI⟩:=hk1 _ _ _ _ hB2
 dsimp only[ca,na]at hI
 refine⟨_,rfl,so hI .z (fun c25 w17 hI=> ?_)⟩
 by_cases hz1:o1=0
 ·subst hz1;rw[if_pos rfl]at h
  refine cA (sr (ay (new:=[vi 0]) (cs':=#[vi 0]) hI (.s .z) gn rfl rfl et ai rfl jU rfl rfl rfl ?_))
  clear hI;intro c26 w18 hI
  refine nk (al ?_)
  obtain⟨w19,hs2,c27,hI⟩:∃ w2,oL Tryz.prog [q1] w18 w2∧∃ C,Bun d5 F w0 C w2 [MO.obj l1 _,MO.box b2 28 #[vi 0],MO.obj q1 (.deferred none)] [Cl.blk b3 39 (am r3 a4 c9 a5 c10 a6 c11),Cl.sl aj a4 c9 r3.Lin.L,Cl.sl ak a5 c10 r3.Idx,Cl.sl au a6 c11 r3.Args,aA,Cl.sl aj a4 c9 r3.Lin.L,Cl.sl ak a5 c10 r3.Idx,Cl.sl au a6 c11 r3.Args,Cl.blk b3 39 (am r3 a4 c9 a5 c10 a6 c11),Cl.blk b1 39 (am e1 a1 c1 a2 c2 a3 c3),Cl.sl aj a1 c1 e1.Lin.L,Cl.sl ak a2 c2 e1.Idx,Cl.sl au a3 c3 e1.Args,aA]:=hI.shut (.s (.s .z)) fun C w hI=>oA ⟨_,hI⟩
  obtain rfl:=ac h
  exact qK (vs:=[vi 0]) hs2 Tryz.results35 ⟨⟨_,aZ rfl rfl,jM (v:=(vi 0)) B4 rfl (CellsAt.of_blk (hI.blk (.s .z)) rfl)⟩,trivial⟩ (fq hI trivial)
 rw[if_neg hz1]at h
 by_cases hz2:o1=1
 ·subst hz2;rw[if_pos rfl]at h
  refine al ?_
  obtain⟨w20,hs3,c28,hI⟩:∃ w2,oL Tryz.prog [q1] w17 w2∧∃ C,Bun d5 F w0 C w2 [MO.obj l1 _,MO.box b2 28 #[vi v2],MO.obj q1 (.deferred none)] [Cl.blk b3 39 (am r3 a4 c9 a5 c10 a6 c11),Cl.sl aj a4 c9 r3.Lin.L,Cl.sl ak a5 c10 r3.Idx,Cl.sl au a6 c11 r3.Args,aA,Cl.sl aj a4 c9 r3.Lin.L,Cl.sl ak a5 c10 r3.Idx,Cl.sl au a6 c11 r3.Args,Cl.blk b3 39 (am r3 a4 c9 a5 c10 a6 c11),Cl.blk b1 39 (am e1 a1 c1 a2 c2 a3 c3),Cl.sl aj a1 c1 e1.Lin.L,Cl.sl ak a2 c2 e1.Idx,Cl.sl au a3 c3 e1.Args,aA]:=hI.shut (.s (.s .z)) fun C w hI=>oA ⟨_,hI⟩
  obtain rfl:=ac h
  exact qK (vs:=[vi v2]) hs3 Tryz.results35 ⟨⟨_,aZ rfl rfl,jM (v:=(vi v2)) B4 rfl (CellsAt.of_blk (hI.blk (.s .z)) rfl)⟩,trivial⟩ (fq hI trivial)
 rw[if_neg hz2]at h
 cases h
theorem gU (C0 F:NP) (w0:World) (r1:aa) (b1:Nat) (a1:Option Addr) (c1:Nat) (hI:Bun C0 F w0 C0 w0 [MO.box b1 67 (ab r1 a1 c1)] [Cl.sl ah a1 c1 r1.l]) (r:bk (Unit×aa))
  (h:bK r1=some r):
  Calls Tryz.prog 194 #[vp b1 0] w0 fun e w=>(∃ rx:Unit×aa,r= .ret rx∧∃ (a2:Option Addr) (c2:Nat) (C:NP),e= .returned (Value.tuple #[])∧Bun C0 F w0 C w [MO.box b1 67 (ab rx.2 a2 c2)] [Cl.sl ah a2 c2 rx.2.l])∨∃ (pa pn:Int),r= .pan pa pn∧e= .panicked [pe 114 pa pn]∧∃ C:NP,Bun C0 F w0 C w [] []:=by
 refine fj (l:=[vp b1 0]) Tryz.func194 rfl Tryz.ntmps194 rfl ?_
 rw[bK]at h
 refine du (α:=Unit) (fun _=>⟨27,[]⟩) (fun _=>[(0,vp b1 0)]) (fun _=>fun w=>∃ C,Bun C0 F w0 C w [MO.box b1 67 (ab r1 a1 c1)] [Cl.sl ah a1 c1 r1.l]∧d6 r1=some r) ?_ ?_
 ·clear h hI;rintro _ w1 ⟨c3,hI,h⟩
  try dsimp only at hI h
  rw[d6]at h
  refine bz (e:=[(0,vp b1 0)]) ⟨rfl,trivial⟩ ?_
  refine T ?_
  refine ay (new:=[(vi (az (r1.deep+1)))]) (cs':=#[vs a1 r1.l.length c1,vi r1.at_,(vi (az (r1.deep+1)))]) hI .z gn rfl rfl et et rfl gb rfl rfl rfl ?_
  clear hI;intro c4 w2 hI
  refine T ?_
  refine ay (new:=[(vi (az (r1.at_+1)))]) (cs':=#[vs a1 r1.l.length c1,(vi (az (r1.at_+1))),(vi (az (r1.deep+1)))]) hI .z gn rfl rfl et et rfl gb rfl rfl rfl ?_
  clear hI;intro c5 w3 hI
  refine bl ?_
  obtain rfl:=ac h
  refine QG ?_
  exact .inl ⟨_,rfl,a1,c1,_,rfl,hI.arr GO SU⟩
 refine T ?_
 refine bc h et (fun hb h=> ?_) (fun hb h=> ?_)
 ·refine T ?_
  rcases ii h with⟨r2,hx1,h⟩ | ⟨pa_,pn_,hx1,hp_⟩
  rotate_left
  ·subst hp_
   refine mz gn rfl (ag (vs:=[vp b1 0,vi r1.at_,vi 13]) rfl mh ⟨et,⟨et,⟨ai,trivial⟩⟩⟩) (Calls.mono (aT d5 w0 (fun _ k=>k.elim) r1 r1.at_ 13 b1 a1 c1 ⟨(hI.get0 .z),hI.lendBox .z,trivial⟩ (.pan pa_ pn_) hx1) ?_)
   intro e_ w_ hq_;obtain⟨rfl,hx_⟩:=eo hq_;have hI_:=hI.ext hx_;exact .inr ⟨_,rfl,ib (.inr ⟨_,_,rfl,rfl,⟨_,hI_.arr .n trivial⟩⟩)⟩
  try dsimp only at h
  refine aE gn rfl (ag (vs:=[vp b1 0,vi r1.at_,vi 13]) rfl mh ⟨et,⟨et,⟨ai,trivial⟩⟩⟩) (Calls.mono (aT d5 w0 (fun _ k=>k.elim) r1 r1.at_ 13 b1 a1 c1 ⟨(hI.get0 .z),hI.lendBox .z,trivial⟩ (.ret r2) hx1) ?_)
  intro e_ w4 hq_;obtain⟨rfl,hx2,hl1⟩:=en hq_
  refine⟨_,rfl,?_⟩
  replace hI:=(hI.ext hx2)
  refine bl ?_
  exact bi () ⟨rfl,trivial⟩ ⟨_,hI.arr GO SU,h⟩ rfl
 exact cc (bi () ⟨rfl,trivial⟩ ⟨_,hI.arr GO SU,h⟩ rfl)
theorem j3 (C0 F:NP) (w0:World) (r1:aa) (b1:Nat) (a1:Option Addr) (c1:Nat) (hI:Bun C0 F w0 C0 w0 [MO.box b1 67 (ab r1 a1 c1)] [Cl.sl ah a1 c1 r1.l]) (r:bk (Unit×aa))
  (h:b9 r1=some r):
  Calls Tryz.prog 253 #[vp b1 0] w0 fun e w=>(∃ rx:Unit×aa,r= .ret rx∧∃ (a2:Option Addr) (c2:Nat) (C:NP),e= .returned (Value.tuple #[])∧Bun C0 F w0 C w [MO.box b1 67 (ab rx.2 a2 c2)] [Cl.sl ah a2 c2 rx.2.l])∨∃ (pa pn:Int),r= .pan pa pn∧e= .panicked [pe 114 pa pn]∧∃ C:NP,Bun C0 F w0 C w [] []:=by
 refine fj (l:=[vp b1 0]) Tryz.func253 rfl Tryz.ntmps253 rfl ?_
 rw[b9]at h
 refine aB (T ?_)
 obtain⟨r2,hx1,h⟩:=af h
 refine aE gn rfl (ag (vs:=[vp b1 0,vi 3,(aC ([40]:List UInt8))]) rfl oQ ⟨et,⟨ai,⟨ai,trivial⟩⟩⟩) (Calls.mono (dt d5 w0 (fun _ k=>k.elim) r1 3 ([40]:List UInt8) b1 a1 c1 ⟨(hI.get0 .z),hI.lendBox .z,trivial⟩ r2 hx1) ?_)
 rintro _ w1 ⟨rfl,hx2,hl1⟩
 refine⟨_,rfl,?_⟩
 replace hI:=(hI.ext hx2)
 refine T ?_
 refine bc h et (fun hb h=> ?_) (fun hb h=> ?_)
 ·refine T ?_
  obtain⟨c3,f1,hB,hl2,hk1⟩:=hI.hands (.l .n)
  refine dY h (fun _ hx3=>dd c3 f1 w1 r1 b1 a1 c1 (hB.subs ⟨.z,trivial⟩) _ hx3) (ky hk1) (ag rfl qM ⟨et,trivial⟩) ?_
  rintro⟨r3,s1⟩ hx3 h _ w2 ⟨a3,c4,c5,rfl,hB2⟩
  try dsimp only at h
  obtain⟨c6,hs1,hI⟩:=hk1 _ _ _ _ hB2
  dsimp only[ca,na]at hI
  refine⟨_,rfl,?_⟩
  refine T ?_
  obtain⟨c7,f2,hB,hl3,hk2⟩:=hI.hands (.l .n)
  refine dY h (fun _ hx4=>gU c7 f2 w2 s1 b1 a3 c4 (hB.subs ⟨.z,trivial⟩) _ hx4) (ky hk2) (ag rfl wR ⟨et,trivial⟩) ?_
  rintro⟨r4,s2⟩ hx4 h _ w3 ⟨a4,c8,c9,rfl,hB2⟩
  try dsimp only at h
  obtain⟨c10,hs2,hI⟩:=hk2 _ _ _ _ hB2
  dsimp only[ca,na]at hI
  refine⟨_,rfl,?_⟩
  refine bl ?_
  obtain rfl:=ac h
  refine QG ?_
  exact .inl ⟨_,rfl,a4,c8,_,rfl,hI.arr GO SU⟩
 refine T ?_
 obtain⟨c11,f3,hB,hl4,hk3⟩:=hI.hands (.l .n)
 refine dY h (fun _ hx5=>gU c11 f3 w1 r1 b1 a1 c1 (hB.subs ⟨.z,trivial⟩) _ hx5) (ky hk3) (ag rfl wR ⟨et,trivial⟩) ?_
 rintro⟨r5,s3⟩ hx5 h _ w4 ⟨a5,c12,c13,rfl,hB2⟩
 try dsimp only at h
 obtain⟨c14,hs3,hI⟩:=hk3 _ _ _ _ hB2
 dsimp only[ca,na]at hI
 refine⟨_,rfl,?_⟩
 refine bl ?_
 obtain rfl:=ac h
 refine QG ?_
 exact .inl ⟨_,rfl,a5,c12,_,rfl,hI.arr GO SU⟩
theorem aR (C0 F:NP) (w0:World) (r1:aa) (s1:List UInt8) (b1:Nat) (a1:Option Addr) (c1:Nat) (hI:Bun C0 F w0 C0 w0 [MO.box b1 67 (ab r1 a1 c1)] [Cl.sl ah a1 c1 r1.l]) (r:bk (Unit×aa))
  (h:aK r1 s1=some r):
  Calls Tryz.prog 104 #[vp b1 0,(aC s1)] w0 fun e w=>(∃ rx:Unit×aa,r= .ret rx∧∃ (a2:Option Addr) (c2:Nat) (C:NP),e= .returned (Value.tuple #[])∧Bun C0 F w0 C w [MO.box b1 67 (ab rx.2 a2 c2)] [Cl.sl ah a2 c2 rx.2.l])∨∃ (pa pn:Int),r= .pan pa pn∧e= .panicked [pe 114 pa pn]∧∃ C:NP,Bun C0 F w0 C w [] []:=by
 refine fj (l:=[vp b1 0,(aC s1)]) Tryz.func104 rfl Tryz.ntmps104 rfl ?_
 rw[aK]at h
 refine T ?_
 obtain⟨c3,f1,hB,hl1,hk1⟩:=hI.hands (.l .n)
 obtain⟨⟨r2,s2⟩,hx1,h⟩:=af h
 try dsimp only at h
 refine aE gn rfl (ag (vs:=[vp b1 0,(aC s1)]) rfl mK ⟨et,⟨et,trivial⟩⟩) (Calls.mono (aM c3 f1 w0 r1 s1 b1 a1 c1 (hB.subs ⟨.z,trivial⟩) _ hx1) ?_)
 rintro _ w1 ⟨a3,c4,c5,rfl,hB2⟩
 obtain⟨c6,hs1,hI⟩:=hk1 _ _ _ _ hB2
 dsimp only[ca,na]at hI
 refine⟨_,rfl,?_⟩
 refine T ?_
 refine bc h et (fun hb h=> ?_) (fun hb h=> ?_)
 ·refine T ?_
  obtain⟨c7,f2,hB,hl2,hk2⟩:=hI.hands (.l .n)
  refine dY h (fun _ hx2=>dd c7 f2 w1 s2 b1 a3 c4 (hB.subs ⟨.z,trivial⟩) _ hx2) (ky hk2) (ag rfl qM ⟨et,trivial⟩) ?_
  rintro⟨r3,s3⟩ hx2 h _ w2 ⟨a4,c8,c9,rfl,hB2⟩
  try dsimp only at h
  obtain⟨c10,hs2,hI⟩:=hk2 _ _ _ _ hB2
  dsimp only[ca,na]at hI
  refine⟨_,rfl,?_⟩
  refine bl ?_
  obtain rfl:=ac h
  refine QG ?_
  exact .inl ⟨_,rfl,a4,c8,_,rfl,hI.arr GO SU⟩
 refine cc ?_
 obtain rfl:=ac h
 refine QG ?_
 exact .inl ⟨_,rfl,a3,c4,_,rfl,hI.arr GO SU⟩
theorem jN (C0 F:NP) (w0:World) (r1:aa) (b1:Nat) (a1:Option Addr) (c1:Nat) (hI:Bun C0 F w0 C0 w0 [MO.box b1 67 (ab r1 a1 c1)] [Cl.sl ah a1 c1 r1.l]) (r:bk (Unit×aa))
  (h:da r1=some r):
  Calls Tryz.prog 254 #[vp b1 0] w0 fun e w=>(∃ rx:Unit×aa,r= .ret rx∧∃ (a2:Option Addr) (c2:Nat) (C:NP),e= .returned (Value.tuple #[])∧Bun C0 F w0 C w [MO.box b1 67 (ab rx.2 a2 c2)] [Cl.sl ah a2 c2 rx.2.l])∨∃ (pa pn:Int),r= .pan pa pn∧e= .panicked [pe 114 pa pn]∧∃ C:NP,Bun C0 F w0 C w [] []:=by
 refine fj (l:=[vp b1 0]) Tryz.func254 rfl Tryz.ntmps254 rfl ?_
 rw[da]at h
 refine T ?_
 obtain⟨c3,f1,hB,hl1,hk1⟩:=hI.hands (.l .n)
 refine dY h (fun _ hx1=>aR c3 f1 w0 r1 ([41]:List UInt8) b1 a1 c1 (hB.subs ⟨.z,trivial⟩) _ hx1) (ky hk1) (ag rfl lC ⟨et,⟨ai,trivial⟩⟩) ?_
 rintro⟨r2,s1⟩ hx1 h _ w1 ⟨a3,c4,c5,rfl,hB2⟩
 try dsimp only at h
 obtain⟨c6,hs1,hI⟩:=hk1 _ _ _ _ hB2
 dsimp only[ca,na]at hI
 refine⟨_,rfl,?_⟩
 refine T ?_
 refine ay (new:=[(vi (az (s1.deep - 1)))]) (cs':=#[vs a3 s1.l.length c4,vi s1.at_,(vi (az (s1.deep - 1)))]) hI .z gn rfl rfl et et rfl gb rfl rfl rfl ?_
 clear hI;intro c7 w2 hI
 refine bl ?_
 obtain rfl:=ac h
 refine QG ?_
 exact .inl ⟨_,rfl,a3,c4,_,rfl,hI.arr GO SU⟩
theorem ip (C0 F:NP) (w0:World) (r1:aa) (l1:List (List UInt8)) (b1:Nat) (a1:Option Addr) (c1:Nat) (a2:Option Addr) (c2:Nat) (hI:Bun C0 F w0 C0 w0 [MO.box b1 67 (ab r1 a1 c1)] [Cl.sl ah a1 c1 r1.l,Cl.sl ie a2 c2 l1]) (r:Int×aa)
  (h:cG r1 l1=some r):
  Calls Tryz.prog 98 #[vp b1 0,vs a2 l1.length c2] w0 fun e w=>∃ (a3:Option Addr) (c3:Nat) (C:NP),e= .returned (vi r.1)∧Bun C0 F w0 C w [MO.box b1 67 (ab r.2 a3 c3)] [Cl.sl ah a3 c3 r.2.l]:=by
 refine aL Tryz.func98 rfl Tryz.ntmps98 rfl ?_
 rw[cG]at h
 refine T ?_
 refine aB (T ?_)
 refine cO (α:=Nat×Int) (fun x=>fun w=>∃ C,Bun C0 F w0 C w [MO.box b1 67 (ab r1 a1 c1)] [Cl.sl ah a1 c1 r1.l,Cl.sl ie a2 c2 l1]∧bX l1 r1 (x.1) (x.2)=some r) (fun x _=>x.1) (fun x=>[(0,vp b1 0),(7,vs a2 l1.length c2),(8,vi (l1.length:Int)),(9,vi (x.2))]) (fu,0) ⟨_,hI.arr (.c .z .n) ⟨.z,(.s .z),trivial⟩,h⟩ SB ?_
 clear h hI;rintro⟨fuel1,i1⟩ w1 ⟨c4,hI,h⟩
 dsimp only at hI h
 rcases fuel1 with _ | fuel1
 ·rw[bX]at h;cases h
 rw[bX]at h
 refine bz (e:=[(0,vp b1 0),(7,vs a2 l1.length c2),(8,vi (l1.length:Int)),(9,vi i1)]) SB ?_
 refine T ?_
 refine aB (bc h et (fun hb h=> ?_) (fun hb h=> ?_))
 ·refine T ?_
  refine aB (T ?_)
  obtain⟨e1,hx1,h⟩:=af h
  obtain⟨ad1,cs1,hA1,hr1,hq1⟩:=hI.clat (.s .z) hx1
  obtain rfl:cs1=[(aC e1)]:=hr1
  refine sI ?_
  refine T ?_
  obtain⟨r2,hx2,h⟩:=af h
  refine aE gn rfl (ag (vs:=[vp b1 0,vi 1,(aC e1)]) rfl oQ ⟨et,⟨ai,⟨et,trivial⟩⟩⟩) (Calls.mono (dt d5 w1 (fun _ k=>k.elim) r1 1 e1 b1 a1 c1 ⟨(hI.get0 .z),hI.lendBox .z,trivial⟩ r2 hx2) ?_)
  rintro _ w2 ⟨rfl,hx3,hl1⟩
  refine⟨_,rfl,?_⟩
  replace hI:=(hI.ext hx3)
  refine nk (bc h et (fun hb h=> ?_) (fun hb h=> ?_))
  ·refine T ?_
   refine ay (new:=[(vi (az (r1.at_+1)))]) (cs':=#[vs a1 r1.l.length c1,(vi (az (r1.at_+1))),vi r1.deep]) hI .z gn rfl rfl et et rfl gb rfl rfl rfl ?_
   clear hI;intro c5 w3 hI
   refine T ?_
   refine al ?_
   obtain rfl:=ac h
   refine QG ?_
   exact⟨a1,c1,_,rfl,hI.arr GO SU⟩
  refine T ?_
  refine bl ?_
  exact cg (fuel1,az (i1+1)) SB ⟨_,hI.arr GO SU,h⟩ (Nat.lt_succ_self _)
 refine dv ?_
 refine kb ?_
 refine cA ?_
 refine T ?_
 refine al ?_
 obtain rfl:=ac h
 refine QG ?_
 exact⟨a1,c1,_,rfl,hI.arr GO SU⟩
theorem lI (C0 F:NP) (w0:World) (r1:aa) (b1:Nat) (a1:Option Addr) (c1:Nat) (hI:Bun C0 F w0 C0 w0 [MO.box b1 67 (ab r1 a1 c1)] [Cl.sl ah a1 c1 r1.l]) (r:bk (Int×aa))
  (h:dZ r1=some r):
  Calls Tryz.prog 219 #[vp b1 0] w0 fun e w=>(∃ rx:Int×aa,r= .ret rx∧∃ (a2:Option Addr) (c2:Nat) (C:NP),e= .returned (vi rx.1)∧Bun C0 F w0 C w [MO.box b1 67 (ab rx.2 a2 c2)] [Cl.sl ah a2 c2 rx.2.l])∨∃ (pa pn:Int),r= .pan pa pn∧e= .panicked [pe 114 pa pn]∧∃ C:NP,Bun C0 F w0 C w [] []:=by
 refine fj (l:=[vp b1 0]) Tryz.func219 rfl Tryz.ntmps219 rfl ?_
 rw[dZ]at h
 refine T ?_
 obtain⟨c3,f1,hB,hl1,hk1⟩:=hI.hands (.l .n)
 refine dY h (fun _ hx1=>gG c3 f1 w0 r1 b1 a1 c1 (hB.subs ⟨.z,trivial⟩) _ hx1) (ky hk1) (ag rfl wT ⟨et,trivial⟩) ?_
 rintro⟨r2,s1⟩ hx1 h _ w1 ⟨a3,c4,c5,rfl,hB2⟩
 try dsimp only at h
 obtain⟨c6,hs1,hI⟩:=hk1 _ _ _ _ hB2
 dsimp only[ca,na]at hI
 refine⟨_,rfl,?_⟩
 obtain⟨r3,hx2,h⟩:=af h
 refine aE gn rfl (ag (vs:=[(aC r2),vb false]) rfl CY ⟨et,⟨ai,trivial⟩⟩) (Calls.mono (pp (Dj F c6) w1 hI.lt r2 false trivial r3 hx2) ?_)
 rintro _ w2 ⟨rfl,hx3,hl2⟩
 refine⟨_,rfl,?_⟩
 replace hI:=(hI.ext hx3)
 refine T ?_
 refine aB (T ?_)
 refine bc h et (fun hb h=> ?_) (fun hb h=> ?_)
 ·refine T ?_
  rcases ii h with⟨r4,hx4,h⟩ | ⟨pa_,pn_,hx4,hp_⟩
  rotate_left
  ·subst hp_
   refine mz gn rfl (ag (vs:=[vp b1 0,vi r1.at_,vi 3]) rfl mh ⟨et,⟨et,⟨ai,trivial⟩⟩⟩) (Calls.mono (aT d5 w2 (fun _ k=>k.elim) s1 r1.at_ 3 b1 a3 c4 ⟨(hI.get0 .z),hI.lendBox .z,trivial⟩ (.pan pa_ pn_) hx4) ?_)
   intro e_ w_ hq_;obtain⟨rfl,hx_⟩:=eo hq_;have hI_:=hI.ext hx_;exact .inr ⟨_,rfl,ib (.inr ⟨_,_,rfl,rfl,⟨_,hI_.arr .n trivial⟩⟩)⟩
  try dsimp only at h
  refine aE gn rfl (ag (vs:=[vp b1 0,vi r1.at_,vi 3]) rfl mh ⟨et,⟨et,⟨ai,trivial⟩⟩⟩) (Calls.mono (aT d5 w2 (fun _ k=>k.elim) s1 r1.at_ 3 b1 a3 c4 ⟨(hI.get0 .z),hI.lendBox .z,trivial⟩ (.ret r4) hx4) ?_)
  intro e_ w3 hq_;obtain⟨rfl,hx5,hl3⟩:=en hq_
  refine⟨_,rfl,?_⟩
  replace hI:=(hI.ext hx5)
  refine T ?_
  refine al ?_
  obtain rfl:=ac h
  refine QG ?_
  exact .inl ⟨_,rfl,a3,c4,_,rfl,hI.arr GO SU⟩
 refine T ?_
 refine al ?_
 obtain rfl:=ac h
 refine QG ?_
 exact .inl ⟨_,rfl,a3,c4,_,rfl,hI.arr GO SU⟩
theorem mj (C0 F:NP) (w0:World) (r1:aa) (b1:Nat) (a1:Option Addr) (c1:Nat) (hI:Bun C0 F w0 C0 w0 [MO.box b1 67 (ab r1 a1 c1)] [Cl.sl ah a1 c1 r1.l]) (r:bk (GType×aa))
  (h:eO r1=some r):
  Calls Tryz.prog 174 #[vp b1 0] w0 fun e w=>(∃ rx:GType×aa,r= .ret rx∧∃ (a2:Option Addr) (c2:Nat) (C:NP),e= .returned (Value.agg (cv rx.1))∧Bun C0 F w0 C w [MO.box b1 67 (ab rx.2 a2 c2)] [Cl.sl ah a2 c2 rx.2.l])∨∃ (pa pn:Int),r= .pan pa pn∧e= .panicked [pe 114 pa pn]∧∃ C:NP,Bun C0 F w0 C w [] []:=by
 refine fj (l:=[vp b1 0]) Tryz.func174 rfl Tryz.ntmps174 rfl ?_
 rw[eO]at h
 refine sr (aN (cs:=th) hI gn rfl rfl tL rfl ?_)
 clear hI;intro b2 c3 w1 hI
 refine T ?_
 refine du (α:=aa×(Option Addr)×Nat) (fun _=>⟨66,[]⟩) (fun x=>[(0,vp b1 0),(2,vp b2 0),(3,vi r1.at_)]) (fun x=>fun w=>∃ C,Bun C0 F w0 C w [MO.box b1 67 (ab (x.1) (x.2.1) (x.2.2)),MO.box b2 35 th] [Cl.sl ah (x.2.1) (x.2.2) (x.1).l]∧dF r1 (x.1)=some r) ?_ ?_
 ·clear h hI;rintro⟨r2,a3,c4⟩ w2 ⟨c5,hI,h⟩
  try dsimp only at hI h
  rw[dF]at h
  refine bz (e:=[(0,vp b1 0),(2,vp b2 0),(3,vi r1.at_)]) SB ?_
  refine sr (sq (aV (vs:=[(0,vi 2)]) (cs:=#[vi 2,vi 0,vi 0,vi 0,vi 0]) rfl ⟨rfl,ai,trivial⟩ (by kernel_rfl)) ?_)
  refine aN (cs:=th) hI gn rfl rfl tL rfl ?_
  clear hI;intro b3 c6 w3 hI
  refine ay (new:=[vi 2,vi 0,vi 0,vi 0,vi 0]) (cs':=#[vi 2,vi 0,vi 0,vi 0,vi 0]) hI .z gn rfl rfl et et rfl d4 rfl rfl rfl ?_
  clear hI;intro c7 w4 hI
  refine T ?_
  obtain⟨c8,f1,hB,hl1,hk1⟩:=hI.hands (.r (.l (.r .n)))
  refine dY h (fun _ hx1=>aR c8 f1 w4 r2 ([40]:List UInt8) b1 a3 c4 (hB.subs ⟨.z,trivial⟩) _ hx1) (ky hk1) (ag rfl lC ⟨et,⟨ai,trivial⟩⟩) ?_
  rintro⟨r3,s1⟩ hx1 h _ w5 ⟨a4,c9,c10,rfl,hB2⟩
  try dsimp only at h
  obtain⟨c11,hs1,hI⟩:=hk1 _ _ _ _ hB2
  dsimp only[ca,na]at hI
  refine⟨_,rfl,?_⟩
  refine T ?_
  obtain⟨c12,f2,hB,hl2,hk2⟩:=hI.hands (.l (.r (.r .n)))
  refine dY h (fun _ hx2=>lI c12 f2 w5 s1 b1 a4 c9 (hB.subs ⟨.z,trivial⟩) _ hx2) (ky hk2) (ag rfl CM ⟨et,trivial⟩) ?_
  rintro⟨r4,s2⟩ hx2 h _ w6 ⟨a5,c13,c14,rfl,hB2⟩
  try dsimp only at h
  obtain⟨c15,hs2,hI⟩:=hk2 _ _ _ _ hB2
  dsimp only[ca,na]at hI
  refine⟨_,rfl,?_⟩
  refine T ?_
  refine ay (new:=[vi r4]) (cs':=#[vi 2,vi r4,vi 0,vi 0,vi 0]) hI (.s .z) gn rfl rfl et et rfl gb rfl rfl rfl ?_
  clear hI;intro c16 w7 hI
  refine T ?_
  obtain⟨c17,f3,hB,hl3,hk3⟩:=hI.hands (.l (.r (.r .n)))
  refine dY h (fun _ hx3=>aR c17 f3 w7 s2 ([44]:List UInt8) b1 a5 c13 (hB.subs ⟨.z,trivial⟩) _ hx3) (ky hk3) (ag rfl lC ⟨et,⟨ai,trivial⟩⟩) ?_
  rintro⟨r5,s3⟩ hx3 h _ w8 ⟨a6,c18,c19,rfl,hB2⟩
  try dsimp only at h
  obtain⟨c20,hs3,hI⟩:=hk3 _ _ _ _ hB2
  dsimp only[ca,na]at hI
  refine⟨_,rfl,?_⟩
  refine T ?_
  obtain⟨c21,f4,hB,hl4,hk4⟩:=hI.hands (.l (.r (.r .n)))
  refine dY h (fun _ hx4=>lI c21 f4 w8 s3 b1 a6 c18 (hB.subs ⟨.z,trivial⟩) _ hx4) (ky hk4) (ag rfl CM ⟨et,trivial⟩) ?_
  rintro⟨r6,s4⟩ hx4 h _ w9 ⟨a7,c22,c23,rfl,hB2⟩
  try dsimp only at h
  obtain⟨c24,hs4,hI⟩:=hk4 _ _ _ _ hB2
  dsimp only[ca,na]at hI
  refine⟨_,rfl,?_⟩
  refine T ?_
  refine ay (new:=[vi r6]) (cs':=#[vi 2,vi r4,vi r6,vi 0,vi 0]) hI (.s .z) gn rfl rfl et et rfl gb rfl rfl rfl ?_
  clear hI;intro c25 w10 hI
  refine T ?_
  obtain⟨c26,f5,hB,hl5,hk5⟩:=hI.hands (.l (.r (.r .n)))
  refine dY h (fun _ hx5=>aR c26 f5 w10 s4 ([44]:List UInt8) b1 a7 c22 (hB.subs ⟨.z,trivial⟩) _ hx5) (ky hk5) (ag rfl lC ⟨et,⟨ai,trivial⟩⟩) ?_
  rintro⟨r7,s5⟩ hx5 h _ w11 ⟨a8,c27,c28,rfl,hB2⟩
  try dsimp only at h
  obtain⟨c29,hs5,hI⟩:=hk5 _ _ _ _ hB2
  dsimp only[ca,na]at hI
  refine⟨_,rfl,?_⟩
  refine T ?_
  refine jR (c:=ie) (xs:=([([102,108,111,111,114]:List UInt8),([99,101,105,108]:List UInt8),([122,101,114,111]:List UInt8),([101,118,101,110]:List UInt8)]:List (List UInt8))) (vs:=[(0,(aC ([102,108,111,111,114]:List UInt8))),(1,(aC ([99,101,105,108]:List UInt8))),(2,(aC ([122,101,114,111]:List UInt8))),(3,(aC ([101,118,101,110]:List UInt8)))]) (cs:=#[(aC ([102,108,111,111,114]:List UInt8)),(aC ([99,101,105,108]:List UInt8)),(aC ([122,101,114,111]:List UInt8)),(aC ([101,118,101,110]:List UInt8))]) (css:=[[(aC ([102,108,111,111,114]:List UInt8))],[(aC ([99,101,105,108]:List UInt8))],[(aC ([122,101,114,111]:List UInt8))],[(aC ([101,118,101,110]:List UInt8))]]) hI gn rfl rfl DO ol rfl ⟨rfl,ai,⟨rfl,ai,⟨rfl,ai,⟨rfl,ai,trivial⟩⟩⟩⟩ (by kernel_rfl) ⟨rfl,⟨rfl,⟨rfl,⟨rfl,trivial⟩⟩⟩⟩ rfl rfl rfl ?_
  clear hI;intro b4 c30 w12 hI
  obtain⟨c31,hI⟩:=hI.release .z
  obtain⟨c32,f6,hB,hl6,hk6⟩:=hI.hands (.l (.r (.r .n)))
  obtain⟨⟨r8,s6⟩,hx6,h⟩:=af h
  try dsimp only at h
  refine aE gn rfl (ag (vs:=[vp b1 0,(vs (some ⟨b4,0,none⟩) ([([102,108,111,111,114]:List UInt8),([99,101,105,108]:List UInt8),([122,101,114,111]:List UInt8),([101,118,101,110]:List UInt8)]:List (List UInt8)).length 4)]) rfl AG ⟨et,⟨et,trivial⟩⟩) (Calls.mono (ip c32 f6 w12 s5 ([([102,108,111,111,114]:List UInt8),([99,101,105,108]:List UInt8),([122,101,114,111]:List UInt8),([101,118,101,110]:List UInt8)]:List (List UInt8)) b1 a8 c27 (some ⟨b4,0,none⟩) 4 (hB.subs ⟨(.s .z),.z,trivial⟩) _ hx6) ?_)
  rintro _ w13 ⟨a9,c33,c34,rfl,hB2⟩
  obtain⟨c35,hs6,hI⟩:=hk6 _ _ _ _ hB2
  dsimp only[ca,na]at hI
  refine⟨_,rfl,?_⟩
  refine T ?_
  refine ay (new:=[(vi (az (r8+1)))]) (cs':=#[vi 2,vi r4,vi r6,(vi (az (r8+1))),vi 0]) hI (.s .z) gn rfl rfl et et rfl gb rfl rfl rfl ?_
  clear hI;intro c36 w14 hI
  refine nk (du (α:=aa×(Option Addr)×Nat) (fun _=>⟨66,[]⟩) (fun x=>[(0,vp b1 0),(2,vp b2 0),(3,vi r1.at_),(4,vp b3 0)]) (fun x=>fun w=>∃ C,Bun C0 F w0 C w [MO.box b1 67 (ab (x.1) (x.2.1) (x.2.2)),MO.box b2 35 th,MO.box b3 35 #[vi 2,vi r4,vi r6,(vi (az (r8+1))),vi 0]] [Cl.sl ah (x.2.1) (x.2.2) (x.1).l]∧dD r4 r6 r8 r1 (x.1)=some r) ?_ ?_)
  ·clear h hI;rintro⟨r9,a10,c37⟩ w15 ⟨c38,hI,h⟩
   try dsimp only at hI h
   rw[dD]at h
   refine bz (e:=[(0,vp b1 0),(2,vp b2 0),(3,vi r1.at_),(4,vp b3 0)]) SB ?_
   refine T ?_
   obtain⟨c39,f7,hB,hl7,hk7⟩:=hI.hands (.l (.r (.r .n)))
   refine dY h (fun _ hx7=>aR c39 f7 w15 r9 ([44]:List UInt8) b1 a10 c37 (hB.subs ⟨.z,trivial⟩) _ hx7) (ky hk7) (ag rfl lC ⟨et,⟨ai,trivial⟩⟩) ?_
   rintro⟨r10,s7⟩ hx7 h _ w16 ⟨a11,c40,c41,rfl,hB2⟩
   try dsimp only at h
   obtain⟨c42,hs7,hI⟩:=hk7 _ _ _ _ hB2
   dsimp only[ca,na]at hI
   refine⟨_,rfl,?_⟩
   refine T ?_
   refine jR (c:=ie) (xs:=([([115,97,116]:List UInt8),([119,114,97,112]:List UInt8)]:List (List UInt8))) (vs:=[(0,(aC ([115,97,116]:List UInt8))),(1,(aC ([119,114,97,112]:List UInt8)))]) (cs:=#[(aC ([115,97,116]:List UInt8)),(aC ([119,114,97,112]:List UInt8))]) (css:=[[(aC ([115,97,116]:List UInt8))],[(aC ([119,114,97,112]:List UInt8))]]) hI gn rfl rfl DO ol rfl ⟨rfl,ai,⟨rfl,ai,trivial⟩⟩ (by kernel_rfl) ⟨rfl,⟨rfl,trivial⟩⟩ rfl rfl rfl ?_
   clear hI;intro b5 c43 w17 hI
   obtain⟨c44,hI⟩:=hI.release .z
   obtain⟨c45,f8,hB,hl8,hk8⟩:=hI.hands (.l (.r (.r .n)))
   obtain⟨⟨r11,s8⟩,hx8,h⟩:=af h
   try dsimp only at h
   refine aE gn rfl (ag (vs:=[vp b1 0,(vs (some ⟨b5,0,none⟩) ([([115,97,116]:List UInt8),([119,114,97,112]:List UInt8)]:List (List UInt8)).length 2)]) rfl AG ⟨et,⟨et,trivial⟩⟩) (Calls.mono (ip c45 f8 w17 s7 ([([115,97,116]:List UInt8),([119,114,97,112]:List UInt8)]:List (List UInt8)) b1 a11 c40 (some ⟨b5,0,none⟩) 2 (hB.subs ⟨(.s .z),.z,trivial⟩) _ hx8) ?_)
   rintro _ w18 ⟨a12,c46,c47,rfl,hB2⟩
   obtain⟨c48,hs8,hI⟩:=hk8 _ _ _ _ hB2
   dsimp only[ca,na]at hI
   refine⟨_,rfl,?_⟩
   refine T ?_
   refine ay (new:=[(vi (az (r11+1)))]) (cs':=#[vi 2,vi r4,vi r6,(vi (az (r8+1))),(vi (az (r11+1)))]) hI (.s (.s .z)) gn rfl rfl et et rfl gb rfl rfl rfl ?_
   clear hI;intro c49 w19 hI
   refine nk (du (α:=aa×(Option Addr)×Nat) (fun _=>⟨66,[]⟩) (fun x=>[(0,vp b1 0),(2,vp b2 0),(3,vi r1.at_),(4,vp b3 0)]) (fun x=>fun w=>∃ C,Bun C0 F w0 C w [MO.box b1 67 (ab (x.1) (x.2.1) (x.2.2)),MO.box b2 35 th,MO.box b3 35 #[vi 2,vi r4,vi r6,(vi (az (r8+1))),(vi (az (r11+1)))]] [Cl.sl ah (x.2.1) (x.2.2) (x.1).l]∧dC r4 r6 r8 r11 r1 (x.1)=some r) ?_ ?_)
   ·clear h hI;rintro⟨r12,a13,c50⟩ w20 ⟨c51,hI,h⟩
    try dsimp only at hI h
    rw[dC]at h
    refine bz (e:=[(0,vp b1 0),(2,vp b2 0),(3,vi r1.at_),(4,vp b3 0)]) SB ?_
    refine T ?_
    obtain⟨c52,f9,hB,hl9,hk9⟩:=hI.hands (.l (.r (.r .n)))
    refine dY h (fun _ hx9=>aR c52 f9 w20 r12 ([41]:List UInt8) b1 a13 c50 (hB.subs ⟨.z,trivial⟩) _ hx9) (ky hk9) (ag rfl lC ⟨et,⟨ai,trivial⟩⟩) ?_
    rintro⟨r13,s9⟩ hx9 h _ w21 ⟨a14,c53,c54,rfl,hB2⟩
    try dsimp only at h
    obtain⟨c55,hs9,hI⟩:=hk9 _ _ _ _ hB2
    dsimp only[ca,na]at hI
    refine⟨_,rfl,?_⟩
    refine nk (aB (T ?_))
    obtain⟨r14,hx10,h⟩:=af h
    refine aE gn rfl (ag (vs:=[(Value.agg #[vi 2,vi r4,vi r6,(vi (az (r8+1))),(vi (az (r11+1)))])]) rfl wQ ⟨et,trivial⟩) (Calls.mono (jk (Dj F c55) w21 hI.lt (⟨2,r4,r6,az (r8+1),az (r11+1)⟩:GType) trivial r14 hx10) ?_)
    rintro _ w22 ⟨rfl,hx11,hl10⟩
    refine⟨_,rfl,?_⟩
    replace hI:=(hI.ext hx11)
    refine T ?_
    refine bc h et (fun hb h=> ?_) (fun hb h=> ?_)
    ·refine T ?_
     rcases ii h with⟨r15,hx12,h⟩ | ⟨pa_,pn_,hx12,hp_⟩
     rotate_left
     ·subst hp_
      refine mz gn rfl (ag (vs:=[vp b1 0,vi r1.at_,vi 10]) rfl mh ⟨et,⟨et,⟨ai,trivial⟩⟩⟩) (Calls.mono (aT d5 w22 (fun _ k=>k.elim) s9 r1.at_ 10 b1 a14 c53 ⟨(hI.get0 .z),hI.lendBox .z,trivial⟩ (.pan pa_ pn_) hx12) ?_)
      intro e_ w_ hq_;obtain⟨rfl,hx_⟩:=eo hq_;have hI_:=hI.ext hx_;exact .inr ⟨_,rfl,ib (.inr ⟨_,_,rfl,rfl,⟨_,hI_.arr .n trivial⟩⟩)⟩
     try dsimp only at h
     refine aE gn rfl (ag (vs:=[vp b1 0,vi r1.at_,vi 10]) rfl mh ⟨et,⟨et,⟨ai,trivial⟩⟩⟩) (Calls.mono (aT d5 w22 (fun _ k=>k.elim) s9 r1.at_ 10 b1 a14 c53 ⟨(hI.get0 .z),hI.lendBox .z,trivial⟩ (.ret r15) hx12) ?_)
     intro e_ w23 hq_;obtain⟨rfl,hx13,hl11⟩:=en hq_
     refine⟨_,rfl,?_⟩
     replace hI:=(hI.ext hx13)
     refine T ?_
     refine ay (new:=[vi 2,vi r4,vi r6,(vi (az (r8+1))),(vi (az (r11+1)))]) (cs':=#[vi 2,vi r4,vi r6,(vi (az (r8+1))),(vi (az (r11+1)))]) hI (.s .z) gn rfl rfl et et rfl d4 rfl rfl rfl ?_
     clear hI;intro c56 w24 hI
     refine nk (al ?_)
     obtain rfl:=ac h
     refine QG ?_
     exact .inl ⟨_,rfl,a14,c53,_,rfl,hI.arr GO SU⟩
    refine T ?_
    refine ay (new:=[vi 2,vi r4,vi r6,(vi (az (r8+1))),(vi (az (r11+1)))]) (cs':=#[vi 2,vi r4,vi r6,(vi (az (r8+1))),(vi (az (r11+1)))]) hI (.s .z) gn rfl rfl et et rfl d4 rfl rfl rfl ?_
    clear hI;intro c57 w25 hI
    refine nk (al ?_)
    obtain rfl:=ac h
    refine QG ?_
    exact .inl ⟨_,rfl,a14,c53,_,rfl,hI.arr GO SU⟩
   refine T ?_
   refine bc h et (fun hb h=> ?_) (fun hb h=> ?_)
   ·refine T ?_
    obtain⟨c58,f10,hB,hl12,hk10⟩:=hI.hands (.l (.r (.r .n)))
    refine dY h (fun _ hx14=>dd c58 f10 w19 s8 b1 a12 c46 (hB.subs ⟨.z,trivial⟩) _ hx14) (ky hk10) (ag rfl qM ⟨et,trivial⟩) ?_
    rintro⟨r16,s10⟩ hx14 h _ w26 ⟨a15,c59,c60,rfl,hB2⟩
    try dsimp only at h
    obtain⟨c61,hs10,hI⟩:=hk10 _ _ _ _ hB2
    dsimp only[ca,na]at hI
    refine⟨_,rfl,?_⟩
    refine bl ?_
    exact bi (s10,a15,c59) SB ⟨_,hI.arr GO SU,h⟩ rfl
   exact cc (bi (s8,a12,c46) SB ⟨_,hI.arr GO SU,h⟩ rfl)
  refine T ?_
  refine bc h et (fun hb h=> ?_) (fun hb h=> ?_)
  ·refine T ?_
   obtain⟨c62,f11,hB,hl13,hk11⟩:=hI.hands (.l (.r (.r .n)))
   refine dY h (fun _ hx15=>dd c62 f11 w14 s6 b1 a9 c33 (hB.subs ⟨.z,trivial⟩) _ hx15) (ky hk11) (ag rfl qM ⟨et,trivial⟩) ?_
   rintro⟨r17,s11⟩ hx15 h _ w27 ⟨a16,c63,c64,rfl,hB2⟩
   try dsimp only at h
   obtain⟨c65,hs11,hI⟩:=hk11 _ _ _ _ hB2
   dsimp only[ca,na]at hI
   refine⟨_,rfl,?_⟩
   refine bl ?_
   exact bi (s11,a16,c63) SB ⟨_,hI.arr GO SU,h⟩ rfl
  exact cc (bi (s6,a9,c33) SB ⟨_,hI.arr GO SU,h⟩ rfl)
 refine T ?_
 refine jR (c:=ie) (xs:=([([102,114,97,99]:List UInt8),([105,110,116]:List UInt8),([102,105,120]:List UInt8)]:List (List UInt8))) (vs:=[(0,(aC ([102,114,97,99]:List UInt8))),(1,(aC ([105,110,116]:List UInt8))),(2,(aC ([102,105,120]:List UInt8)))]) (cs:=#[(aC ([102,114,97,99]:List UInt8)),(aC ([105,110,116]:List UInt8)),(aC ([102,105,120]:List UInt8))]) (css:=[[(aC ([102,114,97,99]:List UInt8))],[(aC ([105,110,116]:List UInt8))],[(aC ([102,105,120]:List UInt8))]]) hI gn rfl rfl DO ol rfl ⟨rfl,ai,⟨rfl,ai,⟨rfl,ai,trivial⟩⟩⟩ (by kernel_rfl) ⟨rfl,⟨rfl,⟨rfl,trivial⟩⟩⟩ rfl rfl rfl ?_
 clear hI;intro b6 c66 w28 hI
 obtain⟨c67,hI⟩:=hI.release .z
 obtain⟨c68,f12,hB,hl14,hk12⟩:=hI.hands (.r (.l .n))
 obtain⟨⟨r18,s12⟩,hx16,h⟩:=af h
 try dsimp only at h
 refine aE gn rfl (ag (vs:=[vp b1 0,(vs (some ⟨b6,0,none⟩) ([([102,114,97,99]:List UInt8),([105,110,116]:List UInt8),([102,105,120]:List UInt8)]:List (List UInt8)).length 3)]) rfl AG ⟨et,⟨et,trivial⟩⟩) (Calls.mono (ip c68 f12 w28 r1 ([([102,114,97,99]:List UInt8),([105,110,116]:List UInt8),([102,105,120]:List UInt8)]:List (List UInt8)) b1 a1 c1 (some ⟨b6,0,none⟩) 3 (hB.subs ⟨(.s .z),.z,trivial⟩) _ hx16) ?_)
 rintro _ w29 ⟨a17,c69,c70,rfl,hB2⟩
 obtain⟨c71,hs12,hI⟩:=hk12 _ _ _ _ hB2
 dsimp only[ca,na]at hI
 refine⟨_,rfl,?_⟩
 refine T ?_
 refine bc h et (fun hb h=> ?_) (fun hb h=> ?_)
 ·refine sr (sq (aV (vs:=[(0,vi 1)]) (cs:=#[vi 1,vi 0,vi 0,vi 0,vi 0]) rfl ⟨rfl,ai,trivial⟩ (by kernel_rfl)) ?_)
  refine ay (new:=[vi 1,vi 0,vi 0,vi 0,vi 0]) (cs':=#[vi 1,vi 0,vi 0,vi 0,vi 0]) hI (.s .z) gn rfl rfl et et rfl d4 rfl rfl rfl ?_
  clear hI;intro c72 w30 hI
  refine nk (al ?_)
  obtain rfl:=ac h
  refine QG ?_
  exact .inl ⟨_,rfl,a17,c69,_,rfl,hI.arr GO SU⟩
 refine T ?_
 refine bc h et (fun hb h=> ?_) (fun hb h=> ?_)
 ·refine sr (sq (aV (vs:=[(0,vi 3)]) (cs:=#[vi 3,vi 0,vi 0,vi 0,vi 0]) rfl ⟨rfl,ai,trivial⟩ (by kernel_rfl)) ?_)
  refine ay (new:=[vi 3,vi 0,vi 0,vi 0,vi 0]) (cs':=#[vi 3,vi 0,vi 0,vi 0,vi 0]) hI (.s .z) gn rfl rfl et et rfl d4 rfl rfl rfl ?_
  clear hI;intro c73 w31 hI
  refine nk (al ?_)
  obtain rfl:=ac h
  refine QG ?_
  exact .inl ⟨_,rfl,a17,c69,_,rfl,hI.arr GO SU⟩
 refine T ?_
 refine bc h et (fun hb h=> ?_) (fun hb h=> ?_)
 ·refine T ?_
  obtain⟨c74,f13,hB,hl15,hk13⟩:=hI.hands (.l (.r .n))
  refine dY h (fun _ hx17=>dd c74 f13 w29 s12 b1 a17 c69 (hB.subs ⟨.z,trivial⟩) _ hx17) (ky hk13) (ag rfl qM ⟨et,trivial⟩) ?_
  rintro⟨r19,s13⟩ hx17 h _ Hg ⟨a18,c75,c76,rfl,hB2⟩
  try dsimp only at h
  obtain⟨c77,hs13,hI⟩:=hk13 _ _ _ _ hB2
  dsimp only[ca,na]at hI
  refine⟨_,rfl,?_⟩
  refine bl ?_
  exact bi (s13,a18,c75) SB ⟨_,hI.arr GO SU,h⟩ rfl
 exact cc (bi (s12,a17,c69) SB ⟨_,hI.arr GO SU,h⟩ rfl)
theorem iU (C0 F:NP) (w0:World) (r1:aa) (b1:Nat) (a1:Option Addr) (c1:Nat) (hI:Bun C0 F w0 C0 w0 [MO.box b1 67 (ab r1 a1 c1)] [Cl.sl ah a1 c1 r1.l]) (r:bk (GExpr×aa))
  (h:bV r1=some r):
  Calls Tryz.prog 255 #[vp b1 0] w0 fun e w=>(∃ rx:GExpr×aa,r= .ret rx∧∃ (a2:Option Addr) (c2:Nat) (a3:Option Addr) (c3:Nat) (a4:Option Addr) (c4:Nat) (a5:Option Addr) (c5:Nat) (C:NP),e= .returned (Value.agg (am rx.1 a2 c2 a3 c3 a4 c4))∧Bun C0 F w0 C w [MO.box b1 67 (ab rx.2 a5 c5)] [Cl.sl aj a2 c2 rx.1.Lin.L,Cl.sl ak a3 c3 rx.1.Idx,Cl.sl au a4 c4 rx.1.Args,Cl.sl ah a5 c5 rx.2.l])∨∃ (pa pn:Int),r= .pan pa pn∧e= .panicked [pe 114 pa pn]∧∃ C:NP,Bun C0 F w0 C w [] []:=by
 refine fj (l:=[vp b1 0]) Tryz.func255 rfl Tryz.ntmps255 rfl ?_
 rw[bV]at h
 refine sr (aN (cs:=#[vi 0,(aC ([]:List UInt8)),vi 0,vi 0,vi 0,vi 0,vi 0,vi 0,vi 0,vi 0,vs none 0 0,vs none 0 0,vs none 0 0]) hI gn rfl rfl bA rfl ?_)
 clear hI;intro b2 c6 w1 hI
 refine T ?_
 obtain⟨c7,f1,hB,hl1,hk1⟩:=hI.hands (.r (.l .n))
 refine dY h (fun _ hx1=>mj c7 f1 w1 r1 b1 a1 c1 (hB.subs ⟨.z,trivial⟩) _ hx1) (ky hk1) (ag rfl CS ⟨et,trivial⟩) ?_
 rintro⟨r2,s1⟩ hx1 h _ w2 ⟨a6,c8,c9,rfl,hB2⟩
 try dsimp only at h
 obtain⟨c10,hs1,hI⟩:=hk1 _ _ _ _ hB2
 dsimp only[ca,na]at hI
 refine⟨_,rfl,?_⟩
 refine aN (cs:=th) hI gn rfl rfl tL rfl ?_
 clear hI;intro b3 c11 w3 hI
 refine ay (new:=(gz r2)) (cs':=(cv r2)) hI .z gn rfl rfl et et rfl d4 rfl rfl rfl ?_
 clear hI;intro c12 w4 hI
 refine T ?_
 obtain⟨c13,f2,hB,hl2,hk2⟩:=hI.hands (.r (.l (.r .n)))
 refine dY h (fun _ hx2=>aR c13 f2 w4 s1 ([40]:List UInt8) b1 a6 c8 (hB.subs ⟨.z,trivial⟩) _ hx2) (ky hk2) (ag rfl lC ⟨et,⟨ai,trivial⟩⟩) ?_
 rintro⟨r3,s2⟩ hx2 h _ w5 ⟨a7,c14,c15,rfl,hB2⟩
 try dsimp only at h
 obtain⟨c16,hs2,hI⟩:=hk2 _ _ _ _ hB2
 dsimp only[ca,na]at hI
 refine⟨_,rfl,?_⟩
 refine T ?_
 refine du (α:=(List UInt8)×aa×(Option Addr)×Nat) (fun _=>⟨46,[]⟩) (fun x=>[(0,vp b1 0),(2,vp b2 0),(3,vp b3 0),(4,vi s2.at_),(5,(aC (x.1)))]) (fun x=>fun w=>∃ C,Bun C0 F w0 C w [MO.box b1 67 (ab (x.2.1) (x.2.2.1) (x.2.2.2)),MO.box b2 39 #[vi 0,(aC ([]:List UInt8)),vi 0,vi 0,vi 0,vi 0,vi 0,vi 0,vi 0,vi 0,vs none 0 0,vs none 0 0,vs none 0 0],MO.box b3 35 (cv r2)] [Cl.sl ah (x.2.2.1) (x.2.2.2) (x.2.1).l]∧bU r2 s2 (x.1) (x.2.1)=some r) ?_ ?_
 ·clear h hI;rintro⟨text1,r4,a8,c17⟩ w6 ⟨c18,hI,h⟩
  try dsimp only at hI h
  rw[bU]at h
  refine bz (e:=[(0,vp b1 0),(2,vp b2 0),(3,vp b3 0),(4,vi s2.at_),(5,(aC text1))]) SB ?_
  refine T ?_
  obtain⟨c19,f3,hB,hl3,hk3⟩:=hI.hands (.l (.r (.r .n)))
  refine dY h (fun _ hx3=>gG c19 f3 w6 r4 b1 a8 c17 (hB.subs ⟨.z,trivial⟩) _ hx3) (ky hk3) (ag rfl wT ⟨et,trivial⟩) ?_
  rintro⟨r5,s3⟩ hx3 h _ w7 ⟨a9,c20,c21,rfl,hB2⟩
  try dsimp only at h
  obtain⟨c22,hs3,hI⟩:=hk3 _ _ _ _ hB2
  dsimp only[ca,na]at hI
  refine⟨_,rfl,?_⟩
  obtain⟨s4,hx4,h⟩:=af h
  refine sq (qG rfl et et hx4) ?_
  refine T ?_
  refine du (α:=(List UInt8)×aa×(Option Addr)×Nat) (fun _=>⟨46,[]⟩) (fun x=>[(0,vp b1 0),(2,vp b2 0),(3,vp b3 0),(4,vi s2.at_),(5,(aC (x.1)))]) (fun x=>fun w=>∃ C,Bun C0 F w0 C w [MO.box b1 67 (ab (x.2.1) (x.2.2.1) (x.2.2.2)),MO.box b2 39 #[vi 0,(aC ([]:List UInt8)),vi 0,vi 0,vi 0,vi 0,vi 0,vi 0,vi 0,vi 0,vs none 0 0,vs none 0 0,vs none 0 0],MO.box b3 35 (cv r2)] [Cl.sl ah (x.2.2.1) (x.2.2.2) (x.2.1).l]∧cu r2 s2 (x.1) (x.2.1)=some r) ?_ ?_
  ·clear h hI;rintro⟨text2,r6,a10,c23⟩ w8 ⟨c24,hI,h⟩
   try dsimp only at hI h
   rw[cu]at h
   refine bz (e:=[(0,vp b1 0),(2,vp b2 0),(3,vp b3 0),(4,vi s2.at_),(5,(aC text2))]) SB ?_
   refine T ?_
   obtain⟨r7,hx5,h⟩:=af h
   refine aE gn rfl (ag (vs:=[(Value.agg (cv r2)),(aC text2)]) rfl FT ⟨et,⟨et,trivial⟩⟩) (Calls.mono (vD (Dj F c24) w8 hI.lt r2 text2 trivial r7 hx5) ?_)
   rintro _ w9 ⟨rfl,hx6,hl4⟩
   refine⟨_,rfl,?_⟩
   replace hI:=(hI.ext hx6)
   refine T ?_
   refine aN (cs:=#[vi 0,vi 0]) hI gn rfl rfl rf rfl ?_
   clear hI;intro b4 c25 w10 hI
   refine ay (new:=(qn r7.1)) (cs':=(oM r7.1)) hI .z gn rfl rfl et et rfl fH rfl rfl rfl ?_
   clear hI;intro c26 w11 hI
   refine T ?_
   refine du (α:=Unit) (fun _=>⟨46,[]⟩) (fun _=>[(0,vp b1 0),(2,vp b2 0),(3,vp b3 0),(6,vp b4 0)]) (fun _=>fun w=>∃ C,Bun C0 F w0 C w [MO.box b1 67 (ab r6 a10 c23),MO.box b2 39 #[vi 0,(aC ([]:List UInt8)),vi 0,vi 0,vi 0,vi 0,vi 0,vi 0,vi 0,vi 0,vs none 0 0,vs none 0 0,vs none 0 0],MO.box b3 35 (cv r2),MO.box b4 33 (oM r7.1)] [Cl.sl ah a10 c23 r6.l]∧di r6 r7 r2=some r) ?_ ?_
   ·clear h hI;rintro _ w12 ⟨c27,hI,h⟩
    try dsimp only at hI h
    rw[di]at h
    refine bz (e:=[(0,vp b1 0),(2,vp b2 0),(3,vp b3 0),(6,vp b4 0)]) SB ?_
    refine T ?_
    obtain⟨c28,f4,hB,hl5,hk4⟩:=hI.hands (.l (.r (.r (.r .n))))
    refine dY h (fun _ hx7=>aR c28 f4 w12 r6 ([41]:List UInt8) b1 a10 c23 (hB.subs ⟨.z,trivial⟩) _ hx7) (ky hk4) (ag rfl lC ⟨et,⟨ai,trivial⟩⟩) ?_
    rintro⟨r8,s5⟩ hx7 h _ w13 ⟨a11,c29,c30,rfl,hB2⟩
    try dsimp only at h
    obtain⟨c31,hs4,hI⟩:=hk4 _ _ _ _ hB2
    dsimp only[ca,na]at hI
    refine⟨_,rfl,?_⟩
    refine T ?_
    refine sq (aV (vs:=[(0,vi 1),(3,(Value.agg (cv r2))),(2,(Value.agg (oM r7.1)))]) (cs:=#[vi 1,(aC ([]:List UInt8)),vi r7.1.N,vi r7.1.D,vi r2.Kind,vi r2.Bits,vi r2.Frac,vi r2.Round,vi r2.Over,vi 0,vs none 0 0,vs none 0 0,vs none 0 0]) rfl ⟨rfl,ai,⟨rfl,et,⟨rfl,et,trivial⟩⟩⟩ (by kernel_rfl)) ?_
    refine ay (new:=[vi 1,(aC ([]:List UInt8)),vi r7.1.N,vi r7.1.D,vi r2.Kind,vi r2.Bits,vi r2.Frac,vi r2.Round,vi r2.Over,vi 0,vs none 0 0,vs none 0 0,vs none 0 0]) (cs':=#[vi 1,(aC ([]:List UInt8)),vi r7.1.N,vi r7.1.D,vi r2.Kind,vi r2.Bits,vi r2.Frac,vi r2.Round,vi r2.Over,vi 0,vs none 0 0,vs none 0 0,vs none 0 0]) hI (.s .z) gn rfl rfl et et rfl aF rfl rfl rfl ?_
    clear hI;intro c32 w14 hI
    refine nk (al ?_)
    have hI:=hI.add (c:=Cl.sl aj none 0 ([]:List GMono)) SlC.nil
    have hI:=hI.add (c:=Cl.sl ak none 0 ([]:List GIndex)) SlC.nil
    have hI:=hI.add (c:=Cl.sl au none 0 ([]:List GExpr)) SlC.nil
    obtain rfl:=ac h
    refine QG ?_
    exact .inl ⟨_,rfl,none,0,none,0,none,0,a11,c29,_,rfl,hI.arr GO SU⟩
   refine T ?_
   refine bc h et (fun hb h=> ?_) (fun hb h=> ?_)
   ·refine T ?_
    rcases ii h with⟨r9,hx8,h⟩ | ⟨pa_,pn_,hx8,hp_⟩
    rotate_left
    ·subst hp_
     refine mz gn rfl (ag (vs:=[vp b1 0,vi s2.at_,vi r7.2]) rfl mh ⟨et,⟨et,⟨et,trivial⟩⟩⟩) (Calls.mono (aT d5 w11 (fun _ k=>k.elim) r6 s2.at_ r7.2 b1 a10 c23 ⟨(hI.get0 .z),hI.lendBox (.s .z),trivial⟩ (.pan pa_ pn_) hx8) ?_)
     intro e_ w_ hq_;obtain⟨rfl,hx_⟩:=eo hq_;have hI_:=hI.ext hx_;exact .inr ⟨_,rfl,ib (.inr ⟨_,_,rfl,rfl,⟨_,hI_.arr .n trivial⟩⟩)⟩
    try dsimp only at h
    refine aE gn rfl (ag (vs:=[vp b1 0,vi s2.at_,vi r7.2]) rfl mh ⟨et,⟨et,⟨et,trivial⟩⟩⟩) (Calls.mono (aT d5 w11 (fun _ k=>k.elim) r6 s2.at_ r7.2 b1 a10 c23 ⟨(hI.get0 .z),hI.lendBox (.s .z),trivial⟩ (.ret r9) hx8) ?_)
    intro e_ w15 hq_;obtain⟨rfl,hx9,hl6⟩:=en hq_
    refine⟨_,rfl,?_⟩
    replace hI:=(hI.ext hx9)
    refine bl ?_
    exact bi () SB ⟨_,hI.arr GO SU,h⟩ rfl
   exact cc (bi () SB ⟨_,hI.arr GO SU,h⟩ rfl)
  refine T ?_
  obtain⟨c33,f5,hB,hl7,hk5⟩:=hI.hands (.l (.r (.r .n)))
  obtain⟨⟨r10,s6⟩,hx10,h⟩:=af h
  try dsimp only at h
  refine aE gn rfl (ag (vs:=[vp b1 0,(aC ([47]:List UInt8))]) rfl mK ⟨et,⟨ai,trivial⟩⟩) (Calls.mono (aM c33 f5 w7 s3 ([47]:List UInt8) b1 a9 c20 (hB.subs ⟨.z,trivial⟩) _ hx10) ?_)
  rintro _ w16 ⟨a12,c34,c35,rfl,hB2⟩
  obtain⟨c36,hs5,hI⟩:=hk5 _ _ _ _ hB2
  dsimp only[ca,na]at hI
  refine⟨_,rfl,?_⟩
  refine nk (bc h et (fun hb h=> ?_) (fun hb h=> ?_))
  ·refine T ?_
   obtain⟨c37,f6,hB,hl8,hk6⟩:=hI.hands (.l (.r (.r .n)))
   refine dY h (fun _ hx11=>gG c37 f6 w16 s6 b1 a12 c34 (hB.subs ⟨.z,trivial⟩) _ hx11) (ky hk6) (ag rfl wT ⟨et,trivial⟩) ?_
   rintro⟨r11,s7⟩ hx11 h _ w17 ⟨a13,c38,c39,rfl,hB2⟩
   try dsimp only at h
   obtain⟨c40,hs6,hI⟩:=hk6 _ _ _ _ hB2
   dsimp only[ca,na]at hI
   refine⟨_,rfl,?_⟩
   obtain⟨s8,hx12,h⟩:=af h
   refine sq (qG rfl ai et hx12) ?_
   obtain⟨s9,hx13,h⟩:=af h
   refine sq (qG rfl et et hx13) ?_
   refine sa ?_
   refine bl ?_
   exact bi (s9,s7,a13,c38) SB ⟨_,hI.arr GO SU,h⟩ rfl
  exact cc (bi (s4,s6,a12,c34) SB ⟨_,hI.arr GO SU,h⟩ rfl)
 refine T ?_
 obtain⟨c41,f7,hB,hl9,hk7⟩:=hI.hands (.l (.r (.r .n)))
 obtain⟨⟨r12,s10⟩,hx14,h⟩:=af h
 try dsimp only at h
 refine aE gn rfl (ag (vs:=[vp b1 0,(aC ([45]:List UInt8))]) rfl mK ⟨et,⟨ai,trivial⟩⟩) (Calls.mono (aM c41 f7 w5 s2 ([45]:List UInt8) b1 a7 c14 (hB.subs ⟨.z,trivial⟩) _ hx14) ?_)
 rintro _ w18 ⟨a14,c42,c43,rfl,hB2⟩
 obtain⟨c44,hs7,hI⟩:=hk7 _ _ _ _ hB2
 dsimp only[ca,na]at hI
 refine⟨_,rfl,?_⟩
 refine nk (bc h et (fun hb h=> ?_) (fun hb h=> ?_))
 ·refine T ?_
  refine bl ?_
  exact bi (([45]:List UInt8),s10,a14,c42) SB ⟨_,hI.arr GO SU,h⟩ rfl
 exact cc (bi (([]:List UInt8),s10,a14,c42) SB ⟨_,hI.arr GO SU,h⟩ rfl)
def dT:Tr:=(.c (5,.s) (.c (6,.q) (.c (7,.s) .n)))
def cU:Tr:=(.c (4,.s) dT)
theorem j5 (rec_:(aa→Option (bk (GExpr×aa)))) (hrec:∀ (C0 F:NP) (w0:World) (r1:aa) (b1:Nat) (a1:Option Addr) (c1:Nat) (hI:Bun C0 F w0 C0 w0 [MO.box b1 67 (ab r1 a1 c1)] [Cl.sl ah a1 c1 r1.l,aA]) (r:bk (GExpr×aa)) (h:rec_ r1=some r),Calls Tryz.prog 34 #[vp b1 0] w0 fun e w=>(∃ rx:GExpr×aa,r= .ret rx∧∃ (a2:Option Addr) (c2:Nat) (a3:Option Addr) (c3:Nat) (a4:Option Addr) (c4:Nat) (a5:Option Addr) (c5:Nat) (C:NP),e= .returned (Value.agg (am rx.1 a2 c2 a3 c3 a4 c4))∧Bun C0 F w0 C w [MO.box b1 67 (ab rx.2 a5 c5)] [Cl.sl aj a2 c2 rx.1.Lin.L,Cl.sl ak a3 c3 rx.1.Idx,Cl.sl au a4 c4 rx.1.Args,Cl.sl ah a5 c5 rx.2.l])∨∃ (pa pn:Int),r= .pan pa pn∧e= .panicked [pe 114 pa pn]∧∃ C:NP,Bun C0 F w0 C w [] []) (C0 F:NP) (w0:World) (r1:aa) (op1:Int) (many1:Int) (b1:Nat) (a1:Option Addr) (c1:Nat) (hI:Bun C0 F w0 C0 w0 [MO.box b1 67 (ab r1 a1 c1)] [Cl.sl ah a1 c1 r1.l,aA]) (r:bk (GExpr×aa))
  (h:cI rec_ r1 op1 many1=some r):
  Calls Tryz.prog 256 #[vp b1 0,vi op1,vi many1] w0 fun e w=>(∃ rx:GExpr×aa,r= .ret rx∧∃ (a2:Option Addr) (c2:Nat) (a3:Option Addr) (c3:Nat) (a4:Option Addr) (c4:Nat) (a5:Option Addr) (c5:Nat) (C:NP),e= .returned (Value.agg (am rx.1 a2 c2 a3 c3 a4 c4))∧Bun C0 F w0 C w [MO.box b1 67 (ab rx.2 a5 c5)] [Cl.sl aj a2 c2 rx.1.Lin.L,Cl.sl ak a3 c3 rx.1.Idx,Cl.sl au a4 c4 rx.1.Args,Cl.sl ah a5 c5 rx.2.l])∨∃ (pa pn:Int),r= .pan pa pn∧e= .panicked [pe 114 pa pn]∧∃ C:NP,Bun C0 F w0 C w [] []:=by
 refine fj (l:=[vp b1 0,vi op1,vi many1]) Tryz.func256 rfl Tryz.ntmps256 rfl ?_
 rw[cI]at h
 refine sr (aN (cs:=#[vi 0,(aC ([]:List UInt8)),vi 0,vi 0,vi 0,vi 0,vi 0,vi 0,vi 0,vi 0,vs none 0 0,vs none 0 0,vs none 0 0]) hI gn rfl rfl bA rfl ?_)
 clear hI;intro b2 c6 w1 hI
 refine T ?_
 refine sq (aV (vs:=[(0,vi op1)]) (cs:=#[vi op1,(aC ([]:List UInt8)),vi 0,vi 0,vi 0,vi 0,vi 0,vi 0,vi 0,vi 0,vs none 0 0,vs none 0 0,vs none 0 0]) rfl ⟨rfl,et,trivial⟩ (by kernel_rfl)) ?_
 refine aN (cs:=#[vi 0,(aC ([]:List UInt8)),vi 0,vi 0,vi 0,vi 0,vi 0,vi 0,vi 0,vi 0,vs none 0 0,vs none 0 0,vs none 0 0]) hI gn rfl rfl bA rfl ?_
 clear hI;intro b3 c7 w2 hI
 refine ay (new:=[vi op1,(aC ([]:List UInt8)),vi 0,vi 0,vi 0,vi 0,vi 0,vi 0,vi 0,vi 0,vs none 0 0,vs none 0 0,vs none 0 0]) (cs':=#[vi op1,(aC ([]:List UInt8)),vi 0,vi 0,vi 0,vi 0,vi 0,vi 0,vi 0,vi 0,vs none 0 0,vs none 0 0,vs none 0 0]) hI .z gn rfl rfl et et rfl aF rfl rfl rfl ?_
 clear hI;intro c8 w3 hI
 refine T ?_
 obtain⟨c9,f1,hB,hl1,hk1⟩:=hI.hands (.r (.r (.l .n)))
 refine dY h (fun _ hx1=>j3 c9 f1 w3 r1 b1 a1 c1 (hB.subs ⟨.z,trivial⟩) _ hx1) (ky hk1) (ag rfl zu ⟨et,trivial⟩) ?_
 rintro⟨r2,s1⟩ hx1 h _ w4 ⟨a6,c10,c11,rfl,hB2⟩
 try dsimp only at h
 obtain⟨c12,hs1,hI⟩:=hk1 _ _ _ _ hB2
 dsimp only[ca,na]at hI
 refine⟨_,rfl,?_⟩
 refine nk (aB (T ?_))
 have hI:=hI.nil aj 64 none
 have hI:=hI.nil ak 132 none
 have hI:=hI.nil au 39 none
 refine cO (α:=Nat×Int×aa×GExpr×(Option Addr)×Nat×(Option Addr)×Nat×(Option Addr)×Nat×(Option Addr)×Nat) (fun x=>fun w=>∃ C,Bun C0 F w0 C w [MO.row aj 64 (x.2.2.2.2.2.2.1) (x.2.2.2.2.2.2.2.1) (x.2.2.2.1).Lin.L,MO.row ak 132 (x.2.2.2.2.2.2.2.2.1) (x.2.2.2.2.2.2.2.2.2.1) (x.2.2.2.1).Idx,MO.row au 39 (x.2.2.2.2.2.2.2.2.2.2.1) (x.2.2.2.2.2.2.2.2.2.2.2) (x.2.2.2.1).Args,MO.box b1 67 (ab (x.2.2.1) (x.2.2.2.2.1) (x.2.2.2.2.2.1)),MO.box b2 39 #[vi 0,(aC ([]:List UInt8)),vi 0,vi 0,vi 0,vi 0,vi 0,vi 0,vi 0,vi 0,vs none 0 0,vs none 0 0,vs none 0 0],MO.box b3 39 (am (x.2.2.2.1) (x.2.2.2.2.2.2.1) (x.2.2.2.2.2.2.2.1) (x.2.2.2.2.2.2.2.2.1) (x.2.2.2.2.2.2.2.2.2.1) (x.2.2.2.2.2.2.2.2.2.2.1) (x.2.2.2.2.2.2.2.2.2.2.2))] [Cl.sl ah (x.2.2.2.2.1) (x.2.2.2.2.2.1) (x.2.2.1).l,aA]∧bj many1 rec_ (x.1) (x.2.1) (x.2.2.1) (x.2.2.2.1)=some r) (fun x _=>x.1) (fun x=>[(0,vp b1 0),(6,vp b2 0),(7,vp b3 0),(13,vi many1),(14,vi (x.2.1))]) (fu,0,s1,(⟨op1,([]:List UInt8),(⟨0,0⟩:GVal),(⟨0,0,0,0,0⟩:GType),(⟨0,([]:List GMono)⟩:GLin),([]:List GIndex),([]:List GExpr)⟩:GExpr),a6,c10,none,0,none,0,none,0) ⟨_,hI.arr (.c (.s (.s .z)) (.c (.s .z) (.c .z (.c .z (.c (.s .z) (.c .z .n)))))) ⟨.z,(.s (.s .z)),trivial⟩,h⟩ SB ?_
 clear h hI;rintro⟨fuel1,i1,r3,e1,a7,c13,a8,c14,a9,c15,a10,c16⟩ w5 ⟨c17,hI,h⟩
 dsimp only at hI h
 rcases fuel1 with _ | fuel1
 ·rw[bj]at h;cases h
 rw[bj]at h
 refine bz (e:=[(0,vp b1 0),(6,vp b2 0),(7,vp b3 0),(13,vi many1),(14,vi i1)]) SB ?_
 refine T ?_
 refine aB (bc h et (fun hb h=> ?_) (fun hb h=> ?_))
 ·refine T ?_
  refine aB (T ?_)
  refine du (α:=aa×(Option Addr)×Nat) (fun _=>⟨32,[]⟩) (fun x=>[(0,vp b1 0),(6,vp b2 0),(7,vp b3 0),(13,vi many1),(14,vi i1)]) (fun x=>fun w=>∃ C,Bun C0 F w0 C w [MO.box b1 67 (ab (x.1) (x.2.1) (x.2.2)),MO.box b2 39 #[vi 0,(aC ([]:List UInt8)),vi 0,vi 0,vi 0,vi 0,vi 0,vi 0,vi 0,vi 0,vs none 0 0,vs none 0 0,vs none 0 0],MO.box b3 39 (am e1 a8 c14 a9 c15 a10 c16),MO.row aj 64 a8 c14 e1.Lin.L,MO.row ak 132 a9 c15 e1.Idx,MO.row au 39 a10 c16 e1.Args] [Cl.sl ah (x.2.1) (x.2.2) (x.1).l,aA]∧dm rec_ e1 (bj many1 rec_ fuel1) i1 (x.1)=some r) ?_ ?_
  ·clear h hI;rintro⟨r4,a11,c18⟩ w6 ⟨c19,hI,h⟩
   try dsimp only at hI h
   rw[dm]at h
   refine bz (e:=[(0,vp b1 0),(6,vp b2 0),(7,vp b3 0),(13,vi many1),(14,vi i1)]) SB ?_
   rcases ii h with⟨⟨r5,s2⟩,hx2,h⟩ | ⟨pa_,pn_,hx2,hp_⟩
   rotate_left
   ·subst hp_
    refine bx [3,5,7] false (.c (0,.q) (.c (2,.q) (.two 1 (.c (3,.s) cU) 3 (.two 1 cU 4 (.c (1,.s) dT))))) hI (by kernel_rfl) (by kernel_rfl) ?_
    clear hI;intro w13 hI
    refine V ?_
    refine gV ?_ ?_
    ·skip
     refine dK rfl gn rfl (eG (v:=(vs a10 e1.Args.length c16)) rfl et xP rfl (CellsAt.of_blk (hI.blk (.s (.s .z))) rfl)) SX.self ?_
     refine hO (F:=F) (C:=c19) rfl rfl ?_
     obtain⟨c20,f2,hB,hl2,hk2⟩:=hI.hands (.l (.r (.r (.r (.r (.r .n))))))
     refine eB rfl gn rfl (ag (vs:=[vp b1 0]) rfl nS ⟨et,trivial⟩) (Calls.mono (hrec c20 f2 w13 r4 b1 a11 c18 (hB.subs ⟨.z,(.s .z),trivial⟩) _ hx2) ?_)
     intro e_ w_ hq_;obtain⟨rfl,C_,hB_⟩:=eo hq_;obtain⟨C9_,-,hI_⟩:=hk2 _ _ _ _ hB_;exact .inr ⟨_,rfl,ib (.inr ⟨_,_,rfl,rfl,⟨_,hI_.arr .n trivial⟩⟩)⟩
    refine dw (F:=F) (C:=c19) rfl rfl ?_
    obtain⟨c20,f2,hB,hl2,hk2⟩:=hI.hands (.l (.r (.r (.r (.r (.r .n))))))
    refine eB rfl gn rfl (ag (vs:=[vp b1 0]) rfl nS ⟨et,trivial⟩) (Calls.mono (hrec c20 f2 w13 r4 b1 a11 c18 (hB.subs ⟨.z,(.s .z),trivial⟩) _ hx2) ?_)
    intro e_ w_ hq_;obtain⟨rfl,C_,hB_⟩:=eo hq_;obtain⟨C9_,-,hI_⟩:=hk2 _ _ _ _ hB_;exact .inr ⟨_,rfl,ib (.inr ⟨_,_,rfl,rfl,⟨_,hI_.arr .n trivial⟩⟩)⟩
   try dsimp only at h
   obtain⟨zs1,hx3,h⟩:=af h
   refine bx [3,5,7] false (.c (0,.q) (.c (2,.q) (.two 1 (.c (3,.s) cU) 3 (.two 1 cU 4 (.c (1,.s) dT))))) hI (by kernel_rfl) (by kernel_rfl) ?_
   clear hI;intro w14 hI
   refine ge (α:=(Option Addr)×Nat×(Option Addr)×Nat×(Option Addr)×Nat×(Option Addr)×Nat×Nat×NP) (T:=dT) (fun x=>[(0,vp b1 0),(6,vp b2 0),(7,vp b3 0),(13,vi many1),(14,vi i1),(21,vp b3 12),(22,vs a10 e1.Args.length c16),(23,vp b1 0),(24,(Value.agg (am r5 (x.1) (x.2.1) (x.2.2.1) (x.2.2.2.1) (x.2.2.2.2.1) (x.2.2.2.2.2.1)))),(25,(vs (some ⟨(x.2.2.2.2.2.2.2.2.1),0,none⟩) ([r5]:List GExpr).length 1))]) (fun x w=>Bun C0 F w0 (x.2.2.2.2.2.2.2.2.2) w [MO.row au 39 (some ⟨(x.2.2.2.2.2.2.2.2.1),0,none⟩) 1 ([r5]:List GExpr),MO.box b1 67 (ab s2 (x.2.2.2.2.2.2.1) (x.2.2.2.2.2.2.2.1)),MO.box b2 39 #[vi 0,(aC ([]:List UInt8)),vi 0,vi 0,vi 0,vi 0,vi 0,vi 0,vi 0,vi 0,vs none 0 0,vs none 0 0,vs none 0 0],MO.box b3 39 (am e1 a8 c14 a9 c15 a10 c16),MO.row aj 64 a8 c14 e1.Lin.L,MO.row ak 132 a9 c15 e1.Idx,MO.row au 39 a10 c16 e1.Args] [Cl.sl aj (x.1) (x.2.1) r5.Lin.L,Cl.sl ak (x.2.2.1) (x.2.2.2.1) r5.Idx,Cl.sl au (x.2.2.2.2.1) (x.2.2.2.2.2.1) r5.Args,Cl.sl ah (x.2.2.2.2.2.2.1) (x.2.2.2.2.2.2.2.1) s2.l,Cl.sl ah a11 c18 r4.l,aA]) (fun x w=>SN [] (DM true F (x.2.2.2.2.2.2.2.2.2)) w) ?_ ?_
   ·clear hI;rintro⟨a12,c21,a13,c22,a14,c23,a15,c24,b4,c32⟩ w12 hI
    try dsimp only at hI ⊢
    unfold dT
    refine wl (xs:=e1.Args) (ys:=([r5]:List GExpr)) hI (.s (.s (.s (.s (.s (.s .z)))))) (hI.rd .z) hx3 rfl gn rfl rfl xP kx rfl rfl et et ?_
    clear hI;intro a16 c28 c29 w9 hI
    refine V ?_
    refine fT (new:=[vs a16 zs1.length c28]) (cs':=#[vi e1.Op,(aC e1.Name),vi e1.Val.N,vi e1.Val.D,vi e1.Type_.Kind,vi e1.Type_.Bits,vi e1.Type_.Frac,vi e1.Type_.Round,vi e1.Type_.Over,vi e1.Lin.K,vs a8 e1.Lin.L.length c14,vs a9 e1.Idx.length c15,vs a16 zs1.length c28]) hI (.s (.s (.s .z))) rfl gn rfl rfl et et rfl D5 rfl rfl rfl ?_
    clear hI;intro c30 w10 hI
    refine V ?_
    refine T ?_
    refine bl ?_
    exact cg (fuel1,az (i1+1),s2,(⟨e1.Op,e1.Name,e1.Val,e1.Type_,e1.Lin,e1.Idx,zs1⟩:GExpr),a15,c24,a8,c14,a9,c15,a16,c28) SB ⟨_,hI.arr GO SU,h⟩ (Nat.lt_succ_self _)
   intro hk_tr_parser_reader_call_w_3_1
   refine ge (α:=(Option Addr)×Nat×(Option Addr)×Nat×(Option Addr)×Nat×(Option Addr)×Nat×NP) (T:=cU) (fun x=>[(0,vp b1 0),(6,vp b2 0),(7,vp b3 0),(13,vi many1),(14,vi i1),(21,vp b3 12),(22,vs a10 e1.Args.length c16),(23,vp b1 0),(24,(Value.agg (am r5 (x.1) (x.2.1) (x.2.2.1) (x.2.2.2.1) (x.2.2.2.2.1) (x.2.2.2.2.2.1))))]) (fun x w=>Bun C0 F w0 (x.2.2.2.2.2.2.2.2) w [MO.box b1 67 (ab s2 (x.2.2.2.2.2.2.1) (x.2.2.2.2.2.2.2.1)),MO.box b2 39 #[vi 0,(aC ([]:List UInt8)),vi 0,vi 0,vi 0,vi 0,vi 0,vi 0,vi 0,vi 0,vs none 0 0,vs none 0 0,vs none 0 0],MO.box b3 39 (am e1 a8 c14 a9 c15 a10 c16),MO.row aj 64 a8 c14 e1.Lin.L,MO.row ak 132 a9 c15 e1.Idx,MO.row au 39 a10 c16 e1.Args] [Cl.sl aj (x.1) (x.2.1) r5.Lin.L,Cl.sl ak (x.2.2.1) (x.2.2.2.1) r5.Idx,Cl.sl au (x.2.2.2.2.1) (x.2.2.2.2.2.1) r5.Args,Cl.sl ah (x.2.2.2.2.2.2.1) (x.2.2.2.2.2.2.2.1) s2.l,Cl.sl ah a11 c18 r4.l,aA]) (fun x w=>SN [] (DM true F (x.2.2.2.2.2.2.2.2)) w) ?_ ?_
   ·clear hI;rintro⟨a12,c21,a13,c22,a14,c23,a15,c24,c31⟩ w11 hI
    try dsimp only at hI ⊢
    unfold cU
    refine mw (c:=au) (xs:=([r5]:List GExpr)) (vs:=[(0,(Value.agg (am r5 a12 c21 a13 c22 a14 c23)))]) (cs:=(am r5 a12 c21 a13 c22 a14 c23)) (css:=[(aQ r5 a12 c21 a13 c22 a14 c23)]) hI rfl gn rfl rfl xP kx rfl ⟨rfl,et,trivial⟩ (by kernel_rfl) ⟨(eQ ⟨a12,c21,a13,c22,a14,c23,rfl,hI.get .z,hI.get (.s .z),hI.get (.s (.s .z))⟩),trivial⟩ rfl rfl rfl ?_
    clear hI;intro b4 c27 w8 hI
    exact cM (hk_tr_parser_reader_call_w_3_1 (a12,c21,a13,c22,a14,c23,a15,c24,b4,c27) _ (hI.arr GO SU)) SB
   intro hk_tr_parser_reader_call_w_3_0
   refine V ?_
   refine gV ?_ ?_
   ·skip
    refine dK rfl gn rfl (eG (v:=(vs a10 e1.Args.length c16)) rfl et xP rfl (CellsAt.of_blk (hI.blk (.s (.s .z))) rfl)) SX.self ?_
    refine hO (F:=F) (C:=c19) rfl rfl ?_
    obtain⟨c20,f2,hB,hl2,hk2⟩:=hI.hands (.l (.r (.r (.r (.r (.r .n))))))
    refine ez rfl gn rfl (ag (vs:=[vp b1 0]) rfl nS ⟨et,trivial⟩) (Calls.mono (hrec c20 f2 w14 r4 b1 a11 c18 (hB.subs ⟨.z,(.s .z),trivial⟩) _ hx2) ?_)
    intro e_ w7 hq_;obtain⟨a12,c21,a13,c22,a14,c23,a15,c24,c25,rfl,hB2⟩:=en hq_
    obtain⟨c26,hs2,hI⟩:=hk2 _ _ _ _ hB2
    dsimp only[ca,na]at hI
    refine⟨_,rfl,DM true F c26,hs2,?_⟩
    exact cM (hk_tr_parser_reader_call_w_3_0 (a12,c21,a13,c22,a14,c23,a15,c24,c26) _ (hI.arr GO SU)) SB
   refine dw (F:=F) (C:=c19) rfl rfl ?_
   obtain⟨c20,f2,hB,hl2,hk2⟩:=hI.hands (.l (.r (.r (.r (.r (.r .n))))))
   refine ez rfl gn rfl (ag (vs:=[vp b1 0]) rfl nS ⟨et,trivial⟩) (Calls.mono (hrec c20 f2 w14 r4 b1 a11 c18 (hB.subs ⟨.z,(.s .z),trivial⟩) _ hx2) ?_)
   intro e_ w7 hq_;obtain⟨a12,c21,a13,c22,a14,c23,a15,c24,c25,rfl,hB2⟩:=en hq_
   obtain⟨c26,hs2,hI⟩:=hk2 _ _ _ _ hB2
   dsimp only[ca,na]at hI
   refine⟨_,rfl,DM true F c26,hs2,?_⟩
   refine gV ?_ ?_
   ·skip
    refine dK rfl gn rfl (eG (v:=(vs a10 e1.Args.length c16)) rfl et xP rfl (CellsAt.of_blk (hI.blk (.s (.s .z))) rfl)) SX.self ?_
    exact cM (hk_tr_parser_reader_call_w_3_0 (a12,c21,a13,c22,a14,c23,a15,c24,c26) _ (hI.arr GO SU)) SB
   refine mw (c:=au) (xs:=([r5]:List GExpr)) (vs:=[(0,(Value.agg (am r5 a12 c21 a13 c22 a14 c23)))]) (cs:=(am r5 a12 c21 a13 c22 a14 c23)) (css:=[(aQ r5 a12 c21 a13 c22 a14 c23)]) hI rfl gn rfl rfl xP kx rfl ⟨rfl,et,trivial⟩ (by kernel_rfl) ⟨(eQ ⟨a12,c21,a13,c22,a14,c23,rfl,hI.get .z,hI.get (.s .z),hI.get (.s (.s .z))⟩),trivial⟩ rfl rfl rfl ?_
   clear hI;intro b4 c27 w8 hI
   refine dK rfl gn rfl (eG (v:=(vs a10 e1.Args.length c16)) rfl et xP rfl (CellsAt.of_blk (hI.blk (.s (.s (.s .z)))) rfl)) SX.self ?_
   exact cM (hk_tr_parser_reader_call_w_3_1 (a12,c21,a13,c22,a14,c23,a15,c24,b4,c27) _ (hI.arr GO SU)) SB
  refine T ?_
  refine bc h et (fun hb h=> ?_) (fun hb h=> ?_)
  ·refine T ?_
   obtain⟨c33,f3,hB,hl3,hk3⟩:=hI.hands (.r (.r (.r (.l (.r (.r .n))))))
   refine dY h (fun _ hx4=>aR c33 f3 w5 r3 ([44]:List UInt8) b1 a7 c13 (hB.subs ⟨.z,trivial⟩) _ hx4) (ky hk3) (ag rfl lC ⟨et,⟨ai,trivial⟩⟩) ?_
   rintro⟨r6,s3⟩ hx4 h _ w15 ⟨a17,c34,c35,rfl,hB2⟩
   try dsimp only at h
   obtain⟨c36,hs3,hI⟩:=hk3 _ _ _ _ hB2
   dsimp only[ca,na]at hI
   refine⟨_,rfl,?_⟩
   refine bl ?_
   exact bi (s3,a17,c34) SB ⟨_,hI.arr GO SU,h⟩ rfl
  exact cc (bi (r3,a7,c13) SB ⟨_,hI.arr GO SU,h⟩ rfl)
 refine dv ?_
 refine kb ?_
 refine cA ?_
 refine T ?_
 obtain⟨c37,f4,hB,hl4,hk4⟩:=hI.hands (.r (.r (.r (.l (.r (.r .n))))))
 refine dY h (fun _ hx5=>jN c37 f4 w5 r3 b1 a7 c13 (hB.subs ⟨.z,trivial⟩) _ hx5) (ky hk4) (ag rfl zt ⟨et,trivial⟩) ?_
 rintro⟨r7,s4⟩ hx5 h _ w16 ⟨a18,c38,c39,rfl,hB2⟩
 try dsimp only at h
 obtain⟨c40,hs4,hI⟩:=hk4 _ _ _ _ hB2
 dsimp only[ca,na]at hI
 refine⟨_,rfl,?_⟩
 refine T ?_
 refine ay (new:=(aQ e1 a8 c14 a9 c15 a10 c16)) (cs':=(am e1 a8 c14 a9 c15 a10 c16)) hI (.s (.s (.s (.s .z)))) gn rfl rfl et et rfl aF rfl rfl rfl ?_
 clear hI;intro c41 w17 hI
 refine nk (al ?_)
 obtain⟨c42,hI⟩:=hI.release (.s .z)
 obtain⟨c43,hI⟩:=hI.release (.s .z)
 obtain⟨c44,hI⟩:=hI.release (.s .z)
 obtain rfl:=ac h
 refine QG ?_
 exact .inl ⟨_,rfl,a8,c14,a9,c15,a10,c16,a18,c38,_,rfl,hI.arr GO SU⟩
def dP:Tr:=(.c (6,.s) .n)
def dQ:Tr:=(.c (5,.s) dP)
def dR:Tr:=(.c (0,.s) (.c (4,.q) dP))
def dS:Tr:=(.c (3,.s) (.c (4,.q) dP))
def cR:Tr:=(.two 0 dS 3 dR)
def bM:Tr:=(.c (2,.s) dS)
def cT:Tr:=(.two 3 (.c (4,.q) dQ) 5 dS)
theorem pd (rec_:(aa→Option (bk (GExpr×aa)))) (hrec:∀ (C0 F:NP) (w0:World) (r1:aa) (b1:Nat) (a1:Option Addr) (c1:Nat) (hI:Bun C0 F w0 C0 w0 [MO.box b1 67 (ab r1 a1 c1)] [Cl.sl ah a1 c1 r1.l,aA]) (r:bk (GExpr×aa)) (h:rec_ r1=some r),Calls Tryz.prog 34 #[vp b1 0] w0 fun e w=>(∃ rx:GExpr×aa,r= .ret rx∧∃ (a2:Option Addr) (c2:Nat) (a3:Option Addr) (c3:Nat) (a4:Option Addr) (c4:Nat) (a5:Option Addr) (c5:Nat) (C:NP),e= .returned (Value.agg (am rx.1 a2 c2 a3 c3 a4 c4))∧Bun C0 F w0 C w [MO.box b1 67 (ab rx.2 a5 c5)] [Cl.sl aj a2 c2 rx.1.Lin.L,Cl.sl ak a3 c3 rx.1.Idx,Cl.sl au a4 c4 rx.1.Args,Cl.sl ah a5 c5 rx.2.l])∨∃ (pa pn:Int),r= .pan pa pn∧e= .panicked [pe 114 pa pn]∧∃ C:NP,Bun C0 F w0 C w [] []) (C0 F:NP) (w0:World) (r1:aa) (b1:Nat) (a1:Option Addr) (c1:Nat) (hI:Bun C0 F w0 C0 w0 [MO.box b1 67 (ab r1 a1 c1)] [Cl.sl ah a1 c1 r1.l,aA]) (r:bk (GExpr×aa))
  (h:es rec_ r1=some r):
  Calls Tryz.prog 257 #[vp b1 0] w0 fun e w=>(∃ rx:GExpr×aa,r= .ret rx∧∃ (a2:Option Addr) (c2:Nat) (a3:Option Addr) (c3:Nat) (a4:Option Addr) (c4:Nat) (a5:Option Addr) (c5:Nat) (C:NP),e= .returned (Value.agg (am rx.1 a2 c2 a3 c3 a4 c4))∧Bun C0 F w0 C w [MO.box b1 67 (ab rx.2 a5 c5)] [Cl.sl aj a2 c2 rx.1.Lin.L,Cl.sl ak a3 c3 rx.1.Idx,Cl.sl au a4 c4 rx.1.Args,Cl.sl ah a5 c5 rx.2.l])∨∃ (pa pn:Int),r= .pan pa pn∧e= .panicked [pe 114 pa pn]∧∃ C:NP,Bun C0 F w0 C w [] []:=by
 refine fj (l:=[vp b1 0]) Tryz.func257 rfl Tryz.ntmps257 rfl ?_
 rw[es]at h
 refine sr (aN (cs:=#[vi 0,(aC ([]:List UInt8)),vi 0,vi 0,vi 0,vi 0,vi 0,vi 0,vi 0,vi 0,vs none 0 0,vs none 0 0,vs none 0 0]) hI gn rfl rfl bA rfl ?_)
 clear hI;intro b2 c6 w1 hI
 refine T ?_
 obtain⟨c7,f1,hB,hl1,hk1⟩:=hI.hands (.r (.l .n))
 refine dY h (fun _ hx1=>j3 c7 f1 w1 r1 b1 a1 c1 (hB.subs ⟨.z,trivial⟩) _ hx1) (ky hk1) (ag rfl zu ⟨et,trivial⟩) ?_
 rintro⟨r2,s1⟩ hx1 h _ w2 ⟨a6,c8,c9,rfl,hB2⟩
 try dsimp only at h
 obtain⟨c10,hs1,hI⟩:=hk1 _ _ _ _ hB2
 dsimp only[ca,na]at hI
 refine⟨_,rfl,?_⟩
 refine T ?_
 obtain⟨c11,f2,hB,hl2,hk2⟩:=hI.hands (.l (.r .n))
 refine dY h (fun _ hx2=>mj c11 f2 w2 s1 b1 a6 c8 (hB.subs ⟨.z,trivial⟩) _ hx2) (ky hk2) (ag rfl CS ⟨et,trivial⟩) ?_
 rintro⟨r3,s2⟩ hx2 h _ w3 ⟨a7,c12,c13,rfl,hB2⟩
 try dsimp only at h
 obtain⟨c14,hs2,hI⟩:=hk2 _ _ _ _ hB2
 dsimp only[ca,na]at hI
 refine⟨_,rfl,?_⟩
 refine aN (cs:=th) hI gn rfl rfl tL rfl ?_
 clear hI;intro b3 c15 w4 hI
 refine ay (new:=(gz r3)) (cs':=(cv r3)) hI .z gn rfl rfl et et rfl d4 rfl rfl rfl ?_
 clear hI;intro c16 w5 hI
 refine T ?_
 obtain⟨c17,f3,hB,hl3,hk3⟩:=hI.hands (.r (.l (.r .n)))
 refine dY h (fun _ hx3=>aR c17 f3 w5 s2 ([44]:List UInt8) b1 a7 c12 (hB.subs ⟨.z,trivial⟩) _ hx3) (ky hk3) (ag rfl lC ⟨et,⟨ai,trivial⟩⟩) ?_
 rintro⟨r4,s3⟩ hx3 h _ w6 ⟨a8,c18,c19,rfl,hB2⟩
 try dsimp only at h
 obtain⟨c20,hs3,hI⟩:=hk3 _ _ _ _ hB2
 dsimp only[ca,na]at hI
 refine⟨_,rfl,?_⟩
 refine nk (aB ?_)
 rcases ii h with⟨⟨r5,s4⟩,hx4,h⟩ | ⟨pa_,pn_,hx4,hp_⟩
 rotate_left
 ·subst hp_
  refine bx [2,6] false (.c (1,.q) (.three 0 (.two 2 cT 5 bM) 2 (.three 0 cT 3 (.two 0 (.c (4,.q) dQ) 5 dR) 5 cR) 5 (.two 0 bM 2 cR))) hI (by kernel_rfl) (by kernel_rfl) ?_
  clear hI;intro w18 hI
  refine ge (α:=Nat×NP) (T:=bM) (fun x=>[(0,vp b1 0),(2,vp b2 0),(3,vp b3 0),(4,(Value.pointer (some ⟨(x.1),0,none⟩))),(5,vp b1 0),(6,(Value.tuple #[])),(7,vp b1 0),(8,(Value.agg (cv r3))),(9,vp b1 0),(10,(Value.tuple #[])),(11,(Value.agg (cv r3))),(12,vp b1 0)]) (fun x w=>Bun C0 F w0 (x.2) w [MO.box (x.1) 39 #[vi 0,(aC ([]:List UInt8)),vi 0,vi 0,vi 0,vi 0,vi 0,vi 0,vi 0,vi 0,vs none 0 0,vs none 0 0,vs none 0 0],MO.box b1 67 (ab s3 a8 c18),MO.box b3 35 (cv r3),MO.box b2 39 #[vi 0,(aC ([]:List UInt8)),vi 0,vi 0,vi 0,vi 0,vi 0,vi 0,vi 0,vi 0,vs none 0 0,vs none 0 0,vs none 0 0]] [Cl.sl ah a8 c18 s3.l,Cl.sl ah a7 c12 s2.l,Cl.sl ah a6 c8 s1.l,Cl.sl ah a1 c1 r1.l,aA]) (fun x w=>SN [2,6] (DM false F (x.2)) w) ?_ ?_
  ·clear hI;rintro⟨b5,c32⟩ w12 hI
   try dsimp only at hI ⊢
   unfold bM
   refine hO (F:=F) (C:=c32) rfl rfl ?_
   obtain⟨c21,f4,hB,hl4,hk4⟩:=hI.hands (.r (.l (.r (.r .n))))
   refine eB rfl gn rfl (ag (vs:=[vp b1 0]) rfl nS ⟨et,trivial⟩) (Calls.mono (hrec c21 f4 w12 s3 b1 a8 c18 (hB.subs ⟨.z,(.s (.s (.s (.s .z)))),trivial⟩) _ hx4) ?_)
   intro e_ w_ hq_;obtain⟨rfl,C_,hB_⟩:=eo hq_;obtain⟨C9_,-,hI_⟩:=hk4 _ _ _ _ hB_;exact .inr ⟨_,rfl,ib (.inr ⟨_,_,rfl,rfl,⟨_,hI_.arr .n trivial⟩⟩)⟩
  intro hk_tr_parser_reader_cast_w_1_1
  refine V ?_
  refine rR ?_ ?_ ?_
  ·skip
   refine dK rfl gn rfl (aJ (l:=(gz r3)) rfl et tj rfl d4 (CellsAt.of_blk (hI.blk (.s .z)) rfl)) SX.self ?_
   refine gV ?_ ?_
   ·skip
    refine dw (F:=F) (C:=c20) rfl rfl ?_
    obtain⟨c21,f4,hB,hl4,hk4⟩:=hI.hands (.l (.r (.r .n)))
    refine eB rfl gn rfl (ag (vs:=[vp b1 0]) rfl nS ⟨et,trivial⟩) (Calls.mono (hrec c21 f4 w18 s3 b1 a8 c18 (hB.subs ⟨.z,(.s (.s (.s (.s .z)))),trivial⟩) _ hx4) ?_)
    intro e_ w_ hq_;obtain⟨rfl,C_,hB_⟩:=eo hq_;obtain⟨C9_,-,hI_⟩:=hk4 _ _ _ _ hB_;exact .inr ⟨_,rfl,ib (.inr ⟨_,_,rfl,rfl,⟨_,hI_.arr .n trivial⟩⟩)⟩
   refine iS (cs:=#[vi 0,(aC ([]:List UInt8)),vi 0,vi 0,vi 0,vi 0,vi 0,vi 0,vi 0,vi 0,vs none 0 0,vs none 0 0,vs none 0 0]) hI rfl gn rfl rfl bA rfl ?_
   clear hI;intro b5 c29 w9 hI
   exact cM (hk_tr_parser_reader_cast_w_1_1 (b5,c29) _ (hI.arr GO SU)) SB
  ·skip
   refine dw (F:=F) (C:=c20) rfl rfl ?_
   obtain⟨c21,f4,hB,hl4,hk4⟩:=hI.hands (.l (.r (.r .n)))
   refine eB rfl gn rfl (ag (vs:=[vp b1 0]) rfl nS ⟨et,trivial⟩) (Calls.mono (hrec c21 f4 w18 s3 b1 a8 c18 (hB.subs ⟨.z,(.s (.s (.s (.s .z)))),trivial⟩) _ hx4) ?_)
   intro e_ w_ hq_;obtain⟨rfl,C_,hB_⟩:=eo hq_;obtain⟨C9_,-,hI_⟩:=hk4 _ _ _ _ hB_;exact .inr ⟨_,rfl,ib (.inr ⟨_,_,rfl,rfl,⟨_,hI_.arr .n trivial⟩⟩)⟩
  refine iS (cs:=#[vi 0,(aC ([]:List UInt8)),vi 0,vi 0,vi 0,vi 0,vi 0,vi 0,vi 0,vi 0,vs none 0 0,vs none 0 0,vs none 0 0]) hI rfl gn rfl rfl bA rfl ?_
  clear hI;intro b5 c29 w9 hI
  refine gV ?_ ?_
  ·skip
   refine dK rfl gn rfl (aJ (l:=(gz r3)) rfl et tj rfl d4 (CellsAt.of_blk (hI.blk (.s (.s .z))) rfl)) SX.self ?_
   exact cM (hk_tr_parser_reader_cast_w_1_1 (b5,c29) _ (hI.arr GO SU)) SB
  refine dw (F:=F) (C:=c29) rfl rfl ?_
  obtain⟨c21,f4,hB,hl4,hk4⟩:=hI.hands (.r (.l (.r (.r .n))))
  refine eB rfl gn rfl (ag (vs:=[vp b1 0]) rfl nS ⟨et,trivial⟩) (Calls.mono (hrec c21 f4 w9 s3 b1 a8 c18 (hB.subs ⟨.z,(.s (.s (.s (.s .z)))),trivial⟩) _ hx4) ?_)
  intro e_ w_ hq_;obtain⟨rfl,C_,hB_⟩:=eo hq_;obtain⟨C9_,-,hI_⟩:=hk4 _ _ _ _ hB_;exact .inr ⟨_,rfl,ib (.inr ⟨_,_,rfl,rfl,⟨_,hI_.arr .n trivial⟩⟩)⟩
 try dsimp only at h
 refine bx [2,6] false (.c (1,.q) (.three 0 (.two 2 cT 5 bM) 2 (.three 0 cT 3 (.two 0 (.c (4,.q) dQ) 5 dR) 5 cR) 5 (.two 0 bM 2 cR))) hI (by kernel_rfl) (by kernel_rfl) ?_
 clear hI;intro w19 hI
 refine ge (α:=(Option Addr)×Nat×(Option Addr)×Nat×(Option Addr)×Nat×(Option Addr)×Nat×Nat×Nat×NP) (T:=dP) (fun x=>[(0,vp b1 0),(2,vp b2 0),(3,vp b3 0),(4,(Value.pointer (some ⟨(x.2.2.2.2.2.2.2.2.2.1),0,none⟩))),(5,vp b1 0),(6,(Value.tuple #[])),(7,vp b1 0),(8,(Value.agg (cv r3))),(9,vp b1 0),(10,(Value.tuple #[])),(11,(Value.agg (cv r3))),(12,vp b1 0),(13,(Value.agg (am r5 (x.1) (x.2.1) (x.2.2.1) (x.2.2.2.1) (x.2.2.2.2.1) (x.2.2.2.2.2.1)))),(14,(vs (some ⟨(x.2.2.2.2.2.2.2.2.1),0,none⟩) ([r5]:List GExpr).length 1)),(15,(Value.agg #[vi 12,(aC ([]:List UInt8)),vi 0,vi 0,vi r3.Kind,vi r3.Bits,vi r3.Frac,vi r3.Round,vi r3.Over,vi 0,vs none 0 0,vs none 0 0,(vs (some ⟨(x.2.2.2.2.2.2.2.2.1),0,none⟩) ([r5]:List GExpr).length 1)]))]) (fun x w=>Bun C0 F w0 (x.2.2.2.2.2.2.2.2.2.2) w [MO.row au 39 (some ⟨(x.2.2.2.2.2.2.2.2.1),0,none⟩) 1 ([r5]:List GExpr),MO.box (x.2.2.2.2.2.2.2.2.2.1) 39 #[vi 0,(aC ([]:List UInt8)),vi 0,vi 0,vi 0,vi 0,vi 0,vi 0,vi 0,vi 0,vs none 0 0,vs none 0 0,vs none 0 0],MO.box b1 67 (ab s4 (x.2.2.2.2.2.2.1) (x.2.2.2.2.2.2.2.1)),MO.box b3 35 (cv r3),MO.box b2 39 #[vi 0,(aC ([]:List UInt8)),vi 0,vi 0,vi 0,vi 0,vi 0,vi 0,vi 0,vi 0,vs none 0 0,vs none 0 0,vs none 0 0]] [Cl.sl aj (x.1) (x.2.1) r5.Lin.L,Cl.sl ak (x.2.2.1) (x.2.2.2.1) r5.Idx,Cl.sl au (x.2.2.2.2.1) (x.2.2.2.2.2.1) r5.Args,Cl.sl ah (x.2.2.2.2.2.2.1) (x.2.2.2.2.2.2.2.1) s4.l,Cl.sl ah a8 c18 s3.l,Cl.sl ah a7 c12 s2.l,Cl.sl ah a6 c8 s1.l,Cl.sl ah a1 c1 r1.l,aA]) (fun x w=>SN [] (DM true F (x.2.2.2.2.2.2.2.2.2.2)) w) ?_ ?_
 ·clear hI;rintro⟨a9,c22,a10,c23,a11,c24,a12,c25,b4,b5,c37⟩ w17 hI
  try dsimp only at hI ⊢
  unfold dP
  refine fT (new:=[vi 12,(aC ([]:List UInt8)),vi 0,vi 0,vi r3.Kind,vi r3.Bits,vi r3.Frac,vi r3.Round,vi r3.Over,vi 0,vs none 0 0,vs none 0 0,vs (some ⟨b4,0,none⟩) ([r5]:List GExpr).length 1]) (cs':=#[vi 12,(aC ([]:List UInt8)),vi 0,vi 0,vi r3.Kind,vi r3.Bits,vi r3.Frac,vi r3.Round,vi r3.Over,vi 0,vs none 0 0,vs none 0 0,vs (some ⟨b4,0,none⟩) ([r5]:List GExpr).length 1]) hI (.s .z) rfl gn rfl rfl et et rfl aF rfl rfl rfl ?_
  clear hI;intro c30 w10 hI
  refine V ?_
  refine T ?_
  obtain⟨c38,f5,hB,hl5,hk5⟩:=hI.hands (.r (.r (.l (.r (.r .n)))))
  refine dY h (fun _ hx5=>jN c38 f5 w10 s4 b1 a12 c25 (hB.subs ⟨(.s (.s (.s .z))),trivial⟩) _ hx5) (ky hk5) (ag rfl zt ⟨et,trivial⟩) ?_
  rintro⟨r6,s5⟩ hx5 h _ w20 ⟨a13,c39,c40,rfl,hB2⟩
  try dsimp only at h
  obtain⟨c41,hs5,hI⟩:=hk5 _ _ _ _ hB2
  dsimp only[ca,na]at hI
  refine⟨_,rfl,?_⟩
  refine T ?_
  refine ay (new:=[vi 12,(aC ([]:List UInt8)),vi 0,vi 0,vi r3.Kind,vi r3.Bits,vi r3.Frac,vi r3.Round,vi r3.Over,vi 0,vs none 0 0,vs none 0 0,vs (some ⟨b4,0,none⟩) ([r5]:List GExpr).length 1]) (cs':=#[vi 12,(aC ([]:List UInt8)),vi 0,vi 0,vi r3.Kind,vi r3.Bits,vi r3.Frac,vi r3.Round,vi r3.Over,vi 0,vs none 0 0,vs none 0 0,vs (some ⟨b4,0,none⟩) ([r5]:List GExpr).length 1]) hI (.s (.s (.s (.s .z)))) gn rfl rfl et et rfl aF rfl rfl rfl ?_
  clear hI;intro c42 w21 hI
  refine nk (al ?_)
  obtain⟨c43,hI⟩:=hI.release (.s .z)
  have hI:=hI.add (c:=Cl.sl aj none 0 ([]:List GMono)) SlC.nil
  have hI:=hI.add (c:=Cl.sl ak none 0 ([]:List GIndex)) SlC.nil
  obtain rfl:=ac h
  refine QG ?_
  exact .inl ⟨_,rfl,none,0,none,0,some ⟨b4,0,none⟩,1,a13,c39,_,rfl,hI.arr GO SU⟩
 intro hk_tr_parser_reader_cast_w_1_6
 refine ge (α:=(Option Addr)×Nat×(Option Addr)×Nat×(Option Addr)×Nat×(Option Addr)×Nat×Nat×NP) (T:=dQ) (fun x=>[(0,vp b1 0),(2,vp b2 0),(3,vp b3 0),(5,vp b1 0),(6,(Value.tuple #[])),(7,vp b1 0),(8,(Value.agg (cv r3))),(9,vp b1 0),(10,(Value.tuple #[])),(11,(Value.agg (cv r3))),(12,vp b1 0),(13,(Value.agg (am r5 (x.1) (x.2.1) (x.2.2.1) (x.2.2.2.1) (x.2.2.2.2.1) (x.2.2.2.2.2.1)))),(14,(vs (some ⟨(x.2.2.2.2.2.2.2.2.1),0,none⟩) ([r5]:List GExpr).length 1)),(15,(Value.agg #[vi 12,(aC ([]:List UInt8)),vi 0,vi 0,vi r3.Kind,vi r3.Bits,vi r3.Frac,vi r3.Round,vi r3.Over,vi 0,vs none 0 0,vs none 0 0,(vs (some ⟨(x.2.2.2.2.2.2.2.2.1),0,none⟩) ([r5]:List GExpr).length 1)]))]) (fun x w=>Bun C0 F w0 (x.2.2.2.2.2.2.2.2.2) w [MO.row au 39 (some ⟨(x.2.2.2.2.2.2.2.2.1),0,none⟩) 1 ([r5]:List GExpr),MO.box b1 67 (ab s4 (x.2.2.2.2.2.2.1) (x.2.2.2.2.2.2.2.1)),MO.box b3 35 (cv r3),MO.box b2 39 #[vi 0,(aC ([]:List UInt8)),vi 0,vi 0,vi 0,vi 0,vi 0,vi 0,vi 0,vi 0,vs none 0 0,vs none 0 0,vs none 0 0]] [Cl.sl aj (x.1) (x.2.1) r5.Lin.L,Cl.sl ak (x.2.2.1) (x.2.2.2.1) r5.Idx,Cl.sl au (x.2.2.2.2.1) (x.2.2.2.2.2.1) r5.Args,Cl.sl ah (x.2.2.2.2.2.2.1) (x.2.2.2.2.2.2.2.1) s4.l,Cl.sl ah a8 c18 s3.l,Cl.sl ah a7 c12 s2.l,Cl.sl ah a6 c8 s1.l,Cl.sl ah a1 c1 r1.l,aA]) (fun x w=>SN [] (DM true F (x.2.2.2.2.2.2.2.2.2)) w) ?_ ?_
 ·clear hI;rintro⟨a9,c22,a10,c23,a11,c24,a12,c25,b4,c36⟩ w16 hI
  try dsimp only at hI ⊢
  unfold dQ
  refine iS (cs:=#[vi 0,(aC ([]:List UInt8)),vi 0,vi 0,vi 0,vi 0,vi 0,vi 0,vi 0,vi 0,vs none 0 0,vs none 0 0,vs none 0 0]) hI rfl gn rfl rfl bA rfl ?_
  clear hI;intro b5 c29 w9 hI
  exact cM (hk_tr_parser_reader_cast_w_1_6 (a9,c22,a10,c23,a11,c24,a12,c25,b4,b5,c29) _ (hI.arr GO SU)) SB
 intro hk_tr_parser_reader_cast_w_1_5
 refine ge (α:=(Option Addr)×Nat×(Option Addr)×Nat×(Option Addr)×Nat×(Option Addr)×Nat×Nat×Nat×NP) (T:=dR) (fun x=>[(0,vp b1 0),(2,vp b2 0),(3,vp b3 0),(4,(Value.pointer (some ⟨(x.2.2.2.2.2.2.2.2.2.1),0,none⟩))),(5,vp b1 0),(6,(Value.tuple #[])),(7,vp b1 0),(8,(Value.agg (cv r3))),(9,vp b1 0),(10,(Value.tuple #[])),(12,vp b1 0),(13,(Value.agg (am r5 (x.1) (x.2.1) (x.2.2.1) (x.2.2.2.1) (x.2.2.2.2.1) (x.2.2.2.2.2.1)))),(14,(vs (some ⟨(x.2.2.2.2.2.2.2.2.1),0,none⟩) ([r5]:List GExpr).length 1))]) (fun x w=>Bun C0 F w0 (x.2.2.2.2.2.2.2.2.2.2) w [MO.box (x.2.2.2.2.2.2.2.2.2.1) 39 #[vi 0,(aC ([]:List UInt8)),vi 0,vi 0,vi 0,vi 0,vi 0,vi 0,vi 0,vi 0,vs none 0 0,vs none 0 0,vs none 0 0],MO.row au 39 (some ⟨(x.2.2.2.2.2.2.2.2.1),0,none⟩) 1 ([r5]:List GExpr),MO.box b1 67 (ab s4 (x.2.2.2.2.2.2.1) (x.2.2.2.2.2.2.2.1)),MO.box b3 35 (cv r3),MO.box b2 39 #[vi 0,(aC ([]:List UInt8)),vi 0,vi 0,vi 0,vi 0,vi 0,vi 0,vi 0,vi 0,vs none 0 0,vs none 0 0,vs none 0 0]] [Cl.sl aj (x.1) (x.2.1) r5.Lin.L,Cl.sl ak (x.2.2.1) (x.2.2.2.1) r5.Idx,Cl.sl au (x.2.2.2.2.1) (x.2.2.2.2.2.1) r5.Args,Cl.sl ah (x.2.2.2.2.2.2.1) (x.2.2.2.2.2.2.2.1) s4.l,Cl.sl ah a8 c18 s3.l,Cl.sl ah a7 c12 s2.l,Cl.sl ah a6 c8 s1.l,Cl.sl ah a1 c1 r1.l,aA]) (fun x w=>SN [] (DM true F (x.2.2.2.2.2.2.2.2.2.2)) w) ?_ ?_
 ·clear hI;rintro⟨a9,c22,a10,c23,a11,c24,a12,c25,b4,b5,c35⟩ w15 hI
  try dsimp only at hI ⊢
  unfold dR
  refine dK rfl gn rfl (aJ (l:=(gz r3)) rfl et tj rfl d4 (CellsAt.of_blk (hI.blk (.s (.s (.s .z)))) rfl)) SX.self ?_
  refine pt rfl gn rfl (fun w'=>(aV (vs:=[(0,vi 12),(3,(Value.agg (cv r3))),(6,vs (some ⟨b4,0,none⟩) ([r5]:List GExpr).length 1)]) (cs:=#[vi 12,(aC ([]:List UInt8)),vi 0,vi 0,vi r3.Kind,vi r3.Bits,vi r3.Frac,vi r3.Round,vi r3.Over,vi 0,vs none 0 0,vs none 0 0,vs (some ⟨b4,0,none⟩) ([r5]:List GExpr).length 1]) rfl ⟨rfl,ai,⟨rfl,et,⟨rfl,et,trivial⟩⟩⟩ (by kernel_rfl))) ?_
  exact cM (hk_tr_parser_reader_cast_w_1_6 (a9,c22,a10,c23,a11,c24,a12,c25,b4,b5,c35) _ (hI.arr GO SU)) SB
 intro hk_tr_parser_reader_cast_w_1_4
 refine ge (α:=(Option Addr)×Nat×(Option Addr)×Nat×(Option Addr)×Nat×(Option Addr)×Nat×Nat×NP) (T:=dS) (fun x=>[(0,vp b1 0),(2,vp b2 0),(3,vp b3 0),(4,(Value.pointer (some ⟨(x.2.2.2.2.2.2.2.2.1),0,none⟩))),(5,vp b1 0),(6,(Value.tuple #[])),(7,vp b1 0),(8,(Value.agg (cv r3))),(9,vp b1 0),(10,(Value.tuple #[])),(11,(Value.agg (cv r3))),(12,vp b1 0),(13,(Value.agg (am r5 (x.1) (x.2.1) (x.2.2.1) (x.2.2.2.1) (x.2.2.2.2.1) (x.2.2.2.2.2.1))))]) (fun x w=>Bun C0 F w0 (x.2.2.2.2.2.2.2.2.2) w [MO.box (x.2.2.2.2.2.2.2.2.1) 39 #[vi 0,(aC ([]:List UInt8)),vi 0,vi 0,vi 0,vi 0,vi 0,vi 0,vi 0,vi 0,vs none 0 0,vs none 0 0,vs none 0 0],MO.box b1 67 (ab s4 (x.2.2.2.2.2.2.1) (x.2.2.2.2.2.2.2.1)),MO.box b3 35 (cv r3),MO.box b2 39 #[vi 0,(aC ([]:List UInt8)),vi 0,vi 0,vi 0,vi 0,vi 0,vi 0,vi 0,vi 0,vs none 0 0,vs none 0 0,vs none 0 0]] [Cl.sl aj (x.1) (x.2.1) r5.Lin.L,Cl.sl ak (x.2.2.1) (x.2.2.2.1) r5.Idx,Cl.sl au (x.2.2.2.2.1) (x.2.2.2.2.2.1) r5.Args,Cl.sl ah (x.2.2.2.2.2.2.1) (x.2.2.2.2.2.2.2.1) s4.l,Cl.sl ah a8 c18 s3.l,Cl.sl ah a7 c12 s2.l,Cl.sl ah a6 c8 s1.l,Cl.sl ah a1 c1 r1.l,aA]) (fun x w=>SN [] (DM true F (x.2.2.2.2.2.2.2.2.2)) w) ?_ ?_
 ·clear hI;rintro⟨a9,c22,a10,c23,a11,c24,a12,c25,b5,c34⟩ w14 hI
  try dsimp only at hI ⊢
  unfold dS
  refine mw (c:=au) (xs:=([r5]:List GExpr)) (vs:=[(0,(Value.agg (am r5 a9 c22 a10 c23 a11 c24)))]) (cs:=(am r5 a9 c22 a10 c23 a11 c24)) (css:=[(aQ r5 a9 c22 a10 c23 a11 c24)]) hI rfl gn rfl rfl xP kx rfl ⟨rfl,et,trivial⟩ (by kernel_rfl) ⟨(eQ ⟨a9,c22,a10,c23,a11,c24,rfl,hI.get .z,hI.get (.s .z),hI.get (.s (.s .z))⟩),trivial⟩ rfl rfl rfl ?_
  clear hI;intro b4 c28 w8 hI
  refine pt rfl gn rfl (fun w'=>(aV (vs:=[(0,vi 12),(3,(Value.agg (cv r3))),(6,vs (some ⟨b4,0,none⟩) ([r5]:List GExpr).length 1)]) (cs:=#[vi 12,(aC ([]:List UInt8)),vi 0,vi 0,vi r3.Kind,vi r3.Bits,vi r3.Frac,vi r3.Round,vi r3.Over,vi 0,vs none 0 0,vs none 0 0,vs (some ⟨b4,0,none⟩) ([r5]:List GExpr).length 1]) rfl ⟨rfl,ai,⟨rfl,et,⟨rfl,et,trivial⟩⟩⟩ (by kernel_rfl))) ?_
  exact cM (hk_tr_parser_reader_cast_w_1_6 (a9,c22,a10,c23,a11,c24,a12,c25,b4,b5,c28) _ (hI.arr GO SU)) SB
 intro hk_tr_parser_reader_cast_w_1_3
 refine ge (α:=(Option Addr)×Nat×(Option Addr)×Nat×(Option Addr)×Nat×(Option Addr)×Nat×Nat×NP) (T:=cR) (fun x=>[(0,vp b1 0),(2,vp b2 0),(3,vp b3 0),(4,(Value.pointer (some ⟨(x.2.2.2.2.2.2.2.2.1),0,none⟩))),(5,vp b1 0),(6,(Value.tuple #[])),(7,vp b1 0),(8,(Value.agg (cv r3))),(9,vp b1 0),(10,(Value.tuple #[])),(12,vp b1 0),(13,(Value.agg (am r5 (x.1) (x.2.1) (x.2.2.1) (x.2.2.2.1) (x.2.2.2.2.1) (x.2.2.2.2.2.1))))]) (fun x w=>Bun C0 F w0 (x.2.2.2.2.2.2.2.2.2) w [MO.box (x.2.2.2.2.2.2.2.2.1) 39 #[vi 0,(aC ([]:List UInt8)),vi 0,vi 0,vi 0,vi 0,vi 0,vi 0,vi 0,vi 0,vs none 0 0,vs none 0 0,vs none 0 0],MO.box b1 67 (ab s4 (x.2.2.2.2.2.2.1) (x.2.2.2.2.2.2.2.1)),MO.box b3 35 (cv r3),MO.box b2 39 #[vi 0,(aC ([]:List UInt8)),vi 0,vi 0,vi 0,vi 0,vi 0,vi 0,vi 0,vi 0,vs none 0 0,vs none 0 0,vs none 0 0]] [Cl.sl aj (x.1) (x.2.1) r5.Lin.L,Cl.sl ak (x.2.2.1) (x.2.2.2.1) r5.Idx,Cl.sl au (x.2.2.2.2.1) (x.2.2.2.2.2.1) r5.Args,Cl.sl ah (x.2.2.2.2.2.2.1) (x.2.2.2.2.2.2.2.1) s4.l,Cl.sl ah a8 c18 s3.l,Cl.sl ah a7 c12 s2.l,Cl.sl ah a6 c8 s1.l,Cl.sl ah a1 c1 r1.l,aA]) (fun x w=>SN [] (DM true F (x.2.2.2.2.2.2.2.2.2)) w) ?_ ?_
 ·clear hI;rintro⟨a9,c22,a10,c23,a11,c24,a12,c25,b5,c33⟩ w13 hI
  try dsimp only at hI ⊢
  unfold cR
  refine gV ?_ ?_
  ·skip
   refine dK rfl gn rfl (aJ (l:=(gz r3)) rfl et tj rfl d4 (CellsAt.of_blk (hI.blk (.s (.s .z))) rfl)) SX.self ?_
   exact cM (hk_tr_parser_reader_cast_w_1_3 (a9,c22,a10,c23,a11,c24,a12,c25,b5,c33) _ (hI.arr GO SU)) SB
  refine mw (c:=au) (xs:=([r5]:List GExpr)) (vs:=[(0,(Value.agg (am r5 a9 c22 a10 c23 a11 c24)))]) (cs:=(am r5 a9 c22 a10 c23 a11 c24)) (css:=[(aQ r5 a9 c22 a10 c23 a11 c24)]) hI rfl gn rfl rfl xP kx rfl ⟨rfl,et,trivial⟩ (by kernel_rfl) ⟨(eQ ⟨a9,c22,a10,c23,a11,c24,rfl,hI.get .z,hI.get (.s .z),hI.get (.s (.s .z))⟩),trivial⟩ rfl rfl rfl ?_
  clear hI;intro b4 c28 w8 hI
  exact cM (hk_tr_parser_reader_cast_w_1_4 (a9,c22,a10,c23,a11,c24,a12,c25,b4,b5,c28) _ (hI.arr GO SU)) SB
 intro hk_tr_parser_reader_cast_w_1_2
 refine ge (α:=Nat×NP) (T:=bM) (fun x=>[(0,vp b1 0),(2,vp b2 0),(3,vp b3 0),(4,(Value.pointer (some ⟨(x.1),0,none⟩))),(5,vp b1 0),(6,(Value.tuple #[])),(7,vp b1 0),(8,(Value.agg (cv r3))),(9,vp b1 0),(10,(Value.tuple #[])),(11,(Value.agg (cv r3))),(12,vp b1 0)]) (fun x w=>Bun C0 F w0 (x.2) w [MO.box (x.1) 39 #[vi 0,(aC ([]:List UInt8)),vi 0,vi 0,vi 0,vi 0,vi 0,vi 0,vi 0,vi 0,vs none 0 0,vs none 0 0,vs none 0 0],MO.box b1 67 (ab s3 a8 c18),MO.box b3 35 (cv r3),MO.box b2 39 #[vi 0,(aC ([]:List UInt8)),vi 0,vi 0,vi 0,vi 0,vi 0,vi 0,vi 0,vi 0,vs none 0 0,vs none 0 0,vs none 0 0]] [Cl.sl ah a8 c18 s3.l,Cl.sl ah a7 c12 s2.l,Cl.sl ah a6 c8 s1.l,Cl.sl ah a1 c1 r1.l,aA]) (fun x w=>SN [2,6] (DM false F (x.2)) w) ?_ ?_
 ·clear hI;rintro⟨b5,c32⟩ w12 hI
  try dsimp only at hI ⊢
  unfold bM
  refine hO (F:=F) (C:=c32) rfl rfl ?_
  obtain⟨c21,f4,hB,hl4,hk4⟩:=hI.hands (.r (.l (.r (.r .n))))
  refine ez rfl gn rfl (ag (vs:=[vp b1 0]) rfl nS ⟨et,trivial⟩) (Calls.mono (hrec c21 f4 w12 s3 b1 a8 c18 (hB.subs ⟨.z,(.s (.s (.s (.s .z)))),trivial⟩) _ hx4) ?_)
  intro e_ w7 hq_;obtain⟨a9,c22,a10,c23,a11,c24,a12,c25,c26,rfl,hB2⟩:=en hq_
  obtain⟨c27,hs4,hI⟩:=hk4 _ _ _ _ hB2
  dsimp only[ca,na]at hI
  refine⟨_,rfl,DM true F c27,hs4,?_⟩
  exact cM (hk_tr_parser_reader_cast_w_1_3 (a9,c22,a10,c23,a11,c24,a12,c25,b5,c27) _ (hI.arr GO SU)) SB
 intro hk_tr_parser_reader_cast_w_1_1
 refine ge (α:=(Option Addr)×Nat×(Option Addr)×Nat×(Option Addr)×Nat×(Option Addr)×Nat×NP) (T:=cT) (fun x=>[(0,vp b1 0),(2,vp b2 0),(3,vp b3 0),(5,vp b1 0),(6,(Value.tuple #[])),(7,vp b1 0),(8,(Value.agg (cv r3))),(9,vp b1 0),(10,(Value.tuple #[])),(11,(Value.agg (cv r3))),(12,vp b1 0),(13,(Value.agg (am r5 (x.1) (x.2.1) (x.2.2.1) (x.2.2.2.1) (x.2.2.2.2.1) (x.2.2.2.2.2.1))))]) (fun x w=>Bun C0 F w0 (x.2.2.2.2.2.2.2.2) w [MO.box b1 67 (ab s4 (x.2.2.2.2.2.2.1) (x.2.2.2.2.2.2.2.1)),MO.box b3 35 (cv r3),MO.box b2 39 #[vi 0,(aC ([]:List UInt8)),vi 0,vi 0,vi 0,vi 0,vi 0,vi 0,vi 0,vi 0,vs none 0 0,vs none 0 0,vs none 0 0]] [Cl.sl aj (x.1) (x.2.1) r5.Lin.L,Cl.sl ak (x.2.2.1) (x.2.2.2.1) r5.Idx,Cl.sl au (x.2.2.2.2.1) (x.2.2.2.2.2.1) r5.Args,Cl.sl ah (x.2.2.2.2.2.2.1) (x.2.2.2.2.2.2.2.1) s4.l,Cl.sl ah a8 c18 s3.l,Cl.sl ah a7 c12 s2.l,Cl.sl ah a6 c8 s1.l,Cl.sl ah a1 c1 r1.l,aA]) (fun x w=>SN [] (DM true F (x.2.2.2.2.2.2.2.2)) w) ?_ ?_
 ·clear hI;rintro⟨a9,c22,a10,c23,a11,c24,a12,c25,c31⟩ w11 hI
  try dsimp only at hI ⊢
  unfold cT
  refine gV ?_ ?_
  ·skip
   refine mw (c:=au) (xs:=([r5]:List GExpr)) (vs:=[(0,(Value.agg (am r5 a9 c22 a10 c23 a11 c24)))]) (cs:=(am r5 a9 c22 a10 c23 a11 c24)) (css:=[(aQ r5 a9 c22 a10 c23 a11 c24)]) hI rfl gn rfl rfl xP kx rfl ⟨rfl,et,trivial⟩ (by kernel_rfl) ⟨(eQ ⟨a9,c22,a10,c23,a11,c24,rfl,hI.get .z,hI.get (.s .z),hI.get (.s (.s .z))⟩),trivial⟩ rfl rfl rfl ?_
   clear hI;intro b4 c28 w8 hI
   refine pt rfl gn rfl (fun w'=>(aV (vs:=[(0,vi 12),(3,(Value.agg (cv r3))),(6,vs (some ⟨b4,0,none⟩) ([r5]:List GExpr).length 1)]) (cs:=#[vi 12,(aC ([]:List UInt8)),vi 0,vi 0,vi r3.Kind,vi r3.Bits,vi r3.Frac,vi r3.Round,vi r3.Over,vi 0,vs none 0 0,vs none 0 0,vs (some ⟨b4,0,none⟩) ([r5]:List GExpr).length 1]) rfl ⟨rfl,ai,⟨rfl,et,⟨rfl,et,trivial⟩⟩⟩ (by kernel_rfl))) ?_
   exact cM (hk_tr_parser_reader_cast_w_1_5 (a9,c22,a10,c23,a11,c24,a12,c25,b4,c28) _ (hI.arr GO SU)) SB
  refine iS (cs:=#[vi 0,(aC ([]:List UInt8)),vi 0,vi 0,vi 0,vi 0,vi 0,vi 0,vi 0,vi 0,vs none 0 0,vs none 0 0,vs none 0 0]) hI rfl gn rfl rfl bA rfl ?_
  clear hI;intro b5 c29 w9 hI
  exact cM (hk_tr_parser_reader_cast_w_1_3 (a9,c22,a10,c23,a11,c24,a12,c25,b5,c29) _ (hI.arr GO SU)) SB
 intro hk_tr_parser_reader_cast_w_1_0
 refine V ?_
 refine rR ?_ ?_ ?_
 ·skip
  refine dK rfl gn rfl (aJ (l:=(gz r3)) rfl et tj rfl d4 (CellsAt.of_blk (hI.blk (.s .z)) rfl)) SX.self ?_
  refine gV ?_ ?_
  ·skip
   refine dw (F:=F) (C:=c20) rfl rfl ?_
   obtain⟨c21,f4,hB,hl4,hk4⟩:=hI.hands (.l (.r (.r .n)))
   refine ez rfl gn rfl (ag (vs:=[vp b1 0]) rfl nS ⟨et,trivial⟩) (Calls.mono (hrec c21 f4 w19 s3 b1 a8 c18 (hB.subs ⟨.z,(.s (.s (.s (.s .z)))),trivial⟩) _ hx4) ?_)
   intro e_ w7 hq_;obtain⟨a9,c22,a10,c23,a11,c24,a12,c25,c26,rfl,hB2⟩:=en hq_
   obtain⟨c27,hs4,hI⟩:=hk4 _ _ _ _ hB2
   dsimp only[ca,na]at hI
   refine⟨_,rfl,DM true F c27,hs4,?_⟩
   exact cM (hk_tr_parser_reader_cast_w_1_0 (a9,c22,a10,c23,a11,c24,a12,c25,c27) _ (hI.arr GO SU)) SB
  refine iS (cs:=#[vi 0,(aC ([]:List UInt8)),vi 0,vi 0,vi 0,vi 0,vi 0,vi 0,vi 0,vi 0,vs none 0 0,vs none 0 0,vs none 0 0]) hI rfl gn rfl rfl bA rfl ?_
  clear hI;intro b5 c29 w9 hI
  exact cM (hk_tr_parser_reader_cast_w_1_1 (b5,c29) _ (hI.arr GO SU)) SB
 ·skip
  refine dw (F:=F) (C:=c20) rfl rfl ?_
  obtain⟨c21,f4,hB,hl4,hk4⟩:=hI.hands (.l (.r (.r .n)))
  refine ez rfl gn rfl (ag (vs:=[vp b1 0]) rfl nS ⟨et,trivial⟩) (Calls.mono (hrec c21 f4 w19 s3 b1 a8 c18 (hB.subs ⟨.z,(.s (.s (.s (.s .z)))),trivial⟩) _ hx4) ?_)
  intro e_ w7 hq_;obtain⟨a9,c22,a10,c23,a11,c24,a12,c25,c26,rfl,hB2⟩:=en hq_
  obtain⟨c27,hs4,hI⟩:=hk4 _ _ _ _ hB2
  dsimp only[ca,na]at hI
  refine⟨_,rfl,DM true F c27,hs4,?_⟩
  refine rR ?_ ?_ ?_
  ·skip
   refine dK rfl gn rfl (aJ (l:=(gz r3)) rfl et tj rfl d4 (CellsAt.of_blk (hI.blk (.s .z)) rfl)) SX.self ?_
   exact cM (hk_tr_parser_reader_cast_w_1_0 (a9,c22,a10,c23,a11,c24,a12,c25,c27) _ (hI.arr GO SU)) SB
  ·skip
   refine mw (c:=au) (xs:=([r5]:List GExpr)) (vs:=[(0,(Value.agg (am r5 a9 c22 a10 c23 a11 c24)))]) (cs:=(am r5 a9 c22 a10 c23 a11 c24)) (css:=[(aQ r5 a9 c22 a10 c23 a11 c24)]) hI rfl gn rfl rfl xP kx rfl ⟨rfl,et,trivial⟩ (by kernel_rfl) ⟨(eQ ⟨a9,c22,a10,c23,a11,c24,rfl,hI.get .z,hI.get (.s .z),hI.get (.s (.s .z))⟩),trivial⟩ rfl rfl rfl ?_
   clear hI;intro b4 c28 w8 hI
   refine gV ?_ ?_
   ·skip
    refine dK rfl gn rfl (aJ (l:=(gz r3)) rfl et tj rfl d4 (CellsAt.of_blk (hI.blk (.s (.s .z))) rfl)) SX.self ?_
    refine pt rfl gn rfl (fun w'=>(aV (vs:=[(0,vi 12),(3,(Value.agg (cv r3))),(6,vs (some ⟨b4,0,none⟩) ([r5]:List GExpr).length 1)]) (cs:=#[vi 12,(aC ([]:List UInt8)),vi 0,vi 0,vi r3.Kind,vi r3.Bits,vi r3.Frac,vi r3.Round,vi r3.Over,vi 0,vs none 0 0,vs none 0 0,vs (some ⟨b4,0,none⟩) ([r5]:List GExpr).length 1]) rfl ⟨rfl,ai,⟨rfl,et,⟨rfl,et,trivial⟩⟩⟩ (by kernel_rfl))) ?_
    exact cM (hk_tr_parser_reader_cast_w_1_5 (a9,c22,a10,c23,a11,c24,a12,c25,b4,c28) _ (hI.arr GO SU)) SB
   refine iS (cs:=#[vi 0,(aC ([]:List UInt8)),vi 0,vi 0,vi 0,vi 0,vi 0,vi 0,vi 0,vi 0,vs none 0 0,vs none 0 0,vs none 0 0]) hI rfl gn rfl rfl bA rfl ?_
   clear hI;intro b5 c29 w9 hI
   exact cM (hk_tr_parser_reader_cast_w_1_4 (a9,c22,a10,c23,a11,c24,a12,c25,b4,b5,c29) _ (hI.arr GO SU)) SB
  refine iS (cs:=#[vi 0,(aC ([]:List UInt8)),vi 0,vi 0,vi 0,vi 0,vi 0,vi 0,vi 0,vi 0,vs none 0 0,vs none 0 0,vs none 0 0]) hI rfl gn rfl rfl bA rfl ?_
  clear hI;intro b5 c29 w9 hI
  exact cM (hk_tr_parser_reader_cast_w_1_2 (a9,c22,a10,c23,a11,c24,a12,c25,b5,c29) _ (hI.arr GO SU)) SB
 refine iS (cs:=#[vi 0,(aC ([]:List UInt8)),vi 0,vi 0,vi 0,vi 0,vi 0,vi 0,vi 0,vi 0,vs none 0 0,vs none 0 0,vs none 0 0]) hI rfl gn rfl rfl bA rfl ?_
 clear hI;intro b5 c29 w9 hI
 refine gV ?_ ?_
 ·skip
  refine dK rfl gn rfl (aJ (l:=(gz r3)) rfl et tj rfl d4 (CellsAt.of_blk (hI.blk (.s (.s .z))) rfl)) SX.self ?_
  exact cM (hk_tr_parser_reader_cast_w_1_1 (b5,c29) _ (hI.arr GO SU)) SB
 refine dw (F:=F) (C:=c29) rfl rfl ?_
 obtain⟨c21,f4,hB,hl4,hk4⟩:=hI.hands (.r (.l (.r (.r .n))))
 refine ez rfl gn rfl (ag (vs:=[vp b1 0]) rfl nS ⟨et,trivial⟩) (Calls.mono (hrec c21 f4 w9 s3 b1 a8 c18 (hB.subs ⟨.z,(.s (.s (.s (.s .z)))),trivial⟩) _ hx4) ?_)
 intro e_ w7 hq_;obtain⟨a9,c22,a10,c23,a11,c24,a12,c25,c26,rfl,hB2⟩:=en hq_
 obtain⟨c27,hs4,hI⟩:=hk4 _ _ _ _ hB2
 dsimp only[ca,na]at hI
 refine⟨_,rfl,DM true F c27,hs4,?_⟩
 exact cM (hk_tr_parser_reader_cast_w_1_2 (a9,c22,a10,c23,a11,c24,a12,c25,b5,c27) _ (hI.arr GO SU)) SB
theorem oI (C0 F:NP) (w0:World) (r1:aa) (b1:Nat) (a1:Option Addr) (c1:Nat) (hI:Bun C0 F w0 C0 w0 [MO.box b1 67 (ab r1 a1 c1)] [Cl.sl ah a1 c1 r1.l,aA]) (r:bk (List GLin×aa))
  (h:fv r1=some r):
  Calls Tryz.prog 175 #[vp b1 0] w0 fun e w=>(∃ rx:List GLin×aa,r= .ret rx∧∃ (a2:Option Addr) (c2:Nat) (a3:Option Addr) (c3:Nat) (C:NP),e= .returned (vs a2 rx.1.length c2)∧Bun C0 F w0 C w [MO.box b1 67 (ab rx.2 a3 c3)] [Cl.sl ju a2 c2 rx.1,Cl.sl ah a3 c3 rx.2.l])∨∃ (pa pn:Int),r= .pan pa pn∧e= .panicked [pe 114 pa pn]∧∃ C:NP,Bun C0 F w0 C w [] []:=by
 refine fj (l:=[vp b1 0]) Tryz.func175 rfl Tryz.ntmps175 rfl ?_
 rw[fv]at h
 refine T ?_
 refine aB (T ?_)
 obtain⟨c4,f1,hB,hl1,hk1⟩:=hI.hands (.l .n)
 obtain⟨⟨r2,s1⟩,hx1,h⟩:=af h
 try dsimp only at h
 refine aE gn rfl (ag (vs:=[vp b1 0,(aC ([93]:List UInt8))]) rfl mK ⟨et,⟨ai,trivial⟩⟩) (Calls.mono (aM c4 f1 w0 r1 ([93]:List UInt8) b1 a1 c1 (hB.subs ⟨.z,trivial⟩) _ hx1) ?_)
 rintro _ w1 ⟨a4,c5,c6,rfl,hB2⟩
 obtain⟨c7,hs1,hI⟩:=hk1 _ _ _ _ hB2
 dsimp only[ca,na]at hI
 refine⟨_,rfl,?_⟩
 refine nk (bc h et (fun hb h=> ?_) (fun hb h=> ?_))
 ·refine T ?_
  refine al ?_
  have hI:=hI.add (c:=Cl.sl ju none 0 ([]:List GLin)) SlC.nil
  obtain rfl:=ac h
  refine QG ?_
  exact .inl ⟨_,rfl,none,0,a4,c5,_,rfl,hI.arr GO SU⟩
 refine T ?_
 obtain⟨c8,f2,hB,hl2,hk2⟩:=hI.hands (.l .n)
 refine dY h (fun _ hx2=>fV c8 f2 w1 s1 b1 a4 c5 (hB.subs ⟨.z,(.s (.s .z)),trivial⟩) _ hx2) (ky hk2) (ag rfl yt ⟨et,trivial⟩) ?_
 rintro⟨r3,s2⟩ hx2 h _ w2 ⟨a5,c9,a6,c10,c11,rfl,hB2⟩
 try dsimp only at h
 obtain⟨c12,hs2,hI⟩:=hk2 _ _ _ _ hB2
 dsimp only[ca,na]at hI
 refine⟨_,rfl,?_⟩
 refine jR (c:=ju) (xs:=([r3]:List GLin)) (vs:=[(0,(Value.agg (bI r3 a5 c9)))]) (cs:=(bI r3 a5 c9)) (css:=[(gx r3 a5 c9)]) hI gn rfl rfl GZ xc rfl ⟨rfl,et,trivial⟩ (by kernel_rfl) ⟨⟨a5,c9,rfl,hI.get .z⟩,trivial⟩ rfl rfl rfl ?_
 clear hI;intro b2 c13 w3 hI
 refine T ?_
 refine aB (T ?_)
 refine cO (α:=Nat×(List GLin)×aa×(Option Addr)×Nat×(Option Addr)×Nat) (fun x=>fun w=>∃ C,Bun C0 F w0 C w [MO.row ju 27 (x.2.2.2.1) (x.2.2.2.2.1) (x.2.1),MO.box b1 67 (ab (x.2.2.1) (x.2.2.2.2.2.1) (x.2.2.2.2.2.2))] [Cl.sl ah (x.2.2.2.2.2.1) (x.2.2.2.2.2.2) (x.2.2.1).l,aA]∧cj (x.1) (x.2.1) (x.2.2.1)=some r) (fun x _=>x.1) (fun x=>[(0,vp b1 0),(3,vs (x.2.2.2.1) (x.2.1).length (x.2.2.2.2.1))]) (fu,([r3]:List GLin),s2,some ⟨b2,0,none⟩,1,a6,c10) ⟨_,hI.arr (.c .z (.c .z .n)) ⟨(.s .z),(.s (.s (.s (.s .z)))),trivial⟩,h⟩ SB ?_
 clear h hI;rintro⟨fuel1,gh,r4,a7,c14,a8,c15⟩ w4 ⟨c16,hI,h⟩
 dsimp only at hI h
 rcases fuel1 with _ | fuel1
 ·rw[cj]at h;cases h
 rw[cj]at h
 refine bz (e:=[(0,vp b1 0),(3,vs a7 gh.length c14)]) SB ?_
 refine aB (T ?_)
 obtain⟨c17,f3,hB,hl3,hk3⟩:=hI.hands (.r (.l .n))
 obtain⟨⟨r5,s3⟩,hx3,h⟩:=af h
 try dsimp only at h
 refine aE gn rfl (ag (vs:=[vp b1 0,(aC ([44]:List UInt8))]) rfl mK ⟨et,⟨ai,trivial⟩⟩) (Calls.mono (aM c17 f3 w4 r4 ([44]:List UInt8) b1 a8 c15 (hB.subs ⟨.z,trivial⟩) _ hx3) ?_)
 rintro _ w5 ⟨a9,c18,c19,rfl,hB2⟩
 obtain⟨c20,hs3,hI⟩:=hk3 _ _ _ _ hB2
 dsimp only[ca,na]at hI
 refine⟨_,rfl,?_⟩
 refine nk (bc h et (fun hb h=> ?_) (fun hb h=> ?_))
 ·have hk4:=hb
  refine T ?_
  obtain⟨c21,f4,hB,hl4,hk5⟩:=hI.hands (.l (.r .n))
  refine dY h (fun _ hx4=>fV c21 f4 w5 s3 b1 a9 c18 (hB.subs ⟨.z,(.s (.s .z)),trivial⟩) _ hx4) (ky hk5) (ag rfl yt ⟨et,trivial⟩) ?_
  rintro⟨r6,s4⟩ hx4 h _ w6 ⟨a10,c22,a11,c23,c24,rfl,hB2⟩
  try dsimp only at h
  obtain⟨c25,hs4,hI⟩:=hk5 _ _ _ _ hB2
  dsimp only[ca,na]at hI
  refine⟨_,rfl,?_⟩
  refine jR (c:=ju) (xs:=([r6]:List GLin)) (vs:=[(0,(Value.agg (bI r6 a10 c22)))]) (cs:=(bI r6 a10 c22)) (css:=[(gx r6 a10 c22)]) hI gn rfl rfl GZ xc rfl ⟨rfl,et,trivial⟩ (by kernel_rfl) ⟨⟨a10,c22,rfl,hI.get .z⟩,trivial⟩ rfl rfl rfl ?_
  clear hI;intro b3 c26 w7 hI
  obtain⟨zs1,hx5,h⟩:=af h
  refine pJ (xs:=gh) (ys:=([r6]:List GLin)) hI (.s (.s .z)) (hI.rd .z) hx5 gn rfl rfl GZ xc rfl rfl et et ?_
  clear hI;intro a12 c27 c28 w8 hI
  refine sa ?_
  refine bl ?_
  exact cg (fuel1,zs1,s4,a12,c27,a11,c23) SB ⟨_,hI.arr GO SU,h⟩ (Nat.lt_succ_self _)
 refine dv ?_
 refine kb ?_
 refine cA ?_
 refine T ?_
 obtain⟨c29,f5,hB,hl5,hk6⟩:=hI.hands (.l (.r .n))
 refine dY h (fun _ hx6=>aR c29 f5 w5 s3 ([93]:List UInt8) b1 a9 c18 (hB.subs ⟨.z,trivial⟩) _ hx6) (ky hk6) (ag rfl lC ⟨et,⟨ai,trivial⟩⟩) ?_
 rintro⟨r7,s5⟩ hx6 h _ w9 ⟨a13,c30,c31,rfl,hB2⟩
 try dsimp only at h
 obtain⟨c32,hs5,hI⟩:=hk6 _ _ _ _ hB2
 dsimp only[ca,na]at hI
 refine⟨_,rfl,?_⟩
 refine T ?_
 refine al ?_
 obtain⟨c33,hI⟩:=hI.release (.s .z)
 obtain rfl:=ac h
 refine QG ?_
 exact .inl ⟨_,rfl,a7,c14,a13,c30,_,rfl,hI.arr GO SU⟩
theorem fz (C0 F:NP) (w0:World) (r1:aa) (b1:Nat) (a1:Option Addr) (c1:Nat) (hI:Bun C0 F w0 C0 w0 [MO.box b1 67 (ab r1 a1 c1)] [Cl.sl ah a1 c1 r1.l,aA]) (r:bk (GIndex×aa))
  (h:ct r1=some r):
  Calls Tryz.prog 258 #[vp b1 0] w0 fun e w=>(∃ rx:GIndex×aa,r= .ret rx∧∃ (a2:Option Addr) (c2:Nat) (a3:Option Addr) (c3:Nat) (a4:Option Addr) (c4:Nat) (C:NP),e= .returned (Value.agg (eF rx.1 a2 c2 a3 c3))∧Bun C0 F w0 C w [MO.box b1 67 (ab rx.2 a4 c4)] [Cl.sl aj a2 c2 rx.1.Lin.L,Cl.sl ju a3 c3 rx.1.At,Cl.sl ah a4 c4 rx.2.l])∨∃ (pa pn:Int),r= .pan pa pn∧e= .panicked [pe 114 pa pn]∧∃ C:NP,Bun C0 F w0 C w [] []:=by
 refine fj (l:=[vp b1 0]) Tryz.func258 rfl Tryz.ntmps258 rfl ?_
 rw[ct]at h
 refine sr (aN (cs:=#[vi 0,vs none 0 0,(aC ([]:List UInt8)),vs none 0 0]) hI gn rfl rfl tZ rfl ?_)
 clear hI;intro b2 c5 w1 hI
 refine nk (aB (bx [] false (.c (0,.q) (.c (1,.s) (.c (2,.q) (.c (3,.q) (.c (4,.q) (.c (5,.q) (.c (6,.q) (.c (7,.q) (.c (8,.q) (.c (9,.q) (.c (10,.q) (.c (11,.q) (.c (12,.q) (.c (13,.q) (.c (14,.q) (.c (15,.q) (.c (16,.q) (.c (17,.q) (.c (18,.q) (.c (19,.q) (.c (20,.q) (.c (21,.q) (.c (22,.q) (.c (23,.q) (.c (24,.q) (.c (25,.q) (.c (26,.q) (.c (27,.q) (.c (28,.q) (.c (29,.q) (.c (30,.q) (.c (31,.q) (.c (32,.q) (.c (33,.q) (.c (34,.q) (.c (35,.q) (.c (36,.q) (.c (37,.q) (.c (38,.q) (.c (39,.q) (.c (40,.q) (.c (41,.q) (.c (42,.q) (.c (43,.q) (.c (44,.q) (.c (45,.q) .n)))))))))))))))))))))))))))))))))))))))))))))) hI (by kernel_rfl) (by kernel_rfl) ?_))
 clear hI;intro w2 hI
 refine V ?_
 obtain⟨r2,hx1,h⟩:=af h
 refine l8 rfl gn rfl (ag (vs:=[vp b1 0]) rfl zA ⟨et,trivial⟩) (Calls.mono (j4 d5 w2 (fun _ k=>k.elim) r1 b1 a1 c1 ⟨(hI.get0 .z),hI.lendBox (.s .z),hI.get0 (.s .z),trivial⟩ r2 hx1) ?_)
 rintro _ w3 ⟨rfl,hx2,hl1⟩
 refine⟨_,rfl,hx2,?_⟩
 replace hI:=(hI.ext hx2)
 refine V ?_
 obtain⟨e1,hx3,h⟩:=af h
 replace hx3:=aP hx3
 obtain⟨ad1,cs1,hq1⟩:=hI.gclat .z hx3
 have hq2:(r2&&(decide (az (r1.at_+1)<(r1.l.length:Int))))=true→CA (Dj F c5) w3 (ad1.add (Int.toNat (az (r1.at_+1)) * 3)) (m6 e1):=fun hc=>yQ (hq1 hc).2.1 (hq1 hc).2.2
 refine vJ ?_
 refine V ?_
 obtain⟨e2,hx4,h⟩:=af h
 replace hx4:=aP hx4
 obtain⟨ad2,cs2,hq3⟩:=hI.gclat .z hx4
 have hq4:((r2&&(decide (az (r1.at_+1)<(r1.l.length:Int))))&&(decide (e1.Kind=3)))=true→CA (Dj F c5) w3 (ad2.add (Int.toNat (az (r1.at_+1)) * 3)) (m6 e2):=fun hc=>yQ (hq3 hc).2.1 (hq3 hc).2.2
 refine vJ ?_
 refine V ?_
 refine aB (T ?_)
 refine bc h et (fun hb h=> ?_) (fun hb h=> ?_)
 ·refine T ?_
  obtain⟨c6,f1,hB,hl2,hk1⟩:=hI.hands (.r (.l .n))
  refine dY h (fun _ hx5=>fV c6 f1 w3 r1 b1 a1 c1 (hB.subs ⟨.z,(.s .z),trivial⟩) _ hx5) (ky hk1) (ag rfl yt ⟨et,trivial⟩) ?_
  rintro⟨r3,s1⟩ hx5 h _ w4 ⟨a5,c7,a6,c8,c9,rfl,hB2⟩
  try dsimp only at h
  obtain⟨c10,hs1,hI⟩:=hk1 _ _ _ _ hB2
  dsimp only[ca,na]at hI
  refine⟨_,rfl,?_⟩
  refine sq (aV (vs:=[(0,(Value.agg (bI r3 a5 c7)))]) (cs:=#[vi r3.K,vs a5 r3.L.length c7,(aC ([]:List UInt8)),vs none 0 0]) rfl ⟨rfl,et,trivial⟩ (by kernel_rfl)) ?_
  refine ay (new:=[vi r3.K,vs a5 r3.L.length c7,(aC ([]:List UInt8)),vs none 0 0]) (cs':=#[vi r3.K,vs a5 r3.L.length c7,(aC ([]:List UInt8)),vs none 0 0]) hI (.s .z) gn rfl rfl et et rfl lM rfl rfl rfl ?_
  clear hI;intro c11 w5 hI
  refine nk (al ?_)
  have hI:=hI.add (c:=Cl.sl ju none 0 ([]:List GLin)) SlC.nil
  obtain rfl:=ac h
  refine QG ?_
  exact .inl ⟨_,rfl,a5,c7,none,0,a6,c8,_,rfl,hI.arr GO SU⟩
 refine T ?_
 obtain⟨c12,f2,hB,hl3,hk2⟩:=hI.hands (.r (.l .n))
 refine dY h (fun _ hx6=>iq c12 f2 w3 r1 b1 a1 c1 (hB.subs ⟨.z,(.s .z),trivial⟩) _ hx6) (ky hk2) (ag rfl wU ⟨et,trivial⟩) ?_
 rintro⟨r4,s2⟩ hx6 h _ w6 ⟨a7,c13,c14,rfl,hB2⟩
 try dsimp only at h
 obtain⟨c15,hs2,hI⟩:=hk2 _ _ _ _ hB2
 dsimp only[ca,na]at hI
 refine⟨_,rfl,?_⟩
 refine sq (aV (vs:=[(1,(aC r4))]) (cs:=#[vi 0,vs none 0 0,(aC r4),vs none 0 0]) rfl ⟨rfl,et,trivial⟩ (by kernel_rfl)) ?_
 refine aN (cs:=#[vi 0,vs none 0 0,(aC ([]:List UInt8)),vs none 0 0]) hI gn rfl rfl tZ rfl ?_
 clear hI;intro b3 c16 w7 hI
 refine ay (new:=[vi 0,vs none 0 0,(aC r4),vs none 0 0]) (cs':=#[vi 0,vs none 0 0,(aC r4),vs none 0 0]) hI .z gn rfl rfl et et rfl lM rfl rfl rfl ?_
 clear hI;intro c17 w8 hI
 refine T ?_
 obtain⟨c18,f3,hB,hl4,hk3⟩:=hI.hands (.r (.l (.r .n)))
 refine dY h (fun _ hx7=>aR c18 f3 w8 s2 ([91]:List UInt8) b1 a7 c13 (hB.subs ⟨.z,trivial⟩) _ hx7) (ky hk3) (ag rfl lC ⟨et,⟨ai,trivial⟩⟩) ?_
 rintro⟨r5,s3⟩ hx7 h _ w9 ⟨a8,c19,c20,rfl,hB2⟩
 try dsimp only at h
 obtain⟨c21,hs3,hI⟩:=hk3 _ _ _ _ hB2
 dsimp only[ca,na]at hI
 refine⟨_,rfl,?_⟩
 refine T ?_
 obtain⟨c22,f4,hB,hl5,hk4⟩:=hI.hands (.l (.r (.r .n)))
 refine dY h (fun _ hx8=>oI c22 f4 w9 s3 b1 a8 c19 (hB.subs ⟨.z,(.s (.s (.s .z))),trivial⟩) _ hx8) (ky hk4) (ag rfl Gn ⟨et,trivial⟩) ?_
 rintro⟨r6,s4⟩ hx8 h _ w10 ⟨a9,c23,a10,c24,c25,rfl,hB2⟩
 try dsimp only at h
 obtain⟨c26,hs4,hI⟩:=hk4 _ _ _ _ hB2
 dsimp only[ca,na]at hI
 refine⟨_,rfl,?_⟩
 refine T ?_
 refine ay (new:=[vs a9 r6.length c23]) (cs':=#[vi 0,vs none 0 0,(aC r4),vs a9 r6.length c23]) hI (.s .z) gn rfl rfl et et rfl Au rfl rfl rfl ?_
 clear hI;intro c27 w11 hI
 refine T ?_
 refine ay (new:=[vi 0,vs none 0 0,(aC r4),vs a9 r6.length c23]) (cs':=#[vi 0,vs none 0 0,(aC r4),vs a9 r6.length c23]) hI (.s (.s .z)) gn rfl rfl et et rfl lM rfl rfl rfl ?_
 clear hI;intro c28 w12 hI
 refine nk (al ?_)
 have hI:=hI.add (c:=Cl.sl aj none 0 ([]:List GMono)) SlC.nil
 obtain rfl:=ac h
 refine QG ?_
 exact .inl ⟨_,rfl,none,0,a9,c23,a10,c24,_,rfl,hI.arr GO SU⟩
end Go.Proofs.YtmhoikfoogemnaaGreatDoor
