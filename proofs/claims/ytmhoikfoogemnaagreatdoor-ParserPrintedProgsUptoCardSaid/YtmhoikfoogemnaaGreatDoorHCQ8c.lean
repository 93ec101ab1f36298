import Derived.Test.YtmhoikfoogemnaaGreatDoorHCQ8b
import Derived.Test.YtmhoikfoogemnaaGreatDoorHLfH
namespace Go.Proofs.YtmhoikfoogemnaaGreatDoor
open Go Go.RowKit Go.Vc
set_option maxRecDepth 100000
set_option maxHeartbeats 4000000
set_option linter.unusedVariables false
set_option linter.unusedSimpArgs false
variable {σ:Type} {C0 F:NP} {w0:World} {a1 a2 a3 a4 a5 a6 a7 a8 a9 a10 a11 a12:Option Addr} {b1 b2 b3 b4 b5 b6 b7 b8 b9 b10 b11 b12 c1 c2 c3 c4 c5 c6 c7 c8 c9 c10 c11 c12:Nat}
theorem AK (hF:dF F w0) {x1:aM} (hc:AllCl [Cl.sl ai a1 c1 x1.Lin.L,Cl.sl dU a2 c2 x1.At] F w0) {r:Bool} (h:m5 x1=some r):CR F w0 201 #[(Value.agg (oN x1 a1 c1 a2 c2))] (vb r) []:=by
 refine EN Tryz.func201 Tryz.ntmps201 hF hc λhI=>?_
 rw[m5]at h
 refine sr (lX λb1 c4 w1 hI=>?_)
 exact RF
theorem EQ (hF:dF F w0) {e1:ae} (hc:AllCl [Cl.sl ai a1 c1 e1.Lin.L,Cl.sl al a2 c2 e1.Idx,Cl.sl an a3 c3 e1.Args] F w0) {r:Bool} (h:pc e1=some r):CR F w0 146 #[(Value.agg (aA e1 a1 c1 a2 c2 a3 c3))] (vb r) []:=by
 refine EN Tryz.func146 Tryz.ntmps146 hF hc λhI=>?_
 rw[pc]at h
 refine sr (lX λb1 c5 w1 hI=>?_)
 refine T ?_
 refine aj (aj (aL [] false (.c (0,.q) (.c (1,.q) (.c (2,.q) (.c (3,.q) (.c (4,.q) (.c (5,.s) (.c (6,.q) (.c (7,.q) (.c (8,.q) (.c (9,.q) (.c (10,.q) (.c (11,.q) (.c (12,.q) .n))))))))))))) hI (by kernel_rfl) (by kernel_rfl) ?_))
 intro w2 hI
 refine V ?_
 obtain⟨r1,hx1,h⟩:=ab h
 refine bF rfl gn rfl (ar (vs:=[vi e1.Op]) rfl Oe ⟨et,af⟩) (Calls.mono (ya hI.lt af hx1) ?_)
 rintro _ w3 ⟨rfl,hx2,hl1⟩
 refine⟨_,rfl,hx2,?_⟩
 replace hI:=(hI.ext hx2)
 refine V ?_
 refine TR λhb h=>?_
 refine T ?_
 have hI:=hI.add (c:=ux (Value.func (.func 201) #[] #[]) m5) ⟨rfl,λD' w' hs hl x_1 A_2 c_3 A_4 c_5 r k h=>CallV.fn (cap:=[]) Od (AK hl ⟨k.1,k.2.1,af⟩ h)⟩
 refine sB h (λ_ k=>el hI.lt FS k) (Rc Tryz.func196) λr2 w4 h hI=>?_
 exact RF
theorem vx (hF:dF F w0) {e1:ae} (hc:AllCl [Cl.sl ai a1 c1 e1.Lin.L,Cl.sl al a2 c2 e1.Idx,Cl.sl an a3 c3 e1.Args] F w0) {r:Bool} (h:kR e1=some r):CR F w0 203 #[(Value.agg (aA e1 a1 c1 a2 c2 a3 c3))] (vb r) []:=by
 refine EN Tryz.func203 Tryz.ntmps203 hF hc λhI=>?_
 rw[kR]at h
 refine sr (lX λb1 c5 w1 hI=>?_)
 exact RF
theorem rl (hF:dF F w0) {op1 i1:Int} (hc:AllCl [] F w0) {r:Bool} (h:fQ op1 i1=some r):CR F w0 204 #[vi op1,vi i1] (vb r) []:=by
 refine EN Tryz.func204 Tryz.ntmps204 hF hc λhI=>?_
 rw[fQ]at h
 refine T ?_
 refine aj (T ?_)
 refine aj (T ?_)
 refine TC (λhb h=>?_) λhb h=>?_
 ·refine TR λhb h=>?_
  exact RF
 refine TC (λhb h=>?_) λhb h=>?_
 ·refine TR λhb h=>?_
  exact RF
 refine TR λhb h=>?_
 exact RF
theorem Db (hF:dF F w0) {e1:ae} (hc:AllCl [Cl.sl ai a1 c1 e1.Lin.L,Cl.sl al a2 c2 e1.Idx,Cl.sl an a3 c3 e1.Args] F w0) {r:Bool} (h:od e1=some r):CR F w0 147 #[(Value.agg (aA e1 a1 c1 a2 c2 a3 c3))] (vb r) []:=by
 refine EN Tryz.func147 Tryz.ntmps147 hF hc λhI=>?_
 rw[od]at h
 refine sr (lX λb1 c5 w1 hI=>?_)
 refine T ?_
 refine aj (T ?_)
 refine aw (bg rfl rfl rfl rfl) rfl (λhc=>(am (l:=(bU e1.Type_)) rfl (aI et hc) qF rfl bN (hI.kblk (l:=(bU e1.Type_)) .z rfl).1)) ?_
 obtain⟨r1,hx1,h⟩:=ab h
 replace hx1:=ax hx1
 refine sU (λhc=>jK hI.lt trivial (hx1 hc)) (Rg Tryz.func202) λw2 hI=>?_
 refine TR λhb h=>?_
 refine T ?_
 refine aj (T ?_)
 refine bk (α:=Nat×Int) (λx=>λw=>∃ C,Bun cH F w0 C w [] [Cl.blk b1 39 (aA e1 a1 c1 a2 c2 a3 c3),Cl.sl ai a1 c1 e1.Lin.L,Cl.sl al a2 c2 e1.Idx,Cl.sl an a3 c3 e1.Args]∧ga e1 (x.1) (x.2)=some r) (λx _=>x.1) (λx=>[(1,vp b1 0),(20,vs a3 e1.Args.length c3),(21,vi (e1.Args.length:Int)),(22,vi (x.2))]) (fu,0) BH SB ?_
 clear h hI;rintro⟨fuel1,i1⟩ w3 ⟨c6,hI,h⟩
 dsimp only at hI h ⊢
 rcases fuel1 with _ | fuel1
 ·rw[ga]at h;cases h
 rw[ga]at h
 refine T ?_
 refine aj (E7 h et (λhb h=>?_) (λhb h=>?_))
 ·refine T ?_
  refine aj (T ?_)
  obtain⟨e2,hx3,h⟩:=ab h
  obtain⟨ad1,cs1,hA1,hr1,hq1⟩:=hI.clat .p3 hx3
  obtain⟨a4,c7,a5,c8,a6,c9,rfl,hf1,hf2,hf3⟩:=ci hr1
  have hI:=hI.ads hf1
  have hI:=hI.ads hf2
  have hI:=hI.ads hf3
  refine sI ?_
  refine T ?_
  refine lN λb2 c10 w4 hI=>?_
  refine sa ?_
  refine lA λc11 w5 hI=>?_
  refine nk (aj (aL [] false (.c (0,.q) (.c (2,.q) (.c (3,.q) (.c (4,.q) (.c (1,.s) (.c (5,.s) (.c (6,.q) .n))))))) hI (by kernel_rfl) (by kernel_rfl) ?_))
  intro w6 hI
  refine dl rfl gn rfl (λw' hw'=>(am (l:=(ba e2 a4 c7 a5 c8 a6 c9)) rfl et jZ rfl aJ ((CA.blk (hI.blk .z) rfl).at_ (SX.any rfl hw')))) (by kernel_rfl) ?_
  refine V ?_
  obtain⟨r2,hx4,h⟩:=ab h
  refine bF rfl gn rfl (ar (vs:=[(Value.agg (aA e2 a4 c7 a5 c8 a6 c9))]) rfl Oc ⟨et,af⟩) (Calls.mono (vx hI.lt FS hx4) ?_)
  rintro _ w7 ⟨rfl,hx5,hl2⟩
  refine⟨_,rfl,hx5,?_⟩
  replace hI:=(hI.ext hx5)
  obtain⟨r3,hx6,h⟩:=ab h
  refine bF rfl gn rfl (ar (vs:=[vi e1.Op,vi i1]) rfl Ob ⟨et,et,af⟩) (Calls.mono (rl hI.lt af hx6) ?_)
  rintro _ w8 ⟨rfl,hx7,hl3⟩
  refine⟨_,rfl,hx7,?_⟩
  replace hI:=(hI.ext hx7)
  refine iq rfl gn rfl (λw'=>Gn rfl u4 et et) ?_
  refine V ?_
  refine TR λhb h=>?_
  refine T ?_
  refine aG ?_
  exact kl (fuel1,av (i1+1))
 refine bl ?_
 refine eZ ?_
 refine aS ?_
 exact RF
theorem Ai (hF:dF F w0) {n1:Int} (hc:AllCl [] F w0) {r:Bool} (h:oQ n1=some r):CR F w0 206 #[vi n1] (vb r) []:=by
 refine EN Tryz.func206 Tryz.ntmps206 hF hc λhI=>?_
 rw[oQ]at h
 exact RF
theorem Ak (hF:dF F w0) {t1:bu} {v1:co} (hc:AllCl [] F w0) {r:Bool} (h:mL t1 v1=some r):CR F w0 148 #[(Value.agg (fV t1)),(Value.agg (sT v1))] (vb r) []:=by
 refine EN Tryz.func148 Tryz.ntmps148 hF hc λhI=>?_
 rw[mL]at h
 refine sr (lX λb1 c2 w1 hI=>?_)
 refine lX λb2 c4 w2 hI=>?_
 refine T ?_
 refine aj (sr (sq (am (l:=(bU t1)) rfl et qF rfl bN (hI.kblk (l:=(bU t1)) .p1 rfl).1) ?_))
 refine sB h (λ_ k=>jK hI.lt trivial k) (Rc Tryz.func202) λr1 w3 h hI=>?_
 refine TR λhb h=>?_
 refine T ?_
 refine aj (T ?_)
 refine TC (λhb h=>?_) λhb h=>?_
 ·refine sr (sq (am (l:=(bU t1)) rfl et qF rfl bN (hI.kblk (l:=(bU t1)) .p1 rfl).1) ?_)
  refine sq (am (l:=(oA v1)) rfl et Gy rfl kM (hI.kblk (l:=(oA v1)) .z rfl).1) ?_
  refine sB h (λ_ k=>u0 hI.lt trivial k) (Rc Tryz.func205) λr2 w4 h hI=>?_
  exact RF
 refine TC (λhb h=>?_) λhb h=>?_
 ·refine T ?_
  obtain⟨r3,hx5,h⟩:=ab h
  replace hx5:=ax hx5
  refine sU (λhc=>Ai hI.lt trivial (hx5 hc)) (Rg Tryz.func206) λw5 hI=>?_
  exact RF
 refine T ?_
 refine sq (am (l:=(oA v1)) rfl et Gy rfl kM (hI.kblk (l:=(oA v1)) .z rfl).1) ?_
 refine sB h (λ_ k=>wA hI.lt trivial k) (Rc Tryz.func207) λr4 w6 h hI=>?_
 exact RF
theorem Dd (hF:dF F w0) {e1:ae} (hc:AllCl [Cl.sl ai a1 c1 e1.Lin.L,Cl.sl al a2 c2 e1.Idx,Cl.sl an a3 c3 e1.Args] F w0) {r:ae} (h:og e1=some r):Cg 149 #[(Value.agg (aA e1 a1 c1 a2 c2 a3 c3))] w0 λe w=>∃ b1 a4 c4 a5 c5 a6 c6,e= .returned (Value.func (.func 208) #[] #[vp b1 0])∧Ext w0 w∧AllCl [Cl.sl ai a4 c4 r.Lin.L,Cl.sl al a5 c5 r.Idx,Cl.sl an a6 c6 r.Args,Cl.blk b1 39 (aA r a4 c4 a5 c5 a6 c6)] F w:=by
 refine EN Tryz.func149 Tryz.ntmps149 hF hc λhI=>?_
 rw[og]at h
 refine sr (lX λb2 c8 w1 hI=>?_)
 refine T ?_
 refine sq (np (vs:=[]) (cap:=[vp b2 0]) rfl rfl ⟨et,af⟩) ?_
 refine T ?_
 refine aO ?_
 obtain rfl:=ak h
 refine QG ?_
 exact⟨b2,a1,c1,a2,c2,a3,c3,rfl,hI.ext0,hI.fin ⟨.p1,.p2,.p3,.z,af⟩⟩
theorem xi {I:StI σ} {yield1:(aC→σ→Option (Bool×σ))} {a1:ae} {s1:σ} {fv1:Value} (hI:Bun C0 F w0 C0 w0 [MO.st I s1] [pk I fv1 yield1,Cl.sl ai a2 c1 a1.Lin.L,Cl.sl al a3 c2 a1.Idx,Cl.sl an a4 c3 a1.Args,Cl.blk b1 39 (aA a1 a2 c1 a3 c2 a4 c3)]) {r:Unit×σ} (h:ky yield1 a1 s1=some r):Cg 208 #[fv1,vp b1 0] w0 λe w=>∃ C,e= .returned (Value.tuple #[])∧Bun C0 F w0 C w [MO.st I r.2] []:=by
 refine sw Tryz.func208 rfl Tryz.ntmps208 rfl ?_
 rw[ky]at h
 refine aj (sr (sm ?_))
 refine sq (aq rfl et jZ rfl bc rfl) ?_
 refine sq (am (l:=(fS a1.Lin a2 c1)) rfl et pr rfl bc (hI.kblk (l:=(fS a1.Lin a2 c1)) .p4 rfl).1) ?_
 obtain⟨⟨r1,s2⟩,hx1,h⟩:=ab h
 try dsimp only at h
 obtain⟨c4,f1,hB,hl1,hk1⟩:=hI.hands (.l .n)
 refine vR (args:=[(Value.agg (eP a1.Lin a2 c1))]) gn rfl rfl et ⟨et,af⟩ (CallV.mono ((hI.get .z).2 c4 f1 w0 (Ra hl1) a1.Lin a2 c1 s1 _ (hB.subs ⟨.p1,af⟩) hx1) ?_)
 rintro _ w1 ⟨c5,rfl,hB2⟩
 obtain⟨c6,hs1,hI⟩:=hk1 _ _ _ _ hB2
 replace hI:Bun C0 F w0 c6 w1 [MO.st I s2] [pk I fv1 yield1,Cl.sl ai a2 c1 a1.Lin.L,Cl.sl al a3 c2 a1.Idx,Cl.sl an a4 c3 a1.Args,Cl.blk b1 39 (aA a1 a2 c1 a3 c2 a4 c3)]:=hI
 refine⟨_,rfl,?_⟩
 refine sq (uH rfl et) ?_
 refine TC (λhb h=>?_) λhb h=>?_
 ·refine aO ?_
  obtain rfl:=ak h
  exact gR (vs:=[]) Tryz.results208 trivial ⟨_,rfl,hI.arr GO SU⟩
 refine aZ (aS (sr (sq (aq rfl et jZ rfl nK rfl) ?_)))
 refine sq (aF (v:=(vs a3 a1.Idx.length c2)) rfl et xm rfl (hI.kblk (l:=[vs a3 a1.Idx.length c2]) .p4 rfl).1) ?_
 refine sq (jM rfl xm et) ?_
 refine sq (fC rfl ah) ?_
 refine nk (mB (bk (α:=Nat×Int×σ) (λx=>λw=>∃ C,Bun C0 F w0 C w [MO.st I (x.2.2)] [pk I fv1 yield1,Cl.sl al a3 c2 a1.Idx]∧bA a1 yield1 (x.1) (x.2.1) (x.2.2)=some r) (λx _=>x.1) (λx=>[(0,fv1),(13,vs a3 a1.Idx.length c2),(14,vi (a1.Idx.length:Int)),(15,vi (x.2.1))]) (fu,0,s2) BH SB ?_))
 clear h hI;rintro⟨fuel1,i1,s3⟩ w2 ⟨c7,hI,h⟩
 dsimp only at hI h ⊢
 rcases fuel1 with _ | fuel1
 ·rw[bA]at h;cases h
 rw[bA]at h
 refine sr (sq (rp rfl et et) ?_)
 refine nk (aj (E7 h et (λhb h=>?_) (λhb h=>?_)))
 ·refine aZ (aS (bO (α:=σ) (λ_=>⟨37,[]⟩) (λx=>[(0,fv1),(13,vs a3 a1.Idx.length c2),(14,vi (a1.Idx.length:Int)),(15,vi i1)]) (λx=>λw=>∃ C,Bun C0 F w0 C w [MO.st I x] [pk I fv1 yield1,Cl.sl al a3 c2 a1.Idx]∧j6 (bA a1 yield1 fuel1) i1 x=some r) ?_ ?_))
  ·clear h hI;rintro s4 w3 ⟨c8,hI,h⟩
   try dsimp only at hI h ⊢
   rw[j6]at h
   refine ip rfl ?_
   refine sq (nB rfl et ah) ?_
   refine sm ?_
   refine aG ?_
   exact kl (fuel1,av (i1+1),s4)
  refine mB (sr ?_)
  obtain⟨e1,hx2,h⟩:=ab h
  obtain⟨ad1,cs1,hA1,hr1,hq1⟩:=hI.clat .p1 hx2
  obtain⟨a5,c9,a6,c10,rfl,hf1,hf2⟩:=hr1
  have hI:=hI.ads hf1
  have hI:=hI.ads hf2
  refine sq (iS rfl xm lL et et (pA hx2) hA1) ?_
  refine sq (am (l:=(tJ e1 a5 c9 a6 c10)) rfl et o0 rfl lL hq1.1) ?_
  refine lN λb2 c11 w4 hI=>?_
  refine lA λc12 w5 hI=>?_
  refine nk (aj (sr (sm ?_)))
  refine sq (aq rfl et o0 rfl bc rfl) ?_
  refine sq (am (l:=(fS e1.Lin a5 c9)) rfl et pr rfl bc (Q5 (hI.blk .z) rfl)) ?_
  obtain⟨⟨r2,s5⟩,hx3,h⟩:=ab h
  try dsimp only at h
  obtain⟨c13,f2,hB,hl2,hk2⟩:=hI.hands (.r (.l .n))
  refine vR (args:=[(Value.agg (eP e1.Lin a5 c9))]) gn rfl rfl et ⟨et,af⟩ (CallV.mono ((hI.get .p2).2 c13 f2 w5 (Ra hl2) e1.Lin a5 c9 s3 _ (hB.subs ⟨.p1,af⟩) hx3) ?_)
  rintro _ w6 ⟨c14,rfl,hB2⟩
  obtain⟨c15,hs2,hI⟩:=hk2 _ _ _ _ hB2
  replace hI:Bun C0 F w0 c15 w6 [MO.st I s5,MO.box b2 132 (oN e1 a5 c9 a6 c10)] [Cl.sl dU a6 c10 e1.At,Cl.sl ai a5 c9 e1.Lin.L,pk I fv1 yield1,Cl.sl al a3 c2 a1.Idx]:=hI
  refine⟨_,rfl,?_⟩
  refine sq (uH rfl et) ?_
  refine TC (λhb h=>?_) λhb h=>?_
  ·refine aO ?_
   obtain rfl:=ak h
   exact gR (vs:=[]) Tryz.results208 trivial ⟨_,rfl,hI.arr GO SU⟩
  refine aZ (aS (sr (sq (aq rfl et o0 rfl qO rfl) ?_)))
  refine sq (aF (v:=(vs a6 e1.At.length c10)) rfl et E5 rfl (Q5 (hI.blk .p1) rfl)) ?_
  refine sq (jM rfl E5 et) ?_
  refine sq (fC rfl ah) ?_
  refine nk (mB (bk (α:=Nat×Int×σ) (λx=>λw=>∃ C,Bun C0 F w0 C w [MO.st I (x.2.2)] [pk I fv1 yield1,Cl.sl al a3 c2 a1.Idx,Cl.sl dU a6 c10 e1.At]∧dB e1 yield1 (bA a1 yield1 fuel1) i1 (x.1) (x.2.1) (x.2.2)=some r) (λx _=>x.1) (λx=>[(0,fv1),(13,vs a3 a1.Idx.length c2),(14,vi (a1.Idx.length:Int)),(15,vi i1),(25,vs a6 e1.At.length c10),(26,vi (e1.At.length:Int)),(27,vi (x.2.1))]) (fu,0,s5) BH SB ?_))
  clear h hI;rintro⟨fuel2,i2,s6⟩ w7 ⟨c16,hI,h⟩
  dsimp only at hI h ⊢
  rcases fuel2 with _ | fuel2
  ·rw[dB]at h;cases h
  rw[dB]at h
  refine sr (sq (rp rfl et et) ?_)
  refine nk (aj (E7 h et (λhb h=>?_) (λhb h=>?_)))
  ·refine aZ (aS (aj (mB (sr ?_))))
   obtain⟨e2,hx4,h⟩:=ab h
   obtain⟨ad2,cs2,hA2,hr2,hq2⟩:=hI.clat .p2 hx4
   obtain⟨a7,c17,rfl,hf3⟩:=hr2
   have hI:=hI.ads hf3
   refine sq (iS rfl E5 bc et et (pA hx4) hA2) ?_
   refine sq (am (l:=(fS e2 a7 c17)) rfl et pr rfl bc hq2.1) ?_
   refine lN λb3 c18 w8 hI=>?_
   refine lA λc19 w9 hI=>?_
   refine nk (sr (sm ?_))
   refine sq (am (l:=(fS e2 a7 c17)) rfl et pr rfl bc (Q5 (hI.blk .z) rfl)) ?_
   obtain⟨⟨r3,s7⟩,hx5,h⟩:=ab h
   try dsimp only at h
   obtain⟨c20,f3,hB,hl3,hk3⟩:=hI.hands (.r (.l .n))
   refine vR (args:=[(Value.agg (eP e2 a7 c17))]) gn rfl rfl et ⟨et,af⟩ (CallV.mono ((hI.get .p1).2 c20 f3 w9 (Ra hl3) e2 a7 c17 s6 _ (hB.subs ⟨.z,af⟩) hx5) ?_)
   rintro _ w10 ⟨c21,rfl,hB2⟩
   obtain⟨c22,hs3,hI⟩:=hk3 _ _ _ _ hB2
   replace hI:Bun C0 F w0 c22 w10 [MO.st I s7,MO.box b3 27 (eP e2 a7 c17)] [Cl.sl ai a7 c17 e2.L,pk I fv1 yield1,Cl.sl al a3 c2 a1.Idx,Cl.sl dU a6 c10 e1.At]:=hI
   refine⟨_,rfl,?_⟩
   refine sq (uH rfl et) ?_
   refine TC (λhb h=>?_) λhb h=>?_
   ·refine aO ?_
    obtain rfl:=ak h
    exact gR (vs:=[]) Tryz.results208 trivial ⟨_,rfl,hI.arr GO SU⟩
   refine aZ (aS (ip rfl ?_))
   refine sq (nB rfl et ah) ?_
   refine sm ?_
   refine aG ?_
   exact kl (fuel2,av (i2+1),s7)
  refine bl ?_
  refine eZ ?_
  exact kj s6
 refine bl ?_
 refine eZ ?_
 obtain rfl:=ak h
 exact gR (vs:=[]) Tryz.results208 trivial ⟨_,rfl,hI.arr GO SU⟩
theorem xh (hF:dF F w0) {e1:ae} (hc:AllCl [Cl.sl ai a1 c1 e1.Lin.L,Cl.sl al a2 c2 e1.Idx,Cl.sl an a3 c3 e1.Args,au] F w0) {r:Int} (h:kv e1=some r):CR F w0 79 #[(Value.agg (aA e1 a1 c1 a2 c2 a3 c3))] (vi r) []:=by
 refine EN Tryz.func79 Tryz.ntmps79 hF hc λhI=>?_
 rw[kv]at h
 refine sr (lX λb1 c5 w1 hI=>?_)
 refine lN λb2 c6 w2 hI=>?_
 refine nk (aj (T ?_))
 refine sq (am (l:=(ba e1 a1 c1 a2 c2 a3 c3)) rfl et jZ rfl aJ (hI.kblk (l:=(ba e1 a1 c1 a2 c2 a3 c3)) .z rfl).1) ?_
 refine sB h (λ_ k=>AJ hI.lt FS k) (Rc Tryz.func144) λr1 w3 h hI=>?_
 refine TC (λhb h=>?_) λhb h=>?_
 ·refine sr (bJ (new:=[vi 5]) (cs':=#[vi 5]) hI .z gn rfl rfl et ah rfl lE rfl rfl rfl ?_)
  intro c7 w4 hI
  refine nk (aO ?_)
  obtain rfl:=ak h
  exact gR (vs:=[vi 5]) Tryz.results79 ⟨⟨_,aT rfl rfl,kB (v:=(vi 5)) IK rfl (Q5 (hI.blk .z) rfl)⟩,af⟩ (fq hI af)
 refine sr (sq (am (l:=(ba e1 a1 c1 a2 c2 a3 c3)) rfl et jZ rfl aJ (hI.kblk (l:=(ba e1 a1 c1 a2 c2 a3 c3)) .z rfl).1) ?_)
 refine sB h (λ_ k=>Dc hI.lt FS k) (Rc Tryz.func145) λr2 w5 h hI=>?_
 refine TC (λhb h=>?_) λhb h=>?_
 ·refine sr (bJ (new:=[vi 7]) (cs':=#[vi 7]) hI .z gn rfl rfl et ah rfl lE rfl rfl rfl ?_)
  intro c8 w6 hI
  refine nk (aO ?_)
  obtain rfl:=ak h
  exact gR (vs:=[vi 7]) Tryz.results79 ⟨⟨_,aT rfl rfl,kB (v:=(vi 7)) IK rfl (Q5 (hI.blk .z) rfl)⟩,af⟩ (fq hI af)
 refine sr (sq (am (l:=(ba e1 a1 c1 a2 c2 a3 c3)) rfl et jZ rfl aJ (hI.kblk (l:=(ba e1 a1 c1 a2 c2 a3 c3)) .z rfl).1) ?_)
 refine sB h (λ_ k=>EQ hI.lt FS k) (Rc Tryz.func146) λr3 w7 h hI=>?_
 refine TC (λhb h=>?_) λhb h=>?_
 ·refine sr (bJ (new:=[vi 11]) (cs':=#[vi 11]) hI .z gn rfl rfl et ah rfl lE rfl rfl rfl ?_)
  intro c9 w8 hI
  refine nk (aO ?_)
  obtain rfl:=ak h
  exact gR (vs:=[vi 11]) Tryz.results79 ⟨⟨_,aT rfl rfl,kB (v:=(vi 11)) IK rfl (Q5 (hI.blk .z) rfl)⟩,af⟩ (fq hI af)
 refine sr (sq (am (l:=(ba e1 a1 c1 a2 c2 a3 c3)) rfl et jZ rfl aJ (hI.kblk (l:=(ba e1 a1 c1 a2 c2 a3 c3)) .z rfl).1) ?_)
 refine sB h (λ_ k=>Db hI.lt FS k) (Rc Tryz.func147) λr4 w9 h hI=>?_
 refine TC (λhb h=>?_) λhb h=>?_
 ·refine sr (bJ (new:=[vi 10]) (cs':=#[vi 10]) hI .z gn rfl rfl et ah rfl lE rfl rfl rfl ?_)
  intro c10 w10 hI
  refine nk (aO ?_)
  obtain rfl:=ak h
  exact gR (vs:=[vi 10]) Tryz.results79 ⟨⟨_,aT rfl rfl,kB (v:=(vi 10)) IK rfl (Q5 (hI.blk .z) rfl)⟩,af⟩ (fq hI af)
 refine T ?_
 refine aw (bg rfl rfl rfl rfl) rfl (λhc=>(am (l:=(bU e1.Type_)) rfl (aI et hc) qF rfl bN (hI.kblk (l:=(bU e1.Type_)) .z rfl).1)) ?_
 refine T ?_
 refine aw (bg rfl rfl rfl rfl) rfl (λhc=>(am (l:=(oA e1.Val)) rfl (aI et hc) Gy rfl kM (hI.kblk (l:=(oA e1.Val)) .z rfl).1)) ?_
 obtain⟨r5,hx9,h⟩:=ab h
 replace hx9:=ax hx9
 refine sU (λhc=>Ak hI.lt trivial (hx9 hc)) (Rg Tryz.func148) λw11 hI=>?_
 refine TC (λhb h=>?_) λhb h=>?_
 ·refine sr (bJ (new:=[vi 1]) (cs':=#[vi 1]) hI .z gn rfl rfl et ah rfl lE rfl rfl rfl ?_)
  intro c11 w12 hI
  refine nk (aO ?_)
  obtain rfl:=ak h
  exact gR (vs:=[vi 1]) Tryz.results79 ⟨⟨_,aT rfl rfl,kB (v:=(vi 1)) IK rfl (Q5 (hI.blk .z) rfl)⟩,af⟩ (fq hI af)
 refine T ?_
 refine aj (sr (sq (am (l:=(ba e1 a1 c1 a2 c2 a3 c3)) rfl et jZ rfl aJ (hI.kblk (l:=(ba e1 a1 c1 a2 c2 a3 c3)) .z rfl).1) ?_))
 obtain⟨r6,hx11,h⟩:=ab h
 refine bf gn rfl (Rc Tryz.func149) (Calls.mono (Dd hI.lt FS hx11) ?_)
 rintro _ w13 ⟨b3,a4,c12,a5,c13,a6,c14,rfl,hx12,hl6⟩
 refine⟨_,rfl,?_⟩
 replace hI:=(hI.ext hx12).adds hl6;dsimp only[ca,na]at hI
 refine T ?_
 refine tY [Code.ret] hI et Oa (λl1 q1 fn1 tm1 rc1 hrc1 c16 w15 hE1 hI=>?_)
 obtain⟨c17,f1,hB,hl7,hk1⟩:=hI.hands (.l (.r (.l .n)))
 have hB:Bun c17 f1 w15 c17 w15 [MO.st (StI.loop l1 rc1 (λ(s:Int) (b:Unit)=>[MO.box b2 28 #[vi s]]) (λ(s:Int) (b:Unit)=>[Cl.blk b3 39 (aA r6 a4 c12 a5 c13 a6 c14),Cl.sl ai a4 c12 r6.Lin.L,Cl.sl al a5 c13 r6.Idx,Cl.sl an a6 c14 r6.Args,au])) (0,0)] _:=Bun.mkst (b:=()) hB ⟨.p3,.z,.p1,.p2,.p8,af⟩
 have hY1:fnS_k7 (StI.loop l1 rc1 (λ(s:Int) (b:Unit)=>[MO.box b2 28 #[vi s]]) (λ(s:Int) (b:Unit)=>[Cl.blk b3 39 (aA r6 a4 c12 a5 c13 a6 c14),Cl.sl ai a4 c12 r6.Lin.L,Cl.sl al a5 c13 r6.Idx,Cl.sl an a6 c14 r6.Args,au])) (Value.func (.yield l1) #[] #[]) (λk_0 q=>if q.1=0 then ew k_0 q.2 else none) (Dj f1 c17) w15:=by
  refine⟨rfl,λC0 F w0 _=>?_⟩
  rintro y1 a7 c18 ⟨o_,v1⟩ r hB h
  replace h:o_=0∧ew y1 v1=some r:=fT h
  have ho_:=h.1;subst ho_;replace h:=h.2
  rw[ew]at h
  obtain⟨_,hI⟩:=Bun.unst hB
  subst hrc1
  dsimp only[ca,na]at hI
  clear hB
  refine tW hI rfl (vk (hE1 ⟨38,[]⟩ rfl rfl)) ?_
  refine T ?_
  refine lN λb4 c19 w16 hI=>?_
  refine lA λc20 w17 hI=>?_
  refine aG (Cp hI .p1 (λc21 w18 hI=>?_))
  refine T ?_
  refine sB h (λ_ k=>ow hI.lt FS k) (Rc Tryz.func122) λr7 w19 h hI=>?_
  refine TC (λhb h=>?_) λhb h=>?_
  ·refine sr (bJ (new:=[vi 1]) (cs':=#[vi 1]) hI .p2 gn rfl rfl et ah rfl lE rfl rfl rfl ?_)
   intro c22 w20 hI
   refine nk (aO ?_)
   obtain rfl:=ak h
   exact λ_ _=>ut (js:=[Code.ret]) (oS:=(λ(s:Int) (b:Unit)=>[MO.box b2 28 #[vi s]])) (cS:=(λ(s:Int) (b:Unit)=>[Cl.blk b3 39 (aA r6 a4 c12 a5 c13 a6 c14),Cl.sl ai a4 c12 r6.Lin.L,Cl.sl al a5 c13 r6.Idx,Cl.sl an a6 c14 r6.Args,au])) (out:=1) (s:=1) (b:=()) (hI.arr GO SU) rfl (λC w hB=>⟨C,rfl,hB⟩)
  refine aZ ?_
  obtain rfl:=ak h
  exact λ_ _=>ut (js:=[Code.ret]) (oS:=(λ(s:Int) (b:Unit)=>[MO.box b2 28 #[vi s]])) (cS:=(λ(s:Int) (b:Unit)=>[Cl.blk b3 39 (aA r6 a4 c12 a5 c13 a6 c14),Cl.sl ai a4 c12 r6.Lin.L,Cl.sl al a5 c13 r6.Idx,Cl.sl an a6 c14 r6.Args,au])) (out:=0) (s:=v1) (b:=()) (hI.arr GO SU) rfl (λC w hB=>⟨C,rfl,hB⟩)
 obtain⟨⟨u1,o1,v2⟩,hx15,h⟩:=ab h
 try dsimp only at h
 refine Calls.mono (xi ((hB.add (c:=pk (StI.loop l1 rc1 (λ(s:Int) (b:Unit)=>[MO.box b2 28 #[vi s]]) (λ(s:Int) (b:Unit)=>[Cl.blk b3 39 (aA r6 a4 c12 a5 c13 a6 c14),Cl.sl ai a4 c12 r6.Lin.L,Cl.sl al a5 c13 r6.Idx,Cl.sl an a6 c14 r6.Args,au])) (Value.func (.yield l1) #[] #[]) (λk_0 q=>if q.1=0 then ew k_0 q.2 else none)) hY1).subs ⟨.z,.p1,.p2,.p3,.p4,af⟩) hx15) ?_
 rintro _ w22 ⟨c24,rfl,hB2⟩
 obtain⟨_,hB2⟩:=Bun.unst hB2
 subst hrc1
 refine HN hk1 hB2 λc25 hI=>?_
 refine⟨_,rfl,wU hI .z (λc26 w23 hI=>?_)⟩
 by_cases hz1:o1=0
 ·subst hz1;rw[if_pos rfl]at h
  refine aS (sr (bJ (new:=[vi 0]) (cs':=#[vi 0]) hI .p1 gn rfl rfl et ah rfl lE rfl rfl rfl ?_))
  intro c27 w24 hI
  refine nk (aO ?_)
  obtain⟨w25,hs2,c28,hI⟩:∃ w2,rP Tryz.prog [q1] w24 w2∧∃ C,Bun cH F w0 C w2 [Q9 l1 _,MO.box b2 28 #[vi 0],Q9 q1 (.deferred none)] [Cl.blk b3 39 (aA r6 a4 c12 a5 c13 a6 c14),Cl.sl ai a4 c12 r6.Lin.L,Cl.sl al a5 c13 r6.Idx,Cl.sl an a6 c14 r6.Args,au,Cl.sl ai a4 c12 r6.Lin.L,Cl.sl al a5 c13 r6.Idx,Cl.sl an a6 c14 r6.Args,Cl.blk b3 39 (aA r6 a4 c12 a5 c13 a6 c14),Cl.blk b1 39 (aA e1 a1 c1 a2 c2 a3 c3),Cl.sl ai a1 c1 e1.Lin.L,Cl.sl al a2 c2 e1.Idx,Cl.sl an a3 c3 e1.Args,au]:=hI.shut .p2 λC w hI=>rr ⟨_,hI⟩
  obtain rfl:=ak h
  exact vc (vs:=[vi 0]) hs2 Tryz.results79 ⟨⟨_,aT rfl rfl,kB (v:=(vi 0)) IK rfl (Q5 (hI.blk .p1) rfl)⟩,af⟩ (fq hI af)
 rw[if_neg hz1]at h
 by_cases hz2:o1=1
 ·subst hz2;rw[if_pos rfl]at h
  refine aO ?_
  obtain⟨w26,hs3,c29,hI⟩:∃ w2,rP Tryz.prog [q1] w23 w2∧∃ C,Bun cH F w0 C w2 [Q9 l1 _,MO.box b2 28 #[vi v2],Q9 q1 (.deferred none)] [Cl.blk b3 39 (aA r6 a4 c12 a5 c13 a6 c14),Cl.sl ai a4 c12 r6.Lin.L,Cl.sl al a5 c13 r6.Idx,Cl.sl an a6 c14 r6.Args,au,Cl.sl ai a4 c12 r6.Lin.L,Cl.sl al a5 c13 r6.Idx,Cl.sl an a6 c14 r6.Args,Cl.blk b3 39 (aA r6 a4 c12 a5 c13 a6 c14),Cl.blk b1 39 (aA e1 a1 c1 a2 c2 a3 c3),Cl.sl ai a1 c1 e1.Lin.L,Cl.sl al a2 c2 e1.Idx,Cl.sl an a3 c3 e1.Args,au]:=hI.shut .p2 λC w hI=>rr ⟨_,hI⟩
  obtain rfl:=ak h
  exact vc (vs:=[vi v2]) hs3 Tryz.results79 ⟨⟨_,aT rfl rfl,kB (v:=(vi v2)) IK rfl (Q5 (hI.blk .p1) rfl)⟩,af⟩ (fq hI af)
 rw[if_neg hz2]at h
 cases h
theorem tc (hF:dF F w0) {e1:ae} (hc:AllCl [Cl.sl ai a1 c1 e1.Lin.L,Cl.sl al a2 c2 e1.Idx,Cl.sl an a3 c3 e1.Args,au] F w0) {r:Int} (h:jw e1=some r):CR F w0 35 #[(Value.agg (aA e1 a1 c1 a2 c2 a3 c3))] (vi r) []:=by
 refine EN Tryz.func35 Tryz.ntmps35 hF hc λhI=>?_
 rw[jw]at h
 refine sr (lX λb1 c5 w1 hI=>?_)
 refine lN λb2 c6 w2 hI=>?_
 refine nk (aj (sr (sq (am (l:=(ba e1 a1 c1 a2 c2 a3 c3)) rfl et jZ rfl aJ (hI.kblk (l:=(ba e1 a1 c1 a2 c2 a3 c3)) .z rfl).1) ?_)))
 refine sB h (λ_ k=>Df hI.lt FS k) (Rc Tryz.func76) λr1 w3 h hI=>?_
 refine TC (λhb h=>?_) λhb h=>?_
 ·refine sr (bJ (new:=[vi 13]) (cs':=#[vi 13]) hI .z gn rfl rfl et ah rfl lE rfl rfl rfl ?_)
  intro c7 w4 hI
  refine nk (aO ?_)
  obtain rfl:=ak h
  exact gR (vs:=[vi 13]) Tryz.results35 ⟨⟨_,aT rfl rfl,kB (v:=(vi 13)) IK rfl (Q5 (hI.blk .z) rfl)⟩,af⟩ (fq hI af)
 refine T ?_
 refine aj (sr (sq (am (l:=(ba e1 a1 c1 a2 c2 a3 c3)) rfl et jZ rfl aJ (hI.kblk (l:=(ba e1 a1 c1 a2 c2 a3 c3)) .z rfl).1) ?_))
 refine sB h (λ_ k=>ER hI.lt FS k) (Rc Tryz.func77) λr2 w5 h hI=>?_
 refine TC (λhb h=>?_) λhb h=>?_
 ·refine sr (bJ (new:=[vi 2]) (cs':=#[vi 2]) hI .z gn rfl rfl et ah rfl lE rfl rfl rfl ?_)
  intro c8 w6 hI
  refine nk (aO ?_)
  obtain rfl:=ak h
  exact gR (vs:=[vi 2]) Tryz.results35 ⟨⟨_,aT rfl rfl,kB (v:=(vi 2)) IK rfl (Q5 (hI.blk .z) rfl)⟩,af⟩ (fq hI af)
 refine T ?_
 refine aj (sr (sq (am (l:=(ba e1 a1 c1 a2 c2 a3 c3)) rfl et jZ rfl aJ (hI.kblk (l:=(ba e1 a1 c1 a2 c2 a3 c3)) .z rfl).1) ?_))
 obtain⟨r3,hx5,h⟩:=ab h
 refine bf gn rfl (Rc Tryz.func78) (Calls.mono (xM hI.lt FS hx5) ?_)
 rintro _ w7 ⟨b3,a4,c9,a5,c10,a6,c11,rfl,hx6,hl3⟩
 refine⟨_,rfl,?_⟩
 replace hI:=(hI.ext hx6).adds hl3;dsimp only[ca,na]at hI
 refine T ?_
 refine tY [Code.ret] hI et Jw (λl1 q1 fn1 tm1 rc1 hrc1 c13 w9 hE1 hI=>?_)
 obtain⟨c14,f1,hB,hl4,hk1⟩:=hI.hands (.l (.r (.l .n)))
 have hB:Bun c14 f1 w9 c14 w9 [MO.st (StI.loop l1 rc1 (λ(s:Int) (b:Unit)=>[MO.box b2 28 #[vi s]]) (λ(s:Int) (b:Unit)=>[Cl.blk b3 39 (aA r3 a4 c9 a5 c10 a6 c11),Cl.sl ai a4 c9 r3.Lin.L,Cl.sl al a5 c10 r3.Idx,Cl.sl an a6 c11 r3.Args,au])) (0,0)] _:=Bun.mkst (b:=()) hB ⟨.p3,.z,.p1,.p2,.p8,af⟩
 have hY1:fnS_k5 (StI.loop l1 rc1 (λ(s:Int) (b:Unit)=>[MO.box b2 28 #[vi s]]) (λ(s:Int) (b:Unit)=>[Cl.blk b3 39 (aA r3 a4 c9 a5 c10 a6 c11),Cl.sl ai a4 c9 r3.Lin.L,Cl.sl al a5 c10 r3.Idx,Cl.sl an a6 c11 r3.Args,au])) (Value.func (.yield l1) #[] #[]) (λk_0 q=>if q.1=0 then d5 k_0 q.2 else none) (Dj f1 c14) w9:=by
  refine⟨rfl,λC0 F w0 _=>?_⟩
  rintro y1 a7 c15 a8 c16 a9 c17 ⟨o_,v1⟩ r hB h
  replace h:o_=0∧d5 y1 v1=some r:=fT h
  have ho_:=h.1;subst ho_;replace h:=h.2
  rw[d5]at h
  obtain⟨_,hI⟩:=Bun.unst hB
  subst hrc1
  dsimp only[ca,na]at hI
  clear hB
  refine tW hI rfl (vk (hE1 ⟨19,[]⟩ rfl rfl)) ?_
  refine T ?_
  refine lN λb4 c18 w10 hI=>?_
  refine lA λc19 w11 hI=>?_
  refine aG (Cp hI .p1 (λc20 w12 hI=>?_))
  refine T ?_
  refine sB h (λ_ k=>xh hI.lt FS k) (Rc Tryz.func79) λr4 w13 h hI=>?_
  refine TC (λhb h=>?_) λhb h=>?_
  ·refine T ?_
   refine lS λc21 w14 hI=>?_
   refine nk (aO ?_)
   obtain rfl:=ak h
   exact λ_ _=>ut (js:=[Code.ret]) (oS:=(λ(s:Int) (b:Unit)=>[MO.box b2 28 #[vi s]])) (cS:=(λ(s:Int) (b:Unit)=>[Cl.blk b3 39 (aA r3 a4 c9 a5 c10 a6 c11),Cl.sl ai a4 c9 r3.Lin.L,Cl.sl al a5 c10 r3.Idx,Cl.sl an a6 c11 r3.Args,au])) (out:=1) (s:=r4) (b:=()) (hI.arr GO SU) rfl (λC w hB=>⟨C,rfl,hB⟩)
  refine aZ ?_
  obtain rfl:=ak h
  exact λ_ _=>ut (js:=[Code.ret]) (oS:=(λ(s:Int) (b:Unit)=>[MO.box b2 28 #[vi s]])) (cS:=(λ(s:Int) (b:Unit)=>[Cl.blk b3 39 (aA r3 a4 c9 a5 c10 a6 c11),Cl.sl ai a4 c9 r3.Lin.L,Cl.sl al a5 c10 r3.Idx,Cl.sl an a6 c11 r3.Args,au])) (out:=0) (s:=v1) (b:=()) (hI.arr GO SU) rfl (λC w hB=>⟨C,rfl,hB⟩)
 obtain⟨⟨u1,o1,v2⟩,hx9,h⟩:=ab h
 try dsimp only at h
 refine Calls.mono (tb ((hB.add (c:=rF (StI.loop l1 rc1 (λ(s:Int) (b:Unit)=>[MO.box b2 28 #[vi s]]) (λ(s:Int) (b:Unit)=>[Cl.blk b3 39 (aA r3 a4 c9 a5 c10 a6 c11),Cl.sl ai a4 c9 r3.Lin.L,Cl.sl al a5 c10 r3.Idx,Cl.sl an a6 c11 r3.Args,au])) (Value.func (.yield l1) #[] #[]) (λk_0 q=>if q.1=0 then d5 k_0 q.2 else none)) hY1).subs ⟨.z,.p1,.p2,.p3,.p4,af⟩) hx9) ?_
 rintro _ w16 ⟨c23,rfl,hB2⟩
 obtain⟨_,hB2⟩:=Bun.unst hB2
 subst hrc1
 refine HN hk1 hB2 λc24 hI=>?_
 refine⟨_,rfl,wU hI .z (λc25 w17 hI=>?_)⟩
 by_cases hz1:o1=0
 ·subst hz1;rw[if_pos rfl]at h
  refine aS (sr (bJ (new:=[vi 0]) (cs':=#[vi 0]) hI .p1 gn rfl rfl et ah rfl lE rfl rfl rfl ?_))
  intro c26 w18 hI
  refine nk (aO ?_)
  obtain⟨w19,hs2,c27,hI⟩:∃ w2,rP Tryz.prog [q1] w18 w2∧∃ C,Bun cH F w0 C w2 [Q9 l1 _,MO.box b2 28 #[vi 0],Q9 q1 (.deferred none)] [Cl.blk b3 39 (aA r3 a4 c9 a5 c10 a6 c11),Cl.sl ai a4 c9 r3.Lin.L,Cl.sl al a5 c10 r3.Idx,Cl.sl an a6 c11 r3.Args,au,Cl.sl ai a4 c9 r3.Lin.L,Cl.sl al a5 c10 r3.Idx,Cl.sl an a6 c11 r3.Args,Cl.blk b3 39 (aA r3 a4 c9 a5 c10 a6 c11),Cl.blk b1 39 (aA e1 a1 c1 a2 c2 a3 c3),Cl.sl ai a1 c1 e1.Lin.L,Cl.sl al a2 c2 e1.Idx,Cl.sl an a3 c3 e1.Args,au]:=hI.shut .p2 λC w hI=>rr ⟨_,hI⟩
  obtain rfl:=ak h
  exact vc (vs:=[vi 0]) hs2 Tryz.results35 ⟨⟨_,aT rfl rfl,kB (v:=(vi 0)) IK rfl (Q5 (hI.blk .p1) rfl)⟩,af⟩ (fq hI af)
 rw[if_neg hz1]at h
 by_cases hz2:o1=1
 ·subst hz2;rw[if_pos rfl]at h
  refine aO ?_
  obtain⟨w20,hs3,c28,hI⟩:∃ w2,rP Tryz.prog [q1] w17 w2∧∃ C,Bun cH F w0 C w2 [Q9 l1 _,MO.box b2 28 #[vi v2],Q9 q1 (.deferred none)] [Cl.blk b3 39 (aA r3 a4 c9 a5 c10 a6 c11),Cl.sl ai a4 c9 r3.Lin.L,Cl.sl al a5 c10 r3.Idx,Cl.sl an a6 c11 r3.Args,au,Cl.sl ai a4 c9 r3.Lin.L,Cl.sl al a5 c10 r3.Idx,Cl.sl an a6 c11 r3.Args,Cl.blk b3 39 (aA r3 a4 c9 a5 c10 a6 c11),Cl.blk b1 39 (aA e1 a1 c1 a2 c2 a3 c3),Cl.sl ai a1 c1 e1.Lin.L,Cl.sl al a2 c2 e1.Idx,Cl.sl an a3 c3 e1.Args,au]:=hI.shut .p2 λC w hI=>rr ⟨_,hI⟩
  obtain rfl:=ak h
  exact vc (vs:=[vi v2]) hs3 Tryz.results35 ⟨⟨_,aT rfl rfl,kB (v:=(vi v2)) IK rfl (Q5 (hI.blk .p1) rfl)⟩,af⟩ (fq hI af)
 rw[if_neg hz2]at h
 cases h
theorem iB {r1:aa} (hI:Bun C0 F w0 C0 w0 [MO.box b1 67 (ac r1 a1 c1)] [Cl.sl ag a1 c1 r1.l]) {r:bZ (Unit×aa)} (h:bM r1=some r):CP C0 F w0 194 #[vp b1 0] r λrx e w=>∃ a2 c2 C,e= .returned (Value.tuple #[])∧Bun C0 F w0 C w [MO.box b1 67 (ac rx.2 a2 c2)] [Cl.sl ag a2 c2 rx.2.l]:=by
 refine fa (l:=[vp b1 0]) Tryz.func194 rfl Tryz.ntmps194 rfl ?_
 rw[bM]at h
 refine bO (α:=Unit) (λ_=>⟨27,[]⟩) (λ_=>[(0,vp b1 0)]) (λ_=>λw=>∃ C,Bun C0 F w0 C w [MO.box b1 67 (ac r1 a1 c1)] [Cl.sl ag a1 c1 r1.l]∧eX r1=some r) ?_ ?_
 ·clear h hI;rintro _ w1 ⟨c3,hI,h⟩
  try dsimp only at hI h ⊢
  rw[eX]at h
  refine T ?_
  refine lS λc4 w2 hI=>?_
  refine T ?_
  refine lS λc5 w3 hI=>?_
  refine aG ?_
  obtain rfl:=ak h
  refine QG ?_
  exact .inl ⟨_,rfl,a1,c1,_,rfl,hI.arr GO SU⟩
 refine TC (λhb h=>?_) λhb h=>?_
 ·refine T ?_
  rcases en h with⟨r2,hx1,h⟩ | ⟨pa_,pn_,hx1,hp_⟩
  rotate_left
  ·subst hp_
   refine iw gn rfl (ar (vs:=[vp b1 0,vi r1.at_,vi 13]) rfl uO ⟨et,et,ah,af⟩) (Calls.mono (aP NE ⟨(hI.get0 .z),hI.lendBox .z,af⟩ hx1) ?_)
   intro e_ w_ hq_;obtain⟨rfl,hx_⟩:=cz hq_;have hI_:=hI.ext hx_;exact .inr ⟨_,rfl,fB (.inr ⟨_,_,rfl,rfl,_,hI_.arr .n trivial⟩)⟩
  try dsimp only at h
  refine bf gn rfl (Rc Tryz.func71) (Calls.mono (aP NE ⟨(hI.get0 .z),hI.lendBox .z,af⟩ hx1) ?_)
  intro e_ w4 hq_;obtain⟨rfl,hx2,hl1⟩:=cy hq_
  refine⟨_,rfl,?_⟩
  replace hI:=(hI.ext hx2)
  refine aG ?_
  exact kj ()
 exact aZ (bI () ⟨rfl,af⟩ BH rfl)
theorem kS {r1:aa} (hI:Bun C0 F w0 C0 w0 [MO.box b1 67 (ac r1 a1 c1)] [Cl.sl ag a1 c1 r1.l]) {r:bZ (Unit×aa)} (h:cW r1=some r):CP C0 F w0 253 #[vp b1 0] r λrx e w=>∃ a2 c2 C,e= .returned (Value.tuple #[])∧Bun C0 F w0 C w [MO.box b1 67 (ac rx.2 a2 c2)] [Cl.sl ag a2 c2 rx.2.l]:=by
 refine fa (l:=[vp b1 0]) Tryz.func253 rfl Tryz.ntmps253 rfl ?_
 rw[cW]at h
 refine aj (T ?_)
 refine sB h (λ_ k=>bG NE ⟨(hI.get0 .z),hI.lendBox .z,af⟩ k) (Rc Tryz.func121) λr2 w1 h hI=>?_
 refine TC (λhb h=>?_) λhb h=>?_
 ·refine T ?_
  obtain⟨c3,f1,hB,hl2,hk1⟩:=hI.hands (.l .n)
  refine dh h (λ_ hx3=>cg HS hx3) (jL hk1) (Rc Tryz.func103) ?_
  rintro⟨r3,s1⟩ hx3 h _ w2 ⟨a3,c4,c5,rfl,hB2⟩
  try dsimp only at h
  refine HN hk1 hB2 λc6 hI=>?_
  refine⟨_,rfl,?_⟩
  refine T ?_
  obtain⟨c7,f2,hB,hl3,hk2⟩:=hI.hands (.l .n)
  refine dh h (λ_ hx4=>iB HS hx4) (jL hk2) (Rc Tryz.func194) ?_
  rintro⟨r4,s2⟩ hx4 h _ w3 ⟨a4,c8,c9,rfl,hB2⟩
  try dsimp only at h
  refine HN hk2 hB2 λc10 hI=>?_
  refine⟨_,rfl,?_⟩
  refine aG ?_
  obtain rfl:=ak h
  refine QG ?_
  exact .inl ⟨_,rfl,a4,c8,_,rfl,hI.arr GO SU⟩
 refine T ?_
 obtain⟨c11,f3,hB,hl4,hk3⟩:=hI.hands (.l .n)
 refine dh h (λ_ hx5=>iB HS hx5) (jL hk3) (Rc Tryz.func194) ?_
 rintro⟨r5,s3⟩ hx5 h _ w4 ⟨a5,c12,c13,rfl,hB2⟩
 try dsimp only at h
 refine HN hk3 hB2 λc14 hI=>?_
 refine⟨_,rfl,?_⟩
 refine aG ?_
 obtain rfl:=ak h
 refine QG ?_
 exact .inl ⟨_,rfl,a5,c12,_,rfl,hI.arr GO SU⟩
theorem ap {r1:aa} {s1:List UInt8} (hI:Bun C0 F w0 C0 w0 [MO.box b1 67 (ac r1 a1 c1)] [Cl.sl ag a1 c1 r1.l]) {r:bZ (Unit×aa)} (h:ao r1 s1=some r):CP C0 F w0 104 #[vp b1 0,(str s1)] r λrx e w=>∃ a2 c2 C,e= .returned (Value.tuple #[])∧Bun C0 F w0 C w [MO.box b1 67 (ac rx.2 a2 c2)] [Cl.sl ag a2 c2 rx.2.l]:=by
 refine fa (l:=[vp b1 0,(str s1)]) Tryz.func104 rfl Tryz.ntmps104 rfl ?_
 rw[ao]at h
 refine T ?_
 obtain⟨c3,f1,hB,hl1,hk1⟩:=hI.hands (.l .n)
 obtain⟨⟨r2,s2⟩,hx1,h⟩:=ab h
 try dsimp only at h
 refine bf gn rfl (Rc Tryz.func68) (Calls.mono (aQ HS hx1) ?_)
 rintro _ w1 ⟨a3,c4,c5,rfl,hB2⟩
 refine HN hk1 hB2 λc6 hI=>?_
 refine⟨_,rfl,?_⟩
 refine TC (λhb h=>?_) λhb h=>?_
 ·refine T ?_
  obtain⟨c7,f2,hB,hl2,hk2⟩:=hI.hands (.l .n)
  refine dh h (λ_ hx2=>cg HS hx2) (jL hk2) (Rc Tryz.func103) ?_
  rintro⟨r3,s3⟩ hx2 h _ w2 ⟨a4,c8,c9,rfl,hB2⟩
  try dsimp only at h
  refine HN hk2 hB2 λc10 hI=>?_
  refine⟨_,rfl,?_⟩
  refine aG ?_
  obtain rfl:=ak h
  refine QG ?_
  exact .inl ⟨_,rfl,a4,c8,_,rfl,hI.arr GO SU⟩
 refine aZ ?_
 obtain rfl:=ak h
 refine QG ?_
 exact .inl ⟨_,rfl,a3,c4,_,rfl,hI.arr GO SU⟩
theorem kD {r1:aa} (hI:Bun C0 F w0 C0 w0 [MO.box b1 67 (ac r1 a1 c1)] [Cl.sl ag a1 c1 r1.l]) {r:bZ (Unit×aa)} (h:dN r1=some r):CP C0 F w0 254 #[vp b1 0] r λrx e w=>∃ a2 c2 C,e= .returned (Value.tuple #[])∧Bun C0 F w0 C w [MO.box b1 67 (ac rx.2 a2 c2)] [Cl.sl ag a2 c2 rx.2.l]:=by
 refine fa (l:=[vp b1 0]) Tryz.func254 rfl Tryz.ntmps254 rfl ?_
 rw[dN]at h
 refine T ?_
 obtain⟨c3,f1,hB,hl1,hk1⟩:=hI.hands (.l .n)
 refine dh h (λ_ hx1=>ap HS hx1) (jL hk1) (Rc Tryz.func104) ?_
 rintro⟨r2,s1⟩ hx1 h _ w1 ⟨a3,c4,c5,rfl,hB2⟩
 try dsimp only at h
 refine HN hk1 hB2 λc6 hI=>?_
 refine⟨_,rfl,?_⟩
 refine T ?_
 refine lS λc7 w2 hI=>?_
 refine aG ?_
 obtain rfl:=ak h
 refine QG ?_
 exact .inl ⟨_,rfl,a3,c4,_,rfl,hI.arr GO SU⟩
theorem fy {r1:aa} {l1:List (List UInt8)} (hI:Bun C0 F w0 C0 w0 [MO.box b1 67 (ac r1 a1 c1)] [Cl.sl ag a1 c1 r1.l,Cl.sl be a2 c2 l1]) {r:Int×aa} (h:bh r1 l1=some r):Cg 98 #[vp b1 0,vs a2 l1.length c2] w0 λe w=>∃ a3 c3 C,e= .returned (vi r.1)∧Bun C0 F w0 C w [MO.box b1 67 (ac r.2 a3 c3)] [Cl.sl ag a3 c3 r.2.l]:=by
 refine sw Tryz.func98 rfl Tryz.ntmps98 rfl ?_
 rw[bh]at h
 refine T ?_
 refine aj (T ?_)
 refine bk (α:=Nat×Int) (λx=>λw=>∃ C,Bun C0 F w0 C w [MO.box b1 67 (ac r1 a1 c1)] [Cl.sl ag a1 c1 r1.l,Cl.sl be a2 c2 l1]∧cj l1 r1 (x.1) (x.2)=some r) (λx _=>x.1) (λx=>[(0,vp b1 0),(7,vs a2 l1.length c2),(8,vi (l1.length:Int)),(9,vi (x.2))]) (fu,0) BH SB ?_
 clear h hI;rintro⟨fuel1,i1⟩ w1 ⟨c4,hI,h⟩
 dsimp only at hI h ⊢
 rcases fuel1 with _ | fuel1
 ·rw[cj]at h;cases h
 rw[cj]at h
 refine T ?_
 refine aj (E7 h et (λhb h=>?_) (λhb h=>?_))
 ·refine T ?_
  refine aj (T ?_)
  obtain⟨e1,hx1,h⟩:=ab h
  obtain⟨ad1,cs1,hA1,hr1,hq1⟩:=hI.clat .p1 hx1
  obtain rfl:cs1=[(str e1)]:=hr1
  refine sI ?_
  refine T ?_
  refine sB h (λ_ k=>bG NE ⟨(hI.get0 .z),hI.lendBox .z,af⟩ k) (Rc Tryz.func121) λr2 w2 h hI=>?_
  refine TC (λhb h=>?_) λhb h=>?_
  ·refine T ?_
   refine lS λc5 w3 hI=>?_
   refine T ?_
   refine aO ?_
   obtain rfl:=ak h
   refine QG ?_
   exact⟨a1,c1,_,rfl,hI.arr GO SU⟩
  refine T ?_
  refine aG ?_
  exact kl (fuel1,av (i1+1))
 refine bl ?_
 refine eZ ?_
 refine aS ?_
 refine T ?_
 refine aO ?_
 obtain rfl:=ak h
 refine QG ?_
 exact⟨a1,c1,_,rfl,hI.arr GO SU⟩
theorem nG {r1:aa} (hI:Bun C0 F w0 C0 w0 [MO.box b1 67 (ac r1 a1 c1)] [Cl.sl ag a1 c1 r1.l]) {r:bZ (Int×aa)} (h:eQ r1=some r):CP C0 F w0 219 #[vp b1 0] r λrx e w=>∃ a2 c2 C,e= .returned (vi rx.1)∧Bun C0 F w0 C w [MO.box b1 67 (ac rx.2 a2 c2)] [Cl.sl ag a2 c2 rx.2.l]:=by
 refine fa (l:=[vp b1 0]) Tryz.func219 rfl Tryz.ntmps219 rfl ?_
 rw[eQ]at h
 refine T ?_
 obtain⟨c3,f1,hB,hl1,hk1⟩:=hI.hands (.l .n)
 refine dh h (λ_ hx1=>ic HS hx1) (jL hk1) (Rc Tryz.func130) ?_
 rintro⟨r2,s1⟩ hx1 h _ w1 ⟨a3,c4,c5,rfl,hB2⟩
 try dsimp only at h
 refine HN hk1 hB2 λc6 hI=>?_
 refine⟨_,rfl,?_⟩
 refine sB h (λ_ k=>sZ hI.lt trivial k) (Rc Tryz.func131) λr3 w2 h hI=>?_
 refine T ?_
 refine aj (T ?_)
 refine TC (λhb h=>?_) λhb h=>?_
 ·refine T ?_
  rcases en h with⟨r4,hx4,h⟩ | ⟨pa_,pn_,hx4,hp_⟩
  rotate_left
  ·subst hp_
   refine iw gn rfl (ar (vs:=[vp b1 0,vi r1.at_,vi 3]) rfl uO ⟨et,et,ah,af⟩) (Calls.mono (aP NE ⟨(hI.get0 .z),hI.lendBox .z,af⟩ hx4) ?_)
   intro e_ w_ hq_;obtain⟨rfl,hx_⟩:=cz hq_;have hI_:=hI.ext hx_;exact .inr ⟨_,rfl,fB (.inr ⟨_,_,rfl,rfl,_,hI_.arr .n trivial⟩)⟩
  try dsimp only at h
  refine bf gn rfl (Rc Tryz.func71) (Calls.mono (aP NE ⟨(hI.get0 .z),hI.lendBox .z,af⟩ hx4) ?_)
  intro e_ w3 hq_;obtain⟨rfl,hx5,hl3⟩:=cy hq_
  refine⟨_,rfl,?_⟩
  replace hI:=(hI.ext hx5)
  refine T ?_
  refine aO ?_
  obtain rfl:=ak h
  refine QG ?_
  exact .inl ⟨_,rfl,a3,c4,_,rfl,hI.arr GO SU⟩
 refine T ?_
 refine aO ?_
 obtain rfl:=ak h
 refine QG ?_
 exact .inl ⟨_,rfl,a3,c4,_,rfl,hI.arr GO SU⟩
theorem gW {r1:aa} (hI:Bun C0 F w0 C0 w0 [MO.box b1 67 (ac r1 a1 c1)] [Cl.sl ag a1 c1 r1.l]) {r:bZ (bu×aa)} (h:dw r1=some r):CP C0 F w0 174 #[vp b1 0] r λrx e w=>∃ a2 c2 C,e= .returned (Value.agg (fV rx.1))∧Bun C0 F w0 C w [MO.box b1 67 (ac rx.2 a2 c2)] [Cl.sl ag a2 c2 rx.2.l]:=by
 refine fa (l:=[vp b1 0]) Tryz.func174 rfl Tryz.ntmps174 rfl ?_
 rw[dw]at h
 refine sr (cY (cs:=BA) hI gn rfl rfl KR rfl ?_)
 intro b2 c3 w1 hI
 refine T ?_
 refine bO (α:=aa×(Option Addr)×Nat) (λ_=>⟨66,[]⟩) (λx=>[(0,vp b1 0),(2,vp b2 0),(3,vi r1.at_)]) (λx=>λw=>∃ C,Bun C0 F w0 C w [MO.box b1 67 (ac (x.1) (x.2.1) (x.2.2)),MO.box b2 35 BA] [Cl.sl ag (x.2.1) (x.2.2) (x.1).l]∧fL r1 (x.1)=some r) ?_ ?_
 ·clear h hI;rintro⟨r2,a3,c4⟩ w2 ⟨c5,hI,h⟩
  try dsimp only at hI h ⊢
  rw[fL]at h
  refine sr (sq (aK (vs:=[(0,vi 2)]) (cs:=#[vi 2,vi 0,vi 0,vi 0,vi 0]) rfl ⟨rfl,ah,af⟩ (by kernel_rfl)) ?_)
  refine lN λb3 c6 w3 hI=>?_
  refine lA λc7 w4 hI=>?_
  refine T ?_
  obtain⟨c8,f1,hB,hl1,hk1⟩:=hI.hands (.r (.l (.r .n)))
  refine dh h (λ_ hx1=>ap HS hx1) (jL hk1) (Rc Tryz.func104) ?_
  rintro⟨r3,s1⟩ hx1 h _ w5 ⟨a4,c9,c10,rfl,hB2⟩
  try dsimp only at h
  refine HN hk1 hB2 λc11 hI=>?_
  refine⟨_,rfl,?_⟩
  refine T ?_
  obtain⟨c12,f2,hB,hl2,hk2⟩:=hI.hands (.l (.r (.r .n)))
  refine dh h (λ_ hx2=>nG HS hx2) (jL hk2) (Rc Tryz.func219) ?_
  rintro⟨r4,s2⟩ hx2 h _ w6 ⟨a5,c13,c14,rfl,hB2⟩
  try dsimp only at h
  refine HN hk2 hB2 λc15 hI=>?_
  refine⟨_,rfl,?_⟩
  refine T ?_
  refine lS λc16 w7 hI=>?_
  refine T ?_
  obtain⟨c17,f3,hB,hl3,hk3⟩:=hI.hands (.l (.r (.r .n)))
  refine dh h (λ_ hx3=>ap HS hx3) (jL hk3) (Rc Tryz.func104) ?_
  rintro⟨r5,s3⟩ hx3 h _ w8 ⟨a6,c18,c19,rfl,hB2⟩
  try dsimp only at h
  refine HN hk3 hB2 λc20 hI=>?_
  refine⟨_,rfl,?_⟩
  refine T ?_
  obtain⟨c21,f4,hB,hl4,hk4⟩:=hI.hands (.l (.r (.r .n)))
  refine dh h (λ_ hx4=>nG HS hx4) (jL hk4) (Rc Tryz.func219) ?_
  rintro⟨r6,s4⟩ hx4 h _ w9 ⟨a7,c22,c23,rfl,hB2⟩
  try dsimp only at h
  refine HN hk4 hB2 λc24 hI=>?_
  refine⟨_,rfl,?_⟩
  refine T ?_
  refine lS λc25 w10 hI=>?_
  refine T ?_
  obtain⟨c26,f5,hB,hl5,hk5⟩:=hI.hands (.l (.r (.r .n)))
  refine dh h (λ_ hx5=>ap HS hx5) (jL hk5) (Rc Tryz.func104) ?_
  rintro⟨r7,s5⟩ hx5 h _ w11 ⟨a8,c27,c28,rfl,hB2⟩
  try dsimp only at h
  refine HN hk5 hB2 λc29 hI=>?_
  refine⟨_,rfl,?_⟩
  refine T ?_
  refine ll hI be YW3 lw Rr λb4 c30 w12 hI=>?_
  obtain⟨c31,hI⟩:=hI.release .z
  obtain⟨c32,f6,hB,hl6,hk6⟩:=hI.hands (.l (.r (.r .n)))
  obtain⟨⟨r8,s6⟩,hx6,h⟩:=ab h
  try dsimp only at h
  refine bf gn rfl (Rc Tryz.func98) (Calls.mono (fy HS hx6) ?_)
  rintro _ w13 ⟨a9,c33,c34,rfl,hB2⟩
  refine HN hk6 hB2 λc35 hI=>?_
  refine⟨_,rfl,?_⟩
  refine T ?_
  refine lS λc36 w14 hI=>?_
  refine nk (bO (α:=aa×(Option Addr)×Nat) (λ_=>⟨66,[]⟩) (λx=>[(0,vp b1 0),(2,vp b2 0),(3,vi r1.at_),(4,vp b3 0)]) (λx=>λw=>∃ C,Bun C0 F w0 C w [MO.box b1 67 (ac (x.1) (x.2.1) (x.2.2)),MO.box b2 35 BA,MO.box b3 35 #[vi 2,vi r4,vi r6,(vi (av (r8+1))),vi 0]] [Cl.sl ag (x.2.1) (x.2.2) (x.1).l]∧fK r4 r6 r8 r1 (x.1)=some r) ?_ ?_)
  ·clear h hI;rintro⟨r9,a10,c37⟩ w15 ⟨c38,hI,h⟩
   try dsimp only at hI h ⊢
   rw[fK]at h
   refine T ?_
   obtain⟨c39,f7,hB,hl7,hk7⟩:=hI.hands (.l (.r (.r .n)))
   refine dh h (λ_ hx7=>ap HS hx7) (jL hk7) (Rc Tryz.func104) ?_
   rintro⟨r10,s7⟩ hx7 h _ w16 ⟨a11,c40,c41,rfl,hB2⟩
   try dsimp only at h
   refine HN hk7 hB2 λc42 hI=>?_
   refine⟨_,rfl,?_⟩
   refine T ?_
   refine ll hI be YW4 lw Rr λb5 c43 w17 hI=>?_
   obtain⟨c44,hI⟩:=hI.release .z
   obtain⟨c45,f8,hB,hl8,hk8⟩:=hI.hands (.l (.r (.r .n)))
   obtain⟨⟨r11,s8⟩,hx8,h⟩:=ab h
   try dsimp only at h
   refine bf gn rfl (Rc Tryz.func98) (Calls.mono (fy HS hx8) ?_)
   rintro _ w18 ⟨a12,c46,c47,rfl,hB2⟩
   refine HN hk8 hB2 λc48 hI=>?_
   refine⟨_,rfl,?_⟩
   refine T ?_
   refine lS λc49 w19 hI=>?_
   refine nk (bO (α:=aa×(Option Addr)×Nat) (λ_=>⟨66,[]⟩) (λx=>[(0,vp b1 0),(2,vp b2 0),(3,vi r1.at_),(4,vp b3 0)]) (λx=>λw=>∃ C,Bun C0 F w0 C w [MO.box b1 67 (ac (x.1) (x.2.1) (x.2.2)),MO.box b2 35 BA,MO.box b3 35 #[vi 2,vi r4,vi r6,(vi (av (r8+1))),(vi (av (r11+1)))]] [Cl.sl ag (x.2.1) (x.2.2) (x.1).l]∧fJ r4 r6 r8 r11 r1 (x.1)=some r) ?_ ?_)
   ·clear h hI;rintro⟨r12,a13,c50⟩ w20 ⟨c51,hI,h⟩
    try dsimp only at hI h ⊢
    rw[fJ]at h
    refine T ?_
    obtain⟨c52,f9,hB,hl9,hk9⟩:=hI.hands (.l (.r (.r .n)))
    refine dh h (λ_ hx9=>ap HS hx9) (jL hk9) (Rc Tryz.func104) ?_
    rintro⟨r13,s9⟩ hx9 h _ w21 ⟨a14,c53,c54,rfl,hB2⟩
    try dsimp only at h
    refine HN hk9 hB2 λc55 hI=>?_
    refine⟨_,rfl,?_⟩
    refine nk (aj (T ?_))
    refine sB h (λ_ k=>jK hI.lt trivial k) (Rc Tryz.func202) λr14 w22 h hI=>?_
    refine TC (λhb h=>?_) λhb h=>?_
    ·refine T ?_
     rcases en h with⟨r15,hx12,h⟩ | ⟨pa_,pn_,hx12,hp_⟩
     rotate_left
     ·subst hp_
      refine iw gn rfl (ar (vs:=[vp b1 0,vi r1.at_,vi 10]) rfl uO ⟨et,et,ah,af⟩) (Calls.mono (aP NE ⟨(hI.get0 .z),hI.lendBox .z,af⟩ hx12) ?_)
      intro e_ w_ hq_;obtain⟨rfl,hx_⟩:=cz hq_;have hI_:=hI.ext hx_;exact .inr ⟨_,rfl,fB (.inr ⟨_,_,rfl,rfl,_,hI_.arr .n trivial⟩)⟩
     try dsimp only at h
     refine bf gn rfl (Rc Tryz.func71) (Calls.mono (aP NE ⟨(hI.get0 .z),hI.lendBox .z,af⟩ hx12) ?_)
     intro e_ w23 hq_;obtain⟨rfl,hx13,hl11⟩:=cy hq_
     refine⟨_,rfl,?_⟩
     replace hI:=(hI.ext hx13)
     refine T ?_
     refine lA λc56 w24 hI=>?_
     refine nk (aO ?_)
     obtain rfl:=ak h
     refine QG ?_
     exact .inl ⟨_,rfl,a14,c53,_,rfl,hI.arr GO SU⟩
    refine T ?_
    refine lA λc57 w25 hI=>?_
    refine nk (aO ?_)
    obtain rfl:=ak h
    refine QG ?_
    exact .inl ⟨_,rfl,a14,c53,_,rfl,hI.arr GO SU⟩
   refine TC (λhb h=>?_) λhb h=>?_
   ·refine T ?_
    obtain⟨c58,f10,hB,hl12,hk10⟩:=hI.hands (.l (.r (.r .n)))
    refine dh h (λ_ hx14=>cg HS hx14) (jL hk10) (Rc Tryz.func103) ?_
    rintro⟨r16,s10⟩ hx14 h _ w26 ⟨a15,c59,c60,rfl,hB2⟩
    try dsimp only at h
    refine HN hk10 hB2 λc61 hI=>?_
    refine⟨_,rfl,?_⟩
    refine aG ?_
    exact kj (s10,a15,c59)
   exact aZ (bI (s8,a12,c46) SB BH rfl)
  refine TC (λhb h=>?_) λhb h=>?_
  ·refine T ?_
   obtain⟨c62,f11,hB,hl13,hk11⟩:=hI.hands (.l (.r (.r .n)))
   refine dh h (λ_ hx15=>cg HS hx15) (jL hk11) (Rc Tryz.func103) ?_
   rintro⟨r17,s11⟩ hx15 h _ w27 ⟨a16,c63,c64,rfl,hB2⟩
   try dsimp only at h
   refine HN hk11 hB2 λc65 hI=>?_
   refine⟨_,rfl,?_⟩
   refine aG ?_
   exact kj (s11,a16,c63)
  exact aZ (bI (s6,a9,c33) SB BH rfl)
 refine T ?_
 refine ll hI be YW5 lw Rr λb6 c66 w28 hI=>?_
 obtain⟨c67,hI⟩:=hI.release .z
 obtain⟨c68,f12,hB,hl14,hk12⟩:=hI.hands (.r (.l .n))
 obtain⟨⟨r18,s12⟩,hx16,h⟩:=ab h
 try dsimp only at h
 refine bf gn rfl (Rc Tryz.func98) (Calls.mono (fy HS hx16) ?_)
 rintro _ w29 ⟨a17,c69,c70,rfl,hB2⟩
 refine HN hk12 hB2 λc71 hI=>?_
 refine⟨_,rfl,?_⟩
 refine TC (λhb h=>?_) λhb h=>?_
 ·refine sr (sq (aK (vs:=[(0,vi 1)]) (cs:=#[vi 1,vi 0,vi 0,vi 0,vi 0]) rfl ⟨rfl,ah,af⟩ (by kernel_rfl)) ?_)
  refine lA λc72 w30 hI=>?_
  refine nk (aO ?_)
  obtain rfl:=ak h
  refine QG ?_
  exact .inl ⟨_,rfl,a17,c69,_,rfl,hI.arr GO SU⟩
 refine TC (λhb h=>?_) λhb h=>?_
 ·refine sr (sq (aK (vs:=[(0,vi 3)]) (cs:=#[vi 3,vi 0,vi 0,vi 0,vi 0]) rfl ⟨rfl,ah,af⟩ (by kernel_rfl)) ?_)
  refine lA λc73 w31 hI=>?_
  refine nk (aO ?_)
  obtain rfl:=ak h
  refine QG ?_
  exact .inl ⟨_,rfl,a17,c69,_,rfl,hI.arr GO SU⟩
 refine TC (λhb h=>?_) λhb h=>?_
 ·refine T ?_
  obtain⟨c74,f13,hB,hl15,hk13⟩:=hI.hands (.l (.r .n))
  refine dh h (λ_ hx17=>cg HS hx17) (jL hk13) (Rc Tryz.func103) ?_
  rintro⟨r19,s13⟩ hx17 h _ Ni ⟨a18,c75,c76,rfl,hB2⟩
  try dsimp only at h
  refine HN hk13 hB2 λc77 hI=>?_
  refine⟨_,rfl,?_⟩
  refine aG ?_
  exact kj (s13,a18,c75)
 exact aZ (bI (s12,a17,c69) SB BH rfl)
theorem jj {r1:aa} (hI:Bun C0 F w0 C0 w0 [MO.box b1 67 (ac r1 a1 c1)] [Cl.sl ag a1 c1 r1.l]) {r:bZ (ae×aa)} (h:bX r1=some r):CP C0 F w0 255 #[vp b1 0] r λrx e w=>∃ a2 c2 a3 c3 a4 c4 a5 c5 C,e= .returned (Value.agg (aA rx.1 a2 c2 a3 c3 a4 c4))∧Bun C0 F w0 C w [MO.box b1 67 (ac rx.2 a5 c5)] [Cl.sl ai a2 c2 rx.1.Lin.L,Cl.sl al a3 c3 rx.1.Idx,Cl.sl an a4 c4 rx.1.Args,Cl.sl ag a5 c5 rx.2.l]:=by
 refine fa (l:=[vp b1 0]) Tryz.func255 rfl Tryz.ntmps255 rfl ?_
 rw[bX]at h
 refine sr (cY (cs:=mD) hI gn rfl rfl fW rfl ?_)
 intro b2 c6 w1 hI
 refine T ?_
 obtain⟨c7,f1,hB,hl1,hk1⟩:=hI.hands (.r (.l .n))
 refine dh h (λ_ hx1=>gW HS hx1) (jL hk1) (Rc Tryz.func174) ?_
 rintro⟨r2,s1⟩ hx1 h _ w2 ⟨a6,c8,c9,rfl,hB2⟩
 try dsimp only at h
 refine HN hk1 hB2 λc10 hI=>?_
 refine⟨_,rfl,?_⟩
 refine lN λb3 c11 w3 hI=>?_
 refine lA λc12 w4 hI=>?_
 refine T ?_
 obtain⟨c13,f2,hB,hl2,hk2⟩:=hI.hands (.r (.l (.r .n)))
 refine dh h (λ_ hx2=>ap HS hx2) (jL hk2) (Rc Tryz.func104) ?_
 rintro⟨r3,s2⟩ hx2 h _ w5 ⟨a7,c14,c15,rfl,hB2⟩
 try dsimp only at h
 refine HN hk2 hB2 λc16 hI=>?_
 refine⟨_,rfl,?_⟩
 refine T ?_
 refine bO (α:=(List UInt8)×aa×(Option Addr)×Nat) (λ_=>⟨46,[]⟩) (λx=>[(0,vp b1 0),(2,vp b2 0),(3,vp b3 0),(4,vi s2.at_),(5,(str (x.1)))]) (λx=>λw=>∃ C,Bun C0 F w0 C w [MO.box b1 67 (ac (x.2.1) (x.2.2.1) (x.2.2.2)),MO.box b2 39 mD,MO.box b3 35 (fV r2)] [Cl.sl ag (x.2.2.1) (x.2.2.2) (x.2.1).l]∧cD r2 s2 (x.1) (x.2.1)=some r) ?_ ?_
 ·clear h hI;rintro⟨text1,r4,a8,c17⟩ w6 ⟨c18,hI,h⟩
  try dsimp only at hI h ⊢
  rw[cD]at h
  refine T ?_
  obtain⟨c19,f3,hB,hl3,hk3⟩:=hI.hands (.l (.r (.r .n)))
  refine dh h (λ_ hx3=>ic HS hx3) (jL hk3) (Rc Tryz.func130) ?_
  rintro⟨r5,s3⟩ hx3 h _ w7 ⟨a9,c20,c21,rfl,hB2⟩
  try dsimp only at h
  refine HN hk3 hB2 λc22 hI=>?_
  refine⟨_,rfl,?_⟩
  obtain⟨s4,hx4,h⟩:=ab h
  refine sq (aH rfl et et hx4) ?_
  refine T ?_
  refine bO (α:=(List UInt8)×aa×(Option Addr)×Nat) (λ_=>⟨46,[]⟩) (λx=>[(0,vp b1 0),(2,vp b2 0),(3,vp b3 0),(4,vi s2.at_),(5,(str (x.1)))]) (λx=>λw=>∃ C,Bun C0 F w0 C w [MO.box b1 67 (ac (x.2.1) (x.2.2.1) (x.2.2.2)),MO.box b2 39 mD,MO.box b3 35 (fV r2)] [Cl.sl ag (x.2.2.1) (x.2.2.2) (x.2.1).l]∧cC r2 s2 (x.1) (x.2.1)=some r) ?_ ?_
  ·clear h hI;rintro⟨text2,r6,a10,c23⟩ w8 ⟨c24,hI,h⟩
   try dsimp only at hI h ⊢
   rw[cC]at h
   refine T ?_
   refine sB h (λ_ k=>Al hI.lt trivial k) (Rc Tryz.func260) λr7 w9 h hI=>?_
   refine T ?_
   refine lN λb4 c25 w10 hI=>?_
   refine lA λc26 w11 hI=>?_
   refine T ?_
   refine bO (α:=Unit) (λ_=>⟨46,[]⟩) (λ_=>[(0,vp b1 0),(2,vp b2 0),(3,vp b3 0),(6,vp b4 0)]) (λ_=>λw=>∃ C,Bun C0 F w0 C w [MO.box b1 67 (ac r6 a10 c23),MO.box b2 39 mD,MO.box b3 35 (fV r2),MO.box b4 33 (sT r7.1)] [Cl.sl ag a10 c23 r6.l]∧dT r6 r7 r2=some r) ?_ ?_
   ·clear h hI;rintro _ w12 ⟨c27,hI,h⟩
    try dsimp only at hI h ⊢
    rw[dT]at h
    refine T ?_
    obtain⟨c28,f4,hB,hl5,hk4⟩:=hI.hands (.l (.r (.r (.r .n))))
    refine dh h (λ_ hx7=>ap HS hx7) (jL hk4) (Rc Tryz.func104) ?_
    rintro⟨r8,s5⟩ hx7 h _ w13 ⟨a11,c29,c30,rfl,hB2⟩
    try dsimp only at h
    refine HN hk4 hB2 λc31 hI=>?_
    refine⟨_,rfl,?_⟩
    refine T ?_
    refine sq (aK (vs:=[(0,vi 1),(3,(Value.agg (fV r2))),(2,(Value.agg (sT r7.1)))]) (cs:=#[vi 1,(str []),vi r7.1.N,vi r7.1.D,vi r2.Kind,vi r2.Bits,vi r2.Frac,vi r2.Round,vi r2.Over,vi 0,vs none 0 0,vs none 0 0,vs none 0 0]) rfl ⟨rfl,ah,rfl,et,rfl,et,af⟩ (by kernel_rfl)) ?_
    refine lA λc32 w14 hI=>?_
    refine nk (aO ?_)
    have hI:=hI.add (c:=Cl.sl ai none 0 ([]:List bv)) SlC.nil
    have hI:=hI.add (c:=Cl.sl al none 0 ([]:List aM)) SlC.nil
    have hI:=hI.add (c:=Cl.sl an none 0 ([]:List ae)) SlC.nil
    obtain rfl:=ak h
    refine QG ?_
    exact .inl ⟨_,rfl,none,0,none,0,none,0,a11,c29,_,rfl,hI.arr GO SU⟩
   refine TC (λhb h=>?_) λhb h=>?_
   ·refine T ?_
    rcases en h with⟨r9,hx8,h⟩ | ⟨pa_,pn_,hx8,hp_⟩
    rotate_left
    ·subst hp_
     refine iw gn rfl (ar (vs:=[vp b1 0,vi s2.at_,vi r7.2]) rfl uO ⟨et,et,et,af⟩) (Calls.mono (aP NE ⟨(hI.get0 .z),hI.lendBox .p1,af⟩ hx8) ?_)
     intro e_ w_ hq_;obtain⟨rfl,hx_⟩:=cz hq_;have hI_:=hI.ext hx_;exact .inr ⟨_,rfl,fB (.inr ⟨_,_,rfl,rfl,_,hI_.arr .n trivial⟩)⟩
    try dsimp only at h
    refine bf gn rfl (Rc Tryz.func71) (Calls.mono (aP NE ⟨(hI.get0 .z),hI.lendBox .p1,af⟩ hx8) ?_)
    intro e_ w15 hq_;obtain⟨rfl,hx9,hl6⟩:=cy hq_
    refine⟨_,rfl,?_⟩
    replace hI:=(hI.ext hx9)
    refine aG ?_
    exact kj ()
   exact aZ (bI () SB BH rfl)
  refine T ?_
  obtain⟨c33,f5,hB,hl7,hk5⟩:=hI.hands (.l (.r (.r .n)))
  obtain⟨⟨r10,s6⟩,hx10,h⟩:=ab h
  try dsimp only at h
  refine bf gn rfl (Rc Tryz.func68) (Calls.mono (aQ HS hx10) ?_)
  rintro _ w16 ⟨a12,c34,c35,rfl,hB2⟩
  refine HN hk5 hB2 λc36 hI=>?_
  refine⟨_,rfl,?_⟩
  refine TC (λhb h=>?_) λhb h=>?_
  ·refine T ?_
   obtain⟨c37,f6,hB,hl8,hk6⟩:=hI.hands (.l (.r (.r .n)))
   refine dh h (λ_ hx11=>ic HS hx11) (jL hk6) (Rc Tryz.func130) ?_
   rintro⟨r11,s7⟩ hx11 h _ w17 ⟨a13,c38,c39,rfl,hB2⟩
   try dsimp only at h
   refine HN hk6 hB2 λc40 hI=>?_
   refine⟨_,rfl,?_⟩
   obtain⟨s8,hx12,h⟩:=ab h
   refine sq (aH rfl ah et hx12) ?_
   obtain⟨s9,hx13,h⟩:=ab h
   refine sq (aH rfl et et hx13) ?_
   refine sa ?_
   refine aG ?_
   exact kj (s9,s7,a13,c38)
  exact aZ (bI (s4,s6,a12,c34) SB BH rfl)
 refine T ?_
 obtain⟨c41,f7,hB,hl9,hk7⟩:=hI.hands (.l (.r (.r .n)))
 obtain⟨⟨r12,s10⟩,hx14,h⟩:=ab h
 try dsimp only at h
 refine bf gn rfl (Rc Tryz.func68) (Calls.mono (aQ HS hx14) ?_)
 rintro _ w18 ⟨a14,c42,c43,rfl,hB2⟩
 refine HN hk7 hB2 λc44 hI=>?_
 refine⟨_,rfl,?_⟩
 refine TC (λhb h=>?_) λhb h=>?_
 ·refine T ?_
  refine aG ?_
  exact kj (([45]:List UInt8),s10,a14,c42)
 exact aZ (bI (([]:List UInt8),s10,a14,c42) SB BH rfl)
def eE:Tr:=(.c (5,.s) (.c (6,.q) (.c (7,.s) .n)))
def dt:Tr:=(.c (4,.s) eE)
abbrev KO (K_:Nat) (f_:(aa→Option (bZ (ae×aa)))):Prop:=∀ ⦃C0 F:NP⦄ ⦃w0:World⦄ ⦃r1:aa⦄ ⦃b1 c1:Nat⦄ ⦃a1:Option Addr⦄ (hI:Bun C0 F w0 C0 w0 [MO.box b1 67 (ac r1 a1 c1)] [Cl.sl ag a1 c1 r1.l,au]) ⦃r:bZ (ae×aa)⦄ (h:f_ r1=some r),CP C0 F w0 K_ #[vp b1 0] r λrx e w=>∃ a2 c2 a3 c3 a4 c4 a5 c5 C,e= .returned (Value.agg (aA rx.1 a2 c2 a3 c3 a4 c4))∧Bun C0 F w0 C w [MO.box b1 67 (ac rx.2 a5 c5)] [Cl.sl ai a2 c2 rx.1.Lin.L,Cl.sl al a3 c3 rx.1.Idx,Cl.sl an a4 c4 rx.1.Args,Cl.sl ag a5 c5 rx.2.l]
abbrev BB (f_:(aa→Option (bZ (ae×aa)))):Prop:=KO 34 f_
theorem kU {rec_:(aa→Option (bZ (ae×aa)))} (hrec:BB rec_) {r1:aa} {op1 many1:Int} (hI:Bun C0 F w0 C0 w0 [MO.box b1 67 (ac r1 a1 c1)] [Cl.sl ag a1 c1 r1.l,au]) {r:bZ (ae×aa)} (h:bo rec_ r1 op1 many1=some r):CP C0 F w0 256 #[vp b1 0,vi op1,vi many1] r λrx e w=>∃ a2 c2 a3 c3 a4 c4 a5 c5 C,e= .returned (Value.agg (aA rx.1 a2 c2 a3 c3 a4 c4))∧Bun C0 F w0 C w [MO.box b1 67 (ac rx.2 a5 c5)] [Cl.sl ai a2 c2 rx.1.Lin.L,Cl.sl al a3 c3 rx.1.Idx,Cl.sl an a4 c4 rx.1.Args,Cl.sl ag a5 c5 rx.2.l]:=by
 refine fa (l:=[vp b1 0,vi op1,vi many1]) Tryz.func256 rfl Tryz.ntmps256 rfl ?_
 rw[bo]at h
 refine sr (cY (cs:=mD) hI gn rfl rfl fW rfl ?_)
 intro b2 c6 w1 hI
 refine T ?_
 refine sq (aK (vs:=[(0,vi op1)]) (cs:=#[vi op1,(str []),vi 0,vi 0,vi 0,vi 0,vi 0,vi 0,vi 0,vi 0,vs none 0 0,vs none 0 0,vs none 0 0]) rfl ⟨rfl,et,af⟩ (by kernel_rfl)) ?_
 refine lN λb3 c7 w2 hI=>?_
 refine lA λc8 w3 hI=>?_
 refine T ?_
 obtain⟨c9,f1,hB,hl1,hk1⟩:=hI.hands (.r (.r (.l .n)))
 refine dh h (λ_ hx1=>kS HS hx1) (jL hk1) (Rc Tryz.func253) ?_
 rintro⟨r2,s1⟩ hx1 h _ w4 ⟨a6,c10,c11,rfl,hB2⟩
 try dsimp only at h
 refine HN hk1 hB2 λc12 hI=>?_
 refine⟨_,rfl,?_⟩
 refine nk (aj (T ?_))
 have hI:=hI.nil ai 64 none
 have hI:=hI.nil al 132 none
 have hI:=hI.nil an 39 none
 refine bk (α:=Nat×Int×aa×ae×(Option Addr)×Nat×(Option Addr)×Nat×(Option Addr)×Nat×(Option Addr)×Nat) (λx=>λw=>∃ C,Bun C0 F w0 C w [Q6 ai 64 (x.2.2.2.2.2.2.1) (x.2.2.2.2.2.2.2.1) (x.2.2.2.1).Lin.L,Q6 al 132 (x.2.2.2.2.2.2.2.2.1) (x.2.2.2.2.2.2.2.2.2.1) (x.2.2.2.1).Idx,Q6 an 39 (x.2.2.2.2.2.2.2.2.2.2.1) (x.2.2.2.2.2.2.2.2.2.2.2) (x.2.2.2.1).Args,MO.box b1 67 (ac (x.2.2.1) (x.2.2.2.2.1) (x.2.2.2.2.2.1)),MO.box b2 39 mD,MO.box b3 39 (aA (x.2.2.2.1) (x.2.2.2.2.2.2.1) (x.2.2.2.2.2.2.2.1) (x.2.2.2.2.2.2.2.2.1) (x.2.2.2.2.2.2.2.2.2.1) (x.2.2.2.2.2.2.2.2.2.2.1) (x.2.2.2.2.2.2.2.2.2.2.2))] [Cl.sl ag (x.2.2.2.2.1) (x.2.2.2.2.2.1) (x.2.2.1).l,au]∧br many1 rec_ (x.1) (x.2.1) (x.2.2.1) (x.2.2.2.1)=some r) (λx _=>x.1) (λx=>[(0,vp b1 0),(6,vp b2 0),(7,vp b3 0),(13,vi many1),(14,vi (x.2.1))]) (fu,0,s1,(⟨op1,[],⟨0,0⟩,⟨0,0,0,0,0⟩,⟨0,[]⟩,[],[]⟩:ae),a6,c10,none,0,none,0,none,0) ⟨_,hI.arr (.c .p2 (.c .p1 (.c .z (.c .z (.c .p1 (.c .z .n)))))) ⟨.z,.p2,af⟩,h⟩ SB ?_
 clear h hI;rintro⟨fuel1,i1,r3,e1,a7,c13,a8,c14,a9,c15,a10,c16⟩ w5 ⟨c17,hI,h⟩
 dsimp only at hI h ⊢
 rcases fuel1 with _ | fuel1
 ·rw[br]at h;cases h
 rw[br]at h
 refine T ?_
 refine aj (E7 h et (λhb h=>?_) (λhb h=>?_))
 ·refine T ?_
  refine aj (T ?_)
  refine bO (α:=aa×(Option Addr)×Nat) (λ_=>⟨32,[]⟩) (λx=>[(0,vp b1 0),(6,vp b2 0),(7,vp b3 0),(13,vi many1),(14,vi i1)]) (λx=>λw=>∃ C,Bun C0 F w0 C w [MO.box b1 67 (ac (x.1) (x.2.1) (x.2.2)),MO.box b2 39 mD,MO.box b3 39 (aA e1 a8 c14 a9 c15 a10 c16),Q6 ai 64 a8 c14 e1.Lin.L,Q6 al 132 a9 c15 e1.Idx,Q6 an 39 a10 c16 e1.Args] [Cl.sl ag (x.2.1) (x.2.2) (x.1).l,au]∧dX rec_ e1 (br many1 rec_ fuel1) i1 (x.1)=some r) ?_ ?_
  ·clear h hI;rintro⟨r4,a11,c18⟩ w6 ⟨c19,hI,h⟩
   try dsimp only at hI h ⊢
   rw[dX]at h
   rcases en h with⟨⟨r5,s2⟩,hx2,h⟩ | ⟨pa_,pn_,hx2,hp_⟩
   rotate_left
   ·subst hp_
    refine aL [3,5,7] false (.c (0,.q) (.c (2,.q) (.two 1 (.c (3,.s) dt) 3 (.two 1 dt 4 (.c (1,.s) eE))))) hI (by kernel_rfl) (by kernel_rfl) ?_
    intro w13 hI
    refine V ?_
    refine gG ?_ ?_
    ·skip
     refine dz rfl gn rfl (aF (v:=(vs a10 e1.Args.length c16)) rfl et K2 rfl (Q5 (hI.blk .p2) rfl)) Q7 ?_
     refine gQ (F:=F) (C:=c19) rfl rfl ?_
     obtain⟨c20,f2,hB,hl2,hk2⟩:=hI.hands (.l (.r (.r (.r (.r (.r .n))))))
     refine eO rfl gn rfl (ar (vs:=[vp b1 0]) rfl ru ⟨et,af⟩) (Calls.mono (hrec HS hx2) ?_)
     intro e_ w_ hq_;obtain⟨rfl,C_,hB_⟩:=cz hq_;obtain⟨C9_,-,hI_⟩:=hk2 _ _ _ _ hB_;exact .inr ⟨_,rfl,fB (.inr ⟨_,_,rfl,rfl,_,hI_.arr .n trivial⟩)⟩
    refine dC (F:=F) (C:=c19) rfl rfl ?_
    obtain⟨c20,f2,hB,hl2,hk2⟩:=hI.hands (.l (.r (.r (.r (.r (.r .n))))))
    refine eO rfl gn rfl (ar (vs:=[vp b1 0]) rfl ru ⟨et,af⟩) (Calls.mono (hrec HS hx2) ?_)
    intro e_ w_ hq_;obtain⟨rfl,C_,hB_⟩:=cz hq_;obtain⟨C9_,-,hI_⟩:=hk2 _ _ _ _ hB_;exact .inr ⟨_,rfl,fB (.inr ⟨_,_,rfl,rfl,_,hI_.arr .n trivial⟩)⟩
   try dsimp only at h
   obtain⟨zs1,hx3,h⟩:=ab h
   refine aL [3,5,7] false (.c (0,.q) (.c (2,.q) (.two 1 (.c (3,.s) dt) 3 (.two 1 dt 4 (.c (1,.s) eE))))) hI (by kernel_rfl) (by kernel_rfl) ?_
   intro w14 hI
   refine fU (α:=(Option Addr)×Nat×(Option Addr)×Nat×(Option Addr)×Nat×(Option Addr)×Nat×Nat×NP) (T:=eE) (λx=>[(0,vp b1 0),(6,vp b2 0),(7,vp b3 0),(13,vi many1),(14,vi i1),(22,vs a10 e1.Args.length c16),(25,(vs (some ⟨(x.2.2.2.2.2.2.2.2.1),0,none⟩) ([r5]:List ae).length 1))]) (λx w=>Bun C0 F w0 (x.2.2.2.2.2.2.2.2.2) w [Q6 an 39 (some ⟨(x.2.2.2.2.2.2.2.2.1),0,none⟩) 1 ([r5]:List ae),MO.box b1 67 (ac s2 (x.2.2.2.2.2.2.1) (x.2.2.2.2.2.2.2.1)),MO.box b2 39 mD,MO.box b3 39 (aA e1 a8 c14 a9 c15 a10 c16),Q6 ai 64 a8 c14 e1.Lin.L,Q6 al 132 a9 c15 e1.Idx,Q6 an 39 a10 c16 e1.Args] [Cl.sl ai (x.1) (x.2.1) r5.Lin.L,Cl.sl al (x.2.2.1) (x.2.2.2.1) r5.Idx,Cl.sl an (x.2.2.2.2.1) (x.2.2.2.2.2.1) r5.Args,Cl.sl ag (x.2.2.2.2.2.2.1) (x.2.2.2.2.2.2.2.1) s2.l,Cl.sl ag a11 c18 r4.l,au]) (λx w=>SN [] (DM true F (x.2.2.2.2.2.2.2.2.2)) w) ?_ ?_
   ·clear hI;rintro⟨a12,c21,a13,c22,a14,c23,a15,c24,b4,c32⟩ w12 hI
    try dsimp only at hI ⊢
    unfold eE
    refine oI (xs:=e1.Args) (ys:=([r5]:List ae)) hI .p6 (hI.rd .z) hx3 rfl gn rfl rfl K2 oW rfl rfl et et ?_
    intro a16 c28 c29 w9 hI
    refine V ?_
    refine vS λc30 w10 hI=>?_
    refine V ?_
    refine T ?_
    refine aG ?_
    exact qo (fuel1,av (i1+1),s2,(⟨e1.Op,e1.Name,e1.Val,e1.Type_,e1.Lin,e1.Idx,zs1⟩:ae),a15,c24,a8,c14,a9,c15,a16,c28) SB ⟨_,hI.arr GO SU,h⟩ (Nat.lt_succ_self _)
   intro hk_tr_parser_reader_call_w_3_1
   refine fU (α:=(Option Addr)×Nat×(Option Addr)×Nat×(Option Addr)×Nat×(Option Addr)×Nat×NP) (T:=dt) (λx=>[(0,vp b1 0),(6,vp b2 0),(7,vp b3 0),(13,vi many1),(14,vi i1),(22,vs a10 e1.Args.length c16),(24,(Value.agg (aA r5 (x.1) (x.2.1) (x.2.2.1) (x.2.2.2.1) (x.2.2.2.2.1) (x.2.2.2.2.2.1))))]) (λx w=>Bun C0 F w0 (x.2.2.2.2.2.2.2.2) w [MO.box b1 67 (ac s2 (x.2.2.2.2.2.2.1) (x.2.2.2.2.2.2.2.1)),MO.box b2 39 mD,MO.box b3 39 (aA e1 a8 c14 a9 c15 a10 c16),Q6 ai 64 a8 c14 e1.Lin.L,Q6 al 132 a9 c15 e1.Idx,Q6 an 39 a10 c16 e1.Args] [Cl.sl ai (x.1) (x.2.1) r5.Lin.L,Cl.sl al (x.2.2.1) (x.2.2.2.1) r5.Idx,Cl.sl an (x.2.2.2.2.1) (x.2.2.2.2.2.1) r5.Args,Cl.sl ag (x.2.2.2.2.2.2.1) (x.2.2.2.2.2.2.2.1) s2.l,Cl.sl ag a11 c18 r4.l,au]) (λx w=>SN [] (DM true F (x.2.2.2.2.2.2.2.2)) w) ?_ ?_
   ·clear hI;rintro⟨a12,c21,a13,c22,a14,c23,a15,c24,c31⟩ w11 hI
    try dsimp only at hI ⊢
    unfold dt
    refine vl hI an ([r5]:List ae) oW (.cs (kE ⟨a12,c21,a13,c22,a14,c23,rfl,hI.get .z,hI.get .p1,hI.get .p2⟩) .nl) λb4 c27 w8 hI=>?_
    exact cn (hk_tr_parser_reader_call_w_3_1 (a12,c21,a13,c22,a14,c23,a15,c24,b4,c27) _ (hI.arr GO SU)) SB
   intro hk_tr_parser_reader_call_w_3_0
   refine V ?_
   refine gG ?_ ?_
   ·skip
    refine dz rfl gn rfl (aF (v:=(vs a10 e1.Args.length c16)) rfl et K2 rfl (Q5 (hI.blk .p2) rfl)) Q7 ?_
    refine gQ (F:=F) (C:=c19) rfl rfl ?_
    obtain⟨c20,f2,hB,hl2,hk2⟩:=hI.hands (.l (.r (.r (.r (.r (.r .n))))))
    refine eN rfl gn rfl (ar (vs:=[vp b1 0]) rfl ru ⟨et,af⟩) (Calls.mono (hrec HS hx2) ?_)
    intro e_ w7 hq_;obtain⟨a12,c21,a13,c22,a14,c23,a15,c24,c25,rfl,hB2⟩:=cy hq_
    obtain⟨c26,hs2,hI⟩:=hk2 _ _ _ _ hB2
    dsimp only[ca,na]at hI
    refine⟨_,rfl,DM true F c26,hs2,?_⟩
    exact cn (hk_tr_parser_reader_call_w_3_0 (a12,c21,a13,c22,a14,c23,a15,c24,c26) _ (hI.arr GO SU)) SB
   refine dC (F:=F) (C:=c19) rfl rfl ?_
   obtain⟨c20,f2,hB,hl2,hk2⟩:=hI.hands (.l (.r (.r (.r (.r (.r .n))))))
   refine eN rfl gn rfl (ar (vs:=[vp b1 0]) rfl ru ⟨et,af⟩) (Calls.mono (hrec HS hx2) ?_)
   intro e_ w7 hq_;obtain⟨a12,c21,a13,c22,a14,c23,a15,c24,c25,rfl,hB2⟩:=cy hq_
   obtain⟨c26,hs2,hI⟩:=hk2 _ _ _ _ hB2
   dsimp only[ca,na]at hI
   refine⟨_,rfl,DM true F c26,hs2,?_⟩
   refine gG ?_ ?_
   ·skip
    refine dz rfl gn rfl (aF (v:=(vs a10 e1.Args.length c16)) rfl et K2 rfl (Q5 (hI.blk .p2) rfl)) Q7 ?_
    exact cn (hk_tr_parser_reader_call_w_3_0 (a12,c21,a13,c22,a14,c23,a15,c24,c26) _ (hI.arr GO SU)) SB
   refine vl hI an ([r5]:List ae) oW (.cs (kE ⟨a12,c21,a13,c22,a14,c23,rfl,hI.get .z,hI.get .p1,hI.get .p2⟩) .nl) λb4 c27 w8 hI=>?_
   refine dz rfl gn rfl (aF (v:=(vs a10 e1.Args.length c16)) rfl et K2 rfl (Q5 (hI.blk .p3) rfl)) Q7 ?_
   exact cn (hk_tr_parser_reader_call_w_3_1 (a12,c21,a13,c22,a14,c23,a15,c24,b4,c27) _ (hI.arr GO SU)) SB
  refine TC (λhb h=>?_) λhb h=>?_
  ·refine T ?_
   obtain⟨c33,f3,hB,hl3,hk3⟩:=hI.hands (.r (.r (.r (.l (.r (.r .n))))))
   refine dh h (λ_ hx4=>ap HS hx4) (jL hk3) (Rc Tryz.func104) ?_
   rintro⟨r6,s3⟩ hx4 h _ w15 ⟨a17,c34,c35,rfl,hB2⟩
   try dsimp only at h
   refine HN hk3 hB2 λc36 hI=>?_
   refine⟨_,rfl,?_⟩
   refine aG ?_
   exact bI (s3,a17,c34) SB ⟨_,hI.arr GO SU,h⟩ rfl
  exact aZ (bI (r3,a7,c13) SB ⟨_,hI.arr GO SU,h⟩ rfl)
 refine bl ?_
 refine eZ ?_
 refine aS ?_
 refine T ?_
 obtain⟨c37,f4,hB,hl4,hk4⟩:=hI.hands (.r (.r (.r (.l (.r (.r .n))))))
 refine dh h (λ_ hx5=>kD HS hx5) (jL hk4) (Rc Tryz.func254) ?_
 rintro⟨r7,s4⟩ hx5 h _ w16 ⟨a18,c38,c39,rfl,hB2⟩
 try dsimp only at h
 refine HN hk4 hB2 λc40 hI=>?_
 refine⟨_,rfl,?_⟩
 refine T ?_
 refine lA λc41 w17 hI=>?_
 refine nk (aO ?_)
 obtain⟨c42,hI⟩:=hI.release .p1
 obtain⟨c43,hI⟩:=hI.release .p1
 obtain⟨c44,hI⟩:=hI.release .p1
 obtain rfl:=ak h
 refine QG ?_
 exact .inl ⟨_,rfl,a8,c14,a9,c15,a10,c16,a18,c38,_,rfl,hI.arr GO SU⟩
def eA:Tr:=(.c (6,.s) .n)
def eB:Tr:=(.c (5,.s) eA)
def eC:Tr:=(.c (0,.s) (.c (4,.q) eA))
def eD:Tr:=(.c (3,.s) (.c (4,.q) eA))
def dp:Tr:=(.two 0 eD 3 eC)
def bQ:Tr:=(.c (2,.s) eD)
def dr:Tr:=(.two 3 (.c (4,.q) eB) 5 eD)
theorem sK {rec_:(aa→Option (bZ (ae×aa)))} (hrec:BB rec_):KO 257 (ft rec_):=by
 intro C0 F w0 r1 b1 c1 a1 hI r h
 refine fa (l:=[vp b1 0]) Tryz.func257 rfl Tryz.ntmps257 rfl ?_
 rw[ft]at h
 refine sr (cY (cs:=mD) hI gn rfl rfl fW rfl ?_)
 intro b2 c6 w1 hI
 refine T ?_
 obtain⟨c7,f1,hB,hl1,hk1⟩:=hI.hands (.r (.l .n))
 refine dh h (λ_ hx1=>kS HS hx1) (jL hk1) (Rc Tryz.func253) ?_
 rintro⟨r2,s1⟩ hx1 h _ w2 ⟨a6,c8,c9,rfl,hB2⟩
 try dsimp only at h
 refine HN hk1 hB2 λc10 hI=>?_
 refine⟨_,rfl,?_⟩
 refine T ?_
 obtain⟨c11,f2,hB,hl2,hk2⟩:=hI.hands (.l (.r .n))
 refine dh h (λ_ hx2=>gW HS hx2) (jL hk2) (Rc Tryz.func174) ?_
 rintro⟨r3,s2⟩ hx2 h _ w3 ⟨a7,c12,c13,rfl,hB2⟩
 try dsimp only at h
 refine HN hk2 hB2 λc14 hI=>?_
 refine⟨_,rfl,?_⟩
 refine lN λb3 c15 w4 hI=>?_
 refine lA λc16 w5 hI=>?_
 refine T ?_
 obtain⟨c17,f3,hB,hl3,hk3⟩:=hI.hands (.r (.l (.r .n)))
 refine dh h (λ_ hx3=>ap HS hx3) (jL hk3) (Rc Tryz.func104) ?_
 rintro⟨r4,s3⟩ hx3 h _ w6 ⟨a8,c18,c19,rfl,hB2⟩
 try dsimp only at h
 refine HN hk3 hB2 λc20 hI=>?_
 refine⟨_,rfl,?_⟩
 refine nk (aj ?_)
 rcases en h with⟨⟨r5,s4⟩,hx4,h⟩ | ⟨pa_,pn_,hx4,hp_⟩
 rotate_left
 ·subst hp_
  refine aL [2,6] false (.c (1,.q) (.three 0 (.two 2 dr 5 bQ) 2 (.three 0 dr 3 (.two 0 (.c (4,.q) eB) 5 eC) 5 dp) 5 (.two 0 bQ 2 dp))) hI (by kernel_rfl) (by kernel_rfl) ?_
  intro w18 hI
  refine fU (α:=Nat×NP) (T:=bQ) (λx=>[(0,vp b1 0),(2,vp b2 0),(4,(Value.pointer (some ⟨(x.1),0,none⟩))),(11,(Value.agg (fV r3))),(12,vp b1 0)]) (λx w=>Bun C0 F w0 (x.2) w [MO.box (x.1) 39 mD,MO.box b1 67 (ac s3 a8 c18),MO.box b3 35 (fV r3),MO.box b2 39 mD] [Cl.sl ag a8 c18 s3.l,Cl.sl ag a7 c12 s2.l,Cl.sl ag a6 c8 s1.l,Cl.sl ag a1 c1 r1.l,au]) (λx w=>SN [2,6] (DM false F (x.2)) w) ?_ ?_
  ·clear hI;rintro⟨b5,c32⟩ w12 hI
   try dsimp only at hI ⊢
   unfold bQ
   refine gQ (F:=F) (C:=c32) rfl rfl ?_
   obtain⟨c21,f4,hB,hl4,hk4⟩:=hI.hands (.r (.l (.r (.r .n))))
   refine eO rfl gn rfl (ar (vs:=[vp b1 0]) rfl ru ⟨et,af⟩) (Calls.mono (hrec HS hx4) ?_)
   intro e_ w_ hq_;obtain⟨rfl,C_,hB_⟩:=cz hq_;obtain⟨C9_,-,hI_⟩:=hk4 _ _ _ _ hB_;exact .inr ⟨_,rfl,fB (.inr ⟨_,_,rfl,rfl,_,hI_.arr .n trivial⟩)⟩
  intro hk_tr_parser_reader_cast_w_1_1
  refine V ?_
  refine wH ?_ ?_ ?_
  ·skip
   refine dz rfl gn rfl (am (l:=(bU r3)) rfl et qF rfl bN (Q5 (hI.blk .p1) rfl)) Q7 ?_
   refine gG ?_ ?_
   ·skip
    refine dC (F:=F) (C:=c20) rfl rfl ?_
    obtain⟨c21,f4,hB,hl4,hk4⟩:=hI.hands (.l (.r (.r .n)))
    refine eO rfl gn rfl (ar (vs:=[vp b1 0]) rfl ru ⟨et,af⟩) (Calls.mono (hrec HS hx4) ?_)
    intro e_ w_ hq_;obtain⟨rfl,C_,hB_⟩:=cz hq_;obtain⟨C9_,-,hI_⟩:=hk4 _ _ _ _ hB_;exact .inr ⟨_,rfl,fB (.inr ⟨_,_,rfl,rfl,_,hI_.arr .n trivial⟩)⟩
   refine ji (cs:=mD) hI rfl gn rfl rfl fW rfl ?_
   intro b5 c29 w9 hI
   exact cn (hk_tr_parser_reader_cast_w_1_1 (b5,c29) _ (hI.arr GO SU)) SB
  ·skip
   refine dC (F:=F) (C:=c20) rfl rfl ?_
   obtain⟨c21,f4,hB,hl4,hk4⟩:=hI.hands (.l (.r (.r .n)))
   refine eO rfl gn rfl (ar (vs:=[vp b1 0]) rfl ru ⟨et,af⟩) (Calls.mono (hrec HS hx4) ?_)
   intro e_ w_ hq_;obtain⟨rfl,C_,hB_⟩:=cz hq_;obtain⟨C9_,-,hI_⟩:=hk4 _ _ _ _ hB_;exact .inr ⟨_,rfl,fB (.inr ⟨_,_,rfl,rfl,_,hI_.arr .n trivial⟩)⟩
  refine ji (cs:=mD) hI rfl gn rfl rfl fW rfl ?_
  intro b5 c29 w9 hI
  refine gG ?_ ?_
  ·skip
   refine dz rfl gn rfl (am (l:=(bU r3)) rfl et qF rfl bN (Q5 (hI.blk .p2) rfl)) Q7 ?_
   exact cn (hk_tr_parser_reader_cast_w_1_1 (b5,c29) _ (hI.arr GO SU)) SB
  refine dC (F:=F) (C:=c29) rfl rfl ?_
  obtain⟨c21,f4,hB,hl4,hk4⟩:=hI.hands (.r (.l (.r (.r .n))))
  refine eO rfl gn rfl (ar (vs:=[vp b1 0]) rfl ru ⟨et,af⟩) (Calls.mono (hrec HS hx4) ?_)
  intro e_ w_ hq_;obtain⟨rfl,C_,hB_⟩:=cz hq_;obtain⟨C9_,-,hI_⟩:=hk4 _ _ _ _ hB_;exact .inr ⟨_,rfl,fB (.inr ⟨_,_,rfl,rfl,_,hI_.arr .n trivial⟩)⟩
 try dsimp only at h
 refine aL [2,6] false (.c (1,.q) (.three 0 (.two 2 dr 5 bQ) 2 (.three 0 dr 3 (.two 0 (.c (4,.q) eB) 5 eC) 5 dp) 5 (.two 0 bQ 2 dp))) hI (by kernel_rfl) (by kernel_rfl) ?_
 intro w19 hI
 refine fU (α:=(Option Addr)×Nat×(Option Addr)×Nat×(Option Addr)×Nat×(Option Addr)×Nat×Nat×Nat×NP) (T:=eA) (λx=>[(0,vp b1 0),(2,vp b2 0),(4,(Value.pointer (some ⟨(x.2.2.2.2.2.2.2.2.2.1),0,none⟩))),(15,(Value.agg #[vi 12,(str []),vi 0,vi 0,vi r3.Kind,vi r3.Bits,vi r3.Frac,vi r3.Round,vi r3.Over,vi 0,vs none 0 0,vs none 0 0,(vs (some ⟨(x.2.2.2.2.2.2.2.2.1),0,none⟩) ([r5]:List ae).length 1)]))]) (λx w=>Bun C0 F w0 (x.2.2.2.2.2.2.2.2.2.2) w [Q6 an 39 (some ⟨(x.2.2.2.2.2.2.2.2.1),0,none⟩) 1 ([r5]:List ae),MO.box (x.2.2.2.2.2.2.2.2.2.1) 39 mD,MO.box b1 67 (ac s4 (x.2.2.2.2.2.2.1) (x.2.2.2.2.2.2.2.1)),MO.box b3 35 (fV r3),MO.box b2 39 mD] [Cl.sl ai (x.1) (x.2.1) r5.Lin.L,Cl.sl al (x.2.2.1) (x.2.2.2.1) r5.Idx,Cl.sl an (x.2.2.2.2.1) (x.2.2.2.2.2.1) r5.Args,Cl.sl ag (x.2.2.2.2.2.2.1) (x.2.2.2.2.2.2.2.1) s4.l,Cl.sl ag a8 c18 s3.l,Cl.sl ag a7 c12 s2.l,Cl.sl ag a6 c8 s1.l,Cl.sl ag a1 c1 r1.l,au]) (λx w=>SN [] (DM true F (x.2.2.2.2.2.2.2.2.2.2)) w) ?_ ?_
 ·clear hI;rintro⟨a9,c22,a10,c23,a11,c24,a12,c25,b4,b5,c37⟩ w17 hI
  try dsimp only at hI ⊢
  unfold eA
  refine vA λc30 w10 hI=>?_
  refine V ?_
  refine T ?_
  obtain⟨c38,f5,hB,hl5,hk5⟩:=hI.hands (.r (.r (.l (.r (.r .n)))))
  refine dh h (λ_ hx5=>kD HS hx5) (jL hk5) (Rc Tryz.func254) ?_
  rintro⟨r6,s5⟩ hx5 h _ w20 ⟨a13,c39,c40,rfl,hB2⟩
  try dsimp only at h
  refine HN hk5 hB2 λc41 hI=>?_
  refine⟨_,rfl,?_⟩
  refine T ?_
  refine lA λc42 w21 hI=>?_
  refine nk (aO ?_)
  obtain⟨c43,hI⟩:=hI.release .p1
  have hI:=hI.add (c:=Cl.sl ai none 0 ([]:List bv)) SlC.nil
  have hI:=hI.add (c:=Cl.sl al none 0 ([]:List aM)) SlC.nil
  obtain rfl:=ak h
  refine QG ?_
  exact .inl ⟨_,rfl,none,0,none,0,some ⟨b4,0,none⟩,1,a13,c39,_,rfl,hI.arr GO SU⟩
 intro hk_tr_parser_reader_cast_w_1_6
 refine fU (α:=(Option Addr)×Nat×(Option Addr)×Nat×(Option Addr)×Nat×(Option Addr)×Nat×Nat×NP) (T:=eB) (λx=>[(0,vp b1 0),(2,vp b2 0),(15,(Value.agg #[vi 12,(str []),vi 0,vi 0,vi r3.Kind,vi r3.Bits,vi r3.Frac,vi r3.Round,vi r3.Over,vi 0,vs none 0 0,vs none 0 0,(vs (some ⟨(x.2.2.2.2.2.2.2.2.1),0,none⟩) ([r5]:List ae).length 1)]))]) (λx w=>Bun C0 F w0 (x.2.2.2.2.2.2.2.2.2) w [Q6 an 39 (some ⟨(x.2.2.2.2.2.2.2.2.1),0,none⟩) 1 ([r5]:List ae),MO.box b1 67 (ac s4 (x.2.2.2.2.2.2.1) (x.2.2.2.2.2.2.2.1)),MO.box b3 35 (fV r3),MO.box b2 39 mD] [Cl.sl ai (x.1) (x.2.1) r5.Lin.L,Cl.sl al (x.2.2.1) (x.2.2.2.1) r5.Idx,Cl.sl an (x.2.2.2.2.1) (x.2.2.2.2.2.1) r5.Args,Cl.sl ag (x.2.2.2.2.2.2.1) (x.2.2.2.2.2.2.2.1) s4.l,Cl.sl ag a8 c18 s3.l,Cl.sl ag a7 c12 s2.l,Cl.sl ag a6 c8 s1.l,Cl.sl ag a1 c1 r1.l,au]) (λx w=>SN [] (DM true F (x.2.2.2.2.2.2.2.2.2)) w) ?_ ?_
 ·clear hI;rintro⟨a9,c22,a10,c23,a11,c24,a12,c25,b4,c36⟩ w16 hI
  try dsimp only at hI ⊢
  unfold eB
  refine ji (cs:=mD) hI rfl gn rfl rfl fW rfl ?_
  intro b5 c29 w9 hI
  exact cn (hk_tr_parser_reader_cast_w_1_6 (a9,c22,a10,c23,a11,c24,a12,c25,b4,b5,c29) _ (hI.arr GO SU)) SB
 intro hk_tr_parser_reader_cast_w_1_5
 refine fU (α:=(Option Addr)×Nat×(Option Addr)×Nat×(Option Addr)×Nat×(Option Addr)×Nat×Nat×Nat×NP) (T:=eC) (λx=>[(0,vp b1 0),(2,vp b2 0),(3,vp b3 0),(4,(Value.pointer (some ⟨(x.2.2.2.2.2.2.2.2.2.1),0,none⟩))),(14,(vs (some ⟨(x.2.2.2.2.2.2.2.2.1),0,none⟩) ([r5]:List ae).length 1))]) (λx w=>Bun C0 F w0 (x.2.2.2.2.2.2.2.2.2.2) w [MO.box (x.2.2.2.2.2.2.2.2.2.1) 39 mD,Q6 an 39 (some ⟨(x.2.2.2.2.2.2.2.2.1),0,none⟩) 1 ([r5]:List ae),MO.box b1 67 (ac s4 (x.2.2.2.2.2.2.1) (x.2.2.2.2.2.2.2.1)),MO.box b3 35 (fV r3),MO.box b2 39 mD] [Cl.sl ai (x.1) (x.2.1) r5.Lin.L,Cl.sl al (x.2.2.1) (x.2.2.2.1) r5.Idx,Cl.sl an (x.2.2.2.2.1) (x.2.2.2.2.2.1) r5.Args,Cl.sl ag (x.2.2.2.2.2.2.1) (x.2.2.2.2.2.2.2.1) s4.l,Cl.sl ag a8 c18 s3.l,Cl.sl ag a7 c12 s2.l,Cl.sl ag a6 c8 s1.l,Cl.sl ag a1 c1 r1.l,au]) (λx w=>SN [] (DM true F (x.2.2.2.2.2.2.2.2.2.2)) w) ?_ ?_
 ·clear hI;rintro⟨a9,c22,a10,c23,a11,c24,a12,c25,b4,b5,c35⟩ w15 hI
  try dsimp only at hI ⊢
  unfold eC
  refine dz rfl gn rfl (am (l:=(bU r3)) rfl et qF rfl bN (Q5 (hI.blk .p3) rfl)) Q7 ?_
  refine iq rfl gn rfl (λw'=>(aK (vs:=[(0,vi 12),(3,(Value.agg (fV r3))),(6,vs (some ⟨b4,0,none⟩) ([r5]:List ae).length 1)]) (cs:=#[vi 12,(str []),vi 0,vi 0,vi r3.Kind,vi r3.Bits,vi r3.Frac,vi r3.Round,vi r3.Over,vi 0,vs none 0 0,vs none 0 0,vs (some ⟨b4,0,none⟩) ([r5]:List ae).length 1]) rfl ⟨rfl,ah,rfl,et,rfl,et,af⟩ (by kernel_rfl))) ?_
  exact cn (hk_tr_parser_reader_cast_w_1_6 (a9,c22,a10,c23,a11,c24,a12,c25,b4,b5,c35) _ (hI.arr GO SU)) SB
 intro hk_tr_parser_reader_cast_w_1_4
 refine fU (α:=(Option Addr)×Nat×(Option Addr)×Nat×(Option Addr)×Nat×(Option Addr)×Nat×Nat×NP) (T:=eD) (λx=>[(0,vp b1 0),(2,vp b2 0),(4,(Value.pointer (some ⟨(x.2.2.2.2.2.2.2.2.1),0,none⟩))),(11,(Value.agg (fV r3))),(13,(Value.agg (aA r5 (x.1) (x.2.1) (x.2.2.1) (x.2.2.2.1) (x.2.2.2.2.1) (x.2.2.2.2.2.1))))]) (λx w=>Bun C0 F w0 (x.2.2.2.2.2.2.2.2.2) w [MO.box (x.2.2.2.2.2.2.2.2.1) 39 mD,MO.box b1 67 (ac s4 (x.2.2.2.2.2.2.1) (x.2.2.2.2.2.2.2.1)),MO.box b3 35 (fV r3),MO.box b2 39 mD] [Cl.sl ai (x.1) (x.2.1) r5.Lin.L,Cl.sl al (x.2.2.1) (x.2.2.2.1) r5.Idx,Cl.sl an (x.2.2.2.2.1) (x.2.2.2.2.2.1) r5.Args,Cl.sl ag (x.2.2.2.2.2.2.1) (x.2.2.2.2.2.2.2.1) s4.l,Cl.sl ag a8 c18 s3.l,Cl.sl ag a7 c12 s2.l,Cl.sl ag a6 c8 s1.l,Cl.sl ag a1 c1 r1.l,au]) (λx w=>SN [] (DM true F (x.2.2.2.2.2.2.2.2.2)) w) ?_ ?_
 ·clear hI;rintro⟨a9,c22,a10,c23,a11,c24,a12,c25,b5,c34⟩ w14 hI
  try dsimp only at hI ⊢
  unfold eD
  refine vl hI an ([r5]:List ae) oW (.cs (kE ⟨a9,c22,a10,c23,a11,c24,rfl,hI.get .z,hI.get .p1,hI.get .p2⟩) .nl) λb4 c28 w8 hI=>?_
  refine iq rfl gn rfl (λw'=>(aK (vs:=[(0,vi 12),(3,(Value.agg (fV r3))),(6,vs (some ⟨b4,0,none⟩) ([r5]:List ae).length 1)]) (cs:=#[vi 12,(str []),vi 0,vi 0,vi r3.Kind,vi r3.Bits,vi r3.Frac,vi r3.Round,vi r3.Over,vi 0,vs none 0 0,vs none 0 0,vs (some ⟨b4,0,none⟩) ([r5]:List ae).length 1]) rfl ⟨rfl,ah,rfl,et,rfl,et,af⟩ (by kernel_rfl))) ?_
  exact cn (hk_tr_parser_reader_cast_w_1_6 (a9,c22,a10,c23,a11,c24,a12,c25,b4,b5,c28) _ (hI.arr GO SU)) SB
 intro hk_tr_parser_reader_cast_w_1_3
 refine fU (α:=(Option Addr)×Nat×(Option Addr)×Nat×(Option Addr)×Nat×(Option Addr)×Nat×Nat×NP) (T:=dp) (λx=>[(0,vp b1 0),(2,vp b2 0),(3,vp b3 0),(4,(Value.pointer (some ⟨(x.2.2.2.2.2.2.2.2.1),0,none⟩))),(13,(Value.agg (aA r5 (x.1) (x.2.1) (x.2.2.1) (x.2.2.2.1) (x.2.2.2.2.1) (x.2.2.2.2.2.1))))]) (λx w=>Bun C0 F w0 (x.2.2.2.2.2.2.2.2.2) w [MO.box (x.2.2.2.2.2.2.2.2.1) 39 mD,MO.box b1 67 (ac s4 (x.2.2.2.2.2.2.1) (x.2.2.2.2.2.2.2.1)),MO.box b3 35 (fV r3),MO.box b2 39 mD] [Cl.sl ai (x.1) (x.2.1) r5.Lin.L,Cl.sl al (x.2.2.1) (x.2.2.2.1) r5.Idx,Cl.sl an (x.2.2.2.2.1) (x.2.2.2.2.2.1) r5.Args,Cl.sl ag (x.2.2.2.2.2.2.1) (x.2.2.2.2.2.2.2.1) s4.l,Cl.sl ag a8 c18 s3.l,Cl.sl ag a7 c12 s2.l,Cl.sl ag a6 c8 s1.l,Cl.sl ag a1 c1 r1.l,au]) (λx w=>SN [] (DM true F (x.2.2.2.2.2.2.2.2.2)) w) ?_ ?_
 ·clear hI;rintro⟨a9,c22,a10,c23,a11,c24,a12,c25,b5,c33⟩ w13 hI
  try dsimp only at hI ⊢
  unfold dp
  refine gG ?_ ?_
  ·skip
   refine dz rfl gn rfl (am (l:=(bU r3)) rfl et qF rfl bN (Q5 (hI.blk .p2) rfl)) Q7 ?_
   exact cn (hk_tr_parser_reader_cast_w_1_3 (a9,c22,a10,c23,a11,c24,a12,c25,b5,c33) _ (hI.arr GO SU)) SB
  refine vl hI an ([r5]:List ae) oW (.cs (kE ⟨a9,c22,a10,c23,a11,c24,rfl,hI.get .z,hI.get .p1,hI.get .p2⟩) .nl) λb4 c28 w8 hI=>?_
  exact cn (hk_tr_parser_reader_cast_w_1_4 (a9,c22,a10,c23,a11,c24,a12,c25,b4,b5,c28) _ (hI.arr GO SU)) SB
 intro hk_tr_parser_reader_cast_w_1_2
 refine fU (α:=Nat×NP) (T:=bQ) (λx=>[(0,vp b1 0),(2,vp b2 0),(4,(Value.pointer (some ⟨(x.1),0,none⟩))),(11,(Value.agg (fV r3))),(12,vp b1 0)]) (λx w=>Bun C0 F w0 (x.2) w [MO.box (x.1) 39 mD,MO.box b1 67 (ac s3 a8 c18),MO.box b3 35 (fV r3),MO.box b2 39 mD] [Cl.sl ag a8 c18 s3.l,Cl.sl ag a7 c12 s2.l,Cl.sl ag a6 c8 s1.l,Cl.sl ag a1 c1 r1.l,au]) (λx w=>SN [2,6] (DM false F (x.2)) w) ?_ ?_
 ·clear hI;rintro⟨b5,c32⟩ w12 hI
  try dsimp only at hI ⊢
  unfold bQ
  refine gQ (F:=F) (C:=c32) rfl rfl ?_
  obtain⟨c21,f4,hB,hl4,hk4⟩:=hI.hands (.r (.l (.r (.r .n))))
  refine eN rfl gn rfl (ar (vs:=[vp b1 0]) rfl ru ⟨et,af⟩) (Calls.mono (hrec HS hx4) ?_)
  intro e_ w7 hq_;obtain⟨a9,c22,a10,c23,a11,c24,a12,c25,c26,rfl,hB2⟩:=cy hq_
  obtain⟨c27,hs4,hI⟩:=hk4 _ _ _ _ hB2
  dsimp only[ca,na]at hI
  refine⟨_,rfl,DM true F c27,hs4,?_⟩
  exact cn (hk_tr_parser_reader_cast_w_1_3 (a9,c22,a10,c23,a11,c24,a12,c25,b5,c27) _ (hI.arr GO SU)) SB
 intro hk_tr_parser_reader_cast_w_1_1
 refine fU (α:=(Option Addr)×Nat×(Option Addr)×Nat×(Option Addr)×Nat×(Option Addr)×Nat×NP) (T:=dr) (λx=>[(0,vp b1 0),(2,vp b2 0),(11,(Value.agg (fV r3))),(13,(Value.agg (aA r5 (x.1) (x.2.1) (x.2.2.1) (x.2.2.2.1) (x.2.2.2.2.1) (x.2.2.2.2.2.1))))]) (λx w=>Bun C0 F w0 (x.2.2.2.2.2.2.2.2) w [MO.box b1 67 (ac s4 (x.2.2.2.2.2.2.1) (x.2.2.2.2.2.2.2.1)),MO.box b3 35 (fV r3),MO.box b2 39 mD] [Cl.sl ai (x.1) (x.2.1) r5.Lin.L,Cl.sl al (x.2.2.1) (x.2.2.2.1) r5.Idx,Cl.sl an (x.2.2.2.2.1) (x.2.2.2.2.2.1) r5.Args,Cl.sl ag (x.2.2.2.2.2.2.1) (x.2.2.2.2.2.2.2.1) s4.l,Cl.sl ag a8 c18 s3.l,Cl.sl ag a7 c12 s2.l,Cl.sl ag a6 c8 s1.l,Cl.sl ag a1 c1 r1.l,au]) (λx w=>SN [] (DM true F (x.2.2.2.2.2.2.2.2)) w) ?_ ?_
 ·clear hI;rintro⟨a9,c22,a10,c23,a11,c24,a12,c25,c31⟩ w11 hI
  try dsimp only at hI ⊢
  unfold dr
  refine gG ?_ ?_
  ·skip
   refine vl hI an ([r5]:List ae) oW (.cs (kE ⟨a9,c22,a10,c23,a11,c24,rfl,hI.get .z,hI.get .p1,hI.get .p2⟩) .nl) λb4 c28 w8 hI=>?_
   refine iq rfl gn rfl (λw'=>(aK (vs:=[(0,vi 12),(3,(Value.agg (fV r3))),(6,vs (some ⟨b4,0,none⟩) ([r5]:List ae).length 1)]) (cs:=#[vi 12,(str []),vi 0,vi 0,vi r3.Kind,vi r3.Bits,vi r3.Frac,vi r3.Round,vi r3.Over,vi 0,vs none 0 0,vs none 0 0,vs (some ⟨b4,0,none⟩) ([r5]:List ae).length 1]) rfl ⟨rfl,ah,rfl,et,rfl,et,af⟩ (by kernel_rfl))) ?_
   exact cn (hk_tr_parser_reader_cast_w_1_5 (a9,c22,a10,c23,a11,c24,a12,c25,b4,c28) _ (hI.arr GO SU)) SB
  refine ji (cs:=mD) hI rfl gn rfl rfl fW rfl ?_
  intro b5 c29 w9 hI
  exact cn (hk_tr_parser_reader_cast_w_1_3 (a9,c22,a10,c23,a11,c24,a12,c25,b5,c29) _ (hI.arr GO SU)) SB
 intro hk_tr_parser_reader_cast_w_1_0
 refine V ?_
 refine wH ?_ ?_ ?_
 ·skip
  refine dz rfl gn rfl (am (l:=(bU r3)) rfl et qF rfl bN (Q5 (hI.blk .p1) rfl)) Q7 ?_
  refine gG ?_ ?_
  ·skip
   refine dC (F:=F) (C:=c20) rfl rfl ?_
   obtain⟨c21,f4,hB,hl4,hk4⟩:=hI.hands (.l (.r (.r .n)))
   refine eN rfl gn rfl (ar (vs:=[vp b1 0]) rfl ru ⟨et,af⟩) (Calls.mono (hrec HS hx4) ?_)
   intro e_ w7 hq_;obtain⟨a9,c22,a10,c23,a11,c24,a12,c25,c26,rfl,hB2⟩:=cy hq_
   obtain⟨c27,hs4,hI⟩:=hk4 _ _ _ _ hB2
   dsimp only[ca,na]at hI
   refine⟨_,rfl,DM true F c27,hs4,?_⟩
   exact cn (hk_tr_parser_reader_cast_w_1_0 (a9,c22,a10,c23,a11,c24,a12,c25,c27) _ (hI.arr GO SU)) SB
  refine ji (cs:=mD) hI rfl gn rfl rfl fW rfl ?_
  intro b5 c29 w9 hI
  exact cn (hk_tr_parser_reader_cast_w_1_1 (b5,c29) _ (hI.arr GO SU)) SB
 ·skip
  refine dC (F:=F) (C:=c20) rfl rfl ?_
  obtain⟨c21,f4,hB,hl4,hk4⟩:=hI.hands (.l (.r (.r .n)))
  refine eN rfl gn rfl (ar (vs:=[vp b1 0]) rfl ru ⟨et,af⟩) (Calls.mono (hrec HS hx4) ?_)
  intro e_ w7 hq_;obtain⟨a9,c22,a10,c23,a11,c24,a12,c25,c26,rfl,hB2⟩:=cy hq_
  obtain⟨c27,hs4,hI⟩:=hk4 _ _ _ _ hB2
  dsimp only[ca,na]at hI
  refine⟨_,rfl,DM true F c27,hs4,?_⟩
  refine wH ?_ ?_ ?_
  ·skip
   refine dz rfl gn rfl (am (l:=(bU r3)) rfl et qF rfl bN (Q5 (hI.blk .p1) rfl)) Q7 ?_
   exact cn (hk_tr_parser_reader_cast_w_1_0 (a9,c22,a10,c23,a11,c24,a12,c25,c27) _ (hI.arr GO SU)) SB
  ·skip
   refine vl hI an ([r5]:List ae) oW (.cs (kE ⟨a9,c22,a10,c23,a11,c24,rfl,hI.get .z,hI.get .p1,hI.get .p2⟩) .nl) λb4 c28 w8 hI=>?_
   refine gG ?_ ?_
   ·skip
    refine dz rfl gn rfl (am (l:=(bU r3)) rfl et qF rfl bN (Q5 (hI.blk .p2) rfl)) Q7 ?_
    refine iq rfl gn rfl (λw'=>(aK (vs:=[(0,vi 12),(3,(Value.agg (fV r3))),(6,vs (some ⟨b4,0,none⟩) ([r5]:List ae).length 1)]) (cs:=#[vi 12,(str []),vi 0,vi 0,vi r3.Kind,vi r3.Bits,vi r3.Frac,vi r3.Round,vi r3.Over,vi 0,vs none 0 0,vs none 0 0,vs (some ⟨b4,0,none⟩) ([r5]:List ae).length 1]) rfl ⟨rfl,ah,rfl,et,rfl,et,af⟩ (by kernel_rfl))) ?_
    exact cn (hk_tr_parser_reader_cast_w_1_5 (a9,c22,a10,c23,a11,c24,a12,c25,b4,c28) _ (hI.arr GO SU)) SB
   refine ji (cs:=mD) hI rfl gn rfl rfl fW rfl ?_
   intro b5 c29 w9 hI
   exact cn (hk_tr_parser_reader_cast_w_1_4 (a9,c22,a10,c23,a11,c24,a12,c25,b4,b5,c29) _ (hI.arr GO SU)) SB
  refine ji (cs:=mD) hI rfl gn rfl rfl fW rfl ?_
  intro b5 c29 w9 hI
  exact cn (hk_tr_parser_reader_cast_w_1_2 (a9,c22,a10,c23,a11,c24,a12,c25,b5,c29) _ (hI.arr GO SU)) SB
 refine ji (cs:=mD) hI rfl gn rfl rfl fW rfl ?_
 intro b5 c29 w9 hI
 refine gG ?_ ?_
 ·skip
  refine dz rfl gn rfl (am (l:=(bU r3)) rfl et qF rfl bN (Q5 (hI.blk .p2) rfl)) Q7 ?_
  exact cn (hk_tr_parser_reader_cast_w_1_1 (b5,c29) _ (hI.arr GO SU)) SB
 refine dC (F:=F) (C:=c29) rfl rfl ?_
 obtain⟨c21,f4,hB,hl4,hk4⟩:=hI.hands (.r (.l (.r (.r .n))))
 refine eN rfl gn rfl (ar (vs:=[vp b1 0]) rfl ru ⟨et,af⟩) (Calls.mono (hrec HS hx4) ?_)
 intro e_ w7 hq_;obtain⟨a9,c22,a10,c23,a11,c24,a12,c25,c26,rfl,hB2⟩:=cy hq_
 obtain⟨c27,hs4,hI⟩:=hk4 _ _ _ _ hB2
 dsimp only[ca,na]at hI
 refine⟨_,rfl,DM true F c27,hs4,?_⟩
 exact cn (hk_tr_parser_reader_cast_w_1_2 (a9,c22,a10,c23,a11,c24,a12,c25,b5,c27) _ (hI.arr GO SU)) SB
theorem nH {r1:aa} (hI:Bun C0 F w0 C0 w0 [MO.box b1 67 (ac r1 a1 c1)] [Cl.sl ag a1 c1 r1.l,au]) {r:bZ (List aC×aa)} (h:eT r1=some r):CP C0 F w0 175 #[vp b1 0] r λrx e w=>∃ a2 c2 a3 c3 C,e= .returned (vs a2 rx.1.length c2)∧Bun C0 F w0 C w [MO.box b1 67 (ac rx.2 a3 c3)] [Cl.sl dU a2 c2 rx.1,Cl.sl ag a3 c3 rx.2.l]:=by
 refine fa (l:=[vp b1 0]) Tryz.func175 rfl Tryz.ntmps175 rfl ?_
 rw[eT]at h
 refine T ?_
 refine aj (T ?_)
 obtain⟨c4,f1,hB,hl1,hk1⟩:=hI.hands (.l .n)
 obtain⟨⟨r2,s1⟩,hx1,h⟩:=ab h
 try dsimp only at h
 refine bf gn rfl (Rc Tryz.func68) (Calls.mono (aQ HS hx1) ?_)
 rintro _ w1 ⟨a4,c5,c6,rfl,hB2⟩
 refine HN hk1 hB2 λc7 hI=>?_
 refine⟨_,rfl,?_⟩
 refine TC (λhb h=>?_) λhb h=>?_
 ·refine T ?_
  refine aO ?_
  have hI:=hI.add (c:=Cl.sl dU none 0 ([]:List aC)) SlC.nil
  obtain rfl:=ak h
  refine QG ?_
  exact .inl ⟨_,rfl,none,0,a4,c5,_,rfl,hI.arr GO SU⟩
 refine T ?_
 obtain⟨c8,f2,hB,hl2,hk2⟩:=hI.hands (.l .n)
 refine dh h (λ_ hx2=>d7 HS hx2) (jL hk2) (Rc Tryz.func31) ?_
 rintro⟨r3,s2⟩ hx2 h _ w2 ⟨a5,c9,a6,c10,c11,rfl,hB2⟩
 try dsimp only at h
 refine HN hk2 hB2 λc12 hI=>?_
 refine⟨_,rfl,?_⟩
 refine ll hI dU ([r3]:List aC) Ct (.cs ⟨a5,c9,rfl,hI.get .z⟩ .nl) λb2 c13 w3 hI=>?_
 refine T ?_
 refine aj (T ?_)
 refine bk (α:=Nat×(List aC)×aa×(Option Addr)×Nat×(Option Addr)×Nat) (λx=>λw=>∃ C,Bun C0 F w0 C w [Q6 dU 27 (x.2.2.2.1) (x.2.2.2.2.1) (x.2.1),MO.box b1 67 (ac (x.2.2.1) (x.2.2.2.2.2.1) (x.2.2.2.2.2.2))] [Cl.sl ag (x.2.2.2.2.2.1) (x.2.2.2.2.2.2) (x.2.2.1).l,au]∧bW (x.1) (x.2.1) (x.2.2.1)=some r) (λx _=>x.1) (λx=>[(0,vp b1 0),(3,vs (x.2.2.2.1) (x.2.1).length (x.2.2.2.2.1))]) (fu,([r3]:List aC),s2,some ⟨b2,0,none⟩,1,a6,c10) BH SB ?_
 clear h hI;rintro⟨fuel1,lv,r4,a7,c14,a8,c15⟩ w4 ⟨c16,hI,h⟩
 dsimp only at hI h ⊢
 rcases fuel1 with _ | fuel1
 ·rw[bW]at h;cases h
 rw[bW]at h
 refine aj (T ?_)
 obtain⟨c17,f3,hB,hl3,hk3⟩:=hI.hands (.r (.l .n))
 obtain⟨⟨r5,s3⟩,hx3,h⟩:=ab h
 try dsimp only at h
 refine bf gn rfl (Rc Tryz.func68) (Calls.mono (aQ HS hx3) ?_)
 rintro _ w5 ⟨a9,c18,c19,rfl,hB2⟩
 refine HN hk3 hB2 λc20 hI=>?_
 refine⟨_,rfl,?_⟩
 refine TC (λhb h=>?_) λhb h=>?_
 ·have hk4:=hb
  refine T ?_
  obtain⟨c21,f4,hB,hl4,hk5⟩:=hI.hands (.l (.r .n))
  refine dh h (λ_ hx4=>d7 HS hx4) (jL hk5) (Rc Tryz.func31) ?_
  rintro⟨r6,s4⟩ hx4 h _ w6 ⟨a10,c22,a11,c23,c24,rfl,hB2⟩
  try dsimp only at h
  refine HN hk5 hB2 λc25 hI=>?_
  refine⟨_,rfl,?_⟩
  refine ll hI dU ([r6]:List aC) Ct (.cs ⟨a10,c22,rfl,hI.get .z⟩ .nl) λb3 c26 w7 hI=>?_
  obtain⟨zs1,hx5,h⟩:=ab h
  refine qn (xs:=lv) (ys:=([r6]:List aC)) hI .p2 (hI.rd .z) hx5 gn rfl rfl E5 Ct rfl rfl et et ?_
  intro a12 c27 c28 w8 hI
  refine sa ?_
  refine aG ?_
  exact kl (fuel1,zs1,s4,a12,c27,a11,c23)
 refine bl ?_
 refine eZ ?_
 refine aS ?_
 refine T ?_
 obtain⟨c29,f5,hB,hl5,hk6⟩:=hI.hands (.l (.r .n))
 refine dh h (λ_ hx6=>ap HS hx6) (jL hk6) (Rc Tryz.func104) ?_
 rintro⟨r7,s5⟩ hx6 h _ w9 ⟨a13,c30,c31,rfl,hB2⟩
 try dsimp only at h
 refine HN hk6 hB2 λc32 hI=>?_
 refine⟨_,rfl,?_⟩
 refine T ?_
 refine aO ?_
 obtain⟨c33,hI⟩:=hI.release .p1
 obtain rfl:=ak h
 refine QG ?_
 exact .inl ⟨_,rfl,a7,c14,a13,c30,_,rfl,hI.arr GO SU⟩
theorem gl {r1:aa} (hI:Bun C0 F w0 C0 w0 [MO.box b1 67 (ac r1 a1 c1)] [Cl.sl ag a1 c1 r1.l,au]) {r:bZ (aM×aa)} (h:dL r1=some r):CP C0 F w0 258 #[vp b1 0] r λrx e w=>∃ a2 c2 a3 c3 a4 c4 C,e= .returned (Value.agg (oN rx.1 a2 c2 a3 c3))∧Bun C0 F w0 C w [MO.box b1 67 (ac rx.2 a4 c4)] [Cl.sl ai a2 c2 rx.1.Lin.L,Cl.sl dU a3 c3 rx.1.At,Cl.sl ag a4 c4 rx.2.l]:=by
 refine fa (l:=[vp b1 0]) Tryz.func258 rfl Tryz.ntmps258 rfl ?_
 rw[dL]at h
 refine sr (cY (cs:=#[vi 0,vs none 0 0,(str []),vs none 0 0]) hI gn rfl rfl Iu rfl ?_)
 intro b2 c5 w1 hI
 refine nk (aj (aL [] false (.c (0,.q) (.c (1,.s) (.c (2,.q) (.c (3,.q) (.c (4,.q) (.c (5,.q) (.c (6,.q) (.c (7,.q) (.c (8,.q) (.c (9,.q) (.c (10,.q) (.c (11,.q) (.c (12,.q) (.c (13,.q) (.c (14,.q) (.c (15,.q) (.c (16,.q) (.c (17,.q) (.c (18,.q) (.c (19,.q) (.c (20,.q) (.c (21,.q) (.c (22,.q) (.c (23,.q) (.c (24,.q) (.c (25,.q) (.c (26,.q) (.c (27,.q) (.c (28,.q) (.c (29,.q) (.c (30,.q) (.c (31,.q) (.c (32,.q) (.c (33,.q) (.c (34,.q) (.c (35,.q) (.c (36,.q) (.c (37,.q) (.c (38,.q) (.c (39,.q) (.c (40,.q) (.c (41,.q) (.c (42,.q) (.c (43,.q) (.c (44,.q) (.c (45,.q) .n)))))))))))))))))))))))))))))))))))))))))))))) hI (by kernel_rfl) (by kernel_rfl) ?_))
 intro w2 hI
 refine V ?_
 obtain⟨r2,hx1,h⟩:=ab h
 refine bF rfl gn rfl (ar (vs:=[vp b1 0]) rfl Ox ⟨et,af⟩) (Calls.mono (kT NE ⟨(hI.get0 .z),hI.lendBox .p1,hI.get0 .p1,af⟩ hx1) ?_)
 rintro _ w3 ⟨rfl,hx2,hl1⟩
 refine⟨_,rfl,hx2,?_⟩
 replace hI:=(hI.ext hx2)
 refine V ?_
 obtain⟨e1,hx3,h⟩:=ab h
 replace hx3:=ax hx3
 obtain⟨ad1,cs1,hq1⟩:=hI.gclat .z hx3
 have hq2:(r2&&(decide (av (r1.at_+1)<(r1.l.length:Int))))=true→CA (Dj F c5) w3 (ad1.add (Int.toNat (av (r1.at_+1)) * 3)) (oJ e1):=λhc=>vF (hq1 hc).2.1 (hq1 hc).2.2
 refine vJ ?_
 refine V ?_
 obtain⟨e2,hx4,h⟩:=ab h
 replace hx4:=ax hx4
 obtain⟨ad2,cs2,hq3⟩:=hI.gclat .z hx4
 have hq4:((r2&&(decide (av (r1.at_+1)<(r1.l.length:Int))))&&(decide (e1.Kind=3)))=true→CA (Dj F c5) w3 (ad2.add (Int.toNat (av (r1.at_+1)) * 3)) (oJ e2):=λhc=>vF (hq3 hc).2.1 (hq3 hc).2.2
 refine vJ ?_
 refine V ?_
 refine aj (T ?_)
 refine TC (λhb h=>?_) λhb h=>?_
 ·refine T ?_
  obtain⟨c6,f1,hB,hl2,hk1⟩:=hI.hands (.r (.l .n))
  refine dh h (λ_ hx5=>d7 HS hx5) (jL hk1) (Rc Tryz.func31) ?_
  rintro⟨r3,s1⟩ hx5 h _ w4 ⟨a5,c7,a6,c8,c9,rfl,hB2⟩
  try dsimp only at h
  refine HN hk1 hB2 λc10 hI=>?_
  refine⟨_,rfl,?_⟩
  refine sq (aK (vs:=[(0,(Value.agg (eP r3 a5 c7)))]) (cs:=#[vi r3.K,vs a5 r3.L.length c7,(str []),vs none 0 0]) rfl ⟨rfl,et,af⟩ (by kernel_rfl)) ?_
  refine lA λc11 w5 hI=>?_
  refine nk (aO ?_)
  have hI:=hI.add (c:=Cl.sl dU none 0 ([]:List aC)) SlC.nil
  obtain rfl:=ak h
  refine QG ?_
  exact .inl ⟨_,rfl,a5,c7,none,0,a6,c8,_,rfl,hI.arr GO SU⟩
 refine T ?_
 obtain⟨c12,f2,hB,hl3,hk2⟩:=hI.hands (.r (.l .n))
 refine dh h (λ_ hx6=>bT HS hx6) (jL hk2) (Rc Tryz.func128) ?_
 rintro⟨r4,s2⟩ hx6 h _ w6 ⟨a7,c13,c14,rfl,hB2⟩
 try dsimp only at h
 refine HN hk2 hB2 λc15 hI=>?_
 refine⟨_,rfl,?_⟩
 refine sq (aK (vs:=[(1,(str r4))]) (cs:=#[vi 0,vs none 0 0,(str r4),vs none 0 0]) rfl ⟨rfl,et,af⟩ (by kernel_rfl)) ?_
 refine lN λb3 c16 w7 hI=>?_
 refine lA λc17 w8 hI=>?_
 refine T ?_
 obtain⟨c18,f3,hB,hl4,hk3⟩:=hI.hands (.r (.l (.r .n)))
 refine dh h (λ_ hx7=>ap HS hx7) (jL hk3) (Rc Tryz.func104) ?_
 rintro⟨r5,s3⟩ hx7 h _ w9 ⟨a8,c19,c20,rfl,hB2⟩
 try dsimp only at h
 refine HN hk3 hB2 λc21 hI=>?_
 refine⟨_,rfl,?_⟩
 refine T ?_
 obtain⟨c22,f4,hB,hl5,hk4⟩:=hI.hands (.l (.r (.r .n)))
 refine dh h (λ_ hx8=>nH HS hx8) (jL hk4) (Rc Tryz.func175) ?_
 rintro⟨r6,s4⟩ hx8 h _ w10 ⟨a9,c23,a10,c24,c25,rfl,hB2⟩
 try dsimp only at h
 refine HN hk4 hB2 λc26 hI=>?_
 refine⟨_,rfl,?_⟩
 refine T ?_
 refine lS λc27 w11 hI=>?_
 refine T ?_
 refine lA λc28 w12 hI=>?_
 refine nk (aO ?_)
 have hI:=hI.add (c:=Cl.sl ai none 0 ([]:List bv)) SlC.nil
 obtain rfl:=ak h
 refine QG ?_
 exact .inl ⟨_,rfl,none,0,a9,c23,a10,c24,_,rfl,hI.arr GO SU⟩
end Go.Proofs.YtmhoikfoogemnaaGreatDoor
