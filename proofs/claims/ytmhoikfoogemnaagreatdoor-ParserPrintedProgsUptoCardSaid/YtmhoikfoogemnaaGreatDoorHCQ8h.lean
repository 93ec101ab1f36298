import Derived.Test.YtmhoikfoogemnaaGreatDoorHCQ8g
import Derived.Test.YtmhoikfoogemnaaGreatDoorHLfH
namespace Go.Proofs.YtmhoikfoogemnaaGreatDoor
open Go Go.RowKit Go.Vc
set_option maxRecDepth 100000
set_option maxHeartbeats 4000000
set_option linter.unusedVariables false
set_option linter.unusedSimpArgs false
variable {σ:Type} {C0 F:NP} {w0:World} {a1 a2 a3 a4 a5 a6 a7 a8 a9 a10 a11 a12:Option Addr} {b1 b2 b3 b4 b5 b6 b7 b8 b9 b10 b11 b12 c1 c2 c3 c4 c5 c6 c7 c8 c9 c10 c11 c12:Nat}
theorem xN (hF:dF F w0) {a1 b1:List aC} (hc:AllCl [Cl.sl dU a2 c1 a1,Cl.sl dU a3 c2 b1] F w0) {r:Bool} (h:kG a1 b1=some r):CR F w0 54 #[vs a2 a1.length c1,vs a3 b1.length c2] (vb r) []:=by
 refine EN Tryz.func54 Tryz.ntmps54 hF hc λhI=>?_
 rw[kG]at h
 refine T ?_
 refine aj (T ?_)
 refine TR λhb h=>?_
 refine T ?_
 refine aj (T ?_)
 refine bk (α:=Nat×Int) (λx=>λw=>∃ C,Bun cH F w0 C w [] [Cl.sl dU a2 c1 a1,Cl.sl dU a3 c2 b1]∧fR a1 b1 (x.1) (x.2)=some r) (λx _=>x.1) (λx=>[(0,vs a2 a1.length c1),(1,vs a3 b1.length c2),(5,vi (x.2))]) (fu,0) BH SB ?_
 clear h hI;rintro⟨fuel1,i1⟩ w1 ⟨c3,hI,h⟩
 dsimp only at hI h ⊢
 rcases fuel1 with _ | fuel1
 ·rw[fR]at h;cases h
 rw[fR]at h
 refine aj (T ?_)
 refine TC (λhb h=>?_) λhb h=>?_
 ·refine T ?_
  refine aj (T ?_)
  refine aj (aL [] false (.c (0,.q) (.c (1,.q) (.c (2,.q) (.c (3,.q) (.c (4,.q) (.c (5,.q) (.c (6,.q) (.c (7,.q) (.c (8,.s) (.c (9,.q) .n)))))))))) hI (by kernel_rfl) (by kernel_rfl) ?_)
  intro w2 hI
  refine V ?_
  obtain⟨e1,hx1,h⟩:=ab h
  obtain⟨ad1,cs1,hA1,hr1,hq1⟩:=hI.clat .z hx1
  obtain⟨a4,c4,rfl,hf1⟩:=hr1
  have hI:=hI.ads hf1
  refine vI ?_
  refine dl rfl gn rfl (λw' hw'=>(am (l:=(fS e1 a4 c4)) rfl et pr rfl bc (hq1.at_ (SX.any rfl hw')))) (by kernel_rfl) ?_
  refine V ?_
  obtain⟨e2,hx2,h⟩:=ab h
  obtain⟨ad2,cs2,hA2,hr2,hq2⟩:=hI.clat .p2 hx2
  obtain⟨a5,c5,rfl,hf2⟩:=hr2
  have hI:=hI.ads hf2
  refine vI ?_
  refine dl rfl gn rfl (λw' hw'=>(am (l:=(fS e2 a5 c5)) rfl et pr rfl bc (hq2.at_ (SX.any rfl hw')))) (by kernel_rfl) ?_
  obtain⟨r1,hx3,h⟩:=ab h
  refine bF rfl gn rfl (ar (vs:=[(Value.agg (eP e1 a4 c4)),(Value.agg (eP e2 a5 c5))]) rfl Jx ⟨et,et,af⟩) (Calls.mono (oM hI.lt FS hx3) ?_)
  rintro _ w3 ⟨rfl,hx4,hl1⟩
  refine⟨_,rfl,hx4,?_⟩
  replace hI:=(hI.ext hx4)
  refine V ?_
  refine TR λhb h=>?_
  refine T ?_
  refine aG ?_
  exact kl (fuel1,av (i1+1))
 refine bl ?_
 refine eZ ?_
 refine aS ?_
 exact RF
theorem Di (hF:dF F w0) {a1 b1:aM} (hc:AllCl [Cl.sl ai a2 c1 a1.Lin.L,Cl.sl dU a3 c2 a1.At,Cl.sl ai a4 c3 b1.Lin.L,Cl.sl dU a5 c4 b1.At] F w0) {r:Bool} (h:ol a1 b1=some r):CR F w0 82 #[(Value.agg (oN a1 a2 c1 a3 c2)),(Value.agg (oN b1 a4 c3 a5 c4))] (vb r) []:=by
 refine EN Tryz.func82 Tryz.ntmps82 hF hc λhI=>?_
 rw[ol]at h
 refine sr (lX λb2 c6 w1 hI=>?_)
 refine lX λb3 c8 w2 hI=>?_
 refine T ?_
 refine aw (bg rfl rfl rfl rfl) rfl (λhc=>(am (l:=(fS a1.Lin a2 c1)) rfl (aI et hc) pr rfl bc (hI.kblk (l:=(fS a1.Lin a2 c1)) .p1 rfl).1)) ?_
 refine T ?_
 refine aw (bg rfl rfl rfl rfl) rfl (λhc=>(am (l:=(fS b1.Lin a4 c3)) rfl (aI et hc) pr rfl bc (hI.kblk (l:=(fS b1.Lin a4 c3)) .z rfl).1)) ?_
 obtain⟨r1,hx1,h⟩:=ab h
 replace hx1:=ax hx1
 refine sU (λhc=>oM hI.lt FS (hx1 hc)) (Rg Tryz.func14) λw3 hI=>?_
 refine T ?_
 obtain⟨r2,hx3,h⟩:=ab h
 replace hx3:=ax hx3
 refine sU (λhc=>xN hI.lt FS (hx3 hc)) (Rg Tryz.func54) λw4 hI=>?_
 exact RF
theorem zW (hF:dF F w0) {a1 b1:List aM} (hc:AllCl [Cl.sl al a2 c1 a1,Cl.sl al a3 c2 b1] F w0) {r:Bool} (h:mf a1 b1=some r):CR F w0 37 #[vs a2 a1.length c1,vs a3 b1.length c2] (vb r) []:=by
 refine EN Tryz.func37 Tryz.ntmps37 hF hc λhI=>?_
 rw[mf]at h
 refine T ?_
 refine aj (T ?_)
 refine TR λhb h=>?_
 refine T ?_
 refine aj (T ?_)
 refine bk (α:=Nat×Int) (λx=>λw=>∃ C,Bun cH F w0 C w [] [Cl.sl al a2 c1 a1,Cl.sl al a3 c2 b1]∧fF a1 b1 (x.1) (x.2)=some r) (λx _=>x.1) (λx=>[(0,vs a2 a1.length c1),(1,vs a3 b1.length c2),(5,vi (x.2))]) (fu,0) BH SB ?_
 clear h hI;rintro⟨fuel1,i1⟩ w1 ⟨c3,hI,h⟩
 dsimp only at hI h ⊢
 rcases fuel1 with _ | fuel1
 ·rw[fF]at h;cases h
 rw[fF]at h
 refine aj (T ?_)
 refine TC (λhb h=>?_) λhb h=>?_
 ·refine T ?_
  refine aj (T ?_)
  refine aj (aL [] false (.c (0,.q) (.c (1,.q) (.c (2,.q) (.c (3,.q) (.c (4,.q) (.c (5,.q) (.c (6,.q) (.c (7,.q) (.c (8,.s) (.c (9,.q) .n)))))))))) hI (by kernel_rfl) (by kernel_rfl) ?_)
  intro w2 hI
  refine V ?_
  obtain⟨e1,hx1,h⟩:=ab h
  obtain⟨ad1,cs1,hA1,hr1,hq1⟩:=hI.clat .z hx1
  obtain⟨a4,c4,a5,c5,rfl,hf1,hf2⟩:=hr1
  have hI:=hI.ads hf1
  have hI:=hI.ads hf2
  refine vI ?_
  refine dl rfl gn rfl (λw' hw'=>(am (l:=(tJ e1 a4 c4 a5 c5)) rfl et o0 rfl lL (hq1.at_ (SX.any rfl hw')))) (by kernel_rfl) ?_
  refine V ?_
  obtain⟨e2,hx2,h⟩:=ab h
  obtain⟨ad2,cs2,hA2,hr2,hq2⟩:=hI.clat .p3 hx2
  obtain⟨a6,c6,a7,c7,rfl,hf3,hf4⟩:=hr2
  have hI:=hI.ads hf3
  have hI:=hI.ads hf4
  refine vI ?_
  refine dl rfl gn rfl (λw' hw'=>(am (l:=(tJ e2 a6 c6 a7 c7)) rfl et o0 rfl lL (hq2.at_ (SX.any rfl hw')))) (by kernel_rfl) ?_
  obtain⟨r1,hx3,h⟩:=ab h
  refine bF rfl gn rfl (ar (vs:=[(Value.agg (oN e1 a4 c4 a5 c5)),(Value.agg (oN e2 a6 c6 a7 c7))]) rfl Qa ⟨et,et,af⟩) (Calls.mono (Di hI.lt FS hx3) ?_)
  rintro _ w3 ⟨rfl,hx4,hl1⟩
  refine⟨_,rfl,hx4,?_⟩
  replace hI:=(hI.ext hx4)
  refine V ?_
  refine TR λhb h=>?_
  refine T ?_
  refine aG ?_
  exact kl (fuel1,av (i1+1))
 refine bl ?_
 refine eZ ?_
 refine aS ?_
 exact RF
abbrev Mg (f_:(ae→ae→Option Bool)):Prop:=∀ ⦃F:NP⦄ ⦃w0:World⦄ (hF:dF F w0) ⦃a1 b1:ae⦄ ⦃a2 a3 a4 a5 a6 a7:Option Addr⦄ ⦃c1 c2 c3 c4 c5 c6:Nat⦄ (hc:AllCl [Cl.sl ai a2 c1 a1.Lin.L,Cl.sl al a3 c2 a1.Idx,Cl.sl an a4 c3 a1.Args,Cl.sl ai a5 c4 b1.Lin.L,Cl.sl al a6 c5 b1.Idx,Cl.sl an a7 c6 b1.Args] F w0) ⦃r:Bool⦄ (h:f_ a1 b1=some r),CR F w0 17 #[(Value.agg (aA a1 a2 c1 a3 c2 a4 c3)),(Value.agg (aA b1 a5 c4 a6 c5 a7 c6))] (vb r) []
theorem Dk {rec_:(ae→ae→Option Bool)} (hrec:Mg rec_) (hF:dF F w0) {a1 b1:List ae} (hc:AllCl [Cl.sl an a2 c1 a1,Cl.sl an a3 c2 b1] F w0) {r:Bool} (h:om rec_ a1 b1=some r):CR F w0 38 #[vs a2 a1.length c1,vs a3 b1.length c2] (vb r) []:=by
 refine EN Tryz.func38 Tryz.ntmps38 hF hc λhI=>?_
 rw[om]at h
 refine T ?_
 refine aj (T ?_)
 refine TR λhb h=>?_
 refine T ?_
 refine aj (T ?_)
 refine bk (α:=Nat×Int) (λx=>λw=>∃ C,Bun cH F w0 C w [] [Cl.sl an a2 c1 a1,Cl.sl an a3 c2 b1]∧gO a1 b1 rec_ (x.1) (x.2)=some r) (λx _=>x.1) (λx=>[(0,vs a2 a1.length c1),(1,vs a3 b1.length c2),(5,vi (x.2))]) (fu,0) BH SB ?_
 clear h hI;rintro⟨fuel1,i1⟩ w1 ⟨c3,hI,h⟩
 dsimp only at hI h ⊢
 rcases fuel1 with _ | fuel1
 ·rw[gO]at h;cases h
 rw[gO]at h
 refine aj (T ?_)
 refine TC (λhb h=>?_) λhb h=>?_
 ·refine T ?_
  refine aj (T ?_)
  refine aj (aL [] false (.c (0,.q) (.c (1,.q) (.c (2,.q) (.c (3,.q) (.c (4,.q) (.c (5,.q) (.c (6,.q) (.c (7,.q) (.c (8,.s) (.c (9,.q) .n)))))))))) hI (by kernel_rfl) (by kernel_rfl) ?_)
  intro w2 hI
  refine V ?_
  obtain⟨e1,hx1,h⟩:=ab h
  obtain⟨ad1,cs1,hA1,hr1,hq1⟩:=hI.clat .z hx1
  obtain⟨a4,c4,a5,c5,a6,c6,rfl,hf1,hf2,hf3⟩:=ci hr1
  have hI:=hI.ads hf1
  have hI:=hI.ads hf2
  have hI:=hI.ads hf3
  refine vI ?_
  refine dl rfl gn rfl (λw' hw'=>(am (l:=(ba e1 a4 c4 a5 c5 a6 c6)) rfl et jZ rfl aJ (hq1.at_ (SX.any rfl hw')))) (by kernel_rfl) ?_
  refine V ?_
  obtain⟨e2,hx2,h⟩:=ab h
  obtain⟨ad2,cs2,hA2,hr2,hq2⟩:=hI.clat .p4 hx2
  obtain⟨a7,c7,a8,c8,a9,c9,rfl,hf4,hf5,hf6⟩:=ci hr2
  have hI:=hI.ads hf4
  have hI:=hI.ads hf5
  have hI:=hI.ads hf6
  refine vI ?_
  refine dl rfl gn rfl (λw' hw'=>(am (l:=(ba e2 a7 c7 a8 c8 a9 c9)) rfl et jZ rfl aJ (hq2.at_ (SX.any rfl hw')))) (by kernel_rfl) ?_
  obtain⟨r1,hx3,h⟩:=ab h
  refine bF rfl gn rfl (ar (vs:=[(Value.agg (aA e1 a4 c4 a5 c5 a6 c6)),(Value.agg (aA e2 a7 c7 a8 c8 a9 c9))]) rfl Qh ⟨et,et,af⟩) (Calls.mono (hrec hI.lt FS hx3) ?_)
  rintro _ w3 ⟨rfl,hx4,hl1⟩
  refine⟨_,rfl,hx4,?_⟩
  replace hI:=(hI.ext hx4)
  refine V ?_
  refine TR λhb h=>?_
  refine T ?_
  refine aG ?_
  exact kl (fuel1,av (i1+1))
 refine bl ?_
 refine eZ ?_
 refine aS ?_
 exact RF
theorem AM {rec_:(ae→ae→Option Bool)} (hrec:Mg rec_) (hF:dF F w0) {a1 b1:ae} (hc:AllCl [Cl.sl ai a2 c1 a1.Lin.L,Cl.sl al a3 c2 a1.Idx,Cl.sl an a4 c3 a1.Args,Cl.sl ai a5 c4 b1.Lin.L,Cl.sl al a6 c5 b1.Idx,Cl.sl an a7 c6 b1.Args] F w0) {r:Bool} (h:m6 rec_ a1 b1=some r):CR F w0 17 #[(Value.agg (aA a1 a2 c1 a3 c2 a4 c3)),(Value.agg (aA b1 a5 c4 a6 c5 a7 c6))] (vb r) []:=by
 refine EN Tryz.func17 Tryz.ntmps17 hF hc λhI=>?_
 rw[m6]at h
 refine sr (lX λb2 c8 w1 hI=>?_)
 refine lX λb3 c10 w2 hI=>?_
 refine T ?_
 refine aw (bg rfl rfl rfl rfl) rfl (λhc=>(am (l:=(oA a1.Val)) rfl (aI et hc) Gy rfl kM (hI.kblk (l:=(oA a1.Val)) .p1 rfl).1)) ?_
 refine T ?_
 refine aw (bg rfl rfl rfl rfl) rfl (λhc=>(am (l:=(oA b1.Val)) rfl (aI et hc) Gy rfl kM (hI.kblk (l:=(oA b1.Val)) .z rfl).1)) ?_
 refine aw (bg rfl rfl rfl rfl) rfl (λhc=>iT rfl (aI et hc) (aI et hc) (Eu ..) (vr ..)) ?_
 refine T ?_
 refine aw (bg rfl rfl rfl rfl) rfl (λhc=>(am (l:=(bU a1.Type_)) rfl (aI et hc) qF rfl bN (hI.kblk (l:=(bU a1.Type_)) .p1 rfl).1)) ?_
 refine T ?_
 refine aw (bg rfl rfl rfl rfl) rfl (λhc=>(am (l:=(bU b1.Type_)) rfl (aI et hc) qF rfl bN (hI.kblk (l:=(bU b1.Type_)) .z rfl).1)) ?_
 refine aw (bg rfl rfl rfl rfl) rfl (λhc=>iT rfl (aI et hc) (aI et hc) (tN ..) (oK ..)) ?_
 refine T ?_
 refine aw (bg rfl rfl rfl rfl) rfl (λhc=>(am (l:=(fS a1.Lin a2 c1)) rfl (aI et hc) pr rfl bc (hI.kblk (l:=(fS a1.Lin a2 c1)) .p1 rfl).1)) ?_
 refine T ?_
 refine aw (bg rfl rfl rfl rfl) rfl (λhc=>(am (l:=(fS b1.Lin a5 c4)) rfl (aI et hc) pr rfl bc (hI.kblk (l:=(fS b1.Lin a5 c4)) .z rfl).1)) ?_
 obtain⟨r1,hx1,h⟩:=ab h
 replace hx1:=ax hx1
 refine sU (λhc=>oM hI.lt FS (hx1 hc)) (Rg Tryz.func14) λw3 hI=>?_
 refine T ?_
 obtain⟨r2,hx3,h⟩:=ab h
 replace hx3:=ax hx3
 refine sU (λhc=>zW hI.lt FS (hx3 hc)) (Rg Tryz.func37) λw4 hI=>?_
 refine T ?_
 obtain⟨r3,hx5,h⟩:=ab h
 replace hx5:=ax hx5
 refine sU (λhc=>Dk hrec hI.lt FS (hx5 hc)) (Rg Tryz.func38) λw5 hI=>?_
 exact RF
theorem AL (n:Nat):Mg (jX n):=by
 induction n with
 | zero=>intro F;intros;rename_i h;cases h
 | succ n ih=>intro F;intros;apply AM ih<;>assumption
theorem ET:Mg (qT):=AL fu
abbrev Pj (f_:(ae→Int→Option Int)):Prop:=∀ ⦃F:NP⦄ ⦃w0:World⦄ (hF:dF F w0) ⦃e1:ae⦄ ⦃most1:Int⦄ ⦃a1 a2 a3:Option Addr⦄ ⦃c1 c2 c3:Nat⦄ (hc:AllCl [Cl.sl ai a1 c1 e1.Lin.L,Cl.sl al a2 c2 e1.Idx,Cl.sl an a3 c3 e1.Args] F w0) ⦃r:Int⦄ (h:f_ e1 most1=some r),CR F w0 43 #[(Value.agg (aA e1 a1 c1 a2 c2 a3 c3)),vi most1] (vi r) []
theorem zU {rec_:(ae→Int→Option Int)} (hrec:Pj rec_) (hF:dF F w0) {e1:ae} {most1:Int} (hc:AllCl [Cl.sl ai a1 c1 e1.Lin.L,Cl.sl al a2 c2 e1.Idx,Cl.sl an a3 c3 e1.Args] F w0) {r:Int} (h:me rec_ e1 most1=some r):CR F w0 43 #[(Value.agg (aA e1 a1 c1 a2 c2 a3 c3)),vi most1] (vi r) []:=by
 refine EN Tryz.func43 Tryz.ntmps43 hF hc λhI=>?_
 rw[me]at h
 refine sr (lX λb1 c5 w1 hI=>?_)
 refine xp ?_
 refine nk (sr (sq (aq rfl et jZ rfl bc rfl) ?_))
 refine sq (aq rfl et pr rfl ul rfl) ?_
 refine sq (aF (v:=(vs a1 e1.Lin.L.length c1)) rfl et BL rfl (hI.kblk (l:=[vs a1 e1.Lin.L.length c1]) .z rfl).1) ?_
 refine sq (jM rfl BL et) ?_
 refine sq (nB rfl ah et) ?_
 refine sq (aq rfl et jZ rfl nK rfl) ?_
 refine sq (aF (v:=(vs a2 e1.Idx.length c2)) rfl et xm rfl (hI.kblk (l:=[vs a2 e1.Idx.length c2]) .z rfl).1) ?_
 refine sq (jM rfl xm et) ?_
 refine sq (nB rfl et et) ?_
 obtain⟨n1,hx1,h⟩:=ab h
 refine sq (vz (cx rfl et) (congrArg (Value.int .i64) (ak hx1))) ?_
 refine nk (bO (α:=Int) (λ_=>⟨101,[]⟩) (λx=>[(1,vi most1),(2,vp b1 0),(5,vi x)]) (λx=>λw=>∃ C,Bun cH F w0 C w [] [Cl.blk b1 39 (aA e1 a1 c1 a2 c2 a3 c3),Cl.sl ai a1 c1 e1.Lin.L,Cl.sl al a2 c2 e1.Idx,Cl.sl an a3 c3 e1.Args]∧jx e1 most1 rec_ x=some r) ?_ ?_)
 ·clear h hI;rintro n2 w2 ⟨c6,hI,h⟩
  try dsimp only at hI h ⊢
  rw[jx]at h
  refine aj (sr (xp ?_))
  refine nk (mB (bk (α:=Nat×Int×Int) (λx=>λw=>∃ C,Bun cH F w0 C w [] [Cl.blk b1 39 (aA e1 a1 c1 a2 c2 a3 c3),Cl.sl ai a1 c1 e1.Lin.L,Cl.sl al a2 c2 e1.Idx,Cl.sl an a3 c3 e1.Args]∧gN e1 most1 rec_ (x.1) (x.2.1) (x.2.2)=some r) (λx _=>x.1) (λx=>[(1,vi most1),(2,vp b1 0),(5,vi (x.2.1)),(8,vi (x.2.2))]) (fu,n2,0) BH SB ?_))
  clear h hI;rintro⟨fuel1,n3,i1⟩ w3 ⟨c7,hI,h⟩
  dsimp only at hI h ⊢
  rcases fuel1 with _ | fuel1
  ·rw[gN]at h;cases h
  rw[gN]at h
  refine aj (sr (sm ?_))
  refine sq (aq rfl et jZ rfl GL rfl) ?_
  refine sq (aF (v:=(vs a3 e1.Args.length c3)) rfl et K2 rfl (hI.kblk (l:=[vs a3 e1.Args.length c3]) .z rfl).1) ?_
  refine sq (jM rfl K2 et) ?_
  refine sq (rp rfl et et) ?_
  refine sm ?_
  refine aw (bg rfl rfl rfl rfl) rfl (λhc=>fC rfl et) ?_
  refine aw (bg rfl rfl rfl rfl) rfl (λhc=>fC rfl et) ?_
  refine aw (bg rfl rfl rfl rfl) rfl (λhc=>AU rfl (aI et hc) (aI et hc)) ?_
  refine sq (tq rfl et et) ?_
  refine TC (λhb h=>?_) λhb h=>?_
  ·refine aZ (aS (aj (mB (ip rfl ?_))))
   refine sm ?_
   refine sq (aq rfl et jZ rfl GL rfl) ?_
   refine sq (aF (v:=(vs a3 e1.Args.length c3)) rfl et K2 rfl (hI.kblk (l:=[vs a3 e1.Args.length c3]) .z rfl).1) ?_
   refine sm ?_
   obtain⟨e2,hx2,h⟩:=ab h
   obtain⟨ad1,cs1,hA1,hr1,hq1⟩:=hI.clat .p3 hx2
   obtain⟨a4,c8,a5,c9,a6,c10,rfl,hf1,hf2,hf3⟩:=ci hr1
   have hI:=hI.ads hf1
   have hI:=hI.ads hf2
   have hI:=hI.ads hf3
   refine sq (iS rfl K2 aJ et et (pA hx2) hA1) ?_
   refine sq (am (l:=(ba e2 a4 c8 a5 c9 a6 c10)) rfl et jZ rfl aJ hq1.1) ?_
   refine sm ?_
   refine sm ?_
   refine sq (Iy rfl et et) ?_
   refine sB h (λ_ k=>hrec hI.lt FS k) (Rc Tryz.func43) λr1 w4 h hI=>?_
   refine sq (nB rfl et et) ?_
   refine sa ?_
   refine nk (ip rfl ?_)
   refine sm ?_
   refine sq (nB rfl et ah) ?_
   refine sa ?_
   refine aG ?_
   exact kl (fuel1,av (n3+r1),av (i1+1))
  refine bl ?_
  refine eZ ?_
  refine aS (sr (sm ?_))
  refine sa ?_
  refine nk (aO ?_)
  obtain rfl:=ak h
  exact gR (vs:=[vi n3]) Tryz.results43 ⟨aT rfl rfl,af⟩ (fq hI af)
 refine sr (xp ?_)
 refine nk (mB (bk (α:=Nat×Int×Int) (λx=>λw=>∃ C,Bun cH F w0 C w [] [Cl.blk b1 39 (aA e1 a1 c1 a2 c2 a3 c3),Cl.sl ai a1 c1 e1.Lin.L,Cl.sl al a2 c2 e1.Idx,Cl.sl an a3 c3 e1.Args]∧cT e1 most1 rec_ (x.1) (x.2.1) (x.2.2)=some r) (λx _=>x.1) (λx=>[(1,vi most1),(2,vp b1 0),(5,vi (x.2.1)),(6,vi (x.2.2))]) (fu,n1,0) BH SB ?_))
 clear h hI;rintro⟨fuel2,n4,i2⟩ w5 ⟨c11,hI,h⟩
 dsimp only at hI h ⊢
 rcases fuel2 with _ | fuel2
 ·rw[cT]at h;cases h
 rw[cT]at h
 refine aj (sr (sm ?_))
 refine sq (aq rfl et jZ rfl nK rfl) ?_
 refine sq (aF (v:=(vs a2 e1.Idx.length c2)) rfl et xm rfl (hI.kblk (l:=[vs a2 e1.Idx.length c2]) .z rfl).1) ?_
 refine sq (jM rfl xm et) ?_
 refine sq (rp rfl et et) ?_
 refine sm ?_
 refine aw (bg rfl rfl rfl rfl) rfl (λhc=>fC rfl et) ?_
 refine aw (bg rfl rfl rfl rfl) rfl (λhc=>fC rfl et) ?_
 refine aw (bg rfl rfl rfl rfl) rfl (λhc=>AU rfl (aI et hc) (aI et hc)) ?_
 refine sq (tq rfl et et) ?_
 refine TC (λhb h=>?_) λhb h=>?_
 ·refine aZ (aS (bO (α:=Int) (λ_=>⟨101,[]⟩) (λx=>[(1,vi most1),(2,vp b1 0),(5,vi x),(6,vi i2)]) (λx=>λw=>∃ C,Bun cH F w0 C w [] [Cl.blk b1 39 (aA e1 a1 c1 a2 c2 a3 c3),Cl.sl ai a1 c1 e1.Lin.L,Cl.sl al a2 c2 e1.Idx,Cl.sl an a3 c3 e1.Args]∧nc (cT e1 most1 rec_ fuel2) i2 x=some r) ?_ ?_))
  ·clear h hI;rintro n5 w6 ⟨c12,hI,h⟩
   try dsimp only at hI h ⊢
   rw[nc]at h
   refine ip rfl ?_
   refine sm ?_
   refine sq (nB rfl et ah) ?_
   refine sa ?_
   refine aG ?_
   exact kl (fuel2,n5,av (i2+1))
  refine mB (aj (aL [] false (.c (0,.q) (.c (1,.q) (.c (2,.q) (.c (3,.q) (.c (4,.q) (.c (5,.q) (.c (6,.q) (.c (7,.q) (.c (8,.q) (.c (9,.q) (.c (10,.q) (.c (11,.q) (.c (12,.q) (.c (13,.q) (.c (14,.q) (.c (15,.q) (.c (16,.q) (.c (17,.q) (.c (18,.q) .n))))))))))))))))))) hI (by kernel_rfl) (by kernel_rfl) ?_))
  intro w7 hI
  refine iq rfl gn rfl (λw'=>fC rfl et) ?_
  refine iq rfl gn rfl (λw'=>aq rfl et jZ rfl nK rfl) ?_
  refine dl rfl gn rfl (λw' hw'=>(aF (v:=(vs a2 e1.Idx.length c2)) rfl et xm rfl ((hI.kblk (l:=[vs a2 e1.Idx.length c2]) .z rfl).at_ (SX.any rfl hw')))) (by kernel_rfl) ?_
  refine iq rfl gn rfl (λw'=>fC rfl et) ?_
  obtain⟨e3,hx5,h⟩:=ab h
  obtain⟨ad2,cs2,hA2,hr2,hq2⟩:=hI.clat .p2 hx5
  obtain⟨a7,c13,a8,c14,rfl,hf4,hf5⟩:=hr2
  have hI:=hI.ads hf4
  have hI:=hI.ads hf5
  refine iq rfl gn rfl (λw'=>iS rfl xm lL et et (pA hx5) hA2) ?_
  refine iq rfl gn rfl (λw'=>aq rfl et o0 rfl bc rfl) ?_
  refine iq rfl gn rfl (λw'=>BF rfl et pr rfl ul rfl) ?_
  refine dl rfl gn rfl (λw' hw'=>(aF (v:=(vs a7 e3.Lin.L.length c13)) rfl et BL rfl ((CA.part hq2 rfl).at_ (SX.any rfl hw')))) (by kernel_rfl) ?_
  refine iq rfl gn rfl (λw'=>jM rfl BL et) ?_
  refine iq rfl gn rfl (λw'=>nB rfl et et) ?_
  refine iq rfl gn rfl (λw'=>aq rfl et jZ rfl nK rfl) ?_
  refine dl rfl gn rfl (λw' hw'=>(aF (v:=(vs a2 e1.Idx.length c2)) rfl et xm rfl ((hI.kblk (l:=[vs a2 e1.Idx.length c2]) .p2 rfl).at_ (SX.any rfl hw')))) (by kernel_rfl) ?_
  refine iq rfl gn rfl (λw'=>fC rfl et) ?_
  obtain⟨e4,hx6,h⟩:=ab h
  obtain⟨ad3,cs3,hA3,hr3,hq3⟩:=hI.clat .p4 hx6
  obtain⟨a9,c15,a10,c16,rfl,hf6,hf7⟩:=hr3
  have hI:=hI.ads hf6
  have hI:=hI.ads hf7
  refine iq rfl gn rfl (λw'=>iS rfl xm lL et et (pA hx6) hA3) ?_
  refine iq rfl gn rfl (λw'=>aq rfl et o0 rfl qO rfl) ?_
  refine dl rfl gn rfl (λw' hw'=>(aF (v:=(vs a10 e4.At.length c16)) rfl et E5 rfl ((CA.part hq3 rfl).at_ (SX.any rfl hw')))) (by kernel_rfl) ?_
  refine iq rfl gn rfl (λw'=>jM rfl E5 et) ?_
  refine iq rfl gn rfl (λw'=>nB rfl et et) ?_
  refine iq rfl gn rfl (λw'=>cx rfl et) ?_
  refine pp ?_
  refine oq (e:=[(1,vi most1),(2,vp b1 0),(5,(vi (av ((av (n4+(e3.Lin.L.length:Int)))+(e4.At.length:Int))))),(6,vi i2)]) SB ?_
  refine sr (xp ?_)
  refine nk (mB (bk (α:=Nat×Int×Int) (λx=>λw=>∃ C,Bun cH F w0 C w [] [Cl.blk b1 39 (aA e1 a1 c1 a2 c2 a3 c3),Cl.sl ai a1 c1 e1.Lin.L,Cl.sl al a2 c2 e1.Idx,Cl.sl an a3 c3 e1.Args]∧gM e1 i2 most1 (cT e1 most1 rec_ fuel2) (x.1) (x.2.1) (x.2.2)=some r) (λx _=>x.1) (λx=>[(1,vi most1),(2,vp b1 0),(5,vi (x.2.1)),(6,vi i2),(7,vi (x.2.2))]) (fu,av ((av (n4+(e3.Lin.L.length:Int)))+(e4.At.length:Int)),0) BH SB ?_))
  clear h hI;rintro⟨fuel3,n6,k1⟩ w8 ⟨c17,hI,h⟩
  dsimp only at hI h ⊢
  rcases fuel3 with _ | fuel3
  ·rw[gM]at h;cases h
  rw[gM]at h
  refine aj (sr (sm ?_))
  refine sq (aq rfl et jZ rfl nK rfl) ?_
  refine sq (aF (v:=(vs a2 e1.Idx.length c2)) rfl et xm rfl (hI.kblk (l:=[vs a2 e1.Idx.length c2]) .z rfl).1) ?_
  refine sm ?_
  obtain⟨e5,hx7,h⟩:=ab h
  obtain⟨ad4,cs4,hA4,hr4,hq4⟩:=hI.clat .p2 hx7
  obtain⟨a11,c18,a12,c19,rfl,hf8,hf9⟩:=hr4
  have hI:=hI.ads hf8
  have hI:=hI.ads hf9
  refine sq (iS rfl xm lL et et (pA hx7) hA4) ?_
  refine sq (aq rfl et o0 rfl qO rfl) ?_
  refine sq (aF (v:=(vs a12 e5.At.length c19)) rfl et E5 rfl (CA.part hq4 rfl).1) ?_
  refine sq (jM rfl E5 et) ?_
  refine sq (rp rfl et et) ?_
  refine sm ?_
  refine aw (bg rfl rfl rfl rfl) rfl (λhc=>fC rfl et) ?_
  refine aw (bg rfl rfl rfl rfl) rfl (λhc=>fC rfl et) ?_
  refine aw (bg rfl rfl rfl rfl) rfl (λhc=>AU rfl (aI et hc) (aI et hc)) ?_
  refine sq (tq rfl et et) ?_
  refine TC (λhb h=>?_) λhb h=>?_
  ·refine aZ (aS (aj (mB (ip rfl ?_))))
   refine sm ?_
   refine sq (aq rfl et jZ rfl nK rfl) ?_
   refine sq (aF (v:=(vs a2 e1.Idx.length c2)) rfl et xm rfl (hI.kblk (l:=[vs a2 e1.Idx.length c2]) .p2 rfl).1) ?_
   refine sm ?_
   obtain⟨e6,hx8,h⟩:=ab h
   obtain⟨ad5,cs5,hA5,hr5,hq5⟩:=hI.clat .p4 hx8
   obtain⟨a13,c20,a14,c21,rfl,hf10,hf11⟩:=hr5
   have hI:=hI.ads hf10
   have hI:=hI.ads hf11
   refine sq (iS rfl xm lL et et (pA hx8) hA5) ?_
   refine sq (aq rfl et o0 rfl qO rfl) ?_
   refine sq (aF (v:=(vs a14 e6.At.length c21)) rfl et E5 rfl (CA.part hq5 rfl).1) ?_
   refine sm ?_
   obtain⟨e7,hx9,h⟩:=ab h
   obtain⟨ad6,cs6,hA6,hr6,hq6⟩:=hI.clat .z hx9
   obtain⟨a15,c22,rfl,hf12⟩:=hr6
   have hI:=hI.ads hf12
   refine sq (iS rfl E5 bc et et (pA hx9) hA6) ?_
   refine sq (aq rfl et pr rfl ul rfl) ?_
   refine sq (aF (v:=(vs a15 e7.L.length c22)) rfl et BL rfl (CA.part hq6 rfl).1) ?_
   refine sq (jM rfl BL et) ?_
   refine sq (nB rfl et et) ?_
   obtain⟨n7,hx10,h⟩:=ab h
   refine sq (vz (cx rfl et) (congrArg (Value.int .i64) (ak hx10))) ?_
   refine aG ?_
   refine oq (e:=[(1,vi most1),(2,vp b1 0),(5,vi n7),(6,vi i2),(7,vi k1)]) SB ?_
   refine ip rfl ?_
   refine sm ?_
   refine sq (nB rfl et ah) ?_
   refine sa ?_
   refine aG ?_
   exact kl (fuel3,n7,av (k1+1))
  refine bl ?_
  refine eZ ?_
  exact kj n6
 refine bl ?_
 refine eZ ?_
 exact kj n4
theorem zS (n:Nat):Pj (dO n):=by
 induction n with
 | zero=>intro F;intros;rename_i h;cases h
 | succ n ih=>intro F;intros;apply zU ih<;>assumption
theorem Dh:Pj (sj):=zS fu
theorem Ao (hF:dF F w0) {e1:ae} (hc:AllCl [Cl.sl ai a1 c1 e1.Lin.L,Cl.sl al a2 c2 e1.Idx,Cl.sl an a3 c3 e1.Args] F w0) {r:Bool} (h:mP e1=some r):CR F w0 20 #[(Value.agg (aA e1 a1 c1 a2 c2 a3 c3))] (vb r) []:=by
 refine EN Tryz.func20 Tryz.ntmps20 hF hc λhI=>?_
 rw[mP]at h
 refine sr (lX λb1 c5 w1 hI=>?_)
 refine T ?_
 refine sq (am (l:=(ba e1 a1 c1 a2 c2 a3 c3)) rfl et jZ rfl aJ (hI.kblk (l:=(ba e1 a1 c1 a2 c2 a3 c3)) .z rfl).1) ?_
 refine sB h (λ_ k=>Dh hI.lt FS k) (Rc Tryz.func43) λr1 w2 h hI=>?_
 exact RF
theorem CQ (hF:dF F w0) {op1:Int} (hc:AllCl [] F w0) {r:List UInt8} (h:nR op1=some r):CR F w0 88 #[vi op1] (str r) []:=by
 refine EN Tryz.func88 Tryz.ntmps88 hF hc λhI=>?_
 rw[nR]at h
 refine T ?_
 refine aj (T ?_)
 refine TR λhb h=>?_
 refine TR λhb h=>?_
 refine TR λhb h=>?_
 refine TR λhb h=>?_
 refine TR λhb h=>?_
 refine TR λhb h=>?_
 refine TR λhb h=>?_
 refine TR λhb h=>?_
 refine TR λhb h=>?_
 exact RF
theorem re (hF:dF F w0) {op1:Int} (hc:AllCl [] F w0) {r:Int} (h:iU op1=some r):CR F w0 90 #[vi op1] (vi r) []:=by
 refine EN Tryz.func90 Tryz.ntmps90 hF hc λhI=>?_
 rw[iU]at h
 refine T ?_
 refine aj (T ?_)
 refine TR λhb h=>?_
 refine TR λhb h=>?_
 refine TR λhb h=>?_
 refine bO (α:=Bool) (λ_=>⟨22,[]⟩) (λx=>[(3,vi op1),(10,vb x)]) (λx=>λw=>∃ C,Bun cH F w0 C w [] []∧i6 op1 x=some r) ?_ ?_
 ·clear h hI;rintro i1 w1 ⟨c1,hI,h⟩
  try dsimp only at hI h ⊢
  rw[i6]at h
  refine TR λhb h=>?_
  refine bO (α:=Bool) (λ_=>⟨22,[]⟩) (λx=>[(3,vi op1),(14,vb x)]) (λx=>λw=>∃ C,Bun cH F w0 C w [] []∧kb op1 x=some r) ?_ ?_
  ·clear h hI;rintro i2 w2 ⟨c2,hI,h⟩
   try dsimp only at hI h ⊢
   rw[kb]at h
   refine TR λhb h=>?_
   refine bO (α:=Bool) (λ_=>⟨22,[]⟩) (λx=>[(3,vi op1),(17,vb x)]) (λx=>λw=>∃ C,Bun cH F w0 C w [] []∧ka op1 x=some r) ?_ ?_
   ·clear h hI;rintro i3 w3 ⟨c3,hI,h⟩
    try dsimp only at hI h ⊢
    rw[ka]at h
    refine TR λhb h=>?_
    refine TR λhb h=>?_
    exact RF
   refine TC (λhb h=>?_) λhb h=>?_
   ·exact aZ (bI (decide (op1=6)) SB BH rfl)
   refine T ?_
   refine aG ?_
   exact kj (decide (op1=7))
  refine TC (λhb h=>?_) λhb h=>?_
  ·exact aZ (bI (decide (op1=4)) SB BH rfl)
  refine T ?_
  refine aG ?_
  exact kj (decide (op1=5))
 refine TC (λhb h=>?_) λhb h=>?_
 ·exact aZ (bI (decide (op1=13)) SB BH rfl)
 refine TC (λhb h=>?_) λhb h=>?_
 ·exact aZ (bI (decide (op1=14)) SB BH rfl)
 refine T ?_
 refine aG ?_
 exact kj (decide (op1=15))
abbrev Mf (f_:(ae→Option (List UInt8))):Prop:=∀ ⦃F:NP⦄ ⦃w0:World⦄ (hF:dF F w0) ⦃e1:ae⦄ ⦃a1 a2 a3:Option Addr⦄ ⦃c1 c2 c3:Nat⦄ (hc:AllCl [Cl.sl ai a1 c1 e1.Lin.L,Cl.sl al a2 c2 e1.Idx,Cl.sl an a3 c3 e1.Args] F w0) ⦃r:List UInt8⦄ (h:f_ e1=some r),CR F w0 45 #[(Value.agg (aA e1 a1 c1 a2 c2 a3 c3))] (str r) []
theorem nj {rec_:(ae→Option (List UInt8))} (hrec:Mf rec_) (hF:dF F w0) {e1:ae} {least1:Int} (hc:AllCl [Cl.sl ai a1 c1 e1.Lin.L,Cl.sl al a2 c2 e1.Idx,Cl.sl an a3 c3 e1.Args] F w0) {r:List UInt8} (h:gI rec_ e1 least1=some r):CR F w0 89 #[(Value.agg (aA e1 a1 c1 a2 c2 a3 c3)),vi least1] (str r) []:=by
 refine EN Tryz.func89 Tryz.ntmps89 hF hc λhI=>?_
 rw[gI]at h
 refine sr (lX λb1 c5 w1 hI=>?_)
 refine T ?_
 refine aj (T ?_)
 refine sB h (λ_ k=>re hI.lt trivial k) (Rc Tryz.func90) λr1 w2 h hI=>?_
 refine TC (λhb h=>?_) λhb h=>?_
 ·refine sr (sq (am (l:=(ba e1 a1 c1 a2 c2 a3 c3)) rfl et jZ rfl aJ (hI.kblk (l:=(ba e1 a1 c1 a2 c2 a3 c3)) .z rfl).1) ?_)
  refine sB h (λ_ k=>hrec hI.lt FS k) (Rc Tryz.func45) λr2 w3 h hI=>?_
  obtain⟨s1,hx5,h⟩:=ab h
  refine sq (aH rfl ah et hx5) ?_
  obtain⟨s2,hx6,h⟩:=ab h
  refine sq (aH rfl et ah hx6) ?_
  exact RF
 refine T ?_
 refine sq (am (l:=(ba e1 a1 c1 a2 c2 a3 c3)) rfl et jZ rfl aJ (hI.kblk (l:=(ba e1 a1 c1 a2 c2 a3 c3)) .z rfl).1) ?_
 refine sB h (λ_ k=>hrec hI.lt FS k) (Rc Tryz.func45) λr3 w4 h hI=>?_
 exact RF
theorem uZ (hF:dF F w0) {n1:Int} (hc:AllCl [] F w0) {r:List UInt8} (h:iV n1=some r):CR F w0 182 #[(Value.int .u64 n1)] (str r) []:=by
 refine EN Tryz.func182 Tryz.ntmps182 hF hc λhI=>?_
 rw[iV]at h
 refine T ?_
 refine aj (T ?_)
 refine bk (α:=Nat×Int×(List UInt8)) (λx=>λw=>∃ C,Bun cH F w0 C w [] []∧fp (x.1) (x.2.1) (x.2.2)=some r) (λx _=>x.1) (λx=>[(0,(Value.int .u64 (x.2.1))),(3,(str (x.2.2)))]) (fu,n1,([]:List UInt8)) BH SB ?_
 clear h hI;rintro⟨fuel1,n2,s1⟩ w1 ⟨c1,hI,h⟩
 dsimp only at hI h ⊢
 rcases fuel1 with _ | fuel1
 ·rw[fp]at h;cases h
 rw[fp]at h
 refine aj (T ?_)
 refine TC (λhb h=>?_) λhb h=>?_
 ·refine T ?_
  refine sq (yr rfl et ah (by decide)) ?_
  refine sm ?_
  refine sq (yr rfl et ah (by decide)) ?_
  refine T ?_
  obtain⟨s2,hx1,h⟩:=ab h
  refine sq (BE rfl u9 ah et et hx1) ?_
  refine sm ?_
  obtain⟨s3,hx2,h⟩:=ab h
  refine sq (aH rfl et et hx2) ?_
  refine T ?_
  refine sq (AR rfl et ah (by decide)) ?_
  refine sa ?_
  refine aG ?_
  exact kl (fuel1,fi (Int.tdiv n2 10),s3)
 refine bl ?_
 refine eZ ?_
 refine aS ?_
 refine T ?_
 obtain⟨s4,hx3,h⟩:=ab h
 refine sq (BE rfl u9 ah et et hx3) ?_
 refine sm ?_
 obtain⟨s5,hx4,h⟩:=ab h
 refine sq (aH rfl et et hx4) ?_
 exact RF
theorem mh (hF:dF F w0) {n1:Int} (hc:AllCl [] F w0) {r:List UInt8} (h:eW n1=some r):CR F w0 117 #[vi n1] (str r) []:=by
 refine EN Tryz.func117 Tryz.ntmps117 hF hc λhI=>?_
 rw[eW]at h
 refine T ?_
 refine aj (T ?_)
 refine TC (λhb h=>?_) λhb h=>?_
 ·refine T ?_
  refine sB h (λ_ k=>pR hI.lt trivial k) (Rc Tryz.func183) λr1 w1 h hI=>?_
  refine sB h (λ_ k=>uZ hI.lt trivial k) (Rc Tryz.func182) λr2 w2 h hI=>?_
  obtain⟨s1,hx5,h⟩:=ab h
  refine sq (aH rfl ah et hx5) ?_
  exact RF
 refine T ?_
 refine sB h (λ_ k=>pR hI.lt trivial k) (Rc Tryz.func183) λr3 w3 h hI=>?_
 refine sB h (λ_ k=>uZ hI.lt trivial k) (Rc Tryz.func182) λr4 w4 h hI=>?_
 exact RF
theorem CS (hF:dF F w0) {how1:Int} (hc:AllCl [] F w0) {r:List UInt8} (h:nS how1=some r):CR F w0 118 #[vi how1] (str r) []:=by
 refine EN Tryz.func118 Tryz.ntmps118 hF hc λhI=>?_
 rw[nS]at h
 refine T ?_
 refine aj (T ?_)
 refine TR λhb h=>?_
 refine TR λhb h=>?_
 refine TR λhb h=>?_
 exact RF
theorem pQ (hF:dF F w0) {t1:bu} (hc:AllCl [] F w0) {r:List UInt8} (h:jB t1=some r):CR F w0 64 #[(Value.agg (fV t1))] (str r) []:=by
 refine EN Tryz.func64 Tryz.ntmps64 hF hc λhI=>?_
 rw[jB]at h
 refine sr (lX λb1 c2 w1 hI=>?_)
 refine T ?_
 refine aj (sr (sq (am (l:=(bU t1)) rfl et qF rfl bN (hI.kblk (l:=(bU t1)) .z rfl).1) ?_))
 refine sB h (λ_ k=>po hI.lt trivial k) (Rc Tryz.func62) λr1 w2 h hI=>?_
 refine TR λhb h=>?_
 refine T ?_
 refine aj (T ?_)
 refine TR λhb h=>?_
 refine T ?_
 refine aj (T ?_)
 refine TR λhb h=>?_
 refine aZ (aS (sr ?_))
 obtain⟨over1,hx3,h⟩:=ab h
 refine sq (vz (cx rfl ah) (congrArg (λl=>str l) (ak hx3))) ?_
 refine nk (bO (α:=(List UInt8)) (λ_=>⟨34,[]⟩) (λx=>[(1,vp b1 0),(3,(str x))]) (λx=>λw=>∃ C,Bun cH F w0 C w [] [Cl.blk b1 35 (fV t1)]∧jn t1 x=some r) ?_ ?_)
 ·clear h hI;rintro over2 w3 ⟨c3,hI,h⟩
  try dsimp only at hI h ⊢
  rw[jn]at h
  refine aj (aL [] false (.c (0,.q) (.c (1,.q) (.c (5,.q) (.c (6,.q) (.c (10,.q) (.c (11,.q) (.c (15,.q) (.c (2,.s) (.c (3,.q) (.c (4,.q) (.c (7,.s) (.c (8,.q) (.c (9,.q) (.c (12,.s) (.c (13,.q) (.c (14,.q) (.c (16,.q) (.c (17,.q) (.c (18,.q) .n))))))))))))))))))) hI (by kernel_rfl) (by kernel_rfl) ?_)
  intro w4 hI
  refine V ?_
  obtain⟨r2,hx4,h⟩:=ab h
  refine bF rfl gn rfl (ar (vs:=[vi t1.Bits]) rfl B5 ⟨et,af⟩) (Calls.mono (mh hI.lt af hx4) ?_)
  rintro _ w5 ⟨rfl,hx5,hl2⟩
  refine⟨_,rfl,hx5,?_⟩
  replace hI:=(hI.ext hx5)
  obtain⟨s1,hx6,h⟩:=ab h
  refine iq rfl gn rfl (λw'=>aH rfl ah et hx6) ?_
  obtain⟨s2,hx7,h⟩:=ab h
  refine iq rfl gn rfl (λw'=>aH rfl et ah hx7) ?_
  obtain⟨r3,hx8,h⟩:=ab h
  refine bF rfl gn rfl (ar (vs:=[vi t1.Frac]) rfl B5 ⟨et,af⟩) (Calls.mono (mh hI.lt af hx8) ?_)
  rintro _ w6 ⟨rfl,hx9,hl3⟩
  refine⟨_,rfl,hx9,?_⟩
  replace hI:=(hI.ext hx9)
  obtain⟨s3,hx10,h⟩:=ab h
  refine iq rfl gn rfl (λw'=>aH rfl et et hx10) ?_
  obtain⟨s4,hx11,h⟩:=ab h
  refine iq rfl gn rfl (λw'=>aH rfl et ah hx11) ?_
  obtain⟨r4,hx12,h⟩:=ab h
  refine bF rfl gn rfl (ar (vs:=[vi t1.Round]) rfl Oz ⟨et,af⟩) (Calls.mono (CS hI.lt af hx12) ?_)
  rintro _ w7 ⟨rfl,hx13,hl4⟩
  refine⟨_,rfl,hx13,?_⟩
  replace hI:=(hI.ext hx13)
  obtain⟨s5,hx14,h⟩:=ab h
  refine iq rfl gn rfl (λw'=>aH rfl et et hx14) ?_
  obtain⟨s6,hx15,h⟩:=ab h
  refine iq rfl gn rfl (λw'=>aH rfl et ah hx15) ?_
  obtain⟨s7,hx16,h⟩:=ab h
  refine iq rfl gn rfl (λw'=>aH rfl et et hx16) ?_
  obtain⟨s8,hx17,h⟩:=ab h
  refine iq rfl gn rfl (λw'=>aH rfl et ah hx17) ?_
  refine V ?_
  exact RF
 refine TC (λhb h=>?_) λhb h=>?_
 ·refine ip rfl ?_
  obtain⟨over3,hx18,h⟩:=ab h
  refine sq (vz (cx rfl ah) (congrArg (λl=>str l) (ak hx18))) ?_
  refine aG ?_
  exact kj over3
 exact aZ (bI over1 SB BH rfl)
theorem AA (hF:dF F w0) {t1:bu} {v1:co} (hc:AllCl [] F w0) {r:Bool} (h:mW t1 v1=some r):CR F w0 167 #[(Value.agg (fV t1)),(Value.agg (sT v1))] (vb r) []:=by
 refine EN Tryz.func167 Tryz.ntmps167 hF hc λhI=>?_
 rw[mW]at h
 refine sr (lX λb1 c2 w1 hI=>?_)
 refine lX λb2 c4 w2 hI=>?_
 refine T ?_
 refine sq (am (l:=(bU t1)) rfl et qF rfl bN (hI.kblk (l:=(bU t1)) .p1 rfl).1) ?_
 refine sB h (λ_ k=>po hI.lt trivial k) (Rc Tryz.func62) λr1 w3 h hI=>?_
 refine sm ?_
 refine aw (bg rfl rfl rfl rfl) rfl (λhc=>(am (l:=(bU t1)) rfl et qF rfl bN (hI.kblk (l:=(bU t1)) .p1 rfl).1)) ?_
 refine aw (bg rfl rfl rfl rfl) rfl (λhc=>(am (l:=(oA v1)) rfl et Gy rfl kM (hI.kblk (l:=(oA v1)) .z rfl).1)) ?_
 obtain⟨r2,hx3,h⟩:=ab h
 replace hx3:=ax hx3
 refine sU (λhc=>vy hI.lt trivial (hx3 hc)) (Rg Tryz.func215) λw4 hI=>?_
 exact RF
theorem C6 (hF:dF F w0) {minus1:Bool} {n1 d1:Int} (hc:AllCl [] F w0) {r:co×Int} (h:pK minus1 n1 d1=some r):CR F w0 239 #[vb minus1,(Value.int .u64 n1),(Value.int .u64 d1)] (Value.tuple #[(Value.agg (sT r.1)),vi r.2]) []:=by
 refine EN Tryz.func239 Tryz.ntmps239 hF hc λhI=>?_
 rw[pK]at h
 refine sr (cY (cs:=#[vi 0,vi 0]) hI gn rfl rfl BC rfl ?_)
 intro b1 c1 w1 hI
 refine T ?_
 refine sB h (λ_ k=>EL hI.lt trivial k) (Rc Tryz.func245) λr1 w2 h hI=>?_
 refine T ?_
 obtain⟨ho1,h⟩:=fT h
 refine sq (AR rfl et et ho1) ?_
 refine T ?_
 refine sq (AR rfl et et ho1) ?_
 refine T ?_
 refine aj (T ?_)
 refine TC (λhb h=>?_) λhb h=>?_
 ·refine sr (sq (aK (vs:=[]) (cs:=#[vi 0,vi 0]) rfl trivial (by kernel_rfl)) ?_)
  refine lA λc2 w3 hI=>?_
  exact RQ
 refine T ?_
 refine aj (T ?_)
 refine TC (λhb h=>?_) λhb h=>?_
 ·refine T ?_
  refine sq (aK (vs:=[(0,(vi (av (-(av (fi (Int.tdiv n1 r1))))))),(1,(vi (av (fi (Int.tdiv d1 r1)))))]) (cs:=#[(vi (av (-(av (fi (Int.tdiv n1 r1)))))),(vi (av (fi (Int.tdiv d1 r1))))]) rfl ⟨rfl,et,rfl,et,af⟩ (by kernel_rfl)) ?_
  refine lA λc3 w4 hI=>?_
  exact RQ
 refine T ?_
 refine sq (aK (vs:=[(0,(vi (av (fi (Int.tdiv n1 r1))))),(1,(vi (av (fi (Int.tdiv d1 r1)))))]) (cs:=#[(vi (av (fi (Int.tdiv n1 r1)))),(vi (av (fi (Int.tdiv d1 r1))))]) rfl ⟨rfl,et,rfl,et,af⟩ (by kernel_rfl)) ?_
 refine lA λc4 w5 hI=>?_
 exact RQ
theorem EM (hF:dF F w0) {n1 d1:Int} (hc:AllCl [] F w0) {r:co×Int} (h:qS n1 d1=some r):CR F w0 217 #[vi n1,vi d1] (Value.tuple #[(Value.agg (sT r.1)),vi r.2]) []:=by
 refine EN Tryz.func217 Tryz.ntmps217 hF hc λhI=>?_
 rw[qS]at h
 refine sr (cY (cs:=#[vi 0,vi 0]) hI gn rfl rfl BC rfl ?_)
 intro b1 c1 w1 hI
 refine T ?_
 refine aj (T ?_)
 refine TC (λhb h=>?_) λhb h=>?_
 ·refine sr (sq (aK (vs:=[]) (cs:=#[vi 0,vi 0]) rfl trivial (by kernel_rfl)) ?_)
  refine lA λc2 w2 hI=>?_
  exact RQ
 refine T ?_
 refine sq (Gn rfl u4 et et) ?_
 refine sm ?_
 refine sB h (λ_ k=>pR hI.lt trivial k) (Rc Tryz.func183) λr1 w3 h hI=>?_
 refine sm ?_
 refine sB h (λ_ k=>pR hI.lt trivial k) (Rc Tryz.func183) λr2 w4 h hI=>?_
 refine sB h (λ_ k=>C6 hI.lt trivial k) (Rc Tryz.func239) λr3 w5 h hI=>?_
 refine T ?_
 refine lA λc3 w6 hI=>?_
 exact RQ
theorem Az (hF:dF F w0) {t1:bu} {v1:co} (hc:AllCl [] F w0) {r:co} (h:jT t1 v1=some r):CR F w0 169 #[(Value.agg (fV t1)),(Value.agg (sT v1))] (Value.agg (sT r)) []:=by
 refine EN Tryz.func169 Tryz.ntmps169 hF hc λhI=>?_
 rw[jT]at h
 refine sr (lX λb1 c2 w1 hI=>?_)
 refine Ei (v:=(Value.agg (sT v1))) (cs:=(sT v1)) hI gn rfl rfl et rfl ?_
 intro b2 c3 w2 hI
 refine lN λb3 c4 w3 hI=>?_
 refine nk (aj (T ?_))
 refine TC (λhb h=>?_) λhb h=>?_
 ·refine aL [8] false (.c (0,.q) (.c (1,.q) (.c (2,.q) (.c (3,.s) (.c (4,.s) (.c (5,.q) (.c (6,.q) (.c (7,.q) (.c (8,.s) .n))))))))) hI (by kernel_rfl) (by kernel_rfl) ?_
  intro w4 hI
  refine V ?_
  refine dl rfl gn rfl (λw' hw'=>(am (l:=(bU t1)) rfl et qF rfl bN ((hI.kblk (l:=(bU t1)) .z rfl).at_ (SX.any rfl hw')))) (by kernel_rfl) ?_
  obtain⟨r1,hx1,h⟩:=ab h
  refine bF rfl gn rfl (ar (vs:=[(Value.agg (fV t1))]) rfl N5 ⟨et,af⟩) (Calls.mono (CZ hI.lt af hx1) ?_)
  rintro _ w5 ⟨rfl,hx2,hl1⟩
  refine⟨_,rfl,hx2,?_⟩
  replace hI:=(hI.ext hx2)
  obtain⟨r2,hx3,h⟩:=ab h
  refine bF rfl gn rfl (ar (vs:=[vi v1.N,vi r1]) rfl N6 ⟨et,et,af⟩) (Calls.mono (EM hI.lt af hx3) ?_)
  rintro _ w6 ⟨rfl,hx4,hl2⟩
  refine⟨_,rfl,hx4,?_⟩
  replace hI:=(hI.ext hx4)
  refine V ?_
  refine gQ (F:=F) (C:=c4) rfl rfl ?_
  refine vA λc5 w7 hI=>?_
  refine V ?_
  refine T ?_
  refine lA λc6 w8 hI=>?_
  exact RQ
 refine T ?_
 refine lA λc7 w9 hI=>?_
 exact RQ
theorem AB (hF:dF F w0) {v1:co} (hc:AllCl [] F w0) {r:Bool} (h:mX v1=some r):CR F w0 216 #[(Value.agg (sT v1))] (vb r) []:=by
 refine EN Tryz.func216 Tryz.ntmps216 hF hc λhI=>?_
 rw[mX]at h
 refine sr (lX λb1 c2 w1 hI=>?_)
 refine T ?_
 refine sq (aK (vs:=[(0,vi 1)]) (cs:=#[vi 1,vi 0,vi 0,vi 0,vi 0]) rfl ⟨rfl,ah,af⟩ (by kernel_rfl)) ?_
 refine sq (am (l:=(oA v1)) rfl et Gy rfl kM (hI.kblk (l:=(oA v1)) .z rfl).1) ?_
 refine sB h (λ_ k=>vy hI.lt trivial k) (Rc Tryz.func215) λr1 w2 h hI=>?_
 exact RF
theorem zI (hF:dF F w0) {a1:co} (hc:AllCl [] F w0) {r:List UInt8} (h:ja a1=some r):CR F w0 168 #[(Value.agg (sT a1))] (str r) []:=by
 refine EN Tryz.func168 Tryz.ntmps168 hF hc λhI=>?_
 rw[ja]at h
 refine sr (lX λb1 c2 w1 hI=>?_)
 refine T ?_
 refine aj (sr (sq (am (l:=(oA a1)) rfl et Gy rfl kM (hI.kblk (l:=(oA a1)) .z rfl).1) ?_))
 refine sB h (λ_ k=>AB hI.lt trivial k) (Rc Tryz.func216) λr1 w2 h hI=>?_
 refine TR λhb h=>?_
 refine T ?_
 refine aj (T ?_)
 refine TC (λhb h=>?_) λhb h=>?_
 ·refine T ?_
  refine sB h (λ_ k=>mh hI.lt trivial k) (Rc Tryz.func117) λr2 w3 h hI=>?_
  exact RF
 refine T ?_
 refine aj (aL [] false (.c (0,.q) (.c (1,.q) (.c (4,.q) (.c (5,.q) (.c (2,.s) (.c (3,.q) (.c (6,.s) (.c (7,.q) (.c (8,.q) .n))))))))) hI (by kernel_rfl) (by kernel_rfl) ?_)
 intro w4 hI
 refine V ?_
 obtain⟨r3,hx5,h⟩:=ab h
 refine bF rfl gn rfl (ar (vs:=[vi a1.N]) rfl B5 ⟨et,af⟩) (Calls.mono (mh hI.lt af hx5) ?_)
 rintro _ w5 ⟨rfl,hx6,hl3⟩
 refine⟨_,rfl,hx6,?_⟩
 replace hI:=(hI.ext hx6)
 obtain⟨s1,hx7,h⟩:=ab h
 refine iq rfl gn rfl (λw'=>aH rfl et ah hx7) ?_
 obtain⟨r4,hx8,h⟩:=ab h
 refine bF rfl gn rfl (ar (vs:=[vi a1.D]) rfl B5 ⟨et,af⟩) (Calls.mono (mh hI.lt af hx8) ?_)
 rintro _ w6 ⟨rfl,hx9,hl4⟩
 refine⟨_,rfl,hx9,?_⟩
 replace hI:=(hI.ext hx9)
 obtain⟨s2,hx10,h⟩:=ab h
 refine iq rfl gn rfl (λw'=>aH rfl et et hx10) ?_
 refine V ?_
 exact RF
theorem zH (hF:dF F w0) {t1:bu} {v1:co} (hc:AllCl [] F w0) {r:List UInt8} (h:l5 t1 v1=some r):CR F w0 91 #[(Value.agg (fV t1)),(Value.agg (sT v1))] (str r) []:=by
 refine EN Tryz.func91 Tryz.ntmps91 hF hc λhI=>?_
 rw[l5]at h
 refine sr (lX λb1 c2 w1 hI=>?_)
 refine lX λb2 c4 w2 hI=>?_
 refine T ?_
 refine aj (sr (sq (am (l:=(bU t1)) rfl et qF rfl bN (hI.kblk (l:=(bU t1)) .p1 rfl).1) ?_))
 refine sq (am (l:=(oA v1)) rfl et Gy rfl kM (hI.kblk (l:=(oA v1)) .z rfl).1) ?_
 refine sB h (λ_ k=>AA hI.lt trivial k) (Rc Tryz.func167) λr1 w3 h hI=>?_
 refine TR λhb h=>?_
 refine T ?_
 refine sq (am (l:=(bU t1)) rfl et qF rfl bN (hI.kblk (l:=(bU t1)) .p1 rfl).1) ?_
 refine sq (am (l:=(oA v1)) rfl et Gy rfl kM (hI.kblk (l:=(oA v1)) .z rfl).1) ?_
 refine sB h (λ_ k=>Az hI.lt trivial k) (Rc Tryz.func169) λr2 w4 h hI=>?_
 refine sB h (λ_ k=>zI hI.lt trivial k) (Rc Tryz.func168) λr3 w5 h hI=>?_
 exact RF
theorem sC (hF:dF F w0) {n1:Int} (hc:AllCl [] F w0) {r:Int} (h:kP n1=some r):CR F w0 171 #[vi n1] (Value.int .u64 r) []:=by
 refine EN Tryz.func171 Tryz.ntmps171 hF hc λhI=>?_
 rw[kP]at h
 refine T ?_
 refine aj (T ?_)
 refine TR λhb h=>?_
 exact RF
theorem tX (hF:dF F w0) {n1:Int} (hc:AllCl [] F w0) {r:List UInt8} (h:ki n1=some r):CR F w0 172 #[(Value.int .u64 n1)] (str r) []:=by
 refine EN Tryz.func172 Tryz.ntmps172 hF hc λhI=>?_
 rw[ki]at h
 refine T ?_
 refine bk (α:=Nat×Int×(List UInt8)) (λx=>λw=>∃ C,Bun cH F w0 C w [] []∧gw (x.1) (x.2.1) (x.2.2)=some r) (λx _=>x.1) (λx=>[(0,(Value.int .u64 (x.2.1))),(3,(str (x.2.2)))]) (fu,n1,([]:List UInt8)) BH SB ?_
 clear h hI;rintro⟨fuel1,n2,s1⟩ w1 ⟨c1,hI,h⟩
 dsimp only at hI h ⊢
 rcases fuel1 with _ | fuel1
 ·rw[gw]at h;cases h
 rw[gw]at h
 refine T ?_
 refine sq (yr rfl et ah (by decide)) ?_
 refine T ?_
 refine ll hI (nz .u8) ([M9 (fi (48+(Int.tmod n2 10)))]:List Int) OU Rr λb1 c2 w2 hI=>?_
 refine sq (Fc rfl et u219 u9 u5 (hI.rd .z)) ?_
 refine sm ?_
 obtain⟨s2,hx1,h⟩:=ab h
 refine sq (aH rfl et et hx1) ?_
 refine T ?_
 refine sq (AR rfl et ah (by decide)) ?_
 refine TR λhb h=>?_
 exact aZ (qo (fuel1,fi (Int.tdiv n2 10),s2) SB BH (Nat.lt_succ_self _))
theorem wx (hF:dF F w0) {s1 t1:List UInt8} {negative1:Bool} (hc:AllCl [] F w0) {r:List UInt8} (h:mn s1 negative1 t1=some r):CR F w0 173 #[(str s1),vb negative1,(str t1)] (str r) []:=by
 refine EN Tryz.func173 Tryz.ntmps173 hF hc λhI=>?_
 rw[mn]at h
 refine T ?_
 refine aj (T ?_)
 refine TC (λhb h=>?_) λhb h=>?_
 ·refine T ?_
  obtain⟨s2,hx1,h⟩:=ab h
  refine sq (aH rfl ah et hx1) ?_
  exact RF
 refine T ?_
 refine aj (T ?_)
 refine TR λhb h=>?_
 refine T ?_
 refine aj (T ?_)
 refine TC (λhb h=>?_) λhb h=>?_
 ·refine T ?_
  obtain⟨s3,hx2,h⟩:=ab h
  refine sq (aH rfl et ah hx2) ?_
  refine sm ?_
  obtain⟨s4,hx3,h⟩:=ab h
  refine sq (aH rfl et et hx3) ?_
  exact RF
 refine T ?_
 obtain⟨s5,hx4,h⟩:=ab h
 refine sq (aH rfl et ah hx4) ?_
 refine sm ?_
 obtain⟨s6,hx5,h⟩:=ab h
 refine sq (aH rfl et et hx5) ?_
 exact RF
theorem kC (hF:dF F w0) {l1:aC} (hc:AllCl [Cl.sl ai a1 c1 l1.L] F w0) {r:List UInt8} (h:fI l1=some r):CR F w0 92 #[(Value.agg (eP l1 a1 c1))] (str r) []:=by
 refine EN Tryz.func92 Tryz.ntmps92 hF hc λhI=>?_
 rw[fI]at h
 refine sr (lX λb1 c3 w1 hI=>?_)
 refine T ?_
 refine aj (sr (sq (am (l:=(fS l1 a1 c1)) rfl et pr rfl bc (hI.kblk (l:=(fS l1 a1 c1)) .z rfl).1) ?_))
 refine sB h (λ_ k=>xd hI.lt FS k) (Rc Tryz.func170) λr1 w2 h hI=>?_
 refine TR λhb h=>?_
 refine T ?_
 refine bO (α:=(List UInt8)) (λ_=>⟨62,[]⟩) (λx=>[(1,vp b1 0),(3,(str x))]) (λx=>λw=>∃ C,Bun cH F w0 C w [] [Cl.blk b1 27 (eP l1 a1 c1),Cl.sl ai a1 c1 l1.L]∧lG l1 x=some r) ?_ ?_
 ·clear h hI;rintro s1 w3 ⟨c4,hI,h⟩
  try dsimp only at hI h ⊢
  rw[lG]at h
  refine aj (T ?_)
  refine TC (λhb h=>?_) λhb h=>?_
  ·refine aL [] false (.c (0,.q) (.c (1,.q) (.c (2,.q) (.c (3,.q) (.c (4,.q) (.c (5,.q) (.c (6,.s) (.c (7,.s) (.c (8,.s) (.c (9,.q) .n)))))))))) hI (by kernel_rfl) (by kernel_rfl) ?_
   intro w4 hI
   refine V ?_
   obtain⟨r2,hx3,h⟩:=ab h
   refine bF rfl gn rfl (ar (vs:=[vi l1.K]) rfl Oq ⟨et,af⟩) (Calls.mono (sC hI.lt af hx3) ?_)
   rintro _ w5 ⟨rfl,hx4,hl2⟩
   refine⟨_,rfl,hx4,?_⟩
   replace hI:=(hI.ext hx4)
   obtain⟨r3,hx5,h⟩:=ab h
   refine bF rfl gn rfl (ar (vs:=[(Value.int .u64 r2)]) rfl Oo ⟨et,af⟩) (Calls.mono (tX hI.lt af hx5) ?_)
   rintro _ w6 ⟨rfl,hx6,hl3⟩
   refine⟨_,rfl,hx6,?_⟩
   replace hI:=(hI.ext hx6)
   obtain⟨r4,hx7,h⟩:=ab h
   refine bF rfl gn rfl (ar (vs:=[(str s1),(vb (decide (l1.K<0))),(str r3)]) rfl On ⟨et,et,et,af⟩) (Calls.mono (wx hI.lt af hx7) ?_)
   rintro _ w7 ⟨rfl,hx8,hl4⟩
   refine⟨_,rfl,hx8,?_⟩
   replace hI:=(hI.ext hx8)
   refine V ?_
   exact RF
  exact RF
 refine T ?_
 refine bk (α:=Nat×(List UInt8)×Int) (λx=>λw=>∃ C,Bun cH F w0 C w [] [Cl.blk b1 27 (eP l1 a1 c1),Cl.sl ai a1 c1 l1.L]∧cw l1 (x.1) (x.2.1) (x.2.2)=some r) (λx _=>x.1) (λx=>[(1,vp b1 0),(3,(str (x.2.1))),(4,vi (x.2.2))]) (fu,([]:List UInt8),0) BH SB ?_
 clear h hI;rintro⟨fuel1,s2,i1⟩ w8 ⟨c5,hI,h⟩
 dsimp only at hI h ⊢
 rcases fuel1 with _ | fuel1
 ·rw[cw]at h;cases h
 rw[cw]at h
 refine aj (T ?_)
 refine TC (λhb h=>?_) λhb h=>?_
 ·refine T ?_
  refine aj (T ?_)
  obtain⟨e1,hx9,h⟩:=ab h
  obtain⟨ad1,cs1,hA1,hr1,hq1⟩:=hI.clat .p1 hx9
  obtain rfl:cs1=(li e1):=hr1
  refine sI ?_
  refine T ?_
  obtain⟨e2,hx10,h⟩:=ab h
  obtain⟨ad2,cs2,hA2,hr2,hq2⟩:=hI.clat .p1 hx10
  obtain rfl:cs2=(li e2):=hr2
  refine sI ?_
  refine T ?_
  refine bO (α:=(List UInt8)) (λ_=>⟨62,[]⟩) (λx=>[(1,vp b1 0),(3,(str s2)),(4,vi i1),(5,vi e1.By),(6,(str x))]) (λx=>λw=>∃ C,Bun cH F w0 C w [] [Cl.blk b1 27 (eP l1 a1 c1),Cl.sl ai a1 c1 l1.L]∧iy s2 e1 (cw l1 fuel1) i1 x=some r) ?_ ?_
  ·clear h hI;rintro t1 w9 ⟨c6,hI,h⟩
   try dsimp only at hI h ⊢
   rw[iy]at h
   refine T ?_
   refine sB h (λ_ k=>wx hI.lt trivial k) (Rc Tryz.func173) λr5 w10 h hI=>?_
   refine T ?_
   refine aG ?_
   exact kl (fuel1,r5,av (i1+1))
  refine T ?_
  refine sB h (λ_ k=>sC hI.lt trivial k) (Rc Tryz.func171) λr6 w11 h hI=>?_
  refine TC (λhb h=>?_) λhb h=>?_
  ·refine T ?_
   refine sB h (λ_ k=>sC hI.lt trivial k) (Rc Tryz.func171) λr7 w12 h hI=>?_
   refine sB h (λ_ k=>tX hI.lt trivial k) (Rc Tryz.func172) λr8 w13 h hI=>?_
   obtain⟨s3,hx19,h⟩:=ab h
   refine sq (aH rfl et ah hx19) ?_
   refine sm ?_
   obtain⟨s4,hx20,h⟩:=ab h
   refine sq (aH rfl et et hx20) ?_
   refine sa ?_
   refine aG ?_
   exact kj s4
  exact aZ (bI e2.Name SB BH rfl)
 refine bl ?_
 refine eZ ?_
 exact kj s2
theorem uV (hF:dF F w0) {l1:List aC} (hc:AllCl [Cl.sl dU a1 c1 l1] F w0) {r:Bool} (h:lm l1=some r):CR F w0 63 #[vs a1 l1.length c1] (vb r) []:=by
 refine EN Tryz.func63 Tryz.ntmps63 hF hc λhI=>?_
 rw[lm]at h
 refine T ?_
 refine aj (T ?_)
 refine bk (α:=Nat×Int) (λx=>λw=>∃ C,Bun cH F w0 C w [] [Cl.sl dU a1 c1 l1]∧ge l1 (x.1) (x.2)=some r) (λx _=>x.1) (λx=>[(0,vs a1 l1.length c1),(3,vi (x.2))]) (fu,0) BH SB ?_
 clear h hI;rintro⟨fuel1,i1⟩ w1 ⟨c2,hI,h⟩
 dsimp only at hI h ⊢
 rcases fuel1 with _ | fuel1
 ·rw[ge]at h;cases h
 rw[ge]at h
 refine aj (T ?_)
 refine TC (λhb h=>?_) λhb h=>?_
 ·refine T ?_
  refine aj (T ?_)
  obtain⟨e1,hx1,h⟩:=ab h
  obtain⟨ad1,cs1,hA1,hr1,hq1⟩:=hI.clat .z hx1
  obtain⟨a2,c3,rfl,hf1⟩:=hr1
  have hI:=hI.ads hf1
  refine sI ?_
  refine T ?_
  refine sB h (λ_ k=>gP hI.lt FS k) (Rc Tryz.func114) λr1 w2 h hI=>?_
  refine TR λhb h=>?_
  refine T ?_
  refine aG ?_
  exact kl (fuel1,av (i1+1))
 refine bl ?_
 refine eZ ?_
 refine aS ?_
 exact RF
theorem uX (hF:dF F w0) {l1:List aC} (hc:AllCl [Cl.sl dU a1 c1 l1] F w0) {r:List UInt8} (h:jS l1=some r):CR F w0 65 #[vs a1 l1.length c1] (str r) []:=by
 refine EN Tryz.func65 Tryz.ntmps65 hF hc λhI=>?_
 rw[jS]at h
 refine T ?_
 refine aj (T ?_)
 refine bk (α:=Nat×(List UInt8)×Int) (λx=>λw=>∃ C,Bun cH F w0 C w [] [Cl.sl dU a1 c1 l1]∧ep l1 (x.1) (x.2.1) (x.2.2)=some r) (λx _=>x.1) (λx=>[(0,vs a1 l1.length c1),(3,(str (x.2.1))),(4,vi (x.2.2))]) (fu,([]:List UInt8),0) BH SB ?_
 clear h hI;rintro⟨fuel1,s1,i1⟩ w1 ⟨c2,hI,h⟩
 dsimp only at hI h ⊢
 rcases fuel1 with _ | fuel1
 ·rw[ep]at h;cases h
 rw[ep]at h
 refine aj (T ?_)
 refine TC (λhb h=>?_) λhb h=>?_
 ·refine T ?_
  refine aj (T ?_)
  refine bO (α:=(List UInt8)) (λ_=>⟨23,[]⟩) (λx=>[(0,vs a1 l1.length c1),(3,(str x)),(4,vi i1)]) (λx=>λw=>∃ C,Bun cH F w0 C w [] [Cl.sl dU a1 c1 l1]∧iZ l1 i1 (ep l1 fuel1) x=some r) ?_ ?_
  ·clear h hI;rintro s2 w2 ⟨c3,hI,h⟩
   try dsimp only at hI h ⊢
   rw[iZ]at h
   refine T ?_
   obtain⟨e1,hx1,h⟩:=ab h
   obtain⟨ad1,cs1,hA1,hr1,hq1⟩:=hI.clat .z hx1
   obtain⟨a2,c4,rfl,hf1⟩:=hr1
   have hI:=hI.ads hf1
   refine sI ?_
   refine T ?_
   refine sB h (λ_ k=>kC hI.lt FS k) (Rc Tryz.func92) λr1 w3 h hI=>?_
   obtain⟨s3,hx4,h⟩:=ab h
   refine sq (aH rfl et et hx4) ?_
   refine T ?_
   refine aG ?_
   exact kl (fuel1,s3,av (i1+1))
  refine TC (λhb h=>?_) λhb h=>?_
  ·refine T ?_
   obtain⟨s4,hx5,h⟩:=ab h
   refine sq (aH rfl et ah hx5) ?_
   refine sa ?_
   refine aG ?_
   exact kj s4
  exact aZ (bI s1 SB BH rfl)
 refine bl ?_
 refine eZ ?_
 refine aS ?_
 exact RF
theorem Ap (hF:dF F w0) {x1:aM} (hc:AllCl [Cl.sl ai a1 c1 x1.Lin.L,Cl.sl dU a2 c2 x1.At] F w0) {r:List UInt8} (h:mQ x1=some r):CR F w0 93 #[(Value.agg (oN x1 a1 c1 a2 c2))] (str r) []:=by
 refine EN Tryz.func93 Tryz.ntmps93 hF hc λhI=>?_
 rw[mQ]at h
 refine sr (lX λb1 c4 w1 hI=>?_)
 refine xp ?_
 refine nk (aj (sr (sq (aq rfl et o0 rfl bc rfl) ?_)))
 refine sq (am (l:=(fS x1.Lin a1 c1)) rfl et pr rfl bc (hI.kblk (l:=(fS x1.Lin a1 c1)) .z rfl).1) ?_
 refine sB h (λ_ k=>gP hI.lt FS k) (Rc Tryz.func114) λr1 w2 h hI=>?_
 refine sq (uH rfl et) ?_
 refine sm ?_
 refine aw (bj rfl rfl rfl rfl) rfl (λhc=>aq rfl et o0 rfl qO rfl) ?_
 refine aw (bj rfl rfl rfl rfl) rfl (λhc=>(aF (v:=(vs a2 x1.At.length c2)) rfl (aI et hc) E5 rfl (hI.kblk (l:=[vs a2 x1.At.length c2]) .z rfl).1)) ?_
 obtain⟨r2,hx3,h⟩:=ab h
 replace hx3:=ax hx3
 refine sU (λhc=>uV hI.lt FS (hx3 hc)) (Rg Tryz.func63) λw3 hI=>?_
 refine aw (bj rfl rfl rfl rfl) rfl (λhc=>uH rfl (aI et hc)) ?_
 refine sq (xP rfl et et) ?_
 refine TC (λhb h=>?_) λhb h=>?_
 ·refine sr (xp ?_)
  refine nk (aO ?_)
  obtain rfl:=ak h
  exact gR (vs:=[(str [])]) Tryz.results93 ⟨aT rfl rfl,af⟩ (fq hI af)
 refine aZ (aS (aj (sr (sq (aq rfl et o0 rfl wN rfl) ?_))))
 refine sq (aF (v:=(str x1.From)) rfl et u9 rfl (hI.kblk (l:=[(str x1.From)]) .z rfl).1) ?_
 refine sq (Gq rfl et ah) ?_
 refine TC (λhb h=>?_) λhb h=>?_
 ·refine aj (sr (sq (aq rfl et o0 rfl qO rfl) ?_))
  refine sq (aF (v:=(vs a2 x1.At.length c2)) rfl et E5 rfl (hI.kblk (l:=[vs a2 x1.At.length c2]) .z rfl).1) ?_
  refine sq (jM rfl E5 et) ?_
  refine sq (tn rfl et ah) ?_
  refine TC (λhb h=>?_) λhb h=>?_
  ·refine sr (xp ?_)
   refine nk (aO ?_)
   obtain rfl:=ak h
   exact gR (vs:=[(str [])]) Tryz.results93 ⟨aT rfl rfl,af⟩ (fq hI af)
  refine aZ (aS (sr (sq (aq rfl et o0 rfl bc rfl) ?_)))
  refine sq (am (l:=(fS x1.Lin a1 c1)) rfl et pr rfl bc (hI.kblk (l:=(fS x1.Lin a1 c1)) .z rfl).1) ?_
  refine sB h (λ_ k=>kC hI.lt FS k) (Rc Tryz.func92) λr3 w4 h hI=>?_
  refine sa ?_
  refine nk (aO ?_)
  obtain rfl:=ak h
  exact gR (vs:=[(str r3)]) Tryz.results93 ⟨aT rfl rfl,af⟩ (fq hI af)
 refine aZ (aS (aj (sr (sq (aq rfl et o0 rfl wN rfl) ?_))))
 refine sq (aF (v:=(str x1.From)) rfl et u9 rfl (hI.kblk (l:=[(str x1.From)]) .z rfl).1) ?_
 refine sB h (λ_ k=>kJ hI.lt trivial k) (Rc Tryz.func61) λr4 w5 h hI=>?_
 refine sq (uH rfl et) ?_
 refine sm ?_
 refine aw (bj rfl rfl rfl rfl) rfl (λhc=>aq rfl et o0 rfl bc rfl) ?_
 refine aw (bj rfl rfl rfl rfl) rfl (λhc=>aq rfl (aI et hc) pr rfl Fk rfl) ?_
 refine aw (bj rfl rfl rfl rfl) rfl (λhc=>(aF (v:=(vi x1.Lin.K)) rfl (aI et hc) u2 rfl (hI.kblk (l:=[vi x1.Lin.K]) .z rfl).1)) ?_
 refine aw (bj rfl rfl rfl rfl) rfl (λhc=>pE rfl (aI et hc) ah) ?_
 refine sq (xP rfl et et) ?_
 refine sm ?_
 refine aw (bj rfl rfl rfl rfl) rfl (λhc=>aq rfl et o0 rfl bc rfl) ?_
 refine aw (bj rfl rfl rfl rfl) rfl (λhc=>aq rfl (aI et hc) pr rfl ul rfl) ?_
 refine aw (bj rfl rfl rfl rfl) rfl (λhc=>(aF (v:=(vs a1 x1.Lin.L.length c1)) rfl (aI et hc) BL rfl (hI.kblk (l:=[vs a1 x1.Lin.L.length c1]) .z rfl).1)) ?_
 refine aw (bj rfl rfl rfl rfl) rfl (λhc=>jM rfl BL (aI et hc)) ?_
 refine aw (bj rfl rfl rfl rfl) rfl (λhc=>tn rfl (aI et hc) ah) ?_
 refine sq (xP rfl et et) ?_
 refine aG ?_
 refine oq (e:=[(1,vp b1 0),(39,(vb (((!r4)||(!decide (x1.Lin.K=0)))||(decide (0<(x1.Lin.L.length:Int))))))]) SB ?_
 refine TC (λhb h=>?_) λhb h=>?_
 ·refine sr (xp ?_)
  refine nk (aO ?_)
  obtain rfl:=ak h
  exact gR (vs:=[(str [])]) Tryz.results93 ⟨aT rfl rfl,af⟩ (fq hI af)
 refine aZ (aS (aj (aL [] false (.c (0,.q) (.c (1,.q) (.c (2,.q) (.c (3,.q) (.c (4,.q) (.c (5,.s) (.c (6,.q) (.c (7,.q) (.c (8,.q) .n))))))))) hI (by kernel_rfl) (by kernel_rfl) ?_)))
 intro w6 hI
 refine iq rfl gn rfl (λw'=>aq rfl et o0 rfl wN rfl) ?_
 refine dl rfl gn rfl (λw' hw'=>(aF (v:=(str x1.From)) rfl et u9 rfl ((hI.kblk (l:=[(str x1.From)]) .z rfl).at_ (SX.any rfl hw')))) (by kernel_rfl) ?_
 obtain⟨s1,hx9,h⟩:=ab h
 refine iq rfl gn rfl (λw'=>aH rfl et ah hx9) ?_
 refine iq rfl gn rfl (λw'=>aq rfl et o0 rfl qO rfl) ?_
 refine dl rfl gn rfl (λw' hw'=>(aF (v:=(vs a2 x1.At.length c2)) rfl et E5 rfl ((hI.kblk (l:=[vs a2 x1.At.length c2]) .z rfl).at_ (SX.any rfl hw')))) (by kernel_rfl) ?_
 obtain⟨r5,hx10,h⟩:=ab h
 refine bF rfl gn rfl (ar (vs:=[vs a2 x1.At.length c2]) rfl Mx ⟨et,af⟩) (Calls.mono (uX hI.lt FS hx10) ?_)
 rintro _ w7 ⟨rfl,hx11,hl5⟩
 refine⟨_,rfl,hx11,?_⟩
 replace hI:=(hI.ext hx11)
 obtain⟨s2,hx12,h⟩:=ab h
 refine iq rfl gn rfl (λw'=>aH rfl et et hx12) ?_
 obtain⟨s3,hx13,h⟩:=ab h
 refine iq rfl gn rfl (λw'=>aH rfl et ah hx13) ?_
 refine iq rfl gn rfl (λw'=>cx rfl et) ?_
 refine pp ?_
 refine aS (aO ?_)
 obtain rfl:=ak h
 exact gR (vs:=[(str s3)]) Tryz.results93 ⟨aT rfl rfl,af⟩ (fq hI af)
theorem zy {rec_:(ae→Option (List UInt8))} (hrec:Mf rec_) (hF:dF F w0) {e1:ae} (hc:AllCl [Cl.sl ai a1 c1 e1.Lin.L,Cl.sl al a2 c2 e1.Idx,Cl.sl an a3 c3 e1.Args] F w0) {r:List UInt8} (h:lQ rec_ e1=some r):CR F w0 45 #[(Value.agg (aA e1 a1 c1 a2 c2 a3 c3))] (str r) []:=by
 refine EN Tryz.func45 Tryz.ntmps45 hF hc λhI=>?_
 rw[lQ]at h
 refine sr (lX λb1 c5 w1 hI=>?_)
 refine T ?_
 refine aj (T ?_)
 refine sB h (λ_ k=>CQ hI.lt trivial k) (Rc Tryz.func88) λr1 w2 h hI=>?_
 refine TC (λhb h=>?_) λhb h=>?_
 ·refine aj (aL [] false (.c (0,.q) (.c (1,.q) (.c (2,.q) (.c (3,.q) (.c (4,.q) (.c (5,.q) (.c (8,.q) (.c (10,.q) (.c (11,.q) (.c (12,.q) (.c (13,.q) (.c (14,.q) (.c (15,.q) (.c (6,.s) (.c (7,.s) (.c (9,.q) (.c (16,.s) (.c (17,.q) (.c (18,.s) (.c (19,.q) (.c (20,.q) .n))))))))))))))))))))) hI (by kernel_rfl) (by kernel_rfl) ?_)
  intro w3 hI
  refine V ?_
  obtain⟨e2,hx3,h⟩:=ab h
  obtain⟨ad1,cs1,hA1,hr1,hq1⟩:=hI.clat .p3 hx3
  obtain⟨a4,c6,a5,c7,a6,c8,rfl,hf1,hf2,hf3⟩:=ci hr1
  have hI:=hI.ads hf1
  have hI:=hI.ads hf2
  have hI:=hI.ads hf3
  refine vI ?_
  refine dl rfl gn rfl (λw' hw'=>(am (l:=(ba e2 a4 c6 a5 c7 a6 c8)) rfl et jZ rfl aJ (hq1.at_ (SX.any rfl hw')))) (by kernel_rfl) ?_
  refine V ?_
  obtain⟨e3,hx4,h⟩:=ab h
  obtain⟨ad2,cs2,hA2,hr2,hq2⟩:=hI.clat .p6 hx4
  obtain⟨a7,c9,a8,c10,a9,c11,rfl,hf4,hf5,hf6⟩:=ci hr2
  have hI:=hI.ads hf4
  have hI:=hI.ads hf5
  have hI:=hI.ads hf6
  refine vI ?_
  refine dl rfl gn rfl (λw' hw'=>(am (l:=(ba e3 a7 c9 a8 c10 a9 c11)) rfl et jZ rfl aJ (hq2.at_ (SX.any rfl hw')))) (by kernel_rfl) ?_
  refine V ?_
  obtain⟨r2,hx5,h⟩:=ab h
  refine bF rfl gn rfl (ar (vs:=[vi e1.Op]) rfl Mu ⟨et,af⟩) (Calls.mono (re hI.lt af hx5) ?_)
  rintro _ w4 ⟨rfl,hx6,hl2⟩
  refine⟨_,rfl,hx6,?_⟩
  replace hI:=(hI.ext hx6)
  obtain⟨r3,hx7,h⟩:=ab h
  refine bF rfl gn rfl (ar (vs:=[(Value.agg (aA e2 a4 c6 a5 c7 a6 c8)),vi r2]) rfl Mv ⟨et,et,af⟩) (Calls.mono (nj hrec hI.lt FS hx7) ?_)
  rintro _ w5 ⟨rfl,hx8,hl3⟩
  refine⟨_,rfl,hx8,?_⟩
  replace hI:=(hI.ext hx8)
  obtain⟨s1,hx9,h⟩:=ab h
  refine iq rfl gn rfl (λw'=>aH rfl et et hx9) ?_
  obtain⟨r4,hx10,h⟩:=ab h
  refine bF rfl gn rfl (ar (vs:=[vi e1.Op]) rfl Mu ⟨et,af⟩) (Calls.mono (re hI.lt af hx10) ?_)
  rintro _ w6 ⟨rfl,hx11,hl4⟩
  refine⟨_,rfl,hx11,?_⟩
  replace hI:=(hI.ext hx11)
  refine V ?_
  obtain⟨r5,hx12,h⟩:=ab h
  refine bF rfl gn rfl (ar (vs:=[(Value.agg (aA e3 a7 c9 a8 c10 a9 c11)),(vi (av (r4+1)))]) rfl Mv ⟨et,et,af⟩) (Calls.mono (nj hrec hI.lt FS hx12) ?_)
  rintro _ w7 ⟨rfl,hx13,hl5⟩
  refine⟨_,rfl,hx13,?_⟩
  replace hI:=(hI.ext hx13)
  obtain⟨s2,hx14,h⟩:=ab h
  refine iq rfl gn rfl (λw'=>aH rfl et et hx14) ?_
  refine V ?_
  exact RF
 refine T ?_
 refine bO (α:=Unit) (λ_=>⟨162,[]⟩) (λ_=>[(1,vp b1 0)]) (λ_=>λw=>∃ C,Bun cH F w0 C w [] [Cl.blk b1 39 (aA e1 a1 c1 a2 c2 a3 c3),Cl.sl ai a1 c1 e1.Lin.L,Cl.sl al a2 c2 e1.Idx,Cl.sl an a3 c3 e1.Args]∧m9 e1 rec_=some r) ?_ ?_
 ·clear h hI;rintro _ w8 ⟨c12,hI,h⟩
  try dsimp only at hI h ⊢
  rw[m9]at h
  refine aj (aL [] false (.c (0,.q) (.c (1,.q) (.c (5,.q) (.c (6,.q) (.c (7,.q) (.c (8,.q) (.c (2,.s) (.c (3,.q) (.c (4,.q) (.c (9,.s) (.c (10,.q) (.c (11,.q) (.c (12,.q) .n))))))))))))) hI (by kernel_rfl) (by kernel_rfl) ?_)
  intro w9 hI
  refine V ?_
  refine dl rfl gn rfl (λw' hw'=>(am (l:=(bU e1.Type_)) rfl et qF rfl bN ((hI.kblk (l:=(bU e1.Type_)) .z rfl).at_ (SX.any rfl hw')))) (by kernel_rfl) ?_
  refine V ?_
  obtain⟨e4,hx15,h⟩:=ab h
  obtain⟨ad3,cs3,hA3,hr3,hq3⟩:=hI.clat .p3 hx15
  obtain⟨a10,c13,a11,c14,a12,c15,rfl,hf7,hf8,hf9⟩:=ci hr3
  have hI:=hI.ads hf7
  have hI:=hI.ads hf8
  have hI:=hI.ads hf9
  refine vI ?_
  refine dl rfl gn rfl (λw' hw'=>(am (l:=(ba e4 a10 c13 a11 c14 a12 c15)) rfl et jZ rfl aJ (hq3.at_ (SX.any rfl hw')))) (by kernel_rfl) ?_
  obtain⟨r6,hx16,h⟩:=ab h
  refine bF rfl gn rfl (ar (vs:=[(Value.agg (fV e1.Type_))]) rfl GV ⟨et,af⟩) (Calls.mono (pQ hI.lt af hx16) ?_)
  rintro _ w10 ⟨rfl,hx17,hl6⟩
  refine⟨_,rfl,hx17,?_⟩
  replace hI:=(hI.ext hx17)
  obtain⟨s3,hx18,h⟩:=ab h
  refine iq rfl gn rfl (λw'=>aH rfl ah et hx18) ?_
  obtain⟨s4,hx19,h⟩:=ab h
  refine iq rfl gn rfl (λw'=>aH rfl et ah hx19) ?_
  obtain⟨r7,hx20,h⟩:=ab h
  refine bF rfl gn rfl (ar (vs:=[(Value.agg (aA e4 a10 c13 a11 c14 a12 c15))]) rfl xy ⟨et,af⟩) (Calls.mono (hrec hI.lt FS hx20) ?_)
  rintro _ w11 ⟨rfl,hx21,hl7⟩
  refine⟨_,rfl,hx21,?_⟩
  replace hI:=(hI.ext hx21)
  obtain⟨s5,hx22,h⟩:=ab h
  refine iq rfl gn rfl (λw'=>aH rfl et et hx22) ?_
  obtain⟨s6,hx23,h⟩:=ab h
  refine iq rfl gn rfl (λw'=>aH rfl et ah hx23) ?_
  refine V ?_
  exact RF
 refine TC (λhb h=>?_) λhb h=>?_
 ·refine aj (aL [] false (.c (0,.q) (.c (1,.q) (.c (4,.q) (.c (5,.q) (.c (6,.q) (.c (7,.q) (.c (2,.s) (.c (3,.q) (.c (8,.s) (.c (9,.q) (.c (10,.q) (.c (11,.q) .n)))))))))))) hI (by kernel_rfl) (by kernel_rfl) ?_)
  intro w12 hI
  refine V ?_
  refine dl rfl gn rfl (λw' hw'=>(am (l:=(bU e1.Type_)) rfl et qF rfl bN ((hI.kblk (l:=(bU e1.Type_)) .z rfl).at_ (SX.any rfl hw')))) (by kernel_rfl) ?_
  refine V ?_
  refine dl rfl gn rfl (λw' hw'=>(am (l:=(bU e1.Type_)) rfl et qF rfl bN ((hI.kblk (l:=(bU e1.Type_)) .z rfl).at_ (SX.any rfl hw')))) (by kernel_rfl) ?_
  refine V ?_
  refine dl rfl gn rfl (λw' hw'=>(am (l:=(oA e1.Val)) rfl et Gy rfl kM ((hI.kblk (l:=(oA e1.Val)) .z rfl).at_ (SX.any rfl hw')))) (by kernel_rfl) ?_
  obtain⟨r8,hx24,h⟩:=ab h
  refine bF rfl gn rfl (ar (vs:=[(Value.agg (fV e1.Type_))]) rfl GV ⟨et,af⟩) (Calls.mono (pQ hI.lt af hx24) ?_)
  rintro _ w13 ⟨rfl,hx25,hl8⟩
  refine⟨_,rfl,hx25,?_⟩
  replace hI:=(hI.ext hx25)
  obtain⟨s7,hx26,h⟩:=ab h
  refine iq rfl gn rfl (λw'=>aH rfl et ah hx26) ?_
  obtain⟨r9,hx27,h⟩:=ab h
  refine bF rfl gn rfl (ar (vs:=[(Value.agg (fV e1.Type_)),(Value.agg (sT e1.Val))]) rfl P9 ⟨et,et,af⟩) (Calls.mono (zH hI.lt af hx27) ?_)
  rintro _ w14 ⟨rfl,hx28,hl9⟩
  refine⟨_,rfl,hx28,?_⟩
  replace hI:=(hI.ext hx28)
  obtain⟨s8,hx29,h⟩:=ab h
  refine iq rfl gn rfl (λw'=>aH rfl et et hx29) ?_
  obtain⟨s9,hx30,h⟩:=ab h
  refine iq rfl gn rfl (λw'=>aH rfl et ah hx30) ?_
  refine V ?_
  exact RF
 refine TC (λhb h=>?_) λhb h=>?_
 ·refine T ?_
  refine sq (am (l:=(fS e1.Lin a1 c1)) rfl et pr rfl bc (hI.kblk (l:=(fS e1.Lin a1 c1)) .z rfl).1) ?_
  refine sB h (λ_ k=>kC hI.lt FS k) (Rc Tryz.func92) λr10 w15 h hI=>?_
  obtain⟨s10,hx33,h⟩:=ab h
  refine sq (aH rfl ah et hx33) ?_
  obtain⟨s11,hx34,h⟩:=ab h
  refine sq (aH rfl et ah hx34) ?_
  exact RF
 refine TC (λhb h=>?_) λhb h=>?_
 ·refine T ?_
  obtain⟨s12,hx35,h⟩:=ab h
  refine sq (aH rfl et ah hx35) ?_
  refine T ?_
  refine aj (T ?_)
  refine bk (α:=Nat×(List UInt8)×Int) (λx=>λw=>∃ C,Bun cH F w0 C w [] [Cl.blk b1 39 (aA e1 a1 c1 a2 c2 a3 c3),Cl.sl ai a1 c1 e1.Lin.L,Cl.sl al a2 c2 e1.Idx,Cl.sl an a3 c3 e1.Args]∧ef e1 (x.1) (x.2.1) (x.2.2)=some r) (λx _=>x.1) (λx=>[(1,vp b1 0),(4,(str (x.2.1))),(5,vi (x.2.2))]) (fu,s12,0) BH SB ?_
  clear h hI;rintro⟨fuel1,s13,i1⟩ w16 ⟨c16,hI,h⟩
  dsimp only at hI h ⊢
  rcases fuel1 with _ | fuel1
  ·rw[ef]at h;cases h
  rw[ef]at h
  refine aj (T ?_)
  refine TC (λhb h=>?_) λhb h=>?_
  ·refine T ?_
   refine aj (T ?_)
   refine bO (α:=(List UInt8)) (λ_=>⟨162,[]⟩) (λx=>[(1,vp b1 0),(4,(str x)),(5,vi i1)]) (λx=>λw=>∃ C,Bun cH F w0 C w [] [Cl.blk b1 39 (aA e1 a1 c1 a2 c2 a3 c3),Cl.sl ai a1 c1 e1.Lin.L,Cl.sl al a2 c2 e1.Idx,Cl.sl an a3 c3 e1.Args]∧jm e1 i1 (ef e1 fuel1) x=some r) ?_ ?_
   ·clear h hI;rintro s14 w17 ⟨c17,hI,h⟩
    try dsimp only at hI h ⊢
    rw[jm]at h
    refine T ?_
    obtain⟨e5,hx36,h⟩:=ab h
    obtain⟨ad4,cs4,hA4,hr4,hq4⟩:=hI.clat .p2 hx36
    obtain⟨a13,c18,a14,c19,rfl,hf10,hf11⟩:=hr4
    have hI:=hI.ads hf10
    have hI:=hI.ads hf11
    refine sI ?_
    refine T ?_
    refine sB h (λ_ k=>Ap hI.lt FS k) (Rc Tryz.func93) λr11 w18 h hI=>?_
    obtain⟨s15,hx39,h⟩:=ab h
    refine sq (aH rfl et et hx39) ?_
    refine T ?_
    refine aG ?_
    exact kl (fuel1,s15,av (i1+1))
   refine TC (λhb h=>?_) λhb h=>?_
   ·refine T ?_
    obtain⟨s16,hx40,h⟩:=ab h
    refine sq (aH rfl et ah hx40) ?_
    refine sa ?_
    refine aG ?_
    exact kj s16
   exact aZ (bI s13 SB BH rfl)
  refine bl ?_
  refine eZ ?_
  refine aS ?_
  refine T ?_
  obtain⟨s17,hx41,h⟩:=ab h
  refine sq (aH rfl et ah hx41) ?_
  exact RF
 refine TC (λhb h=>?_) λhb h=>?_
 ·refine T ?_
  obtain⟨e6,hx42,h⟩:=ab h
  obtain⟨ad5,cs5,hA5,hr5,hq5⟩:=hI.clat .p3 hx42
  obtain⟨a15,c20,a16,c21,a17,c22,rfl,hf12,hf13,hf14⟩:=ci hr5
  have hI:=hI.ads hf12
  have hI:=hI.ads hf13
  have hI:=hI.ads hf14
  refine sI ?_
  refine T ?_
  refine sB h (λ_ k=>nj hrec hI.lt FS k) (Rc Tryz.func89) λr12 w19 h hI=>?_
  obtain⟨s18,hx45,h⟩:=ab h
  refine sq (aH rfl ah et hx45) ?_
  exact RF
 refine TC (λhb h=>?_) λhb h=>?_
 ·refine T ?_
  obtain⟨e7,hx46,h⟩:=ab h
  obtain⟨ad6,cs6,hA6,hr6,hq6⟩:=hI.clat .p3 hx46
  obtain⟨a18,c23,a19,c24,a20,c25,rfl,hf15,hf16,hf17⟩:=ci hr6
  have hI:=hI.ads hf15
  have hI:=hI.ads hf16
  have hI:=hI.ads hf17
  refine sI ?_
  refine T ?_
  refine sB h (λ_ k=>nj hrec hI.lt FS k) (Rc Tryz.func89) λr13 w20 h hI=>?_
  obtain⟨s19,hx49,h⟩:=ab h
  refine sq (aH rfl ah et hx49) ?_
  exact RF
 refine TC (λhb h=>?_) λhb h=>?_
 ·refine aj (aL [] false (.c (0,.q) (.c (1,.q) (.c (2,.q) (.c (3,.q) (.c (7,.q) (.c (8,.q) (.c (9,.q) (.c (10,.q) (.c (4,.s) (.c (5,.q) (.c (6,.q) (.c (11,.s) (.c (12,.q) (.c (13,.q) (.c (14,.q) .n))))))))))))))) hI (by kernel_rfl) (by kernel_rfl) ?_)
  intro w21 hI
  refine V ?_
  obtain⟨e8,hx50,h⟩:=ab h
  obtain⟨ad7,cs7,hA7,hr7,hq7⟩:=hI.clat .p3 hx50
  obtain⟨a21,c26,a22,c27,a23,c28,rfl,hf18,hf19,hf20⟩:=ci hr7
  have hI:=hI.ads hf18
  have hI:=hI.ads hf19
  have hI:=hI.ads hf20
  refine vI ?_
  refine dl rfl gn rfl (λw' hw'=>(am (l:=(ba e8 a21 c26 a22 c27 a23 c28)) rfl et jZ rfl aJ (hq7.at_ (SX.any rfl hw')))) (by kernel_rfl) ?_
  refine V ?_
  obtain⟨e9,hx51,h⟩:=ab h
  obtain⟨ad8,cs8,hA8,hr8,hq8⟩:=hI.clat .p6 hx51
  obtain⟨a24,c29,a25,c30,a26,c31,rfl,hf21,hf22,hf23⟩:=ci hr8
  have hI:=hI.ads hf21
  have hI:=hI.ads hf22
  have hI:=hI.ads hf23
  refine vI ?_
  refine dl rfl gn rfl (λw' hw'=>(am (l:=(ba e9 a24 c29 a25 c30 a26 c31)) rfl et jZ rfl aJ (hq8.at_ (SX.any rfl hw')))) (by kernel_rfl) ?_
  obtain⟨r14,hx52,h⟩:=ab h
  refine bF rfl gn rfl (ar (vs:=[(Value.agg (aA e8 a21 c26 a22 c27 a23 c28))]) rfl xy ⟨et,af⟩) (Calls.mono (hrec hI.lt FS hx52) ?_)
  rintro _ w22 ⟨rfl,hx53,hl14⟩
  refine⟨_,rfl,hx53,?_⟩
  replace hI:=(hI.ext hx53)
  obtain⟨s20,hx54,h⟩:=ab h
  refine iq rfl gn rfl (λw'=>aH rfl ah et hx54) ?_
  obtain⟨s21,hx55,h⟩:=ab h
  refine iq rfl gn rfl (λw'=>aH rfl et ah hx55) ?_
  obtain⟨r15,hx56,h⟩:=ab h
  refine bF rfl gn rfl (ar (vs:=[(Value.agg (aA e9 a24 c29 a25 c30 a26 c31))]) rfl xy ⟨et,af⟩) (Calls.mono (hrec hI.lt FS hx56) ?_)
  rintro _ w23 ⟨rfl,hx57,hl15⟩
  refine⟨_,rfl,hx57,?_⟩
  replace hI:=(hI.ext hx57)
  obtain⟨s22,hx58,h⟩:=ab h
  refine iq rfl gn rfl (λw'=>aH rfl et et hx58) ?_
  obtain⟨s23,hx59,h⟩:=ab h
  refine iq rfl gn rfl (λw'=>aH rfl et ah hx59) ?_
  refine V ?_
  exact RF
 refine TC (λhb h=>?_) λhb h=>?_
 ·refine aj (aL [] false (.c (0,.q) (.c (1,.q) (.c (2,.q) (.c (3,.q) (.c (7,.q) (.c (8,.q) (.c (9,.q) (.c (10,.q) (.c (4,.s) (.c (5,.q) (.c (6,.q) (.c (11,.s) (.c (12,.q) (.c (13,.q) (.c (14,.q) .n))))))))))))))) hI (by kernel_rfl) (by kernel_rfl) ?_)
  intro w24 hI
  refine V ?_
  obtain⟨e10,hx60,h⟩:=ab h
  obtain⟨ad9,cs9,hA9,hr9,hq9⟩:=hI.clat .p3 hx60
  obtain⟨a27,c32,a28,c33,a29,c34,rfl,hf24,hf25,hf26⟩:=ci hr9
  have hI:=hI.ads hf24
  have hI:=hI.ads hf25
  have hI:=hI.ads hf26
  refine vI ?_
  refine dl rfl gn rfl (λw' hw'=>(am (l:=(ba e10 a27 c32 a28 c33 a29 c34)) rfl et jZ rfl aJ (hq9.at_ (SX.any rfl hw')))) (by kernel_rfl) ?_
  refine V ?_
  obtain⟨e11,hx61,h⟩:=ab h
  obtain⟨ad10,cs10,hA10,hr10,hq10⟩:=hI.clat .p6 hx61
  obtain⟨a30,c35,a31,c36,a32,c37,rfl,hf27,hf28,hf29⟩:=ci hr10
  have hI:=hI.ads hf27
  have hI:=hI.ads hf28
  have hI:=hI.ads hf29
  refine vI ?_
  refine dl rfl gn rfl (λw' hw'=>(am (l:=(ba e11 a30 c35 a31 c36 a32 c37)) rfl et jZ rfl aJ (hq10.at_ (SX.any rfl hw')))) (by kernel_rfl) ?_
  obtain⟨r16,hx62,h⟩:=ab h
  refine bF rfl gn rfl (ar (vs:=[(Value.agg (aA e10 a27 c32 a28 c33 a29 c34))]) rfl xy ⟨et,af⟩) (Calls.mono (hrec hI.lt FS hx62) ?_)
  rintro _ w25 ⟨rfl,hx63,hl16⟩
  refine⟨_,rfl,hx63,?_⟩
  replace hI:=(hI.ext hx63)
  obtain⟨s24,hx64,h⟩:=ab h
  refine iq rfl gn rfl (λw'=>aH rfl ah et hx64) ?_
  obtain⟨s25,hx65,h⟩:=ab h
  refine iq rfl gn rfl (λw'=>aH rfl et ah hx65) ?_
  obtain⟨r17,hx66,h⟩:=ab h
  refine bF rfl gn rfl (ar (vs:=[(Value.agg (aA e11 a30 c35 a31 c36 a32 c37))]) rfl xy ⟨et,af⟩) (Calls.mono (hrec hI.lt FS hx66) ?_)
  rintro _ w26 ⟨rfl,hx67,hl17⟩
  refine⟨_,rfl,hx67,?_⟩
  replace hI:=(hI.ext hx67)
  obtain⟨s26,hx68,h⟩:=ab h
  refine iq rfl gn rfl (λw'=>aH rfl et et hx68) ?_
  obtain⟨s27,hx69,h⟩:=ab h
  refine iq rfl gn rfl (λw'=>aH rfl et ah hx69) ?_
  refine V ?_
  exact RF
 refine TC (λhb h=>?_) λhb h=>?_
 ·refine aj (aL [] false (.c (0,.q) (.c (1,.q) (.c (2,.q) (.c (3,.q) (.c (7,.q) (.c (8,.q) (.c (9,.q) (.c (10,.q) (.c (14,.q) (.c (15,.q) (.c (16,.q) (.c (17,.q) (.c (4,.s) (.c (5,.q) (.c (6,.q) (.c (11,.s) (.c (12,.q) (.c (13,.q) (.c (18,.s) (.c (19,.q) (.c (20,.q) (.c (21,.q) .n)))))))))))))))))))))) hI (by kernel_rfl) (by kernel_rfl) ?_)
  intro w27 hI
  refine V ?_
  obtain⟨e12,hx70,h⟩:=ab h
  obtain⟨ad11,cs11,hA11,hr11,hq11⟩:=hI.clat .p3 hx70
  obtain⟨a33,c38,a34,c39,a35,c40,rfl,hf30,hf31,hf32⟩:=ci hr11
  have hI:=hI.ads hf30
  have hI:=hI.ads hf31
  have hI:=hI.ads hf32
  refine vI ?_
  refine dl rfl gn rfl (λw' hw'=>(am (l:=(ba e12 a33 c38 a34 c39 a35 c40)) rfl et jZ rfl aJ (hq11.at_ (SX.any rfl hw')))) (by kernel_rfl) ?_
  refine V ?_
  obtain⟨e13,hx71,h⟩:=ab h
  obtain⟨ad12,cs12,hA12,hr12,hq12⟩:=hI.clat .p6 hx71
  obtain⟨a36,c41,a37,c42,a38,c43,rfl,hf33,hf34,hf35⟩:=ci hr12
  have hI:=hI.ads hf33
  have hI:=hI.ads hf34
  have hI:=hI.ads hf35
  refine vI ?_
  refine dl rfl gn rfl (λw' hw'=>(am (l:=(ba e13 a36 c41 a37 c42 a38 c43)) rfl et jZ rfl aJ (hq12.at_ (SX.any rfl hw')))) (by kernel_rfl) ?_
  refine V ?_
  obtain⟨e14,hx72,h⟩:=ab h
  obtain⟨ad13,cs13,hA13,hr13,hq13⟩:=hI.clat .p9 hx72
  obtain⟨a39,c44,a40,c45,a41,c46,rfl,hf36,hf37,hf38⟩:=ci hr13
  have hI:=hI.ads hf36
  have hI:=hI.ads hf37
  have hI:=hI.ads hf38
  refine vI ?_
  refine dl rfl gn rfl (λw' hw'=>(am (l:=(ba e14 a39 c44 a40 c45 a41 c46)) rfl et jZ rfl aJ (hq13.at_ (SX.any rfl hw')))) (by kernel_rfl) ?_
  obtain⟨r18,hx73,h⟩:=ab h
  refine bF rfl gn rfl (ar (vs:=[(Value.agg (aA e12 a33 c38 a34 c39 a35 c40))]) rfl xy ⟨et,af⟩) (Calls.mono (hrec hI.lt FS hx73) ?_)
  rintro _ w28 ⟨rfl,hx74,hl18⟩
  refine⟨_,rfl,hx74,?_⟩
  replace hI:=(hI.ext hx74)
  obtain⟨s28,hx75,h⟩:=ab h
  refine iq rfl gn rfl (λw'=>aH rfl ah et hx75) ?_
  obtain⟨s29,hx76,h⟩:=ab h
  refine iq rfl gn rfl (λw'=>aH rfl et ah hx76) ?_
  obtain⟨r19,hx77,h⟩:=ab h
  refine bF rfl gn rfl (ar (vs:=[(Value.agg (aA e13 a36 c41 a37 c42 a38 c43))]) rfl xy ⟨et,af⟩) (Calls.mono (hrec hI.lt FS hx77) ?_)
  rintro _ w29 ⟨rfl,hx78,hl19⟩
  refine⟨_,rfl,hx78,?_⟩
  replace hI:=(hI.ext hx78)
  obtain⟨s30,hx79,h⟩:=ab h
  refine iq rfl gn rfl (λw'=>aH rfl et et hx79) ?_
  obtain⟨s31,hx80,h⟩:=ab h
  refine iq rfl gn rfl (λw'=>aH rfl et ah hx80) ?_
  obtain⟨r20,hx81,h⟩:=ab h
  refine bF rfl gn rfl (ar (vs:=[(Value.agg (aA e14 a39 c44 a40 c45 a41 c46))]) rfl xy ⟨et,af⟩) (Calls.mono (hrec hI.lt FS hx81) ?_)
  rintro _ w30 ⟨rfl,hx82,hl20⟩
  refine⟨_,rfl,hx82,?_⟩
  replace hI:=(hI.ext hx82)
  obtain⟨s32,hx83,h⟩:=ab h
  refine iq rfl gn rfl (λw'=>aH rfl et et hx83) ?_
  obtain⟨s33,hx84,h⟩:=ab h
  refine iq rfl gn rfl (λw'=>aH rfl et ah hx84) ?_
  refine V ?_
  exact RF
 exact aZ (bI () ⟨rfl,af⟩ BH rfl)
theorem zx (n:Nat):Mf (j7 n):=by
 induction n with
 | zero=>intro F;intros;rename_i h;cases h
 | succ n ih=>intro F;intros;apply zy ih<;>assumption
theorem CO:Mf (sb):=zx fu
theorem CU (hF:dF F w0) {e1:ae} (hc:AllCl [Cl.sl ai a1 c1 e1.Lin.L,Cl.sl al a2 c2 e1.Idx,Cl.sl an a3 c3 e1.Args] F w0) {r:List UInt8} (h:nU e1=some r):CR F w0 21 #[(Value.agg (aA e1 a1 c1 a2 c2 a3 c3))] (str r) []:=by
 refine EN Tryz.func21 Tryz.ntmps21 hF hc λhI=>?_
 rw[nU]at h
 refine sr (lX λb1 c5 w1 hI=>?_)
 refine T ?_
 refine aj (sr (sq (am (l:=(ba e1 a1 c1 a2 c2 a3 c3)) rfl et jZ rfl aJ (hI.kblk (l:=(ba e1 a1 c1 a2 c2 a3 c3)) .z rfl).1) ?_))
 refine sB h (λ_ k=>xb hI.lt FS k) (Rc Tryz.func44) λr1 w2 h hI=>?_
 refine TR λhb h=>?_
 refine T ?_
 refine sq (am (l:=(ba e1 a1 c1 a2 c2 a3 c3)) rfl et jZ rfl aJ (hI.kblk (l:=(ba e1 a1 c1 a2 c2 a3 c3)) .z rfl).1) ?_
 refine sB h (λ_ k=>CO hI.lt FS k) (Rc Tryz.func45) λr2 w3 h hI=>?_
 exact RF
theorem cF {r1:aa} (hI:Bun C0 F w0 C0 w0 [MO.box b1 67 (ac r1 a1 c1)] [Cl.sl ag a1 c1 r1.l,au]) {r:bZ (List (List UInt8)×aa)} (h:eS r1=some r):CP C0 F w0 99 #[vp b1 0] r λrx e w=>∃ a2 c2 a3 c3 C,e= .returned (vs a2 rx.1.length c2)∧Bun C0 F w0 C w [MO.box b1 67 (ac rx.2 a3 c3)] [Cl.sl be a2 c2 rx.1,Cl.sl ag a3 c3 rx.2.l]:=by
 refine fa (l:=[vp b1 0]) Tryz.func99 rfl Tryz.ntmps99 rfl ?_
 rw[eS]at h
 refine T ?_
 obtain⟨c4,f1,hB,hl1,hk1⟩:=hI.hands (.l .n)
 refine dh h (λ_ hx1=>bT HS hx1) (jL hk1) (Rc Tryz.func128) ?_
 rintro⟨r2,s1⟩ hx1 h _ w1 ⟨a4,c5,c6,rfl,hB2⟩
 try dsimp only at h
 refine HN hk1 hB2 λc7 hI=>?_
 refine⟨_,rfl,?_⟩
 refine ll hI be ([r2]:List (List UInt8)) lw Rr λb2 c8 w2 hI=>?_
 refine T ?_
 refine aj (T ?_)
 refine bk (α:=Nat×(List (List UInt8))×aa×(Option Addr)×Nat×(Option Addr)×Nat) (λx=>λw=>∃ C,Bun C0 F w0 C w [Q6 be 9 (x.2.2.2.1) (x.2.2.2.2.1) (x.2.1),MO.box b1 67 (ac (x.2.2.1) (x.2.2.2.2.2.1) (x.2.2.2.2.2.2))] [Cl.sl ag (x.2.2.2.2.2.1) (x.2.2.2.2.2.2) (x.2.2.1).l,au]∧bV (x.1) (x.2.1) (x.2.2.1)=some r) (λx _=>x.1) (λx=>[(0,vp b1 0),(3,vs (x.2.2.2.1) (x.2.1).length (x.2.2.2.2.1))]) (fu,([r2]:List (List UInt8)),s1,some ⟨b2,0,none⟩,1,a4,c5) BH SB ?_
 clear h hI;rintro⟨fuel1,lv,r3,a5,c9,a6,c10⟩ w3 ⟨c11,hI,h⟩
 dsimp only at hI h ⊢
 rcases fuel1 with _ | fuel1
 ·rw[bV]at h;cases h
 rw[bV]at h
 refine aj (T ?_)
 obtain⟨c12,f2,hB,hl2,hk2⟩:=hI.hands (.r (.l .n))
 obtain⟨⟨r4,s2⟩,hx2,h⟩:=ab h
 try dsimp only at h
 refine bf gn rfl (Rc Tryz.func68) (Calls.mono (aQ HS hx2) ?_)
 rintro _ w4 ⟨a7,c13,c14,rfl,hB2⟩
 refine HN hk2 hB2 λc15 hI=>?_
 refine⟨_,rfl,?_⟩
 refine TC (λhb h=>?_) λhb h=>?_
 ·have hk3:=hb
  refine T ?_
  obtain⟨c16,f3,hB,hl3,hk4⟩:=hI.hands (.l (.r .n))
  refine dh h (λ_ hx3=>bT HS hx3) (jL hk4) (Rc Tryz.func128) ?_
  rintro⟨r5,s3⟩ hx3 h _ w5 ⟨a8,c17,c18,rfl,hB2⟩
  try dsimp only at h
  refine HN hk4 hB2 λc19 hI=>?_
  refine⟨_,rfl,?_⟩
  refine ll hI be ([r5]:List (List UInt8)) lw Rr λb3 c20 w6 hI=>?_
  obtain⟨zs1,hx4,h⟩:=ab h
  refine qn (xs:=lv) (ys:=([r5]:List (List UInt8))) hI .p2 (hI.rd .z) hx4 gn rfl rfl K1 lw rfl rfl et et ?_
  intro a9 c21 c22 w7 hI
  refine sa ?_
  refine aG ?_
  exact kl (fuel1,zs1,s3,a9,c21,a8,c17)
 refine bl ?_
 refine eZ ?_
 refine aS ?_
 refine T ?_
 refine aO ?_
 obtain⟨c23,hI⟩:=hI.release .p1
 obtain rfl:=ak h
 refine QG ?_
 exact .inl ⟨_,rfl,a5,c9,a7,c13,_,rfl,hI.arr GO SU⟩
theorem gq {r1:aa} (hI:Bun C0 F w0 C0 w0 [MO.box b1 67 (ac r1 a1 c1)] [Cl.sl ag a1 c1 r1.l,au]) {r:bZ (aD×aa)} (h:eI r1=some r):CP C0 F w0 100 #[vp b1 0] r λrx e w=>∃ a2 c2 a3 c3 C,e= .returned (Value.agg (kK rx.1 a2 c2))∧Bun C0 F w0 C w [MO.box b1 67 (ac rx.2 a3 c3)] [Cl.sl ai a2 c2 rx.1.Lin.L,Cl.sl ag a3 c3 rx.2.l]:=by
 refine fa (l:=[vp b1 0]) Tryz.func100 rfl Tryz.ntmps100 rfl ?_
 rw[eI]at h
 refine sr (cY (cs:=uf) hI gn rfl rfl Iw rfl ?_)
 intro b2 c4 w1 hI
 refine nk (bO (α:=aa×(Option Addr)×Nat) (λ_=>⟨28,[]⟩) (λx=>[(0,vp b1 0),(2,vp b2 0)]) (λx=>λw=>∃ C,Bun C0 F w0 C w [MO.box b1 67 (ac (x.1) (x.2.1) (x.2.2)),MO.box b2 107 uf] [Cl.sl ag (x.2.1) (x.2.2) (x.1).l,au]∧dM (x.1)=some r) ?_ ?_)
 ·clear h hI;rintro⟨r2,a4,c5⟩ w2 ⟨c6,hI,h⟩
  try dsimp only at hI h ⊢
  rw[dM]at h
  refine T ?_
  refine lS λc7 w3 hI=>?_
  refine T ?_
  obtain⟨c8,f1,hB,hl1,hk1⟩:=hI.hands (.l (.r .n))
  obtain⟨⟨r3,s1⟩,hx1,h⟩:=ab h
  try dsimp only at h
  refine bf gn rfl (Rc Tryz.func68) (Calls.mono (aQ HS hx1) ?_)
  rintro _ w4 ⟨a5,c9,c10,rfl,hB2⟩
  refine HN hk1 hB2 λc11 hI=>?_
  refine⟨_,rfl,?_⟩
  refine sq (aK (vs:=[(1,vb r3)]) (cs:=#[vi 0,vs none 0 0,vb r3]) rfl ⟨rfl,et,af⟩ (by kernel_rfl)) ?_
  refine lN λb3 c12 w5 hI=>?_
  refine bJ (new:=[vi 0,vs none 0 0,vb r3]) (cs':=#[vi 0,vs none 0 0,vb r3]) hI .z gn rfl rfl et et rfl tw rfl rfl rfl ?_
  intro c13 w6 hI
  refine nk (bO (α:=aa×(Option Addr)×Nat) (λ_=>⟨28,[]⟩) (λx=>[(0,vp b1 0),(2,vp b2 0),(3,vp b3 0)]) (λx=>λw=>∃ C,Bun C0 F w0 C w [MO.box b1 67 (ac (x.1) (x.2.1) (x.2.2)),MO.box b2 107 uf,MO.box b3 107 #[vi 0,vs none 0 0,vb r3]] [Cl.sl ag (x.2.1) (x.2.2) (x.1).l,au]∧cu r3 (x.1)=some r) ?_ ?_)
  ·clear h hI;rintro⟨r4,a6,c14⟩ w7 ⟨c15,hI,h⟩
   try dsimp only at hI h ⊢
   rw[cu]at h
   refine T ?_
   obtain⟨c16,f2,hB,hl2,hk2⟩:=hI.hands (.l (.r (.r .n)))
   refine dh h (λ_ hx2=>d7 HS hx2) (jL hk2) (Rc Tryz.func31) ?_
   rintro⟨r5,s2⟩ hx2 h _ w8 ⟨a7,c17,a8,c18,c19,rfl,hB2⟩
   try dsimp only at h
   refine HN hk2 hB2 λc20 hI=>?_
   refine⟨_,rfl,?_⟩
   refine T ?_
   refine bJ (new:=(fS r5 a7 c17)) (cs':=#[vi r5.K,vs a7 r5.L.length c17,vb r3]) hI .p2 gn rfl rfl et et rfl bc rfl rfl rfl ?_
   intro c21 w9 hI
   refine T ?_
   refine bJ (new:=[vi r5.K,vs a7 r5.L.length c17,vb r3]) (cs':=#[vi r5.K,vs a7 r5.L.length c17,vb r3]) hI .p1 gn rfl rfl et et rfl tw rfl rfl rfl ?_
   intro c22 w10 hI
   refine nk (aO ?_)
   obtain rfl:=ak h
   refine QG ?_
   exact .inl ⟨_,rfl,a7,c17,a8,c18,_,rfl,hI.arr GO SU⟩
  refine TC (λhb h=>?_) λhb h=>?_
  ·refine T ?_
   obtain⟨c23,f3,hB,hl3,hk3⟩:=hI.hands (.r (.l (.r .n)))
   refine dh h (λ_ hx3=>ap HS hx3) (jL hk3) (Rc Tryz.func104) ?_
   rintro⟨r6,s3⟩ hx3 h _ w11 ⟨a9,c24,c25,rfl,hB2⟩
   try dsimp only at h
   refine HN hk3 hB2 λc26 hI=>?_
   refine⟨_,rfl,?_⟩
   refine aG ?_
   exact kj (s3,a9,c24)
  exact aZ (bI (s1,a5,c9) SB BH rfl)
 refine T ?_
 refine sB h (λ_ k=>bG NE ⟨(hI.get0 .z),hI.lendBox .p1,af⟩ k) (Rc Tryz.func121) λr7 w12 h hI=>?_
 refine TC (λhb h=>?_) λhb h=>?_
 ·refine T ?_
  obtain⟨c27,f4,hB,hl5,hk4⟩:=hI.hands (.r (.l .n))
  refine dh h (λ_ hx6=>cg HS hx6) (jL hk4) (Rc Tryz.func103) ?_
  rintro⟨r8,s4⟩ hx6 h _ w13 ⟨a10,c28,c29,rfl,hB2⟩
  try dsimp only at h
  refine HN hk4 hB2 λc30 hI=>?_
  refine⟨_,rfl,?_⟩
  refine aG ?_
  exact kj (s4,a10,c28)
 exact aZ (bI (r1,a1,c1) SB BH rfl)
theorem iA {r1:aa} (hI:Bun C0 F w0 C0 w0 [MO.box b1 67 (ac r1 a1 c1)] [Cl.sl ag a1 c1 r1.l,au]) {r:bZ (fE×aa)} (h:gj r1=some r):CP C0 F w0 101 #[vp b1 0] r λrx e w=>∃ a2 c2 a3 c3 C,e= .returned (Value.agg (KF rx.1 a2 c2))∧Bun C0 F w0 C w [MO.box b1 67 (ac rx.2 a3 c3)] [Cl.sl dU a2 c2 rx.1.Dims,Cl.sl ag a3 c3 rx.2.l]:=by
 refine fa (l:=[vp b1 0]) Tryz.func101 rfl Tryz.ntmps101 rfl ?_
 rw[gj]at h
 refine sr (cY (cs:=#[(str []),vi 0,vi 0,vi 0,vi 0,vi 0,vs none 0 0]) hI gn rfl rfl KQ rfl ?_)
 intro b2 c4 w1 hI
 refine T ?_
 obtain⟨c5,f1,hB,hl1,hk1⟩:=hI.hands (.r (.l .n))
 refine dh h (λ_ hx1=>bT HS hx1) (jL hk1) (Rc Tryz.func128) ?_
 rintro⟨r2,s1⟩ hx1 h _ w2 ⟨a4,c6,c7,rfl,hB2⟩
 try dsimp only at h
 refine HN hk1 hB2 λc8 hI=>?_
 refine⟨_,rfl,?_⟩
 refine sq (aK (vs:=[(0,(str r2))]) (cs:=#[(str r2),vi 0,vi 0,vi 0,vi 0,vi 0,vs none 0 0]) rfl ⟨rfl,et,af⟩ (by kernel_rfl)) ?_
 refine lN λb3 c9 w3 hI=>?_
 refine bJ (new:=[(str r2),vi 0,vi 0,vi 0,vi 0,vi 0,vs none 0 0]) (cs':=#[(str r2),vi 0,vi 0,vi 0,vi 0,vi 0,vs none 0 0]) hI .z gn rfl rfl et et rfl GK rfl rfl rfl ?_
 intro c10 w4 hI
 refine T ?_
 obtain⟨c11,f2,hB,hl2,hk2⟩:=hI.hands (.r (.l (.r .n)))
 refine dh h (λ_ hx2=>ap HS hx2) (jL hk2) (Rc Tryz.func104) ?_
 rintro⟨r3,s2⟩ hx2 h _ w5 ⟨a5,c12,c13,rfl,hB2⟩
 try dsimp only at h
 refine HN hk2 hB2 λc14 hI=>?_
 refine⟨_,rfl,?_⟩
 refine T ?_
 obtain⟨c15,f3,hB,hl3,hk3⟩:=hI.hands (.l (.r (.r .n)))
 refine dh h (λ_ hx3=>gW HS hx3) (jL hk3) (Rc Tryz.func174) ?_
 rintro⟨r4,s3⟩ hx3 h _ w6 ⟨a6,c16,c17,rfl,hB2⟩
 try dsimp only at h
 refine HN hk3 hB2 λc18 hI=>?_
 refine⟨_,rfl,?_⟩
 refine T ?_
 refine bJ (new:=(bU r4)) (cs':=#[(str r2),vi r4.Kind,vi r4.Bits,vi r4.Frac,vi r4.Round,vi r4.Over,vs none 0 0]) hI .p1 gn rfl rfl et et rfl bN rfl rfl rfl ?_
 intro c19 w7 hI
 refine T ?_
 obtain⟨c20,f4,hB,hl4,hk4⟩:=hI.hands (.l (.r (.r .n)))
 refine dh h (λ_ hx4=>ap HS hx4) (jL hk4) (Rc Tryz.func104) ?_
 rintro⟨r5,s4⟩ hx4 h _ w8 ⟨a7,c21,c22,rfl,hB2⟩
 try dsimp only at h
 refine HN hk4 hB2 λc23 hI=>?_
 refine⟨_,rfl,?_⟩
 refine T ?_
 obtain⟨c24,f5,hB,hl5,hk5⟩:=hI.hands (.l (.r (.r .n)))
 refine dh h (λ_ hx5=>nH HS hx5) (jL hk5) (Rc Tryz.func175) ?_
 rintro⟨r6,s5⟩ hx5 h _ w9 ⟨a8,c25,a9,c26,c27,rfl,hB2⟩
 try dsimp only at h
 refine HN hk5 hB2 λc28 hI=>?_
 refine⟨_,rfl,?_⟩
 refine T ?_
 refine lS λc29 w10 hI=>?_
 refine T ?_
 refine bJ (new:=[(str r2),vi r4.Kind,vi r4.Bits,vi r4.Frac,vi r4.Round,vi r4.Over,vs a8 r6.length c25]) (cs':=#[(str r2),vi r4.Kind,vi r4.Bits,vi r4.Frac,vi r4.Round,vi r4.Over,vs a8 r6.length c25]) hI .p2 gn rfl rfl et et rfl GK rfl rfl rfl ?_
 intro c30 w11 hI
 refine nk (aO ?_)
 obtain rfl:=ak h
 refine QG ?_
 exact .inl ⟨_,rfl,a8,c25,a9,c26,_,rfl,hI.arr GO SU⟩
end Go.Proofs.YtmhoikfoogemnaaGreatDoor
