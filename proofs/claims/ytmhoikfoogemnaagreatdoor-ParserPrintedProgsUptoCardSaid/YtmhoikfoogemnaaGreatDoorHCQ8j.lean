import Derived.Test.YtmhoikfoogemnaaGreatDoorHCQ8i
import Derived.Test.YtmhoikfoogemnaaGreatDoorHLfH
namespace Go.Proofs.YtmhoikfoogemnaaGreatDoor
open Go Go.RowKit Go.Vc
set_option maxRecDepth 100000
set_option maxHeartbeats 4000000
set_option linter.unusedVariables false
set_option linter.unusedSimpArgs false
variable {σ:Type} {C0 F:NP} {w0:World} {a1 a2 a3 a4 a5 a6 a7 a8 a9 a10 a11 a12:Option Addr} {b1 b2 b3 b4 b5 b6 b7 b8 b9 b10 b11 b12 c1 c2 c3 c4 c5 c6 c7 c8 c9 c10 c11 c12:Nat}
theorem uc (hF:dF F w0) {a1 b1:List (List UInt8)} (hc:AllCl [Cl.sl be a2 c1 a1,Cl.sl be a3 c2 b1] F w0) {r:Bool} (h:kA a1 b1=some r):CR F w0 52 #[vs a2 a1.length c1,vs a3 b1.length c2] (vb r) []:=by
 refine EN Tryz.func52 Tryz.ntmps52 hF hc λhI=>?_
 rw[kA]at h
 refine T ?_
 refine aj (T ?_)
 refine TR λhb h=>?_
 refine T ?_
 refine aj (T ?_)
 refine bk (α:=Nat×Int) (λx=>λw=>∃ C,Bun cH F w0 C w [] [Cl.sl be a2 c1 a1,Cl.sl be a3 c2 b1]∧gD a1 b1 (x.1) (x.2)=some r) (λx _=>x.1) (λx=>[(0,vs a2 a1.length c1),(1,vs a3 b1.length c2),(5,vi (x.2))]) (fu,0) BH SB ?_
 clear h hI;rintro⟨fuel1,i1⟩ w1 ⟨c3,hI,h⟩
 dsimp only at hI h ⊢
 rcases fuel1 with _ | fuel1
 ·rw[gD]at h;cases h
 rw[gD]at h
 refine aj (T ?_)
 refine TC (λhb h=>?_) λhb h=>?_
 ·refine T ?_
  refine aj (T ?_)
  refine aj (aL [] false (.c (0,.q) (.c (1,.q) (.c (2,.q) (.c (3,.q) (.c (4,.q) (.c (5,.q) (.c (6,.q) (.c (7,.q) (.c (8,.q) .n))))))))) hI (by kernel_rfl) (by kernel_rfl) ?_)
  intro w2 hI
  refine V ?_
  obtain⟨e1,hx1,h⟩:=ab h
  obtain⟨ad1,cs1,hA1,hr1,hq1⟩:=hI.clat .z hx1
  obtain rfl:cs1=[(str e1)]:=hr1
  refine vI ?_
  refine V ?_
  obtain⟨e2,hx2,h⟩:=ab h
  obtain⟨ad2,cs2,hA2,hr2,hq2⟩:=hI.clat .p1 hx2
  obtain rfl:cs2=[(str e2)]:=hr2
  refine vI ?_
  refine V ?_
  refine TR λhb h=>?_
  refine T ?_
  refine aG ?_
  exact kl (fuel1,av (i1+1))
 refine bl ?_
 refine eZ ?_
 refine aS ?_
 exact RF
theorem Gc (hF:dF F w0) {a1 b1:aD} (hc:AllCl [Cl.sl ai a2 c1 a1.Lin.L,Cl.sl ai a3 c2 b1.Lin.L] F w0) {r:Bool} (h:sk a1 b1=some r):CR F w0 111 #[(Value.agg (kK a1 a2 c1)),(Value.agg (kK b1 a3 c2))] (vb r) []:=by
 refine EN Tryz.func111 Tryz.ntmps111 hF hc λhI=>?_
 rw[sk]at h
 refine sr (lX λb2 c4 w1 hI=>?_)
 refine lX λb3 c6 w2 hI=>?_
 refine T ?_
 refine sq (Mo rfl u4 et et) ?_
 refine T ?_
 refine aw (bg rfl rfl rfl rfl) rfl (λhc=>(am (l:=(fS a1.Lin a2 c1)) rfl (aI et hc) pr rfl bc (hI.kblk (l:=(fS a1.Lin a2 c1)) .p1 rfl).1)) ?_
 refine T ?_
 refine aw (bg rfl rfl rfl rfl) rfl (λhc=>(am (l:=(fS b1.Lin a3 c2)) rfl (aI et hc) pr rfl bc (hI.kblk (l:=(fS b1.Lin a3 c2)) .z rfl).1)) ?_
 obtain⟨r1,hx1,h⟩:=ab h
 replace hx1:=ax hx1
 refine sU (λhc=>oM hI.lt FS (hx1 hc)) (Rg Tryz.func14) λw3 hI=>?_
 exact RF
theorem EU (hF:dF F w0) {a1 b1:List aD} (hc:AllCl [Cl.sl az a2 c1 a1,Cl.sl az a3 c2 b1] F w0) {r:Bool} (h:pf a1 b1=some r):CR F w0 53 #[vs a2 a1.length c1,vs a3 b1.length c2] (vb r) []:=by
 refine EN Tryz.func53 Tryz.ntmps53 hF hc λhI=>?_
 rw[pf]at h
 refine T ?_
 refine aj (T ?_)
 refine TR λhb h=>?_
 refine T ?_
 refine aj (T ?_)
 refine bk (α:=Nat×Int) (λx=>λw=>∃ C,Bun cH F w0 C w [] [Cl.sl az a2 c1 a1,Cl.sl az a3 c2 b1]∧jg a1 b1 (x.1) (x.2)=some r) (λx _=>x.1) (λx=>[(0,vs a2 a1.length c1),(1,vs a3 b1.length c2),(5,vi (x.2))]) (fu,0) BH SB ?_
 clear h hI;rintro⟨fuel1,i1⟩ w1 ⟨c3,hI,h⟩
 dsimp only at hI h ⊢
 rcases fuel1 with _ | fuel1
 ·rw[jg]at h;cases h
 rw[jg]at h
 refine aj (T ?_)
 refine TC (λhb h=>?_) λhb h=>?_
 ·refine T ?_
  refine aj (T ?_)
  refine aj (aL [] false (.c (0,.q) (.c (1,.q) (.c (2,.q) (.c (3,.q) (.c (4,.q) (.c (5,.q) (.c (6,.q) (.c (7,.q) (.c (8,.s) (.c (9,.q) .n)))))))))) hI (by kernel_rfl) (by kernel_rfl) ?_)
  intro w2 hI
  refine V ?_
  obtain⟨e1,hx1,h⟩:=ab h
  obtain⟨ad1,cs1,hA1,hr1,hq1⟩:=hI.clat .z hx1
  obtain⟨a4,c4,rfl,hf1⟩:=hr1
  have hI:=hI.ads hf1
  refine vI ?_
  refine dl rfl gn rfl (λw' hw'=>(am (l:=(qV e1 a4 c4)) rfl et Nj rfl tw (hq1.at_ (SX.any rfl hw')))) (by kernel_rfl) ?_
  refine V ?_
  obtain⟨e2,hx2,h⟩:=ab h
  obtain⟨ad2,cs2,hA2,hr2,hq2⟩:=hI.clat .p2 hx2
  obtain⟨a5,c5,rfl,hf2⟩:=hr2
  have hI:=hI.ads hf2
  refine vI ?_
  refine dl rfl gn rfl (λw' hw'=>(am (l:=(qV e2 a5 c5)) rfl et Nj rfl tw (hq2.at_ (SX.any rfl hw')))) (by kernel_rfl) ?_
  obtain⟨r1,hx3,h⟩:=ab h
  refine bF rfl gn rfl (ar (vs:=[(Value.agg (kK e1 a4 c4)),(Value.agg (kK e2 a5 c5))]) rfl OB ⟨et,et,af⟩) (Calls.mono (Gc hI.lt FS hx3) ?_)
  rintro _ w3 ⟨rfl,hx4,hl1⟩
  refine⟨_,rfl,hx4,?_⟩
  replace hI:=(hI.ext hx4)
  refine V ?_
  refine TR λhb h=>?_
  refine T ?_
  refine aG ?_
  exact kl (fuel1,av (i1+1))
 refine bl ?_
 refine eZ ?_
 refine aS ?_
 exact RF
theorem xO (hF:dF F w0) {a1 b1:List fG} (hc:AllCl [Cl.sl cb a2 c1 a1,Cl.sl cb a3 c2 b1] F w0) {r:Bool} (h:nF a1 b1=some r):CR F w0 112 #[vs a2 a1.length c1,vs a3 b1.length c2] (vb r) []:=by
 refine EN Tryz.func112 Tryz.ntmps112 hF hc λhI=>?_
 rw[nF]at h
 refine T ?_
 refine aj (T ?_)
 refine TR λhb h=>?_
 refine T ?_
 refine aj (T ?_)
 refine bk (α:=Nat×Int) (λx=>λw=>∃ C,Bun cH F w0 C w [] [Cl.sl cb a2 c1 a1,Cl.sl cb a3 c2 b1]∧jh a1 b1 (x.1) (x.2)=some r) (λx _=>x.1) (λx=>[(0,vs a2 a1.length c1),(1,vs a3 b1.length c2),(5,vi (x.2))]) (fu,0) BH SB ?_
 clear h hI;rintro⟨fuel1,i1⟩ w1 ⟨c3,hI,h⟩
 dsimp only at hI h ⊢
 rcases fuel1 with _ | fuel1
 ·rw[jh]at h;cases h
 rw[jh]at h
 refine aj (T ?_)
 refine TC (λhb h=>?_) λhb h=>?_
 ·refine T ?_
  refine aj (T ?_)
  refine aj (aL [] false (.c (0,.q) (.c (1,.q) (.c (2,.q) (.c (3,.q) (.c (4,.q) (.c (5,.q) (.c (6,.q) (.c (7,.q) (.c (8,.q) (.c (9,.q) (.c (10,.q) (.c (11,.q) (.c (12,.q) (.c (13,.q) (.c (14,.q) (.c (15,.q) (.c (16,.q) (.c (17,.q) (.c (18,.q) (.c (19,.q) (.c (20,.q) (.c (21,.q) (.c (22,.s) (.c (23,.q) (.c (24,.q) .n))))))))))))))))))))))))) hI (by kernel_rfl) (by kernel_rfl) ?_)
  intro w2 hI
  refine V ?_
  obtain⟨e1,hx1,h⟩:=ab h
  obtain⟨ad1,cs1,hA1,hr1,hq1⟩:=hI.clat .z hx1
  obtain⟨a4,c4,rfl,hf1⟩:=hr1
  have hI:=hI.ads hf1
  refine vI ?_
  refine V ?_
  obtain⟨e2,hx2,h⟩:=ab h
  obtain⟨ad2,cs2,hA2,hr2,hq2⟩:=hI.clat .p2 hx2
  obtain⟨a5,c5,rfl,hf2⟩:=hr2
  have hI:=hI.ads hf2
  refine vI ?_
  refine V ?_
  obtain⟨e3,hx3,h⟩:=ab h
  replace hx3:=ax hx3
  obtain⟨ad3,cs3,hq3⟩:=hI.gclat .p2 hx3
  obtain⟨a6,c6,hq4⟩:∃ (a6:Option Addr) (c6:Nat),(!(!decide (e1.Name=e2.Name)))=true→(a2=some ad3∧cs3=(Bf e3 a6 c6)∧CA (Dj F c3) w2 (ad3.add (Int.toNat i1 * 3)) cs3∧SlC ai (Dj F c3) w2 a6 c6 e3.Size.L):=by
   by_cases hc:(!(!decide (e1.Name=e2.Name)))=true
   ·obtain⟨k1,k2,k3⟩:=hq3 hc;obtain⟨a6,c6,rfl,hf3⟩:=k2;exact⟨a6,c6,λ_=>⟨k1,rfl,k3,hf3⟩⟩
   exact⟨default,default,λk=>absurd k hc⟩
  clear hq3
  have hI:=hI.add (c:=Rf (!(!decide (e1.Name=e2.Name))) ai a6 c6 e3.Size.L) (λhc=>(hq4 hc).2.2.2)
  have hq5:(!(!decide (e1.Name=e2.Name)))=true→CA (Dj F c3) w2 (ad3.add (Int.toNat i1 * 3)) (Bf e3 a6 c6):=λhc=>vF (hq4 hc).2.1 (hq4 hc).2.2.1
  refine vJ ?_
  refine V ?_
  refine uB rfl (bj rfl rfl rfl rfl) rfl (λhc=>λw' hw'=>(am (l:=(fS e3.Size a6 c6)) rfl (aI et hc) pr rfl bc ((CA.part (hq5 hc) rfl).at_ (SX.any rfl hw')))) (by kernel_rfl) ?_
  refine V ?_
  obtain⟨e4,hx4,h⟩:=ab h
  replace hx4:=ax hx4
  obtain⟨ad4,cs4,hq6⟩:=hI.gclat .p4 hx4
  obtain⟨a7,c7,hq7⟩:∃ (a7:Option Addr) (c7:Nat),(!(!decide (e1.Name=e2.Name)))=true→(a3=some ad4∧cs4=(Bf e4 a7 c7)∧CA (Dj F c3) w2 (ad4.add (Int.toNat i1 * 3)) cs4∧SlC ai (Dj F c3) w2 a7 c7 e4.Size.L):=by
   by_cases hc:(!(!decide (e1.Name=e2.Name)))=true
   ·obtain⟨k1,k2,k3⟩:=hq6 hc;obtain⟨a7,c7,rfl,hf4⟩:=k2;exact⟨a7,c7,λ_=>⟨k1,rfl,k3,hf4⟩⟩
   exact⟨default,default,λk=>absurd k hc⟩
  clear hq6
  have hI:=hI.add (c:=Rf (!(!decide (e1.Name=e2.Name))) ai a7 c7 e4.Size.L) (λhc=>(hq7 hc).2.2.2)
  have hq8:(!(!decide (e1.Name=e2.Name)))=true→CA (Dj F c3) w2 (ad4.add (Int.toNat i1 * 3)) (Bf e4 a7 c7):=λhc=>vF (hq7 hc).2.1 (hq7 hc).2.2.1
  refine vJ ?_
  refine V ?_
  refine uB rfl (bj rfl rfl rfl rfl) rfl (λhc=>λw' hw'=>(am (l:=(fS e4.Size a7 c7)) rfl (aI et hc) pr rfl bc ((CA.part (hq8 hc) rfl).at_ (SX.any rfl hw')))) (by kernel_rfl) ?_
  obtain⟨r1,hx5,h⟩:=ab h
  replace hx5:=ax hx5
  refine my (v:=(vb r1)) rfl (bj rfl rfl rfl rfl) rfl (λhc=>(ar (vs:=[(Value.agg (eP e3.Size a6 c6)),(Value.agg (eP e4.Size a7 c7))]) rfl Jx ⟨(aI et hc),(aI et hc),af⟩)) (λhc=>(oM hI.lt ⟨(hI.get .p1 hc),(hI.get .z hc),af⟩ (hx5 hc)).mono λ_ _ k=>⟨k.1,k.2.1⟩) ?_
  intro w3 hx6;replace hI:=hI.ext hx6
  refine V ?_
  refine TR λhb h=>?_
  refine T ?_
  refine aG ?_
  exact kl (fuel1,av (i1+1))
 refine bl ?_
 refine eZ ?_
 refine aS ?_
 exact RF
theorem Gb (hF:dF F w0) {a1 b1:cU} (hc:AllCl [Cl.sl cb a2 c1 a1.Dims,Cl.sl cb a3 c2 a1.Red,Cl.sl ai a4 c3 a1.Body.Lin.L,Cl.sl al a5 c4 a1.Body.Idx,Cl.sl an a6 c5 a1.Body.Args,Cl.sl cb a7 c6 b1.Dims,Cl.sl cb a8 c7 b1.Red,Cl.sl ai a9 c8 b1.Body.Lin.L,Cl.sl al a10 c9 b1.Body.Idx,Cl.sl an a11 c10 b1.Body.Args] F w0) {r:Bool} (h:qm a1 b1=some r):CR F w0 55 #[(Value.agg (vC a1 a2 c1 a3 c2 a4 c3 a5 c4 a6 c5)),(Value.agg (vC b1 a7 c6 a8 c7 a9 c8 a10 c9 a11 c10))] (vb r) []:=by
 refine EN Tryz.func55 Tryz.ntmps55 hF hc λhI=>?_
 rw[qm]at h
 refine sr (lX λb2 c12 w1 hI=>?_)
 refine lX λb3 c14 w2 hI=>?_
 refine T ?_
 refine aw (bg rfl rfl rfl rfl) rfl (λhc=>(am (l:=(bU a1.Type_)) rfl (aI et hc) qF rfl bN (hI.kblk (l:=(bU a1.Type_)) .p1 rfl).1)) ?_
 refine T ?_
 refine aw (bg rfl rfl rfl rfl) rfl (λhc=>(am (l:=(bU b1.Type_)) rfl (aI et hc) qF rfl bN (hI.kblk (l:=(bU b1.Type_)) .z rfl).1)) ?_
 refine aw (bg rfl rfl rfl rfl) rfl (λhc=>iT rfl (aI et hc) (aI et hc) (tN ..) (oK ..)) ?_
 refine T ?_
 obtain⟨r1,hx1,h⟩:=ab h
 replace hx1:=ax hx1
 refine sU (λhc=>xO hI.lt FS (hx1 hc)) (Rg Tryz.func112) λw3 hI=>?_
 refine T ?_
 obtain⟨r2,hx3,h⟩:=ab h
 replace hx3:=ax hx3
 refine sU (λhc=>xO hI.lt FS (hx3 hc)) (Rg Tryz.func112) λw4 hI=>?_
 refine T ?_
 refine aw (bg rfl rfl rfl rfl) rfl (λhc=>(am (l:=(ba a1.Body a4 c3 a5 c4 a6 c5)) rfl (aI et hc) jZ rfl aJ (hI.kblk (l:=(ba a1.Body a4 c3 a5 c4 a6 c5)) .p1 rfl).1)) ?_
 refine T ?_
 refine aw (bg rfl rfl rfl rfl) rfl (λhc=>(am (l:=(ba b1.Body a9 c8 a10 c9 a11 c10)) rfl (aI et hc) jZ rfl aJ (hI.kblk (l:=(ba b1.Body a9 c8 a10 c9 a11 c10)) .z rfl).1)) ?_
 obtain⟨r3,hx5,h⟩:=ab h
 replace hx5:=ax hx5
 refine sU (λhc=>ET hI.lt FS (hx5 hc)) (Rg Tryz.func17) λw5 hI=>?_
 exact RF
theorem ES (hF:dF F w0) {a1 b1:aV} (hc:AllCl [Cl.sl be a2 c1 a1.Sizes,Cl.sl az a3 c2 a1.Where,Cl.sl bH a4 c3 a1.Params,Cl.sl fb a5 c4 a1.Defs,Cl.sl be a6 c5 a1.Outs,Cl.sl be a7 c6 b1.Sizes,Cl.sl az a8 c7 b1.Where,Cl.sl bH a9 c8 b1.Params,Cl.sl fb a10 c9 b1.Defs,Cl.sl be a11 c10 b1.Outs] F w0) {r:Bool} (h:pd a1 b1=some r):CR F w0 26 #[(Value.agg (hP a1 a2 c1 a3 c2 a4 c3 a5 c4 a6 c5)),(Value.agg (hP b1 a7 c6 a8 c7 a9 c8 a10 c9 a11 c10))] (vb r) []:=by
 refine EN Tryz.func26 Tryz.ntmps26 hF hc λhI=>?_
 rw[pd]at h
 refine sr (lX λb2 c12 w1 hI=>?_)
 refine lX λb3 c14 w2 hI=>?_
 refine T ?_
 refine aj (T ?_)
 refine sB h (λ_ k=>uc hI.lt FS k) (Rc Tryz.func52) λr1 w3 h hI=>?_
 refine T ?_
 obtain⟨r2,hx3,h⟩:=ab h
 replace hx3:=ax hx3
 refine sU (λhc=>EU hI.lt FS (hx3 hc)) (Rg Tryz.func53) λw4 hI=>?_
 refine T ?_
 obtain⟨r3,hx5,h⟩:=ab h
 replace hx5:=ax hx5
 refine sU (λhc=>uc hI.lt FS (hx5 hc)) (Rg Tryz.func52) λw5 hI=>?_
 refine TR λhb h=>?_
 refine T ?_
 refine bO (α:=Unit) (λ_=>⟨117,[]⟩) (λ_=>[(2,vp b2 0),(3,vp b3 0)]) (λ_=>λw=>∃ C,Bun cH F w0 C w [] [Cl.blk b2 55 (hP a1 a2 c1 a3 c2 a4 c3 a5 c4 a6 c5),Cl.sl be a2 c1 a1.Sizes,Cl.sl az a3 c2 a1.Where,Cl.sl bH a4 c3 a1.Params,Cl.sl fb a5 c4 a1.Defs,Cl.sl be a6 c5 a1.Outs,Cl.blk b3 55 (hP b1 a7 c6 a8 c7 a9 c8 a10 c9 a11 c10),Cl.sl be a7 c6 b1.Sizes,Cl.sl az a8 c7 b1.Where,Cl.sl bH a9 c8 b1.Params,Cl.sl fb a10 c9 b1.Defs,Cl.sl be a11 c10 b1.Outs]∧qk a1 b1=some r) ?_ ?_
 ·clear h hI;rintro _ w6 ⟨c15,hI,h⟩
  try dsimp only at hI h ⊢
  rw[qk]at h
  refine aj (T ?_)
  refine bk (α:=Nat×Int) (λx=>λw=>∃ C,Bun cH F w0 C w [] [Cl.blk b2 55 (hP a1 a2 c1 a3 c2 a4 c3 a5 c4 a6 c5),Cl.sl be a2 c1 a1.Sizes,Cl.sl az a3 c2 a1.Where,Cl.sl bH a4 c3 a1.Params,Cl.sl fb a5 c4 a1.Defs,Cl.sl be a6 c5 a1.Outs,Cl.blk b3 55 (hP b1 a7 c6 a8 c7 a9 c8 a10 c9 a11 c10),Cl.sl be a7 c6 b1.Sizes,Cl.sl az a8 c7 b1.Where,Cl.sl bH a9 c8 b1.Params,Cl.sl fb a10 c9 b1.Defs,Cl.sl be a11 c10 b1.Outs]∧il a1 b1 (x.1) (x.2)=some r) (λx _=>x.1) (λx=>[(2,vp b2 0),(3,vp b3 0),(6,vi (x.2))]) (fu,0) BH SB ?_
  clear h hI;rintro⟨fuel1,i1⟩ w7 ⟨c16,hI,h⟩
  dsimp only at hI h ⊢
  rcases fuel1 with _ | fuel1
  ·rw[il]at h;cases h
  rw[il]at h
  refine aj (T ?_)
  refine TC (λhb h=>?_) λhb h=>?_
  ·refine T ?_
   refine aj (T ?_)
   refine aj (aL [] false (.c (0,.q) (.c (1,.q) (.c (2,.q) (.c (3,.q) (.c (4,.q) (.c (5,.q) (.c (6,.q) (.c (7,.q) (.c (8,.q) (.c (9,.q) (.c (10,.s) (.c (11,.q) .n)))))))))))) hI (by kernel_rfl) (by kernel_rfl) ?_)
   intro w8 hI
   refine V ?_
   obtain⟨e1,hx7,h⟩:=ab h
   obtain⟨ad1,cs1,hA1,hr1,hq1⟩:=hI.clat .p4 hx7
   obtain⟨a12,c17,a13,c18,a14,c19,a15,c20,a16,c21,rfl,hf1,hf2,hf3,hf4,hf5⟩:=hr1
   have hI:=hI.ads hf1
   have hI:=hI.ads hf2
   have hI:=hI.ads hf3
   have hI:=hI.ads hf4
   have hI:=hI.ads hf5
   refine vI ?_
   refine dl rfl gn rfl (λw' hw'=>(am (l:=(Qr e1 a12 c17 a13 c18 a14 c19 a15 c20 a16 c21)) rfl et Ac rfl nL (hq1.at_ (SX.any rfl hw')))) (by kernel_rfl) ?_
   refine V ?_
   obtain⟨e2,hx8,h⟩:=ab h
   obtain⟨ad2,cs2,hA2,hr2,hq2⟩:=hI.clat (.s (.s (.s (.s (.s (.s .p9)))))) hx8
   obtain⟨a17,c22,a18,c23,a19,c24,a20,c25,a21,c26,rfl,hf6,hf7,hf8,hf9,hf10⟩:=hr2
   have hI:=hI.ads hf6
   have hI:=hI.ads hf7
   have hI:=hI.ads hf8
   have hI:=hI.ads hf9
   have hI:=hI.ads hf10
   refine vI ?_
   refine dl rfl gn rfl (λw' hw'=>(am (l:=(Qr e2 a17 c22 a18 c23 a19 c24 a20 c25 a21 c26)) rfl et Ac rfl nL (hq2.at_ (SX.any rfl hw')))) (by kernel_rfl) ?_
   obtain⟨r4,hx9,h⟩:=ab h
   refine bF rfl gn rfl (ar (vs:=[(Value.agg (vC e1 a12 c17 a13 c18 a14 c19 a15 c20 a16 c21)),(Value.agg (vC e2 a17 c22 a18 c23 a19 c24 a20 c25 a21 c26))]) rfl Qe ⟨et,et,af⟩) (Calls.mono (Gb hI.lt FS hx9) ?_)
   rintro _ w9 ⟨rfl,hx10,hl4⟩
   refine⟨_,rfl,hx10,?_⟩
   replace hI:=(hI.ext hx10)
   refine V ?_
   refine TR λhb h=>?_
   refine T ?_
   refine aG ?_
   exact kl (fuel1,av (i1+1))
  refine bl ?_
  refine eZ ?_
  refine aS ?_
  exact RF
 refine T ?_
 refine bk (α:=Nat×Int) (λx=>λw=>∃ C,Bun cH F w0 C w [] [Cl.blk b2 55 (hP a1 a2 c1 a3 c2 a4 c3 a5 c4 a6 c5),Cl.sl be a2 c1 a1.Sizes,Cl.sl az a3 c2 a1.Where,Cl.sl bH a4 c3 a1.Params,Cl.sl fb a5 c4 a1.Defs,Cl.sl be a6 c5 a1.Outs,Cl.blk b3 55 (hP b1 a7 c6 a8 c7 a9 c8 a10 c9 a11 c10),Cl.sl be a7 c6 b1.Sizes,Cl.sl az a8 c7 b1.Where,Cl.sl bH a9 c8 b1.Params,Cl.sl fb a10 c9 b1.Defs,Cl.sl be a11 c10 b1.Outs]∧ik a1 b1 (x.1) (x.2)=some r) (λx _=>x.1) (λx=>[(2,vp b2 0),(3,vp b3 0),(5,vi (x.2))]) (fu,0) BH SB ?_
 clear h hI;rintro⟨fuel2,i2⟩ w10 ⟨c27,hI,h⟩
 dsimp only at hI h ⊢
 rcases fuel2 with _ | fuel2
 ·rw[ik]at h;cases h
 rw[ik]at h
 refine aj (T ?_)
 refine TC (λhb h=>?_) λhb h=>?_
 ·refine T ?_
  refine aj (T ?_)
  refine aj (aL [] false (.c (0,.q) (.c (1,.q) (.c (2,.q) (.c (3,.q) (.c (4,.q) (.c (5,.q) (.c (6,.q) (.c (7,.q) (.c (8,.q) (.c (9,.q) (.c (10,.q) (.c (11,.q) (.c (12,.q) (.c (13,.q) (.c (14,.q) (.c (15,.q) (.c (16,.q) (.c (17,.q) (.c (18,.q) (.c (19,.q) (.c (20,.q) (.c (21,.q) (.c (22,.q) (.c (23,.q) (.c (24,.q) (.c (25,.q) (.c (26,.q) (.c (27,.q) (.c (28,.q) (.c (29,.q) (.c (30,.q) (.c (31,.q) (.c (32,.q) (.c (33,.q) (.c (34,.q) (.c (35,.q) (.c (36,.q) (.c (37,.q) (.c (38,.q) (.c (39,.q) (.c (40,.q) (.c (41,.s) (.c (42,.q) (.c (43,.q) .n)))))))))))))))))))))))))))))))))))))))))))) hI (by kernel_rfl) (by kernel_rfl) ?_)
  intro w11 hI
  refine V ?_
  obtain⟨e3,hx11,h⟩:=ab h
  obtain⟨ad3,cs3,hA3,hr3,hq3⟩:=hI.clat .p3 hx11
  obtain⟨a22,c28,rfl,hf11⟩:=hr3
  have hI:=hI.ads hf11
  refine vI ?_
  refine V ?_
  obtain⟨e4,hx12,h⟩:=ab h
  obtain⟨ad4,cs4,hA4,hr4,hq4⟩:=hI.clat (.s .p9) hx12
  obtain⟨a23,c29,rfl,hf12⟩:=hr4
  have hI:=hI.ads hf12
  refine vI ?_
  refine V ?_
  obtain⟨e5,hx13,h⟩:=ab h
  replace hx13:=ax hx13
  obtain⟨ad5,cs5,hq5⟩:=hI.gclat .p5 hx13
  obtain⟨a24,c30,hq6⟩:∃ (a24:Option Addr) (c30:Nat),(!(!decide (e3.Name=e4.Name)))=true→(a4=some ad5∧cs5=(tI e5 a24 c30)∧CA (Dj F c27) w11 (ad5.add (Int.toNat i2 * 7)) cs5∧SlC dU (Dj F c27) w11 a24 c30 e5.Dims):=by
   by_cases hc:(!(!decide (e3.Name=e4.Name)))=true
   ·obtain⟨k1,k2,k3⟩:=hq5 hc;obtain⟨a24,c30,rfl,hf13⟩:=k2;exact⟨a24,c30,λ_=>⟨k1,rfl,k3,hf13⟩⟩
   exact⟨default,default,λk=>absurd k hc⟩
  clear hq5
  have hI:=hI.add (c:=Rf (!(!decide (e3.Name=e4.Name))) dU a24 c30 e5.Dims) (λhc=>(hq6 hc).2.2.2)
  have hq7:(!(!decide (e3.Name=e4.Name)))=true→CA (Dj F c27) w11 (ad5.add (Int.toNat i2 * 7)) (tI e5 a24 c30):=λhc=>vF (hq6 hc).2.1 (hq6 hc).2.2.1
  refine vJ ?_
  refine V ?_
  refine uB rfl (bj rfl rfl rfl rfl) rfl (λhc=>λw' hw'=>(am (l:=(bU e5.Type_)) rfl (aI et hc) qF rfl bN ((CA.part (hq7 hc) rfl).at_ (SX.any rfl hw')))) (by kernel_rfl) ?_
  refine V ?_
  obtain⟨e6,hx14,h⟩:=ab h
  replace hx14:=ax hx14
  obtain⟨ad6,cs6,hq8⟩:=hI.gclat (.s (.s (.s .p9))) hx14
  obtain⟨a25,c31,hq9⟩:∃ (a25:Option Addr) (c31:Nat),(!(!decide (e3.Name=e4.Name)))=true→(a9=some ad6∧cs6=(tI e6 a25 c31)∧CA (Dj F c27) w11 (ad6.add (Int.toNat i2 * 7)) cs6∧SlC dU (Dj F c27) w11 a25 c31 e6.Dims):=by
   by_cases hc:(!(!decide (e3.Name=e4.Name)))=true
   ·obtain⟨k1,k2,k3⟩:=hq8 hc;obtain⟨a25,c31,rfl,hf14⟩:=k2;exact⟨a25,c31,λ_=>⟨k1,rfl,k3,hf14⟩⟩
   exact⟨default,default,λk=>absurd k hc⟩
  clear hq8
  have hI:=hI.add (c:=Rf (!(!decide (e3.Name=e4.Name))) dU a25 c31 e6.Dims) (λhc=>(hq9 hc).2.2.2)
  have hq10:(!(!decide (e3.Name=e4.Name)))=true→CA (Dj F c27) w11 (ad6.add (Int.toNat i2 * 7)) (tI e6 a25 c31):=λhc=>vF (hq9 hc).2.1 (hq9 hc).2.2.1
  refine vJ ?_
  refine V ?_
  refine uB rfl (bj rfl rfl rfl rfl) rfl (λhc=>λw' hw'=>(am (l:=(bU e6.Type_)) rfl (aI et hc) qF rfl bN ((CA.part (hq10 hc) rfl).at_ (SX.any rfl hw')))) (by kernel_rfl) ?_
  refine Dv rfl (bj rfl rfl rfl rfl) rfl (λhc=>λw'=>(iT rfl (aI et hc) (aI et hc) (sv ..) (oK ..))) ?_
  refine V ?_
  obtain⟨e7,hx15,h⟩:=ab h
  replace hx15:=ax hx15
  obtain⟨ad7,cs7,hq11⟩:=hI.gclat .p7 hx15
  obtain⟨a26,c32,hq12⟩:∃ (a26:Option Addr) (c32:Nat),(!((!decide (e3.Name=e4.Name))||(!((decide (e5.Type_.Kind=e6.Type_.Kind))&&(decide (e5.Type_.Bits=e6.Type_.Bits))&&(decide (e5.Type_.Frac=e6.Type_.Frac))&&(decide (e5.Type_.Round=e6.Type_.Round))&&(decide (e5.Type_.Over=e6.Type_.Over))))))=true→(a4=some ad7∧cs7=(tI e7 a26 c32)∧CA (Dj F c27) w11 (ad7.add (Int.toNat i2 * 7)) cs7∧SlC dU (Dj F c27) w11 a26 c32 e7.Dims):=by
   by_cases hc:(!((!decide (e3.Name=e4.Name))||(!((decide (e5.Type_.Kind=e6.Type_.Kind))&&(decide (e5.Type_.Bits=e6.Type_.Bits))&&(decide (e5.Type_.Frac=e6.Type_.Frac))&&(decide (e5.Type_.Round=e6.Type_.Round))&&(decide (e5.Type_.Over=e6.Type_.Over))))))=true
   ·obtain⟨k1,k2,k3⟩:=hq11 hc;obtain⟨a26,c32,rfl,hf15⟩:=k2;exact⟨a26,c32,λ_=>⟨k1,rfl,k3,hf15⟩⟩
   exact⟨default,default,λk=>absurd k hc⟩
  clear hq11
  have hI:=hI.add (c:=Rf (!((!decide (e3.Name=e4.Name))||(!((decide (e5.Type_.Kind=e6.Type_.Kind))&&(decide (e5.Type_.Bits=e6.Type_.Bits))&&(decide (e5.Type_.Frac=e6.Type_.Frac))&&(decide (e5.Type_.Round=e6.Type_.Round))&&(decide (e5.Type_.Over=e6.Type_.Over)))))) dU a26 c32 e7.Dims) (λhc=>(hq12 hc).2.2.2)
  have hq13:(!((!decide (e3.Name=e4.Name))||(!((decide (e5.Type_.Kind=e6.Type_.Kind))&&(decide (e5.Type_.Bits=e6.Type_.Bits))&&(decide (e5.Type_.Frac=e6.Type_.Frac))&&(decide (e5.Type_.Round=e6.Type_.Round))&&(decide (e5.Type_.Over=e6.Type_.Over))))))=true→CA (Dj F c27) w11 (ad7.add (Int.toNat i2 * 7)) (tI e7 a26 c32):=λhc=>vF (hq12 hc).2.1 (hq12 hc).2.2.1
  refine vJ ?_
  refine V ?_
  obtain⟨e8,hx16,h⟩:=ab h
  replace hx16:=ax hx16
  obtain⟨ad8,cs8,hq14⟩:=hI.gclat (.s (.s (.s (.s (.s .p9))))) hx16
  obtain⟨a27,c33,hq15⟩:∃ (a27:Option Addr) (c33:Nat),(!((!decide (e3.Name=e4.Name))||(!((decide (e5.Type_.Kind=e6.Type_.Kind))&&(decide (e5.Type_.Bits=e6.Type_.Bits))&&(decide (e5.Type_.Frac=e6.Type_.Frac))&&(decide (e5.Type_.Round=e6.Type_.Round))&&(decide (e5.Type_.Over=e6.Type_.Over))))))=true→(a9=some ad8∧cs8=(tI e8 a27 c33)∧CA (Dj F c27) w11 (ad8.add (Int.toNat i2 * 7)) cs8∧SlC dU (Dj F c27) w11 a27 c33 e8.Dims):=by
   by_cases hc:(!((!decide (e3.Name=e4.Name))||(!((decide (e5.Type_.Kind=e6.Type_.Kind))&&(decide (e5.Type_.Bits=e6.Type_.Bits))&&(decide (e5.Type_.Frac=e6.Type_.Frac))&&(decide (e5.Type_.Round=e6.Type_.Round))&&(decide (e5.Type_.Over=e6.Type_.Over))))))=true
   ·obtain⟨k1,k2,k3⟩:=hq14 hc;obtain⟨a27,c33,rfl,hf16⟩:=k2;exact⟨a27,c33,λ_=>⟨k1,rfl,k3,hf16⟩⟩
   exact⟨default,default,λk=>absurd k hc⟩
  clear hq14
  have hI:=hI.add (c:=Rf (!((!decide (e3.Name=e4.Name))||(!((decide (e5.Type_.Kind=e6.Type_.Kind))&&(decide (e5.Type_.Bits=e6.Type_.Bits))&&(decide (e5.Type_.Frac=e6.Type_.Frac))&&(decide (e5.Type_.Round=e6.Type_.Round))&&(decide (e5.Type_.Over=e6.Type_.Over)))))) dU a27 c33 e8.Dims) (λhc=>(hq15 hc).2.2.2)
  have hq16:(!((!decide (e3.Name=e4.Name))||(!((decide (e5.Type_.Kind=e6.Type_.Kind))&&(decide (e5.Type_.Bits=e6.Type_.Bits))&&(decide (e5.Type_.Frac=e6.Type_.Frac))&&(decide (e5.Type_.Round=e6.Type_.Round))&&(decide (e5.Type_.Over=e6.Type_.Over))))))=true→CA (Dj F c27) w11 (ad8.add (Int.toNat i2 * 7)) (tI e8 a27 c33):=λhc=>vF (hq15 hc).2.1 (hq15 hc).2.2.1
  refine vJ ?_
  refine V ?_
  obtain⟨r5,hx17,h⟩:=ab h
  replace hx17:=ax hx17
  refine my (v:=(vb r5)) rfl (bj rfl rfl rfl rfl) rfl (λhc=>(ar (vs:=[vs a26 e7.Dims.length c32,vs a27 e8.Dims.length c33]) rfl Qf ⟨(aI et hc),(aI et hc),af⟩)) (λhc=>(xN hI.lt ⟨(hI.get .p1 hc),(hI.get .z hc),af⟩ (hx17 hc)).mono λ_ _ k=>⟨k.1,k.2.1⟩) ?_
  intro w12 hx18;replace hI:=hI.ext hx18
  refine V ?_
  refine TR λhb h=>?_
  refine T ?_
  refine aG ?_
  exact kl (fuel2,av (i2+1))
 refine bl ?_
 refine eZ ?_
 exact kj ()
theorem Ay (hF:dF F w0) {l1:aC} (hc:AllCl [Cl.sl ai a1 c1 l1.L] F w0) {r:Bool} (h:mV l1=some r):CR F w0 113 #[(Value.agg (eP l1 a1 c1))] (vb r) []:=by
 refine EN Tryz.func113 Tryz.ntmps113 hF hc λhI=>?_
 rw[mV]at h
 refine sr (lX λb1 c3 w1 hI=>?_)
 refine T ?_
 refine aj (T ?_)
 refine TR λhb h=>?_
 refine T ?_
 refine aj (T ?_)
 refine bk (α:=Nat×Int) (λx=>λw=>∃ C,Bun cH F w0 C w [] [Cl.blk b1 27 (eP l1 a1 c1),Cl.sl ai a1 c1 l1.L]∧gh l1 (x.1) (x.2)=some r) (λx _=>x.1) (λx=>[(1,vp b1 0),(3,vi (x.2))]) (fu,0) BH SB ?_
 clear h hI;rintro⟨fuel1,i1⟩ w2 ⟨c4,hI,h⟩
 dsimp only at hI h ⊢
 rcases fuel1 with _ | fuel1
 ·rw[gh]at h;cases h
 rw[gh]at h
 refine aj (T ?_)
 refine TC (λhb h=>?_) λhb h=>?_
 ·refine T ?_
  refine aj (T ?_)
  obtain⟨e1,hx1,h⟩:=ab h
  obtain⟨ad1,cs1,hA1,hr1,hq1⟩:=hI.clat .p1 hx1
  obtain rfl:cs1=(li e1):=hr1
  refine sI ?_
  refine TR λhb h=>?_
  refine T ?_
  refine aG ?_
  exact kl (fuel1,av (i1+1))
 refine bl ?_
 refine eZ ?_
 refine aS ?_
 exact RF
theorem An (hF:dF F w0) {l1:List aC} (hc:AllCl [Cl.sl dU a1 c1 l1] F w0) {r:Bool} (h:mO l1=some r):CR F w0 56 #[vs a1 l1.length c1] (vb r) []:=by
 refine EN Tryz.func56 Tryz.ntmps56 hF hc λhI=>?_
 rw[mO]at h
 refine T ?_
 refine aj (T ?_)
 refine TR λhb h=>?_
 refine T ?_
 refine aj (T ?_)
 refine bk (α:=Nat×Int) (λx=>λw=>∃ C,Bun cH F w0 C w [] [Cl.sl dU a1 c1 l1]∧gg l1 (x.1) (x.2)=some r) (λx _=>x.1) (λx=>[(0,vs a1 l1.length c1),(3,vi (x.2))]) (fu,0) BH SB ?_
 clear h hI;rintro⟨fuel1,i1⟩ w1 ⟨c2,hI,h⟩
 dsimp only at hI h ⊢
 rcases fuel1 with _ | fuel1
 ·rw[gg]at h;cases h
 rw[gg]at h
 refine aj (T ?_)
 refine TC (λhb h=>?_) λhb h=>?_
 ·refine T ?_
  refine aj (T ?_)
  obtain⟨e1,hx1,h⟩:=ab h
  obtain⟨ad1,cs1,hA1,hr1,hq1⟩:=hI.clat .z hx1
  obtain⟨a2,c3,rfl,hf1⟩:=hr1
  have hI:=hI.ads hf1
  refine sI ?_
  refine T ?_
  refine sB h (λ_ k=>Ay hI.lt FS k) (Rc Tryz.func113) λr1 w2 h hI=>?_
  refine TR λhb h=>?_
  refine T ?_
  refine aG ?_
  exact kl (fuel1,av (i1+1))
 refine bl ?_
 refine eZ ?_
 refine aS ?_
 exact RF
theorem xa (hF:dF F w0) {d1:cU} (hc:AllCl [Cl.sl cb a1 c1 d1.Dims,Cl.sl cb a2 c2 d1.Red,Cl.sl ai a3 c3 d1.Body.Lin.L,Cl.sl al a4 c4 d1.Body.Idx,Cl.sl an a5 c5 d1.Body.Args] F w0) {r:Bool} (h:j9 d1=some r):CR F w0 57 #[(Value.agg (vC d1 a1 c1 a2 c2 a3 c3 a4 c4 a5 c5))] (vb r) []:=by
 refine EN Tryz.func57 Tryz.ntmps57 hF hc λhI=>?_
 rw[j9]at h
 refine sr (lX λb1 c7 w1 hI=>?_)
 refine T ?_
 refine sq (am (l:=(ba d1.Body a3 c3 a4 c4 a5 c5)) rfl et jZ rfl aJ (hI.kblk (l:=(ba d1.Body a3 c3 a4 c4 a5 c5)) .z rfl).1) ?_
 refine sB h (λ_ k=>Ao hI.lt FS k) (Rc Tryz.func20) λr1 w2 h hI=>?_
 exact RF
theorem wv (hF:dF F w0) {p1:aV} (hc:AllCl [Cl.sl be a1 c1 p1.Sizes,Cl.sl az a2 c2 p1.Where,Cl.sl bH a3 c3 p1.Params,Cl.sl fb a4 c4 p1.Defs,Cl.sl be a5 c5 p1.Outs] F w0) {r:Bool} (h:jC p1=some r):CR F w0 27 #[(Value.agg (hP p1 a1 c1 a2 c2 a3 c3 a4 c4 a5 c5))] (vb r) []:=by
 refine EN Tryz.func27 Tryz.ntmps27 hF hc λhI=>?_
 rw[jC]at h
 refine sr (lX λb1 c7 w1 hI=>?_)
 refine T ?_
 refine aj (T ?_)
 refine TR λhb h=>?_
 refine T ?_
 refine bO (α:=Unit) (λ_=>⟨62,[]⟩) (λ_=>[(1,vp b1 0)]) (λ_=>λw=>∃ C,Bun cH F w0 C w [] [Cl.blk b1 55 (hP p1 a1 c1 a2 c2 a3 c3 a4 c4 a5 c5),Cl.sl be a1 c1 p1.Sizes,Cl.sl az a2 c2 p1.Where,Cl.sl bH a3 c3 p1.Params,Cl.sl fb a4 c4 p1.Defs,Cl.sl be a5 c5 p1.Outs]∧ig p1=some r) ?_ ?_
 ·clear h hI;rintro _ w2 ⟨c8,hI,h⟩
  try dsimp only at hI h ⊢
  rw[ig]at h
  refine aj (T ?_)
  refine bk (α:=Nat×Int) (λx=>λw=>∃ C,Bun cH F w0 C w [] [Cl.blk b1 55 (hP p1 a1 c1 a2 c2 a3 c3 a4 c4 a5 c5),Cl.sl be a1 c1 p1.Sizes,Cl.sl az a2 c2 p1.Where,Cl.sl bH a3 c3 p1.Params,Cl.sl fb a4 c4 p1.Defs,Cl.sl be a5 c5 p1.Outs]∧eV p1 (x.1) (x.2)=some r) (λx _=>x.1) (λx=>[(1,vp b1 0),(4,vi (x.2))]) (fu,0) BH SB ?_
  clear h hI;rintro⟨fuel1,i1⟩ w3 ⟨c9,hI,h⟩
  dsimp only at hI h ⊢
  rcases fuel1 with _ | fuel1
  ·rw[eV]at h;cases h
  rw[eV]at h
  refine aj (T ?_)
  refine TC (λhb h=>?_) λhb h=>?_
  ·refine T ?_
   refine aj (T ?_)
   obtain⟨e1,hx1,h⟩:=ab h
   obtain⟨ad1,cs1,hA1,hr1,hq1⟩:=hI.clat .p4 hx1
   obtain⟨a6,c10,a7,c11,a8,c12,a9,c13,a10,c14,rfl,hf1,hf2,hf3,hf4,hf5⟩:=hr1
   have hI:=hI.ads hf1
   have hI:=hI.ads hf2
   have hI:=hI.ads hf3
   have hI:=hI.ads hf4
   have hI:=hI.ads hf5
   refine sI ?_
   refine T ?_
   refine sB h (λ_ k=>xa hI.lt FS k) (Rc Tryz.func57) λr1 w4 h hI=>?_
   refine TR λhb h=>?_
   refine T ?_
   refine aG ?_
   exact kl (fuel1,av (i1+1))
  refine bl ?_
  refine eZ ?_
  refine aS ?_
  exact RF
 refine T ?_
 refine bk (α:=Nat×Int) (λx=>λw=>∃ C,Bun cH F w0 C w [] [Cl.blk b1 55 (hP p1 a1 c1 a2 c2 a3 c3 a4 c4 a5 c5),Cl.sl be a1 c1 p1.Sizes,Cl.sl az a2 c2 p1.Where,Cl.sl bH a3 c3 p1.Params,Cl.sl fb a4 c4 p1.Defs,Cl.sl be a5 c5 p1.Outs]∧dS p1 (x.1) (x.2)=some r) (λx _=>x.1) (λx=>[(1,vp b1 0),(3,vi (x.2))]) (fu,0) BH SB ?_
 clear h hI;rintro⟨fuel2,i2⟩ w5 ⟨c15,hI,h⟩
 dsimp only at hI h ⊢
 rcases fuel2 with _ | fuel2
 ·rw[dS]at h;cases h
 rw[dS]at h
 refine aj (T ?_)
 refine TC (λhb h=>?_) λhb h=>?_
 ·refine T ?_
  refine aj (T ?_)
  obtain⟨e2,hx4,h⟩:=ab h
  obtain⟨ad2,cs2,hA2,hr2,hq2⟩:=hI.clat .p3 hx4
  obtain⟨a11,c16,rfl,hf6⟩:=hr2
  have hI:=hI.ads hf6
  refine sI ?_
  refine T ?_
  refine sB h (λ_ k=>An hI.lt FS k) (Rc Tryz.func56) λr2 w6 h hI=>?_
  refine TR λhb h=>?_
  refine T ?_
  refine aG ?_
  exact kl (fuel2,av (i2+1))
 refine bl ?_
 refine eZ ?_
 exact kj ()
theorem uW (hF:dF F w0) {l1:List (List UInt8)} (hc:AllCl [Cl.sl be a1 c1 l1] F w0) {r:List UInt8×Bool} (h:jR l1=some r):CR F w0 58 #[vs a1 l1.length c1] (Value.tuple #[(str r.1),vb r.2]) []:=by
 refine EN Tryz.func58 Tryz.ntmps58 hF hc λhI=>?_
 rw[jR]at h
 refine T ?_
 refine aj (T ?_)
 refine bk (α:=Nat×(List UInt8)×Int) (λx=>λw=>∃ C,Bun cH F w0 C w [] [Cl.sl be a1 c1 l1]∧eo l1 (x.1) (x.2.1) (x.2.2)=some r) (λx _=>x.1) (λx=>[(0,vs a1 l1.length c1),(4,(str (x.2.1))),(5,vi (x.2.2))]) (fu,([]:List UInt8),0) BH SB ?_
 clear h hI;rintro⟨fuel1,s1,i1⟩ w1 ⟨c2,hI,h⟩
 dsimp only at hI h ⊢
 rcases fuel1 with _ | fuel1
 ·rw[eo]at h;cases h
 rw[eo]at h
 refine aj (T ?_)
 refine TC (λhb h=>?_) λhb h=>?_
 ·refine T ?_
  refine aj (T ?_)
  refine aj (T ?_)
  obtain⟨e1,hx1,h⟩:=ab h
  obtain⟨ad1,cs1,hA1,hr1,hq1⟩:=hI.clat .z hx1
  obtain rfl:cs1=[(str e1)]:=hr1
  refine sI ?_
  refine T ?_
  refine sB h (λ_ k=>kJ hI.lt trivial k) (Rc Tryz.func61) λr1 w2 h hI=>?_
  refine TR λhb h=>?_
  refine T ?_
  refine bO (α:=(List UInt8)) (λ_=>⟨29,[]⟩) (λx=>[(0,vs a1 l1.length c1),(4,(str x)),(5,vi i1)]) (λx=>λw=>∃ C,Bun cH F w0 C w [] [Cl.sl be a1 c1 l1]∧j8 l1 i1 (eo l1 fuel1) x=some r) ?_ ?_
  ·clear h hI;rintro s2 w3 ⟨c3,hI,h⟩
   try dsimp only at hI h ⊢
   rw[j8]at h
   refine T ?_
   obtain⟨e2,hx4,h⟩:=ab h
   obtain⟨ad2,cs2,hA2,hr2,hq2⟩:=hI.clat .z hx4
   obtain rfl:cs2=[(str e2)]:=hr2
   refine sI ?_
   refine T ?_
   obtain⟨s3,hx5,h⟩:=ab h
   refine sq (aH rfl et et hx5) ?_
   refine T ?_
   refine aG ?_
   exact kl (fuel1,s3,av (i1+1))
  refine TC (λhb h=>?_) λhb h=>?_
  ·refine T ?_
   obtain⟨s4,hx6,h⟩:=ab h
   refine sq (aH rfl et ah hx6) ?_
   refine sa ?_
   refine aG ?_
   exact kj s4
  exact aZ (bI s1 SB BH rfl)
 refine bl ?_
 refine eZ ?_
 refine aS ?_
 exact RF
theorem rH (hF:dF F w0) {c1:aD} (hc:AllCl [Cl.sl ai a1 c2 c1.Lin.L] F w0) {r:Int} (h:gY c1=some r):CR F w0 59 #[(Value.agg (kK c1 a1 c2))] (vi r) []:=by
 refine EN Tryz.func59 Tryz.ntmps59 hF hc λhI=>?_
 rw[gY]at h
 refine sr (lX λb1 c4 w1 hI=>?_)
 refine T ?_
 refine aj (T ?_)
 refine sq (am (l:=(fS c1.Lin a1 c2)) rfl et pr rfl bc (hI.kblk (l:=(fS c1.Lin a1 c2)) .z rfl).1) ?_
 refine sB h (λ_ k=>gP hI.lt FS k) (Rc Tryz.func114) λr1 w2 h hI=>?_
 refine TR λhb h=>?_
 exact RF
theorem zG (hF:dF F w0) {c1:aD} (hc:AllCl [Cl.sl ai a1 c2 c1.Lin.L] F w0) {r:List UInt8} (h:lZ c1=some r):CR F w0 60 #[(Value.agg (kK c1 a1 c2))] (str r) []:=by
 refine EN Tryz.func60 Tryz.ntmps60 hF hc λhI=>?_
 rw[lZ]at h
 refine sr (lX λb1 c4 w1 hI=>?_)
 refine T ?_
 refine aj (sr (sq (am (l:=(qV c1 a1 c2)) rfl et Nj rfl tw (hI.kblk (l:=(qV c1 a1 c2)) .z rfl).1) ?_))
 refine sB h (λ_ k=>rH hI.lt FS k) (Rc Tryz.func59) λr1 w2 h hI=>?_
 refine TR λhb h=>?_
 refine T ?_
 refine aj (T ?_)
 refine TC (λhb h=>?_) λhb h=>?_
 ·refine T ?_
  refine sq (am (l:=(fS c1.Lin a1 c2)) rfl et pr rfl bc (hI.kblk (l:=(fS c1.Lin a1 c2)) .z rfl).1) ?_
  refine sB h (λ_ k=>kC hI.lt FS k) (Rc Tryz.func92) λr2 w3 h hI=>?_
  obtain⟨s1,hx5,h⟩:=ab h
  refine sq (aH rfl ah et hx5) ?_
  exact RF
 refine T ?_
 refine sq (am (l:=(fS c1.Lin a1 c2)) rfl et pr rfl bc (hI.kblk (l:=(fS c1.Lin a1 c2)) .z rfl).1) ?_
 refine sB h (λ_ k=>kC hI.lt FS k) (Rc Tryz.func92) λr3 w4 h hI=>?_
 obtain⟨s2,hx8,h⟩:=ab h
 refine sq (aH rfl ah et hx8) ?_
 exact RF
theorem wt (hF:dF F w0) {l1:List fG} (hc:AllCl [Cl.sl cb a1 c1 l1] F w0) {r:List UInt8×Bool} (h:mm l1=some r):CR F w0 119 #[vs a1 l1.length c1] (Value.tuple #[(str r.1),vb r.2]) []:=by
 refine EN Tryz.func119 Tryz.ntmps119 hF hc λhI=>?_
 rw[mm]at h
 refine T ?_
 refine aj (T ?_)
 refine bk (α:=Nat×(List UInt8)×Int) (λx=>λw=>∃ C,Bun cH F w0 C w [] [Cl.sl cb a1 c1 l1]∧fc l1 (x.1) (x.2.1) (x.2.2)=some r) (λx _=>x.1) (λx=>[(0,vs a1 l1.length c1),(4,(str (x.2.1))),(5,vi (x.2.2))]) (fu,([]:List UInt8),0) BH SB ?_
 clear h hI;rintro⟨fuel1,s1,i1⟩ w1 ⟨c2,hI,h⟩
 dsimp only at hI h ⊢
 rcases fuel1 with _ | fuel1
 ·rw[fc]at h;cases h
 rw[fc]at h
 refine aj (T ?_)
 refine TC (λhb h=>?_) λhb h=>?_
 ·refine T ?_
  refine aj (T ?_)
  refine aj (T ?_)
  obtain⟨e1,hx1,h⟩:=ab h
  obtain⟨ad1,cs1,hA1,hr1,hq1⟩:=hI.clat .z hx1
  obtain⟨a2,c3,rfl,hf1⟩:=hr1
  have hI:=hI.ads hf1
  refine sI ?_
  refine T ?_
  refine sB h (λ_ k=>kJ hI.lt trivial k) (Rc Tryz.func61) λr1 w2 h hI=>?_
  refine T ?_
  obtain⟨e2,hx4,h⟩:=ab h
  replace hx4:=ax hx4
  obtain⟨ad2,cs2,hq2⟩:=hI.gclat .p1 hx4
  obtain⟨a3,c4,hq3⟩:∃ (a3:Option Addr) (c4:Nat),(!(!r1))=true→(a1=some ad2∧cs2=(Bf e2 a3 c4)∧CA (Dj F c2) w2 (ad2.add (Int.toNat i1 * 3)) cs2∧SlC ai (Dj F c2) w2 a3 c4 e2.Size.L):=by
   by_cases hc:(!(!r1))=true
   ·obtain⟨k1,k2,k3⟩:=hq2 hc;obtain⟨a3,c4,rfl,hf2⟩:=k2;exact⟨a3,c4,λ_=>⟨k1,rfl,k3,hf2⟩⟩
   exact⟨default,default,λk=>absurd k hc⟩
  clear hq2
  have hI:=hI.add (c:=Rf (!(!r1)) ai a3 c4 e2.Size.L) (λhc=>(hq3 hc).2.2.2)
  have hq4:(!(!r1))=true→CA (Dj F c2) w2 (ad2.add (Int.toNat i1 * 3)) (Bf e2 a3 c4):=λhc=>vF (hq3 hc).2.1 (hq3 hc).2.2.1
  refine sJ ?_
  refine T ?_
  refine aw (bj rfl rfl rfl rfl) rfl (λhc=>(am (l:=(fS e2.Size a3 c4)) rfl (aI et hc) pr rfl bc (CA.part (hq4 hc) rfl).1)) ?_
  obtain⟨r2,hx5,h⟩:=ab h
  replace hx5:=ax hx5
  refine sU (λhc=>gP hI.lt ⟨(hI.get .z hc),af⟩ (hx5 hc)) (Rg Tryz.func114) λw3 hI=>?_
  refine TR λhb h=>?_
  refine T ?_
  refine bO (α:=(List UInt8)) (λ_=>⟨48,[]⟩) (λx=>[(0,vs a1 l1.length c1),(4,(str x)),(5,vi i1)]) (λx=>λw=>∃ C,Bun cH F w0 C w [] [Cl.sl cb a1 c1 l1]∧kZ l1 i1 (fc l1 fuel1) x=some r) ?_ ?_
  ·clear h hI;rintro s2 w4 ⟨c5,hI,h⟩
   try dsimp only at hI h ⊢
   rw[kZ]at h
   refine aL [] false (.c (0,.q) (.c (1,.q) (.c (2,.q) (.c (3,.q) (.c (4,.q) (.c (5,.q) (.c (6,.q) (.c (7,.q) (.c (8,.q) (.c (9,.q) (.c (10,.q) (.c (11,.q) (.c (12,.q) (.c (13,.s) (.c (14,.q) (.c (15,.q) .n)))))))))))))))) hI (by kernel_rfl) (by kernel_rfl) ?_
   intro w5 hI
   refine V ?_
   obtain⟨e3,hx7,h⟩:=ab h
   obtain⟨ad3,cs3,hA3,hr3,hq5⟩:=hI.clat .z hx7
   obtain⟨a4,c6,rfl,hf3⟩:=hr3
   have hI:=hI.ads hf3
   refine vI ?_
   refine V ?_
   obtain⟨s3,hx8,h⟩:=ab h
   refine iq rfl gn rfl (λw'=>aH rfl et et hx8) ?_
   obtain⟨s4,hx9,h⟩:=ab h
   refine iq rfl gn rfl (λw'=>aH rfl et ah hx9) ?_
   refine V ?_
   obtain⟨e4,hx10,h⟩:=ab h
   obtain⟨ad4,cs4,hA4,hr4,hq6⟩:=hI.clat .p1 hx10
   obtain⟨a5,c7,rfl,hf4⟩:=hr4
   have hI:=hI.ads hf4
   refine vI ?_
   refine V ?_
   refine dl rfl gn rfl (λw' hw'=>(am (l:=(fS e4.Size a5 c7)) rfl et pr rfl bc ((CA.part hq6 rfl).at_ (SX.any rfl hw')))) (by kernel_rfl) ?_
   obtain⟨r3,hx11,h⟩:=ab h
   refine bF rfl gn rfl (ar (vs:=[(Value.agg (eP e4.Size a5 c7))]) rfl P8 ⟨et,af⟩) (Calls.mono (kC hI.lt FS hx11) ?_)
   rintro _ w6 ⟨rfl,hx12,hl3⟩
   refine⟨_,rfl,hx12,?_⟩
   replace hI:=(hI.ext hx12)
   obtain⟨s5,hx13,h⟩:=ab h
   refine iq rfl gn rfl (λw'=>aH rfl et et hx13) ?_
   refine V ?_
   refine T ?_
   refine aG ?_
   exact kl (fuel1,s5,av (i1+1))
  refine TC (λhb h=>?_) λhb h=>?_
  ·refine T ?_
   obtain⟨s6,hx14,h⟩:=ab h
   refine sq (aH rfl et ah hx14) ?_
   refine sa ?_
   refine aG ?_
   exact kj s6
  exact aZ (bI s1 SB BH rfl)
 refine bl ?_
 refine eZ ?_
 refine aS ?_
 exact RF
theorem CN (hF:dF F w0) {fold1:Int} (hc:AllCl [] F w0) {r:List UInt8} (h:nQ fold1=some r):CR F w0 120 #[vi fold1] (str r) []:=by
 refine EN Tryz.func120 Tryz.ntmps120 hF hc λhI=>?_
 rw[nQ]at h
 refine T ?_
 refine aj (T ?_)
 refine TR λhb h=>?_
 refine TR λhb h=>?_
 refine TR λhb h=>?_
 refine TR λhb h=>?_
 exact RF
theorem EJ (hF:dF F w0) {d1:cU} (hc:AllCl [Cl.sl cb a1 c1 d1.Dims,Cl.sl cb a2 c2 d1.Red,Cl.sl ai a3 c3 d1.Body.Lin.L,Cl.sl al a4 c4 d1.Body.Idx,Cl.sl an a5 c5 d1.Body.Args] F w0) {r:List UInt8} (h:o9 d1=some r):CR F w0 66 #[(Value.agg (vC d1 a1 c1 a2 c2 a3 c3 a4 c4 a5 c5))] (str r) []:=by
 refine EN Tryz.func66 Tryz.ntmps66 hF hc λhI=>?_
 rw[o9]at h
 refine sr (lX λb1 c7 w1 hI=>?_)
 refine T ?_
 refine sB h (λ_ k=>wt hI.lt FS k) (Rc Tryz.func119) λr1 w2 h hI=>?_
 refine T ?_
 refine sB h (λ_ k=>wt hI.lt FS k) (Rc Tryz.func119) λr2 w3 h hI=>?_
 refine T ?_
 refine sq (am (l:=(ba d1.Body a3 c3 a4 c4 a5 c5)) rfl et jZ rfl aJ (hI.kblk (l:=(ba d1.Body a3 c3 a4 c4 a5 c5)) .z rfl).1) ?_
 refine sB h (λ_ k=>CU hI.lt FS k) (Rc Tryz.func21) λr3 w4 h hI=>?_
 refine T ?_
 refine aj (T ?_)
 obtain⟨r4,hx7,h⟩:=ab h
 replace hx7:=ax hx7
 refine sU (λhc=>kJ hI.lt trivial (hx7 hc)) (Rg Tryz.func61) λw5 hI=>?_
 refine T ?_
 refine aw (bj rfl rfl rfl rfl) rfl (λhc=>(am (l:=(bU d1.Type_)) rfl (aI et hc) qF rfl bN (hI.kblk (l:=(bU d1.Type_)) .z rfl).1)) ?_
 obtain⟨r5,hx9,h⟩:=ab h
 replace hx9:=ax hx9
 refine sU (λhc=>po hI.lt trivial (hx9 hc)) (Rg Tryz.func62) λw6 hI=>?_
 refine TR λhb h=>?_
 refine T ?_
 refine aj (T ?_)
 refine TR λhb h=>?_
 refine T ?_
 refine aj (aL [] false (.c (0,.q) (.c (1,.q) (.c (2,.q) (.c (3,.q) (.c (4,.q) (.c (5,.q) (.c (9,.q) (.c (6,.s) (.c (7,.q) (.c (8,.q) (.c (10,.q) (.c (11,.q) (.c (12,.q) .n))))))))))))) hI (by kernel_rfl) (by kernel_rfl) ?_)
 intro w7 hI
 refine V ?_
 obtain⟨s1,hx11,h⟩:=ab h
 refine iq rfl gn rfl (λw'=>aH rfl ah et hx11) ?_
 obtain⟨s2,hx12,h⟩:=ab h
 refine iq rfl gn rfl (λw'=>aH rfl et ah hx12) ?_
 refine V ?_
 refine dl rfl gn rfl (λw' hw'=>(am (l:=(bU d1.Type_)) rfl et qF rfl bN ((hI.kblk (l:=(bU d1.Type_)) .z rfl).at_ (SX.any rfl hw')))) (by kernel_rfl) ?_
 refine V ?_
 obtain⟨r6,hx13,h⟩:=ab h
 refine bF rfl gn rfl (ar (vs:=[(Value.agg (fV d1.Type_))]) rfl GV ⟨et,af⟩) (Calls.mono (pQ hI.lt af hx13) ?_)
 rintro _ w8 ⟨rfl,hx14,hl6⟩
 refine⟨_,rfl,hx14,?_⟩
 replace hI:=(hI.ext hx14)
 obtain⟨s3,hx15,h⟩:=ab h
 refine iq rfl gn rfl (λw'=>aH rfl et et hx15) ?_
 obtain⟨s4,hx16,h⟩:=ab h
 refine iq rfl gn rfl (λw'=>aH rfl et ah hx16) ?_
 obtain⟨s5,hx17,h⟩:=ab h
 refine iq rfl gn rfl (λw'=>aH rfl et et hx17) ?_
 obtain⟨s6,hx18,h⟩:=ab h
 refine iq rfl gn rfl (λw'=>aH rfl et ah hx18) ?_
 refine V ?_
 refine aj (T ?_)
 refine TC (λhb h=>?_) λhb h=>?_
 ·refine T ?_
  refine sB h (λ_ k=>CN hI.lt trivial k) (Rc Tryz.func120) λr7 w9 h hI=>?_
  obtain⟨s7,hx21,h⟩:=ab h
  refine sq (aH rfl et et hx21) ?_
  refine T ?_
  refine aj (T ?_)
  refine TC (λhb h=>?_) λhb h=>?_
  ·refine T ?_
   obtain⟨s8,hx22,h⟩:=ab h
   refine sq (aH rfl et ah hx22) ?_
   refine sm ?_
   obtain⟨s9,hx23,h⟩:=ab h
   refine sq (aH rfl et et hx23) ?_
   refine T ?_
   obtain⟨s10,hx24,h⟩:=ab h
   refine sq (aH rfl et ah hx24) ?_
   refine T ?_
   obtain⟨s11,hx25,h⟩:=ab h
   refine sq (aH rfl et et hx25) ?_
   obtain⟨s12,hx26,h⟩:=ab h
   refine sq (aH rfl et ah hx26) ?_
   exact RF
  refine T ?_
  obtain⟨s13,hx27,h⟩:=ab h
  refine sq (aH rfl et ah hx27) ?_
  refine T ?_
  obtain⟨s14,hx28,h⟩:=ab h
  refine sq (aH rfl et et hx28) ?_
  obtain⟨s15,hx29,h⟩:=ab h
  refine sq (aH rfl et ah hx29) ?_
  exact RF
 refine T ?_
 obtain⟨s16,hx30,h⟩:=ab h
 refine sq (aH rfl et et hx30) ?_
 obtain⟨s17,hx31,h⟩:=ab h
 refine sq (aH rfl et ah hx31) ?_
 exact RF
theorem CT (hF:dF F w0) {p1:aV} (hc:AllCl [Cl.sl be a1 c1 p1.Sizes,Cl.sl az a2 c2 p1.Where,Cl.sl bH a3 c3 p1.Params,Cl.sl fb a4 c4 p1.Defs,Cl.sl be a5 c5 p1.Outs] F w0) {r:List UInt8} (h:nT p1=some r):CR F w0 28 #[(Value.agg (hP p1 a1 c1 a2 c2 a3 c3 a4 c4 a5 c5))] (str r) []:=by
 refine EN Tryz.func28 Tryz.ntmps28 hF hc λhI=>?_
 rw[nT]at h
 refine sr (lX λb1 c7 w1 hI=>?_)
 refine T ?_
 refine sB h (λ_ k=>uW hI.lt FS k) (Rc Tryz.func58) λr1 w2 h hI=>?_
 refine T ?_
 refine sB h (λ_ k=>uW hI.lt FS k) (Rc Tryz.func58) λr2 w3 h hI=>?_
 refine T ?_
 refine aj (T ?_)
 refine TR λhb h=>?_
 refine T ?_
 refine bO (α:=(List UInt8)) (λ_=>⟨135,[]⟩) (λx=>[(1,vp b1 0),(5,(str r2.1)),(7,(str x))]) (λx=>λw=>∃ C,Bun cH F w0 C w [] [Cl.blk b1 55 (hP p1 a1 c1 a2 c2 a3 c3 a4 c4 a5 c5),Cl.sl be a1 c1 p1.Sizes,Cl.sl az a2 c2 p1.Where,Cl.sl bH a3 c3 p1.Params,Cl.sl fb a4 c4 p1.Defs,Cl.sl be a5 c5 p1.Outs]∧k8 p1 r2 x=some r) ?_ ?_
 ·clear h hI;rintro s1 w4 ⟨c8,hI,h⟩
  try dsimp only at hI h ⊢
  rw[k8]at h
  refine bO (α:=(List UInt8)) (λ_=>⟨135,[]⟩) (λx=>[(1,vp b1 0),(5,(str r2.1)),(7,(str x))]) (λx=>λw=>∃ C,Bun cH F w0 C w [] [Cl.blk b1 55 (hP p1 a1 c1 a2 c2 a3 c3 a4 c4 a5 c5),Cl.sl be a1 c1 p1.Sizes,Cl.sl az a2 c2 p1.Where,Cl.sl bH a3 c3 p1.Params,Cl.sl fb a4 c4 p1.Defs,Cl.sl be a5 c5 p1.Outs]∧pv p1 r2 x=some r) ?_ ?_
  ·clear h hI;rintro s2 w5 ⟨c9,hI,h⟩
   try dsimp only at hI h ⊢
   rw[pv]at h
   refine bO (α:=(List UInt8)) (λ_=>⟨135,[]⟩) (λx=>[(1,vp b1 0),(5,(str r2.1)),(7,(str x))]) (λx=>λw=>∃ C,Bun cH F w0 C w [] [Cl.blk b1 55 (hP p1 a1 c1 a2 c2 a3 c3 a4 c4 a5 c5),Cl.sl be a1 c1 p1.Sizes,Cl.sl az a2 c2 p1.Where,Cl.sl bH a3 c3 p1.Params,Cl.sl fb a4 c4 p1.Defs,Cl.sl be a5 c5 p1.Outs]∧pu p1 r2 x=some r) ?_ ?_
   ·clear h hI;rintro s3 w6 ⟨c10,hI,h⟩
    try dsimp only at hI h ⊢
    rw[pu]at h
    refine bO (α:=(List UInt8)) (λ_=>⟨135,[]⟩) (λx=>[(1,vp b1 0),(5,(str r2.1)),(7,(str x))]) (λx=>λw=>∃ C,Bun cH F w0 C w [] [Cl.blk b1 55 (hP p1 a1 c1 a2 c2 a3 c3 a4 c4 a5 c5),Cl.sl be a1 c1 p1.Sizes,Cl.sl az a2 c2 p1.Where,Cl.sl bH a3 c3 p1.Params,Cl.sl fb a4 c4 p1.Defs,Cl.sl be a5 c5 p1.Outs]∧k7 p1 r2 x=some r) ?_ ?_
    ·clear h hI;rintro s4 w7 ⟨c11,hI,h⟩
     try dsimp only at hI h ⊢
     rw[k7]at h
     refine aj (T ?_)
     refine TC (λhb h=>?_) λhb h=>?_
     ·refine T ?_
      obtain⟨s5,hx5,h⟩:=ab h
      refine sq (aH rfl et ah hx5) ?_
      refine sm ?_
      obtain⟨s6,hx6,h⟩:=ab h
      refine sq (aH rfl et et hx6) ?_
      obtain⟨s7,hx7,h⟩:=ab h
      refine sq (aH rfl et ah hx7) ?_
      exact RF
     exact RF
    refine T ?_
    refine bk (α:=Nat×(List UInt8)×Int) (λx=>λw=>∃ C,Bun cH F w0 C w [] [Cl.blk b1 55 (hP p1 a1 c1 a2 c2 a3 c3 a4 c4 a5 c5),Cl.sl be a1 c1 p1.Sizes,Cl.sl az a2 c2 p1.Where,Cl.sl bH a3 c3 p1.Params,Cl.sl fb a4 c4 p1.Defs,Cl.sl be a5 c5 p1.Outs]∧eh p1 r2 (x.1) (x.2.1) (x.2.2)=some r) (λx _=>x.1) (λx=>[(1,vp b1 0),(5,(str r2.1)),(7,(str (x.2.1))),(11,vi (x.2.2))]) (fu,s3,0) BH SB ?_
    clear h hI;rintro⟨fuel1,s8,i1⟩ w8 ⟨c12,hI,h⟩
    dsimp only at hI h ⊢
    rcases fuel1 with _ | fuel1
    ·rw[eh]at h;cases h
    rw[eh]at h
    refine aj (T ?_)
    refine TC (λhb h=>?_) λhb h=>?_
    ·refine T ?_
     refine aj (T ?_)
     obtain⟨e1,hx8,h⟩:=ab h
     obtain⟨ad1,cs1,hA1,hr1,hq1⟩:=hI.clat .p4 hx8
     obtain⟨a6,c13,a7,c14,a8,c15,a9,c16,a10,c17,rfl,hf1,hf2,hf3,hf4,hf5⟩:=hr1
     have hI:=hI.ads hf1
     have hI:=hI.ads hf2
     have hI:=hI.ads hf3
     have hI:=hI.ads hf4
     have hI:=hI.ads hf5
     refine sI ?_
     refine T ?_
     refine sB h (λ_ k=>EJ hI.lt FS k) (Rc Tryz.func66) λr3 w9 h hI=>?_
     refine T ?_
     refine aj (T ?_)
     refine TR λhb h=>?_
     refine T ?_
     obtain⟨s9,hx11,h⟩:=ab h
     refine sq (aH rfl et et hx11) ?_
     obtain⟨s10,hx12,h⟩:=ab h
     refine sq (aH rfl et ah hx12) ?_
     refine T ?_
     refine aG ?_
     exact kl (fuel1,s10,av (i1+1))
    refine bl ?_
    refine eZ ?_
    exact kj s8
   refine T ?_
   refine bk (α:=Nat×(List UInt8)×Int) (λx=>λw=>∃ C,Bun cH F w0 C w [] [Cl.blk b1 55 (hP p1 a1 c1 a2 c2 a3 c3 a4 c4 a5 c5),Cl.sl be a1 c1 p1.Sizes,Cl.sl az a2 c2 p1.Where,Cl.sl bH a3 c3 p1.Params,Cl.sl fb a4 c4 p1.Defs,Cl.sl be a5 c5 p1.Outs]∧eg p1 r2 (x.1) (x.2.1) (x.2.2)=some r) (λx _=>x.1) (λx=>[(1,vp b1 0),(5,(str r2.1)),(7,(str (x.2.1))),(9,vi (x.2.2))]) (fu,s2,0) BH SB ?_
   clear h hI;rintro⟨fuel2,s11,i2⟩ w10 ⟨c18,hI,h⟩
   dsimp only at hI h ⊢
   rcases fuel2 with _ | fuel2
   ·rw[eg]at h;cases h
   rw[eg]at h
   refine aj (T ?_)
   refine TC (λhb h=>?_) λhb h=>?_
   ·refine T ?_
    refine aj (T ?_)
    obtain⟨e2,hx13,h⟩:=ab h
    obtain⟨ad2,cs2,hA2,hr2,hq2⟩:=hI.clat .p3 hx13
    obtain⟨a11,c19,rfl,hf6⟩:=hr2
    have hI:=hI.ads hf6
    refine sI ?_
    refine T ?_
    refine lN λb2 c20 w11 hI=>?_
    refine lA λc21 w12 hI=>?_
    refine nk (aj (T ?_))
    refine sB h (λ_ k=>kJ hI.lt trivial k) (Rc Tryz.func61) λr4 w13 h hI=>?_
    refine T ?_
    refine aw (bj rfl rfl rfl rfl) rfl (λhc=>(am (l:=(bU e2.Type_)) rfl (aI et hc) qF rfl bN (Q5 (hI.blk .z) rfl))) ?_
    obtain⟨r5,hx16,h⟩:=ab h
    replace hx16:=ax hx16
    refine sU (λhc=>po hI.lt trivial (hx16 hc)) (Rg Tryz.func62) λw14 hI=>?_
    refine T ?_
    obtain⟨r6,hx18,h⟩:=ab h
    replace hx18:=ax hx18
    refine sU (λhc=>uV hI.lt FS (hx18 hc)) (Rg Tryz.func63) λw15 hI=>?_
    refine TR λhb h=>?_
    refine T ?_
    refine aL [] false (.c (0,.q) (.c (1,.q) (.c (2,.q) (.c (3,.q) (.c (4,.q) (.c (5,.q) (.c (6,.q) (.c (7,.q) (.c (11,.q) (.c (12,.q) (.c (8,.s) (.c (9,.q) (.c (10,.q) (.c (13,.s) (.c (14,.q) (.c (15,.q) (.c (16,.q) .n))))))))))))))))) hI (by kernel_rfl) (by kernel_rfl) ?_
    intro w16 hI
    refine V ?_
    obtain⟨s12,hx20,h⟩:=ab h
    refine iq rfl gn rfl (λw'=>aH rfl et ah hx20) ?_
    refine V ?_
    obtain⟨s13,hx21,h⟩:=ab h
    refine iq rfl gn rfl (λw'=>aH rfl et et hx21) ?_
    obtain⟨s14,hx22,h⟩:=ab h
    refine iq rfl gn rfl (λw'=>aH rfl et ah hx22) ?_
    refine V ?_
    refine dl rfl gn rfl (λw' hw'=>(am (l:=(bU e2.Type_)) rfl et qF rfl bN ((CA.blk (hI.blk .z) rfl).at_ (SX.any rfl hw')))) (by kernel_rfl) ?_
    refine V ?_
    obtain⟨r7,hx23,h⟩:=ab h
    refine bF rfl gn rfl (ar (vs:=[(Value.agg (fV e2.Type_))]) rfl GV ⟨et,af⟩) (Calls.mono (pQ hI.lt af hx23) ?_)
    rintro _ w17 ⟨rfl,hx24,hl7⟩
    refine⟨_,rfl,hx24,?_⟩
    replace hI:=(hI.ext hx24)
    obtain⟨s15,hx25,h⟩:=ab h
    refine iq rfl gn rfl (λw'=>aH rfl et et hx25) ?_
    obtain⟨s16,hx26,h⟩:=ab h
    refine iq rfl gn rfl (λw'=>aH rfl et ah hx26) ?_
    obtain⟨r8,hx27,h⟩:=ab h
    refine bF rfl gn rfl (ar (vs:=[vs a11 e2.Dims.length c19]) rfl Mx ⟨et,af⟩) (Calls.mono (uX hI.lt FS hx27) ?_)
    rintro _ w18 ⟨rfl,hx28,hl8⟩
    refine⟨_,rfl,hx28,?_⟩
    replace hI:=(hI.ext hx28)
    obtain⟨s17,hx29,h⟩:=ab h
    refine iq rfl gn rfl (λw'=>aH rfl et et hx29) ?_
    obtain⟨s18,hx30,h⟩:=ab h
    refine iq rfl gn rfl (λw'=>aH rfl et ah hx30) ?_
    refine V ?_
    refine T ?_
    refine aG ?_
    exact kl (fuel2,s18,av (i2+1))
   refine bl ?_
   refine eZ ?_
   exact kj s11
  refine T ?_
  refine bk (α:=Nat×(List UInt8)×Int) (λx=>λw=>∃ C,Bun cH F w0 C w [] [Cl.blk b1 55 (hP p1 a1 c1 a2 c2 a3 c3 a4 c4 a5 c5),Cl.sl be a1 c1 p1.Sizes,Cl.sl az a2 c2 p1.Where,Cl.sl bH a3 c3 p1.Params,Cl.sl fb a4 c4 p1.Defs,Cl.sl be a5 c5 p1.Outs]∧fe p1 r2 (x.1) (x.2.1) (x.2.2)=some r) (λx _=>x.1) (λx=>[(1,vp b1 0),(5,(str r2.1)),(7,(str (x.2.1))),(8,vi (x.2.2))]) (fu,s1,0) BH SB ?_
  clear h hI;rintro⟨fuel3,s19,i3⟩ w19 ⟨c22,hI,h⟩
  dsimp only at hI h ⊢
  rcases fuel3 with _ | fuel3
  ·rw[fe]at h;cases h
  rw[fe]at h
  refine aj (T ?_)
  refine TC (λhb h=>?_) λhb h=>?_
  ·refine T ?_
   refine aj (T ?_)
   refine aj (T ?_)
   obtain⟨e3,hx31,h⟩:=ab h
   obtain⟨ad3,cs3,hA3,hr3,hq3⟩:=hI.clat .p2 hx31
   obtain⟨a12,c23,rfl,hf7⟩:=hr3
   have hI:=hI.ads hf7
   refine sI ?_
   refine T ?_
   refine sB h (λ_ k=>rH hI.lt FS k) (Rc Tryz.func59) λr9 w20 h hI=>?_
   refine TR λhb h=>?_
   refine T ?_
   obtain⟨s20,hx34,h⟩:=ab h
   refine sq (aH rfl et ah hx34) ?_
   refine T ?_
   obtain⟨e4,hx35,h⟩:=ab h
   obtain⟨ad4,cs4,hA4,hr4,hq4⟩:=hI.clat .p3 hx35
   obtain⟨a13,c24,rfl,hf8⟩:=hr4
   have hI:=hI.ads hf8
   refine sI ?_
   refine T ?_
   refine sB h (λ_ k=>zG hI.lt FS k) (Rc Tryz.func60) λr10 w21 h hI=>?_
   obtain⟨s21,hx38,h⟩:=ab h
   refine sq (aH rfl et et hx38) ?_
   obtain⟨s22,hx39,h⟩:=ab h
   refine sq (aH rfl et ah hx39) ?_
   refine T ?_
   refine aG ?_
   exact kl (fuel3,s22,av (i3+1))
  refine bl ?_
  refine eZ ?_
  exact kj s19
 refine TC (λhb h=>?_) λhb h=>?_
 ·refine T ?_
  obtain⟨s23,hx40,h⟩:=ab h
  refine sq (aH rfl ah et hx40) ?_
  obtain⟨s24,hx41,h⟩:=ab h
  refine sq (aH rfl et ah hx41) ?_
  refine sa ?_
  refine aG ?_
  exact kj s24
 exact aZ (bI ([]:List UInt8) SB BH rfl)
theorem qA (F:NP) (w0:World) (hF:∀ k,F k→k<w0.heap.size) (p1:aV) (a1:Option Addr) (c1:Nat) (a2:Option Addr) (c2:Nat) (a3:Option Addr) (c3:Nat) (a4:Option Addr) (c4:Nat) (a5:Option Addr) (c5:Nat) (hc:AllCl [Cl.sl be a1 c1 p1.Sizes,Cl.sl az a2 c2 p1.Where,Cl.sl bH a3 c3 p1.Params,Cl.sl fb a4 c4 p1.Defs,Cl.sl be a5 c5 p1.Outs,au] F w0) (r:Bool)
  (h:gB p1=some r):
  Calls Tryz.prog 9 #[(Value.agg (hP p1 a1 c1 a2 c2 a3 c3 a4 c4 a5 c5))] w0 λe w=>e= .returned (vb r)∧Ext w0 w∧AllCl [] F w:=by
 refine EN Tryz.func9 Tryz.ntmps9 hF hc λhI=>?_
 rw[gB]at h
 refine sr (lX λb1 c7 w1 hI=>?_)
 refine T ?_
 refine aj (sr (sq (am (l:=(yY p1 a1 c1 a2 c2 a3 c3 a4 c4 a5 c5)) rfl et QS rfl ye (hI.kblk (l:=(yY p1 a1 c1 a2 c2 a3 c3 a4 c4 a5 c5)) .z rfl).1) ?_))
 refine sB h (λ_ k=>wv hI.lt FS k) (Rc Tryz.func27) λr1 w2 h hI=>?_
 refine TC (λhb h=>?_) λhb h=>?_
 ·refine sr ?_
  refine sB h (λ_ k=>oL hI.lt FS k) (Rc Tryz.func11) λr2 w3 h hI=>?_
  exact RF
 refine T ?_
 refine sq (am (l:=(yY p1 a1 c1 a2 c2 a3 c3 a4 c4 a5 c5)) rfl et QS rfl ye (hI.kblk (l:=(yY p1 a1 c1 a2 c2 a3 c3 a4 c4 a5 c5)) .z rfl).1) ?_
 refine sB h (λ_ k=>CT hI.lt FS k) (Rc Tryz.func28) λr3 w4 h hI=>?_
 refine T ?_
 refine aj (T ?_)
 refine TC (λhb h=>?_) λhb h=>?_
 ·refine sr ?_
  refine sB h (λ_ k=>oL hI.lt FS k) (Rc Tryz.func11) λr4 w5 h hI=>?_
  exact RF
 refine T ?_
 obtain⟨r5,hx9,h⟩:=ab h
 refine bf gn rfl (Rc Tryz.func24) (Calls.mono (AC hI.lt FS hx9) ?_)
 rintro _ w6 ⟨a6,c8,a7,c9,a8,c10,a9,c11,a10,c12,rfl,hx10,hl5⟩
 refine⟨_,rfl,?_⟩
 replace hI:=(hI.ext hx10).adds hl5;dsimp only[ca,na]at hI
 refine T ?_
 refine lN λb2 c13 w7 hI=>?_
 refine lA λc14 w8 hI=>?_
 refine T ?_
 refine aw (bg rfl rfl rfl rfl) rfl (λhc=>(am (l:=(yY p1 a1 c1 a2 c2 a3 c3 a4 c4 a5 c5)) rfl et QS rfl ye (hI.kblk (l:=(yY p1 a1 c1 a2 c2 a3 c3 a4 c4 a5 c5)) .p5 rfl).1)) ?_
 refine aw (bg rfl rfl rfl rfl) rfl (λhc=>(am (l:=(yY r5.1 a6 c8 a7 c9 a8 c10 a9 c11 a10 c12)) rfl et QS rfl ye (Q5 (hI.blk .z) rfl))) ?_
 obtain⟨r6,hx11,h⟩:=ab h
 replace hx11:=ax hx11
 refine sU (λhc=>ES hI.lt FS (hx11 hc)) (Rg Tryz.func26) λw9 hI=>?_
 refine T ?_
 obtain⟨r7,hx13,h⟩:=ab h
 replace hx13:=ax hx13
 refine sU (λhc=>oL hI.lt FS (hx13 hc)) (Rg Tryz.func11) λw10 hI=>?_
 exact RF
end Go.Proofs.YtmhoikfoogemnaaGreatDoor
