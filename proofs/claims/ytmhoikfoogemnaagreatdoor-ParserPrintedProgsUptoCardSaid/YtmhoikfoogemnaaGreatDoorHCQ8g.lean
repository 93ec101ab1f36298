import Derived.Test.YtmhoikfoogemnaaGreatDoorHCQ8f
import Derived.Test.YtmhoikfoogemnaaGreatDoorHLfH
namespace Go.Proofs.YtmhoikfoogemnaaGreatDoor
open Go Go.RowKit Go.Vc
set_option maxRecDepth 100000
set_option maxHeartbeats 4000000
set_option linter.unusedVariables false
set_option linter.unusedSimpArgs false
variable {σ:Type} {C0 F:NP} {w0:World} {a1 a2 a3 a4 a5 a6 a7 a8 a9 a10 a11 a12:Option Addr} {b1 b2 b3 b4 b5 b6 b7 b8 b9 b10 b11 b12 c1 c2 c3 c4 c5 c6 c7 c8 c9 c10 c11 c12:Nat}
abbrev Qs8 (f_:(ae→Int→Option Int)):Prop:=∀ ⦃F:NP⦄ ⦃w0:World⦄ (hF:dF F w0) ⦃e1:ae⦄ ⦃most1:Int⦄ ⦃a1 a2 a3:Option Addr⦄ ⦃c1 c2 c3:Nat⦄ (hc:AllCl [Cl.sl ai a1 c1 e1.Lin.L,Cl.sl al a2 c2 e1.Idx,Cl.sl an a3 c3 e1.Args] F w0) ⦃r:Int⦄ (h:f_ e1 most1=some r),CR F w0 160 #[(Value.agg (aA e1 a1 c1 a2 c2 a3 c3)),vi most1] (vi r) []
theorem xX {rec_:(ae→Int→Option Int)} (hrec:Qs8 rec_) (hF:dF F w0) {e1:ae} {most1:Int} (hc:AllCl [Cl.sl ai a1 c1 e1.Lin.L,Cl.sl al a2 c2 e1.Idx,Cl.sl an a3 c3 e1.Args] F w0) {r:Int} (h:la rec_ e1 most1=some r):CR F w0 160 #[(Value.agg (aA e1 a1 c1 a2 c2 a3 c3)),vi most1] (vi r) []:=by
 refine EN Tryz.func160 Tryz.ntmps160 hF hc λhI=>?_
 rw[la]at h
 refine sr (lX λb1 c5 w1 hI=>?_)
 refine T ?_
 refine aj (T ?_)
 refine bk (α:=Nat×Int×Int) (λx=>λw=>∃ C,Bun cH F w0 C w [] [Cl.blk b1 39 (aA e1 a1 c1 a2 c2 a3 c3),Cl.sl ai a1 c1 e1.Lin.L,Cl.sl al a2 c2 e1.Idx,Cl.sl an a3 c3 e1.Args]∧fo e1 most1 rec_ (x.1) (x.2.1) (x.2.2)=some r) (λx _=>x.1) (λx=>[(1,vi most1),(2,vp b1 0),(5,vi (x.2.1)),(6,vi (x.2.2))]) (fu,1,0) BH SB ?_
 clear h hI;rintro⟨fuel1,d1,i1⟩ w2 ⟨c6,hI,h⟩
 dsimp only at hI h ⊢
 rcases fuel1 with _ | fuel1
 ·rw[fo]at h;cases h
 rw[fo]at h
 refine aj (T ?_)
 refine TC (λhb h=>?_) λhb h=>?_
 ·refine T ?_
  refine aj (T ?_)
  obtain⟨e2,hx1,h⟩:=ab h
  obtain⟨ad1,cs1,hA1,hr1,hq1⟩:=hI.clat .p3 hx1
  obtain⟨a4,c7,a5,c8,a6,c9,rfl,hf1,hf2,hf3⟩:=ci hr1
  have hI:=hI.ads hf1
  have hI:=hI.ads hf2
  have hI:=hI.ads hf3
  refine sI ?_
  refine T ?_
  refine sB h (λ_ k=>hrec hI.lt FS k) (Rc Tryz.func160) λr1 w3 h hI=>?_
  refine T ?_
  refine sq (Iz rfl et et) ?_
  refine T ?_
  refine aG ?_
  exact kl (fuel1,max d1 (av (1+r1)),av (i1+1))
 refine bl ?_
 refine eZ ?_
 refine aS ?_
 exact RF
theorem xW (n:Nat):Qs8 (jo n):=by
 induction n with
 | zero=>intro F;intros;rename_i h;cases h
 | succ n ih=>intro F;intros;apply xX ih<;>assumption
theorem Av:Qs8 (q9):=xW fu
theorem Aw (hF:dF F w0) {e1:ae} (hc:AllCl [Cl.sl ai a1 c1 e1.Lin.L,Cl.sl al a2 c2 e1.Idx,Cl.sl an a3 c3 e1.Args] F w0) {r:Int} (h:oR e1=some r):CR F w0 85 #[(Value.agg (aA e1 a1 c1 a2 c2 a3 c3))] (vi r) []:=by
 refine EN Tryz.func85 Tryz.ntmps85 hF hc λhI=>?_
 rw[oR]at h
 refine sr (lX λb1 c5 w1 hI=>?_)
 refine T ?_
 refine sq (am (l:=(ba e1 a1 c1 a2 c2 a3 c3)) rfl et jZ rfl aJ (hI.kblk (l:=(ba e1 a1 c1 a2 c2 a3 c3)) .z rfl).1) ?_
 refine sB h (λ_ k=>Av hI.lt FS k) (Rc Tryz.func160) λr1 w2 h hI=>?_
 exact RF
abbrev Qs9 (f_:(ae→Int→Option Int)):Prop:=∀ ⦃F:NP⦄ ⦃w0:World⦄ (hF:dF F w0) ⦃e1:ae⦄ ⦃most1:Int⦄ ⦃a1 a2 a3:Option Addr⦄ ⦃c1 c2 c3:Nat⦄ (hc:AllCl [Cl.sl ai a1 c1 e1.Lin.L,Cl.sl al a2 c2 e1.Idx,Cl.sl an a3 c3 e1.Args] F w0) ⦃r:Int⦄ (h:f_ e1 most1=some r),CR F w0 161 #[(Value.agg (aA e1 a1 c1 a2 c2 a3 c3)),vi most1] (vi r) []
theorem zA {rec_:(ae→Int→Option Int)} (hrec:Qs9 rec_) (hF:dF F w0) {e1:ae} {most1:Int} (hc:AllCl [Cl.sl ai a1 c1 e1.Lin.L,Cl.sl al a2 c2 e1.Idx,Cl.sl an a3 c3 e1.Args] F w0) {r:Int} (h:lR rec_ e1 most1=some r):CR F w0 161 #[(Value.agg (aA e1 a1 c1 a2 c2 a3 c3)),vi most1] (vi r) []:=by
 refine EN Tryz.func161 Tryz.ntmps161 hF hc λhI=>?_
 rw[lR]at h
 refine sr (lX λb1 c5 w1 hI=>?_)
 refine T ?_
 refine aj (T ?_)
 refine bk (α:=Nat×Int×Int) (λx=>λw=>∃ C,Bun cH F w0 C w [] [Cl.blk b1 39 (aA e1 a1 c1 a2 c2 a3 c3),Cl.sl ai a1 c1 e1.Lin.L,Cl.sl al a2 c2 e1.Idx,Cl.sl an a3 c3 e1.Args]∧gJ e1 most1 rec_ (x.1) (x.2.1) (x.2.2)=some r) (λx _=>x.1) (λx=>[(1,vi most1),(2,vp b1 0),(5,vi (x.2.1)),(6,vi (x.2.2))]) (fu,1,0) BH SB ?_
 clear h hI;rintro⟨fuel1,n1,i1⟩ w2 ⟨c6,hI,h⟩
 dsimp only at hI h ⊢
 rcases fuel1 with _ | fuel1
 ·rw[gJ]at h;cases h
 rw[gJ]at h
 refine aj (T ?_)
 refine TC (λhb h=>?_) λhb h=>?_
 ·refine T ?_
  refine aj (T ?_)
  obtain⟨e2,hx1,h⟩:=ab h
  obtain⟨ad1,cs1,hA1,hr1,hq1⟩:=hI.clat .p3 hx1
  obtain⟨a4,c7,a5,c8,a6,c9,rfl,hf1,hf2,hf3⟩:=ci hr1
  have hI:=hI.ads hf1
  have hI:=hI.ads hf2
  have hI:=hI.ads hf3
  refine sI ?_
  refine T ?_
  refine sB h (λ_ k=>hrec hI.lt FS k) (Rc Tryz.func161) λr1 w3 h hI=>?_
  refine T ?_
  refine aG ?_
  exact kl (fuel1,av (n1+r1),av (i1+1))
 refine bl ?_
 refine eZ ?_
 refine aS ?_
 exact RF
theorem zz (n:Nat):Qs9 (ke n):=by
 induction n with
 | zero=>intro F;intros;rename_i h;cases h
 | succ n ih=>intro F;intros;apply zA ih<;>assumption
theorem CV:Qs9 (sc):=zz fu
theorem CY (hF:dF F w0) {e1:ae} (hc:AllCl [Cl.sl ai a1 c1 e1.Lin.L,Cl.sl al a2 c2 e1.Idx,Cl.sl an a3 c3 e1.Args] F w0) {r:Int} (h:nW e1=some r):CR F w0 86 #[(Value.agg (aA e1 a1 c1 a2 c2 a3 c3))] (vi r) []:=by
 refine EN Tryz.func86 Tryz.ntmps86 hF hc λhI=>?_
 rw[nW]at h
 refine sr (lX λb1 c5 w1 hI=>?_)
 refine T ?_
 refine sq (am (l:=(ba e1 a1 c1 a2 c2 a3 c3)) rfl et jZ rfl aJ (hI.kblk (l:=(ba e1 a1 c1 a2 c2 a3 c3)) .z rfl).1) ?_
 refine sB h (λ_ k=>CV hI.lt FS k) (Rc Tryz.func161) λr1 w2 h hI=>?_
 refine sq (PA rfl et ah) ?_
 exact RF
theorem As (hF:dF F w0) {e1:ae} (hc:AllCl [Cl.sl ai a1 c1 e1.Lin.L,Cl.sl al a2 c2 e1.Idx,Cl.sl an a3 c3 e1.Args] F w0) {r:Bool} (h:mT e1=some r):CR F w0 162 #[(Value.agg (aA e1 a1 c1 a2 c2 a3 c3))] (vb r) []:=by
 refine EN Tryz.func162 Tryz.ntmps162 hF hc λhI=>?_
 rw[mT]at h
 refine sr (lX λb1 c5 w1 hI=>?_)
 refine xp ?_
 refine nk (aj (sr (sq (aq rfl et jZ rfl jQ rfl) ?_)))
 refine sq (aF (v:=(vi e1.Op)) rfl et u3 rfl (hI.kblk (l:=[vi e1.Op]) .z rfl).1) ?_
 refine sq (rp rfl et ah) ?_
 refine sm ?_
 refine aw (bj rfl rfl rfl rfl) rfl (λhc=>aq rfl et jZ rfl jQ rfl) ?_
 refine aw (bj rfl rfl rfl rfl) rfl (λhc=>(aF (v:=(vi e1.Op)) rfl (aI et hc) u3 rfl (hI.kblk (l:=[vi e1.Op]) .z rfl).1)) ?_
 refine aw (bj rfl rfl rfl rfl) rfl (λhc=>tn rfl (aI et hc) ah) ?_
 refine sq (xP rfl et et) ?_
 refine TC (λhb h=>?_) λhb h=>?_
 ·refine sr (xp ?_)
  refine nk (aO ?_)
  obtain rfl:=ak h
  exact gR (vs:=[vb false]) Tryz.results162 ⟨aT rfl rfl,af⟩ (fq hI af)
 refine aZ (aS (aj (sr (sq (aq rfl et jZ rfl jQ rfl) ?_))))
 refine sq (aF (v:=(vi e1.Op)) rfl et u3 rfl (hI.kblk (l:=[vi e1.Op]) .z rfl).1) ?_
 refine sq (pE rfl et ah) ?_
 refine sm ?_
 refine aw (bg rfl rfl rfl rfl) rfl (λhc=>aq rfl et jZ rfl kM rfl) ?_
 refine aw (bg rfl rfl rfl rfl) rfl (λhc=>(am (l:=(oA e1.Val)) rfl (aI et hc) Gy rfl kM (hI.kblk (l:=(oA e1.Val)) .z rfl).1)) ?_
 refine aw (bg rfl rfl rfl rfl) rfl (λhc=>aK (vs:=[]) (cs:=#[vi 0,vi 0]) rfl trivial (by kernel_rfl)) ?_
 refine aw (bg rfl rfl rfl rfl) rfl (λhc=>iT rfl (aI et hc) (aI et hc) (wo ..) (vr ..)) ?_
 refine sq (tq rfl et et) ?_
 refine sm ?_
 refine aw (bj rfl rfl rfl rfl) rfl (λhc=>aq rfl et jZ rfl jQ rfl) ?_
 refine aw (bj rfl rfl rfl rfl) rfl (λhc=>(aF (v:=(vi e1.Op)) rfl (aI et hc) u3 rfl (hI.kblk (l:=[vi e1.Op]) .z rfl).1)) ?_
 refine aw (bj rfl rfl rfl rfl) rfl (λhc=>pE rfl (aI et hc) ah) ?_
 refine aw (bj rfl rfl rfl rfl) rfl (λhc=>fC rfl (aI et hc)) ?_
 refine aw (iR rfl rfl rfl rfl) rfl (λhc=>aq rfl et jZ rfl jQ rfl) ?_
 refine aw (iR rfl rfl rfl rfl) rfl (λhc=>(aF (v:=(vi e1.Op)) rfl (aI et hc) u3 rfl (hI.kblk (l:=[vi e1.Op]) .z rfl).1)) ?_
 refine aw (iR rfl rfl rfl rfl) rfl (λhc=>pE rfl (aI et hc) ah) ?_
 refine aw (bj rfl rfl rfl rfl) rfl (λhc=>yu rfl hc et et) ?_
 refine aw (bj rfl rfl rfl rfl) rfl (λhc=>fC rfl (aI et hc)) ?_
 refine aw (iR rfl rfl rfl rfl) rfl (λhc=>aq rfl et jZ rfl bN rfl) ?_
 refine aw (iR rfl rfl rfl rfl) rfl (λhc=>(am (l:=(bU e1.Type_)) rfl (aI et hc) qF rfl bN (hI.kblk (l:=(bU e1.Type_)) .z rfl).1)) ?_
 refine aw (iR rfl rfl rfl rfl) rfl (λhc=>aK (vs:=[]) (cs:=BA) rfl trivial (by kernel_rfl)) ?_
 refine aw (iR rfl rfl rfl rfl) rfl (λhc=>iT rfl (aI et hc) (aI et hc) (sv ..) (oK ..)) ?_
 refine aw (bj rfl rfl rfl rfl) rfl (λhc=>yu rfl hc et et) ?_
 refine sq (xP rfl et et) ?_
 refine aG ?_
 refine oq (e:=[(1,vp b1 0),(37,(vb (((!decide (e1.Op=1))&&(!((decide (e1.Val.N=0))&&(decide (e1.Val.D=0)))))||(((!decide (e1.Op=1))&&(!decide (e1.Op=12)))&&(!((decide (e1.Type_.Kind=0))&&(decide (e1.Type_.Bits=0))&&(decide (e1.Type_.Frac=0))&&(decide (e1.Type_.Round=0))&&(decide (e1.Type_.Over=0))))))))]) SB ?_
 refine TC (λhb h=>?_) λhb h=>?_
 ·refine sr (xp ?_)
  refine nk (aO ?_)
  obtain rfl:=ak h
  exact gR (vs:=[vb false]) Tryz.results162 ⟨aT rfl rfl,af⟩ (fq hI af)
 refine aZ (aS (aj (sr (sq (aq rfl et jZ rfl jQ rfl) ?_))))
 refine sq (aF (v:=(vi e1.Op)) rfl et u3 rfl (hI.kblk (l:=[vi e1.Op]) .z rfl).1) ?_
 refine sq (pE rfl et ah) ?_
 refine sm ?_
 refine aw (bg rfl rfl rfl rfl) rfl (λhc=>aq rfl et jZ rfl bc rfl) ?_
 refine aw (bg rfl rfl rfl rfl) rfl (λhc=>aq rfl (aI et hc) pr rfl Fk rfl) ?_
 refine aw (bg rfl rfl rfl rfl) rfl (λhc=>(aF (v:=(vi e1.Lin.K)) rfl (aI et hc) u2 rfl (hI.kblk (l:=[vi e1.Lin.K]) .z rfl).1)) ?_
 refine aw (bg rfl rfl rfl rfl) rfl (λhc=>pE rfl (aI et hc) ah) ?_
 refine aw (bg rfl rfl rfl rfl) rfl (λhc=>fC rfl (aI et hc)) ?_
 refine aw (gV rfl rfl rfl rfl) rfl (λhc=>aq rfl et jZ rfl bc rfl) ?_
 refine aw (gV rfl rfl rfl rfl) rfl (λhc=>aq rfl (aI et hc) pr rfl ul rfl) ?_
 refine aw (gV rfl rfl rfl rfl) rfl (λhc=>(aF (v:=(vs a1 e1.Lin.L.length c1)) rfl (aI et hc) BL rfl (hI.kblk (l:=[vs a1 e1.Lin.L.length c1]) .z rfl).1)) ?_
 refine aw (gV rfl rfl rfl rfl) rfl (λhc=>jM rfl BL (aI et hc)) ?_
 refine aw (gV rfl rfl rfl rfl) rfl (λhc=>tn rfl (aI et hc) ah) ?_
 refine aw (bg rfl rfl rfl rfl) rfl (λhc=>DC rfl hc et et) ?_
 refine sq (tq rfl et et) ?_
 refine sm ?_
 refine aw (bj rfl rfl rfl rfl) rfl (λhc=>aq rfl et jZ rfl jQ rfl) ?_
 refine aw (bj rfl rfl rfl rfl) rfl (λhc=>(aF (v:=(vi e1.Op)) rfl (aI et hc) u3 rfl (hI.kblk (l:=[vi e1.Op]) .z rfl).1)) ?_
 refine aw (bj rfl rfl rfl rfl) rfl (λhc=>pE rfl (aI et hc) ah) ?_
 refine aw (bj rfl rfl rfl rfl) rfl (λhc=>fC rfl (aI et hc)) ?_
 refine aw (iR rfl rfl rfl rfl) rfl (λhc=>aq rfl et jZ rfl wN rfl) ?_
 refine aw (iR rfl rfl rfl rfl) rfl (λhc=>(aF (v:=(str e1.Name)) rfl (aI et hc) u9 rfl (hI.kblk (l:=[(str e1.Name)]) .z rfl).1)) ?_
 refine aw (iR rfl rfl rfl rfl) rfl (λhc=>Gm rfl (aI et hc) ah) ?_
 refine aw (iR rfl rfl rfl rfl) rfl (λhc=>fC rfl (aI et hc)) ?_
 refine aw (gV rfl rfl rfl rfl) rfl (λhc=>aq rfl et jZ rfl nK rfl) ?_
 refine aw (gV rfl rfl rfl rfl) rfl (λhc=>(aF (v:=(vs a2 e1.Idx.length c2)) rfl (aI et hc) xm rfl (hI.kblk (l:=[vs a2 e1.Idx.length c2]) .z rfl).1)) ?_
 refine aw (gV rfl rfl rfl rfl) rfl (λhc=>jM rfl xm (aI et hc)) ?_
 refine aw (gV rfl rfl rfl rfl) rfl (λhc=>tn rfl (aI et hc) ah) ?_
 refine aw (iR rfl rfl rfl rfl) rfl (λhc=>DC rfl hc et et) ?_
 refine aw (bj rfl rfl rfl rfl) rfl (λhc=>yu rfl hc et et) ?_
 refine sq (xP rfl et et) ?_
 refine aG ?_
 refine oq (e:=[(1,vp b1 0),(69,(vb (((!decide (e1.Op=2))&&((!decide (e1.Lin.K=0))||(decide (0<(e1.Lin.L.length:Int)))))||((!decide (e1.Op=3))&&((!decide (e1.Name=([]:List UInt8)))||(decide (0<(e1.Idx.length:Int))))))))]) SB ?_
 refine TC (λhb h=>?_) λhb h=>?_
 ·refine sr (xp ?_)
  refine nk (aO ?_)
  obtain rfl:=ak h
  exact gR (vs:=[vb false]) Tryz.results162 ⟨aT rfl rfl,af⟩ (fq hI af)
 refine aZ (aS (aj (sr (xp ?_))))
 refine nk (mB (bk (α:=Nat×Int) (λx=>λw=>∃ C,Bun cH F w0 C w [] [Cl.blk b1 39 (aA e1 a1 c1 a2 c2 a3 c3),Cl.sl ai a1 c1 e1.Lin.L,Cl.sl al a2 c2 e1.Idx,Cl.sl an a3 c3 e1.Args]∧fk e1 (x.1) (x.2)=some r) (λx _=>x.1) (λx=>[(1,vp b1 0),(3,vi (x.2))]) (fu,0) BH SB ?_))
 clear h hI;rintro⟨fuel1,i1⟩ w2 ⟨c6,hI,h⟩
 dsimp only at hI h ⊢
 rcases fuel1 with _ | fuel1
 ·rw[fk]at h;cases h
 rw[fk]at h
 refine aj (sr (sm ?_))
 refine sq (aq rfl et jZ rfl nK rfl) ?_
 refine sq (aF (v:=(vs a2 e1.Idx.length c2)) rfl et xm rfl (hI.kblk (l:=[vs a2 e1.Idx.length c2]) .z rfl).1) ?_
 refine sq (jM rfl xm et) ?_
 refine sq (rp rfl et et) ?_
 refine TC (λhb h=>?_) λhb h=>?_
 ·refine aZ (aS (aj (mB (sr (sq (aq rfl et jZ rfl nK rfl) ?_)))))
  refine sq (aF (v:=(vs a2 e1.Idx.length c2)) rfl et xm rfl (hI.kblk (l:=[vs a2 e1.Idx.length c2]) .z rfl).1) ?_
  refine sm ?_
  obtain⟨e2,hx1,h⟩:=ab h
  obtain⟨ad1,cs1,hA1,hr1,hq1⟩:=hI.clat .p2 hx1
  obtain⟨a4,c7,a5,c8,rfl,hf1,hf2⟩:=hr1
  have hI:=hI.ads hf1
  have hI:=hI.ads hf2
  refine sq (iS rfl xm lL et et (pA hx1) hA1) ?_
  refine sq (am (l:=(tJ e2 a4 c7 a5 c8)) rfl et o0 rfl lL hq1.1) ?_
  refine lN λb2 c9 w3 hI=>?_
  refine lA λc10 w4 hI=>?_
  refine nk (sr (sq (aq rfl et o0 rfl wN rfl) ?_))
  refine sq (aF (v:=(str e2.From)) rfl et u9 rfl (Q5 (hI.blk .z) rfl)) ?_
  refine sq (Gq rfl et ah) ?_
  refine sm ?_
  refine aw (bg rfl rfl rfl rfl) rfl (λhc=>aq rfl et o0 rfl qO rfl) ?_
  refine aw (bg rfl rfl rfl rfl) rfl (λhc=>(aF (v:=(vs a5 e2.At.length c8)) rfl (aI et hc) E5 rfl (Q5 (hI.blk .z) rfl))) ?_
  refine aw (bg rfl rfl rfl rfl) rfl (λhc=>jM rfl E5 (aI et hc)) ?_
  refine aw (bg rfl rfl rfl rfl) rfl (λhc=>tn rfl (aI et hc) ah) ?_
  refine sq (tq rfl et et) ?_
  refine sm ?_
  refine aw (bj rfl rfl rfl rfl) rfl (λhc=>aq rfl et o0 rfl wN rfl) ?_
  refine aw (bj rfl rfl rfl rfl) rfl (λhc=>(aF (v:=(str e2.From)) rfl (aI et hc) u9 rfl (Q5 (hI.blk .z) rfl))) ?_
  refine aw (bj rfl rfl rfl rfl) rfl (λhc=>Gm rfl (aI et hc) ah) ?_
  refine aw (bj rfl rfl rfl rfl) rfl (λhc=>fC rfl (aI et hc)) ?_
  refine aw (iR rfl rfl rfl rfl) rfl (λhc=>aq rfl et o0 rfl bc rfl) ?_
  refine aw (iR rfl rfl rfl rfl) rfl (λhc=>aq rfl (aI et hc) pr rfl Fk rfl) ?_
  refine aw (iR rfl rfl rfl rfl) rfl (λhc=>(aF (v:=(vi e2.Lin.K)) rfl (aI et hc) u2 rfl (Q5 (hI.blk .z) rfl))) ?_
  refine aw (iR rfl rfl rfl rfl) rfl (λhc=>pE rfl (aI et hc) ah) ?_
  refine aw (iR rfl rfl rfl rfl) rfl (λhc=>fC rfl (aI et hc)) ?_
  refine aw (gV rfl rfl rfl rfl) rfl (λhc=>aq rfl et o0 rfl bc rfl) ?_
  refine aw (gV rfl rfl rfl rfl) rfl (λhc=>aq rfl (aI et hc) pr rfl ul rfl) ?_
  refine aw (gV rfl rfl rfl rfl) rfl (λhc=>(aF (v:=(vs a4 e2.Lin.L.length c7)) rfl (aI et hc) BL rfl (Q5 (hI.blk .z) rfl))) ?_
  refine aw (gV rfl rfl rfl rfl) rfl (λhc=>jM rfl BL (aI et hc)) ?_
  refine aw (gV rfl rfl rfl rfl) rfl (λhc=>tn rfl (aI et hc) ah) ?_
  refine aw (iR rfl rfl rfl rfl) rfl (λhc=>DC rfl hc et et) ?_
  refine aw (bj rfl rfl rfl rfl) rfl (λhc=>yu rfl hc et et) ?_
  refine sq (xP rfl et et) ?_
  refine aG ?_
  refine oq (e:=[(1,vp b1 0),(3,vi i1),(108,(vb (((decide (e2.From=([]:List UInt8)))&&(decide (0<(e2.At.length:Int))))||((!decide (e2.From=([]:List UInt8)))&&((!decide (e2.Lin.K=0))||(decide (0<(e2.Lin.L.length:Int))))))))]) SB ?_
  refine TC (λhb h=>?_) λhb h=>?_
  ·refine sr (xp ?_)
   refine nk (aO ?_)
   obtain rfl:=ak h
   exact gR (vs:=[vb false]) Tryz.results162 ⟨aT rfl rfl,af⟩ (fq hI af)
  refine aZ (aS (ip rfl ?_))
  refine sm ?_
  refine sq (nB rfl et ah) ?_
  refine sa ?_
  refine aG ?_
  exact kl (fuel1,av (i1+1))
 refine bl ?_
 refine eZ ?_
 refine aS (sr (xp ?_))
 refine nk (aO ?_)
 obtain rfl:=ak h
 exact gR (vs:=[vb true]) Tryz.results162 ⟨aT rfl rfl,af⟩ (fq hI af)
theorem Au (hF:dF F w0) {e1:ae} (hc:AllCl [Cl.sl ai a1 c1 e1.Lin.L,Cl.sl al a2 c2 e1.Idx,Cl.sl an a3 c3 e1.Args] F w0) {r:Bool} (h:mU e1=some r):CR F w0 163 #[(Value.agg (aA e1 a1 c1 a2 c2 a3 c3))] (vb r) []:=by
 refine EN Tryz.func163 Tryz.ntmps163 hF hc λhI=>?_
 rw[mU]at h
 refine sr (lX λb1 c5 w1 hI=>?_)
 refine T ?_
 refine aj (T ?_)
 obtain⟨r1,hx1,h⟩:=ab h
 replace hx1:=ax hx1
 refine sU (λhc=>kJ hI.lt trivial (hx1 hc)) (Rg Tryz.func61) λw2 hI=>?_
 refine TR λhb h=>?_
 refine T ?_
 refine aj (T ?_)
 refine bk (α:=Nat×Int) (λx=>λw=>∃ C,Bun cH F w0 C w [] [Cl.blk b1 39 (aA e1 a1 c1 a2 c2 a3 c3),Cl.sl ai a1 c1 e1.Lin.L,Cl.sl al a2 c2 e1.Idx,Cl.sl an a3 c3 e1.Args]∧fm e1 (x.1) (x.2)=some r) (λx _=>x.1) (λx=>[(1,vp b1 0),(3,vi (x.2))]) (fu,0) BH SB ?_
 clear h hI;rintro⟨fuel1,i1⟩ w3 ⟨c6,hI,h⟩
 dsimp only at hI h ⊢
 rcases fuel1 with _ | fuel1
 ·rw[fm]at h;cases h
 rw[fm]at h
 refine aj (T ?_)
 refine TC (λhb h=>?_) λhb h=>?_
 ·refine T ?_
  refine aj (T ?_)
  obtain⟨e2,hx3,h⟩:=ab h
  obtain⟨ad1,cs1,hA1,hr1,hq1⟩:=hI.clat .p2 hx3
  obtain⟨a4,c7,a5,c8,rfl,hf1,hf2⟩:=hr1
  have hI:=hI.ads hf1
  have hI:=hI.ads hf2
  refine sI ?_
  refine T ?_
  obtain⟨e3,hx4,h⟩:=ab h
  replace hx4:=ax hx4
  obtain⟨ad2,cs2,hq2⟩:=hI.gclat .p4 hx4
  obtain⟨a6,c9,a7,c10,hq3⟩:∃ (a6:Option Addr) (c9:Nat) (a7:Option Addr) (c10:Nat),(!decide (e2.From=([]:List UInt8)))=true→(a2=some ad2∧cs2=(tJ e3 a6 c9 a7 c10)∧CA (Dj F c6) w3 (ad2.add (Int.toNat i1 * 4)) cs2∧SlC ai (Dj F c6) w3 a6 c9 e3.Lin.L∧SlC dU (Dj F c6) w3 a7 c10 e3.At):=by
   by_cases hc:(!decide (e2.From=([]:List UInt8)))=true
   ·obtain⟨k1,k2,k3⟩:=hq2 hc;obtain⟨a6,c9,a7,c10,rfl,hf3,hf4⟩:=k2;exact⟨a6,c9,a7,c10,λ_=>⟨k1,rfl,k3,hf3,hf4⟩⟩
   exact⟨default,default,default,default,λk=>absurd k hc⟩
  clear hq2
  have hI:=hI.add (c:=Rf (!decide (e2.From=([]:List UInt8))) ai a6 c9 e3.Lin.L) (λhc=>(hq3 hc).2.2.2.1)
  have hI:=hI.add (c:=Rf (!decide (e2.From=([]:List UInt8))) dU a7 c10 e3.At) (λhc=>(hq3 hc).2.2.2.2)
  have hq4:(!decide (e2.From=([]:List UInt8)))=true→CA (Dj F c6) w3 (ad2.add (Int.toNat i1 * 4)) (tJ e3 a6 c9 a7 c10):=λhc=>vF (hq3 hc).2.1 (hq3 hc).2.2.1
  refine sJ ?_
  refine T ?_
  obtain⟨r2,hx5,h⟩:=ab h
  replace hx5:=ax hx5
  refine sU (λhc=>kJ hI.lt trivial (hx5 hc)) (Rg Tryz.func61) λw4 hI=>?_
  refine TR λhb h=>?_
  refine T ?_
  refine aG ?_
  exact kl (fuel1,av (i1+1))
 refine bl ?_
 refine eZ ?_
 refine aS ?_
 exact RF
theorem CX (hF:dF F w0) {op1:Int} (hc:AllCl [] F w0) {r:Int} (h:nV op1=some r):CR F w0 212 #[vi op1] (vi r) []:=by
 refine EN Tryz.func212 Tryz.ntmps212 hF hc λhI=>?_
 rw[nV]at h
 refine T ?_
 refine aj (T ?_)
 refine bO (α:=Bool) (λ_=>⟨14,[]⟩) (λx=>[(3,vi op1),(4,vb x)]) (λx=>λw=>∃ C,Bun cH F w0 C w [] []∧jq op1 x=some r) ?_ ?_
 ·clear h hI;rintro i1 w1 ⟨c1,hI,h⟩
  try dsimp only at hI h ⊢
  rw[jq]at h
  refine TR λhb h=>?_
  refine bO (α:=Bool) (λ_=>⟨14,[]⟩) (λx=>[(3,vi op1),(8,vb x)]) (λx=>λw=>∃ C,Bun cH F w0 C w [] []∧jp op1 x=some r) ?_ ?_
  ·clear h hI;rintro i2 w2 ⟨c2,hI,h⟩
   try dsimp only at hI h ⊢
   rw[jp]at h
   refine TR λhb h=>?_
   refine TR λhb h=>?_
   exact RF
  refine TC (λhb h=>?_) λhb h=>?_
  ·exact aZ (bI (decide (op1=8)) SB BH rfl)
  refine TC (λhb h=>?_) λhb h=>?_
  ·exact aZ (bI (decide (op1=12)) SB BH rfl)
  refine T ?_
  refine aG ?_
  exact kj (decide (op1=18))
 refine TC (λhb h=>?_) λhb h=>?_
 ·exact aZ (bI (decide (op1=1)) SB BH rfl)
 refine TC (λhb h=>?_) λhb h=>?_
 ·exact aZ (bI (decide (op1=2)) SB BH rfl)
 refine T ?_
 refine aG ?_
 exact kj (decide (op1=3))
theorem zB (hF:dF F w0) {e1:ae} (hc:AllCl [Cl.sl ai a1 c1 e1.Lin.L,Cl.sl al a2 c2 e1.Idx,Cl.sl an a3 c3 e1.Args] F w0) {r:Bool} (h:lT e1=some r):CR F w0 164 #[(Value.agg (aA e1 a1 c1 a2 c2 a3 c3))] (vb r) []:=by
 refine EN Tryz.func164 Tryz.ntmps164 hF hc λhI=>?_
 rw[lT]at h
 refine sr (lX λb1 c5 w1 hI=>?_)
 refine T ?_
 refine aj (aj (aL [] false (.c (0,.q) (.c (1,.q) (.c (2,.q) (.c (3,.q) (.c (4,.q) (.c (5,.s) (.c (6,.q) (.c (7,.q) (.c (8,.q) (.c (9,.q) (.c (10,.q) (.c (11,.q) (.c (12,.q) .n))))))))))))) hI (by kernel_rfl) (by kernel_rfl) ?_))
 intro w2 hI
 refine V ?_
 obtain⟨r1,hx1,h⟩:=ab h
 refine bF rfl gn rfl (ar (vs:=[vi e1.Op]) rfl N9 ⟨et,af⟩) (Calls.mono (CX hI.lt af hx1) ?_)
 rintro _ w3 ⟨rfl,hx2,hl1⟩
 refine⟨_,rfl,hx2,?_⟩
 replace hI:=(hI.ext hx2)
 refine V ?_
 refine TR λhb h=>?_
 refine T ?_
 refine aj (T ?_)
 refine bk (α:=Nat×Int) (λx=>λw=>∃ C,Bun cH F w0 C w [] [Cl.blk b1 39 (aA e1 a1 c1 a2 c2 a3 c3),Cl.sl ai a1 c1 e1.Lin.L,Cl.sl al a2 c2 e1.Idx,Cl.sl an a3 c3 e1.Args]∧eF e1 (x.1) (x.2)=some r) (λx _=>x.1) (λx=>[(1,vp b1 0),(3,vi (x.2))]) (fu,0) BH SB ?_
 clear h hI;rintro⟨fuel1,i1⟩ w4 ⟨c6,hI,h⟩
 dsimp only at hI h ⊢
 rcases fuel1 with _ | fuel1
 ·rw[eF]at h;cases h
 rw[eF]at h
 refine aj (T ?_)
 refine TC (λhb h=>?_) λhb h=>?_
 ·refine T ?_
  refine aj (T ?_)
  obtain⟨e2,hx3,h⟩:=ab h
  obtain⟨ad1,cs1,hA1,hr1,hq1⟩:=hI.clat .p2 hx3
  obtain⟨a4,c7,a5,c8,rfl,hf1,hf2⟩:=hr1
  have hI:=hI.ads hf1
  have hI:=hI.ads hf2
  refine sI ?_
  refine TR λhb h=>?_
  refine T ?_
  refine aG ?_
  exact kl (fuel1,av (i1+1))
 refine bl ?_
 refine eZ ?_
 refine aS ?_
 exact RF
theorem uE (hF:dF F w0) {e1:ae} (hc:AllCl [Cl.sl ai a1 c1 e1.Lin.L,Cl.sl al a2 c2 e1.Idx,Cl.sl an a3 c3 e1.Args] F w0) {r:Bool} (h:j0 e1=some r):CR F w0 213 #[(Value.agg (aA e1 a1 c1 a2 c2 a3 c3))] (vb r) []:=by
 refine EN Tryz.func213 Tryz.ntmps213 hF hc λhI=>?_
 rw[j0]at h
 refine sr (lX λb1 c5 w1 hI=>?_)
 exact RF
theorem Aq (hF:dF F w0) {op1 at1:Int} (hc:AllCl [] F w0) {r:Bool} (h:mR op1 at1=some r):CR F w0 214 #[vi op1,vi at1] (vb r) []:=by
 refine EN Tryz.func214 Tryz.ntmps214 hF hc λhI=>?_
 rw[mR]at h
 exact RF
theorem Ar (hF:dF F w0) {e1:ae} (hc:AllCl [Cl.sl ai a1 c1 e1.Lin.L,Cl.sl al a2 c2 e1.Idx,Cl.sl an a3 c3 e1.Args] F w0) {r:Bool} (h:mS e1=some r):CR F w0 165 #[(Value.agg (aA e1 a1 c1 a2 c2 a3 c3))] (vb r) []:=by
 refine EN Tryz.func165 Tryz.ntmps165 hF hc λhI=>?_
 rw[mS]at h
 refine sr (lX λb1 c5 w1 hI=>?_)
 refine T ?_
 refine aj (T ?_)
 refine aw (bg rfl rfl rfl rfl) rfl (λhc=>(am (l:=(bU e1.Type_)) rfl (aI et hc) qF rfl bN (hI.kblk (l:=(bU e1.Type_)) .z rfl).1)) ?_
 obtain⟨r1,hx1,h⟩:=ab h
 replace hx1:=ax hx1
 refine sU (λhc=>po hI.lt trivial (hx1 hc)) (Rg Tryz.func62) λw2 hI=>?_
 refine TR λhb h=>?_
 refine T ?_
 refine aj (T ?_)
 refine bk (α:=Nat×Int) (λx=>λw=>∃ C,Bun cH F w0 C w [] [Cl.blk b1 39 (aA e1 a1 c1 a2 c2 a3 c3),Cl.sl ai a1 c1 e1.Lin.L,Cl.sl al a2 c2 e1.Idx,Cl.sl an a3 c3 e1.Args]∧fj e1 (x.1) (x.2)=some r) (λx _=>x.1) (λx=>[(1,vp b1 0),(3,vi (x.2))]) (fu,0) BH SB ?_
 clear h hI;rintro⟨fuel1,i1⟩ w3 ⟨c6,hI,h⟩
 dsimp only at hI h ⊢
 rcases fuel1 with _ | fuel1
 ·rw[fj]at h;cases h
 rw[fj]at h
 refine aj (T ?_)
 refine TC (λhb h=>?_) λhb h=>?_
 ·refine T ?_
  refine aj (T ?_)
  refine aj (aL [] false (.c (0,.q) (.c (1,.q) (.c (2,.q) (.c (3,.q) (.c (4,.q) (.c (6,.q) (.c (7,.q) (.c (8,.q) (.c (5,.s) (.c (9,.s) (.c (10,.q) .n))))))))))) hI (by kernel_rfl) (by kernel_rfl) ?_)
  intro w4 hI
  refine V ?_
  obtain⟨e2,hx3,h⟩:=ab h
  obtain⟨ad1,cs1,hA1,hr1,hq1⟩:=hI.clat .p3 hx3
  obtain⟨a4,c7,a5,c8,a6,c9,rfl,hf1,hf2,hf3⟩:=ci hr1
  have hI:=hI.ads hf1
  have hI:=hI.ads hf2
  have hI:=hI.ads hf3
  refine vI ?_
  refine dl rfl gn rfl (λw' hw'=>(am (l:=(ba e2 a4 c7 a5 c8 a6 c9)) rfl et jZ rfl aJ (hq1.at_ (SX.any rfl hw')))) (by kernel_rfl) ?_
  refine V ?_
  obtain⟨r2,hx4,h⟩:=ab h
  refine bF rfl gn rfl (ar (vs:=[(Value.agg (aA e2 a4 c7 a5 c8 a6 c9))]) rfl N8 ⟨et,af⟩) (Calls.mono (uE hI.lt FS hx4) ?_)
  rintro _ w5 ⟨rfl,hx5,hl2⟩
  refine⟨_,rfl,hx5,?_⟩
  replace hI:=(hI.ext hx5)
  obtain⟨r3,hx6,h⟩:=ab h
  refine bF rfl gn rfl (ar (vs:=[vi e1.Op,vi i1]) rfl N7 ⟨et,et,af⟩) (Calls.mono (Aq hI.lt af hx6) ?_)
  rintro _ w6 ⟨rfl,hx7,hl3⟩
  refine⟨_,rfl,hx7,?_⟩
  replace hI:=(hI.ext hx7)
  refine iq rfl gn rfl (λw'=>Gn rfl u4 et et) ?_
  refine V ?_
  refine TR λhb h=>?_
  refine T ?_
  refine aG ?_
  exact kl (fuel1,av (i1+1))
 refine bl ?_
 refine eZ ?_
 refine aS ?_
 exact RF
theorem zE (hF:dF F w0) {e1:ae} (hc:AllCl [Cl.sl ai a1 c1 e1.Lin.L,Cl.sl al a2 c2 e1.Idx,Cl.sl an a3 c3 e1.Args] F w0) {r:Bool} (h:lV e1=some r):CR F w0 166 #[(Value.agg (aA e1 a1 c1 a2 c2 a3 c3))] (vb r) []:=by
 refine EN Tryz.func166 Tryz.ntmps166 hF hc λhI=>?_
 rw[lV]at h
 refine sr (lX λb1 c5 w1 hI=>?_)
 refine T ?_
 refine aj (T ?_)
 refine aw (bg rfl rfl rfl rfl) rfl (λhc=>(am (l:=(bU e1.Type_)) rfl (aI et hc) qF rfl bN (hI.kblk (l:=(bU e1.Type_)) .z rfl).1)) ?_
 refine T ?_
 refine aw (bg rfl rfl rfl rfl) rfl (λhc=>(am (l:=(oA e1.Val)) rfl (aI et hc) Gy rfl kM (hI.kblk (l:=(oA e1.Val)) .z rfl).1)) ?_
 obtain⟨r1,hx1,h⟩:=ab h
 replace hx1:=ax hx1
 refine sU (λhc=>vy hI.lt trivial (hx1 hc)) (Rg Tryz.func215) λw2 hI=>?_
 refine T ?_
 refine aw (bj rfl rfl rfl rfl) rfl (λhc=>(am (l:=(fS e1.Lin a1 c1)) rfl (aI et hc) pr rfl bc (hI.kblk (l:=(fS e1.Lin a1 c1)) .z rfl).1)) ?_
 obtain⟨r2,hx3,h⟩:=ab h
 replace hx3:=ax hx3
 refine sU (λhc=>gP hI.lt FS (hx3 hc)) (Rg Tryz.func114) λw3 hI=>?_
 refine TR λhb h=>?_
 refine T ?_
 refine aj (T ?_)
 refine bk (α:=Nat×Int) (λx=>λw=>∃ C,Bun cH F w0 C w [] [Cl.blk b1 39 (aA e1 a1 c1 a2 c2 a3 c3),Cl.sl ai a1 c1 e1.Lin.L,Cl.sl al a2 c2 e1.Idx,Cl.sl an a3 c3 e1.Args]∧bR e1 (x.1) (x.2)=some r) (λx _=>x.1) (λx=>[(1,vp b1 0),(3,vi (x.2))]) (fu,0) BH SB ?_
 clear h hI;rintro⟨fuel1,i1⟩ w4 ⟨c6,hI,h⟩
 dsimp only at hI h ⊢
 rcases fuel1 with _ | fuel1
 ·rw[bR]at h;cases h
 rw[bR]at h
 refine aj (T ?_)
 refine TC (λhb h=>?_) λhb h=>?_
 ·refine T ?_
  refine bO (α:=Unit) (λ_=>⟨59,[]⟩) (λ_=>[(1,vp b1 0),(3,vi i1)]) (λ_=>λw=>∃ C,Bun cH F w0 C w [] [Cl.blk b1 39 (aA e1 a1 c1 a2 c2 a3 c3),Cl.sl ai a1 c1 e1.Lin.L,Cl.sl al a2 c2 e1.Idx,Cl.sl an a3 c3 e1.Args]∧lF (bR e1 fuel1) i1=some r) ?_ ?_
  ·clear h hI;rintro _ w5 ⟨c7,hI,h⟩
   try dsimp only at hI h ⊢
   rw[lF]at h
   refine T ?_
   refine aG ?_
   exact kl (fuel1,av (i1+1))
  refine T ?_
  refine aj (T ?_)
  obtain⟨e2,hx5,h⟩:=ab h
  obtain⟨ad1,cs1,hA1,hr1,hq1⟩:=hI.clat .p2 hx5
  obtain⟨a4,c8,a5,c9,rfl,hf1,hf2⟩:=hr1
  have hI:=hI.ads hf1
  have hI:=hI.ads hf2
  refine sI ?_
  refine T ?_
  refine sq (am (l:=(fS e2.Lin a4 c8)) rfl et pr rfl bc (CA.part hq1 rfl).1) ?_
  refine sB h (λ_ k=>gP hI.lt FS k) (Rc Tryz.func114) λr3 w6 h hI=>?_
  refine TR λhb h=>?_
  refine T ?_
  refine bk (α:=Nat×Int) (λx=>λw=>∃ C,Bun cH F w0 C w [] [Cl.blk b1 39 (aA e1 a1 c1 a2 c2 a3 c3),Cl.sl ai a1 c1 e1.Lin.L,Cl.sl al a2 c2 e1.Idx,Cl.sl an a3 c3 e1.Args]∧eG e1 i1 (bR e1 fuel1) (x.1) (x.2)=some r) (λx _=>x.1) (λx=>[(1,vp b1 0),(3,vi i1),(4,vi (x.2))]) (fu,0) BH SB ?_
  clear h hI;rintro⟨fuel2,k1⟩ w7 ⟨c10,hI,h⟩
  dsimp only at hI h ⊢
  rcases fuel2 with _ | fuel2
  ·rw[eG]at h;cases h
  rw[eG]at h
  refine aj (T ?_)
  obtain⟨e3,hx8,h⟩:=ab h
  obtain⟨ad2,cs2,hA2,hr2,hq2⟩:=hI.clat .p2 hx8
  obtain⟨a6,c11,a7,c12,rfl,hf3,hf4⟩:=hr2
  have hI:=hI.ads hf3
  have hI:=hI.ads hf4
  refine sI ?_
  refine TC (λhb h=>?_) λhb h=>?_
  ·refine T ?_
   refine aj (T ?_)
   obtain⟨e4,hx9,h⟩:=ab h
   obtain⟨ad3,cs3,hA3,hr3,hq3⟩:=hI.clat .p4 hx9
   obtain⟨a8,c13,a9,c14,rfl,hf5,hf6⟩:=hr3
   have hI:=hI.ads hf5
   have hI:=hI.ads hf6
   refine sI ?_
   refine T ?_
   obtain⟨e5,hx10,h⟩:=ab h
   obtain⟨ad4,cs4,hA4,hr4,hq4⟩:=hI.clat .z hx10
   obtain⟨a10,c15,rfl,hf7⟩:=hr4
   have hI:=hI.ads hf7
   refine sI ?_
   refine T ?_
   refine sB h (λ_ k=>gP hI.lt FS k) (Rc Tryz.func114) λr4 w8 h hI=>?_
   refine TR λhb h=>?_
   refine T ?_
   refine aG ?_
   exact kl (fuel2,av (k1+1))
  refine bl ?_
  refine eZ ?_
  exact kj ()
 refine bl ?_
 refine eZ ?_
 refine aS ?_
 exact RF
abbrev Pk (f_:(ae→Option Int)):Prop:=∀ ⦃F:NP⦄ ⦃w0:World⦄ (hF:dF F w0) ⦃e1:ae⦄ ⦃a1 a2 a3:Option Addr⦄ ⦃c1 c2 c3:Nat⦄ (hc:AllCl [Cl.sl ai a1 c1 e1.Lin.L,Cl.sl al a2 c2 e1.Idx,Cl.sl an a3 c3 e1.Args] F w0) ⦃r:Int⦄ (h:f_ e1=some r),CR F w0 87 #[(Value.agg (aA e1 a1 c1 a2 c2 a3 c3))] (vi r) []
theorem zD {rec_:(ae→Option Int)} (hrec:Pk rec_) (hF:dF F w0) {e1:ae} (hc:AllCl [Cl.sl ai a1 c1 e1.Lin.L,Cl.sl al a2 c2 e1.Idx,Cl.sl an a3 c3 e1.Args] F w0) {r:Int} (h:lU rec_ e1=some r):CR F w0 87 #[(Value.agg (aA e1 a1 c1 a2 c2 a3 c3))] (vi r) []:=by
 refine EN Tryz.func87 Tryz.ntmps87 hF hc λhI=>?_
 rw[lU]at h
 refine sr (lX λb1 c5 w1 hI=>?_)
 refine T ?_
 refine aj (T ?_)
 refine sq (am (l:=(ba e1 a1 c1 a2 c2 a3 c3)) rfl et jZ rfl aJ (hI.kblk (l:=(ba e1 a1 c1 a2 c2 a3 c3)) .z rfl).1) ?_
 refine sB h (λ_ k=>As hI.lt FS k) (Rc Tryz.func162) λr1 w2 h hI=>?_
 refine TR λhb h=>?_
 refine sr (sq (am (l:=(ba e1 a1 c1 a2 c2 a3 c3)) rfl et jZ rfl aJ (hI.kblk (l:=(ba e1 a1 c1 a2 c2 a3 c3)) .z rfl).1) ?_)
 refine sB h (λ_ k=>Au hI.lt FS k) (Rc Tryz.func163) λr2 w3 h hI=>?_
 refine TR λhb h=>?_
 refine sr (sq (am (l:=(ba e1 a1 c1 a2 c2 a3 c3)) rfl et jZ rfl aJ (hI.kblk (l:=(ba e1 a1 c1 a2 c2 a3 c3)) .z rfl).1) ?_)
 refine sB h (λ_ k=>zB hI.lt FS k) (Rc Tryz.func164) λr3 w4 h hI=>?_
 refine TR λhb h=>?_
 refine sr (sq (am (l:=(ba e1 a1 c1 a2 c2 a3 c3)) rfl et jZ rfl aJ (hI.kblk (l:=(ba e1 a1 c1 a2 c2 a3 c3)) .z rfl).1) ?_)
 refine sB h (λ_ k=>Ar hI.lt FS k) (Rc Tryz.func165) λr4 w5 h hI=>?_
 refine TR λhb h=>?_
 refine sr (sq (am (l:=(ba e1 a1 c1 a2 c2 a3 c3)) rfl et jZ rfl aJ (hI.kblk (l:=(ba e1 a1 c1 a2 c2 a3 c3)) .z rfl).1) ?_)
 refine sB h (λ_ k=>zE hI.lt FS k) (Rc Tryz.func166) λr5 w6 h hI=>?_
 refine TR λhb h=>?_
 refine T ?_
 refine aj (T ?_)
 refine bk (α:=Nat×Int) (λx=>λw=>∃ C,Bun cH F w0 C w [] [Cl.blk b1 39 (aA e1 a1 c1 a2 c2 a3 c3),Cl.sl ai a1 c1 e1.Lin.L,Cl.sl al a2 c2 e1.Idx,Cl.sl an a3 c3 e1.Args]∧gK e1 rec_ (x.1) (x.2)=some r) (λx _=>x.1) (λx=>[(1,vp b1 0),(3,vi (x.2))]) (fu,0) BH SB ?_
 clear h hI;rintro⟨fuel1,i1⟩ w7 ⟨c6,hI,h⟩
 dsimp only at hI h ⊢
 rcases fuel1 with _ | fuel1
 ·rw[gK]at h;cases h
 rw[gK]at h
 refine aj (T ?_)
 refine TC (λhb h=>?_) λhb h=>?_
 ·refine T ?_
  refine aj (T ?_)
  obtain⟨e2,hx11,h⟩:=ab h
  obtain⟨ad1,cs1,hA1,hr1,hq1⟩:=hI.clat .p3 hx11
  obtain⟨a4,c7,a5,c8,a6,c9,rfl,hf1,hf2,hf3⟩:=ci hr1
  have hI:=hI.ads hf1
  have hI:=hI.ads hf2
  have hI:=hI.ads hf3
  refine sI ?_
  refine T ?_
  refine sB h (λ_ k=>hrec hI.lt FS k) (Rc Tryz.func87) λr6 w8 h hI=>?_
  refine TR λhb h=>?_
  refine T ?_
  refine aG ?_
  exact kl (fuel1,av (i1+1))
 refine bl ?_
 refine eZ ?_
 refine aS ?_
 exact RF
theorem zC (n:Nat):Pk (kg n):=by
 induction n with
 | zero=>intro F;intros;rename_i h;cases h
 | succ n ih=>intro F;intros;apply zD ih<;>assumption
theorem CW:Pk (sd):=zC fu
theorem xb (hF:dF F w0) {e1:ae} (hc:AllCl [Cl.sl ai a1 c1 e1.Lin.L,Cl.sl al a2 c2 e1.Idx,Cl.sl an a3 c3 e1.Args] F w0) {r:Int} (h:kh e1=some r):CR F w0 44 #[(Value.agg (aA e1 a1 c1 a2 c2 a3 c3))] (vi r) []:=by
 refine EN Tryz.func44 Tryz.ntmps44 hF hc λhI=>?_
 rw[kh]at h
 refine sr (lX λb1 c5 w1 hI=>?_)
 refine T ?_
 refine aj (sr (sq (am (l:=(ba e1 a1 c1 a2 c2 a3 c3)) rfl et jZ rfl aJ (hI.kblk (l:=(ba e1 a1 c1 a2 c2 a3 c3)) .z rfl).1) ?_))
 refine sB h (λ_ k=>Aw hI.lt FS k) (Rc Tryz.func85) λr1 w2 h hI=>?_
 refine TR λhb h=>?_
 refine T ?_
 refine aj (sr (sq (am (l:=(ba e1 a1 c1 a2 c2 a3 c3)) rfl et jZ rfl aJ (hI.kblk (l:=(ba e1 a1 c1 a2 c2 a3 c3)) .z rfl).1) ?_))
 refine sB h (λ_ k=>CY hI.lt FS k) (Rc Tryz.func86) λr2 w3 h hI=>?_
 refine TR λhb h=>?_
 refine T ?_
 refine sq (am (l:=(ba e1 a1 c1 a2 c2 a3 c3)) rfl et jZ rfl aJ (hI.kblk (l:=(ba e1 a1 c1 a2 c2 a3 c3)) .z rfl).1) ?_
 refine sB h (λ_ k=>CW hI.lt FS k) (Rc Tryz.func87) λr3 w4 h hI=>?_
 exact RF
end Go.Proofs.YtmhoikfoogemnaaGreatDoor
