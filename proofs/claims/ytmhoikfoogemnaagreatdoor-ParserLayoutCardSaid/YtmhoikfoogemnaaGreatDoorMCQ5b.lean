import Derived.Test.YtmhoikfoogemnaaGreatDoorMCQ5a
import Derived.Test.YtmhoikfoogemnaaGreatDoorMLfW
namespace Go.Proofs.YtmhoikfoogemnaaGreatDoor
open Go Go.RowKit Go.Vc
set_option maxRecDepth 100000
set_option maxHeartbeats 4000000
set_option linter.unusedVariables false
set_option linter.unusedSimpArgs false
def fB:Tr:=(.c (9,.s) (.c (10,.q) .n))
def dO:Tr:=(.c (4,.s) (.c (5,.q) (.c (6,.q) (.c (7,.q) fB))))
def cP:Tr:=(.c (0,.s) dO)
def bL:Tr:=(.c (3,.s) dO)
def cQ:Tr:=(.two 4 (.c (5,.q) (.c (6,.q) (.c (7,.q) (.c (8,.s) fB)))) 8 dO)
theorem fV (C0 F:NP) (w0:World) (r1:aa) (b1:Nat) (a1:Option Addr) (c1:Nat) (hI:Bun C0 F w0 C0 w0 [MO.box b1 67 (ab r1 a1 c1)] [Cl.sl ah a1 c1 r1.l,aA]) (r:bk (GLin×aa))
  (h:bC r1=some r):
  Calls Tryz.prog 31 #[vp b1 0] w0 fun e w=>(∃ rx:GLin×aa,r= .ret rx∧∃ (a2:Option Addr) (c2:Nat) (a3:Option Addr) (c3:Nat) (C:NP),e= .returned (Value.agg (bI rx.1 a2 c2))∧Bun C0 F w0 C w [MO.box b1 67 (ab rx.2 a3 c3)] [Cl.sl aj a2 c2 rx.1.L,Cl.sl ah a3 c3 rx.2.l])∨∃ (pa pn:Int),r= .pan pa pn∧e= .panicked [pe 114 pa pn]∧∃ C:NP,Bun C0 F w0 C w [] []:=by
 refine fj (l:=[vp b1 0]) Tryz.func31 rfl Tryz.ntmps31 rfl ?_
 rw[bC]at h
 refine sr (aN (cs:=#[vi 0,vs none 0 0]) hI gn rfl rfl fA rfl ?_)
 clear hI;intro b2 c4 w1 hI
 refine T ?_
 obtain⟨c5,f1,hB,hl1,hk1⟩:=hI.hands (.r (.l .n))
 obtain⟨⟨r2,s1⟩,hx1,h⟩:=af h
 try dsimp only at h
 refine aE gn rfl (ag (vs:=[vp b1 0,(aC ([45]:List UInt8))]) rfl mK ⟨et,⟨ai,trivial⟩⟩) (Calls.mono (aM c5 f1 w1 r1 ([45]:List UInt8) b1 a1 c1 (hB.subs ⟨.z,trivial⟩) _ hx1) ?_)
 rintro _ w2 ⟨a4,c6,c7,rfl,hB2⟩
 obtain⟨c8,hs1,hI⟩:=hk1 _ _ _ _ hB2
 dsimp only[ca,na]at hI
 refine⟨_,rfl,?_⟩
 refine T ?_
 refine sq (aV (vs:=[]) (cs:=#[vi 0,vs none 0 0]) rfl trivial (by kernel_rfl)) ?_
 refine aN (cs:=#[vi 0,vs none 0 0]) hI gn rfl rfl fA rfl ?_
 clear hI;intro b3 c9 w3 hI
 refine ay (new:=[vi 0,vs none 0 0]) (cs':=#[vi 0,vs none 0 0]) hI .z gn rfl rfl et et rfl aW rfl rfl rfl ?_
 clear hI;intro c10 w4 hI
 refine T ?_
 have hI:=hI.add (c:=Cl.sl aj none 0 ([]:List GMono)) SlC.nil
 refine cO (α:=Nat×Bool×aa×GLin×(Option Addr)×Nat×(Option Addr)×Nat) (fun x=>fun w=>∃ C,Bun C0 F w0 C w [MO.box b1 67 (ab (x.2.2.1) (x.2.2.2.2.1) (x.2.2.2.2.2.1)),MO.box b2 27 #[vi 0,vs none 0 0],MO.box b3 27 (bI (x.2.2.2.1) (x.2.2.2.2.2.2.1) (x.2.2.2.2.2.2.2))] [Cl.sl ah (x.2.2.2.2.1) (x.2.2.2.2.2.1) (x.2.2.1).l,Cl.sl aj (x.2.2.2.2.2.2.1) (x.2.2.2.2.2.2.2) (x.2.2.2.1).L,aA]∧aY (x.1) (x.2.1) (x.2.2.1) (x.2.2.2.1)=some r) (fun x _=>x.1) (fun x=>[(0,vp b1 0),(2,vp b2 0),(3,vb (x.2.1)),(4,vp b3 0)]) (fu,r2,s1,(⟨0,([]:List GMono)⟩:GLin),a4,c6,none,0) ⟨_,hI.arr (.c (.s .z) (.c (.s .z) (.c .z .n))) ⟨(.s .z),.z,(.s (.s (.s .z))),trivial⟩,h⟩ SB ?_
 clear h hI;rintro⟨fuel1,negative1,r3,sum1,a5,c11,a6,c12⟩ w5 ⟨c13,hI,h⟩
 dsimp only at hI h
 rcases fuel1 with _ | fuel1
 ·rw[aY]at h;cases h
 rw[aY]at h
 refine bz (e:=[(0,vp b1 0),(2,vp b2 0),(3,vb negative1),(4,vp b3 0)]) SB ?_
 refine T ?_
 refine aB ?_
 rcases ii h with⟨⟨r4,s2⟩,hx2,h⟩ | ⟨pa_,pn_,hx2,hp_⟩
 rotate_left
 ·subst hp_
  refine bx [3,9] false (.c (1,.q) (.c (2,.q) (.three 0 (.two 3 cQ 8 bL) 3 (.two 0 cQ 8 cP) 8 (.two 0 bL 3 cP)))) hI (by kernel_rfl) (by kernel_rfl) ?_
  clear hI;intro w15 hI
  refine ge (α:=Nat×NP) (T:=bL) (fun x=>[(0,vp b1 0),(2,vp b2 0),(3,vb negative1),(4,vp b3 0),(5,vi r3.at_),(6,(Value.pointer (some ⟨(x.1),0,none⟩))),(11,vp b1 0),(12,vp b1 0),(13,vp b1 1),(14,vi r3.at_),(16,(Value.agg (bI sum1 a6 c12))),(17,vp b1 0),(18,vb negative1)]) (fun x w=>Bun C0 F w0 (x.2) w [MO.box (x.1) 27 #[vi 0,vs none 0 0],MO.box b1 67 (ab r3 a5 c11),MO.box b2 27 #[vi 0,vs none 0 0],MO.box b3 27 (bI sum1 a6 c12)] [Cl.sl ah a5 c11 r3.l,Cl.sl aj a6 c12 sum1.L,aA]) (fun x w=>SN [3,9] (DM false F (x.2)) w) ?_ ?_
  ·clear hI;rintro⟨b4,c23⟩ w11 hI
   try dsimp only at hI ⊢
   unfold bL
   refine hO (F:=F) (C:=c23) rfl rfl ?_
   obtain⟨c14,f2,hB,hl2,hk2⟩:=hI.hands (.r (.l (.r (.r .n))))
   refine eB rfl gn rfl (ag (vs:=[vp b1 0,vb negative1]) rfl sV ⟨et,⟨et,trivial⟩⟩) (Calls.mono (cL c14 f2 w11 r3 negative1 b1 a5 c11 (hB.subs ⟨.z,(.s (.s .z)),trivial⟩) _ hx2) ?_)
   intro e_ w_ hq_;obtain⟨rfl,C_,hB_⟩:=eo hq_;obtain⟨C9_,-,hI_⟩:=hk2 _ _ _ _ hB_;exact .inr ⟨_,rfl,ib (.inr ⟨_,_,rfl,rfl,⟨_,hI_.arr .n trivial⟩⟩)⟩
  intro hk_tr_parser_reader_form_w_3_1
  refine V ?_
  refine rR ?_ ?_ ?_
  ·skip
   refine dK rfl gn rfl (aJ (l:=(gx sum1 a6 c12)) rfl et rZ rfl aW (CellsAt.of_blk (hI.blk (.s (.s .z))) rfl)) SX.self ?_
   refine gV ?_ ?_
   ·skip
    refine dw (F:=F) (C:=c13) rfl rfl ?_
    obtain⟨c14,f2,hB,hl2,hk2⟩:=hI.hands (.l (.r (.r .n)))
    refine eB rfl gn rfl (ag (vs:=[vp b1 0,vb negative1]) rfl sV ⟨et,⟨et,trivial⟩⟩) (Calls.mono (cL c14 f2 w15 r3 negative1 b1 a5 c11 (hB.subs ⟨.z,(.s (.s .z)),trivial⟩) _ hx2) ?_)
    intro e_ w_ hq_;obtain⟨rfl,C_,hB_⟩:=eo hq_;obtain⟨C9_,-,hI_⟩:=hk2 _ _ _ _ hB_;exact .inr ⟨_,rfl,ib (.inr ⟨_,_,rfl,rfl,⟨_,hI_.arr .n trivial⟩⟩)⟩
   refine iS (cs:=#[vi 0,vs none 0 0]) hI rfl gn rfl rfl fA rfl ?_
   clear hI;intro b4 c20 w8 hI
   exact cM (hk_tr_parser_reader_form_w_3_1 (b4,c20) _ (hI.arr GO SU)) SB
  ·skip
   refine dw (F:=F) (C:=c13) rfl rfl ?_
   obtain⟨c14,f2,hB,hl2,hk2⟩:=hI.hands (.l (.r (.r .n)))
   refine eB rfl gn rfl (ag (vs:=[vp b1 0,vb negative1]) rfl sV ⟨et,⟨et,trivial⟩⟩) (Calls.mono (cL c14 f2 w15 r3 negative1 b1 a5 c11 (hB.subs ⟨.z,(.s (.s .z)),trivial⟩) _ hx2) ?_)
   intro e_ w_ hq_;obtain⟨rfl,C_,hB_⟩:=eo hq_;obtain⟨C9_,-,hI_⟩:=hk2 _ _ _ _ hB_;exact .inr ⟨_,rfl,ib (.inr ⟨_,_,rfl,rfl,⟨_,hI_.arr .n trivial⟩⟩)⟩
  refine iS (cs:=#[vi 0,vs none 0 0]) hI rfl gn rfl rfl fA rfl ?_
  clear hI;intro b4 c20 w8 hI
  refine gV ?_ ?_
  ·skip
   refine dK rfl gn rfl (aJ (l:=(gx sum1 a6 c12)) rfl et rZ rfl aW (CellsAt.of_blk (hI.blk (.s (.s (.s .z)))) rfl)) SX.self ?_
   exact cM (hk_tr_parser_reader_form_w_3_1 (b4,c20) _ (hI.arr GO SU)) SB
  refine dw (F:=F) (C:=c20) rfl rfl ?_
  obtain⟨c14,f2,hB,hl2,hk2⟩:=hI.hands (.r (.l (.r (.r .n))))
  refine eB rfl gn rfl (ag (vs:=[vp b1 0,vb negative1]) rfl sV ⟨et,⟨et,trivial⟩⟩) (Calls.mono (cL c14 f2 w8 r3 negative1 b1 a5 c11 (hB.subs ⟨.z,(.s (.s .z)),trivial⟩) _ hx2) ?_)
  intro e_ w_ hq_;obtain⟨rfl,C_,hB_⟩:=eo hq_;obtain⟨C9_,-,hI_⟩:=hk2 _ _ _ _ hB_;exact .inr ⟨_,rfl,ib (.inr ⟨_,_,rfl,rfl,⟨_,hI_.arr .n trivial⟩⟩)⟩
 try dsimp only at h
 obtain⟨r5,hx3,h⟩:=af h
 refine bx [3,9] false (.c (1,.q) (.c (2,.q) (.three 0 (.two 3 cQ 8 bL) 3 (.two 0 cQ 8 cP) 8 (.two 0 bL 3 cP)))) hI (by kernel_rfl) (by kernel_rfl) ?_
 clear hI;intro w16 hI
 refine ge (α:=(Option Addr)×Nat×(Option Addr)×Nat×(Option Addr)×Nat×Nat×NP) (T:=fB) (fun x=>[(0,vp b1 0),(2,vp b2 0),(3,vb negative1),(4,vp b3 0),(5,vi r3.at_),(6,(Value.pointer (some ⟨(x.2.2.2.2.2.2.1),0,none⟩))),(11,vp b1 0),(12,vp b1 0),(13,vp b1 1),(14,vi r3.at_),(15,(Value.tuple #[(Value.agg (bI r5.1 (x.2.2.2.2.1) (x.2.2.2.2.2.1))),vi r5.2])),(16,(Value.agg (bI sum1 a6 c12))),(17,vp b1 0),(18,vb negative1),(19,(Value.agg (bI r4 (x.1) (x.2.1)))),(20,(Value.tuple #[(Value.agg (bI r5.1 (x.2.2.2.2.1) (x.2.2.2.2.2.1))),vi r5.2])),(21,(Value.agg (bI r5.1 (x.2.2.2.2.1) (x.2.2.2.2.2.1)))),(22,vi r5.2)]) (fun x w=>Bun C0 F w0 (x.2.2.2.2.2.2.2) w [MO.box (x.2.2.2.2.2.2.1) 27 #[vi 0,vs none 0 0],MO.box b1 67 (ab s2 (x.2.2.1) (x.2.2.2.1)),MO.box b2 27 #[vi 0,vs none 0 0],MO.box b3 27 (bI sum1 a6 c12)] [Cl.sl aj (x.2.2.2.2.1) (x.2.2.2.2.2.1) r5.1.L,Cl.sl aj (x.1) (x.2.1) r4.L,Cl.sl ah (x.2.2.1) (x.2.2.2.1) s2.l,Cl.sl ah a5 c11 r3.l,Cl.sl aj a6 c12 sum1.L,aA]) (fun x w=>SN [] (DM true F (x.2.2.2.2.2.2.2)) w) ?_ ?_
 ·clear hI;rintro⟨a7,c15,a8,c16,a9,c19,b4,c26⟩ w14 hI
  try dsimp only at hI ⊢
  unfold fB
  refine fT (new:=(gx r5.1 a9 c19)) (cs':=(bI r5.1 a9 c19)) hI .z rfl gn rfl rfl et et rfl aW rfl rfl rfl ?_
  clear hI;intro c21 w9 hI
  refine V ?_
  refine du (α:=Unit) (fun _=>⟨36,[]⟩) (fun _=>[(0,vp b1 0),(2,vp b2 0),(4,vp b3 0),(6,vp b4 0)]) (fun _=>fun w=>∃ C,Bun C0 F w0 C w [MO.box b1 67 (ab s2 a8 c16),MO.box b2 27 #[vi 0,vs none 0 0],MO.box b3 27 (bI sum1 a6 c12),MO.box b4 27 (bI r5.1 a9 c19)] [Cl.sl ah a8 c16 s2.l,Cl.sl aj a6 c12 sum1.L,Cl.sl aj a9 c19 r5.1.L,aA]∧ey s2 (aY fuel1) r5=some r) ?_ ?_
  ·clear h hI;rintro _ w17 ⟨c27,hI,h⟩
   try dsimp only at hI h
   rw[ey]at h
   refine bz (e:=[(0,vp b1 0),(2,vp b2 0),(4,vp b3 0),(6,vp b4 0)]) SB ?_
   refine T ?_
   refine ay (new:=(gx r5.1 a9 c19)) (cs':=(bI r5.1 a9 c19)) hI (.s (.s .z)) gn rfl rfl et et rfl aW rfl rfl rfl ?_
   clear hI;intro c28 w18 hI
   refine T ?_
   obtain⟨c29,f3,hB,hl4,hk3⟩:=hI.hands (.l (.r (.r (.r .n))))
   obtain⟨⟨r6,s3⟩,hx5,h⟩:=af h
   try dsimp only at h
   refine aE gn rfl (ag (vs:=[vp b1 0,(aC ([43]:List UInt8))]) rfl mK ⟨et,⟨ai,trivial⟩⟩) (Calls.mono (aM c29 f3 w18 s2 ([43]:List UInt8) b1 a8 c16 (hB.subs ⟨.z,trivial⟩) _ hx5) ?_)
   rintro _ w19 ⟨a10,c30,c31,rfl,hB2⟩
   obtain⟨c32,hs3,hI⟩:=hk3 _ _ _ _ hB2
   dsimp only[ca,na]at hI
   refine⟨_,rfl,?_⟩
   refine T ?_
   refine bc h et (fun hb h=> ?_) (fun hb h=> ?_)
   ·refine T ?_
    refine bl ?_
    exact cg (fuel1,false,s3,r5.1,a10,c30,a9,c19) SB ⟨_,hI.arr GO SU,h⟩ (Nat.lt_succ_self _)
   refine T ?_
   obtain⟨c33,f4,hB,hl5,hk4⟩:=hI.hands (.l (.r (.r (.r .n))))
   obtain⟨⟨r7,s4⟩,hx6,h⟩:=af h
   try dsimp only at h
   refine aE gn rfl (ag (vs:=[vp b1 0,(aC ([45]:List UInt8))]) rfl mK ⟨et,⟨ai,trivial⟩⟩) (Calls.mono (aM c33 f4 w19 s3 ([45]:List UInt8) b1 a10 c30 (hB.subs ⟨.z,trivial⟩) _ hx6) ?_)
   rintro _ w20 ⟨a11,c34,c35,rfl,hB2⟩
   obtain⟨c36,hs4,hI⟩:=hk4 _ _ _ _ hB2
   dsimp only[ca,na]at hI
   refine⟨_,rfl,?_⟩
   refine T ?_
   refine bc h et (fun hb h=> ?_) (fun hb h=> ?_)
   ·refine T ?_
    refine bl ?_
    exact cg (fuel1,true,s4,r5.1,a11,c34,a9,c19) SB ⟨_,hI.arr GO SU,h⟩ (Nat.lt_succ_self _)
   refine T ?_
   refine ay (new:=(gx r5.1 a9 c19)) (cs':=(bI r5.1 a9 c19)) hI (.s .z) gn rfl rfl et et rfl aW rfl rfl rfl ?_
   clear hI;intro c37 w21 hI
   refine nk (al ?_)
   obtain rfl:=ac h
   refine QG ?_
   exact .inl ⟨_,rfl,a9,c19,a11,c34,_,rfl,hI.arr GO SU⟩
  refine T ?_
  refine bc h et (fun hb h=> ?_) (fun hb h=> ?_)
  ·refine T ?_
   rcases ii h with⟨r8,hx7,h⟩ | ⟨pa_,pn_,hx7,hp_⟩
   rotate_left
   ·subst hp_
    refine mz gn rfl (ag (vs:=[vp b1 0,vi r3.at_,vi 3]) rfl mh ⟨et,⟨et,⟨ai,trivial⟩⟩⟩) (Calls.mono (aT d5 w9 (fun _ k=>k.elim) s2 r3.at_ 3 b1 a8 c16 ⟨(hI.get0 (.s (.s .z))),hI.lendBox (.s .z),trivial⟩ (.pan pa_ pn_) hx7) ?_)
    intro e_ w_ hq_;obtain⟨rfl,hx_⟩:=eo hq_;have hI_:=hI.ext hx_;exact .inr ⟨_,rfl,ib (.inr ⟨_,_,rfl,rfl,⟨_,hI_.arr .n trivial⟩⟩)⟩
   try dsimp only at h
   refine aE gn rfl (ag (vs:=[vp b1 0,vi r3.at_,vi 3]) rfl mh ⟨et,⟨et,⟨ai,trivial⟩⟩⟩) (Calls.mono (aT d5 w9 (fun _ k=>k.elim) s2 r3.at_ 3 b1 a8 c16 ⟨(hI.get0 (.s (.s .z))),hI.lendBox (.s .z),trivial⟩ (.ret r8) hx7) ?_)
   intro e_ w22 hq_;obtain⟨rfl,hx8,hl6⟩:=en hq_
   refine⟨_,rfl,?_⟩
   replace hI:=(hI.ext hx8)
   refine bl ?_
   exact bi () SB ⟨_,hI.arr GO SU,h⟩ rfl
  exact cc (bi () SB ⟨_,hI.arr GO SU,h⟩ rfl)
 intro hk_tr_parser_reader_form_w_3_4
 refine ge (α:=(Option Addr)×Nat×(Option Addr)×Nat×Nat×NP) (T:=dO) (fun x=>[(0,vp b1 0),(2,vp b2 0),(3,vb negative1),(4,vp b3 0),(5,vi r3.at_),(6,(Value.pointer (some ⟨(x.2.2.2.2.1),0,none⟩))),(11,vp b1 0),(12,vp b1 0),(13,vp b1 1),(14,vi r3.at_),(16,(Value.agg (bI sum1 a6 c12))),(17,vp b1 0),(18,vb negative1),(19,(Value.agg (bI r4 (x.1) (x.2.1))))]) (fun x w=>Bun C0 F w0 (x.2.2.2.2.2) w [MO.box (x.2.2.2.2.1) 27 #[vi 0,vs none 0 0],MO.box b1 67 (ab s2 (x.2.2.1) (x.2.2.2.1)),MO.box b2 27 #[vi 0,vs none 0 0],MO.box b3 27 (bI sum1 a6 c12)] [Cl.sl aj (x.1) (x.2.1) r4.L,Cl.sl ah (x.2.2.1) (x.2.2.2.1) s2.l,Cl.sl ah a5 c11 r3.l,Cl.sl aj a6 c12 sum1.L,aA]) (fun x w=>SN [] (DM true F (x.2.2.2.2.2)) w) ?_ ?_
 ·clear hI;rintro⟨a7,c15,a8,c16,b4,c25⟩ w13 hI
  try dsimp only at hI ⊢
  unfold dO
  refine l8 rfl gn rfl (ag (vs:=[(Value.agg (bI sum1 a6 c12)),(Value.agg (bI r4 a7 c15))]) rfl EW ⟨et,⟨et,trivial⟩⟩) (Calls.mono (wt (Dj F c25) w13 hI.lt sum1 r4 a6 c12 a7 c15 ⟨(hI.get (.s (.s (.s .z)))),(hI.get .z),trivial⟩ r5 hx3) ?_)
  rintro _ w7 ⟨a9,c19,rfl,hx4,hl3⟩
  refine⟨_,rfl,hx4,?_⟩
  replace hI:=(hI.ext hx4).adds hl3;dsimp only[ca,na]at hI
  refine V ?_
  exact cM (hk_tr_parser_reader_form_w_3_4 (a7,c15,a8,c16,a9,c19,b4,c25) _ (hI.arr GO SU)) SB
 intro hk_tr_parser_reader_form_w_3_3
 refine ge (α:=(Option Addr)×Nat×(Option Addr)×Nat×Nat×NP) (T:=cP) (fun x=>[(0,vp b1 0),(2,vp b2 0),(3,vb negative1),(4,vp b3 0),(5,vi r3.at_),(6,(Value.pointer (some ⟨(x.2.2.2.2.1),0,none⟩))),(11,vp b1 0),(12,vp b1 0),(13,vp b1 1),(14,vi r3.at_),(17,vp b1 0),(18,vb negative1),(19,(Value.agg (bI r4 (x.1) (x.2.1))))]) (fun x w=>Bun C0 F w0 (x.2.2.2.2.2) w [MO.box (x.2.2.2.2.1) 27 #[vi 0,vs none 0 0],MO.box b1 67 (ab s2 (x.2.2.1) (x.2.2.2.1)),MO.box b2 27 #[vi 0,vs none 0 0],MO.box b3 27 (bI sum1 a6 c12)] [Cl.sl aj (x.1) (x.2.1) r4.L,Cl.sl ah (x.2.2.1) (x.2.2.2.1) s2.l,Cl.sl ah a5 c11 r3.l,Cl.sl aj a6 c12 sum1.L,aA]) (fun x w=>SN [] (DM true F (x.2.2.2.2.2)) w) ?_ ?_
 ·clear hI;rintro⟨a7,c15,a8,c16,b4,c24⟩ w12 hI
  try dsimp only at hI ⊢
  unfold cP
  refine dK rfl gn rfl (aJ (l:=(gx sum1 a6 c12)) rfl et rZ rfl aW (CellsAt.of_blk (hI.blk (.s (.s (.s .z)))) rfl)) SX.self ?_
  exact cM (hk_tr_parser_reader_form_w_3_3 (a7,c15,a8,c16,b4,c24) _ (hI.arr GO SU)) SB
 intro hk_tr_parser_reader_form_w_3_2
 refine ge (α:=Nat×NP) (T:=bL) (fun x=>[(0,vp b1 0),(2,vp b2 0),(3,vb negative1),(4,vp b3 0),(5,vi r3.at_),(6,(Value.pointer (some ⟨(x.1),0,none⟩))),(11,vp b1 0),(12,vp b1 0),(13,vp b1 1),(14,vi r3.at_),(16,(Value.agg (bI sum1 a6 c12))),(17,vp b1 0),(18,vb negative1)]) (fun x w=>Bun C0 F w0 (x.2) w [MO.box (x.1) 27 #[vi 0,vs none 0 0],MO.box b1 67 (ab r3 a5 c11),MO.box b2 27 #[vi 0,vs none 0 0],MO.box b3 27 (bI sum1 a6 c12)] [Cl.sl ah a5 c11 r3.l,Cl.sl aj a6 c12 sum1.L,aA]) (fun x w=>SN [3,9] (DM false F (x.2)) w) ?_ ?_
 ·clear hI;rintro⟨b4,c23⟩ w11 hI
  try dsimp only at hI ⊢
  unfold bL
  refine hO (F:=F) (C:=c23) rfl rfl ?_
  obtain⟨c14,f2,hB,hl2,hk2⟩:=hI.hands (.r (.l (.r (.r .n))))
  refine ez rfl gn rfl (ag (vs:=[vp b1 0,vb negative1]) rfl sV ⟨et,⟨et,trivial⟩⟩) (Calls.mono (cL c14 f2 w11 r3 negative1 b1 a5 c11 (hB.subs ⟨.z,(.s (.s .z)),trivial⟩) _ hx2) ?_)
  intro e_ w6 hq_;obtain⟨a7,c15,a8,c16,c17,rfl,hB2⟩:=en hq_
  obtain⟨c18,hs2,hI⟩:=hk2 _ _ _ _ hB2
  dsimp only[ca,na]at hI
  refine⟨_,rfl,DM true F c18,hs2,?_⟩
  exact cM (hk_tr_parser_reader_form_w_3_3 (a7,c15,a8,c16,b4,c18) _ (hI.arr GO SU)) SB
 intro hk_tr_parser_reader_form_w_3_1
 refine ge (α:=(Option Addr)×Nat×(Option Addr)×Nat×NP) (T:=cQ) (fun x=>[(0,vp b1 0),(2,vp b2 0),(3,vb negative1),(4,vp b3 0),(5,vi r3.at_),(11,vp b1 0),(12,vp b1 0),(13,vp b1 1),(14,vi r3.at_),(16,(Value.agg (bI sum1 a6 c12))),(17,vp b1 0),(18,vb negative1),(19,(Value.agg (bI r4 (x.1) (x.2.1))))]) (fun x w=>Bun C0 F w0 (x.2.2.2.2) w [MO.box b1 67 (ab s2 (x.2.2.1) (x.2.2.2.1)),MO.box b2 27 #[vi 0,vs none 0 0],MO.box b3 27 (bI sum1 a6 c12)] [Cl.sl aj (x.1) (x.2.1) r4.L,Cl.sl ah (x.2.2.1) (x.2.2.2.1) s2.l,Cl.sl ah a5 c11 r3.l,Cl.sl aj a6 c12 sum1.L,aA]) (fun x w=>SN [] (DM true F (x.2.2.2.2)) w) ?_ ?_
 ·clear hI;rintro⟨a7,c15,a8,c16,c22⟩ w10 hI
  try dsimp only at hI ⊢
  unfold cQ
  refine gV ?_ ?_
  ·skip
   refine l8 rfl gn rfl (ag (vs:=[(Value.agg (bI sum1 a6 c12)),(Value.agg (bI r4 a7 c15))]) rfl EW ⟨et,⟨et,trivial⟩⟩) (Calls.mono (wt (Dj F c22) w10 hI.lt sum1 r4 a6 c12 a7 c15 ⟨(hI.get (.s (.s (.s .z)))),(hI.get .z),trivial⟩ r5 hx3) ?_)
   rintro _ w7 ⟨a9,c19,rfl,hx4,hl3⟩
   refine⟨_,rfl,hx4,?_⟩
   replace hI:=(hI.ext hx4).adds hl3;dsimp only[ca,na]at hI
   refine V ?_
   refine iS (cs:=#[vi 0,vs none 0 0]) hI rfl gn rfl rfl fA rfl ?_
   clear hI;intro b4 c20 w8 hI
   exact cM (hk_tr_parser_reader_form_w_3_4 (a7,c15,a8,c16,a9,c19,b4,c20) _ (hI.arr GO SU)) SB
  refine iS (cs:=#[vi 0,vs none 0 0]) hI rfl gn rfl rfl fA rfl ?_
  clear hI;intro b4 c20 w8 hI
  exact cM (hk_tr_parser_reader_form_w_3_3 (a7,c15,a8,c16,b4,c20) _ (hI.arr GO SU)) SB
 intro hk_tr_parser_reader_form_w_3_0
 refine V ?_
 refine rR ?_ ?_ ?_
 ·skip
  refine dK rfl gn rfl (aJ (l:=(gx sum1 a6 c12)) rfl et rZ rfl aW (CellsAt.of_blk (hI.blk (.s (.s .z))) rfl)) SX.self ?_
  refine gV ?_ ?_
  ·skip
   refine dw (F:=F) (C:=c13) rfl rfl ?_
   obtain⟨c14,f2,hB,hl2,hk2⟩:=hI.hands (.l (.r (.r .n)))
   refine ez rfl gn rfl (ag (vs:=[vp b1 0,vb negative1]) rfl sV ⟨et,⟨et,trivial⟩⟩) (Calls.mono (cL c14 f2 w16 r3 negative1 b1 a5 c11 (hB.subs ⟨.z,(.s (.s .z)),trivial⟩) _ hx2) ?_)
   intro e_ w6 hq_;obtain⟨a7,c15,a8,c16,c17,rfl,hB2⟩:=en hq_
   obtain⟨c18,hs2,hI⟩:=hk2 _ _ _ _ hB2
   dsimp only[ca,na]at hI
   refine⟨_,rfl,DM true F c18,hs2,?_⟩
   exact cM (hk_tr_parser_reader_form_w_3_0 (a7,c15,a8,c16,c18) _ (hI.arr GO SU)) SB
  refine iS (cs:=#[vi 0,vs none 0 0]) hI rfl gn rfl rfl fA rfl ?_
  clear hI;intro b4 c20 w8 hI
  exact cM (hk_tr_parser_reader_form_w_3_1 (b4,c20) _ (hI.arr GO SU)) SB
 ·skip
  refine dw (F:=F) (C:=c13) rfl rfl ?_
  obtain⟨c14,f2,hB,hl2,hk2⟩:=hI.hands (.l (.r (.r .n)))
  refine ez rfl gn rfl (ag (vs:=[vp b1 0,vb negative1]) rfl sV ⟨et,⟨et,trivial⟩⟩) (Calls.mono (cL c14 f2 w16 r3 negative1 b1 a5 c11 (hB.subs ⟨.z,(.s (.s .z)),trivial⟩) _ hx2) ?_)
  intro e_ w6 hq_;obtain⟨a7,c15,a8,c16,c17,rfl,hB2⟩:=en hq_
  obtain⟨c18,hs2,hI⟩:=hk2 _ _ _ _ hB2
  dsimp only[ca,na]at hI
  refine⟨_,rfl,DM true F c18,hs2,?_⟩
  refine gV ?_ ?_
  ·skip
   refine dK rfl gn rfl (aJ (l:=(gx sum1 a6 c12)) rfl et rZ rfl aW (CellsAt.of_blk (hI.blk (.s (.s .z))) rfl)) SX.self ?_
   exact cM (hk_tr_parser_reader_form_w_3_0 (a7,c15,a8,c16,c18) _ (hI.arr GO SU)) SB
  refine iS (cs:=#[vi 0,vs none 0 0]) hI rfl gn rfl rfl fA rfl ?_
  clear hI;intro b4 c20 w8 hI
  exact cM (hk_tr_parser_reader_form_w_3_2 (a7,c15,a8,c16,b4,c20) _ (hI.arr GO SU)) SB
 refine iS (cs:=#[vi 0,vs none 0 0]) hI rfl gn rfl rfl fA rfl ?_
 clear hI;intro b4 c20 w8 hI
 refine gV ?_ ?_
 ·skip
  refine dK rfl gn rfl (aJ (l:=(gx sum1 a6 c12)) rfl et rZ rfl aW (CellsAt.of_blk (hI.blk (.s (.s (.s .z)))) rfl)) SX.self ?_
  exact cM (hk_tr_parser_reader_form_w_3_1 (b4,c20) _ (hI.arr GO SU)) SB
 refine dw (F:=F) (C:=c20) rfl rfl ?_
 obtain⟨c14,f2,hB,hl2,hk2⟩:=hI.hands (.r (.l (.r (.r .n))))
 refine ez rfl gn rfl (ag (vs:=[vp b1 0,vb negative1]) rfl sV ⟨et,⟨et,trivial⟩⟩) (Calls.mono (cL c14 f2 w8 r3 negative1 b1 a5 c11 (hB.subs ⟨.z,(.s (.s .z)),trivial⟩) _ hx2) ?_)
 intro e_ w6 hq_;obtain⟨a7,c15,a8,c16,c17,rfl,hB2⟩:=en hq_
 obtain⟨c18,hs2,hI⟩:=hk2 _ _ _ _ hB2
 dsimp only[ca,na]at hI
 refine⟨_,rfl,DM true F c18,hs2,?_⟩
 exact cM (hk_tr_parser_reader_form_w_3_2 (a7,c15,a8,c16,b4,c18) _ (hI.arr GO SU)) SB
theorem n5 (C0 F:NP) (w0:World) (a1:aa) (a3:GLin) (b1:Nat) (b2:Nat) (a2:Option Addr) (c1:Nat) (b3:Nat) (a4:Option Addr) (c2:Nat) (hI:Bun C0 F w0 C0 w0 [MO.box b2 67 (ab a1 a2 c1),MO.box b3 27 (bI a3 a4 c2)] [Cl.sl ah a2 c1 a1.l,Cl.blk b1 65 #[vp b2 0],Cl.sl aj a4 c2 a3.L,aA]) (r:bk (Unit×aa×GLin))
  (h:lV a1 a3=some r):
  Calls Tryz.prog 30 #[vp b1 0,vp b3 0] w0 fun e w=>(∃ rx:Unit×aa×GLin,r= .ret rx∧∃ (a5:Option Addr) (c3:Nat) (a6:Option Addr) (c4:Nat) (C:NP),e= .returned (Value.tuple #[])∧Bun C0 F w0 C w [MO.box b2 67 (ab rx.2.1 a5 c3),MO.box b3 27 (bI rx.2.2 a6 c4)] [Cl.sl ah a5 c3 rx.2.1.l,Cl.sl aj a6 c4 rx.2.2.L])∨∃ (pa pn:Int),r= .pan pa pn∧e= .panicked [pe 114 pa pn]∧∃ C:NP,Bun C0 F w0 C w [] []:=by
 refine fj (l:=[vp b1 0,vp b3 0]) Tryz.func30 rfl Tryz.ntmps30 rfl ?_
 rw[lV]at h
 refine T ?_
 obtain⟨c5,f1,hB,hl1,hk1⟩:=hI.hands (.l (.r .n))
 refine dY h (fun _ hx1=>fV c5 f1 w0 a1 b2 a2 c1 (hB.subs ⟨.z,(.s (.s (.s .z))),trivial⟩) _ hx1) (ky hk1) (ag rfl yt ⟨et,trivial⟩) ?_
 rintro⟨r1,s1⟩ hx1 h _ w1 ⟨a7,c6,a8,c7,c8,rfl,hB2⟩
 try dsimp only at h
 obtain⟨c9,hs1,hI⟩:=hk1 _ _ _ _ hB2
 dsimp only[ca,na]at hI
 refine⟨_,rfl,?_⟩
 refine ay (new:=(gx r1 a7 c6)) (cs':=(bI r1 a7 c6)) hI (.s .z) gn rfl rfl et et rfl aW rfl rfl rfl ?_
 clear hI;intro c10 w2 hI
 refine bl ?_
 obtain rfl:=ac h
 refine QG ?_
 exact .inl ⟨_,rfl,a8,c7,a7,c6,_,rfl,hI.arr GO SU⟩
def kr:Tr:= .n
def ku:Tr:=(.c (4,.s) (.c (6,.q) (.c (7,.q) kr)))
theorem xt (F:NP) (w0:World) (hF:∀ k,F k→k<w0.heap.size) (l1:List aG) (at1:Int) (a1:Option Addr) (c1:Nat) (hc:AllCl [Cl.sl ah a1 c1 l1,aA] F w0) (r:GLin×Int×Int)
  (h:oV l1 at1=some r):
  Calls Tryz.prog 12 #[vs a1 l1.length c1,vi at1] w0 fun e w=>∃ (a2:Option Addr) (c2:Nat),e= .returned (Value.tuple #[(Value.agg (bI r.1 a2 c2)),vi r.2.1,vi r.2.2])∧Ext w0 w∧AllCl [Cl.sl aj a2 c2 r.1.L] F w:=by
 refine aL Tryz.func12 rfl Tryz.ntmps12 rfl ?_
 have hI:=Bun.start hF hc
 clear hc
 rw[oV]at h
 refine sr (aN (cs:=#[vi 0,vs none 0 0]) hI gn rfl rfl fA rfl ?_)
 clear hI;intro b1 c3 w1 hI
 refine Ci ?_
 refine Ci ?_
 refine nk (aB (sr (sm ?_)))
 refine sq (sP rfl et ai) ?_
 refine sm ?_
 refine bZ (gg rfl rfl rfl rfl) rfl (fun hc=>kz rfl et) ?_
 refine bZ (gg rfl rfl rfl rfl) rfl (fun hc=>kz rfl et) ?_
 refine bZ (gg rfl rfl rfl rfl) rfl (fun hc=>rV rfl G1 (bg et hc)) ?_
 refine bZ (gg rfl rfl rfl rfl) rfl (fun hc=>Am rfl (bg et hc) (bg et hc)) ?_
 refine sq (BS rfl et et) ?_
 refine nk (bc h et (fun hb h=> ?_) (fun hb h=> ?_))
 ·refine sr (sq (aV (vs:=[]) (cs:=#[vi 0,vs none 0 0]) rfl trivial (by kernel_rfl)) ?_)
  refine ay (new:=[vi 0,vs none 0 0]) (cs':=#[vi 0,vs none 0 0]) hI .z gn rfl rfl et et rfl aW rfl rfl rfl ?_
  clear hI;intro c4 w2 hI
  refine Ci ?_
  refine Ci ?_
  refine nk (al ?_)
  have hI:=hI.add (c:=Cl.sl aj none 0 ([]:List GMono)) SlC.nil
  obtain rfl:=ac h
  exact jt (vs:=[(Value.agg #[vi 0,vs none 0 0]),vi 0,vi 1]) Tryz.results12 ⟨⟨_,aZ rfl rfl,ia (l:=[vi 0,vs none 0 0]) rZ rfl aW (CellsAt.of_blk (hI.blk .z) rfl)⟩,⟨aZ rfl rfl,⟨aZ rfl rfl,trivial⟩⟩⟩ ⟨none,0,rfl,hI.ext0,hI.fin ⟨.z,trivial⟩⟩
 refine cc (cA (sr (sm ?_)))
 refine sm ?_
 refine sq (aV (vs:=[(0,vs a1 l1.length c1),(1,vi at1)]) (cs:=#[vs a1 l1.length c1,vi at1,vi 0]) rfl ⟨rfl,et,⟨rfl,et,trivial⟩⟩ (by kernel_rfl)) ?_
 refine fU (v:=(Value.agg #[vs a1 l1.length c1,vi at1,vi 0])) (cs:=#[vs a1 l1.length c1,vi at1,vi 0]) hI gn rfl rfl et rfl ?_
 clear hI;intro b2 c5 w3 hI
 refine aN (cs:=#[(Value.pointer none)]) hI gn rfl rfl Ah rfl ?_
 clear hI;intro b3 c6 w4 hI
 refine ay (new:=[vp b2 0]) (cs':=#[vp b2 0]) hI .z gn rfl rfl et et rfl Av rfl rfl rfl ?_
 clear hI;intro c7 w5 hI
 refine nk (sr (sq (aV (vs:=[]) (cs:=#[vi 0,vs none 0 0]) rfl trivial (by kernel_rfl)) ?_))
 refine aN (cs:=#[vi 0,vs none 0 0]) hI gn rfl rfl fA rfl ?_
 clear hI;intro b4 c8 w6 hI
 refine ay (new:=[vi 0,vs none 0 0]) (cs':=#[vi 0,vs none 0 0]) hI .z gn rfl rfl et et rfl aW rfl rfl rfl ?_
 clear hI;intro c9 w7 hI
 refine nk (aB (sr (sq (mm (vs:=[]) (cap:=[vp b3 0,vp b4 0]) rfl rfl ⟨et,⟨et,trivial⟩⟩) ?_)))
 obtain⟨c10,hI⟩:=hI.relBox (.s .z)
 have hI:=hI.add (c:=Cl.sl aj none 0 ([]:List GMono)) SlC.nil
 obtain⟨c11,f1,hB,hl1,hk1⟩:=hI.hands (.l (.l (.r .n)))
 replace hB:=hB.ord (.c (.s .z) (.c .z .n))
 rcases sT h with⟨⟨r1,s1,s2⟩,hx1,h⟩ | ⟨pa1,pn1,hx1,hn1,h⟩
 ·skip
  try dsimp only at h
  refine aE gn rfl (ag (vs:=[(Value.func (.func 30) #[] #[vp b3 0,vp b4 0])]) rfl AH ⟨et,trivial⟩) (Calls.mono (rM (β:=(Option Addr)×Nat×(Option Addr)×Nat) (fun x=>[MO.box b2 67 (ab s1 (x.1) (x.2.1)),MO.box b4 27 (bI s2 (x.2.2.1) (x.2.2.2))]) (fun x=>[Cl.sl ah (x.1) (x.2.1) s1.l,Cl.sl aj (x.2.2.1) (x.2.2.2) s2.L]) (cl:=[Cl.sl ah a1 c1 l1,Cl.blk b3 65 #[vp b2 0],Cl.sl aj none 0 ([]:List GMono),aA]) EZ (hB.subs ⟨(.s (.s .z)),(.s .z),.z,(.s (.s (.s .z))),trivial⟩) (fun C1_ F1_ w1_ hB_=>(n5 C1_ F1_ w1_ (⟨l1,at1,0⟩:aa) (⟨0,([]:List GMono)⟩:GLin) b3 b2 a1 c1 b4 none 0 hB_ _ hx1).mono fun e_ w_ hq_=>(let ⟨a3,c12,a4,c13,C_,he_,hB2_⟩:=en hq_;⟨he_,(a3,c12,a4,c13),C_,hB2_⟩))) ?_)
  rintro _ w8 ⟨rfl,⟨a3,c12,a4,c13⟩,c14,hB2⟩
  obtain⟨c15,hs1,hI⟩:=hk1 _ _ _ _ hB2
  replace hI:Bun d5 F w0 c15 w8 [MO.box b2 67 (ab s1 a3 c12),MO.box b4 27 (bI s2 a4 c13),MO.box b1 27 #[vi 0,vs none 0 0]] [Cl.sl ah a3 c12 s1.l,Cl.sl aj a4 c13 s2.L,Cl.sl aj none 0 ([]:List GMono),Cl.blk b3 65 #[vp b2 0],Cl.sl ah a1 c1 l1,aA]:=hI
  refine⟨_,rfl,?_⟩
  refine sm ?_
  refine sq (gN rfl et rfl) ?_
  refine sq (gN rfl et rfl) ?_
  refine sa ?_
  refine sa ?_
  refine nk (sr (sm ?_))
  refine sq (ua rfl et ai) ?_
  refine nk (bc h et (fun hb h=> ?_) (fun hb h=> ?_))
  ·refine sr (sq (aV (vs:=[]) (cs:=#[vi 0,vs none 0 0]) rfl trivial (by kernel_rfl)) ?_)
   refine sm ?_
   refine sm ?_
   refine ay (new:=[vi 0,vs none 0 0]) (cs':=#[vi 0,vs none 0 0]) hI (.s (.s .z)) gn rfl rfl et et rfl aW rfl rfl rfl ?_
   clear hI;intro c16 w9 hI
   refine sa ?_
   refine sa ?_
   refine bl ?_
   refine qP (e:=[(4,vp b1 0),(5,vi 0),(6,vi 0)]) ⟨rfl,rfl,rfl,trivial⟩ ?_
   refine al ?_
   obtain rfl:=ac h
   exact jt (vs:=[(Value.agg #[vi 0,vs none 0 0]),vi 0,vi 0]) Tryz.results12 ⟨⟨_,aZ rfl rfl,ia (l:=[vi 0,vs none 0 0]) rZ rfl aW (CellsAt.of_blk (hI.blk (.s (.s .z))) rfl)⟩,⟨aZ rfl rfl,⟨aZ rfl rfl,trivial⟩⟩⟩ ⟨none,0,rfl,hI.ext0,hI.fin ⟨(.s (.s .z)),trivial⟩⟩
  refine cc (qP (e:=[(4,vp b1 0),(7,vp b3 0),(8,vp b4 0)]) ⟨rfl,rfl,rfl,trivial⟩ ?_)
  refine aB (bx [5] false (.c (0,.q) (.two 1 (.c (2,.q) (.c (3,.q) (.two 4 (.c (5,.s) (.c (6,.q) (.c (7,.q) kr))) 5 ku))) 5 (.c (1,.s) (.c (2,.q) (.c (3,.q) ku))))) hI (by kernel_rfl) (by kernel_rfl) ?_)
  clear hI;intro w13 hI
  refine ge (α:=NP) (T:=kr) (fun x=>[(4,vp b1 0),(5,vi s1.at_),(6,vi 0),(7,vp b3 0),(8,vp b4 0),(35,(Value.agg (bI s2 a4 c13))),(36,vp b2 0),(37,vp b2 0),(38,vp b2 1),(39,vi s1.at_)]) (fun x w=>Bun d5 F w0 x w [MO.box b2 67 (ab s1 a3 c12),MO.box b4 27 (bI s2 a4 c13),MO.box b1 27 (bI s2 a4 c13)] [Cl.sl ah a3 c12 s1.l,Cl.sl aj a4 c13 s2.L,Cl.sl aj none 0 ([]:List GMono),Cl.blk b3 65 #[vp b2 0],Cl.sl ah a1 c1 l1,aA]) (fun x w=>SN [] (DM true F x) w) ?_ ?_
  ·clear hI;rintro c19 w12 hI
   try dsimp only at hI ⊢
   unfold kr
   refine pu ?_
   refine cA (al ?_)
   obtain rfl:=ac h
   exact jt (vs:=[(Value.agg (bI s2 a4 c13)),vi s1.at_,vi 0]) Tryz.results12 ⟨⟨_,aZ rfl rfl,ia (l:=(gx s2 a4 c13)) rZ rfl aW (CellsAt.of_blk (hI.blk (.s (.s .z))) rfl)⟩,⟨aZ rfl rfl,⟨aZ rfl rfl,trivial⟩⟩⟩ ⟨a4,c13,rfl,hI.ext0,hI.fin ⟨(.s .z),trivial⟩⟩
  intro hk_tr_parser_Lin_1_1
  refine ge (α:=NP) (T:=ku) (fun x=>[(4,vp b1 0),(7,vp b3 0),(8,vp b4 0),(35,(Value.agg (bI s2 a4 c13))),(36,vp b2 0),(37,vp b2 0),(38,vp b2 1)]) (fun x w=>Bun d5 F w0 x w [MO.box b2 67 (ab s1 a3 c12),MO.box b4 27 (bI s2 a4 c13),MO.box b1 27 (bI s2 a4 c13)] [Cl.sl ah a3 c12 s1.l,Cl.sl aj a4 c13 s2.L,Cl.sl aj none 0 ([]:List GMono),Cl.blk b3 65 #[vp b2 0],Cl.sl ah a1 c1 l1,aA]) (fun x w=>SN [] (DM true F x) w) ?_ ?_
  ·clear hI;rintro c18 w11 hI
   try dsimp only at hI ⊢
   unfold ku
   refine dK rfl gn rfl (eG (v:=(vi s1.at_)) rfl et u3 rfl (CellsAt.of_blk (hI.blk .z) rfl)) SX.self ?_
   refine pt rfl gn rfl (fun w'=>dN rfl et) ?_
   refine pt rfl gn rfl (fun w'=>dN rfl ai) ?_
   exact cM (hk_tr_parser_Lin_1_1 c18 _ (hI.arr (.c .z (.c .z (.c .z .n))) ⟨.z,(.s .z),(.s (.s .z)),(.s (.s (.s .z))),(.s (.s (.s (.s .z)))),(.s (.s (.s (.s (.s .z))))),trivial⟩)) ⟨rfl,rfl,rfl,rfl,rfl,rfl,rfl,rfl,rfl,rfl,trivial⟩
  intro hk_tr_parser_Lin_1_0
  refine me rfl gn rfl (fun w' hw'=>(aJ (l:=(gx s2 a4 c13)) rfl et rZ rfl aW ((CA.blk (hI.blk (.s .z)) rfl).at_ (SX.any rfl hw')))) (by kernel_rfl) ?_
  refine gV ?_ ?_
  ·skip
   refine dK rfl gn rfl (eG (v:=(vp b2 0)) rfl et H6 rfl (hI.kblk (l:=[vp b2 0]) (.s (.s (.s .z))) rfl).1) SX.self ?_
   refine pt rfl gn rfl (fun w'=>ml rfl et) ?_
   refine pt rfl gn rfl (fun w'=>dH rfl et H5 rfl gb rfl) ?_
   refine gV ?_ ?_
   ·skip
    refine dK rfl gn rfl (eG (v:=(vi s1.at_)) rfl et u3 rfl (CellsAt.of_blk (hI.blk .z) rfl)) SX.self ?_
    refine hO (F:=F) (C:=c15) rfl rfl ?_
    refine fT (new:=(gx s2 a4 c13)) (cs':=(bI s2 a4 c13)) hI (.s (.s .z)) rfl gn rfl rfl et et rfl aW rfl rfl rfl ?_
    clear hI;intro c17 w10 hI
    refine pt rfl gn rfl (fun w'=>dN rfl et) ?_
    refine pt rfl gn rfl (fun w'=>dN rfl ai) ?_
    exact cM (hk_tr_parser_Lin_1_1 c17 _ (hI.arr (.c .z (.c .z (.c .z .n))) ⟨.z,(.s .z),(.s (.s .z)),(.s (.s (.s .z))),(.s (.s (.s (.s .z)))),(.s (.s (.s (.s (.s .z))))),trivial⟩)) ⟨rfl,rfl,rfl,rfl,rfl,rfl,rfl,rfl,rfl,rfl,trivial⟩
   refine dw (F:=F) (C:=c15) rfl rfl ?_
   refine fT (new:=(gx s2 a4 c13)) (cs':=(bI s2 a4 c13)) hI (.s (.s .z)) rfl gn rfl rfl et et rfl aW rfl rfl rfl ?_
   clear hI;intro c17 w10 hI
   exact cM (hk_tr_parser_Lin_1_0 c17 _ (hI.arr (.c .z (.c .z (.c .z .n))) ⟨.z,(.s .z),(.s (.s .z)),(.s (.s (.s .z))),(.s (.s (.s (.s .z)))),(.s (.s (.s (.s (.s .z))))),trivial⟩)) ⟨rfl,rfl,rfl,rfl,rfl,rfl,rfl,trivial⟩
  refine dw (F:=F) (C:=c15) rfl rfl ?_
  refine fT (new:=(gx s2 a4 c13)) (cs':=(bI s2 a4 c13)) hI (.s (.s .z)) rfl gn rfl rfl et et rfl aW rfl rfl rfl ?_
  clear hI;intro c17 w10 hI
  refine dK rfl gn rfl (eG (v:=(vp b2 0)) rfl et H6 rfl (hI.kblk (l:=[vp b2 0]) (.s (.s (.s .z))) rfl).1) SX.self ?_
  refine pt rfl gn rfl (fun w'=>ml rfl et) ?_
  refine pt rfl gn rfl (fun w'=>dH rfl et H5 rfl gb rfl) ?_
  exact cM (hk_tr_parser_Lin_1_0 c17 _ (hI.arr (.c .z (.c .z (.c .z .n))) ⟨.z,(.s .z),(.s (.s .z)),(.s (.s (.s .z))),(.s (.s (.s (.s .z)))),(.s (.s (.s (.s (.s .z))))),trivial⟩)) ⟨rfl,rfl,rfl,rfl,rfl,rfl,rfl,trivial⟩
 try dsimp only at h
 refine aE gn rfl (ag (vs:=[(Value.func (.func 30) #[] #[vp b3 0,vp b4 0])]) rfl AH ⟨et,trivial⟩) (Calls.mono (rN (cl:=[Cl.sl ah a1 c1 l1,Cl.blk b3 65 #[vp b2 0],Cl.sl aj none 0 ([]:List GMono),aA]) EZ (hB.subs ⟨(.s (.s .z)),(.s .z),.z,(.s (.s (.s .z))),trivial⟩) (fun C1_ F1_ w1_ hB_=>(n5 C1_ F1_ w1_ (⟨l1,at1,0⟩:aa) (⟨0,([]:List GMono)⟩:GLin) b3 b2 a1 c1 b4 none 0 hB_ _ hx1).mono fun e_ w_ hq_=>eo hq_)) ?_)
 rintro _ w14 ⟨rfl,c20,hB2⟩
 obtain⟨c21,hs2,hI⟩:=hk1 _ _ _ _ hB2
 replace hI:Bun d5 F w0 c21 w14 [MO.box b1 27 #[vi 0,vs none 0 0]] [Cl.sl aj none 0 ([]:List GMono),Cl.blk b3 65 #[vp b2 0],Cl.sl ah a1 c1 l1,aA]:=hI
 refine⟨_,rfl,?_⟩
 have hk2:(!decide (pn1=0))=true:=by simp[hn1]
 refine sm ?_
 refine sq (gN rfl et rfl) ?_
 refine sq (gN rfl et rfl) ?_
 refine sa ?_
 refine sa ?_
 refine nk (sr (sm ?_))
 refine sq (ua rfl et ai) ?_
 refine nk (q8 (b:= !decide (pn1=0)) et (fun _=> ?_) (fun hb=>absurd (hb.symm.trans hk2) (by simp)))
 refine sr (sq (aV (vs:=[]) (cs:=#[vi 0,vs none 0 0]) rfl trivial (by kernel_rfl)) ?_)
 refine sm ?_
 refine sm ?_
 refine ay (new:=[vi 0,vs none 0 0]) (cs':=#[vi 0,vs none 0 0]) hI .z gn rfl rfl et et rfl aW rfl rfl rfl ?_
 clear hI;intro c22 w15 hI
 refine sa ?_
 refine sa ?_
 refine bl ?_
 refine qP (e:=[(4,vp b1 0),(5,vi pa1),(6,vi pn1)]) ⟨rfl,rfl,rfl,trivial⟩ ?_
 refine al ?_
 obtain rfl:=ac h
 exact jt (vs:=[(Value.agg #[vi 0,vs none 0 0]),vi pa1,vi pn1]) Tryz.results12 ⟨⟨_,aZ rfl rfl,ia (l:=[vi 0,vs none 0 0]) rZ rfl aW (CellsAt.of_blk (hI.blk .z) rfl)⟩,⟨aZ rfl rfl,⟨aZ rfl rfl,trivial⟩⟩⟩ ⟨none,0,rfl,hI.ext0,hI.fin ⟨.z,trivial⟩⟩
theorem vO (F:NP) (w0:World) (hF:∀ k,F k→k<w0.heap.size) (r1:Int) (hc:AllCl [] F w0) (r:Bool)
  (h:lr r1=some r):
  Calls Tryz.prog 153 #[(Value.int .i32 r1)] w0 fun e w=>e= .returned (vb r)∧Ext w0 w∧AllCl [] F w:=by
 refine aL Tryz.func153 rfl Tryz.ntmps153 rfl ?_
 have hI:=Bun.start hF hc
 clear hc
 rw[lr]at h
 refine T ?_
 refine aB (T ?_)
 refine aB (T ?_)
 refine bc h et (fun hb h=> ?_) (fun hb h=> ?_)
 ·refine T ?_
  refine bc h et (fun hb h=> ?_) (fun hb h=> ?_)
  ·refine T ?_
   refine al ?_
   obtain rfl:=ac h
   exact QF hI
  refine T ?_
  refine al ?_
  obtain rfl:=ac h
  exact QF hI
 refine T ?_
 refine bc h et (fun hb h=> ?_) (fun hb h=> ?_)
 ·refine T ?_
  refine bc h et (fun hb h=> ?_) (fun hb h=> ?_)
  ·refine T ?_
   refine al ?_
   obtain rfl:=ac h
   exact QF hI
  refine T ?_
  refine al ?_
  obtain rfl:=ac h
  exact QF hI
 refine T ?_
 refine bc h et (fun hb h=> ?_) (fun hb h=> ?_)
 ·refine T ?_
  refine bc h et (fun hb h=> ?_) (fun hb h=> ?_)
  ·refine T ?_
   refine al ?_
   obtain rfl:=ac h
   exact QF hI
  refine T ?_
  refine al ?_
  obtain rfl:=ac h
  exact QF hI
 refine T ?_
 refine bc h et (fun hb h=> ?_) (fun hb h=> ?_)
 ·refine T ?_
  refine al ?_
  obtain rfl:=ac h
  exact QF hI
 refine T ?_
 refine al ?_
 obtain rfl:=ac h
 exact QF hI
theorem vh (F:NP) (w0:World) (hF:∀ k,F k→k<w0.heap.size) (r1:Int) (hc:AllCl [] F w0) (r:Bool)
  (h:kK r1=some r):
  Calls Tryz.prog 155 #[(Value.int .i32 r1)] w0 fun e w=>e= .returned (vb r)∧Ext w0 w∧AllCl [] F w:=by
 refine aL Tryz.func155 rfl Tryz.ntmps155 rfl ?_
 have hI:=Bun.start hF hc
 clear hc
 rw[kK]at h
 refine T ?_
 refine al ?_
 obtain rfl:=ac h
 exact QF hI
theorem rI (F:NP) (w0:World) (hF:∀ k,F k→k<w0.heap.size) (s1:List UInt8) (hc:AllCl [] F w0) (r:Int)
  (h:k7 s1=some r):
  Calls Tryz.prog 83 #[(aC s1)] w0 fun e w=>e= .returned (vi r)∧Ext w0 w∧AllCl [] F w:=by
 refine aL Tryz.func83 rfl Tryz.ntmps83 rfl ?_
 have hI:=Bun.start hF hc
 clear hc
 rw[k7]at h
 refine T ?_
 refine aB (T ?_)
 refine cO (α:=Nat×Int) (fun x=>fun w=>∃ C,Bun d5 F w0 C w [] []∧fY s1 (x.1) (x.2)=some r) (fun x _=>x.1) (fun x=>[(0,(aC s1)),(3,vi (x.2))]) (fu,0) ⟨_,hI.arr .n trivial,h⟩ SB ?_
 clear h hI;rintro⟨fuel1,at1⟩ w1 ⟨c1,hI,h⟩
 dsimp only at hI h
 rcases fuel1 with _ | fuel1
 ·rw[fY]at h;cases h
 rw[fY]at h
 refine bz (e:=[(0,(aC s1)),(3,vi at1)]) SB ?_
 refine aB (T ?_)
 refine bc h et (fun hb h=> ?_) (fun hb h=> ?_)
 ·refine T ?_
  obtain⟨b1,hx1,h⟩:=af h
  refine sI ?_
  refine T ?_
  obtain⟨r1,hx2,h⟩:=af h
  refine aE gn rfl (ag (vs:=[(Value.int .i32 (mn b1))]) rfl Gr ⟨et,trivial⟩) (Calls.mono (vO (Dj F c1) w1 hI.lt (mn b1) trivial r1 hx2) ?_)
  rintro _ w2 ⟨rfl,hx3,hl1⟩
  refine⟨_,rfl,?_⟩
  replace hI:=(hI.ext hx3)
  refine T ?_
  refine bc h et (fun hb h=> ?_) (fun hb h=> ?_)
  ·refine T ?_
   refine bl ?_
   exact cg (fuel1,az (at1+1)) SB ⟨_,hI.arr GO SU,h⟩ (Nat.lt_succ_self _)
  refine T ?_
  refine bc h et (fun hb h=> ?_) (fun hb h=> ?_)
  ·refine T ?_
   obtain⟨s2,hx4,h⟩:=af h
   refine sI ?_
   have hI:=hI.add (c:=qj (Value.func (.func 155) #[] #[]) kK) ⟨rfl,fun D' w' hs hl x_1 r k h=>CallV.fn (cap:=[]) Gq (vh D' w' hl x_1 trivial r h)⟩
   obtain⟨r2,hx5,h⟩:=af h
   refine aE gn rfl (ag (vs:=[(aC s2),(Value.func (.func 155) #[] #[])]) rfl wS ⟨et,⟨nn,trivial⟩⟩) (Calls.mono (np (Dj F c1) w2 hI.lt s2 kK (Value.func (.func 155) #[] #[]) ⟨(hI.get .z),trivial⟩ r2 hx5) ?_)
   rintro _ w3 ⟨rfl,hx6,hl2⟩
   refine⟨_,rfl,?_⟩
   replace hI:=(hI.ext hx6)
   refine T ?_
   refine bl ?_
   exact cg (fuel1,az (at1+r2)) SB ⟨_,hI.arr GO SU,h⟩ (Nat.lt_succ_self _)
  refine T ?_
  refine al ?_
  obtain rfl:=ac h
  exact QF hI
 refine dv ?_
 refine kb ?_
 refine cA ?_
 refine T ?_
 refine al ?_
 obtain rfl:=ac h
 exact QF hI
theorem vg (F:NP) (w0:World) (hF:∀ k,F k→k<w0.heap.size) (r1:Int) (hc:AllCl [] F w0) (r:Bool)
  (h:kJ r1=some r):
  Calls Tryz.prog 159 #[(Value.int .i32 r1)] w0 fun e w=>e= .returned (vb r)∧Ext w0 w∧AllCl [] F w:=by
 refine aL Tryz.func159 rfl Tryz.ntmps159 rfl ?_
 have hI:=Bun.start hF hc
 clear hc
 rw[kJ]at h
 refine T ?_
 refine aB (T ?_)
 refine aB (T ?_)
 refine bc h et (fun hb h=> ?_) (fun hb h=> ?_)
 ·refine T ?_
  refine bc h et (fun hb h=> ?_) (fun hb h=> ?_)
  ·refine T ?_
   refine al ?_
   obtain rfl:=ac h
   exact QF hI
  refine T ?_
  refine al ?_
  obtain rfl:=ac h
  exact QF hI
 refine T ?_
 refine bc h et (fun hb h=> ?_) (fun hb h=> ?_)
 ·refine T ?_
  refine bc h et (fun hb h=> ?_) (fun hb h=> ?_)
  ·refine T ?_
   refine al ?_
   obtain rfl:=ac h
   exact QF hI
  refine T ?_
  refine al ?_
  obtain rfl:=ac h
  exact QF hI
 refine T ?_
 refine bc h et (fun hb h=> ?_) (fun hb h=> ?_)
 ·refine T ?_
  refine bc h et (fun hb h=> ?_) (fun hb h=> ?_)
  ·refine T ?_
   refine al ?_
   obtain rfl:=ac h
   exact QF hI
  refine T ?_
  refine al ?_
  obtain rfl:=ac h
  exact QF hI
 refine T ?_
 refine bc h et (fun hb h=> ?_) (fun hb h=> ?_)
 ·refine T ?_
  refine bc h et (fun hb h=> ?_) (fun hb h=> ?_)
  ·refine T ?_
   refine al ?_
   obtain rfl:=ac h
   exact QF hI
  refine T ?_
  refine al ?_
  obtain rfl:=ac h
  exact QF hI
 refine T ?_
 refine bc h et (fun hb h=> ?_) (fun hb h=> ?_)
 ·refine T ?_
  refine bc h et (fun hb h=> ?_) (fun hb h=> ?_)
  ·refine T ?_
   refine al ?_
   obtain rfl:=ac h
   exact QF hI
  refine T ?_
  refine al ?_
  obtain rfl:=ac h
  exact QF hI
 refine T ?_
 refine bc h et (fun hb h=> ?_) (fun hb h=> ?_)
 ·refine T ?_
  refine bc h et (fun hb h=> ?_) (fun hb h=> ?_)
  ·refine T ?_
   refine al ?_
   obtain rfl:=ac h
   exact QF hI
  refine T ?_
  refine al ?_
  obtain rfl:=ac h
  exact QF hI
 refine T ?_
 refine bc h et (fun hb h=> ?_) (fun hb h=> ?_)
 ·refine T ?_
  refine bc h et (fun hb h=> ?_) (fun hb h=> ?_)
  ·refine T ?_
   refine al ?_
   obtain rfl:=ac h
   exact QF hI
  refine T ?_
  refine al ?_
  obtain rfl:=ac h
  exact QF hI
 refine T ?_
 refine bc h et (fun hb h=> ?_) (fun hb h=> ?_)
 ·refine T ?_
  refine bc h et (fun hb h=> ?_) (fun hb h=> ?_)
  ·refine T ?_
   refine al ?_
   obtain rfl:=ac h
   exact QF hI
  refine T ?_
  refine al ?_
  obtain rfl:=ac h
  exact QF hI
 refine T ?_
 refine bc h et (fun hb h=> ?_) (fun hb h=> ?_)
 ·refine T ?_
  refine bc h et (fun hb h=> ?_) (fun hb h=> ?_)
  ·refine T ?_
   refine al ?_
   obtain rfl:=ac h
   exact QF hI
  refine T ?_
  refine al ?_
  obtain rfl:=ac h
  exact QF hI
 refine T ?_
 refine bc h et (fun hb h=> ?_) (fun hb h=> ?_)
 ·refine T ?_
  refine bc h et (fun hb h=> ?_) (fun hb h=> ?_)
  ·refine T ?_
   refine al ?_
   obtain rfl:=ac h
   exact QF hI
  refine T ?_
  refine al ?_
  obtain rfl:=ac h
  exact QF hI
 refine T ?_
 refine bc h et (fun hb h=> ?_) (fun hb h=> ?_)
 ·refine T ?_
  refine bc h et (fun hb h=> ?_) (fun hb h=> ?_)
  ·refine T ?_
   refine al ?_
   obtain rfl:=ac h
   exact QF hI
  refine T ?_
  refine al ?_
  obtain rfl:=ac h
  exact QF hI
 refine T ?_
 refine bc h et (fun hb h=> ?_) (fun hb h=> ?_)
 ·refine T ?_
  refine bc h et (fun hb h=> ?_) (fun hb h=> ?_)
  ·refine T ?_
   refine al ?_
   obtain rfl:=ac h
   exact QF hI
  refine T ?_
  refine al ?_
  obtain rfl:=ac h
  exact QF hI
 refine T ?_
 refine bc h et (fun hb h=> ?_) (fun hb h=> ?_)
 ·refine T ?_
  refine bc h et (fun hb h=> ?_) (fun hb h=> ?_)
  ·refine T ?_
   refine al ?_
   obtain rfl:=ac h
   exact QF hI
  refine T ?_
  refine al ?_
  obtain rfl:=ac h
  exact QF hI
 refine T ?_
 refine bc h et (fun hb h=> ?_) (fun hb h=> ?_)
 ·refine T ?_
  refine bc h et (fun hb h=> ?_) (fun hb h=> ?_)
  ·refine T ?_
   refine al ?_
   obtain rfl:=ac h
   exact QF hI
  refine T ?_
  refine al ?_
  obtain rfl:=ac h
  exact QF hI
 refine T ?_
 refine bc h et (fun hb h=> ?_) (fun hb h=> ?_)
 ·refine T ?_
  refine bc h et (fun hb h=> ?_) (fun hb h=> ?_)
  ·refine T ?_
   refine al ?_
   obtain rfl:=ac h
   exact QF hI
  refine T ?_
  refine al ?_
  obtain rfl:=ac h
  exact QF hI
 refine T ?_
 refine bc h et (fun hb h=> ?_) (fun hb h=> ?_)
 ·refine T ?_
  refine bc h et (fun hb h=> ?_) (fun hb h=> ?_)
  ·refine T ?_
   refine al ?_
   obtain rfl:=ac h
   exact QF hI
  refine T ?_
  refine al ?_
  obtain rfl:=ac h
  exact QF hI
 refine T ?_
 refine bc h et (fun hb h=> ?_) (fun hb h=> ?_)
 ·refine T ?_
  refine bc h et (fun hb h=> ?_) (fun hb h=> ?_)
  ·refine T ?_
   refine al ?_
   obtain rfl:=ac h
   exact QF hI
  refine T ?_
  refine al ?_
  obtain rfl:=ac h
  exact QF hI
 refine T ?_
 refine bc h et (fun hb h=> ?_) (fun hb h=> ?_)
 ·refine T ?_
  refine bc h et (fun hb h=> ?_) (fun hb h=> ?_)
  ·refine T ?_
   refine al ?_
   obtain rfl:=ac h
   exact QF hI
  refine T ?_
  refine al ?_
  obtain rfl:=ac h
  exact QF hI
 refine T ?_
 refine bc h et (fun hb h=> ?_) (fun hb h=> ?_)
 ·refine T ?_
  refine bc h et (fun hb h=> ?_) (fun hb h=> ?_)
  ·refine T ?_
   refine al ?_
   obtain rfl:=ac h
   exact QF hI
  refine T ?_
  refine al ?_
  obtain rfl:=ac h
  exact QF hI
 refine T ?_
 refine bc h et (fun hb h=> ?_) (fun hb h=> ?_)
 ·refine T ?_
  refine al ?_
  obtain rfl:=ac h
  exact QF hI
 refine T ?_
 refine al ?_
 obtain rfl:=ac h
 exact QF hI
theorem xu (F:NP) (w0:World) (hF:∀ k,F k→k<w0.heap.size) (s1:List UInt8) (hc:AllCl [] F w0) (r:Int×Int)
  (h:lX s1=some r):
  Calls Tryz.prog 84 #[(aC s1)] w0 fun e w=>e= .returned (Value.tuple #[vi r.1,vi r.2])∧Ext w0 w∧AllCl [] F w:=by
 refine aL Tryz.func84 rfl Tryz.ntmps84 rfl ?_
 have hI:=Bun.start hF hc
 clear hc
 rw[lX]at h
 refine T ?_
 obtain⟨b1,hx1,h⟩:=af h
 refine sI ?_
 refine T ?_
 refine aB (T ?_)
 obtain⟨r1,hx2,h⟩:=af h
 refine aE gn rfl (ag (vs:=[(Value.int .i32 (mn b1))]) rfl zz ⟨et,trivial⟩) (Calls.mono (nD (Dj F d5) w0 hI.lt (mn b1) trivial r1 hx2) ?_)
 rintro _ w1 ⟨rfl,hx3,hl1⟩
 refine⟨_,rfl,?_⟩
 replace hI:=(hI.ext hx3)
 refine T ?_
 refine bc h et (fun hb h=> ?_) (fun hb h=> ?_)
 ·refine T ?_
  have hI:=hI.add (c:=qj (Value.func (.func 157) #[] #[]) cJ) ⟨rfl,fun D' w' hs hl x_1 r k h=>CallV.fn (cap:=[]) CU (pT D' w' hl x_1 trivial r h)⟩
  obtain⟨r2,hx4,h⟩:=af h
  refine aE gn rfl (ag (vs:=[(aC s1),(Value.func (.func 157) #[] #[])]) rfl wS ⟨et,⟨nn,trivial⟩⟩) (Calls.mono (np (Dj F d5) w1 hI.lt s1 cJ (Value.func (.func 157) #[] #[]) ⟨(hI.get .z),trivial⟩ r2 hx4) ?_)
  rintro _ w2 ⟨rfl,hx5,hl2⟩
  refine⟨_,rfl,?_⟩
  replace hI:=(hI.ext hx5)
  refine T ?_
  refine al ?_
  obtain rfl:=ac h
  exact QF hI
 refine T ?_
 obtain⟨r3,hx6,h⟩:=af h
 refine aE gn rfl (ag (vs:=[(Value.int .i32 (mn b1))]) rfl zy ⟨et,trivial⟩) (Calls.mono (ow (Dj F d5) w1 hI.lt (mn b1) trivial r3 hx6) ?_)
 rintro _ w3 ⟨rfl,hx7,hl3⟩
 refine⟨_,rfl,?_⟩
 replace hI:=(hI.ext hx7)
 refine T ?_
 refine bc h et (fun hb h=> ?_) (fun hb h=> ?_)
 ·refine T ?_
  have hI:=hI.add (c:=qj (Value.func (.func 158) #[] #[]) gE) ⟨rfl,fun D' w' hs hl x_1 r k h=>CallV.fn (cap:=[]) zy (ow D' w' hl x_1 trivial r h)⟩
  obtain⟨r4,hx8,h⟩:=af h
  refine aE gn rfl (ag (vs:=[(aC s1),(Value.func (.func 158) #[] #[])]) rfl wS ⟨et,⟨nn,trivial⟩⟩) (Calls.mono (np (Dj F d5) w3 hI.lt s1 gE (Value.func (.func 158) #[] #[]) ⟨(hI.get .z),trivial⟩ r4 hx8) ?_)
  rintro _ w4 ⟨rfl,hx9,hl4⟩
  refine⟨_,rfl,?_⟩
  replace hI:=(hI.ext hx9)
  refine T ?_
  refine al ?_
  obtain rfl:=ac h
  exact QF hI
 refine T ?_
 obtain⟨b2,hx10,h⟩:=af h
 replace hx10:=aP hx10
 refine sJ ?_
 refine T ?_
 refine bc h et (fun hb h=> ?_) (fun hb h=> ?_)
 ·refine T ?_
  refine al ?_
  obtain rfl:=ac h
  exact QF hI
 refine T ?_
 obtain⟨r5,hx11,h⟩:=af h
 refine aE gn rfl (ag (vs:=[(Value.int .i32 (mn b1))]) rfl Gp ⟨et,trivial⟩) (Calls.mono (vg (Dj F d5) w3 hI.lt (mn b1) trivial r5 hx11) ?_)
 rintro _ w5 ⟨rfl,hx12,hl5⟩
 refine⟨_,rfl,?_⟩
 replace hI:=(hI.ext hx12)
 refine T ?_
 refine bc h et (fun hb h=> ?_) (fun hb h=> ?_)
 ·refine T ?_
  refine al ?_
  obtain rfl:=ac h
  exact QF hI
 refine T ?_
 refine al ?_
 obtain rfl:=ac h
 exact QF hI
theorem sB (F:NP) (w0:World) (hF:∀ k,F k→k<w0.heap.size) (s1:List UInt8) (hc:AllCl [] F w0) (r:List aG×Int×Int)
  (h:iJ s1=some r):
  Calls Tryz.prog 39 #[(aC s1)] w0 fun e w=>∃ (a1:Option Addr) (c1:Nat),e= .returned (Value.tuple #[vs a1 r.1.length c1,vi r.2.1,vi r.2.2])∧Ext w0 w∧AllCl [Cl.sl ah a1 c1 r.1] F w:=by
 refine aL Tryz.func39 rfl Tryz.ntmps39 rfl ?_
 have hI:=Bun.start hF hc
 clear hc
 rw[iJ]at h
 refine T ?_
 refine aB (T ?_)
 refine bc h et (fun hb h=> ?_) (fun hb h=> ?_)
 ·refine T ?_
  refine al ?_
  have hI:=hI.add (c:=Cl.sl ah none 0 ([]:List aG)) SlC.nil
  obtain rfl:=ac h
  refine QG ?_
  exact⟨none,0,rfl,hI.ext0,hI.fin ⟨.z,trivial⟩⟩
 refine T ?_
 refine aB (T ?_)
 obtain⟨r1,hx1,h⟩:=af h
 refine aE gn rfl (ag (vs:=[(aC s1)]) rfl ET ⟨et,trivial⟩) (Calls.mono (rI (Dj F d5) w0 hI.lt s1 trivial r1 hx1) ?_)
 rintro _ w1 ⟨rfl,hx2,hl1⟩
 refine⟨_,rfl,?_⟩
 replace hI:=(hI.ext hx2)
 refine T ?_
 have hI:=hI.nil ah 62 none
 refine cO (α:=Nat×(List aG)×Int×(Option Addr)×Nat) (fun x=>fun w=>∃ C,Bun d5 F w0 C w [MO.row ah 62 (x.2.2.2.1) (x.2.2.2.2) (x.2.1)] []∧eE s1 (x.1) (x.2.1) (x.2.2.1)=some r) (fun x _=>x.1) (fun x=>[(0,(aC s1)),(5,vs (x.2.2.2.1) (x.2.1).length (x.2.2.2.2)),(6,vi (x.2.2.1))]) (fu,([]:List aG),r1,none,0) ⟨_,hI.arr (.c .z .n) trivial,h⟩ SB ?_
 clear h hI;rintro⟨fuel1,gh,at1,a2,c2⟩ w2 ⟨c3,hI,h⟩
 dsimp only at hI h
 rcases fuel1 with _ | fuel1
 ·rw[eE]at h;cases h
 rw[eE]at h
 refine bz (e:=[(0,(aC s1)),(5,vs a2 gh.length c2),(6,vi at1)]) SB ?_
 refine aB (T ?_)
 refine bc h et (fun hb h=> ?_) (fun hb h=> ?_)
 ·refine T ?_
  refine aB (T ?_)
  obtain⟨s2,hx3,h⟩:=af h
  refine sI ?_
  obtain⟨r2,hx4,h⟩:=af h
  refine aE gn rfl (ag (vs:=[(aC s2)]) rfl Hz ⟨et,trivial⟩) (Calls.mono (xu (Dj F c3) w2 hI.lt s2 trivial r2 hx4) ?_)
  rintro _ w3 ⟨rfl,hx5,hl2⟩
  refine⟨_,rfl,?_⟩
  replace hI:=(hI.ext hx5)
  refine T ?_
  refine aB (T ?_)
  refine bc h et (fun hb h=> ?_) (fun hb h=> ?_)
  ·refine T ?_
   refine al ?_
   have hI:=hI.add (c:=Cl.sl ah none 0 ([]:List aG)) SlC.nil
   obtain rfl:=ac h
   refine QG ?_
   exact⟨none,0,rfl,hI.ext0,hI.fin ⟨.z,trivial⟩⟩
  refine T ?_
  refine bc h et (fun hb h=> ?_) (fun hb h=> ?_)
  ·refine T ?_
   refine al ?_
   have hI:=hI.add (c:=Cl.sl ah none 0 ([]:List aG)) SlC.nil
   obtain rfl:=ac h
   refine QG ?_
   exact⟨none,0,rfl,hI.ext0,hI.fin ⟨.z,trivial⟩⟩
  refine T ?_
  obtain⟨s3,hx6,h⟩:=af h
  refine sq (BQ rfl u9 et et et hx6) ?_
  refine sq (aV (vs:=[(0,vi r2.1),(1,vi at1),(2,(aC s3))]) (cs:=#[vi r2.1,vi at1,(aC s3)]) rfl ⟨rfl,et,⟨rfl,et,⟨rfl,et,trivial⟩⟩⟩ (by kernel_rfl)) ?_
  refine jR (c:=ah) (xs:=([(⟨r2.1,at1,s3⟩:aG)]:List aG)) (vs:=[(0,(Value.agg #[vi r2.1,vi at1,(aC s3)]))]) (cs:=#[vi r2.1,vi at1,(aC s3)]) (css:=[[vi r2.1,vi at1,(aC s3)]]) hI gn rfl rfl G1 tX rfl ⟨rfl,et,trivial⟩ (by kernel_rfl) ⟨rfl,trivial⟩ rfl rfl rfl ?_
  clear hI;intro b1 c4 w4 hI
  obtain⟨zs1,hx7,h⟩:=af h
  refine pJ (xs:=gh) (ys:=([(⟨r2.1,at1,s3⟩:aG)]:List aG)) hI (.s .z) (hI.rd .z) hx7 gn rfl rfl G1 tX rfl rfl et et ?_
  clear hI;intro a3 c5 c6 w5 hI
  refine T ?_
  obtain⟨s4,hx8,h⟩:=af h
  refine sI ?_
  obtain⟨r3,hx9,h⟩:=af h
  refine aE gn rfl (ag (vs:=[(aC s4)]) rfl ET ⟨et,trivial⟩) (Calls.mono (rI (Dj F c6) w5 hI.lt s4 trivial r3 hx9) ?_)
  rintro _ w6 ⟨rfl,hx10,hl3⟩
  refine⟨_,rfl,?_⟩
  replace hI:=(hI.ext hx10)
  refine sq (qq rfl et et) ?_
  obtain⟨at2,hx11,h⟩:=af h
  refine sq (vU (dN rfl et) (congrArg (Value.int .i64) (ac hx11))) ?_
  refine bl ?_
  exact cg (fuel1,zs1,at2,a3,c5) SB ⟨_,hI.arr GO SU,h⟩ (Nat.lt_succ_self _)
 refine dv ?_
 refine kb ?_
 refine cA ?_
 refine T ?_
 refine al ?_
 obtain⟨c7,hI⟩:=hI.release .z
 obtain rfl:=ac h
 refine QG ?_
 exact⟨a2,c2,rfl,hI.ext0,hI.fin ⟨.z,trivial⟩⟩
theorem vA (F:NP) (w0:World) (hF:∀ k,F k→k<w0.heap.size) (t1:GType) (hc:AllCl [] F w0) (r:Bool)
  (h:li t1=some r):
  Calls Tryz.prog 229 #[(Value.agg (cv t1))] w0 fun e w=>e= .returned (vb r)∧Ext w0 w∧AllCl [] F w:=by
 refine aL Tryz.func229 rfl Tryz.ntmps229 rfl ?_
 have hI:=Bun.start hF hc
 clear hc
 rw[li]at h
 refine sr (fU (v:=(Value.agg (cv t1))) (cs:=(cv t1)) hI gn rfl rfl et rfl ?_)
 clear hI;intro b1 c1 w1 hI
 obtain⟨c2,hI⟩:=hI.relBox .z
 refine T ?_
 refine sq (aJ (l:=(gz t1)) rfl et tj rfl d4 (hI.kblk (l:=(gz t1)) .z rfl).1) ?_
 refine T ?_
 refine sq (aV (vs:=[(0,vi t1.Kind)]) (cs:=#[vi t1.Kind,vi 0,vi 0,vi 0,vi 0]) rfl ⟨rfl,et,trivial⟩ (by kernel_rfl)) ?_
 refine sq (jr rfl et et (ta ..) (qS ..)) ?_
 refine T ?_
 refine al ?_
 obtain rfl:=ac h
 exact QF hI
theorem mY (F:NP) (w0:World) (hF:∀ k,F k→k<w0.heap.size) (t1:GType) (hc:AllCl [] F w0) (r:Int)
  (h:fw t1=some r):
  Calls Tryz.prog 230 #[(Value.agg (cv t1))] w0 fun e w=>e= .returned (vi r)∧Ext w0 w∧AllCl [] F w:=by
 refine aL Tryz.func230 rfl Tryz.ntmps230 rfl ?_
 have hI:=Bun.start hF hc
 clear hc
 rw[fw]at h
 refine sr (fU (v:=(Value.agg (cv t1))) (cs:=(cv t1)) hI gn rfl rfl et rfl ?_)
 clear hI;intro b1 c1 w1 hI
 obtain⟨c2,hI⟩:=hI.relBox .z
 refine Ci ?_
 refine nk (sr (sq (dH rfl et tj rfl gb rfl) ?_))
 refine sq (eG (v:=(vi t1.Round)) rfl et u3 rfl (hI.kblk (l:=[vi t1.Round]) .z rfl).1) ?_
 refine sq (BW rfl et ai) ?_
 refine sm ?_
 refine bZ (bE rfl rfl rfl rfl) rfl (fun hc=>dH rfl et tj rfl gb rfl) ?_
 refine bZ (bE rfl rfl rfl rfl) rfl (fun hc=>(eG (v:=(vi t1.Round)) rfl (bg et hc) u3 rfl (hI.kblk (l:=[vi t1.Round]) .z rfl).1)) ?_
 refine bZ (bE rfl rfl rfl rfl) rfl (fun hc=>BT rfl (bg et hc) ai) ?_
 refine sq (xS rfl et et) ?_
 refine sm ?_
 refine bZ (bE rfl rfl rfl rfl) rfl (fun hc=>dH rfl et tj rfl gb rfl) ?_
 refine bZ (bE rfl rfl rfl rfl) rfl (fun hc=>(eG (v:=(vi t1.Over)) rfl (bg et hc) u3 rfl (hI.kblk (l:=[vi t1.Over]) .z rfl).1)) ?_
 refine bZ (bE rfl rfl rfl rfl) rfl (fun hc=>An rfl (bg et hc) ai) ?_
 refine bZ (bE rfl rfl rfl rfl) rfl (fun hc=>kz rfl (bg et hc)) ?_
 refine bZ (rz rfl rfl rfl rfl) rfl (fun hc=>dH rfl et tj rfl gb rfl) ?_
 refine bZ (rz rfl rfl rfl rfl) rfl (fun hc=>(eG (v:=(vi t1.Over)) rfl (bg et hc) u3 rfl (hI.kblk (l:=[vi t1.Over]) .z rfl).1)) ?_
 refine bZ (rz rfl rfl rfl rfl) rfl (fun hc=>An rfl (bg et hc) ai) ?_
 refine bZ (bE rfl rfl rfl rfl) rfl (fun hc=>EH rfl hc et et) ?_
 refine sq (xS rfl et et) ?_
 obtain⟨modes1,hx1,h⟩:=af h
 refine sq (vU (dN rfl et) (congrArg Value.bool (ac hx1))) ?_
 refine nk (aB (T ?_))
 refine bc h et (fun hb h=> ?_) (fun hb h=> ?_)
 ·refine T ?_
  refine al ?_
  obtain rfl:=ac h
  exact QF hI
 refine T ?_
 refine al ?_
 obtain rfl:=ac h
 exact QF hI
theorem jk (F:NP) (w0:World) (hF:∀ k,F k→k<w0.heap.size) (t1:GType) (hc:AllCl [] F w0) (r:Int)
  (h:dh t1=some r):
  Calls Tryz.prog 202 #[(Value.agg (cv t1))] w0 fun e w=>e= .returned (vi r)∧Ext w0 w∧AllCl [] F w:=by
 refine aL Tryz.func202 rfl Tryz.ntmps202 rfl ?_
 have hI:=Bun.start hF hc
 clear hc
 rw[dh]at h
 refine sr (fU (v:=(Value.agg (cv t1))) (cs:=(cv t1)) hI gn rfl rfl et rfl ?_)
 clear hI;intro b1 c1 w1 hI
 obtain⟨c2,hI⟩:=hI.relBox .z
 refine T ?_
 refine aB (T ?_)
 refine du (α:=Bool) (fun _=>⟨15,[]⟩) (fun x=>[(1,vp b1 0),(4,vi t1.Kind),(5,vb x)]) (fun x=>fun w=>∃ C,Bun d5 F w0 C w [] [Cl.blk b1 35 (cv t1)]∧fm t1 x=some r) ?_ ?_
 ·clear h hI;rintro i1 w2 ⟨c3,hI,h⟩
  try dsimp only at hI h
  rw[fm]at h
  refine bz (e:=[(1,vp b1 0),(4,vi t1.Kind),(5,vb i1)]) SB ?_
  refine bc h et (fun hb h=> ?_) (fun hb h=> ?_)
  ·refine sr (sq (aJ (l:=(gz t1)) rfl et tj rfl d4 (hI.kblk (l:=(gz t1)) .z rfl).1) ?_)
   obtain⟨r1,hx1,h⟩:=af h
   refine aE gn rfl (ag (vs:=[(Value.agg (cv t1))]) rfl F7 ⟨et,trivial⟩) (Calls.mono (vA (Dj F c3) w2 hI.lt t1 trivial r1 hx1) ?_)
   rintro _ w3 ⟨rfl,hx2,hl1⟩
   refine⟨_,rfl,?_⟩
   replace hI:=(hI.ext hx2)
   refine nk (bc h et (fun hb h=> ?_) (fun hb h=> ?_))
   ·refine T ?_
    refine al ?_
    obtain rfl:=ac h
    exact QF hI
   refine T ?_
   refine al ?_
   obtain rfl:=ac h
   exact QF hI
  refine T ?_
  refine bc h et (fun hb h=> ?_) (fun hb h=> ?_)
  ·refine sr (sq (aJ (l:=(gz t1)) rfl et tj rfl d4 (hI.kblk (l:=(gz t1)) .z rfl).1) ?_)
   obtain⟨r2,hx3,h⟩:=af h
   refine aE gn rfl (ag (vs:=[(Value.agg (cv t1))]) rfl CK ⟨et,trivial⟩) (Calls.mono (mY (Dj F c3) w2 hI.lt t1 trivial r2 hx3) ?_)
   rintro _ w4 ⟨rfl,hx4,hl2⟩
   refine⟨_,rfl,?_⟩
   replace hI:=(hI.ext hx4)
   refine T ?_
   refine bc h et (fun hb h=> ?_) (fun hb h=> ?_)
   ·refine T ?_
    refine al ?_
    obtain rfl:=ac h
    exact QF hI
   refine T ?_
   refine al ?_
   obtain rfl:=ac h
   exact QF hI
  refine T ?_
  refine al ?_
  obtain rfl:=ac h
  exact QF hI
 refine T ?_
 refine bc h et (fun hb h=> ?_) (fun hb h=> ?_)
 ·exact cc (bi (decide (t1.Kind=1)) SB ⟨_,hI.arr GO SU,h⟩ rfl)
 refine T ?_
 refine bl ?_
 exact bi (decide (t1.Kind=3)) SB ⟨_,hI.arr GO SU,h⟩ rfl
theorem nG (F:NP) (w0:World) (hF:∀ k,F k→k<w0.heap.size) (s1:List UInt8) (sep1:List UInt8) (hc:AllCl [] F w0) (r:List UInt8×List UInt8×Bool)
  (h:fS s1 sep1=some r):
  Calls Tryz.prog 268 #[(aC s1),(aC sep1)] w0 fun e w=>e= .returned (Value.tuple #[(aC r.1),(aC r.2.1),vb r.2.2])∧Ext w0 w∧AllCl [] F w:=by
 refine aL Tryz.func268 rfl Tryz.ntmps268 rfl ?_
 have hI:=Bun.start hF hc
 clear hc
 rw[fS]at h
 refine T ?_
 refine aB (T ?_)
 obtain⟨r1,hx1,h⟩:=af h
 refine aE gn rfl (ag (vs:=[(aC s1),(aC sep1)]) rfl FM ⟨et,⟨et,trivial⟩⟩) (Calls.mono (m8 (Dj F d5) w0 hI.lt s1 sep1 trivial r1 hx1) ?_)
 rintro _ w1 ⟨rfl,hx2,hl1⟩
 refine⟨_,rfl,?_⟩
 replace hI:=(hI.ext hx2)
 refine T ?_
 refine bc h et (fun hb h=> ?_) (fun hb h=> ?_)
 ·refine aB (bx [] false (.c (0,.q) (.c (1,.q) (.c (2,.q) (.c (3,.q) (.c (4,.q) (.c (5,.q) (.c (6,.q) (.c (7,.q) (.c (8,.q) (.c (9,.q) (.c (10,.q) (.c (11,.q) .n)))))))))))) hI (by kernel_rfl) (by kernel_rfl) ?_)
  clear hI;intro w2 hI
  refine V ?_
  obtain⟨s2,hx3,h⟩:=af h
  refine vI ?_
  refine V ?_
  obtain⟨s3,hx4,h⟩:=af h
  refine vI ?_
  refine V ?_
  refine al ?_
  obtain rfl:=ac h
  exact QF hI
 refine T ?_
 refine al ?_
 obtain rfl:=ac h
 exact QF hI
theorem vE (F:NP) (w0:World) (hF:∀ k,F k→k<w0.heap.size) (s1:List UInt8) (sep1:List UInt8) (hc:AllCl [] F w0) (r:List UInt8×List UInt8×Bool)
  (h:ln s1 sep1=some r):
  Calls Tryz.prog 264 #[(aC s1),(aC sep1)] w0 fun e w=>e= .returned (Value.tuple #[(aC r.1),(aC r.2.1),vb r.2.2])∧Ext w0 w∧AllCl [] F w:=by
 refine aL Tryz.func264 rfl Tryz.ntmps264 rfl ?_
 have hI:=Bun.start hF hc
 clear hc
 rw[ln]at h
 refine T ?_
 obtain⟨r1,hx1,h⟩:=af h
 refine aE gn rfl (ag (vs:=[(aC s1),(aC sep1)]) rfl FP ⟨et,⟨et,trivial⟩⟩) (Calls.mono (nG (Dj F d5) w0 hI.lt s1 sep1 trivial r1 hx1) ?_)
 rintro _ w1 ⟨rfl,hx2,hl1⟩
 refine⟨_,rfl,?_⟩
 replace hI:=(hI.ext hx2)
 refine T ?_
 refine al ?_
 obtain rfl:=ac h
 exact QF hI
theorem mb (F:NP) (w0:World) (hF:∀ k,F k→k<w0.heap.size) (s1:List UInt8) (prefix1:List UInt8) (hc:AllCl [] F w0) (r:Bool)
  (h:dW s1 prefix1=some r):
  Calls Tryz.prog 272 #[(aC s1),(aC prefix1)] w0 fun e w=>e= .returned (vb r)∧Ext w0 w∧AllCl [] F w:=by
 refine aL Tryz.func272 rfl Tryz.ntmps272 rfl ?_
 have hI:=Bun.start hF hc
 clear hc
 rw[dW]at h
 refine T ?_
 obtain⟨s2,hx1,h⟩:=af h
 replace hx1:=aP hx1
 refine sJ ?_
 refine T ?_
 refine al ?_
 obtain rfl:=ac h
 exact QF hI
theorem mc (F:NP) (w0:World) (hF:∀ k,F k→k<w0.heap.size) (s1:List UInt8) (prefix1:List UInt8) (hc:AllCl [] F w0) (r:List UInt8×Bool)
  (h:dX s1 prefix1=some r):
  Calls Tryz.prog 269 #[(aC s1),(aC prefix1)] w0 fun e w=>e= .returned (Value.tuple #[(aC r.1),vb r.2])∧Ext w0 w∧AllCl [] F w:=by
 refine aL Tryz.func269 rfl Tryz.ntmps269 rfl ?_
 have hI:=Bun.start hF hc
 clear hc
 rw[dX]at h
 refine T ?_
 refine aB (T ?_)
 obtain⟨r1,hx1,h⟩:=af h
 refine aE gn rfl (ag (vs:=[(aC s1),(aC prefix1)]) rfl FL ⟨et,⟨et,trivial⟩⟩) (Calls.mono (mb (Dj F d5) w0 hI.lt s1 prefix1 trivial r1 hx1) ?_)
 rintro _ w1 ⟨rfl,hx2,hl1⟩
 refine⟨_,rfl,?_⟩
 replace hI:=(hI.ext hx2)
 refine T ?_
 refine bc h et (fun hb h=> ?_) (fun hb h=> ?_)
 ·refine T ?_
  refine al ?_
  obtain rfl:=ac h
  exact QF hI
 refine T ?_
 obtain⟨s2,hx3,h⟩:=af h
 refine sI ?_
 refine T ?_
 refine al ?_
 obtain rfl:=ac h
 exact QF hI
theorem qo (F:NP) (w0:World) (hF:∀ k,F k→k<w0.heap.size) (s1:List UInt8) (prefix1:List UInt8) (hc:AllCl [] F w0) (r:List UInt8×Bool)
  (h:hP s1 prefix1=some r):
  Calls Tryz.prog 265 #[(aC s1),(aC prefix1)] w0 fun e w=>e= .returned (Value.tuple #[(aC r.1),vb r.2])∧Ext w0 w∧AllCl [] F w:=by
 refine aL Tryz.func265 rfl Tryz.ntmps265 rfl ?_
 have hI:=Bun.start hF hc
 clear hc
 rw[hP]at h
 refine T ?_
 obtain⟨r1,hx1,h⟩:=af h
 refine aE gn rfl (ag (vs:=[(aC s1),(aC prefix1)]) rfl FO ⟨et,⟨et,trivial⟩⟩) (Calls.mono (mc (Dj F d5) w0 hI.lt s1 prefix1 trivial r1 hx1) ?_)
 rintro _ w1 ⟨rfl,hx2,hl1⟩
 refine⟨_,rfl,?_⟩
 replace hI:=(hI.ext hx2)
 refine T ?_
 refine al ?_
 obtain rfl:=ac h
 exact QF hI
theorem pV (F:NP) (w0:World) (hF:∀ k,F k→k<w0.heap.size) (s1:List UInt8) (hc:AllCl [] F w0) (r:Bool)
  (h:jH s1=some r):
  Calls Tryz.prog 266 #[(aC s1)] w0 fun e w=>e= .returned (vb r)∧Ext w0 w∧AllCl [] F w:=by
 refine aL Tryz.func266 rfl Tryz.ntmps266 rfl ?_
 have hI:=Bun.start hF hc
 clear hc
 rw[jH]at h
 refine T ?_
 refine du (α:=Unit) (fun _=>⟨31,[]⟩) (fun _=>[(0,(aC s1))]) (fun _=>fun w=>∃ C,Bun d5 F w0 C w [] []∧ji s1=some r) ?_ ?_
 ·clear h hI;rintro _ w1 ⟨c1,hI,h⟩
  try dsimp only at hI h
  rw[ji]at h
  refine bz (e:=[(0,(aC s1))]) ⟨rfl,trivial⟩ ?_
  refine T ?_
  obtain⟨b1,hx1,h⟩:=af h
  replace hx1:=aP hx1
  refine sJ ?_
  refine T ?_
  refine al ?_
  obtain rfl:=ac h
  exact QF hI
 refine T ?_
 refine cO (α:=Nat×Int) (fun x=>fun w=>∃ C,Bun d5 F w0 C w [] []∧gS s1 (x.1) (x.2)=some r) (fun x _=>x.1) (fun x=>[(0,(aC s1)),(3,vi (x.2))]) (fu,0) ⟨_,hI.arr .n trivial,h⟩ SB ?_
 clear h hI;rintro⟨fuel1,i1⟩ w2 ⟨c2,hI,h⟩
 dsimp only at hI h
 rcases fuel1 with _ | fuel1
 ·rw[gS]at h;cases h
 rw[gS]at h
 refine bz (e:=[(0,(aC s1)),(3,vi i1)]) SB ?_
 refine aB (T ?_)
 refine bc h et (fun hb h=> ?_) (fun hb h=> ?_)
 ·refine T ?_
  refine aB (T ?_)
  obtain⟨b2,hx2,h⟩:=af h
  refine sI ?_
  refine T ?_
  obtain⟨b3,hx3,h⟩:=af h
  replace hx3:=aP hx3
  refine sJ ?_
  refine T ?_
  refine bc h et (fun hb h=> ?_) (fun hb h=> ?_)
  ·refine T ?_
   refine al ?_
   obtain rfl:=ac h
   exact QF hI
  refine T ?_
  refine bl ?_
  exact cg (fuel1,az (i1+1)) SB ⟨_,hI.arr GO SU,h⟩ (Nat.lt_succ_self _)
 refine dv ?_
 refine kb ?_
 exact bi () ⟨rfl,trivial⟩ ⟨_,hI.arr GO SU,h⟩ rfl
theorem pW (F:NP) (w0:World) (hF:∀ k,F k→k<w0.heap.size) (s1:List UInt8) (hc:AllCl [] F w0) (r:Int×Bool)
  (h:jI s1=some r):
  Calls Tryz.prog 267 #[(aC s1)] w0 fun e w=>e= .returned (Value.tuple #[vi r.1,vb r.2])∧Ext w0 w∧AllCl [] F w:=by
 refine aL Tryz.func267 rfl Tryz.ntmps267 rfl ?_
 have hI:=Bun.start hF hc
 clear hc
 rw[jI]at h
 refine T ?_
 refine aB (T ?_)
 refine bc h et (fun hb h=> ?_) (fun hb h=> ?_)
 ·refine T ?_
  refine al ?_
  obtain rfl:=ac h
  exact QF hI
 refine T ?_
 obtain⟨r1,hx1,h⟩:=af h
 refine aE gn rfl (ag (vs:=[(aC s1),vi 10,vi 64]) rfl FN ⟨et,⟨ai,⟨ai,trivial⟩⟩⟩) (Calls.mono (qY (Dj F d5) w0 hI.lt s1 10 64 trivial r1 hx1) ?_)
 rintro _ w1 ⟨v1,rfl,hx2,hl1⟩
 refine⟨_,rfl,?_⟩
 replace hI:=(hI.ext hx2)
 refine T ?_
 refine al ?_
 obtain rfl:=ac h
 exact QF hI
theorem vj (F:NP) (w0:World) (hF:∀ k,F k→k<w0.heap.size) (n1:Int) (hc:AllCl [] F w0) (r:Bool)
  (h:kL n1=some r):
  Calls Tryz.prog 233 #[vi n1] w0 fun e w=>e= .returned (vb r)∧Ext w0 w∧AllCl [] F w:=by
 refine aL Tryz.func233 rfl Tryz.ntmps233 rfl ?_
 have hI:=Bun.start hF hc
 clear hc
 rw[kL]at h
 refine T ?_
 refine al ?_
 obtain rfl:=ac h
 exact QF hI
theorem sC (F:NP) (w0:World) (hF:∀ k,F k→k<w0.heap.size) (n1:Int) (hc:AllCl [] F w0) (r:Int)
  (h:jG n1=some r):
  Calls Tryz.prog 235 #[vi n1] w0 fun e w=>e= .returned (Value.int .u64 r)∧Ext w0 w∧AllCl [] F w:=by
 refine aL Tryz.func235 rfl Tryz.ntmps235 rfl ?_
 have hI:=Bun.start hF hc
 clear hc
 rw[jG]at h
 refine T ?_
 refine aB (T ?_)
 refine bc h et (fun hb h=> ?_) (fun hb h=> ?_)
 ·refine T ?_
  refine al ?_
  obtain rfl:=ac h
  exact QF hI
 refine T ?_
 refine al ?_
 obtain rfl:=ac h
 exact QF hI
theorem Ad (F:NP) (w0:World) (hF:∀ k,F k→k<w0.heap.size) (a1:Int) (b1:Int) (hc:AllCl [] F w0) (r:Int)
  (h:oW a1 b1=some r):
  Calls Tryz.prog 234 #[(Value.int .u64 a1),(Value.int .u64 b1)] w0 fun e w=>e= .returned (Value.int .u64 r)∧Ext w0 w∧AllCl [] F w:=by
 refine aL Tryz.func234 rfl Tryz.ntmps234 rfl ?_
 have hI:=Bun.start hF hc
 clear hc
 rw[oW]at h
 refine T ?_
 refine aB (T ?_)
 refine cO (α:=Nat×Int×Int) (fun x=>fun w=>∃ C,Bun d5 F w0 C w [] []∧kh (x.1) (x.2.1) (x.2.2)=some r) (fun x _=>x.1) (fun x=>[(0,(Value.int .u64 (x.2.1))),(1,(Value.int .u64 (x.2.2)))]) (fu,a1,b1) ⟨_,hI.arr .n trivial,h⟩ SB ?_
 clear h hI;rintro⟨fuel1,a2,b2⟩ w1 ⟨c1,hI,h⟩
 dsimp only at hI h
 rcases fuel1 with _ | fuel1
 ·rw[kh]at h;cases h
 rw[kh]at h
 refine bz (e:=[(0,(Value.int .u64 a2)),(1,(Value.int .u64 b2))]) SB ?_
 refine aB (T ?_)
 refine bc h et (fun hb h=> ?_) (fun hb h=> ?_)
 ·refine T ?_
  refine bx [] false (.c (0,.q) (.c (1,.q) (.c (2,.q) (.c (3,.q) (.c (4,.q) (.c (5,.q) .n)))))) hI (by kernel_rfl) (by kernel_rfl) ?_
  clear hI;intro w2 hI
  refine V ?_
  obtain⟨ho1,h⟩:=ic h
  refine pt rfl gn rfl (fun w'=>EE rfl et et ho1) ?_
  refine V ?_
  refine pu ?_
  exact cg (fuel1,b2,Int.tmod a2 b2) SB ⟨_,hI.arr GO SU,h⟩ (Nat.lt_succ_self _)
 refine dv ?_
 refine kb ?_
 refine cA ?_
 refine T ?_
 refine al ?_
 obtain rfl:=ac h
 exact QF hI
theorem rK (F:NP) (w0:World) (hF:∀ k,F k→k<w0.heap.size) (v1:GVal) (hc:AllCl [] F w0) (r:Bool)
  (h:k9 v1=some r):
  Calls Tryz.prog 207 #[(Value.agg (oM v1))] w0 fun e w=>e= .returned (vb r)∧Ext w0 w∧AllCl [] F w:=by
 refine aL Tryz.func207 rfl Tryz.ntmps207 rfl ?_
 have hI:=Bun.start hF hc
 clear hc
 rw[k9]at h
 refine sr (fU (v:=(Value.agg (oM v1))) (cs:=(oM v1)) hI gn rfl rfl et rfl ?_)
 clear hI;intro b1 c1 w1 hI
 obtain⟨c2,hI⟩:=hI.relBox .z
 refine T ?_
 refine aB (bx [] false (.c (0,.q) (.c (1,.q) (.c (2,.q) (.c (3,.q) (.c (4,.q) (.c (5,.q) (.c (6,.q) (.c (7,.q) (.c (8,.q) (.c (9,.q) (.c (10,.q) (.c (11,.s) (.c (12,.q) (.c (13,.q) (.c (14,.q) (.c (15,.q) (.c (17,.q) (.c (18,.q) (.c (19,.q) (.c (16,.s) (.c (20,.s) (.c (21,.q) (.c (22,.q) (.c (23,.q) .n)))))))))))))))))))))))) hI (by kernel_rfl) (by kernel_rfl) ?_)
 clear hI;intro w2 hI
 refine V ?_
 obtain⟨r1,hx1,h⟩:=af h
 replace hx1:=aP hx1
 refine mx (v:=(vb r1)) rfl (bE rfl rfl rfl rfl) rfl (fun hc=>(ag (vs:=[vi v1.N]) rfl F4 ⟨(bg et hc),trivial⟩)) (fun hc=>(vj (Dj F c2) w2 hI.lt v1.N trivial r1 (hx1 hc)).mono fun _ _ k=>⟨k.1,k.2.1⟩) ?_
 intro w3 hx2;replace hI:=hI.ext hx2
 refine V ?_
 obtain⟨r2,hx3,h⟩:=af h
 replace hx3:=aP hx3
 refine mx (v:=(Value.int .u64 r2)) rfl (bE rfl rfl rfl rfl) rfl (fun hc=>(ag (vs:=[vi v1.N]) rfl F2 ⟨(bg et hc),trivial⟩)) (fun hc=>(sC (Dj F c2) w3 hI.lt v1.N trivial r2 (hx3 hc)).mono fun _ _ k=>⟨k.1,k.2.1⟩) ?_
 intro w4 hx4;replace hI:=hI.ext hx4
 obtain⟨r3,hx5,h⟩:=af h
 replace hx5:=aP hx5
 refine mx (v:=(Value.int .u64 r3)) rfl (bE rfl rfl rfl rfl) rfl (fun hc=>(ag (vs:=[(Value.int .u64 r2),(Value.int .u64 (iK v1.D))]) rfl F3 ⟨(bg et hc),⟨(bg et hc),trivial⟩⟩)) (fun hc=>(Ad (Dj F c2) w4 hI.lt r2 (iK v1.D) trivial r3 (hx5 hc)).mono fun _ _ k=>⟨k.1,k.2.1⟩) ?_
 intro w5 hx6;replace hI:=hI.ext hx6
 refine V ?_
 refine al ?_
 obtain rfl:=ac h
 exact QF hI
theorem xv (F:NP) (w0:World) (hF:∀ k,F k→k<w0.heap.size) (s1:List UInt8) (hc:AllCl [] F w0) (r:GVal×Int)
  (h:lY s1=some r):
  Calls Tryz.prog 263 #[(aC s1)] w0 fun e w=>e= .returned (Value.tuple #[(Value.agg (oM r.1)),vi r.2])∧Ext w0 w∧AllCl [] F w:=by
 refine aL Tryz.func263 rfl Tryz.ntmps263 rfl ?_
 have hI:=Bun.start hF hc
 clear hc
 rw[lY]at h
 refine sr (aN (cs:=#[vi 0,vi 0]) hI gn rfl rfl rf rfl ?_)
 clear hI;intro b1 c1 w1 hI
 refine T ?_
 obtain⟨r1,hx1,h⟩:=af h
 refine aE gn rfl (ag (vs:=[(aC s1),(aC ([47]:List UInt8))]) rfl FR ⟨et,⟨ai,trivial⟩⟩) (Calls.mono (vE (Dj F c1) w1 hI.lt s1 ([47]:List UInt8) trivial r1 hx1) ?_)
 rintro _ w2 ⟨rfl,hx2,hl1⟩
 refine⟨_,rfl,?_⟩
 replace hI:=(hI.ext hx2)
 refine T ?_
 obtain⟨r2,hx3,h⟩:=af h
 refine aE gn rfl (ag (vs:=[(aC r1.1),(aC ([45]:List UInt8))]) rfl FQ ⟨et,⟨ai,trivial⟩⟩) (Calls.mono (qo (Dj F c1) w2 hI.lt r1.1 ([45]:List UInt8) trivial r2 hx3) ?_)
 rintro _ w3 ⟨rfl,hx4,hl2⟩
 refine⟨_,rfl,?_⟩
 replace hI:=(hI.ext hx4)
 refine T ?_
 refine aB (T ?_)
 obtain⟨r3,hx5,h⟩:=af h
 refine aE gn rfl (ag (vs:=[(aC r2.1)]) rfl CI ⟨et,trivial⟩) (Calls.mono (pV (Dj F c1) w3 hI.lt r2.1 trivial r3 hx5) ?_)
 rintro _ w4 ⟨rfl,hx6,hl3⟩
 refine⟨_,rfl,?_⟩
 replace hI:=(hI.ext hx6)
 refine T ?_
 refine bc h et (fun hb h=> ?_) (fun hb h=> ?_)
 ·refine sr (sq (aV (vs:=[]) (cs:=#[vi 0,vi 0]) rfl trivial (by kernel_rfl)) ?_)
  refine ay (new:=[vi 0,vi 0]) (cs':=#[vi 0,vi 0]) hI .z gn rfl rfl et et rfl fH rfl rfl rfl ?_
  clear hI;intro c2 w5 hI
  refine T ?_
  refine al ?_
  obtain rfl:=ac h
  refine QG ?_
  exact fq hI trivial
 refine T ?_
 refine du (α:=(List UInt8)) (fun _=>⟨78,[]⟩) (fun x=>[(2,vp b1 0),(5,(aC x)),(7,(aC r2.1)),(8,vb r2.2)]) (fun x=>fun w=>∃ C,Bun d5 F w0 C w [MO.box b1 33 #[vi 0,vi 0]] []∧i7 r2 x=some r) ?_ ?_
 ·clear h hI;rintro bottom1 w6 ⟨c3,hI,h⟩
  try dsimp only at hI h
  rw[i7]at h
  refine bz (e:=[(2,vp b1 0),(5,(aC bottom1)),(7,(aC r2.1)),(8,vb r2.2)]) SB ?_
  refine T ?_
  obtain⟨r4,hx7,h⟩:=af h
  refine aE gn rfl (ag (vs:=[(aC r2.1)]) rfl CH ⟨et,trivial⟩) (Calls.mono (pW (Dj F c3) w6 hI.lt r2.1 trivial r4 hx7) ?_)
  rintro _ w7 ⟨rfl,hx8,hl4⟩
  refine⟨_,rfl,?_⟩
  replace hI:=(hI.ext hx8)
  refine T ?_
  obtain⟨r5,hx9,h⟩:=af h
  refine aE gn rfl (ag (vs:=[(aC bottom1)]) rfl CH ⟨et,trivial⟩) (Calls.mono (pW (Dj F c3) w7 hI.lt bottom1 trivial r5 hx9) ?_)
  rintro _ w8 ⟨rfl,hx10,hl5⟩
  refine⟨_,rfl,?_⟩
  replace hI:=(hI.ext hx10)
  refine T ?_
  refine aB (T ?_)
  refine bc h et (fun hb h=> ?_) (fun hb h=> ?_)
  ·refine sr (sq (aV (vs:=[]) (cs:=#[vi 0,vi 0]) rfl trivial (by kernel_rfl)) ?_)
   refine ay (new:=[vi 0,vi 0]) (cs':=#[vi 0,vi 0]) hI .z gn rfl rfl et et rfl fH rfl rfl rfl ?_
   clear hI;intro c4 w9 hI
   refine T ?_
   refine al ?_
   obtain rfl:=ac h
   refine QG ?_
   exact fq hI trivial
  refine T ?_
  refine du (α:=Int) (fun _=>⟨78,[]⟩) (fun x=>[(2,vp b1 0),(9,vi x),(11,vi r5.1)]) (fun x=>fun w=>∃ C,Bun d5 F w0 C w [MO.box b1 33 #[vi 0,vi 0]] []∧j9 r5 x=some r) ?_ ?_
  ·clear h hI;rintro n1 w10 ⟨c5,hI,h⟩
   try dsimp only at hI h
   rw[j9]at h
   refine bz (e:=[(2,vp b1 0),(9,vi n1),(11,vi r5.1)]) SB ?_
   refine T ?_
   refine sq (aV (vs:=[(0,vi n1),(1,vi r5.1)]) (cs:=#[vi n1,vi r5.1]) rfl ⟨rfl,et,⟨rfl,et,trivial⟩⟩ (by kernel_rfl)) ?_
   refine aN (cs:=#[vi 0,vi 0]) hI gn rfl rfl rf rfl ?_
   clear hI;intro b2 c6 w11 hI
   refine ay (new:=[vi n1,vi r5.1]) (cs':=#[vi n1,vi r5.1]) hI .z gn rfl rfl et et rfl fH rfl rfl rfl ?_
   clear hI;intro c7 w12 hI
   refine nk (aB (T ?_))
   obtain⟨r6,hx11,h⟩:=af h
   refine aE gn rfl (ag (vs:=[(Value.agg #[vi n1,vi r5.1])]) rfl CN ⟨et,trivial⟩) (Calls.mono (rK (Dj F c7) w12 hI.lt (⟨n1,r5.1⟩:GVal) trivial r6 hx11) ?_)
   rintro _ w13 ⟨rfl,hx12,hl6⟩
   refine⟨_,rfl,?_⟩
   replace hI:=(hI.ext hx12)
   refine T ?_
   refine bc h et (fun hb h=> ?_) (fun hb h=> ?_)
   ·refine sr (sq (aV (vs:=[]) (cs:=#[vi 0,vi 0]) rfl trivial (by kernel_rfl)) ?_)
    refine ay (new:=[vi 0,vi 0]) (cs':=#[vi 0,vi 0]) hI (.s .z) gn rfl rfl et et rfl fH rfl rfl rfl ?_
    clear hI;intro c8 w14 hI
    refine T ?_
    refine al ?_
    obtain rfl:=ac h
    refine QG ?_
    exact fq hI trivial
   refine T ?_
   refine ay (new:=[vi n1,vi r5.1]) (cs':=#[vi n1,vi r5.1]) hI (.s .z) gn rfl rfl et et rfl fH rfl rfl rfl ?_
   clear hI;intro c9 w15 hI
   refine T ?_
   refine al ?_
   obtain rfl:=ac h
   refine QG ?_
   exact fq hI trivial
  refine T ?_
  refine bc h et (fun hb h=> ?_) (fun hb h=> ?_)
  ·refine T ?_
   refine bl ?_
   exact bi (az (-r4.1)) SB ⟨_,hI.arr GO SU,h⟩ rfl
  exact cc (bi r4.1 SB ⟨_,hI.arr GO SU,h⟩ rfl)
 refine T ?_
 refine bc h et (fun hb h=> ?_) (fun hb h=> ?_)
 ·refine T ?_
  refine bl ?_
  exact bi ([49]:List UInt8) SB ⟨_,hI.arr GO SU,h⟩ rfl
 refine T ?_
 obtain⟨r7,hx13,h⟩:=af h
 refine aE gn rfl (ag (vs:=[(aC r1.2.1)]) rfl CI ⟨et,trivial⟩) (Calls.mono (pV (Dj F c1) w4 hI.lt r1.2.1 trivial r7 hx13) ?_)
 rintro _ w16 ⟨rfl,hx14,hl7⟩
 refine⟨_,rfl,?_⟩
 replace hI:=(hI.ext hx14)
 refine T ?_
 refine bc h et (fun hb h=> ?_) (fun hb h=> ?_)
 ·refine sr (sq (aV (vs:=[]) (cs:=#[vi 0,vi 0]) rfl trivial (by kernel_rfl)) ?_)
  refine ay (new:=[vi 0,vi 0]) (cs':=#[vi 0,vi 0]) hI .z gn rfl rfl et et rfl fH rfl rfl rfl ?_
  clear hI;intro c10 w17 hI
  refine T ?_
  refine al ?_
  obtain rfl:=ac h
  refine QG ?_
  exact fq hI trivial
 exact cc (bi r1.2.1 SB ⟨_,hI.arr GO SU,h⟩ rfl)
theorem qB (F:NP) (w0:World) (hF:∀ k,F k→k<w0.heap.size) (bits1:Int) (hc:AllCl [] F w0) (r:Bool)
  (h:ke bits1=some r):
  Calls Tryz.prog 243 #[vi bits1] w0 fun e w=>e= .returned (vb r)∧Ext w0 w∧AllCl [] F w:=by
 refine aL Tryz.func243 rfl Tryz.ntmps243 rfl ?_
 have hI:=Bun.start hF hc
 clear hc
 rw[ke]at h
 refine T ?_
 refine al ?_
 obtain rfl:=ac h
 exact QF hI
theorem va (F:NP) (w0:World) (hF:∀ k,F k→k<w0.heap.size) (bits1:Int) (hc:AllCl [] F w0) (r:Int)
  (h:kC bits1=some r):
  Calls Tryz.prog 231 #[vi bits1] w0 fun e w=>e= .returned (vi r)∧Ext w0 w∧AllCl [] F w:=by
 refine aL Tryz.func231 rfl Tryz.ntmps231 rfl ?_
 have hI:=Bun.start hF hc
 clear hc
 rw[kC]at h
 refine T ?_
 refine aB (T ?_)
 obtain⟨r1,hx1,h⟩:=af h
 refine aE gn rfl (ag (vs:=[vi bits1]) rfl CJ ⟨et,trivial⟩) (Calls.mono (qB (Dj F d5) w0 hI.lt bits1 trivial r1 hx1) ?_)
 rintro _ w1 ⟨rfl,hx2,hl1⟩
 refine⟨_,rfl,?_⟩
 replace hI:=(hI.ext hx2)
 refine T ?_
 refine bc h et (fun hb h=> ?_) (fun hb h=> ?_)
 ·refine T ?_
  refine al ?_
  obtain rfl:=ac h
  exact QF hI
 refine T ?_
 obtain⟨ho1,h⟩:=ic h
 refine sq (BR rfl ai et ho1) ?_
 refine T ?_
 refine al ?_
 obtain rfl:=ac h
 exact QF hI
theorem vc (F:NP) (w0:World) (hF:∀ k,F k→k<w0.heap.size) (bits1:Int) (hc:AllCl [] F w0) (r:Int)
  (h:kD bits1=some r):
  Calls Tryz.prog 232 #[vi bits1] w0 fun e w=>e= .returned (vi r)∧Ext w0 w∧AllCl [] F w:=by
 refine aL Tryz.func232 rfl Tryz.ntmps232 rfl ?_
 have hI:=Bun.start hF hc
 clear hc
 rw[kD]at h
 refine T ?_
 refine aB (T ?_)
 obtain⟨r1,hx1,h⟩:=af h
 refine aE gn rfl (ag (vs:=[vi bits1]) rfl CJ ⟨et,trivial⟩) (Calls.mono (qB (Dj F d5) w0 hI.lt bits1 trivial r1 hx1) ?_)
 rintro _ w1 ⟨rfl,hx2,hl1⟩
 refine⟨_,rfl,?_⟩
 replace hI:=(hI.ext hx2)
 refine T ?_
 refine bc h et (fun hb h=> ?_) (fun hb h=> ?_)
 ·refine T ?_
  refine al ?_
  obtain rfl:=ac h
  exact QF hI
 refine T ?_
 obtain⟨ho1,h⟩:=ic h
 refine sq (BR rfl ai et ho1) ?_
 refine T ?_
 refine al ?_
 obtain rfl:=ac h
 exact QF hI
theorem qD (F:NP) (w0:World) (hF:∀ k,F k→k<w0.heap.size) (t1:GType) (v1:GVal) (hc:AllCl [] F w0) (r:Bool)
  (h:ki t1 v1=some r):
  Calls Tryz.prog 205 #[(Value.agg (cv t1)),(Value.agg (oM v1))] w0 fun e w=>e= .returned (vb r)∧Ext w0 w∧AllCl [] F w:=by
 refine aL Tryz.func205 rfl Tryz.ntmps205 rfl ?_
 have hI:=Bun.start hF hc
 clear hc
 rw[ki]at h
 refine sr (fU (v:=(Value.agg (cv t1))) (cs:=(cv t1)) hI gn rfl rfl et rfl ?_)
 clear hI;intro b1 c1 w1 hI
 obtain⟨c2,hI⟩:=hI.relBox .z
 refine fU (v:=(Value.agg (oM v1))) (cs:=(oM v1)) hI gn rfl rfl et rfl ?_
 clear hI;intro b2 c3 w2 hI
 obtain⟨c4,hI⟩:=hI.relBox .z
 refine T ?_
 refine aB (bx [] false (.c (0,.q) (.c (1,.s) (.c (2,.q) (.c (3,.q) (.c (4,.q) (.c (5,.q) (.c (6,.q) (.c (7,.q) (.c (8,.q) (.c (9,.q) (.c (10,.q) (.c (11,.q) (.c (12,.q) (.c (13,.s) (.c (14,.q) (.c (15,.q) (.c (16,.q) (.c (17,.q) (.c (18,.q) (.c (19,.q) (.c (20,.q) (.c (21,.s) (.c (22,.q) (.c (23,.q) (.c (24,.q) .n))))))))))))))))))))))))) hI (by kernel_rfl) (by kernel_rfl) ?_)
 clear hI;intro w3 hI
 refine me rfl gn rfl (fun w' hw'=>(aJ (l:=(gz t1)) rfl et tj rfl d4 ((hI.kblk (l:=(gz t1)) (.s .z) rfl).at_ (SX.any rfl hw')))) (by kernel_rfl) ?_
 obtain⟨r1,hx1,h⟩:=af h
 refine l8 rfl gn rfl (ag (vs:=[(Value.agg (cv t1))]) rfl CK ⟨et,trivial⟩) (Calls.mono (mY (Dj F c4) w3 hI.lt t1 trivial r1 hx1) ?_)
 rintro _ w4 ⟨rfl,hx2,hl1⟩
 refine⟨_,rfl,hx2,?_⟩
 replace hI:=(hI.ext hx2)
 refine V ?_
 obtain⟨r2,hx3,h⟩:=af h
 replace hx3:=aP hx3
 refine mx (v:=(vi r2)) rfl (bE rfl rfl rfl rfl) rfl (fun hc=>(ag (vs:=[vi t1.Bits]) rfl F6 ⟨(bg et hc),trivial⟩)) (fun hc=>(va (Dj F c4) w4 hI.lt t1.Bits trivial r2 (hx3 hc)).mono fun _ _ k=>⟨k.1,k.2.1⟩) ?_
 intro w5 hx4;replace hI:=hI.ext hx4
 refine V ?_
 obtain⟨r3,hx5,h⟩:=af h
 replace hx5:=aP hx5
 refine mx (v:=(vi r3)) rfl (bE rfl rfl rfl rfl) rfl (fun hc=>(ag (vs:=[vi t1.Bits]) rfl F5 ⟨(bg et hc),trivial⟩)) (fun hc=>(vc (Dj F c4) w5 hI.lt t1.Bits trivial r3 (hx5 hc)).mono fun _ _ k=>⟨k.1,k.2.1⟩) ?_
 intro w6 hx6;replace hI:=hI.ext hx6
 refine V ?_
 refine al ?_
 obtain rfl:=ac h
 exact QF hI
theorem vD (F:NP) (w0:World) (hF:∀ k,F k→k<w0.heap.size) (t1:GType) (s1:List UInt8) (hc:AllCl [] F w0) (r:GVal×Int)
  (h:lm t1 s1=some r):
  Calls Tryz.prog 260 #[(Value.agg (cv t1)),(aC s1)] w0 fun e w=>e= .returned (Value.tuple #[(Value.agg (oM r.1)),vi r.2])∧Ext w0 w∧AllCl [] F w:=by
 refine aL Tryz.func260 rfl Tryz.ntmps260 rfl ?_
 have hI:=Bun.start hF hc
 clear hc
 rw[lm]at h
 refine sr (fU (v:=(Value.agg (cv t1))) (cs:=(cv t1)) hI gn rfl rfl et rfl ?_)
 clear hI;intro b1 c1 w1 hI
 obtain⟨c2,hI⟩:=hI.relBox .z
 refine aN (cs:=#[vi 0,vi 0]) hI gn rfl rfl rf rfl ?_
 clear hI;intro b2 c3 w2 hI
 refine T ?_
 refine aB (sr (sq (aJ (l:=(gz t1)) rfl et tj rfl d4 (hI.kblk (l:=(gz t1)) .z rfl).1) ?_))
 obtain⟨r1,hx1,h⟩:=af h
 refine aE gn rfl (ag (vs:=[(Value.agg (cv t1))]) rfl wQ ⟨et,trivial⟩) (Calls.mono (jk (Dj F c3) w2 hI.lt t1 trivial r1 hx1) ?_)
 rintro _ w3 ⟨rfl,hx2,hl1⟩
 refine⟨_,rfl,?_⟩
 replace hI:=(hI.ext hx2)
 refine T ?_
 refine bc h et (fun hb h=> ?_) (fun hb h=> ?_)
 ·refine sr (sq (aV (vs:=[]) (cs:=#[vi 0,vi 0]) rfl trivial (by kernel_rfl)) ?_)
  refine ay (new:=[vi 0,vi 0]) (cs':=#[vi 0,vi 0]) hI .z gn rfl rfl et et rfl fH rfl rfl rfl ?_
  clear hI;intro c4 w4 hI
  refine T ?_
  refine al ?_
  obtain rfl:=ac h
  refine QG ?_
  exact fq hI trivial
 refine T ?_
 obtain⟨r2,hx3,h⟩:=af h
 refine aE gn rfl (ag (vs:=[(aC s1)]) rfl FS ⟨et,trivial⟩) (Calls.mono (xv (Dj F c3) w3 hI.lt s1 trivial r2 hx3) ?_)
 rintro _ w5 ⟨rfl,hx4,hl2⟩
 refine⟨_,rfl,?_⟩
 replace hI:=(hI.ext hx4)
 refine T ?_
 refine aN (cs:=#[vi 0,vi 0]) hI gn rfl rfl rf rfl ?_
 clear hI;intro b3 c5 w6 hI
 refine ay (new:=(qn r2.1)) (cs':=(oM r2.1)) hI .z gn rfl rfl et et rfl fH rfl rfl rfl ?_
 clear hI;intro c6 w7 hI
 refine T ?_
 refine aB (T ?_)
 refine bc h et (fun hb h=> ?_) (fun hb h=> ?_)
 ·refine sr (sq (aV (vs:=[]) (cs:=#[vi 0,vi 0]) rfl trivial (by kernel_rfl)) ?_)
  refine sm ?_
  refine ay (new:=[vi 0,vi 0]) (cs':=#[vi 0,vi 0]) hI (.s .z) gn rfl rfl et et rfl fH rfl rfl rfl ?_
  clear hI;intro c7 w8 hI
  refine T ?_
  refine al ?_
  obtain rfl:=ac h
  refine QG ?_
  exact fq hI trivial
 refine T ?_
 refine aB (T ?_)
 refine bc h et (fun hb h=> ?_) (fun hb h=> ?_)
 ·refine T ?_
  refine bc h et (fun hb h=> ?_) (fun hb h=> ?_)
  ·refine sr (sq (aV (vs:=[]) (cs:=#[vi 0,vi 0]) rfl trivial (by kernel_rfl)) ?_)
   refine ay (new:=[vi 0,vi 0]) (cs':=#[vi 0,vi 0]) hI (.s .z) gn rfl rfl et et rfl fH rfl rfl rfl ?_
   clear hI;intro c8 w9 hI
   refine T ?_
   refine al ?_
   obtain rfl:=ac h
   refine QG ?_
   exact fq hI trivial
  refine T ?_
  refine ay (new:=(qn r2.1)) (cs':=(oM r2.1)) hI (.s .z) gn rfl rfl et et rfl fH rfl rfl rfl ?_
  clear hI;intro c9 w10 hI
  refine T ?_
  refine al ?_
  obtain rfl:=ac h
  refine QG ?_
  exact fq hI trivial
 refine T ?_
 refine bc h et (fun hb h=> ?_) (fun hb h=> ?_)
 ·refine T ?_
  obtain⟨ho1,h⟩:=ic h
  refine sq (BR rfl ai et ho1) ?_
  obtain⟨one1,hx5,h⟩:=af h
  refine sq (vU (dN rfl et) (congrArg (Value.int .i64) (ac hx5))) ?_
  refine nk (aB (T ?_))
  obtain⟨ho2,h⟩:=ic h
  refine sq (EE rfl et et ho2) ?_
  refine T ?_
  refine bc h et (fun hb h=> ?_) (fun hb h=> ?_)
  ·refine sr (sq (aV (vs:=[]) (cs:=#[vi 0,vi 0]) rfl trivial (by kernel_rfl)) ?_)
   refine ay (new:=[vi 0,vi 0]) (cs':=#[vi 0,vi 0]) hI (.s .z) gn rfl rfl et et rfl fH rfl rfl rfl ?_
   clear hI;intro c10 w11 hI
   refine T ?_
   refine al ?_
   obtain rfl:=ac h
   refine QG ?_
   exact fq hI trivial
  refine T ?_
  refine aB (bx [8] false (.c (0,.q) (.c (1,.q) (.c (2,.q) (.c (3,.q) (.c (4,.q) (.c (5,.q) (.c (6,.q) (.c (7,.q) (.c (8,.s) .n))))))))) hI (by kernel_rfl) (by kernel_rfl) ?_)
  clear hI;intro w12 hI
  refine V ?_
  refine pt rfl gn rfl (fun w'=>EF rfl et et ho2) ?_
  refine V ?_
  refine pt rfl gn rfl (fun w'=>(aV (vs:=[(0,(vi (az (r2.1.N * (az (Int.tdiv one1 r2.1.D)))))),(1,vi 1)]) (cs:=#[(vi (az (r2.1.N * (az (Int.tdiv one1 r2.1.D))))),vi 1]) rfl ⟨rfl,et,⟨rfl,ai,trivial⟩⟩ (by kernel_rfl))) ?_
  refine hO (F:=F) (C:=c6) rfl rfl ?_
  refine fT (new:=[(vi (az (r2.1.N * (az (Int.tdiv one1 r2.1.D))))),vi 1]) (cs':=#[(vi (az (r2.1.N * (az (Int.tdiv one1 r2.1.D))))),vi 1]) hI .z rfl gn rfl rfl et et rfl fH rfl rfl rfl ?_
  clear hI;intro c11 w13 hI
  refine V ?_
  refine sr (sq (aJ (l:=(gz t1)) rfl et tj rfl d4 (hI.kblk (l:=(gz t1)) .z rfl).1) ?_)
  refine T ?_
  obtain⟨r3,hx6,h⟩:=af h
  refine aE gn rfl (ag (vs:=[(Value.agg (cv t1)),(Value.agg #[(vi (az (r2.1.N * (az (Int.tdiv one1 r2.1.D))))),vi 1])]) rfl CO ⟨et,⟨et,trivial⟩⟩) (Calls.mono (qD (Dj F c11) w13 hI.lt t1 (⟨az (r2.1.N * (az (Int.tdiv one1 r2.1.D))),1⟩:GVal) trivial r3 hx6) ?_)
  rintro _ w14 ⟨rfl,hx7,hl3⟩
  refine⟨_,rfl,?_⟩
  replace hI:=(hI.ext hx7)
  refine T ?_
  refine bc h et (fun hb h=> ?_) (fun hb h=> ?_)
  ·refine sr (sq (aV (vs:=[]) (cs:=#[vi 0,vi 0]) rfl trivial (by kernel_rfl)) ?_)
   refine ay (new:=[vi 0,vi 0]) (cs':=#[vi 0,vi 0]) hI (.s .z) gn rfl rfl et et rfl fH rfl rfl rfl ?_
   clear hI;intro c12 w15 hI
   refine T ?_
   refine al ?_
   obtain rfl:=ac h
   refine QG ?_
   exact fq hI trivial
  refine T ?_
  refine ay (new:=[(vi (az (r2.1.N * (az (Int.tdiv one1 r2.1.D))))),vi 1]) (cs':=#[(vi (az (r2.1.N * (az (Int.tdiv one1 r2.1.D))))),vi 1]) hI (.s .z) gn rfl rfl et et rfl fH rfl rfl rfl ?_
  clear hI;intro c13 w16 hI
  refine T ?_
  refine al ?_
  obtain rfl:=ac h
  refine QG ?_
  exact fq hI trivial
 refine T ?_
 refine ay (new:=(qn r2.1)) (cs':=(oM r2.1)) hI (.s .z) gn rfl rfl et et rfl fH rfl rfl rfl ?_
 clear hI;intro c14 w17 hI
 refine T ?_
 refine al ?_
 obtain rfl:=ac h
 refine QG ?_
 exact fq hI trivial
theorem vm (rec_:(GExpr→Int→Option Int)) (hrec:∀ (F:NP) (w0:World) (hF:∀ k,F k→k<w0.heap.size) (e1:GExpr) (limit1:Int) (a1:Option Addr) (c1:Nat) (a2:Option Addr) (c2:Nat) (a3:Option Addr) (c3:Nat) (hc:AllCl [Cl.sl aj a1 c1 e1.Lin.L,Cl.sl ak a2 c2 e1.Idx,Cl.sl au a3 c3 e1.Args] F w0) (r:Int) (h:rec_ e1 limit1=some r),Calls Tryz.prog 141 #[(Value.agg (am e1 a1 c1 a2 c2 a3 c3)),vi limit1] w0 fun e w=>e= .returned (vi r)∧Ext w0 w∧AllCl [] F w)
  (F:NP) (w0:World) (hF:∀ k,F k→k<w0.heap.size) (e1:GExpr) (limit1:Int) (a1:Option Addr) (c1:Nat) (a2:Option Addr) (c2:Nat) (a3:Option Addr) (c3:Nat) (hc:AllCl [Cl.sl aj a1 c1 e1.Lin.L,Cl.sl ak a2 c2 e1.Idx,Cl.sl au a3 c3 e1.Args] F w0) (r:Int) (h:kM rec_ e1 limit1=some r):Calls Tryz.prog 141 #[(Value.agg (am e1 a1 c1 a2 c2 a3 c3)),vi limit1] w0 fun e w=>e= .returned (vi r)∧Ext w0 w∧AllCl [] F w:=by
 refine aL Tryz.func141 rfl Tryz.ntmps141 rfl ?_
 have hI:=Bun.start hF hc
 clear hc
 rw[kM]at h
 refine sr (fU (v:=(Value.agg (am e1 a1 c1 a2 c2 a3 c3))) (cs:=(am e1 a1 c1 a2 c2 a3 c3)) hI gn rfl rfl et rfl ?_)
 clear hI;intro b1 c4 w1 hI
 obtain⟨c5,hI⟩:=hI.relBox .z
 refine T ?_
 refine aB (T ?_)
 refine bc h et (fun hb h=> ?_) (fun hb h=> ?_)
 ·refine T ?_
  refine al ?_
  obtain rfl:=ac h
  exact QF hI
 refine T ?_
 refine aB (T ?_)
 refine cO (α:=Nat×Int×Int) (fun x=>fun w=>∃ C,Bun d5 F w0 C w [] [Cl.sl au a3 c3 e1.Args]∧fZ e1 rec_ limit1 (x.1) (x.2.1) (x.2.2)=some r) (fun x _=>x.1) (fun x=>[(1,vi limit1),(5,vi (x.2.1)),(12,vs a3 e1.Args.length c3),(13,vi (e1.Args.length:Int)),(14,vi (x.2.2))]) (fu,1,0) ⟨_,hI.arr .n ⟨(.s (.s (.s .z))),trivial⟩,h⟩ SB ?_
 clear h hI;rintro⟨fuel1,d1,i1⟩ w2 ⟨c6,hI,h⟩
 dsimp only at hI h
 rcases fuel1 with _ | fuel1
 ·rw[fZ]at h;cases h
 rw[fZ]at h
 refine bz (e:=[(1,vi limit1),(5,vi d1),(12,vs a3 e1.Args.length c3),(13,vi (e1.Args.length:Int)),(14,vi i1)]) SB ?_
 refine T ?_
 refine aB (bc h et (fun hb h=> ?_) (fun hb h=> ?_))
 ·refine T ?_
  refine aB (T ?_)
  obtain⟨e2,hx1,h⟩:=af h
  obtain⟨ad1,cs1,hA1,hr1,hq1⟩:=hI.clat .z hx1
  obtain⟨a4,c7,a5,c8,a6,c9,rfl,hf1,hf2,hf3⟩:=lE hr1
  have hI:=hI.add (c:=Cl.sl aj a4 c7 e2.Lin.L) hf1
  have hI:=hI.add (c:=Cl.sl ak a5 c8 e2.Idx) hf2
  have hI:=hI.add (c:=Cl.sl au a6 c9 e2.Args) hf3
  refine sI ?_
  refine T ?_
  refine aN (cs:=#[vi 0,(aC ([]:List UInt8)),vi 0,vi 0,vi 0,vi 0,vi 0,vi 0,vi 0,vi 0,vs none 0 0,vs none 0 0,vs none 0 0]) hI gn rfl rfl bA rfl ?_
  clear hI;intro b2 c10 w3 hI
  refine ay (new:=(aQ e2 a4 c7 a5 c8 a6 c9)) (cs':=(am e2 a4 c7 a5 c8 a6 c9)) hI .z gn rfl rfl et et rfl aF rfl rfl rfl ?_
  clear hI;intro c11 w4 hI
  refine T ?_
  obtain⟨r1,hx2,h⟩:=af h
  refine aE gn rfl (ag (vs:=[(Value.agg (am e2 a4 c7 a5 c8 a6 c9)),(vi (az (limit1 - 1)))]) rfl CX ⟨et,⟨et,trivial⟩⟩) (Calls.mono (hrec (Dj F c11) w4 hI.lt e2 (az (limit1 - 1)) a4 c7 a5 c8 a6 c9 ⟨(hI.get (.s (.s .z))),(hI.get (.s .z)),(hI.get .z),trivial⟩ r1 hx2) ?_)
  rintro _ w5 ⟨rfl,hx3,hl1⟩
  refine⟨_,rfl,?_⟩
  replace hI:=(hI.ext hx3)
  refine T ?_
  refine sq (G9 rfl et et) ?_
  refine T ?_
  refine bl ?_
  exact cg (fuel1,max d1 (az (1+r1)),az (i1+1)) SB ⟨_,hI.arr GO SU,h⟩ (Nat.lt_succ_self _)
 refine dv ?_
 refine kb ?_
 refine cA ?_
 refine T ?_
 refine al ?_
 obtain rfl:=ac h
 exact QF hI
theorem vl (n:Nat):∀ (F:NP) (w0:World) (hF:∀ k,F k→k<w0.heap.size) (e1:GExpr) (limit1:Int) (a1:Option Addr) (c1:Nat) (a2:Option Addr) (c2:Nat) (a3:Option Addr) (c3:Nat) (hc:AllCl [Cl.sl aj a1 c1 e1.Lin.L,Cl.sl ak a2 c2 e1.Idx,Cl.sl au a3 c3 e1.Args] F w0) (r:Int) (h:iR n e1 limit1=some r),Calls Tryz.prog 141 #[(Value.agg (am e1 a1 c1 a2 c2 a3 c3)),vi limit1] w0 fun e w=>e= .returned (vi r)∧Ext w0 w∧AllCl [] F w:=by
 induction n with
 | zero=>intro F w0 hF e1 limit1 a1 c1 a2 c2 a3 c3 hc r h;cases h
 | succ n ih=>intro F w0 hF e1 limit1 a1 c1 a2 c2 a3 c3 hc r h;exact vm (iR n) ih F w0 hF e1 limit1 a1 c1 a2 c2 a3 c3 hc r h
theorem xz (F:NP) (w0:World) (hF:∀ k,F k→k<w0.heap.size) (e1:GExpr) (limit1:Int) (a1:Option Addr) (c1:Nat) (a2:Option Addr) (c2:Nat) (a3:Option Addr) (c3:Nat) (hc:AllCl [Cl.sl aj a1 c1 e1.Lin.L,Cl.sl ak a2 c2 e1.Idx,Cl.sl au a3 c3 e1.Args] F w0) (r:Int) (h:oX e1 limit1=some r):Calls Tryz.prog 141 #[(Value.agg (am e1 a1 c1 a2 c2 a3 c3)),vi limit1] w0 fun e w=>e= .returned (vi r)∧Ext w0 w∧AllCl [] F w:=vl fu F w0 hF e1 limit1 a1 c1 a2 c2 a3 c3 hc r h
theorem xA (F:NP) (w0:World) (hF:∀ k,F k→k<w0.heap.size) (e1:GExpr) (a1:Option Addr) (c1:Nat) (a2:Option Addr) (c2:Nat) (a3:Option Addr) (c3:Nat) (hc:AllCl [Cl.sl aj a1 c1 e1.Lin.L,Cl.sl ak a2 c2 e1.Idx,Cl.sl au a3 c3 e1.Args] F w0) (r:Int)
  (h:nh e1=some r):
  Calls Tryz.prog 76 #[(Value.agg (am e1 a1 c1 a2 c2 a3 c3))] w0 fun e w=>e= .returned (vi r)∧Ext w0 w∧AllCl [] F w:=by
 refine aL Tryz.func76 rfl Tryz.ntmps76 rfl ?_
 have hI:=Bun.start hF hc
 clear hc
 rw[nh]at h
 refine sr (fU (v:=(Value.agg (am e1 a1 c1 a2 c2 a3 c3))) (cs:=(am e1 a1 c1 a2 c2 a3 c3)) hI gn rfl rfl et rfl ?_)
 clear hI;intro b1 c4 w1 hI
 obtain⟨c5,hI⟩:=hI.relBox .z
 refine T ?_
 refine sq (aJ (l:=(aQ e1 a1 c1 a2 c2 a3 c3)) rfl et nq rfl aF (hI.kblk (l:=(aQ e1 a1 c1 a2 c2 a3 c3)) .z rfl).1) ?_
 obtain⟨r1,hx1,h⟩:=af h
 refine aE gn rfl (ag (vs:=[(Value.agg (am e1 a1 c1 a2 c2 a3 c3)),vi 41]) rfl CX ⟨et,⟨ai,trivial⟩⟩) (Calls.mono (xz (Dj F c5) w1 hI.lt e1 41 a1 c1 a2 c2 a3 c3 ⟨(hI.get (.s .z)),(hI.get (.s (.s .z))),(hI.get (.s (.s (.s .z)))),trivial⟩ r1 hx1) ?_)
 rintro _ w2 ⟨rfl,hx2,hl1⟩
 refine⟨_,rfl,?_⟩
 replace hI:=(hI.ext hx2)
 refine T ?_
 refine al ?_
 obtain rfl:=ac h
 exact QF hI
theorem tf (F:NP) (w0:World) (hF:∀ k,F k→k<w0.heap.size) (e1:GExpr) (a1:Option Addr) (c1:Nat) (a2:Option Addr) (c2:Nat) (a3:Option Addr) (c3:Nat) (hc:AllCl [Cl.sl aj a1 c1 e1.Lin.L,Cl.sl ak a2 c2 e1.Idx,Cl.sl au a3 c3 e1.Args] F w0) (r:GExpr)
  (h:lG e1=some r):
  Calls Tryz.prog 78 #[(Value.agg (am e1 a1 c1 a2 c2 a3 c3))] w0 fun e w=>∃ (b1:Nat) (a4:Option Addr) (c4:Nat) (a5:Option Addr) (c5:Nat) (a6:Option Addr) (c6:Nat),e= .returned (Value.func (.func 142) #[] #[vp b1 0])∧Ext w0 w∧AllCl [Cl.sl aj a4 c4 r.Lin.L,Cl.sl ak a5 c5 r.Idx,Cl.sl au a6 c6 r.Args,Cl.blk b1 39 (am r a4 c4 a5 c5 a6 c6)] F w:=by
 refine aL Tryz.func78 rfl Tryz.ntmps78 rfl ?_
 have hI:=Bun.start hF hc
 clear hc
 rw[lG]at h
 refine sr (fU (v:=(Value.agg (am e1 a1 c1 a2 c2 a3 c3))) (cs:=(am e1 a1 c1 a2 c2 a3 c3)) hI gn rfl rfl et rfl ?_)
 clear hI;intro b2 c7 w1 hI
 obtain⟨c8,hI⟩:=hI.relBox .z
 refine T ?_
 refine sq (mm (vs:=[]) (cap:=[vp b2 0]) rfl rfl ⟨et,trivial⟩) ?_
 refine T ?_
 refine al ?_
 obtain rfl:=ac h
 refine QG ?_
 exact⟨b2,a1,c1,a2,c2,a3,c3,rfl,hI.ext0,hI.fin ⟨(.s .z),(.s (.s .z)),(.s (.s (.s .z))),.z,trivial⟩⟩
theorem tF {σ:Type} (I:StI σ) (rec_:(GExpr→(GExpr→σ→Option (Bool×σ))→σ→Option (Bool×σ))) (hrec:∀ (C0 F:NP) (w0:World) (e1:GExpr) (yield1:(GExpr→σ→Option (Bool×σ))) (s1:σ) (a1:Option Addr) (c1:Nat) (a2:Option Addr) (c2:Nat) (a3:Option Addr) (c3:Nat) (fv1:Value) (hI:Bun C0 F w0 C0 w0 [MO.st I s1] [Cl.sl aj a1 c1 e1.Lin.L,Cl.sl ak a2 c2 e1.Idx,Cl.sl au a3 c3 e1.Args,mV I fv1 yield1]) (r:Bool×σ) (h:rec_ e1 yield1 s1=some r),Calls Tryz.prog 143 #[(Value.agg (am e1 a1 c1 a2 c2 a3 c3)),fv1] w0 fun e w=>∃ (C:NP),e= .returned (vb r.1)∧Bun C0 F w0 C w [MO.st I r.2] [])
  (C0 F:NP) (w0:World) (e1:GExpr) (yield1:(GExpr→σ→Option (Bool×σ))) (s1:σ) (a1:Option Addr) (c1:Nat) (a2:Option Addr) (c2:Nat) (a3:Option Addr) (c3:Nat) (fv1:Value) (hI:Bun C0 F w0 C0 w0 [MO.st I s1] [Cl.sl aj a1 c1 e1.Lin.L,Cl.sl ak a2 c2 e1.Idx,Cl.sl au a3 c3 e1.Args,mV I fv1 yield1]) (r:Bool×σ) (h:gZ rec_ e1 yield1 s1=some r):Calls Tryz.prog 143 #[(Value.agg (am e1 a1 c1 a2 c2 a3 c3)),fv1] w0 fun e w=>∃ (C:NP),e= .returned (vb r.1)∧Bun C0 F w0 C w [MO.st I r.2] []:=by
 refine aL Tryz.func143 rfl Tryz.ntmps143 rfl ?_
 rw[gZ]at h
 refine sr (fU (v:=(Value.agg (am e1 a1 c1 a2 c2 a3 c3))) (cs:=(am e1 a1 c1 a2 c2 a3 c3)) hI gn rfl rfl et rfl ?_)
 clear hI;intro b1 c4 w1 hI
 obtain⟨c5,hI⟩:=hI.relBox .z
 refine T ?_
 refine aB (T ?_)
 refine sq (aJ (l:=(aQ e1 a1 c1 a2 c2 a3 c3)) rfl et nq rfl aF (hI.kblk (l:=(aQ e1 a1 c1 a2 c2 a3 c3)) .z rfl).1) ?_
 obtain⟨⟨r1,s2⟩,hx1,h⟩:=af h
 try dsimp only at h
 obtain⟨c6,f1,hB,hl1,hk1⟩:=hI.hands (.l .n)
 refine rh (args:=[(Value.agg (am e1 a1 c1 a2 c2 a3 c3))]) gn rfl rfl et ⟨et,trivial⟩ (CallV.mono ((hI.get (.s (.s (.s (.s .z))))).2 c6 f1 w1 (Sp.less hl1) e1 a1 c1 a2 c2 a3 c3 s1 _ (hB.subs ⟨(.s .z),(.s (.s .z)),(.s (.s (.s .z))),trivial⟩) hx1) ?_)
 rintro _ w2 ⟨c7,rfl,hB2⟩
 obtain⟨c8,hs1,hI⟩:=hk1 _ _ _ _ hB2
 dsimp only[ca,na]at hI
 refine⟨_,rfl,?_⟩
 refine T ?_
 refine bc h et (fun hb h=> ?_) (fun hb h=> ?_)
 ·refine T ?_
  refine al ?_
  obtain rfl:=ac h
  refine QG ?_
  exact⟨_,rfl,hI.arr GO SU⟩
 refine T ?_
 refine aB (T ?_)
 refine cO (α:=Nat×Int×σ) (fun x=>fun w=>∃ C,Bun C0 F w0 C w [MO.st I (x.2.2)] [mV I fv1 yield1,Cl.sl au a3 c3 e1.Args]∧db e1 rec_ yield1 (x.1) (x.2.1) (x.2.2)=some r) (fun x _=>x.1) (fun x=>[(1,fv1),(12,vs a3 e1.Args.length c3),(13,vi (e1.Args.length:Int)),(14,vi (x.2.1))]) (fu,0,s2) ⟨_,hI.arr (.c .z .n) ⟨(.s (.s (.s (.s .z)))),(.s (.s (.s .z))),trivial⟩,h⟩ SB ?_
 clear h hI;rintro⟨fuel1,i1,s3⟩ w3 ⟨c9,hI,h⟩
 dsimp only at hI h
 rcases fuel1 with _ | fuel1
 ·rw[db]at h;cases h
 rw[db]at h
 refine bz (e:=[(1,fv1),(12,vs a3 e1.Args.length c3),(13,vi (e1.Args.length:Int)),(14,vi i1)]) SB ?_
 refine T ?_
 refine aB (bc h et (fun hb h=> ?_) (fun hb h=> ?_))
 ·refine T ?_
  refine aB (T ?_)
  obtain⟨e2,hx2,h⟩:=af h
  obtain⟨ad1,cs1,hA1,hr1,hq1⟩:=hI.clat (.s .z) hx2
  obtain⟨a4,c10,a5,c11,a6,c12,rfl,hf1,hf2,hf3⟩:=lE hr1
  have hI:=hI.add (c:=Cl.sl aj a4 c10 e2.Lin.L) hf1
  have hI:=hI.add (c:=Cl.sl ak a5 c11 e2.Idx) hf2
  have hI:=hI.add (c:=Cl.sl au a6 c12 e2.Args) hf3
  refine sI ?_
  refine T ?_
  refine aN (cs:=#[vi 0,(aC ([]:List UInt8)),vi 0,vi 0,vi 0,vi 0,vi 0,vi 0,vi 0,vi 0,vs none 0 0,vs none 0 0,vs none 0 0]) hI gn rfl rfl bA rfl ?_
  clear hI;intro b2 c13 w4 hI
  refine ay (new:=(aQ e2 a4 c10 a5 c11 a6 c12)) (cs':=(am e2 a4 c10 a5 c11 a6 c12)) hI .z gn rfl rfl et et rfl aF rfl rfl rfl ?_
  clear hI;intro c14 w5 hI
  refine T ?_
  obtain⟨c15,f2,hB,hl2,hk2⟩:=hI.hands (.r (.l .n))
  obtain⟨⟨r2,s4⟩,hx3,h⟩:=af h
  try dsimp only at h
  refine aE gn rfl (ag (vs:=[(Value.agg (am e2 a4 c10 a5 c11 a6 c12)),fv1]) rfl CV ⟨et,⟨et,trivial⟩⟩) (Calls.mono (hrec c15 f2 w5 e2 yield1 s3 a4 c10 a5 c11 a6 c12 fv1 (hB.subs ⟨(.s (.s .z)),(.s .z),.z,(.s (.s (.s .z))),trivial⟩) _ hx3) ?_)
  rintro _ w6 ⟨c16,rfl,hB2⟩
  obtain⟨c17,hs2,hI⟩:=hk2 _ _ _ _ hB2
  dsimp only[ca,na]at hI
  refine⟨_,rfl,?_⟩
  refine T ?_
  refine bc h et (fun hb h=> ?_) (fun hb h=> ?_)
  ·refine T ?_
   refine al ?_
   obtain rfl:=ac h
   refine QG ?_
   exact⟨_,rfl,hI.arr GO SU⟩
  refine T ?_
  refine bl ?_
  exact cg (fuel1,az (i1+1),s4) SB ⟨_,hI.arr GO SU,h⟩ (Nat.lt_succ_self _)
 refine dv ?_
 refine kb ?_
 refine cA ?_
 refine T ?_
 refine al ?_
 obtain rfl:=ac h
 refine QG ?_
 exact⟨_,rfl,hI.arr GO SU⟩
theorem tE {σ:Type} (I:StI σ) (n:Nat):∀ (C0 F:NP) (w0:World) (e1:GExpr) (yield1:(GExpr→σ→Option (Bool×σ))) (s1:σ) (a1:Option Addr) (c1:Nat) (a2:Option Addr) (c2:Nat) (a3:Option Addr) (c3:Nat) (fv1:Value) (hI:Bun C0 F w0 C0 w0 [MO.st I s1] [Cl.sl aj a1 c1 e1.Lin.L,Cl.sl ak a2 c2 e1.Idx,Cl.sl au a3 c3 e1.Args,mV I fv1 yield1]) (r:Bool×σ) (h:el n e1 yield1 s1=some r),Calls Tryz.prog 143 #[(Value.agg (am e1 a1 c1 a2 c2 a3 c3)),fv1] w0 fun e w=>∃ (C:NP),e= .returned (vb r.1)∧Bun C0 F w0 C w [MO.st I r.2] []:=by
 induction n with
 | zero=>intro C0 F w0 e1 yield1 s1 a1 c1 a2 c2 a3 c3 fv1 hI r h;cases h
 | succ n ih=>intro C0 F w0 e1 yield1 s1 a1 c1 a2 c2 a3 c3 fv1 hI r h;exact tF I (el n) ih C0 F w0 e1 yield1 s1 a1 c1 a2 c2 a3 c3 fv1 hI r h
theorem vP {σ:Type} (I:StI σ) (C0 F:NP) (w0:World) (e1:GExpr) (yield1:(GExpr→σ→Option (Bool×σ))) (s1:σ) (a1:Option Addr) (c1:Nat) (a2:Option Addr) (c2:Nat) (a3:Option Addr) (c3:Nat) (fv1:Value) (hI:Bun C0 F w0 C0 w0 [MO.st I s1] [Cl.sl aj a1 c1 e1.Lin.L,Cl.sl ak a2 c2 e1.Idx,Cl.sl au a3 c3 e1.Args,mV I fv1 yield1]) (r:Bool×σ) (h:mH e1 yield1 s1=some r):Calls Tryz.prog 143 #[(Value.agg (am e1 a1 c1 a2 c2 a3 c3)),fv1] w0 fun e w=>∃ (C:NP),e= .returned (vb r.1)∧Bun C0 F w0 C w [MO.st I r.2] []:=tE I fu C0 F w0 e1 yield1 s1 a1 c1 a2 c2 a3 c3 fv1 hI r h
theorem pr {σ:Type} (I:StI σ) (C0 F:NP) (w0:World) (yield1:(GExpr→σ→Option (Bool×σ))) (a1:GExpr) (s1:σ) (fv1:Value) (b1:Nat) (a2:Option Addr) (c1:Nat) (a3:Option Addr) (c2:Nat) (a4:Option Addr) (c3:Nat) (hI:Bun C0 F w0 C0 w0 [MO.st I s1] [mV I fv1 yield1,Cl.sl aj a2 c1 a1.Lin.L,Cl.sl ak a3 c2 a1.Idx,Cl.sl au a4 c3 a1.Args,Cl.blk b1 39 (am a1 a2 c1 a3 c2 a4 c3)]) (r:Unit×σ)
  (h:i8 yield1 a1 s1=some r):
  Calls Tryz.prog 142 #[fv1,vp b1 0] w0 fun e w=>∃ (C:NP),e= .returned (Value.tuple #[])∧Bun C0 F w0 C w [MO.st I r.2] []:=by
 refine aL Tryz.func142 rfl Tryz.ntmps142 rfl ?_
 rw[i8]at h
 refine T ?_
 refine sq (aJ (l:=(aQ a1 a2 c1 a3 c2 a4 c3)) rfl et nq rfl aF (hI.kblk (l:=(aQ a1 a2 c1 a3 c2 a4 c3)) (.s (.s (.s (.s .z)))) rfl).1) ?_
 refine sm ?_
 obtain⟨c4,f1,hB,hl1,hk1⟩:=hI.hands (.l .n)
 obtain⟨⟨r1,s2⟩,hx1,h⟩:=af h
 try dsimp only at h
 refine aE gn rfl (ag (vs:=[(Value.agg (am a1 a2 c1 a3 c2 a4 c3)),fv1]) rfl CV ⟨et,⟨et,trivial⟩⟩) (Calls.mono (vP I c4 f1 w0 a1 yield1 s1 a2 c1 a3 c2 a4 c3 fv1 (hB.subs ⟨(.s .z),(.s (.s .z)),(.s (.s (.s .z))),.z,trivial⟩) _ hx1) ?_)
 rintro _ w1 ⟨c5,rfl,hB2⟩
 obtain⟨c6,hs1,hI⟩:=hk1 _ _ _ _ hB2
 dsimp only[ca,na]at hI
 refine⟨_,rfl,?_⟩
 refine bl ?_
 obtain rfl:=ac h
 refine QG ?_
 exact⟨_,rfl,hI.arr GO SU⟩
theorem yU (F:NP) (w0:World) (hF:∀ k,F k→k<w0.heap.size) (e1:GExpr) (a1:Option Addr) (c1:Nat) (a2:Option Addr) (c2:Nat) (a3:Option Addr) (c3:Nat) (hc:AllCl [Cl.sl aj a1 c1 e1.Lin.L,Cl.sl ak a2 c2 e1.Idx,Cl.sl au a3 c3 e1.Args] F w0) (r:Int)
  (h:mP e1=some r):
  Calls Tryz.prog 77 #[(Value.agg (am e1 a1 c1 a2 c2 a3 c3))] w0 fun e w=>e= .returned (vi r)∧Ext w0 w∧AllCl [] F w:=by
 refine aL Tryz.func77 rfl Tryz.ntmps77 rfl ?_
 have hI:=Bun.start hF hc
 clear hc
 rw[mP]at h
 refine sr (fU (v:=(Value.agg (am e1 a1 c1 a2 c2 a3 c3))) (cs:=(am e1 a1 c1 a2 c2 a3 c3)) hI gn rfl rfl et rfl ?_)
 clear hI;intro b1 c4 w1 hI
 obtain⟨c5,hI⟩:=hI.relBox .z
 refine T ?_
 refine aN (cs:=#[vi 0]) hI gn rfl rfl y6 rfl ?_
 clear hI;intro b2 c6 w2 hI
 refine ay (new:=[vi 0]) (cs':=#[vi 0]) hI .z gn rfl rfl et ai rfl gb rfl rfl rfl ?_
 clear hI;intro c7 w3 hI
 refine nk (aB (sr (sq (aJ (l:=(aQ e1 a1 c1 a2 c2 a3 c3)) rfl et nq rfl aF (hI.kblk (l:=(aQ e1 a1 c1 a2 c2 a3 c3)) .z rfl).1) ?_)))
 obtain⟨r1,hx1,h⟩:=af h
 refine aE gn rfl (ag (vs:=[(Value.agg (am e1 a1 c1 a2 c2 a3 c3))]) rfl EU ⟨et,trivial⟩) (Calls.mono (tf (Dj F c7) w3 hI.lt e1 a1 c1 a2 c2 a3 c3 ⟨(hI.get (.s .z)),(hI.get (.s (.s .z))),(hI.get (.s (.s (.s .z)))),trivial⟩ r1 hx1) ?_)
 rintro _ w4 ⟨b3,a4,c8,a5,c9,a6,c10,rfl,hx2,hl1⟩
 refine⟨_,rfl,?_⟩
 replace hI:=(hI.ext hx2).adds hl1;dsimp only[ca,na]at hI
 refine T ?_
 refine pR [Code.exit 0] hI et CW (fun l1 q1 fn1 tm1 rc1 hrc1 c12 w6 hE1 hI=> ?_)
 obtain⟨c13,f1,hB,hl2,hk1⟩:=hI.hands (.l (.r (.l .n)))
 have hB:Bun c13 f1 w6 c13 w6 [MO.st (StI.loop l1 rc1 (fun(s:Int) (b:Unit)=>[MO.box b2 3 #[vi s]]) (fun(s:Int) (b:Unit)=>[Cl.blk b3 39 (am r1 a4 c8 a5 c9 a6 c10),Cl.sl aj a4 c8 r1.Lin.L,Cl.sl ak a5 c9 r1.Idx,Cl.sl au a6 c10 r1.Args])) (0,0)] _:=Bun.mkst (b:=()) hB ⟨(.s (.s (.s .z))),.z,(.s .z),(.s (.s .z)),trivial⟩
 have hY1:fnS_k5 (StI.loop l1 rc1 (fun(s:Int) (b:Unit)=>[MO.box b2 3 #[vi s]]) (fun(s:Int) (b:Unit)=>[Cl.blk b3 39 (am r1 a4 c8 a5 c9 a6 c10),Cl.sl aj a4 c8 r1.Lin.L,Cl.sl ak a5 c9 r1.Idx,Cl.sl au a6 c10 r1.Args])) (Value.func (.yield l1) #[] #[]) (fun k_0 q=>if q.1=0 then d7 k_0 q.2 else none) (Dj f1 c13) w6:=by
  refine⟨rfl,fun C0 F w0 _=> ?_⟩
  rintro y1 a7 c14 a8 c15 a9 c16 ⟨o_,n1⟩ r hB h
  replace h:o_=0∧d7 y1 n1=some r:=ic h
  have ho_:=h.1;subst ho_;replace h:=h.2
  rw[d7]at h
  obtain⟨_,hI⟩:=Bun.unst hB
  subst hrc1
  dsimp only[ca,na]at hI
  clear hB
  refine pQ hI rfl (qQ (hE1 ⟨12,[]⟩ rfl rfl)) ?_
  refine cc (xa hI .z (fun c17 w7 hI=> ?_))
  refine T ?_
  refine ay (new:=[(vi (az (n1+1)))]) (cs':=#[(vi (az (n1+1)))]) hI (.s .z) gn rfl rfl et et rfl gb rfl rfl rfl ?_
  clear hI;intro c18 w8 hI
  refine T ?_
  refine bc h et (fun hb h=> ?_) (fun hb h=> ?_)
  ·refine dv ?_
   refine HT rfl ?_
   obtain rfl:=ac h
   exact fun _ _=>qd (js:=[Code.exit 0]) (oS:=(fun(s:Int) (b:Unit)=>[MO.box b2 3 #[vi s]])) (cS:=(fun(s:Int) (b:Unit)=>[Cl.blk b3 39 (am r1 a4 c8 a5 c9 a6 c10),Cl.sl aj a4 c8 r1.Lin.L,Cl.sl ak a5 c9 r1.Idx,Cl.sl au a6 c10 r1.Args])) (out:=1) (s:=(az (n1+1))) (b:=()) (hI.arr (.c .z (.c .z .n)) ⟨.z,(.s .z),(.s (.s .z)),(.s (.s (.s .z))),trivial⟩) rfl (fun C w hB=>⟨C,rfl,hB⟩)
  refine cc ?_
  obtain rfl:=ac h
  exact fun _ _=>qd (js:=[Code.exit 0]) (oS:=(fun(s:Int) (b:Unit)=>[MO.box b2 3 #[vi s]])) (cS:=(fun(s:Int) (b:Unit)=>[Cl.blk b3 39 (am r1 a4 c8 a5 c9 a6 c10),Cl.sl aj a4 c8 r1.Lin.L,Cl.sl ak a5 c9 r1.Idx,Cl.sl au a6 c10 r1.Args])) (out:=0) (s:=(az (n1+1))) (b:=()) (hI.arr (.c .z (.c .z .n)) ⟨.z,(.s .z),(.s (.s .z)),(.s (.s (.s .z))),trivial⟩) rfl (fun C w hB=>⟨C,rfl,hB⟩)
 obtain⟨⟨u1,o1,n2⟩,hx3,h⟩:=af h
 try dsimp only at h
 refine Calls.mono (pr (StI.loop l1 rc1 (fun(s:Int) (b:Unit)=>[MO.box b2 3 #[vi s]]) (fun(s:Int) (b:Unit)=>[Cl.blk b3 39 (am r1 a4 c8 a5 c9 a6 c10),Cl.sl aj a4 c8 r1.Lin.L,Cl.sl ak a5 c9 r1.Idx,Cl.sl au a6 c10 r1.Args])) c13 f1 w6 (fun k_0 q=>if q.1=0 then d7 k_0 q.2 else none) r1 (0,0) (Value.func (.yield l1) #[] #[]) b3 a4 c8 a5 c9 a6 c10 ((hB.add (c:=mV (StI.loop l1 rc1 (fun(s:Int) (b:Unit)=>[MO.box b2 3 #[vi s]]) (fun(s:Int) (b:Unit)=>[Cl.blk b3 39 (am r1 a4 c8 a5 c9 a6 c10),Cl.sl aj a4 c8 r1.Lin.L,Cl.sl ak a5 c9 r1.Idx,Cl.sl au a6 c10 r1.Args])) (Value.func (.yield l1) #[] #[]) (fun k_0 q=>if q.1=0 then d7 k_0 q.2 else none)) hY1).subs ⟨.z,(.s .z),(.s (.s .z)),(.s (.s (.s .z))),(.s (.s (.s (.s .z)))),trivial⟩) _ hx3) ?_
 rintro _ w10 ⟨c20,rfl,hB2⟩
 obtain⟨_,hB2⟩:=Bun.unst hB2
 subst hrc1
 obtain⟨c21,hs1,hI⟩:=hk1 _ _ _ _ hB2
 dsimp only[ca,na]at hI
 refine⟨_,rfl,so hI .z (fun c22 w11 hI=> ?_)⟩
 by_cases hz1:o1=0
 ·subst hz1;rw[if_pos rfl]at h
  refine cA ?_
  refine T ?_
  refine al ?_
  obtain⟨w12,hs2,c23,hI⟩:∃ w2,oL Tryz.prog [q1] w11 w2∧∃ C,Bun d5 F w0 C w2 [MO.obj l1 _,MO.box b2 3 #[vi n2],MO.obj q1 (.deferred none)] [Cl.blk b3 39 (am r1 a4 c8 a5 c9 a6 c10),Cl.sl aj a4 c8 r1.Lin.L,Cl.sl ak a5 c9 r1.Idx,Cl.sl au a6 c10 r1.Args,Cl.sl aj a4 c8 r1.Lin.L,Cl.sl ak a5 c9 r1.Idx,Cl.sl au a6 c10 r1.Args,Cl.blk b3 39 (am r1 a4 c8 a5 c9 a6 c10),Cl.blk b1 39 (am e1 a1 c1 a2 c2 a3 c3),Cl.sl aj a1 c1 e1.Lin.L,Cl.sl ak a2 c2 e1.Idx,Cl.sl au a3 c3 e1.Args]:=hI.shut (.s (.s .z)) fun C w hI=>oA ⟨_,hI⟩
  obtain rfl:=ac h
  exact qK (vs:=[vi n2]) hs2 Tryz.results77 ⟨aZ rfl rfl,trivial⟩ (fq hI trivial)
 rw[if_neg hz1]at h
 by_cases hz2:o1=1
 ·subst hz2;rw[if_pos rfl]at h
  refine dv ?_
  refine kb ?_
  refine cA ?_
  refine T ?_
  refine al ?_
  obtain⟨w13,hs3,c24,hI⟩:∃ w2,oL Tryz.prog [q1] w11 w2∧∃ C,Bun d5 F w0 C w2 [MO.obj l1 _,MO.box b2 3 #[vi n2],MO.obj q1 (.deferred none)] [Cl.blk b3 39 (am r1 a4 c8 a5 c9 a6 c10),Cl.sl aj a4 c8 r1.Lin.L,Cl.sl ak a5 c9 r1.Idx,Cl.sl au a6 c10 r1.Args,Cl.sl aj a4 c8 r1.Lin.L,Cl.sl ak a5 c9 r1.Idx,Cl.sl au a6 c10 r1.Args,Cl.blk b3 39 (am r1 a4 c8 a5 c9 a6 c10),Cl.blk b1 39 (am e1 a1 c1 a2 c2 a3 c3),Cl.sl aj a1 c1 e1.Lin.L,Cl.sl ak a2 c2 e1.Idx,Cl.sl au a3 c3 e1.Args]:=hI.shut (.s (.s .z)) fun C w hI=>oA ⟨_,hI⟩
  obtain rfl:=ac h
  exact qK (vs:=[vi n2]) hs3 Tryz.results77 ⟨aZ rfl rfl,trivial⟩ (fq hI trivial)
 rw[if_neg hz2]at h
 cases h
theorem qE (F:NP) (w0:World) (hF:∀ k,F k→k<w0.heap.size) (l1:GLin) (a1:Option Addr) (c1:Nat) (hc:AllCl [Cl.sl aj a1 c1 l1.L] F w0) (r:Bool)
  (h:kl l1=some r):
  Calls Tryz.prog 195 #[(Value.agg (bI l1 a1 c1))] w0 fun e w=>e= .returned (vb r)∧Ext w0 w∧AllCl [] F w:=by
 refine aL Tryz.func195 rfl Tryz.ntmps195 rfl ?_
 have hI:=Bun.start hF hc
 clear hc
 rw[kl]at h
 refine sr (fU (v:=(Value.agg (bI l1 a1 c1))) (cs:=(bI l1 a1 c1)) hI gn rfl rfl et rfl ?_)
 clear hI;intro b1 c2 w1 hI
 obtain⟨c3,hI⟩:=hI.relBox .z
 refine T ?_
 refine al ?_
 obtain rfl:=ac h
 exact QF hI
theorem kP (F:NP) (w0:World) (hF:∀ k,F k→k<w0.heap.size) (s1:List GIndex) (f1:(GIndex→Option Bool)) (a1:Option Addr) (c1:Nat) (fv1:Value) (hc:AllCl [Cl.sl ak a1 c1 s1,qi fv1 f1] F w0) (r:Int)
  (h:cF s1 f1=some r):
  Calls Tryz.prog 228 #[vs a1 s1.length c1,fv1] w0 fun e w=>e= .returned (vi r)∧Ext w0 w∧AllCl [] F w:=by
 refine aL Tryz.func228 rfl Tryz.ntmps228 rfl ?_
 have hI:=Bun.start hF hc
 clear hc
 rw[cF]at h
 refine T ?_
 refine aB (T ?_)
 refine cO (α:=Nat×Int) (fun x=>fun w=>∃ C,Bun d5 F w0 C w [] [Cl.sl ak a1 c1 s1,qi fv1 f1]∧aO s1 f1 (x.1) (x.2)=some r) (fun x _=>x.1) (fun x=>[(0,vs a1 s1.length c1),(1,fv1),(7,vi (s1.length:Int)),(8,vi (x.2))]) (fu,0) ⟨_,hI.arr .n ⟨.z,(.s .z),trivial⟩,h⟩ SB ?_
 clear h hI;rintro⟨fuel1,i1⟩ w1 ⟨c2,hI,h⟩
 dsimp only at hI h
 rcases fuel1 with _ | fuel1
 ·rw[aO]at h;cases h
 rw[aO]at h
 refine bz (e:=[(0,vs a1 s1.length c1),(1,fv1),(7,vi (s1.length:Int)),(8,vi i1)]) SB ?_
 refine T ?_
 refine aB (bc h et (fun hb h=> ?_) (fun hb h=> ?_))
 ·refine T ?_
  refine aB (T ?_)
  obtain⟨e1,hx1,h⟩:=af h
  obtain⟨ad1,cs1,hA1,hr1,hq1⟩:=hI.clat .z hx1
  obtain⟨a2,c3,a3,c4,rfl,hf1,hf2⟩:=hr1
  have hI:=hI.add (c:=Cl.sl aj a2 c3 e1.Lin.L) hf1
  have hI:=hI.add (c:=Cl.sl ju a3 c4 e1.At) hf2
  refine sI ?_
  refine T ?_
  obtain⟨r1,hx2,h⟩:=af h
  refine rh (args:=[(Value.agg (eF e1 a2 c3 a3 c4))]) gn rfl rfl et ⟨et,trivial⟩ (CallV.mono ((hI.get (.s (.s (.s .z)))).2 (Dj F c2) w1 (Sp.of_ext .rfl') hI.lt e1 a2 c3 a3 c4 r1 ⟨(hI.get (.s .z)),(hI.get .z),trivial⟩ hx2) ?_)
  rintro _ w2 ⟨rfl,hx3,hl1⟩
  refine⟨_,rfl,?_⟩
  replace hI:=(hI.ext hx3)
  refine nk (bc h et (fun hb h=> ?_) (fun hb h=> ?_))
  ·refine T ?_
   refine al ?_
   obtain rfl:=ac h
   exact QF hI
  refine T ?_
  refine bl ?_
  exact cg (fuel1,az (i1+1)) SB ⟨_,hI.arr GO SU,h⟩ (Nat.lt_succ_self _)
 refine dv ?_
 refine kb ?_
 refine cA ?_
 refine T ?_
 refine al ?_
 obtain rfl:=ac h
 exact QF hI
theorem dy (F:NP) (w0:World) (hF:∀ k,F k→k<w0.heap.size) (s1:List GIndex) (f1:(GIndex→Option Bool)) (a1:Option Addr) (c1:Nat) (fv1:Value) (hc:AllCl [Cl.sl ak a1 c1 s1,qi fv1 f1] F w0) (r:Bool)
  (h:bb s1 f1=some r):
  Calls Tryz.prog 196 #[vs a1 s1.length c1,fv1] w0 fun e w=>e= .returned (vb r)∧Ext w0 w∧AllCl [] F w:=by
 refine aL Tryz.func196 rfl Tryz.ntmps196 rfl ?_
 have hI:=Bun.start hF hc
 clear hc
 rw[bb]at h
 refine T ?_
 obtain⟨r1,hx1,h⟩:=af h
 refine aE gn rfl (ag (vs:=[vs a1 s1.length c1,fv1]) rfl F8 ⟨et,⟨et,trivial⟩⟩) (Calls.mono (kP (Dj F d5) w0 hI.lt s1 f1 a1 c1 fv1 ⟨(hI.get .z),(hI.get (.s .z)),trivial⟩ r1 hx1) ?_)
 rintro _ w1 ⟨rfl,hx2,hl1⟩
 refine⟨_,rfl,?_⟩
 replace hI:=(hI.ext hx2)
 refine T ?_
 refine al ?_
 obtain rfl:=ac h
 exact QF hI
theorem rL (F:NP) (w0:World) (hF:∀ k,F k→k<w0.heap.size) (x1:GIndex) (a1:Option Addr) (c1:Nat) (a2:Option Addr) (c2:Nat) (hc:AllCl [Cl.sl aj a1 c1 x1.Lin.L,Cl.sl ju a2 c2 x1.At] F w0) (r:Bool)
  (h:kw x1=some r):
  Calls Tryz.prog 198 #[(Value.agg (eF x1 a1 c1 a2 c2))] w0 fun e w=>e= .returned (vb r)∧Ext w0 w∧AllCl [] F w:=by
 refine aL Tryz.func198 rfl Tryz.ntmps198 rfl ?_
 have hI:=Bun.start hF hc
 clear hc
 rw[kw]at h
 refine sr (fU (v:=(Value.agg (eF x1 a1 c1 a2 c2))) (cs:=(eF x1 a1 c1 a2 c2)) hI gn rfl rfl et rfl ?_)
 clear hI;intro b1 c3 w1 hI
 obtain⟨c4,hI⟩:=hI.relBox .z
 refine T ?_
 refine aB (T ?_)
 refine bc h et (fun hb h=> ?_) (fun hb h=> ?_)
 ·refine T ?_
  refine al ?_
  obtain rfl:=ac h
  exact QF hI
 refine T ?_
 refine sq (aJ (l:=(gx x1.Lin a1 c1)) rfl et rZ rfl aW (hI.kblk (l:=(gx x1.Lin a1 c1)) .z rfl).1) ?_
 obtain⟨r1,hx1,h⟩:=af h
 refine aE gn rfl (ag (vs:=[(Value.agg (bI x1.Lin a1 c1))]) rfl CP ⟨et,trivial⟩) (Calls.mono (qE (Dj F c4) w1 hI.lt x1.Lin a1 c1 ⟨(hI.get (.s .z)),trivial⟩ r1 hx1) ?_)
 rintro _ w2 ⟨rfl,hx2,hl1⟩
 refine⟨_,rfl,?_⟩
 replace hI:=(hI.ext hx2)
 refine T ?_
 refine al ?_
 obtain rfl:=ac h
 exact QF hI
theorem tG (F:NP) (w0:World) (hF:∀ k,F k→k<w0.heap.size) (x1:GIndex) (a1:Option Addr) (c1:Nat) (a2:Option Addr) (c2:Nat) (hc:AllCl [Cl.sl aj a1 c1 x1.Lin.L,Cl.sl ju a2 c2 x1.At] F w0) (r:Bool)
  (h:g9 x1=some r):
  Calls Tryz.prog 197 #[(Value.agg (eF x1 a1 c1 a2 c2))] w0 fun e w=>e= .returned (vb r)∧Ext w0 w∧AllCl [] F w:=by
 refine aL Tryz.func197 rfl Tryz.ntmps197 rfl ?_
 have hI:=Bun.start hF hc
 clear hc
 rw[g9]at h
 refine sr (fU (v:=(Value.agg (eF x1 a1 c1 a2 c2))) (cs:=(eF x1 a1 c1 a2 c2)) hI gn rfl rfl et rfl ?_)
 clear hI;intro b1 c3 w1 hI
 obtain⟨c4,hI⟩:=hI.relBox .z
 refine T ?_
 refine sq (aJ (l:=(o4 x1 a1 c1 a2 c2)) rfl et A9 rfl lM (hI.kblk (l:=(o4 x1 a1 c1 a2 c2)) .z rfl).1) ?_
 obtain⟨r1,hx1,h⟩:=af h
 refine aE gn rfl (ag (vs:=[(Value.agg (eF x1 a1 c1 a2 c2))]) rfl Gk ⟨et,trivial⟩) (Calls.mono (rL (Dj F c4) w1 hI.lt x1 a1 c1 a2 c2 ⟨(hI.get (.s .z)),(hI.get (.s (.s .z))),trivial⟩ r1 hx1) ?_)
 rintro _ w2 ⟨rfl,hx2,hl1⟩
 refine⟨_,rfl,?_⟩
 replace hI:=(hI.ext hx2)
 refine T ?_
 refine al ?_
 obtain rfl:=ac h
 exact QF hI
theorem vQ (F:NP) (w0:World) (hF:∀ k,F k→k<w0.heap.size) (e1:GExpr) (a1:Option Addr) (c1:Nat) (a2:Option Addr) (c2:Nat) (a3:Option Addr) (c3:Nat) (hc:AllCl [Cl.sl aj a1 c1 e1.Lin.L,Cl.sl ak a2 c2 e1.Idx,Cl.sl au a3 c3 e1.Args] F w0) (r:Bool)
  (h:lu e1=some r):
  Calls Tryz.prog 144 #[(Value.agg (am e1 a1 c1 a2 c2 a3 c3))] w0 fun e w=>e= .returned (vb r)∧Ext w0 w∧AllCl [] F w:=by
 refine aL Tryz.func144 rfl Tryz.ntmps144 rfl ?_
 have hI:=Bun.start hF hc
 clear hc
 rw[lu]at h
 refine sr (fU (v:=(Value.agg (am e1 a1 c1 a2 c2 a3 c3))) (cs:=(am e1 a1 c1 a2 c2 a3 c3)) hI gn rfl rfl et rfl ?_)
 clear hI;intro b1 c4 w1 hI
 obtain⟨c5,hI⟩:=hI.relBox .z
 refine T ?_
 refine aB (bx [] false (.c (0,.q) (.c (1,.q) (.c (2,.q) (.c (3,.q) (.c (4,.q) (.c (5,.q) (.c (6,.q) (.c (7,.q) (.c (8,.q) (.c (9,.q) (.c (10,.q) (.c (11,.q) (.c (12,.q) .n))))))))))))) hI (by kernel_rfl) (by kernel_rfl) ?_)
 clear hI;intro w2 hI
 refine V ?_
 refine aB (bx [] false (.c (0,.q) (.c (1,.q) (.c (2,.q) (.c (3,.q) (.c (4,.q) (.c (5,.q) (.c (6,.q) (.c (7,.q) .n)))))))) hI (by kernel_rfl) (by kernel_rfl) ?_)
 clear hI;intro w3 hI
 refine V ?_
 refine aB (T ?_)
 refine bc h et (fun hb h=> ?_) (fun hb h=> ?_)
 ·refine T ?_
  refine al ?_
  obtain rfl:=ac h
  exact QF hI
 refine T ?_
 refine bZ (bE rfl rfl rfl rfl) rfl (fun hc=>(aJ (l:=(qn e1.Val)) rfl (bg et hc) G0 rfl fH (hI.kblk (l:=(qn e1.Val)) .z rfl).1)) ?_
 refine bZ (bE rfl rfl rfl rfl) rfl (fun hc=>aV (vs:=[]) (cs:=#[vi 0,vi 0]) rfl trivial (by kernel_rfl)) ?_
 refine bZ (bE rfl rfl rfl rfl) rfl (fun hc=>jr rfl (bg et hc) (bg et hc) (xl ..) (uT ..)) ?_
 refine T ?_
 refine bc h et (fun hb h=> ?_) (fun hb h=> ?_)
 ·refine T ?_
  refine al ?_
  obtain rfl:=ac h
  exact QF hI
 refine T ?_
 refine bZ (bE rfl rfl rfl rfl) rfl (fun hc=>(aJ (l:=(gz e1.Type_)) rfl (bg et hc) tj rfl d4 (hI.kblk (l:=(gz e1.Type_)) .z rfl).1)) ?_
 refine bZ (bE rfl rfl rfl rfl) rfl (fun hc=>aV (vs:=[]) (cs:=th) rfl trivial (by kernel_rfl)) ?_
 refine bZ (bE rfl rfl rfl rfl) rfl (fun hc=>jr rfl (bg et hc) (bg et hc) (xk ..) (qS ..)) ?_
 refine T ?_
 refine bc h et (fun hb h=> ?_) (fun hb h=> ?_)
 ·refine T ?_
  refine al ?_
  obtain rfl:=ac h
  exact QF hI
 refine T ?_
 refine bZ (bE rfl rfl rfl rfl) rfl (fun hc=>(aJ (l:=(gx e1.Lin a1 c1)) rfl (bg et hc) rZ rfl aW (hI.kblk (l:=(gx e1.Lin a1 c1)) .z rfl).1)) ?_
 obtain⟨r1,hx1,h⟩:=af h
 replace hx1:=aP hx1
 refine dx (v:=(vb r1)) (bE rfl rfl rfl rfl) rfl (fun hc=>(ag (vs:=[(Value.agg (bI e1.Lin a1 c1))]) rfl CP ⟨(bg et hc),trivial⟩)) (fun hc=>(qE (Dj F c5) w3 hI.lt e1.Lin a1 c1 ⟨(hI.get (.s .z)),trivial⟩ r1 (hx1 hc)).mono fun _ _ k=>⟨k.1,k.2.1⟩) ?_
 intro w4 hx2;replace hI:=hI.ext hx2
 refine T ?_
 refine bc h et (fun hb h=> ?_) (fun hb h=> ?_)
 ·refine T ?_
  refine al ?_
  obtain rfl:=ac h
  exact QF hI
 refine T ?_
 refine bc h et (fun hb h=> ?_) (fun hb h=> ?_)
 ·refine T ?_
  refine al ?_
  obtain rfl:=ac h
  exact QF hI
 refine T ?_
 have hI:=hI.add (c:=qi (Value.func (.func 197) #[] #[]) g9) ⟨rfl,fun D' w' hs hl x_1 A_2 c_3 A_4 c_5 r k h=>CallV.fn (cap:=[]) Gl (tG D' w' hl x_1 A_2 c_3 A_4 c_5 ⟨k.1,k.2.1,trivial⟩ r h)⟩
 obtain⟨r2,hx3,h⟩:=af h
 refine aE gn rfl (ag (vs:=[vs a2 e1.Idx.length c2,(Value.func (.func 197) #[] #[])]) rfl zw ⟨et,⟨nn,trivial⟩⟩) (Calls.mono (dy (Dj F c5) w4 hI.lt e1.Idx g9 a2 c2 (Value.func (.func 197) #[] #[]) ⟨(hI.get (.s (.s (.s .z)))),(hI.get .z),trivial⟩ r2 hx3) ?_)
 rintro _ w5 ⟨rfl,hx4,hl2⟩
 refine⟨_,rfl,?_⟩
 replace hI:=(hI.ext hx4)
 refine T ?_
 refine al ?_
 obtain rfl:=ac h
 exact QF hI
theorem vk (F:NP) (w0:World) (hF:∀ k,F k→k<w0.heap.size) (x1:GIndex) (a1:Option Addr) (c1:Nat) (a2:Option Addr) (c2:Nat) (hc:AllCl [Cl.sl aj a1 c1 x1.Lin.L,Cl.sl ju a2 c2 x1.At,aA] F w0) (r:Bool)
  (h:iQ x1=some r):
  Calls Tryz.prog 199 #[(Value.agg (eF x1 a1 c1 a2 c2))] w0 fun e w=>e= .returned (vb r)∧Ext w0 w∧AllCl [] F w:=by
 refine aL Tryz.func199 rfl Tryz.ntmps199 rfl ?_
 have hI:=Bun.start hF hc
 clear hc
 rw[iQ]at h
 refine sr (fU (v:=(Value.agg (eF x1 a1 c1 a2 c2))) (cs:=(eF x1 a1 c1 a2 c2)) hI gn rfl rfl et rfl ?_)
 clear hI;intro b1 c3 w1 hI
 obtain⟨c4,hI⟩:=hI.relBox .z
 refine T ?_
 obtain⟨r1,hx1,h⟩:=af h
 replace hx1:=aP hx1
 refine dx (v:=(vb r1)) (bE rfl rfl rfl rfl) rfl (fun hc=>(ag (vs:=[(aC x1.From)]) rfl zx ⟨(bg et hc),trivial⟩)) (fun hc=>(nF (Dj F c4) w1 hI.lt x1.From ⟨(hI.get (.s (.s (.s .z)))),trivial⟩ r1 (hx1 hc)).mono fun _ _ k=>⟨k.1,k.2.1⟩) ?_
 intro w2 hx2;replace hI:=hI.ext hx2
 refine T ?_
 refine al ?_
 obtain rfl:=ac h
 exact QF hI
theorem xx (F:NP) (w0:World) (hF:∀ k,F k→k<w0.heap.size) (e1:GExpr) (a1:Option Addr) (c1:Nat) (a2:Option Addr) (c2:Nat) (a3:Option Addr) (c3:Nat) (hc:AllCl [Cl.sl aj a1 c1 e1.Lin.L,Cl.sl ak a2 c2 e1.Idx,Cl.sl au a3 c3 e1.Args,aA] F w0) (r:Bool)
  (h:l0 e1=some r):
  Calls Tryz.prog 145 #[(Value.agg (am e1 a1 c1 a2 c2 a3 c3))] w0 fun e w=>e= .returned (vb r)∧Ext w0 w∧AllCl [] F w:=by
 refine aL Tryz.func145 rfl Tryz.ntmps145 rfl ?_
 have hI:=Bun.start hF hc
 clear hc
 rw[l0]at h
 refine sr (fU (v:=(Value.agg (am e1 a1 c1 a2 c2 a3 c3))) (cs:=(am e1 a1 c1 a2 c2 a3 c3)) hI gn rfl rfl et rfl ?_)
 clear hI;intro b1 c4 w1 hI
 obtain⟨c5,hI⟩:=hI.relBox .z
 refine T ?_
 refine aB (T ?_)
 obtain⟨r1,hx1,h⟩:=af h
 replace hx1:=aP hx1
 refine dx (v:=(vb r1)) (bE rfl rfl rfl rfl) rfl (fun hc=>(ag (vs:=[(aC e1.Name)]) rfl zx ⟨(bg et hc),trivial⟩)) (fun hc=>(nF (Dj F c5) w1 hI.lt e1.Name ⟨(hI.get (.s (.s (.s (.s .z))))),trivial⟩ r1 (hx1 hc)).mono fun _ _ k=>⟨k.1,k.2.1⟩) ?_
 intro w2 hx2;replace hI:=hI.ext hx2
 refine T ?_
 refine bc h et (fun hb h=> ?_) (fun hb h=> ?_)
 ·refine T ?_
  refine al ?_
  obtain rfl:=ac h
  exact QF hI
 refine T ?_
 have hI:=hI.add (c:=qi (Value.func (.func 199) #[] #[]) iQ) ⟨rfl,fun D' w' hs hl x_1 A_2 c_3 A_4 c_5 r k h=>CallV.fn (cap:=[]) Gj (vk D' w' hl x_1 A_2 c_3 A_4 c_5 ⟨k.1,k.2.1,(Cl.sp _ hs (hI.get (.s (.s (.s (.s .z)))))),trivial⟩ r h)⟩
 obtain⟨r2,hx3,h⟩:=af h
 refine aE gn rfl (ag (vs:=[vs a2 e1.Idx.length c2,(Value.func (.func 199) #[] #[])]) rfl zw ⟨et,⟨nn,trivial⟩⟩) (Calls.mono (dy (Dj F c5) w2 hI.lt e1.Idx iQ a2 c2 (Value.func (.func 199) #[] #[]) ⟨(hI.get (.s (.s (.s .z)))),(hI.get .z),trivial⟩ r2 hx3) ?_)
 rintro _ w3 ⟨rfl,hx4,hl2⟩
 refine⟨_,rfl,?_⟩
 replace hI:=(hI.ext hx4)
 refine T ?_
 refine al ?_
 obtain rfl:=ac h
 exact QF hI
theorem tH (F:NP) (w0:World) (hF:∀ k,F k→k<w0.heap.size) (op1:Int) (hc:AllCl [] F w0) (r:Int)
  (h:ka op1=some r):
  Calls Tryz.prog 200 #[vi op1] w0 fun e w=>e= .returned (vi r)∧Ext w0 w∧AllCl [] F w:=by
 refine aL Tryz.func200 rfl Tryz.ntmps200 rfl ?_
 have hI:=Bun.start hF hc
 clear hc
 rw[ka]at h
 refine T ?_
 refine aB (T ?_)
 refine du (α:=Bool) (fun _=>⟨14,[]⟩) (fun x=>[(3,vi op1),(4,vb x)]) (fun x=>fun w=>∃ C,Bun d5 F w0 C w [] []∧gw op1 x=some r) ?_ ?_
 ·clear h hI;rintro i1 w1 ⟨c1,hI,h⟩
  try dsimp only at hI h
  rw[gw]at h
  refine bz (e:=[(3,vi op1),(4,vb i1)]) SB ?_
  refine bc h et (fun hb h=> ?_) (fun hb h=> ?_)
  ·refine T ?_
   refine al ?_
   obtain rfl:=ac h
   exact QF hI
  refine du (α:=Bool) (fun _=>⟨14,[]⟩) (fun x=>[(3,vi op1),(8,vb x)]) (fun x=>fun w=>∃ C,Bun d5 F w0 C w [] []∧gu op1 x=some r) ?_ ?_
  ·clear h hI;rintro i2 w2 ⟨c2,hI,h⟩
   try dsimp only at hI h
   rw[gu]at h
   refine bz (e:=[(3,vi op1),(8,vb i2)]) SB ?_
   refine bc h et (fun hb h=> ?_) (fun hb h=> ?_)
   ·refine T ?_
    refine al ?_
    obtain rfl:=ac h
    exact QF hI
   refine T ?_
   refine bc h et (fun hb h=> ?_) (fun hb h=> ?_)
   ·refine T ?_
    refine al ?_
    obtain rfl:=ac h
    exact QF hI
   refine T ?_
   refine al ?_
   obtain rfl:=ac h
   exact QF hI
  refine T ?_
  refine bc h et (fun hb h=> ?_) (fun hb h=> ?_)
  ·exact cc (bi (decide (op1=8)) SB ⟨_,hI.arr GO SU,h⟩ rfl)
  refine T ?_
  refine bc h et (fun hb h=> ?_) (fun hb h=> ?_)
  ·exact cc (bi (decide (op1=12)) SB ⟨_,hI.arr GO SU,h⟩ rfl)
  refine T ?_
  refine bl ?_
  exact bi (decide (op1=18)) SB ⟨_,hI.arr GO SU,h⟩ rfl
 refine T ?_
 refine bc h et (fun hb h=> ?_) (fun hb h=> ?_)
 ·exact cc (bi (decide (op1=1)) SB ⟨_,hI.arr GO SU,h⟩ rfl)
 refine T ?_
 refine bc h et (fun hb h=> ?_) (fun hb h=> ?_)
 ·exact cc (bi (decide (op1=2)) SB ⟨_,hI.arr GO SU,h⟩ rfl)
 refine T ?_
 refine bl ?_
 exact bi (decide (op1=3)) SB ⟨_,hI.arr GO SU,h⟩ rfl
theorem vR (F:NP) (w0:World) (hF:∀ k,F k→k<w0.heap.size) (x1:GIndex) (a1:Option Addr) (c1:Nat) (a2:Option Addr) (c2:Nat) (hc:AllCl [Cl.sl aj a1 c1 x1.Lin.L,Cl.sl ju a2 c2 x1.At] F w0) (r:Bool)
  (h:kj x1=some r):
  Calls Tryz.prog 201 #[(Value.agg (eF x1 a1 c1 a2 c2))] w0 fun e w=>e= .returned (vb r)∧Ext w0 w∧AllCl [] F w:=by
 refine aL Tryz.func201 rfl Tryz.ntmps201 rfl ?_
 have hI:=Bun.start hF hc
 clear hc
 rw[kj]at h
 refine sr (fU (v:=(Value.agg (eF x1 a1 c1 a2 c2))) (cs:=(eF x1 a1 c1 a2 c2)) hI gn rfl rfl et rfl ?_)
 clear hI;intro b1 c3 w1 hI
 obtain⟨c4,hI⟩:=hI.relBox .z
 refine T ?_
 refine al ?_
 obtain rfl:=ac h
 exact QF hI
theorem yT (F:NP) (w0:World) (hF:∀ k,F k→k<w0.heap.size) (e1:GExpr) (a1:Option Addr) (c1:Nat) (a2:Option Addr) (c2:Nat) (a3:Option Addr) (c3:Nat) (hc:AllCl [Cl.sl aj a1 c1 e1.Lin.L,Cl.sl ak a2 c2 e1.Idx,Cl.sl au a3 c3 e1.Args] F w0) (r:Bool)
  (h:mO e1=some r):
  Calls Tryz.prog 146 #[(Value.agg (am e1 a1 c1 a2 c2 a3 c3))] w0 fun e w=>e= .returned (vb r)∧Ext w0 w∧AllCl [] F w:=by
 refine aL Tryz.func146 rfl Tryz.ntmps146 rfl ?_
 have hI:=Bun.start hF hc
 clear hc
 rw[mO]at h
 refine sr (fU (v:=(Value.agg (am e1 a1 c1 a2 c2 a3 c3))) (cs:=(am e1 a1 c1 a2 c2 a3 c3)) hI gn rfl rfl et rfl ?_)
 clear hI;intro b1 c4 w1 hI
 obtain⟨c5,hI⟩:=hI.relBox .z
 refine T ?_
 refine aB (aB (bx [] false (.c (0,.q) (.c (1,.q) (.c (2,.q) (.c (3,.q) (.c (4,.q) (.c (5,.s) (.c (6,.q) (.c (7,.q) (.c (8,.q) (.c (9,.q) (.c (10,.q) (.c (11,.q) (.c (12,.q) .n))))))))))))) hI (by kernel_rfl) (by kernel_rfl) ?_))
 clear hI;intro w2 hI
 refine V ?_
 obtain⟨r1,hx1,h⟩:=af h
 refine l8 rfl gn rfl (ag (vs:=[vi e1.Op]) rfl Gi ⟨et,trivial⟩) (Calls.mono (tH (Dj F c5) w2 hI.lt e1.Op trivial r1 hx1) ?_)
 rintro _ w3 ⟨rfl,hx2,hl1⟩
 refine⟨_,rfl,hx2,?_⟩
 replace hI:=(hI.ext hx2)
 refine V ?_
 refine bc h et (fun hb h=> ?_) (fun hb h=> ?_)
 ·refine T ?_
  refine al ?_
  obtain rfl:=ac h
  exact QF hI
 refine T ?_
 have hI:=hI.add (c:=qi (Value.func (.func 201) #[] #[]) kj) ⟨rfl,fun D' w' hs hl x_1 A_2 c_3 A_4 c_5 r k h=>CallV.fn (cap:=[]) Gh (vR D' w' hl x_1 A_2 c_3 A_4 c_5 ⟨k.1,k.2.1,trivial⟩ r h)⟩
 obtain⟨r2,hx3,h⟩:=af h
 refine aE gn rfl (ag (vs:=[vs a2 e1.Idx.length c2,(Value.func (.func 201) #[] #[])]) rfl zw ⟨et,⟨nn,trivial⟩⟩) (Calls.mono (dy (Dj F c5) w3 hI.lt e1.Idx kj a2 c2 (Value.func (.func 201) #[] #[]) ⟨(hI.get (.s (.s (.s .z)))),(hI.get .z),trivial⟩ r2 hx3) ?_)
 rintro _ w4 ⟨rfl,hx4,hl2⟩
 refine⟨_,rfl,?_⟩
 replace hI:=(hI.ext hx4)
 refine T ?_
 refine al ?_
 obtain rfl:=ac h
 exact QF hI
theorem qZ (F:NP) (w0:World) (hF:∀ k,F k→k<w0.heap.size) (e1:GExpr) (a1:Option Addr) (c1:Nat) (a2:Option Addr) (c2:Nat) (a3:Option Addr) (c3:Nat) (hc:AllCl [Cl.sl aj a1 c1 e1.Lin.L,Cl.sl ak a2 c2 e1.Idx,Cl.sl au a3 c3 e1.Args] F w0) (r:Bool)
  (h:jY e1=some r):
  Calls Tryz.prog 203 #[(Value.agg (am e1 a1 c1 a2 c2 a3 c3))] w0 fun e w=>e= .returned (vb r)∧Ext w0 w∧AllCl [] F w:=by
 refine aL Tryz.func203 rfl Tryz.ntmps203 rfl ?_
 have hI:=Bun.start hF hc
 clear hc
 rw[jY]at h
 refine sr (fU (v:=(Value.agg (am e1 a1 c1 a2 c2 a3 c3))) (cs:=(am e1 a1 c1 a2 c2 a3 c3)) hI gn rfl rfl et rfl ?_)
 clear hI;intro b1 c4 w1 hI
 obtain⟨c5,hI⟩:=hI.relBox .z
 refine T ?_
 refine al ?_
 obtain rfl:=ac h
 exact QF hI
theorem ox (F:NP) (w0:World) (hF:∀ k,F k→k<w0.heap.size) (op1:Int) (i1:Int) (hc:AllCl [] F w0) (r:Bool)
  (h:eX op1 i1=some r):
  Calls Tryz.prog 204 #[vi op1,vi i1] w0 fun e w=>e= .returned (vb r)∧Ext w0 w∧AllCl [] F w:=by
 refine aL Tryz.func204 rfl Tryz.ntmps204 rfl ?_
 have hI:=Bun.start hF hc
 clear hc
 rw[eX]at h
 refine T ?_
 refine aB (T ?_)
 refine aB (T ?_)
 refine bc h et (fun hb h=> ?_) (fun hb h=> ?_)
 ·refine T ?_
  refine bc h et (fun hb h=> ?_) (fun hb h=> ?_)
  ·refine T ?_
   refine al ?_
   obtain rfl:=ac h
   exact QF hI
  refine T ?_
  refine al ?_
  obtain rfl:=ac h
  exact QF hI
 refine T ?_
 refine bc h et (fun hb h=> ?_) (fun hb h=> ?_)
 ·refine T ?_
  refine bc h et (fun hb h=> ?_) (fun hb h=> ?_)
  ·refine T ?_
   refine al ?_
   obtain rfl:=ac h
   exact QF hI
  refine T ?_
  refine al ?_
  obtain rfl:=ac h
  exact QF hI
 refine T ?_
 refine bc h et (fun hb h=> ?_) (fun hb h=> ?_)
 ·refine T ?_
  refine al ?_
  obtain rfl:=ac h
  exact QF hI
 refine T ?_
 refine al ?_
 obtain rfl:=ac h
 exact QF hI
end Go.Proofs.YtmhoikfoogemnaaGreatDoor
