import Derived.Test.YtmhoikfoogemnaaGreatDoorKCQ3d
import Derived.Test.YtmhoikfoogemnaaGreatDoorKLfJ
namespace Go.Proofs.YtmhoikfoogemnaaGreatDoor
open Go Go.RowKit Go.Vc
set_option maxRecDepth 100000
set_option maxHeartbeats 4000000
set_option linter.unusedVariables false
set_option linter.unusedSimpArgs false
def cJ:Tr:=(.c (4,.s) (.c (5,.q) (.c (6,.s) .n)))
variable {σ:Type} {C0 F:NP} {w0:World} {a1 a2 a3 a4 a5 a6 a7 a8 a9 a10 a11 a12:Option Addr} {b1 b2 b3 b4 b5 b6 b7 b8 b9 b10 b11 b12 c1 c2 c3 c4 c5 c6 c7 c8 c9 c10 c11 c12:Nat}
theorem pt {rec_:(aa→Option (bz (GExpr×aa)))} (hrec:x9 rec_) {r1:aa} {signs1:List (List UInt8)} {ops1:List Int} (hI:Bun C0 F w0 C0 w0 [MO.box b1 67 (af r1 a1 c1)] [Cl.sl ag a1 c1 r1.l,Cl.sl dF a2 c2 signs1,Cl.sl (l5 .i64) a3 c3 ops1,av]) {r:bz (GExpr×aa)} (h:hV rec_ r1 signs1 ops1=some r):CP C0 F w0 74 #[vp b1 0,(Value.func (.func 140) #[vp b1 0] #[]),vs a2 signs1.length c2,vs a3 ops1.length c3] r fun rx e w=>∃ a4 c4 a5 c5 a6 c6 a7 c7 C,e= .returned (Value.agg (aq rx.1 a4 c4 a5 c5 a6 c6))∧Bun C0 F w0 C w [MO.box b1 67 (af rx.2 a7 c7)] [Cl.sl ai a4 c4 rx.1.Lin.L,Cl.sl ak a5 c5 rx.1.Idx,Cl.sl an a6 c6 rx.1.Args,Cl.sl ag a7 c7 rx.2.l]:=by
 refine fU (l:=[vp b1 0,(Value.func (.func 140) #[vp b1 0] #[]),vs a2 signs1.length c2,vs a3 ops1.length c3]) Tryz.func74 rfl Tryz.ntmps74 rfl ?_
 rw[hV]at h
 refine sr (cF (cs:=#[vi 0,(aE ([]:List UInt8)),vi 0,vi 0,vi 0,vi 0,vi 0,vi 0,vi 0,vi 0,vs none 0 0,vs none 0 0,vs none 0 0]) hI gn rfl rfl dN rfl ?_)
 intro b2 c8 w1 hI
 refine T ?_
 obtain⟨c9,f1,hB,hl1,hk1⟩:=hI.hands (.r (.l .n))
 refine eG h (fun _ hx1=>gR hrec HS hx1) (lw hk1) (gO (fs:=[vp b1 0]) (vs:=[]) (cap:=[]) rfl et vV trivial) ?_
 rintro⟨r2,s1⟩ hx1 h _ w2 ⟨a8,c10,a9,c11,a10,c12,a11,c13,c14,rfl,hB2⟩
 try dsimp only at h
 refine HN hk1 hB2 fun c15 hI=> ?_
 refine⟨_,rfl,?_⟩
 refine lN fun b3 c16 w3 hI=> ?_
 refine lA fun c17 w4 hI=> ?_
 refine T ?_
 refine bh (α:=Nat×aa×GExpr×(Option Addr)×Nat×(Option Addr)×Nat×(Option Addr)×Nat×(Option Addr)×Nat) (fun x=>fun w=>∃ C,Bun C0 F w0 C w [MO.box b1 67 (af (x.2.1) (x.2.2.2.1) (x.2.2.2.2.1)),MO.box b2 39 #[vi 0,(aE ([]:List UInt8)),vi 0,vi 0,vi 0,vi 0,vi 0,vi 0,vi 0,vi 0,vs none 0 0,vs none 0 0,vs none 0 0],MO.box b3 39 (aq (x.2.2.1) (x.2.2.2.2.2.1) (x.2.2.2.2.2.2.1) (x.2.2.2.2.2.2.2.1) (x.2.2.2.2.2.2.2.2.1) (x.2.2.2.2.2.2.2.2.2.1) (x.2.2.2.2.2.2.2.2.2.2))] [Cl.sl ag (x.2.2.2.1) (x.2.2.2.2.1) (x.2.1).l,Cl.sl ai (x.2.2.2.2.2.1) (x.2.2.2.2.2.2.1) (x.2.2.1).Lin.L,Cl.sl ak (x.2.2.2.2.2.2.2.1) (x.2.2.2.2.2.2.2.2.1) (x.2.2.1).Idx,Cl.sl an (x.2.2.2.2.2.2.2.2.2.1) (x.2.2.2.2.2.2.2.2.2.2) (x.2.2.1).Args,Cl.sl dF a2 c2 signs1,Cl.sl (l5 .i64) a3 c3 ops1,av]∧bE signs1 ops1 rec_ (x.1) (x.2.1) (x.2.2.1)=some r) (fun x _=>x.1) (fun x=>[(0,vp b1 0),(1,(Value.func (.func 140) #[vp b1 0] #[])),(2,vs a2 signs1.length c2),(3,vs a3 ops1.length c3),(8,vp b2 0),(9,vp b3 0)]) (fu,s1,r2,a11,c13,a8,c10,a9,c11,a10,c12) ⟨_,hI.arr (.c (.s .z) (.c (.s .z) (.c .z .n))) ⟨(.s (.s (.s .z))),.z,(.s .z),(.s (.s .z)),(.s (.s (.s (.s (.s .z))))),(.s (.s (.s (.s (.s (.s .z)))))),(.s (.s (.s (.s (.s (.s (.s .z))))))),trivial⟩,h⟩ ⟨rfl,rfl,rfl,rfl,rfl,rfl,trivial⟩ ?_
 clear h hI;rintro⟨fuel1,r3,e1,a12,c18,a13,c19,a14,c20,a15,c21⟩ w5 ⟨c22,hI,h⟩
 dsimp only at hI h ⊢
 rcases fuel1 with _ | fuel1
 ·rw[bE]at h;cases h
 rw[bE]at h
 refine T ?_
 refine bw (α:=Int×aa×(Option Addr)×Nat) (fun _=>⟨43,[]⟩) (fun x=>[(0,vp b1 0),(1,(Value.func (.func 140) #[vp b1 0] #[])),(2,vs a2 signs1.length c2),(3,vs a3 ops1.length c3),(8,vp b2 0),(9,vp b3 0),(10,vi (x.1))]) (fun x=>fun w=>∃ C,Bun C0 F w0 C w [MO.box b1 67 (af (x.2.1) (x.2.2.1) (x.2.2.2)),MO.box b2 39 #[vi 0,(aE ([]:List UInt8)),vi 0,vi 0,vi 0,vi 0,vi 0,vi 0,vi 0,vi 0,vs none 0 0,vs none 0 0,vs none 0 0],MO.box b3 39 (aq e1 a13 c19 a14 c20 a15 c21)] [Cl.sl ag (x.2.2.1) (x.2.2.2) (x.2.1).l,Cl.sl dF a2 c2 signs1,Cl.sl (l5 .i64) a3 c3 ops1,Cl.sl ai a13 c19 e1.Lin.L,Cl.sl ak a14 c20 e1.Idx,Cl.sl an a15 c21 e1.Args,av]∧iR e1 rec_ (bE signs1 ops1 rec_ fuel1) (x.1) (x.2.1)=some r) ?_ ?_
 ·clear h hI;rintro⟨op1,r4,a16,c23⟩ w6 ⟨c24,hI,h⟩
  try dsimp only at hI h ⊢
  rw[iR]at h
  refine al (T ?_)
  refine TC (fun hb h=> ?_) fun hb h=> ?_
  ·refine T ?_
   refine lA fun c25 w7 hI=> ?_
   refine nk (aA ?_)
   obtain rfl:=aj h
   exact eV (vs:=[(Value.agg (aq e1 a13 c19 a14 c20 a15 c21))]) Tryz.results74 ⟨⟨_,aK rfl rfl,ci (l:=(aX e1 a13 c19 a14 c20 a15 c21)) jT rfl aC (CellsAt.of_blk (hI.blk (.s .z)) rfl)⟩,trivial⟩ (.inl ⟨_,rfl,a13,c19,a14,c20,a15,c21,a16,c23,_,rfl,hI.arr (.c .z .n) ⟨(.s (.s (.s .z))),(.s (.s (.s (.s .z)))),(.s (.s (.s (.s (.s .z))))),.z,trivial⟩⟩)
  refine T ?_
  rcases iM h with⟨⟨r5,s2⟩,hx2,h⟩ | ⟨pa_,pn_,hx2,hp_⟩
  rotate_left
  ·subst hp_
   refine aI [3,6] false (.c (0,.q) (.c (2,.q) (.two 1 (.c (3,.s) cJ) 3 (.c (1,.s) cJ)))) hI (by kernel_rfl) (by kernel_rfl) ?_
   intro w12 hI
   refine V ?_
   refine da ?_ ?_
   ·skip
    refine bn rfl gn rfl (am (l:=(aX e1 a13 c19 a14 c20 a15 c21)) rfl et jT rfl aC (CellsAt.of_blk (hI.blk (.s (.s .z))) rfl)) SX.self ?_
    refine bJ (F:=F) (C:=c24) rfl rfl ?_
    obtain⟨c26,f2,hB,hl2,hk2⟩:=hI.hands (.l (.r (.r .n)))
    refine fp rfl gn rfl (gO (fs:=[vp b1 0]) (vs:=[]) (cap:=[]) rfl et vV trivial) (Calls.mono (gR hrec HS hx2) ?_)
    intro e_ w_ hq_;obtain⟨rfl,C_,hB_⟩:=eY hq_;obtain⟨C9_,-,hI_⟩:=hk2 _ _ _ _ hB_;exact .inr ⟨_,rfl,iK (.inr ⟨_,_,rfl,rfl,⟨_,hI_.arr .n trivial⟩⟩)⟩
   refine bu (F:=F) (C:=c24) rfl rfl ?_
   obtain⟨c26,f2,hB,hl2,hk2⟩:=hI.hands (.l (.r (.r .n)))
   refine fp rfl gn rfl (gO (fs:=[vp b1 0]) (vs:=[]) (cap:=[]) rfl et vV trivial) (Calls.mono (gR hrec HS hx2) ?_)
   intro e_ w_ hq_;obtain⟨rfl,C_,hB_⟩:=eY hq_;obtain⟨C9_,-,hI_⟩:=hk2 _ _ _ _ hB_;exact .inr ⟨_,rfl,iK (.inr ⟨_,_,rfl,rfl,⟨_,hI_.arr .n trivial⟩⟩)⟩
  try dsimp only at h
  refine aI [3,6] false (.c (0,.q) (.c (2,.q) (.two 1 (.c (3,.s) cJ) 3 (.c (1,.s) cJ)))) hI (by kernel_rfl) (by kernel_rfl) ?_
  intro w13 hI
  refine cj (α:=(Option Addr)×Nat×(Option Addr)×Nat×(Option Addr)×Nat×(Option Addr)×Nat×NP) (T:=cJ) (fun x=>[(0,vp b1 0),(1,(Value.func (.func 140) #[vp b1 0] #[])),(2,vs a2 signs1.length c2),(3,vs a3 ops1.length c3),(8,vp b2 0),(9,vp b3 0),(10,vi op1),(34,vi op1),(35,(vb (decide (op1=0)))),(37,vi op1),(38,(Value.agg (aq e1 a13 c19 a14 c20 a15 c21))),(39,(Value.func (.func 140) #[vp b1 0] #[])),(40,(Value.agg (aq r5 (x.1) (x.2.1) (x.2.2.1) (x.2.2.2.1) (x.2.2.2.2.1) (x.2.2.2.2.2.1))))]) (fun x w=>Bun C0 F w0 (x.2.2.2.2.2.2.2.2) w [MO.box b1 67 (af s2 (x.2.2.2.2.2.2.1) (x.2.2.2.2.2.2.2.1)),MO.box b2 39 #[vi 0,(aE ([]:List UInt8)),vi 0,vi 0,vi 0,vi 0,vi 0,vi 0,vi 0,vi 0,vs none 0 0,vs none 0 0,vs none 0 0],MO.box b3 39 (aq e1 a13 c19 a14 c20 a15 c21)] [Cl.sl ai (x.1) (x.2.1) r5.Lin.L,Cl.sl ak (x.2.2.1) (x.2.2.2.1) r5.Idx,Cl.sl an (x.2.2.2.2.1) (x.2.2.2.2.2.1) r5.Args,Cl.sl ag (x.2.2.2.2.2.2.1) (x.2.2.2.2.2.2.2.1) s2.l,Cl.sl ag a16 c23 r4.l,Cl.sl dF a2 c2 signs1,Cl.sl (l5 .i64) a3 c3 ops1,Cl.sl ai a13 c19 e1.Lin.L,Cl.sl ak a14 c20 e1.Idx,Cl.sl an a15 c21 e1.Args,av]) (fun x w=>SN [] (DM true F (x.2.2.2.2.2.2.2.2)) w) ?_ ?_
  ·clear hI;rintro⟨a17,c27,a18,c28,a19,c29,a20,c30,c35⟩ w11 hI
   try dsimp only at hI ⊢
   unfold cJ
   refine vl hI an ([e1,r5]:List GExpr) jr (.cs (dM ⟨a13,c19,a14,c20,a15,c21,rfl,hI.get (.s (.s (.s (.s (.s (.s (.s .z))))))),hI.get (.s (.s (.s (.s (.s (.s (.s (.s .z)))))))),hI.get (.s (.s (.s (.s (.s (.s (.s (.s (.s .z)))))))))⟩) (.cs (dM ⟨a17,c27,a18,c28,a19,c29,rfl,hI.get .z,hI.get (.s .z),hI.get (.s (.s .z))⟩) .nl)) fun b4 c33 w9 hI=> ?_
   refine l6 rfl gn rfl (fun w'=>(ax (vs:=[(0,vi op1),(6,vs (some ⟨b4,0,none⟩) ([e1,r5]:List GExpr).length 2)]) (cs:=#[vi op1,(aE ([]:List UInt8)),vi 0,vi 0,vi 0,vi 0,vi 0,vi 0,vi 0,vi 0,vs none 0 0,vs none 0 0,vs (some ⟨b4,0,none⟩) ([e1,r5]:List GExpr).length 2]) rfl ⟨rfl,et,⟨rfl,et,trivial⟩⟩ (by kernel_rfl))) ?_
   refine vA fun c34 w10 hI=> ?_
   refine oq ?_
   have hI:=hI.add (c:=Cl.sl ai none 0 ([]:List GMono)) SlC.nil
   have hI:=hI.add (c:=Cl.sl ak none 0 ([]:List GIndex)) SlC.nil
   obtain⟨c36,hI⟩:=hI.release .z
   exact jY (fuel1,s2,(⟨op1,([]:List UInt8),(⟨0,0⟩:GVal),(⟨0,0,0,0,0⟩:GType),(⟨0,([]:List GMono)⟩:GLin),([]:List GIndex),([e1,r5]:List GExpr)⟩:GExpr),a20,c30,none,0,none,0,some ⟨b4,0,none⟩,2) ⟨rfl,rfl,rfl,rfl,rfl,rfl,trivial⟩ ⟨_,hI.arr (.c .z (.c .z (.c .z .n))) ⟨(.s (.s (.s (.s (.s (.s .z)))))),(.s (.s .z)),(.s .z),.z,(.s (.s (.s (.s (.s (.s (.s (.s .z)))))))),(.s (.s (.s (.s (.s (.s (.s (.s (.s .z))))))))),(.s (.s (.s (.s (.s (.s (.s (.s (.s (.s (.s (.s (.s .z))))))))))))),trivial⟩,h⟩ (Nat.lt_succ_self _)
  intro hk_tr_parser_reader_chain_w2_3_0
  refine V ?_
  refine da ?_ ?_
  ·skip
   refine bn rfl gn rfl (am (l:=(aX e1 a13 c19 a14 c20 a15 c21)) rfl et jT rfl aC (CellsAt.of_blk (hI.blk (.s (.s .z))) rfl)) SX.self ?_
   refine bJ (F:=F) (C:=c24) rfl rfl ?_
   obtain⟨c26,f2,hB,hl2,hk2⟩:=hI.hands (.l (.r (.r .n)))
   refine fo rfl gn rfl (gO (fs:=[vp b1 0]) (vs:=[]) (cap:=[]) rfl et vV trivial) (Calls.mono (gR hrec HS hx2) ?_)
   intro e_ w8 hq_;obtain⟨a17,c27,a18,c28,a19,c29,a20,c30,c31,rfl,hB2⟩:=eX hq_
   obtain⟨c32,hs2,hI⟩:=hk2 _ _ _ _ hB2
   dsimp only[ca,na]at hI
   refine⟨_,rfl,DM true F c32,hs2,?_⟩
   exact aW (hk_tr_parser_reader_chain_w2_3_0 (a17,c27,a18,c28,a19,c29,a20,c30,c32) _ (hI.arr (.c .z (.c .z (.c .z .n))) ⟨.z,(.s .z),(.s (.s .z)),(.s (.s (.s .z))),(.s (.s (.s (.s .z)))),(.s (.s (.s (.s (.s .z))))),(.s (.s (.s (.s (.s (.s .z)))))),(.s (.s (.s (.s (.s (.s (.s .z))))))),(.s (.s (.s (.s (.s (.s (.s (.s .z)))))))),(.s (.s (.s (.s (.s (.s (.s (.s (.s .z))))))))),(.s (.s (.s (.s (.s (.s (.s (.s (.s (.s .z)))))))))),trivial⟩)) ⟨rfl,rfl,rfl,rfl,rfl,rfl,rfl,rfl,rfl,rfl,rfl,rfl,rfl,trivial⟩
  refine bu (F:=F) (C:=c24) rfl rfl ?_
  obtain⟨c26,f2,hB,hl2,hk2⟩:=hI.hands (.l (.r (.r .n)))
  refine fo rfl gn rfl (gO (fs:=[vp b1 0]) (vs:=[]) (cap:=[]) rfl et vV trivial) (Calls.mono (gR hrec HS hx2) ?_)
  intro e_ w8 hq_;obtain⟨a17,c27,a18,c28,a19,c29,a20,c30,c31,rfl,hB2⟩:=eX hq_
  obtain⟨c32,hs2,hI⟩:=hk2 _ _ _ _ hB2
  dsimp only[ca,na]at hI
  refine⟨_,rfl,DM true F c32,hs2,?_⟩
  refine bn rfl gn rfl (am (l:=(aX e1 a13 c19 a14 c20 a15 c21)) rfl et jT rfl aC (CellsAt.of_blk (hI.blk (.s (.s .z))) rfl)) SX.self ?_
  exact aW (hk_tr_parser_reader_chain_w2_3_0 (a17,c27,a18,c28,a19,c29,a20,c30,c32) _ (hI.arr (.c .z (.c .z (.c .z .n))) ⟨.z,(.s .z),(.s (.s .z)),(.s (.s (.s .z))),(.s (.s (.s (.s .z)))),(.s (.s (.s (.s (.s .z))))),(.s (.s (.s (.s (.s (.s .z)))))),(.s (.s (.s (.s (.s (.s (.s .z))))))),(.s (.s (.s (.s (.s (.s (.s (.s .z)))))))),(.s (.s (.s (.s (.s (.s (.s (.s (.s .z))))))))),(.s (.s (.s (.s (.s (.s (.s (.s (.s (.s .z)))))))))),trivial⟩)) ⟨rfl,rfl,rfl,rfl,rfl,rfl,rfl,rfl,rfl,rfl,rfl,rfl,rfl,trivial⟩
 refine T ?_
 refine bh (α:=Nat×Int×Int×aa×(Option Addr)×Nat) (fun x=>fun w=>∃ C,Bun C0 F w0 C w [MO.box b1 67 (af (x.2.2.2.1) (x.2.2.2.2.1) (x.2.2.2.2.2)),MO.box b2 39 #[vi 0,(aE ([]:List UInt8)),vi 0,vi 0,vi 0,vi 0,vi 0,vi 0,vi 0,vi 0,vs none 0 0,vs none 0 0,vs none 0 0],MO.box b3 39 (aq e1 a13 c19 a14 c20 a15 c21)] [Cl.sl ag (x.2.2.2.2.1) (x.2.2.2.2.2) (x.2.2.2.1).l,Cl.sl dF a2 c2 signs1,Cl.sl (l5 .i64) a3 c3 ops1,Cl.sl ai a13 c19 e1.Lin.L,Cl.sl ak a14 c20 e1.Idx,Cl.sl an a15 c21 e1.Args,av]∧bX signs1 ops1 e1 rec_ (bE signs1 ops1 rec_ fuel1) (x.1) (x.2.1) (x.2.2.1) (x.2.2.2.1)=some r) (fun x _=>x.1) (fun x=>[(0,vp b1 0),(1,(Value.func (.func 140) #[vp b1 0] #[])),(2,vs a2 signs1.length c2),(3,vs a3 ops1.length c3),(8,vp b2 0),(9,vp b3 0),(10,vi (x.2.1)),(15,vs a2 signs1.length c2),(16,vi (signs1.length:Int)),(17,vi (x.2.2.1))]) (fu,0,0,r3,a12,c18) ⟨_,hI.arr (.c .z (.c .z (.c .z .n))) ⟨.z,(.s (.s (.s (.s .z)))),(.s (.s (.s (.s (.s .z))))),(.s .z),(.s (.s .z)),(.s (.s (.s .z))),(.s (.s (.s (.s (.s (.s .z)))))),trivial⟩,h⟩ ⟨rfl,rfl,rfl,rfl,rfl,rfl,rfl,rfl,rfl,rfl,trivial⟩ ?_
 clear h hI;rintro⟨fuel2,op2,i1,r6,a21,c37⟩ w14 ⟨c38,hI,h⟩
 dsimp only at hI h ⊢
 rcases fuel2 with _ | fuel2
 ·rw[bX]at h;cases h
 rw[bX]at h
 refine T ?_
 refine al (vm h et (fun hb h=> ?_) (fun hb h=> ?_))
 ·refine T ?_
  refine bw (α:=Int×aa×(Option Addr)×Nat) (fun _=>⟨43,[]⟩) (fun x=>[(0,vp b1 0),(1,(Value.func (.func 140) #[vp b1 0] #[])),(2,vs a2 signs1.length c2),(3,vs a3 ops1.length c3),(8,vp b2 0),(9,vp b3 0),(10,vi (x.1)),(15,vs a2 signs1.length c2),(16,vi (signs1.length:Int)),(17,vi i1)]) (fun x=>fun w=>∃ C,Bun C0 F w0 C w [MO.box b1 67 (af (x.2.1) (x.2.2.1) (x.2.2.2)),MO.box b2 39 #[vi 0,(aE ([]:List UInt8)),vi 0,vi 0,vi 0,vi 0,vi 0,vi 0,vi 0,vi 0,vs none 0 0,vs none 0 0,vs none 0 0],MO.box b3 39 (aq e1 a13 c19 a14 c20 a15 c21)] [Cl.sl ag (x.2.2.1) (x.2.2.2) (x.2.1).l,Cl.sl dF a2 c2 signs1,Cl.sl (l5 .i64) a3 c3 ops1,Cl.sl ai a13 c19 e1.Lin.L,Cl.sl ak a14 c20 e1.Idx,Cl.sl an a15 c21 e1.Args,av]∧gl (bX signs1 ops1 e1 rec_ (bE signs1 ops1 rec_ fuel1) fuel2) i1 (x.1) (x.2.1)=some r) ?_ ?_
  ·clear h hI;rintro⟨op3,r7,a22,c39⟩ w15 ⟨c40,hI,h⟩
   try dsimp only at hI h ⊢
   rw[gl]at h
   refine T ?_
   refine aM ?_
   exact jY (fuel2,op3,ar (i1+1),r7,a22,c39) ⟨rfl,rfl,rfl,rfl,rfl,rfl,rfl,rfl,rfl,rfl,trivial⟩ ⟨_,hI.arr (.c .z (.c .z (.c .z .n))) ⟨.z,(.s .z),(.s (.s .z)),(.s (.s (.s .z))),(.s (.s (.s (.s .z)))),(.s (.s (.s (.s (.s .z))))),(.s (.s (.s (.s (.s (.s .z)))))),trivial⟩,h⟩ (Nat.lt_succ_self _)
  refine T ?_
  obtain⟨e2,hx3,h⟩:=ae h
  obtain⟨ad1,cs1,hA1,hr1,hq1⟩:=hI.clat (.s .z) hx3
  obtain rfl:cs1=[(aE e2)]:=hr1
  refine sI ?_
  refine T ?_
  obtain⟨c41,f3,hB,hl3,hk3⟩:=hI.hands (.l (.r (.r .n)))
  obtain⟨⟨r8,s3⟩,hx4,h⟩:=ae h
  try dsimp only at h
  refine pT (fun v_ w_=>v_=(vb r8)∧∃ (a23:Option Addr),∃ (c42:Nat),∃ C_:NP,Bun c41 f3 w14 C_ w_ [MO.box b1 67 (af s3 a23 c42)] [Cl.sl ag a23 c42 s3.l]) (aT rfl rfl rfl rfl) rfl (fun hc=>(aF (vs:=[vp b1 0,(aE e2)]) rfl zY ⟨(aQ et hc),⟨(aQ et hc),trivial⟩⟩)) (fun hc=>(aO HS (Ag hc hx4)).mono fun e_ w_ hq_=>(let ⟨a23,c42,C_,he_,hB_⟩:=hq_;⟨_,he_,rfl,a23,c42,C_,hB_⟩)) ?_
  intro v_ w16 h1_ h2_
  obtain⟨hv_,a23,c42,c43,hB2⟩:gv (decide (op2=0)) v_=gv (decide (op2=0)) (vb r8)∧∃ (a23:Option Addr),∃ (c42:Nat),∃ C_:NP,Bun c41 f3 w14 C_ w16 [MO.box b1 67 (af s3 a23 c42)] [Cl.sl ag a23 c42 s3.l]:=by
   rcases Bool.eq_false_or_eq_true (decide (op2=0))with hc | hc
   ·obtain⟨rfl,hq_⟩:=h1_ hc;exact⟨rfl,hq_⟩
   have e1_:=h2_ hc;subst e1_;obtain⟨rfl,rfl⟩:=Ah hc hx4;exact⟨by rw[pl hc,pl hc],a21,c37,_,hB.subs ⟨.z,trivial⟩⟩
  rw[hv_];clear h1_ h2_
  refine HN hk3 hB2 fun c44 hI=> ?_
  refine TC (fun hb h=> ?_) fun hb h=> ?_
  ·refine T ?_
   obtain⟨e3,hx5,h⟩:=ae h
   obtain⟨ad2,cs2,hA2,hr2,hq2⟩:=hI.clat (.s (.s (.s .z))) hx5
   obtain rfl:cs2=[vi e3]:=hr2
   refine sI ?_
   refine T ?_
   refine aM ?_
   exact bi (e3,s3,a23,c42) ⟨rfl,rfl,rfl,rfl,rfl,rfl,rfl,rfl,rfl,rfl,trivial⟩ ⟨_,hI.arr (.c .z (.c .z (.c .z .n))) ⟨.z,(.s (.s .z)),(.s (.s (.s .z))),(.s (.s (.s (.s .z)))),(.s (.s (.s (.s (.s .z))))),(.s (.s (.s (.s (.s (.s .z)))))),(.s (.s (.s (.s (.s (.s (.s .z))))))),trivial⟩,h⟩ rfl
  exact bf (bi (op2,s3,a23,c42) ⟨rfl,rfl,rfl,rfl,rfl,rfl,rfl,rfl,rfl,rfl,trivial⟩ ⟨_,hI.arr (.c .z (.c .z (.c .z .n))) ⟨.z,(.s (.s .z)),(.s (.s (.s .z))),(.s (.s (.s (.s .z)))),(.s (.s (.s (.s (.s .z))))),(.s (.s (.s (.s (.s (.s .z)))))),(.s (.s (.s (.s (.s (.s (.s .z))))))),trivial⟩,h⟩ rfl)
 refine bk ?_
 refine eU ?_
 exact bi (op2,r6,a21,c37) ⟨rfl,rfl,rfl,rfl,rfl,rfl,rfl,trivial⟩ ⟨_,hI.arr (.c .z (.c .z (.c .z .n))) ⟨.z,(.s .z),(.s (.s .z)),(.s (.s (.s .z))),(.s (.s (.s (.s .z)))),(.s (.s (.s (.s (.s .z))))),(.s (.s (.s (.s (.s (.s .z)))))),trivial⟩,h⟩ rfl
theorem gS {rec_:(aa→Option (bz (GExpr×aa)))} (hrec:x9 rec_) {r1:aa} (hI:Bun C0 F w0 C0 w0 [MO.box b1 67 (af r1 a1 c1)] [Cl.sl ag a1 c1 r1.l,av]) {r:bz (GExpr×aa)} (h:eh rec_ r1=some r):CP C0 F w0 75 #[vp b1 0] r fun rx e w=>∃ a2 c2 a3 c3 a4 c4 a5 c5 C,e= .returned (Value.agg (aq rx.1 a2 c2 a3 c3 a4 c4))∧Bun C0 F w0 C w [MO.box b1 67 (af rx.2 a5 c5)] [Cl.sl ai a2 c2 rx.1.Lin.L,Cl.sl ak a3 c3 rx.1.Idx,Cl.sl an a4 c4 rx.1.Args,Cl.sl ag a5 c5 rx.2.l]:=by
 refine fU (l:=[vp b1 0]) Tryz.func75 rfl Tryz.ntmps75 rfl ?_
 rw[eh]at h
 refine sr (cF (cs:=#[vi 0,(aE ([]:List UInt8)),vi 0,vi 0,vi 0,vi 0,vi 0,vi 0,vi 0,vi 0,vs none 0 0,vs none 0 0,vs none 0 0]) hI gn rfl rfl dN rfl ?_)
 intro b2 c6 w1 hI
 refine T ?_
 refine sq (n7 (vs:=[vp b1 0]) rfl rfl ⟨et,trivial⟩) ?_
 refine ll hI dF ([([38]:List UInt8)]:List (List UInt8)) lZ Rr fun b3 c7 w2 hI=> ?_
 refine ll hI (l5 .i64) ([16]:List Int) wh Rr fun b4 c8 w3 hI=> ?_
 obtain⟨c9,hI⟩:=hI.release (.s .z)
 obtain⟨c10,hI⟩:=hI.release .z
 obtain⟨c11,f1,hB,hl1,hk1⟩:=hI.hands (.r (.l .n))
 refine eG h (fun _ hx1=>pt hrec HS hx1) (lw hk1) (Rc Tryz.func74) ?_
 rintro⟨r2,s1⟩ hx1 h _ w4 ⟨a6,c12,a7,c13,a8,c14,a9,c15,c16,rfl,hB2⟩
 try dsimp only at h
 refine HN hk1 hB2 fun c17 hI=> ?_
 refine⟨_,rfl,?_⟩
 refine lA fun c18 w5 hI=> ?_
 refine nk (aA ?_)
 obtain rfl:=aj h
 refine QG ?_
 exact .inl ⟨_,rfl,a6,c12,a7,c13,a8,c14,a9,c15,_,rfl,hI.arr GO SU⟩
def cR:Tr:=(.c (4,.s) (.c (5,.q) (.c (6,.s) .n)))
theorem pK {rec_:(aa→Option (bz (GExpr×aa)))} (hrec:x9 rec_) {r1:aa} {signs1:List (List UInt8)} {ops1:List Int} (hI:Bun C0 F w0 C0 w0 [MO.box b1 67 (af r1 a1 c1)] [Cl.sl ag a1 c1 r1.l,Cl.sl dF a2 c2 signs1,Cl.sl (l5 .i64) a3 c3 ops1,av]) {r:bz (GExpr×aa)} (h:iv rec_ r1 signs1 ops1=some r):CP C0 F w0 74 #[vp b1 0,(Value.func (.func 75) #[vp b1 0] #[]),vs a2 signs1.length c2,vs a3 ops1.length c3] r fun rx e w=>∃ a4 c4 a5 c5 a6 c6 a7 c7 C,e= .returned (Value.agg (aq rx.1 a4 c4 a5 c5 a6 c6))∧Bun C0 F w0 C w [MO.box b1 67 (af rx.2 a7 c7)] [Cl.sl ai a4 c4 rx.1.Lin.L,Cl.sl ak a5 c5 rx.1.Idx,Cl.sl an a6 c6 rx.1.Args,Cl.sl ag a7 c7 rx.2.l]:=by
 refine fU (l:=[vp b1 0,(Value.func (.func 75) #[vp b1 0] #[]),vs a2 signs1.length c2,vs a3 ops1.length c3]) Tryz.func74 rfl Tryz.ntmps74 rfl ?_
 rw[iv]at h
 refine sr (cF (cs:=#[vi 0,(aE ([]:List UInt8)),vi 0,vi 0,vi 0,vi 0,vi 0,vi 0,vi 0,vi 0,vs none 0 0,vs none 0 0,vs none 0 0]) hI gn rfl rfl dN rfl ?_)
 intro b2 c8 w1 hI
 refine T ?_
 obtain⟨c9,f1,hB,hl1,hk1⟩:=hI.hands (.r (.l .n))
 refine eG h (fun _ hx1=>gS hrec HS hx1) (lw hk1) (gO (fs:=[vp b1 0]) (vs:=[]) (cap:=[]) rfl et zX trivial) ?_
 rintro⟨r2,s1⟩ hx1 h _ w2 ⟨a8,c10,a9,c11,a10,c12,a11,c13,c14,rfl,hB2⟩
 try dsimp only at h
 refine HN hk1 hB2 fun c15 hI=> ?_
 refine⟨_,rfl,?_⟩
 refine lN fun b3 c16 w3 hI=> ?_
 refine lA fun c17 w4 hI=> ?_
 refine T ?_
 refine bh (α:=Nat×aa×GExpr×(Option Addr)×Nat×(Option Addr)×Nat×(Option Addr)×Nat×(Option Addr)×Nat) (fun x=>fun w=>∃ C,Bun C0 F w0 C w [MO.box b1 67 (af (x.2.1) (x.2.2.2.1) (x.2.2.2.2.1)),MO.box b2 39 #[vi 0,(aE ([]:List UInt8)),vi 0,vi 0,vi 0,vi 0,vi 0,vi 0,vi 0,vi 0,vs none 0 0,vs none 0 0,vs none 0 0],MO.box b3 39 (aq (x.2.2.1) (x.2.2.2.2.2.1) (x.2.2.2.2.2.2.1) (x.2.2.2.2.2.2.2.1) (x.2.2.2.2.2.2.2.2.1) (x.2.2.2.2.2.2.2.2.2.1) (x.2.2.2.2.2.2.2.2.2.2))] [Cl.sl ag (x.2.2.2.1) (x.2.2.2.2.1) (x.2.1).l,Cl.sl ai (x.2.2.2.2.2.1) (x.2.2.2.2.2.2.1) (x.2.2.1).Lin.L,Cl.sl ak (x.2.2.2.2.2.2.2.1) (x.2.2.2.2.2.2.2.2.1) (x.2.2.1).Idx,Cl.sl an (x.2.2.2.2.2.2.2.2.2.1) (x.2.2.2.2.2.2.2.2.2.2) (x.2.2.1).Args,Cl.sl dF a2 c2 signs1,Cl.sl (l5 .i64) a3 c3 ops1,av]∧bI signs1 ops1 rec_ (x.1) (x.2.1) (x.2.2.1)=some r) (fun x _=>x.1) (fun x=>[(0,vp b1 0),(1,(Value.func (.func 75) #[vp b1 0] #[])),(2,vs a2 signs1.length c2),(3,vs a3 ops1.length c3),(8,vp b2 0),(9,vp b3 0)]) (fu,s1,r2,a11,c13,a8,c10,a9,c11,a10,c12) ⟨_,hI.arr (.c (.s .z) (.c (.s .z) (.c .z .n))) ⟨(.s (.s (.s .z))),.z,(.s .z),(.s (.s .z)),(.s (.s (.s (.s (.s .z))))),(.s (.s (.s (.s (.s (.s .z)))))),(.s (.s (.s (.s (.s (.s (.s .z))))))),trivial⟩,h⟩ ⟨rfl,rfl,rfl,rfl,rfl,rfl,trivial⟩ ?_
 clear h hI;rintro⟨fuel1,r3,e1,a12,c18,a13,c19,a14,c20,a15,c21⟩ w5 ⟨c22,hI,h⟩
 dsimp only at hI h ⊢
 rcases fuel1 with _ | fuel1
 ·rw[bI]at h;cases h
 rw[bI]at h
 refine T ?_
 refine bw (α:=Int×aa×(Option Addr)×Nat) (fun _=>⟨43,[]⟩) (fun x=>[(0,vp b1 0),(1,(Value.func (.func 75) #[vp b1 0] #[])),(2,vs a2 signs1.length c2),(3,vs a3 ops1.length c3),(8,vp b2 0),(9,vp b3 0),(10,vi (x.1))]) (fun x=>fun w=>∃ C,Bun C0 F w0 C w [MO.box b1 67 (af (x.2.1) (x.2.2.1) (x.2.2.2)),MO.box b2 39 #[vi 0,(aE ([]:List UInt8)),vi 0,vi 0,vi 0,vi 0,vi 0,vi 0,vi 0,vi 0,vs none 0 0,vs none 0 0,vs none 0 0],MO.box b3 39 (aq e1 a13 c19 a14 c20 a15 c21)] [Cl.sl ag (x.2.2.1) (x.2.2.2) (x.2.1).l,Cl.sl dF a2 c2 signs1,Cl.sl (l5 .i64) a3 c3 ops1,Cl.sl ai a13 c19 e1.Lin.L,Cl.sl ak a14 c20 e1.Idx,Cl.sl an a15 c21 e1.Args,av]∧jm e1 rec_ (bI signs1 ops1 rec_ fuel1) (x.1) (x.2.1)=some r) ?_ ?_
 ·clear h hI;rintro⟨op1,r4,a16,c23⟩ w6 ⟨c24,hI,h⟩
  try dsimp only at hI h ⊢
  rw[jm]at h
  refine al (T ?_)
  refine TC (fun hb h=> ?_) fun hb h=> ?_
  ·refine T ?_
   refine lA fun c25 w7 hI=> ?_
   refine nk (aA ?_)
   obtain rfl:=aj h
   exact eV (vs:=[(Value.agg (aq e1 a13 c19 a14 c20 a15 c21))]) Tryz.results74 ⟨⟨_,aK rfl rfl,ci (l:=(aX e1 a13 c19 a14 c20 a15 c21)) jT rfl aC (CellsAt.of_blk (hI.blk (.s .z)) rfl)⟩,trivial⟩ (.inl ⟨_,rfl,a13,c19,a14,c20,a15,c21,a16,c23,_,rfl,hI.arr (.c .z .n) ⟨(.s (.s (.s .z))),(.s (.s (.s (.s .z)))),(.s (.s (.s (.s (.s .z))))),.z,trivial⟩⟩)
  refine T ?_
  rcases iM h with⟨⟨r5,s2⟩,hx2,h⟩ | ⟨pa_,pn_,hx2,hp_⟩
  rotate_left
  ·subst hp_
   refine aI [3,6] false (.c (0,.q) (.c (2,.q) (.two 1 (.c (3,.s) cR) 3 (.c (1,.s) cR)))) hI (by kernel_rfl) (by kernel_rfl) ?_
   intro w12 hI
   refine V ?_
   refine da ?_ ?_
   ·skip
    refine bn rfl gn rfl (am (l:=(aX e1 a13 c19 a14 c20 a15 c21)) rfl et jT rfl aC (CellsAt.of_blk (hI.blk (.s (.s .z))) rfl)) SX.self ?_
    refine bJ (F:=F) (C:=c24) rfl rfl ?_
    obtain⟨c26,f2,hB,hl2,hk2⟩:=hI.hands (.l (.r (.r .n)))
    refine fp rfl gn rfl (gO (fs:=[vp b1 0]) (vs:=[]) (cap:=[]) rfl et zX trivial) (Calls.mono (gS hrec HS hx2) ?_)
    intro e_ w_ hq_;obtain⟨rfl,C_,hB_⟩:=eY hq_;obtain⟨C9_,-,hI_⟩:=hk2 _ _ _ _ hB_;exact .inr ⟨_,rfl,iK (.inr ⟨_,_,rfl,rfl,⟨_,hI_.arr .n trivial⟩⟩)⟩
   refine bu (F:=F) (C:=c24) rfl rfl ?_
   obtain⟨c26,f2,hB,hl2,hk2⟩:=hI.hands (.l (.r (.r .n)))
   refine fp rfl gn rfl (gO (fs:=[vp b1 0]) (vs:=[]) (cap:=[]) rfl et zX trivial) (Calls.mono (gS hrec HS hx2) ?_)
   intro e_ w_ hq_;obtain⟨rfl,C_,hB_⟩:=eY hq_;obtain⟨C9_,-,hI_⟩:=hk2 _ _ _ _ hB_;exact .inr ⟨_,rfl,iK (.inr ⟨_,_,rfl,rfl,⟨_,hI_.arr .n trivial⟩⟩)⟩
  try dsimp only at h
  refine aI [3,6] false (.c (0,.q) (.c (2,.q) (.two 1 (.c (3,.s) cR) 3 (.c (1,.s) cR)))) hI (by kernel_rfl) (by kernel_rfl) ?_
  intro w13 hI
  refine cj (α:=(Option Addr)×Nat×(Option Addr)×Nat×(Option Addr)×Nat×(Option Addr)×Nat×NP) (T:=cR) (fun x=>[(0,vp b1 0),(1,(Value.func (.func 75) #[vp b1 0] #[])),(2,vs a2 signs1.length c2),(3,vs a3 ops1.length c3),(8,vp b2 0),(9,vp b3 0),(10,vi op1),(34,vi op1),(35,(vb (decide (op1=0)))),(37,vi op1),(38,(Value.agg (aq e1 a13 c19 a14 c20 a15 c21))),(39,(Value.func (.func 75) #[vp b1 0] #[])),(40,(Value.agg (aq r5 (x.1) (x.2.1) (x.2.2.1) (x.2.2.2.1) (x.2.2.2.2.1) (x.2.2.2.2.2.1))))]) (fun x w=>Bun C0 F w0 (x.2.2.2.2.2.2.2.2) w [MO.box b1 67 (af s2 (x.2.2.2.2.2.2.1) (x.2.2.2.2.2.2.2.1)),MO.box b2 39 #[vi 0,(aE ([]:List UInt8)),vi 0,vi 0,vi 0,vi 0,vi 0,vi 0,vi 0,vi 0,vs none 0 0,vs none 0 0,vs none 0 0],MO.box b3 39 (aq e1 a13 c19 a14 c20 a15 c21)] [Cl.sl ai (x.1) (x.2.1) r5.Lin.L,Cl.sl ak (x.2.2.1) (x.2.2.2.1) r5.Idx,Cl.sl an (x.2.2.2.2.1) (x.2.2.2.2.2.1) r5.Args,Cl.sl ag (x.2.2.2.2.2.2.1) (x.2.2.2.2.2.2.2.1) s2.l,Cl.sl ag a16 c23 r4.l,Cl.sl dF a2 c2 signs1,Cl.sl (l5 .i64) a3 c3 ops1,Cl.sl ai a13 c19 e1.Lin.L,Cl.sl ak a14 c20 e1.Idx,Cl.sl an a15 c21 e1.Args,av]) (fun x w=>SN [] (DM true F (x.2.2.2.2.2.2.2.2)) w) ?_ ?_
  ·clear hI;rintro⟨a17,c27,a18,c28,a19,c29,a20,c30,c35⟩ w11 hI
   try dsimp only at hI ⊢
   unfold cR
   refine vl hI an ([e1,r5]:List GExpr) jr (.cs (dM ⟨a13,c19,a14,c20,a15,c21,rfl,hI.get (.s (.s (.s (.s (.s (.s (.s .z))))))),hI.get (.s (.s (.s (.s (.s (.s (.s (.s .z)))))))),hI.get (.s (.s (.s (.s (.s (.s (.s (.s (.s .z)))))))))⟩) (.cs (dM ⟨a17,c27,a18,c28,a19,c29,rfl,hI.get .z,hI.get (.s .z),hI.get (.s (.s .z))⟩) .nl)) fun b4 c33 w9 hI=> ?_
   refine l6 rfl gn rfl (fun w'=>(ax (vs:=[(0,vi op1),(6,vs (some ⟨b4,0,none⟩) ([e1,r5]:List GExpr).length 2)]) (cs:=#[vi op1,(aE ([]:List UInt8)),vi 0,vi 0,vi 0,vi 0,vi 0,vi 0,vi 0,vi 0,vs none 0 0,vs none 0 0,vs (some ⟨b4,0,none⟩) ([e1,r5]:List GExpr).length 2]) rfl ⟨rfl,et,⟨rfl,et,trivial⟩⟩ (by kernel_rfl))) ?_
   refine vA fun c34 w10 hI=> ?_
   refine oq ?_
   have hI:=hI.add (c:=Cl.sl ai none 0 ([]:List GMono)) SlC.nil
   have hI:=hI.add (c:=Cl.sl ak none 0 ([]:List GIndex)) SlC.nil
   obtain⟨c36,hI⟩:=hI.release .z
   exact jY (fuel1,s2,(⟨op1,([]:List UInt8),(⟨0,0⟩:GVal),(⟨0,0,0,0,0⟩:GType),(⟨0,([]:List GMono)⟩:GLin),([]:List GIndex),([e1,r5]:List GExpr)⟩:GExpr),a20,c30,none,0,none,0,some ⟨b4,0,none⟩,2) ⟨rfl,rfl,rfl,rfl,rfl,rfl,trivial⟩ ⟨_,hI.arr (.c .z (.c .z (.c .z .n))) ⟨(.s (.s (.s (.s (.s (.s .z)))))),(.s (.s .z)),(.s .z),.z,(.s (.s (.s (.s (.s (.s (.s (.s .z)))))))),(.s (.s (.s (.s (.s (.s (.s (.s (.s .z))))))))),(.s (.s (.s (.s (.s (.s (.s (.s (.s (.s (.s (.s (.s .z))))))))))))),trivial⟩,h⟩ (Nat.lt_succ_self _)
  intro hk_tr_parser_reader_chain_w_3_0
  refine V ?_
  refine da ?_ ?_
  ·skip
   refine bn rfl gn rfl (am (l:=(aX e1 a13 c19 a14 c20 a15 c21)) rfl et jT rfl aC (CellsAt.of_blk (hI.blk (.s (.s .z))) rfl)) SX.self ?_
   refine bJ (F:=F) (C:=c24) rfl rfl ?_
   obtain⟨c26,f2,hB,hl2,hk2⟩:=hI.hands (.l (.r (.r .n)))
   refine fo rfl gn rfl (gO (fs:=[vp b1 0]) (vs:=[]) (cap:=[]) rfl et zX trivial) (Calls.mono (gS hrec HS hx2) ?_)
   intro e_ w8 hq_;obtain⟨a17,c27,a18,c28,a19,c29,a20,c30,c31,rfl,hB2⟩:=eX hq_
   obtain⟨c32,hs2,hI⟩:=hk2 _ _ _ _ hB2
   dsimp only[ca,na]at hI
   refine⟨_,rfl,DM true F c32,hs2,?_⟩
   exact aW (hk_tr_parser_reader_chain_w_3_0 (a17,c27,a18,c28,a19,c29,a20,c30,c32) _ (hI.arr (.c .z (.c .z (.c .z .n))) ⟨.z,(.s .z),(.s (.s .z)),(.s (.s (.s .z))),(.s (.s (.s (.s .z)))),(.s (.s (.s (.s (.s .z))))),(.s (.s (.s (.s (.s (.s .z)))))),(.s (.s (.s (.s (.s (.s (.s .z))))))),(.s (.s (.s (.s (.s (.s (.s (.s .z)))))))),(.s (.s (.s (.s (.s (.s (.s (.s (.s .z))))))))),(.s (.s (.s (.s (.s (.s (.s (.s (.s (.s .z)))))))))),trivial⟩)) ⟨rfl,rfl,rfl,rfl,rfl,rfl,rfl,rfl,rfl,rfl,rfl,rfl,rfl,trivial⟩
  refine bu (F:=F) (C:=c24) rfl rfl ?_
  obtain⟨c26,f2,hB,hl2,hk2⟩:=hI.hands (.l (.r (.r .n)))
  refine fo rfl gn rfl (gO (fs:=[vp b1 0]) (vs:=[]) (cap:=[]) rfl et zX trivial) (Calls.mono (gS hrec HS hx2) ?_)
  intro e_ w8 hq_;obtain⟨a17,c27,a18,c28,a19,c29,a20,c30,c31,rfl,hB2⟩:=eX hq_
  obtain⟨c32,hs2,hI⟩:=hk2 _ _ _ _ hB2
  dsimp only[ca,na]at hI
  refine⟨_,rfl,DM true F c32,hs2,?_⟩
  refine bn rfl gn rfl (am (l:=(aX e1 a13 c19 a14 c20 a15 c21)) rfl et jT rfl aC (CellsAt.of_blk (hI.blk (.s (.s .z))) rfl)) SX.self ?_
  exact aW (hk_tr_parser_reader_chain_w_3_0 (a17,c27,a18,c28,a19,c29,a20,c30,c32) _ (hI.arr (.c .z (.c .z (.c .z .n))) ⟨.z,(.s .z),(.s (.s .z)),(.s (.s (.s .z))),(.s (.s (.s (.s .z)))),(.s (.s (.s (.s (.s .z))))),(.s (.s (.s (.s (.s (.s .z)))))),(.s (.s (.s (.s (.s (.s (.s .z))))))),(.s (.s (.s (.s (.s (.s (.s (.s .z)))))))),(.s (.s (.s (.s (.s (.s (.s (.s (.s .z))))))))),(.s (.s (.s (.s (.s (.s (.s (.s (.s (.s .z)))))))))),trivial⟩)) ⟨rfl,rfl,rfl,rfl,rfl,rfl,rfl,rfl,rfl,rfl,rfl,rfl,rfl,trivial⟩
 refine T ?_
 refine bh (α:=Nat×Int×Int×aa×(Option Addr)×Nat) (fun x=>fun w=>∃ C,Bun C0 F w0 C w [MO.box b1 67 (af (x.2.2.2.1) (x.2.2.2.2.1) (x.2.2.2.2.2)),MO.box b2 39 #[vi 0,(aE ([]:List UInt8)),vi 0,vi 0,vi 0,vi 0,vi 0,vi 0,vi 0,vi 0,vs none 0 0,vs none 0 0,vs none 0 0],MO.box b3 39 (aq e1 a13 c19 a14 c20 a15 c21)] [Cl.sl ag (x.2.2.2.2.1) (x.2.2.2.2.2) (x.2.2.2.1).l,Cl.sl dF a2 c2 signs1,Cl.sl (l5 .i64) a3 c3 ops1,Cl.sl ai a13 c19 e1.Lin.L,Cl.sl ak a14 c20 e1.Idx,Cl.sl an a15 c21 e1.Args,av]∧cg signs1 ops1 e1 rec_ (bI signs1 ops1 rec_ fuel1) (x.1) (x.2.1) (x.2.2.1) (x.2.2.2.1)=some r) (fun x _=>x.1) (fun x=>[(0,vp b1 0),(1,(Value.func (.func 75) #[vp b1 0] #[])),(2,vs a2 signs1.length c2),(3,vs a3 ops1.length c3),(8,vp b2 0),(9,vp b3 0),(10,vi (x.2.1)),(15,vs a2 signs1.length c2),(16,vi (signs1.length:Int)),(17,vi (x.2.2.1))]) (fu,0,0,r3,a12,c18) ⟨_,hI.arr (.c .z (.c .z (.c .z .n))) ⟨.z,(.s (.s (.s (.s .z)))),(.s (.s (.s (.s (.s .z))))),(.s .z),(.s (.s .z)),(.s (.s (.s .z))),(.s (.s (.s (.s (.s (.s .z)))))),trivial⟩,h⟩ ⟨rfl,rfl,rfl,rfl,rfl,rfl,rfl,rfl,rfl,rfl,trivial⟩ ?_
 clear h hI;rintro⟨fuel2,op2,i1,r6,a21,c37⟩ w14 ⟨c38,hI,h⟩
 dsimp only at hI h ⊢
 rcases fuel2 with _ | fuel2
 ·rw[cg]at h;cases h
 rw[cg]at h
 refine T ?_
 refine al (vm h et (fun hb h=> ?_) (fun hb h=> ?_))
 ·refine T ?_
  refine bw (α:=Int×aa×(Option Addr)×Nat) (fun _=>⟨43,[]⟩) (fun x=>[(0,vp b1 0),(1,(Value.func (.func 75) #[vp b1 0] #[])),(2,vs a2 signs1.length c2),(3,vs a3 ops1.length c3),(8,vp b2 0),(9,vp b3 0),(10,vi (x.1)),(15,vs a2 signs1.length c2),(16,vi (signs1.length:Int)),(17,vi i1)]) (fun x=>fun w=>∃ C,Bun C0 F w0 C w [MO.box b1 67 (af (x.2.1) (x.2.2.1) (x.2.2.2)),MO.box b2 39 #[vi 0,(aE ([]:List UInt8)),vi 0,vi 0,vi 0,vi 0,vi 0,vi 0,vi 0,vi 0,vs none 0 0,vs none 0 0,vs none 0 0],MO.box b3 39 (aq e1 a13 c19 a14 c20 a15 c21)] [Cl.sl ag (x.2.2.1) (x.2.2.2) (x.2.1).l,Cl.sl dF a2 c2 signs1,Cl.sl (l5 .i64) a3 c3 ops1,Cl.sl ai a13 c19 e1.Lin.L,Cl.sl ak a14 c20 e1.Idx,Cl.sl an a15 c21 e1.Args,av]∧gz (cg signs1 ops1 e1 rec_ (bI signs1 ops1 rec_ fuel1) fuel2) i1 (x.1) (x.2.1)=some r) ?_ ?_
  ·clear h hI;rintro⟨op3,r7,a22,c39⟩ w15 ⟨c40,hI,h⟩
   try dsimp only at hI h ⊢
   rw[gz]at h
   refine T ?_
   refine aM ?_
   exact jY (fuel2,op3,ar (i1+1),r7,a22,c39) ⟨rfl,rfl,rfl,rfl,rfl,rfl,rfl,rfl,rfl,rfl,trivial⟩ ⟨_,hI.arr (.c .z (.c .z (.c .z .n))) ⟨.z,(.s .z),(.s (.s .z)),(.s (.s (.s .z))),(.s (.s (.s (.s .z)))),(.s (.s (.s (.s (.s .z))))),(.s (.s (.s (.s (.s (.s .z)))))),trivial⟩,h⟩ (Nat.lt_succ_self _)
  refine T ?_
  obtain⟨e2,hx3,h⟩:=ae h
  obtain⟨ad1,cs1,hA1,hr1,hq1⟩:=hI.clat (.s .z) hx3
  obtain rfl:cs1=[(aE e2)]:=hr1
  refine sI ?_
  refine T ?_
  obtain⟨c41,f3,hB,hl3,hk3⟩:=hI.hands (.l (.r (.r .n)))
  obtain⟨⟨r8,s3⟩,hx4,h⟩:=ae h
  try dsimp only at h
  refine pT (fun v_ w_=>v_=(vb r8)∧∃ (a23:Option Addr),∃ (c42:Nat),∃ C_:NP,Bun c41 f3 w14 C_ w_ [MO.box b1 67 (af s3 a23 c42)] [Cl.sl ag a23 c42 s3.l]) (aT rfl rfl rfl rfl) rfl (fun hc=>(aF (vs:=[vp b1 0,(aE e2)]) rfl zY ⟨(aQ et hc),⟨(aQ et hc),trivial⟩⟩)) (fun hc=>(aO HS (Ag hc hx4)).mono fun e_ w_ hq_=>(let ⟨a23,c42,C_,he_,hB_⟩:=hq_;⟨_,he_,rfl,a23,c42,C_,hB_⟩)) ?_
  intro v_ w16 h1_ h2_
  obtain⟨hv_,a23,c42,c43,hB2⟩:gv (decide (op2=0)) v_=gv (decide (op2=0)) (vb r8)∧∃ (a23:Option Addr),∃ (c42:Nat),∃ C_:NP,Bun c41 f3 w14 C_ w16 [MO.box b1 67 (af s3 a23 c42)] [Cl.sl ag a23 c42 s3.l]:=by
   rcases Bool.eq_false_or_eq_true (decide (op2=0))with hc | hc
   ·obtain⟨rfl,hq_⟩:=h1_ hc;exact⟨rfl,hq_⟩
   have e1_:=h2_ hc;subst e1_;obtain⟨rfl,rfl⟩:=Ah hc hx4;exact⟨by rw[pl hc,pl hc],a21,c37,_,hB.subs ⟨.z,trivial⟩⟩
  rw[hv_];clear h1_ h2_
  refine HN hk3 hB2 fun c44 hI=> ?_
  refine TC (fun hb h=> ?_) fun hb h=> ?_
  ·refine T ?_
   obtain⟨e3,hx5,h⟩:=ae h
   obtain⟨ad2,cs2,hA2,hr2,hq2⟩:=hI.clat (.s (.s (.s .z))) hx5
   obtain rfl:cs2=[vi e3]:=hr2
   refine sI ?_
   refine T ?_
   refine aM ?_
   exact bi (e3,s3,a23,c42) ⟨rfl,rfl,rfl,rfl,rfl,rfl,rfl,rfl,rfl,rfl,trivial⟩ ⟨_,hI.arr (.c .z (.c .z (.c .z .n))) ⟨.z,(.s (.s .z)),(.s (.s (.s .z))),(.s (.s (.s (.s .z)))),(.s (.s (.s (.s (.s .z))))),(.s (.s (.s (.s (.s (.s .z)))))),(.s (.s (.s (.s (.s (.s (.s .z))))))),trivial⟩,h⟩ rfl
  exact bf (bi (op2,s3,a23,c42) ⟨rfl,rfl,rfl,rfl,rfl,rfl,rfl,rfl,rfl,rfl,trivial⟩ ⟨_,hI.arr (.c .z (.c .z (.c .z .n))) ⟨.z,(.s (.s .z)),(.s (.s (.s .z))),(.s (.s (.s (.s .z)))),(.s (.s (.s (.s (.s .z))))),(.s (.s (.s (.s (.s (.s .z)))))),(.s (.s (.s (.s (.s (.s (.s .z))))))),trivial⟩,h⟩ rfl)
 refine bk ?_
 refine eU ?_
 exact bi (op2,r6,a21,c37) ⟨rfl,rfl,rfl,rfl,rfl,rfl,rfl,trivial⟩ ⟨_,hI.arr (.c .z (.c .z (.c .z .n))) ⟨.z,(.s .z),(.s (.s .z)),(.s (.s (.s .z))),(.s (.s (.s (.s .z)))),(.s (.s (.s (.s (.s .z))))),(.s (.s (.s (.s (.s (.s .z)))))),trivial⟩,h⟩ rfl
theorem qh {rec_:(aa→Option (bz (GExpr×aa)))} (hrec:x9 rec_) {r1:aa} (hI:Bun C0 F w0 C0 w0 [MO.box b1 67 (af r1 a1 c1)] [Cl.sl ag a1 c1 r1.l,av]) {r:bz (GExpr×aa)} (h:gy rec_ r1=some r):CP C0 F w0 34 #[vp b1 0] r fun rx e w=>∃ a2 c2 a3 c3 a4 c4 a5 c5 C,e= .returned (Value.agg (aq rx.1 a2 c2 a3 c3 a4 c4))∧Bun C0 F w0 C w [MO.box b1 67 (af rx.2 a5 c5)] [Cl.sl ai a2 c2 rx.1.Lin.L,Cl.sl ak a3 c3 rx.1.Idx,Cl.sl an a4 c4 rx.1.Args,Cl.sl ag a5 c5 rx.2.l]:=by
 refine fU (l:=[vp b1 0]) Tryz.func34 rfl Tryz.ntmps34 rfl ?_
 rw[gy]at h
 refine sr (cF (cs:=#[vi 0,(aE ([]:List UInt8)),vi 0,vi 0,vi 0,vi 0,vi 0,vi 0,vi 0,vi 0,vs none 0 0,vs none 0 0,vs none 0 0]) hI gn rfl rfl dN rfl ?_)
 intro b2 c6 w1 hI
 refine T ?_
 refine sq (n7 (vs:=[vp b1 0]) rfl rfl ⟨et,trivial⟩) ?_
 refine ll hI dF ([([124]:List UInt8)]:List (List UInt8)) lZ Rr fun b3 c7 w2 hI=> ?_
 refine ll hI (l5 .i64) ([17]:List Int) wh Rr fun b4 c8 w3 hI=> ?_
 obtain⟨c9,hI⟩:=hI.release (.s .z)
 obtain⟨c10,hI⟩:=hI.release .z
 obtain⟨c11,f1,hB,hl1,hk1⟩:=hI.hands (.r (.l .n))
 refine eG h (fun _ hx1=>pK hrec HS hx1) (lw hk1) (Rc Tryz.func74) ?_
 rintro⟨r2,s1⟩ hx1 h _ w4 ⟨a6,c12,a7,c13,a8,c14,a9,c15,c16,rfl,hB2⟩
 try dsimp only at h
 refine HN hk1 hB2 fun c17 hI=> ?_
 refine⟨_,rfl,?_⟩
 refine lA fun c18 w5 hI=> ?_
 refine nk (aA ?_)
 obtain rfl:=aj h
 refine QG ?_
 exact .inl ⟨_,rfl,a6,c12,a7,c13,a8,c14,a9,c15,_,rfl,hI.arr GO SU⟩
theorem qg (n:Nat):x9 (ap n):=by
 induction n with
 | zero=>intro F;intros;rename_i h;cases h
 | succ n ih=>intro F;intros;apply qh ih<;>assumption
theorem qW:x9 (ig):=qg fu
theorem oh {a1:aa} {a3:GExpr} (hI:Bun C0 F w0 C0 w0 [MO.box b2 67 (af a1 a2 c1),MO.box b3 39 (aq a3 a4 c2 a5 c3 a6 c4)] [Cl.sl ag a2 c1 a1.l,Cl.blk b1 65 #[vp b2 0],Cl.sl ai a4 c2 a3.Lin.L,Cl.sl ak a5 c3 a3.Idx,Cl.sl an a6 c4 a3.Args,av]) {r:bz (Unit×aa×GExpr)} (h:jO a1 a3=some r):CP C0 F w0 33 #[vp b1 0,vp b3 0] r fun rx e w=>∃ a7 c5 a8 c6 a9 c7 a10 c8 C,e= .returned (Value.tuple #[])∧Bun C0 F w0 C w [MO.box b2 67 (af rx.2.1 a7 c5),MO.box b3 39 (aq rx.2.2 a8 c6 a9 c7 a10 c8)] [Cl.sl ag a7 c5 rx.2.1.l,Cl.sl ai a8 c6 rx.2.2.Lin.L,Cl.sl ak a9 c7 rx.2.2.Idx,Cl.sl an a10 c8 rx.2.2.Args]:=by
 refine fU (l:=[vp b1 0,vp b3 0]) Tryz.func33 rfl Tryz.ntmps33 rfl ?_
 rw[jO]at h
 refine T ?_
 obtain⟨c9,f1,hB,hl1,hk1⟩:=hI.hands (.l (.r .n))
 refine eG h (fun _ hx1=>qW HS hx1) (lw hk1) (Rc Tryz.func34) ?_
 rintro⟨r1,s1⟩ hx1 h _ w1 ⟨a11,c10,a12,c11,a13,c12,a14,c13,c14,rfl,hB2⟩
 try dsimp only at h
 refine HN hk1 hB2 fun c15 hI=> ?_
 refine⟨_,rfl,?_⟩
 refine lA fun c16 w2 hI=> ?_
 refine aM ?_
 obtain rfl:=aj h
 refine QG ?_
 exact .inl ⟨_,rfl,a14,c13,a11,c10,a12,c11,a13,c12,_,rfl,hI.arr GO SU⟩
def jI:Tr:= .n
def jJ:Tr:=(.c (4,.s) (.c (6,.q) (.c (7,.q) jI)))
theorem uO (hF:dG F w0) {l1:List aS} {at1:Int} (hc:AllCl [Cl.sl ag a1 c1 l1,av] F w0) {r:GExpr×Int×Int} (h:jz l1 at1=some r):Cg 15 #[vs a1 l1.length c1,vi at1] w0 fun e w=>∃ a2 c2 a3 c3 a4 c4,e= .returned (Value.tuple #[(Value.agg (aq r.1 a2 c2 a3 c3 a4 c4)),vi r.2.1,vi r.2.2])∧Ext w0 w∧AllCl [Cl.sl ai a2 c2 r.1.Lin.L,Cl.sl ak a3 c3 r.1.Idx,Cl.sl an a4 c4 r.1.Args] F w:=by
 refine EN Tryz.func15 Tryz.ntmps15 hF hc fun hI=> ?_
 rw[jz]at h
 refine sr (cF (cs:=#[vi 0,(aE ([]:List UInt8)),vi 0,vi 0,vi 0,vi 0,vi 0,vi 0,vi 0,vi 0,vs none 0 0,vs none 0 0,vs none 0 0]) hI gn rfl rfl dN rfl ?_)
 intro b1 c5 w1 hI
 refine rJ ?_
 refine rJ ?_
 refine nk (al (sr (sm ?_)))
 refine sq (qE rfl et ao) ?_
 refine sm ?_
 refine az (cq rfl rfl rfl rfl) rfl (fun hc=>ft rfl et) ?_
 refine az (cq rfl rfl rfl rfl) rfl (fun hc=>ft rfl et) ?_
 refine az (cq rfl rfl rfl rfl) rfl (fun hc=>nK rfl HT (aQ et hc)) ?_
 refine az (cq rfl rfl rfl rfl) rfl (fun hc=>rF rfl (aQ et hc) (aQ et hc)) ?_
 refine sq (ya rfl et et) ?_
 refine TC (fun hb h=> ?_) fun hb h=> ?_
 ·refine sr (sq (ax (vs:=[]) (cs:=#[vi 0,(aE ([]:List UInt8)),vi 0,vi 0,vi 0,vi 0,vi 0,vi 0,vi 0,vi 0,vs none 0 0,vs none 0 0,vs none 0 0]) rfl trivial (by kernel_rfl)) ?_)
  refine lA fun c6 w2 hI=> ?_
  refine rJ ?_
  refine rJ ?_
  refine nk (aA ?_)
  have hI:=hI.add (c:=Cl.sl ai none 0 ([]:List GMono)) SlC.nil
  have hI:=hI.add (c:=Cl.sl ak none 0 ([]:List GIndex)) SlC.nil
  have hI:=hI.add (c:=Cl.sl an none 0 ([]:List GExpr)) SlC.nil
  obtain rfl:=aj h
  exact eV (vs:=[(Value.agg #[vi 0,(aE ([]:List UInt8)),vi 0,vi 0,vi 0,vi 0,vi 0,vi 0,vi 0,vi 0,vs none 0 0,vs none 0 0,vs none 0 0]),vi 0,vi 1]) Tryz.results15 ⟨⟨_,aK rfl rfl,ci (l:=[vi 0,(aE ([]:List UInt8)),vi 0,vi 0,vi 0,vi 0,vi 0,vi 0,vi 0,vi 0,vs none 0 0,vs none 0 0,vs none 0 0]) jT rfl aC (CellsAt.of_blk (hI.blk .z) rfl)⟩,⟨aK rfl rfl,⟨aK rfl rfl,trivial⟩⟩⟩ ⟨none,0,none,0,none,0,rfl,hI.ext0,hI.fin ⟨(.s (.s .z)),(.s .z),.z,trivial⟩⟩
 refine bf (bb (sr (sm ?_)))
 refine sm ?_
 refine sq (ax (vs:=[(0,vs a1 l1.length c1),(1,vi at1)]) (cs:=#[vs a1 l1.length c1,vi at1,vi 0]) rfl ⟨rfl,et,⟨rfl,et,trivial⟩⟩ (by kernel_rfl)) ?_
 refine mS (v:=(Value.agg #[vs a1 l1.length c1,vi at1,vi 0])) (cs:=#[vs a1 l1.length c1,vi at1,vi 0]) hI gn rfl rfl et rfl ?_
 intro b2 c7 w3 hI
 refine lN fun b3 c8 w4 hI=> ?_
 refine lS fun c9 w5 hI=> ?_
 refine nk (sr (sq (ax (vs:=[]) (cs:=#[vi 0,(aE ([]:List UInt8)),vi 0,vi 0,vi 0,vi 0,vi 0,vi 0,vi 0,vi 0,vs none 0 0,vs none 0 0,vs none 0 0]) rfl trivial (by kernel_rfl)) ?_))
 refine lN fun b4 c10 w6 hI=> ?_
 refine lA fun c11 w7 hI=> ?_
 refine nk (al (sr (sq (nJ (vs:=[]) (cap:=[vp b3 0,vp b4 0]) rfl rfl ⟨et,⟨et,trivial⟩⟩) ?_)))
 obtain⟨c12,hI⟩:=hI.relBox (.s .z)
 have hI:=hI.add (c:=Cl.sl ai none 0 ([]:List GMono)) SlC.nil
 have hI:=hI.add (c:=Cl.sl ak none 0 ([]:List GIndex)) SlC.nil
 have hI:=hI.add (c:=Cl.sl an none 0 ([]:List GExpr)) SlC.nil
 obtain⟨c13,f1,hB,hl1,hk1⟩:=hI.hands (.l (.l (.r .n)))
 replace hB:=hB.ord (.c (.s .z) (.c .z .n))
 rcases uh h with⟨⟨r1,s1,s2⟩,hx1,h⟩ | ⟨pa1,pn1,hx1,hn1,h⟩
 ·skip
  try dsimp only at h
  refine aB gn rfl (Rc Tryz.func29) (Calls.mono (tq (β:=(Option Addr)×Nat×(Option Addr)×Nat×(Option Addr)×Nat×(Option Addr)×Nat) (fun x=>[MO.box b2 67 (af s1 (x.1) (x.2.1)),MO.box b4 39 (aq s2 (x.2.2.1) (x.2.2.2.1) (x.2.2.2.2.1) (x.2.2.2.2.2.1) (x.2.2.2.2.2.2.1) (x.2.2.2.2.2.2.2))]) (fun x=>[Cl.sl ag (x.1) (x.2.1) s1.l,Cl.sl ai (x.2.2.1) (x.2.2.2.1) s2.Lin.L,Cl.sl ak (x.2.2.2.2.1) (x.2.2.2.2.2.1) s2.Idx,Cl.sl an (x.2.2.2.2.2.2.1) (x.2.2.2.2.2.2.2) s2.Args]) (cl:=[Cl.sl ag a1 c1 l1,Cl.blk b3 65 #[vp b2 0],Cl.sl ai none 0 ([]:List GMono),Cl.sl ak none 0 ([]:List GIndex),Cl.sl an none 0 ([]:List GExpr),av]) F2 (hB.subs ⟨(.s (.s (.s (.s .z)))),(.s (.s (.s .z))),(.s (.s .z)),(.s .z),.z,(.s (.s (.s (.s (.s .z))))),trivial⟩) (fun C1_ F1_ w1_ hB_=>(oh hB_ hx1).mono fun e_ w_ hq_=>(let ⟨a5,c14,a6,c15,a7,c16,a8,c17,C_,he_,hB2_⟩:=eX hq_;⟨he_,(a5,c14,a6,c15,a7,c16,a8,c17),C_,hB2_⟩))) ?_)
  rintro _ w8 ⟨rfl,⟨a5,c14,a6,c15,a7,c16,a8,c17⟩,c18,hB2⟩
  obtain⟨c19,hs1,hI⟩:=hk1 _ _ _ _ hB2
  replace hI:Bun du F w0 c19 w8 [MO.box b2 67 (af s1 a5 c14),MO.box b4 39 (aq s2 a6 c15 a7 c16 a8 c17),MO.box b1 39 #[vi 0,(aE ([]:List UInt8)),vi 0,vi 0,vi 0,vi 0,vi 0,vi 0,vi 0,vi 0,vs none 0 0,vs none 0 0,vs none 0 0]] [Cl.sl ag a5 c14 s1.l,Cl.sl ai a6 c15 s2.Lin.L,Cl.sl ak a7 c16 s2.Idx,Cl.sl an a8 c17 s2.Args,Cl.sl an none 0 ([]:List GExpr),Cl.sl ak none 0 ([]:List GIndex),Cl.sl ai none 0 ([]:List GMono),Cl.blk b3 65 #[vp b2 0],Cl.sl ag a1 c1 l1,av]:=hI
  refine⟨_,rfl,?_⟩
  refine sm ?_
  refine sq (eW rfl et rfl) ?_
  refine sq (eW rfl et rfl) ?_
  refine sa ?_
  refine sa ?_
  refine nk (sr (sm ?_))
  refine sq (ow rfl et ao) ?_
  refine TC (fun hb h=> ?_) fun hb h=> ?_
  ·refine sr (sq (ax (vs:=[]) (cs:=#[vi 0,(aE ([]:List UInt8)),vi 0,vi 0,vi 0,vi 0,vi 0,vi 0,vi 0,vi 0,vs none 0 0,vs none 0 0,vs none 0 0]) rfl trivial (by kernel_rfl)) ?_)
   refine sm ?_
   refine sm ?_
   refine lA fun c20 w9 hI=> ?_
   refine sa ?_
   refine sa ?_
   refine aM ?_
   refine nR (e:=[(4,vp b1 0),(5,vi 0),(6,vi 0)]) SB ?_
   refine aA ?_
   obtain rfl:=aj h
   exact eV (vs:=[(Value.agg #[vi 0,(aE ([]:List UInt8)),vi 0,vi 0,vi 0,vi 0,vi 0,vi 0,vi 0,vi 0,vs none 0 0,vs none 0 0,vs none 0 0]),vi 0,vi 0]) Tryz.results15 ⟨⟨_,aK rfl rfl,ci (l:=[vi 0,(aE ([]:List UInt8)),vi 0,vi 0,vi 0,vi 0,vi 0,vi 0,vi 0,vi 0,vs none 0 0,vs none 0 0,vs none 0 0]) jT rfl aC (CellsAt.of_blk (hI.blk (.s (.s .z))) rfl)⟩,⟨aK rfl rfl,⟨aK rfl rfl,trivial⟩⟩⟩ ⟨none,0,none,0,none,0,rfl,hI.ext0,hI.fin ⟨(.s (.s (.s (.s (.s (.s .z)))))),(.s (.s (.s (.s (.s .z))))),(.s (.s (.s (.s .z)))),trivial⟩⟩
  refine bf (nR (e:=[(1,vi at1),(4,vp b1 0),(7,vp b3 0),(8,vp b4 0)]) ⟨rfl,rfl,rfl,rfl,trivial⟩ ?_)
  refine al (sr (sq (am (l:=(aX s2 a6 c15 a7 c16 a8 c17)) rfl et jT rfl aC (CellsAt.of_blk (hI.blk (.s .z)) rfl)) ?_))
  refine sB h (fun _ k=>uT hI.lt FS k) (Rc Tryz.func35) fun r2 w10 h hI=> ?_
  refine sa ?_
  refine nk (sr (sm ?_))
  refine sq (ow rfl et ao) ?_
  refine TC (fun hb h=> ?_) fun hb h=> ?_
  ·refine sr (sq (ax (vs:=[]) (cs:=#[vi 0,(aE ([]:List UInt8)),vi 0,vi 0,vi 0,vi 0,vi 0,vi 0,vi 0,vi 0,vs none 0 0,vs none 0 0,vs none 0 0]) rfl trivial (by kernel_rfl)) ?_)
   refine sm ?_
   refine sm ?_
   refine lA fun c21 w11 hI=> ?_
   refine sa ?_
   refine sa ?_
   refine nk (aA ?_)
   obtain rfl:=aj h
   exact eV (vs:=[(Value.agg #[vi 0,(aE ([]:List UInt8)),vi 0,vi 0,vi 0,vi 0,vi 0,vi 0,vi 0,vi 0,vs none 0 0,vs none 0 0,vs none 0 0]),vi at1,vi r2]) Tryz.results15 ⟨⟨_,aK rfl rfl,ci (l:=[vi 0,(aE ([]:List UInt8)),vi 0,vi 0,vi 0,vi 0,vi 0,vi 0,vi 0,vi 0,vs none 0 0,vs none 0 0,vs none 0 0]) jT rfl aC (CellsAt.of_blk (hI.blk (.s (.s .z))) rfl)⟩,⟨aK rfl rfl,⟨aK rfl rfl,trivial⟩⟩⟩ ⟨none,0,none,0,none,0,rfl,hI.ext0,hI.fin ⟨(.s (.s (.s (.s (.s (.s .z)))))),(.s (.s (.s (.s (.s .z))))),(.s (.s (.s (.s .z)))),trivial⟩⟩
  refine bf (bb (al (aI [5] false (.c (0,.q) (.two 1 (.c (2,.q) (.c (3,.q) (.two 4 (.c (5,.s) (.c (6,.q) (.c (7,.q) jI))) 5 jJ))) 5 (.c (1,.s) (.c (2,.q) (.c (3,.q) jJ))))) hI (by kernel_rfl) (by kernel_rfl) ?_)))
  intro w15 hI
  refine cj (α:=NP) (T:=jI) (fun x=>[(1,vi at1),(4,vp b1 0),(5,vi s1.at_),(6,vi 0),(7,vp b3 0),(8,vp b4 0),(11,vi r2),(36,(Value.agg (aq s2 a6 c15 a7 c16 a8 c17))),(37,vi r2),(38,vi r2),(39,(vb (!decide (r2=0)))),(43,(Value.agg (aq s2 a6 c15 a7 c16 a8 c17))),(44,vp b2 0),(45,vp b2 0),(46,vp b2 1),(47,vi s1.at_)]) (fun x w=>Bun du F w0 x w [MO.box b2 67 (af s1 a5 c14),MO.box b4 39 (aq s2 a6 c15 a7 c16 a8 c17),MO.box b1 39 (aq s2 a6 c15 a7 c16 a8 c17)] [Cl.sl ag a5 c14 s1.l,Cl.sl ai a6 c15 s2.Lin.L,Cl.sl ak a7 c16 s2.Idx,Cl.sl an a8 c17 s2.Args,Cl.sl an none 0 ([]:List GExpr),Cl.sl ak none 0 ([]:List GIndex),Cl.sl ai none 0 ([]:List GMono),Cl.blk b3 65 #[vp b2 0],Cl.sl ag a1 c1 l1,av]) (fun x w=>SN [] (DM true F x) w) ?_ ?_
  ·clear hI;rintro c24 w14 hI
   try dsimp only at hI ⊢
   unfold jI
   refine oq ?_
   refine bb (aA ?_)
   obtain rfl:=aj h
   exact eV (vs:=[(Value.agg (aq s2 a6 c15 a7 c16 a8 c17)),vi s1.at_,vi 0]) Tryz.results15 ⟨⟨_,aK rfl rfl,ci (l:=(aX s2 a6 c15 a7 c16 a8 c17)) jT rfl aC (CellsAt.of_blk (hI.blk (.s (.s .z))) rfl)⟩,⟨aK rfl rfl,⟨aK rfl rfl,trivial⟩⟩⟩ ⟨a6,c15,a7,c16,a8,c17,rfl,hI.ext0,hI.fin ⟨(.s .z),(.s (.s .z)),(.s (.s (.s .z))),trivial⟩⟩
  intro hk_tr_parser_ExprAt_1_1
  refine cj (α:=NP) (T:=jJ) (fun x=>[(1,vi at1),(4,vp b1 0),(7,vp b3 0),(8,vp b4 0),(11,vi r2),(36,(Value.agg (aq s2 a6 c15 a7 c16 a8 c17))),(37,vi r2),(38,vi r2),(39,(vb (!decide (r2=0)))),(43,(Value.agg (aq s2 a6 c15 a7 c16 a8 c17))),(44,vp b2 0),(45,vp b2 0),(46,vp b2 1)]) (fun x w=>Bun du F w0 x w [MO.box b2 67 (af s1 a5 c14),MO.box b4 39 (aq s2 a6 c15 a7 c16 a8 c17),MO.box b1 39 (aq s2 a6 c15 a7 c16 a8 c17)] [Cl.sl ag a5 c14 s1.l,Cl.sl ai a6 c15 s2.Lin.L,Cl.sl ak a7 c16 s2.Idx,Cl.sl an a8 c17 s2.Args,Cl.sl an none 0 ([]:List GExpr),Cl.sl ak none 0 ([]:List GIndex),Cl.sl ai none 0 ([]:List GMono),Cl.blk b3 65 #[vp b2 0],Cl.sl ag a1 c1 l1,av]) (fun x w=>SN [] (DM true F x) w) ?_ ?_
  ·clear hI;rintro c23 w13 hI
   try dsimp only at hI ⊢
   unfold jJ
   refine bn rfl gn rfl (bo (v:=(vi s1.at_)) rfl et u3 rfl (CellsAt.of_blk (hI.blk .z) rfl)) SX.self ?_
   refine l6 rfl gn rfl (fun w'=>cy rfl et) ?_
   refine l6 rfl gn rfl (fun w'=>cy rfl ao) ?_
   exact aW (hk_tr_parser_ExprAt_1_1 c23 _ (hI.arr GO SU)) SB
  intro hk_tr_parser_ExprAt_1_0
  refine ct rfl gn rfl (fun w' hw'=>(am (l:=(aX s2 a6 c15 a7 c16 a8 c17)) rfl et jT rfl aC ((CA.blk (hI.blk (.s .z)) rfl).at_ (SX.any rfl hw')))) (by kernel_rfl) ?_
  refine da ?_ ?_
  ·skip
   refine bn rfl gn rfl (bo (v:=(vp b2 0)) rfl et Iy rfl (hI.kblk (l:=[vp b2 0]) (.s (.s (.s (.s (.s (.s (.s .z))))))) rfl).1) SX.self ?_
   refine l6 rfl gn rfl (fun w'=>nI rfl et) ?_
   refine l6 rfl gn rfl (fun w'=>aN rfl et Ix rfl jt rfl) ?_
   refine da ?_ ?_
   ·skip
    refine bn rfl gn rfl (bo (v:=(vi s1.at_)) rfl et u3 rfl (CellsAt.of_blk (hI.blk .z) rfl)) SX.self ?_
    refine bJ (F:=F) (C:=c19) rfl rfl ?_
    refine vA fun c22 w12 hI=> ?_
    refine l6 rfl gn rfl (fun w'=>cy rfl et) ?_
    refine l6 rfl gn rfl (fun w'=>cy rfl ao) ?_
    exact aW (hk_tr_parser_ExprAt_1_1 c22 _ (hI.arr GO SU)) SB
   refine bu (F:=F) (C:=c19) rfl rfl ?_
   refine vA fun c22 w12 hI=> ?_
   exact aW (hk_tr_parser_ExprAt_1_0 c22 _ (hI.arr GO SU)) SB
  refine bu (F:=F) (C:=c19) rfl rfl ?_
  refine vA fun c22 w12 hI=> ?_
  refine bn rfl gn rfl (bo (v:=(vp b2 0)) rfl et Iy rfl (hI.kblk (l:=[vp b2 0]) (.s (.s (.s (.s (.s (.s (.s .z))))))) rfl).1) SX.self ?_
  refine l6 rfl gn rfl (fun w'=>nI rfl et) ?_
  refine l6 rfl gn rfl (fun w'=>aN rfl et Ix rfl jt rfl) ?_
  exact aW (hk_tr_parser_ExprAt_1_0 c22 _ (hI.arr GO SU)) SB
 try dsimp only at h
 refine aB gn rfl (Rc Tryz.func29) (Calls.mono (tr (cl:=[Cl.sl ag a1 c1 l1,Cl.blk b3 65 #[vp b2 0],Cl.sl ai none 0 ([]:List GMono),Cl.sl ak none 0 ([]:List GIndex),Cl.sl an none 0 ([]:List GExpr),av]) F2 (hB.subs ⟨(.s (.s (.s (.s .z)))),(.s (.s (.s .z))),(.s (.s .z)),(.s .z),.z,(.s (.s (.s (.s (.s .z))))),trivial⟩) (fun C1_ F1_ w1_ hB_=>(oh hB_ hx1).mono fun e_ w_ hq_=>eY hq_)) ?_)
 rintro _ w16 ⟨rfl,c25,hB2⟩
 obtain⟨c26,hs2,hI⟩:=hk1 _ _ _ _ hB2
 replace hI:Bun du F w0 c26 w16 [MO.box b1 39 #[vi 0,(aE ([]:List UInt8)),vi 0,vi 0,vi 0,vi 0,vi 0,vi 0,vi 0,vi 0,vs none 0 0,vs none 0 0,vs none 0 0]] [Cl.sl an none 0 ([]:List GExpr),Cl.sl ak none 0 ([]:List GIndex),Cl.sl ai none 0 ([]:List GMono),Cl.blk b3 65 #[vp b2 0],Cl.sl ag a1 c1 l1,av]:=hI
 refine⟨_,rfl,?_⟩
 have hk2:(!decide (pn1=0))=true:=by simp[hn1]
 refine sm ?_
 refine sq (eW rfl et rfl) ?_
 refine sq (eW rfl et rfl) ?_
 refine sa ?_
 refine sa ?_
 refine nk (sr (sm ?_))
 refine sq (ow rfl et ao) ?_
 refine nk (q8 (b:= !decide (pn1=0)) et (fun _=> ?_) (fun hb=>absurd (hb.symm.trans hk2) (by simp)))
 refine sr (sq (ax (vs:=[]) (cs:=#[vi 0,(aE ([]:List UInt8)),vi 0,vi 0,vi 0,vi 0,vi 0,vi 0,vi 0,vi 0,vs none 0 0,vs none 0 0,vs none 0 0]) rfl trivial (by kernel_rfl)) ?_)
 refine sm ?_
 refine sm ?_
 refine lA fun c27 w17 hI=> ?_
 refine sa ?_
 refine sa ?_
 refine aM ?_
 refine nR (e:=[(4,vp b1 0),(5,vi pa1),(6,vi pn1)]) SB ?_
 refine aA ?_
 obtain rfl:=aj h
 exact eV (vs:=[(Value.agg #[vi 0,(aE ([]:List UInt8)),vi 0,vi 0,vi 0,vi 0,vi 0,vi 0,vi 0,vi 0,vs none 0 0,vs none 0 0,vs none 0 0]),vi pa1,vi pn1]) Tryz.results15 ⟨⟨_,aK rfl rfl,ci (l:=[vi 0,(aE ([]:List UInt8)),vi 0,vi 0,vi 0,vi 0,vi 0,vi 0,vi 0,vi 0,vs none 0 0,vs none 0 0,vs none 0 0]) jT rfl aC (CellsAt.of_blk (hI.blk .z) rfl)⟩,⟨aK rfl rfl,⟨aK rfl rfl,trivial⟩⟩⟩ ⟨none,0,none,0,none,0,rfl,hI.ext0,hI.fin ⟨(.s (.s .z)),(.s .z),.z,trivial⟩⟩
theorem uN (hF:dG F w0) {s1:List UInt8} {l1:List aS} {at1:Int} (hc:AllCl [Cl.sl ag a1 c1 l1] F w0) {r:Int} (h:jy s1 l1 at1=some r):CR F w0 40 #[(aE s1),vs a1 l1.length c1,vi at1] (vi r) []:=by
 refine EN Tryz.func40 Tryz.ntmps40 hF hc fun hI=> ?_
 rw[jy]at h
 refine T ?_
 refine al (T ?_)
 refine TR fun hb h=> ?_
 refine T ?_
 obtain⟨e1,hx1,h⟩:=ae h
 obtain⟨ad1,cs1,hA1,hr1,hq1⟩:=hI.clat .z hx1
 obtain rfl:cs1=(kx e1):=hr1
 refine sI ?_
 exact RF
theorem mI (hF:dG F w0) {s1:List UInt8} (hc:AllCl [av] F w0) {r:GExpr×Int×Int} (h:eQ s1=some r):Cg 18 #[(aE s1)] w0 fun e w=>∃ a1 c1 a2 c2 a3 c3,e= .returned (Value.tuple #[(Value.agg (aq r.1 a1 c1 a2 c2 a3 c3)),vi r.2.1,vi r.2.2])∧Ext w0 w∧AllCl [Cl.sl ai a1 c1 r.1.Lin.L,Cl.sl ak a2 c2 r.1.Idx,Cl.sl an a3 c3 r.1.Args] F w:=by
 refine EN Tryz.func18 Tryz.ntmps18 hF hc fun hI=> ?_
 rw[eQ]at h
 refine sr (cF (cs:=#[vi 0,(aE ([]:List UInt8)),vi 0,vi 0,vi 0,vi 0,vi 0,vi 0,vi 0,vi 0,vs none 0 0,vs none 0 0,vs none 0 0]) hI gn rfl rfl dN rfl ?_)
 intro b1 c4 w1 hI
 refine T ?_
 obtain⟨r1,hx1,h⟩:=ae h
 refine aB gn rfl (Rc Tryz.func39) (Calls.mono (tW hI.lt trivial hx1) ?_)
 rintro _ w2 ⟨a4,c5,rfl,hx2,hl1⟩
 refine⟨_,rfl,?_⟩
 replace hI:=(hI.ext hx2).adds hl1;dsimp only[ca,na]at hI
 refine T ?_
 refine al (T ?_)
 refine TC (fun hb h=> ?_) fun hb h=> ?_
 ·refine sr (sq (ax (vs:=[]) (cs:=#[vi 0,(aE ([]:List UInt8)),vi 0,vi 0,vi 0,vi 0,vi 0,vi 0,vi 0,vi 0,vs none 0 0,vs none 0 0,vs none 0 0]) rfl trivial (by kernel_rfl)) ?_)
  refine T ?_
  refine lA fun c6 w3 hI=> ?_
  refine T ?_
  refine aA ?_
  have hI:=hI.add (c:=Cl.sl ai none 0 ([]:List GMono)) SlC.nil
  have hI:=hI.add (c:=Cl.sl ak none 0 ([]:List GIndex)) SlC.nil
  have hI:=hI.add (c:=Cl.sl an none 0 ([]:List GExpr)) SlC.nil
  obtain rfl:=aj h
  refine QG ?_
  exact⟨none,0,none,0,none,0,rfl,hI.ext0,hI.fin ⟨(.s (.s .z)),(.s .z),.z,trivial⟩⟩
 refine T ?_
 obtain⟨r2,hx3,h⟩:=ae h
 refine aB gn rfl (Rc Tryz.func15) (Calls.mono (uO hI.lt FS hx3) ?_)
 rintro _ w4 ⟨a5,c7,a6,c8,a7,c9,rfl,hx4,hl2⟩
 refine⟨_,rfl,?_⟩
 replace hI:=(hI.ext hx4).adds hl2;dsimp only[ca,na]at hI
 refine T ?_
 refine lN fun b2 c10 w5 hI=> ?_
 refine lA fun c11 w6 hI=> ?_
 refine T ?_
 refine bw (α:=Int) (fun _=>⟨44,[]⟩) (fun x=>[(0,(aE s1)),(2,vp b1 0),(5,vs a4 r1.1.length c5),(7,vi x),(8,vp b2 0),(9,vi r2.2.1)]) (fun x=>fun w=>∃ C,Bun du F w0 C w [MO.box b1 39 #[vi 0,(aE ([]:List UInt8)),vi 0,vi 0,vi 0,vi 0,vi 0,vi 0,vi 0,vi 0,vs none 0 0,vs none 0 0,vs none 0 0],MO.box b2 39 (aq r2.1 a5 c7 a6 c8 a7 c9)] [Cl.sl ag a4 c5 r1.1,Cl.sl ai a5 c7 r2.1.Lin.L,Cl.sl ak a6 c8 r2.1.Idx,Cl.sl an a7 c9 r2.1.Args,av]∧gX s1 r1 r2 x=some r) ?_ ?_
 ·clear h hI;rintro e1 w7 ⟨c12,hI,h⟩
  try dsimp only at hI h ⊢
  rw[gX]at h
  refine al (T ?_)
  refine TC (fun hb h=> ?_) fun hb h=> ?_
  ·refine sr (sq (ax (vs:=[]) (cs:=#[vi 0,(aE ([]:List UInt8)),vi 0,vi 0,vi 0,vi 0,vi 0,vi 0,vi 0,vi 0,vs none 0 0,vs none 0 0,vs none 0 0]) rfl trivial (by kernel_rfl)) ?_)
   refine T ?_
   refine sB h (fun _ k=>uN hI.lt FS k) (Rc Tryz.func40) fun r3 w8 h hI=> ?_
   refine sm ?_
   refine lA fun c13 w9 hI=> ?_
   refine T ?_
   refine aA ?_
   have hI:=hI.add (c:=Cl.sl ai none 0 ([]:List GMono)) SlC.nil
   have hI:=hI.add (c:=Cl.sl ak none 0 ([]:List GIndex)) SlC.nil
   have hI:=hI.add (c:=Cl.sl an none 0 ([]:List GExpr)) SlC.nil
   obtain rfl:=aj h
   refine QG ?_
   exact⟨none,0,none,0,none,0,rfl,hI.ext0,hI.fin ⟨(.s (.s .z)),(.s .z),.z,trivial⟩⟩
  refine T ?_
  refine lA fun c14 w10 hI=> ?_
  refine T ?_
  refine aA ?_
  obtain rfl:=aj h
  refine QG ?_
  exact⟨a5,c7,a6,c8,a7,c9,rfl,hI.ext0,hI.fin ⟨(.s .z),(.s (.s .z)),(.s (.s (.s .z))),trivial⟩⟩
 refine TC (fun hb h=> ?_) fun hb h=> ?_
 ·refine T ?_
  refine aM ?_
  exact kj 5
 exact bf (bi r2.2.2 SB BH rfl)
theorem qk (hF:dG F w0) {a1 b1:GLin} (hc:AllCl [Cl.sl ai a2 c1 a1.L,Cl.sl ai a3 c2 b1.L] F w0) {r:Bool} (h:lV a1 b1=some r):CR F w0 14 #[(Value.agg (bQ a1 a2 c1)),(Value.agg (bQ b1 a3 c2))] (vb r) []:=by
 refine EN Tryz.func14 Tryz.ntmps14 hF hc fun hI=> ?_
 rw[lV]at h
 refine sr (lX fun b2 c4 w1 hI=> ?_)
 refine lX fun b3 c6 w2 hI=> ?_
 refine T ?_
 refine al (T ?_)
 refine TR fun hb h=> ?_
 refine T ?_
 refine al (T ?_)
 refine bh (α:=Nat×Int) (fun x=>fun w=>∃ C,Bun du F w0 C w [] [Cl.blk b2 27 (bQ a1 a2 c1),Cl.sl ai a2 c1 a1.L,Cl.blk b3 27 (bQ b1 a3 c2),Cl.sl ai a3 c2 b1.L]∧i6 a1 b1 (x.1) (x.2)=some r) (fun x _=>x.1) (fun x=>[(2,vp b2 0),(3,vp b3 0),(5,vi (x.2))]) (fu,0) BH SB ?_
 clear h hI;rintro⟨fuel1,i1⟩ w3 ⟨c7,hI,h⟩
 dsimp only at hI h ⊢
 rcases fuel1 with _ | fuel1
 ·rw[i6]at h;cases h
 rw[i6]at h
 refine al (T ?_)
 refine TC (fun hb h=> ?_) fun hb h=> ?_
 ·refine T ?_
  refine al (T ?_)
  refine al (aI [] false (.c (0,.q) (.c (1,.q) (.c (2,.q) (.c (3,.q) (.c (4,.q) (.c (5,.q) (.c (6,.q) (.c (7,.q) (.c (8,.q) (.c (9,.q) (.c (10,.q) .n))))))))))) hI (by kernel_rfl) (by kernel_rfl) ?_)
  intro w4 hI
  refine V ?_
  obtain⟨e1,hx1,h⟩:=ae h
  obtain⟨ad1,cs1,hA1,hr1,hq1⟩:=hI.clat (.s .z) hx1
  obtain rfl:cs1=(ky e1):=hr1
  refine vI ?_
  refine ct rfl gn rfl (fun w' hw'=>(am (l:=(ky e1)) rfl et u64 rfl rj (hq1.at_ (SX.any rfl hw')))) (by kernel_rfl) ?_
  refine V ?_
  obtain⟨e2,hx2,h⟩:=ae h
  obtain⟨ad2,cs2,hA2,hr2,hq2⟩:=hI.clat (.s (.s (.s .z))) hx2
  obtain rfl:cs2=(ky e2):=hr2
  refine vI ?_
  refine ct rfl gn rfl (fun w' hw'=>(am (l:=(ky e2)) rfl et u64 rfl rj (hq2.at_ (SX.any rfl hw')))) (by kernel_rfl) ?_
  refine l6 rfl gn rfl (fun w'=>ji rfl et et (yF ..) (Bn ..)) ?_
  refine V ?_
  refine TR fun hb h=> ?_
  refine T ?_
  refine aM ?_
  exact kl (fuel1,ar (i1+1))
 refine bk ?_
 refine eU ?_
 refine bb ?_
 exact RF
theorem pM (hF:dG F w0) (hc:AllCl [av] F w0) {r:Bool} (h:ki=some r):CR F w0 11 #[] (vb r) []:=by
 refine oN Tryz.func11 rfl Tryz.ntmps11 rfl ?_
 have hI:=Bun.start hF hc
 clear hc
 rw[ki]at h
 refine T ?_
 obtain⟨r1,hx1,h⟩:=ae h
 refine aB gn rfl (aF (vs:=[(aE ([50,42,105,32,45,32,51,32,43,32,105]:List UInt8))]) rfl F4 ⟨ao,trivial⟩) (Calls.mono (pG (F:=(Dj F du)) (w0:=w0) hI.lt (s1:=([50,42,105,32,45,32,51,32,43,32,105]:List UInt8)) trivial (r:=r1) hx1) ?_)
 rintro _ w1 ⟨a1,c1,rfl,hx2,hl1⟩
 refine⟨_,rfl,?_⟩
 replace hI:=(hI.ext hx2).adds hl1;dsimp only[ca,na]at hI
 refine T ?_
 obtain⟨r2,hx3,h⟩:=ae h
 refine aB gn rfl (aF (vs:=[vs a1 r1.1.length c1,vi 0]) rfl Ic ⟨et,⟨ao,trivial⟩⟩) (Calls.mono (yS (F:=(Dj F du)) (w0:=w1) hI.lt (l1:=r1.1) (at1:=0) (a1:=a1) (c1:=c1) ⟨(hI.get .z),(hI.get (.s .z)),trivial⟩ (r:=r2) hx3) ?_)
 rintro _ w2 ⟨a2,c2,rfl,hx4,hl2⟩
 refine⟨_,rfl,?_⟩
 replace hI:=(hI.ext hx4).adds hl2;dsimp only[ca,na]at hI
 refine T ?_
 refine cF (cs:=#[vi 0,vs none 0 0]) hI gn rfl rfl lg rfl ?_
 clear hI;intro b1 c3 w3 hI
 refine ba (new:=(gc r2.1 a2 c2)) (cs':=(bQ r2.1 a2 c2)) hI .z gn rfl rfl et et rfl bt rfl rfl rfl ?_
 clear hI;intro c4 w4 hI
 refine T ?_
 obtain⟨r3,hx5,h⟩:=ae h
 refine aB gn rfl (aF (vs:=[(aE ([97,91,105,93,32,43,32,98,91,93,32,42,32,91,50,93]:List UInt8))]) rfl zZ ⟨ao,trivial⟩) (Calls.mono (mI (F:=(Dj F c4)) (w0:=w4) hI.lt (s1:=([97,91,105,93,32,43,32,98,91,93,32,42,32,91,50,93]:List UInt8)) ⟨(hI.get (.s (.s .z))),trivial⟩ (r:=r3) hx5) ?_)
 rintro _ w5 ⟨a3,c5,a4,c6,a5,c7,rfl,hx6,hl3⟩
 refine⟨_,rfl,?_⟩
 replace hI:=(hI.ext hx6).adds hl3;dsimp only[ca,na]at hI
 refine T ?_
 refine cF (cs:=#[vi 0,(aE ([]:List UInt8)),vi 0,vi 0,vi 0,vi 0,vi 0,vi 0,vi 0,vi 0,vs none 0 0,vs none 0 0,vs none 0 0]) hI gn rfl rfl dN rfl ?_
 clear hI;intro b2 c8 w6 hI
 refine ba (new:=(aX r3.1 a3 c5 a4 c6 a5 c7)) (cs':=(aq r3.1 a3 c5 a4 c6 a5 c7)) hI .z gn rfl rfl et et rfl aC rfl rfl rfl ?_
 clear hI;intro c9 w7 hI
 refine T ?_
 obtain⟨r4,hx7,h⟩:=ae h
 refine aB gn rfl (aF (vs:=[(aE ([97,91]:List UInt8))]) rfl zZ ⟨ao,trivial⟩) (Calls.mono (mI (F:=(Dj F c9)) (w0:=w7) hI.lt (s1:=([97,91]:List UInt8)) ⟨(hI.get (.s (.s (.s (.s (.s .z)))))),trivial⟩ (r:=r4) hx7) ?_)
 rintro _ w8 ⟨a6,c10,a7,c11,a8,c12,rfl,hx8,hl4⟩
 refine⟨_,rfl,?_⟩
 replace hI:=(hI.ext hx8).adds hl4;dsimp only[ca,na]at hI
 refine T ?_
 refine cF (cs:=#[vi 0,(aE ([]:List UInt8)),vi 0,vi 0,vi 0,vi 0,vi 0,vi 0,vi 0,vi 0,vs none 0 0,vs none 0 0,vs none 0 0]) hI gn rfl rfl dN rfl ?_
 clear hI;intro b3 c13 w9 hI
 refine ba (new:=(aX r4.1 a6 c10 a7 c11 a8 c12)) (cs':=(aq r4.1 a6 c10 a7 c11 a8 c12)) hI .z gn rfl rfl et et rfl aC rfl rfl rfl ?_
 clear hI;intro c14 w10 hI
 refine T ?_
 obtain⟨r5,hx9,h⟩:=ae h
 refine aB gn rfl (aF (vs:=[(aE ([97,91,105,93,32,43,42,32,50]:List UInt8))]) rfl zZ ⟨ao,trivial⟩) (Calls.mono (mI (F:=(Dj F c14)) (w0:=w10) hI.lt (s1:=([97,91,105,93,32,43,42,32,50]:List UInt8)) ⟨(hI.get (.s (.s (.s (.s (.s (.s (.s (.s .z))))))))),trivial⟩ (r:=r5) hx9) ?_)
 rintro _ w11 ⟨a9,c15,a10,c16,a11,c17,rfl,hx10,hl5⟩
 refine⟨_,rfl,?_⟩
 replace hI:=(hI.ext hx10).adds hl5;dsimp only[ca,na]at hI
 refine T ?_
 refine cF (cs:=#[vi 0,(aE ([]:List UInt8)),vi 0,vi 0,vi 0,vi 0,vi 0,vi 0,vi 0,vi 0,vs none 0 0,vs none 0 0,vs none 0 0]) hI gn rfl rfl dN rfl ?_
 clear hI;intro b4 c18 w12 hI
 refine ba (new:=(aX r5.1 a9 c15 a10 c16 a11 c17)) (cs':=(aq r5.1 a9 c15 a10 c16 a11 c17)) hI .z gn rfl rfl et et rfl aC rfl rfl rfl ?_
 clear hI;intro c19 w13 hI
 refine T ?_
 obtain⟨r6,hx11,h⟩:=ae h
 refine aB gn rfl (aF (vs:=[(aE ([102,114,97,99,40,50,47,52,41]:List UInt8))]) rfl zZ ⟨ao,trivial⟩) (Calls.mono (mI (F:=(Dj F c19)) (w0:=w13) hI.lt (s1:=([102,114,97,99,40,50,47,52,41]:List UInt8)) ⟨(hI.get (.s (.s (.s (.s (.s (.s (.s (.s (.s (.s (.s .z)))))))))))),trivial⟩ (r:=r6) hx11) ?_)
 rintro _ w14 ⟨a12,c20,a13,c21,a14,c22,rfl,hx12,hl6⟩
 refine⟨_,rfl,?_⟩
 replace hI:=(hI.ext hx12).adds hl6;dsimp only[ca,na]at hI
 refine T ?_
 refine cF (cs:=#[vi 0,(aE ([]:List UInt8)),vi 0,vi 0,vi 0,vi 0,vi 0,vi 0,vi 0,vi 0,vs none 0 0,vs none 0 0,vs none 0 0]) hI gn rfl rfl dN rfl ?_
 clear hI;intro b5 c23 w15 hI
 refine ba (new:=(aX r6.1 a12 c20 a13 c21 a14 c22)) (cs':=(aq r6.1 a12 c20 a13 c21 a14 c22)) hI .z gn rfl rfl et et rfl aC rfl rfl rfl ?_
 clear hI;intro c24 w16 hI
 refine T ?_
 refine al (T ?_)
 refine az (cq rfl rfl rfl rfl) rfl (fun hc=>(am (l:=(gc r2.1 a2 c2)) rfl et oy rfl bt (CellsAt.of_blk (hI.blk (.s (.s (.s (.s .z))))) rfl))) ?_
 refine az (cq rfl rfl rfl rfl) rfl (fun hc=>(ax (vs:=[(0,(aE ([105]:List UInt8))),(1,vi 3)]) (cs:=#[(aE ([105]:List UInt8)),vi 3]) rfl ⟨rfl,ao,⟨rfl,ao,trivial⟩⟩ (by kernel_rfl))) ?_
 obtain⟨ho1,h⟩:=eF h
 refine Gb (c:=ai) (xs:=([(⟨([105]:List UInt8),3⟩:GMono)]:List GMono)) (vs:=[(0,(Value.agg #[(aE ([105]:List UInt8)),vi 3]))]) (cs:=#[(aE ([105]:List UInt8)),vi 3]) (css:=[[(aE ([105]:List UInt8)),vi 3]]) hI (Eq (cq rfl rfl rfl rfl) ho1) rfl rfl Cn nu rfl ⟨rfl,(aQ et ho1),trivial⟩ (by kernel_rfl) ⟨rfl,trivial⟩ rfl rfl rfl ?_
 clear hI;intro b6 c25 w17 hI
 refine az (cq rfl rfl rfl rfl) rfl (fun hc=>(ax (vs:=[(0,vi (-3)),(1,(vs (some ⟨b6,0,none⟩) ([(⟨([105]:List UInt8),3⟩:GMono)]:List GMono).length 1))]) (cs:=#[vi (-3),(vs (some ⟨b6,0,none⟩) ([(⟨([105]:List UInt8),3⟩:GMono)]:List GMono).length 1)]) rfl ⟨rfl,ao,⟨rfl,et,trivial⟩⟩ (by kernel_rfl))) ?_
 obtain⟨r7,hx13,h⟩:=ae h
 refine aB (Eq (cq rfl rfl rfl rfl) ho1) rfl (aF (vs:=[(Value.agg (bQ r2.1 a2 c2)),(Value.agg #[vi (-3),(vs (some ⟨b6,0,none⟩) ([(⟨([105]:List UInt8),3⟩:GMono)]:List GMono).length 1)])]) rfl F6 ⟨(aQ et ho1),⟨(aQ et ho1),trivial⟩⟩) (Calls.mono (qk (F:=du) (w0:=w17) NE (a1:=r2.1) (b1:=(⟨(-3),([(⟨([105]:List UInt8),3⟩:GMono)]:List GMono)⟩:GLin)) (a2:=a2) (c1:=c2) (a3:=(some ⟨b6,0,none⟩)) (c2:=1) ⟨(hI.get0 (.s (.s (.s (.s (.s (.s (.s (.s (.s (.s (.s (.s .z))))))))))))),hI.lend .z,trivial⟩ (r:=r7) hx13) ?_)
 rintro _ w18 ⟨rfl,hx14,hl7⟩
 refine⟨_,rfl,?_⟩
 replace hI:=(hI.ext hx14)
 refine T ?_
 refine vm h et (fun hb h=> ?_) (fun hb h=> ?_)
 ·refine T ?_
  refine aA ?_
  obtain rfl:=aj h
  exact QF hI
 refine T ?_
 obtain⟨e1,hx15,h⟩:=ae h
 replace hx15:=ay hx15
 obtain⟨ad1,cs1,hq1⟩:=hI.gclat (.s (.s (.s (.s (.s (.s (.s (.s (.s (.s (.s .z))))))))))) hx15
 obtain⟨a15,c26,a16,c27,a17,c28,hq2⟩:∃ (a15:Option Addr) (c26:Nat) (a16:Option Addr) (c27:Nat) (a17:Option Addr) (c28:Nat),(decide (r3.1.Op=4))=true→(a5=some ad1∧cs1=(aX e1 a15 c26 a16 c27 a17 c28)∧CA (Dj F c25) w18 (ad1.add (Int.toNat 0 * 13)) cs1∧SlC ai (Dj F c25) w18 a15 c26 e1.Lin.L∧SlC ak (Dj F c25) w18 a16 c27 e1.Idx∧SlC an (Dj F c25) w18 a17 c28 e1.Args):=by
  by_cases hc:(decide (r3.1.Op=4))=true
  ·obtain⟨k1,k2,k3⟩:=hq1 hc;obtain⟨a15,c26,a16,c27,a17,c28,rfl,hf1,hf2,hf3⟩:=iG k2;exact⟨a15,c26,a16,c27,a17,c28,fun _=>⟨k1,rfl,k3,hf1,hf2,hf3⟩⟩
  exact⟨default,default,default,default,default,default,fun k=>absurd k hc⟩
 clear hq1
 have hI:=hI.add (c:=Cl.gsl (decide (r3.1.Op=4)) ai a15 c26 e1.Lin.L) (fun hc=>(hq2 hc).2.2.2.1)
 have hI:=hI.add (c:=Cl.gsl (decide (r3.1.Op=4)) ak a16 c27 e1.Idx) (fun hc=>(hq2 hc).2.2.2.2.1)
 have hI:=hI.add (c:=Cl.gsl (decide (r3.1.Op=4)) an a17 c28 e1.Args) (fun hc=>(hq2 hc).2.2.2.2.2)
 have hq3:(decide (r3.1.Op=4))=true→CA (Dj F c25) w18 (ad1.add (Int.toNat 0 * 13)) (aX e1 a15 c26 a16 c27 a17 c28):=fun hc=>uq (hq2 hc).2.1 (hq2 hc).2.2.1
 refine sJ ?_
 refine T ?_
 obtain⟨e2,hx16,h⟩:=ae h
 replace hx16:=ay hx16
 obtain⟨ad2,cs2,hq4⟩:=hI.gclat (.s (.s (.s (.s (.s (.s (.s (.s (.s (.s (.s (.s (.s (.s .z)))))))))))))) hx16
 obtain⟨a18,c29,a19,c30,a20,c31,hq5⟩:∃ (a18:Option Addr) (c29:Nat) (a19:Option Addr) (c30:Nat) (a20:Option Addr) (c31:Nat),((decide (r3.1.Op=4))&&(decide (e1.Op=3)))=true→(a5=some ad2∧cs2=(aX e2 a18 c29 a19 c30 a20 c31)∧CA (Dj F c25) w18 (ad2.add (Int.toNat 1 * 13)) cs2∧SlC ai (Dj F c25) w18 a18 c29 e2.Lin.L∧SlC ak (Dj F c25) w18 a19 c30 e2.Idx∧SlC an (Dj F c25) w18 a20 c31 e2.Args):=by
  by_cases hc:((decide (r3.1.Op=4))&&(decide (e1.Op=3)))=true
  ·obtain⟨k1,k2,k3⟩:=hq4 hc;obtain⟨a18,c29,a19,c30,a20,c31,rfl,hf4,hf5,hf6⟩:=iG k2;exact⟨a18,c29,a19,c30,a20,c31,fun _=>⟨k1,rfl,k3,hf4,hf5,hf6⟩⟩
  exact⟨default,default,default,default,default,default,fun k=>absurd k hc⟩
 clear hq4
 have hI:=hI.add (c:=Cl.gsl ((decide (r3.1.Op=4))&&(decide (e1.Op=3))) ai a18 c29 e2.Lin.L) (fun hc=>(hq5 hc).2.2.2.1)
 have hI:=hI.add (c:=Cl.gsl ((decide (r3.1.Op=4))&&(decide (e1.Op=3))) ak a19 c30 e2.Idx) (fun hc=>(hq5 hc).2.2.2.2.1)
 have hI:=hI.add (c:=Cl.gsl ((decide (r3.1.Op=4))&&(decide (e1.Op=3))) an a20 c31 e2.Args) (fun hc=>(hq5 hc).2.2.2.2.2)
 have hq6:((decide (r3.1.Op=4))&&(decide (e1.Op=3)))=true→CA (Dj F c25) w18 (ad2.add (Int.toNat 1 * 13)) (aX e2 a18 c29 a19 c30 a20 c31):=fun hc=>uq (hq5 hc).2.1 (hq5 hc).2.2.1
 refine sJ ?_
 refine T ?_
 refine aA ?_
 obtain rfl:=aj h
 exact QF hI
theorem bv (hF:dG F w0) {p1:ac} {k1:Int} {s1:List UInt8} (hc:AllCl [Cl.sl ag a1 c1 p1.L] F w0) {r:Bool} (h:aL p1 k1 s1=some r):CR F w0 72 #[(Value.agg (ab p1 a1 c1)),vi k1,(aE s1)] (vb r) []:=by
 refine EN Tryz.func72 Tryz.ntmps72 hF hc fun hI=> ?_
 rw[aL]at h
 refine sr (lX fun b1 c3 w1 hI=> ?_)
 refine T ?_
 refine al (T ?_)
 refine TR fun hb h=> ?_
 refine T ?_
 refine bw (α:=Int) (fun _=>⟨53,[]⟩) (fun x=>[(1,vi k1),(2,(aE s1)),(3,vp b1 0),(7,vi x)]) (fun x=>fun w=>∃ C,Bun du F w0 C w [] [Cl.blk b1 72 (ab p1 a1 c1),Cl.sl ag a1 c1 p1.L]∧kY p1 k1 s1 x=some r) ?_ ?_
 ·clear h hI;rintro kind1 w2 ⟨c4,hI,h⟩
  try dsimp only at hI h ⊢
  rw[kY]at h
  refine T ?_
  obtain⟨e1,hx1,h⟩:=ae h
  obtain⟨ad1,cs1,hA1,hr1,hq1⟩:=hI.clat (.s .z) hx1
  obtain rfl:cs1=(kx e1):=hr1
  refine sI ?_
  refine T ?_
  obtain⟨e2,hx2,h⟩:=ae h
  replace hx2:=ay hx2
  obtain⟨ad2,cs2,hq2⟩:=hI.gclat (.s .z) hx2
  have hq3:(decide (e1.Kind=kind1))=true→CA (Dj F c4) w2 (ad2.add (Int.toNat (ar (p1.At+k1)) * 3)) (kx e2):=fun hc=>uq (hq2 hc).2.1 (hq2 hc).2.2
  refine sJ ?_
  exact RF
 refine T ?_
 obtain⟨b2,hx3,h⟩:=ae h
 refine sI ?_
 refine T ?_
 obtain⟨b3,hx4,h⟩:=ae h
 replace hx4:=ay hx4
 refine sJ ?_
 refine TC (fun hb h=> ?_) fun hb h=> ?_
 ·refine T ?_
  refine aM ?_
  exact kj 1
 exact bf (bi 3 SB BH rfl)
theorem y0 (hF:dG F w0) (hc:AllCl [] F w0) {r:List (List UInt8)} (h:mj=some r):Cg 116 #[] w0 fun e w=>∃ a1 c1,e= .returned (vs a1 r.length c1)∧Ext w0 w∧AllCl [Cl.sl dF a1 c1 r] F w:=by
 refine EN Tryz.func116 Tryz.ntmps116 hF hc fun hI=> ?_
 rw[mj]at h
 refine T ?_
 refine ll hI dF ([([115,105,122,101]:List UInt8),([119,104,101,114,101]:List UInt8),([105,110]:List UInt8),([100,101,102]:List UInt8),([111,117,116]:List UInt8),([115,117,109]:List UInt8),([112,114,111,100]:List UInt8),([109,105,110]:List UInt8),([109,97,120]:List UInt8),([115,99,97,110]:List UInt8),([111,118,101,114]:List UInt8),([105,102]:List UInt8),([99,97,115,116]:List UInt8),([102,114,97,99]:List UInt8),([105,110,116]:List UInt8),([102,105,120]:List UInt8),([99,101,105,108]:List UInt8),([102,108,111,111,114]:List UInt8),([122,101,114,111]:List UInt8),([101,118,101,110]:List UInt8),([115,97,116]:List UInt8),([119,114,97,112]:List UInt8)]:List (List UInt8)) lZ Rr fun b1 c2 w1 hI=> ?_
 refine T ?_
 refine aA ?_
 obtain⟨c3,hI⟩:=hI.release .z
 obtain rfl:=aj h
 refine QG ?_
 exact⟨some ⟨b1,0,none⟩,22,rfl,hI.ext0,hI.fin ⟨.z,trivial⟩⟩
theorem wU (hF:dG F w0) {l1:List (List UInt8)} {s1:List UInt8} (hc:AllCl [Cl.sl dF a1 c1 l1] F w0) {r:Bool} (h:nP l1 s1=some r):CR F w0 115 #[vs a1 l1.length c1,(aE s1)] (vb r) []:=by
 refine EN Tryz.func115 Tryz.ntmps115 hF hc fun hI=> ?_
 rw[nP]at h
 refine T ?_
 refine al (T ?_)
 refine bh (α:=Nat×Int) (fun x=>fun w=>∃ C,Bun du F w0 C w [] [Cl.sl dF a1 c1 l1]∧ia l1 s1 (x.1) (x.2)=some r) (fun x _=>x.1) (fun x=>[(0,vs a1 l1.length c1),(1,(aE s1)),(5,vi (x.2))]) (fu,0) BH SB ?_
 clear h hI;rintro⟨fuel1,i1⟩ w1 ⟨c2,hI,h⟩
 dsimp only at hI h ⊢
 rcases fuel1 with _ | fuel1
 ·rw[ia]at h;cases h
 rw[ia]at h
 refine al (T ?_)
 refine TC (fun hb h=> ?_) fun hb h=> ?_
 ·refine T ?_
  refine al (T ?_)
  obtain⟨e1,hx1,h⟩:=ae h
  obtain⟨ad1,cs1,hA1,hr1,hq1⟩:=hI.clat .z hx1
  obtain rfl:cs1=[(aE e1)]:=hr1
  refine sI ?_
  refine TR fun hb h=> ?_
  refine T ?_
  refine aM ?_
  exact kl (fuel1,ar (i1+1))
 refine bk ?_
 refine eU ?_
 refine bb ?_
 exact RF
theorem om (hF:dG F w0) {s1:List UInt8} (hc:AllCl [] F w0) {r:Bool} (h:ik s1=some r):CR F w0 61 #[(aE s1)] (vb r) []:=by
 refine EN Tryz.func61 Tryz.ntmps61 hF hc fun hI=> ?_
 rw[ik]at h
 refine T ?_
 refine al (T ?_)
 obtain⟨r1,hx1,h⟩:=ae h
 replace hx1:=ay hx1
 refine DJ (β:=(Option Addr)×Nat) (fun x=>(vs (x.1) r1.length (x.2))) (fun x w'=>AllCl [Cl.sl dF (x.1) (x.2) r1] (Dj F du) w') (cq rfl rfl rfl rfl) rfl (fun hc=>(aF (vs:=[]) rfl Hb trivial)) (fun hc=>(y0 hI.lt trivial (hx1 hc)).mono fun _ _ ⟨a1,c1,k1_,k2_,k3_⟩=>⟨(a1,c1),k1_,k2_,k3_⟩) ?_
 rintro⟨a1,c1⟩ w1 hx2 hl1;replace hI:=hI.ext hx2
 have hI:=hI.add (c:=Cl.gsl (!((decide ((s1.length:Int)<1))||(decide (16<(s1.length:Int))))) dF a1 c1 r1) (fun hc=>(hl1 hc).1)
 refine T ?_
 obtain⟨r2,hx3,h⟩:=ae h
 replace hx3:=ay hx3
 refine sU (fun hc=>wU hI.lt ⟨(hI.get .z hc),trivial⟩ (hx3 hc)) (Rg Tryz.func115) fun w2 hI=> ?_
 refine TR fun hb h=> ?_
 refine T ?_
 refine al (T ?_)
 refine bh (α:=Nat×Int) (fun x=>fun w=>∃ C,Bun du F w0 C w [] []∧gD s1 (x.1) (x.2)=some r) (fun x _=>x.1) (fun x=>[(0,(aE s1)),(3,vi (x.2))]) (fu,0) BH SB ?_
 clear h hI;rintro⟨fuel1,i1⟩ w3 ⟨c2,hI,h⟩
 dsimp only at hI h ⊢
 rcases fuel1 with _ | fuel1
 ·rw[gD]at h;cases h
 rw[gD]at h
 refine al (T ?_)
 refine TC (fun hb h=> ?_) fun hb h=> ?_
 ·refine T ?_
  refine al (T ?_)
  obtain⟨b1,hx5,h⟩:=ae h
  refine sI ?_
  refine TR fun hb h=> ?_
  refine T ?_
  refine aM ?_
  exact kl (fuel1,ar (i1+1))
 refine bk ?_
 refine eU ?_
 refine bb ?_
 exact RF
theorem pm (hF:dG F w0) {p1:ac} (hc:AllCl [Cl.sl ag a1 c1 p1.L] F w0) {r:Bool} (h:hO p1=some r):CR F w0 133 #[(Value.agg (ab p1 a1 c1))] (vb r) []:=by
 refine EN Tryz.func133 Tryz.ntmps133 hF hc fun hI=> ?_
 rw[hO]at h
 refine sr (lX fun b1 c3 w1 hI=> ?_)
 refine T ?_
 obtain⟨e1,hx1,h⟩:=ae h
 replace hx1:=ay hx1
 obtain⟨ad1,cs1,hq1⟩:=hI.gclat (.s .z) hx1
 have hq2:((decide (p1.E=0))&&(decide (p1.At<(p1.L.length:Int))))=true→CA (Dj F c3) w1 (ad1.add (Int.toNat p1.At * 3)) (kx e1):=fun hc=>uq (hq1 hc).2.1 (hq1 hc).2.2
 refine sJ ?_
 refine T ?_
 obtain⟨e2,hx2,h⟩:=ae h
 replace hx2:=ay hx2
 obtain⟨ad2,cs2,hq3⟩:=hI.gclat (.s .z) hx2
 have hq4:(((decide (p1.E=0))&&(decide (p1.At<(p1.L.length:Int))))&&(decide (e1.Kind=1)))=true→CA (Dj F c3) w1 (ad2.add (Int.toNat p1.At * 3)) (kx e2):=fun hc=>uq (hq3 hc).2.1 (hq3 hc).2.2
 refine sJ ?_
 refine T ?_
 obtain⟨r1,hx3,h⟩:=ae h
 replace hx3:=ay hx3
 refine sU (fun hc=>om hI.lt trivial (hx3 hc)) (Rg Tryz.func61) fun w2 hI=> ?_
 exact RF
theorem jS (hF:dG F w0) {p1:ac} {at1 e1:Int} (hc:AllCl [Cl.sl ag a1 c1 p1.L] F w0) {r:ac} (h:bq p1 at1 e1=some r):Cg 81 #[(Value.agg (ab p1 a1 c1)),vi at1,vi e1] w0 fun e w=>∃ a2 c2,e= .returned (Value.agg (ab r a2 c2))∧Ext w0 w∧AllCl [Cl.sl ag a2 c2 r.L] F w:=by
 refine EN Tryz.func81 Tryz.ntmps81 hF hc fun hI=> ?_
 rw[bq]at h
 refine sr (mS (v:=(Value.agg (ab p1 a1 c1))) (cs:=(ab p1 a1 c1)) hI gn rfl rfl et rfl ?_)
 intro b1 c3 w1 hI
 refine lN fun b2 c4 w2 hI=> ?_
 refine nk (al (T ?_))
 refine TC (fun hb h=> ?_) fun hb h=> ?_
 ·refine T ?_
  refine lS fun c5 w3 hI=> ?_
  refine T ?_
  refine lS fun c6 w4 hI=> ?_
  refine T ?_
  refine lA fun c7 w5 hI=> ?_
  refine nk (aA ?_)
  obtain rfl:=aj h
  refine QG ?_
  exact⟨a1,c1,rfl,hI.ext0,hI.fin ⟨.z,trivial⟩⟩
 refine T ?_
 refine lA fun c8 w6 hI=> ?_
 refine nk (aA ?_)
 obtain rfl:=aj h
 refine QG ?_
 exact⟨a1,c1,rfl,hI.ext0,hI.fin ⟨.z,trivial⟩⟩
theorem lc (hF:dG F w0) {p1:ac} (hc:AllCl [Cl.sl ag a1 c1 p1.L] F w0) {r:ac} (h:cz p1=some r):Cg 41 #[(Value.agg (ab p1 a1 c1))] w0 fun e w=>∃ a2 c2,e= .returned (Value.agg (ab r a2 c2))∧Ext w0 w∧AllCl [Cl.sl ag a2 c2 r.L] F w:=by
 refine EN Tryz.func41 Tryz.ntmps41 hF hc fun hI=> ?_
 rw[cz]at h
 refine sr (lX fun b1 c4 w1 hI=> ?_)
 refine lN fun b2 c5 w2 hI=> ?_
 refine nk (al (T ?_))
 refine TC (fun hb h=> ?_) fun hb h=> ?_
 ·refine sr (sq (am (l:=(ah p1 a1 c1)) rfl et j5 rfl aG (hI.kblk (l:=(ah p1 a1 c1)) .z rfl).1) ?_)
  refine T ?_
  obtain⟨r1,hx1,h⟩:=ae h
  refine aB gn rfl (Rc Tryz.func81) (Calls.mono (jS hI.lt FS hx1) ?_)
  rintro _ w3 ⟨a3,c6,rfl,hx2,hl1⟩
  refine⟨_,rfl,?_⟩
  replace hI:=(hI.ext hx2).adds hl1;dsimp only[ca,na]at hI
  refine lA fun c7 w4 hI=> ?_
  refine nk (aA ?_)
  obtain rfl:=aj h
  refine QG ?_
  exact⟨a3,c6,rfl,hI.ext0,hI.fin ⟨.z,trivial⟩⟩
 refine T ?_
 refine sq (am (l:=(ah p1 a1 c1)) rfl et j5 rfl aG (hI.kblk (l:=(ah p1 a1 c1)) .z rfl).1) ?_
 refine T ?_
 obtain⟨r2,hx3,h⟩:=ae h
 refine aB gn rfl (Rc Tryz.func81) (Calls.mono (jS hI.lt FS hx3) ?_)
 rintro _ w5 ⟨a4,c8,rfl,hx4,hl2⟩
 refine⟨_,rfl,?_⟩
 replace hI:=(hI.ext hx4).adds hl2;dsimp only[ca,na]at hI
 refine lA fun c9 w6 hI=> ?_
 refine nk (aA ?_)
 obtain rfl:=aj h
 refine QG ?_
 exact⟨a4,c8,rfl,hI.ext0,hI.fin ⟨.z,trivial⟩⟩
theorem oB (hF:dG F w0) {p1:ac} (hc:AllCl [Cl.sl ag a1 c1 p1.L] F w0) {r:List UInt8×ac} (h:ey p1=some r):Cg 134 #[(Value.agg (ab p1 a1 c1))] w0 fun e w=>∃ a2 c2,e= .returned (Value.tuple #[(aE r.1),(Value.agg (ab r.2 a2 c2))])∧Ext w0 w∧AllCl [Cl.sl ag a2 c2 r.2.L] F w:=by
 refine EN Tryz.func134 Tryz.ntmps134 hF hc fun hI=> ?_
 rw[ey]at h
 refine sr (mS (v:=(Value.agg (ab p1 a1 c1))) (cs:=(ab p1 a1 c1)) hI gn rfl rfl et rfl ?_)
 intro b1 c3 w1 hI
 refine rJ ?_
 refine lN fun b2 c4 w2 hI=> ?_
 refine nk (al (T ?_))
 refine sB h (fun _ k=>pm hI.lt FS k) (Rc Tryz.func133) fun r1 w3 h hI=> ?_
 refine TC (fun hb h=> ?_) fun hb h=> ?_
 ·refine T ?_
  obtain⟨r2,hx3,h⟩:=ae h
  refine aB gn rfl (Rc Tryz.func41) (Calls.mono (lc hI.lt FS hx3) ?_)
  rintro _ w4 ⟨a3,c5,rfl,hx4,hl2⟩
  refine⟨_,rfl,?_⟩
  replace hI:=(hI.ext hx4).adds hl2;dsimp only[ca,na]at hI
  refine rJ ?_
  refine lA fun c6 w5 hI=> ?_
  refine nk (aA ?_)
  obtain rfl:=aj h
  refine QG ?_
  exact⟨a3,c5,rfl,hI.ext0,hI.fin ⟨.z,trivial⟩⟩
 refine T ?_
 refine lS fun c7 w6 hI=> ?_
 refine nk (al (aI [10] false (.c (0,.q) (.c (1,.q) (.c (2,.q) (.c (3,.q) (.c (4,.q) (.c (5,.q) (.c (6,.q) (.c (7,.q) (.c (8,.q) (.c (9,.q) (.c (10,.s) .n))))))))))) hI (by kernel_rfl) (by kernel_rfl) ?_))
 intro w7 hI
 refine V ?_
 obtain⟨e1,hx5,h⟩:=ae h
 obtain⟨ad1,cs1,hA1,hr1,hq1⟩:=hI.clat .z hx5
 obtain rfl:cs1=(kx e1):=hr1
 refine vI ?_
 refine V ?_
 refine ct rfl gn rfl (fun w' hw'=>(am (l:=[vs a1 p1.L.length c1,(vi (ar (p1.At+1))),vi p1.Deep,vi p1.E,vi p1.Pos]) rfl et j5 rfl aG ((CA.blk (hI.blk (.s .z)) rfl).at_ (SX.any rfl hw')))) (by kernel_rfl) ?_
 refine V ?_
 refine bJ (F:=F) (C:=c7) rfl rfl ?_
 refine vA fun c8 w8 hI=> ?_
 refine V ?_
 refine aA ?_
 obtain rfl:=aj h
 refine QG ?_
 exact⟨a1,c1,rfl,hI.ext0,hI.fin ⟨.z,trivial⟩⟩
theorem ut (hF:dG F w0) {name1:List UInt8} (hc:AllCl [] F w0) {r:GLin} (h:eK name1=some r):Cg 135 #[(aE name1)] w0 fun e w=>∃ a1 c1,e= .returned (Value.agg (bQ r a1 c1))∧Ext w0 w∧AllCl [Cl.sl ai a1 c1 r.L] F w:=by
 refine EN Tryz.func135 Tryz.ntmps135 hF hc fun hI=> ?_
 rw[eK]at h
 refine sr (cF (cs:=#[vi 0,vs none 0 0]) hI gn rfl rfl lg rfl ?_)
 intro b1 c2 w1 hI
 refine nk (al (T ?_))
 refine sB h (fun _ k=>om hI.lt trivial k) (Rc Tryz.func61) fun r1 w2 h hI=> ?_
 refine TC (fun hb h=> ?_) fun hb h=> ?_
 ·refine sr (sq (ax (vs:=[]) (cs:=#[vi 0,vs none 0 0]) rfl trivial (by kernel_rfl)) ?_)
  refine lA fun c3 w3 hI=> ?_
  refine nk (aA ?_)
  have hI:=hI.add (c:=Cl.sl ai none 0 ([]:List GMono)) SlC.nil
  obtain rfl:=aj h
  refine QG ?_
  exact⟨none,0,rfl,hI.ext0,hI.fin ⟨.z,trivial⟩⟩
 refine T ?_
 refine sq (ax (vs:=[(0,(aE name1)),(1,vi 1)]) (cs:=#[(aE name1),vi 1]) rfl ⟨rfl,et,⟨rfl,ao,trivial⟩⟩ (by kernel_rfl)) ?_
 refine ll hI ai ([(⟨name1,1⟩:GMono)]:List GMono) nu Rr fun b2 c4 w4 hI=> ?_
 refine sq (ax (vs:=[(1,(vs (some ⟨b2,0,none⟩) ([(⟨name1,1⟩:GMono)]:List GMono).length 1))]) (cs:=#[vi 0,(vs (some ⟨b2,0,none⟩) ([(⟨name1,1⟩:GMono)]:List GMono).length 1)]) rfl ⟨rfl,et,trivial⟩ (by kernel_rfl)) ?_
 refine lA fun c5 w5 hI=> ?_
 refine nk (aA ?_)
 obtain⟨c6,hI⟩:=hI.release .z
 obtain rfl:=aj h
 refine QG ?_
 exact⟨some ⟨b2,0,none⟩,1,rfl,hI.ext0,hI.fin ⟨.z,trivial⟩⟩
theorem wA (hF:dG F w0) {s1:List UInt8} (hc:AllCl [] F w0) {r:Bool} (h:m6 s1=some r):CR F w0 188 #[(aE s1)] (vb r) []:=by
 refine EN Tryz.func188 Tryz.ntmps188 hF hc fun hI=> ?_
 rw[m6]at h
 refine T ?_
 refine bw (α:=Unit) (fun _=>⟨32,[]⟩) (fun _=>[(0,(aE s1))]) (fun _=>fun w=>∃ C,Bun du F w0 C w [] []∧jM s1=some r) ?_ ?_
 ·clear h hI;rintro _ w1 ⟨c1,hI,h⟩
  try dsimp only at hI h ⊢
  rw[jM]at h
  refine T ?_
  obtain⟨b1,hx1,h⟩:=ae h
  replace hx1:=ay hx1
  refine sJ ?_
  exact RF
 refine T ?_
 refine bh (α:=Nat×Int) (fun x=>fun w=>∃ C,Bun du F w0 C w [] []∧fz s1 (x.1) (x.2)=some r) (fun x _=>x.1) (fun x=>[(0,(aE s1)),(3,vi (x.2))]) (fu,0) BH SB ?_
 clear h hI;rintro⟨fuel1,i1⟩ w2 ⟨c2,hI,h⟩
 dsimp only at hI h ⊢
 rcases fuel1 with _ | fuel1
 ·rw[fz]at h;cases h
 rw[fz]at h
 refine al (T ?_)
 refine TC (fun hb h=> ?_) fun hb h=> ?_
 ·refine T ?_
  refine al (T ?_)
  obtain⟨b2,hx2,h⟩:=ae h
  refine sI ?_
  refine T ?_
  obtain⟨b3,hx3,h⟩:=ae h
  replace hx3:=ay hx3
  refine sJ ?_
  refine TR fun hb h=> ?_
  refine T ?_
  refine aM ?_
  exact kl (fuel1,ar (i1+1))
 refine bk ?_
 refine eU ?_
 exact kj ()
theorem nw (hF:dG F w0) {p1:ac} (hc:AllCl [Cl.sl ag a1 c1 p1.L] F w0) {r:List UInt8×ac} (h:dU p1=some r):Cg 136 #[(Value.agg (ab p1 a1 c1))] w0 fun e w=>∃ a2 c2,e= .returned (Value.tuple #[(aE r.1),(Value.agg (ab r.2 a2 c2))])∧Ext w0 w∧AllCl [Cl.sl ag a2 c2 r.2.L] F w:=by
 refine EN Tryz.func136 Tryz.ntmps136 hF hc fun hI=> ?_
 rw[dU]at h
 refine sr (mS (v:=(Value.agg (ab p1 a1 c1))) (cs:=(ab p1 a1 c1)) hI gn rfl rfl et rfl ?_)
 intro b1 c3 w1 hI
 refine rJ ?_
 refine lN fun b2 c4 w2 hI=> ?_
 refine nk (al (T ?_))
 obtain⟨e1,hx1,h⟩:=ae h
 replace hx1:=ay hx1
 obtain⟨ad1,cs1,hq1⟩:=hI.gclat .z hx1
 have hq2:(!((!decide (p1.E=0))||(decide ((p1.L.length:Int)≤p1.At))))=true→CA (Dj F c4) w2 (ad1.add (Int.toNat p1.At * 3)) (kx e1):=fun hc=>uq (hq1 hc).2.1 (hq1 hc).2.2
 refine sJ ?_
 refine T ?_
 obtain⟨e2,hx2,h⟩:=ae h
 replace hx2:=ay hx2
 obtain⟨ad2,cs2,hq3⟩:=hI.gclat .z hx2
 have hq4:(!(((!decide (p1.E=0))||(decide ((p1.L.length:Int)≤p1.At)))||(!decide (e1.Kind=2))))=true→CA (Dj F c4) w2 (ad2.add (Int.toNat p1.At * 3)) (kx e2):=fun hc=>uq (hq3 hc).2.1 (hq3 hc).2.2
 refine sJ ?_
 refine T ?_
 obtain⟨r1,hx3,h⟩:=ae h
 replace hx3:=ay hx3
 refine sU (fun hc=>wA hI.lt trivial (hx3 hc)) (Rg Tryz.func188) fun w3 hI=> ?_
 refine TC (fun hb h=> ?_) fun hb h=> ?_
 ·refine T ?_
  obtain⟨r2,hx5,h⟩:=ae h
  refine aB gn rfl (Rc Tryz.func41) (Calls.mono (lc hI.lt FS hx5) ?_)
  rintro _ w4 ⟨a3,c5,rfl,hx6,hl2⟩
  refine⟨_,rfl,?_⟩
  replace hI:=(hI.ext hx6).adds hl2;dsimp only[ca,na]at hI
  refine rJ ?_
  refine lA fun c6 w5 hI=> ?_
  refine nk (aA ?_)
  obtain rfl:=aj h
  refine QG ?_
  exact⟨a3,c5,rfl,hI.ext0,hI.fin ⟨.z,trivial⟩⟩
 refine T ?_
 refine lS fun c7 w6 hI=> ?_
 refine nk (al (aI [10] false (.c (0,.q) (.c (1,.q) (.c (2,.q) (.c (3,.q) (.c (4,.q) (.c (5,.q) (.c (6,.q) (.c (7,.q) (.c (8,.q) (.c (9,.q) (.c (10,.s) .n))))))))))) hI (by kernel_rfl) (by kernel_rfl) ?_))
 intro w7 hI
 refine V ?_
 obtain⟨e3,hx7,h⟩:=ae h
 obtain⟨ad3,cs3,hA3,hr3,hq5⟩:=hI.clat .z hx7
 obtain rfl:cs3=(kx e3):=hr3
 refine vI ?_
 refine V ?_
 refine ct rfl gn rfl (fun w' hw'=>(am (l:=[vs a1 p1.L.length c1,(vi (ar (p1.At+1))),vi p1.Deep,vi p1.E,vi p1.Pos]) rfl et j5 rfl aG ((CA.blk (hI.blk (.s .z)) rfl).at_ (SX.any rfl hw')))) (by kernel_rfl) ?_
 refine V ?_
 refine bJ (F:=F) (C:=c7) rfl rfl ?_
 refine vA fun c8 w8 hI=> ?_
 refine V ?_
 refine aA ?_
 obtain rfl:=aj h
 refine QG ?_
 exact⟨a1,c1,rfl,hI.ext0,hI.fin ⟨.z,trivial⟩⟩
theorem qj (hF:dG F w0) {a1 b1:Int} (hc:AllCl [] F w0) {r:Int×Bool} (h:iT a1 b1=some r):CR F w0 189 #[vi a1,vi b1] (Value.tuple #[vi r.1,vb r.2]) []:=by
 refine EN Tryz.func189 Tryz.ntmps189 hF hc fun hI=> ?_
 rw[iT]at h
 refine T ?_
 refine al (T ?_)
 refine TR fun hb h=> ?_
 refine T ?_
 refine al (T ?_)
 obtain⟨ho1,h⟩:=eF h
 refine az (cq rfl rfl rfl rfl) rfl (fun hc=>zm rfl (aQ et hc) (aQ et hc) (ho1 hc)) ?_
 refine TR fun hb h=> ?_
 exact RF
theorem rb (hF:dG F w0) {a1 b1:Int} (hc:AllCl [] F w0) {r:Int×Bool} (h:lU a1 b1=some r):CR F w0 190 #[vi a1,vi b1] (Value.tuple #[vi r.1,vb r.2]) []:=by
 refine EN Tryz.func190 Tryz.ntmps190 hF hc fun hI=> ?_
 rw[lU]at h
 refine T ?_
 refine al (T ?_)
 refine TR fun hb h=> ?_
 exact RF
theorem qS (hF:dG F w0) {s1:List UInt8} {negative1:Bool} (hc:AllCl [] F w0) {r:Int×Bool} (h:gw s1 negative1=some r):CR F w0 137 #[(aE s1),vb negative1] (Value.tuple #[vi r.1,vb r.2]) []:=by
 refine EN Tryz.func137 Tryz.ntmps137 hF hc fun hI=> ?_
 rw[gw]at h
 refine T ?_
 refine al (T ?_)
 refine bh (α:=Nat×Int×Int) (fun x=>fun w=>∃ C,Bun du F w0 C w [] []∧cB s1 negative1 (x.1) (x.2.1) (x.2.2)=some r) (fun x _=>x.1) (fun x=>[(0,(aE s1)),(1,vb negative1),(6,vi (x.2.1)),(7,vi (x.2.2))]) (fu,0,0) BH SB ?_
 clear h hI;rintro⟨fuel1,n1,i1⟩ w1 ⟨c1,hI,h⟩
 dsimp only at hI h ⊢
 rcases fuel1 with _ | fuel1
 ·rw[cB]at h;cases h
 rw[cB]at h
 refine al (T ?_)
 refine TC (fun hb h=> ?_) fun hb h=> ?_
 ·refine T ?_
  refine al (T ?_)
  obtain⟨b1,hx1,h⟩:=ae h
  refine sI ?_
  refine T ?_
  refine bw (α:=Int) (fun _=>⟨46,[]⟩) (fun x=>[(0,(aE s1)),(1,vb negative1),(6,vi n1),(7,vi i1),(8,vi x)]) (fun x=>fun w=>∃ C,Bun du F w0 C w [] []∧ir n1 (cB s1 negative1 fuel1) i1 x=some r) ?_ ?_
  ·clear h hI;rintro d1 w2 ⟨c2,hI,h⟩
   try dsimp only at hI h ⊢
   rw[ir]at h
   refine T ?_
   refine sB h (fun _ k=>qj hI.lt trivial k) (Rc Tryz.func189) fun r1 w3 h hI=> ?_
   refine T ?_
   refine sB h (fun _ k=>rb hI.lt trivial k) (Rc Tryz.func190) fun r2 w4 h hI=> ?_
   refine T ?_
   refine al (T ?_)
   refine TR fun hb h=> ?_
   refine T ?_
   refine aM ?_
   exact kl (fuel1,r2.1,ar (i1+1))
  refine TC (fun hb h=> ?_) fun hb h=> ?_
  ·refine kz rfl ?_
   refine sm ?_
   refine sq (Dk rfl et) ?_
   obtain⟨d2,hx6,h⟩:=ae h
   refine sq (tu (cy rfl et) (congrArg (Value.int .i64) (aj hx6))) ?_
   refine aM ?_
   exact kj d2
  exact bf (bi (ar (E0 (b1 - 48))) SB BH rfl)
 refine bk ?_
 refine eU ?_
 refine bb ?_
 exact RF
theorem mL (hF:dG F w0) {l1:GLin} (hc:AllCl [Cl.sl ai a1 c1 l1.L] F w0) {r:Bool} (h:gM l1=some r):CR F w0 114 #[(Value.agg (bQ l1 a1 c1))] (vb r) []:=by
 refine EN Tryz.func114 Tryz.ntmps114 hF hc fun hI=> ?_
 rw[gM]at h
 refine sr (lX fun b1 c3 w1 hI=> ?_)
 refine T ?_
 refine al (T ?_)
 refine bh (α:=Nat×Int) (fun x=>fun w=>∃ C,Bun du F w0 C w [] [Cl.blk b1 27 (bQ l1 a1 c1),Cl.sl ai a1 c1 l1.L]∧dd l1 (x.1) (x.2)=some r) (fun x _=>x.1) (fun x=>[(1,vp b1 0),(3,vi (x.2))]) (fu,0) BH SB ?_
 clear h hI;rintro⟨fuel1,i1⟩ w2 ⟨c4,hI,h⟩
 dsimp only at hI h ⊢
 rcases fuel1 with _ | fuel1
 ·rw[dd]at h;cases h
 rw[dd]at h
 refine al (T ?_)
 refine TC (fun hb h=> ?_) fun hb h=> ?_
 ·refine T ?_
  refine al (T ?_)
  refine al (aI [] false (.c (0,.q) (.c (1,.q) (.c (2,.q) (.c (3,.q) (.c (4,.q) (.c (5,.q) (.c (6,.s) (.c (7,.q) (.c (8,.q) (.c (9,.q) (.c (10,.q) (.c (11,.q) (.c (12,.q) (.c (13,.q) (.c (14,.q) (.c (15,.q) (.c (16,.q) (.c (17,.q) (.c (18,.q) (.c (19,.q) (.c (20,.q) (.c (21,.q) (.c (22,.q) (.c (23,.q) (.c (24,.q) (.c (25,.q) (.c (26,.q) (.c (27,.q) (.c (28,.q) (.c (29,.q) (.c (30,.q) (.c (31,.q) (.c (32,.q) (.c (33,.q) (.c (34,.q) (.c (35,.q) (.c (36,.q) .n))))))))))))))))))))))))))))))))))))) hI (by kernel_rfl) (by kernel_rfl) ?_)
  intro w3 hI
  refine V ?_
  obtain⟨e1,hx1,h⟩:=ae h
  obtain⟨ad1,cs1,hA1,hr1,hq1⟩:=hI.clat (.s .z) hx1
  obtain rfl:cs1=(ky e1):=hr1
  refine vI ?_
  refine V ?_
  obtain⟨r1,hx2,h⟩:=ae h
  refine dC rfl gn rfl (aF (vs:=[(aE e1.Name)]) rfl H8 ⟨et,trivial⟩) (Calls.mono (om hI.lt trivial hx2) ?_)
  rintro _ w4 ⟨rfl,hx3,hl1⟩
  refine⟨_,rfl,hx3,?_⟩
  replace hI:=(hI.ext hx3)
  refine V ?_
  obtain⟨e2,hx4,h⟩:=ae h
  replace hx4:=ay hx4
  obtain⟨ad2,cs2,hq2⟩:=hI.gclat (.s .z) hx4
  have hq3:(!(!r1))=true→CA (Dj F c4) w4 (ad2.add (Int.toNat i1 * 2)) (ky e2):=fun hc=>uq (hq2 hc).2.1 (hq2 hc).2.2
  refine vJ ?_
  refine V ?_
  obtain⟨e3,hx5,h⟩:=ae h
  replace hx5:=ay hx5
  obtain⟨ad3,cs3,hq4⟩:=hI.gclat (.s .z) hx5
  have hq5:((!((!r1)||(decide (e2.By=0))))&&(decide (0<i1)))=true→CA (Dj F c4) w4 (ad3.add (Int.toNat (ar (i1 - 1)) * 2)) (ky e3):=fun hc=>uq (hq4 hc).2.1 (hq4 hc).2.2
  refine vJ ?_
  refine V ?_
  obtain⟨e4,hx6,h⟩:=ae h
  replace hx6:=ay hx6
  obtain⟨ad4,cs4,hq6⟩:=hI.gclat (.s .z) hx6
  have hq7:((!((!r1)||(decide (e2.By=0))))&&(decide (0<i1)))=true→CA (Dj F c4) w4 (ad4.add (Int.toNat i1 * 2)) (ky e4):=fun hc=>uq (hq6 hc).2.1 (hq6 hc).2.2
  refine vJ ?_
  refine V ?_
  refine TR fun hb h=> ?_
  refine T ?_
  refine aM ?_
  exact kl (fuel1,ar (i1+1))
 refine bk ?_
 refine eU ?_
 refine bb ?_
 exact RF
theorem nS (hF:dG F w0) {l1:GLin} (hc:AllCl [Cl.sl ai a1 c1 l1.L] F w0) {r:Int} (h:gU l1=some r):CR F w0 170 #[(Value.agg (bQ l1 a1 c1))] (vi r) []:=by
 refine EN Tryz.func170 Tryz.ntmps170 hF hc fun hI=> ?_
 rw[gU]at h
 refine sr (lX fun b1 c3 w1 hI=> ?_)
 refine T ?_
 refine al (sr (sq (am (l:=(gc l1 a1 c1)) rfl et oy rfl bt (hI.kblk (l:=(gc l1 a1 c1)) .z rfl).1) ?_))
 refine sB h (fun _ k=>mL hI.lt FS k) (Rc Tryz.func114) fun r1 w2 h hI=> ?_
 refine TR fun hb h=> ?_
 exact RF
theorem xw (hF:dG F w0) {a1:GLin} {by1:Int} (hc:AllCl [Cl.sl ai a2 c1 a1.L] F w0) {r:GLin×Int} (h:gq a1 by1=some r):Cg 138 #[(Value.agg (bQ a1 a2 c1)),vi by1] w0 fun e w=>∃ a3 c2,e= .returned (Value.tuple #[(Value.agg (bQ r.1 a3 c2)),vi r.2])∧Ext w0 w∧AllCl [Cl.sl ai a3 c2 r.1.L] F w:=by
 refine EN Tryz.func138 Tryz.ntmps138 hF hc fun hI=> ?_
 rw[gq]at h
 refine sr (lX fun b1 c4 w1 hI=> ?_)
 refine lN fun b2 c5 w2 hI=> ?_
 refine T ?_
 refine al (sr (sq (am (l:=(gc a1 a2 c1)) rfl et oy rfl bt (hI.kblk (l:=(gc a1 a2 c1)) .z rfl).1) ?_))
 refine sB h (fun _ k=>nS hI.lt FS k) (Rc Tryz.func170) fun r1 w3 h hI=> ?_
 refine TC (fun hb h=> ?_) fun hb h=> ?_
 ·refine sr (sq (ax (vs:=[]) (cs:=#[vi 0,vs none 0 0]) rfl trivial (by kernel_rfl)) ?_)
  refine lA fun c6 w4 hI=> ?_
  refine T ?_
  refine aA ?_
  have hI:=hI.add (c:=Cl.sl ai none 0 ([]:List GMono)) SlC.nil
  obtain rfl:=aj h
  refine QG ?_
  exact⟨none,0,rfl,hI.ext0,hI.fin ⟨.z,trivial⟩⟩
 refine T ?_
 refine al (T ?_)
 refine TC (fun hb h=> ?_) fun hb h=> ?_
 ·refine sr (sq (ax (vs:=[]) (cs:=#[vi 0,vs none 0 0]) rfl trivial (by kernel_rfl)) ?_)
  refine lA fun c7 w5 hI=> ?_
  refine T ?_
  refine aA ?_
  have hI:=hI.add (c:=Cl.sl ai none 0 ([]:List GMono)) SlC.nil
  obtain rfl:=aj h
  refine QG ?_
  exact⟨none,0,rfl,hI.ext0,hI.fin ⟨.z,trivial⟩⟩
 refine T ?_
 refine sB h (fun _ k=>qj hI.lt trivial k) (Rc Tryz.func189) fun r2 w6 h hI=> ?_
 refine T ?_
 refine al (T ?_)
 refine TC (fun hb h=> ?_) fun hb h=> ?_
 ·refine sr (sq (ax (vs:=[]) (cs:=#[vi 0,vs none 0 0]) rfl trivial (by kernel_rfl)) ?_)
  refine lA fun c8 w7 hI=> ?_
  refine T ?_
  refine aA ?_
  have hI:=hI.add (c:=Cl.sl ai none 0 ([]:List GMono)) SlC.nil
  obtain rfl:=aj h
  refine QG ?_
  exact⟨none,0,rfl,hI.ext0,hI.fin ⟨.z,trivial⟩⟩
 refine T ?_
 refine sq (ax (vs:=[(0,vi r2.1)]) (cs:=#[vi r2.1,vs none 0 0]) rfl ⟨rfl,et,trivial⟩ (by kernel_rfl)) ?_
 refine lN fun b3 c9 w8 hI=> ?_
 refine lA fun c10 w9 hI=> ?_
 refine nk (al (T ?_))
 have hI:=hI.nil ai 64 none
 refine bh (α:=Nat×Int×GLin×(Option Addr)×Nat) (fun x=>fun w=>∃ C,Bun du F w0 C w [MO.row ai 64 (x.2.2.2.1) (x.2.2.2.2) (x.2.2.1).L,MO.box b2 27 #[vi 0,vs none 0 0],MO.box b3 27 (bQ (x.2.2.1) (x.2.2.2.1) (x.2.2.2.2))] [Cl.blk b1 27 (bQ a1 a2 c1),Cl.sl ai a2 c1 a1.L]∧gV a1 by1 (x.1) (x.2.1) (x.2.2.1)=some r) (fun x _=>x.1) (fun x=>[(1,vi by1),(2,vp b1 0),(4,vp b2 0),(8,vp b3 0),(9,vi (x.2.1))]) (fu,0,(⟨r2.1,([]:List GMono)⟩:GLin),none,0) ⟨_,hI.arr (.c .z (.c (.s .z) (.c .z .n))) ⟨.z,(.s .z),trivial⟩,h⟩ SB ?_
 clear h hI;rintro⟨fuel1,i1,bg,a4,c11⟩ w10 ⟨c12,hI,h⟩
 dsimp only at hI h ⊢
 rcases fuel1 with _ | fuel1
 ·rw[gV]at h;cases h
 rw[gV]at h
 refine al (T ?_)
 refine TC (fun hb h=> ?_) fun hb h=> ?_
 ·refine T ?_
  refine al (T ?_)
  obtain⟨e1,hx5,h⟩:=ae h
  obtain⟨ad1,cs1,hA1,hr1,hq1⟩:=hI.clat (.s .z) hx5
  obtain rfl:cs1=(ky e1):=hr1
  refine sI ?_
  refine T ?_
  refine sB h (fun _ k=>qj hI.lt trivial k) (Rc Tryz.func189) fun r3 w11 h hI=> ?_
  refine T ?_
  refine al (T ?_)
  refine TC (fun hb h=> ?_) fun hb h=> ?_
  ·refine sr (sq (ax (vs:=[]) (cs:=#[vi 0,vs none 0 0]) rfl trivial (by kernel_rfl)) ?_)
   refine lA fun c13 w12 hI=> ?_
   refine T ?_
   refine aA ?_
   have hI:=hI.add (c:=Cl.sl ai none 0 ([]:List GMono)) SlC.nil
   obtain rfl:=aj h
   refine QG ?_
   exact⟨none,0,rfl,hI.ext0,hI.fin ⟨.z,trivial⟩⟩
  refine T ?_
  refine aI [11,13] false (.c (0,.q) (.c (1,.q) (.c (2,.q) (.c (3,.q) (.c (4,.q) (.c (5,.q) (.c (6,.q) (.c (7,.q) (.c (8,.q) (.c (9,.q) (.c (10,.s) (.c (11,.s) (.c (12,.q) (.c (13,.s) .n)))))))))))))) hI (by kernel_rfl) (by kernel_rfl) ?_
  intro w13 hI
  refine V ?_
  obtain⟨e2,hx8,h⟩:=ae h
  obtain⟨ad2,cs2,hA2,hr2,hq2⟩:=hI.clat (.s .z) hx8
  obtain rfl:cs2=(ky e2):=hr2
  refine vI ?_
  refine V ?_
  refine l6 rfl gn rfl (fun w'=>(ax (vs:=[(0,(aE e2.Name)),(1,vi r3.1)]) (cs:=#[(aE e2.Name),vi r3.1]) rfl ⟨rfl,et,⟨rfl,et,trivial⟩⟩ (by kernel_rfl))) ?_
  refine vl hI ai ([(⟨e2.Name,r3.1⟩:GMono)]:List GMono) nu Rr fun b4 c14 w14 hI=> ?_
  refine bJ (F:=F) (C:=c14) rfl rfl ?_
  obtain⟨zs1,hx9,h⟩:=ae h
  refine rp (xs:=bg.L) (ys:=([(⟨e2.Name,r3.1⟩:GMono)]:List GMono)) hI (.s .z) (hI.rd .z) hx9 rfl gn rfl rfl Cn nu rfl rfl et et ?_
  intro a5 c15 c16 w15 hI
  refine V ?_
  refine vS fun c17 w16 hI=> ?_
  refine V ?_
  refine T ?_
  refine aM ?_
  exact jY (fuel1,ar (i1+1),(⟨bg.K,zs1⟩:GLin),a5,c15) SB ⟨_,hI.arr GO SU,h⟩ (Nat.lt_succ_self _)
 refine bk ?_
 refine eU ?_
 refine bb ?_
 refine T ?_
 refine lA fun c18 w17 hI=> ?_
 refine T ?_
 refine aA ?_
 obtain⟨c19,hI⟩:=hI.release .z
 obtain rfl:=aj h
 refine QG ?_
 exact⟨a4,c11,rfl,hI.ext0,hI.fin ⟨.z,trivial⟩⟩
theorem tT {l1:List (List UInt8)} {s1:List UInt8} (hI:Bun C0 F w0 C0 w0 [MO.row dF 9 a1 c1 l1] []) {r:List (List UInt8)} (h:ka l1 s1=some r):Cg 226 #[vs a1 l1.length c1,(aE s1)] w0 fun e w=>∃ a2 c2 C,e= .returned (vs a2 r.length c2)∧Bun C0 F w0 C w [MO.row dF 9 a2 c2 r] []:=by
 refine oN Tryz.func226 rfl Tryz.ntmps226 rfl ?_
 rw[ka]at h
 refine sr (rJ ?_)
 refine nk (al (sr (sm ?_)))
 refine sm ?_
 refine sB h (fun _ k=>wU NE ⟨hI.lend .z,trivial⟩ k) (Rc Tryz.func115) fun r1 w1 h hI=> ?_
 refine TC (fun hb h=> ?_) fun hb h=> ?_
 ·refine sr (sm ?_)
  refine sa ?_
  refine nk (aA ?_)
  obtain rfl:=aj h
  exact eV (vs:=[vs a1 l1.length c1]) Tryz.results226 ⟨aK rfl rfl,trivial⟩ ⟨a1,c1,_,rfl,hI.arr GO SU⟩
 refine bf (bb (sr (sm ?_)))
 refine sm ?_
 refine ll hI dF ([s1]:List (List UInt8)) lZ Rr fun b1 c3 w2 hI=> ?_
 obtain⟨zs1,hx3,h⟩:=ae h
 refine lY (xs:=l1) (ys:=([s1]:List (List UInt8))) hI (.s .z) (hI.rd .z) hx3 gn rfl rfl FV lZ rfl rfl et et ?_
 intro a3 c4 c5 w3 hI
 refine sa ?_
 refine nk (al (sr (sm ?_)))
 refine sq (nK rfl FV et) ?_
 refine sq (uc rfl et ao) ?_
 obtain⟨i1,hx4,h⟩:=ae h
 refine sq (tu (cy rfl et) (congrArg (Value.int .i64) (aj hx4))) ?_
 refine nk (oE (bh (α:=Nat×(List (List UInt8))×Int×(Option Addr)×Nat) (fun x=>fun w=>∃ C,Bun C0 F w0 C w [MO.row dF 9 (x.2.2.2.1) (x.2.2.2.2) (x.2.1)] []∧d8 (x.1) (x.2.1) (x.2.2.1)=some r) (fun x _=>x.1) (fun x=>[(0,vs (x.2.2.2.1) (x.2.1).length (x.2.2.2.2)),(5,vi (x.2.2.1))]) (fu,zs1,i1,a3,c4) BH SB ?_))
 clear h hI;rintro⟨fuel1,l2,i2,a4,c6⟩ w4 ⟨c7,hI,h⟩
 dsimp only at hI h ⊢
 rcases fuel1 with _ | fuel1
 ·rw[d8]at h;cases h
 rw[d8]at h
 refine al (al (aI [] false (.c (0,.q) (.c (1,.q) (.c (2,.q) (.c (3,.q) (.c (4,.q) (.c (5,.q) (.c (6,.q) (.c (7,.q) (.c (8,.q) (.c (9,.q) (.c (10,.q) (.c (11,.q) (.c (12,.q) (.c (13,.q) .n)))))))))))))) hI (by kernel_rfl) (by kernel_rfl) ?_))
 intro w5 hI
 refine l6 rfl gn rfl (fun w'=>ft rfl et) ?_
 refine l6 rfl gn rfl (fun w'=>rF rfl et ao) ?_
 refine l6 rfl gn rfl (fun w'=>ft rfl et) ?_
 refine oV rfl (aT rfl rfl rfl rfl) rfl (fun hc=>fun w'=>(ft rfl et)) ?_
 refine oV rfl (aT rfl rfl rfl rfl) rfl (fun hc=>fun w'=>(ft rfl et)) ?_
 refine oV rfl (aT rfl rfl rfl rfl) rfl (fun hc=>fun w'=>(uc rfl (aQ et hc) ao)) ?_
 obtain⟨e1,hx5,h⟩:=ae h
 replace hx5:=ay hx5
 obtain⟨ad1,cs1,hq1⟩:=hI.golat .z hx5
 have hq2:(decide (0<i2))=true→CA du w5 (ad1.add (Int.toNat (ar (i2 - 1)) * 1)) [(aE e1)]:=fun hc=>by have k:=hq1 hc;have e:cs1=_:=k.2.1;rw[← e];exact k.2.2
 refine oV rfl (aT rfl rfl rfl rfl) rfl (fun hc=>fun w'=>(iW rfl FV oF (aQ et hc) (aQ et hc) (oI (hx5 hc)) (hq1 hc).1)) ?_
 refine vn rfl (aT rfl rfl rfl rfl) rfl (fun hc=>fun w' hw'=>(bo (v:=(aE e1)) rfl (aQ et hc) u9 rfl ((hq2 hc).at_ (SX.any rfl hw')))) (by kernel_rfl) ?_
 refine oV rfl (aT rfl rfl rfl rfl) rfl (fun hc=>fun w'=>(ft rfl et)) ?_
 refine oV rfl (aT rfl rfl rfl rfl) rfl (fun hc=>fun w'=>(ft rfl et)) ?_
 obtain⟨e2,hx6,h⟩:=ae h
 replace hx6:=ay hx6
 obtain⟨ad2,cs2,hq3⟩:=hI.golat .z hx6
 have hq4:(decide (0<i2))=true→CA du w5 (ad2.add (Int.toNat i2 * 1)) [(aE e2)]:=fun hc=>by have k:=hq3 hc;have e:cs2=_:=k.2.1;rw[← e];exact k.2.2
 refine oV rfl (aT rfl rfl rfl rfl) rfl (fun hc=>fun w'=>(iW rfl FV oF (aQ et hc) (aQ et hc) (oI (hx6 hc)) (hq3 hc).1)) ?_
 refine vn rfl (aT rfl rfl rfl rfl) rfl (fun hc=>fun w' hw'=>(bo (v:=(aE e2)) rfl (aQ et hc) u9 rfl ((hq4 hc).at_ (SX.any rfl hw')))) (by kernel_rfl) ?_
 refine oV rfl (aT rfl rfl rfl rfl) rfl (fun hc=>fun w'=>(HK rfl (aQ et hc) (aQ et hc))) ?_
 refine l6 rfl gn rfl (fun w'=>rG rfl et et) ?_
 refine oq ?_
 refine bb (vm h et (fun hb h=> ?_) (fun hb h=> ?_))
 ·refine bf (bb (al (oE (sr (sm ?_)))))
  refine sm ?_
  obtain⟨e3,hx7,h⟩:=ae h
  obtain⟨ad3,cs3,hA3,hr3,hq5⟩:=hI.olat .z hx7
  obtain rfl:cs3=[(aE e3)]:=hr3
  refine sq (iW rfl FV oF et et (oI hx7) hA3) ?_
  refine sq (bo (v:=(aE e3)) rfl et u9 rfl hq5.1) ?_
  refine sa ?_
  refine nk (sr (sm ?_))
  refine sm ?_
  refine sm ?_
  refine sm ?_
  refine sq (uc rfl et ao) ?_
  obtain⟨e4,hx8,h⟩:=ae h
  obtain⟨ad4,cs4,hA4,hr4,hq6⟩:=hI.olat .z hx8
  obtain rfl:cs4=[(aE e4)]:=hr4
  refine sq (iW rfl FV oF et et (oI hx8) hA4) ?_
  refine sq (bo (v:=(aE e4)) rfl et u9 rfl hq6.1) ?_
  obtain⟨ho1,h⟩:=eF h
  obtain⟨ad5,hA5⟩:=hI.addr .z ho1
  refine sq (iW rfl FV oF et et ho1 hA5) ?_
  refine we (p:=Int.toNat i2) (new:=[(aE e4)]) (off:=0) (x':=e4) hI .z gn rfl rfl (by have:=ho1;first | omega | (simp only[List.length_set];omega)) hA5 rfl et et rfl oF rfl (by show 0+1≤1;omega) (fun _ cs0 _ hr0=>by rw[zG (by have e:=Cod.len _ hr0;exact e)];exact rfl) ?_
  intro c8 w6 hI
  refine aM ?_
  refine nR (e:=[(0,(vs a4 (l2.set (Int.toNat i2) e4).length c6)),(5,vi i2),(6,(aE e3))]) ⟨(B0 rfl),rfl,rfl,trivial⟩ ?_
  refine kz rfl ?_
  refine sm ?_
  refine sm ?_
  refine sq (uc rfl et ao) ?_
  refine sm ?_
  obtain⟨ho2,h⟩:=eF h
  obtain⟨ad6,hA6⟩:=hI.addr .z ho2
  refine sq (iW rfl FV oF et et ho2 hA6) ?_
  refine we (p:=Int.toNat (ar (i2 - 1))) (new:=[(aE e3)]) (off:=0) (x':=e3) hI .z gn rfl rfl (by have:=ho2;first | omega | (simp only[List.length_set];omega)) hA6 rfl et et rfl oF rfl (by show 0+1≤1;omega) (fun _ cs0 _ hr0=>by rw[zG (by have e:=Cod.len _ hr0;exact e)];exact rfl) ?_
  intro c9 w7 hI
  refine aM ?_
  refine nR (e:=[(0,(vs a4 ((l2.set (Int.toNat i2) e4).set (Int.toNat (ar (i2 - 1))) e3).length c6)),(5,vi i2)]) ⟨(B0 rfl),rfl,trivial⟩ ?_
  refine kz rfl ?_
  refine sm ?_
  refine sq (uc rfl et ao) ?_
  refine sa ?_
  refine aM ?_
  exact kl (fuel1,(l2.set (Int.toNat i2) e4).set (Int.toNat (ar (i2 - 1))) e3,ar (i2 - 1),a4,c6)
 refine bk ?_
 refine eU ?_
 refine bb (sr (sm ?_))
 refine sa ?_
 refine nk (aA ?_)
 obtain rfl:=aj h
 exact eV (vs:=[vs a4 l2.length c6]) Tryz.results226 ⟨aK rfl rfl,trivial⟩ ⟨a4,c6,_,rfl,hI.arr GO SU⟩
theorem xx (hF:dG F w0) {l1:List GLin} (hc:AllCl [Cl.sl fS a1 c1 l1] F w0) {r:List (List UInt8)} (h:mz l1=some r):Cg 191 #[vs a1 l1.length c1] w0 fun e w=>∃ a2 c2,e= .returned (vs a2 r.length c2)∧Ext w0 w∧AllCl [Cl.sl dF a2 c2 r] F w:=by
 refine EN Tryz.func191 Tryz.ntmps191 hF hc fun hI=> ?_
 rw[mz]at h
 refine T ?_
 refine al (T ?_)
 have hI:=hI.nil dF 9 none
 refine bh (α:=Nat×(List (List UInt8))×Int×(Option Addr)×Nat) (fun x=>fun w=>∃ C,Bun du F w0 C w [MO.row dF 9 (x.2.2.2.1) (x.2.2.2.2) (x.2.1)] [Cl.sl fS a1 c1 l1]∧bY l1 (x.1) (x.2.1) (x.2.2.1)=some r) (fun x _=>x.1) (fun x=>[(0,vs a1 l1.length c1),(3,vs (x.2.2.2.1) (x.2.1).length (x.2.2.2.2)),(4,vi (x.2.2.1))]) (fu,([]:List (List UInt8)),0,none,0) BH SB ?_
 clear h hI;rintro⟨fuel1,bg,i1,a3,c3⟩ w1 ⟨c4,hI,h⟩
 dsimp only at hI h ⊢
 rcases fuel1 with _ | fuel1
 ·rw[bY]at h;cases h
 rw[bY]at h
 refine al (T ?_)
 refine TC (fun hb h=> ?_) fun hb h=> ?_
 ·refine T ?_
  refine bw (α:=(List (List UInt8))×(Option Addr)×Nat) (fun _=>⟨34,[]⟩) (fun x=>[(0,vs a1 l1.length c1),(3,vs (x.2.1) (x.1).length (x.2.2)),(4,vi i1)]) (fun x=>fun w=>∃ C,Bun du F w0 C w [MO.row dF 9 (x.2.1) (x.2.2) (x.1)] [Cl.sl fS a1 c1 l1]∧nM (bY l1 fuel1) i1 (x.1)=some r) ?_ ?_
  ·clear h hI;rintro⟨out2,a4,c5⟩ w2 ⟨c6,hI,h⟩
   try dsimp only at hI h ⊢
   rw[nM]at h
   refine T ?_
   refine aM ?_
   exact kl (fuel1,out2,ar (i1+1),a4,c5)
  refine T ?_
  refine bh (α:=Nat×(List (List UInt8))×Int×(Option Addr)×Nat) (fun x=>fun w=>∃ C,Bun du F w0 C w [MO.row dF 9 (x.2.2.2.1) (x.2.2.2.2) (x.2.1)] [Cl.sl fS a1 c1 l1]∧dv l1 i1 (bY l1 fuel1) (x.1) (x.2.1) (x.2.2.1)=some r) (fun x _=>x.1) (fun x=>[(0,vs a1 l1.length c1),(3,vs (x.2.2.2.1) (x.2.1).length (x.2.2.2.2)),(4,vi i1),(5,vi (x.2.2.1))]) (fu,bg,0,a3,c3) BH SB ?_
  clear h hI;rintro⟨fuel2,out3,k1,a5,c7⟩ w3 ⟨c8,hI,h⟩
  dsimp only at hI h ⊢
  rcases fuel2 with _ | fuel2
  ·rw[dv]at h;cases h
  rw[dv]at h
  refine al (T ?_)
  obtain⟨e1,hx1,h⟩:=ae h
  obtain⟨ad1,cs1,hA1,hr1,hq1⟩:=hI.clat .z hx1
  obtain⟨a6,c9,rfl,hf1⟩:=hr1
  have hI:=hI.ads hf1
  refine sI ?_
  refine TC (fun hb h=> ?_) fun hb h=> ?_
  ·refine T ?_
   refine al (T ?_)
   obtain⟨e2,hx2,h⟩:=ae h
   obtain⟨ad2,cs2,hA2,hr2,hq2⟩:=hI.clat (.s .z) hx2
   obtain⟨a7,c10,rfl,hf2⟩:=hr2
   have hI:=hI.ads hf2
   refine sI ?_
   refine T ?_
   obtain⟨e3,hx3,h⟩:=ae h
   obtain⟨ad3,cs3,hA3,hr3,hq3⟩:=hI.clat .z hx3
   obtain rfl:cs3=(ky e3):=hr3
   refine sI ?_
   refine T ?_
   obtain⟨c11,f1,hB,hl1,hk1⟩:=hI.hands (.l .n)
   obtain⟨r1,hx4,h⟩:=ae h
   try dsimp only at h
   refine aB gn rfl (Rc Tryz.func226) (Calls.mono (tT HS hx4) ?_)
   rintro _ w4 ⟨a8,c12,c13,rfl,hB2⟩
   refine HN hk1 hB2 fun c14 hI=> ?_
   refine⟨_,rfl,?_⟩
   refine T ?_
   refine aM ?_
   exact kl (fuel2,r1,ar (k1+1),a8,c12)
  refine bk ?_
  refine eU ?_
  exact kj (out3,a5,c7)
 refine bk ?_
 refine eU ?_
 refine bb ?_
 refine T ?_
 refine aA ?_
 obtain⟨c15,hI⟩:=hI.release .z
 obtain rfl:=aj h
 refine QG ?_
 exact⟨a3,c3,rfl,hI.ext0,hI.fin ⟨.z,trivial⟩⟩
end Go.Proofs.YtmhoikfoogemnaaGreatDoor
