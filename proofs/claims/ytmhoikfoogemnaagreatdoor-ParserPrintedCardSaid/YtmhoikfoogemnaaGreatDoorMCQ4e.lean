import Derived.Test.YtmhoikfoogemnaaGreatDoorMCQ4d
import Derived.Test.YtmhoikfoogemnaaGreatDoorMLfJ
namespace Go.Proofs.YtmhoikfoogemnaaGreatDoor
open Go Go.RowKit Go.Vc
set_option maxRecDepth 100000
set_option maxHeartbeats 4000000
set_option linter.unusedVariables false
set_option linter.unusedSimpArgs false
def cj:Tr:=(.c (4,.s) (.c (5,.q) (.c (6,.s) .n)))
variable {σ:Type} {C0 F:NP} {w0:World} {a1 a2 a3 a4 a5 a6 a7 a8 a9 a10 a11 a12:Option Addr} {b1 b2 b3 b4 b5 b6 b7 b8 b9 b10 b11 b12 c1 c2 c3 c4 c5 c6 c7 c8 c9 c10 c11 c12:Nat}
theorem oV {rec_:(aa→Option (bC (ac×aa)))} (hrec:yb rec_) {r1:aa} {signs1:List (List UInt8)} {ops1:List Int} (hI:Bun C0 F w0 C0 w0 [MO.box b1 67 (ae r1 a1 c1)] [Cl.sl ah a1 c1 r1.l,Cl.sl fp a2 c2 signs1,Cl.sl (hH .i64) a3 c3 ops1,ap]) {r:bC (ac×aa)} (h:gg rec_ r1 signs1 ops1=some r):CP C0 F w0 74 #[vp b1 0,(Value.func (.func 140) #[vp b1 0] #[]),vs a2 signs1.length c2,vs a3 ops1.length c3] r fun rx e w=>∃ a4 c4 a5 c5 a6 c6 a7 c7 C,e= .returned (Value.agg (an rx.1 a4 c4 a5 c5 a6 c6))∧Bun C0 F w0 C w [MO.box b1 67 (ae rx.2 a7 c7)] [Cl.sl ag a4 c4 rx.1.Lin.L,Cl.sl ai a5 c5 rx.1.Idx,Cl.sl al a6 c6 rx.1.Args,Cl.sl ah a7 c7 rx.2.l]:=by
 refine eY (l:=[vp b1 0,(Value.func (.func 140) #[vp b1 0] #[]),vs a2 signs1.length c2,vs a3 ops1.length c3]) Tryz.func74 rfl Tryz.ntmps74 rfl ?_
 rw[gg]at h
 refine sr (cP (cs:=#[vi 0,(str ([]:List UInt8)),vi 0,vi 0,vi 0,vi 0,vi 0,vi 0,vi 0,vi 0,vs none 0 0,vs none 0 0,vs none 0 0]) hI gn rfl rfl dN rfl ?_)
 intro b2 c8 w1 hI
 refine T ?_
 obtain⟨c9,f1,hB,hl1,hk1⟩:=hI.hands (.r (.l .n))
 refine dZ h (fun _ hx1=>fU hrec HS hx1) (ko hk1) (fP (fs:=[vp b1 0]) (vs:=[]) (cap:=[]) rfl et vt trivial) ?_
 rintro⟨r2,s1⟩ hx1 h _ w2 ⟨a8,c10,a9,c11,a10,c12,a11,c13,c14,rfl,hB2⟩
 try dsimp only at h
 refine HN hk1 hB2 fun c15 hI=> ?_
 refine⟨_,rfl,?_⟩
 refine lN fun b3 c16 w3 hI=> ?_
 refine lA fun c17 w4 hI=> ?_
 refine T ?_
 refine bh (α:=Nat×aa×ac×(Option Addr)×Nat×(Option Addr)×Nat×(Option Addr)×Nat×(Option Addr)×Nat) (fun x=>fun w=>∃ C,Bun C0 F w0 C w [MO.box b1 67 (ae (x.2.1) (x.2.2.2.1) (x.2.2.2.2.1)),MO.box b2 39 #[vi 0,(str ([]:List UInt8)),vi 0,vi 0,vi 0,vi 0,vi 0,vi 0,vi 0,vi 0,vs none 0 0,vs none 0 0,vs none 0 0],MO.box b3 39 (an (x.2.2.1) (x.2.2.2.2.2.1) (x.2.2.2.2.2.2.1) (x.2.2.2.2.2.2.2.1) (x.2.2.2.2.2.2.2.2.1) (x.2.2.2.2.2.2.2.2.2.1) (x.2.2.2.2.2.2.2.2.2.2))] [Cl.sl ah (x.2.2.2.1) (x.2.2.2.2.1) (x.2.1).l,Cl.sl ag (x.2.2.2.2.2.1) (x.2.2.2.2.2.2.1) (x.2.2.1).Lin.L,Cl.sl ai (x.2.2.2.2.2.2.2.1) (x.2.2.2.2.2.2.2.2.1) (x.2.2.1).Idx,Cl.sl al (x.2.2.2.2.2.2.2.2.2.1) (x.2.2.2.2.2.2.2.2.2.2) (x.2.2.1).Args,Cl.sl fp a2 c2 signs1,Cl.sl (hH .i64) a3 c3 ops1,ap]∧be signs1 ops1 rec_ (x.1) (x.2.1) (x.2.2.1)=some r) (fun x _=>x.1) (fun x=>[(0,vp b1 0),(1,(Value.func (.func 140) #[vp b1 0] #[])),(2,vs a2 signs1.length c2),(3,vs a3 ops1.length c3),(8,vp b2 0),(9,vp b3 0)]) (fu,s1,r2,a11,c13,a8,c10,a9,c11,a10,c12) ⟨_,hI.arr (.c (.s .z) (.c (.s .z) (.c .z .n))) ⟨(.s (.s (.s .z))),.z,(.s .z),(.s (.s .z)),(.s (.s (.s (.s (.s .z))))),(.s (.s (.s (.s (.s (.s .z)))))),(.s (.s (.s (.s (.s (.s (.s .z))))))),trivial⟩,h⟩ ⟨rfl,rfl,rfl,rfl,rfl,rfl,trivial⟩ ?_
 clear h hI;rintro⟨fuel1,r3,e1,a12,c18,a13,c19,a14,c20,a15,c21⟩ w5 ⟨c22,hI,h⟩
 dsimp only at hI h ⊢
 rcases fuel1 with _ | fuel1
 ·rw[be]at h;cases h
 rw[be]at h
 refine T ?_
 refine bJ (α:=Int×aa×(Option Addr)×Nat) (fun _=>⟨43,[]⟩) (fun x=>[(0,vp b1 0),(1,(Value.func (.func 140) #[vp b1 0] #[])),(2,vs a2 signs1.length c2),(3,vs a3 ops1.length c3),(8,vp b2 0),(9,vp b3 0),(10,vi (x.1))]) (fun x=>fun w=>∃ C,Bun C0 F w0 C w [MO.box b1 67 (ae (x.2.1) (x.2.2.1) (x.2.2.2)),MO.box b2 39 #[vi 0,(str ([]:List UInt8)),vi 0,vi 0,vi 0,vi 0,vi 0,vi 0,vi 0,vi 0,vs none 0 0,vs none 0 0,vs none 0 0],MO.box b3 39 (an e1 a13 c19 a14 c20 a15 c21)] [Cl.sl ah (x.2.2.1) (x.2.2.2) (x.2.1).l,Cl.sl fp a2 c2 signs1,Cl.sl (hH .i64) a3 c3 ops1,Cl.sl ag a13 c19 e1.Lin.L,Cl.sl ai a14 c20 e1.Idx,Cl.sl al a15 c21 e1.Args,ap]∧gW e1 rec_ (be signs1 ops1 rec_ fuel1) (x.1) (x.2.1)=some r) ?_ ?_
 ·clear h hI;rintro⟨op1,r4,a16,c23⟩ w6 ⟨c24,hI,h⟩
  try dsimp only at hI h ⊢
  rw[gW]at h
  refine aj (T ?_)
  refine TC (fun hb h=> ?_) fun hb h=> ?_
  ·refine T ?_
   refine lA fun c25 w7 hI=> ?_
   refine nk (aJ ?_)
   obtain rfl:=ak h
   exact fr (vs:=[(Value.agg (an e1 a13 c19 a14 c20 a15 c21))]) Tryz.results74 ⟨⟨_,aI rfl rfl,gM (l:=(aK e1 a13 c19 a14 c20 a15 c21)) gP rfl aB (CellsAt.of_blk (hI.blk (.s .z)) rfl)⟩,trivial⟩ (.inl ⟨_,rfl,a13,c19,a14,c20,a15,c21,a16,c23,_,rfl,hI.arr (.c .z .n) ⟨(.s (.s (.s .z))),(.s (.s (.s (.s .z)))),(.s (.s (.s (.s (.s .z))))),.z,trivial⟩⟩)
  refine T ?_
  rcases gR h with⟨⟨r5,s2⟩,hx2,h⟩ | ⟨pa_,pn_,hx2,hp_⟩
  rotate_left
  ·subst hp_
   refine aP [3,6] false (.c (0,.q) (.c (2,.q) (.two 1 (.c (3,.s) cj) 3 (.c (1,.s) cj)))) hI (by kernel_rfl) (by kernel_rfl) ?_
   intro w12 hI
   refine V ?_
   refine gC ?_ ?_
   ·skip
    refine dI rfl gn rfl (am (l:=(aK e1 a13 c19 a14 c20 a15 c21)) rfl et gP rfl aB (CellsAt.of_blk (hI.blk (.s (.s .z))) rfl)) SX.self ?_
    refine gt (F:=F) (C:=c24) rfl rfl ?_
    obtain⟨c26,f2,hB,hl2,hk2⟩:=hI.hands (.l (.r (.r .n)))
    refine eD rfl gn rfl (fP (fs:=[vp b1 0]) (vs:=[]) (cap:=[]) rfl et vt trivial) (Calls.mono (fU hrec HS hx2) ?_)
    intro e_ w_ hq_;obtain⟨rfl,C_,hB_⟩:=el hq_;obtain⟨C9_,-,hI_⟩:=hk2 _ _ _ _ hB_;exact .inr ⟨_,rfl,gO (.inr ⟨_,_,rfl,rfl,⟨_,hI_.arr .n trivial⟩⟩)⟩
   refine dx (F:=F) (C:=c24) rfl rfl ?_
   obtain⟨c26,f2,hB,hl2,hk2⟩:=hI.hands (.l (.r (.r .n)))
   refine eD rfl gn rfl (fP (fs:=[vp b1 0]) (vs:=[]) (cap:=[]) rfl et vt trivial) (Calls.mono (fU hrec HS hx2) ?_)
   intro e_ w_ hq_;obtain⟨rfl,C_,hB_⟩:=el hq_;obtain⟨C9_,-,hI_⟩:=hk2 _ _ _ _ hB_;exact .inr ⟨_,rfl,gO (.inr ⟨_,_,rfl,rfl,⟨_,hI_.arr .n trivial⟩⟩)⟩
  try dsimp only at h
  refine aP [3,6] false (.c (0,.q) (.c (2,.q) (.two 1 (.c (3,.s) cj) 3 (.c (1,.s) cj)))) hI (by kernel_rfl) (by kernel_rfl) ?_
  intro w13 hI
  refine fQ (α:=(Option Addr)×Nat×(Option Addr)×Nat×(Option Addr)×Nat×(Option Addr)×Nat×NP) (T:=cj) (fun x=>[(0,vp b1 0),(1,(Value.func (.func 140) #[vp b1 0] #[])),(2,vs a2 signs1.length c2),(3,vs a3 ops1.length c3),(8,vp b2 0),(9,vp b3 0),(10,vi op1),(34,vi op1),(35,(vb (decide (op1=0)))),(37,vi op1),(38,(Value.agg (an e1 a13 c19 a14 c20 a15 c21))),(39,(Value.func (.func 140) #[vp b1 0] #[])),(40,(Value.agg (an r5 (x.1) (x.2.1) (x.2.2.1) (x.2.2.2.1) (x.2.2.2.2.1) (x.2.2.2.2.2.1))))]) (fun x w=>Bun C0 F w0 (x.2.2.2.2.2.2.2.2) w [MO.box b1 67 (ae s2 (x.2.2.2.2.2.2.1) (x.2.2.2.2.2.2.2.1)),MO.box b2 39 #[vi 0,(str ([]:List UInt8)),vi 0,vi 0,vi 0,vi 0,vi 0,vi 0,vi 0,vi 0,vs none 0 0,vs none 0 0,vs none 0 0],MO.box b3 39 (an e1 a13 c19 a14 c20 a15 c21)] [Cl.sl ag (x.1) (x.2.1) r5.Lin.L,Cl.sl ai (x.2.2.1) (x.2.2.2.1) r5.Idx,Cl.sl al (x.2.2.2.2.1) (x.2.2.2.2.2.1) r5.Args,Cl.sl ah (x.2.2.2.2.2.2.1) (x.2.2.2.2.2.2.2.1) s2.l,Cl.sl ah a16 c23 r4.l,Cl.sl fp a2 c2 signs1,Cl.sl (hH .i64) a3 c3 ops1,Cl.sl ag a13 c19 e1.Lin.L,Cl.sl ai a14 c20 e1.Idx,Cl.sl al a15 c21 e1.Args,ap]) (fun x w=>SN [] (DM true F (x.2.2.2.2.2.2.2.2)) w) ?_ ?_
  ·clear hI;rintro⟨a17,c27,a18,c28,a19,c29,a20,c30,c35⟩ w11 hI
   try dsimp only at hI ⊢
   unfold cj
   refine vl hI al ([e1,r5]:List ac) km (.cs (ez ⟨a13,c19,a14,c20,a15,c21,rfl,hI.get (.s (.s (.s (.s (.s (.s (.s .z))))))),hI.get (.s (.s (.s (.s (.s (.s (.s (.s .z)))))))),hI.get (.s (.s (.s (.s (.s (.s (.s (.s (.s .z)))))))))⟩) (.cs (ez ⟨a17,c27,a18,c28,a19,c29,rfl,hI.get .z,hI.get (.s .z),hI.get (.s (.s .z))⟩) .nl)) fun b4 c33 w9 hI=> ?_
   refine iy rfl gn rfl (fun w'=>(aH (vs:=[(0,vi op1),(6,vs (some ⟨b4,0,none⟩) ([e1,r5]:List ac).length 2)]) (cs:=#[vi op1,(str ([]:List UInt8)),vi 0,vi 0,vi 0,vi 0,vi 0,vi 0,vi 0,vi 0,vs none 0 0,vs none 0 0,vs (some ⟨b4,0,none⟩) ([e1,r5]:List ac).length 2]) rfl ⟨rfl,et,⟨rfl,et,trivial⟩⟩ (by kernel_rfl))) ?_
   refine vA fun c34 w10 hI=> ?_
   refine nu ?_
   have hI:=hI.add (c:=Cl.sl ag none 0 ([]:List aw)) SlC.nil
   have hI:=hI.add (c:=Cl.sl ai none 0 ([]:List av)) SlC.nil
   obtain⟨c36,hI⟩:=hI.release .z
   exact kP (fuel1,s2,(⟨op1,([]:List UInt8),(⟨0,0⟩:bj),(⟨0,0,0,0,0⟩:aM),(⟨0,([]:List aw)⟩:ay),([]:List av),([e1,r5]:List ac)⟩:ac),a20,c30,none,0,none,0,some ⟨b4,0,none⟩,2) ⟨rfl,rfl,rfl,rfl,rfl,rfl,trivial⟩ ⟨_,hI.arr (.c .z (.c .z (.c .z .n))) ⟨(.s (.s (.s (.s (.s (.s .z)))))),(.s (.s .z)),(.s .z),.z,(.s (.s (.s (.s (.s (.s (.s (.s .z)))))))),(.s (.s (.s (.s (.s (.s (.s (.s (.s .z))))))))),(.s (.s (.s (.s (.s (.s (.s (.s (.s (.s (.s (.s (.s .z))))))))))))),trivial⟩,h⟩ (Nat.lt_succ_self _)
  intro hk_tr_parser_reader_chain_w2_3_0
  refine V ?_
  refine gC ?_ ?_
  ·skip
   refine dI rfl gn rfl (am (l:=(aK e1 a13 c19 a14 c20 a15 c21)) rfl et gP rfl aB (CellsAt.of_blk (hI.blk (.s (.s .z))) rfl)) SX.self ?_
   refine gt (F:=F) (C:=c24) rfl rfl ?_
   obtain⟨c26,f2,hB,hl2,hk2⟩:=hI.hands (.l (.r (.r .n)))
   refine eC rfl gn rfl (fP (fs:=[vp b1 0]) (vs:=[]) (cap:=[]) rfl et vt trivial) (Calls.mono (fU hrec HS hx2) ?_)
   intro e_ w8 hq_;obtain⟨a17,c27,a18,c28,a19,c29,a20,c30,c31,rfl,hB2⟩:=ej hq_
   obtain⟨c32,hs2,hI⟩:=hk2 _ _ _ _ hB2
   dsimp only[ca,na]at hI
   refine⟨_,rfl,DM true F c32,hs2,?_⟩
   exact cD (hk_tr_parser_reader_chain_w2_3_0 (a17,c27,a18,c28,a19,c29,a20,c30,c32) _ (hI.arr (.c .z (.c .z (.c .z .n))) ⟨.z,(.s .z),(.s (.s .z)),(.s (.s (.s .z))),(.s (.s (.s (.s .z)))),(.s (.s (.s (.s (.s .z))))),(.s (.s (.s (.s (.s (.s .z)))))),(.s (.s (.s (.s (.s (.s (.s .z))))))),(.s (.s (.s (.s (.s (.s (.s (.s .z)))))))),(.s (.s (.s (.s (.s (.s (.s (.s (.s .z))))))))),(.s (.s (.s (.s (.s (.s (.s (.s (.s (.s .z)))))))))),trivial⟩)) ⟨rfl,rfl,rfl,rfl,rfl,rfl,rfl,rfl,rfl,rfl,rfl,rfl,rfl,trivial⟩
  refine dx (F:=F) (C:=c24) rfl rfl ?_
  obtain⟨c26,f2,hB,hl2,hk2⟩:=hI.hands (.l (.r (.r .n)))
  refine eC rfl gn rfl (fP (fs:=[vp b1 0]) (vs:=[]) (cap:=[]) rfl et vt trivial) (Calls.mono (fU hrec HS hx2) ?_)
  intro e_ w8 hq_;obtain⟨a17,c27,a18,c28,a19,c29,a20,c30,c31,rfl,hB2⟩:=ej hq_
  obtain⟨c32,hs2,hI⟩:=hk2 _ _ _ _ hB2
  dsimp only[ca,na]at hI
  refine⟨_,rfl,DM true F c32,hs2,?_⟩
  refine dI rfl gn rfl (am (l:=(aK e1 a13 c19 a14 c20 a15 c21)) rfl et gP rfl aB (CellsAt.of_blk (hI.blk (.s (.s .z))) rfl)) SX.self ?_
  exact cD (hk_tr_parser_reader_chain_w2_3_0 (a17,c27,a18,c28,a19,c29,a20,c30,c32) _ (hI.arr (.c .z (.c .z (.c .z .n))) ⟨.z,(.s .z),(.s (.s .z)),(.s (.s (.s .z))),(.s (.s (.s (.s .z)))),(.s (.s (.s (.s (.s .z))))),(.s (.s (.s (.s (.s (.s .z)))))),(.s (.s (.s (.s (.s (.s (.s .z))))))),(.s (.s (.s (.s (.s (.s (.s (.s .z)))))))),(.s (.s (.s (.s (.s (.s (.s (.s (.s .z))))))))),(.s (.s (.s (.s (.s (.s (.s (.s (.s (.s .z)))))))))),trivial⟩)) ⟨rfl,rfl,rfl,rfl,rfl,rfl,rfl,rfl,rfl,rfl,rfl,rfl,rfl,trivial⟩
 refine T ?_
 refine bh (α:=Nat×Int×Int×aa×(Option Addr)×Nat) (fun x=>fun w=>∃ C,Bun C0 F w0 C w [MO.box b1 67 (ae (x.2.2.2.1) (x.2.2.2.2.1) (x.2.2.2.2.2)),MO.box b2 39 #[vi 0,(str ([]:List UInt8)),vi 0,vi 0,vi 0,vi 0,vi 0,vi 0,vi 0,vi 0,vs none 0 0,vs none 0 0,vs none 0 0],MO.box b3 39 (an e1 a13 c19 a14 c20 a15 c21)] [Cl.sl ah (x.2.2.2.2.1) (x.2.2.2.2.2) (x.2.2.2.1).l,Cl.sl fp a2 c2 signs1,Cl.sl (hH .i64) a3 c3 ops1,Cl.sl ag a13 c19 e1.Lin.L,Cl.sl ai a14 c20 e1.Idx,Cl.sl al a15 c21 e1.Args,ap]∧bA signs1 ops1 e1 rec_ (be signs1 ops1 rec_ fuel1) (x.1) (x.2.1) (x.2.2.1) (x.2.2.2.1)=some r) (fun x _=>x.1) (fun x=>[(0,vp b1 0),(1,(Value.func (.func 140) #[vp b1 0] #[])),(2,vs a2 signs1.length c2),(3,vs a3 ops1.length c3),(8,vp b2 0),(9,vp b3 0),(10,vi (x.2.1)),(15,vs a2 signs1.length c2),(16,vi (signs1.length:Int)),(17,vi (x.2.2.1))]) (fu,0,0,r3,a12,c18) ⟨_,hI.arr (.c .z (.c .z (.c .z .n))) ⟨.z,(.s (.s (.s (.s .z)))),(.s (.s (.s (.s (.s .z))))),(.s .z),(.s (.s .z)),(.s (.s (.s .z))),(.s (.s (.s (.s (.s (.s .z)))))),trivial⟩,h⟩ ⟨rfl,rfl,rfl,rfl,rfl,rfl,rfl,rfl,rfl,rfl,trivial⟩ ?_
 clear h hI;rintro⟨fuel2,op2,i1,r6,a21,c37⟩ w14 ⟨c38,hI,h⟩
 dsimp only at hI h ⊢
 rcases fuel2 with _ | fuel2
 ·rw[bA]at h;cases h
 rw[bA]at h
 refine T ?_
 refine aj (xY h et (fun hb h=> ?_) (fun hb h=> ?_))
 ·refine T ?_
  refine bJ (α:=Int×aa×(Option Addr)×Nat) (fun _=>⟨43,[]⟩) (fun x=>[(0,vp b1 0),(1,(Value.func (.func 140) #[vp b1 0] #[])),(2,vs a2 signs1.length c2),(3,vs a3 ops1.length c3),(8,vp b2 0),(9,vp b3 0),(10,vi (x.1)),(15,vs a2 signs1.length c2),(16,vi (signs1.length:Int)),(17,vi i1)]) (fun x=>fun w=>∃ C,Bun C0 F w0 C w [MO.box b1 67 (ae (x.2.1) (x.2.2.1) (x.2.2.2)),MO.box b2 39 #[vi 0,(str ([]:List UInt8)),vi 0,vi 0,vi 0,vi 0,vi 0,vi 0,vi 0,vi 0,vs none 0 0,vs none 0 0,vs none 0 0],MO.box b3 39 (an e1 a13 c19 a14 c20 a15 c21)] [Cl.sl ah (x.2.2.1) (x.2.2.2) (x.2.1).l,Cl.sl fp a2 c2 signs1,Cl.sl (hH .i64) a3 c3 ops1,Cl.sl ag a13 c19 e1.Lin.L,Cl.sl ai a14 c20 e1.Idx,Cl.sl al a15 c21 e1.Args,ap]∧fo (bA signs1 ops1 e1 rec_ (be signs1 ops1 rec_ fuel1) fuel2) i1 (x.1) (x.2.1)=some r) ?_ ?_
  ·clear h hI;rintro⟨op3,r7,a22,c39⟩ w15 ⟨c40,hI,h⟩
   try dsimp only at hI h ⊢
   rw[fo]at h
   refine T ?_
   refine aG ?_
   exact kP (fuel2,op3,au (i1+1),r7,a22,c39) ⟨rfl,rfl,rfl,rfl,rfl,rfl,rfl,rfl,rfl,rfl,trivial⟩ ⟨_,hI.arr (.c .z (.c .z (.c .z .n))) ⟨.z,(.s .z),(.s (.s .z)),(.s (.s (.s .z))),(.s (.s (.s (.s .z)))),(.s (.s (.s (.s (.s .z))))),(.s (.s (.s (.s (.s (.s .z)))))),trivial⟩,h⟩ (Nat.lt_succ_self _)
  refine T ?_
  obtain⟨e2,hx3,h⟩:=ab h
  obtain⟨ad1,cs1,hA1,hr1,hq1⟩:=hI.clat (.s .z) hx3
  obtain rfl:cs1=[(str e2)]:=hr1
  refine sI ?_
  refine T ?_
  obtain⟨c41,f3,hB,hl3,hk3⟩:=hI.hands (.l (.r (.r .n)))
  obtain⟨⟨r8,s3⟩,hx4,h⟩:=ab h
  try dsimp only at h
  refine px (fun v_ w_=>v_=(vb r8)∧∃ (a23:Option Addr),∃ (c42:Nat),∃ C_:NP,Bun c41 f3 w14 C_ w_ [MO.box b1 67 (ae s3 a23 c42)] [Cl.sl ah a23 c42 s3.l]) (aV rfl rfl rfl rfl) rfl (fun hc=>(ax (vs:=[vp b1 0,(str e2)]) rfl Ak ⟨(aF et hc),⟨(aF et hc),trivial⟩⟩)) (fun hc=>(aD HS (Aw hc hx4)).mono fun e_ w_ hq_=>(let ⟨a23,c42,C_,he_,hB_⟩:=hq_;⟨_,he_,rfl,a23,c42,C_,hB_⟩)) ?_
  intro v_ w16 h1_ h2_
  obtain⟨hv_,a23,c42,c43,hB2⟩:gv (decide (op2=0)) v_=gv (decide (op2=0)) (vb r8)∧∃ (a23:Option Addr),∃ (c42:Nat),∃ C_:NP,Bun c41 f3 w14 C_ w16 [MO.box b1 67 (ae s3 a23 c42)] [Cl.sl ah a23 c42 s3.l]:=by
   rcases Bool.eq_false_or_eq_true (decide (op2=0))with hc | hc
   ·obtain⟨rfl,hq_⟩:=h1_ hc;exact⟨rfl,hq_⟩
   have e1_:=h2_ hc;subst e1_;obtain⟨rfl,rfl⟩:=Ax hc hx4;exact⟨by rw[oN hc,oN hc],a21,c37,_,hB.subs ⟨.z,trivial⟩⟩
  rw[hv_];clear h1_ h2_
  refine HN hk3 hB2 fun c44 hI=> ?_
  refine TC (fun hb h=> ?_) fun hb h=> ?_
  ·refine T ?_
   obtain⟨e3,hx5,h⟩:=ab h
   obtain⟨ad2,cs2,hA2,hr2,hq2⟩:=hI.clat (.s (.s (.s .z))) hx5
   obtain rfl:cs2=[vi e3]:=hr2
   refine sI ?_
   refine T ?_
   refine aG ?_
   exact br (e3,s3,a23,c42) ⟨rfl,rfl,rfl,rfl,rfl,rfl,rfl,rfl,rfl,rfl,trivial⟩ ⟨_,hI.arr (.c .z (.c .z (.c .z .n))) ⟨.z,(.s (.s .z)),(.s (.s (.s .z))),(.s (.s (.s (.s .z)))),(.s (.s (.s (.s (.s .z))))),(.s (.s (.s (.s (.s (.s .z)))))),(.s (.s (.s (.s (.s (.s (.s .z))))))),trivial⟩,h⟩ rfl
  exact aT (br (op2,s3,a23,c42) ⟨rfl,rfl,rfl,rfl,rfl,rfl,rfl,rfl,rfl,rfl,trivial⟩ ⟨_,hI.arr (.c .z (.c .z (.c .z .n))) ⟨.z,(.s (.s .z)),(.s (.s (.s .z))),(.s (.s (.s (.s .z)))),(.s (.s (.s (.s (.s .z))))),(.s (.s (.s (.s (.s (.s .z)))))),(.s (.s (.s (.s (.s (.s (.s .z))))))),trivial⟩,h⟩ rfl)
 refine bp ?_
 refine fE ?_
 exact br (op2,r6,a21,c37) ⟨rfl,rfl,rfl,rfl,rfl,rfl,rfl,trivial⟩ ⟨_,hI.arr (.c .z (.c .z (.c .z .n))) ⟨.z,(.s .z),(.s (.s .z)),(.s (.s (.s .z))),(.s (.s (.s (.s .z)))),(.s (.s (.s (.s (.s .z))))),(.s (.s (.s (.s (.s (.s .z)))))),trivial⟩,h⟩ rfl
theorem fV {rec_:(aa→Option (bC (ac×aa)))} (hrec:yb rec_) {r1:aa} (hI:Bun C0 F w0 C0 w0 [MO.box b1 67 (ae r1 a1 c1)] [Cl.sl ah a1 c1 r1.l,ap]) {r:bC (ac×aa)} (h:dK rec_ r1=some r):CP C0 F w0 75 #[vp b1 0] r fun rx e w=>∃ a2 c2 a3 c3 a4 c4 a5 c5 C,e= .returned (Value.agg (an rx.1 a2 c2 a3 c3 a4 c4))∧Bun C0 F w0 C w [MO.box b1 67 (ae rx.2 a5 c5)] [Cl.sl ag a2 c2 rx.1.Lin.L,Cl.sl ai a3 c3 rx.1.Idx,Cl.sl al a4 c4 rx.1.Args,Cl.sl ah a5 c5 rx.2.l]:=by
 refine eY (l:=[vp b1 0]) Tryz.func75 rfl Tryz.ntmps75 rfl ?_
 rw[dK]at h
 refine sr (cP (cs:=#[vi 0,(str ([]:List UInt8)),vi 0,vi 0,vi 0,vi 0,vi 0,vi 0,vi 0,vi 0,vs none 0 0,vs none 0 0,vs none 0 0]) hI gn rfl rfl dN rfl ?_)
 intro b2 c6 w1 hI
 refine T ?_
 refine sq (mX (vs:=[vp b1 0]) rfl rfl ⟨et,trivial⟩) ?_
 refine jZ (c:=fp) (xs:=([([38]:List UInt8)]:List (List UInt8))) (vs:=[(0,(str ([38]:List UInt8)))]) (cs:=#[(str ([38]:List UInt8))]) (css:=[[(str ([38]:List UInt8))]]) hI gn rfl rfl Ep nT rfl ⟨rfl,af,trivial⟩ (by kernel_rfl) ⟨rfl,trivial⟩ rfl rfl rfl ?_
 intro b3 c7 w2 hI
 refine jZ (c:=(hH .i64)) (xs:=([16]:List Int)) (vs:=[(0,vi 16)]) (cs:=#[vi 16]) (css:=[[vi 16]]) hI gn rfl rfl Er vK rfl ⟨rfl,af,trivial⟩ (by kernel_rfl) ⟨rfl,trivial⟩ rfl rfl rfl ?_
 intro b4 c8 w3 hI
 obtain⟨c9,hI⟩:=hI.release (.s .z)
 obtain⟨c10,hI⟩:=hI.release .z
 obtain⟨c11,f1,hB,hl1,hk1⟩:=hI.hands (.r (.l .n))
 refine dZ h (fun _ hx1=>oV hrec HS hx1) (ko hk1) (Rc Tryz.func74) ?_
 rintro⟨r2,s1⟩ hx1 h _ w4 ⟨a6,c12,a7,c13,a8,c14,a9,c15,c16,rfl,hB2⟩
 try dsimp only at h
 refine HN hk1 hB2 fun c17 hI=> ?_
 refine⟨_,rfl,?_⟩
 refine lA fun c18 w5 hI=> ?_
 refine nk (aJ ?_)
 obtain rfl:=ak h
 refine QG ?_
 exact .inl ⟨_,rfl,a6,c12,a7,c13,a8,c14,a9,c15,_,rfl,hI.arr GO SU⟩
def cu:Tr:=(.c (4,.s) (.c (5,.q) (.c (6,.s) .n)))
theorem pm {rec_:(aa→Option (bC (ac×aa)))} (hrec:yb rec_) {r1:aa} {signs1:List (List UInt8)} {ops1:List Int} (hI:Bun C0 F w0 C0 w0 [MO.box b1 67 (ae r1 a1 c1)] [Cl.sl ah a1 c1 r1.l,Cl.sl fp a2 c2 signs1,Cl.sl (hH .i64) a3 c3 ops1,ap]) {r:bC (ac×aa)} (h:gy rec_ r1 signs1 ops1=some r):CP C0 F w0 74 #[vp b1 0,(Value.func (.func 75) #[vp b1 0] #[]),vs a2 signs1.length c2,vs a3 ops1.length c3] r fun rx e w=>∃ a4 c4 a5 c5 a6 c6 a7 c7 C,e= .returned (Value.agg (an rx.1 a4 c4 a5 c5 a6 c6))∧Bun C0 F w0 C w [MO.box b1 67 (ae rx.2 a7 c7)] [Cl.sl ag a4 c4 rx.1.Lin.L,Cl.sl ai a5 c5 rx.1.Idx,Cl.sl al a6 c6 rx.1.Args,Cl.sl ah a7 c7 rx.2.l]:=by
 refine eY (l:=[vp b1 0,(Value.func (.func 75) #[vp b1 0] #[]),vs a2 signs1.length c2,vs a3 ops1.length c3]) Tryz.func74 rfl Tryz.ntmps74 rfl ?_
 rw[gy]at h
 refine sr (cP (cs:=#[vi 0,(str ([]:List UInt8)),vi 0,vi 0,vi 0,vi 0,vi 0,vi 0,vi 0,vi 0,vs none 0 0,vs none 0 0,vs none 0 0]) hI gn rfl rfl dN rfl ?_)
 intro b2 c8 w1 hI
 refine T ?_
 obtain⟨c9,f1,hB,hl1,hk1⟩:=hI.hands (.r (.l .n))
 refine dZ h (fun _ hx1=>fV hrec HS hx1) (ko hk1) (fP (fs:=[vp b1 0]) (vs:=[]) (cap:=[]) rfl et Aj trivial) ?_
 rintro⟨r2,s1⟩ hx1 h _ w2 ⟨a8,c10,a9,c11,a10,c12,a11,c13,c14,rfl,hB2⟩
 try dsimp only at h
 refine HN hk1 hB2 fun c15 hI=> ?_
 refine⟨_,rfl,?_⟩
 refine lN fun b3 c16 w3 hI=> ?_
 refine lA fun c17 w4 hI=> ?_
 refine T ?_
 refine bh (α:=Nat×aa×ac×(Option Addr)×Nat×(Option Addr)×Nat×(Option Addr)×Nat×(Option Addr)×Nat) (fun x=>fun w=>∃ C,Bun C0 F w0 C w [MO.box b1 67 (ae (x.2.1) (x.2.2.2.1) (x.2.2.2.2.1)),MO.box b2 39 #[vi 0,(str ([]:List UInt8)),vi 0,vi 0,vi 0,vi 0,vi 0,vi 0,vi 0,vi 0,vs none 0 0,vs none 0 0,vs none 0 0],MO.box b3 39 (an (x.2.2.1) (x.2.2.2.2.2.1) (x.2.2.2.2.2.2.1) (x.2.2.2.2.2.2.2.1) (x.2.2.2.2.2.2.2.2.1) (x.2.2.2.2.2.2.2.2.2.1) (x.2.2.2.2.2.2.2.2.2.2))] [Cl.sl ah (x.2.2.2.1) (x.2.2.2.2.1) (x.2.1).l,Cl.sl ag (x.2.2.2.2.2.1) (x.2.2.2.2.2.2.1) (x.2.2.1).Lin.L,Cl.sl ai (x.2.2.2.2.2.2.2.1) (x.2.2.2.2.2.2.2.2.1) (x.2.2.1).Idx,Cl.sl al (x.2.2.2.2.2.2.2.2.2.1) (x.2.2.2.2.2.2.2.2.2.2) (x.2.2.1).Args,Cl.sl fp a2 c2 signs1,Cl.sl (hH .i64) a3 c3 ops1,ap]∧bg signs1 ops1 rec_ (x.1) (x.2.1) (x.2.2.1)=some r) (fun x _=>x.1) (fun x=>[(0,vp b1 0),(1,(Value.func (.func 75) #[vp b1 0] #[])),(2,vs a2 signs1.length c2),(3,vs a3 ops1.length c3),(8,vp b2 0),(9,vp b3 0)]) (fu,s1,r2,a11,c13,a8,c10,a9,c11,a10,c12) ⟨_,hI.arr (.c (.s .z) (.c (.s .z) (.c .z .n))) ⟨(.s (.s (.s .z))),.z,(.s .z),(.s (.s .z)),(.s (.s (.s (.s (.s .z))))),(.s (.s (.s (.s (.s (.s .z)))))),(.s (.s (.s (.s (.s (.s (.s .z))))))),trivial⟩,h⟩ ⟨rfl,rfl,rfl,rfl,rfl,rfl,trivial⟩ ?_
 clear h hI;rintro⟨fuel1,r3,e1,a12,c18,a13,c19,a14,c20,a15,c21⟩ w5 ⟨c22,hI,h⟩
 dsimp only at hI h ⊢
 rcases fuel1 with _ | fuel1
 ·rw[bg]at h;cases h
 rw[bg]at h
 refine T ?_
 refine bJ (α:=Int×aa×(Option Addr)×Nat) (fun _=>⟨43,[]⟩) (fun x=>[(0,vp b1 0),(1,(Value.func (.func 75) #[vp b1 0] #[])),(2,vs a2 signs1.length c2),(3,vs a3 ops1.length c3),(8,vp b2 0),(9,vp b3 0),(10,vi (x.1))]) (fun x=>fun w=>∃ C,Bun C0 F w0 C w [MO.box b1 67 (ae (x.2.1) (x.2.2.1) (x.2.2.2)),MO.box b2 39 #[vi 0,(str ([]:List UInt8)),vi 0,vi 0,vi 0,vi 0,vi 0,vi 0,vi 0,vi 0,vs none 0 0,vs none 0 0,vs none 0 0],MO.box b3 39 (an e1 a13 c19 a14 c20 a15 c21)] [Cl.sl ah (x.2.2.1) (x.2.2.2) (x.2.1).l,Cl.sl fp a2 c2 signs1,Cl.sl (hH .i64) a3 c3 ops1,Cl.sl ag a13 c19 e1.Lin.L,Cl.sl ai a14 c20 e1.Idx,Cl.sl al a15 c21 e1.Args,ap]∧ip e1 rec_ (bg signs1 ops1 rec_ fuel1) (x.1) (x.2.1)=some r) ?_ ?_
 ·clear h hI;rintro⟨op1,r4,a16,c23⟩ w6 ⟨c24,hI,h⟩
  try dsimp only at hI h ⊢
  rw[ip]at h
  refine aj (T ?_)
  refine TC (fun hb h=> ?_) fun hb h=> ?_
  ·refine T ?_
   refine lA fun c25 w7 hI=> ?_
   refine nk (aJ ?_)
   obtain rfl:=ak h
   exact fr (vs:=[(Value.agg (an e1 a13 c19 a14 c20 a15 c21))]) Tryz.results74 ⟨⟨_,aI rfl rfl,gM (l:=(aK e1 a13 c19 a14 c20 a15 c21)) gP rfl aB (CellsAt.of_blk (hI.blk (.s .z)) rfl)⟩,trivial⟩ (.inl ⟨_,rfl,a13,c19,a14,c20,a15,c21,a16,c23,_,rfl,hI.arr (.c .z .n) ⟨(.s (.s (.s .z))),(.s (.s (.s (.s .z)))),(.s (.s (.s (.s (.s .z))))),.z,trivial⟩⟩)
  refine T ?_
  rcases gR h with⟨⟨r5,s2⟩,hx2,h⟩ | ⟨pa_,pn_,hx2,hp_⟩
  rotate_left
  ·subst hp_
   refine aP [3,6] false (.c (0,.q) (.c (2,.q) (.two 1 (.c (3,.s) cu) 3 (.c (1,.s) cu)))) hI (by kernel_rfl) (by kernel_rfl) ?_
   intro w12 hI
   refine V ?_
   refine gC ?_ ?_
   ·skip
    refine dI rfl gn rfl (am (l:=(aK e1 a13 c19 a14 c20 a15 c21)) rfl et gP rfl aB (CellsAt.of_blk (hI.blk (.s (.s .z))) rfl)) SX.self ?_
    refine gt (F:=F) (C:=c24) rfl rfl ?_
    obtain⟨c26,f2,hB,hl2,hk2⟩:=hI.hands (.l (.r (.r .n)))
    refine eD rfl gn rfl (fP (fs:=[vp b1 0]) (vs:=[]) (cap:=[]) rfl et Aj trivial) (Calls.mono (fV hrec HS hx2) ?_)
    intro e_ w_ hq_;obtain⟨rfl,C_,hB_⟩:=el hq_;obtain⟨C9_,-,hI_⟩:=hk2 _ _ _ _ hB_;exact .inr ⟨_,rfl,gO (.inr ⟨_,_,rfl,rfl,⟨_,hI_.arr .n trivial⟩⟩)⟩
   refine dx (F:=F) (C:=c24) rfl rfl ?_
   obtain⟨c26,f2,hB,hl2,hk2⟩:=hI.hands (.l (.r (.r .n)))
   refine eD rfl gn rfl (fP (fs:=[vp b1 0]) (vs:=[]) (cap:=[]) rfl et Aj trivial) (Calls.mono (fV hrec HS hx2) ?_)
   intro e_ w_ hq_;obtain⟨rfl,C_,hB_⟩:=el hq_;obtain⟨C9_,-,hI_⟩:=hk2 _ _ _ _ hB_;exact .inr ⟨_,rfl,gO (.inr ⟨_,_,rfl,rfl,⟨_,hI_.arr .n trivial⟩⟩)⟩
  try dsimp only at h
  refine aP [3,6] false (.c (0,.q) (.c (2,.q) (.two 1 (.c (3,.s) cu) 3 (.c (1,.s) cu)))) hI (by kernel_rfl) (by kernel_rfl) ?_
  intro w13 hI
  refine fQ (α:=(Option Addr)×Nat×(Option Addr)×Nat×(Option Addr)×Nat×(Option Addr)×Nat×NP) (T:=cu) (fun x=>[(0,vp b1 0),(1,(Value.func (.func 75) #[vp b1 0] #[])),(2,vs a2 signs1.length c2),(3,vs a3 ops1.length c3),(8,vp b2 0),(9,vp b3 0),(10,vi op1),(34,vi op1),(35,(vb (decide (op1=0)))),(37,vi op1),(38,(Value.agg (an e1 a13 c19 a14 c20 a15 c21))),(39,(Value.func (.func 75) #[vp b1 0] #[])),(40,(Value.agg (an r5 (x.1) (x.2.1) (x.2.2.1) (x.2.2.2.1) (x.2.2.2.2.1) (x.2.2.2.2.2.1))))]) (fun x w=>Bun C0 F w0 (x.2.2.2.2.2.2.2.2) w [MO.box b1 67 (ae s2 (x.2.2.2.2.2.2.1) (x.2.2.2.2.2.2.2.1)),MO.box b2 39 #[vi 0,(str ([]:List UInt8)),vi 0,vi 0,vi 0,vi 0,vi 0,vi 0,vi 0,vi 0,vs none 0 0,vs none 0 0,vs none 0 0],MO.box b3 39 (an e1 a13 c19 a14 c20 a15 c21)] [Cl.sl ag (x.1) (x.2.1) r5.Lin.L,Cl.sl ai (x.2.2.1) (x.2.2.2.1) r5.Idx,Cl.sl al (x.2.2.2.2.1) (x.2.2.2.2.2.1) r5.Args,Cl.sl ah (x.2.2.2.2.2.2.1) (x.2.2.2.2.2.2.2.1) s2.l,Cl.sl ah a16 c23 r4.l,Cl.sl fp a2 c2 signs1,Cl.sl (hH .i64) a3 c3 ops1,Cl.sl ag a13 c19 e1.Lin.L,Cl.sl ai a14 c20 e1.Idx,Cl.sl al a15 c21 e1.Args,ap]) (fun x w=>SN [] (DM true F (x.2.2.2.2.2.2.2.2)) w) ?_ ?_
  ·clear hI;rintro⟨a17,c27,a18,c28,a19,c29,a20,c30,c35⟩ w11 hI
   try dsimp only at hI ⊢
   unfold cu
   refine vl hI al ([e1,r5]:List ac) km (.cs (ez ⟨a13,c19,a14,c20,a15,c21,rfl,hI.get (.s (.s (.s (.s (.s (.s (.s .z))))))),hI.get (.s (.s (.s (.s (.s (.s (.s (.s .z)))))))),hI.get (.s (.s (.s (.s (.s (.s (.s (.s (.s .z)))))))))⟩) (.cs (ez ⟨a17,c27,a18,c28,a19,c29,rfl,hI.get .z,hI.get (.s .z),hI.get (.s (.s .z))⟩) .nl)) fun b4 c33 w9 hI=> ?_
   refine iy rfl gn rfl (fun w'=>(aH (vs:=[(0,vi op1),(6,vs (some ⟨b4,0,none⟩) ([e1,r5]:List ac).length 2)]) (cs:=#[vi op1,(str ([]:List UInt8)),vi 0,vi 0,vi 0,vi 0,vi 0,vi 0,vi 0,vi 0,vs none 0 0,vs none 0 0,vs (some ⟨b4,0,none⟩) ([e1,r5]:List ac).length 2]) rfl ⟨rfl,et,⟨rfl,et,trivial⟩⟩ (by kernel_rfl))) ?_
   refine vA fun c34 w10 hI=> ?_
   refine nu ?_
   have hI:=hI.add (c:=Cl.sl ag none 0 ([]:List aw)) SlC.nil
   have hI:=hI.add (c:=Cl.sl ai none 0 ([]:List av)) SlC.nil
   obtain⟨c36,hI⟩:=hI.release .z
   exact kP (fuel1,s2,(⟨op1,([]:List UInt8),(⟨0,0⟩:bj),(⟨0,0,0,0,0⟩:aM),(⟨0,([]:List aw)⟩:ay),([]:List av),([e1,r5]:List ac)⟩:ac),a20,c30,none,0,none,0,some ⟨b4,0,none⟩,2) ⟨rfl,rfl,rfl,rfl,rfl,rfl,trivial⟩ ⟨_,hI.arr (.c .z (.c .z (.c .z .n))) ⟨(.s (.s (.s (.s (.s (.s .z)))))),(.s (.s .z)),(.s .z),.z,(.s (.s (.s (.s (.s (.s (.s (.s .z)))))))),(.s (.s (.s (.s (.s (.s (.s (.s (.s .z))))))))),(.s (.s (.s (.s (.s (.s (.s (.s (.s (.s (.s (.s (.s .z))))))))))))),trivial⟩,h⟩ (Nat.lt_succ_self _)
  intro hk_tr_parser_reader_chain_w_3_0
  refine V ?_
  refine gC ?_ ?_
  ·skip
   refine dI rfl gn rfl (am (l:=(aK e1 a13 c19 a14 c20 a15 c21)) rfl et gP rfl aB (CellsAt.of_blk (hI.blk (.s (.s .z))) rfl)) SX.self ?_
   refine gt (F:=F) (C:=c24) rfl rfl ?_
   obtain⟨c26,f2,hB,hl2,hk2⟩:=hI.hands (.l (.r (.r .n)))
   refine eC rfl gn rfl (fP (fs:=[vp b1 0]) (vs:=[]) (cap:=[]) rfl et Aj trivial) (Calls.mono (fV hrec HS hx2) ?_)
   intro e_ w8 hq_;obtain⟨a17,c27,a18,c28,a19,c29,a20,c30,c31,rfl,hB2⟩:=ej hq_
   obtain⟨c32,hs2,hI⟩:=hk2 _ _ _ _ hB2
   dsimp only[ca,na]at hI
   refine⟨_,rfl,DM true F c32,hs2,?_⟩
   exact cD (hk_tr_parser_reader_chain_w_3_0 (a17,c27,a18,c28,a19,c29,a20,c30,c32) _ (hI.arr (.c .z (.c .z (.c .z .n))) ⟨.z,(.s .z),(.s (.s .z)),(.s (.s (.s .z))),(.s (.s (.s (.s .z)))),(.s (.s (.s (.s (.s .z))))),(.s (.s (.s (.s (.s (.s .z)))))),(.s (.s (.s (.s (.s (.s (.s .z))))))),(.s (.s (.s (.s (.s (.s (.s (.s .z)))))))),(.s (.s (.s (.s (.s (.s (.s (.s (.s .z))))))))),(.s (.s (.s (.s (.s (.s (.s (.s (.s (.s .z)))))))))),trivial⟩)) ⟨rfl,rfl,rfl,rfl,rfl,rfl,rfl,rfl,rfl,rfl,rfl,rfl,rfl,trivial⟩
  refine dx (F:=F) (C:=c24) rfl rfl ?_
  obtain⟨c26,f2,hB,hl2,hk2⟩:=hI.hands (.l (.r (.r .n)))
  refine eC rfl gn rfl (fP (fs:=[vp b1 0]) (vs:=[]) (cap:=[]) rfl et Aj trivial) (Calls.mono (fV hrec HS hx2) ?_)
  intro e_ w8 hq_;obtain⟨a17,c27,a18,c28,a19,c29,a20,c30,c31,rfl,hB2⟩:=ej hq_
  obtain⟨c32,hs2,hI⟩:=hk2 _ _ _ _ hB2
  dsimp only[ca,na]at hI
  refine⟨_,rfl,DM true F c32,hs2,?_⟩
  refine dI rfl gn rfl (am (l:=(aK e1 a13 c19 a14 c20 a15 c21)) rfl et gP rfl aB (CellsAt.of_blk (hI.blk (.s (.s .z))) rfl)) SX.self ?_
  exact cD (hk_tr_parser_reader_chain_w_3_0 (a17,c27,a18,c28,a19,c29,a20,c30,c32) _ (hI.arr (.c .z (.c .z (.c .z .n))) ⟨.z,(.s .z),(.s (.s .z)),(.s (.s (.s .z))),(.s (.s (.s (.s .z)))),(.s (.s (.s (.s (.s .z))))),(.s (.s (.s (.s (.s (.s .z)))))),(.s (.s (.s (.s (.s (.s (.s .z))))))),(.s (.s (.s (.s (.s (.s (.s (.s .z)))))))),(.s (.s (.s (.s (.s (.s (.s (.s (.s .z))))))))),(.s (.s (.s (.s (.s (.s (.s (.s (.s (.s .z)))))))))),trivial⟩)) ⟨rfl,rfl,rfl,rfl,rfl,rfl,rfl,rfl,rfl,rfl,rfl,rfl,rfl,trivial⟩
 refine T ?_
 refine bh (α:=Nat×Int×Int×aa×(Option Addr)×Nat) (fun x=>fun w=>∃ C,Bun C0 F w0 C w [MO.box b1 67 (ae (x.2.2.2.1) (x.2.2.2.2.1) (x.2.2.2.2.2)),MO.box b2 39 #[vi 0,(str ([]:List UInt8)),vi 0,vi 0,vi 0,vi 0,vi 0,vi 0,vi 0,vi 0,vs none 0 0,vs none 0 0,vs none 0 0],MO.box b3 39 (an e1 a13 c19 a14 c20 a15 c21)] [Cl.sl ah (x.2.2.2.2.1) (x.2.2.2.2.2) (x.2.2.2.1).l,Cl.sl fp a2 c2 signs1,Cl.sl (hH .i64) a3 c3 ops1,Cl.sl ag a13 c19 e1.Lin.L,Cl.sl ai a14 c20 e1.Idx,Cl.sl al a15 c21 e1.Args,ap]∧bI signs1 ops1 e1 rec_ (bg signs1 ops1 rec_ fuel1) (x.1) (x.2.1) (x.2.2.1) (x.2.2.2.1)=some r) (fun x _=>x.1) (fun x=>[(0,vp b1 0),(1,(Value.func (.func 75) #[vp b1 0] #[])),(2,vs a2 signs1.length c2),(3,vs a3 ops1.length c3),(8,vp b2 0),(9,vp b3 0),(10,vi (x.2.1)),(15,vs a2 signs1.length c2),(16,vi (signs1.length:Int)),(17,vi (x.2.2.1))]) (fu,0,0,r3,a12,c18) ⟨_,hI.arr (.c .z (.c .z (.c .z .n))) ⟨.z,(.s (.s (.s (.s .z)))),(.s (.s (.s (.s (.s .z))))),(.s .z),(.s (.s .z)),(.s (.s (.s .z))),(.s (.s (.s (.s (.s (.s .z)))))),trivial⟩,h⟩ ⟨rfl,rfl,rfl,rfl,rfl,rfl,rfl,rfl,rfl,rfl,trivial⟩ ?_
 clear h hI;rintro⟨fuel2,op2,i1,r6,a21,c37⟩ w14 ⟨c38,hI,h⟩
 dsimp only at hI h ⊢
 rcases fuel2 with _ | fuel2
 ·rw[bI]at h;cases h
 rw[bI]at h
 refine T ?_
 refine aj (xY h et (fun hb h=> ?_) (fun hb h=> ?_))
 ·refine T ?_
  refine bJ (α:=Int×aa×(Option Addr)×Nat) (fun _=>⟨43,[]⟩) (fun x=>[(0,vp b1 0),(1,(Value.func (.func 75) #[vp b1 0] #[])),(2,vs a2 signs1.length c2),(3,vs a3 ops1.length c3),(8,vp b2 0),(9,vp b3 0),(10,vi (x.1)),(15,vs a2 signs1.length c2),(16,vi (signs1.length:Int)),(17,vi i1)]) (fun x=>fun w=>∃ C,Bun C0 F w0 C w [MO.box b1 67 (ae (x.2.1) (x.2.2.1) (x.2.2.2)),MO.box b2 39 #[vi 0,(str ([]:List UInt8)),vi 0,vi 0,vi 0,vi 0,vi 0,vi 0,vi 0,vi 0,vs none 0 0,vs none 0 0,vs none 0 0],MO.box b3 39 (an e1 a13 c19 a14 c20 a15 c21)] [Cl.sl ah (x.2.2.1) (x.2.2.2) (x.2.1).l,Cl.sl fp a2 c2 signs1,Cl.sl (hH .i64) a3 c3 ops1,Cl.sl ag a13 c19 e1.Lin.L,Cl.sl ai a14 c20 e1.Idx,Cl.sl al a15 c21 e1.Args,ap]∧fz (bI signs1 ops1 e1 rec_ (bg signs1 ops1 rec_ fuel1) fuel2) i1 (x.1) (x.2.1)=some r) ?_ ?_
  ·clear h hI;rintro⟨op3,r7,a22,c39⟩ w15 ⟨c40,hI,h⟩
   try dsimp only at hI h ⊢
   rw[fz]at h
   refine T ?_
   refine aG ?_
   exact kP (fuel2,op3,au (i1+1),r7,a22,c39) ⟨rfl,rfl,rfl,rfl,rfl,rfl,rfl,rfl,rfl,rfl,trivial⟩ ⟨_,hI.arr (.c .z (.c .z (.c .z .n))) ⟨.z,(.s .z),(.s (.s .z)),(.s (.s (.s .z))),(.s (.s (.s (.s .z)))),(.s (.s (.s (.s (.s .z))))),(.s (.s (.s (.s (.s (.s .z)))))),trivial⟩,h⟩ (Nat.lt_succ_self _)
  refine T ?_
  obtain⟨e2,hx3,h⟩:=ab h
  obtain⟨ad1,cs1,hA1,hr1,hq1⟩:=hI.clat (.s .z) hx3
  obtain rfl:cs1=[(str e2)]:=hr1
  refine sI ?_
  refine T ?_
  obtain⟨c41,f3,hB,hl3,hk3⟩:=hI.hands (.l (.r (.r .n)))
  obtain⟨⟨r8,s3⟩,hx4,h⟩:=ab h
  try dsimp only at h
  refine px (fun v_ w_=>v_=(vb r8)∧∃ (a23:Option Addr),∃ (c42:Nat),∃ C_:NP,Bun c41 f3 w14 C_ w_ [MO.box b1 67 (ae s3 a23 c42)] [Cl.sl ah a23 c42 s3.l]) (aV rfl rfl rfl rfl) rfl (fun hc=>(ax (vs:=[vp b1 0,(str e2)]) rfl Ak ⟨(aF et hc),⟨(aF et hc),trivial⟩⟩)) (fun hc=>(aD HS (Aw hc hx4)).mono fun e_ w_ hq_=>(let ⟨a23,c42,C_,he_,hB_⟩:=hq_;⟨_,he_,rfl,a23,c42,C_,hB_⟩)) ?_
  intro v_ w16 h1_ h2_
  obtain⟨hv_,a23,c42,c43,hB2⟩:gv (decide (op2=0)) v_=gv (decide (op2=0)) (vb r8)∧∃ (a23:Option Addr),∃ (c42:Nat),∃ C_:NP,Bun c41 f3 w14 C_ w16 [MO.box b1 67 (ae s3 a23 c42)] [Cl.sl ah a23 c42 s3.l]:=by
   rcases Bool.eq_false_or_eq_true (decide (op2=0))with hc | hc
   ·obtain⟨rfl,hq_⟩:=h1_ hc;exact⟨rfl,hq_⟩
   have e1_:=h2_ hc;subst e1_;obtain⟨rfl,rfl⟩:=Ax hc hx4;exact⟨by rw[oN hc,oN hc],a21,c37,_,hB.subs ⟨.z,trivial⟩⟩
  rw[hv_];clear h1_ h2_
  refine HN hk3 hB2 fun c44 hI=> ?_
  refine TC (fun hb h=> ?_) fun hb h=> ?_
  ·refine T ?_
   obtain⟨e3,hx5,h⟩:=ab h
   obtain⟨ad2,cs2,hA2,hr2,hq2⟩:=hI.clat (.s (.s (.s .z))) hx5
   obtain rfl:cs2=[vi e3]:=hr2
   refine sI ?_
   refine T ?_
   refine aG ?_
   exact br (e3,s3,a23,c42) ⟨rfl,rfl,rfl,rfl,rfl,rfl,rfl,rfl,rfl,rfl,trivial⟩ ⟨_,hI.arr (.c .z (.c .z (.c .z .n))) ⟨.z,(.s (.s .z)),(.s (.s (.s .z))),(.s (.s (.s (.s .z)))),(.s (.s (.s (.s (.s .z))))),(.s (.s (.s (.s (.s (.s .z)))))),(.s (.s (.s (.s (.s (.s (.s .z))))))),trivial⟩,h⟩ rfl
  exact aT (br (op2,s3,a23,c42) ⟨rfl,rfl,rfl,rfl,rfl,rfl,rfl,rfl,rfl,rfl,trivial⟩ ⟨_,hI.arr (.c .z (.c .z (.c .z .n))) ⟨.z,(.s (.s .z)),(.s (.s (.s .z))),(.s (.s (.s (.s .z)))),(.s (.s (.s (.s (.s .z))))),(.s (.s (.s (.s (.s (.s .z)))))),(.s (.s (.s (.s (.s (.s (.s .z))))))),trivial⟩,h⟩ rfl)
 refine bp ?_
 refine fE ?_
 exact br (op2,r6,a21,c37) ⟨rfl,rfl,rfl,rfl,rfl,rfl,rfl,trivial⟩ ⟨_,hI.arr (.c .z (.c .z (.c .z .n))) ⟨.z,(.s .z),(.s (.s .z)),(.s (.s (.s .z))),(.s (.s (.s (.s .z)))),(.s (.s (.s (.s (.s .z))))),(.s (.s (.s (.s (.s (.s .z)))))),trivial⟩,h⟩ rfl
theorem pS {rec_:(aa→Option (bC (ac×aa)))} (hrec:yb rec_) {r1:aa} (hI:Bun C0 F w0 C0 w0 [MO.box b1 67 (ae r1 a1 c1)] [Cl.sl ah a1 c1 r1.l,ap]) {r:bC (ac×aa)} (h:eu rec_ r1=some r):CP C0 F w0 34 #[vp b1 0] r fun rx e w=>∃ a2 c2 a3 c3 a4 c4 a5 c5 C,e= .returned (Value.agg (an rx.1 a2 c2 a3 c3 a4 c4))∧Bun C0 F w0 C w [MO.box b1 67 (ae rx.2 a5 c5)] [Cl.sl ag a2 c2 rx.1.Lin.L,Cl.sl ai a3 c3 rx.1.Idx,Cl.sl al a4 c4 rx.1.Args,Cl.sl ah a5 c5 rx.2.l]:=by
 refine eY (l:=[vp b1 0]) Tryz.func34 rfl Tryz.ntmps34 rfl ?_
 rw[eu]at h
 refine sr (cP (cs:=#[vi 0,(str ([]:List UInt8)),vi 0,vi 0,vi 0,vi 0,vi 0,vi 0,vi 0,vi 0,vs none 0 0,vs none 0 0,vs none 0 0]) hI gn rfl rfl dN rfl ?_)
 intro b2 c6 w1 hI
 refine T ?_
 refine sq (mX (vs:=[vp b1 0]) rfl rfl ⟨et,trivial⟩) ?_
 refine jZ (c:=fp) (xs:=([([124]:List UInt8)]:List (List UInt8))) (vs:=[(0,(str ([124]:List UInt8)))]) (cs:=#[(str ([124]:List UInt8))]) (css:=[[(str ([124]:List UInt8))]]) hI gn rfl rfl Ep nT rfl ⟨rfl,af,trivial⟩ (by kernel_rfl) ⟨rfl,trivial⟩ rfl rfl rfl ?_
 intro b3 c7 w2 hI
 refine jZ (c:=(hH .i64)) (xs:=([17]:List Int)) (vs:=[(0,vi 17)]) (cs:=#[vi 17]) (css:=[[vi 17]]) hI gn rfl rfl Er vK rfl ⟨rfl,af,trivial⟩ (by kernel_rfl) ⟨rfl,trivial⟩ rfl rfl rfl ?_
 intro b4 c8 w3 hI
 obtain⟨c9,hI⟩:=hI.release (.s .z)
 obtain⟨c10,hI⟩:=hI.release .z
 obtain⟨c11,f1,hB,hl1,hk1⟩:=hI.hands (.r (.l .n))
 refine dZ h (fun _ hx1=>pm hrec HS hx1) (ko hk1) (Rc Tryz.func74) ?_
 rintro⟨r2,s1⟩ hx1 h _ w4 ⟨a6,c12,a7,c13,a8,c14,a9,c15,c16,rfl,hB2⟩
 try dsimp only at h
 refine HN hk1 hB2 fun c17 hI=> ?_
 refine⟨_,rfl,?_⟩
 refine lA fun c18 w5 hI=> ?_
 refine nk (aJ ?_)
 obtain rfl:=ak h
 refine QG ?_
 exact .inl ⟨_,rfl,a6,c12,a7,c13,a8,c14,a9,c15,_,rfl,hI.arr GO SU⟩
theorem pR (n:Nat):yb (az n):=by
 induction n with
 | zero=>intro F;intros;rename_i h;cases h
 | succ n ih=>intro F;intros;apply pS ih<;>assumption
theorem qH:yb (iW):=pR fu
theorem m9 {a1:aa} {a3:ac} (hI:Bun C0 F w0 C0 w0 [MO.box b2 67 (ae a1 a2 c1),MO.box b3 39 (an a3 a4 c2 a5 c3 a6 c4)] [Cl.sl ah a2 c1 a1.l,Cl.blk b1 65 #[vp b2 0],Cl.sl ag a4 c2 a3.Lin.L,Cl.sl ai a5 c3 a3.Idx,Cl.sl al a6 c4 a3.Args,ap]) {r:bC (Unit×aa×ac)} (h:iX a1 a3=some r):CP C0 F w0 33 #[vp b1 0,vp b3 0] r fun rx e w=>∃ a7 c5 a8 c6 a9 c7 a10 c8 C,e= .returned (Value.tuple #[])∧Bun C0 F w0 C w [MO.box b2 67 (ae rx.2.1 a7 c5),MO.box b3 39 (an rx.2.2 a8 c6 a9 c7 a10 c8)] [Cl.sl ah a7 c5 rx.2.1.l,Cl.sl ag a8 c6 rx.2.2.Lin.L,Cl.sl ai a9 c7 rx.2.2.Idx,Cl.sl al a10 c8 rx.2.2.Args]:=by
 refine eY (l:=[vp b1 0,vp b3 0]) Tryz.func33 rfl Tryz.ntmps33 rfl ?_
 rw[iX]at h
 refine T ?_
 obtain⟨c9,f1,hB,hl1,hk1⟩:=hI.hands (.l (.r .n))
 refine dZ h (fun _ hx1=>qH HS hx1) (ko hk1) (Rc Tryz.func34) ?_
 rintro⟨r1,s1⟩ hx1 h _ w1 ⟨a11,c10,a12,c11,a13,c12,a14,c13,c14,rfl,hB2⟩
 try dsimp only at h
 refine HN hk1 hB2 fun c15 hI=> ?_
 refine⟨_,rfl,?_⟩
 refine lA fun c16 w2 hI=> ?_
 refine aG ?_
 obtain rfl:=ak h
 refine QG ?_
 exact .inl ⟨_,rfl,a14,c13,a11,c10,a12,c11,a13,c12,_,rfl,hI.arr GO SU⟩
def iQ:Tr:= .n
def iR:Tr:=(.c (4,.s) (.c (6,.q) (.c (7,.q) iQ)))
theorem uz (hF:dL F w0) {l1:List aU} {at1:Int} (hc:AllCl [Cl.sl ah a1 c1 l1,ap] F w0) {r:ac×Int×Int} (h:jW l1 at1=some r):Cg 15 #[vs a1 l1.length c1,vi at1] w0 fun e w=>∃ a2 c2 a3 c3 a4 c4,e= .returned (Value.tuple #[(Value.agg (an r.1 a2 c2 a3 c3 a4 c4)),vi r.2.1,vi r.2.2])∧Ext w0 w∧AllCl [Cl.sl ag a2 c2 r.1.Lin.L,Cl.sl ai a3 c3 r.1.Idx,Cl.sl al a4 c4 r.1.Args] F w:=by
 refine EN Tryz.func15 Tryz.ntmps15 hF hc fun hI=> ?_
 rw[jW]at h
 refine sr (cP (cs:=#[vi 0,(str ([]:List UInt8)),vi 0,vi 0,vi 0,vi 0,vi 0,vi 0,vi 0,vi 0,vs none 0 0,vs none 0 0,vs none 0 0]) hI gn rfl rfl dN rfl ?_)
 intro b1 c5 w1 hI
 refine tS ?_
 refine tS ?_
 refine nk (aj (sr (sm ?_)))
 refine sq (oY rfl et af) ?_
 refine sm ?_
 refine ar (bo rfl rfl rfl rfl) rfl (fun hc=>eF rfl et) ?_
 refine ar (bo rfl rfl rfl rfl) rfl (fun hc=>eF rfl et) ?_
 refine ar (bo rfl rfl rfl rfl) rfl (fun hc=>jc rfl JM (aF et hc)) ?_
 refine ar (bo rfl rfl rfl rfl) rfl (fun hc=>qh rfl (aF et hc) (aF et hc)) ?_
 refine sq (un rfl et et) ?_
 refine TC (fun hb h=> ?_) fun hb h=> ?_
 ·refine sr (sq (aH (vs:=[]) (cs:=#[vi 0,(str ([]:List UInt8)),vi 0,vi 0,vi 0,vi 0,vi 0,vi 0,vi 0,vi 0,vs none 0 0,vs none 0 0,vs none 0 0]) rfl trivial (by kernel_rfl)) ?_)
  refine lA fun c6 w2 hI=> ?_
  refine tS ?_
  refine tS ?_
  refine nk (aJ ?_)
  have hI:=hI.add (c:=Cl.sl ag none 0 ([]:List aw)) SlC.nil
  have hI:=hI.add (c:=Cl.sl ai none 0 ([]:List av)) SlC.nil
  have hI:=hI.add (c:=Cl.sl al none 0 ([]:List ac)) SlC.nil
  obtain rfl:=ak h
  exact fr (vs:=[(Value.agg #[vi 0,(str ([]:List UInt8)),vi 0,vi 0,vi 0,vi 0,vi 0,vi 0,vi 0,vi 0,vs none 0 0,vs none 0 0,vs none 0 0]),vi 0,vi 1]) Tryz.results15 ⟨⟨_,aI rfl rfl,gM (l:=[vi 0,(str ([]:List UInt8)),vi 0,vi 0,vi 0,vi 0,vi 0,vi 0,vi 0,vi 0,vs none 0 0,vs none 0 0,vs none 0 0]) gP rfl aB (CellsAt.of_blk (hI.blk .z) rfl)⟩,⟨aI rfl rfl,⟨aI rfl rfl,trivial⟩⟩⟩ ⟨none,0,none,0,none,0,rfl,hI.ext0,hI.fin ⟨(.s (.s .z)),(.s .z),.z,trivial⟩⟩
 refine aT (aS (sr (sm ?_)))
 refine sm ?_
 refine sq (aH (vs:=[(0,vs a1 l1.length c1),(1,vi at1)]) (cs:=#[vs a1 l1.length c1,vi at1,vi 0]) rfl ⟨rfl,et,⟨rfl,et,trivial⟩⟩ (by kernel_rfl)) ?_
 refine C6 (v:=(Value.agg #[vs a1 l1.length c1,vi at1,vi 0])) (cs:=#[vs a1 l1.length c1,vi at1,vi 0]) hI gn rfl rfl et rfl ?_
 intro b2 c7 w3 hI
 refine lN fun b3 c8 w4 hI=> ?_
 refine lS fun c9 w5 hI=> ?_
 refine nk (sr (sq (aH (vs:=[]) (cs:=#[vi 0,(str ([]:List UInt8)),vi 0,vi 0,vi 0,vi 0,vi 0,vi 0,vi 0,vi 0,vs none 0 0,vs none 0 0,vs none 0 0]) rfl trivial (by kernel_rfl)) ?_))
 refine lN fun b4 c10 w6 hI=> ?_
 refine lA fun c11 w7 hI=> ?_
 refine nk (aj (sr (sq (mF (vs:=[]) (cap:=[vp b3 0,vp b4 0]) rfl rfl ⟨et,⟨et,trivial⟩⟩) ?_)))
 obtain⟨c12,hI⟩:=hI.relBox (.s .z)
 have hI:=hI.add (c:=Cl.sl ag none 0 ([]:List aw)) SlC.nil
 have hI:=hI.add (c:=Cl.sl ai none 0 ([]:List av)) SlC.nil
 have hI:=hI.add (c:=Cl.sl al none 0 ([]:List ac)) SlC.nil
 obtain⟨c13,f1,hB,hl1,hk1⟩:=hI.hands (.l (.l (.r .n)))
 replace hB:=hB.ord (.c (.s .z) (.c .z .n))
 rcases tW h with⟨⟨r1,s1,s2⟩,hx1,h⟩ | ⟨pa1,pn1,hx1,hn1,h⟩
 ·skip
  try dsimp only at h
  refine bq gn rfl (Rc Tryz.func29) (Calls.mono (tb (β:=(Option Addr)×Nat×(Option Addr)×Nat×(Option Addr)×Nat×(Option Addr)×Nat) (fun x=>[MO.box b2 67 (ae s1 (x.1) (x.2.1)),MO.box b4 39 (an s2 (x.2.2.1) (x.2.2.2.1) (x.2.2.2.2.1) (x.2.2.2.2.2.1) (x.2.2.2.2.2.2.1) (x.2.2.2.2.2.2.2))]) (fun x=>[Cl.sl ah (x.1) (x.2.1) s1.l,Cl.sl ag (x.2.2.1) (x.2.2.2.1) s2.Lin.L,Cl.sl ai (x.2.2.2.2.1) (x.2.2.2.2.2.1) s2.Idx,Cl.sl al (x.2.2.2.2.2.2.1) (x.2.2.2.2.2.2.2) s2.Args]) (cl:=[Cl.sl ah a1 c1 l1,Cl.blk b3 65 #[vp b2 0],Cl.sl ag none 0 ([]:List aw),Cl.sl ai none 0 ([]:List av),Cl.sl al none 0 ([]:List ac),ap]) HE (hB.subs ⟨(.s (.s (.s (.s .z)))),(.s (.s (.s .z))),(.s (.s .z)),(.s .z),.z,(.s (.s (.s (.s (.s .z))))),trivial⟩) (fun C1_ F1_ w1_ hB_=>(m9 hB_ hx1).mono fun e_ w_ hq_=>(let ⟨a5,c14,a6,c15,a7,c16,a8,c17,C_,he_,hB2_⟩:=ej hq_;⟨he_,(a5,c14,a6,c15,a7,c16,a8,c17),C_,hB2_⟩))) ?_)
  rintro _ w8 ⟨rfl,⟨a5,c14,a6,c15,a7,c16,a8,c17⟩,c18,hB2⟩
  obtain⟨c19,hs1,hI⟩:=hk1 _ _ _ _ hB2
  replace hI:Bun d7 F w0 c19 w8 [MO.box b2 67 (ae s1 a5 c14),MO.box b4 39 (an s2 a6 c15 a7 c16 a8 c17),MO.box b1 39 #[vi 0,(str ([]:List UInt8)),vi 0,vi 0,vi 0,vi 0,vi 0,vi 0,vi 0,vi 0,vs none 0 0,vs none 0 0,vs none 0 0]] [Cl.sl ah a5 c14 s1.l,Cl.sl ag a6 c15 s2.Lin.L,Cl.sl ai a7 c16 s2.Idx,Cl.sl al a8 c17 s2.Args,Cl.sl al none 0 ([]:List ac),Cl.sl ai none 0 ([]:List av),Cl.sl ag none 0 ([]:List aw),Cl.blk b3 65 #[vp b2 0],Cl.sl ah a1 c1 l1,ap]:=hI
  refine⟨_,rfl,?_⟩
  refine sm ?_
  refine sq (gu rfl et rfl) ?_
  refine sq (gu rfl et rfl) ?_
  refine sa ?_
  refine sa ?_
  refine nk (sr (sm ?_))
  refine sq (nJ rfl et af) ?_
  refine TC (fun hb h=> ?_) fun hb h=> ?_
  ·refine sr (sq (aH (vs:=[]) (cs:=#[vi 0,(str ([]:List UInt8)),vi 0,vi 0,vi 0,vi 0,vi 0,vi 0,vi 0,vi 0,vs none 0 0,vs none 0 0,vs none 0 0]) rfl trivial (by kernel_rfl)) ?_)
   refine sm ?_
   refine sm ?_
   refine lA fun c20 w9 hI=> ?_
   refine sa ?_
   refine sa ?_
   refine aG ?_
   refine mN (e:=[(4,vp b1 0),(5,vi 0),(6,vi 0)]) SB ?_
   refine aJ ?_
   obtain rfl:=ak h
   exact fr (vs:=[(Value.agg #[vi 0,(str ([]:List UInt8)),vi 0,vi 0,vi 0,vi 0,vi 0,vi 0,vi 0,vi 0,vs none 0 0,vs none 0 0,vs none 0 0]),vi 0,vi 0]) Tryz.results15 ⟨⟨_,aI rfl rfl,gM (l:=[vi 0,(str ([]:List UInt8)),vi 0,vi 0,vi 0,vi 0,vi 0,vi 0,vi 0,vi 0,vs none 0 0,vs none 0 0,vs none 0 0]) gP rfl aB (CellsAt.of_blk (hI.blk (.s (.s .z))) rfl)⟩,⟨aI rfl rfl,⟨aI rfl rfl,trivial⟩⟩⟩ ⟨none,0,none,0,none,0,rfl,hI.ext0,hI.fin ⟨(.s (.s (.s (.s (.s (.s .z)))))),(.s (.s (.s (.s (.s .z))))),(.s (.s (.s (.s .z)))),trivial⟩⟩
  refine aT (mN (e:=[(1,vi at1),(4,vp b1 0),(7,vp b3 0),(8,vp b4 0)]) ⟨rfl,rfl,rfl,rfl,trivial⟩ ?_)
  refine aj (sr (sq (am (l:=(aK s2 a6 c15 a7 c16 a8 c17)) rfl et gP rfl aB (CellsAt.of_blk (hI.blk (.s .z)) rfl)) ?_))
  refine sB h (fun _ k=>uE hI.lt FS k) (Rc Tryz.func35) fun r2 w10 h hI=> ?_
  refine sa ?_
  refine nk (sr (sm ?_))
  refine sq (nJ rfl et af) ?_
  refine TC (fun hb h=> ?_) fun hb h=> ?_
  ·refine sr (sq (aH (vs:=[]) (cs:=#[vi 0,(str ([]:List UInt8)),vi 0,vi 0,vi 0,vi 0,vi 0,vi 0,vi 0,vi 0,vs none 0 0,vs none 0 0,vs none 0 0]) rfl trivial (by kernel_rfl)) ?_)
   refine sm ?_
   refine sm ?_
   refine lA fun c21 w11 hI=> ?_
   refine sa ?_
   refine sa ?_
   refine nk (aJ ?_)
   obtain rfl:=ak h
   exact fr (vs:=[(Value.agg #[vi 0,(str ([]:List UInt8)),vi 0,vi 0,vi 0,vi 0,vi 0,vi 0,vi 0,vi 0,vs none 0 0,vs none 0 0,vs none 0 0]),vi at1,vi r2]) Tryz.results15 ⟨⟨_,aI rfl rfl,gM (l:=[vi 0,(str ([]:List UInt8)),vi 0,vi 0,vi 0,vi 0,vi 0,vi 0,vi 0,vi 0,vs none 0 0,vs none 0 0,vs none 0 0]) gP rfl aB (CellsAt.of_blk (hI.blk (.s (.s .z))) rfl)⟩,⟨aI rfl rfl,⟨aI rfl rfl,trivial⟩⟩⟩ ⟨none,0,none,0,none,0,rfl,hI.ext0,hI.fin ⟨(.s (.s (.s (.s (.s (.s .z)))))),(.s (.s (.s (.s (.s .z))))),(.s (.s (.s (.s .z)))),trivial⟩⟩
  refine aT (aS (aj (aP [5] false (.c (0,.q) (.two 1 (.c (2,.q) (.c (3,.q) (.two 4 (.c (5,.s) (.c (6,.q) (.c (7,.q) iQ))) 5 iR))) 5 (.c (1,.s) (.c (2,.q) (.c (3,.q) iR))))) hI (by kernel_rfl) (by kernel_rfl) ?_)))
  intro w15 hI
  refine fQ (α:=NP) (T:=iQ) (fun x=>[(1,vi at1),(4,vp b1 0),(5,vi s1.at_),(6,vi 0),(7,vp b3 0),(8,vp b4 0),(11,vi r2),(36,(Value.agg (an s2 a6 c15 a7 c16 a8 c17))),(37,vi r2),(38,vi r2),(39,(vb (!decide (r2=0)))),(43,(Value.agg (an s2 a6 c15 a7 c16 a8 c17))),(44,vp b2 0),(45,vp b2 0),(46,vp b2 1),(47,vi s1.at_)]) (fun x w=>Bun d7 F w0 x w [MO.box b2 67 (ae s1 a5 c14),MO.box b4 39 (an s2 a6 c15 a7 c16 a8 c17),MO.box b1 39 (an s2 a6 c15 a7 c16 a8 c17)] [Cl.sl ah a5 c14 s1.l,Cl.sl ag a6 c15 s2.Lin.L,Cl.sl ai a7 c16 s2.Idx,Cl.sl al a8 c17 s2.Args,Cl.sl al none 0 ([]:List ac),Cl.sl ai none 0 ([]:List av),Cl.sl ag none 0 ([]:List aw),Cl.blk b3 65 #[vp b2 0],Cl.sl ah a1 c1 l1,ap]) (fun x w=>SN [] (DM true F x) w) ?_ ?_
  ·clear hI;rintro c24 w14 hI
   try dsimp only at hI ⊢
   unfold iQ
   refine nu ?_
   refine aS (aJ ?_)
   obtain rfl:=ak h
   exact fr (vs:=[(Value.agg (an s2 a6 c15 a7 c16 a8 c17)),vi s1.at_,vi 0]) Tryz.results15 ⟨⟨_,aI rfl rfl,gM (l:=(aK s2 a6 c15 a7 c16 a8 c17)) gP rfl aB (CellsAt.of_blk (hI.blk (.s (.s .z))) rfl)⟩,⟨aI rfl rfl,⟨aI rfl rfl,trivial⟩⟩⟩ ⟨a6,c15,a7,c16,a8,c17,rfl,hI.ext0,hI.fin ⟨(.s .z),(.s (.s .z)),(.s (.s (.s .z))),trivial⟩⟩
  intro hk_tr_parser_ExprAt_1_1
  refine fQ (α:=NP) (T:=iR) (fun x=>[(1,vi at1),(4,vp b1 0),(7,vp b3 0),(8,vp b4 0),(11,vi r2),(36,(Value.agg (an s2 a6 c15 a7 c16 a8 c17))),(37,vi r2),(38,vi r2),(39,(vb (!decide (r2=0)))),(43,(Value.agg (an s2 a6 c15 a7 c16 a8 c17))),(44,vp b2 0),(45,vp b2 0),(46,vp b2 1)]) (fun x w=>Bun d7 F w0 x w [MO.box b2 67 (ae s1 a5 c14),MO.box b4 39 (an s2 a6 c15 a7 c16 a8 c17),MO.box b1 39 (an s2 a6 c15 a7 c16 a8 c17)] [Cl.sl ah a5 c14 s1.l,Cl.sl ag a6 c15 s2.Lin.L,Cl.sl ai a7 c16 s2.Idx,Cl.sl al a8 c17 s2.Args,Cl.sl al none 0 ([]:List ac),Cl.sl ai none 0 ([]:List av),Cl.sl ag none 0 ([]:List aw),Cl.blk b3 65 #[vp b2 0],Cl.sl ah a1 c1 l1,ap]) (fun x w=>SN [] (DM true F x) w) ?_ ?_
  ·clear hI;rintro c23 w13 hI
   try dsimp only at hI ⊢
   unfold iR
   refine dI rfl gn rfl (aO (v:=(vi s1.at_)) rfl et u3 rfl (CellsAt.of_blk (hI.blk .z) rfl)) SX.self ?_
   refine iy rfl gn rfl (fun w'=>cb rfl et) ?_
   refine iy rfl gn rfl (fun w'=>cb rfl af) ?_
   exact cD (hk_tr_parser_ExprAt_1_1 c23 _ (hI.arr GO SU)) SB
  intro hk_tr_parser_ExprAt_1_0
  refine d5 rfl gn rfl (fun w' hw'=>(am (l:=(aK s2 a6 c15 a7 c16 a8 c17)) rfl et gP rfl aB ((CA.blk (hI.blk (.s .z)) rfl).at_ (SX.any rfl hw')))) (by kernel_rfl) ?_
  refine gC ?_ ?_
  ·skip
   refine dI rfl gn rfl (aO (v:=(vp b2 0)) rfl et K2 rfl (hI.kblk (l:=[vp b2 0]) (.s (.s (.s (.s (.s (.s (.s .z))))))) rfl).1) SX.self ?_
   refine iy rfl gn rfl (fun w'=>mE rfl et) ?_
   refine iy rfl gn rfl (fun w'=>ao rfl et K1 rfl jk rfl) ?_
   refine gC ?_ ?_
   ·skip
    refine dI rfl gn rfl (aO (v:=(vi s1.at_)) rfl et u3 rfl (CellsAt.of_blk (hI.blk .z) rfl)) SX.self ?_
    refine gt (F:=F) (C:=c19) rfl rfl ?_
    refine vA fun c22 w12 hI=> ?_
    refine iy rfl gn rfl (fun w'=>cb rfl et) ?_
    refine iy rfl gn rfl (fun w'=>cb rfl af) ?_
    exact cD (hk_tr_parser_ExprAt_1_1 c22 _ (hI.arr GO SU)) SB
   refine dx (F:=F) (C:=c19) rfl rfl ?_
   refine vA fun c22 w12 hI=> ?_
   exact cD (hk_tr_parser_ExprAt_1_0 c22 _ (hI.arr GO SU)) SB
  refine dx (F:=F) (C:=c19) rfl rfl ?_
  refine vA fun c22 w12 hI=> ?_
  refine dI rfl gn rfl (aO (v:=(vp b2 0)) rfl et K2 rfl (hI.kblk (l:=[vp b2 0]) (.s (.s (.s (.s (.s (.s (.s .z))))))) rfl).1) SX.self ?_
  refine iy rfl gn rfl (fun w'=>mE rfl et) ?_
  refine iy rfl gn rfl (fun w'=>ao rfl et K1 rfl jk rfl) ?_
  exact cD (hk_tr_parser_ExprAt_1_0 c22 _ (hI.arr GO SU)) SB
 try dsimp only at h
 refine bq gn rfl (Rc Tryz.func29) (Calls.mono (tc (cl:=[Cl.sl ah a1 c1 l1,Cl.blk b3 65 #[vp b2 0],Cl.sl ag none 0 ([]:List aw),Cl.sl ai none 0 ([]:List av),Cl.sl al none 0 ([]:List ac),ap]) HE (hB.subs ⟨(.s (.s (.s (.s .z)))),(.s (.s (.s .z))),(.s (.s .z)),(.s .z),.z,(.s (.s (.s (.s (.s .z))))),trivial⟩) (fun C1_ F1_ w1_ hB_=>(m9 hB_ hx1).mono fun e_ w_ hq_=>el hq_)) ?_)
 rintro _ w16 ⟨rfl,c25,hB2⟩
 obtain⟨c26,hs2,hI⟩:=hk1 _ _ _ _ hB2
 replace hI:Bun d7 F w0 c26 w16 [MO.box b1 39 #[vi 0,(str ([]:List UInt8)),vi 0,vi 0,vi 0,vi 0,vi 0,vi 0,vi 0,vi 0,vs none 0 0,vs none 0 0,vs none 0 0]] [Cl.sl al none 0 ([]:List ac),Cl.sl ai none 0 ([]:List av),Cl.sl ag none 0 ([]:List aw),Cl.blk b3 65 #[vp b2 0],Cl.sl ah a1 c1 l1,ap]:=hI
 refine⟨_,rfl,?_⟩
 have hk2:(!decide (pn1=0))=true:=by simp[hn1]
 refine sm ?_
 refine sq (gu rfl et rfl) ?_
 refine sq (gu rfl et rfl) ?_
 refine sa ?_
 refine sa ?_
 refine nk (sr (sm ?_))
 refine sq (nJ rfl et af) ?_
 refine nk (qL (b:= !decide (pn1=0)) et (fun _=> ?_) (fun hb=>absurd (hb.symm.trans hk2) (by simp)))
 refine sr (sq (aH (vs:=[]) (cs:=#[vi 0,(str ([]:List UInt8)),vi 0,vi 0,vi 0,vi 0,vi 0,vi 0,vi 0,vi 0,vs none 0 0,vs none 0 0,vs none 0 0]) rfl trivial (by kernel_rfl)) ?_)
 refine sm ?_
 refine sm ?_
 refine lA fun c27 w17 hI=> ?_
 refine sa ?_
 refine sa ?_
 refine aG ?_
 refine mN (e:=[(4,vp b1 0),(5,vi pa1),(6,vi pn1)]) SB ?_
 refine aJ ?_
 obtain rfl:=ak h
 exact fr (vs:=[(Value.agg #[vi 0,(str ([]:List UInt8)),vi 0,vi 0,vi 0,vi 0,vi 0,vi 0,vi 0,vi 0,vs none 0 0,vs none 0 0,vs none 0 0]),vi pa1,vi pn1]) Tryz.results15 ⟨⟨_,aI rfl rfl,gM (l:=[vi 0,(str ([]:List UInt8)),vi 0,vi 0,vi 0,vi 0,vi 0,vi 0,vi 0,vi 0,vs none 0 0,vs none 0 0,vs none 0 0]) gP rfl aB (CellsAt.of_blk (hI.blk .z) rfl)⟩,⟨aI rfl rfl,⟨aI rfl rfl,trivial⟩⟩⟩ ⟨none,0,none,0,none,0,rfl,hI.ext0,hI.fin ⟨(.s (.s .z)),(.s .z),.z,trivial⟩⟩
theorem uy (hF:dL F w0) {s1:List UInt8} {l1:List aU} {at1:Int} (hc:AllCl [Cl.sl ah a1 c1 l1] F w0) {r:Int} (h:no s1 l1 at1=some r):CR F w0 40 #[(str s1),vs a1 l1.length c1,vi at1] (vi r) []:=by
 refine EN Tryz.func40 Tryz.ntmps40 hF hc fun hI=> ?_
 rw[no]at h
 refine T ?_
 refine aj (T ?_)
 refine TR fun hb h=> ?_
 refine T ?_
 obtain⟨e1,hx1,h⟩:=ab h
 obtain⟨ad1,cs1,hA1,hr1,hq1⟩:=hI.clat .z hx1
 obtain rfl:cs1=(nQ e1):=hr1
 refine sI ?_
 exact RF
theorem lD (hF:dL F w0) {s1:List UInt8} (hc:AllCl [ap] F w0) {r:ac×Int×Int} (h:gh s1=some r):Cg 18 #[(str s1)] w0 fun e w=>∃ a1 c1 a2 c2 a3 c3,e= .returned (Value.tuple #[(Value.agg (an r.1 a1 c1 a2 c2 a3 c3)),vi r.2.1,vi r.2.2])∧Ext w0 w∧AllCl [Cl.sl ag a1 c1 r.1.Lin.L,Cl.sl ai a2 c2 r.1.Idx,Cl.sl al a3 c3 r.1.Args] F w:=by
 refine EN Tryz.func18 Tryz.ntmps18 hF hc fun hI=> ?_
 rw[gh]at h
 refine sr (cP (cs:=#[vi 0,(str ([]:List UInt8)),vi 0,vi 0,vi 0,vi 0,vi 0,vi 0,vi 0,vi 0,vs none 0 0,vs none 0 0,vs none 0 0]) hI gn rfl rfl dN rfl ?_)
 intro b1 c4 w1 hI
 refine T ?_
 obtain⟨r1,hx1,h⟩:=ab h
 refine bq gn rfl (Rc Tryz.func39) (Calls.mono (tI hI.lt trivial hx1) ?_)
 rintro _ w2 ⟨a4,c5,rfl,hx2,hl1⟩
 refine⟨_,rfl,?_⟩
 replace hI:=(hI.ext hx2).adds hl1;dsimp only[ca,na]at hI
 refine T ?_
 refine aj (T ?_)
 refine TC (fun hb h=> ?_) fun hb h=> ?_
 ·refine sr (sq (aH (vs:=[]) (cs:=#[vi 0,(str ([]:List UInt8)),vi 0,vi 0,vi 0,vi 0,vi 0,vi 0,vi 0,vi 0,vs none 0 0,vs none 0 0,vs none 0 0]) rfl trivial (by kernel_rfl)) ?_)
  refine T ?_
  refine lA fun c6 w3 hI=> ?_
  refine T ?_
  refine aJ ?_
  have hI:=hI.add (c:=Cl.sl ag none 0 ([]:List aw)) SlC.nil
  have hI:=hI.add (c:=Cl.sl ai none 0 ([]:List av)) SlC.nil
  have hI:=hI.add (c:=Cl.sl al none 0 ([]:List ac)) SlC.nil
  obtain rfl:=ak h
  refine QG ?_
  exact⟨none,0,none,0,none,0,rfl,hI.ext0,hI.fin ⟨(.s (.s .z)),(.s .z),.z,trivial⟩⟩
 refine T ?_
 obtain⟨r2,hx3,h⟩:=ab h
 refine bq gn rfl (Rc Tryz.func15) (Calls.mono (uz hI.lt FS hx3) ?_)
 rintro _ w4 ⟨a5,c7,a6,c8,a7,c9,rfl,hx4,hl2⟩
 refine⟨_,rfl,?_⟩
 replace hI:=(hI.ext hx4).adds hl2;dsimp only[ca,na]at hI
 refine T ?_
 refine lN fun b2 c10 w5 hI=> ?_
 refine lA fun c11 w6 hI=> ?_
 refine T ?_
 refine bJ (α:=Int) (fun _=>⟨44,[]⟩) (fun x=>[(0,(str s1)),(2,vp b1 0),(5,vs a4 r1.1.length c5),(7,vi x),(8,vp b2 0),(9,vi r2.2.1)]) (fun x=>fun w=>∃ C,Bun d7 F w0 C w [MO.box b1 39 #[vi 0,(str ([]:List UInt8)),vi 0,vi 0,vi 0,vi 0,vi 0,vi 0,vi 0,vi 0,vs none 0 0,vs none 0 0,vs none 0 0],MO.box b2 39 (an r2.1 a5 c7 a6 c8 a7 c9)] [Cl.sl ah a4 c5 r1.1,Cl.sl ag a5 c7 r2.1.Lin.L,Cl.sl ai a6 c8 r2.1.Idx,Cl.sl al a7 c9 r2.1.Args,ap]∧ju s1 r1 r2 x=some r) ?_ ?_
 ·clear h hI;rintro e1 w7 ⟨c12,hI,h⟩
  try dsimp only at hI h ⊢
  rw[ju]at h
  refine aj (T ?_)
  refine TC (fun hb h=> ?_) fun hb h=> ?_
  ·refine sr (sq (aH (vs:=[]) (cs:=#[vi 0,(str ([]:List UInt8)),vi 0,vi 0,vi 0,vi 0,vi 0,vi 0,vi 0,vi 0,vs none 0 0,vs none 0 0,vs none 0 0]) rfl trivial (by kernel_rfl)) ?_)
   refine T ?_
   refine sB h (fun _ k=>uy hI.lt FS k) (Rc Tryz.func40) fun r3 w8 h hI=> ?_
   refine sm ?_
   refine lA fun c13 w9 hI=> ?_
   refine T ?_
   refine aJ ?_
   have hI:=hI.add (c:=Cl.sl ag none 0 ([]:List aw)) SlC.nil
   have hI:=hI.add (c:=Cl.sl ai none 0 ([]:List av)) SlC.nil
   have hI:=hI.add (c:=Cl.sl al none 0 ([]:List ac)) SlC.nil
   obtain rfl:=ak h
   refine QG ?_
   exact⟨none,0,none,0,none,0,rfl,hI.ext0,hI.fin ⟨(.s (.s .z)),(.s .z),.z,trivial⟩⟩
  refine T ?_
  refine lA fun c14 w10 hI=> ?_
  refine T ?_
  refine aJ ?_
  obtain rfl:=ak h
  refine QG ?_
  exact⟨a5,c7,a6,c8,a7,c9,rfl,hI.ext0,hI.fin ⟨(.s .z),(.s (.s .z)),(.s (.s (.s .z))),trivial⟩⟩
 refine TC (fun hb h=> ?_) fun hb h=> ?_
 ·refine T ?_
  refine aG ?_
  exact kj 5
 exact aT (br r2.2.2 SB BH rfl)
theorem pU (hF:dL F w0) {a1 b1:ay} (hc:AllCl [Cl.sl ag a2 c1 a1.L,Cl.sl ag a3 c2 b1.L] F w0) {r:Bool} (h:kN a1 b1=some r):CR F w0 14 #[(Value.agg (dM a1 a2 c1)),(Value.agg (dM b1 a3 c2))] (vb r) []:=by
 refine EN Tryz.func14 Tryz.ntmps14 hF hc fun hI=> ?_
 rw[kN]at h
 refine sr (lX fun b2 c4 w1 hI=> ?_)
 refine lX fun b3 c6 w2 hI=> ?_
 refine T ?_
 refine aj (T ?_)
 refine TR fun hb h=> ?_
 refine T ?_
 refine aj (T ?_)
 refine bh (α:=Nat×Int) (fun x=>fun w=>∃ C,Bun d7 F w0 C w [] [Cl.blk b2 27 (dM a1 a2 c1),Cl.sl ag a2 c1 a1.L,Cl.blk b3 27 (dM b1 a3 c2),Cl.sl ag a3 c2 b1.L]∧ib a1 b1 (x.1) (x.2)=some r) (fun x _=>x.1) (fun x=>[(2,vp b2 0),(3,vp b3 0),(5,vi (x.2))]) (fu,0) BH SB ?_
 clear h hI;rintro⟨fuel1,i1⟩ w3 ⟨c7,hI,h⟩
 dsimp only at hI h ⊢
 rcases fuel1 with _ | fuel1
 ·rw[ib]at h;cases h
 rw[ib]at h
 refine aj (T ?_)
 refine TC (fun hb h=> ?_) fun hb h=> ?_
 ·refine T ?_
  refine aj (T ?_)
  refine aj (aP [] false (.c (0,.q) (.c (1,.q) (.c (2,.q) (.c (3,.q) (.c (4,.q) (.c (5,.q) (.c (6,.q) (.c (7,.q) (.c (8,.q) (.c (9,.q) (.c (10,.q) .n))))))))))) hI (by kernel_rfl) (by kernel_rfl) ?_)
  intro w4 hI
  refine V ?_
  obtain⟨e1,hx1,h⟩:=ab h
  obtain⟨ad1,cs1,hA1,hr1,hq1⟩:=hI.clat (.s .z) hx1
  obtain rfl:cs1=(ki e1):=hr1
  refine vI ?_
  refine d5 rfl gn rfl (fun w' hw'=>(am (l:=(ki e1)) rfl et u64 rfl qS (hq1.at_ (SX.any rfl hw')))) (by kernel_rfl) ?_
  refine V ?_
  obtain⟨e2,hx2,h⟩:=ab h
  obtain⟨ad2,cs2,hA2,hr2,hq2⟩:=hI.clat (.s (.s (.s .z))) hx2
  obtain rfl:cs2=(ki e2):=hr2
  refine vI ?_
  refine d5 rfl gn rfl (fun w' hw'=>(am (l:=(ki e2)) rfl et u64 rfl qS (hq2.at_ (SX.any rfl hw')))) (by kernel_rfl) ?_
  refine iy rfl gn rfl (fun w'=>iB rfl et et (yS ..) (BT ..)) ?_
  refine V ?_
  refine TR fun hb h=> ?_
  refine T ?_
  refine aG ?_
  exact kl (fuel1,au (i1+1))
 refine bp ?_
 refine fE ?_
 refine aS ?_
 exact RF
theorem mO (hF:dL F w0) (hc:AllCl [ap] F w0) {r:Bool} (h:ij=some r):CR F w0 11 #[] (vb r) []:=by
 refine pO Tryz.func11 rfl Tryz.ntmps11 rfl ?_
 have hI:=Bun.start hF hc
 clear hc
 rw[ij]at h
 refine T ?_
 obtain⟨r1,hx1,h⟩:=ab h
 refine bq gn rfl (ax (vs:=[(str ([50,42,105,32,45,32,51,32,43,32,105]:List UInt8))]) rfl Kt ⟨af,trivial⟩) (Calls.mono (tE (F:=(Dj F d7)) (w0:=w0) hI.lt (s1:=([50,42,105,32,45,32,51,32,43,32,105]:List UInt8)) trivial (r:=r1) hx1) ?_)
 rintro _ w1 ⟨a1,c1,rfl,hx2,hl1⟩
 refine⟨_,rfl,?_⟩
 replace hI:=(hI.ext hx2).adds hl1;dsimp only[ca,na]at hI
 refine T ?_
 obtain⟨r2,hx3,h⟩:=ab h
 refine bq gn rfl (ax (vs:=[vs a1 r1.1.length c1,vi 0]) rfl Kv ⟨et,⟨af,trivial⟩⟩) (Calls.mono (zh (F:=(Dj F d7)) (w0:=w1) hI.lt (l1:=r1.1) (at1:=0) (a1:=a1) (c1:=c1) ⟨(hI.get .z),(hI.get (.s .z)),trivial⟩ (r:=r2) hx3) ?_)
 rintro _ w2 ⟨a2,c2,rfl,hx4,hl2⟩
 refine⟨_,rfl,?_⟩
 replace hI:=(hI.ext hx4).adds hl2;dsimp only[ca,na]at hI
 refine T ?_
 refine cP (cs:=#[vi 0,vs none 0 0]) hI gn rfl rfl kS rfl ?_
 clear hI;intro b1 c3 w3 hI
 refine cU (new:=(gY r2.1 a2 c2)) (cs':=(dM r2.1 a2 c2)) hI .z gn rfl rfl et et rfl bk rfl rfl rfl ?_
 clear hI;intro c4 w4 hI
 refine T ?_
 obtain⟨r3,hx5,h⟩:=ab h
 refine bq gn rfl (ax (vs:=[(str ([97,91,105,93,32,43,32,98,91,93,32,42,32,91,50,93]:List UInt8))]) rfl CM ⟨af,trivial⟩) (Calls.mono (lD (F:=(Dj F c4)) (w0:=w4) hI.lt (s1:=([97,91,105,93,32,43,32,98,91,93,32,42,32,91,50,93]:List UInt8)) ⟨(hI.get (.s (.s .z))),trivial⟩ (r:=r3) hx5) ?_)
 rintro _ w5 ⟨a3,c5,a4,c6,a5,c7,rfl,hx6,hl3⟩
 refine⟨_,rfl,?_⟩
 replace hI:=(hI.ext hx6).adds hl3;dsimp only[ca,na]at hI
 refine T ?_
 refine cP (cs:=#[vi 0,(str ([]:List UInt8)),vi 0,vi 0,vi 0,vi 0,vi 0,vi 0,vi 0,vi 0,vs none 0 0,vs none 0 0,vs none 0 0]) hI gn rfl rfl dN rfl ?_
 clear hI;intro b2 c8 w6 hI
 refine cU (new:=(aK r3.1 a3 c5 a4 c6 a5 c7)) (cs':=(an r3.1 a3 c5 a4 c6 a5 c7)) hI .z gn rfl rfl et et rfl aB rfl rfl rfl ?_
 clear hI;intro c9 w7 hI
 refine T ?_
 obtain⟨r4,hx7,h⟩:=ab h
 refine bq gn rfl (ax (vs:=[(str ([97,91]:List UInt8))]) rfl CM ⟨af,trivial⟩) (Calls.mono (lD (F:=(Dj F c9)) (w0:=w7) hI.lt (s1:=([97,91]:List UInt8)) ⟨(hI.get (.s (.s (.s (.s (.s .z)))))),trivial⟩ (r:=r4) hx7) ?_)
 rintro _ w8 ⟨a6,c10,a7,c11,a8,c12,rfl,hx8,hl4⟩
 refine⟨_,rfl,?_⟩
 replace hI:=(hI.ext hx8).adds hl4;dsimp only[ca,na]at hI
 refine T ?_
 refine cP (cs:=#[vi 0,(str ([]:List UInt8)),vi 0,vi 0,vi 0,vi 0,vi 0,vi 0,vi 0,vi 0,vs none 0 0,vs none 0 0,vs none 0 0]) hI gn rfl rfl dN rfl ?_
 clear hI;intro b3 c13 w9 hI
 refine cU (new:=(aK r4.1 a6 c10 a7 c11 a8 c12)) (cs':=(an r4.1 a6 c10 a7 c11 a8 c12)) hI .z gn rfl rfl et et rfl aB rfl rfl rfl ?_
 clear hI;intro c14 w10 hI
 refine T ?_
 obtain⟨r5,hx9,h⟩:=ab h
 refine bq gn rfl (ax (vs:=[(str ([97,91,105,93,32,43,42,32,50]:List UInt8))]) rfl CM ⟨af,trivial⟩) (Calls.mono (lD (F:=(Dj F c14)) (w0:=w10) hI.lt (s1:=([97,91,105,93,32,43,42,32,50]:List UInt8)) ⟨(hI.get (.s (.s (.s (.s (.s (.s (.s (.s .z))))))))),trivial⟩ (r:=r5) hx9) ?_)
 rintro _ w11 ⟨a9,c15,a10,c16,a11,c17,rfl,hx10,hl5⟩
 refine⟨_,rfl,?_⟩
 replace hI:=(hI.ext hx10).adds hl5;dsimp only[ca,na]at hI
 refine T ?_
 refine cP (cs:=#[vi 0,(str ([]:List UInt8)),vi 0,vi 0,vi 0,vi 0,vi 0,vi 0,vi 0,vi 0,vs none 0 0,vs none 0 0,vs none 0 0]) hI gn rfl rfl dN rfl ?_
 clear hI;intro b4 c18 w12 hI
 refine cU (new:=(aK r5.1 a9 c15 a10 c16 a11 c17)) (cs':=(an r5.1 a9 c15 a10 c16 a11 c17)) hI .z gn rfl rfl et et rfl aB rfl rfl rfl ?_
 clear hI;intro c19 w13 hI
 refine T ?_
 obtain⟨r6,hx11,h⟩:=ab h
 refine bq gn rfl (ax (vs:=[(str ([102,114,97,99,40,50,47,52,41]:List UInt8))]) rfl CM ⟨af,trivial⟩) (Calls.mono (lD (F:=(Dj F c19)) (w0:=w13) hI.lt (s1:=([102,114,97,99,40,50,47,52,41]:List UInt8)) ⟨(hI.get (.s (.s (.s (.s (.s (.s (.s (.s (.s (.s (.s .z)))))))))))),trivial⟩ (r:=r6) hx11) ?_)
 rintro _ w14 ⟨a12,c20,a13,c21,a14,c22,rfl,hx12,hl6⟩
 refine⟨_,rfl,?_⟩
 replace hI:=(hI.ext hx12).adds hl6;dsimp only[ca,na]at hI
 refine T ?_
 refine cP (cs:=#[vi 0,(str ([]:List UInt8)),vi 0,vi 0,vi 0,vi 0,vi 0,vi 0,vi 0,vi 0,vs none 0 0,vs none 0 0,vs none 0 0]) hI gn rfl rfl dN rfl ?_
 clear hI;intro b5 c23 w15 hI
 refine cU (new:=(aK r6.1 a12 c20 a13 c21 a14 c22)) (cs':=(an r6.1 a12 c20 a13 c21 a14 c22)) hI .z gn rfl rfl et et rfl aB rfl rfl rfl ?_
 clear hI;intro c24 w16 hI
 refine T ?_
 refine aj (T ?_)
 refine ar (bo rfl rfl rfl rfl) rfl (fun hc=>(am (l:=(gY r2.1 a2 c2)) rfl et oH rfl bk (CellsAt.of_blk (hI.blk (.s (.s (.s (.s .z))))) rfl))) ?_
 refine ar (bo rfl rfl rfl rfl) rfl (fun hc=>(aH (vs:=[(0,(str ([105]:List UInt8))),(1,vi 3)]) (cs:=#[(str ([105]:List UInt8)),vi 3]) rfl ⟨rfl,af,⟨rfl,af,trivial⟩⟩ (by kernel_rfl))) ?_
 obtain⟨ho1,h⟩:=eS h
 refine jZ (c:=ag) (xs:=([(⟨([105]:List UInt8),3⟩:aw)]:List aw)) (vs:=[(0,(Value.agg #[(str ([105]:List UInt8)),vi 3]))]) (cs:=#[(str ([105]:List UInt8)),vi 3]) (css:=[[(str ([105]:List UInt8)),vi 3]]) hI (FA (bo rfl rfl rfl rfl) ho1) rfl rfl wJ qX rfl ⟨rfl,(aF et ho1),trivial⟩ (by kernel_rfl) ⟨rfl,trivial⟩ rfl rfl rfl ?_
 clear hI;intro b6 c25 w17 hI
 refine ar (bo rfl rfl rfl rfl) rfl (fun hc=>(aH (vs:=[(0,vi (-3)),(1,(vs (some ⟨b6,0,none⟩) ([(⟨([105]:List UInt8),3⟩:aw)]:List aw).length 1))]) (cs:=#[vi (-3),(vs (some ⟨b6,0,none⟩) ([(⟨([105]:List UInt8),3⟩:aw)]:List aw).length 1)]) rfl ⟨rfl,af,⟨rfl,et,trivial⟩⟩ (by kernel_rfl))) ?_
 obtain⟨r7,hx13,h⟩:=ab h
 refine bq (FA (bo rfl rfl rfl rfl) ho1) rfl (ax (vs:=[(Value.agg (dM r2.1 a2 c2)),(Value.agg #[vi (-3),(vs (some ⟨b6,0,none⟩) ([(⟨([105]:List UInt8),3⟩:aw)]:List aw).length 1)])]) rfl HG ⟨(aF et ho1),⟨(aF et ho1),trivial⟩⟩) (Calls.mono (pU (F:=d7) (w0:=w17) NE (a1:=r2.1) (b1:=(⟨(-3),([(⟨([105]:List UInt8),3⟩:aw)]:List aw)⟩:ay)) (a2:=a2) (c1:=c2) (a3:=(some ⟨b6,0,none⟩)) (c2:=1) ⟨(hI.get0 (.s (.s (.s (.s (.s (.s (.s (.s (.s (.s (.s (.s .z))))))))))))),hI.lend .z,trivial⟩ (r:=r7) hx13) ?_)
 rintro _ w18 ⟨rfl,hx14,hl7⟩
 refine⟨_,rfl,?_⟩
 replace hI:=(hI.ext hx14)
 refine T ?_
 refine xY h et (fun hb h=> ?_) (fun hb h=> ?_)
 ·refine T ?_
  refine aJ ?_
  obtain rfl:=ak h
  exact QF hI
 refine T ?_
 obtain⟨e1,hx15,h⟩:=ab h
 replace hx15:=aC hx15
 obtain⟨ad1,cs1,hq1⟩:=hI.gclat (.s (.s (.s (.s (.s (.s (.s (.s (.s (.s (.s .z))))))))))) hx15
 obtain⟨a15,c26,a16,c27,a17,c28,hq2⟩:∃ (a15:Option Addr) (c26:Nat) (a16:Option Addr) (c27:Nat) (a17:Option Addr) (c28:Nat),(decide (r3.1.Op=4))=true→(a5=some ad1∧cs1=(aK e1 a15 c26 a16 c27 a17 c28)∧CA (Dj F c25) w18 (ad1.add (Int.toNat 0 * 13)) cs1∧SlC ag (Dj F c25) w18 a15 c26 e1.Lin.L∧SlC ai (Dj F c25) w18 a16 c27 e1.Idx∧SlC al (Dj F c25) w18 a17 c28 e1.Args):=by
  by_cases hc:(decide (r3.1.Op=4))=true
  ·obtain⟨k1,k2,k3⟩:=hq1 hc;obtain⟨a15,c26,a16,c27,a17,c28,rfl,hf1,hf2,hf3⟩:=bP k2;exact⟨a15,c26,a16,c27,a17,c28,fun _=>⟨k1,rfl,k3,hf1,hf2,hf3⟩⟩
  exact⟨default,default,default,default,default,default,fun k=>absurd k hc⟩
 clear hq1
 have hI:=hI.add (c:=Cl.gsl (decide (r3.1.Op=4)) ag a15 c26 e1.Lin.L) (fun hc=>(hq2 hc).2.2.2.1)
 have hI:=hI.add (c:=Cl.gsl (decide (r3.1.Op=4)) ai a16 c27 e1.Idx) (fun hc=>(hq2 hc).2.2.2.2.1)
 have hI:=hI.add (c:=Cl.gsl (decide (r3.1.Op=4)) al a17 c28 e1.Args) (fun hc=>(hq2 hc).2.2.2.2.2)
 have hq3:(decide (r3.1.Op=4))=true→CA (Dj F c25) w18 (ad1.add (Int.toNat 0 * 13)) (aK e1 a15 c26 a16 c27 a17 c28):=fun hc=>wR (hq2 hc).2.1 (hq2 hc).2.2.1
 refine sJ ?_
 refine T ?_
 obtain⟨e2,hx16,h⟩:=ab h
 replace hx16:=aC hx16
 obtain⟨ad2,cs2,hq4⟩:=hI.gclat (.s (.s (.s (.s (.s (.s (.s (.s (.s (.s (.s (.s (.s (.s .z)))))))))))))) hx16
 obtain⟨a18,c29,a19,c30,a20,c31,hq5⟩:∃ (a18:Option Addr) (c29:Nat) (a19:Option Addr) (c30:Nat) (a20:Option Addr) (c31:Nat),((decide (r3.1.Op=4))&&(decide (e1.Op=3)))=true→(a5=some ad2∧cs2=(aK e2 a18 c29 a19 c30 a20 c31)∧CA (Dj F c25) w18 (ad2.add (Int.toNat 1 * 13)) cs2∧SlC ag (Dj F c25) w18 a18 c29 e2.Lin.L∧SlC ai (Dj F c25) w18 a19 c30 e2.Idx∧SlC al (Dj F c25) w18 a20 c31 e2.Args):=by
  by_cases hc:((decide (r3.1.Op=4))&&(decide (e1.Op=3)))=true
  ·obtain⟨k1,k2,k3⟩:=hq4 hc;obtain⟨a18,c29,a19,c30,a20,c31,rfl,hf4,hf5,hf6⟩:=bP k2;exact⟨a18,c29,a19,c30,a20,c31,fun _=>⟨k1,rfl,k3,hf4,hf5,hf6⟩⟩
  exact⟨default,default,default,default,default,default,fun k=>absurd k hc⟩
 clear hq4
 have hI:=hI.add (c:=Cl.gsl ((decide (r3.1.Op=4))&&(decide (e1.Op=3))) ag a18 c29 e2.Lin.L) (fun hc=>(hq5 hc).2.2.2.1)
 have hI:=hI.add (c:=Cl.gsl ((decide (r3.1.Op=4))&&(decide (e1.Op=3))) ai a19 c30 e2.Idx) (fun hc=>(hq5 hc).2.2.2.2.1)
 have hI:=hI.add (c:=Cl.gsl ((decide (r3.1.Op=4))&&(decide (e1.Op=3))) al a20 c31 e2.Args) (fun hc=>(hq5 hc).2.2.2.2.2)
 have hq6:((decide (r3.1.Op=4))&&(decide (e1.Op=3)))=true→CA (Dj F c25) w18 (ad2.add (Int.toNat 1 * 13)) (aK e2 a18 c29 a19 c30 a20 c31):=fun hc=>wR (hq5 hc).2.1 (hq5 hc).2.2.1
 refine sJ ?_
 refine T ?_
 refine aJ ?_
 obtain rfl:=ak h
 exact QF hI
theorem zp (hF:dL F w0) (hc:AllCl [] F w0) {r:List (List UInt8)} (h:kY=some r):Cg 116 #[] w0 fun e w=>∃ a1 c1,e= .returned (vs a1 r.length c1)∧Ext w0 w∧AllCl [Cl.sl fp a1 c1 r] F w:=by
 refine EN Tryz.func116 Tryz.ntmps116 hF hc fun hI=> ?_
 rw[kY]at h
 refine T ?_
 refine jZ (c:=fp) (xs:=([([115,105,122,101]:List UInt8),([119,104,101,114,101]:List UInt8),([105,110]:List UInt8),([100,101,102]:List UInt8),([111,117,116]:List UInt8),([115,117,109]:List UInt8),([112,114,111,100]:List UInt8),([109,105,110]:List UInt8),([109,97,120]:List UInt8),([115,99,97,110]:List UInt8),([111,118,101,114]:List UInt8),([105,102]:List UInt8),([99,97,115,116]:List UInt8),([102,114,97,99]:List UInt8),([105,110,116]:List UInt8),([102,105,120]:List UInt8),([99,101,105,108]:List UInt8),([102,108,111,111,114]:List UInt8),([122,101,114,111]:List UInt8),([101,118,101,110]:List UInt8),([115,97,116]:List UInt8),([119,114,97,112]:List UInt8)]:List (List UInt8))) (vs:=[(0,(str ([115,105,122,101]:List UInt8))),(1,(str ([119,104,101,114,101]:List UInt8))),(2,(str ([105,110]:List UInt8))),(3,(str ([100,101,102]:List UInt8))),(4,(str ([111,117,116]:List UInt8))),(5,(str ([115,117,109]:List UInt8))),(6,(str ([112,114,111,100]:List UInt8))),(7,(str ([109,105,110]:List UInt8))),(8,(str ([109,97,120]:List UInt8))),(9,(str ([115,99,97,110]:List UInt8))),(10,(str ([111,118,101,114]:List UInt8))),(11,(str ([105,102]:List UInt8))),(12,(str ([99,97,115,116]:List UInt8))),(13,(str ([102,114,97,99]:List UInt8))),(14,(str ([105,110,116]:List UInt8))),(15,(str ([102,105,120]:List UInt8))),(16,(str ([99,101,105,108]:List UInt8))),(17,(str ([102,108,111,111,114]:List UInt8))),(18,(str ([122,101,114,111]:List UInt8))),(19,(str ([101,118,101,110]:List UInt8))),(20,(str ([115,97,116]:List UInt8))),(21,(str ([119,114,97,112]:List UInt8)))]) (cs:=#[(str ([115,105,122,101]:List UInt8)),(str ([119,104,101,114,101]:List UInt8)),(str ([105,110]:List UInt8)),(str ([100,101,102]:List UInt8)),(str ([111,117,116]:List UInt8)),(str ([115,117,109]:List UInt8)),(str ([112,114,111,100]:List UInt8)),(str ([109,105,110]:List UInt8)),(str ([109,97,120]:List UInt8)),(str ([115,99,97,110]:List UInt8)),(str ([111,118,101,114]:List UInt8)),(str ([105,102]:List UInt8)),(str ([99,97,115,116]:List UInt8)),(str ([102,114,97,99]:List UInt8)),(str ([105,110,116]:List UInt8)),(str ([102,105,120]:List UInt8)),(str ([99,101,105,108]:List UInt8)),(str ([102,108,111,111,114]:List UInt8)),(str ([122,101,114,111]:List UInt8)),(str ([101,118,101,110]:List UInt8)),(str ([115,97,116]:List UInt8)),(str ([119,114,97,112]:List UInt8))]) (css:=[[(str ([115,105,122,101]:List UInt8))],[(str ([119,104,101,114,101]:List UInt8))],[(str ([105,110]:List UInt8))],[(str ([100,101,102]:List UInt8))],[(str ([111,117,116]:List UInt8))],[(str ([115,117,109]:List UInt8))],[(str ([112,114,111,100]:List UInt8))],[(str ([109,105,110]:List UInt8))],[(str ([109,97,120]:List UInt8))],[(str ([115,99,97,110]:List UInt8))],[(str ([111,118,101,114]:List UInt8))],[(str ([105,102]:List UInt8))],[(str ([99,97,115,116]:List UInt8))],[(str ([102,114,97,99]:List UInt8))],[(str ([105,110,116]:List UInt8))],[(str ([102,105,120]:List UInt8))],[(str ([99,101,105,108]:List UInt8))],[(str ([102,108,111,111,114]:List UInt8))],[(str ([122,101,114,111]:List UInt8))],[(str ([101,118,101,110]:List UInt8))],[(str ([115,97,116]:List UInt8))],[(str ([119,114,97,112]:List UInt8))]]) hI gn rfl rfl Ep nT rfl ⟨rfl,af,⟨rfl,af,⟨rfl,af,⟨rfl,af,⟨rfl,af,⟨rfl,af,⟨rfl,af,⟨rfl,af,⟨rfl,af,⟨rfl,af,⟨rfl,af,⟨rfl,af,⟨rfl,af,⟨rfl,af,⟨rfl,af,⟨rfl,af,⟨rfl,af,⟨rfl,af,⟨rfl,af,⟨rfl,af,⟨rfl,af,⟨rfl,af,trivial⟩⟩⟩⟩⟩⟩⟩⟩⟩⟩⟩⟩⟩⟩⟩⟩⟩⟩⟩⟩⟩⟩ (by kernel_rfl) ⟨rfl,⟨rfl,⟨rfl,⟨rfl,⟨rfl,⟨rfl,⟨rfl,⟨rfl,⟨rfl,⟨rfl,⟨rfl,⟨rfl,⟨rfl,⟨rfl,⟨rfl,⟨rfl,⟨rfl,⟨rfl,⟨rfl,⟨rfl,⟨rfl,⟨rfl,trivial⟩⟩⟩⟩⟩⟩⟩⟩⟩⟩⟩⟩⟩⟩⟩⟩⟩⟩⟩⟩⟩⟩ rfl rfl rfl ?_
 intro b1 c2 w1 hI
 refine T ?_
 refine aJ ?_
 obtain⟨c3,hI⟩:=hI.release .z
 obtain rfl:=ak h
 refine QG ?_
 exact⟨some ⟨b1,0,none⟩,22,rfl,hI.ext0,hI.fin ⟨.z,trivial⟩⟩
theorem B3 (hF:dL F w0) {l1:List (List UInt8)} {s1:List UInt8} (hc:AllCl [Cl.sl fp a1 c1 l1] F w0) {r:Bool} (h:nO l1 s1=some r):CR F w0 115 #[vs a1 l1.length c1,(str s1)] (vb r) []:=by
 refine EN Tryz.func115 Tryz.ntmps115 hF hc fun hI=> ?_
 rw[nO]at h
 refine T ?_
 refine aj (T ?_)
 refine bh (α:=Nat×Int) (fun x=>fun w=>∃ C,Bun d7 F w0 C w [] [Cl.sl fp a1 c1 l1]∧gj l1 s1 (x.1) (x.2)=some r) (fun x _=>x.1) (fun x=>[(0,vs a1 l1.length c1),(1,(str s1)),(5,vi (x.2))]) (fu,0) BH SB ?_
 clear h hI;rintro⟨fuel1,i1⟩ w1 ⟨c2,hI,h⟩
 dsimp only at hI h ⊢
 rcases fuel1 with _ | fuel1
 ·rw[gj]at h;cases h
 rw[gj]at h
 refine aj (T ?_)
 refine TC (fun hb h=> ?_) fun hb h=> ?_
 ·refine T ?_
  refine aj (T ?_)
  obtain⟨e1,hx1,h⟩:=ab h
  obtain⟨ad1,cs1,hA1,hr1,hq1⟩:=hI.clat .z hx1
  obtain rfl:cs1=[(str e1)]:=hr1
  refine sI ?_
  refine TR fun hb h=> ?_
  refine T ?_
  refine aG ?_
  exact kl (fuel1,au (i1+1))
 refine bp ?_
 refine fE ?_
 refine aS ?_
 exact RF
theorem oF (hF:dL F w0) {s1:List UInt8} (hc:AllCl [] F w0) {r:Bool} (h:gp s1=some r):CR F w0 61 #[(str s1)] (vb r) []:=by
 refine EN Tryz.func61 Tryz.ntmps61 hF hc fun hI=> ?_
 rw[gp]at h
 refine T ?_
 refine aj (T ?_)
 obtain⟨r1,hx1,h⟩:=ab h
 replace hx1:=aC hx1
 refine EW (β:=(Option Addr)×Nat) (fun x=>(vs (x.1) r1.length (x.2))) (fun x w'=>AllCl [Cl.sl fp (x.1) (x.2) r1] (Dj F d7) w') (bo rfl rfl rfl rfl) rfl (fun hc=>(ax (vs:=[]) rfl Ja trivial)) (fun hc=>(zp hI.lt trivial (hx1 hc)).mono fun _ _ ⟨a1,c1,k1_,k2_,k3_⟩=>⟨(a1,c1),k1_,k2_,k3_⟩) ?_
 rintro⟨a1,c1⟩ w1 hx2 hl1;replace hI:=hI.ext hx2
 have hI:=hI.add (c:=Cl.gsl (!((decide ((s1.length:Int)<1))||(decide (16<(s1.length:Int))))) fp a1 c1 r1) (fun hc=>(hl1 hc).1)
 refine T ?_
 obtain⟨r2,hx3,h⟩:=ab h
 replace hx3:=aC hx3
 refine sU (fun hc=>B3 hI.lt ⟨(hI.get .z hc),trivial⟩ (hx3 hc)) (Rg Tryz.func115) fun w2 hI=> ?_
 refine TR fun hb h=> ?_
 refine T ?_
 refine aj (T ?_)
 refine bh (α:=Nat×Int) (fun x=>fun w=>∃ C,Bun d7 F w0 C w [] []∧fD s1 (x.1) (x.2)=some r) (fun x _=>x.1) (fun x=>[(0,(str s1)),(3,vi (x.2))]) (fu,0) BH SB ?_
 clear h hI;rintro⟨fuel1,i1⟩ w3 ⟨c2,hI,h⟩
 dsimp only at hI h ⊢
 rcases fuel1 with _ | fuel1
 ·rw[fD]at h;cases h
 rw[fD]at h
 refine aj (T ?_)
 refine TC (fun hb h=> ?_) fun hb h=> ?_
 ·refine T ?_
  refine aj (T ?_)
  obtain⟨b1,hx5,h⟩:=ab h
  refine sI ?_
  refine TR fun hb h=> ?_
  refine T ?_
  refine aG ?_
  exact kl (fuel1,au (i1+1))
 refine bp ?_
 refine fE ?_
 refine aS ?_
 exact RF
theorem iP (hF:dL F w0) {l1:ay} (hc:AllCl [Cl.sl ag a1 c1 l1.L] F w0) {r:Bool} (h:eg l1=some r):CR F w0 114 #[(Value.agg (dM l1 a1 c1))] (vb r) []:=by
 refine EN Tryz.func114 Tryz.ntmps114 hF hc fun hI=> ?_
 rw[eg]at h
 refine sr (lX fun b1 c3 w1 hI=> ?_)
 refine T ?_
 refine aj (T ?_)
 refine bh (α:=Nat×Int) (fun x=>fun w=>∃ C,Bun d7 F w0 C w [] [Cl.blk b1 27 (dM l1 a1 c1),Cl.sl ag a1 c1 l1.L]∧cI l1 (x.1) (x.2)=some r) (fun x _=>x.1) (fun x=>[(1,vp b1 0),(3,vi (x.2))]) (fu,0) BH SB ?_
 clear h hI;rintro⟨fuel1,i1⟩ w2 ⟨c4,hI,h⟩
 dsimp only at hI h ⊢
 rcases fuel1 with _ | fuel1
 ·rw[cI]at h;cases h
 rw[cI]at h
 refine aj (T ?_)
 refine TC (fun hb h=> ?_) fun hb h=> ?_
 ·refine T ?_
  refine aj (T ?_)
  refine aj (aP [] false (.c (0,.q) (.c (1,.q) (.c (2,.q) (.c (3,.q) (.c (4,.q) (.c (5,.q) (.c (6,.s) (.c (7,.q) (.c (8,.q) (.c (9,.q) (.c (10,.q) (.c (11,.q) (.c (12,.q) (.c (13,.q) (.c (14,.q) (.c (15,.q) (.c (16,.q) (.c (17,.q) (.c (18,.q) (.c (19,.q) (.c (20,.q) (.c (21,.q) (.c (22,.q) (.c (23,.q) (.c (24,.q) (.c (25,.q) (.c (26,.q) (.c (27,.q) (.c (28,.q) (.c (29,.q) (.c (30,.q) (.c (31,.q) (.c (32,.q) (.c (33,.q) (.c (34,.q) (.c (35,.q) (.c (36,.q) .n))))))))))))))))))))))))))))))))))))) hI (by kernel_rfl) (by kernel_rfl) ?_)
  intro w3 hI
  refine V ?_
  obtain⟨e1,hx1,h⟩:=ab h
  obtain⟨ad1,cs1,hA1,hr1,hq1⟩:=hI.clat (.s .z) hx1
  obtain rfl:cs1=(ki e1):=hr1
  refine vI ?_
  refine V ?_
  obtain⟨r1,hx2,h⟩:=ab h
  refine bN rfl gn rfl (ax (vs:=[(str e1.Name)]) rfl Ks ⟨et,trivial⟩) (Calls.mono (oF hI.lt trivial hx2) ?_)
  rintro _ w4 ⟨rfl,hx3,hl1⟩
  refine⟨_,rfl,hx3,?_⟩
  replace hI:=(hI.ext hx3)
  refine V ?_
  obtain⟨e2,hx4,h⟩:=ab h
  replace hx4:=aC hx4
  obtain⟨ad2,cs2,hq2⟩:=hI.gclat (.s .z) hx4
  have hq3:(!(!r1))=true→CA (Dj F c4) w4 (ad2.add (Int.toNat i1 * 2)) (ki e2):=fun hc=>wR (hq2 hc).2.1 (hq2 hc).2.2
  refine vJ ?_
  refine V ?_
  obtain⟨e3,hx5,h⟩:=ab h
  replace hx5:=aC hx5
  obtain⟨ad3,cs3,hq4⟩:=hI.gclat (.s .z) hx5
  have hq5:((!((!r1)||(decide (e2.By=0))))&&(decide (0<i1)))=true→CA (Dj F c4) w4 (ad3.add (Int.toNat (au (i1 - 1)) * 2)) (ki e3):=fun hc=>wR (hq4 hc).2.1 (hq4 hc).2.2
  refine vJ ?_
  refine V ?_
  obtain⟨e4,hx6,h⟩:=ab h
  replace hx6:=aC hx6
  obtain⟨ad4,cs4,hq6⟩:=hI.gclat (.s .z) hx6
  have hq7:((!((!r1)||(decide (e2.By=0))))&&(decide (0<i1)))=true→CA (Dj F c4) w4 (ad4.add (Int.toNat i1 * 2)) (ki e4):=fun hc=>wR (hq6 hc).2.1 (hq6 hc).2.2
  refine vJ ?_
  refine V ?_
  refine TR fun hb h=> ?_
  refine T ?_
  refine aG ?_
  exact kl (fuel1,au (i1+1))
 refine bp ?_
 refine fE ?_
 refine aS ?_
 exact RF
theorem tF (hF:dL F w0) {l1:ay} (hc:AllCl [Cl.sl ag a1 c1 l1.L] F w0) {r:Int} (h:fW l1=some r):CR F w0 170 #[(Value.agg (dM l1 a1 c1))] (vi r) []:=by
 refine EN Tryz.func170 Tryz.ntmps170 hF hc fun hI=> ?_
 rw[fW]at h
 refine sr (lX fun b1 c3 w1 hI=> ?_)
 refine T ?_
 refine aj (sr (sq (am (l:=(gY l1 a1 c1)) rfl et oH rfl bk (hI.kblk (l:=(gY l1 a1 c1)) .z rfl).1) ?_))
 refine sB h (fun _ k=>iP hI.lt FS k) (Rc Tryz.func114) fun r1 w2 h hI=> ?_
 refine TR fun hb h=> ?_
 exact RF
theorem qM (hF:dL F w0) {t1:aM} (hc:AllCl [] F w0) {r:Bool} (h:kM t1=some r):CR F w0 62 #[(Value.agg (dC t1))] (vb r) []:=by
 refine EN Tryz.func62 Tryz.ntmps62 hF hc fun hI=> ?_
 rw[kM]at h
 refine sr (lX fun b1 c2 w1 hI=> ?_)
 refine T ?_
 refine aj (T ?_)
 refine TR fun hb h=> ?_
 exact RF
theorem nC (hF:dL F w0) {n1:Int} (hc:AllCl [] F w0) {r:Int} (h:fw n1=some r):CR F w0 183 #[vi n1] (Value.int .u64 r) []:=by
 refine EN Tryz.func183 Tryz.ntmps183 hF hc fun hI=> ?_
 rw[fw]at h
 refine T ?_
 refine aj (T ?_)
 refine TR fun hb h=> ?_
 exact RF
theorem AL (hF:dL F w0) {a1 b1:Int} (hc:AllCl [] F w0) {r:Int} (h:oz a1 b1=some r):CR F w0 245 #[(Value.int .u64 a1),(Value.int .u64 b1)] (Value.int .u64 r) []:=by
 refine EN Tryz.func245 Tryz.ntmps245 hF hc fun hI=> ?_
 rw[oz]at h
 refine T ?_
 refine aj (T ?_)
 refine bh (α:=Nat×Int×Int) (fun x=>fun w=>∃ C,Bun d7 F w0 C w [] []∧jt (x.1) (x.2.1) (x.2.2)=some r) (fun x _=>x.1) (fun x=>[(0,(Value.int .u64 (x.2.1))),(1,(Value.int .u64 (x.2.2)))]) (fu,a1,b1) BH SB ?_
 clear h hI;rintro⟨fuel1,a2,b2⟩ w1 ⟨c1,hI,h⟩
 dsimp only at hI h ⊢
 rcases fuel1 with _ | fuel1
 ·rw[jt]at h;cases h
 rw[jt]at h
 refine aj (T ?_)
 refine TC (fun hb h=> ?_) fun hb h=> ?_
 ·refine T ?_
  refine aP [] false (.c (0,.q) (.c (1,.q) (.c (2,.q) (.c (3,.q) (.c (4,.q) (.c (5,.q) .n)))))) hI (by kernel_rfl) (by kernel_rfl) ?_
  intro w2 hI
  refine V ?_
  obtain⟨ho1,h⟩:=eS h
  refine iy rfl gn rfl (fun w'=>uS rfl et et ho1) ?_
  refine V ?_
  refine nu ?_
  exact kl (fuel1,b2,Int.tmod a2 b2)
 refine bp ?_
 refine fE ?_
 refine aS ?_
 exact RF
theorem zf (hF:dL F w0) {t1:aM} (hc:AllCl [] F w0) {r:Int} (h:me t1=some r):CR F w0 218 #[(Value.agg (dC t1))] (vi r) []:=by
 refine EN Tryz.func218 Tryz.ntmps218 hF hc fun hI=> ?_
 rw[me]at h
 refine sr (lX fun b1 c2 w1 hI=> ?_)
 refine T ?_
 obtain⟨ho1,h⟩:=eS h
 refine sq (zH rfl af et ho1) ?_
 exact RF
theorem B2 (hF:dL F w0) {a1 b1:Int} (hc:AllCl [] F w0) {r:Int} (h:pI a1 b1=some r):CR F w0 238 #[vi a1,vi b1] (vi r) []:=by
 refine EN Tryz.func238 Tryz.ntmps238 hF hc fun hI=> ?_
 rw[pI]at h
 refine T ?_
 refine aj (T ?_)
 refine bh (α:=Nat×Int×Int) (fun x=>fun w=>∃ C,Bun d7 F w0 C w [] []∧j7 (x.1) (x.2.1) (x.2.2)=some r) (fun x _=>x.1) (fun x=>[(0,vi (x.2.1)),(1,vi (x.2.2))]) (fu,a1,b1) BH SB ?_
 clear h hI;rintro⟨fuel1,a2,b2⟩ w1 ⟨c1,hI,h⟩
 dsimp only at hI h ⊢
 rcases fuel1 with _ | fuel1
 ·rw[j7]at h;cases h
 rw[j7]at h
 refine aj (T ?_)
 refine TC (fun hb h=> ?_) fun hb h=> ?_
 ·refine T ?_
  refine aP [] false (.c (0,.q) (.c (1,.q) (.c (2,.q) (.c (3,.q) (.c (4,.q) (.c (5,.q) .n)))))) hI (by kernel_rfl) (by kernel_rfl) ?_
  intro w2 hI
  refine V ?_
  obtain⟨ho1,h⟩:=eS h
  refine iy rfl gn rfl (fun w'=>uS rfl et et ho1) ?_
  refine V ?_
  refine nu ?_
  exact kl (fuel1,b2,Int.tmod a2 b2)
 refine bp ?_
 refine fE ?_
 refine aS ?_
 exact RF
theorem rR (hF:dL F w0) {t1:aM} {v1:bj} (hc:AllCl [] F w0) {r:Bool} (h:lK t1 v1=some r):CR F w0 215 #[(Value.agg (dC t1)),(Value.agg (pW v1))] (vb r) []:=by
 refine EN Tryz.func215 Tryz.ntmps215 hF hc fun hI=> ?_
 rw[lK]at h
 refine sr (lX fun b1 c2 w1 hI=> ?_)
 refine lX fun b2 c4 w2 hI=> ?_
 refine T ?_
 refine aj (T ?_)
 refine TC (fun hb h=> ?_) fun hb h=> ?_
 ·refine T ?_
  obtain⟨ho1,h⟩:=eS h
  refine sq (zH rfl af et ho1) ?_
  obtain⟨half1,hx1,h⟩:=ab h
  refine sq (rS (cb rfl et) (congrArg (Value.int .i64) (ak hx1))) ?_
  exact RF
 refine T ?_
 refine aj (T ?_)
 refine TR fun hb h=> ?_
 refine T ?_
 refine aj (T ?_)
 refine TR fun hb h=> ?_
 refine T ?_
 refine sq (Ef rfl et et) ?_
 refine T ?_
 refine sB h (fun _ k=>B2 hI.lt trivial k) (Rc Tryz.func238) fun r1 w3 h hI=> ?_
 exact RF
abbrev Qs7 (f_:(ac→Int→Option Int)):Prop:=∀ ⦃F:NP⦄ ⦃w0:World⦄ (hF:dL F w0) ⦃e1:ac⦄ ⦃most1:Int⦄ ⦃a1 a2 a3:Option Addr⦄ ⦃c1 c2 c3:Nat⦄ (hc:AllCl [Cl.sl ag a1 c1 e1.Lin.L,Cl.sl ai a2 c2 e1.Idx,Cl.sl al a3 c3 e1.Args] F w0) ⦃r:Int⦄ (h:f_ e1 most1=some r),CR F w0 160 #[(Value.agg (an e1 a1 c1 a2 c2 a3 c3)),vi most1] (vi r) []
theorem uw {rec_:(ac→Int→Option Int)} (hrec:Qs7 rec_) (hF:dL F w0) {e1:ac} {most1:Int} (hc:AllCl [Cl.sl ag a1 c1 e1.Lin.L,Cl.sl ai a2 c2 e1.Idx,Cl.sl al a3 c3 e1.Args] F w0) {r:Int} (h:jU rec_ e1 most1=some r):CR F w0 160 #[(Value.agg (an e1 a1 c1 a2 c2 a3 c3)),vi most1] (vi r) []:=by
 refine EN Tryz.func160 Tryz.ntmps160 hF hc fun hI=> ?_
 rw[jU]at h
 refine sr (lX fun b1 c5 w1 hI=> ?_)
 refine T ?_
 refine aj (T ?_)
 refine bh (α:=Nat×Int×Int) (fun x=>fun w=>∃ C,Bun d7 F w0 C w [] [Cl.blk b1 39 (an e1 a1 c1 a2 c2 a3 c3),Cl.sl ag a1 c1 e1.Lin.L,Cl.sl ai a2 c2 e1.Idx,Cl.sl al a3 c3 e1.Args]∧er e1 most1 rec_ (x.1) (x.2.1) (x.2.2)=some r) (fun x _=>x.1) (fun x=>[(1,vi most1),(2,vp b1 0),(5,vi (x.2.1)),(6,vi (x.2.2))]) (fu,1,0) BH SB ?_
 clear h hI;rintro⟨fuel1,d1,i1⟩ w2 ⟨c6,hI,h⟩
 dsimp only at hI h ⊢
 rcases fuel1 with _ | fuel1
 ·rw[er]at h;cases h
 rw[er]at h
 refine aj (T ?_)
 refine TC (fun hb h=> ?_) fun hb h=> ?_
 ·refine T ?_
  refine aj (T ?_)
  obtain⟨e2,hx1,h⟩:=ab h
  obtain⟨ad1,cs1,hA1,hr1,hq1⟩:=hI.clat (.s (.s (.s .z))) hx1
  obtain⟨a4,c7,a5,c8,a6,c9,rfl,hf1,hf2,hf3⟩:=bP hr1
  have hI:=hI.ads hf1
  have hI:=hI.ads hf2
  have hI:=hI.ads hf3
  refine sI ?_
  refine T ?_
  refine sB h (fun _ k=>hrec hI.lt FS k) (Rc Tryz.func160) fun r1 w3 h hI=> ?_
  refine T ?_
  refine sq (Ef rfl et et) ?_
  refine T ?_
  refine aG ?_
  exact kl (fuel1,max d1 (au (1+r1)),au (i1+1))
 refine bp ?_
 refine fE ?_
 refine aS ?_
 exact RF
theorem uv (n:Nat):Qs7 (iG n):=by
 induction n with
 | zero=>intro F;intros;rename_i h;cases h
 | succ n ih=>intro F;intros;apply uw ih<;>assumption
theorem xf:Qs7 (oJ):=uv fu
theorem xg (hF:dL F w0) {e1:ac} (hc:AllCl [Cl.sl ag a1 c1 e1.Lin.L,Cl.sl ai a2 c2 e1.Idx,Cl.sl al a3 c3 e1.Args] F w0) {r:Int} (h:mS e1=some r):CR F w0 85 #[(Value.agg (an e1 a1 c1 a2 c2 a3 c3))] (vi r) []:=by
 refine EN Tryz.func85 Tryz.ntmps85 hF hc fun hI=> ?_
 rw[mS]at h
 refine sr (lX fun b1 c5 w1 hI=> ?_)
 refine T ?_
 refine sq (am (l:=(aK e1 a1 c1 a2 c2 a3 c3)) rfl et gP rfl aB (hI.kblk (l:=(aK e1 a1 c1 a2 c2 a3 c3)) .z rfl).1) ?_
 refine sB h (fun _ k=>xf hI.lt FS k) (Rc Tryz.func160) fun r1 w2 h hI=> ?_
 exact RF
abbrev Qs8 (f_:(ac→Int→Option Int)):Prop:=∀ ⦃F:NP⦄ ⦃w0:World⦄ (hF:dL F w0) ⦃e1:ac⦄ ⦃most1:Int⦄ ⦃a1 a2 a3:Option Addr⦄ ⦃c1 c2 c3:Nat⦄ (hc:AllCl [Cl.sl ag a1 c1 e1.Lin.L,Cl.sl ai a2 c2 e1.Idx,Cl.sl al a3 c3 e1.Args] F w0) ⦃r:Int⦄ (h:f_ e1 most1=some r),CR F w0 161 #[(Value.agg (an e1 a1 c1 a2 c2 a3 c3)),vi most1] (vi r) []
theorem wh {rec_:(ac→Int→Option Int)} (hrec:Qs8 rec_) (hF:dL F w0) {e1:ac} {most1:Int} (hc:AllCl [Cl.sl ag a1 c1 e1.Lin.L,Cl.sl ai a2 c2 e1.Idx,Cl.sl al a3 c3 e1.Args] F w0) {r:Int} (h:ky rec_ e1 most1=some r):CR F w0 161 #[(Value.agg (an e1 a1 c1 a2 c2 a3 c3)),vi most1] (vi r) []:=by
 refine EN Tryz.func161 Tryz.ntmps161 hF hc fun hI=> ?_
 rw[ky]at h
 refine sr (lX fun b1 c5 w1 hI=> ?_)
 refine T ?_
 refine aj (T ?_)
 refine bh (α:=Nat×Int×Int) (fun x=>fun w=>∃ C,Bun d7 F w0 C w [] [Cl.blk b1 39 (an e1 a1 c1 a2 c2 a3 c3),Cl.sl ag a1 c1 e1.Lin.L,Cl.sl ai a2 c2 e1.Idx,Cl.sl al a3 c3 e1.Args]∧fI e1 most1 rec_ (x.1) (x.2.1) (x.2.2)=some r) (fun x _=>x.1) (fun x=>[(1,vi most1),(2,vp b1 0),(5,vi (x.2.1)),(6,vi (x.2.2))]) (fu,1,0) BH SB ?_
 clear h hI;rintro⟨fuel1,n1,i1⟩ w2 ⟨c6,hI,h⟩
 dsimp only at hI h ⊢
 rcases fuel1 with _ | fuel1
 ·rw[fI]at h;cases h
 rw[fI]at h
 refine aj (T ?_)
 refine TC (fun hb h=> ?_) fun hb h=> ?_
 ·refine T ?_
  refine aj (T ?_)
  obtain⟨e2,hx1,h⟩:=ab h
  obtain⟨ad1,cs1,hA1,hr1,hq1⟩:=hI.clat (.s (.s (.s .z))) hx1
  obtain⟨a4,c7,a5,c8,a6,c9,rfl,hf1,hf2,hf3⟩:=bP hr1
  have hI:=hI.ads hf1
  have hI:=hI.ads hf2
  have hI:=hI.ads hf3
  refine sI ?_
  refine T ?_
  refine sB h (fun _ k=>hrec hI.lt FS k) (Rc Tryz.func161) fun r1 w3 h hI=> ?_
  refine T ?_
  refine aG ?_
  exact kl (fuel1,au (n1+r1),au (i1+1))
 refine bp ?_
 refine fE ?_
 refine aS ?_
 exact RF
theorem wg (n:Nat):Qs8 (jo n):=by
 induction n with
 | zero=>intro F;intros;rename_i h;cases h
 | succ n ih=>intro F;intros;apply wh ih<;>assumption
theorem zb:Qs8 (pD):=wg fu
theorem ze (hF:dL F w0) {e1:ac} (hc:AllCl [Cl.sl ag a1 c1 e1.Lin.L,Cl.sl ai a2 c2 e1.Idx,Cl.sl al a3 c3 e1.Args] F w0) {r:Int} (h:mb e1=some r):CR F w0 86 #[(Value.agg (an e1 a1 c1 a2 c2 a3 c3))] (vi r) []:=by
 refine EN Tryz.func86 Tryz.ntmps86 hF hc fun hI=> ?_
 rw[mb]at h
 refine sr (lX fun b1 c5 w1 hI=> ?_)
 refine T ?_
 refine sq (am (l:=(aK e1 a1 c1 a2 c2 a3 c3)) rfl et gP rfl aB (hI.kblk (l:=(aK e1 a1 c1 a2 c2 a3 c3)) .z rfl).1) ?_
 refine sB h (fun _ k=>zb hI.lt FS k) (Rc Tryz.func161) fun r1 w2 h hI=> ?_
 refine sq (JX rfl et af) ?_
 exact RF
theorem xd (hF:dL F w0) {e1:ac} (hc:AllCl [Cl.sl ag a1 c1 e1.Lin.L,Cl.sl ai a2 c2 e1.Idx,Cl.sl al a3 c3 e1.Args] F w0) {r:Bool} (h:lq e1=some r):CR F w0 162 #[(Value.agg (an e1 a1 c1 a2 c2 a3 c3))] (vb r) []:=by
 refine EN Tryz.func162 Tryz.ntmps162 hF hc fun hI=> ?_
 rw[lq]at h
 refine sr (lX fun b1 c5 w1 hI=> ?_)
 refine tS ?_
 refine nk (aj (sr (sq (ao rfl et gP rfl jk rfl) ?_)))
 refine sq (aO (v:=(vi e1.Op)) rfl et u3 rfl (hI.kblk (l:=[vi e1.Op]) .z rfl).1) ?_
 refine sq (oY rfl et af) ?_
 refine sm ?_
 refine ar (bo rfl rfl rfl rfl) rfl (fun hc=>ao rfl et gP rfl jk rfl) ?_
 refine ar (bo rfl rfl rfl rfl) rfl (fun hc=>(aO (v:=(vi e1.Op)) rfl (aF et hc) u3 rfl (hI.kblk (l:=[vi e1.Op]) .z rfl).1)) ?_
 refine ar (bo rfl rfl rfl rfl) rfl (fun hc=>qh rfl (aF et hc) af) ?_
 refine sq (un rfl et et) ?_
 refine TC (fun hb h=> ?_) fun hb h=> ?_
 ·refine sr (tS ?_)
  refine nk (aJ ?_)
  obtain rfl:=ak h
  exact fr (vs:=[vb false]) Tryz.results162 ⟨aI rfl rfl,trivial⟩ (fq hI trivial)
 refine aT (aS (aj (sr (sq (ao rfl et gP rfl jk rfl) ?_))))
 refine sq (aO (v:=(vi e1.Op)) rfl et u3 rfl (hI.kblk (l:=[vi e1.Op]) .z rfl).1) ?_
 refine sq (nJ rfl et af) ?_
 refine sm ?_
 refine ar (aV rfl rfl rfl rfl) rfl (fun hc=>ao rfl et gP rfl jI rfl) ?_
 refine ar (aV rfl rfl rfl rfl) rfl (fun hc=>(am (l:=(mA e1.Val)) rfl (aF et hc) Cs rfl jI (hI.kblk (l:=(mA e1.Val)) .z rfl).1)) ?_
 refine ar (aV rfl rfl rfl rfl) rfl (fun hc=>aH (vs:=[]) (cs:=#[vi 0,vi 0]) rfl trivial (by kernel_rfl)) ?_
 refine ar (aV rfl rfl rfl rfl) rfl (fun hc=>iB rfl (aF et hc) (aF et hc) (sP ..) (rL ..)) ?_
 refine sq (qi rfl et et) ?_
 refine sm ?_
 refine ar (bo rfl rfl rfl rfl) rfl (fun hc=>ao rfl et gP rfl jk rfl) ?_
 refine ar (bo rfl rfl rfl rfl) rfl (fun hc=>(aO (v:=(vi e1.Op)) rfl (aF et hc) u3 rfl (hI.kblk (l:=[vi e1.Op]) .z rfl).1)) ?_
 refine ar (bo rfl rfl rfl rfl) rfl (fun hc=>nJ rfl (aF et hc) af) ?_
 refine ar (bo rfl rfl rfl rfl) rfl (fun hc=>eF rfl (aF et hc)) ?_
 refine ar (gZ rfl rfl rfl rfl) rfl (fun hc=>ao rfl et gP rfl jk rfl) ?_
 refine ar (gZ rfl rfl rfl rfl) rfl (fun hc=>(aO (v:=(vi e1.Op)) rfl (aF et hc) u3 rfl (hI.kblk (l:=[vi e1.Op]) .z rfl).1)) ?_
 refine ar (gZ rfl rfl rfl rfl) rfl (fun hc=>nJ rfl (aF et hc) af) ?_
 refine ar (bo rfl rfl rfl rfl) rfl (fun hc=>uU rfl hc et et) ?_
 refine ar (bo rfl rfl rfl rfl) rfl (fun hc=>eF rfl (aF et hc)) ?_
 refine ar (gZ rfl rfl rfl rfl) rfl (fun hc=>ao rfl et gP rfl cO rfl) ?_
 refine ar (gZ rfl rfl rfl rfl) rfl (fun hc=>(am (l:=(cH e1.Type_)) rfl (aF et hc) qc rfl cO (hI.kblk (l:=(cH e1.Type_)) .z rfl).1)) ?_
 refine ar (gZ rfl rfl rfl rfl) rfl (fun hc=>aH (vs:=[]) (cs:=ya) rfl trivial (by kernel_rfl)) ?_
 refine ar (gZ rfl rfl rfl rfl) rfl (fun hc=>iB rfl (aF et hc) (aF et hc) (sO ..) (pN ..)) ?_
 refine ar (bo rfl rfl rfl rfl) rfl (fun hc=>uU rfl hc et et) ?_
 refine sq (un rfl et et) ?_
 refine aG ?_
 refine mN (e:=[(1,vp b1 0),(37,(vb (((!decide (e1.Op=1))&&(!((decide (e1.Val.N=0))&&(decide (e1.Val.D=0)))))||(((!decide (e1.Op=1))&&(!decide (e1.Op=12)))&&(!((decide (e1.Type_.Kind=0))&&(decide (e1.Type_.Bits=0))&&(decide (e1.Type_.Frac=0))&&(decide (e1.Type_.Round=0))&&(decide (e1.Type_.Over=0))))))))]) SB ?_
 refine TC (fun hb h=> ?_) fun hb h=> ?_
 ·refine sr (tS ?_)
  refine nk (aJ ?_)
  obtain rfl:=ak h
  exact fr (vs:=[vb false]) Tryz.results162 ⟨aI rfl rfl,trivial⟩ (fq hI trivial)
 refine aT (aS (aj (sr (sq (ao rfl et gP rfl jk rfl) ?_))))
 refine sq (aO (v:=(vi e1.Op)) rfl et u3 rfl (hI.kblk (l:=[vi e1.Op]) .z rfl).1) ?_
 refine sq (nJ rfl et af) ?_
 refine sm ?_
 refine ar (aV rfl rfl rfl rfl) rfl (fun hc=>ao rfl et gP rfl bk rfl) ?_
 refine ar (aV rfl rfl rfl rfl) rfl (fun hc=>ao rfl (aF et hc) oH rfl Bk rfl) ?_
 refine ar (aV rfl rfl rfl rfl) rfl (fun hc=>(aO (v:=(vi e1.Lin.K)) rfl (aF et hc) u2 rfl (hI.kblk (l:=[vi e1.Lin.K]) .z rfl).1)) ?_
 refine ar (aV rfl rfl rfl rfl) rfl (fun hc=>nJ rfl (aF et hc) af) ?_
 refine ar (aV rfl rfl rfl rfl) rfl (fun hc=>eF rfl (aF et hc)) ?_
 refine ar (fS rfl rfl rfl rfl) rfl (fun hc=>ao rfl et gP rfl bk rfl) ?_
 refine ar (fS rfl rfl rfl rfl) rfl (fun hc=>ao rfl (aF et hc) oH rfl qT rfl) ?_
 refine ar (fS rfl rfl rfl rfl) rfl (fun hc=>(aO (v:=(vs a1 e1.Lin.L.length c1)) rfl (aF et hc) wJ rfl (hI.kblk (l:=[vs a1 e1.Lin.L.length c1]) .z rfl).1)) ?_
 refine ar (fS rfl rfl rfl rfl) rfl (fun hc=>jc rfl wJ (aF et hc)) ?_
 refine ar (fS rfl rfl rfl rfl) rfl (fun hc=>qh rfl (aF et hc) af) ?_
 refine ar (aV rfl rfl rfl rfl) rfl (fun hc=>zI rfl hc et et) ?_
 refine sq (qi rfl et et) ?_
 refine sm ?_
 refine ar (bo rfl rfl rfl rfl) rfl (fun hc=>ao rfl et gP rfl jk rfl) ?_
 refine ar (bo rfl rfl rfl rfl) rfl (fun hc=>(aO (v:=(vi e1.Op)) rfl (aF et hc) u3 rfl (hI.kblk (l:=[vi e1.Op]) .z rfl).1)) ?_
 refine ar (bo rfl rfl rfl rfl) rfl (fun hc=>nJ rfl (aF et hc) af) ?_
 refine ar (bo rfl rfl rfl rfl) rfl (fun hc=>eF rfl (aF et hc)) ?_
 refine ar (gZ rfl rfl rfl rfl) rfl (fun hc=>ao rfl et gP rfl tr rfl) ?_
 refine ar (gZ rfl rfl rfl rfl) rfl (fun hc=>(aO (v:=(str e1.Name)) rfl (aF et hc) u9 rfl (hI.kblk (l:=[(str e1.Name)]) .z rfl).1)) ?_
 refine ar (gZ rfl rfl rfl rfl) rfl (fun hc=>Ce rfl (aF et hc) af) ?_
 refine ar (gZ rfl rfl rfl rfl) rfl (fun hc=>eF rfl (aF et hc)) ?_
 refine ar (fS rfl rfl rfl rfl) rfl (fun hc=>ao rfl et gP rfl lV rfl) ?_
 refine ar (fS rfl rfl rfl rfl) rfl (fun hc=>(aO (v:=(vs a2 e1.Idx.length c2)) rfl (aF et hc) rX rfl (hI.kblk (l:=[vs a2 e1.Idx.length c2]) .z rfl).1)) ?_
 refine ar (fS rfl rfl rfl rfl) rfl (fun hc=>jc rfl rX (aF et hc)) ?_
 refine ar (fS rfl rfl rfl rfl) rfl (fun hc=>qh rfl (aF et hc) af) ?_
 refine ar (gZ rfl rfl rfl rfl) rfl (fun hc=>zI rfl hc et et) ?_
 refine ar (bo rfl rfl rfl rfl) rfl (fun hc=>uU rfl hc et et) ?_
 refine sq (un rfl et et) ?_
 refine aG ?_
 refine mN (e:=[(1,vp b1 0),(69,(vb (((!decide (e1.Op=2))&&((!decide (e1.Lin.K=0))||(decide (0<(e1.Lin.L.length:Int)))))||((!decide (e1.Op=3))&&((!decide (e1.Name=([]:List UInt8)))||(decide (0<(e1.Idx.length:Int))))))))]) SB ?_
 refine TC (fun hb h=> ?_) fun hb h=> ?_
 ·refine sr (tS ?_)
  refine nk (aJ ?_)
  obtain rfl:=ak h
  exact fr (vs:=[vb false]) Tryz.results162 ⟨aI rfl rfl,trivial⟩ (fq hI trivial)
 refine aT (aS (aj (sr (tS ?_))))
 refine nk (la (bh (α:=Nat×Int) (fun x=>fun w=>∃ C,Bun d7 F w0 C w [] [Cl.blk b1 39 (an e1 a1 c1 a2 c2 a3 c3),Cl.sl ag a1 c1 e1.Lin.L,Cl.sl ai a2 c2 e1.Idx,Cl.sl al a3 c3 e1.Args]∧eo e1 (x.1) (x.2)=some r) (fun x _=>x.1) (fun x=>[(1,vp b1 0),(3,vi (x.2))]) (fu,0) BH SB ?_))
 clear h hI;rintro⟨fuel1,i1⟩ w2 ⟨c6,hI,h⟩
 dsimp only at hI h ⊢
 rcases fuel1 with _ | fuel1
 ·rw[eo]at h;cases h
 rw[eo]at h
 refine aj (sr (sm ?_))
 refine sq (ao rfl et gP rfl lV rfl) ?_
 refine sq (aO (v:=(vs a2 e1.Idx.length c2)) rfl et rX rfl (hI.kblk (l:=[vs a2 e1.Idx.length c2]) .z rfl).1) ?_
 refine sq (jc rfl rX et) ?_
 refine sq (oY rfl et et) ?_
 refine TC (fun hb h=> ?_) fun hb h=> ?_
 ·refine aT (aS (aj (la (sr (sq (ao rfl et gP rfl lV rfl) ?_)))))
  refine sq (aO (v:=(vs a2 e1.Idx.length c2)) rfl et rX rfl (hI.kblk (l:=[vs a2 e1.Idx.length c2]) .z rfl).1) ?_
  refine sm ?_
  obtain⟨e2,hx1,h⟩:=ab h
  obtain⟨ad1,cs1,hA1,hr1,hq1⟩:=hI.clat (.s (.s .z)) hx1
  obtain⟨a4,c7,a5,c8,rfl,hf1,hf2⟩:=hr1
  have hI:=hI.ads hf1
  have hI:=hI.ads hf2
  refine sq (hO rfl rX kr et et (nq hx1) hA1) ?_
  refine sq (am (l:=(nR e2 a4 c7 a5 c8)) rfl et mY rfl kr hq1.1) ?_
  refine lN fun b2 c9 w3 hI=> ?_
  refine lA fun c10 w4 hI=> ?_
  refine nk (sr (sq (ao rfl et mY rfl tr rfl) ?_))
  refine sq (aO (v:=(str e2.From)) rfl et u9 rfl (CellsAt.of_blk (hI.blk .z) rfl)) ?_
  refine sq (Ci rfl et af) ?_
  refine sm ?_
  refine ar (aV rfl rfl rfl rfl) rfl (fun hc=>ao rfl et mY rfl ow rfl) ?_
  refine ar (aV rfl rfl rfl rfl) rfl (fun hc=>(aO (v:=(vs a5 e2.At.length c8)) rfl (aF et hc) A7 rfl (CellsAt.of_blk (hI.blk .z) rfl))) ?_
  refine ar (aV rfl rfl rfl rfl) rfl (fun hc=>jc rfl A7 (aF et hc)) ?_
  refine ar (aV rfl rfl rfl rfl) rfl (fun hc=>qh rfl (aF et hc) af) ?_
  refine sq (qi rfl et et) ?_
  refine sm ?_
  refine ar (bo rfl rfl rfl rfl) rfl (fun hc=>ao rfl et mY rfl tr rfl) ?_
  refine ar (bo rfl rfl rfl rfl) rfl (fun hc=>(aO (v:=(str e2.From)) rfl (aF et hc) u9 rfl (CellsAt.of_blk (hI.blk .z) rfl))) ?_
  refine ar (bo rfl rfl rfl rfl) rfl (fun hc=>Ce rfl (aF et hc) af) ?_
  refine ar (bo rfl rfl rfl rfl) rfl (fun hc=>eF rfl (aF et hc)) ?_
  refine ar (gZ rfl rfl rfl rfl) rfl (fun hc=>ao rfl et mY rfl bk rfl) ?_
  refine ar (gZ rfl rfl rfl rfl) rfl (fun hc=>ao rfl (aF et hc) oH rfl Bk rfl) ?_
  refine ar (gZ rfl rfl rfl rfl) rfl (fun hc=>(aO (v:=(vi e2.Lin.K)) rfl (aF et hc) u2 rfl (CellsAt.of_blk (hI.blk .z) rfl))) ?_
  refine ar (gZ rfl rfl rfl rfl) rfl (fun hc=>nJ rfl (aF et hc) af) ?_
  refine ar (gZ rfl rfl rfl rfl) rfl (fun hc=>eF rfl (aF et hc)) ?_
  refine ar (fS rfl rfl rfl rfl) rfl (fun hc=>ao rfl et mY rfl bk rfl) ?_
  refine ar (fS rfl rfl rfl rfl) rfl (fun hc=>ao rfl (aF et hc) oH rfl qT rfl) ?_
  refine ar (fS rfl rfl rfl rfl) rfl (fun hc=>(aO (v:=(vs a4 e2.Lin.L.length c7)) rfl (aF et hc) wJ rfl (CellsAt.of_blk (hI.blk .z) rfl))) ?_
  refine ar (fS rfl rfl rfl rfl) rfl (fun hc=>jc rfl wJ (aF et hc)) ?_
  refine ar (fS rfl rfl rfl rfl) rfl (fun hc=>qh rfl (aF et hc) af) ?_
  refine ar (gZ rfl rfl rfl rfl) rfl (fun hc=>zI rfl hc et et) ?_
  refine ar (bo rfl rfl rfl rfl) rfl (fun hc=>uU rfl hc et et) ?_
  refine sq (un rfl et et) ?_
  refine aG ?_
  refine mN (e:=[(1,vp b1 0),(3,vi i1),(108,(vb (((decide (e2.From=([]:List UInt8)))&&(decide (0<(e2.At.length:Int))))||((!decide (e2.From=([]:List UInt8)))&&((!decide (e2.Lin.K=0))||(decide (0<(e2.Lin.L.length:Int))))))))]) SB ?_
  refine TC (fun hb h=> ?_) fun hb h=> ?_
  ·refine sr (tS ?_)
   refine nk (aJ ?_)
   obtain rfl:=ak h
   exact fr (vs:=[vb false]) Tryz.results162 ⟨aI rfl rfl,trivial⟩ (fq hI trivial)
  refine aT (aS (iv rfl ?_))
  refine sm ?_
  refine sq (lO rfl et af) ?_
  refine sa ?_
  refine aG ?_
  exact kl (fuel1,au (i1+1))
 refine bp ?_
 refine fE ?_
 refine aS (sr (tS ?_))
 refine nk (aJ ?_)
 obtain rfl:=ak h
 exact fr (vs:=[vb true]) Tryz.results162 ⟨aI rfl rfl,trivial⟩ (fq hI trivial)
theorem xe (hF:dL F w0) {e1:ac} (hc:AllCl [Cl.sl ag a1 c1 e1.Lin.L,Cl.sl ai a2 c2 e1.Idx,Cl.sl al a3 c3 e1.Args] F w0) {r:Bool} (h:lr e1=some r):CR F w0 163 #[(Value.agg (an e1 a1 c1 a2 c2 a3 c3))] (vb r) []:=by
 refine EN Tryz.func163 Tryz.ntmps163 hF hc fun hI=> ?_
 rw[lr]at h
 refine sr (lX fun b1 c5 w1 hI=> ?_)
 refine T ?_
 refine aj (T ?_)
 obtain⟨r1,hx1,h⟩:=ab h
 replace hx1:=aC hx1
 refine sU (fun hc=>oF hI.lt trivial (hx1 hc)) (Rg Tryz.func61) fun w2 hI=> ?_
 refine TR fun hb h=> ?_
 refine T ?_
 refine aj (T ?_)
 refine bh (α:=Nat×Int) (fun x=>fun w=>∃ C,Bun d7 F w0 C w [] [Cl.blk b1 39 (an e1 a1 c1 a2 c2 a3 c3),Cl.sl ag a1 c1 e1.Lin.L,Cl.sl ai a2 c2 e1.Idx,Cl.sl al a3 c3 e1.Args]∧ep e1 (x.1) (x.2)=some r) (fun x _=>x.1) (fun x=>[(1,vp b1 0),(3,vi (x.2))]) (fu,0) BH SB ?_
 clear h hI;rintro⟨fuel1,i1⟩ w3 ⟨c6,hI,h⟩
 dsimp only at hI h ⊢
 rcases fuel1 with _ | fuel1
 ·rw[ep]at h;cases h
 rw[ep]at h
 refine aj (T ?_)
 refine TC (fun hb h=> ?_) fun hb h=> ?_
 ·refine T ?_
  refine aj (T ?_)
  obtain⟨e2,hx3,h⟩:=ab h
  obtain⟨ad1,cs1,hA1,hr1,hq1⟩:=hI.clat (.s (.s .z)) hx3
  obtain⟨a4,c7,a5,c8,rfl,hf1,hf2⟩:=hr1
  have hI:=hI.ads hf1
  have hI:=hI.ads hf2
  refine sI ?_
  refine T ?_
  obtain⟨e3,hx4,h⟩:=ab h
  replace hx4:=aC hx4
  obtain⟨ad2,cs2,hq2⟩:=hI.gclat (.s (.s (.s (.s .z)))) hx4
  obtain⟨a6,c9,a7,c10,hq3⟩:∃ (a6:Option Addr) (c9:Nat) (a7:Option Addr) (c10:Nat),(!decide (e2.From=([]:List UInt8)))=true→(a2=some ad2∧cs2=(nR e3 a6 c9 a7 c10)∧CA (Dj F c6) w3 (ad2.add (Int.toNat i1 * 4)) cs2∧SlC ag (Dj F c6) w3 a6 c9 e3.Lin.L∧SlC ga (Dj F c6) w3 a7 c10 e3.At):=by
   by_cases hc:(!decide (e2.From=([]:List UInt8)))=true
   ·obtain⟨k1,k2,k3⟩:=hq2 hc;obtain⟨a6,c9,a7,c10,rfl,hf3,hf4⟩:=k2;exact⟨a6,c9,a7,c10,fun _=>⟨k1,rfl,k3,hf3,hf4⟩⟩
   exact⟨default,default,default,default,fun k=>absurd k hc⟩
  clear hq2
  have hI:=hI.add (c:=Cl.gsl (!decide (e2.From=([]:List UInt8))) ag a6 c9 e3.Lin.L) (fun hc=>(hq3 hc).2.2.2.1)
  have hI:=hI.add (c:=Cl.gsl (!decide (e2.From=([]:List UInt8))) ga a7 c10 e3.At) (fun hc=>(hq3 hc).2.2.2.2)
  have hq4:(!decide (e2.From=([]:List UInt8)))=true→CA (Dj F c6) w3 (ad2.add (Int.toNat i1 * 4)) (nR e3 a6 c9 a7 c10):=fun hc=>wR (hq3 hc).2.1 (hq3 hc).2.2.1
  refine sJ ?_
  refine T ?_
  obtain⟨r2,hx5,h⟩:=ab h
  replace hx5:=aC hx5
  refine sU (fun hc=>oF hI.lt trivial (hx5 hc)) (Rg Tryz.func61) fun w4 hI=> ?_
  refine TR fun hb h=> ?_
  refine T ?_
  refine aG ?_
  exact kl (fuel1,au (i1+1))
 refine bp ?_
 refine fE ?_
 refine aS ?_
 exact RF
theorem zd (hF:dL F w0) {op1:Int} (hc:AllCl [] F w0) {r:Int} (h:ma op1=some r):CR F w0 212 #[vi op1] (vi r) []:=by
 refine EN Tryz.func212 Tryz.ntmps212 hF hc fun hI=> ?_
 rw[ma]at h
 refine T ?_
 refine aj (T ?_)
 refine bJ (α:=Bool) (fun _=>⟨14,[]⟩) (fun x=>[(3,vi op1),(4,vb x)]) (fun x=>fun w=>∃ C,Bun d7 F w0 C w [] []∧iI op1 x=some r) ?_ ?_
 ·clear h hI;rintro i1 w1 ⟨c1,hI,h⟩
  try dsimp only at hI h ⊢
  rw[iI]at h
  refine TR fun hb h=> ?_
  refine bJ (α:=Bool) (fun _=>⟨14,[]⟩) (fun x=>[(3,vi op1),(8,vb x)]) (fun x=>fun w=>∃ C,Bun d7 F w0 C w [] []∧iH op1 x=some r) ?_ ?_
  ·clear h hI;rintro i2 w2 ⟨c2,hI,h⟩
   try dsimp only at hI h ⊢
   rw[iH]at h
   refine TR fun hb h=> ?_
   refine TR fun hb h=> ?_
   exact RF
  refine TC (fun hb h=> ?_) fun hb h=> ?_
  ·exact aT (br (decide (op1=8)) SB BH rfl)
  refine TC (fun hb h=> ?_) fun hb h=> ?_
  ·exact aT (br (decide (op1=12)) SB BH rfl)
  refine T ?_
  refine aG ?_
  exact kj (decide (op1=18))
 refine TC (fun hb h=> ?_) fun hb h=> ?_
 ·exact aT (br (decide (op1=1)) SB BH rfl)
 refine TC (fun hb h=> ?_) fun hb h=> ?_
 ·exact aT (br (decide (op1=2)) SB BH rfl)
 refine T ?_
 refine aG ?_
 exact kj (decide (op1=3))
theorem wj (hF:dL F w0) {e1:ac} (hc:AllCl [Cl.sl ag a1 c1 e1.Lin.L,Cl.sl ai a2 c2 e1.Idx,Cl.sl al a3 c3 e1.Args] F w0) {r:Bool} (h:kz e1=some r):CR F w0 164 #[(Value.agg (an e1 a1 c1 a2 c2 a3 c3))] (vb r) []:=by
 refine EN Tryz.func164 Tryz.ntmps164 hF hc fun hI=> ?_
 rw[kz]at h
 refine sr (lX fun b1 c5 w1 hI=> ?_)
 refine T ?_
 refine aj (aj (aP [] false (.c (0,.q) (.c (1,.q) (.c (2,.q) (.c (3,.q) (.c (4,.q) (.c (5,.s) (.c (6,.q) (.c (7,.q) (.c (8,.q) (.c (9,.q) (.c (10,.q) (.c (11,.q) (.c (12,.q) .n))))))))))))) hI (by kernel_rfl) (by kernel_rfl) ?_))
 intro w2 hI
 refine V ?_
 obtain⟨r1,hx1,h⟩:=ab h
 refine bN rfl gn rfl (ax (vs:=[vi e1.Op]) rfl IQ ⟨et,trivial⟩) (Calls.mono (zd hI.lt trivial hx1) ?_)
 rintro _ w3 ⟨rfl,hx2,hl1⟩
 refine⟨_,rfl,hx2,?_⟩
 replace hI:=(hI.ext hx2)
 refine V ?_
 refine TR fun hb h=> ?_
 refine T ?_
 refine aj (T ?_)
 refine bh (α:=Nat×Int) (fun x=>fun w=>∃ C,Bun d7 F w0 C w [] [Cl.blk b1 39 (an e1 a1 c1 a2 c2 a3 c3),Cl.sl ag a1 c1 e1.Lin.L,Cl.sl ai a2 c2 e1.Idx,Cl.sl al a3 c3 e1.Args]∧dU e1 (x.1) (x.2)=some r) (fun x _=>x.1) (fun x=>[(1,vp b1 0),(3,vi (x.2))]) (fu,0) BH SB ?_
 clear h hI;rintro⟨fuel1,i1⟩ w4 ⟨c6,hI,h⟩
 dsimp only at hI h ⊢
 rcases fuel1 with _ | fuel1
 ·rw[dU]at h;cases h
 rw[dU]at h
 refine aj (T ?_)
 refine TC (fun hb h=> ?_) fun hb h=> ?_
 ·refine T ?_
  refine aj (T ?_)
  obtain⟨e2,hx3,h⟩:=ab h
  obtain⟨ad1,cs1,hA1,hr1,hq1⟩:=hI.clat (.s (.s .z)) hx3
  obtain⟨a4,c7,a5,c8,rfl,hf1,hf2⟩:=hr1
  have hI:=hI.ads hf1
  have hI:=hI.ads hf2
  refine sI ?_
  refine TR fun hb h=> ?_
  refine T ?_
  refine aG ?_
  exact kl (fuel1,au (i1+1))
 refine bp ?_
 refine fE ?_
 refine aS ?_
 exact RF
end Go.Proofs.YtmhoikfoogemnaaGreatDoor
