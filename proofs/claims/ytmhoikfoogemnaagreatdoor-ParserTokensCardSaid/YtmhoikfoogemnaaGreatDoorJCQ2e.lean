import Derived.Test.YtmhoikfoogemnaaGreatDoorJCQ2d
import Derived.Test.YtmhoikfoogemnaaGreatDoorJLfJ
namespace Go.Proofs.YtmhoikfoogemnaaGreatDoor
open Go Go.RowKit Go.Vc
set_option maxRecDepth 100000
set_option maxHeartbeats 4000000
set_option linter.unusedVariables false
set_option linter.unusedSimpArgs false
def cF:Tr:=(.c (4,.s) (.c (5,.q) (.c (6,.s) .n)))
variable {σ:Type} {C0 F:NP} {w0:World} {a1 a2 a3 a4 a5 a6 a7 a8 a9 a10 a11 a12:Option Addr} {b1 b2 b3 b4 b5 b6 b7 b8 b9 b10 b11 b12 c1 c2 c3 c4 c5 c6 c7 c8 c9 c10 c11 c12:Nat}
theorem pi {rec_:(aa→Option (bu (GExpr×aa)))} (hrec:xI rec_) {r1:aa} {signs1:List (List UInt8)} {ops1:List Int} (hI:Bun C0 F w0 C0 w0 [MO.box b1 67 (af r1 a1 c1)] [Cl.sl cGToken a1 c1 r1.l,Cl.sl cStr a2 c2 signs1,Cl.sl (cInt .i64) a3 c3 ops1,au]) {r:bu (GExpr×aa)} (h:gO rec_ r1 signs1 ops1=some r):CP C0 F w0 74 #[vp b1 0,(Value.func (.func 140) #[vp b1 0] #[]),vs a2 signs1.length c2,vs a3 ops1.length c3] r fun rx e w=>∃ a4 c4 a5 c5 a6 c6 a7 c7 C,e= .returned (Value.agg (ap rx.1 a4 c4 a5 c5 a6 c6))∧Bun C0 F w0 C w [MO.box b1 67 (af rx.2 a7 c7)] [Cl.sl ah a4 c4 rx.1.Lin.L,Cl.sl ak a5 c5 rx.1.Idx,Cl.sl an a6 c6 rx.1.Args,Cl.sl cGToken a7 c7 rx.2.l]:=by
 refine fG (l:=[vp b1 0,(Value.func (.func 140) #[vp b1 0] #[]),vs a2 signs1.length c2,vs a3 ops1.length c3]) Tryz.func74 rfl Tryz.ntmps74 rfl ?_
 rw[gO]at h
 refine sr (cU (cs:=#[vi 0,(str ([]:List UInt8)),vi 0,vi 0,vi 0,vi 0,vi 0,vi 0,vi 0,vi 0,vs none 0 0,vs none 0 0,vs none 0 0]) hI gn rfl rfl dQ rfl ?_)
 intro b2 c8 w1 hI
 refine T ?_
 obtain⟨c9,f1,hB,hl1,hk1⟩:=hI.hands (.r (.l .n))
 refine ew h (fun _ hx1=>gA hrec HS hx1) (li hk1) (gx (fs:=[vp b1 0]) (vs:=[]) (cap:=[]) rfl et vv trivial) ?_
 rintro⟨r2,s1⟩ hx1 h _ w2 ⟨a8,c10,a9,c11,a10,c12,a11,c13,c14,rfl,hB2⟩
 try dsimp only at h
 refine HN hk1 hB2 fun c15 hI=> ?_
 refine⟨_,rfl,?_⟩
 refine lN fun b3 c16 w3 hI=> ?_
 refine lA fun c17 w4 hI=> ?_
 refine T ?_
 refine bc (α:=Nat×aa×GExpr×(Option Addr)×Nat×(Option Addr)×Nat×(Option Addr)×Nat×(Option Addr)×Nat) (fun x=>fun w=>∃ C,Bun C0 F w0 C w [MO.box b1 67 (af (x.2.1) (x.2.2.2.1) (x.2.2.2.2.1)),MO.box b2 39 #[vi 0,(str ([]:List UInt8)),vi 0,vi 0,vi 0,vi 0,vi 0,vi 0,vi 0,vi 0,vs none 0 0,vs none 0 0,vs none 0 0],MO.box b3 39 (ap (x.2.2.1) (x.2.2.2.2.2.1) (x.2.2.2.2.2.2.1) (x.2.2.2.2.2.2.2.1) (x.2.2.2.2.2.2.2.2.1) (x.2.2.2.2.2.2.2.2.2.1) (x.2.2.2.2.2.2.2.2.2.2))] [Cl.sl cGToken (x.2.2.2.1) (x.2.2.2.2.1) (x.2.1).l,Cl.sl ah (x.2.2.2.2.2.1) (x.2.2.2.2.2.2.1) (x.2.2.1).Lin.L,Cl.sl ak (x.2.2.2.2.2.2.2.1) (x.2.2.2.2.2.2.2.2.1) (x.2.2.1).Idx,Cl.sl an (x.2.2.2.2.2.2.2.2.2.1) (x.2.2.2.2.2.2.2.2.2.2) (x.2.2.1).Args,Cl.sl cStr a2 c2 signs1,Cl.sl (cInt .i64) a3 c3 ops1,au]∧bB signs1 ops1 rec_ (x.1) (x.2.1) (x.2.2.1)=some r) (fun x _=>x.1) (fun x=>[(0,vp b1 0),(1,(Value.func (.func 140) #[vp b1 0] #[])),(2,vs a2 signs1.length c2),(3,vs a3 ops1.length c3),(8,vp b2 0),(9,vp b3 0)]) (fu,s1,r2,a11,c13,a8,c10,a9,c11,a10,c12) ⟨_,hI.arr (.c (.s .z) (.c (.s .z) (.c .z .n))) ⟨(.s (.s (.s .z))),.z,(.s .z),(.s (.s .z)),(.s (.s (.s (.s (.s .z))))),(.s (.s (.s (.s (.s (.s .z)))))),(.s (.s (.s (.s (.s (.s (.s .z))))))),trivial⟩,h⟩ ⟨rfl,rfl,rfl,rfl,rfl,rfl,trivial⟩ ?_
 clear h hI;rintro⟨fuel1,r3,e1,a12,c18,a13,c19,a14,c20,a15,c21⟩ w5 ⟨c22,hI,h⟩
 dsimp only at hI h ⊢
 rcases fuel1 with _ | fuel1
 ·rw[bB]at h;cases h
 rw[bB]at h
 refine T ?_
 refine bw (α:=Int×aa×(Option Addr)×Nat) (fun _=>⟨43,[]⟩) (fun x=>[(0,vp b1 0),(1,(Value.func (.func 140) #[vp b1 0] #[])),(2,vs a2 signs1.length c2),(3,vs a3 ops1.length c3),(8,vp b2 0),(9,vp b3 0),(10,vi (x.1))]) (fun x=>fun w=>∃ C,Bun C0 F w0 C w [MO.box b1 67 (af (x.2.1) (x.2.2.1) (x.2.2.2)),MO.box b2 39 #[vi 0,(str ([]:List UInt8)),vi 0,vi 0,vi 0,vi 0,vi 0,vi 0,vi 0,vi 0,vs none 0 0,vs none 0 0,vs none 0 0],MO.box b3 39 (ap e1 a13 c19 a14 c20 a15 c21)] [Cl.sl cGToken (x.2.2.1) (x.2.2.2) (x.2.1).l,Cl.sl cStr a2 c2 signs1,Cl.sl (cInt .i64) a3 c3 ops1,Cl.sl ah a13 c19 e1.Lin.L,Cl.sl ak a14 c20 e1.Idx,Cl.sl an a15 c21 e1.Args,au]∧iz e1 rec_ (bB signs1 ops1 rec_ fuel1) (x.1) (x.2.1)=some r) ?_ ?_
 ·clear h hI;rintro⟨op1,r4,a16,c23⟩ w6 ⟨c24,hI,h⟩
  try dsimp only at hI h ⊢
  rw[iz]at h
  refine al (T ?_)
  refine TC (fun hb h=> ?_) fun hb h=> ?_
  ·refine T ?_
   refine lA fun c25 w7 hI=> ?_
   refine nk (az ?_)
   obtain rfl:=ai h
   exact eG (vs:=[(Value.agg (ap e1 a13 c19 a14 c20 a15 c21))]) Tryz.results74 ⟨⟨_,aH rfl rfl,cg (l:=(aU e1 a13 c19 a14 c20 a15 c21)) jy rfl aC (CellsAt.of_blk (hI.blk (.s .z)) rfl)⟩,trivial⟩ (.inl ⟨_,rfl,a13,c19,a14,c20,a15,c21,a16,c23,_,rfl,hI.arr (.c .z .n) ⟨(.s (.s (.s .z))),(.s (.s (.s (.s .z)))),(.s (.s (.s (.s (.s .z))))),.z,trivial⟩⟩)
  refine T ?_
  rcases ir h with⟨⟨r5,s2⟩,hx2,h⟩ | ⟨pa_,pn_,hx2,hp_⟩
  rotate_left
  ·subst hp_
   refine aD [3,6] false (.c (0,.q) (.c (2,.q) (.two 1 (.c (3,.s) cF) 3 (.c (1,.s) cF)))) hI (by kernel_rfl) (by kernel_rfl) ?_
   intro w12 hI
   refine V ?_
   refine cK ?_ ?_
   ·skip
    refine be rfl gn rfl (am (l:=(aU e1 a13 c19 a14 c20 a15 c21)) rfl et jy rfl aC (CellsAt.of_blk (hI.blk (.s (.s .z))) rfl)) SX.self ?_
    refine bH (F:=F) (C:=c24) rfl rfl ?_
    obtain⟨c26,f2,hB,hl2,hk2⟩:=hI.hands (.l (.r (.r .n)))
    refine fa rfl gn rfl (gx (fs:=[vp b1 0]) (vs:=[]) (cap:=[]) rfl et vv trivial) (Calls.mono (gA hrec HS hx2) ?_)
    intro e_ w_ hq_;obtain⟨rfl,C_,hB_⟩:=eI hq_;obtain⟨C9_,-,hI_⟩:=hk2 _ _ _ _ hB_;exact .inr ⟨_,rfl,ip (.inr ⟨_,_,rfl,rfl,⟨_,hI_.arr .n trivial⟩⟩)⟩
   refine bo (F:=F) (C:=c24) rfl rfl ?_
   obtain⟨c26,f2,hB,hl2,hk2⟩:=hI.hands (.l (.r (.r .n)))
   refine fa rfl gn rfl (gx (fs:=[vp b1 0]) (vs:=[]) (cap:=[]) rfl et vv trivial) (Calls.mono (gA hrec HS hx2) ?_)
   intro e_ w_ hq_;obtain⟨rfl,C_,hB_⟩:=eI hq_;obtain⟨C9_,-,hI_⟩:=hk2 _ _ _ _ hB_;exact .inr ⟨_,rfl,ip (.inr ⟨_,_,rfl,rfl,⟨_,hI_.arr .n trivial⟩⟩)⟩
  try dsimp only at h
  refine aD [3,6] false (.c (0,.q) (.c (2,.q) (.two 1 (.c (3,.s) cF) 3 (.c (1,.s) cF)))) hI (by kernel_rfl) (by kernel_rfl) ?_
  intro w13 hI
  refine bP (α:=(Option Addr)×Nat×(Option Addr)×Nat×(Option Addr)×Nat×(Option Addr)×Nat×NP) (T:=cF) (fun x=>[(0,vp b1 0),(1,(Value.func (.func 140) #[vp b1 0] #[])),(2,vs a2 signs1.length c2),(3,vs a3 ops1.length c3),(8,vp b2 0),(9,vp b3 0),(10,vi op1),(34,vi op1),(35,(vb (decide (op1=0)))),(37,vi op1),(38,(Value.agg (ap e1 a13 c19 a14 c20 a15 c21))),(39,(Value.func (.func 140) #[vp b1 0] #[])),(40,(Value.agg (ap r5 (x.1) (x.2.1) (x.2.2.1) (x.2.2.2.1) (x.2.2.2.2.1) (x.2.2.2.2.2.1))))]) (fun x w=>Bun C0 F w0 (x.2.2.2.2.2.2.2.2) w [MO.box b1 67 (af s2 (x.2.2.2.2.2.2.1) (x.2.2.2.2.2.2.2.1)),MO.box b2 39 #[vi 0,(str ([]:List UInt8)),vi 0,vi 0,vi 0,vi 0,vi 0,vi 0,vi 0,vi 0,vs none 0 0,vs none 0 0,vs none 0 0],MO.box b3 39 (ap e1 a13 c19 a14 c20 a15 c21)] [Cl.sl ah (x.1) (x.2.1) r5.Lin.L,Cl.sl ak (x.2.2.1) (x.2.2.2.1) r5.Idx,Cl.sl an (x.2.2.2.2.1) (x.2.2.2.2.2.1) r5.Args,Cl.sl cGToken (x.2.2.2.2.2.2.1) (x.2.2.2.2.2.2.2.1) s2.l,Cl.sl cGToken a16 c23 r4.l,Cl.sl cStr a2 c2 signs1,Cl.sl (cInt .i64) a3 c3 ops1,Cl.sl ah a13 c19 e1.Lin.L,Cl.sl ak a14 c20 e1.Idx,Cl.sl an a15 c21 e1.Args,au]) (fun x w=>SN [] (DM true F (x.2.2.2.2.2.2.2.2)) w) ?_ ?_
  ·clear hI;rintro⟨a17,c27,a18,c28,a19,c29,a20,c30,c35⟩ w11 hI
   try dsimp only at hI ⊢
   unfold cF
   refine vl hI an ([e1,r5]:List GExpr) iY (.cs (dF ⟨a13,c19,a14,c20,a15,c21,rfl,hI.get (.s (.s (.s (.s (.s (.s (.s .z))))))),hI.get (.s (.s (.s (.s (.s (.s (.s (.s .z)))))))),hI.get (.s (.s (.s (.s (.s (.s (.s (.s (.s .z)))))))))⟩) (.cs (dF ⟨a17,c27,a18,c28,a19,c29,rfl,hI.get .z,hI.get (.s .z),hI.get (.s (.s .z))⟩) .nl)) fun b4 c33 w9 hI=> ?_
   refine kW rfl gn rfl (fun w'=>(aw (vs:=[(0,vi op1),(6,vs (some ⟨b4,0,none⟩) ([e1,r5]:List GExpr).length 2)]) (cs:=#[vi op1,(str ([]:List UInt8)),vi 0,vi 0,vi 0,vi 0,vi 0,vi 0,vi 0,vi 0,vs none 0 0,vs none 0 0,vs (some ⟨b4,0,none⟩) ([e1,r5]:List GExpr).length 2]) rfl ⟨rfl,et,⟨rfl,et,trivial⟩⟩ (by kernel_rfl))) ?_
   refine vA fun c34 w10 hI=> ?_
   refine nj ?_
   have hI:=hI.add (c:=Cl.sl ah none 0 ([]:List GMono)) SlC.nil
   have hI:=hI.add (c:=Cl.sl ak none 0 ([]:List GIndex)) SlC.nil
   obtain⟨c36,hI⟩:=hI.release .z
   exact jE (fuel1,s2,(⟨op1,([]:List UInt8),(⟨0,0⟩:GVal),(⟨0,0,0,0,0⟩:GType),(⟨0,([]:List GMono)⟩:GLin),([]:List GIndex),([e1,r5]:List GExpr)⟩:GExpr),a20,c30,none,0,none,0,some ⟨b4,0,none⟩,2) ⟨rfl,rfl,rfl,rfl,rfl,rfl,trivial⟩ ⟨_,hI.arr (.c .z (.c .z (.c .z .n))) ⟨(.s (.s (.s (.s (.s (.s .z)))))),(.s (.s .z)),(.s .z),.z,(.s (.s (.s (.s (.s (.s (.s (.s .z)))))))),(.s (.s (.s (.s (.s (.s (.s (.s (.s .z))))))))),(.s (.s (.s (.s (.s (.s (.s (.s (.s (.s (.s (.s (.s .z))))))))))))),trivial⟩,h⟩ (Nat.lt_succ_self _)
  intro hk_tr_parser_reader_chain_w2_3_0
  refine V ?_
  refine cK ?_ ?_
  ·skip
   refine be rfl gn rfl (am (l:=(aU e1 a13 c19 a14 c20 a15 c21)) rfl et jy rfl aC (CellsAt.of_blk (hI.blk (.s (.s .z))) rfl)) SX.self ?_
   refine bH (F:=F) (C:=c24) rfl rfl ?_
   obtain⟨c26,f2,hB,hl2,hk2⟩:=hI.hands (.l (.r (.r .n)))
   refine eZ rfl gn rfl (gx (fs:=[vp b1 0]) (vs:=[]) (cap:=[]) rfl et vv trivial) (Calls.mono (gA hrec HS hx2) ?_)
   intro e_ w8 hq_;obtain⟨a17,c27,a18,c28,a19,c29,a20,c30,c31,rfl,hB2⟩:=eH hq_
   obtain⟨c32,hs2,hI⟩:=hk2 _ _ _ _ hB2
   dsimp only[ca,na]at hI
   refine⟨_,rfl,DM true F c32,hs2,?_⟩
   exact aQ (hk_tr_parser_reader_chain_w2_3_0 (a17,c27,a18,c28,a19,c29,a20,c30,c32) _ (hI.arr (.c .z (.c .z (.c .z .n))) ⟨.z,(.s .z),(.s (.s .z)),(.s (.s (.s .z))),(.s (.s (.s (.s .z)))),(.s (.s (.s (.s (.s .z))))),(.s (.s (.s (.s (.s (.s .z)))))),(.s (.s (.s (.s (.s (.s (.s .z))))))),(.s (.s (.s (.s (.s (.s (.s (.s .z)))))))),(.s (.s (.s (.s (.s (.s (.s (.s (.s .z))))))))),(.s (.s (.s (.s (.s (.s (.s (.s (.s (.s .z)))))))))),trivial⟩)) ⟨rfl,rfl,rfl,rfl,rfl,rfl,rfl,rfl,rfl,rfl,rfl,rfl,rfl,trivial⟩
  refine bo (F:=F) (C:=c24) rfl rfl ?_
  obtain⟨c26,f2,hB,hl2,hk2⟩:=hI.hands (.l (.r (.r .n)))
  refine eZ rfl gn rfl (gx (fs:=[vp b1 0]) (vs:=[]) (cap:=[]) rfl et vv trivial) (Calls.mono (gA hrec HS hx2) ?_)
  intro e_ w8 hq_;obtain⟨a17,c27,a18,c28,a19,c29,a20,c30,c31,rfl,hB2⟩:=eH hq_
  obtain⟨c32,hs2,hI⟩:=hk2 _ _ _ _ hB2
  dsimp only[ca,na]at hI
  refine⟨_,rfl,DM true F c32,hs2,?_⟩
  refine be rfl gn rfl (am (l:=(aU e1 a13 c19 a14 c20 a15 c21)) rfl et jy rfl aC (CellsAt.of_blk (hI.blk (.s (.s .z))) rfl)) SX.self ?_
  exact aQ (hk_tr_parser_reader_chain_w2_3_0 (a17,c27,a18,c28,a19,c29,a20,c30,c32) _ (hI.arr (.c .z (.c .z (.c .z .n))) ⟨.z,(.s .z),(.s (.s .z)),(.s (.s (.s .z))),(.s (.s (.s (.s .z)))),(.s (.s (.s (.s (.s .z))))),(.s (.s (.s (.s (.s (.s .z)))))),(.s (.s (.s (.s (.s (.s (.s .z))))))),(.s (.s (.s (.s (.s (.s (.s (.s .z)))))))),(.s (.s (.s (.s (.s (.s (.s (.s (.s .z))))))))),(.s (.s (.s (.s (.s (.s (.s (.s (.s (.s .z)))))))))),trivial⟩)) ⟨rfl,rfl,rfl,rfl,rfl,rfl,rfl,rfl,rfl,rfl,rfl,rfl,rfl,trivial⟩
 refine T ?_
 refine bc (α:=Nat×Int×Int×aa×(Option Addr)×Nat) (fun x=>fun w=>∃ C,Bun C0 F w0 C w [MO.box b1 67 (af (x.2.2.2.1) (x.2.2.2.2.1) (x.2.2.2.2.2)),MO.box b2 39 #[vi 0,(str ([]:List UInt8)),vi 0,vi 0,vi 0,vi 0,vi 0,vi 0,vi 0,vi 0,vs none 0 0,vs none 0 0,vs none 0 0],MO.box b3 39 (ap e1 a13 c19 a14 c20 a15 c21)] [Cl.sl cGToken (x.2.2.2.2.1) (x.2.2.2.2.2) (x.2.2.2.1).l,Cl.sl cStr a2 c2 signs1,Cl.sl (cInt .i64) a3 c3 ops1,Cl.sl ah a13 c19 e1.Lin.L,Cl.sl ak a14 c20 e1.Idx,Cl.sl an a15 c21 e1.Args,au]∧bW signs1 ops1 e1 rec_ (bB signs1 ops1 rec_ fuel1) (x.1) (x.2.1) (x.2.2.1) (x.2.2.2.1)=some r) (fun x _=>x.1) (fun x=>[(0,vp b1 0),(1,(Value.func (.func 140) #[vp b1 0] #[])),(2,vs a2 signs1.length c2),(3,vs a3 ops1.length c3),(8,vp b2 0),(9,vp b3 0),(10,vi (x.2.1)),(15,vs a2 signs1.length c2),(16,vi (signs1.length:Int)),(17,vi (x.2.2.1))]) (fu,0,0,r3,a12,c18) ⟨_,hI.arr (.c .z (.c .z (.c .z .n))) ⟨.z,(.s (.s (.s (.s .z)))),(.s (.s (.s (.s (.s .z))))),(.s .z),(.s (.s .z)),(.s (.s (.s .z))),(.s (.s (.s (.s (.s (.s .z)))))),trivial⟩,h⟩ ⟨rfl,rfl,rfl,rfl,rfl,rfl,rfl,rfl,rfl,rfl,trivial⟩ ?_
 clear h hI;rintro⟨fuel2,op2,i1,r6,a21,c37⟩ w14 ⟨c38,hI,h⟩
 dsimp only at hI h ⊢
 rcases fuel2 with _ | fuel2
 ·rw[bW]at h;cases h
 rw[bW]at h
 refine T ?_
 refine al (wJ h et (fun hb h=> ?_) (fun hb h=> ?_))
 ·refine T ?_
  refine bw (α:=Int×aa×(Option Addr)×Nat) (fun _=>⟨43,[]⟩) (fun x=>[(0,vp b1 0),(1,(Value.func (.func 140) #[vp b1 0] #[])),(2,vs a2 signs1.length c2),(3,vs a3 ops1.length c3),(8,vp b2 0),(9,vp b3 0),(10,vi (x.1)),(15,vs a2 signs1.length c2),(16,vi (signs1.length:Int)),(17,vi i1)]) (fun x=>fun w=>∃ C,Bun C0 F w0 C w [MO.box b1 67 (af (x.2.1) (x.2.2.1) (x.2.2.2)),MO.box b2 39 #[vi 0,(str ([]:List UInt8)),vi 0,vi 0,vi 0,vi 0,vi 0,vi 0,vi 0,vi 0,vs none 0 0,vs none 0 0,vs none 0 0],MO.box b3 39 (ap e1 a13 c19 a14 c20 a15 c21)] [Cl.sl cGToken (x.2.2.1) (x.2.2.2) (x.2.1).l,Cl.sl cStr a2 c2 signs1,Cl.sl (cInt .i64) a3 c3 ops1,Cl.sl ah a13 c19 e1.Lin.L,Cl.sl ak a14 c20 e1.Idx,Cl.sl an a15 c21 e1.Args,au]∧fW (bW signs1 ops1 e1 rec_ (bB signs1 ops1 rec_ fuel1) fuel2) i1 (x.1) (x.2.1)=some r) ?_ ?_
  ·clear h hI;rintro⟨op3,r7,a22,c39⟩ w15 ⟨c40,hI,h⟩
   try dsimp only at hI h ⊢
   rw[fW]at h
   refine T ?_
   refine aK ?_
   exact jE (fuel2,op3,aq (i1+1),r7,a22,c39) ⟨rfl,rfl,rfl,rfl,rfl,rfl,rfl,rfl,rfl,rfl,trivial⟩ ⟨_,hI.arr (.c .z (.c .z (.c .z .n))) ⟨.z,(.s .z),(.s (.s .z)),(.s (.s (.s .z))),(.s (.s (.s (.s .z)))),(.s (.s (.s (.s (.s .z))))),(.s (.s (.s (.s (.s (.s .z)))))),trivial⟩,h⟩ (Nat.lt_succ_self _)
  refine T ?_
  obtain⟨e2,hx3,h⟩:=ae h
  obtain⟨ad1,cs1,hA1,hr1,hq1⟩:=hI.clat (.s .z) hx3
  obtain rfl:cs1=[(str e2)]:=hr1
  refine sI ?_
  refine T ?_
  obtain⟨c41,f3,hB,hl3,hk3⟩:=hI.hands (.l (.r (.r .n)))
  obtain⟨⟨r8,s3⟩,hx4,h⟩:=ae h
  try dsimp only at h
  refine pG (fun v_ w_=>v_=(vb r8)∧∃ (a23:Option Addr),∃ (c42:Nat),∃ C_:NP,Bun c41 f3 w14 C_ w_ [MO.box b1 67 (af s3 a23 c42)] [Cl.sl cGToken a23 c42 s3.l]) (aT rfl rfl rfl rfl) rfl (fun hc=>(aI (vs:=[vp b1 0,(str e2)]) rfl zt ⟨(aO et hc),⟨(aO et hc),trivial⟩⟩)) (fun hc=>(aM HS (zF hc hx4)).mono fun e_ w_ hq_=>(let ⟨a23,c42,C_,he_,hB_⟩:=hq_;⟨_,he_,rfl,a23,c42,C_,hB_⟩)) ?_
  intro v_ w16 h1_ h2_
  obtain⟨hv_,a23,c42,c43,hB2⟩:gv (decide (op2=0)) v_=gv (decide (op2=0)) (vb r8)∧∃ (a23:Option Addr),∃ (c42:Nat),∃ C_:NP,Bun c41 f3 w14 C_ w16 [MO.box b1 67 (af s3 a23 c42)] [Cl.sl cGToken a23 c42 s3.l]:=by
   rcases Bool.eq_false_or_eq_true (decide (op2=0))with hc | hc
   ·obtain⟨rfl,hq_⟩:=h1_ hc;exact⟨rfl,hq_⟩
   have e1_:=h2_ hc;subst e1_;obtain⟨rfl,rfl⟩:=zG hc hx4;exact⟨by rw[o8 hc,o8 hc],a21,c37,_,hB.subs ⟨.z,trivial⟩⟩
  rw[hv_];clear h1_ h2_
  refine HN hk3 hB2 fun c44 hI=> ?_
  refine TC (fun hb h=> ?_) fun hb h=> ?_
  ·refine T ?_
   obtain⟨e3,hx5,h⟩:=ae h
   obtain⟨ad2,cs2,hA2,hr2,hq2⟩:=hI.clat (.s (.s (.s .z))) hx5
   obtain rfl:cs2=[vi e3]:=hr2
   refine sI ?_
   refine T ?_
   refine aK ?_
   exact bj (e3,s3,a23,c42) ⟨rfl,rfl,rfl,rfl,rfl,rfl,rfl,rfl,rfl,rfl,trivial⟩ ⟨_,hI.arr (.c .z (.c .z (.c .z .n))) ⟨.z,(.s (.s .z)),(.s (.s (.s .z))),(.s (.s (.s (.s .z)))),(.s (.s (.s (.s (.s .z))))),(.s (.s (.s (.s (.s (.s .z)))))),(.s (.s (.s (.s (.s (.s (.s .z))))))),trivial⟩,h⟩ rfl
  exact bb (bj (op2,s3,a23,c42) ⟨rfl,rfl,rfl,rfl,rfl,rfl,rfl,rfl,rfl,rfl,trivial⟩ ⟨_,hI.arr (.c .z (.c .z (.c .z .n))) ⟨.z,(.s (.s .z)),(.s (.s (.s .z))),(.s (.s (.s (.s .z)))),(.s (.s (.s (.s (.s .z))))),(.s (.s (.s (.s (.s (.s .z)))))),(.s (.s (.s (.s (.s (.s (.s .z))))))),trivial⟩,h⟩ rfl)
 refine bh ?_
 refine eD ?_
 exact bj (op2,r6,a21,c37) ⟨rfl,rfl,rfl,rfl,rfl,rfl,rfl,trivial⟩ ⟨_,hI.arr (.c .z (.c .z (.c .z .n))) ⟨.z,(.s .z),(.s (.s .z)),(.s (.s (.s .z))),(.s (.s (.s (.s .z)))),(.s (.s (.s (.s (.s .z))))),(.s (.s (.s (.s (.s (.s .z)))))),trivial⟩,h⟩ rfl
theorem gB {rec_:(aa→Option (bu (GExpr×aa)))} (hrec:xI rec_) {r1:aa} (hI:Bun C0 F w0 C0 w0 [MO.box b1 67 (af r1 a1 c1)] [Cl.sl cGToken a1 c1 r1.l,au]) {r:bu (GExpr×aa)} (h:d5 rec_ r1=some r):CP C0 F w0 75 #[vp b1 0] r fun rx e w=>∃ a2 c2 a3 c3 a4 c4 a5 c5 C,e= .returned (Value.agg (ap rx.1 a2 c2 a3 c3 a4 c4))∧Bun C0 F w0 C w [MO.box b1 67 (af rx.2 a5 c5)] [Cl.sl ah a2 c2 rx.1.Lin.L,Cl.sl ak a3 c3 rx.1.Idx,Cl.sl an a4 c4 rx.1.Args,Cl.sl cGToken a5 c5 rx.2.l]:=by
 refine fG (l:=[vp b1 0]) Tryz.func75 rfl Tryz.ntmps75 rfl ?_
 rw[d5]at h
 refine sr (cU (cs:=#[vi 0,(str ([]:List UInt8)),vi 0,vi 0,vi 0,vi 0,vi 0,vi 0,vi 0,vi 0,vs none 0 0,vs none 0 0,vs none 0 0]) hI gn rfl rfl dQ rfl ?_)
 intro b2 c6 w1 hI
 refine T ?_
 refine sq (nO (vs:=[vp b1 0]) rfl rfl ⟨et,trivial⟩) ?_
 refine j9 (c:=cStr) (xs:=([([38]:List UInt8)]:List (List UInt8))) (vs:=[(0,(str ([38]:List UInt8)))]) (cs:=#[(str ([38]:List UInt8))]) (css:=[[(str ([38]:List UInt8))]]) hI gn rfl rfl xq lM rfl ⟨rfl,aj,trivial⟩ (by kernel_rfl) ⟨rfl,trivial⟩ rfl rfl rfl ?_
 intro b3 c7 w2 hI
 refine j9 (c:=(cInt .i64)) (xs:=([16]:List Int)) (vs:=[(0,vi 16)]) (cs:=#[vi 16]) (css:=[[vi 16]]) hI gn rfl rfl CO vK rfl ⟨rfl,aj,trivial⟩ (by kernel_rfl) ⟨rfl,trivial⟩ rfl rfl rfl ?_
 intro b4 c8 w3 hI
 obtain⟨c9,hI⟩:=hI.release (.s .z)
 obtain⟨c10,hI⟩:=hI.release .z
 obtain⟨c11,f1,hB,hl1,hk1⟩:=hI.hands (.r (.l .n))
 refine ew h (fun _ hx1=>pi hrec HS hx1) (li hk1) (Rc Tryz.func74) ?_
 rintro⟨r2,s1⟩ hx1 h _ w4 ⟨a6,c12,a7,c13,a8,c14,a9,c15,c16,rfl,hB2⟩
 try dsimp only at h
 refine HN hk1 hB2 fun c17 hI=> ?_
 refine⟨_,rfl,?_⟩
 refine lA fun c18 w5 hI=> ?_
 refine nk (az ?_)
 obtain rfl:=ai h
 refine QG ?_
 exact .inl ⟨_,rfl,a6,c12,a7,c13,a8,c14,a9,c15,_,rfl,hI.arr GO SU⟩
def cM:Tr:=(.c (4,.s) (.c (5,.q) (.c (6,.s) .n)))
theorem pz {rec_:(aa→Option (bu (GExpr×aa)))} (hrec:xI rec_) {r1:aa} {signs1:List (List UInt8)} {ops1:List Int} (hI:Bun C0 F w0 C0 w0 [MO.box b1 67 (af r1 a1 c1)] [Cl.sl cGToken a1 c1 r1.l,Cl.sl cStr a2 c2 signs1,Cl.sl (cInt .i64) a3 c3 ops1,au]) {r:bu (GExpr×aa)} (h:hP rec_ r1 signs1 ops1=some r):CP C0 F w0 74 #[vp b1 0,(Value.func (.func 75) #[vp b1 0] #[]),vs a2 signs1.length c2,vs a3 ops1.length c3] r fun rx e w=>∃ a4 c4 a5 c5 a6 c6 a7 c7 C,e= .returned (Value.agg (ap rx.1 a4 c4 a5 c5 a6 c6))∧Bun C0 F w0 C w [MO.box b1 67 (af rx.2 a7 c7)] [Cl.sl ah a4 c4 rx.1.Lin.L,Cl.sl ak a5 c5 rx.1.Idx,Cl.sl an a6 c6 rx.1.Args,Cl.sl cGToken a7 c7 rx.2.l]:=by
 refine fG (l:=[vp b1 0,(Value.func (.func 75) #[vp b1 0] #[]),vs a2 signs1.length c2,vs a3 ops1.length c3]) Tryz.func74 rfl Tryz.ntmps74 rfl ?_
 rw[hP]at h
 refine sr (cU (cs:=#[vi 0,(str ([]:List UInt8)),vi 0,vi 0,vi 0,vi 0,vi 0,vi 0,vi 0,vi 0,vs none 0 0,vs none 0 0,vs none 0 0]) hI gn rfl rfl dQ rfl ?_)
 intro b2 c8 w1 hI
 refine T ?_
 obtain⟨c9,f1,hB,hl1,hk1⟩:=hI.hands (.r (.l .n))
 refine ew h (fun _ hx1=>gB hrec HS hx1) (li hk1) (gx (fs:=[vp b1 0]) (vs:=[]) (cap:=[]) rfl et zr trivial) ?_
 rintro⟨r2,s1⟩ hx1 h _ w2 ⟨a8,c10,a9,c11,a10,c12,a11,c13,c14,rfl,hB2⟩
 try dsimp only at h
 refine HN hk1 hB2 fun c15 hI=> ?_
 refine⟨_,rfl,?_⟩
 refine lN fun b3 c16 w3 hI=> ?_
 refine lA fun c17 w4 hI=> ?_
 refine T ?_
 refine bc (α:=Nat×aa×GExpr×(Option Addr)×Nat×(Option Addr)×Nat×(Option Addr)×Nat×(Option Addr)×Nat) (fun x=>fun w=>∃ C,Bun C0 F w0 C w [MO.box b1 67 (af (x.2.1) (x.2.2.2.1) (x.2.2.2.2.1)),MO.box b2 39 #[vi 0,(str ([]:List UInt8)),vi 0,vi 0,vi 0,vi 0,vi 0,vi 0,vi 0,vi 0,vs none 0 0,vs none 0 0,vs none 0 0],MO.box b3 39 (ap (x.2.2.1) (x.2.2.2.2.2.1) (x.2.2.2.2.2.2.1) (x.2.2.2.2.2.2.2.1) (x.2.2.2.2.2.2.2.2.1) (x.2.2.2.2.2.2.2.2.2.1) (x.2.2.2.2.2.2.2.2.2.2))] [Cl.sl cGToken (x.2.2.2.1) (x.2.2.2.2.1) (x.2.1).l,Cl.sl ah (x.2.2.2.2.2.1) (x.2.2.2.2.2.2.1) (x.2.2.1).Lin.L,Cl.sl ak (x.2.2.2.2.2.2.2.1) (x.2.2.2.2.2.2.2.2.1) (x.2.2.1).Idx,Cl.sl an (x.2.2.2.2.2.2.2.2.2.1) (x.2.2.2.2.2.2.2.2.2.2) (x.2.2.1).Args,Cl.sl cStr a2 c2 signs1,Cl.sl (cInt .i64) a3 c3 ops1,au]∧bG signs1 ops1 rec_ (x.1) (x.2.1) (x.2.2.1)=some r) (fun x _=>x.1) (fun x=>[(0,vp b1 0),(1,(Value.func (.func 75) #[vp b1 0] #[])),(2,vs a2 signs1.length c2),(3,vs a3 ops1.length c3),(8,vp b2 0),(9,vp b3 0)]) (fu,s1,r2,a11,c13,a8,c10,a9,c11,a10,c12) ⟨_,hI.arr (.c (.s .z) (.c (.s .z) (.c .z .n))) ⟨(.s (.s (.s .z))),.z,(.s .z),(.s (.s .z)),(.s (.s (.s (.s (.s .z))))),(.s (.s (.s (.s (.s (.s .z)))))),(.s (.s (.s (.s (.s (.s (.s .z))))))),trivial⟩,h⟩ ⟨rfl,rfl,rfl,rfl,rfl,rfl,trivial⟩ ?_
 clear h hI;rintro⟨fuel1,r3,e1,a12,c18,a13,c19,a14,c20,a15,c21⟩ w5 ⟨c22,hI,h⟩
 dsimp only at hI h ⊢
 rcases fuel1 with _ | fuel1
 ·rw[bG]at h;cases h
 rw[bG]at h
 refine T ?_
 refine bw (α:=Int×aa×(Option Addr)×Nat) (fun _=>⟨43,[]⟩) (fun x=>[(0,vp b1 0),(1,(Value.func (.func 75) #[vp b1 0] #[])),(2,vs a2 signs1.length c2),(3,vs a3 ops1.length c3),(8,vp b2 0),(9,vp b3 0),(10,vi (x.1))]) (fun x=>fun w=>∃ C,Bun C0 F w0 C w [MO.box b1 67 (af (x.2.1) (x.2.2.1) (x.2.2.2)),MO.box b2 39 #[vi 0,(str ([]:List UInt8)),vi 0,vi 0,vi 0,vi 0,vi 0,vi 0,vi 0,vi 0,vs none 0 0,vs none 0 0,vs none 0 0],MO.box b3 39 (ap e1 a13 c19 a14 c20 a15 c21)] [Cl.sl cGToken (x.2.2.1) (x.2.2.2) (x.2.1).l,Cl.sl cStr a2 c2 signs1,Cl.sl (cInt .i64) a3 c3 ops1,Cl.sl ah a13 c19 e1.Lin.L,Cl.sl ak a14 c20 e1.Idx,Cl.sl an a15 c21 e1.Args,au]∧iS e1 rec_ (bG signs1 ops1 rec_ fuel1) (x.1) (x.2.1)=some r) ?_ ?_
 ·clear h hI;rintro⟨op1,r4,a16,c23⟩ w6 ⟨c24,hI,h⟩
  try dsimp only at hI h ⊢
  rw[iS]at h
  refine al (T ?_)
  refine TC (fun hb h=> ?_) fun hb h=> ?_
  ·refine T ?_
   refine lA fun c25 w7 hI=> ?_
   refine nk (az ?_)
   obtain rfl:=ai h
   exact eG (vs:=[(Value.agg (ap e1 a13 c19 a14 c20 a15 c21))]) Tryz.results74 ⟨⟨_,aH rfl rfl,cg (l:=(aU e1 a13 c19 a14 c20 a15 c21)) jy rfl aC (CellsAt.of_blk (hI.blk (.s .z)) rfl)⟩,trivial⟩ (.inl ⟨_,rfl,a13,c19,a14,c20,a15,c21,a16,c23,_,rfl,hI.arr (.c .z .n) ⟨(.s (.s (.s .z))),(.s (.s (.s (.s .z)))),(.s (.s (.s (.s (.s .z))))),.z,trivial⟩⟩)
  refine T ?_
  rcases ir h with⟨⟨r5,s2⟩,hx2,h⟩ | ⟨pa_,pn_,hx2,hp_⟩
  rotate_left
  ·subst hp_
   refine aD [3,6] false (.c (0,.q) (.c (2,.q) (.two 1 (.c (3,.s) cM) 3 (.c (1,.s) cM)))) hI (by kernel_rfl) (by kernel_rfl) ?_
   intro w12 hI
   refine V ?_
   refine cK ?_ ?_
   ·skip
    refine be rfl gn rfl (am (l:=(aU e1 a13 c19 a14 c20 a15 c21)) rfl et jy rfl aC (CellsAt.of_blk (hI.blk (.s (.s .z))) rfl)) SX.self ?_
    refine bH (F:=F) (C:=c24) rfl rfl ?_
    obtain⟨c26,f2,hB,hl2,hk2⟩:=hI.hands (.l (.r (.r .n)))
    refine fa rfl gn rfl (gx (fs:=[vp b1 0]) (vs:=[]) (cap:=[]) rfl et zr trivial) (Calls.mono (gB hrec HS hx2) ?_)
    intro e_ w_ hq_;obtain⟨rfl,C_,hB_⟩:=eI hq_;obtain⟨C9_,-,hI_⟩:=hk2 _ _ _ _ hB_;exact .inr ⟨_,rfl,ip (.inr ⟨_,_,rfl,rfl,⟨_,hI_.arr .n trivial⟩⟩)⟩
   refine bo (F:=F) (C:=c24) rfl rfl ?_
   obtain⟨c26,f2,hB,hl2,hk2⟩:=hI.hands (.l (.r (.r .n)))
   refine fa rfl gn rfl (gx (fs:=[vp b1 0]) (vs:=[]) (cap:=[]) rfl et zr trivial) (Calls.mono (gB hrec HS hx2) ?_)
   intro e_ w_ hq_;obtain⟨rfl,C_,hB_⟩:=eI hq_;obtain⟨C9_,-,hI_⟩:=hk2 _ _ _ _ hB_;exact .inr ⟨_,rfl,ip (.inr ⟨_,_,rfl,rfl,⟨_,hI_.arr .n trivial⟩⟩)⟩
  try dsimp only at h
  refine aD [3,6] false (.c (0,.q) (.c (2,.q) (.two 1 (.c (3,.s) cM) 3 (.c (1,.s) cM)))) hI (by kernel_rfl) (by kernel_rfl) ?_
  intro w13 hI
  refine bP (α:=(Option Addr)×Nat×(Option Addr)×Nat×(Option Addr)×Nat×(Option Addr)×Nat×NP) (T:=cM) (fun x=>[(0,vp b1 0),(1,(Value.func (.func 75) #[vp b1 0] #[])),(2,vs a2 signs1.length c2),(3,vs a3 ops1.length c3),(8,vp b2 0),(9,vp b3 0),(10,vi op1),(34,vi op1),(35,(vb (decide (op1=0)))),(37,vi op1),(38,(Value.agg (ap e1 a13 c19 a14 c20 a15 c21))),(39,(Value.func (.func 75) #[vp b1 0] #[])),(40,(Value.agg (ap r5 (x.1) (x.2.1) (x.2.2.1) (x.2.2.2.1) (x.2.2.2.2.1) (x.2.2.2.2.2.1))))]) (fun x w=>Bun C0 F w0 (x.2.2.2.2.2.2.2.2) w [MO.box b1 67 (af s2 (x.2.2.2.2.2.2.1) (x.2.2.2.2.2.2.2.1)),MO.box b2 39 #[vi 0,(str ([]:List UInt8)),vi 0,vi 0,vi 0,vi 0,vi 0,vi 0,vi 0,vi 0,vs none 0 0,vs none 0 0,vs none 0 0],MO.box b3 39 (ap e1 a13 c19 a14 c20 a15 c21)] [Cl.sl ah (x.1) (x.2.1) r5.Lin.L,Cl.sl ak (x.2.2.1) (x.2.2.2.1) r5.Idx,Cl.sl an (x.2.2.2.2.1) (x.2.2.2.2.2.1) r5.Args,Cl.sl cGToken (x.2.2.2.2.2.2.1) (x.2.2.2.2.2.2.2.1) s2.l,Cl.sl cGToken a16 c23 r4.l,Cl.sl cStr a2 c2 signs1,Cl.sl (cInt .i64) a3 c3 ops1,Cl.sl ah a13 c19 e1.Lin.L,Cl.sl ak a14 c20 e1.Idx,Cl.sl an a15 c21 e1.Args,au]) (fun x w=>SN [] (DM true F (x.2.2.2.2.2.2.2.2)) w) ?_ ?_
  ·clear hI;rintro⟨a17,c27,a18,c28,a19,c29,a20,c30,c35⟩ w11 hI
   try dsimp only at hI ⊢
   unfold cM
   refine vl hI an ([e1,r5]:List GExpr) iY (.cs (dF ⟨a13,c19,a14,c20,a15,c21,rfl,hI.get (.s (.s (.s (.s (.s (.s (.s .z))))))),hI.get (.s (.s (.s (.s (.s (.s (.s (.s .z)))))))),hI.get (.s (.s (.s (.s (.s (.s (.s (.s (.s .z)))))))))⟩) (.cs (dF ⟨a17,c27,a18,c28,a19,c29,rfl,hI.get .z,hI.get (.s .z),hI.get (.s (.s .z))⟩) .nl)) fun b4 c33 w9 hI=> ?_
   refine kW rfl gn rfl (fun w'=>(aw (vs:=[(0,vi op1),(6,vs (some ⟨b4,0,none⟩) ([e1,r5]:List GExpr).length 2)]) (cs:=#[vi op1,(str ([]:List UInt8)),vi 0,vi 0,vi 0,vi 0,vi 0,vi 0,vi 0,vi 0,vs none 0 0,vs none 0 0,vs (some ⟨b4,0,none⟩) ([e1,r5]:List GExpr).length 2]) rfl ⟨rfl,et,⟨rfl,et,trivial⟩⟩ (by kernel_rfl))) ?_
   refine vA fun c34 w10 hI=> ?_
   refine nj ?_
   have hI:=hI.add (c:=Cl.sl ah none 0 ([]:List GMono)) SlC.nil
   have hI:=hI.add (c:=Cl.sl ak none 0 ([]:List GIndex)) SlC.nil
   obtain⟨c36,hI⟩:=hI.release .z
   exact jE (fuel1,s2,(⟨op1,([]:List UInt8),(⟨0,0⟩:GVal),(⟨0,0,0,0,0⟩:GType),(⟨0,([]:List GMono)⟩:GLin),([]:List GIndex),([e1,r5]:List GExpr)⟩:GExpr),a20,c30,none,0,none,0,some ⟨b4,0,none⟩,2) ⟨rfl,rfl,rfl,rfl,rfl,rfl,trivial⟩ ⟨_,hI.arr (.c .z (.c .z (.c .z .n))) ⟨(.s (.s (.s (.s (.s (.s .z)))))),(.s (.s .z)),(.s .z),.z,(.s (.s (.s (.s (.s (.s (.s (.s .z)))))))),(.s (.s (.s (.s (.s (.s (.s (.s (.s .z))))))))),(.s (.s (.s (.s (.s (.s (.s (.s (.s (.s (.s (.s (.s .z))))))))))))),trivial⟩,h⟩ (Nat.lt_succ_self _)
  intro hk_tr_parser_reader_chain_w_3_0
  refine V ?_
  refine cK ?_ ?_
  ·skip
   refine be rfl gn rfl (am (l:=(aU e1 a13 c19 a14 c20 a15 c21)) rfl et jy rfl aC (CellsAt.of_blk (hI.blk (.s (.s .z))) rfl)) SX.self ?_
   refine bH (F:=F) (C:=c24) rfl rfl ?_
   obtain⟨c26,f2,hB,hl2,hk2⟩:=hI.hands (.l (.r (.r .n)))
   refine eZ rfl gn rfl (gx (fs:=[vp b1 0]) (vs:=[]) (cap:=[]) rfl et zr trivial) (Calls.mono (gB hrec HS hx2) ?_)
   intro e_ w8 hq_;obtain⟨a17,c27,a18,c28,a19,c29,a20,c30,c31,rfl,hB2⟩:=eH hq_
   obtain⟨c32,hs2,hI⟩:=hk2 _ _ _ _ hB2
   dsimp only[ca,na]at hI
   refine⟨_,rfl,DM true F c32,hs2,?_⟩
   exact aQ (hk_tr_parser_reader_chain_w_3_0 (a17,c27,a18,c28,a19,c29,a20,c30,c32) _ (hI.arr (.c .z (.c .z (.c .z .n))) ⟨.z,(.s .z),(.s (.s .z)),(.s (.s (.s .z))),(.s (.s (.s (.s .z)))),(.s (.s (.s (.s (.s .z))))),(.s (.s (.s (.s (.s (.s .z)))))),(.s (.s (.s (.s (.s (.s (.s .z))))))),(.s (.s (.s (.s (.s (.s (.s (.s .z)))))))),(.s (.s (.s (.s (.s (.s (.s (.s (.s .z))))))))),(.s (.s (.s (.s (.s (.s (.s (.s (.s (.s .z)))))))))),trivial⟩)) ⟨rfl,rfl,rfl,rfl,rfl,rfl,rfl,rfl,rfl,rfl,rfl,rfl,rfl,trivial⟩
  refine bo (F:=F) (C:=c24) rfl rfl ?_
  obtain⟨c26,f2,hB,hl2,hk2⟩:=hI.hands (.l (.r (.r .n)))
  refine eZ rfl gn rfl (gx (fs:=[vp b1 0]) (vs:=[]) (cap:=[]) rfl et zr trivial) (Calls.mono (gB hrec HS hx2) ?_)
  intro e_ w8 hq_;obtain⟨a17,c27,a18,c28,a19,c29,a20,c30,c31,rfl,hB2⟩:=eH hq_
  obtain⟨c32,hs2,hI⟩:=hk2 _ _ _ _ hB2
  dsimp only[ca,na]at hI
  refine⟨_,rfl,DM true F c32,hs2,?_⟩
  refine be rfl gn rfl (am (l:=(aU e1 a13 c19 a14 c20 a15 c21)) rfl et jy rfl aC (CellsAt.of_blk (hI.blk (.s (.s .z))) rfl)) SX.self ?_
  exact aQ (hk_tr_parser_reader_chain_w_3_0 (a17,c27,a18,c28,a19,c29,a20,c30,c32) _ (hI.arr (.c .z (.c .z (.c .z .n))) ⟨.z,(.s .z),(.s (.s .z)),(.s (.s (.s .z))),(.s (.s (.s (.s .z)))),(.s (.s (.s (.s (.s .z))))),(.s (.s (.s (.s (.s (.s .z)))))),(.s (.s (.s (.s (.s (.s (.s .z))))))),(.s (.s (.s (.s (.s (.s (.s (.s .z)))))))),(.s (.s (.s (.s (.s (.s (.s (.s (.s .z))))))))),(.s (.s (.s (.s (.s (.s (.s (.s (.s (.s .z)))))))))),trivial⟩)) ⟨rfl,rfl,rfl,rfl,rfl,rfl,rfl,rfl,rfl,rfl,rfl,rfl,rfl,trivial⟩
 refine T ?_
 refine bc (α:=Nat×Int×Int×aa×(Option Addr)×Nat) (fun x=>fun w=>∃ C,Bun C0 F w0 C w [MO.box b1 67 (af (x.2.2.2.1) (x.2.2.2.2.1) (x.2.2.2.2.2)),MO.box b2 39 #[vi 0,(str ([]:List UInt8)),vi 0,vi 0,vi 0,vi 0,vi 0,vi 0,vi 0,vi 0,vs none 0 0,vs none 0 0,vs none 0 0],MO.box b3 39 (ap e1 a13 c19 a14 c20 a15 c21)] [Cl.sl cGToken (x.2.2.2.2.1) (x.2.2.2.2.2) (x.2.2.2.1).l,Cl.sl cStr a2 c2 signs1,Cl.sl (cInt .i64) a3 c3 ops1,Cl.sl ah a13 c19 e1.Lin.L,Cl.sl ak a14 c20 e1.Idx,Cl.sl an a15 c21 e1.Args,au]∧ce signs1 ops1 e1 rec_ (bG signs1 ops1 rec_ fuel1) (x.1) (x.2.1) (x.2.2.1) (x.2.2.2.1)=some r) (fun x _=>x.1) (fun x=>[(0,vp b1 0),(1,(Value.func (.func 75) #[vp b1 0] #[])),(2,vs a2 signs1.length c2),(3,vs a3 ops1.length c3),(8,vp b2 0),(9,vp b3 0),(10,vi (x.2.1)),(15,vs a2 signs1.length c2),(16,vi (signs1.length:Int)),(17,vi (x.2.2.1))]) (fu,0,0,r3,a12,c18) ⟨_,hI.arr (.c .z (.c .z (.c .z .n))) ⟨.z,(.s (.s (.s (.s .z)))),(.s (.s (.s (.s (.s .z))))),(.s .z),(.s (.s .z)),(.s (.s (.s .z))),(.s (.s (.s (.s (.s (.s .z)))))),trivial⟩,h⟩ ⟨rfl,rfl,rfl,rfl,rfl,rfl,rfl,rfl,rfl,rfl,trivial⟩ ?_
 clear h hI;rintro⟨fuel2,op2,i1,r6,a21,c37⟩ w14 ⟨c38,hI,h⟩
 dsimp only at hI h ⊢
 rcases fuel2 with _ | fuel2
 ·rw[ce]at h;cases h
 rw[ce]at h
 refine T ?_
 refine al (wJ h et (fun hb h=> ?_) (fun hb h=> ?_))
 ·refine T ?_
  refine bw (α:=Int×aa×(Option Addr)×Nat) (fun _=>⟨43,[]⟩) (fun x=>[(0,vp b1 0),(1,(Value.func (.func 75) #[vp b1 0] #[])),(2,vs a2 signs1.length c2),(3,vs a3 ops1.length c3),(8,vp b2 0),(9,vp b3 0),(10,vi (x.1)),(15,vs a2 signs1.length c2),(16,vi (signs1.length:Int)),(17,vi i1)]) (fun x=>fun w=>∃ C,Bun C0 F w0 C w [MO.box b1 67 (af (x.2.1) (x.2.2.1) (x.2.2.2)),MO.box b2 39 #[vi 0,(str ([]:List UInt8)),vi 0,vi 0,vi 0,vi 0,vi 0,vi 0,vi 0,vi 0,vs none 0 0,vs none 0 0,vs none 0 0],MO.box b3 39 (ap e1 a13 c19 a14 c20 a15 c21)] [Cl.sl cGToken (x.2.2.1) (x.2.2.2) (x.2.1).l,Cl.sl cStr a2 c2 signs1,Cl.sl (cInt .i64) a3 c3 ops1,Cl.sl ah a13 c19 e1.Lin.L,Cl.sl ak a14 c20 e1.Idx,Cl.sl an a15 c21 e1.Args,au]∧ge (ce signs1 ops1 e1 rec_ (bG signs1 ops1 rec_ fuel1) fuel2) i1 (x.1) (x.2.1)=some r) ?_ ?_
  ·clear h hI;rintro⟨op3,r7,a22,c39⟩ w15 ⟨c40,hI,h⟩
   try dsimp only at hI h ⊢
   rw[ge]at h
   refine T ?_
   refine aK ?_
   exact jE (fuel2,op3,aq (i1+1),r7,a22,c39) ⟨rfl,rfl,rfl,rfl,rfl,rfl,rfl,rfl,rfl,rfl,trivial⟩ ⟨_,hI.arr (.c .z (.c .z (.c .z .n))) ⟨.z,(.s .z),(.s (.s .z)),(.s (.s (.s .z))),(.s (.s (.s (.s .z)))),(.s (.s (.s (.s (.s .z))))),(.s (.s (.s (.s (.s (.s .z)))))),trivial⟩,h⟩ (Nat.lt_succ_self _)
  refine T ?_
  obtain⟨e2,hx3,h⟩:=ae h
  obtain⟨ad1,cs1,hA1,hr1,hq1⟩:=hI.clat (.s .z) hx3
  obtain rfl:cs1=[(str e2)]:=hr1
  refine sI ?_
  refine T ?_
  obtain⟨c41,f3,hB,hl3,hk3⟩:=hI.hands (.l (.r (.r .n)))
  obtain⟨⟨r8,s3⟩,hx4,h⟩:=ae h
  try dsimp only at h
  refine pG (fun v_ w_=>v_=(vb r8)∧∃ (a23:Option Addr),∃ (c42:Nat),∃ C_:NP,Bun c41 f3 w14 C_ w_ [MO.box b1 67 (af s3 a23 c42)] [Cl.sl cGToken a23 c42 s3.l]) (aT rfl rfl rfl rfl) rfl (fun hc=>(aI (vs:=[vp b1 0,(str e2)]) rfl zt ⟨(aO et hc),⟨(aO et hc),trivial⟩⟩)) (fun hc=>(aM HS (zF hc hx4)).mono fun e_ w_ hq_=>(let ⟨a23,c42,C_,he_,hB_⟩:=hq_;⟨_,he_,rfl,a23,c42,C_,hB_⟩)) ?_
  intro v_ w16 h1_ h2_
  obtain⟨hv_,a23,c42,c43,hB2⟩:gv (decide (op2=0)) v_=gv (decide (op2=0)) (vb r8)∧∃ (a23:Option Addr),∃ (c42:Nat),∃ C_:NP,Bun c41 f3 w14 C_ w16 [MO.box b1 67 (af s3 a23 c42)] [Cl.sl cGToken a23 c42 s3.l]:=by
   rcases Bool.eq_false_or_eq_true (decide (op2=0))with hc | hc
   ·obtain⟨rfl,hq_⟩:=h1_ hc;exact⟨rfl,hq_⟩
   have e1_:=h2_ hc;subst e1_;obtain⟨rfl,rfl⟩:=zG hc hx4;exact⟨by rw[o8 hc,o8 hc],a21,c37,_,hB.subs ⟨.z,trivial⟩⟩
  rw[hv_];clear h1_ h2_
  refine HN hk3 hB2 fun c44 hI=> ?_
  refine TC (fun hb h=> ?_) fun hb h=> ?_
  ·refine T ?_
   obtain⟨e3,hx5,h⟩:=ae h
   obtain⟨ad2,cs2,hA2,hr2,hq2⟩:=hI.clat (.s (.s (.s .z))) hx5
   obtain rfl:cs2=[vi e3]:=hr2
   refine sI ?_
   refine T ?_
   refine aK ?_
   exact bj (e3,s3,a23,c42) ⟨rfl,rfl,rfl,rfl,rfl,rfl,rfl,rfl,rfl,rfl,trivial⟩ ⟨_,hI.arr (.c .z (.c .z (.c .z .n))) ⟨.z,(.s (.s .z)),(.s (.s (.s .z))),(.s (.s (.s (.s .z)))),(.s (.s (.s (.s (.s .z))))),(.s (.s (.s (.s (.s (.s .z)))))),(.s (.s (.s (.s (.s (.s (.s .z))))))),trivial⟩,h⟩ rfl
  exact bb (bj (op2,s3,a23,c42) ⟨rfl,rfl,rfl,rfl,rfl,rfl,rfl,rfl,rfl,rfl,trivial⟩ ⟨_,hI.arr (.c .z (.c .z (.c .z .n))) ⟨.z,(.s (.s .z)),(.s (.s (.s .z))),(.s (.s (.s (.s .z)))),(.s (.s (.s (.s (.s .z))))),(.s (.s (.s (.s (.s (.s .z)))))),(.s (.s (.s (.s (.s (.s (.s .z))))))),trivial⟩,h⟩ rfl)
 refine bh ?_
 refine eD ?_
 exact bj (op2,r6,a21,c37) ⟨rfl,rfl,rfl,rfl,rfl,rfl,rfl,trivial⟩ ⟨_,hI.arr (.c .z (.c .z (.c .z .n))) ⟨.z,(.s .z),(.s (.s .z)),(.s (.s (.s .z))),(.s (.s (.s (.s .z)))),(.s (.s (.s (.s (.s .z))))),(.s (.s (.s (.s (.s (.s .z)))))),trivial⟩,h⟩ rfl
theorem pX {rec_:(aa→Option (bu (GExpr×aa)))} (hrec:xI rec_) {r1:aa} (hI:Bun C0 F w0 C0 w0 [MO.box b1 67 (af r1 a1 c1)] [Cl.sl cGToken a1 c1 r1.l,au]) {r:bu (GExpr×aa)} (h:gc rec_ r1=some r):CP C0 F w0 34 #[vp b1 0] r fun rx e w=>∃ a2 c2 a3 c3 a4 c4 a5 c5 C,e= .returned (Value.agg (ap rx.1 a2 c2 a3 c3 a4 c4))∧Bun C0 F w0 C w [MO.box b1 67 (af rx.2 a5 c5)] [Cl.sl ah a2 c2 rx.1.Lin.L,Cl.sl ak a3 c3 rx.1.Idx,Cl.sl an a4 c4 rx.1.Args,Cl.sl cGToken a5 c5 rx.2.l]:=by
 refine fG (l:=[vp b1 0]) Tryz.func34 rfl Tryz.ntmps34 rfl ?_
 rw[gc]at h
 refine sr (cU (cs:=#[vi 0,(str ([]:List UInt8)),vi 0,vi 0,vi 0,vi 0,vi 0,vi 0,vi 0,vi 0,vs none 0 0,vs none 0 0,vs none 0 0]) hI gn rfl rfl dQ rfl ?_)
 intro b2 c6 w1 hI
 refine T ?_
 refine sq (nO (vs:=[vp b1 0]) rfl rfl ⟨et,trivial⟩) ?_
 refine j9 (c:=cStr) (xs:=([([124]:List UInt8)]:List (List UInt8))) (vs:=[(0,(str ([124]:List UInt8)))]) (cs:=#[(str ([124]:List UInt8))]) (css:=[[(str ([124]:List UInt8))]]) hI gn rfl rfl xq lM rfl ⟨rfl,aj,trivial⟩ (by kernel_rfl) ⟨rfl,trivial⟩ rfl rfl rfl ?_
 intro b3 c7 w2 hI
 refine j9 (c:=(cInt .i64)) (xs:=([17]:List Int)) (vs:=[(0,vi 17)]) (cs:=#[vi 17]) (css:=[[vi 17]]) hI gn rfl rfl CO vK rfl ⟨rfl,aj,trivial⟩ (by kernel_rfl) ⟨rfl,trivial⟩ rfl rfl rfl ?_
 intro b4 c8 w3 hI
 obtain⟨c9,hI⟩:=hI.release (.s .z)
 obtain⟨c10,hI⟩:=hI.release .z
 obtain⟨c11,f1,hB,hl1,hk1⟩:=hI.hands (.r (.l .n))
 refine ew h (fun _ hx1=>pz hrec HS hx1) (li hk1) (Rc Tryz.func74) ?_
 rintro⟨r2,s1⟩ hx1 h _ w4 ⟨a6,c12,a7,c13,a8,c14,a9,c15,c16,rfl,hB2⟩
 try dsimp only at h
 refine HN hk1 hB2 fun c17 hI=> ?_
 refine⟨_,rfl,?_⟩
 refine lA fun c18 w5 hI=> ?_
 refine nk (az ?_)
 obtain rfl:=ai h
 refine QG ?_
 exact .inl ⟨_,rfl,a6,c12,a7,c13,a8,c14,a9,c15,_,rfl,hI.arr GO SU⟩
theorem pW (n:Nat):xI (ao n):=by
 induction n with
 | zero=>intro F;intros;rename_i h;cases h
 | succ n ih=>intro F;intros;apply pX ih<;>assumption
theorem qL:xI (lC):=pW fu
theorem nX {a1:aa} {a3:GExpr} (hI:Bun C0 F w0 C0 w0 [MO.box b2 67 (af a1 a2 c1),MO.box b3 39 (ap a3 a4 c2 a5 c3 a6 c4)] [Cl.sl cGToken a2 c1 a1.l,Cl.blk b1 65 #[vp b2 0],Cl.sl ah a4 c2 a3.Lin.L,Cl.sl ak a5 c3 a3.Idx,Cl.sl an a6 c4 a3.Args,au]) {r:bu (Unit×aa×GExpr)} (h:jr a1 a3=some r):CP C0 F w0 33 #[vp b1 0,vp b3 0] r fun rx e w=>∃ a7 c5 a8 c6 a9 c7 a10 c8 C,e= .returned (Value.tuple #[])∧Bun C0 F w0 C w [MO.box b2 67 (af rx.2.1 a7 c5),MO.box b3 39 (ap rx.2.2 a8 c6 a9 c7 a10 c8)] [Cl.sl cGToken a7 c5 rx.2.1.l,Cl.sl ah a8 c6 rx.2.2.Lin.L,Cl.sl ak a9 c7 rx.2.2.Idx,Cl.sl an a10 c8 rx.2.2.Args]:=by
 refine fG (l:=[vp b1 0,vp b3 0]) Tryz.func33 rfl Tryz.ntmps33 rfl ?_
 rw[jr]at h
 refine T ?_
 obtain⟨c9,f1,hB,hl1,hk1⟩:=hI.hands (.l (.r .n))
 refine ew h (fun _ hx1=>qL HS hx1) (li hk1) (Rc Tryz.func34) ?_
 rintro⟨r1,s1⟩ hx1 h _ w1 ⟨a11,c10,a12,c11,a13,c12,a14,c13,c14,rfl,hB2⟩
 try dsimp only at h
 refine HN hk1 hB2 fun c15 hI=> ?_
 refine⟨_,rfl,?_⟩
 refine lA fun c16 w2 hI=> ?_
 refine aK ?_
 obtain rfl:=ai h
 refine QG ?_
 exact .inl ⟨_,rfl,a14,c13,a11,c10,a12,c11,a13,c12,_,rfl,hI.arr GO SU⟩
def jl:Tr:= .n
def jm:Tr:=(.c (4,.s) (.c (6,.q) (.c (7,.q) jl)))
theorem ql (hF:dy F w0) {l1:List GToken} {at1:Int} (hc:AllCl [Cl.sl cGToken a1 c1 l1,au] F w0) {r:GExpr×Int×Int} (h:jb l1 at1=some r):Cg 15 #[vs a1 l1.length c1,vi at1] w0 fun e w=>∃ a2 c2 a3 c3 a4 c4,e= .returned (Value.tuple #[(Value.agg (ap r.1 a2 c2 a3 c3 a4 c4)),vi r.2.1,vi r.2.2])∧Ext w0 w∧AllCl [Cl.sl ah a2 c2 r.1.Lin.L,Cl.sl ak a3 c3 r.1.Idx,Cl.sl an a4 c4 r.1.Args] F w:=by
 refine EN Tryz.func15 Tryz.ntmps15 hF hc fun hI=> ?_
 rw[jb]at h
 refine sr (cU (cs:=#[vi 0,(str ([]:List UInt8)),vi 0,vi 0,vi 0,vi 0,vi 0,vi 0,vi 0,vi 0,vs none 0 0,vs none 0 0,vs none 0 0]) hI gn rfl rfl dQ rfl ?_)
 intro b1 c5 w1 hI
 refine ry ?_
 refine ry ?_
 refine nk (al (sr (sm ?_)))
 refine sq (qr rfl et aj) ?_
 refine sm ?_
 refine ay (bX rfl rfl rfl rfl) rfl (fun hc=>fj rfl et) ?_
 refine ay (bX rfl rfl rfl rfl) rfl (fun hc=>fj rfl et) ?_
 refine ay (bX rfl rfl rfl rfl) rfl (fun hc=>np rfl FF (aO et hc)) ?_
 refine ay (bX rfl rfl rfl rfl) rfl (fun hc=>qs rfl (aO et hc) (aO et hc)) ?_
 refine sq (wD rfl et et) ?_
 refine TC (fun hb h=> ?_) fun hb h=> ?_
 ·refine sr (sq (aw (vs:=[]) (cs:=#[vi 0,(str ([]:List UInt8)),vi 0,vi 0,vi 0,vi 0,vi 0,vi 0,vi 0,vi 0,vs none 0 0,vs none 0 0,vs none 0 0]) rfl trivial (by kernel_rfl)) ?_)
  refine lA fun c6 w2 hI=> ?_
  refine ry ?_
  refine ry ?_
  refine nk (az ?_)
  have hI:=hI.add (c:=Cl.sl ah none 0 ([]:List GMono)) SlC.nil
  have hI:=hI.add (c:=Cl.sl ak none 0 ([]:List GIndex)) SlC.nil
  have hI:=hI.add (c:=Cl.sl an none 0 ([]:List GExpr)) SlC.nil
  obtain rfl:=ai h
  exact eG (vs:=[(Value.agg #[vi 0,(str ([]:List UInt8)),vi 0,vi 0,vi 0,vi 0,vi 0,vi 0,vi 0,vi 0,vs none 0 0,vs none 0 0,vs none 0 0]),vi 0,vi 1]) Tryz.results15 ⟨⟨_,aH rfl rfl,cg (l:=[vi 0,(str ([]:List UInt8)),vi 0,vi 0,vi 0,vi 0,vi 0,vi 0,vi 0,vi 0,vs none 0 0,vs none 0 0,vs none 0 0]) jy rfl aC (CellsAt.of_blk (hI.blk .z) rfl)⟩,⟨aH rfl rfl,⟨aH rfl rfl,trivial⟩⟩⟩ ⟨none,0,none,0,none,0,rfl,hI.ext0,hI.fin ⟨(.s (.s .z)),(.s .z),.z,trivial⟩⟩
 refine bb (aX (sr (sm ?_)))
 refine sm ?_
 refine sq (aw (vs:=[(0,vs a1 l1.length c1),(1,vi at1)]) (cs:=#[vs a1 l1.length c1,vi at1,vi 0]) rfl ⟨rfl,et,⟨rfl,et,trivial⟩⟩ (by kernel_rfl)) ?_
 refine mB (v:=(Value.agg #[vs a1 l1.length c1,vi at1,vi 0])) (cs:=#[vs a1 l1.length c1,vi at1,vi 0]) hI gn rfl rfl et rfl ?_
 intro b2 c7 w3 hI
 refine lN fun b3 c8 w4 hI=> ?_
 refine lS fun c9 w5 hI=> ?_
 refine nk (sr (sq (aw (vs:=[]) (cs:=#[vi 0,(str ([]:List UInt8)),vi 0,vi 0,vi 0,vi 0,vi 0,vi 0,vi 0,vi 0,vs none 0 0,vs none 0 0,vs none 0 0]) rfl trivial (by kernel_rfl)) ?_))
 refine lN fun b4 c10 w6 hI=> ?_
 refine lA fun c11 w7 hI=> ?_
 refine nk (al (sr (sq (no (vs:=[]) (cap:=[vp b3 0,vp b4 0]) rfl rfl ⟨et,⟨et,trivial⟩⟩) ?_)))
 obtain⟨c12,hI⟩:=hI.relBox (.s .z)
 have hI:=hI.add (c:=Cl.sl ah none 0 ([]:List GMono)) SlC.nil
 have hI:=hI.add (c:=Cl.sl ak none 0 ([]:List GIndex)) SlC.nil
 have hI:=hI.add (c:=Cl.sl an none 0 ([]:List GExpr)) SlC.nil
 obtain⟨c13,f1,hB,hl1,hk1⟩:=hI.hands (.l (.l (.r .n)))
 replace hB:=hB.ord (.c (.s .z) (.c .z .n))
 rcases tU h with⟨⟨r1,s1,s2⟩,hx1,h⟩ | ⟨pa1,pn1,hx1,hn1,h⟩
 ·skip
  try dsimp only at h
  refine aA gn rfl (Rc Tryz.func29) (Calls.mono (sV (β:=(Option Addr)×Nat×(Option Addr)×Nat×(Option Addr)×Nat×(Option Addr)×Nat) (fun x=>[MO.box b2 67 (af s1 (x.1) (x.2.1)),MO.box b4 39 (ap s2 (x.2.2.1) (x.2.2.2.1) (x.2.2.2.2.1) (x.2.2.2.2.2.1) (x.2.2.2.2.2.2.1) (x.2.2.2.2.2.2.2))]) (fun x=>[Cl.sl cGToken (x.1) (x.2.1) s1.l,Cl.sl ah (x.2.2.1) (x.2.2.2.1) s2.Lin.L,Cl.sl ak (x.2.2.2.2.1) (x.2.2.2.2.2.1) s2.Idx,Cl.sl an (x.2.2.2.2.2.2.1) (x.2.2.2.2.2.2.2) s2.Args]) (cl:=[Cl.sl cGToken a1 c1 l1,Cl.blk b3 65 #[vp b2 0],Cl.sl ah none 0 ([]:List GMono),Cl.sl ak none 0 ([]:List GIndex),Cl.sl an none 0 ([]:List GExpr),au]) Fc (hB.subs ⟨(.s (.s (.s (.s .z)))),(.s (.s (.s .z))),(.s (.s .z)),(.s .z),.z,(.s (.s (.s (.s (.s .z))))),trivial⟩) (fun C1_ F1_ w1_ hB_=>(nX hB_ hx1).mono fun e_ w_ hq_=>(let ⟨a5,c14,a6,c15,a7,c16,a8,c17,C_,he_,hB2_⟩:=eH hq_;⟨he_,(a5,c14,a6,c15,a7,c16,a8,c17),C_,hB2_⟩))) ?_)
  rintro _ w8 ⟨rfl,⟨a5,c14,a6,c15,a7,c16,a8,c17⟩,c18,hB2⟩
  obtain⟨c19,hs1,hI⟩:=hk1 _ _ _ _ hB2
  replace hI:Bun noM F w0 c19 w8 [MO.box b2 67 (af s1 a5 c14),MO.box b4 39 (ap s2 a6 c15 a7 c16 a8 c17),MO.box b1 39 #[vi 0,(str ([]:List UInt8)),vi 0,vi 0,vi 0,vi 0,vi 0,vi 0,vi 0,vi 0,vs none 0 0,vs none 0 0,vs none 0 0]] [Cl.sl cGToken a5 c14 s1.l,Cl.sl ah a6 c15 s2.Lin.L,Cl.sl ak a7 c16 s2.Idx,Cl.sl an a8 c17 s2.Args,Cl.sl an none 0 ([]:List GExpr),Cl.sl ak none 0 ([]:List GIndex),Cl.sl ah none 0 ([]:List GMono),Cl.blk b3 65 #[vp b2 0],Cl.sl cGToken a1 c1 l1,au]:=hI
  refine⟨_,rfl,?_⟩
  refine sm ?_
  refine sq (gm rfl et rfl) ?_
  refine sq (gm rfl et rfl) ?_
  refine sa ?_
  refine sa ?_
  refine nk (sr (sm ?_))
  refine sq (oo rfl et aj) ?_
  refine TC (fun hb h=> ?_) fun hb h=> ?_
  ·refine sr (sq (aw (vs:=[]) (cs:=#[vi 0,(str ([]:List UInt8)),vi 0,vi 0,vi 0,vi 0,vi 0,vi 0,vi 0,vi 0,vs none 0 0,vs none 0 0,vs none 0 0]) rfl trivial (by kernel_rfl)) ?_)
   refine sm ?_
   refine sm ?_
   refine lA fun c20 w9 hI=> ?_
   refine sa ?_
   refine sa ?_
   refine aK ?_
   refine mZ (e:=[(4,vp b1 0),(5,vi 0),(6,vi 0)]) SB ?_
   refine az ?_
   obtain rfl:=ai h
   exact eG (vs:=[(Value.agg #[vi 0,(str ([]:List UInt8)),vi 0,vi 0,vi 0,vi 0,vi 0,vi 0,vi 0,vi 0,vs none 0 0,vs none 0 0,vs none 0 0]),vi 0,vi 0]) Tryz.results15 ⟨⟨_,aH rfl rfl,cg (l:=[vi 0,(str ([]:List UInt8)),vi 0,vi 0,vi 0,vi 0,vi 0,vi 0,vi 0,vi 0,vs none 0 0,vs none 0 0,vs none 0 0]) jy rfl aC (CellsAt.of_blk (hI.blk (.s (.s .z))) rfl)⟩,⟨aH rfl rfl,⟨aH rfl rfl,trivial⟩⟩⟩ ⟨none,0,none,0,none,0,rfl,hI.ext0,hI.fin ⟨(.s (.s (.s (.s (.s (.s .z)))))),(.s (.s (.s (.s (.s .z))))),(.s (.s (.s (.s .z)))),trivial⟩⟩
  refine bb (mZ (e:=[(1,vi at1),(4,vp b1 0),(7,vp b3 0),(8,vp b4 0)]) ⟨rfl,rfl,rfl,rfl,trivial⟩ ?_)
  refine al (sr (sq (am (l:=(aU s2 a6 c15 a7 c16 a8 c17)) rfl et jy rfl aC (CellsAt.of_blk (hI.blk (.s .z)) rfl)) ?_))
  refine sB h (fun _ k=>uC hI.lt FS k) (Rc Tryz.func35) fun r2 w10 h hI=> ?_
  refine sa ?_
  refine nk (sr (sm ?_))
  refine sq (oo rfl et aj) ?_
  refine TC (fun hb h=> ?_) fun hb h=> ?_
  ·refine sr (sq (aw (vs:=[]) (cs:=#[vi 0,(str ([]:List UInt8)),vi 0,vi 0,vi 0,vi 0,vi 0,vi 0,vi 0,vi 0,vs none 0 0,vs none 0 0,vs none 0 0]) rfl trivial (by kernel_rfl)) ?_)
   refine sm ?_
   refine sm ?_
   refine lA fun c21 w11 hI=> ?_
   refine sa ?_
   refine sa ?_
   refine nk (az ?_)
   obtain rfl:=ai h
   exact eG (vs:=[(Value.agg #[vi 0,(str ([]:List UInt8)),vi 0,vi 0,vi 0,vi 0,vi 0,vi 0,vi 0,vi 0,vs none 0 0,vs none 0 0,vs none 0 0]),vi at1,vi r2]) Tryz.results15 ⟨⟨_,aH rfl rfl,cg (l:=[vi 0,(str ([]:List UInt8)),vi 0,vi 0,vi 0,vi 0,vi 0,vi 0,vi 0,vi 0,vs none 0 0,vs none 0 0,vs none 0 0]) jy rfl aC (CellsAt.of_blk (hI.blk (.s (.s .z))) rfl)⟩,⟨aH rfl rfl,⟨aH rfl rfl,trivial⟩⟩⟩ ⟨none,0,none,0,none,0,rfl,hI.ext0,hI.fin ⟨(.s (.s (.s (.s (.s (.s .z)))))),(.s (.s (.s (.s (.s .z))))),(.s (.s (.s (.s .z)))),trivial⟩⟩
  refine bb (aX (al (aD [5] false (.c (0,.q) (.two 1 (.c (2,.q) (.c (3,.q) (.two 4 (.c (5,.s) (.c (6,.q) (.c (7,.q) jl))) 5 jm))) 5 (.c (1,.s) (.c (2,.q) (.c (3,.q) jm))))) hI (by kernel_rfl) (by kernel_rfl) ?_)))
  intro w15 hI
  refine bP (α:=NP) (T:=jl) (fun x=>[(1,vi at1),(4,vp b1 0),(5,vi s1.at_),(6,vi 0),(7,vp b3 0),(8,vp b4 0),(11,vi r2),(36,(Value.agg (ap s2 a6 c15 a7 c16 a8 c17))),(37,vi r2),(38,vi r2),(39,(vb (!decide (r2=0)))),(43,(Value.agg (ap s2 a6 c15 a7 c16 a8 c17))),(44,vp b2 0),(45,vp b2 0),(46,vp b2 1),(47,vi s1.at_)]) (fun x w=>Bun noM F w0 x w [MO.box b2 67 (af s1 a5 c14),MO.box b4 39 (ap s2 a6 c15 a7 c16 a8 c17),MO.box b1 39 (ap s2 a6 c15 a7 c16 a8 c17)] [Cl.sl cGToken a5 c14 s1.l,Cl.sl ah a6 c15 s2.Lin.L,Cl.sl ak a7 c16 s2.Idx,Cl.sl an a8 c17 s2.Args,Cl.sl an none 0 ([]:List GExpr),Cl.sl ak none 0 ([]:List GIndex),Cl.sl ah none 0 ([]:List GMono),Cl.blk b3 65 #[vp b2 0],Cl.sl cGToken a1 c1 l1,au]) (fun x w=>SN [] (DM true F x) w) ?_ ?_
  ·clear hI;rintro c24 w14 hI
   try dsimp only at hI ⊢
   unfold jl
   refine nj ?_
   refine aX (az ?_)
   obtain rfl:=ai h
   exact eG (vs:=[(Value.agg (ap s2 a6 c15 a7 c16 a8 c17)),vi s1.at_,vi 0]) Tryz.results15 ⟨⟨_,aH rfl rfl,cg (l:=(aU s2 a6 c15 a7 c16 a8 c17)) jy rfl aC (CellsAt.of_blk (hI.blk (.s (.s .z))) rfl)⟩,⟨aH rfl rfl,⟨aH rfl rfl,trivial⟩⟩⟩ ⟨a6,c15,a7,c16,a8,c17,rfl,hI.ext0,hI.fin ⟨(.s .z),(.s (.s .z)),(.s (.s (.s .z))),trivial⟩⟩
  intro hk_tr_parser_ExprAt_1_1
  refine bP (α:=NP) (T:=jm) (fun x=>[(1,vi at1),(4,vp b1 0),(7,vp b3 0),(8,vp b4 0),(11,vi r2),(36,(Value.agg (ap s2 a6 c15 a7 c16 a8 c17))),(37,vi r2),(38,vi r2),(39,(vb (!decide (r2=0)))),(43,(Value.agg (ap s2 a6 c15 a7 c16 a8 c17))),(44,vp b2 0),(45,vp b2 0),(46,vp b2 1)]) (fun x w=>Bun noM F w0 x w [MO.box b2 67 (af s1 a5 c14),MO.box b4 39 (ap s2 a6 c15 a7 c16 a8 c17),MO.box b1 39 (ap s2 a6 c15 a7 c16 a8 c17)] [Cl.sl cGToken a5 c14 s1.l,Cl.sl ah a6 c15 s2.Lin.L,Cl.sl ak a7 c16 s2.Idx,Cl.sl an a8 c17 s2.Args,Cl.sl an none 0 ([]:List GExpr),Cl.sl ak none 0 ([]:List GIndex),Cl.sl ah none 0 ([]:List GMono),Cl.blk b3 65 #[vp b2 0],Cl.sl cGToken a1 c1 l1,au]) (fun x w=>SN [] (DM true F x) w) ?_ ?_
  ·clear hI;rintro c23 w13 hI
   try dsimp only at hI ⊢
   unfold jm
   refine be rfl gn rfl (bf (v:=(vi s1.at_)) rfl et u3 rfl (CellsAt.of_blk (hI.blk .z) rfl)) SX.self ?_
   refine kW rfl gn rfl (fun w'=>bE rfl et) ?_
   refine kW rfl gn rfl (fun w'=>bE rfl aj) ?_
   exact aQ (hk_tr_parser_ExprAt_1_1 c23 _ (hI.arr GO SU)) SB
  intro hk_tr_parser_ExprAt_1_0
  refine cp rfl gn rfl (fun w' hw'=>(am (l:=(aU s2 a6 c15 a7 c16 a8 c17)) rfl et jy rfl aC ((CA.blk (hI.blk (.s .z)) rfl).at_ (SX.any rfl hw')))) (by kernel_rfl) ?_
  refine cK ?_ ?_
  ·skip
   refine be rfl gn rfl (bf (v:=(vp b2 0)) rfl et HC rfl (hI.kblk (l:=[vp b2 0]) (.s (.s (.s (.s (.s (.s (.s .z))))))) rfl).1) SX.self ?_
   refine kW rfl gn rfl (fun w'=>nn rfl et) ?_
   refine kW rfl gn rfl (fun w'=>aL rfl et HB rfl iZ rfl) ?_
   refine cK ?_ ?_
   ·skip
    refine be rfl gn rfl (bf (v:=(vi s1.at_)) rfl et u3 rfl (CellsAt.of_blk (hI.blk .z) rfl)) SX.self ?_
    refine bH (F:=F) (C:=c19) rfl rfl ?_
    refine vA fun c22 w12 hI=> ?_
    refine kW rfl gn rfl (fun w'=>bE rfl et) ?_
    refine kW rfl gn rfl (fun w'=>bE rfl aj) ?_
    exact aQ (hk_tr_parser_ExprAt_1_1 c22 _ (hI.arr GO SU)) SB
   refine bo (F:=F) (C:=c19) rfl rfl ?_
   refine vA fun c22 w12 hI=> ?_
   exact aQ (hk_tr_parser_ExprAt_1_0 c22 _ (hI.arr GO SU)) SB
  refine bo (F:=F) (C:=c19) rfl rfl ?_
  refine vA fun c22 w12 hI=> ?_
  refine be rfl gn rfl (bf (v:=(vp b2 0)) rfl et HC rfl (hI.kblk (l:=[vp b2 0]) (.s (.s (.s (.s (.s (.s (.s .z))))))) rfl).1) SX.self ?_
  refine kW rfl gn rfl (fun w'=>nn rfl et) ?_
  refine kW rfl gn rfl (fun w'=>aL rfl et HB rfl iZ rfl) ?_
  exact aQ (hk_tr_parser_ExprAt_1_0 c22 _ (hI.arr GO SU)) SB
 try dsimp only at h
 refine aA gn rfl (Rc Tryz.func29) (Calls.mono (sW (cl:=[Cl.sl cGToken a1 c1 l1,Cl.blk b3 65 #[vp b2 0],Cl.sl ah none 0 ([]:List GMono),Cl.sl ak none 0 ([]:List GIndex),Cl.sl an none 0 ([]:List GExpr),au]) Fc (hB.subs ⟨(.s (.s (.s (.s .z)))),(.s (.s (.s .z))),(.s (.s .z)),(.s .z),.z,(.s (.s (.s (.s (.s .z))))),trivial⟩) (fun C1_ F1_ w1_ hB_=>(nX hB_ hx1).mono fun e_ w_ hq_=>eI hq_)) ?_)
 rintro _ w16 ⟨rfl,c25,hB2⟩
 obtain⟨c26,hs2,hI⟩:=hk1 _ _ _ _ hB2
 replace hI:Bun noM F w0 c26 w16 [MO.box b1 39 #[vi 0,(str ([]:List UInt8)),vi 0,vi 0,vi 0,vi 0,vi 0,vi 0,vi 0,vi 0,vs none 0 0,vs none 0 0,vs none 0 0]] [Cl.sl an none 0 ([]:List GExpr),Cl.sl ak none 0 ([]:List GIndex),Cl.sl ah none 0 ([]:List GMono),Cl.blk b3 65 #[vp b2 0],Cl.sl cGToken a1 c1 l1,au]:=hI
 refine⟨_,rfl,?_⟩
 have hk2:(!decide (pn1=0))=true:=by simp[hn1]
 refine sm ?_
 refine sq (gm rfl et rfl) ?_
 refine sq (gm rfl et rfl) ?_
 refine sa ?_
 refine sa ?_
 refine nk (sr (sm ?_))
 refine sq (oo rfl et aj) ?_
 refine nk (qQ (b:= !decide (pn1=0)) et (fun _=> ?_) (fun hb=>absurd (hb.symm.trans hk2) (by simp)))
 refine sr (sq (aw (vs:=[]) (cs:=#[vi 0,(str ([]:List UInt8)),vi 0,vi 0,vi 0,vi 0,vi 0,vi 0,vi 0,vi 0,vs none 0 0,vs none 0 0,vs none 0 0]) rfl trivial (by kernel_rfl)) ?_)
 refine sm ?_
 refine sm ?_
 refine lA fun c27 w17 hI=> ?_
 refine sa ?_
 refine sa ?_
 refine aK ?_
 refine mZ (e:=[(4,vp b1 0),(5,vi pa1),(6,vi pn1)]) SB ?_
 refine az ?_
 obtain rfl:=ai h
 exact eG (vs:=[(Value.agg #[vi 0,(str ([]:List UInt8)),vi 0,vi 0,vi 0,vi 0,vi 0,vi 0,vi 0,vi 0,vs none 0 0,vs none 0 0,vs none 0 0]),vi pa1,vi pn1]) Tryz.results15 ⟨⟨_,aH rfl rfl,cg (l:=[vi 0,(str ([]:List UInt8)),vi 0,vi 0,vi 0,vi 0,vi 0,vi 0,vi 0,vi 0,vs none 0 0,vs none 0 0,vs none 0 0]) jy rfl aC (CellsAt.of_blk (hI.blk .z) rfl)⟩,⟨aH rfl rfl,⟨aH rfl rfl,trivial⟩⟩⟩ ⟨none,0,none,0,none,0,rfl,hI.ext0,hI.fin ⟨(.s (.s .z)),(.s .z),.z,trivial⟩⟩
theorem ux (hF:dy F w0) {s1:List UInt8} {l1:List GToken} {at1:Int} (hc:AllCl [Cl.sl cGToken a1 c1 l1] F w0) {r:Int} (h:n8 s1 l1 at1=some r):CR F w0 40 #[(str s1),vs a1 l1.length c1,vi at1] (vi r) []:=by
 refine EN Tryz.func40 Tryz.ntmps40 hF hc fun hI=> ?_
 rw[n8]at h
 refine T ?_
 refine al (T ?_)
 refine TR fun hb h=> ?_
 refine T ?_
 obtain⟨e1,hx1,h⟩:=ae h
 obtain⟨ad1,cs1,hA1,hr1,hq1⟩:=hI.clat .z hx1
 obtain rfl:cs1=(ka e1):=hr1
 refine sI ?_
 exact RF
theorem nN (hF:dy F w0) {s1:List UInt8} (hc:AllCl [au] F w0) {r:GExpr×Int×Int} (h:kR s1=some r):Cg 18 #[(str s1)] w0 fun e w=>∃ a1 c1 a2 c2 a3 c3,e= .returned (Value.tuple #[(Value.agg (ap r.1 a1 c1 a2 c2 a3 c3)),vi r.2.1,vi r.2.2])∧Ext w0 w∧AllCl [Cl.sl ah a1 c1 r.1.Lin.L,Cl.sl ak a2 c2 r.1.Idx,Cl.sl an a3 c3 r.1.Args] F w:=by
 refine EN Tryz.func18 Tryz.ntmps18 hF hc fun hI=> ?_
 rw[kR]at h
 refine sr (cU (cs:=#[vi 0,(str ([]:List UInt8)),vi 0,vi 0,vi 0,vi 0,vi 0,vi 0,vi 0,vi 0,vs none 0 0,vs none 0 0,vs none 0 0]) hI gn rfl rfl dQ rfl ?_)
 intro b1 c4 w1 hI
 refine T ?_
 obtain⟨r1,hx1,h⟩:=ae h
 refine aA gn rfl (Rc Tryz.func39) (Calls.mono (tI hI.lt trivial hx1) ?_)
 rintro _ w2 ⟨a4,c5,rfl,hx2,hl1⟩
 refine⟨_,rfl,?_⟩
 replace hI:=(hI.ext hx2).adds hl1;dsimp only[ca,na]at hI
 refine T ?_
 refine al (T ?_)
 refine TC (fun hb h=> ?_) fun hb h=> ?_
 ·refine sr (sq (aw (vs:=[]) (cs:=#[vi 0,(str ([]:List UInt8)),vi 0,vi 0,vi 0,vi 0,vi 0,vi 0,vi 0,vi 0,vs none 0 0,vs none 0 0,vs none 0 0]) rfl trivial (by kernel_rfl)) ?_)
  refine T ?_
  refine lA fun c6 w3 hI=> ?_
  refine T ?_
  refine az ?_
  have hI:=hI.add (c:=Cl.sl ah none 0 ([]:List GMono)) SlC.nil
  have hI:=hI.add (c:=Cl.sl ak none 0 ([]:List GIndex)) SlC.nil
  have hI:=hI.add (c:=Cl.sl an none 0 ([]:List GExpr)) SlC.nil
  obtain rfl:=ai h
  refine QG ?_
  exact⟨none,0,none,0,none,0,rfl,hI.ext0,hI.fin ⟨(.s (.s .z)),(.s .z),.z,trivial⟩⟩
 refine T ?_
 obtain⟨r2,hx3,h⟩:=ae h
 refine aA gn rfl (Rc Tryz.func15) (Calls.mono (ql hI.lt FS hx3) ?_)
 rintro _ w4 ⟨a5,c7,a6,c8,a7,c9,rfl,hx4,hl2⟩
 refine⟨_,rfl,?_⟩
 replace hI:=(hI.ext hx4).adds hl2;dsimp only[ca,na]at hI
 refine T ?_
 refine lN fun b2 c10 w5 hI=> ?_
 refine lA fun c11 w6 hI=> ?_
 refine T ?_
 refine bw (α:=Int) (fun _=>⟨44,[]⟩) (fun x=>[(0,(str s1)),(2,vp b1 0),(5,vs a4 r1.1.length c5),(7,vi x),(8,vp b2 0),(9,vi r2.2.1)]) (fun x=>fun w=>∃ C,Bun noM F w0 C w [MO.box b1 39 #[vi 0,(str ([]:List UInt8)),vi 0,vi 0,vi 0,vi 0,vi 0,vi 0,vi 0,vi 0,vs none 0 0,vs none 0 0,vs none 0 0],MO.box b2 39 (ap r2.1 a5 c7 a6 c8 a7 c9)] [Cl.sl cGToken a4 c5 r1.1,Cl.sl ah a5 c7 r2.1.Lin.L,Cl.sl ak a6 c8 r2.1.Idx,Cl.sl an a7 c9 r2.1.Args,au]∧lW s1 r1 r2 x=some r) ?_ ?_
 ·clear h hI;rintro e1 w7 ⟨c12,hI,h⟩
  try dsimp only at hI h ⊢
  rw[lW]at h
  refine al (T ?_)
  refine TC (fun hb h=> ?_) fun hb h=> ?_
  ·refine sr (sq (aw (vs:=[]) (cs:=#[vi 0,(str ([]:List UInt8)),vi 0,vi 0,vi 0,vi 0,vi 0,vi 0,vi 0,vi 0,vs none 0 0,vs none 0 0,vs none 0 0]) rfl trivial (by kernel_rfl)) ?_)
   refine T ?_
   refine sB h (fun _ k=>ux hI.lt FS k) (Rc Tryz.func40) fun r3 w8 h hI=> ?_
   refine sm ?_
   refine lA fun c13 w9 hI=> ?_
   refine T ?_
   refine az ?_
   have hI:=hI.add (c:=Cl.sl ah none 0 ([]:List GMono)) SlC.nil
   have hI:=hI.add (c:=Cl.sl ak none 0 ([]:List GIndex)) SlC.nil
   have hI:=hI.add (c:=Cl.sl an none 0 ([]:List GExpr)) SlC.nil
   obtain rfl:=ai h
   refine QG ?_
   exact⟨none,0,none,0,none,0,rfl,hI.ext0,hI.fin ⟨(.s (.s .z)),(.s .z),.z,trivial⟩⟩
  refine T ?_
  refine lA fun c14 w10 hI=> ?_
  refine T ?_
  refine az ?_
  obtain rfl:=ai h
  refine QG ?_
  exact⟨a5,c7,a6,c8,a7,c9,rfl,hI.ext0,hI.fin ⟨(.s .z),(.s (.s .z)),(.s (.s (.s .z))),trivial⟩⟩
 refine TC (fun hb h=> ?_) fun hb h=> ?_
 ·refine T ?_
  refine aK ?_
  exact kj 5
 exact bb (bj r2.2.2 SB BH rfl)
theorem p7 (hF:dy F w0) {a1 b1:GLin} (hc:AllCl [Cl.sl ah a2 c1 a1.L,Cl.sl ah a3 c2 b1.L] F w0) {r:Bool} (h:lJ a1 b1=some r):CR F w0 14 #[(Value.agg (bO a1 a2 c1)),(Value.agg (bO b1 a3 c2))] (vb r) []:=by
 refine EN Tryz.func14 Tryz.ntmps14 hF hc fun hI=> ?_
 rw[lJ]at h
 refine sr (lX fun b2 c4 w1 hI=> ?_)
 refine lX fun b3 c6 w2 hI=> ?_
 refine T ?_
 refine al (T ?_)
 refine TR fun hb h=> ?_
 refine T ?_
 refine al (T ?_)
 refine bc (α:=Nat×Int) (fun x=>fun w=>∃ C,Bun noM F w0 C w [] [Cl.blk b2 27 (bO a1 a2 c1),Cl.sl ah a2 c1 a1.L,Cl.blk b3 27 (bO b1 a3 c2),Cl.sl ah a3 c2 b1.L]∧iG a1 b1 (x.1) (x.2)=some r) (fun x _=>x.1) (fun x=>[(2,vp b2 0),(3,vp b3 0),(5,vi (x.2))]) (fu,0) BH SB ?_
 clear h hI;rintro⟨fuel1,i1⟩ w3 ⟨c7,hI,h⟩
 dsimp only at hI h ⊢
 rcases fuel1 with _ | fuel1
 ·rw[iG]at h;cases h
 rw[iG]at h
 refine al (T ?_)
 refine TC (fun hb h=> ?_) fun hb h=> ?_
 ·refine T ?_
  refine al (T ?_)
  refine al (aD [] false (.c (0,.q) (.c (1,.q) (.c (2,.q) (.c (3,.q) (.c (4,.q) (.c (5,.q) (.c (6,.q) (.c (7,.q) (.c (8,.q) (.c (9,.q) (.c (10,.q) .n))))))))))) hI (by kernel_rfl) (by kernel_rfl) ?_)
  intro w4 hI
  refine V ?_
  obtain⟨e1,hx1,h⟩:=ae h
  obtain⟨ad1,cs1,hA1,hr1,hq1⟩:=hI.clat (.s .z) hx1
  obtain rfl:cs1=(kb e1):=hr1
  refine vI ?_
  refine cp rfl gn rfl (fun w' hw'=>(am (l:=(kb e1)) rfl et u64 rfl qY (hq1.at_ (SX.any rfl hw')))) (by kernel_rfl) ?_
  refine V ?_
  obtain⟨e2,hx2,h⟩:=ae h
  obtain⟨ad2,cs2,hA2,hr2,hq2⟩:=hI.clat (.s (.s (.s .z))) hx2
  obtain rfl:cs2=(kb e2):=hr2
  refine vI ?_
  refine cp rfl gn rfl (fun w' hw'=>(am (l:=(kb e2)) rfl et u64 rfl qY (hq2.at_ (SX.any rfl hw')))) (by kernel_rfl) ?_
  refine kW rfl gn rfl (fun w'=>iO rfl et et (yf ..) (AO ..)) ?_
  refine V ?_
  refine TR fun hb h=> ?_
  refine T ?_
  refine aK ?_
  exact kl (fuel1,aq (i1+1))
 refine bh ?_
 refine eD ?_
 refine aX ?_
 exact RF
theorem pB (hF:dy F w0) (hc:AllCl [au] F w0) {r:Bool} (h:jZ=some r):CR F w0 11 #[] (vb r) []:=by
 refine o9 Tryz.func11 rfl Tryz.ntmps11 rfl ?_
 have hI:=Bun.start hF hc
 clear hc
 rw[jZ]at h
 refine T ?_
 obtain⟨r1,hx1,h⟩:=ae h
 refine aA gn rfl (aI (vs:=[(str ([50,42,105,32,45,32,51,32,43,32,105]:List UInt8))]) rfl Hg ⟨aj,trivial⟩) (Calls.mono (tE (F:=(Dj F noM)) (w0:=w0) hI.lt (s1:=([50,42,105,32,45,32,51,32,43,32,105]:List UInt8)) trivial (r:=r1) hx1) ?_)
 rintro _ w1 ⟨a1,c1,rfl,hx2,hl1⟩
 refine⟨_,rfl,?_⟩
 replace hI:=(hI.ext hx2).adds hl1;dsimp only[ca,na]at hI
 refine T ?_
 obtain⟨r2,hx3,h⟩:=ae h
 refine aA gn rfl (aI (vs:=[vs a1 r1.1.length c1,vi 0]) rfl Hi ⟨et,⟨aj,trivial⟩⟩) (Calls.mono (yr (F:=(Dj F noM)) (w0:=w1) hI.lt (l1:=r1.1) (at1:=0) (a1:=a1) (c1:=c1) ⟨(hI.get .z),(hI.get (.s .z)),trivial⟩ (r:=r2) hx3) ?_)
 rintro _ w2 ⟨a2,c2,rfl,hx4,hl2⟩
 refine⟨_,rfl,?_⟩
 replace hI:=(hI.ext hx4).adds hl2;dsimp only[ca,na]at hI
 refine T ?_
 refine cU (cs:=#[vi 0,vs none 0 0]) hI gn rfl rfl kY rfl ?_
 clear hI;intro b1 c3 w3 hI
 refine bg (new:=(fO r2.1 a2 c2)) (cs':=(bO r2.1 a2 c2)) hI .z gn rfl rfl et et rfl bq rfl rfl rfl ?_
 clear hI;intro c4 w4 hI
 refine T ?_
 obtain⟨r3,hx5,h⟩:=ae h
 refine aA gn rfl (aI (vs:=[(str ([97,91,105,93,32,43,32,98,91,93,32,42,32,91,50,93]:List UInt8))]) rfl Bt ⟨aj,trivial⟩) (Calls.mono (nN (F:=(Dj F c4)) (w0:=w4) hI.lt (s1:=([97,91,105,93,32,43,32,98,91,93,32,42,32,91,50,93]:List UInt8)) ⟨(hI.get (.s (.s .z))),trivial⟩ (r:=r3) hx5) ?_)
 rintro _ w5 ⟨a3,c5,a4,c6,a5,c7,rfl,hx6,hl3⟩
 refine⟨_,rfl,?_⟩
 replace hI:=(hI.ext hx6).adds hl3;dsimp only[ca,na]at hI
 refine T ?_
 refine cU (cs:=#[vi 0,(str ([]:List UInt8)),vi 0,vi 0,vi 0,vi 0,vi 0,vi 0,vi 0,vi 0,vs none 0 0,vs none 0 0,vs none 0 0]) hI gn rfl rfl dQ rfl ?_
 clear hI;intro b2 c8 w6 hI
 refine bg (new:=(aU r3.1 a3 c5 a4 c6 a5 c7)) (cs':=(ap r3.1 a3 c5 a4 c6 a5 c7)) hI .z gn rfl rfl et et rfl aC rfl rfl rfl ?_
 clear hI;intro c9 w7 hI
 refine T ?_
 obtain⟨r4,hx7,h⟩:=ae h
 refine aA gn rfl (aI (vs:=[(str ([97,91]:List UInt8))]) rfl Bt ⟨aj,trivial⟩) (Calls.mono (nN (F:=(Dj F c9)) (w0:=w7) hI.lt (s1:=([97,91]:List UInt8)) ⟨(hI.get (.s (.s (.s (.s (.s .z)))))),trivial⟩ (r:=r4) hx7) ?_)
 rintro _ w8 ⟨a6,c10,a7,c11,a8,c12,rfl,hx8,hl4⟩
 refine⟨_,rfl,?_⟩
 replace hI:=(hI.ext hx8).adds hl4;dsimp only[ca,na]at hI
 refine T ?_
 refine cU (cs:=#[vi 0,(str ([]:List UInt8)),vi 0,vi 0,vi 0,vi 0,vi 0,vi 0,vi 0,vi 0,vs none 0 0,vs none 0 0,vs none 0 0]) hI gn rfl rfl dQ rfl ?_
 clear hI;intro b3 c13 w9 hI
 refine bg (new:=(aU r4.1 a6 c10 a7 c11 a8 c12)) (cs':=(ap r4.1 a6 c10 a7 c11 a8 c12)) hI .z gn rfl rfl et et rfl aC rfl rfl rfl ?_
 clear hI;intro c14 w10 hI
 refine T ?_
 obtain⟨r5,hx9,h⟩:=ae h
 refine aA gn rfl (aI (vs:=[(str ([97,91,105,93,32,43,42,32,50]:List UInt8))]) rfl Bt ⟨aj,trivial⟩) (Calls.mono (nN (F:=(Dj F c14)) (w0:=w10) hI.lt (s1:=([97,91,105,93,32,43,42,32,50]:List UInt8)) ⟨(hI.get (.s (.s (.s (.s (.s (.s (.s (.s .z))))))))),trivial⟩ (r:=r5) hx9) ?_)
 rintro _ w11 ⟨a9,c15,a10,c16,a11,c17,rfl,hx10,hl5⟩
 refine⟨_,rfl,?_⟩
 replace hI:=(hI.ext hx10).adds hl5;dsimp only[ca,na]at hI
 refine T ?_
 refine cU (cs:=#[vi 0,(str ([]:List UInt8)),vi 0,vi 0,vi 0,vi 0,vi 0,vi 0,vi 0,vi 0,vs none 0 0,vs none 0 0,vs none 0 0]) hI gn rfl rfl dQ rfl ?_
 clear hI;intro b4 c18 w12 hI
 refine bg (new:=(aU r5.1 a9 c15 a10 c16 a11 c17)) (cs':=(ap r5.1 a9 c15 a10 c16 a11 c17)) hI .z gn rfl rfl et et rfl aC rfl rfl rfl ?_
 clear hI;intro c19 w13 hI
 refine T ?_
 obtain⟨r6,hx11,h⟩:=ae h
 refine aA gn rfl (aI (vs:=[(str ([102,114,97,99,40,50,47,52,41]:List UInt8))]) rfl Bt ⟨aj,trivial⟩) (Calls.mono (nN (F:=(Dj F c19)) (w0:=w13) hI.lt (s1:=([102,114,97,99,40,50,47,52,41]:List UInt8)) ⟨(hI.get (.s (.s (.s (.s (.s (.s (.s (.s (.s (.s (.s .z)))))))))))),trivial⟩ (r:=r6) hx11) ?_)
 rintro _ w14 ⟨a12,c20,a13,c21,a14,c22,rfl,hx12,hl6⟩
 refine⟨_,rfl,?_⟩
 replace hI:=(hI.ext hx12).adds hl6;dsimp only[ca,na]at hI
 refine T ?_
 refine cU (cs:=#[vi 0,(str ([]:List UInt8)),vi 0,vi 0,vi 0,vi 0,vi 0,vi 0,vi 0,vi 0,vs none 0 0,vs none 0 0,vs none 0 0]) hI gn rfl rfl dQ rfl ?_
 clear hI;intro b5 c23 w15 hI
 refine bg (new:=(aU r6.1 a12 c20 a13 c21 a14 c22)) (cs':=(ap r6.1 a12 c20 a13 c21 a14 c22)) hI .z gn rfl rfl et et rfl aC rfl rfl rfl ?_
 clear hI;intro c24 w16 hI
 refine T ?_
 refine al (T ?_)
 refine ay (bX rfl rfl rfl rfl) rfl (fun hc=>(am (l:=(fO r2.1 a2 c2)) rfl et ob rfl bq (CellsAt.of_blk (hI.blk (.s (.s (.s (.s .z))))) rfl))) ?_
 refine ay (bX rfl rfl rfl rfl) rfl (fun hc=>(aw (vs:=[(0,(str ([105]:List UInt8))),(1,vi 3)]) (cs:=#[(str ([105]:List UInt8)),vi 3]) rfl ⟨rfl,aj,⟨rfl,aj,trivial⟩⟩ (by kernel_rfl))) ?_
 obtain⟨ho1,h⟩:=eu h
 refine j9 (c:=ah) (xs:=([(⟨([105]:List UInt8),3⟩:GMono)]:List GMono)) (vs:=[(0,(Value.agg #[(str ([105]:List UInt8)),vi 3]))]) (cs:=#[(str ([105]:List UInt8)),vi 3]) (css:=[[(str ([105]:List UInt8)),vi 3]]) hI (DK (bX rfl rfl rfl rfl) ho1) rfl rfl y7 m0 rfl ⟨rfl,(aO et ho1),trivial⟩ (by kernel_rfl) ⟨rfl,trivial⟩ rfl rfl rfl ?_
 clear hI;intro b6 c25 w17 hI
 refine ay (bX rfl rfl rfl rfl) rfl (fun hc=>(aw (vs:=[(0,vi (-3)),(1,(vs (some ⟨b6,0,none⟩) ([(⟨([105]:List UInt8),3⟩:GMono)]:List GMono).length 1))]) (cs:=#[vi (-3),(vs (some ⟨b6,0,none⟩) ([(⟨([105]:List UInt8),3⟩:GMono)]:List GMono).length 1)]) rfl ⟨rfl,aj,⟨rfl,et,trivial⟩⟩ (by kernel_rfl))) ?_
 obtain⟨r7,hx13,h⟩:=ae h
 refine aA (DK (bX rfl rfl rfl rfl) ho1) rfl (aI (vs:=[(Value.agg (bO r2.1 a2 c2)),(Value.agg #[vi (-3),(vs (some ⟨b6,0,none⟩) ([(⟨([105]:List UInt8),3⟩:GMono)]:List GMono).length 1)])]) rfl Fe ⟨(aO et ho1),⟨(aO et ho1),trivial⟩⟩) (Calls.mono (p7 (F:=noM) (w0:=w17) NE (a1:=r2.1) (b1:=(⟨(-3),([(⟨([105]:List UInt8),3⟩:GMono)]:List GMono)⟩:GLin)) (a2:=a2) (c1:=c2) (a3:=(some ⟨b6,0,none⟩)) (c2:=1) ⟨(hI.get0 (.s (.s (.s (.s (.s (.s (.s (.s (.s (.s (.s (.s .z))))))))))))),hI.lend .z,trivial⟩ (r:=r7) hx13) ?_)
 rintro _ w18 ⟨rfl,hx14,hl7⟩
 refine⟨_,rfl,?_⟩
 replace hI:=(hI.ext hx14)
 refine T ?_
 refine wJ h et (fun hb h=> ?_) (fun hb h=> ?_)
 ·refine T ?_
  refine az ?_
  obtain rfl:=ai h
  exact QF hI
 refine T ?_
 obtain⟨e1,hx15,h⟩:=ae h
 replace hx15:=ax hx15
 obtain⟨ad1,cs1,hq1⟩:=hI.gclat (.s (.s (.s (.s (.s (.s (.s (.s (.s (.s (.s .z))))))))))) hx15
 obtain⟨a15,c26,a16,c27,a17,c28,hq2⟩:∃ (a15:Option Addr) (c26:Nat) (a16:Option Addr) (c27:Nat) (a17:Option Addr) (c28:Nat),(decide (r3.1.Op=4))=true→(a5=some ad1∧cs1=(aU e1 a15 c26 a16 c27 a17 c28)∧CA (Dj F c25) w18 (ad1.add (Int.toNat 0 * 13)) cs1∧SlC ah (Dj F c25) w18 a15 c26 e1.Lin.L∧SlC ak (Dj F c25) w18 a16 c27 e1.Idx∧SlC an (Dj F c25) w18 a17 c28 e1.Args):=by
  by_cases hc:(decide (r3.1.Op=4))=true
  ·obtain⟨k1,k2,k3⟩:=hq1 hc;obtain⟨a15,c26,a16,c27,a17,c28,rfl,hf1,hf2,hf3⟩:=ij k2;exact⟨a15,c26,a16,c27,a17,c28,fun _=>⟨k1,rfl,k3,hf1,hf2,hf3⟩⟩
  exact⟨default,default,default,default,default,default,fun k=>absurd k hc⟩
 clear hq1
 have hI:=hI.add (c:=Cl.gsl (decide (r3.1.Op=4)) ah a15 c26 e1.Lin.L) (fun hc=>(hq2 hc).2.2.2.1)
 have hI:=hI.add (c:=Cl.gsl (decide (r3.1.Op=4)) ak a16 c27 e1.Idx) (fun hc=>(hq2 hc).2.2.2.2.1)
 have hI:=hI.add (c:=Cl.gsl (decide (r3.1.Op=4)) an a17 c28 e1.Args) (fun hc=>(hq2 hc).2.2.2.2.2)
 have hq3:(decide (r3.1.Op=4))=true→CA (Dj F c25) w18 (ad1.add (Int.toNat 0 * 13)) (aU e1 a15 c26 a16 c27 a17 c28):=fun hc=>uc (hq2 hc).2.1 (hq2 hc).2.2.1
 refine sJ ?_
 refine T ?_
 obtain⟨e2,hx16,h⟩:=ae h
 replace hx16:=ax hx16
 obtain⟨ad2,cs2,hq4⟩:=hI.gclat (.s (.s (.s (.s (.s (.s (.s (.s (.s (.s (.s (.s (.s (.s .z)))))))))))))) hx16
 obtain⟨a18,c29,a19,c30,a20,c31,hq5⟩:∃ (a18:Option Addr) (c29:Nat) (a19:Option Addr) (c30:Nat) (a20:Option Addr) (c31:Nat),((decide (r3.1.Op=4))&&(decide (e1.Op=3)))=true→(a5=some ad2∧cs2=(aU e2 a18 c29 a19 c30 a20 c31)∧CA (Dj F c25) w18 (ad2.add (Int.toNat 1 * 13)) cs2∧SlC ah (Dj F c25) w18 a18 c29 e2.Lin.L∧SlC ak (Dj F c25) w18 a19 c30 e2.Idx∧SlC an (Dj F c25) w18 a20 c31 e2.Args):=by
  by_cases hc:((decide (r3.1.Op=4))&&(decide (e1.Op=3)))=true
  ·obtain⟨k1,k2,k3⟩:=hq4 hc;obtain⟨a18,c29,a19,c30,a20,c31,rfl,hf4,hf5,hf6⟩:=ij k2;exact⟨a18,c29,a19,c30,a20,c31,fun _=>⟨k1,rfl,k3,hf4,hf5,hf6⟩⟩
  exact⟨default,default,default,default,default,default,fun k=>absurd k hc⟩
 clear hq4
 have hI:=hI.add (c:=Cl.gsl ((decide (r3.1.Op=4))&&(decide (e1.Op=3))) ah a18 c29 e2.Lin.L) (fun hc=>(hq5 hc).2.2.2.1)
 have hI:=hI.add (c:=Cl.gsl ((decide (r3.1.Op=4))&&(decide (e1.Op=3))) ak a19 c30 e2.Idx) (fun hc=>(hq5 hc).2.2.2.2.1)
 have hI:=hI.add (c:=Cl.gsl ((decide (r3.1.Op=4))&&(decide (e1.Op=3))) an a20 c31 e2.Args) (fun hc=>(hq5 hc).2.2.2.2.2)
 have hq6:((decide (r3.1.Op=4))&&(decide (e1.Op=3)))=true→CA (Dj F c25) w18 (ad2.add (Int.toNat 1 * 13)) (aU e2 a18 c29 a19 c30 a20 c31):=fun hc=>uc (hq5 hc).2.1 (hq5 hc).2.2.1
 refine sJ ?_
 refine T ?_
 refine az ?_
 obtain rfl:=ai h
 exact QF hI
theorem bs (hF:dy F w0) {p1:ac} {k1:Int} {s1:List UInt8} (hc:AllCl [Cl.sl cGToken a1 c1 p1.L] F w0) {r:Bool} (h:aJ p1 k1 s1=some r):CR F w0 72 #[(Value.agg (ab p1 a1 c1)),vi k1,(str s1)] (vb r) []:=by
 refine EN Tryz.func72 Tryz.ntmps72 hF hc fun hI=> ?_
 rw[aJ]at h
 refine sr (lX fun b1 c3 w1 hI=> ?_)
 refine T ?_
 refine al (T ?_)
 refine TR fun hb h=> ?_
 refine T ?_
 refine bw (α:=Int) (fun _=>⟨53,[]⟩) (fun x=>[(1,vi k1),(2,(str s1)),(3,vp b1 0),(7,vi x)]) (fun x=>fun w=>∃ C,Bun noM F w0 C w [] [Cl.blk b1 72 (ab p1 a1 c1),Cl.sl cGToken a1 c1 p1.L]∧kP p1 k1 s1 x=some r) ?_ ?_
 ·clear h hI;rintro kind1 w2 ⟨c4,hI,h⟩
  try dsimp only at hI h ⊢
  rw[kP]at h
  refine T ?_
  obtain⟨e1,hx1,h⟩:=ae h
  obtain⟨ad1,cs1,hA1,hr1,hq1⟩:=hI.clat (.s .z) hx1
  obtain rfl:cs1=(ka e1):=hr1
  refine sI ?_
  refine T ?_
  obtain⟨e2,hx2,h⟩:=ae h
  replace hx2:=ax hx2
  obtain⟨ad2,cs2,hq2⟩:=hI.gclat (.s .z) hx2
  have hq3:(decide (e1.Kind=kind1))=true→CA (Dj F c4) w2 (ad2.add (Int.toNat (aq (p1.At+k1)) * 3)) (ka e2):=fun hc=>uc (hq2 hc).2.1 (hq2 hc).2.2
  refine sJ ?_
  exact RF
 refine T ?_
 obtain⟨b2,hx3,h⟩:=ae h
 refine sI ?_
 refine T ?_
 obtain⟨b3,hx4,h⟩:=ae h
 replace hx4:=ax hx4
 refine sJ ?_
 refine TC (fun hb h=> ?_) fun hb h=> ?_
 ·refine T ?_
  refine aK ?_
  exact kj 1
 exact bb (bj 3 SB BH rfl)
theorem yA (hF:dy F w0) (hc:AllCl [] F w0) {r:List (List UInt8)} (h:l5=some r):Cg 116 #[] w0 fun e w=>∃ a1 c1,e= .returned (vs a1 r.length c1)∧Ext w0 w∧AllCl [Cl.sl cStr a1 c1 r] F w:=by
 refine EN Tryz.func116 Tryz.ntmps116 hF hc fun hI=> ?_
 rw[l5]at h
 refine T ?_
 refine j9 (c:=cStr) (xs:=([([115,105,122,101]:List UInt8),([119,104,101,114,101]:List UInt8),([105,110]:List UInt8),([100,101,102]:List UInt8),([111,117,116]:List UInt8),([115,117,109]:List UInt8),([112,114,111,100]:List UInt8),([109,105,110]:List UInt8),([109,97,120]:List UInt8),([115,99,97,110]:List UInt8),([111,118,101,114]:List UInt8),([105,102]:List UInt8),([99,97,115,116]:List UInt8),([102,114,97,99]:List UInt8),([105,110,116]:List UInt8),([102,105,120]:List UInt8),([99,101,105,108]:List UInt8),([102,108,111,111,114]:List UInt8),([122,101,114,111]:List UInt8),([101,118,101,110]:List UInt8),([115,97,116]:List UInt8),([119,114,97,112]:List UInt8)]:List (List UInt8))) (vs:=[(0,(str ([115,105,122,101]:List UInt8))),(1,(str ([119,104,101,114,101]:List UInt8))),(2,(str ([105,110]:List UInt8))),(3,(str ([100,101,102]:List UInt8))),(4,(str ([111,117,116]:List UInt8))),(5,(str ([115,117,109]:List UInt8))),(6,(str ([112,114,111,100]:List UInt8))),(7,(str ([109,105,110]:List UInt8))),(8,(str ([109,97,120]:List UInt8))),(9,(str ([115,99,97,110]:List UInt8))),(10,(str ([111,118,101,114]:List UInt8))),(11,(str ([105,102]:List UInt8))),(12,(str ([99,97,115,116]:List UInt8))),(13,(str ([102,114,97,99]:List UInt8))),(14,(str ([105,110,116]:List UInt8))),(15,(str ([102,105,120]:List UInt8))),(16,(str ([99,101,105,108]:List UInt8))),(17,(str ([102,108,111,111,114]:List UInt8))),(18,(str ([122,101,114,111]:List UInt8))),(19,(str ([101,118,101,110]:List UInt8))),(20,(str ([115,97,116]:List UInt8))),(21,(str ([119,114,97,112]:List UInt8)))]) (cs:=#[(str ([115,105,122,101]:List UInt8)),(str ([119,104,101,114,101]:List UInt8)),(str ([105,110]:List UInt8)),(str ([100,101,102]:List UInt8)),(str ([111,117,116]:List UInt8)),(str ([115,117,109]:List UInt8)),(str ([112,114,111,100]:List UInt8)),(str ([109,105,110]:List UInt8)),(str ([109,97,120]:List UInt8)),(str ([115,99,97,110]:List UInt8)),(str ([111,118,101,114]:List UInt8)),(str ([105,102]:List UInt8)),(str ([99,97,115,116]:List UInt8)),(str ([102,114,97,99]:List UInt8)),(str ([105,110,116]:List UInt8)),(str ([102,105,120]:List UInt8)),(str ([99,101,105,108]:List UInt8)),(str ([102,108,111,111,114]:List UInt8)),(str ([122,101,114,111]:List UInt8)),(str ([101,118,101,110]:List UInt8)),(str ([115,97,116]:List UInt8)),(str ([119,114,97,112]:List UInt8))]) (css:=[[(str ([115,105,122,101]:List UInt8))],[(str ([119,104,101,114,101]:List UInt8))],[(str ([105,110]:List UInt8))],[(str ([100,101,102]:List UInt8))],[(str ([111,117,116]:List UInt8))],[(str ([115,117,109]:List UInt8))],[(str ([112,114,111,100]:List UInt8))],[(str ([109,105,110]:List UInt8))],[(str ([109,97,120]:List UInt8))],[(str ([115,99,97,110]:List UInt8))],[(str ([111,118,101,114]:List UInt8))],[(str ([105,102]:List UInt8))],[(str ([99,97,115,116]:List UInt8))],[(str ([102,114,97,99]:List UInt8))],[(str ([105,110,116]:List UInt8))],[(str ([102,105,120]:List UInt8))],[(str ([99,101,105,108]:List UInt8))],[(str ([102,108,111,111,114]:List UInt8))],[(str ([122,101,114,111]:List UInt8))],[(str ([101,118,101,110]:List UInt8))],[(str ([115,97,116]:List UInt8))],[(str ([119,114,97,112]:List UInt8))]]) hI gn rfl rfl xq lM rfl ⟨rfl,aj,⟨rfl,aj,⟨rfl,aj,⟨rfl,aj,⟨rfl,aj,⟨rfl,aj,⟨rfl,aj,⟨rfl,aj,⟨rfl,aj,⟨rfl,aj,⟨rfl,aj,⟨rfl,aj,⟨rfl,aj,⟨rfl,aj,⟨rfl,aj,⟨rfl,aj,⟨rfl,aj,⟨rfl,aj,⟨rfl,aj,⟨rfl,aj,⟨rfl,aj,⟨rfl,aj,trivial⟩⟩⟩⟩⟩⟩⟩⟩⟩⟩⟩⟩⟩⟩⟩⟩⟩⟩⟩⟩⟩⟩ (by kernel_rfl) ⟨rfl,⟨rfl,⟨rfl,⟨rfl,⟨rfl,⟨rfl,⟨rfl,⟨rfl,⟨rfl,⟨rfl,⟨rfl,⟨rfl,⟨rfl,⟨rfl,⟨rfl,⟨rfl,⟨rfl,⟨rfl,⟨rfl,⟨rfl,⟨rfl,⟨rfl,trivial⟩⟩⟩⟩⟩⟩⟩⟩⟩⟩⟩⟩⟩⟩⟩⟩⟩⟩⟩⟩⟩⟩ rfl rfl rfl ?_
 intro b1 c2 w1 hI
 refine T ?_
 refine az ?_
 obtain⟨c3,hI⟩:=hI.release .z
 obtain rfl:=ai h
 refine QG ?_
 exact⟨some ⟨b1,0,none⟩,22,rfl,hI.ext0,hI.fin ⟨.z,trivial⟩⟩
theorem wy (hF:dy F w0) {l1:List (List UInt8)} {s1:List UInt8} (hc:AllCl [Cl.sl cStr a1 c1 l1] F w0) {r:Bool} (h:nz l1 s1=some r):CR F w0 115 #[vs a1 l1.length c1,(str s1)] (vb r) []:=by
 refine EN Tryz.func115 Tryz.ntmps115 hF hc fun hI=> ?_
 rw[nz]at h
 refine T ?_
 refine al (T ?_)
 refine bc (α:=Nat×Int) (fun x=>fun w=>∃ C,Bun noM F w0 C w [] [Cl.sl cStr a1 c1 l1]∧gP l1 s1 (x.1) (x.2)=some r) (fun x _=>x.1) (fun x=>[(0,vs a1 l1.length c1),(1,(str s1)),(5,vi (x.2))]) (fu,0) BH SB ?_
 clear h hI;rintro⟨fuel1,i1⟩ w1 ⟨c2,hI,h⟩
 dsimp only at hI h ⊢
 rcases fuel1 with _ | fuel1
 ·rw[gP]at h;cases h
 rw[gP]at h
 refine al (T ?_)
 refine TC (fun hb h=> ?_) fun hb h=> ?_
 ·refine T ?_
  refine al (T ?_)
  obtain⟨e1,hx1,h⟩:=ae h
  obtain⟨ad1,cs1,hA1,hr1,hq1⟩:=hI.clat .z hx1
  obtain rfl:cs1=[(str e1)]:=hr1
  refine sI ?_
  refine TR fun hb h=> ?_
  refine T ?_
  refine aK ?_
  exact kl (fuel1,aq (i1+1))
 refine bh ?_
 refine eD ?_
 refine aX ?_
 exact RF
theorem nZ (hF:dy F w0) {s1:List UInt8} (hc:AllCl [] F w0) {r:Bool} (h:gW s1=some r):CR F w0 61 #[(str s1)] (vb r) []:=by
 refine EN Tryz.func61 Tryz.ntmps61 hF hc fun hI=> ?_
 rw[gW]at h
 refine T ?_
 refine al (T ?_)
 obtain⟨r1,hx1,h⟩:=ae h
 replace hx1:=ax hx1
 refine Da (β:=(Option Addr)×Nat) (fun x=>(vs (x.1) r1.length (x.2))) (fun x w'=>AllCl [Cl.sl cStr (x.1) (x.2) r1] (Dj F noM) w') (bX rfl rfl rfl rfl) rfl (fun hc=>(aI (vs:=[]) rfl Gj trivial)) (fun hc=>(yA hI.lt trivial (hx1 hc)).mono fun _ _ ⟨a1,c1,k1_,k2_,k3_⟩=>⟨(a1,c1),k1_,k2_,k3_⟩) ?_
 rintro⟨a1,c1⟩ w1 hx2 hl1;replace hI:=hI.ext hx2
 have hI:=hI.add (c:=Cl.gsl (!((decide ((s1.length:Int)<1))||(decide (16<(s1.length:Int))))) cStr a1 c1 r1) (fun hc=>(hl1 hc).1)
 refine T ?_
 obtain⟨r2,hx3,h⟩:=ae h
 replace hx3:=ax hx3
 refine sU (fun hc=>wy hI.lt ⟨(hI.get .z hc),trivial⟩ (hx3 hc)) (Rg Tryz.func115) fun w2 hI=> ?_
 refine TR fun hb h=> ?_
 refine T ?_
 refine al (T ?_)
 refine bc (α:=Nat×Int) (fun x=>fun w=>∃ C,Bun noM F w0 C w [] []∧gj s1 (x.1) (x.2)=some r) (fun x _=>x.1) (fun x=>[(0,(str s1)),(3,vi (x.2))]) (fu,0) BH SB ?_
 clear h hI;rintro⟨fuel1,i1⟩ w3 ⟨c2,hI,h⟩
 dsimp only at hI h ⊢
 rcases fuel1 with _ | fuel1
 ·rw[gj]at h;cases h
 rw[gj]at h
 refine al (T ?_)
 refine TC (fun hb h=> ?_) fun hb h=> ?_
 ·refine T ?_
  refine al (T ?_)
  obtain⟨b1,hx5,h⟩:=ae h
  refine sI ?_
  refine TR fun hb h=> ?_
  refine T ?_
  refine aK ?_
  exact kl (fuel1,aq (i1+1))
 refine bh ?_
 refine eD ?_
 refine aX ?_
 exact RF
theorem pc (hF:dy F w0) {p1:ac} (hc:AllCl [Cl.sl cGToken a1 c1 p1.L] F w0) {r:Bool} (h:gK p1=some r):CR F w0 133 #[(Value.agg (ab p1 a1 c1))] (vb r) []:=by
 refine EN Tryz.func133 Tryz.ntmps133 hF hc fun hI=> ?_
 rw[gK]at h
 refine sr (lX fun b1 c3 w1 hI=> ?_)
 refine T ?_
 obtain⟨e1,hx1,h⟩:=ae h
 replace hx1:=ax hx1
 obtain⟨ad1,cs1,hq1⟩:=hI.gclat (.s .z) hx1
 have hq2:((decide (p1.E=0))&&(decide (p1.At<(p1.L.length:Int))))=true→CA (Dj F c3) w1 (ad1.add (Int.toNat p1.At * 3)) (ka e1):=fun hc=>uc (hq1 hc).2.1 (hq1 hc).2.2
 refine sJ ?_
 refine T ?_
 obtain⟨e2,hx2,h⟩:=ae h
 replace hx2:=ax hx2
 obtain⟨ad2,cs2,hq3⟩:=hI.gclat (.s .z) hx2
 have hq4:(((decide (p1.E=0))&&(decide (p1.At<(p1.L.length:Int))))&&(decide (e1.Kind=1)))=true→CA (Dj F c3) w1 (ad2.add (Int.toNat p1.At * 3)) (ka e2):=fun hc=>uc (hq3 hc).2.1 (hq3 hc).2.2
 refine sJ ?_
 refine T ?_
 obtain⟨r1,hx3,h⟩:=ae h
 replace hx3:=ax hx3
 refine sU (fun hc=>nZ hI.lt trivial (hx3 hc)) (Rg Tryz.func61) fun w2 hI=> ?_
 exact RF
theorem jx (hF:dy F w0) {p1:ac} {at1 e1:Int} (hc:AllCl [Cl.sl cGToken a1 c1 p1.L] F w0) {r:ac} (h:br p1 at1 e1=some r):Cg 81 #[(Value.agg (ab p1 a1 c1)),vi at1,vi e1] w0 fun e w=>∃ a2 c2,e= .returned (Value.agg (ab r a2 c2))∧Ext w0 w∧AllCl [Cl.sl cGToken a2 c2 r.L] F w:=by
 refine EN Tryz.func81 Tryz.ntmps81 hF hc fun hI=> ?_
 rw[br]at h
 refine sr (mB (v:=(Value.agg (ab p1 a1 c1))) (cs:=(ab p1 a1 c1)) hI gn rfl rfl et rfl ?_)
 intro b1 c3 w1 hI
 refine lN fun b2 c4 w2 hI=> ?_
 refine nk (al (T ?_))
 refine TC (fun hb h=> ?_) fun hb h=> ?_
 ·refine T ?_
  refine lS fun c5 w3 hI=> ?_
  refine T ?_
  refine lS fun c6 w4 hI=> ?_
  refine T ?_
  refine lA fun c7 w5 hI=> ?_
  refine nk (az ?_)
  obtain rfl:=ai h
  refine QG ?_
  exact⟨a1,c1,rfl,hI.ext0,hI.fin ⟨.z,trivial⟩⟩
 refine T ?_
 refine lA fun c8 w6 hI=> ?_
 refine nk (az ?_)
 obtain rfl:=ai h
 refine QG ?_
 exact⟨a1,c1,rfl,hI.ext0,hI.fin ⟨.z,trivial⟩⟩
theorem mt (hF:dy F w0) {p1:ac} (hc:AllCl [Cl.sl cGToken a1 c1 p1.L] F w0) {r:ac} (h:cX p1=some r):Cg 41 #[(Value.agg (ab p1 a1 c1))] w0 fun e w=>∃ a2 c2,e= .returned (Value.agg (ab r a2 c2))∧Ext w0 w∧AllCl [Cl.sl cGToken a2 c2 r.L] F w:=by
 refine EN Tryz.func41 Tryz.ntmps41 hF hc fun hI=> ?_
 rw[cX]at h
 refine sr (lX fun b1 c4 w1 hI=> ?_)
 refine lN fun b2 c5 w2 hI=> ?_
 refine nk (al (T ?_))
 refine TC (fun hb h=> ?_) fun hb h=> ?_
 ·refine sr (sq (am (l:=(ag p1 a1 c1)) rfl et km rfl aG (hI.kblk (l:=(ag p1 a1 c1)) .z rfl).1) ?_)
  refine T ?_
  obtain⟨r1,hx1,h⟩:=ae h
  refine aA gn rfl (Rc Tryz.func81) (Calls.mono (jx hI.lt FS hx1) ?_)
  rintro _ w3 ⟨a3,c6,rfl,hx2,hl1⟩
  refine⟨_,rfl,?_⟩
  replace hI:=(hI.ext hx2).adds hl1;dsimp only[ca,na]at hI
  refine lA fun c7 w4 hI=> ?_
  refine nk (az ?_)
  obtain rfl:=ai h
  refine QG ?_
  exact⟨a3,c6,rfl,hI.ext0,hI.fin ⟨.z,trivial⟩⟩
 refine T ?_
 refine sq (am (l:=(ag p1 a1 c1)) rfl et km rfl aG (hI.kblk (l:=(ag p1 a1 c1)) .z rfl).1) ?_
 refine T ?_
 obtain⟨r2,hx3,h⟩:=ae h
 refine aA gn rfl (Rc Tryz.func81) (Calls.mono (jx hI.lt FS hx3) ?_)
 rintro _ w5 ⟨a4,c8,rfl,hx4,hl2⟩
 refine⟨_,rfl,?_⟩
 replace hI:=(hI.ext hx4).adds hl2;dsimp only[ca,na]at hI
 refine lA fun c9 w6 hI=> ?_
 refine nk (az ?_)
 obtain rfl:=ai h
 refine QG ?_
 exact⟨a4,c8,rfl,hI.ext0,hI.fin ⟨.z,trivial⟩⟩
theorem og (hF:dy F w0) {p1:ac} (hc:AllCl [Cl.sl cGToken a1 c1 p1.L] F w0) {r:List UInt8×ac} (h:el p1=some r):Cg 134 #[(Value.agg (ab p1 a1 c1))] w0 fun e w=>∃ a2 c2,e= .returned (Value.tuple #[(str r.1),(Value.agg (ab r.2 a2 c2))])∧Ext w0 w∧AllCl [Cl.sl cGToken a2 c2 r.2.L] F w:=by
 refine EN Tryz.func134 Tryz.ntmps134 hF hc fun hI=> ?_
 rw[el]at h
 refine sr (mB (v:=(Value.agg (ab p1 a1 c1))) (cs:=(ab p1 a1 c1)) hI gn rfl rfl et rfl ?_)
 intro b1 c3 w1 hI
 refine ry ?_
 refine lN fun b2 c4 w2 hI=> ?_
 refine nk (al (T ?_))
 refine sB h (fun _ k=>pc hI.lt FS k) (Rc Tryz.func133) fun r1 w3 h hI=> ?_
 refine TC (fun hb h=> ?_) fun hb h=> ?_
 ·refine T ?_
  obtain⟨r2,hx3,h⟩:=ae h
  refine aA gn rfl (Rc Tryz.func41) (Calls.mono (mt hI.lt FS hx3) ?_)
  rintro _ w4 ⟨a3,c5,rfl,hx4,hl2⟩
  refine⟨_,rfl,?_⟩
  replace hI:=(hI.ext hx4).adds hl2;dsimp only[ca,na]at hI
  refine ry ?_
  refine lA fun c6 w5 hI=> ?_
  refine nk (az ?_)
  obtain rfl:=ai h
  refine QG ?_
  exact⟨a3,c5,rfl,hI.ext0,hI.fin ⟨.z,trivial⟩⟩
 refine T ?_
 refine lS fun c7 w6 hI=> ?_
 refine nk (al (aD [10] false (.c (0,.q) (.c (1,.q) (.c (2,.q) (.c (3,.q) (.c (4,.q) (.c (5,.q) (.c (6,.q) (.c (7,.q) (.c (8,.q) (.c (9,.q) (.c (10,.s) .n))))))))))) hI (by kernel_rfl) (by kernel_rfl) ?_))
 intro w7 hI
 refine V ?_
 obtain⟨e1,hx5,h⟩:=ae h
 obtain⟨ad1,cs1,hA1,hr1,hq1⟩:=hI.clat .z hx5
 obtain rfl:cs1=(ka e1):=hr1
 refine vI ?_
 refine V ?_
 refine cp rfl gn rfl (fun w' hw'=>(am (l:=[vs a1 p1.L.length c1,(vi (aq (p1.At+1))),vi p1.Deep,vi p1.E,vi p1.Pos]) rfl et km rfl aG ((CA.blk (hI.blk (.s .z)) rfl).at_ (SX.any rfl hw')))) (by kernel_rfl) ?_
 refine V ?_
 refine bH (F:=F) (C:=c7) rfl rfl ?_
 refine vA fun c8 w8 hI=> ?_
 refine V ?_
 refine az ?_
 obtain rfl:=ai h
 refine QG ?_
 exact⟨a1,c1,rfl,hI.ext0,hI.fin ⟨.z,trivial⟩⟩
theorem uf (hF:dy F w0) {name1:List UInt8} (hc:AllCl [] F w0) {r:GLin} (h:eB name1=some r):Cg 135 #[(str name1)] w0 fun e w=>∃ a1 c1,e= .returned (Value.agg (bO r a1 c1))∧Ext w0 w∧AllCl [Cl.sl ah a1 c1 r.L] F w:=by
 refine EN Tryz.func135 Tryz.ntmps135 hF hc fun hI=> ?_
 rw[eB]at h
 refine sr (cU (cs:=#[vi 0,vs none 0 0]) hI gn rfl rfl kY rfl ?_)
 intro b1 c2 w1 hI
 refine nk (al (T ?_))
 refine sB h (fun _ k=>nZ hI.lt trivial k) (Rc Tryz.func61) fun r1 w2 h hI=> ?_
 refine TC (fun hb h=> ?_) fun hb h=> ?_
 ·refine sr (sq (aw (vs:=[]) (cs:=#[vi 0,vs none 0 0]) rfl trivial (by kernel_rfl)) ?_)
  refine lA fun c3 w3 hI=> ?_
  refine nk (az ?_)
  have hI:=hI.add (c:=Cl.sl ah none 0 ([]:List GMono)) SlC.nil
  obtain rfl:=ai h
  refine QG ?_
  exact⟨none,0,rfl,hI.ext0,hI.fin ⟨.z,trivial⟩⟩
 refine T ?_
 refine sq (aw (vs:=[(0,(str name1)),(1,vi 1)]) (cs:=#[(str name1),vi 1]) rfl ⟨rfl,et,⟨rfl,aj,trivial⟩⟩ (by kernel_rfl)) ?_
 refine j9 (c:=ah) (xs:=([(⟨name1,1⟩:GMono)]:List GMono)) (vs:=[(0,(Value.agg #[(str name1),vi 1]))]) (cs:=#[(str name1),vi 1]) (css:=[[(str name1),vi 1]]) hI gn rfl rfl y7 m0 rfl ⟨rfl,et,trivial⟩ (by kernel_rfl) ⟨rfl,trivial⟩ rfl rfl rfl ?_
 intro b2 c4 w4 hI
 refine sq (aw (vs:=[(1,(vs (some ⟨b2,0,none⟩) ([(⟨name1,1⟩:GMono)]:List GMono).length 1))]) (cs:=#[vi 0,(vs (some ⟨b2,0,none⟩) ([(⟨name1,1⟩:GMono)]:List GMono).length 1)]) rfl ⟨rfl,et,trivial⟩ (by kernel_rfl)) ?_
 refine lA fun c5 w5 hI=> ?_
 refine nk (az ?_)
 obtain⟨c6,hI⟩:=hI.release .z
 obtain rfl:=ai h
 refine QG ?_
 exact⟨some ⟨b2,0,none⟩,1,rfl,hI.ext0,hI.fin ⟨.z,trivial⟩⟩
theorem v8 (hF:dy F w0) {s1:List UInt8} (hc:AllCl [] F w0) {r:Bool} (h:mM s1=some r):CR F w0 188 #[(str s1)] (vb r) []:=by
 refine EN Tryz.func188 Tryz.ntmps188 hF hc fun hI=> ?_
 rw[mM]at h
 refine T ?_
 refine bw (α:=Unit) (fun _=>⟨32,[]⟩) (fun _=>[(0,(str s1))]) (fun _=>fun w=>∃ C,Bun noM F w0 C w [] []∧jo s1=some r) ?_ ?_
 ·clear h hI;rintro _ w1 ⟨c1,hI,h⟩
  try dsimp only at hI h ⊢
  rw[jo]at h
  refine T ?_
  obtain⟨b1,hx1,h⟩:=ae h
  replace hx1:=ax hx1
  refine sJ ?_
  exact RF
 refine T ?_
 refine bc (α:=Nat×Int) (fun x=>fun w=>∃ C,Bun noM F w0 C w [] []∧ff s1 (x.1) (x.2)=some r) (fun x _=>x.1) (fun x=>[(0,(str s1)),(3,vi (x.2))]) (fu,0) BH SB ?_
 clear h hI;rintro⟨fuel1,i1⟩ w2 ⟨c2,hI,h⟩
 dsimp only at hI h ⊢
 rcases fuel1 with _ | fuel1
 ·rw[ff]at h;cases h
 rw[ff]at h
 refine al (T ?_)
 refine TC (fun hb h=> ?_) fun hb h=> ?_
 ·refine T ?_
  refine al (T ?_)
  obtain⟨b2,hx2,h⟩:=ae h
  refine sI ?_
  refine T ?_
  obtain⟨b3,hx3,h⟩:=ae h
  replace hx3:=ax hx3
  refine sJ ?_
  refine TR fun hb h=> ?_
  refine T ?_
  refine aK ?_
  exact kl (fuel1,aq (i1+1))
 refine bh ?_
 refine eD ?_
 exact kj ()
theorem m4 (hF:dy F w0) {p1:ac} (hc:AllCl [Cl.sl cGToken a1 c1 p1.L] F w0) {r:List UInt8×ac} (h:dM p1=some r):Cg 136 #[(Value.agg (ab p1 a1 c1))] w0 fun e w=>∃ a2 c2,e= .returned (Value.tuple #[(str r.1),(Value.agg (ab r.2 a2 c2))])∧Ext w0 w∧AllCl [Cl.sl cGToken a2 c2 r.2.L] F w:=by
 refine EN Tryz.func136 Tryz.ntmps136 hF hc fun hI=> ?_
 rw[dM]at h
 refine sr (mB (v:=(Value.agg (ab p1 a1 c1))) (cs:=(ab p1 a1 c1)) hI gn rfl rfl et rfl ?_)
 intro b1 c3 w1 hI
 refine ry ?_
 refine lN fun b2 c4 w2 hI=> ?_
 refine nk (al (T ?_))
 obtain⟨e1,hx1,h⟩:=ae h
 replace hx1:=ax hx1
 obtain⟨ad1,cs1,hq1⟩:=hI.gclat .z hx1
 have hq2:(!((!decide (p1.E=0))||(decide ((p1.L.length:Int)≤p1.At))))=true→CA (Dj F c4) w2 (ad1.add (Int.toNat p1.At * 3)) (ka e1):=fun hc=>uc (hq1 hc).2.1 (hq1 hc).2.2
 refine sJ ?_
 refine T ?_
 obtain⟨e2,hx2,h⟩:=ae h
 replace hx2:=ax hx2
 obtain⟨ad2,cs2,hq3⟩:=hI.gclat .z hx2
 have hq4:(!(((!decide (p1.E=0))||(decide ((p1.L.length:Int)≤p1.At)))||(!decide (e1.Kind=2))))=true→CA (Dj F c4) w2 (ad2.add (Int.toNat p1.At * 3)) (ka e2):=fun hc=>uc (hq3 hc).2.1 (hq3 hc).2.2
 refine sJ ?_
 refine T ?_
 obtain⟨r1,hx3,h⟩:=ae h
 replace hx3:=ax hx3
 refine sU (fun hc=>v8 hI.lt trivial (hx3 hc)) (Rg Tryz.func188) fun w3 hI=> ?_
 refine TC (fun hb h=> ?_) fun hb h=> ?_
 ·refine T ?_
  obtain⟨r2,hx5,h⟩:=ae h
  refine aA gn rfl (Rc Tryz.func41) (Calls.mono (mt hI.lt FS hx5) ?_)
  rintro _ w4 ⟨a3,c5,rfl,hx6,hl2⟩
  refine⟨_,rfl,?_⟩
  replace hI:=(hI.ext hx6).adds hl2;dsimp only[ca,na]at hI
  refine ry ?_
  refine lA fun c6 w5 hI=> ?_
  refine nk (az ?_)
  obtain rfl:=ai h
  refine QG ?_
  exact⟨a3,c5,rfl,hI.ext0,hI.fin ⟨.z,trivial⟩⟩
 refine T ?_
 refine lS fun c7 w6 hI=> ?_
 refine nk (al (aD [10] false (.c (0,.q) (.c (1,.q) (.c (2,.q) (.c (3,.q) (.c (4,.q) (.c (5,.q) (.c (6,.q) (.c (7,.q) (.c (8,.q) (.c (9,.q) (.c (10,.s) .n))))))))))) hI (by kernel_rfl) (by kernel_rfl) ?_))
 intro w7 hI
 refine V ?_
 obtain⟨e3,hx7,h⟩:=ae h
 obtain⟨ad3,cs3,hA3,hr3,hq5⟩:=hI.clat .z hx7
 obtain rfl:cs3=(ka e3):=hr3
 refine vI ?_
 refine V ?_
 refine cp rfl gn rfl (fun w' hw'=>(am (l:=[vs a1 p1.L.length c1,(vi (aq (p1.At+1))),vi p1.Deep,vi p1.E,vi p1.Pos]) rfl et km rfl aG ((CA.blk (hI.blk (.s .z)) rfl).at_ (SX.any rfl hw')))) (by kernel_rfl) ?_
 refine V ?_
 refine bH (F:=F) (C:=c7) rfl rfl ?_
 refine vA fun c8 w8 hI=> ?_
 refine V ?_
 refine az ?_
 obtain rfl:=ai h
 refine QG ?_
 exact⟨a1,c1,rfl,hI.ext0,hI.fin ⟨.z,trivial⟩⟩
theorem pZ (hF:dy F w0) {a1 b1:Int} (hc:AllCl [] F w0) {r:Int×Bool} (h:iA a1 b1=some r):CR F w0 189 #[vi a1,vi b1] (Value.tuple #[vi r.1,vb r.2]) []:=by
 refine EN Tryz.func189 Tryz.ntmps189 hF hc fun hI=> ?_
 rw[iA]at h
 refine T ?_
 refine al (T ?_)
 refine TR fun hb h=> ?_
 refine T ?_
 refine al (T ?_)
 obtain⟨ho1,h⟩:=eu h
 refine ay (bX rfl rfl rfl rfl) rfl (fun hc=>yR rfl (aO et hc) (aO et hc) (ho1 hc)) ?_
 refine TR fun hb h=> ?_
 exact RF
theorem qS (hF:dy F w0) {a1 b1:Int} (hc:AllCl [] F w0) {r:Int×Bool} (h:lI a1 b1=some r):CR F w0 190 #[vi a1,vi b1] (Value.tuple #[vi r.1,vb r.2]) []:=by
 refine EN Tryz.func190 Tryz.ntmps190 hF hc fun hI=> ?_
 rw[lI]at h
 refine T ?_
 refine al (T ?_)
 refine TR fun hb h=> ?_
 exact RF
theorem qI (hF:dy F w0) {s1:List UInt8} {negative1:Bool} (hc:AllCl [] F w0) {r:Int×Bool} (h:gb s1 negative1=some r):CR F w0 137 #[(str s1),vb negative1] (Value.tuple #[vi r.1,vb r.2]) []:=by
 refine EN Tryz.func137 Tryz.ntmps137 hF hc fun hI=> ?_
 rw[gb]at h
 refine T ?_
 refine al (T ?_)
 refine bc (α:=Nat×Int×Int) (fun x=>fun w=>∃ C,Bun noM F w0 C w [] []∧cv s1 negative1 (x.1) (x.2.1) (x.2.2)=some r) (fun x _=>x.1) (fun x=>[(0,(str s1)),(1,vb negative1),(6,vi (x.2.1)),(7,vi (x.2.2))]) (fu,0,0) BH SB ?_
 clear h hI;rintro⟨fuel1,n1,i1⟩ w1 ⟨c1,hI,h⟩
 dsimp only at hI h ⊢
 rcases fuel1 with _ | fuel1
 ·rw[cv]at h;cases h
 rw[cv]at h
 refine al (T ?_)
 refine TC (fun hb h=> ?_) fun hb h=> ?_
 ·refine T ?_
  refine al (T ?_)
  obtain⟨b1,hx1,h⟩:=ae h
  refine sI ?_
  refine T ?_
  refine bw (α:=Int) (fun _=>⟨46,[]⟩) (fun x=>[(0,(str s1)),(1,vb negative1),(6,vi n1),(7,vi i1),(8,vi x)]) (fun x=>fun w=>∃ C,Bun noM F w0 C w [] []∧hH n1 (cv s1 negative1 fuel1) i1 x=some r) ?_ ?_
  ·clear h hI;rintro d1 w2 ⟨c2,hI,h⟩
   try dsimp only at hI h ⊢
   rw[hH]at h
   refine T ?_
   refine sB h (fun _ k=>pZ hI.lt trivial k) (Rc Tryz.func189) fun r1 w3 h hI=> ?_
   refine T ?_
   refine sB h (fun _ k=>qS hI.lt trivial k) (Rc Tryz.func190) fun r2 w4 h hI=> ?_
   refine T ?_
   refine al (T ?_)
   refine TR fun hb h=> ?_
   refine T ?_
   refine aK ?_
   exact kl (fuel1,r2.1,aq (i1+1))
  refine TC (fun hb h=> ?_) fun hb h=> ?_
  ·refine kN rfl ?_
   refine sm ?_
   refine sq (CC rfl et) ?_
   obtain⟨d2,hx6,h⟩:=ae h
   refine sq (sY (bE rfl et) (congrArg (Value.int .i64) (ai hx6))) ?_
   refine aK ?_
   exact kj d2
  exact bb (bj (aq (Ef (b1 - 48))) SB BH rfl)
 refine bh ?_
 refine eD ?_
 refine aX ?_
 exact RF
theorem mv (hF:dy F w0) {l1:GLin} (hc:AllCl [Cl.sl ah a1 c1 l1.L] F w0) {r:Bool} (h:gu l1=some r):CR F w0 114 #[(Value.agg (bO l1 a1 c1))] (vb r) []:=by
 refine EN Tryz.func114 Tryz.ntmps114 hF hc fun hI=> ?_
 rw[gu]at h
 refine sr (lX fun b1 c3 w1 hI=> ?_)
 refine T ?_
 refine al (T ?_)
 refine bc (α:=Nat×Int) (fun x=>fun w=>∃ C,Bun noM F w0 C w [] [Cl.blk b1 27 (bO l1 a1 c1),Cl.sl ah a1 c1 l1.L]∧cY l1 (x.1) (x.2)=some r) (fun x _=>x.1) (fun x=>[(1,vp b1 0),(3,vi (x.2))]) (fu,0) BH SB ?_
 clear h hI;rintro⟨fuel1,i1⟩ w2 ⟨c4,hI,h⟩
 dsimp only at hI h ⊢
 rcases fuel1 with _ | fuel1
 ·rw[cY]at h;cases h
 rw[cY]at h
 refine al (T ?_)
 refine TC (fun hb h=> ?_) fun hb h=> ?_
 ·refine T ?_
  refine al (T ?_)
  refine al (aD [] false (.c (0,.q) (.c (1,.q) (.c (2,.q) (.c (3,.q) (.c (4,.q) (.c (5,.q) (.c (6,.s) (.c (7,.q) (.c (8,.q) (.c (9,.q) (.c (10,.q) (.c (11,.q) (.c (12,.q) (.c (13,.q) (.c (14,.q) (.c (15,.q) (.c (16,.q) (.c (17,.q) (.c (18,.q) (.c (19,.q) (.c (20,.q) (.c (21,.q) (.c (22,.q) (.c (23,.q) (.c (24,.q) (.c (25,.q) (.c (26,.q) (.c (27,.q) (.c (28,.q) (.c (29,.q) (.c (30,.q) (.c (31,.q) (.c (32,.q) (.c (33,.q) (.c (34,.q) (.c (35,.q) (.c (36,.q) .n))))))))))))))))))))))))))))))))))))) hI (by kernel_rfl) (by kernel_rfl) ?_)
  intro w3 hI
  refine V ?_
  obtain⟨e1,hx1,h⟩:=ae h
  obtain⟨ad1,cs1,hA1,hr1,hq1⟩:=hI.clat (.s .z) hx1
  obtain rfl:cs1=(kb e1):=hr1
  refine vI ?_
  refine V ?_
  obtain⟨r1,hx2,h⟩:=ae h
  refine dR rfl gn rfl (aI (vs:=[(str e1.Name)]) rfl Hf ⟨et,trivial⟩) (Calls.mono (nZ hI.lt trivial hx2) ?_)
  rintro _ w4 ⟨rfl,hx3,hl1⟩
  refine⟨_,rfl,hx3,?_⟩
  replace hI:=(hI.ext hx3)
  refine V ?_
  obtain⟨e2,hx4,h⟩:=ae h
  replace hx4:=ax hx4
  obtain⟨ad2,cs2,hq2⟩:=hI.gclat (.s .z) hx4
  have hq3:(!(!r1))=true→CA (Dj F c4) w4 (ad2.add (Int.toNat i1 * 2)) (kb e2):=fun hc=>uc (hq2 hc).2.1 (hq2 hc).2.2
  refine vJ ?_
  refine V ?_
  obtain⟨e3,hx5,h⟩:=ae h
  replace hx5:=ax hx5
  obtain⟨ad3,cs3,hq4⟩:=hI.gclat (.s .z) hx5
  have hq5:((!((!r1)||(decide (e2.By=0))))&&(decide (0<i1)))=true→CA (Dj F c4) w4 (ad3.add (Int.toNat (aq (i1 - 1)) * 2)) (kb e3):=fun hc=>uc (hq4 hc).2.1 (hq4 hc).2.2
  refine vJ ?_
  refine V ?_
  obtain⟨e4,hx6,h⟩:=ae h
  replace hx6:=ax hx6
  obtain⟨ad4,cs4,hq6⟩:=hI.gclat (.s .z) hx6
  have hq7:((!((!r1)||(decide (e2.By=0))))&&(decide (0<i1)))=true→CA (Dj F c4) w4 (ad4.add (Int.toNat i1 * 2)) (kb e4):=fun hc=>uc (hq6 hc).2.1 (hq6 hc).2.2
  refine vJ ?_
  refine V ?_
  refine TR fun hb h=> ?_
  refine T ?_
  refine aK ?_
  exact kl (fuel1,aq (i1+1))
 refine bh ?_
 refine eD ?_
 refine aX ?_
 exact RF
theorem nB (hF:dy F w0) {l1:GLin} (hc:AllCl [Cl.sl ah a1 c1 l1.L] F w0) {r:Int} (h:gC l1=some r):CR F w0 170 #[(Value.agg (bO l1 a1 c1))] (vi r) []:=by
 refine EN Tryz.func170 Tryz.ntmps170 hF hc fun hI=> ?_
 rw[gC]at h
 refine sr (lX fun b1 c3 w1 hI=> ?_)
 refine T ?_
 refine al (sr (sq (am (l:=(fO l1 a1 c1)) rfl et ob rfl bq (hI.kblk (l:=(fO l1 a1 c1)) .z rfl).1) ?_))
 refine sB h (fun _ k=>mv hI.lt FS k) (Rc Tryz.func114) fun r1 w2 h hI=> ?_
 refine TR fun hb h=> ?_
 exact RF
theorem wY (hF:dy F w0) {a1:GLin} {by1:Int} (hc:AllCl [Cl.sl ah a2 c1 a1.L] F w0) {r:GLin×Int} (h:fZ a1 by1=some r):Cg 138 #[(Value.agg (bO a1 a2 c1)),vi by1] w0 fun e w=>∃ a3 c2,e= .returned (Value.tuple #[(Value.agg (bO r.1 a3 c2)),vi r.2])∧Ext w0 w∧AllCl [Cl.sl ah a3 c2 r.1.L] F w:=by
 refine EN Tryz.func138 Tryz.ntmps138 hF hc fun hI=> ?_
 rw[fZ]at h
 refine sr (lX fun b1 c4 w1 hI=> ?_)
 refine lN fun b2 c5 w2 hI=> ?_
 refine T ?_
 refine al (sr (sq (am (l:=(fO a1 a2 c1)) rfl et ob rfl bq (hI.kblk (l:=(fO a1 a2 c1)) .z rfl).1) ?_))
 refine sB h (fun _ k=>nB hI.lt FS k) (Rc Tryz.func170) fun r1 w3 h hI=> ?_
 refine TC (fun hb h=> ?_) fun hb h=> ?_
 ·refine sr (sq (aw (vs:=[]) (cs:=#[vi 0,vs none 0 0]) rfl trivial (by kernel_rfl)) ?_)
  refine lA fun c6 w4 hI=> ?_
  refine T ?_
  refine az ?_
  have hI:=hI.add (c:=Cl.sl ah none 0 ([]:List GMono)) SlC.nil
  obtain rfl:=ai h
  refine QG ?_
  exact⟨none,0,rfl,hI.ext0,hI.fin ⟨.z,trivial⟩⟩
 refine T ?_
 refine al (T ?_)
 refine TC (fun hb h=> ?_) fun hb h=> ?_
 ·refine sr (sq (aw (vs:=[]) (cs:=#[vi 0,vs none 0 0]) rfl trivial (by kernel_rfl)) ?_)
  refine lA fun c7 w5 hI=> ?_
  refine T ?_
  refine az ?_
  have hI:=hI.add (c:=Cl.sl ah none 0 ([]:List GMono)) SlC.nil
  obtain rfl:=ai h
  refine QG ?_
  exact⟨none,0,rfl,hI.ext0,hI.fin ⟨.z,trivial⟩⟩
 refine T ?_
 refine sB h (fun _ k=>pZ hI.lt trivial k) (Rc Tryz.func189) fun r2 w6 h hI=> ?_
 refine T ?_
 refine al (T ?_)
 refine TC (fun hb h=> ?_) fun hb h=> ?_
 ·refine sr (sq (aw (vs:=[]) (cs:=#[vi 0,vs none 0 0]) rfl trivial (by kernel_rfl)) ?_)
  refine lA fun c8 w7 hI=> ?_
  refine T ?_
  refine az ?_
  have hI:=hI.add (c:=Cl.sl ah none 0 ([]:List GMono)) SlC.nil
  obtain rfl:=ai h
  refine QG ?_
  exact⟨none,0,rfl,hI.ext0,hI.fin ⟨.z,trivial⟩⟩
 refine T ?_
 refine sq (aw (vs:=[(0,vi r2.1)]) (cs:=#[vi r2.1,vs none 0 0]) rfl ⟨rfl,et,trivial⟩ (by kernel_rfl)) ?_
 refine lN fun b3 c9 w8 hI=> ?_
 refine lA fun c10 w9 hI=> ?_
 refine nk (al (T ?_))
 have hI:=hI.nil ah 64 none
 refine bc (α:=Nat×Int×GLin×(Option Addr)×Nat) (fun x=>fun w=>∃ C,Bun noM F w0 C w [MO.row ah 64 (x.2.2.2.1) (x.2.2.2.2) (x.2.2.1).L,MO.box b2 27 #[vi 0,vs none 0 0],MO.box b3 27 (bO (x.2.2.1) (x.2.2.2.1) (x.2.2.2.2))] [Cl.blk b1 27 (bO a1 a2 c1),Cl.sl ah a2 c1 a1.L]∧gD a1 by1 (x.1) (x.2.1) (x.2.2.1)=some r) (fun x _=>x.1) (fun x=>[(1,vi by1),(2,vp b1 0),(4,vp b2 0),(8,vp b3 0),(9,vi (x.2.1))]) (fu,0,(⟨r2.1,([]:List GMono)⟩:GLin),none,0) ⟨_,hI.arr (.c .z (.c (.s .z) (.c .z .n))) ⟨.z,(.s .z),trivial⟩,h⟩ SB ?_
 clear h hI;rintro⟨fuel1,i1,ba,a4,c11⟩ w10 ⟨c12,hI,h⟩
 dsimp only at hI h ⊢
 rcases fuel1 with _ | fuel1
 ·rw[gD]at h;cases h
 rw[gD]at h
 refine al (T ?_)
 refine TC (fun hb h=> ?_) fun hb h=> ?_
 ·refine T ?_
  refine al (T ?_)
  obtain⟨e1,hx5,h⟩:=ae h
  obtain⟨ad1,cs1,hA1,hr1,hq1⟩:=hI.clat (.s .z) hx5
  obtain rfl:cs1=(kb e1):=hr1
  refine sI ?_
  refine T ?_
  refine sB h (fun _ k=>pZ hI.lt trivial k) (Rc Tryz.func189) fun r3 w11 h hI=> ?_
  refine T ?_
  refine al (T ?_)
  refine TC (fun hb h=> ?_) fun hb h=> ?_
  ·refine sr (sq (aw (vs:=[]) (cs:=#[vi 0,vs none 0 0]) rfl trivial (by kernel_rfl)) ?_)
   refine lA fun c13 w12 hI=> ?_
   refine T ?_
   refine az ?_
   have hI:=hI.add (c:=Cl.sl ah none 0 ([]:List GMono)) SlC.nil
   obtain rfl:=ai h
   refine QG ?_
   exact⟨none,0,rfl,hI.ext0,hI.fin ⟨.z,trivial⟩⟩
  refine T ?_
  refine aD [11,13] false (.c (0,.q) (.c (1,.q) (.c (2,.q) (.c (3,.q) (.c (4,.q) (.c (5,.q) (.c (6,.q) (.c (7,.q) (.c (8,.q) (.c (9,.q) (.c (10,.s) (.c (11,.s) (.c (12,.q) (.c (13,.s) .n)))))))))))))) hI (by kernel_rfl) (by kernel_rfl) ?_
  intro w13 hI
  refine V ?_
  obtain⟨e2,hx8,h⟩:=ae h
  obtain⟨ad2,cs2,hA2,hr2,hq2⟩:=hI.clat (.s .z) hx8
  obtain rfl:cs2=(kb e2):=hr2
  refine vI ?_
  refine V ?_
  refine kW rfl gn rfl (fun w'=>(aw (vs:=[(0,(str e2.Name)),(1,vi r3.1)]) (cs:=#[(str e2.Name),vi r3.1]) rfl ⟨rfl,et,⟨rfl,et,trivial⟩⟩ (by kernel_rfl))) ?_
  refine vl hI ah ([(⟨e2.Name,r3.1⟩:GMono)]:List GMono) m0 Rr fun b4 c14 w14 hI=> ?_
  refine bH (F:=F) (C:=c14) rfl rfl ?_
  obtain⟨zs1,hx9,h⟩:=ae h
  refine rb (xs:=ba.L) (ys:=([(⟨e2.Name,r3.1⟩:GMono)]:List GMono)) hI (.s .z) (hI.rd .z) hx9 rfl gn rfl rfl y7 m0 rfl rfl et et ?_
  intro a5 c15 c16 w15 hI
  refine V ?_
  refine vS fun c17 w16 hI=> ?_
  refine V ?_
  refine T ?_
  refine aK ?_
  exact jE (fuel1,aq (i1+1),(⟨ba.K,zs1⟩:GLin),a5,c15) SB ⟨_,hI.arr GO SU,h⟩ (Nat.lt_succ_self _)
 refine bh ?_
 refine eD ?_
 refine aX ?_
 refine T ?_
 refine lA fun c18 w17 hI=> ?_
 refine T ?_
 refine az ?_
 obtain⟨c19,hI⟩:=hI.release .z
 obtain rfl:=ai h
 refine QG ?_
 exact⟨a4,c11,rfl,hI.ext0,hI.fin ⟨.z,trivial⟩⟩
theorem tF {l1:List (List UInt8)} {s1:List UInt8} (hI:Bun C0 F w0 C0 w0 [MO.row cStr 9 a1 c1 l1] []) {r:List (List UInt8)} (h:jV l1 s1=some r):Cg 226 #[vs a1 l1.length c1,(str s1)] w0 fun e w=>∃ a2 c2 C,e= .returned (vs a2 r.length c2)∧Bun C0 F w0 C w [MO.row cStr 9 a2 c2 r] []:=by
 refine o9 Tryz.func226 rfl Tryz.ntmps226 rfl ?_
 rw[jV]at h
 refine sr (ry ?_)
 refine nk (al (sr (sm ?_)))
 refine sm ?_
 refine sB h (fun _ k=>wy NE ⟨hI.lend .z,trivial⟩ k) (Rc Tryz.func115) fun r1 w1 h hI=> ?_
 refine TC (fun hb h=> ?_) fun hb h=> ?_
 ·refine sr (sm ?_)
  refine sa ?_
  refine nk (az ?_)
  obtain rfl:=ai h
  exact eG (vs:=[vs a1 l1.length c1]) Tryz.results226 ⟨aH rfl rfl,trivial⟩ ⟨a1,c1,_,rfl,hI.arr GO SU⟩
 refine bb (aX (sr (sm ?_)))
 refine sm ?_
 refine j9 (c:=cStr) (xs:=([s1]:List (List UInt8))) (vs:=[(0,(str s1))]) (cs:=#[(str s1)]) (css:=[[(str s1)]]) hI gn rfl rfl xq lM rfl ⟨rfl,et,trivial⟩ (by kernel_rfl) ⟨rfl,trivial⟩ rfl rfl rfl ?_
 intro b1 c3 w2 hI
 obtain⟨zs1,hx3,h⟩:=ae h
 refine lL (xs:=l1) (ys:=([s1]:List (List UInt8))) hI (.s .z) (hI.rd .z) hx3 gn rfl rfl xq lM rfl rfl et et ?_
 intro a3 c4 c5 w3 hI
 refine sa ?_
 refine nk (al (sr (sm ?_)))
 refine sq (np rfl xq et) ?_
 refine sq (tP rfl et aj) ?_
 obtain⟨i1,hx4,h⟩:=ae h
 refine sq (sY (bE rfl et) (congrArg (Value.int .i64) (ai hx4))) ?_
 refine nk (om (bc (α:=Nat×(List (List UInt8))×Int×(Option Addr)×Nat) (fun x=>fun w=>∃ C,Bun C0 F w0 C w [MO.row cStr 9 (x.2.2.2.1) (x.2.2.2.2) (x.2.1)] []∧dX (x.1) (x.2.1) (x.2.2.1)=some r) (fun x _=>x.1) (fun x=>[(0,vs (x.2.2.2.1) (x.2.1).length (x.2.2.2.2)),(5,vi (x.2.2.1))]) (fu,zs1,i1,a3,c4) BH SB ?_))
 clear h hI;rintro⟨fuel1,l2,i2,a4,c6⟩ w4 ⟨c7,hI,h⟩
 dsimp only at hI h ⊢
 rcases fuel1 with _ | fuel1
 ·rw[dX]at h;cases h
 rw[dX]at h
 refine al (al (aD [] false (.c (0,.q) (.c (1,.q) (.c (2,.q) (.c (3,.q) (.c (4,.q) (.c (5,.q) (.c (6,.q) (.c (7,.q) (.c (8,.q) (.c (9,.q) (.c (10,.q) (.c (11,.q) (.c (12,.q) (.c (13,.q) .n)))))))))))))) hI (by kernel_rfl) (by kernel_rfl) ?_))
 intro w5 hI
 refine kW rfl gn rfl (fun w'=>fj rfl et) ?_
 refine kW rfl gn rfl (fun w'=>qs rfl et aj) ?_
 refine kW rfl gn rfl (fun w'=>fj rfl et) ?_
 refine oI rfl (aT rfl rfl rfl rfl) rfl (fun hc=>fun w'=>(fj rfl et)) ?_
 refine oI rfl (aT rfl rfl rfl rfl) rfl (fun hc=>fun w'=>(fj rfl et)) ?_
 refine oI rfl (aT rfl rfl rfl rfl) rfl (fun hc=>fun w'=>(tP rfl (aO et hc) aj)) ?_
 obtain⟨e1,hx5,h⟩:=ae h
 replace hx5:=ax hx5
 obtain⟨ad1,cs1,hq1⟩:=hI.golat .z hx5
 have hq2:(decide (0<i2))=true→CA noM w5 (ad1.add (Int.toNat (aq (i2 - 1)) * 1)) [(str e1)]:=fun hc=>by have k:=hq1 hc;have e:cs1=_:=k.2.1;rw[← e];exact k.2.2
 refine oI rfl (aT rfl rfl rfl rfl) rfl (fun hc=>fun w'=>(iD rfl xq oq (aO et hc) (aO et hc) (ox (hx5 hc)) (hq1 hc).1)) ?_
 refine uT rfl (aT rfl rfl rfl rfl) rfl (fun hc=>fun w' hw'=>(bf (v:=(str e1)) rfl (aO et hc) u9 rfl ((hq2 hc).at_ (SX.any rfl hw')))) (by kernel_rfl) ?_
 refine oI rfl (aT rfl rfl rfl rfl) rfl (fun hc=>fun w'=>(fj rfl et)) ?_
 refine oI rfl (aT rfl rfl rfl rfl) rfl (fun hc=>fun w'=>(fj rfl et)) ?_
 obtain⟨e2,hx6,h⟩:=ae h
 replace hx6:=ax hx6
 obtain⟨ad2,cs2,hq3⟩:=hI.golat .z hx6
 have hq4:(decide (0<i2))=true→CA noM w5 (ad2.add (Int.toNat i2 * 1)) [(str e2)]:=fun hc=>by have k:=hq3 hc;have e:cs2=_:=k.2.1;rw[← e];exact k.2.2
 refine oI rfl (aT rfl rfl rfl rfl) rfl (fun hc=>fun w'=>(iD rfl xq oq (aO et hc) (aO et hc) (ox (hx6 hc)) (hq3 hc).1)) ?_
 refine uT rfl (aT rfl rfl rfl rfl) rfl (fun hc=>fun w' hw'=>(bf (v:=(str e2)) rfl (aO et hc) u9 rfl ((hq4 hc).at_ (SX.any rfl hw')))) (by kernel_rfl) ?_
 refine oI rfl (aT rfl rfl rfl rfl) rfl (fun hc=>fun w'=>(GU rfl (aO et hc) (aO et hc))) ?_
 refine kW rfl gn rfl (fun w'=>sg rfl et et) ?_
 refine nj ?_
 refine aX (wJ h et (fun hb h=> ?_) (fun hb h=> ?_))
 ·refine bb (aX (al (om (sr (sm ?_)))))
  refine sm ?_
  obtain⟨e3,hx7,h⟩:=ae h
  obtain⟨ad3,cs3,hA3,hr3,hq5⟩:=hI.olat .z hx7
  obtain rfl:cs3=[(str e3)]:=hr3
  refine sq (iD rfl xq oq et et (ox hx7) hA3) ?_
  refine sq (bf (v:=(str e3)) rfl et u9 rfl hq5.1) ?_
  refine sa ?_
  refine nk (sr (sm ?_))
  refine sm ?_
  refine sm ?_
  refine sm ?_
  refine sq (tP rfl et aj) ?_
  obtain⟨e4,hx8,h⟩:=ae h
  obtain⟨ad4,cs4,hA4,hr4,hq6⟩:=hI.olat .z hx8
  obtain rfl:cs4=[(str e4)]:=hr4
  refine sq (iD rfl xq oq et et (ox hx8) hA4) ?_
  refine sq (bf (v:=(str e4)) rfl et u9 rfl hq6.1) ?_
  obtain⟨ho1,h⟩:=eu h
  obtain⟨ad5,hA5⟩:=hI.addr .z ho1
  refine sq (iD rfl xq oq et et ho1 hA5) ?_
  refine vF (p:=Int.toNat i2) (new:=[(str e4)]) (off:=0) (x':=e4) hI .z gn rfl rfl (by have:=ho1;first | omega | (simp only[List.length_set];omega)) hA5 rfl et et rfl oq rfl (by show 0+1≤1;omega) (fun _ cs0 _ hr0=>by rw[ze (by have e:=Cod.len _ hr0;exact e)];exact rfl) ?_
  intro c8 w6 hI
  refine aK ?_
  refine mZ (e:=[(0,(vs a4 (l2.set (Int.toNat i2) e4).length c6)),(5,vi i2),(6,(str e3))]) ⟨(Bw rfl),rfl,rfl,trivial⟩ ?_
  refine kN rfl ?_
  refine sm ?_
  refine sm ?_
  refine sq (tP rfl et aj) ?_
  refine sm ?_
  obtain⟨ho2,h⟩:=eu h
  obtain⟨ad6,hA6⟩:=hI.addr .z ho2
  refine sq (iD rfl xq oq et et ho2 hA6) ?_
  refine vF (p:=Int.toNat (aq (i2 - 1))) (new:=[(str e3)]) (off:=0) (x':=e3) hI .z gn rfl rfl (by have:=ho2;first | omega | (simp only[List.length_set];omega)) hA6 rfl et et rfl oq rfl (by show 0+1≤1;omega) (fun _ cs0 _ hr0=>by rw[ze (by have e:=Cod.len _ hr0;exact e)];exact rfl) ?_
  intro c9 w7 hI
  refine aK ?_
  refine mZ (e:=[(0,(vs a4 ((l2.set (Int.toNat i2) e4).set (Int.toNat (aq (i2 - 1))) e3).length c6)),(5,vi i2)]) ⟨(Bw rfl),rfl,trivial⟩ ?_
  refine kN rfl ?_
  refine sm ?_
  refine sq (tP rfl et aj) ?_
  refine sa ?_
  refine aK ?_
  exact kl (fuel1,(l2.set (Int.toNat i2) e4).set (Int.toNat (aq (i2 - 1))) e3,aq (i2 - 1),a4,c6)
 refine bh ?_
 refine eD ?_
 refine aX (sr (sm ?_))
 refine sa ?_
 refine nk (az ?_)
 obtain rfl:=ai h
 exact eG (vs:=[vs a4 l2.length c6]) Tryz.results226 ⟨aH rfl rfl,trivial⟩ ⟨a4,c6,_,rfl,hI.arr GO SU⟩
theorem wZ (hF:dy F w0) {l1:List GLin} (hc:AllCl [Cl.sl fE a1 c1 l1] F w0) {r:List (List UInt8)} (h:mi l1=some r):Cg 191 #[vs a1 l1.length c1] w0 fun e w=>∃ a2 c2,e= .returned (vs a2 r.length c2)∧Ext w0 w∧AllCl [Cl.sl cStr a2 c2 r] F w:=by
 refine EN Tryz.func191 Tryz.ntmps191 hF hc fun hI=> ?_
 rw[mi]at h
 refine T ?_
 refine al (T ?_)
 have hI:=hI.nil cStr 9 none
 refine bc (α:=Nat×(List (List UInt8))×Int×(Option Addr)×Nat) (fun x=>fun w=>∃ C,Bun noM F w0 C w [MO.row cStr 9 (x.2.2.2.1) (x.2.2.2.2) (x.2.1)] [Cl.sl fE a1 c1 l1]∧bY l1 (x.1) (x.2.1) (x.2.2.1)=some r) (fun x _=>x.1) (fun x=>[(0,vs a1 l1.length c1),(3,vs (x.2.2.2.1) (x.2.1).length (x.2.2.2.2)),(4,vi (x.2.2.1))]) (fu,([]:List (List UInt8)),0,none,0) BH SB ?_
 clear h hI;rintro⟨fuel1,ba,i1,a3,c3⟩ w1 ⟨c4,hI,h⟩
 dsimp only at hI h ⊢
 rcases fuel1 with _ | fuel1
 ·rw[bY]at h;cases h
 rw[bY]at h
 refine al (T ?_)
 refine TC (fun hb h=> ?_) fun hb h=> ?_
 ·refine T ?_
  refine bw (α:=(List (List UInt8))×(Option Addr)×Nat) (fun _=>⟨34,[]⟩) (fun x=>[(0,vs a1 l1.length c1),(3,vs (x.2.1) (x.1).length (x.2.2)),(4,vi i1)]) (fun x=>fun w=>∃ C,Bun noM F w0 C w [MO.row cStr 9 (x.2.1) (x.2.2) (x.1)] [Cl.sl fE a1 c1 l1]∧nu (bY l1 fuel1) i1 (x.1)=some r) ?_ ?_
  ·clear h hI;rintro⟨out2,a4,c5⟩ w2 ⟨c6,hI,h⟩
   try dsimp only at hI h ⊢
   rw[nu]at h
   refine T ?_
   refine aK ?_
   exact kl (fuel1,out2,aq (i1+1),a4,c5)
  refine T ?_
  refine bc (α:=Nat×(List (List UInt8))×Int×(Option Addr)×Nat) (fun x=>fun w=>∃ C,Bun noM F w0 C w [MO.row cStr 9 (x.2.2.2.1) (x.2.2.2.2) (x.2.1)] [Cl.sl fE a1 c1 l1]∧dp l1 i1 (bY l1 fuel1) (x.1) (x.2.1) (x.2.2.1)=some r) (fun x _=>x.1) (fun x=>[(0,vs a1 l1.length c1),(3,vs (x.2.2.2.1) (x.2.1).length (x.2.2.2.2)),(4,vi i1),(5,vi (x.2.2.1))]) (fu,ba,0,a3,c3) BH SB ?_
  clear h hI;rintro⟨fuel2,out3,k1,a5,c7⟩ w3 ⟨c8,hI,h⟩
  dsimp only at hI h ⊢
  rcases fuel2 with _ | fuel2
  ·rw[dp]at h;cases h
  rw[dp]at h
  refine al (T ?_)
  obtain⟨e1,hx1,h⟩:=ae h
  obtain⟨ad1,cs1,hA1,hr1,hq1⟩:=hI.clat .z hx1
  obtain⟨a6,c9,rfl,hf1⟩:=hr1
  have hI:=hI.ads hf1
  refine sI ?_
  refine TC (fun hb h=> ?_) fun hb h=> ?_
  ·refine T ?_
   refine al (T ?_)
   obtain⟨e2,hx2,h⟩:=ae h
   obtain⟨ad2,cs2,hA2,hr2,hq2⟩:=hI.clat (.s .z) hx2
   obtain⟨a7,c10,rfl,hf2⟩:=hr2
   have hI:=hI.ads hf2
   refine sI ?_
   refine T ?_
   obtain⟨e3,hx3,h⟩:=ae h
   obtain⟨ad3,cs3,hA3,hr3,hq3⟩:=hI.clat .z hx3
   obtain rfl:cs3=(kb e3):=hr3
   refine sI ?_
   refine T ?_
   obtain⟨c11,f1,hB,hl1,hk1⟩:=hI.hands (.l .n)
   obtain⟨r1,hx4,h⟩:=ae h
   try dsimp only at h
   refine aA gn rfl (Rc Tryz.func226) (Calls.mono (tF HS hx4) ?_)
   rintro _ w4 ⟨a8,c12,c13,rfl,hB2⟩
   refine HN hk1 hB2 fun c14 hI=> ?_
   refine⟨_,rfl,?_⟩
   refine T ?_
   refine aK ?_
   exact kl (fuel2,r1,aq (k1+1),a8,c12)
  refine bh ?_
  refine eD ?_
  exact kj (out3,a5,c7)
 refine bh ?_
 refine eD ?_
 refine aX ?_
 refine T ?_
 refine az ?_
 obtain⟨c15,hI⟩:=hI.release .z
 obtain rfl:=ai h
 refine QG ?_
 exact⟨a3,c3,rfl,hI.ext0,hI.fin ⟨.z,trivial⟩⟩
end Go.Proofs.YtmhoikfoogemnaaGreatDoor
