import Derived.Test.YtmhoikfoogemnaaGreatDoorMCQ5d
import Derived.Test.YtmhoikfoogemnaaGreatDoorMLfW
namespace Go.Proofs.YtmhoikfoogemnaaGreatDoor
open Go Go.RowKit Go.Vc
set_option maxRecDepth 100000
set_option maxHeartbeats 4000000
set_option linter.unusedVariables false
set_option linter.unusedSimpArgs false
theorem gk (rec_:(aa→Option (bk (GExpr×aa)))) (hrec:∀ (C0 F:NP) (w0:World) (r1:aa) (b1:Nat) (a1:Option Addr) (c1:Nat) (hI:Bun C0 F w0 C0 w0 [MO.box b1 67 (ab r1 a1 c1)] [Cl.sl ah a1 c1 r1.l,aA]) (r:bk (GExpr×aa)) (h:rec_ r1=some r),Calls Tryz.prog 34 #[vp b1 0] w0 fun e w=>(∃ rx:GExpr×aa,r= .ret rx∧∃ (a2:Option Addr) (c2:Nat) (a3:Option Addr) (c3:Nat) (a4:Option Addr) (c4:Nat) (a5:Option Addr) (c5:Nat) (C:NP),e= .returned (Value.agg (am rx.1 a2 c2 a3 c3 a4 c4))∧Bun C0 F w0 C w [MO.box b1 67 (ab rx.2 a5 c5)] [Cl.sl aj a2 c2 rx.1.Lin.L,Cl.sl ak a3 c3 rx.1.Idx,Cl.sl au a4 c4 rx.1.Args,Cl.sl ah a5 c5 rx.2.l])∨∃ (pa pn:Int),r= .pan pa pn∧e= .panicked [pe 114 pa pn]∧∃ C:NP,Bun C0 F w0 C w [] []) (C0 F:NP) (w0:World) (r1:aa) (b1:Nat) (a1:Option Addr) (c1:Nat) (hI:Bun C0 F w0 C0 w0 [MO.box b1 67 (ab r1 a1 c1)] [Cl.sl ah a1 c1 r1.l,aA]) (r:bk (GExpr×aa))
  (h:dM rec_ r1=some r):
  Calls Tryz.prog 75 #[vp b1 0] w0 fun e w=>(∃ rx:GExpr×aa,r= .ret rx∧∃ (a2:Option Addr) (c2:Nat) (a3:Option Addr) (c3:Nat) (a4:Option Addr) (c4:Nat) (a5:Option Addr) (c5:Nat) (C:NP),e= .returned (Value.agg (am rx.1 a2 c2 a3 c3 a4 c4))∧Bun C0 F w0 C w [MO.box b1 67 (ab rx.2 a5 c5)] [Cl.sl aj a2 c2 rx.1.Lin.L,Cl.sl ak a3 c3 rx.1.Idx,Cl.sl au a4 c4 rx.1.Args,Cl.sl ah a5 c5 rx.2.l])∨∃ (pa pn:Int),r= .pan pa pn∧e= .panicked [pe 114 pa pn]∧∃ C:NP,Bun C0 F w0 C w [] []:=by
 refine fj (l:=[vp b1 0]) Tryz.func75 rfl Tryz.ntmps75 rfl ?_
 rw[dM]at h
 refine sr (aN (cs:=#[vi 0,(aC ([]:List UInt8)),vi 0,vi 0,vi 0,vi 0,vi 0,vi 0,vi 0,vi 0,vs none 0 0,vs none 0 0,vs none 0 0]) hI gn rfl rfl bA rfl ?_)
 clear hI;intro b2 c6 w1 hI
 refine T ?_
 refine sq (mI (vs:=[vp b1 0]) rfl rfl ⟨et,trivial⟩) ?_
 refine jR (c:=ie) (xs:=([([38]:List UInt8)]:List (List UInt8))) (vs:=[(0,(aC ([38]:List UInt8)))]) (cs:=#[(aC ([38]:List UInt8))]) (css:=[[(aC ([38]:List UInt8))]]) hI gn rfl rfl DO ol rfl ⟨rfl,ai,trivial⟩ (by kernel_rfl) ⟨rfl,trivial⟩ rfl rfl rfl ?_
 clear hI;intro b3 c7 w2 hI
 refine jR (c:=(kQ .i64)) (xs:=([16]:List Int)) (vs:=[(0,vi 16)]) (cs:=#[vi 16]) (css:=[[vi 16]]) hI gn rfl rfl B5 uM rfl ⟨rfl,ai,trivial⟩ (by kernel_rfl) ⟨rfl,trivial⟩ rfl rfl rfl ?_
 clear hI;intro b4 c8 w3 hI
 obtain⟨c9,hI⟩:=hI.release (.s .z)
 obtain⟨c10,hI⟩:=hI.release .z
 obtain⟨c11,f1,hB,hl1,hk1⟩:=hI.hands (.r (.l .n))
 refine dY h (fun _ hx1=>ov rec_ hrec c11 f1 w3 r1 ([([38]:List UInt8)]:List (List UInt8)) ([16]:List Int) b1 a1 c1 (some ⟨b3,0,none⟩) 1 (some ⟨b4,0,none⟩) 1 (hB.subs ⟨(.s (.s .z)),(.s .z),.z,(.s (.s (.s .z))),trivial⟩) _ hx1) (ky hk1) (ag rfl yr ⟨et,⟨et,⟨et,⟨et,trivial⟩⟩⟩⟩) ?_
 rintro⟨r2,s1⟩ hx1 h _ w4 ⟨a6,c12,a7,c13,a8,c14,a9,c15,c16,rfl,hB2⟩
 try dsimp only at h
 obtain⟨c17,hs1,hI⟩:=hk1 _ _ _ _ hB2
 dsimp only[ca,na]at hI
 refine⟨_,rfl,?_⟩
 refine ay (new:=(aQ r2 a6 c12 a7 c13 a8 c14)) (cs':=(am r2 a6 c12 a7 c13 a8 c14)) hI (.s .z) gn rfl rfl et et rfl aF rfl rfl rfl ?_
 clear hI;intro c18 w5 hI
 refine nk (al ?_)
 obtain rfl:=ac h
 refine QG ?_
 exact .inl ⟨_,rfl,a6,c12,a7,c13,a8,c14,a9,c15,_,rfl,hI.arr GO SU⟩
def cB:Tr:=(.c (4,.s) (.c (5,.q) (.c (6,.s) .n)))
theorem oJ (rec_:(aa→Option (bk (GExpr×aa)))) (hrec:∀ (C0 F:NP) (w0:World) (r1:aa) (b1:Nat) (a1:Option Addr) (c1:Nat) (hI:Bun C0 F w0 C0 w0 [MO.box b1 67 (ab r1 a1 c1)] [Cl.sl ah a1 c1 r1.l,aA]) (r:bk (GExpr×aa)) (h:rec_ r1=some r),Calls Tryz.prog 34 #[vp b1 0] w0 fun e w=>(∃ rx:GExpr×aa,r= .ret rx∧∃ (a2:Option Addr) (c2:Nat) (a3:Option Addr) (c3:Nat) (a4:Option Addr) (c4:Nat) (a5:Option Addr) (c5:Nat) (C:NP),e= .returned (Value.agg (am rx.1 a2 c2 a3 c3 a4 c4))∧Bun C0 F w0 C w [MO.box b1 67 (ab rx.2 a5 c5)] [Cl.sl aj a2 c2 rx.1.Lin.L,Cl.sl ak a3 c3 rx.1.Idx,Cl.sl au a4 c4 rx.1.Args,Cl.sl ah a5 c5 rx.2.l])∨∃ (pa pn:Int),r= .pan pa pn∧e= .panicked [pe 114 pa pn]∧∃ C:NP,Bun C0 F w0 C w [] []) (C0 F:NP) (w0:World) (r1:aa) (signs1:List (List UInt8)) (ops1:List Int) (b1:Nat) (a1:Option Addr) (c1:Nat) (a2:Option Addr) (c2:Nat) (a3:Option Addr) (c3:Nat) (hI:Bun C0 F w0 C0 w0 [MO.box b1 67 (ab r1 a1 c1)] [Cl.sl ah a1 c1 r1.l,Cl.sl ie a2 c2 signs1,Cl.sl (kQ .i64) a3 c3 ops1,aA]) (r:bk (GExpr×aa))
  (h:gR rec_ r1 signs1 ops1=some r):
  Calls Tryz.prog 74 #[vp b1 0,(Value.func (.func 75) #[vp b1 0] #[]),vs a2 signs1.length c2,vs a3 ops1.length c3] w0 fun e w=>(∃ rx:GExpr×aa,r= .ret rx∧∃ (a4:Option Addr) (c4:Nat) (a5:Option Addr) (c5:Nat) (a6:Option Addr) (c6:Nat) (a7:Option Addr) (c7:Nat) (C:NP),e= .returned (Value.agg (am rx.1 a4 c4 a5 c5 a6 c6))∧Bun C0 F w0 C w [MO.box b1 67 (ab rx.2 a7 c7)] [Cl.sl aj a4 c4 rx.1.Lin.L,Cl.sl ak a5 c5 rx.1.Idx,Cl.sl au a6 c6 rx.1.Args,Cl.sl ah a7 c7 rx.2.l])∨∃ (pa pn:Int),r= .pan pa pn∧e= .panicked [pe 114 pa pn]∧∃ C:NP,Bun C0 F w0 C w [] []:=by
 refine fj (l:=[vp b1 0,(Value.func (.func 75) #[vp b1 0] #[]),vs a2 signs1.length c2,vs a3 ops1.length c3]) Tryz.func74 rfl Tryz.ntmps74 rfl ?_
 rw[gR]at h
 refine sr (aN (cs:=#[vi 0,(aC ([]:List UInt8)),vi 0,vi 0,vi 0,vi 0,vi 0,vi 0,vi 0,vi 0,vs none 0 0,vs none 0 0,vs none 0 0]) hI gn rfl rfl bA rfl ?_)
 clear hI;intro b2 c8 w1 hI
 refine T ?_
 obtain⟨c9,f1,hB,hl1,hk1⟩:=hI.hands (.r (.l .n))
 refine dY h (fun _ hx1=>gk rec_ hrec c9 f1 w1 r1 b1 a1 c1 (hB.subs ⟨.z,(.s (.s (.s .z))),trivial⟩) _ hx1) (ky hk1) (gc (fs:=[vp b1 0]) (vs:=[]) (cap:=[]) rfl et yq trivial) ?_
 rintro⟨r2,s1⟩ hx1 h _ w2 ⟨a8,c10,a9,c11,a10,c12,a11,c13,c14,rfl,hB2⟩
 try dsimp only at h
 obtain⟨c15,hs1,hI⟩:=hk1 _ _ _ _ hB2
 dsimp only[ca,na]at hI
 refine⟨_,rfl,?_⟩
 refine aN (cs:=#[vi 0,(aC ([]:List UInt8)),vi 0,vi 0,vi 0,vi 0,vi 0,vi 0,vi 0,vi 0,vs none 0 0,vs none 0 0,vs none 0 0]) hI gn rfl rfl bA rfl ?_
 clear hI;intro b3 c16 w3 hI
 refine ay (new:=(aQ r2 a8 c10 a9 c11 a10 c12)) (cs':=(am r2 a8 c10 a9 c11 a10 c12)) hI .z gn rfl rfl et et rfl aF rfl rfl rfl ?_
 clear hI;intro c17 w4 hI
 refine T ?_
 refine cO (α:=Nat×aa×GExpr×(Option Addr)×Nat×(Option Addr)×Nat×(Option Addr)×Nat×(Option Addr)×Nat) (fun x=>fun w=>∃ C,Bun C0 F w0 C w [MO.box b1 67 (ab (x.2.1) (x.2.2.2.1) (x.2.2.2.2.1)),MO.box b2 39 #[vi 0,(aC ([]:List UInt8)),vi 0,vi 0,vi 0,vi 0,vi 0,vi 0,vi 0,vi 0,vs none 0 0,vs none 0 0,vs none 0 0],MO.box b3 39 (am (x.2.2.1) (x.2.2.2.2.2.1) (x.2.2.2.2.2.2.1) (x.2.2.2.2.2.2.2.1) (x.2.2.2.2.2.2.2.2.1) (x.2.2.2.2.2.2.2.2.2.1) (x.2.2.2.2.2.2.2.2.2.2))] [Cl.sl ah (x.2.2.2.1) (x.2.2.2.2.1) (x.2.1).l,Cl.sl aj (x.2.2.2.2.2.1) (x.2.2.2.2.2.2.1) (x.2.2.1).Lin.L,Cl.sl ak (x.2.2.2.2.2.2.2.1) (x.2.2.2.2.2.2.2.2.1) (x.2.2.1).Idx,Cl.sl au (x.2.2.2.2.2.2.2.2.2.1) (x.2.2.2.2.2.2.2.2.2.2) (x.2.2.1).Args,Cl.sl ie a2 c2 signs1,Cl.sl (kQ .i64) a3 c3 ops1,aA]∧bD signs1 ops1 rec_ (x.1) (x.2.1) (x.2.2.1)=some r) (fun x _=>x.1) (fun x=>[(0,vp b1 0),(1,(Value.func (.func 75) #[vp b1 0] #[])),(2,vs a2 signs1.length c2),(3,vs a3 ops1.length c3),(8,vp b2 0),(9,vp b3 0)]) (fu,s1,r2,a11,c13,a8,c10,a9,c11,a10,c12) ⟨_,hI.arr (.c (.s .z) (.c (.s .z) (.c .z .n))) ⟨(.s (.s (.s .z))),.z,(.s .z),(.s (.s .z)),(.s (.s (.s (.s (.s .z))))),(.s (.s (.s (.s (.s (.s .z)))))),(.s (.s (.s (.s (.s (.s (.s .z))))))),trivial⟩,h⟩ ⟨rfl,rfl,rfl,rfl,rfl,rfl,trivial⟩ ?_
 clear h hI;rintro⟨fuel1,r3,e1,a12,c18,a13,c19,a14,c20,a15,c21⟩ w5 ⟨c22,hI,h⟩
 dsimp only at hI h
 rcases fuel1 with _ | fuel1
 ·rw[bD]at h;cases h
 rw[bD]at h
 refine bz (e:=[(0,vp b1 0),(1,(Value.func (.func 75) #[vp b1 0] #[])),(2,vs a2 signs1.length c2),(3,vs a3 ops1.length c3),(8,vp b2 0),(9,vp b3 0)]) ⟨rfl,rfl,rfl,rfl,rfl,rfl,trivial⟩ ?_
 refine T ?_
 refine du (α:=Int×aa×(Option Addr)×Nat) (fun _=>⟨43,[]⟩) (fun x=>[(0,vp b1 0),(1,(Value.func (.func 75) #[vp b1 0] #[])),(2,vs a2 signs1.length c2),(3,vs a3 ops1.length c3),(8,vp b2 0),(9,vp b3 0),(10,vi (x.1))]) (fun x=>fun w=>∃ C,Bun C0 F w0 C w [MO.box b1 67 (ab (x.2.1) (x.2.2.1) (x.2.2.2)),MO.box b2 39 #[vi 0,(aC ([]:List UInt8)),vi 0,vi 0,vi 0,vi 0,vi 0,vi 0,vi 0,vi 0,vs none 0 0,vs none 0 0,vs none 0 0],MO.box b3 39 (am e1 a13 c19 a14 c20 a15 c21)] [Cl.sl ah (x.2.2.1) (x.2.2.2) (x.2.1).l,Cl.sl ie a2 c2 signs1,Cl.sl (kQ .i64) a3 c3 ops1,Cl.sl aj a13 c19 e1.Lin.L,Cl.sl ak a14 c20 e1.Idx,Cl.sl au a15 c21 e1.Args,aA]∧iP e1 rec_ (bD signs1 ops1 rec_ fuel1) (x.1) (x.2.1)=some r) ?_ ?_
 ·clear h hI;rintro⟨op1,r4,a16,c23⟩ w6 ⟨c24,hI,h⟩
  try dsimp only at hI h
  rw[iP]at h
  refine bz (e:=[(0,vp b1 0),(1,(Value.func (.func 75) #[vp b1 0] #[])),(2,vs a2 signs1.length c2),(3,vs a3 ops1.length c3),(8,vp b2 0),(9,vp b3 0),(10,vi op1)]) ⟨rfl,rfl,rfl,rfl,rfl,rfl,rfl,trivial⟩ ?_
  refine aB (T ?_)
  refine bc h et (fun hb h=> ?_) (fun hb h=> ?_)
  ·refine T ?_
   refine ay (new:=(aQ e1 a13 c19 a14 c20 a15 c21)) (cs':=(am e1 a13 c19 a14 c20 a15 c21)) hI (.s .z) gn rfl rfl et et rfl aF rfl rfl rfl ?_
   clear hI;intro c25 w7 hI
   refine nk (al ?_)
   obtain rfl:=ac h
   exact jt (vs:=[(Value.agg (am e1 a13 c19 a14 c20 a15 c21))]) Tryz.results74 ⟨⟨_,aZ rfl rfl,ia (l:=(aQ e1 a13 c19 a14 c20 a15 c21)) nq rfl aF (CellsAt.of_blk (hI.blk (.s .z)) rfl)⟩,trivial⟩ (.inl ⟨_,rfl,a13,c19,a14,c20,a15,c21,a16,c23,_,rfl,hI.arr (.c .z .n) ⟨(.s (.s (.s .z))),(.s (.s (.s (.s .z)))),(.s (.s (.s (.s (.s .z))))),.z,trivial⟩⟩)
  refine T ?_
  rcases ii h with⟨⟨r5,s2⟩,hx2,h⟩ | ⟨pa_,pn_,hx2,hp_⟩
  rotate_left
  ·subst hp_
   refine bx [3,6] false (.c (0,.q) (.c (2,.q) (.two 1 (.c (3,.s) cB) 3 (.c (1,.s) cB)))) hI (by kernel_rfl) (by kernel_rfl) ?_
   clear hI;intro w12 hI
   refine V ?_
   refine gV ?_ ?_
   ·skip
    refine dK rfl gn rfl (aJ (l:=(aQ e1 a13 c19 a14 c20 a15 c21)) rfl et nq rfl aF (CellsAt.of_blk (hI.blk (.s (.s .z))) rfl)) SX.self ?_
    refine hO (F:=F) (C:=c24) rfl rfl ?_
    obtain⟨c26,f2,hB,hl2,hk2⟩:=hI.hands (.l (.r (.r .n)))
    refine eB rfl gn rfl (gc (fs:=[vp b1 0]) (vs:=[]) (cap:=[]) rfl et yq trivial) (Calls.mono (gk rec_ hrec c26 f2 w12 r4 b1 a16 c23 (hB.subs ⟨.z,(.s (.s (.s (.s (.s (.s .z)))))),trivial⟩) _ hx2) ?_)
    intro e_ w_ hq_;obtain⟨rfl,C_,hB_⟩:=eo hq_;obtain⟨C9_,-,hI_⟩:=hk2 _ _ _ _ hB_;exact .inr ⟨_,rfl,ib (.inr ⟨_,_,rfl,rfl,⟨_,hI_.arr .n trivial⟩⟩)⟩
   refine dw (F:=F) (C:=c24) rfl rfl ?_
   obtain⟨c26,f2,hB,hl2,hk2⟩:=hI.hands (.l (.r (.r .n)))
   refine eB rfl gn rfl (gc (fs:=[vp b1 0]) (vs:=[]) (cap:=[]) rfl et yq trivial) (Calls.mono (gk rec_ hrec c26 f2 w12 r4 b1 a16 c23 (hB.subs ⟨.z,(.s (.s (.s (.s (.s (.s .z)))))),trivial⟩) _ hx2) ?_)
   intro e_ w_ hq_;obtain⟨rfl,C_,hB_⟩:=eo hq_;obtain⟨C9_,-,hI_⟩:=hk2 _ _ _ _ hB_;exact .inr ⟨_,rfl,ib (.inr ⟨_,_,rfl,rfl,⟨_,hI_.arr .n trivial⟩⟩)⟩
  try dsimp only at h
  refine bx [3,6] false (.c (0,.q) (.c (2,.q) (.two 1 (.c (3,.s) cB) 3 (.c (1,.s) cB)))) hI (by kernel_rfl) (by kernel_rfl) ?_
  clear hI;intro w13 hI
  refine ge (α:=(Option Addr)×Nat×(Option Addr)×Nat×(Option Addr)×Nat×(Option Addr)×Nat×NP) (T:=cB) (fun x=>[(0,vp b1 0),(1,(Value.func (.func 75) #[vp b1 0] #[])),(2,vs a2 signs1.length c2),(3,vs a3 ops1.length c3),(8,vp b2 0),(9,vp b3 0),(10,vi op1),(34,vi op1),(35,(vb (decide (op1=0)))),(37,vi op1),(38,(Value.agg (am e1 a13 c19 a14 c20 a15 c21))),(39,(Value.func (.func 75) #[vp b1 0] #[])),(40,(Value.agg (am r5 (x.1) (x.2.1) (x.2.2.1) (x.2.2.2.1) (x.2.2.2.2.1) (x.2.2.2.2.2.1))))]) (fun x w=>Bun C0 F w0 (x.2.2.2.2.2.2.2.2) w [MO.box b1 67 (ab s2 (x.2.2.2.2.2.2.1) (x.2.2.2.2.2.2.2.1)),MO.box b2 39 #[vi 0,(aC ([]:List UInt8)),vi 0,vi 0,vi 0,vi 0,vi 0,vi 0,vi 0,vi 0,vs none 0 0,vs none 0 0,vs none 0 0],MO.box b3 39 (am e1 a13 c19 a14 c20 a15 c21)] [Cl.sl aj (x.1) (x.2.1) r5.Lin.L,Cl.sl ak (x.2.2.1) (x.2.2.2.1) r5.Idx,Cl.sl au (x.2.2.2.2.1) (x.2.2.2.2.2.1) r5.Args,Cl.sl ah (x.2.2.2.2.2.2.1) (x.2.2.2.2.2.2.2.1) s2.l,Cl.sl ah a16 c23 r4.l,Cl.sl ie a2 c2 signs1,Cl.sl (kQ .i64) a3 c3 ops1,Cl.sl aj a13 c19 e1.Lin.L,Cl.sl ak a14 c20 e1.Idx,Cl.sl au a15 c21 e1.Args,aA]) (fun x w=>SN [] (DM true F (x.2.2.2.2.2.2.2.2)) w) ?_ ?_
  ·clear hI;rintro⟨a17,c27,a18,c28,a19,c29,a20,c30,c35⟩ w11 hI
   try dsimp only at hI ⊢
   unfold cB
   refine mw (c:=au) (xs:=([e1,r5]:List GExpr)) (vs:=[(0,(Value.agg (am e1 a13 c19 a14 c20 a15 c21))),(1,(Value.agg (am r5 a17 c27 a18 c28 a19 c29)))]) (cs:=#[vi e1.Op,(aC e1.Name),vi e1.Val.N,vi e1.Val.D,vi e1.Type_.Kind,vi e1.Type_.Bits,vi e1.Type_.Frac,vi e1.Type_.Round,vi e1.Type_.Over,vi e1.Lin.K,vs a13 e1.Lin.L.length c19,vs a14 e1.Idx.length c20,vs a15 e1.Args.length c21,vi r5.Op,(aC r5.Name),vi r5.Val.N,vi r5.Val.D,vi r5.Type_.Kind,vi r5.Type_.Bits,vi r5.Type_.Frac,vi r5.Type_.Round,vi r5.Type_.Over,vi r5.Lin.K,vs a17 r5.Lin.L.length c27,vs a18 r5.Idx.length c28,vs a19 r5.Args.length c29]) (css:=[(aQ e1 a13 c19 a14 c20 a15 c21),(aQ r5 a17 c27 a18 c28 a19 c29)]) hI rfl gn rfl rfl xP kx rfl ⟨rfl,et,⟨rfl,et,trivial⟩⟩ (by kernel_rfl) ⟨(eQ ⟨a13,c19,a14,c20,a15,c21,rfl,hI.get (.s (.s (.s (.s (.s (.s (.s .z))))))),hI.get (.s (.s (.s (.s (.s (.s (.s (.s .z)))))))),hI.get (.s (.s (.s (.s (.s (.s (.s (.s (.s .z)))))))))⟩),⟨(eQ ⟨a17,c27,a18,c28,a19,c29,rfl,hI.get .z,hI.get (.s .z),hI.get (.s (.s .z))⟩),trivial⟩⟩ rfl rfl rfl ?_
   clear hI;intro b4 c33 w9 hI
   refine pt rfl gn rfl (fun w'=>(aV (vs:=[(0,vi op1),(6,vs (some ⟨b4,0,none⟩) ([e1,r5]:List GExpr).length 2)]) (cs:=#[vi op1,(aC ([]:List UInt8)),vi 0,vi 0,vi 0,vi 0,vi 0,vi 0,vi 0,vi 0,vs none 0 0,vs none 0 0,vs (some ⟨b4,0,none⟩) ([e1,r5]:List GExpr).length 2]) rfl ⟨rfl,et,⟨rfl,et,trivial⟩⟩ (by kernel_rfl))) ?_
   refine fT (new:=[vi op1,(aC ([]:List UInt8)),vi 0,vi 0,vi 0,vi 0,vi 0,vi 0,vi 0,vi 0,vs none 0 0,vs none 0 0,vs (some ⟨b4,0,none⟩) ([e1,r5]:List GExpr).length 2]) (cs':=#[vi op1,(aC ([]:List UInt8)),vi 0,vi 0,vi 0,vi 0,vi 0,vi 0,vi 0,vi 0,vs none 0 0,vs none 0 0,vs (some ⟨b4,0,none⟩) ([e1,r5]:List GExpr).length 2]) hI (.s (.s (.s .z))) rfl gn rfl rfl et et rfl aF rfl rfl rfl ?_
   clear hI;intro c34 w10 hI
   refine pu ?_
   have hI:=hI.add (c:=Cl.sl aj none 0 ([]:List GMono)) SlC.nil
   have hI:=hI.add (c:=Cl.sl ak none 0 ([]:List GIndex)) SlC.nil
   obtain⟨c36,hI⟩:=hI.release .z
   exact cg (fuel1,s2,(⟨op1,([]:List UInt8),(⟨0,0⟩:GVal),(⟨0,0,0,0,0⟩:GType),(⟨0,([]:List GMono)⟩:GLin),([]:List GIndex),([e1,r5]:List GExpr)⟩:GExpr),a20,c30,none,0,none,0,some ⟨b4,0,none⟩,2) ⟨rfl,rfl,rfl,rfl,rfl,rfl,trivial⟩ ⟨_,hI.arr (.c .z (.c .z (.c .z .n))) ⟨(.s (.s (.s (.s (.s (.s .z)))))),(.s (.s .z)),(.s .z),.z,(.s (.s (.s (.s (.s (.s (.s (.s .z)))))))),(.s (.s (.s (.s (.s (.s (.s (.s (.s .z))))))))),(.s (.s (.s (.s (.s (.s (.s (.s (.s (.s (.s (.s (.s .z))))))))))))),trivial⟩,h⟩ (Nat.lt_succ_self _)
  intro hk_tr_parser_reader_chain_w_3_0
  refine V ?_
  refine gV ?_ ?_
  ·skip
   refine dK rfl gn rfl (aJ (l:=(aQ e1 a13 c19 a14 c20 a15 c21)) rfl et nq rfl aF (CellsAt.of_blk (hI.blk (.s (.s .z))) rfl)) SX.self ?_
   refine hO (F:=F) (C:=c24) rfl rfl ?_
   obtain⟨c26,f2,hB,hl2,hk2⟩:=hI.hands (.l (.r (.r .n)))
   refine ez rfl gn rfl (gc (fs:=[vp b1 0]) (vs:=[]) (cap:=[]) rfl et yq trivial) (Calls.mono (gk rec_ hrec c26 f2 w13 r4 b1 a16 c23 (hB.subs ⟨.z,(.s (.s (.s (.s (.s (.s .z)))))),trivial⟩) _ hx2) ?_)
   intro e_ w8 hq_;obtain⟨a17,c27,a18,c28,a19,c29,a20,c30,c31,rfl,hB2⟩:=en hq_
   obtain⟨c32,hs2,hI⟩:=hk2 _ _ _ _ hB2
   dsimp only[ca,na]at hI
   refine⟨_,rfl,DM true F c32,hs2,?_⟩
   exact cM (hk_tr_parser_reader_chain_w_3_0 (a17,c27,a18,c28,a19,c29,a20,c30,c32) _ (hI.arr (.c .z (.c .z (.c .z .n))) ⟨.z,(.s .z),(.s (.s .z)),(.s (.s (.s .z))),(.s (.s (.s (.s .z)))),(.s (.s (.s (.s (.s .z))))),(.s (.s (.s (.s (.s (.s .z)))))),(.s (.s (.s (.s (.s (.s (.s .z))))))),(.s (.s (.s (.s (.s (.s (.s (.s .z)))))))),(.s (.s (.s (.s (.s (.s (.s (.s (.s .z))))))))),(.s (.s (.s (.s (.s (.s (.s (.s (.s (.s .z)))))))))),trivial⟩)) ⟨rfl,rfl,rfl,rfl,rfl,rfl,rfl,rfl,rfl,rfl,rfl,rfl,rfl,trivial⟩
  refine dw (F:=F) (C:=c24) rfl rfl ?_
  obtain⟨c26,f2,hB,hl2,hk2⟩:=hI.hands (.l (.r (.r .n)))
  refine ez rfl gn rfl (gc (fs:=[vp b1 0]) (vs:=[]) (cap:=[]) rfl et yq trivial) (Calls.mono (gk rec_ hrec c26 f2 w13 r4 b1 a16 c23 (hB.subs ⟨.z,(.s (.s (.s (.s (.s (.s .z)))))),trivial⟩) _ hx2) ?_)
  intro e_ w8 hq_;obtain⟨a17,c27,a18,c28,a19,c29,a20,c30,c31,rfl,hB2⟩:=en hq_
  obtain⟨c32,hs2,hI⟩:=hk2 _ _ _ _ hB2
  dsimp only[ca,na]at hI
  refine⟨_,rfl,DM true F c32,hs2,?_⟩
  refine dK rfl gn rfl (aJ (l:=(aQ e1 a13 c19 a14 c20 a15 c21)) rfl et nq rfl aF (CellsAt.of_blk (hI.blk (.s (.s .z))) rfl)) SX.self ?_
  exact cM (hk_tr_parser_reader_chain_w_3_0 (a17,c27,a18,c28,a19,c29,a20,c30,c32) _ (hI.arr (.c .z (.c .z (.c .z .n))) ⟨.z,(.s .z),(.s (.s .z)),(.s (.s (.s .z))),(.s (.s (.s (.s .z)))),(.s (.s (.s (.s (.s .z))))),(.s (.s (.s (.s (.s (.s .z)))))),(.s (.s (.s (.s (.s (.s (.s .z))))))),(.s (.s (.s (.s (.s (.s (.s (.s .z)))))))),(.s (.s (.s (.s (.s (.s (.s (.s (.s .z))))))))),(.s (.s (.s (.s (.s (.s (.s (.s (.s (.s .z)))))))))),trivial⟩)) ⟨rfl,rfl,rfl,rfl,rfl,rfl,rfl,rfl,rfl,rfl,rfl,rfl,rfl,trivial⟩
 refine T ?_
 refine cO (α:=Nat×Int×Int×aa×(Option Addr)×Nat) (fun x=>fun w=>∃ C,Bun C0 F w0 C w [MO.box b1 67 (ab (x.2.2.2.1) (x.2.2.2.2.1) (x.2.2.2.2.2)),MO.box b2 39 #[vi 0,(aC ([]:List UInt8)),vi 0,vi 0,vi 0,vi 0,vi 0,vi 0,vi 0,vi 0,vs none 0 0,vs none 0 0,vs none 0 0],MO.box b3 39 (am e1 a13 c19 a14 c20 a15 c21)] [Cl.sl ah (x.2.2.2.2.1) (x.2.2.2.2.2) (x.2.2.2.1).l,Cl.sl ie a2 c2 signs1,Cl.sl (kQ .i64) a3 c3 ops1,Cl.sl aj a13 c19 e1.Lin.L,Cl.sl ak a14 c20 e1.Idx,Cl.sl au a15 c21 e1.Args,aA]∧bW signs1 ops1 e1 rec_ (bD signs1 ops1 rec_ fuel1) (x.1) (x.2.1) (x.2.2.1) (x.2.2.2.1)=some r) (fun x _=>x.1) (fun x=>[(0,vp b1 0),(1,(Value.func (.func 75) #[vp b1 0] #[])),(2,vs a2 signs1.length c2),(3,vs a3 ops1.length c3),(8,vp b2 0),(9,vp b3 0),(10,vi (x.2.1)),(15,vs a2 signs1.length c2),(16,vi (signs1.length:Int)),(17,vi (x.2.2.1))]) (fu,0,0,r3,a12,c18) ⟨_,hI.arr (.c .z (.c .z (.c .z .n))) ⟨.z,(.s (.s (.s (.s .z)))),(.s (.s (.s (.s (.s .z))))),(.s .z),(.s (.s .z)),(.s (.s (.s .z))),(.s (.s (.s (.s (.s (.s .z)))))),trivial⟩,h⟩ ⟨rfl,rfl,rfl,rfl,rfl,rfl,rfl,rfl,rfl,rfl,trivial⟩ ?_
 clear h hI;rintro⟨fuel2,op2,i1,r6,a21,c37⟩ w14 ⟨c38,hI,h⟩
 dsimp only at hI h
 rcases fuel2 with _ | fuel2
 ·rw[bW]at h;cases h
 rw[bW]at h
 refine bz (e:=[(0,vp b1 0),(1,(Value.func (.func 75) #[vp b1 0] #[])),(2,vs a2 signs1.length c2),(3,vs a3 ops1.length c3),(8,vp b2 0),(9,vp b3 0),(10,vi op2),(15,vs a2 signs1.length c2),(16,vi (signs1.length:Int)),(17,vi i1)]) ⟨rfl,rfl,rfl,rfl,rfl,rfl,rfl,rfl,rfl,rfl,trivial⟩ ?_
 refine T ?_
 refine aB (bc h et (fun hb h=> ?_) (fun hb h=> ?_))
 ·refine T ?_
  refine du (α:=Int×aa×(Option Addr)×Nat) (fun _=>⟨43,[]⟩) (fun x=>[(0,vp b1 0),(1,(Value.func (.func 75) #[vp b1 0] #[])),(2,vs a2 signs1.length c2),(3,vs a3 ops1.length c3),(8,vp b2 0),(9,vp b3 0),(10,vi (x.1)),(15,vs a2 signs1.length c2),(16,vi (signs1.length:Int)),(17,vi i1)]) (fun x=>fun w=>∃ C,Bun C0 F w0 C w [MO.box b1 67 (ab (x.2.1) (x.2.2.1) (x.2.2.2)),MO.box b2 39 #[vi 0,(aC ([]:List UInt8)),vi 0,vi 0,vi 0,vi 0,vi 0,vi 0,vi 0,vi 0,vs none 0 0,vs none 0 0,vs none 0 0],MO.box b3 39 (am e1 a13 c19 a14 c20 a15 c21)] [Cl.sl ah (x.2.2.1) (x.2.2.2) (x.2.1).l,Cl.sl ie a2 c2 signs1,Cl.sl (kQ .i64) a3 c3 ops1,Cl.sl aj a13 c19 e1.Lin.L,Cl.sl ak a14 c20 e1.Idx,Cl.sl au a15 c21 e1.Args,aA]∧fP (bW signs1 ops1 e1 rec_ (bD signs1 ops1 rec_ fuel1) fuel2) i1 (x.1) (x.2.1)=some r) ?_ ?_
  ·clear h hI;rintro⟨op3,r7,a22,c39⟩ w15 ⟨c40,hI,h⟩
   try dsimp only at hI h
   rw[fP]at h
   refine bz (e:=[(0,vp b1 0),(1,(Value.func (.func 75) #[vp b1 0] #[])),(2,vs a2 signs1.length c2),(3,vs a3 ops1.length c3),(8,vp b2 0),(9,vp b3 0),(10,vi op3),(15,vs a2 signs1.length c2),(16,vi (signs1.length:Int)),(17,vi i1)]) ⟨rfl,rfl,rfl,rfl,rfl,rfl,rfl,rfl,rfl,rfl,trivial⟩ ?_
   refine T ?_
   refine bl ?_
   exact cg (fuel2,op3,az (i1+1),r7,a22,c39) ⟨rfl,rfl,rfl,rfl,rfl,rfl,rfl,rfl,rfl,rfl,trivial⟩ ⟨_,hI.arr (.c .z (.c .z (.c .z .n))) ⟨.z,(.s .z),(.s (.s .z)),(.s (.s (.s .z))),(.s (.s (.s (.s .z)))),(.s (.s (.s (.s (.s .z))))),(.s (.s (.s (.s (.s (.s .z)))))),trivial⟩,h⟩ (Nat.lt_succ_self _)
  refine T ?_
  obtain⟨e2,hx3,h⟩:=af h
  obtain⟨ad1,cs1,hA1,hr1,hq1⟩:=hI.clat (.s .z) hx3
  obtain rfl:cs1=[(aC e2)]:=hr1
  refine sI ?_
  refine T ?_
  obtain⟨c41,f3,hB,hl3,hk3⟩:=hI.hands (.l (.r (.r .n)))
  obtain⟨⟨r8,s3⟩,hx4,h⟩:=af h
  try dsimp only at h
  refine p7 (fun v_ w_=>v_=(vb r8)∧∃ (a23:Option Addr),∃ (c42:Nat),∃ C_:NP,Bun c41 f3 w14 C_ w_ [MO.box b1 67 (ab s3 a23 c42)] [Cl.sl ah a23 c42 s3.l]) (bE rfl rfl rfl rfl) rfl (fun hc=>(ag (vs:=[vp b1 0,(aC e2)]) rfl mK ⟨(bg et hc),⟨(bg et hc),trivial⟩⟩)) (fun hc=>(aM c41 f3 w14 r6 e2 b1 a21 c37 (hB.subs ⟨.z,trivial⟩) _ (yE hc hx4)).mono fun e_ w_ hq_=>(let ⟨a23,c42,C_,he_,hB_⟩:=hq_;⟨_,he_,rfl,a23,c42,C_,hB_⟩)) ?_
  intro v_ w16 h1_ h2_
  obtain⟨hv_,a23,c42,c43,hB2⟩:gv (decide (op2=0)) v_=gv (decide (op2=0)) (vb r8)∧∃ (a23:Option Addr),∃ (c42:Nat),∃ C_:NP,Bun c41 f3 w14 C_ w16 [MO.box b1 67 (ab s3 a23 c42)] [Cl.sl ah a23 c42 s3.l]:=by
   rcases Bool.eq_false_or_eq_true (decide (op2=0))with hc | hc
   ·obtain⟨rfl,hq_⟩:=h1_ hc;exact⟨rfl,hq_⟩
   have e1_:=h2_ hc;subst e1_;obtain⟨rfl,rfl⟩:=yF hc hx4;exact⟨by rw[om hc,om hc],a21,c37,_,hB.subs ⟨.z,trivial⟩⟩
  rw[hv_];clear h1_ h2_
  obtain⟨c44,hs3,hI⟩:=hk3 _ _ _ _ hB2
  dsimp only[ca,na]at hI
  refine T ?_
  refine bc h et (fun hb h=> ?_) (fun hb h=> ?_)
  ·refine T ?_
   obtain⟨e3,hx5,h⟩:=af h
   obtain⟨ad2,cs2,hA2,hr2,hq2⟩:=hI.clat (.s (.s (.s .z))) hx5
   obtain rfl:cs2=[vi e3]:=hr2
   refine sI ?_
   refine T ?_
   refine bl ?_
   exact bi (e3,s3,a23,c42) ⟨rfl,rfl,rfl,rfl,rfl,rfl,rfl,rfl,rfl,rfl,trivial⟩ ⟨_,hI.arr (.c .z (.c .z (.c .z .n))) ⟨.z,(.s (.s .z)),(.s (.s (.s .z))),(.s (.s (.s (.s .z)))),(.s (.s (.s (.s (.s .z))))),(.s (.s (.s (.s (.s (.s .z)))))),(.s (.s (.s (.s (.s (.s (.s .z))))))),trivial⟩,h⟩ rfl
  exact cc (bi (op2,s3,a23,c42) ⟨rfl,rfl,rfl,rfl,rfl,rfl,rfl,rfl,rfl,rfl,trivial⟩ ⟨_,hI.arr (.c .z (.c .z (.c .z .n))) ⟨.z,(.s (.s .z)),(.s (.s (.s .z))),(.s (.s (.s (.s .z)))),(.s (.s (.s (.s (.s .z))))),(.s (.s (.s (.s (.s (.s .z)))))),(.s (.s (.s (.s (.s (.s (.s .z))))))),trivial⟩,h⟩ rfl)
 refine dv ?_
 refine kb ?_
 exact bi (op2,r6,a21,c37) ⟨rfl,rfl,rfl,rfl,rfl,rfl,rfl,trivial⟩ ⟨_,hI.arr (.c .z (.c .z (.c .z .n))) ⟨.z,(.s .z),(.s (.s .z)),(.s (.s (.s .z))),(.s (.s (.s (.s .z)))),(.s (.s (.s (.s (.s .z))))),(.s (.s (.s (.s (.s (.s .z)))))),trivial⟩,h⟩ rfl
theorem pc (rec_:(aa→Option (bk (GExpr×aa)))) (hrec:∀ (C0 F:NP) (w0:World) (r1:aa) (b1:Nat) (a1:Option Addr) (c1:Nat) (hI:Bun C0 F w0 C0 w0 [MO.box b1 67 (ab r1 a1 c1)] [Cl.sl ah a1 c1 r1.l,aA]) (r:bk (GExpr×aa)) (h:rec_ r1=some r),Calls Tryz.prog 34 #[vp b1 0] w0 fun e w=>(∃ rx:GExpr×aa,r= .ret rx∧∃ (a2:Option Addr) (c2:Nat) (a3:Option Addr) (c3:Nat) (a4:Option Addr) (c4:Nat) (a5:Option Addr) (c5:Nat) (C:NP),e= .returned (Value.agg (am rx.1 a2 c2 a3 c3 a4 c4))∧Bun C0 F w0 C w [MO.box b1 67 (ab rx.2 a5 c5)] [Cl.sl aj a2 c2 rx.1.Lin.L,Cl.sl ak a3 c3 rx.1.Idx,Cl.sl au a4 c4 rx.1.Args,Cl.sl ah a5 c5 rx.2.l])∨∃ (pa pn:Int),r= .pan pa pn∧e= .panicked [pe 114 pa pn]∧∃ C:NP,Bun C0 F w0 C w [] [])
  (C0 F:NP) (w0:World) (r1:aa) (b1:Nat) (a1:Option Addr) (c1:Nat) (hI:Bun C0 F w0 C0 w0 [MO.box b1 67 (ab r1 a1 c1)] [Cl.sl ah a1 c1 r1.l,aA]) (r:bk (GExpr×aa)) (h:fO rec_ r1=some r):Calls Tryz.prog 34 #[vp b1 0] w0 fun e w=>(∃ rx:GExpr×aa,r= .ret rx∧∃ (a2:Option Addr) (c2:Nat) (a3:Option Addr) (c3:Nat) (a4:Option Addr) (c4:Nat) (a5:Option Addr) (c5:Nat) (C:NP),e= .returned (Value.agg (am rx.1 a2 c2 a3 c3 a4 c4))∧Bun C0 F w0 C w [MO.box b1 67 (ab rx.2 a5 c5)] [Cl.sl aj a2 c2 rx.1.Lin.L,Cl.sl ak a3 c3 rx.1.Idx,Cl.sl au a4 c4 rx.1.Args,Cl.sl ah a5 c5 rx.2.l])∨∃ (pa pn:Int),r= .pan pa pn∧e= .panicked [pe 114 pa pn]∧∃ C:NP,Bun C0 F w0 C w [] []:=by
 refine fj (l:=[vp b1 0]) Tryz.func34 rfl Tryz.ntmps34 rfl ?_
 rw[fO]at h
 refine sr (aN (cs:=#[vi 0,(aC ([]:List UInt8)),vi 0,vi 0,vi 0,vi 0,vi 0,vi 0,vi 0,vi 0,vs none 0 0,vs none 0 0,vs none 0 0]) hI gn rfl rfl bA rfl ?_)
 clear hI;intro b2 c6 w1 hI
 refine T ?_
 refine sq (mI (vs:=[vp b1 0]) rfl rfl ⟨et,trivial⟩) ?_
 refine jR (c:=ie) (xs:=([([124]:List UInt8)]:List (List UInt8))) (vs:=[(0,(aC ([124]:List UInt8)))]) (cs:=#[(aC ([124]:List UInt8))]) (css:=[[(aC ([124]:List UInt8))]]) hI gn rfl rfl DO ol rfl ⟨rfl,ai,trivial⟩ (by kernel_rfl) ⟨rfl,trivial⟩ rfl rfl rfl ?_
 clear hI;intro b3 c7 w2 hI
 refine jR (c:=(kQ .i64)) (xs:=([17]:List Int)) (vs:=[(0,vi 17)]) (cs:=#[vi 17]) (css:=[[vi 17]]) hI gn rfl rfl B5 uM rfl ⟨rfl,ai,trivial⟩ (by kernel_rfl) ⟨rfl,trivial⟩ rfl rfl rfl ?_
 clear hI;intro b4 c8 w3 hI
 obtain⟨c9,hI⟩:=hI.release (.s .z)
 obtain⟨c10,hI⟩:=hI.release .z
 obtain⟨c11,f1,hB,hl1,hk1⟩:=hI.hands (.r (.l .n))
 refine dY h (fun _ hx1=>oJ rec_ hrec c11 f1 w3 r1 ([([124]:List UInt8)]:List (List UInt8)) ([17]:List Int) b1 a1 c1 (some ⟨b3,0,none⟩) 1 (some ⟨b4,0,none⟩) 1 (hB.subs ⟨(.s (.s .z)),(.s .z),.z,(.s (.s (.s .z))),trivial⟩) _ hx1) (ky hk1) (ag rfl yr ⟨et,⟨et,⟨et,⟨et,trivial⟩⟩⟩⟩) ?_
 rintro⟨r2,s1⟩ hx1 h _ w4 ⟨a6,c12,a7,c13,a8,c14,a9,c15,c16,rfl,hB2⟩
 try dsimp only at h
 obtain⟨c17,hs1,hI⟩:=hk1 _ _ _ _ hB2
 dsimp only[ca,na]at hI
 refine⟨_,rfl,?_⟩
 refine ay (new:=(aQ r2 a6 c12 a7 c13 a8 c14)) (cs':=(am r2 a6 c12 a7 c13 a8 c14)) hI (.s .z) gn rfl rfl et et rfl aF rfl rfl rfl ?_
 clear hI;intro c18 w5 hI
 refine nk (al ?_)
 obtain rfl:=ac h
 refine QG ?_
 exact .inl ⟨_,rfl,a6,c12,a7,c13,a8,c14,a9,c15,_,rfl,hI.arr GO SU⟩
theorem o9 (n:Nat):∀ (C0 F:NP) (w0:World) (r1:aa) (b1:Nat) (a1:Option Addr) (c1:Nat) (hI:Bun C0 F w0 C0 w0 [MO.box b1 67 (ab r1 a1 c1)] [Cl.sl ah a1 c1 r1.l,aA]) (r:bk (GExpr×aa)) (h:ap n r1=some r),Calls Tryz.prog 34 #[vp b1 0] w0 fun e w=>(∃ rx:GExpr×aa,r= .ret rx∧∃ (a2:Option Addr) (c2:Nat) (a3:Option Addr) (c3:Nat) (a4:Option Addr) (c4:Nat) (a5:Option Addr) (c5:Nat) (C:NP),e= .returned (Value.agg (am rx.1 a2 c2 a3 c3 a4 c4))∧Bun C0 F w0 C w [MO.box b1 67 (ab rx.2 a5 c5)] [Cl.sl aj a2 c2 rx.1.Lin.L,Cl.sl ak a3 c3 rx.1.Idx,Cl.sl au a4 c4 rx.1.Args,Cl.sl ah a5 c5 rx.2.l])∨∃ (pa pn:Int),r= .pan pa pn∧e= .panicked [pe 114 pa pn]∧∃ C:NP,Bun C0 F w0 C w [] []:=by
 induction n with
 | zero=>intro C0 F w0 r1 b1 a1 c1 hI r h;cases h
 | succ n ih=>intro C0 F w0 r1 b1 a1 c1 hI r h;exact pc (ap n) ih C0 F w0 r1 b1 a1 c1 hI r h
theorem pS (C0 F:NP) (w0:World) (r1:aa) (b1:Nat) (a1:Option Addr) (c1:Nat) (hI:Bun C0 F w0 C0 w0 [MO.box b1 67 (ab r1 a1 c1)] [Cl.sl ah a1 c1 r1.l,aA]) (r:bk (GExpr×aa)) (h:fr r1=some r):Calls Tryz.prog 34 #[vp b1 0] w0 fun e w=>(∃ rx:GExpr×aa,r= .ret rx∧∃ (a2:Option Addr) (c2:Nat) (a3:Option Addr) (c3:Nat) (a4:Option Addr) (c4:Nat) (a5:Option Addr) (c5:Nat) (C:NP),e= .returned (Value.agg (am rx.1 a2 c2 a3 c3 a4 c4))∧Bun C0 F w0 C w [MO.box b1 67 (ab rx.2 a5 c5)] [Cl.sl aj a2 c2 rx.1.Lin.L,Cl.sl ak a3 c3 rx.1.Idx,Cl.sl au a4 c4 rx.1.Args,Cl.sl ah a5 c5 rx.2.l])∨∃ (pa pn:Int),r= .pan pa pn∧e= .panicked [pe 114 pa pn]∧∃ C:NP,Bun C0 F w0 C w [] []:=o9 fu C0 F w0 r1 b1 a1 c1 hI r h
theorem mX (C0 F:NP) (w0:World) (a1:aa) (a3:GExpr) (b1:Nat) (b2:Nat) (a2:Option Addr) (c1:Nat) (b3:Nat) (a4:Option Addr) (c2:Nat) (a5:Option Addr) (c3:Nat) (a6:Option Addr) (c4:Nat) (hI:Bun C0 F w0 C0 w0 [MO.box b2 67 (ab a1 a2 c1),MO.box b3 39 (am a3 a4 c2 a5 c3 a6 c4)] [Cl.sl ah a2 c1 a1.l,Cl.blk b1 65 #[vp b2 0],Cl.sl aj a4 c2 a3.Lin.L,Cl.sl ak a5 c3 a3.Idx,Cl.sl au a6 c4 a3.Args,aA]) (r:bk (Unit×aa×GExpr))
  (h:jf a1 a3=some r):
  Calls Tryz.prog 33 #[vp b1 0,vp b3 0] w0 fun e w=>(∃ rx:Unit×aa×GExpr,r= .ret rx∧∃ (a7:Option Addr) (c5:Nat) (a8:Option Addr) (c6:Nat) (a9:Option Addr) (c7:Nat) (a10:Option Addr) (c8:Nat) (C:NP),e= .returned (Value.tuple #[])∧Bun C0 F w0 C w [MO.box b2 67 (ab rx.2.1 a7 c5),MO.box b3 39 (am rx.2.2 a8 c6 a9 c7 a10 c8)] [Cl.sl ah a7 c5 rx.2.1.l,Cl.sl aj a8 c6 rx.2.2.Lin.L,Cl.sl ak a9 c7 rx.2.2.Idx,Cl.sl au a10 c8 rx.2.2.Args])∨∃ (pa pn:Int),r= .pan pa pn∧e= .panicked [pe 114 pa pn]∧∃ C:NP,Bun C0 F w0 C w [] []:=by
 refine fj (l:=[vp b1 0,vp b3 0]) Tryz.func33 rfl Tryz.ntmps33 rfl ?_
 rw[jf]at h
 refine T ?_
 obtain⟨c9,f1,hB,hl1,hk1⟩:=hI.hands (.l (.r .n))
 refine dY h (fun _ hx1=>pS c9 f1 w0 a1 b2 a2 c1 (hB.subs ⟨.z,(.s (.s (.s (.s (.s .z))))),trivial⟩) _ hx1) (ky hk1) (ag rfl nS ⟨et,trivial⟩) ?_
 rintro⟨r1,s1⟩ hx1 h _ w1 ⟨a11,c10,a12,c11,a13,c12,a14,c13,c14,rfl,hB2⟩
 try dsimp only at h
 obtain⟨c15,hs1,hI⟩:=hk1 _ _ _ _ hB2
 dsimp only[ca,na]at hI
 refine⟨_,rfl,?_⟩
 refine ay (new:=(aQ r1 a11 c10 a12 c11 a13 c12)) (cs':=(am r1 a11 c10 a12 c11 a13 c12)) hI (.s .z) gn rfl rfl et et rfl aF rfl rfl rfl ?_
 clear hI;intro c16 w2 hI
 refine bl ?_
 obtain rfl:=ac h
 refine QG ?_
 exact .inl ⟨_,rfl,a14,c13,a11,c10,a12,c11,a13,c12,_,rfl,hI.arr GO SU⟩
def jb:Tr:= .n
def jc:Tr:=(.c (4,.s) (.c (6,.q) (.c (7,.q) jb)))
theorem tD (F:NP) (w0:World) (hF:∀ k,F k→k<w0.heap.size) (l1:List aG) (at1:Int) (a1:Option Addr) (c1:Nat) (hc:AllCl [Cl.sl ah a1 c1 l1,aA] F w0) (r:GExpr×Int×Int)
  (h:iZ l1 at1=some r):
  Calls Tryz.prog 15 #[vs a1 l1.length c1,vi at1] w0 fun e w=>∃ (a2:Option Addr) (c2:Nat) (a3:Option Addr) (c3:Nat) (a4:Option Addr) (c4:Nat),e= .returned (Value.tuple #[(Value.agg (am r.1 a2 c2 a3 c3 a4 c4)),vi r.2.1,vi r.2.2])∧Ext w0 w∧AllCl [Cl.sl aj a2 c2 r.1.Lin.L,Cl.sl ak a3 c3 r.1.Idx,Cl.sl au a4 c4 r.1.Args] F w:=by
 refine aL Tryz.func15 rfl Tryz.ntmps15 rfl ?_
 have hI:=Bun.start hF hc
 clear hc
 rw[iZ]at h
 refine sr (aN (cs:=#[vi 0,(aC ([]:List UInt8)),vi 0,vi 0,vi 0,vi 0,vi 0,vi 0,vi 0,vi 0,vs none 0 0,vs none 0 0,vs none 0 0]) hI gn rfl rfl bA rfl ?_)
 clear hI;intro b1 c5 w1 hI
 refine Ci ?_
 refine Ci ?_
 refine nk (aB (sr (sm ?_)))
 refine sq (sP rfl et ai) ?_
 refine sm ?_
 refine bZ (gg rfl rfl rfl rfl) rfl (fun hc=>kz rfl et) ?_
 refine bZ (gg rfl rfl rfl rfl) rfl (fun hc=>kz rfl et) ?_
 refine bZ (gg rfl rfl rfl rfl) rfl (fun hc=>rV rfl G1 (bg et hc)) ?_
 refine bZ (gg rfl rfl rfl rfl) rfl (fun hc=>Am rfl (bg et hc) (bg et hc)) ?_
 refine sq (BS rfl et et) ?_
 refine nk (bc h et (fun hb h=> ?_) (fun hb h=> ?_))
 ·refine sr (sq (aV (vs:=[]) (cs:=#[vi 0,(aC ([]:List UInt8)),vi 0,vi 0,vi 0,vi 0,vi 0,vi 0,vi 0,vi 0,vs none 0 0,vs none 0 0,vs none 0 0]) rfl trivial (by kernel_rfl)) ?_)
  refine ay (new:=[vi 0,(aC ([]:List UInt8)),vi 0,vi 0,vi 0,vi 0,vi 0,vi 0,vi 0,vi 0,vs none 0 0,vs none 0 0,vs none 0 0]) (cs':=#[vi 0,(aC ([]:List UInt8)),vi 0,vi 0,vi 0,vi 0,vi 0,vi 0,vi 0,vi 0,vs none 0 0,vs none 0 0,vs none 0 0]) hI .z gn rfl rfl et et rfl aF rfl rfl rfl ?_
  clear hI;intro c6 w2 hI
  refine Ci ?_
  refine Ci ?_
  refine nk (al ?_)
  have hI:=hI.add (c:=Cl.sl aj none 0 ([]:List GMono)) SlC.nil
  have hI:=hI.add (c:=Cl.sl ak none 0 ([]:List GIndex)) SlC.nil
  have hI:=hI.add (c:=Cl.sl au none 0 ([]:List GExpr)) SlC.nil
  obtain rfl:=ac h
  exact jt (vs:=[(Value.agg #[vi 0,(aC ([]:List UInt8)),vi 0,vi 0,vi 0,vi 0,vi 0,vi 0,vi 0,vi 0,vs none 0 0,vs none 0 0,vs none 0 0]),vi 0,vi 1]) Tryz.results15 ⟨⟨_,aZ rfl rfl,ia (l:=[vi 0,(aC ([]:List UInt8)),vi 0,vi 0,vi 0,vi 0,vi 0,vi 0,vi 0,vi 0,vs none 0 0,vs none 0 0,vs none 0 0]) nq rfl aF (CellsAt.of_blk (hI.blk .z) rfl)⟩,⟨aZ rfl rfl,⟨aZ rfl rfl,trivial⟩⟩⟩ ⟨none,0,none,0,none,0,rfl,hI.ext0,hI.fin ⟨(.s (.s .z)),(.s .z),.z,trivial⟩⟩
 refine cc (cA (sr (sm ?_)))
 refine sm ?_
 refine sq (aV (vs:=[(0,vs a1 l1.length c1),(1,vi at1)]) (cs:=#[vs a1 l1.length c1,vi at1,vi 0]) rfl ⟨rfl,et,⟨rfl,et,trivial⟩⟩ (by kernel_rfl)) ?_
 refine fU (v:=(Value.agg #[vs a1 l1.length c1,vi at1,vi 0])) (cs:=#[vs a1 l1.length c1,vi at1,vi 0]) hI gn rfl rfl et rfl ?_
 clear hI;intro b2 c7 w3 hI
 refine aN (cs:=#[(Value.pointer none)]) hI gn rfl rfl Ah rfl ?_
 clear hI;intro b3 c8 w4 hI
 refine ay (new:=[vp b2 0]) (cs':=#[vp b2 0]) hI .z gn rfl rfl et et rfl Av rfl rfl rfl ?_
 clear hI;intro c9 w5 hI
 refine nk (sr (sq (aV (vs:=[]) (cs:=#[vi 0,(aC ([]:List UInt8)),vi 0,vi 0,vi 0,vi 0,vi 0,vi 0,vi 0,vi 0,vs none 0 0,vs none 0 0,vs none 0 0]) rfl trivial (by kernel_rfl)) ?_))
 refine aN (cs:=#[vi 0,(aC ([]:List UInt8)),vi 0,vi 0,vi 0,vi 0,vi 0,vi 0,vi 0,vi 0,vs none 0 0,vs none 0 0,vs none 0 0]) hI gn rfl rfl bA rfl ?_
 clear hI;intro b4 c10 w6 hI
 refine ay (new:=[vi 0,(aC ([]:List UInt8)),vi 0,vi 0,vi 0,vi 0,vi 0,vi 0,vi 0,vi 0,vs none 0 0,vs none 0 0,vs none 0 0]) (cs':=#[vi 0,(aC ([]:List UInt8)),vi 0,vi 0,vi 0,vi 0,vi 0,vi 0,vi 0,vi 0,vs none 0 0,vs none 0 0,vs none 0 0]) hI .z gn rfl rfl et et rfl aF rfl rfl rfl ?_
 clear hI;intro c11 w7 hI
 refine nk (aB (sr (sq (mm (vs:=[]) (cap:=[vp b3 0,vp b4 0]) rfl rfl ⟨et,⟨et,trivial⟩⟩) ?_)))
 obtain⟨c12,hI⟩:=hI.relBox (.s .z)
 have hI:=hI.add (c:=Cl.sl aj none 0 ([]:List GMono)) SlC.nil
 have hI:=hI.add (c:=Cl.sl ak none 0 ([]:List GIndex)) SlC.nil
 have hI:=hI.add (c:=Cl.sl au none 0 ([]:List GExpr)) SlC.nil
 obtain⟨c13,f1,hB,hl1,hk1⟩:=hI.hands (.l (.l (.r .n)))
 replace hB:=hB.ord (.c (.s .z) (.c .z .n))
 rcases sT h with⟨⟨r1,s1,s2⟩,hx1,h⟩ | ⟨pa1,pn1,hx1,hn1,h⟩
 ·skip
  try dsimp only at h
  refine aE gn rfl (ag (vs:=[(Value.func (.func 33) #[] #[vp b3 0,vp b4 0])]) rfl AH ⟨et,trivial⟩) (Calls.mono (rM (β:=(Option Addr)×Nat×(Option Addr)×Nat×(Option Addr)×Nat×(Option Addr)×Nat) (fun x=>[MO.box b2 67 (ab s1 (x.1) (x.2.1)),MO.box b4 39 (am s2 (x.2.2.1) (x.2.2.2.1) (x.2.2.2.2.1) (x.2.2.2.2.2.1) (x.2.2.2.2.2.2.1) (x.2.2.2.2.2.2.2))]) (fun x=>[Cl.sl ah (x.1) (x.2.1) s1.l,Cl.sl aj (x.2.2.1) (x.2.2.2.1) s2.Lin.L,Cl.sl ak (x.2.2.2.2.1) (x.2.2.2.2.2.1) s2.Idx,Cl.sl au (x.2.2.2.2.2.2.1) (x.2.2.2.2.2.2.2) s2.Args]) (cl:=[Cl.sl ah a1 c1 l1,Cl.blk b3 65 #[vp b2 0],Cl.sl aj none 0 ([]:List GMono),Cl.sl ak none 0 ([]:List GIndex),Cl.sl au none 0 ([]:List GExpr),aA]) EY (hB.subs ⟨(.s (.s (.s (.s .z)))),(.s (.s (.s .z))),(.s (.s .z)),(.s .z),.z,(.s (.s (.s (.s (.s .z))))),trivial⟩) (fun C1_ F1_ w1_ hB_=>(mX C1_ F1_ w1_ (⟨l1,at1,0⟩:aa) (⟨0,([]:List UInt8),(⟨0,0⟩:GVal),(⟨0,0,0,0,0⟩:GType),(⟨0,([]:List GMono)⟩:GLin),([]:List GIndex),([]:List GExpr)⟩:GExpr) b3 b2 a1 c1 b4 none 0 none 0 none 0 hB_ _ hx1).mono fun e_ w_ hq_=>(let ⟨a5,c14,a6,c15,a7,c16,a8,c17,C_,he_,hB2_⟩:=en hq_;⟨he_,(a5,c14,a6,c15,a7,c16,a8,c17),C_,hB2_⟩))) ?_)
  rintro _ w8 ⟨rfl,⟨a5,c14,a6,c15,a7,c16,a8,c17⟩,c18,hB2⟩
  obtain⟨c19,hs1,hI⟩:=hk1 _ _ _ _ hB2
  replace hI:Bun d5 F w0 c19 w8 [MO.box b2 67 (ab s1 a5 c14),MO.box b4 39 (am s2 a6 c15 a7 c16 a8 c17),MO.box b1 39 #[vi 0,(aC ([]:List UInt8)),vi 0,vi 0,vi 0,vi 0,vi 0,vi 0,vi 0,vi 0,vs none 0 0,vs none 0 0,vs none 0 0]] [Cl.sl ah a5 c14 s1.l,Cl.sl aj a6 c15 s2.Lin.L,Cl.sl ak a7 c16 s2.Idx,Cl.sl au a8 c17 s2.Args,Cl.sl au none 0 ([]:List GExpr),Cl.sl ak none 0 ([]:List GIndex),Cl.sl aj none 0 ([]:List GMono),Cl.blk b3 65 #[vp b2 0],Cl.sl ah a1 c1 l1,aA]:=hI
  refine⟨_,rfl,?_⟩
  refine sm ?_
  refine sq (gN rfl et rfl) ?_
  refine sq (gN rfl et rfl) ?_
  refine sa ?_
  refine sa ?_
  refine nk (sr (sm ?_))
  refine sq (ua rfl et ai) ?_
  refine nk (bc h et (fun hb h=> ?_) (fun hb h=> ?_))
  ·refine sr (sq (aV (vs:=[]) (cs:=#[vi 0,(aC ([]:List UInt8)),vi 0,vi 0,vi 0,vi 0,vi 0,vi 0,vi 0,vi 0,vs none 0 0,vs none 0 0,vs none 0 0]) rfl trivial (by kernel_rfl)) ?_)
   refine sm ?_
   refine sm ?_
   refine ay (new:=[vi 0,(aC ([]:List UInt8)),vi 0,vi 0,vi 0,vi 0,vi 0,vi 0,vi 0,vi 0,vs none 0 0,vs none 0 0,vs none 0 0]) (cs':=#[vi 0,(aC ([]:List UInt8)),vi 0,vi 0,vi 0,vi 0,vi 0,vi 0,vi 0,vi 0,vs none 0 0,vs none 0 0,vs none 0 0]) hI (.s (.s .z)) gn rfl rfl et et rfl aF rfl rfl rfl ?_
   clear hI;intro c20 w9 hI
   refine sa ?_
   refine sa ?_
   refine bl ?_
   refine qP (e:=[(4,vp b1 0),(5,vi 0),(6,vi 0)]) ⟨rfl,rfl,rfl,trivial⟩ ?_
   refine al ?_
   obtain rfl:=ac h
   exact jt (vs:=[(Value.agg #[vi 0,(aC ([]:List UInt8)),vi 0,vi 0,vi 0,vi 0,vi 0,vi 0,vi 0,vi 0,vs none 0 0,vs none 0 0,vs none 0 0]),vi 0,vi 0]) Tryz.results15 ⟨⟨_,aZ rfl rfl,ia (l:=[vi 0,(aC ([]:List UInt8)),vi 0,vi 0,vi 0,vi 0,vi 0,vi 0,vi 0,vi 0,vs none 0 0,vs none 0 0,vs none 0 0]) nq rfl aF (CellsAt.of_blk (hI.blk (.s (.s .z))) rfl)⟩,⟨aZ rfl rfl,⟨aZ rfl rfl,trivial⟩⟩⟩ ⟨none,0,none,0,none,0,rfl,hI.ext0,hI.fin ⟨(.s (.s (.s (.s (.s (.s .z)))))),(.s (.s (.s (.s (.s .z))))),(.s (.s (.s (.s .z)))),trivial⟩⟩
  refine cc (qP (e:=[(1,vi at1),(4,vp b1 0),(7,vp b3 0),(8,vp b4 0)]) ⟨rfl,rfl,rfl,rfl,trivial⟩ ?_)
  refine aB (sr (sq (aJ (l:=(aQ s2 a6 c15 a7 c16 a8 c17)) rfl et nq rfl aF (CellsAt.of_blk (hI.blk (.s .z)) rfl)) ?_))
  obtain⟨r2,hx2,h⟩:=af h
  refine aE gn rfl (ag (vs:=[(Value.agg (am s2 a6 c15 a7 c16 a8 c17))]) rfl HL ⟨et,trivial⟩) (Calls.mono (tI (Dj F c19) w8 hI.lt s2 a6 c15 a7 c16 a8 c17 ⟨(hI.get (.s .z)),(hI.get (.s (.s .z))),(hI.get (.s (.s (.s .z)))),(hI.get (.s (.s (.s (.s (.s (.s (.s (.s (.s .z)))))))))),trivial⟩ r2 hx2) ?_)
  rintro _ w10 ⟨rfl,hx3,hl2⟩
  refine⟨_,rfl,?_⟩
  replace hI:=(hI.ext hx3)
  refine sa ?_
  refine nk (sr (sm ?_))
  refine sq (ua rfl et ai) ?_
  refine nk (bc h et (fun hb h=> ?_) (fun hb h=> ?_))
  ·refine sr (sq (aV (vs:=[]) (cs:=#[vi 0,(aC ([]:List UInt8)),vi 0,vi 0,vi 0,vi 0,vi 0,vi 0,vi 0,vi 0,vs none 0 0,vs none 0 0,vs none 0 0]) rfl trivial (by kernel_rfl)) ?_)
   refine sm ?_
   refine sm ?_
   refine ay (new:=[vi 0,(aC ([]:List UInt8)),vi 0,vi 0,vi 0,vi 0,vi 0,vi 0,vi 0,vi 0,vs none 0 0,vs none 0 0,vs none 0 0]) (cs':=#[vi 0,(aC ([]:List UInt8)),vi 0,vi 0,vi 0,vi 0,vi 0,vi 0,vi 0,vi 0,vs none 0 0,vs none 0 0,vs none 0 0]) hI (.s (.s .z)) gn rfl rfl et et rfl aF rfl rfl rfl ?_
   clear hI;intro c21 w11 hI
   refine sa ?_
   refine sa ?_
   refine nk (al ?_)
   obtain rfl:=ac h
   exact jt (vs:=[(Value.agg #[vi 0,(aC ([]:List UInt8)),vi 0,vi 0,vi 0,vi 0,vi 0,vi 0,vi 0,vi 0,vs none 0 0,vs none 0 0,vs none 0 0]),vi at1,vi r2]) Tryz.results15 ⟨⟨_,aZ rfl rfl,ia (l:=[vi 0,(aC ([]:List UInt8)),vi 0,vi 0,vi 0,vi 0,vi 0,vi 0,vi 0,vi 0,vs none 0 0,vs none 0 0,vs none 0 0]) nq rfl aF (CellsAt.of_blk (hI.blk (.s (.s .z))) rfl)⟩,⟨aZ rfl rfl,⟨aZ rfl rfl,trivial⟩⟩⟩ ⟨none,0,none,0,none,0,rfl,hI.ext0,hI.fin ⟨(.s (.s (.s (.s (.s (.s .z)))))),(.s (.s (.s (.s (.s .z))))),(.s (.s (.s (.s .z)))),trivial⟩⟩
  refine cc (cA (aB (bx [5] false (.c (0,.q) (.two 1 (.c (2,.q) (.c (3,.q) (.two 4 (.c (5,.s) (.c (6,.q) (.c (7,.q) jb))) 5 jc))) 5 (.c (1,.s) (.c (2,.q) (.c (3,.q) jc))))) hI (by kernel_rfl) (by kernel_rfl) ?_)))
  clear hI;intro w15 hI
  refine ge (α:=NP) (T:=jb) (fun x=>[(1,vi at1),(4,vp b1 0),(5,vi s1.at_),(6,vi 0),(7,vp b3 0),(8,vp b4 0),(11,vi r2),(36,(Value.agg (am s2 a6 c15 a7 c16 a8 c17))),(37,vi r2),(38,vi r2),(39,(vb (!decide (r2=0)))),(43,(Value.agg (am s2 a6 c15 a7 c16 a8 c17))),(44,vp b2 0),(45,vp b2 0),(46,vp b2 1),(47,vi s1.at_)]) (fun x w=>Bun d5 F w0 x w [MO.box b2 67 (ab s1 a5 c14),MO.box b4 39 (am s2 a6 c15 a7 c16 a8 c17),MO.box b1 39 (am s2 a6 c15 a7 c16 a8 c17)] [Cl.sl ah a5 c14 s1.l,Cl.sl aj a6 c15 s2.Lin.L,Cl.sl ak a7 c16 s2.Idx,Cl.sl au a8 c17 s2.Args,Cl.sl au none 0 ([]:List GExpr),Cl.sl ak none 0 ([]:List GIndex),Cl.sl aj none 0 ([]:List GMono),Cl.blk b3 65 #[vp b2 0],Cl.sl ah a1 c1 l1,aA]) (fun x w=>SN [] (DM true F x) w) ?_ ?_
  ·clear hI;rintro c24 w14 hI
   try dsimp only at hI ⊢
   unfold jb
   refine pu ?_
   refine cA (al ?_)
   obtain rfl:=ac h
   exact jt (vs:=[(Value.agg (am s2 a6 c15 a7 c16 a8 c17)),vi s1.at_,vi 0]) Tryz.results15 ⟨⟨_,aZ rfl rfl,ia (l:=(aQ s2 a6 c15 a7 c16 a8 c17)) nq rfl aF (CellsAt.of_blk (hI.blk (.s (.s .z))) rfl)⟩,⟨aZ rfl rfl,⟨aZ rfl rfl,trivial⟩⟩⟩ ⟨a6,c15,a7,c16,a8,c17,rfl,hI.ext0,hI.fin ⟨(.s .z),(.s (.s .z)),(.s (.s (.s .z))),trivial⟩⟩
  intro hk_tr_parser_ExprAt_1_1
  refine ge (α:=NP) (T:=jc) (fun x=>[(1,vi at1),(4,vp b1 0),(7,vp b3 0),(8,vp b4 0),(11,vi r2),(36,(Value.agg (am s2 a6 c15 a7 c16 a8 c17))),(37,vi r2),(38,vi r2),(39,(vb (!decide (r2=0)))),(43,(Value.agg (am s2 a6 c15 a7 c16 a8 c17))),(44,vp b2 0),(45,vp b2 0),(46,vp b2 1)]) (fun x w=>Bun d5 F w0 x w [MO.box b2 67 (ab s1 a5 c14),MO.box b4 39 (am s2 a6 c15 a7 c16 a8 c17),MO.box b1 39 (am s2 a6 c15 a7 c16 a8 c17)] [Cl.sl ah a5 c14 s1.l,Cl.sl aj a6 c15 s2.Lin.L,Cl.sl ak a7 c16 s2.Idx,Cl.sl au a8 c17 s2.Args,Cl.sl au none 0 ([]:List GExpr),Cl.sl ak none 0 ([]:List GIndex),Cl.sl aj none 0 ([]:List GMono),Cl.blk b3 65 #[vp b2 0],Cl.sl ah a1 c1 l1,aA]) (fun x w=>SN [] (DM true F x) w) ?_ ?_
  ·clear hI;rintro c23 w13 hI
   try dsimp only at hI ⊢
   unfold jc
   refine dK rfl gn rfl (eG (v:=(vi s1.at_)) rfl et u3 rfl (CellsAt.of_blk (hI.blk .z) rfl)) SX.self ?_
   refine pt rfl gn rfl (fun w'=>dN rfl et) ?_
   refine pt rfl gn rfl (fun w'=>dN rfl ai) ?_
   exact cM (hk_tr_parser_ExprAt_1_1 c23 _ (hI.arr (.c .z (.c .z (.c .z .n))) ⟨.z,(.s .z),(.s (.s .z)),(.s (.s (.s .z))),(.s (.s (.s (.s .z)))),(.s (.s (.s (.s (.s .z))))),(.s (.s (.s (.s (.s (.s .z)))))),(.s (.s (.s (.s (.s (.s (.s .z))))))),(.s (.s (.s (.s (.s (.s (.s (.s .z)))))))),(.s (.s (.s (.s (.s (.s (.s (.s (.s .z))))))))),trivial⟩)) ⟨rfl,rfl,rfl,rfl,rfl,rfl,rfl,rfl,rfl,rfl,rfl,rfl,rfl,rfl,rfl,rfl,trivial⟩
  intro hk_tr_parser_ExprAt_1_0
  refine me rfl gn rfl (fun w' hw'=>(aJ (l:=(aQ s2 a6 c15 a7 c16 a8 c17)) rfl et nq rfl aF ((CA.blk (hI.blk (.s .z)) rfl).at_ (SX.any rfl hw')))) (by kernel_rfl) ?_
  refine gV ?_ ?_
  ·skip
   refine dK rfl gn rfl (eG (v:=(vp b2 0)) rfl et H6 rfl (hI.kblk (l:=[vp b2 0]) (.s (.s (.s (.s (.s (.s (.s .z))))))) rfl).1) SX.self ?_
   refine pt rfl gn rfl (fun w'=>ml rfl et) ?_
   refine pt rfl gn rfl (fun w'=>dH rfl et H5 rfl gb rfl) ?_
   refine gV ?_ ?_
   ·skip
    refine dK rfl gn rfl (eG (v:=(vi s1.at_)) rfl et u3 rfl (CellsAt.of_blk (hI.blk .z) rfl)) SX.self ?_
    refine hO (F:=F) (C:=c19) rfl rfl ?_
    refine fT (new:=(aQ s2 a6 c15 a7 c16 a8 c17)) (cs':=(am s2 a6 c15 a7 c16 a8 c17)) hI (.s (.s .z)) rfl gn rfl rfl et et rfl aF rfl rfl rfl ?_
    clear hI;intro c22 w12 hI
    refine pt rfl gn rfl (fun w'=>dN rfl et) ?_
    refine pt rfl gn rfl (fun w'=>dN rfl ai) ?_
    exact cM (hk_tr_parser_ExprAt_1_1 c22 _ (hI.arr (.c .z (.c .z (.c .z .n))) ⟨.z,(.s .z),(.s (.s .z)),(.s (.s (.s .z))),(.s (.s (.s (.s .z)))),(.s (.s (.s (.s (.s .z))))),(.s (.s (.s (.s (.s (.s .z)))))),(.s (.s (.s (.s (.s (.s (.s .z))))))),(.s (.s (.s (.s (.s (.s (.s (.s .z)))))))),(.s (.s (.s (.s (.s (.s (.s (.s (.s .z))))))))),trivial⟩)) ⟨rfl,rfl,rfl,rfl,rfl,rfl,rfl,rfl,rfl,rfl,rfl,rfl,rfl,rfl,rfl,rfl,trivial⟩
   refine dw (F:=F) (C:=c19) rfl rfl ?_
   refine fT (new:=(aQ s2 a6 c15 a7 c16 a8 c17)) (cs':=(am s2 a6 c15 a7 c16 a8 c17)) hI (.s (.s .z)) rfl gn rfl rfl et et rfl aF rfl rfl rfl ?_
   clear hI;intro c22 w12 hI
   exact cM (hk_tr_parser_ExprAt_1_0 c22 _ (hI.arr (.c .z (.c .z (.c .z .n))) ⟨.z,(.s .z),(.s (.s .z)),(.s (.s (.s .z))),(.s (.s (.s (.s .z)))),(.s (.s (.s (.s (.s .z))))),(.s (.s (.s (.s (.s (.s .z)))))),(.s (.s (.s (.s (.s (.s (.s .z))))))),(.s (.s (.s (.s (.s (.s (.s (.s .z)))))))),(.s (.s (.s (.s (.s (.s (.s (.s (.s .z))))))))),trivial⟩)) ⟨rfl,rfl,rfl,rfl,rfl,rfl,rfl,rfl,rfl,rfl,rfl,rfl,rfl,trivial⟩
  refine dw (F:=F) (C:=c19) rfl rfl ?_
  refine fT (new:=(aQ s2 a6 c15 a7 c16 a8 c17)) (cs':=(am s2 a6 c15 a7 c16 a8 c17)) hI (.s (.s .z)) rfl gn rfl rfl et et rfl aF rfl rfl rfl ?_
  clear hI;intro c22 w12 hI
  refine dK rfl gn rfl (eG (v:=(vp b2 0)) rfl et H6 rfl (hI.kblk (l:=[vp b2 0]) (.s (.s (.s (.s (.s (.s (.s .z))))))) rfl).1) SX.self ?_
  refine pt rfl gn rfl (fun w'=>ml rfl et) ?_
  refine pt rfl gn rfl (fun w'=>dH rfl et H5 rfl gb rfl) ?_
  exact cM (hk_tr_parser_ExprAt_1_0 c22 _ (hI.arr (.c .z (.c .z (.c .z .n))) ⟨.z,(.s .z),(.s (.s .z)),(.s (.s (.s .z))),(.s (.s (.s (.s .z)))),(.s (.s (.s (.s (.s .z))))),(.s (.s (.s (.s (.s (.s .z)))))),(.s (.s (.s (.s (.s (.s (.s .z))))))),(.s (.s (.s (.s (.s (.s (.s (.s .z)))))))),(.s (.s (.s (.s (.s (.s (.s (.s (.s .z))))))))),trivial⟩)) ⟨rfl,rfl,rfl,rfl,rfl,rfl,rfl,rfl,rfl,rfl,rfl,rfl,rfl,trivial⟩
 try dsimp only at h
 refine aE gn rfl (ag (vs:=[(Value.func (.func 33) #[] #[vp b3 0,vp b4 0])]) rfl AH ⟨et,trivial⟩) (Calls.mono (rN (cl:=[Cl.sl ah a1 c1 l1,Cl.blk b3 65 #[vp b2 0],Cl.sl aj none 0 ([]:List GMono),Cl.sl ak none 0 ([]:List GIndex),Cl.sl au none 0 ([]:List GExpr),aA]) EY (hB.subs ⟨(.s (.s (.s (.s .z)))),(.s (.s (.s .z))),(.s (.s .z)),(.s .z),.z,(.s (.s (.s (.s (.s .z))))),trivial⟩) (fun C1_ F1_ w1_ hB_=>(mX C1_ F1_ w1_ (⟨l1,at1,0⟩:aa) (⟨0,([]:List UInt8),(⟨0,0⟩:GVal),(⟨0,0,0,0,0⟩:GType),(⟨0,([]:List GMono)⟩:GLin),([]:List GIndex),([]:List GExpr)⟩:GExpr) b3 b2 a1 c1 b4 none 0 none 0 none 0 hB_ _ hx1).mono fun e_ w_ hq_=>eo hq_)) ?_)
 rintro _ w16 ⟨rfl,c25,hB2⟩
 obtain⟨c26,hs2,hI⟩:=hk1 _ _ _ _ hB2
 replace hI:Bun d5 F w0 c26 w16 [MO.box b1 39 #[vi 0,(aC ([]:List UInt8)),vi 0,vi 0,vi 0,vi 0,vi 0,vi 0,vi 0,vi 0,vs none 0 0,vs none 0 0,vs none 0 0]] [Cl.sl au none 0 ([]:List GExpr),Cl.sl ak none 0 ([]:List GIndex),Cl.sl aj none 0 ([]:List GMono),Cl.blk b3 65 #[vp b2 0],Cl.sl ah a1 c1 l1,aA]:=hI
 refine⟨_,rfl,?_⟩
 have hk2:(!decide (pn1=0))=true:=by simp[hn1]
 refine sm ?_
 refine sq (gN rfl et rfl) ?_
 refine sq (gN rfl et rfl) ?_
 refine sa ?_
 refine sa ?_
 refine nk (sr (sm ?_))
 refine sq (ua rfl et ai) ?_
 refine nk (q8 (b:= !decide (pn1=0)) et (fun _=> ?_) (fun hb=>absurd (hb.symm.trans hk2) (by simp)))
 refine sr (sq (aV (vs:=[]) (cs:=#[vi 0,(aC ([]:List UInt8)),vi 0,vi 0,vi 0,vi 0,vi 0,vi 0,vi 0,vi 0,vs none 0 0,vs none 0 0,vs none 0 0]) rfl trivial (by kernel_rfl)) ?_)
 refine sm ?_
 refine sm ?_
 refine ay (new:=[vi 0,(aC ([]:List UInt8)),vi 0,vi 0,vi 0,vi 0,vi 0,vi 0,vi 0,vi 0,vs none 0 0,vs none 0 0,vs none 0 0]) (cs':=#[vi 0,(aC ([]:List UInt8)),vi 0,vi 0,vi 0,vi 0,vi 0,vi 0,vi 0,vi 0,vs none 0 0,vs none 0 0,vs none 0 0]) hI .z gn rfl rfl et et rfl aF rfl rfl rfl ?_
 clear hI;intro c27 w17 hI
 refine sa ?_
 refine sa ?_
 refine bl ?_
 refine qP (e:=[(4,vp b1 0),(5,vi pa1),(6,vi pn1)]) ⟨rfl,rfl,rfl,trivial⟩ ?_
 refine al ?_
 obtain rfl:=ac h
 exact jt (vs:=[(Value.agg #[vi 0,(aC ([]:List UInt8)),vi 0,vi 0,vi 0,vi 0,vi 0,vi 0,vi 0,vi 0,vs none 0 0,vs none 0 0,vs none 0 0]),vi pa1,vi pn1]) Tryz.results15 ⟨⟨_,aZ rfl rfl,ia (l:=[vi 0,(aC ([]:List UInt8)),vi 0,vi 0,vi 0,vi 0,vi 0,vi 0,vi 0,vi 0,vs none 0 0,vs none 0 0,vs none 0 0]) nq rfl aF (CellsAt.of_blk (hI.blk .z) rfl)⟩,⟨aZ rfl rfl,⟨aZ rfl rfl,trivial⟩⟩⟩ ⟨none,0,none,0,none,0,rfl,hI.ext0,hI.fin ⟨(.s (.s .z)),(.s .z),.z,trivial⟩⟩
theorem tC (F:NP) (w0:World) (hF:∀ k,F k→k<w0.heap.size) (s1:List UInt8) (l1:List aG) (at1:Int) (a1:Option Addr) (c1:Nat) (hc:AllCl [Cl.sl ah a1 c1 l1] F w0) (r:Int)
  (h:iY s1 l1 at1=some r):
  Calls Tryz.prog 40 #[(aC s1),vs a1 l1.length c1,vi at1] w0 fun e w=>e= .returned (vi r)∧Ext w0 w∧AllCl [] F w:=by
 refine aL Tryz.func40 rfl Tryz.ntmps40 rfl ?_
 have hI:=Bun.start hF hc
 clear hc
 rw[iY]at h
 refine T ?_
 refine aB (T ?_)
 refine bc h et (fun hb h=> ?_) (fun hb h=> ?_)
 ·refine T ?_
  refine al ?_
  obtain rfl:=ac h
  exact QF hI
 refine T ?_
 obtain⟨e1,hx1,h⟩:=af h
 obtain⟨ad1,cs1,hA1,hr1,hq1⟩:=hI.clat .z hx1
 obtain rfl:cs1=(m6 e1):=hr1
 refine sI ?_
 refine T ?_
 refine al ?_
 obtain rfl:=ac h
 exact QF hI
theorem jp (F:NP) (w0:World) (hF:∀ k,F k→k<w0.heap.size) (s1:List UInt8) (hc:AllCl [aA] F w0) (r:GExpr×Int×Int)
  (h:bT s1=some r):
  Calls Tryz.prog 18 #[(aC s1)] w0 fun e w=>∃ (a1:Option Addr) (c1:Nat) (a2:Option Addr) (c2:Nat) (a3:Option Addr) (c3:Nat),e= .returned (Value.tuple #[(Value.agg (am r.1 a1 c1 a2 c2 a3 c3)),vi r.2.1,vi r.2.2])∧Ext w0 w∧AllCl [Cl.sl aj a1 c1 r.1.Lin.L,Cl.sl ak a2 c2 r.1.Idx,Cl.sl au a3 c3 r.1.Args] F w:=by
 refine aL Tryz.func18 rfl Tryz.ntmps18 rfl ?_
 have hI:=Bun.start hF hc
 clear hc
 rw[bT]at h
 refine sr (aN (cs:=#[vi 0,(aC ([]:List UInt8)),vi 0,vi 0,vi 0,vi 0,vi 0,vi 0,vi 0,vi 0,vs none 0 0,vs none 0 0,vs none 0 0]) hI gn rfl rfl bA rfl ?_)
 clear hI;intro b1 c4 w1 hI
 refine T ?_
 obtain⟨r1,hx1,h⟩:=af h
 refine aE gn rfl (ag (vs:=[(aC s1)]) rfl HI ⟨et,trivial⟩) (Calls.mono (sB (Dj F c4) w1 hI.lt s1 trivial r1 hx1) ?_)
 rintro _ w2 ⟨a4,c5,rfl,hx2,hl1⟩
 refine⟨_,rfl,?_⟩
 replace hI:=(hI.ext hx2).adds hl1;dsimp only[ca,na]at hI
 refine T ?_
 refine aB (T ?_)
 refine bc h et (fun hb h=> ?_) (fun hb h=> ?_)
 ·refine sr (sq (aV (vs:=[]) (cs:=#[vi 0,(aC ([]:List UInt8)),vi 0,vi 0,vi 0,vi 0,vi 0,vi 0,vi 0,vi 0,vs none 0 0,vs none 0 0,vs none 0 0]) rfl trivial (by kernel_rfl)) ?_)
  refine T ?_
  refine ay (new:=[vi 0,(aC ([]:List UInt8)),vi 0,vi 0,vi 0,vi 0,vi 0,vi 0,vi 0,vi 0,vs none 0 0,vs none 0 0,vs none 0 0]) (cs':=#[vi 0,(aC ([]:List UInt8)),vi 0,vi 0,vi 0,vi 0,vi 0,vi 0,vi 0,vi 0,vs none 0 0,vs none 0 0,vs none 0 0]) hI .z gn rfl rfl et et rfl aF rfl rfl rfl ?_
  clear hI;intro c6 w3 hI
  refine T ?_
  refine al ?_
  have hI:=hI.add (c:=Cl.sl aj none 0 ([]:List GMono)) SlC.nil
  have hI:=hI.add (c:=Cl.sl ak none 0 ([]:List GIndex)) SlC.nil
  have hI:=hI.add (c:=Cl.sl au none 0 ([]:List GExpr)) SlC.nil
  obtain rfl:=ac h
  refine QG ?_
  exact⟨none,0,none,0,none,0,rfl,hI.ext0,hI.fin ⟨(.s (.s .z)),(.s .z),.z,trivial⟩⟩
 refine T ?_
 obtain⟨r2,hx3,h⟩:=af h
 refine aE gn rfl (ag (vs:=[vs a4 r1.1.length c5,vi 0]) rfl HM ⟨et,⟨ai,trivial⟩⟩) (Calls.mono (tD (Dj F c4) w2 hI.lt r1.1 0 a4 c5 ⟨(hI.get .z),(hI.get (.s .z)),trivial⟩ r2 hx3) ?_)
 rintro _ w4 ⟨a5,c7,a6,c8,a7,c9,rfl,hx4,hl2⟩
 refine⟨_,rfl,?_⟩
 replace hI:=(hI.ext hx4).adds hl2;dsimp only[ca,na]at hI
 refine T ?_
 refine aN (cs:=#[vi 0,(aC ([]:List UInt8)),vi 0,vi 0,vi 0,vi 0,vi 0,vi 0,vi 0,vi 0,vs none 0 0,vs none 0 0,vs none 0 0]) hI gn rfl rfl bA rfl ?_
 clear hI;intro b2 c10 w5 hI
 refine ay (new:=(aQ r2.1 a5 c7 a6 c8 a7 c9)) (cs':=(am r2.1 a5 c7 a6 c8 a7 c9)) hI .z gn rfl rfl et et rfl aF rfl rfl rfl ?_
 clear hI;intro c11 w6 hI
 refine T ?_
 refine du (α:=Int) (fun _=>⟨44,[]⟩) (fun x=>[(0,(aC s1)),(2,vp b1 0),(5,vs a4 r1.1.length c5),(7,vi x),(8,vp b2 0),(9,vi r2.2.1)]) (fun x=>fun w=>∃ C,Bun d5 F w0 C w [MO.box b1 39 #[vi 0,(aC ([]:List UInt8)),vi 0,vi 0,vi 0,vi 0,vi 0,vi 0,vi 0,vi 0,vs none 0 0,vs none 0 0,vs none 0 0],MO.box b2 39 (am r2.1 a5 c7 a6 c8 a7 c9)] [Cl.sl ah a4 c5 r1.1,Cl.sl aj a5 c7 r2.1.Lin.L,Cl.sl ak a6 c8 r2.1.Idx,Cl.sl au a7 c9 r2.1.Args,aA]∧gq s1 r1 r2 x=some r) ?_ ?_
 ·clear h hI;rintro e1 w7 ⟨c12,hI,h⟩
  try dsimp only at hI h
  rw[gq]at h
  refine bz (e:=[(0,(aC s1)),(2,vp b1 0),(5,vs a4 r1.1.length c5),(7,vi e1),(8,vp b2 0),(9,vi r2.2.1)]) SB ?_
  refine aB (T ?_)
  refine bc h et (fun hb h=> ?_) (fun hb h=> ?_)
  ·refine sr (sq (aV (vs:=[]) (cs:=#[vi 0,(aC ([]:List UInt8)),vi 0,vi 0,vi 0,vi 0,vi 0,vi 0,vi 0,vi 0,vs none 0 0,vs none 0 0,vs none 0 0]) rfl trivial (by kernel_rfl)) ?_)
   refine T ?_
   obtain⟨r3,hx5,h⟩:=af h
   refine aE gn rfl (ag (vs:=[(aC s1),vs a4 r1.1.length c5,vi r2.2.1]) rfl HH ⟨et,⟨et,⟨et,trivial⟩⟩⟩) (Calls.mono (tC (Dj F c12) w7 hI.lt s1 r1.1 r2.2.1 a4 c5 ⟨(hI.get .z),trivial⟩ r3 hx5) ?_)
   rintro _ w8 ⟨rfl,hx6,hl3⟩
   refine⟨_,rfl,?_⟩
   replace hI:=(hI.ext hx6)
   refine sm ?_
   refine ay (new:=[vi 0,(aC ([]:List UInt8)),vi 0,vi 0,vi 0,vi 0,vi 0,vi 0,vi 0,vi 0,vs none 0 0,vs none 0 0,vs none 0 0]) (cs':=#[vi 0,(aC ([]:List UInt8)),vi 0,vi 0,vi 0,vi 0,vi 0,vi 0,vi 0,vi 0,vs none 0 0,vs none 0 0,vs none 0 0]) hI .z gn rfl rfl et et rfl aF rfl rfl rfl ?_
   clear hI;intro c13 w9 hI
   refine T ?_
   refine al ?_
   have hI:=hI.add (c:=Cl.sl aj none 0 ([]:List GMono)) SlC.nil
   have hI:=hI.add (c:=Cl.sl ak none 0 ([]:List GIndex)) SlC.nil
   have hI:=hI.add (c:=Cl.sl au none 0 ([]:List GExpr)) SlC.nil
   obtain rfl:=ac h
   refine QG ?_
   exact⟨none,0,none,0,none,0,rfl,hI.ext0,hI.fin ⟨(.s (.s .z)),(.s .z),.z,trivial⟩⟩
  refine T ?_
  refine ay (new:=(aQ r2.1 a5 c7 a6 c8 a7 c9)) (cs':=(am r2.1 a5 c7 a6 c8 a7 c9)) hI .z gn rfl rfl et et rfl aF rfl rfl rfl ?_
  clear hI;intro c14 w10 hI
  refine T ?_
  refine al ?_
  obtain rfl:=ac h
  refine QG ?_
  exact⟨a5,c7,a6,c8,a7,c9,rfl,hI.ext0,hI.fin ⟨(.s .z),(.s (.s .z)),(.s (.s (.s .z))),trivial⟩⟩
 refine T ?_
 refine bc h et (fun hb h=> ?_) (fun hb h=> ?_)
 ·refine T ?_
  refine bl ?_
  exact bi 5 SB ⟨_,hI.arr GO SU,h⟩ rfl
 exact cc (bi r2.2.2 SB ⟨_,hI.arr GO SU,h⟩ rfl)
theorem pf (F:NP) (w0:World) (hF:∀ k,F k→k<w0.heap.size) (a1:GLin) (b1:GLin) (a2:Option Addr) (c1:Nat) (a3:Option Addr) (c2:Nat) (hc:AllCl [Cl.sl aj a2 c1 a1.L,Cl.sl aj a3 c2 b1.L] F w0) (r:Bool)
  (h:kN a1 b1=some r):
  Calls Tryz.prog 14 #[(Value.agg (bI a1 a2 c1)),(Value.agg (bI b1 a3 c2))] w0 fun e w=>e= .returned (vb r)∧Ext w0 w∧AllCl [] F w:=by
 refine aL Tryz.func14 rfl Tryz.ntmps14 rfl ?_
 have hI:=Bun.start hF hc
 clear hc
 rw[kN]at h
 refine sr (fU (v:=(Value.agg (bI a1 a2 c1))) (cs:=(bI a1 a2 c1)) hI gn rfl rfl et rfl ?_)
 clear hI;intro b2 c3 w1 hI
 obtain⟨c4,hI⟩:=hI.relBox .z
 refine fU (v:=(Value.agg (bI b1 a3 c2))) (cs:=(bI b1 a3 c2)) hI gn rfl rfl et rfl ?_
 clear hI;intro b3 c5 w2 hI
 obtain⟨c6,hI⟩:=hI.relBox .z
 refine T ?_
 refine aB (T ?_)
 refine bc h et (fun hb h=> ?_) (fun hb h=> ?_)
 ·refine T ?_
  refine al ?_
  obtain rfl:=ac h
  exact QF hI
 refine T ?_
 refine aB (T ?_)
 refine cO (α:=Nat×Int) (fun x=>fun w=>∃ C,Bun d5 F w0 C w [] [Cl.blk b2 27 (bI a1 a2 c1),Cl.sl aj a2 c1 a1.L,Cl.blk b3 27 (bI b1 a3 c2),Cl.sl aj a3 c2 b1.L]∧iw a1 b1 (x.1) (x.2)=some r) (fun x _=>x.1) (fun x=>[(2,vp b2 0),(3,vp b3 0),(5,vi (x.2))]) (fu,0) ⟨_,hI.arr .n ⟨(.s .z),(.s (.s .z)),.z,(.s (.s (.s .z))),trivial⟩,h⟩ SB ?_
 clear h hI;rintro⟨fuel1,i1⟩ w3 ⟨c7,hI,h⟩
 dsimp only at hI h
 rcases fuel1 with _ | fuel1
 ·rw[iw]at h;cases h
 rw[iw]at h
 refine bz (e:=[(2,vp b2 0),(3,vp b3 0),(5,vi i1)]) SB ?_
 refine aB (T ?_)
 refine bc h et (fun hb h=> ?_) (fun hb h=> ?_)
 ·refine T ?_
  refine aB (T ?_)
  refine aB (bx [] false (.c (0,.q) (.c (1,.q) (.c (2,.q) (.c (3,.q) (.c (4,.q) (.c (5,.q) (.c (6,.q) (.c (7,.q) (.c (8,.q) (.c (9,.q) (.c (10,.q) .n))))))))))) hI (by kernel_rfl) (by kernel_rfl) ?_)
  clear hI;intro w4 hI
  refine V ?_
  obtain⟨e1,hx1,h⟩:=af h
  obtain⟨ad1,cs1,hA1,hr1,hq1⟩:=hI.clat (.s .z) hx1
  obtain rfl:cs1=(lH e1):=hr1
  refine vI ?_
  refine me rfl gn rfl (fun w' hw'=>(aJ (l:=(lH e1)) rfl et u64 rfl nR (hq1.at_ (SX.any rfl hw')))) (by kernel_rfl) ?_
  refine V ?_
  obtain⟨e2,hx2,h⟩:=af h
  obtain⟨ad2,cs2,hA2,hr2,hq2⟩:=hI.clat (.s (.s (.s .z))) hx2
  obtain rfl:cs2=(lH e2):=hr2
  refine vI ?_
  refine me rfl gn rfl (fun w' hw'=>(aJ (l:=(lH e2)) rfl et u64 rfl nR (hq2.at_ (SX.any rfl hw')))) (by kernel_rfl) ?_
  refine pt rfl gn rfl (fun w'=>jr rfl et et (xj ..) (zY ..)) ?_
  refine V ?_
  refine bc h et (fun hb h=> ?_) (fun hb h=> ?_)
  ·refine T ?_
   refine al ?_
   obtain rfl:=ac h
   exact QF hI
  refine T ?_
  refine bl ?_
  exact cg (fuel1,az (i1+1)) SB ⟨_,hI.arr GO SU,h⟩ (Nat.lt_succ_self _)
 refine dv ?_
 refine kb ?_
 refine cA ?_
 refine T ?_
 refine al ?_
 obtain rfl:=ac h
 exact QF hI
theorem lg (F:NP) (w0:World) (hF:∀ k,F k→k<w0.heap.size) (hc:AllCl [aA] F w0) (r:Bool)
  (h:gt=some r):
  Calls Tryz.prog 11 #[] w0 fun e w=>e= .returned (vb r)∧Ext w0 w∧AllCl [] F w:=by
 refine aL Tryz.func11 rfl Tryz.ntmps11 rfl ?_
 have hI:=Bun.start hF hc
 clear hc
 rw[gt]at h
 refine T ?_
 obtain⟨r1,hx1,h⟩:=af h
 refine aE gn rfl (ag (vs:=[(aC ([50,42,105,32,45,32,51,32,43,32,105]:List UInt8))]) rfl E3 ⟨ai,trivial⟩) (Calls.mono (oF (Dj F d5) w0 hI.lt ([50,42,105,32,45,32,51,32,43,32,105]:List UInt8) trivial r1 hx1) ?_)
 rintro _ w1 ⟨a1,c1,rfl,hx2,hl1⟩
 refine⟨_,rfl,?_⟩
 replace hI:=(hI.ext hx2).adds hl1;dsimp only[ca,na]at hI
 refine T ?_
 obtain⟨r2,hx3,h⟩:=af h
 refine aE gn rfl (ag (vs:=[vs a1 r1.1.length c1,vi 0]) rfl HN ⟨et,⟨ai,trivial⟩⟩) (Calls.mono (xt (Dj F d5) w1 hI.lt r1.1 0 a1 c1 ⟨(hI.get .z),(hI.get (.s .z)),trivial⟩ r2 hx3) ?_)
 rintro _ w2 ⟨a2,c2,rfl,hx4,hl2⟩
 refine⟨_,rfl,?_⟩
 replace hI:=(hI.ext hx4).adds hl2;dsimp only[ca,na]at hI
 refine T ?_
 refine aN (cs:=#[vi 0,vs none 0 0]) hI gn rfl rfl fA rfl ?_
 clear hI;intro b1 c3 w3 hI
 refine ay (new:=(gx r2.1 a2 c2)) (cs':=(bI r2.1 a2 c2)) hI .z gn rfl rfl et et rfl aW rfl rfl rfl ?_
 clear hI;intro c4 w4 hI
 refine T ?_
 obtain⟨r3,hx5,h⟩:=af h
 refine aE gn rfl (ag (vs:=[(aC ([97,91,105,93,32,43,32,98,91,93,32,42,32,91,50,93]:List UInt8))]) rfl uA ⟨ai,trivial⟩) (Calls.mono (jp (Dj F c4) w4 hI.lt ([97,91,105,93,32,43,32,98,91,93,32,42,32,91,50,93]:List UInt8) ⟨(hI.get (.s (.s .z))),trivial⟩ r3 hx5) ?_)
 rintro _ w5 ⟨a3,c5,a4,c6,a5,c7,rfl,hx6,hl3⟩
 refine⟨_,rfl,?_⟩
 replace hI:=(hI.ext hx6).adds hl3;dsimp only[ca,na]at hI
 refine T ?_
 refine aN (cs:=#[vi 0,(aC ([]:List UInt8)),vi 0,vi 0,vi 0,vi 0,vi 0,vi 0,vi 0,vi 0,vs none 0 0,vs none 0 0,vs none 0 0]) hI gn rfl rfl bA rfl ?_
 clear hI;intro b2 c8 w6 hI
 refine ay (new:=(aQ r3.1 a3 c5 a4 c6 a5 c7)) (cs':=(am r3.1 a3 c5 a4 c6 a5 c7)) hI .z gn rfl rfl et et rfl aF rfl rfl rfl ?_
 clear hI;intro c9 w7 hI
 refine T ?_
 obtain⟨r4,hx7,h⟩:=af h
 refine aE gn rfl (ag (vs:=[(aC ([97,91]:List UInt8))]) rfl uA ⟨ai,trivial⟩) (Calls.mono (jp (Dj F c9) w7 hI.lt ([97,91]:List UInt8) ⟨(hI.get (.s (.s (.s (.s (.s .z)))))),trivial⟩ r4 hx7) ?_)
 rintro _ w8 ⟨a6,c10,a7,c11,a8,c12,rfl,hx8,hl4⟩
 refine⟨_,rfl,?_⟩
 replace hI:=(hI.ext hx8).adds hl4;dsimp only[ca,na]at hI
 refine T ?_
 refine aN (cs:=#[vi 0,(aC ([]:List UInt8)),vi 0,vi 0,vi 0,vi 0,vi 0,vi 0,vi 0,vi 0,vs none 0 0,vs none 0 0,vs none 0 0]) hI gn rfl rfl bA rfl ?_
 clear hI;intro b3 c13 w9 hI
 refine ay (new:=(aQ r4.1 a6 c10 a7 c11 a8 c12)) (cs':=(am r4.1 a6 c10 a7 c11 a8 c12)) hI .z gn rfl rfl et et rfl aF rfl rfl rfl ?_
 clear hI;intro c14 w10 hI
 refine T ?_
 obtain⟨r5,hx9,h⟩:=af h
 refine aE gn rfl (ag (vs:=[(aC ([97,91,105,93,32,43,42,32,50]:List UInt8))]) rfl uA ⟨ai,trivial⟩) (Calls.mono (jp (Dj F c14) w10 hI.lt ([97,91,105,93,32,43,42,32,50]:List UInt8) ⟨(hI.get (.s (.s (.s (.s (.s (.s (.s (.s .z))))))))),trivial⟩ r5 hx9) ?_)
 rintro _ w11 ⟨a9,c15,a10,c16,a11,c17,rfl,hx10,hl5⟩
 refine⟨_,rfl,?_⟩
 replace hI:=(hI.ext hx10).adds hl5;dsimp only[ca,na]at hI
 refine T ?_
 refine aN (cs:=#[vi 0,(aC ([]:List UInt8)),vi 0,vi 0,vi 0,vi 0,vi 0,vi 0,vi 0,vi 0,vs none 0 0,vs none 0 0,vs none 0 0]) hI gn rfl rfl bA rfl ?_
 clear hI;intro b4 c18 w12 hI
 refine ay (new:=(aQ r5.1 a9 c15 a10 c16 a11 c17)) (cs':=(am r5.1 a9 c15 a10 c16 a11 c17)) hI .z gn rfl rfl et et rfl aF rfl rfl rfl ?_
 clear hI;intro c19 w13 hI
 refine T ?_
 obtain⟨r6,hx11,h⟩:=af h
 refine aE gn rfl (ag (vs:=[(aC ([102,114,97,99,40,50,47,52,41]:List UInt8))]) rfl uA ⟨ai,trivial⟩) (Calls.mono (jp (Dj F c19) w13 hI.lt ([102,114,97,99,40,50,47,52,41]:List UInt8) ⟨(hI.get (.s (.s (.s (.s (.s (.s (.s (.s (.s (.s (.s .z)))))))))))),trivial⟩ r6 hx11) ?_)
 rintro _ w14 ⟨a12,c20,a13,c21,a14,c22,rfl,hx12,hl6⟩
 refine⟨_,rfl,?_⟩
 replace hI:=(hI.ext hx12).adds hl6;dsimp only[ca,na]at hI
 refine T ?_
 refine aN (cs:=#[vi 0,(aC ([]:List UInt8)),vi 0,vi 0,vi 0,vi 0,vi 0,vi 0,vi 0,vi 0,vs none 0 0,vs none 0 0,vs none 0 0]) hI gn rfl rfl bA rfl ?_
 clear hI;intro b5 c23 w15 hI
 refine ay (new:=(aQ r6.1 a12 c20 a13 c21 a14 c22)) (cs':=(am r6.1 a12 c20 a13 c21 a14 c22)) hI .z gn rfl rfl et et rfl aF rfl rfl rfl ?_
 clear hI;intro c24 w16 hI
 refine T ?_
 refine aB (T ?_)
 refine bZ (gg rfl rfl rfl rfl) rfl (fun hc=>(aJ (l:=(gx r2.1 a2 c2)) rfl et rZ rfl aW (CellsAt.of_blk (hI.blk (.s (.s (.s (.s .z))))) rfl))) ?_
 refine bZ (gg rfl rfl rfl rfl) rfl (fun hc=>(aV (vs:=[(0,(aC ([105]:List UInt8))),(1,vi 3)]) (cs:=#[(aC ([105]:List UInt8)),vi 3]) rfl ⟨rfl,ai,⟨rfl,ai,trivial⟩⟩ (by kernel_rfl))) ?_
 obtain⟨ho1,h⟩:=ic h
 refine jR (c:=aj) (xs:=([(⟨([105]:List UInt8),3⟩:GMono)]:List GMono)) (vs:=[(0,(Value.agg #[(aC ([105]:List UInt8)),vi 3]))]) (cs:=#[(aC ([105]:List UInt8)),vi 3]) (css:=[[(aC ([105]:List UInt8)),vi 3]]) hI (Dq (gg rfl rfl rfl rfl) ho1) rfl rfl DP qe rfl ⟨rfl,(bg et ho1),trivial⟩ (by kernel_rfl) ⟨rfl,trivial⟩ rfl rfl rfl ?_
 clear hI;intro b6 c25 w17 hI
 refine bZ (gg rfl rfl rfl rfl) rfl (fun hc=>(aV (vs:=[(0,vi (-3)),(1,(vs (some ⟨b6,0,none⟩) ([(⟨([105]:List UInt8),3⟩:GMono)]:List GMono).length 1))]) (cs:=#[vi (-3),(vs (some ⟨b6,0,none⟩) ([(⟨([105]:List UInt8),3⟩:GMono)]:List GMono).length 1)]) rfl ⟨rfl,ai,⟨rfl,et,trivial⟩⟩ (by kernel_rfl))) ?_
 obtain⟨r7,hx13,h⟩:=af h
 refine aE (Dq (gg rfl rfl rfl rfl) ho1) rfl (ag (vs:=[(Value.agg (bI r2.1 a2 c2)),(Value.agg #[vi (-3),(vs (some ⟨b6,0,none⟩) ([(⟨([105]:List UInt8),3⟩:GMono)]:List GMono).length 1)])]) rfl AJ ⟨(bg et ho1),⟨(bg et ho1),trivial⟩⟩) (Calls.mono (pf d5 w17 (fun _ k=>k.elim) r2.1 (⟨(-3),([(⟨([105]:List UInt8),3⟩:GMono)]:List GMono)⟩:GLin) a2 c2 (some ⟨b6,0,none⟩) 1 ⟨(hI.get0 (.s (.s (.s (.s (.s (.s (.s (.s (.s (.s (.s (.s .z))))))))))))),hI.lend .z,trivial⟩ r7 hx13) ?_)
 rintro _ w18 ⟨rfl,hx14,hl7⟩
 refine⟨_,rfl,?_⟩
 replace hI:=(hI.ext hx14)
 refine T ?_
 refine bc h et (fun hb h=> ?_) (fun hb h=> ?_)
 ·refine T ?_
  refine al ?_
  obtain rfl:=ac h
  exact QF hI
 refine T ?_
 obtain⟨e1,hx15,h⟩:=af h
 replace hx15:=aP hx15
 obtain⟨ad1,cs1,hq1⟩:=hI.gclat (.s (.s (.s (.s (.s (.s (.s (.s (.s (.s (.s .z))))))))))) hx15
 obtain⟨a15,c26,a16,c27,a17,c28,hq2⟩:∃ (a15:Option Addr) (c26:Nat) (a16:Option Addr) (c27:Nat) (a17:Option Addr) (c28:Nat),(decide (r3.1.Op=4))=true→(a5=some ad1∧cs1=(aQ e1 a15 c26 a16 c27 a17 c28)∧CA (Dj F c25) w18 (ad1.add (Int.toNat 0 * 13)) cs1∧SlC aj (Dj F c25) w18 a15 c26 e1.Lin.L∧SlC ak (Dj F c25) w18 a16 c27 e1.Idx∧SlC au (Dj F c25) w18 a17 c28 e1.Args):=by
  by_cases hc:(decide (r3.1.Op=4))=true
  ·obtain⟨k1,k2,k3⟩:=hq1 hc;obtain⟨a15,c26,a16,c27,a17,c28,rfl,hf1,hf2,hf3⟩:=lE k2;exact⟨a15,c26,a16,c27,a17,c28,fun _=>⟨k1,rfl,k3,hf1,hf2,hf3⟩⟩
  exact⟨default,default,default,default,default,default,fun k=>absurd k hc⟩
 clear hq1
 have hI:=hI.add (c:=Cl.gsl (decide (r3.1.Op=4)) aj a15 c26 e1.Lin.L) (fun hc=>(hq2 hc).2.2.2.1)
 have hI:=hI.add (c:=Cl.gsl (decide (r3.1.Op=4)) ak a16 c27 e1.Idx) (fun hc=>(hq2 hc).2.2.2.2.1)
 have hI:=hI.add (c:=Cl.gsl (decide (r3.1.Op=4)) au a17 c28 e1.Args) (fun hc=>(hq2 hc).2.2.2.2.2)
 have hq3:(decide (r3.1.Op=4))=true→CA (Dj F c25) w18 (ad1.add (Int.toNat 0 * 13)) (aQ e1 a15 c26 a16 c27 a17 c28):=fun hc=>yQ (hq2 hc).2.1 (hq2 hc).2.2.1
 refine sJ ?_
 refine T ?_
 obtain⟨e2,hx16,h⟩:=af h
 replace hx16:=aP hx16
 obtain⟨ad2,cs2,hq4⟩:=hI.gclat (.s (.s (.s (.s (.s (.s (.s (.s (.s (.s (.s (.s (.s (.s .z)))))))))))))) hx16
 obtain⟨a18,c29,a19,c30,a20,c31,hq5⟩:∃ (a18:Option Addr) (c29:Nat) (a19:Option Addr) (c30:Nat) (a20:Option Addr) (c31:Nat),((decide (r3.1.Op=4))&&(decide (e1.Op=3)))=true→(a5=some ad2∧cs2=(aQ e2 a18 c29 a19 c30 a20 c31)∧CA (Dj F c25) w18 (ad2.add (Int.toNat 1 * 13)) cs2∧SlC aj (Dj F c25) w18 a18 c29 e2.Lin.L∧SlC ak (Dj F c25) w18 a19 c30 e2.Idx∧SlC au (Dj F c25) w18 a20 c31 e2.Args):=by
  by_cases hc:((decide (r3.1.Op=4))&&(decide (e1.Op=3)))=true
  ·obtain⟨k1,k2,k3⟩:=hq4 hc;obtain⟨a18,c29,a19,c30,a20,c31,rfl,hf4,hf5,hf6⟩:=lE k2;exact⟨a18,c29,a19,c30,a20,c31,fun _=>⟨k1,rfl,k3,hf4,hf5,hf6⟩⟩
  exact⟨default,default,default,default,default,default,fun k=>absurd k hc⟩
 clear hq4
 have hI:=hI.add (c:=Cl.gsl ((decide (r3.1.Op=4))&&(decide (e1.Op=3))) aj a18 c29 e2.Lin.L) (fun hc=>(hq5 hc).2.2.2.1)
 have hI:=hI.add (c:=Cl.gsl ((decide (r3.1.Op=4))&&(decide (e1.Op=3))) ak a19 c30 e2.Idx) (fun hc=>(hq5 hc).2.2.2.2.1)
 have hI:=hI.add (c:=Cl.gsl ((decide (r3.1.Op=4))&&(decide (e1.Op=3))) au a20 c31 e2.Args) (fun hc=>(hq5 hc).2.2.2.2.2)
 have hq6:((decide (r3.1.Op=4))&&(decide (e1.Op=3)))=true→CA (Dj F c25) w18 (ad2.add (Int.toNat 1 * 13)) (aQ e2 a18 c29 a19 c30 a20 c31):=fun hc=>yQ (hq5 hc).2.1 (hq5 hc).2.2.1
 refine sJ ?_
 refine T ?_
 refine al ?_
 obtain rfl:=ac h
 exact QF hI
theorem yV (F:NP) (w0:World) (hF:∀ k,F k→k<w0.heap.size) (a1:List GLin) (b1:List GLin) (a2:Option Addr) (c1:Nat) (a3:Option Addr) (c2:Nat) (hc:AllCl [Cl.sl ju a2 c1 a1,Cl.sl ju a3 c2 b1] F w0) (r:Bool)
  (h:mS a1 b1=some r):
  Calls Tryz.prog 54 #[vs a2 a1.length c1,vs a3 b1.length c2] w0 fun e w=>e= .returned (vb r)∧Ext w0 w∧AllCl [] F w:=by
 refine aL Tryz.func54 rfl Tryz.ntmps54 rfl ?_
 have hI:=Bun.start hF hc
 clear hc
 rw[mS]at h
 refine T ?_
 refine aB (T ?_)
 refine bc h et (fun hb h=> ?_) (fun hb h=> ?_)
 ·refine T ?_
  refine al ?_
  obtain rfl:=ac h
  exact QF hI
 refine T ?_
 refine aB (T ?_)
 refine cO (α:=Nat×Int) (fun x=>fun w=>∃ C,Bun d5 F w0 C w [] [Cl.sl ju a2 c1 a1,Cl.sl ju a3 c2 b1]∧gL a1 b1 (x.1) (x.2)=some r) (fun x _=>x.1) (fun x=>[(0,vs a2 a1.length c1),(1,vs a3 b1.length c2),(5,vi (x.2))]) (fu,0) ⟨_,hI.arr .n ⟨.z,(.s .z),trivial⟩,h⟩ SB ?_
 clear h hI;rintro⟨fuel1,i1⟩ w1 ⟨c3,hI,h⟩
 dsimp only at hI h
 rcases fuel1 with _ | fuel1
 ·rw[gL]at h;cases h
 rw[gL]at h
 refine bz (e:=[(0,vs a2 a1.length c1),(1,vs a3 b1.length c2),(5,vi i1)]) SB ?_
 refine aB (T ?_)
 refine bc h et (fun hb h=> ?_) (fun hb h=> ?_)
 ·refine T ?_
  refine aB (T ?_)
  refine aB (bx [] false (.c (0,.q) (.c (1,.q) (.c (2,.q) (.c (3,.q) (.c (4,.q) (.c (5,.q) (.c (6,.q) (.c (7,.q) (.c (8,.s) (.c (9,.q) .n)))))))))) hI (by kernel_rfl) (by kernel_rfl) ?_)
  clear hI;intro w2 hI
  refine V ?_
  obtain⟨e1,hx1,h⟩:=af h
  obtain⟨ad1,cs1,hA1,hr1,hq1⟩:=hI.clat .z hx1
  obtain⟨a4,c4,rfl,hf1⟩:=hr1
  have hI:=hI.add (c:=Cl.sl aj a4 c4 e1.L) hf1
  refine vI ?_
  refine me rfl gn rfl (fun w' hw'=>(aJ (l:=(gx e1 a4 c4)) rfl et rZ rfl aW (hq1.at_ (SX.any rfl hw')))) (by kernel_rfl) ?_
  refine V ?_
  obtain⟨e2,hx2,h⟩:=af h
  obtain⟨ad2,cs2,hA2,hr2,hq2⟩:=hI.clat (.s (.s .z)) hx2
  obtain⟨a5,c5,rfl,hf2⟩:=hr2
  have hI:=hI.add (c:=Cl.sl aj a5 c5 e2.L) hf2
  refine vI ?_
  refine me rfl gn rfl (fun w' hw'=>(aJ (l:=(gx e2 a5 c5)) rfl et rZ rfl aW (hq2.at_ (SX.any rfl hw')))) (by kernel_rfl) ?_
  obtain⟨r1,hx3,h⟩:=af h
  refine l8 rfl gn rfl (ag (vs:=[(Value.agg (bI e1 a4 c4)),(Value.agg (bI e2 a5 c5))]) rfl AJ ⟨et,⟨et,trivial⟩⟩) (Calls.mono (pf (Dj F c3) w2 hI.lt e1 e2 a4 c4 a5 c5 ⟨(hI.get (.s .z)),(hI.get .z),trivial⟩ r1 hx3) ?_)
  rintro _ w3 ⟨rfl,hx4,hl1⟩
  refine⟨_,rfl,hx4,?_⟩
  replace hI:=(hI.ext hx4)
  refine V ?_
  refine bc h et (fun hb h=> ?_) (fun hb h=> ?_)
  ·refine T ?_
   refine al ?_
   obtain rfl:=ac h
   exact QF hI
  refine T ?_
  refine bl ?_
  exact cg (fuel1,az (i1+1)) SB ⟨_,hI.arr GO SU,h⟩ (Nat.lt_succ_self _)
 refine dv ?_
 refine kb ?_
 refine cA ?_
 refine T ?_
 refine al ?_
 obtain rfl:=ac h
 exact QF hI
theorem xB (F:NP) (w0:World) (hF:∀ k,F k→k<w0.heap.size) (a1:GIndex) (b1:GIndex) (a2:Option Addr) (c1:Nat) (a3:Option Addr) (c2:Nat) (a4:Option Addr) (c3:Nat) (a5:Option Addr) (c4:Nat) (hc:AllCl [Cl.sl aj a2 c1 a1.Lin.L,Cl.sl ju a3 c2 a1.At,Cl.sl aj a4 c3 b1.Lin.L,Cl.sl ju a5 c4 b1.At] F w0) (r:Bool)
  (h:l6 a1 b1=some r):
  Calls Tryz.prog 82 #[(Value.agg (eF a1 a2 c1 a3 c2)),(Value.agg (eF b1 a4 c3 a5 c4))] w0 fun e w=>e= .returned (vb r)∧Ext w0 w∧AllCl [] F w:=by
 refine aL Tryz.func82 rfl Tryz.ntmps82 rfl ?_
 have hI:=Bun.start hF hc
 clear hc
 rw[l6]at h
 refine sr (fU (v:=(Value.agg (eF a1 a2 c1 a3 c2))) (cs:=(eF a1 a2 c1 a3 c2)) hI gn rfl rfl et rfl ?_)
 clear hI;intro b2 c5 w1 hI
 obtain⟨c6,hI⟩:=hI.relBox .z
 refine fU (v:=(Value.agg (eF b1 a4 c3 a5 c4))) (cs:=(eF b1 a4 c3 a5 c4)) hI gn rfl rfl et rfl ?_
 clear hI;intro b3 c7 w2 hI
 obtain⟨c8,hI⟩:=hI.relBox .z
 refine T ?_
 refine bZ (bE rfl rfl rfl rfl) rfl (fun hc=>(aJ (l:=(gx a1.Lin a2 c1)) rfl (bg et hc) rZ rfl aW (hI.kblk (l:=(gx a1.Lin a2 c1)) (.s .z) rfl).1)) ?_
 refine T ?_
 refine bZ (bE rfl rfl rfl rfl) rfl (fun hc=>(aJ (l:=(gx b1.Lin a4 c3)) rfl (bg et hc) rZ rfl aW (hI.kblk (l:=(gx b1.Lin a4 c3)) .z rfl).1)) ?_
 obtain⟨r1,hx1,h⟩:=af h
 replace hx1:=aP hx1
 refine dx (v:=(vb r1)) (bE rfl rfl rfl rfl) rfl (fun hc=>(ag (vs:=[(Value.agg (bI a1.Lin a2 c1)),(Value.agg (bI b1.Lin a4 c3))]) rfl AJ ⟨(bg et hc),⟨(bg et hc),trivial⟩⟩)) (fun hc=>(pf (Dj F c8) w2 hI.lt a1.Lin b1.Lin a2 c1 a4 c3 ⟨(hI.get (.s (.s .z))),(hI.get (.s (.s (.s (.s .z))))),trivial⟩ r1 (hx1 hc)).mono fun _ _ k=>⟨k.1,k.2.1⟩) ?_
 intro w3 hx2;replace hI:=hI.ext hx2
 refine T ?_
 obtain⟨r2,hx3,h⟩:=af h
 replace hx3:=aP hx3
 refine dx (v:=(vb r2)) (bE rfl rfl rfl rfl) rfl (fun hc=>(ag (vs:=[vs a3 a1.At.length c2,vs a5 b1.At.length c4]) rfl HE ⟨(bg et hc),⟨(bg et hc),trivial⟩⟩)) (fun hc=>(yV (Dj F c8) w3 hI.lt a1.At b1.At a3 c2 a5 c4 ⟨(hI.get (.s (.s (.s .z)))),(hI.get (.s (.s (.s (.s (.s .z)))))),trivial⟩ r2 (hx3 hc)).mono fun _ _ k=>⟨k.1,k.2.1⟩) ?_
 intro w4 hx4;replace hI:=hI.ext hx4
 refine T ?_
 refine al ?_
 obtain rfl:=ac h
 exact QF hI
theorem vn (F:NP) (w0:World) (hF:∀ k,F k→k<w0.heap.size) (a1:List GIndex) (b1:List GIndex) (a2:Option Addr) (c1:Nat) (a3:Option Addr) (c2:Nat) (hc:AllCl [Cl.sl ak a2 c1 a1,Cl.sl ak a3 c2 b1] F w0) (r:Bool)
  (h:kO a1 b1=some r):
  Calls Tryz.prog 37 #[vs a2 a1.length c1,vs a3 b1.length c2] w0 fun e w=>e= .returned (vb r)∧Ext w0 w∧AllCl [] F w:=by
 refine aL Tryz.func37 rfl Tryz.ntmps37 rfl ?_
 have hI:=Bun.start hF hc
 clear hc
 rw[kO]at h
 refine T ?_
 refine aB (T ?_)
 refine bc h et (fun hb h=> ?_) (fun hb h=> ?_)
 ·refine T ?_
  refine al ?_
  obtain rfl:=ac h
  exact QF hI
 refine T ?_
 refine aB (T ?_)
 refine cO (α:=Nat×Int) (fun x=>fun w=>∃ C,Bun d5 F w0 C w [] [Cl.sl ak a2 c1 a1,Cl.sl ak a3 c2 b1]∧eK a1 b1 (x.1) (x.2)=some r) (fun x _=>x.1) (fun x=>[(0,vs a2 a1.length c1),(1,vs a3 b1.length c2),(5,vi (x.2))]) (fu,0) ⟨_,hI.arr .n ⟨.z,(.s .z),trivial⟩,h⟩ SB ?_
 clear h hI;rintro⟨fuel1,i1⟩ w1 ⟨c3,hI,h⟩
 dsimp only at hI h
 rcases fuel1 with _ | fuel1
 ·rw[eK]at h;cases h
 rw[eK]at h
 refine bz (e:=[(0,vs a2 a1.length c1),(1,vs a3 b1.length c2),(5,vi i1)]) SB ?_
 refine aB (T ?_)
 refine bc h et (fun hb h=> ?_) (fun hb h=> ?_)
 ·refine T ?_
  refine aB (T ?_)
  refine aB (bx [] false (.c (0,.q) (.c (1,.q) (.c (2,.q) (.c (3,.q) (.c (4,.q) (.c (5,.q) (.c (6,.q) (.c (7,.q) (.c (8,.s) (.c (9,.q) .n)))))))))) hI (by kernel_rfl) (by kernel_rfl) ?_)
  clear hI;intro w2 hI
  refine V ?_
  obtain⟨e1,hx1,h⟩:=af h
  obtain⟨ad1,cs1,hA1,hr1,hq1⟩:=hI.clat .z hx1
  obtain⟨a4,c4,a5,c5,rfl,hf1,hf2⟩:=hr1
  have hI:=hI.add (c:=Cl.sl aj a4 c4 e1.Lin.L) hf1
  have hI:=hI.add (c:=Cl.sl ju a5 c5 e1.At) hf2
  refine vI ?_
  refine me rfl gn rfl (fun w' hw'=>(aJ (l:=(o4 e1 a4 c4 a5 c5)) rfl et A9 rfl lM (hq1.at_ (SX.any rfl hw')))) (by kernel_rfl) ?_
  refine V ?_
  obtain⟨e2,hx2,h⟩:=af h
  obtain⟨ad2,cs2,hA2,hr2,hq2⟩:=hI.clat (.s (.s (.s .z))) hx2
  obtain⟨a6,c6,a7,c7,rfl,hf3,hf4⟩:=hr2
  have hI:=hI.add (c:=Cl.sl aj a6 c6 e2.Lin.L) hf3
  have hI:=hI.add (c:=Cl.sl ju a7 c7 e2.At) hf4
  refine vI ?_
  refine me rfl gn rfl (fun w' hw'=>(aJ (l:=(o4 e2 a6 c6 a7 c7)) rfl et A9 rfl lM (hq2.at_ (SX.any rfl hw')))) (by kernel_rfl) ?_
  obtain⟨r1,hx3,h⟩:=af h
  refine l8 rfl gn rfl (ag (vs:=[(Value.agg (eF e1 a4 c4 a5 c5)),(Value.agg (eF e2 a6 c6 a7 c7))]) rfl HA ⟨et,⟨et,trivial⟩⟩) (Calls.mono (xB (Dj F c3) w2 hI.lt e1 e2 a4 c4 a5 c5 a6 c6 a7 c7 ⟨(hI.get (.s (.s (.s .z)))),(hI.get (.s (.s .z))),(hI.get (.s .z)),(hI.get .z),trivial⟩ r1 hx3) ?_)
  rintro _ w3 ⟨rfl,hx4,hl1⟩
  refine⟨_,rfl,hx4,?_⟩
  replace hI:=(hI.ext hx4)
  refine V ?_
  refine bc h et (fun hb h=> ?_) (fun hb h=> ?_)
  ·refine T ?_
   refine al ?_
   obtain rfl:=ac h
   exact QF hI
  refine T ?_
  refine bl ?_
  exact cg (fuel1,az (i1+1)) SB ⟨_,hI.arr GO SU,h⟩ (Nat.lt_succ_self _)
 refine dv ?_
 refine kb ?_
 refine cA ?_
 refine T ?_
 refine al ?_
 obtain rfl:=ac h
 exact QF hI
theorem xC (rec_:(GExpr→GExpr→Option Bool)) (hrec:∀ (F:NP) (w0:World) (hF:∀ k,F k→k<w0.heap.size) (a1:GExpr) (b1:GExpr) (a2:Option Addr) (c1:Nat) (a3:Option Addr) (c2:Nat) (a4:Option Addr) (c3:Nat) (a5:Option Addr) (c4:Nat) (a6:Option Addr) (c5:Nat) (a7:Option Addr) (c6:Nat) (hc:AllCl [Cl.sl aj a2 c1 a1.Lin.L,Cl.sl ak a3 c2 a1.Idx,Cl.sl au a4 c3 a1.Args,Cl.sl aj a5 c4 b1.Lin.L,Cl.sl ak a6 c5 b1.Idx,Cl.sl au a7 c6 b1.Args] F w0) (r:Bool) (h:rec_ a1 b1=some r),Calls Tryz.prog 17 #[(Value.agg (am a1 a2 c1 a3 c2 a4 c3)),(Value.agg (am b1 a5 c4 a6 c5 a7 c6))] w0 fun e w=>e= .returned (vb r)∧Ext w0 w∧AllCl [] F w) (F:NP) (w0:World) (hF:∀ k,F k→k<w0.heap.size) (a1:List GExpr) (b1:List GExpr) (a2:Option Addr) (c1:Nat) (a3:Option Addr) (c2:Nat) (hc:AllCl [Cl.sl au a2 c1 a1,Cl.sl au a3 c2 b1] F w0) (r:Bool)
  (h:l7 rec_ a1 b1=some r):
  Calls Tryz.prog 38 #[vs a2 a1.length c1,vs a3 b1.length c2] w0 fun e w=>e= .returned (vb r)∧Ext w0 w∧AllCl [] F w:=by
 refine aL Tryz.func38 rfl Tryz.ntmps38 rfl ?_
 have hI:=Bun.start hF hc
 clear hc
 rw[l7]at h
 refine T ?_
 refine aB (T ?_)
 refine bc h et (fun hb h=> ?_) (fun hb h=> ?_)
 ·refine T ?_
  refine al ?_
  obtain rfl:=ac h
  exact QF hI
 refine T ?_
 refine aB (T ?_)
 refine cO (α:=Nat×Int) (fun x=>fun w=>∃ C,Bun d5 F w0 C w [] [Cl.sl au a2 c1 a1,Cl.sl au a3 c2 b1]∧ga a1 b1 rec_ (x.1) (x.2)=some r) (fun x _=>x.1) (fun x=>[(0,vs a2 a1.length c1),(1,vs a3 b1.length c2),(5,vi (x.2))]) (fu,0) ⟨_,hI.arr .n ⟨.z,(.s .z),trivial⟩,h⟩ SB ?_
 clear h hI;rintro⟨fuel1,i1⟩ w1 ⟨c3,hI,h⟩
 dsimp only at hI h
 rcases fuel1 with _ | fuel1
 ·rw[ga]at h;cases h
 rw[ga]at h
 refine bz (e:=[(0,vs a2 a1.length c1),(1,vs a3 b1.length c2),(5,vi i1)]) SB ?_
 refine aB (T ?_)
 refine bc h et (fun hb h=> ?_) (fun hb h=> ?_)
 ·refine T ?_
  refine aB (T ?_)
  refine aB (bx [] false (.c (0,.q) (.c (1,.q) (.c (2,.q) (.c (3,.q) (.c (4,.q) (.c (5,.q) (.c (6,.q) (.c (7,.q) (.c (8,.s) (.c (9,.q) .n)))))))))) hI (by kernel_rfl) (by kernel_rfl) ?_)
  clear hI;intro w2 hI
  refine V ?_
  obtain⟨e1,hx1,h⟩:=af h
  obtain⟨ad1,cs1,hA1,hr1,hq1⟩:=hI.clat .z hx1
  obtain⟨a4,c4,a5,c5,a6,c6,rfl,hf1,hf2,hf3⟩:=lE hr1
  have hI:=hI.add (c:=Cl.sl aj a4 c4 e1.Lin.L) hf1
  have hI:=hI.add (c:=Cl.sl ak a5 c5 e1.Idx) hf2
  have hI:=hI.add (c:=Cl.sl au a6 c6 e1.Args) hf3
  refine vI ?_
  refine me rfl gn rfl (fun w' hw'=>(aJ (l:=(aQ e1 a4 c4 a5 c5 a6 c6)) rfl et nq rfl aF (hq1.at_ (SX.any rfl hw')))) (by kernel_rfl) ?_
  refine V ?_
  obtain⟨e2,hx2,h⟩:=af h
  obtain⟨ad2,cs2,hA2,hr2,hq2⟩:=hI.clat (.s (.s (.s (.s .z)))) hx2
  obtain⟨a7,c7,a8,c8,a9,c9,rfl,hf4,hf5,hf6⟩:=lE hr2
  have hI:=hI.add (c:=Cl.sl aj a7 c7 e2.Lin.L) hf4
  have hI:=hI.add (c:=Cl.sl ak a8 c8 e2.Idx) hf5
  have hI:=hI.add (c:=Cl.sl au a9 c9 e2.Args) hf6
  refine vI ?_
  refine me rfl gn rfl (fun w' hw'=>(aJ (l:=(aQ e2 a7 c7 a8 c8 a9 c9)) rfl et nq rfl aF (hq2.at_ (SX.any rfl hw')))) (by kernel_rfl) ?_
  obtain⟨r1,hx3,h⟩:=af h
  refine l8 rfl gn rfl (ag (vs:=[(Value.agg (am e1 a4 c4 a5 c5 a6 c6)),(Value.agg (am e2 a7 c7 a8 c8 a9 c9))]) rfl CT ⟨et,⟨et,trivial⟩⟩) (Calls.mono (hrec (Dj F c3) w2 hI.lt e1 e2 a4 c4 a5 c5 a6 c6 a7 c7 a8 c8 a9 c9 ⟨(hI.get (.s (.s (.s (.s (.s .z)))))),(hI.get (.s (.s (.s (.s .z))))),(hI.get (.s (.s (.s .z)))),(hI.get (.s (.s .z))),(hI.get (.s .z)),(hI.get .z),trivial⟩ r1 hx3) ?_)
  rintro _ w3 ⟨rfl,hx4,hl1⟩
  refine⟨_,rfl,hx4,?_⟩
  replace hI:=(hI.ext hx4)
  refine V ?_
  refine bc h et (fun hb h=> ?_) (fun hb h=> ?_)
  ·refine T ?_
   refine al ?_
   obtain rfl:=ac h
   exact QF hI
  refine T ?_
  refine bl ?_
  exact cg (fuel1,az (i1+1)) SB ⟨_,hI.arr GO SU,h⟩ (Nat.lt_succ_self _)
 refine dv ?_
 refine kb ?_
 refine cA ?_
 refine T ?_
 refine al ?_
 obtain rfl:=ac h
 exact QF hI
theorem vT (rec_:(GExpr→GExpr→Option Bool)) (hrec:∀ (F:NP) (w0:World) (hF:∀ k,F k→k<w0.heap.size) (a1:GExpr) (b1:GExpr) (a2:Option Addr) (c1:Nat) (a3:Option Addr) (c2:Nat) (a4:Option Addr) (c3:Nat) (a5:Option Addr) (c4:Nat) (a6:Option Addr) (c5:Nat) (a7:Option Addr) (c6:Nat) (hc:AllCl [Cl.sl aj a2 c1 a1.Lin.L,Cl.sl ak a3 c2 a1.Idx,Cl.sl au a4 c3 a1.Args,Cl.sl aj a5 c4 b1.Lin.L,Cl.sl ak a6 c5 b1.Idx,Cl.sl au a7 c6 b1.Args] F w0) (r:Bool) (h:rec_ a1 b1=some r),Calls Tryz.prog 17 #[(Value.agg (am a1 a2 c1 a3 c2 a4 c3)),(Value.agg (am b1 a5 c4 a6 c5 a7 c6))] w0 fun e w=>e= .returned (vb r)∧Ext w0 w∧AllCl [] F w)
  (F:NP) (w0:World) (hF:∀ k,F k→k<w0.heap.size) (a1:GExpr) (b1:GExpr) (a2:Option Addr) (c1:Nat) (a3:Option Addr) (c2:Nat) (a4:Option Addr) (c3:Nat) (a5:Option Addr) (c4:Nat) (a6:Option Addr) (c5:Nat) (a7:Option Addr) (c6:Nat) (hc:AllCl [Cl.sl aj a2 c1 a1.Lin.L,Cl.sl ak a3 c2 a1.Idx,Cl.sl au a4 c3 a1.Args,Cl.sl aj a5 c4 b1.Lin.L,Cl.sl ak a6 c5 b1.Idx,Cl.sl au a7 c6 b1.Args] F w0) (r:Bool) (h:lv rec_ a1 b1=some r):Calls Tryz.prog 17 #[(Value.agg (am a1 a2 c1 a3 c2 a4 c3)),(Value.agg (am b1 a5 c4 a6 c5 a7 c6))] w0 fun e w=>e= .returned (vb r)∧Ext w0 w∧AllCl [] F w:=by
 refine aL Tryz.func17 rfl Tryz.ntmps17 rfl ?_
 have hI:=Bun.start hF hc
 clear hc
 rw[lv]at h
 refine sr (fU (v:=(Value.agg (am a1 a2 c1 a3 c2 a4 c3))) (cs:=(am a1 a2 c1 a3 c2 a4 c3)) hI gn rfl rfl et rfl ?_)
 clear hI;intro b2 c7 w1 hI
 obtain⟨c8,hI⟩:=hI.relBox .z
 refine fU (v:=(Value.agg (am b1 a5 c4 a6 c5 a7 c6))) (cs:=(am b1 a5 c4 a6 c5 a7 c6)) hI gn rfl rfl et rfl ?_
 clear hI;intro b3 c9 w2 hI
 obtain⟨c10,hI⟩:=hI.relBox .z
 refine T ?_
 refine bZ (bE rfl rfl rfl rfl) rfl (fun hc=>(aJ (l:=(qn a1.Val)) rfl (bg et hc) G0 rfl fH (hI.kblk (l:=(qn a1.Val)) (.s .z) rfl).1)) ?_
 refine T ?_
 refine bZ (bE rfl rfl rfl rfl) rfl (fun hc=>(aJ (l:=(qn b1.Val)) rfl (bg et hc) G0 rfl fH (hI.kblk (l:=(qn b1.Val)) .z rfl).1)) ?_
 refine bZ (bE rfl rfl rfl rfl) rfl (fun hc=>jr rfl (bg et hc) (bg et hc) (yL ..) (uT ..)) ?_
 refine T ?_
 refine bZ (bE rfl rfl rfl rfl) rfl (fun hc=>(aJ (l:=(gz a1.Type_)) rfl (bg et hc) tj rfl d4 (hI.kblk (l:=(gz a1.Type_)) (.s .z) rfl).1)) ?_
 refine T ?_
 refine bZ (bE rfl rfl rfl rfl) rfl (fun hc=>(aJ (l:=(gz b1.Type_)) rfl (bg et hc) tj rfl d4 (hI.kblk (l:=(gz b1.Type_)) .z rfl).1)) ?_
 refine bZ (bE rfl rfl rfl rfl) rfl (fun hc=>jr rfl (bg et hc) (bg et hc) (ta ..) (qS ..)) ?_
 refine T ?_
 refine bZ (bE rfl rfl rfl rfl) rfl (fun hc=>(aJ (l:=(gx a1.Lin a2 c1)) rfl (bg et hc) rZ rfl aW (hI.kblk (l:=(gx a1.Lin a2 c1)) (.s .z) rfl).1)) ?_
 refine T ?_
 refine bZ (bE rfl rfl rfl rfl) rfl (fun hc=>(aJ (l:=(gx b1.Lin a5 c4)) rfl (bg et hc) rZ rfl aW (hI.kblk (l:=(gx b1.Lin a5 c4)) .z rfl).1)) ?_
 obtain⟨r1,hx1,h⟩:=af h
 replace hx1:=aP hx1
 refine dx (v:=(vb r1)) (bE rfl rfl rfl rfl) rfl (fun hc=>(ag (vs:=[(Value.agg (bI a1.Lin a2 c1)),(Value.agg (bI b1.Lin a5 c4))]) rfl AJ ⟨(bg et hc),⟨(bg et hc),trivial⟩⟩)) (fun hc=>(pf (Dj F c10) w2 hI.lt a1.Lin b1.Lin a2 c1 a5 c4 ⟨(hI.get (.s (.s .z))),(hI.get (.s (.s (.s (.s (.s .z)))))),trivial⟩ r1 (hx1 hc)).mono fun _ _ k=>⟨k.1,k.2.1⟩) ?_
 intro w3 hx2;replace hI:=hI.ext hx2
 refine T ?_
 obtain⟨r2,hx3,h⟩:=af h
 replace hx3:=aP hx3
 refine dx (v:=(vb r2)) (bE rfl rfl rfl rfl) rfl (fun hc=>(ag (vs:=[vs a3 a1.Idx.length c2,vs a6 b1.Idx.length c5]) rfl HK ⟨(bg et hc),⟨(bg et hc),trivial⟩⟩)) (fun hc=>(vn (Dj F c10) w3 hI.lt a1.Idx b1.Idx a3 c2 a6 c5 ⟨(hI.get (.s (.s (.s .z)))),(hI.get (.s (.s (.s (.s (.s (.s .z))))))),trivial⟩ r2 (hx3 hc)).mono fun _ _ k=>⟨k.1,k.2.1⟩) ?_
 intro w4 hx4;replace hI:=hI.ext hx4
 refine T ?_
 obtain⟨r3,hx5,h⟩:=af h
 replace hx5:=aP hx5
 refine dx (v:=(vb r3)) (bE rfl rfl rfl rfl) rfl (fun hc=>(ag (vs:=[vs a4 a1.Args.length c3,vs a7 b1.Args.length c6]) rfl HJ ⟨(bg et hc),⟨(bg et hc),trivial⟩⟩)) (fun hc=>(xC rec_ hrec (Dj F c10) w4 hI.lt a1.Args b1.Args a4 c3 a7 c6 ⟨(hI.get (.s (.s (.s (.s .z))))),(hI.get (.s (.s (.s (.s (.s (.s (.s .z)))))))),trivial⟩ r3 (hx5 hc)).mono fun _ _ k=>⟨k.1,k.2.1⟩) ?_
 intro w5 hx6;replace hI:=hI.ext hx6
 refine T ?_
 refine al ?_
 obtain rfl:=ac h
 exact QF hI
theorem vS (n:Nat):∀ (F:NP) (w0:World) (hF:∀ k,F k→k<w0.heap.size) (a1:GExpr) (b1:GExpr) (a2:Option Addr) (c1:Nat) (a3:Option Addr) (c2:Nat) (a4:Option Addr) (c3:Nat) (a5:Option Addr) (c4:Nat) (a6:Option Addr) (c5:Nat) (a7:Option Addr) (c6:Nat) (hc:AllCl [Cl.sl aj a2 c1 a1.Lin.L,Cl.sl ak a3 c2 a1.Idx,Cl.sl au a4 c3 a1.Args,Cl.sl aj a5 c4 b1.Lin.L,Cl.sl ak a6 c5 b1.Idx,Cl.sl au a7 c6 b1.Args] F w0) (r:Bool) (h:iy n a1 b1=some r),Calls Tryz.prog 17 #[(Value.agg (am a1 a2 c1 a3 c2 a4 c3)),(Value.agg (am b1 a5 c4 a6 c5 a7 c6))] w0 fun e w=>e= .returned (vb r)∧Ext w0 w∧AllCl [] F w:=by
 induction n with
 | zero=>intro F w0 hF a1 b1 a2 c1 a3 c2 a4 c3 a5 c4 a6 c5 a7 c6 hc r h;cases h
 | succ n ih=>intro F w0 hF a1 b1 a2 c1 a3 c2 a4 c3 a5 c4 a6 c5 a7 c6 hc r h;exact vT (iy n) ih F w0 hF a1 b1 a2 c1 a3 c2 a4 c3 a5 c4 a6 c5 a7 c6 hc r h
theorem tg (F:NP) (w0:World) (hF:∀ k,F k→k<w0.heap.size) (a1:GExpr) (b1:GExpr) (a2:Option Addr) (c1:Nat) (a3:Option Addr) (c2:Nat) (a4:Option Addr) (c3:Nat) (a5:Option Addr) (c4:Nat) (a6:Option Addr) (c5:Nat) (a7:Option Addr) (c6:Nat) (hc:AllCl [Cl.sl aj a2 c1 a1.Lin.L,Cl.sl ak a3 c2 a1.Idx,Cl.sl au a4 c3 a1.Args,Cl.sl aj a5 c4 b1.Lin.L,Cl.sl ak a6 c5 b1.Idx,Cl.sl au a7 c6 b1.Args] F w0) (r:Bool) (h:mT a1 b1=some r):Calls Tryz.prog 17 #[(Value.agg (am a1 a2 c1 a3 c2 a4 c3)),(Value.agg (am b1 a5 c4 a6 c5 a7 c6))] w0 fun e w=>e= .returned (vb r)∧Ext w0 w∧AllCl [] F w:=vS fu F w0 hF a1 b1 a2 c1 a3 c2 a4 c3 a5 c4 a6 c5 a7 c6 hc r h
theorem rH (F:NP) (w0:World) (hF:∀ k,F k→k<w0.heap.size) (l1:List aG) (a1:Option Addr) (c1:Nat) (hc:AllCl [Cl.sl ah a1 c1 l1] F w0) (r:List UInt8)
  (h:kT l1=some r):
  Calls Tryz.prog 23 #[vs a1 l1.length c1] w0 fun e w=>e= .returned (aC r)∧Ext w0 w∧AllCl [] F w:=by
 refine aL Tryz.func23 rfl Tryz.ntmps23 rfl ?_
 have hI:=Bun.start hF hc
 clear hc
 rw[kT]at h
 refine T ?_
 refine aB (T ?_)
 refine cO (α:=Nat×(List UInt8)×Int) (fun x=>fun w=>∃ C,Bun d5 F w0 C w [] [Cl.sl ah a1 c1 l1]∧eg l1 (x.1) (x.2.1) (x.2.2)=some r) (fun x _=>x.1) (fun x=>[(0,vs a1 l1.length c1),(3,(aC (x.2.1))),(4,vi (x.2.2))]) (fu,([]:List UInt8),0) ⟨_,hI.arr .n ⟨.z,trivial⟩,h⟩ SB ?_
 clear h hI;rintro⟨fuel1,s1,i1⟩ w1 ⟨c2,hI,h⟩
 dsimp only at hI h
 rcases fuel1 with _ | fuel1
 ·rw[eg]at h;cases h
 rw[eg]at h
 refine bz (e:=[(0,vs a1 l1.length c1),(3,(aC s1)),(4,vi i1)]) SB ?_
 refine aB (T ?_)
 refine bc h et (fun hb h=> ?_) (fun hb h=> ?_)
 ·refine T ?_
  refine aB (T ?_)
  refine du (α:=(List UInt8)) (fun _=>⟨23,[]⟩) (fun x=>[(0,vs a1 l1.length c1),(3,(aC x)),(4,vi i1)]) (fun x=>fun w=>∃ C,Bun d5 F w0 C w [] [Cl.sl ah a1 c1 l1]∧j8 l1 i1 (eg l1 fuel1) x=some r) ?_ ?_
  ·clear h hI;rintro s2 w2 ⟨c3,hI,h⟩
   try dsimp only at hI h
   rw[j8]at h
   refine bz (e:=[(0,vs a1 l1.length c1),(3,(aC s2)),(4,vi i1)]) SB ?_
   refine T ?_
   obtain⟨e1,hx1,h⟩:=af h
   obtain⟨ad1,cs1,hA1,hr1,hq1⟩:=hI.clat .z hx1
   obtain rfl:cs1=(m6 e1):=hr1
   refine sI ?_
   refine T ?_
   obtain⟨s3,hx2,h⟩:=af h
   refine sq (qG rfl et et hx2) ?_
   refine T ?_
   refine bl ?_
   exact cg (fuel1,s3,az (i1+1)) SB ⟨_,hI.arr GO SU,h⟩ (Nat.lt_succ_self _)
  refine T ?_
  refine bc h et (fun hb h=> ?_) (fun hb h=> ?_)
  ·refine T ?_
   obtain⟨s4,hx3,h⟩:=af h
   refine sq (qG rfl et ai hx3) ?_
   refine sa ?_
   refine bl ?_
   exact bi s4 SB ⟨_,hI.arr GO SU,h⟩ rfl
  exact cc (bi s1 SB ⟨_,hI.arr GO SU,h⟩ rfl)
 refine dv ?_
 refine kb ?_
 refine cA ?_
 refine T ?_
 refine al ?_
 obtain rfl:=ac h
 exact QF hI
theorem pU (F:NP) (w0:World) (hF:∀ k,F k→k<w0.heap.size) (s1:List UInt8) (hc:AllCl [aA] F w0) (r:Bool)
  (h:jh s1=some r):
  Calls Tryz.prog 7 #[(aC s1)] w0 fun e w=>e= .returned (vb r)∧Ext w0 w∧AllCl [] F w:=by
 refine aL Tryz.func7 rfl Tryz.ntmps7 rfl ?_
 have hI:=Bun.start hF hc
 clear hc
 rw[jh]at h
 refine T ?_
 refine aB (T ?_)
 refine bc h et (fun hb h=> ?_) (fun hb h=> ?_)
 ·refine sr ?_
  obtain⟨r1,hx1,h⟩:=af h
  refine aE gn rfl (ag (vs:=[]) rfl AK trivial) (Calls.mono (lg (Dj F d5) w0 hI.lt ⟨(hI.get .z),trivial⟩ r1 hx1) ?_)
  rintro _ w1 ⟨rfl,hx2,hl1⟩
  refine⟨_,rfl,?_⟩
  replace hI:=(hI.ext hx2)
  refine T ?_
  refine al ?_
  obtain rfl:=ac h
  exact QF hI
 refine T ?_
 obtain⟨r2,hx3,h⟩:=af h
 refine aE gn rfl (ag (vs:=[(aC s1)]) rfl uA ⟨et,trivial⟩) (Calls.mono (jp (Dj F d5) w0 hI.lt s1 ⟨(hI.get .z),trivial⟩ r2 hx3) ?_)
 rintro _ w2 ⟨a1,c1,a2,c2,a3,c3,rfl,hx4,hl2⟩
 refine⟨_,rfl,?_⟩
 replace hI:=(hI.ext hx4).adds hl2;dsimp only[ca,na]at hI
 refine T ?_
 refine aN (cs:=#[vi 0,(aC ([]:List UInt8)),vi 0,vi 0,vi 0,vi 0,vi 0,vi 0,vi 0,vi 0,vs none 0 0,vs none 0 0,vs none 0 0]) hI gn rfl rfl bA rfl ?_
 clear hI;intro b1 c4 w3 hI
 refine ay (new:=(aQ r2.1 a1 c1 a2 c2 a3 c3)) (cs':=(am r2.1 a1 c1 a2 c2 a3 c3)) hI .z gn rfl rfl et et rfl aF rfl rfl rfl ?_
 clear hI;intro c5 w4 hI
 refine T ?_
 obtain⟨r3,hx5,h⟩:=af h
 refine aE gn rfl (ag (vs:=[(aC s1)]) rfl E3 ⟨et,trivial⟩) (Calls.mono (oF (Dj F c5) w4 hI.lt s1 trivial r3 hx5) ?_)
 rintro _ w5 ⟨a4,c6,rfl,hx6,hl3⟩
 refine⟨_,rfl,?_⟩
 replace hI:=(hI.ext hx6).adds hl3;dsimp only[ca,na]at hI
 refine T ?_
 refine aB (T ?_)
 refine bc h et (fun hb h=> ?_) (fun hb h=> ?_)
 ·refine T ?_
  obtain⟨r4,hx7,h⟩:=af h
  replace hx7:=aP hx7
  refine dx (v:=(vb r4)) (bE rfl rfl rfl rfl) rfl (fun hc=>(ag (vs:=[]) rfl AK trivial)) (fun hc=>(lg (Dj F c5) w5 hI.lt ⟨(hI.get (.s (.s (.s (.s .z))))),trivial⟩ r4 (hx7 hc)).mono fun _ _ k=>⟨k.1,k.2.1⟩) ?_
  intro w6 hx8;replace hI:=hI.ext hx8
  refine T ?_
  refine al ?_
  obtain rfl:=ac h
  exact QF hI
 refine T ?_
 obtain⟨r5,hx9,h⟩:=af h
 refine aE gn rfl (ag (vs:=[vs a4 r3.1.length c6]) rfl E0 ⟨et,trivial⟩) (Calls.mono (rH (Dj F c5) w5 hI.lt r3.1 a4 c6 ⟨(hI.get .z),trivial⟩ r5 hx9) ?_)
 rintro _ w7 ⟨rfl,hx10,hl5⟩
 refine⟨_,rfl,?_⟩
 replace hI:=(hI.ext hx10)
 obtain⟨r6,hx11,h⟩:=af h
 refine aE gn rfl (ag (vs:=[(aC r5)]) rfl uA ⟨et,trivial⟩) (Calls.mono (jp (Dj F c5) w7 hI.lt r5 ⟨(hI.get (.s (.s (.s (.s .z))))),trivial⟩ r6 hx11) ?_)
 rintro _ w8 ⟨a5,c7,a6,c8,a7,c9,rfl,hx12,hl6⟩
 refine⟨_,rfl,?_⟩
 replace hI:=(hI.ext hx12).adds hl6;dsimp only[ca,na]at hI
 refine T ?_
 refine aN (cs:=#[vi 0,(aC ([]:List UInt8)),vi 0,vi 0,vi 0,vi 0,vi 0,vi 0,vi 0,vi 0,vs none 0 0,vs none 0 0,vs none 0 0]) hI gn rfl rfl bA rfl ?_
 clear hI;intro b2 c10 w9 hI
 refine ay (new:=(aQ r6.1 a5 c7 a6 c8 a7 c9)) (cs':=(am r6.1 a5 c7 a6 c8 a7 c9)) hI .z gn rfl rfl et et rfl aF rfl rfl rfl ?_
 clear hI;intro c11 w10 hI
 refine T ?_
 refine aB (T ?_)
 refine bZ (gg rfl rfl rfl rfl) rfl (fun hc=>(aJ (l:=(aQ r2.1 a1 c1 a2 c2 a3 c3)) rfl et nq rfl aF (CellsAt.of_blk (hI.blk (.s .z)) rfl))) ?_
 refine bZ (gg rfl rfl rfl rfl) rfl (fun hc=>(aJ (l:=(aQ r6.1 a5 c7 a6 c8 a7 c9)) rfl et nq rfl aF (CellsAt.of_blk (hI.blk .z) rfl))) ?_
 obtain⟨r7,hx13,h⟩:=af h
 replace hx13:=aP hx13
 refine dx (v:=(vb r7)) (gg rfl rfl rfl rfl) rfl (fun hc=>(ag (vs:=[(Value.agg (am r2.1 a1 c1 a2 c2 a3 c3)),(Value.agg (am r6.1 a5 c7 a6 c8 a7 c9))]) rfl CT ⟨(bg et hc),⟨(bg et hc),trivial⟩⟩)) (fun hc=>(tg (Dj F c11) w10 hI.lt r2.1 r6.1 a1 c1 a2 c2 a3 c3 a5 c7 a6 c8 a7 c9 ⟨(hI.get (.s (.s (.s (.s .z))))),(hI.get (.s (.s (.s (.s (.s .z)))))),(hI.get (.s (.s (.s (.s (.s (.s .z))))))),(hI.get .z),(hI.get (.s .z)),(hI.get (.s (.s .z))),trivial⟩ r7 (hx13 hc)).mono fun _ _ k=>⟨k.1,k.2.1⟩) ?_
 intro w11 hx14;replace hI:=hI.ext hx14
 refine T ?_
 refine bc h et (fun hb h=> ?_) (fun hb h=> ?_)
 ·refine T ?_
  refine al ?_
  obtain rfl:=ac h
  exact QF hI
 refine T ?_
 refine aB (T ?_)
 refine bc h et (fun hb h=> ?_) (fun hb h=> ?_)
 ·refine sr ?_
  obtain⟨r8,hx15,h⟩:=af h
  refine aE gn rfl (ag (vs:=[]) rfl AK trivial) (Calls.mono (lg (Dj F c11) w11 hI.lt ⟨(hI.get (.s (.s (.s (.s (.s (.s (.s .z)))))))),trivial⟩ r8 hx15) ?_)
  rintro _ w12 ⟨rfl,hx16,hl8⟩
  refine⟨_,rfl,?_⟩
  replace hI:=(hI.ext hx16)
  refine T ?_
  refine al ?_
  obtain rfl:=ac h
  exact QF hI
 refine T ?_
 obtain⟨r9,hx17,h⟩:=af h
 refine aE gn rfl (ag (vs:=[vs a4 r3.1.length c6]) rfl E0 ⟨et,trivial⟩) (Calls.mono (rH (Dj F c11) w11 hI.lt r3.1 a4 c6 ⟨(hI.get (.s (.s (.s .z)))),trivial⟩ r9 hx17) ?_)
 rintro _ w13 ⟨rfl,hx18,hl9⟩
 refine⟨_,rfl,?_⟩
 replace hI:=(hI.ext hx18)
 obtain⟨s2,hx19,h⟩:=af h
 refine sq (qG rfl ai et hx19) ?_
 obtain⟨s3,hx20,h⟩:=af h
 refine sq (qG rfl et ai hx20) ?_
 obtain⟨r10,hx21,h⟩:=af h
 refine aE gn rfl (ag (vs:=[(aC s3)]) rfl uA ⟨et,trivial⟩) (Calls.mono (jp (Dj F c11) w13 hI.lt s3 ⟨(hI.get (.s (.s (.s (.s (.s (.s (.s .z)))))))),trivial⟩ r10 hx21) ?_)
 rintro _ w14 ⟨a8,c12,a9,c13,a10,c14,rfl,hx22,hl10⟩
 refine⟨_,rfl,?_⟩
 replace hI:=(hI.ext hx22).adds hl10;dsimp only[ca,na]at hI
 refine T ?_
 refine aN (cs:=#[vi 0,(aC ([]:List UInt8)),vi 0,vi 0,vi 0,vi 0,vi 0,vi 0,vi 0,vi 0,vs none 0 0,vs none 0 0,vs none 0 0]) hI gn rfl rfl bA rfl ?_
 clear hI;intro b3 c15 w15 hI
 refine ay (new:=(aQ r10.1 a8 c12 a9 c13 a10 c14)) (cs':=(am r10.1 a8 c12 a9 c13 a10 c14)) hI .z gn rfl rfl et et rfl aF rfl rfl rfl ?_
 clear hI;intro c16 w16 hI
 refine T ?_
 refine bZ (qf rfl rfl rfl rfl) rfl (fun hc=>(aJ (l:=(aQ r2.1 a1 c1 a2 c2 a3 c3)) rfl et nq rfl aF (CellsAt.of_blk (hI.blk (.s (.s .z))) rfl))) ?_
 refine bZ (qf rfl rfl rfl rfl) rfl (fun hc=>(aJ (l:=(aQ r10.1 a8 c12 a9 c13 a10 c14)) rfl et nq rfl aF (CellsAt.of_blk (hI.blk .z) rfl))) ?_
 obtain⟨r11,hx23,h⟩:=af h
 replace hx23:=aP hx23
 refine dx (v:=(vb r11)) (qf rfl rfl rfl rfl) rfl (fun hc=>(ag (vs:=[(Value.agg (am r2.1 a1 c1 a2 c2 a3 c3)),(Value.agg (am r10.1 a8 c12 a9 c13 a10 c14))]) rfl CT ⟨(bg et hc),⟨(bg et hc),trivial⟩⟩)) (fun hc=>(tg (Dj F c16) w16 hI.lt r2.1 r10.1 a1 c1 a2 c2 a3 c3 a8 c12 a9 c13 a10 c14 ⟨(hI.get (.s (.s (.s (.s (.s (.s (.s .z)))))))),(hI.get (.s (.s (.s (.s (.s (.s (.s (.s .z))))))))),(hI.get (.s (.s (.s (.s (.s (.s (.s (.s (.s .z)))))))))),(hI.get .z),(hI.get (.s .z)),(hI.get (.s (.s .z))),trivial⟩ r11 (hx23 hc)).mono fun _ _ k=>⟨k.1,k.2.1⟩) ?_
 intro w17 hx24;replace hI:=hI.ext hx24
 refine T ?_
 obtain⟨r12,hx25,h⟩:=af h
 replace hx25:=aP hx25
 refine dx (v:=(vb r12)) (bE rfl rfl rfl rfl) rfl (fun hc=>(ag (vs:=[]) rfl AK trivial)) (fun hc=>(lg (Dj F c16) w17 hI.lt ⟨(hI.get (.s (.s (.s (.s (.s (.s (.s (.s (.s (.s .z))))))))))),trivial⟩ r12 (hx25 hc)).mono fun _ _ k=>⟨k.1,k.2.1⟩) ?_
 intro w18 hx26;replace hI:=hI.ext hx26
 refine T ?_
 refine al ?_
 obtain rfl:=ac h
 exact QF hI
end Go.Proofs.YtmhoikfoogemnaaGreatDoor
