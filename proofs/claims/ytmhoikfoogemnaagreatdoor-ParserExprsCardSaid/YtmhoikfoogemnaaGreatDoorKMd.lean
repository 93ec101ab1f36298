import Derived.Test.YtmhoikfoogemnaaGreatDoorKXm
namespace Go.Proofs.YtmhoikfoogemnaaGreatDoor
open Go Go.RowKit Go.Vc
set_option linter.unusedVariables false
set_option linter.unusedSimpArgs false
structure aS where
 Kind:Int
 At:Int
 Text:List UInt8
deriving Inhabited,DecidableEq
def ag:Cod aS where
 n:=3
 rel _ _ x cs:=cs=[(Value.int .i64 x.Kind),(Value.int .i64 x.At),(aE x.Text)]
 len h:=by subst h;rfl
 one h:=by subst h;rfl
 sp _ h:=h
structure aa where
 l:List aS
 at_:Int
 deep:Int
deriving Inhabited,DecidableEq
def fnP_k1 (v:Value) (m:(Int→Option Bool)) (D:NP) (w:World):Prop:=
 En v=true∧∀ (D':NP) (w':World),Sp D w D' w'→(∀ k,D' k→k<w'.heap.size)→∀ (x_1:Int) (r:Bool),AllCl [] D' w'→m x_1=some r→
  CallV Tryz.prog v [(Value.int .i32 x_1)] w' fun e w''=>e= .returned (Value.bool r)∧Ext w' w''∧AllCl [] D' w''
theorem fnP_k1.sp {v:Value} {m:(Int→Option Bool)} {D D':NP} {w w':World} (hs:Sp D w D' w') (h:fnP_k1 v m D w):fnP_k1 v m D' w':=⟨h.1,fun D'' w'' hs'=>h.2 D'' w'' (hs.trans hs')⟩
def rv (v:Value) (m:(Int→Option Bool)):Cl:=⟨fnP_k1 v m,fnP_k1.sp⟩
structure GMono where
 Name:List UInt8
 By:Int
deriving Inhabited,DecidableEq
def ai:Cod GMono where
 n:=2
 rel _ _ x cs:=cs=[(aE x.Name),(Value.int .i64 x.By)]
 len h:=by subst h;rfl
 one h:=by subst h;rfl
 sp _ h:=h
structure GLin where
 K:Int
 L:List GMono
deriving Inhabited,DecidableEq
def fS:Cod GLin where
 n:=2
 rel D w x cs:=∃ (A0:Option Addr) (c0:Nat),cs=[(Value.int .i64 x.K),(Value.slice A0 x.L.length c0)]∧SlC ai D w A0 c0 x.L
 len h:=by obtain⟨_,_,rfl,_⟩:=h;rfl
 one h:=by obtain⟨A0,c0,rfl,h0⟩:=h;rfl
 sp hs h:=by obtain⟨A0,c0,rfl,h0⟩:=h;exact⟨_,_,rfl,h0.sp hs⟩
def fnS_k2 {σ:Type} (I:StI σ) (v:Value) (m:((List UInt8)→Int→Int→σ→Option (Unit×σ))) (D:NP) (w:World):Prop:=
 En v=true∧∀ (C0 F:NP) (w':World),Sp D w (Dj F C0) w'→∀ (x_1:List UInt8) (x_2:Int) (x_3:Int) (s:σ) (r:Unit×σ),Bun C0 F w' C0 w' [MO.st I s] []→m x_1 x_2 x_3 s=some r→
  CallV Tryz.prog v [(aE x_1),(Value.int .i64 x_2),(Value.int .i64 x_3)] w' fun e w''=>∃ (C:NP),e= .returned (Value.tuple #[])∧Bun C0 F w' C w'' [MO.st I r.2] []
theorem fnS_k2.sp {σ:Type} {I:StI σ} {v:Value} {m:((List UInt8)→Int→Int→σ→Option (Unit×σ))} {D D':NP} {w w':World} (hs:Sp D w D' w') (h:fnS_k2 I v m D w):fnS_k2 I v m D' w':=⟨h.1,fun C0 F w'' hs'=>h.2 C0 F w'' (hs.trans hs')⟩
def wv {σ:Type} (I:StI σ) (v:Value) (m:((List UInt8)→Int→Int→σ→Option (Unit×σ))):Cl:=⟨fnS_k2 I v m,fnS_k2.sp⟩
structure GType where
 Kind:Int
 Bits:Int
 Frac:Int
 Round:Int
 Over:Int
deriving Inhabited,DecidableEq
structure GVal where
 N:Int
 D:Int
deriving Inhabited,DecidableEq
structure GIndex where
 Lin:GLin
 From:List UInt8
 At:List GLin
deriving Inhabited,DecidableEq
def ak:Cod GIndex where
 n:=4
 rel D w x cs:=∃ (A0:Option Addr) (c0:Nat) (A2:Option Addr) (c2:Nat),cs=[(Value.int .i64 x.Lin.K),(Value.slice A0 x.Lin.L.length c0),(aE x.From),(Value.slice A2 x.At.length c2)]∧SlC ai D w A0 c0 x.Lin.L∧SlC fS D w A2 c2 x.At
 len h:=by obtain⟨_,_,_,_,rfl,_,_⟩:=h;rfl
 one h:=by obtain⟨A0,c0,A2,c2,rfl,h0,h1⟩:=h;rfl
 sp hs h:=by obtain⟨A0,c0,A2,c2,rfl,h0,h1⟩:=h;exact⟨_,_,_,_,rfl,h0.sp hs,h1.sp hs⟩
structure GExpr where
 Op:Int
 Name:List UInt8
 Val:GVal
 Type_:GType
 Lin:GLin
 Idx:List GIndex
 Args:List GExpr
instance:Inhabited GExpr:=⟨⟨0,[],default,default,default,[],[]⟩⟩
def ry (c:Cod GExpr):Cod GExpr where
 n:=13
 rel D w x cs:=∃ (A0:Option Addr) (c0:Nat) (A2:Option Addr) (c2:Nat) (A4:Option Addr) (c4:Nat),cs=[(Value.int .i64 x.Op),(aE x.Name),(Value.int .i64 x.Val.N),(Value.int .i64 x.Val.D),(Value.int .i64 x.Type_.Kind),(Value.int .i64 x.Type_.Bits),(Value.int .i64 x.Type_.Frac),(Value.int .i64 x.Type_.Round),(Value.int .i64 x.Type_.Over),(Value.int .i64 x.Lin.K),(Value.slice A0 x.Lin.L.length c0),(Value.slice A2 x.Idx.length c2),(Value.slice A4 x.Args.length c4)]∧SlC ai D w A0 c0 x.Lin.L∧SlC ak D w A2 c2 x.Idx∧SlC c D w A4 c4 x.Args
 len h:=by obtain⟨_,_,_,_,_,_,rfl,_,_,_⟩:=h;rfl
 one h:=by obtain⟨A0,c0,A2,c2,A4,c4,rfl,h0,h1,h2⟩:=h;rfl
 sp hs h:=by obtain⟨A0,c0,A2,c2,A4,c4,rfl,h0,h1,h2⟩:=h;exact⟨_,_,_,_,_,_,rfl,h0.sp hs,h1.sp hs,h2.sp hs⟩
theorem tt {c c':Cod GExpr} (hm:∀ D w x cs,c.rel D w x cs→c'.rel D w x cs):∀ D w x cs,(ry c).rel D w x cs→(ry c').rel D w x cs:=fun D w x cs h=>by
 obtain⟨A0,c0,A2,c2,A4,c4,rfl,h0,h1,h2⟩:=h;exact⟨_,_,_,_,_,_,rfl,h0,h1,h2.mono hm⟩
def an:Cod GExpr:=Cod.fix ry 13 (fun _=>rfl)
theorem iG {D:NP} {w:World} {x:GExpr} {cs:List Value} (h:an.rel D w x cs):(ry an).rel D w x cs:=by
 obtain⟨k,hk⟩:=h
 cases k with
 | zero=>exact False.elim hk
 | succ k=>exact tt (c:=Dc ry 13 k) (c':=an) (fun _ _ _ _ h=>⟨k,h⟩) _ _ _ _ hk
theorem dM {D:NP} {w:World} {x:GExpr} {cs:List Value} (h:(ry an).rel D w x cs):an.rel D w x cs:=by
 obtain⟨A0,c0,A2,c2,A4,c4,rfl,h0,h1,h2⟩:=h
 obtain⟨k,hk⟩:=h2.fix_out tt
 exact⟨k+1,_,_,_,_,_,_,rfl,h0,h1,hk⟩
def fnS_k5 {σ:Type} (I:StI σ) (v:Value) (m:(GExpr→σ→Option (Bool×σ))) (D:NP) (w:World):Prop:=
 En v=true∧∀ (C0 F:NP) (w':World),Sp D w (Dj F C0) w'→∀ (x_1:GExpr) (A_2:Option Addr) (c_3:Nat) (A_4:Option Addr) (c_5:Nat) (A_6:Option Addr) (c_7:Nat) (s:σ) (r:Bool×σ),Bun C0 F w' C0 w' [MO.st I s] [Cl.sl ai A_2 c_3 x_1.Lin.L,Cl.sl ak A_4 c_5 x_1.Idx,Cl.sl an A_6 c_7 x_1.Args]→m x_1 s=some r→
  CallV Tryz.prog v [(Value.agg #[(Value.int .i64 x_1.Op),(aE x_1.Name),(Value.int .i64 x_1.Val.N),(Value.int .i64 x_1.Val.D),(Value.int .i64 x_1.Type_.Kind),(Value.int .i64 x_1.Type_.Bits),(Value.int .i64 x_1.Type_.Frac),(Value.int .i64 x_1.Type_.Round),(Value.int .i64 x_1.Type_.Over),(Value.int .i64 x_1.Lin.K),(Value.slice A_2 x_1.Lin.L.length c_3),(Value.slice A_4 x_1.Idx.length c_5),(Value.slice A_6 x_1.Args.length c_7)])] w' fun e w''=>∃ (C:NP),e= .returned (Value.bool r.1)∧Bun C0 F w' C w'' [MO.st I r.2] []
theorem fnS_k5.sp {σ:Type} {I:StI σ} {v:Value} {m:(GExpr→σ→Option (Bool×σ))} {D D':NP} {w w':World} (hs:Sp D w D' w') (h:fnS_k5 I v m D w):fnS_k5 I v m D' w':=⟨h.1,fun C0 F w'' hs'=>h.2 C0 F w'' (hs.trans hs')⟩
def pC {σ:Type} (I:StI σ) (v:Value) (m:(GExpr→σ→Option (Bool×σ))):Cl:=⟨fnS_k5 I v m,fnS_k5.sp⟩
def fnP_k6 (v:Value) (m:(GIndex→Option Bool)) (D:NP) (w:World):Prop:=
 En v=true∧∀ (D':NP) (w':World),Sp D w D' w'→(∀ k,D' k→k<w'.heap.size)→∀ (x_1:GIndex) (A_2:Option Addr) (c_3:Nat) (A_4:Option Addr) (c_5:Nat) (r:Bool),AllCl [Cl.sl ai A_2 c_3 x_1.Lin.L,Cl.sl fS A_4 c_5 x_1.At] D' w'→m x_1=some r→
  CallV Tryz.prog v [(Value.agg #[(Value.int .i64 x_1.Lin.K),(Value.slice A_2 x_1.Lin.L.length c_3),(aE x_1.From),(Value.slice A_4 x_1.At.length c_5)])] w' fun e w''=>e= .returned (Value.bool r)∧Ext w' w''∧AllCl [] D' w''
theorem fnP_k6.sp {v:Value} {m:(GIndex→Option Bool)} {D D':NP} {w w':World} (hs:Sp D w D' w') (h:fnP_k6 v m D w):fnP_k6 v m D' w':=⟨h.1,fun D'' w'' hs'=>h.2 D'' w'' (hs.trans hs')⟩
def ru (v:Value) (m:(GIndex→Option Bool)):Cl:=⟨fnP_k6 v m,fnP_k6.sp⟩
def fnS_k7 {σ:Type} (I:StI σ) (v:Value) (m:(GLin→σ→Option (Bool×σ))) (D:NP) (w:World):Prop:=
 En v=true∧∀ (C0 F:NP) (w':World),Sp D w (Dj F C0) w'→∀ (x_1:GLin) (A_2:Option Addr) (c_3:Nat) (s:σ) (r:Bool×σ),Bun C0 F w' C0 w' [MO.st I s] [Cl.sl ai A_2 c_3 x_1.L]→m x_1 s=some r→
  CallV Tryz.prog v [(Value.agg #[(Value.int .i64 x_1.K),(Value.slice A_2 x_1.L.length c_3)])] w' fun e w''=>∃ (C:NP),e= .returned (Value.bool r.1)∧Bun C0 F w' C w'' [MO.st I r.2] []
theorem fnS_k7.sp {σ:Type} {I:StI σ} {v:Value} {m:(GLin→σ→Option (Bool×σ))} {D D':NP} {w w':World} (hs:Sp D w D' w') (h:fnS_k7 I v m D w):fnS_k7 I v m D' w':=⟨h.1,fun C0 F w'' hs'=>h.2 C0 F w'' (hs.trans hs')⟩
def og {σ:Type} (I:StI σ) (v:Value) (m:(GLin→σ→Option (Bool×σ))):Cl:=⟨fnS_k7 I v m,fnS_k7.sp⟩
structure ac where
 L:List aS
 At:Int
 Deep:Int
 E:Int
 Pos:Int
deriving Inhabited,DecidableEq
structure Gk where
 Name:List UInt8
 Size:GLin
deriving Inhabited,DecidableEq
structure Iu where
 Name:List UInt8
 Type_:GType
 Dims:List Gk
 Red:List Gk
 Fold:Int
 Body:GExpr
deriving Inhabited
def v6 (l1:List aS):Nat→Int→Option Bool
 | 0,_=>none
 | fuel1+1,i1=>
  if decide (i1<(l1.length:Int))then
   (lat l1 i1).bind fun e1=>
   if decide (100<(e1.Text.length:Int))then
    some false
   else
    (v6 l1 fuel1) (ar (i1+1))
  else
   some true
def n0 (c1:Int):Option Bool:=
 some ((((decide (c1=9))||(decide (c1=10)))||(decide (c1=13)))||(decide (c1=32)))
def iC (s1:List UInt8) (self1:Int→Option Int):Nat→Int→Option Int
 | 0,_=>none
 | fuel2+1,at3=>
  (gd (decide (at3<(s1.length:Int))) (sat s1 at3)).bind fun b3=>
  if(decide (at3<(s1.length:Int)))&&(!decide (b3=10))then
   (iC s1 self1 fuel2) (ar (at3+1))
  else
   self1 at3
def fO (s1:List UInt8):Nat→Int→Option Int
 | 0,_=>none
 | fuel1+1,at2=>
  if decide (at2<(s1.length:Int))then
   (sat s1 at2).bind fun b1=>
   (n0 b1).bind fun r1=>
   if r1 then
    (fO s1 fuel1) (ar (at2+1))
   else
    (sat s1 at2).bind fun b2=>
    if decide (b2=35)then
     iC s1 (fO s1 fuel1) fu at2
    else
     some at2
  else
   some at2
def mb (s1:List UInt8) (at1:Int):Option Int:=
 fO s1 fu at1
def lL (c1:Int):Option Bool:=
 some ((decide (97≤c1))&&(decide (c1≤122)))
def nZ (c1:Int):Option Bool:=
 some ((decide (48≤c1))&&(decide (c1≤57)))
def gx (s1:List UInt8) (kind1:Int):Nat→Int→Option (Int×Int)
 | 0,_=>none
 | fuel1+1,n1=>
  (gd (decide (n1<(s1.length:Int))) (sat s1 n1)).bind fun b3=>
  (gd (decide (n1<(s1.length:Int))) (nZ b3)).bind fun r3=>
  (gd (((decide (n1<(s1.length:Int)))&& !r3)&&(decide (kind1=1))) (sat s1 n1)).bind fun b4=>
  (gd (((decide (n1<(s1.length:Int)))&& !r3)&&(decide (kind1=1))) (lL b4)).bind fun r4=>
  (gd ((((decide (n1<(s1.length:Int)))&& !r3)&&(decide (kind1=1)))&& !r4) (sat s1 n1)).bind fun b5=>
  if(decide (n1<(s1.length:Int)))&&(r3||((decide (kind1=1))&&(r4||(decide (b5=95)))))then
   (gx s1 kind1 fuel1) (ar (n1+1))
  else
   some (n1,kind1)
def nb (s1:List UInt8) (kind1:Int):Option (Int×Int):=
 gx s1 kind1 fu 0
def oa (s1:List UInt8):Option (Int×Int):=
 (gd (!(decide (s1=([]:List UInt8)))) (sat s1 0)).bind fun b1=>
 (gd (!(decide (s1=([]:List UInt8)))) (lL b1)).bind fun r1=>
 (gd ((!(decide (s1=([]:List UInt8))))&&(!r1)) (sat s1 0)).bind fun b2=>
 (gd ((!(decide (s1=([]:List UInt8))))&&(!r1)) (nZ b2)).bind fun r2=>
 if(decide (s1=([]:List UInt8)))||((!r1)&&(!r2))then
  some (0,0)
 else
  (sat s1 0).bind fun b6=>
  (lL b6).bind fun r5=>
  if r5 then
   nb s1 1
  else
   nb s1 2
def mJ:Option (List (List UInt8)):=
 some ([([60,61]:List UInt8),([61,61]:List UInt8),([40]:List UInt8),([41]:List UInt8),([91]:List UInt8),([93]:List UInt8),([123]:List UInt8),([125]:List UInt8),([44]:List UInt8),([59]:List UInt8),([58]:List UInt8),([43]:List UInt8),([45]:List UInt8),([42]:List UInt8),([47]:List UInt8),([60]:List UInt8),([61]:List UInt8),([38]:List UInt8),([124]:List UInt8),([33]:List UInt8),([46]:List UInt8),([64]:List UInt8)]:List (List UInt8))
def fA (r1:List (List UInt8)) (s1:List UInt8):Nat→Int→Option Int
 | 0,_=>none
 | fuel1+1,i1=>
  if decide (i1<(r1.length:Int))then
   (lat r1 i1).bind fun e1=>
   (gd (decide ((e1.length:Int)≤(s1.length:Int))) (lat r1 i1)).bind fun e2=>
   (gd (decide ((e1.length:Int)≤(s1.length:Int))) (ox s1 (e2.length:Int))).bind fun s2=>
   (gd (decide ((e1.length:Int)≤(s1.length:Int))) (lat r1 i1)).bind fun e3=>
   if(decide ((e1.length:Int)≤(s1.length:Int)))&&(decide (s2=e3))then
    (lat r1 i1).bind fun e4=>
    some (e4.length:Int)
   else
    (fA r1 s1 fuel1) (ar (i1+1))
  else
   some 0
def lK (s1:List UInt8):Option Int:=
 (mJ).bind fun r1=>
 fA r1 s1 fu 0
def gH (at1:Int) (s1:List UInt8) (bg:List aS) (self1:(List aS)→Int→Option (List aS×Int×Int)) (n1:Int) (kind1:Int):Option (List aS×Int×Int):=
 if decide (n1=0)then
  some (([]:List aS),at1,5)
 else
  if(decide (kind1=1))&&(decide (16<n1))then
   some (([]:List aS),at1,2)
  else
   (Bg s1 at1 (ar (at1+n1))).bind fun s3=>
   (mV bg ([(⟨kind1,at1,s3⟩:aS)]:List aS)).bind fun zs1=>
   (mb s1 (ar (at1+n1))).bind fun r3=>
   self1 zs1 r3
def cN (s1:List UInt8):Nat→(List aS)→Int→Option (List aS×Int×Int)
 | 0,_,_=>none
 | fuel1+1,bg,at1=>
  if decide (at1<(s1.length:Int))then
   (i7 s1 at1).bind fun s2=>
   (oa s2).bind fun r2=>
   if decide (r2.1=0)then
    (i7 s1 at1).bind fun s4=>
    (lK s4).bind fun r4=>
    gH at1 s1 bg (cN s1 fuel1) r4 3
   else
    gH at1 s1 bg (cN s1 fuel1) r2.1 r2.2
  else
   some (bg,0,0)
def jb (s1:List UInt8):Option (List aS×Int×Int):=
 if decide (65536<(s1.length:Int))then
  some (([]:List aS),0,2)
 else
  (mb s1 0).bind fun r1=>
  cN s1 fu ([]:List aS) r1
def bZ (r1:aa) (kind1:Int) (s1:List UInt8):Option Bool:=
 (gd (decide (r1.at_<(r1.l.length:Int))) (lat r1.l r1.at_)).bind fun e1=>
 (gd ((decide (r1.at_<(r1.l.length:Int)))&&(decide (e1.Kind=kind1))) (lat r1.l r1.at_)).bind fun e2=>
 some (((decide (r1.at_<(r1.l.length:Int)))&&(decide (e1.Kind=kind1)))&&(decide (e2.Text=s1)))
def ij (r1:Int):Option Bool:=
 some ((decide (97≤r1))&&(decide (r1≤122)))
def eT (s1:List UInt8) (ok1:(Int→Option Bool)):Nat→Int→Option Int
 | 0,_=>none
 | fuel1+1,n1=>
  (gd (decide (n1<(s1.length:Int))) (sat s1 n1)).bind fun b1=>
  (gd (decide (n1<(s1.length:Int))) (ok1 (qF b1))).bind fun r1=>
  if(decide (n1<(s1.length:Int)))&&r1 then
   (eT s1 ok1 fuel1) (ar (n1+1))
  else
   some n1
def iS (s1:List UInt8) (ok1:(Int→Option Bool)):Option Int:=
 eT s1 ok1 fu 0
def iZ (r1:Int):Option Bool:=
 some ((decide (48≤r1))&&(decide (r1≤57)))
def dX (r1:Int):Option Bool:=
 (ij r1).bind fun r2=>
 (gd (!r2) (iZ r1)).bind fun r3=>
 some ((r2||r3)||(decide (r1=95)))
def mh:Option (List (List UInt8)):=
 (nL ([115,105,122,101,32,119,104,101,114,101,32,105,110,32,100,101,102,32,111,117,116,32,115,117,109,32,112,114,111,100,32,109,105,110,32,109,97,120,32,115,99,97,110,32,111,118,101,114,32,105,102,32,99,97,115,116,32,102,114,97,99,32,105,110,116,32,102,105,120,32,99,101,105,108,32,102,108,111,111,114,32,122,101,114,111,32,101,118,101,110,32,115,97,116,32,119,114,97,112]:List UInt8)).bind fun r1=>
 some r1
def bj (s1:List (List UInt8)) (v1:List UInt8):Nat→Int→Option Int
 | 0,_=>none
 | fuel1+1,i1=>
  if decide (i1<(s1.length:Int))then
   (lat s1 i1).bind fun e1=>
   if decide (v1=e1)then
    some i1
   else
    (bj s1 v1 fuel1) (ar (i1+1))
  else
   some (-1)
def fL (s1:List (List UInt8)) (v1:List UInt8):Option Int:=
 bj s1 v1 fu 0
def dl (s1:List (List UInt8)) (v1:List UInt8):Option Bool:=
 (fL s1 v1).bind fun r1=>
 some (decide (0≤r1))
def jP (s1:List UInt8):Option Bool:=
 (mh).bind fun r1=>
 (dl r1 s1).bind fun r2=>
 some r2
def gB (s1:List UInt8):Option Bool:=
 (gd ((!decide (s1=([]:List UInt8)))&&(decide ((s1.length:Int)≤16))) (sat s1 0)).bind fun b1=>
 (gd ((!decide (s1=([]:List UInt8)))&&(decide ((s1.length:Int)≤16))) (ij (qF b1))).bind fun r1=>
 (gd (((!decide (s1=([]:List UInt8)))&&(decide ((s1.length:Int)≤16)))&&r1) (iS s1 dX)).bind fun r2=>
 (gd ((((!decide (s1=([]:List UInt8)))&&(decide ((s1.length:Int)≤16)))&&r1)&&(decide (r2=(s1.length:Int)))) (jP s1)).bind fun r3=>
 some (((((!decide (s1=([]:List UInt8)))&&(decide ((s1.length:Int)≤16)))&&r1)&&(decide (r2=(s1.length:Int))))&&(!r3))
def cX (r1:aa):Option Bool:=
 (gd (decide (r1.at_<(r1.l.length:Int))) (lat r1.l r1.at_)).bind fun e1=>
 (gd ((decide (r1.at_<(r1.l.length:Int)))&&(decide (e1.Kind=1))) (lat r1.l r1.at_)).bind fun e2=>
 (gd ((decide (r1.at_<(r1.l.length:Int)))&&(decide (e1.Kind=1))) (gB e2.Text)).bind fun r2=>
 some (((decide (r1.at_<(r1.l.length:Int)))&&(decide (e1.Kind=1)))&&r2)
def bM (r1:aa) (at1:Int) (e1:Int):Option (bz Unit):=
 some (.pan at1 e1)
def lO (s1:List UInt8):Option Bool:=
 if decide (s1=([115,105,122,101]:List UInt8))then
  if decide (s1=([115,105,122,101]:List UInt8))then
   some true
  else
   some false
 else
  if decide (s1=([119,104,101,114,101]:List UInt8))then
   if decide (s1=([119,104,101,114,101]:List UInt8))then
    some true
   else
    some false
  else
   if decide (s1=([105,110]:List UInt8))then
    if decide (s1=([105,110]:List UInt8))then
     some true
    else
     some false
   else
    if decide (s1=([100,101,102]:List UInt8))then
     if decide (s1=([100,101,102]:List UInt8))then
      some true
     else
      some false
    else
     if decide (s1=([111,117,116]:List UInt8))then
      if decide (s1=([111,117,116]:List UInt8))then
       some true
      else
       some false
     else
      if decide (s1=([115,117,109]:List UInt8))then
       if decide (s1=([115,117,109]:List UInt8))then
        some true
       else
        some false
      else
       if decide (s1=([112,114,111,100]:List UInt8))then
        if decide (s1=([112,114,111,100]:List UInt8))then
         some true
        else
         some false
       else
        if decide (s1=([109,105,110]:List UInt8))then
         if decide (s1=([109,105,110]:List UInt8))then
          some true
         else
          some false
        else
         if decide (s1=([109,97,120]:List UInt8))then
          if decide (s1=([109,97,120]:List UInt8))then
           some true
          else
           some false
         else
          if decide (s1=([115,99,97,110]:List UInt8))then
           if decide (s1=([115,99,97,110]:List UInt8))then
            some true
           else
            some false
          else
           if decide (s1=([111,118,101,114]:List UInt8))then
            if decide (s1=([111,118,101,114]:List UInt8))then
             some true
            else
             some false
           else
            if decide (s1=([105,102]:List UInt8))then
             if decide (s1=([105,102]:List UInt8))then
              some true
             else
              some false
            else
             if decide (s1=([99,97,115,116]:List UInt8))then
              if decide (s1=([99,97,115,116]:List UInt8))then
               some true
              else
               some false
             else
              if decide (s1=([102,114,97,99]:List UInt8))then
               if decide (s1=([102,114,97,99]:List UInt8))then
                some true
               else
                some false
              else
               if decide (s1=([105,110,116]:List UInt8))then
                if decide (s1=([105,110,116]:List UInt8))then
                 some true
                else
                 some false
               else
                if decide (s1=([102,105,120]:List UInt8))then
                 if decide (s1=([102,105,120]:List UInt8))then
                  some true
                 else
                  some false
                else
                 if decide (s1=([99,101,105,108]:List UInt8))then
                  if decide (s1=([99,101,105,108]:List UInt8))then
                   some true
                  else
                   some false
                 else
                  if decide (s1=([102,108,111,111,114]:List UInt8))then
                   if decide (s1=([102,108,111,111,114]:List UInt8))then
                    some true
                   else
                    some false
                  else
                   if decide (s1=([122,101,114,111]:List UInt8))then
                    if decide (s1=([122,101,114,111]:List UInt8))then
                     some true
                    else
                     some false
                   else
                    if decide (s1=([101,118,101,110]:List UInt8))then
                     if decide (s1=([101,118,101,110]:List UInt8))then
                      some true
                     else
                      some false
                    else
                     if decide (s1=([115,97,116]:List UInt8))then
                      if decide (s1=([115,97,116]:List UInt8))then
                       some true
                      else
                       some false
                     else
                      if decide (s1=([119,114,97,112]:List UInt8))then
                       some true
                      else
                       some false
def dn (s1:List UInt8):Nat→Int→Option Bool
 | 0,_=>none
 | fuel1+1,i1=>
  if decide (i1<(s1.length:Int))then
   (sat s1 i1).bind fun b3=>
   if(((decide (b3<97))||(decide (122<b3)))&&((decide (b3<48))||(decide (57<b3))))&&(!decide (b3=95))then
    some false
   else
    (dn s1 fuel1) (ar (i1+1))
  else
   some true
def jg (s1:List UInt8):Option Bool:=
 (gd (!((decide ((s1.length:Int)<1))||(decide (16<(s1.length:Int))))) (lO s1)).bind fun r1=>
 (gd (!(((decide ((s1.length:Int)<1))||(decide (16<(s1.length:Int))))||r1)) (sat s1 0)).bind fun b1=>
 (gd (!((((decide ((s1.length:Int)<1))||(decide (16<(s1.length:Int))))||r1)||(decide (b1<97)))) (sat s1 0)).bind fun b2=>
 if((((decide ((s1.length:Int)<1))||(decide (16<(s1.length:Int))))||r1)||(decide (b1<97)))||(decide (122<b2))then
  some false
 else
  dn s1 fu 0
def mf (name1:List UInt8):Option GLin:=
 (jg name1).bind fun r1=>
 if !r1 then
  some (⟨0,([]:List GMono)⟩:GLin)
 else
  some (⟨0,([(⟨name1,1⟩:GMono)]:List GMono)⟩:GLin)
def dB (l1:GLin):Nat→Int→Option Int
 | 0,_=>none
 | fuel1+1,i1=>
  if decide (i1<(l1.L.length:Int))then
   (lat l1.L i1).bind fun e1=>
   (jg e1.Name).bind fun r1=>
   (gd ((!((!r1)||(decide (e1.By=0))))&&(decide (0<i1))) (lat l1.L (ar (i1 - 1)))).bind fun e2=>
   if((!r1)||(decide (e1.By=0)))||((decide (0<i1))&&(!Op.bytesLess e2.Name e1.Name))then
    some 1
   else
    (dB l1 fuel1) (ar (i1+1))
  else
   some 0
def ii (l1:GLin):Option Int:=
 dB l1 fu 0
def jA (n1:Int):Option Int:=
 if decide (n1<0)then
  some (kC (-(kC n1)))
 else
  some (kC n1)
def mD (a1:Int) (b1:Int):Option (Int×Int):=
 (some (kC ((bits .and .u64 a1 4294967295) * (bits .and .u64 b1 4294967295)))).bind fun low1=>
 (some (kC ((kC ((Int.fdiv a1 (2 ^ 32)) * (bits .and .u64 b1 4294967295)))+(Int.fdiv low1 (2 ^ 32))))).bind fun mid1=>
 (some (kC ((kC ((bits .and .u64 a1 4294967295) * (Int.fdiv b1 (2 ^ 32))))+(bits .and .u64 mid1 4294967295)))).bind fun cross1=>
 (some (kC ((kC ((kC ((Int.fdiv a1 (2 ^ 32)) * (Int.fdiv b1 (2 ^ 32))))+(Int.fdiv mid1 (2 ^ 32))))+(Int.fdiv cross1 (2 ^ 32))))).bind fun hi1=>
 some (hi1,kC (a1 * b1))
def mQ (a1:Int) (b1:Int):Option (Int×Bool):=
 (jA a1).bind fun r1=>
 (jA b1).bind fun r2=>
 (mD r1 r2).bind fun r3=>
 (some ((decide (a1<0)) != (decide (b1<0)))).bind fun negative1=>
 if((!decide (r3.1=0))||(decide (9223372036854775808<r3.2)))||((decide (r3.2=9223372036854775808))&&(!negative1))then
  some (0,false)
 else
  if negative1 then
   some (ar (kC (-r3.2)),true)
  else
   some (ar r3.2,true)
def nh (fits1:Bool) (bg:GLin):Option (GLin×Int):=
 if !fits1 then
  some ((⟨0,([]:List GMono)⟩:GLin),3)
 else
  some (bg,0)
def gA (a1:GLin) (by1:Int):Nat→Bool→Int→GLin→Option (GLin×Int)
 | 0,_,_,_=>none
 | fuel1+1,fits2,i1,out2=>
  if decide (i1<(a1.L.length:Int))then
   (lat a1.L i1).bind fun e1=>
   (mQ e1.By by1).bind fun r3=>
   (mV out2.L ([(⟨e1.Name,r3.1⟩:GMono)]:List GMono)).bind fun zs1=>
   (gA a1 by1 fuel1) (fits2&&r3.2) (ar (i1+1)) (⟨out2.K,zs1⟩:GLin)
  else
   nh fits2 out2
def iY (a1:GLin) (by1:Int):Option (GLin×Int):=
 (ii a1).bind fun r1=>
 if !decide (r1=0)then
  some ((⟨0,([]:List GMono)⟩:GLin),1)
 else
  if decide (by1=0)then
   some ((⟨0,([]:List GMono)⟩:GLin),0)
  else
   (mQ a1.K by1).bind fun r2=>
   gA a1 by1 fu r2.2 0 (⟨r2.1,([]:List GMono)⟩:GLin)
def iJ (s1:List UInt8):Option Bool:=
 (gd ((!(decide (s1=([48]:List UInt8))))&&(!decide (s1=([]:List UInt8)))) (sat s1 0)).bind fun b1=>
 some ((decide (s1=([48]:List UInt8)))||((!decide (s1=([]:List UInt8)))&&(!decide (b1=48))))
def d9 (s1:List UInt8):Nat→Int→Option Bool
 | 0,_=>none
 | fuel1+1,i1=>
  if decide (i1<(s1.length:Int))then
   (sat s1 i1).bind fun b2=>
   (gd (!(decide (b2<48))) (sat s1 i1)).bind fun b3=>
   if(decide (b2<48))||(decide (57<b3))then
    some false
   else
    (d9 s1 fuel1) (ar (i1+1))
  else
   iJ s1
def me (s1:List UInt8):Option Bool:=
 d9 s1 fu 0
def fH (r1:aa):Option Bool:=
 (gd (decide (r1.at_<(r1.l.length:Int))) (lat r1.l r1.at_)).bind fun e1=>
 (gd ((decide (r1.at_<(r1.l.length:Int)))&&(decide (e1.Kind=2))) (lat r1.l r1.at_)).bind fun e2=>
 (gd ((decide (r1.at_<(r1.l.length:Int)))&&(decide (e1.Kind=2))) (me e2.Text)).bind fun r2=>
 some (((decide (r1.at_<(r1.l.length:Int)))&&(decide (e1.Kind=2)))&&r2)
def jk (negative1:Bool) (n1:Int):Option (Int×Bool):=
 if negative1 then
  some (ar (-(ar n1)),true)
 else
  some (ar n1,true)
def dP (s1:List UInt8) (limit1:Int) (negative1:Bool):Nat→Int→Int→Option (Int×Bool)
 | 0,_,_=>none
 | fuel1+1,n2,i1=>
  if decide (i1<(s1.length:Int))then
   (sat s1 i1).bind fun b1=>
   if decide (kC (Int.tdiv (kC (limit1 - (kC (E0 (b1 - 48))))) 10)<n2)then
    some (0,false)
   else
    (some (kC ((kC (10 * n2))+(kC (E0 (b1 - 48)))))).bind fun n3=>
    (dP s1 limit1 negative1 fuel1) n3 (ar (i1+1))
  else
   jk negative1 n2
def jl (s1:List UInt8) (negative1:Bool) (limit1:Int):Option (Int×Bool):=
 dP s1 limit1 negative1 fu 0 0
def iD (s1:List UInt8) (negative1:Bool):Option (Int×Bool):=
 if negative1 then
  jl s1 negative1 9223372036854775808
 else
  jl s1 negative1 9223372036854775807
def qJ (k1:Int):Option GLin:=
 some (⟨k1,([]:List GMono)⟩:GLin)
def nN (a1:Int) (b1:Int):Option (Int×Bool):=
 some (ar (a1+b1),(decide (a1<ar (a1+b1)))==(decide (0<b1)))
def eS (name1:List UInt8) (x1:Int) (y1:Int) (a1:Bool) (a2:GLin):Option (Unit×Bool×GLin):=
 (nN x1 y1).bind fun r1=>
 if !decide (r1.1=0)then
  (mV a2.L ([(⟨name1,r1.1⟩:GMono)]:List GMono)).bind fun zs1=>
  some ((),a1&&r1.2,(⟨a2.K,zs1⟩:GLin))
 else
  some ((),a1&&r1.2,a2)
def cT {σ:Type} (each1:((List UInt8)→Int→Int→σ→Option (Unit×σ))):Nat→(List GMono)→(List GMono)→σ→Option (Unit×σ)
 | 0,_,_,_=>none
 | fuel1+1,a4,b2,s2=>
  if(decide (0<(a4.length:Int)))||(decide (0<(b2.length:Int)))then
   (gd ((!(decide ((b2.length:Int)=0)))&&(decide (0<(a4.length:Int)))) (lat a4 0)).bind fun e1=>
   (gd ((!(decide ((b2.length:Int)=0)))&&(decide (0<(a4.length:Int)))) (lat b2 0)).bind fun e2=>
   if(decide ((b2.length:Int)=0))||((decide (0<(a4.length:Int)))&&(Op.bytesLess e1.Name e2.Name))then
    (lat a4 0).bind fun e3=>
    (lat a4 0).bind fun e4=>
    (each1 e3.Name e4.By 0 s2).bind fun⟨r1,s3⟩=>
    (i7 a4 1).bind fun zs1=>
    (cT each1 fuel1) zs1 b2 s3
   else
    (gd (!(decide ((a4.length:Int)=0))) (lat b2 0)).bind fun e5=>
    (gd (!(decide ((a4.length:Int)=0))) (lat a4 0)).bind fun e6=>
    if(decide ((a4.length:Int)=0))||(Op.bytesLess e5.Name e6.Name)then
     (lat b2 0).bind fun e7=>
     (lat b2 0).bind fun e8=>
     (each1 e7.Name 0 e8.By s2).bind fun⟨r2,s4⟩=>
     (i7 b2 1).bind fun zs2=>
     (cT each1 fuel1) a4 zs2 s4
    else
     (lat a4 0).bind fun e9=>
     (lat a4 0).bind fun e10=>
     (lat b2 0).bind fun e11=>
     (each1 e9.Name e10.By e11.By s2).bind fun⟨r3,s5⟩=>
     (i7 a4 1).bind fun zs3=>
     (i7 b2 1).bind fun zs4=>
     (cT each1 fuel1) zs3 zs4 s5
  else
   some ((),s2)
def n5 {σ:Type} (a1:List GMono) (b1:List GMono) (each1:((List UInt8)→Int→Int→σ→Option (Unit×σ))) (s1:σ):Option (Unit×σ):=
 cT each1 fu a1 b1 s1
def gY (a1:GLin) (b1:GLin):Option (GLin×Int):=
 (ii a1).bind fun r1=>
 (gd (!(!decide (r1=0))) (ii b1)).bind fun r2=>
 if(!decide (r1=0))||(!decide (r2=0))then
  some ((⟨0,([]:List GMono)⟩:GLin),1)
 else
  (nN a1.K b1.K).bind fun r3=>
  (n5 a1.L b1.L (fun x_1 x_2 x_3 s=>eS x_1 x_2 x_3 (s.1) (s.2)) (r3.2,(⟨r3.1,([]:List GMono)⟩:GLin))).bind fun⟨r4,s1⟩=>
  if !(s1.1)then
   some ((⟨0,([]:List GMono)⟩:GLin),3)
  else
   some ((s1.2),0)
def aw (r1:aa) (s1:List UInt8):Option (Bool×aa):=
 (bZ r1 3 s1).bind fun r2=>
 if r2 then
  some (true,(⟨r1.l,ar (r1.at_+1),r1.deep⟩:aa))
 else
  some (false,r1)
def bc (r1:aa):Option (bz (Unit×aa)):=
 if decide ((r1.l.length:Int)≤r1.at_)then
  pb (bM r1 (r1.l.length:Int) 6) fun r2=>
  pb (bM r1 r1.at_ 5) fun r3=>
  some (.ret ((),r1))
 else
  pb (bM r1 r1.at_ 5) fun r4=>
  some (.ret ((),r1))
def fk (r2:aa):Option (bz (List UInt8×aa)):=
 (lat r2.l (ar ((ar (r2.at_+1)) - 1))).bind fun e1=>
 some (.ret (e1.Text,(⟨r2.l,ar (r2.at_+1),r2.deep⟩:aa)))
def br (r1:aa):Option (bz (List UInt8×aa)):=
 (cX r1).bind fun r3=>
 if !r3 then
  pb (bc r1) fun⟨r4,s1⟩=>
  fk s1
 else
  fk r1
def cv (r2:aa):Option (bz (List UInt8×aa)):=
 (lat r2.l (ar ((ar (r2.at_+1)) - 1))).bind fun e1=>
 some (.ret (e1.Text,(⟨r2.l,ar (r2.at_+1),r2.deep⟩:aa)))
def bG (r1:aa):Option (bz (List UInt8×aa)):=
 (fH r1).bind fun r3=>
 if !r3 then
  pb (bc r1) fun⟨r4,s1⟩=>
  cv s1
 else
  cv r1
def dJ (name1:List UInt8) (r8:Int×Bool) (r7:aa):Option (bz (GLin×aa)):=
 if decide (name1=([]:List UInt8))then
  (qJ r8.1).bind fun r9=>
  some (.ret (r9,r7))
 else
  (mf name1).bind fun r10=>
  (iY r10 r8.1).bind fun r11=>
  some (.ret (r11.1,r7))
def aY (r6:List UInt8) (negative1:Bool) (r1:aa) (name1:List UInt8) (r7:aa):Option (bz (GLin×aa)):=
 (iD r6 negative1).bind fun r8=>
 if !r8.2 then
  pb (bM r7 r1.at_ 3) fun r12=>
  dJ name1 r8 r7
 else
  dJ name1 r8 r7
def dQ (r1:aa) (negative1:Bool):Option (bz (GLin×aa)):=
 (cX r1).bind fun r2=>
 if r2 then
  pb (br r1) fun⟨r3,s1⟩=>
  (mf r3).bind fun r4=>
  if negative1 then
   (iY r4 (-1)).bind fun r5=>
   some (.ret (r5.1,s1))
  else
   some (.ret (r4,s1))
 else
  pb (bG r1) fun⟨r6,s2⟩=>
  (aw s2 ([42]:List UInt8)).bind fun⟨r13,s3⟩=>
  if r13 then
   pb (br s3) fun⟨r14,s4⟩=>
   aY r6 negative1 r1 r14 s4
  else
   aY r6 negative1 r1 ([]:List UInt8) s3
def fm (s2:aa) (self1:Bool→aa→GLin→Option (bz (GLin×aa))) (r5:GLin×Int):Option (bz (GLin×aa)):=
 (aw s2 ([43]:List UInt8)).bind fun⟨r6,s3⟩=>
 if r6 then
  self1 false s3 r5.1
 else
  (aw s3 ([45]:List UInt8)).bind fun⟨r7,s4⟩=>
  if r7 then
   self1 true s4 r5.1
  else
   some (.ret (r5.1,s4))
def aZ:Nat→Bool→aa→GLin→Option (bz (GLin×aa))
 | 0,_,_,_=>none
 | fuel1+1,negative1,r3,sum1=>
  pb (dQ r3 negative1) fun⟨r4,s2⟩=>
  (gY sum1 r4).bind fun r5=>
  if !decide (r5.2=0)then
   pb (bM s2 r3.at_ 3) fun r8=>
   fm s2 (aZ fuel1) r5
  else
   fm s2 (aZ fuel1) r5
def bH (r1:aa):Option (bz (GLin×aa)):=
 (aw r1 ([45]:List UInt8)).bind fun⟨r2,s1⟩=>
 aZ fu r2 s1 (⟨0,([]:List GMono)⟩:GLin)
def nc (a1:aa) (a3:GLin):Option (bz (Unit×aa×GLin)):=
 pb (bH a1) fun⟨r1,s1⟩=>
 some (.ret ((),s1,r1))
def pY (l1:List aS) (at1:Int):Option (GLin×Int×Int):=
 if(decide (at1<0))||(decide ((l1.length:Int)<at1))then
  some ((⟨0,([]:List GMono)⟩:GLin),0,1)
 else
  yq (nc (⟨l1,at1,0⟩:aa) (⟨0,([]:List GMono)⟩:GLin)) (fun⟨r1,s1,s2⟩=>
   if !decide (0=0)then
    some ((⟨0,([]:List GMono)⟩:GLin),0,0)
   else
    some (s2,s1.at_,0)) fun pa1 pn1=>
   some ((⟨0,([]:List GMono)⟩:GLin),pa1,pn1)
def mE (r1:Int):Option Bool:=
 if decide (r1=9)then
  if decide (r1=9)then
   some true
  else
   some false
 else
  if decide (r1=10)then
   if decide (r1=10)then
    some true
   else
    some false
  else
   if decide (r1=13)then
    if decide (r1=13)then
     some true
    else
     some false
   else
    if decide (r1=32)then
     some true
    else
     some false
def ni (r1:Int):Option Bool:=
 some (!decide (r1=10))
def gK (s1:List UInt8):Nat→Int→Option Int
 | 0,_=>none
 | fuel1+1,at1=>
  if decide (at1<(s1.length:Int))then
   (sat s1 at1).bind fun b1=>
   (mE (qF b1)).bind fun r1=>
   if r1 then
    (gK s1 fuel1) (ar (at1+1))
   else
    if decide (qF b1=35)then
     (i7 s1 at1).bind fun s2=>
     (iS s2 ni).bind fun r2=>
     (gK s1 fuel1) (ar (at1+r2))
    else
     some at1
  else
   some at1
def mg (s1:List UInt8):Option Int:=
 gK s1 fu 0
def lP (r1:Int):Option Bool:=
 if decide (r1=40)then
  if decide (r1=40)then
   some true
  else
   some false
 else
  if decide (r1=41)then
   if decide (r1=41)then
    some true
   else
    some false
  else
   if decide (r1=91)then
    if decide (r1=91)then
     some true
    else
     some false
   else
    if decide (r1=93)then
     if decide (r1=93)then
      some true
     else
      some false
    else
     if decide (r1=123)then
      if decide (r1=123)then
       some true
      else
       some false
     else
      if decide (r1=125)then
       if decide (r1=125)then
        some true
       else
        some false
      else
       if decide (r1=44)then
        if decide (r1=44)then
         some true
        else
         some false
       else
        if decide (r1=59)then
         if decide (r1=59)then
          some true
         else
          some false
        else
         if decide (r1=58)then
          if decide (r1=58)then
           some true
          else
           some false
         else
          if decide (r1=43)then
           if decide (r1=43)then
            some true
           else
            some false
          else
           if decide (r1=45)then
            if decide (r1=45)then
             some true
            else
             some false
           else
            if decide (r1=42)then
             if decide (r1=42)then
              some true
             else
              some false
            else
             if decide (r1=47)then
              if decide (r1=47)then
               some true
              else
               some false
             else
              if decide (r1=60)then
               if decide (r1=60)then
                some true
               else
                some false
              else
               if decide (r1=61)then
                if decide (r1=61)then
                 some true
                else
                 some false
               else
                if decide (r1=38)then
                 if decide (r1=38)then
                  some true
                 else
                  some false
                else
                 if decide (r1=124)then
                  if decide (r1=124)then
                   some true
                  else
                   some false
                 else
                  if decide (r1=33)then
                   if decide (r1=33)then
                    some true
                   else
                    some false
                  else
                   if decide (r1=46)then
                    if decide (r1=46)then
                     some true
                    else
                     some false
                   else
                    if decide (r1=64)then
                     some true
                    else
                     some false
def nj (s1:List UInt8):Option (Int×Int):=
 (sat s1 0).bind fun b1=>
 (ij (qF b1)).bind fun r1=>
 if r1 then
  (iS s1 dX).bind fun r2=>
  some (1,r2)
 else
  (iZ (qF b1)).bind fun r3=>
  if r3 then
   (iS s1 iZ).bind fun r4=>
   some (2,r4)
  else
   (gd (((decide (qF b1=60))||(decide (qF b1=61)))&&(decide (1<(s1.length:Int)))) (sat s1 1)).bind fun b2=>
   if(((decide (qF b1=60))||(decide (qF b1=61)))&&(decide (1<(s1.length:Int))))&&(decide (b2=61))then
    some (3,2)
   else
    (lP (qF b1)).bind fun r5=>
    if r5 then
     some (3,1)
    else
     some (0,0)
def fw (s1:List UInt8):Nat→(List aS)→Int→Option (List aS×Int×Int)
 | 0,_,_=>none
 | fuel1+1,bg,at1=>
  if decide (at1<(s1.length:Int))then
   (i7 s1 at1).bind fun s2=>
   (nj s2).bind fun r2=>
   if decide (r2.1=0)then
    some (([]:List aS),at1,5)
   else
    if(decide (r2.1=1))&&(decide (16<r2.2))then
     some (([]:List aS),at1,2)
    else
     (Bg s1 at1 (ar (at1+r2.2))).bind fun s3=>
     (mV bg ([(⟨r2.1,at1,s3⟩:aS)]:List aS)).bind fun zs1=>
     (i7 s1 (ar (at1+r2.2))).bind fun s4=>
     (mg s4).bind fun r3=>
     (some (ar ((ar (at1+r2.2))+r3))).bind fun at2=>
     (fw s1 fuel1) zs1 at2
  else
   some (bg,0,0)
def jh (s1:List UInt8):Option (List aS×Int×Int):=
 if decide (65536<(s1.length:Int))then
  some (([]:List aS),0,2)
 else
  (mg s1).bind fun r1=>
  fw s1 fu ([]:List aS) r1
def mq (t1:GType):Option Bool:=
 some ((decide (t1.Kind=t1.Kind))&&(decide (t1.Bits=0))&&(decide (t1.Frac=0))&&(decide (t1.Round=0))&&(decide (t1.Over=0)))
def ga (t1:GType):Option Int:=
 (some (((decide (1≤t1.Round))&&(decide (t1.Round≤4)))&&((decide (t1.Over=1))||(decide (t1.Over=2))))).bind fun modes1=>
 if(((((!decide (t1.Kind=2))||(decide (t1.Bits<2)))||(decide (31<t1.Bits)))||(decide (t1.Frac<0)))||(decide (30<t1.Frac)))||(!modes1)then
  some 10
 else
  some 0
def fV (t1:GType) (i1:Bool):Option Int:=
 if i1 then
  (mq t1).bind fun r1=>
  if r1 then
   some 0
  else
   some 10
 else
  if decide (t1.Kind=2)then
   (ga t1).bind fun r2=>
   if decide (r2=0)then
    some 0
   else
    some 10
  else
   some 10
def dH (t1:GType):Option Int:=
 if decide (t1.Kind=1)then
  fV t1 (decide (t1.Kind=1))
 else
  fV t1 (decide (t1.Kind=3))
def gC (s1:List UInt8) (sep1:List UInt8):Option (List UInt8×List UInt8×Bool):=
 (fP s1 sep1).bind fun r1=>
 if decide (0≤r1)then
  (ox s1 r1).bind fun s2=>
  (i7 s1 (ar (r1+(sep1.length:Int)))).bind fun s3=>
  some (s2,s3,true)
 else
  some (s1,([]:List UInt8),false)
def mu (s1:List UInt8) (sep1:List UInt8):Option (List UInt8×List UInt8×Bool):=
 (gC s1 sep1).bind fun r1=>
 some (r1.1,r1.2.1,r1.2.2)
def eC (s1:List UInt8) (prefix1:List UInt8):Option Bool:=
 (gd (decide ((prefix1.length:Int)≤(s1.length:Int))) (ox s1 (prefix1.length:Int))).bind fun s2=>
 some ((decide ((prefix1.length:Int)≤(s1.length:Int)))&&(decide (s2=prefix1)))
def eD (s1:List UInt8) (prefix1:List UInt8):Option (List UInt8×Bool):=
 (eC s1 prefix1).bind fun r1=>
 if !r1 then
  some (s1,false)
 else
  (i7 s1 (prefix1.length:Int)).bind fun s2=>
  some (s2,true)
def iI (s1:List UInt8) (prefix1:List UInt8):Option (List UInt8×Bool):=
 (eD s1 prefix1).bind fun r1=>
 some (r1.1,r1.2)
def jQ (s1:List UInt8):Option Bool:=
 (gd ((!(decide (s1=([48]:List UInt8))))&&(!decide (s1=([]:List UInt8)))) (sat s1 0)).bind fun b1=>
 some ((decide (s1=([48]:List UInt8)))||((!decide (s1=([]:List UInt8)))&&(!decide (b1=48))))
def iw (s1:List UInt8):Nat→Int→Option Bool
 | 0,_=>none
 | fuel1+1,i1=>
  if decide (i1<(s1.length:Int))then
   (sat s1 i1).bind fun b2=>
   (gd (!(decide (b2<48))) (sat s1 i1)).bind fun b3=>
   if(decide (b2<48))||(decide (57<b3))then
    some false
   else
    (iw s1 fuel1) (ar (i1+1))
  else
   jQ s1
def kn (s1:List UInt8):Option Bool:=
 iw s1 fu 0
def ko (s1:List UInt8):Option (Int×Bool):=
 if decide (10<(s1.length:Int))then
  some (0,false)
 else
  (kM s1 10 64).bind fun r1=>
  some (r1.1,decide (r1.1≤2147483647))
def lQ (n1:Int):Option Bool:=
 some ((decide ((-2147483647)≤n1))&&(decide (n1≤2147483647)))
def km (n1:Int):Option Int:=
 if decide (n1<0)then
  some (kC (-(kC n1)))
 else
  some (kC n1)
def k0:Nat→Int→Int→Option Int
 | 0,_,_=>none
 | fuel1+1,a2,b2=>
  if !decide (b2=0)then
   if b2≠0 then
    (k0 fuel1) b2 (Int.tmod a2 b2)
   else none
  else
   some a2
def pZ (a1:Int) (b1:Int):Option Int:=
 k0 fu a1 b1
def mi (v1:GVal):Option Bool:=
 (gd ((decide (1≤v1.D))&&(decide (v1.D≤2147483647))) (lQ v1.N)).bind fun r1=>
 (gd (((decide (1≤v1.D))&&(decide (v1.D≤2147483647)))&&r1) (km v1.N)).bind fun r2=>
 (gd (((decide (1≤v1.D))&&(decide (v1.D≤2147483647)))&&r1) (pZ r2 (kC v1.D))).bind fun r3=>
 some ((((decide (1≤v1.D))&&(decide (v1.D≤2147483647)))&&r1)&&(decide (r3=1)))
def kV (r5:Int×Bool) (n1:Int):Option (GVal×Int):=
 (mi (⟨n1,r5.1⟩:GVal)).bind fun r6=>
 if !r6 then
  some ((⟨0,0⟩:GVal),5)
 else
  some ((⟨n1,r5.1⟩:GVal),0)
def jB (r2:List UInt8×Bool) (bottom1:List UInt8):Option (GVal×Int):=
 (ko r2.1).bind fun r4=>
 (ko bottom1).bind fun r5=>
 if(!r4.2)||(!r5.2)then
  some ((⟨0,0⟩:GVal),3)
 else
  if r2.2 then
   kV r5 (ar (-r4.1))
  else
   kV r5 r4.1
def nn (s1:List UInt8):Option (GVal×Int):=
 (mu s1 ([47]:List UInt8)).bind fun r1=>
 (iI r1.1 ([45]:List UInt8)).bind fun r2=>
 (kn r2.1).bind fun r3=>
 if(!r3)||(r2.2&&(decide (r2.1=([48]:List UInt8))))then
  some ((⟨0,0⟩:GVal),5)
 else
  if !r1.2.2 then
   jB r2 ([49]:List UInt8)
  else
   (kn r1.2.1).bind fun r7=>
   if((!r7)||(decide (r1.2.1=([48]:List UInt8))))||(decide (r1.2.1=([49]:List UInt8)))then
    some ((⟨0,0⟩:GVal),5)
   else
    jB r2 r1.2.1
def kX (bits1:Int):Option Bool:=
 some ((decide (2≤bits1))&&(decide (bits1≤31)))
def lC (bits1:Int):Option Int:=
 (kX bits1).bind fun r1=>
 if !r1 then
  some 0
 else
  if 0≤(kC (ar (bits1 - 1)))then
   some (ar (-(ar (1 * 2 ^ (min (Int.toNat (kC (ar (bits1 - 1)))) 64)))))
  else none
def lD (bits1:Int):Option Int:=
 (kX bits1).bind fun r1=>
 if !r1 then
  some 0
 else
  if 0≤(kC (ar (bits1 - 1)))then
   some (ar ((ar (1 * 2 ^ (min (Int.toNat (kC (ar (bits1 - 1)))) 64))) - 1))
  else none
def k7 (t1:GType) (v1:GVal):Option Bool:=
 (ga t1).bind fun r1=>
 (gd ((decide (r1=0))&&(decide (v1.D=1))) (lC t1.Bits)).bind fun r2=>
 (gd (((decide (r1=0))&&(decide (v1.D=1)))&&(decide (r2≤v1.N))) (lD t1.Bits)).bind fun r3=>
 some ((((decide (r1=0))&&(decide (v1.D=1)))&&(decide (r2≤v1.N)))&&(decide (v1.N≤r3)))
def mt (t1:GType) (s1:List UInt8):Option (GVal×Int):=
 (dH t1).bind fun r1=>
 if !decide (r1=0)then
  some ((⟨0,0⟩:GVal),10)
 else
  (nn s1).bind fun r2=>
  if !decide (r2.2=0)then
   some ((⟨0,0⟩:GVal),r2.2)
  else
   if decide (t1.Kind=3)then
    if !decide (r2.1.D=1)then
     some ((⟨0,0⟩:GVal),5)
    else
     some (r2.1,0)
   else
    if decide (t1.Kind=2)then
     if 0≤t1.Frac then
      (some (ar (1 * 2 ^ (min (Int.toNat t1.Frac) 64)))).bind fun one1=>
      if r2.1.D≠0 then
       if !decide (Int.tmod one1 r2.1.D=0)then
        some ((⟨0,0⟩:GVal),5)
       else
        (k7 t1 (⟨ar (r2.1.N * (ar (Int.tdiv one1 r2.1.D))),1⟩:GVal)).bind fun r3=>
        if !r3 then
         some ((⟨0,0⟩:GVal),3)
        else
         some ((⟨ar (r2.1.N * (ar (Int.tdiv one1 r2.1.D))),1⟩:GVal),0)
      else none
     else none
    else
     some (r2.1,0)
def gL (e1:GExpr) (rec_:(GExpr→Int→Option Int)) (limit1:Int):Nat→Int→Int→Option Int
 | 0,_,_=>none
 | fuel1+1,d1,i1=>
  if decide (i1<(e1.Args.length:Int))then
   (lat e1.Args i1).bind fun e2=>
   (rec_ e2 (ar (limit1 - 1))).bind fun r1=>
   (gL e1 rec_ limit1 fuel1) (max d1 (ar (1+r1))) (ar (i1+1))
  else
   some d1
def lR (rec_:(GExpr→Int→Option Int)) (e1:GExpr) (limit1:Int):Option Int:=
 if decide (limit1≤1)then
  some limit1
 else
  gL e1 rec_ limit1 fu 1 0
def kv:Nat→(GExpr→Int→Option Int)
 | 0=>fun _ _=>none
 | n+1=>lR (kv n)
def p7 (e1:GExpr) (limit1:Int):Option Int:=kv fu e1 limit1
def oz (e1:GExpr):Option Int:=
 (p7 e1 41).bind fun r1=>
 some r1
def mR (e1:GExpr):Option GExpr:=
 some e1
def dz {σ:Type} (e1:GExpr) (rec_:(GExpr→(GExpr→σ→Option (Bool×σ))→σ→Option (Bool×σ))) (yield1:(GExpr→σ→Option (Bool×σ))):Nat→Int→σ→Option (Bool×σ)
 | 0,_,_=>none
 | fuel1+1,i1,s3=>
  if decide (i1<(e1.Args.length:Int))then
   (lat e1.Args i1).bind fun e2=>
   (rec_ e2 yield1 s3).bind fun⟨r2,s4⟩=>
   if !r2 then
    some (false,s4)
   else
    (dz e1 rec_ yield1 fuel1) (ar (i1+1)) s4
  else
   some (true,s3)
def iE {σ:Type} (rec_:(GExpr→(GExpr→σ→Option (Bool×σ))→σ→Option (Bool×σ))) (e1:GExpr) (yield1:(GExpr→σ→Option (Bool×σ))) (s1:σ):Option (Bool×σ):=
 (yield1 e1 s1).bind fun⟨r1,s2⟩=>
 if !r1 then
  some (false,s2)
 else
  dz e1 rec_ yield1 fu 0 s2
def fQ {σ:Type} :Nat→(GExpr→(GExpr→σ→Option (Bool×σ))→σ→Option (Bool×σ))
 | 0=>fun _ _ _=>none
 | n+1=>iE (fQ n)
def n6 {σ:Type} (e1:GExpr) (yield1:(GExpr→σ→Option (Bool×σ))) (s1:σ):Option (Bool×σ):=fQ fu e1 yield1 s1
def jD {σ:Type} (yield1:(GExpr→σ→Option (Bool×σ))) (a1:GExpr) (s1:σ):Option (Unit×σ):=
 (n6 a1 yield1 s1).bind fun⟨r1,s2⟩=>
 some ((),s2)
def fK (y1:GExpr) (n1:Int):Option (Bool×(Nat×Int)):=
 if decide (2000<ar (n1+1))then
  some (false,(1,(ar (n1+1))))
 else
  some (true,(0,(ar (n1+1))))
def oc (e1:GExpr):Option Int:=
 (mR e1).bind fun r1=>
 (jD (fun k_0 q=>if q.1=0 then fK k_0 q.2 else none) r1 (0,0)).bind fun⟨u1,o1,n2⟩=>
 if o1=0 then
  some n2
 else
  if o1=1 then
   some n2
  else
   none
def k8 (l1:GLin):Option Bool:=
 some ((decide (l1.K=0))&&(decide ((l1.L.length:Int)=0)))
def aP (s1:List GIndex) (f1:(GIndex→Option Bool)):Nat→Int→Option Int
 | 0,_=>none
 | fuel1+1,i1=>
  if decide (i1<(s1.length:Int))then
   (lat s1 i1).bind fun e1=>
   (f1 e1).bind fun r1=>
   if r1 then
    some i1
   else
    (aP s1 f1 fuel1) (ar (i1+1))
  else
   some (-1)
def cU (s1:List GIndex) (f1:(GIndex→Option Bool)):Option Int:=
 aP s1 f1 fu 0
def be (s1:List GIndex) (f1:(GIndex→Option Bool)):Option Bool:=
 (cU s1 f1).bind fun r1=>
 some (decide (0≤r1))
def lv (x1:GIndex):Option Bool:=
 if decide (x1.From=([]:List UInt8))then
  some (decide ((x1.At.length:Int)=0))
 else
  (k8 x1.Lin).bind fun r1=>
  some r1
def jC (x1:GIndex):Option Bool:=
 (lv x1).bind fun r1=>
 some (!r1)
def mF (e1:GExpr):Option Bool:=
 if(decide (e1.Op<1))||(decide (18<e1.Op))then
  some false
 else
  if(!(decide (e1.Op=1)))&&(!((decide (e1.Val.N=0))&&(decide (e1.Val.D=0))))then
   some false
  else
   if(!((decide (e1.Op=1))||(decide (e1.Op=12))))&&(!((decide (e1.Type_.Kind=0))&&(decide (e1.Type_.Bits=0))&&(decide (e1.Type_.Frac=0))&&(decide (e1.Type_.Round=0))&&(decide (e1.Type_.Over=0))))then
    some false
   else
    (gd (!(decide (e1.Op=2))) (k8 e1.Lin)).bind fun r1=>
    if(!(decide (e1.Op=2)))&&(!r1)then
     some false
    else
     if(!(decide (e1.Op=3)))&&((!decide (e1.Name=([]:List UInt8)))||(decide (0<(e1.Idx.length:Int))))then
      some false
     else
      (be e1.Idx jC).bind fun r2=>
      some (!r2)
def kr (x1:GIndex):Option Bool:=
 (gd (!decide (x1.From=([]:List UInt8))) (gB x1.From)).bind fun r1=>
 some ((!decide (x1.From=([]:List UInt8)))&&(!r1))
def np (e1:GExpr):Option Bool:=
 (gd (decide (e1.Op=3)) (gB e1.Name)).bind fun r1=>
 if(decide (e1.Op=3))&&(!r1)then
  some false
 else
  (be e1.Idx kr).bind fun r2=>
  some (!r2)
def gZ (op1:Int) (i2:Bool):Option Int:=
 if i2 then
  some 1
 else
  if decide (op1=11)then
   some 3
  else
   some 2
def g9 (op1:Int) (i1:Bool):Option Int:=
 if i1 then
  some 0
 else
  if decide (op1=8)then
   gZ op1 (decide (op1=8))
  else
   if decide (op1=12)then
    gZ op1 (decide (op1=12))
   else
    gZ op1 (decide (op1=18))
def kW (op1:Int):Option Int:=
 if decide (op1=1)then
  g9 op1 (decide (op1=1))
 else
  if decide (op1=2)then
   g9 op1 (decide (op1=2))
  else
   g9 op1 (decide (op1=3))
def mG (x1:GIndex):Option Bool:=
 some (decide (6<(x1.At.length:Int)))
def ob (e1:GExpr):Option Bool:=
 (kW e1.Op).bind fun r1=>
 if(!decide ((e1.Args.length:Int)=r1))||(decide (6<(e1.Idx.length:Int)))then
  some false
 else
  (be e1.Idx mG).bind fun r2=>
  some (!r2)
def kN (e1:GExpr):Option Bool:=
 some ((decide (13≤e1.Op))&&(decide (e1.Op≤18)))
def fJ (op1:Int) (i1:Int):Option Bool:=
 if decide (op1=16)then
  if decide (op1=16)then
   some true
  else
   some ((decide (op1=11))&&(decide (i1=0)))
 else
  if decide (op1=17)then
   if decide (op1=17)then
    some true
   else
    some ((decide (op1=11))&&(decide (i1=0)))
  else
   if decide (op1=18)then
    some true
   else
    some ((decide (op1=11))&&(decide (i1=0)))
def fR (e1:GExpr):Nat→Int→Option Bool
 | 0,_=>none
 | fuel1+1,i1=>
  if decide (i1<(e1.Args.length:Int))then
   (lat e1.Args i1).bind fun e2=>
   (kN e2).bind fun r2=>
   (fJ e1.Op i1).bind fun r3=>
   if r2 != r3 then
    some false
   else
    (fR e1 fuel1) (ar (i1+1))
  else
   some true
def no (e1:GExpr):Option Bool:=
 (gd ((decide (e1.Op=1))||(decide (e1.Op=12))) (dH e1.Type_)).bind fun r1=>
 if((decide (e1.Op=1))||(decide (e1.Op=12)))&&(!decide (r1=0))then
  some false
 else
  fR e1 fu 0
def nW (n1:Int):Option Bool:=
 some ((decide ((-2147483647)≤n1))&&(decide (n1≤2147483647)))
def mr (t1:GType) (v1:GVal):Option Bool:=
 (dH t1).bind fun r1=>
 if !decide (r1=0)then
  some false
 else
  if decide (t1.Kind=2)then
   (k7 t1 v1).bind fun r2=>
   some r2
  else
   if decide (t1.Kind=3)then
    (gd (decide (v1.D=1)) (nW v1.N)).bind fun r3=>
    some ((decide (v1.D=1))&&r3)
   else
    (mi v1).bind fun r4=>
    some r4
def nq (e1:GExpr):Option GExpr:=
 some e1
def j4 {σ:Type} (self1:Int→σ→Option (Unit×σ)) (i1:Int) (s4:σ):Option (Unit×σ):=
 self1 (ar (i1+1)) s4
def dp {σ:Type} (e1:GIndex) (yield1:(GLin→σ→Option (Bool×σ))) (self1:Int→σ→Option (Unit×σ)) (i1:Int):Nat→Int→σ→Option (Unit×σ)
 | 0,_,_=>none
 | fuel2+1,i2,s6=>
  if decide (i2<(e1.At.length:Int))then
   (lat e1.At i2).bind fun e2=>
   (yield1 e2 s6).bind fun⟨r3,s7⟩=>
   if !r3 then
    some ((),s7)
   else
    (dp e1 yield1 self1 i1 fuel2) (ar (i2+1)) s7
  else
   j4 self1 i1 s6
def bx {σ:Type} (a1:GExpr) (yield1:(GLin→σ→Option (Bool×σ))):Nat→Int→σ→Option (Unit×σ)
 | 0,_,_=>none
 | fuel1+1,i1,s3=>
  if decide (i1<(a1.Idx.length:Int))then
   (lat a1.Idx i1).bind fun e1=>
   (yield1 e1.Lin s3).bind fun⟨r2,s5⟩=>
   if !r2 then
    some ((),s5)
   else
    dp e1 yield1 (bx a1 yield1 fuel1) i1 fu 0 s5
  else
   some ((),s3)
def ku {σ:Type} (yield1:(GLin→σ→Option (Bool×σ))) (a1:GExpr) (s1:σ):Option (Unit×σ):=
 (yield1 a1.Lin s1).bind fun⟨r1,s2⟩=>
 if !r1 then
  some ((),s2)
 else
  bx a1 yield1 fu 0 s2
def ee (y1:GLin) (v1:Int):Option (Bool×(Nat×Int)):=
 (ii y1).bind fun r7=>
 if !decide (r7=0)then
  some (false,(1,1))
 else
  some (true,(0,v1))
def kq (e1:GExpr):Option Int:=
 (mF e1).bind fun r1=>
 if !r1 then
  some 5
 else
  (np e1).bind fun r2=>
  if !r2 then
   some 7
  else
   (ob e1).bind fun r3=>
   if !r3 then
    some 11
   else
    (no e1).bind fun r4=>
    if !r4 then
     some 10
    else
     (gd (decide (e1.Op=1)) (mr e1.Type_ e1.Val)).bind fun r5=>
     if(decide (e1.Op=1))&&(!r5)then
      some 1
     else
      (nq e1).bind fun r6=>
      (ku (fun k_0 q=>if q.1=0 then ee k_0 q.2 else none) r6 (0,0)).bind fun⟨u1,o1,v2⟩=>
      if o1=0 then
       some 0
      else
       if o1=1 then
        some v2
       else
        none
def dR (y1:GExpr) (v1:Int):Option (Bool×(Nat×Int)):=
 (kq y1).bind fun r4=>
 if !decide (r4=0)then
  some (false,(1,r4))
 else
  some (true,(0,v1))
def iF (e1:GExpr):Option Int:=
 (oz e1).bind fun r1=>
 if decide (40<r1)then
  some 13
 else
  (oc e1).bind fun r2=>
  if decide (2000<r2)then
   some 2
  else
   (mR e1).bind fun r3=>
   (jD (fun k_0 q=>if q.1=0 then dR k_0 q.2 else none) r3 (0,0)).bind fun⟨u1,o1,v2⟩=>
   if o1=0 then
    some 0
   else
    if o1=1 then
     some v2
    else
     none
def eN (r1:aa):Option (bz (Unit×aa)):=
 some (.ret ((),(⟨r1.l,ar (r1.at_+1),ar (r1.deep+1)⟩:aa)))
def bO (r1:aa):Option (bz (Unit×aa)):=
 if decide (159<r1.deep)then
  pb (bM r1 r1.at_ 13) fun r2=>
  eN r1
 else
  eN r1
def cu (r1:aa):Option (bz (Unit×aa)):=
 (bZ r1 3 ([40]:List UInt8)).bind fun r2=>
 if !r2 then
  pb (bc r1) fun⟨r3,s1⟩=>
  pb (bO s1) fun⟨r4,s2⟩=>
  some (.ret ((),s2))
 else
  pb (bO r1) fun⟨r5,s3⟩=>
  some (.ret ((),s3))
def aJ (r1:aa) (s1:List UInt8):Option (bz (Unit×aa)):=
 (aw r1 s1).bind fun⟨r2,s2⟩=>
 if !r2 then
  pb (bc s2) fun⟨r3,s3⟩=>
  some (.ret ((),s3))
 else
  some (.ret ((),s2))
def dy (r1:aa):Option (bz (Unit×aa)):=
 pb (aJ r1 ([41]:List UInt8)) fun⟨r2,s1⟩=>
 some (.ret ((),(⟨s1.l,s1.at_,ar (s1.deep - 1)⟩:aa)))
def cp (l1:List (List UInt8)) (r1:aa):Nat→Int→Option (Int×aa)
 | 0,_=>none
 | fuel1+1,i1=>
  if decide (i1<(l1.length:Int))then
   (lat l1 i1).bind fun e1=>
   (bZ r1 1 e1).bind fun r2=>
   if r2 then
    some (i1,(⟨r1.l,ar (r1.at_+1),r1.deep⟩:aa))
   else
    (cp l1 r1 fuel1) (ar (i1+1))
  else
   some ((-1),r1)
def cW (r1:aa) (l1:List (List UInt8)):Option (Int×aa):=
 cp l1 r1 fu 0
def eH (r1:aa):Option (bz (Int×aa)):=
 pb (bG r1) fun⟨r2,s1⟩=>
 (iD r2 false).bind fun r3=>
 if(!r3.2)||(decide (2147483647<r3.1))then
  pb (bM s1 r1.at_ 3) fun r4=>
  some (.ret (r3.1,s1))
 else
  some (.ret (r3.1,s1))
def d4 (r4:Int) (r6:Int) (r8:Int) (r11:Int) (r1:aa) (r12:aa):Option (bz (GType×aa)):=
 pb (aJ r12 ([41]:List UInt8)) fun⟨r13,s9⟩=>
 (dH (⟨2,r4,r6,ar (r8+1),ar (r11+1)⟩:GType)).bind fun r14=>
 if !decide (r14=0)then
  pb (bM s9 r1.at_ 10) fun r15=>
  some (.ret ((⟨2,r4,r6,ar (r8+1),ar (r11+1)⟩:GType),s9))
 else
  some (.ret ((⟨2,r4,r6,ar (r8+1),ar (r11+1)⟩:GType),s9))
def d5 (r4:Int) (r6:Int) (r8:Int) (r1:aa) (r9:aa):Option (bz (GType×aa)):=
 pb (aJ r9 ([44]:List UInt8)) fun⟨r10,s7⟩=>
 (cW s7 ([([115,97,116]:List UInt8),([119,114,97,112]:List UInt8)]:List (List UInt8))).bind fun⟨r11,s8⟩=>
 if decide (ar (r11+1)=0)then
  pb (bc s8) fun⟨r16,s10⟩=>
  d4 r4 r6 r8 r11 r1 s10
 else
  d4 r4 r6 r8 r11 r1 s8
def d6 (r1:aa) (r2:aa):Option (bz (GType×aa)):=
 pb (aJ r2 ([40]:List UInt8)) fun⟨r3,s1⟩=>
 pb (eH s1) fun⟨r4,s2⟩=>
 pb (aJ s2 ([44]:List UInt8)) fun⟨r5,s3⟩=>
 pb (eH s3) fun⟨r6,s4⟩=>
 pb (aJ s4 ([44]:List UInt8)) fun⟨r7,s5⟩=>
 (cW s5 ([([102,108,111,111,114]:List UInt8),([99,101,105,108]:List UInt8),([122,101,114,111]:List UInt8),([101,118,101,110]:List UInt8)]:List (List UInt8))).bind fun⟨r8,s6⟩=>
 if decide (ar (r8+1)=0)then
  pb (bc s6) fun⟨r17,s11⟩=>
  d5 r4 r6 r8 r1 s11
 else
  d5 r4 r6 r8 r1 s6
def fC (r1:aa):Option (bz (GType×aa)):=
 (cW r1 ([([102,114,97,99]:List UInt8),([105,110,116]:List UInt8),([102,105,120]:List UInt8)]:List (List UInt8))).bind fun⟨r18,s12⟩=>
 if decide (r18=0)then
  some (.ret ((⟨1,0,0,0,0⟩:GType),s12))
 else
  if decide (r18=1)then
   some (.ret ((⟨3,0,0,0,0⟩:GType),s12))
  else
   if decide (r18=(-1))then
    pb (bc s12) fun⟨r19,s13⟩=>
    d6 r1 s13
   else
    d6 r1 s12
def dI (r6:aa) (r7:GVal×Int) (r2:GType):Option (bz (GExpr×aa)):=
 pb (aJ r6 ([41]:List UInt8)) fun⟨r8,s5⟩=>
 some (.ret ((⟨1,([]:List UInt8),r7.1,r2,(⟨0,([]:List GMono)⟩:GLin),([]:List GIndex),([]:List GExpr)⟩:GExpr),s5))
def cL (r2:GType) (s2:aa) (text2:List UInt8) (r6:aa):Option (bz (GExpr×aa)):=
 (mt r2 text2).bind fun r7=>
 if !decide (r7.2=0)then
  pb (bM r6 s2.at_ r7.2) fun r9=>
  dI r6 r7 r2
 else
  dI r6 r7 r2
def cc (r2:GType) (s2:aa) (text1:List UInt8) (r4:aa):Option (bz (GExpr×aa)):=
 pb (bG r4) fun⟨r5,s3⟩=>
 (mV text1 r5).bind fun s4=>
 (aw s3 ([47]:List UInt8)).bind fun⟨r10,s6⟩=>
 if r10 then
  pb (bG s6) fun⟨r11,s7⟩=>
  (mV ([47]:List UInt8) r11).bind fun s8=>
  (mV s4 s8).bind fun s9=>
  cL r2 s2 s9 s7
 else
  cL r2 s2 s4 s6
def ce (r1:aa):Option (bz (GExpr×aa)):=
 pb (fC r1) fun⟨r2,s1⟩=>
 pb (aJ s1 ([40]:List UInt8)) fun⟨r3,s2⟩=>
 (aw s2 ([45]:List UInt8)).bind fun⟨r12,s10⟩=>
 if r12 then
  cc r2 s2 ([45]:List UInt8) s10
 else
  cc r2 s2 ([]:List UInt8) s10
def dL (rec_:(aa→Option (bz (GExpr×aa)))) (e1:GExpr) (self1:Int→aa→GExpr→Option (bz (GExpr×aa))) (i1:Int) (r4:aa):Option (bz (GExpr×aa)):=
 pb (rec_ r4) fun⟨r5,s2⟩=>
 (mV e1.Args ([r5]:List GExpr)).bind fun zs1=>
 self1 (ar (i1+1)) s2 (⟨e1.Op,e1.Name,e1.Val,e1.Type_,e1.Lin,e1.Idx,zs1⟩:GExpr)
def bs (many1:Int) (rec_:(aa→Option (bz (GExpr×aa)))):Nat→Int→aa→GExpr→Option (bz (GExpr×aa))
 | 0,_,_,_=>none
 | fuel1+1,i1,r3,e1=>
  if decide (i1<many1)then
   if decide (0<i1)then
    pb (aJ r3 ([44]:List UInt8)) fun⟨r6,s3⟩=>
    dL rec_ e1 (bs many1 rec_ fuel1) i1 s3
   else
    dL rec_ e1 (bs many1 rec_ fuel1) i1 r3
  else
   pb (dy r3) fun⟨r7,s4⟩=>
   some (.ret (e1,s4))
def cY (rec_:(aa→Option (bz (GExpr×aa)))) (r1:aa) (op1:Int) (many1:Int):Option (bz (GExpr×aa)):=
 pb (cu r1) fun⟨r2,s1⟩=>
 bs many1 rec_ fu 0 s1 (⟨op1,([]:List UInt8),(⟨0,0⟩:GVal),(⟨0,0,0,0,0⟩:GType),(⟨0,([]:List GMono)⟩:GLin),([]:List GIndex),([]:List GExpr)⟩:GExpr)
def fi (rec_:(aa→Option (bz (GExpr×aa)))) (r1:aa):Option (bz (GExpr×aa)):=
 pb (cu r1) fun⟨r2,s1⟩=>
 pb (fC s1) fun⟨r3,s2⟩=>
 pb (aJ s2 ([44]:List UInt8)) fun⟨r4,s3⟩=>
 pb (rec_ s3) fun⟨r5,s4⟩=>
 pb (dy s4) fun⟨r6,s5⟩=>
 some (.ret ((⟨12,([]:List UInt8),(⟨0,0⟩:GVal),r3,(⟨0,([]:List GMono)⟩:GLin),([]:List GIndex),([r5]:List GExpr)⟩:GExpr),s5))
def cC:Nat→(List GLin)→aa→Option (bz (List GLin×aa))
 | 0,_,_=>none
 | fuel1+1,bg,r4=>
  (aw r4 ([44]:List UInt8)).bind fun⟨r5,s3⟩=>
  if r5 then
   pb (bH s3) fun⟨r6,s4⟩=>
   (mV bg ([r6]:List GLin)).bind fun zs1=>
   (cC fuel1) zs1 s4
  else
   pb (aJ s3 ([93]:List UInt8)) fun⟨r7,s5⟩=>
   some (.ret (bg,s5))
def fZ (r1:aa):Option (bz (List GLin×aa)):=
 (aw r1 ([93]:List UInt8)).bind fun⟨r2,s1⟩=>
 if r2 then
  some (.ret (([]:List GLin),s1))
 else
  pb (bH s1) fun⟨r3,s2⟩=>
  cC fu ([r3]:List GLin) s2
def cK (r1:aa):Option (bz (GIndex×aa)):=
 (cX r1).bind fun r2=>
 (gd (r2&&(decide (ar (r1.at_+1)<(r1.l.length:Int)))) (lat r1.l (ar (r1.at_+1)))).bind fun e1=>
 (gd ((r2&&(decide (ar (r1.at_+1)<(r1.l.length:Int))))&&(decide (e1.Kind=3))) (lat r1.l (ar (r1.at_+1)))).bind fun e2=>
 if !(((r2&&(decide (ar (r1.at_+1)<(r1.l.length:Int))))&&(decide (e1.Kind=3)))&&(decide (e2.Text=([91]:List UInt8))))then
  pb (bH r1) fun⟨r3,s1⟩=>
  some (.ret ((⟨r3,([]:List UInt8),([]:List GLin)⟩:GIndex),s1))
 else
  pb (br r1) fun⟨r4,s2⟩=>
  pb (aJ s2 ([91]:List UInt8)) fun⟨r5,s3⟩=>
  pb (fZ s3) fun⟨r6,s4⟩=>
  some (.ret ((⟨(⟨0,([]:List GMono)⟩:GLin),r4,r6⟩:GIndex),s4))
def bL:Nat→aa→GExpr→Option (bz (GExpr×aa))
 | 0,_,_=>none
 | fuel1+1,r24,e1=>
  (aw r24 ([44]:List UInt8)).bind fun⟨r25,s19⟩=>
  if r25 then
   pb (cK s19) fun⟨r26,s20⟩=>
   (mV e1.Idx ([r26]:List GIndex)).bind fun zs1=>
   (bL fuel1) s20 (⟨e1.Op,e1.Name,e1.Val,e1.Type_,e1.Lin,zs1,e1.Args⟩:GExpr)
  else
   pb (aJ s19 ([93]:List UInt8)) fun⟨r27,s21⟩=>
   some (.ret (e1,s21))
def dK (rec_:(aa→Option (bz (GExpr×aa)))) (r1:aa):Option (bz (GExpr×aa)):=
 (bZ r1 3 ([40]:List UInt8)).bind fun r2=>
 if r2 then
  pb (cu r1) fun⟨r3,s1⟩=>
  pb (rec_ s1) fun⟨r4,s2⟩=>
  pb (dy s2) fun⟨r5,s3⟩=>
  some (.ret (r4,s3))
 else
  (aw r1 ([91]:List UInt8)).bind fun⟨r6,s4⟩=>
  if r6 then
   pb (bH s4) fun⟨r7,s5⟩=>
   pb (aJ s5 ([93]:List UInt8)) fun⟨r8,s6⟩=>
   some (.ret ((⟨2,([]:List UInt8),(⟨0,0⟩:GVal),(⟨0,0,0,0,0⟩:GType),r7,([]:List GIndex),([]:List GExpr)⟩:GExpr),s6))
  else
   (bZ s4 1 ([102,114,97,99]:List UInt8)).bind fun r9=>
   if r9 then
    pb (ce s4) fun⟨r10,s7⟩=>
    some (.ret (r10,s7))
   else
    (bZ s4 1 ([105,110,116]:List UInt8)).bind fun r11=>
    if r11 then
     pb (ce s4) fun⟨r12,s8⟩=>
     some (.ret (r12,s8))
    else
     (bZ s4 1 ([102,105,120]:List UInt8)).bind fun r13=>
     if r13 then
      pb (ce s4) fun⟨r14,s9⟩=>
      some (.ret (r14,s9))
     else
      (cW s4 ([([109,105,110]:List UInt8),([109,97,120]:List UInt8),([105,102]:List UInt8),([99,97,115,116]:List UInt8)]:List (List UInt8))).bind fun⟨r15,s10⟩=>
      if decide (r15=0)then
       pb (cY rec_ s10 9 2) fun⟨r16,s11⟩=>
       some (.ret (r16,s11))
      else
       if decide (r15=1)then
        pb (cY rec_ s10 10 2) fun⟨r17,s12⟩=>
        some (.ret (r17,s12))
       else
        if decide (r15=2)then
         pb (cY rec_ s10 11 3) fun⟨r18,s13⟩=>
         some (.ret (r18,s13))
        else
         if decide (r15=3)then
          pb (fi rec_ s10) fun⟨r19,s14⟩=>
          some (.ret (r19,s14))
         else
          pb (br s10) fun⟨r20,s15⟩=>
          pb (aJ s15 ([91]:List UInt8)) fun⟨r21,s16⟩=>
          (aw s16 ([93]:List UInt8)).bind fun⟨r22,s17⟩=>
          if r22 then
           some (.ret ((⟨3,r20,(⟨0,0⟩:GVal),(⟨0,0,0,0,0⟩:GType),(⟨0,([]:List GMono)⟩:GLin),([]:List GIndex),([]:List GExpr)⟩:GExpr),s17))
          else
           pb (cK s17) fun⟨r23,s18⟩=>
           bL fu s18 (⟨3,r20,(⟨0,0⟩:GVal),(⟨0,0,0,0,0⟩:GType),(⟨0,([]:List GMono)⟩:GLin),([r23]:List GIndex),([]:List GExpr)⟩:GExpr)
def fj (rec_:(aa→Option (bz (GExpr×aa)))) (recs_:(aa→Option (bz (GExpr×aa)))) (r1:aa):Option (bz (GExpr×aa)):=
 (bZ r1 3 ([45]:List UInt8)).bind fun r2=>
 if !r2 then
  pb (dK rec_ r1) fun⟨r3,s1⟩=>
  some (.ret (r3,s1))
 else
  pb (bO r1) fun⟨r4,s2⟩=>
  pb (recs_ s2) fun⟨r5,s3⟩=>
  some (.ret ((⟨8,([]:List UInt8),(⟨0,0⟩:GVal),(⟨0,0,0,0,0⟩:GType),(⟨0,([]:List GMono)⟩:GLin),([]:List GIndex),([r5]:List GExpr)⟩:GExpr),(⟨s3.l,s3.at_,ar (s3.deep - 1)⟩:aa)))
def bP (rec_:(aa→Option (bz (GExpr×aa)))):Nat→(aa→Option (bz (GExpr×aa)))
 | 0=>fun _=>none
 | n+1=>fj rec_ (bP rec_ n)
def iu (rec_:(aa→Option (bz (GExpr×aa)))) (r1:aa):Option (bz (GExpr×aa)):=bP rec_ fu r1
def iO (e1:GExpr) (rec_:(aa→Option (bz (GExpr×aa)))) (self1:aa→GExpr→Option (bz (GExpr×aa))) (op1:Int) (r4:aa):Option (bz (GExpr×aa)):=
 if decide (op1=0)then
  some (.ret (e1,r4))
 else
  pb (iu rec_ r4) fun⟨r5,s2⟩=>
  self1 s2 (⟨op1,([]:List UInt8),(⟨0,0⟩:GVal),(⟨0,0,0,0,0⟩:GType),(⟨0,([]:List GMono)⟩:GLin),([]:List GIndex),([e1,r5]:List GExpr)⟩:GExpr)
def gi (self2:Int→Int→aa→Option (bz (GExpr×aa))) (i1:Int) (op3:Int) (r7:aa):Option (bz (GExpr×aa)):=
 self2 op3 (ar (i1+1)) r7
def bU (signs1:List (List UInt8)) (ops1:List Int) (e1:GExpr) (rec_:(aa→Option (bz (GExpr×aa)))) (self1:aa→GExpr→Option (bz (GExpr×aa))):Nat→Int→Int→aa→Option (bz (GExpr×aa))
 | 0,_,_,_=>none
 | fuel2+1,op2,i1,r6=>
  if decide (i1<(signs1.length:Int))then
   (lat signs1 i1).bind fun e2=>
   (Dd (decide (op2=0)) (aw r6 e2) (default,r6)).bind fun⟨r8,s3⟩=>
   if(decide (op2=0))&&r8 then
    (lat ops1 i1).bind fun e3=>
    gi (bU signs1 ops1 e1 rec_ self1 fuel2) i1 e3 s3
   else
    gi (bU signs1 ops1 e1 rec_ self1 fuel2) i1 op2 s3
  else
   iO e1 rec_ self1 op2 r6
def bB (signs1:List (List UInt8)) (ops1:List Int) (rec_:(aa→Option (bz (GExpr×aa)))):Nat→aa→GExpr→Option (bz (GExpr×aa))
 | 0,_,_=>none
 | fuel1+1,r3,e1=>
  bU signs1 ops1 e1 rec_ (bB signs1 ops1 rec_ fuel1) fu 0 0 r3
def hT (rec_:(aa→Option (bz (GExpr×aa)))) (r1:aa) (signs1:List (List UInt8)) (ops1:List Int):Option (bz (GExpr×aa)):=
 pb (iu rec_ r1) fun⟨r2,s1⟩=>
 bB signs1 ops1 rec_ fu s1 r2
def cP (rec_:(aa→Option (bz (GExpr×aa)))) (r1:aa):Option (bz (GExpr×aa)):=
 pb (hT rec_ r1 ([([42]:List UInt8),([47]:List UInt8)]:List (List UInt8)) ([6,7]:List Int)) fun⟨r2,s1⟩=>
 some (.ret (r2,s1))
def iP (e1:GExpr) (rec_:(aa→Option (bz (GExpr×aa)))) (self1:aa→GExpr→Option (bz (GExpr×aa))) (op1:Int) (r4:aa):Option (bz (GExpr×aa)):=
 if decide (op1=0)then
  some (.ret (e1,r4))
 else
  pb (cP rec_ r4) fun⟨r5,s2⟩=>
  self1 s2 (⟨op1,([]:List UInt8),(⟨0,0⟩:GVal),(⟨0,0,0,0,0⟩:GType),(⟨0,([]:List GMono)⟩:GLin),([]:List GIndex),([e1,r5]:List GExpr)⟩:GExpr)
def gj (self2:Int→Int→aa→Option (bz (GExpr×aa))) (i1:Int) (op3:Int) (r7:aa):Option (bz (GExpr×aa)):=
 self2 op3 (ar (i1+1)) r7
def bV (signs1:List (List UInt8)) (ops1:List Int) (e1:GExpr) (rec_:(aa→Option (bz (GExpr×aa)))) (self1:aa→GExpr→Option (bz (GExpr×aa))):Nat→Int→Int→aa→Option (bz (GExpr×aa))
 | 0,_,_,_=>none
 | fuel2+1,op2,i1,r6=>
  if decide (i1<(signs1.length:Int))then
   (lat signs1 i1).bind fun e2=>
   (Dd (decide (op2=0)) (aw r6 e2) (default,r6)).bind fun⟨r8,s3⟩=>
   if(decide (op2=0))&&r8 then
    (lat ops1 i1).bind fun e3=>
    gj (bV signs1 ops1 e1 rec_ self1 fuel2) i1 e3 s3
   else
    gj (bV signs1 ops1 e1 rec_ self1 fuel2) i1 op2 s3
  else
   iP e1 rec_ self1 op2 r6
def bC (signs1:List (List UInt8)) (ops1:List Int) (rec_:(aa→Option (bz (GExpr×aa)))):Nat→aa→GExpr→Option (bz (GExpr×aa))
 | 0,_,_=>none
 | fuel1+1,r3,e1=>
  bV signs1 ops1 e1 rec_ (bC signs1 ops1 rec_ fuel1) fu 0 0 r3
def hU (rec_:(aa→Option (bz (GExpr×aa)))) (r1:aa) (signs1:List (List UInt8)) (ops1:List Int):Option (bz (GExpr×aa)):=
 pb (cP rec_ r1) fun⟨r2,s1⟩=>
 bC signs1 ops1 rec_ fu s1 r2
def eg (rec_:(aa→Option (bz (GExpr×aa)))) (r1:aa):Option (bz (GExpr×aa)):=
 pb (hU rec_ r1 ([([43]:List UInt8),([45]:List UInt8)]:List (List UInt8)) ([4,5]:List Int)) fun⟨r2,s1⟩=>
 some (.ret (r2,s1))
def iQ (e1:GExpr) (rec_:(aa→Option (bz (GExpr×aa)))) (self1:aa→GExpr→Option (bz (GExpr×aa))) (op1:Int) (r4:aa):Option (bz (GExpr×aa)):=
 if decide (op1=0)then
  some (.ret (e1,r4))
 else
  pb (eg rec_ r4) fun⟨r5,s2⟩=>
  self1 s2 (⟨op1,([]:List UInt8),(⟨0,0⟩:GVal),(⟨0,0,0,0,0⟩:GType),(⟨0,([]:List GMono)⟩:GLin),([]:List GIndex),([e1,r5]:List GExpr)⟩:GExpr)
def gk (self2:Int→Int→aa→Option (bz (GExpr×aa))) (i1:Int) (op3:Int) (r7:aa):Option (bz (GExpr×aa)):=
 self2 op3 (ar (i1+1)) r7
def bW (signs1:List (List UInt8)) (ops1:List Int) (e1:GExpr) (rec_:(aa→Option (bz (GExpr×aa)))) (self1:aa→GExpr→Option (bz (GExpr×aa))):Nat→Int→Int→aa→Option (bz (GExpr×aa))
 | 0,_,_,_=>none
 | fuel2+1,op2,i1,r6=>
  if decide (i1<(signs1.length:Int))then
   (lat signs1 i1).bind fun e2=>
   (Dd (decide (op2=0)) (aw r6 e2) (default,r6)).bind fun⟨r8,s3⟩=>
   if(decide (op2=0))&&r8 then
    (lat ops1 i1).bind fun e3=>
    gk (bW signs1 ops1 e1 rec_ self1 fuel2) i1 e3 s3
   else
    gk (bW signs1 ops1 e1 rec_ self1 fuel2) i1 op2 s3
  else
   iQ e1 rec_ self1 op2 r6
def bD (signs1:List (List UInt8)) (ops1:List Int) (rec_:(aa→Option (bz (GExpr×aa)))):Nat→aa→GExpr→Option (bz (GExpr×aa))
 | 0,_,_=>none
 | fuel1+1,r3,e1=>
  bW signs1 ops1 e1 rec_ (bD signs1 ops1 rec_ fuel1) fu 0 0 r3
def fI (rec_:(aa→Option (bz (GExpr×aa)))) (r1:aa) (signs1:List (List UInt8)) (ops1:List Int):Option (bz (GExpr×aa)):=
 pb (eg rec_ r1) fun⟨r2,s1⟩=>
 bD signs1 ops1 rec_ fu s1 r2
def fY (rec_:(aa→Option (bz (GExpr×aa)))) (recs_:(aa→Option (bz (GExpr×aa)))) (r1:aa):Option (bz (GExpr×aa)):=
 (bZ r1 3 ([33]:List UInt8)).bind fun r2=>
 if !r2 then
  pb (fI rec_ r1 ([([60]:List UInt8),([60,61]:List UInt8),([61,61]:List UInt8)]:List (List UInt8)) ([13,14,15]:List Int)) fun⟨r3,s1⟩=>
  some (.ret (r3,s1))
 else
  pb (bO r1) fun⟨r4,s2⟩=>
  pb (recs_ s2) fun⟨r5,s3⟩=>
  some (.ret ((⟨18,([]:List UInt8),(⟨0,0⟩:GVal),(⟨0,0,0,0,0⟩:GType),(⟨0,([]:List GMono)⟩:GLin),([]:List GIndex),([r5]:List GExpr)⟩:GExpr),(⟨s3.l,s3.at_,ar (s3.deep - 1)⟩:aa)))
def cn (rec_:(aa→Option (bz (GExpr×aa)))):Nat→(aa→Option (bz (GExpr×aa)))
 | 0=>fun _=>none
 | n+1=>fY rec_ (cn rec_ n)
def jq (rec_:(aa→Option (bz (GExpr×aa)))) (r1:aa):Option (bz (GExpr×aa)):=cn rec_ fu r1
def iR (e1:GExpr) (rec_:(aa→Option (bz (GExpr×aa)))) (self1:aa→GExpr→Option (bz (GExpr×aa))) (op1:Int) (r4:aa):Option (bz (GExpr×aa)):=
 if decide (op1=0)then
  some (.ret (e1,r4))
 else
  pb (jq rec_ r4) fun⟨r5,s2⟩=>
  self1 s2 (⟨op1,([]:List UInt8),(⟨0,0⟩:GVal),(⟨0,0,0,0,0⟩:GType),(⟨0,([]:List GMono)⟩:GLin),([]:List GIndex),([e1,r5]:List GExpr)⟩:GExpr)
def gl (self2:Int→Int→aa→Option (bz (GExpr×aa))) (i1:Int) (op3:Int) (r7:aa):Option (bz (GExpr×aa)):=
 self2 op3 (ar (i1+1)) r7
def bX (signs1:List (List UInt8)) (ops1:List Int) (e1:GExpr) (rec_:(aa→Option (bz (GExpr×aa)))) (self1:aa→GExpr→Option (bz (GExpr×aa))):Nat→Int→Int→aa→Option (bz (GExpr×aa))
 | 0,_,_,_=>none
 | fuel2+1,op2,i1,r6=>
  if decide (i1<(signs1.length:Int))then
   (lat signs1 i1).bind fun e2=>
   (Dd (decide (op2=0)) (aw r6 e2) (default,r6)).bind fun⟨r8,s3⟩=>
   if(decide (op2=0))&&r8 then
    (lat ops1 i1).bind fun e3=>
    gl (bX signs1 ops1 e1 rec_ self1 fuel2) i1 e3 s3
   else
    gl (bX signs1 ops1 e1 rec_ self1 fuel2) i1 op2 s3
  else
   iR e1 rec_ self1 op2 r6
def bE (signs1:List (List UInt8)) (ops1:List Int) (rec_:(aa→Option (bz (GExpr×aa)))):Nat→aa→GExpr→Option (bz (GExpr×aa))
 | 0,_,_=>none
 | fuel1+1,r3,e1=>
  bX signs1 ops1 e1 rec_ (bE signs1 ops1 rec_ fuel1) fu 0 0 r3
def hV (rec_:(aa→Option (bz (GExpr×aa)))) (r1:aa) (signs1:List (List UInt8)) (ops1:List Int):Option (bz (GExpr×aa)):=
 pb (jq rec_ r1) fun⟨r2,s1⟩=>
 bE signs1 ops1 rec_ fu s1 r2
def eh (rec_:(aa→Option (bz (GExpr×aa)))) (r1:aa):Option (bz (GExpr×aa)):=
 pb (hV rec_ r1 ([([38]:List UInt8)]:List (List UInt8)) ([16]:List Int)) fun⟨r2,s1⟩=>
 some (.ret (r2,s1))
def jm (e1:GExpr) (rec_:(aa→Option (bz (GExpr×aa)))) (self1:aa→GExpr→Option (bz (GExpr×aa))) (op1:Int) (r4:aa):Option (bz (GExpr×aa)):=
 if decide (op1=0)then
  some (.ret (e1,r4))
 else
  pb (eh rec_ r4) fun⟨r5,s2⟩=>
  self1 s2 (⟨op1,([]:List UInt8),(⟨0,0⟩:GVal),(⟨0,0,0,0,0⟩:GType),(⟨0,([]:List GMono)⟩:GLin),([]:List GIndex),([e1,r5]:List GExpr)⟩:GExpr)
def gz (self2:Int→Int→aa→Option (bz (GExpr×aa))) (i1:Int) (op3:Int) (r7:aa):Option (bz (GExpr×aa)):=
 self2 op3 (ar (i1+1)) r7
def cg (signs1:List (List UInt8)) (ops1:List Int) (e1:GExpr) (rec_:(aa→Option (bz (GExpr×aa)))) (self1:aa→GExpr→Option (bz (GExpr×aa))):Nat→Int→Int→aa→Option (bz (GExpr×aa))
 | 0,_,_,_=>none
 | fuel2+1,op2,i1,r6=>
  if decide (i1<(signs1.length:Int))then
   (lat signs1 i1).bind fun e2=>
   (Dd (decide (op2=0)) (aw r6 e2) (default,r6)).bind fun⟨r8,s3⟩=>
   if(decide (op2=0))&&r8 then
    (lat ops1 i1).bind fun e3=>
    gz (cg signs1 ops1 e1 rec_ self1 fuel2) i1 e3 s3
   else
    gz (cg signs1 ops1 e1 rec_ self1 fuel2) i1 op2 s3
  else
   jm e1 rec_ self1 op2 r6
def bI (signs1:List (List UInt8)) (ops1:List Int) (rec_:(aa→Option (bz (GExpr×aa)))):Nat→aa→GExpr→Option (bz (GExpr×aa))
 | 0,_,_=>none
 | fuel1+1,r3,e1=>
  cg signs1 ops1 e1 rec_ (bI signs1 ops1 rec_ fuel1) fu 0 0 r3
def iv (rec_:(aa→Option (bz (GExpr×aa)))) (r1:aa) (signs1:List (List UInt8)) (ops1:List Int):Option (bz (GExpr×aa)):=
 pb (eh rec_ r1) fun⟨r2,s1⟩=>
 bI signs1 ops1 rec_ fu s1 r2
def gy (rec_:(aa→Option (bz (GExpr×aa)))) (r1:aa):Option (bz (GExpr×aa)):=
 pb (iv rec_ r1 ([([124]:List UInt8)]:List (List UInt8)) ([17]:List Int)) fun⟨r2,s1⟩=>
 some (.ret (r2,s1))
def ap:Nat→(aa→Option (bz (GExpr×aa)))
 | 0=>fun _=>none
 | n+1=>gy (ap n)
def ig (r1:aa):Option (bz (GExpr×aa)):=ap fu r1
def jO (a1:aa) (a3:GExpr):Option (bz (Unit×aa×GExpr)):=
 pb (ig a1) fun⟨r1,s1⟩=>
 some (.ret ((),s1,r1))
def jz (l1:List aS) (at1:Int):Option (GExpr×Int×Int):=
 if(decide (at1<0))||(decide ((l1.length:Int)<at1))then
  some ((⟨0,([]:List UInt8),(⟨0,0⟩:GVal),(⟨0,0,0,0,0⟩:GType),(⟨0,([]:List GMono)⟩:GLin),([]:List GIndex),([]:List GExpr)⟩:GExpr),0,1)
 else
  yq (jO (⟨l1,at1,0⟩:aa) (⟨0,([]:List UInt8),(⟨0,0⟩:GVal),(⟨0,0,0,0,0⟩:GType),(⟨0,([]:List GMono)⟩:GLin),([]:List GIndex),([]:List GExpr)⟩:GExpr)) (fun⟨r1,s1,s2⟩=>
   if !decide (0=0)then
    some ((⟨0,([]:List UInt8),(⟨0,0⟩:GVal),(⟨0,0,0,0,0⟩:GType),(⟨0,([]:List GMono)⟩:GLin),([]:List GIndex),([]:List GExpr)⟩:GExpr),0,0)
   else
    (iF s2).bind fun r2=>
    if !decide (r2=0)then
     some ((⟨0,([]:List UInt8),(⟨0,0⟩:GVal),(⟨0,0,0,0,0⟩:GType),(⟨0,([]:List GMono)⟩:GLin),([]:List GIndex),([]:List GExpr)⟩:GExpr),at1,r2)
    else
     some (s2,s1.at_,0)) fun pa1 pn1=>
   some ((⟨0,([]:List UInt8),(⟨0,0⟩:GVal),(⟨0,0,0,0,0⟩:GType),(⟨0,([]:List GMono)⟩:GLin),([]:List GIndex),([]:List GExpr)⟩:GExpr),pa1,pn1)
def jy (s1:List UInt8) (l1:List aS) (at1:Int):Option Int:=
 if decide ((l1.length:Int)≤at1)then
  some (s1.length:Int)
 else
  (lat l1 at1).bind fun e1=>
  some e1.At
def gX (s1:List UInt8) (r1:List aS×Int×Int) (r2:GExpr×Int×Int) (e1:Int):Option (GExpr×Int×Int):=
 if !decide (e1=0)then
  (jy s1 r1.1 r2.2.1).bind fun r3=>
  some ((⟨0,([]:List UInt8),(⟨0,0⟩:GVal),(⟨0,0,0,0,0⟩:GType),(⟨0,([]:List GMono)⟩:GLin),([]:List GIndex),([]:List GExpr)⟩:GExpr),r3,e1)
 else
  some (r2.1,0,0)
def eQ (s1:List UInt8):Option (GExpr×Int×Int):=
 (jh s1).bind fun r1=>
 if !decide (r1.2.2=0)then
  some ((⟨0,([]:List UInt8),(⟨0,0⟩:GVal),(⟨0,0,0,0,0⟩:GType),(⟨0,([]:List GMono)⟩:GLin),([]:List GIndex),([]:List GExpr)⟩:GExpr),r1.2.1,r1.2.2)
 else
  (jz r1.1 0).bind fun r2=>
  if(decide (r2.2.2=0))&&(decide (r2.2.1<(r1.1.length:Int)))then
   gX s1 r1 r2 5
  else
   gX s1 r1 r2 r2.2.2
def i6 (a1:GLin) (b1:GLin):Nat→Int→Option Bool
 | 0,_=>none
 | fuel1+1,i1=>
  if decide (i1<(a1.L.length:Int))then
   (lat a1.L i1).bind fun e1=>
   (lat b1.L i1).bind fun e2=>
   if !((decide (e1.Name=e2.Name))&&(decide (e1.By=e2.By)))then
    some false
   else
    (i6 a1 b1 fuel1) (ar (i1+1))
  else
   some true
def lV (a1:GLin) (b1:GLin):Option Bool:=
 if(!decide (a1.K=b1.K))||(!decide ((a1.L.length:Int)=(b1.L.length:Int)))then
  some false
 else
  i6 a1 b1 fu 0
def ki:Option Bool:=
 (jb ([50,42,105,32,45,32,51,32,43,32,105]:List UInt8)).bind fun r1=>
 (pY r1.1 0).bind fun r2=>
 (eQ ([97,91,105,93,32,43,32,98,91,93,32,42,32,91,50,93]:List UInt8)).bind fun r3=>
 (eQ ([97,91]:List UInt8)).bind fun r4=>
 (eQ ([97,91,105,93,32,43,42,32,50]:List UInt8)).bind fun r5=>
 (eQ ([102,114,97,99,40,50,47,52,41]:List UInt8)).bind fun r6=>
 if(!((!decide (r2.2.2=0))||(!decide (r2.2.1=7))))=true then
  (lV r2.1 (⟨(-3),([(⟨([105]:List UInt8),3⟩:GMono)]:List GMono)⟩:GLin)).bind fun r7=>
  if((((!decide (r2.2.2=0))||(!decide (r2.2.1=7)))||(!r7))||(!decide (r3.2.2=0)))||(!decide ((r3.1.Args.length:Int)=2))then
   some false
  else
   (gd (decide (r3.1.Op=4)) (lat r3.1.Args 0)).bind fun e1=>
   (gd ((decide (r3.1.Op=4))&&(decide (e1.Op=3))) (lat r3.1.Args 1)).bind fun e2=>
   some (((((((((decide (r3.1.Op=4))&&(decide (e1.Op=3)))&&(decide (e2.Op=6)))&&(decide (r4.2.1=2)))&&(decide (r4.2.2=6)))&&(decide (r5.2.1=6)))&&(decide (r5.2.2=5)))&&(decide (r6.2.1=5)))&&(decide (r6.2.2=5)))
 else none
def kY (p1:ac) (k1:Int) (s1:List UInt8) (kind1:Int):Option Bool:=
 (lat p1.L (ar (p1.At+k1))).bind fun e1=>
 (gd (decide (e1.Kind=kind1)) (lat p1.L (ar (p1.At+k1)))).bind fun e2=>
 some ((decide (e1.Kind=kind1))&&(decide (e2.Text=s1)))
def aL (p1:ac) (k1:Int) (s1:List UInt8):Option Bool:=
 if(!decide (p1.E=0))||(decide ((p1.L.length:Int)≤ar (p1.At+k1)))then
  some false
 else
  (sat s1 0).bind fun b2=>
  (gd (decide (97≤b2)) (sat s1 0)).bind fun b3=>
  if(decide (97≤b2))&&(decide (b3≤122))then
   kY p1 k1 s1 1
  else
   kY p1 k1 s1 3
def mj:Option (List (List UInt8)):=
 some ([([115,105,122,101]:List UInt8),([119,104,101,114,101]:List UInt8),([105,110]:List UInt8),([100,101,102]:List UInt8),([111,117,116]:List UInt8),([115,117,109]:List UInt8),([112,114,111,100]:List UInt8),([109,105,110]:List UInt8),([109,97,120]:List UInt8),([115,99,97,110]:List UInt8),([111,118,101,114]:List UInt8),([105,102]:List UInt8),([99,97,115,116]:List UInt8),([102,114,97,99]:List UInt8),([105,110,116]:List UInt8),([102,105,120]:List UInt8),([99,101,105,108]:List UInt8),([102,108,111,111,114]:List UInt8),([122,101,114,111]:List UInt8),([101,118,101,110]:List UInt8),([115,97,116]:List UInt8),([119,114,97,112]:List UInt8)]:List (List UInt8))
def ia (l1:List (List UInt8)) (s1:List UInt8):Nat→Int→Option Bool
 | 0,_=>none
 | fuel1+1,i1=>
  if decide (i1<(l1.length:Int))then
   (lat l1 i1).bind fun e1=>
   if decide (e1=s1)then
    some true
   else
    (ia l1 s1 fuel1) (ar (i1+1))
  else
   some false
def nP (l1:List (List UInt8)) (s1:List UInt8):Option Bool:=
 ia l1 s1 fu 0
def gD (s1:List UInt8):Nat→Int→Option Bool
 | 0,_=>none
 | fuel1+1,i1=>
  if decide (i1<(s1.length:Int))then
   (sat s1 i1).bind fun b1=>
   if !(((decide (97≤b1))&&(decide (b1≤122)))||((decide (0<i1))&&(((decide (48≤b1))&&(decide (b1≤57)))||(decide (b1=95)))))then
    some false
   else
    (gD s1 fuel1) (ar (i1+1))
  else
   some true
def ik (s1:List UInt8):Option Bool:=
 (gd (!((decide ((s1.length:Int)<1))||(decide (16<(s1.length:Int))))) (mj)).bind fun r1=>
 (gd (!((decide ((s1.length:Int)<1))||(decide (16<(s1.length:Int))))) (nP r1 s1)).bind fun r2=>
 if((decide ((s1.length:Int)<1))||(decide (16<(s1.length:Int))))||r2 then
  some false
 else
  gD s1 fu 0
def hO (p1:ac):Option Bool:=
 (gd ((decide (p1.E=0))&&(decide (p1.At<(p1.L.length:Int)))) (lat p1.L p1.At)).bind fun e1=>
 (gd (((decide (p1.E=0))&&(decide (p1.At<(p1.L.length:Int))))&&(decide (e1.Kind=1))) (lat p1.L p1.At)).bind fun e2=>
 (gd (((decide (p1.E=0))&&(decide (p1.At<(p1.L.length:Int))))&&(decide (e1.Kind=1))) (ik e2.Text)).bind fun r1=>
 some ((((decide (p1.E=0))&&(decide (p1.At<(p1.L.length:Int))))&&(decide (e1.Kind=1)))&&r1)
def bq (p1:ac) (at1:Int) (e1:Int):Option ac:=
 if decide (p1.E=0)then
  some (⟨p1.L,p1.At,p1.Deep,e1,at1⟩:ac)
 else
  some p1
def cz (p1:ac):Option ac:=
 if decide ((p1.L.length:Int)≤p1.At)then
  (bq p1 (p1.L.length:Int) 6).bind fun r1=>
  some r1
 else
  (bq p1 p1.At 5).bind fun r2=>
  some r2
def ey (p1:ac):Option (List UInt8×ac):=
 (hO p1).bind fun r1=>
 if !r1 then
  (cz p1).bind fun r2=>
  some (([]:List UInt8),r2)
 else
  (lat p1.L (ar ((ar (p1.At+1)) - 1))).bind fun e1=>
  some (e1.Text,(⟨p1.L,ar (p1.At+1),p1.Deep,p1.E,p1.Pos⟩:ac))
def eK (name1:List UInt8):Option GLin:=
 (ik name1).bind fun r1=>
 if !r1 then
  some (⟨0,([]:List GMono)⟩:GLin)
 else
  some (⟨0,([(⟨name1,1⟩:GMono)]:List GMono)⟩:GLin)
def jM (s1:List UInt8):Option Bool:=
 (gd ((!(decide (s1=([48]:List UInt8))))&&(decide (0<(s1.length:Int)))) (sat s1 0)).bind fun b1=>
 some ((decide (s1=([48]:List UInt8)))||((decide (0<(s1.length:Int)))&&(!decide (b1=48))))
def fz (s1:List UInt8):Nat→Int→Option Bool
 | 0,_=>none
 | fuel1+1,i1=>
  if decide (i1<(s1.length:Int))then
   (sat s1 i1).bind fun b2=>
   (gd (!(decide (b2<48))) (sat s1 i1)).bind fun b3=>
   if(decide (b2<48))||(decide (57<b3))then
    some false
   else
    (fz s1 fuel1) (ar (i1+1))
  else
   jM s1
def m6 (s1:List UInt8):Option Bool:=
 fz s1 fu 0
def dU (p1:ac):Option (List UInt8×ac):=
 (gd (!((!decide (p1.E=0))||(decide ((p1.L.length:Int)≤p1.At)))) (lat p1.L p1.At)).bind fun e1=>
 (gd (!(((!decide (p1.E=0))||(decide ((p1.L.length:Int)≤p1.At)))||(!decide (e1.Kind=2)))) (lat p1.L p1.At)).bind fun e2=>
 (gd (!(((!decide (p1.E=0))||(decide ((p1.L.length:Int)≤p1.At)))||(!decide (e1.Kind=2)))) (m6 e2.Text)).bind fun r1=>
 if(((!decide (p1.E=0))||(decide ((p1.L.length:Int)≤p1.At)))||(!decide (e1.Kind=2)))||(!r1)then
  (cz p1).bind fun r2=>
  some (([]:List UInt8),r2)
 else
  (lat p1.L (ar ((ar (p1.At+1)) - 1))).bind fun e3=>
  some (e3.Text,(⟨p1.L,ar (p1.At+1),p1.Deep,p1.E,p1.Pos⟩:ac))
def iT (a1:Int) (b1:Int):Option (Int×Bool):=
 if(decide (a1=0))||(decide (b1=0))then
  some (0,true)
 else
  if((!(((decide (a1=(-1)))&&(decide (b1=(-9223372036854775808))))||((decide (b1=(-1)))&&(decide (a1=(-9223372036854775808))))))=true→b1≠0)then
   if(((decide (a1=(-1)))&&(decide (b1=(-9223372036854775808))))||((decide (b1=(-1)))&&(decide (a1=(-9223372036854775808)))))||(!decide (ar (Int.tdiv (ar (a1 * b1)) b1)=a1))then
    some (0,false)
   else
    some (ar (a1 * b1),true)
  else none
def lU (a1:Int) (b1:Int):Option (Int×Bool):=
 if((decide (0<b1))&&(decide (ar (9223372036854775807 - b1)<a1)))||((decide (b1<0))&&(decide (a1<ar ((-9223372036854775808) - b1))))then
  some (0,false)
 else
  some (ar (a1+b1),true)
def ir (n1:Int) (self1:Int→Int→Option (Int×Bool)) (i1:Int) (d1:Int):Option (Int×Bool):=
 (iT n1 10).bind fun r1=>
 (lU r1.1 d1).bind fun r2=>
 if(!r1.2)||(!r2.2)then
  some (0,false)
 else
  self1 r2.1 (ar (i1+1))
def cB (s1:List UInt8) (negative1:Bool):Nat→Int→Int→Option (Int×Bool)
 | 0,_,_=>none
 | fuel1+1,n1,i1=>
  if decide (i1<(s1.length:Int))then
   (sat s1 i1).bind fun b1=>
   if negative1 then
    (some (ar (-(ar (E0 (b1 - 48)))))).bind fun d2=>
    ir n1 (cB s1 negative1 fuel1) i1 d2
   else
    ir n1 (cB s1 negative1 fuel1) i1 (ar (E0 (b1 - 48)))
  else
   some (n1,true)
def gw (s1:List UInt8) (negative1:Bool):Option (Int×Bool):=
 cB s1 negative1 fu 0 0
def dd (l1:GLin):Nat→Int→Option Bool
 | 0,_=>none
 | fuel1+1,i1=>
  if decide (i1<(l1.L.length:Int))then
   (lat l1.L i1).bind fun e1=>
   (ik e1.Name).bind fun r1=>
   (gd (!(!r1)) (lat l1.L i1)).bind fun e2=>
   (gd ((!((!r1)||(decide (e2.By=0))))&&(decide (0<i1))) (lat l1.L (ar (i1 - 1)))).bind fun e3=>
   (gd ((!((!r1)||(decide (e2.By=0))))&&(decide (0<i1))) (lat l1.L i1)).bind fun e4=>
   if((!r1)||(decide (e2.By=0)))||((decide (0<i1))&&(!Op.bytesLess e3.Name e4.Name))then
    some false
   else
    (dd l1 fuel1) (ar (i1+1))
  else
   some true
def gM (l1:GLin):Option Bool:=
 dd l1 fu 0
def gU (l1:GLin):Option Int:=
 (gM l1).bind fun r1=>
 if !r1 then
  some 1
 else
  some 0
def gV (a1:GLin) (by1:Int):Nat→Int→GLin→Option (GLin×Int)
 | 0,_,_=>none
 | fuel1+1,i1,bg=>
  if decide (i1<(a1.L.length:Int))then
   (lat a1.L i1).bind fun e1=>
   (iT e1.By by1).bind fun r3=>
   if !r3.2 then
    some ((⟨0,([]:List GMono)⟩:GLin),3)
   else
    (lat a1.L i1).bind fun e2=>
    (mV bg.L ([(⟨e2.Name,r3.1⟩:GMono)]:List GMono)).bind fun zs1=>
    (gV a1 by1 fuel1) (ar (i1+1)) (⟨bg.K,zs1⟩:GLin)
  else
   some (bg,0)
def gq (a1:GLin) (by1:Int):Option (GLin×Int):=
 (gU a1).bind fun r1=>
 if !decide (r1=0)then
  some ((⟨0,([]:List GMono)⟩:GLin),1)
 else
  if decide (by1=0)then
   some ((⟨0,([]:List GMono)⟩:GLin),0)
  else
   (iT a1.K by1).bind fun r2=>
   if !r2.2 then
    some ((⟨0,([]:List GMono)⟩:GLin),3)
   else
    gV a1 by1 fu 0 (⟨r2.1,([]:List GMono)⟩:GLin)
def d8:Nat→(List (List UInt8))→Int→Option (List (List UInt8))
 | 0,_,_=>none
 | fuel1+1,l2,i2=>
  (gd (decide (0<i2)) (lat l2 (ar (i2 - 1)))).bind fun e1=>
  (gd (decide (0<i2)) (lat l2 i2)).bind fun e2=>
  if(decide (0<i2))&&(!Op.bytesLess e1 e2&& !decide (e1=e2))then
   (lat l2 i2).bind fun e3=>
   (lat l2 (ar (i2 - 1))).bind fun e4=>
   if 0≤i2∧i2<(l2.length:Int)then
    if 0≤(ar (i2 - 1))∧(ar (i2 - 1))<((l2.set (Int.toNat i2) e4).length:Int)then
     (d8 fuel1) ((l2.set (Int.toNat i2) e4).set (Int.toNat (ar (i2 - 1))) e3) (ar (i2 - 1))
    else none
   else none
  else
   some (l2)
def ka (l1:List (List UInt8)) (s1:List UInt8):Option (List (List UInt8)):=
 (nP l1 s1).bind fun r1=>
 if r1 then
  some (l1)
 else
  (mV l1 ([s1]:List (List UInt8))).bind fun zs1=>
  (some (ar ((zs1.length:Int) - 1))).bind fun i1=>
  d8 fu zs1 i1
def nM (self1:(List (List UInt8))→Int→Option (List (List UInt8))) (i1:Int) (out2:List (List UInt8)):Option (List (List UInt8)):=
 self1 out2 (ar (i1+1))
def dv (l1:List GLin) (i1:Int) (self1:(List (List UInt8))→Int→Option (List (List UInt8))):Nat→(List (List UInt8))→Int→Option (List (List UInt8))
 | 0,_,_=>none
 | fuel2+1,out3,k1=>
  (lat l1 i1).bind fun e1=>
  if decide (k1<(e1.L.length:Int))then
   (lat l1 i1).bind fun e2=>
   (lat e2.L k1).bind fun e3=>
   (ka out3 e3.Name).bind fun r1=>
   (dv l1 i1 self1 fuel2) r1 (ar (k1+1))
  else
   nM self1 i1 out3
def bY (l1:List GLin):Nat→(List (List UInt8))→Int→Option (List (List UInt8))
 | 0,_,_=>none
 | fuel1+1,bg,i1=>
  if decide (i1<(l1.length:Int))then
   dv l1 i1 (bY l1 fuel1) fu bg 0
  else
   some bg
def mz (l1:List GLin):Option (List (List UInt8)):=
 bY l1 fu ([]:List (List UInt8)) 0
def fX (l1:GLin) (name1:List UInt8):Nat→Int→Option Int
 | 0,_=>none
 | fuel1+1,i1=>
  if decide (i1<(l1.L.length:Int))then
   (lat l1.L i1).bind fun e1=>
   if decide (e1.Name=name1)then
    (lat l1.L i1).bind fun e2=>
    some e2.By
   else
    (fX l1 name1 fuel1) (ar (i1+1))
  else
   some 0
def mA (l1:GLin) (name1:List UInt8):Option Int:=
 fX l1 name1 fu 0
def kb (self1:Int→GLin→Option (GLin×Int)) (i1:Int) (out2:GLin):Option (GLin×Int):=
 self1 (ar (i1+1)) out2
def dw (r4:List (List UInt8)) (a1:GLin) (b1:GLin):Nat→Int→GLin→Option (GLin×Int)
 | 0,_,_=>none
 | fuel1+1,i1,bg=>
  if decide (i1<(r4.length:Int))then
   (lat r4 i1).bind fun e1=>
   (lat r4 i1).bind fun e2=>
   (mA a1 e1).bind fun r5=>
   (mA b1 e2).bind fun r6=>
   (lU r5 r6).bind fun r7=>
   if !r7.2 then
    some ((⟨0,([]:List GMono)⟩:GLin),3)
   else
    if !decide (r7.1=0)then
     (lat r4 i1).bind fun e3=>
     (mV bg.L ([(⟨e3,r7.1⟩:GMono)]:List GMono)).bind fun zs1=>
     kb (dw r4 a1 b1 fuel1) i1 (⟨bg.K,zs1⟩:GLin)
    else
     kb (dw r4 a1 b1 fuel1) i1 bg
  else
   some (bg,0)
def mP (a1:GLin) (b1:GLin):Option (GLin×Int):=
 (gU a1).bind fun r1=>
 (gd (!(!decide (r1=0))) (gU b1)).bind fun r2=>
 if(!decide (r1=0))||(!decide (r2=0))then
  some ((⟨0,([]:List GMono)⟩:GLin),1)
 else
  (lU a1.K b1.K).bind fun r3=>
  if !r3.2 then
   some ((⟨0,([]:List GMono)⟩:GLin),3)
  else
   (mz ([a1,b1]:List GLin)).bind fun r4=>
   dw r4 a1 b1 fu 0 (⟨r3.1,([]:List GMono)⟩:GLin)
def bl (negative1:Bool) (f1:GLin) (p1:ac) (s1:List UInt8) (x1:GLin) (p2:ac):Option (GLin×ac):=
 if !decide (p2.E=0)then
  some ((⟨0,([]:List GMono)⟩:GLin),p2)
 else
  (gw s1 negative1).bind fun r1=>
  (gq x1 r1.1).bind fun r2=>
  (mP f1 r2.1).bind fun r3=>
  if(!r1.2)||(!decide (r3.2=0))then
   (bq p2 p1.At 3).bind fun r4=>
   some ((⟨0,([]:List GMono)⟩:GLin),r4)
  else
   some (r3.1,p2)
def ew (p1:ac) (f1:GLin) (negative1:Bool):Option (GLin×ac):=
 (hO p1).bind fun r5=>
 if r5 then
  (ey p1).bind fun r6=>
  (eK r6.1).bind fun r7=>
  bl negative1 f1 p1 ([49]:List UInt8) r7 r6.2
 else
  (dU p1).bind fun r8=>
  (aL r8.2 0 ([42]:List UInt8)).bind fun r9=>
  if r9 then
   (ey (⟨r8.2.L,ar (r8.2.At+1),r8.2.Deep,r8.2.E,r8.2.Pos⟩:ac)).bind fun r10=>
   (eK r10.1).bind fun r11=>
   bl negative1 f1 p1 r8.1 r11 r10.2
  else
   bl negative1 f1 p1 r8.1 (⟨1,([]:List GMono)⟩:GLin) r8.2
def dq:Nat→ac→GLin→Option (GLin×ac)
 | 0,_,_=>none
 | fuel1+1,p3,f1=>
  (aL p3 0 ([43]:List UInt8)).bind fun r3=>
  (gd (!r3) (aL p3 0 ([45]:List UInt8))).bind fun r4=>
  if r3||r4 then
   (aL p3 0 ([45]:List UInt8)).bind fun r5=>
   (ew (⟨p3.L,ar (p3.At+1),p3.Deep,p3.E,p3.Pos⟩:ac) f1 r5).bind fun r6=>
   (dq fuel1) r6.2 r6.1
  else
   some (f1,p3)
def ju (r1:Bool) (p2:ac):Option (GLin×ac):=
 (ew p2 (⟨0,([]:List GMono)⟩:GLin) r1).bind fun r2=>
 dq fu r2.2 r2.1
def fN (p1:ac):Option (GLin×ac):=
 (aL p1 0 ([45]:List UInt8)).bind fun r1=>
 if r1 then
  ju r1 (⟨p1.L,ar (p1.At+1),p1.Deep,p1.E,p1.Pos⟩:ac)
 else
  ju r1 p1
def fF (p1:ac):Option ac:=
 if(decide (p1.E=0))&&(decide (160≤p1.Deep))then
  (bq p1 p1.At 13).bind fun r1=>
  some r1
 else
  some (⟨p1.L,ar (p1.At+1),ar (p1.Deep+1),p1.E,p1.Pos⟩:ac)
def aH (p1:ac) (s1:List UInt8):Option ac:=
 (aL p1 0 s1).bind fun r1=>
 if !r1 then
  (cz p1).bind fun r2=>
  some r2
 else
  some (⟨p1.L,ar (p1.At+1),p1.Deep,p1.E,p1.Pos⟩:ac)
def gI (p1:ac):Option (Int×ac):=
 (dU p1).bind fun r1=>
 (gw r1.1 false).bind fun r2=>
 if(!r2.2)||(decide (2147483647<r2.1))then
  (bq r1.2 p1.At 3).bind fun r3=>
  some (0,r3)
 else
  some (r2.1,r1.2)
def cV (l1:List (List UInt8)) (p1:ac):Nat→Int→Option (Int×ac)
 | 0,_=>none
 | fuel1+1,i1=>
  if decide (i1<(l1.length:Int))then
   (lat l1 i1).bind fun e1=>
   (aL p1 0 e1).bind fun r1=>
   if r1 then
    some (ar (i1+1),(⟨p1.L,ar (p1.At+1),p1.Deep,p1.E,p1.Pos⟩:ac))
   else
    (cV l1 p1 fuel1) (ar (i1+1))
  else
   (cz p1).bind fun r2=>
   some (0,r2)
def ie (p1:ac) (l1:List (List UInt8)):Option (Int×ac):=
 cV l1 p1 fu 0
def lT (t1:GType):Option Bool:=
 if(decide (t1.Kind=1))||(decide (t1.Kind=3))then
  some ((((decide (t1.Bits=0))&&(decide (t1.Frac=0)))&&(decide (t1.Round=0)))&&(decide (t1.Over=0)))
 else
  some ((((((((decide (t1.Kind=2))&&(decide (2≤t1.Bits)))&&(decide (t1.Bits≤31)))&&(decide (0≤t1.Frac)))&&(decide (t1.Frac≤30)))&&(decide (1≤t1.Round)))&&(decide (t1.Round≤4)))&&((decide (t1.Over=1))||(decide (t1.Over=2))))
def iX (p1:ac):Option (GType×ac):=
 (aL p1 0 ([102,114,97,99]:List UInt8)).bind fun r1=>
 if r1 then
  some ((⟨1,0,0,0,0⟩:GType),(⟨p1.L,ar (p1.At+1),p1.Deep,p1.E,p1.Pos⟩:ac))
 else
  (aL p1 0 ([105,110,116]:List UInt8)).bind fun r2=>
  if r2 then
   some ((⟨3,0,0,0,0⟩:GType),(⟨p1.L,ar (p1.At+1),p1.Deep,p1.E,p1.Pos⟩:ac))
  else
   (aH p1 ([102,105,120]:List UInt8)).bind fun r3=>
   (aH r3 ([40]:List UInt8)).bind fun r4=>
   (gI r4).bind fun r5=>
   (aH r5.2 ([44]:List UInt8)).bind fun r6=>
   (gI r6).bind fun r7=>
   (aH r7.2 ([44]:List UInt8)).bind fun r8=>
   (ie r8 ([([102,108,111,111,114]:List UInt8),([99,101,105,108]:List UInt8),([122,101,114,111]:List UInt8),([101,118,101,110]:List UInt8)]:List (List UInt8))).bind fun r9=>
   (aH r9.2 ([44]:List UInt8)).bind fun r10=>
   (ie r10 ([([115,97,116]:List UInt8),([119,114,97,112]:List UInt8)]:List (List UInt8))).bind fun r11=>
   (aH r11.2 ([41]:List UInt8)).bind fun r12=>
   (gd (decide (r12.E=0)) (lT (⟨2,r5.1,r7.1,r9.1,r11.1⟩:GType))).bind fun r13=>
   if(decide (r12.E=0))&&(!r13)then
    (bq r12 p1.At 10).bind fun r14=>
    some ((⟨2,r5.1,r7.1,r9.1,r11.1⟩:GType),r14)
   else
    some ((⟨2,r5.1,r7.1,r9.1,r11.1⟩:GType),r12)
def iA (p1:ac) (p3:ac) (out2:GExpr):Option (GExpr×ac):=
 (aH p3 ([41]:List UInt8)).bind fun r4=>
 some (out2,(⟨r4.L,r4.At,p1.Deep,r4.E,r4.Pos⟩:ac))
def dV (rec_:(ac→Int→Option (GExpr×ac))) (out3:GExpr) (self1:Int→ac→GExpr→Option (GExpr×ac)) (i1:Int) (p5:ac):Option (GExpr×ac):=
 (rec_ p5 1).bind fun r5=>
 (mV out3.Args ([r5.1]:List GExpr)).bind fun zs1=>
 self1 (ar (i1+1)) r5.2 (⟨out3.Op,out3.Name,out3.Val,out3.Type_,out3.Lin,out3.Idx,zs1⟩:GExpr)
def bK (many1:Int) (typed1:Bool) (rec_:(ac→Int→Option (GExpr×ac))) (p1:ac):Nat→Int→ac→GExpr→Option (GExpr×ac)
 | 0,_,_,_=>none
 | fuel1+1,i1,p4,out3=>
  if decide (i1<many1)then
   if(decide (0<i1))||typed1 then
    (aH p4 ([44]:List UInt8)).bind fun r6=>
    dV rec_ out3 (bK many1 typed1 rec_ p1 fuel1) i1 r6
   else
    dV rec_ out3 (bK many1 typed1 rec_ p1 fuel1) i1 p4
  else
   iA p1 p4 out3
def dW (many1:Int) (typed1:Bool) (rec_:(ac→Int→Option (GExpr×ac))) (p1:ac) (bg:GExpr) (p2:ac):Option (GExpr×ac):=
 bK many1 typed1 rec_ p1 fu 0 p2 bg
def dO (rec_:(ac→Int→Option (GExpr×ac))) (p1:ac) (op1:Int) (many1:Int) (typed1:Bool):Option (GExpr×ac):=
 (aL p1 0 ([40]:List UInt8)).bind fun r1=>
 if !r1 then
  (cz p1).bind fun r2=>
  some ((⟨0,([]:List UInt8),(⟨0,0⟩:GVal),(⟨0,0,0,0,0⟩:GType),(⟨0,([]:List GMono)⟩:GLin),([]:List GIndex),([]:List GExpr)⟩:GExpr),r2)
 else
  (fF p1).bind fun r3=>
  if typed1 then
   (iX r3).bind fun r7=>
   dW many1 typed1 rec_ p1 (⟨op1,([]:List UInt8),(⟨0,0⟩:GVal),r7.1,(⟨0,([]:List GMono)⟩:GLin),([]:List GIndex),([]:List GExpr)⟩:GExpr) r7.2
  else
   dW many1 typed1 rec_ p1 (⟨op1,([]:List UInt8),(⟨0,0⟩:GVal),(⟨0,0,0,0,0⟩:GType),(⟨0,([]:List GMono)⟩:GLin),([]:List GIndex),([]:List GExpr)⟩:GExpr) r3
def eI (l1:List (List UInt8)) (p1:ac):Nat→Int→Option Bool
 | 0,_=>none
 | fuel1+1,i1=>
  if decide (i1<(l1.length:Int))then
   (lat l1 i1).bind fun e1=>
   (aL p1 0 e1).bind fun r1=>
   if r1 then
    some true
   else
    (eI l1 p1 fuel1) (ar (i1+1))
  else
   some false
def lE (p1:ac) (l1:List (List UInt8)):Option Bool:=
 eI l1 p1 fu 0
def gW (from1:Int) (s1:List UInt8):Option Bool:=
 (gd (decide (from1<(s1.length:Int))) (sat s1 from1)).bind fun b1=>
 some ((decide (from1<(s1.length:Int)))&&((!decide (b1=48))||(decide ((s1.length:Int)=1))))
def jd (s1:List UInt8) (from1:Int):Nat→Int→Option Bool
 | 0,_=>none
 | fuel1+1,i1=>
  if decide (i1<(s1.length:Int))then
   (sat s1 i1).bind fun b2=>
   (gd (!(decide (b2<48))) (sat s1 i1)).bind fun b3=>
   if(decide (b2<48))||(decide (57<b3))then
    some false
   else
    (jd s1 from1 fuel1) (ar (i1+1))
  else
   gW from1 s1
def fh (s1:List UInt8) (from1:Int):Option Bool:=
 jd s1 from1 fu from1
def kZ (s1:List UInt8):Option Bool:=
 (gd (decide (1<(s1.length:Int))) (sat s1 0)).bind fun b4=>
 if(decide (1<(s1.length:Int)))&&(decide (b4=45))then
  fh s1 1
 else
  fh s1 0
def ff (s1:List UInt8) (n1:Int):Option (Int×Bool):=
 (gd (decide (0<(s1.length:Int))) (sat s1 0)).bind fun b1=>
 if(decide (0<(s1.length:Int)))&&(decide (b1=45))then
  some (ar (-n1),true)
 else
  some (n1,true)
def jc (self1:Int→Int→Option (Int×Bool)) (i1:Int) (n3:Int):Option (Int×Bool):=
 self1 n3 (ar (i1+1))
def ck (s1:List UInt8):Nat→Int→Int→Option (Int×Bool)
 | 0,_,_=>none
 | fuel1+1,n2,i1=>
  if decide (i1<(s1.length:Int))then
   (sat s1 i1).bind fun b2=>
   if decide (b2=45)then
    jc (ck s1 fuel1) i1 n2
   else
    (sat s1 i1).bind fun b3=>
    (some (ar ((ar (n2 * 10))+(ar (E0 (b3 - 48)))))).bind fun n4=>
    if decide (2147483647<n4)then
     some (0,false)
    else
     jc (ck s1 fuel1) i1 n4
  else
   ff s1 n2
def hP (s1:List UInt8):Option (Int×Bool):=
 ck s1 fu 0 0
def jN (n1:Int):Option Int:=
 if decide (n1<0)then
  some (kC ((kC (ar (-(ar (n1+1)))))+1))
 else
  some (kC n1)
def ke:Nat→Int→Int→Option Int
 | 0,_,_=>none
 | fuel1+1,a2,b2=>
  if !decide (b2=0)then
   if b2≠0 then
    (ke fuel1) b2 (Int.tmod a2 b2)
   else none
  else
   some a2
def o9 (a1:Int) (b1:Int):Option Int:=
 ke fu a1 b1
def jf (up1:List UInt8) (down2:List UInt8):Option (GVal×Int):=
 (hP up1).bind fun r2=>
 (hP down2).bind fun r3=>
 if(!r2.2)||(!r3.2)then
  some ((⟨0,0⟩:GVal),3)
 else
  (jN r2.1).bind fun r4=>
  (jN r3.1).bind fun r5=>
  (o9 r4 r5).bind fun r6=>
  if !decide (r6=1)then
   some ((⟨0,0⟩:GVal),5)
  else
   some ((⟨r2.1,r3.1⟩:GVal),0)
def kh (up1:List UInt8) (down1:List UInt8):Option (GVal×Int):=
 (kZ up1).bind fun r1=>
 if !r1 then
  some ((⟨0,0⟩:GVal),5)
 else
  if decide (down1=([]:List UInt8))then
   jf up1 ([49]:List UInt8)
  else
   jf up1 down1
def je (self1:(List UInt8)→(List UInt8)→Int→Option (GVal×Int)) (i1:Int) (up3:List UInt8) (down4:List UInt8):Option (GVal×Int):=
 self1 up3 down4 (ar (i1+1))
def dx (s1:List UInt8):Nat→(List UInt8)→(List UInt8)→Int→Option (GVal×Int)
 | 0,_,_,_=>none
 | fuel1+1,up2,down3,i1=>
  if(decide (i1<(s1.length:Int)))&&(decide (down3=([]:List UInt8)))then
   (sat s1 i1).bind fun b2=>
   if decide (b2=47)then
    (ox s1 i1).bind fun s2=>
    (i7 s1 (ar (i1+1))).bind fun s3=>
    (kZ s3).bind fun r7=>
    (gd (!(!r7)) (sat s3 0)).bind fun b3=>
    if(((!r7)||(decide (b3=45)))||(decide (s3=([48]:List UInt8))))||(decide (s3=([49]:List UInt8)))then
     some ((⟨0,0⟩:GVal),5)
    else
     je (dx s1 fuel1) i1 s2 s3
   else
    je (dx s1 fuel1) i1 up2 down3
  else
   kh up2 down3
def mC (s1:List UInt8):Option (GVal×Int):=
 dx s1 fu s1 ([]:List UInt8) 0
def mc (t1:GType):Option Int:=
 if 0≤(kC t1.Frac)then
  some (ar (1 * 2 ^ (min (Int.toNat (kC t1.Frac)) 64)))
 else none
def k9:Nat→Int→Int→Option Int
 | 0,_,_=>none
 | fuel1+1,a2,b2=>
  if !decide (b2=0)then
   if b2≠0 then
    (k9 fuel1) b2 (Int.tmod a2 b2)
   else none
  else
   some a2
def p8 (a1:Int) (b1:Int):Option Int:=
 k9 fu a1 b1
def nO (t1:GType) (v1:GVal):Option Bool:=
 if decide (t1.Kind=2)then
  if 0≤(ar (t1.Bits - 1))then
   (some (ar (1 * 2 ^ (min (Int.toNat (ar (t1.Bits - 1))) 64)))).bind fun half1=>
   some (((decide (v1.D=1))&&(decide (ar (-half1)≤v1.N)))&&(decide (v1.N<half1)))
  else none
 else
  if(((decide (2147483647<v1.N))||(decide (v1.N<(-2147483647))))||(decide (v1.D<1)))||(decide (2147483647<v1.D))then
   some false
  else
   if decide (t1.Kind=3)then
    some (decide (v1.D=1))
   else
    (p8 (max v1.N (ar (-v1.N))) v1.D).bind fun r1=>
    some (decide (r1=1))
def mB (t1:GType) (s1:List UInt8):Option (GVal×Int):=
 (lT t1).bind fun r1=>
 if !r1 then
  some ((⟨0,0⟩:GVal),10)
 else
  (mC s1).bind fun r2=>
  if(!decide (r2.2=0))||(decide (t1.Kind=1))then
   some (r2.1,r2.2)
  else
   if decide (t1.Kind=3)then
    if !decide (r2.1.D=1)then
     some ((⟨0,0⟩:GVal),5)
    else
     some (r2.1,0)
   else
    (mc t1).bind fun r3=>
    if r2.1.D≠0 then
     if !decide (Int.tmod r3 r2.1.D=0)then
      some ((⟨0,0⟩:GVal),5)
     else
      (mc t1).bind fun r4=>
      (nO t1 (⟨ar (r2.1.N * (ar (Int.tdiv r4 r2.1.D))),1⟩:GVal)).bind fun r5=>
      if !r5 then
       some ((⟨0,0⟩:GVal),3)
      else
       some ((⟨ar (r2.1.N * (ar (Int.tdiv r4 r2.1.D))),1⟩:GVal),0)
    else none
def cM (t1:GType) (p1:ac) (s3:List UInt8) (p3:ac):Option (GVal×ac):=
 if !decide (p3.E=0)then
  some ((⟨0,0⟩:GVal),p3)
 else
  (mB t1 s3).bind fun r2=>
  if !decide (r2.2=0)then
   (bq p3 p1.At r2.2).bind fun r3=>
   some ((⟨0,0⟩:GVal),r3)
  else
   some (r2.1,p3)
def d7 (t1:GType) (p1:ac) (s1:List UInt8) (p2:ac):Option (GVal×ac):=
 (dU p2).bind fun r1=>
 (mV s1 r1.1).bind fun s2=>
 (aL r1.2 0 ([47]:List UInt8)).bind fun r4=>
 if r4 then
  (dU (⟨r1.2.L,ar (r1.2.At+1),r1.2.Deep,r1.2.E,r1.2.Pos⟩:ac)).bind fun r5=>
  (mV ([47]:List UInt8) r5.1).bind fun s4=>
  (mV s2 s4).bind fun s5=>
  cM t1 p1 s5 r5.2
 else
  cM t1 p1 s2 r1.2
def fW (p1:ac) (t1:GType):Option (GVal×ac):=
 (aL p1 0 ([45]:List UInt8)).bind fun r6=>
 if r6 then
  d7 t1 p1 ([45]:List UInt8) (⟨p1.L,ar (p1.At+1),p1.Deep,p1.E,p1.Pos⟩:ac)
 else
  d7 t1 p1 ([]:List UInt8) p1
def eZ:Nat→(List GLin)→ac→GLin→Option (List GLin×ac)
 | 0,_,_,_=>none
 | fuel1+1,bg,p2,f1=>
  (aL p2 0 ([44]:List UInt8)).bind fun r3=>
  if r3 then
   (fN (⟨p2.L,ar (p2.At+1),p2.Deep,p2.E,p2.Pos⟩:ac)).bind fun r4=>
   (mV bg ([r4.1]:List GLin)).bind fun zs2=>
   (eZ fuel1) zs2 r4.2 r4.1
  else
   (aH p2 ([93]:List UInt8)).bind fun r5=>
   some (bg,r5)
def jW (p1:ac):Option (List GLin×ac):=
 (aL p1 0 ([93]:List UInt8)).bind fun r1=>
 if r1 then
  some (([]:List GLin),(⟨p1.L,ar (p1.At+1),p1.Deep,p1.E,p1.Pos⟩:ac))
 else
  (fN p1).bind fun r2=>
  (mV ([]:List GLin) ([r2.1]:List GLin)).bind fun zs1=>
  eZ fu zs1 r2.2 r2.1
def gp (p1:ac):Option (GIndex×ac):=
 (hO p1).bind fun r1=>
 (gd r1 (aL p1 1 ([91]:List UInt8))).bind fun r2=>
 if r1&&r2 then
  (ey p1).bind fun r3=>
  (aH r3.2 ([91]:List UInt8)).bind fun r4=>
  (jW r4).bind fun r5=>
  some ((⟨(⟨0,([]:List GMono)⟩:GLin),r3.1,r5.1⟩:GIndex),r5.2)
 else
  (fN p1).bind fun r6=>
  some ((⟨r6.1,([]:List UInt8),([]:List GLin)⟩:GIndex),r6.2)
def kT (x1:GIndex) (bg:GExpr) (p2:ac):Option (GExpr×ac):=
 (aH p2 ([93]:List UInt8)).bind fun r5=>
 some (bg,r5)
def eO:Nat→ac→GExpr→GIndex→Option (GExpr×ac)
 | 0,_,_,_=>none
 | fuel1+1,p3,out2,x2=>
  (aL p3 0 ([44]:List UInt8)).bind fun r6=>
  if r6 then
   (gp (⟨p3.L,ar (p3.At+1),p3.Deep,p3.E,p3.Pos⟩:ac)).bind fun r7=>
   (mV out2.Idx ([r7.1]:List GIndex)).bind fun zs2=>
   (eO fuel1) r7.2 (⟨out2.Op,out2.Name,out2.Val,out2.Type_,out2.Lin,zs2,out2.Args⟩:GExpr) r7.1
  else
   kT x2 out2 p3
def iN (p1:ac):Option (GExpr×ac):=
 (ey p1).bind fun r1=>
 (aH r1.2 ([91]:List UInt8)).bind fun r2=>
 (aL r2 0 ([93]:List UInt8)).bind fun r3=>
 if r3 then
  some ((⟨3,r1.1,(⟨0,0⟩:GVal),(⟨0,0,0,0,0⟩:GType),(⟨0,([]:List GMono)⟩:GLin),([]:List GIndex),([]:List GExpr)⟩:GExpr),(⟨r2.L,ar (r2.At+1),r2.Deep,r2.E,r2.Pos⟩:ac))
 else
  (gp r2).bind fun r4=>
  (mV ([]:List GIndex) ([r4.1]:List GIndex)).bind fun zs1=>
  eO fu r4.2 (⟨3,r1.1,(⟨0,0⟩:GVal),(⟨0,0,0,0,0⟩:GType),(⟨0,([]:List GMono)⟩:GLin),zs1,([]:List GExpr)⟩:GExpr) r4.1
def fM (rec_:(ac→Int→Option (GExpr×ac))) (p1:ac):Option (GExpr×ac):=
 (aL p1 0 ([40]:List UInt8)).bind fun r1=>
 if r1 then
  (dO rec_ p1 4 1 false).bind fun r2=>
  if !decide (r2.2.E=0)then
   some ((⟨0,([]:List UInt8),(⟨0,0⟩:GVal),(⟨0,0,0,0,0⟩:GType),(⟨0,([]:List GMono)⟩:GLin),([]:List GIndex),([]:List GExpr)⟩:GExpr),r2.2)
  else
   (lat r2.1.Args 0).bind fun e1=>
   some (e1,r2.2)
 else
  (aL p1 0 ([91]:List UInt8)).bind fun r3=>
  if r3 then
   (fN (⟨p1.L,ar (p1.At+1),p1.Deep,p1.E,p1.Pos⟩:ac)).bind fun r4=>
   (aH r4.2 ([93]:List UInt8)).bind fun r5=>
   some ((⟨2,([]:List UInt8),(⟨0,0⟩:GVal),(⟨0,0,0,0,0⟩:GType),r4.1,([]:List GIndex),([]:List GExpr)⟩:GExpr),r5)
  else
   (lE p1 ([([102,114,97,99]:List UInt8),([105,110,116]:List UInt8),([102,105,120]:List UInt8)]:List (List UInt8))).bind fun r6=>
   if r6 then
    (iX p1).bind fun r7=>
    (aH r7.2 ([40]:List UInt8)).bind fun r8=>
    (fW r8 r7.1).bind fun r9=>
    (aH r9.2 ([41]:List UInt8)).bind fun r10=>
    some ((⟨1,([]:List UInt8),r9.1,r7.1,(⟨0,([]:List GMono)⟩:GLin),([]:List GIndex),([]:List GExpr)⟩:GExpr),r10)
   else
    (lE p1 ([([109,105,110]:List UInt8),([109,97,120]:List UInt8),([105,102]:List UInt8),([99,97,115,116]:List UInt8)]:List (List UInt8))).bind fun r11=>
    if r11 then
     (ie p1 ([([109,105,110]:List UInt8),([109,97,120]:List UInt8),([105,102]:List UInt8),([99,97,115,116]:List UInt8)]:List (List UInt8))).bind fun r12=>
     if decide (r12.1=1)then
      (dO rec_ r12.2 9 2 false).bind fun r13=>
      some (r13.1,r13.2)
     else
      if decide (r12.1=2)then
       (dO rec_ r12.2 10 2 false).bind fun r14=>
       some (r14.1,r14.2)
      else
       if decide (r12.1=3)then
        (dO rec_ r12.2 11 3 false).bind fun r15=>
        some (r15.1,r15.2)
       else
        (dO rec_ r12.2 12 1 true).bind fun r16=>
        some (r16.1,r16.2)
    else
     (iN p1).bind fun r17=>
     some (r17.1,r17.2)
def dZ (p1:ac) (n1:Int):Option Int:=
 (gd (decide (n1=1)) (aL p1 0 ([124]:List UInt8))).bind fun r1=>
 if(decide (n1=1))&&r1 then
  some 17
 else
  (gd (decide (n1=2)) (aL p1 0 ([38]:List UInt8))).bind fun r2=>
  if(decide (n1=2))&&r2 then
   some 16
  else
   (gd (decide (n1=4)) (aL p1 0 ([60]:List UInt8))).bind fun r3=>
   if(decide (n1=4))&&r3 then
    some 13
   else
    (gd (decide (n1=4)) (aL p1 0 ([60,61]:List UInt8))).bind fun r4=>
    if(decide (n1=4))&&r4 then
     some 14
    else
     (gd (decide (n1=4)) (aL p1 0 ([61,61]:List UInt8))).bind fun r5=>
     if(decide (n1=4))&&r5 then
      some 15
     else
      (gd (decide (n1=5)) (aL p1 0 ([43]:List UInt8))).bind fun r6=>
      if(decide (n1=5))&&r6 then
       some 4
      else
       (gd (decide (n1=5)) (aL p1 0 ([45]:List UInt8))).bind fun r7=>
       if(decide (n1=5))&&r7 then
        some 5
       else
        (gd (decide (n1=6)) (aL p1 0 ([42]:List UInt8))).bind fun r8=>
        if(decide (n1=6))&&r8 then
         some 6
        else
         (gd (decide (n1=6)) (aL p1 0 ([47]:List UInt8))).bind fun r9=>
         if(decide (n1=6))&&r9 then
          some 7
         else
          some 0
def ja (p1:ac) (rec_:(ac→Int→Option (GExpr×ac))) (n1:Int) (bg:GExpr):Option (GExpr×ac):=
 (fF p1).bind fun r3=>
 (rec_ r3 n1).bind fun r4=>
 some ((⟨bg.Op,bg.Name,bg.Val,bg.Type_,bg.Lin,bg.Idx,([r4.1]:List GExpr)⟩:GExpr),(⟨r4.2.L,r4.2.At,p1.Deep,r4.2.E,r4.2.Pos⟩:ac))
def bp (n1:Int) (rec_:(ac→Int→Option (GExpr×ac))):Nat→GExpr→ac→Option (GExpr×ac)
 | 0,_,_=>none
 | fuel1+1,x1,q1=>
  (dZ q1 n1).bind fun r7=>
  if !decide (r7=0)then
   (dZ q1 n1).bind fun r8=>
   (rec_ (⟨q1.L,ar (q1.At+1),q1.Deep,q1.E,q1.Pos⟩:ac) (ar (n1+1))).bind fun r9=>
   (bp n1 rec_ fuel1) (⟨r8,([]:List UInt8),(⟨0,0⟩:GVal),(⟨0,0,0,0,0⟩:GType),(⟨0,([]:List GMono)⟩:GLin),([]:List GIndex),([x1,r9.1]:List GExpr)⟩:GExpr) r9.2
  else
   some (x1,q1)
def bm (rec_:(ac→Int→Option (GExpr×ac))) (p1:ac) (n1:Int):Option (GExpr×ac):=
 (gd (decide (n1=3)) (aL p1 0 ([33]:List UInt8))).bind fun r1=>
 (gd ((!((decide (n1=3))&&r1))&&(decide (n1=7))) (aL p1 0 ([45]:List UInt8))).bind fun r2=>
 if((decide (n1=3))&&r1)||((decide (n1=7))&&r2)then
  if decide (n1=7)then
   ja p1 rec_ n1 (⟨8,([]:List UInt8),(⟨0,0⟩:GVal),(⟨0,0,0,0,0⟩:GType),(⟨0,([]:List GMono)⟩:GLin),([]:List GIndex),([]:List GExpr)⟩:GExpr)
  else
   ja p1 rec_ n1 (⟨18,([]:List UInt8),(⟨0,0⟩:GVal),(⟨0,0,0,0,0⟩:GType),(⟨0,([]:List GMono)⟩:GLin),([]:List GIndex),([]:List GExpr)⟩:GExpr)
 else
  if decide (n1=7)then
   (fM rec_ p1).bind fun r5=>
   some (r5.1,r5.2)
  else
   (rec_ p1 (ar (n1+1))).bind fun r6=>
   bp n1 rec_ fu r6.1 r6.2
def aD:Nat→(ac→Int→Option (GExpr×ac))
 | 0=>fun _ _=>none
 | n+1=>bm (aD n)
def nX (p1:ac) (n1:Int):Option (GExpr×ac):=aD fu p1 n1
def fe (e1:GExpr) (most1:Int) (rec_:(GExpr→Int→Option Int)):Nat→Int→Int→Option Int
 | 0,_,_=>none
 | fuel1+1,d1,i1=>
  if(decide (i1<(e1.Args.length:Int)))&&(decide (1<most1))then
   (lat e1.Args i1).bind fun e2=>
   (rec_ e2 (ar (most1 - 1))).bind fun r1=>
   (fe e1 most1 rec_ fuel1) (max d1 (ar (1+r1))) (ar (i1+1))
  else
   some d1
def kU (rec_:(GExpr→Int→Option Int)) (e1:GExpr) (most1:Int):Option Int:=
 fe e1 most1 rec_ fu 1 0
def jv:Nat→(GExpr→Int→Option Int)
 | 0=>fun _ _=>none
 | n+1=>kU (jv n)
def pk (e1:GExpr) (most1:Int):Option Int:=jv fu e1 most1
def nY (e1:GExpr):Option Int:=
 (pk e1 41).bind fun r1=>
 some r1
def dr (e1:GExpr) (most1:Int) (rec_:(GExpr→Int→Option Int)):Nat→Int→Int→Option Int
 | 0,_,_=>none
 | fuel1+1,n1,i1=>
  if(decide (i1<(e1.Args.length:Int)))&&(decide (n1≤most1))then
   (lat e1.Args i1).bind fun e2=>
   (rec_ e2 (ar (most1 - n1))).bind fun r1=>
   (dr e1 most1 rec_ fuel1) (ar (n1+r1)) (ar (i1+1))
  else
   some n1
def lG (rec_:(GExpr→Int→Option Int)) (e1:GExpr) (most1:Int):Option Int:=
 dr e1 most1 rec_ fu 1 0
def fG:Nat→(GExpr→Int→Option Int)
 | 0=>fun _ _=>none
 | n+1=>lG (fG n)
def pW (e1:GExpr) (most1:Int):Option Int:=fG fu e1 most1
def m9 (e1:GExpr):Option Int:=
 (pW e1 2000).bind fun r1=>
 some (min r1 2001)
def fb (e1:GExpr):Nat→Int→Option Bool
 | 0,_=>none
 | fuel1+1,i1=>
  if decide (i1<(e1.Idx.length:Int))then
   (lat e1.Idx i1).bind fun e2=>
   if((decide (e2.From=([]:List UInt8)))&&(decide (0<(e2.At.length:Int))))||((!decide (e2.From=([]:List UInt8)))&&((!decide (e2.Lin.K=0))||(decide (0<(e2.Lin.L.length:Int)))))then
    some false
   else
    (fb e1 fuel1) (ar (i1+1))
  else
   some true
def mx (e1:GExpr):Option Bool:=
 if(decide (e1.Op<1))||(decide (18<e1.Op))then
  some false
 else
  if((!decide (e1.Op=1))&&(!((decide (e1.Val.N=0))&&(decide (e1.Val.D=0)))))||(((!decide (e1.Op=1))&&(!decide (e1.Op=12)))&&(!((decide (e1.Type_.Kind=0))&&(decide (e1.Type_.Bits=0))&&(decide (e1.Type_.Frac=0))&&(decide (e1.Type_.Round=0))&&(decide (e1.Type_.Over=0)))))then
   some false
  else
   if((!decide (e1.Op=2))&&((!decide (e1.Lin.K=0))||(decide (0<(e1.Lin.L.length:Int)))))||((!decide (e1.Op=3))&&((!decide (e1.Name=([]:List UInt8)))||(decide (0<(e1.Idx.length:Int)))))then
    some false
   else
    fb e1 fu 0
def fc (e1:GExpr):Nat→Int→Option Bool
 | 0,_=>none
 | fuel1+1,i1=>
  if decide (i1<(e1.Idx.length:Int))then
   (lat e1.Idx i1).bind fun e2=>
   (gd (!decide (e2.From=([]:List UInt8))) (lat e1.Idx i1)).bind fun e3=>
   (gd (!decide (e2.From=([]:List UInt8))) (ik e3.From)).bind fun r2=>
   if(!decide (e2.From=([]:List UInt8)))&&(!r2)then
    some false
   else
    (fc e1 fuel1) (ar (i1+1))
  else
   some true
def my (e1:GExpr):Option Bool:=
 (gd (decide (e1.Op=3)) (ik e1.Name)).bind fun r1=>
 if(decide (e1.Op=3))&&(!r1)then
  some false
 else
  fc e1 fu 0
def jw (op1:Int) (i2:Bool):Option Int:=
 if i2 then
  some 1
 else
  if decide (op1=11)then
   some 3
  else
   some 2
def jx (op1:Int) (i1:Bool):Option Int:=
 if i1 then
  some 0
 else
  if decide (op1=8)then
   jw op1 (decide (op1=8))
  else
   if decide (op1=12)then
    jw op1 (decide (op1=12))
   else
    jw op1 (decide (op1=18))
def m8 (op1:Int):Option Int:=
 if decide (op1=1)then
  jx op1 (decide (op1=1))
 else
  if decide (op1=2)then
   jx op1 (decide (op1=2))
  else
   jx op1 (decide (op1=3))
def ez (e1:GExpr):Nat→Int→Option Bool
 | 0,_=>none
 | fuel1+1,i1=>
  if decide (i1<(e1.Idx.length:Int))then
   (lat e1.Idx i1).bind fun e2=>
   if decide (6<(e2.At.length:Int))then
    some false
   else
    (ez e1 fuel1) (ar (i1+1))
  else
   some true
def lH (e1:GExpr):Option Bool:=
 (m8 e1.Op).bind fun r1=>
 if(!decide ((e1.Args.length:Int)=r1))||(decide (6<(e1.Idx.length:Int)))then
  some false
 else
  ez e1 fu 0
def j1 (e1:GExpr):Option Bool:=
 some ((decide (13≤e1.Op))&&(decide (e1.Op≤18)))
def mv (op1:Int) (at1:Int):Option Bool:=
 some (((((decide (op1=11))&&(decide (at1=0)))||(decide (op1=16)))||(decide (op1=17)))||(decide (op1=18)))
def fa (e1:GExpr):Nat→Int→Option Bool
 | 0,_=>none
 | fuel1+1,i1=>
  if decide (i1<(e1.Args.length:Int))then
   (lat e1.Args i1).bind fun e2=>
   (j1 e2).bind fun r2=>
   (mv e1.Op i1).bind fun r3=>
   if r2 != r3 then
    some false
   else
    (fa e1 fuel1) (ar (i1+1))
  else
   some true
def mw (e1:GExpr):Option Bool:=
 (gd ((decide (e1.Op=1))||(decide (e1.Op=12))) (lT e1.Type_)).bind fun r1=>
 if((decide (e1.Op=1))||(decide (e1.Op=12)))&&(!r1)then
  some false
 else
  fa e1 fu 0
def lu (self1:Int→Option Bool) (i1:Int):Option Bool:=
 self1 (ar (i1+1))
def eB (e1:GExpr) (i1:Int) (self1:Int→Option Bool):Nat→Int→Option Bool
 | 0,_=>none
 | fuel2+1,k1=>
  (lat e1.Idx i1).bind fun e3=>
  if decide (k1<(e3.At.length:Int))then
   (lat e1.Idx i1).bind fun e4=>
   (lat e4.At k1).bind fun e5=>
   (gM e5).bind fun r4=>
   if !r4 then
    some false
   else
    (eB e1 i1 self1 fuel2) (ar (k1+1))
  else
   lu self1 i1
def bT (e1:GExpr):Nat→Int→Option Bool
 | 0,_=>none
 | fuel1+1,i1=>
  if decide (i1<(e1.Idx.length:Int))then
   (lat e1.Idx i1).bind fun e2=>
   (gM e2.Lin).bind fun r3=>
   if !r3 then
    some false
   else
    eB e1 i1 (bT e1 fuel1) fu 0
  else
   some true
def lJ (e1:GExpr):Option Bool:=
 (gd (decide (e1.Op=1)) (nO e1.Type_ e1.Val)).bind fun r1=>
 (gd (!((decide (e1.Op=1))&&(!r1))) (gM e1.Lin)).bind fun r2=>
 if((decide (e1.Op=1))&&(!r1))||(!r2)then
  some false
 else
  bT e1 fu 0
def gJ (e1:GExpr) (rec_:(GExpr→Option Int)):Nat→Int→Option Int
 | 0,_=>none
 | fuel1+1,i1=>
  if decide (i1<(e1.Args.length:Int))then
   (lat e1.Args i1).bind fun e2=>
   (rec_ e2).bind fun r6=>
   if !decide (r6=0)then
    some r6
   else
    (gJ e1 rec_ fuel1) (ar (i1+1))
  else
   some 0
def lI (rec_:(GExpr→Option Int)) (e1:GExpr):Option Int:=
 (mx e1).bind fun r1=>
 if !r1 then
  some 5
 else
  (my e1).bind fun r2=>
  if !r2 then
   some 7
  else
   (lH e1).bind fun r3=>
   if !r3 then
    some 11
   else
    (mw e1).bind fun r4=>
    if !r4 then
     some 10
    else
     (lJ e1).bind fun r5=>
     if !r5 then
      some 1
     else
      gJ e1 rec_ fu 0
def j8:Nat→(GExpr→Option Int)
 | 0=>fun _=>none
 | n+1=>lI (j8 n)
def pX (e1:GExpr):Option Int:=j8 fu e1
def j9 (e1:GExpr):Option Int:=
 (nY e1).bind fun r1=>
 if decide (40<r1)then
  some 13
 else
  (m9 e1).bind fun r2=>
  if decide (2000<r2)then
   some 2
  else
   (pX e1).bind fun r3=>
   some r3
def eJ (p1:ac):Option (GExpr×ac):=
 (nX p1 1).bind fun r1=>
 if decide (r1.2.E=0)then
  (j9 r1.1).bind fun r2=>
  if !decide (r2=0)then
   (bq r1.2 p1.At r2).bind fun r3=>
   some (r1.1,r3)
  else
   some (r1.1,r1.2)
 else
  some (r1.1,r1.2)
def il (a1:List GLin) (b1:List GLin):Nat→Int→Option Bool
 | 0,_=>none
 | fuel1+1,i1=>
  if decide (i1<(a1.length:Int))then
   (lat a1 i1).bind fun e1=>
   (lat b1 i1).bind fun e2=>
   (lV e1 e2).bind fun r1=>
   if !r1 then
    some false
   else
    (il a1 b1 fuel1) (ar (i1+1))
  else
   some true
def od (a1:List GLin) (b1:List GLin):Option Bool:=
 if !decide ((a1.length:Int)=(b1.length:Int))then
  some false
 else
  il a1 b1 fu 0
def nr (a1:GIndex) (b1:GIndex):Option Bool:=
 (gd (decide (a1.From=b1.From)) (lV a1.Lin b1.Lin)).bind fun r1=>
 (gd ((decide (a1.From=b1.From))&&r1) (od a1.At b1.At)).bind fun r2=>
 some (((decide (a1.From=b1.From))&&r1)&&r2)
def fB (a1:List GIndex) (b1:List GIndex):Nat→Int→Option Bool
 | 0,_=>none
 | fuel1+1,i1=>
  if decide (i1<(a1.length:Int))then
   (lat a1 i1).bind fun e1=>
   (lat b1 i1).bind fun e2=>
   (nr e1 e2).bind fun r1=>
   if !r1 then
    some false
   else
    (fB a1 b1 fuel1) (ar (i1+1))
  else
   some true
def lW (a1:List GIndex) (b1:List GIndex):Option Bool:=
 if !decide ((a1.length:Int)=(b1.length:Int))then
  some false
 else
  fB a1 b1 fu 0
def gN (a1:List GExpr) (b1:List GExpr) (rec_:(GExpr→GExpr→Option Bool)):Nat→Int→Option Bool
 | 0,_=>none
 | fuel1+1,i1=>
  if decide (i1<(a1.length:Int))then
   (lat a1 i1).bind fun e1=>
   (lat b1 i1).bind fun e2=>
   (rec_ e1 e2).bind fun r1=>
   if !r1 then
    some false
   else
    (gN a1 b1 rec_ fuel1) (ar (i1+1))
  else
   some true
def nt (rec_:(GExpr→GExpr→Option Bool)) (a1:List GExpr) (b1:List GExpr):Option Bool:=
 if !decide ((a1.length:Int)=(b1.length:Int))then
  some false
 else
  gN a1 b1 rec_ fu 0
def mH (rec_:(GExpr→GExpr→Option Bool)) (a1:GExpr) (b1:GExpr):Option Bool:=
 (gd ((((decide (a1.Op=b1.Op))&&(decide (a1.Name=b1.Name)))&&((decide (a1.Val.N=b1.Val.N))&&(decide (a1.Val.D=b1.Val.D))))&&((decide (a1.Type_.Kind=b1.Type_.Kind))&&(decide (a1.Type_.Bits=b1.Type_.Bits))&&(decide (a1.Type_.Frac=b1.Type_.Frac))&&(decide (a1.Type_.Round=b1.Type_.Round))&&(decide (a1.Type_.Over=b1.Type_.Over)))) (lV a1.Lin b1.Lin)).bind fun r1=>
 (gd (((((decide (a1.Op=b1.Op))&&(decide (a1.Name=b1.Name)))&&((decide (a1.Val.N=b1.Val.N))&&(decide (a1.Val.D=b1.Val.D))))&&((decide (a1.Type_.Kind=b1.Type_.Kind))&&(decide (a1.Type_.Bits=b1.Type_.Bits))&&(decide (a1.Type_.Frac=b1.Type_.Frac))&&(decide (a1.Type_.Round=b1.Type_.Round))&&(decide (a1.Type_.Over=b1.Type_.Over))))&&r1) (lW a1.Idx b1.Idx)).bind fun r2=>
 (gd ((((((decide (a1.Op=b1.Op))&&(decide (a1.Name=b1.Name)))&&((decide (a1.Val.N=b1.Val.N))&&(decide (a1.Val.D=b1.Val.D))))&&((decide (a1.Type_.Kind=b1.Type_.Kind))&&(decide (a1.Type_.Bits=b1.Type_.Bits))&&(decide (a1.Type_.Frac=b1.Type_.Frac))&&(decide (a1.Type_.Round=b1.Type_.Round))&&(decide (a1.Type_.Over=b1.Type_.Over))))&&r1)&&r2) (nt rec_ a1.Args b1.Args)).bind fun r3=>
 some (((((((decide (a1.Op=b1.Op))&&(decide (a1.Name=b1.Name)))&&((decide (a1.Val.N=b1.Val.N))&&(decide (a1.Val.D=b1.Val.D))))&&((decide (a1.Type_.Kind=b1.Type_.Kind))&&(decide (a1.Type_.Bits=b1.Type_.Bits))&&(decide (a1.Type_.Frac=b1.Type_.Frac))&&(decide (a1.Type_.Round=b1.Type_.Round))&&(decide (a1.Type_.Over=b1.Type_.Over))))&&r1)&&r2)&&r3)
def jX:Nat→(GExpr→GExpr→Option Bool)
 | 0=>fun _ _=>none
 | n+1=>mH (jX n)
def pc (a1:GExpr) (b1:GExpr):Option Bool:=jX fu a1 b1
def lF (s1:List UInt8) (l1:List aS) (at1:Int):Option Int:=
 if decide (at1<(l1.length:Int))then
  (lat l1 at1).bind fun e1=>
  some e1.At
 else
  some (s1.length:Int)
def iB (s1:List UInt8) (r1:List aS×Int×Int) (r2:GExpr×ac) (p1:ac):Option (GExpr×Int×Int):=
 if !decide (p1.E=0)then
  (lF s1 r1.1 p1.Pos).bind fun r3=>
  some ((⟨0,([]:List UInt8),(⟨0,0⟩:GVal),(⟨0,0,0,0,0⟩:GType),(⟨0,([]:List GMono)⟩:GLin),([]:List GIndex),([]:List GExpr)⟩:GExpr),r3,p1.E)
 else
  some (r2.1,0,0)
def m7 (s1:List UInt8):Option (GExpr×Int×Int):=
 (jb s1).bind fun r1=>
 if !decide (r1.2.2=0)then
  some ((⟨0,([]:List UInt8),(⟨0,0⟩:GVal),(⟨0,0,0,0,0⟩:GType),(⟨0,([]:List GMono)⟩:GLin),([]:List GIndex),([]:List GExpr)⟩:GExpr),r1.2.1,r1.2.2)
 else
  (eJ (⟨r1.1,0,0,0,0⟩:ac)).bind fun r2=>
  if(decide (r2.2.E=0))&&(decide (r2.2.At<(r1.1.length:Int)))then
   (cz r2.2).bind fun r4=>
   iB s1 r1 r2 r4
  else
   iB s1 r1 r2 r2.2
def j3 (s1:List UInt8):Option Bool:=
 if decide (2000<(s1.length:Int))then
  (ki).bind fun r1=>
  some r1
 else
  (eQ s1).bind fun r2=>
  (m7 s1).bind fun r3=>
  (pc r2.1 r3.1).bind fun r4=>
  (gd ((r4&&(decide (r2.2.1=r3.2.1)))&&(decide (r2.2.2=r3.2.2))) (ki)).bind fun r5=>
  some (((r4&&(decide (r2.2.1=r3.2.1)))&&(decide (r2.2.2=r3.2.2)))&&r5)
end Go.Proofs.YtmhoikfoogemnaaGreatDoor
