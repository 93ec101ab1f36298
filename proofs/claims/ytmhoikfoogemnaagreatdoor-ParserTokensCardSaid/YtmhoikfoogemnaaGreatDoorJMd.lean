import Derived.Test.YtmhoikfoogemnaaGreatDoorJXm
namespace Go.Proofs.YtmhoikfoogemnaaGreatDoor
open Go Go.RowKit Go.Vc
set_option linter.unusedVariables false
set_option linter.unusedSimpArgs false
structure GToken where
 Kind:Int
 At:Int
 Text:List UInt8
deriving Inhabited,DecidableEq
def cGToken:Cod GToken where
 n:=3
 rel _ _ x cs:=cs=[(Value.int .i64 x.Kind),(Value.int .i64 x.At),(str x.Text)]
 len h:=by subst h;rfl
 one h:=by subst h;rfl
 sp _ h:=h
structure aa where
 l:List GToken
 at_:Int
 deep:Int
deriving Inhabited,DecidableEq
def fnP_k1 (v:Value) (m:(Int→Option Bool)) (D:NP) (w:World):Prop:=
 DI v=true∧∀ (D':NP) (w':World),Sp D w D' w'→(∀ k,D' k→k<w'.heap.size)→∀ (x_1:Int) (r:Bool),AllCl [] D' w'→m x_1=some r→
  CallV Tryz.prog v [(Value.int .i32 x_1)] w' fun e w''=>e= .returned (Value.bool r)∧Ext w' w''∧AllCl [] D' w''
theorem fnP_k1.sp {v:Value} {m:(Int→Option Bool)} {D D':NP} {w w':World} (hs:Sp D w D' w') (h:fnP_k1 v m D w):fnP_k1 v m D' w':=⟨h.1,fun D'' w'' hs'=>h.2 D'' w'' (hs.trans hs')⟩
def ri (v:Value) (m:(Int→Option Bool)):Cl:=⟨fnP_k1 v m,fnP_k1.sp⟩
structure GMono where
 Name:List UInt8
 By:Int
deriving Inhabited,DecidableEq
def ah:Cod GMono where
 n:=2
 rel _ _ x cs:=cs=[(str x.Name),(Value.int .i64 x.By)]
 len h:=by subst h;rfl
 one h:=by subst h;rfl
 sp _ h:=h
structure GLin where
 K:Int
 L:List GMono
deriving Inhabited,DecidableEq
def fE:Cod GLin where
 n:=2
 rel D w x cs:=∃ (A0:Option Addr) (c0:Nat),cs=[(Value.int .i64 x.K),(Value.slice A0 x.L.length c0)]∧SlC ah D w A0 c0 x.L
 len h:=by obtain⟨_,_,rfl,_⟩:=h;rfl
 one h:=by obtain⟨A0,c0,rfl,h0⟩:=h;rfl
 sp hs h:=by obtain⟨A0,c0,rfl,h0⟩:=h;exact⟨_,_,rfl,h0.sp hs⟩
def fnS_k2 {σ:Type} (I:StI σ) (v:Value) (m:((List UInt8)→Int→Int→σ→Option (Unit×σ))) (D:NP) (w:World):Prop:=
 DI v=true∧∀ (C0 F:NP) (w':World),Sp D w (Dj F C0) w'→∀ (x_1:List UInt8) (x_2:Int) (x_3:Int) (s:σ) (r:Unit×σ),Bun C0 F w' C0 w' [MO.st I s] []→m x_1 x_2 x_3 s=some r→
  CallV Tryz.prog v [(str x_1),(Value.int .i64 x_2),(Value.int .i64 x_3)] w' fun e w''=>∃ (C:NP),e= .returned (Value.tuple #[])∧Bun C0 F w' C w'' [MO.st I r.2] []
theorem fnS_k2.sp {σ:Type} {I:StI σ} {v:Value} {m:((List UInt8)→Int→Int→σ→Option (Unit×σ))} {D D':NP} {w w':World} (hs:Sp D w D' w') (h:fnS_k2 I v m D w):fnS_k2 I v m D' w':=⟨h.1,fun C0 F w'' hs'=>h.2 C0 F w'' (hs.trans hs')⟩
def vX {σ:Type} (I:StI σ) (v:Value) (m:((List UInt8)→Int→Int→σ→Option (Unit×σ))):Cl:=⟨fnS_k2 I v m,fnS_k2.sp⟩
structure GType where
 Kind:Int
 Bits:Int
 Frac:Int
 Round:Int
 Over:Int
deriving Inhabited,DecidableEq
structure GVal where
 N:Int
 D:Int
deriving Inhabited,DecidableEq
structure GIndex where
 Lin:GLin
 From:List UInt8
 At:List GLin
deriving Inhabited,DecidableEq
def ak:Cod GIndex where
 n:=4
 rel D w x cs:=∃ (A0:Option Addr) (c0:Nat) (A2:Option Addr) (c2:Nat),cs=[(Value.int .i64 x.Lin.K),(Value.slice A0 x.Lin.L.length c0),(str x.From),(Value.slice A2 x.At.length c2)]∧SlC ah D w A0 c0 x.Lin.L∧SlC fE D w A2 c2 x.At
 len h:=by obtain⟨_,_,_,_,rfl,_,_⟩:=h;rfl
 one h:=by obtain⟨A0,c0,A2,c2,rfl,h0,h1⟩:=h;rfl
 sp hs h:=by obtain⟨A0,c0,A2,c2,rfl,h0,h1⟩:=h;exact⟨_,_,_,_,rfl,h0.sp hs,h1.sp hs⟩
structure GExpr where
 Op:Int
 Name:List UInt8
 Val:GVal
 Type_:GType
 Lin:GLin
 Idx:List GIndex
 Args:List GExpr
instance:Inhabited GExpr:=⟨⟨0,[],default,default,default,[],[]⟩⟩
def rj (c:Cod GExpr):Cod GExpr where
 n:=13
 rel D w x cs:=∃ (A0:Option Addr) (c0:Nat) (A2:Option Addr) (c2:Nat) (A4:Option Addr) (c4:Nat),cs=[(Value.int .i64 x.Op),(str x.Name),(Value.int .i64 x.Val.N),(Value.int .i64 x.Val.D),(Value.int .i64 x.Type_.Kind),(Value.int .i64 x.Type_.Bits),(Value.int .i64 x.Type_.Frac),(Value.int .i64 x.Type_.Round),(Value.int .i64 x.Type_.Over),(Value.int .i64 x.Lin.K),(Value.slice A0 x.Lin.L.length c0),(Value.slice A2 x.Idx.length c2),(Value.slice A4 x.Args.length c4)]∧SlC ah D w A0 c0 x.Lin.L∧SlC ak D w A2 c2 x.Idx∧SlC c D w A4 c4 x.Args
 len h:=by obtain⟨_,_,_,_,_,_,rfl,_,_,_⟩:=h;rfl
 one h:=by obtain⟨A0,c0,A2,c2,A4,c4,rfl,h0,h1,h2⟩:=h;rfl
 sp hs h:=by obtain⟨A0,c0,A2,c2,A4,c4,rfl,h0,h1,h2⟩:=h;exact⟨_,_,_,_,_,_,rfl,h0.sp hs,h1.sp hs,h2.sp hs⟩
theorem sX {c c':Cod GExpr} (hm:∀ D w x cs,c.rel D w x cs→c'.rel D w x cs):∀ D w x cs,(rj c).rel D w x cs→(rj c').rel D w x cs:=fun D w x cs h=>by
 obtain⟨A0,c0,A2,c2,A4,c4,rfl,h0,h1,h2⟩:=h;exact⟨_,_,_,_,_,_,rfl,h0,h1,h2.mono hm⟩
def an:Cod GExpr:=Cod.fix rj 13 (fun _=>rfl)
theorem ij {D:NP} {w:World} {x:GExpr} {cs:List Value} (h:an.rel D w x cs):(rj an).rel D w x cs:=by
 obtain⟨k,hk⟩:=h
 cases k with
 | zero=>exact False.elim hk
 | succ k=>exact sX (c:=Cs rj 13 k) (c':=an) (fun _ _ _ _ h=>⟨k,h⟩) _ _ _ _ hk
theorem dF {D:NP} {w:World} {x:GExpr} {cs:List Value} (h:(rj an).rel D w x cs):an.rel D w x cs:=by
 obtain⟨A0,c0,A2,c2,A4,c4,rfl,h0,h1,h2⟩:=h
 obtain⟨k,hk⟩:=h2.fix_out sX
 exact⟨k+1,_,_,_,_,_,_,rfl,h0,h1,hk⟩
def fnS_k5 {σ:Type} (I:StI σ) (v:Value) (m:(GExpr→σ→Option (Bool×σ))) (D:NP) (w:World):Prop:=
 DI v=true∧∀ (C0 F:NP) (w':World),Sp D w (Dj F C0) w'→∀ (x_1:GExpr) (A_2:Option Addr) (c_3:Nat) (A_4:Option Addr) (c_5:Nat) (A_6:Option Addr) (c_7:Nat) (s:σ) (r:Bool×σ),Bun C0 F w' C0 w' [MO.st I s] [Cl.sl ah A_2 c_3 x_1.Lin.L,Cl.sl ak A_4 c_5 x_1.Idx,Cl.sl an A_6 c_7 x_1.Args]→m x_1 s=some r→
  CallV Tryz.prog v [(Value.agg #[(Value.int .i64 x_1.Op),(str x_1.Name),(Value.int .i64 x_1.Val.N),(Value.int .i64 x_1.Val.D),(Value.int .i64 x_1.Type_.Kind),(Value.int .i64 x_1.Type_.Bits),(Value.int .i64 x_1.Type_.Frac),(Value.int .i64 x_1.Type_.Round),(Value.int .i64 x_1.Type_.Over),(Value.int .i64 x_1.Lin.K),(Value.slice A_2 x_1.Lin.L.length c_3),(Value.slice A_4 x_1.Idx.length c_5),(Value.slice A_6 x_1.Args.length c_7)])] w' fun e w''=>∃ (C:NP),e= .returned (Value.bool r.1)∧Bun C0 F w' C w'' [MO.st I r.2] []
theorem fnS_k5.sp {σ:Type} {I:StI σ} {v:Value} {m:(GExpr→σ→Option (Bool×σ))} {D D':NP} {w w':World} (hs:Sp D w D' w') (h:fnS_k5 I v m D w):fnS_k5 I v m D' w':=⟨h.1,fun C0 F w'' hs'=>h.2 C0 F w'' (hs.trans hs')⟩
def pq {σ:Type} (I:StI σ) (v:Value) (m:(GExpr→σ→Option (Bool×σ))):Cl:=⟨fnS_k5 I v m,fnS_k5.sp⟩
def fnP_k6 (v:Value) (m:(GIndex→Option Bool)) (D:NP) (w:World):Prop:=
 DI v=true∧∀ (D':NP) (w':World),Sp D w D' w'→(∀ k,D' k→k<w'.heap.size)→∀ (x_1:GIndex) (A_2:Option Addr) (c_3:Nat) (A_4:Option Addr) (c_5:Nat) (r:Bool),AllCl [Cl.sl ah A_2 c_3 x_1.Lin.L,Cl.sl fE A_4 c_5 x_1.At] D' w'→m x_1=some r→
  CallV Tryz.prog v [(Value.agg #[(Value.int .i64 x_1.Lin.K),(Value.slice A_2 x_1.Lin.L.length c_3),(str x_1.From),(Value.slice A_4 x_1.At.length c_5)])] w' fun e w''=>e= .returned (Value.bool r)∧Ext w' w''∧AllCl [] D' w''
theorem fnP_k6.sp {v:Value} {m:(GIndex→Option Bool)} {D D':NP} {w w':World} (hs:Sp D w D' w') (h:fnP_k6 v m D w):fnP_k6 v m D' w':=⟨h.1,fun D'' w'' hs'=>h.2 D'' w'' (hs.trans hs')⟩
def rh (v:Value) (m:(GIndex→Option Bool)):Cl:=⟨fnP_k6 v m,fnP_k6.sp⟩
def fnS_k7 {σ:Type} (I:StI σ) (v:Value) (m:(GLin→σ→Option (Bool×σ))) (D:NP) (w:World):Prop:=
 DI v=true∧∀ (C0 F:NP) (w':World),Sp D w (Dj F C0) w'→∀ (x_1:GLin) (A_2:Option Addr) (c_3:Nat) (s:σ) (r:Bool×σ),Bun C0 F w' C0 w' [MO.st I s] [Cl.sl ah A_2 c_3 x_1.L]→m x_1 s=some r→
  CallV Tryz.prog v [(Value.agg #[(Value.int .i64 x_1.K),(Value.slice A_2 x_1.L.length c_3)])] w' fun e w''=>∃ (C:NP),e= .returned (Value.bool r.1)∧Bun C0 F w' C w'' [MO.st I r.2] []
theorem fnS_k7.sp {σ:Type} {I:StI σ} {v:Value} {m:(GLin→σ→Option (Bool×σ))} {D D':NP} {w w':World} (hs:Sp D w D' w') (h:fnS_k7 I v m D w):fnS_k7 I v m D' w':=⟨h.1,fun C0 F w'' hs'=>h.2 C0 F w'' (hs.trans hs')⟩
def nW {σ:Type} (I:StI σ) (v:Value) (m:(GLin→σ→Option (Bool×σ))):Cl:=⟨fnS_k7 I v m,fnS_k7.sp⟩
structure ac where
 L:List GToken
 At:Int
 Deep:Int
 E:Int
 Pos:Int
deriving Inhabited,DecidableEq
structure Ft where
 Name:List UInt8
 Size:GLin
deriving Inhabited,DecidableEq
structure Hy where
 Name:List UInt8
 Type_:GType
 Dims:List Ft
 Red:List Ft
 Fold:Int
 Body:GExpr
deriving Inhabited
def gV (l1:List GToken):Nat→Int→Option Bool
 | 0,_=>none
 | fuel1+1,i1=>
  if decide (i1<(l1.length:Int))then
   (lat l1 i1).bind fun e1=>
   if decide (100<(e1.Text.length:Int))then
    some false
   else
    (gV l1 fuel1) (aq (i1+1))
  else
   some true
def nR (l1:List GToken) (most1:Int):Option Bool:=
 if decide (most1<(l1.length:Int))then
  some false
 else
  gV l1 fu 0
def o6 (c1:Int):Option Bool:=
 some ((((decide (c1=9))||(decide (c1=10)))||(decide (c1=13)))||(decide (c1=32)))
def kK (s1:List UInt8) (self1:Int→Option Int):Nat→Int→Option Int
 | 0,_=>none
 | fuel2+1,at3=>
  (gd (decide (at3<(s1.length:Int))) (sat s1 at3)).bind fun b3=>
  if(decide (at3<(s1.length:Int)))&&(!decide (b3=10))then
   (kK s1 self1 fuel2) (aq (at3+1))
  else
   self1 at3
def ic (s1:List UInt8):Nat→Int→Option Int
 | 0,_=>none
 | fuel1+1,at2=>
  if decide (at2<(s1.length:Int))then
   (sat s1 at2).bind fun b1=>
   (o6 b1).bind fun r1=>
   if r1 then
    (ic s1 fuel1) (aq (at2+1))
   else
    (sat s1 at2).bind fun b2=>
    if decide (b2=35)then
     kK s1 (ic s1 fuel1) fu at2
    else
     some at2
  else
   some at2
def oc (s1:List UInt8) (at1:Int):Option Int:=
 ic s1 fu at1
def lB (c1:Int):Option Bool:=
 some ((decide (97≤c1))&&(decide (c1≤122)))
def nJ (c1:Int):Option Bool:=
 some ((decide (48≤c1))&&(decide (c1≤57)))
def lz (s1:List UInt8) (kind1:Int):Nat→Int→Option (Int×Int)
 | 0,_=>none
 | fuel1+1,n1=>
  (gd (decide (n1<(s1.length:Int))) (sat s1 n1)).bind fun b3=>
  (gd (decide (n1<(s1.length:Int))) (nJ b3)).bind fun r3=>
  (gd (((decide (n1<(s1.length:Int)))&& !r3)&&(decide (kind1=1))) (sat s1 n1)).bind fun b4=>
  (gd (((decide (n1<(s1.length:Int)))&& !r3)&&(decide (kind1=1))) (lB b4)).bind fun r4=>
  (gd ((((decide (n1<(s1.length:Int)))&& !r3)&&(decide (kind1=1)))&& !r4) (sat s1 n1)).bind fun b5=>
  if(decide (n1<(s1.length:Int)))&&(r3||((decide (kind1=1))&&(r4||(decide (b5=95)))))then
   (lz s1 kind1 fuel1) (aq (n1+1))
  else
   some (n1,kind1)
def mP (s1:List UInt8) (kind1:Int):Option (Int×Int):=
 lz s1 kind1 fu 0
def qy (s1:List UInt8):Option (Int×Int):=
 (gd (!(decide (s1=([]:List UInt8)))) (sat s1 0)).bind fun b1=>
 (gd (!(decide (s1=([]:List UInt8)))) (lB b1)).bind fun r1=>
 (gd ((!(decide (s1=([]:List UInt8))))&&(!r1)) (sat s1 0)).bind fun b2=>
 (gd ((!(decide (s1=([]:List UInt8))))&&(!r1)) (nJ b2)).bind fun r2=>
 if(decide (s1=([]:List UInt8)))||((!r1)&&(!r2))then
  some (0,0)
 else
  (sat s1 0).bind fun b6=>
  (lB b6).bind fun r5=>
  if r5 then
   mP s1 1
  else
   mP s1 2
def n7:Option (List (List UInt8)):=
 some ([([60,61]:List UInt8),([61,61]:List UInt8),([40]:List UInt8),([41]:List UInt8),([91]:List UInt8),([93]:List UInt8),([123]:List UInt8),([125]:List UInt8),([44]:List UInt8),([59]:List UInt8),([58]:List UInt8),([43]:List UInt8),([45]:List UInt8),([42]:List UInt8),([47]:List UInt8),([60]:List UInt8),([61]:List UInt8),([38]:List UInt8),([124]:List UInt8),([33]:List UInt8),([46]:List UInt8),([64]:List UInt8)]:List (List UInt8))
def jp (r1:List (List UInt8)) (s1:List UInt8):Nat→Int→Option Int
 | 0,_=>none
 | fuel1+1,i1=>
  if decide (i1<(r1.length:Int))then
   (lat r1 i1).bind fun e1=>
   (gd (decide ((e1.length:Int)≤(s1.length:Int))) (lat r1 i1)).bind fun e2=>
   (gd (decide ((e1.length:Int)≤(s1.length:Int))) (oV s1 (e2.length:Int))).bind fun s2=>
   (gd (decide ((e1.length:Int)≤(s1.length:Int))) (lat r1 i1)).bind fun e3=>
   if(decide ((e1.length:Int)≤(s1.length:Int)))&&(decide (s2=e3))then
    (lat r1 i1).bind fun e4=>
    some (e4.length:Int)
   else
    (jp r1 s1 fuel1) (aq (i1+1))
  else
   some 0
def ov (s1:List UInt8):Option Int:=
 (n7).bind fun r1=>
 jp r1 s1 fu 0
def jP (at1:Int) (s1:List UInt8) (ba:List GToken) (self1:(List GToken)→Int→Option (List GToken×Int×Int)) (n1:Int) (kind1:Int):Option (List GToken×Int×Int):=
 if decide (n1=0)then
  some (([]:List GToken),at1,5)
 else
  if(decide (kind1=1))&&(decide (16<n1))then
   some (([]:List GToken),at1,2)
  else
   (DC s1 at1 (aq (at1+n1))).bind fun s3=>
   (mD ba ([(⟨kind1,at1,s3⟩:GToken)]:List GToken)).bind fun zs1=>
   (oc s1 (aq (at1+n1))).bind fun r3=>
   self1 zs1 r3
def fe (s1:List UInt8):Nat→(List GToken)→Int→Option (List GToken×Int×Int)
 | 0,_,_=>none
 | fuel1+1,ba,at1=>
  if decide (at1<(s1.length:Int))then
   (jH s1 at1).bind fun s2=>
   (qy s2).bind fun r2=>
   if decide (r2.1=0)then
    (jH s1 at1).bind fun s4=>
    (ov s4).bind fun r4=>
    jP at1 s1 ba (fe s1 fuel1) r4 3
   else
    jP at1 s1 ba (fe s1 fuel1) r2.1 r2.2
  else
   some (ba,0,0)
def nt (s1:List UInt8):Option (List GToken×Int×Int):=
 if decide (65536<(s1.length:Int))then
  some (([]:List GToken),0,2)
 else
  (oc s1 0).bind fun r1=>
  fe s1 fu ([]:List GToken) r1
def bZ (r1:aa) (kind1:Int) (s1:List UInt8):Option Bool:=
 (gd (decide (r1.at_<(r1.l.length:Int))) (lat r1.l r1.at_)).bind fun e1=>
 (gd ((decide (r1.at_<(r1.l.length:Int)))&&(decide (e1.Kind=kind1))) (lat r1.l r1.at_)).bind fun e2=>
 some (((decide (r1.at_<(r1.l.length:Int)))&&(decide (e1.Kind=kind1)))&&(decide (e2.Text=s1)))
def iT (r1:Int):Option Bool:=
 some ((decide (97≤r1))&&(decide (r1≤122)))
def gr (s1:List UInt8) (ok1:(Int→Option Bool)):Nat→Int→Option Int
 | 0,_=>none
 | fuel1+1,n1=>
  (gd (decide (n1<(s1.length:Int))) (sat s1 n1)).bind fun b1=>
  (gd (decide (n1<(s1.length:Int))) (ok1 (rn b1))).bind fun r1=>
  if(decide (n1<(s1.length:Int)))&&r1 then
   (gr s1 ok1 fuel1) (aq (n1+1))
  else
   some n1
def kB (s1:List UInt8) (ok1:(Int→Option Bool)):Option Int:=
 gr s1 ok1 fu 0
def jC (r1:Int):Option Bool:=
 some ((decide (48≤r1))&&(decide (r1≤57)))
def ft (r1:Int):Option Bool:=
 (iT r1).bind fun r2=>
 (gd (!r2) (jC r1)).bind fun r3=>
 some ((r2||r3)||(decide (r1=95)))
def lZ:Option (List (List UInt8)):=
 (nr ([115,105,122,101,32,119,104,101,114,101,32,105,110,32,100,101,102,32,111,117,116,32,115,117,109,32,112,114,111,100,32,109,105,110,32,109,97,120,32,115,99,97,110,32,111,118,101,114,32,105,102,32,99,97,115,116,32,102,114,97,99,32,105,110,116,32,102,105,120,32,99,101,105,108,32,102,108,111,111,114,32,122,101,114,111,32,101,118,101,110,32,115,97,116,32,119,114,97,112]:List UInt8)).bind fun r1=>
 some r1
def bi (s1:List (List UInt8)) (v1:List UInt8):Nat→Int→Option Int
 | 0,_=>none
 | fuel1+1,i1=>
  if decide (i1<(s1.length:Int))then
   (lat s1 i1).bind fun e1=>
   if decide (v1=e1)then
    some i1
   else
    (bi s1 v1 fuel1) (aq (i1+1))
  else
   some (-1)
def fy (s1:List (List UInt8)) (v1:List UInt8):Option Int:=
 bi s1 v1 fu 0
def dg (s1:List (List UInt8)) (v1:List UInt8):Option Bool:=
 (fy s1 v1).bind fun r1=>
 some (decide (0≤r1))
def jt (s1:List UInt8):Option Bool:=
 (lZ).bind fun r1=>
 (dg r1 s1).bind fun r2=>
 some r2
def gh (s1:List UInt8):Option Bool:=
 (gd ((!decide (s1=([]:List UInt8)))&&(decide ((s1.length:Int)≤16))) (sat s1 0)).bind fun b1=>
 (gd ((!decide (s1=([]:List UInt8)))&&(decide ((s1.length:Int)≤16))) (iT (rn b1))).bind fun r1=>
 (gd (((!decide (s1=([]:List UInt8)))&&(decide ((s1.length:Int)≤16)))&&r1) (kB s1 ft)).bind fun r2=>
 (gd ((((!decide (s1=([]:List UInt8)))&&(decide ((s1.length:Int)≤16)))&&r1)&&(decide (r2=(s1.length:Int)))) (jt s1)).bind fun r3=>
 some (((((!decide (s1=([]:List UInt8)))&&(decide ((s1.length:Int)≤16)))&&r1)&&(decide (r2=(s1.length:Int))))&&(!r3))
def cR (r1:aa):Option Bool:=
 (gd (decide (r1.at_<(r1.l.length:Int))) (lat r1.l r1.at_)).bind fun e1=>
 (gd ((decide (r1.at_<(r1.l.length:Int)))&&(decide (e1.Kind=1))) (lat r1.l r1.at_)).bind fun e2=>
 (gd ((decide (r1.at_<(r1.l.length:Int)))&&(decide (e1.Kind=1))) (gh e2.Text)).bind fun r2=>
 some (((decide (r1.at_<(r1.l.length:Int)))&&(decide (e1.Kind=1)))&&r2)
def bK (r1:aa) (at1:Int) (e1:Int):Option (bu Unit):=
 some (.pan at1 e1)
def lE (s1:List UInt8):Option Bool:=
 if decide (s1=([115,105,122,101]:List UInt8))then
  if decide (s1=([115,105,122,101]:List UInt8))then
   some true
  else
   some false
 else
  if decide (s1=([119,104,101,114,101]:List UInt8))then
   if decide (s1=([119,104,101,114,101]:List UInt8))then
    some true
   else
    some false
  else
   if decide (s1=([105,110]:List UInt8))then
    if decide (s1=([105,110]:List UInt8))then
     some true
    else
     some false
   else
    if decide (s1=([100,101,102]:List UInt8))then
     if decide (s1=([100,101,102]:List UInt8))then
      some true
     else
      some false
    else
     if decide (s1=([111,117,116]:List UInt8))then
      if decide (s1=([111,117,116]:List UInt8))then
       some true
      else
       some false
     else
      if decide (s1=([115,117,109]:List UInt8))then
       if decide (s1=([115,117,109]:List UInt8))then
        some true
       else
        some false
      else
       if decide (s1=([112,114,111,100]:List UInt8))then
        if decide (s1=([112,114,111,100]:List UInt8))then
         some true
        else
         some false
       else
        if decide (s1=([109,105,110]:List UInt8))then
         if decide (s1=([109,105,110]:List UInt8))then
          some true
         else
          some false
        else
         if decide (s1=([109,97,120]:List UInt8))then
          if decide (s1=([109,97,120]:List UInt8))then
           some true
          else
           some false
         else
          if decide (s1=([115,99,97,110]:List UInt8))then
           if decide (s1=([115,99,97,110]:List UInt8))then
            some true
           else
            some false
          else
           if decide (s1=([111,118,101,114]:List UInt8))then
            if decide (s1=([111,118,101,114]:List UInt8))then
             some true
            else
             some false
           else
            if decide (s1=([105,102]:List UInt8))then
             if decide (s1=([105,102]:List UInt8))then
              some true
             else
              some false
            else
             if decide (s1=([99,97,115,116]:List UInt8))then
              if decide (s1=([99,97,115,116]:List UInt8))then
               some true
              else
               some false
             else
              if decide (s1=([102,114,97,99]:List UInt8))then
               if decide (s1=([102,114,97,99]:List UInt8))then
                some true
               else
                some false
              else
               if decide (s1=([105,110,116]:List UInt8))then
                if decide (s1=([105,110,116]:List UInt8))then
                 some true
                else
                 some false
               else
                if decide (s1=([102,105,120]:List UInt8))then
                 if decide (s1=([102,105,120]:List UInt8))then
                  some true
                 else
                  some false
                else
                 if decide (s1=([99,101,105,108]:List UInt8))then
                  if decide (s1=([99,101,105,108]:List UInt8))then
                   some true
                  else
                   some false
                 else
                  if decide (s1=([102,108,111,111,114]:List UInt8))then
                   if decide (s1=([102,108,111,111,114]:List UInt8))then
                    some true
                   else
                    some false
                  else
                   if decide (s1=([122,101,114,111]:List UInt8))then
                    if decide (s1=([122,101,114,111]:List UInt8))then
                     some true
                    else
                     some false
                   else
                    if decide (s1=([101,118,101,110]:List UInt8))then
                     if decide (s1=([101,118,101,110]:List UInt8))then
                      some true
                     else
                      some false
                    else
                     if decide (s1=([115,97,116]:List UInt8))then
                      if decide (s1=([115,97,116]:List UInt8))then
                       some true
                      else
                       some false
                     else
                      if decide (s1=([119,114,97,112]:List UInt8))then
                       some true
                      else
                       some false
def di (s1:List UInt8):Nat→Int→Option Bool
 | 0,_=>none
 | fuel1+1,i1=>
  if decide (i1<(s1.length:Int))then
   (sat s1 i1).bind fun b3=>
   if(((decide (b3<97))||(decide (122<b3)))&&((decide (b3<48))||(decide (57<b3))))&&(!decide (b3=95))then
    some false
   else
    (di s1 fuel1) (aq (i1+1))
  else
   some true
def iN (s1:List UInt8):Option Bool:=
 (gd (!((decide ((s1.length:Int)<1))||(decide (16<(s1.length:Int))))) (lE s1)).bind fun r1=>
 (gd (!(((decide ((s1.length:Int)<1))||(decide (16<(s1.length:Int))))||r1)) (sat s1 0)).bind fun b1=>
 (gd (!((((decide ((s1.length:Int)<1))||(decide (16<(s1.length:Int))))||r1)||(decide (b1<97)))) (sat s1 0)).bind fun b2=>
 if((((decide ((s1.length:Int)<1))||(decide (16<(s1.length:Int))))||r1)||(decide (b1<97)))||(decide (122<b2))then
  some false
 else
  di s1 fu 0
def lY (name1:List UInt8):Option GLin:=
 (iN name1).bind fun r1=>
 if !r1 then
  some (⟨0,([]:List GMono)⟩:GLin)
 else
  some (⟨0,([(⟨name1,1⟩:GMono)]:List GMono)⟩:GLin)
def dw (l1:GLin):Nat→Int→Option Int
 | 0,_=>none
 | fuel1+1,i1=>
  if decide (i1<(l1.L.length:Int))then
   (lat l1.L i1).bind fun e1=>
   (iN e1.Name).bind fun r1=>
   (gd ((!((!r1)||(decide (e1.By=0))))&&(decide (0<i1))) (lat l1.L (aq (i1 - 1)))).bind fun e2=>
   if((!r1)||(decide (e1.By=0)))||((decide (0<i1))&&(!Op.bytesLess e2.Name e1.Name))then
    some 1
   else
    (dw l1 fuel1) (aq (i1+1))
  else
   some 0
def gU (l1:GLin):Option Int:=
 dw l1 fu 0
def jc (n1:Int):Option Int:=
 if decide (n1<0)then
  some (ki (-(ki n1)))
 else
  some (ki n1)
def mn (a1:Int) (b1:Int):Option (Int×Int):=
 (some (ki ((bits .and .u64 a1 4294967295) * (bits .and .u64 b1 4294967295)))).bind fun low1=>
 (some (ki ((ki ((Int.fdiv a1 (2 ^ 32)) * (bits .and .u64 b1 4294967295)))+(Int.fdiv low1 (2 ^ 32))))).bind fun mid1=>
 (some (ki ((ki ((bits .and .u64 a1 4294967295) * (Int.fdiv b1 (2 ^ 32))))+(bits .and .u64 mid1 4294967295)))).bind fun cross1=>
 (some (ki ((ki ((ki ((Int.fdiv a1 (2 ^ 32)) * (Int.fdiv b1 (2 ^ 32))))+(Int.fdiv mid1 (2 ^ 32))))+(Int.fdiv cross1 (2 ^ 32))))).bind fun hi1=>
 some (hi1,ki (a1 * b1))
def mz (a1:Int) (b1:Int):Option (Int×Bool):=
 (jc a1).bind fun r1=>
 (jc b1).bind fun r2=>
 (mn r1 r2).bind fun r3=>
 (some ((decide (a1<0)) != (decide (b1<0)))).bind fun negative1=>
 if((!decide (r3.1=0))||(decide (9223372036854775808<r3.2)))||((decide (r3.2=9223372036854775808))&&(!negative1))then
  some (0,false)
 else
  if negative1 then
   some (aq (ki (-r3.2)),true)
  else
   some (aq r3.2,true)
def mR (fits1:Bool) (ba:GLin):Option (GLin×Int):=
 if !fits1 then
  some ((⟨0,([]:List GMono)⟩:GLin),3)
 else
  some (ba,0)
def gg (a1:GLin) (by1:Int):Nat→Bool→Int→GLin→Option (GLin×Int)
 | 0,_,_,_=>none
 | fuel1+1,fits2,i1,out2=>
  if decide (i1<(a1.L.length:Int))then
   (lat a1.L i1).bind fun e1=>
   (mz e1.By by1).bind fun r3=>
   (mD out2.L ([(⟨e1.Name,r3.1⟩:GMono)]:List GMono)).bind fun zs1=>
   (gg a1 by1 fuel1) (fits2&&r3.2) (aq (i1+1)) (⟨out2.K,zs1⟩:GLin)
  else
   mR fits2 out2
def iF (a1:GLin) (by1:Int):Option (GLin×Int):=
 (gU a1).bind fun r1=>
 if !decide (r1=0)then
  some ((⟨0,([]:List GMono)⟩:GLin),1)
 else
  if decide (by1=0)then
   some ((⟨0,([]:List GMono)⟩:GLin),0)
  else
   (mz a1.K by1).bind fun r2=>
   gg a1 by1 fu r2.2 0 (⟨r2.1,([]:List GMono)⟩:GLin)
def im (s1:List UInt8):Option Bool:=
 (gd ((!(decide (s1=([48]:List UInt8))))&&(!decide (s1=([]:List UInt8)))) (sat s1 0)).bind fun b1=>
 some ((decide (s1=([48]:List UInt8)))||((!decide (s1=([]:List UInt8)))&&(!decide (b1=48))))
def dY (s1:List UInt8):Nat→Int→Option Bool
 | 0,_=>none
 | fuel1+1,i1=>
  if decide (i1<(s1.length:Int))then
   (sat s1 i1).bind fun b2=>
   (gd (!(decide (b2<48))) (sat s1 i1)).bind fun b3=>
   if(decide (b2<48))||(decide (57<b3))then
    some false
   else
    (dY s1 fuel1) (aq (i1+1))
  else
   im s1
def lV (s1:List UInt8):Option Bool:=
 dY s1 fu 0
def fp (r1:aa):Option Bool:=
 (gd (decide (r1.at_<(r1.l.length:Int))) (lat r1.l r1.at_)).bind fun e1=>
 (gd ((decide (r1.at_<(r1.l.length:Int)))&&(decide (e1.Kind=2))) (lat r1.l r1.at_)).bind fun e2=>
 (gd ((decide (r1.at_<(r1.l.length:Int)))&&(decide (e1.Kind=2))) (lV e2.Text)).bind fun r2=>
 some (((decide (r1.at_<(r1.l.length:Int)))&&(decide (e1.Kind=2)))&&r2)
def iQ (negative1:Bool) (n1:Int):Option (Int×Bool):=
 if negative1 then
  some (aq (-(aq n1)),true)
 else
  some (aq n1,true)
def dH (s1:List UInt8) (limit1:Int) (negative1:Bool):Nat→Int→Int→Option (Int×Bool)
 | 0,_,_=>none
 | fuel1+1,n2,i1=>
  if decide (i1<(s1.length:Int))then
   (sat s1 i1).bind fun b1=>
   if decide (ki (Int.tdiv (ki (limit1 - (ki (Ef (b1 - 48))))) 10)<n2)then
    some (0,false)
   else
    (some (ki ((ki (10 * n2))+(ki (Ef (b1 - 48)))))).bind fun n3=>
    (dH s1 limit1 negative1 fuel1) n3 (aq (i1+1))
  else
   iQ negative1 n2
def iR (s1:List UInt8) (negative1:Bool) (limit1:Int):Option (Int×Bool):=
 dH s1 limit1 negative1 fu 0 0
def ie (s1:List UInt8) (negative1:Bool):Option (Int×Bool):=
 if negative1 then
  iR s1 negative1 9223372036854775808
 else
  iR s1 negative1 9223372036854775807
def qz (k1:Int):Option GLin:=
 some (⟨k1,([]:List GMono)⟩:GLin)
def nv (a1:Int) (b1:Int):Option (Int×Bool):=
 some (aq (a1+b1),(decide (a1<aq (a1+b1)))==(decide (0<b1)))
def eF (name1:List UInt8) (x1:Int) (y1:Int) (a1:Bool) (a2:GLin):Option (Unit×Bool×GLin):=
 (nv x1 y1).bind fun r1=>
 if !decide (r1.1=0)then
  (mD a2.L ([(⟨name1,r1.1⟩:GMono)]:List GMono)).bind fun zs1=>
  some ((),a1&&r1.2,(⟨a2.K,zs1⟩:GLin))
 else
  some ((),a1&&r1.2,a2)
def cN {σ:Type} (each1:((List UInt8)→Int→Int→σ→Option (Unit×σ))):Nat→(List GMono)→(List GMono)→σ→Option (Unit×σ)
 | 0,_,_,_=>none
 | fuel1+1,a4,b2,s2=>
  if(decide (0<(a4.length:Int)))||(decide (0<(b2.length:Int)))then
   (gd ((!(decide ((b2.length:Int)=0)))&&(decide (0<(a4.length:Int)))) (lat a4 0)).bind fun e1=>
   (gd ((!(decide ((b2.length:Int)=0)))&&(decide (0<(a4.length:Int)))) (lat b2 0)).bind fun e2=>
   if(decide ((b2.length:Int)=0))||((decide (0<(a4.length:Int)))&&(Op.bytesLess e1.Name e2.Name))then
    (lat a4 0).bind fun e3=>
    (lat a4 0).bind fun e4=>
    (each1 e3.Name e4.By 0 s2).bind fun⟨r1,s3⟩=>
    (jH a4 1).bind fun zs1=>
    (cN each1 fuel1) zs1 b2 s3
   else
    (gd (!(decide ((a4.length:Int)=0))) (lat b2 0)).bind fun e5=>
    (gd (!(decide ((a4.length:Int)=0))) (lat a4 0)).bind fun e6=>
    if(decide ((a4.length:Int)=0))||(Op.bytesLess e5.Name e6.Name)then
     (lat b2 0).bind fun e7=>
     (lat b2 0).bind fun e8=>
     (each1 e7.Name 0 e8.By s2).bind fun⟨r2,s4⟩=>
     (jH b2 1).bind fun zs2=>
     (cN each1 fuel1) a4 zs2 s4
    else
     (lat a4 0).bind fun e9=>
     (lat a4 0).bind fun e10=>
     (lat b2 0).bind fun e11=>
     (each1 e9.Name e10.By e11.By s2).bind fun⟨r3,s5⟩=>
     (jH a4 1).bind fun zs3=>
     (jH b2 1).bind fun zs4=>
     (cN each1 fuel1) zs3 zs4 s5
  else
   some ((),s2)
def nK {σ:Type} (a1:List GMono) (b1:List GMono) (each1:((List UInt8)→Int→Int→σ→Option (Unit×σ))) (s1:σ):Option (Unit×σ):=
 cN each1 fu a1 b1 s1
def gG (a1:GLin) (b1:GLin):Option (GLin×Int):=
 (gU a1).bind fun r1=>
 (gd (!(!decide (r1=0))) (gU b1)).bind fun r2=>
 if(!decide (r1=0))||(!decide (r2=0))then
  some ((⟨0,([]:List GMono)⟩:GLin),1)
 else
  (nv a1.K b1.K).bind fun r3=>
  (nK a1.L b1.L (fun x_1 x_2 x_3 s=>eF x_1 x_2 x_3 (s.1) (s.2)) (r3.2,(⟨r3.1,([]:List GMono)⟩:GLin))).bind fun⟨r4,s1⟩=>
  if !(s1.1)then
   some ((⟨0,([]:List GMono)⟩:GLin),3)
  else
   some ((s1.2),0)
def av (r1:aa) (s1:List UInt8):Option (Bool×aa):=
 (bZ r1 3 s1).bind fun r2=>
 if r2 then
  some (true,(⟨r1.l,aq (r1.at_+1),r1.deep⟩:aa))
 else
  some (false,r1)
def aY (r1:aa):Option (bu (Unit×aa)):=
 if decide ((r1.l.length:Int)≤r1.at_)then
  pb (bK r1 (r1.l.length:Int) 6) fun r2=>
  pb (bK r1 r1.at_ 5) fun r3=>
  some (.ret ((),r1))
 else
  pb (bK r1 r1.at_ 5) fun r4=>
  some (.ret ((),r1))
def eX (r2:aa):Option (bu (List UInt8×aa)):=
 (lat r2.l (aq ((aq (r2.at_+1)) - 1))).bind fun e1=>
 some (.ret (e1.Text,(⟨r2.l,aq (r2.at_+1),r2.deep⟩:aa)))
def bn (r1:aa):Option (bu (List UInt8×aa)):=
 (cR r1).bind fun r3=>
 if !r3 then
  pb (aY r1) fun⟨r4,s1⟩=>
  eX s1
 else
  eX r1
def cr (r2:aa):Option (bu (List UInt8×aa)):=
 (lat r2.l (aq ((aq (r2.at_+1)) - 1))).bind fun e1=>
 some (.ret (e1.Text,(⟨r2.l,aq (r2.at_+1),r2.deep⟩:aa)))
def bD (r1:aa):Option (bu (List UInt8×aa)):=
 (fp r1).bind fun r3=>
 if !r3 then
  pb (aY r1) fun⟨r4,s1⟩=>
  cr s1
 else
  cr r1
def dB (name1:List UInt8) (r8:Int×Bool) (r7:aa):Option (bu (GLin×aa)):=
 if decide (name1=([]:List UInt8))then
  (qz r8.1).bind fun r9=>
  some (.ret (r9,r7))
 else
  (lY name1).bind fun r10=>
  (iF r10 r8.1).bind fun r11=>
  some (.ret (r11.1,r7))
def aV (r6:List UInt8) (negative1:Bool) (r1:aa) (name1:List UInt8) (r7:aa):Option (bu (GLin×aa)):=
 (ie r6 negative1).bind fun r8=>
 if !r8.2 then
  pb (bK r7 r1.at_ 3) fun r12=>
  dB name1 r8 r7
 else
  dB name1 r8 r7
def dI (r1:aa) (negative1:Bool):Option (bu (GLin×aa)):=
 (cR r1).bind fun r2=>
 if r2 then
  pb (bn r1) fun⟨r3,s1⟩=>
  (lY r3).bind fun r4=>
  if negative1 then
   (iF r4 (-1)).bind fun r5=>
   some (.ret (r5.1,s1))
  else
   some (.ret (r4,s1))
 else
  pb (bD r1) fun⟨r6,s2⟩=>
  (av s2 ([42]:List UInt8)).bind fun⟨r13,s3⟩=>
  if r13 then
   pb (bn s3) fun⟨r14,s4⟩=>
   aV r6 negative1 r1 r14 s4
  else
   aV r6 negative1 r1 ([]:List UInt8) s3
def eY (s2:aa) (self1:Bool→aa→GLin→Option (bu (GLin×aa))) (r5:GLin×Int):Option (bu (GLin×aa)):=
 (av s2 ([43]:List UInt8)).bind fun⟨r6,s3⟩=>
 if r6 then
  self1 false s3 r5.1
 else
  (av s3 ([45]:List UInt8)).bind fun⟨r7,s4⟩=>
  if r7 then
   self1 true s4 r5.1
  else
   some (.ret (r5.1,s4))
def aW:Nat→Bool→aa→GLin→Option (bu (GLin×aa))
 | 0,_,_,_=>none
 | fuel1+1,negative1,r3,sum1=>
  pb (dI r3 negative1) fun⟨r4,s2⟩=>
  (gG sum1 r4).bind fun r5=>
  if !decide (r5.2=0)then
   pb (bK s2 r3.at_ 3) fun r8=>
   eY s2 (aW fuel1) r5
  else
   eY s2 (aW fuel1) r5
def bF (r1:aa):Option (bu (GLin×aa)):=
 (av r1 ([45]:List UInt8)).bind fun⟨r2,s1⟩=>
 aW fu r2 s1 (⟨0,([]:List GMono)⟩:GLin)
def mQ (a1:aa) (a3:GLin):Option (bu (Unit×aa×GLin)):=
 pb (bF a1) fun⟨r1,s1⟩=>
 some (.ret ((),s1,r1))
def pL (l1:List GToken) (at1:Int):Option (GLin×Int×Int):=
 if(decide (at1<0))||(decide ((l1.length:Int)<at1))then
  some ((⟨0,([]:List GMono)⟩:GLin),0,1)
 else
  xY (mQ (⟨l1,at1,0⟩:aa) (⟨0,([]:List GMono)⟩:GLin)) (fun⟨r1,s1,s2⟩=>
   if !decide (0=0)then
    some ((⟨0,([]:List GMono)⟩:GLin),0,0)
   else
    some (s2,s1.at_,0)) fun pa1 pn1=>
   some ((⟨0,([]:List GMono)⟩:GLin),pa1,pn1)
def o7 (r1:Int):Option Bool:=
 if decide (r1=9)then
  if decide (r1=9)then
   some true
  else
   some false
 else
  if decide (r1=10)then
   if decide (r1=10)then
    some true
   else
    some false
  else
   if decide (r1=13)then
    if decide (r1=13)then
     some true
    else
     some false
   else
    if decide (r1=32)then
     some true
    else
     some false
def mS (r1:Int):Option Bool:=
 some (!decide (r1=10))
def jd (s1:List UInt8):Nat→Int→Option Int
 | 0,_=>none
 | fuel1+1,at1=>
  if decide (at1<(s1.length:Int))then
   (sat s1 at1).bind fun b1=>
   (o7 (rn b1)).bind fun r1=>
   if r1 then
    (jd s1 fuel1) (aq (at1+1))
   else
    if decide (rn b1=35)then
     (jH s1 at1).bind fun s2=>
     (kB s2 mS).bind fun r2=>
     (jd s1 fuel1) (aq (at1+r2))
    else
     some at1
  else
   some at1
def od (s1:List UInt8):Option Int:=
 jd s1 fu 0
def ow (r1:Int):Option Bool:=
 if decide (r1=40)then
  if decide (r1=40)then
   some true
  else
   some false
 else
  if decide (r1=41)then
   if decide (r1=41)then
    some true
   else
    some false
  else
   if decide (r1=91)then
    if decide (r1=91)then
     some true
    else
     some false
   else
    if decide (r1=93)then
     if decide (r1=93)then
      some true
     else
      some false
    else
     if decide (r1=123)then
      if decide (r1=123)then
       some true
      else
       some false
     else
      if decide (r1=125)then
       if decide (r1=125)then
        some true
       else
        some false
      else
       if decide (r1=44)then
        if decide (r1=44)then
         some true
        else
         some false
       else
        if decide (r1=59)then
         if decide (r1=59)then
          some true
         else
          some false
        else
         if decide (r1=58)then
          if decide (r1=58)then
           some true
          else
           some false
         else
          if decide (r1=43)then
           if decide (r1=43)then
            some true
           else
            some false
          else
           if decide (r1=45)then
            if decide (r1=45)then
             some true
            else
             some false
           else
            if decide (r1=42)then
             if decide (r1=42)then
              some true
             else
              some false
            else
             if decide (r1=47)then
              if decide (r1=47)then
               some true
              else
               some false
             else
              if decide (r1=60)then
               if decide (r1=60)then
                some true
               else
                some false
              else
               if decide (r1=61)then
                if decide (r1=61)then
                 some true
                else
                 some false
               else
                if decide (r1=38)then
                 if decide (r1=38)then
                  some true
                 else
                  some false
                else
                 if decide (r1=124)then
                  if decide (r1=124)then
                   some true
                  else
                   some false
                 else
                  if decide (r1=33)then
                   if decide (r1=33)then
                    some true
                   else
                    some false
                  else
                   if decide (r1=46)then
                    if decide (r1=46)then
                     some true
                    else
                     some false
                   else
                    if decide (r1=64)then
                     some true
                    else
                     some false
def pM (s1:List UInt8):Option (Int×Int):=
 (sat s1 0).bind fun b1=>
 (iT (rn b1)).bind fun r1=>
 if r1 then
  (kB s1 ft).bind fun r2=>
  some (1,r2)
 else
  (jC (rn b1)).bind fun r3=>
  if r3 then
   (kB s1 jC).bind fun r4=>
   some (2,r4)
  else
   (gd (((decide (rn b1=60))||(decide (rn b1=61)))&&(decide (1<(s1.length:Int)))) (sat s1 1)).bind fun b2=>
   if(((decide (rn b1=60))||(decide (rn b1=61)))&&(decide (1<(s1.length:Int))))&&(decide (b2=61))then
    some (3,2)
   else
    (ow (rn b1)).bind fun r5=>
    if r5 then
     some (3,1)
    else
     some (0,0)
def io (s1:List UInt8):Nat→(List GToken)→Int→Option (List GToken×Int×Int)
 | 0,_,_=>none
 | fuel1+1,ba,at1=>
  if decide (at1<(s1.length:Int))then
   (jH s1 at1).bind fun s2=>
   (pM s2).bind fun r2=>
   if decide (r2.1=0)then
    some (([]:List GToken),at1,5)
   else
    if(decide (r2.1=1))&&(decide (16<r2.2))then
     some (([]:List GToken),at1,2)
    else
     (DC s1 at1 (aq (at1+r2.2))).bind fun s3=>
     (mD ba ([(⟨r2.1,at1,s3⟩:GToken)]:List GToken)).bind fun zs1=>
     (jH s1 (aq (at1+r2.2))).bind fun s4=>
     (od s4).bind fun r3=>
     (some (aq ((aq (at1+r2.2))+r3))).bind fun at2=>
     (io s1 fuel1) zs1 at2
  else
   some (ba,0,0)
def nw (s1:List UInt8):Option (List GToken×Int×Int):=
 if decide (65536<(s1.length:Int))then
  some (([]:List GToken),0,2)
 else
  (od s1).bind fun r1=>
  io s1 fu ([]:List GToken) r1
def l9 (t1:GType):Option Bool:=
 some ((decide (t1.Kind=t1.Kind))&&(decide (t1.Bits=0))&&(decide (t1.Frac=0))&&(decide (t1.Round=0))&&(decide (t1.Over=0)))
def fM (t1:GType):Option Int:=
 (some (((decide (1≤t1.Round))&&(decide (t1.Round≤4)))&&((decide (t1.Over=1))||(decide (t1.Over=2))))).bind fun modes1=>
 if(((((!decide (t1.Kind=2))||(decide (t1.Bits<2)))||(decide (31<t1.Bits)))||(decide (t1.Frac<0)))||(decide (30<t1.Frac)))||(!modes1)then
  some 10
 else
  some 0
def fH (t1:GType) (i1:Bool):Option Int:=
 if i1 then
  (l9 t1).bind fun r1=>
  if r1 then
   some 0
  else
   some 10
 else
  if decide (t1.Kind=2)then
   (fM t1).bind fun r2=>
   if decide (r2=0)then
    some 0
   else
    some 10
  else
   some 10
def dz (t1:GType):Option Int:=
 if decide (t1.Kind=1)then
  fH t1 (decide (t1.Kind=1))
 else
  fH t1 (decide (t1.Kind=3))
def gi (s1:List UInt8) (sep1:List UInt8):Option (List UInt8×List UInt8×Bool):=
 (fB s1 sep1).bind fun r1=>
 if decide (0≤r1)then
  (oV s1 r1).bind fun s2=>
  (jH s1 (aq (r1+(sep1.length:Int)))).bind fun s3=>
  some (s2,s3,true)
 else
  some (s1,([]:List UInt8),false)
def mc (s1:List UInt8) (sep1:List UInt8):Option (List UInt8×List UInt8×Bool):=
 (gi s1 sep1).bind fun r1=>
 some (r1.1,r1.2.1,r1.2.2)
def ep (s1:List UInt8) (prefix1:List UInt8):Option Bool:=
 (gd (decide ((prefix1.length:Int)≤(s1.length:Int))) (oV s1 (prefix1.length:Int))).bind fun s2=>
 some ((decide ((prefix1.length:Int)≤(s1.length:Int)))&&(decide (s2=prefix1)))
def es (s1:List UInt8) (prefix1:List UInt8):Option (List UInt8×Bool):=
 (ep s1 prefix1).bind fun r1=>
 if !r1 then
  some (s1,false)
 else
  (jH s1 (prefix1.length:Int)).bind fun s2=>
  some (s2,true)
def il (s1:List UInt8) (prefix1:List UInt8):Option (List UInt8×Bool):=
 (es s1 prefix1).bind fun r1=>
 some (r1.1,r1.2)
def jv (s1:List UInt8):Option Bool:=
 (gd ((!(decide (s1=([48]:List UInt8))))&&(!decide (s1=([]:List UInt8)))) (sat s1 0)).bind fun b1=>
 some ((decide (s1=([48]:List UInt8)))||((!decide (s1=([]:List UInt8)))&&(!decide (b1=48))))
def hT (s1:List UInt8):Nat→Int→Option Bool
 | 0,_=>none
 | fuel1+1,i1=>
  if decide (i1<(s1.length:Int))then
   (sat s1 i1).bind fun b2=>
   (gd (!(decide (b2<48))) (sat s1 i1)).bind fun b3=>
   if(decide (b2<48))||(decide (57<b3))then
    some false
   else
    (hT s1 fuel1) (aq (i1+1))
  else
   jv s1
def j1 (s1:List UInt8):Option Bool:=
 hT s1 fu 0
def j3 (s1:List UInt8):Option (Int×Bool):=
 if decide (10<(s1.length:Int))then
  some (0,false)
 else
  (kz s1 10 64).bind fun r1=>
  some (r1.1,decide (r1.1≤2147483647))
def lF (n1:Int):Option Bool:=
 some ((decide ((-2147483647)≤n1))&&(decide (n1≤2147483647)))
def j0 (n1:Int):Option Int:=
 if decide (n1<0)then
  some (ki (-(ki n1)))
 else
  some (ki n1)
def kS:Nat→Int→Int→Option Int
 | 0,_,_=>none
 | fuel1+1,a2,b2=>
  if !decide (b2=0)then
   if b2≠0 then
    (kS fuel1) b2 (Int.tmod a2 b2)
   else none
  else
   some a2
def pN (a1:Int) (b1:Int):Option Int:=
 kS fu a1 b1
def l0 (v1:GVal):Option Bool:=
 (gd ((decide (1≤v1.D))&&(decide (v1.D≤2147483647))) (lF v1.N)).bind fun r1=>
 (gd (((decide (1≤v1.D))&&(decide (v1.D≤2147483647)))&&r1) (j0 v1.N)).bind fun r2=>
 (gd (((decide (1≤v1.D))&&(decide (v1.D≤2147483647)))&&r1) (pN r2 (ki v1.D))).bind fun r3=>
 some ((((decide (1≤v1.D))&&(decide (v1.D≤2147483647)))&&r1)&&(decide (r3=1)))
def kL (r5:Int×Bool) (n1:Int):Option (GVal×Int):=
 (l0 (⟨n1,r5.1⟩:GVal)).bind fun r6=>
 if !r6 then
  some ((⟨0,0⟩:GVal),5)
 else
  some ((⟨n1,r5.1⟩:GVal),0)
def je (r2:List UInt8×Bool) (bottom1:List UInt8):Option (GVal×Int):=
 (j3 r2.1).bind fun r4=>
 (j3 bottom1).bind fun r5=>
 if(!r4.2)||(!r5.2)then
  some ((⟨0,0⟩:GVal),3)
 else
  if r2.2 then
   kL r5 (aq (-r4.1))
  else
   kL r5 r4.1
def mT (s1:List UInt8):Option (GVal×Int):=
 (mc s1 ([47]:List UInt8)).bind fun r1=>
 (il r1.1 ([45]:List UInt8)).bind fun r2=>
 (j1 r2.1).bind fun r3=>
 if(!r3)||(r2.2&&(decide (r2.1=([48]:List UInt8))))then
  some ((⟨0,0⟩:GVal),5)
 else
  if !r1.2.2 then
   je r2 ([49]:List UInt8)
  else
   (j1 r1.2.1).bind fun r7=>
   if((!r7)||(decide (r1.2.1=([48]:List UInt8))))||(decide (r1.2.1=([49]:List UInt8)))then
    some ((⟨0,0⟩:GVal),5)
   else
    je r2 r1.2.1
def kO (bits1:Int):Option Bool:=
 some ((decide (2≤bits1))&&(decide (bits1≤31)))
def ln (bits1:Int):Option Int:=
 (kO bits1).bind fun r1=>
 if !r1 then
  some 0
 else
  if 0≤(ki (aq (bits1 - 1)))then
   some (aq (-(aq (1 * 2 ^ (min (Int.toNat (ki (aq (bits1 - 1)))) 64)))))
  else none
def lp (bits1:Int):Option Int:=
 (kO bits1).bind fun r1=>
 if !r1 then
  some 0
 else
  if 0≤(ki (aq (bits1 - 1)))then
   some (aq ((aq (1 * 2 ^ (min (Int.toNat (ki (aq (bits1 - 1)))) 64))) - 1))
  else none
def kT (t1:GType) (v1:GVal):Option Bool:=
 (fM t1).bind fun r1=>
 (gd ((decide (r1=0))&&(decide (v1.D=1))) (ln t1.Bits)).bind fun r2=>
 (gd (((decide (r1=0))&&(decide (v1.D=1)))&&(decide (r2≤v1.N))) (lp t1.Bits)).bind fun r3=>
 some ((((decide (r1=0))&&(decide (v1.D=1)))&&(decide (r2≤v1.N)))&&(decide (v1.N≤r3)))
def mb (t1:GType) (s1:List UInt8):Option (GVal×Int):=
 (dz t1).bind fun r1=>
 if !decide (r1=0)then
  some ((⟨0,0⟩:GVal),10)
 else
  (mT s1).bind fun r2=>
  if !decide (r2.2=0)then
   some ((⟨0,0⟩:GVal),r2.2)
  else
   if decide (t1.Kind=3)then
    if !decide (r2.1.D=1)then
     some ((⟨0,0⟩:GVal),5)
    else
     some (r2.1,0)
   else
    if decide (t1.Kind=2)then
     if 0≤t1.Frac then
      (some (aq (1 * 2 ^ (min (Int.toNat t1.Frac) 64)))).bind fun one1=>
      if r2.1.D≠0 then
       if !decide (Int.tmod one1 r2.1.D=0)then
        some ((⟨0,0⟩:GVal),5)
       else
        (kT t1 (⟨aq (r2.1.N * (aq (Int.tdiv one1 r2.1.D))),1⟩:GVal)).bind fun r3=>
        if !r3 then
         some ((⟨0,0⟩:GVal),3)
        else
         some ((⟨aq (r2.1.N * (aq (Int.tdiv one1 r2.1.D))),1⟩:GVal),0)
      else none
     else none
    else
     some (r2.1,0)
def gt (e1:GExpr) (rec_:(GExpr→Int→Option Int)) (limit1:Int):Nat→Int→Int→Option Int
 | 0,_,_=>none
 | fuel1+1,d1,i1=>
  if decide (i1<(e1.Args.length:Int))then
   (lat e1.Args i1).bind fun e2=>
   (rec_ e2 (aq (limit1 - 1))).bind fun r1=>
   (gt e1 rec_ limit1 fuel1) (max d1 (aq (1+r1))) (aq (i1+1))
  else
   some d1
def lG (rec_:(GExpr→Int→Option Int)) (e1:GExpr) (limit1:Int):Option Int:=
 if decide (limit1≤1)then
  some limit1
 else
  gt e1 rec_ limit1 fu 1 0
def j7:Nat→(GExpr→Int→Option Int)
 | 0=>fun _ _=>none
 | n+1=>lG (j7 n)
def pO (e1:GExpr) (limit1:Int):Option Int:=j7 fu e1 limit1
def oe (e1:GExpr):Option Int:=
 (pO e1 41).bind fun r1=>
 some r1
def mA (e1:GExpr):Option GExpr:=
 some e1
def du {σ:Type} (e1:GExpr) (rec_:(GExpr→(GExpr→σ→Option (Bool×σ))→σ→Option (Bool×σ))) (yield1:(GExpr→σ→Option (Bool×σ))):Nat→Int→σ→Option (Bool×σ)
 | 0,_,_=>none
 | fuel1+1,i1,s3=>
  if decide (i1<(e1.Args.length:Int))then
   (lat e1.Args i1).bind fun e2=>
   (rec_ e2 yield1 s3).bind fun⟨r2,s4⟩=>
   if !r2 then
    some (false,s4)
   else
    (du e1 rec_ yield1 fuel1) (aq (i1+1)) s4
  else
   some (true,s3)
def ig {σ:Type} (rec_:(GExpr→(GExpr→σ→Option (Bool×σ))→σ→Option (Bool×σ))) (e1:GExpr) (yield1:(GExpr→σ→Option (Bool×σ))) (s1:σ):Option (Bool×σ):=
 (yield1 e1 s1).bind fun⟨r1,s2⟩=>
 if !r1 then
  some (false,s2)
 else
  du e1 rec_ yield1 fu 0 s2
def fC {σ:Type} :Nat→(GExpr→(GExpr→σ→Option (Bool×σ))→σ→Option (Bool×σ))
 | 0=>fun _ _ _=>none
 | n+1=>ig (fC n)
def nL {σ:Type} (e1:GExpr) (yield1:(GExpr→σ→Option (Bool×σ))) (s1:σ):Option (Bool×σ):=fC fu e1 yield1 s1
def jg {σ:Type} (yield1:(GExpr→σ→Option (Bool×σ))) (a1:GExpr) (s1:σ):Option (Unit×σ):=
 (nL a1 yield1 s1).bind fun⟨r1,s2⟩=>
 some ((),s2)
def fw (y1:GExpr) (n1:Int):Option (Bool×(Nat×Int)):=
 if decide (2000<aq (n1+1))then
  some (false,(1,(aq (n1+1))))
 else
  some (true,(0,(aq (n1+1))))
def nT (e1:GExpr):Option Int:=
 (mA e1).bind fun r1=>
 (jg (fun k_0 q=>if q.1=0 then fw k_0 q.2 else none) r1 (0,0)).bind fun⟨u1,o1,n2⟩=>
 if o1=0 then
  some n2
 else
  if o1=1 then
   some n2
  else
   none
def kU (l1:GLin):Option Bool:=
 some ((decide (l1.K=0))&&(decide ((l1.L.length:Int)=0)))
def aN (s1:List GIndex) (f1:(GIndex→Option Bool)):Nat→Int→Option Int
 | 0,_=>none
 | fuel1+1,i1=>
  if decide (i1<(s1.length:Int))then
   (lat s1 i1).bind fun e1=>
   (f1 e1).bind fun r1=>
   if r1 then
    some i1
   else
    (aN s1 f1 fuel1) (aq (i1+1))
  else
   some (-1)
def cO (s1:List GIndex) (f1:(GIndex→Option Bool)):Option Int:=
 aN s1 f1 fu 0
def aZ (s1:List GIndex) (f1:(GIndex→Option Bool)):Option Bool:=
 (cO s1 f1).bind fun r1=>
 some (decide (0≤r1))
def lh (x1:GIndex):Option Bool:=
 if decide (x1.From=([]:List UInt8))then
  some (decide ((x1.At.length:Int)=0))
 else
  (kU x1.Lin).bind fun r1=>
  some r1
def jf (x1:GIndex):Option Bool:=
 (lh x1).bind fun r1=>
 some (!r1)
def mp (e1:GExpr):Option Bool:=
 if(decide (e1.Op<1))||(decide (18<e1.Op))then
  some false
 else
  if(!(decide (e1.Op=1)))&&(!((decide (e1.Val.N=0))&&(decide (e1.Val.D=0))))then
   some false
  else
   if(!((decide (e1.Op=1))||(decide (e1.Op=12))))&&(!((decide (e1.Type_.Kind=0))&&(decide (e1.Type_.Bits=0))&&(decide (e1.Type_.Frac=0))&&(decide (e1.Type_.Round=0))&&(decide (e1.Type_.Over=0))))then
    some false
   else
    (gd (!(decide (e1.Op=2))) (kU e1.Lin)).bind fun r1=>
    if(!(decide (e1.Op=2)))&&(!r1)then
     some false
    else
     if(!(decide (e1.Op=3)))&&((!decide (e1.Name=([]:List UInt8)))||(decide (0<(e1.Idx.length:Int))))then
      some false
     else
      (aZ e1.Idx jf).bind fun r2=>
      some (!r2)
def j5 (x1:GIndex):Option Bool:=
 (gd (!decide (x1.From=([]:List UInt8))) (gh x1.From)).bind fun r1=>
 some ((!decide (x1.From=([]:List UInt8)))&&(!r1))
def mV (e1:GExpr):Option Bool:=
 (gd (decide (e1.Op=3)) (gh e1.Name)).bind fun r1=>
 if(decide (e1.Op=3))&&(!r1)then
  some false
 else
  (aZ e1.Idx j5).bind fun r2=>
  some (!r2)
def gH (op1:Int) (i2:Bool):Option Int:=
 if i2 then
  some 1
 else
  if decide (op1=11)then
   some 3
  else
   some 2
def gI (op1:Int) (i1:Bool):Option Int:=
 if i1 then
  some 0
 else
  if decide (op1=8)then
   gH op1 (decide (op1=8))
  else
   if decide (op1=12)then
    gH op1 (decide (op1=12))
   else
    gH op1 (decide (op1=18))
def kM (op1:Int):Option Int:=
 if decide (op1=1)then
  gI op1 (decide (op1=1))
 else
  if decide (op1=2)then
   gI op1 (decide (op1=2))
  else
   gI op1 (decide (op1=3))
def mq (x1:GIndex):Option Bool:=
 some (decide (6<(x1.At.length:Int)))
def nS (e1:GExpr):Option Bool:=
 (kM e1.Op).bind fun r1=>
 if(!decide ((e1.Args.length:Int)=r1))||(decide (6<(e1.Idx.length:Int)))then
  some false
 else
  (aZ e1.Idx mq).bind fun r2=>
  some (!r2)
def kC (e1:GExpr):Option Bool:=
 some ((decide (13≤e1.Op))&&(decide (e1.Op≤18)))
def fv (op1:Int) (i1:Int):Option Bool:=
 if decide (op1=16)then
  if decide (op1=16)then
   some true
  else
   some ((decide (op1=11))&&(decide (i1=0)))
 else
  if decide (op1=17)then
   if decide (op1=17)then
    some true
   else
    some ((decide (op1=11))&&(decide (i1=0)))
  else
   if decide (op1=18)then
    some true
   else
    some ((decide (op1=11))&&(decide (i1=0)))
def fD (e1:GExpr):Nat→Int→Option Bool
 | 0,_=>none
 | fuel1+1,i1=>
  if decide (i1<(e1.Args.length:Int))then
   (lat e1.Args i1).bind fun e2=>
   (kC e2).bind fun r2=>
   (fv e1.Op i1).bind fun r3=>
   if r2 != r3 then
    some false
   else
    (fD e1 fuel1) (aq (i1+1))
  else
   some true
def mU (e1:GExpr):Option Bool:=
 (gd ((decide (e1.Op=1))||(decide (e1.Op=12))) (dz e1.Type_)).bind fun r1=>
 if((decide (e1.Op=1))||(decide (e1.Op=12)))&&(!decide (r1=0))then
  some false
 else
  fD e1 fu 0
def nG (n1:Int):Option Bool:=
 some ((decide ((-2147483647)≤n1))&&(decide (n1≤2147483647)))
def ma (t1:GType) (v1:GVal):Option Bool:=
 (dz t1).bind fun r1=>
 if !decide (r1=0)then
  some false
 else
  if decide (t1.Kind=2)then
   (kT t1 v1).bind fun r2=>
   some r2
  else
   if decide (t1.Kind=3)then
    (gd (decide (v1.D=1)) (nG v1.N)).bind fun r3=>
    some ((decide (v1.D=1))&&r3)
   else
    (l0 v1).bind fun r4=>
    some r4
def mW (e1:GExpr):Option GExpr:=
 some e1
def jQ {σ:Type} (self1:Int→σ→Option (Unit×σ)) (i1:Int) (s4:σ):Option (Unit×σ):=
 self1 (aq (i1+1)) s4
def dk {σ:Type} (e1:GIndex) (yield1:(GLin→σ→Option (Bool×σ))) (self1:Int→σ→Option (Unit×σ)) (i1:Int):Nat→Int→σ→Option (Unit×σ)
 | 0,_,_=>none
 | fuel2+1,i2,s6=>
  if decide (i2<(e1.At.length:Int))then
   (lat e1.At i2).bind fun e2=>
   (yield1 e2 s6).bind fun⟨r3,s7⟩=>
   if !r3 then
    some ((),s7)
   else
    (dk e1 yield1 self1 i1 fuel2) (aq (i2+1)) s7
  else
   jQ self1 i1 s6
def bt {σ:Type} (a1:GExpr) (yield1:(GLin→σ→Option (Bool×σ))):Nat→Int→σ→Option (Unit×σ)
 | 0,_,_=>none
 | fuel1+1,i1,s3=>
  if decide (i1<(a1.Idx.length:Int))then
   (lat a1.Idx i1).bind fun e1=>
   (yield1 e1.Lin s3).bind fun⟨r2,s5⟩=>
   if !r2 then
    some ((),s5)
   else
    dk e1 yield1 (bt a1 yield1 fuel1) i1 fu 0 s5
  else
   some ((),s3)
def j6 {σ:Type} (yield1:(GLin→σ→Option (Bool×σ))) (a1:GExpr) (s1:σ):Option (Unit×σ):=
 (yield1 a1.Lin s1).bind fun⟨r1,s2⟩=>
 if !r1 then
  some ((),s2)
 else
  bt a1 yield1 fu 0 s2
def dZ (y1:GLin) (v1:Int):Option (Bool×(Nat×Int)):=
 (gU y1).bind fun r7=>
 if !decide (r7=0)then
  some (false,(1,1))
 else
  some (true,(0,v1))
def j4 (e1:GExpr):Option Int:=
 (mp e1).bind fun r1=>
 if !r1 then
  some 5
 else
  (mV e1).bind fun r2=>
  if !r2 then
   some 7
  else
   (nS e1).bind fun r3=>
   if !r3 then
    some 11
   else
    (mU e1).bind fun r4=>
    if !r4 then
     some 10
    else
     (gd (decide (e1.Op=1)) (ma e1.Type_ e1.Val)).bind fun r5=>
     if(decide (e1.Op=1))&&(!r5)then
      some 1
     else
      (mW e1).bind fun r6=>
      (j6 (fun k_0 q=>if q.1=0 then dZ k_0 q.2 else none) r6 (0,0)).bind fun⟨u1,o1,v2⟩=>
      if o1=0 then
       some 0
      else
       if o1=1 then
        some v2
       else
        none
def dJ (y1:GExpr) (v1:Int):Option (Bool×(Nat×Int)):=
 (j4 y1).bind fun r4=>
 if !decide (r4=0)then
  some (false,(1,r4))
 else
  some (true,(0,v1))
def ii (e1:GExpr):Option Int:=
 (oe e1).bind fun r1=>
 if decide (40<r1)then
  some 13
 else
  (nT e1).bind fun r2=>
  if decide (2000<r2)then
   some 2
  else
   (mA e1).bind fun r3=>
   (jg (fun k_0 q=>if q.1=0 then dJ k_0 q.2 else none) r3 (0,0)).bind fun⟨u1,o1,v2⟩=>
   if o1=0 then
    some 0
   else
    if o1=1 then
     some v2
    else
     none
def eC (r1:aa):Option (bu (Unit×aa)):=
 some (.ret ((),(⟨r1.l,aq (r1.at_+1),aq (r1.deep+1)⟩:aa)))
def bM (r1:aa):Option (bu (Unit×aa)):=
 if decide (159<r1.deep)then
  pb (bK r1 r1.at_ 13) fun r2=>
  eC r1
 else
  eC r1
def cq (r1:aa):Option (bu (Unit×aa)):=
 (bZ r1 3 ([40]:List UInt8)).bind fun r2=>
 if !r2 then
  pb (aY r1) fun⟨r3,s1⟩=>
  pb (bM s1) fun⟨r4,s2⟩=>
  some (.ret ((),s2))
 else
  pb (bM r1) fun⟨r5,s3⟩=>
  some (.ret ((),s3))
def aF (r1:aa) (s1:List UInt8):Option (bu (Unit×aa)):=
 (av r1 s1).bind fun⟨r2,s2⟩=>
 if !r2 then
  pb (aY s2) fun⟨r3,s3⟩=>
  some (.ret ((),s3))
 else
  some (.ret ((),s2))
def dt (r1:aa):Option (bu (Unit×aa)):=
 pb (aF r1 ([41]:List UInt8)) fun⟨r2,s1⟩=>
 some (.ret ((),(⟨s1.l,s1.at_,aq (s1.deep - 1)⟩:aa)))
def cn (l1:List (List UInt8)) (r1:aa):Nat→Int→Option (Int×aa)
 | 0,_=>none
 | fuel1+1,i1=>
  if decide (i1<(l1.length:Int))then
   (lat l1 i1).bind fun e1=>
   (bZ r1 1 e1).bind fun r2=>
   if r2 then
    some (i1,(⟨r1.l,aq (r1.at_+1),r1.deep⟩:aa))
   else
    (cn l1 r1 fuel1) (aq (i1+1))
  else
   some ((-1),r1)
def cQ (r1:aa) (l1:List (List UInt8)):Option (Int×aa):=
 cn l1 r1 fu 0
def ey (r1:aa):Option (bu (Int×aa)):=
 pb (bD r1) fun⟨r2,s1⟩=>
 (ie r2 false).bind fun r3=>
 if(!r3.2)||(decide (2147483647<r3.1))then
  pb (bK s1 r1.at_ 3) fun r4=>
  some (.ret (r3.1,s1))
 else
  some (.ret (r3.1,s1))
def dT (r4:Int) (r6:Int) (r8:Int) (r11:Int) (r1:aa) (r12:aa):Option (bu (GType×aa)):=
 pb (aF r12 ([41]:List UInt8)) fun⟨r13,s9⟩=>
 (dz (⟨2,r4,r6,aq (r8+1),aq (r11+1)⟩:GType)).bind fun r14=>
 if !decide (r14=0)then
  pb (bK s9 r1.at_ 10) fun r15=>
  some (.ret ((⟨2,r4,r6,aq (r8+1),aq (r11+1)⟩:GType),s9))
 else
  some (.ret ((⟨2,r4,r6,aq (r8+1),aq (r11+1)⟩:GType),s9))
def dU (r4:Int) (r6:Int) (r8:Int) (r1:aa) (r9:aa):Option (bu (GType×aa)):=
 pb (aF r9 ([44]:List UInt8)) fun⟨r10,s7⟩=>
 (cQ s7 ([([115,97,116]:List UInt8),([119,114,97,112]:List UInt8)]:List (List UInt8))).bind fun⟨r11,s8⟩=>
 if decide (aq (r11+1)=0)then
  pb (aY s8) fun⟨r16,s10⟩=>
  dT r4 r6 r8 r11 r1 s10
 else
  dT r4 r6 r8 r11 r1 s8
def dV (r1:aa) (r2:aa):Option (bu (GType×aa)):=
 pb (aF r2 ([40]:List UInt8)) fun⟨r3,s1⟩=>
 pb (ey s1) fun⟨r4,s2⟩=>
 pb (aF s2 ([44]:List UInt8)) fun⟨r5,s3⟩=>
 pb (ey s3) fun⟨r6,s4⟩=>
 pb (aF s4 ([44]:List UInt8)) fun⟨r7,s5⟩=>
 (cQ s5 ([([102,108,111,111,114]:List UInt8),([99,101,105,108]:List UInt8),([122,101,114,111]:List UInt8),([101,118,101,110]:List UInt8)]:List (List UInt8))).bind fun⟨r8,s6⟩=>
 if decide (aq (r8+1)=0)then
  pb (aY s6) fun⟨r17,s11⟩=>
  dU r4 r6 r8 r1 s11
 else
  dU r4 r6 r8 r1 s6
def fi (r1:aa):Option (bu (GType×aa)):=
 (cQ r1 ([([102,114,97,99]:List UInt8),([105,110,116]:List UInt8),([102,105,120]:List UInt8)]:List (List UInt8))).bind fun⟨r18,s12⟩=>
 if decide (r18=0)then
  some (.ret ((⟨1,0,0,0,0⟩:GType),s12))
 else
  if decide (r18=1)then
   some (.ret ((⟨3,0,0,0,0⟩:GType),s12))
  else
   if decide (r18=(-1))then
    pb (aY s12) fun⟨r19,s13⟩=>
    dV r1 s13
   else
    dV r1 s12
def dA (r6:aa) (r7:GVal×Int) (r2:GType):Option (bu (GExpr×aa)):=
 pb (aF r6 ([41]:List UInt8)) fun⟨r8,s5⟩=>
 some (.ret ((⟨1,([]:List UInt8),r7.1,r2,(⟨0,([]:List GMono)⟩:GLin),([]:List GIndex),([]:List GExpr)⟩:GExpr),s5))
def cH (r2:GType) (s2:aa) (text2:List UInt8) (r6:aa):Option (bu (GExpr×aa)):=
 (mb r2 text2).bind fun r7=>
 if !decide (r7.2=0)then
  pb (bK r6 s2.at_ r7.2) fun r9=>
  dA r6 r7 r2
 else
  dA r6 r7 r2
def cb (r2:GType) (s2:aa) (text1:List UInt8) (r4:aa):Option (bu (GExpr×aa)):=
 pb (bD r4) fun⟨r5,s3⟩=>
 (mD text1 r5).bind fun s4=>
 (av s3 ([47]:List UInt8)).bind fun⟨r10,s6⟩=>
 if r10 then
  pb (bD s6) fun⟨r11,s7⟩=>
  (mD ([47]:List UInt8) r11).bind fun s8=>
  (mD s4 s8).bind fun s9=>
  cH r2 s2 s9 s7
 else
  cH r2 s2 s4 s6
def cc (r1:aa):Option (bu (GExpr×aa)):=
 pb (fi r1) fun⟨r2,s1⟩=>
 pb (aF s1 ([40]:List UInt8)) fun⟨r3,s2⟩=>
 (av s2 ([45]:List UInt8)).bind fun⟨r12,s10⟩=>
 if r12 then
  cb r2 s2 ([45]:List UInt8) s10
 else
  cb r2 s2 ([]:List UInt8) s10
def dD (rec_:(aa→Option (bu (GExpr×aa)))) (e1:GExpr) (self1:Int→aa→GExpr→Option (bu (GExpr×aa))) (i1:Int) (r4:aa):Option (bu (GExpr×aa)):=
 pb (rec_ r4) fun⟨r5,s2⟩=>
 (mD e1.Args ([r5]:List GExpr)).bind fun zs1=>
 self1 (aq (i1+1)) s2 (⟨e1.Op,e1.Name,e1.Val,e1.Type_,e1.Lin,e1.Idx,zs1⟩:GExpr)
def bp (many1:Int) (rec_:(aa→Option (bu (GExpr×aa)))):Nat→Int→aa→GExpr→Option (bu (GExpr×aa))
 | 0,_,_,_=>none
 | fuel1+1,i1,r3,e1=>
  if decide (i1<many1)then
   if decide (0<i1)then
    pb (aF r3 ([44]:List UInt8)) fun⟨r6,s3⟩=>
    dD rec_ e1 (bp many1 rec_ fuel1) i1 s3
   else
    dD rec_ e1 (bp many1 rec_ fuel1) i1 r3
  else
   pb (dt r3) fun⟨r7,s4⟩=>
   some (.ret (e1,s4))
def cT (rec_:(aa→Option (bu (GExpr×aa)))) (r1:aa) (op1:Int) (many1:Int):Option (bu (GExpr×aa)):=
 pb (cq r1) fun⟨r2,s1⟩=>
 bp many1 rec_ fu 0 s1 (⟨op1,([]:List UInt8),(⟨0,0⟩:GVal),(⟨0,0,0,0,0⟩:GType),(⟨0,([]:List GMono)⟩:GLin),([]:List GIndex),([]:List GExpr)⟩:GExpr)
def eU (rec_:(aa→Option (bu (GExpr×aa)))) (r1:aa):Option (bu (GExpr×aa)):=
 pb (cq r1) fun⟨r2,s1⟩=>
 pb (fi s1) fun⟨r3,s2⟩=>
 pb (aF s2 ([44]:List UInt8)) fun⟨r4,s3⟩=>
 pb (rec_ s3) fun⟨r5,s4⟩=>
 pb (dt s4) fun⟨r6,s5⟩=>
 some (.ret ((⟨12,([]:List UInt8),(⟨0,0⟩:GVal),r3,(⟨0,([]:List GMono)⟩:GLin),([]:List GIndex),([r5]:List GExpr)⟩:GExpr),s5))
def cy:Nat→(List GLin)→aa→Option (bu (List GLin×aa))
 | 0,_,_=>none
 | fuel1+1,ba,r4=>
  (av r4 ([44]:List UInt8)).bind fun⟨r5,s3⟩=>
  if r5 then
   pb (bF s3) fun⟨r6,s4⟩=>
   (mD ba ([r6]:List GLin)).bind fun zs1=>
   (cy fuel1) zs1 s4
  else
   pb (aF s3 ([93]:List UInt8)) fun⟨r7,s5⟩=>
   some (.ret (ba,s5))
def fL (r1:aa):Option (bu (List GLin×aa)):=
 (av r1 ([93]:List UInt8)).bind fun⟨r2,s1⟩=>
 if r2 then
  some (.ret (([]:List GLin),s1))
 else
  pb (bF s1) fun⟨r3,s2⟩=>
  cy fu ([r3]:List GLin) s2
def cG (r1:aa):Option (bu (GIndex×aa)):=
 (cR r1).bind fun r2=>
 (gd (r2&&(decide (aq (r1.at_+1)<(r1.l.length:Int)))) (lat r1.l (aq (r1.at_+1)))).bind fun e1=>
 (gd ((r2&&(decide (aq (r1.at_+1)<(r1.l.length:Int))))&&(decide (e1.Kind=3))) (lat r1.l (aq (r1.at_+1)))).bind fun e2=>
 if !(((r2&&(decide (aq (r1.at_+1)<(r1.l.length:Int))))&&(decide (e1.Kind=3)))&&(decide (e2.Text=([91]:List UInt8))))then
  pb (bF r1) fun⟨r3,s1⟩=>
  some (.ret ((⟨r3,([]:List UInt8),([]:List GLin)⟩:GIndex),s1))
 else
  pb (bn r1) fun⟨r4,s2⟩=>
  pb (aF s2 ([91]:List UInt8)) fun⟨r5,s3⟩=>
  pb (fL s3) fun⟨r6,s4⟩=>
  some (.ret ((⟨(⟨0,([]:List GMono)⟩:GLin),r4,r6⟩:GIndex),s4))
def bJ:Nat→aa→GExpr→Option (bu (GExpr×aa))
 | 0,_,_=>none
 | fuel1+1,r24,e1=>
  (av r24 ([44]:List UInt8)).bind fun⟨r25,s19⟩=>
  if r25 then
   pb (cG s19) fun⟨r26,s20⟩=>
   (mD e1.Idx ([r26]:List GIndex)).bind fun zs1=>
   (bJ fuel1) s20 (⟨e1.Op,e1.Name,e1.Val,e1.Type_,e1.Lin,zs1,e1.Args⟩:GExpr)
  else
   pb (aF s19 ([93]:List UInt8)) fun⟨r27,s21⟩=>
   some (.ret (e1,s21))
def dC (rec_:(aa→Option (bu (GExpr×aa)))) (r1:aa):Option (bu (GExpr×aa)):=
 (bZ r1 3 ([40]:List UInt8)).bind fun r2=>
 if r2 then
  pb (cq r1) fun⟨r3,s1⟩=>
  pb (rec_ s1) fun⟨r4,s2⟩=>
  pb (dt s2) fun⟨r5,s3⟩=>
  some (.ret (r4,s3))
 else
  (av r1 ([91]:List UInt8)).bind fun⟨r6,s4⟩=>
  if r6 then
   pb (bF s4) fun⟨r7,s5⟩=>
   pb (aF s5 ([93]:List UInt8)) fun⟨r8,s6⟩=>
   some (.ret ((⟨2,([]:List UInt8),(⟨0,0⟩:GVal),(⟨0,0,0,0,0⟩:GType),r7,([]:List GIndex),([]:List GExpr)⟩:GExpr),s6))
  else
   (bZ s4 1 ([102,114,97,99]:List UInt8)).bind fun r9=>
   if r9 then
    pb (cc s4) fun⟨r10,s7⟩=>
    some (.ret (r10,s7))
   else
    (bZ s4 1 ([105,110,116]:List UInt8)).bind fun r11=>
    if r11 then
     pb (cc s4) fun⟨r12,s8⟩=>
     some (.ret (r12,s8))
    else
     (bZ s4 1 ([102,105,120]:List UInt8)).bind fun r13=>
     if r13 then
      pb (cc s4) fun⟨r14,s9⟩=>
      some (.ret (r14,s9))
     else
      (cQ s4 ([([109,105,110]:List UInt8),([109,97,120]:List UInt8),([105,102]:List UInt8),([99,97,115,116]:List UInt8)]:List (List UInt8))).bind fun⟨r15,s10⟩=>
      if decide (r15=0)then
       pb (cT rec_ s10 9 2) fun⟨r16,s11⟩=>
       some (.ret (r16,s11))
      else
       if decide (r15=1)then
        pb (cT rec_ s10 10 2) fun⟨r17,s12⟩=>
        some (.ret (r17,s12))
       else
        if decide (r15=2)then
         pb (cT rec_ s10 11 3) fun⟨r18,s13⟩=>
         some (.ret (r18,s13))
        else
         if decide (r15=3)then
          pb (eU rec_ s10) fun⟨r19,s14⟩=>
          some (.ret (r19,s14))
         else
          pb (bn s10) fun⟨r20,s15⟩=>
          pb (aF s15 ([91]:List UInt8)) fun⟨r21,s16⟩=>
          (av s16 ([93]:List UInt8)).bind fun⟨r22,s17⟩=>
          if r22 then
           some (.ret ((⟨3,r20,(⟨0,0⟩:GVal),(⟨0,0,0,0,0⟩:GType),(⟨0,([]:List GMono)⟩:GLin),([]:List GIndex),([]:List GExpr)⟩:GExpr),s17))
          else
           pb (cG s17) fun⟨r23,s18⟩=>
           bJ fu s18 (⟨3,r20,(⟨0,0⟩:GVal),(⟨0,0,0,0,0⟩:GType),(⟨0,([]:List GMono)⟩:GLin),([r23]:List GIndex),([]:List GExpr)⟩:GExpr)
def eW (rec_:(aa→Option (bu (GExpr×aa)))) (recs_:(aa→Option (bu (GExpr×aa)))) (r1:aa):Option (bu (GExpr×aa)):=
 (bZ r1 3 ([45]:List UInt8)).bind fun r2=>
 if !r2 then
  pb (dC rec_ r1) fun⟨r3,s1⟩=>
  some (.ret (r3,s1))
 else
  pb (bM r1) fun⟨r4,s2⟩=>
  pb (recs_ s2) fun⟨r5,s3⟩=>
  some (.ret ((⟨8,([]:List UInt8),(⟨0,0⟩:GVal),(⟨0,0,0,0,0⟩:GType),(⟨0,([]:List GMono)⟩:GLin),([]:List GIndex),([r5]:List GExpr)⟩:GExpr),(⟨s3.l,s3.at_,aq (s3.deep - 1)⟩:aa)))
def bN (rec_:(aa→Option (bu (GExpr×aa)))):Nat→(aa→Option (bu (GExpr×aa)))
 | 0=>fun _=>none
 | n+1=>eW rec_ (bN rec_ n)
def hO (rec_:(aa→Option (bu (GExpr×aa)))) (r1:aa):Option (bu (GExpr×aa)):=bN rec_ fu r1
def iv (e1:GExpr) (rec_:(aa→Option (bu (GExpr×aa)))) (self1:aa→GExpr→Option (bu (GExpr×aa))) (op1:Int) (r4:aa):Option (bu (GExpr×aa)):=
 if decide (op1=0)then
  some (.ret (e1,r4))
 else
  pb (hO rec_ r4) fun⟨r5,s2⟩=>
  self1 s2 (⟨op1,([]:List UInt8),(⟨0,0⟩:GVal),(⟨0,0,0,0,0⟩:GType),(⟨0,([]:List GMono)⟩:GLin),([]:List GIndex),([e1,r5]:List GExpr)⟩:GExpr)
def fT (self2:Int→Int→aa→Option (bu (GExpr×aa))) (i1:Int) (op3:Int) (r7:aa):Option (bu (GExpr×aa)):=
 self2 op3 (aq (i1+1)) r7
def bT (signs1:List (List UInt8)) (ops1:List Int) (e1:GExpr) (rec_:(aa→Option (bu (GExpr×aa)))) (self1:aa→GExpr→Option (bu (GExpr×aa))):Nat→Int→Int→aa→Option (bu (GExpr×aa))
 | 0,_,_,_=>none
 | fuel2+1,op2,i1,r6=>
  if decide (i1<(signs1.length:Int))then
   (lat signs1 i1).bind fun e2=>
   (Ct (decide (op2=0)) (av r6 e2) (default,r6)).bind fun⟨r8,s3⟩=>
   if(decide (op2=0))&&r8 then
    (lat ops1 i1).bind fun e3=>
    fT (bT signs1 ops1 e1 rec_ self1 fuel2) i1 e3 s3
   else
    fT (bT signs1 ops1 e1 rec_ self1 fuel2) i1 op2 s3
  else
   iv e1 rec_ self1 op2 r6
def bx (signs1:List (List UInt8)) (ops1:List Int) (rec_:(aa→Option (bu (GExpr×aa)))):Nat→aa→GExpr→Option (bu (GExpr×aa))
 | 0,_,_=>none
 | fuel1+1,r3,e1=>
  bT signs1 ops1 e1 rec_ (bx signs1 ops1 rec_ fuel1) fu 0 0 r3
def gM (rec_:(aa→Option (bu (GExpr×aa)))) (r1:aa) (signs1:List (List UInt8)) (ops1:List Int):Option (bu (GExpr×aa)):=
 pb (hO rec_ r1) fun⟨r2,s1⟩=>
 bx signs1 ops1 rec_ fu s1 r2
def cL (rec_:(aa→Option (bu (GExpr×aa)))) (r1:aa):Option (bu (GExpr×aa)):=
 pb (gM rec_ r1 ([([42]:List UInt8),([47]:List UInt8)]:List (List UInt8)) ([6,7]:List Int)) fun⟨r2,s1⟩=>
 some (.ret (r2,s1))
def iw (e1:GExpr) (rec_:(aa→Option (bu (GExpr×aa)))) (self1:aa→GExpr→Option (bu (GExpr×aa))) (op1:Int) (r4:aa):Option (bu (GExpr×aa)):=
 if decide (op1=0)then
  some (.ret (e1,r4))
 else
  pb (cL rec_ r4) fun⟨r5,s2⟩=>
  self1 s2 (⟨op1,([]:List UInt8),(⟨0,0⟩:GVal),(⟨0,0,0,0,0⟩:GType),(⟨0,([]:List GMono)⟩:GLin),([]:List GIndex),([e1,r5]:List GExpr)⟩:GExpr)
def fU (self2:Int→Int→aa→Option (bu (GExpr×aa))) (i1:Int) (op3:Int) (r7:aa):Option (bu (GExpr×aa)):=
 self2 op3 (aq (i1+1)) r7
def bU (signs1:List (List UInt8)) (ops1:List Int) (e1:GExpr) (rec_:(aa→Option (bu (GExpr×aa)))) (self1:aa→GExpr→Option (bu (GExpr×aa))):Nat→Int→Int→aa→Option (bu (GExpr×aa))
 | 0,_,_,_=>none
 | fuel2+1,op2,i1,r6=>
  if decide (i1<(signs1.length:Int))then
   (lat signs1 i1).bind fun e2=>
   (Ct (decide (op2=0)) (av r6 e2) (default,r6)).bind fun⟨r8,s3⟩=>
   if(decide (op2=0))&&r8 then
    (lat ops1 i1).bind fun e3=>
    fU (bU signs1 ops1 e1 rec_ self1 fuel2) i1 e3 s3
   else
    fU (bU signs1 ops1 e1 rec_ self1 fuel2) i1 op2 s3
  else
   iw e1 rec_ self1 op2 r6
def bz (signs1:List (List UInt8)) (ops1:List Int) (rec_:(aa→Option (bu (GExpr×aa)))):Nat→aa→GExpr→Option (bu (GExpr×aa))
 | 0,_,_=>none
 | fuel1+1,r3,e1=>
  bU signs1 ops1 e1 rec_ (bz signs1 ops1 rec_ fuel1) fu 0 0 r3
def gN (rec_:(aa→Option (bu (GExpr×aa)))) (r1:aa) (signs1:List (List UInt8)) (ops1:List Int):Option (bu (GExpr×aa)):=
 pb (cL rec_ r1) fun⟨r2,s1⟩=>
 bz signs1 ops1 rec_ fu s1 r2
def d4 (rec_:(aa→Option (bu (GExpr×aa)))) (r1:aa):Option (bu (GExpr×aa)):=
 pb (gN rec_ r1 ([([43]:List UInt8),([45]:List UInt8)]:List (List UInt8)) ([4,5]:List Int)) fun⟨r2,s1⟩=>
 some (.ret (r2,s1))
def iy (e1:GExpr) (rec_:(aa→Option (bu (GExpr×aa)))) (self1:aa→GExpr→Option (bu (GExpr×aa))) (op1:Int) (r4:aa):Option (bu (GExpr×aa)):=
 if decide (op1=0)then
  some (.ret (e1,r4))
 else
  pb (d4 rec_ r4) fun⟨r5,s2⟩=>
  self1 s2 (⟨op1,([]:List UInt8),(⟨0,0⟩:GVal),(⟨0,0,0,0,0⟩:GType),(⟨0,([]:List GMono)⟩:GLin),([]:List GIndex),([e1,r5]:List GExpr)⟩:GExpr)
def fV (self2:Int→Int→aa→Option (bu (GExpr×aa))) (i1:Int) (op3:Int) (r7:aa):Option (bu (GExpr×aa)):=
 self2 op3 (aq (i1+1)) r7
def bV (signs1:List (List UInt8)) (ops1:List Int) (e1:GExpr) (rec_:(aa→Option (bu (GExpr×aa)))) (self1:aa→GExpr→Option (bu (GExpr×aa))):Nat→Int→Int→aa→Option (bu (GExpr×aa))
 | 0,_,_,_=>none
 | fuel2+1,op2,i1,r6=>
  if decide (i1<(signs1.length:Int))then
   (lat signs1 i1).bind fun e2=>
   (Ct (decide (op2=0)) (av r6 e2) (default,r6)).bind fun⟨r8,s3⟩=>
   if(decide (op2=0))&&r8 then
    (lat ops1 i1).bind fun e3=>
    fV (bV signs1 ops1 e1 rec_ self1 fuel2) i1 e3 s3
   else
    fV (bV signs1 ops1 e1 rec_ self1 fuel2) i1 op2 s3
  else
   iy e1 rec_ self1 op2 r6
def bA (signs1:List (List UInt8)) (ops1:List Int) (rec_:(aa→Option (bu (GExpr×aa)))):Nat→aa→GExpr→Option (bu (GExpr×aa))
 | 0,_,_=>none
 | fuel1+1,r3,e1=>
  bV signs1 ops1 e1 rec_ (bA signs1 ops1 rec_ fuel1) fu 0 0 r3
def fr (rec_:(aa→Option (bu (GExpr×aa)))) (r1:aa) (signs1:List (List UInt8)) (ops1:List Int):Option (bu (GExpr×aa)):=
 pb (d4 rec_ r1) fun⟨r2,s1⟩=>
 bA signs1 ops1 rec_ fu s1 r2
def fK (rec_:(aa→Option (bu (GExpr×aa)))) (recs_:(aa→Option (bu (GExpr×aa)))) (r1:aa):Option (bu (GExpr×aa)):=
 (bZ r1 3 ([33]:List UInt8)).bind fun r2=>
 if !r2 then
  pb (fr rec_ r1 ([([60]:List UInt8),([60,61]:List UInt8),([61,61]:List UInt8)]:List (List UInt8)) ([13,14,15]:List Int)) fun⟨r3,s1⟩=>
  some (.ret (r3,s1))
 else
  pb (bM r1) fun⟨r4,s2⟩=>
  pb (recs_ s2) fun⟨r5,s3⟩=>
  some (.ret ((⟨18,([]:List UInt8),(⟨0,0⟩:GVal),(⟨0,0,0,0,0⟩:GType),(⟨0,([]:List GMono)⟩:GLin),([]:List GIndex),([r5]:List GExpr)⟩:GExpr),(⟨s3.l,s3.at_,aq (s3.deep - 1)⟩:aa)))
def cj (rec_:(aa→Option (bu (GExpr×aa)))):Nat→(aa→Option (bu (GExpr×aa)))
 | 0=>fun _=>none
 | n+1=>fK rec_ (cj rec_ n)
def iX (rec_:(aa→Option (bu (GExpr×aa)))) (r1:aa):Option (bu (GExpr×aa)):=cj rec_ fu r1
def iz (e1:GExpr) (rec_:(aa→Option (bu (GExpr×aa)))) (self1:aa→GExpr→Option (bu (GExpr×aa))) (op1:Int) (r4:aa):Option (bu (GExpr×aa)):=
 if decide (op1=0)then
  some (.ret (e1,r4))
 else
  pb (iX rec_ r4) fun⟨r5,s2⟩=>
  self1 s2 (⟨op1,([]:List UInt8),(⟨0,0⟩:GVal),(⟨0,0,0,0,0⟩:GType),(⟨0,([]:List GMono)⟩:GLin),([]:List GIndex),([e1,r5]:List GExpr)⟩:GExpr)
def fW (self2:Int→Int→aa→Option (bu (GExpr×aa))) (i1:Int) (op3:Int) (r7:aa):Option (bu (GExpr×aa)):=
 self2 op3 (aq (i1+1)) r7
def bW (signs1:List (List UInt8)) (ops1:List Int) (e1:GExpr) (rec_:(aa→Option (bu (GExpr×aa)))) (self1:aa→GExpr→Option (bu (GExpr×aa))):Nat→Int→Int→aa→Option (bu (GExpr×aa))
 | 0,_,_,_=>none
 | fuel2+1,op2,i1,r6=>
  if decide (i1<(signs1.length:Int))then
   (lat signs1 i1).bind fun e2=>
   (Ct (decide (op2=0)) (av r6 e2) (default,r6)).bind fun⟨r8,s3⟩=>
   if(decide (op2=0))&&r8 then
    (lat ops1 i1).bind fun e3=>
    fW (bW signs1 ops1 e1 rec_ self1 fuel2) i1 e3 s3
   else
    fW (bW signs1 ops1 e1 rec_ self1 fuel2) i1 op2 s3
  else
   iz e1 rec_ self1 op2 r6
def bB (signs1:List (List UInt8)) (ops1:List Int) (rec_:(aa→Option (bu (GExpr×aa)))):Nat→aa→GExpr→Option (bu (GExpr×aa))
 | 0,_,_=>none
 | fuel1+1,r3,e1=>
  bW signs1 ops1 e1 rec_ (bB signs1 ops1 rec_ fuel1) fu 0 0 r3
def gO (rec_:(aa→Option (bu (GExpr×aa)))) (r1:aa) (signs1:List (List UInt8)) (ops1:List Int):Option (bu (GExpr×aa)):=
 pb (iX rec_ r1) fun⟨r2,s1⟩=>
 bB signs1 ops1 rec_ fu s1 r2
def d5 (rec_:(aa→Option (bu (GExpr×aa)))) (r1:aa):Option (bu (GExpr×aa)):=
 pb (gO rec_ r1 ([([38]:List UInt8)]:List (List UInt8)) ([16]:List Int)) fun⟨r2,s1⟩=>
 some (.ret (r2,s1))
def iS (e1:GExpr) (rec_:(aa→Option (bu (GExpr×aa)))) (self1:aa→GExpr→Option (bu (GExpr×aa))) (op1:Int) (r4:aa):Option (bu (GExpr×aa)):=
 if decide (op1=0)then
  some (.ret (e1,r4))
 else
  pb (d5 rec_ r4) fun⟨r5,s2⟩=>
  self1 s2 (⟨op1,([]:List UInt8),(⟨0,0⟩:GVal),(⟨0,0,0,0,0⟩:GType),(⟨0,([]:List GMono)⟩:GLin),([]:List GIndex),([e1,r5]:List GExpr)⟩:GExpr)
def ge (self2:Int→Int→aa→Option (bu (GExpr×aa))) (i1:Int) (op3:Int) (r7:aa):Option (bu (GExpr×aa)):=
 self2 op3 (aq (i1+1)) r7
def ce (signs1:List (List UInt8)) (ops1:List Int) (e1:GExpr) (rec_:(aa→Option (bu (GExpr×aa)))) (self1:aa→GExpr→Option (bu (GExpr×aa))):Nat→Int→Int→aa→Option (bu (GExpr×aa))
 | 0,_,_,_=>none
 | fuel2+1,op2,i1,r6=>
  if decide (i1<(signs1.length:Int))then
   (lat signs1 i1).bind fun e2=>
   (Ct (decide (op2=0)) (av r6 e2) (default,r6)).bind fun⟨r8,s3⟩=>
   if(decide (op2=0))&&r8 then
    (lat ops1 i1).bind fun e3=>
    ge (ce signs1 ops1 e1 rec_ self1 fuel2) i1 e3 s3
   else
    ge (ce signs1 ops1 e1 rec_ self1 fuel2) i1 op2 s3
  else
   iS e1 rec_ self1 op2 r6
def bG (signs1:List (List UInt8)) (ops1:List Int) (rec_:(aa→Option (bu (GExpr×aa)))):Nat→aa→GExpr→Option (bu (GExpr×aa))
 | 0,_,_=>none
 | fuel1+1,r3,e1=>
  ce signs1 ops1 e1 rec_ (bG signs1 ops1 rec_ fuel1) fu 0 0 r3
def hP (rec_:(aa→Option (bu (GExpr×aa)))) (r1:aa) (signs1:List (List UInt8)) (ops1:List Int):Option (bu (GExpr×aa)):=
 pb (d5 rec_ r1) fun⟨r2,s1⟩=>
 bG signs1 ops1 rec_ fu s1 r2
def gc (rec_:(aa→Option (bu (GExpr×aa)))) (r1:aa):Option (bu (GExpr×aa)):=
 pb (hP rec_ r1 ([([124]:List UInt8)]:List (List UInt8)) ([17]:List Int)) fun⟨r2,s1⟩=>
 some (.ret (r2,s1))
def ao:Nat→(aa→Option (bu (GExpr×aa)))
 | 0=>fun _=>none
 | n+1=>gc (ao n)
def lC (r1:aa):Option (bu (GExpr×aa)):=ao fu r1
def jr (a1:aa) (a3:GExpr):Option (bu (Unit×aa×GExpr)):=
 pb (lC a1) fun⟨r1,s1⟩=>
 some (.ret ((),s1,r1))
def jb (l1:List GToken) (at1:Int):Option (GExpr×Int×Int):=
 if(decide (at1<0))||(decide ((l1.length:Int)<at1))then
  some ((⟨0,([]:List UInt8),(⟨0,0⟩:GVal),(⟨0,0,0,0,0⟩:GType),(⟨0,([]:List GMono)⟩:GLin),([]:List GIndex),([]:List GExpr)⟩:GExpr),0,1)
 else
  xY (jr (⟨l1,at1,0⟩:aa) (⟨0,([]:List UInt8),(⟨0,0⟩:GVal),(⟨0,0,0,0,0⟩:GType),(⟨0,([]:List GMono)⟩:GLin),([]:List GIndex),([]:List GExpr)⟩:GExpr)) (fun⟨r1,s1,s2⟩=>
   if !decide (0=0)then
    some ((⟨0,([]:List UInt8),(⟨0,0⟩:GVal),(⟨0,0,0,0,0⟩:GType),(⟨0,([]:List GMono)⟩:GLin),([]:List GIndex),([]:List GExpr)⟩:GExpr),0,0)
   else
    (ii s2).bind fun r2=>
    if !decide (r2=0)then
     some ((⟨0,([]:List UInt8),(⟨0,0⟩:GVal),(⟨0,0,0,0,0⟩:GType),(⟨0,([]:List GMono)⟩:GLin),([]:List GIndex),([]:List GExpr)⟩:GExpr),at1,r2)
    else
     some (s2,s1.at_,0)) fun pa1 pn1=>
   some ((⟨0,([]:List UInt8),(⟨0,0⟩:GVal),(⟨0,0,0,0,0⟩:GType),(⟨0,([]:List GMono)⟩:GLin),([]:List GIndex),([]:List GExpr)⟩:GExpr),pa1,pn1)
def n8 (s1:List UInt8) (l1:List GToken) (at1:Int):Option Int:=
 if decide ((l1.length:Int)≤at1)then
  some (s1.length:Int)
 else
  (lat l1 at1).bind fun e1=>
  some e1.At
def lW (s1:List UInt8) (r1:List GToken×Int×Int) (r2:GExpr×Int×Int) (e1:Int):Option (GExpr×Int×Int):=
 if !decide (e1=0)then
  (n8 s1 r1.1 r2.2.1).bind fun r3=>
  some ((⟨0,([]:List UInt8),(⟨0,0⟩:GVal),(⟨0,0,0,0,0⟩:GType),(⟨0,([]:List GMono)⟩:GLin),([]:List GIndex),([]:List GExpr)⟩:GExpr),r3,e1)
 else
  some (r2.1,0,0)
def kR (s1:List UInt8):Option (GExpr×Int×Int):=
 (nw s1).bind fun r1=>
 if !decide (r1.2.2=0)then
  some ((⟨0,([]:List UInt8),(⟨0,0⟩:GVal),(⟨0,0,0,0,0⟩:GType),(⟨0,([]:List GMono)⟩:GLin),([]:List GIndex),([]:List GExpr)⟩:GExpr),r1.2.1,r1.2.2)
 else
  (jb r1.1 0).bind fun r2=>
  if(decide (r2.2.2=0))&&(decide (r2.2.1<(r1.1.length:Int)))then
   lW s1 r1 r2 5
  else
   lW s1 r1 r2 r2.2.2
def iG (a1:GLin) (b1:GLin):Nat→Int→Option Bool
 | 0,_=>none
 | fuel1+1,i1=>
  if decide (i1<(a1.L.length:Int))then
   (lat a1.L i1).bind fun e1=>
   (lat b1.L i1).bind fun e2=>
   if !((decide (e1.Name=e2.Name))&&(decide (e1.By=e2.By)))then
    some false
   else
    (iG a1 b1 fuel1) (aq (i1+1))
  else
   some true
def lJ (a1:GLin) (b1:GLin):Option Bool:=
 if(!decide (a1.K=b1.K))||(!decide ((a1.L.length:Int)=(b1.L.length:Int)))then
  some false
 else
  iG a1 b1 fu 0
def jZ:Option Bool:=
 (nt ([50,42,105,32,45,32,51,32,43,32,105]:List UInt8)).bind fun r1=>
 (pL r1.1 0).bind fun r2=>
 (kR ([97,91,105,93,32,43,32,98,91,93,32,42,32,91,50,93]:List UInt8)).bind fun r3=>
 (kR ([97,91]:List UInt8)).bind fun r4=>
 (kR ([97,91,105,93,32,43,42,32,50]:List UInt8)).bind fun r5=>
 (kR ([102,114,97,99,40,50,47,52,41]:List UInt8)).bind fun r6=>
 if(!((!decide (r2.2.2=0))||(!decide (r2.2.1=7))))=true then
  (lJ r2.1 (⟨(-3),([(⟨([105]:List UInt8),3⟩:GMono)]:List GMono)⟩:GLin)).bind fun r7=>
  if((((!decide (r2.2.2=0))||(!decide (r2.2.1=7)))||(!r7))||(!decide (r3.2.2=0)))||(!decide ((r3.1.Args.length:Int)=2))then
   some false
  else
   (gd (decide (r3.1.Op=4)) (lat r3.1.Args 0)).bind fun e1=>
   (gd ((decide (r3.1.Op=4))&&(decide (e1.Op=3))) (lat r3.1.Args 1)).bind fun e2=>
   some (((((((((decide (r3.1.Op=4))&&(decide (e1.Op=3)))&&(decide (e2.Op=6)))&&(decide (r4.2.1=2)))&&(decide (r4.2.2=6)))&&(decide (r5.2.1=6)))&&(decide (r5.2.2=5)))&&(decide (r6.2.1=5)))&&(decide (r6.2.2=5)))
 else none
def kP (p1:ac) (k1:Int) (s1:List UInt8) (kind1:Int):Option Bool:=
 (lat p1.L (aq (p1.At+k1))).bind fun e1=>
 (gd (decide (e1.Kind=kind1)) (lat p1.L (aq (p1.At+k1)))).bind fun e2=>
 some ((decide (e1.Kind=kind1))&&(decide (e2.Text=s1)))
def aJ (p1:ac) (k1:Int) (s1:List UInt8):Option Bool:=
 if(!decide (p1.E=0))||(decide ((p1.L.length:Int)≤aq (p1.At+k1)))then
  some false
 else
  (sat s1 0).bind fun b2=>
  (gd (decide (97≤b2)) (sat s1 0)).bind fun b3=>
  if(decide (97≤b2))&&(decide (b3≤122))then
   kP p1 k1 s1 1
  else
   kP p1 k1 s1 3
def l5:Option (List (List UInt8)):=
 some ([([115,105,122,101]:List UInt8),([119,104,101,114,101]:List UInt8),([105,110]:List UInt8),([100,101,102]:List UInt8),([111,117,116]:List UInt8),([115,117,109]:List UInt8),([112,114,111,100]:List UInt8),([109,105,110]:List UInt8),([109,97,120]:List UInt8),([115,99,97,110]:List UInt8),([111,118,101,114]:List UInt8),([105,102]:List UInt8),([99,97,115,116]:List UInt8),([102,114,97,99]:List UInt8),([105,110,116]:List UInt8),([102,105,120]:List UInt8),([99,101,105,108]:List UInt8),([102,108,111,111,114]:List UInt8),([122,101,114,111]:List UInt8),([101,118,101,110]:List UInt8),([115,97,116]:List UInt8),([119,114,97,112]:List UInt8)]:List (List UInt8))
def gP (l1:List (List UInt8)) (s1:List UInt8):Nat→Int→Option Bool
 | 0,_=>none
 | fuel1+1,i1=>
  if decide (i1<(l1.length:Int))then
   (lat l1 i1).bind fun e1=>
   if decide (e1=s1)then
    some true
   else
    (gP l1 s1 fuel1) (aq (i1+1))
  else
   some false
def nz (l1:List (List UInt8)) (s1:List UInt8):Option Bool:=
 gP l1 s1 fu 0
def gj (s1:List UInt8):Nat→Int→Option Bool
 | 0,_=>none
 | fuel1+1,i1=>
  if decide (i1<(s1.length:Int))then
   (sat s1 i1).bind fun b1=>
   if !(((decide (97≤b1))&&(decide (b1≤122)))||((decide (0<i1))&&(((decide (48≤b1))&&(decide (b1≤57)))||(decide (b1=95)))))then
    some false
   else
    (gj s1 fuel1) (aq (i1+1))
  else
   some true
def gW (s1:List UInt8):Option Bool:=
 (gd (!((decide ((s1.length:Int)<1))||(decide (16<(s1.length:Int))))) (l5)).bind fun r1=>
 (gd (!((decide ((s1.length:Int)<1))||(decide (16<(s1.length:Int))))) (nz r1 s1)).bind fun r2=>
 if((decide ((s1.length:Int)<1))||(decide (16<(s1.length:Int))))||r2 then
  some false
 else
  gj s1 fu 0
def gK (p1:ac):Option Bool:=
 (gd ((decide (p1.E=0))&&(decide (p1.At<(p1.L.length:Int)))) (lat p1.L p1.At)).bind fun e1=>
 (gd (((decide (p1.E=0))&&(decide (p1.At<(p1.L.length:Int))))&&(decide (e1.Kind=1))) (lat p1.L p1.At)).bind fun e2=>
 (gd (((decide (p1.E=0))&&(decide (p1.At<(p1.L.length:Int))))&&(decide (e1.Kind=1))) (gW e2.Text)).bind fun r1=>
 some ((((decide (p1.E=0))&&(decide (p1.At<(p1.L.length:Int))))&&(decide (e1.Kind=1)))&&r1)
def br (p1:ac) (at1:Int) (e1:Int):Option ac:=
 if decide (p1.E=0)then
  some (⟨p1.L,p1.At,p1.Deep,e1,at1⟩:ac)
 else
  some p1
def cX (p1:ac):Option ac:=
 if decide ((p1.L.length:Int)≤p1.At)then
  (br p1 (p1.L.length:Int) 6).bind fun r1=>
  some r1
 else
  (br p1 p1.At 5).bind fun r2=>
  some r2
def el (p1:ac):Option (List UInt8×ac):=
 (gK p1).bind fun r1=>
 if !r1 then
  (cX p1).bind fun r2=>
  some (([]:List UInt8),r2)
 else
  (lat p1.L (aq ((aq (p1.At+1)) - 1))).bind fun e1=>
  some (e1.Text,(⟨p1.L,aq (p1.At+1),p1.Deep,p1.E,p1.Pos⟩:ac))
def eB (name1:List UInt8):Option GLin:=
 (gW name1).bind fun r1=>
 if !r1 then
  some (⟨0,([]:List GMono)⟩:GLin)
 else
  some (⟨0,([(⟨name1,1⟩:GMono)]:List GMono)⟩:GLin)
def jo (s1:List UInt8):Option Bool:=
 (gd ((!(decide (s1=([48]:List UInt8))))&&(decide (0<(s1.length:Int)))) (sat s1 0)).bind fun b1=>
 some ((decide (s1=([48]:List UInt8)))||((decide (0<(s1.length:Int)))&&(!decide (b1=48))))
def ff (s1:List UInt8):Nat→Int→Option Bool
 | 0,_=>none
 | fuel1+1,i1=>
  if decide (i1<(s1.length:Int))then
   (sat s1 i1).bind fun b2=>
   (gd (!(decide (b2<48))) (sat s1 i1)).bind fun b3=>
   if(decide (b2<48))||(decide (57<b3))then
    some false
   else
    (ff s1 fuel1) (aq (i1+1))
  else
   jo s1
def mM (s1:List UInt8):Option Bool:=
 ff s1 fu 0
def dM (p1:ac):Option (List UInt8×ac):=
 (gd (!((!decide (p1.E=0))||(decide ((p1.L.length:Int)≤p1.At)))) (lat p1.L p1.At)).bind fun e1=>
 (gd (!(((!decide (p1.E=0))||(decide ((p1.L.length:Int)≤p1.At)))||(!decide (e1.Kind=2)))) (lat p1.L p1.At)).bind fun e2=>
 (gd (!(((!decide (p1.E=0))||(decide ((p1.L.length:Int)≤p1.At)))||(!decide (e1.Kind=2)))) (mM e2.Text)).bind fun r1=>
 if(((!decide (p1.E=0))||(decide ((p1.L.length:Int)≤p1.At)))||(!decide (e1.Kind=2)))||(!r1)then
  (cX p1).bind fun r2=>
  some (([]:List UInt8),r2)
 else
  (lat p1.L (aq ((aq (p1.At+1)) - 1))).bind fun e3=>
  some (e3.Text,(⟨p1.L,aq (p1.At+1),p1.Deep,p1.E,p1.Pos⟩:ac))
def iA (a1:Int) (b1:Int):Option (Int×Bool):=
 if(decide (a1=0))||(decide (b1=0))then
  some (0,true)
 else
  if((!(((decide (a1=(-1)))&&(decide (b1=(-9223372036854775808))))||((decide (b1=(-1)))&&(decide (a1=(-9223372036854775808))))))=true→b1≠0)then
   if(((decide (a1=(-1)))&&(decide (b1=(-9223372036854775808))))||((decide (b1=(-1)))&&(decide (a1=(-9223372036854775808)))))||(!decide (aq (Int.tdiv (aq (a1 * b1)) b1)=a1))then
    some (0,false)
   else
    some (aq (a1 * b1),true)
  else none
def lI (a1:Int) (b1:Int):Option (Int×Bool):=
 if((decide (0<b1))&&(decide (aq (9223372036854775807 - b1)<a1)))||((decide (b1<0))&&(decide (a1<aq ((-9223372036854775808) - b1))))then
  some (0,false)
 else
  some (aq (a1+b1),true)
def hH (n1:Int) (self1:Int→Int→Option (Int×Bool)) (i1:Int) (d1:Int):Option (Int×Bool):=
 (iA n1 10).bind fun r1=>
 (lI r1.1 d1).bind fun r2=>
 if(!r1.2)||(!r2.2)then
  some (0,false)
 else
  self1 r2.1 (aq (i1+1))
def cv (s1:List UInt8) (negative1:Bool):Nat→Int→Int→Option (Int×Bool)
 | 0,_,_=>none
 | fuel1+1,n1,i1=>
  if decide (i1<(s1.length:Int))then
   (sat s1 i1).bind fun b1=>
   if negative1 then
    (some (aq (-(aq (Ef (b1 - 48)))))).bind fun d2=>
    hH n1 (cv s1 negative1 fuel1) i1 d2
   else
    hH n1 (cv s1 negative1 fuel1) i1 (aq (Ef (b1 - 48)))
  else
   some (n1,true)
def gb (s1:List UInt8) (negative1:Bool):Option (Int×Bool):=
 cv s1 negative1 fu 0 0
def cY (l1:GLin):Nat→Int→Option Bool
 | 0,_=>none
 | fuel1+1,i1=>
  if decide (i1<(l1.L.length:Int))then
   (lat l1.L i1).bind fun e1=>
   (gW e1.Name).bind fun r1=>
   (gd (!(!r1)) (lat l1.L i1)).bind fun e2=>
   (gd ((!((!r1)||(decide (e2.By=0))))&&(decide (0<i1))) (lat l1.L (aq (i1 - 1)))).bind fun e3=>
   (gd ((!((!r1)||(decide (e2.By=0))))&&(decide (0<i1))) (lat l1.L i1)).bind fun e4=>
   if((!r1)||(decide (e2.By=0)))||((decide (0<i1))&&(!Op.bytesLess e3.Name e4.Name))then
    some false
   else
    (cY l1 fuel1) (aq (i1+1))
  else
   some true
def gu (l1:GLin):Option Bool:=
 cY l1 fu 0
def gC (l1:GLin):Option Int:=
 (gu l1).bind fun r1=>
 if !r1 then
  some 1
 else
  some 0
def gD (a1:GLin) (by1:Int):Nat→Int→GLin→Option (GLin×Int)
 | 0,_,_=>none
 | fuel1+1,i1,ba=>
  if decide (i1<(a1.L.length:Int))then
   (lat a1.L i1).bind fun e1=>
   (iA e1.By by1).bind fun r3=>
   if !r3.2 then
    some ((⟨0,([]:List GMono)⟩:GLin),3)
   else
    (lat a1.L i1).bind fun e2=>
    (mD ba.L ([(⟨e2.Name,r3.1⟩:GMono)]:List GMono)).bind fun zs1=>
    (gD a1 by1 fuel1) (aq (i1+1)) (⟨ba.K,zs1⟩:GLin)
  else
   some (ba,0)
def fZ (a1:GLin) (by1:Int):Option (GLin×Int):=
 (gC a1).bind fun r1=>
 if !decide (r1=0)then
  some ((⟨0,([]:List GMono)⟩:GLin),1)
 else
  if decide (by1=0)then
   some ((⟨0,([]:List GMono)⟩:GLin),0)
  else
   (iA a1.K by1).bind fun r2=>
   if !r2.2 then
    some ((⟨0,([]:List GMono)⟩:GLin),3)
   else
    gD a1 by1 fu 0 (⟨r2.1,([]:List GMono)⟩:GLin)
def dX:Nat→(List (List UInt8))→Int→Option (List (List UInt8))
 | 0,_,_=>none
 | fuel1+1,l2,i2=>
  (gd (decide (0<i2)) (lat l2 (aq (i2 - 1)))).bind fun e1=>
  (gd (decide (0<i2)) (lat l2 i2)).bind fun e2=>
  if(decide (0<i2))&&(!Op.bytesLess e1 e2&& !decide (e1=e2))then
   (lat l2 i2).bind fun e3=>
   (lat l2 (aq (i2 - 1))).bind fun e4=>
   if 0≤i2∧i2<(l2.length:Int)then
    if 0≤(aq (i2 - 1))∧(aq (i2 - 1))<((l2.set (Int.toNat i2) e4).length:Int)then
     (dX fuel1) ((l2.set (Int.toNat i2) e4).set (Int.toNat (aq (i2 - 1))) e3) (aq (i2 - 1))
    else none
   else none
  else
   some (l2)
def jV (l1:List (List UInt8)) (s1:List UInt8):Option (List (List UInt8)):=
 (nz l1 s1).bind fun r1=>
 if r1 then
  some (l1)
 else
  (mD l1 ([s1]:List (List UInt8))).bind fun zs1=>
  (some (aq ((zs1.length:Int) - 1))).bind fun i1=>
  dX fu zs1 i1
def nu (self1:(List (List UInt8))→Int→Option (List (List UInt8))) (i1:Int) (out2:List (List UInt8)):Option (List (List UInt8)):=
 self1 out2 (aq (i1+1))
def dp (l1:List GLin) (i1:Int) (self1:(List (List UInt8))→Int→Option (List (List UInt8))):Nat→(List (List UInt8))→Int→Option (List (List UInt8))
 | 0,_,_=>none
 | fuel2+1,out3,k1=>
  (lat l1 i1).bind fun e1=>
  if decide (k1<(e1.L.length:Int))then
   (lat l1 i1).bind fun e2=>
   (lat e2.L k1).bind fun e3=>
   (jV out3 e3.Name).bind fun r1=>
   (dp l1 i1 self1 fuel2) r1 (aq (k1+1))
  else
   nu self1 i1 out3
def bY (l1:List GLin):Nat→(List (List UInt8))→Int→Option (List (List UInt8))
 | 0,_,_=>none
 | fuel1+1,ba,i1=>
  if decide (i1<(l1.length:Int))then
   dp l1 i1 (bY l1 fuel1) fu ba 0
  else
   some ba
def mi (l1:List GLin):Option (List (List UInt8)):=
 bY l1 fu ([]:List (List UInt8)) 0
def fJ (l1:GLin) (name1:List UInt8):Nat→Int→Option Int
 | 0,_=>none
 | fuel1+1,i1=>
  if decide (i1<(l1.L.length:Int))then
   (lat l1.L i1).bind fun e1=>
   if decide (e1.Name=name1)then
    (lat l1.L i1).bind fun e2=>
    some e2.By
   else
    (fJ l1 name1 fuel1) (aq (i1+1))
  else
   some 0
def mj (l1:GLin) (name1:List UInt8):Option Int:=
 fJ l1 name1 fu 0
def jW (self1:Int→GLin→Option (GLin×Int)) (i1:Int) (out2:GLin):Option (GLin×Int):=
 self1 (aq (i1+1)) out2
def dq (r4:List (List UInt8)) (a1:GLin) (b1:GLin):Nat→Int→GLin→Option (GLin×Int)
 | 0,_,_=>none
 | fuel1+1,i1,ba=>
  if decide (i1<(r4.length:Int))then
   (lat r4 i1).bind fun e1=>
   (lat r4 i1).bind fun e2=>
   (mj a1 e1).bind fun r5=>
   (mj b1 e2).bind fun r6=>
   (lI r5 r6).bind fun r7=>
   if !r7.2 then
    some ((⟨0,([]:List GMono)⟩:GLin),3)
   else
    if !decide (r7.1=0)then
     (lat r4 i1).bind fun e3=>
     (mD ba.L ([(⟨e3,r7.1⟩:GMono)]:List GMono)).bind fun zs1=>
     jW (dq r4 a1 b1 fuel1) i1 (⟨ba.K,zs1⟩:GLin)
    else
     jW (dq r4 a1 b1 fuel1) i1 ba
  else
   some (ba,0)
def my (a1:GLin) (b1:GLin):Option (GLin×Int):=
 (gC a1).bind fun r1=>
 (gd (!(!decide (r1=0))) (gC b1)).bind fun r2=>
 if(!decide (r1=0))||(!decide (r2=0))then
  some ((⟨0,([]:List GMono)⟩:GLin),1)
 else
  (lI a1.K b1.K).bind fun r3=>
  if !r3.2 then
   some ((⟨0,([]:List GMono)⟩:GLin),3)
  else
   (mi ([a1,b1]:List GLin)).bind fun r4=>
   dq r4 a1 b1 fu 0 (⟨r3.1,([]:List GMono)⟩:GLin)
def bk (negative1:Bool) (f1:GLin) (p1:ac) (s1:List UInt8) (x1:GLin) (p2:ac):Option (GLin×ac):=
 if !decide (p2.E=0)then
  some ((⟨0,([]:List GMono)⟩:GLin),p2)
 else
  (gb s1 negative1).bind fun r1=>
  (fZ x1 r1.1).bind fun r2=>
  (my f1 r2.1).bind fun r3=>
  if(!r1.2)||(!decide (r3.2=0))then
   (br p2 p1.At 3).bind fun r4=>
   some ((⟨0,([]:List GMono)⟩:GLin),r4)
  else
   some (r3.1,p2)
def eh (p1:ac) (f1:GLin) (negative1:Bool):Option (GLin×ac):=
 (gK p1).bind fun r5=>
 if r5 then
  (el p1).bind fun r6=>
  (eB r6.1).bind fun r7=>
  bk negative1 f1 p1 ([49]:List UInt8) r7 r6.2
 else
  (dM p1).bind fun r8=>
  (aJ r8.2 0 ([42]:List UInt8)).bind fun r9=>
  if r9 then
   (el (⟨r8.2.L,aq (r8.2.At+1),r8.2.Deep,r8.2.E,r8.2.Pos⟩:ac)).bind fun r10=>
   (eB r10.1).bind fun r11=>
   bk negative1 f1 p1 r8.1 r11 r10.2
  else
   bk negative1 f1 p1 r8.1 (⟨1,([]:List GMono)⟩:GLin) r8.2
def dl:Nat→ac→GLin→Option (GLin×ac)
 | 0,_,_=>none
 | fuel1+1,p3,f1=>
  (aJ p3 0 ([43]:List UInt8)).bind fun r3=>
  (gd (!r3) (aJ p3 0 ([45]:List UInt8))).bind fun r4=>
  if r3||r4 then
   (aJ p3 0 ([45]:List UInt8)).bind fun r5=>
   (eh (⟨p3.L,aq (p3.At+1),p3.Deep,p3.E,p3.Pos⟩:ac) f1 r5).bind fun r6=>
   (dl fuel1) r6.2 r6.1
  else
   some (f1,p3)
def i6 (r1:Bool) (p2:ac):Option (GLin×ac):=
 (eh p2 (⟨0,([]:List GMono)⟩:GLin) r1).bind fun r2=>
 dl fu r2.2 r2.1
def fA (p1:ac):Option (GLin×ac):=
 (aJ p1 0 ([45]:List UInt8)).bind fun r1=>
 if r1 then
  i6 r1 (⟨p1.L,aq (p1.At+1),p1.Deep,p1.E,p1.Pos⟩:ac)
 else
  i6 r1 p1
def fm (p1:ac):Option ac:=
 if(decide (p1.E=0))&&(decide (160≤p1.Deep))then
  (br p1 p1.At 13).bind fun r1=>
  some r1
 else
  some (⟨p1.L,aq (p1.At+1),aq (p1.Deep+1),p1.E,p1.Pos⟩:ac)
def aE (p1:ac) (s1:List UInt8):Option ac:=
 (aJ p1 0 s1).bind fun r1=>
 if !r1 then
  (cX p1).bind fun r2=>
  some r2
 else
  some (⟨p1.L,aq (p1.At+1),p1.Deep,p1.E,p1.Pos⟩:ac)
def gp (p1:ac):Option (Int×ac):=
 (dM p1).bind fun r1=>
 (gb r1.1 false).bind fun r2=>
 if(!r2.2)||(decide (2147483647<r2.1))then
  (br r1.2 p1.At 3).bind fun r3=>
  some (0,r3)
 else
  some (r2.1,r1.2)
def cP (l1:List (List UInt8)) (p1:ac):Nat→Int→Option (Int×ac)
 | 0,_=>none
 | fuel1+1,i1=>
  if decide (i1<(l1.length:Int))then
   (lat l1 i1).bind fun e1=>
   (aJ p1 0 e1).bind fun r1=>
   if r1 then
    some (aq (i1+1),(⟨p1.L,aq (p1.At+1),p1.Deep,p1.E,p1.Pos⟩:ac))
   else
    (cP l1 p1 fuel1) (aq (i1+1))
  else
   (cX p1).bind fun r2=>
   some (0,r2)
def gS (p1:ac) (l1:List (List UInt8)):Option (Int×ac):=
 cP l1 p1 fu 0
def lH (t1:GType):Option Bool:=
 if(decide (t1.Kind=1))||(decide (t1.Kind=3))then
  some ((((decide (t1.Bits=0))&&(decide (t1.Frac=0)))&&(decide (t1.Round=0)))&&(decide (t1.Over=0)))
 else
  some ((((((((decide (t1.Kind=2))&&(decide (2≤t1.Bits)))&&(decide (t1.Bits≤31)))&&(decide (0≤t1.Frac)))&&(decide (t1.Frac≤30)))&&(decide (1≤t1.Round)))&&(decide (t1.Round≤4)))&&((decide (t1.Over=1))||(decide (t1.Over=2))))
def iE (p1:ac):Option (GType×ac):=
 (aJ p1 0 ([102,114,97,99]:List UInt8)).bind fun r1=>
 if r1 then
  some ((⟨1,0,0,0,0⟩:GType),(⟨p1.L,aq (p1.At+1),p1.Deep,p1.E,p1.Pos⟩:ac))
 else
  (aJ p1 0 ([105,110,116]:List UInt8)).bind fun r2=>
  if r2 then
   some ((⟨3,0,0,0,0⟩:GType),(⟨p1.L,aq (p1.At+1),p1.Deep,p1.E,p1.Pos⟩:ac))
  else
   (aE p1 ([102,105,120]:List UInt8)).bind fun r3=>
   (aE r3 ([40]:List UInt8)).bind fun r4=>
   (gp r4).bind fun r5=>
   (aE r5.2 ([44]:List UInt8)).bind fun r6=>
   (gp r6).bind fun r7=>
   (aE r7.2 ([44]:List UInt8)).bind fun r8=>
   (gS r8 ([([102,108,111,111,114]:List UInt8),([99,101,105,108]:List UInt8),([122,101,114,111]:List UInt8),([101,118,101,110]:List UInt8)]:List (List UInt8))).bind fun r9=>
   (aE r9.2 ([44]:List UInt8)).bind fun r10=>
   (gS r10 ([([115,97,116]:List UInt8),([119,114,97,112]:List UInt8)]:List (List UInt8))).bind fun r11=>
   (aE r11.2 ([41]:List UInt8)).bind fun r12=>
   (gd (decide (r12.E=0)) (lH (⟨2,r5.1,r7.1,r9.1,r11.1⟩:GType))).bind fun r13=>
   if(decide (r12.E=0))&&(!r13)then
    (br r12 p1.At 10).bind fun r14=>
    some ((⟨2,r5.1,r7.1,r9.1,r11.1⟩:GType),r14)
   else
    some ((⟨2,r5.1,r7.1,r9.1,r11.1⟩:GType),r12)
def ib (p1:ac) (p3:ac) (out2:GExpr):Option (GExpr×ac):=
 (aE p3 ([41]:List UInt8)).bind fun r4=>
 some (out2,(⟨r4.L,r4.At,p1.Deep,r4.E,r4.Pos⟩:ac))
def dN (rec_:(ac→Int→Option (GExpr×ac))) (out3:GExpr) (self1:Int→ac→GExpr→Option (GExpr×ac)) (i1:Int) (p5:ac):Option (GExpr×ac):=
 (rec_ p5 1).bind fun r5=>
 (mD out3.Args ([r5.1]:List GExpr)).bind fun zs1=>
 self1 (aq (i1+1)) r5.2 (⟨out3.Op,out3.Name,out3.Val,out3.Type_,out3.Lin,out3.Idx,zs1⟩:GExpr)
def bI (many1:Int) (typed1:Bool) (rec_:(ac→Int→Option (GExpr×ac))) (p1:ac):Nat→Int→ac→GExpr→Option (GExpr×ac)
 | 0,_,_,_=>none
 | fuel1+1,i1,p4,out3=>
  if decide (i1<many1)then
   if(decide (0<i1))||typed1 then
    (aE p4 ([44]:List UInt8)).bind fun r6=>
    dN rec_ out3 (bI many1 typed1 rec_ p1 fuel1) i1 r6
   else
    dN rec_ out3 (bI many1 typed1 rec_ p1 fuel1) i1 p4
  else
   ib p1 p4 out3
def dO (many1:Int) (typed1:Bool) (rec_:(ac→Int→Option (GExpr×ac))) (p1:ac) (ba:GExpr) (p2:ac):Option (GExpr×ac):=
 bI many1 typed1 rec_ p1 fu 0 p2 ba
def dG (rec_:(ac→Int→Option (GExpr×ac))) (p1:ac) (op1:Int) (many1:Int) (typed1:Bool):Option (GExpr×ac):=
 (aJ p1 0 ([40]:List UInt8)).bind fun r1=>
 if !r1 then
  (cX p1).bind fun r2=>
  some ((⟨0,([]:List UInt8),(⟨0,0⟩:GVal),(⟨0,0,0,0,0⟩:GType),(⟨0,([]:List GMono)⟩:GLin),([]:List GIndex),([]:List GExpr)⟩:GExpr),r2)
 else
  (fm p1).bind fun r3=>
  if typed1 then
   (iE r3).bind fun r7=>
   dO many1 typed1 rec_ p1 (⟨op1,([]:List UInt8),(⟨0,0⟩:GVal),r7.1,(⟨0,([]:List GMono)⟩:GLin),([]:List GIndex),([]:List GExpr)⟩:GExpr) r7.2
  else
   dO many1 typed1 rec_ p1 (⟨op1,([]:List UInt8),(⟨0,0⟩:GVal),(⟨0,0,0,0,0⟩:GType),(⟨0,([]:List GMono)⟩:GLin),([]:List GIndex),([]:List GExpr)⟩:GExpr) r3
def ez (l1:List (List UInt8)) (p1:ac):Nat→Int→Option Bool
 | 0,_=>none
 | fuel1+1,i1=>
  if decide (i1<(l1.length:Int))then
   (lat l1 i1).bind fun e1=>
   (aJ p1 0 e1).bind fun r1=>
   if r1 then
    some true
   else
    (ez l1 p1 fuel1) (aq (i1+1))
  else
   some false
def lq (p1:ac) (l1:List (List UInt8)):Option Bool:=
 ez l1 p1 fu 0
def gE (from1:Int) (s1:List UInt8):Option Bool:=
 (gd (decide (from1<(s1.length:Int))) (sat s1 from1)).bind fun b1=>
 some ((decide (from1<(s1.length:Int)))&&((!decide (b1=48))||(decide ((s1.length:Int)=1))))
def iK (s1:List UInt8) (from1:Int):Nat→Int→Option Bool
 | 0,_=>none
 | fuel1+1,i1=>
  if decide (i1<(s1.length:Int))then
   (sat s1 i1).bind fun b2=>
   (gd (!(decide (b2<48))) (sat s1 i1)).bind fun b3=>
   if(decide (b2<48))||(decide (57<b3))then
    some false
   else
    (iK s1 from1 fuel1) (aq (i1+1))
  else
   gE from1 s1
def eT (s1:List UInt8) (from1:Int):Option Bool:=
 iK s1 from1 fu from1
def kQ (s1:List UInt8):Option Bool:=
 (gd (decide (1<(s1.length:Int))) (sat s1 0)).bind fun b4=>
 if(decide (1<(s1.length:Int)))&&(decide (b4=45))then
  eT s1 1
 else
  eT s1 0
def eS (s1:List UInt8) (n1:Int):Option (Int×Bool):=
 (gd (decide (0<(s1.length:Int))) (sat s1 0)).bind fun b1=>
 if(decide (0<(s1.length:Int)))&&(decide (b1=45))then
  some (aq (-n1),true)
 else
  some (n1,true)
def iJ (self1:Int→Int→Option (Int×Bool)) (i1:Int) (n3:Int):Option (Int×Bool):=
 self1 n3 (aq (i1+1))
def ci (s1:List UInt8):Nat→Int→Int→Option (Int×Bool)
 | 0,_,_=>none
 | fuel1+1,n2,i1=>
  if decide (i1<(s1.length:Int))then
   (sat s1 i1).bind fun b2=>
   if decide (b2=45)then
    iJ (ci s1 fuel1) i1 n2
   else
    (sat s1 i1).bind fun b3=>
    (some (aq ((aq (n2 * 10))+(aq (Ef (b3 - 48)))))).bind fun n4=>
    if decide (2147483647<n4)then
     some (0,false)
    else
     iJ (ci s1 fuel1) i1 n4
  else
   eS s1 n2
def gL (s1:List UInt8):Option (Int×Bool):=
 ci s1 fu 0 0
def jq (n1:Int):Option Int:=
 if decide (n1<0)then
  some (ki ((ki (aq (-(aq (n1+1)))))+1))
 else
  some (ki n1)
def jX:Nat→Int→Int→Option Int
 | 0,_,_=>none
 | fuel1+1,a2,b2=>
  if !decide (b2=0)then
   if b2≠0 then
    (jX fuel1) b2 (Int.tmod a2 b2)
   else none
  else
   some a2
def oT (a1:Int) (b1:Int):Option Int:=
 jX fu a1 b1
def iM (up1:List UInt8) (down2:List UInt8):Option (GVal×Int):=
 (gL up1).bind fun r2=>
 (gL down2).bind fun r3=>
 if(!r2.2)||(!r3.2)then
  some ((⟨0,0⟩:GVal),3)
 else
  (jq r2.1).bind fun r4=>
  (jq r3.1).bind fun r5=>
  (oT r4 r5).bind fun r6=>
  if !decide (r6=1)then
   some ((⟨0,0⟩:GVal),5)
  else
   some ((⟨r2.1,r3.1⟩:GVal),0)
def jY (up1:List UInt8) (down1:List UInt8):Option (GVal×Int):=
 (kQ up1).bind fun r1=>
 if !r1 then
  some ((⟨0,0⟩:GVal),5)
 else
  if decide (down1=([]:List UInt8))then
   iM up1 ([49]:List UInt8)
  else
   iM up1 down1
def iL (self1:(List UInt8)→(List UInt8)→Int→Option (GVal×Int)) (i1:Int) (up3:List UInt8) (down4:List UInt8):Option (GVal×Int):=
 self1 up3 down4 (aq (i1+1))
def dr (s1:List UInt8):Nat→(List UInt8)→(List UInt8)→Int→Option (GVal×Int)
 | 0,_,_,_=>none
 | fuel1+1,up2,down3,i1=>
  if(decide (i1<(s1.length:Int)))&&(decide (down3=([]:List UInt8)))then
   (sat s1 i1).bind fun b2=>
   if decide (b2=47)then
    (oV s1 i1).bind fun s2=>
    (jH s1 (aq (i1+1))).bind fun s3=>
    (kQ s3).bind fun r7=>
    (gd (!(!r7)) (sat s3 0)).bind fun b3=>
    if(((!r7)||(decide (b3=45)))||(decide (s3=([48]:List UInt8))))||(decide (s3=([49]:List UInt8)))then
     some ((⟨0,0⟩:GVal),5)
    else
     iL (dr s1 fuel1) i1 s2 s3
   else
    iL (dr s1 fuel1) i1 up2 down3
  else
   jY up2 down3
def mm (s1:List UInt8):Option (GVal×Int):=
 dr s1 fu s1 ([]:List UInt8) 0
def lU (t1:GType):Option Int:=
 if 0≤(ki t1.Frac)then
  some (aq (1 * 2 ^ (min (Int.toNat (ki t1.Frac)) 64)))
 else none
def kV:Nat→Int→Int→Option Int
 | 0,_,_=>none
 | fuel1+1,a2,b2=>
  if !decide (b2=0)then
   if b2≠0 then
    (kV fuel1) b2 (Int.tmod a2 b2)
   else none
  else
   some a2
def pP (a1:Int) (b1:Int):Option Int:=
 kV fu a1 b1
def ny (t1:GType) (v1:GVal):Option Bool:=
 if decide (t1.Kind=2)then
  if 0≤(aq (t1.Bits - 1))then
   (some (aq (1 * 2 ^ (min (Int.toNat (aq (t1.Bits - 1))) 64)))).bind fun half1=>
   some (((decide (v1.D=1))&&(decide (aq (-half1)≤v1.N)))&&(decide (v1.N<half1)))
  else none
 else
  if(((decide (2147483647<v1.N))||(decide (v1.N<(-2147483647))))||(decide (v1.D<1)))||(decide (2147483647<v1.D))then
   some false
  else
   if decide (t1.Kind=3)then
    some (decide (v1.D=1))
   else
    (pP (max v1.N (aq (-v1.N))) v1.D).bind fun r1=>
    some (decide (r1=1))
def ml (t1:GType) (s1:List UInt8):Option (GVal×Int):=
 (lH t1).bind fun r1=>
 if !r1 then
  some ((⟨0,0⟩:GVal),10)
 else
  (mm s1).bind fun r2=>
  if(!decide (r2.2=0))||(decide (t1.Kind=1))then
   some (r2.1,r2.2)
  else
   if decide (t1.Kind=3)then
    if !decide (r2.1.D=1)then
     some ((⟨0,0⟩:GVal),5)
    else
     some (r2.1,0)
   else
    (lU t1).bind fun r3=>
    if r2.1.D≠0 then
     if !decide (Int.tmod r3 r2.1.D=0)then
      some ((⟨0,0⟩:GVal),5)
     else
      (lU t1).bind fun r4=>
      (ny t1 (⟨aq (r2.1.N * (aq (Int.tdiv r4 r2.1.D))),1⟩:GVal)).bind fun r5=>
      if !r5 then
       some ((⟨0,0⟩:GVal),3)
      else
       some ((⟨aq (r2.1.N * (aq (Int.tdiv r4 r2.1.D))),1⟩:GVal),0)
    else none
def cJ (t1:GType) (p1:ac) (s3:List UInt8) (p3:ac):Option (GVal×ac):=
 if !decide (p3.E=0)then
  some ((⟨0,0⟩:GVal),p3)
 else
  (ml t1 s3).bind fun r2=>
  if !decide (r2.2=0)then
   (br p3 p1.At r2.2).bind fun r3=>
   some ((⟨0,0⟩:GVal),r3)
  else
   some (r2.1,p3)
def dW (t1:GType) (p1:ac) (s1:List UInt8) (p2:ac):Option (GVal×ac):=
 (dM p2).bind fun r1=>
 (mD s1 r1.1).bind fun s2=>
 (aJ r1.2 0 ([47]:List UInt8)).bind fun r4=>
 if r4 then
  (dM (⟨r1.2.L,aq (r1.2.At+1),r1.2.Deep,r1.2.E,r1.2.Pos⟩:ac)).bind fun r5=>
  (mD ([47]:List UInt8) r5.1).bind fun s4=>
  (mD s2 s4).bind fun s5=>
  cJ t1 p1 s5 r5.2
 else
  cJ t1 p1 s2 r1.2
def fI (p1:ac) (t1:GType):Option (GVal×ac):=
 (aJ p1 0 ([45]:List UInt8)).bind fun r6=>
 if r6 then
  dW t1 p1 ([45]:List UInt8) (⟨p1.L,aq (p1.At+1),p1.Deep,p1.E,p1.Pos⟩:ac)
 else
  dW t1 p1 ([]:List UInt8) p1
def eJ:Nat→(List GLin)→ac→GLin→Option (List GLin×ac)
 | 0,_,_,_=>none
 | fuel1+1,ba,p2,f1=>
  (aJ p2 0 ([44]:List UInt8)).bind fun r3=>
  if r3 then
   (fA (⟨p2.L,aq (p2.At+1),p2.Deep,p2.E,p2.Pos⟩:ac)).bind fun r4=>
   (mD ba ([r4.1]:List GLin)).bind fun zs2=>
   (eJ fuel1) zs2 r4.2 r4.1
  else
   (aE p2 ([93]:List UInt8)).bind fun r5=>
   some (ba,r5)
def jB (p1:ac):Option (List GLin×ac):=
 (aJ p1 0 ([93]:List UInt8)).bind fun r1=>
 if r1 then
  some (([]:List GLin),(⟨p1.L,aq (p1.At+1),p1.Deep,p1.E,p1.Pos⟩:ac))
 else
  (fA p1).bind fun r2=>
  (mD ([]:List GLin) ([r2.1]:List GLin)).bind fun zs1=>
  eJ fu zs1 r2.2 r2.1
def fY (p1:ac):Option (GIndex×ac):=
 (gK p1).bind fun r1=>
 (gd r1 (aJ p1 1 ([91]:List UInt8))).bind fun r2=>
 if r1&&r2 then
  (el p1).bind fun r3=>
  (aE r3.2 ([91]:List UInt8)).bind fun r4=>
  (jB r4).bind fun r5=>
  some ((⟨(⟨0,([]:List GMono)⟩:GLin),r3.1,r5.1⟩:GIndex),r5.2)
 else
  (fA p1).bind fun r6=>
  some ((⟨r6.1,([]:List UInt8),([]:List GLin)⟩:GIndex),r6.2)
def kI (x1:GIndex) (ba:GExpr) (p2:ac):Option (GExpr×ac):=
 (aE p2 ([93]:List UInt8)).bind fun r5=>
 some (ba,r5)
def eE:Nat→ac→GExpr→GIndex→Option (GExpr×ac)
 | 0,_,_,_=>none
 | fuel1+1,p3,out2,x2=>
  (aJ p3 0 ([44]:List UInt8)).bind fun r6=>
  if r6 then
   (fY (⟨p3.L,aq (p3.At+1),p3.Deep,p3.E,p3.Pos⟩:ac)).bind fun r7=>
   (mD out2.Idx ([r7.1]:List GIndex)).bind fun zs2=>
   (eE fuel1) r7.2 (⟨out2.Op,out2.Name,out2.Val,out2.Type_,out2.Lin,zs2,out2.Args⟩:GExpr) r7.1
  else
   kI x2 out2 p3
def iu (p1:ac):Option (GExpr×ac):=
 (el p1).bind fun r1=>
 (aE r1.2 ([91]:List UInt8)).bind fun r2=>
 (aJ r2 0 ([93]:List UInt8)).bind fun r3=>
 if r3 then
  some ((⟨3,r1.1,(⟨0,0⟩:GVal),(⟨0,0,0,0,0⟩:GType),(⟨0,([]:List GMono)⟩:GLin),([]:List GIndex),([]:List GExpr)⟩:GExpr),(⟨r2.L,aq (r2.At+1),r2.Deep,r2.E,r2.Pos⟩:ac))
 else
  (fY r2).bind fun r4=>
  (mD ([]:List GIndex) ([r4.1]:List GIndex)).bind fun zs1=>
  eE fu r4.2 (⟨3,r1.1,(⟨0,0⟩:GVal),(⟨0,0,0,0,0⟩:GType),(⟨0,([]:List GMono)⟩:GLin),zs1,([]:List GExpr)⟩:GExpr) r4.1
def fz (rec_:(ac→Int→Option (GExpr×ac))) (p1:ac):Option (GExpr×ac):=
 (aJ p1 0 ([40]:List UInt8)).bind fun r1=>
 if r1 then
  (dG rec_ p1 4 1 false).bind fun r2=>
  if !decide (r2.2.E=0)then
   some ((⟨0,([]:List UInt8),(⟨0,0⟩:GVal),(⟨0,0,0,0,0⟩:GType),(⟨0,([]:List GMono)⟩:GLin),([]:List GIndex),([]:List GExpr)⟩:GExpr),r2.2)
  else
   (lat r2.1.Args 0).bind fun e1=>
   some (e1,r2.2)
 else
  (aJ p1 0 ([91]:List UInt8)).bind fun r3=>
  if r3 then
   (fA (⟨p1.L,aq (p1.At+1),p1.Deep,p1.E,p1.Pos⟩:ac)).bind fun r4=>
   (aE r4.2 ([93]:List UInt8)).bind fun r5=>
   some ((⟨2,([]:List UInt8),(⟨0,0⟩:GVal),(⟨0,0,0,0,0⟩:GType),r4.1,([]:List GIndex),([]:List GExpr)⟩:GExpr),r5)
  else
   (lq p1 ([([102,114,97,99]:List UInt8),([105,110,116]:List UInt8),([102,105,120]:List UInt8)]:List (List UInt8))).bind fun r6=>
   if r6 then
    (iE p1).bind fun r7=>
    (aE r7.2 ([40]:List UInt8)).bind fun r8=>
    (fI r8 r7.1).bind fun r9=>
    (aE r9.2 ([41]:List UInt8)).bind fun r10=>
    some ((⟨1,([]:List UInt8),r9.1,r7.1,(⟨0,([]:List GMono)⟩:GLin),([]:List GIndex),([]:List GExpr)⟩:GExpr),r10)
   else
    (lq p1 ([([109,105,110]:List UInt8),([109,97,120]:List UInt8),([105,102]:List UInt8),([99,97,115,116]:List UInt8)]:List (List UInt8))).bind fun r11=>
    if r11 then
     (gS p1 ([([109,105,110]:List UInt8),([109,97,120]:List UInt8),([105,102]:List UInt8),([99,97,115,116]:List UInt8)]:List (List UInt8))).bind fun r12=>
     if decide (r12.1=1)then
      (dG rec_ r12.2 9 2 false).bind fun r13=>
      some (r13.1,r13.2)
     else
      if decide (r12.1=2)then
       (dG rec_ r12.2 10 2 false).bind fun r14=>
       some (r14.1,r14.2)
      else
       if decide (r12.1=3)then
        (dG rec_ r12.2 11 3 false).bind fun r15=>
        some (r15.1,r15.2)
       else
        (dG rec_ r12.2 12 1 true).bind fun r16=>
        some (r16.1,r16.2)
    else
     (iu p1).bind fun r17=>
     some (r17.1,r17.2)
def dS (p1:ac) (n1:Int):Option Int:=
 (gd (decide (n1=1)) (aJ p1 0 ([124]:List UInt8))).bind fun r1=>
 if(decide (n1=1))&&r1 then
  some 17
 else
  (gd (decide (n1=2)) (aJ p1 0 ([38]:List UInt8))).bind fun r2=>
  if(decide (n1=2))&&r2 then
   some 16
  else
   (gd (decide (n1=4)) (aJ p1 0 ([60]:List UInt8))).bind fun r3=>
   if(decide (n1=4))&&r3 then
    some 13
   else
    (gd (decide (n1=4)) (aJ p1 0 ([60,61]:List UInt8))).bind fun r4=>
    if(decide (n1=4))&&r4 then
     some 14
    else
     (gd (decide (n1=4)) (aJ p1 0 ([61,61]:List UInt8))).bind fun r5=>
     if(decide (n1=4))&&r5 then
      some 15
     else
      (gd (decide (n1=5)) (aJ p1 0 ([43]:List UInt8))).bind fun r6=>
      if(decide (n1=5))&&r6 then
       some 4
      else
       (gd (decide (n1=5)) (aJ p1 0 ([45]:List UInt8))).bind fun r7=>
       if(decide (n1=5))&&r7 then
        some 5
       else
        (gd (decide (n1=6)) (aJ p1 0 ([42]:List UInt8))).bind fun r8=>
        if(decide (n1=6))&&r8 then
         some 6
        else
         (gd (decide (n1=6)) (aJ p1 0 ([47]:List UInt8))).bind fun r9=>
         if(decide (n1=6))&&r9 then
          some 7
         else
          some 0
def iI (p1:ac) (rec_:(ac→Int→Option (GExpr×ac))) (n1:Int) (ba:GExpr):Option (GExpr×ac):=
 (fm p1).bind fun r3=>
 (rec_ r3 n1).bind fun r4=>
 some ((⟨ba.Op,ba.Name,ba.Val,ba.Type_,ba.Lin,ba.Idx,([r4.1]:List GExpr)⟩:GExpr),(⟨r4.2.L,r4.2.At,p1.Deep,r4.2.E,r4.2.Pos⟩:ac))
def bm (n1:Int) (rec_:(ac→Int→Option (GExpr×ac))):Nat→GExpr→ac→Option (GExpr×ac)
 | 0,_,_=>none
 | fuel1+1,x1,q1=>
  (dS q1 n1).bind fun r7=>
  if !decide (r7=0)then
   (dS q1 n1).bind fun r8=>
   (rec_ (⟨q1.L,aq (q1.At+1),q1.Deep,q1.E,q1.Pos⟩:ac) (aq (n1+1))).bind fun r9=>
   (bm n1 rec_ fuel1) (⟨r8,([]:List UInt8),(⟨0,0⟩:GVal),(⟨0,0,0,0,0⟩:GType),(⟨0,([]:List GMono)⟩:GLin),([]:List GIndex),([x1,r9.1]:List GExpr)⟩:GExpr) r9.2
  else
   some (x1,q1)
def bl (rec_:(ac→Int→Option (GExpr×ac))) (p1:ac) (n1:Int):Option (GExpr×ac):=
 (gd (decide (n1=3)) (aJ p1 0 ([33]:List UInt8))).bind fun r1=>
 (gd ((!((decide (n1=3))&&r1))&&(decide (n1=7))) (aJ p1 0 ([45]:List UInt8))).bind fun r2=>
 if((decide (n1=3))&&r1)||((decide (n1=7))&&r2)then
  if decide (n1=7)then
   iI p1 rec_ n1 (⟨8,([]:List UInt8),(⟨0,0⟩:GVal),(⟨0,0,0,0,0⟩:GType),(⟨0,([]:List GMono)⟩:GLin),([]:List GIndex),([]:List GExpr)⟩:GExpr)
  else
   iI p1 rec_ n1 (⟨18,([]:List UInt8),(⟨0,0⟩:GVal),(⟨0,0,0,0,0⟩:GType),(⟨0,([]:List GMono)⟩:GLin),([]:List GIndex),([]:List GExpr)⟩:GExpr)
 else
  if decide (n1=7)then
   (fz rec_ p1).bind fun r5=>
   some (r5.1,r5.2)
  else
   (rec_ p1 (aq (n1+1))).bind fun r6=>
   bm n1 rec_ fu r6.1 r6.2
def aB:Nat→(ac→Int→Option (GExpr×ac))
 | 0=>fun _ _=>none
 | n+1=>bl (aB n)
def nH (p1:ac) (n1:Int):Option (GExpr×ac):=aB fu p1 n1
def eQ (e1:GExpr) (most1:Int) (rec_:(GExpr→Int→Option Int)):Nat→Int→Int→Option Int
 | 0,_,_=>none
 | fuel1+1,d1,i1=>
  if(decide (i1<(e1.Args.length:Int)))&&(decide (1<most1))then
   (lat e1.Args i1).bind fun e2=>
   (rec_ e2 (aq (most1 - 1))).bind fun r1=>
   (eQ e1 most1 rec_ fuel1) (max d1 (aq (1+r1))) (aq (i1+1))
  else
   some d1
def kJ (rec_:(GExpr→Int→Option Int)) (e1:GExpr) (most1:Int):Option Int:=
 eQ e1 most1 rec_ fu 1 0
def i7:Nat→(GExpr→Int→Option Int)
 | 0=>fun _ _=>none
 | n+1=>kJ (i7 n)
def o5 (e1:GExpr) (most1:Int):Option Int:=i7 fu e1 most1
def nI (e1:GExpr):Option Int:=
 (o5 e1 41).bind fun r1=>
 some r1
def dm (e1:GExpr) (most1:Int) (rec_:(GExpr→Int→Option Int)):Nat→Int→Int→Option Int
 | 0,_,_=>none
 | fuel1+1,n1,i1=>
  if(decide (i1<(e1.Args.length:Int)))&&(decide (n1≤most1))then
   (lat e1.Args i1).bind fun e2=>
   (rec_ e2 (aq (most1 - n1))).bind fun r1=>
   (dm e1 most1 rec_ fuel1) (aq (n1+r1)) (aq (i1+1))
  else
   some n1
def lu (rec_:(GExpr→Int→Option Int)) (e1:GExpr) (most1:Int):Option Int:=
 dm e1 most1 rec_ fu 1 0
def fo:Nat→(GExpr→Int→Option Int)
 | 0=>fun _ _=>none
 | n+1=>lu (fo n)
def pJ (e1:GExpr) (most1:Int):Option Int:=fo fu e1 most1
def mO (e1:GExpr):Option Int:=
 (pJ e1 2000).bind fun r1=>
 some (min r1 2001)
def eN (e1:GExpr):Nat→Int→Option Bool
 | 0,_=>none
 | fuel1+1,i1=>
  if decide (i1<(e1.Idx.length:Int))then
   (lat e1.Idx i1).bind fun e2=>
   if((decide (e2.From=([]:List UInt8)))&&(decide (0<(e2.At.length:Int))))||((!decide (e2.From=([]:List UInt8)))&&((!decide (e2.Lin.K=0))||(decide (0<(e2.Lin.L.length:Int)))))then
    some false
   else
    (eN e1 fuel1) (aq (i1+1))
  else
   some true
def mg (e1:GExpr):Option Bool:=
 if(decide (e1.Op<1))||(decide (18<e1.Op))then
  some false
 else
  if((!decide (e1.Op=1))&&(!((decide (e1.Val.N=0))&&(decide (e1.Val.D=0)))))||(((!decide (e1.Op=1))&&(!decide (e1.Op=12)))&&(!((decide (e1.Type_.Kind=0))&&(decide (e1.Type_.Bits=0))&&(decide (e1.Type_.Frac=0))&&(decide (e1.Type_.Round=0))&&(decide (e1.Type_.Over=0)))))then
   some false
  else
   if((!decide (e1.Op=2))&&((!decide (e1.Lin.K=0))||(decide (0<(e1.Lin.L.length:Int)))))||((!decide (e1.Op=3))&&((!decide (e1.Name=([]:List UInt8)))||(decide (0<(e1.Idx.length:Int)))))then
    some false
   else
    eN e1 fu 0
def eO (e1:GExpr):Nat→Int→Option Bool
 | 0,_=>none
 | fuel1+1,i1=>
  if decide (i1<(e1.Idx.length:Int))then
   (lat e1.Idx i1).bind fun e2=>
   (gd (!decide (e2.From=([]:List UInt8))) (lat e1.Idx i1)).bind fun e3=>
   (gd (!decide (e2.From=([]:List UInt8))) (gW e3.From)).bind fun r2=>
   if(!decide (e2.From=([]:List UInt8)))&&(!r2)then
    some false
   else
    (eO e1 fuel1) (aq (i1+1))
  else
   some true
def mh (e1:GExpr):Option Bool:=
 (gd (decide (e1.Op=3)) (gW e1.Name)).bind fun r1=>
 if(decide (e1.Op=3))&&(!r1)then
  some false
 else
  eO e1 fu 0
def i8 (op1:Int) (i2:Bool):Option Int:=
 if i2 then
  some 1
 else
  if decide (op1=11)then
   some 3
  else
   some 2
def ja (op1:Int) (i1:Bool):Option Int:=
 if i1 then
  some 0
 else
  if decide (op1=8)then
   i8 op1 (decide (op1=8))
  else
   if decide (op1=12)then
    i8 op1 (decide (op1=12))
   else
    i8 op1 (decide (op1=18))
def mN (op1:Int):Option Int:=
 if decide (op1=1)then
  ja op1 (decide (op1=1))
 else
  if decide (op1=2)then
   ja op1 (decide (op1=2))
  else
   ja op1 (decide (op1=3))
def en (e1:GExpr):Nat→Int→Option Bool
 | 0,_=>none
 | fuel1+1,i1=>
  if decide (i1<(e1.Idx.length:Int))then
   (lat e1.Idx i1).bind fun e2=>
   if decide (6<(e2.At.length:Int))then
    some false
   else
    (en e1 fuel1) (aq (i1+1))
  else
   some true
def lv (e1:GExpr):Option Bool:=
 (mN e1.Op).bind fun r1=>
 if(!decide ((e1.Args.length:Int)=r1))||(decide (6<(e1.Idx.length:Int)))then
  some false
 else
  en e1 fu 0
def jO (e1:GExpr):Option Bool:=
 some ((decide (13≤e1.Op))&&(decide (e1.Op≤18)))
def me (op1:Int) (at1:Int):Option Bool:=
 some (((((decide (op1=11))&&(decide (at1=0)))||(decide (op1=16)))||(decide (op1=17)))||(decide (op1=18)))
def eK (e1:GExpr):Nat→Int→Option Bool
 | 0,_=>none
 | fuel1+1,i1=>
  if decide (i1<(e1.Args.length:Int))then
   (lat e1.Args i1).bind fun e2=>
   (jO e2).bind fun r2=>
   (me e1.Op i1).bind fun r3=>
   if r2 != r3 then
    some false
   else
    (eK e1 fuel1) (aq (i1+1))
  else
   some true
def mf (e1:GExpr):Option Bool:=
 (gd ((decide (e1.Op=1))||(decide (e1.Op=12))) (lH e1.Type_)).bind fun r1=>
 if((decide (e1.Op=1))||(decide (e1.Op=12)))&&(!r1)then
  some false
 else
  eK e1 fu 0
def lg (self1:Int→Option Bool) (i1:Int):Option Bool:=
 self1 (aq (i1+1))
def eo (e1:GExpr) (i1:Int) (self1:Int→Option Bool):Nat→Int→Option Bool
 | 0,_=>none
 | fuel2+1,k1=>
  (lat e1.Idx i1).bind fun e3=>
  if decide (k1<(e3.At.length:Int))then
   (lat e1.Idx i1).bind fun e4=>
   (lat e4.At k1).bind fun e5=>
   (gu e5).bind fun r4=>
   if !r4 then
    some false
   else
    (eo e1 i1 self1 fuel2) (aq (k1+1))
  else
   lg self1 i1
def bS (e1:GExpr):Nat→Int→Option Bool
 | 0,_=>none
 | fuel1+1,i1=>
  if decide (i1<(e1.Idx.length:Int))then
   (lat e1.Idx i1).bind fun e2=>
   (gu e2.Lin).bind fun r3=>
   if !r3 then
    some false
   else
    eo e1 i1 (bS e1 fuel1) fu 0
  else
   some true
def ly (e1:GExpr):Option Bool:=
 (gd (decide (e1.Op=1)) (ny e1.Type_ e1.Val)).bind fun r1=>
 (gd (!((decide (e1.Op=1))&&(!r1))) (gu e1.Lin)).bind fun r2=>
 if((decide (e1.Op=1))&&(!r1))||(!r2)then
  some false
 else
  bS e1 fu 0
def gq (e1:GExpr) (rec_:(GExpr→Option Int)):Nat→Int→Option Int
 | 0,_=>none
 | fuel1+1,i1=>
  if decide (i1<(e1.Args.length:Int))then
   (lat e1.Args i1).bind fun e2=>
   (rec_ e2).bind fun r6=>
   if !decide (r6=0)then
    some r6
   else
    (gq e1 rec_ fuel1) (aq (i1+1))
  else
   some 0
def lw (rec_:(GExpr→Option Int)) (e1:GExpr):Option Int:=
 (mg e1).bind fun r1=>
 if !r1 then
  some 5
 else
  (mh e1).bind fun r2=>
  if !r2 then
   some 7
  else
   (lv e1).bind fun r3=>
   if !r3 then
    some 11
   else
    (mf e1).bind fun r4=>
    if !r4 then
     some 10
    else
     (ly e1).bind fun r5=>
     if !r5 then
      some 1
     else
      gq e1 rec_ fu 0
def jT:Nat→(GExpr→Option Int)
 | 0=>fun _=>none
 | n+1=>lw (jT n)
def pK (e1:GExpr):Option Int:=jT fu e1
def jU (e1:GExpr):Option Int:=
 (nI e1).bind fun r1=>
 if decide (40<r1)then
  some 13
 else
  (mO e1).bind fun r2=>
  if decide (2000<r2)then
   some 2
  else
   (pK e1).bind fun r3=>
   some r3
def kA (p1:ac):Option (GExpr×ac):=
 (nH p1 1).bind fun r1=>
 if decide (r1.2.E=0)then
  (jU r1.1).bind fun r2=>
  if !decide (r2=0)then
   (br r1.2 p1.At r2).bind fun r3=>
   some (r1.1,r3)
  else
   some (r1.1,r1.2)
 else
  some (r1.1,r1.2)
def lr (l1:List GToken) (at1:Int):Option (GExpr×Int×Int):=
 if(decide (at1<0))||(decide ((l1.length:Int)<at1))then
  some ((⟨0,([]:List UInt8),(⟨0,0⟩:GVal),(⟨0,0,0,0,0⟩:GType),(⟨0,([]:List GMono)⟩:GLin),([]:List GIndex),([]:List GExpr)⟩:GExpr),0,1)
 else
  (kA (⟨l1,at1,0,0,0⟩:ac)).bind fun r1=>
  if !decide (r1.2.E=0)then
   some ((⟨0,([]:List UInt8),(⟨0,0⟩:GVal),(⟨0,0,0,0,0⟩:GType),(⟨0,([]:List GMono)⟩:GLin),([]:List GIndex),([]:List GExpr)⟩:GExpr),r1.2.Pos,r1.2.E)
  else
   some (r1.1,r1.2.At,0)
def gX (a1:List GLin) (b1:List GLin):Nat→Int→Option Bool
 | 0,_=>none
 | fuel1+1,i1=>
  if decide (i1<(a1.length:Int))then
   (lat a1 i1).bind fun e1=>
   (lat b1 i1).bind fun e2=>
   (lJ e1 e2).bind fun r1=>
   if !r1 then
    some false
   else
    (gX a1 b1 fuel1) (aq (i1+1))
  else
   some true
def nU (a1:List GLin) (b1:List GLin):Option Bool:=
 if !decide ((a1.length:Int)=(b1.length:Int))then
  some false
 else
  gX a1 b1 fu 0
def mX (a1:GIndex) (b1:GIndex):Option Bool:=
 (gd (decide (a1.From=b1.From)) (lJ a1.Lin b1.Lin)).bind fun r1=>
 (gd ((decide (a1.From=b1.From))&&r1) (nU a1.At b1.At)).bind fun r2=>
 some (((decide (a1.From=b1.From))&&r1)&&r2)
def fh (a1:List GIndex) (b1:List GIndex):Nat→Int→Option Bool
 | 0,_=>none
 | fuel1+1,i1=>
  if decide (i1<(a1.length:Int))then
   (lat a1 i1).bind fun e1=>
   (lat b1 i1).bind fun e2=>
   (mX e1 e2).bind fun r1=>
   if !r1 then
    some false
   else
    (fh a1 b1 fuel1) (aq (i1+1))
  else
   some true
def lK (a1:List GIndex) (b1:List GIndex):Option Bool:=
 if !decide ((a1.length:Int)=(b1.length:Int))then
  some false
 else
  fh a1 b1 fu 0
def gw (a1:List GExpr) (b1:List GExpr) (rec_:(GExpr→GExpr→Option Bool)):Nat→Int→Option Bool
 | 0,_=>none
 | fuel1+1,i1=>
  if decide (i1<(a1.length:Int))then
   (lat a1 i1).bind fun e1=>
   (lat b1 i1).bind fun e2=>
   (rec_ e1 e2).bind fun r1=>
   if !r1 then
    some false
   else
    (gw a1 b1 rec_ fuel1) (aq (i1+1))
  else
   some true
def mY (rec_:(GExpr→GExpr→Option Bool)) (a1:List GExpr) (b1:List GExpr):Option Bool:=
 if !decide ((a1.length:Int)=(b1.length:Int))then
  some false
 else
  gw a1 b1 rec_ fu 0
def mr (rec_:(GExpr→GExpr→Option Bool)) (a1:GExpr) (b1:GExpr):Option Bool:=
 (gd ((((decide (a1.Op=b1.Op))&&(decide (a1.Name=b1.Name)))&&((decide (a1.Val.N=b1.Val.N))&&(decide (a1.Val.D=b1.Val.D))))&&((decide (a1.Type_.Kind=b1.Type_.Kind))&&(decide (a1.Type_.Bits=b1.Type_.Bits))&&(decide (a1.Type_.Frac=b1.Type_.Frac))&&(decide (a1.Type_.Round=b1.Type_.Round))&&(decide (a1.Type_.Over=b1.Type_.Over)))) (lJ a1.Lin b1.Lin)).bind fun r1=>
 (gd (((((decide (a1.Op=b1.Op))&&(decide (a1.Name=b1.Name)))&&((decide (a1.Val.N=b1.Val.N))&&(decide (a1.Val.D=b1.Val.D))))&&((decide (a1.Type_.Kind=b1.Type_.Kind))&&(decide (a1.Type_.Bits=b1.Type_.Bits))&&(decide (a1.Type_.Frac=b1.Type_.Frac))&&(decide (a1.Type_.Round=b1.Type_.Round))&&(decide (a1.Type_.Over=b1.Type_.Over))))&&r1) (lK a1.Idx b1.Idx)).bind fun r2=>
 (gd ((((((decide (a1.Op=b1.Op))&&(decide (a1.Name=b1.Name)))&&((decide (a1.Val.N=b1.Val.N))&&(decide (a1.Val.D=b1.Val.D))))&&((decide (a1.Type_.Kind=b1.Type_.Kind))&&(decide (a1.Type_.Bits=b1.Type_.Bits))&&(decide (a1.Type_.Frac=b1.Type_.Frac))&&(decide (a1.Type_.Round=b1.Type_.Round))&&(decide (a1.Type_.Over=b1.Type_.Over))))&&r1)&&r2) (mY rec_ a1.Args b1.Args)).bind fun r3=>
 some (((((((decide (a1.Op=b1.Op))&&(decide (a1.Name=b1.Name)))&&((decide (a1.Val.N=b1.Val.N))&&(decide (a1.Val.D=b1.Val.D))))&&((decide (a1.Type_.Kind=b1.Type_.Kind))&&(decide (a1.Type_.Bits=b1.Type_.Bits))&&(decide (a1.Type_.Frac=b1.Type_.Frac))&&(decide (a1.Type_.Round=b1.Type_.Round))&&(decide (a1.Type_.Over=b1.Type_.Over))))&&r1)&&r2)&&r3)
def jD:Nat→(GExpr→GExpr→Option Bool)
 | 0=>fun _ _=>none
 | n+1=>mr (jD n)
def oU (a1:GExpr) (b1:GExpr):Option Bool:=jD fu a1 b1
def ju (l1:List GToken) (at1:Int):Option Bool:=
 (nR l1 600).bind fun r1=>
 if !r1 then
  (jZ).bind fun r2=>
  some r2
 else
  (jb l1 at1).bind fun r3=>
  (lr l1 at1).bind fun r4=>
  (oU r3.1 r4.1).bind fun r5=>
  (gd ((r5&&(decide (r3.2.1=r4.2.1)))&&(decide (r3.2.2=r4.2.2))) (jZ)).bind fun r6=>
  some (((r5&&(decide (r3.2.1=r4.2.1)))&&(decide (r3.2.2=r4.2.2)))&&r6)
end Go.Proofs.YtmhoikfoogemnaaGreatDoor
