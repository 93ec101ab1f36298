import Derived.Test.YtmhoikfoogemnaaGreatDoorMXm
namespace Go.Proofs.YtmhoikfoogemnaaGreatDoor
open Go Go.RowKit Go.Vc
set_option linter.unusedVariables false
set_option linter.unusedSimpArgs false
structure aG where
 Kind:Int
 At:Int
 Text:List UInt8
deriving Inhabited,DecidableEq
def ah:Cod aG where
 n:=3
 rel _ _ x cs:=cs=[(Value.int .i64 x.Kind),(Value.int .i64 x.At),(aC x.Text)]
 len h:=by subst h;rfl
 one h:=by subst h;rfl
 sp _ h:=h
structure aa where
 l:List aG
 at_:Int
 deep:Int
deriving Inhabited,DecidableEq
def fnP_k1 (v:Value) (m:(Int→Option Bool)) (D:NP) (w:World):Prop:=
 Dn v=true∧∀ (D':NP) (w':World),Sp D w D' w'→(∀ k,D' k→k<w'.heap.size)→∀ (x_1:Int) (r:Bool),AllCl [] D' w'→m x_1=some r→
  CallV Tryz.prog v [(Value.int .i32 x_1)] w' fun e w''=>e= .returned (Value.bool r)∧Ext w' w''∧AllCl [] D' w''
theorem fnP_k1.sp {v:Value} {m:(Int→Option Bool)} {D D':NP} {w w':World} (hs:Sp D w D' w') (h:fnP_k1 v m D w):fnP_k1 v m D' w':=⟨h.1,fun D'' w'' hs'=>h.2 D'' w'' (hs.trans hs')⟩
def qj (v:Value) (m:(Int→Option Bool)):Cl:=⟨fnP_k1 v m,fnP_k1.sp⟩
structure GMono where
 Name:List UInt8
 By:Int
deriving Inhabited,DecidableEq
def aj:Cod GMono where
 n:=2
 rel _ _ x cs:=cs=[(aC x.Name),(Value.int .i64 x.By)]
 len h:=by subst h;rfl
 one h:=by subst h;rfl
 sp _ h:=h
structure GLin where
 K:Int
 L:List GMono
deriving Inhabited,DecidableEq
def ju:Cod GLin where
 n:=2
 rel D w x cs:=∃ (A0:Option Addr) (c0:Nat),cs=[(Value.int .i64 x.K),(Value.slice A0 x.L.length c0)]∧SlC aj D w A0 c0 x.L
 len h:=by obtain⟨_,_,rfl,_⟩:=h;rfl
 one h:=by obtain⟨A0,c0,rfl,h0⟩:=h;rfl
 sp hs h:=by obtain⟨A0,c0,rfl,h0⟩:=h;exact⟨_,_,rfl,h0.sp hs⟩
def fnS_k2 {σ:Type} (I:StI σ) (v:Value) (m:((List UInt8)→Int→Int→σ→Option (Unit×σ))) (D:NP) (w:World):Prop:=
 Dn v=true∧∀ (C0 F:NP) (w':World),Sp D w (Dj F C0) w'→∀ (x_1:List UInt8) (x_2:Int) (x_3:Int) (s:σ) (r:Unit×σ),Bun C0 F w' C0 w' [MO.st I s] []→m x_1 x_2 x_3 s=some r→
  CallV Tryz.prog v [(aC x_1),(Value.int .i64 x_2),(Value.int .i64 x_3)] w' fun e w''=>∃ (C:NP),e= .returned (Value.tuple #[])∧Bun C0 F w' C w'' [MO.st I r.2] []
theorem fnS_k2.sp {σ:Type} {I:StI σ} {v:Value} {m:((List UInt8)→Int→Int→σ→Option (Unit×σ))} {D D':NP} {w w':World} (hs:Sp D w D' w') (h:fnS_k2 I v m D w):fnS_k2 I v m D' w':=⟨h.1,fun C0 F w'' hs'=>h.2 C0 F w'' (hs.trans hs')⟩
def uY {σ:Type} (I:StI σ) (v:Value) (m:((List UInt8)→Int→Int→σ→Option (Unit×σ))):Cl:=⟨fnS_k2 I v m,fnS_k2.sp⟩
structure GType where
 Kind:Int
 Bits:Int
 Frac:Int
 Round:Int
 Over:Int
deriving Inhabited,DecidableEq
structure GVal where
 N:Int
 D:Int
deriving Inhabited,DecidableEq
structure GIndex where
 Lin:GLin
 From:List UInt8
 At:List GLin
deriving Inhabited,DecidableEq
def ak:Cod GIndex where
 n:=4
 rel D w x cs:=∃ (A0:Option Addr) (c0:Nat) (A2:Option Addr) (c2:Nat),cs=[(Value.int .i64 x.Lin.K),(Value.slice A0 x.Lin.L.length c0),(aC x.From),(Value.slice A2 x.At.length c2)]∧SlC aj D w A0 c0 x.Lin.L∧SlC ju D w A2 c2 x.At
 len h:=by obtain⟨_,_,_,_,rfl,_,_⟩:=h;rfl
 one h:=by obtain⟨A0,c0,A2,c2,rfl,h0,h1⟩:=h;rfl
 sp hs h:=by obtain⟨A0,c0,A2,c2,rfl,h0,h1⟩:=h;exact⟨_,_,_,_,rfl,h0.sp hs,h1.sp hs⟩
structure GExpr where
 Op:Int
 Name:List UInt8
 Val:GVal
 Type_:GType
 Lin:GLin
 Idx:List GIndex
 Args:List GExpr
instance:Inhabited GExpr:=⟨⟨0,[],default,default,default,[],[]⟩⟩
def qk (c:Cod GExpr):Cod GExpr where
 n:=13
 rel D w x cs:=∃ (A0:Option Addr) (c0:Nat) (A2:Option Addr) (c2:Nat) (A4:Option Addr) (c4:Nat),cs=[(Value.int .i64 x.Op),(aC x.Name),(Value.int .i64 x.Val.N),(Value.int .i64 x.Val.D),(Value.int .i64 x.Type_.Kind),(Value.int .i64 x.Type_.Bits),(Value.int .i64 x.Type_.Frac),(Value.int .i64 x.Type_.Round),(Value.int .i64 x.Type_.Over),(Value.int .i64 x.Lin.K),(Value.slice A0 x.Lin.L.length c0),(Value.slice A2 x.Idx.length c2),(Value.slice A4 x.Args.length c4)]∧SlC aj D w A0 c0 x.Lin.L∧SlC ak D w A2 c2 x.Idx∧SlC c D w A4 c4 x.Args
 len h:=by obtain⟨_,_,_,_,_,_,rfl,_,_,_⟩:=h;rfl
 one h:=by obtain⟨A0,c0,A2,c2,A4,c4,rfl,h0,h1,h2⟩:=h;rfl
 sp hs h:=by obtain⟨A0,c0,A2,c2,A4,c4,rfl,h0,h1,h2⟩:=h;exact⟨_,_,_,_,_,_,rfl,h0.sp hs,h1.sp hs,h2.sp hs⟩
theorem rP {c c':Cod GExpr} (hm:∀ D w x cs,c.rel D w x cs→c'.rel D w x cs):∀ D w x cs,(qk c).rel D w x cs→(qk c').rel D w x cs:=fun D w x cs h=>by
 obtain⟨A0,c0,A2,c2,A4,c4,rfl,h0,h1,h2⟩:=h;exact⟨_,_,_,_,_,_,rfl,h0,h1,h2.mono hm⟩
def au:Cod GExpr:=Cod.fix qk 13 (fun _=>rfl)
theorem lE {D:NP} {w:World} {x:GExpr} {cs:List Value} (h:au.rel D w x cs):(qk au).rel D w x cs:=by
 obtain⟨k,hk⟩:=h
 cases k with
 | zero=>exact False.elim hk
 | succ k=>exact rP (c:=BN qk 13 k) (c':=au) (fun _ _ _ _ h=>⟨k,h⟩) _ _ _ _ hk
theorem eQ {D:NP} {w:World} {x:GExpr} {cs:List Value} (h:(qk au).rel D w x cs):au.rel D w x cs:=by
 obtain⟨A0,c0,A2,c2,A4,c4,rfl,h0,h1,h2⟩:=h
 obtain⟨k,hk⟩:=h2.fix_out rP
 exact⟨k+1,_,_,_,_,_,_,rfl,h0,h1,hk⟩
def fnS_k5 {σ:Type} (I:StI σ) (v:Value) (m:(GExpr→σ→Option (Bool×σ))) (D:NP) (w:World):Prop:=
 Dn v=true∧∀ (C0 F:NP) (w':World),Sp D w (Dj F C0) w'→∀ (x_1:GExpr) (A_2:Option Addr) (c_3:Nat) (A_4:Option Addr) (c_5:Nat) (A_6:Option Addr) (c_7:Nat) (s:σ) (r:Bool×σ),Bun C0 F w' C0 w' [MO.st I s] [Cl.sl aj A_2 c_3 x_1.Lin.L,Cl.sl ak A_4 c_5 x_1.Idx,Cl.sl au A_6 c_7 x_1.Args]→m x_1 s=some r→
  CallV Tryz.prog v [(Value.agg #[(Value.int .i64 x_1.Op),(aC x_1.Name),(Value.int .i64 x_1.Val.N),(Value.int .i64 x_1.Val.D),(Value.int .i64 x_1.Type_.Kind),(Value.int .i64 x_1.Type_.Bits),(Value.int .i64 x_1.Type_.Frac),(Value.int .i64 x_1.Type_.Round),(Value.int .i64 x_1.Type_.Over),(Value.int .i64 x_1.Lin.K),(Value.slice A_2 x_1.Lin.L.length c_3),(Value.slice A_4 x_1.Idx.length c_5),(Value.slice A_6 x_1.Args.length c_7)])] w' fun e w''=>∃ (C:NP),e= .returned (Value.bool r.1)∧Bun C0 F w' C w'' [MO.st I r.2] []
theorem fnS_k5.sp {σ:Type} {I:StI σ} {v:Value} {m:(GExpr→σ→Option (Bool×σ))} {D D':NP} {w w':World} (hs:Sp D w D' w') (h:fnS_k5 I v m D w):fnS_k5 I v m D' w':=⟨h.1,fun C0 F w'' hs'=>h.2 C0 F w'' (hs.trans hs')⟩
def mV {σ:Type} (I:StI σ) (v:Value) (m:(GExpr→σ→Option (Bool×σ))):Cl:=⟨fnS_k5 I v m,fnS_k5.sp⟩
def fnP_k6 (v:Value) (m:(GIndex→Option Bool)) (D:NP) (w:World):Prop:=
 Dn v=true∧∀ (D':NP) (w':World),Sp D w D' w'→(∀ k,D' k→k<w'.heap.size)→∀ (x_1:GIndex) (A_2:Option Addr) (c_3:Nat) (A_4:Option Addr) (c_5:Nat) (r:Bool),AllCl [Cl.sl aj A_2 c_3 x_1.Lin.L,Cl.sl ju A_4 c_5 x_1.At] D' w'→m x_1=some r→
  CallV Tryz.prog v [(Value.agg #[(Value.int .i64 x_1.Lin.K),(Value.slice A_2 x_1.Lin.L.length c_3),(aC x_1.From),(Value.slice A_4 x_1.At.length c_5)])] w' fun e w''=>e= .returned (Value.bool r)∧Ext w' w''∧AllCl [] D' w''
theorem fnP_k6.sp {v:Value} {m:(GIndex→Option Bool)} {D D':NP} {w w':World} (hs:Sp D w D' w') (h:fnP_k6 v m D w):fnP_k6 v m D' w':=⟨h.1,fun D'' w'' hs'=>h.2 D'' w'' (hs.trans hs')⟩
def qi (v:Value) (m:(GIndex→Option Bool)):Cl:=⟨fnP_k6 v m,fnP_k6.sp⟩
def fnS_k7 {σ:Type} (I:StI σ) (v:Value) (m:(GLin→σ→Option (Bool×σ))) (D:NP) (w:World):Prop:=
 Dn v=true∧∀ (C0 F:NP) (w':World),Sp D w (Dj F C0) w'→∀ (x_1:GLin) (A_2:Option Addr) (c_3:Nat) (s:σ) (r:Bool×σ),Bun C0 F w' C0 w' [MO.st I s] [Cl.sl aj A_2 c_3 x_1.L]→m x_1 s=some r→
  CallV Tryz.prog v [(Value.agg #[(Value.int .i64 x_1.K),(Value.slice A_2 x_1.L.length c_3)])] w' fun e w''=>∃ (C:NP),e= .returned (Value.bool r.1)∧Bun C0 F w' C w'' [MO.st I r.2] []
theorem fnS_k7.sp {σ:Type} {I:StI σ} {v:Value} {m:(GLin→σ→Option (Bool×σ))} {D D':NP} {w w':World} (hs:Sp D w D' w') (h:fnS_k7 I v m D w):fnS_k7 I v m D' w':=⟨h.1,fun C0 F w'' hs'=>h.2 C0 F w'' (hs.trans hs')⟩
def mU {σ:Type} (I:StI σ) (v:Value) (m:(GLin→σ→Option (Bool×σ))):Cl:=⟨fnS_k7 I v m,fnS_k7.sp⟩
structure ae where
 L:List aG
 At:Int
 Deep:Int
 E:Int
 Pos:Int
deriving Inhabited,DecidableEq
structure Fe where
 Name:List UInt8
 Size:GLin
deriving Inhabited,DecidableEq
structure H2 where
 Name:List UInt8
 Type_:GType
 Dims:List Fe
 Red:List Fe
 Fold:Int
 Body:GExpr
deriving Inhabited
def uD (l1:List aG):Nat→Int→Option Bool
 | 0,_=>none
 | fuel1+1,i1=>
  if decide (i1<(l1.length:Int))then
   (lat l1 i1).bind fun e1=>
   if decide (100<(e1.Text.length:Int))then
    some false
   else
    (uD l1 fuel1) (az (i1+1))
  else
   some true
def mE (c1:Int):Option Bool:=
 some ((((decide (c1=9))||(decide (c1=10)))||(decide (c1=13)))||(decide (c1=32)))
def gX (s1:List UInt8) (self1:Int→Option Int):Nat→Int→Option Int
 | 0,_=>none
 | fuel2+1,at3=>
  (gd (decide (at3<(s1.length:Int))) (sat s1 at3)).bind fun b3=>
  if(decide (at3<(s1.length:Int)))&&(!decide (b3=10))then
   (gX s1 self1 fuel2) (az (at3+1))
  else
   self1 at3
def fe (s1:List UInt8):Nat→Int→Option Int
 | 0,_=>none
 | fuel1+1,at2=>
  if decide (at2<(s1.length:Int))then
   (sat s1 at2).bind fun b1=>
   (mE b1).bind fun r1=>
   if r1 then
    (fe s1 fuel1) (az (at2+1))
   else
    (sat s1 at2).bind fun b2=>
    if decide (b2=35)then
     gX s1 (fe s1 fuel1) fu at2
    else
     some at2
  else
   some at2
def kS (s1:List UInt8) (at1:Int):Option Int:=
 fe s1 fu at1
def kG (c1:Int):Option Bool:=
 some ((decide (97≤c1))&&(decide (c1≤122)))
def mD (c1:Int):Option Bool:=
 some ((decide (48≤c1))&&(decide (c1≤57)))
def fM (s1:List UInt8) (kind1:Int):Nat→Int→Option (Int×Int)
 | 0,_=>none
 | fuel1+1,n1=>
  (gd (decide (n1<(s1.length:Int))) (sat s1 n1)).bind fun b3=>
  (gd (decide (n1<(s1.length:Int))) (mD b3)).bind fun r3=>
  (gd (((decide (n1<(s1.length:Int)))&& !r3)&&(decide (kind1=1))) (sat s1 n1)).bind fun b4=>
  (gd (((decide (n1<(s1.length:Int)))&& !r3)&&(decide (kind1=1))) (kG b4)).bind fun r4=>
  (gd ((((decide (n1<(s1.length:Int)))&& !r3)&&(decide (kind1=1)))&& !r4) (sat s1 n1)).bind fun b5=>
  if(decide (n1<(s1.length:Int)))&&(r3||((decide (kind1=1))&&(r4||(decide (b5=95)))))then
   (fM s1 kind1 fuel1) (az (n1+1))
  else
   some (n1,kind1)
def lT (s1:List UInt8) (kind1:Int):Option (Int×Int):=
 fM s1 kind1 fu 0
def mN (s1:List UInt8):Option (Int×Int):=
 (gd (!(decide (s1=([]:List UInt8)))) (sat s1 0)).bind fun b1=>
 (gd (!(decide (s1=([]:List UInt8)))) (kG b1)).bind fun r1=>
 (gd ((!(decide (s1=([]:List UInt8))))&&(!r1)) (sat s1 0)).bind fun b2=>
 (gd ((!(decide (s1=([]:List UInt8))))&&(!r1)) (mD b2)).bind fun r2=>
 if(decide (s1=([]:List UInt8)))||((!r1)&&(!r2))then
  some (0,0)
 else
  (sat s1 0).bind fun b6=>
  (kG b6).bind fun r5=>
  if r5 then
   lT s1 1
  else
   lT s1 2
def lA:Option (List (List UInt8)):=
 some ([([60,61]:List UInt8),([61,61]:List UInt8),([40]:List UInt8),([41]:List UInt8),([91]:List UInt8),([93]:List UInt8),([123]:List UInt8),([125]:List UInt8),([44]:List UInt8),([59]:List UInt8),([58]:List UInt8),([43]:List UInt8),([45]:List UInt8),([42]:List UInt8),([47]:List UInt8),([60]:List UInt8),([61]:List UInt8),([38]:List UInt8),([124]:List UInt8),([33]:List UInt8),([46]:List UInt8),([64]:List UInt8)]:List (List UInt8))
def eJ (r1:List (List UInt8)) (s1:List UInt8):Nat→Int→Option Int
 | 0,_=>none
 | fuel1+1,i1=>
  if decide (i1<(r1.length:Int))then
   (lat r1 i1).bind fun e1=>
   (gd (decide ((e1.length:Int)≤(s1.length:Int))) (lat r1 i1)).bind fun e2=>
   (gd (decide ((e1.length:Int)≤(s1.length:Int))) (nb s1 (e2.length:Int))).bind fun s2=>
   (gd (decide ((e1.length:Int)≤(s1.length:Int))) (lat r1 i1)).bind fun e3=>
   if(decide ((e1.length:Int)≤(s1.length:Int)))&&(decide (s2=e3))then
    (lat r1 i1).bind fun e4=>
    some (e4.length:Int)
   else
    (eJ r1 s1 fuel1) (az (i1+1))
  else
   some 0
def kF (s1:List UInt8):Option Int:=
 (lA).bind fun r1=>
 eJ r1 s1 fu 0
def fX (at1:Int) (s1:List UInt8) (gh:List aG) (self1:(List aG)→Int→Option (List aG×Int×Int)) (n1:Int) (kind1:Int):Option (List aG×Int×Int):=
 if decide (n1=0)then
  some (([]:List aG),at1,5)
 else
  if(decide (kind1=1))&&(decide (16<n1))then
   some (([]:List aG),at1,2)
  else
   (zM s1 at1 (az (at1+n1))).bind fun s3=>
   (jv gh ([(⟨kind1,at1,s3⟩:aG)]:List aG)).bind fun zs1=>
   (kS s1 (az (at1+n1))).bind fun r3=>
   self1 zs1 r3
def cx (s1:List UInt8):Nat→(List aG)→Int→Option (List aG×Int×Int)
 | 0,_,_=>none
 | fuel1+1,gh,at1=>
  if decide (at1<(s1.length:Int))then
   (iz s1 at1).bind fun s2=>
   (mN s2).bind fun r2=>
   if decide (r2.1=0)then
    (iz s1 at1).bind fun s4=>
    (kF s4).bind fun r4=>
    fX at1 s1 gh (cx s1 fuel1) r4 3
   else
    fX at1 s1 gh (cx s1 fuel1) r2.1 r2.2
  else
   some (gh,0,0)
def iH (s1:List UInt8):Option (List aG×Int×Int):=
 if decide (65536<(s1.length:Int))then
  some (([]:List aG),0,2)
 else
  (kS s1 0).bind fun r1=>
  cx s1 fu ([]:List aG) r1
def bR (r1:aa) (kind1:Int) (s1:List UInt8):Option Bool:=
 (gd (decide (r1.at_<(r1.l.length:Int))) (lat r1.l r1.at_)).bind fun e1=>
 (gd ((decide (r1.at_<(r1.l.length:Int)))&&(decide (e1.Kind=kind1))) (lat r1.l r1.at_)).bind fun e2=>
 some (((decide (r1.at_<(r1.l.length:Int)))&&(decide (e1.Kind=kind1)))&&(decide (e2.Text=s1)))
def gK (r1:Int):Option Bool:=
 some ((decide (97≤r1))&&(decide (r1≤122)))
def eh (s1:List UInt8) (ok1:(Int→Option Bool)):Nat→Int→Option Int
 | 0,_=>none
 | fuel1+1,n1=>
  (gd (decide (n1<(s1.length:Int))) (sat s1 n1)).bind fun b1=>
  (gd (decide (n1<(s1.length:Int))) (ok1 (mn b1))).bind fun r1=>
  if(decide (n1<(s1.length:Int)))&&r1 then
   (eh s1 ok1 fuel1) (az (n1+1))
  else
   some n1
def io (s1:List UInt8) (ok1:(Int→Option Bool)):Option Int:=
 eh s1 ok1 fu 0
def gE (r1:Int):Option Bool:=
 some ((decide (48≤r1))&&(decide (r1≤57)))
def cJ (r1:Int):Option Bool:=
 (gK r1).bind fun r2=>
 (gd (!r2) (gE r1)).bind fun r3=>
 some ((r2||r3)||(decide (r1=95)))
def k8:Option (List (List UInt8)):=
 (mp ([115,105,122,101,32,119,104,101,114,101,32,105,110,32,100,101,102,32,111,117,116,32,115,117,109,32,112,114,111,100,32,109,105,110,32,109,97,120,32,115,99,97,110,32,111,118,101,114,32,105,102,32,99,97,115,116,32,102,114,97,99,32,105,110,116,32,102,105,120,32,99,101,105,108,32,102,108,111,111,114,32,122,101,114,111,32,101,118,101,110,32,115,97,116,32,119,114,97,112]:List UInt8)).bind fun r1=>
 some r1
def be (s1:List (List UInt8)) (v1:List UInt8):Nat→Int→Option Int
 | 0,_=>none
 | fuel1+1,i1=>
  if decide (i1<(s1.length:Int))then
   (lat s1 i1).bind fun e1=>
   if decide (v1=e1)then
    some i1
   else
    (be s1 v1 fuel1) (az (i1+1))
  else
   some (-1)
def eY (s1:List (List UInt8)) (v1:List UInt8):Option Int:=
 be s1 v1 fu 0
def cV (s1:List (List UInt8)) (v1:List UInt8):Option Bool:=
 (eY s1 v1).bind fun r1=>
 some (decide (0≤r1))
def jg (s1:List UInt8):Option Bool:=
 (k8).bind fun r1=>
 (cV r1 s1).bind fun r2=>
 some r2
def fR (s1:List UInt8):Option Bool:=
 (gd ((!decide (s1=([]:List UInt8)))&&(decide ((s1.length:Int)≤16))) (sat s1 0)).bind fun b1=>
 (gd ((!decide (s1=([]:List UInt8)))&&(decide ((s1.length:Int)≤16))) (gK (mn b1))).bind fun r1=>
 (gd (((!decide (s1=([]:List UInt8)))&&(decide ((s1.length:Int)≤16)))&&r1) (io s1 cJ)).bind fun r2=>
 (gd ((((!decide (s1=([]:List UInt8)))&&(decide ((s1.length:Int)≤16)))&&r1)&&(decide (r2=(s1.length:Int)))) (jg s1)).bind fun r3=>
 some (((((!decide (s1=([]:List UInt8)))&&(decide ((s1.length:Int)≤16)))&&r1)&&(decide (r2=(s1.length:Int))))&&(!r3))
def cH (r1:aa):Option Bool:=
 (gd (decide (r1.at_<(r1.l.length:Int))) (lat r1.l r1.at_)).bind fun e1=>
 (gd ((decide (r1.at_<(r1.l.length:Int)))&&(decide (e1.Kind=1))) (lat r1.l r1.at_)).bind fun e2=>
 (gd ((decide (r1.at_<(r1.l.length:Int)))&&(decide (e1.Kind=1))) (fR e2.Text)).bind fun r2=>
 some (((decide (r1.at_<(r1.l.length:Int)))&&(decide (e1.Kind=1)))&&r2)
def bG (r1:aa) (at1:Int) (e1:Int):Option (bk Unit):=
 some (.pan at1 e1)
def kI (s1:List UInt8):Option Bool:=
 if decide (s1=([115,105,122,101]:List UInt8))then
  if decide (s1=([115,105,122,101]:List UInt8))then
   some true
  else
   some false
 else
  if decide (s1=([119,104,101,114,101]:List UInt8))then
   if decide (s1=([119,104,101,114,101]:List UInt8))then
    some true
   else
    some false
  else
   if decide (s1=([105,110]:List UInt8))then
    if decide (s1=([105,110]:List UInt8))then
     some true
    else
     some false
   else
    if decide (s1=([100,101,102]:List UInt8))then
     if decide (s1=([100,101,102]:List UInt8))then
      some true
     else
      some false
    else
     if decide (s1=([111,117,116]:List UInt8))then
      if decide (s1=([111,117,116]:List UInt8))then
       some true
      else
       some false
     else
      if decide (s1=([115,117,109]:List UInt8))then
       if decide (s1=([115,117,109]:List UInt8))then
        some true
       else
        some false
      else
       if decide (s1=([112,114,111,100]:List UInt8))then
        if decide (s1=([112,114,111,100]:List UInt8))then
         some true
        else
         some false
       else
        if decide (s1=([109,105,110]:List UInt8))then
         if decide (s1=([109,105,110]:List UInt8))then
          some true
         else
          some false
        else
         if decide (s1=([109,97,120]:List UInt8))then
          if decide (s1=([109,97,120]:List UInt8))then
           some true
          else
           some false
         else
          if decide (s1=([115,99,97,110]:List UInt8))then
           if decide (s1=([115,99,97,110]:List UInt8))then
            some true
           else
            some false
          else
           if decide (s1=([111,118,101,114]:List UInt8))then
            if decide (s1=([111,118,101,114]:List UInt8))then
             some true
            else
             some false
           else
            if decide (s1=([105,102]:List UInt8))then
             if decide (s1=([105,102]:List UInt8))then
              some true
             else
              some false
            else
             if decide (s1=([99,97,115,116]:List UInt8))then
              if decide (s1=([99,97,115,116]:List UInt8))then
               some true
              else
               some false
             else
              if decide (s1=([102,114,97,99]:List UInt8))then
               if decide (s1=([102,114,97,99]:List UInt8))then
                some true
               else
                some false
              else
               if decide (s1=([105,110,116]:List UInt8))then
                if decide (s1=([105,110,116]:List UInt8))then
                 some true
                else
                 some false
               else
                if decide (s1=([102,105,120]:List UInt8))then
                 if decide (s1=([102,105,120]:List UInt8))then
                  some true
                 else
                  some false
                else
                 if decide (s1=([99,101,105,108]:List UInt8))then
                  if decide (s1=([99,101,105,108]:List UInt8))then
                   some true
                  else
                   some false
                 else
                  if decide (s1=([102,108,111,111,114]:List UInt8))then
                   if decide (s1=([102,108,111,111,114]:List UInt8))then
                    some true
                   else
                    some false
                  else
                   if decide (s1=([122,101,114,111]:List UInt8))then
                    if decide (s1=([122,101,114,111]:List UInt8))then
                     some true
                    else
                     some false
                   else
                    if decide (s1=([101,118,101,110]:List UInt8))then
                     if decide (s1=([101,118,101,110]:List UInt8))then
                      some true
                     else
                      some false
                    else
                     if decide (s1=([115,97,116]:List UInt8))then
                      if decide (s1=([115,97,116]:List UInt8))then
                       some true
                      else
                       some false
                     else
                      if decide (s1=([119,114,97,112]:List UInt8))then
                       some true
                      else
                       some false
def cW (s1:List UInt8):Nat→Int→Option Bool
 | 0,_=>none
 | fuel1+1,i1=>
  if decide (i1<(s1.length:Int))then
   (sat s1 i1).bind fun b3=>
   if(((decide (b3<97))||(decide (122<b3)))&&((decide (b3<48))||(decide (57<b3))))&&(!decide (b3=95))then
    some false
   else
    (cW s1 fuel1) (az (i1+1))
  else
   some true
def iI (s1:List UInt8):Option Bool:=
 (gd (!((decide ((s1.length:Int)<1))||(decide (16<(s1.length:Int))))) (kI s1)).bind fun r1=>
 (gd (!(((decide ((s1.length:Int)<1))||(decide (16<(s1.length:Int))))||r1)) (sat s1 0)).bind fun b1=>
 (gd (!((((decide ((s1.length:Int)<1))||(decide (16<(s1.length:Int))))||r1)||(decide (b1<97)))) (sat s1 0)).bind fun b2=>
 if((((decide ((s1.length:Int)<1))||(decide (16<(s1.length:Int))))||r1)||(decide (b1<97)))||(decide (122<b2))then
  some false
 else
  cW s1 fu 0
def k0 (name1:List UInt8):Option GLin:=
 (iI name1).bind fun r1=>
 if !r1 then
  some (⟨0,([]:List GMono)⟩:GLin)
 else
  some (⟨0,([(⟨name1,1⟩:GMono)]:List GMono)⟩:GLin)
def dg (l1:GLin):Nat→Int→Option Int
 | 0,_=>none
 | fuel1+1,i1=>
  if decide (i1<(l1.L.length:Int))then
   (lat l1.L i1).bind fun e1=>
   (iI e1.Name).bind fun r1=>
   (gd ((!((!r1)||(decide (e1.By=0))))&&(decide (0<i1))) (lat l1.L (az (i1 - 1)))).bind fun e2=>
   if((!r1)||(decide (e1.By=0)))||((decide (0<i1))&&(!Op.bytesLess e2.Name e1.Name))then
    some 1
   else
    (dg l1 fuel1) (az (i1+1))
  else
   some 0
def gJ (l1:GLin):Option Int:=
 dg l1 fu 0
def i6 (n1:Int):Option Int:=
 if decide (n1<0)then
  some (iK (-(iK n1)))
 else
  some (iK n1)
def lq (a1:Int) (b1:Int):Option (Int×Int):=
 (some (iK ((bits .and .u64 a1 4294967295) * (bits .and .u64 b1 4294967295)))).bind fun low1=>
 (some (iK ((iK ((Int.fdiv a1 (2 ^ 32)) * (bits .and .u64 b1 4294967295)))+(Int.fdiv low1 (2 ^ 32))))).bind fun mid1=>
 (some (iK ((iK ((bits .and .u64 a1 4294967295) * (Int.fdiv b1 (2 ^ 32))))+(bits .and .u64 mid1 4294967295)))).bind fun cross1=>
 (some (iK ((iK ((iK ((Int.fdiv a1 (2 ^ 32)) * (Int.fdiv b1 (2 ^ 32))))+(Int.fdiv mid1 (2 ^ 32))))+(Int.fdiv cross1 (2 ^ 32))))).bind fun hi1=>
 some (hi1,iK (a1 * b1))
def lF (a1:Int) (b1:Int):Option (Int×Bool):=
 (i6 a1).bind fun r1=>
 (i6 b1).bind fun r2=>
 (lq r1 r2).bind fun r3=>
 (some ((decide (a1<0)) != (decide (b1<0)))).bind fun negative1=>
 if((!decide (r3.1=0))||(decide (9223372036854775808<r3.2)))||((decide (r3.2=9223372036854775808))&&(!negative1))then
  some (0,false)
 else
  if negative1 then
   some (az (iK (-r3.2)),true)
  else
   some (az r3.2,true)
def lW (fits1:Bool) (gh:GLin):Option (GLin×Int):=
 if !fits1 then
  some ((⟨0,([]:List GMono)⟩:GLin),3)
 else
  some (gh,0)
def fQ (a1:GLin) (by1:Int):Nat→Bool→Int→GLin→Option (GLin×Int)
 | 0,_,_,_=>none
 | fuel1+1,fits2,i1,out2=>
  if decide (i1<(a1.L.length:Int))then
   (lat a1.L i1).bind fun e1=>
   (lF e1.By by1).bind fun r3=>
   (jv out2.L ([(⟨e1.Name,r3.1⟩:GMono)]:List GMono)).bind fun zs1=>
   (fQ a1 by1 fuel1) (fits2&&r3.2) (az (i1+1)) (⟨out2.K,zs1⟩:GLin)
  else
   lW fits2 out2
def iv (a1:GLin) (by1:Int):Option (GLin×Int):=
 (gJ a1).bind fun r1=>
 if !decide (r1=0)then
  some ((⟨0,([]:List GMono)⟩:GLin),1)
 else
  if decide (by1=0)then
   some ((⟨0,([]:List GMono)⟩:GLin),0)
  else
   (lF a1.K by1).bind fun r2=>
   fQ a1 by1 fu r2.2 0 (⟨r2.1,([]:List GMono)⟩:GLin)
def hV (s1:List UInt8):Option Bool:=
 (gd ((!(decide (s1=([48]:List UInt8))))&&(!decide (s1=([]:List UInt8)))) (sat s1 0)).bind fun b1=>
 some ((decide (s1=([48]:List UInt8)))||((!decide (s1=([]:List UInt8)))&&(!decide (b1=48))))
def dJ (s1:List UInt8):Nat→Int→Option Bool
 | 0,_=>none
 | fuel1+1,i1=>
  if decide (i1<(s1.length:Int))then
   (sat s1 i1).bind fun b2=>
   (gd (!(decide (b2<48))) (sat s1 i1)).bind fun b3=>
   if(decide (b2<48))||(decide (57<b3))then
    some false
   else
    (dJ s1 fuel1) (az (i1+1))
  else
   hV s1
def kZ (s1:List UInt8):Option Bool:=
 dJ s1 fu 0
def eV (r1:aa):Option Bool:=
 (gd (decide (r1.at_<(r1.l.length:Int))) (lat r1.l r1.at_)).bind fun e1=>
 (gd ((decide (r1.at_<(r1.l.length:Int)))&&(decide (e1.Kind=2))) (lat r1.l r1.at_)).bind fun e2=>
 (gd ((decide (r1.at_<(r1.l.length:Int)))&&(decide (e1.Kind=2))) (kZ e2.Text)).bind fun r2=>
 some (((decide (r1.at_<(r1.l.length:Int)))&&(decide (e1.Kind=2)))&&r2)
def iN (negative1:Bool) (n1:Int):Option (Int×Bool):=
 if negative1 then
  some (az (-(az n1)),true)
 else
  some (az n1,true)
def dp (s1:List UInt8) (limit1:Int) (negative1:Bool):Nat→Int→Int→Option (Int×Bool)
 | 0,_,_=>none
 | fuel1+1,n2,i1=>
  if decide (i1<(s1.length:Int))then
   (sat s1 i1).bind fun b1=>
   if decide (iK (Int.tdiv (iK (limit1 - (iK (DT (b1 - 48))))) 10)<n2)then
    some (0,false)
   else
    (some (iK ((iK (10 * n2))+(iK (DT (b1 - 48)))))).bind fun n3=>
    (dp s1 limit1 negative1 fuel1) n3 (az (i1+1))
  else
   iN negative1 n2
def iO (s1:List UInt8) (negative1:Bool) (limit1:Int):Option (Int×Bool):=
 dp s1 limit1 negative1 fu 0 0
def gY (s1:List UInt8) (negative1:Bool):Option (Int×Bool):=
 if negative1 then
  iO s1 negative1 9223372036854775808
 else
  iO s1 negative1 9223372036854775807
def pH (k1:Int):Option GLin:=
 some (⟨k1,([]:List GMono)⟩:GLin)
def mv (a1:Int) (b1:Int):Option (Int×Bool):=
 some (az (a1+b1),(decide (a1<az (a1+b1)))==(decide (0<b1)))
def dG (name1:List UInt8) (x1:Int) (y1:Int) (a1:Bool) (a2:GLin):Option (Unit×Bool×GLin):=
 (mv x1 y1).bind fun r1=>
 if !decide (r1.1=0)then
  (jv a2.L ([(⟨name1,r1.1⟩:GMono)]:List GMono)).bind fun zs1=>
  some ((),a1&&r1.2,(⟨a2.K,zs1⟩:GLin))
 else
  some ((),a1&&r1.2,a2)
def cD {σ:Type} (each1:((List UInt8)→Int→Int→σ→Option (Unit×σ))):Nat→(List GMono)→(List GMono)→σ→Option (Unit×σ)
 | 0,_,_,_=>none
 | fuel1+1,a4,b2,s2=>
  if(decide (0<(a4.length:Int)))||(decide (0<(b2.length:Int)))then
   (gd ((!(decide ((b2.length:Int)=0)))&&(decide (0<(a4.length:Int)))) (lat a4 0)).bind fun e1=>
   (gd ((!(decide ((b2.length:Int)=0)))&&(decide (0<(a4.length:Int)))) (lat b2 0)).bind fun e2=>
   if(decide ((b2.length:Int)=0))||((decide (0<(a4.length:Int)))&&(Op.bytesLess e1.Name e2.Name))then
    (lat a4 0).bind fun e3=>
    (lat a4 0).bind fun e4=>
    (each1 e3.Name e4.By 0 s2).bind fun⟨r1,s3⟩=>
    (iz a4 1).bind fun zs1=>
    (cD each1 fuel1) zs1 b2 s3
   else
    (gd (!(decide ((a4.length:Int)=0))) (lat b2 0)).bind fun e5=>
    (gd (!(decide ((a4.length:Int)=0))) (lat a4 0)).bind fun e6=>
    if(decide ((a4.length:Int)=0))||(Op.bytesLess e5.Name e6.Name)then
     (lat b2 0).bind fun e7=>
     (lat b2 0).bind fun e8=>
     (each1 e7.Name 0 e8.By s2).bind fun⟨r2,s4⟩=>
     (iz b2 1).bind fun zs2=>
     (cD each1 fuel1) a4 zs2 s4
    else
     (lat a4 0).bind fun e9=>
     (lat a4 0).bind fun e10=>
     (lat b2 0).bind fun e11=>
     (each1 e9.Name e10.By e11.By s2).bind fun⟨r3,s5⟩=>
     (iz a4 1).bind fun zs3=>
     (iz b2 1).bind fun zs4=>
     (cD each1 fuel1) zs3 zs4 s5
  else
   some ((),s2)
def mG {σ:Type} (a1:List GMono) (b1:List GMono) (each1:((List UInt8)→Int→Int→σ→Option (Unit×σ))) (s1:σ):Option (Unit×σ):=
 cD each1 fu a1 b1 s1
def gr (a1:GLin) (b1:GLin):Option (GLin×Int):=
 (gJ a1).bind fun r1=>
 (gd (!(!decide (r1=0))) (gJ b1)).bind fun r2=>
 if(!decide (r1=0))||(!decide (r2=0))then
  some ((⟨0,([]:List GMono)⟩:GLin),1)
 else
  (mv a1.K b1.K).bind fun r3=>
  (mG a1.L b1.L (fun x_1 x_2 x_3 s=>dG x_1 x_2 x_3 (s.1) (s.2)) (r3.2,(⟨r3.1,([]:List GMono)⟩:GLin))).bind fun⟨r4,s1⟩=>
  if !(s1.1)then
   some ((⟨0,([]:List GMono)⟩:GLin),3)
  else
   some ((s1.2),0)
def aD (r1:aa) (s1:List UInt8):Option (Bool×aa):=
 (bR r1 3 s1).bind fun r2=>
 if r2 then
  some (true,(⟨r1.l,az (r1.at_+1),r1.deep⟩:aa))
 else
  some (false,r1)
def ba (r1:aa):Option (bk (Unit×aa)):=
 if decide ((r1.l.length:Int)≤r1.at_)then
  pb (bG r1 (r1.l.length:Int) 6) fun r2=>
  pb (bG r1 r1.at_ 5) fun r3=>
  some (.ret ((),r1))
 else
  pb (bG r1 r1.at_ 5) fun r4=>
  some (.ret ((),r1))
def ew (r2:aa):Option (bk (List UInt8×aa)):=
 (lat r2.l (az ((az (r2.at_+1)) - 1))).bind fun e1=>
 some (.ret (e1.Text,(⟨r2.l,az (r2.at_+1),r2.deep⟩:aa)))
def bh (r1:aa):Option (bk (List UInt8×aa)):=
 (cH r1).bind fun r3=>
 if !r3 then
  pb (ba r1) fun⟨r4,s1⟩=>
  ew s1
 else
  ew r1
def cb (r2:aa):Option (bk (List UInt8×aa)):=
 (lat r2.l (az ((az (r2.at_+1)) - 1))).bind fun e1=>
 some (.ret (e1.Text,(⟨r2.l,az (r2.at_+1),r2.deep⟩:aa)))
def bB (r1:aa):Option (bk (List UInt8×aa)):=
 (eV r1).bind fun r3=>
 if !r3 then
  pb (ba r1) fun⟨r4,s1⟩=>
  cb s1
 else
  cb r1
def dk (name1:List UInt8) (r8:Int×Bool) (r7:aa):Option (bk (GLin×aa)):=
 if decide (name1=([]:List UInt8))then
  (pH r8.1).bind fun r9=>
  some (.ret (r9,r7))
 else
  (k0 name1).bind fun r10=>
  (iv r10 r8.1).bind fun r11=>
  some (.ret (r11.1,r7))
def aX (r6:List UInt8) (negative1:Bool) (r1:aa) (name1:List UInt8) (r7:aa):Option (bk (GLin×aa)):=
 (gY r6 negative1).bind fun r8=>
 if !r8.2 then
  pb (bG r7 r1.at_ 3) fun r12=>
  dk name1 r8 r7
 else
  dk name1 r8 r7
def dq (r1:aa) (negative1:Bool):Option (bk (GLin×aa)):=
 (cH r1).bind fun r2=>
 if r2 then
  pb (bh r1) fun⟨r3,s1⟩=>
  (k0 r3).bind fun r4=>
  if negative1 then
   (iv r4 (-1)).bind fun r5=>
   some (.ret (r5.1,s1))
  else
   some (.ret (r4,s1))
 else
  pb (bB r1) fun⟨r6,s2⟩=>
  (aD s2 ([42]:List UInt8)).bind fun⟨r13,s3⟩=>
  if r13 then
   pb (bh s3) fun⟨r14,s4⟩=>
   aX r6 negative1 r1 r14 s4
  else
   aX r6 negative1 r1 ([]:List UInt8) s3
def ey (s2:aa) (self1:Bool→aa→GLin→Option (bk (GLin×aa))) (r5:GLin×Int):Option (bk (GLin×aa)):=
 (aD s2 ([43]:List UInt8)).bind fun⟨r6,s3⟩=>
 if r6 then
  self1 false s3 r5.1
 else
  (aD s3 ([45]:List UInt8)).bind fun⟨r7,s4⟩=>
  if r7 then
   self1 true s4 r5.1
  else
   some (.ret (r5.1,s4))
def aY:Nat→Bool→aa→GLin→Option (bk (GLin×aa))
 | 0,_,_,_=>none
 | fuel1+1,negative1,r3,sum1=>
  pb (dq r3 negative1) fun⟨r4,s2⟩=>
  (gr sum1 r4).bind fun r5=>
  if !decide (r5.2=0)then
   pb (bG s2 r3.at_ 3) fun r8=>
   ey s2 (aY fuel1) r5
  else
   ey s2 (aY fuel1) r5
def bC (r1:aa):Option (bk (GLin×aa)):=
 (aD r1 ([45]:List UInt8)).bind fun⟨r2,s1⟩=>
 aY fu r2 s1 (⟨0,([]:List GMono)⟩:GLin)
def lV (a1:aa) (a3:GLin):Option (bk (Unit×aa×GLin)):=
 pb (bC a1) fun⟨r1,s1⟩=>
 some (.ret ((),s1,r1))
def oV (l1:List aG) (at1:Int):Option (GLin×Int×Int):=
 if(decide (at1<0))||(decide ((l1.length:Int)<at1))then
  some ((⟨0,([]:List GMono)⟩:GLin),0,1)
 else
  wP (lV (⟨l1,at1,0⟩:aa) (⟨0,([]:List GMono)⟩:GLin)) (fun⟨r1,s1,s2⟩=>
   if !decide (0=0)then
    some ((⟨0,([]:List GMono)⟩:GLin),0,0)
   else
    some (s2,s1.at_,0)) fun pa1 pn1=>
   some ((⟨0,([]:List GMono)⟩:GLin),pa1,pn1)
def lr (r1:Int):Option Bool:=
 if decide (r1=9)then
  if decide (r1=9)then
   some true
  else
   some false
 else
  if decide (r1=10)then
   if decide (r1=10)then
    some true
   else
    some false
  else
   if decide (r1=13)then
    if decide (r1=13)then
     some true
    else
     some false
   else
    if decide (r1=32)then
     some true
    else
     some false
def kK (r1:Int):Option Bool:=
 some (!decide (r1=10))
def fY (s1:List UInt8):Nat→Int→Option Int
 | 0,_=>none
 | fuel1+1,at1=>
  if decide (at1<(s1.length:Int))then
   (sat s1 at1).bind fun b1=>
   (lr (mn b1)).bind fun r1=>
   if r1 then
    (fY s1 fuel1) (az (at1+1))
   else
    if decide (mn b1=35)then
     (iz s1 at1).bind fun s2=>
     (io s2 kK).bind fun r2=>
     (fY s1 fuel1) (az (at1+r2))
    else
     some at1
  else
   some at1
def k7 (s1:List UInt8):Option Int:=
 fY s1 fu 0
def kJ (r1:Int):Option Bool:=
 if decide (r1=40)then
  if decide (r1=40)then
   some true
  else
   some false
 else
  if decide (r1=41)then
   if decide (r1=41)then
    some true
   else
    some false
  else
   if decide (r1=91)then
    if decide (r1=91)then
     some true
    else
     some false
   else
    if decide (r1=93)then
     if decide (r1=93)then
      some true
     else
      some false
    else
     if decide (r1=123)then
      if decide (r1=123)then
       some true
      else
       some false
     else
      if decide (r1=125)then
       if decide (r1=125)then
        some true
       else
        some false
      else
       if decide (r1=44)then
        if decide (r1=44)then
         some true
        else
         some false
       else
        if decide (r1=59)then
         if decide (r1=59)then
          some true
         else
          some false
        else
         if decide (r1=58)then
          if decide (r1=58)then
           some true
          else
           some false
         else
          if decide (r1=43)then
           if decide (r1=43)then
            some true
           else
            some false
          else
           if decide (r1=45)then
            if decide (r1=45)then
             some true
            else
             some false
           else
            if decide (r1=42)then
             if decide (r1=42)then
              some true
             else
              some false
            else
             if decide (r1=47)then
              if decide (r1=47)then
               some true
              else
               some false
             else
              if decide (r1=60)then
               if decide (r1=60)then
                some true
               else
                some false
              else
               if decide (r1=61)then
                if decide (r1=61)then
                 some true
                else
                 some false
               else
                if decide (r1=38)then
                 if decide (r1=38)then
                  some true
                 else
                  some false
                else
                 if decide (r1=124)then
                  if decide (r1=124)then
                   some true
                  else
                   some false
                 else
                  if decide (r1=33)then
                   if decide (r1=33)then
                    some true
                   else
                    some false
                  else
                   if decide (r1=46)then
                    if decide (r1=46)then
                     some true
                    else
                     some false
                   else
                    if decide (r1=64)then
                     some true
                    else
                     some false
def lX (s1:List UInt8):Option (Int×Int):=
 (sat s1 0).bind fun b1=>
 (gK (mn b1)).bind fun r1=>
 if r1 then
  (io s1 cJ).bind fun r2=>
  some (1,r2)
 else
  (gE (mn b1)).bind fun r3=>
  if r3 then
   (io s1 gE).bind fun r4=>
   some (2,r4)
  else
   (gd (((decide (mn b1=60))||(decide (mn b1=61)))&&(decide (1<(s1.length:Int)))) (sat s1 1)).bind fun b2=>
   if(((decide (mn b1=60))||(decide (mn b1=61)))&&(decide (1<(s1.length:Int))))&&(decide (b2=61))then
    some (3,2)
   else
    (kJ (mn b1)).bind fun r5=>
    if r5 then
     some (3,1)
    else
     some (0,0)
def eE (s1:List UInt8):Nat→(List aG)→Int→Option (List aG×Int×Int)
 | 0,_,_=>none
 | fuel1+1,gh,at1=>
  if decide (at1<(s1.length:Int))then
   (iz s1 at1).bind fun s2=>
   (lX s2).bind fun r2=>
   if decide (r2.1=0)then
    some (([]:List aG),at1,5)
   else
    if(decide (r2.1=1))&&(decide (16<r2.2))then
     some (([]:List aG),at1,2)
    else
     (zM s1 at1 (az (at1+r2.2))).bind fun s3=>
     (jv gh ([(⟨r2.1,at1,s3⟩:aG)]:List aG)).bind fun zs1=>
     (iz s1 (az (at1+r2.2))).bind fun s4=>
     (k7 s4).bind fun r3=>
     (some (az ((az (at1+r2.2))+r3))).bind fun at2=>
     (eE s1 fuel1) zs1 at2
  else
   some (gh,0,0)
def iJ (s1:List UInt8):Option (List aG×Int×Int):=
 if decide (65536<(s1.length:Int))then
  some (([]:List aG),0,2)
 else
  (k7 s1).bind fun r1=>
  eE s1 fu ([]:List aG) r1
def li (t1:GType):Option Bool:=
 some ((decide (t1.Kind=t1.Kind))&&(decide (t1.Bits=0))&&(decide (t1.Frac=0))&&(decide (t1.Round=0))&&(decide (t1.Over=0)))
def fw (t1:GType):Option Int:=
 (some (((decide (1≤t1.Round))&&(decide (t1.Round≤4)))&&((decide (t1.Over=1))||(decide (t1.Over=2))))).bind fun modes1=>
 if(((((!decide (t1.Kind=2))||(decide (t1.Bits<2)))||(decide (31<t1.Bits)))||(decide (t1.Frac<0)))||(decide (30<t1.Frac)))||(!modes1)then
  some 10
 else
  some 0
def fm (t1:GType) (i1:Bool):Option Int:=
 if i1 then
  (li t1).bind fun r1=>
  if r1 then
   some 0
  else
   some 10
 else
  if decide (t1.Kind=2)then
   (fw t1).bind fun r2=>
   if decide (r2=0)then
    some 0
   else
    some 10
  else
   some 10
def dh (t1:GType):Option Int:=
 if decide (t1.Kind=1)then
  fm t1 (decide (t1.Kind=1))
 else
  fm t1 (decide (t1.Kind=3))
def fS (s1:List UInt8) (sep1:List UInt8):Option (List UInt8×List UInt8×Bool):=
 (ff s1 sep1).bind fun r1=>
 if decide (0≤r1)then
  (nb s1 r1).bind fun s2=>
  (iz s1 (az (r1+(sep1.length:Int)))).bind fun s3=>
  some (s2,s3,true)
 else
  some (s1,([]:List UInt8),false)
def ln (s1:List UInt8) (sep1:List UInt8):Option (List UInt8×List UInt8×Bool):=
 (fS s1 sep1).bind fun r1=>
 some (r1.1,r1.2.1,r1.2.2)
def dW (s1:List UInt8) (prefix1:List UInt8):Option Bool:=
 (gd (decide ((prefix1.length:Int)≤(s1.length:Int))) (nb s1 (prefix1.length:Int))).bind fun s2=>
 some ((decide ((prefix1.length:Int)≤(s1.length:Int)))&&(decide (s2=prefix1)))
def dX (s1:List UInt8) (prefix1:List UInt8):Option (List UInt8×Bool):=
 (dW s1 prefix1).bind fun r1=>
 if !r1 then
  some (s1,false)
 else
  (iz s1 (prefix1.length:Int)).bind fun s2=>
  some (s2,true)
def hP (s1:List UInt8) (prefix1:List UInt8):Option (List UInt8×Bool):=
 (dX s1 prefix1).bind fun r1=>
 some (r1.1,r1.2)
def ji (s1:List UInt8):Option Bool:=
 (gd ((!(decide (s1=([48]:List UInt8))))&&(!decide (s1=([]:List UInt8)))) (sat s1 0)).bind fun b1=>
 some ((decide (s1=([48]:List UInt8)))||((!decide (s1=([]:List UInt8)))&&(!decide (b1=48))))
def gS (s1:List UInt8):Nat→Int→Option Bool
 | 0,_=>none
 | fuel1+1,i1=>
  if decide (i1<(s1.length:Int))then
   (sat s1 i1).bind fun b2=>
   (gd (!(decide (b2<48))) (sat s1 i1)).bind fun b3=>
   if(decide (b2<48))||(decide (57<b3))then
    some false
   else
    (gS s1 fuel1) (az (i1+1))
  else
   ji s1
def jH (s1:List UInt8):Option Bool:=
 gS s1 fu 0
def jI (s1:List UInt8):Option (Int×Bool):=
 if decide (10<(s1.length:Int))then
  some (0,false)
 else
  (jW s1 10 64).bind fun r1=>
  some (r1.1,decide (r1.1≤2147483647))
def kL (n1:Int):Option Bool:=
 some ((decide ((-2147483647)≤n1))&&(decide (n1≤2147483647)))
def jG (n1:Int):Option Int:=
 if decide (n1<0)then
  some (iK (-(iK n1)))
 else
  some (iK n1)
def kh:Nat→Int→Int→Option Int
 | 0,_,_=>none
 | fuel1+1,a2,b2=>
  if !decide (b2=0)then
   if b2≠0 then
    (kh fuel1) b2 (Int.tmod a2 b2)
   else none
  else
   some a2
def oW (a1:Int) (b1:Int):Option Int:=
 kh fu a1 b1
def k9 (v1:GVal):Option Bool:=
 (gd ((decide (1≤v1.D))&&(decide (v1.D≤2147483647))) (kL v1.N)).bind fun r1=>
 (gd (((decide (1≤v1.D))&&(decide (v1.D≤2147483647)))&&r1) (jG v1.N)).bind fun r2=>
 (gd (((decide (1≤v1.D))&&(decide (v1.D≤2147483647)))&&r1) (oW r2 (iK v1.D))).bind fun r3=>
 some ((((decide (1≤v1.D))&&(decide (v1.D≤2147483647)))&&r1)&&(decide (r3=1)))
def j9 (r5:Int×Bool) (n1:Int):Option (GVal×Int):=
 (k9 (⟨n1,r5.1⟩:GVal)).bind fun r6=>
 if !r6 then
  some ((⟨0,0⟩:GVal),5)
 else
  some ((⟨n1,r5.1⟩:GVal),0)
def i7 (r2:List UInt8×Bool) (bottom1:List UInt8):Option (GVal×Int):=
 (jI r2.1).bind fun r4=>
 (jI bottom1).bind fun r5=>
 if(!r4.2)||(!r5.2)then
  some ((⟨0,0⟩:GVal),3)
 else
  if r2.2 then
   j9 r5 (az (-r4.1))
  else
   j9 r5 r4.1
def lY (s1:List UInt8):Option (GVal×Int):=
 (ln s1 ([47]:List UInt8)).bind fun r1=>
 (hP r1.1 ([45]:List UInt8)).bind fun r2=>
 (jH r2.1).bind fun r3=>
 if(!r3)||(r2.2&&(decide (r2.1=([48]:List UInt8))))then
  some ((⟨0,0⟩:GVal),5)
 else
  if !r1.2.2 then
   i7 r2 ([49]:List UInt8)
  else
   (jH r1.2.1).bind fun r7=>
   if((!r7)||(decide (r1.2.1=([48]:List UInt8))))||(decide (r1.2.1=([49]:List UInt8)))then
    some ((⟨0,0⟩:GVal),5)
   else
    i7 r2 r1.2.1
def ke (bits1:Int):Option Bool:=
 some ((decide (2≤bits1))&&(decide (bits1≤31)))
def kC (bits1:Int):Option Int:=
 (ke bits1).bind fun r1=>
 if !r1 then
  some 0
 else
  if 0≤(iK (az (bits1 - 1)))then
   some (az (-(az (1 * 2 ^ (min (Int.toNat (iK (az (bits1 - 1)))) 64)))))
  else none
def kD (bits1:Int):Option Int:=
 (ke bits1).bind fun r1=>
 if !r1 then
  some 0
 else
  if 0≤(iK (az (bits1 - 1)))then
   some (az ((az (1 * 2 ^ (min (Int.toNat (iK (az (bits1 - 1)))) 64))) - 1))
  else none
def ki (t1:GType) (v1:GVal):Option Bool:=
 (fw t1).bind fun r1=>
 (gd ((decide (r1=0))&&(decide (v1.D=1))) (kC t1.Bits)).bind fun r2=>
 (gd (((decide (r1=0))&&(decide (v1.D=1)))&&(decide (r2≤v1.N))) (kD t1.Bits)).bind fun r3=>
 some ((((decide (r1=0))&&(decide (v1.D=1)))&&(decide (r2≤v1.N)))&&(decide (v1.N≤r3)))
def lm (t1:GType) (s1:List UInt8):Option (GVal×Int):=
 (dh t1).bind fun r1=>
 if !decide (r1=0)then
  some ((⟨0,0⟩:GVal),10)
 else
  (lY s1).bind fun r2=>
  if !decide (r2.2=0)then
   some ((⟨0,0⟩:GVal),r2.2)
  else
   if decide (t1.Kind=3)then
    if !decide (r2.1.D=1)then
     some ((⟨0,0⟩:GVal),5)
    else
     some (r2.1,0)
   else
    if decide (t1.Kind=2)then
     if 0≤t1.Frac then
      (some (az (1 * 2 ^ (min (Int.toNat t1.Frac) 64)))).bind fun one1=>
      if r2.1.D≠0 then
       if !decide (Int.tmod one1 r2.1.D=0)then
        some ((⟨0,0⟩:GVal),5)
       else
        (ki t1 (⟨az (r2.1.N * (az (Int.tdiv one1 r2.1.D))),1⟩:GVal)).bind fun r3=>
        if !r3 then
         some ((⟨0,0⟩:GVal),3)
        else
         some ((⟨az (r2.1.N * (az (Int.tdiv one1 r2.1.D))),1⟩:GVal),0)
      else none
     else none
    else
     some (r2.1,0)
def fZ (e1:GExpr) (rec_:(GExpr→Int→Option Int)) (limit1:Int):Nat→Int→Int→Option Int
 | 0,_,_=>none
 | fuel1+1,d1,i1=>
  if decide (i1<(e1.Args.length:Int))then
   (lat e1.Args i1).bind fun e2=>
   (rec_ e2 (az (limit1 - 1))).bind fun r1=>
   (fZ e1 rec_ limit1 fuel1) (max d1 (az (1+r1))) (az (i1+1))
  else
   some d1
def kM (rec_:(GExpr→Int→Option Int)) (e1:GExpr) (limit1:Int):Option Int:=
 if decide (limit1≤1)then
  some limit1
 else
  fZ e1 rec_ limit1 fu 1 0
def iR:Nat→(GExpr→Int→Option Int)
 | 0=>fun _ _=>none
 | n+1=>kM (iR n)
def oX (e1:GExpr) (limit1:Int):Option Int:=iR fu e1 limit1
def nh (e1:GExpr):Option Int:=
 (oX e1 41).bind fun r1=>
 some r1
def lG (e1:GExpr):Option GExpr:=
 some e1
def db {σ:Type} (e1:GExpr) (rec_:(GExpr→(GExpr→σ→Option (Bool×σ))→σ→Option (Bool×σ))) (yield1:(GExpr→σ→Option (Bool×σ))):Nat→Int→σ→Option (Bool×σ)
 | 0,_,_=>none
 | fuel1+1,i1,s3=>
  if decide (i1<(e1.Args.length:Int))then
   (lat e1.Args i1).bind fun e2=>
   (rec_ e2 yield1 s3).bind fun⟨r2,s4⟩=>
   if !r2 then
    some (false,s4)
   else
    (db e1 rec_ yield1 fuel1) (az (i1+1)) s4
  else
   some (true,s3)
def gZ {σ:Type} (rec_:(GExpr→(GExpr→σ→Option (Bool×σ))→σ→Option (Bool×σ))) (e1:GExpr) (yield1:(GExpr→σ→Option (Bool×σ))) (s1:σ):Option (Bool×σ):=
 (yield1 e1 s1).bind fun⟨r1,s2⟩=>
 if !r1 then
  some (false,s2)
 else
  db e1 rec_ yield1 fu 0 s2
def el {σ:Type} :Nat→(GExpr→(GExpr→σ→Option (Bool×σ))→σ→Option (Bool×σ))
 | 0=>fun _ _ _=>none
 | n+1=>gZ (el n)
def mH {σ:Type} (e1:GExpr) (yield1:(GExpr→σ→Option (Bool×σ))) (s1:σ):Option (Bool×σ):=el fu e1 yield1 s1
def i8 {σ:Type} (yield1:(GExpr→σ→Option (Bool×σ))) (a1:GExpr) (s1:σ):Option (Unit×σ):=
 (mH a1 yield1 s1).bind fun⟨r1,s2⟩=>
 some ((),s2)
def d7 (y1:GExpr) (n1:Int):Option (Bool×(Nat×Int)):=
 if decide (2000<az (n1+1))then
  some (false,(1,(az (n1+1))))
 else
  some (true,(0,(az (n1+1))))
def mP (e1:GExpr):Option Int:=
 (lG e1).bind fun r1=>
 (i8 (fun k_0 q=>if q.1=0 then d7 k_0 q.2 else none) r1 (0,0)).bind fun⟨u1,o1,n2⟩=>
 if o1=0 then
  some n2
 else
  if o1=1 then
   some n2
  else
   none
def kl (l1:GLin):Option Bool:=
 some ((decide (l1.K=0))&&(decide ((l1.L.length:Int)=0)))
def aO (s1:List GIndex) (f1:(GIndex→Option Bool)):Nat→Int→Option Int
 | 0,_=>none
 | fuel1+1,i1=>
  if decide (i1<(s1.length:Int))then
   (lat s1 i1).bind fun e1=>
   (f1 e1).bind fun r1=>
   if r1 then
    some i1
   else
    (aO s1 f1 fuel1) (az (i1+1))
  else
   some (-1)
def cF (s1:List GIndex) (f1:(GIndex→Option Bool)):Option Int:=
 aO s1 f1 fu 0
def bb (s1:List GIndex) (f1:(GIndex→Option Bool)):Option Bool:=
 (cF s1 f1).bind fun r1=>
 some (decide (0≤r1))
def kw (x1:GIndex):Option Bool:=
 if decide (x1.From=([]:List UInt8))then
  some (decide ((x1.At.length:Int)=0))
 else
  (kl x1.Lin).bind fun r1=>
  some r1
def g9 (x1:GIndex):Option Bool:=
 (kw x1).bind fun r1=>
 some (!r1)
def lu (e1:GExpr):Option Bool:=
 if(decide (e1.Op<1))||(decide (18<e1.Op))then
  some false
 else
  if(!(decide (e1.Op=1)))&&(!((decide (e1.Val.N=0))&&(decide (e1.Val.D=0))))then
   some false
  else
   if(!((decide (e1.Op=1))||(decide (e1.Op=12))))&&(!((decide (e1.Type_.Kind=0))&&(decide (e1.Type_.Bits=0))&&(decide (e1.Type_.Frac=0))&&(decide (e1.Type_.Round=0))&&(decide (e1.Type_.Over=0))))then
    some false
   else
    (gd (!(decide (e1.Op=2))) (kl e1.Lin)).bind fun r1=>
    if(!(decide (e1.Op=2)))&&(!r1)then
     some false
    else
     if(!(decide (e1.Op=3)))&&((!decide (e1.Name=([]:List UInt8)))||(decide (0<(e1.Idx.length:Int))))then
      some false
     else
      (bb e1.Idx g9).bind fun r2=>
      some (!r2)
def iQ (x1:GIndex):Option Bool:=
 (gd (!decide (x1.From=([]:List UInt8))) (fR x1.From)).bind fun r1=>
 some ((!decide (x1.From=([]:List UInt8)))&&(!r1))
def l0 (e1:GExpr):Option Bool:=
 (gd (decide (e1.Op=3)) (fR e1.Name)).bind fun r1=>
 if(decide (e1.Op=3))&&(!r1)then
  some false
 else
  (bb e1.Idx iQ).bind fun r2=>
  some (!r2)
def gu (op1:Int) (i2:Bool):Option Int:=
 if i2 then
  some 1
 else
  if decide (op1=11)then
   some 3
  else
   some 2
def gw (op1:Int) (i1:Bool):Option Int:=
 if i1 then
  some 0
 else
  if decide (op1=8)then
   gu op1 (decide (op1=8))
  else
   if decide (op1=12)then
    gu op1 (decide (op1=12))
   else
    gu op1 (decide (op1=18))
def ka (op1:Int):Option Int:=
 if decide (op1=1)then
  gw op1 (decide (op1=1))
 else
  if decide (op1=2)then
   gw op1 (decide (op1=2))
  else
   gw op1 (decide (op1=3))
def kj (x1:GIndex):Option Bool:=
 some (decide (6<(x1.At.length:Int)))
def mO (e1:GExpr):Option Bool:=
 (ka e1.Op).bind fun r1=>
 if(!decide ((e1.Args.length:Int)=r1))||(decide (6<(e1.Idx.length:Int)))then
  some false
 else
  (bb e1.Idx kj).bind fun r2=>
  some (!r2)
def jY (e1:GExpr):Option Bool:=
 some ((decide (13≤e1.Op))&&(decide (e1.Op≤18)))
def eX (op1:Int) (i1:Int):Option Bool:=
 if decide (op1=16)then
  if decide (op1=16)then
   some true
  else
   some ((decide (op1=11))&&(decide (i1=0)))
 else
  if decide (op1=17)then
   if decide (op1=17)then
    some true
   else
    some ((decide (op1=11))&&(decide (i1=0)))
  else
   if decide (op1=18)then
    some true
   else
    some ((decide (op1=11))&&(decide (i1=0)))
def fg (e1:GExpr):Nat→Int→Option Bool
 | 0,_=>none
 | fuel1+1,i1=>
  if decide (i1<(e1.Args.length:Int))then
   (lat e1.Args i1).bind fun e2=>
   (jY e2).bind fun r2=>
   (eX e1.Op i1).bind fun r3=>
   if r2 != r3 then
    some false
   else
    (fg e1 fuel1) (az (i1+1))
  else
   some true
def lZ (e1:GExpr):Option Bool:=
 (gd ((decide (e1.Op=1))||(decide (e1.Op=12))) (dh e1.Type_)).bind fun r1=>
 if((decide (e1.Op=1))||(decide (e1.Op=12)))&&(!decide (r1=0))then
  some false
 else
  fg e1 fu 0
def mB (n1:Int):Option Bool:=
 some ((decide ((-2147483647)≤n1))&&(decide (n1≤2147483647)))
def lk (t1:GType) (v1:GVal):Option Bool:=
 (dh t1).bind fun r1=>
 if !decide (r1=0)then
  some false
 else
  if decide (t1.Kind=2)then
   (ki t1 v1).bind fun r2=>
   some r2
  else
   if decide (t1.Kind=3)then
    (gd (decide (v1.D=1)) (mB v1.N)).bind fun r3=>
    some ((decide (v1.D=1))&&r3)
   else
    (k9 v1).bind fun r4=>
    some r4
def l5 (e1:GExpr):Option GExpr:=
 some e1
def jx {σ:Type} (self1:Int→σ→Option (Unit×σ)) (i1:Int) (s4:σ):Option (Unit×σ):=
 self1 (az (i1+1)) s4
def cY {σ:Type} (e1:GIndex) (yield1:(GLin→σ→Option (Bool×σ))) (self1:Int→σ→Option (Unit×σ)) (i1:Int):Nat→Int→σ→Option (Unit×σ)
 | 0,_,_=>none
 | fuel2+1,i2,s6=>
  if decide (i2<(e1.At.length:Int))then
   (lat e1.At i2).bind fun e2=>
   (yield1 e2 s6).bind fun⟨r3,s7⟩=>
   if !r3 then
    some ((),s7)
   else
    (cY e1 yield1 self1 i1 fuel2) (az (i2+1)) s7
  else
   jx self1 i1 s6
def bp {σ:Type} (a1:GExpr) (yield1:(GLin→σ→Option (Bool×σ))):Nat→Int→σ→Option (Unit×σ)
 | 0,_,_=>none
 | fuel1+1,i1,s3=>
  if decide (i1<(a1.Idx.length:Int))then
   (lat a1.Idx i1).bind fun e1=>
   (yield1 e1.Lin s3).bind fun⟨r2,s5⟩=>
   if !r2 then
    some ((),s5)
   else
    cY e1 yield1 (bp a1 yield1 fuel1) i1 fu 0 s5
  else
   some ((),s3)
def jK {σ:Type} (yield1:(GLin→σ→Option (Bool×σ))) (a1:GExpr) (s1:σ):Option (Unit×σ):=
 (yield1 a1.Lin s1).bind fun⟨r1,s2⟩=>
 if !r1 then
  some ((),s2)
 else
  bp a1 yield1 fu 0 s2
def cX (y1:GLin) (v1:Int):Option (Bool×(Nat×Int)):=
 (gJ y1).bind fun r7=>
 if !decide (r7=0)then
  some (false,(1,1))
 else
  some (true,(0,v1))
def jJ (e1:GExpr):Option Int:=
 (lu e1).bind fun r1=>
 if !r1 then
  some 5
 else
  (l0 e1).bind fun r2=>
  if !r2 then
   some 7
  else
   (mO e1).bind fun r3=>
   if !r3 then
    some 11
   else
    (lZ e1).bind fun r4=>
    if !r4 then
     some 10
    else
     (gd (decide (e1.Op=1)) (lk e1.Type_ e1.Val)).bind fun r5=>
     if(decide (e1.Op=1))&&(!r5)then
      some 1
     else
      (l5 e1).bind fun r6=>
      (jK (fun k_0 q=>if q.1=0 then cX k_0 q.2 else none) r6 (0,0)).bind fun⟨u1,o1,v2⟩=>
      if o1=0 then
       some 0
      else
       if o1=1 then
        some v2
       else
        none
def cN (y1:GExpr) (v1:Int):Option (Bool×(Nat×Int)):=
 (jJ y1).bind fun r4=>
 if !decide (r4=0)then
  some (false,(1,r4))
 else
  some (true,(0,v1))
def hH (e1:GExpr):Option Int:=
 (nh e1).bind fun r1=>
 if decide (40<r1)then
  some 13
 else
  (mP e1).bind fun r2=>
  if decide (2000<r2)then
   some 2
  else
   (lG e1).bind fun r3=>
   (i8 (fun k_0 q=>if q.1=0 then cN k_0 q.2 else none) r3 (0,0)).bind fun⟨u1,o1,v2⟩=>
   if o1=0 then
    some 0
   else
    if o1=1 then
     some v2
    else
     none
def d6 (r1:aa):Option (bk (Unit×aa)):=
 some (.ret ((),(⟨r1.l,az (r1.at_+1),az (r1.deep+1)⟩:aa)))
def bK (r1:aa):Option (bk (Unit×aa)):=
 if decide (159<r1.deep)then
  pb (bG r1 r1.at_ 13) fun r2=>
  d6 r1
 else
  d6 r1
def b9 (r1:aa):Option (bk (Unit×aa)):=
 (bR r1 3 ([40]:List UInt8)).bind fun r2=>
 if !r2 then
  pb (ba r1) fun⟨r3,s1⟩=>
  pb (bK s1) fun⟨r4,s2⟩=>
  some (.ret ((),s2))
 else
  pb (bK r1) fun⟨r5,s3⟩=>
  some (.ret ((),s3))
def aK (r1:aa) (s1:List UInt8):Option (bk (Unit×aa)):=
 (aD r1 s1).bind fun⟨r2,s2⟩=>
 if !r2 then
  pb (ba s2) fun⟨r3,s3⟩=>
  some (.ret ((),s3))
 else
  some (.ret ((),s2))
def da (r1:aa):Option (bk (Unit×aa)):=
 pb (aK r1 ([41]:List UInt8)) fun⟨r2,s1⟩=>
 some (.ret ((),(⟨s1.l,s1.at_,az (s1.deep - 1)⟩:aa)))
def bX (l1:List (List UInt8)) (r1:aa):Nat→Int→Option (Int×aa)
 | 0,_=>none
 | fuel1+1,i1=>
  if decide (i1<(l1.length:Int))then
   (lat l1 i1).bind fun e1=>
   (bR r1 1 e1).bind fun r2=>
   if r2 then
    some (i1,(⟨r1.l,az (r1.at_+1),r1.deep⟩:aa))
   else
    (bX l1 r1 fuel1) (az (i1+1))
  else
   some ((-1),r1)
def cG (r1:aa) (l1:List (List UInt8)):Option (Int×aa):=
 bX l1 r1 fu 0
def dZ (r1:aa):Option (bk (Int×aa)):=
 pb (bB r1) fun⟨r2,s1⟩=>
 (gY r2 false).bind fun r3=>
 if(!r3.2)||(decide (2147483647<r3.1))then
  pb (bG s1 r1.at_ 3) fun r4=>
  some (.ret (r3.1,s1))
 else
  some (.ret (r3.1,s1))
def dC (r4:Int) (r6:Int) (r8:Int) (r11:Int) (r1:aa) (r12:aa):Option (bk (GType×aa)):=
 pb (aK r12 ([41]:List UInt8)) fun⟨r13,s9⟩=>
 (dh (⟨2,r4,r6,az (r8+1),az (r11+1)⟩:GType)).bind fun r14=>
 if !decide (r14=0)then
  pb (bG s9 r1.at_ 10) fun r15=>
  some (.ret ((⟨2,r4,r6,az (r8+1),az (r11+1)⟩:GType),s9))
 else
  some (.ret ((⟨2,r4,r6,az (r8+1),az (r11+1)⟩:GType),s9))
def dD (r4:Int) (r6:Int) (r8:Int) (r1:aa) (r9:aa):Option (bk (GType×aa)):=
 pb (aK r9 ([44]:List UInt8)) fun⟨r10,s7⟩=>
 (cG s7 ([([115,97,116]:List UInt8),([119,114,97,112]:List UInt8)]:List (List UInt8))).bind fun⟨r11,s8⟩=>
 if decide (az (r11+1)=0)then
  pb (ba s8) fun⟨r16,s10⟩=>
  dC r4 r6 r8 r11 r1 s10
 else
  dC r4 r6 r8 r11 r1 s8
def dF (r1:aa) (r2:aa):Option (bk (GType×aa)):=
 pb (aK r2 ([40]:List UInt8)) fun⟨r3,s1⟩=>
 pb (dZ s1) fun⟨r4,s2⟩=>
 pb (aK s2 ([44]:List UInt8)) fun⟨r5,s3⟩=>
 pb (dZ s3) fun⟨r6,s4⟩=>
 pb (aK s4 ([44]:List UInt8)) fun⟨r7,s5⟩=>
 (cG s5 ([([102,108,111,111,114]:List UInt8),([99,101,105,108]:List UInt8),([122,101,114,111]:List UInt8),([101,118,101,110]:List UInt8)]:List (List UInt8))).bind fun⟨r8,s6⟩=>
 if decide (az (r8+1)=0)then
  pb (ba s6) fun⟨r17,s11⟩=>
  dD r4 r6 r8 r1 s11
 else
  dD r4 r6 r8 r1 s6
def eO (r1:aa):Option (bk (GType×aa)):=
 (cG r1 ([([102,114,97,99]:List UInt8),([105,110,116]:List UInt8),([102,105,120]:List UInt8)]:List (List UInt8))).bind fun⟨r18,s12⟩=>
 if decide (r18=0)then
  some (.ret ((⟨1,0,0,0,0⟩:GType),s12))
 else
  if decide (r18=1)then
   some (.ret ((⟨3,0,0,0,0⟩:GType),s12))
  else
   if decide (r18=(-1))then
    pb (ba s12) fun⟨r19,s13⟩=>
    dF r1 s13
   else
    dF r1 s12
def di (r6:aa) (r7:GVal×Int) (r2:GType):Option (bk (GExpr×aa)):=
 pb (aK r6 ([41]:List UInt8)) fun⟨r8,s5⟩=>
 some (.ret ((⟨1,([]:List UInt8),r7.1,r2,(⟨0,([]:List GMono)⟩:GLin),([]:List GIndex),([]:List GExpr)⟩:GExpr),s5))
def cu (r2:GType) (s2:aa) (text2:List UInt8) (r6:aa):Option (bk (GExpr×aa)):=
 (lm r2 text2).bind fun r7=>
 if !decide (r7.2=0)then
  pb (bG r6 s2.at_ r7.2) fun r9=>
  di r6 r7 r2
 else
  di r6 r7 r2
def bU (r2:GType) (s2:aa) (text1:List UInt8) (r4:aa):Option (bk (GExpr×aa)):=
 pb (bB r4) fun⟨r5,s3⟩=>
 (jv text1 r5).bind fun s4=>
 (aD s3 ([47]:List UInt8)).bind fun⟨r10,s6⟩=>
 if r10 then
  pb (bB s6) fun⟨r11,s7⟩=>
  (jv ([47]:List UInt8) r11).bind fun s8=>
  (jv s4 s8).bind fun s9=>
  cu r2 s2 s9 s7
 else
  cu r2 s2 s4 s6
def bV (r1:aa):Option (bk (GExpr×aa)):=
 pb (eO r1) fun⟨r2,s1⟩=>
 pb (aK s1 ([40]:List UInt8)) fun⟨r3,s2⟩=>
 (aD s2 ([45]:List UInt8)).bind fun⟨r12,s10⟩=>
 if r12 then
  bU r2 s2 ([45]:List UInt8) s10
 else
  bU r2 s2 ([]:List UInt8) s10
def dm (rec_:(aa→Option (bk (GExpr×aa)))) (e1:GExpr) (self1:Int→aa→GExpr→Option (bk (GExpr×aa))) (i1:Int) (r4:aa):Option (bk (GExpr×aa)):=
 pb (rec_ r4) fun⟨r5,s2⟩=>
 (jv e1.Args ([r5]:List GExpr)).bind fun zs1=>
 self1 (az (i1+1)) s2 (⟨e1.Op,e1.Name,e1.Val,e1.Type_,e1.Lin,e1.Idx,zs1⟩:GExpr)
def bj (many1:Int) (rec_:(aa→Option (bk (GExpr×aa)))):Nat→Int→aa→GExpr→Option (bk (GExpr×aa))
 | 0,_,_,_=>none
 | fuel1+1,i1,r3,e1=>
  if decide (i1<many1)then
   if decide (0<i1)then
    pb (aK r3 ([44]:List UInt8)) fun⟨r6,s3⟩=>
    dm rec_ e1 (bj many1 rec_ fuel1) i1 s3
   else
    dm rec_ e1 (bj many1 rec_ fuel1) i1 r3
  else
   pb (da r3) fun⟨r7,s4⟩=>
   some (.ret (e1,s4))
def cI (rec_:(aa→Option (bk (GExpr×aa)))) (r1:aa) (op1:Int) (many1:Int):Option (bk (GExpr×aa)):=
 pb (b9 r1) fun⟨r2,s1⟩=>
 bj many1 rec_ fu 0 s1 (⟨op1,([]:List UInt8),(⟨0,0⟩:GVal),(⟨0,0,0,0,0⟩:GType),(⟨0,([]:List GMono)⟩:GLin),([]:List GIndex),([]:List GExpr)⟩:GExpr)
def es (rec_:(aa→Option (bk (GExpr×aa)))) (r1:aa):Option (bk (GExpr×aa)):=
 pb (b9 r1) fun⟨r2,s1⟩=>
 pb (eO s1) fun⟨r3,s2⟩=>
 pb (aK s2 ([44]:List UInt8)) fun⟨r4,s3⟩=>
 pb (rec_ s3) fun⟨r5,s4⟩=>
 pb (da s4) fun⟨r6,s5⟩=>
 some (.ret ((⟨12,([]:List UInt8),(⟨0,0⟩:GVal),r3,(⟨0,([]:List GMono)⟩:GLin),([]:List GIndex),([r5]:List GExpr)⟩:GExpr),s5))
def cj:Nat→(List GLin)→aa→Option (bk (List GLin×aa))
 | 0,_,_=>none
 | fuel1+1,gh,r4=>
  (aD r4 ([44]:List UInt8)).bind fun⟨r5,s3⟩=>
  if r5 then
   pb (bC s3) fun⟨r6,s4⟩=>
   (jv gh ([r6]:List GLin)).bind fun zs1=>
   (cj fuel1) zs1 s4
  else
   pb (aK s3 ([93]:List UInt8)) fun⟨r7,s5⟩=>
   some (.ret (gh,s5))
def fv (r1:aa):Option (bk (List GLin×aa)):=
 (aD r1 ([93]:List UInt8)).bind fun⟨r2,s1⟩=>
 if r2 then
  some (.ret (([]:List GLin),s1))
 else
  pb (bC s1) fun⟨r3,s2⟩=>
  cj fu ([r3]:List GLin) s2
def ct (r1:aa):Option (bk (GIndex×aa)):=
 (cH r1).bind fun r2=>
 (gd (r2&&(decide (az (r1.at_+1)<(r1.l.length:Int)))) (lat r1.l (az (r1.at_+1)))).bind fun e1=>
 (gd ((r2&&(decide (az (r1.at_+1)<(r1.l.length:Int))))&&(decide (e1.Kind=3))) (lat r1.l (az (r1.at_+1)))).bind fun e2=>
 if !(((r2&&(decide (az (r1.at_+1)<(r1.l.length:Int))))&&(decide (e1.Kind=3)))&&(decide (e2.Text=([91]:List UInt8))))then
  pb (bC r1) fun⟨r3,s1⟩=>
  some (.ret ((⟨r3,([]:List UInt8),([]:List GLin)⟩:GIndex),s1))
 else
  pb (bh r1) fun⟨r4,s2⟩=>
  pb (aK s2 ([91]:List UInt8)) fun⟨r5,s3⟩=>
  pb (fv s3) fun⟨r6,s4⟩=>
  some (.ret ((⟨(⟨0,([]:List GMono)⟩:GLin),r4,r6⟩:GIndex),s4))
def bF:Nat→aa→GExpr→Option (bk (GExpr×aa))
 | 0,_,_=>none
 | fuel1+1,r24,e1=>
  (aD r24 ([44]:List UInt8)).bind fun⟨r25,s19⟩=>
  if r25 then
   pb (ct s19) fun⟨r26,s20⟩=>
   (jv e1.Idx ([r26]:List GIndex)).bind fun zs1=>
   (bF fuel1) s20 (⟨e1.Op,e1.Name,e1.Val,e1.Type_,e1.Lin,zs1,e1.Args⟩:GExpr)
  else
   pb (aK s19 ([93]:List UInt8)) fun⟨r27,s21⟩=>
   some (.ret (e1,s21))
def dl (rec_:(aa→Option (bk (GExpr×aa)))) (r1:aa):Option (bk (GExpr×aa)):=
 (bR r1 3 ([40]:List UInt8)).bind fun r2=>
 if r2 then
  pb (b9 r1) fun⟨r3,s1⟩=>
  pb (rec_ s1) fun⟨r4,s2⟩=>
  pb (da s2) fun⟨r5,s3⟩=>
  some (.ret (r4,s3))
 else
  (aD r1 ([91]:List UInt8)).bind fun⟨r6,s4⟩=>
  if r6 then
   pb (bC s4) fun⟨r7,s5⟩=>
   pb (aK s5 ([93]:List UInt8)) fun⟨r8,s6⟩=>
   some (.ret ((⟨2,([]:List UInt8),(⟨0,0⟩:GVal),(⟨0,0,0,0,0⟩:GType),r7,([]:List GIndex),([]:List GExpr)⟩:GExpr),s6))
  else
   (bR s4 1 ([102,114,97,99]:List UInt8)).bind fun r9=>
   if r9 then
    pb (bV s4) fun⟨r10,s7⟩=>
    some (.ret (r10,s7))
   else
    (bR s4 1 ([105,110,116]:List UInt8)).bind fun r11=>
    if r11 then
     pb (bV s4) fun⟨r12,s8⟩=>
     some (.ret (r12,s8))
    else
     (bR s4 1 ([102,105,120]:List UInt8)).bind fun r13=>
     if r13 then
      pb (bV s4) fun⟨r14,s9⟩=>
      some (.ret (r14,s9))
     else
      (cG s4 ([([109,105,110]:List UInt8),([109,97,120]:List UInt8),([105,102]:List UInt8),([99,97,115,116]:List UInt8)]:List (List UInt8))).bind fun⟨r15,s10⟩=>
      if decide (r15=0)then
       pb (cI rec_ s10 9 2) fun⟨r16,s11⟩=>
       some (.ret (r16,s11))
      else
       if decide (r15=1)then
        pb (cI rec_ s10 10 2) fun⟨r17,s12⟩=>
        some (.ret (r17,s12))
       else
        if decide (r15=2)then
         pb (cI rec_ s10 11 3) fun⟨r18,s13⟩=>
         some (.ret (r18,s13))
        else
         if decide (r15=3)then
          pb (es rec_ s10) fun⟨r19,s14⟩=>
          some (.ret (r19,s14))
         else
          pb (bh s10) fun⟨r20,s15⟩=>
          pb (aK s15 ([91]:List UInt8)) fun⟨r21,s16⟩=>
          (aD s16 ([93]:List UInt8)).bind fun⟨r22,s17⟩=>
          if r22 then
           some (.ret ((⟨3,r20,(⟨0,0⟩:GVal),(⟨0,0,0,0,0⟩:GType),(⟨0,([]:List GMono)⟩:GLin),([]:List GIndex),([]:List GExpr)⟩:GExpr),s17))
          else
           pb (ct s17) fun⟨r23,s18⟩=>
           bF fu s18 (⟨3,r20,(⟨0,0⟩:GVal),(⟨0,0,0,0,0⟩:GType),(⟨0,([]:List GMono)⟩:GLin),([r23]:List GIndex),([]:List GExpr)⟩:GExpr)
def eu (rec_:(aa→Option (bk (GExpr×aa)))) (recs_:(aa→Option (bk (GExpr×aa)))) (r1:aa):Option (bk (GExpr×aa)):=
 (bR r1 3 ([45]:List UInt8)).bind fun r2=>
 if !r2 then
  pb (dl rec_ r1) fun⟨r3,s1⟩=>
  some (.ret (r3,s1))
 else
  pb (bK r1) fun⟨r4,s2⟩=>
  pb (recs_ s2) fun⟨r5,s3⟩=>
  some (.ret ((⟨8,([]:List UInt8),(⟨0,0⟩:GVal),(⟨0,0,0,0,0⟩:GType),(⟨0,([]:List GMono)⟩:GLin),([]:List GIndex),([r5]:List GExpr)⟩:GExpr),(⟨s3.l,s3.at_,az (s3.deep - 1)⟩:aa)))
def br (rec_:(aa→Option (bk (GExpr×aa)))):Nat→(aa→Option (bk (GExpr×aa)))
 | 0=>fun _=>none
 | n+1=>eu rec_ (br rec_ n)
def gQ (rec_:(aa→Option (bk (GExpr×aa)))) (r1:aa):Option (bk (GExpr×aa)):=br rec_ fu r1
def ij (e1:GExpr) (rec_:(aa→Option (bk (GExpr×aa)))) (self1:aa→GExpr→Option (bk (GExpr×aa))) (op1:Int) (r4:aa):Option (bk (GExpr×aa)):=
 if decide (op1=0)then
  some (.ret (e1,r4))
 else
  pb (gQ rec_ r4) fun⟨r5,s2⟩=>
  self1 s2 (⟨op1,([]:List UInt8),(⟨0,0⟩:GVal),(⟨0,0,0,0,0⟩:GType),(⟨0,([]:List GMono)⟩:GLin),([]:List GIndex),([e1,r5]:List GExpr)⟩:GExpr)
def fC (self2:Int→Int→aa→Option (bk (GExpr×aa))) (i1:Int) (op3:Int) (r7:aa):Option (bk (GExpr×aa)):=
 self2 op3 (az (i1+1)) r7
def bN (signs1:List (List UInt8)) (ops1:List Int) (e1:GExpr) (rec_:(aa→Option (bk (GExpr×aa)))) (self1:aa→GExpr→Option (bk (GExpr×aa))):Nat→Int→Int→aa→Option (bk (GExpr×aa))
 | 0,_,_,_=>none
 | fuel2+1,op2,i1,r6=>
  if decide (i1<(signs1.length:Int))then
   (lat signs1 i1).bind fun e2=>
   (BO (decide (op2=0)) (aD r6 e2) (default,r6)).bind fun⟨r8,s3⟩=>
   if(decide (op2=0))&&r8 then
    (lat ops1 i1).bind fun e3=>
    fC (bN signs1 ops1 e1 rec_ self1 fuel2) i1 e3 s3
   else
    fC (bN signs1 ops1 e1 rec_ self1 fuel2) i1 op2 s3
  else
   ij e1 rec_ self1 op2 r6
def bt (signs1:List (List UInt8)) (ops1:List Int) (rec_:(aa→Option (bk (GExpr×aa)))):Nat→aa→GExpr→Option (bk (GExpr×aa))
 | 0,_,_=>none
 | fuel1+1,r3,e1=>
  bN signs1 ops1 e1 rec_ (bt signs1 ops1 rec_ fuel1) fu 0 0 r3
def gB (rec_:(aa→Option (bk (GExpr×aa)))) (r1:aa) (signs1:List (List UInt8)) (ops1:List Int):Option (bk (GExpr×aa)):=
 pb (gQ rec_ r1) fun⟨r2,s1⟩=>
 bt signs1 ops1 rec_ fu s1 r2
def cz (rec_:(aa→Option (bk (GExpr×aa)))) (r1:aa):Option (bk (GExpr×aa)):=
 pb (gB rec_ r1 ([([42]:List UInt8),([47]:List UInt8)]:List (List UInt8)) ([6,7]:List Int)) fun⟨r2,s1⟩=>
 some (.ret (r2,s1))
def ik (e1:GExpr) (rec_:(aa→Option (bk (GExpr×aa)))) (self1:aa→GExpr→Option (bk (GExpr×aa))) (op1:Int) (r4:aa):Option (bk (GExpr×aa)):=
 if decide (op1=0)then
  some (.ret (e1,r4))
 else
  pb (cz rec_ r4) fun⟨r5,s2⟩=>
  self1 s2 (⟨op1,([]:List UInt8),(⟨0,0⟩:GVal),(⟨0,0,0,0,0⟩:GType),(⟨0,([]:List GMono)⟩:GLin),([]:List GIndex),([e1,r5]:List GExpr)⟩:GExpr)
def fD (self2:Int→Int→aa→Option (bk (GExpr×aa))) (i1:Int) (op3:Int) (r7:aa):Option (bk (GExpr×aa)):=
 self2 op3 (az (i1+1)) r7
def bO (signs1:List (List UInt8)) (ops1:List Int) (e1:GExpr) (rec_:(aa→Option (bk (GExpr×aa)))) (self1:aa→GExpr→Option (bk (GExpr×aa))):Nat→Int→Int→aa→Option (bk (GExpr×aa))
 | 0,_,_,_=>none
 | fuel2+1,op2,i1,r6=>
  if decide (i1<(signs1.length:Int))then
   (lat signs1 i1).bind fun e2=>
   (BO (decide (op2=0)) (aD r6 e2) (default,r6)).bind fun⟨r8,s3⟩=>
   if(decide (op2=0))&&r8 then
    (lat ops1 i1).bind fun e3=>
    fD (bO signs1 ops1 e1 rec_ self1 fuel2) i1 e3 s3
   else
    fD (bO signs1 ops1 e1 rec_ self1 fuel2) i1 op2 s3
  else
   ik e1 rec_ self1 op2 r6
def bu (signs1:List (List UInt8)) (ops1:List Int) (rec_:(aa→Option (bk (GExpr×aa)))):Nat→aa→GExpr→Option (bk (GExpr×aa))
 | 0,_,_=>none
 | fuel1+1,r3,e1=>
  bO signs1 ops1 e1 rec_ (bu signs1 ops1 rec_ fuel1) fu 0 0 r3
def gC (rec_:(aa→Option (bk (GExpr×aa)))) (r1:aa) (signs1:List (List UInt8)) (ops1:List Int):Option (bk (GExpr×aa)):=
 pb (cz rec_ r1) fun⟨r2,s1⟩=>
 bu signs1 ops1 rec_ fu s1 r2
def dL (rec_:(aa→Option (bk (GExpr×aa)))) (r1:aa):Option (bk (GExpr×aa)):=
 pb (gC rec_ r1 ([([43]:List UInt8),([45]:List UInt8)]:List (List UInt8)) ([4,5]:List Int)) fun⟨r2,s1⟩=>
 some (.ret (r2,s1))
def il (e1:GExpr) (rec_:(aa→Option (bk (GExpr×aa)))) (self1:aa→GExpr→Option (bk (GExpr×aa))) (op1:Int) (r4:aa):Option (bk (GExpr×aa)):=
 if decide (op1=0)then
  some (.ret (e1,r4))
 else
  pb (dL rec_ r4) fun⟨r5,s2⟩=>
  self1 s2 (⟨op1,([]:List UInt8),(⟨0,0⟩:GVal),(⟨0,0,0,0,0⟩:GType),(⟨0,([]:List GMono)⟩:GLin),([]:List GIndex),([e1,r5]:List GExpr)⟩:GExpr)
def fE (self2:Int→Int→aa→Option (bk (GExpr×aa))) (i1:Int) (op3:Int) (r7:aa):Option (bk (GExpr×aa)):=
 self2 op3 (az (i1+1)) r7
def bP (signs1:List (List UInt8)) (ops1:List Int) (e1:GExpr) (rec_:(aa→Option (bk (GExpr×aa)))) (self1:aa→GExpr→Option (bk (GExpr×aa))):Nat→Int→Int→aa→Option (bk (GExpr×aa))
 | 0,_,_,_=>none
 | fuel2+1,op2,i1,r6=>
  if decide (i1<(signs1.length:Int))then
   (lat signs1 i1).bind fun e2=>
   (BO (decide (op2=0)) (aD r6 e2) (default,r6)).bind fun⟨r8,s3⟩=>
   if(decide (op2=0))&&r8 then
    (lat ops1 i1).bind fun e3=>
    fE (bP signs1 ops1 e1 rec_ self1 fuel2) i1 e3 s3
   else
    fE (bP signs1 ops1 e1 rec_ self1 fuel2) i1 op2 s3
  else
   il e1 rec_ self1 op2 r6
def bv (signs1:List (List UInt8)) (ops1:List Int) (rec_:(aa→Option (bk (GExpr×aa)))):Nat→aa→GExpr→Option (bk (GExpr×aa))
 | 0,_,_=>none
 | fuel1+1,r3,e1=>
  bP signs1 ops1 e1 rec_ (bv signs1 ops1 rec_ fuel1) fu 0 0 r3
def eW (rec_:(aa→Option (bk (GExpr×aa)))) (r1:aa) (signs1:List (List UInt8)) (ops1:List Int):Option (bk (GExpr×aa)):=
 pb (dL rec_ r1) fun⟨r2,s1⟩=>
 bv signs1 ops1 rec_ fu s1 r2
def ft (rec_:(aa→Option (bk (GExpr×aa)))) (recs_:(aa→Option (bk (GExpr×aa)))) (r1:aa):Option (bk (GExpr×aa)):=
 (bR r1 3 ([33]:List UInt8)).bind fun r2=>
 if !r2 then
  pb (eW rec_ r1 ([([60]:List UInt8),([60,61]:List UInt8),([61,61]:List UInt8)]:List (List UInt8)) ([13,14,15]:List Int)) fun⟨r3,s1⟩=>
  some (.ret (r3,s1))
 else
  pb (bK r1) fun⟨r4,s2⟩=>
  pb (recs_ s2) fun⟨r5,s3⟩=>
  some (.ret ((⟨18,([]:List UInt8),(⟨0,0⟩:GVal),(⟨0,0,0,0,0⟩:GType),(⟨0,([]:List GMono)⟩:GLin),([]:List GIndex),([r5]:List GExpr)⟩:GExpr),(⟨s3.l,s3.at_,az (s3.deep - 1)⟩:aa)))
def bJ (rec_:(aa→Option (bk (GExpr×aa)))):Nat→(aa→Option (bk (GExpr×aa)))
 | 0=>fun _=>none
 | n+1=>ft rec_ (bJ rec_ n)
def iV (rec_:(aa→Option (bk (GExpr×aa)))) (r1:aa):Option (bk (GExpr×aa)):=bJ rec_ fu r1
def im (e1:GExpr) (rec_:(aa→Option (bk (GExpr×aa)))) (self1:aa→GExpr→Option (bk (GExpr×aa))) (op1:Int) (r4:aa):Option (bk (GExpr×aa)):=
 if decide (op1=0)then
  some (.ret (e1,r4))
 else
  pb (iV rec_ r4) fun⟨r5,s2⟩=>
  self1 s2 (⟨op1,([]:List UInt8),(⟨0,0⟩:GVal),(⟨0,0,0,0,0⟩:GType),(⟨0,([]:List GMono)⟩:GLin),([]:List GIndex),([e1,r5]:List GExpr)⟩:GExpr)
def fF (self2:Int→Int→aa→Option (bk (GExpr×aa))) (i1:Int) (op3:Int) (r7:aa):Option (bk (GExpr×aa)):=
 self2 op3 (az (i1+1)) r7
def bQ (signs1:List (List UInt8)) (ops1:List Int) (e1:GExpr) (rec_:(aa→Option (bk (GExpr×aa)))) (self1:aa→GExpr→Option (bk (GExpr×aa))):Nat→Int→Int→aa→Option (bk (GExpr×aa))
 | 0,_,_,_=>none
 | fuel2+1,op2,i1,r6=>
  if decide (i1<(signs1.length:Int))then
   (lat signs1 i1).bind fun e2=>
   (BO (decide (op2=0)) (aD r6 e2) (default,r6)).bind fun⟨r8,s3⟩=>
   if(decide (op2=0))&&r8 then
    (lat ops1 i1).bind fun e3=>
    fF (bQ signs1 ops1 e1 rec_ self1 fuel2) i1 e3 s3
   else
    fF (bQ signs1 ops1 e1 rec_ self1 fuel2) i1 op2 s3
  else
   im e1 rec_ self1 op2 r6
def bw (signs1:List (List UInt8)) (ops1:List Int) (rec_:(aa→Option (bk (GExpr×aa)))):Nat→aa→GExpr→Option (bk (GExpr×aa))
 | 0,_,_=>none
 | fuel1+1,r3,e1=>
  bQ signs1 ops1 e1 rec_ (bw signs1 ops1 rec_ fuel1) fu 0 0 r3
def gD (rec_:(aa→Option (bk (GExpr×aa)))) (r1:aa) (signs1:List (List UInt8)) (ops1:List Int):Option (bk (GExpr×aa)):=
 pb (iV rec_ r1) fun⟨r2,s1⟩=>
 bw signs1 ops1 rec_ fu s1 r2
def dM (rec_:(aa→Option (bk (GExpr×aa)))) (r1:aa):Option (bk (GExpr×aa)):=
 pb (gD rec_ r1 ([([38]:List UInt8)]:List (List UInt8)) ([16]:List Int)) fun⟨r2,s1⟩=>
 some (.ret (r2,s1))
def iP (e1:GExpr) (rec_:(aa→Option (bk (GExpr×aa)))) (self1:aa→GExpr→Option (bk (GExpr×aa))) (op1:Int) (r4:aa):Option (bk (GExpr×aa)):=
 if decide (op1=0)then
  some (.ret (e1,r4))
 else
  pb (dM rec_ r4) fun⟨r5,s2⟩=>
  self1 s2 (⟨op1,([]:List UInt8),(⟨0,0⟩:GVal),(⟨0,0,0,0,0⟩:GType),(⟨0,([]:List GMono)⟩:GLin),([]:List GIndex),([e1,r5]:List GExpr)⟩:GExpr)
def fP (self2:Int→Int→aa→Option (bk (GExpr×aa))) (i1:Int) (op3:Int) (r7:aa):Option (bk (GExpr×aa)):=
 self2 op3 (az (i1+1)) r7
def bW (signs1:List (List UInt8)) (ops1:List Int) (e1:GExpr) (rec_:(aa→Option (bk (GExpr×aa)))) (self1:aa→GExpr→Option (bk (GExpr×aa))):Nat→Int→Int→aa→Option (bk (GExpr×aa))
 | 0,_,_,_=>none
 | fuel2+1,op2,i1,r6=>
  if decide (i1<(signs1.length:Int))then
   (lat signs1 i1).bind fun e2=>
   (BO (decide (op2=0)) (aD r6 e2) (default,r6)).bind fun⟨r8,s3⟩=>
   if(decide (op2=0))&&r8 then
    (lat ops1 i1).bind fun e3=>
    fP (bW signs1 ops1 e1 rec_ self1 fuel2) i1 e3 s3
   else
    fP (bW signs1 ops1 e1 rec_ self1 fuel2) i1 op2 s3
  else
   iP e1 rec_ self1 op2 r6
def bD (signs1:List (List UInt8)) (ops1:List Int) (rec_:(aa→Option (bk (GExpr×aa)))):Nat→aa→GExpr→Option (bk (GExpr×aa))
 | 0,_,_=>none
 | fuel1+1,r3,e1=>
  bW signs1 ops1 e1 rec_ (bD signs1 ops1 rec_ fuel1) fu 0 0 r3
def gR (rec_:(aa→Option (bk (GExpr×aa)))) (r1:aa) (signs1:List (List UInt8)) (ops1:List Int):Option (bk (GExpr×aa)):=
 pb (dM rec_ r1) fun⟨r2,s1⟩=>
 bD signs1 ops1 rec_ fu s1 r2
def fO (rec_:(aa→Option (bk (GExpr×aa)))) (r1:aa):Option (bk (GExpr×aa)):=
 pb (gR rec_ r1 ([([124]:List UInt8)]:List (List UInt8)) ([17]:List Int)) fun⟨r2,s1⟩=>
 some (.ret (r2,s1))
def ap:Nat→(aa→Option (bk (GExpr×aa)))
 | 0=>fun _=>none
 | n+1=>fO (ap n)
def fr (r1:aa):Option (bk (GExpr×aa)):=ap fu r1
def jf (a1:aa) (a3:GExpr):Option (bk (Unit×aa×GExpr)):=
 pb (fr a1) fun⟨r1,s1⟩=>
 some (.ret ((),s1,r1))
def iZ (l1:List aG) (at1:Int):Option (GExpr×Int×Int):=
 if(decide (at1<0))||(decide ((l1.length:Int)<at1))then
  some ((⟨0,([]:List UInt8),(⟨0,0⟩:GVal),(⟨0,0,0,0,0⟩:GType),(⟨0,([]:List GMono)⟩:GLin),([]:List GIndex),([]:List GExpr)⟩:GExpr),0,1)
 else
  wP (jf (⟨l1,at1,0⟩:aa) (⟨0,([]:List UInt8),(⟨0,0⟩:GVal),(⟨0,0,0,0,0⟩:GType),(⟨0,([]:List GMono)⟩:GLin),([]:List GIndex),([]:List GExpr)⟩:GExpr)) (fun⟨r1,s1,s2⟩=>
   if !decide (0=0)then
    some ((⟨0,([]:List UInt8),(⟨0,0⟩:GVal),(⟨0,0,0,0,0⟩:GType),(⟨0,([]:List GMono)⟩:GLin),([]:List GIndex),([]:List GExpr)⟩:GExpr),0,0)
   else
    (hH s2).bind fun r2=>
    if !decide (r2=0)then
     some ((⟨0,([]:List UInt8),(⟨0,0⟩:GVal),(⟨0,0,0,0,0⟩:GType),(⟨0,([]:List GMono)⟩:GLin),([]:List GIndex),([]:List GExpr)⟩:GExpr),at1,r2)
    else
     some (s2,s1.at_,0)) fun pa1 pn1=>
   some ((⟨0,([]:List UInt8),(⟨0,0⟩:GVal),(⟨0,0,0,0,0⟩:GType),(⟨0,([]:List GMono)⟩:GLin),([]:List GIndex),([]:List GExpr)⟩:GExpr),pa1,pn1)
def iY (s1:List UInt8) (l1:List aG) (at1:Int):Option Int:=
 if decide ((l1.length:Int)≤at1)then
  some (s1.length:Int)
 else
  (lat l1 at1).bind fun e1=>
  some e1.At
def gq (s1:List UInt8) (r1:List aG×Int×Int) (r2:GExpr×Int×Int) (e1:Int):Option (GExpr×Int×Int):=
 if !decide (e1=0)then
  (iY s1 r1.1 r2.2.1).bind fun r3=>
  some ((⟨0,([]:List UInt8),(⟨0,0⟩:GVal),(⟨0,0,0,0,0⟩:GType),(⟨0,([]:List GMono)⟩:GLin),([]:List GIndex),([]:List GExpr)⟩:GExpr),r3,e1)
 else
  some (r2.1,0,0)
def bT (s1:List UInt8):Option (GExpr×Int×Int):=
 (iJ s1).bind fun r1=>
 if !decide (r1.2.2=0)then
  some ((⟨0,([]:List UInt8),(⟨0,0⟩:GVal),(⟨0,0,0,0,0⟩:GType),(⟨0,([]:List GMono)⟩:GLin),([]:List GIndex),([]:List GExpr)⟩:GExpr),r1.2.1,r1.2.2)
 else
  (iZ r1.1 0).bind fun r2=>
  if(decide (r2.2.2=0))&&(decide (r2.2.1<(r1.1.length:Int)))then
   gq s1 r1 r2 5
  else
   gq s1 r1 r2 r2.2.2
def iw (a1:GLin) (b1:GLin):Nat→Int→Option Bool
 | 0,_=>none
 | fuel1+1,i1=>
  if decide (i1<(a1.L.length:Int))then
   (lat a1.L i1).bind fun e1=>
   (lat b1.L i1).bind fun e2=>
   if !((decide (e1.Name=e2.Name))&&(decide (e1.By=e2.By)))then
    some false
   else
    (iw a1 b1 fuel1) (az (i1+1))
  else
   some true
def kN (a1:GLin) (b1:GLin):Option Bool:=
 if(!decide (a1.K=b1.K))||(!decide ((a1.L.length:Int)=(b1.L.length:Int)))then
  some false
 else
  iw a1 b1 fu 0
def gt:Option Bool:=
 (iH ([50,42,105,32,45,32,51,32,43,32,105]:List UInt8)).bind fun r1=>
 (oV r1.1 0).bind fun r2=>
 (bT ([97,91,105,93,32,43,32,98,91,93,32,42,32,91,50,93]:List UInt8)).bind fun r3=>
 (bT ([97,91]:List UInt8)).bind fun r4=>
 (bT ([97,91,105,93,32,43,42,32,50]:List UInt8)).bind fun r5=>
 (bT ([102,114,97,99,40,50,47,52,41]:List UInt8)).bind fun r6=>
 if(!((!decide (r2.2.2=0))||(!decide (r2.2.1=7))))=true then
  (kN r2.1 (⟨(-3),([(⟨([105]:List UInt8),3⟩:GMono)]:List GMono)⟩:GLin)).bind fun r7=>
  if((((!decide (r2.2.2=0))||(!decide (r2.2.1=7)))||(!r7))||(!decide (r3.2.2=0)))||(!decide ((r3.1.Args.length:Int)=2))then
   some false
  else
   (gd (decide (r3.1.Op=4)) (lat r3.1.Args 0)).bind fun e1=>
   (gd ((decide (r3.1.Op=4))&&(decide (e1.Op=3))) (lat r3.1.Args 1)).bind fun e2=>
   some (((((((((decide (r3.1.Op=4))&&(decide (e1.Op=3)))&&(decide (e2.Op=6)))&&(decide (r4.2.1=2)))&&(decide (r4.2.2=6)))&&(decide (r5.2.1=6)))&&(decide (r5.2.2=5)))&&(decide (r6.2.1=5)))&&(decide (r6.2.2=5)))
 else none
def mC (p1:ae) (k1:Int) (s1:List UInt8) (kind1:Int):Option Bool:=
 (lat p1.L (az (p1.At+k1))).bind fun e1=>
 (gd (decide (e1.Kind=kind1)) (lat p1.L (az (p1.At+k1)))).bind fun e2=>
 some ((decide (e1.Kind=kind1))&&(decide (e2.Text=s1)))
def aI (p1:ae) (k1:Int) (s1:List UInt8):Option Bool:=
 if(!decide (p1.E=0))||(decide ((p1.L.length:Int)≤az (p1.At+k1)))then
  some false
 else
  (sat s1 0).bind fun b2=>
  (gd (decide (97≤b2)) (sat s1 0)).bind fun b3=>
  if(decide (97≤b2))&&(decide (b3≤122))then
   mC p1 k1 s1 1
  else
   mC p1 k1 s1 3
def ni:Option (List (List UInt8)):=
 some ([([115,105,122,101]:List UInt8),([119,104,101,114,101]:List UInt8),([105,110]:List UInt8),([100,101,102]:List UInt8),([111,117,116]:List UInt8),([115,117,109]:List UInt8),([112,114,111,100]:List UInt8),([109,105,110]:List UInt8),([109,97,120]:List UInt8),([115,99,97,110]:List UInt8),([111,118,101,114]:List UInt8),([105,102]:List UInt8),([99,97,115,116]:List UInt8),([102,114,97,99]:List UInt8),([105,110,116]:List UInt8),([102,105,120]:List UInt8),([99,101,105,108]:List UInt8),([102,108,111,111,114]:List UInt8),([122,101,114,111]:List UInt8),([101,118,101,110]:List UInt8),([115,97,116]:List UInt8),([119,114,97,112]:List UInt8)]:List (List UInt8))
def km (l1:List (List UInt8)) (s1:List UInt8):Nat→Int→Option Bool
 | 0,_=>none
 | fuel1+1,i1=>
  if decide (i1<(l1.length:Int))then
   (lat l1 i1).bind fun e1=>
   if decide (e1=s1)then
    some true
   else
    (km l1 s1 fuel1) (az (i1+1))
  else
   some false
def oZ (l1:List (List UInt8)) (s1:List UInt8):Option Bool:=
 km l1 s1 fu 0
def jL (s1:List UInt8):Nat→Int→Option Bool
 | 0,_=>none
 | fuel1+1,i1=>
  if decide (i1<(s1.length:Int))then
   (sat s1 i1).bind fun b1=>
   if !(((decide (97≤b1))&&(decide (b1≤122)))||((decide (0<i1))&&(((decide (48≤b1))&&(decide (b1≤57)))||(decide (b1=95)))))then
    some false
   else
    (jL s1 fuel1) (az (i1+1))
  else
   some true
def jj (s1:List UInt8):Option Bool:=
 (gd (!((decide ((s1.length:Int)<1))||(decide (16<(s1.length:Int))))) (ni)).bind fun r1=>
 (gd (!((decide ((s1.length:Int)<1))||(decide (16<(s1.length:Int))))) (oZ r1 s1)).bind fun r2=>
 if((decide ((s1.length:Int)<1))||(decide (16<(s1.length:Int))))||r2 then
  some false
 else
  jL s1 fu 0
def jn (p1:ae):Option Bool:=
 (gd ((decide (p1.E=0))&&(decide (p1.At<(p1.L.length:Int)))) (lat p1.L p1.At)).bind fun e1=>
 (gd (((decide (p1.E=0))&&(decide (p1.At<(p1.L.length:Int))))&&(decide (e1.Kind=1))) (lat p1.L p1.At)).bind fun e2=>
 (gd (((decide (p1.E=0))&&(decide (p1.At<(p1.L.length:Int))))&&(decide (e1.Kind=1))) (jj e2.Text)).bind fun r1=>
 some ((((decide (p1.E=0))&&(decide (p1.At<(p1.L.length:Int))))&&(decide (e1.Kind=1)))&&r1)
def bs (p1:ae) (at1:Int) (e1:Int):Option ae:=
 if decide (p1.E=0)then
  some (⟨p1.L,p1.At,p1.Deep,e1,at1⟩:ae)
 else
  some p1
def dz (p1:ae):Option ae:=
 if decide ((p1.L.length:Int)≤p1.At)then
  (bs p1 (p1.L.length:Int) 6).bind fun r1=>
  some r1
 else
  (bs p1 p1.At 5).bind fun r2=>
  some r2
def fa (p1:ae):Option (List UInt8×ae):=
 (jn p1).bind fun r1=>
 if !r1 then
  (dz p1).bind fun r2=>
  some (([]:List UInt8),r2)
 else
  (lat p1.L (az ((az (p1.At+1)) - 1))).bind fun e1=>
  some (e1.Text,(⟨p1.L,az (p1.At+1),p1.Deep,p1.E,p1.Pos⟩:ae))
def fo (name1:List UInt8):Option GLin:=
 (jj name1).bind fun r1=>
 if !r1 then
  some (⟨0,([]:List GMono)⟩:GLin)
 else
  some (⟨0,([(⟨name1,1⟩:GMono)]:List GMono)⟩:GLin)
def lS (s1:List UInt8):Option Bool:=
 (gd ((!(decide (s1=([48]:List UInt8))))&&(decide (0<(s1.length:Int)))) (sat s1 0)).bind fun b1=>
 some ((decide (s1=([48]:List UInt8)))||((decide (0<(s1.length:Int)))&&(!decide (b1=48))))
def je (s1:List UInt8):Nat→Int→Option Bool
 | 0,_=>none
 | fuel1+1,i1=>
  if decide (i1<(s1.length:Int))then
   (sat s1 i1).bind fun b2=>
   (gd (!(decide (b2<48))) (sat s1 i1)).bind fun b3=>
   if(decide (b2<48))||(decide (57<b3))then
    some false
   else
    (je s1 fuel1) (az (i1+1))
  else
   lS s1
def pF (s1:List UInt8):Option Bool:=
 je s1 fu 0
def eU (p1:ae):Option (List UInt8×ae):=
 (gd (!((!decide (p1.E=0))||(decide ((p1.L.length:Int)≤p1.At)))) (lat p1.L p1.At)).bind fun e1=>
 (gd (!(((!decide (p1.E=0))||(decide ((p1.L.length:Int)≤p1.At)))||(!decide (e1.Kind=2)))) (lat p1.L p1.At)).bind fun e2=>
 (gd (!(((!decide (p1.E=0))||(decide ((p1.L.length:Int)≤p1.At)))||(!decide (e1.Kind=2)))) (pF e2.Text)).bind fun r1=>
 if(((!decide (p1.E=0))||(decide ((p1.L.length:Int)≤p1.At)))||(!decide (e1.Kind=2)))||(!r1)then
  (dz p1).bind fun r2=>
  some (([]:List UInt8),r2)
 else
  (lat p1.L (az ((az (p1.At+1)) - 1))).bind fun e3=>
  some (e3.Text,(⟨p1.L,az (p1.At+1),p1.Deep,p1.E,p1.Pos⟩:ae))
def jZ (a1:Int) (b1:Int):Option (Int×Bool):=
 if(decide (a1=0))||(decide (b1=0))then
  some (0,true)
 else
  if((!(((decide (a1=(-1)))&&(decide (b1=(-9223372036854775808))))||((decide (b1=(-1)))&&(decide (a1=(-9223372036854775808))))))=true→b1≠0)then
   if(((decide (a1=(-1)))&&(decide (b1=(-9223372036854775808))))||((decide (b1=(-1)))&&(decide (a1=(-9223372036854775808)))))||(!decide (az (Int.tdiv (az (a1 * b1)) b1)=a1))then
    some (0,false)
   else
    some (az (a1 * b1),true)
  else none
def mR (a1:Int) (b1:Int):Option (Int×Bool):=
 if((decide (0<b1))&&(decide (az (9223372036854775807 - b1)<a1)))||((decide (b1<0))&&(decide (a1<az ((-9223372036854775808) - b1))))then
  some (0,false)
 else
  some (az (a1+b1),true)
def kv (n1:Int) (self1:Int→Int→Option (Int×Bool)) (i1:Int) (d1:Int):Option (Int×Bool):=
 (jZ n1 10).bind fun r1=>
 (mR r1.1 d1).bind fun r2=>
 if(!r1.2)||(!r2.2)then
  some (0,false)
 else
  self1 r2.1 (az (i1+1))
def eH (s1:List UInt8) (negative1:Bool):Nat→Int→Int→Option (Int×Bool)
 | 0,_,_=>none
 | fuel1+1,n1,i1=>
  if decide (i1<(s1.length:Int))then
   (sat s1 i1).bind fun b1=>
   if negative1 then
    (some (az (-(az (DT (b1 - 48)))))).bind fun d2=>
    kv n1 (eH s1 negative1 fuel1) i1 d2
   else
    kv n1 (eH s1 negative1 fuel1) i1 (az (DT (b1 - 48)))
  else
   some (n1,true)
def iM (s1:List UInt8) (negative1:Bool):Option (Int×Bool):=
 eH s1 negative1 fu 0 0
def fh (l1:GLin):Nat→Int→Option Bool
 | 0,_=>none
 | fuel1+1,i1=>
  if decide (i1<(l1.L.length:Int))then
   (lat l1.L i1).bind fun e1=>
   (jj e1.Name).bind fun r1=>
   (gd (!(!r1)) (lat l1.L i1)).bind fun e2=>
   (gd ((!((!r1)||(decide (e2.By=0))))&&(decide (0<i1))) (lat l1.L (az (i1 - 1)))).bind fun e3=>
   (gd ((!((!r1)||(decide (e2.By=0))))&&(decide (0<i1))) (lat l1.L i1)).bind fun e4=>
   if((!r1)||(decide (e2.By=0)))||((decide (0<i1))&&(!Op.bytesLess e3.Name e4.Name))then
    some false
   else
    (fh l1 fuel1) (az (i1+1))
  else
   some true
def ja (l1:GLin):Option Bool:=
 fh l1 fu 0
def jD (l1:GLin):Option Int:=
 (ja l1).bind fun r1=>
 if !r1 then
  some 1
 else
  some 0
def kU (a1:GLin) (by1:Int):Nat→Int→GLin→Option (GLin×Int)
 | 0,_,_=>none
 | fuel1+1,i1,gh=>
  if decide (i1<(a1.L.length:Int))then
   (lat a1.L i1).bind fun e1=>
   (jZ e1.By by1).bind fun r3=>
   if !r3.2 then
    some ((⟨0,([]:List GMono)⟩:GLin),3)
   else
    (lat a1.L i1).bind fun e2=>
    (jv gh.L ([(⟨e2.Name,r3.1⟩:GMono)]:List GMono)).bind fun zs1=>
    (kU a1 by1 fuel1) (az (i1+1)) (⟨gh.K,zs1⟩:GLin)
  else
   some (gh,0)
def iu (a1:GLin) (by1:Int):Option (GLin×Int):=
 (jD a1).bind fun r1=>
 if !decide (r1=0)then
  some ((⟨0,([]:List GMono)⟩:GLin),1)
 else
  if decide (by1=0)then
   some ((⟨0,([]:List GMono)⟩:GLin),0)
  else
   (jZ a1.K by1).bind fun r2=>
   if !r2.2 then
    some ((⟨0,([]:List GMono)⟩:GLin),3)
   else
    kU a1 by1 fu 0 (⟨r2.1,([]:List GMono)⟩:GLin)
def hU:Nat→(List (List UInt8))→Int→Option (List (List UInt8))
 | 0,_,_=>none
 | fuel1+1,l2,i2=>
  (gd (decide (0<i2)) (lat l2 (az (i2 - 1)))).bind fun e1=>
  (gd (decide (0<i2)) (lat l2 i2)).bind fun e2=>
  if(decide (0<i2))&&(!Op.bytesLess e1 e2&& !decide (e1=e2))then
   (lat l2 i2).bind fun e3=>
   (lat l2 (az (i2 - 1))).bind fun e4=>
   if 0≤i2∧i2<(l2.length:Int)then
    if 0≤(az (i2 - 1))∧(az (i2 - 1))<((l2.set (Int.toNat i2) e4).length:Int)then
     (hU fuel1) ((l2.set (Int.toNat i2) e4).set (Int.toNat (az (i2 - 1))) e3) (az (i2 - 1))
    else none
   else none
  else
   some (l2)
def mr (l1:List (List UInt8)) (s1:List UInt8):Option (List (List UInt8)):=
 (oZ l1 s1).bind fun r1=>
 if r1 then
  some (l1)
 else
  (jv l1 ([s1]:List (List UInt8))).bind fun zs1=>
  (some (az ((zs1.length:Int) - 1))).bind fun i1=>
  hU fu zs1 i1
def sk (self1:(List (List UInt8))→Int→Option (List (List UInt8))) (i1:Int) (out2:List (List UInt8)):Option (List (List UInt8)):=
 self1 out2 (az (i1+1))
def fp (l1:List GLin) (i1:Int) (self1:(List (List UInt8))→Int→Option (List (List UInt8))):Nat→(List (List UInt8))→Int→Option (List (List UInt8))
 | 0,_,_=>none
 | fuel2+1,out3,k1=>
  (lat l1 i1).bind fun e1=>
  if decide (k1<(e1.L.length:Int))then
   (lat l1 i1).bind fun e2=>
   (lat e2.L k1).bind fun e3=>
   (mr out3 e3.Name).bind fun r1=>
   (fp l1 i1 self1 fuel2) r1 (az (k1+1))
  else
   sk self1 i1 out3
def dA (l1:List GLin):Nat→(List (List UInt8))→Int→Option (List (List UInt8))
 | 0,_,_=>none
 | fuel1+1,gh,i1=>
  if decide (i1<(l1.length:Int))then
   fp l1 i1 (dA l1 fuel1) fu gh 0
  else
   some gh
def oc (l1:List GLin):Option (List (List UInt8)):=
 dA l1 fu ([]:List (List UInt8)) 0
def jE (l1:GLin) (name1:List UInt8):Nat→Int→Option Int
 | 0,_=>none
 | fuel1+1,i1=>
  if decide (i1<(l1.L.length:Int))then
   (lat l1.L i1).bind fun e1=>
   if decide (e1.Name=name1)then
    (lat l1.L i1).bind fun e2=>
    some e2.By
   else
    (jE l1 name1 fuel1) (az (i1+1))
  else
   some 0
def od (l1:GLin) (name1:List UInt8):Option Int:=
 jE l1 name1 fu 0
def lU (self1:Int→GLin→Option (GLin×Int)) (i1:Int) (out2:GLin):Option (GLin×Int):=
 self1 (az (i1+1)) out2
def fN (r4:List (List UInt8)) (a1:GLin) (b1:GLin):Nat→Int→GLin→Option (GLin×Int)
 | 0,_,_=>none
 | fuel1+1,i1,gh=>
  if decide (i1<(r4.length:Int))then
   (lat r4 i1).bind fun e1=>
   (lat r4 i1).bind fun e2=>
   (od a1 e1).bind fun r5=>
   (od b1 e2).bind fun r6=>
   (mR r5 r6).bind fun r7=>
   if !r7.2 then
    some ((⟨0,([]:List GMono)⟩:GLin),3)
   else
    if !decide (r7.1=0)then
     (lat r4 i1).bind fun e3=>
     (jv gh.L ([(⟨e3,r7.1⟩:GMono)]:List GMono)).bind fun zs1=>
     lU (fN r4 a1 b1 fuel1) i1 (⟨gh.K,zs1⟩:GLin)
    else
     lU (fN r4 a1 b1 fuel1) i1 gh
  else
   some (gh,0)
def nZ (a1:GLin) (b1:GLin):Option (GLin×Int):=
 (jD a1).bind fun r1=>
 (gd (!(!decide (r1=0))) (jD b1)).bind fun r2=>
 if(!decide (r1=0))||(!decide (r2=0))then
  some ((⟨0,([]:List GMono)⟩:GLin),1)
 else
  (mR a1.K b1.K).bind fun r3=>
  if !r3.2 then
   some ((⟨0,([]:List GMono)⟩:GLin),3)
  else
   (oc ([a1,b1]:List GLin)).bind fun r4=>
   fN r4 a1 b1 fu 0 (⟨r3.1,([]:List GMono)⟩:GLin)
def bn (negative1:Bool) (f1:GLin) (p1:ae) (s1:List UInt8) (x1:GLin) (p2:ae):Option (GLin×ae):=
 if !decide (p2.E=0)then
  some ((⟨0,([]:List GMono)⟩:GLin),p2)
 else
  (iM s1 negative1).bind fun r1=>
  (iu x1 r1.1).bind fun r2=>
  (nZ f1 r2.1).bind fun r3=>
  if(!r1.2)||(!decide (r3.2=0))then
   (bs p2 p1.At 3).bind fun r4=>
   some ((⟨0,([]:List GMono)⟩:GLin),r4)
  else
   some (r3.1,p2)
def eZ (p1:ae) (f1:GLin) (negative1:Bool):Option (GLin×ae):=
 (jn p1).bind fun r5=>
 if r5 then
  (fa p1).bind fun r6=>
  (fo r6.1).bind fun r7=>
  bn negative1 f1 p1 ([49]:List UInt8) r7 r6.2
 else
  (eU p1).bind fun r8=>
  (aI r8.2 0 ([42]:List UInt8)).bind fun r9=>
  if r9 then
   (fa (⟨r8.2.L,az (r8.2.At+1),r8.2.Deep,r8.2.E,r8.2.Pos⟩:ae)).bind fun r10=>
   (fo r10.1).bind fun r11=>
   bn negative1 f1 p1 r8.1 r11 r10.2
  else
   bn negative1 f1 p1 r8.1 (⟨1,([]:List GMono)⟩:GLin) r8.2
def fb:Nat→ae→GLin→Option (GLin×ae)
 | 0,_,_=>none
 | fuel1+1,p3,f1=>
  (aI p3 0 ([43]:List UInt8)).bind fun r3=>
  (gd (!r3) (aI p3 0 ([45]:List UInt8))).bind fun r4=>
  if r3||r4 then
   (aI p3 0 ([45]:List UInt8)).bind fun r5=>
   (eZ (⟨p3.L,az (p3.At+1),p3.Deep,p3.E,p3.Pos⟩:ae) f1 r5).bind fun r6=>
   (fb fuel1) r6.2 r6.1
  else
   some (f1,p3)
def lw (r1:Bool) (p2:ae):Option (GLin×ae):=
 (eZ p2 (⟨0,([]:List GMono)⟩:GLin) r1).bind fun r2=>
 fb fu r2.2 r2.1
def gA (p1:ae):Option (GLin×ae):=
 (aI p1 0 ([45]:List UInt8)).bind fun r1=>
 if r1 then
  lw r1 (⟨p1.L,az (p1.At+1),p1.Deep,p1.E,p1.Pos⟩:ae)
 else
  lw r1 p1
def fK (p1:ae):Option ae:=
 if(decide (p1.E=0))&&(decide (160≤p1.Deep))then
  (bs p1 p1.At 13).bind fun r1=>
  some r1
 else
  some (⟨p1.L,az (p1.At+1),az (p1.Deep+1),p1.E,p1.Pos⟩:ae)
def aH (p1:ae) (s1:List UInt8):Option ae:=
 (aI p1 0 s1).bind fun r1=>
 if !r1 then
  (dz p1).bind fun r2=>
  some r2
 else
  some (⟨p1.L,az (p1.At+1),p1.Deep,p1.E,p1.Pos⟩:ae)
def iW (p1:ae):Option (Int×ae):=
 (eU p1).bind fun r1=>
 (iM r1.1 false).bind fun r2=>
 if(!r2.2)||(decide (2147483647<r2.1))then
  (bs r1.2 p1.At 3).bind fun r3=>
  some (0,r3)
 else
  some (r2.1,r1.2)
def eI (l1:List (List UInt8)) (p1:ae):Nat→Int→Option (Int×ae)
 | 0,_=>none
 | fuel1+1,i1=>
  if decide (i1<(l1.length:Int))then
   (lat l1 i1).bind fun e1=>
   (aI p1 0 e1).bind fun r1=>
   if r1 then
    some (az (i1+1),(⟨p1.L,az (p1.At+1),p1.Deep,p1.E,p1.Pos⟩:ae))
   else
    (eI l1 p1 fuel1) (az (i1+1))
  else
   (dz p1).bind fun r2=>
   some (0,r2)
def jC (p1:ae) (l1:List (List UInt8)):Option (Int×ae):=
 eI l1 p1 fu 0
def mQ (t1:GType):Option Bool:=
 if(decide (t1.Kind=1))||(decide (t1.Kind=3))then
  some ((((decide (t1.Bits=0))&&(decide (t1.Frac=0)))&&(decide (t1.Round=0)))&&(decide (t1.Over=0)))
 else
  some ((((((((decide (t1.Kind=2))&&(decide (2≤t1.Bits)))&&(decide (t1.Bits≤31)))&&(decide (0≤t1.Frac)))&&(decide (t1.Frac≤30)))&&(decide (1≤t1.Round)))&&(decide (t1.Round≤4)))&&((decide (t1.Over=1))||(decide (t1.Over=2))))
def jQ (p1:ae):Option (GType×ae):=
 (aI p1 0 ([102,114,97,99]:List UInt8)).bind fun r1=>
 if r1 then
  some ((⟨1,0,0,0,0⟩:GType),(⟨p1.L,az (p1.At+1),p1.Deep,p1.E,p1.Pos⟩:ae))
 else
  (aI p1 0 ([105,110,116]:List UInt8)).bind fun r2=>
  if r2 then
   some ((⟨3,0,0,0,0⟩:GType),(⟨p1.L,az (p1.At+1),p1.Deep,p1.E,p1.Pos⟩:ae))
  else
   (aH p1 ([102,105,120]:List UInt8)).bind fun r3=>
   (aH r3 ([40]:List UInt8)).bind fun r4=>
   (iW r4).bind fun r5=>
   (aH r5.2 ([44]:List UInt8)).bind fun r6=>
   (iW r6).bind fun r7=>
   (aH r7.2 ([44]:List UInt8)).bind fun r8=>
   (jC r8 ([([102,108,111,111,114]:List UInt8),([99,101,105,108]:List UInt8),([122,101,114,111]:List UInt8),([101,118,101,110]:List UInt8)]:List (List UInt8))).bind fun r9=>
   (aH r9.2 ([44]:List UInt8)).bind fun r10=>
   (jC r10 ([([115,97,116]:List UInt8),([119,114,97,112]:List UInt8)]:List (List UInt8))).bind fun r11=>
   (aH r11.2 ([41]:List UInt8)).bind fun r12=>
   (gd (decide (r12.E=0)) (mQ (⟨2,r5.1,r7.1,r9.1,r11.1⟩:GType))).bind fun r13=>
   if(decide (r12.E=0))&&(!r13)then
    (bs r12 p1.At 10).bind fun r14=>
    some ((⟨2,r5.1,r7.1,r9.1,r11.1⟩:GType),r14)
   else
    some ((⟨2,r5.1,r7.1,r9.1,r11.1⟩:GType),r12)
def iX (p1:ae) (p3:ae) (out2:GExpr):Option (GExpr×ae):=
 (aH p3 ([41]:List UInt8)).bind fun r4=>
 some (out2,(⟨r4.L,r4.At,p1.Deep,r4.E,r4.Pos⟩:ae))
def d9 (rec_:(ae→Int→Option (GExpr×ae))) (out3:GExpr) (self1:Int→ae→GExpr→Option (GExpr×ae)) (i1:Int) (p5:ae):Option (GExpr×ae):=
 (rec_ p5 1).bind fun r5=>
 (jv out3.Args ([r5.1]:List GExpr)).bind fun zs1=>
 self1 (az (i1+1)) r5.2 (⟨out3.Op,out3.Name,out3.Val,out3.Type_,out3.Lin,out3.Idx,zs1⟩:GExpr)
def ci (many1:Int) (typed1:Bool) (rec_:(ae→Int→Option (GExpr×ae))) (p1:ae):Nat→Int→ae→GExpr→Option (GExpr×ae)
 | 0,_,_,_=>none
 | fuel1+1,i1,p4,out3=>
  if decide (i1<many1)then
   if(decide (0<i1))||typed1 then
    (aH p4 ([44]:List UInt8)).bind fun r6=>
    d9 rec_ out3 (ci many1 typed1 rec_ p1 fuel1) i1 r6
   else
    d9 rec_ out3 (ci many1 typed1 rec_ p1 fuel1) i1 p4
  else
   iX p1 p4 out3
def ee (many1:Int) (typed1:Bool) (rec_:(ae→Int→Option (GExpr×ae))) (p1:ae) (gh:GExpr) (p2:ae):Option (GExpr×ae):=
 ci many1 typed1 rec_ p1 fu 0 p2 gh
def dU (rec_:(ae→Int→Option (GExpr×ae))) (p1:ae) (op1:Int) (many1:Int) (typed1:Bool):Option (GExpr×ae):=
 (aI p1 0 ([40]:List UInt8)).bind fun r1=>
 if !r1 then
  (dz p1).bind fun r2=>
  some ((⟨0,([]:List UInt8),(⟨0,0⟩:GVal),(⟨0,0,0,0,0⟩:GType),(⟨0,([]:List GMono)⟩:GLin),([]:List GIndex),([]:List GExpr)⟩:GExpr),r2)
 else
  (fK p1).bind fun r3=>
  if typed1 then
   (jQ r3).bind fun r7=>
   ee many1 typed1 rec_ p1 (⟨op1,([]:List UInt8),(⟨0,0⟩:GVal),r7.1,(⟨0,([]:List GMono)⟩:GLin),([]:List GIndex),([]:List GExpr)⟩:GExpr) r7.2
  else
   ee many1 typed1 rec_ p1 (⟨op1,([]:List UInt8),(⟨0,0⟩:GVal),(⟨0,0,0,0,0⟩:GType),(⟨0,([]:List GMono)⟩:GLin),([]:List GIndex),([]:List GExpr)⟩:GExpr) r3
def gI (l1:List (List UInt8)) (p1:ae):Nat→Int→Option Bool
 | 0,_=>none
 | fuel1+1,i1=>
  if decide (i1<(l1.length:Int))then
   (lat l1 i1).bind fun e1=>
   (aI p1 0 e1).bind fun r1=>
   if r1 then
    some true
   else
    (gI l1 p1 fuel1) (az (i1+1))
  else
   some false
def mM (p1:ae) (l1:List (List UInt8)):Option Bool:=
 gI l1 p1 fu 0
def jF (from1:Int) (s1:List UInt8):Option Bool:=
 (gd (decide (from1<(s1.length:Int))) (sat s1 from1)).bind fun b1=>
 some ((decide (from1<(s1.length:Int)))&&((!decide (b1=48))||(decide ((s1.length:Int)=1))))
def mt (s1:List UInt8) (from1:Int):Nat→Int→Option Bool
 | 0,_=>none
 | fuel1+1,i1=>
  if decide (i1<(s1.length:Int))then
   (sat s1 i1).bind fun b2=>
   (gd (!(decide (b2<48))) (sat s1 i1)).bind fun b3=>
   if(decide (b2<48))||(decide (57<b3))then
    some false
   else
    (mt s1 from1 fuel1) (az (i1+1))
  else
   jF from1 s1
def gm (s1:List UInt8) (from1:Int):Option Bool:=
 mt s1 from1 fu from1
def mF (s1:List UInt8):Option Bool:=
 (gd (decide (1<(s1.length:Int))) (sat s1 0)).bind fun b4=>
 if(decide (1<(s1.length:Int)))&&(decide (b4=45))then
  gm s1 1
 else
  gm s1 0
def gl (s1:List UInt8) (n1:Int):Option (Int×Bool):=
 (gd (decide (0<(s1.length:Int))) (sat s1 0)).bind fun b1=>
 if(decide (0<(s1.length:Int)))&&(decide (b1=45))then
  some (az (-n1),true)
 else
  some (n1,true)
def kV (self1:Int→Int→Option (Int×Bool)) (i1:Int) (n3:Int):Option (Int×Bool):=
 self1 n3 (az (i1+1))
def dB (s1:List UInt8):Nat→Int→Int→Option (Int×Bool)
 | 0,_,_=>none
 | fuel1+1,n2,i1=>
  if decide (i1<(s1.length:Int))then
   (sat s1 i1).bind fun b2=>
   if decide (b2=45)then
    kV (dB s1 fuel1) i1 n2
   else
    (sat s1 i1).bind fun b3=>
    (some (az ((az (n2 * 10))+(az (DT (b3 - 48)))))).bind fun n4=>
    if decide (2147483647<n4)then
     some (0,false)
    else
     kV (dB s1 fuel1) i1 n4
  else
   gl s1 n2
def jo (s1:List UInt8):Option (Int×Bool):=
 dB s1 fu 0 0
def kW (n1:Int):Option Int:=
 if decide (n1<0)then
  some (iK ((iK (az (-(az (n1+1)))))+1))
 else
  some (iK n1)
def ny:Nat→Int→Int→Option Int
 | 0,_,_=>none
 | fuel1+1,a2,b2=>
  if !decide (b2=0)then
   if b2≠0 then
    (ny fuel1) b2 (Int.tmod a2 b2)
   else none
  else
   some a2
def sX (a1:Int) (b1:Int):Option Int:=
 ny fu a1 b1
def kY (up1:List UInt8) (down2:List UInt8):Option (GVal×Int):=
 (jo up1).bind fun r2=>
 (jo down2).bind fun r3=>
 if(!r2.2)||(!r3.2)then
  some ((⟨0,0⟩:GVal),3)
 else
  (kW r2.1).bind fun r4=>
  (kW r3.1).bind fun r5=>
  (sX r4 r5).bind fun r6=>
  if !decide (r6=1)then
   some ((⟨0,0⟩:GVal),5)
  else
   some ((⟨r2.1,r3.1⟩:GVal),0)
def mu (up1:List UInt8) (down1:List UInt8):Option (GVal×Int):=
 (mF up1).bind fun r1=>
 if !r1 then
  some ((⟨0,0⟩:GVal),5)
 else
  if decide (down1=([]:List UInt8))then
   kY up1 ([49]:List UInt8)
  else
   kY up1 down1
def kX (self1:(List UInt8)→(List UInt8)→Int→Option (GVal×Int)) (i1:Int) (up3:List UInt8) (down4:List UInt8):Option (GVal×Int):=
 self1 up3 down4 (az (i1+1))
def gp (s1:List UInt8):Nat→(List UInt8)→(List UInt8)→Int→Option (GVal×Int)
 | 0,_,_,_=>none
 | fuel1+1,up2,down3,i1=>
  if(decide (i1<(s1.length:Int)))&&(decide (down3=([]:List UInt8)))then
   (sat s1 i1).bind fun b2=>
   if decide (b2=47)then
    (nb s1 i1).bind fun s2=>
    (iz s1 (az (i1+1))).bind fun s3=>
    (mF s3).bind fun r7=>
    (gd (!(!r7)) (sat s3 0)).bind fun b3=>
    if(((!r7)||(decide (b3=45)))||(decide (s3=([48]:List UInt8))))||(decide (s3=([49]:List UInt8)))then
     some ((⟨0,0⟩:GVal),5)
    else
     kX (gp s1 fuel1) i1 s2 s3
   else
    kX (gp s1 fuel1) i1 up2 down3
  else
   mu up2 down3
def og (s1:List UInt8):Option (GVal×Int):=
 gp s1 fu s1 ([]:List UInt8) 0
def nc (t1:GType):Option Int:=
 if 0≤(iK t1.Frac)then
  some (az (1 * 2 ^ (min (Int.toNat (iK t1.Frac)) 64)))
 else none
def oh:Nat→Int→Int→Option Int
 | 0,_,_=>none
 | fuel1+1,a2,b2=>
  if !decide (b2=0)then
   if b2≠0 then
    (oh fuel1) b2 (Int.tmod a2 b2)
   else none
  else
   some a2
def uE (a1:Int) (b1:Int):Option Int:=
 oh fu a1 b1
def oY (t1:GType) (v1:GVal):Option Bool:=
 if decide (t1.Kind=2)then
  if 0≤(az (t1.Bits - 1))then
   (some (az (1 * 2 ^ (min (Int.toNat (az (t1.Bits - 1))) 64)))).bind fun half1=>
   some (((decide (v1.D=1))&&(decide (az (-half1)≤v1.N)))&&(decide (v1.N<half1)))
  else none
 else
  if(((decide (2147483647<v1.N))||(decide (v1.N<(-2147483647))))||(decide (v1.D<1)))||(decide (2147483647<v1.D))then
   some false
  else
   if decide (t1.Kind=3)then
    some (decide (v1.D=1))
   else
    (uE (max v1.N (az (-v1.N))) v1.D).bind fun r1=>
    some (decide (r1=1))
def oe (t1:GType) (s1:List UInt8):Option (GVal×Int):=
 (mQ t1).bind fun r1=>
 if !r1 then
  some ((⟨0,0⟩:GVal),10)
 else
  (og s1).bind fun r2=>
  if(!decide (r2.2=0))||(decide (t1.Kind=1))then
   some (r2.1,r2.2)
  else
   if decide (t1.Kind=3)then
    if !decide (r2.1.D=1)then
     some ((⟨0,0⟩:GVal),5)
    else
     some (r2.1,0)
   else
    (nc t1).bind fun r3=>
    if r2.1.D≠0 then
     if !decide (Int.tmod r3 r2.1.D=0)then
      some ((⟨0,0⟩:GVal),5)
     else
      (nc t1).bind fun r4=>
      (oY t1 (⟨az (r2.1.N * (az (Int.tdiv r4 r2.1.D))),1⟩:GVal)).bind fun r5=>
      if !r5 then
       some ((⟨0,0⟩:GVal),3)
      else
       some ((⟨az (r2.1.N * (az (Int.tdiv r4 r2.1.D))),1⟩:GVal),0)
    else none
def dI (t1:GType) (p1:ae) (s3:List UInt8) (p3:ae):Option (GVal×ae):=
 if !decide (p3.E=0)then
  some ((⟨0,0⟩:GVal),p3)
 else
  (oe t1 s3).bind fun r2=>
  if !decide (r2.2=0)then
   (bs p3 p1.At r2.2).bind fun r3=>
   some ((⟨0,0⟩:GVal),r3)
  else
   some (r2.1,p3)
def fW (t1:GType) (p1:ae) (s1:List UInt8) (p2:ae):Option (GVal×ae):=
 (eU p2).bind fun r1=>
 (jv s1 r1.1).bind fun s2=>
 (aI r1.2 0 ([47]:List UInt8)).bind fun r4=>
 if r4 then
  (eU (⟨r1.2.L,az (r1.2.At+1),r1.2.Deep,r1.2.E,r1.2.Pos⟩:ae)).bind fun r5=>
  (jv ([47]:List UInt8) r5.1).bind fun s4=>
  (jv s2 s4).bind fun s5=>
  dI t1 p1 s5 r5.2
 else
  dI t1 p1 s2 r1.2
def iC (p1:ae) (t1:GType):Option (GVal×ae):=
 (aI p1 0 ([45]:List UInt8)).bind fun r6=>
 if r6 then
  fW t1 p1 ([45]:List UInt8) (⟨p1.L,az (p1.At+1),p1.Deep,p1.E,p1.Pos⟩:ae)
 else
  fW t1 p1 ([]:List UInt8) p1
def iB:Nat→(List GLin)→ae→GLin→Option (List GLin×ae)
 | 0,_,_,_=>none
 | fuel1+1,gh,p2,f1=>
  (aI p2 0 ([44]:List UInt8)).bind fun r3=>
  if r3 then
   (gA (⟨p2.L,az (p2.At+1),p2.Deep,p2.E,p2.Pos⟩:ae)).bind fun r4=>
   (jv gh ([r4.1]:List GLin)).bind fun zs2=>
   (iB fuel1) zs2 r4.2 r4.1
  else
   (aH p2 ([93]:List UInt8)).bind fun r5=>
   some (gh,r5)
def lp (p1:ae):Option (List GLin×ae):=
 (aI p1 0 ([93]:List UInt8)).bind fun r1=>
 if r1 then
  some (([]:List GLin),(⟨p1.L,az (p1.At+1),p1.Deep,p1.E,p1.Pos⟩:ae))
 else
  (gA p1).bind fun r2=>
  (jv ([]:List GLin) ([r2.1]:List GLin)).bind fun zs1=>
  iB fu zs1 r2.2 r2.1
def ir (p1:ae):Option (GIndex×ae):=
 (jn p1).bind fun r1=>
 (gd r1 (aI p1 1 ([91]:List UInt8))).bind fun r2=>
 if r1&&r2 then
  (fa p1).bind fun r3=>
  (aH r3.2 ([91]:List UInt8)).bind fun r4=>
  (lp r4).bind fun r5=>
  some ((⟨(⟨0,([]:List GMono)⟩:GLin),r3.1,r5.1⟩:GIndex),r5.2)
 else
  (gA p1).bind fun r6=>
  some ((⟨r6.1,([]:List UInt8),([]:List GLin)⟩:GIndex),r6.2)
def m4 (x1:GIndex) (gh:GExpr) (p2:ae):Option (GExpr×ae):=
 (aH p2 ([93]:List UInt8)).bind fun r5=>
 some (gh,r5)
def gW:Nat→ae→GExpr→GIndex→Option (GExpr×ae)
 | 0,_,_,_=>none
 | fuel1+1,p3,out2,x2=>
  (aI p3 0 ([44]:List UInt8)).bind fun r6=>
  if r6 then
   (ir (⟨p3.L,az (p3.At+1),p3.Deep,p3.E,p3.Pos⟩:ae)).bind fun r7=>
   (jv out2.Idx ([r7.1]:List GIndex)).bind fun zs2=>
   (gW fuel1) r7.2 (⟨out2.Op,out2.Name,out2.Val,out2.Type_,out2.Lin,zs2,out2.Args⟩:GExpr) r7.1
  else
   m4 x2 out2 p3
def jX (p1:ae):Option (GExpr×ae):=
 (fa p1).bind fun r1=>
 (aH r1.2 ([91]:List UInt8)).bind fun r2=>
 (aI r2 0 ([93]:List UInt8)).bind fun r3=>
 if r3 then
  some ((⟨3,r1.1,(⟨0,0⟩:GVal),(⟨0,0,0,0,0⟩:GType),(⟨0,([]:List GMono)⟩:GLin),([]:List GIndex),([]:List GExpr)⟩:GExpr),(⟨r2.L,az (r2.At+1),r2.Deep,r2.E,r2.Pos⟩:ae))
 else
  (ir r2).bind fun r4=>
  (jv ([]:List GIndex) ([r4.1]:List GIndex)).bind fun zs1=>
  gW fu r4.2 (⟨3,r1.1,(⟨0,0⟩:GVal),(⟨0,0,0,0,0⟩:GType),(⟨0,([]:List GMono)⟩:GLin),zs1,([]:List GExpr)⟩:GExpr) r4.1
def d8 (rec_:(ae→Int→Option (GExpr×ae))) (p1:ae):Option (GExpr×ae):=
 (aI p1 0 ([40]:List UInt8)).bind fun r1=>
 if r1 then
  (dU rec_ p1 4 1 false).bind fun r2=>
  if !decide (r2.2.E=0)then
   some ((⟨0,([]:List UInt8),(⟨0,0⟩:GVal),(⟨0,0,0,0,0⟩:GType),(⟨0,([]:List GMono)⟩:GLin),([]:List GIndex),([]:List GExpr)⟩:GExpr),r2.2)
  else
   (lat r2.1.Args 0).bind fun e1=>
   some (e1,r2.2)
 else
  (aI p1 0 ([91]:List UInt8)).bind fun r3=>
  if r3 then
   (gA (⟨p1.L,az (p1.At+1),p1.Deep,p1.E,p1.Pos⟩:ae)).bind fun r4=>
   (aH r4.2 ([93]:List UInt8)).bind fun r5=>
   some ((⟨2,([]:List UInt8),(⟨0,0⟩:GVal),(⟨0,0,0,0,0⟩:GType),r4.1,([]:List GIndex),([]:List GExpr)⟩:GExpr),r5)
  else
   (mM p1 ([([102,114,97,99]:List UInt8),([105,110,116]:List UInt8),([102,105,120]:List UInt8)]:List (List UInt8))).bind fun r6=>
   if r6 then
    (jQ p1).bind fun r7=>
    (aH r7.2 ([40]:List UInt8)).bind fun r8=>
    (iC r8 r7.1).bind fun r9=>
    (aH r9.2 ([41]:List UInt8)).bind fun r10=>
    some ((⟨1,([]:List UInt8),r9.1,r7.1,(⟨0,([]:List GMono)⟩:GLin),([]:List GIndex),([]:List GExpr)⟩:GExpr),r10)
   else
    (mM p1 ([([109,105,110]:List UInt8),([109,97,120]:List UInt8),([105,102]:List UInt8),([99,97,115,116]:List UInt8)]:List (List UInt8))).bind fun r11=>
    if r11 then
     (jC p1 ([([109,105,110]:List UInt8),([109,97,120]:List UInt8),([105,102]:List UInt8),([99,97,115,116]:List UInt8)]:List (List UInt8))).bind fun r12=>
     if decide (r12.1=1)then
      (dU rec_ r12.2 9 2 false).bind fun r13=>
      some (r13.1,r13.2)
     else
      if decide (r12.1=2)then
       (dU rec_ r12.2 10 2 false).bind fun r14=>
       some (r14.1,r14.2)
      else
       if decide (r12.1=3)then
        (dU rec_ r12.2 11 3 false).bind fun r15=>
        some (r15.1,r15.2)
       else
        (dU rec_ r12.2 12 1 true).bind fun r16=>
        some (r16.1,r16.2)
    else
     (jX p1).bind fun r17=>
     some (r17.1,r17.2)
def cC (p1:ae) (n1:Int):Option Int:=
 (gd (decide (n1=1)) (aI p1 0 ([124]:List UInt8))).bind fun r1=>
 if(decide (n1=1))&&r1 then
  some 17
 else
  (gd (decide (n1=2)) (aI p1 0 ([38]:List UInt8))).bind fun r2=>
  if(decide (n1=2))&&r2 then
   some 16
  else
   (gd (decide (n1=4)) (aI p1 0 ([60]:List UInt8))).bind fun r3=>
   if(decide (n1=4))&&r3 then
    some 13
   else
    (gd (decide (n1=4)) (aI p1 0 ([60,61]:List UInt8))).bind fun r4=>
    if(decide (n1=4))&&r4 then
     some 14
    else
     (gd (decide (n1=4)) (aI p1 0 ([61,61]:List UInt8))).bind fun r5=>
     if(decide (n1=4))&&r5 then
      some 15
     else
      (gd (decide (n1=5)) (aI p1 0 ([43]:List UInt8))).bind fun r6=>
      if(decide (n1=5))&&r6 then
       some 4
      else
       (gd (decide (n1=5)) (aI p1 0 ([45]:List UInt8))).bind fun r7=>
       if(decide (n1=5))&&r7 then
        some 5
       else
        (gd (decide (n1=6)) (aI p1 0 ([42]:List UInt8))).bind fun r8=>
        if(decide (n1=6))&&r8 then
         some 6
        else
         (gd (decide (n1=6)) (aI p1 0 ([47]:List UInt8))).bind fun r9=>
         if(decide (n1=6))&&r9 then
          some 7
         else
          some 0
def kR (p1:ae) (rec_:(ae→Int→Option (GExpr×ae))) (n1:Int) (gh:GExpr):Option (GExpr×ae):=
 (fK p1).bind fun r3=>
 (rec_ r3 n1).bind fun r4=>
 some ((⟨gh.Op,gh.Name,gh.Val,gh.Type_,gh.Lin,gh.Idx,([r4.1]:List GExpr)⟩:GExpr),(⟨r4.2.L,r4.2.At,p1.Deep,r4.2.E,r4.2.Pos⟩:ae))
def bm (n1:Int) (rec_:(ae→Int→Option (GExpr×ae))):Nat→GExpr→ae→Option (GExpr×ae)
 | 0,_,_=>none
 | fuel1+1,x1,q1=>
  (cC q1 n1).bind fun r7=>
  if !decide (r7=0)then
   (cC q1 n1).bind fun r8=>
   (rec_ (⟨q1.L,az (q1.At+1),q1.Deep,q1.E,q1.Pos⟩:ae) (az (n1+1))).bind fun r9=>
   (bm n1 rec_ fuel1) (⟨r8,([]:List UInt8),(⟨0,0⟩:GVal),(⟨0,0,0,0,0⟩:GType),(⟨0,([]:List GMono)⟩:GLin),([]:List GIndex),([x1,r9.1]:List GExpr)⟩:GExpr) r9.2
  else
   some (x1,q1)
def aS (rec_:(ae→Int→Option (GExpr×ae))) (p1:ae) (n1:Int):Option (GExpr×ae):=
 (gd (decide (n1=3)) (aI p1 0 ([33]:List UInt8))).bind fun r1=>
 (gd ((!((decide (n1=3))&&r1))&&(decide (n1=7))) (aI p1 0 ([45]:List UInt8))).bind fun r2=>
 if((decide (n1=3))&&r1)||((decide (n1=7))&&r2)then
  if decide (n1=7)then
   kR p1 rec_ n1 (⟨8,([]:List UInt8),(⟨0,0⟩:GVal),(⟨0,0,0,0,0⟩:GType),(⟨0,([]:List GMono)⟩:GLin),([]:List GIndex),([]:List GExpr)⟩:GExpr)
  else
   kR p1 rec_ n1 (⟨18,([]:List UInt8),(⟨0,0⟩:GVal),(⟨0,0,0,0,0⟩:GType),(⟨0,([]:List GMono)⟩:GLin),([]:List GIndex),([]:List GExpr)⟩:GExpr)
 else
  if decide (n1=7)then
   (d8 rec_ p1).bind fun r5=>
   some (r5.1,r5.2)
  else
   (rec_ p1 (az (n1+1))).bind fun r6=>
   bm n1 rec_ fu r6.1 r6.2
def ax:Nat→(ae→Int→Option (GExpr×ae))
 | 0=>fun _ _=>none
 | n+1=>aS (ax n)
def jm (p1:ae) (n1:Int):Option (GExpr×ae):=ax fu p1 n1
def iG (e1:GExpr) (most1:Int) (rec_:(GExpr→Int→Option Int)):Nat→Int→Int→Option Int
 | 0,_,_=>none
 | fuel1+1,d1,i1=>
  if(decide (i1<(e1.Args.length:Int)))&&(decide (1<most1))then
   (lat e1.Args i1).bind fun e2=>
   (rec_ e2 (az (most1 - 1))).bind fun r1=>
   (iG e1 most1 rec_ fuel1) (max d1 (az (1+r1))) (az (i1+1))
  else
   some d1
def m5 (rec_:(GExpr→Int→Option Int)) (e1:GExpr) (most1:Int):Option Int:=
 iG e1 most1 rec_ fu 1 0
def j7:Nat→(GExpr→Int→Option Int)
 | 0=>fun _ _=>none
 | n+1=>m5 (j7 n)
def qy (e1:GExpr) (most1:Int):Option Int:=j7 fu e1 most1
def qz (e1:GExpr):Option Int:=
 (qy e1 41).bind fun r1=>
 some r1
def fc (e1:GExpr) (most1:Int) (rec_:(GExpr→Int→Option Int)):Nat→Int→Int→Option Int
 | 0,_,_=>none
 | fuel1+1,n1,i1=>
  if(decide (i1<(e1.Args.length:Int)))&&(decide (n1≤most1))then
   (lat e1.Args i1).bind fun e2=>
   (rec_ e2 (az (most1 - n1))).bind fun r1=>
   (fc e1 most1 rec_ fuel1) (az (n1+r1)) (az (i1+1))
  else
   some n1
def nt (rec_:(GExpr→Int→Option Int)) (e1:GExpr) (most1:Int):Option Int:=
 fc e1 most1 rec_ fu 1 0
def fL:Nat→(GExpr→Int→Option Int)
 | 0=>fun _ _=>none
 | n+1=>nt (fL n)
def rq (e1:GExpr) (most1:Int):Option Int:=fL fu e1 most1
def oT (e1:GExpr):Option Int:=
 (rq e1 2000).bind fun r1=>
 some (min r1 2001)
def iE (e1:GExpr):Nat→Int→Option Bool
 | 0,_=>none
 | fuel1+1,i1=>
  if decide (i1<(e1.Idx.length:Int))then
   (lat e1.Idx i1).bind fun e2=>
   if((decide (e2.From=([]:List UInt8)))&&(decide (0<(e2.At.length:Int))))||((!decide (e2.From=([]:List UInt8)))&&((!decide (e2.Lin.K=0))||(decide (0<(e2.Lin.L.length:Int)))))then
    some false
   else
    (iE e1 fuel1) (az (i1+1))
  else
   some true
def oa (e1:GExpr):Option Bool:=
 if(decide (e1.Op<1))||(decide (18<e1.Op))then
  some false
 else
  if((!decide (e1.Op=1))&&(!((decide (e1.Val.N=0))&&(decide (e1.Val.D=0)))))||(((!decide (e1.Op=1))&&(!decide (e1.Op=12)))&&(!((decide (e1.Type_.Kind=0))&&(decide (e1.Type_.Bits=0))&&(decide (e1.Type_.Frac=0))&&(decide (e1.Type_.Round=0))&&(decide (e1.Type_.Over=0)))))then
   some false
  else
   if((!decide (e1.Op=2))&&((!decide (e1.Lin.K=0))||(decide (0<(e1.Lin.L.length:Int)))))||((!decide (e1.Op=3))&&((!decide (e1.Name=([]:List UInt8)))||(decide (0<(e1.Idx.length:Int)))))then
    some false
   else
    iE e1 fu 0
def iF (e1:GExpr):Nat→Int→Option Bool
 | 0,_=>none
 | fuel1+1,i1=>
  if decide (i1<(e1.Idx.length:Int))then
   (lat e1.Idx i1).bind fun e2=>
   (gd (!decide (e2.From=([]:List UInt8))) (lat e1.Idx i1)).bind fun e3=>
   (gd (!decide (e2.From=([]:List UInt8))) (jj e3.From)).bind fun r2=>
   if(!decide (e2.From=([]:List UInt8)))&&(!r2)then
    some false
   else
    (iF e1 fuel1) (az (i1+1))
  else
   some true
def ob (e1:GExpr):Option Bool:=
 (gd (decide (e1.Op=3)) (jj e1.Name)).bind fun r1=>
 if(decide (e1.Op=3))&&(!r1)then
  some false
 else
  iF e1 fu 0
def ly (op1:Int) (i2:Bool):Option Int:=
 if i2 then
  some 1
 else
  if decide (op1=11)then
   some 3
  else
   some 2
def lz (op1:Int) (i1:Bool):Option Int:=
 if i1 then
  some 0
 else
  if decide (op1=8)then
   ly op1 (decide (op1=8))
  else
   if decide (op1=12)then
    ly op1 (decide (op1=12))
   else
    ly op1 (decide (op1=18))
def oR (op1:Int):Option Int:=
 if decide (op1=1)then
  lz op1 (decide (op1=1))
 else
  if decide (op1=2)then
   lz op1 (decide (op1=2))
  else
   lz op1 (decide (op1=3))
def gO (e1:GExpr):Nat→Int→Option Bool
 | 0,_=>none
 | fuel1+1,i1=>
  if decide (i1<(e1.Idx.length:Int))then
   (lat e1.Idx i1).bind fun e2=>
   if decide (6<(e2.At.length:Int))then
    some false
   else
    (gO e1 fuel1) (az (i1+1))
  else
   some true
def nu (e1:GExpr):Option Bool:=
 (oR e1.Op).bind fun r1=>
 if(!decide ((e1.Args.length:Int)=r1))||(decide (6<(e1.Idx.length:Int)))then
  some false
 else
  gO e1 fu 0
def m9 (e1:GExpr):Option Bool:=
 some ((decide (13≤e1.Op))&&(decide (e1.Op≤18)))
def n8 (op1:Int) (at1:Int):Option Bool:=
 some (((((decide (op1=11))&&(decide (at1=0)))||(decide (op1=16)))||(decide (op1=17)))||(decide (op1=18)))
def iD (e1:GExpr):Nat→Int→Option Bool
 | 0,_=>none
 | fuel1+1,i1=>
  if decide (i1<(e1.Args.length:Int))then
   (lat e1.Args i1).bind fun e2=>
   (m9 e2).bind fun r2=>
   (n8 e1.Op i1).bind fun r3=>
   if r2 != r3 then
    some false
   else
    (iD e1 fuel1) (az (i1+1))
  else
   some true
def n9 (e1:GExpr):Option Bool:=
 (gd ((decide (e1.Op=1))||(decide (e1.Op=12))) (mQ e1.Type_)).bind fun r1=>
 if((decide (e1.Op=1))||(decide (e1.Op=12)))&&(!r1)then
  some false
 else
  iD e1 fu 0
def nV (self1:Int→Option Bool) (i1:Int):Option Bool:=
 self1 (az (i1+1))
def gP (e1:GExpr) (i1:Int) (self1:Int→Option Bool):Nat→Int→Option Bool
 | 0,_=>none
 | fuel2+1,k1=>
  (lat e1.Idx i1).bind fun e3=>
  if decide (k1<(e3.At.length:Int))then
   (lat e1.Idx i1).bind fun e4=>
   (lat e4.At k1).bind fun e5=>
   (ja e5).bind fun r4=>
   if !r4 then
    some false
   else
    (gP e1 i1 self1 fuel2) (az (k1+1))
  else
   nV self1 i1
def dV (e1:GExpr):Nat→Int→Option Bool
 | 0,_=>none
 | fuel1+1,i1=>
  if decide (i1<(e1.Idx.length:Int))then
   (lat e1.Idx i1).bind fun e2=>
   (ja e2.Lin).bind fun r3=>
   if !r3 then
    some false
   else
    gP e1 i1 (dV e1 fuel1) fu 0
  else
   some true
def nw (e1:GExpr):Option Bool:=
 (gd (decide (e1.Op=1)) (oY e1.Type_ e1.Val)).bind fun r1=>
 (gd (!((decide (e1.Op=1))&&(!r1))) (ja e1.Lin)).bind fun r2=>
 if((decide (e1.Op=1))&&(!r1))||(!r2)then
  some false
 else
  dV e1 fu 0
def j6 (e1:GExpr) (rec_:(GExpr→Option Int)):Nat→Int→Option Int
 | 0,_=>none
 | fuel1+1,i1=>
  if decide (i1<(e1.Args.length:Int))then
   (lat e1.Args i1).bind fun e2=>
   (rec_ e2).bind fun r6=>
   if !decide (r6=0)then
    some r6
   else
    (j6 e1 rec_ fuel1) (az (i1+1))
  else
   some 0
def nv (rec_:(GExpr→Option Int)) (e1:GExpr):Option Int:=
 (oa e1).bind fun r1=>
 if !r1 then
  some 5
 else
  (ob e1).bind fun r2=>
  if !r2 then
   some 7
  else
   (nu e1).bind fun r3=>
   if !r3 then
    some 11
   else
    (n9 e1).bind fun r4=>
    if !r4 then
     some 10
    else
     (nw e1).bind fun r5=>
     if !r5 then
      some 1
     else
      j6 e1 rec_ fu 0
def kE:Nat→(GExpr→Option Int)
 | 0=>fun _=>none
 | n+1=>nv (kE n)
def rr (e1:GExpr):Option Int:=kE fu e1
def mq (e1:GExpr):Option Int:=
 (qz e1).bind fun r1=>
 if decide (40<r1)then
  some 13
 else
  (oT e1).bind fun r2=>
  if decide (2000<r2)then
   some 2
  else
   (rr e1).bind fun r3=>
   some r3
def dn (p1:ae):Option (GExpr×ae):=
 (jm p1 1).bind fun r1=>
 if decide (r1.2.E=0)then
  (mq r1.1).bind fun r2=>
  if !decide (r2=0)then
   (bs r1.2 p1.At r2).bind fun r3=>
   some (r1.1,r3)
  else
   some (r1.1,r1.2)
 else
  some (r1.1,r1.2)
def gL (a1:List GLin) (b1:List GLin):Nat→Int→Option Bool
 | 0,_=>none
 | fuel1+1,i1=>
  if decide (i1<(a1.length:Int))then
   (lat a1 i1).bind fun e1=>
   (lat b1 i1).bind fun e2=>
   (kN e1 e2).bind fun r1=>
   if !r1 then
    some false
   else
    (gL a1 b1 fuel1) (az (i1+1))
  else
   some true
def mS (a1:List GLin) (b1:List GLin):Option Bool:=
 if !decide ((a1.length:Int)=(b1.length:Int))then
  some false
 else
  gL a1 b1 fu 0
def l6 (a1:GIndex) (b1:GIndex):Option Bool:=
 (gd (decide (a1.From=b1.From)) (kN a1.Lin b1.Lin)).bind fun r1=>
 (gd ((decide (a1.From=b1.From))&&r1) (mS a1.At b1.At)).bind fun r2=>
 some (((decide (a1.From=b1.From))&&r1)&&r2)
def eK (a1:List GIndex) (b1:List GIndex):Nat→Int→Option Bool
 | 0,_=>none
 | fuel1+1,i1=>
  if decide (i1<(a1.length:Int))then
   (lat a1 i1).bind fun e1=>
   (lat b1 i1).bind fun e2=>
   (l6 e1 e2).bind fun r1=>
   if !r1 then
    some false
   else
    (eK a1 b1 fuel1) (az (i1+1))
  else
   some true
def kO (a1:List GIndex) (b1:List GIndex):Option Bool:=
 if !decide ((a1.length:Int)=(b1.length:Int))then
  some false
 else
  eK a1 b1 fu 0
def ga (a1:List GExpr) (b1:List GExpr) (rec_:(GExpr→GExpr→Option Bool)):Nat→Int→Option Bool
 | 0,_=>none
 | fuel1+1,i1=>
  if decide (i1<(a1.length:Int))then
   (lat a1 i1).bind fun e1=>
   (lat b1 i1).bind fun e2=>
   (rec_ e1 e2).bind fun r1=>
   if !r1 then
    some false
   else
    (ga a1 b1 rec_ fuel1) (az (i1+1))
  else
   some true
def l7 (rec_:(GExpr→GExpr→Option Bool)) (a1:List GExpr) (b1:List GExpr):Option Bool:=
 if !decide ((a1.length:Int)=(b1.length:Int))then
  some false
 else
  ga a1 b1 rec_ fu 0
def lv (rec_:(GExpr→GExpr→Option Bool)) (a1:GExpr) (b1:GExpr):Option Bool:=
 (gd ((((decide (a1.Op=b1.Op))&&(decide (a1.Name=b1.Name)))&&((decide (a1.Val.N=b1.Val.N))&&(decide (a1.Val.D=b1.Val.D))))&&((decide (a1.Type_.Kind=b1.Type_.Kind))&&(decide (a1.Type_.Bits=b1.Type_.Bits))&&(decide (a1.Type_.Frac=b1.Type_.Frac))&&(decide (a1.Type_.Round=b1.Type_.Round))&&(decide (a1.Type_.Over=b1.Type_.Over)))) (kN a1.Lin b1.Lin)).bind fun r1=>
 (gd (((((decide (a1.Op=b1.Op))&&(decide (a1.Name=b1.Name)))&&((decide (a1.Val.N=b1.Val.N))&&(decide (a1.Val.D=b1.Val.D))))&&((decide (a1.Type_.Kind=b1.Type_.Kind))&&(decide (a1.Type_.Bits=b1.Type_.Bits))&&(decide (a1.Type_.Frac=b1.Type_.Frac))&&(decide (a1.Type_.Round=b1.Type_.Round))&&(decide (a1.Type_.Over=b1.Type_.Over))))&&r1) (kO a1.Idx b1.Idx)).bind fun r2=>
 (gd ((((((decide (a1.Op=b1.Op))&&(decide (a1.Name=b1.Name)))&&((decide (a1.Val.N=b1.Val.N))&&(decide (a1.Val.D=b1.Val.D))))&&((decide (a1.Type_.Kind=b1.Type_.Kind))&&(decide (a1.Type_.Bits=b1.Type_.Bits))&&(decide (a1.Type_.Frac=b1.Type_.Frac))&&(decide (a1.Type_.Round=b1.Type_.Round))&&(decide (a1.Type_.Over=b1.Type_.Over))))&&r1)&&r2) (l7 rec_ a1.Args b1.Args)).bind fun r3=>
 some (((((((decide (a1.Op=b1.Op))&&(decide (a1.Name=b1.Name)))&&((decide (a1.Val.N=b1.Val.N))&&(decide (a1.Val.D=b1.Val.D))))&&((decide (a1.Type_.Kind=b1.Type_.Kind))&&(decide (a1.Type_.Bits=b1.Type_.Bits))&&(decide (a1.Type_.Frac=b1.Type_.Frac))&&(decide (a1.Type_.Round=b1.Type_.Round))&&(decide (a1.Type_.Over=b1.Type_.Over))))&&r1)&&r2)&&r3)
def iy:Nat→(GExpr→GExpr→Option Bool)
 | 0=>fun _ _=>none
 | n+1=>lv (iy n)
def mT (a1:GExpr) (b1:GExpr):Option Bool:=iy fu a1 b1
def pE (s1:List UInt8) (l1:List aG) (at1:Int):Option Int:=
 if decide (at1<(l1.length:Int))then
  (lat l1 at1).bind fun e1=>
  some e1.At
 else
  some (s1.length:Int)
def oU (n1:Int):Option Int:=
 if decide (n1<0)then
  some (iK ((iK (az (-(az (n1+1)))))+1))
 else
  some (iK n1)
def nW:Nat→Int→(List UInt8)→Option (List UInt8)
 | 0,_,_=>none
 | fuel1+1,n2,s1=>
  (jv (Hp ([DT (iK (48+(Int.tmod n2 10)))]:List Int)) s1).bind fun s2=>
  if decide (iK (Int.tdiv n2 10)=0)then
   some s2
  else
   (nW fuel1) (iK (Int.tdiv n2 10)) s2
def pG (n1:Int):Option (List UInt8):=
 nW fu n1 ([]:List UInt8)
def rt (s1:List UInt8) (negative1:Bool) (t1:List UInt8):Option (List UInt8):=
 if(decide (s1=([]:List UInt8)))&&negative1 then
  (jv ([45]:List UInt8) t1).bind fun s2=>
  some s2
 else
  if decide (s1=([]:List UInt8))then
   some t1
  else
   if negative1 then
    (jv s1 ([32,45,32]:List UInt8)).bind fun s3=>
    (jv s3 t1).bind fun s4=>
    some s4
   else
    (jv s1 ([32,43,32]:List UInt8)).bind fun s5=>
    (jv s5 t1).bind fun s6=>
    some s6
def ru (l1:GLin) (s1:List UInt8):Option (List UInt8):=
 if(!decide (l1.K=0))||(decide ((l1.L.length:Int)=0))then
  (oU l1.K).bind fun r2=>
  (pG r2).bind fun r3=>
  (rt s1 (decide (l1.K<0)) r3).bind fun r4=>
  some r4
 else
  some s1
def nY (s2:List UInt8) (e1:GMono) (self1:(List UInt8)→Int→Option (List UInt8)) (i1:Int) (t1:List UInt8):Option (List UInt8):=
 (rt s2 (decide (e1.By<0)) t1).bind fun r5=>
 self1 r5 (az (i1+1))
def nX (l1:GLin):Nat→(List UInt8)→Int→Option (List UInt8)
 | 0,_,_=>none
 | fuel1+1,s2,i1=>
  if decide (i1<(l1.L.length:Int))then
   (lat l1.L i1).bind fun e1=>
   (lat l1.L i1).bind fun e2=>
   (oU e1.By).bind fun r6=>
   if !decide (r6=1)then
    (oU e1.By).bind fun r7=>
    (pG r7).bind fun r8=>
    (jv r8 ([42]:List UInt8)).bind fun s3=>
    (jv s3 e2.Name).bind fun s4=>
    nY s2 e1 (nX l1 fuel1) i1 s4
   else
    nY s2 e1 (nX l1 fuel1) i1 e2.Name
  else
   ru l1 s2
def j8 (l1:List aG) (i1:Int) (self1:(List UInt8)→Int→Option (List UInt8)) (s2:List UInt8):Option (List UInt8):=
 (lat l1 i1).bind fun e1=>
 (jv s2 e1.Text).bind fun s3=>
 self1 s3 (az (i1+1))
def eg (l1:List aG):Nat→(List UInt8)→Int→Option (List UInt8)
 | 0,_,_=>none
 | fuel1+1,s1,i1=>
  if decide (i1<(l1.length:Int))then
   if decide (0<i1)then
    (jv s1 ([32]:List UInt8)).bind fun s4=>
    j8 l1 i1 (eg l1 fuel1) s4
   else
    j8 l1 i1 (eg l1 fuel1) s1
  else
   some s1
def kT (l1:List aG):Option (List UInt8):=
 eg l1 fu ([]:List UInt8) 0
def jh (s1:List UInt8):Option Bool:=
 if decide (2000<(s1.length:Int))then
  (gt).bind fun r1=>
  some r1
 else
  (bT s1).bind fun r2=>
  (iH s1).bind fun r3=>
  if !decide (r3.2.2=0)then
   (gd (decide (r2.2.2=r3.2.2)) (gt)).bind fun r4=>
   some ((decide (r2.2.2=r3.2.2))&&r4)
  else
   (kT r3.1).bind fun r5=>
   (bT r5).bind fun r6=>
   (gd (!(!decide (r2.2.2=r6.2.2))) (mT r2.1 r6.1)).bind fun r7=>
   if(!decide (r2.2.2=r6.2.2))||(!r7)then
    some false
   else
    if !decide (r2.2.2=0)then
     (gt).bind fun r8=>
     some r8
    else
     (kT r3.1).bind fun r9=>
     (jv ([32,40,32,35,32,99,111,109,109,101,110,116,10]:List UInt8) r9).bind fun s2=>
     (jv s2 ([9,41]:List UInt8)).bind fun s3=>
     (bT s3).bind fun r10=>
     (gd ((!(decide (r10.2.2=13)))&&(decide (r10.2.2=0))) (mT r2.1 r10.1)).bind fun r11=>
     (gd ((decide (r10.2.2=13))||((decide (r10.2.2=0))&&r11)) (gt)).bind fun r12=>
     some (((decide (r10.2.2=13))||((decide (r10.2.2=0))&&r11))&&r12)
end Go.Proofs.YtmhoikfoogemnaaGreatDoor
