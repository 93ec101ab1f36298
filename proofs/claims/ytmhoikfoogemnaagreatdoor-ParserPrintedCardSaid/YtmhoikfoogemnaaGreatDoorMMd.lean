import Derived.Test.YtmhoikfoogemnaaGreatDoorMXm
namespace Go.Proofs.YtmhoikfoogemnaaGreatDoor
open Go Go.RowKit Go.Vc
set_option linter.unusedVariables false
set_option linter.unusedSimpArgs false
structure aU where
 Kind:Int
 At:Int
 Text:List UInt8
deriving Inhabited,DecidableEq
def ah:Cod aU where
 n:=3
 rel _ _ x cs:=cs=[(Value.int .i64 x.Kind),(Value.int .i64 x.At),(str x.Text)]
 len h:=by subst h;rfl
 one h:=by subst h;rfl
 sp _ h:=h
structure aa where
 l:List aU
 at_:Int
 deep:Int
deriving Inhabited,DecidableEq
def fnP_k1 (v:Value) (m:(Int→Option Bool)) (D:NP) (w:World):Prop:=
 Fx v=true∧∀ (D':NP) (w':World),Sp D w D' w'→(∀ k,D' k→k<w'.heap.size)→∀ (x_1:Int) (r:Bool),AllCl [] D' w'→m x_1=some r→
  CallV Tryz.prog v [(Value.int .i32 x_1)] w' fun e w''=>e= .returned (Value.bool r)∧Ext w' w''∧AllCl [] D' w''
theorem fnP_k1.sp {v:Value} {m:(Int→Option Bool)} {D D':NP} {w w':World} (hs:Sp D w D' w') (h:fnP_k1 v m D w):fnP_k1 v m D' w':=⟨h.1,fun D'' w'' hs'=>h.2 D'' w'' (hs.trans hs')⟩
def q9 (v:Value) (m:(Int→Option Bool)):Cl:=⟨fnP_k1 v m,fnP_k1.sp⟩
structure aw where
 Name:List UInt8
 By:Int
deriving Inhabited,DecidableEq
def ag:Cod aw where
 n:=2
 rel _ _ x cs:=cs=[(str x.Name),(Value.int .i64 x.By)]
 len h:=by subst h;rfl
 one h:=by subst h;rfl
 sp _ h:=h
structure ay where
 K:Int
 L:List aw
deriving Inhabited,DecidableEq
def ga:Cod ay where
 n:=2
 rel D w x cs:=∃ (A0:Option Addr) (c0:Nat),cs=[(Value.int .i64 x.K),(Value.slice A0 x.L.length c0)]∧SlC ag D w A0 c0 x.L
 len h:=by obtain⟨_,_,rfl,_⟩:=h;rfl
 one h:=by obtain⟨A0,c0,rfl,h0⟩:=h;rfl
 sp hs h:=by obtain⟨A0,c0,rfl,h0⟩:=h;exact⟨_,_,rfl,h0.sp hs⟩
def fnS_k2 {σ:Type} (I:StI σ) (v:Value) (m:((List UInt8)→Int→Int→σ→Option (Unit×σ))) (D:NP) (w:World):Prop:=
 Fx v=true∧∀ (C0 F:NP) (w':World),Sp D w (Dj F C0) w'→∀ (x_1:List UInt8) (x_2:Int) (x_3:Int) (s:σ) (r:Unit×σ),Bun C0 F w' C0 w' [MO.st I s] []→m x_1 x_2 x_3 s=some r→
  CallV Tryz.prog v [(str x_1),(Value.int .i64 x_2),(Value.int .i64 x_3)] w' fun e w''=>∃ (C:NP),e= .returned (Value.tuple #[])∧Bun C0 F w' C w'' [MO.st I r.2] []
theorem fnS_k2.sp {σ:Type} {I:StI σ} {v:Value} {m:((List UInt8)→Int→Int→σ→Option (Unit×σ))} {D D':NP} {w w':World} (hs:Sp D w D' w') (h:fnS_k2 I v m D w):fnS_k2 I v m D' w':=⟨h.1,fun C0 F w'' hs'=>h.2 C0 F w'' (hs.trans hs')⟩
def vW {σ:Type} (I:StI σ) (v:Value) (m:((List UInt8)→Int→Int→σ→Option (Unit×σ))):Cl:=⟨fnS_k2 I v m,fnS_k2.sp⟩
structure aM where
 Kind:Int
 Bits:Int
 Frac:Int
 Round:Int
 Over:Int
deriving Inhabited,DecidableEq
def FQ:Cod aM where
 n:=5
 rel _ _ x cs:=cs=[(Value.int .i64 x.Kind),(Value.int .i64 x.Bits),(Value.int .i64 x.Frac),(Value.int .i64 x.Round),(Value.int .i64 x.Over)]
 len h:=by subst h;rfl
 one h:=by subst h;rfl
 sp _ h:=h
structure bj where
 N:Int
 D:Int
deriving Inhabited,DecidableEq
def HZ:Cod bj where
 n:=2
 rel _ _ x cs:=cs=[(Value.int .i64 x.N),(Value.int .i64 x.D)]
 len h:=by subst h;rfl
 one h:=by subst h;rfl
 sp _ h:=h
structure av where
 Lin:ay
 From:List UInt8
 At:List ay
deriving Inhabited,DecidableEq
def ai:Cod av where
 n:=4
 rel D w x cs:=∃ (A0:Option Addr) (c0:Nat) (A2:Option Addr) (c2:Nat),cs=[(Value.int .i64 x.Lin.K),(Value.slice A0 x.Lin.L.length c0),(str x.From),(Value.slice A2 x.At.length c2)]∧SlC ag D w A0 c0 x.Lin.L∧SlC ga D w A2 c2 x.At
 len h:=by obtain⟨_,_,_,_,rfl,_,_⟩:=h;rfl
 one h:=by obtain⟨A0,c0,A2,c2,rfl,h0,h1⟩:=h;rfl
 sp hs h:=by obtain⟨A0,c0,A2,c2,rfl,h0,h1⟩:=h;exact⟨_,_,_,_,rfl,h0.sp hs,h1.sp hs⟩
structure ac where
 Op:Int
 Name:List UInt8
 Val:bj
 Type_:aM
 Lin:ay
 Idx:List av
 Args:List ac
instance:Inhabited ac:=⟨⟨0,[],default,default,default,[],[]⟩⟩
def rb (c:Cod ac):Cod ac where
 n:=13
 rel D w x cs:=∃ (A0:Option Addr) (c0:Nat) (A2:Option Addr) (c2:Nat) (A4:Option Addr) (c4:Nat),cs=[(Value.int .i64 x.Op),(str x.Name),(Value.int .i64 x.Val.N),(Value.int .i64 x.Val.D),(Value.int .i64 x.Type_.Kind),(Value.int .i64 x.Type_.Bits),(Value.int .i64 x.Type_.Frac),(Value.int .i64 x.Type_.Round),(Value.int .i64 x.Type_.Over),(Value.int .i64 x.Lin.K),(Value.slice A0 x.Lin.L.length c0),(Value.slice A2 x.Idx.length c2),(Value.slice A4 x.Args.length c4)]∧SlC ag D w A0 c0 x.Lin.L∧SlC ai D w A2 c2 x.Idx∧SlC c D w A4 c4 x.Args
 len h:=by obtain⟨_,_,_,_,_,_,rfl,_,_,_⟩:=h;rfl
 one h:=by obtain⟨A0,c0,A2,c2,A4,c4,rfl,h0,h1,h2⟩:=h;rfl
 sp hs h:=by obtain⟨A0,c0,A2,c2,A4,c4,rfl,h0,h1,h2⟩:=h;exact⟨_,_,_,_,_,_,rfl,h0.sp hs,h1.sp hs,h2.sp hs⟩
theorem td {c c':Cod ac} (hm:∀ D w x cs,c.rel D w x cs→c'.rel D w x cs):∀ D w x cs,(rb c).rel D w x cs→(rb c').rel D w x cs:=fun D w x cs h=>by
 obtain⟨A0,c0,A2,c2,A4,c4,rfl,h0,h1,h2⟩:=h;exact⟨_,_,_,_,_,_,rfl,h0,h1,h2.mono hm⟩
def al:Cod ac:=Cod.fix rb 13 (fun _=>rfl)
theorem bP {D:NP} {w:World} {x:ac} {cs:List Value} (h:al.rel D w x cs):(rb al).rel D w x cs:=by
 obtain⟨k,hk⟩:=h
 cases k with
 | zero=>exact False.elim hk
 | succ k=>exact td (c:=D8 rb 13 k) (c':=al) (fun _ _ _ _ h=>⟨k,h⟩) _ _ _ _ hk
theorem ez {D:NP} {w:World} {x:ac} {cs:List Value} (h:(rb al).rel D w x cs):al.rel D w x cs:=by
 obtain⟨A0,c0,A2,c2,A4,c4,rfl,h0,h1,h2⟩:=h
 obtain⟨k,hk⟩:=h2.fix_out td
 exact⟨k+1,_,_,_,_,_,_,rfl,h0,h1,hk⟩
def fnS_k5 {σ:Type} (I:StI σ) (v:Value) (m:(ac→σ→Option (Bool×σ))) (D:NP) (w:World):Prop:=
 Fx v=true∧∀ (C0 F:NP) (w':World),Sp D w (Dj F C0) w'→∀ (x_1:ac) (A_2:Option Addr) (c_3:Nat) (A_4:Option Addr) (c_5:Nat) (A_6:Option Addr) (c_7:Nat) (s:σ) (r:Bool×σ),Bun C0 F w' C0 w' [MO.st I s] [Cl.sl ag A_2 c_3 x_1.Lin.L,Cl.sl ai A_4 c_5 x_1.Idx,Cl.sl al A_6 c_7 x_1.Args]→m x_1 s=some r→
  CallV Tryz.prog v [(Value.agg #[(Value.int .i64 x_1.Op),(str x_1.Name),(Value.int .i64 x_1.Val.N),(Value.int .i64 x_1.Val.D),(Value.int .i64 x_1.Type_.Kind),(Value.int .i64 x_1.Type_.Bits),(Value.int .i64 x_1.Type_.Frac),(Value.int .i64 x_1.Type_.Round),(Value.int .i64 x_1.Type_.Over),(Value.int .i64 x_1.Lin.K),(Value.slice A_2 x_1.Lin.L.length c_3),(Value.slice A_4 x_1.Idx.length c_5),(Value.slice A_6 x_1.Args.length c_7)])] w' fun e w''=>∃ (C:NP),e= .returned (Value.bool r.1)∧Bun C0 F w' C w'' [MO.st I r.2] []
theorem fnS_k5.sp {σ:Type} {I:StI σ} {v:Value} {m:(ac→σ→Option (Bool×σ))} {D D':NP} {w w':World} (hs:Sp D w D' w') (h:fnS_k5 I v m D w):fnS_k5 I v m D' w':=⟨h.1,fun C0 F w'' hs'=>h.2 C0 F w'' (hs.trans hs')⟩
def ph {σ:Type} (I:StI σ) (v:Value) (m:(ac→σ→Option (Bool×σ))):Cl:=⟨fnS_k5 I v m,fnS_k5.sp⟩
def fnP_k6 (v:Value) (m:(av→Option Bool)) (D:NP) (w:World):Prop:=
 Fx v=true∧∀ (D':NP) (w':World),Sp D w D' w'→(∀ k,D' k→k<w'.heap.size)→∀ (x_1:av) (A_2:Option Addr) (c_3:Nat) (A_4:Option Addr) (c_5:Nat) (r:Bool),AllCl [Cl.sl ag A_2 c_3 x_1.Lin.L,Cl.sl ga A_4 c_5 x_1.At] D' w'→m x_1=some r→
  CallV Tryz.prog v [(Value.agg #[(Value.int .i64 x_1.Lin.K),(Value.slice A_2 x_1.Lin.L.length c_3),(str x_1.From),(Value.slice A_4 x_1.At.length c_5)])] w' fun e w''=>e= .returned (Value.bool r)∧Ext w' w''∧AllCl [] D' w''
theorem fnP_k6.sp {v:Value} {m:(av→Option Bool)} {D D':NP} {w w':World} (hs:Sp D w D' w') (h:fnP_k6 v m D w):fnP_k6 v m D' w':=⟨h.1,fun D'' w'' hs'=>h.2 D'' w'' (hs.trans hs')⟩
def q8 (v:Value) (m:(av→Option Bool)):Cl:=⟨fnP_k6 v m,fnP_k6.sp⟩
def fnS_k7 {σ:Type} (I:StI σ) (v:Value) (m:(ay→σ→Option (Bool×σ))) (D:NP) (w:World):Prop:=
 Fx v=true∧∀ (C0 F:NP) (w':World),Sp D w (Dj F C0) w'→∀ (x_1:ay) (A_2:Option Addr) (c_3:Nat) (s:σ) (r:Bool×σ),Bun C0 F w' C0 w' [MO.st I s] [Cl.sl ag A_2 c_3 x_1.L]→m x_1 s=some r→
  CallV Tryz.prog v [(Value.agg #[(Value.int .i64 x_1.K),(Value.slice A_2 x_1.L.length c_3)])] w' fun e w''=>∃ (C:NP),e= .returned (Value.bool r.1)∧Bun C0 F w' C w'' [MO.st I r.2] []
theorem fnS_k7.sp {σ:Type} {I:StI σ} {v:Value} {m:(ay→σ→Option (Bool×σ))} {D D':NP} {w w':World} (hs:Sp D w D' w') (h:fnS_k7 I v m D w):fnS_k7 I v m D' w':=⟨h.1,fun C0 F w'' hs'=>h.2 C0 F w'' (hs.trans hs')⟩
def m8 {σ:Type} (I:StI σ) (v:Value) (m:(ay→σ→Option (Bool×σ))):Cl:=⟨fnS_k7 I v m,fnS_k7.sp⟩
structure rh where
 L:List aU
 At:Int
 Deep:Int
 E:Int
 Pos:Int
deriving Inhabited,DecidableEq
structure H1 where
 Name:List UInt8
 Size:ay
deriving Inhabited,DecidableEq
structure KZ where
 Name:List UInt8
 Type_:aM
 Dims:List H1
 Red:List H1
 Fold:Int
 Body:ac
deriving Inhabited
def vw (l1:List aU):Nat→Int→Option Bool
 | 0,_=>none
 | fuel1+1,i1=>
  if decide (i1<(l1.length:Int))then
   (lat l1 i1).bind fun e1=>
   if decide (100<(e1.Text.length:Int))then
    some false
   else
    (vw l1 fuel1) (au (i1+1))
  else
   some true
def oK (c1:Int):Option Bool:=
 some ((((decide (c1=9))||(decide (c1=10)))||(decide (c1=13)))||(decide (c1=32)))
def jV (s1:List UInt8) (self1:Int→Option Int):Nat→Int→Option Int
 | 0,_=>none
 | fuel2+1,at3=>
  (gd (decide (at3<(s1.length:Int))) (sat s1 at3)).bind fun b3=>
  if(decide (at3<(s1.length:Int)))&&(!decide (b3=10))then
   (jV s1 self1 fuel2) (au (at3+1))
  else
   self1 at3
def gE (s1:List UInt8):Nat→Int→Option Int
 | 0,_=>none
 | fuel1+1,at2=>
  if decide (at2<(s1.length:Int))then
   (sat s1 at2).bind fun b1=>
   (oK b1).bind fun r1=>
   if r1 then
    (gE s1 fuel1) (au (at2+1))
   else
    (sat s1 at2).bind fun b2=>
    if decide (b2=35)then
     jV s1 (gE s1 fuel1) fu at2
    else
     some at2
  else
   some at2
def nz (s1:List UInt8) (at1:Int):Option Int:=
 gE s1 fu at1
def kD (c1:Int):Option Bool:=
 some ((decide (97≤c1))&&(decide (c1≤122)))
def mT (c1:Int):Option Bool:=
 some ((decide (48≤c1))&&(decide (c1≤57)))
def kC (s1:List UInt8) (kind1:Int):Nat→Int→Option (Int×Int)
 | 0,_=>none
 | fuel1+1,n1=>
  (gd (decide (n1<(s1.length:Int))) (sat s1 n1)).bind fun b3=>
  (gd (decide (n1<(s1.length:Int))) (mT b3)).bind fun r3=>
  (gd (((decide (n1<(s1.length:Int)))&& !r3)&&(decide (kind1=1))) (sat s1 n1)).bind fun b4=>
  (gd (((decide (n1<(s1.length:Int)))&& !r3)&&(decide (kind1=1))) (kD b4)).bind fun r4=>
  (gd ((((decide (n1<(s1.length:Int)))&& !r3)&&(decide (kind1=1)))&& !r4) (sat s1 n1)).bind fun b5=>
  if(decide (n1<(s1.length:Int)))&&(r3||((decide (kind1=1))&&(r4||(decide (b5=95)))))then
   (kC s1 kind1 fuel1) (au (n1+1))
  else
   some (n1,kind1)
def mc (s1:List UInt8) (kind1:Int):Option (Int×Int):=
 kC s1 kind1 fu 0
def qm (s1:List UInt8):Option (Int×Int):=
 (gd (!(decide (s1=([]:List UInt8)))) (sat s1 0)).bind fun b1=>
 (gd (!(decide (s1=([]:List UInt8)))) (kD b1)).bind fun r1=>
 (gd ((!(decide (s1=([]:List UInt8))))&&(!r1)) (sat s1 0)).bind fun b2=>
 (gd ((!(decide (s1=([]:List UInt8))))&&(!r1)) (mT b2)).bind fun r2=>
 if(decide (s1=([]:List UInt8)))||((!r1)&&(!r2))then
  some (0,0)
 else
  (sat s1 0).bind fun b6=>
  (kD b6).bind fun r5=>
  if r5 then
   mc s1 1
  else
   mc s1 2
def nn:Option (List (List UInt8)):=
 some ([([60,61]:List UInt8),([61,61]:List UInt8),([40]:List UInt8),([41]:List UInt8),([91]:List UInt8),([93]:List UInt8),([123]:List UInt8),([125]:List UInt8),([44]:List UInt8),([59]:List UInt8),([58]:List UInt8),([43]:List UInt8),([45]:List UInt8),([42]:List UInt8),([47]:List UInt8),([60]:List UInt8),([61]:List UInt8),([38]:List UInt8),([124]:List UInt8),([33]:List UInt8),([46]:List UInt8),([64]:List UInt8)]:List (List UInt8))
def iV (r1:List (List UInt8)) (s1:List UInt8):Nat→Int→Option Int
 | 0,_=>none
 | fuel1+1,i1=>
  if decide (i1<(r1.length:Int))then
   (lat r1 i1).bind fun e1=>
   (gd (decide ((e1.length:Int)≤(s1.length:Int))) (lat r1 i1)).bind fun e2=>
   (gd (decide ((e1.length:Int)≤(s1.length:Int))) (qo s1 (e2.length:Int))).bind fun s2=>
   (gd (decide ((e1.length:Int)≤(s1.length:Int))) (lat r1 i1)).bind fun e3=>
   if(decide ((e1.length:Int)≤(s1.length:Int)))&&(decide (s2=e3))then
    (lat r1 i1).bind fun e4=>
    some (e4.length:Int)
   else
    (iV r1 s1 fuel1) (au (i1+1))
  else
   some 0
def nN (s1:List UInt8):Option Int:=
 (nn).bind fun r1=>
 iV r1 s1 fu 0
def jh (at1:Int) (s1:List UInt8) (mz:List aU) (self1:(List aU)→Int→Option (List aU×Int×Int)) (n1:Int) (kind1:Int):Option (List aU×Int×Int):=
 if decide (n1=0)then
  some (([]:List aU),at1,5)
 else
  if(decide (kind1=1))&&(decide (16<n1))then
   some (([]:List aU),at1,2)
  else
   (rE s1 at1 (au (at1+n1))).bind fun s3=>
   (cF mz ([(⟨kind1,at1,s3⟩:aU)]:List aU)).bind fun zs1=>
   (nz s1 (au (at1+n1))).bind fun r3=>
   self1 zs1 r3
def eG (s1:List UInt8):Nat→(List aU)→Int→Option (List aU×Int×Int)
 | 0,_,_=>none
 | fuel1+1,mz,at1=>
  if decide (at1<(s1.length:Int))then
   (gN s1 at1).bind fun s2=>
   (qm s2).bind fun r2=>
   if decide (r2.1=0)then
    (gN s1 at1).bind fun s4=>
    (nN s4).bind fun r4=>
    jh at1 s1 mz (eG s1 fuel1) r4 3
   else
    jh at1 s1 mz (eG s1 fuel1) r2.1 r2.2
  else
   some (mz,0,0)
def mI (s1:List UInt8):Option (List aU×Int×Int):=
 if decide (65536<(s1.length:Int))then
  some (([]:List aU),0,2)
 else
  (nz s1 0).bind fun r1=>
  eG s1 fu ([]:List aU) r1
def bB (r1:aa) (kind1:Int) (s1:List UInt8):Option Bool:=
 (gd (decide (r1.at_<(r1.l.length:Int))) (lat r1.l r1.at_)).bind fun e1=>
 (gd ((decide (r1.at_<(r1.l.length:Int)))&&(decide (e1.Kind=kind1))) (lat r1.l r1.at_)).bind fun e2=>
 some (((decide (r1.at_<(r1.l.length:Int)))&&(decide (e1.Kind=kind1)))&&(decide (e2.Text=s1)))
def eO (r1:Int):Option Bool:=
 some ((decide (97≤r1))&&(decide (r1≤122)))
def cw (s1:List UInt8) (ok1:(Int→Option Bool)):Nat→Int→Option Int
 | 0,_=>none
 | fuel1+1,n1=>
  (gd (decide (n1<(s1.length:Int))) (sat s1 n1)).bind fun b1=>
  (gd (decide (n1<(s1.length:Int))) (ok1 (oG b1))).bind fun r1=>
  if(decide (n1<(s1.length:Int)))&&r1 then
   (cw s1 ok1 fuel1) (au (n1+1))
  else
   some n1
def gi (s1:List UInt8) (ok1:(Int→Option Bool)):Option Int:=
 cw s1 ok1 fu 0
def eP (r1:Int):Option Bool:=
 some ((decide (48≤r1))&&(decide (r1≤57)))
def dA (r1:Int):Option Bool:=
 (eO r1).bind fun r2=>
 (gd (!r2) (eP r1)).bind fun r3=>
 some ((r2||r3)||(decide (r1=95)))
def kW:Option (List (List UInt8)):=
 (mH ([115,105,122,101,32,119,104,101,114,101,32,105,110,32,100,101,102,32,111,117,116,32,115,117,109,32,112,114,111,100,32,109,105,110,32,109,97,120,32,115,99,97,110,32,111,118,101,114,32,105,102,32,99,97,115,116,32,102,114,97,99,32,105,110,116,32,102,105,120,32,99,101,105,108,32,102,108,111,111,114,32,122,101,114,111,32,101,118,101,110,32,115,97,116,32,119,114,97,112]:List UInt8)).bind fun r1=>
 some r1
def aW (s1:List (List UInt8)) (v1:List UInt8):Nat→Int→Option Int
 | 0,_=>none
 | fuel1+1,i1=>
  if decide (i1<(s1.length:Int))then
   (lat s1 i1).bind fun e1=>
   if decide (v1=e1)then
    some i1
   else
    (aW s1 v1 fuel1) (au (i1+1))
  else
   some (-1)
def eT (s1:List (List UInt8)) (v1:List UInt8):Option Int:=
 aW s1 v1 fu 0
def cQ (s1:List (List UInt8)) (v1:List UInt8):Option Bool:=
 (eT s1 v1).bind fun r1=>
 some (decide (0≤r1))
def iZ (s1:List UInt8):Option Bool:=
 (kW).bind fun r1=>
 (cQ r1 s1).bind fun r2=>
 some r2
def fB (s1:List UInt8):Option Bool:=
 (gd ((!decide (s1=([]:List UInt8)))&&(decide ((s1.length:Int)≤16))) (sat s1 0)).bind fun b1=>
 (gd ((!decide (s1=([]:List UInt8)))&&(decide ((s1.length:Int)≤16))) (eO (oG b1))).bind fun r1=>
 (gd (((!decide (s1=([]:List UInt8)))&&(decide ((s1.length:Int)≤16)))&&r1) (gi s1 dA)).bind fun r2=>
 (gd ((((!decide (s1=([]:List UInt8)))&&(decide ((s1.length:Int)≤16)))&&r1)&&(decide (r2=(s1.length:Int)))) (iZ s1)).bind fun r3=>
 some (((((!decide (s1=([]:List UInt8)))&&(decide ((s1.length:Int)≤16)))&&r1)&&(decide (r2=(s1.length:Int))))&&(!r3))
def cA (r1:aa):Option Bool:=
 (gd (decide (r1.at_<(r1.l.length:Int))) (lat r1.l r1.at_)).bind fun e1=>
 (gd ((decide (r1.at_<(r1.l.length:Int)))&&(decide (e1.Kind=1))) (lat r1.l r1.at_)).bind fun e2=>
 (gd ((decide (r1.at_<(r1.l.length:Int)))&&(decide (e1.Kind=1))) (fB e2.Text)).bind fun r2=>
 some (((decide (r1.at_<(r1.l.length:Int)))&&(decide (e1.Kind=1)))&&r2)
def bG (r1:aa) (at1:Int) (e1:Int):Option (bC Unit):=
 some (.pan at1 e1)
def kG (s1:List UInt8):Option Bool:=
 if decide (s1=([115,105,122,101]:List UInt8))then
  if decide (s1=([115,105,122,101]:List UInt8))then
   some true
  else
   some false
 else
  if decide (s1=([119,104,101,114,101]:List UInt8))then
   if decide (s1=([119,104,101,114,101]:List UInt8))then
    some true
   else
    some false
  else
   if decide (s1=([105,110]:List UInt8))then
    if decide (s1=([105,110]:List UInt8))then
     some true
    else
     some false
   else
    if decide (s1=([100,101,102]:List UInt8))then
     if decide (s1=([100,101,102]:List UInt8))then
      some true
     else
      some false
    else
     if decide (s1=([111,117,116]:List UInt8))then
      if decide (s1=([111,117,116]:List UInt8))then
       some true
      else
       some false
     else
      if decide (s1=([115,117,109]:List UInt8))then
       if decide (s1=([115,117,109]:List UInt8))then
        some true
       else
        some false
      else
       if decide (s1=([112,114,111,100]:List UInt8))then
        if decide (s1=([112,114,111,100]:List UInt8))then
         some true
        else
         some false
       else
        if decide (s1=([109,105,110]:List UInt8))then
         if decide (s1=([109,105,110]:List UInt8))then
          some true
         else
          some false
        else
         if decide (s1=([109,97,120]:List UInt8))then
          if decide (s1=([109,97,120]:List UInt8))then
           some true
          else
           some false
         else
          if decide (s1=([115,99,97,110]:List UInt8))then
           if decide (s1=([115,99,97,110]:List UInt8))then
            some true
           else
            some false
          else
           if decide (s1=([111,118,101,114]:List UInt8))then
            if decide (s1=([111,118,101,114]:List UInt8))then
             some true
            else
             some false
           else
            if decide (s1=([105,102]:List UInt8))then
             if decide (s1=([105,102]:List UInt8))then
              some true
             else
              some false
            else
             if decide (s1=([99,97,115,116]:List UInt8))then
              if decide (s1=([99,97,115,116]:List UInt8))then
               some true
              else
               some false
             else
              if decide (s1=([102,114,97,99]:List UInt8))then
               if decide (s1=([102,114,97,99]:List UInt8))then
                some true
               else
                some false
              else
               if decide (s1=([105,110,116]:List UInt8))then
                if decide (s1=([105,110,116]:List UInt8))then
                 some true
                else
                 some false
               else
                if decide (s1=([102,105,120]:List UInt8))then
                 if decide (s1=([102,105,120]:List UInt8))then
                  some true
                 else
                  some false
                else
                 if decide (s1=([99,101,105,108]:List UInt8))then
                  if decide (s1=([99,101,105,108]:List UInt8))then
                   some true
                  else
                   some false
                 else
                  if decide (s1=([102,108,111,111,114]:List UInt8))then
                   if decide (s1=([102,108,111,111,114]:List UInt8))then
                    some true
                   else
                    some false
                  else
                   if decide (s1=([122,101,114,111]:List UInt8))then
                    if decide (s1=([122,101,114,111]:List UInt8))then
                     some true
                    else
                     some false
                   else
                    if decide (s1=([101,118,101,110]:List UInt8))then
                     if decide (s1=([101,118,101,110]:List UInt8))then
                      some true
                     else
                      some false
                    else
                     if decide (s1=([115,97,116]:List UInt8))then
                      if decide (s1=([115,97,116]:List UInt8))then
                       some true
                      else
                       some false
                     else
                      if decide (s1=([119,114,97,112]:List UInt8))then
                       some true
                      else
                       some false
def cR (s1:List UInt8):Nat→Int→Option Bool
 | 0,_=>none
 | fuel1+1,i1=>
  if decide (i1<(s1.length:Int))then
   (sat s1 i1).bind fun b3=>
   if(((decide (b3<97))||(decide (122<b3)))&&((decide (b3<48))||(decide (57<b3))))&&(!decide (b3=95))then
    some false
   else
    (cR s1 fuel1) (au (i1+1))
  else
   some true
def ii (s1:List UInt8):Option Bool:=
 (gd (!((decide ((s1.length:Int)<1))||(decide (16<(s1.length:Int))))) (kG s1)).bind fun r1=>
 (gd (!(((decide ((s1.length:Int)<1))||(decide (16<(s1.length:Int))))||r1)) (sat s1 0)).bind fun b1=>
 (gd (!((((decide ((s1.length:Int)<1))||(decide (16<(s1.length:Int))))||r1)||(decide (b1<97)))) (sat s1 0)).bind fun b2=>
 if((((decide ((s1.length:Int)<1))||(decide (16<(s1.length:Int))))||r1)||(decide (b1<97)))||(decide (122<b2))then
  some false
 else
  cR s1 fu 0
def nF (name1:List UInt8):Option ay:=
 (ii name1).bind fun r1=>
 if !r1 then
  some (⟨0,([]:List aw)⟩:ay)
 else
  some (⟨0,([(⟨name1,1⟩:aw)]:List aw)⟩:ay)
def dk (l1:ay):Nat→Int→Option Int
 | 0,_=>none
 | fuel1+1,i1=>
  if decide (i1<(l1.L.length:Int))then
   (lat l1.L i1).bind fun e1=>
   (ii e1.Name).bind fun r1=>
   (gd ((!((!r1)||(decide (e1.By=0))))&&(decide (0<i1))) (lat l1.L (au (i1 - 1)))).bind fun e2=>
   if((!r1)||(decide (e1.By=0)))||((decide (0<i1))&&(!Op.bytesLess e2.Name e1.Name))then
    some 1
   else
    (dk l1 fuel1) (au (i1+1))
  else
   some 0
def gm (l1:ay):Option Int:=
 dk l1 fu 0
def iK (n1:Int):Option Int:=
 if decide (n1<0)then
  some (ei (-(ei n1)))
 else
  some (ei n1)
def lw (a1:Int) (b1:Int):Option (Int×Int):=
 (some (ei ((bits .and .u64 a1 4294967295) * (bits .and .u64 b1 4294967295)))).bind fun low1=>
 (some (ei ((ei ((Int.fdiv a1 (2 ^ 32)) * (bits .and .u64 b1 4294967295)))+(Int.fdiv low1 (2 ^ 32))))).bind fun mid1=>
 (some (ei ((ei ((bits .and .u64 a1 4294967295) * (Int.fdiv b1 (2 ^ 32))))+(bits .and .u64 mid1 4294967295)))).bind fun cross1=>
 (some (ei ((ei ((ei ((Int.fdiv a1 (2 ^ 32)) * (Int.fdiv b1 (2 ^ 32))))+(Int.fdiv mid1 (2 ^ 32))))+(Int.fdiv cross1 (2 ^ 32))))).bind fun hi1=>
 some (hi1,ei (a1 * b1))
def lR (a1:Int) (b1:Int):Option (Int×Bool):=
 (iK a1).bind fun r1=>
 (iK b1).bind fun r2=>
 (lw r1 r2).bind fun r3=>
 (some ((decide (a1<0)) != (decide (b1<0)))).bind fun negative1=>
 if((!decide (r3.1=0))||(decide (9223372036854775808<r3.2)))||((decide (r3.2=9223372036854775808))&&(!negative1))then
  some (0,false)
 else
  if negative1 then
   some (au (ei (-r3.2)),true)
  else
   some (au r3.2,true)
def mg (fits1:Bool) (mz:ay):Option (ay×Int):=
 if !fits1 then
  some ((⟨0,([]:List aw)⟩:ay),3)
 else
  some (mz,0)
def fA (a1:ay) (by1:Int):Nat→Bool→Int→ay→Option (ay×Int)
 | 0,_,_,_=>none
 | fuel1+1,fits2,i1,out2=>
  if decide (i1<(a1.L.length:Int))then
   (lat a1.L i1).bind fun e1=>
   (lR e1.By by1).bind fun r3=>
   (cF out2.L ([(⟨e1.Name,r3.1⟩:aw)]:List aw)).bind fun zs1=>
   (fA a1 by1 fuel1) (fits2&&r3.2) (au (i1+1)) (⟨out2.K,zs1⟩:ay)
  else
   mg fits2 out2
def jG (a1:ay) (by1:Int):Option (ay×Int):=
 (gm a1).bind fun r1=>
 if !decide (r1=0)then
  some ((⟨0,([]:List aw)⟩:ay),1)
 else
  if decide (by1=0)then
   some ((⟨0,([]:List aw)⟩:ay),0)
  else
   (lR a1.K by1).bind fun r2=>
   fA a1 by1 fu r2.2 0 (⟨r2.1,([]:List aw)⟩:ay)
def gL (s1:List UInt8):Option Bool:=
 (gd ((!(decide (s1=([48]:List UInt8))))&&(!decide (s1=([]:List UInt8)))) (sat s1 0)).bind fun b1=>
 some ((decide (s1=([48]:List UInt8)))||((!decide (s1=([]:List UInt8)))&&(!decide (b1=48))))
def dG (s1:List UInt8):Nat→Int→Option Bool
 | 0,_=>none
 | fuel1+1,i1=>
  if decide (i1<(s1.length:Int))then
   (sat s1 i1).bind fun b2=>
   (gd (!(decide (b2<48))) (sat s1 i1)).bind fun b3=>
   if(decide (b2<48))||(decide (57<b3))then
    some false
   else
    (dG s1 fuel1) (au (i1+1))
  else
   gL s1
def kV (s1:List UInt8):Option Bool:=
 dG s1 fu 0
def eN (r1:aa):Option Bool:=
 (gd (decide (r1.at_<(r1.l.length:Int))) (lat r1.l r1.at_)).bind fun e1=>
 (gd ((decide (r1.at_<(r1.l.length:Int)))&&(decide (e1.Kind=2))) (lat r1.l r1.at_)).bind fun e2=>
 (gd ((decide (r1.at_<(r1.l.length:Int)))&&(decide (e1.Kind=2))) (kV e2.Text)).bind fun r2=>
 some (((decide (r1.at_<(r1.l.length:Int)))&&(decide (e1.Kind=2)))&&r2)
def im (negative1:Bool) (n1:Int):Option (Int×Bool):=
 if negative1 then
  some (au (-(au n1)),true)
 else
  some (au n1,true)
def dt (s1:List UInt8) (limit1:Int) (negative1:Bool):Nat→Int→Int→Option (Int×Bool)
 | 0,_,_=>none
 | fuel1+1,n2,i1=>
  if decide (i1<(s1.length:Int))then
   (sat s1 i1).bind fun b1=>
   if decide (ei (Int.tdiv (ei (limit1 - (ei (H5 (b1 - 48))))) 10)<n2)then
    some (0,false)
   else
    (some (ei ((ei (10 * n2))+(ei (H5 (b1 - 48)))))).bind fun n3=>
    (dt s1 limit1 negative1 fuel1) n3 (au (i1+1))
  else
   im negative1 n2
def io (s1:List UInt8) (negative1:Bool) (limit1:Int):Option (Int×Bool):=
 dt s1 limit1 negative1 fu 0 0
def iJ (s1:List UInt8) (negative1:Bool):Option (Int×Bool):=
 if negative1 then
  io s1 negative1 9223372036854775808
 else
  io s1 negative1 9223372036854775807
def qn (k1:Int):Option ay:=
 some (⟨k1,([]:List aw)⟩:ay)
def mK (a1:Int) (b1:Int):Option (Int×Bool):=
 some (au (a1+b1),(decide (a1<au (a1+b1)))==(decide (0<b1)))
def ef (name1:List UInt8) (x1:Int) (y1:Int) (a1:Bool) (a2:ay):Option (Unit×Bool×ay):=
 (mK x1 y1).bind fun r1=>
 if !decide (r1.1=0)then
  (cF a2.L ([(⟨name1,r1.1⟩:aw)]:List aw)).bind fun zs1=>
  some ((),a1&&r1.2,(⟨a2.K,zs1⟩:ay))
 else
  some ((),a1&&r1.2,a2)
def cv {σ:Type} (each1:((List UInt8)→Int→Int→σ→Option (Unit×σ))):Nat→(List aw)→(List aw)→σ→Option (Unit×σ)
 | 0,_,_,_=>none
 | fuel1+1,a4,b2,s2=>
  if(decide (0<(a4.length:Int)))||(decide (0<(b2.length:Int)))then
   (gd ((!(decide ((b2.length:Int)=0)))&&(decide (0<(a4.length:Int)))) (lat a4 0)).bind fun e1=>
   (gd ((!(decide ((b2.length:Int)=0)))&&(decide (0<(a4.length:Int)))) (lat b2 0)).bind fun e2=>
   if(decide ((b2.length:Int)=0))||((decide (0<(a4.length:Int)))&&(Op.bytesLess e1.Name e2.Name))then
    (lat a4 0).bind fun e3=>
    (lat a4 0).bind fun e4=>
    (each1 e3.Name e4.By 0 s2).bind fun⟨r1,s3⟩=>
    (gN a4 1).bind fun zs1=>
    (cv each1 fuel1) zs1 b2 s3
   else
    (gd (!(decide ((a4.length:Int)=0))) (lat b2 0)).bind fun e5=>
    (gd (!(decide ((a4.length:Int)=0))) (lat a4 0)).bind fun e6=>
    if(decide ((a4.length:Int)=0))||(Op.bytesLess e5.Name e6.Name)then
     (lat b2 0).bind fun e7=>
     (lat b2 0).bind fun e8=>
     (each1 e7.Name 0 e8.By s2).bind fun⟨r2,s4⟩=>
     (gN b2 1).bind fun zs2=>
     (cv each1 fuel1) a4 zs2 s4
    else
     (lat a4 0).bind fun e9=>
     (lat a4 0).bind fun e10=>
     (lat b2 0).bind fun e11=>
     (each1 e9.Name e10.By e11.By s2).bind fun⟨r3,s5⟩=>
     (gN a4 1).bind fun zs3=>
     (gN b2 1).bind fun zs4=>
     (cv each1 fuel1) zs3 zs4 s5
  else
   some ((),s2)
def mU {σ:Type} (a1:List aw) (b1:List aw) (each1:((List UInt8)→Int→Int→σ→Option (Unit×σ))) (s1:σ):Option (Unit×σ):=
 cv each1 fu a1 b1 s1
def nG (a1:ay) (b1:ay):Option (ay×Int):=
 (gm a1).bind fun r1=>
 (gd (!(!decide (r1=0))) (gm b1)).bind fun r2=>
 if(!decide (r1=0))||(!decide (r2=0))then
  some ((⟨0,([]:List aw)⟩:ay),1)
 else
  (mK a1.K b1.K).bind fun r3=>
  (mU a1.L b1.L (fun x_1 x_2 x_3 s=>ef x_1 x_2 x_3 (s.1) (s.2)) (r3.2,(⟨r3.1,([]:List aw)⟩:ay))).bind fun⟨r4,s1⟩=>
  if !(s1.1)then
   some ((⟨0,([]:List aw)⟩:ay),3)
  else
   some ((s1.2),0)
def aq (r1:aa) (s1:List UInt8):Option (Bool×aa):=
 (bB r1 3 s1).bind fun r2=>
 if r2 then
  some (true,(⟨r1.l,au (r1.at_+1),r1.deep⟩:aa))
 else
  some (false,r1)
def bL (r1:aa):Option (bC (Unit×aa)):=
 if decide ((r1.l.length:Int)≤r1.at_)then
  pb (bG r1 (r1.l.length:Int) 6) fun r2=>
  pb (bG r1 r1.at_ 5) fun r3=>
  some (.ret ((),r1))
 else
  pb (bG r1 r1.at_ 5) fun r4=>
  some (.ret ((),r1))
def eB (r2:aa):Option (bC (List UInt8×aa)):=
 (lat r2.l (au ((au (r2.at_+1)) - 1))).bind fun e1=>
 some (.ret (e1.Text,(⟨r2.l,au (r2.at_+1),r2.deep⟩:aa)))
def bU (r1:aa):Option (bC (List UInt8×aa)):=
 (cA r1).bind fun r3=>
 if !r3 then
  pb (bL r1) fun⟨r4,s1⟩=>
  eB s1
 else
  eB r1
def dW (r2:aa):Option (bC (List UInt8×aa)):=
 (lat r2.l (au ((au (r2.at_+1)) - 1))).bind fun e1=>
 some (.ret (e1.Text,(⟨r2.l,au (r2.at_+1),r2.deep⟩:aa)))
def bE (r1:aa):Option (bC (List UInt8×aa)):=
 (eN r1).bind fun r3=>
 if !r3 then
  pb (bL r1) fun⟨r4,s1⟩=>
  dW s1
 else
  dW r1
def eA (name1:List UInt8) (r8:Int×Bool) (r7:aa):Option (bC (ay×aa)):=
 if decide (name1=([]:List UInt8))then
  (qn r8.1).bind fun r9=>
  some (.ret (r9,r7))
 else
  (nF name1).bind fun r10=>
  (jG r10 r8.1).bind fun r11=>
  some (.ret (r11.1,r7))
def dn (r6:List UInt8) (negative1:Bool) (r1:aa) (name1:List UInt8) (r7:aa):Option (bC (ay×aa)):=
 (iJ r6 negative1).bind fun r8=>
 if !r8.2 then
  pb (bG r7 r1.at_ 3) fun r12=>
  eA name1 r8 r7
 else
  eA name1 r8 r7
def fy (r1:aa) (negative1:Bool):Option (bC (ay×aa)):=
 (cA r1).bind fun r2=>
 if r2 then
  pb (bU r1) fun⟨r3,s1⟩=>
  (nF r3).bind fun r4=>
  if negative1 then
   (jG r4 (-1)).bind fun r5=>
   some (.ret (r5.1,s1))
  else
   some (.ret (r4,s1))
 else
  pb (bE r1) fun⟨r6,s2⟩=>
  (aq s2 ([42]:List UInt8)).bind fun⟨r13,s3⟩=>
  if r13 then
   pb (bU s3) fun⟨r14,s4⟩=>
   dn r6 negative1 r1 r14 s4
  else
   dn r6 negative1 r1 ([]:List UInt8) s3
def dp (s2:aa) (self1:Bool→aa→ay→Option (bC (ay×aa))) (r5:ay×Int):Option (bC (ay×aa)):=
 (aq s2 ([43]:List UInt8)).bind fun⟨r6,s3⟩=>
 if r6 then
  self1 false s3 r5.1
 else
  (aq s3 ([45]:List UInt8)).bind fun⟨r7,s4⟩=>
  if r7 then
   self1 true s4 r5.1
  else
   some (.ret (r5.1,s4))
def aY:Nat→Bool→aa→ay→Option (bC (ay×aa))
 | 0,_,_,_=>none
 | fuel1+1,negative1,r3,sum1=>
  pb (fy r3 negative1) fun⟨r4,s2⟩=>
  (nG sum1 r4).bind fun r5=>
  if !decide (r5.2=0)then
   pb (bG s2 r3.at_ 3) fun r8=>
   dp s2 (aY fuel1) r5
  else
   dp s2 (aY fuel1) r5
def bV (r1:aa):Option (bC (ay×aa)):=
 (aq r1 ([45]:List UInt8)).bind fun⟨r2,s1⟩=>
 aY fu r2 s1 (⟨0,([]:List aw)⟩:ay)
def mf (a1:aa) (a3:ay):Option (bC (Unit×aa×ay)):=
 pb (bV a1) fun⟨r1,s1⟩=>
 some (.ret ((),s1,r1))
def pF (l1:List aU) (at1:Int):Option (ay×Int×Int):=
 if(decide (at1<0))||(decide ((l1.length:Int)<at1))then
  some ((⟨0,([]:List aw)⟩:ay),0,1)
 else
  Bs (mf (⟨l1,at1,0⟩:aa) (⟨0,([]:List aw)⟩:ay)) (fun⟨r1,s1,s2⟩=>
   if !decide (0=0)then
    some ((⟨0,([]:List aw)⟩:ay),0,0)
   else
    some (s2,s1.at_,0)) fun pa1 pn1=>
   some ((⟨0,([]:List aw)⟩:ay),pa1,pn1)
def ia (r1:Int):Option Bool:=
 if decide (r1=9)then
  if decide (r1=9)then
   some true
  else
   some false
 else
  if decide (r1=10)then
   if decide (r1=10)then
    some true
   else
    some false
  else
   if decide (r1=13)then
    if decide (r1=13)then
     some true
    else
     some false
   else
    if decide (r1=32)then
     some true
    else
     some false
def mh (r1:Int):Option Bool:=
 some (!decide (r1=10))
def dz (s1:List UInt8):Nat→Int→Option Int
 | 0,_=>none
 | fuel1+1,at1=>
  if decide (at1<(s1.length:Int))then
   (sat s1 at1).bind fun b1=>
   (ia (oG b1)).bind fun r1=>
   if r1 then
    (dz s1 fuel1) (au (at1+1))
   else
    if decide (oG b1=35)then
     (gN s1 at1).bind fun s2=>
     (gi s2 mh).bind fun r2=>
     (dz s1 fuel1) (au (at1+r2))
    else
     some at1
  else
   some at1
def gX (s1:List UInt8):Option Int:=
 dz s1 fu 0
def iq (r1:Int):Option Bool:=
 if decide (r1=40)then
  if decide (r1=40)then
   some true
  else
   some false
 else
  if decide (r1=41)then
   if decide (r1=41)then
    some true
   else
    some false
  else
   if decide (r1=91)then
    if decide (r1=91)then
     some true
    else
     some false
   else
    if decide (r1=93)then
     if decide (r1=93)then
      some true
     else
      some false
    else
     if decide (r1=123)then
      if decide (r1=123)then
       some true
      else
       some false
     else
      if decide (r1=125)then
       if decide (r1=125)then
        some true
       else
        some false
      else
       if decide (r1=44)then
        if decide (r1=44)then
         some true
        else
         some false
       else
        if decide (r1=59)then
         if decide (r1=59)then
          some true
         else
          some false
        else
         if decide (r1=58)then
          if decide (r1=58)then
           some true
          else
           some false
         else
          if decide (r1=43)then
           if decide (r1=43)then
            some true
           else
            some false
          else
           if decide (r1=45)then
            if decide (r1=45)then
             some true
            else
             some false
           else
            if decide (r1=42)then
             if decide (r1=42)then
              some true
             else
              some false
            else
             if decide (r1=47)then
              if decide (r1=47)then
               some true
              else
               some false
             else
              if decide (r1=60)then
               if decide (r1=60)then
                some true
               else
                some false
              else
               if decide (r1=61)then
                if decide (r1=61)then
                 some true
                else
                 some false
               else
                if decide (r1=38)then
                 if decide (r1=38)then
                  some true
                 else
                  some false
                else
                 if decide (r1=124)then
                  if decide (r1=124)then
                   some true
                  else
                   some false
                 else
                  if decide (r1=33)then
                   if decide (r1=33)then
                    some true
                   else
                    some false
                  else
                   if decide (r1=46)then
                    if decide (r1=46)then
                     some true
                    else
                     some false
                   else
                    if decide (r1=64)then
                     some true
                    else
                     some false
def iY (s1:List UInt8):Option (Int×Int):=
 (sat s1 0).bind fun b1=>
 (eO (oG b1)).bind fun r1=>
 if r1 then
  (gi s1 dA).bind fun r2=>
  some (1,r2)
 else
  (eP (oG b1)).bind fun r3=>
  if r3 then
   (gi s1 eP).bind fun r4=>
   some (2,r4)
  else
   (gd (((decide (oG b1=60))||(decide (oG b1=61)))&&(decide (1<(s1.length:Int)))) (sat s1 1)).bind fun b2=>
   if(((decide (oG b1=60))||(decide (oG b1=61)))&&(decide (1<(s1.length:Int))))&&(decide (b2=61))then
    some (3,2)
   else
    (iq (oG b1)).bind fun r5=>
    if r5 then
     some (3,1)
    else
     some (0,0)
def co (s1:List UInt8):Nat→(List aU)→Int→Option (List aU×Int×Int)
 | 0,_,_=>none
 | fuel1+1,mz,at1=>
  if decide (at1<(s1.length:Int))then
   (gN s1 at1).bind fun s2=>
   (iY s2).bind fun r2=>
   if decide (r2.1=0)then
    some (([]:List aU),at1,5)
   else
    if(decide (r2.1=1))&&(decide (16<r2.2))then
     some (([]:List aU),at1,2)
    else
     (rE s1 at1 (au (at1+r2.2))).bind fun s3=>
     (cF mz ([(⟨r2.1,at1,s3⟩:aU)]:List aU)).bind fun zs1=>
     (gN s1 (au (at1+r2.2))).bind fun s4=>
     (gX s4).bind fun r3=>
     (some (au ((au (at1+r2.2))+r3))).bind fun at2=>
     (co s1 fuel1) zs1 at2
  else
   some (mz,0,0)
def fc (s1:List UInt8):Option (List aU×Int×Int):=
 if decide (65536<(s1.length:Int))then
  some (([]:List aU),0,2)
 else
  (gX s1).bind fun r1=>
  co s1 fu ([]:List aU) r1
def lf (t1:aM):Option Bool:=
 some ((decide (t1.Kind=t1.Kind))&&(decide (t1.Bits=0))&&(decide (t1.Frac=0))&&(decide (t1.Round=0))&&(decide (t1.Over=0)))
def fe (t1:aM):Option Int:=
 (some (((decide (1≤t1.Round))&&(decide (t1.Round≤4)))&&((decide (t1.Over=1))||(decide (t1.Over=2))))).bind fun modes1=>
 if(((((!decide (t1.Kind=2))||(decide (t1.Bits<2)))||(decide (31<t1.Bits)))||(decide (t1.Frac<0)))||(decide (30<t1.Frac)))||(!modes1)then
  some 10
 else
  some 0
def eZ (t1:aM) (i1:Bool):Option Int:=
 if i1 then
  (lf t1).bind fun r1=>
  if r1 then
   some 0
  else
   some 10
 else
  if decide (t1.Kind=2)then
   (fe t1).bind fun r2=>
   if decide (r2=0)then
    some 0
   else
    some 10
  else
   some 10
def dl (t1:aM):Option Int:=
 if decide (t1.Kind=1)then
  eZ t1 (decide (t1.Kind=1))
 else
  eZ t1 (decide (t1.Kind=3))
def fC (s1:List UInt8) (sep1:List UInt8):Option (List UInt8×List UInt8×Bool):=
 (eU s1 sep1).bind fun r1=>
 if decide (0≤r1)then
  (qo s1 r1).bind fun s2=>
  (gN s1 (au (r1+(sep1.length:Int)))).bind fun s3=>
  some (s2,s3,true)
 else
  some (s1,([]:List UInt8),false)
def li (s1:List UInt8) (sep1:List UInt8):Option (List UInt8×List UInt8×Bool):=
 (fC s1 sep1).bind fun r1=>
 some (r1.1,r1.2.1,r1.2.2)
def dX (s1:List UInt8) (prefix1:List UInt8):Option Bool:=
 (gd (decide ((prefix1.length:Int)≤(s1.length:Int))) (qo s1 (prefix1.length:Int))).bind fun s2=>
 some ((decide ((prefix1.length:Int)≤(s1.length:Int)))&&(decide (s2=prefix1)))
def dY (s1:List UInt8) (prefix1:List UInt8):Option (List UInt8×Bool):=
 (dX s1 prefix1).bind fun r1=>
 if !r1 then
  some (s1,false)
 else
  (gN s1 (prefix1.length:Int)).bind fun s2=>
  some (s2,true)
def gK (s1:List UInt8) (prefix1:List UInt8):Option (List UInt8×Bool):=
 (dY s1 prefix1).bind fun r1=>
 some (r1.1,r1.2)
def i6 (s1:List UInt8):Option Bool:=
 (gd ((!(decide (s1=([48]:List UInt8))))&&(!decide (s1=([]:List UInt8)))) (sat s1 0)).bind fun b1=>
 some ((decide (s1=([48]:List UInt8)))||((!decide (s1=([]:List UInt8)))&&(!decide (b1=48))))
def gz (s1:List UInt8):Nat→Int→Option Bool
 | 0,_=>none
 | fuel1+1,i1=>
  if decide (i1<(s1.length:Int))then
   (sat s1 i1).bind fun b2=>
   (gd (!(decide (b2<48))) (sat s1 i1)).bind fun b3=>
   if(decide (b2<48))||(decide (57<b3))then
    some false
   else
    (gz s1 fuel1) (au (i1+1))
  else
   i6 s1
def jw (s1:List UInt8):Option Bool:=
 gz s1 fu 0
def jx (s1:List UInt8):Option (Int×Bool):=
 if decide (10<(s1.length:Int))then
  some (0,false)
 else
  (jK s1 10 64).bind fun r1=>
  some (r1.1,decide (r1.1≤2147483647))
def kH (n1:Int):Option Bool:=
 some ((decide ((-2147483647)≤n1))&&(decide (n1≤2147483647)))
def jv (n1:Int):Option Int:=
 if decide (n1<0)then
  some (ei (-(ei n1)))
 else
  some (ei n1)
def j4:Nat→Int→Int→Option Int
 | 0,_,_=>none
 | fuel1+1,a2,b2=>
  if !decide (b2=0)then
   if b2≠0 then
    (j4 fuel1) b2 (Int.tmod a2 b2)
   else none
  else
   some a2
def pG (a1:Int) (b1:Int):Option Int:=
 j4 fu a1 b1
def kX (v1:bj):Option Bool:=
 (gd ((decide (1≤v1.D))&&(decide (v1.D≤2147483647))) (kH v1.N)).bind fun r1=>
 (gd (((decide (1≤v1.D))&&(decide (v1.D≤2147483647)))&&r1) (jv v1.N)).bind fun r2=>
 (gd (((decide (1≤v1.D))&&(decide (v1.D≤2147483647)))&&r1) (pG r2 (ei v1.D))).bind fun r3=>
 some ((((decide (1≤v1.D))&&(decide (v1.D≤2147483647)))&&r1)&&(decide (r3=1)))
def jX (r5:Int×Bool) (n1:Int):Option (bj×Int):=
 (kX (⟨n1,r5.1⟩:bj)).bind fun r6=>
 if !r6 then
  some ((⟨0,0⟩:bj),5)
 else
  some ((⟨n1,r5.1⟩:bj),0)
def iL (r2:List UInt8×Bool) (bottom1:List UInt8):Option (bj×Int):=
 (jx r2.1).bind fun r4=>
 (jx bottom1).bind fun r5=>
 if(!r4.2)||(!r5.2)then
  some ((⟨0,0⟩:bj),3)
 else
  if r2.2 then
   jX r5 (au (-r4.1))
  else
   jX r5 r4.1
def mi (s1:List UInt8):Option (bj×Int):=
 (li s1 ([47]:List UInt8)).bind fun r1=>
 (gK r1.1 ([45]:List UInt8)).bind fun r2=>
 (jw r2.1).bind fun r3=>
 if(!r3)||(r2.2&&(decide (r2.1=([48]:List UInt8))))then
  some ((⟨0,0⟩:bj),5)
 else
  if !r1.2.2 then
   iL r2 ([49]:List UInt8)
  else
   (jw r1.2.1).bind fun r7=>
   if((!r7)||(decide (r1.2.1=([48]:List UInt8))))||(decide (r1.2.1=([49]:List UInt8)))then
    some ((⟨0,0⟩:bj),5)
   else
    iL r2 r1.2.1
def j3 (bits1:Int):Option Bool:=
 some ((decide (2≤bits1))&&(decide (bits1≤31)))
def kv (bits1:Int):Option Int:=
 (j3 bits1).bind fun r1=>
 if !r1 then
  some 0
 else
  if 0≤(ei (au (bits1 - 1)))then
   some (au (-(au (1 * 2 ^ (min (Int.toNat (ei (au (bits1 - 1)))) 64)))))
  else none
def kw (bits1:Int):Option Int:=
 (j3 bits1).bind fun r1=>
 if !r1 then
  some 0
 else
  if 0≤(ei (au (bits1 - 1)))then
   some (au ((au (1 * 2 ^ (min (Int.toNat (ei (au (bits1 - 1)))) 64))) - 1))
  else none
def j5 (t1:aM) (v1:bj):Option Bool:=
 (fe t1).bind fun r1=>
 (gd ((decide (r1=0))&&(decide (v1.D=1))) (kv t1.Bits)).bind fun r2=>
 (gd (((decide (r1=0))&&(decide (v1.D=1)))&&(decide (r2≤v1.N))) (kw t1.Bits)).bind fun r3=>
 some ((((decide (r1=0))&&(decide (v1.D=1)))&&(decide (r2≤v1.N)))&&(decide (v1.N≤r3)))
def lh (t1:aM) (s1:List UInt8):Option (bj×Int):=
 (dl t1).bind fun r1=>
 if !decide (r1=0)then
  some ((⟨0,0⟩:bj),10)
 else
  (mi s1).bind fun r2=>
  if !decide (r2.2=0)then
   some ((⟨0,0⟩:bj),r2.2)
  else
   if decide (t1.Kind=3)then
    if !decide (r2.1.D=1)then
     some ((⟨0,0⟩:bj),5)
    else
     some (r2.1,0)
   else
    if decide (t1.Kind=2)then
     if 0≤t1.Frac then
      (some (au (1 * 2 ^ (min (Int.toNat t1.Frac) 64)))).bind fun one1=>
      if r2.1.D≠0 then
       if !decide (Int.tmod one1 r2.1.D=0)then
        some ((⟨0,0⟩:bj),5)
       else
        (j5 t1 (⟨au (r2.1.N * (au (Int.tdiv one1 r2.1.D))),1⟩:bj)).bind fun r3=>
        if !r3 then
         some ((⟨0,0⟩:bj),3)
        else
         some ((⟨au (r2.1.N * (au (Int.tdiv one1 r2.1.D))),1⟩:bj),0)
      else none
     else none
    else
     some (r2.1,0)
def fK (e1:ac) (rec_:(ac→Int→Option Int)) (limit1:Int):Nat→Int→Int→Option Int
 | 0,_,_=>none
 | fuel1+1,d1,i1=>
  if decide (i1<(e1.Args.length:Int))then
   (lat e1.Args i1).bind fun e2=>
   (rec_ e2 (au (limit1 - 1))).bind fun r1=>
   (fK e1 rec_ limit1 fuel1) (max d1 (au (1+r1))) (au (i1+1))
  else
   some d1
def kI (rec_:(ac→Int→Option Int)) (e1:ac) (limit1:Int):Option Int:=
 if decide (limit1≤1)then
  some limit1
 else
  fK e1 rec_ limit1 fu 1 0
def jB:Nat→(ac→Int→Option Int)
 | 0=>fun _ _=>none
 | n+1=>kI (jB n)
def pH (e1:ac) (limit1:Int):Option Int:=jB fu e1 limit1
def nB (e1:ac):Option Int:=
 (pH e1 41).bind fun r1=>
 some r1
def kJ (e1:ac):Option ac:=
 some e1
def bM {σ:Type} (e1:ac) (rec_:(ac→(ac→σ→Option (Bool×σ))→σ→Option (Bool×σ))) (yield1:(ac→σ→Option (Bool×σ))):Nat→Int→σ→Option (Bool×σ)
 | 0,_,_=>none
 | fuel1+1,i1,s3=>
  if decide (i1<(e1.Args.length:Int))then
   (lat e1.Args i1).bind fun e2=>
   (rec_ e2 yield1 s3).bind fun⟨r2,s4⟩=>
   if !r2 then
    some (false,s4)
   else
    (bM e1 rec_ yield1 fuel1) (au (i1+1)) s4
  else
   some (true,s3)
def eV {σ:Type} (rec_:(ac→(ac→σ→Option (Bool×σ))→σ→Option (Bool×σ))) (e1:ac) (yield1:(ac→σ→Option (Bool×σ))) (s1:σ):Option (Bool×σ):=
 (yield1 e1 s1).bind fun⟨r1,s2⟩=>
 if !r1 then
  some (false,s2)
 else
  bM e1 rec_ yield1 fu 0 s2
def cW {σ:Type} :Nat→(ac→(ac→σ→Option (Bool×σ))→σ→Option (Bool×σ))
 | 0=>fun _ _ _=>none
 | n+1=>eV (cW n)
def ly {σ:Type} (e1:ac) (yield1:(ac→σ→Option (Bool×σ))) (s1:σ):Option (Bool×σ):=cW fu e1 yield1 s1
def gG {σ:Type} (yield1:(ac→σ→Option (Bool×σ))) (a1:ac) (s1:σ):Option (Unit×σ):=
 (ly a1 yield1 s1).bind fun⟨r1,s2⟩=>
 some ((),s2)
def cc (y1:ac) (n1:Int):Option (Bool×(Nat×Int)):=
 if decide (2000<au (n1+1))then
  some (false,(1,(au (n1+1))))
 else
  some (true,(0,(au (n1+1))))
def kK (e1:ac):Option Int:=
 (kJ e1).bind fun r1=>
 (gG (fun k_0 q=>if q.1=0 then cc k_0 q.2 else none) r1 (0,0)).bind fun⟨u1,o1,n2⟩=>
 if o1=0 then
  some n2
 else
  if o1=1 then
   some n2
  else
   none
def j6 (l1:ay):Option Bool:=
 some ((decide (l1.K=0))&&(decide ((l1.L.length:Int)=0)))
def aE (s1:List av) (f1:(av→Option Bool)):Nat→Int→Option Int
 | 0,_=>none
 | fuel1+1,i1=>
  if decide (i1<(s1.length:Int))then
   (lat s1 i1).bind fun e1=>
   (f1 e1).bind fun r1=>
   if r1 then
    some i1
   else
    (aE s1 f1 fuel1) (au (i1+1))
  else
   some (-1)
def cy (s1:List av) (f1:(av→Option Bool)):Option Int:=
 aE s1 f1 fu 0
def aR (s1:List av) (f1:(av→Option Bool)):Option Bool:=
 (cy s1 f1).bind fun r1=>
 some (decide (0≤r1))
def kh (x1:av):Option Bool:=
 if decide (x1.From=([]:List UInt8))then
  some (decide ((x1.At.length:Int)=0))
 else
  (j6 x1.Lin).bind fun r1=>
  some r1
def iM (x1:av):Option Bool:=
 (kh x1).bind fun r1=>
 some (!r1)
def lz (e1:ac):Option Bool:=
 if(decide (e1.Op<1))||(decide (18<e1.Op))then
  some false
 else
  if(!(decide (e1.Op=1)))&&(!((decide (e1.Val.N=0))&&(decide (e1.Val.D=0))))then
   some false
  else
   if(!((decide (e1.Op=1))||(decide (e1.Op=12))))&&(!((decide (e1.Type_.Kind=0))&&(decide (e1.Type_.Bits=0))&&(decide (e1.Type_.Frac=0))&&(decide (e1.Type_.Round=0))&&(decide (e1.Type_.Over=0))))then
    some false
   else
    (gd (!(decide (e1.Op=2))) (j6 e1.Lin)).bind fun r1=>
    if(!(decide (e1.Op=2)))&&(!r1)then
     some false
    else
     if(!(decide (e1.Op=3)))&&((!decide (e1.Name=([]:List UInt8)))||(decide (0<(e1.Idx.length:Int))))then
      some false
     else
      (aR e1.Idx iM).bind fun r2=>
      some (!r2)
def jz (x1:av):Option Bool:=
 (gd (!decide (x1.From=([]:List UInt8))) (fB x1.From)).bind fun r1=>
 some ((!decide (x1.From=([]:List UInt8)))&&(!r1))
def ml (e1:ac):Option Bool:=
 (gd (decide (e1.Op=3)) (fB e1.Name)).bind fun r1=>
 if(decide (e1.Op=3))&&(!r1)then
  some false
 else
  (aR e1.Idx jz).bind fun r2=>
  some (!r2)
def fX (op1:Int) (i2:Bool):Option Int:=
 if i2 then
  some 1
 else
  if decide (op1=11)then
   some 3
  else
   some 2
def fY (op1:Int) (i1:Bool):Option Int:=
 if i1 then
  some 0
 else
  if decide (op1=8)then
   fX op1 (decide (op1=8))
  else
   if decide (op1=12)then
    fX op1 (decide (op1=12))
   else
    fX op1 (decide (op1=18))
def jY (op1:Int):Option Int:=
 if decide (op1=1)then
  fY op1 (decide (op1=1))
 else
  if decide (op1=2)then
   fY op1 (decide (op1=2))
  else
   fY op1 (decide (op1=3))
def lB (x1:av):Option Bool:=
 some (decide (6<(x1.At.length:Int)))
def m4 (e1:ac):Option Bool:=
 (jY e1.Op).bind fun r1=>
 if(!decide ((e1.Args.length:Int)=r1))||(decide (6<(e1.Idx.length:Int)))then
  some false
 else
  (aR e1.Idx lB).bind fun r2=>
  some (!r2)
def jM (e1:ac):Option Bool:=
 some ((decide (13≤e1.Op))&&(decide (e1.Op≤18)))
def eQ (op1:Int) (i1:Int):Option Bool:=
 if decide (op1=16)then
  if decide (op1=16)then
   some true
  else
   some ((decide (op1=11))&&(decide (i1=0)))
 else
  if decide (op1=17)then
   if decide (op1=17)then
    some true
   else
    some ((decide (op1=11))&&(decide (i1=0)))
  else
   if decide (op1=18)then
    some true
   else
    some ((decide (op1=11))&&(decide (i1=0)))
def eW (e1:ac):Nat→Int→Option Bool
 | 0,_=>none
 | fuel1+1,i1=>
  if decide (i1<(e1.Args.length:Int))then
   (lat e1.Args i1).bind fun e2=>
   (jM e2).bind fun r2=>
   (eQ e1.Op i1).bind fun r3=>
   if r2 != r3 then
    some false
   else
    (eW e1 fuel1) (au (i1+1))
  else
   some true
def mj (e1:ac):Option Bool:=
 (gd ((decide (e1.Op=1))||(decide (e1.Op=12))) (dl e1.Type_)).bind fun r1=>
 if((decide (e1.Op=1))||(decide (e1.Op=12)))&&(!decide (r1=0))then
  some false
 else
  eW e1 fu 0
def mQ (n1:Int):Option Bool:=
 some ((decide ((-2147483647)≤n1))&&(decide (n1≤2147483647)))
def lg (t1:aM) (v1:bj):Option Bool:=
 (dl t1).bind fun r1=>
 if !decide (r1=0)then
  some false
 else
  if decide (t1.Kind=2)then
   (j5 t1 v1).bind fun r2=>
   some r2
  else
   if decide (t1.Kind=3)then
    (gd (decide (v1.D=1)) (mQ v1.N)).bind fun r3=>
    some ((decide (v1.D=1))&&r3)
   else
    (kX v1).bind fun r4=>
    some r4
def mm (e1:ac):Option ac:=
 some e1
def ji {σ:Type} (self1:Int→σ→Option (Unit×σ)) (i1:Int) (s4:σ):Option (Unit×σ):=
 self1 (au (i1+1)) s4
def cT {σ:Type} (e1:av) (yield1:(ay→σ→Option (Bool×σ))) (self1:Int→σ→Option (Unit×σ)) (i1:Int):Nat→Int→σ→Option (Unit×σ)
 | 0,_,_=>none
 | fuel2+1,i2,s6=>
  if decide (i2<(e1.At.length:Int))then
   (lat e1.At i2).bind fun e2=>
   (yield1 e2 s6).bind fun⟨r3,s7⟩=>
   if !r3 then
    some ((),s7)
   else
    (cT e1 yield1 self1 i1 fuel2) (au (i2+1)) s7
  else
   ji self1 i1 s6
def bl {σ:Type} (a1:ac) (yield1:(ay→σ→Option (Bool×σ))):Nat→Int→σ→Option (Unit×σ)
 | 0,_,_=>none
 | fuel1+1,i1,s3=>
  if decide (i1<(a1.Idx.length:Int))then
   (lat a1.Idx i1).bind fun e1=>
   (yield1 e1.Lin s3).bind fun⟨r2,s5⟩=>
   if !r2 then
    some ((),s5)
   else
    cT e1 yield1 (bl a1 yield1 fuel1) i1 fu 0 s5
  else
   some ((),s3)
def jA {σ:Type} (yield1:(ay→σ→Option (Bool×σ))) (a1:ac) (s1:σ):Option (Unit×σ):=
 (yield1 a1.Lin s1).bind fun⟨r1,s2⟩=>
 if !r1 then
  some ((),s2)
 else
  bl a1 yield1 fu 0 s2
def dH (y1:ay) (v1:Int):Option (Bool×(Nat×Int)):=
 (gm y1).bind fun r7=>
 if !decide (r7=0)then
  some (false,(1,1))
 else
  some (true,(0,v1))
def jy (e1:ac):Option Int:=
 (lz e1).bind fun r1=>
 if !r1 then
  some 5
 else
  (ml e1).bind fun r2=>
  if !r2 then
   some 7
  else
   (m4 e1).bind fun r3=>
   if !r3 then
    some 11
   else
    (mj e1).bind fun r4=>
    if !r4 then
     some 10
    else
     (gd (decide (e1.Op=1)) (lg e1.Type_ e1.Val)).bind fun r5=>
     if(decide (e1.Op=1))&&(!r5)then
      some 1
     else
      (mm e1).bind fun r6=>
      (jA (fun k_0 q=>if q.1=0 then dH k_0 q.2 else none) r6 (0,0)).bind fun⟨u1,o1,v2⟩=>
      if o1=0 then
       some 0
      else
       if o1=1 then
        some v2
       else
        none
def du (y1:ac) (v1:Int):Option (Bool×(Nat×Int)):=
 (jy y1).bind fun r4=>
 if !decide (r4=0)then
  some (false,(1,r4))
 else
  some (true,(0,v1))
def iN (e1:ac):Option Int:=
 (nB e1).bind fun r1=>
 if decide (40<r1)then
  some 13
 else
  (kK e1).bind fun r2=>
  if decide (2000<r2)then
   some 2
  else
   (kJ e1).bind fun r3=>
   (gG (fun k_0 q=>if q.1=0 then du k_0 q.2 else none) r3 (0,0)).bind fun⟨u1,o1,v2⟩=>
   if o1=0 then
    some 0
   else
    if o1=1 then
     some v2
    else
     none
def ec (r1:aa):Option (bC (Unit×aa)):=
 some (.ret ((),(⟨r1.l,au (r1.at_+1),au (r1.deep+1)⟩:aa)))
def bs (r1:aa):Option (bC (Unit×aa)):=
 if decide (159<r1.deep)then
  pb (bG r1 r1.at_ 13) fun r2=>
  ec r1
 else
  ec r1
def cz (r1:aa):Option (bC (Unit×aa)):=
 (bB r1 3 ([40]:List UInt8)).bind fun r2=>
 if !r2 then
  pb (bL r1) fun⟨r3,s1⟩=>
  pb (bs s1) fun⟨r4,s2⟩=>
  some (.ret ((),s2))
 else
  pb (bs r1) fun⟨r5,s3⟩=>
  some (.ret ((),s3))
def aA (r1:aa) (s1:List UInt8):Option (bC (Unit×aa)):=
 (aq r1 s1).bind fun⟨r2,s2⟩=>
 if !r2 then
  pb (bL s2) fun⟨r3,s3⟩=>
  some (.ret ((),s3))
 else
  some (.ret ((),s2))
def dg (r1:aa):Option (bC (Unit×aa)):=
 pb (aA r1 ([41]:List UInt8)) fun⟨r2,s1⟩=>
 some (.ret ((),(⟨s1.l,s1.at_,au (s1.deep - 1)⟩:aa)))
def bQ (l1:List (List UInt8)) (r1:aa):Nat→Int→Option (Int×aa)
 | 0,_=>none
 | fuel1+1,i1=>
  if decide (i1<(l1.length:Int))then
   (lat l1 i1).bind fun e1=>
   (bB r1 1 e1).bind fun r2=>
   if r2 then
    some (i1,(⟨r1.l,au (r1.at_+1),r1.deep⟩:aa))
   else
    (bQ l1 r1 fuel1) (au (i1+1))
  else
   some ((-1),r1)
def bD (r1:aa) (l1:List (List UInt8)):Option (Int×aa):=
 bQ l1 r1 fu 0
def d6 (r1:aa):Option (bC (Int×aa)):=
 pb (bE r1) fun⟨r2,s1⟩=>
 (iJ r2 false).bind fun r3=>
 if(!r3.2)||(decide (2147483647<r3.1))then
  pb (bG s1 r1.at_ 3) fun r4=>
  some (.ret (r3.1,s1))
 else
  some (.ret (r3.1,s1))
def eJ (r4:Int) (r6:Int) (r8:Int) (r11:Int) (r1:aa) (r12:aa):Option (bC (aM×aa)):=
 pb (aA r12 ([41]:List UInt8)) fun⟨r13,s9⟩=>
 (dl (⟨2,r4,r6,au (r8+1),au (r11+1)⟩:aM)).bind fun r14=>
 if !decide (r14=0)then
  pb (bG s9 r1.at_ 10) fun r15=>
  some (.ret ((⟨2,r4,r6,au (r8+1),au (r11+1)⟩:aM),s9))
 else
  some (.ret ((⟨2,r4,r6,au (r8+1),au (r11+1)⟩:aM),s9))
def eK (r4:Int) (r6:Int) (r8:Int) (r1:aa) (r9:aa):Option (bC (aM×aa)):=
 pb (aA r9 ([44]:List UInt8)) fun⟨r10,s7⟩=>
 (bD s7 ([([115,97,116]:List UInt8),([119,114,97,112]:List UInt8)]:List (List UInt8))).bind fun⟨r11,s8⟩=>
 if decide (au (r11+1)=0)then
  pb (bL s8) fun⟨r16,s10⟩=>
  eJ r4 r6 r8 r11 r1 s10
 else
  eJ r4 r6 r8 r11 r1 s8
def eM (r1:aa) (r2:aa):Option (bC (aM×aa)):=
 pb (aA r2 ([40]:List UInt8)) fun⟨r3,s1⟩=>
 pb (d6 s1) fun⟨r4,s2⟩=>
 pb (aA s2 ([44]:List UInt8)) fun⟨r5,s3⟩=>
 pb (d6 s3) fun⟨r6,s4⟩=>
 pb (aA s4 ([44]:List UInt8)) fun⟨r7,s5⟩=>
 (bD s5 ([([102,108,111,111,114]:List UInt8),([99,101,105,108]:List UInt8),([122,101,114,111]:List UInt8),([101,118,101,110]:List UInt8)]:List (List UInt8))).bind fun⟨r8,s6⟩=>
 if decide (au (r8+1)=0)then
  pb (bL s6) fun⟨r17,s11⟩=>
  eK r4 r6 r8 r1 s11
 else
  eK r4 r6 r8 r1 s6
def eI (r1:aa):Option (bC (aM×aa)):=
 (bD r1 ([([102,114,97,99]:List UInt8),([105,110,116]:List UInt8),([102,105,120]:List UInt8)]:List (List UInt8))).bind fun⟨r18,s12⟩=>
 if decide (r18=0)then
  some (.ret ((⟨1,0,0,0,0⟩:aM),s12))
 else
  if decide (r18=1)then
   some (.ret ((⟨3,0,0,0,0⟩:aM),s12))
  else
   if decide (r18=(-1))then
    pb (bL s12) fun⟨r19,s13⟩=>
    eM r1 s13
   else
    eM r1 s12
def dm (r6:aa) (r7:bj×Int) (r2:aM):Option (bC (ac×aa)):=
 pb (aA r6 ([41]:List UInt8)) fun⟨r8,s5⟩=>
 some (.ret ((⟨1,([]:List UInt8),r7.1,r2,(⟨0,([]:List aw)⟩:ay),([]:List av),([]:List ac)⟩:ac),s5))
def ck (r2:aM) (s2:aa) (text2:List UInt8) (r6:aa):Option (bC (ac×aa)):=
 (lh r2 text2).bind fun r7=>
 if !decide (r7.2=0)then
  pb (bG r6 s2.at_ r7.2) fun r9=>
  dm r6 r7 r2
 else
  dm r6 r7 r2
def cn (r2:aM) (s2:aa) (text1:List UInt8) (r4:aa):Option (bC (ac×aa)):=
 pb (bE r4) fun⟨r5,s3⟩=>
 (cF text1 r5).bind fun s4=>
 (aq s3 ([47]:List UInt8)).bind fun⟨r10,s6⟩=>
 if r10 then
  pb (bE s6) fun⟨r11,s7⟩=>
  (cF ([47]:List UInt8) r11).bind fun s8=>
  (cF s4 s8).bind fun s9=>
  ck r2 s2 s9 s7
 else
  ck r2 s2 s4 s6
def bH (r1:aa):Option (bC (ac×aa)):=
 pb (eI r1) fun⟨r2,s1⟩=>
 pb (aA s1 ([40]:List UInt8)) fun⟨r3,s2⟩=>
 (aq s2 ([45]:List UInt8)).bind fun⟨r12,s10⟩=>
 if r12 then
  cn r2 s2 ([45]:List UInt8) s10
 else
  cn r2 s2 ([]:List UInt8) s10
def dr (rec_:(aa→Option (bC (ac×aa)))) (e1:ac) (self1:Int→aa→ac→Option (bC (ac×aa))) (i1:Int) (r4:aa):Option (bC (ac×aa)):=
 pb (rec_ r4) fun⟨r5,s2⟩=>
 (cF e1.Args ([r5]:List ac)).bind fun zs1=>
 self1 (au (i1+1)) s2 (⟨e1.Op,e1.Name,e1.Val,e1.Type_,e1.Lin,e1.Idx,zs1⟩:ac)
def aZ (many1:Int) (rec_:(aa→Option (bC (ac×aa)))):Nat→Int→aa→ac→Option (bC (ac×aa))
 | 0,_,_,_=>none
 | fuel1+1,i1,r3,e1=>
  if decide (i1<many1)then
   if decide (0<i1)then
    pb (aA r3 ([44]:List UInt8)) fun⟨r6,s3⟩=>
    dr rec_ e1 (aZ many1 rec_ fuel1) i1 s3
   else
    dr rec_ e1 (aZ many1 rec_ fuel1) i1 r3
  else
   pb (dg r3) fun⟨r7,s4⟩=>
   some (.ret (e1,s4))
def aX (rec_:(aa→Option (bC (ac×aa)))) (r1:aa) (op1:Int) (many1:Int):Option (bC (ac×aa)):=
 pb (cz r1) fun⟨r2,s1⟩=>
 aZ many1 rec_ fu 0 s1 (⟨op1,([]:List UInt8),(⟨0,0⟩:bj),(⟨0,0,0,0,0⟩:aM),(⟨0,([]:List aw)⟩:ay),([]:List av),([]:List ac)⟩:ac)
def ew (rec_:(aa→Option (bC (ac×aa)))) (r1:aa):Option (bC (ac×aa)):=
 pb (cz r1) fun⟨r2,s1⟩=>
 pb (eI s1) fun⟨r3,s2⟩=>
 pb (aA s2 ([44]:List UInt8)) fun⟨r4,s3⟩=>
 pb (rec_ s3) fun⟨r5,s4⟩=>
 pb (dg s4) fun⟨r6,s5⟩=>
 some (.ret ((⟨12,([]:List UInt8),(⟨0,0⟩:bj),r3,(⟨0,([]:List aw)⟩:ay),([]:List av),([r5]:List ac)⟩:ac),s5))
def bF:Nat→(List ay)→aa→Option (bC (List ay×aa))
 | 0,_,_=>none
 | fuel1+1,mz,r4=>
  (aq r4 ([44]:List UInt8)).bind fun⟨r5,s3⟩=>
  if r5 then
   pb (bV s3) fun⟨r6,s4⟩=>
   (cF mz ([r6]:List ay)).bind fun zs1=>
   (bF fuel1) zs1 s4
  else
   pb (aA s3 ([93]:List UInt8)) fun⟨r7,s5⟩=>
   some (.ret (mz,s5))
def fb (r1:aa):Option (bC (List ay×aa)):=
 (aq r1 ([93]:List UInt8)).bind fun⟨r2,s1⟩=>
 if r2 then
  some (.ret (([]:List ay),s1))
 else
  pb (bV s1) fun⟨r3,s2⟩=>
  bF fu ([r3]:List ay) s2
def de (r1:aa):Option (bC (av×aa)):=
 (cA r1).bind fun r2=>
 (gd (r2&&(decide (au (r1.at_+1)<(r1.l.length:Int)))) (lat r1.l (au (r1.at_+1)))).bind fun e1=>
 (gd ((r2&&(decide (au (r1.at_+1)<(r1.l.length:Int))))&&(decide (e1.Kind=3))) (lat r1.l (au (r1.at_+1)))).bind fun e2=>
 if !(((r2&&(decide (au (r1.at_+1)<(r1.l.length:Int))))&&(decide (e1.Kind=3)))&&(decide (e2.Text=([91]:List UInt8))))then
  pb (bV r1) fun⟨r3,s1⟩=>
  some (.ret ((⟨r3,([]:List UInt8),([]:List ay)⟩:av),s1))
 else
  pb (bU r1) fun⟨r4,s2⟩=>
  pb (aA s2 ([91]:List UInt8)) fun⟨r5,s3⟩=>
  pb (fb s3) fun⟨r6,s4⟩=>
  some (.ret ((⟨(⟨0,([]:List aw)⟩:ay),r4,r6⟩:av),s4))
def bi:Nat→aa→ac→Option (bC (ac×aa))
 | 0,_,_=>none
 | fuel1+1,r24,e1=>
  (aq r24 ([44]:List UInt8)).bind fun⟨r25,s19⟩=>
  if r25 then
   pb (de s19) fun⟨r26,s20⟩=>
   (cF e1.Idx ([r26]:List av)).bind fun zs1=>
   (bi fuel1) s20 (⟨e1.Op,e1.Name,e1.Val,e1.Type_,e1.Lin,zs1,e1.Args⟩:ac)
  else
   pb (aA s19 ([93]:List UInt8)) fun⟨r27,s21⟩=>
   some (.ret (e1,s21))
def aQ (rec_:(aa→Option (bC (ac×aa)))) (r1:aa):Option (bC (ac×aa)):=
 (bB r1 3 ([40]:List UInt8)).bind fun r2=>
 if r2 then
  pb (cz r1) fun⟨r3,s1⟩=>
  pb (rec_ s1) fun⟨r4,s2⟩=>
  pb (dg s2) fun⟨r5,s3⟩=>
  some (.ret (r4,s3))
 else
  (aq r1 ([91]:List UInt8)).bind fun⟨r6,s4⟩=>
  if r6 then
   pb (bV s4) fun⟨r7,s5⟩=>
   pb (aA s5 ([93]:List UInt8)) fun⟨r8,s6⟩=>
   some (.ret ((⟨2,([]:List UInt8),(⟨0,0⟩:bj),(⟨0,0,0,0,0⟩:aM),r7,([]:List av),([]:List ac)⟩:ac),s6))
  else
   (bB s4 1 ([102,114,97,99]:List UInt8)).bind fun r9=>
   if r9 then
    pb (bH s4) fun⟨r10,s7⟩=>
    some (.ret (r10,s7))
   else
    (bB s4 1 ([105,110,116]:List UInt8)).bind fun r11=>
    if r11 then
     pb (bH s4) fun⟨r12,s8⟩=>
     some (.ret (r12,s8))
    else
     (bB s4 1 ([102,105,120]:List UInt8)).bind fun r13=>
     if r13 then
      pb (bH s4) fun⟨r14,s9⟩=>
      some (.ret (r14,s9))
     else
      (bD s4 ([([109,105,110]:List UInt8),([109,97,120]:List UInt8),([105,102]:List UInt8),([99,97,115,116]:List UInt8)]:List (List UInt8))).bind fun⟨r15,s10⟩=>
      if decide (r15=0)then
       pb (aX rec_ s10 9 2) fun⟨r16,s11⟩=>
       some (.ret (r16,s11))
      else
       if decide (r15=1)then
        pb (aX rec_ s10 10 2) fun⟨r17,s12⟩=>
        some (.ret (r17,s12))
       else
        if decide (r15=2)then
         pb (aX rec_ s10 11 3) fun⟨r18,s13⟩=>
         some (.ret (r18,s13))
        else
         if decide (r15=3)then
          pb (ew rec_ s10) fun⟨r19,s14⟩=>
          some (.ret (r19,s14))
         else
          pb (bU s10) fun⟨r20,s15⟩=>
          pb (aA s15 ([91]:List UInt8)) fun⟨r21,s16⟩=>
          (aq s16 ([93]:List UInt8)).bind fun⟨r22,s17⟩=>
          if r22 then
           some (.ret ((⟨3,r20,(⟨0,0⟩:bj),(⟨0,0,0,0,0⟩:aM),(⟨0,([]:List aw)⟩:ay),([]:List av),([]:List ac)⟩:ac),s17))
          else
           pb (de s17) fun⟨r23,s18⟩=>
           bi fu s18 (⟨3,r20,(⟨0,0⟩:bj),(⟨0,0,0,0,0⟩:aM),(⟨0,([]:List aw)⟩:ay),([r23]:List av),([]:List ac)⟩:ac)
def cr (rec_:(aa→Option (bC (ac×aa)))) (recs_:(aa→Option (bC (ac×aa)))) (r1:aa):Option (bC (ac×aa)):=
 (bB r1 3 ([45]:List UInt8)).bind fun r2=>
 if !r2 then
  pb (aQ rec_ r1) fun⟨r3,s1⟩=>
  some (.ret (r3,s1))
 else
  pb (bs r1) fun⟨r4,s2⟩=>
  pb (recs_ s2) fun⟨r5,s3⟩=>
  some (.ret ((⟨8,([]:List UInt8),(⟨0,0⟩:bj),(⟨0,0,0,0,0⟩:aM),(⟨0,([]:List aw)⟩:ay),([]:List av),([r5]:List ac)⟩:ac),(⟨s3.l,s3.at_,au (s3.deep - 1)⟩:aa)))
def cq (rec_:(aa→Option (bC (ac×aa)))):Nat→(aa→Option (bC (ac×aa)))
 | 0=>fun _=>none
 | n+1=>cr rec_ (cq rec_ n)
def gx (rec_:(aa→Option (bC (ac×aa)))) (r1:aa):Option (bC (ac×aa)):=cq rec_ fu r1
def gS (e1:ac) (rec_:(aa→Option (bC (ac×aa)))) (self1:aa→ac→Option (bC (ac×aa))) (op1:Int) (r4:aa):Option (bC (ac×aa)):=
 if decide (op1=0)then
  some (.ret (e1,r4))
 else
  pb (gx rec_ r4) fun⟨r5,s2⟩=>
  self1 s2 (⟨op1,([]:List UInt8),(⟨0,0⟩:bj),(⟨0,0,0,0,0⟩:aM),(⟨0,([]:List aw)⟩:ay),([]:List av),([e1,r5]:List ac)⟩:ac)
def fj (self2:Int→Int→aa→Option (bC (ac×aa))) (i1:Int) (op3:Int) (r7:aa):Option (bC (ac×aa)):=
 self2 op3 (au (i1+1)) r7
def bw (signs1:List (List UInt8)) (ops1:List Int) (e1:ac) (rec_:(aa→Option (bC (ac×aa)))) (self1:aa→ac→Option (bC (ac×aa))):Nat→Int→Int→aa→Option (bC (ac×aa))
 | 0,_,_,_=>none
 | fuel2+1,op2,i1,r6=>
  if decide (i1<(signs1.length:Int))then
   (lat signs1 i1).bind fun e2=>
   (Ea (decide (op2=0)) (aq r6 e2) (default,r6)).bind fun⟨r8,s3⟩=>
   if(decide (op2=0))&&r8 then
    (lat ops1 i1).bind fun e3=>
    fj (bw signs1 ops1 e1 rec_ self1 fuel2) i1 e3 s3
   else
    fj (bw signs1 ops1 e1 rec_ self1 fuel2) i1 op2 s3
  else
   gS e1 rec_ self1 op2 r6
def ba (signs1:List (List UInt8)) (ops1:List Int) (rec_:(aa→Option (bC (ac×aa)))):Nat→aa→ac→Option (bC (ac×aa))
 | 0,_,_=>none
 | fuel1+1,r3,e1=>
  bw signs1 ops1 e1 rec_ (ba signs1 ops1 rec_ fuel1) fu 0 0 r3
def gc (rec_:(aa→Option (bC (ac×aa)))) (r1:aa) (signs1:List (List UInt8)) (ops1:List Int):Option (bC (ac×aa)):=
 pb (gx rec_ r1) fun⟨r2,s1⟩=>
 ba signs1 ops1 rec_ fu s1 r2
def ct (rec_:(aa→Option (bC (ac×aa)))) (r1:aa):Option (bC (ac×aa)):=
 pb (gc rec_ r1 ([([42]:List UInt8),([47]:List UInt8)]:List (List UInt8)) ([6,7]:List Int)) fun⟨r2,s1⟩=>
 some (.ret (r2,s1))
def gU (e1:ac) (rec_:(aa→Option (bC (ac×aa)))) (self1:aa→ac→Option (bC (ac×aa))) (op1:Int) (r4:aa):Option (bC (ac×aa)):=
 if decide (op1=0)then
  some (.ret (e1,r4))
 else
  pb (ct rec_ r4) fun⟨r5,s2⟩=>
  self1 s2 (⟨op1,([]:List UInt8),(⟨0,0⟩:bj),(⟨0,0,0,0,0⟩:aM),(⟨0,([]:List aw)⟩:ay),([]:List av),([e1,r5]:List ac)⟩:ac)
def fk (self2:Int→Int→aa→Option (bC (ac×aa))) (i1:Int) (op3:Int) (r7:aa):Option (bC (ac×aa)):=
 self2 op3 (au (i1+1)) r7
def bx (signs1:List (List UInt8)) (ops1:List Int) (e1:ac) (rec_:(aa→Option (bC (ac×aa)))) (self1:aa→ac→Option (bC (ac×aa))):Nat→Int→Int→aa→Option (bC (ac×aa))
 | 0,_,_,_=>none
 | fuel2+1,op2,i1,r6=>
  if decide (i1<(signs1.length:Int))then
   (lat signs1 i1).bind fun e2=>
   (Ea (decide (op2=0)) (aq r6 e2) (default,r6)).bind fun⟨r8,s3⟩=>
   if(decide (op2=0))&&r8 then
    (lat ops1 i1).bind fun e3=>
    fk (bx signs1 ops1 e1 rec_ self1 fuel2) i1 e3 s3
   else
    fk (bx signs1 ops1 e1 rec_ self1 fuel2) i1 op2 s3
  else
   gU e1 rec_ self1 op2 r6
def bb (signs1:List (List UInt8)) (ops1:List Int) (rec_:(aa→Option (bC (ac×aa)))):Nat→aa→ac→Option (bC (ac×aa))
 | 0,_,_=>none
 | fuel1+1,r3,e1=>
  bx signs1 ops1 e1 rec_ (bb signs1 ops1 rec_ fuel1) fu 0 0 r3
def ge (rec_:(aa→Option (bC (ac×aa)))) (r1:aa) (signs1:List (List UInt8)) (ops1:List Int):Option (bC (ac×aa)):=
 pb (ct rec_ r1) fun⟨r2,s1⟩=>
 bb signs1 ops1 rec_ fu s1 r2
def dJ (rec_:(aa→Option (bC (ac×aa)))) (r1:aa):Option (bC (ac×aa)):=
 pb (ge rec_ r1 ([([43]:List UInt8),([45]:List UInt8)]:List (List UInt8)) ([4,5]:List Int)) fun⟨r2,s1⟩=>
 some (.ret (r2,s1))
def gV (e1:ac) (rec_:(aa→Option (bC (ac×aa)))) (self1:aa→ac→Option (bC (ac×aa))) (op1:Int) (r4:aa):Option (bC (ac×aa)):=
 if decide (op1=0)then
  some (.ret (e1,r4))
 else
  pb (dJ rec_ r4) fun⟨r5,s2⟩=>
  self1 s2 (⟨op1,([]:List UInt8),(⟨0,0⟩:bj),(⟨0,0,0,0,0⟩:aM),(⟨0,([]:List aw)⟩:ay),([]:List av),([e1,r5]:List ac)⟩:ac)
def fm (self2:Int→Int→aa→Option (bC (ac×aa))) (i1:Int) (op3:Int) (r7:aa):Option (bC (ac×aa)):=
 self2 op3 (au (i1+1)) r7
def bz (signs1:List (List UInt8)) (ops1:List Int) (e1:ac) (rec_:(aa→Option (bC (ac×aa)))) (self1:aa→ac→Option (bC (ac×aa))):Nat→Int→Int→aa→Option (bC (ac×aa))
 | 0,_,_,_=>none
 | fuel2+1,op2,i1,r6=>
  if decide (i1<(signs1.length:Int))then
   (lat signs1 i1).bind fun e2=>
   (Ea (decide (op2=0)) (aq r6 e2) (default,r6)).bind fun⟨r8,s3⟩=>
   if(decide (op2=0))&&r8 then
    (lat ops1 i1).bind fun e3=>
    fm (bz signs1 ops1 e1 rec_ self1 fuel2) i1 e3 s3
   else
    fm (bz signs1 ops1 e1 rec_ self1 fuel2) i1 op2 s3
  else
   gV e1 rec_ self1 op2 r6
def bc (signs1:List (List UInt8)) (ops1:List Int) (rec_:(aa→Option (bC (ac×aa)))):Nat→aa→ac→Option (bC (ac×aa))
 | 0,_,_=>none
 | fuel1+1,r3,e1=>
  bz signs1 ops1 e1 rec_ (bc signs1 ops1 rec_ fuel1) fu 0 0 r3
def dF (rec_:(aa→Option (bC (ac×aa)))) (r1:aa) (signs1:List (List UInt8)) (ops1:List Int):Option (bC (ac×aa)):=
 pb (dJ rec_ r1) fun⟨r2,s1⟩=>
 bc signs1 ops1 rec_ fu s1 r2
def cZ (rec_:(aa→Option (bC (ac×aa)))) (recs_:(aa→Option (bC (ac×aa)))) (r1:aa):Option (bC (ac×aa)):=
 (bB r1 3 ([33]:List UInt8)).bind fun r2=>
 if !r2 then
  pb (dF rec_ r1 ([([60]:List UInt8),([60,61]:List UInt8),([61,61]:List UInt8)]:List (List UInt8)) ([13,14,15]:List Int)) fun⟨r3,s1⟩=>
  some (.ret (r3,s1))
 else
  pb (bs r1) fun⟨r4,s2⟩=>
  pb (recs_ s2) fun⟨r5,s3⟩=>
  some (.ret ((⟨18,([]:List UInt8),(⟨0,0⟩:bj),(⟨0,0,0,0,0⟩:aM),(⟨0,([]:List aw)⟩:ay),([]:List av),([r5]:List ac)⟩:ac),(⟨s3.l,s3.at_,au (s3.deep - 1)⟩:aa)))
def cY (rec_:(aa→Option (bC (ac×aa)))):Nat→(aa→Option (bC (ac×aa)))
 | 0=>fun _=>none
 | n+1=>cZ rec_ (cY rec_ n)
def iz (rec_:(aa→Option (bC (ac×aa)))) (r1:aa):Option (bC (ac×aa)):=cY rec_ fu r1
def gW (e1:ac) (rec_:(aa→Option (bC (ac×aa)))) (self1:aa→ac→Option (bC (ac×aa))) (op1:Int) (r4:aa):Option (bC (ac×aa)):=
 if decide (op1=0)then
  some (.ret (e1,r4))
 else
  pb (iz rec_ r4) fun⟨r5,s2⟩=>
  self1 s2 (⟨op1,([]:List UInt8),(⟨0,0⟩:bj),(⟨0,0,0,0,0⟩:aM),(⟨0,([]:List aw)⟩:ay),([]:List av),([e1,r5]:List ac)⟩:ac)
def fo (self2:Int→Int→aa→Option (bC (ac×aa))) (i1:Int) (op3:Int) (r7:aa):Option (bC (ac×aa)):=
 self2 op3 (au (i1+1)) r7
def bA (signs1:List (List UInt8)) (ops1:List Int) (e1:ac) (rec_:(aa→Option (bC (ac×aa)))) (self1:aa→ac→Option (bC (ac×aa))):Nat→Int→Int→aa→Option (bC (ac×aa))
 | 0,_,_,_=>none
 | fuel2+1,op2,i1,r6=>
  if decide (i1<(signs1.length:Int))then
   (lat signs1 i1).bind fun e2=>
   (Ea (decide (op2=0)) (aq r6 e2) (default,r6)).bind fun⟨r8,s3⟩=>
   if(decide (op2=0))&&r8 then
    (lat ops1 i1).bind fun e3=>
    fo (bA signs1 ops1 e1 rec_ self1 fuel2) i1 e3 s3
   else
    fo (bA signs1 ops1 e1 rec_ self1 fuel2) i1 op2 s3
  else
   gW e1 rec_ self1 op2 r6
def be (signs1:List (List UInt8)) (ops1:List Int) (rec_:(aa→Option (bC (ac×aa)))):Nat→aa→ac→Option (bC (ac×aa))
 | 0,_,_=>none
 | fuel1+1,r3,e1=>
  bA signs1 ops1 e1 rec_ (be signs1 ops1 rec_ fuel1) fu 0 0 r3
def gg (rec_:(aa→Option (bC (ac×aa)))) (r1:aa) (signs1:List (List UInt8)) (ops1:List Int):Option (bC (ac×aa)):=
 pb (iz rec_ r1) fun⟨r2,s1⟩=>
 be signs1 ops1 rec_ fu s1 r2
def dK (rec_:(aa→Option (bC (ac×aa)))) (r1:aa):Option (bC (ac×aa)):=
 pb (gg rec_ r1 ([([38]:List UInt8)]:List (List UInt8)) ([16]:List Int)) fun⟨r2,s1⟩=>
 some (.ret (r2,s1))
def ip (e1:ac) (rec_:(aa→Option (bC (ac×aa)))) (self1:aa→ac→Option (bC (ac×aa))) (op1:Int) (r4:aa):Option (bC (ac×aa)):=
 if decide (op1=0)then
  some (.ret (e1,r4))
 else
  pb (dK rec_ r4) fun⟨r5,s2⟩=>
  self1 s2 (⟨op1,([]:List UInt8),(⟨0,0⟩:bj),(⟨0,0,0,0,0⟩:aM),(⟨0,([]:List aw)⟩:ay),([]:List av),([e1,r5]:List ac)⟩:ac)
def fz (self2:Int→Int→aa→Option (bC (ac×aa))) (i1:Int) (op3:Int) (r7:aa):Option (bC (ac×aa)):=
 self2 op3 (au (i1+1)) r7
def bI (signs1:List (List UInt8)) (ops1:List Int) (e1:ac) (rec_:(aa→Option (bC (ac×aa)))) (self1:aa→ac→Option (bC (ac×aa))):Nat→Int→Int→aa→Option (bC (ac×aa))
 | 0,_,_,_=>none
 | fuel2+1,op2,i1,r6=>
  if decide (i1<(signs1.length:Int))then
   (lat signs1 i1).bind fun e2=>
   (Ea (decide (op2=0)) (aq r6 e2) (default,r6)).bind fun⟨r8,s3⟩=>
   if(decide (op2=0))&&r8 then
    (lat ops1 i1).bind fun e3=>
    fz (bI signs1 ops1 e1 rec_ self1 fuel2) i1 e3 s3
   else
    fz (bI signs1 ops1 e1 rec_ self1 fuel2) i1 op2 s3
  else
   ip e1 rec_ self1 op2 r6
def bg (signs1:List (List UInt8)) (ops1:List Int) (rec_:(aa→Option (bC (ac×aa)))):Nat→aa→ac→Option (bC (ac×aa))
 | 0,_,_=>none
 | fuel1+1,r3,e1=>
  bI signs1 ops1 e1 rec_ (bg signs1 ops1 rec_ fuel1) fu 0 0 r3
def gy (rec_:(aa→Option (bC (ac×aa)))) (r1:aa) (signs1:List (List UInt8)) (ops1:List Int):Option (bC (ac×aa)):=
 pb (dK rec_ r1) fun⟨r2,s1⟩=>
 bg signs1 ops1 rec_ fu s1 r2
def eu (rec_:(aa→Option (bC (ac×aa)))) (r1:aa):Option (bC (ac×aa)):=
 pb (gy rec_ r1 ([([124]:List UInt8)]:List (List UInt8)) ([17]:List Int)) fun⟨r2,s1⟩=>
 some (.ret (r2,s1))
def az:Nat→(aa→Option (bC (ac×aa)))
 | 0=>fun _=>none
 | n+1=>eu (az n)
def iW (r1:aa):Option (bC (ac×aa)):=az fu r1
def iX (a1:aa) (a3:ac):Option (bC (Unit×aa×ac)):=
 pb (iW a1) fun⟨r1,s1⟩=>
 some (.ret ((),s1,r1))
def jW (l1:List aU) (at1:Int):Option (ac×Int×Int):=
 if(decide (at1<0))||(decide ((l1.length:Int)<at1))then
  some ((⟨0,([]:List UInt8),(⟨0,0⟩:bj),(⟨0,0,0,0,0⟩:aM),(⟨0,([]:List aw)⟩:ay),([]:List av),([]:List ac)⟩:ac),0,1)
 else
  Bs (iX (⟨l1,at1,0⟩:aa) (⟨0,([]:List UInt8),(⟨0,0⟩:bj),(⟨0,0,0,0,0⟩:aM),(⟨0,([]:List aw)⟩:ay),([]:List av),([]:List ac)⟩:ac)) (fun⟨r1,s1,s2⟩=>
   if !decide (0=0)then
    some ((⟨0,([]:List UInt8),(⟨0,0⟩:bj),(⟨0,0,0,0,0⟩:aM),(⟨0,([]:List aw)⟩:ay),([]:List av),([]:List ac)⟩:ac),0,0)
   else
    (iN s2).bind fun r2=>
    if !decide (r2=0)then
     some ((⟨0,([]:List UInt8),(⟨0,0⟩:bj),(⟨0,0,0,0,0⟩:aM),(⟨0,([]:List aw)⟩:ay),([]:List av),([]:List ac)⟩:ac),at1,r2)
    else
     some (s2,s1.at_,0)) fun pa1 pn1=>
   some ((⟨0,([]:List UInt8),(⟨0,0⟩:bj),(⟨0,0,0,0,0⟩:aM),(⟨0,([]:List aw)⟩:ay),([]:List av),([]:List ac)⟩:ac),pa1,pn1)
def no (s1:List UInt8) (l1:List aU) (at1:Int):Option Int:=
 if decide ((l1.length:Int)≤at1)then
  some (s1.length:Int)
 else
  (lat l1 at1).bind fun e1=>
  some e1.At
def ju (s1:List UInt8) (r1:List aU×Int×Int) (r2:ac×Int×Int) (e1:Int):Option (ac×Int×Int):=
 if !decide (e1=0)then
  (no s1 r1.1 r2.2.1).bind fun r3=>
  some ((⟨0,([]:List UInt8),(⟨0,0⟩:bj),(⟨0,0,0,0,0⟩:aM),(⟨0,([]:List aw)⟩:ay),([]:List av),([]:List ac)⟩:ac),r3,e1)
 else
  some (r2.1,0,0)
def gh (s1:List UInt8):Option (ac×Int×Int):=
 (fc s1).bind fun r1=>
 if !decide (r1.2.2=0)then
  some ((⟨0,([]:List UInt8),(⟨0,0⟩:bj),(⟨0,0,0,0,0⟩:aM),(⟨0,([]:List aw)⟩:ay),([]:List av),([]:List ac)⟩:ac),r1.2.1,r1.2.2)
 else
  (jW r1.1 0).bind fun r2=>
  if(decide (r2.2.2=0))&&(decide (r2.2.1<(r1.1.length:Int)))then
   ju s1 r1 r2 5
  else
   ju s1 r1 r2 r2.2.2
def ib (a1:ay) (b1:ay):Nat→Int→Option Bool
 | 0,_=>none
 | fuel1+1,i1=>
  if decide (i1<(a1.L.length:Int))then
   (lat a1.L i1).bind fun e1=>
   (lat b1.L i1).bind fun e2=>
   if !((decide (e1.Name=e2.Name))&&(decide (e1.By=e2.By)))then
    some false
   else
    (ib a1 b1 fuel1) (au (i1+1))
  else
   some true
def kN (a1:ay) (b1:ay):Option Bool:=
 if(!decide (a1.K=b1.K))||(!decide ((a1.L.length:Int)=(b1.L.length:Int)))then
  some false
 else
  ib a1 b1 fu 0
def ij:Option Bool:=
 (mI ([50,42,105,32,45,32,51,32,43,32,105]:List UInt8)).bind fun r1=>
 (pF r1.1 0).bind fun r2=>
 (gh ([97,91,105,93,32,43,32,98,91,93,32,42,32,91,50,93]:List UInt8)).bind fun r3=>
 (gh ([97,91]:List UInt8)).bind fun r4=>
 (gh ([97,91,105,93,32,43,42,32,50]:List UInt8)).bind fun r5=>
 (gh ([102,114,97,99,40,50,47,52,41]:List UInt8)).bind fun r6=>
 if(!((!decide (r2.2.2=0))||(!decide (r2.2.1=7))))=true then
  (kN r2.1 (⟨(-3),([(⟨([105]:List UInt8),3⟩:aw)]:List aw)⟩:ay)).bind fun r7=>
  if((((!decide (r2.2.2=0))||(!decide (r2.2.1=7)))||(!r7))||(!decide (r3.2.2=0)))||(!decide ((r3.1.Args.length:Int)=2))then
   some false
  else
   (gd (decide (r3.1.Op=4)) (lat r3.1.Args 0)).bind fun e1=>
   (gd ((decide (r3.1.Op=4))&&(decide (e1.Op=3))) (lat r3.1.Args 1)).bind fun e2=>
   some (((((((((decide (r3.1.Op=4))&&(decide (e1.Op=3)))&&(decide (e2.Op=6)))&&(decide (r4.2.1=2)))&&(decide (r4.2.2=6)))&&(decide (r5.2.1=6)))&&(decide (r5.2.2=5)))&&(decide (r6.2.1=5)))&&(decide (r6.2.2=5)))
 else none
def kY:Option (List (List UInt8)):=
 some ([([115,105,122,101]:List UInt8),([119,104,101,114,101]:List UInt8),([105,110]:List UInt8),([100,101,102]:List UInt8),([111,117,116]:List UInt8),([115,117,109]:List UInt8),([112,114,111,100]:List UInt8),([109,105,110]:List UInt8),([109,97,120]:List UInt8),([115,99,97,110]:List UInt8),([111,118,101,114]:List UInt8),([105,102]:List UInt8),([99,97,115,116]:List UInt8),([102,114,97,99]:List UInt8),([105,110,116]:List UInt8),([102,105,120]:List UInt8),([99,101,105,108]:List UInt8),([102,108,111,111,114]:List UInt8),([122,101,114,111]:List UInt8),([101,118,101,110]:List UInt8),([115,97,116]:List UInt8),([119,114,97,112]:List UInt8)]:List (List UInt8))
def gj (l1:List (List UInt8)) (s1:List UInt8):Nat→Int→Option Bool
 | 0,_=>none
 | fuel1+1,i1=>
  if decide (i1<(l1.length:Int))then
   (lat l1 i1).bind fun e1=>
   if decide (e1=s1)then
    some true
   else
    (gj l1 s1 fuel1) (au (i1+1))
  else
   some false
def nO (l1:List (List UInt8)) (s1:List UInt8):Option Bool:=
 gj l1 s1 fu 0
def fD (s1:List UInt8):Nat→Int→Option Bool
 | 0,_=>none
 | fuel1+1,i1=>
  if decide (i1<(s1.length:Int))then
   (sat s1 i1).bind fun b1=>
   if !(((decide (97≤b1))&&(decide (b1≤122)))||((decide (0<i1))&&(((decide (48≤b1))&&(decide (b1≤57)))||(decide (b1=95)))))then
    some false
   else
    (fD s1 fuel1) (au (i1+1))
  else
   some true
def gp (s1:List UInt8):Option Bool:=
 (gd (!((decide ((s1.length:Int)<1))||(decide (16<(s1.length:Int))))) (kY)).bind fun r1=>
 (gd (!((decide ((s1.length:Int)<1))||(decide (16<(s1.length:Int))))) (nO r1 s1)).bind fun r2=>
 if((decide ((s1.length:Int)<1))||(decide (16<(s1.length:Int))))||r2 then
  some false
 else
  fD s1 fu 0
def ub (name1:List UInt8):Option ay:=
 (gp name1).bind fun r1=>
 if !r1 then
  some (⟨0,([]:List aw)⟩:ay)
 else
  some (⟨0,([(⟨name1,1⟩:aw)]:List aw)⟩:ay)
def oy (s1:List UInt8):Option Bool:=
 (gd ((!(decide (s1=([48]:List UInt8))))&&(decide (0<(s1.length:Int)))) (sat s1 0)).bind fun b1=>
 some ((decide (s1=([48]:List UInt8)))||((decide (0<(s1.length:Int)))&&(!decide (b1=48))))
def mn (a1:Int) (b1:Int):Option (Int×Bool):=
 if(decide (a1=0))||(decide (b1=0))then
  some (0,true)
 else
  if((!(((decide (a1=(-1)))&&(decide (b1=(-9223372036854775808))))||((decide (b1=(-1)))&&(decide (a1=(-9223372036854775808))))))=true→b1≠0)then
   if(((decide (a1=(-1)))&&(decide (b1=(-9223372036854775808))))||((decide (b1=(-1)))&&(decide (a1=(-9223372036854775808)))))||(!decide (au (Int.tdiv (au (a1 * b1)) b1)=a1))then
    some (0,false)
   else
    some (au (a1 * b1),true)
  else none
def cI (l1:ay):Nat→Int→Option Bool
 | 0,_=>none
 | fuel1+1,i1=>
  if decide (i1<(l1.L.length:Int))then
   (lat l1.L i1).bind fun e1=>
   (gp e1.Name).bind fun r1=>
   (gd (!(!r1)) (lat l1.L i1)).bind fun e2=>
   (gd ((!((!r1)||(decide (e2.By=0))))&&(decide (0<i1))) (lat l1.L (au (i1 - 1)))).bind fun e3=>
   (gd ((!((!r1)||(decide (e2.By=0))))&&(decide (0<i1))) (lat l1.L i1)).bind fun e4=>
   if((!r1)||(decide (e2.By=0)))||((decide (0<i1))&&(!Op.bytesLess e3.Name e4.Name))then
    some false
   else
    (cI l1 fuel1) (au (i1+1))
  else
   some true
def eg (l1:ay):Option Bool:=
 cI l1 fu 0
def fW (l1:ay):Option Int:=
 (eg l1).bind fun r1=>
 if !r1 then
  some 1
 else
  some 0
def mJ (a1:ay) (by1:Int):Nat→Int→ay→Option (ay×Int)
 | 0,_,_=>none
 | fuel1+1,i1,mz=>
  if decide (i1<(a1.L.length:Int))then
   (lat a1.L i1).bind fun e1=>
   (mn e1.By by1).bind fun r3=>
   if !r3.2 then
    some ((⟨0,([]:List aw)⟩:ay),3)
   else
    (lat a1.L i1).bind fun e2=>
    (cF mz.L ([(⟨e2.Name,r3.1⟩:aw)]:List aw)).bind fun zs1=>
    (mJ a1 by1 fuel1) (au (i1+1)) (⟨mz.K,zs1⟩:ay)
  else
   some (mz,0)
def oL (a1:ay) (by1:Int):Option (ay×Int):=
 (fW a1).bind fun r1=>
 if !decide (r1=0)then
  some ((⟨0,([]:List aw)⟩:ay),1)
 else
  if decide (by1=0)then
   some ((⟨0,([]:List aw)⟩:ay),0)
  else
   (mn a1.K by1).bind fun r2=>
   if !r2.2 then
    some ((⟨0,([]:List aw)⟩:ay),3)
   else
    mJ a1 by1 fu 0 (⟨r2.1,([]:List aw)⟩:ay)
def kM (t1:aM):Option Bool:=
 if(decide (t1.Kind=1))||(decide (t1.Kind=3))then
  some ((((decide (t1.Bits=0))&&(decide (t1.Frac=0)))&&(decide (t1.Round=0)))&&(decide (t1.Over=0)))
 else
  some ((((((((decide (t1.Kind=2))&&(decide (2≤t1.Bits)))&&(decide (t1.Bits≤31)))&&(decide (0≤t1.Frac)))&&(decide (t1.Frac≤30)))&&(decide (1≤t1.Round)))&&(decide (t1.Round≤4)))&&((decide (t1.Over=1))||(decide (t1.Over=2))))
def fw (n1:Int):Option Int:=
 if decide (n1<0)then
  some (ei ((ei (au (-(au (n1+1)))))+1))
 else
  some (ei n1)
def jt:Nat→Int→Int→Option Int
 | 0,_,_=>none
 | fuel1+1,a2,b2=>
  if !decide (b2=0)then
   if b2≠0 then
    (jt fuel1) b2 (Int.tmod a2 b2)
   else none
  else
   some a2
def oz (a1:Int) (b1:Int):Option Int:=
 jt fu a1 b1
def me (t1:aM):Option Int:=
 if 0≤(ei t1.Frac)then
  some (au (1 * 2 ^ (min (Int.toNat (ei t1.Frac)) 64)))
 else none
def j7:Nat→Int→Int→Option Int
 | 0,_,_=>none
 | fuel1+1,a2,b2=>
  if !decide (b2=0)then
   if b2≠0 then
    (j7 fuel1) b2 (Int.tmod a2 b2)
   else none
  else
   some a2
def pI (a1:Int) (b1:Int):Option Int:=
 j7 fu a1 b1
def lK (t1:aM) (v1:bj):Option Bool:=
 if decide (t1.Kind=2)then
  if 0≤(au (t1.Bits - 1))then
   (some (au (1 * 2 ^ (min (Int.toNat (au (t1.Bits - 1))) 64)))).bind fun half1=>
   some (((decide (v1.D=1))&&(decide (au (-half1)≤v1.N)))&&(decide (v1.N<half1)))
  else none
 else
  if(((decide (2147483647<v1.N))||(decide (v1.N<(-2147483647))))||(decide (v1.D<1)))||(decide (2147483647<v1.D))then
   some false
  else
   if decide (t1.Kind=3)then
    some (decide (v1.D=1))
   else
    (pI (max v1.N (au (-v1.N))) v1.D).bind fun r1=>
    some (decide (r1=1))
def er (e1:ac) (most1:Int) (rec_:(ac→Int→Option Int)):Nat→Int→Int→Option Int
 | 0,_,_=>none
 | fuel1+1,d1,i1=>
  if(decide (i1<(e1.Args.length:Int)))&&(decide (1<most1))then
   (lat e1.Args i1).bind fun e2=>
   (rec_ e2 (au (most1 - 1))).bind fun r1=>
   (er e1 most1 rec_ fuel1) (max d1 (au (1+r1))) (au (i1+1))
  else
   some d1
def jU (rec_:(ac→Int→Option Int)) (e1:ac) (most1:Int):Option Int:=
 er e1 most1 rec_ fu 1 0
def iG:Nat→(ac→Int→Option Int)
 | 0=>fun _ _=>none
 | n+1=>jU (iG n)
def oJ (e1:ac) (most1:Int):Option Int:=iG fu e1 most1
def mS (e1:ac):Option Int:=
 (oJ e1 41).bind fun r1=>
 some r1
def fI (e1:ac) (most1:Int) (rec_:(ac→Int→Option Int)):Nat→Int→Int→Option Int
 | 0,_,_=>none
 | fuel1+1,n1,i1=>
  if(decide (i1<(e1.Args.length:Int)))&&(decide (n1≤most1))then
   (lat e1.Args i1).bind fun e2=>
   (rec_ e2 (au (most1 - n1))).bind fun r1=>
   (fI e1 most1 rec_ fuel1) (au (n1+r1)) (au (i1+1))
  else
   some n1
def ky (rec_:(ac→Int→Option Int)) (e1:ac) (most1:Int):Option Int:=
 fI e1 most1 rec_ fu 1 0
def jo:Nat→(ac→Int→Option Int)
 | 0=>fun _ _=>none
 | n+1=>ky (jo n)
def pD (e1:ac) (most1:Int):Option Int:=jo fu e1 most1
def mb (e1:ac):Option Int:=
 (pD e1 2000).bind fun r1=>
 some (min r1 2001)
def eo (e1:ac):Nat→Int→Option Bool
 | 0,_=>none
 | fuel1+1,i1=>
  if decide (i1<(e1.Idx.length:Int))then
   (lat e1.Idx i1).bind fun e2=>
   if((decide (e2.From=([]:List UInt8)))&&(decide (0<(e2.At.length:Int))))||((!decide (e2.From=([]:List UInt8)))&&((!decide (e2.Lin.K=0))||(decide (0<(e2.Lin.L.length:Int)))))then
    some false
   else
    (eo e1 fuel1) (au (i1+1))
  else
   some true
def lq (e1:ac):Option Bool:=
 if(decide (e1.Op<1))||(decide (18<e1.Op))then
  some false
 else
  if((!decide (e1.Op=1))&&(!((decide (e1.Val.N=0))&&(decide (e1.Val.D=0)))))||(((!decide (e1.Op=1))&&(!decide (e1.Op=12)))&&(!((decide (e1.Type_.Kind=0))&&(decide (e1.Type_.Bits=0))&&(decide (e1.Type_.Frac=0))&&(decide (e1.Type_.Round=0))&&(decide (e1.Type_.Over=0)))))then
   some false
  else
   if((!decide (e1.Op=2))&&((!decide (e1.Lin.K=0))||(decide (0<(e1.Lin.L.length:Int)))))||((!decide (e1.Op=3))&&((!decide (e1.Name=([]:List UInt8)))||(decide (0<(e1.Idx.length:Int)))))then
    some false
   else
    eo e1 fu 0
def ep (e1:ac):Nat→Int→Option Bool
 | 0,_=>none
 | fuel1+1,i1=>
  if decide (i1<(e1.Idx.length:Int))then
   (lat e1.Idx i1).bind fun e2=>
   (gd (!decide (e2.From=([]:List UInt8))) (lat e1.Idx i1)).bind fun e3=>
   (gd (!decide (e2.From=([]:List UInt8))) (gp e3.From)).bind fun r2=>
   if(!decide (e2.From=([]:List UInt8)))&&(!r2)then
    some false
   else
    (ep e1 fuel1) (au (i1+1))
  else
   some true
def lr (e1:ac):Option Bool:=
 (gd (decide (e1.Op=3)) (gp e1.Name)).bind fun r1=>
 if(decide (e1.Op=3))&&(!r1)then
  some false
 else
  ep e1 fu 0
def iH (op1:Int) (i2:Bool):Option Int:=
 if i2 then
  some 1
 else
  if decide (op1=11)then
   some 3
  else
   some 2
def iI (op1:Int) (i1:Bool):Option Int:=
 if i1 then
  some 0
 else
  if decide (op1=8)then
   iH op1 (decide (op1=8))
  else
   if decide (op1=12)then
    iH op1 (decide (op1=12))
   else
    iH op1 (decide (op1=18))
def ma (op1:Int):Option Int:=
 if decide (op1=1)then
  iI op1 (decide (op1=1))
 else
  if decide (op1=2)then
   iI op1 (decide (op1=2))
  else
   iI op1 (decide (op1=3))
def dU (e1:ac):Nat→Int→Option Bool
 | 0,_=>none
 | fuel1+1,i1=>
  if decide (i1<(e1.Idx.length:Int))then
   (lat e1.Idx i1).bind fun e2=>
   if decide (6<(e2.At.length:Int))then
    some false
   else
    (dU e1 fuel1) (au (i1+1))
  else
   some true
def kz (e1:ac):Option Bool:=
 (ma e1.Op).bind fun r1=>
 if(!decide ((e1.Args.length:Int)=r1))||(decide (6<(e1.Idx.length:Int)))then
  some false
 else
  dU e1 fu 0
def jg (e1:ac):Option Bool:=
 some ((decide (13≤e1.Op))&&(decide (e1.Op≤18)))
def ln (op1:Int) (at1:Int):Option Bool:=
 some (((((decide (op1=11))&&(decide (at1=0)))||(decide (op1=16)))||(decide (op1=17)))||(decide (op1=18)))
def en (e1:ac):Nat→Int→Option Bool
 | 0,_=>none
 | fuel1+1,i1=>
  if decide (i1<(e1.Args.length:Int))then
   (lat e1.Args i1).bind fun e2=>
   (jg e2).bind fun r2=>
   (ln e1.Op i1).bind fun r3=>
   if r2 != r3 then
    some false
   else
    (en e1 fuel1) (au (i1+1))
  else
   some true
def lp (e1:ac):Option Bool:=
 (gd ((decide (e1.Op=1))||(decide (e1.Op=12))) (kM e1.Type_)).bind fun r1=>
 if((decide (e1.Op=1))||(decide (e1.Op=12)))&&(!r1)then
  some false
 else
  en e1 fu 0
def ke (self1:Int→Option Bool) (i1:Int):Option Bool:=
 self1 (au (i1+1))
def dV (e1:ac) (i1:Int) (self1:Int→Option Bool):Nat→Int→Option Bool
 | 0,_=>none
 | fuel2+1,k1=>
  (lat e1.Idx i1).bind fun e3=>
  if decide (k1<(e3.At.length:Int))then
   (lat e1.Idx i1).bind fun e4=>
   (lat e4.At k1).bind fun e5=>
   (eg e5).bind fun r4=>
   if !r4 then
    some false
   else
    (dV e1 i1 self1 fuel2) (au (k1+1))
  else
   ke self1 i1
def bv (e1:ac):Nat→Int→Option Bool
 | 0,_=>none
 | fuel1+1,i1=>
  if decide (i1<(e1.Idx.length:Int))then
   (lat e1.Idx i1).bind fun e2=>
   (eg e2.Lin).bind fun r3=>
   if !r3 then
    some false
   else
    dV e1 i1 (bv e1 fuel1) fu 0
  else
   some true
def kB (e1:ac):Option Bool:=
 (gd (decide (e1.Op=1)) (lK e1.Type_ e1.Val)).bind fun r1=>
 (gd (!((decide (e1.Op=1))&&(!r1))) (eg e1.Lin)).bind fun r2=>
 if((decide (e1.Op=1))&&(!r1))||(!r2)then
  some false
 else
  bv e1 fu 0
def fJ (e1:ac) (rec_:(ac→Option Int)):Nat→Int→Option Int
 | 0,_=>none
 | fuel1+1,i1=>
  if decide (i1<(e1.Args.length:Int))then
   (lat e1.Args i1).bind fun e2=>
   (rec_ e2).bind fun r6=>
   if !decide (r6=0)then
    some r6
   else
    (fJ e1 rec_ fuel1) (au (i1+1))
  else
   some 0
def kA (rec_:(ac→Option Int)) (e1:ac):Option Int:=
 (lq e1).bind fun r1=>
 if !r1 then
  some 5
 else
  (lr e1).bind fun r2=>
  if !r2 then
   some 7
  else
   (kz e1).bind fun r3=>
   if !r3 then
    some 11
   else
    (lp e1).bind fun r4=>
    if !r4 then
     some 10
    else
     (kB e1).bind fun r5=>
     if !r5 then
      some 1
     else
      fJ e1 rec_ fu 0
def jp:Nat→(ac→Option Int)
 | 0=>fun _=>none
 | n+1=>kA (jp n)
def pE (e1:ac):Option Int:=jp fu e1
def jq (e1:ac):Option Int:=
 (mS e1).bind fun r1=>
 if decide (40<r1)then
  some 13
 else
  (mb e1).bind fun r2=>
  if decide (2000<r2)then
   some 2
  else
   (pE e1).bind fun r3=>
   some r3
def gq (a1:List ay) (b1:List ay):Nat→Int→Option Bool
 | 0,_=>none
 | fuel1+1,i1=>
  if decide (i1<(a1.length:Int))then
   (lat a1 i1).bind fun e1=>
   (lat b1 i1).bind fun e2=>
   (kN e1 e2).bind fun r1=>
   if !r1 then
    some false
   else
    (gq a1 b1 fuel1) (au (i1+1))
  else
   some true
def m5 (a1:List ay) (b1:List ay):Option Bool:=
 if !decide ((a1.length:Int)=(b1.length:Int))then
  some false
 else
  gq a1 b1 fu 0
def mp (a1:av) (b1:av):Option Bool:=
 (gd (decide (a1.From=b1.From)) (kN a1.Lin b1.Lin)).bind fun r1=>
 (gd ((decide (a1.From=b1.From))&&r1) (m5 a1.At b1.At)).bind fun r2=>
 some (((decide (a1.From=b1.From))&&r1)&&r2)
def eH (a1:List av) (b1:List av):Nat→Int→Option Bool
 | 0,_=>none
 | fuel1+1,i1=>
  if decide (i1<(a1.length:Int))then
   (lat a1 i1).bind fun e1=>
   (lat b1 i1).bind fun e2=>
   (mp e1 e2).bind fun r1=>
   if !r1 then
    some false
   else
    (eH a1 b1 fuel1) (au (i1+1))
  else
   some true
def kO (a1:List av) (b1:List av):Option Bool:=
 if !decide ((a1.length:Int)=(b1.length:Int))then
  some false
 else
  eH a1 b1 fu 0
def fN (a1:List ac) (b1:List ac) (rec_:(ac→ac→Option Bool)):Nat→Int→Option Bool
 | 0,_=>none
 | fuel1+1,i1=>
  if decide (i1<(a1.length:Int))then
   (lat a1 i1).bind fun e1=>
   (lat b1 i1).bind fun e2=>
   (rec_ e1 e2).bind fun r1=>
   if !r1 then
    some false
   else
    (fN a1 b1 rec_ fuel1) (au (i1+1))
  else
   some true
def mq (rec_:(ac→ac→Option Bool)) (a1:List ac) (b1:List ac):Option Bool:=
 if !decide ((a1.length:Int)=(b1.length:Int))then
  some false
 else
  fN a1 b1 rec_ fu 0
def lC (rec_:(ac→ac→Option Bool)) (a1:ac) (b1:ac):Option Bool:=
 (gd ((((decide (a1.Op=b1.Op))&&(decide (a1.Name=b1.Name)))&&((decide (a1.Val.N=b1.Val.N))&&(decide (a1.Val.D=b1.Val.D))))&&((decide (a1.Type_.Kind=b1.Type_.Kind))&&(decide (a1.Type_.Bits=b1.Type_.Bits))&&(decide (a1.Type_.Frac=b1.Type_.Frac))&&(decide (a1.Type_.Round=b1.Type_.Round))&&(decide (a1.Type_.Over=b1.Type_.Over)))) (kN a1.Lin b1.Lin)).bind fun r1=>
 (gd (((((decide (a1.Op=b1.Op))&&(decide (a1.Name=b1.Name)))&&((decide (a1.Val.N=b1.Val.N))&&(decide (a1.Val.D=b1.Val.D))))&&((decide (a1.Type_.Kind=b1.Type_.Kind))&&(decide (a1.Type_.Bits=b1.Type_.Bits))&&(decide (a1.Type_.Frac=b1.Type_.Frac))&&(decide (a1.Type_.Round=b1.Type_.Round))&&(decide (a1.Type_.Over=b1.Type_.Over))))&&r1) (kO a1.Idx b1.Idx)).bind fun r2=>
 (gd ((((((decide (a1.Op=b1.Op))&&(decide (a1.Name=b1.Name)))&&((decide (a1.Val.N=b1.Val.N))&&(decide (a1.Val.D=b1.Val.D))))&&((decide (a1.Type_.Kind=b1.Type_.Kind))&&(decide (a1.Type_.Bits=b1.Type_.Bits))&&(decide (a1.Type_.Frac=b1.Type_.Frac))&&(decide (a1.Type_.Round=b1.Type_.Round))&&(decide (a1.Type_.Over=b1.Type_.Over))))&&r1)&&r2) (mq rec_ a1.Args b1.Args)).bind fun r3=>
 some (((((((decide (a1.Op=b1.Op))&&(decide (a1.Name=b1.Name)))&&((decide (a1.Val.N=b1.Val.N))&&(decide (a1.Val.D=b1.Val.D))))&&((decide (a1.Type_.Kind=b1.Type_.Kind))&&(decide (a1.Type_.Bits=b1.Type_.Bits))&&(decide (a1.Type_.Frac=b1.Type_.Frac))&&(decide (a1.Type_.Round=b1.Type_.Round))&&(decide (a1.Type_.Over=b1.Type_.Over))))&&r1)&&r2)&&r3)
def jf:Nat→(ac→ac→Option Bool)
 | 0=>fun _ _=>none
 | n+1=>lC (jf n)
def oB (a1:ac) (b1:ac):Option Bool:=jf fu a1 b1
def fM (e1:ac) (most1:Int) (rec_:(ac→Int→Option Int)):Nat→Int→Int→Option Int
 | 0,_,_=>none
 | fuel1+1,n3,i1=>
  if(decide (i1<(e1.Args.length:Int)))&&(decide (n3≤most1))then
   (lat e1.Args i1).bind fun e2=>
   (rec_ e2 (au (most1 - n3))).bind fun r1=>
   (fM e1 most1 rec_ fuel1) (au (n3+r1)) (au (i1+1))
  else
   some n3
def iO (e1:ac) (most1:Int) (rec_:(ac→Int→Option Int)) (n2:Int):Option Int:=
 fM e1 most1 rec_ fu n2 0
def lG (self2:Int→Int→Option Int) (i2:Int) (n5:Int):Option Int:=
 self2 n5 (au (i2+1))
def fL (e1:ac) (i2:Int) (most1:Int) (self2:Int→Int→Option Int):Nat→Int→Int→Option Int
 | 0,_,_=>none
 | fuel3+1,n6,k1=>
  (lat e1.Idx i2).bind fun e5=>
  if(decide (k1<(e5.At.length:Int)))&&(decide (n6≤most1))then
   (lat e1.Idx i2).bind fun e6=>
   (lat e6.At k1).bind fun e7=>
   (some (au (n6+(e7.L.length:Int)))).bind fun n7=>
   (fL e1 i2 most1 self2 fuel3) n7 (au (k1+1))
  else
   lG self2 i2 n6
def cx (e1:ac) (most1:Int) (rec_:(ac→Int→Option Int)):Nat→Int→Int→Option Int
 | 0,_,_=>none
 | fuel2+1,n4,i2=>
  if(decide (i2<(e1.Idx.length:Int)))&&(decide (n4≤most1))then
   (lat e1.Idx i2).bind fun e3=>
   (lat e1.Idx i2).bind fun e4=>
   fL e1 i2 most1 (cx e1 most1 rec_ fuel2) fu (au ((au (n4+(e3.Lin.L.length:Int)))+(e4.At.length:Int))) 0
  else
   iO e1 most1 rec_ n4
def kL (rec_:(ac→Int→Option Int)) (e1:ac) (most1:Int):Option Int:=
 (some (au ((au (1+(e1.Lin.L.length:Int)))+(e1.Idx.length:Int)))).bind fun n1=>
 cx e1 most1 rec_ fu n1 0
def dh:Nat→(ac→Int→Option Int)
 | 0=>fun _ _=>none
 | n+1=>kL (dh n)
def pJ (e1:ac) (most1:Int):Option Int:=dh fu e1 most1
def lk (e1:ac):Option Bool:=
 (pJ e1 300).bind fun r1=>
 some (decide (r1≤300))
def l7 (op1:Int):Option (List UInt8):=
 if decide (op1=4)then
  some ([32,43,32]:List UInt8)
 else
  if decide (op1=5)then
   some ([32,45,32]:List UInt8)
  else
   if decide (op1=6)then
    some ([32,42,32]:List UInt8)
   else
    if decide (op1=7)then
     some ([32,47,32]:List UInt8)
    else
     if decide (op1=13)then
      some ([32,60,32]:List UInt8)
     else
      if decide (op1=14)then
       some ([32,60,61,32]:List UInt8)
      else
       if decide (op1=15)then
        some ([32,61,61,32]:List UInt8)
       else
        if decide (op1=16)then
         some ([32,38,32]:List UInt8)
        else
         if decide (op1=17)then
          some ([32,124,32]:List UInt8)
         else
          some ([]:List UInt8)
def jm (op1:Int) (i3:Bool):Option Int:=
 if i3 then
  some 6
 else
  if decide (op1=8)then
   some 7
  else
   some 8
def jn (op1:Int) (i2:Bool):Option Int:=
 if i2 then
  some 5
 else
  if decide (op1=6)then
   jm op1 (decide (op1=6))
  else
   jm op1 (decide (op1=7))
def ig (op1:Int) (i1:Bool):Option Int:=
 if i1 then
  some 4
 else
  if decide (op1=4)then
   jn op1 (decide (op1=4))
  else
   jn op1 (decide (op1=5))
def hP (op1:Int):Option Int:=
 if decide (op1=17)then
  some 1
 else
  if decide (op1=16)then
   some 2
  else
   if decide (op1=18)then
    some 3
   else
    if decide (op1=13)then
     ig op1 (decide (op1=13))
    else
     if decide (op1=14)then
      ig op1 (decide (op1=14))
     else
      ig op1 (decide (op1=15))
def fH (rec_:(ac→Option (List UInt8))) (e1:ac) (least1:Int):Option (List UInt8):=
 (hP e1.Op).bind fun r1=>
 if decide (r1<least1)then
  (rec_ e1).bind fun r2=>
  (cF ([40]:List UInt8) r2).bind fun s1=>
  (cF s1 ([41]:List UInt8)).bind fun s2=>
  some s2
 else
  (rec_ e1).bind fun r3=>
  some r3
def es:Nat→Int→(List UInt8)→Option (List UInt8)
 | 0,_,_=>none
 | fuel1+1,n2,s1=>
  if decide (10≤n2)then
   (rE ([48,49,50,51,52,53,54,55,56,57]:List UInt8) (Int.tmod n2 10) (ei ((Int.tmod n2 10)+1))).bind fun s2=>
   (cF s2 s1).bind fun s3=>
   (es fuel1) (ei (Int.tdiv n2 10)) s3
  else
   (rE ([48,49,50,51,52,53,54,55,56,57]:List UInt8) n2 (ei (n2+1))).bind fun s4=>
   (cF s4 s1).bind fun s5=>
   some s5
def hU (n1:Int):Option (List UInt8):=
 es fu n1 ([]:List UInt8)
def d9 (n1:Int):Option (List UInt8):=
 if decide (n1<0)then
  (fw n1).bind fun r1=>
  (hU r1).bind fun r2=>
  (cF ([45]:List UInt8) r2).bind fun s1=>
  some s1
 else
  (fw n1).bind fun r3=>
  (hU r3).bind fun r4=>
  some r4
def l8 (how1:Int):Option (List UInt8):=
 if decide (how1=1)then
  some ([102,108,111,111,114]:List UInt8)
 else
  if decide (how1=2)then
   some ([99,101,105,108]:List UInt8)
  else
   if decide (how1=3)then
    some ([122,101,114,111]:List UInt8)
   else
    some ([101,118,101,110]:List UInt8)
def iF (t1:aM) (over2:List UInt8):Option (List UInt8):=
 (d9 t1.Bits).bind fun r2=>
 (cF ([102,105,120,40]:List UInt8) r2).bind fun s1=>
 (cF s1 ([44,32]:List UInt8)).bind fun s2=>
 (d9 t1.Frac).bind fun r3=>
 (cF s2 r3).bind fun s3=>
 (cF s3 ([44,32]:List UInt8)).bind fun s4=>
 (l8 t1.Round).bind fun r4=>
 (cF s4 r4).bind fun s5=>
 (cF s5 ([44,32]:List UInt8)).bind fun s6=>
 (cF s6 over2).bind fun s7=>
 (cF s7 ([41]:List UInt8)).bind fun s8=>
 some s8
def kT (t1:aM):Option (List UInt8):=
 (kM t1).bind fun r1=>
 if !r1 then
  some ([]:List UInt8)
 else
  if decide (t1.Kind=1)then
   some ([102,114,97,99]:List UInt8)
  else
   if decide (t1.Kind=3)then
    some ([105,110,116]:List UInt8)
   else
    (some (([115,97,116]:List UInt8))).bind fun over1=>
    if decide (t1.Over=2)then
     (some (([119,114,97,112]:List UInt8))).bind fun over3=>
     iF t1 over3
    else
     iF t1 over1
def lu (t1:aM) (v1:bj):Option Bool:=
 (kM t1).bind fun r1=>
 (gd r1 (lK t1 v1)).bind fun r2=>
 some (r1&&r2)
def nA (minus1:Bool) (n1:Int) (d1:Int):Option (bj×Int):=
 (oz n1 d1).bind fun r1=>
 if r1≠0 then
  if(decide (2147483647<ei (Int.tdiv n1 r1)))||(decide (2147483647<ei (Int.tdiv d1 r1)))then
   some ((⟨0,0⟩:bj),3)
  else
   if minus1 then
    some ((⟨au (-(au (ei (Int.tdiv n1 r1)))),au (ei (Int.tdiv d1 r1))⟩:bj),0)
   else
    some ((⟨au (ei (Int.tdiv n1 r1)),au (ei (Int.tdiv d1 r1))⟩:bj),0)
 else none
def oA (n1:Int) (d1:Int):Option (bj×Int):=
 if decide (d1=0)then
  some ((⟨0,0⟩:bj),4)
 else
  (fw n1).bind fun r1=>
  (fw d1).bind fun r2=>
  (nA ((decide (n1<0)) != (decide (d1<0))) r1 r2).bind fun r3=>
  some (r3.1,r3.2)
def je (t1:aM) (v1:bj):Option bj:=
 if decide (t1.Kind=2)then
  (me t1).bind fun r1=>
  (oA v1.N r1).bind fun r2=>
  some r2.1
 else
  some v1
def lv (v1:bj):Option Bool:=
 (lK (⟨1,0,0,0,0⟩:aM) v1).bind fun r1=>
 some r1
def il (a1:bj):Option (List UInt8):=
 (lv a1).bind fun r1=>
 if !r1 then
  some ([]:List UInt8)
 else
  if decide (a1.D=1)then
   (d9 a1.N).bind fun r2=>
   some r2
  else
   (d9 a1.N).bind fun r3=>
   (cF r3 ([47]:List UInt8)).bind fun s1=>
   (d9 a1.D).bind fun r4=>
   (cF s1 r4).bind fun s2=>
   some s2
def kE (t1:aM) (v1:bj):Option (List UInt8):=
 (lu t1 v1).bind fun r1=>
 if !r1 then
  some ([]:List UInt8)
 else
  (je t1 v1).bind fun r2=>
  (il r2).bind fun r3=>
  some r3
def jL (n1:Int):Option Int:=
 if decide (n1<0)then
  some (ei ((ei (au (-(au (n1+1)))))+1))
 else
  some (ei n1)
def fv:Nat→Int→(List UInt8)→Option (List UInt8)
 | 0,_,_=>none
 | fuel1+1,n2,s1=>
  (cF (tR ([H5 (ei (48+(Int.tmod n2 10)))]:List Int)) s1).bind fun s2=>
  if decide (ei (Int.tdiv n2 10)=0)then
   some s2
  else
   (fv fuel1) (ei (Int.tdiv n2 10)) s2
def jr (n1:Int):Option (List UInt8):=
 fv fu n1 ([]:List UInt8)
def kU (s1:List UInt8) (negative1:Bool) (t1:List UInt8):Option (List UInt8):=
 if(decide (s1=([]:List UInt8)))&&negative1 then
  (cF ([45]:List UInt8) t1).bind fun s2=>
  some s2
 else
  if decide (s1=([]:List UInt8))then
   some t1
  else
   if negative1 then
    (cF s1 ([32,45,32]:List UInt8)).bind fun s3=>
    (cF s3 t1).bind fun s4=>
    some s4
   else
    (cF s1 ([32,43,32]:List UInt8)).bind fun s5=>
    (cF s5 t1).bind fun s6=>
    some s6
def kg (l1:ay) (s1:List UInt8):Option (List UInt8):=
 if(!decide (l1.K=0))||(decide ((l1.L.length:Int)=0))then
  (jL l1.K).bind fun r2=>
  (jr r2).bind fun r3=>
  (kU s1 (decide (l1.K<0)) r3).bind fun r4=>
  some r4
 else
  some s1
def gw (s2:List UInt8) (e1:aw) (self1:(List UInt8)→Int→Option (List UInt8)) (i1:Int) (t1:List UInt8):Option (List UInt8):=
 (kU s2 (decide (e1.By<0)) t1).bind fun r5=>
 self1 r5 (au (i1+1))
def bY (l1:ay):Nat→(List UInt8)→Int→Option (List UInt8)
 | 0,_,_=>none
 | fuel1+1,s2,i1=>
  if decide (i1<(l1.L.length:Int))then
   (lat l1.L i1).bind fun e1=>
   (lat l1.L i1).bind fun e2=>
   (jL e1.By).bind fun r6=>
   if !decide (r6=1)then
    (jL e1.By).bind fun r7=>
    (jr r7).bind fun r8=>
    (cF r8 ([42]:List UInt8)).bind fun s3=>
    (cF s3 e2.Name).bind fun s4=>
    gw s2 e1 (bY l1 fuel1) i1 s4
   else
    gw s2 e1 (bY l1 fuel1) i1 e2.Name
  else
   kg l1 s2
def ik (l1:ay):Option (List UInt8):=
 (fW l1).bind fun r1=>
 if !decide (r1=0)then
  some ([]:List UInt8)
 else
  bY l1 fu ([]:List UInt8) 0
def fa (l1:List ay):Nat→Int→Option Bool
 | 0,_=>none
 | fuel1+1,i1=>
  if decide (i1<(l1.length:Int))then
   (lat l1 i1).bind fun e1=>
   (eg e1).bind fun r1=>
   if !r1 then
    some false
   else
    (fa l1 fuel1) (au (i1+1))
  else
   some true
def mR (l1:List ay):Option Bool:=
 fa l1 fu 0
def ie (l1:List ay) (i1:Int) (self1:(List UInt8)→Int→Option (List UInt8)) (s2:List UInt8):Option (List UInt8):=
 (lat l1 i1).bind fun e1=>
 (ik e1).bind fun r1=>
 (cF s2 r1).bind fun s3=>
 self1 s3 (au (i1+1))
def dD (l1:List ay):Nat→(List UInt8)→Int→Option (List UInt8)
 | 0,_,_=>none
 | fuel1+1,s1,i1=>
  if decide (i1<(l1.length:Int))then
   if decide (0<i1)then
    (cF s1 ([44,32]:List UInt8)).bind fun s4=>
    ie l1 i1 (dD l1 fuel1) s4
   else
    ie l1 i1 (dD l1 fuel1) s1
  else
   some s1
def lj (l1:List ay):Option (List UInt8):=
 dD l1 fu ([]:List UInt8) 0
def lm (x1:av):Option (List UInt8):=
 (eg x1.Lin).bind fun r1=>
 (gd (!(!r1)) (mR x1.At)).bind fun r2=>
 if(!r1)||(!r2)then
  some ([]:List UInt8)
 else
  if decide (x1.From=([]:List UInt8))then
   if decide (0<(x1.At.length:Int))then
    some ([]:List UInt8)
   else
    (ik x1.Lin).bind fun r3=>
    some r3
  else
   (gp x1.From).bind fun r4=>
   if((!r4)||(!decide (x1.Lin.K=0)))||(decide (0<(x1.Lin.L.length:Int)))then
    some ([]:List UInt8)
   else
    (cF x1.From ([91]:List UInt8)).bind fun s1=>
    (lj x1.At).bind fun r5=>
    (cF s1 r5).bind fun s2=>
    (cF s2 ([93]:List UInt8)).bind fun s3=>
    some s3
def lF (e1:ac) (rec_:(ac→Option (List UInt8))):Option (List UInt8):=
 (lat e1.Args 0).bind fun e4=>
 (kT e1.Type_).bind fun r6=>
 (cF ([99,97,115,116,40]:List UInt8) r6).bind fun s3=>
 (cF s3 ([44,32]:List UInt8)).bind fun s4=>
 (rec_ e4).bind fun r7=>
 (cF s4 r7).bind fun s5=>
 (cF s5 ([41]:List UInt8)).bind fun s6=>
 some s6
def iE (e1:ac) (i1:Int) (self1:(List UInt8)→Int→Option (List UInt8)) (s14:List UInt8):Option (List UInt8):=
 (lat e1.Idx i1).bind fun e5=>
 (lm e5).bind fun r11=>
 (cF s14 r11).bind fun s15=>
 self1 s15 (au (i1+1))
def dy (e1:ac):Nat→(List UInt8)→Int→Option (List UInt8)
 | 0,_,_=>none
 | fuel1+1,s13,i1=>
  if decide (i1<(e1.Idx.length:Int))then
   if decide (0<i1)then
    (cF s13 ([44,32]:List UInt8)).bind fun s16=>
    iE e1 i1 (dy e1 fuel1) s16
   else
    iE e1 i1 (dy e1 fuel1) s13
  else
   (cF s13 ([93]:List UInt8)).bind fun s17=>
   some s17
def kx (rec_:(ac→Option (List UInt8))) (e1:ac):Option (List UInt8):=
 (l7 e1.Op).bind fun r1=>
 if !decide (r1=([]:List UInt8))then
  (lat e1.Args 0).bind fun e2=>
  (lat e1.Args 1).bind fun e3=>
  (hP e1.Op).bind fun r2=>
  (fH rec_ e2 r2).bind fun r3=>
  (cF r3 r1).bind fun s1=>
  (hP e1.Op).bind fun r4=>
  (fH rec_ e3 (au (r4+1))).bind fun r5=>
  (cF s1 r5).bind fun s2=>
  some s2
 else
  if decide (e1.Op=1)then
   (kT e1.Type_).bind fun r8=>
   (cF r8 ([40]:List UInt8)).bind fun s7=>
   (kE e1.Type_ e1.Val).bind fun r9=>
   (cF s7 r9).bind fun s8=>
   (cF s8 ([41]:List UInt8)).bind fun s9=>
   some s9
  else
   if decide (e1.Op=2)then
    (ik e1.Lin).bind fun r10=>
    (cF ([91]:List UInt8) r10).bind fun s10=>
    (cF s10 ([93]:List UInt8)).bind fun s11=>
    some s11
   else
    if decide (e1.Op=3)then
     (cF e1.Name ([91]:List UInt8)).bind fun s12=>
     dy e1 fu s12 0
    else
     if decide (e1.Op=8)then
      (lat e1.Args 0).bind fun e6=>
      (fH rec_ e6 7).bind fun r12=>
      (cF ([45]:List UInt8) r12).bind fun s18=>
      some s18
     else
      if decide (e1.Op=18)then
       (lat e1.Args 0).bind fun e7=>
       (fH rec_ e7 3).bind fun r13=>
       (cF ([33]:List UInt8) r13).bind fun s19=>
       some s19
      else
       if decide (e1.Op=9)then
        (lat e1.Args 0).bind fun e8=>
        (lat e1.Args 1).bind fun e9=>
        (rec_ e8).bind fun r14=>
        (cF ([109,105,110,40]:List UInt8) r14).bind fun s20=>
        (cF s20 ([44,32]:List UInt8)).bind fun s21=>
        (rec_ e9).bind fun r15=>
        (cF s21 r15).bind fun s22=>
        (cF s22 ([41]:List UInt8)).bind fun s23=>
        some s23
       else
        if decide (e1.Op=10)then
         (lat e1.Args 0).bind fun e10=>
         (lat e1.Args 1).bind fun e11=>
         (rec_ e10).bind fun r16=>
         (cF ([109,97,120,40]:List UInt8) r16).bind fun s24=>
         (cF s24 ([44,32]:List UInt8)).bind fun s25=>
         (rec_ e11).bind fun r17=>
         (cF s25 r17).bind fun s26=>
         (cF s26 ([41]:List UInt8)).bind fun s27=>
         some s27
        else
         if decide (e1.Op=11)then
          (lat e1.Args 0).bind fun e12=>
          (lat e1.Args 1).bind fun e13=>
          (lat e1.Args 2).bind fun e14=>
          (rec_ e12).bind fun r18=>
          (cF ([105,102,40]:List UInt8) r18).bind fun s28=>
          (cF s28 ([44,32]:List UInt8)).bind fun s29=>
          (rec_ e13).bind fun r19=>
          (cF s29 r19).bind fun s30=>
          (cF s30 ([44,32]:List UInt8)).bind fun s31=>
          (rec_ e14).bind fun r20=>
          (cF s31 r20).bind fun s32=>
          (cF s32 ([41]:List UInt8)).bind fun s33=>
          some s33
         else
          lF e1 rec_
def jl:Nat→(ac→Option (List UInt8))
 | 0=>fun _=>none
 | n+1=>kx (jl n)
def pC (e1:ac):Option (List UInt8):=jl fu e1
def l9 (e1:ac):Option (List UInt8):=
 (jq e1).bind fun r1=>
 if !decide (r1=0)then
  some ([]:List UInt8)
 else
  (pC e1).bind fun r2=>
  some r2
def iA (x1:ac):Option Bool:=
 (lk x1).bind fun r1=>
 if !r1 then
  (ij).bind fun r2=>
  some r2
 else
  (l9 x1).bind fun r3=>
  if(decide (r3=([]:List UInt8)))||(decide (20000<(r3.length:Int)))then
   (ij).bind fun r4=>
   some r4
  else
   (gh r3).bind fun r5=>
   (gd ((decide (r5.2.2=0))&&(decide (r5.2.1=0))) (oB x1 r5.1)).bind fun r6=>
   (gd (((decide (r5.2.2=0))&&(decide (r5.2.1=0)))&&r6) (ij)).bind fun r7=>
   some ((((decide (r5.2.2=0))&&(decide (r5.2.1=0)))&&r6)&&r7)
end Go.Proofs.YtmhoikfoogemnaaGreatDoor
