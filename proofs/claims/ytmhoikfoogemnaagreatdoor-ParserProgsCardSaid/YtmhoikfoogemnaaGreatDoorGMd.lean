import Derived.Test.YtmhoikfoogemnaaGreatDoorGXm
namespace Go.Proofs.YtmhoikfoogemnaaGreatDoor
open Go Go.RowKit Go.Vc
set_option linter.unusedVariables false
set_option linter.unusedSimpArgs false
structure bm where
 Kind:Int
 At:Int
 Text:List UInt8
deriving Inhabited,DecidableEq
def af:Cod bm where
 n:=3
 rel _ _ x cs:=cs=[(Value.int .i64 x.Kind),(Value.int .i64 x.At),(aT x.Text)]
 len h:=by subst h;rfl
 one h:=by subst h;rfl
 sp _ h:=h
structure aa where
 l:List bm
 at_:Int
 deep:Int
deriving Inhabited,DecidableEq
def fnP_k1 (v:Value) (m:(Int→Option Bool)) (D:NP) (w:World):Prop:=
 Hl v=true∧∀ (D':NP) (w':World),Sp D w D' w'→(∀ k,D' k→k<w'.heap.size)→∀ (x_1:Int) (r:Bool),AllCl [] D' w'→m x_1=some r→
  CallV Tryz.prog v [(Value.int .i32 x_1)] w' λe w''=>e= .returned (Value.bool r)∧Ext w' w''∧AllCl [] D' w''
theorem fnP_k1.sp {v:Value} {m:(Int→Option Bool)} {D D':NP} {w w':World} (hs:Sp D w D' w') (h:fnP_k1 v m D w):fnP_k1 v m D' w':=⟨h.1,λD'' w'' hs'=>h.2 D'' w'' (hs.trans hs')⟩
def ub (v:Value) (m:(Int→Option Bool)):Cl:=⟨fnP_k1 v m,fnP_k1.sp⟩
structure GMono where
 Name:List UInt8
 By:Int
deriving Inhabited,DecidableEq
def aj:Cod GMono where
 n:=2
 rel _ _ x cs:=cs=[(aT x.Name),(Value.int .i64 x.By)]
 len h:=by subst h;rfl
 one h:=by subst h;rfl
 sp _ h:=h
structure GLin where
 K:Int
 L:List GMono
deriving Inhabited,DecidableEq
def dQ:Cod GLin where
 n:=2
 rel D w x cs:=∃ (A0:Option Addr) (c0:Nat),cs=[(Value.int .i64 x.K),(Value.slice A0 x.L.length c0)]∧SlC aj D w A0 c0 x.L
 len h:=by obtain⟨_,_,rfl,_⟩:=h;rfl
 one h:=by obtain⟨A0,c0,rfl,h0⟩:=h;rfl
 sp hs h:=by obtain⟨A0,c0,rfl,h0⟩:=h;exact⟨_,_,rfl,h0.sp hs⟩
def fnS_k2 {σ:Type} (I:StI σ) (v:Value) (m:((List UInt8)→Int→Int→σ→Option (Unit×σ))) (D:NP) (w:World):Prop:=
 Hl v=true∧∀ (C0 F:NP) (w':World),Sp D w (Dj F C0) w'→∀ (x_1:List UInt8) (x_2:Int) (x_3:Int) (s:σ) (r:Unit×σ),Bun C0 F w' C0 w' [MO.st I s] []→m x_1 x_2 x_3 s=some r→
  CallV Tryz.prog v [(aT x_1),(Value.int .i64 x_2),(Value.int .i64 x_3)] w' λe w''=>∃ (C:NP),e= .returned (Value.tuple #[])∧Bun C0 F w' C w'' [MO.st I r.2] []
theorem fnS_k2.sp {σ:Type} {I:StI σ} {v:Value} {m:((List UInt8)→Int→Int→σ→Option (Unit×σ))} {D D':NP} {w w':World} (hs:Sp D w D' w') (h:fnS_k2 I v m D w):fnS_k2 I v m D' w':=⟨h.1,λC0 F w'' hs'=>h.2 C0 F w'' (hs.trans hs')⟩
def yD {σ:Type} (I:StI σ) (v:Value) (m:((List UInt8)→Int→Int→σ→Option (Unit×σ))):Cl:=⟨fnS_k2 I v m,fnS_k2.sp⟩
structure GType where
 Kind:Int
 Bits:Int
 Frac:Int
 Round:Int
 Over:Int
deriving Inhabited,DecidableEq
structure GVal where
 N:Int
 D:Int
deriving Inhabited,DecidableEq
structure GIndex where
 Lin:GLin
 From:List UInt8
 At:List GLin
deriving Inhabited,DecidableEq
def an:Cod GIndex where
 n:=4
 rel D w x cs:=∃ (A0:Option Addr) (c0:Nat) (A2:Option Addr) (c2:Nat),cs=[(Value.int .i64 x.Lin.K),(Value.slice A0 x.Lin.L.length c0),(aT x.From),(Value.slice A2 x.At.length c2)]∧SlC aj D w A0 c0 x.Lin.L∧SlC dQ D w A2 c2 x.At
 len h:=by obtain⟨_,_,_,_,rfl,_,_⟩:=h;rfl
 one h:=by obtain⟨A0,c0,A2,c2,rfl,h0,h1⟩:=h;rfl
 sp hs h:=by obtain⟨A0,c0,A2,c2,rfl,h0,h1⟩:=h;exact⟨_,_,_,_,rfl,h0.sp hs,h1.sp hs⟩
structure GExpr where
 Op:Int
 Name:List UInt8
 Val:GVal
 Type_:GType
 Lin:GLin
 Idx:List GIndex
 Args:List GExpr
instance:Inhabited GExpr:=⟨⟨0,[],default,default,default,[],[]⟩⟩
def uc (c:Cod GExpr):Cod GExpr where
 n:=13
 rel D w x cs:=∃ (A0:Option Addr) (c0:Nat) (A2:Option Addr) (c2:Nat) (A4:Option Addr) (c4:Nat),cs=[(Value.int .i64 x.Op),(aT x.Name),(Value.int .i64 x.Val.N),(Value.int .i64 x.Val.D),(Value.int .i64 x.Type_.Kind),(Value.int .i64 x.Type_.Bits),(Value.int .i64 x.Type_.Frac),(Value.int .i64 x.Type_.Round),(Value.int .i64 x.Type_.Over),(Value.int .i64 x.Lin.K),(Value.slice A0 x.Lin.L.length c0),(Value.slice A2 x.Idx.length c2),(Value.slice A4 x.Args.length c4)]∧SlC aj D w A0 c0 x.Lin.L∧SlC an D w A2 c2 x.Idx∧SlC c D w A4 c4 x.Args
 len h:=by obtain⟨_,_,_,_,_,_,rfl,_,_,_⟩:=h;rfl
 one h:=by obtain⟨A0,c0,A2,c2,A4,c4,rfl,h0,h1,h2⟩:=h;rfl
 sp hs h:=by obtain⟨A0,c0,A2,c2,A4,c4,rfl,h0,h1,h2⟩:=h;exact⟨_,_,_,_,_,_,rfl,h0.sp hs,h1.sp hs,h2.sp hs⟩
theorem vT {c c':Cod GExpr} (hm:∀ D w x cs,c.rel D w x cs→c'.rel D w x cs):∀ D w x cs,(uc c).rel D w x cs→(uc c').rel D w x cs:=λD w x cs h=>by
 obtain⟨A0,c0,A2,c2,A4,c4,rfl,h0,h1,h2⟩:=h;exact⟨_,_,_,_,_,_,rfl,h0,h1,h2.mono hm⟩
def ap:Cod GExpr:=Cod.fix uc 13 (λ_=>rfl)
theorem jm {D:NP} {w:World} {x:GExpr} {cs:List Value} (h:ap.rel D w x cs):(uc ap).rel D w x cs:=by
 obtain⟨k,hk⟩:=h
 cases k with
 | zero=>exact False.elim hk
 | succ k=>exact vT (c:=F0 uc 13 k) (c':=ap) (λ_ _ _ _ h=>⟨k,h⟩) _ _ _ _ hk
theorem jg {D:NP} {w:World} {x:GExpr} {cs:List Value} (h:(uc ap).rel D w x cs):ap.rel D w x cs:=by
 obtain⟨A0,c0,A2,c2,A4,c4,rfl,h0,h1,h2⟩:=h
 obtain⟨k,hk⟩:=h2.fix_out vT
 exact⟨k+1,_,_,_,_,_,_,rfl,h0,h1,hk⟩
def fnS_k5 {σ:Type} (I:StI σ) (v:Value) (m:(GExpr→σ→Option (Bool×σ))) (D:NP) (w:World):Prop:=
 Hl v=true∧∀ (C0 F:NP) (w':World),Sp D w (Dj F C0) w'→∀ (x_1:GExpr) (A_2:Option Addr) (c_3:Nat) (A_4:Option Addr) (c_5:Nat) (A_6:Option Addr) (c_7:Nat) (s:σ) (r:Bool×σ),Bun C0 F w' C0 w' [MO.st I s] [LT aj A_2 c_3 x_1.Lin.L,LT an A_4 c_5 x_1.Idx,LT ap A_6 c_7 x_1.Args]→m x_1 s=some r→
  CallV Tryz.prog v [(Value.agg #[(Value.int .i64 x_1.Op),(aT x_1.Name),(Value.int .i64 x_1.Val.N),(Value.int .i64 x_1.Val.D),(Value.int .i64 x_1.Type_.Kind),(Value.int .i64 x_1.Type_.Bits),(Value.int .i64 x_1.Type_.Frac),(Value.int .i64 x_1.Type_.Round),(Value.int .i64 x_1.Type_.Over),(Value.int .i64 x_1.Lin.K),(Value.slice A_2 x_1.Lin.L.length c_3),(Value.slice A_4 x_1.Idx.length c_5),(Value.slice A_6 x_1.Args.length c_7)])] w' λe w''=>∃ (C:NP),e= .returned (Value.bool r.1)∧Bun C0 F w' C w'' [MO.st I r.2] []
theorem fnS_k5.sp {σ:Type} {I:StI σ} {v:Value} {m:(GExpr→σ→Option (Bool×σ))} {D D':NP} {w w':World} (hs:Sp D w D' w') (h:fnS_k5 I v m D w):fnS_k5 I v m D' w':=⟨h.1,λC0 F w'' hs'=>h.2 C0 F w'' (hs.trans hs')⟩
def rq {σ:Type} (I:StI σ) (v:Value) (m:(GExpr→σ→Option (Bool×σ))):Cl:=⟨fnS_k5 I v m,fnS_k5.sp⟩
def fnP_k6 (v:Value) (m:(GIndex→Option Bool)) (D:NP) (w:World):Prop:=
 Hl v=true∧∀ (D':NP) (w':World),Sp D w D' w'→(∀ k,D' k→k<w'.heap.size)→∀ (x_1:GIndex) (A_2:Option Addr) (c_3:Nat) (A_4:Option Addr) (c_5:Nat) (r:Bool),AllCl [LT aj A_2 c_3 x_1.Lin.L,LT dQ A_4 c_5 x_1.At] D' w'→m x_1=some r→
  CallV Tryz.prog v [(Value.agg #[(Value.int .i64 x_1.Lin.K),(Value.slice A_2 x_1.Lin.L.length c_3),(aT x_1.From),(Value.slice A_4 x_1.At.length c_5)])] w' λe w''=>e= .returned (Value.bool r)∧Ext w' w''∧AllCl [] D' w''
theorem fnP_k6.sp {v:Value} {m:(GIndex→Option Bool)} {D D':NP} {w w':World} (hs:Sp D w D' w') (h:fnP_k6 v m D w):fnP_k6 v m D' w':=⟨h.1,λD'' w'' hs'=>h.2 D'' w'' (hs.trans hs')⟩
def ua (v:Value) (m:(GIndex→Option Bool)):Cl:=⟨fnP_k6 v m,fnP_k6.sp⟩
def fnS_k7 {σ:Type} (I:StI σ) (v:Value) (m:(GLin→σ→Option (Bool×σ))) (D:NP) (w:World):Prop:=
 Hl v=true∧∀ (C0 F:NP) (w':World),Sp D w (Dj F C0) w'→∀ (x_1:GLin) (A_2:Option Addr) (c_3:Nat) (s:σ) (r:Bool×σ),Bun C0 F w' C0 w' [MO.st I s] [LT aj A_2 c_3 x_1.L]→m x_1 s=some r→
  CallV Tryz.prog v [(Value.agg #[(Value.int .i64 x_1.K),(Value.slice A_2 x_1.L.length c_3)])] w' λe w''=>∃ (C:NP),e= .returned (Value.bool r.1)∧Bun C0 F w' C w'' [MO.st I r.2] []
theorem fnS_k7.sp {σ:Type} {I:StI σ} {v:Value} {m:(GLin→σ→Option (Bool×σ))} {D D':NP} {w w':World} (hs:Sp D w D' w') (h:fnS_k7 I v m D w):fnS_k7 I v m D' w':=⟨h.1,λC0 F w'' hs'=>h.2 C0 F w'' (hs.trans hs')⟩
def pJ {σ:Type} (I:StI σ) (v:Value) (m:(GLin→σ→Option (Bool×σ))):Cl:=⟨fnS_k7 I v m,fnS_k7.sp⟩
structure ab where
 L:List bm
 At:Int
 Deep:Int
 E:Int
 Pos:Int
deriving Inhabited,DecidableEq
structure aX where
 Lin:GLin
 Eq:Bool
deriving Inhabited,DecidableEq
def aM:Cod aX where
 n:=3
 rel D w x cs:=∃ (A0:Option Addr) (c0:Nat),cs=[(Value.int .i64 x.Lin.K),(Value.slice A0 x.Lin.L.length c0),(Value.bool x.Eq)]∧SlC aj D w A0 c0 x.Lin.L
 len h:=by obtain⟨_,_,rfl,_⟩:=h;rfl
 one h:=by obtain⟨A0,c0,rfl,h0⟩:=h;rfl
 sp hs h:=by obtain⟨A0,c0,rfl,h0⟩:=h;exact⟨_,_,rfl,h0.sp hs⟩
structure iz where
 Name:List UInt8
 Type_:GType
 Dims:List GLin
deriving Inhabited,DecidableEq
def cn:Cod iz where
 n:=7
 rel D w x cs:=∃ (A0:Option Addr) (c0:Nat),cs=[(aT x.Name),(Value.int .i64 x.Type_.Kind),(Value.int .i64 x.Type_.Bits),(Value.int .i64 x.Type_.Frac),(Value.int .i64 x.Type_.Round),(Value.int .i64 x.Type_.Over),(Value.slice A0 x.Dims.length c0)]∧SlC dQ D w A0 c0 x.Dims
 len h:=by obtain⟨_,_,rfl,_⟩:=h;rfl
 one h:=by obtain⟨A0,c0,rfl,h0⟩:=h;rfl
 sp hs h:=by obtain⟨A0,c0,rfl,h0⟩:=h;exact⟨_,_,rfl,h0.sp hs⟩
structure gl where
 Name:List UInt8
 Size:GLin
deriving Inhabited,DecidableEq
def cc:Cod gl where
 n:=3
 rel D w x cs:=∃ (A0:Option Addr) (c0:Nat),cs=[(aT x.Name),(Value.int .i64 x.Size.K),(Value.slice A0 x.Size.L.length c0)]∧SlC aj D w A0 c0 x.Size.L
 len h:=by obtain⟨_,_,rfl,_⟩:=h;rfl
 one h:=by obtain⟨A0,c0,rfl,h0⟩:=h;rfl
 sp hs h:=by obtain⟨A0,c0,rfl,h0⟩:=h;exact⟨_,_,rfl,h0.sp hs⟩
structure eF where
 Name:List UInt8
 Type_:GType
 Dims:List gl
 Red:List gl
 Fold:Int
 Body:GExpr
deriving Inhabited
def gk:Cod eF where
 n:=22
 rel D w x cs:=∃ (A0:Option Addr) (c0:Nat) (A2:Option Addr) (c2:Nat) (A4:Option Addr) (c4:Nat) (A6:Option Addr) (c6:Nat) (A8:Option Addr) (c8:Nat),cs=[(aT x.Name),(Value.int .i64 x.Type_.Kind),(Value.int .i64 x.Type_.Bits),(Value.int .i64 x.Type_.Frac),(Value.int .i64 x.Type_.Round),(Value.int .i64 x.Type_.Over),(Value.slice A0 x.Dims.length c0),(Value.slice A2 x.Red.length c2),(Value.int .i64 x.Fold),(Value.int .i64 x.Body.Op),(aT x.Body.Name),(Value.int .i64 x.Body.Val.N),(Value.int .i64 x.Body.Val.D),(Value.int .i64 x.Body.Type_.Kind),(Value.int .i64 x.Body.Type_.Bits),(Value.int .i64 x.Body.Type_.Frac),(Value.int .i64 x.Body.Type_.Round),(Value.int .i64 x.Body.Type_.Over),(Value.int .i64 x.Body.Lin.K),(Value.slice A4 x.Body.Lin.L.length c4),(Value.slice A6 x.Body.Idx.length c6),(Value.slice A8 x.Body.Args.length c8)]∧SlC cc D w A0 c0 x.Dims∧SlC cc D w A2 c2 x.Red∧SlC aj D w A4 c4 x.Body.Lin.L∧SlC an D w A6 c6 x.Body.Idx∧SlC ap D w A8 c8 x.Body.Args
 len h:=by obtain⟨_,_,_,_,_,_,_,_,_,_,rfl,_,_,_,_,_⟩:=h;rfl
 one h:=by obtain⟨A0,c0,A2,c2,A4,c4,A6,c6,A8,c8,rfl,h0,h1,h2,h3,h4⟩:=h;rfl
 sp hs h:=by obtain⟨A0,c0,A2,c2,A4,c4,A6,c6,A8,c8,rfl,h0,h1,h2,h3,h4⟩:=h;exact⟨_,_,_,_,_,_,_,_,_,_,rfl,h0.sp hs,h1.sp hs,h2.sp hs,h3.sp hs,h4.sp hs⟩
structure bI where
 Sizes:List (List UInt8)
 Where:List aX
 Params:List iz
 Defs:List eF
 Outs:List (List UInt8)
deriving Inhabited
def yj (l1:List bm):Nat→Int→Option Bool
 | 0,_=>none
 | fuel1+1,i1=>
  if decide (i1<(l1.length:Int))then
   (lat l1 i1).bind λe1=>
   if decide (100<(e1.Text.length:Int))then
    some false
   else
    (yj l1 fuel1) (au (i1+1))
  else
   some true
def pr (c1:Int):Option Bool:=
 some ((((decide (c1=9))||(decide (c1=10)))||(decide (c1=13)))||(decide (c1=32)))
def jj (s1:List UInt8) (self1:Int→Option Int):Nat→Int→Option Int
 | 0,_=>none
 | fuel2+1,at3=>
  (gd (decide (at3<(s1.length:Int))) (sat s1 at3)).bind λb3=>
  if(decide (at3<(s1.length:Int)))&&(!decide (b3=10))then
   (jj s1 self1 fuel2) (au (at3+1))
  else
   self1 at3
def gG (s1:List UInt8):Nat→Int→Option Int
 | 0,_=>none
 | fuel1+1,at2=>
  if decide (at2<(s1.length:Int))then
   (sat s1 at2).bind λb1=>
   (pr b1).bind λr1=>
   if r1 then
    (gG s1 fuel1) (au (at2+1))
   else
    (sat s1 at2).bind λb2=>
    if decide (b2=35)then
     jj s1 (gG s1 fuel1) fu at2
    else
     some at2
  else
   some at2
def m8 (s1:List UInt8) (at1:Int):Option Int:=
 gG s1 fu at1
def mN (c1:Int):Option Bool:=
 some ((decide (97≤c1))&&(decide (c1≤122)))
def pq (c1:Int):Option Bool:=
 some ((decide (48≤c1))&&(decide (c1≤57)))
def ib (s1:List UInt8) (kind1:Int):Nat→Int→Option (Int×Int)
 | 0,_=>none
 | fuel1+1,n1=>
  (gd (decide (n1<(s1.length:Int))) (sat s1 n1)).bind λb3=>
  (gd (decide (n1<(s1.length:Int))) (pq b3)).bind λr3=>
  (gd (((decide (n1<(s1.length:Int)))&& !r3)&&(decide (kind1=1))) (sat s1 n1)).bind λb4=>
  (gd (((decide (n1<(s1.length:Int)))&& !r3)&&(decide (kind1=1))) (mN b4)).bind λr4=>
  (gd ((((decide (n1<(s1.length:Int)))&& !r3)&&(decide (kind1=1)))&& !r4) (sat s1 n1)).bind λb5=>
  if(decide (n1<(s1.length:Int)))&&(r3||((decide (kind1=1))&&(r4||(decide (b5=95)))))then
   (ib s1 kind1 fuel1) (au (n1+1))
  else
   some (n1,kind1)
def oy (s1:List UInt8) (kind1:Int):Option (Int×Int):=
 ib s1 kind1 fu 0
def pD (s1:List UInt8):Option (Int×Int):=
 (gd (!(decide (s1=([]:List UInt8)))) (sat s1 0)).bind λb1=>
 (gd (!(decide (s1=([]:List UInt8)))) (mN b1)).bind λr1=>
 (gd ((!(decide (s1=([]:List UInt8))))&&(!r1)) (sat s1 0)).bind λb2=>
 (gd ((!(decide (s1=([]:List UInt8))))&&(!r1)) (pq b2)).bind λr2=>
 if(decide (s1=([]:List UInt8)))||((!r1)&&(!r2))then
  some (0,0)
 else
  (sat s1 0).bind λb6=>
  (mN b6).bind λr5=>
  if r5 then
   oy s1 1
  else
   oy s1 2
def nS:Option (List (List UInt8)):=
 some ([[60,61],[61,61],[40],[41],[91],[93],[123],[125],[44],[59],[58],[43],[45],[42],[47],[60],[61],[38],[124],[33],[46],[64]]:List (List UInt8))
def gi (r1:List (List UInt8)) (s1:List UInt8):Nat→Int→Option Int
 | 0,_=>none
 | fuel1+1,i1=>
  if decide (i1<(r1.length:Int))then
   (lat r1 i1).bind λe1=>
   (gd (decide ((e1.length:Int)≤(s1.length:Int))) (lat r1 i1)).bind λe2=>
   (gd (decide ((e1.length:Int)≤(s1.length:Int))) (pV s1 (e2.length:Int))).bind λs2=>
   (gd (decide ((e1.length:Int)≤(s1.length:Int))) (lat r1 i1)).bind λe3=>
   if(decide ((e1.length:Int)≤(s1.length:Int)))&&(decide (s2=e3))then
    (lat r1 i1).bind λe4=>
    some (e4.length:Int)
   else
    (gi r1 s1 fuel1) (au (i1+1))
  else
   some 0
def mM (s1:List UInt8):Option Int:=
 (nS).bind λr1=>
 gi r1 s1 fu 0
def io (at1:Int) (s1:List UInt8) (aN:List bm) (self1:(List bm)→Int→Option (List bm×Int×Int)) (n1:Int) (kind1:Int):Option (List bm×Int×Int):=
 if decide (n1=0)then
  some (([]:List bm),at1,5)
 else
  if(decide (kind1=1))&&(decide (16<n1))then
   some (([]:List bm),at1,2)
  else
   (yk s1 at1 (au (at1+n1))).bind λs3=>
   (gm aN ([⟨kind1,at1,s3⟩]:List bm)).bind λzs1=>
   (m8 s1 (au (at1+n1))).bind λr3=>
   self1 zs1 r3
def di (s1:List UInt8):Nat→(List bm)→Int→Option (List bm×Int×Int)
 | 0,_,_=>none
 | fuel1+1,aN,at1=>
  if decide (at1<(s1.length:Int))then
   (jE s1 at1).bind λs2=>
   (pD s2).bind λr2=>
   if decide (r2.1=0)then
    (jE s1 at1).bind λs4=>
    (mM s4).bind λr4=>
    io at1 s1 aN (di s1 fuel1) r4 3
   else
    io at1 s1 aN (di s1 fuel1) r2.1 r2.2
  else
   some (aN,0,0)
def jH (s1:List UInt8):Option (List bm×Int×Int):=
 if decide (65536<(s1.length:Int))then
  some (([]:List bm),0,2)
 else
  (m8 s1 0).bind λr1=>
  di s1 fu ([]:List bm) r1
def bi (r1:aa) (kind1:Int) (s1:List UInt8):Option Bool:=
 (gd (decide (r1.at_<(r1.l.length:Int))) (lat r1.l r1.at_)).bind λe1=>
 (gd ((decide (r1.at_<(r1.l.length:Int)))&&(decide (e1.Kind=kind1))) (lat r1.l r1.at_)).bind λe2=>
 some (((decide (r1.at_<(r1.l.length:Int)))&&(decide (e1.Kind=kind1)))&&(decide (e2.Text=s1)))
def iU (r1:Int):Option Bool:=
 some ((decide (97≤r1))&&(decide (r1≤122)))
def fN (s1:List UInt8) (ok1:(Int→Option Bool)):Nat→Int→Option Int
 | 0,_=>none
 | fuel1+1,n1=>
  (gd (decide (n1<(s1.length:Int))) (sat s1 n1)).bind λb1=>
  (gd (decide (n1<(s1.length:Int))) (ok1 (sY b1))).bind λr1=>
  if(decide (n1<(s1.length:Int)))&&r1 then
   (fN s1 ok1 fuel1) (au (n1+1))
  else
   some n1
def jv (s1:List UInt8) (ok1:(Int→Option Bool)):Option Int:=
 fN s1 ok1 fu 0
def jC (r1:Int):Option Bool:=
 some ((decide (48≤r1))&&(decide (r1≤57)))
def eS (r1:Int):Option Bool:=
 (iU r1).bind λr2=>
 (gd (!r2) (jC r1)).bind λr3=>
 some ((r2||r3)||(decide (r1=95)))
def nj:Option (List (List UInt8)):=
 (o5 [115,105,122,101,32,119,104,101,114,101,32,105,110,32,100,101,102,32,111,117,116,32,115,117,109,32,112,114,111,100,32,109,105,110,32,109,97,120,32,115,99,97,110,32,111,118,101,114,32,105,102,32,99,97,115,116,32,102,114,97,99,32,105,110,116,32,102,105,120,32,99,101,105,108,32,102,108,111,111,114,32,122,101,114,111,32,101,118,101,110,32,115,97,116,32,119,114,97,112]).bind λr1=>
 some r1
def bA (s1:List (List UInt8)) (v1:List UInt8):Nat→Int→Option Int
 | 0,_=>none
 | fuel1+1,i1=>
  if decide (i1<(s1.length:Int))then
   (lat s1 i1).bind λe1=>
   if decide (v1=e1)then
    some i1
   else
    (bA s1 v1 fuel1) (au (i1+1))
  else
   some (-1)
def gB (s1:List (List UInt8)) (v1:List UInt8):Option Int:=
 bA s1 v1 fu 0
def dL (s1:List (List UInt8)) (v1:List UInt8):Option Bool:=
 (gB s1 v1).bind λr1=>
 some (decide (0≤r1))
def kz (s1:List UInt8):Option Bool:=
 (nj).bind λr1=>
 (dL r1 s1).bind λr2=>
 some r2
def ig (s1:List UInt8):Option Bool:=
 (gd ((!decide (s1=([]:List UInt8)))&&(decide ((s1.length:Int)≤16))) (sat s1 0)).bind λb1=>
 (gd ((!decide (s1=([]:List UInt8)))&&(decide ((s1.length:Int)≤16))) (iU (sY b1))).bind λr1=>
 (gd (((!decide (s1=([]:List UInt8)))&&(decide ((s1.length:Int)≤16)))&&r1) (jv s1 eS)).bind λr2=>
 (gd ((((!decide (s1=([]:List UInt8)))&&(decide ((s1.length:Int)≤16)))&&r1)&&(decide (r2=(s1.length:Int)))) (kz s1)).bind λr3=>
 some (((((!decide (s1=([]:List UInt8)))&&(decide ((s1.length:Int)≤16)))&&r1)&&(decide (r2=(s1.length:Int))))&&(!r3))
def dz (r1:aa):Option Bool:=
 (gd (decide (r1.at_<(r1.l.length:Int))) (lat r1.l r1.at_)).bind λe1=>
 (gd ((decide (r1.at_<(r1.l.length:Int)))&&(decide (e1.Kind=1))) (lat r1.l r1.at_)).bind λe2=>
 (gd ((decide (r1.at_<(r1.l.length:Int)))&&(decide (e1.Kind=1))) (ig e2.Text)).bind λr2=>
 some (((decide (r1.at_<(r1.l.length:Int)))&&(decide (e1.Kind=1)))&&r2)
def bP (r1:aa) (at1:Int) (e1:Int):Option (bL Unit):=
 some (.pan at1 e1)
def mR (s1:List UInt8):Option Bool:=
 if decide (s1=([115,105,122,101]:List UInt8))then
  if decide (s1=([115,105,122,101]:List UInt8))then
   some true
  else
   some false
 else
  if decide (s1=([119,104,101,114,101]:List UInt8))then
   if decide (s1=([119,104,101,114,101]:List UInt8))then
    some true
   else
    some false
  else
   if decide (s1=([105,110]:List UInt8))then
    if decide (s1=([105,110]:List UInt8))then
     some true
    else
     some false
   else
    if decide (s1=([100,101,102]:List UInt8))then
     if decide (s1=([100,101,102]:List UInt8))then
      some true
     else
      some false
    else
     if decide (s1=([111,117,116]:List UInt8))then
      if decide (s1=([111,117,116]:List UInt8))then
       some true
      else
       some false
     else
      if decide (s1=([115,117,109]:List UInt8))then
       if decide (s1=([115,117,109]:List UInt8))then
        some true
       else
        some false
      else
       if decide (s1=([112,114,111,100]:List UInt8))then
        if decide (s1=([112,114,111,100]:List UInt8))then
         some true
        else
         some false
       else
        if decide (s1=([109,105,110]:List UInt8))then
         if decide (s1=([109,105,110]:List UInt8))then
          some true
         else
          some false
        else
         if decide (s1=([109,97,120]:List UInt8))then
          if decide (s1=([109,97,120]:List UInt8))then
           some true
          else
           some false
         else
          if decide (s1=([115,99,97,110]:List UInt8))then
           if decide (s1=([115,99,97,110]:List UInt8))then
            some true
           else
            some false
          else
           if decide (s1=([111,118,101,114]:List UInt8))then
            if decide (s1=([111,118,101,114]:List UInt8))then
             some true
            else
             some false
           else
            if decide (s1=([105,102]:List UInt8))then
             if decide (s1=([105,102]:List UInt8))then
              some true
             else
              some false
            else
             if decide (s1=([99,97,115,116]:List UInt8))then
              if decide (s1=([99,97,115,116]:List UInt8))then
               some true
              else
               some false
             else
              if decide (s1=([102,114,97,99]:List UInt8))then
               if decide (s1=([102,114,97,99]:List UInt8))then
                some true
               else
                some false
              else
               if decide (s1=([105,110,116]:List UInt8))then
                if decide (s1=([105,110,116]:List UInt8))then
                 some true
                else
                 some false
               else
                if decide (s1=([102,105,120]:List UInt8))then
                 if decide (s1=([102,105,120]:List UInt8))then
                  some true
                 else
                  some false
                else
                 if decide (s1=([99,101,105,108]:List UInt8))then
                  if decide (s1=([99,101,105,108]:List UInt8))then
                   some true
                  else
                   some false
                 else
                  if decide (s1=([102,108,111,111,114]:List UInt8))then
                   if decide (s1=([102,108,111,111,114]:List UInt8))then
                    some true
                   else
                    some false
                  else
                   if decide (s1=([122,101,114,111]:List UInt8))then
                    if decide (s1=([122,101,114,111]:List UInt8))then
                     some true
                    else
                     some false
                   else
                    if decide (s1=([101,118,101,110]:List UInt8))then
                     if decide (s1=([101,118,101,110]:List UInt8))then
                      some true
                     else
                      some false
                    else
                     if decide (s1=([115,97,116]:List UInt8))then
                      if decide (s1=([115,97,116]:List UInt8))then
                       some true
                      else
                       some false
                     else
                      if decide (s1=([119,114,97,112]:List UInt8))then
                       some true
                      else
                       some false
def dS (s1:List UInt8):Nat→Int→Option Bool
 | 0,_=>none
 | fuel1+1,i1=>
  if decide (i1<(s1.length:Int))then
   (sat s1 i1).bind λb3=>
   if(((decide (b3<97))||(decide (122<b3)))&&((decide (b3<48))||(decide (57<b3))))&&(!decide (b3=95))then
    some false
   else
    (dS s1 fuel1) (au (i1+1))
  else
   some true
def jM (s1:List UInt8):Option Bool:=
 (gd (!((decide ((s1.length:Int)<1))||(decide (16<(s1.length:Int))))) (mR s1)).bind λr1=>
 (gd (!(((decide ((s1.length:Int)<1))||(decide (16<(s1.length:Int))))||r1)) (sat s1 0)).bind λb1=>
 (gd (!((((decide ((s1.length:Int)<1))||(decide (16<(s1.length:Int))))||r1)||(decide (b1<97)))) (sat s1 0)).bind λb2=>
 if((((decide ((s1.length:Int)<1))||(decide (16<(s1.length:Int))))||r1)||(decide (b1<97)))||(decide (122<b2))then
  some false
 else
  dS s1 fu 0
def nh (name1:List UInt8):Option GLin:=
 (jM name1).bind λr1=>
 if !r1 then
  some (⟨0,[]⟩:GLin)
 else
  some (⟨0,[⟨name1,1⟩]⟩:GLin)
def d8 (l1:GLin):Nat→Int→Option Int
 | 0,_=>none
 | fuel1+1,i1=>
  if decide (i1<(l1.L.length:Int))then
   (lat l1.L i1).bind λe1=>
   (jM e1.Name).bind λr1=>
   (gd ((!((!r1)||(decide (e1.By=0))))&&(decide (0<i1))) (lat l1.L (au (i1 - 1)))).bind λe2=>
   if((!r1)||(decide (e1.By=0)))||((decide (0<i1))&&(!Op.bytesLess e2.Name e1.Name))then
    some 1
   else
    (d8 l1 fuel1) (au (i1+1))
  else
   some 0
def iT (l1:GLin):Option Int:=
 d8 l1 fu 0
def j9 (n1:Int):Option Int:=
 if decide (n1<0)then
  some (lr (-(lr n1)))
 else
  some (lr n1)
def nN (a1:Int) (b1:Int):Option (Int×Int):=
 (some (lr ((bits .and .u64 a1 4294967295) * (bits .and .u64 b1 4294967295)))).bind λlow1=>
 (some (lr ((lr ((Int.fdiv a1 (2 ^ 32)) * (bits .and .u64 b1 4294967295)))+(Int.fdiv low1 (2 ^ 32))))).bind λmid1=>
 (some (lr ((lr ((bits .and .u64 a1 4294967295) * (Int.fdiv b1 (2 ^ 32))))+(bits .and .u64 mid1 4294967295)))).bind λcross1=>
 (some (lr ((lr ((lr ((Int.fdiv a1 (2 ^ 32)) * (Int.fdiv b1 (2 ^ 32))))+(Int.fdiv mid1 (2 ^ 32))))+(Int.fdiv cross1 (2 ^ 32))))).bind λhi1=>
 some (hi1,lr (a1 * b1))
def n6 (a1:Int) (b1:Int):Option (Int×Bool):=
 (j9 a1).bind λr1=>
 (j9 b1).bind λr2=>
 (nN r1 r2).bind λr3=>
 (some ((decide (a1<0)) != (decide (b1<0)))).bind λnegative1=>
 if((!decide (r3.1=0))||(decide (9223372036854775808<r3.2)))||((decide (r3.2=9223372036854775808))&&(!negative1))then
  some (0,false)
 else
  if negative1 then
   some (au (lr (-r3.2)),true)
  else
   some (au r3.2,true)
def oA (fits1:Bool) (aN:GLin):Option (GLin×Int):=
 if !fits1 then
  some ((⟨0,[]⟩:GLin),3)
 else
  some (aN,0)
def ie (a1:GLin) (by1:Int):Nat→Bool→Int→GLin→Option (GLin×Int)
 | 0,_,_,_=>none
 | fuel1+1,fits2,i1,out2=>
  if decide (i1<(a1.L.length:Int))then
   (lat a1.L i1).bind λe1=>
   (n6 e1.By by1).bind λr3=>
   (gm out2.L ([⟨e1.Name,r3.1⟩]:List GMono)).bind λzs1=>
   (ie a1 by1 fuel1) (fits2&&r3.2) (au (i1+1)) (⟨out2.K,zs1⟩:GLin)
  else
   oA fits2 out2
def jB (a1:GLin) (by1:Int):Option (GLin×Int):=
 (iT a1).bind λr1=>
 if !decide (r1=0)then
  some ((⟨0,[]⟩:GLin),1)
 else
  if decide (by1=0)then
   some ((⟨0,[]⟩:GLin),0)
  else
   (n6 a1.K by1).bind λr2=>
   ie a1 by1 fu r2.2 0 (⟨r2.1,[]⟩:GLin)
def jq (s1:List UInt8):Option Bool:=
 (gd ((!(decide (s1=([48]:List UInt8))))&&(!decide (s1=([]:List UInt8)))) (sat s1 0)).bind λb1=>
 some ((decide (s1=([48]:List UInt8)))||((!decide (s1=([]:List UInt8)))&&(!decide (b1=48))))
def fe (s1:List UInt8):Nat→Int→Option Bool
 | 0,_=>none
 | fuel1+1,i1=>
  if decide (i1<(s1.length:Int))then
   (sat s1 i1).bind λb2=>
   (gd (!(decide (b2<48))) (sat s1 i1)).bind λb3=>
   if(decide (b2<48))||(decide (57<b3))then
    some false
   else
    (fe s1 fuel1) (au (i1+1))
  else
   jq s1
def nb (s1:List UInt8):Option Bool:=
 fe s1 fu 0
def gw (r1:aa):Option Bool:=
 (gd (decide (r1.at_<(r1.l.length:Int))) (lat r1.l r1.at_)).bind λe1=>
 (gd ((decide (r1.at_<(r1.l.length:Int)))&&(decide (e1.Kind=2))) (lat r1.l r1.at_)).bind λe2=>
 (gd ((decide (r1.at_<(r1.l.length:Int)))&&(decide (e1.Kind=2))) (nb e2.Text)).bind λr2=>
 some (((decide (r1.at_<(r1.l.length:Int)))&&(decide (e1.Kind=2)))&&r2)
def jS (negative1:Bool) (n1:Int):Option (Int×Bool):=
 if negative1 then
  some (au (-(au n1)),true)
 else
  some (au n1,true)
def ew (s1:List UInt8) (limit1:Int) (negative1:Bool):Nat→Int→Int→Option (Int×Bool)
 | 0,_,_=>none
 | fuel1+1,n2,i1=>
  if decide (i1<(s1.length:Int))then
   (sat s1 i1).bind λb1=>
   if decide (lr (Int.tdiv (lr (limit1 - (lr (HY (b1 - 48))))) 10)<n2)then
    some (0,false)
   else
    (some (lr ((lr (10 * n2))+(lr (HY (b1 - 48)))))).bind λn3=>
    (ew s1 limit1 negative1 fuel1) n3 (au (i1+1))
  else
   jS negative1 n2
def jT (s1:List UInt8) (negative1:Bool) (limit1:Int):Option (Int×Bool):=
 ew s1 limit1 negative1 fu 0 0
def jk (s1:List UInt8) (negative1:Bool):Option (Int×Bool):=
 if negative1 then
  jT s1 negative1 9223372036854775808
 else
  jT s1 negative1 9223372036854775807
def tj (k1:Int):Option GLin:=
 some (⟨k1,[]⟩:GLin)
def o7 (a1:Int) (b1:Int):Option (Int×Bool):=
 some (au (a1+b1),(decide (a1<au (a1+b1)))==(decide (0<b1)))
def fM (name1:List UInt8) (x1:Int) (y1:Int) (a1:Bool) (a2:GLin):Option (Unit×Bool×GLin):=
 (o7 x1 y1).bind λr1=>
 if !decide (r1.1=0)then
  (gm a2.L ([⟨name1,r1.1⟩]:List GMono)).bind λzs1=>
  some ((),a1&&r1.2,(⟨a2.K,zs1⟩:GLin))
 else
  some ((),a1&&r1.2,a2)
def dv {σ:Type} (each1:((List UInt8)→Int→Int→σ→Option (Unit×σ))):Nat→(List GMono)→(List GMono)→σ→Option (Unit×σ)
 | 0,_,_,_=>none
 | fuel1+1,a4,b2,s2=>
  if(decide (0<(a4.length:Int)))||(decide (0<(b2.length:Int)))then
   (gd ((!(decide ((b2.length:Int)=0)))&&(decide (0<(a4.length:Int)))) (lat a4 0)).bind λe1=>
   (gd ((!(decide ((b2.length:Int)=0)))&&(decide (0<(a4.length:Int)))) (lat b2 0)).bind λe2=>
   if(decide ((b2.length:Int)=0))||((decide (0<(a4.length:Int)))&&(Op.bytesLess e1.Name e2.Name))then
    (lat a4 0).bind λe3=>
    (lat a4 0).bind λe4=>
    (each1 e3.Name e4.By 0 s2).bind λ⟨r1,s3⟩=>
    (jE a4 1).bind λzs1=>
    (dv each1 fuel1) zs1 b2 s3
   else
    (gd (!(decide ((a4.length:Int)=0))) (lat b2 0)).bind λe5=>
    (gd (!(decide ((a4.length:Int)=0))) (lat a4 0)).bind λe6=>
    if(decide ((a4.length:Int)=0))||(Op.bytesLess e5.Name e6.Name)then
     (lat b2 0).bind λe7=>
     (lat b2 0).bind λe8=>
     (each1 e7.Name 0 e8.By s2).bind λ⟨r2,s4⟩=>
     (jE b2 1).bind λzs2=>
     (dv each1 fuel1) a4 zs2 s4
    else
     (lat a4 0).bind λe9=>
     (lat a4 0).bind λe10=>
     (lat b2 0).bind λe11=>
     (each1 e9.Name e10.By e11.By s2).bind λ⟨r3,s5⟩=>
     (jE a4 1).bind λzs3=>
     (jE b2 1).bind λzs4=>
     (dv each1 fuel1) zs3 zs4 s5
  else
   some ((),s2)
def pt {σ:Type} (a1:List GMono) (b1:List GMono) (each1:((List UInt8)→Int→Int→σ→Option (Unit×σ))) (s1:σ):Option (Unit×σ):=
 dv each1 fu a1 b1 s1
def iJ (a1:GLin) (b1:GLin):Option (GLin×Int):=
 (iT a1).bind λr1=>
 (gd (!(!decide (r1=0))) (iT b1)).bind λr2=>
 if(!decide (r1=0))||(!decide (r2=0))then
  some ((⟨0,[]⟩:GLin),1)
 else
  (o7 a1.K b1.K).bind λr3=>
  (pt a1.L b1.L (λx_1 x_2 x_3 s=>fM x_1 x_2 x_3 (s.1) (s.2)) (r3.2,(⟨r3.1,[]⟩:GLin))).bind λ⟨r4,s1⟩=>
  if !(s1.1)then
   some ((⟨0,[]⟩:GLin),3)
  else
   some ((s1.2),0)
def aE (r1:aa) (s1:List UInt8):Option (Bool×aa):=
 (bi r1 3 s1).bind λr2=>
 if r2 then
  some (true,(⟨r1.l,au (r1.at_+1),r1.deep⟩:aa))
 else
  some (false,r1)
def aW (r1:aa):Option (bL (Unit×aa)):=
 if decide ((r1.l.length:Int)≤r1.at_)then
  pb (bP r1 (r1.l.length:Int) 6) λr2=>
  pb (bP r1 r1.at_ 5) λr3=>
  some (.ret ((),r1))
 else
  pb (bP r1 r1.at_ 5) λr4=>
  some (.ret ((),r1))
def ga (r2:aa):Option (bL (List UInt8×aa)):=
 (lat r2.l (au ((au (r2.at_+1)) - 1))).bind λe1=>
 some (.ret (e1.Text,(⟨r2.l,au (r2.at_+1),r2.deep⟩:aa)))
def aV (r1:aa):Option (bL (List UInt8×aa)):=
 (dz r1).bind λr3=>
 if !r3 then
  pb (aW r1) λ⟨r4,s1⟩=>
  ga s1
 else
  ga r1
def cN (r2:aa):Option (bL (List UInt8×aa)):=
 (lat r2.l (au ((au (r2.at_+1)) - 1))).bind λe1=>
 some (.ret (e1.Text,(⟨r2.l,au (r2.at_+1),r2.deep⟩:aa)))
def bU (r1:aa):Option (bL (List UInt8×aa)):=
 (gw r1).bind λr3=>
 if !r3 then
  pb (aW r1) λ⟨r4,s1⟩=>
  cN s1
 else
  cN r1
def eh (name1:List UInt8) (r8:Int×Bool) (r7:aa):Option (bL (GLin×aa)):=
 if decide (name1=([]:List UInt8))then
  (tj r8.1).bind λr9=>
  some (.ret (r9,r7))
 else
  (nh name1).bind λr10=>
  (jB r10 r8.1).bind λr11=>
  some (.ret (r11.1,r7))
def bo (r6:List UInt8) (negative1:Bool) (r1:aa) (name1:List UInt8) (r7:aa):Option (bL (GLin×aa)):=
 (jk r6 negative1).bind λr8=>
 if !r8.2 then
  pb (bP r7 r1.at_ 3) λr12=>
  eh name1 r8 r7
 else
  eh name1 r8 r7
def ey (r1:aa) (negative1:Bool):Option (bL (GLin×aa)):=
 (dz r1).bind λr2=>
 if r2 then
  pb (aV r1) λ⟨r3,s1⟩=>
  (nh r3).bind λr4=>
  if negative1 then
   (jB r4 (-1)).bind λr5=>
   some (.ret (r5.1,s1))
  else
   some (.ret (r4,s1))
 else
  pb (bU r1) λ⟨r6,s2⟩=>
  (aE s2 [42]).bind λ⟨r13,s3⟩=>
  if r13 then
   pb (aV s3) λ⟨r14,s4⟩=>
   bo r6 negative1 r1 r14 s4
  else
   bo r6 negative1 r1 ([]:List UInt8) s3
def gb (s2:aa) (self1:Bool→aa→GLin→Option (bL (GLin×aa))) (r5:GLin×Int):Option (bL (GLin×aa)):=
 (aE s2 [43]).bind λ⟨r6,s3⟩=>
 if r6 then
  self1 false s3 r5.1
 else
  (aE s3 [45]).bind λ⟨r7,s4⟩=>
  if r7 then
   self1 true s4 r5.1
  else
   some (.ret (r5.1,s4))
def bp:Nat→Bool→aa→GLin→Option (bL (GLin×aa))
 | 0,_,_,_=>none
 | fuel1+1,negative1,r3,sum1=>
  pb (ey r3 negative1) λ⟨r4,s2⟩=>
  (iJ sum1 r4).bind λr5=>
  if !decide (r5.2=0)then
   pb (bP s2 r3.at_ 3) λr8=>
   gb s2 (bp fuel1) r5
  else
   gb s2 (bp fuel1) r5
def bG (r1:aa):Option (bL (GLin×aa)):=
 (aE r1 [45]).bind λ⟨r2,s1⟩=>
 bp fu r2 s1 (⟨0,[]⟩:GLin)
def oz (a1:aa) (a3:GLin):Option (bL (Unit×aa×GLin)):=
 pb (bG a1) λ⟨r1,s1⟩=>
 some (.ret ((),s1,r1))
def rP (l1:List bm) (at1:Int):Option (GLin×Int×Int):=
 if(decide (at1<0))||(decide ((l1.length:Int)<at1))then
  some ((⟨0,[]⟩:GLin),0,1)
 else
  yb (oz (⟨l1,at1,0⟩:aa) (⟨0,[]⟩:GLin)) (λ⟨r1,s1,s2⟩=>
   if !decide (0=0)then
    some ((⟨0,[]⟩:GLin),0,0)
   else
    some (s2,s1.at_,0)) λpa1 pn1=>
   some ((⟨0,[]⟩:GLin),pa1,pn1)
def nO (r1:Int):Option Bool:=
 if decide (r1=9)then
  if decide (r1=9)then
   some true
  else
   some false
 else
  if decide (r1=10)then
   if decide (r1=10)then
    some true
   else
    some false
  else
   if decide (r1=13)then
    if decide (r1=13)then
     some true
    else
     some false
   else
    if decide (r1=32)then
     some true
    else
     some false
def oB (r1:Int):Option Bool:=
 some (!decide (r1=10))
def iu (s1:List UInt8):Nat→Int→Option Int
 | 0,_=>none
 | fuel1+1,at1=>
  if decide (at1<(s1.length:Int))then
   (sat s1 at1).bind λb1=>
   (nO (sY b1)).bind λr1=>
   if r1 then
    (iu s1 fuel1) (au (at1+1))
   else
    if decide (sY b1=35)then
     (jE s1 at1).bind λs2=>
     (jv s2 oB).bind λr2=>
     (iu s1 fuel1) (au (at1+r2))
    else
     some at1
  else
   some at1
def ni (s1:List UInt8):Option Int:=
 iu s1 fu 0
def mS (r1:Int):Option Bool:=
 if decide (r1=40)then
  if decide (r1=40)then
   some true
  else
   some false
 else
  if decide (r1=41)then
   if decide (r1=41)then
    some true
   else
    some false
  else
   if decide (r1=91)then
    if decide (r1=91)then
     some true
    else
     some false
   else
    if decide (r1=93)then
     if decide (r1=93)then
      some true
     else
      some false
    else
     if decide (r1=123)then
      if decide (r1=123)then
       some true
      else
       some false
     else
      if decide (r1=125)then
       if decide (r1=125)then
        some true
       else
        some false
      else
       if decide (r1=44)then
        if decide (r1=44)then
         some true
        else
         some false
       else
        if decide (r1=59)then
         if decide (r1=59)then
          some true
         else
          some false
        else
         if decide (r1=58)then
          if decide (r1=58)then
           some true
          else
           some false
         else
          if decide (r1=43)then
           if decide (r1=43)then
            some true
           else
            some false
          else
           if decide (r1=45)then
            if decide (r1=45)then
             some true
            else
             some false
           else
            if decide (r1=42)then
             if decide (r1=42)then
              some true
             else
              some false
            else
             if decide (r1=47)then
              if decide (r1=47)then
               some true
              else
               some false
             else
              if decide (r1=60)then
               if decide (r1=60)then
                some true
               else
                some false
              else
               if decide (r1=61)then
                if decide (r1=61)then
                 some true
                else
                 some false
               else
                if decide (r1=38)then
                 if decide (r1=38)then
                  some true
                 else
                  some false
                else
                 if decide (r1=124)then
                  if decide (r1=124)then
                   some true
                  else
                   some false
                 else
                  if decide (r1=33)then
                   if decide (r1=33)then
                    some true
                   else
                    some false
                  else
                   if decide (r1=46)then
                    if decide (r1=46)then
                     some true
                    else
                     some false
                   else
                    if decide (r1=64)then
                     some true
                    else
                     some false
def oC (s1:List UInt8):Option (Int×Int):=
 (sat s1 0).bind λb1=>
 (iU (sY b1)).bind λr1=>
 if r1 then
  (jv s1 eS).bind λr2=>
  some (1,r2)
 else
  (jC (sY b1)).bind λr3=>
  if r3 then
   (jv s1 jC).bind λr4=>
   some (2,r4)
  else
   (gd (((decide (sY b1=60))||(decide (sY b1=61)))&&(decide (1<(s1.length:Int)))) (sat s1 1)).bind λb2=>
   if(((decide (sY b1=60))||(decide (sY b1=61)))&&(decide (1<(s1.length:Int))))&&(decide (b2=61))then
    some (3,2)
   else
    (mS (sY b1)).bind λr5=>
    if r5 then
     some (3,1)
    else
     some (0,0)
def gg (s1:List UInt8):Nat→(List bm)→Int→Option (List bm×Int×Int)
 | 0,_,_=>none
 | fuel1+1,aN,at1=>
  if decide (at1<(s1.length:Int))then
   (jE s1 at1).bind λs2=>
   (oC s2).bind λr2=>
   if decide (r2.1=0)then
    some (([]:List bm),at1,5)
   else
    if(decide (r2.1=1))&&(decide (16<r2.2))then
     some (([]:List bm),at1,2)
    else
     (yk s1 at1 (au (at1+r2.2))).bind λs3=>
     (gm aN ([⟨r2.1,at1,s3⟩]:List bm)).bind λzs1=>
     (jE s1 (au (at1+r2.2))).bind λs4=>
     (ni s4).bind λr3=>
     (some (au ((au (at1+r2.2))+r3))).bind λat2=>
     (gg s1 fuel1) zs1 at2
  else
   some (aN,0,0)
def jN (s1:List UInt8):Option (List bm×Int×Int):=
 if decide (65536<(s1.length:Int))then
  some (([]:List bm),0,2)
 else
  (ni s1).bind λr1=>
  gg s1 fu ([]:List bm) r1
def nz (t1:GType):Option Bool:=
 some ((decide (t1.Kind=t1.Kind))&&(decide (t1.Bits=0))&&(decide (t1.Frac=0))&&(decide (t1.Round=0))&&(decide (t1.Over=0)))
def gR (t1:GType):Option Int:=
 (some (((decide (1≤t1.Round))&&(decide (t1.Round≤4)))&&((decide (t1.Over=1))||(decide (t1.Over=2))))).bind λmodes1=>
 if(((((!decide (t1.Kind=2))||(decide (t1.Bits<2)))||(decide (31<t1.Bits)))||(decide (t1.Frac<0)))||(decide (30<t1.Frac)))||(!modes1)then
  some 10
 else
  some 0
def gL (t1:GType) (i1:Bool):Option Int:=
 if i1 then
  (nz t1).bind λr1=>
  if r1 then
   some 0
  else
   some 10
 else
  if decide (t1.Kind=2)then
   (gR t1).bind λr2=>
   if decide (r2=0)then
    some 0
   else
    some 10
  else
   some 10
def ee (t1:GType):Option Int:=
 if decide (t1.Kind=1)then
  gL t1 (decide (t1.Kind=1))
 else
  gL t1 (decide (t1.Kind=3))
def ii (s1:List UInt8) (sep1:List UInt8):Option (List UInt8×List UInt8×Bool):=
 (gH s1 sep1).bind λr1=>
 if decide (0≤r1)then
  (pV s1 r1).bind λs2=>
  (jE s1 (au (r1+(sep1.length:Int)))).bind λs3=>
  some (s2,s3,true)
 else
  some (s1,([]:List UInt8),false)
def nC (s1:List UInt8) (sep1:List UInt8):Option (List UInt8×List UInt8×Bool):=
 (ii s1 sep1).bind λr1=>
 some (r1.1,r1.2.1,r1.2.2)
def fy (s1:List UInt8) (prefix1:List UInt8):Option Bool:=
 (gd (decide ((prefix1.length:Int)≤(s1.length:Int))) (pV s1 (prefix1.length:Int))).bind λs2=>
 some ((decide ((prefix1.length:Int)≤(s1.length:Int)))&&(decide (s2=prefix1)))
def fz (s1:List UInt8) (prefix1:List UInt8):Option (List UInt8×Bool):=
 (fy s1 prefix1).bind λr1=>
 if !r1 then
  some (s1,false)
 else
  (jE s1 (prefix1.length:Int)).bind λs2=>
  some (s2,true)
def jp (s1:List UInt8) (prefix1:List UInt8):Option (List UInt8×Bool):=
 (fz s1 prefix1).bind λr1=>
 some (r1.1,r1.2)
def kA (s1:List UInt8):Option Bool:=
 (gd ((!(decide (s1=([48]:List UInt8))))&&(!decide (s1=([]:List UInt8)))) (sat s1 0)).bind λb1=>
 some ((decide (s1=([48]:List UInt8)))||((!decide (s1=([]:List UInt8)))&&(!decide (b1=48))))
def jc (s1:List UInt8):Nat→Int→Option Bool
 | 0,_=>none
 | fuel1+1,i1=>
  if decide (i1<(s1.length:Int))then
   (sat s1 i1).bind λb2=>
   (gd (!(decide (b2<48))) (sat s1 i1)).bind λb3=>
   if(decide (b2<48))||(decide (57<b3))then
    some false
   else
    (jc s1 fuel1) (au (i1+1))
  else
   kA s1
def k8 (s1:List UInt8):Option Bool:=
 jc s1 fu 0
def k9 (s1:List UInt8):Option (Int×Bool):=
 if decide (10<(s1.length:Int))then
  some (0,false)
 else
  (lH s1 10 64).bind λr1=>
  some (r1.1,decide (r1.1≤2147483647))
def mT (n1:Int):Option Bool:=
 some ((decide ((-2147483647)≤n1))&&(decide (n1≤2147483647)))
def k7 (n1:Int):Option Int:=
 if decide (n1<0)then
  some (lr (-(lr n1)))
 else
  some (lr n1)
def ma:Nat→Int→Int→Option Int
 | 0,_,_=>none
 | fuel1+1,a2,b2=>
  if !decide (b2=0)then
   if b2≠0 then
    (ma fuel1) b2 (Int.tmod a2 b2)
   else none
  else
   some a2
def rQ (a1:Int) (b1:Int):Option Int:=
 ma fu a1 b1
def nn (v1:GVal):Option Bool:=
 (gd ((decide (1≤v1.D))&&(decide (v1.D≤2147483647))) (mT v1.N)).bind λr1=>
 (gd (((decide (1≤v1.D))&&(decide (v1.D≤2147483647)))&&r1) (k7 v1.N)).bind λr2=>
 (gd (((decide (1≤v1.D))&&(decide (v1.D≤2147483647)))&&r1) (rQ r2 (lr v1.D))).bind λr3=>
 some ((((decide (1≤v1.D))&&(decide (v1.D≤2147483647)))&&r1)&&(decide (r3=1)))
def lY (r5:Int×Bool) (n1:Int):Option (GVal×Int):=
 (nn (⟨n1,r5.1⟩:GVal)).bind λr6=>
 if !r6 then
  some ((⟨0,0⟩:GVal),5)
 else
  some ((⟨n1,r5.1⟩:GVal),0)
def ka (r2:List UInt8×Bool) (bottom1:List UInt8):Option (GVal×Int):=
 (k9 r2.1).bind λr4=>
 (k9 bottom1).bind λr5=>
 if(!r4.2)||(!r5.2)then
  some ((⟨0,0⟩:GVal),3)
 else
  if r2.2 then
   lY r5 (au (-r4.1))
  else
   lY r5 r4.1
def oD (s1:List UInt8):Option (GVal×Int):=
 (nC s1 [47]).bind λr1=>
 (jp r1.1 [45]).bind λr2=>
 (k8 r2.1).bind λr3=>
 if(!r3)||(r2.2&&(decide (r2.1=([48]:List UInt8))))then
  some ((⟨0,0⟩:GVal),5)
 else
  if !r1.2.2 then
   ka r2 ([49]:List UInt8)
  else
   (k8 r1.2.1).bind λr7=>
   if((!r7)||(decide (r1.2.1=([48]:List UInt8))))||(decide (r1.2.1=([49]:List UInt8)))then
    some ((⟨0,0⟩:GVal),5)
   else
    ka r2 r1.2.1
def l5 (bits1:Int):Option Bool:=
 some ((decide (2≤bits1))&&(decide (bits1≤31)))
def mG (bits1:Int):Option Int:=
 (l5 bits1).bind λr1=>
 if !r1 then
  some 0
 else
  if 0≤(lr (au (bits1 - 1)))then
   some (au (-(au (1 * 2 ^ (min (Int.toNat (lr (au (bits1 - 1)))) 64)))))
  else none
def mH (bits1:Int):Option Int:=
 (l5 bits1).bind λr1=>
 if !r1 then
  some 0
 else
  if 0≤(lr (au (bits1 - 1)))then
   some (au ((au (1 * 2 ^ (min (Int.toNat (lr (au (bits1 - 1)))) 64))) - 1))
  else none
def mb (t1:GType) (v1:GVal):Option Bool:=
 (gR t1).bind λr1=>
 (gd ((decide (r1=0))&&(decide (v1.D=1))) (mG t1.Bits)).bind λr2=>
 (gd (((decide (r1=0))&&(decide (v1.D=1)))&&(decide (r2≤v1.N))) (mH t1.Bits)).bind λr3=>
 some ((((decide (r1=0))&&(decide (v1.D=1)))&&(decide (r2≤v1.N)))&&(decide (v1.N≤r3)))
def nB (t1:GType) (s1:List UInt8):Option (GVal×Int):=
 (ee t1).bind λr1=>
 if !decide (r1=0)then
  some ((⟨0,0⟩:GVal),10)
 else
  (oD s1).bind λr2=>
  if !decide (r2.2=0)then
   some ((⟨0,0⟩:GVal),r2.2)
  else
   if decide (t1.Kind=3)then
    if !decide (r2.1.D=1)then
     some ((⟨0,0⟩:GVal),5)
    else
     some (r2.1,0)
   else
    if decide (t1.Kind=2)then
     if 0≤t1.Frac then
      (some (au (1 * 2 ^ (min (Int.toNat t1.Frac) 64)))).bind λone1=>
      if r2.1.D≠0 then
       if !decide (Int.tmod one1 r2.1.D=0)then
        some ((⟨0,0⟩:GVal),5)
       else
        (mb t1 (⟨au (r2.1.N * (au (Int.tdiv one1 r2.1.D))),1⟩:GVal)).bind λr3=>
        if !r3 then
         some ((⟨0,0⟩:GVal),3)
        else
         some ((⟨au (r2.1.N * (au (Int.tdiv one1 r2.1.D))),1⟩:GVal),0)
      else none
     else none
    else
     some (r2.1,0)
def iv (e1:GExpr) (rec_:(GExpr→Int→Option Int)) (limit1:Int):Nat→Int→Int→Option Int
 | 0,_,_=>none
 | fuel1+1,d1,i1=>
  if decide (i1<(e1.Args.length:Int))then
   (lat e1.Args i1).bind λe2=>
   (rec_ e2 (au (limit1 - 1))).bind λr1=>
   (iv e1 rec_ limit1 fuel1) (max d1 (au (1+r1))) (au (i1+1))
  else
   some d1
def mU (rec_:(GExpr→Int→Option Int)) (e1:GExpr) (limit1:Int):Option Int:=
 if decide (limit1≤1)then
  some limit1
 else
  iv e1 rec_ limit1 fu 1 0
def lg:Nat→(GExpr→Int→Option Int)
 | 0=>λ_ _=>none
 | n+1=>mU (lg n)
def rR (e1:GExpr) (limit1:Int):Option Int:=lg fu e1 limit1
def qd (e1:GExpr):Option Int:=
 (rR e1 41).bind λr1=>
 some r1
def n7 (e1:GExpr):Option GExpr:=
 some e1
def d7 {σ:Type} (e1:GExpr) (rec_:(GExpr→(GExpr→σ→Option (Bool×σ))→σ→Option (Bool×σ))) (yield1:(GExpr→σ→Option (Bool×σ))):Nat→Int→σ→Option (Bool×σ)
 | 0,_,_=>none
 | fuel1+1,i1,s3=>
  if decide (i1<(e1.Args.length:Int))then
   (lat e1.Args i1).bind λe2=>
   (rec_ e2 yield1 s3).bind λ⟨r2,s4⟩=>
   if !r2 then
    some (false,s4)
   else
    (d7 e1 rec_ yield1 fuel1) (au (i1+1)) s4
  else
   some (true,s3)
def jl {σ:Type} (rec_:(GExpr→(GExpr→σ→Option (Bool×σ))→σ→Option (Bool×σ))) (e1:GExpr) (yield1:(GExpr→σ→Option (Bool×σ))) (s1:σ):Option (Bool×σ):=
 (yield1 e1 s1).bind λ⟨r1,s2⟩=>
 if !r1 then
  some (false,s2)
 else
  d7 e1 rec_ yield1 fu 0 s2
def gI {σ:Type} :Nat→(GExpr→(GExpr→σ→Option (Bool×σ))→σ→Option (Bool×σ))
 | 0=>λ_ _ _=>none
 | n+1=>jl (gI n)
def pu {σ:Type} (e1:GExpr) (yield1:(GExpr→σ→Option (Bool×σ))) (s1:σ):Option (Bool×σ):=gI fu e1 yield1 s1
def ke {σ:Type} (yield1:(GExpr→σ→Option (Bool×σ))) (a1:GExpr) (s1:σ):Option (Unit×σ):=
 (pu a1 yield1 s1).bind λ⟨r1,s2⟩=>
 some ((),s2)
def gy (y1:GExpr) (n1:Int):Option (Bool×(Nat×Int)):=
 if decide (2000<au (n1+1))then
  some (false,(1,(au (n1+1))))
 else
  some (true,(0,(au (n1+1))))
def pF (e1:GExpr):Option Int:=
 (n7 e1).bind λr1=>
 (ke (λk_0 q=>if q.1=0 then gy k_0 q.2 else none) r1 (0,0)).bind λ⟨u1,o1,n2⟩=>
 if o1=0 then
  some n2
 else
  if o1=1 then
   some n2
  else
   none
def mc (l1:GLin):Option Bool:=
 some ((decide (l1.K=0))&&(decide ((l1.L.length:Int)=0)))
def aY (s1:List GIndex) (f1:(GIndex→Option Bool)):Nat→Int→Option Int
 | 0,_=>none
 | fuel1+1,i1=>
  if decide (i1<(s1.length:Int))then
   (lat s1 i1).bind λe1=>
   (f1 e1).bind λr1=>
   if r1 then
    some i1
   else
    (aY s1 f1 fuel1) (au (i1+1))
  else
   some (-1)
def dx (s1:List GIndex) (f1:(GIndex→Option Bool)):Option Int:=
 aY s1 f1 fu 0
def br (s1:List GIndex) (f1:(GIndex→Option Bool)):Option Bool:=
 (dx s1 f1).bind λr1=>
 some (decide (0≤r1))
def mB (x1:GIndex):Option Bool:=
 if decide (x1.From=([]:List UInt8))then
  some (decide ((x1.At.length:Int)=0))
 else
  (mc x1.Lin).bind λr1=>
  some r1
def kb (x1:GIndex):Option Bool:=
 (mB x1).bind λr1=>
 some (!r1)
def nP (e1:GExpr):Option Bool:=
 if(decide (e1.Op<1))||(decide (18<e1.Op))then
  some false
 else
  if(!(decide (e1.Op=1)))&&(!((decide (e1.Val.N=0))&&(decide (e1.Val.D=0))))then
   some false
  else
   if(!((decide (e1.Op=1))||(decide (e1.Op=12))))&&(!((decide (e1.Type_.Kind=0))&&(decide (e1.Type_.Bits=0))&&(decide (e1.Type_.Frac=0))&&(decide (e1.Type_.Round=0))&&(decide (e1.Type_.Over=0))))then
    some false
   else
    (gd (!(decide (e1.Op=2))) (mc e1.Lin)).bind λr1=>
    if(!(decide (e1.Op=2)))&&(!r1)then
     some false
    else
     if(!(decide (e1.Op=3)))&&((!decide (e1.Name=([]:List UInt8)))||(decide (0<(e1.Idx.length:Int))))then
      some false
     else
      (br e1.Idx kb).bind λr2=>
      some (!r2)
def ld (x1:GIndex):Option Bool:=
 (gd (!decide (x1.From=([]:List UInt8))) (ig x1.From)).bind λr1=>
 some ((!decide (x1.From=([]:List UInt8)))&&(!r1))
def oF (e1:GExpr):Option Bool:=
 (gd (decide (e1.Op=3)) (ig e1.Name)).bind λr1=>
 if(decide (e1.Op=3))&&(!r1)then
  some false
 else
  (br e1.Idx ld).bind λr2=>
  some (!r2)
def iK (op1:Int) (i2:Bool):Option Int:=
 if i2 then
  some 1
 else
  if decide (op1=11)then
   some 3
  else
   some 2
def iL (op1:Int) (i1:Bool):Option Int:=
 if i1 then
  some 0
 else
  if decide (op1=8)then
   iK op1 (decide (op1=8))
  else
   if decide (op1=12)then
    iK op1 (decide (op1=12))
   else
    iK op1 (decide (op1=18))
def lZ (op1:Int):Option Int:=
 if decide (op1=1)then
  iL op1 (decide (op1=1))
 else
  if decide (op1=2)then
   iL op1 (decide (op1=2))
  else
   iL op1 (decide (op1=3))
def nQ (x1:GIndex):Option Bool:=
 some (decide (6<(x1.At.length:Int)))
def pE (e1:GExpr):Option Bool:=
 (lZ e1.Op).bind λr1=>
 if(!decide ((e1.Args.length:Int)=r1))||(decide (6<(e1.Idx.length:Int)))then
  some false
 else
  (br e1.Idx nQ).bind λr2=>
  some (!r2)
def lJ (e1:GExpr):Option Bool:=
 some ((decide (13≤e1.Op))&&(decide (e1.Op≤18)))
def gx (op1:Int) (i1:Int):Option Bool:=
 if decide (op1=16)then
  if decide (op1=16)then
   some true
  else
   some ((decide (op1=11))&&(decide (i1=0)))
 else
  if decide (op1=17)then
   if decide (op1=17)then
    some true
   else
    some ((decide (op1=11))&&(decide (i1=0)))
  else
   if decide (op1=18)then
    some true
   else
    some ((decide (op1=11))&&(decide (i1=0)))
def gJ (e1:GExpr):Nat→Int→Option Bool
 | 0,_=>none
 | fuel1+1,i1=>
  if decide (i1<(e1.Args.length:Int))then
   (lat e1.Args i1).bind λe2=>
   (lJ e2).bind λr2=>
   (gx e1.Op i1).bind λr3=>
   if r2 != r3 then
    some false
   else
    (gJ e1 fuel1) (au (i1+1))
  else
   some true
def oE (e1:GExpr):Option Bool:=
 (gd ((decide (e1.Op=1))||(decide (e1.Op=12))) (ee e1.Type_)).bind λr1=>
 if((decide (e1.Op=1))||(decide (e1.Op=12)))&&(!decide (r1=0))then
  some false
 else
  gJ e1 fu 0
def pm (n1:Int):Option Bool:=
 some ((decide ((-2147483647)≤n1))&&(decide (n1≤2147483647)))
def nA (t1:GType) (v1:GVal):Option Bool:=
 (ee t1).bind λr1=>
 if !decide (r1=0)then
  some false
 else
  if decide (t1.Kind=2)then
   (mb t1 v1).bind λr2=>
   some r2
  else
   if decide (t1.Kind=3)then
    (gd (decide (v1.D=1)) (pm v1.N)).bind λr3=>
    some ((decide (v1.D=1))&&r3)
   else
    (nn v1).bind λr4=>
    some r4
def oG (e1:GExpr):Option GExpr:=
 some e1
def kP {σ:Type} (self1:Int→σ→Option (Unit×σ)) (i1:Int) (s4:σ):Option (Unit×σ):=
 self1 (au (i1+1)) s4
def dT {σ:Type} (e1:GIndex) (yield1:(GLin→σ→Option (Bool×σ))) (self1:Int→σ→Option (Unit×σ)) (i1:Int):Nat→Int→σ→Option (Unit×σ)
 | 0,_,_=>none
 | fuel2+1,i2,s6=>
  if decide (i2<(e1.At.length:Int))then
   (lat e1.At i2).bind λe2=>
   (yield1 e2 s6).bind λ⟨r3,s7⟩=>
   if !r3 then
    some ((),s7)
   else
    (dT e1 yield1 self1 i1 fuel2) (au (i2+1)) s7
  else
   kP self1 i1 s6
def bN {σ:Type} (a1:GExpr) (yield1:(GLin→σ→Option (Bool×σ))):Nat→Int→σ→Option (Unit×σ)
 | 0,_,_=>none
 | fuel1+1,i1,s3=>
  if decide (i1<(a1.Idx.length:Int))then
   (lat a1.Idx i1).bind λe1=>
   (yield1 e1.Lin s3).bind λ⟨r2,s5⟩=>
   if !r2 then
    some ((),s5)
   else
    dT e1 yield1 (bN a1 yield1 fuel1) i1 fu 0 s5
  else
   some ((),s3)
def lf {σ:Type} (yield1:(GLin→σ→Option (Bool×σ))) (a1:GExpr) (s1:σ):Option (Unit×σ):=
 (yield1 a1.Lin s1).bind λ⟨r1,s2⟩=>
 if !r1 then
  some ((),s2)
 else
  bN a1 yield1 fu 0 s2
def ff (y1:GLin) (v1:Int):Option (Bool×(Nat×Int)):=
 (iT y1).bind λr7=>
 if !decide (r7=0)then
  some (false,(1,1))
 else
  some (true,(0,v1))
def lc (e1:GExpr):Option Int:=
 (nP e1).bind λr1=>
 if !r1 then
  some 5
 else
  (oF e1).bind λr2=>
  if !r2 then
   some 7
  else
   (pE e1).bind λr3=>
   if !r3 then
    some 11
   else
    (oE e1).bind λr4=>
    if !r4 then
     some 10
    else
     (gd (decide (e1.Op=1)) (nA e1.Type_ e1.Val)).bind λr5=>
     if(decide (e1.Op=1))&&(!r5)then
      some 1
     else
      (oG e1).bind λr6=>
      (lf (λk_0 q=>if q.1=0 then ff k_0 q.2 else none) r6 (0,0)).bind λ⟨u1,o1,v2⟩=>
      if o1=0 then
       some 0
      else
       if o1=1 then
        some v2
       else
        none
def eB (y1:GExpr) (v1:Int):Option (Bool×(Nat×Int)):=
 (lc y1).bind λr4=>
 if !decide (r4=0)then
  some (false,(1,r4))
 else
  some (true,(0,v1))
def kh (e1:GExpr):Option Int:=
 (qd e1).bind λr1=>
 if decide (40<r1)then
  some 13
 else
  (pF e1).bind λr2=>
  if decide (2000<r2)then
   some 2
  else
   (n7 e1).bind λr3=>
   (ke (λk_0 q=>if q.1=0 then eB k_0 q.2 else none) r3 (0,0)).bind λ⟨u1,o1,v2⟩=>
   if o1=0 then
    some 0
   else
    if o1=1 then
     some v2
    else
     none
def fH (r1:aa):Option (bL (Unit×aa)):=
 some (.ret ((),(⟨r1.l,au (r1.at_+1),au (r1.deep+1)⟩:aa)))
def ce (r1:aa):Option (bL (Unit×aa)):=
 if decide (159<r1.deep)then
  pb (bP r1 r1.at_ 13) λr2=>
  fH r1
 else
  fH r1
def cM (r1:aa):Option (bL (Unit×aa)):=
 (bi r1 3 [40]).bind λr2=>
 if !r2 then
  pb (aW r1) λ⟨r3,s1⟩=>
  pb (ce s1) λ⟨r4,s2⟩=>
  some (.ret ((),s2))
 else
  pb (ce r1) λ⟨r5,s3⟩=>
  some (.ret ((),s3))
def ar (r1:aa) (s1:List UInt8):Option (bL (Unit×aa)):=
 (aE r1 s1).bind λ⟨r2,s2⟩=>
 if !r2 then
  pb (aW s2) λ⟨r3,s3⟩=>
  some (.ret ((),s3))
 else
  some (.ret ((),s2))
def d6 (r1:aa):Option (bL (Unit×aa)):=
 pb (ar r1 [41]) λ⟨r2,s1⟩=>
 some (.ret ((),(⟨s1.l,s1.at_,au (s1.deep - 1)⟩:aa)))
def cG (l1:List (List UInt8)) (r1:aa):Nat→Int→Option (Int×aa)
 | 0,_=>none
 | fuel1+1,i1=>
  if decide (i1<(l1.length:Int))then
   (lat l1 i1).bind λe1=>
   (bi r1 1 e1).bind λr2=>
   if r2 then
    some (i1,(⟨r1.l,au (r1.at_+1),r1.deep⟩:aa))
   else
    (cG l1 r1 fuel1) (au (i1+1))
  else
   some ((-1),r1)
def bF (r1:aa) (l1:List (List UInt8)):Option (Int×aa):=
 cG l1 r1 fu 0
def fD (r1:aa):Option (bL (Int×aa)):=
 pb (bU r1) λ⟨r2,s1⟩=>
 (jk r2 false).bind λr3=>
 if(!r3.2)||(decide (2147483647<r3.1))then
  pb (bP s1 r1.at_ 3) λr4=>
  some (.ret (r3.1,s1))
 else
  some (.ret (r3.1,s1))
def eX (r4:Int) (r6:Int) (r8:Int) (r11:Int) (r1:aa) (r12:aa):Option (bL (GType×aa)):=
 pb (ar r12 [41]) λ⟨r13,s9⟩=>
 (ee (⟨2,r4,r6,au (r8+1),au (r11+1)⟩:GType)).bind λr14=>
 if !decide (r14=0)then
  pb (bP s9 r1.at_ 10) λr15=>
  some (.ret ((⟨2,r4,r6,au (r8+1),au (r11+1)⟩:GType),s9))
 else
  some (.ret ((⟨2,r4,r6,au (r8+1),au (r11+1)⟩:GType),s9))
def eY (r4:Int) (r6:Int) (r8:Int) (r1:aa) (r9:aa):Option (bL (GType×aa)):=
 pb (ar r9 [44]) λ⟨r10,s7⟩=>
 (bF s7 ([[115,97,116],[119,114,97,112]]:List (List UInt8))).bind λ⟨r11,s8⟩=>
 if decide (au (r11+1)=0)then
  pb (aW s8) λ⟨r16,s10⟩=>
  eX r4 r6 r8 r11 r1 s10
 else
  eX r4 r6 r8 r11 r1 s8
def eZ (r1:aa) (r2:aa):Option (bL (GType×aa)):=
 pb (ar r2 [40]) λ⟨r3,s1⟩=>
 pb (fD s1) λ⟨r4,s2⟩=>
 pb (ar s2 [44]) λ⟨r5,s3⟩=>
 pb (fD s3) λ⟨r6,s4⟩=>
 pb (ar s4 [44]) λ⟨r7,s5⟩=>
 (bF s5 ([[102,108,111,111,114],[99,101,105,108],[122,101,114,111],[101,118,101,110]]:List (List UInt8))).bind λ⟨r8,s6⟩=>
 if decide (au (r8+1)=0)then
  pb (aW s6) λ⟨r17,s11⟩=>
  eY r4 r6 r8 r1 s11
 else
  eY r4 r6 r8 r1 s6
def dN (r1:aa):Option (bL (GType×aa)):=
 (bF r1 ([[102,114,97,99],[105,110,116],[102,105,120]]:List (List UInt8))).bind λ⟨r18,s12⟩=>
 if decide (r18=0)then
  some (.ret ((⟨1,0,0,0,0⟩:GType),s12))
 else
  if decide (r18=1)then
   some (.ret ((⟨3,0,0,0,0⟩:GType),s12))
  else
   if decide (r18=(-1))then
    pb (aW s12) λ⟨r19,s13⟩=>
    eZ r1 s13
   else
    eZ r1 s12
def eg (r6:aa) (r7:GVal×Int) (r2:GType):Option (bL (GExpr×aa)):=
 pb (ar r6 [41]) λ⟨r8,s5⟩=>
 some (.ret ((⟨1,[],r7.1,r2,⟨0,[]⟩,[],[]⟩:GExpr),s5))
def dd (r2:GType) (s2:aa) (text2:List UInt8) (r6:aa):Option (bL (GExpr×aa)):=
 (nB r2 text2).bind λr7=>
 if !decide (r7.2=0)then
  pb (bP r6 s2.at_ r7.2) λr9=>
  eg r6 r7 r2
 else
  eg r6 r7 r2
def ct (r2:GType) (s2:aa) (text1:List UInt8) (r4:aa):Option (bL (GExpr×aa)):=
 pb (bU r4) λ⟨r5,s3⟩=>
 (gm text1 r5).bind λs4=>
 (aE s3 [47]).bind λ⟨r10,s6⟩=>
 if r10 then
  pb (bU s6) λ⟨r11,s7⟩=>
  (gm ([47]:List UInt8) r11).bind λs8=>
  (gm s4 s8).bind λs9=>
  dd r2 s2 s9 s7
 else
  dd r2 s2 s4 s6
def cu (r1:aa):Option (bL (GExpr×aa)):=
 pb (dN r1) λ⟨r2,s1⟩=>
 pb (ar s1 [40]) λ⟨r3,s2⟩=>
 (aE s2 [45]).bind λ⟨r12,s10⟩=>
 if r12 then
  ct r2 s2 ([45]:List UInt8) s10
 else
  ct r2 s2 ([]:List UInt8) s10
def eo (rec_:(aa→Option (bL (GExpr×aa)))) (e1:GExpr) (self1:Int→aa→GExpr→Option (bL (GExpr×aa))) (i1:Int) (r4:aa):Option (bL (GExpr×aa)):=
 pb (rec_ r4) λ⟨r5,s2⟩=>
 (gm e1.Args ([r5]:List GExpr)).bind λzs1=>
 self1 (au (i1+1)) s2 (⟨e1.Op,e1.Name,e1.Val,e1.Type_,e1.Lin,e1.Idx,zs1⟩:GExpr)
def bH (many1:Int) (rec_:(aa→Option (bL (GExpr×aa)))):Nat→Int→aa→GExpr→Option (bL (GExpr×aa))
 | 0,_,_,_=>none
 | fuel1+1,i1,r3,e1=>
  if decide (i1<many1)then
   if decide (0<i1)then
    pb (ar r3 [44]) λ⟨r6,s3⟩=>
    eo rec_ e1 (bH many1 rec_ fuel1) i1 s3
   else
    eo rec_ e1 (bH many1 rec_ fuel1) i1 r3
  else
   pb (d6 r3) λ⟨r7,s4⟩=>
   some (.ret (e1,s4))
def dA (rec_:(aa→Option (bL (GExpr×aa)))) (r1:aa) (op1:Int) (many1:Int):Option (bL (GExpr×aa)):=
 pb (cM r1) λ⟨r2,s1⟩=>
 bH many1 rec_ fu 0 s1 (⟨op1,[],⟨0,0⟩,⟨0,0,0,0,0⟩,⟨0,[]⟩,[],[]⟩:GExpr)
def fW (rec_:(aa→Option (bL (GExpr×aa)))) (r1:aa):Option (bL (GExpr×aa)):=
 pb (cM r1) λ⟨r2,s1⟩=>
 pb (dN s1) λ⟨r3,s2⟩=>
 pb (ar s2 [44]) λ⟨r4,s3⟩=>
 pb (rec_ s3) λ⟨r5,s4⟩=>
 pb (d6 s4) λ⟨r6,s5⟩=>
 some (.ret ((⟨12,[],⟨0,0⟩,r3,⟨0,[]⟩,[],[r5]⟩:GExpr),s5))
def cZ:Nat→(List GLin)→aa→Option (bL (List GLin×aa))
 | 0,_,_=>none
 | fuel1+1,aN,r4=>
  (aE r4 [44]).bind λ⟨r5,s3⟩=>
  if r5 then
   pb (bG s3) λ⟨r6,s4⟩=>
   (gm aN ([r6]:List GLin)).bind λzs1=>
   (cZ fuel1) zs1 s4
  else
   pb (ar s3 [93]) λ⟨r7,s5⟩=>
   some (.ret (aN,s5))
def fE (r1:aa):Option (bL (List GLin×aa)):=
 (aE r1 [93]).bind λ⟨r2,s1⟩=>
 if r2 then
  some (.ret (([]:List GLin),s1))
 else
  pb (bG s1) λ⟨r3,s2⟩=>
  cZ fu ([r3]:List GLin) s2
def db (r1:aa):Option (bL (GIndex×aa)):=
 (dz r1).bind λr2=>
 (gd (r2&&(decide (au (r1.at_+1)<(r1.l.length:Int)))) (lat r1.l (au (r1.at_+1)))).bind λe1=>
 (gd ((r2&&(decide (au (r1.at_+1)<(r1.l.length:Int))))&&(decide (e1.Kind=3))) (lat r1.l (au (r1.at_+1)))).bind λe2=>
 if !(((r2&&(decide (au (r1.at_+1)<(r1.l.length:Int))))&&(decide (e1.Kind=3)))&&(decide (e2.Text=([91]:List UInt8))))then
  pb (bG r1) λ⟨r3,s1⟩=>
  some (.ret ((⟨r3,[],[]⟩:GIndex),s1))
 else
  pb (aV r1) λ⟨r4,s2⟩=>
  pb (ar s2 [91]) λ⟨r5,s3⟩=>
  pb (fE s3) λ⟨r6,s4⟩=>
  some (.ret ((⟨⟨0,[]⟩,r4,r6⟩:GIndex),s4))
def bZ:Nat→aa→GExpr→Option (bL (GExpr×aa))
 | 0,_,_=>none
 | fuel1+1,r24,e1=>
  (aE r24 [44]).bind λ⟨r25,s19⟩=>
  if r25 then
   pb (db s19) λ⟨r26,s20⟩=>
   (gm e1.Idx ([r26]:List GIndex)).bind λzs1=>
   (bZ fuel1) s20 (⟨e1.Op,e1.Name,e1.Val,e1.Type_,e1.Lin,zs1,e1.Args⟩:GExpr)
  else
   pb (ar s19 [93]) λ⟨r27,s21⟩=>
   some (.ret (e1,s21))
def en (rec_:(aa→Option (bL (GExpr×aa)))) (r1:aa):Option (bL (GExpr×aa)):=
 (bi r1 3 [40]).bind λr2=>
 if r2 then
  pb (cM r1) λ⟨r3,s1⟩=>
  pb (rec_ s1) λ⟨r4,s2⟩=>
  pb (d6 s2) λ⟨r5,s3⟩=>
  some (.ret (r4,s3))
 else
  (aE r1 [91]).bind λ⟨r6,s4⟩=>
  if r6 then
   pb (bG s4) λ⟨r7,s5⟩=>
   pb (ar s5 [93]) λ⟨r8,s6⟩=>
   some (.ret ((⟨2,[],⟨0,0⟩,⟨0,0,0,0,0⟩,r7,[],[]⟩:GExpr),s6))
  else
   (bi s4 1 [102,114,97,99]).bind λr9=>
   if r9 then
    pb (cu s4) λ⟨r10,s7⟩=>
    some (.ret (r10,s7))
   else
    (bi s4 1 [105,110,116]).bind λr11=>
    if r11 then
     pb (cu s4) λ⟨r12,s8⟩=>
     some (.ret (r12,s8))
    else
     (bi s4 1 [102,105,120]).bind λr13=>
     if r13 then
      pb (cu s4) λ⟨r14,s9⟩=>
      some (.ret (r14,s9))
     else
      (bF s4 ([[109,105,110],[109,97,120],[105,102],[99,97,115,116]]:List (List UInt8))).bind λ⟨r15,s10⟩=>
      if decide (r15=0)then
       pb (dA rec_ s10 9 2) λ⟨r16,s11⟩=>
       some (.ret (r16,s11))
      else
       if decide (r15=1)then
        pb (dA rec_ s10 10 2) λ⟨r17,s12⟩=>
        some (.ret (r17,s12))
       else
        if decide (r15=2)then
         pb (dA rec_ s10 11 3) λ⟨r18,s13⟩=>
         some (.ret (r18,s13))
        else
         if decide (r15=3)then
          pb (fW rec_ s10) λ⟨r19,s14⟩=>
          some (.ret (r19,s14))
         else
          pb (aV s10) λ⟨r20,s15⟩=>
          pb (ar s15 [91]) λ⟨r21,s16⟩=>
          (aE s16 [93]).bind λ⟨r22,s17⟩=>
          if r22 then
           some (.ret ((⟨3,r20,⟨0,0⟩,⟨0,0,0,0,0⟩,⟨0,[]⟩,[],[]⟩:GExpr),s17))
          else
           pb (db s17) λ⟨r23,s18⟩=>
           bZ fu s18 (⟨3,r20,⟨0,0⟩,⟨0,0,0,0,0⟩,⟨0,[]⟩,[r23],[]⟩:GExpr)
def fZ (rec_:(aa→Option (bL (GExpr×aa)))) (recs_:(aa→Option (bL (GExpr×aa)))) (r1:aa):Option (bL (GExpr×aa)):=
 (bi r1 3 [45]).bind λr2=>
 if !r2 then
  pb (en rec_ r1) λ⟨r3,s1⟩=>
  some (.ret (r3,s1))
 else
  pb (ce r1) λ⟨r4,s2⟩=>
  pb (recs_ s2) λ⟨r5,s3⟩=>
  some (.ret ((⟨8,[],⟨0,0⟩,⟨0,0,0,0,0⟩,⟨0,[]⟩,[],[r5]⟩:GExpr),(⟨s3.l,s3.at_,au (s3.deep - 1)⟩:aa)))
def cg (rec_:(aa→Option (bL (GExpr×aa)))):Nat→(aa→Option (bL (GExpr×aa)))
 | 0=>λ_=>none
 | n+1=>fZ rec_ (cg rec_ n)
def gO (rec_:(aa→Option (bL (GExpr×aa)))) (r1:aa):Option (bL (GExpr×aa)):=cg rec_ fu r1
def yi (e1:GExpr) (nx:(aa→Option (bL (GExpr×aa)))) (self1:aa→GExpr→Option (bL (GExpr×aa))) (op1:Int) (r4:aa):Option (bL (GExpr×aa)):=
 if decide (op1=0)then
  some (.ret (e1,r4))
 else
  pb (nx r4) λ⟨r5,s2⟩=>
  self1 s2 (⟨op1,[],⟨0,0⟩,⟨0,0,0,0,0⟩,⟨0,[]⟩,[],[e1,r5]⟩:GExpr)
def vq (self2:Int→Int→aa→Option (bL (GExpr×aa))) (i1:Int) (op3:Int) (r7:aa):Option (bL (GExpr×aa)):=
 self2 op3 (au (i1+1)) r7
def lW (signs1:List (List UInt8)) (ops1:List Int) (e1:GExpr) (nx:(aa→Option (bL (GExpr×aa)))) (self1:aa→GExpr→Option (bL (GExpr×aa))):Nat→Int→Int→aa→Option (bL (GExpr×aa))
 | 0,_,_,_=>none
 | fuel2+1,op2,i1,r6=>
  if decide (i1<(signs1.length:Int))then
   (lat signs1 i1).bind λe2=>
   (I6 (decide (op2=0)) (aE r6 e2) (default,r6)).bind λ⟨r8,s3⟩=>
   if(decide (op2=0))&&r8 then
    (lat ops1 i1).bind λe3=>
    vq (lW signs1 ops1 e1 nx self1 fuel2) i1 e3 s3
   else
    vq (lW signs1 ops1 e1 nx self1 fuel2) i1 op2 s3
  else
   yi e1 nx self1 op2 r6
def kY (signs1:List (List UInt8)) (ops1:List Int) (nx:(aa→Option (bL (GExpr×aa)))):Nat→aa→GExpr→Option (bL (GExpr×aa))
 | 0,_,_=>none
 | fuel1+1,r3,e1=>
  lW signs1 ops1 e1 nx (kY signs1 ops1 nx fuel1) fu 0 0 r3
def I2 (nx:(aa→Option (bL (GExpr×aa)))) (r1:aa) (signs1:List (List UInt8)) (ops1:List Int):Option (bL (GExpr×aa)):=
 pb (nx r1) λ⟨r2,s1⟩=>
 kY signs1 ops1 nx fu s1 r2
abbrev pY (signs1:List (List UInt8)) (ops1:List Int) (e1:GExpr) (rec_:(aa→Option (bL (GExpr×aa)))):=lW signs1 ops1 e1 (gO rec_)
abbrev mx (signs1:List (List UInt8)) (ops1:List Int) (rec_:(aa→Option (bL (GExpr×aa)))):=kY signs1 ops1 (gO rec_)
def kG (rec_:(aa→Option (bL (GExpr×aa)))) (r1:aa) (signs1:List (List UInt8)) (ops1:List Int):Option (bL (GExpr×aa)):=
 pb (gO rec_ r1) λ⟨r2,s1⟩=>
 mx signs1 ops1 rec_ fu s1 r2
def cH (rec_:(aa→Option (bL (GExpr×aa)))) (r1:aa):Option (bL (GExpr×aa)):=
 pb (kG rec_ r1 ([[42],[47]]:List (List UInt8)) ([6,7]:List Int)) λ⟨r2,s1⟩=>
 some (.ret (r2,s1))
abbrev pZ (signs1:List (List UInt8)) (ops1:List Int) (e1:GExpr) (rec_:(aa→Option (bL (GExpr×aa)))):=lW signs1 ops1 e1 (cH rec_)
abbrev my (signs1:List (List UInt8)) (ops1:List Int) (rec_:(aa→Option (bL (GExpr×aa)))):=kY signs1 ops1 (cH rec_)
def kH (rec_:(aa→Option (bL (GExpr×aa)))) (r1:aa) (signs1:List (List UInt8)) (ops1:List Int):Option (bL (GExpr×aa)):=
 pb (cH rec_ r1) λ⟨r2,s1⟩=>
 my signs1 ops1 rec_ fu s1 r2
def dO (rec_:(aa→Option (bL (GExpr×aa)))) (r1:aa):Option (bL (GExpr×aa)):=
 pb (kH rec_ r1 ([[43],[45]]:List (List UInt8)) ([4,5]:List Int)) λ⟨r2,s1⟩=>
 some (.ret (r2,s1))
abbrev qb (signs1:List (List UInt8)) (ops1:List Int) (e1:GExpr) (rec_:(aa→Option (bL (GExpr×aa)))):=lW signs1 ops1 e1 (dO rec_)
abbrev mz (signs1:List (List UInt8)) (ops1:List Int) (rec_:(aa→Option (bL (GExpr×aa)))):=kY signs1 ops1 (dO rec_)
def iO (rec_:(aa→Option (bL (GExpr×aa)))) (r1:aa) (signs1:List (List UInt8)) (ops1:List Int):Option (bL (GExpr×aa)):=
 pb (dO rec_ r1) λ⟨r2,s1⟩=>
 mz signs1 ops1 rec_ fu s1 r2
def gP (rec_:(aa→Option (bL (GExpr×aa)))) (recs_:(aa→Option (bL (GExpr×aa)))) (r1:aa):Option (bL (GExpr×aa)):=
 (bi r1 3 [33]).bind λr2=>
 if !r2 then
  pb (iO rec_ r1 ([[60],[60,61],[61,61]]:List (List UInt8)) ([13,14,15]:List Int)) λ⟨r3,s1⟩=>
  some (.ret (r3,s1))
 else
  pb (ce r1) λ⟨r4,s2⟩=>
  pb (recs_ s2) λ⟨r5,s3⟩=>
  some (.ret ((⟨18,[],⟨0,0⟩,⟨0,0,0,0,0⟩,⟨0,[]⟩,[],[r5]⟩:GExpr),(⟨s3.l,s3.at_,au (s3.deep - 1)⟩:aa)))
def cA (rec_:(aa→Option (bL (GExpr×aa)))):Nat→(aa→Option (bL (GExpr×aa)))
 | 0=>λ_=>none
 | n+1=>gP rec_ (cA rec_ n)
def iB (rec_:(aa→Option (bL (GExpr×aa)))) (r1:aa):Option (bL (GExpr×aa)):=cA rec_ fu r1
abbrev qc (signs1:List (List UInt8)) (ops1:List Int) (e1:GExpr) (rec_:(aa→Option (bL (GExpr×aa)))):=lW signs1 ops1 e1 (iB rec_)
abbrev mA (signs1:List (List UInt8)) (ops1:List Int) (rec_:(aa→Option (bL (GExpr×aa)))):=kY signs1 ops1 (iB rec_)
def kI (rec_:(aa→Option (bL (GExpr×aa)))) (r1:aa) (signs1:List (List UInt8)) (ops1:List Int):Option (bL (GExpr×aa)):=
 pb (iB rec_ r1) λ⟨r2,s1⟩=>
 mA signs1 ops1 rec_ fu s1 r2
def dP (rec_:(aa→Option (bL (GExpr×aa)))) (r1:aa):Option (bL (GExpr×aa)):=
 pb (kI rec_ r1 ([[38]]:List (List UInt8)) ([16]:List Int)) λ⟨r2,s1⟩=>
 some (.ret (r2,s1))
abbrev qj (signs1:List (List UInt8)) (ops1:List Int) (e1:GExpr) (rec_:(aa→Option (bL (GExpr×aa)))):=lW signs1 ops1 e1 (dP rec_)
abbrev mO (signs1:List (List UInt8)) (ops1:List Int) (rec_:(aa→Option (bL (GExpr×aa)))):=kY signs1 ops1 (dP rec_)
def kZ (rec_:(aa→Option (bL (GExpr×aa)))) (r1:aa) (signs1:List (List UInt8)) (ops1:List Int):Option (bL (GExpr×aa)):=
 pb (dP rec_ r1) λ⟨r2,s1⟩=>
 mO signs1 ops1 rec_ fu s1 r2
def ic (rec_:(aa→Option (bL (GExpr×aa)))) (r1:aa):Option (bL (GExpr×aa)):=
 pb (kZ rec_ r1 ([[124]]:List (List UInt8)) ([17]:List Int)) λ⟨r2,s1⟩=>
 some (.ret (r2,s1))
def aq:Nat→(aa→Option (bL (GExpr×aa)))
 | 0=>λ_=>none
 | n+1=>ic (aq n)
def ky (r1:aa):Option (bL (GExpr×aa)):=aq fu r1
def mQ (a1:aa) (a3:GExpr):Option (bL (Unit×aa×GExpr)):=
 pb (ky a1) λ⟨r1,s1⟩=>
 some (.ret ((),s1,r1))
def pQ (l1:List bm) (at1:Int):Option (GExpr×Int×Int):=
 if(decide (at1<0))||(decide ((l1.length:Int)<at1))then
  some ((⟨0,[],⟨0,0⟩,⟨0,0,0,0,0⟩,⟨0,[]⟩,[],[]⟩:GExpr),0,1)
 else
  yb (mQ (⟨l1,at1,0⟩:aa) (⟨0,[],⟨0,0⟩,⟨0,0,0,0,0⟩,⟨0,[]⟩,[],[]⟩:GExpr)) (λ⟨r1,s1,s2⟩=>
   if !decide (0=0)then
    some ((⟨0,[],⟨0,0⟩,⟨0,0,0,0,0⟩,⟨0,[]⟩,[],[]⟩:GExpr),0,0)
   else
    (kh s2).bind λr2=>
    if !decide (r2=0)then
     some ((⟨0,[],⟨0,0⟩,⟨0,0,0,0,0⟩,⟨0,[]⟩,[],[]⟩:GExpr),at1,r2)
    else
     some (s2,s1.at_,0)) λpa1 pn1=>
   some ((⟨0,[],⟨0,0⟩,⟨0,0,0,0,0⟩,⟨0,[]⟩,[],[]⟩:GExpr),pa1,pn1)
def fL (s1:List UInt8) (l1:List bm) (at1:Int):Option Int:=
 if decide ((l1.length:Int)≤at1)then
  some (s1.length:Int)
 else
  (lat l1 at1).bind λe1=>
  some e1.At
def nc (s1:List UInt8) (r1:List bm×Int×Int) (r2:GExpr×Int×Int) (e1:Int):Option (GExpr×Int×Int):=
 if !decide (e1=0)then
  (fL s1 r1.1 r2.2.1).bind λr3=>
  some ((⟨0,[],⟨0,0⟩,⟨0,0,0,0,0⟩,⟨0,[]⟩,[],[]⟩:GExpr),r3,e1)
 else
  some (r2.1,0,0)
def l9 (s1:List UInt8):Option (GExpr×Int×Int):=
 (jN s1).bind λr1=>
 if !decide (r1.2.2=0)then
  some ((⟨0,[],⟨0,0⟩,⟨0,0,0,0,0⟩,⟨0,[]⟩,[],[]⟩:GExpr),r1.2.1,r1.2.2)
 else
  (pQ r1.1 0).bind λr2=>
  if(decide (r2.2.2=0))&&(decide (r2.2.1<(r1.1.length:Int)))then
   nc s1 r1 r2 5
  else
   nc s1 r1 r2 r2.2.2
def jD (a1:GLin) (b1:GLin):Nat→Int→Option Bool
 | 0,_=>none
 | fuel1+1,i1=>
  if decide (i1<(a1.L.length:Int))then
   (lat a1.L i1).bind λe1=>
   (lat b1.L i1).bind λe2=>
   if !((decide (e1.Name=e2.Name))&&(decide (e1.By=e2.By)))then
    some false
   else
    (jD a1 b1 fuel1) (au (i1+1))
  else
   some true
def jU (a1:GLin) (b1:GLin):Option Bool:=
 if(!decide (a1.K=b1.K))||(!decide ((a1.L.length:Int)=(b1.L.length:Int)))then
  some false
 else
  jD a1 b1 fu 0
def k0:Option Bool:=
 (jH [50,42,105,32,45,32,51,32,43,32,105]).bind λr1=>
 (rP r1.1 0).bind λr2=>
 (l9 [97,91,105,93,32,43,32,98,91,93,32,42,32,91,50,93]).bind λr3=>
 (l9 [97,91]).bind λr4=>
 (l9 [97,91,105,93,32,43,42,32,50]).bind λr5=>
 (l9 [102,114,97,99,40,50,47,52,41]).bind λr6=>
 if(!((!decide (r2.2.2=0))||(!decide (r2.2.1=7))))=true then
  (jU r2.1 (⟨(-3),([⟨[105],3⟩]:List GMono)⟩:GLin)).bind λr7=>
  if((((!decide (r2.2.2=0))||(!decide (r2.2.1=7)))||(!r7))||(!decide (r3.2.2=0)))||(!decide ((r3.1.Args.length:Int)=2))then
   some false
  else
   (gd (decide (r3.1.Op=4)) (lat r3.1.Args 0)).bind λe1=>
   (gd ((decide (r3.1.Op=4))&&(decide (e1.Op=3))) (lat r3.1.Args 1)).bind λe2=>
   some (((((((((decide (r3.1.Op=4))&&(decide (e1.Op=3)))&&(decide (e2.Op=6)))&&(decide (r4.2.1=2)))&&(decide (r4.2.2=6)))&&(decide (r5.2.1=6)))&&(decide (r5.2.2=5)))&&(decide (r6.2.1=5)))&&(decide (r6.2.2=5)))
 else none
def l7 (p1:ab) (k1:Int) (s1:List UInt8) (kind1:Int):Option Bool:=
 (lat p1.L (au (p1.At+k1))).bind λe1=>
 (gd (decide (e1.Kind=kind1)) (lat p1.L (au (p1.At+k1)))).bind λe2=>
 some ((decide (e1.Kind=kind1))&&(decide (e2.Text=s1)))
def aK (p1:ab) (k1:Int) (s1:List UInt8):Option Bool:=
 if(!decide (p1.E=0))||(decide ((p1.L.length:Int)≤au (p1.At+k1)))then
  some false
 else
  (sat s1 0).bind λb2=>
  (gd (decide (97≤b2)) (sat s1 0)).bind λb3=>
  if(decide (97≤b2))&&(decide (b3≤122))then
   l7 p1 k1 s1 1
  else
   l7 p1 k1 s1 3
def no:Option (List (List UInt8)):=
 some ([[115,105,122,101],[119,104,101,114,101],[105,110],[100,101,102],[111,117,116],[115,117,109],[112,114,111,100],[109,105,110],[109,97,120],[115,99,97,110],[111,118,101,114],[105,102],[99,97,115,116],[102,114,97,99],[105,110,116],[102,105,120],[99,101,105,108],[102,108,111,111,114],[122,101,114,111],[101,118,101,110],[115,97,116],[119,114,97,112]]:List (List UInt8))
def iP (l1:List (List UInt8)) (s1:List UInt8):Nat→Int→Option Bool
 | 0,_=>none
 | fuel1+1,i1=>
  if decide (i1<(l1.length:Int))then
   (lat l1 i1).bind λe1=>
   if decide (e1=s1)then
    some true
   else
    (iP l1 s1 fuel1) (au (i1+1))
  else
   some false
def o9 (l1:List (List UInt8)) (s1:List UInt8):Option Bool:=
 iP l1 s1 fu 0
def ik (s1:List UInt8):Nat→Int→Option Bool
 | 0,_=>none
 | fuel1+1,i1=>
  if decide (i1<(s1.length:Int))then
   (sat s1 i1).bind λb1=>
   if !(((decide (97≤b1))&&(decide (b1≤122)))||((decide (0<i1))&&(((decide (48≤b1))&&(decide (b1≤57)))||(decide (b1=95)))))then
    some false
   else
    (ik s1 fuel1) (au (i1+1))
  else
   some true
def iX (s1:List UInt8):Option Bool:=
 (gd (!((decide ((s1.length:Int)<1))||(decide (16<(s1.length:Int))))) (no)).bind λr1=>
 (gd (!((decide ((s1.length:Int)<1))||(decide (16<(s1.length:Int))))) (o9 r1 s1)).bind λr2=>
 if((decide ((s1.length:Int)<1))||(decide (16<(s1.length:Int))))||r2 then
  some false
 else
  ik s1 fu 0
def iM (p1:ab):Option Bool:=
 (gd ((decide (p1.E=0))&&(decide (p1.At<(p1.L.length:Int)))) (lat p1.L p1.At)).bind λe1=>
 (gd (((decide (p1.E=0))&&(decide (p1.At<(p1.L.length:Int))))&&(decide (e1.Kind=1))) (lat p1.L p1.At)).bind λe2=>
 (gd (((decide (p1.E=0))&&(decide (p1.At<(p1.L.length:Int))))&&(decide (e1.Kind=1))) (iX e2.Text)).bind λr1=>
 some ((((decide (p1.E=0))&&(decide (p1.At<(p1.L.length:Int))))&&(decide (e1.Kind=1)))&&r1)
def bJ (p1:ab) (at1:Int) (e1:Int):Option ab:=
 if decide (p1.E=0)then
  some (⟨p1.L,p1.At,p1.Deep,e1,at1⟩:ab)
 else
  some p1
def cq (p1:ab):Option ab:=
 if decide ((p1.L.length:Int)≤p1.At)then
  (bJ p1 (p1.L.length:Int) 6).bind λr1=>
  some r1
 else
  (bJ p1 p1.At 5).bind λr2=>
  some r2
def cy (p1:ab):Option (List UInt8×ab):=
 (iM p1).bind λr1=>
 if !r1 then
  (cq p1).bind λr2=>
  some (([]:List UInt8),r2)
 else
  (lat p1.L (au ((au (p1.At+1)) - 1))).bind λe1=>
  some (e1.Text,(⟨p1.L,au (p1.At+1),p1.Deep,p1.E,p1.Pos⟩:ab))
def fG (name1:List UInt8):Option GLin:=
 (iX name1).bind λr1=>
 if !r1 then
  some (⟨0,[]⟩:GLin)
 else
  some (⟨0,[⟨name1,1⟩]⟩:GLin)
def kw (s1:List UInt8):Option Bool:=
 (gd ((!(decide (s1=([48]:List UInt8))))&&(decide (0<(s1.length:Int)))) (sat s1 0)).bind λb1=>
 some ((decide (s1=([48]:List UInt8)))||((decide (0<(s1.length:Int)))&&(!decide (b1=48))))
def gh (s1:List UInt8):Nat→Int→Option Bool
 | 0,_=>none
 | fuel1+1,i1=>
  if decide (i1<(s1.length:Int))then
   (sat s1 i1).bind λb2=>
   (gd (!(decide (b2<48))) (sat s1 i1)).bind λb3=>
   if(decide (b2<48))||(decide (57<b3))then
    some false
   else
    (gh s1 fuel1) (au (i1+1))
  else
   kw s1
def ot (s1:List UInt8):Option Bool:=
 gh s1 fu 0
def eK (p1:ab):Option (List UInt8×ab):=
 (gd (!((!decide (p1.E=0))||(decide ((p1.L.length:Int)≤p1.At)))) (lat p1.L p1.At)).bind λe1=>
 (gd (!(((!decide (p1.E=0))||(decide ((p1.L.length:Int)≤p1.At)))||(!decide (e1.Kind=2)))) (lat p1.L p1.At)).bind λe2=>
 (gd (!(((!decide (p1.E=0))||(decide ((p1.L.length:Int)≤p1.At)))||(!decide (e1.Kind=2)))) (ot e2.Text)).bind λr1=>
 if(((!decide (p1.E=0))||(decide ((p1.L.length:Int)≤p1.At)))||(!decide (e1.Kind=2)))||(!r1)then
  (cq p1).bind λr2=>
  some (([]:List UInt8),r2)
 else
  (lat p1.L (au ((au (p1.At+1)) - 1))).bind λe3=>
  some (e3.Text,(⟨p1.L,au (p1.At+1),p1.Deep,p1.E,p1.Pos⟩:ab))
def jw (a1:Int) (b1:Int):Option (Int×Bool):=
 if(decide (a1=0))||(decide (b1=0))then
  some (0,true)
 else
  if((!(((decide (a1=(-1)))&&(decide (b1=(-9223372036854775808))))||((decide (b1=(-1)))&&(decide (a1=(-9223372036854775808))))))=true→b1≠0)then
   if(((decide (a1=(-1)))&&(decide (b1=(-9223372036854775808))))||((decide (b1=(-1)))&&(decide (a1=(-9223372036854775808)))))||(!decide (au (Int.tdiv (au (a1 * b1)) b1)=a1))then
    some (0,false)
   else
    some (au (a1 * b1),true)
  else none
def mW (a1:Int) (b1:Int):Option (Int×Bool):=
 if((decide (0<b1))&&(decide (au (9223372036854775807 - b1)<a1)))||((decide (b1<0))&&(decide (a1<au ((-9223372036854775808) - b1))))then
  some (0,false)
 else
  some (au (a1+b1),true)
def jb (n1:Int) (self1:Int→Int→Option (Int×Bool)) (i1:Int) (d1:Int):Option (Int×Bool):=
 (jw n1 10).bind λr1=>
 (mW r1.1 d1).bind λr2=>
 if(!r1.2)||(!r2.2)then
  some (0,false)
 else
  self1 r2.1 (au (i1+1))
def cT (s1:List UInt8) (negative1:Bool):Nat→Int→Int→Option (Int×Bool)
 | 0,_,_=>none
 | fuel1+1,n1,i1=>
  if decide (i1<(s1.length:Int))then
   (sat s1 i1).bind λb1=>
   if negative1 then
    (some (au (-(au (HY (b1 - 48)))))).bind λd2=>
    jb n1 (cT s1 negative1 fuel1) i1 d2
   else
    jb n1 (cT s1 negative1 fuel1) i1 (au (HY (b1 - 48)))
  else
   some (n1,true)
def hT (s1:List UInt8) (negative1:Bool):Option (Int×Bool):=
 cT s1 negative1 fu 0 0
def dD (l1:GLin):Nat→Int→Option Bool
 | 0,_=>none
 | fuel1+1,i1=>
  if decide (i1<(l1.L.length:Int))then
   (lat l1.L i1).bind λe1=>
   (iX e1.Name).bind λr1=>
   (gd (!(!r1)) (lat l1.L i1)).bind λe2=>
   (gd ((!((!r1)||(decide (e2.By=0))))&&(decide (0<i1))) (lat l1.L (au (i1 - 1)))).bind λe3=>
   (gd ((!((!r1)||(decide (e2.By=0))))&&(decide (0<i1))) (lat l1.L i1)).bind λe4=>
   if((!r1)||(decide (e2.By=0)))||((decide (0<i1))&&(!Op.bytesLess e3.Name e4.Name))then
    some false
   else
    (dD l1 fuel1) (au (i1+1))
  else
   some true
def iw (l1:GLin):Option Bool:=
 dD l1 fu 0
def iG (l1:GLin):Option Int:=
 (iw l1).bind λr1=>
 if !r1 then
  some 1
 else
  some 0
def iH (a1:GLin) (by1:Int):Nat→Int→GLin→Option (GLin×Int)
 | 0,_,_=>none
 | fuel1+1,i1,aN=>
  if decide (i1<(a1.L.length:Int))then
   (lat a1.L i1).bind λe1=>
   (jw e1.By by1).bind λr3=>
   if !r3.2 then
    some ((⟨0,[]⟩:GLin),3)
   else
    (lat a1.L i1).bind λe2=>
    (gm aN.L ([⟨e2.Name,r3.1⟩]:List GMono)).bind λzs1=>
    (iH a1 by1 fuel1) (au (i1+1)) (⟨aN.K,zs1⟩:GLin)
  else
   some (aN,0)
def g9 (a1:GLin) (by1:Int):Option (GLin×Int):=
 (iG a1).bind λr1=>
 if !decide (r1=0)then
  some ((⟨0,[]⟩:GLin),1)
 else
  if decide (by1=0)then
   some ((⟨0,[]⟩:GLin),0)
  else
   (jw a1.K by1).bind λr2=>
   if !r2.2 then
    some ((⟨0,[]⟩:GLin),3)
   else
    iH a1 by1 fu 0 (⟨r2.1,[]⟩:GLin)
def fc:Nat→(List (List UInt8))→Int→Option (List (List UInt8))
 | 0,_,_=>none
 | fuel1+1,l2,i2=>
  (gd (decide (0<i2)) (lat l2 (au (i2 - 1)))).bind λe1=>
  (gd (decide (0<i2)) (lat l2 i2)).bind λe2=>
  if(decide (0<i2))&&(!Op.bytesLess e1 e2&& !decide (e1=e2))then
   (lat l2 i2).bind λe3=>
   (lat l2 (au (i2 - 1))).bind λe4=>
   if 0≤i2∧i2<(l2.length:Int)then
    if 0≤(au (i2 - 1))∧(au (i2 - 1))<((l2.set (Int.toNat i2) e4).length:Int)then
     (fc fuel1) ((l2.set (Int.toNat i2) e4).set (Int.toNat (au (i2 - 1))) e3) (au (i2 - 1))
    else none
   else none
  else
   some (l2)
def kU (l1:List (List UInt8)) (s1:List UInt8):Option (List (List UInt8)):=
 (o9 l1 s1).bind λr1=>
 if r1 then
  some (l1)
 else
  (gm l1 ([s1]:List (List UInt8))).bind λzs1=>
  (some (au ((zs1.length:Int) - 1))).bind λi1=>
  fc fu zs1 i1
def o6 (self1:(List (List UInt8))→Int→Option (List (List UInt8))) (i1:Int) (out2:List (List UInt8)):Option (List (List UInt8)):=
 self1 out2 (au (i1+1))
def dX (l1:List GLin) (i1:Int) (self1:(List (List UInt8))→Int→Option (List (List UInt8))):Nat→(List (List UInt8))→Int→Option (List (List UInt8))
 | 0,_,_=>none
 | fuel2+1,out3,k1=>
  (lat l1 i1).bind λe1=>
  if decide (k1<(e1.L.length:Int))then
   (lat l1 i1).bind λe2=>
   (lat e2.L k1).bind λe3=>
   (kU out3 e3.Name).bind λr1=>
   (dX l1 i1 self1 fuel2) r1 (au (k1+1))
  else
   o6 self1 i1 out3
def co (l1:List GLin):Nat→(List (List UInt8))→Int→Option (List (List UInt8))
 | 0,_,_=>none
 | fuel1+1,aN,i1=>
  if decide (i1<(l1.length:Int))then
   dX l1 i1 (co l1 fuel1) fu aN 0
  else
   some aN
def nI (l1:List GLin):Option (List (List UInt8)):=
 co l1 fu ([]:List (List UInt8)) 0
def gN (l1:GLin) (name1:List UInt8):Nat→Int→Option Int
 | 0,_=>none
 | fuel1+1,i1=>
  if decide (i1<(l1.L.length:Int))then
   (lat l1.L i1).bind λe1=>
   if decide (e1.Name=name1)then
    (lat l1.L i1).bind λe2=>
    some e2.By
   else
    (gN l1 name1 fuel1) (au (i1+1))
  else
   some 0
def nJ (l1:GLin) (name1:List UInt8):Option Int:=
 gN l1 name1 fu 0
def kV (self1:Int→GLin→Option (GLin×Int)) (i1:Int) (out2:GLin):Option (GLin×Int):=
 self1 (au (i1+1)) out2
def dY (r4:List (List UInt8)) (a1:GLin) (b1:GLin):Nat→Int→GLin→Option (GLin×Int)
 | 0,_,_=>none
 | fuel1+1,i1,aN=>
  if decide (i1<(r4.length:Int))then
   (lat r4 i1).bind λe1=>
   (lat r4 i1).bind λe2=>
   (nJ a1 e1).bind λr5=>
   (nJ b1 e2).bind λr6=>
   (mW r5 r6).bind λr7=>
   if !r7.2 then
    some ((⟨0,[]⟩:GLin),3)
   else
    if !decide (r7.1=0)then
     (lat r4 i1).bind λe3=>
     (gm aN.L ([⟨e3,r7.1⟩]:List GMono)).bind λzs1=>
     kV (dY r4 a1 b1 fuel1) i1 (⟨aN.K,zs1⟩:GLin)
    else
     kV (dY r4 a1 b1 fuel1) i1 aN
  else
   some (aN,0)
def n0 (a1:GLin) (b1:GLin):Option (GLin×Int):=
 (iG a1).bind λr1=>
 (gd (!(!decide (r1=0))) (iG b1)).bind λr2=>
 if(!decide (r1=0))||(!decide (r2=0))then
  some ((⟨0,[]⟩:GLin),1)
 else
  (mW a1.K b1.K).bind λr3=>
  if !r3.2 then
   some ((⟨0,[]⟩:GLin),3)
  else
   (nI ([a1,b1]:List GLin)).bind λr4=>
   dY r4 a1 b1 fu 0 (⟨r3.1,[]⟩:GLin)
def bC (negative1:Bool) (f1:GLin) (p1:ab) (s1:List UInt8) (x1:GLin) (p2:ab):Option (GLin×ab):=
 if !decide (p2.E=0)then
  some ((⟨0,[]⟩:GLin),p2)
 else
  (hT s1 negative1).bind λr1=>
  (g9 x1 r1.1).bind λr2=>
  (n0 f1 r2.1).bind λr3=>
  if(!r1.2)||(!decide (r3.2=0))then
   (bJ p2 p1.At 3).bind λr4=>
   some ((⟨0,[]⟩:GLin),r4)
  else
   some (r3.1,p2)
def ft (p1:ab) (f1:GLin) (negative1:Bool):Option (GLin×ab):=
 (iM p1).bind λr5=>
 if r5 then
  (cy p1).bind λr6=>
  (fG r6.1).bind λr7=>
  bC negative1 f1 p1 ([49]:List UInt8) r7 r6.2
 else
  (eK p1).bind λr8=>
  (aK r8.2 0 [42]).bind λr9=>
  if r9 then
   (cy (⟨r8.2.L,au (r8.2.At+1),r8.2.Deep,r8.2.E,r8.2.Pos⟩:ab)).bind λr10=>
   (fG r10.1).bind λr11=>
   bC negative1 f1 p1 r8.1 r11 r10.2
  else
   bC negative1 f1 p1 r8.1 (⟨1,[]⟩:GLin) r8.2
def dU:Nat→ab→GLin→Option (GLin×ab)
 | 0,_,_=>none
 | fuel1+1,p3,f1=>
  (aK p3 0 [43]).bind λr3=>
  (gd (!r3) (aK p3 0 [45])).bind λr4=>
  if r3||r4 then
   (aK p3 0 [45]).bind λr5=>
   (ft (⟨p3.L,au (p3.At+1),p3.Deep,p3.E,p3.Pos⟩:ab) f1 r5).bind λr6=>
   (dU fuel1) r6.2 r6.1
  else
   some (f1,p3)
def j5 (r1:Bool) (p2:ab):Option (GLin×ab):=
 (ft p2 (⟨0,[]⟩:GLin) r1).bind λr2=>
 dU fu r2.2 r2.1
def dR (p1:ab):Option (GLin×ab):=
 (aK p1 0 [45]).bind λr1=>
 if r1 then
  j5 r1 (⟨p1.L,au (p1.At+1),p1.Deep,p1.E,p1.Pos⟩:ab)
 else
  j5 r1 p1
def gt (p1:ab):Option ab:=
 if(decide (p1.E=0))&&(decide (160≤p1.Deep))then
  (bJ p1 p1.At 13).bind λr1=>
  some r1
 else
  some (⟨p1.L,au (p1.At+1),au (p1.Deep+1),p1.E,p1.Pos⟩:ab)
def az (p1:ab) (s1:List UInt8):Option ab:=
 (aK p1 0 s1).bind λr1=>
 if !r1 then
  (cq p1).bind λr2=>
  some r2
 else
  some (⟨p1.L,au (p1.At+1),p1.Deep,p1.E,p1.Pos⟩:ab)
def iq (p1:ab):Option (Int×ab):=
 (eK p1).bind λr1=>
 (hT r1.1 false).bind λr2=>
 if(!r2.2)||(decide (2147483647<r2.1))then
  (bJ r1.2 p1.At 3).bind λr3=>
  some (0,r3)
 else
  some (r2.1,r1.2)
def dy (l1:List (List UInt8)) (p1:ab):Nat→Int→Option (Int×ab)
 | 0,_=>none
 | fuel1+1,i1=>
  if decide (i1<(l1.length:Int))then
   (lat l1 i1).bind λe1=>
   (aK p1 0 e1).bind λr1=>
   if r1 then
    some (au (i1+1),(⟨p1.L,au (p1.At+1),p1.Deep,p1.E,p1.Pos⟩:ab))
   else
    (dy l1 p1 fuel1) (au (i1+1))
  else
   (cq p1).bind λr2=>
   some (0,r2)
def cK (p1:ab) (l1:List (List UInt8)):Option (Int×ab):=
 dy l1 p1 fu 0
def mV (t1:GType):Option Bool:=
 if(decide (t1.Kind=1))||(decide (t1.Kind=3))then
  some ((((decide (t1.Bits=0))&&(decide (t1.Frac=0)))&&(decide (t1.Round=0)))&&(decide (t1.Over=0)))
 else
  some ((((((((decide (t1.Kind=2))&&(decide (2≤t1.Bits)))&&(decide (t1.Bits≤31)))&&(decide (0≤t1.Frac)))&&(decide (t1.Frac≤30)))&&(decide (1≤t1.Round)))&&(decide (t1.Round≤4)))&&((decide (t1.Over=1))||(decide (t1.Over=2))))
def ip (p1:ab):Option (GType×ab):=
 (aK p1 0 [102,114,97,99]).bind λr1=>
 if r1 then
  some ((⟨1,0,0,0,0⟩:GType),(⟨p1.L,au (p1.At+1),p1.Deep,p1.E,p1.Pos⟩:ab))
 else
  (aK p1 0 [105,110,116]).bind λr2=>
  if r2 then
   some ((⟨3,0,0,0,0⟩:GType),(⟨p1.L,au (p1.At+1),p1.Deep,p1.E,p1.Pos⟩:ab))
  else
   (az p1 [102,105,120]).bind λr3=>
   (az r3 [40]).bind λr4=>
   (iq r4).bind λr5=>
   (az r5.2 [44]).bind λr6=>
   (iq r6).bind λr7=>
   (az r7.2 [44]).bind λr8=>
   (cK r8 ([[102,108,111,111,114],[99,101,105,108],[122,101,114,111],[101,118,101,110]]:List (List UInt8))).bind λr9=>
   (az r9.2 [44]).bind λr10=>
   (cK r10 ([[115,97,116],[119,114,97,112]]:List (List UInt8))).bind λr11=>
   (az r11.2 [41]).bind λr12=>
   (gd (decide (r12.E=0)) (mV (⟨2,r5.1,r7.1,r9.1,r11.1⟩:GType))).bind λr13=>
   if(decide (r12.E=0))&&(!r13)then
    (bJ r12 p1.At 10).bind λr14=>
    some ((⟨2,r5.1,r7.1,r9.1,r11.1⟩:GType),r14)
   else
    some ((⟨2,r5.1,r7.1,r9.1,r11.1⟩:GType),r12)
def ji (p1:ab) (p3:ab) (out2:GExpr):Option (GExpr×ab):=
 (az p3 [41]).bind λr4=>
 some (out2,(⟨r4.L,r4.At,p1.Deep,r4.E,r4.Pos⟩:ab))
def eN (rec_:(ab→Int→Option (GExpr×ab))) (out3:GExpr) (self1:Int→ab→GExpr→Option (GExpr×ab)) (i1:Int) (p5:ab):Option (GExpr×ab):=
 (rec_ p5 1).bind λr5=>
 (gm out3.Args ([r5.1]:List GExpr)).bind λzs1=>
 self1 (au (i1+1)) r5.2 (⟨out3.Op,out3.Name,out3.Val,out3.Type_,out3.Lin,out3.Idx,zs1⟩:GExpr)
def bY (many1:Int) (typed1:Bool) (rec_:(ab→Int→Option (GExpr×ab))) (p1:ab):Nat→Int→ab→GExpr→Option (GExpr×ab)
 | 0,_,_,_=>none
 | fuel1+1,i1,p4,out3=>
  if decide (i1<many1)then
   if(decide (0<i1))||typed1 then
    (az p4 [44]).bind λr6=>
    eN rec_ out3 (bY many1 typed1 rec_ p1 fuel1) i1 r6
   else
    eN rec_ out3 (bY many1 typed1 rec_ p1 fuel1) i1 p4
  else
   ji p1 p4 out3
def eO (many1:Int) (typed1:Bool) (rec_:(ab→Int→Option (GExpr×ab))) (p1:ab) (aN:GExpr) (p2:ab):Option (GExpr×ab):=
 bY many1 typed1 rec_ p1 fu 0 p2 aN
def eu (rec_:(ab→Int→Option (GExpr×ab))) (p1:ab) (op1:Int) (many1:Int) (typed1:Bool):Option (GExpr×ab):=
 (aK p1 0 [40]).bind λr1=>
 if !r1 then
  (cq p1).bind λr2=>
  some ((⟨0,[],⟨0,0⟩,⟨0,0,0,0,0⟩,⟨0,[]⟩,[],[]⟩:GExpr),r2)
 else
  (gt p1).bind λr3=>
  if typed1 then
   (ip r3).bind λr7=>
   eO many1 typed1 rec_ p1 (⟨op1,[],⟨0,0⟩,r7.1,⟨0,[]⟩,[],[]⟩:GExpr) r7.2
  else
   eO many1 typed1 rec_ p1 (⟨op1,[],⟨0,0⟩,⟨0,0,0,0,0⟩,⟨0,[]⟩,[],[]⟩:GExpr) r3
def fF (l1:List (List UInt8)) (p1:ab):Nat→Int→Option Bool
 | 0,_=>none
 | fuel1+1,i1=>
  if decide (i1<(l1.length:Int))then
   (lat l1 i1).bind λe1=>
   (aK p1 0 e1).bind λr1=>
   if r1 then
    some true
   else
    (fF l1 p1 fuel1) (au (i1+1))
  else
   some false
def iS (p1:ab) (l1:List (List UInt8)):Option Bool:=
 fF l1 p1 fu 0
def iI (from1:Int) (s1:List UInt8):Option Bool:=
 (gd (decide (from1<(s1.length:Int))) (sat s1 from1)).bind λb1=>
 some ((decide (from1<(s1.length:Int)))&&((!decide (b1=48))||(decide ((s1.length:Int)=1))))
def jJ (s1:List UInt8) (from1:Int):Nat→Int→Option Bool
 | 0,_=>none
 | fuel1+1,i1=>
  if decide (i1<(s1.length:Int))then
   (sat s1 i1).bind λb2=>
   (gd (!(decide (b2<48))) (sat s1 i1)).bind λb3=>
   if(decide (b2<48))||(decide (57<b3))then
    some false
   else
    (jJ s1 from1 fuel1) (au (i1+1))
  else
   iI from1 s1
def fV (s1:List UInt8) (from1:Int):Option Bool:=
 jJ s1 from1 fu from1
def l8 (s1:List UInt8):Option Bool:=
 (gd (decide (1<(s1.length:Int))) (sat s1 0)).bind λb4=>
 if(decide (1<(s1.length:Int)))&&(decide (b4=45))then
  fV s1 1
 else
  fV s1 0
def fU (s1:List UInt8) (n1:Int):Option (Int×Bool):=
 (gd (decide (0<(s1.length:Int))) (sat s1 0)).bind λb1=>
 if(decide (0<(s1.length:Int)))&&(decide (b1=45))then
  some (au (-n1),true)
 else
  some (n1,true)
def jI (self1:Int→Int→Option (Int×Bool)) (i1:Int) (n3:Int):Option (Int×Bool):=
 self1 n3 (au (i1+1))
def cz (s1:List UInt8):Nat→Int→Int→Option (Int×Bool)
 | 0,_,_=>none
 | fuel1+1,n2,i1=>
  if decide (i1<(s1.length:Int))then
   (sat s1 i1).bind λb2=>
   if decide (b2=45)then
    jI (cz s1 fuel1) i1 n2
   else
    (sat s1 i1).bind λb3=>
    (some (au ((au (n2 * 10))+(au (HY (b3 - 48)))))).bind λn4=>
    if decide (2147483647<n4)then
     some (0,false)
    else
     jI (cz s1 fuel1) i1 n4
  else
   fU s1 n2
def iN (s1:List UInt8):Option (Int×Bool):=
 cz s1 fu 0 0
def kx (n1:Int):Option Int:=
 if decide (n1<0)then
  some (lr ((lr (au (-(au (n1+1)))))+1))
 else
  some (lr n1)
def kW:Nat→Int→Int→Option Int
 | 0,_,_=>none
 | fuel1+1,a2,b2=>
  if !decide (b2=0)then
   if b2≠0 then
    (kW fuel1) b2 (Int.tmod a2 b2)
   else none
  else
   some a2
def qG (a1:Int) (b1:Int):Option Int:=
 kW fu a1 b1
def jL (up1:List UInt8) (down2:List UInt8):Option (GVal×Int):=
 (iN up1).bind λr2=>
 (iN down2).bind λr3=>
 if(!r2.2)||(!r3.2)then
  some ((⟨0,0⟩:GVal),3)
 else
  (kx r2.1).bind λr4=>
  (kx r3.1).bind λr5=>
  (qG r4 r5).bind λr6=>
  if !decide (r6=1)then
   some ((⟨0,0⟩:GVal),5)
  else
   some ((⟨r2.1,r3.1⟩:GVal),0)
def kX (up1:List UInt8) (down1:List UInt8):Option (GVal×Int):=
 (l8 up1).bind λr1=>
 if !r1 then
  some ((⟨0,0⟩:GVal),5)
 else
  if decide (down1=([]:List UInt8))then
   jL up1 ([49]:List UInt8)
  else
   jL up1 down1
def jK (self1:(List UInt8)→(List UInt8)→Int→Option (GVal×Int)) (i1:Int) (up3:List UInt8) (down4:List UInt8):Option (GVal×Int):=
 self1 up3 down4 (au (i1+1))
def dZ (s1:List UInt8):Nat→(List UInt8)→(List UInt8)→Int→Option (GVal×Int)
 | 0,_,_,_=>none
 | fuel1+1,up2,down3,i1=>
  if(decide (i1<(s1.length:Int)))&&(decide (down3=([]:List UInt8)))then
   (sat s1 i1).bind λb2=>
   if decide (b2=47)then
    (pV s1 i1).bind λs2=>
    (jE s1 (au (i1+1))).bind λs3=>
    (l8 s3).bind λr7=>
    (gd (!(!r7)) (sat s3 0)).bind λb3=>
    if(((!r7)||(decide (b3=45)))||(decide (s3=([48]:List UInt8))))||(decide (s3=([49]:List UInt8)))then
     some ((⟨0,0⟩:GVal),5)
    else
     jK (dZ s1 fuel1) i1 s2 s3
   else
    jK (dZ s1 fuel1) i1 up2 down3
  else
   kX up2 down3
def nL (s1:List UInt8):Option (GVal×Int):=
 dZ s1 fu s1 ([]:List UInt8) 0
def m9 (t1:GType):Option Int:=
 if 0≤(lr t1.Frac)then
  some (au (1 * 2 ^ (min (Int.toNat (lr t1.Frac)) 64)))
 else none
def me:Nat→Int→Int→Option Int
 | 0,_,_=>none
 | fuel1+1,a2,b2=>
  if !decide (b2=0)then
   if b2≠0 then
    (me fuel1) b2 (Int.tmod a2 b2)
   else none
  else
   some a2
def rS (a1:Int) (b1:Int):Option Int:=
 me fu a1 b1
def o8 (t1:GType) (v1:GVal):Option Bool:=
 if decide (t1.Kind=2)then
  if 0≤(au (t1.Bits - 1))then
   (some (au (1 * 2 ^ (min (Int.toNat (au (t1.Bits - 1))) 64)))).bind λhalf1=>
   some (((decide (v1.D=1))&&(decide (au (-half1)≤v1.N)))&&(decide (v1.N<half1)))
  else none
 else
  if(((decide (2147483647<v1.N))||(decide (v1.N<(-2147483647))))||(decide (v1.D<1)))||(decide (2147483647<v1.D))then
   some false
  else
   if decide (t1.Kind=3)then
    some (decide (v1.D=1))
   else
    (rS (max v1.N (au (-v1.N))) v1.D).bind λr1=>
    some (decide (r1=1))
def nK (t1:GType) (s1:List UInt8):Option (GVal×Int):=
 (mV t1).bind λr1=>
 if !r1 then
  some ((⟨0,0⟩:GVal),10)
 else
  (nL s1).bind λr2=>
  if(!decide (r2.2=0))||(decide (t1.Kind=1))then
   some (r2.1,r2.2)
  else
   if decide (t1.Kind=3)then
    if !decide (r2.1.D=1)then
     some ((⟨0,0⟩:GVal),5)
    else
     some (r2.1,0)
   else
    (m9 t1).bind λr3=>
    if r2.1.D≠0 then
     if !decide (Int.tmod r3 r2.1.D=0)then
      some ((⟨0,0⟩:GVal),5)
     else
      (m9 t1).bind λr4=>
      (o8 t1 (⟨au (r2.1.N * (au (Int.tdiv r4 r2.1.D))),1⟩:GVal)).bind λr5=>
      if !r5 then
       some ((⟨0,0⟩:GVal),3)
      else
       some ((⟨au (r2.1.N * (au (Int.tdiv r4 r2.1.D))),1⟩:GVal),0)
    else none
def dh (t1:GType) (p1:ab) (s3:List UInt8) (p3:ab):Option (GVal×ab):=
 if !decide (p3.E=0)then
  some ((⟨0,0⟩:GVal),p3)
 else
  (nK t1 s3).bind λr2=>
  if !decide (r2.2=0)then
   (bJ p3 p1.At r2.2).bind λr3=>
   some ((⟨0,0⟩:GVal),r3)
  else
   some (r2.1,p3)
def fb (t1:GType) (p1:ab) (s1:List UInt8) (p2:ab):Option (GVal×ab):=
 (eK p2).bind λr1=>
 (gm s1 r1.1).bind λs2=>
 (aK r1.2 0 [47]).bind λr4=>
 if r4 then
  (eK (⟨r1.2.L,au (r1.2.At+1),r1.2.Deep,r1.2.E,r1.2.Pos⟩:ab)).bind λr5=>
  (gm ([47]:List UInt8) r5.1).bind λs4=>
  (gm s2 s4).bind λs5=>
  dh t1 p1 s5 r5.2
 else
  dh t1 p1 s2 r1.2
def gM (p1:ab) (t1:GType):Option (GVal×ab):=
 (aK p1 0 [45]).bind λr6=>
 if r6 then
  fb t1 p1 ([45]:List UInt8) (⟨p1.L,au (p1.At+1),p1.Deep,p1.E,p1.Pos⟩:ab)
 else
  fb t1 p1 ([]:List UInt8) p1
def fP:Nat→(List GLin)→ab→GLin→Option (List GLin×ab)
 | 0,_,_,_=>none
 | fuel1+1,aN,p2,f1=>
  (aK p2 0 [44]).bind λr3=>
  if r3 then
   (dR (⟨p2.L,au (p2.At+1),p2.Deep,p2.E,p2.Pos⟩:ab)).bind λr4=>
   (gm aN ([r4.1]:List GLin)).bind λzs2=>
   (fP fuel1) zs2 r4.2 r4.1
  else
   (az p2 [93]).bind λr5=>
   some (aN,r5)
def jA (p1:ab):Option (List GLin×ab):=
 (aK p1 0 [93]).bind λr1=>
 if r1 then
  some (([]:List GLin),(⟨p1.L,au (p1.At+1),p1.Deep,p1.E,p1.Pos⟩:ab))
 else
  (dR p1).bind λr2=>
  (gm ([]:List GLin) ([r2.1]:List GLin)).bind λzs1=>
  fP fu zs1 r2.2 r2.1
def gZ (p1:ab):Option (GIndex×ab):=
 (iM p1).bind λr1=>
 (gd r1 (aK p1 1 [91])).bind λr2=>
 if r1&&r2 then
  (cy p1).bind λr3=>
  (az r3.2 [91]).bind λr4=>
  (jA r4).bind λr5=>
  some ((⟨⟨0,[]⟩,r3.1,r5.1⟩:GIndex),r5.2)
 else
  (dR p1).bind λr6=>
  some ((⟨r6.1,[],[]⟩:GIndex),r6.2)
def lT (x1:GIndex) (aN:GExpr) (p2:ab):Option (GExpr×ab):=
 (az p2 [93]).bind λr5=>
 some (aN,r5)
def fK:Nat→ab→GExpr→GIndex→Option (GExpr×ab)
 | 0,_,_,_=>none
 | fuel1+1,p3,out2,x2=>
  (aK p3 0 [44]).bind λr6=>
  if r6 then
   (gZ (⟨p3.L,au (p3.At+1),p3.Deep,p3.E,p3.Pos⟩:ab)).bind λr7=>
   (gm out2.Idx ([r7.1]:List GIndex)).bind λzs2=>
   (fK fuel1) r7.2 (⟨out2.Op,out2.Name,out2.Val,out2.Type_,out2.Lin,zs2,out2.Args⟩:GExpr) r7.1
  else
   lT x2 out2 p3
def jt (p1:ab):Option (GExpr×ab):=
 (cy p1).bind λr1=>
 (az r1.2 [91]).bind λr2=>
 (aK r2 0 [93]).bind λr3=>
 if r3 then
  some ((⟨3,r1.1,⟨0,0⟩,⟨0,0,0,0,0⟩,⟨0,[]⟩,[],[]⟩:GExpr),(⟨r2.L,au (r2.At+1),r2.Deep,r2.E,r2.Pos⟩:ab))
 else
  (gZ r2).bind λr4=>
  (gm ([]:List GIndex) ([r4.1]:List GIndex)).bind λzs1=>
  fK fu r4.2 (⟨3,r1.1,⟨0,0⟩,⟨0,0,0,0,0⟩,⟨0,[]⟩,zs1,[]⟩:GExpr) r4.1
def gC (rec_:(ab→Int→Option (GExpr×ab))) (p1:ab):Option (GExpr×ab):=
 (aK p1 0 [40]).bind λr1=>
 if r1 then
  (eu rec_ p1 4 1 false).bind λr2=>
  if !decide (r2.2.E=0)then
   some ((⟨0,[],⟨0,0⟩,⟨0,0,0,0,0⟩,⟨0,[]⟩,[],[]⟩:GExpr),r2.2)
  else
   (lat r2.1.Args 0).bind λe1=>
   some (e1,r2.2)
 else
  (aK p1 0 [91]).bind λr3=>
  if r3 then
   (dR (⟨p1.L,au (p1.At+1),p1.Deep,p1.E,p1.Pos⟩:ab)).bind λr4=>
   (az r4.2 [93]).bind λr5=>
   some ((⟨2,[],⟨0,0⟩,⟨0,0,0,0,0⟩,r4.1,[],[]⟩:GExpr),r5)
  else
   (iS p1 ([[102,114,97,99],[105,110,116],[102,105,120]]:List (List UInt8))).bind λr6=>
   if r6 then
    (ip p1).bind λr7=>
    (az r7.2 [40]).bind λr8=>
    (gM r8 r7.1).bind λr9=>
    (az r9.2 [41]).bind λr10=>
    some ((⟨1,[],r9.1,r7.1,⟨0,[]⟩,[],[]⟩:GExpr),r10)
   else
    (iS p1 ([[109,105,110],[109,97,120],[105,102],[99,97,115,116]]:List (List UInt8))).bind λr11=>
    if r11 then
     (cK p1 ([[109,105,110],[109,97,120],[105,102],[99,97,115,116]]:List (List UInt8))).bind λr12=>
     if decide (r12.1=1)then
      (eu rec_ r12.2 9 2 false).bind λr13=>
      some (r13.1,r13.2)
     else
      if decide (r12.1=2)then
       (eu rec_ r12.2 10 2 false).bind λr14=>
       some (r14.1,r14.2)
      else
       if decide (r12.1=3)then
        (eu rec_ r12.2 11 3 false).bind λr15=>
        some (r15.1,r15.2)
       else
        (eu rec_ r12.2 12 1 true).bind λr16=>
        some (r16.1,r16.2)
    else
     (jt p1).bind λr17=>
     some (r17.1,r17.2)
def eV (p1:ab) (n1:Int):Option Int:=
 (gd (decide (n1=1)) (aK p1 0 [124])).bind λr1=>
 if(decide (n1=1))&&r1 then
  some 17
 else
  (gd (decide (n1=2)) (aK p1 0 [38])).bind λr2=>
  if(decide (n1=2))&&r2 then
   some 16
  else
   (gd (decide (n1=4)) (aK p1 0 [60])).bind λr3=>
   if(decide (n1=4))&&r3 then
    some 13
   else
    (gd (decide (n1=4)) (aK p1 0 [60,61])).bind λr4=>
    if(decide (n1=4))&&r4 then
     some 14
    else
     (gd (decide (n1=4)) (aK p1 0 [61,61])).bind λr5=>
     if(decide (n1=4))&&r5 then
      some 15
     else
      (gd (decide (n1=5)) (aK p1 0 [43])).bind λr6=>
      if(decide (n1=5))&&r6 then
       some 4
      else
       (gd (decide (n1=5)) (aK p1 0 [45])).bind λr7=>
       if(decide (n1=5))&&r7 then
        some 5
       else
        (gd (decide (n1=6)) (aK p1 0 [42])).bind λr8=>
        if(decide (n1=6))&&r8 then
         some 6
        else
         (gd (decide (n1=6)) (aK p1 0 [47])).bind λr9=>
         if(decide (n1=6))&&r9 then
          some 7
         else
          some 0
def jG (p1:ab) (rec_:(ab→Int→Option (GExpr×ab))) (n1:Int) (aN:GExpr):Option (GExpr×ab):=
 (gt p1).bind λr3=>
 (rec_ r3 n1).bind λr4=>
 some ((⟨aN.Op,aN.Name,aN.Val,aN.Type_,aN.Lin,aN.Idx,[r4.1]⟩:GExpr),(⟨r4.2.L,r4.2.At,p1.Deep,r4.2.E,r4.2.Pos⟩:ab))
def bE (n1:Int) (rec_:(ab→Int→Option (GExpr×ab))):Nat→GExpr→ab→Option (GExpr×ab)
 | 0,_,_=>none
 | fuel1+1,x1,q1=>
  (eV q1 n1).bind λr7=>
  if !decide (r7=0)then
   (eV q1 n1).bind λr8=>
   (rec_ (⟨q1.L,au (q1.At+1),q1.Deep,q1.E,q1.Pos⟩:ab) (au (n1+1))).bind λr9=>
   (bE n1 rec_ fuel1) (⟨r8,[],⟨0,0⟩,⟨0,0,0,0,0⟩,⟨0,[]⟩,[],[x1,r9.1]⟩:GExpr) r9.2
  else
   some (x1,q1)
def bD (rec_:(ab→Int→Option (GExpr×ab))) (p1:ab) (n1:Int):Option (GExpr×ab):=
 (gd (decide (n1=3)) (aK p1 0 [33])).bind λr1=>
 (gd ((!((decide (n1=3))&&r1))&&(decide (n1=7))) (aK p1 0 [45])).bind λr2=>
 if((decide (n1=3))&&r1)||((decide (n1=7))&&r2)then
  if decide (n1=7)then
   jG p1 rec_ n1 (⟨8,[],⟨0,0⟩,⟨0,0,0,0,0⟩,⟨0,[]⟩,[],[]⟩:GExpr)
  else
   jG p1 rec_ n1 (⟨18,[],⟨0,0⟩,⟨0,0,0,0,0⟩,⟨0,[]⟩,[],[]⟩:GExpr)
 else
  if decide (n1=7)then
   (gC rec_ p1).bind λr5=>
   some (r5.1,r5.2)
  else
   (rec_ p1 (au (n1+1))).bind λr6=>
   bE n1 rec_ fu r6.1 r6.2
def aL:Nat→(ab→Int→Option (GExpr×ab))
 | 0=>λ_ _=>none
 | n+1=>bD (aL n)
def po (p1:ab) (n1:Int):Option (GExpr×ab):=aL fu p1 n1
def fT (e1:GExpr) (most1:Int) (rec_:(GExpr→Int→Option Int)):Nat→Int→Int→Option Int
 | 0,_,_=>none
 | fuel1+1,d1,i1=>
  if(decide (i1<(e1.Args.length:Int)))&&(decide (1<most1))then
   (lat e1.Args i1).bind λe2=>
   (rec_ e2 (au (most1 - 1))).bind λr1=>
   (fT e1 most1 rec_ fuel1) (max d1 (au (1+r1))) (au (i1+1))
  else
   some d1
def lV (rec_:(GExpr→Int→Option Int)) (e1:GExpr) (most1:Int):Option Int:=
 fT e1 most1 rec_ fu 1 0
def j6:Nat→(GExpr→Int→Option Int)
 | 0=>λ_ _=>none
 | n+1=>lV (j6 n)
def qT (e1:GExpr) (most1:Int):Option Int:=j6 fu e1 most1
def pp (e1:GExpr):Option Int:=
 (qT e1 41).bind λr1=>
 some r1
def dV (e1:GExpr) (most1:Int) (rec_:(GExpr→Int→Option Int)):Nat→Int→Int→Option Int
 | 0,_,_=>none
 | fuel1+1,n1,i1=>
  if(decide (i1<(e1.Args.length:Int)))&&(decide (n1≤most1))then
   (lat e1.Args i1).bind λe2=>
   (rec_ e2 (au (most1 - n1))).bind λr1=>
   (dV e1 most1 rec_ fuel1) (au (n1+r1)) (au (i1+1))
  else
   some n1
def mI (rec_:(GExpr→Int→Option Int)) (e1:GExpr) (most1:Int):Option Int:=
 dV e1 most1 rec_ fu 1 0
def gu:Nat→(GExpr→Int→Option Int)
 | 0=>λ_ _=>none
 | n+1=>mI (gu n)
def rN (e1:GExpr) (most1:Int):Option Int:=gu fu e1 most1
def ox (e1:GExpr):Option Int:=
 (rN e1 2000).bind λr1=>
 some (min r1 2001)
def fR (e1:GExpr):Nat→Int→Option Bool
 | 0,_=>none
 | fuel1+1,i1=>
  if decide (i1<(e1.Idx.length:Int))then
   (lat e1.Idx i1).bind λe2=>
   if((decide (e2.From=([]:List UInt8)))&&(decide (0<(e2.At.length:Int))))||((!decide (e2.From=([]:List UInt8)))&&((!decide (e2.Lin.K=0))||(decide (0<(e2.Lin.L.length:Int)))))then
    some false
   else
    (fR e1 fuel1) (au (i1+1))
  else
   some true
def nG (e1:GExpr):Option Bool:=
 if(decide (e1.Op<1))||(decide (18<e1.Op))then
  some false
 else
  if((!decide (e1.Op=1))&&(!((decide (e1.Val.N=0))&&(decide (e1.Val.D=0)))))||(((!decide (e1.Op=1))&&(!decide (e1.Op=12)))&&(!((decide (e1.Type_.Kind=0))&&(decide (e1.Type_.Bits=0))&&(decide (e1.Type_.Frac=0))&&(decide (e1.Type_.Round=0))&&(decide (e1.Type_.Over=0)))))then
   some false
  else
   if((!decide (e1.Op=2))&&((!decide (e1.Lin.K=0))||(decide (0<(e1.Lin.L.length:Int)))))||((!decide (e1.Op=3))&&((!decide (e1.Name=([]:List UInt8)))||(decide (0<(e1.Idx.length:Int)))))then
    some false
   else
    fR e1 fu 0
def fS (e1:GExpr):Nat→Int→Option Bool
 | 0,_=>none
 | fuel1+1,i1=>
  if decide (i1<(e1.Idx.length:Int))then
   (lat e1.Idx i1).bind λe2=>
   (gd (!decide (e2.From=([]:List UInt8))) (lat e1.Idx i1)).bind λe3=>
   (gd (!decide (e2.From=([]:List UInt8))) (iX e3.From)).bind λr2=>
   if(!decide (e2.From=([]:List UInt8)))&&(!r2)then
    some false
   else
    (fS e1 fuel1) (au (i1+1))
  else
   some true
def nH (e1:GExpr):Option Bool:=
 (gd (decide (e1.Op=3)) (iX e1.Name)).bind λr1=>
 if(decide (e1.Op=3))&&(!r1)then
  some false
 else
  fS e1 fu 0
def j7 (op1:Int) (i2:Bool):Option Int:=
 if i2 then
  some 1
 else
  if decide (op1=11)then
   some 3
  else
   some 2
def j8 (op1:Int) (i1:Bool):Option Int:=
 if i1 then
  some 0
 else
  if decide (op1=8)then
   j7 op1 (decide (op1=8))
  else
   if decide (op1=12)then
    j7 op1 (decide (op1=12))
   else
    j7 op1 (decide (op1=18))
def ow (op1:Int):Option Int:=
 if decide (op1=1)then
  j8 op1 (decide (op1=1))
 else
  if decide (op1=2)then
   j8 op1 (decide (op1=2))
  else
   j8 op1 (decide (op1=3))
def fv (e1:GExpr):Nat→Int→Option Bool
 | 0,_=>none
 | fuel1+1,i1=>
  if decide (i1<(e1.Idx.length:Int))then
   (lat e1.Idx i1).bind λe2=>
   if decide (6<(e2.At.length:Int))then
    some false
   else
    (fv e1 fuel1) (au (i1+1))
  else
   some true
def mJ (e1:GExpr):Option Bool:=
 (ow e1.Op).bind λr1=>
 if(!decide ((e1.Args.length:Int)=r1))||(decide (6<(e1.Idx.length:Int)))then
  some false
 else
  fv e1 fu 0
def kN (e1:GExpr):Option Bool:=
 some ((decide (13≤e1.Op))&&(decide (e1.Op≤18)))
def nD (op1:Int) (at1:Int):Option Bool:=
 some (((((decide (op1=11))&&(decide (at1=0)))||(decide (op1=16)))||(decide (op1=17)))||(decide (op1=18)))
def fQ (e1:GExpr):Nat→Int→Option Bool
 | 0,_=>none
 | fuel1+1,i1=>
  if decide (i1<(e1.Args.length:Int))then
   (lat e1.Args i1).bind λe2=>
   (kN e2).bind λr2=>
   (nD e1.Op i1).bind λr3=>
   if r2 != r3 then
    some false
   else
    (fQ e1 fuel1) (au (i1+1))
  else
   some true
def nF (e1:GExpr):Option Bool:=
 (gd ((decide (e1.Op=1))||(decide (e1.Op=12))) (mV e1.Type_)).bind λr1=>
 if((decide (e1.Op=1))||(decide (e1.Op=12)))&&(!r1)then
  some false
 else
  fQ e1 fu 0
def mw (self1:Int→Option Bool) (i1:Int):Option Bool:=
 self1 (au (i1+1))
def fw (e1:GExpr) (i1:Int) (self1:Int→Option Bool):Nat→Int→Option Bool
 | 0,_=>none
 | fuel2+1,k1=>
  (lat e1.Idx i1).bind λe3=>
  if decide (k1<(e3.At.length:Int))then
   (lat e1.Idx i1).bind λe4=>
   (lat e4.At k1).bind λe5=>
   (iw e5).bind λr4=>
   if !r4 then
    some false
   else
    (fw e1 i1 self1 fuel2) (au (k1+1))
  else
   mw self1 i1
def ck (e1:GExpr):Nat→Int→Option Bool
 | 0,_=>none
 | fuel1+1,i1=>
  if decide (i1<(e1.Idx.length:Int))then
   (lat e1.Idx i1).bind λe2=>
   (iw e2.Lin).bind λr3=>
   if !r3 then
    some false
   else
    fw e1 i1 (ck e1 fuel1) fu 0
  else
   some true
def mL (e1:GExpr):Option Bool:=
 (gd (decide (e1.Op=1)) (o8 e1.Type_ e1.Val)).bind λr1=>
 (gd (!((decide (e1.Op=1))&&(!r1))) (iw e1.Lin)).bind λr2=>
 if((decide (e1.Op=1))&&(!r1))||(!r2)then
  some false
 else
  ck e1 fu 0
def ir (e1:GExpr) (rec_:(GExpr→Option Int)):Nat→Int→Option Int
 | 0,_=>none
 | fuel1+1,i1=>
  if decide (i1<(e1.Args.length:Int))then
   (lat e1.Args i1).bind λe2=>
   (rec_ e2).bind λr6=>
   if !decide (r6=0)then
    some r6
   else
    (ir e1 rec_ fuel1) (au (i1+1))
  else
   some 0
def mK (rec_:(GExpr→Option Int)) (e1:GExpr):Option Int:=
 (nG e1).bind λr1=>
 if !r1 then
  some 5
 else
  (nH e1).bind λr2=>
  if !r2 then
   some 7
  else
   (mJ e1).bind λr3=>
   if !r3 then
    some 11
   else
    (nF e1).bind λr4=>
    if !r4 then
     some 10
    else
     (mL e1).bind λr5=>
     if !r5 then
      some 1
     else
      ir e1 rec_ fu 0
def kS:Nat→(GExpr→Option Int)
 | 0=>λ_=>none
 | n+1=>mK (kS n)
def rO (e1:GExpr):Option Int:=kS fu e1
def kT (e1:GExpr):Option Int:=
 (pp e1).bind λr1=>
 if decide (40<r1)then
  some 13
 else
  (ox e1).bind λr2=>
  if decide (2000<r2)then
   some 2
  else
   (rO e1).bind λr3=>
   some r3
def iF (p1:ab):Option (GExpr×ab):=
 (po p1 1).bind λr1=>
 if decide (r1.2.E=0)then
  (kT r1.1).bind λr2=>
  if !decide (r2=0)then
   (bJ r1.2 p1.At r2).bind λr3=>
   some (r1.1,r3)
  else
   some (r1.1,r1.2)
 else
  some (r1.1,r1.2)
def gz (a1:List GLin) (b1:List GLin):Nat→Int→Option Bool
 | 0,_=>none
 | fuel1+1,i1=>
  if decide (i1<(a1.length:Int))then
   (lat a1 i1).bind λe1=>
   (lat b1 i1).bind λe2=>
   (jU e1 e2).bind λr1=>
   if !r1 then
    some false
   else
    (gz a1 b1 fuel1) (au (i1+1))
  else
   some true
def lv (a1:List GLin) (b1:List GLin):Option Bool:=
 if !decide ((a1.length:Int)=(b1.length:Int))then
  some false
 else
  gz a1 b1 fu 0
def oH (a1:GIndex) (b1:GIndex):Option Bool:=
 (gd (decide (a1.From=b1.From)) (jU a1.Lin b1.Lin)).bind λr1=>
 (gd ((decide (a1.From=b1.From))&&r1) (lv a1.At b1.At)).bind λr2=>
 some (((decide (a1.From=b1.From))&&r1)&&r2)
def gj (a1:List GIndex) (b1:List GIndex):Nat→Int→Option Bool
 | 0,_=>none
 | fuel1+1,i1=>
  if decide (i1<(a1.length:Int))then
   (lat a1 i1).bind λe1=>
   (lat b1 i1).bind λe2=>
   (oH e1 e2).bind λr1=>
   if !r1 then
    some false
   else
    (gj a1 b1 fuel1) (au (i1+1))
  else
   some true
def mX (a1:List GIndex) (b1:List GIndex):Option Bool:=
 if !decide ((a1.length:Int)=(b1.length:Int))then
  some false
 else
  gj a1 b1 fu 0
def iy (a1:List GExpr) (b1:List GExpr) (rec_:(GExpr→GExpr→Option Bool)):Nat→Int→Option Bool
 | 0,_=>none
 | fuel1+1,i1=>
  if decide (i1<(a1.length:Int))then
   (lat a1 i1).bind λe1=>
   (lat b1 i1).bind λe2=>
   (rec_ e1 e2).bind λr1=>
   if !r1 then
    some false
   else
    (iy a1 b1 rec_ fuel1) (au (i1+1))
  else
   some true
def oI (rec_:(GExpr→GExpr→Option Bool)) (a1:List GExpr) (b1:List GExpr):Option Bool:=
 if !decide ((a1.length:Int)=(b1.length:Int))then
  some false
 else
  iy a1 b1 rec_ fu 0
def nR (rec_:(GExpr→GExpr→Option Bool)) (a1:GExpr) (b1:GExpr):Option Bool:=
 (gd ((((decide (a1.Op=b1.Op))&&(decide (a1.Name=b1.Name)))&&((decide (a1.Val.N=b1.Val.N))&&(decide (a1.Val.D=b1.Val.D))))&&((decide (a1.Type_.Kind=b1.Type_.Kind))&&(decide (a1.Type_.Bits=b1.Type_.Bits))&&(decide (a1.Type_.Frac=b1.Type_.Frac))&&(decide (a1.Type_.Round=b1.Type_.Round))&&(decide (a1.Type_.Over=b1.Type_.Over)))) (jU a1.Lin b1.Lin)).bind λr1=>
 (gd (((((decide (a1.Op=b1.Op))&&(decide (a1.Name=b1.Name)))&&((decide (a1.Val.N=b1.Val.N))&&(decide (a1.Val.D=b1.Val.D))))&&((decide (a1.Type_.Kind=b1.Type_.Kind))&&(decide (a1.Type_.Bits=b1.Type_.Bits))&&(decide (a1.Type_.Frac=b1.Type_.Frac))&&(decide (a1.Type_.Round=b1.Type_.Round))&&(decide (a1.Type_.Over=b1.Type_.Over))))&&r1) (mX a1.Idx b1.Idx)).bind λr2=>
 (gd ((((((decide (a1.Op=b1.Op))&&(decide (a1.Name=b1.Name)))&&((decide (a1.Val.N=b1.Val.N))&&(decide (a1.Val.D=b1.Val.D))))&&((decide (a1.Type_.Kind=b1.Type_.Kind))&&(decide (a1.Type_.Bits=b1.Type_.Bits))&&(decide (a1.Type_.Frac=b1.Type_.Frac))&&(decide (a1.Type_.Round=b1.Type_.Round))&&(decide (a1.Type_.Over=b1.Type_.Over))))&&r1)&&r2) (oI rec_ a1.Args b1.Args)).bind λr3=>
 some (((((((decide (a1.Op=b1.Op))&&(decide (a1.Name=b1.Name)))&&((decide (a1.Val.N=b1.Val.N))&&(decide (a1.Val.D=b1.Val.D))))&&((decide (a1.Type_.Kind=b1.Type_.Kind))&&(decide (a1.Type_.Bits=b1.Type_.Bits))&&(decide (a1.Type_.Frac=b1.Type_.Frac))&&(decide (a1.Type_.Round=b1.Type_.Round))&&(decide (a1.Type_.Over=b1.Type_.Over))))&&r1)&&r2)&&r3)
def kJ:Nat→(GExpr→GExpr→Option Bool)
 | 0=>λ_ _=>none
 | n+1=>nR (kJ n)
def qH (a1:GExpr) (b1:GExpr):Option Bool:=kJ fu a1 b1
def jR (s1:List UInt8) (l1:List bm) (at1:Int):Option Int:=
 if decide (at1<(l1.length:Int))then
  (lat l1 at1).bind λe1=>
  some e1.At
 else
  some (s1.length:Int)
def cY:Nat→(List (List UInt8))→aa→Option (bL (List (List UInt8)×aa))
 | 0,_,_=>none
 | fuel1+1,aN,r3=>
  (aE r3 [44]).bind λ⟨r4,s2⟩=>
  if r4 then
   pb (aV s2) λ⟨r5,s3⟩=>
   (gm aN ([r5]:List (List UInt8))).bind λzs1=>
   (cY fuel1) zs1 s3
  else
   some (.ret (aN,s2))
def bO (r1:aa):Option (bL (List (List UInt8)×aa)):=
 pb (aV r1) λ⟨r2,s1⟩=>
 cY fu ([r2]:List (List UInt8)) s1
def cR (r3:Bool) (r4:aa):Option (bL (aX×aa)):=
 pb (bG r4) λ⟨r5,s2⟩=>
 some (.ret ((⟨r5,r3⟩:aX),s2))
def d5 (r2:aa):Option (bL (aX×aa)):=
 (aE (⟨r2.l,au (r2.at_+1),r2.deep⟩:aa) ([61,61]:List UInt8)).bind λ⟨r3,s1⟩=>
 if !r3 then
  pb (ar s1 [60,61]) λ⟨r6,s3⟩=>
  cR r3 s3
 else
  cR r3 s1
def cO (r1:aa):Option (bL (aX×aa)):=
 (bi r1 2 [48]).bind λr7=>
 if !r7 then
  pb (aW r1) λ⟨r8,s4⟩=>
  d5 s4
 else
  d5 r1
def d4 (r1:aa):Option (bL (iz×aa)):=
 pb (aV r1) λ⟨r2,s1⟩=>
 pb (ar s1 [58]) λ⟨r3,s2⟩=>
 pb (dN s2) λ⟨r4,s3⟩=>
 pb (ar s3 [91]) λ⟨r5,s4⟩=>
 pb (fE s4) λ⟨r6,s5⟩=>
 some (.ret ((⟨r2,r4,r6⟩:iz),s5))
def cI:Nat→(List gl)→aa→Option (bL (List gl×aa))
 | 0,_,_=>none
 | fuel1+1,aN,r2=>
  pb (aV r2) λ⟨r3,s1⟩=>
  pb (ar s1 [60]) λ⟨r4,s2⟩=>
  pb (bG s2) λ⟨r5,s3⟩=>
  (gm aN ([⟨r3,r5⟩]:List gl)).bind λzs1=>
  (aE s3 [44]).bind λ⟨r6,s4⟩=>
  if !r6 then
   some (.ret (zs1,s4))
  else
   (cI fuel1) zs1 s4
def ez (r1:aa):Option (bL (List gl×aa)):=
 cI fu ([]:List gl) r1
def gQ (r1:aa) (d1:eF):Option (bL (Unit×aa×eF)):=
 (gd (decide (au (r1.at_+1)<(r1.l.length:Int))) (lat r1.l (au (r1.at_+1)))).bind λe1=>
 (gd ((decide (au (r1.at_+1)<(r1.l.length:Int)))&&(decide (e1.Kind=3))) (lat r1.l (au (r1.at_+1)))).bind λe2=>
 (gd (((decide (au (r1.at_+1)<(r1.l.length:Int)))&&(decide (e1.Kind=3)))&&(decide (e2.Text=([40]:List UInt8)))) (bi r1 1 [109,105,110])).bind λr2=>
 (gd ((((decide (au (r1.at_+1)<(r1.l.length:Int)))&&(decide (e1.Kind=3)))&&(decide (e2.Text=([40]:List UInt8))))&& !r2) (bi r1 1 [109,97,120])).bind λr3=>
 if(((decide (au (r1.at_+1)<(r1.l.length:Int)))&&(decide (e1.Kind=3)))&&(decide (e2.Text=([40]:List UInt8))))&&(r2||r3)then
  some (.ret ((),r1,d1))
 else
  (bF r1 ([[115,117,109],[112,114,111,100],[109,105,110],[109,97,120],[115,99,97,110]]:List (List UInt8))).bind λ⟨r4,s1⟩=>
  if decide (au (r4+1)=0)then
   some (.ret ((),s1,(⟨d1.Name,d1.Type_,d1.Dims,d1.Red,au (r4+1),d1.Body⟩:eF)))
  else
   (bi s1 3 [58]).bind λr5=>
   if !r5 then
    pb (ez s1) λ⟨r6,s2⟩=>
    pb (ar s2 [58]) λ⟨r7,s3⟩=>
    some (.ret ((),s3,(⟨d1.Name,d1.Type_,d1.Dims,r6,au (r4+1),d1.Body⟩:eF)))
   else
    pb (ar s1 [58]) λ⟨r8,s4⟩=>
    some (.ret ((),s4,(⟨d1.Name,d1.Type_,d1.Dims,d1.Red,au (r4+1),d1.Body⟩:eF)))
def fa (r6:aa) (d1:eF):Option (bL (eF×aa)):=
 pb (ar r6 [93]) λ⟨r7,s5⟩=>
 pb (ar s5 [61]) λ⟨r8,s6⟩=>
 pb (gQ s6 d1) λ⟨r9,s7,s8⟩=>
 pb (ky s7) λ⟨r10,s9⟩=>
 (kh r10).bind λr11=>
 if !decide (r11=0)then
  pb (bP s9 s7.at_ r11) λr12=>
  some (.ret ((⟨s8.Name,s8.Type_,s8.Dims,s8.Red,s8.Fold,r10⟩:eF),s9))
 else
  some (.ret ((⟨s8.Name,s8.Type_,s8.Dims,s8.Red,s8.Fold,r10⟩:eF),s9))
def fh (r1:aa):Option (bL (eF×aa)):=
 pb (aV r1) λ⟨r2,s1⟩=>
 pb (ar s1 [58]) λ⟨r3,s2⟩=>
 pb (dN s2) λ⟨r4,s3⟩=>
 pb (ar s3 [91]) λ⟨r5,s4⟩=>
 (bi s4 3 [93]).bind λr13=>
 if !r13 then
  pb (ez s4) λ⟨r14,s10⟩=>
  fa s10 (⟨r2,r4,r14,[],0,(⟨0,[],⟨0,0⟩,⟨0,0,0,0,0⟩,⟨0,[]⟩,[],[]⟩:GExpr)⟩:eF)
 else
  fa s4 (⟨r2,r4,[],[],0,(⟨0,[],⟨0,0⟩,⟨0,0,0,0,0⟩,⟨0,[]⟩,[],[]⟩:GExpr)⟩:eF)
def aB (self1:aa→bI→Option (bL (bI×aa))) (r3:aa) (p2:bI):Option (bL (bI×aa)):=
 pb (ar r3 [59]) λ⟨r4,s1⟩=>
 self1 s1 p2
def bf:Nat→aa→bI→Option (bL (bI×aa))
 | 0,_,_=>none
 | fuel1+1,r2,p1=>
  if decide (r2.at_<(r2.l.length:Int))then
   (bF r2 ([[115,105,122,101],[119,104,101,114,101],[105,110],[100,101,102],[111,117,116]]:List (List UInt8))).bind λ⟨r5,s2⟩=>
   if decide (r5=0)then
    pb (bO s2) λ⟨r6,s3⟩=>
    (gm p1.Sizes r6).bind λzs1=>
    aB (bf fuel1) s3 (⟨zs1,p1.Where,p1.Params,p1.Defs,p1.Outs⟩:bI)
   else
    if decide (r5=1)then
     pb (cO s2) λ⟨r7,s4⟩=>
     (gm p1.Where ([r7]:List aX)).bind λzs2=>
     aB (bf fuel1) s4 (⟨p1.Sizes,zs2,p1.Params,p1.Defs,p1.Outs⟩:bI)
    else
     if decide (r5=2)then
      pb (d4 s2) λ⟨r8,s5⟩=>
      (gm p1.Params ([r8]:List iz)).bind λzs3=>
      aB (bf fuel1) s5 (⟨p1.Sizes,p1.Where,zs3,p1.Defs,p1.Outs⟩:bI)
     else
      if decide (r5=3)then
       pb (fh s2) λ⟨r9,s6⟩=>
       (gm p1.Defs ([r9]:List eF)).bind λzs4=>
       aB (bf fuel1) s6 (⟨p1.Sizes,p1.Where,p1.Params,zs4,p1.Outs⟩:bI)
      else
       if decide (r5=4)then
        pb (bO s2) λ⟨r10,s7⟩=>
        (gm p1.Outs r10).bind λzs5=>
        aB (bf fuel1) s7 (⟨p1.Sizes,p1.Where,p1.Params,p1.Defs,zs5⟩:bI)
       else
        pb (aW s2) λ⟨r11,s8⟩=>
        aB (bf fuel1) s8 p1
  else
   some (.ret (p1,r2))
def ju (r1:aa):Option (bL (bI×aa)):=
 bf fu r1 (⟨[],[],[],[],[]⟩:bI)
def lI (a1:aa) (a3:bI):Option (bL (Unit×aa×bI)):=
 pb (ju a1) λ⟨r1,s1⟩=>
 some (.ret ((),s1,r1))
def nM (s1:List UInt8):Option (bI×Int×Int):=
 (jN s1).bind λr1=>
 if !decide (r1.2.2=0)then
  some ((⟨[],[],[],[],[]⟩:bI),r1.2.1,r1.2.2)
 else
  yb (lI (⟨r1.1,0,0⟩:aa) (⟨[],[],[],[],[]⟩:bI)) (λ⟨r2,s2,s3⟩=>
   if !decide (0=0)then
    (fL s1 r1.1 0).bind λr3=>
    some ((⟨[],[],[],[],[]⟩:bI),r3,0)
   else
    some (s3,0,0)) λpa1 pn1=>
   (fL s1 r1.1 pa1).bind λr4=>
   some ((⟨[],[],[],[],[]⟩:bI),r4,pn1)
def kF (p1:ab):Option (aX×ab):=
 (gd ((decide (p1.E=0))&& !(decide ((p1.L.length:Int)≤p1.At))) (lat p1.L p1.At)).bind λe1=>
 (gd ((decide (p1.E=0))&& !((decide ((p1.L.length:Int)≤p1.At))||(!decide (e1.Kind=2)))) (lat p1.L p1.At)).bind λe2=>
 if(decide (p1.E=0))&&(((decide ((p1.L.length:Int)≤p1.At))||(!decide (e1.Kind=2)))||(!decide (e2.Text=([48]:List UInt8))))then
  (cq p1).bind λr1=>
  some ((⟨⟨0,[]⟩,false⟩:aX),r1)
 else
  (cK (⟨p1.L,au (p1.At+1),p1.Deep,p1.E,p1.Pos⟩:ab) ([[61,61],[60,61]]:List (List UInt8))).bind λr2=>
  (dR r2.2).bind λr3=>
  some ((⟨r3.1,decide (r2.1=1)⟩:aX),r3.2)
def l6 (p1:ab):Option (iz×ab):=
 (cy p1).bind λr1=>
 (az r1.2 [58]).bind λr2=>
 (ip r2).bind λr3=>
 (az r3.2 [91]).bind λr4=>
 (jA r4).bind λr5=>
 some ((⟨r1.1,r3.1,r5.1⟩:iz),r5.2)
def eQ:Nat→(List gl)→ab→Option (List gl×ab)
 | 0,_,_=>none
 | fuel1+1,aN,p2=>
  (cy p2).bind λr1=>
  (az r1.2 [60]).bind λr2=>
  (dR r2).bind λr3=>
  (gm aN ([⟨r1.1,r3.1⟩]:List gl)).bind λzs1=>
  (aK r3.2 0 [44]).bind λr4=>
  if !r4 then
   some (zs1,r3.2)
  else
   (eQ fuel1) zs1 (⟨r3.2.L,au (r3.2.At+1),r3.2.Deep,r3.2.E,r3.2.Pos⟩:ab)
def ia (p1:ab):Option (List gl×ab):=
 eQ fu ([]:List gl) p1
def hU (p3:ab) (d2:eF):Option (eF×ab):=
 (iF p3).bind λr7=>
 some ((⟨d2.Name,d2.Type_,d2.Dims,d2.Red,d2.Fold,r7.1⟩:eF),r7.2)
def hV (d1:eF) (p2:ab):Option (eF×ab):=
 (az p2 [93]).bind λr5=>
 (az r5 [61]).bind λr6=>
 (iS r6 ([[115,117,109],[112,114,111,100],[109,105,110],[109,97,120],[115,99,97,110]]:List (List UInt8))).bind λr8=>
 (gd r8 (iS r6 ([[109,105,110],[109,97,120]]:List (List UInt8)))).bind λr9=>
 (gd (r8&&r9) (aK r6 1 [40])).bind λr10=>
 if r8&&(!(r9&&r10))then
  (cK r6 ([[115,117,109],[112,114,111,100],[109,105,110],[109,97,120],[115,99,97,110]]:List (List UInt8))).bind λr11=>
  (aK r11.2 0 [58]).bind λr12=>
  if !r12 then
   (ia r11.2).bind λr13=>
   (az r13.2 [58]).bind λr14=>
   hU r14 (⟨d1.Name,d1.Type_,d1.Dims,r13.1,r11.1,d1.Body⟩:eF)
  else
   (az r11.2 [58]).bind λr15=>
   hU r15 (⟨d1.Name,d1.Type_,d1.Dims,d1.Red,r11.1,d1.Body⟩:eF)
 else
  hU r6 d1
def nZ (p1:ab):Option (eF×ab):=
 (cy p1).bind λr1=>
 (az r1.2 [58]).bind λr2=>
 (ip r2).bind λr3=>
 (az r3.2 [91]).bind λr4=>
 (aK r4 0 [93]).bind λr16=>
 if !r16 then
  (ia r4).bind λr17=>
  hV (⟨r1.1,r3.1,r17.1,[],0,(⟨0,[],⟨0,0⟩,⟨0,0,0,0,0⟩,⟨0,[]⟩,[],[]⟩:GExpr)⟩:eF) r17.2
 else
  hV (⟨r1.1,r3.1,[],[],0,(⟨0,[],⟨0,0⟩,⟨0,0,0,0,0⟩,⟨0,[]⟩,[],[]⟩:GExpr)⟩:eF) r4
def es:Nat→(List (List UInt8))→ab→Option (List (List UInt8)×ab)
 | 0,_,_=>none
 | fuel1+1,l2,p2=>
  (aK p2 0 [44]).bind λr2=>
  if r2 then
   (cy (⟨p2.L,au (p2.At+1),p2.Deep,p2.E,p2.Pos⟩:ab)).bind λr3=>
   (gm l2 ([r3.1]:List (List UInt8))).bind λzs2=>
   (es fuel1) zs2 r3.2
  else
   some ((l2,p2))
def gD (p1:ab) (l1:List (List UInt8)):Option (List (List UInt8)×ab):=
 (cy p1).bind λr1=>
 (gm l1 ([r1.1]:List (List UInt8))).bind λzs1=>
 es fu zs1 r1.2
def bw (out2:bI) (p2:ab):Option (bI×ab):=
 (az p2 [59]).bind λr2=>
 some ((out2,r2))
def cX (p1:ab) (aN:bI):Option (bI×ab):=
 (cK p1 ([[115,105,122,101],[119,104,101,114,101],[105,110],[100,101,102],[111,117,116]]:List (List UInt8))).bind λr1=>
 if decide (r1.1=1)then
  (gD r1.2 aN.Sizes).bind λr3=>
  bw (⟨r3.1,aN.Where,aN.Params,aN.Defs,aN.Outs⟩:bI) r3.2
 else
  if decide (r1.1=2)then
   (kF r1.2).bind λr4=>
   (gm aN.Where ([r4.1]:List aX)).bind λzs1=>
   bw (⟨aN.Sizes,zs1,aN.Params,aN.Defs,aN.Outs⟩:bI) r4.2
  else
   if decide (r1.1=3)then
    (l6 r1.2).bind λr5=>
    (gm aN.Params ([r5.1]:List iz)).bind λzs2=>
    bw (⟨aN.Sizes,aN.Where,zs2,aN.Defs,aN.Outs⟩:bI) r5.2
   else
    if decide (r1.1=4)then
     (nZ r1.2).bind λr6=>
     (gm aN.Defs ([r6.1]:List eF)).bind λzs3=>
     bw (⟨aN.Sizes,aN.Where,aN.Params,zs3,aN.Outs⟩:bI) r6.2
    else
     if decide (r1.1=5)then
      (gD r1.2 aN.Outs).bind λr7=>
      bw (⟨aN.Sizes,aN.Where,aN.Params,aN.Defs,r7.1⟩:bI) r7.2
     else
      bw aN r1.2
def lU (s1:List UInt8) (r1:List bm×Int×Int) (aN:bI) (p1:ab):Option (bI×Int×Int):=
 if !decide (p1.E=0)then
  (jR s1 r1.1 p1.Pos).bind λr2=>
  some ((⟨[],[],[],[],[]⟩:bI),r2,p1.E)
 else
  some (aN,0,0)
def gE (r1:List bm×Int×Int) (s1:List UInt8):Nat→ab→bI→Option (bI×Int×Int)
 | 0,_,_=>none
 | fuel1+1,p2,out2=>
  if(decide (p2.At<(r1.1.length:Int)))&&(decide (p2.E=0))then
   (cX p2 out2).bind λr3=>
   (gE r1 s1 fuel1) r3.2 r3.1
  else
   lU s1 r1 out2 p2
def ov (s1:List UInt8):Option (bI×Int×Int):=
 (jH s1).bind λr1=>
 if !decide (r1.2.2=0)then
  some ((⟨[],[],[],[],[]⟩:bI),r1.2.1,r1.2.2)
 else
  gE r1 s1 fu (⟨r1.1,0,0,0,0⟩:ab) (⟨[],[],[],[],[]⟩:bI)
def ij (a1:List (List UInt8)) (b1:List (List UInt8)):Nat→Int→Option Bool
 | 0,_=>none
 | fuel1+1,i1=>
  if decide (i1<(a1.length:Int))then
   (lat a1 i1).bind λe1=>
   (lat b1 i1).bind λe2=>
   if !decide (e1=e2)then
    some false
   else
    (ij a1 b1 fuel1) (au (i1+1))
  else
   some true
def lh (a1:List (List UInt8)) (b1:List (List UInt8)):Option Bool:=
 if !decide ((a1.length:Int)=(b1.length:Int))then
  some false
 else
  ij a1 b1 fu 0
def rT (a1:aX) (b1:aX):Option Bool:=
 (gd (a1.Eq==b1.Eq) (jU a1.Lin b1.Lin)).bind λr1=>
 some ((a1.Eq==b1.Eq)&&r1)
def jV (a1:List aX) (b1:List aX):Nat→Int→Option Bool
 | 0,_=>none
 | fuel1+1,i1=>
  if decide (i1<(a1.length:Int))then
   (lat a1 i1).bind λe1=>
   (lat b1 i1).bind λe2=>
   (rT e1 e2).bind λr1=>
   if !r1 then
    some false
   else
    (jV a1 b1 fuel1) (au (i1+1))
  else
   some true
def pH (a1:List aX) (b1:List aX):Option Bool:=
 if !decide ((a1.length:Int)=(b1.length:Int))then
  some false
 else
  jV a1 b1 fu 0
def jW (a1:List gl) (b1:List gl):Nat→Int→Option Bool
 | 0,_=>none
 | fuel1+1,i1=>
  if decide (i1<(a1.length:Int))then
   (lat a1 i1).bind λe1=>
   (lat b1 i1).bind λe2=>
   (gd (!(!decide (e1.Name=e2.Name))) (lat a1 i1)).bind λe3=>
   (gd (!(!decide (e1.Name=e2.Name))) (lat b1 i1)).bind λe4=>
   (gd (!(!decide (e1.Name=e2.Name))) (jU e3.Size e4.Size)).bind λr1=>
   if(!decide (e1.Name=e2.Name))||(!r1)then
    some false
   else
    (jW a1 b1 fuel1) (au (i1+1))
  else
   some true
def n8 (a1:List gl) (b1:List gl):Option Bool:=
 if !decide ((a1.length:Int)=(b1.length:Int))then
  some false
 else
  jW a1 b1 fu 0
def ql (a1:eF) (b1:eF):Option Bool:=
 (gd (((decide (a1.Name=b1.Name))&&((decide (a1.Type_.Kind=b1.Type_.Kind))&&(decide (a1.Type_.Bits=b1.Type_.Bits))&&(decide (a1.Type_.Frac=b1.Type_.Frac))&&(decide (a1.Type_.Round=b1.Type_.Round))&&(decide (a1.Type_.Over=b1.Type_.Over))))&&(decide (a1.Fold=b1.Fold))) (n8 a1.Dims b1.Dims)).bind λr1=>
 (gd ((((decide (a1.Name=b1.Name))&&((decide (a1.Type_.Kind=b1.Type_.Kind))&&(decide (a1.Type_.Bits=b1.Type_.Bits))&&(decide (a1.Type_.Frac=b1.Type_.Frac))&&(decide (a1.Type_.Round=b1.Type_.Round))&&(decide (a1.Type_.Over=b1.Type_.Over))))&&(decide (a1.Fold=b1.Fold)))&&r1) (n8 a1.Red b1.Red)).bind λr2=>
 (gd (((((decide (a1.Name=b1.Name))&&((decide (a1.Type_.Kind=b1.Type_.Kind))&&(decide (a1.Type_.Bits=b1.Type_.Bits))&&(decide (a1.Type_.Frac=b1.Type_.Frac))&&(decide (a1.Type_.Round=b1.Type_.Round))&&(decide (a1.Type_.Over=b1.Type_.Over))))&&(decide (a1.Fold=b1.Fold)))&&r1)&&r2) (qH a1.Body b1.Body)).bind λr3=>
 some ((((((decide (a1.Name=b1.Name))&&((decide (a1.Type_.Kind=b1.Type_.Kind))&&(decide (a1.Type_.Bits=b1.Type_.Bits))&&(decide (a1.Type_.Frac=b1.Type_.Frac))&&(decide (a1.Type_.Round=b1.Type_.Round))&&(decide (a1.Type_.Over=b1.Type_.Over))))&&(decide (a1.Fold=b1.Fold)))&&r1)&&r2)&&r3)
def iW (a1:bI) (b1:bI):Nat→Int→Option Bool
 | 0,_=>none
 | fuel1+1,i1=>
  if decide (i1<(a1.Defs.length:Int))then
   (lat a1.Defs i1).bind λe1=>
   (lat b1.Defs i1).bind λe2=>
   (ql e1 e2).bind λr4=>
   if !r4 then
    some false
   else
    (iW a1 b1 fuel1) (au (i1+1))
  else
   some true
def qk (a1:bI) (b1:bI):Option Bool:=
 iW a1 b1 fu 0
def iV (a1:bI) (b1:bI):Nat→Int→Option Bool
 | 0,_=>none
 | fuel2+1,i2=>
  if decide (i2<(a1.Params.length:Int))then
   (lat a1.Params i2).bind λe3=>
   (lat b1.Params i2).bind λe4=>
   (gd (!(!decide (e3.Name=e4.Name))) (lat a1.Params i2)).bind λe5=>
   (gd (!(!decide (e3.Name=e4.Name))) (lat b1.Params i2)).bind λe6=>
   (gd (!((!decide (e3.Name=e4.Name))||(!((decide (e5.Type_.Kind=e6.Type_.Kind))&&(decide (e5.Type_.Bits=e6.Type_.Bits))&&(decide (e5.Type_.Frac=e6.Type_.Frac))&&(decide (e5.Type_.Round=e6.Type_.Round))&&(decide (e5.Type_.Over=e6.Type_.Over)))))) (lat a1.Params i2)).bind λe7=>
   (gd (!((!decide (e3.Name=e4.Name))||(!((decide (e5.Type_.Kind=e6.Type_.Kind))&&(decide (e5.Type_.Bits=e6.Type_.Bits))&&(decide (e5.Type_.Frac=e6.Type_.Frac))&&(decide (e5.Type_.Round=e6.Type_.Round))&&(decide (e5.Type_.Over=e6.Type_.Over)))))) (lat b1.Params i2)).bind λe8=>
   (gd (!((!decide (e3.Name=e4.Name))||(!((decide (e5.Type_.Kind=e6.Type_.Kind))&&(decide (e5.Type_.Bits=e6.Type_.Bits))&&(decide (e5.Type_.Frac=e6.Type_.Frac))&&(decide (e5.Type_.Round=e6.Type_.Round))&&(decide (e5.Type_.Over=e6.Type_.Over)))))) (lv e7.Dims e8.Dims)).bind λr5=>
   if((!decide (e3.Name=e4.Name))||(!((decide (e5.Type_.Kind=e6.Type_.Kind))&&(decide (e5.Type_.Bits=e6.Type_.Bits))&&(decide (e5.Type_.Frac=e6.Type_.Frac))&&(decide (e5.Type_.Round=e6.Type_.Round))&&(decide (e5.Type_.Over=e6.Type_.Over)))))||(!r5)then
    some false
   else
    (iV a1 b1 fuel2) (au (i2+1))
  else
   qk a1 b1
def pG (a1:bI) (b1:bI):Option Bool:=
 (lh a1.Sizes b1.Sizes).bind λr1=>
 (gd (!(!r1)) (pH a1.Where b1.Where)).bind λr2=>
 (gd (!((!r1)||(!r2))) (lh a1.Outs b1.Outs)).bind λr3=>
 if((((!r1)||(!r2))||(!r3))||(!decide ((a1.Params.length:Int)=(b1.Params.length:Int))))||(!decide ((a1.Defs.length:Int)=(b1.Defs.length:Int)))then
  some false
 else
  iV a1 b1 fu 0
def kO (s1:List UInt8):Option Bool:=
 if decide (4000<(s1.length:Int))then
  (k0).bind λr1=>
  some r1
 else
  (nM s1).bind λr2=>
  (ov s1).bind λr3=>
  (pG r2.1 r3.1).bind λr4=>
  (gd ((r4&&(decide (r2.2.1=r3.2.1)))&&(decide (r2.2.2=r3.2.2))) (k0)).bind λr5=>
  some (((r4&&(decide (r2.2.1=r3.2.1)))&&(decide (r2.2.2=r3.2.2)))&&r5)
end Go.Proofs.YtmhoikfoogemnaaGreatDoor
