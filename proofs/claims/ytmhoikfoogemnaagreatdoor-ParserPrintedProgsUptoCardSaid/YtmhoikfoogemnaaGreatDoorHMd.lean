import Derived.Test.YtmhoikfoogemnaaGreatDoorHXm
namespace Go.Proofs.YtmhoikfoogemnaaGreatDoor
open Go Go.RowKit Go.Vc
set_option linter.unusedVariables false
set_option linter.unusedSimpArgs false
structure bp where
 Kind:Int
 At:Int
 Text:List UInt8
deriving Inhabited,DecidableEq
def ag:Cod bp where
 n:=3
 rel _ _ x cs:=cs=[(Value.int .i64 x.Kind),(Value.int .i64 x.At),(str x.Text)]
 len h:=by subst h;rfl
 one h:=by subst h;rfl
 sp _ h:=h
structure aa where
 l:List bp
 at_:Int
 deep:Int
deriving Inhabited,DecidableEq
def fnP_k1 (v:Value) (m:(Int→Option Bool)) (D:NP) (w:World):Prop:=
 JX v=true∧∀ (D':NP) (w':World),Sp D w D' w'→(∀ k,D' k→k<w'.heap.size)→∀ (x_1:Int) (r:Bool),AllCl [] D' w'→m x_1=some r→
  CallV Tryz.prog v [(Value.int .i32 x_1)] w' λe w''=>e= .returned (Value.bool r)∧Ext w' w''∧AllCl [] D' w''
theorem fnP_k1.sp {v:Value} {m:(Int→Option Bool)} {D D':NP} {w w':World} (hs:Sp D w D' w') (h:fnP_k1 v m D w):fnP_k1 v m D' w':=⟨h.1,λD'' w'' hs'=>h.2 D'' w'' (hs.trans hs')⟩
def uy (v:Value) (m:(Int→Option Bool)):Cl:=⟨fnP_k1 v m,fnP_k1.sp⟩
structure bv where
 Name:List UInt8
 By:Int
deriving Inhabited,DecidableEq
def ai:Cod bv where
 n:=2
 rel _ _ x cs:=cs=[(str x.Name),(Value.int .i64 x.By)]
 len h:=by subst h;rfl
 one h:=by subst h;rfl
 sp _ h:=h
structure aC where
 K:Int
 L:List bv
deriving Inhabited,DecidableEq
def dU:Cod aC where
 n:=2
 rel D w x cs:=∃ (A0:Option Addr) (c0:Nat),cs=[(Value.int .i64 x.K),(Value.slice A0 x.L.length c0)]∧SlC ai D w A0 c0 x.L
 len h:=by obtain⟨_,_,rfl,_⟩:=h;rfl
 one h:=by obtain⟨A0,c0,rfl,h0⟩:=h;rfl
 sp hs h:=by obtain⟨A0,c0,rfl,h0⟩:=h;exact⟨_,_,rfl,h0.sp hs⟩
def fnS_k2 {σ:Type} (I:StI σ) (v:Value) (m:((List UInt8)→Int→Int→σ→Option (Unit×σ))) (D:NP) (w:World):Prop:=
 JX v=true∧∀ (C0 F:NP) (w':World),Sp D w (Dj F C0) w'→∀ (x_1:List UInt8) (x_2:Int) (x_3:Int) (s:σ) (r:Unit×σ),Bun C0 F w' C0 w' [MO.st I s] []→m x_1 x_2 x_3 s=some r→
  CallV Tryz.prog v [(str x_1),(Value.int .i64 x_2),(Value.int .i64 x_3)] w' λe w''=>∃ (C:NP),e= .returned (Value.tuple #[])∧Bun C0 F w' C w'' [MO.st I r.2] []
theorem fnS_k2.sp {σ:Type} {I:StI σ} {v:Value} {m:((List UInt8)→Int→Int→σ→Option (Unit×σ))} {D D':NP} {w w':World} (hs:Sp D w D' w') (h:fnS_k2 I v m D w):fnS_k2 I v m D' w':=⟨h.1,λC0 F w'' hs'=>h.2 C0 F w'' (hs.trans hs')⟩
def zp {σ:Type} (I:StI σ) (v:Value) (m:((List UInt8)→Int→Int→σ→Option (Unit×σ))):Cl:=⟨fnS_k2 I v m,fnS_k2.sp⟩
structure bu where
 Kind:Int
 Bits:Int
 Frac:Int
 Round:Int
 Over:Int
deriving Inhabited,DecidableEq
def Dl:Cod bu where
 n:=5
 rel _ _ x cs:=cs=[(Value.int .i64 x.Kind),(Value.int .i64 x.Bits),(Value.int .i64 x.Frac),(Value.int .i64 x.Round),(Value.int .i64 x.Over)]
 len h:=by subst h;rfl
 one h:=by subst h;rfl
 sp _ h:=h
structure co where
 N:Int
 D:Int
deriving Inhabited,DecidableEq
def M3:Cod co where
 n:=2
 rel _ _ x cs:=cs=[(Value.int .i64 x.N),(Value.int .i64 x.D)]
 len h:=by subst h;rfl
 one h:=by subst h;rfl
 sp _ h:=h
structure aM where
 Lin:aC
 From:List UInt8
 At:List aC
deriving Inhabited,DecidableEq
def al:Cod aM where
 n:=4
 rel D w x cs:=∃ (A0:Option Addr) (c0:Nat) (A2:Option Addr) (c2:Nat),cs=[(Value.int .i64 x.Lin.K),(Value.slice A0 x.Lin.L.length c0),(str x.From),(Value.slice A2 x.At.length c2)]∧SlC ai D w A0 c0 x.Lin.L∧SlC dU D w A2 c2 x.At
 len h:=by obtain⟨_,_,_,_,rfl,_,_⟩:=h;rfl
 one h:=by obtain⟨A0,c0,A2,c2,rfl,h0,h1⟩:=h;rfl
 sp hs h:=by obtain⟨A0,c0,A2,c2,rfl,h0,h1⟩:=h;exact⟨_,_,_,_,rfl,h0.sp hs,h1.sp hs⟩
structure ae where
 Op:Int
 Name:List UInt8
 Val:co
 Type_:bu
 Lin:aC
 Idx:List aM
 Args:List ae
instance:Inhabited ae:=⟨⟨0,[],default,default,default,[],[]⟩⟩
def uA (c:Cod ae):Cod ae where
 n:=13
 rel D w x cs:=∃ (A0:Option Addr) (c0:Nat) (A2:Option Addr) (c2:Nat) (A4:Option Addr) (c4:Nat),cs=[(Value.int .i64 x.Op),(str x.Name),(Value.int .i64 x.Val.N),(Value.int .i64 x.Val.D),(Value.int .i64 x.Type_.Kind),(Value.int .i64 x.Type_.Bits),(Value.int .i64 x.Type_.Frac),(Value.int .i64 x.Type_.Round),(Value.int .i64 x.Type_.Over),(Value.int .i64 x.Lin.K),(Value.slice A0 x.Lin.L.length c0),(Value.slice A2 x.Idx.length c2),(Value.slice A4 x.Args.length c4)]∧SlC ai D w A0 c0 x.Lin.L∧SlC al D w A2 c2 x.Idx∧SlC c D w A4 c4 x.Args
 len h:=by obtain⟨_,_,_,_,_,_,rfl,_,_,_⟩:=h;rfl
 one h:=by obtain⟨A0,c0,A2,c2,A4,c4,rfl,h0,h1,h2⟩:=h;rfl
 sp hs h:=by obtain⟨A0,c0,A2,c2,A4,c4,rfl,h0,h1,h2⟩:=h;exact⟨_,_,_,_,_,_,rfl,h0.sp hs,h1.sp hs,h2.sp hs⟩
theorem wC {c c':Cod ae} (hm:∀ D w x cs,c.rel D w x cs→c'.rel D w x cs):∀ D w x cs,(uA c).rel D w x cs→(uA c').rel D w x cs:=λD w x cs h=>by
 obtain⟨A0,c0,A2,c2,A4,c4,rfl,h0,h1,h2⟩:=h;exact⟨_,_,_,_,_,_,rfl,h0,h1,h2.mono hm⟩
def an:Cod ae:=Cod.fix uA 13 (λ_=>rfl)
theorem ci {D:NP} {w:World} {x:ae} {cs:List Value} (h:an.rel D w x cs):(uA an).rel D w x cs:=by
 obtain⟨k,hk⟩:=h
 cases k with
 | zero=>exact False.elim hk
 | succ k=>exact wC (c:=Iq uA 13 k) (c':=an) (λ_ _ _ _ h=>⟨k,h⟩) _ _ _ _ hk
theorem kE {D:NP} {w:World} {x:ae} {cs:List Value} (h:(uA an).rel D w x cs):an.rel D w x cs:=by
 obtain⟨A0,c0,A2,c2,A4,c4,rfl,h0,h1,h2⟩:=h
 obtain⟨k,hk⟩:=h2.fix_out wC
 exact⟨k+1,_,_,_,_,_,_,rfl,h0,h1,hk⟩
def fnS_k5 {σ:Type} (I:StI σ) (v:Value) (m:(ae→σ→Option (Bool×σ))) (D:NP) (w:World):Prop:=
 JX v=true∧∀ (C0 F:NP) (w':World),Sp D w (Dj F C0) w'→∀ (x_1:ae) (A_2:Option Addr) (c_3:Nat) (A_4:Option Addr) (c_5:Nat) (A_6:Option Addr) (c_7:Nat) (s:σ) (r:Bool×σ),Bun C0 F w' C0 w' [MO.st I s] [Cl.sl ai A_2 c_3 x_1.Lin.L,Cl.sl al A_4 c_5 x_1.Idx,Cl.sl an A_6 c_7 x_1.Args]→m x_1 s=some r→
  CallV Tryz.prog v [(Value.agg #[(Value.int .i64 x_1.Op),(str x_1.Name),(Value.int .i64 x_1.Val.N),(Value.int .i64 x_1.Val.D),(Value.int .i64 x_1.Type_.Kind),(Value.int .i64 x_1.Type_.Bits),(Value.int .i64 x_1.Type_.Frac),(Value.int .i64 x_1.Type_.Round),(Value.int .i64 x_1.Type_.Over),(Value.int .i64 x_1.Lin.K),(Value.slice A_2 x_1.Lin.L.length c_3),(Value.slice A_4 x_1.Idx.length c_5),(Value.slice A_6 x_1.Args.length c_7)])] w' λe w''=>∃ (C:NP),e= .returned (Value.bool r.1)∧Bun C0 F w' C w'' [MO.st I r.2] []
theorem fnS_k5.sp {σ:Type} {I:StI σ} {v:Value} {m:(ae→σ→Option (Bool×σ))} {D D':NP} {w w':World} (hs:Sp D w D' w') (h:fnS_k5 I v m D w):fnS_k5 I v m D' w':=⟨h.1,λC0 F w'' hs'=>h.2 C0 F w'' (hs.trans hs')⟩
def rF {σ:Type} (I:StI σ) (v:Value) (m:(ae→σ→Option (Bool×σ))):Cl:=⟨fnS_k5 I v m,fnS_k5.sp⟩
def fnP_k6 (v:Value) (m:(aM→Option Bool)) (D:NP) (w:World):Prop:=
 JX v=true∧∀ (D':NP) (w':World),Sp D w D' w'→(∀ k,D' k→k<w'.heap.size)→∀ (x_1:aM) (A_2:Option Addr) (c_3:Nat) (A_4:Option Addr) (c_5:Nat) (r:Bool),AllCl [Cl.sl ai A_2 c_3 x_1.Lin.L,Cl.sl dU A_4 c_5 x_1.At] D' w'→m x_1=some r→
  CallV Tryz.prog v [(Value.agg #[(Value.int .i64 x_1.Lin.K),(Value.slice A_2 x_1.Lin.L.length c_3),(str x_1.From),(Value.slice A_4 x_1.At.length c_5)])] w' λe w''=>e= .returned (Value.bool r)∧Ext w' w''∧AllCl [] D' w''
theorem fnP_k6.sp {v:Value} {m:(aM→Option Bool)} {D D':NP} {w w':World} (hs:Sp D w D' w') (h:fnP_k6 v m D w):fnP_k6 v m D' w':=⟨h.1,λD'' w'' hs'=>h.2 D'' w'' (hs.trans hs')⟩
def ux (v:Value) (m:(aM→Option Bool)):Cl:=⟨fnP_k6 v m,fnP_k6.sp⟩
def fnS_k7 {σ:Type} (I:StI σ) (v:Value) (m:(aC→σ→Option (Bool×σ))) (D:NP) (w:World):Prop:=
 JX v=true∧∀ (C0 F:NP) (w':World),Sp D w (Dj F C0) w'→∀ (x_1:aC) (A_2:Option Addr) (c_3:Nat) (s:σ) (r:Bool×σ),Bun C0 F w' C0 w' [MO.st I s] [Cl.sl ai A_2 c_3 x_1.L]→m x_1 s=some r→
  CallV Tryz.prog v [(Value.agg #[(Value.int .i64 x_1.K),(Value.slice A_2 x_1.L.length c_3)])] w' λe w''=>∃ (C:NP),e= .returned (Value.bool r.1)∧Bun C0 F w' C w'' [MO.st I r.2] []
theorem fnS_k7.sp {σ:Type} {I:StI σ} {v:Value} {m:(aC→σ→Option (Bool×σ))} {D D':NP} {w w':World} (hs:Sp D w D' w') (h:fnS_k7 I v m D w):fnS_k7 I v m D' w':=⟨h.1,λC0 F w'' hs'=>h.2 C0 F w'' (hs.trans hs')⟩
def pk {σ:Type} (I:StI σ) (v:Value) (m:(aC→σ→Option (Bool×σ))):Cl:=⟨fnS_k7 I v m,fnS_k7.sp⟩
structure uG where
 L:List bp
 At:Int
 Deep:Int
 E:Int
 Pos:Int
deriving Inhabited,DecidableEq
structure aD where
 Lin:aC
 Eq:Bool
deriving Inhabited,DecidableEq
def az:Cod aD where
 n:=3
 rel D w x cs:=∃ (A0:Option Addr) (c0:Nat),cs=[(Value.int .i64 x.Lin.K),(Value.slice A0 x.Lin.L.length c0),(Value.bool x.Eq)]∧SlC ai D w A0 c0 x.Lin.L
 len h:=by obtain⟨_,_,rfl,_⟩:=h;rfl
 one h:=by obtain⟨A0,c0,rfl,h0⟩:=h;rfl
 sp hs h:=by obtain⟨A0,c0,rfl,h0⟩:=h;exact⟨_,_,rfl,h0.sp hs⟩
structure fE where
 Name:List UInt8
 Type_:bu
 Dims:List aC
deriving Inhabited,DecidableEq
def bH:Cod fE where
 n:=7
 rel D w x cs:=∃ (A0:Option Addr) (c0:Nat),cs=[(str x.Name),(Value.int .i64 x.Type_.Kind),(Value.int .i64 x.Type_.Bits),(Value.int .i64 x.Type_.Frac),(Value.int .i64 x.Type_.Round),(Value.int .i64 x.Type_.Over),(Value.slice A0 x.Dims.length c0)]∧SlC dU D w A0 c0 x.Dims
 len h:=by obtain⟨_,_,rfl,_⟩:=h;rfl
 one h:=by obtain⟨A0,c0,rfl,h0⟩:=h;rfl
 sp hs h:=by obtain⟨A0,c0,rfl,h0⟩:=h;exact⟨_,_,rfl,h0.sp hs⟩
structure fG where
 Name:List UInt8
 Size:aC
deriving Inhabited,DecidableEq
def cb:Cod fG where
 n:=3
 rel D w x cs:=∃ (A0:Option Addr) (c0:Nat),cs=[(str x.Name),(Value.int .i64 x.Size.K),(Value.slice A0 x.Size.L.length c0)]∧SlC ai D w A0 c0 x.Size.L
 len h:=by obtain⟨_,_,rfl,_⟩:=h;rfl
 one h:=by obtain⟨A0,c0,rfl,h0⟩:=h;rfl
 sp hs h:=by obtain⟨A0,c0,rfl,h0⟩:=h;exact⟨_,_,rfl,h0.sp hs⟩
structure cU where
 Name:List UInt8
 Type_:bu
 Dims:List fG
 Red:List fG
 Fold:Int
 Body:ae
deriving Inhabited
def fb:Cod cU where
 n:=22
 rel D w x cs:=∃ (A0:Option Addr) (c0:Nat) (A2:Option Addr) (c2:Nat) (A4:Option Addr) (c4:Nat) (A6:Option Addr) (c6:Nat) (A8:Option Addr) (c8:Nat),cs=[(str x.Name),(Value.int .i64 x.Type_.Kind),(Value.int .i64 x.Type_.Bits),(Value.int .i64 x.Type_.Frac),(Value.int .i64 x.Type_.Round),(Value.int .i64 x.Type_.Over),(Value.slice A0 x.Dims.length c0),(Value.slice A2 x.Red.length c2),(Value.int .i64 x.Fold),(Value.int .i64 x.Body.Op),(str x.Body.Name),(Value.int .i64 x.Body.Val.N),(Value.int .i64 x.Body.Val.D),(Value.int .i64 x.Body.Type_.Kind),(Value.int .i64 x.Body.Type_.Bits),(Value.int .i64 x.Body.Type_.Frac),(Value.int .i64 x.Body.Type_.Round),(Value.int .i64 x.Body.Type_.Over),(Value.int .i64 x.Body.Lin.K),(Value.slice A4 x.Body.Lin.L.length c4),(Value.slice A6 x.Body.Idx.length c6),(Value.slice A8 x.Body.Args.length c8)]∧SlC cb D w A0 c0 x.Dims∧SlC cb D w A2 c2 x.Red∧SlC ai D w A4 c4 x.Body.Lin.L∧SlC al D w A6 c6 x.Body.Idx∧SlC an D w A8 c8 x.Body.Args
 len h:=by obtain⟨_,_,_,_,_,_,_,_,_,_,rfl,_,_,_,_,_⟩:=h;rfl
 one h:=by obtain⟨A0,c0,A2,c2,A4,c4,A6,c6,A8,c8,rfl,h0,h1,h2,h3,h4⟩:=h;rfl
 sp hs h:=by obtain⟨A0,c0,A2,c2,A4,c4,A6,c6,A8,c8,rfl,h0,h1,h2,h3,h4⟩:=h;exact⟨_,_,_,_,_,_,_,_,_,_,rfl,h0.sp hs,h1.sp hs,h2.sp hs,h3.sp hs,h4.sp hs⟩
structure aV where
 Sizes:List (List UInt8)
 Where:List aD
 Params:List fE
 Defs:List cU
 Outs:List (List UInt8)
deriving Inhabited
def Pg:Cod aV where
 n:=5
 rel D w x cs:=∃ (A0:Option Addr) (c0:Nat) (A2:Option Addr) (c2:Nat) (A4:Option Addr) (c4:Nat) (A6:Option Addr) (c6:Nat) (A8:Option Addr) (c8:Nat),cs=[(Value.slice A0 x.Sizes.length c0),(Value.slice A2 x.Where.length c2),(Value.slice A4 x.Params.length c4),(Value.slice A6 x.Defs.length c6),(Value.slice A8 x.Outs.length c8)]∧SlC be D w A0 c0 x.Sizes∧SlC az D w A2 c2 x.Where∧SlC bH D w A4 c4 x.Params∧SlC fb D w A6 c6 x.Defs∧SlC be D w A8 c8 x.Outs
 len h:=by obtain⟨_,_,_,_,_,_,_,_,_,_,rfl,_,_,_,_,_⟩:=h;rfl
 one h:=by obtain⟨A0,c0,A2,c2,A4,c4,A6,c6,A8,c8,rfl,h0,h1,h2,h3,h4⟩:=h;rfl
 sp hs h:=by obtain⟨A0,c0,A2,c2,A4,c4,A6,c6,A8,c8,rfl,h0,h1,h2,h3,h4⟩:=h;exact⟨_,_,_,_,_,_,_,_,_,_,rfl,h0.sp hs,h1.sp hs,h2.sp hs,h3.sp hs,h4.sp hs⟩
def yT (l1:List bp):Nat→Int→Option Bool
 | 0,_=>none
 | fuel1+1,i1=>
  if decide (i1<(l1.length:Int))then
   (lat l1 i1).bind λe1=>
   if decide (100<(e1.Text.length:Int))then
    some false
   else
    (yT l1 fuel1) (av (i1+1))
  else
   some true
def ra (c1:Int):Option Bool:=
 some ((((decide (c1=9))||(decide (c1=10)))||(decide (c1=13)))||(decide (c1=32)))
def lc (s1:List UInt8) (self1:Int→Option Int):Nat→Int→Option Int
 | 0,_=>none
 | fuel2+1,at3=>
  (gd (decide (at3<(s1.length:Int))) (sat s1 at3)).bind λb3=>
  if(decide (at3<(s1.length:Int)))&&(!decide (b3=10))then
   (lc s1 self1 fuel2) (av (at3+1))
  else
   self1 at3
def iD (s1:List UInt8):Nat→Int→Option Int
 | 0,_=>none
 | fuel1+1,at2=>
  if decide (at2<(s1.length:Int))then
   (sat s1 at2).bind λb1=>
   (ra b1).bind λr1=>
   if r1 then
    (iD s1 fuel1) (av (at2+1))
   else
    (sat s1 at2).bind λb2=>
    if decide (b2=35)then
     lc s1 (iD s1 fuel1) fu at2
    else
     some at2
  else
   some at2
def pJ (s1:List UInt8) (at1:Int):Option Int:=
 iD s1 fu at1
def lY (c1:Int):Option Bool:=
 some ((decide (97≤c1))&&(decide (c1≤122)))
def oT (c1:Int):Option Bool:=
 some ((decide (48≤c1))&&(decide (c1≤57)))
def lW (s1:List UInt8) (kind1:Int):Nat→Int→Option (Int×Int)
 | 0,_=>none
 | fuel1+1,n1=>
  (gd (decide (n1<(s1.length:Int))) (sat s1 n1)).bind λb3=>
  (gd (decide (n1<(s1.length:Int))) (oT b3)).bind λr3=>
  (gd (((decide (n1<(s1.length:Int)))&& !r3)&&(decide (kind1=1))) (sat s1 n1)).bind λb4=>
  (gd (((decide (n1<(s1.length:Int)))&& !r3)&&(decide (kind1=1))) (lY b4)).bind λr4=>
  (gd ((((decide (n1<(s1.length:Int)))&& !r3)&&(decide (kind1=1)))&& !r4) (sat s1 n1)).bind λb5=>
  if(decide (n1<(s1.length:Int)))&&(r3||((decide (kind1=1))&&(r4||(decide (b5=95)))))then
   (lW s1 kind1 fuel1) (av (n1+1))
  else
   some (n1,kind1)
def nX (s1:List UInt8) (kind1:Int):Option (Int×Int):=
 lW s1 kind1 fu 0
def tD (s1:List UInt8):Option (Int×Int):=
 (gd (!(decide (s1=([]:List UInt8)))) (sat s1 0)).bind λb1=>
 (gd (!(decide (s1=([]:List UInt8)))) (lY b1)).bind λr1=>
 (gd ((!(decide (s1=([]:List UInt8))))&&(!r1)) (sat s1 0)).bind λb2=>
 (gd ((!(decide (s1=([]:List UInt8))))&&(!r1)) (oT b2)).bind λr2=>
 if(decide (s1=([]:List UInt8)))||((!r1)&&(!r2))then
  some (0,0)
 else
  (sat s1 0).bind λb6=>
  (lY b6).bind λr5=>
  if r5 then
   nX s1 1
  else
   nX s1 2
def px:Option (List (List UInt8)):=
 some ([[60,61],[61,61],[40],[41],[91],[93],[123],[125],[44],[59],[58],[43],[45],[42],[47],[60],[61],[38],[124],[33],[46],[64]]:List (List UInt8))
def jD (r1:List (List UInt8)) (s1:List UInt8):Nat→Int→Option Int
 | 0,_=>none
 | fuel1+1,i1=>
  if decide (i1<(r1.length:Int))then
   (lat r1 i1).bind λe1=>
   (gd (decide ((e1.length:Int)≤(s1.length:Int))) (lat r1 i1)).bind λe2=>
   (gd (decide ((e1.length:Int)≤(s1.length:Int))) (tF s1 (e2.length:Int))).bind λs2=>
   (gd (decide ((e1.length:Int)≤(s1.length:Int))) (lat r1 i1)).bind λe3=>
   if(decide ((e1.length:Int)≤(s1.length:Int)))&&(decide (s2=e3))then
    (lat r1 i1).bind λe4=>
    some (e4.length:Int)
   else
    (jD r1 s1 fuel1) (av (i1+1))
  else
   some 0
def qi (s1:List UInt8):Option Int:=
 (px).bind λr1=>
 jD r1 s1 fu 0
def j5 (at1:Int) (s1:List UInt8) (lv:List bp) (self1:(List bp)→Int→Option (List bp×Int×Int)) (n1:Int) (kind1:Int):Option (List bp×Int×Int):=
 if decide (n1=0)then
  some (([]:List bp),at1,5)
 else
  if(decide (kind1=1))&&(decide (16<n1))then
   some (([]:List bp),at1,2)
  else
   (vh s1 at1 (av (at1+n1))).bind λs3=>
   (bt lv ([⟨kind1,at1,s3⟩]:List bp)).bind λzs1=>
   (pJ s1 (av (at1+n1))).bind λr3=>
   self1 zs1 r3
def fD (s1:List UInt8):Nat→(List bp)→Int→Option (List bp×Int×Int)
 | 0,_,_=>none
 | fuel1+1,lv,at1=>
  if decide (at1<(s1.length:Int))then
   (iJ s1 at1).bind λs2=>
   (tD s2).bind λr2=>
   if decide (r2.1=0)then
    (iJ s1 at1).bind λs4=>
    (qi s4).bind λr4=>
    j5 at1 s1 lv (fD s1 fuel1) r4 3
   else
    j5 at1 s1 lv (fD s1 fuel1) r2.1 r2.2
  else
   some (lv,0,0)
def oF (s1:List UInt8):Option (List bp×Int×Int):=
 if decide (65536<(s1.length:Int))then
  some (([]:List bp),0,2)
 else
  (pJ s1 0).bind λr1=>
  fD s1 fu ([]:List bp) r1
def aY (r1:aa) (kind1:Int) (s1:List UInt8):Option Bool:=
 (gd (decide (r1.at_<(r1.l.length:Int))) (lat r1.l r1.at_)).bind λe1=>
 (gd ((decide (r1.at_<(r1.l.length:Int)))&&(decide (e1.Kind=kind1))) (lat r1.l r1.at_)).bind λe2=>
 some (((decide (r1.at_<(r1.l.length:Int)))&&(decide (e1.Kind=kind1)))&&(decide (e2.Text=s1)))
def fO (r1:Int):Option Bool:=
 some ((decide (97≤r1))&&(decide (r1≤122)))
def cR (s1:List UInt8) (ok1:(Int→Option Bool)):Nat→Int→Option Int
 | 0,_=>none
 | fuel1+1,n1=>
  (gd (decide (n1<(s1.length:Int))) (sat s1 n1)).bind λb1=>
  (gd (decide (n1<(s1.length:Int))) (ok1 (qZ b1))).bind λr1=>
  if(decide (n1<(s1.length:Int)))&&r1 then
   (cR s1 ok1 fuel1) (av (n1+1))
  else
   some n1
def hU (s1:List UInt8) (ok1:(Int→Option Bool)):Option Int:=
 cR s1 ok1 fu 0
def fP (r1:Int):Option Bool:=
 some ((decide (48≤r1))&&(decide (r1≤57)))
def ej (r1:Int):Option Bool:=
 (fO r1).bind λr2=>
 (gd (!r2) (fP r1)).bind λr3=>
 some ((r2||r3)||(decide (r1=95)))
def mr:Option (List (List UInt8)):=
 (oE [115,105,122,101,32,119,104,101,114,101,32,105,110,32,100,101,102,32,111,117,116,32,115,117,109,32,112,114,111,100,32,109,105,110,32,109,97,120,32,115,99,97,110,32,111,118,101,114,32,105,102,32,99,97,115,116,32,102,114,97,99,32,105,110,116,32,102,105,120,32,99,101,105,108,32,102,108,111,111,114,32,122,101,114,111,32,101,118,101,110,32,115,97,116,32,119,114,97,112]).bind λr1=>
 some r1
def bm (s1:List (List UInt8)) (v1:List UInt8):Nat→Int→Option Int
 | 0,_=>none
 | fuel1+1,i1=>
  if decide (i1<(s1.length:Int))then
   (lat s1 i1).bind λe1=>
   if decide (v1=e1)then
    some i1
   else
    (bm s1 v1 fuel1) (av (i1+1))
  else
   some (-1)
def fX (s1:List (List UInt8)) (v1:List UInt8):Option Int:=
 bm s1 v1 fu 0
def du (s1:List (List UInt8)) (v1:List UInt8):Option Bool:=
 (fX s1 v1).bind λr1=>
 some (decide (0≤r1))
def jF (s1:List UInt8):Option Bool:=
 (mr).bind λr1=>
 (du r1 s1).bind λr2=>
 some r2
def gA (s1:List UInt8):Option Bool:=
 (gd ((!decide (s1=([]:List UInt8)))&&(decide ((s1.length:Int)≤16))) (sat s1 0)).bind λb1=>
 (gd ((!decide (s1=([]:List UInt8)))&&(decide ((s1.length:Int)≤16))) (fO (qZ b1))).bind λr1=>
 (gd (((!decide (s1=([]:List UInt8)))&&(decide ((s1.length:Int)≤16)))&&r1) (hU s1 ej)).bind λr2=>
 (gd ((((!decide (s1=([]:List UInt8)))&&(decide ((s1.length:Int)≤16)))&&r1)&&(decide (r2=(s1.length:Int)))) (jF s1)).bind λr3=>
 some (((((!decide (s1=([]:List UInt8)))&&(decide ((s1.length:Int)≤16)))&&r1)&&(decide (r2=(s1.length:Int))))&&(!r3))
def cX (r1:aa):Option Bool:=
 (gd (decide (r1.at_<(r1.l.length:Int))) (lat r1.l r1.at_)).bind λe1=>
 (gd ((decide (r1.at_<(r1.l.length:Int)))&&(decide (e1.Kind=1))) (lat r1.l r1.at_)).bind λe2=>
 (gd ((decide (r1.at_<(r1.l.length:Int)))&&(decide (e1.Kind=1))) (gA e2.Text)).bind λr2=>
 some (((decide (r1.at_<(r1.l.length:Int)))&&(decide (e1.Kind=1)))&&r2)
def bL (r1:aa) (at1:Int) (e1:Int):Option (bZ Unit):=
 some (.pan at1 e1)
def l8 (s1:List UInt8):Option Bool:=
 if decide (s1=([115,105,122,101]:List UInt8))then
  if decide (s1=([115,105,122,101]:List UInt8))then
   some true
  else
   some false
 else
  if decide (s1=([119,104,101,114,101]:List UInt8))then
   if decide (s1=([119,104,101,114,101]:List UInt8))then
    some true
   else
    some false
  else
   if decide (s1=([105,110]:List UInt8))then
    if decide (s1=([105,110]:List UInt8))then
     some true
    else
     some false
   else
    if decide (s1=([100,101,102]:List UInt8))then
     if decide (s1=([100,101,102]:List UInt8))then
      some true
     else
      some false
    else
     if decide (s1=([111,117,116]:List UInt8))then
      if decide (s1=([111,117,116]:List UInt8))then
       some true
      else
       some false
     else
      if decide (s1=([115,117,109]:List UInt8))then
       if decide (s1=([115,117,109]:List UInt8))then
        some true
       else
        some false
      else
       if decide (s1=([112,114,111,100]:List UInt8))then
        if decide (s1=([112,114,111,100]:List UInt8))then
         some true
        else
         some false
       else
        if decide (s1=([109,105,110]:List UInt8))then
         if decide (s1=([109,105,110]:List UInt8))then
          some true
         else
          some false
        else
         if decide (s1=([109,97,120]:List UInt8))then
          if decide (s1=([109,97,120]:List UInt8))then
           some true
          else
           some false
         else
          if decide (s1=([115,99,97,110]:List UInt8))then
           if decide (s1=([115,99,97,110]:List UInt8))then
            some true
           else
            some false
          else
           if decide (s1=([111,118,101,114]:List UInt8))then
            if decide (s1=([111,118,101,114]:List UInt8))then
             some true
            else
             some false
           else
            if decide (s1=([105,102]:List UInt8))then
             if decide (s1=([105,102]:List UInt8))then
              some true
             else
              some false
            else
             if decide (s1=([99,97,115,116]:List UInt8))then
              if decide (s1=([99,97,115,116]:List UInt8))then
               some true
              else
               some false
             else
              if decide (s1=([102,114,97,99]:List UInt8))then
               if decide (s1=([102,114,97,99]:List UInt8))then
                some true
               else
                some false
              else
               if decide (s1=([105,110,116]:List UInt8))then
                if decide (s1=([105,110,116]:List UInt8))then
                 some true
                else
                 some false
               else
                if decide (s1=([102,105,120]:List UInt8))then
                 if decide (s1=([102,105,120]:List UInt8))then
                  some true
                 else
                  some false
                else
                 if decide (s1=([99,101,105,108]:List UInt8))then
                  if decide (s1=([99,101,105,108]:List UInt8))then
                   some true
                  else
                   some false
                 else
                  if decide (s1=([102,108,111,111,114]:List UInt8))then
                   if decide (s1=([102,108,111,111,114]:List UInt8))then
                    some true
                   else
                    some false
                  else
                   if decide (s1=([122,101,114,111]:List UInt8))then
                    if decide (s1=([122,101,114,111]:List UInt8))then
                     some true
                    else
                     some false
                   else
                    if decide (s1=([101,118,101,110]:List UInt8))then
                     if decide (s1=([101,118,101,110]:List UInt8))then
                      some true
                     else
                      some false
                    else
                     if decide (s1=([115,97,116]:List UInt8))then
                      if decide (s1=([115,97,116]:List UInt8))then
                       some true
                      else
                       some false
                     else
                      if decide (s1=([119,114,97,112]:List UInt8))then
                       some true
                      else
                       some false
def dA (s1:List UInt8):Nat→Int→Option Bool
 | 0,_=>none
 | fuel1+1,i1=>
  if decide (i1<(s1.length:Int))then
   (sat s1 i1).bind λb3=>
   if(((decide (b3<97))||(decide (122<b3)))&&((decide (b3<48))||(decide (57<b3))))&&(!decide (b3=95))then
    some false
   else
    (dA s1 fuel1) (av (i1+1))
  else
   some true
def i7 (s1:List UInt8):Option Bool:=
 (gd (!((decide ((s1.length:Int)<1))||(decide (16<(s1.length:Int))))) (l8 s1)).bind λr1=>
 (gd (!(((decide ((s1.length:Int)<1))||(decide (16<(s1.length:Int))))||r1)) (sat s1 0)).bind λb1=>
 (gd (!((((decide ((s1.length:Int)<1))||(decide (16<(s1.length:Int))))||r1)||(decide (b1<97)))) (sat s1 0)).bind λb2=>
 if((((decide ((s1.length:Int)<1))||(decide (16<(s1.length:Int))))||r1)||(decide (b1<97)))||(decide (122<b2))then
  some false
 else
  dA s1 fu 0
def pU (name1:List UInt8):Option aC:=
 (i7 name1).bind λr1=>
 if !r1 then
  some (⟨0,[]⟩:aC)
 else
  some (⟨0,[⟨name1,1⟩]⟩:aC)
def dQ (l1:aC):Nat→Int→Option Int
 | 0,_=>none
 | fuel1+1,i1=>
  if decide (i1<(l1.L.length:Int))then
   (lat l1.L i1).bind λe1=>
   (i7 e1.Name).bind λr1=>
   (gd ((!((!r1)||(decide (e1.By=0))))&&(decide (0<i1))) (lat l1.L (av (i1 - 1)))).bind λe2=>
   if((!r1)||(decide (e1.By=0)))||((decide (0<i1))&&(!Op.bytesLess e2.Name e1.Name))then
    some 1
   else
    (dQ l1 fuel1) (av (i1+1))
  else
   some 0
def ij (l1:aC):Option Int:=
 dQ l1 fu 0
def jt (n1:Int):Option Int:=
 if decide (n1<0)then
  some (fi (-(fi n1)))
 else
  some (fi n1)
def mZ (a1:Int) (b1:Int):Option (Int×Int):=
 (some (fi ((bits .and .u64 a1 4294967295) * (bits .and .u64 b1 4294967295)))).bind λlow1=>
 (some (fi ((fi ((Int.fdiv a1 (2 ^ 32)) * (bits .and .u64 b1 4294967295)))+(Int.fdiv low1 (2 ^ 32))))).bind λmid1=>
 (some (fi ((fi ((bits .and .u64 a1 4294967295) * (Int.fdiv b1 (2 ^ 32))))+(bits .and .u64 mid1 4294967295)))).bind λcross1=>
 (some (fi ((fi ((fi ((Int.fdiv a1 (2 ^ 32)) * (Int.fdiv b1 (2 ^ 32))))+(Int.fdiv mid1 (2 ^ 32))))+(Int.fdiv cross1 (2 ^ 32))))).bind λhi1=>
 some (hi1,fi (a1 * b1))
def nD (a1:Int) (b1:Int):Option (Int×Bool):=
 (jt a1).bind λr1=>
 (jt b1).bind λr2=>
 (mZ r1 r2).bind λr3=>
 (some ((decide (a1<0)) != (decide (b1<0)))).bind λnegative1=>
 if((!decide (r3.1=0))||(decide (9223372036854775808<r3.2)))||((decide (r3.2=9223372036854775808))&&(!negative1))then
  some (0,false)
 else
  if negative1 then
   some (av (fi (-r3.2)),true)
  else
   some (av r3.2,true)
def oa (fits1:Bool) (lv:aC):Option (aC×Int):=
 if !fits1 then
  some ((⟨0,[]⟩:aC),3)
 else
  some (lv,0)
def gz (a1:aC) (by1:Int):Nat→Bool→Int→aC→Option (aC×Int)
 | 0,_,_,_=>none
 | fuel1+1,fits2,i1,out2=>
  if decide (i1<(a1.L.length:Int))then
   (lat a1.L i1).bind λe1=>
   (nD e1.By by1).bind λr3=>
   (bt out2.L ([⟨e1.Name,r3.1⟩]:List bv)).bind λzs1=>
   (gz a1 by1 fuel1) (fits2&&r3.2) (av (i1+1)) (⟨out2.K,zs1⟩:aC)
  else
   oa fits2 out2
def kF (a1:aC) (by1:Int):Option (aC×Int):=
 (ij a1).bind λr1=>
 if !decide (r1=0)then
  some ((⟨0,[]⟩:aC),1)
 else
  if decide (by1=0)then
   some ((⟨0,[]⟩:aC),0)
  else
   (nD a1.K by1).bind λr2=>
   gz a1 by1 fu r2.2 0 (⟨r2.1,[]⟩:aC)
def iI (s1:List UInt8):Option Bool:=
 (gd ((!(decide (s1=([48]:List UInt8))))&&(!decide (s1=([]:List UInt8)))) (sat s1 0)).bind λb1=>
 some ((decide (s1=([48]:List UInt8)))||((!decide (s1=([]:List UInt8)))&&(!decide (b1=48))))
def eu (s1:List UInt8):Nat→Int→Option Bool
 | 0,_=>none
 | fuel1+1,i1=>
  if decide (i1<(s1.length:Int))then
   (sat s1 i1).bind λb2=>
   (gd (!(decide (b2<48))) (sat s1 i1)).bind λb3=>
   if(decide (b2<48))||(decide (57<b3))then
    some false
   else
    (eu s1 fuel1) (av (i1+1))
  else
   iI s1
def mp (s1:List UInt8):Option Bool:=
 eu s1 fu 0
def fM (r1:aa):Option Bool:=
 (gd (decide (r1.at_<(r1.l.length:Int))) (lat r1.l r1.at_)).bind λe1=>
 (gd ((decide (r1.at_<(r1.l.length:Int)))&&(decide (e1.Kind=2))) (lat r1.l r1.at_)).bind λe2=>
 (gd ((decide (r1.at_<(r1.l.length:Int)))&&(decide (e1.Kind=2))) (mp e2.Text)).bind λr2=>
 some (((decide (r1.at_<(r1.l.length:Int)))&&(decide (e1.Kind=2)))&&r2)
def jb (negative1:Bool) (n1:Int):Option (Int×Bool):=
 if negative1 then
  some (av (-(av n1)),true)
 else
  some (av n1,true)
def dY (s1:List UInt8) (limit1:Int) (negative1:Bool):Nat→Int→Int→Option (Int×Bool)
 | 0,_,_=>none
 | fuel1+1,n2,i1=>
  if decide (i1<(s1.length:Int))then
   (sat s1 i1).bind λb1=>
   if decide (fi (Int.tdiv (fi (limit1 - (fi (M9 (b1 - 48))))) 10)<n2)then
    some (0,false)
   else
    (some (fi ((fi (10 * n2))+(fi (M9 (b1 - 48)))))).bind λn3=>
    (dY s1 limit1 negative1 fuel1) n3 (av (i1+1))
  else
   jb negative1 n2
def jc (s1:List UInt8) (negative1:Bool) (limit1:Int):Option (Int×Bool):=
 dY s1 limit1 negative1 fu 0 0
def jr (s1:List UInt8) (negative1:Bool):Option (Int×Bool):=
 if negative1 then
  jc s1 negative1 9223372036854775808
 else
  jc s1 negative1 9223372036854775807
def tE (k1:Int):Option aC:=
 some (⟨k1,[]⟩:aC)
def oH (a1:Int) (b1:Int):Option (Int×Bool):=
 some (av (a1+b1),(decide (a1<av (a1+b1)))==(decide (0<b1)))
def ff (name1:List UInt8) (x1:Int) (y1:Int) (a1:Bool) (a2:aC):Option (Unit×Bool×aC):=
 (oH x1 y1).bind λr1=>
 if !decide (r1.1=0)then
  (bt a2.L ([⟨name1,r1.1⟩]:List bv)).bind λzs1=>
  some ((),a1&&r1.2,(⟨a2.K,zs1⟩:aC))
 else
  some ((),a1&&r1.2,a2)
def cQ {σ:Type} (each1:((List UInt8)→Int→Int→σ→Option (Unit×σ))):Nat→(List bv)→(List bv)→σ→Option (Unit×σ)
 | 0,_,_,_=>none
 | fuel1+1,a4,b2,s2=>
  if(decide (0<(a4.length:Int)))||(decide (0<(b2.length:Int)))then
   (gd ((!(decide ((b2.length:Int)=0)))&&(decide (0<(a4.length:Int)))) (lat a4 0)).bind λe1=>
   (gd ((!(decide ((b2.length:Int)=0)))&&(decide (0<(a4.length:Int)))) (lat b2 0)).bind λe2=>
   if(decide ((b2.length:Int)=0))||((decide (0<(a4.length:Int)))&&(Op.bytesLess e1.Name e2.Name))then
    (lat a4 0).bind λe3=>
    (lat a4 0).bind λe4=>
    (each1 e3.Name e4.By 0 s2).bind λ⟨r1,s3⟩=>
    (iJ a4 1).bind λzs1=>
    (cQ each1 fuel1) zs1 b2 s3
   else
    (gd (!(decide ((a4.length:Int)=0))) (lat b2 0)).bind λe5=>
    (gd (!(decide ((a4.length:Int)=0))) (lat a4 0)).bind λe6=>
    if(decide ((a4.length:Int)=0))||(Op.bytesLess e5.Name e6.Name)then
     (lat b2 0).bind λe7=>
     (lat b2 0).bind λe8=>
     (each1 e7.Name 0 e8.By s2).bind λ⟨r2,s4⟩=>
     (iJ b2 1).bind λzs2=>
     (cQ each1 fuel1) a4 zs2 s4
    else
     (lat a4 0).bind λe9=>
     (lat a4 0).bind λe10=>
     (lat b2 0).bind λe11=>
     (each1 e9.Name e10.By e11.By s2).bind λ⟨r3,s5⟩=>
     (iJ a4 1).bind λzs3=>
     (iJ b2 1).bind λzs4=>
     (cQ each1 fuel1) zs3 zs4 s5
  else
   some ((),s2)
def oU {σ:Type} (a1:List bv) (b1:List bv) (each1:((List UInt8)→Int→Int→σ→Option (Unit×σ))) (s1:σ):Option (Unit×σ):=
 cQ each1 fu a1 b1 s1
def pV (a1:aC) (b1:aC):Option (aC×Int):=
 (ij a1).bind λr1=>
 (gd (!(!decide (r1=0))) (ij b1)).bind λr2=>
 if(!decide (r1=0))||(!decide (r2=0))then
  some ((⟨0,[]⟩:aC),1)
 else
  (oH a1.K b1.K).bind λr3=>
  (oU a1.L b1.L (λx_1 x_2 x_3 s=>ff x_1 x_2 x_3 (s.1) (s.2)) (r3.2,(⟨r3.1,[]⟩:aC))).bind λ⟨r4,s1⟩=>
  if !(s1.1)then
   some ((⟨0,[]⟩:aC),3)
  else
   some ((s1.2),0)
def ay (r1:aa) (s1:List UInt8):Option (Bool×aa):=
 (aY r1 3 s1).bind λr2=>
 if r2 then
  some (true,(⟨r1.l,av (r1.at_+1),r1.deep⟩:aa))
 else
  some (false,r1)
def bC (r1:aa):Option (bZ (Unit×aa)):=
 if decide ((r1.l.length:Int)≤r1.at_)then
  pb (bL r1 (r1.l.length:Int) 6) λr2=>
  pb (bL r1 r1.at_ 5) λr3=>
  some (.ret ((),r1))
 else
  pb (bL r1 r1.at_ 5) λr4=>
  some (.ret ((),r1))
def fA (r2:aa):Option (bZ (List UInt8×aa)):=
 (lat r2.l (av ((av (r2.at_+1)) - 1))).bind λe1=>
 some (.ret (e1.Text,(⟨r2.l,av (r2.at_+1),r2.deep⟩:aa)))
def bi (r1:aa):Option (bZ (List UInt8×aa)):=
 (cX r1).bind λr3=>
 if !r3 then
  pb (bC r1) λ⟨r4,s1⟩=>
  fA s1
 else
  fA r1
def eH (r2:aa):Option (bZ (List UInt8×aa)):=
 (lat r2.l (av ((av (r2.at_+1)) - 1))).bind λe1=>
 some (.ret (e1.Text,(⟨r2.l,av (r2.at_+1),r2.deep⟩:aa)))
def bS (r1:aa):Option (bZ (List UInt8×aa)):=
 (fM r1).bind λr3=>
 if !r3 then
  pb (bC r1) λ⟨r4,s1⟩=>
  eH s1
 else
  eH r1
def fz (name1:List UInt8) (r8:Int×Bool) (r7:aa):Option (bZ (aC×aa)):=
 if decide (name1=([]:List UInt8))then
  (tE r8.1).bind λr9=>
  some (.ret (r9,r7))
 else
  (pU name1).bind λr10=>
  (kF r10 r8.1).bind λr11=>
  some (.ret (r11.1,r7))
def dV (r6:List UInt8) (negative1:Bool) (r1:aa) (name1:List UInt8) (r7:aa):Option (bZ (aC×aa)):=
 (jr r6 negative1).bind λr8=>
 if !r8.2 then
  pb (bL r7 r1.at_ 3) λr12=>
  fz name1 r8 r7
 else
  fz name1 r8 r7
def gy (r1:aa) (negative1:Bool):Option (bZ (aC×aa)):=
 (cX r1).bind λr2=>
 if r2 then
  pb (bi r1) λ⟨r3,s1⟩=>
  (pU r3).bind λr4=>
  if negative1 then
   (kF r4 (-1)).bind λr5=>
   some (.ret (r5.1,s1))
  else
   some (.ret (r4,s1))
 else
  pb (bS r1) λ⟨r6,s2⟩=>
  (ay s2 [42]).bind λ⟨r13,s3⟩=>
  if r13 then
   pb (bi s3) λ⟨r14,s4⟩=>
   dV r6 negative1 r1 r14 s4
  else
   dV r6 negative1 r1 ([]:List UInt8) s3
def dW (s2:aa) (self1:Bool→aa→aC→Option (bZ (aC×aa))) (r5:aC×Int):Option (bZ (aC×aa)):=
 (ay s2 [43]).bind λ⟨r6,s3⟩=>
 if r6 then
  self1 false s3 r5.1
 else
  (ay s3 [45]).bind λ⟨r7,s4⟩=>
  if r7 then
   self1 true s4 r5.1
  else
   some (.ret (r5.1,s4))
def bq:Nat→Bool→aa→aC→Option (bZ (aC×aa))
 | 0,_,_,_=>none
 | fuel1+1,negative1,r3,sum1=>
  pb (gy r3 negative1) λ⟨r4,s2⟩=>
  (pV sum1 r4).bind λr5=>
  if !decide (r5.2=0)then
   pb (bL s2 r3.at_ 3) λr8=>
   dW s2 (bq fuel1) r5
  else
   dW s2 (bq fuel1) r5
def bz (r1:aa):Option (bZ (aC×aa)):=
 (ay r1 [45]).bind λ⟨r2,s1⟩=>
 bq fu r2 s1 (⟨0,[]⟩:aC)
def nZ (a1:aa) (a3:aC):Option (bZ (Unit×aa×aC)):=
 pb (bz a1) λ⟨r1,s1⟩=>
 some (.ret ((),s1,r1))
def se (l1:List bp) (at1:Int):Option (aC×Int×Int):=
 if(decide (at1<0))||(decide ((l1.length:Int)<at1))then
  some ((⟨0,[]⟩:aC),0,1)
 else
  B2 (nZ (⟨l1,at1,0⟩:aa) (⟨0,[]⟩:aC)) (λ⟨r1,s1,s2⟩=>
   if !decide (0=0)then
    some ((⟨0,[]⟩:aC),0,0)
   else
    some (s2,s1.at_,0)) λpa1 pn1=>
   some ((⟨0,[]⟩:aC),pa1,pn1)
def iW (r1:Int):Option Bool:=
 if decide (r1=9)then
  if decide (r1=9)then
   some true
  else
   some false
 else
  if decide (r1=10)then
   if decide (r1=10)then
    some true
   else
    some false
  else
   if decide (r1=13)then
    if decide (r1=13)then
     some true
    else
     some false
   else
    if decide (r1=32)then
     some true
    else
     some false
def ob (r1:Int):Option Bool:=
 some (!decide (r1=10))
def ei (s1:List UInt8):Nat→Int→Option Int
 | 0,_=>none
 | fuel1+1,at1=>
  if decide (at1<(s1.length:Int))then
   (sat s1 at1).bind λb1=>
   (iW (qZ b1)).bind λr1=>
   if r1 then
    (ei s1 fuel1) (av (at1+1))
   else
    if decide (qZ b1=35)then
     (iJ s1 at1).bind λs2=>
     (hU s2 ob).bind λr2=>
     (ei s1 fuel1) (av (at1+r2))
    else
     some at1
  else
   some at1
def iQ (s1:List UInt8):Option Int:=
 ei s1 fu 0
def je (r1:Int):Option Bool:=
 if decide (r1=40)then
  if decide (r1=40)then
   some true
  else
   some false
 else
  if decide (r1=41)then
   if decide (r1=41)then
    some true
   else
    some false
  else
   if decide (r1=91)then
    if decide (r1=91)then
     some true
    else
     some false
   else
    if decide (r1=93)then
     if decide (r1=93)then
      some true
     else
      some false
    else
     if decide (r1=123)then
      if decide (r1=123)then
       some true
      else
       some false
     else
      if decide (r1=125)then
       if decide (r1=125)then
        some true
       else
        some false
      else
       if decide (r1=44)then
        if decide (r1=44)then
         some true
        else
         some false
       else
        if decide (r1=59)then
         if decide (r1=59)then
          some true
         else
          some false
        else
         if decide (r1=58)then
          if decide (r1=58)then
           some true
          else
           some false
         else
          if decide (r1=43)then
           if decide (r1=43)then
            some true
           else
            some false
          else
           if decide (r1=45)then
            if decide (r1=45)then
             some true
            else
             some false
           else
            if decide (r1=42)then
             if decide (r1=42)then
              some true
             else
              some false
            else
             if decide (r1=47)then
              if decide (r1=47)then
               some true
              else
               some false
             else
              if decide (r1=60)then
               if decide (r1=60)then
                some true
               else
                some false
              else
               if decide (r1=61)then
                if decide (r1=61)then
                 some true
                else
                 some false
               else
                if decide (r1=38)then
                 if decide (r1=38)then
                  some true
                 else
                  some false
                else
                 if decide (r1=124)then
                  if decide (r1=124)then
                   some true
                  else
                   some false
                 else
                  if decide (r1=33)then
                   if decide (r1=33)then
                    some true
                   else
                    some false
                  else
                   if decide (r1=46)then
                    if decide (r1=46)then
                     some true
                    else
                     some false
                   else
                    if decide (r1=64)then
                     some true
                    else
                     some false
def jE (s1:List UInt8):Option (Int×Int):=
 (sat s1 0).bind λb1=>
 (fO (qZ b1)).bind λr1=>
 if r1 then
  (hU s1 ej).bind λr2=>
  some (1,r2)
 else
  (fP (qZ b1)).bind λr3=>
  if r3 then
   (hU s1 fP).bind λr4=>
   some (2,r4)
  else
   (gd (((decide (qZ b1=60))||(decide (qZ b1=61)))&&(decide (1<(s1.length:Int)))) (sat s1 1)).bind λb2=>
   if(((decide (qZ b1=60))||(decide (qZ b1=61)))&&(decide (1<(s1.length:Int))))&&(decide (b2=61))then
    some (3,2)
   else
    (je (qZ b1)).bind λr5=>
    if r5 then
     some (3,1)
    else
     some (0,0)
def cG (s1:List UInt8):Nat→(List bp)→Int→Option (List bp×Int×Int)
 | 0,_,_=>none
 | fuel1+1,lv,at1=>
  if decide (at1<(s1.length:Int))then
   (iJ s1 at1).bind λs2=>
   (jE s2).bind λr2=>
   if decide (r2.1=0)then
    some (([]:List bp),at1,5)
   else
    if(decide (r2.1=1))&&(decide (16<r2.2))then
     some (([]:List bp),at1,2)
    else
     (vh s1 at1 (av (at1+r2.2))).bind λs3=>
     (bt lv ([⟨r2.1,at1,s3⟩]:List bp)).bind λzs1=>
     (iJ s1 (av (at1+r2.2))).bind λs4=>
     (iQ s4).bind λr3=>
     (some (av ((av (at1+r2.2))+r3))).bind λat2=>
     (cG s1 fuel1) zs1 at2
  else
   some (lv,0,0)
def es (s1:List UInt8):Option (List bp×Int×Int):=
 if decide (65536<(s1.length:Int))then
  some (([]:List bp),0,2)
 else
  (iQ s1).bind λr1=>
  cG s1 fu ([]:List bp) r1
def mK (t1:bu):Option Bool:=
 some ((decide (t1.Kind=t1.Kind))&&(decide (t1.Bits=0))&&(decide (t1.Frac=0))&&(decide (t1.Round=0))&&(decide (t1.Over=0)))
def gk (t1:bu):Option Int:=
 (some (((decide (1≤t1.Round))&&(decide (t1.Round≤4)))&&((decide (t1.Over=1))||(decide (t1.Over=2))))).bind λmodes1=>
 if(((((!decide (t1.Kind=2))||(decide (t1.Bits<2)))||(decide (31<t1.Bits)))||(decide (t1.Frac<0)))||(decide (30<t1.Frac)))||(!modes1)then
  some 10
 else
  some 0
def gc (t1:bu) (i1:Bool):Option Int:=
 if i1 then
  (mK t1).bind λr1=>
  if r1 then
   some 0
  else
   some 10
 else
  if decide (t1.Kind=2)then
   (gk t1).bind λr2=>
   if decide (r2=0)then
    some 0
   else
    some 10
  else
   some 10
def dR (t1:bu):Option Int:=
 if decide (t1.Kind=1)then
  gc t1 (decide (t1.Kind=1))
 else
  gc t1 (decide (t1.Kind=3))
def gC (s1:List UInt8) (sep1:List UInt8):Option (List UInt8×List UInt8×Bool):=
 (fY s1 sep1).bind λr1=>
 if decide (0≤r1)then
  (tF s1 r1).bind λs2=>
  (iJ s1 (av (r1+(sep1.length:Int)))).bind λs3=>
  some (s2,s3,true)
 else
  some (s1,([]:List UInt8),false)
def mN (s1:List UInt8) (sep1:List UInt8):Option (List UInt8×List UInt8×Bool):=
 (gC s1 sep1).bind λr1=>
 some (r1.1,r1.2.1,r1.2.2)
def eJ (s1:List UInt8) (prefix1:List UInt8):Option Bool:=
 (gd (decide ((prefix1.length:Int)≤(s1.length:Int))) (tF s1 (prefix1.length:Int))).bind λs2=>
 some ((decide ((prefix1.length:Int)≤(s1.length:Int)))&&(decide (s2=prefix1)))
def eK (s1:List UInt8) (prefix1:List UInt8):Option (List UInt8×Bool):=
 (eJ s1 prefix1).bind λr1=>
 if !r1 then
  some (s1,false)
 else
  (iJ s1 (prefix1.length:Int)).bind λs2=>
  some (s2,true)
def iH (s1:List UInt8) (prefix1:List UInt8):Option (List UInt8×Bool):=
 (eK s1 prefix1).bind λr1=>
 some (r1.1,r1.2)
def jG (s1:List UInt8):Option Bool:=
 (gd ((!(decide (s1=([48]:List UInt8))))&&(!decide (s1=([]:List UInt8)))) (sat s1 0)).bind λb1=>
 some ((decide (s1=([48]:List UInt8)))||((!decide (s1=([]:List UInt8)))&&(!decide (b1=48))))
def iz (s1:List UInt8):Nat→Int→Option Bool
 | 0,_=>none
 | fuel1+1,i1=>
  if decide (i1<(s1.length:Int))then
   (sat s1 i1).bind λb2=>
   (gd (!(decide (b2<48))) (sat s1 i1)).bind λb3=>
   if(decide (b2<48))||(decide (57<b3))then
    some false
   else
    (iz s1 fuel1) (av (i1+1))
  else
   jG s1
def kr (s1:List UInt8):Option Bool:=
 iz s1 fu 0
def ku (s1:List UInt8):Option (Int×Bool):=
 if decide (10<(s1.length:Int))then
  some (0,false)
 else
  (kO s1 10 64).bind λr1=>
  some (r1.1,decide (r1.1≤2147483647))
def l9 (n1:Int):Option Bool:=
 some ((decide ((-2147483647)≤n1))&&(decide (n1≤2147483647)))
def kq (n1:Int):Option Int:=
 if decide (n1<0)then
  some (fi (-(fi n1)))
 else
  some (fi n1)
def lp:Nat→Int→Int→Option Int
 | 0,_,_=>none
 | fuel1+1,a2,b2=>
  if !decide (b2=0)then
   if b2≠0 then
    (lp fuel1) b2 (Int.tmod a2 b2)
   else none
  else
   some a2
def sf (a1:Int) (b1:Int):Option Int:=
 lp fu a1 b1
def mt (v1:co):Option Bool:=
 (gd ((decide (1≤v1.D))&&(decide (v1.D≤2147483647))) (l9 v1.N)).bind λr1=>
 (gd (((decide (1≤v1.D))&&(decide (v1.D≤2147483647)))&&r1) (kq v1.N)).bind λr2=>
 (gd (((decide (1≤v1.D))&&(decide (v1.D≤2147483647)))&&r1) (sf r2 (fi v1.D))).bind λr3=>
 some ((((decide (1≤v1.D))&&(decide (v1.D≤2147483647)))&&r1)&&(decide (r3=1)))
def lg (r5:Int×Bool) (n1:Int):Option (co×Int):=
 (mt (⟨n1,r5.1⟩:co)).bind λr6=>
 if !r6 then
  some ((⟨0,0⟩:co),5)
 else
  some ((⟨n1,r5.1⟩:co),0)
def ju (r2:List UInt8×Bool) (bottom1:List UInt8):Option (co×Int):=
 (ku r2.1).bind λr4=>
 (ku bottom1).bind λr5=>
 if(!r4.2)||(!r5.2)then
  some ((⟨0,0⟩:co),3)
 else
  if r2.2 then
   lg r5 (av (-r4.1))
  else
   lg r5 r4.1
def oc (s1:List UInt8):Option (co×Int):=
 (mN s1 [47]).bind λr1=>
 (iH r1.1 [45]).bind λr2=>
 (kr r2.1).bind λr3=>
 if(!r3)||(r2.2&&(decide (r2.1=([48]:List UInt8))))then
  some ((⟨0,0⟩:co),5)
 else
  if !r1.2.2 then
   ju r2 ([49]:List UInt8)
  else
   (kr r1.2.1).bind λr7=>
   if((!r7)||(decide (r1.2.1=([48]:List UInt8))))||(decide (r1.2.1=([49]:List UInt8)))then
    some ((⟨0,0⟩:co),5)
   else
    ju r2 r1.2.1
def lk (bits1:Int):Option Bool:=
 some ((decide (2≤bits1))&&(decide (bits1≤31)))
def lO (bits1:Int):Option Int:=
 (lk bits1).bind λr1=>
 if !r1 then
  some 0
 else
  if 0≤(fi (av (bits1 - 1)))then
   some (av (-(av (1 * 2 ^ (min (Int.toNat (fi (av (bits1 - 1)))) 64)))))
  else none
def lP (bits1:Int):Option Int:=
 (lk bits1).bind λr1=>
 if !r1 then
  some 0
 else
  if 0≤(fi (av (bits1 - 1)))then
   some (av ((av (1 * 2 ^ (min (Int.toNat (fi (av (bits1 - 1)))) 64))) - 1))
  else none
def lq (t1:bu) (v1:co):Option Bool:=
 (gk t1).bind λr1=>
 (gd ((decide (r1=0))&&(decide (v1.D=1))) (lO t1.Bits)).bind λr2=>
 (gd (((decide (r1=0))&&(decide (v1.D=1)))&&(decide (r2≤v1.N))) (lP t1.Bits)).bind λr3=>
 some ((((decide (r1=0))&&(decide (v1.D=1)))&&(decide (r2≤v1.N)))&&(decide (v1.N≤r3)))
def mM (t1:bu) (s1:List UInt8):Option (co×Int):=
 (dR t1).bind λr1=>
 if !decide (r1=0)then
  some ((⟨0,0⟩:co),10)
 else
  (oc s1).bind λr2=>
  if !decide (r2.2=0)then
   some ((⟨0,0⟩:co),r2.2)
  else
   if decide (t1.Kind=3)then
    if !decide (r2.1.D=1)then
     some ((⟨0,0⟩:co),5)
    else
     some (r2.1,0)
   else
    if decide (t1.Kind=2)then
     if 0≤t1.Frac then
      (some (av (1 * 2 ^ (min (Int.toNat t1.Frac) 64)))).bind λone1=>
      if r2.1.D≠0 then
       if !decide (Int.tmod one1 r2.1.D=0)then
        some ((⟨0,0⟩:co),5)
       else
        (lq t1 (⟨av (r2.1.N * (av (Int.tdiv one1 r2.1.D))),1⟩:co)).bind λr3=>
        if !r3 then
         some ((⟨0,0⟩:co),3)
        else
         some ((⟨av (r2.1.N * (av (Int.tdiv one1 r2.1.D))),1⟩:co),0)
      else none
     else none
    else
     some (r2.1,0)
def gL (e1:ae) (rec_:(ae→Int→Option Int)) (limit1:Int):Nat→Int→Int→Option Int
 | 0,_,_=>none
 | fuel1+1,d1,i1=>
  if decide (i1<(e1.Args.length:Int))then
   (lat e1.Args i1).bind λe2=>
   (rec_ e2 (av (limit1 - 1))).bind λr1=>
   (gL e1 rec_ limit1 fuel1) (max d1 (av (1+r1))) (av (i1+1))
  else
   some d1
def ma (rec_:(ae→Int→Option Int)) (e1:ae) (limit1:Int):Option Int:=
 if decide (limit1≤1)then
  some limit1
 else
  gL e1 rec_ limit1 fu 1 0
def kz:Nat→(ae→Int→Option Int)
 | 0=>λ_ _=>none
 | n+1=>ma (kz n)
def sg (e1:ae) (limit1:Int):Option Int:=kz fu e1 limit1
def pP (e1:ae):Option Int:=
 (sg e1 41).bind λr1=>
 some r1
def mb (e1:ae):Option ae:=
 some e1
def ce {σ:Type} (e1:ae) (rec_:(ae→(ae→σ→Option (Bool×σ))→σ→Option (Bool×σ))) (yield1:(ae→σ→Option (Bool×σ))):Nat→Int→σ→Option (Bool×σ)
 | 0,_,_=>none
 | fuel1+1,i1,s3=>
  if decide (i1<(e1.Args.length:Int))then
   (lat e1.Args i1).bind λe2=>
   (rec_ e2 yield1 s3).bind λ⟨r2,s4⟩=>
   if !r2 then
    some (false,s4)
   else
    (ce e1 rec_ yield1 fuel1) (av (i1+1)) s4
  else
   some (true,s3)
def fZ {σ:Type} (rec_:(ae→(ae→σ→Option (Bool×σ))→σ→Option (Bool×σ))) (e1:ae) (yield1:(ae→σ→Option (Bool×σ))) (s1:σ):Option (Bool×σ):=
 (yield1 e1 s1).bind λ⟨r1,s2⟩=>
 if !r1 then
  some (false,s2)
 else
  ce e1 rec_ yield1 fu 0 s2
def dG {σ:Type} :Nat→(ae→(ae→σ→Option (Bool×σ))→σ→Option (Bool×σ))
 | 0=>λ_ _ _=>none
 | n+1=>fZ (dG n)
def m3 {σ:Type} (e1:ae) (yield1:(ae→σ→Option (Bool×σ))) (s1:σ):Option (Bool×σ):=dG fu e1 yield1 s1
def iE {σ:Type} (yield1:(ae→σ→Option (Bool×σ))) (a1:ae) (s1:σ):Option (Unit×σ):=
 (m3 a1 yield1 s1).bind λ⟨r1,s2⟩=>
 some ((),s2)
def cA (y1:ae) (n1:Int):Option (Bool×(Nat×Int)):=
 if decide (2000<av (n1+1))then
  some (false,(1,(av (n1+1))))
 else
  some (true,(0,(av (n1+1))))
def mc (e1:ae):Option Int:=
 (mb e1).bind λr1=>
 (iE (λk_0 q=>if q.1=0 then cA k_0 q.2 else none) r1 (0,0)).bind λ⟨u1,o1,n2⟩=>
 if o1=0 then
  some n2
 else
  if o1=1 then
   some n2
  else
   none
def lr (l1:aC):Option Bool:=
 some ((decide (l1.K=0))&&(decide ((l1.L.length:Int)=0)))
def aN (s1:List aM) (f1:(aM→Option Bool)):Nat→Int→Option Int
 | 0,_=>none
 | fuel1+1,i1=>
  if decide (i1<(s1.length:Int))then
   (lat s1 i1).bind λe1=>
   (f1 e1).bind λr1=>
   if r1 then
    some i1
   else
    (aN s1 f1 fuel1) (av (i1+1))
  else
   some (-1)
def cV (s1:List aM) (f1:(aM→Option Bool)):Option Int:=
 aN s1 f1 fu 0
def bb (s1:List aM) (f1:(aM→Option Bool)):Option Bool:=
 (cV s1 f1).bind λr1=>
 some (decide (0≤r1))
def lH (x1:aM):Option Bool:=
 if decide (x1.From=([]:List UInt8))then
  some (decide ((x1.At.length:Int)=0))
 else
  (lr x1.Lin).bind λr1=>
  some r1
def jv (x1:aM):Option Bool:=
 (lH x1).bind λr1=>
 some (!r1)
def m4 (e1:ae):Option Bool:=
 if(decide (e1.Op<1))||(decide (18<e1.Op))then
  some false
 else
  if(!(decide (e1.Op=1)))&&(!((decide (e1.Val.N=0))&&(decide (e1.Val.D=0))))then
   some false
  else
   if(!((decide (e1.Op=1))||(decide (e1.Op=12))))&&(!((decide (e1.Type_.Kind=0))&&(decide (e1.Type_.Bits=0))&&(decide (e1.Type_.Frac=0))&&(decide (e1.Type_.Round=0))&&(decide (e1.Type_.Over=0))))then
    some false
   else
    (gd (!(decide (e1.Op=2))) (lr e1.Lin)).bind λr1=>
    if(!(decide (e1.Op=2)))&&(!r1)then
     some false
    else
     if(!(decide (e1.Op=3)))&&((!decide (e1.Name=([]:List UInt8)))||(decide (0<(e1.Idx.length:Int))))then
      some false
     else
      (bb e1.Idx jv).bind λr2=>
      some (!r2)
def kw (x1:aM):Option Bool:=
 (gd (!decide (x1.From=([]:List UInt8))) (gA x1.From)).bind λr1=>
 some ((!decide (x1.From=([]:List UInt8)))&&(!r1))
def oe (e1:ae):Option Bool:=
 (gd (decide (e1.Op=3)) (gA e1.Name)).bind λr1=>
 if(decide (e1.Op=3))&&(!r1)then
  some false
 else
  (bb e1.Idx kw).bind λr2=>
  some (!r2)
def g9 (op1:Int) (i2:Bool):Option Int:=
 if i2 then
  some 1
 else
  if decide (op1=11)then
   some 3
  else
   some 2
def hG (op1:Int) (i1:Bool):Option Int:=
 if i1 then
  some 0
 else
  if decide (op1=8)then
   g9 op1 (decide (op1=8))
  else
   if decide (op1=12)then
    g9 op1 (decide (op1=12))
   else
    g9 op1 (decide (op1=18))
def lh (op1:Int):Option Int:=
 if decide (op1=1)then
  hG op1 (decide (op1=1))
 else
  if decide (op1=2)then
   hG op1 (decide (op1=2))
  else
   hG op1 (decide (op1=3))
def m5 (x1:aM):Option Bool:=
 some (decide (6<(x1.At.length:Int)))
def pc (e1:ae):Option Bool:=
 (lh e1.Op).bind λr1=>
 if(!decide ((e1.Args.length:Int)=r1))||(decide (6<(e1.Idx.length:Int)))then
  some false
 else
  (bb e1.Idx m5).bind λr2=>
  some (!r2)
def kR (e1:ae):Option Bool:=
 some ((decide (13≤e1.Op))&&(decide (e1.Op≤18)))
def fQ (op1:Int) (i1:Int):Option Bool:=
 if decide (op1=16)then
  if decide (op1=16)then
   some true
  else
   some ((decide (op1=11))&&(decide (i1=0)))
 else
  if decide (op1=17)then
   if decide (op1=17)then
    some true
   else
    some ((decide (op1=11))&&(decide (i1=0)))
  else
   if decide (op1=18)then
    some true
   else
    some ((decide (op1=11))&&(decide (i1=0)))
def ga (e1:ae):Nat→Int→Option Bool
 | 0,_=>none
 | fuel1+1,i1=>
  if decide (i1<(e1.Args.length:Int))then
   (lat e1.Args i1).bind λe2=>
   (kR e2).bind λr2=>
   (fQ e1.Op i1).bind λr3=>
   if r2 != r3 then
    some false
   else
    (ga e1 fuel1) (av (i1+1))
  else
   some true
def od (e1:ae):Option Bool:=
 (gd ((decide (e1.Op=1))||(decide (e1.Op=12))) (dR e1.Type_)).bind λr1=>
 if((decide (e1.Op=1))||(decide (e1.Op=12)))&&(!decide (r1=0))then
  some false
 else
  ga e1 fu 0
def oQ (n1:Int):Option Bool:=
 some ((decide ((-2147483647)≤n1))&&(decide (n1≤2147483647)))
def mL (t1:bu) (v1:co):Option Bool:=
 (dR t1).bind λr1=>
 if !decide (r1=0)then
  some false
 else
  if decide (t1.Kind=2)then
   (lq t1 v1).bind λr2=>
   some r2
  else
   if decide (t1.Kind=3)then
    (gd (decide (v1.D=1)) (oQ v1.N)).bind λr3=>
    some ((decide (v1.D=1))&&r3)
   else
    (mt v1).bind λr4=>
    some r4
def og (e1:ae):Option ae:=
 some e1
def j6 {σ:Type} (self1:Int→σ→Option (Unit×σ)) (i1:Int) (s4:σ):Option (Unit×σ):=
 self1 (av (i1+1)) s4
def dB {σ:Type} (e1:aM) (yield1:(aC→σ→Option (Bool×σ))) (self1:Int→σ→Option (Unit×σ)) (i1:Int):Nat→Int→σ→Option (Unit×σ)
 | 0,_,_=>none
 | fuel2+1,i2,s6=>
  if decide (i2<(e1.At.length:Int))then
   (lat e1.At i2).bind λe2=>
   (yield1 e2 s6).bind λ⟨r3,s7⟩=>
   if !r3 then
    some ((),s7)
   else
    (dB e1 yield1 self1 i1 fuel2) (av (i2+1)) s7
  else
   j6 self1 i1 s6
def bA {σ:Type} (a1:ae) (yield1:(aC→σ→Option (Bool×σ))):Nat→Int→σ→Option (Unit×σ)
 | 0,_,_=>none
 | fuel1+1,i1,s3=>
  if decide (i1<(a1.Idx.length:Int))then
   (lat a1.Idx i1).bind λe1=>
   (yield1 e1.Lin s3).bind λ⟨r2,s5⟩=>
   if !r2 then
    some ((),s5)
   else
    dB e1 yield1 (bA a1 yield1 fuel1) i1 fu 0 s5
  else
   some ((),s3)
def ky {σ:Type} (yield1:(aC→σ→Option (Bool×σ))) (a1:ae) (s1:σ):Option (Unit×σ):=
 (yield1 a1.Lin s1).bind λ⟨r1,s2⟩=>
 if !r1 then
  some ((),s2)
 else
  bA a1 yield1 fu 0 s2
def ew (y1:aC) (v1:Int):Option (Bool×(Nat×Int)):=
 (ij y1).bind λr7=>
 if !decide (r7=0)then
  some (false,(1,1))
 else
  some (true,(0,v1))
def kv (e1:ae):Option Int:=
 (m4 e1).bind λr1=>
 if !r1 then
  some 5
 else
  (oe e1).bind λr2=>
  if !r2 then
   some 7
  else
   (pc e1).bind λr3=>
   if !r3 then
    some 11
   else
    (od e1).bind λr4=>
    if !r4 then
     some 10
    else
     (gd (decide (e1.Op=1)) (mL e1.Type_ e1.Val)).bind λr5=>
     if(decide (e1.Op=1))&&(!r5)then
      some 1
     else
      (og e1).bind λr6=>
      (ky (λk_0 q=>if q.1=0 then ew k_0 q.2 else none) r6 (0,0)).bind λ⟨u1,o1,v2⟩=>
      if o1=0 then
       some 0
      else
       if o1=1 then
        some v2
       else
        none
def d5 (y1:ae) (v1:Int):Option (Bool×(Nat×Int)):=
 (kv y1).bind λr4=>
 if !decide (r4=0)then
  some (false,(1,r4))
 else
  some (true,(0,v1))
def jw (e1:ae):Option Int:=
 (pP e1).bind λr1=>
 if decide (40<r1)then
  some 13
 else
  (mc e1).bind λr2=>
  if decide (2000<r2)then
   some 2
  else
   (mb e1).bind λr3=>
   (iE (λk_0 q=>if q.1=0 then d5 k_0 q.2 else none) r3 (0,0)).bind λ⟨u1,o1,v2⟩=>
   if o1=0 then
    some 0
   else
    if o1=1 then
     some v2
    else
     none
def eX (r1:aa):Option (bZ (Unit×aa)):=
 some (.ret ((),(⟨r1.l,av (r1.at_+1),av (r1.deep+1)⟩:aa)))
def bM (r1:aa):Option (bZ (Unit×aa)):=
 if decide (159<r1.deep)then
  pb (bL r1 r1.at_ 13) λr2=>
  eX r1
 else
  eX r1
def cW (r1:aa):Option (bZ (Unit×aa)):=
 (aY r1 3 [40]).bind λr2=>
 if !r2 then
  pb (bC r1) λ⟨r3,s1⟩=>
  pb (bM s1) λ⟨r4,s2⟩=>
  some (.ret ((),s2))
 else
  pb (bM r1) λ⟨r5,s3⟩=>
  some (.ret ((),s3))
def ao (r1:aa) (s1:List UInt8):Option (bZ (Unit×aa)):=
 (ay r1 s1).bind λ⟨r2,s2⟩=>
 if !r2 then
  pb (bC s2) λ⟨r3,s3⟩=>
  some (.ret ((),s3))
 else
  some (.ret ((),s2))
def dN (r1:aa):Option (bZ (Unit×aa)):=
 pb (ao r1 [41]) λ⟨r2,s1⟩=>
 some (.ret ((),(⟨s1.l,s1.at_,av (s1.deep - 1)⟩:aa)))
def cj (l1:List (List UInt8)) (r1:aa):Nat→Int→Option (Int×aa)
 | 0,_=>none
 | fuel1+1,i1=>
  if decide (i1<(l1.length:Int))then
   (lat l1 i1).bind λe1=>
   (aY r1 1 e1).bind λr2=>
   if r2 then
    some (i1,(⟨r1.l,av (r1.at_+1),r1.deep⟩:aa))
   else
    (cj l1 r1 fuel1) (av (i1+1))
  else
   some ((-1),r1)
def bh (r1:aa) (l1:List (List UInt8)):Option (Int×aa):=
 cj l1 r1 fu 0
def eQ (r1:aa):Option (bZ (Int×aa)):=
 pb (bS r1) λ⟨r2,s1⟩=>
 (jr r2 false).bind λr3=>
 if(!r3.2)||(decide (2147483647<r3.1))then
  pb (bL s1 r1.at_ 3) λr4=>
  some (.ret (r3.1,s1))
 else
  some (.ret (r3.1,s1))
def fJ (r4:Int) (r6:Int) (r8:Int) (r11:Int) (r1:aa) (r12:aa):Option (bZ (bu×aa)):=
 pb (ao r12 [41]) λ⟨r13,s9⟩=>
 (dR (⟨2,r4,r6,av (r8+1),av (r11+1)⟩:bu)).bind λr14=>
 if !decide (r14=0)then
  pb (bL s9 r1.at_ 10) λr15=>
  some (.ret ((⟨2,r4,r6,av (r8+1),av (r11+1)⟩:bu),s9))
 else
  some (.ret ((⟨2,r4,r6,av (r8+1),av (r11+1)⟩:bu),s9))
def fK (r4:Int) (r6:Int) (r8:Int) (r1:aa) (r9:aa):Option (bZ (bu×aa)):=
 pb (ao r9 [44]) λ⟨r10,s7⟩=>
 (bh s7 ([[115,97,116],[119,114,97,112]]:List (List UInt8))).bind λ⟨r11,s8⟩=>
 if decide (av (r11+1)=0)then
  pb (bC s8) λ⟨r16,s10⟩=>
  fJ r4 r6 r8 r11 r1 s10
 else
  fJ r4 r6 r8 r11 r1 s8
def fL (r1:aa) (r2:aa):Option (bZ (bu×aa)):=
 pb (ao r2 [40]) λ⟨r3,s1⟩=>
 pb (eQ s1) λ⟨r4,s2⟩=>
 pb (ao s2 [44]) λ⟨r5,s3⟩=>
 pb (eQ s3) λ⟨r6,s4⟩=>
 pb (ao s4 [44]) λ⟨r7,s5⟩=>
 (bh s5 ([[102,108,111,111,114],[99,101,105,108],[122,101,114,111],[101,118,101,110]]:List (List UInt8))).bind λ⟨r8,s6⟩=>
 if decide (av (r8+1)=0)then
  pb (bC s6) λ⟨r17,s11⟩=>
  fK r4 r6 r8 r1 s11
 else
  fK r4 r6 r8 r1 s6
def dw (r1:aa):Option (bZ (bu×aa)):=
 (bh r1 ([[102,114,97,99],[105,110,116],[102,105,120]]:List (List UInt8))).bind λ⟨r18,s12⟩=>
 if decide (r18=0)then
  some (.ret ((⟨1,0,0,0,0⟩:bu),s12))
 else
  if decide (r18=1)then
   some (.ret ((⟨3,0,0,0,0⟩:bu),s12))
  else
   if decide (r18=(-1))then
    pb (bC s12) λ⟨r19,s13⟩=>
    fL r1 s13
   else
    fL r1 s12
def dT (r6:aa) (r7:co×Int) (r2:bu):Option (bZ (ae×aa)):=
 pb (ao r6 [41]) λ⟨r8,s5⟩=>
 some (.ret ((⟨1,[],r7.1,r2,⟨0,[]⟩,[],[]⟩:ae),s5))
def cC (r2:bu) (s2:aa) (text2:List UInt8) (r6:aa):Option (bZ (ae×aa)):=
 (mM r2 text2).bind λr7=>
 if !decide (r7.2=0)then
  pb (bL r6 s2.at_ r7.2) λr9=>
  dT r6 r7 r2
 else
  dT r6 r7 r2
def cD (r2:bu) (s2:aa) (text1:List UInt8) (r4:aa):Option (bZ (ae×aa)):=
 pb (bS r4) λ⟨r5,s3⟩=>
 (bt text1 r5).bind λs4=>
 (ay s3 [47]).bind λ⟨r10,s6⟩=>
 if r10 then
  pb (bS s6) λ⟨r11,s7⟩=>
  (bt ([47]:List UInt8) r11).bind λs8=>
  (bt s4 s8).bind λs9=>
  cC r2 s2 s9 s7
 else
  cC r2 s2 s4 s6
def bX (r1:aa):Option (bZ (ae×aa)):=
 pb (dw r1) λ⟨r2,s1⟩=>
 pb (ao s1 [40]) λ⟨r3,s2⟩=>
 (ay s2 [45]).bind λ⟨r12,s10⟩=>
 if r12 then
  cD r2 s2 ([45]:List UInt8) s10
 else
  cD r2 s2 ([]:List UInt8) s10
def dX (rec_:(aa→Option (bZ (ae×aa)))) (e1:ae) (self1:Int→aa→ae→Option (bZ (ae×aa))) (i1:Int) (r4:aa):Option (bZ (ae×aa)):=
 pb (rec_ r4) λ⟨r5,s2⟩=>
 (bt e1.Args ([r5]:List ae)).bind λzs1=>
 self1 (av (i1+1)) s2 (⟨e1.Op,e1.Name,e1.Val,e1.Type_,e1.Lin,e1.Idx,zs1⟩:ae)
def br (many1:Int) (rec_:(aa→Option (bZ (ae×aa)))):Nat→Int→aa→ae→Option (bZ (ae×aa))
 | 0,_,_,_=>none
 | fuel1+1,i1,r3,e1=>
  if decide (i1<many1)then
   if decide (0<i1)then
    pb (ao r3 [44]) λ⟨r6,s3⟩=>
    dX rec_ e1 (br many1 rec_ fuel1) i1 s3
   else
    dX rec_ e1 (br many1 rec_ fuel1) i1 r3
  else
   pb (dN r3) λ⟨r7,s4⟩=>
   some (.ret (e1,s4))
def bo (rec_:(aa→Option (bZ (ae×aa)))) (r1:aa) (op1:Int) (many1:Int):Option (bZ (ae×aa)):=
 pb (cW r1) λ⟨r2,s1⟩=>
 br many1 rec_ fu 0 s1 (⟨op1,[],⟨0,0⟩,⟨0,0,0,0,0⟩,⟨0,[]⟩,[],[]⟩:ae)
def ft (rec_:(aa→Option (bZ (ae×aa)))) (r1:aa):Option (bZ (ae×aa)):=
 pb (cW r1) λ⟨r2,s1⟩=>
 pb (dw s1) λ⟨r3,s2⟩=>
 pb (ao s2 [44]) λ⟨r4,s3⟩=>
 pb (rec_ s3) λ⟨r5,s4⟩=>
 pb (dN s4) λ⟨r6,s5⟩=>
 some (.ret ((⟨12,[],⟨0,0⟩,r3,⟨0,[]⟩,[],[r5]⟩:ae),s5))
def bW:Nat→(List aC)→aa→Option (bZ (List aC×aa))
 | 0,_,_=>none
 | fuel1+1,lv,r4=>
  (ay r4 [44]).bind λ⟨r5,s3⟩=>
  if r5 then
   pb (bz s3) λ⟨r6,s4⟩=>
   (bt lv ([r6]:List aC)).bind λzs1=>
   (bW fuel1) zs1 s4
  else
   pb (ao s3 [93]) λ⟨r7,s5⟩=>
   some (.ret (lv,s5))
def eT (r1:aa):Option (bZ (List aC×aa)):=
 (ay r1 [93]).bind λ⟨r2,s1⟩=>
 if r2 then
  some (.ret (([]:List aC),s1))
 else
  pb (bz s1) λ⟨r3,s2⟩=>
  bW fu ([r3]:List aC) s2
def dL (r1:aa):Option (bZ (aM×aa)):=
 (cX r1).bind λr2=>
 (gd (r2&&(decide (av (r1.at_+1)<(r1.l.length:Int)))) (lat r1.l (av (r1.at_+1)))).bind λe1=>
 (gd ((r2&&(decide (av (r1.at_+1)<(r1.l.length:Int))))&&(decide (e1.Kind=3))) (lat r1.l (av (r1.at_+1)))).bind λe2=>
 if !(((r2&&(decide (av (r1.at_+1)<(r1.l.length:Int))))&&(decide (e1.Kind=3)))&&(decide (e2.Text=([91]:List UInt8))))then
  pb (bz r1) λ⟨r3,s1⟩=>
  some (.ret ((⟨r3,[],[]⟩:aM),s1))
 else
  pb (bi r1) λ⟨r4,s2⟩=>
  pb (ao s2 [91]) λ⟨r5,s3⟩=>
  pb (eT s3) λ⟨r6,s4⟩=>
  some (.ret ((⟨⟨0,[]⟩,r4,r6⟩:aM),s4))
def bx:Nat→aa→ae→Option (bZ (ae×aa))
 | 0,_,_=>none
 | fuel1+1,r24,e1=>
  (ay r24 [44]).bind λ⟨r25,s19⟩=>
  if r25 then
   pb (dL s19) λ⟨r26,s20⟩=>
   (bt e1.Idx ([r26]:List aM)).bind λzs1=>
   (bx fuel1) s20 (⟨e1.Op,e1.Name,e1.Val,e1.Type_,e1.Lin,zs1,e1.Args⟩:ae)
  else
   pb (ao s19 [93]) λ⟨r27,s21⟩=>
   some (.ret (e1,s21))
def aX (rec_:(aa→Option (bZ (ae×aa)))) (r1:aa):Option (bZ (ae×aa)):=
 (aY r1 3 [40]).bind λr2=>
 if r2 then
  pb (cW r1) λ⟨r3,s1⟩=>
  pb (rec_ s1) λ⟨r4,s2⟩=>
  pb (dN s2) λ⟨r5,s3⟩=>
  some (.ret (r4,s3))
 else
  (ay r1 [91]).bind λ⟨r6,s4⟩=>
  if r6 then
   pb (bz s4) λ⟨r7,s5⟩=>
   pb (ao s5 [93]) λ⟨r8,s6⟩=>
   some (.ret ((⟨2,[],⟨0,0⟩,⟨0,0,0,0,0⟩,r7,[],[]⟩:ae),s6))
  else
   (aY s4 1 [102,114,97,99]).bind λr9=>
   if r9 then
    pb (bX s4) λ⟨r10,s7⟩=>
    some (.ret (r10,s7))
   else
    (aY s4 1 [105,110,116]).bind λr11=>
    if r11 then
     pb (bX s4) λ⟨r12,s8⟩=>
     some (.ret (r12,s8))
    else
     (aY s4 1 [102,105,120]).bind λr13=>
     if r13 then
      pb (bX s4) λ⟨r14,s9⟩=>
      some (.ret (r14,s9))
     else
      (bh s4 ([[109,105,110],[109,97,120],[105,102],[99,97,115,116]]:List (List UInt8))).bind λ⟨r15,s10⟩=>
      if decide (r15=0)then
       pb (bo rec_ s10 9 2) λ⟨r16,s11⟩=>
       some (.ret (r16,s11))
      else
       if decide (r15=1)then
        pb (bo rec_ s10 10 2) λ⟨r17,s12⟩=>
        some (.ret (r17,s12))
       else
        if decide (r15=2)then
         pb (bo rec_ s10 11 3) λ⟨r18,s13⟩=>
         some (.ret (r18,s13))
        else
         if decide (r15=3)then
          pb (ft rec_ s10) λ⟨r19,s14⟩=>
          some (.ret (r19,s14))
         else
          pb (bi s10) λ⟨r20,s15⟩=>
          pb (ao s15 [91]) λ⟨r21,s16⟩=>
          (ay s16 [93]).bind λ⟨r22,s17⟩=>
          if r22 then
           some (.ret ((⟨3,r20,⟨0,0⟩,⟨0,0,0,0,0⟩,⟨0,[]⟩,[],[]⟩:ae),s17))
          else
           pb (dL s17) λ⟨r23,s18⟩=>
           bx fu s18 (⟨3,r20,⟨0,0⟩,⟨0,0,0,0,0⟩,⟨0,[]⟩,[r23],[]⟩:ae)
def cJ (rec_:(aa→Option (bZ (ae×aa)))) (recs_:(aa→Option (bZ (ae×aa)))) (r1:aa):Option (bZ (ae×aa)):=
 (aY r1 3 [45]).bind λr2=>
 if !r2 then
  pb (aX rec_ r1) λ⟨r3,s1⟩=>
  some (.ret (r3,s1))
 else
  pb (bM r1) λ⟨r4,s2⟩=>
  pb (recs_ s2) λ⟨r5,s3⟩=>
  some (.ret ((⟨8,[],⟨0,0⟩,⟨0,0,0,0,0⟩,⟨0,[]⟩,[],[r5]⟩:ae),(⟨s3.l,s3.at_,av (s3.deep - 1)⟩:aa)))
def cI (rec_:(aa→Option (bZ (ae×aa)))):Nat→(aa→Option (bZ (ae×aa)))
 | 0=>λ_=>none
 | n+1=>cJ rec_ (cI rec_ n)
def gi (rec_:(aa→Option (bZ (ae×aa)))) (r1:aa):Option (bZ (ae×aa)):=cI rec_ fu r1
def yS (e1:ae) (nx:(aa→Option (bZ (ae×aa)))) (self1:aa→ae→Option (bZ (ae×aa))) (op1:Int) (r4:aa):Option (bZ (ae×aa)):=
 if decide (op1=0)then
  some (.ret (e1,r4))
 else
  pb (nx r4) λ⟨r5,s2⟩=>
  self1 s2 (⟨op1,[],⟨0,0⟩,⟨0,0,0,0,0⟩,⟨0,[]⟩,[],[e1,r5]⟩:ae)
def wh (self2:Int→Int→aa→Option (bZ (ae×aa))) (i1:Int) (op3:Int) (r7:aa):Option (bZ (ae×aa)):=
 self2 op3 (av (i1+1)) r7
def ld (signs1:List (List UInt8)) (ops1:List Int) (e1:ae) (nx:(aa→Option (bZ (ae×aa)))) (self1:aa→ae→Option (bZ (ae×aa))):Nat→Int→Int→aa→Option (bZ (ae×aa))
 | 0,_,_,_=>none
 | fuel2+1,op2,i1,r6=>
  if decide (i1<(signs1.length:Int))then
   (lat signs1 i1).bind λe2=>
   (MR (decide (op2=0)) (ay r6 e2) (default,r6)).bind λ⟨r8,s3⟩=>
   if(decide (op2=0))&&r8 then
    (lat ops1 i1).bind λe3=>
    wh (ld signs1 ops1 e1 nx self1 fuel2) i1 e3 s3
   else
    wh (ld signs1 ops1 e1 nx self1 fuel2) i1 op2 s3
  else
   yS e1 nx self1 op2 r6
def kn (signs1:List (List UInt8)) (ops1:List Int) (nx:(aa→Option (bZ (ae×aa)))):Nat→aa→ae→Option (bZ (ae×aa))
 | 0,_,_=>none
 | fuel1+1,r3,e1=>
  ld signs1 ops1 e1 nx (kn signs1 ops1 nx fuel1) fu 0 0 r3
def MI (nx:(aa→Option (bZ (ae×aa)))) (r1:aa) (signs1:List (List UInt8)) (ops1:List Int):Option (bZ (ae×aa)):=
 pb (nx r1) λ⟨r2,s1⟩=>
 kn signs1 ops1 nx fu s1 r2
abbrev pL (signs1:List (List UInt8)) (ops1:List Int) (e1:ae) (rec_:(aa→Option (bZ (ae×aa)))):=ld signs1 ops1 e1 (gi rec_)
abbrev iM (signs1:List (List UInt8)) (ops1:List Int) (rec_:(aa→Option (bZ (ae×aa)))):=kn signs1 ops1 (gi rec_)
def jU (rec_:(aa→Option (bZ (ae×aa)))) (r1:aa) (signs1:List (List UInt8)) (ops1:List Int):Option (bZ (ae×aa)):=
 pb (gi rec_ r1) λ⟨r2,s1⟩=>
 iM signs1 ops1 rec_ fu s1 r2
def ck (rec_:(aa→Option (bZ (ae×aa)))) (r1:aa):Option (bZ (ae×aa)):=
 pb (jU rec_ r1 ([[42],[47]]:List (List UInt8)) ([6,7]:List Int)) λ⟨r2,s1⟩=>
 some (.ret (r2,s1))
abbrev pM (signs1:List (List UInt8)) (ops1:List Int) (e1:ae) (rec_:(aa→Option (bZ (ae×aa)))):=ld signs1 ops1 e1 (ck rec_)
abbrev iN (signs1:List (List UInt8)) (ops1:List Int) (rec_:(aa→Option (bZ (ae×aa)))):=kn signs1 ops1 (ck rec_)
def jV (rec_:(aa→Option (bZ (ae×aa)))) (r1:aa) (signs1:List (List UInt8)) (ops1:List Int):Option (bZ (ae×aa)):=
 pb (ck rec_ r1) λ⟨r2,s1⟩=>
 iN signs1 ops1 rec_ fu s1 r2
def dx (rec_:(aa→Option (bZ (ae×aa)))) (r1:aa):Option (bZ (ae×aa)):=
 pb (jV rec_ r1 ([[43],[45]]:List (List UInt8)) ([4,5]:List Int)) λ⟨r2,s1⟩=>
 some (.ret (r2,s1))
abbrev pN (signs1:List (List UInt8)) (ops1:List Int) (e1:ae) (rec_:(aa→Option (bZ (ae×aa)))):=ld signs1 ops1 e1 (dx rec_)
abbrev iO (signs1:List (List UInt8)) (ops1:List Int) (rec_:(aa→Option (bZ (ae×aa)))):=kn signs1 ops1 (dx rec_)
def fN (rec_:(aa→Option (bZ (ae×aa)))) (r1:aa) (signs1:List (List UInt8)) (ops1:List Int):Option (bZ (ae×aa)):=
 pb (dx rec_ r1) λ⟨r2,s1⟩=>
 iO signs1 ops1 rec_ fu s1 r2
def dK (rec_:(aa→Option (bZ (ae×aa)))) (recs_:(aa→Option (bZ (ae×aa)))) (r1:aa):Option (bZ (ae×aa)):=
 (aY r1 3 [33]).bind λr2=>
 if !r2 then
  pb (fN rec_ r1 ([[60],[60,61],[61,61]]:List (List UInt8)) ([13,14,15]:List Int)) λ⟨r3,s1⟩=>
  some (.ret (r3,s1))
 else
  pb (bM r1) λ⟨r4,s2⟩=>
  pb (recs_ s2) λ⟨r5,s3⟩=>
  some (.ret ((⟨18,[],⟨0,0⟩,⟨0,0,0,0,0⟩,⟨0,[]⟩,[],[r5]⟩:ae),(⟨s3.l,s3.at_,av (s3.deep - 1)⟩:aa)))
def dJ (rec_:(aa→Option (bZ (ae×aa)))):Nat→(aa→Option (bZ (ae×aa)))
 | 0=>λ_=>none
 | n+1=>dK rec_ (dJ rec_ n)
def gS (rec_:(aa→Option (bZ (ae×aa)))) (r1:aa):Option (bZ (ae×aa)):=dJ rec_ fu r1
abbrev pO (signs1:List (List UInt8)) (ops1:List Int) (e1:ae) (rec_:(aa→Option (bZ (ae×aa)))):=ld signs1 ops1 e1 (gS rec_)
abbrev iP (signs1:List (List UInt8)) (ops1:List Int) (rec_:(aa→Option (bZ (ae×aa)))):=kn signs1 ops1 (gS rec_)
def jW (rec_:(aa→Option (bZ (ae×aa)))) (r1:aa) (signs1:List (List UInt8)) (ops1:List Int):Option (bZ (ae×aa)):=
 pb (gS rec_ r1) λ⟨r2,s1⟩=>
 iP signs1 ops1 rec_ fu s1 r2
def dy (rec_:(aa→Option (bZ (ae×aa)))) (r1:aa):Option (bZ (ae×aa)):=
 pb (jW rec_ r1 ([[38]]:List (List UInt8)) ([16]:List Int)) λ⟨r2,s1⟩=>
 some (.ret (r2,s1))
abbrev qj (signs1:List (List UInt8)) (ops1:List Int) (e1:ae) (rec_:(aa→Option (bZ (ae×aa)))):=ld signs1 ops1 e1 (dy rec_)
abbrev jd (signs1:List (List UInt8)) (ops1:List Int) (rec_:(aa→Option (bZ (ae×aa)))):=kn signs1 ops1 (dy rec_)
def ko (rec_:(aa→Option (bZ (ae×aa)))) (r1:aa) (signs1:List (List UInt8)) (ops1:List Int):Option (bZ (ae×aa)):=
 pb (dy rec_ r1) λ⟨r2,s1⟩=>
 jd signs1 ops1 rec_ fu s1 r2
def fr (rec_:(aa→Option (bZ (ae×aa)))) (r1:aa):Option (bZ (ae×aa)):=
 pb (ko rec_ r1 ([[124]]:List (List UInt8)) ([17]:List Int)) λ⟨r2,s1⟩=>
 some (.ret (r2,s1))
def aB:Nat→(aa→Option (bZ (ae×aa)))
 | 0=>λ_=>none
 | n+1=>fr (aB n)
def ii (r1:aa):Option (bZ (ae×aa)):=aB fu r1
def l7 (a1:aa) (a3:ae):Option (bZ (Unit×aa×ae)):=
 pb (ii a1) λ⟨r1,s1⟩=>
 some (.ret ((),s1,r1))
def py (l1:List bp) (at1:Int):Option (ae×Int×Int):=
 if(decide (at1<0))||(decide ((l1.length:Int)<at1))then
  some ((⟨0,[],⟨0,0⟩,⟨0,0,0,0,0⟩,⟨0,[]⟩,[],[]⟩:ae),0,1)
 else
  B2 (l7 (⟨l1,at1,0⟩:aa) (⟨0,[],⟨0,0⟩,⟨0,0,0,0,0⟩,⟨0,[]⟩,[],[]⟩:ae)) (λ⟨r1,s1,s2⟩=>
   if !decide (0=0)then
    some ((⟨0,[],⟨0,0⟩,⟨0,0,0,0,0⟩,⟨0,[]⟩,[],[]⟩:ae),0,0)
   else
    (jw s2).bind λr2=>
    if !decide (r2=0)then
     some ((⟨0,[],⟨0,0⟩,⟨0,0,0,0,0⟩,⟨0,[]⟩,[],[]⟩:ae),at1,r2)
    else
     some (s2,s1.at_,0)) λpa1 pn1=>
   some ((⟨0,[],⟨0,0⟩,⟨0,0,0,0,0⟩,⟨0,[]⟩,[],[]⟩:ae),pa1,pn1)
def lf (s1:List UInt8) (l1:List bp) (at1:Int):Option Int:=
 if decide ((l1.length:Int)≤at1)then
  some (s1.length:Int)
 else
  (lat l1 at1).bind λe1=>
  some e1.At
def mq (s1:List UInt8) (r1:List bp×Int×Int) (r2:ae×Int×Int) (e1:Int):Option (ae×Int×Int):=
 if !decide (e1=0)then
  (lf s1 r1.1 r2.2.1).bind λr3=>
  some ((⟨0,[],⟨0,0⟩,⟨0,0,0,0,0⟩,⟨0,[]⟩,[],[]⟩:ae),r3,e1)
 else
  some (r2.1,0,0)
def ln (s1:List UInt8):Option (ae×Int×Int):=
 (es s1).bind λr1=>
 if !decide (r1.2.2=0)then
  some ((⟨0,[],⟨0,0⟩,⟨0,0,0,0,0⟩,⟨0,[]⟩,[],[]⟩:ae),r1.2.1,r1.2.2)
 else
  (py r1.1 0).bind λr2=>
  if(decide (r2.2.2=0))&&(decide (r2.2.1<(r1.1.length:Int)))then
   mq s1 r1 r2 5
  else
   mq s1 r1 r2 r2.2.2
def iX (a1:aC) (b1:aC):Nat→Int→Option Bool
 | 0,_=>none
 | fuel1+1,i1=>
  if decide (i1<(a1.L.length:Int))then
   (lat a1.L i1).bind λe1=>
   (lat b1.L i1).bind λe2=>
   if !((decide (e1.Name=e2.Name))&&(decide (e1.By=e2.By)))then
    some false
   else
    (iX a1 b1 fuel1) (av (i1+1))
  else
   some true
def jf (a1:aC) (b1:aC):Option Bool:=
 if(!decide (a1.K=b1.K))||(!decide ((a1.L.length:Int)=(b1.L.length:Int)))then
  some false
 else
  iX a1 b1 fu 0
def i8:Option Bool:=
 (oF [50,42,105,32,45,32,51,32,43,32,105]).bind λr1=>
 (se r1.1 0).bind λr2=>
 (ln [97,91,105,93,32,43,32,98,91,93,32,42,32,91,50,93]).bind λr3=>
 (ln [97,91]).bind λr4=>
 (ln [97,91,105,93,32,43,42,32,50]).bind λr5=>
 (ln [102,114,97,99,40,50,47,52,41]).bind λr6=>
 if(!((!decide (r2.2.2=0))||(!decide (r2.2.1=7))))=true then
  (jf r2.1 (⟨(-3),([⟨[105],3⟩]:List bv)⟩:aC)).bind λr7=>
  if((((!decide (r2.2.2=0))||(!decide (r2.2.1=7)))||(!r7))||(!decide (r3.2.2=0)))||(!decide ((r3.1.Args.length:Int)=2))then
   some false
  else
   (gd (decide (r3.1.Op=4)) (lat r3.1.Args 0)).bind λe1=>
   (gd ((decide (r3.1.Op=4))&&(decide (e1.Op=3))) (lat r3.1.Args 1)).bind λe2=>
   some (((((((((decide (r3.1.Op=4))&&(decide (e1.Op=3)))&&(decide (e2.Op=6)))&&(decide (r4.2.1=2)))&&(decide (r4.2.2=6)))&&(decide (r5.2.1=6)))&&(decide (r5.2.2=5)))&&(decide (r6.2.1=5)))&&(decide (r6.2.2=5)))
 else none
def mu:Option (List (List UInt8)):=
 some ([[115,105,122,101],[119,104,101,114,101],[105,110],[100,101,102],[111,117,116],[115,117,109],[112,114,111,100],[109,105,110],[109,97,120],[115,99,97,110],[111,118,101,114],[105,102],[99,97,115,116],[102,114,97,99],[105,110,116],[102,105,120],[99,101,105,108],[102,108,111,111,114],[122,101,114,111],[101,118,101,110],[115,97,116],[119,114,97,112]]:List (List UInt8))
def ia (l1:List (List UInt8)) (s1:List UInt8):Nat→Int→Option Bool
 | 0,_=>none
 | fuel1+1,i1=>
  if decide (i1<(l1.length:Int))then
   (lat l1 i1).bind λe1=>
   if decide (e1=s1)then
    some true
   else
    (ia l1 s1 fuel1) (av (i1+1))
  else
   some false
def ql (l1:List (List UInt8)) (s1:List UInt8):Option Bool:=
 ia l1 s1 fu 0
def gE (s1:List UInt8):Nat→Int→Option Bool
 | 0,_=>none
 | fuel1+1,i1=>
  if decide (i1<(s1.length:Int))then
   (sat s1 i1).bind λb1=>
   if !(((decide (97≤b1))&&(decide (b1≤122)))||((decide (0<i1))&&(((decide (48≤b1))&&(decide (b1≤57)))||(decide (b1=95)))))then
    some false
   else
    (gE s1 fuel1) (av (i1+1))
  else
   some true
def eY (s1:List UInt8):Option Bool:=
 (gd (!((decide ((s1.length:Int)<1))||(decide (16<(s1.length:Int))))) (mu)).bind λr1=>
 (gd (!((decide ((s1.length:Int)<1))||(decide (16<(s1.length:Int))))) (ql r1 s1)).bind λr2=>
 if((decide ((s1.length:Int)<1))||(decide (16<(s1.length:Int))))||r2 then
  some false
 else
  gE s1 fu 0
def xA (name1:List UInt8):Option aC:=
 (eY name1).bind λr1=>
 if !r1 then
  some (⟨0,[]⟩:aC)
 else
  some (⟨0,[⟨name1,1⟩]⟩:aC)
def qQ (s1:List UInt8):Option Bool:=
 (gd ((!(decide (s1=([48]:List UInt8))))&&(decide (0<(s1.length:Int)))) (sat s1 0)).bind λb1=>
 some ((decide (s1=([48]:List UInt8)))||((decide (0<(s1.length:Int)))&&(!decide (b1=48))))
def oh (a1:Int) (b1:Int):Option (Int×Bool):=
 if(decide (a1=0))||(decide (b1=0))then
  some (0,true)
 else
  if((!(((decide (a1=(-1)))&&(decide (b1=(-9223372036854775808))))||((decide (b1=(-1)))&&(decide (a1=(-9223372036854775808))))))=true→b1≠0)then
   if(((decide (a1=(-1)))&&(decide (b1=(-9223372036854775808))))||((decide (b1=(-1)))&&(decide (a1=(-9223372036854775808)))))||(!decide (av (Int.tdiv (av (a1 * b1)) b1)=a1))then
    some (0,false)
   else
    some (av (a1 * b1),true)
  else none
def dk (l1:aC):Nat→Int→Option Bool
 | 0,_=>none
 | fuel1+1,i1=>
  if decide (i1<(l1.L.length:Int))then
   (lat l1.L i1).bind λe1=>
   (eY e1.Name).bind λr1=>
   (gd (!(!r1)) (lat l1.L i1)).bind λe2=>
   (gd ((!((!r1)||(decide (e2.By=0))))&&(decide (0<i1))) (lat l1.L (av (i1 - 1)))).bind λe3=>
   (gd ((!((!r1)||(decide (e2.By=0))))&&(decide (0<i1))) (lat l1.L i1)).bind λe4=>
   if((!r1)||(decide (e2.By=0)))||((decide (0<i1))&&(!Op.bytesLess e3.Name e4.Name))then
    some false
   else
    (dk l1 fuel1) (av (i1+1))
  else
   some true
def dH (l1:aC):Option Bool:=
 dk l1 fu 0
def gZ (l1:aC):Option Int:=
 (dH l1).bind λr1=>
 if !r1 then
  some 1
 else
  some 0
def oG (a1:aC) (by1:Int):Nat→Int→aC→Option (aC×Int)
 | 0,_,_=>none
 | fuel1+1,i1,lv=>
  if decide (i1<(a1.L.length:Int))then
   (lat a1.L i1).bind λe1=>
   (oh e1.By by1).bind λr3=>
   if !r3.2 then
    some ((⟨0,[]⟩:aC),3)
   else
    (lat a1.L i1).bind λe2=>
    (bt lv.L ([⟨e2.Name,r3.1⟩]:List bv)).bind λzs1=>
    (oG a1 by1 fuel1) (av (i1+1)) (⟨lv.K,zs1⟩:aC)
  else
   some (lv,0)
def rb (a1:aC) (by1:Int):Option (aC×Int):=
 (gZ a1).bind λr1=>
 if !decide (r1=0)then
  some ((⟨0,[]⟩:aC),1)
 else
  if decide (by1=0)then
   some ((⟨0,[]⟩:aC),0)
  else
   (oh a1.K by1).bind λr2=>
   if !r2.2 then
    some ((⟨0,[]⟩:aC),3)
   else
    oG a1 by1 fu 0 (⟨r2.1,[]⟩:aC)
def jH (t1:bu):Option Bool:=
 if(decide (t1.Kind=1))||(decide (t1.Kind=3))then
  some ((((decide (t1.Bits=0))&&(decide (t1.Frac=0)))&&(decide (t1.Round=0)))&&(decide (t1.Over=0)))
 else
  some ((((((((decide (t1.Kind=2))&&(decide (2≤t1.Bits)))&&(decide (t1.Bits≤31)))&&(decide (0≤t1.Frac)))&&(decide (t1.Frac≤30)))&&(decide (1≤t1.Round)))&&(decide (t1.Round≤4)))&&((decide (t1.Over=1))||(decide (t1.Over=2))))
def gx (n1:Int):Option Int:=
 if decide (n1<0)then
  some (fi ((fi (av (-(av (n1+1)))))+1))
 else
  some (fi n1)
def km:Nat→Int→Int→Option Int
 | 0,_,_=>none
 | fuel1+1,a2,b2=>
  if !decide (b2=0)then
   if b2≠0 then
    (km fuel1) b2 (Int.tmod a2 b2)
   else none
  else
   some a2
def qR (a1:Int) (b1:Int):Option Int:=
 km fu a1 b1
def nY (t1:bu):Option Int:=
 if 0≤(fi t1.Frac)then
  some (av (1 * 2 ^ (min (Int.toNat (fi t1.Frac)) 64)))
 else none
def lu:Nat→Int→Int→Option Int
 | 0,_,_=>none
 | fuel1+1,a2,b2=>
  if !decide (b2=0)then
   if b2≠0 then
    (lu fuel1) b2 (Int.tmod a2 b2)
   else none
  else
   some a2
def si (a1:Int) (b1:Int):Option Int:=
 lu fu a1 b1
def nt (t1:bu) (v1:co):Option Bool:=
 if decide (t1.Kind=2)then
  if 0≤(av (t1.Bits - 1))then
   (some (av (1 * 2 ^ (min (Int.toNat (av (t1.Bits - 1))) 64)))).bind λhalf1=>
   some (((decide (v1.D=1))&&(decide (av (-half1)≤v1.N)))&&(decide (v1.N<half1)))
  else none
 else
  if(((decide (2147483647<v1.N))||(decide (v1.N<(-2147483647))))||(decide (v1.D<1)))||(decide (2147483647<v1.D))then
   some false
  else
   if decide (t1.Kind=3)then
    some (decide (v1.D=1))
   else
    (si (max v1.N (av (-v1.N))) v1.D).bind λr1=>
    some (decide (r1=1))
def fo (e1:ae) (most1:Int) (rec_:(ae→Int→Option Int)):Nat→Int→Int→Option Int
 | 0,_,_=>none
 | fuel1+1,d1,i1=>
  if(decide (i1<(e1.Args.length:Int)))&&(decide (1<most1))then
   (lat e1.Args i1).bind λe2=>
   (rec_ e2 (av (most1 - 1))).bind λr1=>
   (fo e1 most1 rec_ fuel1) (max d1 (av (1+r1))) (av (i1+1))
  else
   some d1
def la (rec_:(ae→Int→Option Int)) (e1:ae) (most1:Int):Option Int:=
 fo e1 most1 rec_ fu 1 0
def jo:Nat→(ae→Int→Option Int)
 | 0=>λ_ _=>none
 | n+1=>la (jo n)
def q9 (e1:ae) (most1:Int):Option Int:=jo fu e1 most1
def oR (e1:ae):Option Int:=
 (q9 e1 41).bind λr1=>
 some r1
def gJ (e1:ae) (most1:Int) (rec_:(ae→Int→Option Int)):Nat→Int→Int→Option Int
 | 0,_,_=>none
 | fuel1+1,n1,i1=>
  if(decide (i1<(e1.Args.length:Int)))&&(decide (n1≤most1))then
   (lat e1.Args i1).bind λe2=>
   (rec_ e2 (av (most1 - n1))).bind λr1=>
   (gJ e1 most1 rec_ fuel1) (av (n1+r1)) (av (i1+1))
  else
   some n1
def lR (rec_:(ae→Int→Option Int)) (e1:ae) (most1:Int):Option Int:=
 gJ e1 most1 rec_ fu 1 0
def ke:Nat→(ae→Int→Option Int)
 | 0=>λ_ _=>none
 | n+1=>lR (ke n)
def sc (e1:ae) (most1:Int):Option Int:=ke fu e1 most1
def nW (e1:ae):Option Int:=
 (sc e1 2000).bind λr1=>
 some (min r1 2001)
def fk (e1:ae):Nat→Int→Option Bool
 | 0,_=>none
 | fuel1+1,i1=>
  if decide (i1<(e1.Idx.length:Int))then
   (lat e1.Idx i1).bind λe2=>
   if((decide (e2.From=([]:List UInt8)))&&(decide (0<(e2.At.length:Int))))||((!decide (e2.From=([]:List UInt8)))&&((!decide (e2.Lin.K=0))||(decide (0<(e2.Lin.L.length:Int)))))then
    some false
   else
    (fk e1 fuel1) (av (i1+1))
  else
   some true
def mT (e1:ae):Option Bool:=
 if(decide (e1.Op<1))||(decide (18<e1.Op))then
  some false
 else
  if((!decide (e1.Op=1))&&(!((decide (e1.Val.N=0))&&(decide (e1.Val.D=0)))))||(((!decide (e1.Op=1))&&(!decide (e1.Op=12)))&&(!((decide (e1.Type_.Kind=0))&&(decide (e1.Type_.Bits=0))&&(decide (e1.Type_.Frac=0))&&(decide (e1.Type_.Round=0))&&(decide (e1.Type_.Over=0)))))then
   some false
  else
   if((!decide (e1.Op=2))&&((!decide (e1.Lin.K=0))||(decide (0<(e1.Lin.L.length:Int)))))||((!decide (e1.Op=3))&&((!decide (e1.Name=([]:List UInt8)))||(decide (0<(e1.Idx.length:Int)))))then
    some false
   else
    fk e1 fu 0
def fm (e1:ae):Nat→Int→Option Bool
 | 0,_=>none
 | fuel1+1,i1=>
  if decide (i1<(e1.Idx.length:Int))then
   (lat e1.Idx i1).bind λe2=>
   (gd (!decide (e2.From=([]:List UInt8))) (lat e1.Idx i1)).bind λe3=>
   (gd (!decide (e2.From=([]:List UInt8))) (eY e3.From)).bind λr2=>
   if(!decide (e2.From=([]:List UInt8)))&&(!r2)then
    some false
   else
    (fm e1 fuel1) (av (i1+1))
  else
   some true
def mU (e1:ae):Option Bool:=
 (gd (decide (e1.Op=3)) (eY e1.Name)).bind λr1=>
 if(decide (e1.Op=3))&&(!r1)then
  some false
 else
  fm e1 fu 0
def jp (op1:Int) (i2:Bool):Option Int:=
 if i2 then
  some 1
 else
  if decide (op1=11)then
   some 3
  else
   some 2
def jq (op1:Int) (i1:Bool):Option Int:=
 if i1 then
  some 0
 else
  if decide (op1=8)then
   jp op1 (decide (op1=8))
  else
   if decide (op1=12)then
    jp op1 (decide (op1=12))
   else
    jp op1 (decide (op1=18))
def nV (op1:Int):Option Int:=
 if decide (op1=1)then
  jq op1 (decide (op1=1))
 else
  if decide (op1=2)then
   jq op1 (decide (op1=2))
  else
   jq op1 (decide (op1=3))
def eF (e1:ae):Nat→Int→Option Bool
 | 0,_=>none
 | fuel1+1,i1=>
  if decide (i1<(e1.Idx.length:Int))then
   (lat e1.Idx i1).bind λe2=>
   if decide (6<(e2.At.length:Int))then
    some false
   else
    (eF e1 fuel1) (av (i1+1))
  else
   some true
def lT (e1:ae):Option Bool:=
 (nV e1.Op).bind λr1=>
 if(!decide ((e1.Args.length:Int)=r1))||(decide (6<(e1.Idx.length:Int)))then
  some false
 else
  eF e1 fu 0
def j0 (e1:ae):Option Bool:=
 some ((decide (13≤e1.Op))&&(decide (e1.Op≤18)))
def mR (op1:Int) (at1:Int):Option Bool:=
 some (((((decide (op1=11))&&(decide (at1=0)))||(decide (op1=16)))||(decide (op1=17)))||(decide (op1=18)))
def fj (e1:ae):Nat→Int→Option Bool
 | 0,_=>none
 | fuel1+1,i1=>
  if decide (i1<(e1.Args.length:Int))then
   (lat e1.Args i1).bind λe2=>
   (j0 e2).bind λr2=>
   (mR e1.Op i1).bind λr3=>
   if r2 != r3 then
    some false
   else
    (fj e1 fuel1) (av (i1+1))
  else
   some true
def mS (e1:ae):Option Bool:=
 (gd ((decide (e1.Op=1))||(decide (e1.Op=12))) (jH e1.Type_)).bind λr1=>
 if((decide (e1.Op=1))||(decide (e1.Op=12)))&&(!r1)then
  some false
 else
  fj e1 fu 0
def lF (self1:Int→Option Bool) (i1:Int):Option Bool:=
 self1 (av (i1+1))
def eG (e1:ae) (i1:Int) (self1:Int→Option Bool):Nat→Int→Option Bool
 | 0,_=>none
 | fuel2+1,k1=>
  (lat e1.Idx i1).bind λe3=>
  if decide (k1<(e3.At.length:Int))then
   (lat e1.Idx i1).bind λe4=>
   (lat e4.At k1).bind λe5=>
   (dH e5).bind λr4=>
   if !r4 then
    some false
   else
    (eG e1 i1 self1 fuel2) (av (k1+1))
  else
   lF self1 i1
def bR (e1:ae):Nat→Int→Option Bool
 | 0,_=>none
 | fuel1+1,i1=>
  if decide (i1<(e1.Idx.length:Int))then
   (lat e1.Idx i1).bind λe2=>
   (dH e2.Lin).bind λr3=>
   if !r3 then
    some false
   else
    eG e1 i1 (bR e1 fuel1) fu 0
  else
   some true
def lV (e1:ae):Option Bool:=
 (gd (decide (e1.Op=1)) (nt e1.Type_ e1.Val)).bind λr1=>
 (gd (!((decide (e1.Op=1))&&(!r1))) (dH e1.Lin)).bind λr2=>
 if((decide (e1.Op=1))&&(!r1))||(!r2)then
  some false
 else
  bR e1 fu 0
def gK (e1:ae) (rec_:(ae→Option Int)):Nat→Int→Option Int
 | 0,_=>none
 | fuel1+1,i1=>
  if decide (i1<(e1.Args.length:Int))then
   (lat e1.Args i1).bind λe2=>
   (rec_ e2).bind λr6=>
   if !decide (r6=0)then
    some r6
   else
    (gK e1 rec_ fuel1) (av (i1+1))
  else
   some 0
def lU (rec_:(ae→Option Int)) (e1:ae):Option Int:=
 (mT e1).bind λr1=>
 if !r1 then
  some 5
 else
  (mU e1).bind λr2=>
  if !r2 then
   some 7
  else
   (lT e1).bind λr3=>
   if !r3 then
    some 11
   else
    (mS e1).bind λr4=>
    if !r4 then
     some 10
    else
     (lV e1).bind λr5=>
     if !r5 then
      some 1
     else
      gK e1 rec_ fu 0
def kg:Nat→(ae→Option Int)
 | 0=>λ_=>none
 | n+1=>lU (kg n)
def sd (e1:ae):Option Int:=kg fu e1
def kh (e1:ae):Option Int:=
 (oR e1).bind λr1=>
 if decide (40<r1)then
  some 13
 else
  (nW e1).bind λr2=>
  if decide (2000<r2)then
   some 2
  else
   (sd e1).bind λr3=>
   some r3
def fR (a1:List aC) (b1:List aC):Nat→Int→Option Bool
 | 0,_=>none
 | fuel1+1,i1=>
  if decide (i1<(a1.length:Int))then
   (lat a1 i1).bind λe1=>
   (lat b1 i1).bind λe2=>
   (jf e1 e2).bind λr1=>
   if !r1 then
    some false
   else
    (fR a1 b1 fuel1) (av (i1+1))
  else
   some true
def kG (a1:List aC) (b1:List aC):Option Bool:=
 if !decide ((a1.length:Int)=(b1.length:Int))then
  some false
 else
  fR a1 b1 fu 0
def ol (a1:aM) (b1:aM):Option Bool:=
 (gd (decide (a1.From=b1.From)) (jf a1.Lin b1.Lin)).bind λr1=>
 (gd ((decide (a1.From=b1.From))&&r1) (kG a1.At b1.At)).bind λr2=>
 some (((decide (a1.From=b1.From))&&r1)&&r2)
def fF (a1:List aM) (b1:List aM):Nat→Int→Option Bool
 | 0,_=>none
 | fuel1+1,i1=>
  if decide (i1<(a1.length:Int))then
   (lat a1 i1).bind λe1=>
   (lat b1 i1).bind λe2=>
   (ol e1 e2).bind λr1=>
   if !r1 then
    some false
   else
    (fF a1 b1 fuel1) (av (i1+1))
  else
   some true
def mf (a1:List aM) (b1:List aM):Option Bool:=
 if !decide ((a1.length:Int)=(b1.length:Int))then
  some false
 else
  fF a1 b1 fu 0
def gO (a1:List ae) (b1:List ae) (rec_:(ae→ae→Option Bool)):Nat→Int→Option Bool
 | 0,_=>none
 | fuel1+1,i1=>
  if decide (i1<(a1.length:Int))then
   (lat a1 i1).bind λe1=>
   (lat b1 i1).bind λe2=>
   (rec_ e1 e2).bind λr1=>
   if !r1 then
    some false
   else
    (gO a1 b1 rec_ fuel1) (av (i1+1))
  else
   some true
def om (rec_:(ae→ae→Option Bool)) (a1:List ae) (b1:List ae):Option Bool:=
 if !decide ((a1.length:Int)=(b1.length:Int))then
  some false
 else
  gO a1 b1 rec_ fu 0
def m6 (rec_:(ae→ae→Option Bool)) (a1:ae) (b1:ae):Option Bool:=
 (gd ((((decide (a1.Op=b1.Op))&&(decide (a1.Name=b1.Name)))&&((decide (a1.Val.N=b1.Val.N))&&(decide (a1.Val.D=b1.Val.D))))&&((decide (a1.Type_.Kind=b1.Type_.Kind))&&(decide (a1.Type_.Bits=b1.Type_.Bits))&&(decide (a1.Type_.Frac=b1.Type_.Frac))&&(decide (a1.Type_.Round=b1.Type_.Round))&&(decide (a1.Type_.Over=b1.Type_.Over)))) (jf a1.Lin b1.Lin)).bind λr1=>
 (gd (((((decide (a1.Op=b1.Op))&&(decide (a1.Name=b1.Name)))&&((decide (a1.Val.N=b1.Val.N))&&(decide (a1.Val.D=b1.Val.D))))&&((decide (a1.Type_.Kind=b1.Type_.Kind))&&(decide (a1.Type_.Bits=b1.Type_.Bits))&&(decide (a1.Type_.Frac=b1.Type_.Frac))&&(decide (a1.Type_.Round=b1.Type_.Round))&&(decide (a1.Type_.Over=b1.Type_.Over))))&&r1) (mf a1.Idx b1.Idx)).bind λr2=>
 (gd ((((((decide (a1.Op=b1.Op))&&(decide (a1.Name=b1.Name)))&&((decide (a1.Val.N=b1.Val.N))&&(decide (a1.Val.D=b1.Val.D))))&&((decide (a1.Type_.Kind=b1.Type_.Kind))&&(decide (a1.Type_.Bits=b1.Type_.Bits))&&(decide (a1.Type_.Frac=b1.Type_.Frac))&&(decide (a1.Type_.Round=b1.Type_.Round))&&(decide (a1.Type_.Over=b1.Type_.Over))))&&r1)&&r2) (om rec_ a1.Args b1.Args)).bind λr3=>
 some (((((((decide (a1.Op=b1.Op))&&(decide (a1.Name=b1.Name)))&&((decide (a1.Val.N=b1.Val.N))&&(decide (a1.Val.D=b1.Val.D))))&&((decide (a1.Type_.Kind=b1.Type_.Kind))&&(decide (a1.Type_.Bits=b1.Type_.Bits))&&(decide (a1.Type_.Frac=b1.Type_.Frac))&&(decide (a1.Type_.Round=b1.Type_.Round))&&(decide (a1.Type_.Over=b1.Type_.Over))))&&r1)&&r2)&&r3)
def jX:Nat→(ae→ae→Option Bool)
 | 0=>λ_ _=>none
 | n+1=>m6 (jX n)
def qT (a1:ae) (b1:ae):Option Bool:=jX fu a1 b1
def gN (e1:ae) (most1:Int) (rec_:(ae→Int→Option Int)):Nat→Int→Int→Option Int
 | 0,_,_=>none
 | fuel1+1,n3,i1=>
  if(decide (i1<(e1.Args.length:Int)))&&(decide (n3≤most1))then
   (lat e1.Args i1).bind λe2=>
   (rec_ e2 (av (most1 - n3))).bind λr1=>
   (gN e1 most1 rec_ fuel1) (av (n3+r1)) (av (i1+1))
  else
   some n3
def jx (e1:ae) (most1:Int) (rec_:(ae→Int→Option Int)) (n2:Int):Option Int:=
 gN e1 most1 rec_ fu n2 0
def nc (self2:Int→Int→Option Int) (i2:Int) (n5:Int):Option Int:=
 self2 n5 (av (i2+1))
def gM (e1:ae) (i2:Int) (most1:Int) (self2:Int→Int→Option Int):Nat→Int→Int→Option Int
 | 0,_,_=>none
 | fuel3+1,n6,k1=>
  (lat e1.Idx i2).bind λe5=>
  if(decide (k1<(e5.At.length:Int)))&&(decide (n6≤most1))then
   (lat e1.Idx i2).bind λe6=>
   (lat e6.At k1).bind λe7=>
   (some (av (n6+(e7.L.length:Int)))).bind λn7=>
   (gM e1 i2 most1 self2 fuel3) n7 (av (k1+1))
  else
   nc self2 i2 n6
def cT (e1:ae) (most1:Int) (rec_:(ae→Int→Option Int)):Nat→Int→Int→Option Int
 | 0,_,_=>none
 | fuel2+1,n4,i2=>
  if(decide (i2<(e1.Idx.length:Int)))&&(decide (n4≤most1))then
   (lat e1.Idx i2).bind λe3=>
   (lat e1.Idx i2).bind λe4=>
   gM e1 i2 most1 (cT e1 most1 rec_ fuel2) fu (av ((av (n4+(e3.Lin.L.length:Int)))+(e4.At.length:Int))) 0
  else
   jx e1 most1 rec_ n4
def me (rec_:(ae→Int→Option Int)) (e1:ae) (most1:Int):Option Int:=
 (some (av ((av (1+(e1.Lin.L.length:Int)))+(e1.Idx.length:Int)))).bind λn1=>
 cT e1 most1 rec_ fu n1 0
def dO:Nat→(ae→Int→Option Int)
 | 0=>λ_ _=>none
 | n+1=>me (dO n)
def sj (e1:ae) (most1:Int):Option Int:=dO fu e1 most1
def mP (e1:ae):Option Bool:=
 (sj e1 300).bind λr1=>
 some (decide (r1≤300))
def nR (op1:Int):Option (List UInt8):=
 if decide (op1=4)then
  some ([32,43,32]:List UInt8)
 else
  if decide (op1=5)then
   some ([32,45,32]:List UInt8)
  else
   if decide (op1=6)then
    some ([32,42,32]:List UInt8)
   else
    if decide (op1=7)then
     some ([32,47,32]:List UInt8)
    else
     if decide (op1=13)then
      some ([32,60,32]:List UInt8)
     else
      if decide (op1=14)then
       some ([32,60,61,32]:List UInt8)
      else
       if decide (op1=15)then
        some ([32,61,61,32]:List UInt8)
       else
        if decide (op1=16)then
         some ([32,38,32]:List UInt8)
        else
         if decide (op1=17)then
          some ([32,124,32]:List UInt8)
         else
          some ([]:List UInt8)
def ka (op1:Int) (i3:Bool):Option Int:=
 if i3 then
  some 6
 else
  if decide (op1=8)then
   some 7
  else
   some 8
def kb (op1:Int) (i2:Bool):Option Int:=
 if i2 then
  some 5
 else
  if decide (op1=6)then
   ka op1 (decide (op1=6))
  else
   ka op1 (decide (op1=7))
def i6 (op1:Int) (i1:Bool):Option Int:=
 if i1 then
  some 4
 else
  if decide (op1=4)then
   kb op1 (decide (op1=4))
  else
   kb op1 (decide (op1=5))
def iU (op1:Int):Option Int:=
 if decide (op1=17)then
  some 1
 else
  if decide (op1=16)then
   some 2
  else
   if decide (op1=18)then
    some 3
   else
    if decide (op1=13)then
     i6 op1 (decide (op1=13))
    else
     if decide (op1=14)then
      i6 op1 (decide (op1=14))
     else
      i6 op1 (decide (op1=15))
def gI (rec_:(ae→Option (List UInt8))) (e1:ae) (least1:Int):Option (List UInt8):=
 (iU e1.Op).bind λr1=>
 if decide (r1<least1)then
  (rec_ e1).bind λr2=>
  (bt ([40]:List UInt8) r2).bind λs1=>
  (bt s1 ([41]:List UInt8)).bind λs2=>
  some s2
 else
  (rec_ e1).bind λr3=>
  some r3
def fp:Nat→Int→(List UInt8)→Option (List UInt8)
 | 0,_,_=>none
 | fuel1+1,n2,s1=>
  if decide (10≤n2)then
   (vh ([48,49,50,51,52,53,54,55,56,57]:List UInt8) (Int.tmod n2 10) (fi ((Int.tmod n2 10)+1))).bind λs2=>
   (bt s2 s1).bind λs3=>
   (fp fuel1) (fi (Int.tdiv n2 10)) s3
  else
   (vh ([48,49,50,51,52,53,54,55,56,57]:List UInt8) n2 (fi (n2+1))).bind λs4=>
   (bt s4 s1).bind λs5=>
   some s5
def iV (n1:Int):Option (List UInt8):=
 fp fu n1 ([]:List UInt8)
def eW (n1:Int):Option (List UInt8):=
 if decide (n1<0)then
  (gx n1).bind λr1=>
  (iV r1).bind λr2=>
  (bt ([45]:List UInt8) r2).bind λs1=>
  some s1
 else
  (gx n1).bind λr3=>
  (iV r3).bind λr4=>
  some r4
def nS (how1:Int):Option (List UInt8):=
 if decide (how1=1)then
  some ([102,108,111,111,114]:List UInt8)
 else
  if decide (how1=2)then
   some ([99,101,105,108]:List UInt8)
  else
   if decide (how1=3)then
    some ([122,101,114,111]:List UInt8)
   else
    some ([101,118,101,110]:List UInt8)
def jn (t1:bu) (over2:List UInt8):Option (List UInt8):=
 (eW t1.Bits).bind λr2=>
 (bt ([102,105,120,40]:List UInt8) r2).bind λs1=>
 (bt s1 ([44,32]:List UInt8)).bind λs2=>
 (eW t1.Frac).bind λr3=>
 (bt s2 r3).bind λs3=>
 (bt s3 ([44,32]:List UInt8)).bind λs4=>
 (nS t1.Round).bind λr4=>
 (bt s4 r4).bind λs5=>
 (bt s5 ([44,32]:List UInt8)).bind λs6=>
 (bt s6 over2).bind λs7=>
 (bt s7 ([41]:List UInt8)).bind λs8=>
 some s8
def jB (t1:bu):Option (List UInt8):=
 (jH t1).bind λr1=>
 if !r1 then
  some ([]:List UInt8)
 else
  if decide (t1.Kind=1)then
   some ([102,114,97,99]:List UInt8)
  else
   if decide (t1.Kind=3)then
    some ([105,110,116]:List UInt8)
   else
    (some (([115,97,116]:List UInt8))).bind λover1=>
    if decide (t1.Over=2)then
     (some (([119,114,97,112]:List UInt8))).bind λover3=>
     jn t1 over3
    else
     jn t1 over1
def mW (t1:bu) (v1:co):Option Bool:=
 (jH t1).bind λr1=>
 (gd r1 (nt t1 v1)).bind λr2=>
 some (r1&&r2)
def pK (minus1:Bool) (n1:Int) (d1:Int):Option (co×Int):=
 (qR n1 d1).bind λr1=>
 if r1≠0 then
  if(decide (2147483647<fi (Int.tdiv n1 r1)))||(decide (2147483647<fi (Int.tdiv d1 r1)))then
   some ((⟨0,0⟩:co),3)
  else
   if minus1 then
    some ((⟨av (-(av (fi (Int.tdiv n1 r1)))),av (fi (Int.tdiv d1 r1))⟩:co),0)
   else
    some ((⟨av (fi (Int.tdiv n1 r1)),av (fi (Int.tdiv d1 r1))⟩:co),0)
 else none
def qS (n1:Int) (d1:Int):Option (co×Int):=
 if decide (d1=0)then
  some ((⟨0,0⟩:co),4)
 else
  (gx n1).bind λr1=>
  (gx d1).bind λr2=>
  (pK ((decide (n1<0)) != (decide (d1<0))) r1 r2).bind λr3=>
  some (r3.1,r3.2)
def jT (t1:bu) (v1:co):Option co:=
 if decide (t1.Kind=2)then
  (nY t1).bind λr1=>
  (qS v1.N r1).bind λr2=>
  some r2.1
 else
  some v1
def mX (v1:co):Option Bool:=
 (nt (⟨1,0,0,0,0⟩:bu) v1).bind λr1=>
 some r1
def ja (a1:co):Option (List UInt8):=
 (mX a1).bind λr1=>
 if !r1 then
  some ([]:List UInt8)
 else
  if decide (a1.D=1)then
   (eW a1.N).bind λr2=>
   some r2
  else
   (eW a1.N).bind λr3=>
   (bt r3 ([47]:List UInt8)).bind λs1=>
   (eW a1.D).bind λr4=>
   (bt s1 r4).bind λs2=>
   some s2
def l5 (t1:bu) (v1:co):Option (List UInt8):=
 (mW t1 v1).bind λr1=>
 if !r1 then
  some ([]:List UInt8)
 else
  (jT t1 v1).bind λr2=>
  (ja r2).bind λr3=>
  some r3
def kP (n1:Int):Option Int:=
 if decide (n1<0)then
  some (fi ((fi (av (-(av (n1+1)))))+1))
 else
  some (fi n1)
def gw:Nat→Int→(List UInt8)→Option (List UInt8)
 | 0,_,_=>none
 | fuel1+1,n2,s1=>
  (bt (xo ([M9 (fi (48+(Int.tmod n2 10)))]:List Int)) s1).bind λs2=>
  if decide (fi (Int.tdiv n2 10)=0)then
   some s2
  else
   (gw fuel1) (fi (Int.tdiv n2 10)) s2
def ki (n1:Int):Option (List UInt8):=
 gw fu n1 ([]:List UInt8)
def mn (s1:List UInt8) (negative1:Bool) (t1:List UInt8):Option (List UInt8):=
 if(decide (s1=([]:List UInt8)))&&negative1 then
  (bt ([45]:List UInt8) t1).bind λs2=>
  some s2
 else
  if decide (s1=([]:List UInt8))then
   some t1
  else
   if negative1 then
    (bt s1 ([32,45,32]:List UInt8)).bind λs3=>
    (bt s3 t1).bind λs4=>
    some s4
   else
    (bt s1 ([32,43,32]:List UInt8)).bind λs5=>
    (bt s5 t1).bind λs6=>
    some s6
def lG (l1:aC) (s1:List UInt8):Option (List UInt8):=
 if(!decide (l1.K=0))||(decide ((l1.L.length:Int)=0))then
  (kP l1.K).bind λr2=>
  (ki r2).bind λr3=>
  (mn s1 (decide (l1.K<0)) r3).bind λr4=>
  some r4
 else
  some s1
def iy (s2:List UInt8) (e1:bv) (self1:(List UInt8)→Int→Option (List UInt8)) (i1:Int) (t1:List UInt8):Option (List UInt8):=
 (mn s2 (decide (e1.By<0)) t1).bind λr5=>
 self1 r5 (av (i1+1))
def cw (l1:aC):Nat→(List UInt8)→Int→Option (List UInt8)
 | 0,_,_=>none
 | fuel1+1,s2,i1=>
  if decide (i1<(l1.L.length:Int))then
   (lat l1.L i1).bind λe1=>
   (lat l1.L i1).bind λe2=>
   (kP e1.By).bind λr6=>
   if !decide (r6=1)then
    (kP e1.By).bind λr7=>
    (ki r7).bind λr8=>
    (bt r8 ([42]:List UInt8)).bind λs3=>
    (bt s3 e2.Name).bind λs4=>
    iy s2 e1 (cw l1 fuel1) i1 s4
   else
    iy s2 e1 (cw l1 fuel1) i1 e2.Name
  else
   lG l1 s2
def fI (l1:aC):Option (List UInt8):=
 (gZ l1).bind λr1=>
 if !decide (r1=0)then
  some ([]:List UInt8)
 else
  cw l1 fu ([]:List UInt8) 0
def ge (l1:List aC):Nat→Int→Option Bool
 | 0,_=>none
 | fuel1+1,i1=>
  if decide (i1<(l1.length:Int))then
   (lat l1 i1).bind λe1=>
   (dH e1).bind λr1=>
   if !r1 then
    some false
   else
    (ge l1 fuel1) (av (i1+1))
  else
   some true
def lm (l1:List aC):Option Bool:=
 ge l1 fu 0
def iZ (l1:List aC) (i1:Int) (self1:(List UInt8)→Int→Option (List UInt8)) (s2:List UInt8):Option (List UInt8):=
 (lat l1 i1).bind λe1=>
 (fI e1).bind λr1=>
 (bt s2 r1).bind λs3=>
 self1 s3 (av (i1+1))
def ep (l1:List aC):Nat→(List UInt8)→Int→Option (List UInt8)
 | 0,_,_=>none
 | fuel1+1,s1,i1=>
  if decide (i1<(l1.length:Int))then
   if decide (0<i1)then
    (bt s1 ([44,32]:List UInt8)).bind λs4=>
    iZ l1 i1 (ep l1 fuel1) s4
   else
    iZ l1 i1 (ep l1 fuel1) s1
  else
   some s1
def jS (l1:List aC):Option (List UInt8):=
 ep l1 fu ([]:List UInt8) 0
def mQ (x1:aM):Option (List UInt8):=
 (dH x1.Lin).bind λr1=>
 (gd (!(!r1)) (lm x1.At)).bind λr2=>
 if(!r1)||(!r2)then
  some ([]:List UInt8)
 else
  if decide (x1.From=([]:List UInt8))then
   if decide (0<(x1.At.length:Int))then
    some ([]:List UInt8)
   else
    (fI x1.Lin).bind λr3=>
    some r3
  else
   (eY x1.From).bind λr4=>
   if((!r4)||(!decide (x1.Lin.K=0)))||(decide (0<(x1.Lin.L.length:Int)))then
    some ([]:List UInt8)
   else
    (bt x1.From ([91]:List UInt8)).bind λs1=>
    (jS x1.At).bind λr5=>
    (bt s1 r5).bind λs2=>
    (bt s2 ([93]:List UInt8)).bind λs3=>
    some s3
def m9 (e1:ae) (rec_:(ae→Option (List UInt8))):Option (List UInt8):=
 (lat e1.Args 0).bind λe4=>
 (jB e1.Type_).bind λr6=>
 (bt ([99,97,115,116,40]:List UInt8) r6).bind λs3=>
 (bt s3 ([44,32]:List UInt8)).bind λs4=>
 (rec_ e4).bind λr7=>
 (bt s4 r7).bind λs5=>
 (bt s5 ([41]:List UInt8)).bind λs6=>
 some s6
def jm (e1:ae) (i1:Int) (self1:(List UInt8)→Int→Option (List UInt8)) (s14:List UInt8):Option (List UInt8):=
 (lat e1.Idx i1).bind λe5=>
 (mQ e5).bind λr11=>
 (bt s14 r11).bind λs15=>
 self1 s15 (av (i1+1))
def ef (e1:ae):Nat→(List UInt8)→Int→Option (List UInt8)
 | 0,_,_=>none
 | fuel1+1,s13,i1=>
  if decide (i1<(e1.Idx.length:Int))then
   if decide (0<i1)then
    (bt s13 ([44,32]:List UInt8)).bind λs16=>
    jm e1 i1 (ef e1 fuel1) s16
   else
    jm e1 i1 (ef e1 fuel1) s13
  else
   (bt s13 ([93]:List UInt8)).bind λs17=>
   some s17
def lQ (rec_:(ae→Option (List UInt8))) (e1:ae):Option (List UInt8):=
 (nR e1.Op).bind λr1=>
 if !decide (r1=([]:List UInt8))then
  (lat e1.Args 0).bind λe2=>
  (lat e1.Args 1).bind λe3=>
  (iU e1.Op).bind λr2=>
  (gI rec_ e2 r2).bind λr3=>
  (bt r3 r1).bind λs1=>
  (iU e1.Op).bind λr4=>
  (gI rec_ e3 (av (r4+1))).bind λr5=>
  (bt s1 r5).bind λs2=>
  some s2
 else
  if decide (e1.Op=1)then
   (jB e1.Type_).bind λr8=>
   (bt r8 ([40]:List UInt8)).bind λs7=>
   (l5 e1.Type_ e1.Val).bind λr9=>
   (bt s7 r9).bind λs8=>
   (bt s8 ([41]:List UInt8)).bind λs9=>
   some s9
  else
   if decide (e1.Op=2)then
    (fI e1.Lin).bind λr10=>
    (bt ([91]:List UInt8) r10).bind λs10=>
    (bt s10 ([93]:List UInt8)).bind λs11=>
    some s11
   else
    if decide (e1.Op=3)then
     (bt e1.Name ([91]:List UInt8)).bind λs12=>
     ef e1 fu s12 0
    else
     if decide (e1.Op=8)then
      (lat e1.Args 0).bind λe6=>
      (gI rec_ e6 7).bind λr12=>
      (bt ([45]:List UInt8) r12).bind λs18=>
      some s18
     else
      if decide (e1.Op=18)then
       (lat e1.Args 0).bind λe7=>
       (gI rec_ e7 3).bind λr13=>
       (bt ([33]:List UInt8) r13).bind λs19=>
       some s19
      else
       if decide (e1.Op=9)then
        (lat e1.Args 0).bind λe8=>
        (lat e1.Args 1).bind λe9=>
        (rec_ e8).bind λr14=>
        (bt ([109,105,110,40]:List UInt8) r14).bind λs20=>
        (bt s20 ([44,32]:List UInt8)).bind λs21=>
        (rec_ e9).bind λr15=>
        (bt s21 r15).bind λs22=>
        (bt s22 ([41]:List UInt8)).bind λs23=>
        some s23
       else
        if decide (e1.Op=10)then
         (lat e1.Args 0).bind λe10=>
         (lat e1.Args 1).bind λe11=>
         (rec_ e10).bind λr16=>
         (bt ([109,97,120,40]:List UInt8) r16).bind λs24=>
         (bt s24 ([44,32]:List UInt8)).bind λs25=>
         (rec_ e11).bind λr17=>
         (bt s25 r17).bind λs26=>
         (bt s26 ([41]:List UInt8)).bind λs27=>
         some s27
        else
         if decide (e1.Op=11)then
          (lat e1.Args 0).bind λe12=>
          (lat e1.Args 1).bind λe13=>
          (lat e1.Args 2).bind λe14=>
          (rec_ e12).bind λr18=>
          (bt ([105,102,40]:List UInt8) r18).bind λs28=>
          (bt s28 ([44,32]:List UInt8)).bind λs29=>
          (rec_ e13).bind λr19=>
          (bt s29 r19).bind λs30=>
          (bt s30 ([44,32]:List UInt8)).bind λs31=>
          (rec_ e14).bind λr20=>
          (bt s31 r20).bind λs32=>
          (bt s32 ([41]:List UInt8)).bind λs33=>
          some s33
         else
          m9 e1 rec_
def j7:Nat→(ae→Option (List UInt8))
 | 0=>λ_=>none
 | n+1=>lQ (j7 n)
def sb (e1:ae):Option (List UInt8):=j7 fu e1
def nU (e1:ae):Option (List UInt8):=
 (kh e1).bind λr1=>
 if !decide (r1=0)then
  some ([]:List UInt8)
 else
  (sb e1).bind λr2=>
  some r2
def bV:Nat→(List (List UInt8))→aa→Option (bZ (List (List UInt8)×aa))
 | 0,_,_=>none
 | fuel1+1,lv,r3=>
  (ay r3 [44]).bind λ⟨r4,s2⟩=>
  if r4 then
   pb (bi s2) λ⟨r5,s3⟩=>
   (bt lv ([r5]:List (List UInt8))).bind λzs1=>
   (bV fuel1) zs1 s3
  else
   some (.ret (lv,s2))
def eS (r1:aa):Option (bZ (List (List UInt8)×aa)):=
 pb (bi r1) λ⟨r2,s1⟩=>
 bV fu ([r2]:List (List UInt8)) s1
def cu (r3:Bool) (r4:aa):Option (bZ (aD×aa)):=
 pb (bz r4) λ⟨r5,s2⟩=>
 some (.ret ((⟨r5,r3⟩:aD),s2))
def dM (r2:aa):Option (bZ (aD×aa)):=
 (ay (⟨r2.l,av (r2.at_+1),r2.deep⟩:aa) ([61,61]:List UInt8)).bind λ⟨r3,s1⟩=>
 if !r3 then
  pb (ao s1 [60,61]) λ⟨r6,s3⟩=>
  cu r3 s3
 else
  cu r3 s1
def eI (r1:aa):Option (bZ (aD×aa)):=
 (aY r1 2 [48]).bind λr7=>
 if !r7 then
  pb (bC r1) λ⟨r8,s4⟩=>
  dM s4
 else
  dM r1
def gj (r1:aa):Option (bZ (fE×aa)):=
 pb (bi r1) λ⟨r2,s1⟩=>
 pb (ao s1 [58]) λ⟨r3,s2⟩=>
 pb (dw s2) λ⟨r4,s3⟩=>
 pb (ao s3 [91]) λ⟨r5,s4⟩=>
 pb (eT s4) λ⟨r6,s5⟩=>
 some (.ret ((⟨r2,r4,r6⟩:fE),s5))
def cK:Nat→(List fG)→aa→Option (bZ (List fG×aa))
 | 0,_,_=>none
 | fuel1+1,lv,r2=>
  pb (bi r2) λ⟨r3,s1⟩=>
  pb (ao s1 [60]) λ⟨r4,s2⟩=>
  pb (bz s2) λ⟨r5,s3⟩=>
  (bt lv ([⟨r3,r5⟩]:List fG)).bind λzs1=>
  (ay s3 [44]).bind λ⟨r6,s4⟩=>
  if !r6 then
   some (.ret (zs1,s4))
  else
   (cK fuel1) zs1 s4
def dZ (r1:aa):Option (bZ (List fG×aa)):=
 cK fu ([]:List fG) r1
def eU (r1:aa) (d1:cU):Option (bZ (Unit×aa×cU)):=
 (gd (decide (av (r1.at_+1)<(r1.l.length:Int))) (lat r1.l (av (r1.at_+1)))).bind λe1=>
 (gd ((decide (av (r1.at_+1)<(r1.l.length:Int)))&&(decide (e1.Kind=3))) (lat r1.l (av (r1.at_+1)))).bind λe2=>
 (gd (((decide (av (r1.at_+1)<(r1.l.length:Int)))&&(decide (e1.Kind=3)))&&(decide (e2.Text=([40]:List UInt8)))) (aY r1 1 [109,105,110])).bind λr2=>
 (gd ((((decide (av (r1.at_+1)<(r1.l.length:Int)))&&(decide (e1.Kind=3)))&&(decide (e2.Text=([40]:List UInt8))))&& !r2) (aY r1 1 [109,97,120])).bind λr3=>
 if(((decide (av (r1.at_+1)<(r1.l.length:Int)))&&(decide (e1.Kind=3)))&&(decide (e2.Text=([40]:List UInt8))))&&(r2||r3)then
  some (.ret ((),r1,d1))
 else
  (bh r1 ([[115,117,109],[112,114,111,100],[109,105,110],[109,97,120],[115,99,97,110]]:List (List UInt8))).bind λ⟨r4,s1⟩=>
  if decide (av (r4+1)=0)then
   some (.ret ((),s1,(⟨d1.Name,d1.Type_,d1.Dims,d1.Red,av (r4+1),d1.Body⟩:cU)))
  else
   (aY s1 3 [58]).bind λr5=>
   if !r5 then
    pb (dZ s1) λ⟨r6,s2⟩=>
    pb (ao s2 [58]) λ⟨r7,s3⟩=>
    some (.ret ((),s3,(⟨d1.Name,d1.Type_,d1.Dims,r6,av (r4+1),d1.Body⟩:cU)))
   else
    pb (ao s1 [58]) λ⟨r8,s4⟩=>
    some (.ret ((),s4,(⟨d1.Name,d1.Type_,d1.Dims,d1.Red,av (r4+1),d1.Body⟩:cU)))
def er (r6:aa) (d1:cU):Option (bZ (cU×aa)):=
 pb (ao r6 [93]) λ⟨r7,s5⟩=>
 pb (ao s5 [61]) λ⟨r8,s6⟩=>
 pb (eU s6 d1) λ⟨r9,s7,s8⟩=>
 pb (ii s7) λ⟨r10,s9⟩=>
 (jw r10).bind λr11=>
 if !decide (r11=0)then
  pb (bL s9 s7.at_ r11) λr12=>
  some (.ret ((⟨s8.Name,s8.Type_,s8.Dims,s8.Red,s8.Fold,r10⟩:cU),s9))
 else
  some (.ret ((⟨s8.Name,s8.Type_,s8.Dims,s8.Red,s8.Fold,r10⟩:cU),s9))
def gU (r1:aa):Option (bZ (cU×aa)):=
 pb (bi r1) λ⟨r2,s1⟩=>
 pb (ao s1 [58]) λ⟨r3,s2⟩=>
 pb (dw s2) λ⟨r4,s3⟩=>
 pb (ao s3 [91]) λ⟨r5,s4⟩=>
 (aY s4 3 [93]).bind λr13=>
 if !r13 then
  pb (dZ s4) λ⟨r14,s10⟩=>
  er s10 (⟨r2,r4,r14,[],0,(⟨0,[],⟨0,0⟩,⟨0,0,0,0,0⟩,⟨0,[]⟩,[],[]⟩:ae)⟩:cU)
 else
  er s4 (⟨r2,r4,[],[],0,(⟨0,[],⟨0,0⟩,⟨0,0,0,0,0⟩,⟨0,[]⟩,[],[]⟩:ae)⟩:cU)
def bB (self1:aa→aV→Option (bZ (aV×aa))) (r3:aa) (p2:aV):Option (bZ (aV×aa)):=
 pb (ao r3 [59]) λ⟨r4,s1⟩=>
 self1 s1 p2
def aE:Nat→aa→aV→Option (bZ (aV×aa))
 | 0,_,_=>none
 | fuel1+1,r2,p1=>
  if decide (r2.at_<(r2.l.length:Int))then
   (bh r2 ([[115,105,122,101],[119,104,101,114,101],[105,110],[100,101,102],[111,117,116]]:List (List UInt8))).bind λ⟨r5,s2⟩=>
   if decide (r5=0)then
    pb (eS s2) λ⟨r6,s3⟩=>
    (bt p1.Sizes r6).bind λzs1=>
    bB (aE fuel1) s3 (⟨zs1,p1.Where,p1.Params,p1.Defs,p1.Outs⟩:aV)
   else
    if decide (r5=1)then
     pb (eI s2) λ⟨r7,s4⟩=>
     (bt p1.Where ([r7]:List aD)).bind λzs2=>
     bB (aE fuel1) s4 (⟨p1.Sizes,zs2,p1.Params,p1.Defs,p1.Outs⟩:aV)
    else
     if decide (r5=2)then
      pb (gj s2) λ⟨r8,s5⟩=>
      (bt p1.Params ([r8]:List fE)).bind λzs3=>
      bB (aE fuel1) s5 (⟨p1.Sizes,p1.Where,zs3,p1.Defs,p1.Outs⟩:aV)
     else
      if decide (r5=3)then
       pb (gU s2) λ⟨r9,s6⟩=>
       (bt p1.Defs ([r9]:List cU)).bind λzs4=>
       bB (aE fuel1) s6 (⟨p1.Sizes,p1.Where,p1.Params,zs4,p1.Outs⟩:aV)
      else
       if decide (r5=4)then
        pb (eS s2) λ⟨r10,s7⟩=>
        (bt p1.Outs r10).bind λzs5=>
        bB (aE fuel1) s7 (⟨p1.Sizes,p1.Where,p1.Params,p1.Defs,zs5⟩:aV)
       else
        pb (bC s2) λ⟨r11,s8⟩=>
        bB (aE fuel1) s8 p1
  else
   some (.ret (p1,r2))
def iL (r1:aa):Option (bZ (aV×aa)):=
 aE fu r1 (⟨[],[],[],[],[]⟩:aV)
def kQ (a1:aa) (a3:aV):Option (bZ (Unit×aa×aV)):=
 pb (iL a1) λ⟨r1,s1⟩=>
 some (.ret ((),s1,r1))
def mY (s1:List UInt8):Option (aV×Int×Int):=
 (es s1).bind λr1=>
 if !decide (r1.2.2=0)then
  some ((⟨[],[],[],[],[]⟩:aV),r1.2.1,r1.2.2)
 else
  B2 (kQ (⟨r1.1,0,0⟩:aa) (⟨[],[],[],[],[]⟩:aV)) (λ⟨r2,s2,s3⟩=>
   if !decide (0=0)then
    (lf s1 r1.1 0).bind λr3=>
    some ((⟨[],[],[],[],[]⟩:aV),r3,0)
   else
    some (s3,0,0)) λpa1 pn1=>
   (lf s1 r1.1 pa1).bind λr4=>
   some ((⟨[],[],[],[],[]⟩:aV),r4,pn1)
def gD (a1:List (List UInt8)) (b1:List (List UInt8)):Nat→Int→Option Bool
 | 0,_=>none
 | fuel1+1,i1=>
  if decide (i1<(a1.length:Int))then
   (lat a1 i1).bind λe1=>
   (lat b1 i1).bind λe2=>
   if !decide (e1=e2)then
    some false
   else
    (gD a1 b1 fuel1) (av (i1+1))
  else
   some true
def kA (a1:List (List UInt8)) (b1:List (List UInt8)):Option Bool:=
 if !decide ((a1.length:Int)=(b1.length:Int))then
  some false
 else
  gD a1 b1 fu 0
def sk (a1:aD) (b1:aD):Option Bool:=
 (gd (a1.Eq==b1.Eq) (jf a1.Lin b1.Lin)).bind λr1=>
 some ((a1.Eq==b1.Eq)&&r1)
def jg (a1:List aD) (b1:List aD):Nat→Int→Option Bool
 | 0,_=>none
 | fuel1+1,i1=>
  if decide (i1<(a1.length:Int))then
   (lat a1 i1).bind λe1=>
   (lat b1 i1).bind λe2=>
   (sk e1 e2).bind λr1=>
   if !r1 then
    some false
   else
    (jg a1 b1 fuel1) (av (i1+1))
  else
   some true
def pf (a1:List aD) (b1:List aD):Option Bool:=
 if !decide ((a1.length:Int)=(b1.length:Int))then
  some false
 else
  jg a1 b1 fu 0
def jh (a1:List fG) (b1:List fG):Nat→Int→Option Bool
 | 0,_=>none
 | fuel1+1,i1=>
  if decide (i1<(a1.length:Int))then
   (lat a1 i1).bind λe1=>
   (lat b1 i1).bind λe2=>
   (gd (!(!decide (e1.Name=e2.Name))) (lat a1 i1)).bind λe3=>
   (gd (!(!decide (e1.Name=e2.Name))) (lat b1 i1)).bind λe4=>
   (gd (!(!decide (e1.Name=e2.Name))) (jf e3.Size e4.Size)).bind λr1=>
   if(!decide (e1.Name=e2.Name))||(!r1)then
    some false
   else
    (jh a1 b1 fuel1) (av (i1+1))
  else
   some true
def nF (a1:List fG) (b1:List fG):Option Bool:=
 if !decide ((a1.length:Int)=(b1.length:Int))then
  some false
 else
  jh a1 b1 fu 0
def qm (a1:cU) (b1:cU):Option Bool:=
 (gd (((decide (a1.Name=b1.Name))&&((decide (a1.Type_.Kind=b1.Type_.Kind))&&(decide (a1.Type_.Bits=b1.Type_.Bits))&&(decide (a1.Type_.Frac=b1.Type_.Frac))&&(decide (a1.Type_.Round=b1.Type_.Round))&&(decide (a1.Type_.Over=b1.Type_.Over))))&&(decide (a1.Fold=b1.Fold))) (nF a1.Dims b1.Dims)).bind λr1=>
 (gd ((((decide (a1.Name=b1.Name))&&((decide (a1.Type_.Kind=b1.Type_.Kind))&&(decide (a1.Type_.Bits=b1.Type_.Bits))&&(decide (a1.Type_.Frac=b1.Type_.Frac))&&(decide (a1.Type_.Round=b1.Type_.Round))&&(decide (a1.Type_.Over=b1.Type_.Over))))&&(decide (a1.Fold=b1.Fold)))&&r1) (nF a1.Red b1.Red)).bind λr2=>
 (gd (((((decide (a1.Name=b1.Name))&&((decide (a1.Type_.Kind=b1.Type_.Kind))&&(decide (a1.Type_.Bits=b1.Type_.Bits))&&(decide (a1.Type_.Frac=b1.Type_.Frac))&&(decide (a1.Type_.Round=b1.Type_.Round))&&(decide (a1.Type_.Over=b1.Type_.Over))))&&(decide (a1.Fold=b1.Fold)))&&r1)&&r2) (qT a1.Body b1.Body)).bind λr3=>
 some ((((((decide (a1.Name=b1.Name))&&((decide (a1.Type_.Kind=b1.Type_.Kind))&&(decide (a1.Type_.Bits=b1.Type_.Bits))&&(decide (a1.Type_.Frac=b1.Type_.Frac))&&(decide (a1.Type_.Round=b1.Type_.Round))&&(decide (a1.Type_.Over=b1.Type_.Over))))&&(decide (a1.Fold=b1.Fold)))&&r1)&&r2)&&r3)
def il (a1:aV) (b1:aV):Nat→Int→Option Bool
 | 0,_=>none
 | fuel1+1,i1=>
  if decide (i1<(a1.Defs.length:Int))then
   (lat a1.Defs i1).bind λe1=>
   (lat b1.Defs i1).bind λe2=>
   (qm e1 e2).bind λr4=>
   if !r4 then
    some false
   else
    (il a1 b1 fuel1) (av (i1+1))
  else
   some true
def qk (a1:aV) (b1:aV):Option Bool:=
 il a1 b1 fu 0
def ik (a1:aV) (b1:aV):Nat→Int→Option Bool
 | 0,_=>none
 | fuel2+1,i2=>
  if decide (i2<(a1.Params.length:Int))then
   (lat a1.Params i2).bind λe3=>
   (lat b1.Params i2).bind λe4=>
   (gd (!(!decide (e3.Name=e4.Name))) (lat a1.Params i2)).bind λe5=>
   (gd (!(!decide (e3.Name=e4.Name))) (lat b1.Params i2)).bind λe6=>
   (gd (!((!decide (e3.Name=e4.Name))||(!((decide (e5.Type_.Kind=e6.Type_.Kind))&&(decide (e5.Type_.Bits=e6.Type_.Bits))&&(decide (e5.Type_.Frac=e6.Type_.Frac))&&(decide (e5.Type_.Round=e6.Type_.Round))&&(decide (e5.Type_.Over=e6.Type_.Over)))))) (lat a1.Params i2)).bind λe7=>
   (gd (!((!decide (e3.Name=e4.Name))||(!((decide (e5.Type_.Kind=e6.Type_.Kind))&&(decide (e5.Type_.Bits=e6.Type_.Bits))&&(decide (e5.Type_.Frac=e6.Type_.Frac))&&(decide (e5.Type_.Round=e6.Type_.Round))&&(decide (e5.Type_.Over=e6.Type_.Over)))))) (lat b1.Params i2)).bind λe8=>
   (gd (!((!decide (e3.Name=e4.Name))||(!((decide (e5.Type_.Kind=e6.Type_.Kind))&&(decide (e5.Type_.Bits=e6.Type_.Bits))&&(decide (e5.Type_.Frac=e6.Type_.Frac))&&(decide (e5.Type_.Round=e6.Type_.Round))&&(decide (e5.Type_.Over=e6.Type_.Over)))))) (kG e7.Dims e8.Dims)).bind λr5=>
   if((!decide (e3.Name=e4.Name))||(!((decide (e5.Type_.Kind=e6.Type_.Kind))&&(decide (e5.Type_.Bits=e6.Type_.Bits))&&(decide (e5.Type_.Frac=e6.Type_.Frac))&&(decide (e5.Type_.Round=e6.Type_.Round))&&(decide (e5.Type_.Over=e6.Type_.Over)))))||(!r5)then
    some false
   else
    (ik a1 b1 fuel2) (av (i2+1))
  else
   qk a1 b1
def pd (a1:aV) (b1:aV):Option Bool:=
 (kA a1.Sizes b1.Sizes).bind λr1=>
 (gd (!(!r1)) (pf a1.Where b1.Where)).bind λr2=>
 (gd (!((!r1)||(!r2))) (kA a1.Outs b1.Outs)).bind λr3=>
 if((((!r1)||(!r2))||(!r3))||(!decide ((a1.Params.length:Int)=(b1.Params.length:Int))))||(!decide ((a1.Defs.length:Int)=(b1.Defs.length:Int)))then
  some false
 else
  ik a1 b1 fu 0
def gh (l1:aC):Nat→Int→Option Bool
 | 0,_=>none
 | fuel1+1,i1=>
  if decide (i1<(l1.L.length:Int))then
   (lat l1.L i1).bind λe1=>
   if decide (40<(e1.Name.length:Int))then
    some false
   else
    (gh l1 fuel1) (av (i1+1))
  else
   some true
def mV (l1:aC):Option Bool:=
 if decide (40<(l1.L.length:Int))then
  some false
 else
  gh l1 fu 0
def gg (l1:List aC):Nat→Int→Option Bool
 | 0,_=>none
 | fuel1+1,i1=>
  if decide (i1<(l1.length:Int))then
   (lat l1 i1).bind λe1=>
   (mV e1).bind λr1=>
   if !r1 then
    some false
   else
    (gg l1 fuel1) (av (i1+1))
  else
   some true
def mO (l1:List aC):Option Bool:=
 if decide (20<(l1.length:Int))then
  some false
 else
  gg l1 fu 0
def j9 (d1:cU):Option Bool:=
 (mP d1.Body).bind λr1=>
 some ((r1&&(decide ((d1.Dims.length:Int)≤20)))&&(decide ((d1.Red.length:Int)≤20)))
def eV (p1:aV):Nat→Int→Option Bool
 | 0,_=>none
 | fuel1+1,i1=>
  if decide (i1<(p1.Defs.length:Int))then
   (lat p1.Defs i1).bind λe1=>
   (j9 e1).bind λr1=>
   if !r1 then
    some false
   else
    (eV p1 fuel1) (av (i1+1))
  else
   some true
def ig (p1:aV):Option Bool:=
 eV p1 fu 0
def dS (p1:aV):Nat→Int→Option Bool
 | 0,_=>none
 | fuel2+1,i2=>
  if decide (i2<(p1.Params.length:Int))then
   (lat p1.Params i2).bind λe2=>
   (mO e2.Dims).bind λr2=>
   if !r2 then
    some false
   else
    (dS p1 fuel2) (av (i2+1))
  else
   ig p1
def jC (p1:aV):Option Bool:=
 if((((decide (20<(p1.Sizes.length:Int)))||(decide (20<(p1.Where.length:Int))))||(decide (20<(p1.Params.length:Int))))||(decide (20<(p1.Defs.length:Int))))||(decide (20<(p1.Outs.length:Int)))then
  some false
 else
  dS p1 fu 0
def j8 (l1:List (List UInt8)) (i1:Int) (self1:(List UInt8)→Int→Option (List UInt8×Bool)) (s2:List UInt8):Option (List UInt8×Bool):=
 (lat l1 i1).bind λe2=>
 (bt s2 e2).bind λs3=>
 self1 s3 (av (i1+1))
def eo (l1:List (List UInt8)):Nat→(List UInt8)→Int→Option (List UInt8×Bool)
 | 0,_,_=>none
 | fuel1+1,s1,i1=>
  if decide (i1<(l1.length:Int))then
   (lat l1 i1).bind λe1=>
   (eY e1).bind λr1=>
   if !r1 then
    some (([]:List UInt8),false)
   else
    if decide (0<i1)then
     (bt s1 ([44,32]:List UInt8)).bind λs4=>
     j8 l1 i1 (eo l1 fuel1) s4
    else
     j8 l1 i1 (eo l1 fuel1) s1
  else
   some (s1,true)
def jR (l1:List (List UInt8)):Option (List UInt8×Bool):=
 eo l1 fu ([]:List UInt8) 0
def gY (c1:aD):Option Int:=
 (dH c1.Lin).bind λr1=>
 if !r1 then
  some 1
 else
  some 0
def lZ (c1:aD):Option (List UInt8):=
 (gY c1).bind λr1=>
 if !decide (r1=0)then
  some ([]:List UInt8)
 else
  if c1.Eq then
   (fI c1.Lin).bind λr2=>
   (bt ([48,32,61,61,32]:List UInt8) r2).bind λs1=>
   some s1
  else
   (fI c1.Lin).bind λr3=>
   (bt ([48,32,60,61,32]:List UInt8) r3).bind λs2=>
   some s2
def kZ (l1:List fG) (i1:Int) (self1:(List UInt8)→Int→Option (List UInt8×Bool)) (s2:List UInt8):Option (List UInt8×Bool):=
 (lat l1 i1).bind λe3=>
 (bt s2 e3.Name).bind λs3=>
 (bt s3 ([32,60,32]:List UInt8)).bind λs4=>
 (lat l1 i1).bind λe4=>
 (fI e4.Size).bind λr3=>
 (bt s4 r3).bind λs5=>
 self1 s5 (av (i1+1))
def fc (l1:List fG):Nat→(List UInt8)→Int→Option (List UInt8×Bool)
 | 0,_,_=>none
 | fuel1+1,s1,i1=>
  if decide (i1<(l1.length:Int))then
   (lat l1 i1).bind λe1=>
   (eY e1.Name).bind λr1=>
   (gd (!(!r1)) (lat l1 i1)).bind λe2=>
   (gd (!(!r1)) (dH e2.Size)).bind λr2=>
   if(!r1)||(!r2)then
    some (([]:List UInt8),false)
   else
    if decide (0<i1)then
     (bt s1 ([44,32]:List UInt8)).bind λs6=>
     kZ l1 i1 (fc l1 fuel1) s6
    else
     kZ l1 i1 (fc l1 fuel1) s1
  else
   some (s1,true)
def mm (l1:List fG):Option (List UInt8×Bool):=
 fc l1 fu ([]:List UInt8) 0
def nQ (fold1:Int):Option (List UInt8):=
 if decide (fold1=1)then
  some ([115,117,109]:List UInt8)
 else
  if decide (fold1=2)then
   some ([112,114,111,100]:List UInt8)
  else
   if decide (fold1=3)then
    some ([109,105,110]:List UInt8)
   else
    if decide (fold1=4)then
     some ([109,97,120]:List UInt8)
    else
     some ([115,99,97,110]:List UInt8)
def o9 (d1:cU):Option (List UInt8):=
 (mm d1.Dims).bind λr1=>
 (mm d1.Red).bind λr2=>
 (nU d1.Body).bind λr3=>
 (gd (!(((!r1.2)||(!r2.2))||(decide (r3=([]:List UInt8))))) (eY d1.Name)).bind λr4=>
 (gd (!((((!r1.2)||(!r2.2))||(decide (r3=([]:List UInt8))))||(!r4))) (jH d1.Type_)).bind λr5=>
 if((((((!r1.2)||(!r2.2))||(decide (r3=([]:List UInt8))))||(!r4))||(!r5))||(decide (d1.Fold<0)))||(decide (5<d1.Fold))then
  some ([]:List UInt8)
 else
  if(decide (0<(d1.Red.length:Int)))&&((decide (d1.Fold=0))||(decide (d1.Fold=5)))then
   some ([]:List UInt8)
  else
   (bt ([100,101,102,32]:List UInt8) d1.Name).bind λs1=>
   (bt s1 ([58,32]:List UInt8)).bind λs2=>
   (jB d1.Type_).bind λr6=>
   (bt s2 r6).bind λs3=>
   (bt s3 ([91]:List UInt8)).bind λs4=>
   (bt s4 r1.1).bind λs5=>
   (bt s5 ([93,32,61,32]:List UInt8)).bind λs6=>
   if !decide (d1.Fold=0)then
    (nQ d1.Fold).bind λr7=>
    (bt s6 r7).bind λs7=>
    if decide (0<(d1.Red.length:Int))then
     (bt s7 ([32]:List UInt8)).bind λs8=>
     (bt s8 r2.1).bind λs9=>
     (bt s9 ([58,32]:List UInt8)).bind λs10=>
     (bt s10 r3).bind λs11=>
     (bt s11 ([59]:List UInt8)).bind λs12=>
     some s12
    else
     (bt s7 ([58,32]:List UInt8)).bind λs13=>
     (bt s13 r3).bind λs14=>
     (bt s14 ([59]:List UInt8)).bind λs15=>
     some s15
   else
    (bt s6 r3).bind λs16=>
    (bt s16 ([59]:List UInt8)).bind λs17=>
    some s17
def k7 (p1:aV) (r2:List UInt8×Bool) (s4:List UInt8):Option (List UInt8):=
 if decide (0<(p1.Outs.length:Int))then
  (bt s4 ([111,117,116,32]:List UInt8)).bind λs5=>
  (bt s5 r2.1).bind λs6=>
  (bt s6 ([59,10]:List UInt8)).bind λs7=>
  some s7
 else
  some s4
def eh (p1:aV) (r2:List UInt8×Bool):Nat→(List UInt8)→Int→Option (List UInt8)
 | 0,_,_=>none
 | fuel1+1,s8,i1=>
  if decide (i1<(p1.Defs.length:Int))then
   (lat p1.Defs i1).bind λe1=>
   (o9 e1).bind λr3=>
   if decide (r3=([]:List UInt8))then
    some ([]:List UInt8)
   else
    (bt s8 r3).bind λs9=>
    (bt s9 ([10]:List UInt8)).bind λs10=>
    (eh p1 r2 fuel1) s10 (av (i1+1))
  else
   k7 p1 r2 s8
def pu (p1:aV) (r2:List UInt8×Bool) (s3:List UInt8):Option (List UInt8):=
 eh p1 r2 fu s3 0
def eg (p1:aV) (r2:List UInt8×Bool):Nat→(List UInt8)→Int→Option (List UInt8)
 | 0,_,_=>none
 | fuel2+1,s11,i2=>
  if decide (i2<(p1.Params.length:Int))then
   (lat p1.Params i2).bind λe2=>
   (eY e2.Name).bind λr4=>
   (gd (!(!r4)) (jH e2.Type_)).bind λr5=>
   (gd (!((!r4)||(!r5))) (lm e2.Dims)).bind λr6=>
   if((!r4)||(!r5))||(!r6)then
    some ([]:List UInt8)
   else
    (bt s11 ([105,110,32]:List UInt8)).bind λs12=>
    (bt s12 e2.Name).bind λs13=>
    (bt s13 ([58,32]:List UInt8)).bind λs14=>
    (jB e2.Type_).bind λr7=>
    (bt s14 r7).bind λs15=>
    (bt s15 ([91]:List UInt8)).bind λs16=>
    (jS e2.Dims).bind λr8=>
    (bt s16 r8).bind λs17=>
    (bt s17 ([93,59,10]:List UInt8)).bind λs18=>
    (eg p1 r2 fuel2) s18 (av (i2+1))
  else
   pu p1 r2 s11
def pv (p1:aV) (r2:List UInt8×Bool) (s2:List UInt8):Option (List UInt8):=
 eg p1 r2 fu s2 0
def fe (p1:aV) (r2:List UInt8×Bool):Nat→(List UInt8)→Int→Option (List UInt8)
 | 0,_,_=>none
 | fuel3+1,s19,i3=>
  if decide (i3<(p1.Where.length:Int))then
   (lat p1.Where i3).bind λe3=>
   (gY e3).bind λr9=>
   if !decide (r9=0)then
    some ([]:List UInt8)
   else
    (bt s19 ([119,104,101,114,101,32]:List UInt8)).bind λs20=>
    (lat p1.Where i3).bind λe4=>
    (lZ e4).bind λr10=>
    (bt s20 r10).bind λs21=>
    (bt s21 ([59,10]:List UInt8)).bind λs22=>
    (fe p1 r2 fuel3) s22 (av (i3+1))
  else
   pv p1 r2 s19
def k8 (p1:aV) (r2:List UInt8×Bool) (s1:List UInt8):Option (List UInt8):=
 fe p1 r2 fu s1 0
def nT (p1:aV):Option (List UInt8):=
 (jR p1.Sizes).bind λr1=>
 (jR p1.Outs).bind λr2=>
 if(!r1.2)||(!r2.2)then
  some ([]:List UInt8)
 else
  if decide (0<(p1.Sizes.length:Int))then
   (bt ([115,105,122,101,32]:List UInt8) r1.1).bind λs23=>
   (bt s23 ([59,10]:List UInt8)).bind λs24=>
   k8 p1 r2 s24
  else
   k8 p1 r2 ([]:List UInt8)
def gB (p1:aV):Option Bool:=
 (jC p1).bind λr1=>
 if !r1 then
  (i8).bind λr2=>
  some r2
 else
  (nT p1).bind λr3=>
  if(decide (r3=([]:List UInt8)))||(decide (20000<(r3.length:Int)))then
   (i8).bind λr4=>
   some r4
  else
   (mY r3).bind λr5=>
   (gd ((decide (r5.2.2=0))&&(decide (r5.2.1=0))) (pd p1 r5.1)).bind λr6=>
   (gd (((decide (r5.2.2=0))&&(decide (r5.2.1=0)))&&r6) (i8)).bind λr7=>
   some ((((decide (r5.2.2=0))&&(decide (r5.2.1=0)))&&r6)&&r7)
end Go.Proofs.YtmhoikfoogemnaaGreatDoor
