import Derived.Test.YtmhoikfoogemnaaGreatDoorSXm
namespace Go.Proofs.YtmhoikfoogemnaaGreatDoor
open Go Go.RowKit Go.Vc
set_option linter.unusedVariables false
set_option linter.unusedSimpArgs false
structure GToken where
 Kind : Int
 At : Int
 Text : List UInt8
deriving Inhabited, DecidableEq
def cGToken : Cod GToken where
 n := 3
 rel _ _ x cs := cs = [(Value.int .i64 x.Kind), (Value.int .i64 x.At), (str x.Text)]
 len h := by subst h; rfl
 one h := by subst h; rfl
 sp _ h := h
structure Gparser_reader where
 l : List GToken
 at_ : Int
 deep : Int
deriving Inhabited, DecidableEq
def fnP_k1 (v : Value) (m : (Int → Option Bool)) (D : NP) (w : World) : Prop :=
 isFn v = true ∧ ∀ (D' : NP) (w' : World), Sp D w D' w' → (∀ k, D' k → k < w'.heap.size) → ∀ (x_1 : Int) (r : Bool), AllCl [] D' w' → m x_1 = some r →
  CallV Tryz.prog v [(Value.int .i32 x_1)] w' fun e w'' => e = .returned (Value.bool r) ∧ Ext w' w'' ∧ AllCl [] D' w''
theorem fnP_k1.sp {v : Value} {m : (Int → Option Bool)} {D D' : NP} {w w' : World} (hs : Sp D w D' w') (h : fnP_k1 v m D w) : fnP_k1 v m D' w' := ⟨h.1, fun D'' w'' hs' => h.2 D'' w'' (hs.trans hs')⟩
def clFn_k1 (v : Value) (m : (Int → Option Bool)) : Cl := ⟨fnP_k1 v m, fnP_k1.sp⟩
structure GMono where
 Name : List UInt8
 By : Int
deriving Inhabited, DecidableEq
def cGMono : Cod GMono where
 n := 2
 rel _ _ x cs := cs = [(str x.Name), (Value.int .i64 x.By)]
 len h := by subst h; rfl
 one h := by subst h; rfl
 sp _ h := h
structure GLin where
 K : Int
 L : List GMono
deriving Inhabited, DecidableEq
def cGLin : Cod GLin where
 n := 2
 rel D w x cs := ∃ (A0 : Option Addr) (c0 : Nat), cs = [(Value.int .i64 x.K), (Value.slice A0 x.L.length c0)] ∧ SlC cGMono D w A0 c0 x.L
 len h := by obtain ⟨_, _, rfl, _⟩ := h; rfl
 one h := by obtain ⟨A0, c0, rfl, h0⟩ := h; rfl
 sp hs h := by obtain ⟨A0, c0, rfl, h0⟩ := h; exact ⟨_, _, rfl, h0.sp hs⟩
def fnS_k2 {σ : Type} (I : StI σ) (v : Value) (m : ((List UInt8) → Int → Int → σ → Option (Unit × σ))) (D : NP) (w : World) : Prop :=
 isFn v = true ∧ ∀ (C0 F : NP) (w' : World), Sp D w (Dj F C0) w' → ∀ (x_1 : List UInt8) (x_2 : Int) (x_3 : Int) (s : σ) (r : Unit × σ), Bun C0 F w' C0 w' [MO.st I s] [] → m x_1 x_2 x_3 s = some r →
  CallV Tryz.prog v [(str x_1), (Value.int .i64 x_2), (Value.int .i64 x_3)] w' fun e w'' => ∃  (C : NP), e = .returned (Value.tuple #[]) ∧ Bun C0 F w' C w'' [MO.st I r.2] []
theorem fnS_k2.sp {σ : Type} {I : StI σ} {v : Value} {m : ((List UInt8) → Int → Int → σ → Option (Unit × σ))} {D D' : NP} {w w' : World} (hs : Sp D w D' w') (h : fnS_k2 I v m D w) : fnS_k2 I v m D' w' := ⟨h.1, fun C0 F w'' hs' => h.2 C0 F w'' (hs.trans hs')⟩
def clFnS_k2 {σ : Type} (I : StI σ) (v : Value) (m : ((List UInt8) → Int → Int → σ → Option (Unit × σ))) : Cl := ⟨fnS_k2 I v m, fnS_k2.sp⟩
structure GType where
 Kind : Int
 Bits : Int
 Frac : Int
 Round : Int
 Over : Int
deriving Inhabited, DecidableEq
structure GVal where
 N : Int
 D : Int
deriving Inhabited, DecidableEq
structure GIndex where
 Lin : GLin
 From : List UInt8
 At : List GLin
deriving Inhabited, DecidableEq
def cGIndex : Cod GIndex where
 n := 4
 rel D w x cs := ∃ (A0 : Option Addr) (c0 : Nat) (A2 : Option Addr) (c2 : Nat), cs = [(Value.int .i64 x.Lin.K), (Value.slice A0 x.Lin.L.length c0), (str x.From), (Value.slice A2 x.At.length c2)] ∧ SlC cGMono D w A0 c0 x.Lin.L ∧ SlC cGLin D w A2 c2 x.At
 len h := by obtain ⟨_, _, _, _, rfl, _, _⟩ := h; rfl
 one h := by obtain ⟨A0, c0, A2, c2, rfl, h0, h1⟩ := h; rfl
 sp hs h := by obtain ⟨A0, c0, A2, c2, rfl, h0, h1⟩ := h; exact ⟨_, _, _, _, rfl, h0.sp hs, h1.sp hs⟩
structure GExpr where
 Op : Int
 Name : List UInt8
 Val : GVal
 Type_ : GType
 Lin : GLin
 Idx : List GIndex
 Args : List GExpr
instance : Inhabited GExpr := ⟨⟨0, [], default, default, default, [], []⟩⟩
def cGExprS (c : Cod GExpr) : Cod GExpr where
 n := 13
 rel D w x cs := ∃ (A0 : Option Addr) (c0 : Nat) (A2 : Option Addr) (c2 : Nat) (A4 : Option Addr) (c4 : Nat), cs = [(Value.int .i64 x.Op), (str x.Name), (Value.int .i64 x.Val.N), (Value.int .i64 x.Val.D), (Value.int .i64 x.Type_.Kind), (Value.int .i64 x.Type_.Bits), (Value.int .i64 x.Type_.Frac), (Value.int .i64 x.Type_.Round), (Value.int .i64 x.Type_.Over), (Value.int .i64 x.Lin.K), (Value.slice A0 x.Lin.L.length c0), (Value.slice A2 x.Idx.length c2), (Value.slice A4 x.Args.length c4)] ∧ SlC cGMono D w A0 c0 x.Lin.L ∧ SlC cGIndex D w A2 c2 x.Idx ∧ SlC c D w A4 c4 x.Args
 len h := by obtain ⟨_, _, _, _, _, _, rfl, _, _, _⟩ := h; rfl
 one h := by obtain ⟨A0, c0, A2, c2, A4, c4, rfl, h0, h1, h2⟩ := h; rfl
 sp hs h := by obtain ⟨A0, c0, A2, c2, A4, c4, rfl, h0, h1, h2⟩ := h; exact ⟨_, _, _, _, _, _, rfl, h0.sp hs, h1.sp hs, h2.sp hs⟩
theorem cGExprS_mono {c c' : Cod GExpr} (hm : ∀ D w x cs, c.rel D w x cs → c'.rel D w x cs) : ∀ D w x cs, (cGExprS c).rel D w x cs → (cGExprS c').rel D w x cs := fun D w x cs h => by
 obtain ⟨A0, c0, A2, c2, A4, c4, rfl, h0, h1, h2⟩ := h; exact ⟨_, _, _, _, _, _, rfl, h0, h1, h2.mono hm⟩
def cGExpr : Cod GExpr := Cod.fix cGExprS 13 (fun _ => rfl)
theorem cGExpr_out {D : NP} {w : World} {x : GExpr} {cs : List Value} (h : cGExpr.rel D w x cs) : (cGExprS cGExpr).rel D w x cs := by
 obtain ⟨k, hk⟩ := h
 cases k with
 | zero => exact False.elim hk
 | succ k => exact cGExprS_mono (c := itC cGExprS 13 k) (c' := cGExpr) (fun _ _ _ _ h => ⟨k, h⟩) _ _ _ _ hk
theorem cGExpr_in {D : NP} {w : World} {x : GExpr} {cs : List Value} (h : (cGExprS cGExpr).rel D w x cs) : cGExpr.rel D w x cs := by
 obtain ⟨A0, c0, A2, c2, A4, c4, rfl, h0, h1, h2⟩ := h
 obtain ⟨k, hk⟩ := h2.fix_out cGExprS_mono
 exact ⟨k + 1, _, _, _, _, _, _, rfl, h0, h1, hk⟩
def fnS_k5 {σ : Type} (I : StI σ) (v : Value) (m : (GExpr → σ → Option (Bool × σ))) (D : NP) (w : World) : Prop :=
 isFn v = true ∧ ∀ (C0 F : NP) (w' : World), Sp D w (Dj F C0) w' → ∀ (x_1 : GExpr) (A_2 : Option Addr) (c_3 : Nat) (A_4 : Option Addr) (c_5 : Nat) (A_6 : Option Addr) (c_7 : Nat) (s : σ) (r : Bool × σ), Bun C0 F w' C0 w' [MO.st I s] [Cl.sl cGMono A_2 c_3 x_1.Lin.L, Cl.sl cGIndex A_4 c_5 x_1.Idx, Cl.sl cGExpr A_6 c_7 x_1.Args] → m x_1 s = some r →
  CallV Tryz.prog v [(Value.agg #[(Value.int .i64 x_1.Op), (str x_1.Name), (Value.int .i64 x_1.Val.N), (Value.int .i64 x_1.Val.D), (Value.int .i64 x_1.Type_.Kind), (Value.int .i64 x_1.Type_.Bits), (Value.int .i64 x_1.Type_.Frac), (Value.int .i64 x_1.Type_.Round), (Value.int .i64 x_1.Type_.Over), (Value.int .i64 x_1.Lin.K), (Value.slice A_2 x_1.Lin.L.length c_3), (Value.slice A_4 x_1.Idx.length c_5), (Value.slice A_6 x_1.Args.length c_7)])] w' fun e w'' => ∃  (C : NP), e = .returned (Value.bool r.1) ∧ Bun C0 F w' C w'' [MO.st I r.2] []
theorem fnS_k5.sp {σ : Type} {I : StI σ} {v : Value} {m : (GExpr → σ → Option (Bool × σ))} {D D' : NP} {w w' : World} (hs : Sp D w D' w') (h : fnS_k5 I v m D w) : fnS_k5 I v m D' w' := ⟨h.1, fun C0 F w'' hs' => h.2 C0 F w'' (hs.trans hs')⟩
def clFnS_k5 {σ : Type} (I : StI σ) (v : Value) (m : (GExpr → σ → Option (Bool × σ))) : Cl := ⟨fnS_k5 I v m, fnS_k5.sp⟩
def fnP_k6 (v : Value) (m : (GIndex → Option Bool)) (D : NP) (w : World) : Prop :=
 isFn v = true ∧ ∀ (D' : NP) (w' : World), Sp D w D' w' → (∀ k, D' k → k < w'.heap.size) → ∀ (x_1 : GIndex) (A_2 : Option Addr) (c_3 : Nat) (A_4 : Option Addr) (c_5 : Nat) (r : Bool), AllCl [Cl.sl cGMono A_2 c_3 x_1.Lin.L, Cl.sl cGLin A_4 c_5 x_1.At] D' w' → m x_1 = some r →
  CallV Tryz.prog v [(Value.agg #[(Value.int .i64 x_1.Lin.K), (Value.slice A_2 x_1.Lin.L.length c_3), (str x_1.From), (Value.slice A_4 x_1.At.length c_5)])] w' fun e w'' => e = .returned (Value.bool r) ∧ Ext w' w'' ∧ AllCl [] D' w''
theorem fnP_k6.sp {v : Value} {m : (GIndex → Option Bool)} {D D' : NP} {w w' : World} (hs : Sp D w D' w') (h : fnP_k6 v m D w) : fnP_k6 v m D' w' := ⟨h.1, fun D'' w'' hs' => h.2 D'' w'' (hs.trans hs')⟩
def clFn_k6 (v : Value) (m : (GIndex → Option Bool)) : Cl := ⟨fnP_k6 v m, fnP_k6.sp⟩
def fnS_k7 {σ : Type} (I : StI σ) (v : Value) (m : (GLin → σ → Option (Bool × σ))) (D : NP) (w : World) : Prop :=
 isFn v = true ∧ ∀ (C0 F : NP) (w' : World), Sp D w (Dj F C0) w' → ∀ (x_1 : GLin) (A_2 : Option Addr) (c_3 : Nat) (s : σ) (r : Bool × σ), Bun C0 F w' C0 w' [MO.st I s] [Cl.sl cGMono A_2 c_3 x_1.L] → m x_1 s = some r →
  CallV Tryz.prog v [(Value.agg #[(Value.int .i64 x_1.K), (Value.slice A_2 x_1.L.length c_3)])] w' fun e w'' => ∃  (C : NP), e = .returned (Value.bool r.1) ∧ Bun C0 F w' C w'' [MO.st I r.2] []
theorem fnS_k7.sp {σ : Type} {I : StI σ} {v : Value} {m : (GLin → σ → Option (Bool × σ))} {D D' : NP} {w w' : World} (hs : Sp D w D' w') (h : fnS_k7 I v m D w) : fnS_k7 I v m D' w' := ⟨h.1, fun C0 F w'' hs' => h.2 C0 F w'' (hs.trans hs')⟩
def clFnS_k7 {σ : Type} (I : StI σ) (v : Value) (m : (GLin → σ → Option (Bool × σ))) : Cl := ⟨fnS_k7 I v m, fnS_k7.sp⟩
structure Gbrocaderef16_State where
 L : List GToken
 At : Int
 Deep : Int
 E : Int
 Pos : Int
deriving Inhabited, DecidableEq
structure GAxis where
 Name : List UInt8
 Size : GLin
deriving Inhabited, DecidableEq
structure GDef where
 Name : List UInt8
 Type_ : GType
 Dims : List GAxis
 Red : List GAxis
 Fold : Int
 Body : GExpr
deriving Inhabited
def m_law16_few_l1 (l1 : List GToken) : Nat → Int → Option Bool
 | 0, _ => none
 | fuel1 + 1, i1 =>
  if decide (i1 < (l1.length : Int)) then
   (lat l1 i1).bind fun e1 =>
   if decide (100 < (e1.Text.length : Int)) then
    some false
   else
    (m_law16_few_l1 l1 fuel1) (wi64 (i1 + 1))
  else
   some true
def m_law16_few (l1 : List GToken) (most1 : Int) : Option Bool :=
 if decide (most1 < (l1.length : Int)) then
  some false
 else
  m_law16_few_l1 l1 fu 0
def m_ref13_Space (c1 : Int) : Option Bool :=
 some ((((decide (c1 = 9)) || (decide (c1 = 10))) || (decide (c1 = 13))) || (decide (c1 = 32)))
def m_ref13_Skip_l2 (s1 : List UInt8) (self1 : Int → Option Int) : Nat → Int → Option Int
 | 0, _ => none
 | fuel2 + 1, at3 =>
  (gd (decide (at3 < (s1.length : Int))) (sat s1 at3)).bind fun b3 =>
  if (decide (at3 < (s1.length : Int))) && (!decide (b3 = 10)) then
   (m_ref13_Skip_l2 s1 self1 fuel2) (wi64 (at3 + 1))
  else
   self1 at3
def m_ref13_Skip_l1 (s1 : List UInt8) : Nat → Int → Option Int
 | 0, _ => none
 | fuel1 + 1, at2 =>
  if decide (at2 < (s1.length : Int)) then
   (sat s1 at2).bind fun b1 =>
   (m_ref13_Space b1).bind fun r1 =>
   if r1 then
    (m_ref13_Skip_l1 s1 fuel1) (wi64 (at2 + 1))
   else
    (sat s1 at2).bind fun b2 =>
    if decide (b2 = 35) then
     m_ref13_Skip_l2 s1 (m_ref13_Skip_l1 s1 fuel1) fu at2
    else
     some at2
  else
   some at2
def m_ref13_Skip (s1 : List UInt8) (at1 : Int) : Option Int :=
 m_ref13_Skip_l1 s1 fu at1
def m_ref13_letter (c1 : Int) : Option Bool :=
 some ((decide (97 ≤ c1)) && (decide (c1 ≤ 122)))
def m_ref13_digit (c1 : Int) : Option Bool :=
 some ((decide (48 ≤ c1)) && (decide (c1 ≤ 57)))
def m_ref13_run_l1 (s1 : List UInt8) (kind1 : Int) : Nat → Int → Option (Int × Int)
 | 0, _ => none
 | fuel1 + 1, n1 =>
  (gd (decide (n1 < (s1.length : Int))) (sat s1 n1)).bind fun b3 =>
  (gd (decide (n1 < (s1.length : Int))) (m_ref13_digit b3)).bind fun r3 =>
  (gd (((decide (n1 < (s1.length : Int))) && !r3) && (decide (kind1 = 1))) (sat s1 n1)).bind fun b4 =>
  (gd (((decide (n1 < (s1.length : Int))) && !r3) && (decide (kind1 = 1))) (m_ref13_letter b4)).bind fun r4 =>
  (gd ((((decide (n1 < (s1.length : Int))) && !r3) && (decide (kind1 = 1))) && !r4) (sat s1 n1)).bind fun b5 =>
  if (decide (n1 < (s1.length : Int))) && (r3 || ((decide (kind1 = 1)) && (r4 || (decide (b5 = 95))))) then
   (m_ref13_run_l1 s1 kind1 fuel1) (wi64 (n1 + 1))
  else
   some (n1, kind1)
def m_ref13_run_j1 (s1 : List UInt8) (kind1 : Int) : Option (Int × Int) :=
 m_ref13_run_l1 s1 kind1 fu 0
def m_ref13_run (s1 : List UInt8) : Option (Int × Int) :=
 (gd (!(decide (s1 = ([] : List UInt8)))) (sat s1 0)).bind fun b1 =>
 (gd (!(decide (s1 = ([] : List UInt8)))) (m_ref13_letter b1)).bind fun r1 =>
 (gd ((!(decide (s1 = ([] : List UInt8)))) && (!r1)) (sat s1 0)).bind fun b2 =>
 (gd ((!(decide (s1 = ([] : List UInt8)))) && (!r1)) (m_ref13_digit b2)).bind fun r2 =>
 if (decide (s1 = ([] : List UInt8))) || ((!r1) && (!r2)) then
  some (0, 0)
 else
  (sat s1 0).bind fun b6 =>
  (m_ref13_letter b6).bind fun r5 =>
  if r5 then
   m_ref13_run_j1 s1 1
  else
   m_ref13_run_j1 s1 2
def m_ref13_Symbols : Option (List (List UInt8)) :=
 some ([([60, 61] : List UInt8), ([61, 61] : List UInt8), ([40] : List UInt8), ([41] : List UInt8), ([91] : List UInt8), ([93] : List UInt8), ([123] : List UInt8), ([125] : List UInt8), ([44] : List UInt8), ([59] : List UInt8), ([58] : List UInt8), ([43] : List UInt8), ([45] : List UInt8), ([42] : List UInt8), ([47] : List UInt8), ([60] : List UInt8), ([61] : List UInt8), ([38] : List UInt8), ([124] : List UInt8), ([33] : List UInt8), ([46] : List UInt8), ([64] : List UInt8)] : List (List UInt8))
def m_ref13_symbol_l1 (r1 : List (List UInt8)) (s1 : List UInt8) : Nat → Int → Option Int
 | 0, _ => none
 | fuel1 + 1, i1 =>
  if decide (i1 < (r1.length : Int)) then
   (lat r1 i1).bind fun e1 =>
   (gd (decide ((e1.length : Int) ≤ (s1.length : Int))) (lat r1 i1)).bind fun e2 =>
   (gd (decide ((e1.length : Int) ≤ (s1.length : Int))) (lupto s1 (e2.length : Int))).bind fun s2 =>
   (gd (decide ((e1.length : Int) ≤ (s1.length : Int))) (lat r1 i1)).bind fun e3 =>
   if (decide ((e1.length : Int) ≤ (s1.length : Int))) && (decide (s2 = e3)) then
    (lat r1 i1).bind fun e4 =>
    some (e4.length : Int)
   else
    (m_ref13_symbol_l1 r1 s1 fuel1) (wi64 (i1 + 1))
  else
   some 0
def m_ref13_symbol (s1 : List UInt8) : Option Int :=
 (m_ref13_Symbols).bind fun r1 =>
 m_ref13_symbol_l1 r1 s1 fu 0
def m_ref13_Tokenize_j1 (at1 : Int) (s1 : List UInt8) (out1 : List GToken) (self1 : (List GToken) → Int → Option (List GToken × Int × Int)) (n1 : Int) (kind1 : Int) : Option (List GToken × Int × Int) :=
 if decide (n1 = 0) then
  some (([] : List GToken), at1, 5)
 else
  if (decide (kind1 = 1)) && (decide (16 < n1)) then
   some (([] : List GToken), at1, 2)
  else
   (lsub s1 at1 (wi64 (at1 + n1))).bind fun s3 =>
   (lapp out1 ([(⟨kind1, at1, s3⟩ : GToken)] : List GToken)).bind fun zs1 =>
   (m_ref13_Skip s1 (wi64 (at1 + n1))).bind fun r3 =>
   self1 zs1 r3
def m_ref13_Tokenize_l1 (s1 : List UInt8) : Nat → (List GToken) → Int → Option (List GToken × Int × Int)
 | 0, _, _ => none
 | fuel1 + 1, out1, at1 =>
  if decide (at1 < (s1.length : Int)) then
   (lfrom s1 at1).bind fun s2 =>
   (m_ref13_run s2).bind fun r2 =>
   if decide (r2.1 = 0) then
    (lfrom s1 at1).bind fun s4 =>
    (m_ref13_symbol s4).bind fun r4 =>
    m_ref13_Tokenize_j1 at1 s1 out1 (m_ref13_Tokenize_l1 s1 fuel1) r4 3
   else
    m_ref13_Tokenize_j1 at1 s1 out1 (m_ref13_Tokenize_l1 s1 fuel1) r2.1 r2.2
  else
   some (out1, 0, 0)
def m_ref13_Tokenize (s1 : List UInt8) : Option (List GToken × Int × Int) :=
 if decide (65536 < (s1.length : Int)) then
  some (([] : List GToken), 0, 2)
 else
  (m_ref13_Skip s1 0).bind fun r1 =>
  m_ref13_Tokenize_l1 s1 fu ([] : List GToken) r1
def m_parser_reader_is (r1 : Gparser_reader) (kind1 : Int) (s1 : List UInt8) : Option Bool :=
 (gd (decide (r1.at_ < (r1.l.length : Int))) (lat r1.l r1.at_)).bind fun e1 =>
 (gd ((decide (r1.at_ < (r1.l.length : Int))) && (decide (e1.Kind = kind1))) (lat r1.l r1.at_)).bind fun e2 =>
 some (((decide (r1.at_ < (r1.l.length : Int))) && (decide (e1.Kind = kind1))) && (decide (e2.Text = s1)))
def m_lexer_letter (r1 : Int) : Option Bool :=
 some ((decide (97 ≤ r1)) && (decide (r1 ≤ 122)))
def m_lexer_span_l1 (s1 : List UInt8) (ok1 : (Int → Option Bool)) : Nat → Int → Option Int
 | 0, _ => none
 | fuel1 + 1, n1 =>
  (gd (decide (n1 < (s1.length : Int))) (sat s1 n1)).bind fun b1 =>
  (gd (decide (n1 < (s1.length : Int))) (ok1 (wi32 b1))).bind fun r1 =>
  if (decide (n1 < (s1.length : Int))) && r1 then
   (m_lexer_span_l1 s1 ok1 fuel1) (wi64 (n1 + 1))
  else
   some n1
def m_lexer_span (s1 : List UInt8) (ok1 : (Int → Option Bool)) : Option Int :=
 m_lexer_span_l1 s1 ok1 fu 0
def m_lexer_digit (r1 : Int) : Option Bool :=
 some ((decide (48 ≤ r1)) && (decide (r1 ≤ 57)))
def m_lexer_inWord (r1 : Int) : Option Bool :=
 (m_lexer_letter r1).bind fun r2 =>
 (gd (!r2) (m_lexer_digit r1)).bind fun r3 =>
 some ((r2 || r3) || (decide (r1 = 95)))
def m_lexer_keywords : Option (List (List UInt8)) :=
 (m_strings_Fields ([115, 105, 122, 101, 32, 119, 104, 101, 114, 101, 32, 105, 110, 32, 100, 101, 102, 32, 111, 117, 116, 32, 115, 117, 109, 32, 112, 114, 111, 100, 32, 109, 105, 110, 32, 109, 97, 120, 32, 115, 99, 97, 110, 32, 111, 118, 101, 114, 32, 105, 102, 32, 99, 97, 115, 116, 32, 102, 114, 97, 99, 32, 105, 110, 116, 32, 102, 105, 120, 32, 99, 101, 105, 108, 32, 102, 108, 111, 111, 114, 32, 122, 101, 114, 111, 32, 101, 118, 101, 110, 32, 115, 97, 116, 32, 119, 114, 97, 112] : List UInt8)).bind fun r1 =>
 some r1
def m_slices_Index_string_string_l1 (s1 : List (List UInt8)) (v1 : List UInt8) : Nat → Int → Option Int
 | 0, _ => none
 | fuel1 + 1, i1 =>
  if decide (i1 < (s1.length : Int)) then
   (lat s1 i1).bind fun e1 =>
   if decide (v1 = e1) then
    some i1
   else
    (m_slices_Index_string_string_l1 s1 v1 fuel1) (wi64 (i1 + 1))
  else
   some (-1)
def m_slices_Index_string_string (s1 : List (List UInt8)) (v1 : List UInt8) : Option Int :=
 m_slices_Index_string_string_l1 s1 v1 fu 0
def m_slices_Contains_string_string (s1 : List (List UInt8)) (v1 : List UInt8) : Option Bool :=
 (m_slices_Index_string_string s1 v1).bind fun r1 =>
 some (decide (0 ≤ r1))
def m_lexer_IsKeyword (s1 : List UInt8) : Option Bool :=
 (m_lexer_keywords).bind fun r1 =>
 (m_slices_Contains_string_string r1 s1).bind fun r2 =>
 some r2
def m_lexer_IsName (s1 : List UInt8) : Option Bool :=
 (gd ((!decide (s1 = ([] : List UInt8))) && (decide ((s1.length : Int) ≤ 16))) (sat s1 0)).bind fun b1 =>
 (gd ((!decide (s1 = ([] : List UInt8))) && (decide ((s1.length : Int) ≤ 16))) (m_lexer_letter (wi32 b1))).bind fun r1 =>
 (gd (((!decide (s1 = ([] : List UInt8))) && (decide ((s1.length : Int) ≤ 16))) && r1) (m_lexer_span s1 m_lexer_inWord)).bind fun r2 =>
 (gd ((((!decide (s1 = ([] : List UInt8))) && (decide ((s1.length : Int) ≤ 16))) && r1) && (decide (r2 = (s1.length : Int)))) (m_lexer_IsKeyword s1)).bind fun r3 =>
 some (((((!decide (s1 = ([] : List UInt8))) && (decide ((s1.length : Int) ≤ 16))) && r1) && (decide (r2 = (s1.length : Int)))) && (!r3))
def m_parser_reader_isName (r1 : Gparser_reader) : Option Bool :=
 (gd (decide (r1.at_ < (r1.l.length : Int))) (lat r1.l r1.at_)).bind fun e1 =>
 (gd ((decide (r1.at_ < (r1.l.length : Int))) && (decide (e1.Kind = 1))) (lat r1.l r1.at_)).bind fun e2 =>
 (gd ((decide (r1.at_ < (r1.l.length : Int))) && (decide (e1.Kind = 1))) (m_lexer_IsName e2.Text)).bind fun r2 =>
 some (((decide (r1.at_ < (r1.l.length : Int))) && (decide (e1.Kind = 1))) && r2)
def m_parser_reader_fail (r1 : Gparser_reader) (at1 : Int) (e1 : Int) : Option (Pan Unit) :=
 some (.pan at1 e1)
def m_lin_reserved (s1 : List UInt8) : Option Bool :=
 if decide (s1 = ([115, 105, 122, 101] : List UInt8)) then
  if decide (s1 = ([115, 105, 122, 101] : List UInt8)) then
   some true
  else
   some false
 else
  if decide (s1 = ([119, 104, 101, 114, 101] : List UInt8)) then
   if decide (s1 = ([119, 104, 101, 114, 101] : List UInt8)) then
    some true
   else
    some false
  else
   if decide (s1 = ([105, 110] : List UInt8)) then
    if decide (s1 = ([105, 110] : List UInt8)) then
     some true
    else
     some false
   else
    if decide (s1 = ([100, 101, 102] : List UInt8)) then
     if decide (s1 = ([100, 101, 102] : List UInt8)) then
      some true
     else
      some false
    else
     if decide (s1 = ([111, 117, 116] : List UInt8)) then
      if decide (s1 = ([111, 117, 116] : List UInt8)) then
       some true
      else
       some false
     else
      if decide (s1 = ([115, 117, 109] : List UInt8)) then
       if decide (s1 = ([115, 117, 109] : List UInt8)) then
        some true
       else
        some false
      else
       if decide (s1 = ([112, 114, 111, 100] : List UInt8)) then
        if decide (s1 = ([112, 114, 111, 100] : List UInt8)) then
         some true
        else
         some false
       else
        if decide (s1 = ([109, 105, 110] : List UInt8)) then
         if decide (s1 = ([109, 105, 110] : List UInt8)) then
          some true
         else
          some false
        else
         if decide (s1 = ([109, 97, 120] : List UInt8)) then
          if decide (s1 = ([109, 97, 120] : List UInt8)) then
           some true
          else
           some false
         else
          if decide (s1 = ([115, 99, 97, 110] : List UInt8)) then
           if decide (s1 = ([115, 99, 97, 110] : List UInt8)) then
            some true
           else
            some false
          else
           if decide (s1 = ([111, 118, 101, 114] : List UInt8)) then
            if decide (s1 = ([111, 118, 101, 114] : List UInt8)) then
             some true
            else
             some false
           else
            if decide (s1 = ([105, 102] : List UInt8)) then
             if decide (s1 = ([105, 102] : List UInt8)) then
              some true
             else
              some false
            else
             if decide (s1 = ([99, 97, 115, 116] : List UInt8)) then
              if decide (s1 = ([99, 97, 115, 116] : List UInt8)) then
               some true
              else
               some false
             else
              if decide (s1 = ([102, 114, 97, 99] : List UInt8)) then
               if decide (s1 = ([102, 114, 97, 99] : List UInt8)) then
                some true
               else
                some false
              else
               if decide (s1 = ([105, 110, 116] : List UInt8)) then
                if decide (s1 = ([105, 110, 116] : List UInt8)) then
                 some true
                else
                 some false
               else
                if decide (s1 = ([102, 105, 120] : List UInt8)) then
                 if decide (s1 = ([102, 105, 120] : List UInt8)) then
                  some true
                 else
                  some false
                else
                 if decide (s1 = ([99, 101, 105, 108] : List UInt8)) then
                  if decide (s1 = ([99, 101, 105, 108] : List UInt8)) then
                   some true
                  else
                   some false
                 else
                  if decide (s1 = ([102, 108, 111, 111, 114] : List UInt8)) then
                   if decide (s1 = ([102, 108, 111, 111, 114] : List UInt8)) then
                    some true
                   else
                    some false
                  else
                   if decide (s1 = ([122, 101, 114, 111] : List UInt8)) then
                    if decide (s1 = ([122, 101, 114, 111] : List UInt8)) then
                     some true
                    else
                     some false
                   else
                    if decide (s1 = ([101, 118, 101, 110] : List UInt8)) then
                     if decide (s1 = ([101, 118, 101, 110] : List UInt8)) then
                      some true
                     else
                      some false
                    else
                     if decide (s1 = ([115, 97, 116] : List UInt8)) then
                      if decide (s1 = ([115, 97, 116] : List UInt8)) then
                       some true
                      else
                       some false
                     else
                      if decide (s1 = ([119, 114, 97, 112] : List UInt8)) then
                       some true
                      else
                       some false
def m_lin_identifier_l1 (s1 : List UInt8) : Nat → Int → Option Bool
 | 0, _ => none
 | fuel1 + 1, i1 =>
  if decide (i1 < (s1.length : Int)) then
   (sat s1 i1).bind fun b3 =>
   if (((decide (b3 < 97)) || (decide (122 < b3))) && ((decide (b3 < 48)) || (decide (57 < b3)))) && (!decide (b3 = 95)) then
    some false
   else
    (m_lin_identifier_l1 s1 fuel1) (wi64 (i1 + 1))
  else
   some true
def m_lin_identifier (s1 : List UInt8) : Option Bool :=
 (gd (!((decide ((s1.length : Int) < 1)) || (decide (16 < (s1.length : Int))))) (m_lin_reserved s1)).bind fun r1 =>
 (gd (!(((decide ((s1.length : Int) < 1)) || (decide (16 < (s1.length : Int)))) || r1)) (sat s1 0)).bind fun b1 =>
 (gd (!((((decide ((s1.length : Int) < 1)) || (decide (16 < (s1.length : Int)))) || r1) || (decide (b1 < 97)))) (sat s1 0)).bind fun b2 =>
 if ((((decide ((s1.length : Int) < 1)) || (decide (16 < (s1.length : Int)))) || r1) || (decide (b1 < 97))) || (decide (122 < b2)) then
  some false
 else
  m_lin_identifier_l1 s1 fu 0
def m_lin_Var (name1 : List UInt8) : Option GLin :=
 (m_lin_identifier name1).bind fun r1 =>
 if !r1 then
  some (⟨0, ([] : List GMono)⟩ : GLin)
 else
  some (⟨0, ([(⟨name1, 1⟩ : GMono)] : List GMono)⟩ : GLin)
def m_lin_Validate_l1 (l1 : GLin) : Nat → Int → Option Int
 | 0, _ => none
 | fuel1 + 1, i1 =>
  if decide (i1 < (l1.L.length : Int)) then
   (lat l1.L i1).bind fun e1 =>
   (m_lin_identifier e1.Name).bind fun r1 =>
   (gd ((!((!r1) || (decide (e1.By = 0)))) && (decide (0 < i1))) (lat l1.L (wi64 (i1 - 1)))).bind fun e2 =>
   if ((!r1) || (decide (e1.By = 0))) || ((decide (0 < i1)) && (!Op.bytesLess e2.Name e1.Name)) then
    some 1
   else
    (m_lin_Validate_l1 l1 fuel1) (wi64 (i1 + 1))
  else
   some 0
def m_lin_Validate (l1 : GLin) : Option Int :=
 m_lin_Validate_l1 l1 fu 0
def m_lin_magnitude (n1 : Int) : Option Int :=
 if decide (n1 < 0) then
  some (wu64 (-(wu64 n1)))
 else
  some (wu64 n1)
def m_lin_product (a1 : Int) (b1 : Int) : Option (Int × Int) :=
 (some (wu64 ((bits .and .u64 a1 4294967295) * (bits .and .u64 b1 4294967295)))).bind fun low1 =>
 (some (wu64 ((wu64 ((Int.fdiv a1 (2 ^ 32)) * (bits .and .u64 b1 4294967295))) + (Int.fdiv low1 (2 ^ 32))))).bind fun mid1 =>
 (some (wu64 ((wu64 ((bits .and .u64 a1 4294967295) * (Int.fdiv b1 (2 ^ 32)))) + (bits .and .u64 mid1 4294967295)))).bind fun cross1 =>
 (some (wu64 ((wu64 ((wu64 ((Int.fdiv a1 (2 ^ 32)) * (Int.fdiv b1 (2 ^ 32)))) + (Int.fdiv mid1 (2 ^ 32)))) + (Int.fdiv cross1 (2 ^ 32))))).bind fun hi1 =>
 some (hi1, wu64 (a1 * b1))
def m_lin_times (a1 : Int) (b1 : Int) : Option (Int × Bool) :=
 (m_lin_magnitude a1).bind fun r1 =>
 (m_lin_magnitude b1).bind fun r2 =>
 (m_lin_product r1 r2).bind fun r3 =>
 (some ((decide (a1 < 0)) != (decide (b1 < 0)))).bind fun negative1 =>
 if ((!decide (r3.1 = 0)) || (decide (9223372036854775808 < r3.2))) || ((decide (r3.2 = 9223372036854775808)) && (!negative1)) then
  some (0, false)
 else
  if negative1 then
   some (wi64 (wu64 (-r3.2)), true)
  else
   some (wi64 r3.2, true)
def m_lin_Scale_j1 (fits1 : Bool) (out1 : GLin) : Option (GLin × Int) :=
 if !fits1 then
  some ((⟨0, ([] : List GMono)⟩ : GLin), 3)
 else
  some (out1, 0)
def m_lin_Scale_l1 (a1 : GLin) (by1 : Int) : Nat → Bool → Int → GLin → Option (GLin × Int)
 | 0, _, _, _ => none
 | fuel1 + 1, fits2, i1, out2 =>
  if decide (i1 < (a1.L.length : Int)) then
   (lat a1.L i1).bind fun e1 =>
   (m_lin_times e1.By by1).bind fun r3 =>
   (lapp out2.L ([(⟨e1.Name, r3.1⟩ : GMono)] : List GMono)).bind fun zs1 =>
   (m_lin_Scale_l1 a1 by1 fuel1) (fits2 && r3.2) (wi64 (i1 + 1)) (⟨out2.K, zs1⟩ : GLin)
  else
   m_lin_Scale_j1 fits2 out2
def m_lin_Scale (a1 : GLin) (by1 : Int) : Option (GLin × Int) :=
 (m_lin_Validate a1).bind fun r1 =>
 if !decide (r1 = 0) then
  some ((⟨0, ([] : List GMono)⟩ : GLin), 1)
 else
  if decide (by1 = 0) then
   some ((⟨0, ([] : List GMono)⟩ : GLin), 0)
  else
   (m_lin_times a1.K by1).bind fun r2 =>
   m_lin_Scale_l1 a1 by1 fu r2.2 0 (⟨r2.1, ([] : List GMono)⟩ : GLin)
def m_parser_decimal_j1 (s1 : List UInt8) : Option Bool :=
 (gd ((!(decide (s1 = ([48] : List UInt8)))) && (!decide (s1 = ([] : List UInt8)))) (sat s1 0)).bind fun b1 =>
 some ((decide (s1 = ([48] : List UInt8))) || ((!decide (s1 = ([] : List UInt8))) && (!decide (b1 = 48))))
def m_parser_decimal_l1 (s1 : List UInt8) : Nat → Int → Option Bool
 | 0, _ => none
 | fuel1 + 1, i1 =>
  if decide (i1 < (s1.length : Int)) then
   (sat s1 i1).bind fun b2 =>
   (gd (!(decide (b2 < 48))) (sat s1 i1)).bind fun b3 =>
   if (decide (b2 < 48)) || (decide (57 < b3)) then
    some false
   else
    (m_parser_decimal_l1 s1 fuel1) (wi64 (i1 + 1))
  else
   m_parser_decimal_j1 s1
def m_parser_decimal (s1 : List UInt8) : Option Bool :=
 m_parser_decimal_l1 s1 fu 0
def m_parser_reader_isNumber (r1 : Gparser_reader) : Option Bool :=
 (gd (decide (r1.at_ < (r1.l.length : Int))) (lat r1.l r1.at_)).bind fun e1 =>
 (gd ((decide (r1.at_ < (r1.l.length : Int))) && (decide (e1.Kind = 2))) (lat r1.l r1.at_)).bind fun e2 =>
 (gd ((decide (r1.at_ < (r1.l.length : Int))) && (decide (e1.Kind = 2))) (m_parser_decimal e2.Text)).bind fun r2 =>
 some (((decide (r1.at_ < (r1.l.length : Int))) && (decide (e1.Kind = 2))) && r2)
def m_parser_signed_j2 (negative1 : Bool) (n1 : Int) : Option (Int × Bool) :=
 if negative1 then
  some (wi64 (-(wi64 n1)), true)
 else
  some (wi64 n1, true)
def m_parser_signed_l1 (s1 : List UInt8) (limit1 : Int) (negative1 : Bool) : Nat → Int → Int → Option (Int × Bool)
 | 0, _, _ => none
 | fuel1 + 1, n2, i1 =>
  if decide (i1 < (s1.length : Int)) then
   (sat s1 i1).bind fun b1 =>
   if decide (wu64 (Int.tdiv (wu64 (limit1 - (wu64 (wu8 (b1 - 48))))) 10) < n2) then
    some (0, false)
   else
    (some (wu64 ((wu64 (10 * n2)) + (wu64 (wu8 (b1 - 48)))))).bind fun n3 =>
    (m_parser_signed_l1 s1 limit1 negative1 fuel1) n3 (wi64 (i1 + 1))
  else
   m_parser_signed_j2 negative1 n2
def m_parser_signed_j1 (s1 : List UInt8) (negative1 : Bool) (limit1 : Int) : Option (Int × Bool) :=
 m_parser_signed_l1 s1 limit1 negative1 fu 0 0
def m_parser_signed (s1 : List UInt8) (negative1 : Bool) : Option (Int × Bool) :=
 if negative1 then
  m_parser_signed_j1 s1 negative1 9223372036854775808
 else
  m_parser_signed_j1 s1 negative1 9223372036854775807
def m_lin_Const (k1 : Int) : Option GLin :=
 some (⟨k1, ([] : List GMono)⟩ : GLin)
def m_lin_plus (a1 : Int) (b1 : Int) : Option (Int × Bool) :=
 some (wi64 (a1 + b1), (decide (a1 < wi64 (a1 + b1))) == (decide (0 < b1)))
def m_lin_Add_1_w (name1 : List UInt8) (x1 : Int) (y1 : Int) (a1 : Bool) (a2 : GLin) : Option (Unit × Bool × GLin) :=
 (m_lin_plus x1 y1).bind fun r1 =>
 if !decide (r1.1 = 0) then
  (lapp a2.L ([(⟨name1, r1.1⟩ : GMono)] : List GMono)).bind fun zs1 =>
  some ((), a1 && r1.2, (⟨a2.K, zs1⟩ : GLin))
 else
  some ((), a1 && r1.2, a2)
def m_lin_merge_s_l1 {σ : Type}  (each1 : ((List UInt8) → Int → Int → σ → Option (Unit × σ))) : Nat → (List GMono) → (List GMono) → σ → Option (Unit × σ)
 | 0, _, _, _ => none
 | fuel1 + 1, a4, b2, s2 =>
  if (decide (0 < (a4.length : Int))) || (decide (0 < (b2.length : Int))) then
   (gd ((!(decide ((b2.length : Int) = 0))) && (decide (0 < (a4.length : Int)))) (lat a4 0)).bind fun e1 =>
   (gd ((!(decide ((b2.length : Int) = 0))) && (decide (0 < (a4.length : Int)))) (lat b2 0)).bind fun e2 =>
   if (decide ((b2.length : Int) = 0)) || ((decide (0 < (a4.length : Int))) && (Op.bytesLess e1.Name e2.Name)) then
    (lat a4 0).bind fun e3 =>
    (lat a4 0).bind fun e4 =>
    (each1 e3.Name e4.By 0 s2).bind fun ⟨r1, s3⟩ =>
    (lfrom a4 1).bind fun zs1 =>
    (m_lin_merge_s_l1 each1 fuel1) zs1 b2 s3
   else
    (gd (!(decide ((a4.length : Int) = 0))) (lat b2 0)).bind fun e5 =>
    (gd (!(decide ((a4.length : Int) = 0))) (lat a4 0)).bind fun e6 =>
    if (decide ((a4.length : Int) = 0)) || (Op.bytesLess e5.Name e6.Name) then
     (lat b2 0).bind fun e7 =>
     (lat b2 0).bind fun e8 =>
     (each1 e7.Name 0 e8.By s2).bind fun ⟨r2, s4⟩ =>
     (lfrom b2 1).bind fun zs2 =>
     (m_lin_merge_s_l1 each1 fuel1) a4 zs2 s4
    else
     (lat a4 0).bind fun e9 =>
     (lat a4 0).bind fun e10 =>
     (lat b2 0).bind fun e11 =>
     (each1 e9.Name e10.By e11.By s2).bind fun ⟨r3, s5⟩ =>
     (lfrom a4 1).bind fun zs3 =>
     (lfrom b2 1).bind fun zs4 =>
     (m_lin_merge_s_l1 each1 fuel1) zs3 zs4 s5
  else
   some ((), s2)
def m_lin_merge_s {σ : Type}  (a1 : List GMono) (b1 : List GMono) (each1 : ((List UInt8) → Int → Int → σ → Option (Unit × σ))) (s1 : σ) : Option (Unit × σ) :=
 m_lin_merge_s_l1 each1 fu a1 b1 s1
def m_lin_Add (a1 : GLin) (b1 : GLin) : Option (GLin × Int) :=
 (m_lin_Validate a1).bind fun r1 =>
 (gd (!(!decide (r1 = 0))) (m_lin_Validate b1)).bind fun r2 =>
 if (!decide (r1 = 0)) || (!decide (r2 = 0)) then
  some ((⟨0, ([] : List GMono)⟩ : GLin), 1)
 else
  (m_lin_plus a1.K b1.K).bind fun r3 =>
  (m_lin_merge_s a1.L b1.L (fun x_1 x_2 x_3 s => m_lin_Add_1_w x_1 x_2 x_3 (s.1) (s.2)) (r3.2, (⟨r3.1, ([] : List GMono)⟩ : GLin))).bind fun ⟨r4, s1⟩ =>
  if !(s1.1) then
   some ((⟨0, ([] : List GMono)⟩ : GLin), 3)
  else
   some ((s1.2), 0)
def m_parser_reader_accept_w (r1 : Gparser_reader) (s1 : List UInt8) : Option (Bool × Gparser_reader) :=
 (m_parser_reader_is r1 3 s1).bind fun r2 =>
 if r2 then
  some (true, (⟨r1.l, wi64 (r1.at_ + 1), r1.deep⟩ : Gparser_reader))
 else
  some (false, r1)
def m_parser_reader_wrong_w (r1 : Gparser_reader) : Option (Pan (Unit × Gparser_reader)) :=
 if decide ((r1.l.length : Int) ≤ r1.at_) then
  pb (m_parser_reader_fail r1 (r1.l.length : Int) 6) fun r2 =>
  pb (m_parser_reader_fail r1 r1.at_ 5) fun r3 =>
  some (.ret ((), r1))
 else
  pb (m_parser_reader_fail r1 r1.at_ 5) fun r4 =>
  some (.ret ((), r1))
def m_parser_reader_name_w_j1 (r2 : Gparser_reader) : Option (Pan (List UInt8 × Gparser_reader)) :=
 (lat r2.l (wi64 ((wi64 (r2.at_ + 1)) - 1))).bind fun e1 =>
 some (.ret (e1.Text, (⟨r2.l, wi64 (r2.at_ + 1), r2.deep⟩ : Gparser_reader)))
def m_parser_reader_name_w (r1 : Gparser_reader) : Option (Pan (List UInt8 × Gparser_reader)) :=
 (m_parser_reader_isName r1).bind fun r3 =>
 if !r3 then
  pb (m_parser_reader_wrong_w r1) fun ⟨r4, s1⟩ =>
  m_parser_reader_name_w_j1 s1
 else
  m_parser_reader_name_w_j1 r1
def m_parser_reader_number_w_j1 (r2 : Gparser_reader) : Option (Pan (List UInt8 × Gparser_reader)) :=
 (lat r2.l (wi64 ((wi64 (r2.at_ + 1)) - 1))).bind fun e1 =>
 some (.ret (e1.Text, (⟨r2.l, wi64 (r2.at_ + 1), r2.deep⟩ : Gparser_reader)))
def m_parser_reader_number_w (r1 : Gparser_reader) : Option (Pan (List UInt8 × Gparser_reader)) :=
 (m_parser_reader_isNumber r1).bind fun r3 =>
 if !r3 then
  pb (m_parser_reader_wrong_w r1) fun ⟨r4, s1⟩ =>
  m_parser_reader_number_w_j1 s1
 else
  m_parser_reader_number_w_j1 r1
def m_parser_reader_term_w_j2 (name1 : List UInt8) (r8 : Int × Bool) (r7 : Gparser_reader) : Option (Pan (GLin × Gparser_reader)) :=
 if decide (name1 = ([] : List UInt8)) then
  (m_lin_Const r8.1).bind fun r9 =>
  some (.ret (r9, r7))
 else
  (m_lin_Var name1).bind fun r10 =>
  (m_lin_Scale r10 r8.1).bind fun r11 =>
  some (.ret (r11.1, r7))
def m_parser_reader_term_w_j1 (r6 : List UInt8) (negative1 : Bool) (r1 : Gparser_reader) (name1 : List UInt8) (r7 : Gparser_reader) : Option (Pan (GLin × Gparser_reader)) :=
 (m_parser_signed r6 negative1).bind fun r8 =>
 if !r8.2 then
  pb (m_parser_reader_fail r7 r1.at_ 3) fun r12 =>
  m_parser_reader_term_w_j2 name1 r8 r7
 else
  m_parser_reader_term_w_j2 name1 r8 r7
def m_parser_reader_term_w (r1 : Gparser_reader) (negative1 : Bool) : Option (Pan (GLin × Gparser_reader)) :=
 (m_parser_reader_isName r1).bind fun r2 =>
 if r2 then
  pb (m_parser_reader_name_w r1) fun ⟨r3, s1⟩ =>
  (m_lin_Var r3).bind fun r4 =>
  if negative1 then
   (m_lin_Scale r4 (-1)).bind fun r5 =>
   some (.ret (r5.1, s1))
  else
   some (.ret (r4, s1))
 else
  pb (m_parser_reader_number_w r1) fun ⟨r6, s2⟩ =>
  (m_parser_reader_accept_w s2 ([42] : List UInt8)).bind fun ⟨r13, s3⟩ =>
  if r13 then
   pb (m_parser_reader_name_w s3) fun ⟨r14, s4⟩ =>
   m_parser_reader_term_w_j1 r6 negative1 r1 r14 s4
  else
   m_parser_reader_term_w_j1 r6 negative1 r1 ([] : List UInt8) s3
def m_parser_reader_form_w_j1 (s2 : Gparser_reader) (self1 : Bool → Gparser_reader → GLin → Option (Pan (GLin × Gparser_reader))) (r5 : GLin × Int) : Option (Pan (GLin × Gparser_reader)) :=
 (m_parser_reader_accept_w s2 ([43] : List UInt8)).bind fun ⟨r6, s3⟩ =>
 if r6 then
  self1 false s3 r5.1
 else
  (m_parser_reader_accept_w s3 ([45] : List UInt8)).bind fun ⟨r7, s4⟩ =>
  if r7 then
   self1 true s4 r5.1
  else
   some (.ret (r5.1, s4))
def m_parser_reader_form_w_l1 : Nat → Bool → Gparser_reader → GLin → Option (Pan (GLin × Gparser_reader))
 | 0, _, _, _ => none
 | fuel1 + 1, negative1, r3, sum1 =>
  pb (m_parser_reader_term_w r3 negative1) fun ⟨r4, s2⟩ =>
  (m_lin_Add sum1 r4).bind fun r5 =>
  if !decide (r5.2 = 0) then
   pb (m_parser_reader_fail s2 r3.at_ 3) fun r8 =>
   m_parser_reader_form_w_j1 s2 (m_parser_reader_form_w_l1 fuel1) r5
  else
   m_parser_reader_form_w_j1 s2 (m_parser_reader_form_w_l1 fuel1) r5
def m_parser_reader_form_w (r1 : Gparser_reader) : Option (Pan (GLin × Gparser_reader)) :=
 (m_parser_reader_accept_w r1 ([45] : List UInt8)).bind fun ⟨r2, s1⟩ =>
 m_parser_reader_form_w_l1 fu r2 s1 (⟨0, ([] : List GMono)⟩ : GLin)
def m_parser_Lin_1_w2 (a1 : Gparser_reader) (a3 : GLin) : Option (Pan (Unit × Gparser_reader × GLin)) :=
 pb (m_parser_reader_form_w a1) fun ⟨r1, s1⟩ =>
 some (.ret ((), s1, r1))
def m_parser_Lin (l1 : List GToken) (at1 : Int) : Option (GLin × Int × Int) :=
 if (decide (at1 < 0)) || (decide ((l1.length : Int) < at1)) then
  some ((⟨0, ([] : List GMono)⟩ : GLin), 0, 1)
 else
  pcatch (m_parser_Lin_1_w2 (⟨l1, at1, 0⟩ : Gparser_reader) (⟨0, ([] : List GMono)⟩ : GLin)) (fun ⟨r1, s1, s2⟩ =>
   if !decide (0 = 0) then
    some ((⟨0, ([] : List GMono)⟩ : GLin), 0, 0)
   else
    some (s2, s1.at_, 0)) fun pa1 pn1 =>
   some ((⟨0, ([] : List GMono)⟩ : GLin), pa1, pn1)
def m_lexer_space (r1 : Int) : Option Bool :=
 if decide (r1 = 9) then
  if decide (r1 = 9) then
   some true
  else
   some false
 else
  if decide (r1 = 10) then
   if decide (r1 = 10) then
    some true
   else
    some false
  else
   if decide (r1 = 13) then
    if decide (r1 = 13) then
     some true
    else
     some false
   else
    if decide (r1 = 32) then
     some true
    else
     some false
def m_lexer_skip_1 (r1 : Int) : Option Bool :=
 some (!decide (r1 = 10))
def m_lexer_skip_l1 (s1 : List UInt8) : Nat → Int → Option Int
 | 0, _ => none
 | fuel1 + 1, at1 =>
  if decide (at1 < (s1.length : Int)) then
   (sat s1 at1).bind fun b1 =>
   (m_lexer_space (wi32 b1)).bind fun r1 =>
   if r1 then
    (m_lexer_skip_l1 s1 fuel1) (wi64 (at1 + 1))
   else
    if decide (wi32 b1 = 35) then
     (lfrom s1 at1).bind fun s2 =>
     (m_lexer_span s2 m_lexer_skip_1).bind fun r2 =>
     (m_lexer_skip_l1 s1 fuel1) (wi64 (at1 + r2))
    else
     some at1
  else
   some at1
def m_lexer_skip (s1 : List UInt8) : Option Int :=
 m_lexer_skip_l1 s1 fu 0
def m_lexer_symbol (r1 : Int) : Option Bool :=
 if decide (r1 = 40) then
  if decide (r1 = 40) then
   some true
  else
   some false
 else
  if decide (r1 = 41) then
   if decide (r1 = 41) then
    some true
   else
    some false
  else
   if decide (r1 = 91) then
    if decide (r1 = 91) then
     some true
    else
     some false
   else
    if decide (r1 = 93) then
     if decide (r1 = 93) then
      some true
     else
      some false
    else
     if decide (r1 = 123) then
      if decide (r1 = 123) then
       some true
      else
       some false
     else
      if decide (r1 = 125) then
       if decide (r1 = 125) then
        some true
       else
        some false
      else
       if decide (r1 = 44) then
        if decide (r1 = 44) then
         some true
        else
         some false
       else
        if decide (r1 = 59) then
         if decide (r1 = 59) then
          some true
         else
          some false
        else
         if decide (r1 = 58) then
          if decide (r1 = 58) then
           some true
          else
           some false
         else
          if decide (r1 = 43) then
           if decide (r1 = 43) then
            some true
           else
            some false
          else
           if decide (r1 = 45) then
            if decide (r1 = 45) then
             some true
            else
             some false
           else
            if decide (r1 = 42) then
             if decide (r1 = 42) then
              some true
             else
              some false
            else
             if decide (r1 = 47) then
              if decide (r1 = 47) then
               some true
              else
               some false
             else
              if decide (r1 = 60) then
               if decide (r1 = 60) then
                some true
               else
                some false
              else
               if decide (r1 = 61) then
                if decide (r1 = 61) then
                 some true
                else
                 some false
               else
                if decide (r1 = 38) then
                 if decide (r1 = 38) then
                  some true
                 else
                  some false
                else
                 if decide (r1 = 124) then
                  if decide (r1 = 124) then
                   some true
                  else
                   some false
                 else
                  if decide (r1 = 33) then
                   if decide (r1 = 33) then
                    some true
                   else
                    some false
                  else
                   if decide (r1 = 46) then
                    if decide (r1 = 46) then
                     some true
                    else
                     some false
                   else
                    if decide (r1 = 64) then
                     some true
                    else
                     some false
def m_lexer_next (s1 : List UInt8) : Option (Int × Int) :=
 (sat s1 0).bind fun b1 =>
 (m_lexer_letter (wi32 b1)).bind fun r1 =>
 if r1 then
  (m_lexer_span s1 m_lexer_inWord).bind fun r2 =>
  some (1, r2)
 else
  (m_lexer_digit (wi32 b1)).bind fun r3 =>
  if r3 then
   (m_lexer_span s1 m_lexer_digit).bind fun r4 =>
   some (2, r4)
  else
   (gd (((decide (wi32 b1 = 60)) || (decide (wi32 b1 = 61))) && (decide (1 < (s1.length : Int)))) (sat s1 1)).bind fun b2 =>
   if (((decide (wi32 b1 = 60)) || (decide (wi32 b1 = 61))) && (decide (1 < (s1.length : Int)))) && (decide (b2 = 61)) then
    some (3, 2)
   else
    (m_lexer_symbol (wi32 b1)).bind fun r5 =>
    if r5 then
     some (3, 1)
    else
     some (0, 0)
def m_lexer_Tokenize_l1 (s1 : List UInt8) : Nat → (List GToken) → Int → Option (List GToken × Int × Int)
 | 0, _, _ => none
 | fuel1 + 1, out1, at1 =>
  if decide (at1 < (s1.length : Int)) then
   (lfrom s1 at1).bind fun s2 =>
   (m_lexer_next s2).bind fun r2 =>
   if decide (r2.1 = 0) then
    some (([] : List GToken), at1, 5)
   else
    if (decide (r2.1 = 1)) && (decide (16 < r2.2)) then
     some (([] : List GToken), at1, 2)
    else
     (lsub s1 at1 (wi64 (at1 + r2.2))).bind fun s3 =>
     (lapp out1 ([(⟨r2.1, at1, s3⟩ : GToken)] : List GToken)).bind fun zs1 =>
     (lfrom s1 (wi64 (at1 + r2.2))).bind fun s4 =>
     (m_lexer_skip s4).bind fun r3 =>
     (some (wi64 ((wi64 (at1 + r2.2)) + r3))).bind fun at2 =>
     (m_lexer_Tokenize_l1 s1 fuel1) zs1 at2
  else
   some (out1, 0, 0)
def m_lexer_Tokenize (s1 : List UInt8) : Option (List GToken × Int × Int) :=
 if decide (65536 < (s1.length : Int)) then
  some (([] : List GToken), 0, 2)
 else
  (m_lexer_skip s1).bind fun r1 =>
  m_lexer_Tokenize_l1 s1 fu ([] : List GToken) r1
def m_value_plain (t1 : GType) : Option Bool :=
 some ((decide (t1.Kind = t1.Kind)) && (decide (t1.Bits = 0)) && (decide (t1.Frac = 0)) && (decide (t1.Round = 0)) && (decide (t1.Over = 0)))
def m_fixed_ValidateType (t1 : GType) : Option Int :=
 (some (((decide (1 ≤ t1.Round)) && (decide (t1.Round ≤ 4))) && ((decide (t1.Over = 1)) || (decide (t1.Over = 2))))).bind fun modes1 =>
 if (((((!decide (t1.Kind = 2)) || (decide (t1.Bits < 2))) || (decide (31 < t1.Bits))) || (decide (t1.Frac < 0))) || (decide (30 < t1.Frac))) || (!modes1) then
  some 10
 else
  some 0
def m_value_ValidateType_j1 (t1 : GType) (i1 : Bool) : Option Int :=
 if i1 then
  (m_value_plain t1).bind fun r1 =>
  if r1 then
   some 0
  else
   some 10
 else
  if decide (t1.Kind = 2) then
   (m_fixed_ValidateType t1).bind fun r2 =>
   if decide (r2 = 0) then
    some 0
   else
    some 10
  else
   some 10
def m_value_ValidateType (t1 : GType) : Option Int :=
 if decide (t1.Kind = 1) then
  m_value_ValidateType_j1 t1 (decide (t1.Kind = 1))
 else
  m_value_ValidateType_j1 t1 (decide (t1.Kind = 3))
def m_internal_stringslite_Cut (s1 : List UInt8) (sep1 : List UInt8) : Option (List UInt8 × List UInt8 × Bool) :=
 (m_internal_stringslite_Index s1 sep1).bind fun r1 =>
 if decide (0 ≤ r1) then
  (lupto s1 r1).bind fun s2 =>
  (lfrom s1 (wi64 (r1 + (sep1.length : Int)))).bind fun s3 =>
  some (s2, s3, true)
 else
  some (s1, ([] : List UInt8), false)
def m_strings_Cut (s1 : List UInt8) (sep1 : List UInt8) : Option (List UInt8 × List UInt8 × Bool) :=
 (m_internal_stringslite_Cut s1 sep1).bind fun r1 =>
 some (r1.1, r1.2.1, r1.2.2)
def m_internal_stringslite_HasPrefix (s1 : List UInt8) (prefix1 : List UInt8) : Option Bool :=
 (gd (decide ((prefix1.length : Int) ≤ (s1.length : Int))) (lupto s1 (prefix1.length : Int))).bind fun s2 =>
 some ((decide ((prefix1.length : Int) ≤ (s1.length : Int))) && (decide (s2 = prefix1)))
def m_internal_stringslite_CutPrefix (s1 : List UInt8) (prefix1 : List UInt8) : Option (List UInt8 × Bool) :=
 (m_internal_stringslite_HasPrefix s1 prefix1).bind fun r1 =>
 if !r1 then
  some (s1, false)
 else
  (lfrom s1 (prefix1.length : Int)).bind fun s2 =>
  some (s2, true)
def m_strings_CutPrefix (s1 : List UInt8) (prefix1 : List UInt8) : Option (List UInt8 × Bool) :=
 (m_internal_stringslite_CutPrefix s1 prefix1).bind fun r1 =>
 some (r1.1, r1.2)
def m_frac_decimal_j1 (s1 : List UInt8) : Option Bool :=
 (gd ((!(decide (s1 = ([48] : List UInt8)))) && (!decide (s1 = ([] : List UInt8)))) (sat s1 0)).bind fun b1 =>
 some ((decide (s1 = ([48] : List UInt8))) || ((!decide (s1 = ([] : List UInt8))) && (!decide (b1 = 48))))
def m_frac_decimal_l1 (s1 : List UInt8) : Nat → Int → Option Bool
 | 0, _ => none
 | fuel1 + 1, i1 =>
  if decide (i1 < (s1.length : Int)) then
   (sat s1 i1).bind fun b2 =>
   (gd (!(decide (b2 < 48))) (sat s1 i1)).bind fun b3 =>
   if (decide (b2 < 48)) || (decide (57 < b3)) then
    some false
   else
    (m_frac_decimal_l1 s1 fuel1) (wi64 (i1 + 1))
  else
   m_frac_decimal_j1 s1
def m_frac_decimal (s1 : List UInt8) : Option Bool :=
 m_frac_decimal_l1 s1 fu 0
def m_frac_bounded (s1 : List UInt8) : Option (Int × Bool) :=
 if decide (10 < (s1.length : Int)) then
  some (0, false)
 else
  (m_strconv_ParseInt s1 10 64).bind fun r1 =>
  some (r1.1, decide (r1.1 ≤ 2147483647))
def m_frac_inRange (n1 : Int) : Option Bool :=
 some ((decide ((-2147483647) ≤ n1)) && (decide (n1 ≤ 2147483647)))
def m_frac_magnitude (n1 : Int) : Option Int :=
 if decide (n1 < 0) then
  some (wu64 (-(wu64 n1)))
 else
  some (wu64 n1)
def m_frac_gcd_l1 : Nat → Int → Int → Option Int
 | 0, _, _ => none
 | fuel1 + 1, a2, b2 =>
  if !decide (b2 = 0) then
   if b2 ≠ 0 then
    (m_frac_gcd_l1 fuel1) b2 (Int.tmod a2 b2)
   else none
  else
   some a2
def m_frac_gcd (a1 : Int) (b1 : Int) : Option Int :=
 m_frac_gcd_l1 fu a1 b1
def m_frac_Valid (v1 : GVal) : Option Bool :=
 (gd ((decide (1 ≤ v1.D)) && (decide (v1.D ≤ 2147483647))) (m_frac_inRange v1.N)).bind fun r1 =>
 (gd (((decide (1 ≤ v1.D)) && (decide (v1.D ≤ 2147483647))) && r1) (m_frac_magnitude v1.N)).bind fun r2 =>
 (gd (((decide (1 ≤ v1.D)) && (decide (v1.D ≤ 2147483647))) && r1) (m_frac_gcd r2 (wu64 v1.D))).bind fun r3 =>
 some ((((decide (1 ≤ v1.D)) && (decide (v1.D ≤ 2147483647))) && r1) && (decide (r3 = 1)))
def m_frac_Parse_j2 (r5 : Int × Bool) (n1 : Int) : Option (GVal × Int) :=
 (m_frac_Valid (⟨n1, r5.1⟩ : GVal)).bind fun r6 =>
 if !r6 then
  some ((⟨0, 0⟩ : GVal), 5)
 else
  some ((⟨n1, r5.1⟩ : GVal), 0)
def m_frac_Parse_j1 (r2 : List UInt8 × Bool) (bottom1 : List UInt8) : Option (GVal × Int) :=
 (m_frac_bounded r2.1).bind fun r4 =>
 (m_frac_bounded bottom1).bind fun r5 =>
 if (!r4.2) || (!r5.2) then
  some ((⟨0, 0⟩ : GVal), 3)
 else
  if r2.2 then
   m_frac_Parse_j2 r5 (wi64 (-r4.1))
  else
   m_frac_Parse_j2 r5 r4.1
def m_frac_Parse (s1 : List UInt8) : Option (GVal × Int) :=
 (m_strings_Cut s1 ([47] : List UInt8)).bind fun r1 =>
 (m_strings_CutPrefix r1.1 ([45] : List UInt8)).bind fun r2 =>
 (m_frac_decimal r2.1).bind fun r3 =>
 if (!r3) || (r2.2 && (decide (r2.1 = ([48] : List UInt8)))) then
  some ((⟨0, 0⟩ : GVal), 5)
 else
  if !r1.2.2 then
   m_frac_Parse_j1 r2 ([49] : List UInt8)
  else
   (m_frac_decimal r1.2.1).bind fun r7 =>
   if ((!r7) || (decide (r1.2.1 = ([48] : List UInt8)))) || (decide (r1.2.1 = ([49] : List UInt8))) then
    some ((⟨0, 0⟩ : GVal), 5)
   else
    m_frac_Parse_j1 r2 r1.2.1
def m_round_valid (bits1 : Int) : Option Bool :=
 some ((decide (2 ≤ bits1)) && (decide (bits1 ≤ 31)))
def m_round_MinInt (bits1 : Int) : Option Int :=
 (m_round_valid bits1).bind fun r1 =>
 if !r1 then
  some 0
 else
  if 0 ≤ (wu64 (wi64 (bits1 - 1))) then
   some (wi64 (-(wi64 (1 * 2 ^ (min (Int.toNat (wu64 (wi64 (bits1 - 1)))) 64)))))
  else none
def m_round_MaxInt (bits1 : Int) : Option Int :=
 (m_round_valid bits1).bind fun r1 =>
 if !r1 then
  some 0
 else
  if 0 ≤ (wu64 (wi64 (bits1 - 1))) then
   some (wi64 ((wi64 (1 * 2 ^ (min (Int.toNat (wu64 (wi64 (bits1 - 1)))) 64))) - 1))
  else none
def m_fixed_Valid (t1 : GType) (v1 : GVal) : Option Bool :=
 (m_fixed_ValidateType t1).bind fun r1 =>
 (gd ((decide (r1 = 0)) && (decide (v1.D = 1))) (m_round_MinInt t1.Bits)).bind fun r2 =>
 (gd (((decide (r1 = 0)) && (decide (v1.D = 1))) && (decide (r2 ≤ v1.N))) (m_round_MaxInt t1.Bits)).bind fun r3 =>
 some ((((decide (r1 = 0)) && (decide (v1.D = 1))) && (decide (r2 ≤ v1.N))) && (decide (v1.N ≤ r3)))
def m_value_Parse (t1 : GType) (s1 : List UInt8) : Option (GVal × Int) :=
 (m_value_ValidateType t1).bind fun r1 =>
 if !decide (r1 = 0) then
  some ((⟨0, 0⟩ : GVal), 10)
 else
  (m_frac_Parse s1).bind fun r2 =>
  if !decide (r2.2 = 0) then
   some ((⟨0, 0⟩ : GVal), r2.2)
  else
   if decide (t1.Kind = 3) then
    if !decide (r2.1.D = 1) then
     some ((⟨0, 0⟩ : GVal), 5)
    else
     some (r2.1, 0)
   else
    if decide (t1.Kind = 2) then
     if 0 ≤ t1.Frac then
      (some (wi64 (1 * 2 ^ (min (Int.toNat t1.Frac) 64)))).bind fun one1 =>
      if r2.1.D ≠ 0 then
       if !decide (Int.tmod one1 r2.1.D = 0) then
        some ((⟨0, 0⟩ : GVal), 5)
       else
        (m_fixed_Valid t1 (⟨wi64 (r2.1.N * (wi64 (Int.tdiv one1 r2.1.D))), 1⟩ : GVal)).bind fun r3 =>
        if !r3 then
         some ((⟨0, 0⟩ : GVal), 3)
        else
         some ((⟨wi64 (r2.1.N * (wi64 (Int.tdiv one1 r2.1.D))), 1⟩ : GVal), 0)
      else none
     else none
    else
     some (r2.1, 0)
def m_expr_depth_l1 (e1 : GExpr) (rec_ : (GExpr → Int → Option Int)) (limit1 : Int) : Nat → Int → Int → Option Int
 | 0, _, _ => none
 | fuel1 + 1, d1, i1 =>
  if decide (i1 < (e1.Args.length : Int)) then
   (lat e1.Args i1).bind fun e2 =>
   (rec_ e2 (wi64 (limit1 - 1))).bind fun r1 =>
   (m_expr_depth_l1 e1 rec_ limit1 fuel1) (max d1 (wi64 (1 + r1))) (wi64 (i1 + 1))
  else
   some d1
def m_expr_depth_b (rec_ : (GExpr → Int → Option Int)) (e1 : GExpr) (limit1 : Int) : Option Int :=
 if decide (limit1 ≤ 1) then
  some limit1
 else
  m_expr_depth_l1 e1 rec_ limit1 fu 1 0
def m_expr_depth_r : Nat → (GExpr → Int → Option Int)
 | 0 => fun _ _ => none
 | n + 1 => m_expr_depth_b (m_expr_depth_r n)
def m_expr_depth  (e1 : GExpr) (limit1 : Int) : Option Int := m_expr_depth_r fu e1 limit1
def m_expr_Depth (e1 : GExpr) : Option Int :=
 (m_expr_depth e1 41).bind fun r1 =>
 some r1
def m_expr_Walk (e1 : GExpr) : Option GExpr :=
 some e1
def m_expr_walk_s_l1 {σ : Type}  (e1 : GExpr) (rec_ : (GExpr → (GExpr → σ → Option (Bool × σ)) → σ → Option (Bool × σ))) (yield1 : (GExpr → σ → Option (Bool × σ))) : Nat → Int → σ → Option (Bool × σ)
 | 0, _, _ => none
 | fuel1 + 1, i1, s3 =>
  if decide (i1 < (e1.Args.length : Int)) then
   (lat e1.Args i1).bind fun e2 =>
   (rec_ e2 yield1 s3).bind fun ⟨r2, s4⟩ =>
   if !r2 then
    some (false, s4)
   else
    (m_expr_walk_s_l1 e1 rec_ yield1 fuel1) (wi64 (i1 + 1)) s4
  else
   some (true, s3)
def m_expr_walk_s_b {σ : Type} (rec_ : (GExpr → (GExpr → σ → Option (Bool × σ)) → σ → Option (Bool × σ))) (e1 : GExpr) (yield1 : (GExpr → σ → Option (Bool × σ))) (s1 : σ) : Option (Bool × σ) :=
 (yield1 e1 s1).bind fun ⟨r1, s2⟩ =>
 if !r1 then
  some (false, s2)
 else
  m_expr_walk_s_l1 e1 rec_ yield1 fu 0 s2
def m_expr_walk_s_r {σ : Type} : Nat → (GExpr → (GExpr → σ → Option (Bool × σ)) → σ → Option (Bool × σ))
 | 0 => fun _ _ _ => none
 | n + 1 => m_expr_walk_s_b (m_expr_walk_s_r n)
def m_expr_walk_s {σ : Type}  (e1 : GExpr) (yield1 : (GExpr → σ → Option (Bool × σ))) (s1 : σ) : Option (Bool × σ) := m_expr_walk_s_r fu e1 yield1 s1
def m_expr_Walk_1_s {σ : Type}  (yield1 : (GExpr → σ → Option (Bool × σ))) (a1 : GExpr) (s1 : σ) : Option (Unit × σ) :=
 (m_expr_walk_s a1 yield1 s1).bind fun ⟨r1, s2⟩ =>
 some ((), s2)
def m_expr_Size_b1 (y1 : GExpr) (n1 : Int) : Option (Bool × (Nat × Int)) :=
 if decide (2000 < wi64 (n1 + 1)) then
  some (false, (1, (wi64 (n1 + 1))))
 else
  some (true, (0, (wi64 (n1 + 1))))
def m_expr_Size (e1 : GExpr) : Option Int :=
 (m_expr_Walk e1).bind fun r1 =>
 (m_expr_Walk_1_s (fun k_0 q => if q.1 = 0 then m_expr_Size_b1 k_0 q.2 else none) r1 (0, 0)).bind fun ⟨u1, o1, n2⟩ =>
 if o1 = 0 then
  some n2
 else
  if o1 = 1 then
   some n2
  else
   none
def m_expr_isZero (l1 : GLin) : Option Bool :=
 some ((decide (l1.K = 0)) && (decide ((l1.L.length : Int) = 0)))
def m_slices_IndexFunc_api_Index_api_Index_l1 (s1 : List GIndex) (f1 : (GIndex → Option Bool)) : Nat → Int → Option Int
 | 0, _ => none
 | fuel1 + 1, i1 =>
  if decide (i1 < (s1.length : Int)) then
   (lat s1 i1).bind fun e1 =>
   (f1 e1).bind fun r1 =>
   if r1 then
    some i1
   else
    (m_slices_IndexFunc_api_Index_api_Index_l1 s1 f1 fuel1) (wi64 (i1 + 1))
  else
   some (-1)
def m_slices_IndexFunc_api_Index_api_Index (s1 : List GIndex) (f1 : (GIndex → Option Bool)) : Option Int :=
 m_slices_IndexFunc_api_Index_api_Index_l1 s1 f1 fu 0
def m_slices_ContainsFunc_api_Index_api_Index (s1 : List GIndex) (f1 : (GIndex → Option Bool)) : Option Bool :=
 (m_slices_IndexFunc_api_Index_api_Index s1 f1).bind fun r1 =>
 some (decide (0 ≤ r1))
def m_expr_wellFormed (x1 : GIndex) : Option Bool :=
 if decide (x1.From = ([] : List UInt8)) then
  some (decide ((x1.At.length : Int) = 0))
 else
  (m_expr_isZero x1.Lin).bind fun r1 =>
  some r1
def m_expr_syntax_1 (x1 : GIndex) : Option Bool :=
 (m_expr_wellFormed x1).bind fun r1 =>
 some (!r1)
def m_expr_syntax (e1 : GExpr) : Option Bool :=
 if (decide (e1.Op < 1)) || (decide (18 < e1.Op)) then
  some false
 else
  if (!(decide (e1.Op = 1))) && (!((decide (e1.Val.N = 0)) && (decide (e1.Val.D = 0)))) then
   some false
  else
   if (!((decide (e1.Op = 1)) || (decide (e1.Op = 12)))) && (!((decide (e1.Type_.Kind = 0)) && (decide (e1.Type_.Bits = 0)) && (decide (e1.Type_.Frac = 0)) && (decide (e1.Type_.Round = 0)) && (decide (e1.Type_.Over = 0)))) then
    some false
   else
    (gd (!(decide (e1.Op = 2))) (m_expr_isZero e1.Lin)).bind fun r1 =>
    if (!(decide (e1.Op = 2))) && (!r1) then
     some false
    else
     if (!(decide (e1.Op = 3))) && ((!decide (e1.Name = ([] : List UInt8))) || (decide (0 < (e1.Idx.length : Int)))) then
      some false
     else
      (m_slices_ContainsFunc_api_Index_api_Index e1.Idx m_expr_syntax_1).bind fun r2 =>
      some (!r2)
def m_expr_names_1 (x1 : GIndex) : Option Bool :=
 (gd (!decide (x1.From = ([] : List UInt8))) (m_lexer_IsName x1.From)).bind fun r1 =>
 some ((!decide (x1.From = ([] : List UInt8))) && (!r1))
def m_expr_names (e1 : GExpr) : Option Bool :=
 (gd (decide (e1.Op = 3)) (m_lexer_IsName e1.Name)).bind fun r1 =>
 if (decide (e1.Op = 3)) && (!r1) then
  some false
 else
  (m_slices_ContainsFunc_api_Index_api_Index e1.Idx m_expr_names_1).bind fun r2 =>
  some (!r2)
def m_expr_operands_j2 (op1 : Int) (i2 : Bool) : Option Int :=
 if i2 then
  some 1
 else
  if decide (op1 = 11) then
   some 3
  else
   some 2
def m_expr_operands_j1 (op1 : Int) (i1 : Bool) : Option Int :=
 if i1 then
  some 0
 else
  if decide (op1 = 8) then
   m_expr_operands_j2 op1 (decide (op1 = 8))
  else
   if decide (op1 = 12) then
    m_expr_operands_j2 op1 (decide (op1 = 12))
   else
    m_expr_operands_j2 op1 (decide (op1 = 18))
def m_expr_operands (op1 : Int) : Option Int :=
 if decide (op1 = 1) then
  m_expr_operands_j1 op1 (decide (op1 = 1))
 else
  if decide (op1 = 2) then
   m_expr_operands_j1 op1 (decide (op1 = 2))
  else
   m_expr_operands_j1 op1 (decide (op1 = 3))
def m_expr_rank_1 (x1 : GIndex) : Option Bool :=
 some (decide (6 < (x1.At.length : Int)))
def m_expr_rank (e1 : GExpr) : Option Bool :=
 (m_expr_operands e1.Op).bind fun r1 =>
 if (!decide ((e1.Args.length : Int) = r1)) || (decide (6 < (e1.Idx.length : Int))) then
  some false
 else
  (m_slices_ContainsFunc_api_Index_api_Index e1.Idx m_expr_rank_1).bind fun r2 =>
  some (!r2)
def m_expr_IsCondition (e1 : GExpr) : Option Bool :=
 some ((decide (13 ≤ e1.Op)) && (decide (e1.Op ≤ 18)))
def m_expr_requiresCondition (op1 : Int) (i1 : Int) : Option Bool :=
 if decide (op1 = 16) then
  if decide (op1 = 16) then
   some true
  else
   some ((decide (op1 = 11)) && (decide (i1 = 0)))
 else
  if decide (op1 = 17) then
   if decide (op1 = 17) then
    some true
   else
    some ((decide (op1 = 11)) && (decide (i1 = 0)))
  else
   if decide (op1 = 18) then
    some true
   else
    some ((decide (op1 = 11)) && (decide (i1 = 0)))
def m_expr_types_l1 (e1 : GExpr) : Nat → Int → Option Bool
 | 0, _ => none
 | fuel1 + 1, i1 =>
  if decide (i1 < (e1.Args.length : Int)) then
   (lat e1.Args i1).bind fun e2 =>
   (m_expr_IsCondition e2).bind fun r2 =>
   (m_expr_requiresCondition e1.Op i1).bind fun r3 =>
   if r2 != r3 then
    some false
   else
    (m_expr_types_l1 e1 fuel1) (wi64 (i1 + 1))
  else
   some true
def m_expr_types (e1 : GExpr) : Option Bool :=
 (gd ((decide (e1.Op = 1)) || (decide (e1.Op = 12))) (m_value_ValidateType e1.Type_)).bind fun r1 =>
 if ((decide (e1.Op = 1)) || (decide (e1.Op = 12))) && (!decide (r1 = 0)) then
  some false
 else
  m_expr_types_l1 e1 fu 0
def m_value_whole (n1 : Int) : Option Bool :=
 some ((decide ((-2147483647) ≤ n1)) && (decide (n1 ≤ 2147483647)))
def m_value_Valid (t1 : GType) (v1 : GVal) : Option Bool :=
 (m_value_ValidateType t1).bind fun r1 =>
 if !decide (r1 = 0) then
  some false
 else
  if decide (t1.Kind = 2) then
   (m_fixed_Valid t1 v1).bind fun r2 =>
   some r2
  else
   if decide (t1.Kind = 3) then
    (gd (decide (v1.D = 1)) (m_value_whole v1.N)).bind fun r3 =>
    some ((decide (v1.D = 1)) && r3)
   else
    (m_frac_Valid v1).bind fun r4 =>
    some r4
def m_expr_forms (e1 : GExpr) : Option GExpr :=
 some e1
def m_expr_forms_1_s_j1 {σ : Type}  (self1 : Int → σ → Option (Unit × σ)) (i1 : Int) (s4 : σ) : Option (Unit × σ) :=
 self1 (wi64 (i1 + 1)) s4
def m_expr_forms_1_s_l2 {σ : Type}  (e1 : GIndex) (yield1 : (GLin → σ → Option (Bool × σ))) (self1 : Int → σ → Option (Unit × σ)) (i1 : Int) : Nat → Int → σ → Option (Unit × σ)
 | 0, _, _ => none
 | fuel2 + 1, i2, s6 =>
  if decide (i2 < (e1.At.length : Int)) then
   (lat e1.At i2).bind fun e2 =>
   (yield1 e2 s6).bind fun ⟨r3, s7⟩ =>
   if !r3 then
    some ((), s7)
   else
    (m_expr_forms_1_s_l2 e1 yield1 self1 i1 fuel2) (wi64 (i2 + 1)) s7
  else
   m_expr_forms_1_s_j1 self1 i1 s6
def m_expr_forms_1_s_l1 {σ : Type}  (a1 : GExpr) (yield1 : (GLin → σ → Option (Bool × σ))) : Nat → Int → σ → Option (Unit × σ)
 | 0, _, _ => none
 | fuel1 + 1, i1, s3 =>
  if decide (i1 < (a1.Idx.length : Int)) then
   (lat a1.Idx i1).bind fun e1 =>
   (yield1 e1.Lin s3).bind fun ⟨r2, s5⟩ =>
   if !r2 then
    some ((), s5)
   else
    m_expr_forms_1_s_l2 e1 yield1 (m_expr_forms_1_s_l1 a1 yield1 fuel1) i1 fu 0 s5
  else
   some ((), s3)
def m_expr_forms_1_s {σ : Type}  (yield1 : (GLin → σ → Option (Bool × σ))) (a1 : GExpr) (s1 : σ) : Option (Unit × σ) :=
 (yield1 a1.Lin s1).bind fun ⟨r1, s2⟩ =>
 if !r1 then
  some ((), s2)
 else
  m_expr_forms_1_s_l1 a1 yield1 fu 0 s2
def m_expr_validNode_b1 (y1 : GLin) (v1 : Int) : Option (Bool × (Nat × Int)) :=
 (m_lin_Validate y1).bind fun r7 =>
 if !decide (r7 = 0) then
  some (false, (1, 1))
 else
  some (true, (0, v1))
def m_expr_validNode (e1 : GExpr) : Option Int :=
 (m_expr_syntax e1).bind fun r1 =>
 if !r1 then
  some 5
 else
  (m_expr_names e1).bind fun r2 =>
  if !r2 then
   some 7
  else
   (m_expr_rank e1).bind fun r3 =>
   if !r3 then
    some 11
   else
    (m_expr_types e1).bind fun r4 =>
    if !r4 then
     some 10
    else
     (gd (decide (e1.Op = 1)) (m_value_Valid e1.Type_ e1.Val)).bind fun r5 =>
     if (decide (e1.Op = 1)) && (!r5) then
      some 1
     else
      (m_expr_forms e1).bind fun r6 =>
      (m_expr_forms_1_s (fun k_0 q => if q.1 = 0 then m_expr_validNode_b1 k_0 q.2 else none) r6 (0, 0)).bind fun ⟨u1, o1, v2⟩ =>
      if o1 = 0 then
       some 0
      else
       if o1 = 1 then
        some v2
       else
        none
def m_expr_Validate_b1 (y1 : GExpr) (v1 : Int) : Option (Bool × (Nat × Int)) :=
 (m_expr_validNode y1).bind fun r4 =>
 if !decide (r4 = 0) then
  some (false, (1, r4))
 else
  some (true, (0, v1))
def m_expr_Validate (e1 : GExpr) : Option Int :=
 (m_expr_Depth e1).bind fun r1 =>
 if decide (40 < r1) then
  some 13
 else
  (m_expr_Size e1).bind fun r2 =>
  if decide (2000 < r2) then
   some 2
  else
   (m_expr_Walk e1).bind fun r3 =>
   (m_expr_Walk_1_s (fun k_0 q => if q.1 = 0 then m_expr_Validate_b1 k_0 q.2 else none) r3 (0, 0)).bind fun ⟨u1, o1, v2⟩ =>
   if o1 = 0 then
    some 0
   else
    if o1 = 1 then
     some v2
    else
     none
def m_parser_reader_enter_w_j1 (r1 : Gparser_reader) : Option (Pan (Unit × Gparser_reader)) :=
 some (.ret ((), (⟨r1.l, wi64 (r1.at_ + 1), wi64 (r1.deep + 1)⟩ : Gparser_reader)))
def m_parser_reader_enter_w (r1 : Gparser_reader) : Option (Pan (Unit × Gparser_reader)) :=
 if decide (159 < r1.deep) then
  pb (m_parser_reader_fail r1 r1.at_ 13) fun r2 =>
  m_parser_reader_enter_w_j1 r1
 else
  m_parser_reader_enter_w_j1 r1
def m_parser_reader_open_w (r1 : Gparser_reader) : Option (Pan (Unit × Gparser_reader)) :=
 (m_parser_reader_is r1 3 ([40] : List UInt8)).bind fun r2 =>
 if !r2 then
  pb (m_parser_reader_wrong_w r1) fun ⟨r3, s1⟩ =>
  pb (m_parser_reader_enter_w s1) fun ⟨r4, s2⟩ =>
  some (.ret ((), s2))
 else
  pb (m_parser_reader_enter_w r1) fun ⟨r5, s3⟩ =>
  some (.ret ((), s3))
def m_parser_reader_expect_w (r1 : Gparser_reader) (s1 : List UInt8) : Option (Pan (Unit × Gparser_reader)) :=
 (m_parser_reader_accept_w r1 s1).bind fun ⟨r2, s2⟩ =>
 if !r2 then
  pb (m_parser_reader_wrong_w s2) fun ⟨r3, s3⟩ =>
  some (.ret ((), s3))
 else
  some (.ret ((), s2))
def m_parser_reader_close_w (r1 : Gparser_reader) : Option (Pan (Unit × Gparser_reader)) :=
 pb (m_parser_reader_expect_w r1 ([41] : List UInt8)) fun ⟨r2, s1⟩ =>
 some (.ret ((), (⟨s1.l, s1.at_, wi64 (s1.deep - 1)⟩ : Gparser_reader)))
def m_parser_reader_word_w_l1 (l1 : List (List UInt8)) (r1 : Gparser_reader) : Nat → Int → Option (Int × Gparser_reader)
 | 0, _ => none
 | fuel1 + 1, i1 =>
  if decide (i1 < (l1.length : Int)) then
   (lat l1 i1).bind fun e1 =>
   (m_parser_reader_is r1 1 e1).bind fun r2 =>
   if r2 then
    some (i1, (⟨r1.l, wi64 (r1.at_ + 1), r1.deep⟩ : Gparser_reader))
   else
    (m_parser_reader_word_w_l1 l1 r1 fuel1) (wi64 (i1 + 1))
  else
   some ((-1), r1)
def m_parser_reader_word_w (r1 : Gparser_reader) (l1 : List (List UInt8)) : Option (Int × Gparser_reader) :=
 m_parser_reader_word_w_l1 l1 r1 fu 0
def m_parser_reader_small_w (r1 : Gparser_reader) : Option (Pan (Int × Gparser_reader)) :=
 pb (m_parser_reader_number_w r1) fun ⟨r2, s1⟩ =>
 (m_parser_signed r2 false).bind fun r3 =>
 if (!r3.2) || (decide (2147483647 < r3.1)) then
  pb (m_parser_reader_fail s1 r1.at_ 3) fun r4 =>
  some (.ret (r3.1, s1))
 else
  some (.ret (r3.1, s1))
def m_parser_reader_typ_w_j3 (r4 : Int) (r6 : Int) (r8 : Int) (r11 : Int) (r1 : Gparser_reader) (r12 : Gparser_reader) : Option (Pan (GType × Gparser_reader)) :=
 pb (m_parser_reader_expect_w r12 ([41] : List UInt8)) fun ⟨r13, s9⟩ =>
 (m_value_ValidateType (⟨2, r4, r6, wi64 (r8 + 1), wi64 (r11 + 1)⟩ : GType)).bind fun r14 =>
 if !decide (r14 = 0) then
  pb (m_parser_reader_fail s9 r1.at_ 10) fun r15 =>
  some (.ret ((⟨2, r4, r6, wi64 (r8 + 1), wi64 (r11 + 1)⟩ : GType), s9))
 else
  some (.ret ((⟨2, r4, r6, wi64 (r8 + 1), wi64 (r11 + 1)⟩ : GType), s9))
def m_parser_reader_typ_w_j2 (r4 : Int) (r6 : Int) (r8 : Int) (r1 : Gparser_reader) (r9 : Gparser_reader) : Option (Pan (GType × Gparser_reader)) :=
 pb (m_parser_reader_expect_w r9 ([44] : List UInt8)) fun ⟨r10, s7⟩ =>
 (m_parser_reader_word_w s7 ([([115, 97, 116] : List UInt8), ([119, 114, 97, 112] : List UInt8)] : List (List UInt8))).bind fun ⟨r11, s8⟩ =>
 if decide (wi64 (r11 + 1) = 0) then
  pb (m_parser_reader_wrong_w s8) fun ⟨r16, s10⟩ =>
  m_parser_reader_typ_w_j3 r4 r6 r8 r11 r1 s10
 else
  m_parser_reader_typ_w_j3 r4 r6 r8 r11 r1 s8
def m_parser_reader_typ_w_j1 (r1 : Gparser_reader) (r2 : Gparser_reader) : Option (Pan (GType × Gparser_reader)) :=
 pb (m_parser_reader_expect_w r2 ([40] : List UInt8)) fun ⟨r3, s1⟩ =>
 pb (m_parser_reader_small_w s1) fun ⟨r4, s2⟩ =>
 pb (m_parser_reader_expect_w s2 ([44] : List UInt8)) fun ⟨r5, s3⟩ =>
 pb (m_parser_reader_small_w s3) fun ⟨r6, s4⟩ =>
 pb (m_parser_reader_expect_w s4 ([44] : List UInt8)) fun ⟨r7, s5⟩ =>
 (m_parser_reader_word_w s5 ([([102, 108, 111, 111, 114] : List UInt8), ([99, 101, 105, 108] : List UInt8), ([122, 101, 114, 111] : List UInt8), ([101, 118, 101, 110] : List UInt8)] : List (List UInt8))).bind fun ⟨r8, s6⟩ =>
 if decide (wi64 (r8 + 1) = 0) then
  pb (m_parser_reader_wrong_w s6) fun ⟨r17, s11⟩ =>
  m_parser_reader_typ_w_j2 r4 r6 r8 r1 s11
 else
  m_parser_reader_typ_w_j2 r4 r6 r8 r1 s6
def m_parser_reader_typ_w (r1 : Gparser_reader) : Option (Pan (GType × Gparser_reader)) :=
 (m_parser_reader_word_w r1 ([([102, 114, 97, 99] : List UInt8), ([105, 110, 116] : List UInt8), ([102, 105, 120] : List UInt8)] : List (List UInt8))).bind fun ⟨r18, s12⟩ =>
 if decide (r18 = 0) then
  some (.ret ((⟨1, 0, 0, 0, 0⟩ : GType), s12))
 else
  if decide (r18 = 1) then
   some (.ret ((⟨3, 0, 0, 0, 0⟩ : GType), s12))
  else
   if decide (r18 = (-1)) then
    pb (m_parser_reader_wrong_w s12) fun ⟨r19, s13⟩ =>
    m_parser_reader_typ_w_j1 r1 s13
   else
    m_parser_reader_typ_w_j1 r1 s12
def m_parser_reader_constant_w_j3 (r6 : Gparser_reader) (r7 : GVal × Int) (r2 : GType) : Option (Pan (GExpr × Gparser_reader)) :=
 pb (m_parser_reader_expect_w r6 ([41] : List UInt8)) fun ⟨r8, s5⟩ =>
 some (.ret ((⟨1, ([] : List UInt8), r7.1, r2, (⟨0, ([] : List GMono)⟩ : GLin), ([] : List GIndex), ([] : List GExpr)⟩ : GExpr), s5))
def m_parser_reader_constant_w_j2 (r2 : GType) (s2 : Gparser_reader) (text2 : List UInt8) (r6 : Gparser_reader) : Option (Pan (GExpr × Gparser_reader)) :=
 (m_value_Parse r2 text2).bind fun r7 =>
 if !decide (r7.2 = 0) then
  pb (m_parser_reader_fail r6 s2.at_ r7.2) fun r9 =>
  m_parser_reader_constant_w_j3 r6 r7 r2
 else
  m_parser_reader_constant_w_j3 r6 r7 r2
def m_parser_reader_constant_w_j1 (r2 : GType) (s2 : Gparser_reader) (text1 : List UInt8) (r4 : Gparser_reader) : Option (Pan (GExpr × Gparser_reader)) :=
 pb (m_parser_reader_number_w r4) fun ⟨r5, s3⟩ =>
 (lapp text1 r5).bind fun s4 =>
 (m_parser_reader_accept_w s3 ([47] : List UInt8)).bind fun ⟨r10, s6⟩ =>
 if r10 then
  pb (m_parser_reader_number_w s6) fun ⟨r11, s7⟩ =>
  (lapp ([47] : List UInt8) r11).bind fun s8 =>
  (lapp s4 s8).bind fun s9 =>
  m_parser_reader_constant_w_j2 r2 s2 s9 s7
 else
  m_parser_reader_constant_w_j2 r2 s2 s4 s6
def m_parser_reader_constant_w (r1 : Gparser_reader) : Option (Pan (GExpr × Gparser_reader)) :=
 pb (m_parser_reader_typ_w r1) fun ⟨r2, s1⟩ =>
 pb (m_parser_reader_expect_w s1 ([40] : List UInt8)) fun ⟨r3, s2⟩ =>
 (m_parser_reader_accept_w s2 ([45] : List UInt8)).bind fun ⟨r12, s10⟩ =>
 if r12 then
  m_parser_reader_constant_w_j1 r2 s2 ([45] : List UInt8) s10
 else
  m_parser_reader_constant_w_j1 r2 s2 ([] : List UInt8) s10
def m_parser_reader_call_w_j1 (rec_ : (Gparser_reader → Option (Pan (GExpr × Gparser_reader)))) (e1 : GExpr) (self1 : Int → Gparser_reader → GExpr → Option (Pan (GExpr × Gparser_reader))) (i1 : Int) (r4 : Gparser_reader) : Option (Pan (GExpr × Gparser_reader)) :=
 pb (rec_ r4) fun ⟨r5, s2⟩ =>
 (lapp e1.Args ([r5] : List GExpr)).bind fun zs1 =>
 self1 (wi64 (i1 + 1)) s2 (⟨e1.Op, e1.Name, e1.Val, e1.Type_, e1.Lin, e1.Idx, zs1⟩ : GExpr)
def m_parser_reader_call_w_l1 (many1 : Int) (rec_ : (Gparser_reader → Option (Pan (GExpr × Gparser_reader)))) : Nat → Int → Gparser_reader → GExpr → Option (Pan (GExpr × Gparser_reader))
 | 0, _, _, _ => none
 | fuel1 + 1, i1, r3, e1 =>
  if decide (i1 < many1) then
   if decide (0 < i1) then
    pb (m_parser_reader_expect_w r3 ([44] : List UInt8)) fun ⟨r6, s3⟩ =>
    m_parser_reader_call_w_j1 rec_ e1 (m_parser_reader_call_w_l1 many1 rec_ fuel1) i1 s3
   else
    m_parser_reader_call_w_j1 rec_ e1 (m_parser_reader_call_w_l1 many1 rec_ fuel1) i1 r3
  else
   pb (m_parser_reader_close_w r3) fun ⟨r7, s4⟩ =>
   some (.ret (e1, s4))
def m_parser_reader_call_w (rec_ : (Gparser_reader → Option (Pan (GExpr × Gparser_reader)))) (r1 : Gparser_reader) (op1 : Int) (many1 : Int) : Option (Pan (GExpr × Gparser_reader)) :=
 pb (m_parser_reader_open_w r1) fun ⟨r2, s1⟩ =>
 m_parser_reader_call_w_l1 many1 rec_ fu 0 s1 (⟨op1, ([] : List UInt8), (⟨0, 0⟩ : GVal), (⟨0, 0, 0, 0, 0⟩ : GType), (⟨0, ([] : List GMono)⟩ : GLin), ([] : List GIndex), ([] : List GExpr)⟩ : GExpr)
def m_parser_reader_cast_w (rec_ : (Gparser_reader → Option (Pan (GExpr × Gparser_reader)))) (r1 : Gparser_reader) : Option (Pan (GExpr × Gparser_reader)) :=
 pb (m_parser_reader_open_w r1) fun ⟨r2, s1⟩ =>
 pb (m_parser_reader_typ_w s1) fun ⟨r3, s2⟩ =>
 pb (m_parser_reader_expect_w s2 ([44] : List UInt8)) fun ⟨r4, s3⟩ =>
 pb (rec_ s3) fun ⟨r5, s4⟩ =>
 pb (m_parser_reader_close_w s4) fun ⟨r6, s5⟩ =>
 some (.ret ((⟨12, ([] : List UInt8), (⟨0, 0⟩ : GVal), r3, (⟨0, ([] : List GMono)⟩ : GLin), ([] : List GIndex), ([r5] : List GExpr)⟩ : GExpr), s5))
def m_parser_reader_forms_w_l1 : Nat → (List GLin) → Gparser_reader → Option (Pan (List GLin × Gparser_reader))
 | 0, _, _ => none
 | fuel1 + 1, out1, r4 =>
  (m_parser_reader_accept_w r4 ([44] : List UInt8)).bind fun ⟨r5, s3⟩ =>
  if r5 then
   pb (m_parser_reader_form_w s3) fun ⟨r6, s4⟩ =>
   (lapp out1 ([r6] : List GLin)).bind fun zs1 =>
   (m_parser_reader_forms_w_l1 fuel1) zs1 s4
  else
   pb (m_parser_reader_expect_w s3 ([93] : List UInt8)) fun ⟨r7, s5⟩ =>
   some (.ret (out1, s5))
def m_parser_reader_forms_w (r1 : Gparser_reader) : Option (Pan (List GLin × Gparser_reader)) :=
 (m_parser_reader_accept_w r1 ([93] : List UInt8)).bind fun ⟨r2, s1⟩ =>
 if r2 then
  some (.ret (([] : List GLin), s1))
 else
  pb (m_parser_reader_form_w s1) fun ⟨r3, s2⟩ =>
  m_parser_reader_forms_w_l1 fu ([r3] : List GLin) s2
def m_parser_reader_index_w (r1 : Gparser_reader) : Option (Pan (GIndex × Gparser_reader)) :=
 (m_parser_reader_isName r1).bind fun r2 =>
 (gd (r2 && (decide (wi64 (r1.at_ + 1) < (r1.l.length : Int)))) (lat r1.l (wi64 (r1.at_ + 1)))).bind fun e1 =>
 (gd ((r2 && (decide (wi64 (r1.at_ + 1) < (r1.l.length : Int)))) && (decide (e1.Kind = 3))) (lat r1.l (wi64 (r1.at_ + 1)))).bind fun e2 =>
 if !(((r2 && (decide (wi64 (r1.at_ + 1) < (r1.l.length : Int)))) && (decide (e1.Kind = 3))) && (decide (e2.Text = ([91] : List UInt8)))) then
  pb (m_parser_reader_form_w r1) fun ⟨r3, s1⟩ =>
  some (.ret ((⟨r3, ([] : List UInt8), ([] : List GLin)⟩ : GIndex), s1))
 else
  pb (m_parser_reader_name_w r1) fun ⟨r4, s2⟩ =>
  pb (m_parser_reader_expect_w s2 ([91] : List UInt8)) fun ⟨r5, s3⟩ =>
  pb (m_parser_reader_forms_w s3) fun ⟨r6, s4⟩ =>
  some (.ret ((⟨(⟨0, ([] : List GMono)⟩ : GLin), r4, r6⟩ : GIndex), s4))
def m_parser_reader_primary_w_l1 : Nat → Gparser_reader → GExpr → Option (Pan (GExpr × Gparser_reader))
 | 0, _, _ => none
 | fuel1 + 1, r24, e1 =>
  (m_parser_reader_accept_w r24 ([44] : List UInt8)).bind fun ⟨r25, s19⟩ =>
  if r25 then
   pb (m_parser_reader_index_w s19) fun ⟨r26, s20⟩ =>
   (lapp e1.Idx ([r26] : List GIndex)).bind fun zs1 =>
   (m_parser_reader_primary_w_l1 fuel1) s20 (⟨e1.Op, e1.Name, e1.Val, e1.Type_, e1.Lin, zs1, e1.Args⟩ : GExpr)
  else
   pb (m_parser_reader_expect_w s19 ([93] : List UInt8)) fun ⟨r27, s21⟩ =>
   some (.ret (e1, s21))
def m_parser_reader_primary_w (rec_ : (Gparser_reader → Option (Pan (GExpr × Gparser_reader)))) (r1 : Gparser_reader) : Option (Pan (GExpr × Gparser_reader)) :=
 (m_parser_reader_is r1 3 ([40] : List UInt8)).bind fun r2 =>
 if r2 then
  pb (m_parser_reader_open_w r1) fun ⟨r3, s1⟩ =>
  pb (rec_ s1) fun ⟨r4, s2⟩ =>
  pb (m_parser_reader_close_w s2) fun ⟨r5, s3⟩ =>
  some (.ret (r4, s3))
 else
  (m_parser_reader_accept_w r1 ([91] : List UInt8)).bind fun ⟨r6, s4⟩ =>
  if r6 then
   pb (m_parser_reader_form_w s4) fun ⟨r7, s5⟩ =>
   pb (m_parser_reader_expect_w s5 ([93] : List UInt8)) fun ⟨r8, s6⟩ =>
   some (.ret ((⟨2, ([] : List UInt8), (⟨0, 0⟩ : GVal), (⟨0, 0, 0, 0, 0⟩ : GType), r7, ([] : List GIndex), ([] : List GExpr)⟩ : GExpr), s6))
  else
   (m_parser_reader_is s4 1 ([102, 114, 97, 99] : List UInt8)).bind fun r9 =>
   if r9 then
    pb (m_parser_reader_constant_w s4) fun ⟨r10, s7⟩ =>
    some (.ret (r10, s7))
   else
    (m_parser_reader_is s4 1 ([105, 110, 116] : List UInt8)).bind fun r11 =>
    if r11 then
     pb (m_parser_reader_constant_w s4) fun ⟨r12, s8⟩ =>
     some (.ret (r12, s8))
    else
     (m_parser_reader_is s4 1 ([102, 105, 120] : List UInt8)).bind fun r13 =>
     if r13 then
      pb (m_parser_reader_constant_w s4) fun ⟨r14, s9⟩ =>
      some (.ret (r14, s9))
     else
      (m_parser_reader_word_w s4 ([([109, 105, 110] : List UInt8), ([109, 97, 120] : List UInt8), ([105, 102] : List UInt8), ([99, 97, 115, 116] : List UInt8)] : List (List UInt8))).bind fun ⟨r15, s10⟩ =>
      if decide (r15 = 0) then
       pb (m_parser_reader_call_w rec_ s10 9 2) fun ⟨r16, s11⟩ =>
       some (.ret (r16, s11))
      else
       if decide (r15 = 1) then
        pb (m_parser_reader_call_w rec_ s10 10 2) fun ⟨r17, s12⟩ =>
        some (.ret (r17, s12))
       else
        if decide (r15 = 2) then
         pb (m_parser_reader_call_w rec_ s10 11 3) fun ⟨r18, s13⟩ =>
         some (.ret (r18, s13))
        else
         if decide (r15 = 3) then
          pb (m_parser_reader_cast_w rec_ s10) fun ⟨r19, s14⟩ =>
          some (.ret (r19, s14))
         else
          pb (m_parser_reader_name_w s10) fun ⟨r20, s15⟩ =>
          pb (m_parser_reader_expect_w s15 ([91] : List UInt8)) fun ⟨r21, s16⟩ =>
          (m_parser_reader_accept_w s16 ([93] : List UInt8)).bind fun ⟨r22, s17⟩ =>
          if r22 then
           some (.ret ((⟨3, r20, (⟨0, 0⟩ : GVal), (⟨0, 0, 0, 0, 0⟩ : GType), (⟨0, ([] : List GMono)⟩ : GLin), ([] : List GIndex), ([] : List GExpr)⟩ : GExpr), s17))
          else
           pb (m_parser_reader_index_w s17) fun ⟨r23, s18⟩ =>
           m_parser_reader_primary_w_l1 fu s18 (⟨3, r20, (⟨0, 0⟩ : GVal), (⟨0, 0, 0, 0, 0⟩ : GType), (⟨0, ([] : List GMono)⟩ : GLin), ([r23] : List GIndex), ([] : List GExpr)⟩ : GExpr)
def m_parser_reader_unary_w_b (rec_ : (Gparser_reader → Option (Pan (GExpr × Gparser_reader)))) (recs_ : (Gparser_reader → Option (Pan (GExpr × Gparser_reader)))) (r1 : Gparser_reader) : Option (Pan (GExpr × Gparser_reader)) :=
 (m_parser_reader_is r1 3 ([45] : List UInt8)).bind fun r2 =>
 if !r2 then
  pb (m_parser_reader_primary_w rec_ r1) fun ⟨r3, s1⟩ =>
  some (.ret (r3, s1))
 else
  pb (m_parser_reader_enter_w r1) fun ⟨r4, s2⟩ =>
  pb (recs_ s2) fun ⟨r5, s3⟩ =>
  some (.ret ((⟨8, ([] : List UInt8), (⟨0, 0⟩ : GVal), (⟨0, 0, 0, 0, 0⟩ : GType), (⟨0, ([] : List GMono)⟩ : GLin), ([] : List GIndex), ([r5] : List GExpr)⟩ : GExpr), (⟨s3.l, s3.at_, wi64 (s3.deep - 1)⟩ : Gparser_reader)))
def m_parser_reader_unary_w_r (rec_ : (Gparser_reader → Option (Pan (GExpr × Gparser_reader)))) : Nat → (Gparser_reader → Option (Pan (GExpr × Gparser_reader)))
 | 0 => fun _ => none
 | n + 1 => m_parser_reader_unary_w_b rec_ (m_parser_reader_unary_w_r rec_ n)
def m_parser_reader_unary_w (rec_ : (Gparser_reader → Option (Pan (GExpr × Gparser_reader)))) (r1 : Gparser_reader) : Option (Pan (GExpr × Gparser_reader)) := m_parser_reader_unary_w_r rec_ fu r1
def m_parser_reader_chain_w5_j1 (e1 : GExpr) (rec_ : (Gparser_reader → Option (Pan (GExpr × Gparser_reader)))) (self1 : Gparser_reader → GExpr → Option (Pan (GExpr × Gparser_reader))) (op1 : Int) (r4 : Gparser_reader) : Option (Pan (GExpr × Gparser_reader)) :=
 if decide (op1 = 0) then
  some (.ret (e1, r4))
 else
  pb (m_parser_reader_unary_w rec_ r4) fun ⟨r5, s2⟩ =>
  self1 s2 (⟨op1, ([] : List UInt8), (⟨0, 0⟩ : GVal), (⟨0, 0, 0, 0, 0⟩ : GType), (⟨0, ([] : List GMono)⟩ : GLin), ([] : List GIndex), ([e1, r5] : List GExpr)⟩ : GExpr)
def m_parser_reader_chain_w5_j2 (self2 : Int → Int → Gparser_reader → Option (Pan (GExpr × Gparser_reader))) (i1 : Int) (op3 : Int) (r7 : Gparser_reader) : Option (Pan (GExpr × Gparser_reader)) :=
 self2 op3 (wi64 (i1 + 1)) r7
def m_parser_reader_chain_w5_l2 (signs1 : List (List UInt8)) (ops1 : List Int) (e1 : GExpr) (rec_ : (Gparser_reader → Option (Pan (GExpr × Gparser_reader)))) (self1 : Gparser_reader → GExpr → Option (Pan (GExpr × Gparser_reader))) : Nat → Int → Int → Gparser_reader → Option (Pan (GExpr × Gparser_reader))
 | 0, _, _, _ => none
 | fuel2 + 1, op2, i1, r6 =>
  if decide (i1 < (signs1.length : Int)) then
   (lat signs1 i1).bind fun e2 =>
   (gdE (decide (op2 = 0)) (m_parser_reader_accept_w r6 e2) (default, r6)).bind fun ⟨r8, s3⟩ =>
   if (decide (op2 = 0)) && r8 then
    (lat ops1 i1).bind fun e3 =>
    m_parser_reader_chain_w5_j2 (m_parser_reader_chain_w5_l2 signs1 ops1 e1 rec_ self1 fuel2) i1 e3 s3
   else
    m_parser_reader_chain_w5_j2 (m_parser_reader_chain_w5_l2 signs1 ops1 e1 rec_ self1 fuel2) i1 op2 s3
  else
   m_parser_reader_chain_w5_j1 e1 rec_ self1 op2 r6
def m_parser_reader_chain_w5_l1 (signs1 : List (List UInt8)) (ops1 : List Int) (rec_ : (Gparser_reader → Option (Pan (GExpr × Gparser_reader)))) : Nat → Gparser_reader → GExpr → Option (Pan (GExpr × Gparser_reader))
 | 0, _, _ => none
 | fuel1 + 1, r3, e1 =>
  m_parser_reader_chain_w5_l2 signs1 ops1 e1 rec_ (m_parser_reader_chain_w5_l1 signs1 ops1 rec_ fuel1) fu 0 0 r3
def m_parser_reader_chain_w5 (rec_ : (Gparser_reader → Option (Pan (GExpr × Gparser_reader)))) (r1 : Gparser_reader) (signs1 : List (List UInt8)) (ops1 : List Int) : Option (Pan (GExpr × Gparser_reader)) :=
 pb (m_parser_reader_unary_w rec_ r1) fun ⟨r2, s1⟩ =>
 m_parser_reader_chain_w5_l1 signs1 ops1 rec_ fu s1 r2
def m_parser_reader_product_w (rec_ : (Gparser_reader → Option (Pan (GExpr × Gparser_reader)))) (r1 : Gparser_reader) : Option (Pan (GExpr × Gparser_reader)) :=
 pb (m_parser_reader_chain_w5 rec_ r1 ([([42] : List UInt8), ([47] : List UInt8)] : List (List UInt8)) ([6, 7] : List Int)) fun ⟨r2, s1⟩ =>
 some (.ret (r2, s1))
def m_parser_reader_chain_w4_j1 (e1 : GExpr) (rec_ : (Gparser_reader → Option (Pan (GExpr × Gparser_reader)))) (self1 : Gparser_reader → GExpr → Option (Pan (GExpr × Gparser_reader))) (op1 : Int) (r4 : Gparser_reader) : Option (Pan (GExpr × Gparser_reader)) :=
 if decide (op1 = 0) then
  some (.ret (e1, r4))
 else
  pb (m_parser_reader_product_w rec_ r4) fun ⟨r5, s2⟩ =>
  self1 s2 (⟨op1, ([] : List UInt8), (⟨0, 0⟩ : GVal), (⟨0, 0, 0, 0, 0⟩ : GType), (⟨0, ([] : List GMono)⟩ : GLin), ([] : List GIndex), ([e1, r5] : List GExpr)⟩ : GExpr)
def m_parser_reader_chain_w4_j2 (self2 : Int → Int → Gparser_reader → Option (Pan (GExpr × Gparser_reader))) (i1 : Int) (op3 : Int) (r7 : Gparser_reader) : Option (Pan (GExpr × Gparser_reader)) :=
 self2 op3 (wi64 (i1 + 1)) r7
def m_parser_reader_chain_w4_l2 (signs1 : List (List UInt8)) (ops1 : List Int) (e1 : GExpr) (rec_ : (Gparser_reader → Option (Pan (GExpr × Gparser_reader)))) (self1 : Gparser_reader → GExpr → Option (Pan (GExpr × Gparser_reader))) : Nat → Int → Int → Gparser_reader → Option (Pan (GExpr × Gparser_reader))
 | 0, _, _, _ => none
 | fuel2 + 1, op2, i1, r6 =>
  if decide (i1 < (signs1.length : Int)) then
   (lat signs1 i1).bind fun e2 =>
   (gdE (decide (op2 = 0)) (m_parser_reader_accept_w r6 e2) (default, r6)).bind fun ⟨r8, s3⟩ =>
   if (decide (op2 = 0)) && r8 then
    (lat ops1 i1).bind fun e3 =>
    m_parser_reader_chain_w4_j2 (m_parser_reader_chain_w4_l2 signs1 ops1 e1 rec_ self1 fuel2) i1 e3 s3
   else
    m_parser_reader_chain_w4_j2 (m_parser_reader_chain_w4_l2 signs1 ops1 e1 rec_ self1 fuel2) i1 op2 s3
  else
   m_parser_reader_chain_w4_j1 e1 rec_ self1 op2 r6
def m_parser_reader_chain_w4_l1 (signs1 : List (List UInt8)) (ops1 : List Int) (rec_ : (Gparser_reader → Option (Pan (GExpr × Gparser_reader)))) : Nat → Gparser_reader → GExpr → Option (Pan (GExpr × Gparser_reader))
 | 0, _, _ => none
 | fuel1 + 1, r3, e1 =>
  m_parser_reader_chain_w4_l2 signs1 ops1 e1 rec_ (m_parser_reader_chain_w4_l1 signs1 ops1 rec_ fuel1) fu 0 0 r3
def m_parser_reader_chain_w4 (rec_ : (Gparser_reader → Option (Pan (GExpr × Gparser_reader)))) (r1 : Gparser_reader) (signs1 : List (List UInt8)) (ops1 : List Int) : Option (Pan (GExpr × Gparser_reader)) :=
 pb (m_parser_reader_product_w rec_ r1) fun ⟨r2, s1⟩ =>
 m_parser_reader_chain_w4_l1 signs1 ops1 rec_ fu s1 r2
def m_parser_reader_sum_w (rec_ : (Gparser_reader → Option (Pan (GExpr × Gparser_reader)))) (r1 : Gparser_reader) : Option (Pan (GExpr × Gparser_reader)) :=
 pb (m_parser_reader_chain_w4 rec_ r1 ([([43] : List UInt8), ([45] : List UInt8)] : List (List UInt8)) ([4, 5] : List Int)) fun ⟨r2, s1⟩ =>
 some (.ret (r2, s1))
def m_parser_reader_chain_w3_j1 (e1 : GExpr) (rec_ : (Gparser_reader → Option (Pan (GExpr × Gparser_reader)))) (self1 : Gparser_reader → GExpr → Option (Pan (GExpr × Gparser_reader))) (op1 : Int) (r4 : Gparser_reader) : Option (Pan (GExpr × Gparser_reader)) :=
 if decide (op1 = 0) then
  some (.ret (e1, r4))
 else
  pb (m_parser_reader_sum_w rec_ r4) fun ⟨r5, s2⟩ =>
  self1 s2 (⟨op1, ([] : List UInt8), (⟨0, 0⟩ : GVal), (⟨0, 0, 0, 0, 0⟩ : GType), (⟨0, ([] : List GMono)⟩ : GLin), ([] : List GIndex), ([e1, r5] : List GExpr)⟩ : GExpr)
def m_parser_reader_chain_w3_j2 (self2 : Int → Int → Gparser_reader → Option (Pan (GExpr × Gparser_reader))) (i1 : Int) (op3 : Int) (r7 : Gparser_reader) : Option (Pan (GExpr × Gparser_reader)) :=
 self2 op3 (wi64 (i1 + 1)) r7
def m_parser_reader_chain_w3_l2 (signs1 : List (List UInt8)) (ops1 : List Int) (e1 : GExpr) (rec_ : (Gparser_reader → Option (Pan (GExpr × Gparser_reader)))) (self1 : Gparser_reader → GExpr → Option (Pan (GExpr × Gparser_reader))) : Nat → Int → Int → Gparser_reader → Option (Pan (GExpr × Gparser_reader))
 | 0, _, _, _ => none
 | fuel2 + 1, op2, i1, r6 =>
  if decide (i1 < (signs1.length : Int)) then
   (lat signs1 i1).bind fun e2 =>
   (gdE (decide (op2 = 0)) (m_parser_reader_accept_w r6 e2) (default, r6)).bind fun ⟨r8, s3⟩ =>
   if (decide (op2 = 0)) && r8 then
    (lat ops1 i1).bind fun e3 =>
    m_parser_reader_chain_w3_j2 (m_parser_reader_chain_w3_l2 signs1 ops1 e1 rec_ self1 fuel2) i1 e3 s3
   else
    m_parser_reader_chain_w3_j2 (m_parser_reader_chain_w3_l2 signs1 ops1 e1 rec_ self1 fuel2) i1 op2 s3
  else
   m_parser_reader_chain_w3_j1 e1 rec_ self1 op2 r6
def m_parser_reader_chain_w3_l1 (signs1 : List (List UInt8)) (ops1 : List Int) (rec_ : (Gparser_reader → Option (Pan (GExpr × Gparser_reader)))) : Nat → Gparser_reader → GExpr → Option (Pan (GExpr × Gparser_reader))
 | 0, _, _ => none
 | fuel1 + 1, r3, e1 =>
  m_parser_reader_chain_w3_l2 signs1 ops1 e1 rec_ (m_parser_reader_chain_w3_l1 signs1 ops1 rec_ fuel1) fu 0 0 r3
def m_parser_reader_chain_w3 (rec_ : (Gparser_reader → Option (Pan (GExpr × Gparser_reader)))) (r1 : Gparser_reader) (signs1 : List (List UInt8)) (ops1 : List Int) : Option (Pan (GExpr × Gparser_reader)) :=
 pb (m_parser_reader_sum_w rec_ r1) fun ⟨r2, s1⟩ =>
 m_parser_reader_chain_w3_l1 signs1 ops1 rec_ fu s1 r2
def m_parser_reader_not_w_b (rec_ : (Gparser_reader → Option (Pan (GExpr × Gparser_reader)))) (recs_ : (Gparser_reader → Option (Pan (GExpr × Gparser_reader)))) (r1 : Gparser_reader) : Option (Pan (GExpr × Gparser_reader)) :=
 (m_parser_reader_is r1 3 ([33] : List UInt8)).bind fun r2 =>
 if !r2 then
  pb (m_parser_reader_chain_w3 rec_ r1 ([([60] : List UInt8), ([60, 61] : List UInt8), ([61, 61] : List UInt8)] : List (List UInt8)) ([13, 14, 15] : List Int)) fun ⟨r3, s1⟩ =>
  some (.ret (r3, s1))
 else
  pb (m_parser_reader_enter_w r1) fun ⟨r4, s2⟩ =>
  pb (recs_ s2) fun ⟨r5, s3⟩ =>
  some (.ret ((⟨18, ([] : List UInt8), (⟨0, 0⟩ : GVal), (⟨0, 0, 0, 0, 0⟩ : GType), (⟨0, ([] : List GMono)⟩ : GLin), ([] : List GIndex), ([r5] : List GExpr)⟩ : GExpr), (⟨s3.l, s3.at_, wi64 (s3.deep - 1)⟩ : Gparser_reader)))
def m_parser_reader_not_w_r (rec_ : (Gparser_reader → Option (Pan (GExpr × Gparser_reader)))) : Nat → (Gparser_reader → Option (Pan (GExpr × Gparser_reader)))
 | 0 => fun _ => none
 | n + 1 => m_parser_reader_not_w_b rec_ (m_parser_reader_not_w_r rec_ n)
def m_parser_reader_not_w (rec_ : (Gparser_reader → Option (Pan (GExpr × Gparser_reader)))) (r1 : Gparser_reader) : Option (Pan (GExpr × Gparser_reader)) := m_parser_reader_not_w_r rec_ fu r1
def m_parser_reader_chain_w2_j1 (e1 : GExpr) (rec_ : (Gparser_reader → Option (Pan (GExpr × Gparser_reader)))) (self1 : Gparser_reader → GExpr → Option (Pan (GExpr × Gparser_reader))) (op1 : Int) (r4 : Gparser_reader) : Option (Pan (GExpr × Gparser_reader)) :=
 if decide (op1 = 0) then
  some (.ret (e1, r4))
 else
  pb (m_parser_reader_not_w rec_ r4) fun ⟨r5, s2⟩ =>
  self1 s2 (⟨op1, ([] : List UInt8), (⟨0, 0⟩ : GVal), (⟨0, 0, 0, 0, 0⟩ : GType), (⟨0, ([] : List GMono)⟩ : GLin), ([] : List GIndex), ([e1, r5] : List GExpr)⟩ : GExpr)
def m_parser_reader_chain_w2_j2 (self2 : Int → Int → Gparser_reader → Option (Pan (GExpr × Gparser_reader))) (i1 : Int) (op3 : Int) (r7 : Gparser_reader) : Option (Pan (GExpr × Gparser_reader)) :=
 self2 op3 (wi64 (i1 + 1)) r7
def m_parser_reader_chain_w2_l2 (signs1 : List (List UInt8)) (ops1 : List Int) (e1 : GExpr) (rec_ : (Gparser_reader → Option (Pan (GExpr × Gparser_reader)))) (self1 : Gparser_reader → GExpr → Option (Pan (GExpr × Gparser_reader))) : Nat → Int → Int → Gparser_reader → Option (Pan (GExpr × Gparser_reader))
 | 0, _, _, _ => none
 | fuel2 + 1, op2, i1, r6 =>
  if decide (i1 < (signs1.length : Int)) then
   (lat signs1 i1).bind fun e2 =>
   (gdE (decide (op2 = 0)) (m_parser_reader_accept_w r6 e2) (default, r6)).bind fun ⟨r8, s3⟩ =>
   if (decide (op2 = 0)) && r8 then
    (lat ops1 i1).bind fun e3 =>
    m_parser_reader_chain_w2_j2 (m_parser_reader_chain_w2_l2 signs1 ops1 e1 rec_ self1 fuel2) i1 e3 s3
   else
    m_parser_reader_chain_w2_j2 (m_parser_reader_chain_w2_l2 signs1 ops1 e1 rec_ self1 fuel2) i1 op2 s3
  else
   m_parser_reader_chain_w2_j1 e1 rec_ self1 op2 r6
def m_parser_reader_chain_w2_l1 (signs1 : List (List UInt8)) (ops1 : List Int) (rec_ : (Gparser_reader → Option (Pan (GExpr × Gparser_reader)))) : Nat → Gparser_reader → GExpr → Option (Pan (GExpr × Gparser_reader))
 | 0, _, _ => none
 | fuel1 + 1, r3, e1 =>
  m_parser_reader_chain_w2_l2 signs1 ops1 e1 rec_ (m_parser_reader_chain_w2_l1 signs1 ops1 rec_ fuel1) fu 0 0 r3
def m_parser_reader_chain_w2 (rec_ : (Gparser_reader → Option (Pan (GExpr × Gparser_reader)))) (r1 : Gparser_reader) (signs1 : List (List UInt8)) (ops1 : List Int) : Option (Pan (GExpr × Gparser_reader)) :=
 pb (m_parser_reader_not_w rec_ r1) fun ⟨r2, s1⟩ =>
 m_parser_reader_chain_w2_l1 signs1 ops1 rec_ fu s1 r2
def m_parser_reader_and_w (rec_ : (Gparser_reader → Option (Pan (GExpr × Gparser_reader)))) (r1 : Gparser_reader) : Option (Pan (GExpr × Gparser_reader)) :=
 pb (m_parser_reader_chain_w2 rec_ r1 ([([38] : List UInt8)] : List (List UInt8)) ([16] : List Int)) fun ⟨r2, s1⟩ =>
 some (.ret (r2, s1))
def m_parser_reader_chain_w_j1 (e1 : GExpr) (rec_ : (Gparser_reader → Option (Pan (GExpr × Gparser_reader)))) (self1 : Gparser_reader → GExpr → Option (Pan (GExpr × Gparser_reader))) (op1 : Int) (r4 : Gparser_reader) : Option (Pan (GExpr × Gparser_reader)) :=
 if decide (op1 = 0) then
  some (.ret (e1, r4))
 else
  pb (m_parser_reader_and_w rec_ r4) fun ⟨r5, s2⟩ =>
  self1 s2 (⟨op1, ([] : List UInt8), (⟨0, 0⟩ : GVal), (⟨0, 0, 0, 0, 0⟩ : GType), (⟨0, ([] : List GMono)⟩ : GLin), ([] : List GIndex), ([e1, r5] : List GExpr)⟩ : GExpr)
def m_parser_reader_chain_w_j2 (self2 : Int → Int → Gparser_reader → Option (Pan (GExpr × Gparser_reader))) (i1 : Int) (op3 : Int) (r7 : Gparser_reader) : Option (Pan (GExpr × Gparser_reader)) :=
 self2 op3 (wi64 (i1 + 1)) r7
def m_parser_reader_chain_w_l2 (signs1 : List (List UInt8)) (ops1 : List Int) (e1 : GExpr) (rec_ : (Gparser_reader → Option (Pan (GExpr × Gparser_reader)))) (self1 : Gparser_reader → GExpr → Option (Pan (GExpr × Gparser_reader))) : Nat → Int → Int → Gparser_reader → Option (Pan (GExpr × Gparser_reader))
 | 0, _, _, _ => none
 | fuel2 + 1, op2, i1, r6 =>
  if decide (i1 < (signs1.length : Int)) then
   (lat signs1 i1).bind fun e2 =>
   (gdE (decide (op2 = 0)) (m_parser_reader_accept_w r6 e2) (default, r6)).bind fun ⟨r8, s3⟩ =>
   if (decide (op2 = 0)) && r8 then
    (lat ops1 i1).bind fun e3 =>
    m_parser_reader_chain_w_j2 (m_parser_reader_chain_w_l2 signs1 ops1 e1 rec_ self1 fuel2) i1 e3 s3
   else
    m_parser_reader_chain_w_j2 (m_parser_reader_chain_w_l2 signs1 ops1 e1 rec_ self1 fuel2) i1 op2 s3
  else
   m_parser_reader_chain_w_j1 e1 rec_ self1 op2 r6
def m_parser_reader_chain_w_l1 (signs1 : List (List UInt8)) (ops1 : List Int) (rec_ : (Gparser_reader → Option (Pan (GExpr × Gparser_reader)))) : Nat → Gparser_reader → GExpr → Option (Pan (GExpr × Gparser_reader))
 | 0, _, _ => none
 | fuel1 + 1, r3, e1 =>
  m_parser_reader_chain_w_l2 signs1 ops1 e1 rec_ (m_parser_reader_chain_w_l1 signs1 ops1 rec_ fuel1) fu 0 0 r3
def m_parser_reader_chain_w (rec_ : (Gparser_reader → Option (Pan (GExpr × Gparser_reader)))) (r1 : Gparser_reader) (signs1 : List (List UInt8)) (ops1 : List Int) : Option (Pan (GExpr × Gparser_reader)) :=
 pb (m_parser_reader_and_w rec_ r1) fun ⟨r2, s1⟩ =>
 m_parser_reader_chain_w_l1 signs1 ops1 rec_ fu s1 r2
def m_parser_reader_or_w_b (rec_ : (Gparser_reader → Option (Pan (GExpr × Gparser_reader)))) (r1 : Gparser_reader) : Option (Pan (GExpr × Gparser_reader)) :=
 pb (m_parser_reader_chain_w rec_ r1 ([([124] : List UInt8)] : List (List UInt8)) ([17] : List Int)) fun ⟨r2, s1⟩ =>
 some (.ret (r2, s1))
def m_parser_reader_or_w_r : Nat → (Gparser_reader → Option (Pan (GExpr × Gparser_reader)))
 | 0 => fun _ => none
 | n + 1 => m_parser_reader_or_w_b (m_parser_reader_or_w_r n)
def m_parser_reader_or_w  (r1 : Gparser_reader) : Option (Pan (GExpr × Gparser_reader)) := m_parser_reader_or_w_r fu r1
def m_parser_ExprAt_1_w2 (a1 : Gparser_reader) (a3 : GExpr) : Option (Pan (Unit × Gparser_reader × GExpr)) :=
 pb (m_parser_reader_or_w a1) fun ⟨r1, s1⟩ =>
 some (.ret ((), s1, r1))
def m_parser_ExprAt (l1 : List GToken) (at1 : Int) : Option (GExpr × Int × Int) :=
 if (decide (at1 < 0)) || (decide ((l1.length : Int) < at1)) then
  some ((⟨0, ([] : List UInt8), (⟨0, 0⟩ : GVal), (⟨0, 0, 0, 0, 0⟩ : GType), (⟨0, ([] : List GMono)⟩ : GLin), ([] : List GIndex), ([] : List GExpr)⟩ : GExpr), 0, 1)
 else
  pcatch (m_parser_ExprAt_1_w2 (⟨l1, at1, 0⟩ : Gparser_reader) (⟨0, ([] : List UInt8), (⟨0, 0⟩ : GVal), (⟨0, 0, 0, 0, 0⟩ : GType), (⟨0, ([] : List GMono)⟩ : GLin), ([] : List GIndex), ([] : List GExpr)⟩ : GExpr)) (fun ⟨r1, s1, s2⟩ =>
   if !decide (0 = 0) then
    some ((⟨0, ([] : List UInt8), (⟨0, 0⟩ : GVal), (⟨0, 0, 0, 0, 0⟩ : GType), (⟨0, ([] : List GMono)⟩ : GLin), ([] : List GIndex), ([] : List GExpr)⟩ : GExpr), 0, 0)
   else
    (m_expr_Validate s2).bind fun r2 =>
    if !decide (r2 = 0) then
     some ((⟨0, ([] : List UInt8), (⟨0, 0⟩ : GVal), (⟨0, 0, 0, 0, 0⟩ : GType), (⟨0, ([] : List GMono)⟩ : GLin), ([] : List GIndex), ([] : List GExpr)⟩ : GExpr), at1, r2)
    else
     some (s2, s1.at_, 0)) fun pa1 pn1 =>
   some ((⟨0, ([] : List UInt8), (⟨0, 0⟩ : GVal), (⟨0, 0, 0, 0, 0⟩ : GType), (⟨0, ([] : List GMono)⟩ : GLin), ([] : List GIndex), ([] : List GExpr)⟩ : GExpr), pa1, pn1)
def m_parser_offset (s1 : List UInt8) (l1 : List GToken) (at1 : Int) : Option Int :=
 if decide ((l1.length : Int) ≤ at1) then
  some (s1.length : Int)
 else
  (lat l1 at1).bind fun e1 =>
  some e1.At
def m_parser_Expr_j1 (s1 : List UInt8) (r1 : List GToken × Int × Int) (r2 : GExpr × Int × Int) (e1 : Int) : Option (GExpr × Int × Int) :=
 if !decide (e1 = 0) then
  (m_parser_offset s1 r1.1 r2.2.1).bind fun r3 =>
  some ((⟨0, ([] : List UInt8), (⟨0, 0⟩ : GVal), (⟨0, 0, 0, 0, 0⟩ : GType), (⟨0, ([] : List GMono)⟩ : GLin), ([] : List GIndex), ([] : List GExpr)⟩ : GExpr), r3, e1)
 else
  some (r2.1, 0, 0)
def m_parser_Expr (s1 : List UInt8) : Option (GExpr × Int × Int) :=
 (m_lexer_Tokenize s1).bind fun r1 =>
 if !decide (r1.2.2 = 0) then
  some ((⟨0, ([] : List UInt8), (⟨0, 0⟩ : GVal), (⟨0, 0, 0, 0, 0⟩ : GType), (⟨0, ([] : List GMono)⟩ : GLin), ([] : List GIndex), ([] : List GExpr)⟩ : GExpr), r1.2.1, r1.2.2)
 else
  (m_parser_ExprAt r1.1 0).bind fun r2 =>
  if (decide (r2.2.2 = 0)) && (decide (r2.2.1 < (r1.1.length : Int))) then
   m_parser_Expr_j1 s1 r1 r2 5
  else
   m_parser_Expr_j1 s1 r1 r2 r2.2.2
def m_base_Lin_l1 (a1 : GLin) (b1 : GLin) : Nat → Int → Option Bool
 | 0, _ => none
 | fuel1 + 1, i1 =>
  if decide (i1 < (a1.L.length : Int)) then
   (lat a1.L i1).bind fun e1 =>
   (lat b1.L i1).bind fun e2 =>
   if !((decide (e1.Name = e2.Name)) && (decide (e1.By = e2.By))) then
    some false
   else
    (m_base_Lin_l1 a1 b1 fuel1) (wi64 (i1 + 1))
  else
   some true
def m_base_Lin (a1 : GLin) (b1 : GLin) : Option Bool :=
 if (!decide (a1.K = b1.K)) || (!decide ((a1.L.length : Int) = (b1.L.length : Int))) then
  some false
 else
  m_base_Lin_l1 a1 b1 fu 0
def m_law16_examples : Option Bool :=
 (m_ref13_Tokenize ([50, 42, 105, 32, 45, 32, 51, 32, 43, 32, 105] : List UInt8)).bind fun r1 =>
 (m_parser_Lin r1.1 0).bind fun r2 =>
 (m_parser_Expr ([97, 91, 105, 93, 32, 43, 32, 98, 91, 93, 32, 42, 32, 91, 50, 93] : List UInt8)).bind fun r3 =>
 (m_parser_Expr ([97, 91] : List UInt8)).bind fun r4 =>
 (m_parser_Expr ([97, 91, 105, 93, 32, 43, 42, 32, 50] : List UInt8)).bind fun r5 =>
 (m_parser_Expr ([102, 114, 97, 99, 40, 50, 47, 52, 41] : List UInt8)).bind fun r6 =>
 if (!((!decide (r2.2.2 = 0)) || (!decide (r2.2.1 = 7)))) = true then
  (m_base_Lin r2.1 (⟨(-3), ([(⟨([105] : List UInt8), 3⟩ : GMono)] : List GMono)⟩ : GLin)).bind fun r7 =>
  if ((((!decide (r2.2.2 = 0)) || (!decide (r2.2.1 = 7))) || (!r7)) || (!decide (r3.2.2 = 0))) || (!decide ((r3.1.Args.length : Int) = 2)) then
   some false
  else
   (gd (decide (r3.1.Op = 4)) (lat r3.1.Args 0)).bind fun e1 =>
   (gd ((decide (r3.1.Op = 4)) && (decide (e1.Op = 3))) (lat r3.1.Args 1)).bind fun e2 =>
   some (((((((((decide (r3.1.Op = 4)) && (decide (e1.Op = 3))) && (decide (e2.Op = 6))) && (decide (r4.2.1 = 2))) && (decide (r4.2.2 = 6))) && (decide (r5.2.1 = 6))) && (decide (r5.2.2 = 5))) && (decide (r6.2.1 = 5))) && (decide (r6.2.2 = 5)))
 else none
def m_ref16_is_j1 (p1 : Gbrocaderef16_State) (k1 : Int) (s1 : List UInt8) (kind1 : Int) : Option Bool :=
 (lat p1.L (wi64 (p1.At + k1))).bind fun e1 =>
 (gd (decide (e1.Kind = kind1)) (lat p1.L (wi64 (p1.At + k1)))).bind fun e2 =>
 some ((decide (e1.Kind = kind1)) && (decide (e2.Text = s1)))
def m_ref16_is (p1 : Gbrocaderef16_State) (k1 : Int) (s1 : List UInt8) : Option Bool :=
 if (!decide (p1.E = 0)) || (decide ((p1.L.length : Int) ≤ wi64 (p1.At + k1))) then
  some false
 else
  (sat s1 0).bind fun b2 =>
  (gd (decide (97 ≤ b2)) (sat s1 0)).bind fun b3 =>
  if (decide (97 ≤ b2)) && (decide (b3 ≤ 122)) then
   m_ref16_is_j1 p1 k1 s1 1
  else
   m_ref16_is_j1 p1 k1 s1 3
def m_base_Words : Option (List (List UInt8)) :=
 some ([([115, 105, 122, 101] : List UInt8), ([119, 104, 101, 114, 101] : List UInt8), ([105, 110] : List UInt8), ([100, 101, 102] : List UInt8), ([111, 117, 116] : List UInt8), ([115, 117, 109] : List UInt8), ([112, 114, 111, 100] : List UInt8), ([109, 105, 110] : List UInt8), ([109, 97, 120] : List UInt8), ([115, 99, 97, 110] : List UInt8), ([111, 118, 101, 114] : List UInt8), ([105, 102] : List UInt8), ([99, 97, 115, 116] : List UInt8), ([102, 114, 97, 99] : List UInt8), ([105, 110, 116] : List UInt8), ([102, 105, 120] : List UInt8), ([99, 101, 105, 108] : List UInt8), ([102, 108, 111, 111, 114] : List UInt8), ([122, 101, 114, 111] : List UInt8), ([101, 118, 101, 110] : List UInt8), ([115, 97, 116] : List UInt8), ([119, 114, 97, 112] : List UInt8)] : List (List UInt8))
def m_base_Has_l1 (l1 : List (List UInt8)) (s1 : List UInt8) : Nat → Int → Option Bool
 | 0, _ => none
 | fuel1 + 1, i1 =>
  if decide (i1 < (l1.length : Int)) then
   (lat l1 i1).bind fun e1 =>
   if decide (e1 = s1) then
    some true
   else
    (m_base_Has_l1 l1 s1 fuel1) (wi64 (i1 + 1))
  else
   some false
def m_base_Has (l1 : List (List UInt8)) (s1 : List UInt8) : Option Bool :=
 m_base_Has_l1 l1 s1 fu 0
def m_base_Name_l1 (s1 : List UInt8) : Nat → Int → Option Bool
 | 0, _ => none
 | fuel1 + 1, i1 =>
  if decide (i1 < (s1.length : Int)) then
   (sat s1 i1).bind fun b1 =>
   if !(((decide (97 ≤ b1)) && (decide (b1 ≤ 122))) || ((decide (0 < i1)) && (((decide (48 ≤ b1)) && (decide (b1 ≤ 57))) || (decide (b1 = 95))))) then
    some false
   else
    (m_base_Name_l1 s1 fuel1) (wi64 (i1 + 1))
  else
   some true
def m_base_Name (s1 : List UInt8) : Option Bool :=
 (gd (!((decide ((s1.length : Int) < 1)) || (decide (16 < (s1.length : Int))))) (m_base_Words)).bind fun r1 =>
 (gd (!((decide ((s1.length : Int) < 1)) || (decide (16 < (s1.length : Int))))) (m_base_Has r1 s1)).bind fun r2 =>
 if ((decide ((s1.length : Int) < 1)) || (decide (16 < (s1.length : Int)))) || r2 then
  some false
 else
  m_base_Name_l1 s1 fu 0
def m_ref16_ahead (p1 : Gbrocaderef16_State) : Option Bool :=
 (gd ((decide (p1.E = 0)) && (decide (p1.At < (p1.L.length : Int)))) (lat p1.L p1.At)).bind fun e1 =>
 (gd (((decide (p1.E = 0)) && (decide (p1.At < (p1.L.length : Int)))) && (decide (e1.Kind = 1))) (lat p1.L p1.At)).bind fun e2 =>
 (gd (((decide (p1.E = 0)) && (decide (p1.At < (p1.L.length : Int)))) && (decide (e1.Kind = 1))) (m_base_Name e2.Text)).bind fun r1 =>
 some ((((decide (p1.E = 0)) && (decide (p1.At < (p1.L.length : Int)))) && (decide (e1.Kind = 1))) && r1)
def m_ref16_fail (p1 : Gbrocaderef16_State) (at1 : Int) (e1 : Int) : Option Gbrocaderef16_State :=
 if decide (p1.E = 0) then
  some (⟨p1.L, p1.At, p1.Deep, e1, at1⟩ : Gbrocaderef16_State)
 else
  some p1
def m_ref16_wrong (p1 : Gbrocaderef16_State) : Option Gbrocaderef16_State :=
 if decide ((p1.L.length : Int) ≤ p1.At) then
  (m_ref16_fail p1 (p1.L.length : Int) 6).bind fun r1 =>
  some r1
 else
  (m_ref16_fail p1 p1.At 5).bind fun r2 =>
  some r2
def m_ref16_name (p1 : Gbrocaderef16_State) : Option (List UInt8 × Gbrocaderef16_State) :=
 (m_ref16_ahead p1).bind fun r1 =>
 if !r1 then
  (m_ref16_wrong p1).bind fun r2 =>
  some (([] : List UInt8), r2)
 else
  (lat p1.L (wi64 ((wi64 (p1.At + 1)) - 1))).bind fun e1 =>
  some (e1.Text, (⟨p1.L, wi64 (p1.At + 1), p1.Deep, p1.E, p1.Pos⟩ : Gbrocaderef16_State))
def m_ref05_Var (name1 : List UInt8) : Option GLin :=
 (m_base_Name name1).bind fun r1 =>
 if !r1 then
  some (⟨0, ([] : List GMono)⟩ : GLin)
 else
  some (⟨0, ([(⟨name1, 1⟩ : GMono)] : List GMono)⟩ : GLin)
def m_ref16_digits_j1 (s1 : List UInt8) : Option Bool :=
 (gd ((!(decide (s1 = ([48] : List UInt8)))) && (decide (0 < (s1.length : Int)))) (sat s1 0)).bind fun b1 =>
 some ((decide (s1 = ([48] : List UInt8))) || ((decide (0 < (s1.length : Int))) && (!decide (b1 = 48))))
def m_ref16_digits_l1 (s1 : List UInt8) : Nat → Int → Option Bool
 | 0, _ => none
 | fuel1 + 1, i1 =>
  if decide (i1 < (s1.length : Int)) then
   (sat s1 i1).bind fun b2 =>
   (gd (!(decide (b2 < 48))) (sat s1 i1)).bind fun b3 =>
   if (decide (b2 < 48)) || (decide (57 < b3)) then
    some false
   else
    (m_ref16_digits_l1 s1 fuel1) (wi64 (i1 + 1))
  else
   m_ref16_digits_j1 s1
def m_ref16_digits (s1 : List UInt8) : Option Bool :=
 m_ref16_digits_l1 s1 fu 0
def m_ref16_number (p1 : Gbrocaderef16_State) : Option (List UInt8 × Gbrocaderef16_State) :=
 (gd (!((!decide (p1.E = 0)) || (decide ((p1.L.length : Int) ≤ p1.At)))) (lat p1.L p1.At)).bind fun e1 =>
 (gd (!(((!decide (p1.E = 0)) || (decide ((p1.L.length : Int) ≤ p1.At))) || (!decide (e1.Kind = 2)))) (lat p1.L p1.At)).bind fun e2 =>
 (gd (!(((!decide (p1.E = 0)) || (decide ((p1.L.length : Int) ≤ p1.At))) || (!decide (e1.Kind = 2)))) (m_ref16_digits e2.Text)).bind fun r1 =>
 if (((!decide (p1.E = 0)) || (decide ((p1.L.length : Int) ≤ p1.At))) || (!decide (e1.Kind = 2))) || (!r1) then
  (m_ref16_wrong p1).bind fun r2 =>
  some (([] : List UInt8), r2)
 else
  (lat p1.L (wi64 ((wi64 (p1.At + 1)) - 1))).bind fun e3 =>
  some (e3.Text, (⟨p1.L, wi64 (p1.At + 1), p1.Deep, p1.E, p1.Pos⟩ : Gbrocaderef16_State))
def m_base_Times (a1 : Int) (b1 : Int) : Option (Int × Bool) :=
 if (decide (a1 = 0)) || (decide (b1 = 0)) then
  some (0, true)
 else
  if ((!(((decide (a1 = (-1))) && (decide (b1 = (-9223372036854775808)))) || ((decide (b1 = (-1))) && (decide (a1 = (-9223372036854775808)))))) = true → b1 ≠ 0) then
   if (((decide (a1 = (-1))) && (decide (b1 = (-9223372036854775808)))) || ((decide (b1 = (-1))) && (decide (a1 = (-9223372036854775808))))) || (!decide (wi64 (Int.tdiv (wi64 (a1 * b1)) b1) = a1)) then
    some (0, false)
   else
    some (wi64 (a1 * b1), true)
  else none
def m_base_Plus (a1 : Int) (b1 : Int) : Option (Int × Bool) :=
 if ((decide (0 < b1)) && (decide (wi64 (9223372036854775807 - b1) < a1))) || ((decide (b1 < 0)) && (decide (a1 < wi64 ((-9223372036854775808) - b1)))) then
  some (0, false)
 else
  some (wi64 (a1 + b1), true)
def m_ref16_signed_j1 (n1 : Int) (self1 : Int → Int → Option (Int × Bool)) (i1 : Int) (d1 : Int) : Option (Int × Bool) :=
 (m_base_Times n1 10).bind fun r1 =>
 (m_base_Plus r1.1 d1).bind fun r2 =>
 if (!r1.2) || (!r2.2) then
  some (0, false)
 else
  self1 r2.1 (wi64 (i1 + 1))
def m_ref16_signed_l1 (s1 : List UInt8) (negative1 : Bool) : Nat → Int → Int → Option (Int × Bool)
 | 0, _, _ => none
 | fuel1 + 1, n1, i1 =>
  if decide (i1 < (s1.length : Int)) then
   (sat s1 i1).bind fun b1 =>
   if negative1 then
    (some (wi64 (-(wi64 (wu8 (b1 - 48)))))).bind fun d2 =>
    m_ref16_signed_j1 n1 (m_ref16_signed_l1 s1 negative1 fuel1) i1 d2
   else
    m_ref16_signed_j1 n1 (m_ref16_signed_l1 s1 negative1 fuel1) i1 (wi64 (wu8 (b1 - 48)))
  else
   some (n1, true)
def m_ref16_signed (s1 : List UInt8) (negative1 : Bool) : Option (Int × Bool) :=
 m_ref16_signed_l1 s1 negative1 fu 0 0
def m_base_LinRight_l1 (l1 : GLin) : Nat → Int → Option Bool
 | 0, _ => none
 | fuel1 + 1, i1 =>
  if decide (i1 < (l1.L.length : Int)) then
   (lat l1.L i1).bind fun e1 =>
   (m_base_Name e1.Name).bind fun r1 =>
   (gd (!(!r1)) (lat l1.L i1)).bind fun e2 =>
   (gd ((!((!r1) || (decide (e2.By = 0)))) && (decide (0 < i1))) (lat l1.L (wi64 (i1 - 1)))).bind fun e3 =>
   (gd ((!((!r1) || (decide (e2.By = 0)))) && (decide (0 < i1))) (lat l1.L i1)).bind fun e4 =>
   if ((!r1) || (decide (e2.By = 0))) || ((decide (0 < i1)) && (!Op.bytesLess e3.Name e4.Name)) then
    some false
   else
    (m_base_LinRight_l1 l1 fuel1) (wi64 (i1 + 1))
  else
   some true
def m_base_LinRight (l1 : GLin) : Option Bool :=
 m_base_LinRight_l1 l1 fu 0
def m_ref05_Validate (l1 : GLin) : Option Int :=
 (m_base_LinRight l1).bind fun r1 =>
 if !r1 then
  some 1
 else
  some 0
def m_ref05_Scale_l1 (a1 : GLin) (by1 : Int) : Nat → Int → GLin → Option (GLin × Int)
 | 0, _, _ => none
 | fuel1 + 1, i1, out1 =>
  if decide (i1 < (a1.L.length : Int)) then
   (lat a1.L i1).bind fun e1 =>
   (m_base_Times e1.By by1).bind fun r3 =>
   if !r3.2 then
    some ((⟨0, ([] : List GMono)⟩ : GLin), 3)
   else
    (lat a1.L i1).bind fun e2 =>
    (lapp out1.L ([(⟨e2.Name, r3.1⟩ : GMono)] : List GMono)).bind fun zs1 =>
    (m_ref05_Scale_l1 a1 by1 fuel1) (wi64 (i1 + 1)) (⟨out1.K, zs1⟩ : GLin)
  else
   some (out1, 0)
def m_ref05_Scale (a1 : GLin) (by1 : Int) : Option (GLin × Int) :=
 (m_ref05_Validate a1).bind fun r1 =>
 if !decide (r1 = 0) then
  some ((⟨0, ([] : List GMono)⟩ : GLin), 1)
 else
  if decide (by1 = 0) then
   some ((⟨0, ([] : List GMono)⟩ : GLin), 0)
  else
   (m_base_Times a1.K by1).bind fun r2 =>
   if !r2.2 then
    some ((⟨0, ([] : List GMono)⟩ : GLin), 3)
   else
    m_ref05_Scale_l1 a1 by1 fu 0 (⟨r2.1, ([] : List GMono)⟩ : GLin)
def m_ref05_insert_w_l1 : Nat → (List (List UInt8)) → Int → Option (List (List UInt8))
 | 0, _, _ => none
 | fuel1 + 1, l2, i2 =>
  (gd (decide (0 < i2)) (lat l2 (wi64 (i2 - 1)))).bind fun e1 =>
  (gd (decide (0 < i2)) (lat l2 i2)).bind fun e2 =>
  if (decide (0 < i2)) && (!Op.bytesLess e1 e2 && !decide (e1 = e2)) then
   (lat l2 i2).bind fun e3 =>
   (lat l2 (wi64 (i2 - 1))).bind fun e4 =>
   if 0 ≤ i2 ∧ i2 < (l2.length : Int) then
    if 0 ≤ (wi64 (i2 - 1)) ∧ (wi64 (i2 - 1)) < ((l2.set (Int.toNat i2) e4).length : Int) then
     (m_ref05_insert_w_l1 fuel1) ((l2.set (Int.toNat i2) e4).set (Int.toNat (wi64 (i2 - 1))) e3) (wi64 (i2 - 1))
    else none
   else none
  else
   some (l2)
def m_ref05_insert_w (l1 : List (List UInt8)) (s1 : List UInt8) : Option (List (List UInt8)) :=
 (m_base_Has l1 s1).bind fun r1 =>
 if r1 then
  some (l1)
 else
  (lapp l1 ([s1] : List (List UInt8))).bind fun zs1 =>
  (some (wi64 ((zs1.length : Int) - 1))).bind fun i1 =>
  m_ref05_insert_w_l1 fu zs1 i1
def m_ref05_Names_j1 (self1 : (List (List UInt8)) → Int → Option (List (List UInt8))) (i1 : Int) (out2 : List (List UInt8)) : Option (List (List UInt8)) :=
 self1 out2 (wi64 (i1 + 1))
def m_ref05_Names_l2 (l1 : List GLin) (i1 : Int) (self1 : (List (List UInt8)) → Int → Option (List (List UInt8))) : Nat → (List (List UInt8)) → Int → Option (List (List UInt8))
 | 0, _, _ => none
 | fuel2 + 1, out3, k1 =>
  (lat l1 i1).bind fun e1 =>
  if decide (k1 < (e1.L.length : Int)) then
   (lat l1 i1).bind fun e2 =>
   (lat e2.L k1).bind fun e3 =>
   (m_ref05_insert_w out3 e3.Name).bind fun r1 =>
   (m_ref05_Names_l2 l1 i1 self1 fuel2) r1 (wi64 (k1 + 1))
  else
   m_ref05_Names_j1 self1 i1 out3
def m_ref05_Names_l1 (l1 : List GLin) : Nat → (List (List UInt8)) → Int → Option (List (List UInt8))
 | 0, _, _ => none
 | fuel1 + 1, out1, i1 =>
  if decide (i1 < (l1.length : Int)) then
   m_ref05_Names_l2 l1 i1 (m_ref05_Names_l1 l1 fuel1) fu out1 0
  else
   some out1
def m_ref05_Names (l1 : List GLin) : Option (List (List UInt8)) :=
 m_ref05_Names_l1 l1 fu ([] : List (List UInt8)) 0
def m_ref05_Coeff_l1 (l1 : GLin) (name1 : List UInt8) : Nat → Int → Option Int
 | 0, _ => none
 | fuel1 + 1, i1 =>
  if decide (i1 < (l1.L.length : Int)) then
   (lat l1.L i1).bind fun e1 =>
   if decide (e1.Name = name1) then
    (lat l1.L i1).bind fun e2 =>
    some e2.By
   else
    (m_ref05_Coeff_l1 l1 name1 fuel1) (wi64 (i1 + 1))
  else
   some 0
def m_ref05_Coeff (l1 : GLin) (name1 : List UInt8) : Option Int :=
 m_ref05_Coeff_l1 l1 name1 fu 0
def m_ref05_Add_j1 (self1 : Int → GLin → Option (GLin × Int)) (i1 : Int) (out2 : GLin) : Option (GLin × Int) :=
 self1 (wi64 (i1 + 1)) out2
def m_ref05_Add_l1 (r4 : List (List UInt8)) (a1 : GLin) (b1 : GLin) : Nat → Int → GLin → Option (GLin × Int)
 | 0, _, _ => none
 | fuel1 + 1, i1, out1 =>
  if decide (i1 < (r4.length : Int)) then
   (lat r4 i1).bind fun e1 =>
   (lat r4 i1).bind fun e2 =>
   (m_ref05_Coeff a1 e1).bind fun r5 =>
   (m_ref05_Coeff b1 e2).bind fun r6 =>
   (m_base_Plus r5 r6).bind fun r7 =>
   if !r7.2 then
    some ((⟨0, ([] : List GMono)⟩ : GLin), 3)
   else
    if !decide (r7.1 = 0) then
     (lat r4 i1).bind fun e3 =>
     (lapp out1.L ([(⟨e3, r7.1⟩ : GMono)] : List GMono)).bind fun zs1 =>
     m_ref05_Add_j1 (m_ref05_Add_l1 r4 a1 b1 fuel1) i1 (⟨out1.K, zs1⟩ : GLin)
    else
     m_ref05_Add_j1 (m_ref05_Add_l1 r4 a1 b1 fuel1) i1 out1
  else
   some (out1, 0)
def m_ref05_Add (a1 : GLin) (b1 : GLin) : Option (GLin × Int) :=
 (m_ref05_Validate a1).bind fun r1 =>
 (gd (!(!decide (r1 = 0))) (m_ref05_Validate b1)).bind fun r2 =>
 if (!decide (r1 = 0)) || (!decide (r2 = 0)) then
  some ((⟨0, ([] : List GMono)⟩ : GLin), 1)
 else
  (m_base_Plus a1.K b1.K).bind fun r3 =>
  if !r3.2 then
   some ((⟨0, ([] : List GMono)⟩ : GLin), 3)
  else
   (m_ref05_Names ([a1, b1] : List GLin)).bind fun r4 =>
   m_ref05_Add_l1 r4 a1 b1 fu 0 (⟨r3.1, ([] : List GMono)⟩ : GLin)
def m_ref16_term_j1 (negative1 : Bool) (f1 : GLin) (p1 : Gbrocaderef16_State) (s1 : List UInt8) (x1 : GLin) (p2 : Gbrocaderef16_State) : Option (GLin × Gbrocaderef16_State) :=
 if !decide (p2.E = 0) then
  some ((⟨0, ([] : List GMono)⟩ : GLin), p2)
 else
  (m_ref16_signed s1 negative1).bind fun r1 =>
  (m_ref05_Scale x1 r1.1).bind fun r2 =>
  (m_ref05_Add f1 r2.1).bind fun r3 =>
  if (!r1.2) || (!decide (r3.2 = 0)) then
   (m_ref16_fail p2 p1.At 3).bind fun r4 =>
   some ((⟨0, ([] : List GMono)⟩ : GLin), r4)
  else
   some (r3.1, p2)
def m_ref16_term (p1 : Gbrocaderef16_State) (f1 : GLin) (negative1 : Bool) : Option (GLin × Gbrocaderef16_State) :=
 (m_ref16_ahead p1).bind fun r5 =>
 if r5 then
  (m_ref16_name p1).bind fun r6 =>
  (m_ref05_Var r6.1).bind fun r7 =>
  m_ref16_term_j1 negative1 f1 p1 ([49] : List UInt8) r7 r6.2
 else
  (m_ref16_number p1).bind fun r8 =>
  (m_ref16_is r8.2 0 ([42] : List UInt8)).bind fun r9 =>
  if r9 then
   (m_ref16_name (⟨r8.2.L, wi64 (r8.2.At + 1), r8.2.Deep, r8.2.E, r8.2.Pos⟩ : Gbrocaderef16_State)).bind fun r10 =>
   (m_ref05_Var r10.1).bind fun r11 =>
   m_ref16_term_j1 negative1 f1 p1 r8.1 r11 r10.2
  else
   m_ref16_term_j1 negative1 f1 p1 r8.1 (⟨1, ([] : List GMono)⟩ : GLin) r8.2
def m_ref16_form_l1 : Nat → Gbrocaderef16_State → GLin → Option (GLin × Gbrocaderef16_State)
 | 0, _, _ => none
 | fuel1 + 1, p3, f1 =>
  (m_ref16_is p3 0 ([43] : List UInt8)).bind fun r3 =>
  (gd (!r3) (m_ref16_is p3 0 ([45] : List UInt8))).bind fun r4 =>
  if r3 || r4 then
   (m_ref16_is p3 0 ([45] : List UInt8)).bind fun r5 =>
   (m_ref16_term (⟨p3.L, wi64 (p3.At + 1), p3.Deep, p3.E, p3.Pos⟩ : Gbrocaderef16_State) f1 r5).bind fun r6 =>
   (m_ref16_form_l1 fuel1) r6.2 r6.1
  else
   some (f1, p3)
def m_ref16_form_j1 (r1 : Bool) (p2 : Gbrocaderef16_State) : Option (GLin × Gbrocaderef16_State) :=
 (m_ref16_term p2 (⟨0, ([] : List GMono)⟩ : GLin) r1).bind fun r2 =>
 m_ref16_form_l1 fu r2.2 r2.1
def m_ref16_form (p1 : Gbrocaderef16_State) : Option (GLin × Gbrocaderef16_State) :=
 (m_ref16_is p1 0 ([45] : List UInt8)).bind fun r1 =>
 if r1 then
  m_ref16_form_j1 r1 (⟨p1.L, wi64 (p1.At + 1), p1.Deep, p1.E, p1.Pos⟩ : Gbrocaderef16_State)
 else
  m_ref16_form_j1 r1 p1
def m_ref16_Lin (l1 : List GToken) (at1 : Int) : Option (GLin × Int × Int) :=
 if (decide (at1 < 0)) || (decide ((l1.length : Int) < at1)) then
  some ((⟨0, ([] : List GMono)⟩ : GLin), 0, 1)
 else
  (m_ref16_form (⟨l1, at1, 0, 0, 0⟩ : Gbrocaderef16_State)).bind fun r1 =>
  if !decide (r1.2.E = 0) then
   some ((⟨0, ([] : List GMono)⟩ : GLin), r1.2.Pos, r1.2.E)
  else
   some (r1.1, r1.2.At, 0)
def m_law16_ParserForms (l1 : List GToken) (at1 : Int) : Option Bool :=
 (m_law16_few l1 300).bind fun r1 =>
 if !r1 then
  (m_law16_examples).bind fun r2 =>
  some r2
 else
  (m_parser_Lin l1 at1).bind fun r3 =>
  (m_ref16_Lin l1 at1).bind fun r4 =>
  (m_base_Lin r3.1 r4.1).bind fun r5 =>
  (gd ((r5 && (decide (r3.2.1 = r4.2.1))) && (decide (r3.2.2 = r4.2.2))) (m_law16_examples)).bind fun r6 =>
  some (((r5 && (decide (r3.2.1 = r4.2.1))) && (decide (r3.2.2 = r4.2.2))) && r6)
end Go.Proofs.YtmhoikfoogemnaaGreatDoor
