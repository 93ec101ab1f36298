import Derived.Test.YtebpdmfmknfkjaaGreatDoorSXm
namespace Go.Proofs.YtebpdmfmknfkjaaGreatDoor
open Go Go.RowKit Go.Vc
set_option linter.unusedVariables false
set_option linter.unusedSimpArgs false
structure GType where
 Kind : Int
 Bits : Int
 Frac : Int
 Round : Int
 Over : Int
deriving Inhabited, DecidableEq
def cGType : Cod GType where
 n := 5
 rel _ _ x cs := cs = [(Value.int .i64 x.Kind), (Value.int .i64 x.Bits), (Value.int .i64 x.Frac), (Value.int .i64 x.Round), (Value.int .i64 x.Over)]
 len h := by subst h; rfl
 one h := by subst h; rfl
 sp _ h := h
structure GVal where
 N : Int
 D : Int
deriving Inhabited, DecidableEq
def cGVal : Cod GVal where
 n := 2
 rel _ _ x cs := cs = [(Value.int .i64 x.N), (Value.int .i64 x.D)]
 len h := by subst h; rfl
 one h := by subst h; rfl
 sp _ h := h
structure GMono where
 Name : List UInt8
 By : Int
deriving Inhabited, DecidableEq
def cGMono : Cod GMono where
 n := 2
 rel _ _ x cs := cs = [(str x.Name), (Value.int .i64 x.By)]
 len h := by subst h; rfl
 one h := by subst h; rfl
 sp _ h := h
structure GLin where
 K : Int
 L : List GMono
deriving Inhabited, DecidableEq
def cGLin : Cod GLin where
 n := 2
 rel D w x cs := ∃ (A0 : Option Addr) (c0 : Nat), cs = [(Value.int .i64 x.K), (Value.slice A0 x.L.length c0)] ∧ SlC cGMono D w A0 c0 x.L
 len h := by obtain ⟨_, _, rfl, _⟩ := h; rfl
 one h := by obtain ⟨A0, c0, rfl, h0⟩ := h; rfl
 sp hs h := by obtain ⟨A0, c0, rfl, h0⟩ := h; exact ⟨_, _, rfl, h0.sp hs⟩
structure GIndex where
 Lin : GLin
 From : List UInt8
 At : List GLin
deriving Inhabited, DecidableEq
def cGIndex : Cod GIndex where
 n := 4
 rel D w x cs := ∃ (A0 : Option Addr) (c0 : Nat) (A2 : Option Addr) (c2 : Nat), cs = [(Value.int .i64 x.Lin.K), (Value.slice A0 x.Lin.L.length c0), (str x.From), (Value.slice A2 x.At.length c2)] ∧ SlC cGMono D w A0 c0 x.Lin.L ∧ SlC cGLin D w A2 c2 x.At
 len h := by obtain ⟨_, _, _, _, rfl, _, _⟩ := h; rfl
 one h := by obtain ⟨A0, c0, A2, c2, rfl, h0, h1⟩ := h; rfl
 sp hs h := by obtain ⟨A0, c0, A2, c2, rfl, h0, h1⟩ := h; exact ⟨_, _, _, _, rfl, h0.sp hs, h1.sp hs⟩
structure GExpr where
 Op : Int
 Name : List UInt8
 Val : GVal
 Type_ : GType
 Lin : GLin
 Idx : List GIndex
 Args : List GExpr
instance : Inhabited GExpr := ⟨⟨0, [], default, default, default, [], []⟩⟩
def cGExprS (c : Cod GExpr) : Cod GExpr where
 n := 13
 rel D w x cs := ∃ (A0 : Option Addr) (c0 : Nat) (A2 : Option Addr) (c2 : Nat) (A4 : Option Addr) (c4 : Nat), cs = [(Value.int .i64 x.Op), (str x.Name), (Value.int .i64 x.Val.N), (Value.int .i64 x.Val.D), (Value.int .i64 x.Type_.Kind), (Value.int .i64 x.Type_.Bits), (Value.int .i64 x.Type_.Frac), (Value.int .i64 x.Type_.Round), (Value.int .i64 x.Type_.Over), (Value.int .i64 x.Lin.K), (Value.slice A0 x.Lin.L.length c0), (Value.slice A2 x.Idx.length c2), (Value.slice A4 x.Args.length c4)] ∧ SlC cGMono D w A0 c0 x.Lin.L ∧ SlC cGIndex D w A2 c2 x.Idx ∧ SlC c D w A4 c4 x.Args
 len h := by obtain ⟨_, _, _, _, _, _, rfl, _, _, _⟩ := h; rfl
 one h := by obtain ⟨A0, c0, A2, c2, A4, c4, rfl, h0, h1, h2⟩ := h; rfl
 sp hs h := by obtain ⟨A0, c0, A2, c2, A4, c4, rfl, h0, h1, h2⟩ := h; exact ⟨_, _, _, _, _, _, rfl, h0.sp hs, h1.sp hs, h2.sp hs⟩
theorem cGExprS_mono {c c' : Cod GExpr} (hm : ∀ D w x cs, c.rel D w x cs → c'.rel D w x cs) : ∀ D w x cs, (cGExprS c).rel D w x cs → (cGExprS c').rel D w x cs := fun D w x cs h => by
 obtain ⟨A0, c0, A2, c2, A4, c4, rfl, h0, h1, h2⟩ := h; exact ⟨_, _, _, _, _, _, rfl, h0, h1, h2.mono hm⟩
def cGExpr : Cod GExpr := Cod.fix cGExprS 13 (fun _ => rfl)
theorem cGExpr_out {D : NP} {w : World} {x : GExpr} {cs : List Value} (h : cGExpr.rel D w x cs) : (cGExprS cGExpr).rel D w x cs := by
 obtain ⟨k, hk⟩ := h
 cases k with
 | zero => exact False.elim hk
 | succ k => exact cGExprS_mono (c := itC cGExprS 13 k) (c' := cGExpr) (fun _ _ _ _ h => ⟨k, h⟩) _ _ _ _ hk
theorem cGExpr_in {D : NP} {w : World} {x : GExpr} {cs : List Value} (h : (cGExprS cGExpr).rel D w x cs) : cGExpr.rel D w x cs := by
 obtain ⟨A0, c0, A2, c2, A4, c4, rfl, h0, h1, h2⟩ := h
 obtain ⟨k, hk⟩ := h2.fix_out cGExprS_mono
 exact ⟨k + 1, _, _, _, _, _, _, rfl, h0, h1, hk⟩
def fnS_k1 {σ : Type} (I : StI σ) (v : Value) (m : (GExpr → σ → Option (Bool × σ))) (D : NP) (w : World) : Prop :=
 isFn v = true ∧ ∀ (C0 F : NP) (w' : World), Sp D w (Dj F C0) w' → ∀ (x_1 : GExpr) (A_2 : Option Addr) (c_3 : Nat) (A_4 : Option Addr) (c_5 : Nat) (A_6 : Option Addr) (c_7 : Nat) (s : σ) (r : Bool × σ), Bun C0 F w' C0 w' [MO.st I s] [Cl.sl cGMono A_2 c_3 x_1.Lin.L, Cl.sl cGIndex A_4 c_5 x_1.Idx, Cl.sl cGExpr A_6 c_7 x_1.Args] → m x_1 s = some r →
  CallV Tryz.prog v [(Value.agg #[(Value.int .i64 x_1.Op), (str x_1.Name), (Value.int .i64 x_1.Val.N), (Value.int .i64 x_1.Val.D), (Value.int .i64 x_1.Type_.Kind), (Value.int .i64 x_1.Type_.Bits), (Value.int .i64 x_1.Type_.Frac), (Value.int .i64 x_1.Type_.Round), (Value.int .i64 x_1.Type_.Over), (Value.int .i64 x_1.Lin.K), (Value.slice A_2 x_1.Lin.L.length c_3), (Value.slice A_4 x_1.Idx.length c_5), (Value.slice A_6 x_1.Args.length c_7)])] w' fun e w'' => ∃  (C : NP), e = .returned (Value.bool r.1) ∧ Bun C0 F w' C w'' [MO.st I r.2] []
theorem fnS_k1.sp {σ : Type} {I : StI σ} {v : Value} {m : (GExpr → σ → Option (Bool × σ))} {D D' : NP} {w w' : World} (hs : Sp D w D' w') (h : fnS_k1 I v m D w) : fnS_k1 I v m D' w' := ⟨h.1, fun C0 F w'' hs' => h.2 C0 F w'' (hs.trans hs')⟩
def clFnS_k1 {σ : Type} (I : StI σ) (v : Value) (m : (GExpr → σ → Option (Bool × σ))) : Cl := ⟨fnS_k1 I v m, fnS_k1.sp⟩
def fnP_k2 (v : Value) (m : (GIndex → Option Bool)) (D : NP) (w : World) : Prop :=
 isFn v = true ∧ ∀ (D' : NP) (w' : World), Sp D w D' w' → (∀ k, D' k → k < w'.heap.size) → ∀ (x_1 : GIndex) (A_2 : Option Addr) (c_3 : Nat) (A_4 : Option Addr) (c_5 : Nat) (r : Bool), AllCl [Cl.sl cGMono A_2 c_3 x_1.Lin.L, Cl.sl cGLin A_4 c_5 x_1.At] D' w' → m x_1 = some r →
  CallV Tryz.prog v [(Value.agg #[(Value.int .i64 x_1.Lin.K), (Value.slice A_2 x_1.Lin.L.length c_3), (str x_1.From), (Value.slice A_4 x_1.At.length c_5)])] w' fun e w'' => e = .returned (Value.bool r) ∧ Ext w' w'' ∧ AllCl [] D' w''
theorem fnP_k2.sp {v : Value} {m : (GIndex → Option Bool)} {D D' : NP} {w w' : World} (hs : Sp D w D' w') (h : fnP_k2 v m D w) : fnP_k2 v m D' w' := ⟨h.1, fun D'' w'' hs' => h.2 D'' w'' (hs.trans hs')⟩
def clFn_k2 (v : Value) (m : (GIndex → Option Bool)) : Cl := ⟨fnP_k2 v m, fnP_k2.sp⟩
def fnP_k3 (v : Value) (m : (Int → Option Bool)) (D : NP) (w : World) : Prop :=
 isFn v = true ∧ ∀ (D' : NP) (w' : World), Sp D w D' w' → (∀ k, D' k → k < w'.heap.size) → ∀ (x_1 : Int) (r : Bool), AllCl [] D' w' → m x_1 = some r →
  CallV Tryz.prog v [(Value.int .i32 x_1)] w' fun e w'' => e = .returned (Value.bool r) ∧ Ext w' w'' ∧ AllCl [] D' w''
theorem fnP_k3.sp {v : Value} {m : (Int → Option Bool)} {D D' : NP} {w w' : World} (hs : Sp D w D' w') (h : fnP_k3 v m D w) : fnP_k3 v m D' w' := ⟨h.1, fun D'' w'' hs' => h.2 D'' w'' (hs.trans hs')⟩
def clFn_k3 (v : Value) (m : (Int → Option Bool)) : Cl := ⟨fnP_k3 v m, fnP_k3.sp⟩
def fnS_k4 {σ : Type} (I : StI σ) (v : Value) (m : (GLin → σ → Option (Bool × σ))) (D : NP) (w : World) : Prop :=
 isFn v = true ∧ ∀ (C0 F : NP) (w' : World), Sp D w (Dj F C0) w' → ∀ (x_1 : GLin) (A_2 : Option Addr) (c_3 : Nat) (s : σ) (r : Bool × σ), Bun C0 F w' C0 w' [MO.st I s] [Cl.sl cGMono A_2 c_3 x_1.L] → m x_1 s = some r →
  CallV Tryz.prog v [(Value.agg #[(Value.int .i64 x_1.K), (Value.slice A_2 x_1.L.length c_3)])] w' fun e w'' => ∃  (C : NP), e = .returned (Value.bool r.1) ∧ Bun C0 F w' C w'' [MO.st I r.2] []
theorem fnS_k4.sp {σ : Type} {I : StI σ} {v : Value} {m : (GLin → σ → Option (Bool × σ))} {D D' : NP} {w w' : World} (hs : Sp D w D' w') (h : fnS_k4 I v m D w) : fnS_k4 I v m D' w' := ⟨h.1, fun C0 F w'' hs' => h.2 C0 F w'' (hs.trans hs')⟩
def clFnS_k4 {σ : Type} (I : StI σ) (v : Value) (m : (GLin → σ → Option (Bool × σ))) : Cl := ⟨fnS_k4 I v m, fnS_k4.sp⟩
def fnP_k5 (v : Value) (m : (Int → Option (List UInt8))) (D : NP) (w : World) : Prop :=
 isFn v = true ∧ ∀ (D' : NP) (w' : World), Sp D w D' w' → (∀ k, D' k → k < w'.heap.size) → ∀ (x_1 : Int) (r : List UInt8), AllCl [] D' w' → m x_1 = some r →
  CallV Tryz.prog v [(Value.int .i64 x_1)] w' fun e w'' => e = .returned (str r) ∧ Ext w' w'' ∧ AllCl [] D' w''
theorem fnP_k5.sp {v : Value} {m : (Int → Option (List UInt8))} {D D' : NP} {w w' : World} (hs : Sp D w D' w') (h : fnP_k5 v m D w) : fnP_k5 v m D' w' := ⟨h.1, fun D'' w'' hs' => h.2 D'' w'' (hs.trans hs')⟩
def clFn_k5 (v : Value) (m : (Int → Option (List UInt8))) : Cl := ⟨fnP_k5 v m, fnP_k5.sp⟩
structure GAxis where
 Name : List UInt8
 Size : GLin
deriving Inhabited, DecidableEq
structure GDef where
 Name : List UInt8
 Type_ : GType
 Dims : List GAxis
 Red : List GAxis
 Fold : Int
 Body : GExpr
deriving Inhabited
structure GToken where
 Kind : Int
 At : Int
 Text : List UInt8
deriving Inhabited, DecidableEq
def m_value_plain (t1 : GType) : Option Bool :=
 some ((decide (t1.Kind = t1.Kind)) && (decide (t1.Bits = 0)) && (decide (t1.Frac = 0)) && (decide (t1.Round = 0)) && (decide (t1.Over = 0)))
def m_fixed_ValidateType (t1 : GType) : Option Int :=
 (some (((decide (1 ≤ t1.Round)) && (decide (t1.Round ≤ 4))) && ((decide (t1.Over = 1)) || (decide (t1.Over = 2))))).bind fun modes1 =>
 if (((((!decide (t1.Kind = 2)) || (decide (t1.Bits < 2))) || (decide (31 < t1.Bits))) || (decide (t1.Frac < 0))) || (decide (30 < t1.Frac))) || (!modes1) then
  some 10
 else
  some 0
def m_value_ValidateType_j1 (t1 : GType) (i1 : Bool) : Option Int :=
 if i1 then
  (m_value_plain t1).bind fun r1 =>
  if r1 then
   some 0
  else
   some 10
 else
  if decide (t1.Kind = 2) then
   (m_fixed_ValidateType t1).bind fun r2 =>
   if decide (r2 = 0) then
    some 0
   else
    some 10
  else
   some 10
def m_value_ValidateType (t1 : GType) : Option Int :=
 if decide (t1.Kind = 1) then
  m_value_ValidateType_j1 t1 (decide (t1.Kind = 1))
 else
  m_value_ValidateType_j1 t1 (decide (t1.Kind = 3))
def m_internal_strconv_Itoa (i1 : Int) : Option (List UInt8) :=
 (m_internal_strconv_FormatInt i1 10).bind fun r1 =>
 some r1
def m_strconv_Itoa (i1 : Int) : Option (List UInt8) :=
 (m_internal_strconv_Itoa i1).bind fun r1 =>
 some r1
def m_printer_mode (round1 : Int) : Option (List UInt8) :=
 if decide (round1 = 1) then
  some ([102, 108, 111, 111, 114] : List UInt8)
 else
  if decide (round1 = 2) then
   some ([99, 101, 105, 108] : List UInt8)
  else
   if decide (round1 = 3) then
    some ([122, 101, 114, 111] : List UInt8)
   else
    some ([101, 118, 101, 110] : List UInt8)
def m_printer_Type_j1 (t1 : GType) (over2 : List UInt8) : Option (List UInt8) :=
 (m_strconv_Itoa t1.Bits).bind fun r2 =>
 (lapp ([102, 105, 120, 40] : List UInt8) r2).bind fun s1 =>
 (lapp s1 ([44, 32] : List UInt8)).bind fun s2 =>
 (m_strconv_Itoa t1.Frac).bind fun r3 =>
 (lapp s2 r3).bind fun s3 =>
 (lapp s3 ([44, 32] : List UInt8)).bind fun s4 =>
 (m_printer_mode t1.Round).bind fun r4 =>
 (lapp s4 r4).bind fun s5 =>
 (lapp s5 ([44, 32] : List UInt8)).bind fun s6 =>
 (lapp s6 over2).bind fun s7 =>
 (lapp s7 ([41] : List UInt8)).bind fun s8 =>
 some s8
def m_printer_Type (t1 : GType) : Option (List UInt8) :=
 (m_value_ValidateType t1).bind fun r1 =>
 if !decide (r1 = 0) then
  some ([] : List UInt8)
 else
  if decide (t1.Kind = 1) then
   some ([102, 114, 97, 99] : List UInt8)
  else
   if decide (t1.Kind = 3) then
    some ([105, 110, 116] : List UInt8)
   else
    (some (([115, 97, 116] : List UInt8))).bind fun over1 =>
    if decide (t1.Over = 2) then
     (some (([119, 114, 97, 112] : List UInt8))).bind fun over3 =>
     m_printer_Type_j1 t1 over3
    else
     m_printer_Type_j1 t1 over1
def m_base_Type (t1 : GType) : Option Bool :=
 if (decide (t1.Kind = 1)) || (decide (t1.Kind = 3)) then
  some ((((decide (t1.Bits = 0)) && (decide (t1.Frac = 0))) && (decide (t1.Round = 0))) && (decide (t1.Over = 0)))
 else
  some ((((((((decide (t1.Kind = 2)) && (decide (2 ≤ t1.Bits))) && (decide (t1.Bits ≤ 31))) && (decide (0 ≤ t1.Frac))) && (decide (t1.Frac ≤ 30))) && (decide (1 ≤ t1.Round))) && (decide (t1.Round ≤ 4))) && ((decide (t1.Over = 1)) || (decide (t1.Over = 2))))
def m_ref01_size (n1 : Int) : Option Int :=
 if decide (n1 < 0) then
  some (wu64 ((wu64 (wi64 (-(wi64 (n1 + 1))))) + 1))
 else
  some (wu64 n1)
def m_ref01_plain_l1 : Nat → Int → (List UInt8) → Option (List UInt8)
 | 0, _, _ => none
 | fuel1 + 1, n2, s1 =>
  if decide (10 ≤ n2) then
   (lsub ([48, 49, 50, 51, 52, 53, 54, 55, 56, 57] : List UInt8) (Int.tmod n2 10) (wu64 ((Int.tmod n2 10) + 1))).bind fun s2 =>
   (lapp s2 s1).bind fun s3 =>
   (m_ref01_plain_l1 fuel1) (wu64 (Int.tdiv n2 10)) s3
  else
   (lsub ([48, 49, 50, 51, 52, 53, 54, 55, 56, 57] : List UInt8) n2 (wu64 (n2 + 1))).bind fun s4 =>
   (lapp s4 s1).bind fun s5 =>
   some s5
def m_ref01_plain (n1 : Int) : Option (List UInt8) :=
 m_ref01_plain_l1 fu n1 ([] : List UInt8)
def m_ref01_Digits (n1 : Int) : Option (List UInt8) :=
 if decide (n1 < 0) then
  (m_ref01_size n1).bind fun r1 =>
  (m_ref01_plain r1).bind fun r2 =>
  (lapp ([45] : List UInt8) r2).bind fun s1 =>
  some s1
 else
  (m_ref01_size n1).bind fun r3 =>
  (m_ref01_plain r3).bind fun r4 =>
  some r4
def m_ref15_mode (how1 : Int) : Option (List UInt8) :=
 if decide (how1 = 1) then
  some ([102, 108, 111, 111, 114] : List UInt8)
 else
  if decide (how1 = 2) then
   some ([99, 101, 105, 108] : List UInt8)
  else
   if decide (how1 = 3) then
    some ([122, 101, 114, 111] : List UInt8)
   else
    some ([101, 118, 101, 110] : List UInt8)
def m_ref15_Type_j1 (t1 : GType) (over2 : List UInt8) : Option (List UInt8) :=
 (m_ref01_Digits t1.Bits).bind fun r2 =>
 (lapp ([102, 105, 120, 40] : List UInt8) r2).bind fun s1 =>
 (lapp s1 ([44, 32] : List UInt8)).bind fun s2 =>
 (m_ref01_Digits t1.Frac).bind fun r3 =>
 (lapp s2 r3).bind fun s3 =>
 (lapp s3 ([44, 32] : List UInt8)).bind fun s4 =>
 (m_ref15_mode t1.Round).bind fun r4 =>
 (lapp s4 r4).bind fun s5 =>
 (lapp s5 ([44, 32] : List UInt8)).bind fun s6 =>
 (lapp s6 over2).bind fun s7 =>
 (lapp s7 ([41] : List UInt8)).bind fun s8 =>
 some s8
def m_ref15_Type (t1 : GType) : Option (List UInt8) :=
 (m_base_Type t1).bind fun r1 =>
 if !r1 then
  some ([] : List UInt8)
 else
  if decide (t1.Kind = 1) then
   some ([102, 114, 97, 99] : List UInt8)
  else
   if decide (t1.Kind = 3) then
    some ([105, 110, 116] : List UInt8)
   else
    (some (([115, 97, 116] : List UInt8))).bind fun over1 =>
    if decide (t1.Over = 2) then
     (some (([119, 114, 97, 112] : List UInt8))).bind fun over3 =>
     m_ref15_Type_j1 t1 over3
    else
     m_ref15_Type_j1 t1 over1
def m_expr_depth_l1 (e1 : GExpr) (rec_ : (GExpr → Int → Option Int)) (limit1 : Int) : Nat → Int → Int → Option Int
 | 0, _, _ => none
 | fuel1 + 1, d1, i1 =>
  if decide (i1 < (e1.Args.length : Int)) then
   (lat e1.Args i1).bind fun e2 =>
   (rec_ e2 (wi64 (limit1 - 1))).bind fun r1 =>
   (m_expr_depth_l1 e1 rec_ limit1 fuel1) (max d1 (wi64 (1 + r1))) (wi64 (i1 + 1))
  else
   some d1
def m_expr_depth_b (rec_ : (GExpr → Int → Option Int)) (e1 : GExpr) (limit1 : Int) : Option Int :=
 if decide (limit1 ≤ 1) then
  some limit1
 else
  m_expr_depth_l1 e1 rec_ limit1 fu 1 0
def m_expr_depth_r : Nat → (GExpr → Int → Option Int)
 | 0 => fun _ _ => none
 | n + 1 => m_expr_depth_b (m_expr_depth_r n)
def m_expr_depth  (e1 : GExpr) (limit1 : Int) : Option Int := m_expr_depth_r fu e1 limit1
def m_expr_Depth (e1 : GExpr) : Option Int :=
 (m_expr_depth e1 41).bind fun r1 =>
 some r1
def m_expr_walk_l1 (e1 : GExpr) (rec_ : (GExpr → (GExpr → Option Bool) → Option Bool)) (yield1 : (GExpr → Option Bool)) : Nat → Int → Option Bool
 | 0, _ => none
 | fuel1 + 1, i1 =>
  if decide (i1 < (e1.Args.length : Int)) then
   (lat e1.Args i1).bind fun e2 =>
   (rec_ e2 yield1).bind fun r2 =>
   if !r2 then
    some false
   else
    (m_expr_walk_l1 e1 rec_ yield1 fuel1) (wi64 (i1 + 1))
  else
   some true
def m_expr_Walk (e1 : GExpr) : Option GExpr :=
 some e1
def m_expr_walk_s_l1 {σ : Type}  (e1 : GExpr) (rec_ : (GExpr → (GExpr → σ → Option (Bool × σ)) → σ → Option (Bool × σ))) (yield1 : (GExpr → σ → Option (Bool × σ))) : Nat → Int → σ → Option (Bool × σ)
 | 0, _, _ => none
 | fuel1 + 1, i1, s3 =>
  if decide (i1 < (e1.Args.length : Int)) then
   (lat e1.Args i1).bind fun e2 =>
   (rec_ e2 yield1 s3).bind fun ⟨r2, s4⟩ =>
   if !r2 then
    some (false, s4)
   else
    (m_expr_walk_s_l1 e1 rec_ yield1 fuel1) (wi64 (i1 + 1)) s4
  else
   some (true, s3)
def m_expr_walk_s_b {σ : Type} (rec_ : (GExpr → (GExpr → σ → Option (Bool × σ)) → σ → Option (Bool × σ))) (e1 : GExpr) (yield1 : (GExpr → σ → Option (Bool × σ))) (s1 : σ) : Option (Bool × σ) :=
 (yield1 e1 s1).bind fun ⟨r1, s2⟩ =>
 if !r1 then
  some (false, s2)
 else
  m_expr_walk_s_l1 e1 rec_ yield1 fu 0 s2
def m_expr_walk_s_r {σ : Type} : Nat → (GExpr → (GExpr → σ → Option (Bool × σ)) → σ → Option (Bool × σ))
 | 0 => fun _ _ _ => none
 | n + 1 => m_expr_walk_s_b (m_expr_walk_s_r n)
def m_expr_walk_s {σ : Type}  (e1 : GExpr) (yield1 : (GExpr → σ → Option (Bool × σ))) (s1 : σ) : Option (Bool × σ) := m_expr_walk_s_r fu e1 yield1 s1
def m_expr_Walk_1_s {σ : Type}  (yield1 : (GExpr → σ → Option (Bool × σ))) (a1 : GExpr) (s1 : σ) : Option (Unit × σ) :=
 (m_expr_walk_s a1 yield1 s1).bind fun ⟨r1, s2⟩ =>
 some ((), s2)
def m_expr_Size_b1 (y1 : GExpr) (n1 : Int) : Option (Bool × (Nat × Int)) :=
 if decide (2000 < wi64 (n1 + 1)) then
  some (false, (1, (wi64 (n1 + 1))))
 else
  some (true, (0, (wi64 (n1 + 1))))
def m_expr_Size (e1 : GExpr) : Option Int :=
 (m_expr_Walk e1).bind fun r1 =>
 (m_expr_Walk_1_s (fun k_0 q => if q.1 = 0 then m_expr_Size_b1 k_0 q.2 else none) r1 (0, 0)).bind fun ⟨u1, o1, n2⟩ =>
 if o1 = 0 then
  some n2
 else
  if o1 = 1 then
   some n2
  else
   none
def m_expr_isZero (l1 : GLin) : Option Bool :=
 some ((decide (l1.K = 0)) && (decide ((l1.L.length : Int) = 0)))
def m_slices_IndexFunc_api_Index_api_Index_l1 (s1 : List GIndex) (f1 : (GIndex → Option Bool)) : Nat → Int → Option Int
 | 0, _ => none
 | fuel1 + 1, i1 =>
  if decide (i1 < (s1.length : Int)) then
   (lat s1 i1).bind fun e1 =>
   (f1 e1).bind fun r1 =>
   if r1 then
    some i1
   else
    (m_slices_IndexFunc_api_Index_api_Index_l1 s1 f1 fuel1) (wi64 (i1 + 1))
  else
   some (-1)
def m_slices_IndexFunc_api_Index_api_Index (s1 : List GIndex) (f1 : (GIndex → Option Bool)) : Option Int :=
 m_slices_IndexFunc_api_Index_api_Index_l1 s1 f1 fu 0
def m_slices_ContainsFunc_api_Index_api_Index (s1 : List GIndex) (f1 : (GIndex → Option Bool)) : Option Bool :=
 (m_slices_IndexFunc_api_Index_api_Index s1 f1).bind fun r1 =>
 some (decide (0 ≤ r1))
def m_expr_wellFormed (x1 : GIndex) : Option Bool :=
 if decide (x1.From = ([] : List UInt8)) then
  some (decide ((x1.At.length : Int) = 0))
 else
  (m_expr_isZero x1.Lin).bind fun r1 =>
  some r1
def m_expr_syntax_1 (x1 : GIndex) : Option Bool :=
 (m_expr_wellFormed x1).bind fun r1 =>
 some (!r1)
def m_expr_syntax (e1 : GExpr) : Option Bool :=
 if (decide (e1.Op < 1)) || (decide (18 < e1.Op)) then
  some false
 else
  if (!(decide (e1.Op = 1))) && (!((decide (e1.Val.N = 0)) && (decide (e1.Val.D = 0)))) then
   some false
  else
   if (!((decide (e1.Op = 1)) || (decide (e1.Op = 12)))) && (!((decide (e1.Type_.Kind = 0)) && (decide (e1.Type_.Bits = 0)) && (decide (e1.Type_.Frac = 0)) && (decide (e1.Type_.Round = 0)) && (decide (e1.Type_.Over = 0)))) then
    some false
   else
    (gd (!(decide (e1.Op = 2))) (m_expr_isZero e1.Lin)).bind fun r1 =>
    if (!(decide (e1.Op = 2))) && (!r1) then
     some false
    else
     if (!(decide (e1.Op = 3))) && ((!decide (e1.Name = ([] : List UInt8))) || (decide (0 < (e1.Idx.length : Int)))) then
      some false
     else
      (m_slices_ContainsFunc_api_Index_api_Index e1.Idx m_expr_syntax_1).bind fun r2 =>
      some (!r2)
def m_lexer_letter (r1 : Int) : Option Bool :=
 some ((decide (97 ≤ r1)) && (decide (r1 ≤ 122)))
def m_lexer_span_l1 (s1 : List UInt8) (ok1 : (Int → Option Bool)) : Nat → Int → Option Int
 | 0, _ => none
 | fuel1 + 1, n1 =>
  (gd (decide (n1 < (s1.length : Int))) (sat s1 n1)).bind fun b1 =>
  (gd (decide (n1 < (s1.length : Int))) (ok1 (wi32 b1))).bind fun r1 =>
  if (decide (n1 < (s1.length : Int))) && r1 then
   (m_lexer_span_l1 s1 ok1 fuel1) (wi64 (n1 + 1))
  else
   some n1
def m_lexer_span (s1 : List UInt8) (ok1 : (Int → Option Bool)) : Option Int :=
 m_lexer_span_l1 s1 ok1 fu 0
def m_lexer_digit (r1 : Int) : Option Bool :=
 some ((decide (48 ≤ r1)) && (decide (r1 ≤ 57)))
def m_lexer_inWord (r1 : Int) : Option Bool :=
 (m_lexer_letter r1).bind fun r2 =>
 (gd (!r2) (m_lexer_digit r1)).bind fun r3 =>
 some ((r2 || r3) || (decide (r1 = 95)))
def m_lexer_keywords : Option (List (List UInt8)) :=
 (m_strings_Fields ([115, 105, 122, 101, 32, 119, 104, 101, 114, 101, 32, 105, 110, 32, 100, 101, 102, 32, 111, 117, 116, 32, 115, 117, 109, 32, 112, 114, 111, 100, 32, 109, 105, 110, 32, 109, 97, 120, 32, 115, 99, 97, 110, 32, 111, 118, 101, 114, 32, 105, 102, 32, 99, 97, 115, 116, 32, 102, 114, 97, 99, 32, 105, 110, 116, 32, 102, 105, 120, 32, 99, 101, 105, 108, 32, 102, 108, 111, 111, 114, 32, 122, 101, 114, 111, 32, 101, 118, 101, 110, 32, 115, 97, 116, 32, 119, 114, 97, 112] : List UInt8)).bind fun r1 =>
 some r1
def m_slices_Index_string_string_l1 (s1 : List (List UInt8)) (v1 : List UInt8) : Nat → Int → Option Int
 | 0, _ => none
 | fuel1 + 1, i1 =>
  if decide (i1 < (s1.length : Int)) then
   (lat s1 i1).bind fun e1 =>
   if decide (v1 = e1) then
    some i1
   else
    (m_slices_Index_string_string_l1 s1 v1 fuel1) (wi64 (i1 + 1))
  else
   some (-1)
def m_slices_Index_string_string (s1 : List (List UInt8)) (v1 : List UInt8) : Option Int :=
 m_slices_Index_string_string_l1 s1 v1 fu 0
def m_slices_Contains_string_string (s1 : List (List UInt8)) (v1 : List UInt8) : Option Bool :=
 (m_slices_Index_string_string s1 v1).bind fun r1 =>
 some (decide (0 ≤ r1))
def m_lexer_IsKeyword (s1 : List UInt8) : Option Bool :=
 (m_lexer_keywords).bind fun r1 =>
 (m_slices_Contains_string_string r1 s1).bind fun r2 =>
 some r2
def m_lexer_IsName (s1 : List UInt8) : Option Bool :=
 (gd ((!decide (s1 = ([] : List UInt8))) && (decide ((s1.length : Int) ≤ 16))) (sat s1 0)).bind fun b1 =>
 (gd ((!decide (s1 = ([] : List UInt8))) && (decide ((s1.length : Int) ≤ 16))) (m_lexer_letter (wi32 b1))).bind fun r1 =>
 (gd (((!decide (s1 = ([] : List UInt8))) && (decide ((s1.length : Int) ≤ 16))) && r1) (m_lexer_span s1 m_lexer_inWord)).bind fun r2 =>
 (gd ((((!decide (s1 = ([] : List UInt8))) && (decide ((s1.length : Int) ≤ 16))) && r1) && (decide (r2 = (s1.length : Int)))) (m_lexer_IsKeyword s1)).bind fun r3 =>
 some (((((!decide (s1 = ([] : List UInt8))) && (decide ((s1.length : Int) ≤ 16))) && r1) && (decide (r2 = (s1.length : Int)))) && (!r3))
def m_expr_names_1 (x1 : GIndex) : Option Bool :=
 (gd (!decide (x1.From = ([] : List UInt8))) (m_lexer_IsName x1.From)).bind fun r1 =>
 some ((!decide (x1.From = ([] : List UInt8))) && (!r1))
def m_expr_names (e1 : GExpr) : Option Bool :=
 (gd (decide (e1.Op = 3)) (m_lexer_IsName e1.Name)).bind fun r1 =>
 if (decide (e1.Op = 3)) && (!r1) then
  some false
 else
  (m_slices_ContainsFunc_api_Index_api_Index e1.Idx m_expr_names_1).bind fun r2 =>
  some (!r2)
def m_expr_operands_j2 (op1 : Int) (i2 : Bool) : Option Int :=
 if i2 then
  some 1
 else
  if decide (op1 = 11) then
   some 3
  else
   some 2
def m_expr_operands_j1 (op1 : Int) (i1 : Bool) : Option Int :=
 if i1 then
  some 0
 else
  if decide (op1 = 8) then
   m_expr_operands_j2 op1 (decide (op1 = 8))
  else
   if decide (op1 = 12) then
    m_expr_operands_j2 op1 (decide (op1 = 12))
   else
    m_expr_operands_j2 op1 (decide (op1 = 18))
def m_expr_operands (op1 : Int) : Option Int :=
 if decide (op1 = 1) then
  m_expr_operands_j1 op1 (decide (op1 = 1))
 else
  if decide (op1 = 2) then
   m_expr_operands_j1 op1 (decide (op1 = 2))
  else
   m_expr_operands_j1 op1 (decide (op1 = 3))
def m_expr_rank_1 (x1 : GIndex) : Option Bool :=
 some (decide (6 < (x1.At.length : Int)))
def m_expr_rank (e1 : GExpr) : Option Bool :=
 (m_expr_operands e1.Op).bind fun r1 =>
 if (!decide ((e1.Args.length : Int) = r1)) || (decide (6 < (e1.Idx.length : Int))) then
  some false
 else
  (m_slices_ContainsFunc_api_Index_api_Index e1.Idx m_expr_rank_1).bind fun r2 =>
  some (!r2)
def m_expr_IsCondition (e1 : GExpr) : Option Bool :=
 some ((decide (13 ≤ e1.Op)) && (decide (e1.Op ≤ 18)))
def m_expr_requiresCondition (op1 : Int) (i1 : Int) : Option Bool :=
 if decide (op1 = 16) then
  if decide (op1 = 16) then
   some true
  else
   some ((decide (op1 = 11)) && (decide (i1 = 0)))
 else
  if decide (op1 = 17) then
   if decide (op1 = 17) then
    some true
   else
    some ((decide (op1 = 11)) && (decide (i1 = 0)))
  else
   if decide (op1 = 18) then
    some true
   else
    some ((decide (op1 = 11)) && (decide (i1 = 0)))
def m_expr_types_l1 (e1 : GExpr) : Nat → Int → Option Bool
 | 0, _ => none
 | fuel1 + 1, i1 =>
  if decide (i1 < (e1.Args.length : Int)) then
   (lat e1.Args i1).bind fun e2 =>
   (m_expr_IsCondition e2).bind fun r2 =>
   (m_expr_requiresCondition e1.Op i1).bind fun r3 =>
   if r2 != r3 then
    some false
   else
    (m_expr_types_l1 e1 fuel1) (wi64 (i1 + 1))
  else
   some true
def m_expr_types (e1 : GExpr) : Option Bool :=
 (gd ((decide (e1.Op = 1)) || (decide (e1.Op = 12))) (m_value_ValidateType e1.Type_)).bind fun r1 =>
 if ((decide (e1.Op = 1)) || (decide (e1.Op = 12))) && (!decide (r1 = 0)) then
  some false
 else
  m_expr_types_l1 e1 fu 0
def m_round_valid (bits1 : Int) : Option Bool :=
 some ((decide (2 ≤ bits1)) && (decide (bits1 ≤ 31)))
def m_round_MinInt (bits1 : Int) : Option Int :=
 (m_round_valid bits1).bind fun r1 =>
 if !r1 then
  some 0
 else
  if 0 ≤ (wu64 (wi64 (bits1 - 1))) then
   some (wi64 (-(wi64 (1 * 2 ^ (min (Int.toNat (wu64 (wi64 (bits1 - 1)))) 64)))))
  else none
def m_round_MaxInt (bits1 : Int) : Option Int :=
 (m_round_valid bits1).bind fun r1 =>
 if !r1 then
  some 0
 else
  if 0 ≤ (wu64 (wi64 (bits1 - 1))) then
   some (wi64 ((wi64 (1 * 2 ^ (min (Int.toNat (wu64 (wi64 (bits1 - 1)))) 64))) - 1))
  else none
def m_fixed_Valid (t1 : GType) (v1 : GVal) : Option Bool :=
 (m_fixed_ValidateType t1).bind fun r1 =>
 (gd ((decide (r1 = 0)) && (decide (v1.D = 1))) (m_round_MinInt t1.Bits)).bind fun r2 =>
 (gd (((decide (r1 = 0)) && (decide (v1.D = 1))) && (decide (r2 ≤ v1.N))) (m_round_MaxInt t1.Bits)).bind fun r3 =>
 some ((((decide (r1 = 0)) && (decide (v1.D = 1))) && (decide (r2 ≤ v1.N))) && (decide (v1.N ≤ r3)))
def m_value_whole (n1 : Int) : Option Bool :=
 some ((decide ((-2147483647) ≤ n1)) && (decide (n1 ≤ 2147483647)))
def m_frac_inRange (n1 : Int) : Option Bool :=
 some ((decide ((-2147483647) ≤ n1)) && (decide (n1 ≤ 2147483647)))
def m_frac_magnitude (n1 : Int) : Option Int :=
 if decide (n1 < 0) then
  some (wu64 (-(wu64 n1)))
 else
  some (wu64 n1)
def m_frac_gcd_l1 : Nat → Int → Int → Option Int
 | 0, _, _ => none
 | fuel1 + 1, a2, b2 =>
  if !decide (b2 = 0) then
   if b2 ≠ 0 then
    (m_frac_gcd_l1 fuel1) b2 (Int.tmod a2 b2)
   else none
  else
   some a2
def m_frac_gcd (a1 : Int) (b1 : Int) : Option Int :=
 m_frac_gcd_l1 fu a1 b1
def m_frac_Valid (v1 : GVal) : Option Bool :=
 (gd ((decide (1 ≤ v1.D)) && (decide (v1.D ≤ 2147483647))) (m_frac_inRange v1.N)).bind fun r1 =>
 (gd (((decide (1 ≤ v1.D)) && (decide (v1.D ≤ 2147483647))) && r1) (m_frac_magnitude v1.N)).bind fun r2 =>
 (gd (((decide (1 ≤ v1.D)) && (decide (v1.D ≤ 2147483647))) && r1) (m_frac_gcd r2 (wu64 v1.D))).bind fun r3 =>
 some ((((decide (1 ≤ v1.D)) && (decide (v1.D ≤ 2147483647))) && r1) && (decide (r3 = 1)))
def m_value_Valid (t1 : GType) (v1 : GVal) : Option Bool :=
 (m_value_ValidateType t1).bind fun r1 =>
 if !decide (r1 = 0) then
  some false
 else
  if decide (t1.Kind = 2) then
   (m_fixed_Valid t1 v1).bind fun r2 =>
   some r2
  else
   if decide (t1.Kind = 3) then
    (gd (decide (v1.D = 1)) (m_value_whole v1.N)).bind fun r3 =>
    some ((decide (v1.D = 1)) && r3)
   else
    (m_frac_Valid v1).bind fun r4 =>
    some r4
def m_expr_forms (e1 : GExpr) : Option GExpr :=
 some e1
def m_lin_reserved (s1 : List UInt8) : Option Bool :=
 if decide (s1 = ([115, 105, 122, 101] : List UInt8)) then
  if decide (s1 = ([115, 105, 122, 101] : List UInt8)) then
   some true
  else
   some false
 else
  if decide (s1 = ([119, 104, 101, 114, 101] : List UInt8)) then
   if decide (s1 = ([119, 104, 101, 114, 101] : List UInt8)) then
    some true
   else
    some false
  else
   if decide (s1 = ([105, 110] : List UInt8)) then
    if decide (s1 = ([105, 110] : List UInt8)) then
     some true
    else
     some false
   else
    if decide (s1 = ([100, 101, 102] : List UInt8)) then
     if decide (s1 = ([100, 101, 102] : List UInt8)) then
      some true
     else
      some false
    else
     if decide (s1 = ([111, 117, 116] : List UInt8)) then
      if decide (s1 = ([111, 117, 116] : List UInt8)) then
       some true
      else
       some false
     else
      if decide (s1 = ([115, 117, 109] : List UInt8)) then
       if decide (s1 = ([115, 117, 109] : List UInt8)) then
        some true
       else
        some false
      else
       if decide (s1 = ([112, 114, 111, 100] : List UInt8)) then
        if decide (s1 = ([112, 114, 111, 100] : List UInt8)) then
         some true
        else
         some false
       else
        if decide (s1 = ([109, 105, 110] : List UInt8)) then
         if decide (s1 = ([109, 105, 110] : List UInt8)) then
          some true
         else
          some false
        else
         if decide (s1 = ([109, 97, 120] : List UInt8)) then
          if decide (s1 = ([109, 97, 120] : List UInt8)) then
           some true
          else
           some false
         else
          if decide (s1 = ([115, 99, 97, 110] : List UInt8)) then
           if decide (s1 = ([115, 99, 97, 110] : List UInt8)) then
            some true
           else
            some false
          else
           if decide (s1 = ([111, 118, 101, 114] : List UInt8)) then
            if decide (s1 = ([111, 118, 101, 114] : List UInt8)) then
             some true
            else
             some false
           else
            if decide (s1 = ([105, 102] : List UInt8)) then
             if decide (s1 = ([105, 102] : List UInt8)) then
              some true
             else
              some false
            else
             if decide (s1 = ([99, 97, 115, 116] : List UInt8)) then
              if decide (s1 = ([99, 97, 115, 116] : List UInt8)) then
               some true
              else
               some false
             else
              if decide (s1 = ([102, 114, 97, 99] : List UInt8)) then
               if decide (s1 = ([102, 114, 97, 99] : List UInt8)) then
                some true
               else
                some false
              else
               if decide (s1 = ([105, 110, 116] : List UInt8)) then
                if decide (s1 = ([105, 110, 116] : List UInt8)) then
                 some true
                else
                 some false
               else
                if decide (s1 = ([102, 105, 120] : List UInt8)) then
                 if decide (s1 = ([102, 105, 120] : List UInt8)) then
                  some true
                 else
                  some false
                else
                 if decide (s1 = ([99, 101, 105, 108] : List UInt8)) then
                  if decide (s1 = ([99, 101, 105, 108] : List UInt8)) then
                   some true
                  else
                   some false
                 else
                  if decide (s1 = ([102, 108, 111, 111, 114] : List UInt8)) then
                   if decide (s1 = ([102, 108, 111, 111, 114] : List UInt8)) then
                    some true
                   else
                    some false
                  else
                   if decide (s1 = ([122, 101, 114, 111] : List UInt8)) then
                    if decide (s1 = ([122, 101, 114, 111] : List UInt8)) then
                     some true
                    else
                     some false
                   else
                    if decide (s1 = ([101, 118, 101, 110] : List UInt8)) then
                     if decide (s1 = ([101, 118, 101, 110] : List UInt8)) then
                      some true
                     else
                      some false
                    else
                     if decide (s1 = ([115, 97, 116] : List UInt8)) then
                      if decide (s1 = ([115, 97, 116] : List UInt8)) then
                       some true
                      else
                       some false
                     else
                      if decide (s1 = ([119, 114, 97, 112] : List UInt8)) then
                       some true
                      else
                       some false
def m_lin_identifier_l1 (s1 : List UInt8) : Nat → Int → Option Bool
 | 0, _ => none
 | fuel1 + 1, i1 =>
  if decide (i1 < (s1.length : Int)) then
   (sat s1 i1).bind fun b3 =>
   if (((decide (b3 < 97)) || (decide (122 < b3))) && ((decide (b3 < 48)) || (decide (57 < b3)))) && (!decide (b3 = 95)) then
    some false
   else
    (m_lin_identifier_l1 s1 fuel1) (wi64 (i1 + 1))
  else
   some true
def m_lin_identifier (s1 : List UInt8) : Option Bool :=
 (gd (!((decide ((s1.length : Int) < 1)) || (decide (16 < (s1.length : Int))))) (m_lin_reserved s1)).bind fun r1 =>
 (gd (!(((decide ((s1.length : Int) < 1)) || (decide (16 < (s1.length : Int)))) || r1)) (sat s1 0)).bind fun b1 =>
 (gd (!((((decide ((s1.length : Int) < 1)) || (decide (16 < (s1.length : Int)))) || r1) || (decide (b1 < 97)))) (sat s1 0)).bind fun b2 =>
 if ((((decide ((s1.length : Int) < 1)) || (decide (16 < (s1.length : Int)))) || r1) || (decide (b1 < 97))) || (decide (122 < b2)) then
  some false
 else
  m_lin_identifier_l1 s1 fu 0
def m_lin_Validate_l1 (l1 : GLin) : Nat → Int → Option Int
 | 0, _ => none
 | fuel1 + 1, i1 =>
  if decide (i1 < (l1.L.length : Int)) then
   (lat l1.L i1).bind fun e1 =>
   (m_lin_identifier e1.Name).bind fun r1 =>
   (gd ((!((!r1) || (decide (e1.By = 0)))) && (decide (0 < i1))) (lat l1.L (wi64 (i1 - 1)))).bind fun e2 =>
   if ((!r1) || (decide (e1.By = 0))) || ((decide (0 < i1)) && (!Op.bytesLess e2.Name e1.Name)) then
    some 1
   else
    (m_lin_Validate_l1 l1 fuel1) (wi64 (i1 + 1))
  else
   some 0
def m_lin_Validate (l1 : GLin) : Option Int :=
 m_lin_Validate_l1 l1 fu 0
def m_expr_forms_1_s_j1 {σ : Type}  (self1 : Int → σ → Option (Unit × σ)) (i1 : Int) (s4 : σ) : Option (Unit × σ) :=
 self1 (wi64 (i1 + 1)) s4
def m_expr_forms_1_s_l2 {σ : Type}  (e1 : GIndex) (yield1 : (GLin → σ → Option (Bool × σ))) (self1 : Int → σ → Option (Unit × σ)) (i1 : Int) : Nat → Int → σ → Option (Unit × σ)
 | 0, _, _ => none
 | fuel2 + 1, i2, s6 =>
  if decide (i2 < (e1.At.length : Int)) then
   (lat e1.At i2).bind fun e2 =>
   (yield1 e2 s6).bind fun ⟨r3, s7⟩ =>
   if !r3 then
    some ((), s7)
   else
    (m_expr_forms_1_s_l2 e1 yield1 self1 i1 fuel2) (wi64 (i2 + 1)) s7
  else
   m_expr_forms_1_s_j1 self1 i1 s6
def m_expr_forms_1_s_l1 {σ : Type}  (a1 : GExpr) (yield1 : (GLin → σ → Option (Bool × σ))) : Nat → Int → σ → Option (Unit × σ)
 | 0, _, _ => none
 | fuel1 + 1, i1, s3 =>
  if decide (i1 < (a1.Idx.length : Int)) then
   (lat a1.Idx i1).bind fun e1 =>
   (yield1 e1.Lin s3).bind fun ⟨r2, s5⟩ =>
   if !r2 then
    some ((), s5)
   else
    m_expr_forms_1_s_l2 e1 yield1 (m_expr_forms_1_s_l1 a1 yield1 fuel1) i1 fu 0 s5
  else
   some ((), s3)
def m_expr_forms_1_s {σ : Type}  (yield1 : (GLin → σ → Option (Bool × σ))) (a1 : GExpr) (s1 : σ) : Option (Unit × σ) :=
 (yield1 a1.Lin s1).bind fun ⟨r1, s2⟩ =>
 if !r1 then
  some ((), s2)
 else
  m_expr_forms_1_s_l1 a1 yield1 fu 0 s2
def m_expr_validNode_b1 (y1 : GLin) (v1 : Int) : Option (Bool × (Nat × Int)) :=
 (m_lin_Validate y1).bind fun r7 =>
 if !decide (r7 = 0) then
  some (false, (1, 1))
 else
  some (true, (0, v1))
def m_expr_validNode (e1 : GExpr) : Option Int :=
 (m_expr_syntax e1).bind fun r1 =>
 if !r1 then
  some 5
 else
  (m_expr_names e1).bind fun r2 =>
  if !r2 then
   some 7
  else
   (m_expr_rank e1).bind fun r3 =>
   if !r3 then
    some 11
   else
    (m_expr_types e1).bind fun r4 =>
    if !r4 then
     some 10
    else
     (gd (decide (e1.Op = 1)) (m_value_Valid e1.Type_ e1.Val)).bind fun r5 =>
     if (decide (e1.Op = 1)) && (!r5) then
      some 1
     else
      (m_expr_forms e1).bind fun r6 =>
      (m_expr_forms_1_s (fun k_0 q => if q.1 = 0 then m_expr_validNode_b1 k_0 q.2 else none) r6 (0, 0)).bind fun ⟨u1, o1, v2⟩ =>
      if o1 = 0 then
       some 0
      else
       if o1 = 1 then
        some v2
       else
        none
def m_expr_Validate_b1 (y1 : GExpr) (v1 : Int) : Option (Bool × (Nat × Int)) :=
 (m_expr_validNode y1).bind fun r4 =>
 if !decide (r4 = 0) then
  some (false, (1, r4))
 else
  some (true, (0, v1))
def m_expr_Validate (e1 : GExpr) : Option Int :=
 (m_expr_Depth e1).bind fun r1 =>
 if decide (40 < r1) then
  some 13
 else
  (m_expr_Size e1).bind fun r2 =>
  if decide (2000 < r2) then
   some 2
  else
   (m_expr_Walk e1).bind fun r3 =>
   (m_expr_Walk_1_s (fun k_0 q => if q.1 = 0 then m_expr_Validate_b1 k_0 q.2 else none) r3 (0, 0)).bind fun ⟨u1, o1, v2⟩ =>
   if o1 = 0 then
    some 0
   else
    if o1 = 1 then
     some v2
    else
     none
def m_printer_precedence_j3 (op1 : Int) (i3 : Bool) : Option Int :=
 if i3 then
  some 6
 else
  if decide (op1 = 8) then
   some 7
  else
   some 8
def m_printer_precedence_j2 (op1 : Int) (i2 : Bool) : Option Int :=
 if i2 then
  some 5
 else
  if decide (op1 = 6) then
   m_printer_precedence_j3 op1 (decide (op1 = 6))
  else
   m_printer_precedence_j3 op1 (decide (op1 = 7))
def m_printer_precedence_j1 (op1 : Int) (i1 : Bool) : Option Int :=
 if i1 then
  some 4
 else
  if decide (op1 = 4) then
   m_printer_precedence_j2 op1 (decide (op1 = 4))
  else
   m_printer_precedence_j2 op1 (decide (op1 = 5))
def m_printer_precedence (op1 : Int) : Option Int :=
 if decide (op1 = 17) then
  some 1
 else
  if decide (op1 = 16) then
   some 2
  else
   if decide (op1 = 18) then
    some 3
   else
    if decide (op1 = 13) then
     m_printer_precedence_j1 op1 (decide (op1 = 13))
    else
     if decide (op1 = 14) then
      m_printer_precedence_j1 op1 (decide (op1 = 14))
     else
      m_printer_precedence_j1 op1 (decide (op1 = 15))
def m_fixed_check_l1 (operands1 : List GVal) (t1 : GType) : Nat → Int → Option Int
 | 0, _ => none
 | fuel1 + 1, i1 =>
  if decide (i1 < (operands1.length : Int)) then
   (lat operands1 i1).bind fun e1 =>
   (m_fixed_Valid t1 e1).bind fun r2 =>
   if !r2 then
    some 1
   else
    (m_fixed_check_l1 operands1 t1 fuel1) (wi64 (i1 + 1))
  else
   some 0
def m_fixed_check (t1 : GType) (operands1 : List GVal) : Option Int :=
 (m_fixed_ValidateType t1).bind fun r1 =>
 if !decide (r1 = 0) then
  some r1
 else
  m_fixed_check_l1 operands1 t1 fu 0
def m_frac_New (n1 : Int) (d1 : Int) : Option (GVal × Int) :=
 if decide (d1 = 0) then
  some ((⟨0, 0⟩ : GVal), 4)
 else
  (some ((decide (n1 < 0)) != (decide (d1 < 0)))).bind fun negative1 =>
  (m_frac_magnitude n1).bind fun r1 =>
  (m_frac_magnitude d1).bind fun r2 =>
  (m_frac_gcd r1 r2).bind fun r3 =>
  if r3 ≠ 0 then
   if (decide (2147483647 < wu64 (Int.tdiv r1 r3))) || (decide (2147483647 < wu64 (Int.tdiv r2 r3))) then
    some ((⟨0, 0⟩ : GVal), 3)
   else
    if negative1 then
     some ((⟨wi64 (-(wi64 (wu64 (Int.tdiv r1 r3)))), wi64 (wu64 (Int.tdiv r2 r3))⟩ : GVal), 0)
    else
     some ((⟨wi64 (wu64 (Int.tdiv r1 r3)), wi64 (wu64 (Int.tdiv r2 r3))⟩ : GVal), 0)
  else none
def m_fixed_ToFrac (t1 : GType) (v1 : GVal) : Option (GVal × Int) :=
 (m_fixed_check t1 ([v1] : List GVal)).bind fun r1 =>
 if !decide (r1 = 0) then
  some ((⟨0, 0⟩ : GVal), r1)
 else
  if 0 ≤ t1.Frac then
   (m_frac_New v1.N (wi64 (1 * 2 ^ (min (Int.toNat t1.Frac) 64)))).bind fun r2 =>
   some (r2.1, r2.2)
  else none
def m_value_fraction (t1 : GType) (v1 : GVal) : Option GVal :=
 if decide (t1.Kind = 2) then
  (m_fixed_ToFrac t1 v1).bind fun r1 =>
  some r1.1
 else
  some v1
def m_strconv_FormatInt (i1 : Int) (base1 : Int) : Option (List UInt8) :=
 (m_internal_strconv_FormatInt i1 base1).bind fun r1 =>
 some r1
def m_frac_Format (a1 : GVal) : Option (List UInt8) :=
 (m_frac_Valid a1).bind fun r1 =>
 if !r1 then
  some ([] : List UInt8)
 else
  if decide (a1.D = 1) then
   (m_strconv_FormatInt a1.N 10).bind fun r2 =>
   some r2
  else
   (m_strconv_FormatInt a1.N 10).bind fun r3 =>
   (lapp r3 ([47] : List UInt8)).bind fun s1 =>
   (m_strconv_FormatInt a1.D 10).bind fun r4 =>
   (lapp s1 r4).bind fun s2 =>
   some s2
def m_value_Format (t1 : GType) (v1 : GVal) : Option (List UInt8) :=
 (m_value_Valid t1 v1).bind fun r1 =>
 if !r1 then
  some ([] : List UInt8)
 else
  (m_value_fraction t1 v1).bind fun r2 =>
  (m_frac_Format r2).bind fun r3 =>
  some r3
def m_lin_magnitude (n1 : Int) : Option Int :=
 if decide (n1 < 0) then
  some (wu64 (-(wu64 n1)))
 else
  some (wu64 n1)
def m_strconv_FormatUint (i1 : Int) (base1 : Int) : Option (List UInt8) :=
 (m_internal_strconv_FormatUint i1 base1).bind fun r1 =>
 some r1
def m_lin_Format_1_w_j1 (by1 : Int) (name1 : List UInt8) (s1 : List UInt8) : Option (Unit × List UInt8) :=
 (m_lin_magnitude by1).bind fun r1 =>
 if (decide (name1 = ([] : List UInt8))) || (!decide (r1 = 1)) then
  (m_strconv_FormatUint r1 10).bind fun r2 =>
  (lapp s1 r2).bind fun zs1 =>
  if !decide (name1 = ([] : List UInt8)) then
   (lapp zs1 ([42] : List UInt8)).bind fun zs2 =>
   (lapp zs2 name1).bind fun zs3 =>
   some ((), zs3)
  else
   (lapp zs1 name1).bind fun zs4 =>
   some ((), zs4)
 else
  (lapp s1 name1).bind fun zs5 =>
  some ((), zs5)
def m_lin_Format_1_w (by1 : Int) (name1 : List UInt8) (a1 : List UInt8) : Option (Unit × List UInt8) :=
 if (decide ((a1.length : Int) = 0)) && (decide (by1 < 0)) then
  (lapp a1 ([45] : List UInt8)).bind fun zs6 =>
  m_lin_Format_1_w_j1 by1 name1 zs6
 else
  if (decide (0 < (a1.length : Int))) && (decide (by1 < 0)) then
   (lapp a1 ([32, 45, 32] : List UInt8)).bind fun zs7 =>
   m_lin_Format_1_w_j1 by1 name1 zs7
  else
   if decide (0 < (a1.length : Int)) then
    (lapp a1 ([32, 43, 32] : List UInt8)).bind fun zs8 =>
    m_lin_Format_1_w_j1 by1 name1 zs8
   else
    m_lin_Format_1_w_j1 by1 name1 a1
def m_lin_Format_j1 (l1 : GLin) (s1 : List UInt8) : Option (List UInt8) :=
 if (!decide (l1.K = 0)) || (decide ((l1.L.length : Int) = 0)) then
  (m_lin_Format_1_w l1.K ([] : List UInt8) s1).bind fun ⟨r2, s2⟩ =>
  some s2
 else
  some s1
def m_lin_Format_l1 (l1 : GLin) : Nat → Int → (List UInt8) → Option (List UInt8)
 | 0, _, _ => none
 | fuel1 + 1, i1, s3 =>
  if decide (i1 < (l1.L.length : Int)) then
   (lat l1.L i1).bind fun e1 =>
   (m_lin_Format_1_w e1.By e1.Name s3).bind fun ⟨r3, s4⟩ =>
   (m_lin_Format_l1 l1 fuel1) (wi64 (i1 + 1)) s4
  else
   m_lin_Format_j1 l1 s3
def m_lin_Format (l1 : GLin) : Option (List UInt8) :=
 (m_lin_Validate l1).bind fun r1 =>
 if !decide (r1 = 0) then
  some ([] : List UInt8)
 else
  m_lin_Format_l1 l1 fu 0 ([] : List UInt8)
def m_printer_forms_valid_l1 (l1 : List GLin) : Nat → Int → Option Bool
 | 0, _ => none
 | fuel1 + 1, i1 =>
  if decide (i1 < (l1.length : Int)) then
   (lat l1 i1).bind fun e1 =>
   (m_lin_Validate e1).bind fun r1 =>
   if !decide (r1 = 0) then
    some false
   else
    (m_printer_forms_valid_l1 l1 fuel1) (wi64 (i1 + 1))
  else
   some true
def m_printer_forms_valid (l1 : List GLin) : Option Bool :=
 m_printer_forms_valid_l1 l1 fu 0
def m_printer_forms_item (l1 : List GLin) (i1 : Int) : Option (List UInt8) :=
 (lat l1 i1).bind fun e1 =>
 (m_lin_Format e1).bind fun r1 =>
 some r1
def m_printer_list_j1 (item1 : (Int → Option (List UInt8))) (i1 : Int) (self1 : Int → (List UInt8) → Option (List UInt8)) (s2 : List UInt8) : Option (List UInt8) :=
 (item1 i1).bind fun r1 =>
 (lapp s2 r1).bind fun zs1 =>
 self1 (wi64 (i1 + 1)) zs1
def m_printer_list_l1 (n1 : Int) (item1 : (Int → Option (List UInt8))) : Nat → Int → (List UInt8) → Option (List UInt8)
 | 0, _, _ => none
 | fuel1 + 1, i1, s1 =>
  if decide (i1 < n1) then
   if decide (0 < i1) then
    (lapp s1 ([44, 32] : List UInt8)).bind fun zs2 =>
    m_printer_list_j1 item1 i1 (m_printer_list_l1 n1 item1 fuel1) zs2
   else
    m_printer_list_j1 item1 i1 (m_printer_list_l1 n1 item1 fuel1) s1
  else
   some s1
def m_printer_list (n1 : Int) (item1 : (Int → Option (List UInt8))) : Option (List UInt8) :=
 m_printer_list_l1 n1 item1 fu 0 ([] : List UInt8)
def m_printer_Index (x1 : GIndex) : Option (List UInt8) :=
 (m_lin_Validate x1.Lin).bind fun r1 =>
 (gd (!(!decide (r1 = 0))) (m_printer_forms_valid x1.At)).bind fun r2 =>
 if (!decide (r1 = 0)) || (!r2) then
  some ([] : List UInt8)
 else
  if (decide (x1.From = ([] : List UInt8))) && (decide (0 < (x1.At.length : Int))) then
   some ([] : List UInt8)
  else
   if decide (x1.From = ([] : List UInt8)) then
    (m_lin_Format x1.Lin).bind fun r3 =>
    some r3
   else
    (m_lexer_IsName x1.From).bind fun r4 =>
    if ((!r4) || (!decide (x1.Lin.K = 0))) || (decide (0 < (x1.Lin.L.length : Int))) then
     some ([] : List UInt8)
    else
     (lapp x1.From ([91] : List UInt8)).bind fun s1 =>
     (m_printer_list (x1.At.length : Int) (m_printer_forms_item x1.At)).bind fun r5 =>
     (lapp s1 r5).bind fun s2 =>
     (lapp s2 ([93] : List UInt8)).bind fun s3 =>
     some s3
def m_printer_indices_item (l1 : List GIndex) (i1 : Int) : Option (List UInt8) :=
 (lat l1 i1).bind fun e1 =>
 (m_printer_Index e1).bind fun r1 =>
 some r1
def m_printer_symbol (op1 : Int) : Option (List UInt8) :=
 if decide (op1 = 4) then
  some ([43] : List UInt8)
 else
  if decide (op1 = 5) then
   some ([45] : List UInt8)
  else
   if decide (op1 = 6) then
    some ([42] : List UInt8)
   else
    if decide (op1 = 7) then
     some ([47] : List UInt8)
    else
     if decide (op1 = 13) then
      some ([60] : List UInt8)
     else
      if decide (op1 = 14) then
       some ([60, 61] : List UInt8)
      else
       if decide (op1 = 15) then
        some ([61, 61] : List UInt8)
       else
        if decide (op1 = 16) then
         some ([38] : List UInt8)
        else
         if decide (op1 = 17) then
          some ([124] : List UInt8)
         else
          some ([] : List UInt8)
def m_printer_writer_operand_w (rec_ : ((List UInt8) → GExpr → Option (Unit × List UInt8))) (w1 : List UInt8) (e1 : GExpr) (least1 : Int) : Option (Unit × List UInt8) :=
 (m_printer_precedence e1.Op).bind fun r1 =>
 if decide (least1 ≤ r1) then
  (rec_ w1 e1).bind fun ⟨r2, s1⟩ =>
  some ((), s1)
 else
  (lapp w1 ([40] : List UInt8)).bind fun zs1 =>
  (rec_ zs1 e1).bind fun ⟨r3, s2⟩ =>
  (lapp s2 ([41] : List UInt8)).bind fun zs2 =>
  some ((), zs2)
def m_printer_writer_call_w_j1 (rec_ : ((List UInt8) → GExpr → Option (Unit × List UInt8))) (e1 : GExpr) (self1 : Int → (List UInt8) → Option (Unit × List UInt8)) (i1 : Int) (s4 : List UInt8) : Option (Unit × List UInt8) :=
 (rec_ s4 e1).bind fun ⟨r1, s5⟩ =>
 self1 (wi64 (i1 + 1)) s5
def m_printer_writer_call_w_l1 (args1 : List GExpr) (first1 : List UInt8) (rec_ : ((List UInt8) → GExpr → Option (Unit × List UInt8))) : Nat → Int → (List UInt8) → Option (Unit × List UInt8)
 | 0, _, _ => none
 | fuel1 + 1, i1, s3 =>
  if decide (i1 < (args1.length : Int)) then
   (lat args1 i1).bind fun e1 =>
   if (decide (0 < i1)) || (!decide (first1 = ([] : List UInt8))) then
    (lapp s3 ([44, 32] : List UInt8)).bind fun zs2 =>
    m_printer_writer_call_w_j1 rec_ e1 (m_printer_writer_call_w_l1 args1 first1 rec_ fuel1) i1 zs2
   else
    m_printer_writer_call_w_j1 rec_ e1 (m_printer_writer_call_w_l1 args1 first1 rec_ fuel1) i1 s3
  else
   (lapp s3 ([41] : List UInt8)).bind fun zs3 =>
   some ((), zs3)
def m_printer_writer_call_w (rec_ : ((List UInt8) → GExpr → Option (Unit × List UInt8))) (w1 : List UInt8) (name1 : List UInt8) (first1 : List UInt8) (args1 : List GExpr) : Option (Unit × List UInt8) :=
 (lapp name1 ([40] : List UInt8)).bind fun s1 =>
 (lapp s1 first1).bind fun s2 =>
 (lapp w1 s2).bind fun zs1 =>
 m_printer_writer_call_w_l1 args1 first1 rec_ fu 0 zs1
def m_printer_writer_expr_w_b (rec_ : ((List UInt8) → GExpr → Option (Unit × List UInt8))) (w1 : List UInt8) (e1 : GExpr) : Option (Unit × List UInt8) :=
 (m_printer_precedence e1.Op).bind fun r1 =>
 if decide (e1.Op = 1) then
  (m_printer_Type e1.Type_).bind fun r2 =>
  (lapp r2 ([40] : List UInt8)).bind fun s1 =>
  (m_value_Format e1.Type_ e1.Val).bind fun r3 =>
  (lapp s1 r3).bind fun s2 =>
  (lapp s2 ([41] : List UInt8)).bind fun s3 =>
  (lapp w1 s3).bind fun zs1 =>
  some ((), zs1)
 else
  if decide (e1.Op = 2) then
   (m_lin_Format e1.Lin).bind fun r4 =>
   (lapp ([91] : List UInt8) r4).bind fun s4 =>
   (lapp s4 ([93] : List UInt8)).bind fun s5 =>
   (lapp w1 s5).bind fun zs2 =>
   some ((), zs2)
  else
   if decide (e1.Op = 3) then
    (lapp e1.Name ([91] : List UInt8)).bind fun s6 =>
    (m_printer_list (e1.Idx.length : Int) (m_printer_indices_item e1.Idx)).bind fun r5 =>
    (lapp s6 r5).bind fun s7 =>
    (lapp s7 ([93] : List UInt8)).bind fun s8 =>
    (lapp w1 s8).bind fun zs3 =>
    some ((), zs3)
   else
    if decide (e1.Op = 8) then
     (lapp w1 ([45] : List UInt8)).bind fun zs4 =>
     (lat e1.Args 0).bind fun e2 =>
     (m_printer_writer_operand_w rec_ zs4 e2 r1).bind fun ⟨r6, s9⟩ =>
     some ((), s9)
    else
     if decide (e1.Op = 18) then
      (lapp w1 ([33] : List UInt8)).bind fun zs5 =>
      (lat e1.Args 0).bind fun e3 =>
      (m_printer_writer_operand_w rec_ zs5 e3 r1).bind fun ⟨r7, s10⟩ =>
      some ((), s10)
     else
      if decide (e1.Op = 9) then
       (m_printer_writer_call_w rec_ w1 ([109, 105, 110] : List UInt8) ([] : List UInt8) e1.Args).bind fun ⟨r8, s11⟩ =>
       some ((), s11)
      else
       if decide (e1.Op = 10) then
        (m_printer_writer_call_w rec_ w1 ([109, 97, 120] : List UInt8) ([] : List UInt8) e1.Args).bind fun ⟨r9, s12⟩ =>
        some ((), s12)
       else
        if decide (e1.Op = 11) then
         (m_printer_writer_call_w rec_ w1 ([105, 102] : List UInt8) ([] : List UInt8) e1.Args).bind fun ⟨r10, s13⟩ =>
         some ((), s13)
        else
         if decide (e1.Op = 12) then
          (m_printer_Type e1.Type_).bind fun r11 =>
          (m_printer_writer_call_w rec_ w1 ([99, 97, 115, 116] : List UInt8) r11 e1.Args).bind fun ⟨r12, s14⟩ =>
          some ((), s14)
         else
          (lat e1.Args 0).bind fun e4 =>
          (m_printer_writer_operand_w rec_ w1 e4 r1).bind fun ⟨r13, s15⟩ =>
          (m_printer_symbol e1.Op).bind fun r14 =>
          (lapp ([32] : List UInt8) r14).bind fun s16 =>
          (lapp s16 ([32] : List UInt8)).bind fun s17 =>
          (lapp s15 s17).bind fun zs6 =>
          (lat e1.Args 1).bind fun e5 =>
          (m_printer_writer_operand_w rec_ zs6 e5 (wi64 (r1 + 1))).bind fun ⟨r15, s18⟩ =>
          some ((), s18)
def m_printer_writer_expr_w_r : Nat → ((List UInt8) → GExpr → Option (Unit × List UInt8))
 | 0 => fun _ _ => none
 | n + 1 => m_printer_writer_expr_w_b (m_printer_writer_expr_w_r n)
def m_printer_writer_expr_w  (w1 : List UInt8) (e1 : GExpr) : Option (Unit × List UInt8) := m_printer_writer_expr_w_r fu w1 e1
def m_printer_Expr (e1 : GExpr) : Option (List UInt8) :=
 (m_expr_Validate e1).bind fun r1 =>
 if !decide (r1 = 0) then
  some ([] : List UInt8)
 else
  (m_printer_writer_expr_w ([] : List UInt8) e1).bind fun ⟨r2, s1⟩ =>
  some s1
def m_law15_alive : Option Bool :=
 (m_printer_Type (⟨3, 0, 0, 0, 0⟩ : GType)).bind fun r1 =>
 if (decide (r1 = ([105, 110, 116] : List UInt8))) = true then
  (m_printer_Expr (⟨3, ([97] : List UInt8), (⟨0, 0⟩ : GVal), (⟨0, 0, 0, 0, 0⟩ : GType), (⟨0, ([] : List GMono)⟩ : GLin), ([] : List GIndex), ([] : List GExpr)⟩ : GExpr)).bind fun r2 =>
  some ((decide (r1 = ([105, 110, 116] : List UInt8))) && (decide (r2 = ([97, 91, 93] : List UInt8))))
 else none
def m_base_Weigh_l1 (e1 : GExpr) (most1 : Int) (rec_ : (GExpr → Int → Option Int)) : Nat → Int → Int → Option Int
 | 0, _, _ => none
 | fuel1 + 1, n3, i1 =>
  if (decide (i1 < (e1.Args.length : Int))) && (decide (n3 ≤ most1)) then
   (lat e1.Args i1).bind fun e2 =>
   (rec_ e2 (wi64 (most1 - n3))).bind fun r1 =>
   (m_base_Weigh_l1 e1 most1 rec_ fuel1) (wi64 (n3 + r1)) (wi64 (i1 + 1))
  else
   some n3
def m_base_Weigh_j1 (e1 : GExpr) (most1 : Int) (rec_ : (GExpr → Int → Option Int)) (n2 : Int) : Option Int :=
 m_base_Weigh_l1 e1 most1 rec_ fu n2 0
def m_base_Weigh_j2 (self2 : Int → Int → Option Int) (i2 : Int) (n5 : Int) : Option Int :=
 self2 n5 (wi64 (i2 + 1))
def m_base_Weigh_l3 (e1 : GExpr) (i2 : Int) (most1 : Int) (self2 : Int → Int → Option Int) : Nat → Int → Int → Option Int
 | 0, _, _ => none
 | fuel3 + 1, n6, k1 =>
  (lat e1.Idx i2).bind fun e5 =>
  if (decide (k1 < (e5.At.length : Int))) && (decide (n6 ≤ most1)) then
   (lat e1.Idx i2).bind fun e6 =>
   (lat e6.At k1).bind fun e7 =>
   (some (wi64 (n6 + (e7.L.length : Int)))).bind fun n7 =>
   (m_base_Weigh_l3 e1 i2 most1 self2 fuel3) n7 (wi64 (k1 + 1))
  else
   m_base_Weigh_j2 self2 i2 n6
def m_base_Weigh_l2 (e1 : GExpr) (most1 : Int) (rec_ : (GExpr → Int → Option Int)) : Nat → Int → Int → Option Int
 | 0, _, _ => none
 | fuel2 + 1, n4, i2 =>
  if (decide (i2 < (e1.Idx.length : Int))) && (decide (n4 ≤ most1)) then
   (lat e1.Idx i2).bind fun e3 =>
   (lat e1.Idx i2).bind fun e4 =>
   m_base_Weigh_l3 e1 i2 most1 (m_base_Weigh_l2 e1 most1 rec_ fuel2) fu (wi64 ((wi64 (n4 + (e3.Lin.L.length : Int))) + (e4.At.length : Int))) 0
  else
   m_base_Weigh_j1 e1 most1 rec_ n4
def m_base_Weigh_b (rec_ : (GExpr → Int → Option Int)) (e1 : GExpr) (most1 : Int) : Option Int :=
 (some (wi64 ((wi64 (1 + (e1.Lin.L.length : Int))) + (e1.Idx.length : Int)))).bind fun n1 =>
 m_base_Weigh_l2 e1 most1 rec_ fu n1 0
def m_base_Weigh_r : Nat → (GExpr → Int → Option Int)
 | 0 => fun _ _ => none
 | n + 1 => m_base_Weigh_b (m_base_Weigh_r n)
def m_base_Weigh  (e1 : GExpr) (most1 : Int) : Option Int := m_base_Weigh_r fu e1 most1
def m_base_Words : Option (List (List UInt8)) :=
 some ([([115, 105, 122, 101] : List UInt8), ([119, 104, 101, 114, 101] : List UInt8), ([105, 110] : List UInt8), ([100, 101, 102] : List UInt8), ([111, 117, 116] : List UInt8), ([115, 117, 109] : List UInt8), ([112, 114, 111, 100] : List UInt8), ([109, 105, 110] : List UInt8), ([109, 97, 120] : List UInt8), ([115, 99, 97, 110] : List UInt8), ([111, 118, 101, 114] : List UInt8), ([105, 102] : List UInt8), ([99, 97, 115, 116] : List UInt8), ([102, 114, 97, 99] : List UInt8), ([105, 110, 116] : List UInt8), ([102, 105, 120] : List UInt8), ([99, 101, 105, 108] : List UInt8), ([102, 108, 111, 111, 114] : List UInt8), ([122, 101, 114, 111] : List UInt8), ([101, 118, 101, 110] : List UInt8), ([115, 97, 116] : List UInt8), ([119, 114, 97, 112] : List UInt8)] : List (List UInt8))
def m_base_Has_l1 (l1 : List (List UInt8)) (s1 : List UInt8) : Nat → Int → Option Bool
 | 0, _ => none
 | fuel1 + 1, i1 =>
  if decide (i1 < (l1.length : Int)) then
   (lat l1 i1).bind fun e1 =>
   if decide (e1 = s1) then
    some true
   else
    (m_base_Has_l1 l1 s1 fuel1) (wi64 (i1 + 1))
  else
   some false
def m_base_Has (l1 : List (List UInt8)) (s1 : List UInt8) : Option Bool :=
 m_base_Has_l1 l1 s1 fu 0
def m_base_Name_l1 (s1 : List UInt8) : Nat → Int → Option Bool
 | 0, _ => none
 | fuel1 + 1, i1 =>
  if decide (i1 < (s1.length : Int)) then
   (sat s1 i1).bind fun b1 =>
   if !(((decide (97 ≤ b1)) && (decide (b1 ≤ 122))) || ((decide (0 < i1)) && (((decide (48 ≤ b1)) && (decide (b1 ≤ 57))) || (decide (b1 = 95))))) then
    some false
   else
    (m_base_Name_l1 s1 fuel1) (wi64 (i1 + 1))
  else
   some true
def m_base_Name (s1 : List UInt8) : Option Bool :=
 (gd (!((decide ((s1.length : Int) < 1)) || (decide (16 < (s1.length : Int))))) (m_base_Words)).bind fun r1 =>
 (gd (!((decide ((s1.length : Int) < 1)) || (decide (16 < (s1.length : Int))))) (m_base_Has r1 s1)).bind fun r2 =>
 if ((decide ((s1.length : Int) < 1)) || (decide (16 < (s1.length : Int)))) || r2 then
  some false
 else
  m_base_Name_l1 s1 fu 0
def m_base_LinRight_l1 (l1 : GLin) : Nat → Int → Option Bool
 | 0, _ => none
 | fuel1 + 1, i1 =>
  if decide (i1 < (l1.L.length : Int)) then
   (lat l1.L i1).bind fun e1 =>
   (m_base_Name e1.Name).bind fun r1 =>
   (gd (!(!r1)) (lat l1.L i1)).bind fun e2 =>
   (gd ((!((!r1) || (decide (e2.By = 0)))) && (decide (0 < i1))) (lat l1.L (wi64 (i1 - 1)))).bind fun e3 =>
   (gd ((!((!r1) || (decide (e2.By = 0)))) && (decide (0 < i1))) (lat l1.L i1)).bind fun e4 =>
   if ((!r1) || (decide (e2.By = 0))) || ((decide (0 < i1)) && (!Op.bytesLess e3.Name e4.Name)) then
    some false
   else
    (m_base_LinRight_l1 l1 fuel1) (wi64 (i1 + 1))
  else
   some true
def m_base_LinRight (l1 : GLin) : Option Bool :=
 m_base_LinRight_l1 l1 fu 0
def m_ref15_valid_l1 (l1 : List GLin) : Nat → Int → Option Bool
 | 0, _ => none
 | fuel1 + 1, i1 =>
  if decide (i1 < (l1.length : Int)) then
   (lat l1 i1).bind fun e1 =>
   (m_base_LinRight e1).bind fun r1 =>
   if !r1 then
    some false
   else
    (m_ref15_valid_l1 l1 fuel1) (wi64 (i1 + 1))
  else
   some true
def m_ref15_valid (l1 : List GLin) : Option Bool :=
 m_ref15_valid_l1 l1 fu 0
def m_ref05_Validate (l1 : GLin) : Option Int :=
 (m_base_LinRight l1).bind fun r1 =>
 if !r1 then
  some 1
 else
  some 0
def m_ref05_size (n1 : Int) : Option Int :=
 if decide (n1 < 0) then
  some (wu64 ((wu64 (wi64 (-(wi64 (n1 + 1))))) + 1))
 else
  some (wu64 n1)
def m_ref05_digits_l1 : Nat → Int → (List UInt8) → Option (List UInt8)
 | 0, _, _ => none
 | fuel1 + 1, n2, s1 =>
  (lapp (strOf ([wu8 (wu64 (48 + (Int.tmod n2 10)))] : List Int)) s1).bind fun s2 =>
  if decide (wu64 (Int.tdiv n2 10) = 0) then
   some s2
  else
   (m_ref05_digits_l1 fuel1) (wu64 (Int.tdiv n2 10)) s2
def m_ref05_digits (n1 : Int) : Option (List UInt8) :=
 m_ref05_digits_l1 fu n1 ([] : List UInt8)
def m_ref05_term (s1 : List UInt8) (negative1 : Bool) (t1 : List UInt8) : Option (List UInt8) :=
 if (decide (s1 = ([] : List UInt8))) && negative1 then
  (lapp ([45] : List UInt8) t1).bind fun s2 =>
  some s2
 else
  if decide (s1 = ([] : List UInt8)) then
   some t1
  else
   if negative1 then
    (lapp s1 ([32, 45, 32] : List UInt8)).bind fun s3 =>
    (lapp s3 t1).bind fun s4 =>
    some s4
   else
    (lapp s1 ([32, 43, 32] : List UInt8)).bind fun s5 =>
    (lapp s5 t1).bind fun s6 =>
    some s6
def m_ref05_Format_j1 (l1 : GLin) (s1 : List UInt8) : Option (List UInt8) :=
 if (!decide (l1.K = 0)) || (decide ((l1.L.length : Int) = 0)) then
  (m_ref05_size l1.K).bind fun r2 =>
  (m_ref05_digits r2).bind fun r3 =>
  (m_ref05_term s1 (decide (l1.K < 0)) r3).bind fun r4 =>
  some r4
 else
  some s1
def m_ref05_Format_j2 (s2 : List UInt8) (e1 : GMono) (self1 : (List UInt8) → Int → Option (List UInt8)) (i1 : Int) (t1 : List UInt8) : Option (List UInt8) :=
 (m_ref05_term s2 (decide (e1.By < 0)) t1).bind fun r5 =>
 self1 r5 (wi64 (i1 + 1))
def m_ref05_Format_l1 (l1 : GLin) : Nat → (List UInt8) → Int → Option (List UInt8)
 | 0, _, _ => none
 | fuel1 + 1, s2, i1 =>
  if decide (i1 < (l1.L.length : Int)) then
   (lat l1.L i1).bind fun e1 =>
   (lat l1.L i1).bind fun e2 =>
   (m_ref05_size e1.By).bind fun r6 =>
   if !decide (r6 = 1) then
    (m_ref05_size e1.By).bind fun r7 =>
    (m_ref05_digits r7).bind fun r8 =>
    (lapp r8 ([42] : List UInt8)).bind fun s3 =>
    (lapp s3 e2.Name).bind fun s4 =>
    m_ref05_Format_j2 s2 e1 (m_ref05_Format_l1 l1 fuel1) i1 s4
   else
    m_ref05_Format_j2 s2 e1 (m_ref05_Format_l1 l1 fuel1) i1 e2.Name
  else
   m_ref05_Format_j1 l1 s2
def m_ref05_Format (l1 : GLin) : Option (List UInt8) :=
 (m_ref05_Validate l1).bind fun r1 =>
 if !decide (r1 = 0) then
  some ([] : List UInt8)
 else
  m_ref05_Format_l1 l1 fu ([] : List UInt8) 0
def m_ref15_forms_j1 (l1 : List GLin) (i1 : Int) (self1 : (List UInt8) → Int → Option (List UInt8)) (s2 : List UInt8) : Option (List UInt8) :=
 (lat l1 i1).bind fun e1 =>
 (m_ref05_Format e1).bind fun r1 =>
 (lapp s2 r1).bind fun s3 =>
 self1 s3 (wi64 (i1 + 1))
def m_ref15_forms_l1 (l1 : List GLin) : Nat → (List UInt8) → Int → Option (List UInt8)
 | 0, _, _ => none
 | fuel1 + 1, s1, i1 =>
  if decide (i1 < (l1.length : Int)) then
   if decide (0 < i1) then
    (lapp s1 ([44, 32] : List UInt8)).bind fun s4 =>
    m_ref15_forms_j1 l1 i1 (m_ref15_forms_l1 l1 fuel1) s4
   else
    m_ref15_forms_j1 l1 i1 (m_ref15_forms_l1 l1 fuel1) s1
  else
   some s1
def m_ref15_forms (l1 : List GLin) : Option (List UInt8) :=
 m_ref15_forms_l1 l1 fu ([] : List UInt8) 0
def m_ref15_Index (x1 : GIndex) : Option (List UInt8) :=
 (m_base_LinRight x1.Lin).bind fun r1 =>
 (gd (!(!r1)) (m_ref15_valid x1.At)).bind fun r2 =>
 if (!r1) || (!r2) then
  some ([] : List UInt8)
 else
  if decide (x1.From = ([] : List UInt8)) then
   if decide (0 < (x1.At.length : Int)) then
    some ([] : List UInt8)
   else
    (m_ref05_Format x1.Lin).bind fun r3 =>
    some r3
  else
   (m_base_Name x1.From).bind fun r4 =>
   if ((!r4) || (!decide (x1.Lin.K = 0))) || (decide (0 < (x1.Lin.L.length : Int))) then
    some ([] : List UInt8)
   else
    (lapp x1.From ([91] : List UInt8)).bind fun s1 =>
    (m_ref15_forms x1.At).bind fun r5 =>
    (lapp s1 r5).bind fun s2 =>
    (lapp s2 ([93] : List UInt8)).bind fun s3 =>
    some s3
def m_ref15_Small (e1 : GExpr) : Option Bool :=
 (m_base_Weigh e1 300).bind fun r1 =>
 some (decide (r1 ≤ 300))
def m_ref14_depth_l1 (e1 : GExpr) (most1 : Int) (rec_ : (GExpr → Int → Option Int)) : Nat → Int → Int → Option Int
 | 0, _, _ => none
 | fuel1 + 1, d1, i1 =>
  if (decide (i1 < (e1.Args.length : Int))) && (decide (1 < most1)) then
   (lat e1.Args i1).bind fun e2 =>
   (rec_ e2 (wi64 (most1 - 1))).bind fun r1 =>
   (m_ref14_depth_l1 e1 most1 rec_ fuel1) (max d1 (wi64 (1 + r1))) (wi64 (i1 + 1))
  else
   some d1
def m_ref14_depth_b (rec_ : (GExpr → Int → Option Int)) (e1 : GExpr) (most1 : Int) : Option Int :=
 m_ref14_depth_l1 e1 most1 rec_ fu 1 0
def m_ref14_depth_r : Nat → (GExpr → Int → Option Int)
 | 0 => fun _ _ => none
 | n + 1 => m_ref14_depth_b (m_ref14_depth_r n)
def m_ref14_depth  (e1 : GExpr) (most1 : Int) : Option Int := m_ref14_depth_r fu e1 most1
def m_ref14_Depth (e1 : GExpr) : Option Int :=
 (m_ref14_depth e1 41).bind fun r1 =>
 some r1
def m_ref14_size_l1 (e1 : GExpr) (most1 : Int) (rec_ : (GExpr → Int → Option Int)) : Nat → Int → Int → Option Int
 | 0, _, _ => none
 | fuel1 + 1, n1, i1 =>
  if (decide (i1 < (e1.Args.length : Int))) && (decide (n1 ≤ most1)) then
   (lat e1.Args i1).bind fun e2 =>
   (rec_ e2 (wi64 (most1 - n1))).bind fun r1 =>
   (m_ref14_size_l1 e1 most1 rec_ fuel1) (wi64 (n1 + r1)) (wi64 (i1 + 1))
  else
   some n1
def m_ref14_size_b (rec_ : (GExpr → Int → Option Int)) (e1 : GExpr) (most1 : Int) : Option Int :=
 m_ref14_size_l1 e1 most1 rec_ fu 1 0
def m_ref14_size_r : Nat → (GExpr → Int → Option Int)
 | 0 => fun _ _ => none
 | n + 1 => m_ref14_size_b (m_ref14_size_r n)
def m_ref14_size  (e1 : GExpr) (most1 : Int) : Option Int := m_ref14_size_r fu e1 most1
def m_ref14_Size (e1 : GExpr) : Option Int :=
 (m_ref14_size e1 2000).bind fun r1 =>
 some (min r1 2001)
def m_ref14_plain_l1 (e1 : GExpr) : Nat → Int → Option Bool
 | 0, _ => none
 | fuel1 + 1, i1 =>
  if decide (i1 < (e1.Idx.length : Int)) then
   (lat e1.Idx i1).bind fun e2 =>
   if ((decide (e2.From = ([] : List UInt8))) && (decide (0 < (e2.At.length : Int)))) || ((!decide (e2.From = ([] : List UInt8))) && ((!decide (e2.Lin.K = 0)) || (decide (0 < (e2.Lin.L.length : Int))))) then
    some false
   else
    (m_ref14_plain_l1 e1 fuel1) (wi64 (i1 + 1))
  else
   some true
def m_ref14_plain (e1 : GExpr) : Option Bool :=
 if (decide (e1.Op < 1)) || (decide (18 < e1.Op)) then
  some false
 else
  if ((!decide (e1.Op = 1)) && (!((decide (e1.Val.N = 0)) && (decide (e1.Val.D = 0))))) || (((!decide (e1.Op = 1)) && (!decide (e1.Op = 12))) && (!((decide (e1.Type_.Kind = 0)) && (decide (e1.Type_.Bits = 0)) && (decide (e1.Type_.Frac = 0)) && (decide (e1.Type_.Round = 0)) && (decide (e1.Type_.Over = 0))))) then
   some false
  else
   if ((!decide (e1.Op = 2)) && ((!decide (e1.Lin.K = 0)) || (decide (0 < (e1.Lin.L.length : Int))))) || ((!decide (e1.Op = 3)) && ((!decide (e1.Name = ([] : List UInt8))) || (decide (0 < (e1.Idx.length : Int))))) then
    some false
   else
    m_ref14_plain_l1 e1 fu 0
def m_ref14_named_l1 (e1 : GExpr) : Nat → Int → Option Bool
 | 0, _ => none
 | fuel1 + 1, i1 =>
  if decide (i1 < (e1.Idx.length : Int)) then
   (lat e1.Idx i1).bind fun e2 =>
   (gd (!decide (e2.From = ([] : List UInt8))) (lat e1.Idx i1)).bind fun e3 =>
   (gd (!decide (e2.From = ([] : List UInt8))) (m_base_Name e3.From)).bind fun r2 =>
   if (!decide (e2.From = ([] : List UInt8))) && (!r2) then
    some false
   else
    (m_ref14_named_l1 e1 fuel1) (wi64 (i1 + 1))
  else
   some true
def m_ref14_named (e1 : GExpr) : Option Bool :=
 (gd (decide (e1.Op = 3)) (m_base_Name e1.Name)).bind fun r1 =>
 if (decide (e1.Op = 3)) && (!r1) then
  some false
 else
  m_ref14_named_l1 e1 fu 0
def m_ref14_args_j2 (op1 : Int) (i2 : Bool) : Option Int :=
 if i2 then
  some 1
 else
  if decide (op1 = 11) then
   some 3
  else
   some 2
def m_ref14_args_j1 (op1 : Int) (i1 : Bool) : Option Int :=
 if i1 then
  some 0
 else
  if decide (op1 = 8) then
   m_ref14_args_j2 op1 (decide (op1 = 8))
  else
   if decide (op1 = 12) then
    m_ref14_args_j2 op1 (decide (op1 = 12))
   else
    m_ref14_args_j2 op1 (decide (op1 = 18))
def m_ref14_args (op1 : Int) : Option Int :=
 if decide (op1 = 1) then
  m_ref14_args_j1 op1 (decide (op1 = 1))
 else
  if decide (op1 = 2) then
   m_ref14_args_j1 op1 (decide (op1 = 2))
  else
   m_ref14_args_j1 op1 (decide (op1 = 3))
def m_ref14_ranked_l1 (e1 : GExpr) : Nat → Int → Option Bool
 | 0, _ => none
 | fuel1 + 1, i1 =>
  if decide (i1 < (e1.Idx.length : Int)) then
   (lat e1.Idx i1).bind fun e2 =>
   if decide (6 < (e2.At.length : Int)) then
    some false
   else
    (m_ref14_ranked_l1 e1 fuel1) (wi64 (i1 + 1))
  else
   some true
def m_ref14_ranked (e1 : GExpr) : Option Bool :=
 (m_ref14_args e1.Op).bind fun r1 =>
 if (!decide ((e1.Args.length : Int) = r1)) || (decide (6 < (e1.Idx.length : Int))) then
  some false
 else
  m_ref14_ranked_l1 e1 fu 0
def m_ref14_IsCondition (e1 : GExpr) : Option Bool :=
 some ((decide (13 ≤ e1.Op)) && (decide (e1.Op ≤ 18)))
def m_ref14_wants (op1 : Int) (at1 : Int) : Option Bool :=
 some (((((decide (op1 = 11)) && (decide (at1 = 0))) || (decide (op1 = 16))) || (decide (op1 = 17))) || (decide (op1 = 18)))
def m_ref14_typed_l1 (e1 : GExpr) : Nat → Int → Option Bool
 | 0, _ => none
 | fuel1 + 1, i1 =>
  if decide (i1 < (e1.Args.length : Int)) then
   (lat e1.Args i1).bind fun e2 =>
   (m_ref14_IsCondition e2).bind fun r2 =>
   (m_ref14_wants e1.Op i1).bind fun r3 =>
   if r2 != r3 then
    some false
   else
    (m_ref14_typed_l1 e1 fuel1) (wi64 (i1 + 1))
  else
   some true
def m_ref14_typed (e1 : GExpr) : Option Bool :=
 (gd ((decide (e1.Op = 1)) || (decide (e1.Op = 12))) (m_base_Type e1.Type_)).bind fun r1 =>
 if ((decide (e1.Op = 1)) || (decide (e1.Op = 12))) && (!r1) then
  some false
 else
  m_ref14_typed_l1 e1 fu 0
def m_base_gcd_l1 : Nat → Int → Int → Option Int
 | 0, _, _ => none
 | fuel1 + 1, a2, b2 =>
  if !decide (b2 = 0) then
   if b2 ≠ 0 then
    (m_base_gcd_l1 fuel1) b2 (Int.tmod a2 b2)
   else none
  else
   some a2
def m_base_gcd (a1 : Int) (b1 : Int) : Option Int :=
 m_base_gcd_l1 fu a1 b1
def m_base_Val (t1 : GType) (v1 : GVal) : Option Bool :=
 if decide (t1.Kind = 2) then
  if 0 ≤ (wi64 (t1.Bits - 1)) then
   (some (wi64 (1 * 2 ^ (min (Int.toNat (wi64 (t1.Bits - 1))) 64)))).bind fun half1 =>
   some (((decide (v1.D = 1)) && (decide (wi64 (-half1) ≤ v1.N))) && (decide (v1.N < half1)))
  else none
 else
  if (((decide (2147483647 < v1.N)) || (decide (v1.N < (-2147483647)))) || (decide (v1.D < 1))) || (decide (2147483647 < v1.D)) then
   some false
  else
   if decide (t1.Kind = 3) then
    some (decide (v1.D = 1))
   else
    (m_base_gcd (max v1.N (wi64 (-v1.N))) v1.D).bind fun r1 =>
    some (decide (r1 = 1))
def m_ref14_formed_j1 (self1 : Int → Option Bool) (i1 : Int) : Option Bool :=
 self1 (wi64 (i1 + 1))
def m_ref14_formed_l2 (e1 : GExpr) (i1 : Int) (self1 : Int → Option Bool) : Nat → Int → Option Bool
 | 0, _ => none
 | fuel2 + 1, k1 =>
  (lat e1.Idx i1).bind fun e3 =>
  if decide (k1 < (e3.At.length : Int)) then
   (lat e1.Idx i1).bind fun e4 =>
   (lat e4.At k1).bind fun e5 =>
   (m_base_LinRight e5).bind fun r4 =>
   if !r4 then
    some false
   else
    (m_ref14_formed_l2 e1 i1 self1 fuel2) (wi64 (k1 + 1))
  else
   m_ref14_formed_j1 self1 i1
def m_ref14_formed_l1 (e1 : GExpr) : Nat → Int → Option Bool
 | 0, _ => none
 | fuel1 + 1, i1 =>
  if decide (i1 < (e1.Idx.length : Int)) then
   (lat e1.Idx i1).bind fun e2 =>
   (m_base_LinRight e2.Lin).bind fun r3 =>
   if !r3 then
    some false
   else
    m_ref14_formed_l2 e1 i1 (m_ref14_formed_l1 e1 fuel1) fu 0
  else
   some true
def m_ref14_formed (e1 : GExpr) : Option Bool :=
 (gd (decide (e1.Op = 1)) (m_base_Val e1.Type_ e1.Val)).bind fun r1 =>
 (gd (!((decide (e1.Op = 1)) && (!r1))) (m_base_LinRight e1.Lin)).bind fun r2 =>
 if ((decide (e1.Op = 1)) && (!r1)) || (!r2) then
  some false
 else
  m_ref14_formed_l1 e1 fu 0
def m_ref14_part_l1 (e1 : GExpr) (rec_ : (GExpr → Option Int)) : Nat → Int → Option Int
 | 0, _ => none
 | fuel1 + 1, i1 =>
  if decide (i1 < (e1.Args.length : Int)) then
   (lat e1.Args i1).bind fun e2 =>
   (rec_ e2).bind fun r6 =>
   if !decide (r6 = 0) then
    some r6
   else
    (m_ref14_part_l1 e1 rec_ fuel1) (wi64 (i1 + 1))
  else
   some 0
def m_ref14_part_b (rec_ : (GExpr → Option Int)) (e1 : GExpr) : Option Int :=
 (m_ref14_plain e1).bind fun r1 =>
 if !r1 then
  some 5
 else
  (m_ref14_named e1).bind fun r2 =>
  if !r2 then
   some 7
  else
   (m_ref14_ranked e1).bind fun r3 =>
   if !r3 then
    some 11
   else
    (m_ref14_typed e1).bind fun r4 =>
    if !r4 then
     some 10
    else
     (m_ref14_formed e1).bind fun r5 =>
     if !r5 then
      some 1
     else
      m_ref14_part_l1 e1 rec_ fu 0
def m_ref14_part_r : Nat → (GExpr → Option Int)
 | 0 => fun _ => none
 | n + 1 => m_ref14_part_b (m_ref14_part_r n)
def m_ref14_part  (e1 : GExpr) : Option Int := m_ref14_part_r fu e1
def m_ref14_Validate (e1 : GExpr) : Option Int :=
 (m_ref14_Depth e1).bind fun r1 =>
 if decide (40 < r1) then
  some 13
 else
  (m_ref14_Size e1).bind fun r2 =>
  if decide (2000 < r2) then
   some 2
  else
   (m_ref14_part e1).bind fun r3 =>
   some r3
def m_ref15_sign (op1 : Int) : Option (List UInt8) :=
 if decide (op1 = 4) then
  some ([32, 43, 32] : List UInt8)
 else
  if decide (op1 = 5) then
   some ([32, 45, 32] : List UInt8)
  else
   if decide (op1 = 6) then
    some ([32, 42, 32] : List UInt8)
   else
    if decide (op1 = 7) then
     some ([32, 47, 32] : List UInt8)
    else
     if decide (op1 = 13) then
      some ([32, 60, 32] : List UInt8)
     else
      if decide (op1 = 14) then
       some ([32, 60, 61, 32] : List UInt8)
      else
       if decide (op1 = 15) then
        some ([32, 61, 61, 32] : List UInt8)
       else
        if decide (op1 = 16) then
         some ([32, 38, 32] : List UInt8)
        else
         if decide (op1 = 17) then
          some ([32, 124, 32] : List UInt8)
         else
          some ([] : List UInt8)
def m_ref15_Level_j3 (op1 : Int) (i3 : Bool) : Option Int :=
 if i3 then
  some 6
 else
  if decide (op1 = 8) then
   some 7
  else
   some 8
def m_ref15_Level_j2 (op1 : Int) (i2 : Bool) : Option Int :=
 if i2 then
  some 5
 else
  if decide (op1 = 6) then
   m_ref15_Level_j3 op1 (decide (op1 = 6))
  else
   m_ref15_Level_j3 op1 (decide (op1 = 7))
def m_ref15_Level_j1 (op1 : Int) (i1 : Bool) : Option Int :=
 if i1 then
  some 4
 else
  if decide (op1 = 4) then
   m_ref15_Level_j2 op1 (decide (op1 = 4))
  else
   m_ref15_Level_j2 op1 (decide (op1 = 5))
def m_ref15_Level (op1 : Int) : Option Int :=
 if decide (op1 = 17) then
  some 1
 else
  if decide (op1 = 16) then
   some 2
  else
   if decide (op1 = 18) then
    some 3
   else
    if decide (op1 = 13) then
     m_ref15_Level_j1 op1 (decide (op1 = 13))
    else
     if decide (op1 = 14) then
      m_ref15_Level_j1 op1 (decide (op1 = 14))
     else
      m_ref15_Level_j1 op1 (decide (op1 = 15))
def m_ref15_operand (rec_ : (GExpr → Option (List UInt8))) (e1 : GExpr) (least1 : Int) : Option (List UInt8) :=
 (m_ref15_Level e1.Op).bind fun r1 =>
 if decide (r1 < least1) then
  (rec_ e1).bind fun r2 =>
  (lapp ([40] : List UInt8) r2).bind fun s1 =>
  (lapp s1 ([41] : List UInt8)).bind fun s2 =>
  some s2
 else
  (rec_ e1).bind fun r3 =>
  some r3
def m_ref04_Valid (t1 : GType) (v1 : GVal) : Option Bool :=
 (m_base_Type t1).bind fun r1 =>
 (gd r1 (m_base_Val t1 v1)).bind fun r2 =>
 some (r1 && r2)
def m_ref04_step (t1 : GType) : Option Int :=
 if 0 ≤ (wu64 t1.Frac) then
  some (wi64 (1 * 2 ^ (min (Int.toNat (wu64 t1.Frac)) 64)))
 else none
def m_ref01_gcd_l1 : Nat → Int → Int → Option Int
 | 0, _, _ => none
 | fuel1 + 1, a2, b2 =>
  if !decide (b2 = 0) then
   if b2 ≠ 0 then
    (m_ref01_gcd_l1 fuel1) b2 (Int.tmod a2 b2)
   else none
  else
   some a2
def m_ref01_gcd (a1 : Int) (b1 : Int) : Option Int :=
 m_ref01_gcd_l1 fu a1 b1
def m_ref01_made (minus1 : Bool) (n1 : Int) (d1 : Int) : Option (GVal × Int) :=
 (m_ref01_gcd n1 d1).bind fun r1 =>
 if r1 ≠ 0 then
  if (decide (2147483647 < wu64 (Int.tdiv n1 r1))) || (decide (2147483647 < wu64 (Int.tdiv d1 r1))) then
   some ((⟨0, 0⟩ : GVal), 3)
  else
   if minus1 then
    some ((⟨wi64 (-(wi64 (wu64 (Int.tdiv n1 r1)))), wi64 (wu64 (Int.tdiv d1 r1))⟩ : GVal), 0)
   else
    some ((⟨wi64 (wu64 (Int.tdiv n1 r1)), wi64 (wu64 (Int.tdiv d1 r1))⟩ : GVal), 0)
 else none
def m_ref01_New (n1 : Int) (d1 : Int) : Option (GVal × Int) :=
 if decide (d1 = 0) then
  some ((⟨0, 0⟩ : GVal), 4)
 else
  (m_ref01_size n1).bind fun r1 =>
  (m_ref01_size d1).bind fun r2 =>
  (m_ref01_made ((decide (n1 < 0)) != (decide (d1 < 0))) r1 r2).bind fun r3 =>
  some (r3.1, r3.2)
def m_ref04_Value (t1 : GType) (v1 : GVal) : Option GVal :=
 if decide (t1.Kind = 2) then
  (m_ref04_step t1).bind fun r1 =>
  (m_ref01_New v1.N r1).bind fun r2 =>
  some r2.1
 else
  some v1
def m_ref01_Valid (v1 : GVal) : Option Bool :=
 (m_base_Val (⟨1, 0, 0, 0, 0⟩ : GType) v1).bind fun r1 =>
 some r1
def m_ref01_Format (a1 : GVal) : Option (List UInt8) :=
 (m_ref01_Valid a1).bind fun r1 =>
 if !r1 then
  some ([] : List UInt8)
 else
  if decide (a1.D = 1) then
   (m_ref01_Digits a1.N).bind fun r2 =>
   some r2
  else
   (m_ref01_Digits a1.N).bind fun r3 =>
   (lapp r3 ([47] : List UInt8)).bind fun s1 =>
   (m_ref01_Digits a1.D).bind fun r4 =>
   (lapp s1 r4).bind fun s2 =>
   some s2
def m_ref04_Format (t1 : GType) (v1 : GVal) : Option (List UInt8) :=
 (m_ref04_Valid t1 v1).bind fun r1 =>
 if !r1 then
  some ([] : List UInt8)
 else
  (m_ref04_Value t1 v1).bind fun r2 =>
  (m_ref01_Format r2).bind fun r3 =>
  some r3
def m_ref15_text_j1 (e1 : GExpr) (rec_ : (GExpr → Option (List UInt8))) : Option (List UInt8) :=
 (lat e1.Args 0).bind fun e4 =>
 (m_ref15_Type e1.Type_).bind fun r6 =>
 (lapp ([99, 97, 115, 116, 40] : List UInt8) r6).bind fun s3 =>
 (lapp s3 ([44, 32] : List UInt8)).bind fun s4 =>
 (rec_ e4).bind fun r7 =>
 (lapp s4 r7).bind fun s5 =>
 (lapp s5 ([41] : List UInt8)).bind fun s6 =>
 some s6
def m_ref15_text_j2 (e1 : GExpr) (i1 : Int) (self1 : (List UInt8) → Int → Option (List UInt8)) (s14 : List UInt8) : Option (List UInt8) :=
 (lat e1.Idx i1).bind fun e5 =>
 (m_ref15_Index e5).bind fun r11 =>
 (lapp s14 r11).bind fun s15 =>
 self1 s15 (wi64 (i1 + 1))
def m_ref15_text_l1 (e1 : GExpr) : Nat → (List UInt8) → Int → Option (List UInt8)
 | 0, _, _ => none
 | fuel1 + 1, s13, i1 =>
  if decide (i1 < (e1.Idx.length : Int)) then
   if decide (0 < i1) then
    (lapp s13 ([44, 32] : List UInt8)).bind fun s16 =>
    m_ref15_text_j2 e1 i1 (m_ref15_text_l1 e1 fuel1) s16
   else
    m_ref15_text_j2 e1 i1 (m_ref15_text_l1 e1 fuel1) s13
  else
   (lapp s13 ([93] : List UInt8)).bind fun s17 =>
   some s17
def m_ref15_text_b (rec_ : (GExpr → Option (List UInt8))) (e1 : GExpr) : Option (List UInt8) :=
 (m_ref15_sign e1.Op).bind fun r1 =>
 if !decide (r1 = ([] : List UInt8)) then
  (lat e1.Args 0).bind fun e2 =>
  (lat e1.Args 1).bind fun e3 =>
  (m_ref15_Level e1.Op).bind fun r2 =>
  (m_ref15_operand rec_ e2 r2).bind fun r3 =>
  (lapp r3 r1).bind fun s1 =>
  (m_ref15_Level e1.Op).bind fun r4 =>
  (m_ref15_operand rec_ e3 (wi64 (r4 + 1))).bind fun r5 =>
  (lapp s1 r5).bind fun s2 =>
  some s2
 else
  if decide (e1.Op = 1) then
   (m_ref15_Type e1.Type_).bind fun r8 =>
   (lapp r8 ([40] : List UInt8)).bind fun s7 =>
   (m_ref04_Format e1.Type_ e1.Val).bind fun r9 =>
   (lapp s7 r9).bind fun s8 =>
   (lapp s8 ([41] : List UInt8)).bind fun s9 =>
   some s9
  else
   if decide (e1.Op = 2) then
    (m_ref05_Format e1.Lin).bind fun r10 =>
    (lapp ([91] : List UInt8) r10).bind fun s10 =>
    (lapp s10 ([93] : List UInt8)).bind fun s11 =>
    some s11
   else
    if decide (e1.Op = 3) then
     (lapp e1.Name ([91] : List UInt8)).bind fun s12 =>
     m_ref15_text_l1 e1 fu s12 0
    else
     if decide (e1.Op = 8) then
      (lat e1.Args 0).bind fun e6 =>
      (m_ref15_operand rec_ e6 7).bind fun r12 =>
      (lapp ([45] : List UInt8) r12).bind fun s18 =>
      some s18
     else
      if decide (e1.Op = 18) then
       (lat e1.Args 0).bind fun e7 =>
       (m_ref15_operand rec_ e7 3).bind fun r13 =>
       (lapp ([33] : List UInt8) r13).bind fun s19 =>
       some s19
      else
       if decide (e1.Op = 9) then
        (lat e1.Args 0).bind fun e8 =>
        (lat e1.Args 1).bind fun e9 =>
        (rec_ e8).bind fun r14 =>
        (lapp ([109, 105, 110, 40] : List UInt8) r14).bind fun s20 =>
        (lapp s20 ([44, 32] : List UInt8)).bind fun s21 =>
        (rec_ e9).bind fun r15 =>
        (lapp s21 r15).bind fun s22 =>
        (lapp s22 ([41] : List UInt8)).bind fun s23 =>
        some s23
       else
        if decide (e1.Op = 10) then
         (lat e1.Args 0).bind fun e10 =>
         (lat e1.Args 1).bind fun e11 =>
         (rec_ e10).bind fun r16 =>
         (lapp ([109, 97, 120, 40] : List UInt8) r16).bind fun s24 =>
         (lapp s24 ([44, 32] : List UInt8)).bind fun s25 =>
         (rec_ e11).bind fun r17 =>
         (lapp s25 r17).bind fun s26 =>
         (lapp s26 ([41] : List UInt8)).bind fun s27 =>
         some s27
        else
         if decide (e1.Op = 11) then
          (lat e1.Args 0).bind fun e12 =>
          (lat e1.Args 1).bind fun e13 =>
          (lat e1.Args 2).bind fun e14 =>
          (rec_ e12).bind fun r18 =>
          (lapp ([105, 102, 40] : List UInt8) r18).bind fun s28 =>
          (lapp s28 ([44, 32] : List UInt8)).bind fun s29 =>
          (rec_ e13).bind fun r19 =>
          (lapp s29 r19).bind fun s30 =>
          (lapp s30 ([44, 32] : List UInt8)).bind fun s31 =>
          (rec_ e14).bind fun r20 =>
          (lapp s31 r20).bind fun s32 =>
          (lapp s32 ([41] : List UInt8)).bind fun s33 =>
          some s33
         else
          m_ref15_text_j1 e1 rec_
def m_ref15_text_r : Nat → (GExpr → Option (List UInt8))
 | 0 => fun _ => none
 | n + 1 => m_ref15_text_b (m_ref15_text_r n)
def m_ref15_text  (e1 : GExpr) : Option (List UInt8) := m_ref15_text_r fu e1
def m_ref15_Expr (e1 : GExpr) : Option (List UInt8) :=
 (m_ref14_Validate e1).bind fun r1 =>
 if !decide (r1 = 0) then
  some ([] : List UInt8)
 else
  (m_ref15_text e1).bind fun r2 =>
  some r2
def m_base_Lin_l1 (a1 : GLin) (b1 : GLin) : Nat → Int → Option Bool
 | 0, _ => none
 | fuel1 + 1, i1 =>
  if decide (i1 < (a1.L.length : Int)) then
   (lat a1.L i1).bind fun e1 =>
   (lat b1.L i1).bind fun e2 =>
   if !((decide (e1.Name = e2.Name)) && (decide (e1.By = e2.By))) then
    some false
   else
    (m_base_Lin_l1 a1 b1 fuel1) (wi64 (i1 + 1))
  else
   some true
def m_base_Lin (a1 : GLin) (b1 : GLin) : Option Bool :=
 if (!decide (a1.K = b1.K)) || (!decide ((a1.L.length : Int) = (b1.L.length : Int))) then
  some false
 else
  m_base_Lin_l1 a1 b1 fu 0
def m_base_Lins_l1 (a1 : List GLin) (b1 : List GLin) : Nat → Int → Option Bool
 | 0, _ => none
 | fuel1 + 1, i1 =>
  if decide (i1 < (a1.length : Int)) then
   (lat a1 i1).bind fun e1 =>
   (lat b1 i1).bind fun e2 =>
   (m_base_Lin e1 e2).bind fun r1 =>
   if !r1 then
    some false
   else
    (m_base_Lins_l1 a1 b1 fuel1) (wi64 (i1 + 1))
  else
   some true
def m_base_Lins (a1 : List GLin) (b1 : List GLin) : Option Bool :=
 if !decide ((a1.length : Int) = (b1.length : Int)) then
  some false
 else
  m_base_Lins_l1 a1 b1 fu 0
def m_base_Index (a1 : GIndex) (b1 : GIndex) : Option Bool :=
 (gd (decide (a1.From = b1.From)) (m_base_Lin a1.Lin b1.Lin)).bind fun r1 =>
 (gd ((decide (a1.From = b1.From)) && r1) (m_base_Lins a1.At b1.At)).bind fun r2 =>
 some (((decide (a1.From = b1.From)) && r1) && r2)
def m_base_Indices_l1 (a1 : List GIndex) (b1 : List GIndex) : Nat → Int → Option Bool
 | 0, _ => none
 | fuel1 + 1, i1 =>
  if decide (i1 < (a1.length : Int)) then
   (lat a1 i1).bind fun e1 =>
   (lat b1 i1).bind fun e2 =>
   (m_base_Index e1 e2).bind fun r1 =>
   if !r1 then
    some false
   else
    (m_base_Indices_l1 a1 b1 fuel1) (wi64 (i1 + 1))
  else
   some true
def m_base_Indices (a1 : List GIndex) (b1 : List GIndex) : Option Bool :=
 if !decide ((a1.length : Int) = (b1.length : Int)) then
  some false
 else
  m_base_Indices_l1 a1 b1 fu 0
def m_base_Exprs_l1 (a1 : List GExpr) (b1 : List GExpr) (rec_ : (GExpr → GExpr → Option Bool)) : Nat → Int → Option Bool
 | 0, _ => none
 | fuel1 + 1, i1 =>
  if decide (i1 < (a1.length : Int)) then
   (lat a1 i1).bind fun e1 =>
   (lat b1 i1).bind fun e2 =>
   (rec_ e1 e2).bind fun r1 =>
   if !r1 then
    some false
   else
    (m_base_Exprs_l1 a1 b1 rec_ fuel1) (wi64 (i1 + 1))
  else
   some true
def m_base_Exprs (rec_ : (GExpr → GExpr → Option Bool)) (a1 : List GExpr) (b1 : List GExpr) : Option Bool :=
 if !decide ((a1.length : Int) = (b1.length : Int)) then
  some false
 else
  m_base_Exprs_l1 a1 b1 rec_ fu 0
def m_base_Expr_b (rec_ : (GExpr → GExpr → Option Bool)) (a1 : GExpr) (b1 : GExpr) : Option Bool :=
 (gd ((((decide (a1.Op = b1.Op)) && (decide (a1.Name = b1.Name))) && ((decide (a1.Val.N = b1.Val.N)) && (decide (a1.Val.D = b1.Val.D)))) && ((decide (a1.Type_.Kind = b1.Type_.Kind)) && (decide (a1.Type_.Bits = b1.Type_.Bits)) && (decide (a1.Type_.Frac = b1.Type_.Frac)) && (decide (a1.Type_.Round = b1.Type_.Round)) && (decide (a1.Type_.Over = b1.Type_.Over)))) (m_base_Lin a1.Lin b1.Lin)).bind fun r1 =>
 (gd (((((decide (a1.Op = b1.Op)) && (decide (a1.Name = b1.Name))) && ((decide (a1.Val.N = b1.Val.N)) && (decide (a1.Val.D = b1.Val.D)))) && ((decide (a1.Type_.Kind = b1.Type_.Kind)) && (decide (a1.Type_.Bits = b1.Type_.Bits)) && (decide (a1.Type_.Frac = b1.Type_.Frac)) && (decide (a1.Type_.Round = b1.Type_.Round)) && (decide (a1.Type_.Over = b1.Type_.Over)))) && r1) (m_base_Indices a1.Idx b1.Idx)).bind fun r2 =>
 (gd ((((((decide (a1.Op = b1.Op)) && (decide (a1.Name = b1.Name))) && ((decide (a1.Val.N = b1.Val.N)) && (decide (a1.Val.D = b1.Val.D)))) && ((decide (a1.Type_.Kind = b1.Type_.Kind)) && (decide (a1.Type_.Bits = b1.Type_.Bits)) && (decide (a1.Type_.Frac = b1.Type_.Frac)) && (decide (a1.Type_.Round = b1.Type_.Round)) && (decide (a1.Type_.Over = b1.Type_.Over)))) && r1) && r2) (m_base_Exprs rec_ a1.Args b1.Args)).bind fun r3 =>
 some (((((((decide (a1.Op = b1.Op)) && (decide (a1.Name = b1.Name))) && ((decide (a1.Val.N = b1.Val.N)) && (decide (a1.Val.D = b1.Val.D)))) && ((decide (a1.Type_.Kind = b1.Type_.Kind)) && (decide (a1.Type_.Bits = b1.Type_.Bits)) && (decide (a1.Type_.Frac = b1.Type_.Frac)) && (decide (a1.Type_.Round = b1.Type_.Round)) && (decide (a1.Type_.Over = b1.Type_.Over)))) && r1) && r2) && r3)
def m_base_Expr_r : Nat → (GExpr → GExpr → Option Bool)
 | 0 => fun _ _ => none
 | n + 1 => m_base_Expr_b (m_base_Expr_r n)
def m_base_Expr  (a1 : GExpr) (b1 : GExpr) : Option Bool := m_base_Expr_r fu a1 b1
def m_law15_PrinterDistinct (a1 : GExpr) (b1 : GExpr) : Option Bool :=
 (m_ref15_Small a1).bind fun r1 =>
 (gd (!(!r1)) (m_ref15_Small b1)).bind fun r2 =>
 (gd (!((!r1) || (!r2))) (m_ref14_Validate a1)).bind fun r3 =>
 (gd (!(((!r1) || (!r2)) || (!decide (r3 = 0)))) (m_ref14_Validate b1)).bind fun r4 =>
 if (((!r1) || (!r2)) || (!decide (r3 = 0))) || (!decide (r4 = 0)) then
  (m_law15_alive).bind fun r5 =>
  some r5
 else
  (m_printer_Expr a1).bind fun r6 =>
  (m_printer_Expr b1).bind fun r7 =>
  (m_base_Expr a1 b1).bind fun r8 =>
  (gd ((decide (r6 = r7)) == r8) (m_law15_alive)).bind fun r9 =>
  some (((decide (r6 = r7)) == r8) && r9)
def m_lexer_space (r1 : Int) : Option Bool :=
 if decide (r1 = 9) then
  if decide (r1 = 9) then
   some true
  else
   some false
 else
  if decide (r1 = 10) then
   if decide (r1 = 10) then
    some true
   else
    some false
  else
   if decide (r1 = 13) then
    if decide (r1 = 13) then
     some true
    else
     some false
   else
    if decide (r1 = 32) then
     some true
    else
     some false
def m_lexer_skip_1 (r1 : Int) : Option Bool :=
 some (!decide (r1 = 10))
def m_lexer_skip_l1 (s1 : List UInt8) : Nat → Int → Option Int
 | 0, _ => none
 | fuel1 + 1, at1 =>
  if decide (at1 < (s1.length : Int)) then
   (sat s1 at1).bind fun b1 =>
   (m_lexer_space (wi32 b1)).bind fun r1 =>
   if r1 then
    (m_lexer_skip_l1 s1 fuel1) (wi64 (at1 + 1))
   else
    if decide (wi32 b1 = 35) then
     (lfrom s1 at1).bind fun s2 =>
     (m_lexer_span s2 m_lexer_skip_1).bind fun r2 =>
     (m_lexer_skip_l1 s1 fuel1) (wi64 (at1 + r2))
    else
     some at1
  else
   some at1
def m_lexer_skip (s1 : List UInt8) : Option Int :=
 m_lexer_skip_l1 s1 fu 0
def m_lexer_symbol (r1 : Int) : Option Bool :=
 if decide (r1 = 40) then
  if decide (r1 = 40) then
   some true
  else
   some false
 else
  if decide (r1 = 41) then
   if decide (r1 = 41) then
    some true
   else
    some false
  else
   if decide (r1 = 91) then
    if decide (r1 = 91) then
     some true
    else
     some false
   else
    if decide (r1 = 93) then
     if decide (r1 = 93) then
      some true
     else
      some false
    else
     if decide (r1 = 123) then
      if decide (r1 = 123) then
       some true
      else
       some false
     else
      if decide (r1 = 125) then
       if decide (r1 = 125) then
        some true
       else
        some false
      else
       if decide (r1 = 44) then
        if decide (r1 = 44) then
         some true
        else
         some false
       else
        if decide (r1 = 59) then
         if decide (r1 = 59) then
          some true
         else
          some false
        else
         if decide (r1 = 58) then
          if decide (r1 = 58) then
           some true
          else
           some false
         else
          if decide (r1 = 43) then
           if decide (r1 = 43) then
            some true
           else
            some false
          else
           if decide (r1 = 45) then
            if decide (r1 = 45) then
             some true
            else
             some false
           else
            if decide (r1 = 42) then
             if decide (r1 = 42) then
              some true
             else
              some false
            else
             if decide (r1 = 47) then
              if decide (r1 = 47) then
               some true
              else
               some false
             else
              if decide (r1 = 60) then
               if decide (r1 = 60) then
                some true
               else
                some false
              else
               if decide (r1 = 61) then
                if decide (r1 = 61) then
                 some true
                else
                 some false
               else
                if decide (r1 = 38) then
                 if decide (r1 = 38) then
                  some true
                 else
                  some false
                else
                 if decide (r1 = 124) then
                  if decide (r1 = 124) then
                   some true
                  else
                   some false
                 else
                  if decide (r1 = 33) then
                   if decide (r1 = 33) then
                    some true
                   else
                    some false
                  else
                   if decide (r1 = 46) then
                    if decide (r1 = 46) then
                     some true
                    else
                     some false
                   else
                    if decide (r1 = 64) then
                     some true
                    else
                     some false
def m_lexer_next (s1 : List UInt8) : Option (Int × Int) :=
 (sat s1 0).bind fun b1 =>
 (m_lexer_letter (wi32 b1)).bind fun r1 =>
 if r1 then
  (m_lexer_span s1 m_lexer_inWord).bind fun r2 =>
  some (1, r2)
 else
  (m_lexer_digit (wi32 b1)).bind fun r3 =>
  if r3 then
   (m_lexer_span s1 m_lexer_digit).bind fun r4 =>
   some (2, r4)
  else
   (gd (((decide (wi32 b1 = 60)) || (decide (wi32 b1 = 61))) && (decide (1 < (s1.length : Int)))) (sat s1 1)).bind fun b2 =>
   if (((decide (wi32 b1 = 60)) || (decide (wi32 b1 = 61))) && (decide (1 < (s1.length : Int)))) && (decide (b2 = 61)) then
    some (3, 2)
   else
    (m_lexer_symbol (wi32 b1)).bind fun r5 =>
    if r5 then
     some (3, 1)
    else
     some (0, 0)
def m_lexer_Tokenize_l1 (s1 : List UInt8) : Nat → (List GToken) → Int → Option (List GToken × Int × Int)
 | 0, _, _ => none
 | fuel1 + 1, out1, at1 =>
  if decide (at1 < (s1.length : Int)) then
   (lfrom s1 at1).bind fun s2 =>
   (m_lexer_next s2).bind fun r2 =>
   if decide (r2.1 = 0) then
    some (([] : List GToken), at1, 5)
   else
    if (decide (r2.1 = 1)) && (decide (16 < r2.2)) then
     some (([] : List GToken), at1, 2)
    else
     (lsub s1 at1 (wi64 (at1 + r2.2))).bind fun s3 =>
     (lapp out1 ([(⟨r2.1, at1, s3⟩ : GToken)] : List GToken)).bind fun zs1 =>
     (lfrom s1 (wi64 (at1 + r2.2))).bind fun s4 =>
     (m_lexer_skip s4).bind fun r3 =>
     (some (wi64 ((wi64 (at1 + r2.2)) + r3))).bind fun at2 =>
     (m_lexer_Tokenize_l1 s1 fuel1) zs1 at2
  else
   some (out1, 0, 0)
def m_lexer_Tokenize (s1 : List UInt8) : Option (List GToken × Int × Int) :=
 if decide (65536 < (s1.length : Int)) then
  some (([] : List GToken), 0, 2)
 else
  (m_lexer_skip s1).bind fun r1 =>
  m_lexer_Tokenize_l1 s1 fu ([] : List GToken) r1
end Go.Proofs.YtebpdmfmknfkjaaGreatDoor
