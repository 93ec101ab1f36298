import Derived.Test.YtlakfanockhngaaGreatDoorSXm
namespace Go.Proofs.YtlakfanockhngaaGreatDoor
open Go Go.RowKit Go.Vc
set_option linter.unusedVariables false
set_option linter.unusedSimpArgs false
structure GType where
 Kind : Int
 Bits : Int
 Frac : Int
 Round : Int
 Over : Int
deriving Inhabited, DecidableEq
def cGType : Cod GType where
 n := 5
 rel _ _ x cs := cs = [(Value.int .i64 x.Kind), (Value.int .i64 x.Bits), (Value.int .i64 x.Frac), (Value.int .i64 x.Round), (Value.int .i64 x.Over)]
 len h := by subst h; rfl
 one h := by subst h; rfl
 sp _ h := h
structure GVal where
 N : Int
 D : Int
deriving Inhabited, DecidableEq
def cGVal : Cod GVal where
 n := 2
 rel _ _ x cs := cs = [(Value.int .i64 x.N), (Value.int .i64 x.D)]
 len h := by subst h; rfl
 one h := by subst h; rfl
 sp _ h := h
structure GTensor where
 Type_ : GType
 Dims : List Int
 Vals : List GVal
deriving Inhabited, DecidableEq
def cGTensor : Cod GTensor where
 n := 7
 rel D w x cs := ∃ (A0 : Option Addr) (c0 : Nat) (A2 : Option Addr) (c2 : Nat), cs = [(Value.int .i64 x.Type_.Kind), (Value.int .i64 x.Type_.Bits), (Value.int .i64 x.Type_.Frac), (Value.int .i64 x.Type_.Round), (Value.int .i64 x.Type_.Over), (Value.slice A0 x.Dims.length c0), (Value.slice A2 x.Vals.length c2)] ∧ SlC (cInt .i64) D w A0 c0 x.Dims ∧ SlC cGVal D w A2 c2 x.Vals
 len h := by obtain ⟨_, _, _, _, rfl, _, _⟩ := h; rfl
 one h := by obtain ⟨A0, c0, A2, c2, rfl, h0, h1⟩ := h; rfl
 sp hs h := by obtain ⟨A0, c0, A2, c2, rfl, h0, h1⟩ := h; exact ⟨_, _, _, _, rfl, h0.sp hs, h1.sp hs⟩
def fnP_k1 (v : Value) (m : (GType → Int → Int → Option (Int × Int))) (D : NP) (w : World) : Prop :=
 isFn v = true ∧ ∀ (D' : NP) (w' : World), Sp D w D' w' → (∀ k, D' k → k < w'.heap.size) → ∀ (x_1 : GType) (x_2 : Int) (x_3 : Int) (r : Int × Int), AllCl [] D' w' → m x_1 x_2 x_3 = some r →
  CallV Tryz.prog v [(Value.agg #[(Value.int .i64 x_1.Kind), (Value.int .i64 x_1.Bits), (Value.int .i64 x_1.Frac), (Value.int .i64 x_1.Round), (Value.int .i64 x_1.Over)]), (Value.int .i64 x_2), (Value.int .i64 x_3)] w' fun e w'' => e = .returned (Value.tuple #[(Value.int .i64 r.1), (Value.int .i64 r.2)]) ∧ Ext w' w'' ∧ AllCl [] D' w''
theorem fnP_k1.sp {v : Value} {m : (GType → Int → Int → Option (Int × Int))} {D D' : NP} {w w' : World} (hs : Sp D w D' w') (h : fnP_k1 v m D w) : fnP_k1 v m D' w' := ⟨h.1, fun D'' w'' hs' => h.2 D'' w'' (hs.trans hs')⟩
def clFn_k1 (v : Value) (m : (GType → Int → Int → Option (Int × Int))) : Cl := ⟨fnP_k1 v m, fnP_k1.sp⟩
structure Gfixed_operation where
 run : (GType → Int → Int → Option (Int × Int))
deriving Inhabited
def fnS_k2 {σ : Type} (I : StI σ) (v : Value) (m : (Int → Int → σ → Option (Int × σ))) (D : NP) (w : World) : Prop :=
 isFn v = true ∧ ∀ (C0 F : NP) (w' : World), Sp D w (Dj F C0) w' → ∀ (x_1 : Int) (x_2 : Int) (s : σ) (r : Int × σ), Bun C0 F w' C0 w' [MO.st I s] [] → m x_1 x_2 s = some r →
  CallV Tryz.prog v [(Value.int .i64 x_1), (Value.int .i64 x_2)] w' fun e w'' => ∃  (C : NP), e = .returned (Value.int .i64 r.1) ∧ Bun C0 F w' C w'' [MO.st I r.2] []
theorem fnS_k2.sp {σ : Type} {I : StI σ} {v : Value} {m : (Int → Int → σ → Option (Int × σ))} {D D' : NP} {w w' : World} (hs : Sp D w D' w') (h : fnS_k2 I v m D w) : fnS_k2 I v m D' w' := ⟨h.1, fun C0 F w'' hs' => h.2 C0 F w'' (hs.trans hs')⟩
def clFnS_k2 {σ : Type} (I : StI σ) (v : Value) (m : (Int → Int → σ → Option (Int × σ))) : Cl := ⟨fnS_k2 I v m, fnS_k2.sp⟩
def fnP_k3 (v : Value) (m : ((List Int) → Option (List Int))) (D : NP) (w : World) : Prop :=
 isFn v = true ∧ ∀ (D' : NP) (w' : World), Sp D w D' w' → (∀ k, D' k → k < w'.heap.size) → ∀ (x_1 : List Int) (A_2 : Option Addr) (c_3 : Nat) (r : List Int), AllCl [Cl.sl (cInt .i64) A_2 c_3 x_1] D' w' → m x_1 = some r →
  CallV Tryz.prog v [(Value.slice A_2 x_1.length c_3)] w' fun e w'' => ∃ (A_4 : Option Addr) (c_5 : Nat), e = .returned (Value.slice A_4 r.length c_5) ∧ Ext w' w'' ∧ AllCl [Cl.sl (cInt .i64) A_4 c_5 r] D' w''
theorem fnP_k3.sp {v : Value} {m : ((List Int) → Option (List Int))} {D D' : NP} {w w' : World} (hs : Sp D w D' w') (h : fnP_k3 v m D w) : fnP_k3 v m D' w' := ⟨h.1, fun D'' w'' hs' => h.2 D'' w'' (hs.trans hs')⟩
def clFn_k3 (v : Value) (m : ((List Int) → Option (List Int))) : Cl := ⟨fnP_k3 v m, fnP_k3.sp⟩
def m_law12_Small (t1 : GTensor) (most1 : Int) : Option Bool :=
 some ((decide ((t1.Vals.length : Int) ≤ most1)) && (decide ((t1.Dims.length : Int) ≤ 20)))
def m_value_plain (t1 : GType) : Option Bool :=
 some ((decide (t1.Kind = t1.Kind)) && (decide (t1.Bits = 0)) && (decide (t1.Frac = 0)) && (decide (t1.Round = 0)) && (decide (t1.Over = 0)))
def m_fixed_ValidateType (t1 : GType) : Option Int :=
 (some (((decide (1 ≤ t1.Round)) && (decide (t1.Round ≤ 4))) && ((decide (t1.Over = 1)) || (decide (t1.Over = 2))))).bind fun modes1 =>
 if (((((!decide (t1.Kind = 2)) || (decide (t1.Bits < 2))) || (decide (31 < t1.Bits))) || (decide (t1.Frac < 0))) || (decide (30 < t1.Frac))) || (!modes1) then
  some 10
 else
  some 0
def m_value_ValidateType_j1 (t1 : GType) (i1 : Bool) : Option Int :=
 if i1 then
  (m_value_plain t1).bind fun r1 =>
  if r1 then
   some 0
  else
   some 10
 else
  if decide (t1.Kind = 2) then
   (m_fixed_ValidateType t1).bind fun r2 =>
   if decide (r2 = 0) then
    some 0
   else
    some 10
  else
   some 10
def m_value_ValidateType (t1 : GType) : Option Int :=
 if decide (t1.Kind = 1) then
  m_value_ValidateType_j1 t1 (decide (t1.Kind = 1))
 else
  m_value_ValidateType_j1 t1 (decide (t1.Kind = 3))
def m_shape_Validate_l1 (d1 : List Int) : Nat → Int → Int → Option Int
 | 0, _, _ => none
 | fuel1 + 1, size1, i1 =>
  if decide (i1 < (d1.length : Int)) then
   (lat d1 i1).bind fun e1 =>
   if size1 ≠ 0 then
    if decide (wi64 (Int.tdiv 4096 size1) < e1) then
     some 2
    else
     (m_shape_Validate_l1 d1 fuel1) (wi64 (size1 * e1)) (wi64 (i1 + 1))
   else none
  else
   some 0
def m_shape_Validate_j1 (d1 : List Int) : Option Int :=
 m_shape_Validate_l1 d1 fu 1 0
def m_shape_Validate_l2 (d1 : List Int) : Nat → Int → Option Int
 | 0, _ => none
 | fuel2 + 1, i2 =>
  if decide (i2 < (d1.length : Int)) then
   (lat d1 i2).bind fun e2 =>
   if decide (e2 < 1) then
    some 1
   else
    (m_shape_Validate_l2 d1 fuel2) (wi64 (i2 + 1))
  else
   m_shape_Validate_j1 d1
def m_shape_Validate (d1 : List Int) : Option Int :=
 if decide (6 < (d1.length : Int)) then
  some 2
 else
  m_shape_Validate_l2 d1 fu 0
def m_shape_Size_l1 (d1 : List Int) : Nat → Int → Int → Option Int
 | 0, _, _ => none
 | fuel1 + 1, size1, i1 =>
  if decide (i1 < (d1.length : Int)) then
   (lat d1 i1).bind fun e1 =>
   (m_shape_Size_l1 d1 fuel1) (wi64 (size1 * e1)) (wi64 (i1 + 1))
  else
   some size1
def m_shape_Size (d1 : List Int) : Option Int :=
 (m_shape_Validate d1).bind fun r1 =>
 if !decide (r1 = 0) then
  some 0
 else
  m_shape_Size_l1 d1 fu 1 0
def m_round_valid (bits1 : Int) : Option Bool :=
 some ((decide (2 ≤ bits1)) && (decide (bits1 ≤ 31)))
def m_round_MinInt (bits1 : Int) : Option Int :=
 (m_round_valid bits1).bind fun r1 =>
 if !r1 then
  some 0
 else
  if 0 ≤ (wu64 (wi64 (bits1 - 1))) then
   some (wi64 (-(wi64 (1 * 2 ^ (min (Int.toNat (wu64 (wi64 (bits1 - 1)))) 64)))))
  else none
def m_round_MaxInt (bits1 : Int) : Option Int :=
 (m_round_valid bits1).bind fun r1 =>
 if !r1 then
  some 0
 else
  if 0 ≤ (wu64 (wi64 (bits1 - 1))) then
   some (wi64 ((wi64 (1 * 2 ^ (min (Int.toNat (wu64 (wi64 (bits1 - 1)))) 64))) - 1))
  else none
def m_fixed_Valid (t1 : GType) (v1 : GVal) : Option Bool :=
 (m_fixed_ValidateType t1).bind fun r1 =>
 (gd ((decide (r1 = 0)) && (decide (v1.D = 1))) (m_round_MinInt t1.Bits)).bind fun r2 =>
 (gd (((decide (r1 = 0)) && (decide (v1.D = 1))) && (decide (r2 ≤ v1.N))) (m_round_MaxInt t1.Bits)).bind fun r3 =>
 some ((((decide (r1 = 0)) && (decide (v1.D = 1))) && (decide (r2 ≤ v1.N))) && (decide (v1.N ≤ r3)))
def m_value_whole (n1 : Int) : Option Bool :=
 some ((decide ((-2147483647) ≤ n1)) && (decide (n1 ≤ 2147483647)))
def m_frac_inRange (n1 : Int) : Option Bool :=
 some ((decide ((-2147483647) ≤ n1)) && (decide (n1 ≤ 2147483647)))
def m_frac_magnitude (n1 : Int) : Option Int :=
 if decide (n1 < 0) then
  some (wu64 (-(wu64 n1)))
 else
  some (wu64 n1)
def m_frac_gcd_l1 : Nat → Int → Int → Option Int
 | 0, _, _ => none
 | fuel1 + 1, a2, b2 =>
  if !decide (b2 = 0) then
   if b2 ≠ 0 then
    (m_frac_gcd_l1 fuel1) b2 (Int.tmod a2 b2)
   else none
  else
   some a2
def m_frac_gcd (a1 : Int) (b1 : Int) : Option Int :=
 m_frac_gcd_l1 fu a1 b1
def m_frac_Valid (v1 : GVal) : Option Bool :=
 (gd ((decide (1 ≤ v1.D)) && (decide (v1.D ≤ 2147483647))) (m_frac_inRange v1.N)).bind fun r1 =>
 (gd (((decide (1 ≤ v1.D)) && (decide (v1.D ≤ 2147483647))) && r1) (m_frac_magnitude v1.N)).bind fun r2 =>
 (gd (((decide (1 ≤ v1.D)) && (decide (v1.D ≤ 2147483647))) && r1) (m_frac_gcd r2 (wu64 v1.D))).bind fun r3 =>
 some ((((decide (1 ≤ v1.D)) && (decide (v1.D ≤ 2147483647))) && r1) && (decide (r3 = 1)))
def m_value_Valid (t1 : GType) (v1 : GVal) : Option Bool :=
 (m_value_ValidateType t1).bind fun r1 =>
 if !decide (r1 = 0) then
  some false
 else
  if decide (t1.Kind = 2) then
   (m_fixed_Valid t1 v1).bind fun r2 =>
   some r2
  else
   if decide (t1.Kind = 3) then
    (gd (decide (v1.D = 1)) (m_value_whole v1.N)).bind fun r3 =>
    some ((decide (v1.D = 1)) && r3)
   else
    (m_frac_Valid v1).bind fun r4 =>
    some r4
def m_tensor_Validate_l1 (t1 : GTensor) : Nat → Int → Option Int
 | 0, _ => none
 | fuel1 + 1, i1 =>
  if decide (i1 < (t1.Vals.length : Int)) then
   (lat t1.Vals i1).bind fun e1 =>
   (m_value_Valid t1.Type_ e1).bind fun r4 =>
   if !r4 then
    some 1
   else
    (m_tensor_Validate_l1 t1 fuel1) (wi64 (i1 + 1))
  else
   some 0
def m_tensor_Validate (t1 : GTensor) : Option Int :=
 (m_value_ValidateType t1.Type_).bind fun r1 =>
 if !decide (r1 = 0) then
  some r1
 else
  (m_shape_Validate t1.Dims).bind fun r2 =>
  if !decide (r2 = 0) then
   some r2
  else
   (m_shape_Size t1.Dims).bind fun r3 =>
   if !decide ((t1.Vals.length : Int) = r3) then
    some 1
   else
    m_tensor_Validate_l1 t1 fu 0
def m_tensor_New (t1 : GType) (dims1 : List Int) (vals1 : List GVal) : Option (GTensor × Int) :=
 (lapp ([] : List Int) dims1).bind fun zs1 =>
 (lapp ([] : List GVal) vals1).bind fun zs2 =>
 (m_tensor_Validate (⟨t1, zs1, zs2⟩ : GTensor)).bind fun r1 =>
 if !decide (r1 = 0) then
  some ((⟨(⟨0, 0, 0, 0, 0⟩ : GType), ([] : List Int), ([] : List GVal)⟩ : GTensor), r1)
 else
  some ((⟨t1, zs1, zs2⟩ : GTensor), 0)
def m_fixed_Neg_1 (a1 : GType) (x1 : Int) (a2 : Int) : Option (Int × Int) :=
 some (wi64 (-x1), 0)
def m_fixed_check_l1 (operands1 : List GVal) (t1 : GType) : Nat → Int → Option Int
 | 0, _ => none
 | fuel1 + 1, i1 =>
  if decide (i1 < (operands1.length : Int)) then
   (lat operands1 i1).bind fun e1 =>
   (m_fixed_Valid t1 e1).bind fun r2 =>
   if !r2 then
    some 1
   else
    (m_fixed_check_l1 operands1 t1 fuel1) (wi64 (i1 + 1))
  else
   some 0
def m_fixed_check (t1 : GType) (operands1 : List GVal) : Option Int :=
 (m_fixed_ValidateType t1).bind fun r1 =>
 if !decide (r1 = 0) then
  some r1
 else
  m_fixed_check_l1 operands1 t1 fu 0
def m_round_Narrow (n1 : Int) (bits1 : Int) (over1 : Int) : Option (Int × Bool) :=
 (m_round_valid bits1).bind fun r1 =>
 if (!r1) || ((!decide (over1 = 1)) && (!decide (over1 = 2))) then
  some (0, false)
 else
  (m_round_MinInt bits1).bind fun r2 =>
  (m_round_MaxInt bits1).bind fun r3 =>
  if (decide (r2 ≤ n1)) && (decide (n1 ≤ r3)) then
   some (n1, false)
  else
   if (decide (over1 = 1)) && (decide (n1 < r2)) then
    some (r2, true)
   else
    if decide (over1 = 1) then
     some (r3, true)
    else
     if 0 ≤ (wu64 (wi64 (64 - bits1))) then
      some (Int.fdiv (wi64 (wu64 ((wu64 n1) * 2 ^ (min (Int.toNat (wu64 (wi64 (64 - bits1)))) 64)))) (2 ^ (min (Int.toNat (wu64 (wi64 (64 - bits1)))) 64)), true)
     else none
def m_fixed_narrow (t1 : GType) (n1 : Int) : Option GVal :=
 (m_round_Narrow n1 t1.Bits t1.Over).bind fun r1 =>
 some (⟨r1.1, 1⟩ : GVal)
def m_fixed_apply (op1 : Gfixed_operation) (t1 : GType) (a1 : GVal) (b1 : GVal) : Option (GVal × Int) :=
 (m_fixed_check t1 ([a1, b1] : List GVal)).bind fun r1 =>
 if !decide (r1 = 0) then
  some ((⟨0, 0⟩ : GVal), r1)
 else
  (op1.run t1 a1.N b1.N).bind fun r2 =>
  if !decide (r2.2 = 0) then
   some ((⟨0, 0⟩ : GVal), r2.2)
  else
   (m_fixed_narrow t1 r2.1).bind fun r3 =>
   some (r3, 0)
def m_fixed_Neg (t1 : GType) (a1 : GVal) : Option (GVal × Int) :=
 (m_fixed_apply (⟨m_fixed_Neg_1⟩ : Gfixed_operation) t1 a1 a1).bind fun r1 =>
 some (r1.1, r1.2)
def m_value_negate (t1 : GType) (a1 : GVal) : Option (GVal × Int) :=
 if decide (t1.Kind = 2) then
  (m_fixed_Neg t1 a1).bind fun r1 =>
  some (r1.1, r1.2)
 else
  some ((⟨wi64 (-a1.N), a1.D⟩ : GVal), 0)
def m_frac_order (a1 : Int) (b1 : Int) : Option Int :=
 if decide (a1 < b1) then
  some (-1)
 else
  if decide (b1 < a1) then
   some 1
  else
   some 0
def m_frac_Compare (a1 : GVal) (b1 : GVal) : Option Int :=
 (m_frac_Valid a1).bind fun r1 =>
 (gd r1 (m_frac_Valid b1)).bind fun r2 =>
 if r1 && r2 then
  (m_frac_order (wi64 (a1.N * b1.D)) (wi64 (b1.N * a1.D))).bind fun r3 =>
  some r3
 else
  (m_frac_order a1.N b1.N).bind fun r4 =>
  if !decide (r4 = 0) then
   some r4
  else
   (m_frac_order a1.D b1.D).bind fun r5 =>
   some r5
def m_value_Compare (t1 : GType) (a1 : GVal) (b1 : GVal) : Option Int :=
 (m_value_Valid t1 a1).bind fun r1 =>
 (gd (!(!r1)) (m_value_Valid t1 b1)).bind fun r2 =>
 if (!r1) || (!r2) then
  some 0
 else
  if decide (t1.Kind = 1) then
   (m_frac_Compare a1 b1).bind fun r3 =>
   some r3
  else
   if decide (a1.N < b1.N) then
    some (-1)
   else
    if decide (b1.N < a1.N) then
     some 1
    else
     some 0
def m_value_integer_j1 (n1 : Int) : Option (GVal × Int) :=
 (m_value_whole n1).bind fun r1 =>
 if !r1 then
  some ((⟨0, 0⟩ : GVal), 3)
 else
  some ((⟨n1, 1⟩ : GVal), 0)
def m_value_integer (op1 : Int) (a1 : Int) (b1 : Int) : Option (GVal × Int) :=
 if decide (op1 = 4) then
  m_value_integer_j1 (wi64 (a1 + b1))
 else
  if decide (op1 = 5) then
   m_value_integer_j1 (wi64 (a1 - b1))
  else
   if decide (op1 = 6) then
    m_value_integer_j1 (wi64 (a1 * b1))
   else
    if decide (b1 = 0) then
     some ((⟨0, 0⟩ : GVal), 4)
    else
     if b1 ≠ 0 then
      if (!decide (Int.tmod a1 b1 = 0)) && ((decide (a1 < 0)) != (decide (b1 < 0))) then
       (some (wi64 ((wi64 (Int.tdiv a1 b1)) - 1))).bind fun n2 =>
       m_value_integer_j1 n2
      else
       m_value_integer_j1 (wi64 (Int.tdiv a1 b1))
     else none
def m_fixed_Add_1 (a1 : GType) (x1 : Int) (y1 : Int) : Option (Int × Int) :=
 some (wi64 (x1 + y1), 0)
def m_fixed_Add (t1 : GType) (a1 : GVal) (b1 : GVal) : Option (GVal × Int) :=
 (m_fixed_apply (⟨m_fixed_Add_1⟩ : Gfixed_operation) t1 a1 b1).bind fun r1 =>
 some (r1.1, r1.2)
def m_fixed_Sub_1 (a1 : GType) (x1 : Int) (y1 : Int) : Option (Int × Int) :=
 some (wi64 (x1 - y1), 0)
def m_fixed_Sub (t1 : GType) (a1 : GVal) (b1 : GVal) : Option (GVal × Int) :=
 (m_fixed_apply (⟨m_fixed_Sub_1⟩ : Gfixed_operation) t1 a1 b1).bind fun r1 =>
 some (r1.1, r1.2)
def m_round_mode (how1 : Int) : Option Bool :=
 some ((decide (1 ≤ how1)) && (decide (how1 ≤ 4)))
def m_round_magnitude (n1 : Int) : Option Int :=
 if decide (n1 < 0) then
  some (wu64 (-(wu64 n1)))
 else
  some (wu64 n1)
def m_round_rounded_j1 (e1 : Int) (how1 : Int) (a1 : Int) (b1 : Int) (self1 : Int → Int → Option Int) (i1 : Int) (i2 : Bool) : Option Int :=
 if i2 then
  some e1
 else
  if (decide (how1 = 4)) && ((decide (wu64 (2 * (Int.tmod a1 b1)) < b1)) || ((decide (wu64 (2 * (Int.tmod a1 b1)) = b1)) && (decide (Int.tmod (wu64 (Int.tdiv a1 b1)) 2 = 0)))) then
   some e1
  else
   self1 e1 (wi64 (i1 + 1))
def m_round_rounded_l1 (a1 : Int) (b1 : Int) (how1 : Int) (negative1 : Bool) : Nat → Int → Int → Option Int
 | 0, _, _ => none
 | fuel1 + 1, m1, i1 =>
  if decide (i1 < 2) then
   (lat ([wu64 (Int.tdiv a1 b1), wu64 ((wu64 (Int.tdiv a1 b1)) + 1)] : List Int) i1).bind fun e1 =>
   if (decide (Int.tmod a1 b1 = 0)) || (decide (how1 = 3)) then
    some e1
   else
    if (decide (how1 = 1)) && (!negative1) then
     m_round_rounded_j1 e1 how1 a1 b1 (m_round_rounded_l1 a1 b1 how1 negative1 fuel1) i1 ((decide (how1 = 1)) && (!negative1))
    else
     m_round_rounded_j1 e1 how1 a1 b1 (m_round_rounded_l1 a1 b1 how1 negative1 fuel1) i1 ((decide (how1 = 2)) && negative1)
  else
   some m1
def m_round_rounded (a1 : Int) (b1 : Int) (negative1 : Bool) (how1 : Int) : Option Int :=
 if b1 ≠ 0 then
  m_round_rounded_l1 a1 b1 how1 negative1 fu (wu64 (Int.tdiv a1 b1)) 0
 else none
def m_round_Divide (n1 : Int) (d1 : Int) (how1 : Int) : Option (Int × Int) :=
 (m_round_mode how1).bind fun r1 =>
 if !r1 then
  some (0, 1)
 else
  if decide (d1 = 0) then
   some (0, 4)
  else
   (some ((decide (n1 < 0)) != (decide (d1 < 0)))).bind fun negative1 =>
   (m_round_magnitude n1).bind fun r2 =>
   (m_round_magnitude d1).bind fun r3 =>
   (m_round_rounded r2 r3 negative1 how1).bind fun r4 =>
   if negative1 then
    some (wi64 (wu64 (-r4)), 0)
   else
    if decide (9223372036854775808 ≤ r4) then
     some (0, 3)
    else
     some (wi64 r4, 0)
def m_fixed_Mul_1 (t1 : GType) (x1 : Int) (y1 : Int) : Option (Int × Int) :=
 if 0 ≤ t1.Frac then
  (m_round_Divide (wi64 (x1 * y1)) (wi64 (1 * 2 ^ (min (Int.toNat t1.Frac) 64))) t1.Round).bind fun r1 =>
  some (r1.1, r1.2)
 else none
def m_fixed_Mul (t1 : GType) (a1 : GVal) (b1 : GVal) : Option (GVal × Int) :=
 (m_fixed_apply (⟨m_fixed_Mul_1⟩ : Gfixed_operation) t1 a1 b1).bind fun r1 =>
 some (r1.1, r1.2)
def m_fixed_Div_1 (t1 : GType) (x1 : Int) (y1 : Int) : Option (Int × Int) :=
 if 0 ≤ t1.Frac then
  (m_round_Divide (wi64 (x1 * 2 ^ (min (Int.toNat t1.Frac) 64))) y1 t1.Round).bind fun r1 =>
  some (r1.1, r1.2)
 else none
def m_fixed_Div (t1 : GType) (a1 : GVal) (b1 : GVal) : Option (GVal × Int) :=
 (m_fixed_apply (⟨m_fixed_Div_1⟩ : Gfixed_operation) t1 a1 b1).bind fun r1 =>
 some (r1.1, r1.2)
def m_frac_New (n1 : Int) (d1 : Int) : Option (GVal × Int) :=
 if decide (d1 = 0) then
  some ((⟨0, 0⟩ : GVal), 4)
 else
  (some ((decide (n1 < 0)) != (decide (d1 < 0)))).bind fun negative1 =>
  (m_frac_magnitude n1).bind fun r1 =>
  (m_frac_magnitude d1).bind fun r2 =>
  (m_frac_gcd r1 r2).bind fun r3 =>
  if r3 ≠ 0 then
   if (decide (2147483647 < wu64 (Int.tdiv r1 r3))) || (decide (2147483647 < wu64 (Int.tdiv r2 r3))) then
    some ((⟨0, 0⟩ : GVal), 3)
   else
    if negative1 then
     some ((⟨wi64 (-(wi64 (wu64 (Int.tdiv r1 r3)))), wi64 (wu64 (Int.tdiv r2 r3))⟩ : GVal), 0)
    else
     some ((⟨wi64 (wu64 (Int.tdiv r1 r3)), wi64 (wu64 (Int.tdiv r2 r3))⟩ : GVal), 0)
  else none
def m_frac_Add (a1 : GVal) (b1 : GVal) : Option (GVal × Int) :=
 (m_frac_Valid a1).bind fun r1 =>
 (gd (!(!r1)) (m_frac_Valid b1)).bind fun r2 =>
 if (!r1) || (!r2) then
  some ((⟨0, 0⟩ : GVal), 1)
 else
  (m_frac_New (wi64 ((wi64 (a1.N * b1.D)) + (wi64 (b1.N * a1.D)))) (wi64 (a1.D * b1.D))).bind fun r3 =>
  some (r3.1, r3.2)
def m_frac_Sub (a1 : GVal) (b1 : GVal) : Option (GVal × Int) :=
 (m_frac_Valid a1).bind fun r1 =>
 (gd (!(!r1)) (m_frac_Valid b1)).bind fun r2 =>
 if (!r1) || (!r2) then
  some ((⟨0, 0⟩ : GVal), 1)
 else
  (m_frac_New (wi64 ((wi64 (a1.N * b1.D)) - (wi64 (b1.N * a1.D)))) (wi64 (a1.D * b1.D))).bind fun r3 =>
  some (r3.1, r3.2)
def m_frac_Mul (a1 : GVal) (b1 : GVal) : Option (GVal × Int) :=
 (m_frac_Valid a1).bind fun r1 =>
 (gd (!(!r1)) (m_frac_Valid b1)).bind fun r2 =>
 if (!r1) || (!r2) then
  some ((⟨0, 0⟩ : GVal), 1)
 else
  (m_frac_New (wi64 (a1.N * b1.N)) (wi64 (a1.D * b1.D))).bind fun r3 =>
  some (r3.1, r3.2)
def m_frac_Div (a1 : GVal) (b1 : GVal) : Option (GVal × Int) :=
 (m_frac_Valid a1).bind fun r1 =>
 (gd (!(!r1)) (m_frac_Valid b1)).bind fun r2 =>
 if (!r1) || (!r2) then
  some ((⟨0, 0⟩ : GVal), 1)
 else
  (m_frac_New (wi64 (a1.N * b1.D)) (wi64 (a1.D * b1.N))).bind fun r3 =>
  some (r3.1, r3.2)
def m_value_arithmetic (op1 : Int) (t1 : GType) (a1 : GVal) (b1 : GVal) : Option (GVal × Int) :=
 if decide (t1.Kind = 3) then
  (m_value_integer op1 a1.N b1.N).bind fun r1 =>
  some (r1.1, r1.2)
 else
  if (decide (op1 = 4)) && (decide (t1.Kind = 2)) then
   (m_fixed_Add t1 a1 b1).bind fun r2 =>
   some (r2.1, r2.2)
  else
   if (decide (op1 = 5)) && (decide (t1.Kind = 2)) then
    (m_fixed_Sub t1 a1 b1).bind fun r3 =>
    some (r3.1, r3.2)
   else
    if (decide (op1 = 6)) && (decide (t1.Kind = 2)) then
     (m_fixed_Mul t1 a1 b1).bind fun r4 =>
     some (r4.1, r4.2)
    else
     if decide (t1.Kind = 2) then
      (m_fixed_Div t1 a1 b1).bind fun r5 =>
      some (r5.1, r5.2)
     else
      if decide (op1 = 4) then
       (m_frac_Add a1 b1).bind fun r6 =>
       some (r6.1, r6.2)
      else
       if decide (op1 = 5) then
        (m_frac_Sub a1 b1).bind fun r7 =>
        some (r7.1, r7.2)
       else
        if decide (op1 = 6) then
         (m_frac_Mul a1 b1).bind fun r8 =>
         some (r8.1, r8.2)
        else
         (m_frac_Div a1 b1).bind fun r9 =>
         some (r9.1, r9.2)
def m_value_Apply_j1 (t1 : GType) (a1 : GVal) (b1 : GVal) (op1 : Int) (i1 : Bool) : Option (GVal × Int) :=
 if i1 then
  (m_value_Compare t1 a1 b1).bind fun r5 =>
  if ((decide (0 < r5)) == (decide (op1 = 9))) && (!decide (r5 = 0)) then
   some (b1, 0)
  else
   some (a1, 0)
 else
  (m_value_arithmetic op1 t1 a1 b1).bind fun r6 =>
  some (r6.1, r6.2)
def m_value_Apply (op1 : Int) (t1 : GType) (a1 : GVal) (b1 : GVal) : Option (GVal × Int) :=
 if (decide (op1 < 4)) || (decide (10 < op1)) then
  some ((⟨0, 0⟩ : GVal), 1)
 else
  (m_value_ValidateType t1).bind fun r1 =>
  if !decide (r1 = 0) then
   some ((⟨0, 0⟩ : GVal), 10)
  else
   (m_value_Valid t1 a1).bind fun r2 =>
   (gd ((!(!r2)) && (!decide (op1 = 8))) (m_value_Valid t1 b1)).bind fun r3 =>
   if (!r2) || ((!decide (op1 = 8)) && (!r3)) then
    some ((⟨0, 0⟩ : GVal), 1)
   else
    if decide (op1 = 8) then
     (m_value_negate t1 a1).bind fun r4 =>
     some (r4.1, r4.2)
    else
     if decide (op1 = 9) then
      m_value_Apply_j1 t1 a1 b1 op1 (decide (op1 = 9))
     else
      m_value_Apply_j1 t1 a1 b1 op1 (decide (op1 = 10))
def m_tensor_split (d1 : List Int) (axis1 : Int) : Option (Int × Int × Int) :=
 (lupto d1 axis1).bind fun zs1 =>
 (lat d1 axis1).bind fun e1 =>
 (lfrom d1 (wi64 (axis1 + 1))).bind fun zs2 =>
 (m_shape_Size zs1).bind fun r1 =>
 (m_shape_Size zs2).bind fun r2 =>
 some (r1, e1, r2)
def m_tensor_clone_o (t1 : GTensor) : Option GTensor :=
 (lapp ([] : List Int) t1.Dims).bind fun zs1 =>
 (lapp ([] : List GVal) t1.Vals).bind fun zs2 =>
 some ((⟨t1.Type_, zs1, zs2⟩ : GTensor))
def m_tensor_lines_s_j1 {σ : Type}  (self1 : Int → σ → Option (Int × σ)) (i1 : Int) (s3 : σ) : Option (Int × σ) :=
 self1 (wi64 (i1 + 1)) s3
def m_tensor_lines_s_l2 {σ : Type}  (r1 : Int × Int × Int) (f1 : (Int → Int → σ → Option (Int × σ))) (i1 : Int) (self1 : Int → σ → Option (Int × σ)) : Nat → Int → σ → Option (Int × σ)
 | 0, _, _ => none
 | fuel2 + 1, i2, s4 =>
  if decide (i2 < r1.2.2) then
   (f1 (wi64 ((wi64 ((wi64 (i1 * r1.2.1)) * r1.2.2)) + i2)) r1.2.2 s4).bind fun ⟨r2, s5⟩ =>
   if !decide (r2 = 0) then
    some (r2, s5)
   else
    (m_tensor_lines_s_l2 r1 f1 i1 self1 fuel2) (wi64 (i2 + 1)) s5
  else
   m_tensor_lines_s_j1 self1 i1 s4
def m_tensor_lines_s_l1 {σ : Type}  (r1 : Int × Int × Int) (f1 : (Int → Int → σ → Option (Int × σ))) : Nat → Int → σ → Option (Int × σ)
 | 0, _, _ => none
 | fuel1 + 1, i1, s2 =>
  if decide (i1 < r1.1) then
   m_tensor_lines_s_l2 r1 f1 i1 (m_tensor_lines_s_l1 r1 f1 fuel1) fu 0 s2
  else
   some (0, s2)
def m_tensor_lines_s {σ : Type}  (d1 : List Int) (axis1 : Int) (f1 : (Int → Int → σ → Option (Int × σ))) (s1 : σ) : Option (Int × σ) :=
 (m_tensor_split d1 axis1).bind fun r1 =>
 m_tensor_lines_s_l1 r1 f1 fu 0 s1
def m_tensor_scan_1_w_l1 (a1 : GTensor) (a4 : Int) (start1 : Int) (stride1 : Int) : Nat → Int → GTensor → Option (Int × GTensor)
 | 0, _, _ => none
 | fuel1 + 1, k1, a10 =>
  (lat a1.Dims a4).bind fun e1 =>
  if decide (k1 < e1) then
   (some (wi64 (start1 + (wi64 (k1 * stride1))))).bind fun at1 =>
   (lat a10.Vals (wi64 (at1 - stride1))).bind fun e2 =>
   (lat a1.Vals at1).bind fun e3 =>
   (m_value_Apply 4 a1.Type_ e2 e3).bind fun r1 =>
   if !decide (r1.2 = 0) then
    some (r1.2, a10)
   else
    if 0 ≤ at1 ∧ at1 < (a10.Vals.length : Int) then
     (m_tensor_scan_1_w_l1 a1 a4 start1 stride1 fuel1) (wi64 (k1 + 1)) (⟨a10.Type_, a10.Dims, a10.Vals.set (Int.toNat at1) r1.1⟩ : GTensor)
    else none
  else
   some (0, a10)
def m_tensor_scan_1_w (start1 : Int) (stride1 : Int) (a1 : GTensor) (a4 : Int) (a5 : GTensor) : Option (Int × GTensor) :=
 m_tensor_scan_1_w_l1 a1 a4 start1 stride1 fu 1 a5
def m_tensor_scan (t1 : GTensor) (axis1 : Int) : Option (GTensor × Int) :=
 (m_tensor_clone_o t1).bind fun r1 =>
 (m_tensor_lines_s t1.Dims axis1 (fun x_1 x_2 s => m_tensor_scan_1_w x_1 x_2 t1 axis1 s) r1).bind fun ⟨r2, s1⟩ =>
 if !decide (r2 = 0) then
  some ((⟨(⟨0, 0, 0, 0, 0⟩ : GType), ([] : List Int), ([] : List GVal)⟩ : GTensor), r2)
 else
  some (s1, 0)
def m_value_operator_j1 (fold1 : Int) (i1 : Bool) : Option (Int × Bool) :=
 if i1 then
  some (4, true)
 else
  if decide (fold1 = 2) then
   some (6, true)
  else
   if decide (fold1 = 3) then
    some (9, true)
   else
    if decide (fold1 = 4) then
     some (10, true)
    else
     some (0, false)
def m_value_operator (fold1 : Int) : Option (Int × Bool) :=
 if decide (fold1 = 1) then
  m_value_operator_j1 fold1 (decide (fold1 = 1))
 else
  m_value_operator_j1 fold1 (decide (fold1 = 5))
def m_value_Zero (t1 : GType) : Option GVal :=
 (m_value_ValidateType t1).bind fun r1 =>
 if !decide (r1 = 0) then
  some (⟨0, 0⟩ : GVal)
 else
  some (⟨0, 1⟩ : GVal)
def m_value_One (t1 : GType) : Option (GVal × Int) :=
 (m_value_ValidateType t1).bind fun r1 =>
 if !decide (r1 = 0) then
  some ((⟨0, 0⟩ : GVal), 10)
 else
  if !decide (t1.Kind = 2) then
   some ((⟨1, 1⟩ : GVal), 0)
  else
   if 0 ≤ t1.Frac then
    (m_fixed_Valid t1 (⟨wi64 (1 * 2 ^ (min (Int.toNat t1.Frac) 64)), 1⟩ : GVal)).bind fun r2 =>
    if !r2 then
     some ((⟨0, 0⟩ : GVal), 3)
    else
     some ((⟨wi64 (1 * 2 ^ (min (Int.toNat t1.Frac) 64)), 1⟩ : GVal), 0)
   else none
def m_value_Identity_j1 (t1 : GType) (fold1 : Int) (i1 : Bool) : Option (GVal × Bool) :=
 if i1 then
  (m_value_Zero t1).bind fun r2 =>
  some (r2, true)
 else
  if decide (fold1 = 2) then
   (m_value_One t1).bind fun r3 =>
   some (r3.1, decide (r3.2 = 0))
  else
   some ((⟨0, 0⟩ : GVal), false)
def m_value_Identity (fold1 : Int) (t1 : GType) : Option (GVal × Bool) :=
 (m_value_ValidateType t1).bind fun r1 =>
 if !decide (r1 = 0) then
  some ((⟨0, 0⟩ : GVal), false)
 else
  if decide (fold1 = 1) then
   m_value_Identity_j1 t1 fold1 (decide (fold1 = 1))
  else
   m_value_Identity_j1 t1 fold1 (decide (fold1 = 5))
def m_value_Reduce_l1 (zs1 : List GVal) (r1 : Int × Bool) (t1 : GType) : Nat → Int → GVal → Option (GVal × Int)
 | 0, _, _ => none
 | fuel1 + 1, i1, out1 =>
  if decide (i1 < (zs1.length : Int)) then
   (lat zs1 i1).bind fun e2 =>
   (m_value_Apply r1.1 t1 out1 e2).bind fun r4 =>
   if !decide (r4.2 = 0) then
    some ((⟨0, 0⟩ : GVal), r4.2)
   else
    (m_value_Reduce_l1 zs1 r1 t1 fuel1) (wi64 (i1 + 1)) r4.1
  else
   some (out1, 0)
def m_value_Reduce_j1 (l1 : List GVal) (fold1 : Int) (t1 : GType) (r1 : Int × Bool) : Option (GVal × Int) :=
 if decide ((l1.length : Int) = 0) then
  (m_value_Identity fold1 t1).bind fun r3 =>
  if !r3.2 then
   some ((⟨0, 0⟩ : GVal), 1)
  else
   some (r3.1, 0)
 else
  (lat l1 0).bind fun e1 =>
  (lfrom l1 1).bind fun zs1 =>
  m_value_Reduce_l1 zs1 r1 t1 fu 0 e1
def m_value_Reduce_l2 (l1 : List GVal) (t1 : GType) (fold1 : Int) (r1 : Int × Bool) : Nat → Int → Option (GVal × Int)
 | 0, _ => none
 | fuel2 + 1, i2 =>
  if decide (i2 < (l1.length : Int)) then
   (lat l1 i2).bind fun e3 =>
   (m_value_Valid t1 e3).bind fun r5 =>
   if !r5 then
    some ((⟨0, 0⟩ : GVal), 1)
   else
    (m_value_Reduce_l2 l1 t1 fold1 r1 fuel2) (wi64 (i2 + 1))
  else
   m_value_Reduce_j1 l1 fold1 t1 r1
def m_value_Reduce (fold1 : Int) (t1 : GType) (l1 : List GVal) : Option (GVal × Int) :=
 (m_value_operator fold1).bind fun r1 =>
 if !r1.2 then
  some ((⟨0, 0⟩ : GVal), 1)
 else
  (m_value_ValidateType t1).bind fun r2 =>
  if !decide (r2 = 0) then
   some ((⟨0, 0⟩ : GVal), 10)
  else
   m_value_Reduce_l2 l1 t1 fold1 r1 fu 0
def m_tensor_Reduce_1_w_j1 (a5 : Int) (a1 : GTensor) (a6 : GTensor) (l1 : List GVal) : Option (Int × GTensor) :=
 (m_value_Reduce a5 a1.Type_ l1).bind fun r1 =>
 (lapp a6.Vals ([r1.1] : List GVal)).bind fun zs1 =>
 some (r1.2, (⟨a6.Type_, a6.Dims, zs1⟩ : GTensor))
def m_tensor_Reduce_1_w_l1 (e1 : Int) (a1 : GTensor) (start1 : Int) (stride1 : Int) (a5 : Int) (a6 : GTensor) : Nat → (List GVal) → Int → Option (Int × GTensor)
 | 0, _, _ => none
 | fuel1 + 1, l2, i1 =>
  if decide (i1 < e1) then
   (lat a1.Vals (wi64 (start1 + (wi64 (i1 * stride1))))).bind fun e2 =>
   (lapp l2 ([e2] : List GVal)).bind fun zs2 =>
   (m_tensor_Reduce_1_w_l1 e1 a1 start1 stride1 a5 a6 fuel1) zs2 (wi64 (i1 + 1))
  else
   m_tensor_Reduce_1_w_j1 a5 a1 a6 l2
def m_tensor_Reduce_1_w (start1 : Int) (stride1 : Int) (a1 : GTensor) (a4 : Int) (a5 : Int) (a6 : GTensor) : Option (Int × GTensor) :=
 (lat a1.Dims a4).bind fun e1 =>
 m_tensor_Reduce_1_w_l1 e1 a1 start1 stride1 a5 a6 fu ([] : List GVal) 0
def m_tensor_Reduce (t1 : GTensor) (axis1 : Int) (fold1 : Int) : Option (GTensor × Int) :=
 (m_tensor_Validate t1).bind fun r1 =>
 if !decide (r1 = 0) then
  some ((⟨(⟨0, 0, 0, 0, 0⟩ : GType), ([] : List Int), ([] : List GVal)⟩ : GTensor), r1)
 else
  if (decide (axis1 < 0)) || (decide ((t1.Dims.length : Int) ≤ axis1)) then
   some ((⟨(⟨0, 0, 0, 0, 0⟩ : GType), ([] : List Int), ([] : List GVal)⟩ : GTensor), 11)
  else
   if (decide (fold1 < 1)) || (decide (5 < fold1)) then
    some ((⟨(⟨0, 0, 0, 0, 0⟩ : GType), ([] : List Int), ([] : List GVal)⟩ : GTensor), 1)
   else
    if decide (fold1 = 5) then
     (m_tensor_scan t1 axis1).bind fun r2 =>
     some (r2.1, r2.2)
    else
     (lupto t1.Dims axis1).bind fun zs1 =>
     (lapp ([] : List Int) zs1).bind fun zs2 =>
     (lfrom t1.Dims (wi64 (axis1 + 1))).bind fun zs3 =>
     (lapp zs2 zs3).bind fun zs4 =>
     (m_tensor_lines_s t1.Dims axis1 (fun x_1 x_2 s => m_tensor_Reduce_1_w x_1 x_2 t1 axis1 fold1 s) (⟨t1.Type_, zs4, ([] : List GVal)⟩ : GTensor)).bind fun ⟨r3, s1⟩ =>
     if !decide (r3 = 0) then
      some ((⟨(⟨0, 0, 0, 0, 0⟩ : GType), ([] : List Int), ([] : List GVal)⟩ : GTensor), r3)
     else
      some (s1, 0)
def m_shape_Permute_l1 (order1 : List Int) (d1 : List Int) : Nat → (List Int) → Int → (List Bool) → Option (List Int × Int)
 | 0, _, _, _ => none
 | fuel1 + 1, out1, i1, p1 =>
  if decide (i1 < (order1.length : Int)) then
   (lat order1 i1).bind fun e1 =>
   if ((!((decide (e1 < 0)) || (decide ((d1.length : Int) ≤ e1)))) = true → 0 ≤ e1 ∧ e1 < 6) then
    (gd (!((decide (e1 < 0)) || (decide ((d1.length : Int) ≤ e1)))) (lat p1 e1)).bind fun e2 =>
    if ((decide (e1 < 0)) || (decide ((d1.length : Int) ≤ e1))) || e2 then
     some (([] : List Int), 1)
    else
     if 0 ≤ e1 ∧ e1 < 6 then
      (lat d1 e1).bind fun e3 =>
      if 0 ≤ i1 ∧ i1 < (out1.length : Int) then
       (m_shape_Permute_l1 order1 d1 fuel1) (out1.set (Int.toNat i1) e3) (wi64 (i1 + 1)) ((p1).set (e1).toNat true)
      else none
     else none
   else none
  else
   some (out1, 0)
def m_shape_Permute (d1 : List Int) (order1 : List Int) : Option (List Int × Int) :=
 (m_shape_Validate d1).bind fun r1 =>
 if !decide (r1 = 0) then
  some (([] : List Int), r1)
 else
  if !decide ((order1.length : Int) = (d1.length : Int)) then
   some (([] : List Int), 1)
  else
   (lmake 0 (d1.length : Int) (d1.length : Int)).bind fun zs1 =>
   m_shape_Permute_l1 order1 d1 fu zs1 0 (List.replicate 6 (false : Bool))
def m_tensor_Permute_1_l1 (a2 : List Int) (p1 : List Int) : Nat → (List Int) → Int → Option (List Int)
 | 0, _, _ => none
 | fuel1 + 1, q1, i1 =>
  if decide (i1 < (a2.length : Int)) then
   (lat a2 i1).bind fun e1 =>
   (lat p1 i1).bind fun e2 =>
   if 0 ≤ e1 ∧ e1 < (q1.length : Int) then
    (m_tensor_Permute_1_l1 a2 p1 fuel1) (q1.set (Int.toNat e1) e2) (wi64 (i1 + 1))
   else none
  else
   some q1
def m_tensor_Permute_1 (p1 : List Int) (a2 : List Int) : Option (List Int) :=
 (lmake 0 (p1.length : Int) (p1.length : Int)).bind fun zs1 =>
 m_tensor_Permute_1_l1 a2 p1 fu zs1 0
def m_slices_Clone_int_int_o (s1 : List Int) : Option (List Int) :=
 (lapp ([] : List Int) s1).bind fun zs1 =>
 some (zs1)
def m_shape_Point_l1 (d1 : List Int) : Nat → Int → Int → (List Int) → Option (List Int × Bool)
 | 0, _, _, _ => none
 | fuel1 + 1, at2, i2, p1 =>
  if decide (0 ≤ i2) then
   (lat d1 i2).bind fun e1 =>
   if e1 ≠ 0 then
    if 0 ≤ i2 ∧ i2 < 6 then
     (lat d1 i2).bind fun e2 =>
     if e2 ≠ 0 then
      (m_shape_Point_l1 d1 fuel1) (wi64 (Int.tdiv at2 e2)) (wi64 (i2 - 1)) ((p1).set (i2).toNat (Int.tmod at2 e1))
     else none
    else none
   else none
  else
   (lupto p1 (d1.length : Int)).bind fun zs1 =>
   (m_slices_Clone_int_int_o zs1).bind fun r2 =>
   some (r2, true)
def m_shape_Point (d1 : List Int) (at1 : Int) : Option (List Int × Bool) :=
 (gd (!(decide (at1 < 0))) (m_shape_Size d1)).bind fun r1 =>
 if (decide (at1 < 0)) || (decide (r1 ≤ at1)) then
  some (([] : List Int), false)
 else
  (some (wi64 ((d1.length : Int) - 1))).bind fun i1 =>
  m_shape_Point_l1 d1 fu at1 i1 (List.replicate 6 (0 : Int))
def m_shape_Offset_l1 (d1 : List Int) (p1 : List Int) : Nat → Int → Int → Option (Int × Bool)
 | 0, _, _ => none
 | fuel1 + 1, at1, i1 =>
  if decide (i1 < (d1.length : Int)) then
   (lat d1 i1).bind fun e1 =>
   (lat p1 i1).bind fun e2 =>
   (gd (!(decide (e2 < 0))) (lat p1 i1)).bind fun e3 =>
   if (decide (e2 < 0)) || (decide (e1 ≤ e3)) then
    some (0, false)
   else
    (lat p1 i1).bind fun e4 =>
    (some (wi64 ((wi64 (at1 * e1)) + e4))).bind fun at2 =>
    (m_shape_Offset_l1 d1 p1 fuel1) at2 (wi64 (i1 + 1))
  else
   some (at1, true)
def m_shape_Offset (d1 : List Int) (p1 : List Int) : Option (Int × Bool) :=
 (m_shape_Validate d1).bind fun r1 =>
 if (!decide (r1 = 0)) || (!decide ((p1.length : Int) = (d1.length : Int))) then
  some (0, false)
 else
  m_shape_Offset_l1 d1 p1 fu 0 0
def m_tensor_gather_l1 (r1 : Int) (dims1 : List Int) (from1 : ((List Int) → Option (List Int))) (t1 : GTensor) : Nat → Int → GTensor → Option GTensor
 | 0, _, _ => none
 | fuel1 + 1, i1, out1 =>
  if decide (i1 < r1) then
   (m_shape_Point dims1 i1).bind fun r2 =>
   (from1 r2.1).bind fun r3 =>
   (m_shape_Offset t1.Dims r3).bind fun r4 =>
   (lat t1.Vals r4.1).bind fun e1 =>
   (lapp out1.Vals ([e1] : List GVal)).bind fun zs1 =>
   (m_tensor_gather_l1 r1 dims1 from1 t1 fuel1) (wi64 (i1 + 1)) (⟨out1.Type_, out1.Dims, zs1⟩ : GTensor)
  else
   some out1
def m_tensor_gather (t1 : GTensor) (dims1 : List Int) (from1 : ((List Int) → Option (List Int))) : Option GTensor :=
 (m_shape_Size dims1).bind fun r1 =>
 m_tensor_gather_l1 r1 dims1 from1 t1 fu 0 (⟨t1.Type_, dims1, ([] : List GVal)⟩ : GTensor)
def m_tensor_Permute (t1 : GTensor) (order1 : List Int) : Option (GTensor × Int) :=
 (m_tensor_Validate t1).bind fun r1 =>
 if !decide (r1 = 0) then
  some ((⟨(⟨0, 0, 0, 0, 0⟩ : GType), ([] : List Int), ([] : List GVal)⟩ : GTensor), r1)
 else
  (m_shape_Permute t1.Dims order1).bind fun r2 =>
  if !decide (r2.2 = 0) then
   some ((⟨(⟨0, 0, 0, 0, 0⟩ : GType), ([] : List Int), ([] : List GVal)⟩ : GTensor), r2.2)
  else
   (m_tensor_gather t1 r2.1 (fun y_1 => m_tensor_Permute_1 y_1 order1)).bind fun r3 =>
   some (r3, 0)
def m_tensor_locate (t1 : GTensor) (p1 : List Int) : Option (Int × Int) :=
 (m_tensor_Validate t1).bind fun r1 =>
 if !decide (r1 = 0) then
  some (0, r1)
 else
  if !decide ((p1.length : Int) = (t1.Dims.length : Int)) then
   some (0, 11)
  else
   (m_shape_Offset t1.Dims p1).bind fun r2 =>
   if !r2.2 then
    some (0, 12)
   else
    some (r2.1, 0)
def m_tensor_At (t1 : GTensor) (p1 : List Int) : Option (GVal × Int) :=
 (m_tensor_locate t1 p1).bind fun r1 =>
 if !decide (r1.2 = 0) then
  some ((⟨0, 0⟩ : GVal), r1.2)
 else
  (lat t1.Vals r1.1).bind fun e1 =>
  some (e1, 0)
def m_fixed_ToFrac (t1 : GType) (v1 : GVal) : Option (GVal × Int) :=
 (m_fixed_check t1 ([v1] : List GVal)).bind fun r1 =>
 if !decide (r1 = 0) then
  some ((⟨0, 0⟩ : GVal), r1)
 else
  if 0 ≤ t1.Frac then
   (m_frac_New v1.N (wi64 (1 * 2 ^ (min (Int.toNat t1.Frac) 64)))).bind fun r2 =>
   some (r2.1, r2.2)
  else none
def m_value_fraction (t1 : GType) (v1 : GVal) : Option GVal :=
 if decide (t1.Kind = 2) then
  (m_fixed_ToFrac t1 v1).bind fun r1 =>
  some r1.1
 else
  some v1
def m_strconv_FormatInt (i1 : Int) (base1 : Int) : Option (List UInt8) :=
 (m_internal_strconv_FormatInt i1 base1).bind fun r1 =>
 some r1
def m_frac_Format (a1 : GVal) : Option (List UInt8) :=
 (m_frac_Valid a1).bind fun r1 =>
 if !r1 then
  some ([] : List UInt8)
 else
  if decide (a1.D = 1) then
   (m_strconv_FormatInt a1.N 10).bind fun r2 =>
   some r2
  else
   (m_strconv_FormatInt a1.N 10).bind fun r3 =>
   (lapp r3 ([47] : List UInt8)).bind fun s1 =>
   (m_strconv_FormatInt a1.D 10).bind fun r4 =>
   (lapp s1 r4).bind fun s2 =>
   some s2
def m_value_Format (t1 : GType) (v1 : GVal) : Option (List UInt8) :=
 (m_value_Valid t1 v1).bind fun r1 =>
 if !r1 then
  some ([] : List UInt8)
 else
  (m_value_fraction t1 v1).bind fun r2 =>
  (m_frac_Format r2).bind fun r3 =>
  some r3
def m_tensor_format_j1 (dims1 : List Int) (vals1 : List GVal) (i1 : Int) (part1 : Int) (rec_ : (GType → (List Int) → (List GVal) → Option (List UInt8))) (t1 : GType) (self1 : (List UInt8) → Int → Option (List UInt8)) (s2 : List UInt8) : Option (List UInt8) :=
 (lfrom dims1 1).bind fun zs1 =>
 (lsub vals1 (wi64 (i1 * part1)) (wi64 ((wi64 (i1 + 1)) * part1))).bind fun zs2 =>
 (rec_ t1 zs1 zs2).bind fun r2 =>
 (lapp s2 r2).bind fun s3 =>
 self1 s3 (wi64 (i1 + 1))
def m_tensor_format_l1 (e3 : Int) (dims1 : List Int) (vals1 : List GVal) (part1 : Int) (rec_ : (GType → (List Int) → (List GVal) → Option (List UInt8))) (t1 : GType) : Nat → (List UInt8) → Int → Option (List UInt8)
 | 0, _, _ => none
 | fuel1 + 1, s1, i1 =>
  if decide (i1 < e3) then
   if decide (0 < i1) then
    (lapp s1 ([44, 32] : List UInt8)).bind fun s4 =>
    m_tensor_format_j1 dims1 vals1 i1 part1 rec_ t1 (m_tensor_format_l1 e3 dims1 vals1 part1 rec_ t1 fuel1) s4
   else
    m_tensor_format_j1 dims1 vals1 i1 part1 rec_ t1 (m_tensor_format_l1 e3 dims1 vals1 part1 rec_ t1 fuel1) s1
  else
   (lapp s1 ([93] : List UInt8)).bind fun s5 =>
   some s5
def m_tensor_format_b (rec_ : (GType → (List Int) → (List GVal) → Option (List UInt8))) (t1 : GType) (dims1 : List Int) (vals1 : List GVal) : Option (List UInt8) :=
 if decide ((dims1.length : Int) = 0) then
  (lat vals1 0).bind fun e1 =>
  (m_value_Format t1 e1).bind fun r1 =>
  some r1
 else
  (lat dims1 0).bind fun e2 =>
  if e2 ≠ 0 then
   (some (wi64 (Int.tdiv (vals1.length : Int) e2))).bind fun part1 =>
   (lat dims1 0).bind fun e3 =>
   m_tensor_format_l1 e3 dims1 vals1 part1 rec_ t1 fu ([91] : List UInt8) 0
  else none
def m_tensor_format_r : Nat → (GType → (List Int) → (List GVal) → Option (List UInt8))
 | 0 => fun _ _ _ => none
 | n + 1 => m_tensor_format_b (m_tensor_format_r n)
def m_tensor_format (t1 : GType) (dims1 : List Int) (vals1 : List GVal) : Option (List UInt8) := m_tensor_format_r fu t1 dims1 vals1
def m_tensor_Format (t1 : GTensor) : Option (List UInt8) :=
 (m_tensor_Validate t1).bind fun r1 =>
 if !decide (r1 = 0) then
  some ([] : List UInt8)
 else
  (m_tensor_format t1.Type_ t1.Dims t1.Vals).bind fun r2 =>
  some r2
def m_law12_examples : Option Bool :=
 (m_tensor_New (⟨3, 0, 0, 0, 0⟩ : GType) ([2, 2] : List Int) ([(⟨1, 1⟩ : GVal), (⟨2, 1⟩ : GVal), (⟨3, 1⟩ : GVal), (⟨4, 1⟩ : GVal)] : List GVal)).bind fun r1 =>
 (m_tensor_Reduce r1.1 0 1).bind fun r2 =>
 (m_tensor_Reduce r1.1 1 5).bind fun r3 =>
 (m_tensor_Permute r1.1 ([1, 0] : List Int)).bind fun r4 =>
 (m_tensor_At r1.1 ([0, 2] : List Int)).bind fun r5 =>
 (m_tensor_At r1.1 ([0] : List Int)).bind fun r6 =>
 if (((((!decide (r1.2 = 0)) || (!decide (r2.2 = 0))) || (!decide (r3.2 = 0))) || (!decide (r4.2 = 0))) || (!decide (r5.2 = 12))) || (!decide (r6.2 = 11)) then
  some false
 else
  (m_tensor_Format r1.1).bind fun r7 =>
  if (decide (r7 = ([91, 91, 49, 44, 32, 50, 93, 44, 32, 91, 51, 44, 32, 52, 93, 93] : List UInt8))) = true then
   (m_tensor_Format r2.1).bind fun r8 =>
   if ((decide (r7 = ([91, 91, 49, 44, 32, 50, 93, 44, 32, 91, 51, 44, 32, 52, 93, 93] : List UInt8))) && (decide (r8 = ([91, 52, 44, 32, 54, 93] : List UInt8)))) = true then
    (m_tensor_Format r3.1).bind fun r9 =>
    if (((decide (r7 = ([91, 91, 49, 44, 32, 50, 93, 44, 32, 91, 51, 44, 32, 52, 93, 93] : List UInt8))) && (decide (r8 = ([91, 52, 44, 32, 54, 93] : List UInt8)))) && (decide (r9 = ([91, 91, 49, 44, 32, 51, 93, 44, 32, 91, 51, 44, 32, 55, 93, 93] : List UInt8)))) = true then
     (m_tensor_Format r4.1).bind fun r10 =>
     some ((((decide (r7 = ([91, 91, 49, 44, 32, 50, 93, 44, 32, 91, 51, 44, 32, 52, 93, 93] : List UInt8))) && (decide (r8 = ([91, 52, 44, 32, 54, 93] : List UInt8)))) && (decide (r9 = ([91, 91, 49, 44, 32, 51, 93, 44, 32, 91, 51, 44, 32, 55, 93, 93] : List UInt8)))) && (decide (r10 = ([91, 91, 49, 44, 32, 51, 93, 44, 32, 91, 50, 44, 32, 52, 93, 93] : List UInt8))))
    else none
   else none
  else none
def m_base_Type (t1 : GType) : Option Bool :=
 if (decide (t1.Kind = 1)) || (decide (t1.Kind = 3)) then
  some ((((decide (t1.Bits = 0)) && (decide (t1.Frac = 0))) && (decide (t1.Round = 0))) && (decide (t1.Over = 0)))
 else
  some ((((((((decide (t1.Kind = 2)) && (decide (2 ≤ t1.Bits))) && (decide (t1.Bits ≤ 31))) && (decide (0 ≤ t1.Frac))) && (decide (t1.Frac ≤ 30))) && (decide (1 ≤ t1.Round))) && (decide (t1.Round ≤ 4))) && ((decide (t1.Over = 1)) || (decide (t1.Over = 2))))
def m_ref12_Shape_l1 (d1 : List Int) : Nat → Int → Int → Option Int
 | 0, _, _ => none
 | fuel1 + 1, n1, i1 =>
  if decide (i1 < (d1.length : Int)) then
   (lat d1 i1).bind fun e1 =>
   if n1 ≠ 0 then
    if decide (wi64 (Int.tdiv 4096 n1) < e1) then
     some 2
    else
     (lat d1 i1).bind fun e2 =>
     (m_ref12_Shape_l1 d1 fuel1) (wi64 (n1 * e2)) (wi64 (i1 + 1))
   else none
  else
   some 0
def m_ref12_Shape_j1 (d1 : List Int) : Option Int :=
 m_ref12_Shape_l1 d1 fu 1 0
def m_ref12_Shape_l2 (d1 : List Int) : Nat → Int → Option Int
 | 0, _ => none
 | fuel2 + 1, i2 =>
  if decide (i2 < (d1.length : Int)) then
   (lat d1 i2).bind fun e3 =>
   if decide (e3 < 1) then
    some 1
   else
    (m_ref12_Shape_l2 d1 fuel2) (wi64 (i2 + 1))
  else
   m_ref12_Shape_j1 d1
def m_ref12_Shape (d1 : List Int) : Option Int :=
 if decide (6 < (d1.length : Int)) then
  some 2
 else
  m_ref12_Shape_l2 d1 fu 0
def m_ref12_Size_l1 (d1 : List Int) : Nat → Int → Int → Option Int
 | 0, _, _ => none
 | fuel1 + 1, n1, i1 =>
  if decide (i1 < (d1.length : Int)) then
   (lat d1 i1).bind fun e1 =>
   (m_ref12_Size_l1 d1 fuel1) (wi64 (n1 * e1)) (wi64 (i1 + 1))
  else
   some n1
def m_ref12_Size (d1 : List Int) : Option Int :=
 m_ref12_Size_l1 d1 fu 1 0
def m_base_gcd_l1 : Nat → Int → Int → Option Int
 | 0, _, _ => none
 | fuel1 + 1, a2, b2 =>
  if !decide (b2 = 0) then
   if b2 ≠ 0 then
    (m_base_gcd_l1 fuel1) b2 (Int.tmod a2 b2)
   else none
  else
   some a2
def m_base_gcd (a1 : Int) (b1 : Int) : Option Int :=
 m_base_gcd_l1 fu a1 b1
def m_base_Val (t1 : GType) (v1 : GVal) : Option Bool :=
 if decide (t1.Kind = 2) then
  if 0 ≤ (wi64 (t1.Bits - 1)) then
   (some (wi64 (1 * 2 ^ (min (Int.toNat (wi64 (t1.Bits - 1))) 64)))).bind fun half1 =>
   some (((decide (v1.D = 1)) && (decide (wi64 (-half1) ≤ v1.N))) && (decide (v1.N < half1)))
  else none
 else
  if (((decide (2147483647 < v1.N)) || (decide (v1.N < (-2147483647)))) || (decide (v1.D < 1))) || (decide (2147483647 < v1.D)) then
   some false
  else
   if decide (t1.Kind = 3) then
    some (decide (v1.D = 1))
   else
    (m_base_gcd (max v1.N (wi64 (-v1.N))) v1.D).bind fun r1 =>
    some (decide (r1 = 1))
def m_ref12_Validate_l1 (t1 : GTensor) : Nat → Int → Option Int
 | 0, _ => none
 | fuel1 + 1, i1 =>
  if decide (i1 < (t1.Vals.length : Int)) then
   (lat t1.Vals i1).bind fun e1 =>
   (m_base_Val t1.Type_ e1).bind fun r4 =>
   if !r4 then
    some 1
   else
    (m_ref12_Validate_l1 t1 fuel1) (wi64 (i1 + 1))
  else
   some 0
def m_ref12_Validate (t1 : GTensor) : Option Int :=
 (m_base_Type t1.Type_).bind fun r1 =>
 if !r1 then
  some 10
 else
  (m_ref12_Shape t1.Dims).bind fun r2 =>
  if !decide (r2 = 0) then
   some r2
  else
   (m_ref12_Size t1.Dims).bind fun r3 =>
   if !decide ((t1.Vals.length : Int) = r3) then
    some 1
   else
    m_ref12_Validate_l1 t1 fu 0
def m_base_Ints_l1 (a1 : List Int) (b1 : List Int) : Nat → Int → Option Bool
 | 0, _ => none
 | fuel1 + 1, i1 =>
  if decide (i1 < (a1.length : Int)) then
   (lat a1 i1).bind fun e1 =>
   (lat b1 i1).bind fun e2 =>
   if !decide (e1 = e2) then
    some false
   else
    (m_base_Ints_l1 a1 b1 fuel1) (wi64 (i1 + 1))
  else
   some true
def m_base_Ints (a1 : List Int) (b1 : List Int) : Option Bool :=
 if !decide ((a1.length : Int) = (b1.length : Int)) then
  some false
 else
  m_base_Ints_l1 a1 b1 fu 0
def m_base_Vals_l1 (a1 : List GVal) (b1 : List GVal) : Nat → Int → Option Bool
 | 0, _ => none
 | fuel1 + 1, i1 =>
  if decide (i1 < (a1.length : Int)) then
   (lat a1 i1).bind fun e1 =>
   (lat b1 i1).bind fun e2 =>
   if !((decide (e1.N = e2.N)) && (decide (e1.D = e2.D))) then
    some false
   else
    (m_base_Vals_l1 a1 b1 fuel1) (wi64 (i1 + 1))
  else
   some true
def m_base_Vals (a1 : List GVal) (b1 : List GVal) : Option Bool :=
 if !decide ((a1.length : Int) = (b1.length : Int)) then
  some false
 else
  m_base_Vals_l1 a1 b1 fu 0
def m_base_Tensor (a1 : GTensor) (b1 : GTensor) : Option Bool :=
 (gd ((decide (a1.Type_.Kind = b1.Type_.Kind)) && (decide (a1.Type_.Bits = b1.Type_.Bits)) && (decide (a1.Type_.Frac = b1.Type_.Frac)) && (decide (a1.Type_.Round = b1.Type_.Round)) && (decide (a1.Type_.Over = b1.Type_.Over))) (m_base_Ints a1.Dims b1.Dims)).bind fun r1 =>
 (gd (((decide (a1.Type_.Kind = b1.Type_.Kind)) && (decide (a1.Type_.Bits = b1.Type_.Bits)) && (decide (a1.Type_.Frac = b1.Type_.Frac)) && (decide (a1.Type_.Round = b1.Type_.Round)) && (decide (a1.Type_.Over = b1.Type_.Over))) && r1) (m_base_Vals a1.Vals b1.Vals)).bind fun r2 =>
 some ((((decide (a1.Type_.Kind = b1.Type_.Kind)) && (decide (a1.Type_.Bits = b1.Type_.Bits)) && (decide (a1.Type_.Frac = b1.Type_.Frac)) && (decide (a1.Type_.Round = b1.Type_.Round)) && (decide (a1.Type_.Over = b1.Type_.Over))) && r1) && r2)
def m_tensor_Set (t1 : GTensor) (v1 : GVal) (p1 : List Int) : Option (GTensor × Int) :=
 (m_tensor_locate t1 p1).bind fun r1 =>
 if !decide (r1.2 = 0) then
  some ((⟨(⟨0, 0, 0, 0, 0⟩ : GType), ([] : List Int), ([] : List GVal)⟩ : GTensor), r1.2)
 else
  (m_value_Valid t1.Type_ v1).bind fun r2 =>
  if !r2 then
   some ((⟨(⟨0, 0, 0, 0, 0⟩ : GType), ([] : List Int), ([] : List GVal)⟩ : GTensor), 1)
  else
   (m_tensor_clone_o t1).bind fun r3 =>
   if 0 ≤ r1.1 ∧ r1.1 < (r3.Vals.length : Int) then
    some ((⟨r3.Type_, r3.Dims, r3.Vals.set (Int.toNat r1.1) v1⟩ : GTensor), 0)
   else none
def m_tensor_New_o (t1 : GType) (dims1 : List Int) (vals1 : List GVal) : Option (GTensor × Int) :=
 (lapp ([] : List Int) dims1).bind fun zs1 =>
 (lapp ([] : List GVal) vals1).bind fun zs2 =>
 (m_tensor_Validate (⟨t1, zs1, zs2⟩ : GTensor)).bind fun r1 =>
 if !decide (r1 = 0) then
  some (((⟨(⟨0, 0, 0, 0, 0⟩ : GType), ([] : List Int), ([] : List GVal)⟩ : GTensor), r1))
 else
  some (((⟨t1, zs1, zs2⟩ : GTensor), 0))
def m_tensor_Full_o_l1 (r4 : Int) (v1 : GVal) : Nat → Int → GTensor → Option (GTensor × Int)
 | 0, _, _ => none
 | fuel1 + 1, i1, out1 =>
  if decide (i1 < r4) then
   (lapp out1.Vals ([v1] : List GVal)).bind fun zs2 =>
   (m_tensor_Full_o_l1 r4 v1 fuel1) (wi64 (i1 + 1)) (⟨out1.Type_, out1.Dims, zs2⟩ : GTensor)
  else
   some ((out1, 0))
def m_tensor_Full_o (t1 : GType) (dims1 : List Int) (v1 : GVal) : Option (GTensor × Int) :=
 (m_value_ValidateType t1).bind fun r1 =>
 if !decide (r1 = 0) then
  some (((⟨(⟨0, 0, 0, 0, 0⟩ : GType), ([] : List Int), ([] : List GVal)⟩ : GTensor), r1))
 else
  (m_shape_Validate dims1).bind fun r2 =>
  if !decide (r2 = 0) then
   some (((⟨(⟨0, 0, 0, 0, 0⟩ : GType), ([] : List Int), ([] : List GVal)⟩ : GTensor), r2))
  else
   (m_value_Valid t1 v1).bind fun r3 =>
   if !r3 then
    some (((⟨(⟨0, 0, 0, 0, 0⟩ : GType), ([] : List Int), ([] : List GVal)⟩ : GTensor), 1))
   else
    (lapp ([] : List Int) dims1).bind fun zs1 =>
    (m_shape_Size dims1).bind fun r4 =>
    m_tensor_Full_o_l1 r4 v1 fu 0 (⟨t1, zs1, ([] : List GVal)⟩ : GTensor)
def m_tensor_Set_o (t1 : GTensor) (v1 : GVal) (p1 : List Int) : Option (GTensor × Int) :=
 (m_tensor_locate t1 p1).bind fun r1 =>
 if !decide (r1.2 = 0) then
  some (((⟨(⟨0, 0, 0, 0, 0⟩ : GType), ([] : List Int), ([] : List GVal)⟩ : GTensor), r1.2))
 else
  (m_value_Valid t1.Type_ v1).bind fun r2 =>
  if !r2 then
   some (((⟨(⟨0, 0, 0, 0, 0⟩ : GType), ([] : List Int), ([] : List GVal)⟩ : GTensor), 1))
  else
   (m_tensor_clone_o t1).bind fun r3 =>
   if 0 ≤ r1.1 ∧ r1.1 < (r3.Vals.length : Int) then
    some (((⟨r3.Type_, r3.Dims, r3.Vals.set (Int.toNat r1.1) v1⟩ : GTensor), 0))
   else none
def m_law12_TensorIndependent_j5 (r4 : GTensor × Int) (t1 : GTensor) (c45 : GTensor) : Option Bool :=
 (m_base_Tensor r4.1 t1).bind fun r7 =>
 (gd r7 (m_law12_examples)).bind fun r8 =>
 some (r7 && r8)
def m_law12_TensorIndependent_l1 (r4 : GTensor × Int) (t1 : GTensor) : Nat → Int → GTensor → Option Bool
 | 0, _, _ => none
 | fuel1 + 1, i1, c49 =>
  if decide (i1 < (c49.Dims.length : Int)) then
   (lat c49.Dims i1).bind fun e2 =>
   if 0 ≤ i1 ∧ i1 < (c49.Dims.length : Int) then
    (m_law12_TensorIndependent_l1 r4 t1 fuel1) (wi64 (i1 + 1)) (⟨c49.Type_, c49.Dims.set (Int.toNat i1) (wi64 (e2 + 1)), c49.Vals⟩ : GTensor)
   else none
  else
   m_law12_TensorIndependent_j5 r4 t1 c49
def m_law12_TensorIndependent_j4 (r4 : GTensor × Int) (t1 : GTensor) (c41 : GTensor) : Option Bool :=
 m_law12_TensorIndependent_l1 r4 t1 fu 0 c41
def m_law12_TensorIndependent_l2 (r4 : GTensor × Int) (t1 : GTensor) : Nat → Int → GTensor → Option Bool
 | 0, _, _ => none
 | fuel2 + 1, i2, c54 =>
  if decide (i2 < (c54.Vals.length : Int)) then
   (lat c54.Vals i2).bind fun e3 =>
   if 0 ≤ i2 ∧ i2 < (c54.Vals.length : Int) then
    (lat c54.Vals i2).bind fun e4 =>
    (m_law12_TensorIndependent_l2 r4 t1 fuel2) (wi64 (i2 + 1)) (⟨c54.Type_, c54.Dims, c54.Vals.set (Int.toNat i2) (⟨wi64 (e3.N + 1), e4.D⟩ : GVal)⟩ : GTensor)
   else none
  else
   m_law12_TensorIndependent_j4 r4 t1 c54
def m_law12_TensorIndependent_j3 (r4 : GTensor × Int) (t1 : GTensor) (r6 : GTensor × Int) (b8 : GTensor) : Option Bool :=
 m_law12_TensorIndependent_l2 r4 t1 fu 0 r6.1
def m_law12_TensorIndependent_l3 (r4 : GTensor × Int) (t1 : GTensor) (r6 : GTensor × Int) : Nat → Int → GTensor → Option Bool
 | 0, _, _ => none
 | fuel3 + 1, i3, b9 =>
  if decide (i3 < (b9.Dims.length : Int)) then
   (lat b9.Dims i3).bind fun e5 =>
   if 0 ≤ i3 ∧ i3 < (b9.Dims.length : Int) then
    (m_law12_TensorIndependent_l3 r4 t1 r6 fuel3) (wi64 (i3 + 1)) (⟨b9.Type_, b9.Dims.set (Int.toNat i3) (wi64 (e5 + 1)), b9.Vals⟩ : GTensor)
   else none
  else
   m_law12_TensorIndependent_j3 r4 t1 r6 b9
def m_law12_TensorIndependent_j2 (r4 : GTensor × Int) (t1 : GTensor) (r6 : GTensor × Int) (r5 : GTensor × Int) : Option Bool :=
 m_law12_TensorIndependent_l3 r4 t1 r6 fu 0 r5.1
def m_law12_TensorIndependent_l4 (r4 : GTensor × Int) (t1 : GTensor) (r6 : GTensor × Int) (r5 : GTensor × Int) : Nat → (List GVal) → Int → Option Bool
 | 0, _, _ => none
 | fuel4 + 1, vals1, i4 =>
  if decide (i4 < (vals1.length : Int)) then
   (lat vals1 i4).bind fun e6 =>
   if 0 ≤ i4 ∧ i4 < (vals1.length : Int) then
    (lat vals1 i4).bind fun e7 =>
    (m_law12_TensorIndependent_l4 r4 t1 r6 r5 fuel4) (vals1.set (Int.toNat i4) (⟨wi64 (e6.N + 1), e7.D⟩ : GVal)) (wi64 (i4 + 1))
   else none
  else
   m_law12_TensorIndependent_j2 r4 t1 r6 r5
def m_law12_TensorIndependent_j1 (r4 : GTensor × Int) (t1 : GTensor) (r6 : GTensor × Int) (r5 : GTensor × Int) (zs2 : List GVal) : Option Bool :=
 m_law12_TensorIndependent_l4 r4 t1 r6 r5 fu zs2 0
def m_law12_TensorIndependent_l5 (r4 : GTensor × Int) (t1 : GTensor) (r6 : GTensor × Int) (r5 : GTensor × Int) (zs2 : List GVal) : Nat → (List Int) → Int → Option Bool
 | 0, _, _ => none
 | fuel5 + 1, dims1, i5 =>
  if decide (i5 < (dims1.length : Int)) then
   (lat dims1 i5).bind fun e8 =>
   if 0 ≤ i5 ∧ i5 < (dims1.length : Int) then
    (m_law12_TensorIndependent_l5 r4 t1 r6 r5 zs2 fuel5) (dims1.set (Int.toNat i5) (wi64 (e8 + 1))) (wi64 (i5 + 1))
   else none
  else
   m_law12_TensorIndependent_j1 r4 t1 r6 r5 zs2
def m_law12_TensorIndependent (t1 : GTensor) (v1 : GVal) (p1 : List Int) : Option Bool :=
 (m_law12_Small t1 500).bind fun r1 =>
 (gd (!((!r1) || (decide (20 < (p1.length : Int))))) (m_ref12_Validate t1)).bind fun r2 =>
 if ((!r1) || (decide (20 < (p1.length : Int)))) || (!decide (r2 = 0)) then
  (m_law12_examples).bind fun r3 =>
  some r3
 else
  (lapp ([] : List Int) t1.Dims).bind fun zs1 =>
  (lapp ([] : List GVal) t1.Vals).bind fun zs2 =>
  (m_tensor_New_o t1.Type_ zs1 zs2).bind fun r4 =>
  (lat t1.Vals 0).bind fun e1 =>
  (m_tensor_Full_o t1.Type_ zs1 e1).bind fun r5 =>
  (m_tensor_Set_o r4.1 v1 p1).bind fun r6 =>
  if !decide (r4.2 = 0) then
   some false
  else
   m_law12_TensorIndependent_l5 r4 t1 r6 r5 zs2 fu zs1 0
end Go.Proofs.YtlakfanockhngaaGreatDoor
