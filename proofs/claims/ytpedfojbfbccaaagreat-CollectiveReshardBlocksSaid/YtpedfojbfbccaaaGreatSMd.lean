import Derived.Test.YtpedfojbfbccaaaGreatSXm
namespace Go.Proofs.YtpedfojbfbccaaaGreat
open Go Go.RowKit Go.Vc
set_option linter.unusedVariables false
set_option linter.unusedSimpArgs false
structure GMesh where
 Dims : List Int
deriving Inhabited, DecidableEq
def cGMesh : Cod GMesh where
 n := 1
 rel D w x cs := ∃ (A0 : Option Addr) (c0 : Nat), cs = [(Value.slice A0 x.Dims.length c0)] ∧ SlC (cInt .i64) D w A0 c0 x.Dims
 len h := by obtain ⟨_, _, rfl, _⟩ := h; rfl
 one h := by obtain ⟨A0, c0, rfl, h0⟩ := h; rfl
 sp hs h := by obtain ⟨A0, c0, rfl, h0⟩ := h; exact ⟨_, _, rfl, h0.sp hs⟩
structure GType where
 Kind : Int
 Bits : Int
 Frac : Int
 Round : Int
 Over : Int
deriving Inhabited, DecidableEq
def cGType : Cod GType where
 n := 5
 rel _ _ x cs := cs = [(Value.int .i64 x.Kind), (Value.int .i64 x.Bits), (Value.int .i64 x.Frac), (Value.int .i64 x.Round), (Value.int .i64 x.Over)]
 len h := by subst h; rfl
 one h := by subst h; rfl
 sp _ h := h
structure GVal where
 N : Int
 D : Int
deriving Inhabited, DecidableEq
def cGVal : Cod GVal where
 n := 2
 rel _ _ x cs := cs = [(Value.int .i64 x.N), (Value.int .i64 x.D)]
 len h := by subst h; rfl
 one h := by subst h; rfl
 sp _ h := h
structure GTensor where
 Type_ : GType
 Dims : List Int
 Vals : List GVal
deriving Inhabited, DecidableEq
def cGTensor : Cod GTensor where
 n := 7
 rel D w x cs := ∃ (A0 : Option Addr) (c0 : Nat) (A2 : Option Addr) (c2 : Nat), cs = [(Value.int .i64 x.Type_.Kind), (Value.int .i64 x.Type_.Bits), (Value.int .i64 x.Type_.Frac), (Value.int .i64 x.Type_.Round), (Value.int .i64 x.Type_.Over), (Value.slice A0 x.Dims.length c0), (Value.slice A2 x.Vals.length c2)] ∧ SlC (cInt .i64) D w A0 c0 x.Dims ∧ SlC cGVal D w A2 c2 x.Vals
 len h := by obtain ⟨_, _, _, _, rfl, _, _⟩ := h; rfl
 one h := by obtain ⟨A0, c0, A2, c2, rfl, h0, h1⟩ := h; rfl
 sp hs h := by obtain ⟨A0, c0, A2, c2, rfl, h0, h1⟩ := h; exact ⟨_, _, _, _, rfl, h0.sp hs, h1.sp hs⟩
def fnP_k1 (v : Value) (m : (Int → (List GTensor) → Option (GTensor × Int))) (D : NP) (w : World) : Prop :=
 isFn v = true ∧ ∀ (D' : NP) (w' : World), Sp D w D' w' → (∀ k, D' k → k < w'.heap.size) → ∀ (x_1 : Int) (x_2 : List GTensor) (A_3 : Option Addr) (c_4 : Nat) (r : GTensor × Int), AllCl [Cl.sl cGTensor A_3 c_4 x_2] D' w' → m x_1 x_2 = some r →
  CallV Tryz.prog v [(Value.int .i64 x_1), (Value.slice A_3 x_2.length c_4)] w' fun e w'' => ∃ (A_5 : Option Addr) (c_6 : Nat) (A_7 : Option Addr) (c_8 : Nat), e = .returned (Value.tuple #[(Value.agg #[(Value.int .i64 r.1.Type_.Kind), (Value.int .i64 r.1.Type_.Bits), (Value.int .i64 r.1.Type_.Frac), (Value.int .i64 r.1.Type_.Round), (Value.int .i64 r.1.Type_.Over), (Value.slice A_5 r.1.Dims.length c_6), (Value.slice A_7 r.1.Vals.length c_8)]), (Value.int .i64 r.2)]) ∧ Ext w' w'' ∧ AllCl [Cl.sl (cInt .i64) A_5 c_6 r.1.Dims, Cl.sl cGVal A_7 c_8 r.1.Vals] D' w''
theorem fnP_k1.sp {v : Value} {m : (Int → (List GTensor) → Option (GTensor × Int))} {D D' : NP} {w w' : World} (hs : Sp D w D' w') (h : fnP_k1 v m D w) : fnP_k1 v m D' w' := ⟨h.1, fun D'' w'' hs' => h.2 D'' w'' (hs.trans hs')⟩
def clFn_k1 (v : Value) (m : (Int → (List GTensor) → Option (GTensor × Int))) : Cl := ⟨fnP_k1 v m, fnP_k1.sp⟩
structure Gcollective_operation where
 local_ : (Int → (List GTensor) → Option (GTensor × Int))
deriving Inhabited
def fnP_k2 (v : Value) (m : (GType → Int → Int → Option (Int × Int))) (D : NP) (w : World) : Prop :=
 isFn v = true ∧ ∀ (D' : NP) (w' : World), Sp D w D' w' → (∀ k, D' k → k < w'.heap.size) → ∀ (x_1 : GType) (x_2 : Int) (x_3 : Int) (r : Int × Int), AllCl [] D' w' → m x_1 x_2 x_3 = some r →
  CallV Tryz.prog v [(Value.agg #[(Value.int .i64 x_1.Kind), (Value.int .i64 x_1.Bits), (Value.int .i64 x_1.Frac), (Value.int .i64 x_1.Round), (Value.int .i64 x_1.Over)]), (Value.int .i64 x_2), (Value.int .i64 x_3)] w' fun e w'' => e = .returned (Value.tuple #[(Value.int .i64 r.1), (Value.int .i64 r.2)]) ∧ Ext w' w'' ∧ AllCl [] D' w''
theorem fnP_k2.sp {v : Value} {m : (GType → Int → Int → Option (Int × Int))} {D D' : NP} {w w' : World} (hs : Sp D w D' w') (h : fnP_k2 v m D w) : fnP_k2 v m D' w' := ⟨h.1, fun D'' w'' hs' => h.2 D'' w'' (hs.trans hs')⟩
def clFn_k2 (v : Value) (m : (GType → Int → Int → Option (Int × Int))) : Cl := ⟨fnP_k2 v m, fnP_k2.sp⟩
structure Gfixed_operation where
 run : (GType → Int → Int → Option (Int × Int))
deriving Inhabited
def fnP_k3 (v : Value) (m : ((List Int) → Option (List Int))) (D : NP) (w : World) : Prop :=
 isFn v = true ∧ ∀ (D' : NP) (w' : World), Sp D w D' w' → (∀ k, D' k → k < w'.heap.size) → ∀ (x_1 : List Int) (A_2 : Option Addr) (c_3 : Nat) (r : List Int), AllCl [Cl.sl (cInt .i64) A_2 c_3 x_1] D' w' → m x_1 = some r →
  CallV Tryz.prog v [(Value.slice A_2 x_1.length c_3)] w' fun e w'' => ∃ (A_4 : Option Addr) (c_5 : Nat), e = .returned (Value.slice A_4 r.length c_5) ∧ Ext w' w'' ∧ AllCl [Cl.sl (cInt .i64) A_4 c_5 r] D' w''
theorem fnP_k3.sp {v : Value} {m : ((List Int) → Option (List Int))} {D D' : NP} {w w' : World} (hs : Sp D w D' w') (h : fnP_k3 v m D w) : fnP_k3 v m D' w' := ⟨h.1, fun D'' w'' hs' => h.2 D'' w'' (hs.trans hs')⟩
def clFn_k3 (v : Value) (m : ((List Int) → Option (List Int))) : Cl := ⟨fnP_k3 v m, fnP_k3.sp⟩
structure GTransfer where
 Op : Int
 Mesh : Int
 From : Int
 To : Int
 Name : List UInt8
deriving Inhabited, DecidableEq
def cGTransfer : Cod GTransfer where
 n := 5
 rel _ _ x cs := cs = [(Value.int .i64 x.Op), (Value.int .i64 x.Mesh), (Value.int .i64 x.From), (Value.int .i64 x.To), (str x.Name)]
 len h := by subst h; rfl
 one h := by subst h; rfl
 sp _ h := h
def m_law53_small_l1 (l1 : List GTensor) : Nat → Int → Option Bool
 | 0, _ => none
 | fuel1 + 1, i1 =>
  if decide (i1 < (l1.length : Int)) then
   (lat l1 i1).bind fun e1 =>
   (gd (!(decide (300 < (e1.Vals.length : Int)))) (lat l1 i1)).bind fun e2 =>
   if (decide (300 < (e1.Vals.length : Int))) || (decide (20 < (e2.Dims.length : Int))) then
    some false
   else
    (m_law53_small_l1 l1 fuel1) (wi64 (i1 + 1))
  else
   some true
def m_law53_small (m1 : GMesh) (l1 : List GTensor) : Option Bool :=
 if (decide (20 < (l1.length : Int))) || (decide (20 < (m1.Dims.length : Int))) then
  some false
 else
  m_law53_small_l1 l1 fu 0
def m_law53_vector_l1 (l1 : List Int) : Nat → Int → GTensor → Option GTensor
 | 0, _, _ => none
 | fuel1 + 1, i1, t1 =>
  if decide (i1 < (l1.length : Int)) then
   (lat l1 i1).bind fun e1 =>
   (lapp t1.Vals ([(⟨e1, 1⟩ : GVal)] : List GVal)).bind fun zs1 =>
   (m_law53_vector_l1 l1 fuel1) (wi64 (i1 + 1)) (⟨t1.Type_, t1.Dims, zs1⟩ : GTensor)
  else
   some t1
def m_law53_vector (l1 : List Int) : Option GTensor :=
 m_law53_vector_l1 l1 fu 0 (⟨(⟨3, 0, 0, 0, 0⟩ : GType), ([(l1.length : Int)] : List Int), ([] : List GVal)⟩ : GTensor)
def m_mesh_Validate_l1 (m1 : GMesh) : Nat → Int → Int → Option Int
 | 0, _, _ => none
 | fuel1 + 1, n1, i1 =>
  if decide (i1 < (m1.Dims.length : Int)) then
   (lat m1.Dims i1).bind fun e1 =>
   if (decide (e1 < 1)) || (decide (16 < e1)) then
    some 23
   else
    (m_mesh_Validate_l1 m1 fuel1) (wi64 (n1 * e1)) (wi64 (i1 + 1))
  else
   if decide (16 < n1) then
    some 23
   else
    some 0
def m_mesh_Validate (m1 : GMesh) : Option Int :=
 if (decide ((m1.Dims.length : Int) < 1)) || (decide (3 < (m1.Dims.length : Int))) then
  some 23
 else
  m_mesh_Validate_l1 m1 fu 1 0
def m_box_Validate_j2 (self1 : Int → Int → Option Int) (i1 : Int) (points2 : Int) : Option Int :=
 self1 points2 (wi64 (i1 + 1))
def m_box_Validate_l1 (ext1 : List Int) (empty1 : Bool) : Nat → Int → Int → Option Int
 | 0, _, _ => none
 | fuel1 + 1, points1, i1 =>
  if decide (i1 < (ext1.length : Int)) then
   (lat ext1 i1).bind fun e1 =>
   if ((!empty1) = true → points1 ≠ 0) then
    if (!empty1) && (decide (wi64 (Int.tdiv 65536 points1) < e1)) then
     some 2
    else
     if !empty1 then
      m_box_Validate_j2 (m_box_Validate_l1 ext1 empty1 fuel1) i1 (wi64 (points1 * e1))
     else
      m_box_Validate_j2 (m_box_Validate_l1 ext1 empty1 fuel1) i1 points1
   else none
  else
   some 0
def m_box_Validate_j1 (ext1 : List Int) (empty1 : Bool) : Option Int :=
 m_box_Validate_l1 ext1 empty1 fu 1 0
def m_box_Validate_l2 (ext1 : List Int) : Nat → Bool → Int → Option Int
 | 0, _, _ => none
 | fuel2 + 1, empty2, i2 =>
  if decide (i2 < (ext1.length : Int)) then
   (lat ext1 i2).bind fun e2 =>
   if decide (e2 < 0) then
    some 1
   else
    (some (empty2 || (decide (e2 = 0)))).bind fun empty3 =>
    (m_box_Validate_l2 ext1 fuel2) empty3 (wi64 (i2 + 1))
  else
   m_box_Validate_j1 ext1 empty2
def m_box_Validate (ext1 : List Int) : Option Int :=
 if decide (16 < (ext1.length : Int)) then
  some 2
 else
  m_box_Validate_l2 ext1 fu false 0
def m_box_Count_l1 (ext1 : List Int) : Nat → Int → Int → Option Int
 | 0, _, _ => none
 | fuel1 + 1, points1, i1 =>
  if decide (i1 < (ext1.length : Int)) then
   (lat ext1 i1).bind fun e1 =>
   (m_box_Count_l1 ext1 fuel1) (wi64 (points1 * e1)) (wi64 (i1 + 1))
  else
   some points1
def m_box_Count_j1 (ext1 : List Int) : Option Int :=
 m_box_Count_l1 ext1 fu 1 0
def m_box_Count_l2 (ext1 : List Int) : Nat → Int → Option Int
 | 0, _ => none
 | fuel2 + 1, i2 =>
  if decide (i2 < (ext1.length : Int)) then
   (lat ext1 i2).bind fun e2 =>
   if decide (e2 = 0) then
    some 0
   else
    (m_box_Count_l2 ext1 fuel2) (wi64 (i2 + 1))
  else
   m_box_Count_j1 ext1
def m_box_Count (ext1 : List Int) : Option Int :=
 (m_box_Validate ext1).bind fun r1 =>
 if !decide (r1 = 0) then
  some 0
 else
  m_box_Count_l2 ext1 fu 0
def m_mesh_Devices (m1 : GMesh) : Option Int :=
 (m_mesh_Validate m1).bind fun r1 =>
 if !decide (r1 = 0) then
  some 0
 else
  (m_box_Count m1.Dims).bind fun r2 =>
  some r2
def m_value_plain (t1 : GType) : Option Bool :=
 some ((decide (t1.Kind = t1.Kind)) && (decide (t1.Bits = 0)) && (decide (t1.Frac = 0)) && (decide (t1.Round = 0)) && (decide (t1.Over = 0)))
def m_fixed_ValidateType (t1 : GType) : Option Int :=
 (some (((decide (1 ≤ t1.Round)) && (decide (t1.Round ≤ 4))) && ((decide (t1.Over = 1)) || (decide (t1.Over = 2))))).bind fun modes1 =>
 if (((((!decide (t1.Kind = 2)) || (decide (t1.Bits < 2))) || (decide (31 < t1.Bits))) || (decide (t1.Frac < 0))) || (decide (30 < t1.Frac))) || (!modes1) then
  some 10
 else
  some 0
def m_value_ValidateType_j1 (t1 : GType) (i1 : Bool) : Option Int :=
 if i1 then
  (m_value_plain t1).bind fun r1 =>
  if r1 then
   some 0
  else
   some 10
 else
  if decide (t1.Kind = 2) then
   (m_fixed_ValidateType t1).bind fun r2 =>
   if decide (r2 = 0) then
    some 0
   else
    some 10
  else
   some 10
def m_value_ValidateType (t1 : GType) : Option Int :=
 if decide (t1.Kind = 1) then
  m_value_ValidateType_j1 t1 (decide (t1.Kind = 1))
 else
  m_value_ValidateType_j1 t1 (decide (t1.Kind = 3))
def m_shape_Validate_l1 (d1 : List Int) : Nat → Int → Int → Option Int
 | 0, _, _ => none
 | fuel1 + 1, size1, i1 =>
  if decide (i1 < (d1.length : Int)) then
   (lat d1 i1).bind fun e1 =>
   if size1 ≠ 0 then
    if decide (wi64 (Int.tdiv 4096 size1) < e1) then
     some 2
    else
     (m_shape_Validate_l1 d1 fuel1) (wi64 (size1 * e1)) (wi64 (i1 + 1))
   else none
  else
   some 0
def m_shape_Validate_j1 (d1 : List Int) : Option Int :=
 m_shape_Validate_l1 d1 fu 1 0
def m_shape_Validate_l2 (d1 : List Int) : Nat → Int → Option Int
 | 0, _ => none
 | fuel2 + 1, i2 =>
  if decide (i2 < (d1.length : Int)) then
   (lat d1 i2).bind fun e2 =>
   if decide (e2 < 1) then
    some 1
   else
    (m_shape_Validate_l2 d1 fuel2) (wi64 (i2 + 1))
  else
   m_shape_Validate_j1 d1
def m_shape_Validate (d1 : List Int) : Option Int :=
 if decide (6 < (d1.length : Int)) then
  some 2
 else
  m_shape_Validate_l2 d1 fu 0
def m_shape_Size_l1 (d1 : List Int) : Nat → Int → Int → Option Int
 | 0, _, _ => none
 | fuel1 + 1, size1, i1 =>
  if decide (i1 < (d1.length : Int)) then
   (lat d1 i1).bind fun e1 =>
   (m_shape_Size_l1 d1 fuel1) (wi64 (size1 * e1)) (wi64 (i1 + 1))
  else
   some size1
def m_shape_Size (d1 : List Int) : Option Int :=
 (m_shape_Validate d1).bind fun r1 =>
 if !decide (r1 = 0) then
  some 0
 else
  m_shape_Size_l1 d1 fu 1 0
def m_round_valid (bits1 : Int) : Option Bool :=
 some ((decide (2 ≤ bits1)) && (decide (bits1 ≤ 31)))
def m_round_MinInt (bits1 : Int) : Option Int :=
 (m_round_valid bits1).bind fun r1 =>
 if !r1 then
  some 0
 else
  if 0 ≤ (wu64 (wi64 (bits1 - 1))) then
   some (wi64 (-(wi64 (1 * 2 ^ (min (Int.toNat (wu64 (wi64 (bits1 - 1)))) 64)))))
  else none
def m_round_MaxInt (bits1 : Int) : Option Int :=
 (m_round_valid bits1).bind fun r1 =>
 if !r1 then
  some 0
 else
  if 0 ≤ (wu64 (wi64 (bits1 - 1))) then
   some (wi64 ((wi64 (1 * 2 ^ (min (Int.toNat (wu64 (wi64 (bits1 - 1)))) 64))) - 1))
  else none
def m_fixed_Valid (t1 : GType) (v1 : GVal) : Option Bool :=
 (m_fixed_ValidateType t1).bind fun r1 =>
 (gd ((decide (r1 = 0)) && (decide (v1.D = 1))) (m_round_MinInt t1.Bits)).bind fun r2 =>
 (gd (((decide (r1 = 0)) && (decide (v1.D = 1))) && (decide (r2 ≤ v1.N))) (m_round_MaxInt t1.Bits)).bind fun r3 =>
 some ((((decide (r1 = 0)) && (decide (v1.D = 1))) && (decide (r2 ≤ v1.N))) && (decide (v1.N ≤ r3)))
def m_value_whole (n1 : Int) : Option Bool :=
 some ((decide ((-2147483647) ≤ n1)) && (decide (n1 ≤ 2147483647)))
def m_frac_inRange (n1 : Int) : Option Bool :=
 some ((decide ((-2147483647) ≤ n1)) && (decide (n1 ≤ 2147483647)))
def m_frac_magnitude (n1 : Int) : Option Int :=
 if decide (n1 < 0) then
  some (wu64 (-(wu64 n1)))
 else
  some (wu64 n1)
def m_frac_gcd_l1 : Nat → Int → Int → Option Int
 | 0, _, _ => none
 | fuel1 + 1, a2, b2 =>
  if !decide (b2 = 0) then
   if b2 ≠ 0 then
    (m_frac_gcd_l1 fuel1) b2 (Int.tmod a2 b2)
   else none
  else
   some a2
def m_frac_gcd (a1 : Int) (b1 : Int) : Option Int :=
 m_frac_gcd_l1 fu a1 b1
def m_frac_Valid (v1 : GVal) : Option Bool :=
 (gd ((decide (1 ≤ v1.D)) && (decide (v1.D ≤ 2147483647))) (m_frac_inRange v1.N)).bind fun r1 =>
 (gd (((decide (1 ≤ v1.D)) && (decide (v1.D ≤ 2147483647))) && r1) (m_frac_magnitude v1.N)).bind fun r2 =>
 (gd (((decide (1 ≤ v1.D)) && (decide (v1.D ≤ 2147483647))) && r1) (m_frac_gcd r2 (wu64 v1.D))).bind fun r3 =>
 some ((((decide (1 ≤ v1.D)) && (decide (v1.D ≤ 2147483647))) && r1) && (decide (r3 = 1)))
def m_value_Valid (t1 : GType) (v1 : GVal) : Option Bool :=
 (m_value_ValidateType t1).bind fun r1 =>
 if !decide (r1 = 0) then
  some false
 else
  if decide (t1.Kind = 2) then
   (m_fixed_Valid t1 v1).bind fun r2 =>
   some r2
  else
   if decide (t1.Kind = 3) then
    (gd (decide (v1.D = 1)) (m_value_whole v1.N)).bind fun r3 =>
    some ((decide (v1.D = 1)) && r3)
   else
    (m_frac_Valid v1).bind fun r4 =>
    some r4
def m_tensor_Validate_l1 (t1 : GTensor) : Nat → Int → Option Int
 | 0, _ => none
 | fuel1 + 1, i1 =>
  if decide (i1 < (t1.Vals.length : Int)) then
   (lat t1.Vals i1).bind fun e1 =>
   (m_value_Valid t1.Type_ e1).bind fun r4 =>
   if !r4 then
    some 1
   else
    (m_tensor_Validate_l1 t1 fuel1) (wi64 (i1 + 1))
  else
   some 0
def m_tensor_Validate (t1 : GTensor) : Option Int :=
 (m_value_ValidateType t1.Type_).bind fun r1 =>
 if !decide (r1 = 0) then
  some r1
 else
  (m_shape_Validate t1.Dims).bind fun r2 =>
  if !decide (r2 = 0) then
   some r2
  else
   (m_shape_Size t1.Dims).bind fun r3 =>
   if !decide ((t1.Vals.length : Int) = r3) then
    some 1
   else
    m_tensor_Validate_l1 t1 fu 0
def m_slices_Equal_int_int_l1 (s1_1 : List Int) (s2_1 : List Int) : Nat → Int → Option Bool
 | 0, _ => none
 | fuel1 + 1, i1 =>
  if decide (i1 < (s1_1.length : Int)) then
   (lat s1_1 i1).bind fun e1 =>
   (lat s2_1 i1).bind fun e2 =>
   if !decide (e1 = e2) then
    some false
   else
    (m_slices_Equal_int_int_l1 s1_1 s2_1 fuel1) (wi64 (i1 + 1))
  else
   some true
def m_slices_Equal_int_int (s1_1 : List Int) (s2_1 : List Int) : Option Bool :=
 if !decide ((s1_1.length : Int) = (s2_1.length : Int)) then
  some false
 else
  m_slices_Equal_int_int_l1 s1_1 s2_1 fu 0
def m_shape_Same (a1 : List Int) (b1 : List Int) : Option Bool :=
 (m_slices_Equal_int_int a1 b1).bind fun r1 =>
 some r1
def m_collective_check_l1 (zs1 : List GTensor) (l1 : List GTensor) : Nat → Int → Option Int
 | 0, _ => none
 | fuel1 + 1, i1 =>
  if decide (i1 < (zs1.length : Int)) then
   (lat zs1 i1).bind fun e1 =>
   (lat l1 0).bind fun e2 =>
   if !((decide (e1.Type_.Kind = e2.Type_.Kind)) && (decide (e1.Type_.Bits = e2.Type_.Bits)) && (decide (e1.Type_.Frac = e2.Type_.Frac)) && (decide (e1.Type_.Round = e2.Type_.Round)) && (decide (e1.Type_.Over = e2.Type_.Over))) then
    some 10
   else
    (lat l1 0).bind fun e3 =>
    (m_shape_Same e1.Dims e3.Dims).bind fun r3 =>
    if !r3 then
     some 15
    else
     (m_collective_check_l1 zs1 l1 fuel1) (wi64 (i1 + 1))
  else
   some 0
def m_collective_check_j1 (l1 : List GTensor) : Option Int :=
 (lfrom l1 1).bind fun zs1 =>
 m_collective_check_l1 zs1 l1 fu 0
def m_collective_check_l2 (l1 : List GTensor) : Nat → Int → Option Int
 | 0, _ => none
 | fuel2 + 1, i2 =>
  if decide (i2 < (l1.length : Int)) then
   (lat l1 i2).bind fun e4 =>
   (m_tensor_Validate e4).bind fun r4 =>
   if !decide (r4 = 0) then
    some r4
   else
    (m_collective_check_l2 l1 fuel2) (wi64 (i2 + 1))
  else
   m_collective_check_j1 l1
def m_collective_check (m1 : GMesh) (l1 : List GTensor) : Option Int :=
 (m_mesh_Validate m1).bind fun r1 =>
 if !decide (r1 = 0) then
  some r1
 else
  (m_mesh_Devices m1).bind fun r2 =>
  if !decide ((l1.length : Int) = r2) then
   some 1
  else
   m_collective_check_l2 l1 fu 0
def m_collective_hasAxis (m1 : GMesh) (axis1 : Int) : Option Bool :=
 some ((decide (0 ≤ axis1)) && (decide (axis1 < (m1.Dims.length : Int))))
def m_collective_checkAxes (m1 : GMesh) (l1 : List GTensor) (axis1 : Int) (along1 : Int) : Option Int :=
 (m_collective_check m1 l1).bind fun r1 =>
 if !decide (r1 = 0) then
  some r1
 else
  (m_collective_hasAxis m1 axis1).bind fun r2 =>
  if !r2 then
   some 23
  else
   (gd (!(decide (along1 < 0))) (lat l1 0)).bind fun e1 =>
   if (decide (along1 < 0)) || (decide ((e1.Dims.length : Int) ≤ along1)) then
    some 11
   else
    some 0
def m_tensor_joinable_j3 (self1 : Int → Option Int) (i1 : Int) : Option Int :=
 self1 (wi64 (i1 + 1))
def m_tensor_joinable_l2 (e2 : GTensor) (axis1 : Int) (e1 : GTensor) (self1 : Int → Option Int) (i1 : Int) : Nat → Int → Option Int
 | 0, _ => none
 | fuel2 + 1, i2 =>
  if decide (i2 < (e2.Dims.length : Int)) then
   (lat e2.Dims i2).bind fun e3 =>
   (gd (!decide (i2 = axis1)) (lat e1.Dims i2)).bind fun e4 =>
   if (!decide (i2 = axis1)) && (!decide (e3 = e4)) then
    some 15
   else
    (m_tensor_joinable_l2 e2 axis1 e1 self1 i1 fuel2) (wi64 (i2 + 1))
  else
   m_tensor_joinable_j3 self1 i1
def m_tensor_joinable_l1 (zs1 : List GTensor) (axis1 : Int) (e1 : GTensor) : Nat → Int → Option Int
 | 0, _ => none
 | fuel1 + 1, i1 =>
  if decide (i1 < (zs1.length : Int)) then
   (lat zs1 i1).bind fun e2 =>
   m_tensor_joinable_l2 e2 axis1 e1 (m_tensor_joinable_l1 zs1 axis1 e1 fuel1) i1 fu 0
  else
   some 0
def m_tensor_joinable_j2 (axis1 : Int) (e1 : GTensor) (l1 : List GTensor) : Option Int :=
 if (decide (axis1 < 0)) || (decide ((e1.Dims.length : Int) ≤ axis1)) then
  some 11
 else
  (lfrom l1 1).bind fun zs1 =>
  m_tensor_joinable_l1 zs1 axis1 e1 fu 0
def m_tensor_joinable_l3 (zs2 : List GTensor) (e1 : GTensor) (axis1 : Int) (l1 : List GTensor) : Nat → Int → Option Int
 | 0, _ => none
 | fuel3 + 1, i3 =>
  if decide (i3 < (zs2.length : Int)) then
   (lat zs2 i3).bind fun e5 =>
   if !((decide (e5.Type_.Kind = e1.Type_.Kind)) && (decide (e5.Type_.Bits = e1.Type_.Bits)) && (decide (e5.Type_.Frac = e1.Type_.Frac)) && (decide (e5.Type_.Round = e1.Type_.Round)) && (decide (e5.Type_.Over = e1.Type_.Over))) then
    some 10
   else
    if !decide ((e5.Dims.length : Int) = (e1.Dims.length : Int)) then
     some 11
    else
     (m_tensor_joinable_l3 zs2 e1 axis1 l1 fuel3) (wi64 (i3 + 1))
  else
   m_tensor_joinable_j2 axis1 e1 l1
def m_tensor_joinable_j1 (l1 : List GTensor) (axis1 : Int) : Option Int :=
 (lat l1 0).bind fun e1 =>
 (lfrom l1 1).bind fun zs2 =>
 m_tensor_joinable_l3 zs2 e1 axis1 l1 fu 0
def m_tensor_joinable_l4 (l1 : List GTensor) (axis1 : Int) : Nat → Int → Option Int
 | 0, _ => none
 | fuel4 + 1, i4 =>
  if decide (i4 < (l1.length : Int)) then
   (lat l1 i4).bind fun e6 =>
   (m_tensor_Validate e6).bind fun r1 =>
   if !decide (r1 = 0) then
    some r1
   else
    (m_tensor_joinable_l4 l1 axis1 fuel4) (wi64 (i4 + 1))
  else
   m_tensor_joinable_j1 l1 axis1
def m_tensor_joinable (axis1 : Int) (l1 : List GTensor) : Option Int :=
 if decide ((l1.length : Int) = 0) then
  some 1
 else
  m_tensor_joinable_l4 l1 axis1 fu 0
def m_tensor_split (d1 : List Int) (axis1 : Int) : Option (Int × Int × Int) :=
 (lupto d1 axis1).bind fun zs1 =>
 (lat d1 axis1).bind fun e1 =>
 (lfrom d1 (wi64 (axis1 + 1))).bind fun zs2 =>
 (m_shape_Size zs1).bind fun r1 =>
 (m_shape_Size zs2).bind fun r2 =>
 some (r1, e1, r2)
def m_tensor_Concat_j3 (self1 : Int → GTensor → Option (GTensor × Int)) (i1 : Int) (out3 : GTensor) : Option (GTensor × Int) :=
 self1 (wi64 (i1 + 1)) out3
def m_tensor_Concat_l2 (l1 : List GTensor) (axis1 : Int) (i1 : Int) (r2 : Int × Int × Int) (self1 : Int → GTensor → Option (GTensor × Int)) : Nat → Int → GTensor → Option (GTensor × Int)
 | 0, _, _ => none
 | fuel2 + 1, i2, out4 =>
  if decide (i2 < (l1.length : Int)) then
   (lat l1 i2).bind fun e4 =>
   (lat e4.Dims axis1).bind fun e5 =>
   (lsub e4.Vals (wi64 (i1 * (wi64 (e5 * r2.2.2)))) (wi64 ((wi64 (i1 + 1)) * (wi64 (e5 * r2.2.2))))).bind fun zs2 =>
   (lapp out4.Vals zs2).bind fun zs3 =>
   (m_tensor_Concat_l2 l1 axis1 i1 r2 self1 fuel2) (wi64 (i2 + 1)) (⟨out4.Type_, out4.Dims, zs3⟩ : GTensor)
  else
   m_tensor_Concat_j3 self1 i1 out4
def m_tensor_Concat_l1 (r2 : Int × Int × Int) (l1 : List GTensor) (axis1 : Int) : Nat → Int → GTensor → Option (GTensor × Int)
 | 0, _, _ => none
 | fuel1 + 1, i1, out2 =>
  if decide (i1 < r2.1) then
   m_tensor_Concat_l2 l1 axis1 i1 r2 (m_tensor_Concat_l1 r2 l1 axis1 fuel1) fu 0 out2
  else
   some (out2, 0)
def m_tensor_Concat_j2 (l1 : List GTensor) (axis1 : Int) (out1 : GTensor) : Option (GTensor × Int) :=
 (lat l1 0).bind fun e3 =>
 (m_tensor_split e3.Dims axis1).bind fun r2 =>
 m_tensor_Concat_l1 r2 l1 axis1 fu 0 out1
def m_tensor_Concat_l3 (zs4 : List GTensor) (axis1 : Int) (l1 : List GTensor) : Nat → Int → GTensor → Option (GTensor × Int)
 | 0, _, _ => none
 | fuel3 + 1, i3, out5 =>
  if decide (i3 < (zs4.length : Int)) then
   (lat zs4 i3).bind fun e6 =>
   (lat out5.Dims axis1).bind fun e7 =>
   (lat e6.Dims axis1).bind fun e8 =>
   if 0 ≤ axis1 ∧ axis1 < (out5.Dims.length : Int) then
    (m_tensor_Concat_l3 zs4 axis1 l1 fuel3) (wi64 (i3 + 1)) (⟨out5.Type_, out5.Dims.set (Int.toNat axis1) (wi64 (e7 + e8)), out5.Vals⟩ : GTensor)
   else none
  else
   m_tensor_Concat_j2 l1 axis1 out5
def m_tensor_Concat_j1 (l1 : List GTensor) (axis1 : Int) : Option (GTensor × Int) :=
 (lat l1 0).bind fun e1 =>
 (lat l1 0).bind fun e2 =>
 (lapp ([] : List Int) e2.Dims).bind fun zs1 =>
 (lfrom l1 1).bind fun zs4 =>
 m_tensor_Concat_l3 zs4 axis1 l1 fu 0 (⟨e1.Type_, zs1, ([] : List GVal)⟩ : GTensor)
def m_tensor_Concat_l4 (l1 : List GTensor) (axis1 : Int) : Nat → Int → Int → Option (GTensor × Int)
 | 0, _, _ => none
 | fuel4 + 1, size1, i4 =>
  if decide (i4 < (l1.length : Int)) then
   (lat l1 i4).bind fun e9 =>
   (some (wi64 (size1 + (e9.Vals.length : Int)))).bind fun size2 =>
   if decide (4096 < size2) then
    some ((⟨(⟨0, 0, 0, 0, 0⟩ : GType), ([] : List Int), ([] : List GVal)⟩ : GTensor), 2)
   else
    (m_tensor_Concat_l4 l1 axis1 fuel4) size2 (wi64 (i4 + 1))
  else
   m_tensor_Concat_j1 l1 axis1
def m_tensor_Concat (axis1 : Int) (l1 : List GTensor) : Option (GTensor × Int) :=
 (m_tensor_joinable axis1 l1).bind fun r1 =>
 if !decide (r1 = 0) then
  some ((⟨(⟨0, 0, 0, 0, 0⟩ : GType), ([] : List Int), ([] : List GVal)⟩ : GTensor), r1)
 else
  m_tensor_Concat_l4 l1 axis1 fu 0 0
def m_collective_AllGather_1 (a1 : Int) (group1 : List GTensor) (a3 : Int) : Option (GTensor × Int) :=
 (m_tensor_Concat a3 group1).bind fun r1 =>
 some (r1.1, r1.2)
def m_box_Point_l1 (ext1 : List Int) : Nat → Int → (List Int) → Int → Option (List Int × Bool)
 | 0, _, _, _ => none
 | fuel1 + 1, at2, p1, i2 =>
  if decide (0 ≤ i2) then
   (lat ext1 i2).bind fun e1 =>
   if e1 ≠ 0 then
    if 0 ≤ i2 ∧ i2 < (p1.length : Int) then
     (lat ext1 i2).bind fun e2 =>
     if e2 ≠ 0 then
      (m_box_Point_l1 ext1 fuel1) (wi64 (Int.tdiv at2 e2)) (p1.set (Int.toNat i2) (Int.tmod at2 e1)) (wi64 (i2 - 1))
     else none
    else none
   else none
  else
   some (p1, true)
def m_box_Point (ext1 : List Int) (at1 : Int) : Option (List Int × Bool) :=
 (gd (!(decide (at1 < 0))) (m_box_Count ext1)).bind fun r1 =>
 if (decide (at1 < 0)) || (decide (r1 ≤ at1)) then
  some (([] : List Int), false)
 else
  (lmake 0 (ext1.length : Int) (ext1.length : Int)).bind fun zs1 =>
  (some (wi64 ((ext1.length : Int) - 1))).bind fun i1 =>
  m_box_Point_l1 ext1 fu at1 zs1 i1
def m_mesh_Coordinates (m1 : GMesh) (dev1 : Int) : Option (List Int × Bool) :=
 (m_mesh_Validate m1).bind fun r1 =>
 if !decide (r1 = 0) then
  some (([] : List Int), false)
 else
  (m_box_Point m1.Dims dev1).bind fun r2 =>
  some (r2.1, r2.2)
def m_box_inside_l1 (ext1 : List Int) (p1 : List Int) : Nat → Int → Option Bool
 | 0, _ => none
 | fuel1 + 1, i1 =>
  if decide (i1 < (ext1.length : Int)) then
   (lat ext1 i1).bind fun e1 =>
   (lat p1 i1).bind fun e2 =>
   (gd (!(decide (e2 < 0))) (lat p1 i1)).bind fun e3 =>
   if (decide (e2 < 0)) || (decide (e1 ≤ e3)) then
    some false
   else
    (m_box_inside_l1 ext1 p1 fuel1) (wi64 (i1 + 1))
  else
   some true
def m_box_inside (ext1 : List Int) (p1 : List Int) : Option Bool :=
 (m_box_Validate ext1).bind fun r1 =>
 if (!decide (r1 = 0)) || (!decide ((p1.length : Int) = (ext1.length : Int))) then
  some false
 else
  m_box_inside_l1 ext1 p1 fu 0
def m_box_Rank_l1 (ext1 : List Int) (p1 : List Int) : Nat → Int → Int → Option (Int × Bool)
 | 0, _, _ => none
 | fuel1 + 1, at1, i1 =>
  if decide (i1 < (ext1.length : Int)) then
   (lat ext1 i1).bind fun e1 =>
   (lat p1 i1).bind fun e2 =>
   (some (wi64 ((wi64 (at1 * e1)) + e2))).bind fun at2 =>
   (m_box_Rank_l1 ext1 p1 fuel1) at2 (wi64 (i1 + 1))
  else
   some (at1, true)
def m_box_Rank (ext1 : List Int) (p1 : List Int) : Option (Int × Bool) :=
 (m_box_inside ext1 p1).bind fun r1 =>
 if !r1 then
  some (0, false)
 else
  m_box_Rank_l1 ext1 p1 fu 0 0
def m_mesh_Device (m1 : GMesh) (p1 : List Int) : Option (Int × Bool) :=
 (m_mesh_Validate m1).bind fun r1 =>
 if !decide (r1 = 0) then
  some (0, false)
 else
  (m_box_Rank m1.Dims p1).bind fun r2 =>
  some (r2.1, r2.2)
def m_slices_Clone_int_int_o (s1 : List Int) : Option (List Int) :=
 (lapp ([] : List Int) s1).bind fun zs1 =>
 some (zs1)
def m_mesh_Group_l1 (e1 : Int) (r1 : List Int × Bool) (axis1 : Int) (m1 : GMesh) : Nat → (List Int) → Int → Option (List Int)
 | 0, _, _ => none
 | fuel1 + 1, out1, i1 =>
  if decide (i1 < e1) then
   (m_slices_Clone_int_int_o r1.1).bind fun r2 =>
   if 0 ≤ axis1 ∧ axis1 < (r2.length : Int) then
    (m_mesh_Device m1 (r2.set (Int.toNat axis1) i1)).bind fun r3 =>
    (lapp out1 ([r3.1] : List Int)).bind fun zs1 =>
    (m_mesh_Group_l1 e1 r1 axis1 m1 fuel1) zs1 (wi64 (i1 + 1))
   else none
  else
   some out1
def m_mesh_Group (m1 : GMesh) (axis1 : Int) (dev1 : Int) : Option (List Int) :=
 (m_mesh_Coordinates m1 dev1).bind fun r1 =>
 if ((!r1.2) || (decide (axis1 < 0))) || (decide ((m1.Dims.length : Int) ≤ axis1)) then
  some ([] : List Int)
 else
  (lat m1.Dims axis1).bind fun e1 =>
  m_mesh_Group_l1 e1 r1 axis1 m1 fu ([] : List Int) 0
def m_collective_operation_apply_j1 (self1 : (List GTensor) → Int → Option (List GTensor × Int)) (i1 : Int) (out2 : List GTensor) : Option (List GTensor × Int) :=
 self1 out2 (wi64 (i1 + 1))
def m_collective_operation_apply_j2 (op1 : Gcollective_operation) (i1 : Int) (out1 : List GTensor) (self1 : (List GTensor) → Int → Option (List GTensor × Int)) (group1 : List GTensor) : Option (List GTensor × Int) :=
 (op1.local_ i1 group1).bind fun r1 =>
 if !decide (r1.2 = 0) then
  some (([] : List GTensor), r1.2)
 else
  (lapp out1 ([r1.1] : List GTensor)).bind fun zs1 =>
  m_collective_operation_apply_j1 self1 i1 zs1
def m_collective_operation_apply_l2 (r2 : List Int) (l1 : List GTensor) (op1 : Gcollective_operation) (i1 : Int) (out1 : List GTensor) (self1 : (List GTensor) → Int → Option (List GTensor × Int)) : Nat → (List GTensor) → Int → Option (List GTensor × Int)
 | 0, _, _ => none
 | fuel2 + 1, group2, i2 =>
  if decide (i2 < (r2.length : Int)) then
   (lat r2 i2).bind fun e1 =>
   (lat l1 e1).bind fun e2 =>
   (lapp group2 ([e2] : List GTensor)).bind fun zs2 =>
   (m_collective_operation_apply_l2 r2 l1 op1 i1 out1 self1 fuel2) zs2 (wi64 (i2 + 1))
  else
   m_collective_operation_apply_j2 op1 i1 out1 self1 group2
def m_collective_operation_apply_l1 (l1 : List GTensor) (m1 : GMesh) (axis1 : Int) (op1 : Gcollective_operation) : Nat → (List GTensor) → Int → Option (List GTensor × Int)
 | 0, _, _ => none
 | fuel1 + 1, out1, i1 =>
  if decide (i1 < (l1.length : Int)) then
   (m_mesh_Group m1 axis1 i1).bind fun r2 =>
   m_collective_operation_apply_l2 r2 l1 op1 i1 out1 (m_collective_operation_apply_l1 l1 m1 axis1 op1 fuel1) fu ([] : List GTensor) 0
  else
   some (out1, 0)
def m_collective_operation_apply (op1 : Gcollective_operation) (m1 : GMesh) (l1 : List GTensor) (axis1 : Int) : Option (List GTensor × Int) :=
 m_collective_operation_apply_l1 l1 m1 axis1 op1 fu ([] : List GTensor) 0
def m_collective_AllGather (m1 : GMesh) (l1 : List GTensor) (axis1 : Int) (along1 : Int) : Option (List GTensor × Int) :=
 (m_collective_checkAxes m1 l1 axis1 along1).bind fun r1 =>
 if !decide (r1 = 0) then
  some (([] : List GTensor), r1)
 else
  (m_collective_operation_apply (⟨(fun y_1 y_2 => m_collective_AllGather_1 y_1 y_2 along1)⟩ : Gcollective_operation) m1 l1 axis1).bind fun r2 =>
  some (r2.1, r2.2)
def m_value_operator_j1 (fold1 : Int) (i1 : Bool) : Option (Int × Bool) :=
 if i1 then
  some (4, true)
 else
  if decide (fold1 = 2) then
   some (6, true)
  else
   if decide (fold1 = 3) then
    some (9, true)
   else
    if decide (fold1 = 4) then
     some (10, true)
    else
     some (0, false)
def m_value_operator (fold1 : Int) : Option (Int × Bool) :=
 if decide (fold1 = 1) then
  m_value_operator_j1 fold1 (decide (fold1 = 1))
 else
  m_value_operator_j1 fold1 (decide (fold1 = 5))
def m_value_Zero (t1 : GType) : Option GVal :=
 (m_value_ValidateType t1).bind fun r1 =>
 if !decide (r1 = 0) then
  some (⟨0, 0⟩ : GVal)
 else
  some (⟨0, 1⟩ : GVal)
def m_value_One (t1 : GType) : Option (GVal × Int) :=
 (m_value_ValidateType t1).bind fun r1 =>
 if !decide (r1 = 0) then
  some ((⟨0, 0⟩ : GVal), 10)
 else
  if !decide (t1.Kind = 2) then
   some ((⟨1, 1⟩ : GVal), 0)
  else
   if 0 ≤ t1.Frac then
    (m_fixed_Valid t1 (⟨wi64 (1 * 2 ^ (min (Int.toNat t1.Frac) 64)), 1⟩ : GVal)).bind fun r2 =>
    if !r2 then
     some ((⟨0, 0⟩ : GVal), 3)
    else
     some ((⟨wi64 (1 * 2 ^ (min (Int.toNat t1.Frac) 64)), 1⟩ : GVal), 0)
   else none
def m_value_Identity_j1 (t1 : GType) (fold1 : Int) (i1 : Bool) : Option (GVal × Bool) :=
 if i1 then
  (m_value_Zero t1).bind fun r2 =>
  some (r2, true)
 else
  if decide (fold1 = 2) then
   (m_value_One t1).bind fun r3 =>
   some (r3.1, decide (r3.2 = 0))
  else
   some ((⟨0, 0⟩ : GVal), false)
def m_value_Identity (fold1 : Int) (t1 : GType) : Option (GVal × Bool) :=
 (m_value_ValidateType t1).bind fun r1 =>
 if !decide (r1 = 0) then
  some ((⟨0, 0⟩ : GVal), false)
 else
  if decide (fold1 = 1) then
   m_value_Identity_j1 t1 fold1 (decide (fold1 = 1))
  else
   m_value_Identity_j1 t1 fold1 (decide (fold1 = 5))
def m_fixed_Neg_1 (a1 : GType) (x1 : Int) (a2 : Int) : Option (Int × Int) :=
 some (wi64 (-x1), 0)
def m_fixed_check_l1 (operands1 : List GVal) (t1 : GType) : Nat → Int → Option Int
 | 0, _ => none
 | fuel1 + 1, i1 =>
  if decide (i1 < (operands1.length : Int)) then
   (lat operands1 i1).bind fun e1 =>
   (m_fixed_Valid t1 e1).bind fun r2 =>
   if !r2 then
    some 1
   else
    (m_fixed_check_l1 operands1 t1 fuel1) (wi64 (i1 + 1))
  else
   some 0
def m_fixed_check (t1 : GType) (operands1 : List GVal) : Option Int :=
 (m_fixed_ValidateType t1).bind fun r1 =>
 if !decide (r1 = 0) then
  some r1
 else
  m_fixed_check_l1 operands1 t1 fu 0
def m_round_Narrow (n1 : Int) (bits1 : Int) (over1 : Int) : Option (Int × Bool) :=
 (m_round_valid bits1).bind fun r1 =>
 if (!r1) || ((!decide (over1 = 1)) && (!decide (over1 = 2))) then
  some (0, false)
 else
  (m_round_MinInt bits1).bind fun r2 =>
  (m_round_MaxInt bits1).bind fun r3 =>
  if (decide (r2 ≤ n1)) && (decide (n1 ≤ r3)) then
   some (n1, false)
  else
   if (decide (over1 = 1)) && (decide (n1 < r2)) then
    some (r2, true)
   else
    if decide (over1 = 1) then
     some (r3, true)
    else
     if 0 ≤ (wu64 (wi64 (64 - bits1))) then
      some (Int.fdiv (wi64 (wu64 ((wu64 n1) * 2 ^ (min (Int.toNat (wu64 (wi64 (64 - bits1)))) 64)))) (2 ^ (min (Int.toNat (wu64 (wi64 (64 - bits1)))) 64)), true)
     else none
def m_fixed_narrow (t1 : GType) (n1 : Int) : Option GVal :=
 (m_round_Narrow n1 t1.Bits t1.Over).bind fun r1 =>
 some (⟨r1.1, 1⟩ : GVal)
def m_fixed_apply (op1 : Gfixed_operation) (t1 : GType) (a1 : GVal) (b1 : GVal) : Option (GVal × Int) :=
 (m_fixed_check t1 ([a1, b1] : List GVal)).bind fun r1 =>
 if !decide (r1 = 0) then
  some ((⟨0, 0⟩ : GVal), r1)
 else
  (op1.run t1 a1.N b1.N).bind fun r2 =>
  if !decide (r2.2 = 0) then
   some ((⟨0, 0⟩ : GVal), r2.2)
  else
   (m_fixed_narrow t1 r2.1).bind fun r3 =>
   some (r3, 0)
def m_fixed_Neg (t1 : GType) (a1 : GVal) : Option (GVal × Int) :=
 (m_fixed_apply (⟨m_fixed_Neg_1⟩ : Gfixed_operation) t1 a1 a1).bind fun r1 =>
 some (r1.1, r1.2)
def m_value_negate (t1 : GType) (a1 : GVal) : Option (GVal × Int) :=
 if decide (t1.Kind = 2) then
  (m_fixed_Neg t1 a1).bind fun r1 =>
  some (r1.1, r1.2)
 else
  some ((⟨wi64 (-a1.N), a1.D⟩ : GVal), 0)
def m_frac_order (a1 : Int) (b1 : Int) : Option Int :=
 if decide (a1 < b1) then
  some (-1)
 else
  if decide (b1 < a1) then
   some 1
  else
   some 0
def m_frac_Compare (a1 : GVal) (b1 : GVal) : Option Int :=
 (m_frac_Valid a1).bind fun r1 =>
 (gd r1 (m_frac_Valid b1)).bind fun r2 =>
 if r1 && r2 then
  (m_frac_order (wi64 (a1.N * b1.D)) (wi64 (b1.N * a1.D))).bind fun r3 =>
  some r3
 else
  (m_frac_order a1.N b1.N).bind fun r4 =>
  if !decide (r4 = 0) then
   some r4
  else
   (m_frac_order a1.D b1.D).bind fun r5 =>
   some r5
def m_value_Compare (t1 : GType) (a1 : GVal) (b1 : GVal) : Option Int :=
 (m_value_Valid t1 a1).bind fun r1 =>
 (gd (!(!r1)) (m_value_Valid t1 b1)).bind fun r2 =>
 if (!r1) || (!r2) then
  some 0
 else
  if decide (t1.Kind = 1) then
   (m_frac_Compare a1 b1).bind fun r3 =>
   some r3
  else
   if decide (a1.N < b1.N) then
    some (-1)
   else
    if decide (b1.N < a1.N) then
     some 1
    else
     some 0
def m_value_integer_j1 (n1 : Int) : Option (GVal × Int) :=
 (m_value_whole n1).bind fun r1 =>
 if !r1 then
  some ((⟨0, 0⟩ : GVal), 3)
 else
  some ((⟨n1, 1⟩ : GVal), 0)
def m_value_integer (op1 : Int) (a1 : Int) (b1 : Int) : Option (GVal × Int) :=
 if decide (op1 = 4) then
  m_value_integer_j1 (wi64 (a1 + b1))
 else
  if decide (op1 = 5) then
   m_value_integer_j1 (wi64 (a1 - b1))
  else
   if decide (op1 = 6) then
    m_value_integer_j1 (wi64 (a1 * b1))
   else
    if decide (b1 = 0) then
     some ((⟨0, 0⟩ : GVal), 4)
    else
     if b1 ≠ 0 then
      if (!decide (Int.tmod a1 b1 = 0)) && ((decide (a1 < 0)) != (decide (b1 < 0))) then
       (some (wi64 ((wi64 (Int.tdiv a1 b1)) - 1))).bind fun n2 =>
       m_value_integer_j1 n2
      else
       m_value_integer_j1 (wi64 (Int.tdiv a1 b1))
     else none
def m_fixed_Add_1 (a1 : GType) (x1 : Int) (y1 : Int) : Option (Int × Int) :=
 some (wi64 (x1 + y1), 0)
def m_fixed_Add (t1 : GType) (a1 : GVal) (b1 : GVal) : Option (GVal × Int) :=
 (m_fixed_apply (⟨m_fixed_Add_1⟩ : Gfixed_operation) t1 a1 b1).bind fun r1 =>
 some (r1.1, r1.2)
def m_fixed_Sub_1 (a1 : GType) (x1 : Int) (y1 : Int) : Option (Int × Int) :=
 some (wi64 (x1 - y1), 0)
def m_fixed_Sub (t1 : GType) (a1 : GVal) (b1 : GVal) : Option (GVal × Int) :=
 (m_fixed_apply (⟨m_fixed_Sub_1⟩ : Gfixed_operation) t1 a1 b1).bind fun r1 =>
 some (r1.1, r1.2)
def m_round_mode (how1 : Int) : Option Bool :=
 some ((decide (1 ≤ how1)) && (decide (how1 ≤ 4)))
def m_round_magnitude (n1 : Int) : Option Int :=
 if decide (n1 < 0) then
  some (wu64 (-(wu64 n1)))
 else
  some (wu64 n1)
def m_round_rounded_j1 (e1 : Int) (how1 : Int) (a1 : Int) (b1 : Int) (self1 : Int → Int → Option Int) (i1 : Int) (i2 : Bool) : Option Int :=
 if i2 then
  some e1
 else
  if (decide (how1 = 4)) && ((decide (wu64 (2 * (Int.tmod a1 b1)) < b1)) || ((decide (wu64 (2 * (Int.tmod a1 b1)) = b1)) && (decide (Int.tmod (wu64 (Int.tdiv a1 b1)) 2 = 0)))) then
   some e1
  else
   self1 e1 (wi64 (i1 + 1))
def m_round_rounded_l1 (a1 : Int) (b1 : Int) (how1 : Int) (negative1 : Bool) : Nat → Int → Int → Option Int
 | 0, _, _ => none
 | fuel1 + 1, m1, i1 =>
  if decide (i1 < 2) then
   (lat ([wu64 (Int.tdiv a1 b1), wu64 ((wu64 (Int.tdiv a1 b1)) + 1)] : List Int) i1).bind fun e1 =>
   if (decide (Int.tmod a1 b1 = 0)) || (decide (how1 = 3)) then
    some e1
   else
    if (decide (how1 = 1)) && (!negative1) then
     m_round_rounded_j1 e1 how1 a1 b1 (m_round_rounded_l1 a1 b1 how1 negative1 fuel1) i1 ((decide (how1 = 1)) && (!negative1))
    else
     m_round_rounded_j1 e1 how1 a1 b1 (m_round_rounded_l1 a1 b1 how1 negative1 fuel1) i1 ((decide (how1 = 2)) && negative1)
  else
   some m1
def m_round_rounded (a1 : Int) (b1 : Int) (negative1 : Bool) (how1 : Int) : Option Int :=
 if b1 ≠ 0 then
  m_round_rounded_l1 a1 b1 how1 negative1 fu (wu64 (Int.tdiv a1 b1)) 0
 else none
def m_round_Divide (n1 : Int) (d1 : Int) (how1 : Int) : Option (Int × Int) :=
 (m_round_mode how1).bind fun r1 =>
 if !r1 then
  some (0, 1)
 else
  if decide (d1 = 0) then
   some (0, 4)
  else
   (some ((decide (n1 < 0)) != (decide (d1 < 0)))).bind fun negative1 =>
   (m_round_magnitude n1).bind fun r2 =>
   (m_round_magnitude d1).bind fun r3 =>
   (m_round_rounded r2 r3 negative1 how1).bind fun r4 =>
   if negative1 then
    some (wi64 (wu64 (-r4)), 0)
   else
    if decide (9223372036854775808 ≤ r4) then
     some (0, 3)
    else
     some (wi64 r4, 0)
def m_fixed_Mul_1 (t1 : GType) (x1 : Int) (y1 : Int) : Option (Int × Int) :=
 if 0 ≤ t1.Frac then
  (m_round_Divide (wi64 (x1 * y1)) (wi64 (1 * 2 ^ (min (Int.toNat t1.Frac) 64))) t1.Round).bind fun r1 =>
  some (r1.1, r1.2)
 else none
def m_fixed_Mul (t1 : GType) (a1 : GVal) (b1 : GVal) : Option (GVal × Int) :=
 (m_fixed_apply (⟨m_fixed_Mul_1⟩ : Gfixed_operation) t1 a1 b1).bind fun r1 =>
 some (r1.1, r1.2)
def m_fixed_Div_1 (t1 : GType) (x1 : Int) (y1 : Int) : Option (Int × Int) :=
 if 0 ≤ t1.Frac then
  (m_round_Divide (wi64 (x1 * 2 ^ (min (Int.toNat t1.Frac) 64))) y1 t1.Round).bind fun r1 =>
  some (r1.1, r1.2)
 else none
def m_fixed_Div (t1 : GType) (a1 : GVal) (b1 : GVal) : Option (GVal × Int) :=
 (m_fixed_apply (⟨m_fixed_Div_1⟩ : Gfixed_operation) t1 a1 b1).bind fun r1 =>
 some (r1.1, r1.2)
def m_frac_New (n1 : Int) (d1 : Int) : Option (GVal × Int) :=
 if decide (d1 = 0) then
  some ((⟨0, 0⟩ : GVal), 4)
 else
  (some ((decide (n1 < 0)) != (decide (d1 < 0)))).bind fun negative1 =>
  (m_frac_magnitude n1).bind fun r1 =>
  (m_frac_magnitude d1).bind fun r2 =>
  (m_frac_gcd r1 r2).bind fun r3 =>
  if r3 ≠ 0 then
   if (decide (2147483647 < wu64 (Int.tdiv r1 r3))) || (decide (2147483647 < wu64 (Int.tdiv r2 r3))) then
    some ((⟨0, 0⟩ : GVal), 3)
   else
    if negative1 then
     some ((⟨wi64 (-(wi64 (wu64 (Int.tdiv r1 r3)))), wi64 (wu64 (Int.tdiv r2 r3))⟩ : GVal), 0)
    else
     some ((⟨wi64 (wu64 (Int.tdiv r1 r3)), wi64 (wu64 (Int.tdiv r2 r3))⟩ : GVal), 0)
  else none
def m_frac_Add (a1 : GVal) (b1 : GVal) : Option (GVal × Int) :=
 (m_frac_Valid a1).bind fun r1 =>
 (gd (!(!r1)) (m_frac_Valid b1)).bind fun r2 =>
 if (!r1) || (!r2) then
  some ((⟨0, 0⟩ : GVal), 1)
 else
  (m_frac_New (wi64 ((wi64 (a1.N * b1.D)) + (wi64 (b1.N * a1.D)))) (wi64 (a1.D * b1.D))).bind fun r3 =>
  some (r3.1, r3.2)
def m_frac_Sub (a1 : GVal) (b1 : GVal) : Option (GVal × Int) :=
 (m_frac_Valid a1).bind fun r1 =>
 (gd (!(!r1)) (m_frac_Valid b1)).bind fun r2 =>
 if (!r1) || (!r2) then
  some ((⟨0, 0⟩ : GVal), 1)
 else
  (m_frac_New (wi64 ((wi64 (a1.N * b1.D)) - (wi64 (b1.N * a1.D)))) (wi64 (a1.D * b1.D))).bind fun r3 =>
  some (r3.1, r3.2)
def m_frac_Mul (a1 : GVal) (b1 : GVal) : Option (GVal × Int) :=
 (m_frac_Valid a1).bind fun r1 =>
 (gd (!(!r1)) (m_frac_Valid b1)).bind fun r2 =>
 if (!r1) || (!r2) then
  some ((⟨0, 0⟩ : GVal), 1)
 else
  (m_frac_New (wi64 (a1.N * b1.N)) (wi64 (a1.D * b1.D))).bind fun r3 =>
  some (r3.1, r3.2)
def m_frac_Div (a1 : GVal) (b1 : GVal) : Option (GVal × Int) :=
 (m_frac_Valid a1).bind fun r1 =>
 (gd (!(!r1)) (m_frac_Valid b1)).bind fun r2 =>
 if (!r1) || (!r2) then
  some ((⟨0, 0⟩ : GVal), 1)
 else
  (m_frac_New (wi64 (a1.N * b1.D)) (wi64 (a1.D * b1.N))).bind fun r3 =>
  some (r3.1, r3.2)
def m_value_arithmetic (op1 : Int) (t1 : GType) (a1 : GVal) (b1 : GVal) : Option (GVal × Int) :=
 if decide (t1.Kind = 3) then
  (m_value_integer op1 a1.N b1.N).bind fun r1 =>
  some (r1.1, r1.2)
 else
  if (decide (op1 = 4)) && (decide (t1.Kind = 2)) then
   (m_fixed_Add t1 a1 b1).bind fun r2 =>
   some (r2.1, r2.2)
  else
   if (decide (op1 = 5)) && (decide (t1.Kind = 2)) then
    (m_fixed_Sub t1 a1 b1).bind fun r3 =>
    some (r3.1, r3.2)
   else
    if (decide (op1 = 6)) && (decide (t1.Kind = 2)) then
     (m_fixed_Mul t1 a1 b1).bind fun r4 =>
     some (r4.1, r4.2)
    else
     if decide (t1.Kind = 2) then
      (m_fixed_Div t1 a1 b1).bind fun r5 =>
      some (r5.1, r5.2)
     else
      if decide (op1 = 4) then
       (m_frac_Add a1 b1).bind fun r6 =>
       some (r6.1, r6.2)
      else
       if decide (op1 = 5) then
        (m_frac_Sub a1 b1).bind fun r7 =>
        some (r7.1, r7.2)
       else
        if decide (op1 = 6) then
         (m_frac_Mul a1 b1).bind fun r8 =>
         some (r8.1, r8.2)
        else
         (m_frac_Div a1 b1).bind fun r9 =>
         some (r9.1, r9.2)
def m_value_Apply_j1 (t1 : GType) (a1 : GVal) (b1 : GVal) (op1 : Int) (i1 : Bool) : Option (GVal × Int) :=
 if i1 then
  (m_value_Compare t1 a1 b1).bind fun r5 =>
  if ((decide (0 < r5)) == (decide (op1 = 9))) && (!decide (r5 = 0)) then
   some (b1, 0)
  else
   some (a1, 0)
 else
  (m_value_arithmetic op1 t1 a1 b1).bind fun r6 =>
  some (r6.1, r6.2)
def m_value_Apply (op1 : Int) (t1 : GType) (a1 : GVal) (b1 : GVal) : Option (GVal × Int) :=
 if (decide (op1 < 4)) || (decide (10 < op1)) then
  some ((⟨0, 0⟩ : GVal), 1)
 else
  (m_value_ValidateType t1).bind fun r1 =>
  if !decide (r1 = 0) then
   some ((⟨0, 0⟩ : GVal), 10)
  else
   (m_value_Valid t1 a1).bind fun r2 =>
   (gd ((!(!r2)) && (!decide (op1 = 8))) (m_value_Valid t1 b1)).bind fun r3 =>
   if (!r2) || ((!decide (op1 = 8)) && (!r3)) then
    some ((⟨0, 0⟩ : GVal), 1)
   else
    if decide (op1 = 8) then
     (m_value_negate t1 a1).bind fun r4 =>
     some (r4.1, r4.2)
    else
     if decide (op1 = 9) then
      m_value_Apply_j1 t1 a1 b1 op1 (decide (op1 = 9))
     else
      m_value_Apply_j1 t1 a1 b1 op1 (decide (op1 = 10))
def m_value_Reduce_l1 (zs1 : List GVal) (r1 : Int × Bool) (t1 : GType) : Nat → Int → GVal → Option (GVal × Int)
 | 0, _, _ => none
 | fuel1 + 1, i1, out1 =>
  if decide (i1 < (zs1.length : Int)) then
   (lat zs1 i1).bind fun e2 =>
   (m_value_Apply r1.1 t1 out1 e2).bind fun r4 =>
   if !decide (r4.2 = 0) then
    some ((⟨0, 0⟩ : GVal), r4.2)
   else
    (m_value_Reduce_l1 zs1 r1 t1 fuel1) (wi64 (i1 + 1)) r4.1
  else
   some (out1, 0)
def m_value_Reduce_j1 (l1 : List GVal) (fold1 : Int) (t1 : GType) (r1 : Int × Bool) : Option (GVal × Int) :=
 if decide ((l1.length : Int) = 0) then
  (m_value_Identity fold1 t1).bind fun r3 =>
  if !r3.2 then
   some ((⟨0, 0⟩ : GVal), 1)
  else
   some (r3.1, 0)
 else
  (lat l1 0).bind fun e1 =>
  (lfrom l1 1).bind fun zs1 =>
  m_value_Reduce_l1 zs1 r1 t1 fu 0 e1
def m_value_Reduce_l2 (l1 : List GVal) (t1 : GType) (fold1 : Int) (r1 : Int × Bool) : Nat → Int → Option (GVal × Int)
 | 0, _ => none
 | fuel2 + 1, i2 =>
  if decide (i2 < (l1.length : Int)) then
   (lat l1 i2).bind fun e3 =>
   (m_value_Valid t1 e3).bind fun r5 =>
   if !r5 then
    some ((⟨0, 0⟩ : GVal), 1)
   else
    (m_value_Reduce_l2 l1 t1 fold1 r1 fuel2) (wi64 (i2 + 1))
  else
   m_value_Reduce_j1 l1 fold1 t1 r1
def m_value_Reduce (fold1 : Int) (t1 : GType) (l1 : List GVal) : Option (GVal × Int) :=
 (m_value_operator fold1).bind fun r1 =>
 if !r1.2 then
  some ((⟨0, 0⟩ : GVal), 1)
 else
  (m_value_ValidateType t1).bind fun r2 =>
  if !decide (r2 = 0) then
   some ((⟨0, 0⟩ : GVal), 10)
  else
   m_value_Reduce_l2 l1 t1 fold1 r1 fu 0
def m_collective_combine_j1 (self1 : Int → GTensor → Option (GTensor × Int)) (i1 : Int) (out2 : GTensor) : Option (GTensor × Int) :=
 self1 (wi64 (i1 + 1)) out2
def m_collective_combine_j2 (fold1 : Int) (out1 : GTensor) (self1 : Int → GTensor → Option (GTensor × Int)) (i1 : Int) (l1 : List GVal) : Option (GTensor × Int) :=
 (m_value_Reduce fold1 out1.Type_ l1).bind fun r1 =>
 if !decide (r1.2 = 0) then
  some ((⟨(⟨0, 0, 0, 0, 0⟩ : GType), ([] : List Int), ([] : List GVal)⟩ : GTensor), r1.2)
 else
  (lapp out1.Vals ([r1.1] : List GVal)).bind fun zs2 =>
  m_collective_combine_j1 self1 i1 (⟨out1.Type_, out1.Dims, zs2⟩ : GTensor)
def m_collective_combine_l2 (group1 : List GTensor) (i1 : Int) (fold1 : Int) (out1 : GTensor) (self1 : Int → GTensor → Option (GTensor × Int)) : Nat → (List GVal) → Int → Option (GTensor × Int)
 | 0, _, _ => none
 | fuel2 + 1, l2, i2 =>
  if decide (i2 < (group1.length : Int)) then
   (lat group1 i2).bind fun e4 =>
   (lat e4.Vals i1).bind fun e5 =>
   (lapp l2 ([e5] : List GVal)).bind fun zs3 =>
   (m_collective_combine_l2 group1 i1 fold1 out1 self1 fuel2) zs3 (wi64 (i2 + 1))
  else
   m_collective_combine_j2 fold1 out1 self1 i1 l2
def m_collective_combine_l1 (e3 : GTensor) (group1 : List GTensor) (fold1 : Int) : Nat → Int → GTensor → Option (GTensor × Int)
 | 0, _, _ => none
 | fuel1 + 1, i1, out1 =>
  if decide (i1 < (e3.Vals.length : Int)) then
   m_collective_combine_l2 group1 i1 fold1 out1 (m_collective_combine_l1 e3 group1 fold1 fuel1) fu ([] : List GVal) 0
  else
   some (out1, 0)
def m_collective_combine (fold1 : Int) (group1 : List GTensor) : Option (GTensor × Int) :=
 (lat group1 0).bind fun e1 =>
 (lat group1 0).bind fun e2 =>
 (lapp ([] : List Int) e2.Dims).bind fun zs1 =>
 (lat group1 0).bind fun e3 =>
 m_collective_combine_l1 e3 group1 fold1 fu 0 (⟨e1.Type_, zs1, ([] : List GVal)⟩ : GTensor)
def m_collective_AllReduce_1 (a1 : Int) (group1 : List GTensor) (a3 : Int) : Option (GTensor × Int) :=
 (m_collective_combine a3 group1).bind fun r1 =>
 some (r1.1, r1.2)
def m_collective_AllReduce (m1 : GMesh) (l1 : List GTensor) (axis1 : Int) (fold1 : Int) : Option (List GTensor × Int) :=
 (m_collective_check m1 l1).bind fun r1 =>
 if !decide (r1 = 0) then
  some (([] : List GTensor), r1)
 else
  (m_collective_hasAxis m1 axis1).bind fun r2 =>
  if !r2 then
   some (([] : List GTensor), 23)
  else
   if (decide (fold1 < 1)) || (decide (4 < fold1)) then
    some (([] : List GTensor), 1)
   else
    (m_collective_operation_apply (⟨(fun y_1 y_2 => m_collective_AllReduce_1 y_1 y_2 fold1)⟩ : Gcollective_operation) m1 l1 axis1).bind fun r3 =>
    some (r3.1, r3.2)
def m_shape_Slice (d1 : List Int) (axis1 : Int) (from1 : Int) (to1 : Int) : Option (List Int × Int) :=
 (m_shape_Validate d1).bind fun r1 =>
 if !decide (r1 = 0) then
  some (([] : List Int), r1)
 else
  if (decide (axis1 < 0)) || (decide ((d1.length : Int) ≤ axis1)) then
   some (([] : List Int), 11)
  else
   (gd (!((decide (from1 < 0)) || (decide (to1 ≤ from1)))) (lat d1 axis1)).bind fun e1 =>
   if ((decide (from1 < 0)) || (decide (to1 ≤ from1))) || (decide (e1 < to1)) then
    some (([] : List Int), 12)
   else
    (m_slices_Clone_int_int_o d1).bind fun r2 =>
    if 0 ≤ axis1 ∧ axis1 < (r2.length : Int) then
     some (r2.set (Int.toNat axis1) (wi64 (to1 - from1)), 0)
    else none
def m_tensor_Slice_1 (p1 : List Int) (a2 : Int) (a3 : Int) : Option (List Int) :=
 (lapp ([] : List Int) p1).bind fun zs1 =>
 (lat zs1 a2).bind fun e1 =>
 if 0 ≤ a2 ∧ a2 < (zs1.length : Int) then
  some (zs1.set (Int.toNat a2) (wi64 (e1 + a3)))
 else none
def m_shape_Point_l1 (d1 : List Int) : Nat → Int → Int → (List Int) → Option (List Int × Bool)
 | 0, _, _, _ => none
 | fuel1 + 1, at2, i2, p1 =>
  if decide (0 ≤ i2) then
   (lat d1 i2).bind fun e1 =>
   if e1 ≠ 0 then
    if 0 ≤ i2 ∧ i2 < 6 then
     (lat d1 i2).bind fun e2 =>
     if e2 ≠ 0 then
      (m_shape_Point_l1 d1 fuel1) (wi64 (Int.tdiv at2 e2)) (wi64 (i2 - 1)) ((p1).set (i2).toNat (Int.tmod at2 e1))
     else none
    else none
   else none
  else
   (lupto p1 (d1.length : Int)).bind fun zs1 =>
   (m_slices_Clone_int_int_o zs1).bind fun r2 =>
   some (r2, true)
def m_shape_Point (d1 : List Int) (at1 : Int) : Option (List Int × Bool) :=
 (gd (!(decide (at1 < 0))) (m_shape_Size d1)).bind fun r1 =>
 if (decide (at1 < 0)) || (decide (r1 ≤ at1)) then
  some (([] : List Int), false)
 else
  (some (wi64 ((d1.length : Int) - 1))).bind fun i1 =>
  m_shape_Point_l1 d1 fu at1 i1 (List.replicate 6 (0 : Int))
def m_shape_Offset_l1 (d1 : List Int) (p1 : List Int) : Nat → Int → Int → Option (Int × Bool)
 | 0, _, _ => none
 | fuel1 + 1, at1, i1 =>
  if decide (i1 < (d1.length : Int)) then
   (lat d1 i1).bind fun e1 =>
   (lat p1 i1).bind fun e2 =>
   (gd (!(decide (e2 < 0))) (lat p1 i1)).bind fun e3 =>
   if (decide (e2 < 0)) || (decide (e1 ≤ e3)) then
    some (0, false)
   else
    (lat p1 i1).bind fun e4 =>
    (some (wi64 ((wi64 (at1 * e1)) + e4))).bind fun at2 =>
    (m_shape_Offset_l1 d1 p1 fuel1) at2 (wi64 (i1 + 1))
  else
   some (at1, true)
def m_shape_Offset (d1 : List Int) (p1 : List Int) : Option (Int × Bool) :=
 (m_shape_Validate d1).bind fun r1 =>
 if (!decide (r1 = 0)) || (!decide ((p1.length : Int) = (d1.length : Int))) then
  some (0, false)
 else
  m_shape_Offset_l1 d1 p1 fu 0 0
def m_tensor_gather_l1 (r1 : Int) (dims1 : List Int) (from1 : ((List Int) → Option (List Int))) (t1 : GTensor) : Nat → Int → GTensor → Option GTensor
 | 0, _, _ => none
 | fuel1 + 1, i1, out1 =>
  if decide (i1 < r1) then
   (m_shape_Point dims1 i1).bind fun r2 =>
   (from1 r2.1).bind fun r3 =>
   (m_shape_Offset t1.Dims r3).bind fun r4 =>
   (lat t1.Vals r4.1).bind fun e1 =>
   (lapp out1.Vals ([e1] : List GVal)).bind fun zs1 =>
   (m_tensor_gather_l1 r1 dims1 from1 t1 fuel1) (wi64 (i1 + 1)) (⟨out1.Type_, out1.Dims, zs1⟩ : GTensor)
  else
   some out1
def m_tensor_gather (t1 : GTensor) (dims1 : List Int) (from1 : ((List Int) → Option (List Int))) : Option GTensor :=
 (m_shape_Size dims1).bind fun r1 =>
 m_tensor_gather_l1 r1 dims1 from1 t1 fu 0 (⟨t1.Type_, dims1, ([] : List GVal)⟩ : GTensor)
def m_tensor_Slice (t1 : GTensor) (axis1 : Int) (from1 : Int) (to1 : Int) : Option (GTensor × Int) :=
 (m_tensor_Validate t1).bind fun r1 =>
 if !decide (r1 = 0) then
  some ((⟨(⟨0, 0, 0, 0, 0⟩ : GType), ([] : List Int), ([] : List GVal)⟩ : GTensor), r1)
 else
  (m_shape_Slice t1.Dims axis1 from1 to1).bind fun r2 =>
  if !decide (r2.2 = 0) then
   some ((⟨(⟨0, 0, 0, 0, 0⟩ : GType), ([] : List Int), ([] : List GVal)⟩ : GTensor), r2.2)
  else
   (m_tensor_gather t1 r2.1 (fun y_1 => m_tensor_Slice_1 y_1 axis1 from1)).bind fun r3 =>
   some (r3, 0)
def m_collective_SliceLocal_1 (dev1 : Int) (a1 : List GTensor) (a3 : GMesh) (a5 : List GTensor) (a7 : Int) (a8 : Int) (a9 : Int) : Option (GTensor × Int) :=
 (m_mesh_Coordinates a3 dev1).bind fun r1 =>
 (lat a5 dev1).bind fun e1 =>
 (lat r1.1 a8).bind fun e2 =>
 (lat r1.1 a8).bind fun e3 =>
 (m_tensor_Slice e1 a7 (wi64 (e2 * a9)) (wi64 ((wi64 (e3 + 1)) * a9))).bind fun r2 =>
 some (r2.1, r2.2)
def m_collective_SliceLocal (m1 : GMesh) (l1 : List GTensor) (axis1 : Int) (along1 : Int) : Option (List GTensor × Int) :=
 (m_collective_checkAxes m1 l1 axis1 along1).bind fun r1 =>
 if !decide (r1 = 0) then
  some (([] : List GTensor), r1)
 else
  (lat m1.Dims axis1).bind fun e1 =>
  (lat l1 0).bind fun e2 =>
  (lat e2.Dims along1).bind fun e3 =>
  if e1 ≠ 0 then
   if !decide (Int.tmod e3 e1 = 0) then
    some (([] : List GTensor), 15)
   else
    (lat l1 0).bind fun e4 =>
    (lat e4.Dims along1).bind fun e5 =>
    (m_collective_operation_apply (⟨(fun y_1 y_2 => m_collective_SliceLocal_1 y_1 y_2 m1 l1 along1 axis1 (wi64 (Int.tdiv e5 e1)))⟩ : Gcollective_operation) m1 l1 axis1).bind fun r2 =>
    some (r2.1, r2.2)
  else none
def m_collective_ReduceScatter (m1 : GMesh) (l1 : List GTensor) (axis1 : Int) (along1 : Int) (fold1 : Int) : Option (List GTensor × Int) :=
 (m_collective_AllReduce m1 l1 axis1 fold1).bind fun r1 =>
 if !decide (r1.2 = 0) then
  some (([] : List GTensor), r1.2)
 else
  (m_collective_SliceLocal m1 r1.1 axis1 along1).bind fun r2 =>
  some (r2.1, r2.2)
def m_collective_plain_j1 (self1 : Int → Option Bool) (i1 : Int) : Option Bool :=
 self1 (wi64 (i1 + 1))
def m_collective_plain_l2 (zs1 : List Int) (e1 : Int) (self1 : Int → Option Bool) (i1 : Int) : Nat → Int → Option Bool
 | 0, _ => none
 | fuel2 + 1, i2 =>
  if decide (i2 < (zs1.length : Int)) then
   (lat zs1 i2).bind fun e2 =>
   if (decide (0 ≤ e1)) && (decide (e1 = e2)) then
    some false
   else
    (m_collective_plain_l2 zs1 e1 self1 i1 fuel2) (wi64 (i2 + 1))
  else
   m_collective_plain_j1 self1 i1
def m_collective_plain_l1 (s1 : List Int) : Nat → Int → Option Bool
 | 0, _ => none
 | fuel1 + 1, i1 =>
  if decide (i1 < (s1.length : Int)) then
   (lat s1 i1).bind fun e1 =>
   if decide (e1 < (-1)) then
    some false
   else
    (lupto s1 i1).bind fun zs1 =>
    m_collective_plain_l2 zs1 e1 (m_collective_plain_l1 s1 fuel1) i1 fu 0
  else
   some true
def m_collective_plain (s1 : List Int) : Option Bool :=
 m_collective_plain_l1 s1 fu 0
def m_collective_receiver_l1 (to1 : List Int) (x1 : Int) (from1 : List Int) : Nat → Int → Option Int
 | 0, _ => none
 | fuel1 + 1, i1 =>
  if decide (i1 < (to1.length : Int)) then
   (lat to1 i1).bind fun e1 =>
   (gd (decide (e1 = x1)) (lat from1 i1)).bind fun e2 =>
   if (decide (e1 = x1)) && (decide (e2 = (-1))) then
    some i1
   else
    (m_collective_receiver_l1 to1 x1 from1 fuel1) (wi64 (i1 + 1))
  else
   some (-1)
def m_collective_receiver (from1 : List Int) (to1 : List Int) (x1 : Int) : Option Int :=
 m_collective_receiver_l1 to1 x1 from1 fu 0
def m_collective_Plan_j2 (self1 : (List GTransfer) → Int → Option (List GTransfer)) (i1 : Int) (out3 : List GTransfer) : Option (List GTransfer) :=
 self1 out3 (wi64 (i1 + 1))
def m_collective_Plan_l1 (to1 : List Int) (from1 : List Int) (m1 : List (Int × Bool)) : Nat → (List GTransfer) → Int → Option (List GTransfer)
 | 0, _, _ => none
 | fuel1 + 1, out2, i1 =>
  if decide (i1 < (to1.length : Int)) then
   (lat to1 i1).bind fun e1 =>
   (gd (decide (0 ≤ e1)) (lat from1 i1)).bind fun e2 =>
   if ((decide (0 ≤ e1)) && (!decide (e2 = e1))) && (!((mget m1 i1).getD false)) then
    (lapp out2 ([(⟨4, e1, i1, i1, ([] : List UInt8)⟩ : GTransfer)] : List GTransfer)).bind fun zs1 =>
    m_collective_Plan_j2 (m_collective_Plan_l1 to1 from1 m1 fuel1) i1 zs1
   else
    m_collective_Plan_j2 (m_collective_Plan_l1 to1 from1 m1 fuel1) i1 out2
  else
   some out2
def m_collective_Plan_j1 (to1 : List Int) (from1 : List Int) (out1 : List GTransfer) (m1 : List (Int × Bool)) : Option (List GTransfer) :=
 m_collective_Plan_l1 to1 from1 m1 fu out1 0
def m_collective_Plan_j3 (self2 : (List GTransfer) → Int → (List (Int × Bool)) → Option (List GTransfer)) (i2 : Int) (out5 : List GTransfer) (m3 : List (Int × Bool)) : Option (List GTransfer) :=
 self2 out5 (wi64 (i2 + 1)) m3
def m_collective_Plan_l2 (from1 : List Int) (to1 : List Int) : Nat → (List GTransfer) → Int → (List (Int × Bool)) → Option (List GTransfer)
 | 0, _, _, _ => none
 | fuel2 + 1, out4, i2, m2 =>
  if decide (i2 < (from1.length : Int)) then
   (lat from1 i2).bind fun e3 =>
   (gd (!(decide (e3 < 0))) (lat to1 i2)).bind fun e4 =>
   if (decide (e3 < 0)) || (decide (e4 = e3)) then
    m_collective_Plan_j3 (m_collective_Plan_l2 from1 to1 fuel2) i2 out4 m2
   else
    (m_collective_receiver from1 to1 e3).bind fun r3 =>
    if decide (0 ≤ r3) then
     (lapp out4 ([(⟨3, e3, i2, r3, ([] : List UInt8)⟩ : GTransfer)] : List GTransfer)).bind fun zs2 =>
     m_collective_Plan_j3 (m_collective_Plan_l2 from1 to1 fuel2) i2 zs2 (mput m2 r3 true)
    else
     (lapp out4 ([(⟨1, e3, i2, i2, ([] : List UInt8)⟩ : GTransfer)] : List GTransfer)).bind fun zs3 =>
     m_collective_Plan_j3 (m_collective_Plan_l2 from1 to1 fuel2) i2 zs3 m2
  else
   m_collective_Plan_j1 to1 from1 out4 m2
def m_collective_Plan (from1 : List Int) (to1 : List Int) : Option (List GTransfer) :=
 (gd (!(!decide ((from1.length : Int) = (to1.length : Int)))) (m_collective_plain from1)).bind fun r1 =>
 (gd (!((!decide ((from1.length : Int) = (to1.length : Int))) || (!r1))) (m_collective_plain to1)).bind fun r2 =>
 if ((!decide ((from1.length : Int) = (to1.length : Int))) || (!r1)) || (!r2) then
  some ([] : List GTransfer)
 else
  m_collective_Plan_l2 from1 to1 fu ([] : List GTransfer) 0 ([] : List (Int × Bool))
def m_base_Ints_l1 (a1 : List Int) (b1 : List Int) : Nat → Int → Option Bool
 | 0, _ => none
 | fuel1 + 1, i1 =>
  if decide (i1 < (a1.length : Int)) then
   (lat a1 i1).bind fun e1 =>
   (lat b1 i1).bind fun e2 =>
   if !decide (e1 = e2) then
    some false
   else
    (m_base_Ints_l1 a1 b1 fuel1) (wi64 (i1 + 1))
  else
   some true
def m_base_Ints (a1 : List Int) (b1 : List Int) : Option Bool :=
 if !decide ((a1.length : Int) = (b1.length : Int)) then
  some false
 else
  m_base_Ints_l1 a1 b1 fu 0
def m_base_Vals_l1 (a1 : List GVal) (b1 : List GVal) : Nat → Int → Option Bool
 | 0, _ => none
 | fuel1 + 1, i1 =>
  if decide (i1 < (a1.length : Int)) then
   (lat a1 i1).bind fun e1 =>
   (lat b1 i1).bind fun e2 =>
   if !((decide (e1.N = e2.N)) && (decide (e1.D = e2.D))) then
    some false
   else
    (m_base_Vals_l1 a1 b1 fuel1) (wi64 (i1 + 1))
  else
   some true
def m_base_Vals (a1 : List GVal) (b1 : List GVal) : Option Bool :=
 if !decide ((a1.length : Int) = (b1.length : Int)) then
  some false
 else
  m_base_Vals_l1 a1 b1 fu 0
def m_base_Tensor (a1 : GTensor) (b1 : GTensor) : Option Bool :=
 (gd ((decide (a1.Type_.Kind = b1.Type_.Kind)) && (decide (a1.Type_.Bits = b1.Type_.Bits)) && (decide (a1.Type_.Frac = b1.Type_.Frac)) && (decide (a1.Type_.Round = b1.Type_.Round)) && (decide (a1.Type_.Over = b1.Type_.Over))) (m_base_Ints a1.Dims b1.Dims)).bind fun r1 =>
 (gd (((decide (a1.Type_.Kind = b1.Type_.Kind)) && (decide (a1.Type_.Bits = b1.Type_.Bits)) && (decide (a1.Type_.Frac = b1.Type_.Frac)) && (decide (a1.Type_.Round = b1.Type_.Round)) && (decide (a1.Type_.Over = b1.Type_.Over))) && r1) (m_base_Vals a1.Vals b1.Vals)).bind fun r2 =>
 some ((((decide (a1.Type_.Kind = b1.Type_.Kind)) && (decide (a1.Type_.Bits = b1.Type_.Bits)) && (decide (a1.Type_.Frac = b1.Type_.Frac)) && (decide (a1.Type_.Round = b1.Type_.Round)) && (decide (a1.Type_.Over = b1.Type_.Over))) && r1) && r2)
def m_base_Tensors_l1 (a1 : List GTensor) (b1 : List GTensor) : Nat → Int → Option Bool
 | 0, _ => none
 | fuel1 + 1, i1 =>
  if decide (i1 < (a1.length : Int)) then
   (lat a1 i1).bind fun e1 =>
   (lat b1 i1).bind fun e2 =>
   (m_base_Tensor e1 e2).bind fun r1 =>
   if !r1 then
    some false
   else
    (m_base_Tensors_l1 a1 b1 fuel1) (wi64 (i1 + 1))
  else
   some true
def m_base_Tensors (a1 : List GTensor) (b1 : List GTensor) : Option Bool :=
 if !decide ((a1.length : Int) = (b1.length : Int)) then
  some false
 else
  m_base_Tensors_l1 a1 b1 fu 0
def m_law53_examples : Option Bool :=
 (m_law53_vector ([1, 2] : List Int)).bind fun r1 =>
 (m_law53_vector ([3, 4] : List Int)).bind fun r2 =>
 (m_collective_AllGather (⟨([2] : List Int)⟩ : GMesh) ([r1, r2] : List GTensor) 0 0).bind fun r3 =>
 (m_collective_AllReduce (⟨([2] : List Int)⟩ : GMesh) ([r1, r2] : List GTensor) 0 1).bind fun r4 =>
 (m_collective_ReduceScatter (⟨([2] : List Int)⟩ : GMesh) ([r1, r2] : List GTensor) 0 0 1).bind fun r5 =>
 (m_collective_Plan ([0, (-1)] : List Int) ([(-1), 0] : List Int)).bind fun r6 =>
 if (((decide (r3.2 = 0)) && (decide (r4.2 = 0))) && (decide (r5.2 = 0))) = true then
  (m_law53_vector ([1, 2, 3, 4] : List Int)).bind fun r7 =>
  (m_law53_vector ([1, 2, 3, 4] : List Int)).bind fun r8 =>
  (m_base_Tensors r3.1 ([r7, r8] : List GTensor)).bind fun r9 =>
  if ((((decide (r3.2 = 0)) && (decide (r4.2 = 0))) && (decide (r5.2 = 0))) && r9) = true then
   (m_law53_vector ([4, 6] : List Int)).bind fun r10 =>
   (m_law53_vector ([4, 6] : List Int)).bind fun r11 =>
   (m_base_Tensors r4.1 ([r10, r11] : List GTensor)).bind fun r12 =>
   if (((((decide (r3.2 = 0)) && (decide (r4.2 = 0))) && (decide (r5.2 = 0))) && r9) && r12) = true then
    (m_law53_vector ([4] : List Int)).bind fun r13 =>
    (m_law53_vector ([6] : List Int)).bind fun r14 =>
    (m_base_Tensors r5.1 ([r13, r14] : List GTensor)).bind fun r15 =>
    (gd (((((((decide (r3.2 = 0)) && (decide (r4.2 = 0))) && (decide (r5.2 = 0))) && r9) && r12) && r15) && (decide ((r6.length : Int) = 1))) (lat r6 0)).bind fun e1 =>
    some ((((((((decide (r3.2 = 0)) && (decide (r4.2 = 0))) && (decide (r5.2 = 0))) && r9) && r12) && r15) && (decide ((r6.length : Int) = 1))) && ((decide (e1.Op = 3)) && (decide (e1.Mesh = 0)) && (decide (e1.From = 0)) && (decide (e1.To = 1)) && (decide (e1.Name = ([] : List UInt8)))))
   else none
  else none
 else none
def m_ref51_Validate_l1 (m1 : GMesh) : Nat → Int → Int → Option Int
 | 0, _, _ => none
 | fuel1 + 1, n1, i1 =>
  if decide (i1 < (m1.Dims.length : Int)) then
   (lat m1.Dims i1).bind fun e1 =>
   (gd (!(decide (e1 < 1))) (lat m1.Dims i1)).bind fun e2 =>
   if (decide (e1 < 1)) || (decide (16 < e2)) then
    some 23
   else
    (lat m1.Dims i1).bind fun e3 =>
    (m_ref51_Validate_l1 m1 fuel1) (wi64 (n1 * e3)) (wi64 (i1 + 1))
  else
   if decide (16 < n1) then
    some 23
   else
    some 0
def m_ref51_Validate (m1 : GMesh) : Option Int :=
 if (decide ((m1.Dims.length : Int) < 1)) || (decide (3 < (m1.Dims.length : Int))) then
  some 23
 else
  m_ref51_Validate_l1 m1 fu 1 0
def m_ref51_Devices_l1 (m1 : GMesh) : Nat → Int → Int → Option Int
 | 0, _, _ => none
 | fuel1 + 1, n1, i1 =>
  if decide (i1 < (m1.Dims.length : Int)) then
   (lat m1.Dims i1).bind fun e1 =>
   (m_ref51_Devices_l1 m1 fuel1) (wi64 (n1 * e1)) (wi64 (i1 + 1))
  else
   some n1
def m_ref51_Devices (m1 : GMesh) : Option Int :=
 (m_ref51_Validate m1).bind fun r1 =>
 if !decide (r1 = 0) then
  some 0
 else
  m_ref51_Devices_l1 m1 fu 1 0
def m_base_Type (t1 : GType) : Option Bool :=
 if (decide (t1.Kind = 1)) || (decide (t1.Kind = 3)) then
  some ((((decide (t1.Bits = 0)) && (decide (t1.Frac = 0))) && (decide (t1.Round = 0))) && (decide (t1.Over = 0)))
 else
  some ((((((((decide (t1.Kind = 2)) && (decide (2 ≤ t1.Bits))) && (decide (t1.Bits ≤ 31))) && (decide (0 ≤ t1.Frac))) && (decide (t1.Frac ≤ 30))) && (decide (1 ≤ t1.Round))) && (decide (t1.Round ≤ 4))) && ((decide (t1.Over = 1)) || (decide (t1.Over = 2))))
def m_ref12_Shape_l1 (d1 : List Int) : Nat → Int → Int → Option Int
 | 0, _, _ => none
 | fuel1 + 1, n1, i1 =>
  if decide (i1 < (d1.length : Int)) then
   (lat d1 i1).bind fun e1 =>
   if n1 ≠ 0 then
    if decide (wi64 (Int.tdiv 4096 n1) < e1) then
     some 2
    else
     (lat d1 i1).bind fun e2 =>
     (m_ref12_Shape_l1 d1 fuel1) (wi64 (n1 * e2)) (wi64 (i1 + 1))
   else none
  else
   some 0
def m_ref12_Shape_j1 (d1 : List Int) : Option Int :=
 m_ref12_Shape_l1 d1 fu 1 0
def m_ref12_Shape_l2 (d1 : List Int) : Nat → Int → Option Int
 | 0, _ => none
 | fuel2 + 1, i2 =>
  if decide (i2 < (d1.length : Int)) then
   (lat d1 i2).bind fun e3 =>
   if decide (e3 < 1) then
    some 1
   else
    (m_ref12_Shape_l2 d1 fuel2) (wi64 (i2 + 1))
  else
   m_ref12_Shape_j1 d1
def m_ref12_Shape (d1 : List Int) : Option Int :=
 if decide (6 < (d1.length : Int)) then
  some 2
 else
  m_ref12_Shape_l2 d1 fu 0
def m_ref12_Size_l1 (d1 : List Int) : Nat → Int → Int → Option Int
 | 0, _, _ => none
 | fuel1 + 1, n1, i1 =>
  if decide (i1 < (d1.length : Int)) then
   (lat d1 i1).bind fun e1 =>
   (m_ref12_Size_l1 d1 fuel1) (wi64 (n1 * e1)) (wi64 (i1 + 1))
  else
   some n1
def m_ref12_Size (d1 : List Int) : Option Int :=
 m_ref12_Size_l1 d1 fu 1 0
def m_base_gcd_l1 : Nat → Int → Int → Option Int
 | 0, _, _ => none
 | fuel1 + 1, a2, b2 =>
  if !decide (b2 = 0) then
   if b2 ≠ 0 then
    (m_base_gcd_l1 fuel1) b2 (Int.tmod a2 b2)
   else none
  else
   some a2
def m_base_gcd (a1 : Int) (b1 : Int) : Option Int :=
 m_base_gcd_l1 fu a1 b1
def m_base_Val (t1 : GType) (v1 : GVal) : Option Bool :=
 if decide (t1.Kind = 2) then
  if 0 ≤ (wi64 (t1.Bits - 1)) then
   (some (wi64 (1 * 2 ^ (min (Int.toNat (wi64 (t1.Bits - 1))) 64)))).bind fun half1 =>
   some (((decide (v1.D = 1)) && (decide (wi64 (-half1) ≤ v1.N))) && (decide (v1.N < half1)))
  else none
 else
  if (((decide (2147483647 < v1.N)) || (decide (v1.N < (-2147483647)))) || (decide (v1.D < 1))) || (decide (2147483647 < v1.D)) then
   some false
  else
   if decide (t1.Kind = 3) then
    some (decide (v1.D = 1))
   else
    (m_base_gcd (max v1.N (wi64 (-v1.N))) v1.D).bind fun r1 =>
    some (decide (r1 = 1))
def m_ref12_Validate_l1 (t1 : GTensor) : Nat → Int → Option Int
 | 0, _ => none
 | fuel1 + 1, i1 =>
  if decide (i1 < (t1.Vals.length : Int)) then
   (lat t1.Vals i1).bind fun e1 =>
   (m_base_Val t1.Type_ e1).bind fun r4 =>
   if !r4 then
    some 1
   else
    (m_ref12_Validate_l1 t1 fuel1) (wi64 (i1 + 1))
  else
   some 0
def m_ref12_Validate (t1 : GTensor) : Option Int :=
 (m_base_Type t1.Type_).bind fun r1 =>
 if !r1 then
  some 10
 else
  (m_ref12_Shape t1.Dims).bind fun r2 =>
  if !decide (r2 = 0) then
   some r2
  else
   (m_ref12_Size t1.Dims).bind fun r3 =>
   if !decide ((t1.Vals.length : Int) = r3) then
    some 1
   else
    m_ref12_Validate_l1 t1 fu 0
def m_ref51_Coordinates_l1 (m1 : GMesh) : Nat → Int → (List Int) → Int → Option (List Int × Bool)
 | 0, _, _, _ => none
 | fuel1 + 1, dev2, out1, i2 =>
  if decide (0 ≤ i2) then
   (lat m1.Dims i2).bind fun e1 =>
   if e1 ≠ 0 then
    if 0 ≤ i2 ∧ i2 < (out1.length : Int) then
     (lat m1.Dims i2).bind fun e2 =>
     if e2 ≠ 0 then
      (m_ref51_Coordinates_l1 m1 fuel1) (wi64 (Int.tdiv dev2 e2)) (out1.set (Int.toNat i2) (Int.tmod dev2 e1)) (wi64 (i2 - 1))
     else none
    else none
   else none
  else
   some (out1, true)
def m_ref51_Coordinates (m1 : GMesh) (dev1 : Int) : Option (List Int × Bool) :=
 (gd (!(decide (dev1 < 0))) (m_ref51_Devices m1)).bind fun r1 =>
 if (decide (dev1 < 0)) || (decide (r1 ≤ dev1)) then
  some (([] : List Int), false)
 else
  (lmake 0 (m1.Dims.length : Int) (m1.Dims.length : Int)).bind fun zs1 =>
  (some (wi64 ((m1.Dims.length : Int) - 1))).bind fun i1 =>
  m_ref51_Coordinates_l1 m1 fu dev1 zs1 i1
def m_ref12_Point_l1 (d1 : List Int) : Nat → Int → (List Int) → Int → Option (List Int)
 | 0, _, _, _ => none
 | fuel1 + 1, at2, p1, i2 =>
  if decide (0 ≤ i2) then
   (lat d1 i2).bind fun e1 =>
   if e1 ≠ 0 then
    if 0 ≤ i2 ∧ i2 < (p1.length : Int) then
     (lat d1 i2).bind fun e2 =>
     if e2 ≠ 0 then
      (m_ref12_Point_l1 d1 fuel1) (wi64 (Int.tdiv at2 e2)) (p1.set (Int.toNat i2) (Int.tmod at2 e1)) (wi64 (i2 - 1))
     else none
    else none
   else none
  else
   some p1
def m_ref12_Point (d1 : List Int) (at1 : Int) : Option (List Int) :=
 (lmake 0 (d1.length : Int) (d1.length : Int)).bind fun zs1 =>
 (some (wi64 ((d1.length : Int) - 1))).bind fun i1 =>
 m_ref12_Point_l1 d1 fu at1 zs1 i1
def m_ref12_Offset_l1 (d1 : List Int) (p1 : List Int) : Nat → Int → Int → Option Int
 | 0, _, _ => none
 | fuel1 + 1, n1, i1 =>
  if decide (i1 < (d1.length : Int)) then
   (lat d1 i1).bind fun e1 =>
   (lat p1 i1).bind fun e2 =>
   (m_ref12_Offset_l1 d1 p1 fuel1) (wi64 ((wi64 (n1 * e1)) + e2)) (wi64 (i1 + 1))
  else
   some n1
def m_ref12_Offset (d1 : List Int) (p1 : List Int) : Option Int :=
 m_ref12_Offset_l1 d1 p1 fu 0 0
def m_ref12_Slice_j2 (self1 : Int → GTensor → Option (GTensor × Int)) (i1 : Int) (out3 : GTensor) : Option (GTensor × Int) :=
 self1 (wi64 (i1 + 1)) out3
def m_ref12_Slice_l1 (t1 : GTensor) (axis1 : Int) (from1 : Int) (to1 : Int) : Nat → Int → GTensor → Option (GTensor × Int)
 | 0, _, _ => none
 | fuel1 + 1, i1, out2 =>
  if decide (i1 < (t1.Vals.length : Int)) then
   (m_ref12_Point t1.Dims i1).bind fun r2 =>
   (lat r2 axis1).bind fun e2 =>
   (gd (decide (from1 ≤ e2)) (lat r2 axis1)).bind fun e3 =>
   if (decide (from1 ≤ e2)) && (decide (e3 < to1)) then
    (lat t1.Vals i1).bind fun e4 =>
    (lapp out2.Vals ([e4] : List GVal)).bind fun zs1 =>
    m_ref12_Slice_j2 (m_ref12_Slice_l1 t1 axis1 from1 to1 fuel1) i1 (⟨out2.Type_, out2.Dims, zs1⟩ : GTensor)
   else
    m_ref12_Slice_j2 (m_ref12_Slice_l1 t1 axis1 from1 to1 fuel1) i1 out2
  else
   some (out2, 0)
def m_ref12_Slice_j1 (t1 : GTensor) (axis1 : Int) (from1 : Int) (to1 : Int) (out1 : GTensor) : Option (GTensor × Int) :=
 m_ref12_Slice_l1 t1 axis1 from1 to1 fu 0 out1
def m_ref12_Slice_j3 (self2 : Int → GTensor → Option (GTensor × Int)) (i2 : Int) (out5 : GTensor) : Option (GTensor × Int) :=
 self2 (wi64 (i2 + 1)) out5
def m_ref12_Slice_l2 (t1 : GTensor) (axis1 : Int) (to1 : Int) (from1 : Int) : Nat → Int → GTensor → Option (GTensor × Int)
 | 0, _, _ => none
 | fuel2 + 1, i2, out4 =>
  if decide (i2 < (t1.Dims.length : Int)) then
   if decide (i2 = axis1) then
    (lapp out4.Dims ([wi64 (to1 - from1)] : List Int)).bind fun zs2 =>
    m_ref12_Slice_j3 (m_ref12_Slice_l2 t1 axis1 to1 from1 fuel2) i2 (⟨out4.Type_, zs2, out4.Vals⟩ : GTensor)
   else
    (lat t1.Dims i2).bind fun e5 =>
    (lapp out4.Dims ([e5] : List Int)).bind fun zs3 =>
    m_ref12_Slice_j3 (m_ref12_Slice_l2 t1 axis1 to1 from1 fuel2) i2 (⟨out4.Type_, zs3, out4.Vals⟩ : GTensor)
  else
   m_ref12_Slice_j1 t1 axis1 from1 to1 out4
def m_ref12_Slice (t1 : GTensor) (axis1 : Int) (from1 : Int) (to1 : Int) : Option (GTensor × Int) :=
 (m_ref12_Validate t1).bind fun r1 =>
 if !decide (r1 = 0) then
  some ((⟨(⟨0, 0, 0, 0, 0⟩ : GType), ([] : List Int), ([] : List GVal)⟩ : GTensor), r1)
 else
  if (decide (axis1 < 0)) || (decide ((t1.Dims.length : Int) ≤ axis1)) then
   some ((⟨(⟨0, 0, 0, 0, 0⟩ : GType), ([] : List Int), ([] : List GVal)⟩ : GTensor), 11)
  else
   (gd (!((decide (from1 < 0)) || (decide (to1 ≤ from1)))) (lat t1.Dims axis1)).bind fun e1 =>
   if ((decide (from1 < 0)) || (decide (to1 ≤ from1))) || (decide (e1 < to1)) then
    some ((⟨(⟨0, 0, 0, 0, 0⟩ : GType), ([] : List Int), ([] : List GVal)⟩ : GTensor), 12)
   else
    m_ref12_Slice_l2 t1 axis1 to1 from1 fu 0 (⟨t1.Type_, ([] : List Int), ([] : List GVal)⟩ : GTensor)
def m_collective_AllToAll (m1 : GMesh) (l1 : List GTensor) (axis1 : Int) (from1 : Int) (to1 : Int) : Option (List GTensor × Int) :=
 (m_collective_AllGather m1 l1 axis1 from1).bind fun r1 =>
 if !decide (r1.2 = 0) then
  some (([] : List GTensor), r1.2)
 else
  (m_collective_SliceLocal m1 r1.1 axis1 to1).bind fun r2 =>
  some (r2.1, r2.2)
def m_collective_checkSpec_l1 (s1 : List Int) (m1 : GMesh) : Nat → Int → Option Bool
 | 0, _ => none
 | fuel1 + 1, i1 =>
  if decide (i1 < (s1.length : Int)) then
   (lat s1 i1).bind fun e1 =>
   if decide ((m1.Dims.length : Int) ≤ e1) then
    some false
   else
    (m_collective_checkSpec_l1 s1 m1 fuel1) (wi64 (i1 + 1))
  else
   some true
def m_collective_checkSpec (m1 : GMesh) (rank1 : Int) (s1 : List Int) : Option Bool :=
 (gd (!(!decide ((s1.length : Int) = rank1))) (m_collective_plain s1)).bind fun r1 =>
 if (!decide ((s1.length : Int) = rank1)) || (!r1) then
  some false
 else
  m_collective_checkSpec_l1 s1 m1 fu 0
def m_collective_checkReshard_l1 (to1 : List Int) (whole1 : List Int) (m1 : GMesh) : Nat → Int → Option Int
 | 0, _ => none
 | fuel1 + 1, i1 =>
  if decide (i1 < (to1.length : Int)) then
   (lat to1 i1).bind fun e4 =>
   (gd (decide (0 ≤ e4)) (lat whole1 i1)).bind fun e5 =>
   (gd (decide (0 ≤ e4)) (lat m1.Dims e4)).bind fun e6 =>
   if ((decide (0 ≤ e4)) = true → e6 ≠ 0) then
    if (decide (0 ≤ e4)) && (!decide (Int.tmod e5 e6 = 0)) then
     some 15
    else
     (m_collective_checkReshard_l1 to1 whole1 m1 fuel1) (wi64 (i1 + 1))
   else none
  else
   some 0
def m_collective_checkReshard_j1 (to1 : List Int) (m1 : GMesh) (whole1 : List Int) : Option Int :=
 (m_shape_Validate whole1).bind fun r4 =>
 if !decide (r4 = 0) then
  some r4
 else
  m_collective_checkReshard_l1 to1 whole1 m1 fu 0
def m_collective_checkReshard_j2 (self2 : (List Int) → Int → Option Int) (i2 : Int) (whole3 : List Int) : Option Int :=
 self2 whole3 (wi64 (i2 + 1))
def m_collective_checkReshard_l2 (from1 : List Int) (m1 : GMesh) (to1 : List Int) : Nat → (List Int) → Int → Option Int
 | 0, _, _ => none
 | fuel2 + 1, whole2, i2 =>
  if decide (i2 < (from1.length : Int)) then
   (lat from1 i2).bind fun e7 =>
   if decide (0 ≤ e7) then
    (lat whole2 i2).bind fun e8 =>
    (lat m1.Dims e7).bind fun e9 =>
    if 0 ≤ i2 ∧ i2 < (whole2.length : Int) then
     m_collective_checkReshard_j2 (m_collective_checkReshard_l2 from1 m1 to1 fuel2) i2 (whole2.set (Int.toNat i2) (wi64 (e8 * e9)))
    else none
   else
    m_collective_checkReshard_j2 (m_collective_checkReshard_l2 from1 m1 to1 fuel2) i2 whole2
  else
   m_collective_checkReshard_j1 to1 m1 whole2
def m_collective_checkReshard (m1 : GMesh) (l1 : List GTensor) (from1 : List Int) (to1 : List Int) : Option Int :=
 (m_collective_check m1 l1).bind fun r1 =>
 if !decide (r1 = 0) then
  some r1
 else
  (lat l1 0).bind fun e1 =>
  (m_collective_checkSpec m1 (e1.Dims.length : Int) from1).bind fun r2 =>
  (gd (!(!r2)) (lat l1 0)).bind fun e2 =>
  (gd (!(!r2)) (m_collective_checkSpec m1 (e2.Dims.length : Int) to1)).bind fun r3 =>
  if (!r2) || (!r3) then
   some 24
  else
   (lat l1 0).bind fun e3 =>
   (lapp ([] : List Int) e3.Dims).bind fun zs1 =>
   m_collective_checkReshard_l2 from1 m1 to1 fu zs1 0
def m_tensor_New (t1 : GType) (dims1 : List Int) (vals1 : List GVal) : Option (GTensor × Int) :=
 (lapp ([] : List Int) dims1).bind fun zs1 =>
 (lapp ([] : List GVal) vals1).bind fun zs2 =>
 (m_tensor_Validate (⟨t1, zs1, zs2⟩ : GTensor)).bind fun r1 =>
 if !decide (r1 = 0) then
  some ((⟨(⟨0, 0, 0, 0, 0⟩ : GType), ([] : List Int), ([] : List GVal)⟩ : GTensor), r1)
 else
  some ((⟨t1, zs1, zs2⟩ : GTensor), 0)
def m_collective_Reshard_j2 (self1 : (List GTensor) → Int → Option (List GTensor × Int × Int)) (i1 : Int) (out3 : List GTensor) (e2 : Int) : Option (List GTensor × Int × Int) :=
 if !decide (e2 = 0) then
  some (([] : List GTensor), 0, e2)
 else
  self1 out3 (wi64 (i1 + 1))
def m_collective_Reshard_l1 (r2 : List GTransfer) (m1 : GMesh) : Nat → (List GTensor) → Int → Option (List GTensor × Int × Int)
 | 0, _, _ => none
 | fuel1 + 1, out2, i1 =>
  if decide (i1 < (r2.length : Int)) then
   (lat r2 i1).bind fun e1 =>
   if decide (e1.Op = 3) then
    (m_collective_AllToAll m1 out2 e1.Mesh e1.From e1.To).bind fun r3 =>
    m_collective_Reshard_j2 (m_collective_Reshard_l1 r2 m1 fuel1) i1 r3.1 r3.2
   else
    if decide (e1.Op = 1) then
     (m_collective_AllGather m1 out2 e1.Mesh e1.From).bind fun r4 =>
     m_collective_Reshard_j2 (m_collective_Reshard_l1 r2 m1 fuel1) i1 r4.1 r4.2
    else
     (m_collective_SliceLocal m1 out2 e1.Mesh e1.From).bind fun r5 =>
     m_collective_Reshard_j2 (m_collective_Reshard_l1 r2 m1 fuel1) i1 r5.1 r5.2
  else
   some (out2, (r2.length : Int), 0)
def m_collective_Reshard_j1 (r2 : List GTransfer) (m1 : GMesh) (out1 : List GTensor) : Option (List GTensor × Int × Int) :=
 m_collective_Reshard_l1 r2 m1 fu out1 0
def m_collective_Reshard_l2 (l1 : List GTensor) (r2 : List GTransfer) (m1 : GMesh) : Nat → (List GTensor) → Int → Option (List GTensor × Int × Int)
 | 0, _, _ => none
 | fuel2 + 1, out4, i2 =>
  if decide (i2 < (l1.length : Int)) then
   (lat l1 i2).bind fun e3 =>
   (m_tensor_New e3.Type_ e3.Dims e3.Vals).bind fun r6 =>
   (lapp out4 ([r6.1] : List GTensor)).bind fun zs1 =>
   (m_collective_Reshard_l2 l1 r2 m1 fuel2) zs1 (wi64 (i2 + 1))
  else
   m_collective_Reshard_j1 r2 m1 out4
def m_collective_Reshard (m1 : GMesh) (l1 : List GTensor) (from1 : List Int) (to1 : List Int) : Option (List GTensor × Int × Int) :=
 (m_collective_checkReshard m1 l1 from1 to1).bind fun r1 =>
 if !decide (r1 = 0) then
  some (([] : List GTensor), 0, r1)
 else
  (m_collective_Plan from1 to1).bind fun r2 =>
  m_collective_Reshard_l2 l1 r2 m1 fu ([] : List GTensor) 0
def m_ref53_Plain_j1 (self1 : Int → Option Bool) (i1 : Int) : Option Bool :=
 self1 (wi64 (i1 + 1))
def m_ref53_Plain_j2 (s1 : List Int) (i1 : Int) (self1 : Int → Option Bool) : Option Bool :=
 (lat s1 i1).bind fun e1 =>
 if decide (e1 < (-1)) then
  some false
 else
  m_ref53_Plain_j1 self1 i1
def m_ref53_Plain_l2 (i1 : Int) (s1 : List Int) (self1 : Int → Option Bool) : Nat → Int → Option Bool
 | 0, _ => none
 | fuel2 + 1, k1 =>
  if decide (k1 < i1) then
   (lat s1 k1).bind fun e2 =>
   (lat s1 i1).bind fun e3 =>
   (gd (decide (e2 = e3)) (lat s1 i1)).bind fun e4 =>
   if (decide (e2 = e3)) && (decide (0 ≤ e4)) then
    some false
   else
    (m_ref53_Plain_l2 i1 s1 self1 fuel2) (wi64 (k1 + 1))
  else
   m_ref53_Plain_j2 s1 i1 self1
def m_ref53_Plain_l1 (s1 : List Int) : Nat → Int → Option Bool
 | 0, _ => none
 | fuel1 + 1, i1 =>
  if decide (i1 < (s1.length : Int)) then
   m_ref53_Plain_l2 i1 s1 (m_ref53_Plain_l1 s1 fuel1) fu 0
  else
   some true
def m_ref53_Plain (s1 : List Int) : Option Bool :=
 m_ref53_Plain_l1 s1 fu 0
def m_ref53_Fits_l1 (s1 : List Int) (m1 : GMesh) (dims1 : List Int) : Nat → Int → Option Bool
 | 0, _ => none
 | fuel1 + 1, i1 =>
  if decide (i1 < (s1.length : Int)) then
   (lat s1 i1).bind fun e1 =>
   (gd (!(decide ((m1.Dims.length : Int) ≤ e1))) (lat s1 i1)).bind fun e2 =>
   (gd ((!(decide ((m1.Dims.length : Int) ≤ e1))) && (decide (0 ≤ e2))) (lat dims1 i1)).bind fun e3 =>
   (gd ((!(decide ((m1.Dims.length : Int) ≤ e1))) && (decide (0 ≤ e2))) (lat s1 i1)).bind fun e4 =>
   (gd ((!(decide ((m1.Dims.length : Int) ≤ e1))) && (decide (0 ≤ e2))) (lat m1.Dims e4)).bind fun e5 =>
   if (((!(decide ((m1.Dims.length : Int) ≤ e1))) && (decide (0 ≤ e2))) = true → e5 ≠ 0) then
    if (decide ((m1.Dims.length : Int) ≤ e1)) || ((decide (0 ≤ e2)) && (!decide (Int.tmod e3 e5 = 0))) then
     some false
    else
     (m_ref53_Fits_l1 s1 m1 dims1 fuel1) (wi64 (i1 + 1))
   else none
  else
   some true
def m_ref53_Fits (m1 : GMesh) (dims1 : List Int) (s1 : List Int) : Option Bool :=
 (m_ref51_Validate m1).bind fun r1 =>
 (gd (!(!decide (r1 = 0))) (m_ref12_Shape dims1)).bind fun r2 =>
 (gd (!(((!decide (r1 = 0)) || (!decide (r2 = 0))) || (!decide ((s1.length : Int) = (dims1.length : Int))))) (m_ref53_Plain s1)).bind fun r3 =>
 if (((!decide (r1 = 0)) || (!decide (r2 = 0))) || (!decide ((s1.length : Int) = (dims1.length : Int)))) || (!r3) then
  some false
 else
  m_ref53_Fits_l1 s1 m1 dims1 fu 0
def m_ref53_Blocks_j1 (self1 : (List GTensor) → Int → Option (List GTensor)) (i1 : Int) (out2 : List GTensor) : Option (List GTensor) :=
 self1 out2 (wi64 (i1 + 1))
def m_ref53_Blocks_j2 (out1 : List GTensor) (self1 : (List GTensor) → Int → Option (List GTensor)) (i1 : Int) (b4 : GTensor) : Option (List GTensor) :=
 (lapp out1 ([b4] : List GTensor)).bind fun zs1 =>
 m_ref53_Blocks_j1 self1 i1 zs1
def m_ref53_Blocks_j3 (self2 : Int → GTensor → Option (List GTensor)) (k1 : Int) (b7 : GTensor) : Option (List GTensor) :=
 self2 (wi64 (k1 + 1)) b7
def m_ref53_Blocks_l2 (s1 : List Int) (t1 : GTensor) (m1 : GMesh) (r2 : List Int × Bool) (out1 : List GTensor) (self1 : (List GTensor) → Int → Option (List GTensor)) (i1 : Int) : Nat → Int → GTensor → Option (List GTensor)
 | 0, _, _ => none
 | fuel2 + 1, k1, b6 =>
  if decide (k1 < (s1.length : Int)) then
   (lat s1 k1).bind fun e1 =>
   if decide (0 ≤ e1) then
    (lat t1.Dims k1).bind fun e2 =>
    (lat s1 k1).bind fun e3 =>
    (lat m1.Dims e3).bind fun e4 =>
    if e4 ≠ 0 then
     (lat s1 k1).bind fun e5 =>
     (lat r2.1 e5).bind fun e6 =>
     (lat s1 k1).bind fun e7 =>
     (lat r2.1 e7).bind fun e8 =>
     (m_ref12_Slice b6 k1 (wi64 (e6 * (wi64 (Int.tdiv e2 e4)))) (wi64 ((wi64 (e8 + 1)) * (wi64 (Int.tdiv e2 e4))))).bind fun r3 =>
     m_ref53_Blocks_j3 (m_ref53_Blocks_l2 s1 t1 m1 r2 out1 self1 i1 fuel2) k1 r3.1
    else none
   else
    m_ref53_Blocks_j3 (m_ref53_Blocks_l2 s1 t1 m1 r2 out1 self1 i1 fuel2) k1 b6
  else
   m_ref53_Blocks_j2 out1 self1 i1 b6
def m_ref53_Blocks_l1 (m1 : GMesh) (s1 : List Int) (t1 : GTensor) : Nat → (List GTensor) → Int → Option (List GTensor)
 | 0, _, _ => none
 | fuel1 + 1, out1, i1 =>
  (m_ref51_Devices m1).bind fun r1 =>
  if decide (i1 < r1) then
   (m_ref51_Coordinates m1 i1).bind fun r2 =>
   m_ref53_Blocks_l2 s1 t1 m1 r2 out1 (m_ref53_Blocks_l1 m1 s1 t1 fuel1) i1 fu 0 t1
  else
   some out1
def m_ref53_Blocks (m1 : GMesh) (t1 : GTensor) (s1 : List Int) : Option (List GTensor) :=
 m_ref53_Blocks_l1 m1 s1 t1 fu ([] : List GTensor) 0
def m_law53_CollectiveReshardBlocks (m1 : GMesh) (t1 : GTensor) (from1 : List Int) (to1 : List Int) : Option Bool :=
 (m_law53_small m1 ([t1] : List GTensor)).bind fun r1 =>
 (gd (!(((!r1) || (decide (40 < (from1.length : Int)))) || (decide (40 < (to1.length : Int))))) (m_ref12_Validate t1)).bind fun r2 =>
 if (((!r1) || (decide (40 < (from1.length : Int)))) || (decide (40 < (to1.length : Int)))) || (!decide (r2 = 0)) then
  (m_law53_examples).bind fun r3 =>
  some r3
 else
  (m_ref53_Fits m1 t1.Dims from1).bind fun r4 =>
  (gd (!(!r4)) (m_ref53_Fits m1 t1.Dims to1)).bind fun r5 =>
  if (!r4) || (!r5) then
   (m_law53_examples).bind fun r6 =>
   some r6
  else
   (m_ref53_Blocks m1 t1 from1).bind fun r7 =>
   (m_collective_Reshard m1 r7 from1 to1).bind fun r8 =>
   (gd (decide (r8.2.2 = 0)) (m_ref53_Blocks m1 t1 to1)).bind fun r9 =>
   (gd (decide (r8.2.2 = 0)) (m_base_Tensors r8.1 r9)).bind fun r10 =>
   (gd ((decide (r8.2.2 = 0)) && r10) (m_law53_examples)).bind fun r11 =>
   some (((decide (r8.2.2 = 0)) && r10) && r11)
end Go.Proofs.YtpedfojbfbccaaaGreat
