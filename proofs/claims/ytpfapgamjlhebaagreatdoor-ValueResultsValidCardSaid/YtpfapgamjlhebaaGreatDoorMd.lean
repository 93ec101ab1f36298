/- Plain types and functions: what the Go text computes, printed by a program of my own. -/
import Derived.Test.YtpfapgamjlhebaaGreatDoorXm
namespace Go.Proofs.YtpfapgamjlhebaaGreatDoor
open Go Go.RowKit Go.Vc
set_option linter.unusedVariables false
set_option linter.unusedSimpArgs false

structure GType where
  Kind : Int
  Bits : Int
  Frac : Int
  Round : Int
  Over : Int
deriving Inhabited, DecidableEq
def cGType : Cod GType where
  n := 5
  rel _ _ x cs := cs = [(Value.int .i64 x.Kind), (Value.int .i64 x.Bits), (Value.int .i64 x.Frac), (Value.int .i64 x.Round), (Value.int .i64 x.Over)]
  len h := by subst h; rfl
  one h := by subst h; rfl
  sp _ h := h
structure GVal where
  N : Int
  D : Int
deriving Inhabited, DecidableEq
def cGVal : Cod GVal where
  n := 2
  rel _ _ x cs := cs = [(Value.int .i64 x.N), (Value.int .i64 x.D)]
  len h := by subst h; rfl
  one h := by subst h; rfl
  sp _ h := h
def fnP_k1 (v : Value) (m : (GType → Int → Int → Option (Int × Int))) (D : NP) (w : World) : Prop :=
  isFn v = true ∧ ∀ (D' : NP) (w' : World), Sp D w D' w' → (∀ k, D' k → k < w'.heap.size) → ∀ (x1 : GType) (x2 : Int) (x3 : Int) (r : Int × Int), AllCl [] D' w' → m x1 x2 x3 = some r →
    CallV Tryz.prog v [(Value.agg #[(Value.int .i64 x1.Kind), (Value.int .i64 x1.Bits), (Value.int .i64 x1.Frac), (Value.int .i64 x1.Round), (Value.int .i64 x1.Over)]), (Value.int .i64 x2), (Value.int .i64 x3)] w' fun e w'' => e = .returned (Value.tuple #[(Value.int .i64 r.1), (Value.int .i64 r.2)]) ∧ Ext w' w'' ∧ AllCl [] D' w''
theorem fnP_k1.sp {v : Value} {m : (GType → Int → Int → Option (Int × Int))} {D D' : NP} {w w' : World} (hs : Sp D w D' w') (h : fnP_k1 v m D w) : fnP_k1 v m D' w' := ⟨h.1, fun D'' w'' hs' => h.2 D'' w'' (hs.trans hs')⟩
def clFn_k1 (v : Value) (m : (GType → Int → Int → Option (Int × Int))) : Cl := ⟨fnP_k1 v m, fnP_k1.sp⟩
structure Gfixed_operation where
  run : (GType → Int → Int → Option (Int × Int))
deriving Inhabited
def cGfixed_operation : Cod Gfixed_operation where
  n := 1
  rel D w x cs := ∃ (fv0 : Value), cs = [fv0] ∧ fnP_k1 fv0 x.run D w
  len h := by obtain ⟨_, rfl, _⟩ := h; rfl
  one h := by obtain ⟨fv0, rfl, h0⟩ := h; simpa using isFn.one h0.1
  sp hs h := by obtain ⟨fv0, rfl, h0⟩ := h; exact ⟨_, rfl, fnP_k1.sp hs h0⟩
structure Gs39 where
  e0 : GType
  e1 : GType
deriving Inhabited, DecidableEq
def cGs39 : Cod Gs39 where
  n := 10
  rel _ _ x cs := cs = [(Value.int .i64 x.e0.Kind), (Value.int .i64 x.e0.Bits), (Value.int .i64 x.e0.Frac), (Value.int .i64 x.e0.Round), (Value.int .i64 x.e0.Over), (Value.int .i64 x.e1.Kind), (Value.int .i64 x.e1.Bits), (Value.int .i64 x.e1.Frac), (Value.int .i64 x.e1.Round), (Value.int .i64 x.e1.Over)]
  len h := by subst h; rfl
  one h := by subst h; rfl
  sp _ h := h
structure Gs40 where
  e0 : GVal
  e1 : GVal
deriving Inhabited, DecidableEq
def cGs40 : Cod Gs40 where
  n := 4
  rel _ _ x cs := cs = [(Value.int .i64 x.e0.N), (Value.int .i64 x.e0.D), (Value.int .i64 x.e1.N), (Value.int .i64 x.e1.D)]
  len h := by subst h; rfl
  one h := by subst h; rfl
  sp _ h := h
/- brocade.value.plain -/
def m_value_plain (t1 : GType) : Option Bool :=
  some ((decide (t1.Kind = t1.Kind)) && (decide (t1.Bits = 0)) && (decide (t1.Frac = 0)) && (decide (t1.Round = 0)) && (decide (t1.Over = 0)))

/- brocade.fixed.ValidateType -/
def m_fixed_ValidateType (t1 : GType) : Option Int :=
  (some (((decide (1 ≤ t1.Round)) && (decide (t1.Round ≤ 4))) && ((decide (t1.Over = 1)) || (decide (t1.Over = 2))))).bind fun modes1 =>
  if (((((!decide (t1.Kind = 2)) || (decide (t1.Bits < 2))) || (decide (31 < t1.Bits))) || (decide (t1.Frac < 0))) || (decide (30 < t1.Frac))) || (!modes1) then
    some 10
  else
    some 0

/- brocade.value.ValidateType -/
def m_value_ValidateType_j1 (t1 : GType) (i1 : Bool) : Option Int :=
  if i1 then
    (m_value_plain t1).bind fun r1 =>
    if r1 then
      some 0
    else
      some 10
  else
    if decide (t1.Kind = 2) then
      (m_fixed_ValidateType t1).bind fun r2 =>
      if decide (r2 = 0) then
        some 0
      else
        some 10
    else
      some 10
def m_value_ValidateType (t1 : GType) : Option Int :=
  if decide (t1.Kind = 1) then
    m_value_ValidateType_j1 t1 (decide (t1.Kind = 1))
  else
    m_value_ValidateType_j1 t1 (decide (t1.Kind = 3))

/- brocade.round.valid -/
def m_round_valid (bits1 : Int) : Option Bool :=
  some ((decide (2 ≤ bits1)) && (decide (bits1 ≤ 31)))

/- brocade.round.MinInt -/
def m_round_MinInt (bits1 : Int) : Option Int :=
  (m_round_valid bits1).bind fun r1 =>
  if !r1 then
    some 0
  else
    if 0 ≤ (wu64 (wi64 (bits1 - 1))) then
      some (wi64 (-(wi64 (1 * 2 ^ (min (Int.toNat (wu64 (wi64 (bits1 - 1)))) 64)))))
    else none

/- brocade.round.MaxInt -/
def m_round_MaxInt (bits1 : Int) : Option Int :=
  (m_round_valid bits1).bind fun r1 =>
  if !r1 then
    some 0
  else
    if 0 ≤ (wu64 (wi64 (bits1 - 1))) then
      some (wi64 ((wi64 (1 * 2 ^ (min (Int.toNat (wu64 (wi64 (bits1 - 1)))) 64))) - 1))
    else none

/- brocade.fixed.Valid -/
def m_fixed_Valid (t1 : GType) (v1 : GVal) : Option Bool :=
  (m_fixed_ValidateType t1).bind fun r1 =>
  (gd ((decide (r1 = 0)) && (decide (v1.D = 1))) (m_round_MinInt t1.Bits)).bind fun r2 =>
  (gd (((decide (r1 = 0)) && (decide (v1.D = 1))) && (decide (r2 ≤ v1.N))) (m_round_MaxInt t1.Bits)).bind fun r3 =>
  some ((((decide (r1 = 0)) && (decide (v1.D = 1))) && (decide (r2 ≤ v1.N))) && (decide (v1.N ≤ r3)))

/- brocade.value.One -/
def m_value_One (t1 : GType) : Option (GVal × Int) :=
  (m_value_ValidateType t1).bind fun r1 =>
  if !decide (r1 = 0) then
    some ((⟨0, 0⟩ : GVal), 10)
  else
    if !decide (t1.Kind = 2) then
      some ((⟨1, 1⟩ : GVal), 0)
    else
      if 0 ≤ t1.Frac then
        (m_fixed_Valid t1 (⟨wi64 (1 * 2 ^ (min (Int.toNat t1.Frac) 64)), 1⟩ : GVal)).bind fun r2 =>
        if !r2 then
          some ((⟨0, 0⟩ : GVal), 3)
        else
          some ((⟨wi64 (1 * 2 ^ (min (Int.toNat t1.Frac) 64)), 1⟩ : GVal), 0)
      else none

/- brocade.value.whole -/
def m_value_whole (n1 : Int) : Option Bool :=
  some ((decide ((-2147483647) ≤ n1)) && (decide (n1 ≤ 2147483647)))

/- brocade.frac.inRange -/
def m_frac_inRange (n1 : Int) : Option Bool :=
  some ((decide ((-2147483647) ≤ n1)) && (decide (n1 ≤ 2147483647)))

/- brocade.frac.magnitude -/
def m_frac_magnitude (n1 : Int) : Option Int :=
  if decide (n1 < 0) then
    some (wu64 (-(wu64 n1)))
  else
    some (wu64 n1)

/- brocade.frac.gcd -/
def m_frac_gcd_l1 : Nat → Int → Int → Option Int
  | 0, _, _ => none
  | fuel1 + 1, a2, b2 =>
    if !decide (b2 = 0) then
      if b2 ≠ 0 then
        (m_frac_gcd_l1 fuel1) b2 (Int.tmod a2 b2)
      else none
    else
      some a2
def m_frac_gcd (a1 : Int) (b1 : Int) : Option Int :=
  m_frac_gcd_l1 fu a1 b1

/- brocade.frac.Valid -/
def m_frac_Valid (v1 : GVal) : Option Bool :=
  (gd ((decide (1 ≤ v1.D)) && (decide (v1.D ≤ 2147483647))) (m_frac_inRange v1.N)).bind fun r1 =>
  (gd (((decide (1 ≤ v1.D)) && (decide (v1.D ≤ 2147483647))) && r1) (m_frac_magnitude v1.N)).bind fun r2 =>
  (gd (((decide (1 ≤ v1.D)) && (decide (v1.D ≤ 2147483647))) && r1) (m_frac_gcd r2 (wu64 v1.D))).bind fun r3 =>
  some ((((decide (1 ≤ v1.D)) && (decide (v1.D ≤ 2147483647))) && r1) && (decide (r3 = 1)))

/- brocade.value.Valid -/
def m_value_Valid (t1 : GType) (v1 : GVal) : Option Bool :=
  (m_value_ValidateType t1).bind fun r1 =>
  if !decide (r1 = 0) then
    some false
  else
    if decide (t1.Kind = 2) then
      (m_fixed_Valid t1 v1).bind fun r2 =>
      some r2
    else
      if decide (t1.Kind = 3) then
        (gd (decide (v1.D = 1)) (m_value_whole v1.N)).bind fun r3 =>
        some ((decide (v1.D = 1)) && r3)
      else
        (m_frac_Valid v1).bind fun r4 =>
        some r4

/- brocade.fixed.Neg$1 -/
def m_fixed_Neg_1 (a1 : GType) (x1 : Int) (a2 : Int) : Option (Int × Int) :=
  some (wi64 (-x1), 0)

/- brocade.fixed.check -/
def m_fixed_check_l1 (operands1 : List GVal) (t1 : GType) : Nat → Int → Option Int
  | 0, _ => none
  | fuel1 + 1, i1 =>
    if decide (i1 < (operands1.length : Int)) then
      (lat operands1 i1).bind fun e1 =>
      (m_fixed_Valid t1 e1).bind fun r2 =>
      if !r2 then
        some 1
      else
        (m_fixed_check_l1 operands1 t1 fuel1) (wi64 (i1 + 1))
    else
      some 0
def m_fixed_check (t1 : GType) (operands1 : List GVal) : Option Int :=
  (m_fixed_ValidateType t1).bind fun r1 =>
  if !decide (r1 = 0) then
    some r1
  else
    m_fixed_check_l1 operands1 t1 fu 0

/- brocade.round.Narrow -/
def m_round_Narrow (n1 : Int) (bits1 : Int) (over1 : Int) : Option (Int × Bool) :=
  (m_round_valid bits1).bind fun r1 =>
  if (!r1) || ((!decide (over1 = 1)) && (!decide (over1 = 2))) then
    some (0, false)
  else
    (m_round_MinInt bits1).bind fun r2 =>
    (m_round_MaxInt bits1).bind fun r3 =>
    if (decide (r2 ≤ n1)) && (decide (n1 ≤ r3)) then
      some (n1, false)
    else
      if (decide (over1 = 1)) && (decide (n1 < r2)) then
        some (r2, true)
      else
        if decide (over1 = 1) then
          some (r3, true)
        else
          if 0 ≤ (wu64 (wi64 (64 - bits1))) then
            some (Int.fdiv (wi64 (wu64 ((wu64 n1) * 2 ^ (min (Int.toNat (wu64 (wi64 (64 - bits1)))) 64)))) (2 ^ (min (Int.toNat (wu64 (wi64 (64 - bits1)))) 64)), true)
          else none

/- brocade.fixed.narrow -/
def m_fixed_narrow (t1 : GType) (n1 : Int) : Option GVal :=
  (m_round_Narrow n1 t1.Bits t1.Over).bind fun r1 =>
  some (⟨r1.1, 1⟩ : GVal)

/- brocade.fixed.apply -/
def m_fixed_apply (op1 : Gfixed_operation) (t1 : GType) (a1 : GVal) (b1 : GVal) : Option (GVal × Int) :=
  (m_fixed_check t1 ([a1, b1] : List GVal)).bind fun r1 =>
  if !decide (r1 = 0) then
    some ((⟨0, 0⟩ : GVal), r1)
  else
    (op1.run t1 a1.N b1.N).bind fun r2 =>
    if !decide (r2.2 = 0) then
      some ((⟨0, 0⟩ : GVal), r2.2)
    else
      (m_fixed_narrow t1 r2.1).bind fun r3 =>
      some (r3, 0)

/- brocade.fixed.Neg -/
def m_fixed_Neg (t1 : GType) (a1 : GVal) : Option (GVal × Int) :=
  (m_fixed_apply (⟨m_fixed_Neg_1⟩ : Gfixed_operation) t1 a1 a1).bind fun r1 =>
  some (r1.1, r1.2)

/- brocade.value.negate -/
def m_value_negate (t1 : GType) (a1 : GVal) : Option (GVal × Int) :=
  if decide (t1.Kind = 2) then
    (m_fixed_Neg t1 a1).bind fun r1 =>
    some (r1.1, r1.2)
  else
    some ((⟨wi64 (-a1.N), a1.D⟩ : GVal), 0)

/- brocade.frac.order -/
def m_frac_order (a1 : Int) (b1 : Int) : Option Int :=
  if decide (a1 < b1) then
    some (-1)
  else
    if decide (b1 < a1) then
      some 1
    else
      some 0

/- brocade.frac.Compare -/
def m_frac_Compare (a1 : GVal) (b1 : GVal) : Option Int :=
  (m_frac_Valid a1).bind fun r1 =>
  (gd r1 (m_frac_Valid b1)).bind fun r2 =>
  if r1 && r2 then
    (m_frac_order (wi64 (a1.N * b1.D)) (wi64 (b1.N * a1.D))).bind fun r3 =>
    some r3
  else
    (m_frac_order a1.N b1.N).bind fun r4 =>
    if !decide (r4 = 0) then
      some r4
    else
      (m_frac_order a1.D b1.D).bind fun r5 =>
      some r5

/- brocade.value.Compare -/
def m_value_Compare (t1 : GType) (a1 : GVal) (b1 : GVal) : Option Int :=
  (m_value_Valid t1 a1).bind fun r1 =>
  (gd (!(!r1)) (m_value_Valid t1 b1)).bind fun r2 =>
  if (!r1) || (!r2) then
    some 0
  else
    if decide (t1.Kind = 1) then
      (m_frac_Compare a1 b1).bind fun r3 =>
      some r3
    else
      if decide (a1.N < b1.N) then
        some (-1)
      else
        if decide (b1.N < a1.N) then
          some 1
        else
          some 0

/- brocade.value.integer -/
def m_value_integer_j1 (n1 : Int) : Option (GVal × Int) :=
  (m_value_whole n1).bind fun r1 =>
  if !r1 then
    some ((⟨0, 0⟩ : GVal), 3)
  else
    some ((⟨n1, 1⟩ : GVal), 0)
def m_value_integer (op1 : Int) (a1 : Int) (b1 : Int) : Option (GVal × Int) :=
  if decide (op1 = 4) then
    m_value_integer_j1 (wi64 (a1 + b1))
  else
    if decide (op1 = 5) then
      m_value_integer_j1 (wi64 (a1 - b1))
    else
      if decide (op1 = 6) then
        m_value_integer_j1 (wi64 (a1 * b1))
      else
        if decide (b1 = 0) then
          some ((⟨0, 0⟩ : GVal), 4)
        else
          if b1 ≠ 0 then
            if (!decide (Int.tmod a1 b1 = 0)) && ((decide (a1 < 0)) != (decide (b1 < 0))) then
              (some (wi64 ((wi64 (Int.tdiv a1 b1)) - 1))).bind fun n2 =>
              m_value_integer_j1 n2
            else
              m_value_integer_j1 (wi64 (Int.tdiv a1 b1))
          else none

/- brocade.fixed.Add$1 -/
def m_fixed_Add_1 (a1 : GType) (x1 : Int) (y1 : Int) : Option (Int × Int) :=
  some (wi64 (x1 + y1), 0)

/- brocade.fixed.Add -/
def m_fixed_Add (t1 : GType) (a1 : GVal) (b1 : GVal) : Option (GVal × Int) :=
  (m_fixed_apply (⟨m_fixed_Add_1⟩ : Gfixed_operation) t1 a1 b1).bind fun r1 =>
  some (r1.1, r1.2)

/- brocade.fixed.Sub$1 -/
def m_fixed_Sub_1 (a1 : GType) (x1 : Int) (y1 : Int) : Option (Int × Int) :=
  some (wi64 (x1 - y1), 0)

/- brocade.fixed.Sub -/
def m_fixed_Sub (t1 : GType) (a1 : GVal) (b1 : GVal) : Option (GVal × Int) :=
  (m_fixed_apply (⟨m_fixed_Sub_1⟩ : Gfixed_operation) t1 a1 b1).bind fun r1 =>
  some (r1.1, r1.2)

/- brocade.round.mode -/
def m_round_mode (how1 : Int) : Option Bool :=
  some ((decide (1 ≤ how1)) && (decide (how1 ≤ 4)))

/- brocade.round.magnitude -/
def m_round_magnitude (n1 : Int) : Option Int :=
  if decide (n1 < 0) then
    some (wu64 (-(wu64 n1)))
  else
    some (wu64 n1)

/- brocade.round.rounded -/
def m_round_rounded_j1 (e1 : Int) (how1 : Int) (a1 : Int) (b1 : Int) (self1 : Int → Int → Option Int) (i1 : Int) (i2 : Bool) : Option Int :=
  if i2 then
    some e1
  else
    if (decide (how1 = 4)) && ((decide (wu64 (2 * (Int.tmod a1 b1)) < b1)) || ((decide (wu64 (2 * (Int.tmod a1 b1)) = b1)) && (decide (Int.tmod (wu64 (Int.tdiv a1 b1)) 2 = 0)))) then
      some e1
    else
      self1 e1 (wi64 (i1 + 1))
def m_round_rounded_l1 (a1 : Int) (b1 : Int) (how1 : Int) (negative1 : Bool) : Nat → Int → Int → Option Int
  | 0, _, _ => none
  | fuel1 + 1, m1, i1 =>
    if decide (i1 < 2) then
      (lat ([wu64 (Int.tdiv a1 b1), wu64 ((wu64 (Int.tdiv a1 b1)) + 1)] : List Int) i1).bind fun e1 =>
      if (decide (Int.tmod a1 b1 = 0)) || (decide (how1 = 3)) then
        some e1
      else
        if (decide (how1 = 1)) && (!negative1) then
          m_round_rounded_j1 e1 how1 a1 b1 (m_round_rounded_l1 a1 b1 how1 negative1 fuel1) i1 ((decide (how1 = 1)) && (!negative1))
        else
          m_round_rounded_j1 e1 how1 a1 b1 (m_round_rounded_l1 a1 b1 how1 negative1 fuel1) i1 ((decide (how1 = 2)) && negative1)
    else
      some m1
def m_round_rounded (a1 : Int) (b1 : Int) (negative1 : Bool) (how1 : Int) : Option Int :=
  if b1 ≠ 0 then
    m_round_rounded_l1 a1 b1 how1 negative1 fu (wu64 (Int.tdiv a1 b1)) 0
  else none

/- brocade.round.Divide -/
def m_round_Divide (n1 : Int) (d1 : Int) (how1 : Int) : Option (Int × Int) :=
  (m_round_mode how1).bind fun r1 =>
  if !r1 then
    some (0, 1)
  else
    if decide (d1 = 0) then
      some (0, 4)
    else
      (some ((decide (n1 < 0)) != (decide (d1 < 0)))).bind fun negative1 =>
      (m_round_magnitude n1).bind fun r2 =>
      (m_round_magnitude d1).bind fun r3 =>
      (m_round_rounded r2 r3 negative1 how1).bind fun r4 =>
      if negative1 then
        some (wi64 (wu64 (-r4)), 0)
      else
        if decide (9223372036854775808 ≤ r4) then
          some (0, 3)
        else
          some (wi64 r4, 0)

/- brocade.fixed.Mul$1 -/
def m_fixed_Mul_1 (t1 : GType) (x1 : Int) (y1 : Int) : Option (Int × Int) :=
  if 0 ≤ t1.Frac then
    (m_round_Divide (wi64 (x1 * y1)) (wi64 (1 * 2 ^ (min (Int.toNat t1.Frac) 64))) t1.Round).bind fun r1 =>
    some (r1.1, r1.2)
  else none

/- brocade.fixed.Mul -/
def m_fixed_Mul (t1 : GType) (a1 : GVal) (b1 : GVal) : Option (GVal × Int) :=
  (m_fixed_apply (⟨m_fixed_Mul_1⟩ : Gfixed_operation) t1 a1 b1).bind fun r1 =>
  some (r1.1, r1.2)

/- brocade.fixed.Div$1 -/
def m_fixed_Div_1 (t1 : GType) (x1 : Int) (y1 : Int) : Option (Int × Int) :=
  if 0 ≤ t1.Frac then
    (m_round_Divide (wi64 (x1 * 2 ^ (min (Int.toNat t1.Frac) 64))) y1 t1.Round).bind fun r1 =>
    some (r1.1, r1.2)
  else none

/- brocade.fixed.Div -/
def m_fixed_Div (t1 : GType) (a1 : GVal) (b1 : GVal) : Option (GVal × Int) :=
  (m_fixed_apply (⟨m_fixed_Div_1⟩ : Gfixed_operation) t1 a1 b1).bind fun r1 =>
  some (r1.1, r1.2)

/- brocade.frac.New -/
def m_frac_New (n1 : Int) (d1 : Int) : Option (GVal × Int) :=
  if decide (d1 = 0) then
    some ((⟨0, 0⟩ : GVal), 4)
  else
    (some ((decide (n1 < 0)) != (decide (d1 < 0)))).bind fun negative1 =>
    (m_frac_magnitude n1).bind fun r1 =>
    (m_frac_magnitude d1).bind fun r2 =>
    (m_frac_gcd r1 r2).bind fun r3 =>
    if r3 ≠ 0 then
      if (decide (2147483647 < wu64 (Int.tdiv r1 r3))) || (decide (2147483647 < wu64 (Int.tdiv r2 r3))) then
        some ((⟨0, 0⟩ : GVal), 3)
      else
        if negative1 then
          some ((⟨wi64 (-(wi64 (wu64 (Int.tdiv r1 r3)))), wi64 (wu64 (Int.tdiv r2 r3))⟩ : GVal), 0)
        else
          some ((⟨wi64 (wu64 (Int.tdiv r1 r3)), wi64 (wu64 (Int.tdiv r2 r3))⟩ : GVal), 0)
    else none

/- brocade.frac.Add -/
def m_frac_Add (a1 : GVal) (b1 : GVal) : Option (GVal × Int) :=
  (m_frac_Valid a1).bind fun r1 =>
  (gd (!(!r1)) (m_frac_Valid b1)).bind fun r2 =>
  if (!r1) || (!r2) then
    some ((⟨0, 0⟩ : GVal), 1)
  else
    (m_frac_New (wi64 ((wi64 (a1.N * b1.D)) + (wi64 (b1.N * a1.D)))) (wi64 (a1.D * b1.D))).bind fun r3 =>
    some (r3.1, r3.2)

/- brocade.frac.Sub -/
def m_frac_Sub (a1 : GVal) (b1 : GVal) : Option (GVal × Int) :=
  (m_frac_Valid a1).bind fun r1 =>
  (gd (!(!r1)) (m_frac_Valid b1)).bind fun r2 =>
  if (!r1) || (!r2) then
    some ((⟨0, 0⟩ : GVal), 1)
  else
    (m_frac_New (wi64 ((wi64 (a1.N * b1.D)) - (wi64 (b1.N * a1.D)))) (wi64 (a1.D * b1.D))).bind fun r3 =>
    some (r3.1, r3.2)

/- brocade.frac.Mul -/
def m_frac_Mul (a1 : GVal) (b1 : GVal) : Option (GVal × Int) :=
  (m_frac_Valid a1).bind fun r1 =>
  (gd (!(!r1)) (m_frac_Valid b1)).bind fun r2 =>
  if (!r1) || (!r2) then
    some ((⟨0, 0⟩ : GVal), 1)
  else
    (m_frac_New (wi64 (a1.N * b1.N)) (wi64 (a1.D * b1.D))).bind fun r3 =>
    some (r3.1, r3.2)

/- brocade.frac.Div -/
def m_frac_Div (a1 : GVal) (b1 : GVal) : Option (GVal × Int) :=
  (m_frac_Valid a1).bind fun r1 =>
  (gd (!(!r1)) (m_frac_Valid b1)).bind fun r2 =>
  if (!r1) || (!r2) then
    some ((⟨0, 0⟩ : GVal), 1)
  else
    (m_frac_New (wi64 (a1.N * b1.D)) (wi64 (a1.D * b1.N))).bind fun r3 =>
    some (r3.1, r3.2)

/- brocade.value.arithmetic -/
def m_value_arithmetic (op1 : Int) (t1 : GType) (a1 : GVal) (b1 : GVal) : Option (GVal × Int) :=
  if decide (t1.Kind = 3) then
    (m_value_integer op1 a1.N b1.N).bind fun r1 =>
    some (r1.1, r1.2)
  else
    if (decide (op1 = 4)) && (decide (t1.Kind = 2)) then
      (m_fixed_Add t1 a1 b1).bind fun r2 =>
      some (r2.1, r2.2)
    else
      if (decide (op1 = 5)) && (decide (t1.Kind = 2)) then
        (m_fixed_Sub t1 a1 b1).bind fun r3 =>
        some (r3.1, r3.2)
      else
        if (decide (op1 = 6)) && (decide (t1.Kind = 2)) then
          (m_fixed_Mul t1 a1 b1).bind fun r4 =>
          some (r4.1, r4.2)
        else
          if decide (t1.Kind = 2) then
            (m_fixed_Div t1 a1 b1).bind fun r5 =>
            some (r5.1, r5.2)
          else
            if decide (op1 = 4) then
              (m_frac_Add a1 b1).bind fun r6 =>
              some (r6.1, r6.2)
            else
              if decide (op1 = 5) then
                (m_frac_Sub a1 b1).bind fun r7 =>
                some (r7.1, r7.2)
              else
                if decide (op1 = 6) then
                  (m_frac_Mul a1 b1).bind fun r8 =>
                  some (r8.1, r8.2)
                else
                  (m_frac_Div a1 b1).bind fun r9 =>
                  some (r9.1, r9.2)

/- brocade.value.Apply -/
def m_value_Apply_j1 (t1 : GType) (a1 : GVal) (b1 : GVal) (op1 : Int) (i1 : Bool) : Option (GVal × Int) :=
  if i1 then
    (m_value_Compare t1 a1 b1).bind fun r5 =>
    if ((decide (0 < r5)) == (decide (op1 = 9))) && (!decide (r5 = 0)) then
      some (b1, 0)
    else
      some (a1, 0)
  else
    (m_value_arithmetic op1 t1 a1 b1).bind fun r6 =>
    some (r6.1, r6.2)
def m_value_Apply (op1 : Int) (t1 : GType) (a1 : GVal) (b1 : GVal) : Option (GVal × Int) :=
  if (decide (op1 < 4)) || (decide (10 < op1)) then
    some ((⟨0, 0⟩ : GVal), 1)
  else
    (m_value_ValidateType t1).bind fun r1 =>
    if !decide (r1 = 0) then
      some ((⟨0, 0⟩ : GVal), 10)
    else
      (m_value_Valid t1 a1).bind fun r2 =>
      (gd ((!(!r2)) && (!decide (op1 = 8))) (m_value_Valid t1 b1)).bind fun r3 =>
      if (!r2) || ((!decide (op1 = 8)) && (!r3)) then
        some ((⟨0, 0⟩ : GVal), 1)
      else
        if decide (op1 = 8) then
          (m_value_negate t1 a1).bind fun r4 =>
          some (r4.1, r4.2)
        else
          if decide (op1 = 9) then
            m_value_Apply_j1 t1 a1 b1 op1 (decide (op1 = 9))
          else
            m_value_Apply_j1 t1 a1 b1 op1 (decide (op1 = 10))

/- brocade.fixed.ToFrac -/
def m_fixed_ToFrac (t1 : GType) (v1 : GVal) : Option (GVal × Int) :=
  (m_fixed_check t1 ([v1] : List GVal)).bind fun r1 =>
  if !decide (r1 = 0) then
    some ((⟨0, 0⟩ : GVal), r1)
  else
    if 0 ≤ t1.Frac then
      (m_frac_New v1.N (wi64 (1 * 2 ^ (min (Int.toNat t1.Frac) 64)))).bind fun r2 =>
      some (r2.1, r2.2)
    else none

/- brocade.value.fraction -/
def m_value_fraction (t1 : GType) (v1 : GVal) : Option GVal :=
  if decide (t1.Kind = 2) then
    (m_fixed_ToFrac t1 v1).bind fun r1 =>
    some r1.1
  else
    some v1

/- brocade.frac.Floor -/
def m_frac_Floor (a1 : GVal) : Option Int :=
  (m_frac_Valid a1).bind fun r1 =>
  if !r1 then
    some 0
  else
    if a1.D ≠ 0 then
      (some (wi64 (Int.tdiv a1.N a1.D))).bind fun q1 =>
      if decide (Int.tmod a1.N a1.D < 0) then
        some (wi64 (q1 - 1))
      else
        some q1
    else none

/- brocade.round.Quantize -/
def m_round_Quantize (a1 : GVal) (bits1 : Int) (how1 : Int) : Option (Int × Int) :=
  (m_frac_Valid a1).bind fun r1 =>
  (gd (!(((!r1) || (decide (bits1 < 0))) || (decide (30 < bits1)))) (m_round_mode how1)).bind fun r2 =>
  if (((!r1) || (decide (bits1 < 0))) || (decide (30 < bits1))) || (!r2) then
    some (0, 1)
  else
    if 0 ≤ (wu64 bits1) then
      (m_round_Divide (wi64 (a1.N * 2 ^ (min (Int.toNat (wu64 bits1)) 64))) a1.D how1).bind fun r3 =>
      some (r3.1, r3.2)
    else none

/- brocade.fixed.FromFrac -/
def m_fixed_FromFrac (t1 : GType) (a1 : GVal) : Option (GVal × Int) :=
  (m_fixed_ValidateType t1).bind fun r1 =>
  if !decide (r1 = 0) then
    some ((⟨0, 0⟩ : GVal), r1)
  else
    (m_round_Quantize a1 t1.Frac t1.Round).bind fun r2 =>
    (gd (!(!decide (r2.2 = 0))) (m_frac_Valid a1)).bind fun r3 =>
    if (!decide (r2.2 = 0)) || (!r3) then
      some ((⟨0, 0⟩ : GVal), 1)
    else
      (m_fixed_narrow t1 r2.1).bind fun r4 =>
      some (r4, 0)

/- brocade.value.Cast -/
def m_value_Cast (from1 : GType) (to1 : GType) (v1 : GVal) : Option (GVal × Int) :=
  (m_value_ValidateType from1).bind fun r1 =>
  (gd (!(!decide (r1 = 0))) (m_value_ValidateType to1)).bind fun r2 =>
  if (!decide (r1 = 0)) || (!decide (r2 = 0)) then
    some ((⟨0, 0⟩ : GVal), 10)
  else
    (m_value_Valid from1 v1).bind fun r3 =>
    if !r3 then
      some ((⟨0, 0⟩ : GVal), 1)
    else
      (m_value_fraction from1 v1).bind fun r4 =>
      if decide (to1.Kind = 3) then
        (m_frac_Floor r4).bind fun r5 =>
        some ((⟨r5, 1⟩ : GVal), 0)
      else
        if decide (to1.Kind = 2) then
          (m_fixed_FromFrac to1 r4).bind fun r6 =>
          some (r6.1, r6.2)
        else
          some (r4, 0)

/- brocade.value.operator -/
def m_value_operator_j1 (fold1 : Int) (i1 : Bool) : Option (Int × Bool) :=
  if i1 then
    some (4, true)
  else
    if decide (fold1 = 2) then
      some (6, true)
    else
      if decide (fold1 = 3) then
        some (9, true)
      else
        if decide (fold1 = 4) then
          some (10, true)
        else
          some (0, false)
def m_value_operator (fold1 : Int) : Option (Int × Bool) :=
  if decide (fold1 = 1) then
    m_value_operator_j1 fold1 (decide (fold1 = 1))
  else
    m_value_operator_j1 fold1 (decide (fold1 = 5))

/- brocade.value.Zero -/
def m_value_Zero (t1 : GType) : Option GVal :=
  (m_value_ValidateType t1).bind fun r1 =>
  if !decide (r1 = 0) then
    some (⟨0, 0⟩ : GVal)
  else
    some (⟨0, 1⟩ : GVal)

/- brocade.value.Identity -/
def m_value_Identity_j1 (t1 : GType) (fold1 : Int) (i1 : Bool) : Option (GVal × Bool) :=
  if i1 then
    (m_value_Zero t1).bind fun r2 =>
    some (r2, true)
  else
    if decide (fold1 = 2) then
      (m_value_One t1).bind fun r3 =>
      some (r3.1, decide (r3.2 = 0))
    else
      some ((⟨0, 0⟩ : GVal), false)
def m_value_Identity (fold1 : Int) (t1 : GType) : Option (GVal × Bool) :=
  (m_value_ValidateType t1).bind fun r1 =>
  if !decide (r1 = 0) then
    some ((⟨0, 0⟩ : GVal), false)
  else
    if decide (fold1 = 1) then
      m_value_Identity_j1 t1 fold1 (decide (fold1 = 1))
    else
      m_value_Identity_j1 t1 fold1 (decide (fold1 = 5))

/- brocade.value.Reduce -/
def m_value_Reduce_l1 (zs1 : List GVal) (r1 : Int × Bool) (t1 : GType) : Nat → Int → GVal → Option (GVal × Int)
  | 0, _, _ => none
  | fuel1 + 1, i1, out1 =>
    if decide (i1 < (zs1.length : Int)) then
      (lat zs1 i1).bind fun e2 =>
      (m_value_Apply r1.1 t1 out1 e2).bind fun r4 =>
      if !decide (r4.2 = 0) then
        some ((⟨0, 0⟩ : GVal), r4.2)
      else
        (m_value_Reduce_l1 zs1 r1 t1 fuel1) (wi64 (i1 + 1)) r4.1
    else
      some (out1, 0)
def m_value_Reduce_j1 (l1 : List GVal) (fold1 : Int) (t1 : GType) (r1 : Int × Bool) : Option (GVal × Int) :=
  if decide ((l1.length : Int) = 0) then
    (m_value_Identity fold1 t1).bind fun r3 =>
    if !r3.2 then
      some ((⟨0, 0⟩ : GVal), 1)
    else
      some (r3.1, 0)
  else
    (lat l1 0).bind fun e1 =>
    (lfrom l1 1).bind fun zs1 =>
    m_value_Reduce_l1 zs1 r1 t1 fu 0 e1
def m_value_Reduce_l2 (l1 : List GVal) (t1 : GType) (fold1 : Int) (r1 : Int × Bool) : Nat → Int → Option (GVal × Int)
  | 0, _ => none
  | fuel2 + 1, i2 =>
    if decide (i2 < (l1.length : Int)) then
      (lat l1 i2).bind fun e3 =>
      (m_value_Valid t1 e3).bind fun r5 =>
      if !r5 then
        some ((⟨0, 0⟩ : GVal), 1)
      else
        (m_value_Reduce_l2 l1 t1 fold1 r1 fuel2) (wi64 (i2 + 1))
    else
      m_value_Reduce_j1 l1 fold1 t1 r1
def m_value_Reduce (fold1 : Int) (t1 : GType) (l1 : List GVal) : Option (GVal × Int) :=
  (m_value_operator fold1).bind fun r1 =>
  if !r1.2 then
    some ((⟨0, 0⟩ : GVal), 1)
  else
    (m_value_ValidateType t1).bind fun r2 =>
    if !decide (r2 = 0) then
      some ((⟨0, 0⟩ : GVal), 10)
    else
      m_value_Reduce_l2 l1 t1 fold1 r1 fu 0

/- strconv.FormatInt -/
def m_strconv_FormatInt (i1 : Int) (base1 : Int) : Option (List UInt8) :=
  (m_internal_strconv_FormatInt i1 base1).bind fun r1 =>
  some r1

/- brocade.frac.Format -/
def m_frac_Format (a1 : GVal) : Option (List UInt8) :=
  (m_frac_Valid a1).bind fun r1 =>
  if !r1 then
    some ([] : List UInt8)
  else
    if decide (a1.D = 1) then
      (m_strconv_FormatInt a1.N 10).bind fun r2 =>
      some r2
    else
      (m_strconv_FormatInt a1.N 10).bind fun r3 =>
      (lapp r3 ([47] : List UInt8)).bind fun s1 =>
      (m_strconv_FormatInt a1.D 10).bind fun r4 =>
      (lapp s1 r4).bind fun s2 =>
      some s2

/- brocade.value.Format -/
def m_value_Format (t1 : GType) (v1 : GVal) : Option (List UInt8) :=
  (m_value_Valid t1 v1).bind fun r1 =>
  if !r1 then
    some ([] : List UInt8)
  else
    (m_value_fraction t1 v1).bind fun r2 =>
    (m_frac_Format r2).bind fun r3 =>
    some r3

/- brocade.value.Reorderable -/
def m_value_Reorderable_j2 (t1 : GType) (i2 : Bool) : Option Bool :=
  if i2 then
    some (!decide (t1.Kind = 2))
  else
    some false
def m_value_Reorderable_j1 (fold1 : Int) (t1 : GType) (i1 : Bool) : Option Bool :=
  if i1 then
    some true
  else
    if decide (fold1 = 1) then
      m_value_Reorderable_j2 t1 (decide (fold1 = 1))
    else
      m_value_Reorderable_j2 t1 (decide (fold1 = 2))
def m_value_Reorderable (fold1 : Int) (t1 : GType) : Option Bool :=
  (m_value_ValidateType t1).bind fun r1 =>
  if !decide (r1 = 0) then
    some false
  else
    if decide (fold1 = 3) then
      m_value_Reorderable_j1 fold1 t1 (decide (fold1 = 3))
    else
      m_value_Reorderable_j1 fold1 t1 (decide (fold1 = 4))

/- brocade.brocadelaw04.examples -/
def m_law04_examples : Option Bool :=
  (m_value_One (⟨2, 8, 4, 4, 1⟩ : GType)).bind fun r1 =>
  (m_value_Apply 6 (⟨2, 8, 4, 4, 1⟩ : GType) (⟨24, 1⟩ : GVal) (⟨24, 1⟩ : GVal)).bind fun r2 =>
  (m_value_Apply 4 (⟨2, 8, 4, 4, 1⟩ : GType) (⟨120, 1⟩ : GVal) (⟨20, 1⟩ : GVal)).bind fun r3 =>
  (m_value_Cast (⟨1, 0, 0, 0, 0⟩ : GType) (⟨2, 8, 4, 4, 1⟩ : GType) (⟨1, 3⟩ : GVal)).bind fun r4 =>
  (m_value_Apply 7 (⟨3, 0, 0, 0, 0⟩ : GType) (⟨(-7), 1⟩ : GVal) (⟨2, 1⟩ : GVal)).bind fun r5 =>
  (m_value_Reduce 3 (⟨2, 8, 4, 4, 1⟩ : GType) ([] : List GVal)).bind fun r6 =>
  (gd (((((((((((decide (r1.2 = 0)) && (decide (r1.1.N = 16))) && (decide (r2.2 = 0))) && (decide (r2.1.N = 36))) && (decide (r3.2 = 0))) && (decide (r3.1.N = 127))) && (decide (r4.2 = 0))) && (decide (r4.1.N = 5))) && (decide (r5.2 = 0))) && (decide (r5.1.N = (-4)))) && (decide (r6.2 = 1))) (m_value_Format (⟨2, 8, 4, 4, 1⟩ : GType) (⟨24, 1⟩ : GVal))).bind fun r7 =>
  (gd ((((((((((((decide (r1.2 = 0)) && (decide (r1.1.N = 16))) && (decide (r2.2 = 0))) && (decide (r2.1.N = 36))) && (decide (r3.2 = 0))) && (decide (r3.1.N = 127))) && (decide (r4.2 = 0))) && (decide (r4.1.N = 5))) && (decide (r5.2 = 0))) && (decide (r5.1.N = (-4)))) && (decide (r6.2 = 1))) && (decide (r7 = ([51, 47, 50] : List UInt8)))) (m_value_Reorderable 1 (⟨2, 8, 4, 4, 1⟩ : GType))).bind fun r8 =>
  some (((((((((((((decide (r1.2 = 0)) && (decide (r1.1.N = 16))) && (decide (r2.2 = 0))) && (decide (r2.1.N = 36))) && (decide (r3.2 = 0))) && (decide (r3.1.N = 127))) && (decide (r4.2 = 0))) && (decide (r4.1.N = 5))) && (decide (r5.2 = 0))) && (decide (r5.1.N = (-4)))) && (decide (r6.2 = 1))) && (decide (r7 = ([51, 47, 50] : List UInt8)))) && (!r8))

/- brocade.brocadebase.Type -/
def m_base_Type (t1 : GType) : Option Bool :=
  if (decide (t1.Kind = 1)) || (decide (t1.Kind = 3)) then
    some ((((decide (t1.Bits = 0)) && (decide (t1.Frac = 0))) && (decide (t1.Round = 0))) && (decide (t1.Over = 0)))
  else
    some ((((((((decide (t1.Kind = 2)) && (decide (2 ≤ t1.Bits))) && (decide (t1.Bits ≤ 31))) && (decide (0 ≤ t1.Frac))) && (decide (t1.Frac ≤ 30))) && (decide (1 ≤ t1.Round))) && (decide (t1.Round ≤ 4))) && ((decide (t1.Over = 1)) || (decide (t1.Over = 2))))

/- brocade.brocadebase.gcd -/
def m_base_gcd_l1 : Nat → Int → Int → Option Int
  | 0, _, _ => none
  | fuel1 + 1, a2, b2 =>
    if !decide (b2 = 0) then
      if b2 ≠ 0 then
        (m_base_gcd_l1 fuel1) b2 (Int.tmod a2 b2)
      else none
    else
      some a2
def m_base_gcd (a1 : Int) (b1 : Int) : Option Int :=
  m_base_gcd_l1 fu a1 b1

/- brocade.brocadebase.Val -/
def m_base_Val (t1 : GType) (v1 : GVal) : Option Bool :=
  if decide (t1.Kind = 2) then
    if 0 ≤ (wi64 (t1.Bits - 1)) then
      (some (wi64 (1 * 2 ^ (min (Int.toNat (wi64 (t1.Bits - 1))) 64)))).bind fun half1 =>
      some (((decide (v1.D = 1)) && (decide (wi64 (-half1) ≤ v1.N))) && (decide (v1.N < half1)))
    else none
  else
    if (((decide (2147483647 < v1.N)) || (decide (v1.N < (-2147483647)))) || (decide (v1.D < 1))) || (decide (2147483647 < v1.D)) then
      some false
    else
      if decide (t1.Kind = 3) then
        some (decide (v1.D = 1))
      else
        (m_base_gcd (max v1.N (wi64 (-v1.N))) v1.D).bind fun r1 =>
        some (decide (r1 = 1))

/- brocade.brocaderef04.Zero -/
def m_ref04_Zero (t1 : GType) : Option GVal :=
  (m_base_Type t1).bind fun r1 =>
  if !r1 then
    some (⟨0, 0⟩ : GVal)
  else
    some (⟨0, 1⟩ : GVal)

/- brocade.brocaderef04.step -/
def m_ref04_step (t1 : GType) : Option Int :=
  if 0 ≤ (wu64 t1.Frac) then
    some (wi64 (1 * 2 ^ (min (Int.toNat (wu64 t1.Frac)) 64)))
  else none

/- brocade.brocaderef04.One -/
def m_ref04_One_j1 (t1 : GType) (v1 : GVal) : Option (GVal × Int) :=
  (m_base_Val t1 v1).bind fun r2 =>
  if !r2 then
    some ((⟨0, 0⟩ : GVal), 3)
  else
    some (v1, 0)
def m_ref04_One (t1 : GType) : Option (GVal × Int) :=
  (m_base_Type t1).bind fun r1 =>
  if !r1 then
    some ((⟨0, 0⟩ : GVal), 10)
  else
    if decide (t1.Kind = 2) then
      (m_ref04_step t1).bind fun r3 =>
      m_ref04_One_j1 t1 (⟨r3, 1⟩ : GVal)
    else
      m_ref04_One_j1 t1 (⟨1, 1⟩ : GVal)

/- brocade.brocaderef04.Identity -/
def m_ref04_Identity (fold1 : Int) (t1 : GType) : Option (GVal × Bool) :=
  (m_base_Type t1).bind fun r1 =>
  if r1 && ((decide (fold1 = 1)) || (decide (fold1 = 5))) then
    (m_ref04_Zero t1).bind fun r2 =>
    some (r2, true)
  else
    if decide (fold1 = 2) then
      (m_ref04_One t1).bind fun r3 =>
      some (r3.1, decide (r3.2 = 0))
    else
      some ((⟨0, 0⟩ : GVal), false)

/- brocade.brocaderef04.Operator -/
def m_ref04_Operator (fold1 : Int) : Option Int :=
  if decide (fold1 = 2) then
    some 6
  else
    if decide (fold1 = 3) then
      some 9
    else
      if decide (fold1 = 4) then
        some 10
      else
        some 4

/- brocade.brocaderef04.Valid -/
def m_ref04_Valid (t1 : GType) (v1 : GVal) : Option Bool :=
  (m_base_Type t1).bind fun r1 =>
  (gd r1 (m_base_Val t1 v1)).bind fun r2 =>
  some (r1 && r2)

/- brocade.brocaderef01.Valid -/
def m_ref01_Valid (v1 : GVal) : Option Bool :=
  (m_base_Val (⟨1, 0, 0, 0, 0⟩ : GType) v1).bind fun r1 =>
  some r1

/- brocade.brocaderef01.order -/
def m_ref01_order (a1 : Int) (b1 : Int) : Option Int :=
  if decide (a1 < b1) then
    some (-1)
  else
    if decide (b1 < a1) then
      some 1
    else
      some 0

/- brocade.brocaderef01.Compare -/
def m_ref01_Compare (a1 : GVal) (b1 : GVal) : Option Int :=
  (m_ref01_Valid a1).bind fun r1 =>
  (gd r1 (m_ref01_Valid b1)).bind fun r2 =>
  if r1 && r2 then
    (m_ref01_order (wi64 (a1.N * b1.D)) (wi64 (b1.N * a1.D))).bind fun r3 =>
    some r3
  else
    if !decide (a1.N = b1.N) then
      (m_ref01_order a1.N b1.N).bind fun r4 =>
      some r4
    else
      (m_ref01_order a1.D b1.D).bind fun r5 =>
      some r5

/- brocade.brocaderef04.Compare -/
def m_ref04_Compare (t1 : GType) (a1 : GVal) (b1 : GVal) : Option Int :=
  (m_ref04_Valid t1 a1).bind fun r1 =>
  (gd (!(!r1)) (m_ref04_Valid t1 b1)).bind fun r2 =>
  if (!r1) || (!r2) then
    some 0
  else
    (m_ref01_Compare a1 b1).bind fun r3 =>
    some r3

/- brocade.brocaderef04.floor -/
def m_ref04_floor (n1 : Int) (d1 : Int) : Option Int :=
  if d1 ≠ 0 then
    if decide (n1 < wi64 ((wi64 (Int.tdiv n1 d1)) * d1)) then
      some (wi64 ((wi64 (Int.tdiv n1 d1)) - 1))
    else
      some (wi64 (Int.tdiv n1 d1))
  else none

/- brocade.brocaderef04.fit -/
def m_ref04_fit_j1 (half1 : Int) (n2 : Int) : Option GVal :=
  some (⟨max (wi64 (-half1)) (min (wi64 (half1 - 1)) n2), 1⟩ : GVal)
def m_ref04_fit (t1 : GType) (n1 : Int) : Option GVal :=
  if 0 ≤ (wu64 (wi64 (t1.Bits - 1))) then
    (some (wi64 (1 * 2 ^ (min (Int.toNat (wu64 (wi64 (t1.Bits - 1)))) 64)))).bind fun half1 =>
    if decide (t1.Over = 2) then
      (m_ref04_floor (wi64 (n1 + half1)) (wi64 (2 * half1))).bind fun r1 =>
      (some (wi64 (n1 - (wi64 ((wi64 (r1 * 2)) * half1))))).bind fun n3 =>
      m_ref04_fit_j1 half1 n3
    else
      m_ref04_fit_j1 half1 n1
  else none

/- brocade.brocaderef04.round -/
def m_ref04_round (n1 : Int) (d1 : Int) (how1 : Int) : Option Int :=
  (m_ref04_floor n1 d1).bind fun r1 =>
  (some (wi64 (n1 - (wi64 (r1 * d1))))).bind fun rest1 =>
  if (decide (rest1 = 0)) || (decide (how1 = 1)) then
    some r1
  else
    if decide (how1 = 2) then
      some (wi64 (r1 + 1))
    else
      if decide (how1 = 3) then
        if decide (n1 < 0) then
          some (wi64 (r1 + 1))
        else
          some r1
      else
        if (decide (wi64 (d1 - rest1) < rest1)) || ((decide (rest1 = wi64 (d1 - rest1))) && (!decide (Int.tmod r1 2 = 0))) then
          some (wi64 (r1 + 1))
        else
          some r1

/- brocade.brocaderef04.fix -/
def m_ref04_fix_j1 (t1 : GType) (a2 : Int) (b4 : Int) : Option (GVal × Int) :=
  (m_ref04_step t1).bind fun r7 =>
  (m_ref04_round (wi64 (a2 * r7)) b4 t1.Round).bind fun r8 =>
  (m_ref04_fit t1 r8).bind fun r9 =>
  some (r9, 0)
def m_ref04_fix (op1 : Int) (t1 : GType) (a1 : Int) (b1 : Int) : Option (GVal × Int) :=
  if decide (op1 = 4) then
    (m_ref04_fit t1 (wi64 (a1 + b1))).bind fun r1 =>
    some (r1, 0)
  else
    if decide (op1 = 5) then
      (m_ref04_fit t1 (wi64 (a1 - b1))).bind fun r2 =>
      some (r2, 0)
    else
      if decide (op1 = 6) then
        (m_ref04_step t1).bind fun r3 =>
        (m_ref04_round (wi64 (a1 * b1)) r3 t1.Round).bind fun r4 =>
        (m_ref04_fit t1 r4).bind fun r5 =>
        some (r5, 0)
      else
        if decide (op1 = 8) then
          (m_ref04_fit t1 (wi64 (-a1))).bind fun r6 =>
          some (r6, 0)
        else
          if decide (b1 = 0) then
            some ((⟨0, 0⟩ : GVal), 4)
          else
            if decide (b1 < 0) then
              m_ref04_fix_j1 t1 (wi64 (-a1)) (wi64 (-b1))
            else
              m_ref04_fix_j1 t1 a1 b1

/- brocade.brocaderef04.whole -/
def m_ref04_whole_j1 (n1 : Int) : Option (GVal × Int) :=
  if (decide (2147483647 < n1)) || (decide (n1 < (-2147483647))) then
    some ((⟨0, 0⟩ : GVal), 3)
  else
    some ((⟨n1, 1⟩ : GVal), 0)
def m_ref04_whole (op1 : Int) (a1 : Int) (b1 : Int) : Option (GVal × Int) :=
  if decide (op1 = 4) then
    m_ref04_whole_j1 (wi64 (a1 + b1))
  else
    if decide (op1 = 5) then
      m_ref04_whole_j1 (wi64 (a1 - b1))
    else
      if decide (op1 = 6) then
        m_ref04_whole_j1 (wi64 (a1 * b1))
      else
        if decide (op1 = 7) then
          if decide (b1 = 0) then
            some ((⟨0, 0⟩ : GVal), 4)
          else
            if decide (b1 < 0) then
              (m_ref04_floor (wi64 (-a1)) (wi64 (-b1))).bind fun r1 =>
              m_ref04_whole_j1 r1
            else
              (m_ref04_floor a1 b1).bind fun r2 =>
              m_ref04_whole_j1 r2
        else
          m_ref04_whole_j1 (wi64 (-a1))

/- brocade.brocaderef01.size -/
def m_ref01_size (n1 : Int) : Option Int :=
  if decide (n1 < 0) then
    some (wu64 ((wu64 (wi64 (-(wi64 (n1 + 1))))) + 1))
  else
    some (wu64 n1)

/- brocade.brocaderef01.gcd -/
def m_ref01_gcd_l1 : Nat → Int → Int → Option Int
  | 0, _, _ => none
  | fuel1 + 1, a2, b2 =>
    if !decide (b2 = 0) then
      if b2 ≠ 0 then
        (m_ref01_gcd_l1 fuel1) b2 (Int.tmod a2 b2)
      else none
    else
      some a2
def m_ref01_gcd (a1 : Int) (b1 : Int) : Option Int :=
  m_ref01_gcd_l1 fu a1 b1

/- brocade.brocaderef01.made -/
def m_ref01_made (minus1 : Bool) (n1 : Int) (d1 : Int) : Option (GVal × Int) :=
  (m_ref01_gcd n1 d1).bind fun r1 =>
  if r1 ≠ 0 then
    if (decide (2147483647 < wu64 (Int.tdiv n1 r1))) || (decide (2147483647 < wu64 (Int.tdiv d1 r1))) then
      some ((⟨0, 0⟩ : GVal), 3)
    else
      if minus1 then
        some ((⟨wi64 (-(wi64 (wu64 (Int.tdiv n1 r1)))), wi64 (wu64 (Int.tdiv d1 r1))⟩ : GVal), 0)
      else
        some ((⟨wi64 (wu64 (Int.tdiv n1 r1)), wi64 (wu64 (Int.tdiv d1 r1))⟩ : GVal), 0)
  else none

/- brocade.brocaderef01.New -/
def m_ref01_New (n1 : Int) (d1 : Int) : Option (GVal × Int) :=
  if decide (d1 = 0) then
    some ((⟨0, 0⟩ : GVal), 4)
  else
    (m_ref01_size n1).bind fun r1 =>
    (m_ref01_size d1).bind fun r2 =>
    (m_ref01_made ((decide (n1 < 0)) != (decide (d1 < 0))) r1 r2).bind fun r3 =>
    some (r3.1, r3.2)

/- brocade.brocaderef01.Add -/
def m_ref01_Add (a1 : GVal) (b1 : GVal) : Option (GVal × Int) :=
  (m_ref01_Valid a1).bind fun r1 =>
  (gd (!(!r1)) (m_ref01_Valid b1)).bind fun r2 =>
  if (!r1) || (!r2) then
    some ((⟨0, 0⟩ : GVal), 1)
  else
    (m_ref01_New (wi64 ((wi64 (a1.N * b1.D)) + (wi64 (b1.N * a1.D)))) (wi64 (a1.D * b1.D))).bind fun r3 =>
    some (r3.1, r3.2)

/- brocade.brocaderef01.Sub -/
def m_ref01_Sub (a1 : GVal) (b1 : GVal) : Option (GVal × Int) :=
  (m_ref01_Valid a1).bind fun r1 =>
  (gd (!(!r1)) (m_ref01_Valid b1)).bind fun r2 =>
  if (!r1) || (!r2) then
    some ((⟨0, 0⟩ : GVal), 1)
  else
    (m_ref01_New (wi64 ((wi64 (a1.N * b1.D)) - (wi64 (b1.N * a1.D)))) (wi64 (a1.D * b1.D))).bind fun r3 =>
    some (r3.1, r3.2)

/- brocade.brocaderef01.Mul -/
def m_ref01_Mul (a1 : GVal) (b1 : GVal) : Option (GVal × Int) :=
  (m_ref01_Valid a1).bind fun r1 =>
  (gd (!(!r1)) (m_ref01_Valid b1)).bind fun r2 =>
  if (!r1) || (!r2) then
    some ((⟨0, 0⟩ : GVal), 1)
  else
    (m_ref01_New (wi64 (a1.N * b1.N)) (wi64 (a1.D * b1.D))).bind fun r3 =>
    some (r3.1, r3.2)

/- brocade.brocaderef01.Div -/
def m_ref01_Div (a1 : GVal) (b1 : GVal) : Option (GVal × Int) :=
  (m_ref01_Valid a1).bind fun r1 =>
  (gd (!(!r1)) (m_ref01_Valid b1)).bind fun r2 =>
  if (!r1) || (!r2) then
    some ((⟨0, 0⟩ : GVal), 1)
  else
    (m_ref01_New (wi64 (a1.N * b1.D)) (wi64 (a1.D * b1.N))).bind fun r3 =>
    some (r3.1, r3.2)

/- brocade.brocaderef01.Neg -/
def m_ref01_Neg (a1 : GVal) : Option GVal :=
  (m_ref01_Valid a1).bind fun r1 =>
  if !r1 then
    some (⟨0, 0⟩ : GVal)
  else
    some (⟨wi64 (-a1.N), a1.D⟩ : GVal)

/- brocade.brocaderef04.Apply -/
def m_ref04_Apply (op1 : Int) (t1 : GType) (a1 : GVal) (b1 : GVal) : Option (GVal × Int) :=
  if (decide (op1 < 4)) || (decide (10 < op1)) then
    some ((⟨0, 0⟩ : GVal), 1)
  else
    (m_base_Type t1).bind fun r1 =>
    if !r1 then
      some ((⟨0, 0⟩ : GVal), 10)
    else
      (m_base_Val t1 a1).bind fun r2 =>
      (gd ((!(!r2)) && (!decide (op1 = 8))) (m_base_Val t1 b1)).bind fun r3 =>
      if (!r2) || ((!decide (op1 = 8)) && (!r3)) then
        some ((⟨0, 0⟩ : GVal), 1)
      else
        if (decide (op1 = 9)) || (decide (op1 = 10)) then
          (m_ref04_Compare t1 a1 b1).bind fun r4 =>
          if (decide (0 < r4)) == (decide (op1 = 9)) then
            some (b1, 0)
          else
            some (a1, 0)
        else
          if decide (t1.Kind = 2) then
            (m_ref04_fix op1 t1 a1.N b1.N).bind fun r5 =>
            some (r5.1, r5.2)
          else
            if decide (t1.Kind = 3) then
              (m_ref04_whole op1 a1.N b1.N).bind fun r6 =>
              some (r6.1, r6.2)
            else
              if decide (op1 = 4) then
                (m_ref01_Add a1 b1).bind fun r7 =>
                some (r7.1, r7.2)
              else
                if decide (op1 = 5) then
                  (m_ref01_Sub a1 b1).bind fun r8 =>
                  some (r8.1, r8.2)
                else
                  if decide (op1 = 6) then
                    (m_ref01_Mul a1 b1).bind fun r9 =>
                    some (r9.1, r9.2)
                  else
                    if decide (op1 = 7) then
                      (m_ref01_Div a1 b1).bind fun r10 =>
                      some (r10.1, r10.2)
                    else
                      (m_ref01_Neg a1).bind fun r11 =>
                      some (r11, 0)

/- brocade.brocaderef04.Reduce -/
def m_ref04_Reduce_l1 (l1 : List GVal) (fold1 : Int) (t1 : GType) : Nat → Int → Int → GVal → Option (GVal × Int)
  | 0, _, _, _ => none
  | fuel1 + 1, e2, i1, v1 =>
    if (decide (i1 < (l1.length : Int))) && (decide (e2 = 0)) then
      (lat l1 i1).bind fun e3 =>
      (m_ref04_Operator fold1).bind fun r3 =>
      (m_ref04_Apply r3 t1 v1 e3).bind fun r4 =>
      (m_ref04_Reduce_l1 l1 fold1 t1 fuel1) r4.2 (wi64 (i1 + 1)) r4.1
    else
      some (v1, e2)
def m_ref04_Reduce_j1 (l1 : List GVal) (fold1 : Int) (t1 : GType) : Option (GVal × Int) :=
  if decide ((l1.length : Int) = 0) then
    (m_ref04_Identity fold1 t1).bind fun r2 =>
    if !r2.2 then
      some ((⟨0, 0⟩ : GVal), 1)
    else
      some (r2.1, 0)
  else
    (lat l1 0).bind fun e1 =>
    m_ref04_Reduce_l1 l1 fold1 t1 fu 0 1 e1
def m_ref04_Reduce_l2 (l1 : List GVal) (t1 : GType) (fold1 : Int) : Nat → Int → Option (GVal × Int)
  | 0, _ => none
  | fuel2 + 1, i2 =>
    if decide (i2 < (l1.length : Int)) then
      (lat l1 i2).bind fun e4 =>
      (m_base_Val t1 e4).bind fun r5 =>
      if !r5 then
        some ((⟨0, 0⟩ : GVal), 1)
      else
        (m_ref04_Reduce_l2 l1 t1 fold1 fuel2) (wi64 (i2 + 1))
    else
      m_ref04_Reduce_j1 l1 fold1 t1
def m_ref04_Reduce (fold1 : Int) (t1 : GType) (l1 : List GVal) : Option (GVal × Int) :=
  if (decide (fold1 < 1)) || (decide (5 < fold1)) then
    some ((⟨0, 0⟩ : GVal), 1)
  else
    (m_base_Type t1).bind fun r1 =>
    if !r1 then
      some ((⟨0, 0⟩ : GVal), 10)
    else
      m_ref04_Reduce_l2 l1 t1 fold1 fu 0

/- brocade.brocaderef04.Reorderable -/
def m_ref04_Reorderable (fold1 : Int) (t1 : GType) : Option Bool :=
  (m_base_Type t1).bind fun r1 =>
  if !r1 then
    some false
  else
    some (((decide (fold1 = 3)) || (decide (fold1 = 4))) || ((!decide (t1.Kind = 2)) && ((decide (fold1 = 1)) || (decide (fold1 = 2)))))

/- brocade.brocadelaw04.ValueReduce -/
def m_law04_ValueReduce_j1 (fold1 : Int) (t1 : GType) (l1 : List GVal) : Option Bool :=
  (m_value_Reduce fold1 t1 l1).bind fun r2 =>
  (m_ref04_Reduce fold1 t1 l1).bind fun r3 =>
  (m_value_Identity fold1 t1).bind fun r4 =>
  (m_ref04_Identity fold1 t1).bind fun r5 =>
  (gd (((((decide (r2.1.N = r3.1.N)) && (decide (r2.1.D = r3.1.D))) && (decide (r2.2 = r3.2))) && ((decide (r4.1.N = r5.1.N)) && (decide (r4.1.D = r5.1.D)))) && (r4.2 == r5.2)) (m_value_Reorderable fold1 t1)).bind fun r6 =>
  (gd (((((decide (r2.1.N = r3.1.N)) && (decide (r2.1.D = r3.1.D))) && (decide (r2.2 = r3.2))) && ((decide (r4.1.N = r5.1.N)) && (decide (r4.1.D = r5.1.D)))) && (r4.2 == r5.2)) (m_ref04_Reorderable fold1 t1)).bind fun r7 =>
  (gd ((((((decide (r2.1.N = r3.1.N)) && (decide (r2.1.D = r3.1.D))) && (decide (r2.2 = r3.2))) && ((decide (r4.1.N = r5.1.N)) && (decide (r4.1.D = r5.1.D)))) && (r4.2 == r5.2)) && (r6 == r7)) (m_law04_examples)).bind fun r8 =>
  some (((((((decide (r2.1.N = r3.1.N)) && (decide (r2.1.D = r3.1.D))) && (decide (r2.2 = r3.2))) && ((decide (r4.1.N = r5.1.N)) && (decide (r4.1.D = r5.1.D)))) && (r4.2 == r5.2)) && (r6 == r7)) && r8)
def m_law04_ValueReduce_l1 (t1 : GType) (l1 : List GVal) (fold1 : Int) : Nat → Int → Option Bool
  | 0, _ => none
  | fuel1 + 1, k1 =>
    if decide (k1 ≤ 5) then
      (m_value_Reduce k1 t1 l1).bind fun r9 =>
      (m_ref04_Reduce k1 t1 l1).bind fun r10 =>
      (m_value_Identity k1 t1).bind fun r11 =>
      (m_ref04_Identity k1 t1).bind fun r12 =>
      (gd (!((((!((decide (r9.1.N = r10.1.N)) && (decide (r9.1.D = r10.1.D)))) || (!decide (r9.2 = r10.2))) || (!((decide (r11.1.N = r12.1.N)) && (decide (r11.1.D = r12.1.D))))) || (r11.2 != r12.2))) (m_value_Reorderable k1 t1)).bind fun r13 =>
      (gd (!((((!((decide (r9.1.N = r10.1.N)) && (decide (r9.1.D = r10.1.D)))) || (!decide (r9.2 = r10.2))) || (!((decide (r11.1.N = r12.1.N)) && (decide (r11.1.D = r12.1.D))))) || (r11.2 != r12.2))) (m_ref04_Reorderable k1 t1)).bind fun r14 =>
      if ((((!((decide (r9.1.N = r10.1.N)) && (decide (r9.1.D = r10.1.D)))) || (!decide (r9.2 = r10.2))) || (!((decide (r11.1.N = r12.1.N)) && (decide (r11.1.D = r12.1.D))))) || (r11.2 != r12.2)) || (r13 != r14) then
        some false
      else
        (m_law04_ValueReduce_l1 t1 l1 fold1 fuel1) (wi64 (k1 + 1))
    else
      m_law04_ValueReduce_j1 fold1 t1 l1
def m_law04_ValueReduce (fold1 : Int) (t1 : GType) (l1 : List GVal) : Option Bool :=
  if decide (60 < (l1.length : Int)) then
    (m_law04_examples).bind fun r1 =>
    some r1
  else
    m_law04_ValueReduce_l1 t1 l1 fold1 fu 0

/- internal.stringslite.Cut -/
def m_internal_stringslite_Cut (s1 : List UInt8) (sep1 : List UInt8) : Option (List UInt8 × List UInt8 × Bool) :=
  (m_internal_stringslite_Index s1 sep1).bind fun r1 =>
  if decide (0 ≤ r1) then
    (lupto s1 r1).bind fun s2 =>
    (lfrom s1 (wi64 (r1 + (sep1.length : Int)))).bind fun s3 =>
    some (s2, s3, true)
  else
    some (s1, ([] : List UInt8), false)

/- strings.Cut -/
def m_strings_Cut (s1 : List UInt8) (sep1 : List UInt8) : Option (List UInt8 × List UInt8 × Bool) :=
  (m_internal_stringslite_Cut s1 sep1).bind fun r1 =>
  some (r1.1, r1.2.1, r1.2.2)

/- internal.stringslite.HasPrefix -/
def m_internal_stringslite_HasPrefix (s1 : List UInt8) (prefix1 : List UInt8) : Option Bool :=
  (gd (decide ((prefix1.length : Int) ≤ (s1.length : Int))) (lupto s1 (prefix1.length : Int))).bind fun s2 =>
  some ((decide ((prefix1.length : Int) ≤ (s1.length : Int))) && (decide (s2 = prefix1)))

/- internal.stringslite.CutPrefix -/
def m_internal_stringslite_CutPrefix (s1 : List UInt8) (prefix1 : List UInt8) : Option (List UInt8 × Bool) :=
  (m_internal_stringslite_HasPrefix s1 prefix1).bind fun r1 =>
  if !r1 then
    some (s1, false)
  else
    (lfrom s1 (prefix1.length : Int)).bind fun s2 =>
    some (s2, true)

/- strings.CutPrefix -/
def m_strings_CutPrefix (s1 : List UInt8) (prefix1 : List UInt8) : Option (List UInt8 × Bool) :=
  (m_internal_stringslite_CutPrefix s1 prefix1).bind fun r1 =>
  some (r1.1, r1.2)

/- brocade.frac.decimal -/
def m_frac_decimal_j1 (s1 : List UInt8) : Option Bool :=
  (gd ((!(decide (s1 = ([48] : List UInt8)))) && (!decide (s1 = ([] : List UInt8)))) (sat s1 0)).bind fun b1 =>
  some ((decide (s1 = ([48] : List UInt8))) || ((!decide (s1 = ([] : List UInt8))) && (!decide (b1 = 48))))
def m_frac_decimal_l1 (s1 : List UInt8) : Nat → Int → Option Bool
  | 0, _ => none
  | fuel1 + 1, i1 =>
    if decide (i1 < (s1.length : Int)) then
      (sat s1 i1).bind fun b2 =>
      (gd (!(decide (b2 < 48))) (sat s1 i1)).bind fun b3 =>
      if (decide (b2 < 48)) || (decide (57 < b3)) then
        some false
      else
        (m_frac_decimal_l1 s1 fuel1) (wi64 (i1 + 1))
    else
      m_frac_decimal_j1 s1
def m_frac_decimal (s1 : List UInt8) : Option Bool :=
  m_frac_decimal_l1 s1 fu 0

/- brocade.frac.bounded -/
def m_frac_bounded (s1 : List UInt8) : Option (Int × Bool) :=
  if decide (10 < (s1.length : Int)) then
    some (0, false)
  else
    (m_strconv_ParseInt s1 10 64).bind fun r1 =>
    some (r1.1, decide (r1.1 ≤ 2147483647))

/- brocade.frac.Parse -/
def m_frac_Parse_j2 (r5 : Int × Bool) (n1 : Int) : Option (GVal × Int) :=
  (m_frac_Valid (⟨n1, r5.1⟩ : GVal)).bind fun r6 =>
  if !r6 then
    some ((⟨0, 0⟩ : GVal), 5)
  else
    some ((⟨n1, r5.1⟩ : GVal), 0)
def m_frac_Parse_j1 (r2 : List UInt8 × Bool) (bottom1 : List UInt8) : Option (GVal × Int) :=
  (m_frac_bounded r2.1).bind fun r4 =>
  (m_frac_bounded bottom1).bind fun r5 =>
  if (!r4.2) || (!r5.2) then
    some ((⟨0, 0⟩ : GVal), 3)
  else
    if r2.2 then
      m_frac_Parse_j2 r5 (wi64 (-r4.1))
    else
      m_frac_Parse_j2 r5 r4.1
def m_frac_Parse (s1 : List UInt8) : Option (GVal × Int) :=
  (m_strings_Cut s1 ([47] : List UInt8)).bind fun r1 =>
  (m_strings_CutPrefix r1.1 ([45] : List UInt8)).bind fun r2 =>
  (m_frac_decimal r2.1).bind fun r3 =>
  if (!r3) || (r2.2 && (decide (r2.1 = ([48] : List UInt8)))) then
    some ((⟨0, 0⟩ : GVal), 5)
  else
    if !r1.2.2 then
      m_frac_Parse_j1 r2 ([49] : List UInt8)
    else
      (m_frac_decimal r1.2.1).bind fun r7 =>
      if ((!r7) || (decide (r1.2.1 = ([48] : List UInt8)))) || (decide (r1.2.1 = ([49] : List UInt8))) then
        some ((⟨0, 0⟩ : GVal), 5)
      else
        m_frac_Parse_j1 r2 r1.2.1

/- brocade.value.Parse -/
def m_value_Parse (t1 : GType) (s1 : List UInt8) : Option (GVal × Int) :=
  (m_value_ValidateType t1).bind fun r1 =>
  if !decide (r1 = 0) then
    some ((⟨0, 0⟩ : GVal), 10)
  else
    (m_frac_Parse s1).bind fun r2 =>
    if !decide (r2.2 = 0) then
      some ((⟨0, 0⟩ : GVal), r2.2)
    else
      if decide (t1.Kind = 3) then
        if !decide (r2.1.D = 1) then
          some ((⟨0, 0⟩ : GVal), 5)
        else
          some (r2.1, 0)
      else
        if decide (t1.Kind = 2) then
          if 0 ≤ t1.Frac then
            (some (wi64 (1 * 2 ^ (min (Int.toNat t1.Frac) 64)))).bind fun one1 =>
            if r2.1.D ≠ 0 then
              if !decide (Int.tmod one1 r2.1.D = 0) then
                some ((⟨0, 0⟩ : GVal), 5)
              else
                (m_fixed_Valid t1 (⟨wi64 (r2.1.N * (wi64 (Int.tdiv one1 r2.1.D))), 1⟩ : GVal)).bind fun r3 =>
                if !r3 then
                  some ((⟨0, 0⟩ : GVal), 3)
                else
                  some ((⟨wi64 (r2.1.N * (wi64 (Int.tdiv one1 r2.1.D))), 1⟩ : GVal), 0)
            else none
          else none
        else
          some (r2.1, 0)

/- brocade.brocaderef01.Whole -/
def m_ref01_Whole_j2 (from1 : Int) (s1 : List UInt8) : Option Bool :=
  (gd (decide (from1 < (s1.length : Int))) (sat s1 from1)).bind fun b1 =>
  some ((decide (from1 < (s1.length : Int))) && ((!decide (b1 = 48)) || (decide ((s1.length : Int) = 1))))
def m_ref01_Whole_l1 (s1 : List UInt8) (from1 : Int) : Nat → Int → Option Bool
  | 0, _ => none
  | fuel1 + 1, i1 =>
    if decide (i1 < (s1.length : Int)) then
      (sat s1 i1).bind fun b2 =>
      (gd (!(decide (b2 < 48))) (sat s1 i1)).bind fun b3 =>
      if (decide (b2 < 48)) || (decide (57 < b3)) then
        some false
      else
        (m_ref01_Whole_l1 s1 from1 fuel1) (wi64 (i1 + 1))
    else
      m_ref01_Whole_j2 from1 s1
def m_ref01_Whole_j1 (s1 : List UInt8) (from1 : Int) : Option Bool :=
  m_ref01_Whole_l1 s1 from1 fu from1
def m_ref01_Whole (s1 : List UInt8) : Option Bool :=
  (gd (decide (1 < (s1.length : Int))) (sat s1 0)).bind fun b4 =>
  if (decide (1 < (s1.length : Int))) && (decide (b4 = 45)) then
    m_ref01_Whole_j1 s1 1
  else
    m_ref01_Whole_j1 s1 0

/- brocade.brocaderef01.value -/
def m_ref01_value_j1 (s1 : List UInt8) (n1 : Int) : Option (Int × Bool) :=
  (gd (decide (0 < (s1.length : Int))) (sat s1 0)).bind fun b1 =>
  if (decide (0 < (s1.length : Int))) && (decide (b1 = 45)) then
    some (wi64 (-n1), true)
  else
    some (n1, true)
def m_ref01_value_j2 (self1 : Int → Int → Option (Int × Bool)) (i1 : Int) (n3 : Int) : Option (Int × Bool) :=
  self1 n3 (wi64 (i1 + 1))
def m_ref01_value_l1 (s1 : List UInt8) : Nat → Int → Int → Option (Int × Bool)
  | 0, _, _ => none
  | fuel1 + 1, n2, i1 =>
    if decide (i1 < (s1.length : Int)) then
      (sat s1 i1).bind fun b2 =>
      if decide (b2 = 45) then
        m_ref01_value_j2 (m_ref01_value_l1 s1 fuel1) i1 n2
      else
        (sat s1 i1).bind fun b3 =>
        (some (wi64 ((wi64 (n2 * 10)) + (wi64 (wu8 (b3 - 48)))))).bind fun n4 =>
        if decide (2147483647 < n4) then
          some (0, false)
        else
          m_ref01_value_j2 (m_ref01_value_l1 s1 fuel1) i1 n4
    else
      m_ref01_value_j1 s1 n2
def m_ref01_value (s1 : List UInt8) : Option (Int × Bool) :=
  m_ref01_value_l1 s1 fu 0 0

/- brocade.brocaderef01.Parse -/
def m_ref01_Parse_j2 (up1 : List UInt8) (down2 : List UInt8) : Option (GVal × Int) :=
  (m_ref01_value up1).bind fun r2 =>
  (m_ref01_value down2).bind fun r3 =>
  if (!r2.2) || (!r3.2) then
    some ((⟨0, 0⟩ : GVal), 3)
  else
    (m_ref01_size r2.1).bind fun r4 =>
    (m_ref01_size r3.1).bind fun r5 =>
    (m_ref01_gcd r4 r5).bind fun r6 =>
    if !decide (r6 = 1) then
      some ((⟨0, 0⟩ : GVal), 5)
    else
      some ((⟨r2.1, r3.1⟩ : GVal), 0)
def m_ref01_Parse_j1 (up1 : List UInt8) (down1 : List UInt8) : Option (GVal × Int) :=
  (m_ref01_Whole up1).bind fun r1 =>
  if !r1 then
    some ((⟨0, 0⟩ : GVal), 5)
  else
    if decide (down1 = ([] : List UInt8)) then
      m_ref01_Parse_j2 up1 ([49] : List UInt8)
    else
      m_ref01_Parse_j2 up1 down1
def m_ref01_Parse_j3 (self1 : (List UInt8) → (List UInt8) → Int → Option (GVal × Int)) (i1 : Int) (up3 : List UInt8) (down4 : List UInt8) : Option (GVal × Int) :=
  self1 up3 down4 (wi64 (i1 + 1))
def m_ref01_Parse_l1 (s1 : List UInt8) : Nat → (List UInt8) → (List UInt8) → Int → Option (GVal × Int)
  | 0, _, _, _ => none
  | fuel1 + 1, up2, down3, i1 =>
    if (decide (i1 < (s1.length : Int))) && (decide (down3 = ([] : List UInt8))) then
      (sat s1 i1).bind fun b2 =>
      if decide (b2 = 47) then
        (lupto s1 i1).bind fun s2 =>
        (lfrom s1 (wi64 (i1 + 1))).bind fun s3 =>
        (m_ref01_Whole s3).bind fun r7 =>
        (gd (!(!r7)) (sat s3 0)).bind fun b3 =>
        if (((!r7) || (decide (b3 = 45))) || (decide (s3 = ([48] : List UInt8)))) || (decide (s3 = ([49] : List UInt8))) then
          some ((⟨0, 0⟩ : GVal), 5)
        else
          m_ref01_Parse_j3 (m_ref01_Parse_l1 s1 fuel1) i1 s2 s3
      else
        m_ref01_Parse_j3 (m_ref01_Parse_l1 s1 fuel1) i1 up2 down3
    else
      m_ref01_Parse_j1 up2 down3
def m_ref01_Parse (s1 : List UInt8) : Option (GVal × Int) :=
  m_ref01_Parse_l1 s1 fu s1 ([] : List UInt8) 0

/- brocade.brocaderef04.Parse -/
def m_ref04_Parse (t1 : GType) (s1 : List UInt8) : Option (GVal × Int) :=
  (m_base_Type t1).bind fun r1 =>
  if !r1 then
    some ((⟨0, 0⟩ : GVal), 10)
  else
    (m_ref01_Parse s1).bind fun r2 =>
    if (!decide (r2.2 = 0)) || (decide (t1.Kind = 1)) then
      some (r2.1, r2.2)
    else
      if decide (t1.Kind = 3) then
        if !decide (r2.1.D = 1) then
          some ((⟨0, 0⟩ : GVal), 5)
        else
          some (r2.1, 0)
      else
        (m_ref04_step t1).bind fun r3 =>
        if r2.1.D ≠ 0 then
          if !decide (Int.tmod r3 r2.1.D = 0) then
            some ((⟨0, 0⟩ : GVal), 5)
          else
            (m_ref04_step t1).bind fun r4 =>
            (m_base_Val t1 (⟨wi64 (r2.1.N * (wi64 (Int.tdiv r4 r2.1.D))), 1⟩ : GVal)).bind fun r5 =>
            if !r5 then
              some ((⟨0, 0⟩ : GVal), 3)
            else
              some ((⟨wi64 (r2.1.N * (wi64 (Int.tdiv r4 r2.1.D))), 1⟩ : GVal), 0)
        else none

/- brocade.brocaderef04.Value -/
def m_ref04_Value (t1 : GType) (v1 : GVal) : Option GVal :=
  if decide (t1.Kind = 2) then
    (m_ref04_step t1).bind fun r1 =>
    (m_ref01_New v1.N r1).bind fun r2 =>
    some r2.1
  else
    some v1

/- brocade.brocaderef01.plain -/
def m_ref01_plain_l1 : Nat → Int → (List UInt8) → Option (List UInt8)
  | 0, _, _ => none
  | fuel1 + 1, n2, s1 =>
    if decide (10 ≤ n2) then
      (lsub ([48, 49, 50, 51, 52, 53, 54, 55, 56, 57] : List UInt8) (Int.tmod n2 10) (wu64 ((Int.tmod n2 10) + 1))).bind fun s2 =>
      (lapp s2 s1).bind fun s3 =>
      (m_ref01_plain_l1 fuel1) (wu64 (Int.tdiv n2 10)) s3
    else
      (lsub ([48, 49, 50, 51, 52, 53, 54, 55, 56, 57] : List UInt8) n2 (wu64 (n2 + 1))).bind fun s4 =>
      (lapp s4 s1).bind fun s5 =>
      some s5
def m_ref01_plain (n1 : Int) : Option (List UInt8) :=
  m_ref01_plain_l1 fu n1 ([] : List UInt8)

/- brocade.brocaderef01.Digits -/
def m_ref01_Digits (n1 : Int) : Option (List UInt8) :=
  if decide (n1 < 0) then
    (m_ref01_size n1).bind fun r1 =>
    (m_ref01_plain r1).bind fun r2 =>
    (lapp ([45] : List UInt8) r2).bind fun s1 =>
    some s1
  else
    (m_ref01_size n1).bind fun r3 =>
    (m_ref01_plain r3).bind fun r4 =>
    some r4

/- brocade.brocaderef01.Format -/
def m_ref01_Format (a1 : GVal) : Option (List UInt8) :=
  (m_ref01_Valid a1).bind fun r1 =>
  if !r1 then
    some ([] : List UInt8)
  else
    if decide (a1.D = 1) then
      (m_ref01_Digits a1.N).bind fun r2 =>
      some r2
    else
      (m_ref01_Digits a1.N).bind fun r3 =>
      (lapp r3 ([47] : List UInt8)).bind fun s1 =>
      (m_ref01_Digits a1.D).bind fun r4 =>
      (lapp s1 r4).bind fun s2 =>
      some s2

/- brocade.brocaderef04.Format -/
def m_ref04_Format (t1 : GType) (v1 : GVal) : Option (List UInt8) :=
  (m_ref04_Valid t1 v1).bind fun r1 =>
  if !r1 then
    some ([] : List UInt8)
  else
    (m_ref04_Value t1 v1).bind fun r2 =>
    (m_ref01_Format r2).bind fun r3 =>
    some r3

/- brocade.brocadelaw04.ValueFormat -/
def m_law04_ValueFormat (t1 : GType) (v1 : GVal) (s1 : List UInt8) : Option Bool :=
  if decide (100 < (s1.length : Int)) then
    (m_law04_examples).bind fun r1 =>
    some r1
  else
    (m_value_Parse t1 s1).bind fun r2 =>
    (m_ref04_Parse t1 s1).bind fun r3 =>
    (m_value_Format t1 v1).bind fun r4 =>
    (m_ref04_Format t1 v1).bind fun r5 =>
    (gd (((decide (r4 = r5)) && ((decide (r2.1.N = r3.1.N)) && (decide (r2.1.D = r3.1.D)))) && (decide (r2.2 = r3.2))) (m_law04_examples)).bind fun r6 =>
    some ((((decide (r4 = r5)) && ((decide (r2.1.N = r3.1.N)) && (decide (r2.1.D = r3.1.D)))) && (decide (r2.2 = r3.2))) && r6)

/- brocade.brocadelaw04.ValueResultsValid -/
def m_law04_ValueResultsValid (op1 : Int) (types1 : Gs39) (l1 : Gs40) (s1 : List UInt8) : Option Bool :=
  if decide (100 < (s1.length : Int)) then
    (m_law04_examples).bind fun r1 =>
    some r1
  else
    (m_value_Apply op1 types1.e0 l1.e0 l1.e1).bind fun r2 =>
    (m_value_Cast types1.e0 types1.e1 l1.e0).bind fun r3 =>
    (m_value_Parse types1.e0 s1).bind fun r4 =>
    (gd (decide (r2.2 = 0)) (m_value_Valid types1.e0 r2.1)).bind fun r5 =>
    (gd ((!((decide (r2.2 = 0)) && (!r5))) && (decide (r3.2 = 0))) (m_value_Valid types1.e1 r3.1)).bind fun r6 =>
    (gd ((!(((decide (r2.2 = 0)) && (!r5)) || ((decide (r3.2 = 0)) && (!r6)))) && (decide (r4.2 = 0))) (m_value_Valid types1.e0 r4.1)).bind fun r7 =>
    (gd (((!(((decide (r2.2 = 0)) && (!r5)) || ((decide (r3.2 = 0)) && (!r6)))) && (decide (r4.2 = 0))) && !(!r7)) (m_value_Format types1.e0 r4.1)).bind fun r8 =>
    if (((decide (r2.2 = 0)) && (!r5)) || ((decide (r3.2 = 0)) && (!r6))) || ((decide (r4.2 = 0)) && ((!r7) || (!decide (r8 = s1)))) then
      some false
    else
      (m_value_Valid types1.e0 l1.e0).bind fun r9 =>
      if r9 then
        (m_value_Cast types1.e0 types1.e0 l1.e0).bind fun r10 =>
        (m_value_Format types1.e0 l1.e0).bind fun r11 =>
        (m_value_Parse types1.e0 r11).bind fun r12 =>
        if (((!((decide (r10.1.N = l1.e0.N)) && (decide (r10.1.D = l1.e0.D)))) || (!decide (r10.2 = 0))) || (!((decide (r12.1.N = l1.e0.N)) && (decide (r12.1.D = l1.e0.D))))) || (!decide (r12.2 = 0)) then
          some false
        else
          (m_law04_examples).bind fun r13 =>
          some r13
      else
        (m_law04_examples).bind fun r14 =>
        some r14

end Go.Proofs.YtpfapgamjlhebaaGreatDoor
