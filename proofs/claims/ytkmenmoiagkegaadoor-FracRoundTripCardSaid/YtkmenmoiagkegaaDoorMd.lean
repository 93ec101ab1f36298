/- Plain types and functions: what the Go text computes, printed by a program of my own. -/
import Derived.Test.YtkmenmoiagkegaaDoorXm
namespace Go.Proofs.YtkmenmoiagkegaaDoor
open Go Go.RowKit Go.Vc
set_option linter.unusedVariables false
set_option linter.unusedSimpArgs false

structure GVal where
  N : Int
  D : Int
deriving Inhabited, DecidableEq
def cGVal : Cod GVal where
  n := 2
  rel _ _ x cs := cs = [(Value.int .i64 x.N), (Value.int .i64 x.D)]
  len h := by subst h; rfl
  one h := by subst h; rfl
  sp _ h := h
structure GType where
  Kind : Int
  Bits : Int
  Frac : Int
  Round : Int
  Over : Int
deriving Inhabited, DecidableEq
def cGType : Cod GType where
  n := 5
  rel _ _ x cs := cs = [(Value.int .i64 x.Kind), (Value.int .i64 x.Bits), (Value.int .i64 x.Frac), (Value.int .i64 x.Round), (Value.int .i64 x.Over)]
  len h := by subst h; rfl
  one h := by subst h; rfl
  sp _ h := h
def fnP_k1 (v : Value) (m : (Int → (List Int) → Option Bool)) (D : NP) (w : World) : Prop :=
  isFn v = true ∧ ∀ (D' : NP) (w' : World), Sp D w D' w' → (∀ k, D' k → k < w'.heap.size) → ∀ (x1 : Int) (x2 : List Int) (A3 : Option Addr) (c4 : Nat) (r : Bool), AllCl [Cl.sl (cInt .u32) A3 c4 x2] D' w' → m x1 x2 = some r →
    CallV Tryd.prog v [(Value.int .i64 x1), (Value.slice A3 x2.length c4)] w' fun e w'' => e = .returned (Value.bool r) ∧ Ext w' w'' ∧ AllCl [] D' w''
theorem fnP_k1.sp {v : Value} {m : (Int → (List Int) → Option Bool)} {D D' : NP} {w w' : World} (hs : Sp D w D' w') (h : fnP_k1 v m D w) : fnP_k1 v m D' w' := ⟨h.1, fun D'' w'' hs' => h.2 D'' w'' (hs.trans hs')⟩
def clFn_k1 (v : Value) (m : (Int → (List Int) → Option Bool)) : Cl := ⟨fnP_k1 v m, fnP_k1.sp⟩
def fnS_k1 {σ : Type} (I : StI σ) (v : Value) (m : (Int → (List Int) → σ → Option (Bool × σ))) (D : NP) (w : World) : Prop :=
  isFn v = true ∧ ∀ (C0 F : NP) (w' : World), Sp D w (Dj F C0) w' → ∀ (x1 : Int) (x2 : List Int) (A3 : Option Addr) (c4 : Nat) (s : σ) (r : Bool × σ), Bun C0 F w' C0 w' [MO.st I s] [Cl.sl (cInt .u32) A3 c4 x2] → m x1 x2 s = some r →
    CallV Tryd.prog v [(Value.int .i64 x1), (Value.slice A3 x2.length c4)] w' fun e w'' => ∃  (C : NP), e = .returned (Value.bool r.1) ∧ Bun C0 F w' C w'' [MO.st I r.2] []
theorem fnS_k1.sp {σ : Type} {I : StI σ} {v : Value} {m : (Int → (List Int) → σ → Option (Bool × σ))} {D D' : NP} {w w' : World} (hs : Sp D w D' w') (h : fnS_k1 I v m D w) : fnS_k1 I v m D' w' := ⟨h.1, fun C0 F w'' hs' => h.2 C0 F w'' (hs.trans hs')⟩
def clFnS_k1 {σ : Type} (I : StI σ) (v : Value) (m : (Int → (List Int) → σ → Option (Bool × σ))) : Cl := ⟨fnS_k1 I v m, fnS_k1.sp⟩
/- brocade.frac.magnitude -/
def m_frac_magnitude (n1 : Int) : Option Int :=
  if decide (n1 < 0) then
    some (wu64 (-(wu64 n1)))
  else
    some (wu64 n1)

/- brocade.frac.gcd -/
def m_frac_gcd_l1 : Nat → Int → Int → Option Int
  | 0, _, _ => none
  | fuel1 + 1, a2, b2 =>
    if !decide (b2 = 0) then
      if b2 ≠ 0 then
        (m_frac_gcd_l1 fuel1) b2 (Int.tmod a2 b2)
      else none
    else
      some a2
def m_frac_gcd (a1 : Int) (b1 : Int) : Option Int :=
  m_frac_gcd_l1 fu a1 b1

/- brocade.frac.New -/
def m_frac_New (n1 : Int) (d1 : Int) : Option (GVal × Int) :=
  if decide (d1 = 0) then
    some ((⟨0, 0⟩ : GVal), 4)
  else
    (some ((decide (n1 < 0)) != (decide (d1 < 0)))).bind fun negative1 =>
    (m_frac_magnitude n1).bind fun r1 =>
    (m_frac_magnitude d1).bind fun r2 =>
    (m_frac_gcd r1 r2).bind fun r3 =>
    if r3 ≠ 0 then
      if (decide (2147483647 < wu64 (Int.tdiv r1 r3))) || (decide (2147483647 < wu64 (Int.tdiv r2 r3))) then
        some ((⟨0, 0⟩ : GVal), 3)
      else
        if negative1 then
          some ((⟨wi64 (-(wi64 (wu64 (Int.tdiv r1 r3)))), wi64 (wu64 (Int.tdiv r2 r3))⟩ : GVal), 0)
        else
          some ((⟨wi64 (wu64 (Int.tdiv r1 r3)), wi64 (wu64 (Int.tdiv r2 r3))⟩ : GVal), 0)
    else none

/- brocade.brocaderef01.size -/
def m_ref01_size (n1 : Int) : Option Int :=
  if decide (n1 < 0) then
    some (wu64 ((wu64 (wi64 (-(wi64 (n1 + 1))))) + 1))
  else
    some (wu64 n1)

/- brocade.brocaderef01.gcd -/
def m_ref01_gcd_l1 : Nat → Int → Int → Option Int
  | 0, _, _ => none
  | fuel1 + 1, a2, b2 =>
    if !decide (b2 = 0) then
      if b2 ≠ 0 then
        (m_ref01_gcd_l1 fuel1) b2 (Int.tmod a2 b2)
      else none
    else
      some a2
def m_ref01_gcd (a1 : Int) (b1 : Int) : Option Int :=
  m_ref01_gcd_l1 fu a1 b1

/- brocade.brocaderef01.made -/
def m_ref01_made (minus1 : Bool) (n1 : Int) (d1 : Int) : Option (GVal × Int) :=
  (m_ref01_gcd n1 d1).bind fun r1 =>
  if r1 ≠ 0 then
    if (decide (2147483647 < wu64 (Int.tdiv n1 r1))) || (decide (2147483647 < wu64 (Int.tdiv d1 r1))) then
      some ((⟨0, 0⟩ : GVal), 3)
    else
      if minus1 then
        some ((⟨wi64 (-(wi64 (wu64 (Int.tdiv n1 r1)))), wi64 (wu64 (Int.tdiv d1 r1))⟩ : GVal), 0)
      else
        some ((⟨wi64 (wu64 (Int.tdiv n1 r1)), wi64 (wu64 (Int.tdiv d1 r1))⟩ : GVal), 0)
  else none

/- brocade.brocaderef01.New -/
def m_ref01_New (n1 : Int) (d1 : Int) : Option (GVal × Int) :=
  if decide (d1 = 0) then
    some ((⟨0, 0⟩ : GVal), 4)
  else
    (m_ref01_size n1).bind fun r1 =>
    (m_ref01_size d1).bind fun r2 =>
    (m_ref01_made ((decide (n1 < 0)) != (decide (d1 < 0))) r1 r2).bind fun r3 =>
    some (r3.1, r3.2)

/- brocade.frac.inRange -/
def m_frac_inRange (n1 : Int) : Option Bool :=
  some ((decide ((-2147483647) ≤ n1)) && (decide (n1 ≤ 2147483647)))

/- brocade.frac.Valid -/
def m_frac_Valid (v1 : GVal) : Option Bool :=
  (gd ((decide (1 ≤ v1.D)) && (decide (v1.D ≤ 2147483647))) (m_frac_inRange v1.N)).bind fun r1 =>
  (gd (((decide (1 ≤ v1.D)) && (decide (v1.D ≤ 2147483647))) && r1) (m_frac_magnitude v1.N)).bind fun r2 =>
  (gd (((decide (1 ≤ v1.D)) && (decide (v1.D ≤ 2147483647))) && r1) (m_frac_gcd r2 (wu64 v1.D))).bind fun r3 =>
  some ((((decide (1 ≤ v1.D)) && (decide (v1.D ≤ 2147483647))) && r1) && (decide (r3 = 1)))

/- brocade.brocadebase.gcd -/
def m_base_gcd_l1 : Nat → Int → Int → Option Int
  | 0, _, _ => none
  | fuel1 + 1, a2, b2 =>
    if !decide (b2 = 0) then
      if b2 ≠ 0 then
        (m_base_gcd_l1 fuel1) b2 (Int.tmod a2 b2)
      else none
    else
      some a2
def m_base_gcd (a1 : Int) (b1 : Int) : Option Int :=
  m_base_gcd_l1 fu a1 b1

/- brocade.brocadebase.Val -/
def m_base_Val (t1 : GType) (v1 : GVal) : Option Bool :=
  if decide (t1.Kind = 2) then
    if 0 ≤ (wi64 (t1.Bits - 1)) then
      (some (wi64 (1 * 2 ^ (min (Int.toNat (wi64 (t1.Bits - 1))) 64)))).bind fun half1 =>
      some (((decide (v1.D = 1)) && (decide (wi64 (-half1) ≤ v1.N))) && (decide (v1.N < half1)))
    else none
  else
    if (((decide (2147483647 < v1.N)) || (decide (v1.N < (-2147483647)))) || (decide (v1.D < 1))) || (decide (2147483647 < v1.D)) then
      some false
    else
      if decide (t1.Kind = 3) then
        some (decide (v1.D = 1))
      else
        (m_base_gcd (max v1.N (wi64 (-v1.N))) v1.D).bind fun r1 =>
        some (decide (r1 = 1))

/- brocade.brocaderef01.Valid -/
def m_ref01_Valid (v1 : GVal) : Option Bool :=
  (m_base_Val (⟨1, 0, 0, 0, 0⟩ : GType) v1).bind fun r1 =>
  some r1

/- brocade.frac.Add -/
def m_frac_Add (a1 : GVal) (b1 : GVal) : Option (GVal × Int) :=
  (m_frac_Valid a1).bind fun r1 =>
  (gd (!(!r1)) (m_frac_Valid b1)).bind fun r2 =>
  if (!r1) || (!r2) then
    some ((⟨0, 0⟩ : GVal), 1)
  else
    (m_frac_New (wi64 ((wi64 (a1.N * b1.D)) + (wi64 (b1.N * a1.D)))) (wi64 (a1.D * b1.D))).bind fun r3 =>
    some (r3.1, r3.2)

/- (brocade.frac.nat).norm -/
def m_frac_nat_norm_l1 : Nat → (List Int) → Option (List Int)
  | 0, _ => none
  | fuel1 + 1, a4 =>
    (gd (decide (0 < (a4.length : Int))) (lat a4 (wi64 ((a4.length : Int) - 1)))).bind fun e1 =>
    if (decide (0 < (a4.length : Int))) && (decide (e1 = 0)) then
      (lupto a4 (wi64 ((a4.length : Int) - 1))).bind fun zs1 =>
      (m_frac_nat_norm_l1 fuel1) zs1
    else
      some a4
def m_frac_nat_norm (a1 : List Int) : Option (List Int) :=
  m_frac_nat_norm_l1 fu a1

/- (brocade.frac.nat).div -/
def m_frac_nat_div_l1 (a1 : List Int) (by1 : Int) : Nat → (List Int) → Int → Int → Option (List Int × Int)
  | 0, _, _, _ => none
  | fuel1 + 1, out1, rest1, i2 =>
    if decide (0 ≤ i2) then
      (lat a1 i2).bind fun e1 =>
      (some (bits .or .u64 (wu64 (rest1 * 2 ^ 32)) (wu64 e1))).bind fun rest2 =>
      if (wu64 by1) ≠ 0 then
        if 0 ≤ i2 ∧ i2 < (out1.length : Int) then
          (some (Int.tmod rest2 (wu64 by1))).bind fun rest3 =>
          (m_frac_nat_div_l1 a1 by1 fuel1) (out1.set (Int.toNat i2) (wu32 (wu64 (Int.tdiv rest2 (wu64 by1))))) rest3 (wi64 (i2 - 1))
        else none
      else none
    else
      (m_frac_nat_norm out1).bind fun r1 =>
      some (r1, wu32 rest1)
def m_frac_nat_div (a1 : List Int) (by1 : Int) : Option (List Int × Int) :=
  (lmake 0 (a1.length : Int) (a1.length : Int)).bind fun zs1 =>
  (some (wi64 ((a1.length : Int) - 1))).bind fun i1 =>
  m_frac_nat_div_l1 a1 by1 fu zs1 0 i1

/- (brocade.frac.nat).mod -/
def m_frac_nat_mod (a1 : List Int) (by1 : Int) : Option Int :=
  (m_frac_nat_div a1 by1).bind fun r1 =>
  some r1.2

/- (brocade.frac.nat).times -/
def m_frac_nat_times_l1 (a1 : List Int) (by1 : Int) : Nat → (List Int) → Int → Int → Option (List Int)
  | 0, _, _, _ => none
  | fuel1 + 1, out1, carry1, i1 =>
    if decide (i1 < (a1.length : Int)) then
      (lat a1 i1).bind fun e1 =>
      (some (wu64 (carry1 + (wu64 ((wu64 e1) * (wu64 by1)))))).bind fun carry2 =>
      (lapp out1 ([wu32 carry2] : List Int)).bind fun zs2 =>
      (m_frac_nat_times_l1 a1 by1 fuel1) zs2 (Int.fdiv carry2 (2 ^ 32)) (wi64 (i1 + 1))
    else
      (lapp out1 ([wu32 carry1] : List Int)).bind fun zs3 =>
      (m_frac_nat_norm zs3).bind fun r1 =>
      some r1
def m_frac_nat_times (a1 : List Int) (by1 : Int) : Option (List Int) :=
  (lmake 0 0 (wi64 ((a1.length : Int) + 1))).bind fun zs1 =>
  m_frac_nat_times_l1 a1 by1 fu zs1 0 0

/- (brocade.frac.nat).plus -/
def m_frac_nat_plus_j2 (out1 : List Int) (self1 : (List Int) → Int → Int → Option (List Int)) (i1 : Int) (carry3 : Int) : Option (List Int) :=
  (lapp out1 ([wu32 carry3] : List Int)).bind fun zs1 =>
  self1 zs1 (Int.fdiv carry3 (2 ^ 32)) (wi64 (i1 + 1))
def m_frac_nat_plus_j1 (i1 : Int) (b1 : List Int) (out1 : List Int) (self1 : (List Int) → Int → Int → Option (List Int)) (carry2 : Int) : Option (List Int) :=
  if decide (i1 < (b1.length : Int)) then
    (lat b1 i1).bind fun e1 =>
    (some (wu64 (carry2 + (wu64 e1)))).bind fun carry4 =>
    m_frac_nat_plus_j2 out1 self1 i1 carry4
  else
    m_frac_nat_plus_j2 out1 self1 i1 carry2
def m_frac_nat_plus_l1 (a1 : List Int) (b1 : List Int) : Nat → (List Int) → Int → Int → Option (List Int)
  | 0, _, _, _ => none
  | fuel1 + 1, out1, carry1, i1 =>
    if decide (i1 < max (a1.length : Int) (b1.length : Int)) then
      if decide (i1 < (a1.length : Int)) then
        (lat a1 i1).bind fun e2 =>
        (some (wu64 (carry1 + (wu64 e2)))).bind fun carry5 =>
        m_frac_nat_plus_j1 i1 b1 out1 (m_frac_nat_plus_l1 a1 b1 fuel1) carry5
      else
        m_frac_nat_plus_j1 i1 b1 out1 (m_frac_nat_plus_l1 a1 b1 fuel1) carry1
    else
      (lapp out1 ([wu32 carry1] : List Int)).bind fun zs2 =>
      (m_frac_nat_norm zs2).bind fun r1 =>
      some r1
def m_frac_nat_plus (a1 : List Int) (b1 : List Int) : Option (List Int) :=
  m_frac_nat_plus_l1 a1 b1 fu ([] : List Int) 0 0

/- (brocade.frac.nat).compare -/
def m_frac_nat_compare_l1 (a1 : List Int) (b1 : List Int) : Nat → Int → Option Int
  | 0, _ => none
  | fuel1 + 1, i2 =>
    if decide (0 ≤ i2) then
      (lat a1 i2).bind fun e1 =>
      (lat b1 i2).bind fun e2 =>
      if decide (e1 < e2) then
        some (-1)
      else
        (lat a1 i2).bind fun e3 =>
        (lat b1 i2).bind fun e4 =>
        if decide (e4 < e3) then
          some 1
        else
          (m_frac_nat_compare_l1 a1 b1 fuel1) (wi64 (i2 - 1))
    else
      some 0
def m_frac_nat_compare (a1 : List Int) (b1 : List Int) : Option Int :=
  if !decide ((a1.length : Int) = (b1.length : Int)) then
    if decide ((a1.length : Int) < (b1.length : Int)) then
      some (-1)
    else
      some 1
  else
    (some (wi64 ((a1.length : Int) - 1))).bind fun i1 =>
    m_frac_nat_compare_l1 a1 b1 fu i1

/- (brocade.frac.nat).minus -/
def m_frac_nat_minus_j2 (i1 : Int) (out1 : List Int) (self1 : (List Int) → Int → Int → Option (List Int)) (x3 : Int) (borrow2 : Int) : Option (List Int) :=
  if 0 ≤ i1 ∧ i1 < (out1.length : Int) then
    self1 (out1.set (Int.toNat i1) (wu32 x3)) borrow2 (wi64 (i1 + 1))
  else none
def m_frac_nat_minus_j1 (i1 : Int) (out1 : List Int) (self1 : (List Int) → Int → Int → Option (List Int)) (x2 : Int) : Option (List Int) :=
  if decide (x2 < 0) then
    m_frac_nat_minus_j2 i1 out1 self1 (wi64 (x2 + 4294967296)) 1
  else
    m_frac_nat_minus_j2 i1 out1 self1 x2 0
def m_frac_nat_minus_l1 (a1 : List Int) (b1 : List Int) : Nat → (List Int) → Int → Int → Option (List Int)
  | 0, _, _, _ => none
  | fuel1 + 1, out1, borrow1, i1 =>
    if decide (i1 < (a1.length : Int)) then
      (lat a1 i1).bind fun e1 =>
      (some (wi64 ((wi64 e1) - borrow1))).bind fun x1 =>
      if decide (i1 < (b1.length : Int)) then
        (lat b1 i1).bind fun e2 =>
        m_frac_nat_minus_j1 i1 out1 (m_frac_nat_minus_l1 a1 b1 fuel1) (wi64 (x1 - (wi64 e2)))
      else
        m_frac_nat_minus_j1 i1 out1 (m_frac_nat_minus_l1 a1 b1 fuel1) x1
    else
      (m_frac_nat_norm out1).bind fun r1 =>
      some r1
def m_frac_nat_minus (a1 : List Int) (b1 : List Int) : Option (List Int) :=
  (lmake 0 (a1.length : Int) (a1.length : Int)).bind fun zs1 =>
  m_frac_nat_minus_l1 a1 b1 fu zs1 0 0

/- (brocade.frac.nat).even -/
def m_frac_nat_even (a1 : List Int) : Option Bool :=
  (gd (!(decide ((a1.length : Int) = 0))) (lat a1 0)).bind fun e1 =>
  some ((decide ((a1.length : Int) = 0)) || (decide (Int.tmod e1 2 = 0)))

/- (brocade.frac.nat).half -/
def m_frac_nat_half (a1 : List Int) : Option (List Int) :=
  (m_frac_nat_div a1 2).bind fun r1 =>
  some r1.1

/- brocade.frac.common -/
def m_frac_common_l1 : Nat → (List Int) → Int → Option (List Int)
  | 0, _, _ => none
  | fuel1 + 1, a10, shift2 =>
    if decide (0 < shift2) then
      (m_frac_nat_times a10 2).bind fun r1 =>
      (m_frac_common_l1 fuel1) r1 (wi64 (shift2 - 1))
    else
      some a10
def m_frac_common_j2 (shift1 : Int) (a8 : List Int) : Option (List Int) :=
  m_frac_common_l1 fu a8 shift1
def m_frac_common_l2 (shift1 : Int) : Nat → (List Int) → (List Int) → Option (List Int)
  | 0, _, _ => none
  | fuel2 + 1, a13, b3 =>
    (m_frac_nat_compare a13 b3).bind fun r2 =>
    if !decide (r2 = 0) then
      (m_frac_nat_even a13).bind fun r3 =>
      if r3 then
        (m_frac_nat_half a13).bind fun r4 =>
        (m_frac_common_l2 shift1 fuel2) r4 b3
      else
        (m_frac_nat_even b3).bind fun r5 =>
        if r5 then
          (m_frac_nat_half b3).bind fun r6 =>
          (m_frac_common_l2 shift1 fuel2) a13 r6
        else
          (m_frac_nat_compare a13 b3).bind fun r7 =>
          if decide (0 < r7) then
            (m_frac_nat_minus a13 b3).bind fun r8 =>
            (m_frac_common_l2 shift1 fuel2) r8 b3
          else
            (m_frac_nat_minus b3 a13).bind fun r9 =>
            (m_frac_common_l2 shift1 fuel2) a13 r9
    else
      m_frac_common_j2 shift1 a13
def m_frac_common_j1 (a5 : List Int) (b2 : List Int) (shift1 : Int) : Option (List Int) :=
  m_frac_common_l2 shift1 fu a5 b2
def m_frac_common_l3 : Nat → (List Int) → (List Int) → Int → Option (List Int)
  | 0, _, _, _ => none
  | fuel3 + 1, a20, b4, shift3 =>
    (m_frac_nat_even a20).bind fun r10 =>
    (gd r10 (m_frac_nat_even b4)).bind fun r11 =>
    if r10 && r11 then
      (m_frac_nat_half a20).bind fun r12 =>
      (m_frac_nat_half b4).bind fun r13 =>
      (m_frac_common_l3 fuel3) r12 r13 (wi64 (shift3 + 1))
    else
      m_frac_common_j1 a20 b4 shift3
def m_frac_common (a1 : List Int) (b1 : List Int) : Option (List Int) :=
  m_frac_common_l3 fu a1 b1 0

/- slices.Backward[[]brocade.frac.nat,brocade.frac.nat] -/
def m_slices_Backward_frac_nat_frac_nat (s1 : List (List Int)) : Option (List (List Int)) :=
  some s1

/- slices.Backward[[]brocade.frac.nat,brocade.frac.nat]$1 -/
def m_slices_Backward_frac_nat_frac_nat_1_s_l1 {σ : Type}  (a1 : List (List Int)) (yield1 : (Int → (List Int) → σ → Option (Bool × σ))) : Nat → Int → σ → Option (Unit × σ)
  | 0, _, _ => none
  | fuel1 + 1, i2, s2 =>
    if decide (0 ≤ i2) then
      (lat a1 i2).bind fun e1 =>
      (yield1 i2 e1 s2).bind fun ⟨r1, s3⟩ =>
      if !r1 then
        some ((), s3)
      else
        (m_slices_Backward_frac_nat_frac_nat_1_s_l1 a1 yield1 fuel1) (wi64 (i2 - 1)) s3
    else
      some ((), s2)
def m_slices_Backward_frac_nat_frac_nat_1_s {σ : Type}  (yield1 : (Int → (List Int) → σ → Option (Bool × σ))) (a1 : List (List Int)) (s1 : σ) : Option (Unit × σ) :=
  (some (wi64 ((a1.length : Int) - 1))).bind fun i1 =>
  m_slices_Backward_frac_nat_frac_nat_1_s_l1 a1 yield1 fu i1 s1

/- brocade.frac.quotient -/
def m_frac_quotient_b1 (y1 : Int) (y2 : List Int) (a6 : List Int) (n1 : Int) : Option (Bool × (Nat × ((List Int) × Int))) :=
  (m_frac_nat_compare y2 a6).bind fun r2 =>
  if decide (r2 ≤ 0) then
    (m_frac_nat_minus a6 y2).bind fun r3 =>
    if 0 ≤ y1 then
      some (true, (0, (r3, wi64 (n1 + (wi64 (1 * 2 ^ (min (Int.toNat y1) 64)))))))
    else none
  else
    some (true, (0, (a6, n1)))
def m_frac_quotient_j1 (a1 : List Int) (list1 : List (List Int)) : Option (Int × Bool) :=
  (m_slices_Backward_frac_nat_frac_nat list1).bind fun r1 =>
  (m_slices_Backward_frac_nat_frac_nat_1_s (fun k_0 k_1 q => if q.1 = 0 then m_frac_quotient_b1 k_0 k_1 q.2.1 q.2.2 else none) r1 (0, (a1, 0))).bind fun ⟨u1, o1, a10, n2⟩ =>
  if o1 = 0 then
    some (n2, (decide ((a10.length : Int) = 0)) && (decide (n2 ≤ 2147483647)))
  else
    none
def m_frac_quotient_l1 (a1 : List Int) : Nat → (List (List Int)) → Option (Int × Bool)
  | 0, _ => none
  | fuel1 + 1, list2 =>
    (gd (decide ((list2.length : Int) ≤ 32)) (lat list2 (wi64 ((list2.length : Int) - 1)))).bind fun e1 =>
    (gd (decide ((list2.length : Int) ≤ 32)) (m_frac_nat_compare e1 a1)).bind fun r4 =>
    if (decide ((list2.length : Int) ≤ 32)) && (decide (r4 ≤ 0)) then
      (lat list2 (wi64 ((list2.length : Int) - 1))).bind fun e2 =>
      (m_frac_nat_times e2 2).bind fun r5 =>
      (lapp list2 ([r5] : List (List Int))).bind fun zs1 =>
      (m_frac_quotient_l1 a1 fuel1) zs1
    else
      m_frac_quotient_j1 a1 list2
def m_frac_quotient (a1 : List Int) (b1 : List Int) : Option (Int × Bool) :=
  if decide (wi64 ((b1.length : Int) + 1) < (a1.length : Int)) then
    some (0, false)
  else
    m_frac_quotient_l1 a1 fu ([b1] : List (List Int))

/- brocade.frac.lowest -/
def m_frac_lowest (a1 : List Int) (b1 : List Int) : Option (GVal × Int) :=
  if decide ((a1.length : Int) = 0) then
    some ((⟨0, 1⟩ : GVal), 0)
  else
    (m_frac_common a1 b1).bind fun r1 =>
    (m_frac_quotient a1 r1).bind fun r2 =>
    (m_frac_quotient b1 r1).bind fun r3 =>
    if (!r2.2) || (!r3.2) then
      some ((⟨0, 0⟩ : GVal), 3)
    else
      some ((⟨r2.1, r3.1⟩ : GVal), 0)

/- brocade.frac.Sum -/
def m_frac_Sum_j2 (pos1 : List Int) (neg1 : List Int) (all1 : List Int) : Option (GVal × Int) :=
  (m_frac_nat_compare pos1 neg1).bind fun r1 =>
  if decide (r1 < 0) then
    (m_frac_nat_minus neg1 pos1).bind fun r2 =>
    (m_frac_lowest r2 all1).bind fun r3 =>
    some ((⟨wi64 (-r3.1.N), r3.1.D⟩ : GVal), r3.2)
  else
    (m_frac_nat_minus pos1 neg1).bind fun r4 =>
    (m_frac_lowest r4 all1).bind fun r5 =>
    some (r5.1, r5.2)
def m_frac_Sum_j3 (self1 : (List Int) → (List Int) → (List Int) → Int → Option (GVal × Int)) (i1 : Int) (pos3 : List Int) (neg3 : List Int) (all3 : List Int) : Option (GVal × Int) :=
  self1 pos3 neg3 all3 (wi64 (i1 + 1))
def m_frac_Sum_l1 (l1 : List GVal) : Nat → (List Int) → (List Int) → (List Int) → Int → Option (GVal × Int)
  | 0, _, _, _, _ => none
  | fuel1 + 1, pos2, neg2, all2, i1 =>
    if decide (i1 < (l1.length : Int)) then
      (lat l1 i1).bind fun e1 =>
      (m_frac_nat_mod all2 (wu32 e1.D)).bind fun r6 =>
      (m_frac_gcd (wu64 r6) (wu64 e1.D)).bind fun r7 =>
      if r7 ≠ 0 then
        (some (wu32 (wu64 (Int.tdiv (wu64 e1.D) r7)))).bind fun by1 =>
        (m_frac_nat_div all2 (wu32 r7)).bind fun r8 =>
        (m_frac_nat_times pos2 by1).bind fun r9 =>
        (m_frac_nat_times neg2 by1).bind fun r10 =>
        (m_frac_nat_times all2 by1).bind fun r11 =>
        (m_frac_magnitude e1.N).bind fun r12 =>
        (m_frac_nat_times r8.1 (wu32 r12)).bind fun r13 =>
        if decide (e1.N < 0) then
          (m_frac_nat_plus r10 r13).bind fun r14 =>
          m_frac_Sum_j3 (m_frac_Sum_l1 l1 fuel1) i1 r9 r14 r11
        else
          (m_frac_nat_plus r9 r13).bind fun r15 =>
          m_frac_Sum_j3 (m_frac_Sum_l1 l1 fuel1) i1 r15 r10 r11
      else none
    else
      m_frac_Sum_j2 pos2 neg2 all2
def m_frac_Sum_j1 (l1 : List GVal) : Option (GVal × Int) :=
  m_frac_Sum_l1 l1 fu ([] : List Int) ([] : List Int) ([1] : List Int) 0
def m_frac_Sum_l2 (l1 : List GVal) : Nat → Int → Option (GVal × Int)
  | 0, _ => none
  | fuel2 + 1, i2 =>
    if decide (i2 < (l1.length : Int)) then
      (lat l1 i2).bind fun e2 =>
      (m_frac_Valid e2).bind fun r16 =>
      if !r16 then
        some ((⟨0, 0⟩ : GVal), 1)
      else
        (m_frac_Sum_l2 l1 fuel2) (wi64 (i2 + 1))
    else
      m_frac_Sum_j1 l1
def m_frac_Sum (l1 : List GVal) : Option (GVal × Int) :=
  m_frac_Sum_l2 l1 fu 0

/- internal.stringslite.Cut -/
def m_internal_stringslite_Cut (s1 : List UInt8) (sep1 : List UInt8) : Option (List UInt8 × List UInt8 × Bool) :=
  (m_internal_stringslite_Index s1 sep1).bind fun r1 =>
  if decide (0 ≤ r1) then
    (lupto s1 r1).bind fun s2 =>
    (lfrom s1 (wi64 (r1 + (sep1.length : Int)))).bind fun s3 =>
    some (s2, s3, true)
  else
    some (s1, ([] : List UInt8), false)

/- strings.Cut -/
def m_strings_Cut (s1 : List UInt8) (sep1 : List UInt8) : Option (List UInt8 × List UInt8 × Bool) :=
  (m_internal_stringslite_Cut s1 sep1).bind fun r1 =>
  some (r1.1, r1.2.1, r1.2.2)

/- internal.stringslite.HasPrefix -/
def m_internal_stringslite_HasPrefix (s1 : List UInt8) (prefix1 : List UInt8) : Option Bool :=
  (gd (decide ((prefix1.length : Int) ≤ (s1.length : Int))) (lupto s1 (prefix1.length : Int))).bind fun s2 =>
  some ((decide ((prefix1.length : Int) ≤ (s1.length : Int))) && (decide (s2 = prefix1)))

/- internal.stringslite.CutPrefix -/
def m_internal_stringslite_CutPrefix (s1 : List UInt8) (prefix1 : List UInt8) : Option (List UInt8 × Bool) :=
  (m_internal_stringslite_HasPrefix s1 prefix1).bind fun r1 =>
  if !r1 then
    some (s1, false)
  else
    (lfrom s1 (prefix1.length : Int)).bind fun s2 =>
    some (s2, true)

/- strings.CutPrefix -/
def m_strings_CutPrefix (s1 : List UInt8) (prefix1 : List UInt8) : Option (List UInt8 × Bool) :=
  (m_internal_stringslite_CutPrefix s1 prefix1).bind fun r1 =>
  some (r1.1, r1.2)

/- brocade.frac.decimal -/
def m_frac_decimal_j1 (s1 : List UInt8) : Option Bool :=
  (gd ((!(decide (s1 = ([48] : List UInt8)))) && (!decide (s1 = ([] : List UInt8)))) (sat s1 0)).bind fun b1 =>
  some ((decide (s1 = ([48] : List UInt8))) || ((!decide (s1 = ([] : List UInt8))) && (!decide (b1 = 48))))
def m_frac_decimal_l1 (s1 : List UInt8) : Nat → Int → Option Bool
  | 0, _ => none
  | fuel1 + 1, i1 =>
    if decide (i1 < (s1.length : Int)) then
      (sat s1 i1).bind fun b2 =>
      (gd (!(decide (b2 < 48))) (sat s1 i1)).bind fun b3 =>
      if (decide (b2 < 48)) || (decide (57 < b3)) then
        some false
      else
        (m_frac_decimal_l1 s1 fuel1) (wi64 (i1 + 1))
    else
      m_frac_decimal_j1 s1
def m_frac_decimal (s1 : List UInt8) : Option Bool :=
  m_frac_decimal_l1 s1 fu 0

/- brocade.frac.bounded -/
def m_frac_bounded (s1 : List UInt8) : Option (Int × Bool) :=
  if decide (10 < (s1.length : Int)) then
    some (0, false)
  else
    (m_strconv_ParseInt s1 10 64).bind fun r1 =>
    some (r1.1, decide (r1.1 ≤ 2147483647))

/- brocade.frac.Parse -/
def m_frac_Parse_j2 (r5 : Int × Bool) (n1 : Int) : Option (GVal × Int) :=
  (m_frac_Valid (⟨n1, r5.1⟩ : GVal)).bind fun r6 =>
  if !r6 then
    some ((⟨0, 0⟩ : GVal), 5)
  else
    some ((⟨n1, r5.1⟩ : GVal), 0)
def m_frac_Parse_j1 (r2 : List UInt8 × Bool) (bottom1 : List UInt8) : Option (GVal × Int) :=
  (m_frac_bounded r2.1).bind fun r4 =>
  (m_frac_bounded bottom1).bind fun r5 =>
  if (!r4.2) || (!r5.2) then
    some ((⟨0, 0⟩ : GVal), 3)
  else
    if r2.2 then
      m_frac_Parse_j2 r5 (wi64 (-r4.1))
    else
      m_frac_Parse_j2 r5 r4.1
def m_frac_Parse (s1 : List UInt8) : Option (GVal × Int) :=
  (m_strings_Cut s1 ([47] : List UInt8)).bind fun r1 =>
  (m_strings_CutPrefix r1.1 ([45] : List UInt8)).bind fun r2 =>
  (m_frac_decimal r2.1).bind fun r3 =>
  if (!r3) || (r2.2 && (decide (r2.1 = ([48] : List UInt8)))) then
    some ((⟨0, 0⟩ : GVal), 5)
  else
    if !r1.2.2 then
      m_frac_Parse_j1 r2 ([49] : List UInt8)
    else
      (m_frac_decimal r1.2.1).bind fun r7 =>
      if ((!r7) || (decide (r1.2.1 = ([48] : List UInt8)))) || (decide (r1.2.1 = ([49] : List UInt8))) then
        some ((⟨0, 0⟩ : GVal), 5)
      else
        m_frac_Parse_j1 r2 r1.2.1

/- brocade.frac.Floor -/
def m_frac_Floor (a1 : GVal) : Option Int :=
  (m_frac_Valid a1).bind fun r1 =>
  if !r1 then
    some 0
  else
    if a1.D ≠ 0 then
      (some (wi64 (Int.tdiv a1.N a1.D))).bind fun q1 =>
      if decide (Int.tmod a1.N a1.D < 0) then
        some (wi64 (q1 - 1))
      else
        some q1
    else none

/- brocade.brocadelaw01.examples -/
def m_law01_examples : Option Bool :=
  (m_frac_New 6 (-4)).bind fun r1 =>
  (m_frac_Add (⟨1, 2⟩ : GVal) (⟨1, 3⟩ : GVal)).bind fun r2 =>
  (m_frac_Sum ([(⟨1, 2⟩ : GVal), (⟨1, 3⟩ : GVal), (⟨1, 6⟩ : GVal)] : List GVal)).bind fun r3 =>
  (m_frac_Parse ([50, 47, 52] : List UInt8)).bind fun r4 =>
  (gd ((((((decide (r1.2 = 0)) && ((decide (r1.1.N = (-3))) && (decide (r1.1.D = 2)))) && (decide (r2.2 = 0))) && ((decide (r2.1.N = 5)) && (decide (r2.1.D = 6)))) && (decide (r3.2 = 0))) && ((decide (r3.1.N = 1)) && (decide (r3.1.D = 1)))) (m_frac_Floor r1.1)).bind fun r5 =>
  some ((((((((decide (r1.2 = 0)) && ((decide (r1.1.N = (-3))) && (decide (r1.1.D = 2)))) && (decide (r2.2 = 0))) && ((decide (r2.1.N = 5)) && (decide (r2.1.D = 6)))) && (decide (r3.2 = 0))) && ((decide (r3.1.N = 1)) && (decide (r3.1.D = 1)))) && (decide (r5 = (-2)))) && (decide (r4.2 = 5)))

/- brocade.brocadelaw01.FracNew -/
def m_law01_FracNew (n1 : Int) (d1 : Int) (v1 : GVal) : Option Bool :=
  (m_frac_New n1 d1).bind fun r1 =>
  (m_ref01_New n1 d1).bind fun r2 =>
  (gd (((decide (r1.1.N = r2.1.N)) && (decide (r1.1.D = r2.1.D))) && (decide (r1.2 = r2.2))) (m_frac_Valid v1)).bind fun r3 =>
  (gd (((decide (r1.1.N = r2.1.N)) && (decide (r1.1.D = r2.1.D))) && (decide (r1.2 = r2.2))) (m_ref01_Valid v1)).bind fun r4 =>
  (gd (((((decide (r1.1.N = r2.1.N)) && (decide (r1.1.D = r2.1.D))) && (decide (r1.2 = r2.2))) && (r3 == r4)) && !(!decide (r1.2 = 0))) (m_frac_Valid r1.1)).bind fun r5 =>
  (gd (((((decide (r1.1.N = r2.1.N)) && (decide (r1.1.D = r2.1.D))) && (decide (r1.2 = r2.2))) && (r3 == r4)) && ((!decide (r1.2 = 0)) || r5)) (m_law01_examples)).bind fun r6 =>
  some ((((((decide (r1.1.N = r2.1.N)) && (decide (r1.1.D = r2.1.D))) && (decide (r1.2 = r2.2))) && (r3 == r4)) && ((!decide (r1.2 = 0)) || r5)) && r6)

/- brocade.brocaderef01.trim -/
def m_ref01_trim_l1 : Nat → (List Int) → Option (List Int)
  | 0, _ => none
  | fuel1 + 1, a4 =>
    (gd (decide (0 < (a4.length : Int))) (lat a4 (wi64 ((a4.length : Int) - 1)))).bind fun e1 =>
    if (decide (0 < (a4.length : Int))) && (decide (e1 = 0)) then
      (lupto a4 (wi64 ((a4.length : Int) - 1))).bind fun zs1 =>
      (m_ref01_trim_l1 fuel1) zs1
    else
      some a4
def m_ref01_trim (a1 : List Int) : Option (List Int) :=
  m_ref01_trim_l1 fu a1

/- brocade.brocaderef01.times -/
def m_ref01_times_l1 (a1 : List Int) (by1 : Int) : Nat → (List Int) → Int → Int → Option (List Int)
  | 0, _, _, _ => none
  | fuel1 + 1, out1, carry1, i1 =>
    if decide (i1 < (a1.length : Int)) then
      (lat a1 i1).bind fun e1 =>
      (some (wu64 ((wu64 (e1 * by1)) + carry1))).bind fun n1 =>
      (lapp out1 ([Int.tmod n1 4294967296] : List Int)).bind fun zs1 =>
      (some (wu64 (Int.tdiv n1 4294967296))).bind fun carry2 =>
      (m_ref01_times_l1 a1 by1 fuel1) zs1 carry2 (wi64 (i1 + 1))
    else
      (lapp out1 ([carry1] : List Int)).bind fun zs2 =>
      (m_ref01_trim zs2).bind fun r1 =>
      some r1
def m_ref01_times (a1 : List Int) (by1 : Int) : Option (List Int) :=
  m_ref01_times_l1 a1 by1 fu ([] : List Int) 0 0

/- brocade.brocaderef01.plus -/
def m_ref01_plus_j2 (out1 : List Int) (self1 : (List Int) → Int → Int → Option (List Int)) (i1 : Int) (carry3 : Int) : Option (List Int) :=
  (lapp out1 ([Int.tmod carry3 4294967296] : List Int)).bind fun zs1 =>
  (some (wu64 (Int.tdiv carry3 4294967296))).bind fun carry4 =>
  self1 zs1 carry4 (wi64 (i1 + 1))
def m_ref01_plus_j1 (i1 : Int) (b1 : List Int) (out1 : List Int) (self1 : (List Int) → Int → Int → Option (List Int)) (carry2 : Int) : Option (List Int) :=
  if decide (i1 < (b1.length : Int)) then
    (lat b1 i1).bind fun e1 =>
    m_ref01_plus_j2 out1 self1 i1 (wu64 (carry2 + e1))
  else
    m_ref01_plus_j2 out1 self1 i1 carry2
def m_ref01_plus_l1 (a1 : List Int) (b1 : List Int) : Nat → (List Int) → Int → Int → Option (List Int)
  | 0, _, _, _ => none
  | fuel1 + 1, out1, carry1, i1 =>
    if (decide (i1 < (a1.length : Int))) || (decide (i1 < (b1.length : Int))) then
      if decide (i1 < (a1.length : Int)) then
        (lat a1 i1).bind fun e2 =>
        m_ref01_plus_j1 i1 b1 out1 (m_ref01_plus_l1 a1 b1 fuel1) (wu64 (carry1 + e2))
      else
        m_ref01_plus_j1 i1 b1 out1 (m_ref01_plus_l1 a1 b1 fuel1) carry1
    else
      (lapp out1 ([carry1] : List Int)).bind fun zs2 =>
      (m_ref01_trim zs2).bind fun r1 =>
      some r1
def m_ref01_plus (a1 : List Int) (b1 : List Int) : Option (List Int) :=
  m_ref01_plus_l1 a1 b1 fu ([] : List Int) 0 0

/- brocade.brocaderef01.below -/
def m_ref01_below_l1 (a1 : List Int) (b1 : List Int) : Nat → Int → Option Bool
  | 0, _ => none
  | fuel1 + 1, i2 =>
    if decide (0 ≤ i2) then
      (lat a1 i2).bind fun e1 =>
      (lat b1 i2).bind fun e2 =>
      if !decide (e1 = e2) then
        (lat a1 i2).bind fun e3 =>
        (lat b1 i2).bind fun e4 =>
        some (decide (e3 < e4))
      else
        (m_ref01_below_l1 a1 b1 fuel1) (wi64 (i2 - 1))
    else
      some false
def m_ref01_below (a1 : List Int) (b1 : List Int) : Option Bool :=
  if !decide ((a1.length : Int) = (b1.length : Int)) then
    some (decide ((a1.length : Int) < (b1.length : Int)))
  else
    (some (wi64 ((a1.length : Int) - 1))).bind fun i1 =>
    m_ref01_below_l1 a1 b1 fu i1

/- brocade.brocaderef01.less -/
def m_ref01_less_j1 (out1 : List Int) (self1 : (List Int) → Int → Int → Option (List Int)) (i1 : Int) (n2 : Int) : Option (List Int) :=
  (lapp out1 ([Int.tmod n2 4294967296] : List Int)).bind fun zs1 =>
  (some (wu64 (1 - (wu64 (Int.tdiv n2 4294967296))))).bind fun borrow2 =>
  self1 zs1 borrow2 (wi64 (i1 + 1))
def m_ref01_less_l1 (a1 : List Int) (b1 : List Int) : Nat → (List Int) → Int → Int → Option (List Int)
  | 0, _, _, _ => none
  | fuel1 + 1, out1, borrow1, i1 =>
    if decide (i1 < (a1.length : Int)) then
      (lat a1 i1).bind fun e1 =>
      (some (wu64 ((wu64 (4294967296 + e1)) - borrow1))).bind fun n1 =>
      if decide (i1 < (b1.length : Int)) then
        (lat b1 i1).bind fun e2 =>
        m_ref01_less_j1 out1 (m_ref01_less_l1 a1 b1 fuel1) i1 (wu64 (n1 - e2))
      else
        m_ref01_less_j1 out1 (m_ref01_less_l1 a1 b1 fuel1) i1 n1
    else
      (m_ref01_trim out1).bind fun r1 =>
      some r1
def m_ref01_less (a1 : List Int) (b1 : List Int) : Option (List Int) :=
  m_ref01_less_l1 a1 b1 fu ([] : List Int) 0 0

/- brocade.brocaderef01.rest -/
def m_ref01_rest_l1 (a1 : List Int) (by1 : Int) : Nat → Int → Int → Option Int
  | 0, _, _ => none
  | fuel1 + 1, r1, i2 =>
    if decide (0 ≤ i2) then
      (lat a1 i2).bind fun e1 =>
      if by1 ≠ 0 then
        (some (Int.tmod (wu64 ((wu64 (r1 * 4294967296)) + e1)) by1)).bind fun r2 =>
        (m_ref01_rest_l1 a1 by1 fuel1) r2 (wi64 (i2 - 1))
      else none
    else
      some r1
def m_ref01_rest (a1 : List Int) (by1 : Int) : Option Int :=
  (some (wi64 ((a1.length : Int) - 1))).bind fun i1 =>
  m_ref01_rest_l1 a1 by1 fu 0 i1

/- brocade.brocaderef01.part -/
def m_ref01_part_l1 (a1 : List Int) (by1 : Int) : Nat → (List Int) → Int → Int → Option (List Int)
  | 0, _, _, _ => none
  | fuel1 + 1, out1, r1, i2 =>
    if decide (0 ≤ i2) then
      (lat a1 i2).bind fun e1 =>
      (some (wu64 ((wu64 (r1 * 4294967296)) + e1))).bind fun n1 =>
      if by1 ≠ 0 then
        if 0 ≤ i2 ∧ i2 < (out1.length : Int) then
          (m_ref01_part_l1 a1 by1 fuel1) (out1.set (Int.toNat i2) (wu64 (Int.tdiv n1 by1))) (Int.tmod n1 by1) (wi64 (i2 - 1))
        else none
      else none
    else
      (m_ref01_trim out1).bind fun r2 =>
      some r2
def m_ref01_part (a1 : List Int) (by1 : Int) : Option (List Int) :=
  (lmake 0 (a1.length : Int) (a1.length : Int)).bind fun zs1 =>
  (some (wi64 ((a1.length : Int) - 1))).bind fun i1 =>
  m_ref01_part_l1 a1 by1 fu zs1 0 i1

/- brocade.brocaderef01.lowest -/
def m_ref01_lowest_j1 (minus1 : Bool) (n2 : List Int) (d1 : Int) : Option (GVal × Int) :=
  if (decide (1 < (n2.length : Int))) || (decide (2147483647 < d1)) then
    some ((⟨0, 0⟩ : GVal), 3)
  else
    if decide ((n2.length : Int) = 0) then
      some ((⟨0, 1⟩ : GVal), 0)
    else
      (lat n2 0).bind fun e1 =>
      (m_ref01_made minus1 e1 d1).bind fun r1 =>
      some (r1.1, r1.2)
def m_ref01_lowest_j2 (self1 : (List Int) → Int → Int → Option (GVal × Int)) (i1 : Int) (n4 : List Int) (d3 : Int) : Option (GVal × Int) :=
  self1 n4 d3 (wi64 (i1 + 1))
def m_ref01_lowest_j3 (d2 : Int) (self1 : (List Int) → Int → Int → Option (GVal × Int)) (i1 : Int) (n5 : List Int) (left1 : Int) : Option (GVal × Int) :=
  if decide (d2 ≤ 2147483647) then
    m_ref01_lowest_j2 self1 i1 n5 (wu64 (d2 * left1))
  else
    m_ref01_lowest_j2 self1 i1 n5 d2
def m_ref01_lowest_l2 (d2 : Int) (self1 : (List Int) → Int → Int → Option (GVal × Int)) (i1 : Int) : Nat → (List Int) → Int → Int → Option (GVal × Int)
  | 0, _, _, _ => none
  | fuel2 + 1, n6, left2, g1 =>
    if decide (1 < g1) then
      (m_ref01_part n6 g1).bind fun r4 =>
      if g1 ≠ 0 then
        (m_ref01_rest r4 (wu64 (Int.tdiv left2 g1))).bind fun r5 =>
        (m_ref01_gcd r5 (wu64 (Int.tdiv left2 g1))).bind fun r6 =>
        (m_ref01_lowest_l2 d2 self1 i1 fuel2) r4 (wu64 (Int.tdiv left2 g1)) r6
      else none
    else
      m_ref01_lowest_j3 d2 self1 i1 n6 left2
def m_ref01_lowest_l1 (ds1 : List Int) (minus1 : Bool) : Nat → (List Int) → Int → Int → Option (GVal × Int)
  | 0, _, _, _ => none
  | fuel1 + 1, n3, d2, i1 =>
    if decide (i1 < (ds1.length : Int)) then
      (lat ds1 i1).bind fun e2 =>
      (m_ref01_rest n3 e2).bind fun r2 =>
      (m_ref01_gcd r2 e2).bind fun r3 =>
      m_ref01_lowest_l2 d2 (m_ref01_lowest_l1 ds1 minus1 fuel1) i1 fu n3 e2 r3
    else
      m_ref01_lowest_j1 minus1 n3 d2
def m_ref01_lowest (minus1 : Bool) (n1 : List Int) (ds1 : List Int) : Option (GVal × Int) :=
  m_ref01_lowest_l1 ds1 minus1 fu n1 1 0

/- brocade.brocaderef01.Sum -/
def m_ref01_Sum_j2 (up1 : List Int) (down1 : List Int) (ds1 : List Int) : Option (GVal × Int) :=
  (m_ref01_below up1 down1).bind fun r1 =>
  if r1 then
    (m_ref01_less down1 up1).bind fun r2 =>
    (m_ref01_lowest true r2 ds1).bind fun r3 =>
    some (r3.1, r3.2)
  else
    (m_ref01_less up1 down1).bind fun r4 =>
    (m_ref01_lowest false r4 ds1).bind fun r5 =>
    some (r5.1, r5.2)
def m_ref01_Sum_j3 (all1 : List Int) (e1 : GVal) (ds2 : List Int) (self1 : (List Int) → (List Int) → (List Int) → (List Int) → Int → Option (GVal × Int)) (i1 : Int) (up3 : List Int) (down3 : List Int) : Option (GVal × Int) :=
  (m_ref01_times all1 (wu64 e1.D)).bind fun r8 =>
  (lapp ds2 ([wu64 e1.D] : List Int)).bind fun zs1 =>
  self1 up3 down3 zs1 r8 (wi64 (i1 + 1))
def m_ref01_Sum_l1 (l1 : List GVal) : Nat → (List Int) → (List Int) → (List Int) → (List Int) → Int → Option (GVal × Int)
  | 0, _, _, _, _, _ => none
  | fuel1 + 1, up2, down2, ds2, all1, i1 =>
    if decide (i1 < (l1.length : Int)) then
      (lat l1 i1).bind fun e1 =>
      (m_ref01_times up2 (wu64 e1.D)).bind fun r6 =>
      (m_ref01_times down2 (wu64 e1.D)).bind fun r7 =>
      (lat l1 i1).bind fun e2 =>
      if decide (0 < e2.N) then
        (lat l1 i1).bind fun e3 =>
        (m_ref01_size e3.N).bind fun r9 =>
        (m_ref01_times all1 r9).bind fun r10 =>
        (m_ref01_plus r6 r10).bind fun r11 =>
        m_ref01_Sum_j3 all1 e1 ds2 (m_ref01_Sum_l1 l1 fuel1) i1 r11 r7
      else
        (lat l1 i1).bind fun e4 =>
        (m_ref01_size e4.N).bind fun r12 =>
        (m_ref01_times all1 r12).bind fun r13 =>
        (m_ref01_plus r7 r13).bind fun r14 =>
        m_ref01_Sum_j3 all1 e1 ds2 (m_ref01_Sum_l1 l1 fuel1) i1 r6 r14
    else
      m_ref01_Sum_j2 up2 down2 ds2
def m_ref01_Sum_j1 (l1 : List GVal) : Option (GVal × Int) :=
  m_ref01_Sum_l1 l1 fu ([] : List Int) ([] : List Int) ([] : List Int) ([1] : List Int) 0
def m_ref01_Sum_l2 (l1 : List GVal) : Nat → Int → Option (GVal × Int)
  | 0, _ => none
  | fuel2 + 1, i2 =>
    if decide (i2 < (l1.length : Int)) then
      (lat l1 i2).bind fun e5 =>
      (m_ref01_Valid e5).bind fun r15 =>
      if !r15 then
        some ((⟨0, 0⟩ : GVal), 1)
      else
        (m_ref01_Sum_l2 l1 fuel2) (wi64 (i2 + 1))
    else
      m_ref01_Sum_j1 l1
def m_ref01_Sum (l1 : List GVal) : Option (GVal × Int) :=
  m_ref01_Sum_l2 l1 fu 0

/- brocade.brocadelaw01.FracSum -/
def m_law01_FracSum (l1 : List GVal) : Option Bool :=
  if decide (40 < (l1.length : Int)) then
    (m_law01_examples).bind fun r1 =>
    some r1
  else
    (m_frac_Sum l1).bind fun r2 =>
    (m_ref01_Sum l1).bind fun r3 =>
    (gd (((decide (r2.1.N = r3.1.N)) && (decide (r2.1.D = r3.1.D))) && (decide (r2.2 = r3.2))) (m_law01_examples)).bind fun r4 =>
    some ((((decide (r2.1.N = r3.1.N)) && (decide (r2.1.D = r3.1.D))) && (decide (r2.2 = r3.2))) && r4)

/- brocade.frac.Neg -/
def m_frac_Neg (a1 : GVal) : Option GVal :=
  (m_frac_Valid a1).bind fun r1 =>
  if !r1 then
    some (⟨0, 0⟩ : GVal)
  else
    some (⟨wi64 (-a1.N), a1.D⟩ : GVal)

/- brocade.brocadelaw01.FracSumOrder -/
def m_law01_FracSumOrder_j1 (r2 : GVal × Int) (back1 : List GVal) (both1 : List GVal) : Option Bool :=
  (m_frac_Sum back1).bind fun r3 =>
  (m_frac_Sum both1).bind fun r4 =>
  if (!((decide (r2.1.N = r3.1.N)) && (decide (r2.1.D = r3.1.D)))) || (!decide (r2.2 = r3.2)) then
    some false
  else
    (gd ((decide (r2.2 = 1)) || ((decide (r4.2 = 0)) && ((decide (r4.1.N = 0)) && (decide (r4.1.D = 1))))) (m_law01_examples)).bind fun r5 =>
    some (((decide (r2.2 = 1)) || ((decide (r4.2 = 0)) && ((decide (r4.1.N = 0)) && (decide (r4.1.D = 1))))) && r5)
def m_law01_FracSumOrder_l1 (l1 : List GVal) (r2 : GVal × Int) : Nat → (List GVal) → (List GVal) → Int → Option Bool
  | 0, _, _, _ => none
  | fuel1 + 1, back2, both2, i2 =>
    if decide (0 ≤ i2) then
      (lat l1 i2).bind fun e1 =>
      (lapp back2 ([e1] : List GVal)).bind fun zs1 =>
      (lat l1 i2).bind fun e2 =>
      (lat l1 i2).bind fun e3 =>
      (m_frac_Neg e3).bind fun r6 =>
      (lapp both2 ([e2, r6] : List GVal)).bind fun zs2 =>
      (m_law01_FracSumOrder_l1 l1 r2 fuel1) zs1 zs2 (wi64 (i2 - 1))
    else
      m_law01_FracSumOrder_j1 r2 back2 both2
def m_law01_FracSumOrder (l1 : List GVal) : Option Bool :=
  if decide (20 < (l1.length : Int)) then
    (m_law01_examples).bind fun r1 =>
    some r1
  else
    (m_frac_Sum l1).bind fun r2 =>
    (some (wi64 ((l1.length : Int) - 1))).bind fun i1 =>
    m_law01_FracSumOrder_l1 l1 r2 fu ([] : List GVal) ([] : List GVal) i1

/- brocade.frac.Ceil -/
def m_frac_Ceil (a1 : GVal) : Option Int :=
  (m_frac_Neg a1).bind fun r1 =>
  (m_frac_Floor r1).bind fun r2 =>
  some (wi64 (-r2))

/- brocade.brocadelaw01.FracFloorBounds -/
def m_law01_FracFloorBounds (a1 : GVal) : Option Bool :=
  (m_frac_Valid a1).bind fun r1 =>
  if !r1 then
    (m_frac_Floor a1).bind fun r2 =>
    (gd (decide (r2 = 0)) (m_frac_Ceil a1)).bind fun r3 =>
    (gd ((decide (r2 = 0)) && (decide (r3 = 0))) (m_law01_examples)).bind fun r4 =>
    some (((decide (r2 = 0)) && (decide (r3 = 0))) && r4)
  else
    (m_frac_Floor a1).bind fun r5 =>
    (gd ((((decide ((-2147483647) ≤ r5)) && (decide (r5 ≤ 2147483647))) && (decide (wi64 (r5 * a1.D) ≤ a1.N))) && (decide (a1.N < wi64 ((wi64 (r5 + 1)) * a1.D)))) (m_frac_Ceil a1)).bind fun r6 =>
    (gd ((((decide ((-2147483647) ≤ r5)) && (decide (r5 ≤ 2147483647))) && (decide (wi64 (r5 * a1.D) ≤ a1.N))) && (decide (a1.N < wi64 ((wi64 (r5 + 1)) * a1.D)))) (m_frac_Neg a1)).bind fun r7 =>
    (gd ((((decide ((-2147483647) ≤ r5)) && (decide (r5 ≤ 2147483647))) && (decide (wi64 (r5 * a1.D) ≤ a1.N))) && (decide (a1.N < wi64 ((wi64 (r5 + 1)) * a1.D)))) (m_frac_Floor r7)).bind fun r8 =>
    (gd (((((decide ((-2147483647) ≤ r5)) && (decide (r5 ≤ 2147483647))) && (decide (wi64 (r5 * a1.D) ≤ a1.N))) && (decide (a1.N < wi64 ((wi64 (r5 + 1)) * a1.D)))) && (decide (r6 = wi64 (-r8)))) (m_law01_examples)).bind fun r9 =>
    some ((((((decide ((-2147483647) ≤ r5)) && (decide (r5 ≤ 2147483647))) && (decide (wi64 (r5 * a1.D) ≤ a1.N))) && (decide (a1.N < wi64 ((wi64 (r5 + 1)) * a1.D)))) && (decide (r6 = wi64 (-r8)))) && r9)

/- brocade.brocaderef01.Whole -/
def m_ref01_Whole_j2 (from1 : Int) (s1 : List UInt8) : Option Bool :=
  (gd (decide (from1 < (s1.length : Int))) (sat s1 from1)).bind fun b1 =>
  some ((decide (from1 < (s1.length : Int))) && ((!decide (b1 = 48)) || (decide ((s1.length : Int) = 1))))
def m_ref01_Whole_l1 (s1 : List UInt8) (from1 : Int) : Nat → Int → Option Bool
  | 0, _ => none
  | fuel1 + 1, i1 =>
    if decide (i1 < (s1.length : Int)) then
      (sat s1 i1).bind fun b2 =>
      (gd (!(decide (b2 < 48))) (sat s1 i1)).bind fun b3 =>
      if (decide (b2 < 48)) || (decide (57 < b3)) then
        some false
      else
        (m_ref01_Whole_l1 s1 from1 fuel1) (wi64 (i1 + 1))
    else
      m_ref01_Whole_j2 from1 s1
def m_ref01_Whole_j1 (s1 : List UInt8) (from1 : Int) : Option Bool :=
  m_ref01_Whole_l1 s1 from1 fu from1
def m_ref01_Whole (s1 : List UInt8) : Option Bool :=
  (gd (decide (1 < (s1.length : Int))) (sat s1 0)).bind fun b4 =>
  if (decide (1 < (s1.length : Int))) && (decide (b4 = 45)) then
    m_ref01_Whole_j1 s1 1
  else
    m_ref01_Whole_j1 s1 0

/- brocade.brocaderef01.value -/
def m_ref01_value_j1 (s1 : List UInt8) (n1 : Int) : Option (Int × Bool) :=
  (gd (decide (0 < (s1.length : Int))) (sat s1 0)).bind fun b1 =>
  if (decide (0 < (s1.length : Int))) && (decide (b1 = 45)) then
    some (wi64 (-n1), true)
  else
    some (n1, true)
def m_ref01_value_j2 (self1 : Int → Int → Option (Int × Bool)) (i1 : Int) (n3 : Int) : Option (Int × Bool) :=
  self1 n3 (wi64 (i1 + 1))
def m_ref01_value_l1 (s1 : List UInt8) : Nat → Int → Int → Option (Int × Bool)
  | 0, _, _ => none
  | fuel1 + 1, n2, i1 =>
    if decide (i1 < (s1.length : Int)) then
      (sat s1 i1).bind fun b2 =>
      if decide (b2 = 45) then
        m_ref01_value_j2 (m_ref01_value_l1 s1 fuel1) i1 n2
      else
        (sat s1 i1).bind fun b3 =>
        (some (wi64 ((wi64 (n2 * 10)) + (wi64 (wu8 (b3 - 48)))))).bind fun n4 =>
        if decide (2147483647 < n4) then
          some (0, false)
        else
          m_ref01_value_j2 (m_ref01_value_l1 s1 fuel1) i1 n4
    else
      m_ref01_value_j1 s1 n2
def m_ref01_value (s1 : List UInt8) : Option (Int × Bool) :=
  m_ref01_value_l1 s1 fu 0 0

/- brocade.brocaderef01.Parse -/
def m_ref01_Parse_j2 (up1 : List UInt8) (down2 : List UInt8) : Option (GVal × Int) :=
  (m_ref01_value up1).bind fun r2 =>
  (m_ref01_value down2).bind fun r3 =>
  if (!r2.2) || (!r3.2) then
    some ((⟨0, 0⟩ : GVal), 3)
  else
    (m_ref01_size r2.1).bind fun r4 =>
    (m_ref01_size r3.1).bind fun r5 =>
    (m_ref01_gcd r4 r5).bind fun r6 =>
    if !decide (r6 = 1) then
      some ((⟨0, 0⟩ : GVal), 5)
    else
      some ((⟨r2.1, r3.1⟩ : GVal), 0)
def m_ref01_Parse_j1 (up1 : List UInt8) (down1 : List UInt8) : Option (GVal × Int) :=
  (m_ref01_Whole up1).bind fun r1 =>
  if !r1 then
    some ((⟨0, 0⟩ : GVal), 5)
  else
    if decide (down1 = ([] : List UInt8)) then
      m_ref01_Parse_j2 up1 ([49] : List UInt8)
    else
      m_ref01_Parse_j2 up1 down1
def m_ref01_Parse_j3 (self1 : (List UInt8) → (List UInt8) → Int → Option (GVal × Int)) (i1 : Int) (up3 : List UInt8) (down4 : List UInt8) : Option (GVal × Int) :=
  self1 up3 down4 (wi64 (i1 + 1))
def m_ref01_Parse_l1 (s1 : List UInt8) : Nat → (List UInt8) → (List UInt8) → Int → Option (GVal × Int)
  | 0, _, _, _ => none
  | fuel1 + 1, up2, down3, i1 =>
    if (decide (i1 < (s1.length : Int))) && (decide (down3 = ([] : List UInt8))) then
      (sat s1 i1).bind fun b2 =>
      if decide (b2 = 47) then
        (lupto s1 i1).bind fun s2 =>
        (lfrom s1 (wi64 (i1 + 1))).bind fun s3 =>
        (m_ref01_Whole s3).bind fun r7 =>
        (gd (!(!r7)) (sat s3 0)).bind fun b3 =>
        if (((!r7) || (decide (b3 = 45))) || (decide (s3 = ([48] : List UInt8)))) || (decide (s3 = ([49] : List UInt8))) then
          some ((⟨0, 0⟩ : GVal), 5)
        else
          m_ref01_Parse_j3 (m_ref01_Parse_l1 s1 fuel1) i1 s2 s3
      else
        m_ref01_Parse_j3 (m_ref01_Parse_l1 s1 fuel1) i1 up2 down3
    else
      m_ref01_Parse_j1 up2 down3
def m_ref01_Parse (s1 : List UInt8) : Option (GVal × Int) :=
  m_ref01_Parse_l1 s1 fu s1 ([] : List UInt8) 0

/- strconv.FormatInt -/
def m_strconv_FormatInt (i1 : Int) (base1 : Int) : Option (List UInt8) :=
  (m_internal_strconv_FormatInt i1 base1).bind fun r1 =>
  some r1

/- brocade.frac.Format -/
def m_frac_Format (a1 : GVal) : Option (List UInt8) :=
  (m_frac_Valid a1).bind fun r1 =>
  if !r1 then
    some ([] : List UInt8)
  else
    if decide (a1.D = 1) then
      (m_strconv_FormatInt a1.N 10).bind fun r2 =>
      some r2
    else
      (m_strconv_FormatInt a1.N 10).bind fun r3 =>
      (lapp r3 ([47] : List UInt8)).bind fun s1 =>
      (m_strconv_FormatInt a1.D 10).bind fun r4 =>
      (lapp s1 r4).bind fun s2 =>
      some s2

/- brocade.brocaderef01.plain -/
def m_ref01_plain_l1 : Nat → Int → (List UInt8) → Option (List UInt8)
  | 0, _, _ => none
  | fuel1 + 1, n2, s1 =>
    if decide (10 ≤ n2) then
      (lsub ([48, 49, 50, 51, 52, 53, 54, 55, 56, 57] : List UInt8) (Int.tmod n2 10) (wu64 ((Int.tmod n2 10) + 1))).bind fun s2 =>
      (lapp s2 s1).bind fun s3 =>
      (m_ref01_plain_l1 fuel1) (wu64 (Int.tdiv n2 10)) s3
    else
      (lsub ([48, 49, 50, 51, 52, 53, 54, 55, 56, 57] : List UInt8) n2 (wu64 (n2 + 1))).bind fun s4 =>
      (lapp s4 s1).bind fun s5 =>
      some s5
def m_ref01_plain (n1 : Int) : Option (List UInt8) :=
  m_ref01_plain_l1 fu n1 ([] : List UInt8)

/- brocade.brocaderef01.Digits -/
def m_ref01_Digits (n1 : Int) : Option (List UInt8) :=
  if decide (n1 < 0) then
    (m_ref01_size n1).bind fun r1 =>
    (m_ref01_plain r1).bind fun r2 =>
    (lapp ([45] : List UInt8) r2).bind fun s1 =>
    some s1
  else
    (m_ref01_size n1).bind fun r3 =>
    (m_ref01_plain r3).bind fun r4 =>
    some r4

/- brocade.brocaderef01.Format -/
def m_ref01_Format (a1 : GVal) : Option (List UInt8) :=
  (m_ref01_Valid a1).bind fun r1 =>
  if !r1 then
    some ([] : List UInt8)
  else
    if decide (a1.D = 1) then
      (m_ref01_Digits a1.N).bind fun r2 =>
      some r2
    else
      (m_ref01_Digits a1.N).bind fun r3 =>
      (lapp r3 ([47] : List UInt8)).bind fun s1 =>
      (m_ref01_Digits a1.D).bind fun r4 =>
      (lapp s1 r4).bind fun s2 =>
      some s2

/- brocade.brocadelaw01.FracFormat -/
def m_law01_FracFormat (a1 : GVal) (s1 : List UInt8) : Option Bool :=
  if decide (200 < (s1.length : Int)) then
    (m_law01_examples).bind fun r1 =>
    some r1
  else
    (m_frac_Parse s1).bind fun r2 =>
    (m_ref01_Parse s1).bind fun r3 =>
    (m_frac_Format a1).bind fun r4 =>
    (m_ref01_Format a1).bind fun r5 =>
    (gd (((decide (r4 = r5)) && ((decide (r2.1.N = r3.1.N)) && (decide (r2.1.D = r3.1.D)))) && (decide (r2.2 = r3.2))) (m_law01_examples)).bind fun r6 =>
    some ((((decide (r4 = r5)) && ((decide (r2.1.N = r3.1.N)) && (decide (r2.1.D = r3.1.D)))) && (decide (r2.2 = r3.2))) && r6)

/- brocade.brocadelaw01.FracRoundTrip -/
def m_law01_FracRoundTrip_j1 (s1 : List UInt8) : Option Bool :=
  (m_frac_Parse s1).bind fun r2 =>
  (gd (!(!decide (r2.2 = 0))) (m_frac_Format r2.1)).bind fun r3 =>
  (gd ((!decide (r2.2 = 0)) || (decide (r3 = s1))) (m_law01_examples)).bind fun r4 =>
  some (((!decide (r2.2 = 0)) || (decide (r3 = s1))) && r4)
def m_law01_FracRoundTrip (n1 : Int) (d1 : Int) (s1 : List UInt8) : Option Bool :=
  if decide (200 < (s1.length : Int)) then
    (m_law01_examples).bind fun r1 =>
    some r1
  else
    (m_frac_New n1 d1).bind fun r5 =>
    if decide (r5.2 = 0) then
      (m_frac_Format r5.1).bind fun r6 =>
      (m_frac_Parse r6).bind fun r7 =>
      if (!((decide (r7.1.N = r5.1.N)) && (decide (r7.1.D = r5.1.D)))) || (!decide (r7.2 = 0)) then
        some false
      else
        m_law01_FracRoundTrip_j1 s1
    else
      m_law01_FracRoundTrip_j1 s1

/- brocade.frac.Mul -/
def m_frac_Mul (a1 : GVal) (b1 : GVal) : Option (GVal × Int) :=
  (m_frac_Valid a1).bind fun r1 =>
  (gd (!(!r1)) (m_frac_Valid b1)).bind fun r2 =>
  if (!r1) || (!r2) then
    some ((⟨0, 0⟩ : GVal), 1)
  else
    (m_frac_New (wi64 (a1.N * b1.N)) (wi64 (a1.D * b1.D))).bind fun r3 =>
    some (r3.1, r3.2)

/- brocade.frac.Sub -/
def m_frac_Sub (a1 : GVal) (b1 : GVal) : Option (GVal × Int) :=
  (m_frac_Valid a1).bind fun r1 =>
  (gd (!(!r1)) (m_frac_Valid b1)).bind fun r2 =>
  if (!r1) || (!r2) then
    some ((⟨0, 0⟩ : GVal), 1)
  else
    (m_frac_New (wi64 ((wi64 (a1.N * b1.D)) - (wi64 (b1.N * a1.D)))) (wi64 (a1.D * b1.D))).bind fun r3 =>
    some (r3.1, r3.2)

/- brocade.brocadelaw01.FracRingLaws -/
def m_law01_FracRingLaws_j1 (b1 : GVal) (c1 : GVal) (a1 : GVal) (r1 : GVal × Int) (r3 : GVal × Int) : Option Bool :=
  (m_frac_Add b1 c1).bind fun r5 =>
  (m_frac_Mul a1 c1).bind fun r6 =>
  if (((!decide (r1.2 = 0)) || (!decide (r3.2 = 0))) || (!decide (r5.2 = 0))) || (!decide (r6.2 = 0)) then
    (m_law01_examples).bind fun r7 =>
    some r7
  else
    (m_frac_Add r1.1 c1).bind fun r8 =>
    (m_frac_Add a1 r5.1).bind fun r9 =>
    if (!((decide (r8.1.N = r9.1.N)) && (decide (r8.1.D = r9.1.D)))) || (!decide (r8.2 = r9.2)) then
      some false
    else
      (m_frac_Mul a1 r5.1).bind fun r10 =>
      (m_frac_Add r3.1 r6.1).bind fun r11 =>
      (gd (((decide (r10.1.N = r11.1.N)) && (decide (r10.1.D = r11.1.D))) && (decide (r10.2 = r11.2))) (m_law01_examples)).bind fun r12 =>
      some ((((decide (r10.1.N = r11.1.N)) && (decide (r10.1.D = r11.1.D))) && (decide (r10.2 = r11.2))) && r12)
def m_law01_FracRingLaws (a1 : GVal) (b1 : GVal) (c1 : GVal) : Option Bool :=
  (m_frac_Add a1 b1).bind fun r1 =>
  (m_frac_Add b1 a1).bind fun r2 =>
  (m_frac_Mul a1 b1).bind fun r3 =>
  (m_frac_Mul b1 a1).bind fun r4 =>
  if (((!((decide (r1.1.N = r2.1.N)) && (decide (r1.1.D = r2.1.D)))) || (!decide (r1.2 = r2.2))) || (!((decide (r3.1.N = r4.1.N)) && (decide (r3.1.D = r4.1.D))))) || (!decide (r3.2 = r4.2)) then
    some false
  else
    if decide (r1.2 = 0) then
      (m_frac_Sub r1.1 b1).bind fun r13 =>
      if (!decide (r13.2 = 0)) || (!((decide (r13.1.N = a1.N)) && (decide (r13.1.D = a1.D)))) then
        some false
      else
        m_law01_FracRingLaws_j1 b1 c1 a1 r1 r3
    else
      m_law01_FracRingLaws_j1 b1 c1 a1 r1 r3

/- brocade.brocaderef01.Add -/
def m_ref01_Add (a1 : GVal) (b1 : GVal) : Option (GVal × Int) :=
  (m_ref01_Valid a1).bind fun r1 =>
  (gd (!(!r1)) (m_ref01_Valid b1)).bind fun r2 =>
  if (!r1) || (!r2) then
    some ((⟨0, 0⟩ : GVal), 1)
  else
    (m_ref01_New (wi64 ((wi64 (a1.N * b1.D)) + (wi64 (b1.N * a1.D)))) (wi64 (a1.D * b1.D))).bind fun r3 =>
    some (r3.1, r3.2)

/- brocade.brocaderef01.Sub -/
def m_ref01_Sub (a1 : GVal) (b1 : GVal) : Option (GVal × Int) :=
  (m_ref01_Valid a1).bind fun r1 =>
  (gd (!(!r1)) (m_ref01_Valid b1)).bind fun r2 =>
  if (!r1) || (!r2) then
    some ((⟨0, 0⟩ : GVal), 1)
  else
    (m_ref01_New (wi64 ((wi64 (a1.N * b1.D)) - (wi64 (b1.N * a1.D)))) (wi64 (a1.D * b1.D))).bind fun r3 =>
    some (r3.1, r3.2)

/- brocade.brocaderef01.Mul -/
def m_ref01_Mul (a1 : GVal) (b1 : GVal) : Option (GVal × Int) :=
  (m_ref01_Valid a1).bind fun r1 =>
  (gd (!(!r1)) (m_ref01_Valid b1)).bind fun r2 =>
  if (!r1) || (!r2) then
    some ((⟨0, 0⟩ : GVal), 1)
  else
    (m_ref01_New (wi64 (a1.N * b1.N)) (wi64 (a1.D * b1.D))).bind fun r3 =>
    some (r3.1, r3.2)

/- brocade.frac.Div -/
def m_frac_Div (a1 : GVal) (b1 : GVal) : Option (GVal × Int) :=
  (m_frac_Valid a1).bind fun r1 =>
  (gd (!(!r1)) (m_frac_Valid b1)).bind fun r2 =>
  if (!r1) || (!r2) then
    some ((⟨0, 0⟩ : GVal), 1)
  else
    (m_frac_New (wi64 (a1.N * b1.D)) (wi64 (a1.D * b1.N))).bind fun r3 =>
    some (r3.1, r3.2)

/- brocade.brocaderef01.Div -/
def m_ref01_Div (a1 : GVal) (b1 : GVal) : Option (GVal × Int) :=
  (m_ref01_Valid a1).bind fun r1 =>
  (gd (!(!r1)) (m_ref01_Valid b1)).bind fun r2 =>
  if (!r1) || (!r2) then
    some ((⟨0, 0⟩ : GVal), 1)
  else
    (m_ref01_New (wi64 (a1.N * b1.D)) (wi64 (a1.D * b1.N))).bind fun r3 =>
    some (r3.1, r3.2)

/- brocade.brocaderef01.Neg -/
def m_ref01_Neg (a1 : GVal) : Option GVal :=
  (m_ref01_Valid a1).bind fun r1 =>
  if !r1 then
    some (⟨0, 0⟩ : GVal)
  else
    some (⟨wi64 (-a1.N), a1.D⟩ : GVal)

/- brocade.brocadelaw01.FracArithmetic -/
def m_law01_FracArithmetic (a1 : GVal) (b1 : GVal) : Option Bool :=
  (m_frac_Add a1 b1).bind fun r1 =>
  (m_ref01_Add a1 b1).bind fun r2 =>
  (m_frac_Sub a1 b1).bind fun r3 =>
  (m_ref01_Sub a1 b1).bind fun r4 =>
  (m_frac_Mul a1 b1).bind fun r5 =>
  (m_ref01_Mul a1 b1).bind fun r6 =>
  (m_frac_Div a1 b1).bind fun r7 =>
  (m_ref01_Div a1 b1).bind fun r8 =>
  (gd (((((((((decide (r1.1.N = r2.1.N)) && (decide (r1.1.D = r2.1.D))) && (decide (r1.2 = r2.2))) && ((decide (r3.1.N = r4.1.N)) && (decide (r3.1.D = r4.1.D)))) && (decide (r3.2 = r4.2))) && ((decide (r5.1.N = r6.1.N)) && (decide (r5.1.D = r6.1.D)))) && (decide (r5.2 = r6.2))) && ((decide (r7.1.N = r8.1.N)) && (decide (r7.1.D = r8.1.D)))) && (decide (r7.2 = r8.2))) (m_frac_Neg a1)).bind fun r9 =>
  (gd (((((((((decide (r1.1.N = r2.1.N)) && (decide (r1.1.D = r2.1.D))) && (decide (r1.2 = r2.2))) && ((decide (r3.1.N = r4.1.N)) && (decide (r3.1.D = r4.1.D)))) && (decide (r3.2 = r4.2))) && ((decide (r5.1.N = r6.1.N)) && (decide (r5.1.D = r6.1.D)))) && (decide (r5.2 = r6.2))) && ((decide (r7.1.N = r8.1.N)) && (decide (r7.1.D = r8.1.D)))) && (decide (r7.2 = r8.2))) (m_ref01_Neg a1)).bind fun r10 =>
  (gd ((((((((((decide (r1.1.N = r2.1.N)) && (decide (r1.1.D = r2.1.D))) && (decide (r1.2 = r2.2))) && ((decide (r3.1.N = r4.1.N)) && (decide (r3.1.D = r4.1.D)))) && (decide (r3.2 = r4.2))) && ((decide (r5.1.N = r6.1.N)) && (decide (r5.1.D = r6.1.D)))) && (decide (r5.2 = r6.2))) && ((decide (r7.1.N = r8.1.N)) && (decide (r7.1.D = r8.1.D)))) && (decide (r7.2 = r8.2))) && ((decide (r9.N = r10.N)) && (decide (r9.D = r10.D)))) (m_law01_examples)).bind fun r11 =>
  some (((((((((((decide (r1.1.N = r2.1.N)) && (decide (r1.1.D = r2.1.D))) && (decide (r1.2 = r2.2))) && ((decide (r3.1.N = r4.1.N)) && (decide (r3.1.D = r4.1.D)))) && (decide (r3.2 = r4.2))) && ((decide (r5.1.N = r6.1.N)) && (decide (r5.1.D = r6.1.D)))) && (decide (r5.2 = r6.2))) && ((decide (r7.1.N = r8.1.N)) && (decide (r7.1.D = r8.1.D)))) && (decide (r7.2 = r8.2))) && ((decide (r9.N = r10.N)) && (decide (r9.D = r10.D)))) && r11)

/- brocade.frac.order -/
def m_frac_order (a1 : Int) (b1 : Int) : Option Int :=
  if decide (a1 < b1) then
    some (-1)
  else
    if decide (b1 < a1) then
      some 1
    else
      some 0

/- brocade.frac.Compare -/
def m_frac_Compare (a1 : GVal) (b1 : GVal) : Option Int :=
  (m_frac_Valid a1).bind fun r1 =>
  (gd r1 (m_frac_Valid b1)).bind fun r2 =>
  if r1 && r2 then
    (m_frac_order (wi64 (a1.N * b1.D)) (wi64 (b1.N * a1.D))).bind fun r3 =>
    some r3
  else
    (m_frac_order a1.N b1.N).bind fun r4 =>
    if !decide (r4 = 0) then
      some r4
    else
      (m_frac_order a1.D b1.D).bind fun r5 =>
      some r5

/- brocade.brocaderef01.order -/
def m_ref01_order (a1 : Int) (b1 : Int) : Option Int :=
  if decide (a1 < b1) then
    some (-1)
  else
    if decide (b1 < a1) then
      some 1
    else
      some 0

/- brocade.brocaderef01.Compare -/
def m_ref01_Compare (a1 : GVal) (b1 : GVal) : Option Int :=
  (m_ref01_Valid a1).bind fun r1 =>
  (gd r1 (m_ref01_Valid b1)).bind fun r2 =>
  if r1 && r2 then
    (m_ref01_order (wi64 (a1.N * b1.D)) (wi64 (b1.N * a1.D))).bind fun r3 =>
    some r3
  else
    if !decide (a1.N = b1.N) then
      (m_ref01_order a1.N b1.N).bind fun r4 =>
      some r4
    else
      (m_ref01_order a1.D b1.D).bind fun r5 =>
      some r5

/- brocade.brocaderef01.Floor -/
def m_ref01_Floor (a1 : GVal) : Option Int :=
  (m_ref01_Valid a1).bind fun r1 =>
  if !r1 then
    some 0
  else
    if a1.D ≠ 0 then
      (some (wi64 (Int.tdiv a1.N a1.D))).bind fun n1 =>
      if decide (a1.N < wi64 (n1 * a1.D)) then
        some (wi64 (n1 - 1))
      else
        some n1
    else none

/- brocade.brocaderef01.Ceil -/
def m_ref01_Ceil (a1 : GVal) : Option Int :=
  (m_ref01_Neg a1).bind fun r1 =>
  (m_ref01_Floor r1).bind fun r2 =>
  some (wi64 (-r2))

/- brocade.brocadelaw01.FracOrdering -/
def m_law01_FracOrdering (a1 : GVal) (b1 : GVal) : Option Bool :=
  (m_frac_Compare a1 b1).bind fun r1 =>
  (m_ref01_Compare a1 b1).bind fun r2 =>
  (gd (decide (r1 = r2)) (m_frac_Floor a1)).bind fun r3 =>
  (gd (decide (r1 = r2)) (m_ref01_Floor a1)).bind fun r4 =>
  (gd ((decide (r1 = r2)) && (decide (r3 = r4))) (m_frac_Ceil a1)).bind fun r5 =>
  (gd ((decide (r1 = r2)) && (decide (r3 = r4))) (m_ref01_Ceil a1)).bind fun r6 =>
  (gd (((decide (r1 = r2)) && (decide (r3 = r4))) && (decide (r5 = r6))) (m_law01_examples)).bind fun r7 =>
  some ((((decide (r1 = r2)) && (decide (r3 = r4))) && (decide (r5 = r6))) && r7)

end Go.Proofs.YtkmenmoiagkegaaDoor
