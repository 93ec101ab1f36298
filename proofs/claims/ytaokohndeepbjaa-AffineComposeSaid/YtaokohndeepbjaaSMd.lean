import Derived.Test.YtaokohndeepbjaaSXm
namespace Go.Proofs.Ytaokohndeepbjaa
open Go Go.RowKit Go.Vc
set_option linter.unusedVariables false
set_option linter.unusedSimpArgs false
structure GMono where
 Name : List UInt8
 By : Int
deriving Inhabited, DecidableEq
def cGMono : Cod GMono where
 n := 2
 rel _ _ x cs := cs = [(str x.Name), (Value.int .i64 x.By)]
 len h := by subst h; rfl
 one h := by subst h; rfl
 sp _ h := h
structure GLin where
 K : Int
 L : List GMono
deriving Inhabited, DecidableEq
def cGLin : Cod GLin where
 n := 2
 rel D w x cs := ∃ (A0 : Option Addr) (c0 : Nat), cs = [(Value.int .i64 x.K), (Value.slice A0 x.L.length c0)] ∧ SlC cGMono D w A0 c0 x.L
 len h := by obtain ⟨_, _, rfl, _⟩ := h; rfl
 one h := by obtain ⟨A0, c0, rfl, h0⟩ := h; rfl
 sp hs h := by obtain ⟨A0, c0, rfl, h0⟩ := h; exact ⟨_, _, rfl, h0.sp hs⟩
structure GBinding where
 Name : List UInt8
 Val : Int
deriving Inhabited, DecidableEq
def cGBinding : Cod GBinding where
 n := 2
 rel _ _ x cs := cs = [(str x.Name), (Value.int .i64 x.Val)]
 len h := by subst h; rfl
 one h := by subst h; rfl
 sp _ h := h
structure Glin_wide where
 high : Int
 mid : Int
 low : Int
deriving Inhabited, DecidableEq
def fnP_k1 (v : Value) (m : (GBinding → Option Bool)) (D : NP) (w : World) : Prop :=
 isFn v = true ∧ ∀ (D' : NP) (w' : World), Sp D w D' w' → (∀ k, D' k → k < w'.heap.size) → ∀ (x_1 : GBinding) (r : Bool), AllCl [] D' w' → m x_1 = some r →
  CallV Try.prog v [(Value.agg #[(str x_1.Name), (Value.int .i64 x_1.Val)])] w' fun e w'' => e = .returned (Value.bool r) ∧ Ext w' w'' ∧ AllCl [] D' w''
theorem fnP_k1.sp {v : Value} {m : (GBinding → Option Bool)} {D D' : NP} {w w' : World} (hs : Sp D w D' w') (h : fnP_k1 v m D w) : fnP_k1 v m D' w' := ⟨h.1, fun D'' w'' hs' => h.2 D'' w'' (hs.trans hs')⟩
def clFn_k1 (v : Value) (m : (GBinding → Option Bool)) : Cl := ⟨fnP_k1 v m, fnP_k1.sp⟩
structure Gaffine_pair where
 p : List Int
 to_ : List Int
deriving Inhabited, DecidableEq
def cGaffine_pair : Cod Gaffine_pair where
 n := 2
 rel D w x cs := ∃ (A0 : Option Addr) (c0 : Nat) (A2 : Option Addr) (c2 : Nat), cs = [(Value.slice A0 x.p.length c0), (Value.slice A2 x.to_.length c2)] ∧ SlC (cInt .i64) D w A0 c0 x.p ∧ SlC (cInt .i64) D w A2 c2 x.to_
 len h := by obtain ⟨_, _, _, _, rfl, _, _⟩ := h; rfl
 one h := by obtain ⟨A0, c0, A2, c2, rfl, h0, h1⟩ := h; rfl
 sp hs h := by obtain ⟨A0, c0, A2, c2, rfl, h0, h1⟩ := h; exact ⟨_, _, _, _, rfl, h0.sp hs, h1.sp hs⟩
def fnS_k2 {σ : Type} (I : StI σ) (v : Value) (m : ((List Int) → (List Int) → σ → Option (Bool × σ))) (D : NP) (w : World) : Prop :=
 isFn v = true ∧ ∀ (C0 F : NP) (w' : World), Sp D w (Dj F C0) w' → ∀ (x_1 : List Int) (x_4 : List Int) (A_2 : Option Addr) (c_3 : Nat) (A_5 : Option Addr) (c_6 : Nat) (s : σ) (r : Bool × σ), Bun C0 F w' C0 w' [MO.st I s] [Cl.sl (cInt .i64) A_2 c_3 x_1, Cl.sl (cInt .i64) A_5 c_6 x_4] → m x_1 x_4 s = some r →
  CallV Try.prog v [(Value.slice A_2 x_1.length c_3), (Value.slice A_5 x_4.length c_6)] w' fun e w'' => ∃  (C : NP), e = .returned (Value.bool r.1) ∧ Bun C0 F w' C w'' [MO.st I r.2] []
theorem fnS_k2.sp {σ : Type} {I : StI σ} {v : Value} {m : ((List Int) → (List Int) → σ → Option (Bool × σ))} {D D' : NP} {w w' : World} (hs : Sp D w D' w') (h : fnS_k2 I v m D w) : fnS_k2 I v m D' w' := ⟨h.1, fun C0 F w'' hs' => h.2 C0 F w'' (hs.trans hs')⟩
def clFnS_k2 {σ : Type} (I : StI σ) (v : Value) (m : ((List Int) → (List Int) → σ → Option (Bool × σ))) : Cl := ⟨fnS_k2 I v m, fnS_k2.sp⟩
def fnS_k3 {σ : Type} (I : StI σ) (v : Value) (m : ((List Int) → σ → Option (Bool × σ))) (D : NP) (w : World) : Prop :=
 isFn v = true ∧ ∀ (C0 F : NP) (w' : World), Sp D w (Dj F C0) w' → ∀ (x_1 : List Int) (A_2 : Option Addr) (c_3 : Nat) (s : σ) (r : Bool × σ), Bun C0 F w' C0 w' [MO.st I s] [Cl.sl (cInt .i64) A_2 c_3 x_1] → m x_1 s = some r →
  CallV Try.prog v [(Value.slice A_2 x_1.length c_3)] w' fun e w'' => ∃  (C : NP), e = .returned (Value.bool r.1) ∧ Bun C0 F w' C w'' [MO.st I r.2] []
theorem fnS_k3.sp {σ : Type} {I : StI σ} {v : Value} {m : ((List Int) → σ → Option (Bool × σ))} {D D' : NP} {w w' : World} (hs : Sp D w D' w') (h : fnS_k3 I v m D w) : fnS_k3 I v m D' w' := ⟨h.1, fun C0 F w'' hs' => h.2 C0 F w'' (hs.trans hs')⟩
def clFnS_k3 {σ : Type} (I : StI σ) (v : Value) (m : ((List Int) → σ → Option (Bool × σ))) : Cl := ⟨fnS_k3 I v m, fnS_k3.sp⟩
def fnS_k4 {σ : Type} (I : StI σ) (v : Value) (m : (Int → σ → Option (Bool × σ))) (D : NP) (w : World) : Prop :=
 isFn v = true ∧ ∀ (C0 F : NP) (w' : World), Sp D w (Dj F C0) w' → ∀ (x_1 : Int) (s : σ) (r : Bool × σ), Bun C0 F w' C0 w' [MO.st I s] [] → m x_1 s = some r →
  CallV Try.prog v [(Value.int .i64 x_1)] w' fun e w'' => ∃  (C : NP), e = .returned (Value.bool r.1) ∧ Bun C0 F w' C w'' [MO.st I r.2] []
theorem fnS_k4.sp {σ : Type} {I : StI σ} {v : Value} {m : (Int → σ → Option (Bool × σ))} {D D' : NP} {w w' : World} (hs : Sp D w D' w') (h : fnS_k4 I v m D w) : fnS_k4 I v m D' w' := ⟨h.1, fun C0 F w'' hs' => h.2 C0 F w'' (hs.trans hs')⟩
def clFnS_k4 {σ : Type} (I : StI σ) (v : Value) (m : (Int → σ → Option (Bool × σ))) : Cl := ⟨fnS_k4 I v m, fnS_k4.sp⟩
def fnP_k5 (v : Value) (m : (Gaffine_pair → Gaffine_pair → Option Int)) (D : NP) (w : World) : Prop :=
 isFn v = true ∧ ∀ (D' : NP) (w' : World), Sp D w D' w' → (∀ k, D' k → k < w'.heap.size) → ∀ (x_1 : Gaffine_pair) (x_6 : Gaffine_pair) (A_2 : Option Addr) (c_3 : Nat) (A_4 : Option Addr) (c_5 : Nat) (A_7 : Option Addr) (c_8 : Nat) (A_9 : Option Addr) (c_10 : Nat) (r : Int), AllCl [Cl.sl (cInt .i64) A_2 c_3 x_1.p, Cl.sl (cInt .i64) A_4 c_5 x_1.to_, Cl.sl (cInt .i64) A_7 c_8 x_6.p, Cl.sl (cInt .i64) A_9 c_10 x_6.to_] D' w' → m x_1 x_6 = some r →
  CallV Try.prog v [(Value.agg #[(Value.slice A_2 x_1.p.length c_3), (Value.slice A_4 x_1.to_.length c_5)]), (Value.agg #[(Value.slice A_7 x_6.p.length c_8), (Value.slice A_9 x_6.to_.length c_10)])] w' fun e w'' => e = .returned (Value.int .i64 r) ∧ Ext w' w'' ∧ AllCl [] D' w''
theorem fnP_k5.sp {v : Value} {m : (Gaffine_pair → Gaffine_pair → Option Int)} {D D' : NP} {w w' : World} (hs : Sp D w D' w') (h : fnP_k5 v m D w) : fnP_k5 v m D' w' := ⟨h.1, fun D'' w'' hs' => h.2 D'' w'' (hs.trans hs')⟩
def clFn_k5 (v : Value) (m : (Gaffine_pair → Gaffine_pair → Option Int)) : Cl := ⟨fnP_k5 v m, fnP_k5.sp⟩
def fnS_k6 {σ : Type} (I : StI σ) (v : Value) (m : ((List UInt8) → Int → Int → σ → Option (Unit × σ))) (D : NP) (w : World) : Prop :=
 isFn v = true ∧ ∀ (C0 F : NP) (w' : World), Sp D w (Dj F C0) w' → ∀ (x_1 : List UInt8) (x_2 : Int) (x_3 : Int) (s : σ) (r : Unit × σ), Bun C0 F w' C0 w' [MO.st I s] [] → m x_1 x_2 x_3 s = some r →
  CallV Try.prog v [(str x_1), (Value.int .i64 x_2), (Value.int .i64 x_3)] w' fun e w'' => ∃  (C : NP), e = .returned (Value.tuple #[]) ∧ Bun C0 F w' C w'' [MO.st I r.2] []
theorem fnS_k6.sp {σ : Type} {I : StI σ} {v : Value} {m : ((List UInt8) → Int → Int → σ → Option (Unit × σ))} {D D' : NP} {w w' : World} (hs : Sp D w D' w') (h : fnS_k6 I v m D w) : fnS_k6 I v m D' w' := ⟨h.1, fun C0 F w'' hs' => h.2 C0 F w'' (hs.trans hs')⟩
def clFnS_k6 {σ : Type} (I : StI σ) (v : Value) (m : ((List UInt8) → Int → Int → σ → Option (Unit × σ))) : Cl := ⟨fnS_k6 I v m, fnS_k6.sp⟩
def m_ref10_Box_l1 (ext1 : List Int) : Nat → Int → Int → Option Int
 | 0, _, _ => none
 | fuel1 + 1, n2, i1 =>
  if (decide (i1 < (ext1.length : Int))) && (decide (0 < n2)) then
   (lat ext1 i1).bind fun e1 =>
   if decide (65536 < e1) then
    some 2
   else
    (lat ext1 i1).bind fun e2 =>
    if decide (65536 < wi64 (n2 * e2)) then
     some 2
    else
     (m_ref10_Box_l1 ext1 fuel1) (wi64 (n2 * e2)) (wi64 (i1 + 1))
  else
   some 0
def m_ref10_Box_j1 (ext1 : List Int) (n1 : Int) : Option Int :=
 m_ref10_Box_l1 ext1 fu n1 0
def m_ref10_Box_j2 (self2 : Int → Int → Option Int) (i2 : Int) (n4 : Int) : Option Int :=
 self2 n4 (wi64 (i2 + 1))
def m_ref10_Box_l2 (ext1 : List Int) : Nat → Int → Int → Option Int
 | 0, _, _ => none
 | fuel2 + 1, n3, i2 =>
  if decide (i2 < (ext1.length : Int)) then
   (lat ext1 i2).bind fun e3 =>
   if decide (e3 < 0) then
    some 1
   else
    (lat ext1 i2).bind fun e4 =>
    if decide (e4 = 0) then
     m_ref10_Box_j2 (m_ref10_Box_l2 ext1 fuel2) i2 0
    else
     m_ref10_Box_j2 (m_ref10_Box_l2 ext1 fuel2) i2 n3
  else
   m_ref10_Box_j1 ext1 n3
def m_ref10_Box (ext1 : List Int) : Option Int :=
 if decide (16 < (ext1.length : Int)) then
  some 2
 else
  m_ref10_Box_l2 ext1 fu 1 0
def m_ref10_Few_l1 (ext1 : List Int) (n1 : Int) : Nat → Int → Int → Option Bool
 | 0, _, _ => none
 | fuel1 + 1, many1, i1 =>
  if decide (i1 < (ext1.length : Int)) then
   (lat ext1 i1).bind fun e1 =>
   (m_ref10_Few_l1 ext1 n1 fuel1) (wi64 (many1 * e1)) (wi64 (i1 + 1))
  else
   some (decide (many1 ≤ n1))
def m_ref10_Few (ext1 : List Int) (n1 : Int) : Option Bool :=
 (m_ref10_Box ext1).bind fun r1 =>
 if !decide (r1 = 0) then
  some true
 else
  m_ref10_Few_l1 ext1 n1 fu 1 0
def m_law10_few_l1 (names1 : List (List UInt8)) : Nat → Int → Option Bool
 | 0, _ => none
 | fuel1 + 1, i1 =>
  if decide (i1 < (names1.length : Int)) then
   (lat names1 i1).bind fun e1 =>
   if decide (100 < (e1.length : Int)) then
    some false
   else
    (m_law10_few_l1 names1 fuel1) (wi64 (i1 + 1))
  else
   some true
def m_law10_few_j1 (names1 : List (List UInt8)) : Option Bool :=
 m_law10_few_l1 names1 fu 0
def m_law10_few_l2 (m1 : List GLin) (names1 : List (List UInt8)) : Nat → Int → Option Bool
 | 0, _ => none
 | fuel2 + 1, i2 =>
  if decide (i2 < (m1.length : Int)) then
   (lat m1 i2).bind fun e2 =>
   if decide (20 < (e2.L.length : Int)) then
    some false
   else
    (m_law10_few_l2 m1 names1 fuel2) (wi64 (i2 + 1))
  else
   m_law10_few_j1 names1
def m_law10_few (m1 : List GLin) (names1 : List (List UInt8)) (ext1 : List Int) : Option Bool :=
 (gd (!(((decide (20 < (m1.length : Int))) || (decide (20 < (names1.length : Int)))) || (decide (20 < (ext1.length : Int))))) (m_ref10_Few ext1 200)).bind fun r1 =>
 if (((decide (20 < (m1.length : Int))) || (decide (20 < (names1.length : Int)))) || (decide (20 < (ext1.length : Int)))) || (!r1) then
  some false
 else
  m_law10_few_l2 m1 names1 fu 0
def m_lin_reserved (s1 : List UInt8) : Option Bool :=
 if decide (s1 = ([115, 105, 122, 101] : List UInt8)) then
  if decide (s1 = ([115, 105, 122, 101] : List UInt8)) then
   some true
  else
   some false
 else
  if decide (s1 = ([119, 104, 101, 114, 101] : List UInt8)) then
   if decide (s1 = ([119, 104, 101, 114, 101] : List UInt8)) then
    some true
   else
    some false
  else
   if decide (s1 = ([105, 110] : List UInt8)) then
    if decide (s1 = ([105, 110] : List UInt8)) then
     some true
    else
     some false
   else
    if decide (s1 = ([100, 101, 102] : List UInt8)) then
     if decide (s1 = ([100, 101, 102] : List UInt8)) then
      some true
     else
      some false
    else
     if decide (s1 = ([111, 117, 116] : List UInt8)) then
      if decide (s1 = ([111, 117, 116] : List UInt8)) then
       some true
      else
       some false
     else
      if decide (s1 = ([115, 117, 109] : List UInt8)) then
       if decide (s1 = ([115, 117, 109] : List UInt8)) then
        some true
       else
        some false
      else
       if decide (s1 = ([112, 114, 111, 100] : List UInt8)) then
        if decide (s1 = ([112, 114, 111, 100] : List UInt8)) then
         some true
        else
         some false
       else
        if decide (s1 = ([109, 105, 110] : List UInt8)) then
         if decide (s1 = ([109, 105, 110] : List UInt8)) then
          some true
         else
          some false
        else
         if decide (s1 = ([109, 97, 120] : List UInt8)) then
          if decide (s1 = ([109, 97, 120] : List UInt8)) then
           some true
          else
           some false
         else
          if decide (s1 = ([115, 99, 97, 110] : List UInt8)) then
           if decide (s1 = ([115, 99, 97, 110] : List UInt8)) then
            some true
           else
            some false
          else
           if decide (s1 = ([111, 118, 101, 114] : List UInt8)) then
            if decide (s1 = ([111, 118, 101, 114] : List UInt8)) then
             some true
            else
             some false
           else
            if decide (s1 = ([105, 102] : List UInt8)) then
             if decide (s1 = ([105, 102] : List UInt8)) then
              some true
             else
              some false
            else
             if decide (s1 = ([99, 97, 115, 116] : List UInt8)) then
              if decide (s1 = ([99, 97, 115, 116] : List UInt8)) then
               some true
              else
               some false
             else
              if decide (s1 = ([102, 114, 97, 99] : List UInt8)) then
               if decide (s1 = ([102, 114, 97, 99] : List UInt8)) then
                some true
               else
                some false
              else
               if decide (s1 = ([105, 110, 116] : List UInt8)) then
                if decide (s1 = ([105, 110, 116] : List UInt8)) then
                 some true
                else
                 some false
               else
                if decide (s1 = ([102, 105, 120] : List UInt8)) then
                 if decide (s1 = ([102, 105, 120] : List UInt8)) then
                  some true
                 else
                  some false
                else
                 if decide (s1 = ([99, 101, 105, 108] : List UInt8)) then
                  if decide (s1 = ([99, 101, 105, 108] : List UInt8)) then
                   some true
                  else
                   some false
                 else
                  if decide (s1 = ([102, 108, 111, 111, 114] : List UInt8)) then
                   if decide (s1 = ([102, 108, 111, 111, 114] : List UInt8)) then
                    some true
                   else
                    some false
                  else
                   if decide (s1 = ([122, 101, 114, 111] : List UInt8)) then
                    if decide (s1 = ([122, 101, 114, 111] : List UInt8)) then
                     some true
                    else
                     some false
                   else
                    if decide (s1 = ([101, 118, 101, 110] : List UInt8)) then
                     if decide (s1 = ([101, 118, 101, 110] : List UInt8)) then
                      some true
                     else
                      some false
                    else
                     if decide (s1 = ([115, 97, 116] : List UInt8)) then
                      if decide (s1 = ([115, 97, 116] : List UInt8)) then
                       some true
                      else
                       some false
                     else
                      if decide (s1 = ([119, 114, 97, 112] : List UInt8)) then
                       some true
                      else
                       some false
def m_lin_identifier_l1 (s1 : List UInt8) : Nat → Int → Option Bool
 | 0, _ => none
 | fuel1 + 1, i1 =>
  if decide (i1 < (s1.length : Int)) then
   (sat s1 i1).bind fun b3 =>
   if (((decide (b3 < 97)) || (decide (122 < b3))) && ((decide (b3 < 48)) || (decide (57 < b3)))) && (!decide (b3 = 95)) then
    some false
   else
    (m_lin_identifier_l1 s1 fuel1) (wi64 (i1 + 1))
  else
   some true
def m_lin_identifier (s1 : List UInt8) : Option Bool :=
 (gd (!((decide ((s1.length : Int) < 1)) || (decide (16 < (s1.length : Int))))) (m_lin_reserved s1)).bind fun r1 =>
 (gd (!(((decide ((s1.length : Int) < 1)) || (decide (16 < (s1.length : Int)))) || r1)) (sat s1 0)).bind fun b1 =>
 (gd (!((((decide ((s1.length : Int) < 1)) || (decide (16 < (s1.length : Int)))) || r1) || (decide (b1 < 97)))) (sat s1 0)).bind fun b2 =>
 if ((((decide ((s1.length : Int) < 1)) || (decide (16 < (s1.length : Int)))) || r1) || (decide (b1 < 97))) || (decide (122 < b2)) then
  some false
 else
  m_lin_identifier_l1 s1 fu 0
def m_lin_Var (name1 : List UInt8) : Option GLin :=
 (m_lin_identifier name1).bind fun r1 =>
 if !r1 then
  some (⟨0, ([] : List GMono)⟩ : GLin)
 else
  some (⟨0, ([(⟨name1, 1⟩ : GMono)] : List GMono)⟩ : GLin)
def m_slices_Index_string_string_l1 (s1 : List (List UInt8)) (v1 : List UInt8) : Nat → Int → Option Int
 | 0, _ => none
 | fuel1 + 1, i1 =>
  if decide (i1 < (s1.length : Int)) then
   (lat s1 i1).bind fun e1 =>
   if decide (v1 = e1) then
    some i1
   else
    (m_slices_Index_string_string_l1 s1 v1 fuel1) (wi64 (i1 + 1))
  else
   some (-1)
def m_slices_Index_string_string (s1 : List (List UInt8)) (v1 : List UInt8) : Option Int :=
 m_slices_Index_string_string_l1 s1 v1 fu 0
def m_slices_Contains_string_string (s1 : List (List UInt8)) (v1 : List UInt8) : Option Bool :=
 (m_slices_Index_string_string s1 v1).bind fun r1 =>
 some (decide (0 ≤ r1))
def m_affine_named_l1 (names1 : List (List UInt8)) : Nat → Int → Option Int
 | 0, _ => none
 | fuel1 + 1, i1 =>
  if decide (i1 < (names1.length : Int)) then
   (lat names1 i1).bind fun e1 =>
   (m_lin_Var e1).bind fun r1 =>
   if decide ((r1.L.length : Int) = 0) then
    some 7
   else
    (lupto names1 i1).bind fun zs1 =>
    (m_slices_Contains_string_string zs1 e1).bind fun r2 =>
    if r2 then
     some 8
    else
     (m_affine_named_l1 names1 fuel1) (wi64 (i1 + 1))
  else
   some 0
def m_affine_named (names1 : List (List UInt8)) : Option Int :=
 m_affine_named_l1 names1 fu 0
def m_lin_Validate_l1 (l1 : GLin) : Nat → Int → Option Int
 | 0, _ => none
 | fuel1 + 1, i1 =>
  if decide (i1 < (l1.L.length : Int)) then
   (lat l1.L i1).bind fun e1 =>
   (m_lin_identifier e1.Name).bind fun r1 =>
   (gd ((!((!r1) || (decide (e1.By = 0)))) && (decide (0 < i1))) (lat l1.L (wi64 (i1 - 1)))).bind fun e2 =>
   if ((!r1) || (decide (e1.By = 0))) || ((decide (0 < i1)) && (!Op.bytesLess e2.Name e1.Name)) then
    some 1
   else
    (m_lin_Validate_l1 l1 fuel1) (wi64 (i1 + 1))
  else
   some 0
def m_lin_Validate (l1 : GLin) : Option Int :=
 m_lin_Validate_l1 l1 fu 0
def m_affine_Validate_j1 (self1 : Int → Option Int) (i1 : Int) : Option Int :=
 self1 (wi64 (i1 + 1))
def m_affine_Validate_l2 (e1 : GLin) (names1 : List (List UInt8)) (self1 : Int → Option Int) (i1 : Int) : Nat → Int → Option Int
 | 0, _ => none
 | fuel2 + 1, i2 =>
  if decide (i2 < (e1.L.length : Int)) then
   (lat e1.L i2).bind fun e2 =>
   (m_slices_Contains_string_string names1 e2.Name).bind fun r3 =>
   if !r3 then
    some 9
   else
    (m_affine_Validate_l2 e1 names1 self1 i1 fuel2) (wi64 (i2 + 1))
  else
   m_affine_Validate_j1 self1 i1
def m_affine_Validate_l1 (m1 : List GLin) (names1 : List (List UInt8)) : Nat → Int → Option Int
 | 0, _ => none
 | fuel1 + 1, i1 =>
  if decide (i1 < (m1.length : Int)) then
   (lat m1 i1).bind fun e1 =>
   (m_lin_Validate e1).bind fun r2 =>
   if !decide (r2 = 0) then
    some 1
   else
    m_affine_Validate_l2 e1 names1 (m_affine_Validate_l1 m1 names1 fuel1) i1 fu 0
  else
   some 0
def m_affine_Validate (m1 : List GLin) (names1 : List (List UInt8)) : Option Int :=
 if (decide (16 < (m1.length : Int))) || (decide (16 < (names1.length : Int))) then
  some 2
 else
  (m_affine_named names1).bind fun r1 =>
  if !decide (r1 = 0) then
   some r1
  else
   m_affine_Validate_l1 m1 names1 fu 0
def m_affine_bind_l1 (names1 : List (List UInt8)) (p1 : List Int) : Nat → (List GBinding) → Int → Option (List GBinding)
 | 0, _, _ => none
 | fuel1 + 1, env1, i1 =>
  if decide (i1 < (names1.length : Int)) then
   (lat names1 i1).bind fun e1 =>
   (lat p1 i1).bind fun e2 =>
   (lapp env1 ([(⟨e1, e2⟩ : GBinding)] : List GBinding)).bind fun zs1 =>
   (m_affine_bind_l1 names1 p1 fuel1) zs1 (wi64 (i1 + 1))
  else
   some env1
def m_affine_bind (names1 : List (List UInt8)) (p1 : List Int) : Option (List GBinding) :=
 m_affine_bind_l1 names1 p1 fu ([] : List GBinding) 0
def m_lin_magnitude (n1 : Int) : Option Int :=
 if decide (n1 < 0) then
  some (wu64 (-(wu64 n1)))
 else
  some (wu64 n1)
def m_lin_Eval_1 (b1 : GBinding) (a1 : GMono) : Option Bool :=
 some (decide (b1.Name = a1.Name))
def m_slices_IndexFunc_api_Binding_api_Binding_l1 (s1 : List GBinding) (f1 : (GBinding → Option Bool)) : Nat → Int → Option Int
 | 0, _ => none
 | fuel1 + 1, i1 =>
  if decide (i1 < (s1.length : Int)) then
   (lat s1 i1).bind fun e1 =>
   (f1 e1).bind fun r1 =>
   if r1 then
    some i1
   else
    (m_slices_IndexFunc_api_Binding_api_Binding_l1 s1 f1 fuel1) (wi64 (i1 + 1))
  else
   some (-1)
def m_slices_IndexFunc_api_Binding_api_Binding (s1 : List GBinding) (f1 : (GBinding → Option Bool)) : Option Int :=
 m_slices_IndexFunc_api_Binding_api_Binding_l1 s1 f1 fu 0
def m_lin_product (a1 : Int) (b1 : Int) : Option (Int × Int) :=
 (some (wu64 ((bits .and .u64 a1 4294967295) * (bits .and .u64 b1 4294967295)))).bind fun low1 =>
 (some (wu64 ((wu64 ((Int.fdiv a1 (2 ^ 32)) * (bits .and .u64 b1 4294967295))) + (Int.fdiv low1 (2 ^ 32))))).bind fun mid1 =>
 (some (wu64 ((wu64 ((bits .and .u64 a1 4294967295) * (Int.fdiv b1 (2 ^ 32)))) + (bits .and .u64 mid1 4294967295)))).bind fun cross1 =>
 (some (wu64 ((wu64 ((wu64 ((Int.fdiv a1 (2 ^ 32)) * (Int.fdiv b1 (2 ^ 32)))) + (Int.fdiv mid1 (2 ^ 32)))) + (Int.fdiv cross1 (2 ^ 32))))).bind fun hi1 =>
 some (hi1, wu64 (a1 * b1))
def m_lin_wide_narrow (w1 : Glin_wide) : Option (Int × Bool) :=
 (some (wu64 (Int.fdiv (wi64 w1.low) (2 ^ 63)))).bind fun sign1 =>
 some (wi64 w1.low, (decide (w1.mid = sign1)) && (decide (w1.high = sign1)))
def m_lin_wide_add_w_j4 (w1 : Glin_wide) (top1 : Int) (hi2 : Int) (carry1 : Int) (lo2 : Int) (over2 : Int) : Option (Unit × Glin_wide) :=
 some ((), (⟨wu64 (w1.high + (wu64 (top1 + over2))), wu64 ((wu64 (w1.mid + hi2)) + carry1), wu64 (w1.low + lo2)⟩ : Glin_wide))
def m_lin_wide_add_w_j3 (w1 : Glin_wide) (hi2 : Int) (carry1 : Int) (top1 : Int) (lo2 : Int) (over1 : Int) : Option (Unit × Glin_wide) :=
 if decide (wu64 ((wu64 (w1.mid + hi2)) + carry1) < wu64 (w1.mid + hi2)) then
  m_lin_wide_add_w_j4 w1 top1 hi2 carry1 lo2 (wu64 (over1 + 1))
 else
  m_lin_wide_add_w_j4 w1 top1 hi2 carry1 lo2 over1
def m_lin_wide_add_w_j2 (w1 : Glin_wide) (hi2 : Int) (top1 : Int) (lo2 : Int) (carry1 : Int) : Option (Unit × Glin_wide) :=
 if decide (wu64 (w1.mid + hi2) < hi2) then
  m_lin_wide_add_w_j3 w1 hi2 carry1 top1 lo2 1
 else
  m_lin_wide_add_w_j3 w1 hi2 carry1 top1 lo2 0
def m_lin_wide_add_w_j1 (w1 : Glin_wide) (hi2 : Int) (lo2 : Int) (top1 : Int) : Option (Unit × Glin_wide) :=
 if decide (wu64 (w1.low + lo2) < lo2) then
  m_lin_wide_add_w_j2 w1 hi2 top1 lo2 1
 else
  m_lin_wide_add_w_j2 w1 hi2 top1 lo2 0
def m_lin_wide_add_w (w1 : Glin_wide) (hi1 : Int) (lo1 : Int) (negative1 : Bool) : Option (Unit × Glin_wide) :=
 if negative1 then
  (some (bits .xor .u64 18446744073709551615 0)).bind fun top2 =>
  (some (bits .xor .u64 18446744073709551615 hi1)).bind fun hi3 =>
  (some (bits .xor .u64 18446744073709551615 lo1)).bind fun lo3 =>
  if decide (wu64 (lo3 + 1) = 0) then
   if decide (wu64 (hi3 + 1) = 0) then
    m_lin_wide_add_w_j1 w1 (wu64 (hi3 + 1)) (wu64 (lo3 + 1)) (wu64 (top2 + 1))
   else
    m_lin_wide_add_w_j1 w1 (wu64 (hi3 + 1)) (wu64 (lo3 + 1)) top2
  else
   m_lin_wide_add_w_j1 w1 hi3 (wu64 (lo3 + 1)) top2
 else
  m_lin_wide_add_w_j1 w1 hi1 lo1 0
def m_lin_Eval_j1 (sum1 : Glin_wide) : Option (Int × Int) :=
 (m_lin_wide_narrow sum1).bind fun r4 =>
 if !r4.2 then
  some (0, 3)
 else
  some (r4.1, 0)
def m_lin_Eval_l1 (l1 : GLin) (env1 : List GBinding) : Nat → Int → Glin_wide → Option (Int × Int)
 | 0, _, _ => none
 | fuel1 + 1, i1, sum2 =>
  if decide (i1 < (l1.L.length : Int)) then
   (lat l1.L i1).bind fun e1 =>
   (m_slices_IndexFunc_api_Binding_api_Binding env1 (fun y_1 => m_lin_Eval_1 y_1 e1)).bind fun r5 =>
   if decide (r5 < 0) then
    some (0, 9)
   else
    (lat env1 r5).bind fun e2 =>
    (m_lin_magnitude e1.By).bind fun r6 =>
    (m_lin_magnitude e2.Val).bind fun r7 =>
    (m_lin_product r6 r7).bind fun r8 =>
    (m_lin_wide_add_w sum2 r8.1 r8.2 ((decide (e1.By < 0)) != (decide (e2.Val < 0)))).bind fun ⟨r9, s2⟩ =>
    (m_lin_Eval_l1 l1 env1 fuel1) (wi64 (i1 + 1)) s2
  else
   m_lin_Eval_j1 sum2
def m_lin_Eval (l1 : GLin) (env1 : List GBinding) : Option (Int × Int) :=
 (m_lin_Validate l1).bind fun r1 =>
 if !decide (r1 = 0) then
  some (0, 1)
 else
  (m_lin_magnitude l1.K).bind fun r2 =>
  (m_lin_wide_add_w (⟨0, 0, 0⟩ : Glin_wide) 0 r2 (decide (l1.K < 0))).bind fun ⟨r3, s1⟩ =>
  m_lin_Eval_l1 l1 env1 fu 0 s1
def m_affine_image_l1 (m1 : List GLin) (r1 : List GBinding) : Nat → (List Int) → Int → Option (List Int × Int)
 | 0, _, _ => none
 | fuel1 + 1, out1, i1 =>
  if decide (i1 < (m1.length : Int)) then
   (lat m1 i1).bind fun e1 =>
   (m_lin_Eval e1 r1).bind fun r2 =>
   if !decide (r2.2 = 0) then
    some (([] : List Int), r2.2)
   else
    (lapp out1 ([r2.1] : List Int)).bind fun zs1 =>
    (m_affine_image_l1 m1 r1 fuel1) zs1 (wi64 (i1 + 1))
  else
   some (out1, 0)
def m_affine_image (m1 : List GLin) (names1 : List (List UInt8)) (p1 : List Int) : Option (List Int × Int) :=
 (m_affine_bind names1 p1).bind fun r1 =>
 m_affine_image_l1 m1 r1 fu ([] : List Int) 0
def m_affine_Apply (m1 : List GLin) (names1 : List (List UInt8)) (p1 : List Int) : Option (List Int × Int) :=
 (m_affine_Validate m1 names1).bind fun r1 =>
 if !decide (r1 = 0) then
  some (([] : List Int), r1)
 else
  if !decide ((p1.length : Int) = (names1.length : Int)) then
   some (([] : List Int), 11)
  else
   (m_affine_image m1 names1 p1).bind fun r2 =>
   some (r2.1, r2.2)
def m_box_Validate_j2 (self1 : Int → Int → Option Int) (i1 : Int) (points2 : Int) : Option Int :=
 self1 points2 (wi64 (i1 + 1))
def m_box_Validate_l1 (ext1 : List Int) (empty1 : Bool) : Nat → Int → Int → Option Int
 | 0, _, _ => none
 | fuel1 + 1, points1, i1 =>
  if decide (i1 < (ext1.length : Int)) then
   (lat ext1 i1).bind fun e1 =>
   if ((!empty1) = true → points1 ≠ 0) then
    if (!empty1) && (decide (wi64 (Int.tdiv 65536 points1) < e1)) then
     some 2
    else
     if !empty1 then
      m_box_Validate_j2 (m_box_Validate_l1 ext1 empty1 fuel1) i1 (wi64 (points1 * e1))
     else
      m_box_Validate_j2 (m_box_Validate_l1 ext1 empty1 fuel1) i1 points1
   else none
  else
   some 0
def m_box_Validate_j1 (ext1 : List Int) (empty1 : Bool) : Option Int :=
 m_box_Validate_l1 ext1 empty1 fu 1 0
def m_box_Validate_l2 (ext1 : List Int) : Nat → Bool → Int → Option Int
 | 0, _, _ => none
 | fuel2 + 1, empty2, i2 =>
  if decide (i2 < (ext1.length : Int)) then
   (lat ext1 i2).bind fun e2 =>
   if decide (e2 < 0) then
    some 1
   else
    (some (empty2 || (decide (e2 = 0)))).bind fun empty3 =>
    (m_box_Validate_l2 ext1 fuel2) empty3 (wi64 (i2 + 1))
  else
   m_box_Validate_j1 ext1 empty2
def m_box_Validate (ext1 : List Int) : Option Int :=
 if decide (16 < (ext1.length : Int)) then
  some 2
 else
  m_box_Validate_l2 ext1 fu false 0
def m_affine_boxed (names1 : List (List UInt8)) (ext1 : List Int) : Option Int :=
 (m_box_Validate ext1).bind fun r1 =>
 if !decide (r1 = 0) then
  some r1
 else
  if !decide ((ext1.length : Int) = (names1.length : Int)) then
   some 11
  else
   some 0
def m_slices_Clone_int_int_o (s1 : List Int) : Option (List Int) :=
 (lapp ([] : List Int) s1).bind fun zs1 =>
 some (zs1)
def m_box_Count_l1 (ext1 : List Int) : Nat → Int → Int → Option Int
 | 0, _, _ => none
 | fuel1 + 1, points1, i1 =>
  if decide (i1 < (ext1.length : Int)) then
   (lat ext1 i1).bind fun e1 =>
   (m_box_Count_l1 ext1 fuel1) (wi64 (points1 * e1)) (wi64 (i1 + 1))
  else
   some points1
def m_box_Count_j1 (ext1 : List Int) : Option Int :=
 m_box_Count_l1 ext1 fu 1 0
def m_box_Count_l2 (ext1 : List Int) : Nat → Int → Option Int
 | 0, _ => none
 | fuel2 + 1, i2 =>
  if decide (i2 < (ext1.length : Int)) then
   (lat ext1 i2).bind fun e2 =>
   if decide (e2 = 0) then
    some 0
   else
    (m_box_Count_l2 ext1 fuel2) (wi64 (i2 + 1))
  else
   m_box_Count_j1 ext1
def m_box_Count (ext1 : List Int) : Option Int :=
 (m_box_Validate ext1).bind fun r1 =>
 if !decide (r1 = 0) then
  some 0
 else
  m_box_Count_l2 ext1 fu 0
def m_box_numbers (ext1 : List Int) : Option (List Int) :=
 some ext1
def m_box_Point_l1 (ext1 : List Int) : Nat → Int → (List Int) → Int → Option (List Int × Bool)
 | 0, _, _, _ => none
 | fuel1 + 1, at2, p1, i2 =>
  if decide (0 ≤ i2) then
   (lat ext1 i2).bind fun e1 =>
   if e1 ≠ 0 then
    if 0 ≤ i2 ∧ i2 < (p1.length : Int) then
     (lat ext1 i2).bind fun e2 =>
     if e2 ≠ 0 then
      (m_box_Point_l1 ext1 fuel1) (wi64 (Int.tdiv at2 e2)) (p1.set (Int.toNat i2) (Int.tmod at2 e1)) (wi64 (i2 - 1))
     else none
    else none
   else none
  else
   some (p1, true)
def m_box_Point (ext1 : List Int) (at1 : Int) : Option (List Int × Bool) :=
 (gd (!(decide (at1 < 0))) (m_box_Count ext1)).bind fun r1 =>
 if (decide (at1 < 0)) || (decide (r1 ≤ at1)) then
  some (([] : List Int), false)
 else
  (lmake 0 (ext1.length : Int) (ext1.length : Int)).bind fun zs1 =>
  (some (wi64 ((ext1.length : Int) - 1))).bind fun i1 =>
  m_box_Point_l1 ext1 fu at1 zs1 i1
def m_box_All (ext1 : List Int) : Option (List Int) :=
 (lapp ([] : List Int) ext1).bind fun zs1 =>
 some zs1
def m_box_numbers_1_s_l1 {σ : Type}  (r1 : Int) (yield1 : (Int → σ → Option (Bool × σ))) : Nat → Int → σ → Option (Unit × σ)
 | 0, _, _ => none
 | fuel1 + 1, i1, s2 =>
  if decide (i1 < r1) then
   (yield1 i1 s2).bind fun ⟨r2, s3⟩ =>
   if !r2 then
    some ((), s3)
   else
    (m_box_numbers_1_s_l1 r1 yield1 fuel1) (wi64 (i1 + 1)) s3
  else
   some ((), s2)
def m_box_numbers_1_s {σ : Type}  (yield1 : (Int → σ → Option (Bool × σ))) (a1 : List Int) (s1 : σ) : Option (Unit × σ) :=
 (m_box_Count a1).bind fun r1 =>
 m_box_numbers_1_s_l1 r1 yield1 fu 0 s1
def m_box_All_1_s_b1 {σ : Type}  (a1 : List Int) (yield1 : ((List Int) → σ → Option (Bool × σ))) (y1 : Int) (s2 : σ) : Option (Bool × (Nat × σ)) :=
 (m_box_Point a1 y1).bind fun r2 =>
 (yield1 r2.1 s2).bind fun ⟨r3, s3⟩ =>
 if !r3 then
  some (false, (1, s3))
 else
  some (true, (0, s3))
def m_box_All_1_s {σ : Type}  (yield1 : ((List Int) → σ → Option (Bool × σ))) (a1 : List Int) (s1 : σ) : Option (Unit × σ) :=
 (m_box_numbers a1).bind fun r1 =>
 (m_box_numbers_1_s (fun k_0 q => if q.1 = 0 then m_box_All_1_s_b1 a1 yield1 k_0 q.2 else none) r1 (0, s1)).bind fun ⟨u1, o1, s4⟩ =>
 if o1 = 0 then
  some ((), s4)
 else
  if o1 = 1 then
   some ((), s4)
  else
   none
def m_affine_all_1_w (p1 : List Int) (to1 : List Int) (a3 : List Gaffine_pair) : Option (Bool × List Gaffine_pair) :=
 (m_slices_Clone_int_int_o p1).bind fun r1 =>
 (lapp a3 ([(⟨r1, to1⟩ : Gaffine_pair)] : List Gaffine_pair)).bind fun zs1 =>
 some (true, zs1)
def m_affine_visit_s_b1 {σ : Type}  (m1 : List GLin) (names1 : List (List UInt8)) (f1 : ((List Int) → (List Int) → σ → Option (Bool × σ))) (y1 : List Int) (v1 : Int) (s2 : σ) : Option (Bool × (Nat × (Int × σ))) :=
 (m_affine_image m1 names1 y1).bind fun r2 =>
 if !decide (r2.2 = 0) then
  some (false, (1, (r2.2, s2)))
 else
  (f1 y1 r2.1 s2).bind fun ⟨r3, s3⟩ =>
  if !r3 then
   some (false, (2, (v1, s3)))
  else
   some (true, (0, (v1, s3)))
def m_affine_visit_s {σ : Type}  (m1 : List GLin) (names1 : List (List UInt8)) (ext1 : List Int) (f1 : ((List Int) → (List Int) → σ → Option (Bool × σ))) (s1 : σ) : Option (Int × σ) :=
 (m_box_All ext1).bind fun r1 =>
 (m_box_All_1_s (fun k_0 q => if q.1 = 0 then m_affine_visit_s_b1 m1 names1 f1 k_0 q.2.1 q.2.2 else none) r1 (0, (0, s1))).bind fun ⟨u1, o1, v2, s4⟩ =>
 if o1 = 0 then
  some (0, s4)
 else
  if o1 = 1 then
   some (v2, s4)
  else
   if o1 = 2 then
    some (0, s4)
   else
    none
def m_affine_all (m1 : List GLin) (names1 : List (List UInt8)) (ext1 : List Int) : Option (List Gaffine_pair × Int) :=
 (m_affine_visit_s m1 names1 ext1 (fun x_1 x_4 s => m_affine_all_1_w x_1 x_4 s) ([] : List Gaffine_pair)).bind fun ⟨r1, s1⟩ =>
 some (s1, r1)
def m_cmp_isNaN_int64 (x1 : Int) : Option Bool :=
 some (!decide (x1 = x1))
def m_cmp_Compare_int64 (x1 : Int) (y1 : Int) : Option Int :=
 (m_cmp_isNaN_int64 x1).bind fun r1 =>
 (m_cmp_isNaN_int64 y1).bind fun r2 =>
 if r1 then
  if r2 then
   some 0
  else
   some (-1)
 else
  if r2 then
   some 1
  else
   if decide (x1 < y1) then
    some (-1)
   else
    if decide (y1 < x1) then
     some 1
    else
     some 0
def m_slices_Compare_int64_int64_j1 (s1_1 : List Int) (s2_1 : List Int) : Option Int :=
 if decide ((s1_1.length : Int) < (s2_1.length : Int)) then
  some (-1)
 else
  some 0
def m_slices_Compare_int64_int64_l1 (s1_1 : List Int) (s2_1 : List Int) : Nat → Int → Option Int
 | 0, _ => none
 | fuel1 + 1, i1 =>
  if decide (i1 < (s1_1.length : Int)) then
   (lat s1_1 i1).bind fun e1 =>
   if decide ((s2_1.length : Int) ≤ i1) then
    some 1
   else
    (lat s2_1 i1).bind fun e2 =>
    (m_cmp_Compare_int64 e1 e2).bind fun r1 =>
    if !decide (r1 = 0) then
     some r1
    else
     (m_slices_Compare_int64_int64_l1 s1_1 s2_1 fuel1) (wi64 (i1 + 1))
  else
   m_slices_Compare_int64_int64_j1 s1_1 s2_1
def m_slices_Compare_int64_int64 (s1_1 : List Int) (s2_1 : List Int) : Option Int :=
 m_slices_Compare_int64_int64_l1 s1_1 s2_1 fu 0
def m_affine_sorted_1 (a1 : Gaffine_pair) (b1 : Gaffine_pair) : Option Int :=
 (m_slices_Compare_int64_int64 a1.to_ b1.to_).bind fun r1 =>
 some r1
def m_slices_Clone_affine_pair_affine_pair_o (s1 : List Gaffine_pair) : Option (List Gaffine_pair) :=
 (lapp ([] : List Gaffine_pair) s1).bind fun zs1 =>
 some (zs1)
def m_slices_insertionSortCmpFunc_affine_pair_w_j1 (self1 : Int → (List Gaffine_pair) → Option (Unit × List Gaffine_pair)) (i1 : Int) (l2 : List Gaffine_pair) : Option (Unit × List Gaffine_pair) :=
 self1 (wi64 (i1 + 1)) l2
def m_slices_insertionSortCmpFunc_affine_pair_w_l2 (a2 : Int) (cmp1 : (Gaffine_pair → Gaffine_pair → Option Int)) (self1 : Int → (List Gaffine_pair) → Option (Unit × List Gaffine_pair)) (i1 : Int) : Nat → Int → (List Gaffine_pair) → Option (Unit × List Gaffine_pair)
 | 0, _, _ => none
 | fuel2 + 1, j1, l3 =>
  (gd (decide (a2 < j1)) (lat l3 j1)).bind fun e1 =>
  (gd (decide (a2 < j1)) (lat l3 (wi64 (j1 - 1)))).bind fun e2 =>
  (gd (decide (a2 < j1)) (cmp1 e1 e2)).bind fun r1 =>
  if (decide (a2 < j1)) && (decide (r1 < 0)) then
   (lat l3 (wi64 (j1 - 1))).bind fun e3 =>
   (lat l3 j1).bind fun e4 =>
   if 0 ≤ j1 ∧ j1 < (l3.length : Int) then
    if 0 ≤ (wi64 (j1 - 1)) ∧ (wi64 (j1 - 1)) < ((l3.set (Int.toNat j1) e3).length : Int) then
     (m_slices_insertionSortCmpFunc_affine_pair_w_l2 a2 cmp1 self1 i1 fuel2) (wi64 (j1 - 1)) ((l3.set (Int.toNat j1) e3).set (Int.toNat (wi64 (j1 - 1))) e4)
    else none
   else none
  else
   m_slices_insertionSortCmpFunc_affine_pair_w_j1 self1 i1 l3
def m_slices_insertionSortCmpFunc_affine_pair_w_l1 (b1 : Int) (a2 : Int) (cmp1 : (Gaffine_pair → Gaffine_pair → Option Int)) : Nat → Int → (List Gaffine_pair) → Option (Unit × List Gaffine_pair)
 | 0, _, _ => none
 | fuel1 + 1, i1, l1 =>
  if decide (i1 < b1) then
   m_slices_insertionSortCmpFunc_affine_pair_w_l2 a2 cmp1 (m_slices_insertionSortCmpFunc_affine_pair_w_l1 b1 a2 cmp1 fuel1) i1 fu i1 l1
  else
   some ((), l1)
def m_slices_insertionSortCmpFunc_affine_pair_w (data1 : List Gaffine_pair) (a2 : Int) (b1 : Int) (cmp1 : (Gaffine_pair → Gaffine_pair → Option Int)) : Option (Unit × List Gaffine_pair) :=
 m_slices_insertionSortCmpFunc_affine_pair_w_l1 b1 a2 cmp1 fu (wi64 (a2 + 1)) data1
def m_slices_swapRangeCmpFunc_affine_pair_w_l1 (n2 : Int) (b1 : Int) (a2 : Int) : Nat → Int → (List Gaffine_pair) → Option (Unit × List Gaffine_pair)
 | 0, _, _ => none
 | fuel1 + 1, i1, l1 =>
  if decide (i1 < n2) then
   (lat l1 (wi64 (b1 + i1))).bind fun e1 =>
   (lat l1 (wi64 (a2 + i1))).bind fun e2 =>
   if 0 ≤ (wi64 (a2 + i1)) ∧ (wi64 (a2 + i1)) < (l1.length : Int) then
    if 0 ≤ (wi64 (b1 + i1)) ∧ (wi64 (b1 + i1)) < ((l1.set (Int.toNat (wi64 (a2 + i1))) e1).length : Int) then
     (m_slices_swapRangeCmpFunc_affine_pair_w_l1 n2 b1 a2 fuel1) (wi64 (i1 + 1)) ((l1.set (Int.toNat (wi64 (a2 + i1))) e1).set (Int.toNat (wi64 (b1 + i1))) e2)
    else none
   else none
  else
   some ((), l1)
def m_slices_swapRangeCmpFunc_affine_pair_w (data1 : List Gaffine_pair) (a2 : Int) (b1 : Int) (n2 : Int) (cmp1 : (Gaffine_pair → Gaffine_pair → Option Int)) : Option (Unit × List Gaffine_pair) :=
 m_slices_swapRangeCmpFunc_affine_pair_w_l1 n2 b1 a2 fu 0 data1
def m_slices_rotateCmpFunc_affine_pair_w_l1 (m1 : Int) (cmp1 : (Gaffine_pair → Gaffine_pair → Option Int)) : Nat → Int → Int → (List Gaffine_pair) → Option (Unit × List Gaffine_pair)
 | 0, _, _, _ => none
 | fuel1 + 1, i1, j1, l1 =>
  if !decide (i1 = j1) then
   if decide (j1 < i1) then
    (m_slices_swapRangeCmpFunc_affine_pair_w l1 (wi64 (m1 - i1)) m1 j1 cmp1).bind fun ⟨r1, s1⟩ =>
    (m_slices_rotateCmpFunc_affine_pair_w_l1 m1 cmp1 fuel1) (wi64 (i1 - j1)) j1 s1
   else
    (m_slices_swapRangeCmpFunc_affine_pair_w l1 (wi64 (m1 - i1)) (wi64 ((wi64 (m1 + j1)) - i1)) i1 cmp1).bind fun ⟨r2, s2⟩ =>
    (m_slices_rotateCmpFunc_affine_pair_w_l1 m1 cmp1 fuel1) i1 (wi64 (j1 - i1)) s2
  else
   (m_slices_swapRangeCmpFunc_affine_pair_w l1 (wi64 (m1 - i1)) m1 i1 cmp1).bind fun ⟨r3, s3⟩ =>
   some ((), s3)
def m_slices_rotateCmpFunc_affine_pair_w (data1 : List Gaffine_pair) (a2 : Int) (m1 : Int) (b1 : Int) (cmp1 : (Gaffine_pair → Gaffine_pair → Option Int)) : Option (Unit × List Gaffine_pair) :=
 m_slices_rotateCmpFunc_affine_pair_w_l1 m1 cmp1 fu (wi64 (m1 - a2)) (wi64 (b1 - m1)) data1
def m_slices_symMergeCmpFunc_affine_pair_w_j6 (mid1 : Int) (end1 : Int) (b1 : Int) (rec_ : ((List Gaffine_pair) → Int → Int → Int → (Gaffine_pair → Gaffine_pair → Option Int) → Option (Unit × List Gaffine_pair))) (cmp1 : (Gaffine_pair → Gaffine_pair → Option Int)) (l2 : List Gaffine_pair) : Option (Unit × List Gaffine_pair) :=
 if (decide (mid1 < end1)) && (decide (end1 < b1)) then
  (rec_ l2 mid1 end1 b1 cmp1).bind fun ⟨r2, s1⟩ =>
  some ((), s1)
 else
  some ((), l2)
def m_slices_symMergeCmpFunc_affine_pair_w_j5 (a2 : Int) (start2 : Int) (mid1 : Int) (rec_ : ((List Gaffine_pair) → Int → Int → Int → (Gaffine_pair → Gaffine_pair → Option Int) → Option (Unit × List Gaffine_pair))) (cmp1 : (Gaffine_pair → Gaffine_pair → Option Int)) (end1 : Int) (b1 : Int) (l1 : List Gaffine_pair) : Option (Unit × List Gaffine_pair) :=
 if (decide (a2 < start2)) && (decide (start2 < mid1)) then
  (rec_ l1 a2 start2 mid1 cmp1).bind fun ⟨r3, s2⟩ =>
  m_slices_symMergeCmpFunc_affine_pair_w_j6 mid1 end1 b1 rec_ cmp1 s2
 else
  m_slices_symMergeCmpFunc_affine_pair_w_j6 mid1 end1 b1 rec_ cmp1 l1
def m_slices_symMergeCmpFunc_affine_pair_w_j4 (mid1 : Int) (m1 : Int) (data1 : List Gaffine_pair) (cmp1 : (Gaffine_pair → Gaffine_pair → Option Int)) (a2 : Int) (rec_ : ((List Gaffine_pair) → Int → Int → Int → (Gaffine_pair → Gaffine_pair → Option Int) → Option (Unit × List Gaffine_pair))) (b1 : Int) (start2 : Int) : Option (Unit × List Gaffine_pair) :=
 (some (wi64 ((wi64 (mid1 + m1)) - start2))).bind fun end1 =>
 if (decide (start2 < m1)) && (decide (m1 < end1)) then
  (m_slices_rotateCmpFunc_affine_pair_w data1 start2 m1 end1 cmp1).bind fun ⟨r4, s3⟩ =>
  m_slices_symMergeCmpFunc_affine_pair_w_j5 a2 start2 mid1 rec_ cmp1 end1 b1 s3
 else
  m_slices_symMergeCmpFunc_affine_pair_w_j5 a2 start2 mid1 rec_ cmp1 end1 b1 data1
def m_slices_symMergeCmpFunc_affine_pair_w_l1 (data1 : List Gaffine_pair) (p1 : Int) (cmp1 : (Gaffine_pair → Gaffine_pair → Option Int)) (mid1 : Int) (m1 : Int) (a2 : Int) (rec_ : ((List Gaffine_pair) → Int → Int → Int → (Gaffine_pair → Gaffine_pair → Option Int) → Option (Unit × List Gaffine_pair))) (b1 : Int) : Nat → Int → Int → Option (Unit × List Gaffine_pair)
 | 0, _, _ => none
 | fuel1 + 1, start3, r5 =>
  if decide (start3 < r5) then
   (some (wi64 (Int.fdiv (wu64 (wi64 (start3 + r5))) (2 ^ 1)))).bind fun c18 =>
   (lat data1 (wi64 (p1 - c18))).bind fun e1 =>
   (lat data1 c18).bind fun e2 =>
   (cmp1 e1 e2).bind fun r6 =>
   if !(decide (r6 < 0)) then
    (m_slices_symMergeCmpFunc_affine_pair_w_l1 data1 p1 cmp1 mid1 m1 a2 rec_ b1 fuel1) (wi64 (c18 + 1)) r5
   else
    (m_slices_symMergeCmpFunc_affine_pair_w_l1 data1 p1 cmp1 mid1 m1 a2 rec_ b1 fuel1) start3 c18
  else
   m_slices_symMergeCmpFunc_affine_pair_w_j4 mid1 m1 data1 cmp1 a2 rec_ b1 start3
def m_slices_symMergeCmpFunc_affine_pair_w_j3 (mid1 : Int) (m1 : Int) (data1 : List Gaffine_pair) (cmp1 : (Gaffine_pair → Gaffine_pair → Option Int)) (a2 : Int) (rec_ : ((List Gaffine_pair) → Int → Int → Int → (Gaffine_pair → Gaffine_pair → Option Int) → Option (Unit × List Gaffine_pair))) (b1 : Int) (start1 : Int) (r1 : Int) : Option (Unit × List Gaffine_pair) :=
 (some (wi64 ((wi64 (mid1 + m1)) - 1))).bind fun p1 =>
 m_slices_symMergeCmpFunc_affine_pair_w_l1 data1 p1 cmp1 mid1 m1 a2 rec_ b1 fu start1 r1
def m_slices_symMergeCmpFunc_affine_pair_w_j2 (a2 : Int) (b1 : Int) (m1 : Int) (data1 : List Gaffine_pair) (cmp1 : (Gaffine_pair → Gaffine_pair → Option Int)) (rec_ : ((List Gaffine_pair) → Int → Int → Int → (Gaffine_pair → Gaffine_pair → Option Int) → Option (Unit × List Gaffine_pair))) : Option (Unit × List Gaffine_pair) :=
 (some (wi64 (Int.fdiv (wu64 (wi64 (a2 + b1))) (2 ^ 1)))).bind fun mid1 =>
 if decide (mid1 < m1) then
  (some (wi64 ((wi64 (mid1 + m1)) - b1))).bind fun start4 =>
  m_slices_symMergeCmpFunc_affine_pair_w_j3 mid1 m1 data1 cmp1 a2 rec_ b1 start4 mid1
 else
  m_slices_symMergeCmpFunc_affine_pair_w_j3 mid1 m1 data1 cmp1 a2 rec_ b1 a2 m1
def m_slices_symMergeCmpFunc_affine_pair_w_l2 (i1 : Int) : Nat → Int → (List Gaffine_pair) → Option (Unit × List Gaffine_pair)
 | 0, _, _ => none
 | fuel2 + 1, k1, l3 =>
  if decide (i1 < k1) then
   (lat l3 (wi64 (k1 - 1))).bind fun e3 =>
   (lat l3 k1).bind fun e4 =>
   if 0 ≤ k1 ∧ k1 < (l3.length : Int) then
    if 0 ≤ (wi64 (k1 - 1)) ∧ (wi64 (k1 - 1)) < ((l3.set (Int.toNat k1) e3).length : Int) then
     (m_slices_symMergeCmpFunc_affine_pair_w_l2 i1 fuel2) (wi64 (k1 - 1)) ((l3.set (Int.toNat k1) e3).set (Int.toNat (wi64 (k1 - 1))) e4)
    else none
   else none
  else
   some ((), l3)
def m_slices_symMergeCmpFunc_affine_pair_w_j7 (m1 : Int) (data1 : List Gaffine_pair) (i1 : Int) : Option (Unit × List Gaffine_pair) :=
 m_slices_symMergeCmpFunc_affine_pair_w_l2 i1 fu m1 data1
def m_slices_symMergeCmpFunc_affine_pair_w_l3 (data1 : List Gaffine_pair) (m1 : Int) (cmp1 : (Gaffine_pair → Gaffine_pair → Option Int)) : Nat → Int → Int → Option (Unit × List Gaffine_pair)
 | 0, _, _ => none
 | fuel3 + 1, i2, j1 =>
  if decide (i2 < j1) then
   (some (wi64 (Int.fdiv (wu64 (wi64 (i2 + j1))) (2 ^ 1)))).bind fun h1 =>
   (lat data1 m1).bind fun e5 =>
   (lat data1 h1).bind fun e6 =>
   (cmp1 e5 e6).bind fun r7 =>
   if !(decide (r7 < 0)) then
    (m_slices_symMergeCmpFunc_affine_pair_w_l3 data1 m1 cmp1 fuel3) (wi64 (h1 + 1)) j1
   else
    (m_slices_symMergeCmpFunc_affine_pair_w_l3 data1 m1 cmp1 fuel3) i2 h1
  else
   m_slices_symMergeCmpFunc_affine_pair_w_j7 m1 data1 i2
def m_slices_symMergeCmpFunc_affine_pair_w_j1 (b1 : Int) (m1 : Int) (data1 : List Gaffine_pair) (cmp1 : (Gaffine_pair → Gaffine_pair → Option Int)) (a2 : Int) (rec_ : ((List Gaffine_pair) → Int → Int → Int → (Gaffine_pair → Gaffine_pair → Option Int) → Option (Unit × List Gaffine_pair))) : Option (Unit × List Gaffine_pair) :=
 if decide (wi64 (b1 - m1) = 1) then
  m_slices_symMergeCmpFunc_affine_pair_w_l3 data1 m1 cmp1 fu a2 m1
 else
  m_slices_symMergeCmpFunc_affine_pair_w_j2 a2 b1 m1 data1 cmp1 rec_
def m_slices_symMergeCmpFunc_affine_pair_w_l4 (i3 : Int) : Nat → Int → (List Gaffine_pair) → Option (Unit × List Gaffine_pair)
 | 0, _, _ => none
 | fuel4 + 1, k2, l4 =>
  if decide (k2 < wi64 (i3 - 1)) then
   (lat l4 (wi64 (k2 + 1))).bind fun e7 =>
   (lat l4 k2).bind fun e8 =>
   if 0 ≤ k2 ∧ k2 < (l4.length : Int) then
    if 0 ≤ (wi64 (k2 + 1)) ∧ (wi64 (k2 + 1)) < ((l4.set (Int.toNat k2) e7).length : Int) then
     (m_slices_symMergeCmpFunc_affine_pair_w_l4 i3 fuel4) (wi64 (k2 + 1)) ((l4.set (Int.toNat k2) e7).set (Int.toNat (wi64 (k2 + 1))) e8)
    else none
   else none
  else
   some ((), l4)
def m_slices_symMergeCmpFunc_affine_pair_w_j8 (a2 : Int) (data1 : List Gaffine_pair) (i3 : Int) : Option (Unit × List Gaffine_pair) :=
 m_slices_symMergeCmpFunc_affine_pair_w_l4 i3 fu a2 data1
def m_slices_symMergeCmpFunc_affine_pair_w_l5 (data1 : List Gaffine_pair) (a2 : Int) (cmp1 : (Gaffine_pair → Gaffine_pair → Option Int)) : Nat → Int → Int → Option (Unit × List Gaffine_pair)
 | 0, _, _ => none
 | fuel5 + 1, i4, j2 =>
  if decide (i4 < j2) then
   (some (wi64 (Int.fdiv (wu64 (wi64 (i4 + j2))) (2 ^ 1)))).bind fun h2 =>
   (lat data1 h2).bind fun e9 =>
   (lat data1 a2).bind fun e10 =>
   (cmp1 e9 e10).bind fun r8 =>
   if decide (r8 < 0) then
    (m_slices_symMergeCmpFunc_affine_pair_w_l5 data1 a2 cmp1 fuel5) (wi64 (h2 + 1)) j2
   else
    (m_slices_symMergeCmpFunc_affine_pair_w_l5 data1 a2 cmp1 fuel5) i4 h2
  else
   m_slices_symMergeCmpFunc_affine_pair_w_j8 a2 data1 i4
def m_slices_symMergeCmpFunc_affine_pair_w_b (rec_ : ((List Gaffine_pair) → Int → Int → Int → (Gaffine_pair → Gaffine_pair → Option Int) → Option (Unit × List Gaffine_pair))) (data1 : List Gaffine_pair) (a2 : Int) (m1 : Int) (b1 : Int) (cmp1 : (Gaffine_pair → Gaffine_pair → Option Int)) : Option (Unit × List Gaffine_pair) :=
 if decide (wi64 (m1 - a2) = 1) then
  m_slices_symMergeCmpFunc_affine_pair_w_l5 data1 a2 cmp1 fu m1 b1
 else
  m_slices_symMergeCmpFunc_affine_pair_w_j1 b1 m1 data1 cmp1 a2 rec_
def m_slices_symMergeCmpFunc_affine_pair_w_r : Nat → ((List Gaffine_pair) → Int → Int → Int → (Gaffine_pair → Gaffine_pair → Option Int) → Option (Unit × List Gaffine_pair))
 | 0 => fun _ _ _ _ _ => none
 | n + 1 => m_slices_symMergeCmpFunc_affine_pair_w_b (m_slices_symMergeCmpFunc_affine_pair_w_r n)
def m_slices_symMergeCmpFunc_affine_pair_w (data1 : List Gaffine_pair) (a2 : Int) (m1 : Int) (b1 : Int) (cmp1 : (Gaffine_pair → Gaffine_pair → Option Int)) : Option (Unit × List Gaffine_pair) := m_slices_symMergeCmpFunc_affine_pair_w_r fu data1 a2 m1 b1 cmp1
def m_slices_stableCmpFunc_affine_pair_w_j3 (self1 : Int → (List Gaffine_pair) → Option (Unit × List Gaffine_pair)) (blockSize1 : Int) (l4 : List Gaffine_pair) : Option (Unit × List Gaffine_pair) :=
 self1 (wi64 (blockSize1 * 2)) l4
def m_slices_stableCmpFunc_affine_pair_w_j2 (blockSize1 : Int) (n2 : Int) (cmp1 : (Gaffine_pair → Gaffine_pair → Option Int)) (self1 : Int → (List Gaffine_pair) → Option (Unit × List Gaffine_pair)) (a3 : Int) (l3 : List Gaffine_pair) : Option (Unit × List Gaffine_pair) :=
 if decide (wi64 (a3 + blockSize1) < n2) then
  (m_slices_symMergeCmpFunc_affine_pair_w l3 a3 (wi64 (a3 + blockSize1)) n2 cmp1).bind fun ⟨r2, s2⟩ =>
  m_slices_stableCmpFunc_affine_pair_w_j3 self1 blockSize1 s2
 else
  m_slices_stableCmpFunc_affine_pair_w_j3 self1 blockSize1 l3
def m_slices_stableCmpFunc_affine_pair_w_l2 (n2 : Int) (blockSize1 : Int) (cmp1 : (Gaffine_pair → Gaffine_pair → Option Int)) (self1 : Int → (List Gaffine_pair) → Option (Unit × List Gaffine_pair)) : Nat → Int → Int → (List Gaffine_pair) → Option (Unit × List Gaffine_pair)
 | 0, _, _, _ => none
 | fuel2 + 1, a4, b1, l5 =>
  if decide (b1 ≤ n2) then
   (m_slices_symMergeCmpFunc_affine_pair_w l5 a4 (wi64 (a4 + blockSize1)) b1 cmp1).bind fun ⟨r3, s3⟩ =>
   (some (wi64 (b1 + (wi64 (2 * blockSize1))))).bind fun b2 =>
   (m_slices_stableCmpFunc_affine_pair_w_l2 n2 blockSize1 cmp1 self1 fuel2) b1 b2 s3
  else
   m_slices_stableCmpFunc_affine_pair_w_j2 blockSize1 n2 cmp1 self1 a4 l5
def m_slices_stableCmpFunc_affine_pair_w_l1 (n2 : Int) (cmp1 : (Gaffine_pair → Gaffine_pair → Option Int)) : Nat → Int → (List Gaffine_pair) → Option (Unit × List Gaffine_pair)
 | 0, _, _ => none
 | fuel1 + 1, blockSize1, l2 =>
  if decide (blockSize1 < n2) then
   m_slices_stableCmpFunc_affine_pair_w_l2 n2 blockSize1 cmp1 (m_slices_stableCmpFunc_affine_pair_w_l1 n2 cmp1 fuel1) fu 0 (wi64 (2 * blockSize1)) l2
  else
   some ((), l2)
def m_slices_stableCmpFunc_affine_pair_w_j1 (n2 : Int) (cmp1 : (Gaffine_pair → Gaffine_pair → Option Int)) (a2 : Int) (l1 : List Gaffine_pair) : Option (Unit × List Gaffine_pair) :=
 (m_slices_insertionSortCmpFunc_affine_pair_w l1 a2 n2 cmp1).bind fun ⟨r1, s1⟩ =>
 m_slices_stableCmpFunc_affine_pair_w_l1 n2 cmp1 fu 20 s1
def m_slices_stableCmpFunc_affine_pair_w_l3 (n2 : Int) (cmp1 : (Gaffine_pair → Gaffine_pair → Option Int)) : Nat → Int → Int → (List Gaffine_pair) → Option (Unit × List Gaffine_pair)
 | 0, _, _, _ => none
 | fuel3 + 1, a5, b3, l6 =>
  if decide (b3 ≤ n2) then
   (m_slices_insertionSortCmpFunc_affine_pair_w l6 a5 b3 cmp1).bind fun ⟨r4, s4⟩ =>
   (m_slices_stableCmpFunc_affine_pair_w_l3 n2 cmp1 fuel3) b3 (wi64 (b3 + 20)) s4
  else
   m_slices_stableCmpFunc_affine_pair_w_j1 n2 cmp1 a5 l6
def m_slices_stableCmpFunc_affine_pair_w (data1 : List Gaffine_pair) (n2 : Int) (cmp1 : (Gaffine_pair → Gaffine_pair → Option Int)) : Option (Unit × List Gaffine_pair) :=
 m_slices_stableCmpFunc_affine_pair_w_l3 n2 cmp1 fu 0 20 data1
def m_slices_SortStableFunc_affine_pair_affine_pair_w (x1 : List Gaffine_pair) (cmp1 : (Gaffine_pair → Gaffine_pair → Option Int)) : Option (Unit × List Gaffine_pair) :=
 (m_slices_stableCmpFunc_affine_pair_w x1 (x1.length : Int) cmp1).bind fun ⟨r1, s1⟩ =>
 some ((), s1)
def m_affine_sorted (l1 : List Gaffine_pair) : Option (List Gaffine_pair) :=
 (m_slices_Clone_affine_pair_affine_pair_o l1).bind fun r1 =>
 (m_slices_SortStableFunc_affine_pair_affine_pair_w r1 m_affine_sorted_1).bind fun ⟨r2, s1⟩ =>
 some s1
def m_slices_Equal_int64_int64_l1 (s1_1 : List Int) (s2_1 : List Int) : Nat → Int → Option Bool
 | 0, _ => none
 | fuel1 + 1, i1 =>
  if decide (i1 < (s1_1.length : Int)) then
   (lat s1_1 i1).bind fun e1 =>
   (lat s2_1 i1).bind fun e2 =>
   if !decide (e1 = e2) then
    some false
   else
    (m_slices_Equal_int64_int64_l1 s1_1 s2_1 fuel1) (wi64 (i1 + 1))
  else
   some true
def m_slices_Equal_int64_int64 (s1_1 : List Int) (s2_1 : List Int) : Option Bool :=
 if !decide ((s1_1.length : Int) = (s2_1.length : Int)) then
  some false
 else
  m_slices_Equal_int64_int64_l1 s1_1 s2_1 fu 0
def m_affine_Image_j1 (self1 : (List (List Int)) → Int → Option (List (List Int) × Int)) (i1 : Int) (out2 : List (List Int)) : Option (List (List Int) × Int) :=
 self1 out2 (wi64 (i1 + 1))
def m_affine_Image_l1 (r4 : List Gaffine_pair) : Nat → (List (List Int)) → Int → Option (List (List Int) × Int)
 | 0, _, _ => none
 | fuel1 + 1, out1, i1 =>
  if decide (i1 < (r4.length : Int)) then
   (lat r4 i1).bind fun e1 =>
   (gd (!(decide ((out1.length : Int) = 0))) (lat out1 (wi64 ((out1.length : Int) - 1)))).bind fun e2 =>
   (gd (!(decide ((out1.length : Int) = 0))) (m_slices_Equal_int64_int64 e2 e1.to_)).bind fun r5 =>
   if (decide ((out1.length : Int) = 0)) || (!r5) then
    (lapp out1 ([e1.to_] : List (List Int))).bind fun zs1 =>
    m_affine_Image_j1 (m_affine_Image_l1 r4 fuel1) i1 zs1
   else
    m_affine_Image_j1 (m_affine_Image_l1 r4 fuel1) i1 out1
  else
   some (out1, 0)
def m_affine_Image (m1 : List GLin) (names1 : List (List UInt8)) (ext1 : List Int) : Option (List (List Int) × Int) :=
 (m_affine_Validate m1 names1).bind fun r1 =>
 if !decide (r1 = 0) then
  some (([] : List (List Int)), r1)
 else
  (m_affine_boxed names1 ext1).bind fun r2 =>
  if !decide (r2 = 0) then
   some (([] : List (List Int)), r2)
  else
   (m_affine_all m1 names1 ext1).bind fun r3 =>
   if !decide (r3.2 = 0) then
    some (([] : List (List Int)), r3.2)
   else
    (m_affine_sorted r3.1).bind fun r4 =>
    m_affine_Image_l1 r4 fu ([] : List (List Int)) 0
def m_affine_Injective (m1 : List GLin) (names1 : List (List UInt8)) (ext1 : List Int) : Option (Bool × Int) :=
 (m_affine_Image m1 names1 ext1).bind fun r1 =>
 (gd (decide (r1.2 = 0)) (m_box_Count ext1)).bind fun r2 =>
 some ((decide (r1.2 = 0)) && (decide ((r1.1.length : Int) = r2)), r1.2)
def m_affine_FirstPreimage_1_w2 (p1 : List Int) (q1 : List Int) (a3 : List Int) (a5 : List Int) (a7 : Bool) : Option (Bool × List Int × Bool) :=
 (m_slices_Equal_int64_int64 q1 a3).bind fun r1 =>
 if r1 then
  some (!true, p1, true)
 else
  some (!a7, a5, a7)
def m_affine_FirstPreimage (m1 : List GLin) (names1 : List (List UInt8)) (ext1 : List Int) (to1 : List Int) : Option (List Int × Bool × Int) :=
 (m_affine_Validate m1 names1).bind fun r1 =>
 if !decide (r1 = 0) then
  some (([] : List Int), false, r1)
 else
  (m_affine_boxed names1 ext1).bind fun r2 =>
  if !decide (r2 = 0) then
   some (([] : List Int), false, r2)
  else
   if !decide ((to1.length : Int) = (m1.length : Int)) then
    some (([] : List Int), false, 11)
   else
    (m_affine_visit_s m1 names1 ext1 (fun x_1 x_4 s => m_affine_FirstPreimage_1_w2 x_1 x_4 to1 (s.1) (s.2)) (([] : List Int), false)).bind fun ⟨r3, s1⟩ =>
    if !decide (r3 = 0) then
     some (([] : List Int), false, r3)
    else
     some ((s1.1), (s1.2), 0)
def m_base_Int64s_l1 (a1 : List Int) (b1 : List Int) : Nat → Int → Option Bool
 | 0, _ => none
 | fuel1 + 1, i1 =>
  if decide (i1 < (a1.length : Int)) then
   (lat a1 i1).bind fun e1 =>
   (lat b1 i1).bind fun e2 =>
   if !decide (e1 = e2) then
    some false
   else
    (m_base_Int64s_l1 a1 b1 fuel1) (wi64 (i1 + 1))
  else
   some true
def m_base_Int64s (a1 : List Int) (b1 : List Int) : Option Bool :=
 if !decide ((a1.length : Int) = (b1.length : Int)) then
  some false
 else
  m_base_Int64s_l1 a1 b1 fu 0
def m_base_Ints_l1 (a1 : List Int) (b1 : List Int) : Nat → Int → Option Bool
 | 0, _ => none
 | fuel1 + 1, i1 =>
  if decide (i1 < (a1.length : Int)) then
   (lat a1 i1).bind fun e1 =>
   (lat b1 i1).bind fun e2 =>
   if !decide (e1 = e2) then
    some false
   else
    (m_base_Ints_l1 a1 b1 fuel1) (wi64 (i1 + 1))
  else
   some true
def m_base_Ints (a1 : List Int) (b1 : List Int) : Option Bool :=
 if !decide ((a1.length : Int) = (b1.length : Int)) then
  some false
 else
  m_base_Ints_l1 a1 b1 fu 0
def m_law10_examples : Option Bool :=
 (m_affine_Apply ([(⟨0, ([(⟨([105] : List UInt8), 2⟩ : GMono), (⟨([106] : List UInt8), 1⟩ : GMono)] : List GMono)⟩ : GLin), (⟨3, ([] : List GMono)⟩ : GLin)] : List GLin) ([([105] : List UInt8), ([106] : List UInt8)] : List (List UInt8)) ([1, 2] : List Int)).bind fun r1 =>
 (m_affine_Injective ([(⟨0, ([(⟨([105] : List UInt8), 2⟩ : GMono), (⟨([106] : List UInt8), 1⟩ : GMono)] : List GMono)⟩ : GLin), (⟨3, ([] : List GMono)⟩ : GLin)] : List GLin) ([([105] : List UInt8), ([106] : List UInt8)] : List (List UInt8)) ([2, 3] : List Int)).bind fun r2 =>
 (m_affine_Image ([(⟨0, ([(⟨([105] : List UInt8), 2⟩ : GMono), (⟨([106] : List UInt8), 1⟩ : GMono)] : List GMono)⟩ : GLin), (⟨3, ([] : List GMono)⟩ : GLin)] : List GLin) ([([105] : List UInt8), ([106] : List UInt8)] : List (List UInt8)) ([2, 3] : List Int)).bind fun r3 =>
 (m_affine_FirstPreimage ([(⟨0, ([(⟨([105] : List UInt8), 2⟩ : GMono), (⟨([106] : List UInt8), 1⟩ : GMono)] : List GMono)⟩ : GLin), (⟨3, ([] : List GMono)⟩ : GLin)] : List GLin) ([([105] : List UInt8), ([106] : List UInt8)] : List (List UInt8)) ([2, 3] : List Int) ([2, 3] : List Int)).bind fun r4 =>
 if (decide (r1.2 = 0)) = true then
  (m_base_Int64s r1.1 ([4, 3] : List Int)).bind fun r5 =>
  if ((((((((decide (r1.2 = 0)) && r5) && (!r2.1)) && (decide (r2.2 = 0))) && (decide ((r3.1.length : Int) = 5))) && (decide (r3.2 = 0))) && r4.2.1) && (decide (r4.2.2 = 0))) = true then
   (m_base_Ints r4.1 ([0, 2] : List Int)).bind fun r6 =>
   some (((((((((decide (r1.2 = 0)) && r5) && (!r2.1)) && (decide (r2.2 = 0))) && (decide ((r3.1.length : Int) = 5))) && (decide (r3.2 = 0))) && r4.2.1) && (decide (r4.2.2 = 0))) && r6)
  else none
 else none
def m_base_Words : Option (List (List UInt8)) :=
 some ([([115, 105, 122, 101] : List UInt8), ([119, 104, 101, 114, 101] : List UInt8), ([105, 110] : List UInt8), ([100, 101, 102] : List UInt8), ([111, 117, 116] : List UInt8), ([115, 117, 109] : List UInt8), ([112, 114, 111, 100] : List UInt8), ([109, 105, 110] : List UInt8), ([109, 97, 120] : List UInt8), ([115, 99, 97, 110] : List UInt8), ([111, 118, 101, 114] : List UInt8), ([105, 102] : List UInt8), ([99, 97, 115, 116] : List UInt8), ([102, 114, 97, 99] : List UInt8), ([105, 110, 116] : List UInt8), ([102, 105, 120] : List UInt8), ([99, 101, 105, 108] : List UInt8), ([102, 108, 111, 111, 114] : List UInt8), ([122, 101, 114, 111] : List UInt8), ([101, 118, 101, 110] : List UInt8), ([115, 97, 116] : List UInt8), ([119, 114, 97, 112] : List UInt8)] : List (List UInt8))
def m_base_Has_l1 (l1 : List (List UInt8)) (s1 : List UInt8) : Nat → Int → Option Bool
 | 0, _ => none
 | fuel1 + 1, i1 =>
  if decide (i1 < (l1.length : Int)) then
   (lat l1 i1).bind fun e1 =>
   if decide (e1 = s1) then
    some true
   else
    (m_base_Has_l1 l1 s1 fuel1) (wi64 (i1 + 1))
  else
   some false
def m_base_Has (l1 : List (List UInt8)) (s1 : List UInt8) : Option Bool :=
 m_base_Has_l1 l1 s1 fu 0
def m_base_Name_l1 (s1 : List UInt8) : Nat → Int → Option Bool
 | 0, _ => none
 | fuel1 + 1, i1 =>
  if decide (i1 < (s1.length : Int)) then
   (sat s1 i1).bind fun b1 =>
   if !(((decide (97 ≤ b1)) && (decide (b1 ≤ 122))) || ((decide (0 < i1)) && (((decide (48 ≤ b1)) && (decide (b1 ≤ 57))) || (decide (b1 = 95))))) then
    some false
   else
    (m_base_Name_l1 s1 fuel1) (wi64 (i1 + 1))
  else
   some true
def m_base_Name (s1 : List UInt8) : Option Bool :=
 (gd (!((decide ((s1.length : Int) < 1)) || (decide (16 < (s1.length : Int))))) (m_base_Words)).bind fun r1 =>
 (gd (!((decide ((s1.length : Int) < 1)) || (decide (16 < (s1.length : Int))))) (m_base_Has r1 s1)).bind fun r2 =>
 if ((decide ((s1.length : Int) < 1)) || (decide (16 < (s1.length : Int)))) || r2 then
  some false
 else
  m_base_Name_l1 s1 fu 0
def m_base_LinRight_l1 (l1 : GLin) : Nat → Int → Option Bool
 | 0, _ => none
 | fuel1 + 1, i1 =>
  if decide (i1 < (l1.L.length : Int)) then
   (lat l1.L i1).bind fun e1 =>
   (m_base_Name e1.Name).bind fun r1 =>
   (gd (!(!r1)) (lat l1.L i1)).bind fun e2 =>
   (gd ((!((!r1) || (decide (e2.By = 0)))) && (decide (0 < i1))) (lat l1.L (wi64 (i1 - 1)))).bind fun e3 =>
   (gd ((!((!r1) || (decide (e2.By = 0)))) && (decide (0 < i1))) (lat l1.L i1)).bind fun e4 =>
   if ((!r1) || (decide (e2.By = 0))) || ((decide (0 < i1)) && (!Op.bytesLess e3.Name e4.Name)) then
    some false
   else
    (m_base_LinRight_l1 l1 fuel1) (wi64 (i1 + 1))
  else
   some true
def m_base_LinRight (l1 : GLin) : Option Bool :=
 m_base_LinRight_l1 l1 fu 0
def m_ref10_Validate_j2 (self1 : Int → Option Int) (i1 : Int) : Option Int :=
 self1 (wi64 (i1 + 1))
def m_ref10_Validate_l2 (m1 : List GLin) (i1 : Int) (names1 : List (List UInt8)) (self1 : Int → Option Int) : Nat → Int → Option Int
 | 0, _ => none
 | fuel2 + 1, k1 =>
  (lat m1 i1).bind fun e2 =>
  if decide (k1 < (e2.L.length : Int)) then
   (lat m1 i1).bind fun e3 =>
   (lat e3.L k1).bind fun e4 =>
   (m_base_Has names1 e4.Name).bind fun r2 =>
   if !r2 then
    some 9
   else
    (m_ref10_Validate_l2 m1 i1 names1 self1 fuel2) (wi64 (k1 + 1))
  else
   m_ref10_Validate_j2 self1 i1
def m_ref10_Validate_l1 (m1 : List GLin) (names1 : List (List UInt8)) : Nat → Int → Option Int
 | 0, _ => none
 | fuel1 + 1, i1 =>
  if decide (i1 < (m1.length : Int)) then
   (lat m1 i1).bind fun e1 =>
   (m_base_LinRight e1).bind fun r1 =>
   if !r1 then
    some 1
   else
    m_ref10_Validate_l2 m1 i1 names1 (m_ref10_Validate_l1 m1 names1 fuel1) fu 0
  else
   some 0
def m_ref10_Validate_j1 (m1 : List GLin) (names1 : List (List UInt8)) : Option Int :=
 m_ref10_Validate_l1 m1 names1 fu 0
def m_ref10_Validate_l3 (names1 : List (List UInt8)) (m1 : List GLin) : Nat → Int → Option Int
 | 0, _ => none
 | fuel3 + 1, i2 =>
  if decide (i2 < (names1.length : Int)) then
   (lat names1 i2).bind fun e5 =>
   (m_base_Name e5).bind fun r3 =>
   if !r3 then
    some 7
   else
    (lupto names1 i2).bind fun zs1 =>
    (lat names1 i2).bind fun e6 =>
    (m_base_Has zs1 e6).bind fun r4 =>
    if r4 then
     some 8
    else
     (m_ref10_Validate_l3 names1 m1 fuel3) (wi64 (i2 + 1))
  else
   m_ref10_Validate_j1 m1 names1
def m_ref10_Validate (m1 : List GLin) (names1 : List (List UInt8)) : Option Int :=
 if (decide (16 < (m1.length : Int))) || (decide (16 < (names1.length : Int))) then
  some 2
 else
  m_ref10_Validate_l3 names1 m1 fu 0
def m_ref10_Place_l1 (names1 : List (List UInt8)) (s1 : List UInt8) : Nat → Int → Option Int
 | 0, _ => none
 | fuel1 + 1, i1 =>
  if decide (i1 < (names1.length : Int)) then
   (lat names1 i1).bind fun e1 =>
   if decide (e1 = s1) then
    some i1
   else
    (m_ref10_Place_l1 names1 s1 fuel1) (wi64 (i1 + 1))
  else
   some (-1)
def m_ref10_Place (names1 : List (List UInt8)) (s1 : List UInt8) : Option Int :=
 m_ref10_Place_l1 names1 s1 fu 0
def m_lin_Const (k1 : Int) : Option GLin :=
 some (⟨k1, ([] : List GMono)⟩ : GLin)
def m_lin_times (a1 : Int) (b1 : Int) : Option (Int × Bool) :=
 (m_lin_magnitude a1).bind fun r1 =>
 (m_lin_magnitude b1).bind fun r2 =>
 (m_lin_product r1 r2).bind fun r3 =>
 (some ((decide (a1 < 0)) != (decide (b1 < 0)))).bind fun negative1 =>
 if ((!decide (r3.1 = 0)) || (decide (9223372036854775808 < r3.2))) || ((decide (r3.2 = 9223372036854775808)) && (!negative1)) then
  some (0, false)
 else
  if negative1 then
   some (wi64 (wu64 (-r3.2)), true)
  else
   some (wi64 r3.2, true)
def m_lin_Scale_j1 (fits1 : Bool) (out1 : GLin) : Option (GLin × Int) :=
 if !fits1 then
  some ((⟨0, ([] : List GMono)⟩ : GLin), 3)
 else
  some (out1, 0)
def m_lin_Scale_l1 (a1 : GLin) (by1 : Int) : Nat → Bool → Int → GLin → Option (GLin × Int)
 | 0, _, _, _ => none
 | fuel1 + 1, fits2, i1, out2 =>
  if decide (i1 < (a1.L.length : Int)) then
   (lat a1.L i1).bind fun e1 =>
   (m_lin_times e1.By by1).bind fun r3 =>
   (lapp out2.L ([(⟨e1.Name, r3.1⟩ : GMono)] : List GMono)).bind fun zs1 =>
   (m_lin_Scale_l1 a1 by1 fuel1) (fits2 && r3.2) (wi64 (i1 + 1)) (⟨out2.K, zs1⟩ : GLin)
  else
   m_lin_Scale_j1 fits2 out2
def m_lin_Scale (a1 : GLin) (by1 : Int) : Option (GLin × Int) :=
 (m_lin_Validate a1).bind fun r1 =>
 if !decide (r1 = 0) then
  some ((⟨0, ([] : List GMono)⟩ : GLin), 1)
 else
  if decide (by1 = 0) then
   some ((⟨0, ([] : List GMono)⟩ : GLin), 0)
  else
   (m_lin_times a1.K by1).bind fun r2 =>
   m_lin_Scale_l1 a1 by1 fu r2.2 0 (⟨r2.1, ([] : List GMono)⟩ : GLin)
def m_lin_plus (a1 : Int) (b1 : Int) : Option (Int × Bool) :=
 some (wi64 (a1 + b1), (decide (a1 < wi64 (a1 + b1))) == (decide (0 < b1)))
def m_lin_Add_1_w (name1 : List UInt8) (x1 : Int) (y1 : Int) (a1 : Bool) (a2 : GLin) : Option (Unit × Bool × GLin) :=
 (m_lin_plus x1 y1).bind fun r1 =>
 if !decide (r1.1 = 0) then
  (lapp a2.L ([(⟨name1, r1.1⟩ : GMono)] : List GMono)).bind fun zs1 =>
  some ((), a1 && r1.2, (⟨a2.K, zs1⟩ : GLin))
 else
  some ((), a1 && r1.2, a2)
def m_lin_merge_s_l1 {σ : Type}  (each1 : ((List UInt8) → Int → Int → σ → Option (Unit × σ))) : Nat → (List GMono) → (List GMono) → σ → Option (Unit × σ)
 | 0, _, _, _ => none
 | fuel1 + 1, a4, b2, s2 =>
  if (decide (0 < (a4.length : Int))) || (decide (0 < (b2.length : Int))) then
   (gd ((!(decide ((b2.length : Int) = 0))) && (decide (0 < (a4.length : Int)))) (lat a4 0)).bind fun e1 =>
   (gd ((!(decide ((b2.length : Int) = 0))) && (decide (0 < (a4.length : Int)))) (lat b2 0)).bind fun e2 =>
   if (decide ((b2.length : Int) = 0)) || ((decide (0 < (a4.length : Int))) && (Op.bytesLess e1.Name e2.Name)) then
    (lat a4 0).bind fun e3 =>
    (lat a4 0).bind fun e4 =>
    (each1 e3.Name e4.By 0 s2).bind fun ⟨r1, s3⟩ =>
    (lfrom a4 1).bind fun zs1 =>
    (m_lin_merge_s_l1 each1 fuel1) zs1 b2 s3
   else
    (gd (!(decide ((a4.length : Int) = 0))) (lat b2 0)).bind fun e5 =>
    (gd (!(decide ((a4.length : Int) = 0))) (lat a4 0)).bind fun e6 =>
    if (decide ((a4.length : Int) = 0)) || (Op.bytesLess e5.Name e6.Name) then
     (lat b2 0).bind fun e7 =>
     (lat b2 0).bind fun e8 =>
     (each1 e7.Name 0 e8.By s2).bind fun ⟨r2, s4⟩ =>
     (lfrom b2 1).bind fun zs2 =>
     (m_lin_merge_s_l1 each1 fuel1) a4 zs2 s4
    else
     (lat a4 0).bind fun e9 =>
     (lat a4 0).bind fun e10 =>
     (lat b2 0).bind fun e11 =>
     (each1 e9.Name e10.By e11.By s2).bind fun ⟨r3, s5⟩ =>
     (lfrom a4 1).bind fun zs3 =>
     (lfrom b2 1).bind fun zs4 =>
     (m_lin_merge_s_l1 each1 fuel1) zs3 zs4 s5
  else
   some ((), s2)
def m_lin_merge_s {σ : Type}  (a1 : List GMono) (b1 : List GMono) (each1 : ((List UInt8) → Int → Int → σ → Option (Unit × σ))) (s1 : σ) : Option (Unit × σ) :=
 m_lin_merge_s_l1 each1 fu a1 b1 s1
def m_lin_Add (a1 : GLin) (b1 : GLin) : Option (GLin × Int) :=
 (m_lin_Validate a1).bind fun r1 =>
 (gd (!(!decide (r1 = 0))) (m_lin_Validate b1)).bind fun r2 =>
 if (!decide (r1 = 0)) || (!decide (r2 = 0)) then
  some ((⟨0, ([] : List GMono)⟩ : GLin), 1)
 else
  (m_lin_plus a1.K b1.K).bind fun r3 =>
  (m_lin_merge_s a1.L b1.L (fun x_1 x_2 x_3 s => m_lin_Add_1_w x_1 x_2 x_3 (s.1) (s.2)) (r3.2, (⟨r3.1, ([] : List GMono)⟩ : GLin))).bind fun ⟨r4, s1⟩ =>
  if !(s1.1) then
   some ((⟨0, ([] : List GMono)⟩ : GLin), 3)
  else
   some ((s1.2), 0)
def m_affine_Compose_j1 (self1 : (List GLin) → Int → Option (List GLin × Int)) (i1 : Int) (out2 : List GLin) : Option (List GLin × Int) :=
 self1 out2 (wi64 (i1 + 1))
def m_affine_Compose_j2 (out1 : List GLin) (self1 : (List GLin) → Int → Option (List GLin × Int)) (i1 : Int) (sum1 : GLin) : Option (List GLin × Int) :=
 (lapp out1 ([sum1] : List GLin)).bind fun zs1 =>
 m_affine_Compose_j1 self1 i1 zs1
def m_affine_Compose_l2 (e1 : GLin) (names1 : List (List UInt8)) (m1 : List GLin) (out1 : List GLin) (self1 : (List GLin) → Int → Option (List GLin × Int)) (i1 : Int) : Nat → Int → GLin → Option (List GLin × Int)
 | 0, _, _ => none
 | fuel2 + 1, i2, sum2 =>
  if decide (i2 < (e1.L.length : Int)) then
   (lat e1.L i2).bind fun e2 =>
   (m_slices_Index_string_string names1 e2.Name).bind fun r4 =>
   (lat m1 r4).bind fun e3 =>
   (m_lin_Scale e3 e2.By).bind fun r5 =>
   if !decide (r5.2 = 0) then
    some (([] : List GLin), r5.2)
   else
    (m_lin_Add sum2 r5.1).bind fun r6 =>
    if !decide (r6.2 = 0) then
     some (([] : List GLin), r6.2)
    else
     (m_affine_Compose_l2 e1 names1 m1 out1 self1 i1 fuel2) (wi64 (i2 + 1)) r6.1
  else
   m_affine_Compose_j2 out1 self1 i1 sum2
def m_affine_Compose_l1 (next1 : List GLin) (names1 : List (List UInt8)) (m1 : List GLin) : Nat → (List GLin) → Int → Option (List GLin × Int)
 | 0, _, _ => none
 | fuel1 + 1, out1, i1 =>
  if decide (i1 < (next1.length : Int)) then
   (lat next1 i1).bind fun e1 =>
   (m_lin_Const e1.K).bind fun r3 =>
   m_affine_Compose_l2 e1 names1 m1 out1 (m_affine_Compose_l1 next1 names1 m1 fuel1) i1 fu 0 r3
  else
   some (out1, 0)
def m_affine_Compose (m1 : List GLin) (names1 : List (List UInt8)) (next1 : List GLin) : Option (List GLin × Int) :=
 (m_affine_Validate m1 names1).bind fun r1 =>
 if !decide (r1 = 0) then
  some (([] : List GLin), r1)
 else
  (m_affine_Validate next1 names1).bind fun r2 =>
  if !decide (r2 = 0) then
   some (([] : List GLin), r2)
  else
   if !decide ((m1.length : Int) = (names1.length : Int)) then
    some (([] : List GLin), 11)
   else
    m_affine_Compose_l1 next1 names1 m1 fu ([] : List GLin) 0
def m_base_Times (a1 : Int) (b1 : Int) : Option (Int × Bool) :=
 if (decide (a1 = 0)) || (decide (b1 = 0)) then
  some (0, true)
 else
  if ((!(((decide (a1 = (-1))) && (decide (b1 = (-9223372036854775808)))) || ((decide (b1 = (-1))) && (decide (a1 = (-9223372036854775808)))))) = true → b1 ≠ 0) then
   if (((decide (a1 = (-1))) && (decide (b1 = (-9223372036854775808)))) || ((decide (b1 = (-1))) && (decide (a1 = (-9223372036854775808))))) || (!decide (wi64 (Int.tdiv (wi64 (a1 * b1)) b1) = a1)) then
    some (0, false)
   else
    some (wi64 (a1 * b1), true)
  else none
def m_base_Plus (a1 : Int) (b1 : Int) : Option (Int × Bool) :=
 if ((decide (0 < b1)) && (decide (wi64 (9223372036854775807 - b1) < a1))) || ((decide (b1 < 0)) && (decide (a1 < wi64 ((-9223372036854775808) - b1)))) then
  some (0, false)
 else
  some (wi64 (a1 + b1), true)
def m_ref10_plus_j1 (out1 : GLin) (e5 : GMono) (self1 : Bool → Int → Int → GLin → Option (GLin × Bool)) (good1 : Bool) (j1 : Int) (i2 : Int) (n1 : Int) (fit1 : Bool) : Option (GLin × Bool) :=
 if !decide (n1 = 0) then
  (lapp out1.L ([(⟨e5.Name, n1⟩ : GMono)] : List GMono)).bind fun zs2 =>
  self1 (good1 && fit1) i2 (wi64 (j1 + 1)) (⟨out1.K, zs2⟩ : GLin)
 else
  self1 (good1 && fit1) i2 (wi64 (j1 + 1)) out1
def m_ref10_plus_l1 (a1 : GLin) (b1 : GLin) (by1 : Int) : Nat → Bool → Int → Int → GLin → Option (GLin × Bool)
 | 0, _, _, _, _ => none
 | fuel1 + 1, good1, i1, j1, out1 =>
  if (decide (i1 < (a1.L.length : Int))) || (decide (j1 < (b1.L.length : Int))) then
   (gd ((!(decide ((b1.L.length : Int) ≤ j1))) && (decide (i1 < (a1.L.length : Int)))) (lat a1.L i1)).bind fun e1 =>
   (gd ((!(decide ((b1.L.length : Int) ≤ j1))) && (decide (i1 < (a1.L.length : Int)))) (lat b1.L j1)).bind fun e2 =>
   if (decide ((b1.L.length : Int) ≤ j1)) || ((decide (i1 < (a1.L.length : Int))) && (Op.bytesLess e1.Name e2.Name)) then
    (lat a1.L i1).bind fun e3 =>
    (lapp out1.L ([e3] : List GMono)).bind fun zs1 =>
    (m_ref10_plus_l1 a1 b1 by1 fuel1) good1 (wi64 (i1 + 1)) j1 (⟨out1.K, zs1⟩ : GLin)
   else
    (lat b1.L j1).bind fun e4 =>
    (m_base_Times e4.By by1).bind fun r3 =>
    (lat b1.L j1).bind fun e5 =>
    (gd (decide (i1 < (a1.L.length : Int))) (lat a1.L i1)).bind fun e6 =>
    if (decide (i1 < (a1.L.length : Int))) && (decide (e6.Name = e5.Name)) then
     (lat a1.L i1).bind fun e7 =>
     (m_base_Plus e7.By r3.1).bind fun r4 =>
     m_ref10_plus_j1 out1 e5 (m_ref10_plus_l1 a1 b1 by1 fuel1) good1 j1 (wi64 (i1 + 1)) r4.1 (r3.2 && r4.2)
    else
     m_ref10_plus_j1 out1 e5 (m_ref10_plus_l1 a1 b1 by1 fuel1) good1 j1 i1 r3.1 r3.2
  else
   some (out1, good1)
def m_ref10_plus (a1 : GLin) (b1 : GLin) (by1 : Int) : Option (GLin × Bool) :=
 (m_base_Times b1.K by1).bind fun r1 =>
 (m_base_Plus a1.K r1.1).bind fun r2 =>
 m_ref10_plus_l1 a1 b1 by1 fu (r1.2 && r2.2) 0 0 (⟨r2.1, ([] : List GMono)⟩ : GLin)
def m_ref10_Compose_j1 (self1 : (List GLin) → Int → Option (List GLin × Int)) (i1 : Int) (out2 : List GLin) : Option (List GLin × Int) :=
 self1 out2 (wi64 (i1 + 1))
def m_ref10_Compose_j2 (out1 : List GLin) (self1 : (List GLin) → Int → Option (List GLin × Int)) (i1 : Int) (l1 : GLin) : Option (List GLin × Int) :=
 (lapp out1 ([l1] : List GLin)).bind fun zs1 =>
 m_ref10_Compose_j1 self1 i1 zs1
def m_ref10_Compose_l2 (next1 : List GLin) (i1 : Int) (names1 : List (List UInt8)) (m1 : List GLin) (out1 : List GLin) (self1 : (List GLin) → Int → Option (List GLin × Int)) : Nat → Int → GLin → Option (List GLin × Int)
 | 0, _, _ => none
 | fuel2 + 1, k1, l2 =>
  (lat next1 i1).bind fun e2 =>
  if decide (k1 < (e2.L.length : Int)) then
   (lat next1 i1).bind fun e3 =>
   (lat e3.L k1).bind fun e4 =>
   (lat next1 i1).bind fun e5 =>
   (lat e5.L k1).bind fun e6 =>
   (m_ref10_Place names1 e4.Name).bind fun r3 =>
   (lat m1 r3).bind fun e7 =>
   (m_ref10_plus l2 e7 e6.By).bind fun r4 =>
   if !r4.2 then
    some (([] : List GLin), 3)
   else
    (m_ref10_Compose_l2 next1 i1 names1 m1 out1 self1 fuel2) (wi64 (k1 + 1)) r4.1
  else
   m_ref10_Compose_j2 out1 self1 i1 l2
def m_ref10_Compose_l1 (next1 : List GLin) (names1 : List (List UInt8)) (m1 : List GLin) : Nat → (List GLin) → Int → Option (List GLin × Int)
 | 0, _, _ => none
 | fuel1 + 1, out1, i1 =>
  if decide (i1 < (next1.length : Int)) then
   (lat next1 i1).bind fun e1 =>
   m_ref10_Compose_l2 next1 i1 names1 m1 out1 (m_ref10_Compose_l1 next1 names1 m1 fuel1) fu 0 (⟨e1.K, ([] : List GMono)⟩ : GLin)
  else
   some (out1, 0)
def m_ref10_Compose (m1 : List GLin) (names1 : List (List UInt8)) (next1 : List GLin) : Option (List GLin × Int) :=
 (m_ref10_Validate m1 names1).bind fun r1 =>
 if !decide (r1 = 0) then
  some (([] : List GLin), r1)
 else
  (m_ref10_Validate next1 names1).bind fun r2 =>
  if !decide (r2 = 0) then
   some (([] : List GLin), r2)
  else
   if !decide ((m1.length : Int) = (names1.length : Int)) then
    some (([] : List GLin), 11)
   else
    m_ref10_Compose_l1 next1 names1 m1 fu ([] : List GLin) 0
def m_base_Lin_l1 (a1 : GLin) (b1 : GLin) : Nat → Int → Option Bool
 | 0, _ => none
 | fuel1 + 1, i1 =>
  if decide (i1 < (a1.L.length : Int)) then
   (lat a1.L i1).bind fun e1 =>
   (lat b1.L i1).bind fun e2 =>
   if !((decide (e1.Name = e2.Name)) && (decide (e1.By = e2.By))) then
    some false
   else
    (m_base_Lin_l1 a1 b1 fuel1) (wi64 (i1 + 1))
  else
   some true
def m_base_Lin (a1 : GLin) (b1 : GLin) : Option Bool :=
 if (!decide (a1.K = b1.K)) || (!decide ((a1.L.length : Int) = (b1.L.length : Int))) then
  some false
 else
  m_base_Lin_l1 a1 b1 fu 0
def m_base_Lins_l1 (a1 : List GLin) (b1 : List GLin) : Nat → Int → Option Bool
 | 0, _ => none
 | fuel1 + 1, i1 =>
  if decide (i1 < (a1.length : Int)) then
   (lat a1 i1).bind fun e1 =>
   (lat b1 i1).bind fun e2 =>
   (m_base_Lin e1 e2).bind fun r1 =>
   if !r1 then
    some false
   else
    (m_base_Lins_l1 a1 b1 fuel1) (wi64 (i1 + 1))
  else
   some true
def m_base_Lins (a1 : List GLin) (b1 : List GLin) : Option Bool :=
 if !decide ((a1.length : Int) = (b1.length : Int)) then
  some false
 else
  m_base_Lins_l1 a1 b1 fu 0
def m_law10_AffineCompose (m1 : List GLin) (names1 : List (List UInt8)) (next1 : List GLin) : Option Bool :=
 (m_law10_few m1 names1 ([] : List Int)).bind fun r1 =>
 (gd (!(!r1)) (m_law10_few next1 ([] : List (List UInt8)) ([] : List Int))).bind fun r2 =>
 if (!r1) || (!r2) then
  (m_law10_examples).bind fun r3 =>
  some r3
 else
  (m_affine_Compose m1 names1 next1).bind fun r4 =>
  (m_ref10_Compose m1 names1 next1).bind fun r5 =>
  (m_base_Lins r4.1 r5.1).bind fun r6 =>
  (gd (r6 && (decide (r4.2 = r5.2))) (m_law10_examples)).bind fun r7 =>
  some ((r6 && (decide (r4.2 = r5.2))) && r7)
end Go.Proofs.Ytaokohndeepbjaa
