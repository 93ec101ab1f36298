import Derived.Test.YtnehbaocbcegpaaDoorSXm
namespace Go.Proofs.YtnehbaocbcegpaaDoor
open Go Go.RowKit Go.Vc
set_option linter.unusedVariables false
set_option linter.unusedSimpArgs false
structure GLifetime where
 Name : List UInt8
 From : Int
 To : Int
 Size : Int
deriving Inhabited, DecidableEq
def cGLifetime : Cod GLifetime where
 n := 4
 rel _ _ x cs := cs = [(str x.Name), (Value.int .i64 x.From), (Value.int .i64 x.To), (Value.int .i64 x.Size)]
 len h := by subst h; rfl
 one h := by subst h; rfl
 sp _ h := h
def fnP_k1 (v : Value) (m : (Int → Option Bool)) (D : NP) (w : World) : Prop :=
 isFn v = true ∧ ∀ (D' : NP) (w' : World), Sp D w D' w' → (∀ k, D' k → k < w'.heap.size) → ∀ (x_1 : Int) (r : Bool), AllCl [] D' w' → m x_1 = some r →
  CallV Tryd.prog v [(Value.int .i32 x_1)] w' fun e w'' => e = .returned (Value.bool r) ∧ Ext w' w'' ∧ AllCl [] D' w''
theorem fnP_k1.sp {v : Value} {m : (Int → Option Bool)} {D D' : NP} {w w' : World} (hs : Sp D w D' w') (h : fnP_k1 v m D w) : fnP_k1 v m D' w' := ⟨h.1, fun D'' w'' hs' => h.2 D'' w'' (hs.trans hs')⟩
def clFn_k1 (v : Value) (m : (Int → Option Bool)) : Cl := ⟨fnP_k1 v m, fnP_k1.sp⟩
def fnP_k2 (v : Value) (m : (Int → Int → Option Int)) (D : NP) (w : World) : Prop :=
 isFn v = true ∧ ∀ (D' : NP) (w' : World), Sp D w D' w' → (∀ k, D' k → k < w'.heap.size) → ∀ (x_1 : Int) (x_2 : Int) (r : Int), AllCl [] D' w' → m x_1 x_2 = some r →
  CallV Tryd.prog v [(Value.int .i64 x_1), (Value.int .i64 x_2)] w' fun e w'' => e = .returned (Value.int .i64 r) ∧ Ext w' w'' ∧ AllCl [] D' w''
theorem fnP_k2.sp {v : Value} {m : (Int → Int → Option Int)} {D D' : NP} {w w' : World} (hs : Sp D w D' w') (h : fnP_k2 v m D w) : fnP_k2 v m D' w' := ⟨h.1, fun D'' w'' hs' => h.2 D'' w'' (hs.trans hs')⟩
def clFn_k2 (v : Value) (m : (Int → Int → Option Int)) : Cl := ⟨fnP_k2 v m, fnP_k2.sp⟩
structure GSlot where
 Name : List UInt8
 At : Int
 Len : Int
deriving Inhabited, DecidableEq
def cGSlot : Cod GSlot where
 n := 3
 rel _ _ x cs := cs = [(str x.Name), (Value.int .i64 x.At), (Value.int .i64 x.Len)]
 len h := by subst h; rfl
 one h := by subst h; rfl
 sp _ h := h
def fnP_k3 (v : Value) (m : (GSlot → GSlot → Option Int)) (D : NP) (w : World) : Prop :=
 isFn v = true ∧ ∀ (D' : NP) (w' : World), Sp D w D' w' → (∀ k, D' k → k < w'.heap.size) → ∀ (x_1 : GSlot) (x_2 : GSlot) (r : Int), AllCl [] D' w' → m x_1 x_2 = some r →
  CallV Tryd.prog v [(Value.agg #[(str x_1.Name), (Value.int .i64 x_1.At), (Value.int .i64 x_1.Len)]), (Value.agg #[(str x_2.Name), (Value.int .i64 x_2.At), (Value.int .i64 x_2.Len)])] w' fun e w'' => e = .returned (Value.int .i64 r) ∧ Ext w' w'' ∧ AllCl [] D' w''
theorem fnP_k3.sp {v : Value} {m : (GSlot → GSlot → Option Int)} {D D' : NP} {w w' : World} (hs : Sp D w D' w') (h : fnP_k3 v m D w) : fnP_k3 v m D' w' := ⟨h.1, fun D'' w'' hs' => h.2 D'' w'' (hs.trans hs')⟩
def clFn_k3 (v : Value) (m : (GSlot → GSlot → Option Int)) : Cl := ⟨fnP_k3 v m, fnP_k3.sp⟩
def m_law42_few_l1 (l1 : List GLifetime) : Nat → Int → Option Bool
 | 0, _ => none
 | fuel1 + 1, i1 =>
  if decide (i1 < (l1.length : Int)) then
   (lat l1 i1).bind fun e1 =>
   if decide (100 < (e1.Name.length : Int)) then
    some false
   else
    (m_law42_few_l1 l1 fuel1) (wi64 (i1 + 1))
  else
   some true
def m_law42_few (l1 : List GLifetime) (most1 : Int) : Option Bool :=
 if decide (most1 < (l1.length : Int)) then
  some false
 else
  m_law42_few_l1 l1 fu 0
def m_lexer_letter (r1 : Int) : Option Bool :=
 some ((decide (97 ≤ r1)) && (decide (r1 ≤ 122)))
def m_lexer_span_l1 (s1 : List UInt8) (ok1 : (Int → Option Bool)) : Nat → Int → Option Int
 | 0, _ => none
 | fuel1 + 1, n1 =>
  (gd (decide (n1 < (s1.length : Int))) (sat s1 n1)).bind fun b1 =>
  (gd (decide (n1 < (s1.length : Int))) (ok1 (wi32 b1))).bind fun r1 =>
  if (decide (n1 < (s1.length : Int))) && r1 then
   (m_lexer_span_l1 s1 ok1 fuel1) (wi64 (n1 + 1))
  else
   some n1
def m_lexer_span (s1 : List UInt8) (ok1 : (Int → Option Bool)) : Option Int :=
 m_lexer_span_l1 s1 ok1 fu 0
def m_lexer_digit (r1 : Int) : Option Bool :=
 some ((decide (48 ≤ r1)) && (decide (r1 ≤ 57)))
def m_lexer_inWord (r1 : Int) : Option Bool :=
 (m_lexer_letter r1).bind fun r2 =>
 (gd (!r2) (m_lexer_digit r1)).bind fun r3 =>
 some ((r2 || r3) || (decide (r1 = 95)))
def m_lexer_keywords : Option (List (List UInt8)) :=
 (m_strings_Fields ([115, 105, 122, 101, 32, 119, 104, 101, 114, 101, 32, 105, 110, 32, 100, 101, 102, 32, 111, 117, 116, 32, 115, 117, 109, 32, 112, 114, 111, 100, 32, 109, 105, 110, 32, 109, 97, 120, 32, 115, 99, 97, 110, 32, 111, 118, 101, 114, 32, 105, 102, 32, 99, 97, 115, 116, 32, 102, 114, 97, 99, 32, 105, 110, 116, 32, 102, 105, 120, 32, 99, 101, 105, 108, 32, 102, 108, 111, 111, 114, 32, 122, 101, 114, 111, 32, 101, 118, 101, 110, 32, 115, 97, 116, 32, 119, 114, 97, 112] : List UInt8)).bind fun r1 =>
 some r1
def m_slices_Index_string_string_l1 (s1 : List (List UInt8)) (v1 : List UInt8) : Nat → Int → Option Int
 | 0, _ => none
 | fuel1 + 1, i1 =>
  if decide (i1 < (s1.length : Int)) then
   (lat s1 i1).bind fun e1 =>
   if decide (v1 = e1) then
    some i1
   else
    (m_slices_Index_string_string_l1 s1 v1 fuel1) (wi64 (i1 + 1))
  else
   some (-1)
def m_slices_Index_string_string (s1 : List (List UInt8)) (v1 : List UInt8) : Option Int :=
 m_slices_Index_string_string_l1 s1 v1 fu 0
def m_slices_Contains_string_string (s1 : List (List UInt8)) (v1 : List UInt8) : Option Bool :=
 (m_slices_Index_string_string s1 v1).bind fun r1 =>
 some (decide (0 ≤ r1))
def m_lexer_IsKeyword (s1 : List UInt8) : Option Bool :=
 (m_lexer_keywords).bind fun r1 =>
 (m_slices_Contains_string_string r1 s1).bind fun r2 =>
 some r2
def m_lexer_IsName (s1 : List UInt8) : Option Bool :=
 (gd ((!decide (s1 = ([] : List UInt8))) && (decide ((s1.length : Int) ≤ 16))) (sat s1 0)).bind fun b1 =>
 (gd ((!decide (s1 = ([] : List UInt8))) && (decide ((s1.length : Int) ≤ 16))) (m_lexer_letter (wi32 b1))).bind fun r1 =>
 (gd (((!decide (s1 = ([] : List UInt8))) && (decide ((s1.length : Int) ≤ 16))) && r1) (m_lexer_span s1 m_lexer_inWord)).bind fun r2 =>
 (gd ((((!decide (s1 = ([] : List UInt8))) && (decide ((s1.length : Int) ≤ 16))) && r1) && (decide (r2 = (s1.length : Int)))) (m_lexer_IsKeyword s1)).bind fun r3 =>
 some (((((!decide (s1 = ([] : List UInt8))) && (decide ((s1.length : Int) ≤ 16))) && r1) && (decide (r2 = (s1.length : Int)))) && (!r3))
def m_liveness_Validate_l1 (l1 : List GLifetime) : Nat → Int → (List (List UInt8 × Bool)) → Option Int
 | 0, _, _ => none
 | fuel1 + 1, i1, m1 =>
  if decide (i1 < (l1.length : Int)) then
   (lat l1 i1).bind fun e1 =>
   (m_lexer_IsName e1.Name).bind fun r1 =>
   if !r1 then
    some 7
   else
    if (mget m1 e1.Name).getD false then
     some 8
    else
     if (((decide (e1.From < 0)) || (decide (e1.To < e1.From))) || (decide (e1.Size < 1))) || (decide (4096 < e1.Size)) then
      some 1
     else
      (m_liveness_Validate_l1 l1 fuel1) (wi64 (i1 + 1)) (mput m1 e1.Name true)
  else
   some 0
def m_liveness_Validate (l1 : List GLifetime) : Option Int :=
 m_liveness_Validate_l1 l1 fu 0 ([] : List (List UInt8 × Bool))
def m_arena_Plan_1 (a1 : Int) (b1 : Int) (a2 : List GLifetime) : Option Int :=
 (lat a2 b1).bind fun e1 =>
 (lat a2 a1).bind fun e2 =>
 some (wi64 (e1.Size - e2.Size))
def m_slices_insertionSortCmpFunc_int_w_j1 (self1 : Int → (List Int) → Option (Unit × List Int)) (i1 : Int) (l2 : List Int) : Option (Unit × List Int) :=
 self1 (wi64 (i1 + 1)) l2
def m_slices_insertionSortCmpFunc_int_w_l2 (a2 : Int) (cmp1 : (Int → Int → Option Int)) (self1 : Int → (List Int) → Option (Unit × List Int)) (i1 : Int) : Nat → Int → (List Int) → Option (Unit × List Int)
 | 0, _, _ => none
 | fuel2 + 1, j1, l3 =>
  (gd (decide (a2 < j1)) (lat l3 j1)).bind fun e1 =>
  (gd (decide (a2 < j1)) (lat l3 (wi64 (j1 - 1)))).bind fun e2 =>
  (gd (decide (a2 < j1)) (cmp1 e1 e2)).bind fun r1 =>
  if (decide (a2 < j1)) && (decide (r1 < 0)) then
   (lat l3 (wi64 (j1 - 1))).bind fun e3 =>
   (lat l3 j1).bind fun e4 =>
   if 0 ≤ j1 ∧ j1 < (l3.length : Int) then
    if 0 ≤ (wi64 (j1 - 1)) ∧ (wi64 (j1 - 1)) < ((l3.set (Int.toNat j1) e3).length : Int) then
     (m_slices_insertionSortCmpFunc_int_w_l2 a2 cmp1 self1 i1 fuel2) (wi64 (j1 - 1)) ((l3.set (Int.toNat j1) e3).set (Int.toNat (wi64 (j1 - 1))) e4)
    else none
   else none
  else
   m_slices_insertionSortCmpFunc_int_w_j1 self1 i1 l3
def m_slices_insertionSortCmpFunc_int_w_l1 (b1 : Int) (a2 : Int) (cmp1 : (Int → Int → Option Int)) : Nat → Int → (List Int) → Option (Unit × List Int)
 | 0, _, _ => none
 | fuel1 + 1, i1, l1 =>
  if decide (i1 < b1) then
   m_slices_insertionSortCmpFunc_int_w_l2 a2 cmp1 (m_slices_insertionSortCmpFunc_int_w_l1 b1 a2 cmp1 fuel1) i1 fu i1 l1
  else
   some ((), l1)
def m_slices_insertionSortCmpFunc_int_w (data1 : List Int) (a2 : Int) (b1 : Int) (cmp1 : (Int → Int → Option Int)) : Option (Unit × List Int) :=
 m_slices_insertionSortCmpFunc_int_w_l1 b1 a2 cmp1 fu (wi64 (a2 + 1)) data1
def m_slices_swapRangeCmpFunc_int_w_l1 (n2 : Int) (b1 : Int) (a2 : Int) : Nat → Int → (List Int) → Option (Unit × List Int)
 | 0, _, _ => none
 | fuel1 + 1, i1, l1 =>
  if decide (i1 < n2) then
   (lat l1 (wi64 (b1 + i1))).bind fun e1 =>
   (lat l1 (wi64 (a2 + i1))).bind fun e2 =>
   if 0 ≤ (wi64 (a2 + i1)) ∧ (wi64 (a2 + i1)) < (l1.length : Int) then
    if 0 ≤ (wi64 (b1 + i1)) ∧ (wi64 (b1 + i1)) < ((l1.set (Int.toNat (wi64 (a2 + i1))) e1).length : Int) then
     (m_slices_swapRangeCmpFunc_int_w_l1 n2 b1 a2 fuel1) (wi64 (i1 + 1)) ((l1.set (Int.toNat (wi64 (a2 + i1))) e1).set (Int.toNat (wi64 (b1 + i1))) e2)
    else none
   else none
  else
   some ((), l1)
def m_slices_swapRangeCmpFunc_int_w (data1 : List Int) (a2 : Int) (b1 : Int) (n2 : Int) (cmp1 : (Int → Int → Option Int)) : Option (Unit × List Int) :=
 m_slices_swapRangeCmpFunc_int_w_l1 n2 b1 a2 fu 0 data1
def m_slices_rotateCmpFunc_int_w_l1 (m1 : Int) (cmp1 : (Int → Int → Option Int)) : Nat → Int → Int → (List Int) → Option (Unit × List Int)
 | 0, _, _, _ => none
 | fuel1 + 1, i1, j1, l1 =>
  if !decide (i1 = j1) then
   if decide (j1 < i1) then
    (m_slices_swapRangeCmpFunc_int_w l1 (wi64 (m1 - i1)) m1 j1 cmp1).bind fun ⟨r1, s1⟩ =>
    (m_slices_rotateCmpFunc_int_w_l1 m1 cmp1 fuel1) (wi64 (i1 - j1)) j1 s1
   else
    (m_slices_swapRangeCmpFunc_int_w l1 (wi64 (m1 - i1)) (wi64 ((wi64 (m1 + j1)) - i1)) i1 cmp1).bind fun ⟨r2, s2⟩ =>
    (m_slices_rotateCmpFunc_int_w_l1 m1 cmp1 fuel1) i1 (wi64 (j1 - i1)) s2
  else
   (m_slices_swapRangeCmpFunc_int_w l1 (wi64 (m1 - i1)) m1 i1 cmp1).bind fun ⟨r3, s3⟩ =>
   some ((), s3)
def m_slices_rotateCmpFunc_int_w (data1 : List Int) (a2 : Int) (m1 : Int) (b1 : Int) (cmp1 : (Int → Int → Option Int)) : Option (Unit × List Int) :=
 m_slices_rotateCmpFunc_int_w_l1 m1 cmp1 fu (wi64 (m1 - a2)) (wi64 (b1 - m1)) data1
def m_slices_symMergeCmpFunc_int_w_j6 (mid1 : Int) (end1 : Int) (b1 : Int) (rec_ : ((List Int) → Int → Int → Int → (Int → Int → Option Int) → Option (Unit × List Int))) (cmp1 : (Int → Int → Option Int)) (l2 : List Int) : Option (Unit × List Int) :=
 if (decide (mid1 < end1)) && (decide (end1 < b1)) then
  (rec_ l2 mid1 end1 b1 cmp1).bind fun ⟨r2, s1⟩ =>
  some ((), s1)
 else
  some ((), l2)
def m_slices_symMergeCmpFunc_int_w_j5 (a2 : Int) (start2 : Int) (mid1 : Int) (rec_ : ((List Int) → Int → Int → Int → (Int → Int → Option Int) → Option (Unit × List Int))) (cmp1 : (Int → Int → Option Int)) (end1 : Int) (b1 : Int) (l1 : List Int) : Option (Unit × List Int) :=
 if (decide (a2 < start2)) && (decide (start2 < mid1)) then
  (rec_ l1 a2 start2 mid1 cmp1).bind fun ⟨r3, s2⟩ =>
  m_slices_symMergeCmpFunc_int_w_j6 mid1 end1 b1 rec_ cmp1 s2
 else
  m_slices_symMergeCmpFunc_int_w_j6 mid1 end1 b1 rec_ cmp1 l1
def m_slices_symMergeCmpFunc_int_w_j4 (mid1 : Int) (m1 : Int) (data1 : List Int) (cmp1 : (Int → Int → Option Int)) (a2 : Int) (rec_ : ((List Int) → Int → Int → Int → (Int → Int → Option Int) → Option (Unit × List Int))) (b1 : Int) (start2 : Int) : Option (Unit × List Int) :=
 (some (wi64 ((wi64 (mid1 + m1)) - start2))).bind fun end1 =>
 if (decide (start2 < m1)) && (decide (m1 < end1)) then
  (m_slices_rotateCmpFunc_int_w data1 start2 m1 end1 cmp1).bind fun ⟨r4, s3⟩ =>
  m_slices_symMergeCmpFunc_int_w_j5 a2 start2 mid1 rec_ cmp1 end1 b1 s3
 else
  m_slices_symMergeCmpFunc_int_w_j5 a2 start2 mid1 rec_ cmp1 end1 b1 data1
def m_slices_symMergeCmpFunc_int_w_l1 (data1 : List Int) (p1 : Int) (cmp1 : (Int → Int → Option Int)) (mid1 : Int) (m1 : Int) (a2 : Int) (rec_ : ((List Int) → Int → Int → Int → (Int → Int → Option Int) → Option (Unit × List Int))) (b1 : Int) : Nat → Int → Int → Option (Unit × List Int)
 | 0, _, _ => none
 | fuel1 + 1, start3, r5 =>
  if decide (start3 < r5) then
   (some (wi64 (Int.fdiv (wu64 (wi64 (start3 + r5))) (2 ^ 1)))).bind fun c18 =>
   (lat data1 (wi64 (p1 - c18))).bind fun e1 =>
   (lat data1 c18).bind fun e2 =>
   (cmp1 e1 e2).bind fun r6 =>
   if !(decide (r6 < 0)) then
    (m_slices_symMergeCmpFunc_int_w_l1 data1 p1 cmp1 mid1 m1 a2 rec_ b1 fuel1) (wi64 (c18 + 1)) r5
   else
    (m_slices_symMergeCmpFunc_int_w_l1 data1 p1 cmp1 mid1 m1 a2 rec_ b1 fuel1) start3 c18
  else
   m_slices_symMergeCmpFunc_int_w_j4 mid1 m1 data1 cmp1 a2 rec_ b1 start3
def m_slices_symMergeCmpFunc_int_w_j3 (mid1 : Int) (m1 : Int) (data1 : List Int) (cmp1 : (Int → Int → Option Int)) (a2 : Int) (rec_ : ((List Int) → Int → Int → Int → (Int → Int → Option Int) → Option (Unit × List Int))) (b1 : Int) (start1 : Int) (r1 : Int) : Option (Unit × List Int) :=
 (some (wi64 ((wi64 (mid1 + m1)) - 1))).bind fun p1 =>
 m_slices_symMergeCmpFunc_int_w_l1 data1 p1 cmp1 mid1 m1 a2 rec_ b1 fu start1 r1
def m_slices_symMergeCmpFunc_int_w_j2 (a2 : Int) (b1 : Int) (m1 : Int) (data1 : List Int) (cmp1 : (Int → Int → Option Int)) (rec_ : ((List Int) → Int → Int → Int → (Int → Int → Option Int) → Option (Unit × List Int))) : Option (Unit × List Int) :=
 (some (wi64 (Int.fdiv (wu64 (wi64 (a2 + b1))) (2 ^ 1)))).bind fun mid1 =>
 if decide (mid1 < m1) then
  (some (wi64 ((wi64 (mid1 + m1)) - b1))).bind fun start4 =>
  m_slices_symMergeCmpFunc_int_w_j3 mid1 m1 data1 cmp1 a2 rec_ b1 start4 mid1
 else
  m_slices_symMergeCmpFunc_int_w_j3 mid1 m1 data1 cmp1 a2 rec_ b1 a2 m1
def m_slices_symMergeCmpFunc_int_w_l2 (i1 : Int) : Nat → Int → (List Int) → Option (Unit × List Int)
 | 0, _, _ => none
 | fuel2 + 1, k1, l3 =>
  if decide (i1 < k1) then
   (lat l3 (wi64 (k1 - 1))).bind fun e3 =>
   (lat l3 k1).bind fun e4 =>
   if 0 ≤ k1 ∧ k1 < (l3.length : Int) then
    if 0 ≤ (wi64 (k1 - 1)) ∧ (wi64 (k1 - 1)) < ((l3.set (Int.toNat k1) e3).length : Int) then
     (m_slices_symMergeCmpFunc_int_w_l2 i1 fuel2) (wi64 (k1 - 1)) ((l3.set (Int.toNat k1) e3).set (Int.toNat (wi64 (k1 - 1))) e4)
    else none
   else none
  else
   some ((), l3)
def m_slices_symMergeCmpFunc_int_w_j7 (m1 : Int) (data1 : List Int) (i1 : Int) : Option (Unit × List Int) :=
 m_slices_symMergeCmpFunc_int_w_l2 i1 fu m1 data1
def m_slices_symMergeCmpFunc_int_w_l3 (data1 : List Int) (m1 : Int) (cmp1 : (Int → Int → Option Int)) : Nat → Int → Int → Option (Unit × List Int)
 | 0, _, _ => none
 | fuel3 + 1, i2, j1 =>
  if decide (i2 < j1) then
   (some (wi64 (Int.fdiv (wu64 (wi64 (i2 + j1))) (2 ^ 1)))).bind fun h1 =>
   (lat data1 m1).bind fun e5 =>
   (lat data1 h1).bind fun e6 =>
   (cmp1 e5 e6).bind fun r7 =>
   if !(decide (r7 < 0)) then
    (m_slices_symMergeCmpFunc_int_w_l3 data1 m1 cmp1 fuel3) (wi64 (h1 + 1)) j1
   else
    (m_slices_symMergeCmpFunc_int_w_l3 data1 m1 cmp1 fuel3) i2 h1
  else
   m_slices_symMergeCmpFunc_int_w_j7 m1 data1 i2
def m_slices_symMergeCmpFunc_int_w_j1 (b1 : Int) (m1 : Int) (data1 : List Int) (cmp1 : (Int → Int → Option Int)) (a2 : Int) (rec_ : ((List Int) → Int → Int → Int → (Int → Int → Option Int) → Option (Unit × List Int))) : Option (Unit × List Int) :=
 if decide (wi64 (b1 - m1) = 1) then
  m_slices_symMergeCmpFunc_int_w_l3 data1 m1 cmp1 fu a2 m1
 else
  m_slices_symMergeCmpFunc_int_w_j2 a2 b1 m1 data1 cmp1 rec_
def m_slices_symMergeCmpFunc_int_w_l4 (i3 : Int) : Nat → Int → (List Int) → Option (Unit × List Int)
 | 0, _, _ => none
 | fuel4 + 1, k2, l4 =>
  if decide (k2 < wi64 (i3 - 1)) then
   (lat l4 (wi64 (k2 + 1))).bind fun e7 =>
   (lat l4 k2).bind fun e8 =>
   if 0 ≤ k2 ∧ k2 < (l4.length : Int) then
    if 0 ≤ (wi64 (k2 + 1)) ∧ (wi64 (k2 + 1)) < ((l4.set (Int.toNat k2) e7).length : Int) then
     (m_slices_symMergeCmpFunc_int_w_l4 i3 fuel4) (wi64 (k2 + 1)) ((l4.set (Int.toNat k2) e7).set (Int.toNat (wi64 (k2 + 1))) e8)
    else none
   else none
  else
   some ((), l4)
def m_slices_symMergeCmpFunc_int_w_j8 (a2 : Int) (data1 : List Int) (i3 : Int) : Option (Unit × List Int) :=
 m_slices_symMergeCmpFunc_int_w_l4 i3 fu a2 data1
def m_slices_symMergeCmpFunc_int_w_l5 (data1 : List Int) (a2 : Int) (cmp1 : (Int → Int → Option Int)) : Nat → Int → Int → Option (Unit × List Int)
 | 0, _, _ => none
 | fuel5 + 1, i4, j2 =>
  if decide (i4 < j2) then
   (some (wi64 (Int.fdiv (wu64 (wi64 (i4 + j2))) (2 ^ 1)))).bind fun h2 =>
   (lat data1 h2).bind fun e9 =>
   (lat data1 a2).bind fun e10 =>
   (cmp1 e9 e10).bind fun r8 =>
   if decide (r8 < 0) then
    (m_slices_symMergeCmpFunc_int_w_l5 data1 a2 cmp1 fuel5) (wi64 (h2 + 1)) j2
   else
    (m_slices_symMergeCmpFunc_int_w_l5 data1 a2 cmp1 fuel5) i4 h2
  else
   m_slices_symMergeCmpFunc_int_w_j8 a2 data1 i4
def m_slices_symMergeCmpFunc_int_w_b (rec_ : ((List Int) → Int → Int → Int → (Int → Int → Option Int) → Option (Unit × List Int))) (data1 : List Int) (a2 : Int) (m1 : Int) (b1 : Int) (cmp1 : (Int → Int → Option Int)) : Option (Unit × List Int) :=
 if decide (wi64 (m1 - a2) = 1) then
  m_slices_symMergeCmpFunc_int_w_l5 data1 a2 cmp1 fu m1 b1
 else
  m_slices_symMergeCmpFunc_int_w_j1 b1 m1 data1 cmp1 a2 rec_
def m_slices_symMergeCmpFunc_int_w_r : Nat → ((List Int) → Int → Int → Int → (Int → Int → Option Int) → Option (Unit × List Int))
 | 0 => fun _ _ _ _ _ => none
 | n + 1 => m_slices_symMergeCmpFunc_int_w_b (m_slices_symMergeCmpFunc_int_w_r n)
def m_slices_symMergeCmpFunc_int_w (data1 : List Int) (a2 : Int) (m1 : Int) (b1 : Int) (cmp1 : (Int → Int → Option Int)) : Option (Unit × List Int) := m_slices_symMergeCmpFunc_int_w_r fu data1 a2 m1 b1 cmp1
def m_slices_stableCmpFunc_int_w_j3 (self1 : Int → (List Int) → Option (Unit × List Int)) (blockSize1 : Int) (l4 : List Int) : Option (Unit × List Int) :=
 self1 (wi64 (blockSize1 * 2)) l4
def m_slices_stableCmpFunc_int_w_j2 (blockSize1 : Int) (n2 : Int) (cmp1 : (Int → Int → Option Int)) (self1 : Int → (List Int) → Option (Unit × List Int)) (a3 : Int) (l3 : List Int) : Option (Unit × List Int) :=
 if decide (wi64 (a3 + blockSize1) < n2) then
  (m_slices_symMergeCmpFunc_int_w l3 a3 (wi64 (a3 + blockSize1)) n2 cmp1).bind fun ⟨r2, s2⟩ =>
  m_slices_stableCmpFunc_int_w_j3 self1 blockSize1 s2
 else
  m_slices_stableCmpFunc_int_w_j3 self1 blockSize1 l3
def m_slices_stableCmpFunc_int_w_l2 (n2 : Int) (blockSize1 : Int) (cmp1 : (Int → Int → Option Int)) (self1 : Int → (List Int) → Option (Unit × List Int)) : Nat → Int → Int → (List Int) → Option (Unit × List Int)
 | 0, _, _, _ => none
 | fuel2 + 1, a4, b1, l5 =>
  if decide (b1 ≤ n2) then
   (m_slices_symMergeCmpFunc_int_w l5 a4 (wi64 (a4 + blockSize1)) b1 cmp1).bind fun ⟨r3, s3⟩ =>
   (some (wi64 (b1 + (wi64 (2 * blockSize1))))).bind fun b2 =>
   (m_slices_stableCmpFunc_int_w_l2 n2 blockSize1 cmp1 self1 fuel2) b1 b2 s3
  else
   m_slices_stableCmpFunc_int_w_j2 blockSize1 n2 cmp1 self1 a4 l5
def m_slices_stableCmpFunc_int_w_l1 (n2 : Int) (cmp1 : (Int → Int → Option Int)) : Nat → Int → (List Int) → Option (Unit × List Int)
 | 0, _, _ => none
 | fuel1 + 1, blockSize1, l2 =>
  if decide (blockSize1 < n2) then
   m_slices_stableCmpFunc_int_w_l2 n2 blockSize1 cmp1 (m_slices_stableCmpFunc_int_w_l1 n2 cmp1 fuel1) fu 0 (wi64 (2 * blockSize1)) l2
  else
   some ((), l2)
def m_slices_stableCmpFunc_int_w_j1 (n2 : Int) (cmp1 : (Int → Int → Option Int)) (a2 : Int) (l1 : List Int) : Option (Unit × List Int) :=
 (m_slices_insertionSortCmpFunc_int_w l1 a2 n2 cmp1).bind fun ⟨r1, s1⟩ =>
 m_slices_stableCmpFunc_int_w_l1 n2 cmp1 fu 20 s1
def m_slices_stableCmpFunc_int_w_l3 (n2 : Int) (cmp1 : (Int → Int → Option Int)) : Nat → Int → Int → (List Int) → Option (Unit × List Int)
 | 0, _, _, _ => none
 | fuel3 + 1, a5, b3, l6 =>
  if decide (b3 ≤ n2) then
   (m_slices_insertionSortCmpFunc_int_w l6 a5 b3 cmp1).bind fun ⟨r4, s4⟩ =>
   (m_slices_stableCmpFunc_int_w_l3 n2 cmp1 fuel3) b3 (wi64 (b3 + 20)) s4
  else
   m_slices_stableCmpFunc_int_w_j1 n2 cmp1 a5 l6
def m_slices_stableCmpFunc_int_w (data1 : List Int) (n2 : Int) (cmp1 : (Int → Int → Option Int)) : Option (Unit × List Int) :=
 m_slices_stableCmpFunc_int_w_l3 n2 cmp1 fu 0 20 data1
def m_slices_SortStableFunc_int_int_w (x1 : List Int) (cmp1 : (Int → Int → Option Int)) : Option (Unit × List Int) :=
 (m_slices_stableCmpFunc_int_w x1 (x1.length : Int) cmp1).bind fun ⟨r1, s1⟩ =>
 some ((), s1)
def m_arena_sorted_int (l1 : List Int) (compare1 : (Int → Int → Option Int)) : Option (List Int) :=
 (lapp ([] : List Int) l1).bind fun zs1 =>
 (m_slices_SortStableFunc_int_int_w zs1 compare1).bind fun ⟨r1, s1⟩ =>
 some s1
def m_liveness_Overlap (a1 : GLifetime) (b1 : GLifetime) : Option Bool :=
 some ((decide (a1.From ≤ b1.To)) && (decide (b1.From ≤ a1.To)))
def m_slices_insertionSortCmpFunc_api_Slot_w_j1 (self1 : Int → (List GSlot) → Option (Unit × List GSlot)) (i1 : Int) (l2 : List GSlot) : Option (Unit × List GSlot) :=
 self1 (wi64 (i1 + 1)) l2
def m_slices_insertionSortCmpFunc_api_Slot_w_l2 (a2 : Int) (cmp1 : (GSlot → GSlot → Option Int)) (self1 : Int → (List GSlot) → Option (Unit × List GSlot)) (i1 : Int) : Nat → Int → (List GSlot) → Option (Unit × List GSlot)
 | 0, _, _ => none
 | fuel2 + 1, j1, l3 =>
  (gd (decide (a2 < j1)) (lat l3 j1)).bind fun e1 =>
  (gd (decide (a2 < j1)) (lat l3 (wi64 (j1 - 1)))).bind fun e2 =>
  (gd (decide (a2 < j1)) (cmp1 e1 e2)).bind fun r1 =>
  if (decide (a2 < j1)) && (decide (r1 < 0)) then
   (lat l3 (wi64 (j1 - 1))).bind fun e3 =>
   (lat l3 j1).bind fun e4 =>
   if 0 ≤ j1 ∧ j1 < (l3.length : Int) then
    if 0 ≤ (wi64 (j1 - 1)) ∧ (wi64 (j1 - 1)) < ((l3.set (Int.toNat j1) e3).length : Int) then
     (m_slices_insertionSortCmpFunc_api_Slot_w_l2 a2 cmp1 self1 i1 fuel2) (wi64 (j1 - 1)) ((l3.set (Int.toNat j1) e3).set (Int.toNat (wi64 (j1 - 1))) e4)
    else none
   else none
  else
   m_slices_insertionSortCmpFunc_api_Slot_w_j1 self1 i1 l3
def m_slices_insertionSortCmpFunc_api_Slot_w_l1 (b1 : Int) (a2 : Int) (cmp1 : (GSlot → GSlot → Option Int)) : Nat → Int → (List GSlot) → Option (Unit × List GSlot)
 | 0, _, _ => none
 | fuel1 + 1, i1, l1 =>
  if decide (i1 < b1) then
   m_slices_insertionSortCmpFunc_api_Slot_w_l2 a2 cmp1 (m_slices_insertionSortCmpFunc_api_Slot_w_l1 b1 a2 cmp1 fuel1) i1 fu i1 l1
  else
   some ((), l1)
def m_slices_insertionSortCmpFunc_api_Slot_w (data1 : List GSlot) (a2 : Int) (b1 : Int) (cmp1 : (GSlot → GSlot → Option Int)) : Option (Unit × List GSlot) :=
 m_slices_insertionSortCmpFunc_api_Slot_w_l1 b1 a2 cmp1 fu (wi64 (a2 + 1)) data1
def m_slices_swapRangeCmpFunc_api_Slot_w_l1 (n2 : Int) (b1 : Int) (a2 : Int) : Nat → Int → (List GSlot) → Option (Unit × List GSlot)
 | 0, _, _ => none
 | fuel1 + 1, i1, l1 =>
  if decide (i1 < n2) then
   (lat l1 (wi64 (b1 + i1))).bind fun e1 =>
   (lat l1 (wi64 (a2 + i1))).bind fun e2 =>
   if 0 ≤ (wi64 (a2 + i1)) ∧ (wi64 (a2 + i1)) < (l1.length : Int) then
    if 0 ≤ (wi64 (b1 + i1)) ∧ (wi64 (b1 + i1)) < ((l1.set (Int.toNat (wi64 (a2 + i1))) e1).length : Int) then
     (m_slices_swapRangeCmpFunc_api_Slot_w_l1 n2 b1 a2 fuel1) (wi64 (i1 + 1)) ((l1.set (Int.toNat (wi64 (a2 + i1))) e1).set (Int.toNat (wi64 (b1 + i1))) e2)
    else none
   else none
  else
   some ((), l1)
def m_slices_swapRangeCmpFunc_api_Slot_w (data1 : List GSlot) (a2 : Int) (b1 : Int) (n2 : Int) (cmp1 : (GSlot → GSlot → Option Int)) : Option (Unit × List GSlot) :=
 m_slices_swapRangeCmpFunc_api_Slot_w_l1 n2 b1 a2 fu 0 data1
def m_slices_rotateCmpFunc_api_Slot_w_l1 (m1 : Int) (cmp1 : (GSlot → GSlot → Option Int)) : Nat → Int → Int → (List GSlot) → Option (Unit × List GSlot)
 | 0, _, _, _ => none
 | fuel1 + 1, i1, j1, l1 =>
  if !decide (i1 = j1) then
   if decide (j1 < i1) then
    (m_slices_swapRangeCmpFunc_api_Slot_w l1 (wi64 (m1 - i1)) m1 j1 cmp1).bind fun ⟨r1, s1⟩ =>
    (m_slices_rotateCmpFunc_api_Slot_w_l1 m1 cmp1 fuel1) (wi64 (i1 - j1)) j1 s1
   else
    (m_slices_swapRangeCmpFunc_api_Slot_w l1 (wi64 (m1 - i1)) (wi64 ((wi64 (m1 + j1)) - i1)) i1 cmp1).bind fun ⟨r2, s2⟩ =>
    (m_slices_rotateCmpFunc_api_Slot_w_l1 m1 cmp1 fuel1) i1 (wi64 (j1 - i1)) s2
  else
   (m_slices_swapRangeCmpFunc_api_Slot_w l1 (wi64 (m1 - i1)) m1 i1 cmp1).bind fun ⟨r3, s3⟩ =>
   some ((), s3)
def m_slices_rotateCmpFunc_api_Slot_w (data1 : List GSlot) (a2 : Int) (m1 : Int) (b1 : Int) (cmp1 : (GSlot → GSlot → Option Int)) : Option (Unit × List GSlot) :=
 m_slices_rotateCmpFunc_api_Slot_w_l1 m1 cmp1 fu (wi64 (m1 - a2)) (wi64 (b1 - m1)) data1
def m_slices_symMergeCmpFunc_api_Slot_w_j6 (mid1 : Int) (end1 : Int) (b1 : Int) (rec_ : ((List GSlot) → Int → Int → Int → (GSlot → GSlot → Option Int) → Option (Unit × List GSlot))) (cmp1 : (GSlot → GSlot → Option Int)) (l2 : List GSlot) : Option (Unit × List GSlot) :=
 if (decide (mid1 < end1)) && (decide (end1 < b1)) then
  (rec_ l2 mid1 end1 b1 cmp1).bind fun ⟨r2, s1⟩ =>
  some ((), s1)
 else
  some ((), l2)
def m_slices_symMergeCmpFunc_api_Slot_w_j5 (a2 : Int) (start2 : Int) (mid1 : Int) (rec_ : ((List GSlot) → Int → Int → Int → (GSlot → GSlot → Option Int) → Option (Unit × List GSlot))) (cmp1 : (GSlot → GSlot → Option Int)) (end1 : Int) (b1 : Int) (l1 : List GSlot) : Option (Unit × List GSlot) :=
 if (decide (a2 < start2)) && (decide (start2 < mid1)) then
  (rec_ l1 a2 start2 mid1 cmp1).bind fun ⟨r3, s2⟩ =>
  m_slices_symMergeCmpFunc_api_Slot_w_j6 mid1 end1 b1 rec_ cmp1 s2
 else
  m_slices_symMergeCmpFunc_api_Slot_w_j6 mid1 end1 b1 rec_ cmp1 l1
def m_slices_symMergeCmpFunc_api_Slot_w_j4 (mid1 : Int) (m1 : Int) (data1 : List GSlot) (cmp1 : (GSlot → GSlot → Option Int)) (a2 : Int) (rec_ : ((List GSlot) → Int → Int → Int → (GSlot → GSlot → Option Int) → Option (Unit × List GSlot))) (b1 : Int) (start2 : Int) : Option (Unit × List GSlot) :=
 (some (wi64 ((wi64 (mid1 + m1)) - start2))).bind fun end1 =>
 if (decide (start2 < m1)) && (decide (m1 < end1)) then
  (m_slices_rotateCmpFunc_api_Slot_w data1 start2 m1 end1 cmp1).bind fun ⟨r4, s3⟩ =>
  m_slices_symMergeCmpFunc_api_Slot_w_j5 a2 start2 mid1 rec_ cmp1 end1 b1 s3
 else
  m_slices_symMergeCmpFunc_api_Slot_w_j5 a2 start2 mid1 rec_ cmp1 end1 b1 data1
def m_slices_symMergeCmpFunc_api_Slot_w_l1 (data1 : List GSlot) (p1 : Int) (cmp1 : (GSlot → GSlot → Option Int)) (mid1 : Int) (m1 : Int) (a2 : Int) (rec_ : ((List GSlot) → Int → Int → Int → (GSlot → GSlot → Option Int) → Option (Unit × List GSlot))) (b1 : Int) : Nat → Int → Int → Option (Unit × List GSlot)
 | 0, _, _ => none
 | fuel1 + 1, start3, r5 =>
  if decide (start3 < r5) then
   (some (wi64 (Int.fdiv (wu64 (wi64 (start3 + r5))) (2 ^ 1)))).bind fun c18 =>
   (lat data1 (wi64 (p1 - c18))).bind fun e1 =>
   (lat data1 c18).bind fun e2 =>
   (cmp1 e1 e2).bind fun r6 =>
   if !(decide (r6 < 0)) then
    (m_slices_symMergeCmpFunc_api_Slot_w_l1 data1 p1 cmp1 mid1 m1 a2 rec_ b1 fuel1) (wi64 (c18 + 1)) r5
   else
    (m_slices_symMergeCmpFunc_api_Slot_w_l1 data1 p1 cmp1 mid1 m1 a2 rec_ b1 fuel1) start3 c18
  else
   m_slices_symMergeCmpFunc_api_Slot_w_j4 mid1 m1 data1 cmp1 a2 rec_ b1 start3
def m_slices_symMergeCmpFunc_api_Slot_w_j3 (mid1 : Int) (m1 : Int) (data1 : List GSlot) (cmp1 : (GSlot → GSlot → Option Int)) (a2 : Int) (rec_ : ((List GSlot) → Int → Int → Int → (GSlot → GSlot → Option Int) → Option (Unit × List GSlot))) (b1 : Int) (start1 : Int) (r1 : Int) : Option (Unit × List GSlot) :=
 (some (wi64 ((wi64 (mid1 + m1)) - 1))).bind fun p1 =>
 m_slices_symMergeCmpFunc_api_Slot_w_l1 data1 p1 cmp1 mid1 m1 a2 rec_ b1 fu start1 r1
def m_slices_symMergeCmpFunc_api_Slot_w_j2 (a2 : Int) (b1 : Int) (m1 : Int) (data1 : List GSlot) (cmp1 : (GSlot → GSlot → Option Int)) (rec_ : ((List GSlot) → Int → Int → Int → (GSlot → GSlot → Option Int) → Option (Unit × List GSlot))) : Option (Unit × List GSlot) :=
 (some (wi64 (Int.fdiv (wu64 (wi64 (a2 + b1))) (2 ^ 1)))).bind fun mid1 =>
 if decide (mid1 < m1) then
  (some (wi64 ((wi64 (mid1 + m1)) - b1))).bind fun start4 =>
  m_slices_symMergeCmpFunc_api_Slot_w_j3 mid1 m1 data1 cmp1 a2 rec_ b1 start4 mid1
 else
  m_slices_symMergeCmpFunc_api_Slot_w_j3 mid1 m1 data1 cmp1 a2 rec_ b1 a2 m1
def m_slices_symMergeCmpFunc_api_Slot_w_l2 (i1 : Int) : Nat → Int → (List GSlot) → Option (Unit × List GSlot)
 | 0, _, _ => none
 | fuel2 + 1, k1, l3 =>
  if decide (i1 < k1) then
   (lat l3 (wi64 (k1 - 1))).bind fun e3 =>
   (lat l3 k1).bind fun e4 =>
   if 0 ≤ k1 ∧ k1 < (l3.length : Int) then
    if 0 ≤ (wi64 (k1 - 1)) ∧ (wi64 (k1 - 1)) < ((l3.set (Int.toNat k1) e3).length : Int) then
     (m_slices_symMergeCmpFunc_api_Slot_w_l2 i1 fuel2) (wi64 (k1 - 1)) ((l3.set (Int.toNat k1) e3).set (Int.toNat (wi64 (k1 - 1))) e4)
    else none
   else none
  else
   some ((), l3)
def m_slices_symMergeCmpFunc_api_Slot_w_j7 (m1 : Int) (data1 : List GSlot) (i1 : Int) : Option (Unit × List GSlot) :=
 m_slices_symMergeCmpFunc_api_Slot_w_l2 i1 fu m1 data1
def m_slices_symMergeCmpFunc_api_Slot_w_l3 (data1 : List GSlot) (m1 : Int) (cmp1 : (GSlot → GSlot → Option Int)) : Nat → Int → Int → Option (Unit × List GSlot)
 | 0, _, _ => none
 | fuel3 + 1, i2, j1 =>
  if decide (i2 < j1) then
   (some (wi64 (Int.fdiv (wu64 (wi64 (i2 + j1))) (2 ^ 1)))).bind fun h1 =>
   (lat data1 m1).bind fun e5 =>
   (lat data1 h1).bind fun e6 =>
   (cmp1 e5 e6).bind fun r7 =>
   if !(decide (r7 < 0)) then
    (m_slices_symMergeCmpFunc_api_Slot_w_l3 data1 m1 cmp1 fuel3) (wi64 (h1 + 1)) j1
   else
    (m_slices_symMergeCmpFunc_api_Slot_w_l3 data1 m1 cmp1 fuel3) i2 h1
  else
   m_slices_symMergeCmpFunc_api_Slot_w_j7 m1 data1 i2
def m_slices_symMergeCmpFunc_api_Slot_w_j1 (b1 : Int) (m1 : Int) (data1 : List GSlot) (cmp1 : (GSlot → GSlot → Option Int)) (a2 : Int) (rec_ : ((List GSlot) → Int → Int → Int → (GSlot → GSlot → Option Int) → Option (Unit × List GSlot))) : Option (Unit × List GSlot) :=
 if decide (wi64 (b1 - m1) = 1) then
  m_slices_symMergeCmpFunc_api_Slot_w_l3 data1 m1 cmp1 fu a2 m1
 else
  m_slices_symMergeCmpFunc_api_Slot_w_j2 a2 b1 m1 data1 cmp1 rec_
def m_slices_symMergeCmpFunc_api_Slot_w_l4 (i3 : Int) : Nat → Int → (List GSlot) → Option (Unit × List GSlot)
 | 0, _, _ => none
 | fuel4 + 1, k2, l4 =>
  if decide (k2 < wi64 (i3 - 1)) then
   (lat l4 (wi64 (k2 + 1))).bind fun e7 =>
   (lat l4 k2).bind fun e8 =>
   if 0 ≤ k2 ∧ k2 < (l4.length : Int) then
    if 0 ≤ (wi64 (k2 + 1)) ∧ (wi64 (k2 + 1)) < ((l4.set (Int.toNat k2) e7).length : Int) then
     (m_slices_symMergeCmpFunc_api_Slot_w_l4 i3 fuel4) (wi64 (k2 + 1)) ((l4.set (Int.toNat k2) e7).set (Int.toNat (wi64 (k2 + 1))) e8)
    else none
   else none
  else
   some ((), l4)
def m_slices_symMergeCmpFunc_api_Slot_w_j8 (a2 : Int) (data1 : List GSlot) (i3 : Int) : Option (Unit × List GSlot) :=
 m_slices_symMergeCmpFunc_api_Slot_w_l4 i3 fu a2 data1
def m_slices_symMergeCmpFunc_api_Slot_w_l5 (data1 : List GSlot) (a2 : Int) (cmp1 : (GSlot → GSlot → Option Int)) : Nat → Int → Int → Option (Unit × List GSlot)
 | 0, _, _ => none
 | fuel5 + 1, i4, j2 =>
  if decide (i4 < j2) then
   (some (wi64 (Int.fdiv (wu64 (wi64 (i4 + j2))) (2 ^ 1)))).bind fun h2 =>
   (lat data1 h2).bind fun e9 =>
   (lat data1 a2).bind fun e10 =>
   (cmp1 e9 e10).bind fun r8 =>
   if decide (r8 < 0) then
    (m_slices_symMergeCmpFunc_api_Slot_w_l5 data1 a2 cmp1 fuel5) (wi64 (h2 + 1)) j2
   else
    (m_slices_symMergeCmpFunc_api_Slot_w_l5 data1 a2 cmp1 fuel5) i4 h2
  else
   m_slices_symMergeCmpFunc_api_Slot_w_j8 a2 data1 i4
def m_slices_symMergeCmpFunc_api_Slot_w_b (rec_ : ((List GSlot) → Int → Int → Int → (GSlot → GSlot → Option Int) → Option (Unit × List GSlot))) (data1 : List GSlot) (a2 : Int) (m1 : Int) (b1 : Int) (cmp1 : (GSlot → GSlot → Option Int)) : Option (Unit × List GSlot) :=
 if decide (wi64 (m1 - a2) = 1) then
  m_slices_symMergeCmpFunc_api_Slot_w_l5 data1 a2 cmp1 fu m1 b1
 else
  m_slices_symMergeCmpFunc_api_Slot_w_j1 b1 m1 data1 cmp1 a2 rec_
def m_slices_symMergeCmpFunc_api_Slot_w_r : Nat → ((List GSlot) → Int → Int → Int → (GSlot → GSlot → Option Int) → Option (Unit × List GSlot))
 | 0 => fun _ _ _ _ _ => none
 | n + 1 => m_slices_symMergeCmpFunc_api_Slot_w_b (m_slices_symMergeCmpFunc_api_Slot_w_r n)
def m_slices_symMergeCmpFunc_api_Slot_w (data1 : List GSlot) (a2 : Int) (m1 : Int) (b1 : Int) (cmp1 : (GSlot → GSlot → Option Int)) : Option (Unit × List GSlot) := m_slices_symMergeCmpFunc_api_Slot_w_r fu data1 a2 m1 b1 cmp1
def m_slices_stableCmpFunc_api_Slot_w_j3 (self1 : Int → (List GSlot) → Option (Unit × List GSlot)) (blockSize1 : Int) (l4 : List GSlot) : Option (Unit × List GSlot) :=
 self1 (wi64 (blockSize1 * 2)) l4
def m_slices_stableCmpFunc_api_Slot_w_j2 (blockSize1 : Int) (n2 : Int) (cmp1 : (GSlot → GSlot → Option Int)) (self1 : Int → (List GSlot) → Option (Unit × List GSlot)) (a3 : Int) (l3 : List GSlot) : Option (Unit × List GSlot) :=
 if decide (wi64 (a3 + blockSize1) < n2) then
  (m_slices_symMergeCmpFunc_api_Slot_w l3 a3 (wi64 (a3 + blockSize1)) n2 cmp1).bind fun ⟨r2, s2⟩ =>
  m_slices_stableCmpFunc_api_Slot_w_j3 self1 blockSize1 s2
 else
  m_slices_stableCmpFunc_api_Slot_w_j3 self1 blockSize1 l3
def m_slices_stableCmpFunc_api_Slot_w_l2 (n2 : Int) (blockSize1 : Int) (cmp1 : (GSlot → GSlot → Option Int)) (self1 : Int → (List GSlot) → Option (Unit × List GSlot)) : Nat → Int → Int → (List GSlot) → Option (Unit × List GSlot)
 | 0, _, _, _ => none
 | fuel2 + 1, a4, b1, l5 =>
  if decide (b1 ≤ n2) then
   (m_slices_symMergeCmpFunc_api_Slot_w l5 a4 (wi64 (a4 + blockSize1)) b1 cmp1).bind fun ⟨r3, s3⟩ =>
   (some (wi64 (b1 + (wi64 (2 * blockSize1))))).bind fun b2 =>
   (m_slices_stableCmpFunc_api_Slot_w_l2 n2 blockSize1 cmp1 self1 fuel2) b1 b2 s3
  else
   m_slices_stableCmpFunc_api_Slot_w_j2 blockSize1 n2 cmp1 self1 a4 l5
def m_slices_stableCmpFunc_api_Slot_w_l1 (n2 : Int) (cmp1 : (GSlot → GSlot → Option Int)) : Nat → Int → (List GSlot) → Option (Unit × List GSlot)
 | 0, _, _ => none
 | fuel1 + 1, blockSize1, l2 =>
  if decide (blockSize1 < n2) then
   m_slices_stableCmpFunc_api_Slot_w_l2 n2 blockSize1 cmp1 (m_slices_stableCmpFunc_api_Slot_w_l1 n2 cmp1 fuel1) fu 0 (wi64 (2 * blockSize1)) l2
  else
   some ((), l2)
def m_slices_stableCmpFunc_api_Slot_w_j1 (n2 : Int) (cmp1 : (GSlot → GSlot → Option Int)) (a2 : Int) (l1 : List GSlot) : Option (Unit × List GSlot) :=
 (m_slices_insertionSortCmpFunc_api_Slot_w l1 a2 n2 cmp1).bind fun ⟨r1, s1⟩ =>
 m_slices_stableCmpFunc_api_Slot_w_l1 n2 cmp1 fu 20 s1
def m_slices_stableCmpFunc_api_Slot_w_l3 (n2 : Int) (cmp1 : (GSlot → GSlot → Option Int)) : Nat → Int → Int → (List GSlot) → Option (Unit × List GSlot)
 | 0, _, _, _ => none
 | fuel3 + 1, a5, b3, l6 =>
  if decide (b3 ≤ n2) then
   (m_slices_insertionSortCmpFunc_api_Slot_w l6 a5 b3 cmp1).bind fun ⟨r4, s4⟩ =>
   (m_slices_stableCmpFunc_api_Slot_w_l3 n2 cmp1 fuel3) b3 (wi64 (b3 + 20)) s4
  else
   m_slices_stableCmpFunc_api_Slot_w_j1 n2 cmp1 a5 l6
def m_slices_stableCmpFunc_api_Slot_w (data1 : List GSlot) (n2 : Int) (cmp1 : (GSlot → GSlot → Option Int)) : Option (Unit × List GSlot) :=
 m_slices_stableCmpFunc_api_Slot_w_l3 n2 cmp1 fu 0 20 data1
def m_slices_SortStableFunc_api_Slot_api_Slot_w (x1 : List GSlot) (cmp1 : (GSlot → GSlot → Option Int)) : Option (Unit × List GSlot) :=
 (m_slices_stableCmpFunc_api_Slot_w x1 (x1.length : Int) cmp1).bind fun ⟨r1, s1⟩ =>
 some ((), s1)
def m_arena_sorted_api_Slot (l1 : List GSlot) (compare1 : (GSlot → GSlot → Option Int)) : Option (List GSlot) :=
 (lapp ([] : List GSlot) l1).bind fun zs1 =>
 (m_slices_SortStableFunc_api_Slot_api_Slot_w zs1 compare1).bind fun ⟨r1, s1⟩ =>
 some s1
def m_arena_fit_1 (a1 : GSlot) (b1 : GSlot) : Option Int :=
 some (wi64 (a1.At - b1.At))
def m_arena_fit_l1 (r1 : List GSlot) (l1 : List GLifetime) (k1 : Int) : Nat → Int → Int → Option Int
 | 0, _, _ => none
 | fuel1 + 1, at1, i1 =>
  if decide (i1 < (r1.length : Int)) then
   (lat r1 i1).bind fun e1 =>
   (lat l1 k1).bind fun e2 =>
   if decide (wi64 (at1 + e2.Size) ≤ e1.At) then
    some at1
   else
    (some (max at1 (wi64 (e1.At + e1.Len)))).bind fun at2 =>
    (m_arena_fit_l1 r1 l1 k1 fuel1) at2 (wi64 (i1 + 1))
  else
   some at1
def m_arena_fit_j1 (l1 : List GLifetime) (k1 : Int) (busy1 : List GSlot) : Option Int :=
 (m_arena_sorted_api_Slot busy1 m_arena_fit_1).bind fun r1 =>
 m_arena_fit_l1 r1 l1 k1 fu 0 0
def m_arena_fit_j2 (self2 : (List GSlot) → Int → Option Int) (i2 : Int) (busy3 : List GSlot) : Option Int :=
 self2 busy3 (wi64 (i2 + 1))
def m_arena_fit_l2 (slots1 : List GSlot) (k1 : Int) (l1 : List GLifetime) : Nat → (List GSlot) → Int → Option Int
 | 0, _, _ => none
 | fuel2 + 1, busy2, i2 =>
  if decide (i2 < (slots1.length : Int)) then
   (lat slots1 i2).bind fun e3 =>
   (gd ((decide (0 < e3.Len)) && (!decide (i2 = k1))) (lat l1 i2)).bind fun e4 =>
   (gd ((decide (0 < e3.Len)) && (!decide (i2 = k1))) (lat l1 k1)).bind fun e5 =>
   (gd ((decide (0 < e3.Len)) && (!decide (i2 = k1))) (m_liveness_Overlap e4 e5)).bind fun r2 =>
   if ((decide (0 < e3.Len)) && (!decide (i2 = k1))) && r2 then
    (lapp busy2 ([e3] : List GSlot)).bind fun zs1 =>
    m_arena_fit_j2 (m_arena_fit_l2 slots1 k1 l1 fuel2) i2 zs1
   else
    m_arena_fit_j2 (m_arena_fit_l2 slots1 k1 l1 fuel2) i2 busy2
  else
   m_arena_fit_j1 l1 k1 busy2
def m_arena_fit (l1 : List GLifetime) (slots1 : List GSlot) (k1 : Int) : Option Int :=
 m_arena_fit_l2 slots1 k1 l1 fu ([] : List GSlot) 0
def m_arena_place_l1 (order1 : List Int) (l1 : List GLifetime) : Nat → (List GSlot) → Int → Int → Option (List GSlot × Int)
 | 0, _, _, _ => none
 | fuel1 + 1, slots1, size1, i1 =>
  if decide (i1 < (order1.length : Int)) then
   (lat order1 i1).bind fun e1 =>
   (m_arena_fit l1 slots1 e1).bind fun r1 =>
   (lat l1 e1).bind fun e2 =>
   (lat l1 e1).bind fun e3 =>
   if 0 ≤ e1 ∧ e1 < (slots1.length : Int) then
    (lat l1 e1).bind fun e4 =>
    (some (max size1 (wi64 (r1 + e4.Size)))).bind fun size2 =>
    (m_arena_place_l1 order1 l1 fuel1) (slots1.set (Int.toNat e1) (⟨e2.Name, r1, e3.Size⟩ : GSlot)) size2 (wi64 (i1 + 1))
   else none
  else
   some (slots1, size1)
def m_arena_place (l1 : List GLifetime) (order1 : List Int) : Option (List GSlot × Int) :=
 (lmake (⟨([] : List UInt8), 0, 0⟩ : GSlot) (l1.length : Int) (l1.length : Int)).bind fun zs1 =>
 m_arena_place_l1 order1 l1 fu zs1 0 0
def m_arena_Plan_j1 (l1 : List GLifetime) (order1 : List Int) : Option (List GSlot × Int × Int) :=
 (m_arena_sorted_int order1 (fun y_1 y_2 => m_arena_Plan_1 y_1 y_2 l1)).bind fun r2 =>
 (m_arena_place l1 r2).bind fun r3 =>
 if decide (2147483647 < r3.2) then
  some (([] : List GSlot), 0, 22)
 else
  some (r3.1, r3.2, 0)
def m_arena_Plan_l1 (l1 : List GLifetime) : Nat → (List Int) → Int → Option (List GSlot × Int × Int)
 | 0, _, _ => none
 | fuel1 + 1, order2, i1 =>
  if decide (i1 < (l1.length : Int)) then
   (lapp order2 ([i1] : List Int)).bind fun zs1 =>
   (m_arena_Plan_l1 l1 fuel1) zs1 (wi64 (i1 + 1))
  else
   m_arena_Plan_j1 l1 order2
def m_arena_Plan (l1 : List GLifetime) : Option (List GSlot × Int × Int) :=
 (m_liveness_Validate l1).bind fun r1 =>
 if !decide (r1 = 0) then
  some (([] : List GSlot), 0, r1)
 else
  m_arena_Plan_l1 l1 fu ([] : List Int) 0
def m_arena_meet (a1 : GSlot) (b1 : GSlot) : Option Bool :=
 some ((((decide (0 < a1.Len)) && (decide (0 < b1.Len))) && (decide (a1.At < wi64 (b1.At + b1.Len)))) && (decide (b1.At < wi64 (a1.At + a1.Len))))
def m_arena_Check_j1 (self1 : Int → Option (Int × Int)) (i1 : Int) : Option (Int × Int) :=
 self1 (wi64 (i1 + 1))
def m_arena_Check_l2 (i1 : Int) (l1 : List GLifetime) (slots1 : List GSlot) (e1 : GSlot) (self1 : Int → Option (Int × Int)) : Nat → Int → Option (Int × Int)
 | 0, _ => none
 | fuel2 + 1, i2 =>
  if decide (i2 < i1) then
   (lat l1 i2).bind fun e4 =>
   (lat l1 i1).bind fun e5 =>
   (m_liveness_Overlap e4 e5).bind fun r2 =>
   (gd r2 (lat slots1 i2)).bind fun e6 =>
   (gd r2 (m_arena_meet e6 e1)).bind fun r3 =>
   if r2 && r3 then
    some (i1, 21)
   else
    (m_arena_Check_l2 i1 l1 slots1 e1 self1 fuel2) (wi64 (i2 + 1))
  else
   m_arena_Check_j1 self1 i1
def m_arena_Check_l1 (slots1 : List GSlot) (l1 : List GLifetime) (size1 : Int) : Nat → Int → Option (Int × Int)
 | 0, _ => none
 | fuel1 + 1, i1 =>
  if decide (i1 < (slots1.length : Int)) then
   (lat slots1 i1).bind fun e1 =>
   (lat l1 i1).bind fun e2 =>
   (gd (!(!decide (e1.Name = e2.Name))) (lat l1 i1)).bind fun e3 =>
   if (!decide (e1.Name = e2.Name)) || (!decide (e1.Len = e3.Size)) then
    some (i1, 1)
   else
    if ((decide (e1.At < 0)) || (decide (wi64 (size1 - e1.Len) < e1.At))) || (decide (size1 < e1.Len)) then
     some (i1, 22)
    else
     m_arena_Check_l2 i1 l1 slots1 e1 (m_arena_Check_l1 slots1 l1 size1 fuel1) fu 0
  else
   some (0, 0)
def m_arena_Check (l1 : List GLifetime) (slots1 : List GSlot) (size1 : Int) : Option (Int × Int) :=
 (m_liveness_Validate l1).bind fun r1 =>
 if !decide (r1 = 0) then
  some (0, r1)
 else
  if !decide ((l1.length : Int) = (slots1.length : Int)) then
   some (0, 15)
  else
   m_arena_Check_l1 slots1 l1 size1 fu 0
def m_slices_Index_int_int_l1 (s1 : List Int) (v1 : Int) : Nat → Int → Option Int
 | 0, _ => none
 | fuel1 + 1, i1 =>
  if decide (i1 < (s1.length : Int)) then
   (lat s1 i1).bind fun e1 =>
   if decide (v1 = e1) then
    some i1
   else
    (m_slices_Index_int_int_l1 s1 v1 fuel1) (wi64 (i1 + 1))
  else
   some (-1)
def m_slices_Index_int_int (s1 : List Int) (v1 : Int) : Option Int :=
 m_slices_Index_int_int_l1 s1 v1 fu 0
def m_slices_Contains_int_int (s1 : List Int) (v1 : Int) : Option Bool :=
 (m_slices_Index_int_int s1 v1).bind fun r1 =>
 some (decide (0 ≤ r1))
def m_arena_Optimal_1_w_j1 (self1 : Int → Int → Option (Unit × Int)) (i1 : Int) (a8 : Int) : Option (Unit × Int) :=
 self1 (wi64 (i1 + 1)) a8
def m_arena_Optimal_1_w_l1 (a2 : List GLifetime) (order1 : List Int) (rec_ : ((List Int) → (List GLifetime) → Int → Option (Unit × Int))) : Nat → Int → Int → Option (Unit × Int)
 | 0, _, _ => none
 | fuel1 + 1, i1, a7 =>
  if decide (i1 < (a2.length : Int)) then
   (m_slices_Contains_int_int order1 i1).bind fun r2 =>
   if !r2 then
    (lapp ([] : List Int) order1).bind fun zs1 =>
    (lapp zs1 ([i1] : List Int)).bind fun zs2 =>
    (rec_ zs2 a2 a7).bind fun ⟨r3, s1⟩ =>
    m_arena_Optimal_1_w_j1 (m_arena_Optimal_1_w_l1 a2 order1 rec_ fuel1) i1 s1
   else
    m_arena_Optimal_1_w_j1 (m_arena_Optimal_1_w_l1 a2 order1 rec_ fuel1) i1 a7
  else
   some ((), a7)
def m_arena_Optimal_1_w_b (rec_ : ((List Int) → (List GLifetime) → Int → Option (Unit × Int))) (order1 : List Int) (a2 : List GLifetime) (a4 : Int) : Option (Unit × Int) :=
 if decide ((order1.length : Int) = (a2.length : Int)) then
  (m_arena_place a2 order1).bind fun r1 =>
  if (decide (a4 < 0)) || (decide (r1.2 < a4)) then
   some ((), r1.2)
  else
   some ((), a4)
 else
  m_arena_Optimal_1_w_l1 a2 order1 rec_ fu 0 a4
def m_arena_Optimal_1_w_r : Nat → ((List Int) → (List GLifetime) → Int → Option (Unit × Int))
 | 0 => fun _ _ _ => none
 | n + 1 => m_arena_Optimal_1_w_b (m_arena_Optimal_1_w_r n)
def m_arena_Optimal_1_w (order1 : List Int) (a2 : List GLifetime) (a4 : Int) : Option (Unit × Int) := m_arena_Optimal_1_w_r fu order1 a2 a4
def m_arena_Optimal (l1 : List GLifetime) : Option (Int × Int) :=
 (m_liveness_Validate l1).bind fun r1 =>
 if !decide (r1 = 0) then
  some (0, r1)
 else
  if decide (7 < (l1.length : Int)) then
   some (0, 2)
  else
   (m_arena_Optimal_1_w ([] : List Int) l1 (-1)).bind fun ⟨r2, s1⟩ =>
   if decide (2147483647 < s1) then
    some (0, 22)
   else
    some (max s1 0, 0)
def m_arena_LowerBound_j1 (self1 : Int → Int → Option Int) (i1 : Int) (most2 : Int) : Option Int :=
 self1 most2 (wi64 (i1 + 1))
def m_arena_LowerBound_j2 (self1 : Int → Int → Option Int) (i1 : Int) (most1 : Int) (total1 : Int) : Option Int :=
 m_arena_LowerBound_j1 self1 i1 (max most1 total1)
def m_arena_LowerBound_j3 (self2 : Int → Int → Option Int) (i2 : Int) (total3 : Int) : Option Int :=
 self2 total3 (wi64 (i2 + 1))
def m_arena_LowerBound_l2 (l1 : List GLifetime) (e1 : GLifetime) (self1 : Int → Int → Option Int) (i1 : Int) (most1 : Int) : Nat → Int → Int → Option Int
 | 0, _, _ => none
 | fuel2 + 1, total2, i2 =>
  if decide (i2 < (l1.length : Int)) then
   (lat l1 i2).bind fun e2 =>
   if (decide (e2.From ≤ e1.From)) && (decide (e1.From ≤ e2.To)) then
    (some (min (wi64 (total2 + e2.Size)) 2147483647)).bind fun total4 =>
    m_arena_LowerBound_j3 (m_arena_LowerBound_l2 l1 e1 self1 i1 most1 fuel2) i2 total4
   else
    m_arena_LowerBound_j3 (m_arena_LowerBound_l2 l1 e1 self1 i1 most1 fuel2) i2 total2
  else
   m_arena_LowerBound_j2 self1 i1 most1 total2
def m_arena_LowerBound_l1 (l1 : List GLifetime) : Nat → Int → Int → Option Int
 | 0, _, _ => none
 | fuel1 + 1, most1, i1 =>
  if decide (i1 < (l1.length : Int)) then
   (lat l1 i1).bind fun e1 =>
   m_arena_LowerBound_l2 l1 e1 (m_arena_LowerBound_l1 l1 fuel1) i1 most1 fu 0 0
  else
   some most1
def m_arena_LowerBound (l1 : List GLifetime) : Option Int :=
 (m_liveness_Validate l1).bind fun r1 =>
 if !decide (r1 = 0) then
  some 0
 else
  m_arena_LowerBound_l1 l1 fu 0 0
def m_law42_examples : Option Bool :=
 (m_arena_Plan ([(⟨([97] : List UInt8), 0, 1, 4⟩ : GLifetime), (⟨([98] : List UInt8), 2, 3, 4⟩ : GLifetime)] : List GLifetime)).bind fun r1 =>
 (m_arena_Plan ([(⟨([97] : List UInt8), 0, 2, 4⟩ : GLifetime), (⟨([98] : List UInt8), 2, 3, 4⟩ : GLifetime)] : List GLifetime)).bind fun r2 =>
 (m_arena_Check ([(⟨([97] : List UInt8), 0, 2, 4⟩ : GLifetime), (⟨([98] : List UInt8), 2, 3, 4⟩ : GLifetime)] : List GLifetime) ([(⟨([97] : List UInt8), 0, 4⟩ : GSlot), (⟨([98] : List UInt8), 0, 4⟩ : GSlot)] : List GSlot) 8).bind fun r3 =>
 (m_arena_Optimal ([(⟨([97] : List UInt8), 0, 2, 4⟩ : GLifetime), (⟨([98] : List UInt8), 2, 3, 4⟩ : GLifetime)] : List GLifetime)).bind fun r4 =>
 (gd (((((((decide (r1.2.2 = 0)) && (decide (r2.2.2 = 0))) && (decide (r4.2 = 0))) && (decide ((r1.1.length : Int) = 2))) && (decide ((r2.1.length : Int) = 2))) && (decide (r1.2.1 = 4))) && (decide (r2.2.1 = 8))) (lat r1.1 1)).bind fun e1 =>
 (gd ((((((((decide (r1.2.2 = 0)) && (decide (r2.2.2 = 0))) && (decide (r4.2 = 0))) && (decide ((r1.1.length : Int) = 2))) && (decide ((r2.1.length : Int) = 2))) && (decide (r1.2.1 = 4))) && (decide (r2.2.1 = 8))) && (decide (e1.At = 0))) (lat r2.1 0)).bind fun e2 =>
 (gd (((((((((decide (r1.2.2 = 0)) && (decide (r2.2.2 = 0))) && (decide (r4.2 = 0))) && (decide ((r1.1.length : Int) = 2))) && (decide ((r2.1.length : Int) = 2))) && (decide (r1.2.1 = 4))) && (decide (r2.2.1 = 8))) && (decide (e1.At = 0))) && (decide (e2.At = 0))) (lat r2.1 1)).bind fun e3 =>
 if ((((((((((decide (r1.2.2 = 0)) && (decide (r2.2.2 = 0))) && (decide (r4.2 = 0))) && (decide ((r1.1.length : Int) = 2))) && (decide ((r2.1.length : Int) = 2))) && (decide (r1.2.1 = 4))) && (decide (r2.2.1 = 8))) && (decide (e1.At = 0))) && (decide (e2.At = 0))) && (decide (e3.At = 4))) = true then
  (m_arena_LowerBound ([(⟨([97] : List UInt8), 0, 2, 4⟩ : GLifetime), (⟨([98] : List UInt8), 2, 3, 4⟩ : GLifetime)] : List GLifetime)).bind fun r5 =>
  some ((((((((((((((decide (r1.2.2 = 0)) && (decide (r2.2.2 = 0))) && (decide (r4.2 = 0))) && (decide ((r1.1.length : Int) = 2))) && (decide ((r2.1.length : Int) = 2))) && (decide (r1.2.1 = 4))) && (decide (r2.2.1 = 8))) && (decide (e1.At = 0))) && (decide (e2.At = 0))) && (decide (e3.At = 4))) && (decide (r5 = 8))) && (decide (r3.1 = 1))) && (decide (r3.2 = 21))) && (decide (r4.1 = 8)))
 else none
def m_base_Words : Option (List (List UInt8)) :=
 some ([([115, 105, 122, 101] : List UInt8), ([119, 104, 101, 114, 101] : List UInt8), ([105, 110] : List UInt8), ([100, 101, 102] : List UInt8), ([111, 117, 116] : List UInt8), ([115, 117, 109] : List UInt8), ([112, 114, 111, 100] : List UInt8), ([109, 105, 110] : List UInt8), ([109, 97, 120] : List UInt8), ([115, 99, 97, 110] : List UInt8), ([111, 118, 101, 114] : List UInt8), ([105, 102] : List UInt8), ([99, 97, 115, 116] : List UInt8), ([102, 114, 97, 99] : List UInt8), ([105, 110, 116] : List UInt8), ([102, 105, 120] : List UInt8), ([99, 101, 105, 108] : List UInt8), ([102, 108, 111, 111, 114] : List UInt8), ([122, 101, 114, 111] : List UInt8), ([101, 118, 101, 110] : List UInt8), ([115, 97, 116] : List UInt8), ([119, 114, 97, 112] : List UInt8)] : List (List UInt8))
def m_base_Has_l1 (l1 : List (List UInt8)) (s1 : List UInt8) : Nat → Int → Option Bool
 | 0, _ => none
 | fuel1 + 1, i1 =>
  if decide (i1 < (l1.length : Int)) then
   (lat l1 i1).bind fun e1 =>
   if decide (e1 = s1) then
    some true
   else
    (m_base_Has_l1 l1 s1 fuel1) (wi64 (i1 + 1))
  else
   some false
def m_base_Has (l1 : List (List UInt8)) (s1 : List UInt8) : Option Bool :=
 m_base_Has_l1 l1 s1 fu 0
def m_base_Name_l1 (s1 : List UInt8) : Nat → Int → Option Bool
 | 0, _ => none
 | fuel1 + 1, i1 =>
  if decide (i1 < (s1.length : Int)) then
   (sat s1 i1).bind fun b1 =>
   if !(((decide (97 ≤ b1)) && (decide (b1 ≤ 122))) || ((decide (0 < i1)) && (((decide (48 ≤ b1)) && (decide (b1 ≤ 57))) || (decide (b1 = 95))))) then
    some false
   else
    (m_base_Name_l1 s1 fuel1) (wi64 (i1 + 1))
  else
   some true
def m_base_Name (s1 : List UInt8) : Option Bool :=
 (gd (!((decide ((s1.length : Int) < 1)) || (decide (16 < (s1.length : Int))))) (m_base_Words)).bind fun r1 =>
 (gd (!((decide ((s1.length : Int) < 1)) || (decide (16 < (s1.length : Int))))) (m_base_Has r1 s1)).bind fun r2 =>
 if ((decide ((s1.length : Int) < 1)) || (decide (16 < (s1.length : Int)))) || r2 then
  some false
 else
  m_base_Name_l1 s1 fu 0
def m_ref41_Validate_j1 (self1 : Int → Option Int) (i1 : Int) : Option Int :=
 self1 (wi64 (i1 + 1))
def m_ref41_Validate_j2 (l1 : List GLifetime) (i1 : Int) (self1 : Int → Option Int) : Option Int :=
 (lat l1 i1).bind fun e2 =>
 (gd (!(decide (e2.From < 0))) (lat l1 i1)).bind fun e3 =>
 (gd (!(decide (e2.From < 0))) (lat l1 i1)).bind fun e4 =>
 (gd (!((decide (e2.From < 0)) || (decide (e3.To < e4.From)))) (lat l1 i1)).bind fun e5 =>
 (gd (!(((decide (e2.From < 0)) || (decide (e3.To < e4.From))) || (decide (e5.Size < 1)))) (lat l1 i1)).bind fun e6 =>
 if (((decide (e2.From < 0)) || (decide (e3.To < e4.From))) || (decide (e5.Size < 1))) || (decide (4096 < e6.Size)) then
  some 1
 else
  m_ref41_Validate_j1 self1 i1
def m_ref41_Validate_l2 (i1 : Int) (l1 : List GLifetime) (self1 : Int → Option Int) : Nat → Int → Option Int
 | 0, _ => none
 | fuel2 + 1, k1 =>
  if decide (k1 < i1) then
   (lat l1 k1).bind fun e7 =>
   (lat l1 i1).bind fun e8 =>
   if decide (e7.Name = e8.Name) then
    some 8
   else
    (m_ref41_Validate_l2 i1 l1 self1 fuel2) (wi64 (k1 + 1))
  else
   m_ref41_Validate_j2 l1 i1 self1
def m_ref41_Validate_l1 (l1 : List GLifetime) : Nat → Int → Option Int
 | 0, _ => none
 | fuel1 + 1, i1 =>
  if decide (i1 < (l1.length : Int)) then
   (lat l1 i1).bind fun e1 =>
   (m_base_Name e1.Name).bind fun r1 =>
   if !r1 then
    some 7
   else
    m_ref41_Validate_l2 i1 l1 (m_ref41_Validate_l1 l1 fuel1) fu 0
  else
   some 0
def m_ref41_Validate (l1 : List GLifetime) : Option Int :=
 m_ref41_Validate_l1 l1 fu 0
def m_ref42_LowerBound_j1 (self1 : Int → Int → Option Int) (i1 : Int) (most2 : Int) : Option Int :=
 self1 most2 (wi64 (i1 + 1))
def m_ref42_LowerBound_j2 (self1 : Int → Int → Option Int) (i1 : Int) (most1 : Int) (n1 : Int) : Option Int :=
 m_ref42_LowerBound_j1 self1 i1 (max most1 n1)
def m_ref42_LowerBound_j3 (self2 : Int → Int → Option Int) (k1 : Int) (n3 : Int) : Option Int :=
 self2 n3 (wi64 (k1 + 1))
def m_ref42_LowerBound_l2 (l1 : List GLifetime) (i1 : Int) (self1 : Int → Int → Option Int) (most1 : Int) : Nat → Int → Int → Option Int
 | 0, _, _ => none
 | fuel2 + 1, n2, k1 =>
  if decide (k1 < (l1.length : Int)) then
   (lat l1 k1).bind fun e1 =>
   (lat l1 i1).bind fun e2 =>
   (gd (decide (e1.From ≤ e2.From)) (lat l1 i1)).bind fun e3 =>
   (gd (decide (e1.From ≤ e2.From)) (lat l1 k1)).bind fun e4 =>
   if (decide (e1.From ≤ e2.From)) && (decide (e3.From ≤ e4.To)) then
    (lat l1 k1).bind fun e5 =>
    (some (min (wi64 (n2 + (min e5.Size 2147483647))) 2147483647)).bind fun n4 =>
    m_ref42_LowerBound_j3 (m_ref42_LowerBound_l2 l1 i1 self1 most1 fuel2) k1 n4
   else
    m_ref42_LowerBound_j3 (m_ref42_LowerBound_l2 l1 i1 self1 most1 fuel2) k1 n2
  else
   m_ref42_LowerBound_j2 self1 i1 most1 n2
def m_ref42_LowerBound_l1 (l1 : List GLifetime) : Nat → Int → Int → Option Int
 | 0, _, _ => none
 | fuel1 + 1, most1, i1 =>
  if decide (i1 < (l1.length : Int)) then
   m_ref42_LowerBound_l2 l1 i1 (m_ref42_LowerBound_l1 l1 fuel1) most1 fu 0 0
  else
   some most1
def m_ref42_LowerBound (l1 : List GLifetime) : Option Int :=
 (m_ref41_Validate l1).bind fun r1 =>
 if !decide (r1 = 0) then
  some 0
 else
  m_ref42_LowerBound_l1 l1 fu 0 0
def m_law42_ArenaLowerBound (l1 : List GLifetime) : Option Bool :=
 (m_law42_few l1 60).bind fun r1 =>
 (gd (!r1) (m_law42_examples)).bind fun r2 =>
 (gd (!((!r1) && r2)) (m_law42_few l1 60)).bind fun r3 =>
 (gd ((!((!r1) && r2)) && r3) (m_arena_LowerBound l1)).bind fun r4 =>
 (gd ((!((!r1) && r2)) && r3) (m_ref42_LowerBound l1)).bind fun r5 =>
 (gd ((!((!r1) && r2)) && (r3 && (decide (r4 = r5)))) (m_law42_examples)).bind fun r6 =>
 some (((!r1) && r2) || ((r3 && (decide (r4 = r5))) && r6))
end Go.Proofs.YtnehbaocbcegpaaDoor
