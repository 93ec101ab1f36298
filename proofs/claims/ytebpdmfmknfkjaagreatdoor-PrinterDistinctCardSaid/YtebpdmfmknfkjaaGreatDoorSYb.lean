import Derived.Test.YtebpdmfmknfkjaaGreatDoorSYa
import Derived.Test.YtebpdmfmknfkjaaGreatDoorSWa
namespace Go.Proofs.YtebpdmfmknfkjaaGreatDoor
open Go Go.RowKit Go.Vc
set_option linter.unusedVariables false
set_option linter.unusedSimpArgs false
theorem alive15 : m_law15_alive = some true := by kernel_rfl
theorem itoa_ok {n : Int} (h : -2147483647 ≤ n ∧ n ≤ 2147483647) : m_strconv_Itoa n = some (Lib.itoa n) := by
 unfold m_strconv_Itoa m_internal_strconv_Itoa m_internal_strconv_FormatInt
 rw [if_pos ⟨rfl, by omega, by omega⟩]; rfl
def modeT (n : Int) : List UInt8 := if n = 1 then [102, 108, 111, 111, 114] else if n = 2 then [99, 101, 105, 108] else if n = 3 then [122, 101, 114, 111] else [101, 118, 101, 110]
def overT (n : Int) : List UInt8 := if n = 2 then [119, 114, 97, 112] else [115, 97, 116]
def tyT (t : GType) : List UInt8 :=
 if tyB t = true then
  if t.Kind = 1 then [102, 114, 97, 99]
  else if t.Kind = 3 then [105, 110, 116]
  else [102, 105, 120, 40] ++ (Lib.itoa t.Bits ++ ([44, 32] ++ (Lib.itoa t.Frac ++ ([44, 32] ++ (modeT t.Round ++ ([44, 32] ++ (overT t.Over ++ [41])))))))
 else []
theorem printer_mode (n : Int) : m_printer_mode n = some (modeT n) := by
 unfold m_printer_mode modeT
 by_cases h1 : n = 1 <;> by_cases h2 : n = 2 <;> by_cases h3 : n = 3 <;> simp [h1, h2, h3] <;> omega
theorem ref15_mode (n : Int) : m_ref15_mode n = some (modeT n) := printer_mode n
theorem modeT_len (n : Int) : (modeT n).length ≤ 5 := by unfold modeT; split <;> (try split) <;> (try split) <;> simp
theorem overT_len (n : Int) : (overT n).length ≤ 4 := by unfold overT; split <;> simp
theorem lapp_left {α : Type} {a b : List α} {c : Option (List α)} (h : a.length + b.length ≤ 4294967296) (k : List α → Option (List α)) (he : k (a ++ b) = c) : (lapp a b).bind k = c := by rw [lapp_ok h, Option.bind_some, he]
theorem ty_j1 {t : GType} {o : List UInt8} (ht : tyB t = true) (h2 : t.Kind = 2) (ho : o.length ≤ 4) : m_printer_Type_j1 t o = some ([102, 105, 120, 40] ++ (Lib.itoa t.Bits ++ ([44, 32] ++ (Lib.itoa t.Frac ++ ([44, 32] ++ (modeT t.Round ++ ([44, 32] ++ (o ++ [41])))))))) ∧
  m_ref15_Type_j1 t o = some ([102, 105, 120, 40] ++ (Lib.itoa t.Bits ++ ([44, 32] ++ (Lib.itoa t.Frac ++ ([44, 32] ++ (modeT t.Round ++ ([44, 32] ++ (o ++ [41])))))))) := by
 obtain ⟨q1, q2, q3, q4, q5⟩ := tyB_fix ht h2
 have b1 : -2147483647 ≤ t.Bits ∧ t.Bits ≤ 2147483647 := ⟨by omega, by omega⟩
 have b2 : -2147483647 ≤ t.Frac ∧ t.Frac ≤ 2147483647 := ⟨by omega, by omega⟩
 have l1 := itoa_len b1
 have l2 := itoa_len b2
 have l3 := modeT_len t.Round
 unfold m_printer_Type_j1 m_ref15_Type_j1
 rw [itoa_ok b1, itoa_ok b2, printer_mode, ref15_mode, ref01_Digits b1, ref01_Digits b2]
 simp only [Option.bind_some]
 constructor
 all_goals (iterate 8 (refine lapp_left (by simp only [List.length_append, List.length_cons, List.length_nil]; omega) _ ?_))
 all_goals simp
theorem type_ok (t : GType) : m_printer_Type t = some (tyT t) ∧ m_ref15_Type t = some (tyT t) := by
 unfold m_printer_Type m_ref15_Type tyT
 rw [value_ValidateType, base_Type]
 cases ht : tyB t
 ·exact ⟨rfl, rfl⟩
 ·simp only [if_true, Option.bind_some, decide_true, Bool.not_true, Bool.false_eq_true, if_false]
  by_cases h1 : t.Kind = 1
  ·simp [h1]
  by_cases h3 : t.Kind = 3
  ·simp [h3]
  have h2 : t.Kind = 2 := by rcases tyB_kind ht with k | k | k; exact absurd k h1; exact k; exact absurd k h3
  simp only [h1, h3, decide_false, Bool.false_eq_true, if_false]
  unfold overT
  by_cases ho : t.Over = 2
  ·simp only [ho, decide_true, if_true]; exact ty_j1 ht h2 (by simp)
  ·simp only [ho, decide_false, Bool.false_eq_true, if_false]; exact ty_j1 ht h2 (by simp)
theorem tyT_len (t : GType) : (tyT t).length ≤ 60 := by
 unfold tyT
 split
 ·rename_i ht
  by_cases h1 : t.Kind = 1
  ·simp [h1]
  by_cases h3 : t.Kind = 3
  ·simp [h3]
  have h2 : t.Kind = 2 := by rcases tyB_kind ht with k | k | k; exact absurd k h1; exact k; exact absurd k h3
  obtain ⟨q1, q2, q3, q4, q5⟩ := tyB_fix ht h2
  have l1 := itoa_len (n := t.Bits) ⟨by omega, by omega⟩
  have l2 := itoa_len (n := t.Frac) ⟨by omega, by omega⟩
  have l3 := modeT_len t.Round
  have l4 := overT_len t.Over
  simp only [h1, h3, if_false, List.length_append, List.length_cons, List.length_nil]
  omega
 ·simp
end Go.Proofs.YtebpdmfmknfkjaaGreatDoor
