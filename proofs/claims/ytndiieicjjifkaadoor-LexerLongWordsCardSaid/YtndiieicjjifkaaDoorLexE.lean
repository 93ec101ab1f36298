/- Keywords, names, Join. -/
import Derived.Test.YtndiieicjjifkaaDoorLexD
namespace Go.Vc
open Go Go.RowKit
def words : List (List UInt8) := [[115, 105, 122, 101], [119, 104, 101, 114, 101], [105, 110], [100, 101, 102], [111, 117, 116], [115, 117, 109], [112, 114, 111, 100], [109, 105, 110], [109, 97, 120], [115, 99, 97, 110], [111, 118, 101, 114], [105, 102], [99, 97, 115, 116], [102, 114, 97, 99], [105, 110, 116], [102, 105, 120], [99, 101, 105, 108], [102, 108, 111, 111, 114], [122, 101, 114, 111], [101, 118, 101, 110], [115, 97, 116], [119, 114, 97, 112]]
def line : List UInt8 := [115, 105, 122, 101, 32, 119, 104, 101, 114, 101, 32, 105, 110, 32, 100, 101, 102, 32, 111, 117, 116, 32, 115, 117, 109, 32, 112, 114, 111, 100, 32, 109, 105, 110, 32, 109, 97, 120, 32, 115, 99, 97, 110, 32, 111, 118, 101, 114, 32, 105, 102, 32, 99, 97, 115, 116, 32, 102, 114, 97, 99, 32, 105, 110, 116, 32, 102, 105, 120, 32, 99, 101, 105, 108, 32, 102, 108, 111, 111, 114, 32, 122, 101, 114, 111, 32, 101, 118, 101, 110, 32, 115, 97, 116, 32, 119, 114, 97, 112]
theorem fields_line : Lib.fields line = words := by decide +kernel
def indexL (s : List UInt8) : List (List UInt8) → Nat → Int
  | [], _ => -1
  | x :: l, k => if s = x then (k : Int) else indexL s l (k + 1)
theorem indexL_has (s : List UInt8) (l : List (List UInt8)) (k : Nat) : decide (0 ≤ indexL s l k) = l.contains s := by
  induction l generalizing k with
  | nil => rfl
  | cons x l ih =>
    by_cases h : s = x
    · subst h; simp [indexL]
    · rw [indexL, if_neg h, ih, List.contains_cons]
      have : (s == x) = false := by simpa using h
      rw [this, Bool.false_or]
/-- Is it a name? -/
def nameB (s : List UInt8) : Bool := decide (s ≠ []) && decide (s.length ≤ 16) && letterB (at8 s 0) && decide (spanL wordB s = s.length) && !words.contains s
def joinL : List (List UInt8) → List UInt8
  | [] => []
  | [x] => x
  | x :: l => x ++ 32 :: joinL l
/-- The texts so far, each behind the first with a blank ahead. -/
def joinTo (l : List (List UInt8)) (k : Nat) : List UInt8 := (l.take k).foldl (fun (r : List UInt8 × Bool) x => ((if r.2 then r.1 ++ [32] else r.1) ++ x, true)) ([], false) |>.1
end Go.Vc
namespace Go.Proofs.YtndiieicjjifkaaDoor
open Go Go.RowKit Go.Vc
/-- What the row tells of the two tables. -/
abbrev Tabs (w : World) : Prop := Lib.TabIs Tryd.prog w "strings.asciiSpace" .u8 Lib.asciiSpaceTab
theorem words_c (w : World) : Calls Tryd.prog 33 #[] w fun e w' => ∃ A c, e = .returned (.slice A 22 c) ∧ SlR w' A 22 1 (words.map str) ∧ Ext w w' := by
  suffices h : Calls Tryd.prog 33 #[] w fun e w' => ∃ v, e = .returned v ∧ ∃ A c, v = .slice A 22 c ∧ SlR w' A 22 1 (words.map str) ∧ Ext w w' from h.mono fun _ _ ⟨v, h1, A, c, h2, h3⟩ => ⟨A, c, h2 ▸ h1, h3⟩
  refine vc33 w _ fun b w1 _ _ hx hB => ⟨_, _, rfl, ⟨rfl, fun _ => ⟨_, rfl, CellsAt.of_blk hB rfl⟩⟩, hx⟩
theorem has_c (A : Option Addr) (c : Nat) (l : List (List UInt8)) (s : List UInt8) (w : World) (hl : l.length ≤ 100000) (hA : SlR w A l.length 1 (l.map str)) : RetV Tryd.prog 32 #[.slice A l.length c, str s] w (.bool (l.contains s)) := by
  refine ofV (vc32 A _ c s w _ ?_)
  refine ⟨fun i _ => ∃ k : Nat, i = k ∧ k ≤ l.length ∧ l.contains s = (l.drop k).contains s, fun i => l.length - i.toNat, ⟨0, rfl, by omega, rfl⟩, ?_⟩
  rintro i w1 hx ⟨k, rfl, hk, he⟩
  simp only [Int.toNat_natCast]
  refine ⟨fun h => ?_, fun h => ?_⟩
  · have hlt : k < l.length := by simp at h; omega
    obtain ⟨ad, hA1, hc1⟩ := (hA.ext hx).at_ hlt
    have hd : l.drop k = l[k] :: l.drop (k + 1) := List.drop_eq_getElem_cons hlt
    rw [Nat.mul_one, ← List.map_drop, hd, List.map_cons, List.take_succ_cons, List.take_zero] at hc1
    rw [hd, List.contains_cons] at he
    refine ⟨by omega, ad, hA1, _, by rw [Nat.mul_one]; exact hc1, fun hc => ⟨?_, hx⟩, fun hc => ⟨by simp [R64]; omega, ⟨k + 1, by omega, by omega, ?_⟩, by omega⟩⟩
    · rw [he, show (s == l[k]) = true by simpa using (by simpa using hc : l[k] = s).symm]; rfl
    · rw [he, show (s == l[k]) = false by simpa using fun e : s = l[k] => absurd e.symm (by simpa using hc), Bool.false_or]
  · refine ⟨?_, hx⟩
    have hk : k = l.length := by simp at h; omega
    rw [he, List.drop_eq_nil_of_le (by omega)]; rfl
theorem index_c (A : Option Addr) (c : Nat) (l : List (List UInt8)) (s : List UInt8) (w : World) (hl : l.length ≤ 100000) (hA : SlR w A l.length 1 (l.map str)) : RetV Tryd.prog 43 #[.slice A l.length c, str s] w (.int .i64 (indexL s l 0)) := by
  refine ofV (vc43 A _ c s w _ ?_)
  refine ⟨fun i _ => ∃ k : Nat, i = k ∧ k ≤ l.length ∧ indexL s l 0 = indexL s (l.drop k) k, fun i => l.length - i.toNat, ⟨0, rfl, by omega, rfl⟩, ?_⟩
  rintro i w1 hx ⟨k, rfl, hk, he⟩
  simp only [Int.toNat_natCast]
  refine ⟨fun h => ?_, fun h => ?_⟩
  · have hlt : k < l.length := by simp at h; omega
    obtain ⟨ad, hA1, hc1⟩ := (hA.ext hx).at_ hlt
    have hd : l.drop k = l[k] :: l.drop (k + 1) := List.drop_eq_getElem_cons hlt
    rw [Nat.mul_one, ← List.map_drop, hd, List.map_cons, List.take_succ_cons, List.take_zero] at hc1
    rw [hd, indexL] at he
    refine ⟨by omega, ad, hA1, _, by rw [Nat.mul_one]; exact hc1, fun hc => ⟨?_, hx⟩, fun hc => ⟨by simp [R64]; omega, ⟨k + 1, by omega, by omega, ?_⟩, by omega⟩⟩
    · rw [he, if_pos (by simpa using hc)]
    · rw [he, if_neg (by simpa using hc)]
  · refine ⟨?_, hx⟩
    have hk : k = l.length := by simp at h; omega
    rw [he, List.drop_eq_nil_of_le (by omega)]; rfl
theorem contains_c (A : Option Addr) (c : Nat) (l : List (List UInt8)) (s : List UInt8) (w : World) (hl : l.length ≤ 100000) (hA : SlR w A l.length 1 (l.map str)) : RetV Tryd.prog 30 #[.slice A l.length c, str s] w (.bool (l.contains s)) := by
  refine ofV (vc30 A _ c s w _ ?_)
  refine (index_c A c l s w hl hA).use fun w1 h1 => ⟨_, rfl, h1, ?_, h1⟩
  rw [indexL_has]
theorem keywords_c (w : World) (hT : Tabs w) : Calls Tryd.prog 31 #[] w fun e w' => ∃ A c, e = .returned (.slice A 22 c) ∧ SlR w' A 22 1 (words.map str) ∧ Ext w w' := by
  suffices h : Calls Tryd.prog 31 #[] w fun e w' => ∃ v, e = .returned v ∧ ∃ A c, v = .slice A 22 c ∧ SlR w' A 22 1 (words.map str) ∧ Ext w w' from h.mono fun _ _ ⟨v, h1, A, c, h2, h3⟩ => ⟨A, c, h2 ▸ h1, h3⟩
  refine vc31 w _ ?_
  refine (Tryd.strings_Fields ⟨line.toArray⟩ w (by decide) ?_ hT).mono ?_
  · intro j b hb
    have h := List.mem_of_getElem? hb
    have : ∀ b ∈ line, b.toNat < 128 := by decide
    exact this b (by simpa using h)
  · rintro e w' ⟨rfl, rfl⟩
    have e1 : (Lib.fields (⟨line.toArray⟩ : ByteArray).data.toList) = words := fields_line
    rw [e1]
    refine ⟨_, _, _, rfl, Ext.alloc _, _, _, rfl, ⟨rfl, fun _ => ⟨_, rfl, CellsAt.of_blk Blk.new rfl⟩⟩, Ext.alloc _⟩
theorem isKeyword_c (s : List UInt8) (w : World) (hT : Tabs w) : RetV Tryd.prog 16 #[str s] w (.bool (words.contains s)) := by
  refine ofV (vc16 s w _ ?_)
  refine (keywords_c w hT).mono ?_
  rintro _ w1 ⟨A, c, rfl, hS, hx⟩
  exact ⟨_, _, _, rfl, hx, (contains_c A c words s w1 (by decide) hS).use fun w2 h2 => ⟨_, rfl, h2, rfl, hx.trans' h2⟩⟩
theorem risKeyword_c (s : List UInt8) (w : World) : RetV Tryd.prog 17 #[str s] w (.bool (words.contains s)) := by
  refine ofV (vc17 s w _ ?_)
  refine (words_c w).mono ?_
  rintro _ w1 ⟨A, c, rfl, hS, hx⟩
  exact ⟨_, _, _, rfl, hx, (has_c A c words s w1 (by decide) hS).use fun w2 h2 => ⟨_, rfl, h2, rfl, hx.trans' h2⟩⟩
end Go.Proofs.YtndiieicjjifkaaDoor
