/- Plain definitions for the lexer: lists of bytes, no program in sight. -/
import Derived.Test.YtndiieicjjifkaaDoorVcMem
namespace Go.Vc
open Go Go.RowKit

/-! ### Calls that hand back one value -/
abbrev RetV (P : Program) (f : FuncId) (args : Array Value) (w : World) (v : Value) : Prop := Calls P f args w fun e w' => e = .returned v ∧ Ext w w'
theorem ofV {P : Program} {f : FuncId} {args : Array Value} {w : World} {v : Value} (h : Calls P f args w fun e w' => ∃ u, e = .returned u ∧ (u = v ∧ Ext w w')) : RetV P f args w v :=
  h.mono fun _ _ ⟨_, h1, h2, h3⟩ => ⟨h2 ▸ h1, h3⟩
theorem RetV.use {P : Program} {f : FuncId} {args : Array Value} {w : World} {v : Value} {K : Ending → World → Prop} (h : RetV P f args w v) (hk : ∀ w', Ext w w' → K (.returned v) w') : Calls P f args w K :=
  h.mono fun _ _ ⟨h1, h2⟩ => h1 ▸ hk _ h2

theorem at8_range (l : List UInt8) (i : Nat) : 0 ≤ at8 l i ∧ at8 l i ≤ 255 := by
  unfold at8; have := (l.getD i 0).toNat_lt; omega
theorem at8_cons (c : UInt8) (l : List UInt8) : at8 (c :: l) 0 = c.toNat := rfl
theorem at8_drop (l : List UInt8) (i j : Nat) : at8 (l.drop i) j = at8 l (i + j) := by
  unfold at8; simp [List.getD_eq_getElem?_getD, List.getElem?_drop]
theorem drop_cons (l : List UInt8) (i : Nat) (h : i < l.length) : ∃ c, l.drop i = c :: l.drop (i + 1) ∧ at8 l i = c.toNat :=
  ⟨l[i], List.drop_eq_getElem_cons h, by unfold at8; simp [List.getD_eq_getElem?_getD, h]⟩

/-! ### Bytes -/
def letterB (r : Int) : Bool := decide (97 ≤ r) && decide (r ≤ 122)
def digitB (r : Int) : Bool := decide (48 ≤ r) && decide (r ≤ 57)
def wordB (r : Int) : Bool := (letterB r || digitB r) || decide (r = 95)
def spaceB (r : Int) : Bool := decide (r = 9) || decide (r = 10) || decide (r = 13) || decide (r = 32)
def symB (r : Int) : Bool := [40, 41, 91, 93, 123, 125, 44, 59, 58, 43, 45, 42, 47, 60, 61, 38, 124, 33, 46, 64].contains r
def notNl (r : Int) : Bool := !decide (r = 10)

def spanL (p : Int → Bool) : List UInt8 → Nat
  | [] => 0
  | c :: l => match p (c.toNat : Int) with | true => spanL p l + 1 | false => 0
theorem spanL_le (p : Int → Bool) (l : List UInt8) : spanL p l ≤ l.length := by
  induction l with
  | nil => exact Nat.le_refl _
  | cons c l ih => simp only [spanL]; cases p (c.toNat : Int) <;> simp <;> omega

/-- White space and comments at the head; the flag: within a comment. -/
def skipL : Bool → List UInt8 → Nat
  | _, [] => 0
  | true, c :: l => match notNl (c.toNat : Int) with | true => skipL true l + 1 | false => skipL false l + 1
  | false, c :: l => match spaceB (c.toNat : Int) with
    | true => skipL false l + 1
    | false => match decide ((c.toNat : Int) = 35) with | true => skipL true l + 1 | false => 0
theorem skipL_le (b : Bool) (l : List UInt8) : skipL b l ≤ l.length := by
  induction l generalizing b with
  | nil => cases b <;> exact Nat.le_refl _
  | cons c l ih =>
    have h1 := ih true
    have h2 := ih false
    cases b <;> simp only [skipL]
    · cases spaceB (c.toNat : Int)
      · cases decide ((c.toNat : Int) = 35) <;> simp <;> omega
      · simp; omega
    · cases notNl (c.toNat : Int) <;> simp <;> omega
/-- A comment is skipped by the length of its bytes, then what follows. -/
theorem skipL_comment (l : List UInt8) : skipL true l = spanL notNl l + skipL false (l.drop (spanL notNl l)) := by
  induction l with
  | nil => rfl
  | cons c l ih =>
    by_cases h : notNl (c.toNat : Int) = true
    · simp only [skipL, spanL, h, ih, List.drop_succ_cons]; omega
    · rw [Bool.not_eq_true] at h
      have h10 : (c.toNat : Int) = 10 := by simpa [notNl] using h
      have hs : spaceB (c.toNat : Int) = true := by rw [h10]; rfl
      simp only [skipL, spanL, h, List.drop_zero, hs]
      omega

/-- The kind and the length of the token at the head (kind 0: none). -/
def nextL (l : List UInt8) : Nat × Nat :=
  let c := at8 l 0
  if letterB c then (1, spanL wordB l)
  else if digitB c then (2, spanL digitB l)
  else if (decide (c = 60) || decide (c = 61)) && decide ((1 : Int) < (l.length : Int)) && decide (at8 l 1 = 61) then (3, 2)
  else if symB c then (3, 1)
  else (0, 0)

theorem digit_word {r : Int} (h : digitB r = true) : wordB r = true := by simp [wordB, h]
theorem nextL_le (l : List UInt8) (hl : 0 < l.length) : (nextL l).2 ≤ l.length := by
  unfold nextL
  have h1 := spanL_le wordB l
  have h2 := spanL_le digitB l
  dsimp only
  split
  · exact h1
  · split
    · exact h2
    · split
      · rename_i h; simp at h; simp only; omega
      · split <;> simp only <;> omega
theorem nextL_pos (l : List UInt8) (hl : 0 < l.length) (h : (nextL l).1 ≠ 0) : 0 < (nextL l).2 := by
  obtain ⟨c, l, rfl⟩ : ∃ c l', l = c :: l' := by cases l with | nil => simp at hl | cons c l => exact ⟨c, l, rfl⟩
  revert h
  unfold nextL
  rw [at8_cons]
  dsimp only
  split
  · rename_i h; intro _; have hw : wordB (c.toNat : Int) = true := by simp [wordB, h]
    simp [spanL, hw]
  · split
    · rename_i h; intro _; simp [spanL, h]
    · split
      · intro _; simp
      · split <;> simp
theorem nextL_kind (l : List UInt8) : (nextL l).1 = 0 ∨ (nextL l).1 = 1 ∨ (nextL l).1 = 2 ∨ (nextL l).1 = 3 := by
  unfold nextL; dsimp only; split <;> (try split) <;> (try split) <;> (try split) <;> simp

structure Tok where
  kind : Int
  at_ : Int
  text : List UInt8
def Tok.cells (t : Tok) : List Value := [.int .i64 t.kind, .int .i64 t.at_, str t.text]
def toksV (l : List Tok) : List Value := l.flatMap Tok.cells
theorem toksV_append (a b : List Tok) : toksV (a ++ b) = toksV a ++ toksV b := by simp [toksV]
theorem toksV_length (l : List Tok) : (toksV l).length = l.length * 3 := by
  induction l with
  | nil => rfl
  | cons t l ih => simp [toksV, Tok.cells] at ih ⊢; omega

/-- The tokens from a place on where no white space stands: the tokens, the offset and the code of an error. -/
def goT (s : List UInt8) : Nat → Nat → List Tok × Nat × Nat
  | 0, _ => ([], 0, 0)
  | f + 1, p =>
    if p < s.length then
      let k := nextL (s.drop p)
      if k.1 = 0 then ([], p, 5)
      else if k.1 = 1 ∧ 16 < k.2 then ([], p, 2)
      else
        let r := goT s f (p + k.2 + skipL false (s.drop (p + k.2)))
        (⟨k.1, p, (s.drop p).take k.2⟩ :: r.1, r.2)
    else ([], 0, 0)
/-- What Tokenize hands back: no tokens where there is an error. -/
def tokens (s : List UInt8) : List Tok × Nat × Nat :=
  if 65536 < s.length then ([], 0, 2)
  else
    let r := goT s (s.length + 1) (skipL false s)
    if r.2.2 = 0 then (r.1, 0, 0) else ([], r.2.1, r.2.2)
end Go.Vc
