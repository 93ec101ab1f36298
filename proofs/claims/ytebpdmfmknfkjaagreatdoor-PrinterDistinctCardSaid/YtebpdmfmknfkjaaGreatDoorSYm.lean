import Derived.Test.YtebpdmfmknfkjaaGreatDoorSYl
namespace Go.Proofs.YtebpdmfmknfkjaaGreatDoor
open Go Go.RowKit Go.Vc
set_option linter.unusedVariables false
set_option linter.unusedSimpArgs false
def hdN (s : List UInt8) (n : Option UInt8) : Option UInt8 := match s with | [] => n | c :: _ => some c
theorem hdN_app (a b : List UInt8) (n : Option UInt8) : hdN (a ++ b) n = hdN a (hdN b n) := by cases a <;> rfl
theorem hdN_none (s : List UInt8) : hdN s none = s.head? := by cases s <;> rfl
def okLx : List (List UInt8) → Option UInt8 → Prop
 | [], _ => True
 | t :: r, n => (t = [32] ∨ (okTok t ∧ sepT t (hdN r.flatten n))) ∧ okLx r n
theorem okLx_app : ∀ {a b : List (List UInt8)} {n : Option UInt8}, okLx a (hdN b.flatten n) → okLx b n → okLx (a ++ b) n
 | [], _, _, _, h => h
 | t :: a, b, n, h1, h2 => by
  refine ⟨?_, okLx_app h1.2 h2⟩
  rw [show (a.append b).flatten = a.flatten ++ b.flatten from List.flatten_append, hdN_app]
  exact h1.1
theorem okLx_tail : ∀ {a b : List (List UInt8)} {n : Option UInt8}, okLx (a ++ b) n → okLx b n
 | [], _, _, h => h
 | _ :: a, _, _, h => okLx_tail (a := a) h.2
def tkL : Nat → List (List UInt8) → List GToken
 | _, [] => []
 | o, t :: r => if t = [32] then tkL (o + 1) r else ⟨kindT t, o, t⟩ :: tkL (o + t.length) r
def nonB (t : List UInt8) : Bool := decide (t ≠ [32])
theorem tkL_text : ∀ (o : Nat) (ls : List (List UInt8)), (tkL o ls).map (·.Text) = ls.filter nonB
 | _, [] => rfl
 | o, t :: r => by
  rw [tkL]
  by_cases h : t = [32]
  ·rw [if_pos h, tkL_text (o + 1) r, List.filter_cons_of_neg (by simp [nonB, h])]
  ·rw [if_neg h, List.map_cons, tkL_text (o + t.length) r, List.filter_cons_of_pos (by simp [nonB, h])]
theorem tkL_blanks : ∀ (n o : Nat) (r : List (List UInt8)), tkL o (List.replicate n [32] ++ r) = tkL (o + n) r
 | 0, o, r => rfl
 | n + 1, o, r => by
  rw [List.replicate_succ, List.cons_append, tkL, if_pos rfl, tkL_blanks n, show o + 1 + n = o + (n + 1) by omega]
theorem blanks_split : ∀ (ls : List (List UInt8)), ∃ n r, ls = List.replicate n [32] ++ r ∧ (r = [] ∨ ∃ t q, r = t :: q ∧ t ≠ [32])
 | [] => ⟨0, [], rfl, Or.inl rfl⟩
 | t :: ls => by
  by_cases h : t = [32]
  ·obtain ⟨n, r, h1, h2⟩ := blanks_split ls
   exact ⟨n + 1, r, by rw [h1, h, List.replicate_succ]; rfl, h2⟩
  ·exact ⟨0, t :: ls, rfl, Or.inr ⟨t, ls, rfl, h⟩⟩
theorem blanks_flat (n : Nat) : (List.replicate n ([32] : List UInt8)).flatten = List.replicate n 32 := by
 induction n with
 | zero => rfl
 | succ n ih => rw [List.replicate_succ, List.flatten_cons, ih, List.replicate_succ]; rfl
theorem okTok_head {t : List UInt8} (h : okTok t) : ∃ c q, t = c :: q ∧ spcB c = false := by
 have key : ∀ c : UInt8, (∀ k : UInt8, k = 9 ∨ k = 10 ∨ k = 13 ∨ k = 32 ∨ k = 35 → c ≠ k) → spcB c = false := fun c hc => by
  unfold spcB
  simp only [Bool.or_eq_false_iff, decide_eq_false_iff_not]
  exact ⟨⟨⟨⟨hc 9 (by simp), hc 10 (by simp)⟩, hc 13 (by simp)⟩, hc 32 (by simp)⟩, hc 35 (by simp)⟩
 rcases h with ⟨h1, _, _, h4⟩ | ⟨h1, h2⟩ | h
 ·cases t with
  | nil => exact absurd rfl h4
  | cons c t =>
   refine ⟨c, t, rfl, key c fun k hk hh => ?_⟩
   subst hh
   have h1' : letB c = true := h1
   rcases hk with rfl | rfl | rfl | rfl | rfl <;> revert h1' <;> decide
 ·cases t with
  | nil => exact absurd rfl h2
  | cons c t =>
   refine ⟨c, t, rfl, key c fun k hk hh => ?_⟩
   subst hh
   rw [List.all_cons, Bool.and_eq_true] at h1
   have h1' := h1.1
   rcases hk with rfl | rfl | rfl | rfl | rfl <;> revert h1' <;> decide
 ·unfold signs at h
  simp only [List.mem_cons, List.not_mem_nil, or_false] at h
  rcases h with rfl | rfl | rfl | rfl | rfl | rfl | rfl | rfl | rfl | rfl | rfl | rfl | rfl | rfl | rfl | rfl | rfl <;> exact ⟨_, _, rfl, by decide⟩
theorem flat_head {r : List (List UInt8)} (ho : okLx r none) (hr : r = [] ∨ ∃ t q, r = t :: q ∧ t ≠ [32]) : ∀ c, r.flatten.head? = some c → spcB c = false := by
 rcases hr with rfl | ⟨t, q, rfl, ht⟩
 ·intro c h; simp at h
 ·rcases ho.1 with h | ⟨h, _⟩
  ·exact absurd h ht
  ·obtain ⟨c, q', rfl, hc⟩ := okTok_head h
   intro d hd
   simp at hd; rw [← hd]; exact hc
theorem kind_pos {t : List UInt8} : kindT t ≠ 0 := by unfold kindT; split <;> (try split) <;> simp
theorem kind_word {t : List UInt8} (h : okTok t) (hk : kindT t = 1) : t.length ≤ 16 := by
 rcases h with ⟨_, _, h3, _⟩ | ⟨h1, h2⟩ | h
 ·exact h3
 ·exfalso
  cases t with
  | nil => exact absurd rfl h2
  | cons c t =>
   rw [List.all_cons, Bool.and_eq_true] at h1
   unfold kindT at hk
   rw [show (c :: t).headD 0 = c from rfl] at hk
   by_cases hl : letB c = true
   ·rw [let_dig hl] at h1; exact absurd h1.1 (by simp)
   ·rw [if_neg hl, if_pos h1.1] at hk; cases hk
 ·unfold signs at h
  simp only [List.mem_cons, List.not_mem_nil, or_false] at h
  rcases h with rfl | rfl | rfl | rfl | rfl | rfl | rfl | rfl | rfl | rfl | rfl | rfl | rfl | rfl | rfl | rfl | rfl <;> simp
theorem lfrom_at {α : Type} (a b : List α) : lfrom (a ++ b) (a.length : Int) = some b := by unfold lfrom; rw [if_pos (by simp; omega)]; simp
theorem tok_run : ∀ (k : Nat) (ls : List (List UInt8)) (pre s : List UInt8) (out : List GToken) (f : Nat), ls.length ≤ k → okLx ls none → (ls = [] ∨ ∃ t r, ls = t :: r ∧ t ≠ [32]) → s = pre ++ ls.flatten → s.length ≤ 65536 → out.length ≤ pre.length → k < f →
  m_lexer_Tokenize_l1 s f out (pre.length : Int) = some (out ++ tkL pre.length ls, 0, 0)
 | k, [], pre, s, out, f, hk, ho, hne, hs, hl, hout, hf => by
  obtain ⟨f, rfl⟩ : ∃ g, f = g + 1 := ⟨f - 1, by omega⟩
  subst hs
  simp only [m_lexer_Tokenize_l1]
  rw [if_neg (by simp), tkL, List.append_nil]
 | 0, t :: r, pre, s, out, f, hk, ho, hne, hs, hl, hout, hf => by simp at hk
 | k + 1, t :: r, pre, s, out, f, hk, ho, hne, hs, hl, hout, hf => by
  obtain ⟨f, rfl⟩ : ∃ g, f = g + 1 := ⟨f - 1, by omega⟩
  have ht : t ≠ [32] := by
   rcases hne with h | ⟨t', r', h, h'⟩
   ·cases h
   ·injection h with h1 h2; rw [h1]; exact h'
  rcases ho.1 with h | ⟨h1, h2⟩
  ·exact absurd h ht
  rw [hdN_none] at h2
  obtain ⟨n, r', hr, hr'⟩ := blanks_split r
  obtain ⟨c, q, htc, _⟩ := okTok_head h1
  have htl : 1 ≤ t.length := by rw [htc]; simp
  have ho' : okLx r' none := okLx_tail (a := List.replicate n [32]) (by rw [← hr]; exact ho.2)
  have hfl : r.flatten = List.replicate n 32 ++ r'.flatten := by rw [hr, List.flatten_append, blanks_flat]
  have hlen : s.length = pre.length + t.length + (n + r'.flatten.length) := by rw [hs, List.flatten_cons, hfl]; simp only [List.length_append, List.length_replicate]; omega
  have hs2 : s = (pre ++ t) ++ r.flatten := by rw [hs, List.flatten_cons, List.append_assoc]
  have hnext : m_lexer_next (t ++ r.flatten) = some (kindT t, (t.length : Int)) := lex_next h1 h2 (by rw [hfl]; simp only [List.length_append, List.length_replicate]; omega)
  have hskip : m_lexer_skip r.flatten = some (n : Int) := by rw [hfl]; exact skip_ok (flat_head ho' hr') (by simp only [List.length_append, List.length_replicate]; omega)
  have hpt : ((pre ++ t).length : Int) = (pre.length : Int) + (t.length : Int) := by simp
  have hrl : r'.length ≤ k := by
   have : r.length = n + r'.length := by rw [hr]; simp
   simp at hk; omega
  simp only [m_lexer_Tokenize_l1]
  rw [if_pos (by simp; omega), show lfrom s (pre.length : Int) = some (t ++ r.flatten) by rw [hs, List.flatten_cons]; exact lfrom_at _ _, Option.bind_some, hnext, Option.bind_some]
  simp only []
  rw [if_neg (by simpa using kind_pos), if_neg (by
   simp only [Bool.and_eq_true, decide_eq_true_eq]
   rintro ⟨a1, a2⟩
   have := kind_word h1 a1; omega), wia (by omega)]
  rw [show lsub s (pre.length : Int) ((pre.length + t.length : Nat) : Int) = some t by
   unfold lsub
   rw [if_pos (by omega), hs2, show ((pre.length : Int)).toNat = pre.length by omega, show (((pre.length + t.length : Nat) : Int)).toNat - pre.length = t.length by omega]
   simp, Option.bind_some, lapp_ok (by simp only [List.length_cons, List.length_nil]; omega), Option.bind_some]
  rw [show lfrom s ((pre.length + t.length : Nat) : Int) = some r.flatten by rw [hs2, show ((pre.length + t.length : Nat) : Int) = ((pre ++ t).length : Int) by simp]; exact lfrom_at _ _, Option.bind_some, hskip, Option.bind_some, Option.bind_some, wia (by omega)]
  have ih := tok_run k r' ((pre ++ t) ++ List.replicate n 32) s (out ++ [⟨kindT t, (pre.length : Int), t⟩]) f hrl ho' hr' (by rw [hs2, hfl]; simp only [List.append_assoc]) hl (by simp; omega) (by omega)
  rw [show ((pre.length + t.length + n : Nat) : Int) = (((pre ++ t) ++ List.replicate n 32).length : Int) by simp only [List.length_append, List.length_replicate], ih, List.append_assoc, tkL, if_neg ht]
  congr 2
  rw [hr, tkL_blanks]
  simp [Nat.add_assoc]
theorem tok_ok {ls : List (List UInt8)} (ho : okLx ls none) (hne : ls = [] ∨ ∃ t r, ls = t :: r ∧ t ≠ [32]) (hl : ls.flatten.length ≤ 65536) (hk : ls.length ≤ 4294967296) : m_lexer_Tokenize ls.flatten = some (tkL 0 ls, 0, 0) := by
 unfold m_lexer_Tokenize
 rw [if_neg (by simp only [decide_eq_true_eq]; omega)]
 have h0 : m_lexer_skip ls.flatten = some ((0 : Nat) : Int) := by
  have := skip_ok (n := 0) (r := ls.flatten) (flat_head ho hne) (by simp only [List.replicate_zero, List.nil_append]; omega)
  simpa using this
 rw [h0, Option.bind_some]
 have := tok_run ls.length ls [] ls.flatten [] fu (Nat.le_refl _) ho hne rfl hl (by simp) (by unfold fu; omega)
 simpa using this
end Go.Proofs.YtebpdmfmknfkjaaGreatDoor
