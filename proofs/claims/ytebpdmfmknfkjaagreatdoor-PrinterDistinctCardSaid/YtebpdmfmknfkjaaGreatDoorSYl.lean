import Derived.Test.YtebpdmfmknfkjaaGreatDoorSYk
namespace Go.Proofs.YtebpdmfmknfkjaaGreatDoor
open Go Go.RowKit Go.Vc
set_option linter.unusedVariables false
set_option linter.unusedSimpArgs false
theorem tw_at {p : UInt8 → Bool} {s : List UInt8} {i : Nat} (h : (s.take i).all p = true) (hs : ∀ c, s[i]? = some c → p c = false) (hi : i ≤ s.length) : (s.takeWhile p).length = i := by
  induction s generalizing i with
  | nil => simp at hi ⊢; omega
  | cons c s ih =>
    cases i with
    | zero => rw [List.takeWhile_cons, hs c rfl]; simp
    | succ i =>
      rw [List.take_succ_cons, List.all_cons, Bool.and_eq_true] at h
      rw [List.takeWhile_cons, h.1]
      simp only [if_true, List.length_cons]
      rw [ih h.2 (fun d hd => hs d (by simpa using hd)) (by simpa using hi)]
theorem span_tw {s : List UInt8} {f : Int → Option Bool} {p : UInt8 → Bool} (hs : s.length < 4611686018427387904) (hf : ∀ c : UInt8, f (wi32 (c.toNat : Int)) = some (p c)) : m_lexer_span s f = some ((s.takeWhile p).length : Int) := by
  refine loop_eq (L := fun g (_ : Unit) i => m_lexer_span_l1 s f g i) (n := s.length) hs (fun i _ => (s.take i).all p = true) ?_ ?_ () (by simp)
  · intro g i _ hi hI
    obtain ⟨c, hc⟩ := at_some hi
    simp only [m_lexer_span_l1]
    rw [lt_dec hi]
    simp only [gd, if_true, sat_at hc, Option.bind_some, hf, Bool.true_and]
    by_cases hw : p c = true
    · left; refine ⟨(), ?_, by rw [if_pos hw, wis (by omega)]⟩
      rw [take_succ' hc, List.all_append, hI]; simp [hw]
    · right
      rw [if_neg hw, tw_at hI (fun d hd => by rw [hc] at hd; injection hd with hd; rw [← hd]; simpa using hw) (by omega)]
  · intro g _ hI
    rw [tw_at (i := s.length) hI (fun d hd => by simp at hd) (Nat.le_refl _)]
    simp only [m_lexer_span_l1]
    simp [gd]
theorem tw_app {p : UInt8 → Bool} {t r : List UInt8} (ht : t.all p = true) (hr : ∀ c, r.head? = some c → p c = false) : (t ++ r).takeWhile p = t := by
  induction t with
  | nil =>
    cases r with
    | nil => rfl
    | cons c r => rw [List.nil_append, List.takeWhile_cons, hr c rfl]; rfl
  | cons c t ih =>
    rw [List.all_cons, Bool.and_eq_true] at ht
    rw [List.cons_append, List.takeWhile_cons, ht.1, ih ht.2]; rfl
def digB (c : UInt8) : Bool := decide (48 ≤ (c.toNat : Int)) && decide ((c.toNat : Int) ≤ 57)
theorem digit_ok (c : UInt8) : m_lexer_digit (wi32 (c.toNat : Int)) = some (digB c) := by rw [wi32_byte]; rfl
def signs : List (List UInt8) := [[40], [41], [91], [93], [44], [43], [45], [42], [47], [60], [38], [124], [33], [58], [59], [60, 61], [61, 61]]
def isWd (t : List UInt8) : Prop := letB (t.headD 0) = true ∧ t.all wordB = true ∧ t.length ≤ 16 ∧ t ≠ []
def isNm (t : List UInt8) : Prop := t.all digB = true ∧ t ≠ []
def okTok (t : List UInt8) : Prop := isWd t ∨ isNm t ∨ t ∈ signs
def kindT (t : List UInt8) : Int := if letB (t.headD 0) = true then 1 else if digB (t.headD 0) = true then 2 else 3
def sepT (t : List UInt8) (n : Option UInt8) : Prop := (letB (t.headD 0) = true → ∀ c, n = some c → wordB c = false) ∧ (digB (t.headD 0) = true → ∀ c, n = some c → digB c = false) ∧ (t = [60] → n ≠ some 61)
theorem let_dig {c : UInt8} (h : letB c = true) : digB c = false := by
  unfold letB at h; unfold digB
  simp only [Bool.and_eq_true, decide_eq_true_eq] at h
  rw [Bool.eq_false_iff]
  simp only [ne_eq, Bool.and_eq_true, decide_eq_true_eq]; omega
theorem lex_next {t r : List UInt8} (h : okTok t) (hs : sepT t r.head?) (hl : (t ++ r).length < 4611686018427387904) : m_lexer_next (t ++ r) = some (kindT t, (t.length : Int)) := by
  unfold m_lexer_next
  rcases h with ⟨h1, h2, h3, h4⟩ | ⟨h1, h2⟩ | h
  · cases t with
    | nil => exact absurd rfl h4
    | cons c t =>
      have hc : letB c = true := h1
      rw [show sat (c :: t ++ r) 0 = some (c.toNat : Int) from sat_at (i := 0) rfl, Option.bind_some, letter_ok, Option.bind_some, hc, if_pos rfl, span_tw hl inWord_ok, tw_app h2 (hs.1 h1)]
      unfold kindT
      rw [if_pos h1]; rfl
  · cases t with
    | nil => exact absurd rfl h2
    | cons c t =>
      have hc : digB c = true := by rw [List.all_cons, Bool.and_eq_true] at h1; exact h1.1
      have hn : letB c = false := by
        cases hh : letB c
        · rfl
        · rw [let_dig hh] at hc; cases hc
      rw [show sat (c :: t ++ r) 0 = some (c.toNat : Int) from sat_at (i := 0) rfl, Option.bind_some, letter_ok, Option.bind_some, hn, if_neg (by simp), digit_ok, Option.bind_some, hc, if_pos rfl, span_tw hl digit_ok, tw_app h1 (hs.2.1 hc)]
      unfold kindT
      rw [show (c :: t).headD 0 = c from rfl, hn, hc]; rfl
  · by_cases h60 : t = [60]
    · subst h60
      cases r with
      | nil => rfl
      | cons c r =>
        have hc : c ≠ 61 := fun hh => hs.2.2 rfl (by rw [hh]; rfl)
        have hcn : (c.toNat : Int) ≠ 61 := fun hh => hc (by apply UInt8.toNat_inj.1; show c.toNat = 61; omega)
        have hl2 : decide ((1 : Int) < (([60] ++ c :: r).length : Int)) = true := by simp; omega
        rw [show sat ([60] ++ c :: r) 0 = some 60 from sat_at (i := 0) (c := 60) rfl, show sat ([60] ++ c :: r) 1 = some (c.toNat : Int) from sat_at (i := 1) rfl, hl2]
        simp [gd, hcn, m_lexer_letter, m_lexer_digit, m_lexer_symbol, kindT, letB, digB, wi32, IntKind.wrap, IntKind.signed, IntKind.bits]
    by_cases h2 : t = [60, 61] ∨ t = [61, 61]
    · have hl2 : decide ((1 : Int) < ((t ++ r).length : Int)) = true := by rcases h2 with rfl | rfl <;> simp <;> omega
      have hs1 : sat (t ++ r) 1 = some 61 := by rcases h2 with rfl | rfl <;> exact sat_at (i := 1) (c := 61) rfl
      rcases h2 with rfl | rfl
      · rw [show sat ([60, 61] ++ r) 0 = some 60 from sat_at (i := 0) (c := 60) rfl, hs1, hl2]
        rfl
      · rw [show sat ([61, 61] ++ r) 0 = some 61 from sat_at (i := 0) (c := 61) rfl, hs1, hl2]
        rfl
    unfold signs at h
    simp only [List.mem_cons, List.not_mem_nil, or_false] at h
    rcases h with rfl | rfl | rfl | rfl | rfl | rfl | rfl | rfl | rfl | rfl | rfl | rfl | rfl | rfl | rfl | rfl | rfl
    all_goals first
      | exact absurd rfl h60
      | exact absurd (Or.inl rfl) h2
      | exact absurd (Or.inr rfl) h2
      | (rw [show ∀ (x : UInt8) q, sat ([x] ++ q) 0 = some (x.toNat : Int) from fun x q => sat_at (i := 0) rfl]
         simp [gd, m_lexer_letter, m_lexer_digit, m_lexer_symbol, kindT, letB, digB, wi32, IntKind.wrap, IntKind.signed, IntKind.bits]; done)
def spcB (c : UInt8) : Bool := decide (c = 9) || decide (c = 10) || decide (c = 13) || decide (c = 32) || decide (c = 35)
theorem skip_ok {n : Nat} {r : List UInt8} (hr : ∀ c, r.head? = some c → spcB c = false) (hl : (List.replicate n 32 ++ r).length < 4611686018427387904) : m_lexer_skip (List.replicate n 32 ++ r) = some (n : Int) := by
  refine loop_eq (L := fun g (_ : Unit) i => m_lexer_skip_l1 (List.replicate n 32 ++ r) g i) (n := (List.replicate n 32 ++ r).length) hl (fun i _ => i ≤ n) ?_ ?_ () (by simp)
  · intro g i _ hi hI
    obtain ⟨c, hc⟩ := at_some hi
    simp only [m_lexer_skip_l1]
    rw [if_pos (lt_dec hi), sat_at hc, Option.bind_some, wi32_byte]
    by_cases hin : i < n
    · left; refine ⟨(), by omega, ?_⟩
      have : c = 32 := by
        rw [List.getElem?_append_left (by simpa using hin), List.getElem?_replicate, if_pos hin] at hc
        injection hc with hc; exact hc.symm
      subst this
      rw [show m_lexer_space (((32 : UInt8).toNat : Nat) : Int) = some true from rfl, Option.bind_some, if_pos rfl, wis (by omega)]
    · right
      obtain rfl : i = n := by omega
      have hh : r.head? = some c := by
        rw [List.getElem?_append_right (by simp)] at hc
        simpa [List.head?_eq_getElem?] using hc
      have hs := hr c hh
      unfold spcB at hs
      simp only [Bool.or_eq_false_iff, decide_eq_false_iff_not] at hs
      obtain ⟨⟨⟨⟨s1, s2⟩, s3⟩, s4⟩, s5⟩ := hs
      have inj : ∀ k : UInt8, c ≠ k → (c.toNat : Int) ≠ (k.toNat : Int) := fun k hk hh => hk (UInt8.toNat_inj.1 (by omega))
      have t1 := inj 9 s1; have t2 := inj 10 s2; have t3 := inj 13 s3; have t4 := inj 32 s4; have t5 := inj 35 s5
      simp at t1 t2 t3 t4 t5
      have hsp : m_lexer_space (c.toNat : Int) = some false := by
        unfold m_lexer_space
        rw [if_neg (by simpa using t1), if_neg (by simpa using t2), if_neg (by simpa using t3), if_neg (by simpa using t4)]
      rw [hsp, Option.bind_some, if_neg (by simp), if_neg (by simpa using t5)]
  · intro g _ hI
    simp only [m_lexer_skip_l1]
    have : (List.replicate n (32 : UInt8) ++ r).length = n := by
      rw [List.length_append, List.length_replicate] at hI ⊢; omega
    rw [if_neg (by simp), this]
end Go.Proofs.YtebpdmfmknfkjaaGreatDoor
