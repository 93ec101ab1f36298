import Derived.Test.YtlakfanockhngaaGreatDoorSPi
namespace Go.Proofs.YtlakfanockhngaaGreatDoor
open Go Go.RowKit Go.Vc
set_option linter.unusedVariables false
set_option linter.unusedSimpArgs false
theorem okV_nar {t : GType} (ht : tyB t = true) (k2 : t.Kind = 2) (n : Int) : okV t ⟨nar t n, 1⟩ = true := by
 have h := nar_bd ht k2 n
 unfold okV
 simp [k2, h.1, h.2]
theorem Apply_fold {op : Int} {t : GType} {a b : GVal} (hop : op = 4 ∨ op = 6 ∨ op = 9 ∨ op = 10) (ht : tyB t = true) (ha : okV t a = true) (hb : okV t b = true) :
  ∃ q e, m_value_Apply op t a b = some (q, e) ∧ ((e = 0 ∧ okV t q = true) ∨ (e ≠ 0 ∧ q = ⟨0, 0⟩)) := by
 by_cases h9 : op = 9 ∨ op = 10
 ·obtain ⟨q, h1, h2, _⟩ := Apply_ext h9 ht ha hb
  refine ⟨q, 0, h1, .inl ⟨rfl, ?_⟩⟩
  rcases h2 with rfl | rfl
  ·exact ha
  ·exact hb
 have h4 : op = 4 ∨ op = 6 := by omega
 by_cases k2 : t.Kind = 2
 ·have fa := frOK_of ht ha
  have fb := frOK_of ht hb
  obtain ⟨q1, q2, q3, q4, q5, q6, q7⟩ := tyB_fix ht k2
  obtain ⟨a1, a2, a3⟩ := okV_fix ht k2 ha
  obtain ⟨b1, b2, b3⟩ := okV_fix ht k2 hb
  have hp := pw_bd (n := t.Frac) q4
  have hxy := mul_bd (x := a.N) (y := b.N) (B := 1073741824) ⟨by omega, by omega⟩ ⟨by omega, by omega⟩
  have hr := rnd_bd (n := a.N * b.N) (d := pw t.Frac) (how := t.Round) (by omega) (B := 1152921504606846976) (by omega) ⟨by omega, by omega⟩
  unfold m_value_Apply m_value_Apply_j1
  have c1 : (decide (op < 4) || decide (10 < op)) = false := by
   rw [← Bool.decide_or, decide_eq_false_iff_not]; omega
  have c8 : decide (op = 8) = false := by simp; omega
  have c9 : decide (op = 9) = false := by simp; omega
  have c10 : decide (op = 10) = false := by simp; omega
  rw [value_ValidateType, value_Valid (frVaR fa), value_Valid (frVaR fb)]
  simp only [c1, c8, c9, c10, ht, ha, hb, gd, Bool.and_self, Bool.not_true, Bool.not_false, if_true, Bool.or_self, Bool.false_eq_true, if_false, Option.bind_some, decide_true, bind_pair]
  rw [(fixed_all (by omega) (by omega) ht k2 ha hb).1]
  unfold m_ref04_fix
  rcases h4 with h | h
  ·subst h
   simp only [decide_true, if_true]
   rw [wi (p := a.N + b.N) ⟨by omega, by omega⟩, ref04_fit ht k2 ⟨by omega, by omega⟩]
   exact ⟨_, _, rfl, .inl ⟨rfl, okV_nar ht k2 _⟩⟩
  ·subst h
   simp only [show decide ((6 : Int) = 4) = false from rfl, show decide ((6 : Int) = 5) = false from rfl, Bool.false_eq_true, if_false, decide_true, if_true]
   rw [ref04_step q3 q4, Option.bind_some, wi (p := a.N * b.N) ⟨by omega, by omega⟩, ref04_round (by omega) (by omega) ⟨by omega, by omega⟩, Option.bind_some, ref04_fit ht k2 ⟨by omega, by omega⟩]
   exact ⟨_, _, rfl, .inl ⟨rfl, okV_nar ht k2 _⟩⟩
 ·obtain ⟨q, e, h1, h2⟩ := Apply_exact h4 ht k2 ha hb
  refine ⟨q, e, h1, ?_⟩
  rcases h2 with ⟨rfl, rfl⟩ | ⟨rfl, h3, _⟩
  ·exact .inr ⟨by omega, rfl⟩
  ·exact .inl ⟨rfl, h3⟩
theorem ref_l1 {l : List GVal} {fold op : Int} {t : GType} (hO : m_ref04_Operator fold = some op) (hop : op = 4 ∨ op = 6 ∨ op = 9 ∨ op = 10) (ht : tyB t = true) (hv : ∀ y ∈ l, okV t y = true) (hz : (l.length : Int) ≤ 4611686018427387904) :
  ∀ (f : Nat) (i : Int) (v : GVal), 0 ≤ i → i ≤ l.length → ((l.length : Int) - i).toNat < f → okV t v = true → m_ref04_Reduce_l1 l fold t f 0 i v = foldA op t v (l.drop i.toNat) := by
 intro f
 induction f with
 | zero => intro i v _ _ h; omega
 | succ f ih =>
  intro i v h0 h1 hf hok
  rw [m_ref04_Reduce_l1]
  by_cases h : i < (l.length : Int)
  ·obtain ⟨e, hl, hmem, hdrop⟩ : ∃ e, lat l i = some e ∧ e ∈ l ∧ l.drop i.toNat = e :: l.drop (i.toNat + 1) := ⟨l[i.toNat]'(by omega), by unfold lat; rw [if_pos h0]; exact List.getElem?_eq_getElem (by omega), List.getElem_mem _, List.drop_eq_getElem_cons (by omega)⟩
   have fv := frVaR (frOK_of ht hok)
   have fe := frVaR (frOK_of ht (hv e hmem))
   obtain ⟨q, c, h2, h3⟩ := Apply_fold hop ht hok (hv e hmem)
   rw [hdrop, foldA, h2]
   simp only [h, decide_true, Bool.and_self, if_true, hl, hO, Option.bind_some, ← value_Apply fv fe, h2]
   rw [wi (p := i + 1) ⟨by omega, by omega⟩]
   rcases h3 with ⟨rfl, h4⟩ | ⟨h4, rfl⟩
   ·simp only [if_true]
    rw [ih (i + 1) q (by omega) (by omega) (by omega) h4, show (i + 1).toNat = i.toNat + 1 by omega]
   ·rw [if_neg h4]
    obtain ⟨f, rfl⟩ : ∃ g, f = g + 1 := ⟨f - 1, by omega⟩
    rw [m_ref04_Reduce_l1]
    simp [h4]
  ·have : l.drop i.toNat = [] := List.drop_eq_nil_of_le (by omega)
   simp [h, this, foldA]
theorem ref_l2 {l : List GVal} {t : GType} {fold : Int} (ht : tyB t = true) (hv : ∀ x ∈ l, VaR x) (hz : (l.length : Int) ≤ 4611686018427387904) : ∀ (f : Nat) (i : Int), 0 ≤ i → i ≤ l.length → ((l.length : Int) - i).toNat < f →
  m_ref04_Reduce_l2 l t fold f i = if (l.drop i.toNat).all (fun x => okV t x) = true then m_ref04_Reduce_j1 l fold t else some (⟨0, 0⟩, 1) := by
 intro f
 induction f with
 | zero => intro i _ _ h; omega
 | succ f ih =>
  intro i h0 h1 hf
  rw [m_ref04_Reduce_l2]
  by_cases h : i < (l.length : Int)
  ·obtain ⟨e, hl, hmem, hdrop⟩ : ∃ e, lat l i = some e ∧ e ∈ l ∧ l.drop i.toNat = e :: l.drop (i.toNat + 1) := ⟨l[i.toNat]'(by omega), by unfold lat; rw [if_pos h0]; exact List.getElem?_eq_getElem (by omega), List.getElem_mem _, List.drop_eq_getElem_cons (by omega)⟩
   rw [hdrop]
   simp only [h, decide_true, if_true, hl, Option.bind_some, List.all_cons, base_Val ht (hv _ hmem)]
   rcases Bool.eq_false_or_eq_true (okV t e) with hc | hc
   rotate_left
   ·simp only [hc, Bool.not_false, if_true, Bool.false_and, Bool.false_eq_true, if_false]
   ·simp only [hc, Bool.not_true, Bool.false_eq_true, if_false, Bool.true_and]
    rw [wi (p := i + 1) ⟨by omega, by omega⟩, ih (i + 1) (by omega) (by omega) (by omega), show (i + 1).toNat = i.toNat + 1 by omega]
  ·have : l.drop i.toNat = [] := List.drop_eq_nil_of_le (by omega)
   simp [h, this]
theorem ref_Operator (fold : Int) : m_ref04_Operator fold = some (if fold = 2 then 6 else if fold = 3 then 9 else if fold = 4 then 10 else 4) := by
 unfold m_ref04_Operator
 by_cases h2 : fold = 2 <;> by_cases h3 : fold = 3 <;> by_cases h4 : fold = 4 <;> simp [h2, h3, h4]
theorem ref04_Identity (fold : Int) (t : GType) : m_ref04_Identity fold t = m_value_Identity fold t ∧ ∃ q, m_value_Identity fold t = some q := by
 unfold m_ref04_Identity m_value_Identity m_value_Identity_j1
 rw [base_Type, ref04_Zero, value_Zero, ref04_One, value_One, value_ValidateType]
 cases ht : tyB t
 ·by_cases h2 : fold = 2 <;> simp [h2]
 ·by_cases h1 : fold = 1
  ·simp [h1]
  by_cases h5 : fold = 5
  ·simp [h5]
  by_cases h2 : fold = 2
  ·simp [h2]
  ·simp [h1, h5, h2]
theorem foldA_some {op : Int} {t : GType} (hop : op = 4 ∨ op = 6 ∨ op = 9 ∨ op = 10) (ht : tyB t = true) : ∀ (xs : List GVal) (x : GVal), okV t x = true → (∀ y ∈ xs, okV t y = true) → ∃ q, foldA op t x xs = some q
 | [], x, _, _ => ⟨_, rfl⟩
 | y :: ys, x, hx, h => by
  obtain ⟨q, e, h1, h2⟩ := Apply_fold hop ht hx (h y (by simp))
  rw [foldA, h1, Option.bind_some]
  rcases h2 with ⟨rfl, h3⟩ | ⟨h3, rfl⟩
  ·rw [if_pos rfl]; exact foldA_some hop ht ys q h3 fun z hz => h z (by simp [hz])
  ·rw [if_neg h3]; exact ⟨_, rfl⟩
theorem Reduce_eq {fold : Int} {t : GType} {l : List GVal} (hv : ∀ y ∈ l, VaR y) (hz : (l.length : Int) ≤ 4096) : m_ref04_Reduce fold t l = m_value_Reduce fold t l ∧ ∃ q, m_value_Reduce fold t l = some q := by
 by_cases hf : fold < 1 ∨ 5 < fold
 ·have h1 : (decide (fold < 1) || decide (5 < fold)) = true := by simpa using hf
  have h2 : m_value_operator fold = some (0, false) := by rw [value_operator]; repeat' rw [if_neg (by omega)]
  unfold m_ref04_Reduce m_value_Reduce
  rw [h2]
  simp [h1]
 have h1 : (decide (fold < 1) || decide (5 < fold)) = false := by rw [← Bool.decide_or, decide_eq_false_iff_not]; exact hf
 obtain ⟨op, ho, hO, hop⟩ : ∃ op, m_value_operator fold = some (op, true) ∧ m_ref04_Operator fold = some op ∧ (op = 4 ∨ op = 6 ∨ op = 9 ∨ op = 10) := by
  rw [value_operator, ref_Operator]
  have : fold = 1 ∨ fold = 2 ∨ fold = 3 ∨ fold = 4 ∨ fold = 5 := by omega
  rcases this with rfl | rfl | rfl | rfl | rfl
  ·exact ⟨4, rfl, rfl, by omega⟩
  ·exact ⟨6, rfl, rfl, by omega⟩
  ·exact ⟨9, rfl, rfl, by omega⟩
  ·exact ⟨10, rfl, rfl, by omega⟩
  ·exact ⟨4, rfl, rfl, by omega⟩
 unfold m_ref04_Reduce
 rw [base_Type]
 simp only [h1, Bool.false_eq_true, if_false, Option.bind_some]
 cases ht : tyB t
 ·unfold m_value_Reduce
  rw [ho, value_ValidateType, ht]
  simp
 simp only [Bool.not_true, Bool.false_eq_true, if_false]
 rw [ref_l2 ht hv (by omega) fu 0 (by omega) (by omega) (by unfold fu; omega)]
 simp only [Int.toNat_zero, List.drop_zero]
 cases l with
 | nil =>
  obtain ⟨hi, q, hq⟩ := ref04_Identity fold t
  have hR : m_value_Reduce fold t [] = m_value_Reduce_j1 [] fold t (op, true) := by
   unfold m_value_Reduce
   rw [ho, value_ValidateType, ht]
   simp only [Option.bind_some, Bool.not_true, Bool.false_eq_true, if_false, if_true, decide_true]
   rw [reduce_l2 hv (by omega) fu 0 (by omega) (by omega) (by unfold fu; omega)]
   rfl
  rw [hR]
  unfold m_ref04_Reduce_j1 m_value_Reduce_j1
  rw [hi, hq]
  simp only [List.all_nil, if_true, List.length_nil, Option.bind_some]
  simp
  cases q.2 <;> simp
 | cons x xs =>
  have hlen : ((x :: xs).length : Int) = xs.length + 1 := by simp
  rw [value_Reduce ho ht hv (by omega)]
  cases hok : (x :: xs).all (fun y => okV t y)
  ·simp
  have okx : ∀ z ∈ x :: xs, okV t z = true := fun z hz => List.all_eq_true.1 hok z hz
  simp only [if_true]
  unfold m_ref04_Reduce_j1
  rw [if_neg (by simp; omega), show lat (x :: xs) 0 = some x from rfl, Option.bind_some, ref_l1 hO hop ht okx (by omega) fu 1 x (by omega) (by omega) (by unfold fu; omega) (okx x (by simp))]
  exact ⟨rfl, foldA_some hop ht xs x (okx x (by simp)) fun z hz => okx z (by simp [hz])⟩
end Go.Proofs.YtlakfanockhngaaGreatDoor
