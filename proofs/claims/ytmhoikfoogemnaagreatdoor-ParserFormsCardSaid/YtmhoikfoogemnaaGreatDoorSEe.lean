import Derived.Test.YtmhoikfoogemnaaGreatDoorSEd
namespace Go.Proofs.YtmhoikfoogemnaaGreatDoor
open Go Go.RowKit Go.Vc
set_option linter.unusedVariables false
set_option linter.unusedSimpArgs false
variable {L : Cx}
theorem sgd_one (neg : Bool) : sgd [49] neg = (sgv neg 1, true) := by cases neg <;> rfl
theorem term_sim {r : PR} {n : Nat} (h : Rok L r) (f : GLin) (neg : Bool) (hf : LinI f n) (hn0 : n < 99999) :
  (∃ x y r', m_parser_reader_term_w r neg = some (.ret (x, r')) ∧ m_lin_Add f x = some (y, 0) ∧ m_ref16_term (St L r) f neg = some (y, St L r') ∧ Nx L r r' ∧ r.at_ < r'.at_ ∧ LinI y (n + 1)) ∨
  (∃ x z c r', m_parser_reader_term_w r neg = some (.ret (x, r')) ∧ m_lin_Add f x = some (z, c) ∧ c ≠ 0 ∧ (L.o = 0 → Fl r.at_ 3 (m_ref16_term (St L r) f neg))) ∨
  (∃ a e, m_parser_reader_term_w r neg = some (.pan a e) ∧ (L.o = 0 → Fl a e (m_ref16_term (St L r) f neg))) := by
 have h0 := h.a0
 have h1 := h.a1
 have h2 := h.ll
 have fin : ∀ (s v : List UInt8) (r' : PR) (x : GLin), s.all dig = true → s.length ≤ 50000 → Nx L r r' → r.at_ < r'.at_ → (m_ref05_Scale x (sgd s neg).1 = some (tm v (sgd s neg).1, 0)) → (v = [] ∨ nameB v = true) →
   (∃ y, m_lin_Add f (tm v (sgd s neg).1) = some (y, 0) ∧ LinI y (n + 1) ∧ ((sgd s neg).2 = true → m_ref16_term_j1 neg f (St L r) s x (St L r') = some (y, St L r')) ∧ ((sgd s neg).2 = false → L.o = 0 → Fl r.at_ 3 (m_ref16_term_j1 neg f (St L r) s x (St L r')))) ∨
   (m_lin_Add f (tm v (sgd s neg).1) = some (⟨0, []⟩, 3) ∧ (L.o = 0 → Fl r.at_ 3 (m_ref16_term_j1 neg f (St L r) s x (St L r')))) := by
  intro s v r' x hs hl hn hlt hsc hv
  have hR := sgd_R s neg
  obtain ⟨q, a1, a2, a3⟩ := Add_both hf (tm_I hv hR) hn0
  have ej : m_ref16_term_j1 neg f (St L r) s x (St L r') = if ((!(sgd s neg).2) || (!decide (q.2 = 0))) = true then (m_ref16_fail (St L r') (St L r).At 3).bind fun r4 => some ((⟨0, []⟩ : GLin), r4) else some (q.1, St L r') := by
   unfold m_ref16_term_j1
   rw [if_neg (by simp [St_E]), ref_signed s neg (by omega) hs, Option.bind_some, hsc, Option.bind_some, a2, Option.bind_some]
  have ef : L.o = 0 → Fl r.at_ 3 ((m_ref16_fail (St L r') (St L r).At 3).bind fun r4 => some ((⟨0, []⟩ : GLin), r4)) := fun ho => by
   unfold m_ref16_fail
   rw [if_pos (by simp [St_E])]
   exact ⟨_, _, rfl, rfl, by show r.at_ + (L.o : Int) = r.at_; omega, by omega⟩
  rcases a3 with ⟨z1, z2⟩ | rfl
  ·left
   obtain ⟨y, c⟩ := q
   dsimp only at z1 z2
   subst z1
   refine ⟨y, a1, z2, fun ht => ?_, fun ht => ?_⟩
   ·rw [ej, if_neg (by simp [ht])]
   ·rw [ej, if_pos (by simp [ht])]; exact ef
  ·right
   exact ⟨a1, by rw [ej, if_pos (by simp)]; exact ef⟩
 unfold m_parser_reader_term_w m_ref16_term
 rw [p_isName h, r_ahead h, Option.bind_some, Option.bind_some]
 by_cases c : isN r = true
 ·rw [if_pos c, if_pos c]
  rcases name_sim h with ⟨v, r', e1, e2, hn, hv, hlt⟩ | ⟨a, e, e1, e2⟩
  ·have hone := fin [49] v r' ⟨0, [⟨v, 1⟩]⟩ rfl (by simp) hn hlt (Scale_tm hv (sgd_R _ _)).2 (.inr hv)
   rw [e1, e2, Option.bind_some, (Var_ok hv).2, Option.bind_some]
   show _ ∨ _ ∨ (∃ a e, (m_lin_Var v).bind _ = _ ∧ _)
   have ex : ∀ {β : Type} (K : GLin → Option β), ((m_lin_Var v).bind fun r4 => if neg = true then (m_lin_Scale r4 (-1)).bind fun r5 => K r5.1 else K r4) = K (tm v (sgd [49] neg).1) := fun K => by
    rw [(Var_ok hv).1, Option.bind_some, sgd_one]
    cases neg with
    | true => rw [if_pos rfl, (Scale_tm hv ⟨by omega, by omega⟩).1]; rfl
    | false =>
     rw [if_neg (by simp)]
     have : tm v (sgv false 1) = ⟨0, [⟨v, 1⟩]⟩ := by unfold tm sgv; rw [if_neg (nameB_ne hv)]; rfl
     rw [this]
   have e3 : (pb (some (Pan.ret (v, r'))) fun (x : List UInt8 × PR) => match x with | (r3, s1) => (m_lin_Var r3).bind fun r4 => if neg = true then (m_lin_Scale r4 (-1)).bind fun r5 => some (Pan.ret (r5.1, s1)) else some (Pan.ret (r4, s1))) = some (.ret (tm v (sgd [49] neg).1, r')) := ex (fun q => some (Pan.ret (q, r')))
   rcases hone with ⟨y, b1, b2, b3, _⟩ | ⟨b1, b2⟩
   ·exact .inl ⟨_, y, r', e3, b1, b3 (by rw [sgd_one]), hn, hlt, b2⟩
   ·exact .inr (.inl ⟨_, _, _, r', e3, b1, by omega, b2⟩)
  ·right; right
   rw [e1]
   refine ⟨a, e, rfl, fun ho => ?_⟩
   obtain ⟨y, s, q1, q2, q3, q4⟩ := e2 ho
   rw [q1, Option.bind_some]
   have hz : ∃ z, m_ref05_Var y = some z := by unfold m_ref05_Var; rw [base_Name_all]; cases nameB y <;> exact ⟨_, rfl⟩
   obtain ⟨z, hz⟩ := hz
   show Fl a e ((m_ref05_Var y).bind _)
   rw [hz, Option.bind_some]
   unfold m_ref16_term_j1
   rw [if_pos (by simp [q2, q4])]
   exact ⟨_, _, rfl, q2, q3, q4⟩
 ·rw [if_neg c, if_neg c]
  rcases number_sim h with ⟨tx, r1, e1, e2, hn, ⟨hd, hl, hlt⟩⟩ | ⟨a, e, e1, e2⟩
  ·have hdig : tx.all dig = true := by unfold decS at hd; simp only [Bool.and_eq_true] at hd; exact hd.1
   rw [e1, e2, Option.bind_some]
   show (∃ x y r', ((m_parser_reader_accept_w r1 [42]).bind fun q => match q with | (r13, s3) => if r13 = true then pb (m_parser_reader_name_w s3) fun w => match w with | (r14, s4) => m_parser_reader_term_w_j1 tx neg r r14 s4 else m_parser_reader_term_w_j1 tx neg r [] s3) = some (.ret (x, r')) ∧ _ ∧ ((m_ref16_is (St L r1) 0 [42]).bind fun r9 => if r9 = true then (m_ref16_name (⟨L.L, wi64 (r1.at_ + L.o + 1), r1.deep + L.o, 0, 0⟩ : RS)).bind fun r10 => (m_ref05_Var r10.1).bind fun r11 => m_ref16_term_j1 neg f (St L r) tx r11 r10.2 else m_ref16_term_j1 neg f (St L r) tx (⟨1, []⟩ : GLin) (St L r1)) = some (y, St L r') ∧ _) ∨ (∃ x z c r', ((m_parser_reader_accept_w r1 [42]).bind fun q => match q with | (r13, s3) => if r13 = true then pb (m_parser_reader_name_w s3) fun w => match w with | (r14, s4) => m_parser_reader_term_w_j1 tx neg r r14 s4 else m_parser_reader_term_w_j1 tx neg r [] s3) = some (.ret (x, r')) ∧ _ ∧ _ ∧ (L.o = 0 → Fl r.at_ 3 ((m_ref16_is (St L r1) 0 [42]).bind fun r9 => if r9 = true then (m_ref16_name (⟨L.L, wi64 (r1.at_ + L.o + 1), r1.deep + L.o, 0, 0⟩ : RS)).bind fun r10 => (m_ref05_Var r10.1).bind fun r11 => m_ref16_term_j1 neg f (St L r) tx r11 r10.2 else m_ref16_term_j1 neg f (St L r) tx (⟨1, []⟩ : GLin) (St L r1)))) ∨ (∃ a e, ((m_parser_reader_accept_w r1 [42]).bind fun q => match q with | (r13, s3) => if r13 = true then pb (m_parser_reader_name_w s3) fun w => match w with | (r14, s4) => m_parser_reader_term_w_j1 tx neg r r14 s4 else m_parser_reader_term_w_j1 tx neg r [] s3) = some (.pan a e) ∧ (L.o = 0 → Fl a e ((m_ref16_is (St L r1) 0 [42]).bind fun r9 => if r9 = true then (m_ref16_name (⟨L.L, wi64 (r1.at_ + L.o + 1), r1.deep + L.o, 0, 0⟩ : RS)).bind fun r10 => (m_ref05_Var r10.1).bind fun r11 => m_ref16_term_j1 neg f (St L r) tx r11 r10.2 else m_ref16_term_j1 neg f (St L r) tx (⟨1, []⟩ : GLin) (St L r1))))
   have pj : ∀ (v : List UInt8) (r' : PR), (v = [] ∨ nameB v = true) → m_parser_reader_term_w_j1 tx neg r v r' = if (sgd tx neg).2 = true then some (.ret (tm v (sgd tx neg).1, r')) else some (.pan r.at_ 3) := fun v r' hv => by
    unfold m_parser_reader_term_w_j1
    rw [parser_signed tx neg (by omega) hdig, Option.bind_some]
    have j2 : m_parser_reader_term_w_j2 v (sgd tx neg) r' = some (.ret (tm v (sgd tx neg).1, r')) := by
     unfold m_parser_reader_term_w_j2
     rcases hv with rfl | hv
     ·rfl
     ·rw [if_neg (by simp [nameB_ne hv]), (Var_ok hv).1, Option.bind_some, (Scale_tm hv (sgd_R _ _)).1]; rfl
    cases hb : (sgd tx neg).2 with
    | true => rw [if_neg (by simp), j2, if_pos rfl]
    | false => rw [if_pos (by simp), if_neg (by simp)]; rfl
   have done : ∀ (v : List UInt8) (r' : PR) (x : GLin) {M : Option (Pan (GLin × PR))} {M' : Option (GLin × RS)}, (v = [] ∨ nameB v = true) → Nx L r r' → r.at_ < r'.at_ → (m_ref05_Scale x (sgd tx neg).1 = some (tm v (sgd tx neg).1, 0)) → M = m_parser_reader_term_w_j1 tx neg r v r' → M' = m_ref16_term_j1 neg f (St L r) tx x (St L r') →
     (∃ x y r', M = some (.ret (x, r')) ∧ m_lin_Add f x = some (y, 0) ∧ M' = some (y, St L r') ∧ Nx L r r' ∧ r.at_ < r'.at_ ∧ LinI y (n + 1)) ∨ (∃ x z c r', M = some (.ret (x, r')) ∧ m_lin_Add f x = some (z, c) ∧ c ≠ 0 ∧ (L.o = 0 → Fl r.at_ 3 M')) ∨ (∃ a e, M = some (.pan a e) ∧ (L.o = 0 → Fl a e M')) := by
    intro v r' x M M' hv hn' hlt' hsc eM eM'
    rw [eM, eM', pj v r' hv]
    rcases fin tx v r' x hdig hl hn' hlt' hsc hv with ⟨y, b1, b2, b3, b4⟩ | ⟨b1, b2⟩
    ·cases hb : (sgd tx neg).2 with
     | true => exact .inl ⟨_, y, r', rfl, b1, b3 hb, hn', hlt', b2⟩
     | false => exact .inr (.inr ⟨_, _, rfl, b4 hb⟩)
    ·cases hb : (sgd tx neg).2 with
     | true => exact .inr (.inl ⟨_, _, _, r', rfl, b1, by omega, b2⟩)
     | false => exact .inr (.inr ⟨_, _, rfl, b2⟩)
   have h1' := hn.ok
   rw [p_accept h1', r_sign h1' [42]]
   cases cs : isB r1 3 [42] with
   | true =>
    have hlt1 := h1'.is_lt cs
    have hA := h1'.adv hlt1
    simp only [if_true, Option.bind_some]
    rw [r_step h1']
    rcases name_sim hA with ⟨v, r2, f1, f2, hn2, hv, hlt2⟩ | ⟨a, e, f1, f2⟩
    ·rw [f1, f2]
     have hlt3 : r.at_ < r2.at_ := by have : (adv r1).at_ = r1.at_ + 1 := rfl; omega
     refine done v r2 ⟨0, [⟨v, 1⟩]⟩ (.inr hv) ((hn.trans (Nx.adv h1' hlt1)).trans hn2) hlt3 (Scale_tm hv (sgd_R _ _)).2 rfl ?_
     rw [Option.bind_some, (Var_ok hv).2]; rfl
    ·right; right
     rw [f1]
     refine ⟨a, e, rfl, fun ho => ?_⟩
     obtain ⟨y, s, q1, q2, q3, q4⟩ := f2 ho
     rw [q1, Option.bind_some]
     have hz : ∃ z, m_ref05_Var y = some z := by unfold m_ref05_Var; rw [base_Name_all]; cases nameB y <;> exact ⟨_, rfl⟩
     obtain ⟨z, hz⟩ := hz
     show Fl a e ((m_ref05_Var y).bind _)
     rw [hz, Option.bind_some]
     unfold m_ref16_term_j1
     rw [if_pos (by simp [q2, q4])]
     exact ⟨_, _, rfl, q2, q3, q4⟩
   | false =>
    simp only [Bool.false_eq_true, if_false, Option.bind_some]
    exact done [] r1 ⟨1, []⟩ (.inl rfl) hn hlt (ref_Scale1 (sgd_R _ _)) rfl rfl
  ·right; right
   rw [e1]
   refine ⟨a, e, rfl, fun ho => ?_⟩
   obtain ⟨y, s, q1, q2, q3, q4⟩ := e2 ho
   have hs : s.E ≠ 0 := by rw [q2]; exact q4
   rw [q1, Option.bind_some]
   show Fl a e ((m_ref16_is s 0 [42]).bind _)
   rw [r_is_f hs, Option.bind_some, if_neg (by simp)]
   unfold m_ref16_term_j1
   rw [if_pos (by simp [q2, q4])]
   exact ⟨_, _, rfl, q2, q3, q4⟩
theorem r_form_l_f {p : RS} (he : p.E ≠ 0) (g : Nat) (f : GLin) : m_ref16_form_l1 (g + 1) p f = some (f, p) := by
 simp only [m_ref16_form_l1]
 rw [r_is_f he, r_is_f he]
 simp [gd]
theorem form_run : ∀ (k : Nat) (F F' : Nat) (a0 : Int) (r : PR) (f : GLin) (neg : Bool), Rok L r → r.l.length - r.at_.toNat ≤ k → k < F → k < F' → 0 ≤ a0 → a0 ≤ r.at_ → LinI f (r.at_ - a0).toNat →
  Sim L r (fun x r' => r.at_ < r'.at_ ∧ LinI x (r'.at_ - a0).toNat) (m_parser_reader_form_w_l1 F neg r f) ((m_ref16_term (St L r) f neg).bind fun r2 => m_ref16_form_l1 F' r2.2 r2.1) := by
 intro k
 induction k with
 | zero =>
  intro F F' a0 r f neg h hk hF hF' ha0 ha1 hf
  obtain ⟨F, rfl⟩ : ∃ g, F = g + 1 := ⟨F - 1, by omega⟩
  obtain ⟨F', rfl⟩ : ∃ g, F' = g + 1 := ⟨F' - 1, by omega⟩
  have h0 := h.a0
  have h1 := h.a1
  simp only [m_parser_reader_form_w_l1]
  have h2 := h.ll
  rcases term_sim h f neg hf (by omega) with ⟨x, y, r', e1, e2, e3, hn, hlt, hy⟩ | ⟨x, z, c, r', e1, e2, hc, hq⟩ | ⟨a, e, e1, hq⟩
  ·have q1 := hn.ok.a1; have q2 := hn.l; rw [q2] at q1; omega
  ·rw [e1]
   refine .inr ⟨r.at_, 3, ?_, fun ho => ?_⟩
   ·show ((m_lin_Add f x).bind _) = _
    rw [e2, Option.bind_some, if_pos (by simp [hc])]; rfl
   ·obtain ⟨y, s, q1, q2, q3, q4⟩ := hq ho
    rw [q1, Option.bind_some, r_form_l_f (by show s.E ≠ 0; rw [q2]; exact q4)]; exact ⟨_, _, rfl, q2, q3, q4⟩
  ·rw [e1]
   refine .inr ⟨a, e, rfl, fun ho => ?_⟩
   obtain ⟨y, s, q1, q2, q3, q4⟩ := hq ho
   rw [q1, Option.bind_some, r_form_l_f (by show s.E ≠ 0; rw [q2]; exact q4)]; exact ⟨_, _, rfl, q2, q3, q4⟩
 | succ k ih =>
  intro F F' a0 r f neg h hk hF hF' ha0 ha1 hf
  obtain ⟨F, rfl⟩ : ∃ g, F = g + 1 := ⟨F - 1, by omega⟩
  obtain ⟨F', rfl⟩ : ∃ g, F' = g + 1 := ⟨F' - 1, by omega⟩
  have h0 := h.a0
  have h1 := h.a1
  simp only [m_parser_reader_form_w_l1]
  have h2 := h.ll
  rcases term_sim h f neg hf (by omega) with ⟨x, y, r', e1, e2, e3, hn, hlt, hy⟩ | ⟨x, z, c, r', e1, e2, hc, hq⟩ | ⟨a, e, e1, hq⟩
  ·rw [e1, e3, Option.bind_some]
   show Sim L r _ ((m_lin_Add f x).bind _) _
   rw [e2, Option.bind_some, if_neg (by simp)]
   have h' := hn.ok
   have hl' := hn.l
   unfold m_parser_reader_form_w_j1
   simp only [m_ref16_form_l1]
   rw [p_accept h', r_sign h' [43], r_sign h' [45], Option.bind_some, Option.bind_some]
   cases c1 : isB r' 3 [43] with
   | true =>
    have hlt1 := h'.is_lt c1
    have c2 : isB r' 3 [45] = false := by
     unfold isB isK at c1 ⊢
     cases ht : tkk r' 0 with
     | none => rfl
     | some t => rw [ht] at c1; simp only [Bool.and_eq_true, decide_eq_true_eq] at c1; simp [c1.2]
    rw [c2]
    simp only [gd, if_true, Option.bind_some, Bool.true_or, Bool.not_true, Bool.false_eq_true, if_false]
    show Sim L r _ (m_parser_reader_form_w_l1 F false (adv r') y) ((m_ref16_term (⟨L.L, wi64 (r'.at_ + L.o + 1), r'.deep + L.o, 0, 0⟩ : RS) y false).bind fun r6 => m_ref16_form_l1 F' r6.2 r6.1)
    rw [r_step h']
    have hnA := Nx.adv h' hlt1
    have eA : (adv r').at_ = r'.at_ + 1 := rfl
    refine (ih F F' a0 (adv r') y false hnA.ok (by rw [show (adv r').l = r.l from hl', eA]; omega) (by omega) (by omega) ha0 (by omega) (hy.mono (by rw [eA]; omega))).base (hn.trans hnA) (fun x q hq hx => ⟨?_, hx.2⟩)
    have := hx.1; omega
   | false =>
    simp only [gd, if_true, Option.bind_some, Bool.false_or, Bool.not_false, Bool.false_eq_true, if_false]
    rw [p_accept h', Option.bind_some]
    cases c2 : isB r' 3 [45] with
    | true =>
     have hlt1 := h'.is_lt c2
     simp only [if_true, Option.bind_some]
     show Sim L r _ (m_parser_reader_form_w_l1 F true (adv r') y) ((m_ref16_term (⟨L.L, wi64 (r'.at_ + L.o + 1), r'.deep + L.o, 0, 0⟩ : RS) y true).bind fun r6 => m_ref16_form_l1 F' r6.2 r6.1)
     rw [r_step h']
     have hnA := Nx.adv h' hlt1
     have eA : (adv r').at_ = r'.at_ + 1 := rfl
     refine (ih F F' a0 (adv r') y true hnA.ok (by rw [show (adv r').l = r.l from hl', eA]; omega) (by omega) (by omega) ha0 (by omega) (hy.mono (by rw [eA]; omega))).base (hn.trans hnA) (fun x q hq hx => ⟨?_, hx.2⟩)
     have := hx.1; omega
    | false =>
     simp only [Bool.false_eq_true, if_false]
     exact Sim.ret hn ⟨hlt, hy.mono (by omega)⟩
  ·rw [e1]
   refine .inr ⟨r.at_, 3, ?_, fun ho => ?_⟩
   ·show ((m_lin_Add f x).bind _) = _
    rw [e2, Option.bind_some, if_pos (by simp [hc])]; rfl
   ·obtain ⟨y, s, q1, q2, q3, q4⟩ := hq ho
    rw [q1, Option.bind_some, r_form_l_f (by show s.E ≠ 0; rw [q2]; exact q4)]; exact ⟨_, _, rfl, q2, q3, q4⟩
  ·rw [e1]
   refine .inr ⟨a, e, rfl, fun ho => ?_⟩
   obtain ⟨y, s, q1, q2, q3, q4⟩ := hq ho
   rw [q1, Option.bind_some, r_form_l_f (by show s.E ≠ 0; rw [q2]; exact q4)]; exact ⟨_, _, rfl, q2, q3, q4⟩
theorem form_sim {r : PR} (h : Rok L r) : Sim L r (fun x r' => r.at_ < r'.at_ ∧ LinI x (r'.at_ - r.at_).toNat) (m_parser_reader_form_w r) (m_ref16_form (St L r)) := by
 unfold m_parser_reader_form_w m_ref16_form m_ref16_form_j1
 rw [p_accept h, r_sign h [45], Option.bind_some, Option.bind_some]
 have h2 := h.ll
 cases c : isB r 3 [45] with
 | true =>
  have hlt := h.is_lt c
  have hnA := Nx.adv h hlt
  simp only [if_true]
  show Sim L r _ (m_parser_reader_form_w_l1 fu true (adv r) ⟨0, []⟩) ((m_ref16_term (⟨L.L, wi64 (r.at_ + L.o + 1), r.deep + L.o, 0, 0⟩ : RS) ⟨0, []⟩ true).bind fun r2 => m_ref16_form_l1 fu r2.2 r2.1)
  rw [r_step h]
  refine (form_run 50000 fu fu r.at_ (adv r) ⟨0, []⟩ true hnA.ok (by show r.l.length - _ ≤ _; omega) (by unfold fu; omega) (by unfold fu; omega) h.a0 (by show r.at_ ≤ r.at_ + 1; omega) (.const R0 _)).base hnA (fun x q hq hx => ⟨?_, hx.2⟩)
  have := hx.1
  have eA : (adv r).at_ = r.at_ + 1 := rfl
  omega
 | false =>
  simp only [Bool.false_eq_true, if_false]
  exact form_run 50000 fu fu r.at_ r ⟨0, []⟩ false h (by omega) (by unfold fu; omega) (by unfold fu; omega) h.a0 (Int.le_refl _) (.const R0 _)
end Go.Proofs.YtmhoikfoogemnaaGreatDoor
