/- The laws Format, RoundTrip, RingLaws, in plain terms. Conditions: the range of int64. -/
import Derived.Test.YtkmenmoiagkegaaDoorFn
namespace Go.Proofs.YtkmenmoiagkegaaDoor
open Go Go.RowKit Go.Vc
set_option linter.unusedVariables false
set_option linter.unusedSimpArgs false

theorem law_FracFormat (a : GVal) (s : List UInt8) (ha : okGVal a) (hs : okS s) : m_law01_FracFormat a s = some true := by
  unfold m_law01_FracFormat
  rw [ex01]
  by_cases hl : (200 : Int) < (s.length : Int)
  · simp [hl]
  · rw [if_neg (by simpa using hl), frac_Parse (by omega), ref01_Parse (by omega), frac_Format (VaR.of ha), ref01_Format (VaR.of ha)]
    simp [gd]
theorem frVaR_zero : VaR ⟨0, 0⟩ := ⟨⟨by decide, by decide⟩, ⟨by decide, by decide⟩⟩
theorem round_j1 (s : List UInt8) (hl : s.length ≤ 4294967296) : m_law01_FracRoundTrip_j1 s = some true := by
  unfold m_law01_FracRoundTrip_j1
  rw [frac_Parse hl, ex01]
  simp only [Option.bind_some]
  by_cases h0 : (parseS s).2 = 0
  · obtain ⟨h1, h2⟩ := fmt_parse (v := (parseS s).1) (s := s) (by rw [← h0])
    simp [h0, gd, frac_Format (frVaR h1), h2]
  · simp [h0, gd]
theorem law_FracRoundTrip (n d : Int) (s : List UInt8) (hn : okI .i64 n) (hd : okI .i64 d) (hs : okS s) : m_law01_FracRoundTrip n d s = some true := by
  unfold m_law01_FracRoundTrip
  by_cases hl : (200 : Int) < (s.length : Int)
  · rw [ex01]; simp [hl]
  · rw [if_neg (by simpa using hl)]
    obtain ⟨q, e, h1, h2, h3⟩ := New_ok (okI_R hn) (okI_R hd)
    rw [h1]
    simp only [Option.bind_some]
    by_cases he : e = 0
    · have hq := h3 he
      obtain ⟨a1, a2, a3, a4, a5⟩ := frOK_bd hq
      have hlen : (fmtS q).length ≤ 4294967296 := by
        unfold fmtS
        rw [if_pos hq]
        have l1 := itoa_len (n := q.N) ⟨a3, a4⟩
        have l2 := itoa_len (n := q.D) ⟨by omega, by omega⟩
        split
        · omega
        · simp only [List.length_append, List.length_cons]; omega
      simp only [he, decide_true, if_true, frac_Format h2, Option.bind_some, frac_Parse hlen, parse_fmt hq]
      simp only [decide_true, Bool.and_self, Bool.not_true, Bool.or_self, Bool.false_eq_true, if_false]
      exact round_j1 s (by omega)
    · simp only [he, decide_false, Bool.false_eq_true, if_false]
      exact round_j1 s (by omega)

/-! ### The laws of a ring -/
/-- The fraction n/d, or the error. -/
theorem cross_bd {a b : GVal} (ha : frOK a = true) (hb : frOK b = true) : (-4611686014132420609 ≤ a.N * b.D ∧ a.N * b.D ≤ 4611686014132420609) ∧ (-4611686014132420609 ≤ a.N * b.N ∧ a.N * b.N ≤ 4611686014132420609) ∧ (1 ≤ a.D * b.D ∧ a.D * b.D ≤ 4611686014132420609) := by
  obtain ⟨a1, a2, a3, a4, a5⟩ := frOK_bd ha
  obtain ⟨b1, b2, b3, b4, b5⟩ := frOK_bd hb
  have h1 := mul_bd (x := a.N) (y := b.D) (B := 2147483647) ⟨by omega, by omega⟩ ⟨by omega, by omega⟩
  have h2 := mul_bd (x := a.N) (y := b.N) (B := 2147483647) ⟨by omega, by omega⟩ ⟨by omega, by omega⟩
  have h3 := mul_bd (x := a.D) (y := b.D) (B := 2147483647) ⟨by omega, by omega⟩ ⟨by omega, by omega⟩
  have h4 := Int.mul_pos (show 0 < a.D by omega) (show 0 < b.D by omega)
  exact ⟨⟨by omega, by omega⟩, ⟨by omega, by omega⟩, ⟨by omega, by omega⟩⟩
theorem Add_eq {a b : GVal} (ha : frOK a = true) (hb : frOK b = true) : m_frac_Add a b = m_frac_New (a.N * b.D + b.N * a.D) (a.D * b.D) := by
  obtain ⟨h1, _, h3⟩ := cross_bd ha hb
  obtain ⟨h4, _, _⟩ := cross_bd hb ha
  unfold m_frac_Add
  rw [frac_Valid (frVaR ha), frac_Valid (frVaR hb), ha, hb, wi (p := a.N * b.D) ⟨by omega, by omega⟩, wi (p := b.N * a.D) ⟨by omega, by omega⟩, wi (p := a.D * b.D) ⟨by omega, by omega⟩, wi ⟨by omega, by omega⟩]
  simp only [Option.bind_some, Bool.not_true, Bool.not_false, gd, if_true, Bool.or_self, Bool.false_eq_true, if_false, bind_pair]
theorem Sub_eq {a b : GVal} (ha : frOK a = true) (hb : frOK b = true) : m_frac_Sub a b = m_frac_New (a.N * b.D - b.N * a.D) (a.D * b.D) := by
  obtain ⟨h1, _, h3⟩ := cross_bd ha hb
  obtain ⟨h4, _, _⟩ := cross_bd hb ha
  unfold m_frac_Sub
  rw [frac_Valid (frVaR ha), frac_Valid (frVaR hb), ha, hb, wi (p := a.N * b.D) ⟨by omega, by omega⟩, wi (p := b.N * a.D) ⟨by omega, by omega⟩, wi (p := a.D * b.D) ⟨by omega, by omega⟩, wi ⟨by omega, by omega⟩]
  simp only [Option.bind_some, Bool.not_true, Bool.not_false, gd, if_true, Bool.or_self, Bool.false_eq_true, if_false, bind_pair]
theorem Mul_eq {a b : GVal} (ha : frOK a = true) (hb : frOK b = true) : m_frac_Mul a b = m_frac_New (a.N * b.N) (a.D * b.D) := by
  obtain ⟨_, h1, h3⟩ := cross_bd ha hb
  unfold m_frac_Mul
  rw [frac_Valid (frVaR ha), frac_Valid (frVaR hb), ha, hb, wi (p := a.N * b.N) ⟨by omega, by omega⟩, wi (p := a.D * b.D) ⟨by omega, by omega⟩]
  simp only [Option.bind_some, Bool.not_true, Bool.not_false, gd, if_true, Bool.or_self, Bool.false_eq_true, if_false, bind_pair]
theorem bad_Add {a b : GVal} (ha : VaR a) (hb : VaR b) (h : ¬ (frOK a = true ∧ frOK b = true)) : m_frac_Add a b = some (⟨0, 0⟩, 1) := by
  unfold m_frac_Add
  rw [frac_Valid ha, frac_Valid hb]
  cases h1 : frOK a
  · simp [gd]
  · cases h2 : frOK b
    · simp [gd]
    · exact absurd ⟨h1, h2⟩ h
theorem bad_Mul {a b : GVal} (ha : VaR a) (hb : VaR b) (h : ¬ (frOK a = true ∧ frOK b = true)) : m_frac_Mul a b = some (⟨0, 0⟩, 1) := by
  unfold m_frac_Mul
  rw [frac_Valid ha, frac_Valid hb]
  cases h1 : frOK a
  · simp [gd]
  · cases h2 : frOK b
    · simp [gd]
    · exact absurd ⟨h1, h2⟩ h
theorem Add_comm {a b : GVal} (ha : VaR a) (hb : VaR b) : m_frac_Add a b = m_frac_Add b a := by
  by_cases h : frOK a = true ∧ frOK b = true
  · rw [Add_eq h.1 h.2, Add_eq h.2 h.1, Int.add_comm, Int.mul_comm a.D b.D]
  · rw [bad_Add ha hb h, bad_Add hb ha (fun h' => h ⟨h'.2, h'.1⟩)]
theorem Mul_comm {a b : GVal} (ha : VaR a) (hb : VaR b) : m_frac_Mul a b = m_frac_Mul b a := by
  by_cases h : frOK a = true ∧ frOK b = true
  · rw [Mul_eq h.1 h.2, Mul_eq h.2 h.1, Int.mul_comm a.N b.N, Int.mul_comm a.D b.D]
  · rw [bad_Mul ha hb h, bad_Mul hb ha (fun h' => h ⟨h'.2, h'.1⟩)]
/-- A sum that is in range. -/
theorem Add_ok {a b q : GVal} (ha : VaR a) (hb : VaR b) (h : m_frac_Add a b = some (q, 0)) : frOK a = true ∧ frOK b = true ∧ frOK q = true ∧ q.N * (a.D * b.D) = (a.N * b.D + b.N * a.D) * q.D := by
  by_cases hv : frOK a = true ∧ frOK b = true
  · obtain ⟨h1, _, h3⟩ := cross_bd hv.1 hv.2
    obtain ⟨h4, _, _⟩ := cross_bd hv.2 hv.1
    rw [Add_eq hv.1 hv.2] at h
    obtain ⟨g1, _, g3⟩ := New_valid ⟨by omega, by omega⟩ ⟨by omega, by omega⟩ h
    exact ⟨hv.1, hv.2, g1, g3⟩
  · rw [bad_Add ha hb hv] at h
    injection h with h; injection h with _ h; cases h
theorem Mul_ok {a b q : GVal} (ha : VaR a) (hb : VaR b) (h : m_frac_Mul a b = some (q, 0)) : frOK a = true ∧ frOK b = true ∧ frOK q = true ∧ q.N * (a.D * b.D) = (a.N * b.N) * q.D := by
  by_cases hv : frOK a = true ∧ frOK b = true
  · obtain ⟨_, h1, h3⟩ := cross_bd hv.1 hv.2
    rw [Mul_eq hv.1 hv.2] at h
    obtain ⟨g1, _, g3⟩ := New_valid ⟨by omega, by omega⟩ ⟨by omega, by omega⟩ h
    exact ⟨hv.1, hv.2, g1, g3⟩
  · rw [bad_Mul ha hb hv] at h
    injection h with h; injection h with _ h; cases h
theorem Sub_Add {a b q : GVal} (ha : VaR a) (hb : VaR b) (h : m_frac_Add a b = some (q, 0)) : m_frac_Sub q b = some (a, 0) := by
  obtain ⟨f1, f2, f3, f4⟩ := Add_ok ha hb h
  obtain ⟨h1, _, h3⟩ := cross_bd f3 f2
  obtain ⟨h4, _, _⟩ := cross_bd f2 f3
  obtain ⟨b1, _⟩ := frOK_bd f2
  rw [Sub_eq f3 f2]
  refine New_of ⟨by omega, by omega⟩ ⟨by omega, by omega⟩ (by omega) f1 ?_
  have : b.D * (a.N * (q.D * b.D)) = b.D * ((q.N * b.D - b.N * q.D) * a.D) := by grind
  exact Int.eq_of_mul_eq_mul_left (by omega) this
theorem Add_assoc {a b c ab bc : GVal} (ha : VaR a) (hb : VaR b) (hc : VaR c) (h1 : m_frac_Add a b = some (ab, 0)) (h2 : m_frac_Add b c = some (bc, 0)) : m_frac_Add ab c = m_frac_Add a bc := by
  obtain ⟨fa, fb, fab, e1⟩ := Add_ok ha hb h1
  obtain ⟨_, fc, fbc, e2⟩ := Add_ok hb hc h2
  rw [Add_eq fab fc, Add_eq fa fbc]
  obtain ⟨p1, _, p3⟩ := cross_bd fab fc
  obtain ⟨p4, _, _⟩ := cross_bd fc fab
  obtain ⟨q1, _, q3⟩ := cross_bd fa fbc
  obtain ⟨q4, _, _⟩ := cross_bd fbc fa
  obtain ⟨b1, _⟩ := frOK_bd fb
  refine New_congr ⟨by omega, by omega⟩ ⟨by omega, by omega⟩ (by omega) ⟨by omega, by omega⟩ ⟨by omega, by omega⟩ (by omega) ?_
  have : b.D * ((ab.N * c.D + c.N * ab.D) * (a.D * bc.D)) = b.D * ((a.N * bc.D + bc.N * a.D) * (ab.D * c.D)) := by grind
  exact Int.eq_of_mul_eq_mul_left (by omega) this
theorem Mul_distr {a b c p bc ac : GVal} (ha : VaR a) (hb : VaR b) (hc : VaR c) (h1 : m_frac_Mul a b = some (p, 0)) (h2 : m_frac_Add b c = some (bc, 0)) (h3 : m_frac_Mul a c = some (ac, 0)) : m_frac_Mul a bc = m_frac_Add p ac := by
  obtain ⟨fa, fb, fp, e1⟩ := Mul_ok ha hb h1
  obtain ⟨_, fc, fbc, e2⟩ := Add_ok hb hc h2
  obtain ⟨_, _, fac, e3⟩ := Mul_ok ha hc h3
  rw [Mul_eq fa fbc, Add_eq fp fac]
  obtain ⟨_, p1, p3⟩ := cross_bd fa fbc
  obtain ⟨q1, _, q3⟩ := cross_bd fp fac
  obtain ⟨q4, _, _⟩ := cross_bd fac fp
  obtain ⟨a1, _⟩ := frOK_bd fa
  obtain ⟨b1, _⟩ := frOK_bd fb
  obtain ⟨c1, _⟩ := frOK_bd fc
  refine New_congr ⟨by omega, by omega⟩ ⟨by omega, by omega⟩ (by omega) ⟨by omega, by omega⟩ ⟨by omega, by omega⟩ (by omega) ?_
  have : (a.D * b.D * c.D) * (a.N * bc.N * (p.D * ac.D)) = (a.D * b.D * c.D) * ((p.N * ac.D + ac.N * p.D) * (a.D * bc.D)) := by
    generalize a.N = aN at *
    generalize a.D = aD at *
    generalize b.N = bN at *
    generalize b.D = bD at *
    generalize c.N = cN at *
    generalize c.D = cD at *
    generalize p.N = pN at *
    generalize p.D = pD at *
    generalize bc.N = sN at *
    generalize bc.D = sD at *
    generalize ac.N = tN at *
    generalize ac.D = tD at *
    have k1 : (aD * bD * cD) * (aN * sN * (pD * tD)) = aD * aN * pD * tD * (sN * (bD * cD)) := by grind
    have k2 : (aD * bD * cD) * ((pN * tD + tN * pD) * (aD * sD)) = aD * sD * (cD * tD * (pN * (aD * bD)) + bD * pD * (tN * (aD * cD))) := by grind
    rw [k1, k2, e2, e1, e3]
    grind
  exact Int.eq_of_mul_eq_mul_left (Int.mul_ne_zero (Int.mul_ne_zero (by omega) (by omega)) (by omega)) this
theorem Add_VaR {a b : GVal} {r : GVal × Int} (ha : VaR a) (hb : VaR b) (h : m_frac_Add a b = some r) : VaR r.1 := by
  by_cases hv : frOK a = true ∧ frOK b = true
  · obtain ⟨h1, _, h3⟩ := cross_bd hv.1 hv.2
    obtain ⟨h4, _, _⟩ := cross_bd hv.2 hv.1
    rw [Add_eq hv.1 hv.2] at h
    obtain ⟨q, e, h5, h6, _⟩ := New_ok (n := a.N * b.D + b.N * a.D) (d := a.D * b.D) ⟨by omega, by omega⟩ ⟨by omega, by omega⟩
    rw [h] at h5; injection h5 with h5; subst h5; exact h6
  · rw [bad_Add ha hb hv] at h; injection h with h; subst h; exact frVaR_zero
theorem ring_j1 {a b c ab p : GVal} {e g : Int} (ha : VaR a) (hb : VaR b) (hc : VaR c) (h1 : m_frac_Add a b = some (ab, e)) (h2 : m_frac_Mul a b = some (p, g)) : m_law01_FracRingLaws_j1 b c a (ab, e) (p, g) = some true := by
  unfold m_law01_FracRingLaws_j1
  obtain ⟨⟨bc, i⟩, h3⟩ := some_Add hb hc
  obtain ⟨⟨ac, j⟩, h4⟩ := some_Mul ha hc
  rw [h3, h4, ex01]
  simp only [Option.bind_some]
  by_cases hz : e = 0 ∧ g = 0 ∧ i = 0 ∧ j = 0
  · obtain ⟨rfl, rfl, rfl, rfl⟩ := hz
    have e1 := Add_assoc ha hb hc h1 h3
    have e2 := Mul_distr ha hb hc h2 h3 h4
    obtain ⟨r8, h8⟩ := some_Add (a := ab) (b := c) (Add_VaR ha hb h1) hc
    obtain ⟨r10, h10⟩ := some_Mul (a := a) (b := bc) ha (Add_VaR hb hc h3)
    rw [← e1, h8, ← e2, h10]
    simp [gd]
  · rw [if_pos]
    simp only [Bool.or_eq_true, Bool.not_eq_true', decide_eq_false_iff_not]
    omega
theorem law_FracRingLaws (a b c : GVal) (ha : okGVal a) (hb : okGVal b) (hc : okGVal c) : m_law01_FracRingLaws a b c = some true := by
  replace ha := VaR.of ha
  replace hb := VaR.of hb
  replace hc := VaR.of hc
  unfold m_law01_FracRingLaws
  rw [Add_comm hb ha, Mul_comm hb ha]
  obtain ⟨⟨ab, e⟩, h1⟩ := some_Add ha hb
  obtain ⟨⟨p, g⟩, h2⟩ := some_Mul ha hb
  rw [h1, h2]
  simp only [Option.bind_some, decide_true, Bool.and_self, Bool.not_true, Bool.or_self, Bool.false_eq_true, if_false]
  by_cases he : e = 0
  · subst he
    rw [Sub_Add ha hb h1]
    simp only [decide_true, if_true, Option.bind_some, Bool.and_self, Bool.not_true, Bool.or_self, Bool.false_eq_true, if_false]
    exact ring_j1 ha hb hc h1 h2
  · simp only [he, decide_false, Bool.false_eq_true, if_false]
    exact ring_j1 ha hb hc h1 h2
end Go.Proofs.YtkmenmoiagkegaaDoor
