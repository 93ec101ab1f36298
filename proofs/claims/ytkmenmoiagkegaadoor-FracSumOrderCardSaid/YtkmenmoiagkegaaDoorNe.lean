/- What Sum computes in the reference; the laws Sum and SumOrder, in plain terms. Conditions: the range of int64. -/
import Derived.Test.YtkmenmoiagkegaaDoorNd
namespace Go.Proofs.YtkmenmoiagkegaaDoor
open Go Go.RowKit Go.Vc
set_option linter.unusedVariables false
set_option linter.unusedSimpArgs false

def sg (m : Bool) (r : GVal × Int) : GVal × Int := if m then (⟨-r.1.N, r.1.D⟩, r.2) else r
theorem ref01_made {m : Bool} {n d : Nat} (hn : n < 18446744073709551616) (hd : 0 < d) (hd2 : d ≤ 2147483647) : m_ref01_made m n d = some (sg m (lowS n d)) := by
  have hg := Nat.gcd_pos_of_pos_right n hd
  have h1 : n / Nat.gcd n d ≤ n := Nat.div_le_self ..
  have h2 : d / Nat.gcd n d ≤ d := Nat.div_le_self ..
  unfold m_ref01_made sg lowS
  rw [ref01_gcd (by omega) (by omega) (by omega), Option.bind_some, Int.gcd_natCast_natCast]
  have e1 : Int.tdiv (n : Int) ((Nat.gcd n d : Nat) : Int) = ((n / Nat.gcd n d : Nat) : Int) := by rw [Int.tdiv_eq_ediv_of_nonneg (by omega)]; rfl
  have e2 : Int.tdiv (d : Int) ((Nat.gcd n d : Nat) : Int) = ((d / Nat.gcd n d : Nat) : Int) := by rw [Int.tdiv_eq_ediv_of_nonneg (by omega)]; rfl
  rw [if_pos (by omega), e1, e2]
  generalize n / Nat.gcd n d = x at *
  generalize d / Nat.gcd n d = y at *
  rw [wu (p := (x : Int)) ⟨by omega, by omega⟩, wu (p := (y : Int)) ⟨by omega, by omega⟩]
  by_cases c : x ≤ 2147483647 ∧ y ≤ 2147483647
  · rw [if_neg (by simp only [Bool.or_eq_true, decide_eq_true_eq]; omega), if_pos c, wi (p := (x : Int)) ⟨by omega, by omega⟩, wi (p := (y : Int)) ⟨by omega, by omega⟩, wi (p := -(x : Int)) ⟨by omega, by omega⟩]
    cases m <;> rfl
  · rw [if_pos (by simp only [Bool.or_eq_true, decide_eq_true_eq]; omega), if_neg c]
    cases m <;> rfl
theorem low_l2 {d2 : Int} {self : List Int → Int → Int → Option (GVal × Int)} {i : Int} : ∀ (f left n : Nat), left < f → 0 < left → left ≤ 2147483647 → (big n).length < LN → ∃ c n' left' : Nat, 0 < c ∧ n = c * n' ∧ left = c * left' ∧ Nat.gcd n' left' = 1 ∧
    m_ref01_lowest_l2 d2 self i f (big n) left (Nat.gcd n left : Nat) = m_ref01_lowest_j3 d2 self i (big n') left' := by
  intro f
  induction f with
  | zero => intro left n h; omega
  | succ f ih =>
    intro left n hf h0 h1 hl
    rw [m_ref01_lowest_l2]
    have hg := Nat.gcd_pos_of_pos_right n h0
    by_cases hc : 1 < Nat.gcd n left
    · have hd1 := Nat.gcd_dvd_left n left
      have hd2 := Nat.gcd_dvd_right n left
      have hle := Nat.le_of_dvd h0 hd2
      have k1 := Nat.mul_div_cancel' hd1
      have k2 := Nat.mul_div_cancel' hd2
      have hq : left / Nat.gcd n left < left := Nat.div_lt_self h0 hc
      have hq0 : 0 < left / Nat.gcd n left := Nat.div_pos hle hg
      have e1 : Int.tdiv (left : Int) ((Nat.gcd n left : Nat) : Int) = ((left / Nat.gcd n left : Nat) : Int) := by rw [Int.tdiv_eq_ediv_of_nonneg (by omega)]; rfl
      have hn : n / Nat.gcd n left ≤ n := Nat.div_le_self ..
      rw [if_pos (decide_eq_true (by omega)), ref01_part hl hg (by omega), Option.bind_some, if_pos (by omega), e1]
      generalize Nat.gcd n left = g at *
      rw [wu (p := ((left / g : Nat) : Int)) ⟨by omega, by omega⟩]
      have hl2 : (big (n / g)).length < LN := Nat.lt_of_le_of_lt (len_le hn) hl
      rw [ref01_rest hl2 hq0 (by omega), Option.bind_some, ref01_gcd (by omega) (by omega) (by omega), Option.bind_some, Int.gcd_natCast_natCast, ← Nat.gcd_rec, Nat.gcd_comm]
      obtain ⟨c, n', l', c1, c2, c3, c4, c5⟩ := ih (left / g) (n / g) (by omega) hq0 (by omega) hl2
      refine ⟨g * c, n', l', Nat.mul_pos hg c1, ?_, ?_, c4, ?_⟩
      · rw [Nat.mul_assoc, ← c2, k1]
      · rw [Nat.mul_assoc, ← c3, k2]
      · rw [Nat.gcd_comm] at c5; rw [Nat.gcd_comm]; first | exact c5 | (rw [Nat.gcd_comm]; exact c5)
    · rw [if_neg (by rw [decide_eq_false (by omega)]; decide)]
      exact ⟨1, n, left, by omega, by omega, by omega, by omega, rfl⟩
/-- The product of denominators. -/
def prd : List Nat → Nat
  | [] => 1
  | d :: l => d * prd l
theorem prd_snoc (l : List Nat) (d : Nat) : prd (l ++ [d]) = prd l * d := by
  induction l with
  | nil => simp [prd]
  | cons e l ih => rw [List.cons_append, prd, prd, ih, Nat.mul_assoc]
theorem prd_pos {l : List Nat} (h : ∀ d ∈ l, 0 < d) : 0 < prd l := by
  induction l with
  | nil => decide
  | cons d l ih => rw [prd]; exact Nat.mul_pos (h d (by simp)) (ih fun x hx => h x (by simp [hx]))
def ints (l : List Nat) : List Int := l.map fun (d : Nat) => ((d : Nat) : Int)
theorem low_j1 {m : Bool} {n T : Nat} {d : Int} (hg : Nat.gcd n T = 1) (hT : 0 < T) (h1 : T ≤ 2147483647 → d = T) (h2 : 2147483647 < T → 2147483647 < d) (hl : (big n).length < LN) : m_ref01_lowest_j1 m (big n) d = some (sg m (lowS n T)) := by
  unfold m_ref01_lowest_j1
  have hb := nv_bd (big_dg n)
  rw [big_nv] at hb
  have err : ¬ (n ≤ 2147483647 ∧ T ≤ 2147483647) → some ((⟨0, 0⟩, 3) : GVal × Int) = some (sg m (lowS n T)) := fun h => by
    unfold lowS sg
    rw [hg, Nat.div_one, Nat.div_one, if_neg h]
    cases m <;> rfl
  by_cases hT2 : T ≤ 2147483647
  · have hd := h1 hT2
    subst hd
    by_cases hn1 : 1 < (big n).length
    · rw [if_pos (by simp only [Bool.or_eq_true, decide_eq_true_eq]; omega)]
      refine err fun h => ?_
      have hn0 : n ≠ 0 := fun e => by subst e; rw [big_zero] at hn1; simp at hn1
      have h3 := big_len_ge hn0
      have h4 := bp_le (show 1 ≤ (big n).length - 1 by omega)
      have h5 : bp 1 = 4294967296 := rfl
      omega
    · rw [if_neg (by simp only [Bool.or_eq_true, decide_eq_true_eq]; omega)]
      by_cases hn0 : n = 0
      · subst hn0
        rw [Nat.gcd_zero_left] at hg
        subst hg
        rw [big_zero]
        unfold lowS sg
        cases m <;> simp
      · have hne : big n ≠ [] := fun e => hn0 (big_nil.1 e)
        have hlen : 0 < (big n).length := List.length_pos_iff.2 hne
        have h3 : (big n).length = 1 := by omega
        rw [h3] at hb
        have h5 : bp 1 = 4294967296 := rfl
        have e0 : lat (big n) 0 = some (n : Int) := by
          rw [big_pos hn0, show n % 4294967296 = n by omega]; rfl
        rw [if_neg (by simp; exact hne), e0, Option.bind_some, ref01_made (by omega) hT hT2]
        rfl
  · have hd := h2 (by omega)
    rw [if_pos (by simp only [Bool.or_eq_true, decide_eq_true_eq]; omega)]
    exact err fun h => hT2 h.2
theorem low_l1 {m : Bool} {ds : List Nat} (hl : ds.length ≤ 40) (hd : ∀ d ∈ ds, 0 < d ∧ d ≤ 2147483647) : ∀ (f : Nat) (n T i : Nat) (d : Int), i ≤ ds.length → ds.length - i < f → Nat.gcd n T = 1 → 0 < T → (T ≤ 2147483647 → d = T) → (2147483647 < T → 2147483647 < d) → 0 ≤ d ∧ d ≤ 4611686014132420609 → (big n).length < LN →
    ∃ n' T' : Nat, 0 < T' ∧ n * T' = n' * (T * prd (ds.drop i)) ∧ m_ref01_lowest_l1 (ints ds) m f (big n) d i = some (sg m (lowS n' T')) := by
  intro f
  induction f with
  | zero => intro n T i d _ h; omega
  | succ f ih =>
    intro n T i d hi hf hg hT h1 h2 hdb hln
    rw [m_ref01_lowest_l1]
    have hlen : (ints ds).length = ds.length := by simp [ints]
    rw [hlen]
    by_cases h : i < ds.length
    · have e0 : lat (ints ds) (i : Int) = some ((ds[i] : Nat) : Int) := by unfold lat; rw [if_pos (by omega)]; simp [ints, h]
      have hx := hd ds[i] (List.getElem_mem h)
      rw [e0, List.drop_eq_getElem_cons h, prd]
      generalize ds[i] = x at hx
      simp only [show decide ((i : Int) < (ds.length : Int)) = true by simp; exact h, if_true, Option.bind_some]
      have hmod : n % x < x := Nat.mod_lt _ hx.1
      rw [ref01_rest hln hx.1 (by omega), Option.bind_some, ref01_gcd (by omega) (by omega) (by omega), Option.bind_some, Int.gcd_natCast_natCast]
      have eg : Nat.gcd (n % x) x = Nat.gcd n x := by rw [← Nat.gcd_rec, Nat.gcd_comm]
      rw [eg]
      obtain ⟨c, n', x', c1, c2, c3, c4, c5⟩ := low_l2 (d2 := d) (self := m_ref01_lowest_l1 (ints ds) m f) (i := i) fu x n (by unfold fu; omega) hx.1 hx.2 hln
      rw [c5]
      have hx'0 : 0 < x' := Nat.pos_of_ne_zero fun e => by subst e; simp at c3; omega
      have hx'1 : x' ≤ x := by rw [c3]; exact Nat.le_mul_of_pos_left _ c1
      have hn' : n' ≤ n := by rw [c2]; exact Nat.le_mul_of_pos_left _ c1
      have hln' : (big n').length < LN := Nat.lt_of_le_of_lt (len_le hn') hln
      have hgT : Nat.gcd n' (T * x') = 1 := by
        have h3 : Nat.Coprime n' T := by
          refine Nat.Coprime.coprime_dvd_left (Nat.dvd_mul_left n' c) ?_
          rw [← c2]; exact hg
        exact Nat.Coprime.mul_right h3 c4
      have e2 : wi64 ((i : Int) + 1) = ((i + 1 : Nat) : Int) := by rw [wi ⟨by omega, by omega⟩]; omega
      have fin : ∀ d', (T * x' ≤ 2147483647 → d' = ((T * x' : Nat) : Int)) → (2147483647 < T * x' → 2147483647 < d') → 0 ≤ d' ∧ d' ≤ 4611686014132420609 → ∃ n'' T' : Nat, 0 < T' ∧ n * T' = n'' * (T * (x * prd (ds.drop (i + 1)))) ∧ m_ref01_lowest_j2 (m_ref01_lowest_l1 (ints ds) m f) i (big n') d' = some (sg m (lowS n'' T')) := fun d' k1 k2 k3 => by
        obtain ⟨n2, T2, q1, q2, q3⟩ := ih n' (T * x') (i + 1) d' (by omega) (by omega) hgT (Nat.mul_pos hT hx'0) k1 k2 k3 hln'
        refine ⟨n2, T2, q1, ?_, ?_⟩
        · rw [c2, c3]
          have : c * (n' * T2) = c * (n2 * (T * x' * prd (ds.drop (i + 1)))) := by rw [q2]
          generalize prd (ds.drop (i + 1)) = w at *
          grind
        · unfold m_ref01_lowest_j2; rw [e2]; exact q3
      unfold m_ref01_lowest_j3
      by_cases hdM : d ≤ 2147483647
      · have hTM : T ≤ 2147483647 := by
          rcases Nat.lt_or_ge 2147483647 T with h | h
          · have := h2 h; omega
          · exact h
        have hdT := h1 hTM
        subst hdT
        have hm : T * x' ≤ 2147483647 * 2147483647 := Nat.mul_le_mul hTM (by omega)
        rw [if_pos (by simpa using hdM), show (T : Int) * (x' : Int) = ((T * x' : Nat) : Int) by push_cast; rfl, wu (p := ((T * x' : Nat) : Int)) ⟨by omega, by omega⟩]
        exact fin _ (fun _ => rfl) (fun h => by omega) ⟨by omega, by omega⟩
      · have hTM : 2147483647 < T := by
          rcases Nat.lt_or_ge 2147483647 T with h | h
          · exact h
          · have := h1 h; omega
        have hTx : T ≤ T * x' := Nat.le_mul_of_pos_right _ hx'0
        rw [if_neg (by simpa using hdM)]
        exact fin _ (fun h => by omega) (fun _ => by omega) hdb
    · have e : ds.drop i = [] := List.drop_eq_nil_of_le (by omega)
      simp only [show decide ((i : Int) < (ds.length : Int)) = false by simp; omega, Bool.false_eq_true, if_false]
      rw [e]
      exact ⟨n, T, hT, by simp [prd], low_j1 hg hT h1 h2 hln⟩
theorem ref01_lowest {m : Bool} {n : Nat} {ds : List Nat} (hl : ds.length ≤ 40) (hd : ∀ d ∈ ds, 0 < d ∧ d ≤ 2147483647) (hln : (big n).length < LN) : m_ref01_lowest m (big n) (ints ds) = some (sg m (lowS n (prd ds))) := by
  unfold m_ref01_lowest
  obtain ⟨n', T', q1, q2, q3⟩ := low_l1 (m := m) hl hd fu n 1 0 1 (by omega) (by unfold fu; omega) (Nat.gcd_one_right n) (by decide) (fun _ => rfl) (fun h => by omega) ⟨by omega, by omega⟩ hln
  rw [show ((0 : Nat) : Int) = 0 from rfl] at q3
  rw [q3, lowS_congr (a := n) (b := prd ds) (a' := n') (b' := T') (prd_pos fun d hx => (hd d hx).1) q1 (by rw [q2, List.drop_zero, Nat.one_mul])]
theorem rSum_j2 {U D : Nat} {ds : List Nat} (h1 : (big U).length < LN) (h2 : (big D).length < LN) (hl : ds.length ≤ 40) (hd : ∀ d ∈ ds, 0 < d ∧ d ≤ 2147483647) : m_ref01_Sum_j2 (big U) (big D) (ints ds) = some (lowZ ((U : Int) - D) (prd ds)) := by
  unfold m_ref01_Sum_j2 lowZ
  rw [ref01_below h1 h2, Option.bind_some]
  by_cases h : U < D
  · rw [if_pos (by simpa using h), ref01_less h2 h1 (by omega), Option.bind_some, ref01_lowest hl hd (Nat.lt_of_le_of_lt (len_le (by omega)) h2), if_pos (by omega), show ((U : Int) - D).natAbs = D - U by omega]
    rfl
  · rw [if_neg (by simpa using h), ref01_less h1 h2 (by omega), Option.bind_some, ref01_lowest hl hd (Nat.lt_of_le_of_lt (len_le (by omega)) h1), if_neg (by omega), show ((U : Int) - D).natAbs = U - D by omega]
    rfl
theorem rsum_step {v : GVal} {a d : Nat} {p q : Int} (hv : v.D = d) (hd : 0 < d) (ha : 0 < a) (hq : q = p * d + a * v.N) : Rat.divInt q ((a * d : Nat) : Int) = Rat.divInt p a + toR v := by
  have hab : (a : Int) * (d : Int) ≠ 0 := Int.mul_ne_zero (by omega) (by omega)
  unfold toR
  rw [hv, Rat.divInt_add_divInt _ _ (by omega) (by omega), Rat.divInt_eq_divInt_iff (by push_cast; exact hab) (Int.mul_ne_zero (by omega) (by omega)), hq]
  push_cast
  grind
theorem rSum_run {l : List GVal} (hl : l.length ≤ 40) (hok : allOK l = true) : ∀ (f : Nat) (u n a i : Nat) (ds : List Nat), i ≤ l.length → l.length - i < f → ds.length = i → (∀ d ∈ ds, 0 < d ∧ d ≤ 2147483647) → a = prd ds → (u : Int) < bp (i + 1) → (n : Int) < bp (i + 1) → (a : Int) < bp (i + 1) →
    ∃ (p : Int) (A : Nat), 0 < A ∧ m_ref01_Sum_l1 l f (big u) (big n) (ints ds) (big a) i = some (lowZ p A) ∧ Rat.divInt p A = Rat.divInt ((u : Int) - n) a + qsum (l.drop i) := by
  intro f
  induction f with
  | zero => intro u n a i ds _ h; omega
  | succ f ih =>
    intro u n a i ds hi hf hdl hds ha hu hn haa
    have lu := big_len_lt u _ hu
    have ln := big_len_lt n _ hn
    have la := big_len_lt a _ haa
    have lu' : (big u).length < LN := by show _ < 2147483648; omega
    have ln' : (big n).length < LN := by show _ < 2147483648; omega
    have la' : (big a).length < LN := by show _ < 2147483648; omega
    have ha0 : 0 < a := by rw [ha]; exact prd_pos fun d hx => (hds d hx).1
    rw [m_ref01_Sum_l1]
    by_cases h : i < l.length
    · have e0 : lat l (i : Int) = some l[i] := by unfold lat; rw [if_pos (by omega)]; simp [h]
      have hv : frOK l[i] = true := List.all_eq_true.1 hok _ (List.getElem_mem h)
      rw [e0, List.drop_eq_getElem_cons h]
      generalize l[i] = v at hv
      obtain ⟨a1, a2, a3, a4, a5⟩ := frOK_bd hv
      obtain ⟨d, hd⟩ : ∃ d : Nat, v.D = d := ⟨v.D.toNat, by omega⟩
      have hmag : (if v.N < 0 then -v.N else v.N) = (v.N.natAbs : Int) := by split <;> omega
      simp only [show decide ((i : Int) < (l.length : Int)) = true by simp; exact h, if_true, Option.bind_some, hd]
      rw [wu (p := (d : Int)) ⟨by omega, by omega⟩]
      simp only [ref01_times lu' (show d < 4294967296 by omega), ref01_times ln' (show d < 4294967296 by omega), Option.bind_some, ref01_size (n := v.N) ⟨by omega, by omega⟩, hmag, ref01_times la' (show v.N.natAbs < 4294967296 by omega)]
      have bnd : ∀ x : Nat, (x : Int) < bp (i + 1) → ((x * d : Nat) : Int) < 2147483648 * bp (i + 1) := fun x hx => by
        have h1 : (x : Int) * d ≤ x * 2147483647 := Int.mul_le_mul_of_nonneg_left (by omega) (by omega)
        push_cast; omega
      have bterm : ((a * v.N.natAbs : Nat) : Int) < 2147483648 * bp (i + 1) := by
        have h1 : (a : Int) * (v.N.natAbs : Nat) ≤ a * 2147483647 := Int.mul_le_mul_of_nonneg_left (by omega) (by omega)
        rw [Int.natCast_mul]; omega
      have bu' := bnd u hu
      have bn' := bnd n hn
      have ba' := bnd a haa
      have bpp := bp_pos (i + 1)
      have L : ∀ x : Nat, (x : Int) < 4294967296 * bp (i + 1) → (big x).length < LN := fun x hx => by
        have := big_len_lt x (i + 2) (by rw [bp_succ]; exact hx)
        show _ < 2147483648; omega
      have e2 : wi64 ((i : Int) + 1) = ((i + 1 : Nat) : Int) := by rw [wi ⟨by omega, by omega⟩]; omega
      have e3 : lapp (ints ds) [(d : Int)] = some (ints (ds ++ [d])) := by
        unfold lapp; rw [if_pos (by simp [ints]; show ds.length + 1 ≤ 4294967296; omega)]; simp [ints]
      have hds' : ∀ x ∈ ds ++ [d], 0 < x ∧ x ≤ 2147483647 := fun x hx => by
        rcases List.mem_append.1 hx with h | h
        · exact hds x h
        · simp at h; subst h; omega
      by_cases hpos : 0 < v.N
      · rw [if_pos (by simpa using hpos), ref01_plus (L _ (by omega)) (L _ (by omega)), Option.bind_some]
        unfold m_ref01_Sum_j3
        rw [hd, wu (p := (d : Int)) ⟨by omega, by omega⟩, ref01_times la' (show d < 4294967296 by omega), Option.bind_some, e3, Option.bind_some, e2]
        obtain ⟨p, A, q1, q2, q3⟩ := ih (u * d + a * v.N.natAbs) (n * d) (a * d) (i + 1) (ds ++ [d]) (by omega) (by omega) (by simp [hdl]) hds' (by rw [prd_snoc, ha]) (by rw [bp_succ]; omega) (by rw [bp_succ]; omega) (by rw [bp_succ]; omega)
        refine ⟨p, A, q1, q2, ?_⟩
        rw [q3, qsum, ← Rat.add_assoc]
        congr 1
        exact rsum_step hd (by omega) ha0 (by
          push_cast
          rw [show ((v.N.natAbs : Nat) : Int) = v.N by omega] at *
          grind)
      · rw [if_neg (by simpa using hpos), ref01_plus (L _ (by omega)) (L _ (by omega)), Option.bind_some]
        unfold m_ref01_Sum_j3
        rw [hd, wu (p := (d : Int)) ⟨by omega, by omega⟩, ref01_times la' (show d < 4294967296 by omega), Option.bind_some, e3, Option.bind_some, e2]
        obtain ⟨p, A, q1, q2, q3⟩ := ih (u * d) (n * d + a * v.N.natAbs) (a * d) (i + 1) (ds ++ [d]) (by omega) (by omega) (by simp [hdl]) hds' (by rw [prd_snoc, ha]) (by rw [bp_succ]; omega) (by rw [bp_succ]; omega) (by rw [bp_succ]; omega)
        refine ⟨p, A, q1, q2, ?_⟩
        rw [q3, qsum, ← Rat.add_assoc]
        congr 1
        exact rsum_step hd (by omega) ha0 (by
          push_cast
          rw [show ((v.N.natAbs : Nat) : Int) = -v.N by omega] at *
          grind)
    · have e : l.drop i = [] := List.drop_eq_nil_of_le (by omega)
      simp only [show decide ((i : Int) < (l.length : Int)) = false by simp; omega, Bool.false_eq_true, if_false]
      refine ⟨(u : Int) - n, a, ha0, ?_, ?_⟩
      · rw [ha]; exact rSum_j2 lu' ln' (by omega) hds
      · rw [e, qsum, Rat.add_zero]
theorem rSum_valid {l : List GVal} (hl : l.length ≤ 40) (hR : ∀ v ∈ l, VaR v) : ∀ (f i : Nat), i ≤ l.length → l.length - i < f → m_ref01_Sum_l2 l f i = if (l.drop i).all frOK = true then m_ref01_Sum_j1 l else some (⟨0, 0⟩, 1)
  | 0, _, _, h => absurd h (by omega)
  | f + 1, i, hi, hf => by
    rw [m_ref01_Sum_l2]
    by_cases h : i < l.length
    · have e0 : lat l (i : Int) = some l[i] := by unfold lat; rw [if_pos (by omega)]; simp [h]
      have hv := hR l[i] (List.getElem_mem h)
      rw [e0, List.drop_eq_getElem_cons h, List.all_cons]
      generalize l[i] = v at hv
      simp only [show decide ((i : Int) < (l.length : Int)) = true by simp; exact h, if_true, Option.bind_some, ref01_Valid hv]
      rw [show wi64 ((i : Int) + 1) = ((i + 1 : Nat) : Int) by rw [wi ⟨by omega, by omega⟩]; omega, rSum_valid hl hR f (i + 1) (by omega) (by omega)]
      cases frOK v <;> simp
    · have e : l.drop i = [] := List.drop_eq_nil_of_le (by omega)
      simp only [show decide ((i : Int) < (l.length : Int)) = false by simp; omega, Bool.false_eq_true, if_false]
      rw [e]; simp
theorem ref01_Sum {l : List GVal} (hl : l.length ≤ 40) (hR : ∀ v ∈ l, VaR v) : (allOK l = false → m_ref01_Sum l = some (⟨0, 0⟩, 1)) ∧ (allOK l = true → ∃ (p : Int) (b : Nat), 0 < b ∧ m_ref01_Sum l = some (lowZ p b) ∧ Rat.divInt p b = qsum l) := by
  unfold m_ref01_Sum
  have hv := rSum_valid hl hR fu 0 (by omega) (by unfold fu; omega)
  rw [show ((0 : Nat) : Int) = 0 from rfl, List.drop_zero] at hv
  rw [hv]
  constructor
  · intro h; unfold allOK at h; rw [h]; rfl
  · intro h
    have h' := h
    unfold allOK at h'
    rw [if_pos h']
    unfold m_ref01_Sum_j1
    obtain ⟨p, A, q1, q2, q3⟩ := rSum_run hl h fu 0 0 1 0 [] (by omega) (by unfold fu; omega) rfl (fun _ h => by simp at h) rfl (by decide) (by decide) (by decide)
    rw [show ((0 : Nat) : Int) = 0 from rfl, big_zero, show big 1 = [1] by rw [big_pos (by decide), show 1 / 4294967296 = 0 from rfl, big_zero]; rfl, show ints [] = [] from rfl] at q2
    refine ⟨p, A, q1, q2, ?_⟩
    rw [q3, List.drop_zero]
    have : Rat.divInt (((0 : Nat) : Int) - ((0 : Nat) : Int)) ((1 : Nat) : Int) = 0 := by rw [show ((0 : Nat) : Int) - ((0 : Nat) : Int) = 0 by omega, Rat.zero_divInt]
    rw [this, Rat.zero_add]
theorem lowZ_rat {p p' : Int} {b b' : Nat} (hb : 0 < b) (hb' : 0 < b') (h : Rat.divInt p b = Rat.divInt p' b') : lowZ p b = lowZ p' b' :=
  lowZ_congr hb hb' ((Rat.divInt_eq_divInt_iff (by omega) (by omega)).1 h)
theorem Sum_same {l l' : List GVal} (hl : l.length ≤ 40) (hl' : l'.length ≤ 40) (hR : ∀ v ∈ l, VaR v) (hR' : ∀ v ∈ l', VaR v) (ho : allOK l = allOK l') (hq : qsum l = qsum l') : m_frac_Sum l = m_frac_Sum l' ∧ ∃ r, m_frac_Sum l = some r := by
  obtain ⟨h1, h2⟩ := frac_Sum hl hR
  obtain ⟨g1, g2⟩ := frac_Sum hl' hR'
  cases h : allOK l
  · rw [h1 h, g1 (ho ▸ h)]; exact ⟨rfl, _, rfl⟩
  · obtain ⟨p, b, k1, k2, k3⟩ := h2 h
    obtain ⟨p', b', j1, j2, j3⟩ := g2 (ho ▸ h)
    rw [k2, j2, lowZ_rat k1 j1 (by rw [k3, j3, hq])]
    exact ⟨rfl, _, rfl⟩
theorem okL_VaR {l : List GVal} (h : okL okGVal l) : ∀ v ∈ l, VaR v := fun v hv => VaR.of (h.1 v hv)
theorem law_FracSum (l : List GVal) (h : okL okGVal l) : m_law01_FracSum l = some true := by
  unfold m_law01_FracSum
  rw [ex01]
  by_cases hl : 40 < l.length
  · rw [if_pos (decide_eq_true (by omega))]; rfl
  · rw [if_neg (by rw [decide_eq_false (by omega)]; decide)]
    obtain ⟨h1, h2⟩ := frac_Sum (l := l) (by omega) (okL_VaR h)
    obtain ⟨g1, g2⟩ := ref01_Sum (l := l) (by omega) (okL_VaR h)
    cases ho : allOK l
    · rw [h1 ho, g1 ho]; simp [gd]
    · obtain ⟨p, b, k1, k2, k3⟩ := h2 ho
      obtain ⟨p', b', j1, j2, j3⟩ := g2 ho
      rw [k2, j2, lowZ_rat k1 j1 (by rw [k3, j3])]
      simp [gd]

/-! ### The order of the summands -/
theorem qsum_app (a b : List GVal) : qsum (a ++ b) = qsum a + qsum b := by
  induction a with
  | nil => rw [List.nil_append, qsum, Rat.zero_add]
  | cons v a ih => rw [List.cons_append, qsum, qsum, ih, Rat.add_assoc]
theorem qsum_rev (a : List GVal) : qsum a.reverse = qsum a := by
  induction a with
  | nil => rfl
  | cons v a ih => rw [List.reverse_cons, qsum_app, ih, qsum, qsum, qsum, Rat.add_zero, Rat.add_comm]
def pairs : List GVal → List GVal
  | [] => []
  | v :: l => v :: neg v :: pairs l
theorem pairs_len (l : List GVal) : (pairs l).length = 2 * l.length := by
  induction l with
  | nil => rfl
  | cons v l ih => simp [pairs, ih]; omega
theorem pairs_app (a b : List GVal) : pairs (a ++ b) = pairs a ++ pairs b := by
  induction a with
  | nil => rfl
  | cons v a ih => simp [pairs, ih]
theorem pairs_zero {l : List GVal} (h : allOK l = true) : qsum (pairs l) = 0 := by
  induction l with
  | nil => rfl
  | cons v l ih =>
    unfold allOK at h
    simp only [List.all_cons, Bool.and_eq_true] at h
    rw [pairs, qsum, qsum, ih h.2, Rat.add_zero]
    obtain ⟨a1, _⟩ := frOK_bd h.1
    unfold toR neg
    rw [if_pos h.1]
    simp only
    rw [Rat.divInt_add_divInt _ _ (by omega) (by omega), show v.N * v.D + -v.N * v.D = 0 by grind, Rat.zero_divInt]
theorem pairs_ok {l : List GVal} (h : allOK l = true) : allOK (pairs l) = true := by
  induction l with
  | nil => rfl
  | cons v l ih =>
    unfold allOK at h ih ⊢
    simp only [List.all_cons, Bool.and_eq_true] at h
    simp only [pairs, List.all_cons, h.1, frOK_neg h.1, ih h.2, Bool.and_self]
theorem pairs_R {l : List GVal} (h : ∀ v ∈ l, VaR v) : ∀ v ∈ pairs l, VaR v := by
  induction l with
  | nil => intro v hv; simp [pairs] at hv
  | cons w l ih =>
    intro v hv
    simp only [pairs, List.mem_cons] at hv
    rcases hv with rfl | rfl | hv
    · exact h v (by simp)
    · exact neg_R w
    · exact ih (fun x hx => h x (by simp [hx])) v hv
theorem order_run {l : List GVal} {r2 : GVal × Int} (hl : l.length ≤ 20) (hR : ∀ v ∈ l, VaR v) : ∀ (f i : Nat) (back both : List GVal), i ≤ l.length → i < f → back.length ≤ 100 → both.length ≤ 100 → back.length + i ≤ 20 → both.length + 2 * i ≤ 40 →
    m_law01_FracSumOrder_l1 l r2 f back both ((i : Int) - 1) = m_law01_FracSumOrder_j1 r2 (back ++ (l.take i).reverse) (both ++ pairs (l.take i).reverse)
  | 0, _, _, _, _, h, _, _, _, _ => absurd h (by omega)
  | f + 1, 0, back, both, _, _, _, _, _, _ => by
    rw [m_law01_FracSumOrder_l1]; simp [pairs]
  | f + 1, i + 1, back, both, hi, hf, h1, h2, h3, h4 => by
    have h : i < l.length := by omega
    have e0 : lat l (i : Int) = some l[i] := by unfold lat; rw [if_pos (by omega)]; simp [h]
    have hv := hR l[i] (List.getElem_mem h)
    rw [m_law01_FracSumOrder_l1, show (((i + 1 : Nat) : Int) - 1) = (i : Int) by omega, e0, List.take_succ_eq_append_getElem h]
    generalize l[i] = v at hv
    have l1 : lapp back [v] = some (back ++ [v]) := by unfold lapp; rw [if_pos (by simp; show back.length + 1 ≤ 4294967296; omega)]
    have l2 : lapp both [v, neg v] = some (both ++ [v, neg v]) := by unfold lapp; rw [if_pos (by simp; show both.length + 2 ≤ 4294967296; omega)]
    simp only [show decide (0 ≤ (i : Int)) = true by simp, if_true, Option.bind_some, l1, frac_Neg hv, l2]
    rw [wi ⟨by omega, by omega⟩, order_run hl hR f i (back ++ [v]) (both ++ [v, neg v]) (by omega) (by omega) (by simp; omega) (by simp; omega) (by simp; omega) (by simp; omega)]
    congr 1
    · simp
    · simp [pairs_app, pairs]
theorem law_FracSumOrder (l : List GVal) (h : okL okGVal l) : m_law01_FracSumOrder l = some true := by
  unfold m_law01_FracSumOrder
  by_cases hl : 20 < l.length
  · rw [if_pos (decide_eq_true (by omega)), ex01]; rfl
  · rw [if_neg (by rw [decide_eq_false (by omega)]; decide)]
    have hR := okL_VaR h
    have hRr : ∀ v ∈ l.reverse, VaR v := fun v hv => hR v (List.mem_reverse.1 hv)
    have ho : allOK l = allOK l.reverse := by unfold allOK; rw [List.all_reverse]
    obtain ⟨e1, r, e2⟩ := Sum_same (l := l) (l' := l.reverse) (by omega) (by rw [List.length_reverse]; omega) hR hRr ho (qsum_rev l).symm
    rw [e2, Option.bind_some, wi ⟨by omega, by omega⟩, Option.bind_some, order_run (by omega) hR fu l.length [] [] (by omega) (by unfold fu; omega) (by simp) (by simp) (by simp; omega) (by simp; omega), List.take_length, List.nil_append, List.nil_append]
    unfold m_law01_FracSumOrder_j1
    rw [← e1, e2, ex01]
    have hpl : (pairs l.reverse).length ≤ 40 := by rw [pairs_len, List.length_reverse]; omega
    obtain ⟨g1, g2⟩ := frac_Sum hpl (pairs_R hRr)
    cases hok : allOK l
    · obtain ⟨k1, _⟩ := frac_Sum (l := l) (by omega) hR
      have hr := k1 hok
      rw [e2] at hr
      injection hr with hr
      subst hr
      cases hp : allOK (pairs l.reverse)
      · rw [g1 hp]; simp [gd]
      · obtain ⟨p, b, _, q2, _⟩ := g2 hp
        rw [q2]; simp [gd]
    · have hokr : allOK l.reverse = true := ho ▸ hok
      obtain ⟨p, b, q1, q2, q3⟩ := g2 (pairs_ok hokr)
      rw [pairs_zero hokr] at q3
      have hz : lowZ p b = (⟨0, 1⟩, 0) := by
        have h0 : Rat.divInt p b = Rat.divInt 0 ((1 : Nat) : Int) := by rw [q3, Rat.zero_divInt]
        rw [lowZ_rat q1 (by decide) h0]
        rfl
      rw [q2, hz]
      simp [gd]
end Go.Proofs.YtkmenmoiagkegaaDoor
