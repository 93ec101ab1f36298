import Derived.Test.YtlakfanockhngaaGreatDoorSUa
namespace Go.Proofs.YtlakfanockhngaaGreatDoor
open Go Go.RowKit Go.Vc
set_option linter.unusedVariables false
set_option linter.unusedSimpArgs false
def rnE {α : Type} (g : Nat → α × Int) : Nat → Int
 | 0 => 0
 | n + 1 => if rnE g n = 0 then (g n).2 else rnE g n
def rnL {α : Type} (g : Nat → α × Int) (n : Nat) : List α := (List.range n).map fun k => (g k).1
theorem rnE_zero {α : Type} {g : Nat → α × Int} : ∀ {V : Nat}, rnE g V = 0 → ∀ n, n < V → (g n).2 = 0
 | 0, _, n, hn => by omega
 | V + 1, h, n, hn => by
  rw [rnE] at h
  split at h
  ·rename_i h0
   rcases Nat.lt_or_ge n V with h' | h'
   ·exact rnE_zero h0 n h'
   ·obtain rfl : n = V := by omega
    exact h
  ·contradiction
theorem rnE_is {α : Type} {g : Nat → α × Int} {P : Int → Prop} (hP : ∀ n, P (g n).2) (h0 : P 0) : ∀ V, P (rnE g V)
 | 0 => h0
 | V + 1 => by
  rw [rnE]
  split
  ·exact hP V
  ·exact rnE_is hP h0 V
theorem rnL_len {α : Type} (g : Nat → α × Int) (n : Nat) : (rnL g n).length = n := by simp [rnL]
theorem rnL_succ {α : Type} (g : Nat → α × Int) (n : Nat) : rnL g (n + 1) = rnL g n ++ [(g n).1] := by simp [rnL, List.range_succ]
def linR {σ : Type} (g : Nat → σ → Int × σ) : Nat → σ → Int × σ
 | 0, s => (0, s)
 | n + 1, s => if (linR g n s).1 = 0 then g n (linR g n s).2 else linR g n s
theorem lin_pre {σ : Type} {g : Nat → σ → Int × σ} {s : σ} : ∀ {n j : Nat}, (linR g n s).1 = 0 → j ≤ n → (linR g j s).1 = 0
 | 0, j, h, hj => by
  obtain rfl : j = 0 := by omega
  rfl
 | n + 1, j, h, hj => by
  rcases Nat.lt_or_ge n j with h' | h'
  ·obtain rfl : j = n + 1 := by omega
   exact h
  ·rw [linR] at h
   split at h
   ·rename_i h0; exact lin_pre h0 h'
   ·contradiction
theorem lin_first {σ : Type} {g : Nat → σ → Int × σ} {s : σ} : ∀ {n : Nat}, (linR g n s).1 ≠ 0 → ∃ N, N < n ∧ (linR g N s).1 = 0 ∧ (g N (linR g N s).2).1 ≠ 0 ∧ linR g n s = g N (linR g N s).2
 | 0, h => absurd rfl h
 | n + 1, h => by
  rw [linR] at h ⊢
  by_cases h0 : (linR g n s).1 = 0
  ·rw [if_pos h0] at h ⊢
   exact ⟨n, by omega, h0, h, rfl⟩
  ·rw [if_neg h0]
   obtain ⟨N, h1, h2, h3, h4⟩ := lin_first h0
   exact ⟨N, by omega, h2, h3, h4⟩
theorem lin_succ {σ : Type} {g : Nat → σ → Int × σ} {s : σ} {n : Nat} (h : (linR g n s).1 = 0) : linR g (n + 1) s = g n (linR g n s).2 := by rw [linR, if_pos h]
theorem lines_ok {σ : Type} {d : List Int} {d1 d2 : List Nat} {m i : Nat} (hs : Shp d (d1 ++ m :: d2)) (hi : d1.length = i) (f : Int → Int → σ → Option (Int × σ)) (g : Nat → σ → Int × σ) (s0 : σ)
  (hf : ∀ o k, o < prd d1 → k < prd d2 → (linR g (o * prd d2 + k) s0).1 = 0 → f ((o * m * prd d2 + k : Nat) : Int) ((prd d2 : Nat) : Int) (linR g (o * prd d2 + k) s0).2 = some (g (o * prd d2 + k) (linR g (o * prd d2 + k) s0).2)) :
  m_tensor_lines_s d (i : Int) f s0 = some (linR g (prd d1 * prd d2) s0) := by
 have hle := hs.le
 have hpos := hs.pos
 obtain ⟨p1, p2'⟩ := Pos.app hpos
 have pm : 1 ≤ m := p2' m (by simp)
 have p2 : Pos d2 := fun x hx => p2' x (by simp [hx])
 have hO := prd_pos p1
 have hI := prd_pos p2
 have hpr : prd (d1 ++ m :: d2) = prd d1 * m * prd d2 := by rw [prd_app, prd, Nat.mul_assoc]
 rw [hpr] at hle
 have b1 : prd d1 * m ≤ prd d1 * m * prd d2 := Nat.le_mul_of_pos_right _ hI
 have b2 : prd d1 ≤ prd d1 * m := Nat.le_mul_of_pos_right _ pm
 have b3 : prd d2 ≤ prd d1 * m * prd d2 := Nat.le_mul_of_pos_left _ (Nat.mul_pos hO pm)
 unfold m_tensor_lines_s
 rw [split_ok hs hi, Option.bind_some]
 have hstart : ∀ o k, o < prd d1 → k < prd d2 → wi64 ((wi64 ((wi64 ((o : Int) * (m : Int))) * ((prd d2 : Nat) : Int))) + (k : Int)) = ((o * m * prd d2 + k : Nat) : Int) := fun o k ho hk => by
  have e1 : (o + 1) * m ≤ prd d1 * m := Nat.mul_le_mul_right _ ho
  rw [Nat.add_mul, Nat.one_mul] at e1
  have e2 : (o * m + 1) * prd d2 ≤ prd d1 * m * prd d2 := Nat.mul_le_mul_right _ (by omega)
  rw [Nat.add_mul, Nat.one_mul] at e2
  rw [wim (by omega), wim (by omega), wia (by omega)]
 have step : ∀ (self : Int → σ → Option (Int × σ)) (fl o k : Nat), o < prd d1 → k < prd d2 → (linR g (o * prd d2 + k) s0).1 = 0 →
   m_tensor_lines_s_l2 (((prd d1 : Nat) : Int), (m : Int), ((prd d2 : Nat) : Int)) f (o : Int) self (fl + 1) (k : Int) (linR g (o * prd d2 + k) s0).2 =
    if (g (o * prd d2 + k) (linR g (o * prd d2 + k) s0).2).1 = 0 then m_tensor_lines_s_l2 (((prd d1 : Nat) : Int), (m : Int), ((prd d2 : Nat) : Int)) f (o : Int) self fl ((k + 1 : Nat) : Int) (g (o * prd d2 + k) (linR g (o * prd d2 + k) s0).2).2
    else some (g (o * prd d2 + k) (linR g (o * prd d2 + k) s0).2) := fun self fl o k ho hk h0 => by
  simp only [m_tensor_lines_s_l2]
  rw [if_pos (lt_dec hk), hstart o k ho hk, hf o k ho hk h0, Option.bind_some]
  by_cases hg : (g (o * prd d2 + k) (linR g (o * prd d2 + k) s0).2).1 = 0
  ·simp only [hg, decide_true, Bool.not_true, Bool.false_eq_true, if_false, if_true]
   rw [wis (by omega)]
  ·simp only [hg, decide_false, Bool.not_false, if_true, if_false]
 have row : ∀ (self : Int → σ → Option (Int × σ)) (o : Nat), o < prd d1 → (linR g (o * prd d2 + prd d2) s0).1 = 0 → m_tensor_lines_s_l2 (((prd d1 : Nat) : Int), (m : Int), ((prd d2 : Nat) : Int)) f (o : Int) self fu 0 (linR g (o * prd d2) s0).2 = self ((o + 1 : Nat) : Int) (linR g (o * prd d2 + prd d2) s0).2 := fun self o ho h0 => by
  refine loop_eq (L := fun fl s k => m_tensor_lines_s_l2 (((prd d1 : Nat) : Int), (m : Int), ((prd d2 : Nat) : Int)) f (o : Int) self fl k s) (n := prd d2) (by omega) (fun k s => s = (linR g (o * prd d2 + k) s0).2) ?_ ?_ _ rfl
  ·rintro fl k s hk rfl
   left
   have h1 := lin_pre h0 (show o * prd d2 + (k + 1) ≤ o * prd d2 + prd d2 by omega)
   have h2 := lin_pre h0 (show o * prd d2 + k ≤ o * prd d2 + prd d2 by omega)
   rw [← Nat.add_assoc, lin_succ h2] at h1
   exact ⟨_, by rw [← Nat.add_assoc, lin_succ h2], by rw [step self fl o k ho hk h2, if_pos h1]⟩
  ·rintro fl s rfl
   simp only [m_tensor_lines_s_l2]
   rw [if_neg (by simp), m_tensor_lines_s_j1, wis (by omega)]
 by_cases hR : (linR g (prd d1 * prd d2) s0).1 = 0
 ·refine loop_eq (L := fun fl s o => m_tensor_lines_s_l1 (((prd d1 : Nat) : Int), (m : Int), ((prd d2 : Nat) : Int)) f fl o s) (n := prd d1) (by omega) (fun o s => s = (linR g (o * prd d2) s0).2) ?_ ?_ s0 (by simp [linR])
  ·rintro fl o s ho rfl
   left
   have hle2 : (o + 1) * prd d2 ≤ prd d1 * prd d2 := Nat.mul_le_mul_right _ ho
   have e : (o + 1) * prd d2 = o * prd d2 + prd d2 := by rw [Nat.add_mul, Nat.one_mul]
   refine ⟨_, rfl, ?_⟩
   simp only [m_tensor_lines_s_l1]
   rw [if_pos (lt_dec ho), row _ o ho (by rw [← e]; exact lin_pre hR hle2), e]
  ·rintro fl s rfl
   simp only [m_tensor_lines_s_l1]
   rw [if_neg (by simp)]
   rw [← hR]
 ·obtain ⟨N, n1, n2, n3, n4⟩ := lin_first hR
  have hoN : N / prd d2 < prd d1 := (Nat.div_lt_iff_lt_mul hI).2 n1
  have hkN : N % prd d2 < prd d2 := Nat.mod_lt _ hI
  have eN : N / prd d2 * prd d2 + N % prd d2 = N := by rw [Nat.mul_comm]; exact Nat.div_add_mod _ _
  rw [n4]
  refine loop_eq (L := fun fl s o => m_tensor_lines_s_l1 (((prd d1 : Nat) : Int), (m : Int), ((prd d2 : Nat) : Int)) f fl o s) (n := N / prd d2) (by omega) (fun o s => s = (linR g (o * prd d2) s0).2) ?_ ?_ s0 (by simp [linR])
  ·rintro fl o s ho rfl
   left
   have hle2 : (o + 1) * prd d2 ≤ N / prd d2 * prd d2 := Nat.mul_le_mul_right _ ho
   have e : (o + 1) * prd d2 = o * prd d2 + prd d2 := by rw [Nat.add_mul, Nat.one_mul]
   refine ⟨_, rfl, ?_⟩
   simp only [m_tensor_lines_s_l1]
   rw [if_pos (lt_dec (by omega)), row _ o (by omega) (lin_pre n2 (by omega)), e]
  ·rintro fl s rfl
   simp only [m_tensor_lines_s_l1]
   rw [if_pos (lt_dec hoN)]
   refine loop_eq (L := fun fl' s k => m_tensor_lines_s_l2 (((prd d1 : Nat) : Int), (m : Int), ((prd d2 : Nat) : Int)) f ((N / prd d2 : Nat) : Int) (m_tensor_lines_s_l1 (((prd d1 : Nat) : Int), (m : Int), ((prd d2 : Nat) : Int)) f fl) fl' k s) (n := N % prd d2) (by omega) (fun k s => s = (linR g (N / prd d2 * prd d2 + k) s0).2) ?_ ?_ _ rfl
   ·rintro fl' k s hk rfl
    left
    have h1 := lin_pre n2 (show N / prd d2 * prd d2 + (k + 1) ≤ N by omega)
    have h2 := lin_pre n2 (show N / prd d2 * prd d2 + k ≤ N by omega)
    rw [← Nat.add_assoc, lin_succ h2] at h1
    exact ⟨_, by rw [← Nat.add_assoc, lin_succ h2], by rw [step _ fl' (N / prd d2) k hoN (by omega) h2, if_pos h1]⟩
   ·rintro fl' s rfl
    rw [step _ fl' (N / prd d2) (N % prd d2) hoN hkN (by rw [eN]; exact n2), eN, if_neg n3]
theorem num_join {m I o c k : Nat} (hc : c < m) (hk : k < I) : ((o * m + c) * I + k) % I = k ∧ (((o * m + c) * I + k) / I) % m = c ∧ ((o * m + c) * I + k) / (m * I) = o := by
 have hI : 0 < I := by omega
 have hm : 0 < m := by omega
 have e1 : ((o * m + c) * I + k) / I = o * m + c := by
  rw [Nat.mul_comm, Nat.mul_add_div hI, Nat.div_eq_of_lt hk, Nat.add_zero]
 refine ⟨by rw [Nat.mul_comm, Nat.mul_add_mod, Nat.mod_eq_of_lt hk], ?_, ?_⟩
 ·rw [e1, Nat.mul_comm, Nat.mul_add_mod, Nat.mod_eq_of_lt hc]
 ·rw [Nat.mul_comm m I, ← Nat.div_div_eq_div_mul, e1, Nat.mul_comm, Nat.mul_add_div hm, Nat.div_eq_of_lt hc, Nat.add_zero]
theorem num_inj {m I o c k o' c' k' : Nat} (hc : c < m) (hk : k < I) (hc' : c' < m) (hk' : k' < I) (h : (o * m + c) * I + k = (o' * m + c') * I + k') : o = o' ∧ c = c' ∧ k = k' := by
 obtain ⟨a1, a2, a3⟩ := num_join (o := o) hc hk
 obtain ⟨b1, b2, b3⟩ := num_join (o := o') hc' hk'
 rw [h] at a1 a2 a3
 exact ⟨by rw [← a3, b3], by rw [← a2, b2], by rw [← a1, b1]⟩
theorem num_lt {O m I o c k : Nat} (ho : o < O) (hc : c < m) (hk : k < I) : (o * m + c) * I + k < O * m * I := by
 have e1 : (o + 1) * m ≤ O * m := Nat.mul_le_mul_right _ ho
 rw [Nat.add_mul, Nat.one_mul] at e1
 have e2 : (o * m + c + 1) * I ≤ O * m * I := Nat.mul_le_mul_right _ (by omega)
 rw [Nat.add_mul, Nat.one_mul] at e2
 omega
def lnX (v : List GVal) (m I j c : Nat) : GVal := (v[(j / I * m + c) * I + j % I]?).getD ⟨0, 0⟩
def prS (ty : GType) (x : Nat → GVal) : Nat → GVal × Int
 | 0 => (x 0, 0)
 | c + 1 => if (prS ty x c).2 = 0 then (m_value_Apply 4 ty (prS ty x c).1 (x (c + 1))).getD (⟨0, 0⟩, 0) else prS ty x c
theorem Apply_add {t : GType} {a b : GVal} (ht : tyB t = true) (ha : okV t a = true) (hb : okV t b = true) :
  ∃ q e, m_value_Apply 4 t a b = some (q, e) ∧ ((e = 0 ∧ okV t q = true) ∨ (e = 3 ∧ q = ⟨0, 0⟩)) := by
 by_cases k2 : t.Kind = 2
 ·have fa := frOK_of ht ha
  have fb := frOK_of ht hb
  obtain ⟨a1, a2, a3⟩ := okV_fix ht k2 ha
  obtain ⟨b1, b2, b3⟩ := okV_fix ht k2 hb
  unfold m_value_Apply m_value_Apply_j1
  rw [value_ValidateType, value_Valid (frVaR fa), value_Valid (frVaR fb)]
  simp only [show (decide ((4 : Int) < 4) || decide ((10 : Int) < 4)) = false from rfl, show decide ((4 : Int) = 8) = false from rfl, show decide ((4 : Int) = 9) = false from rfl, show decide ((4 : Int) = 10) = false from rfl, ht, ha, hb, gd, Bool.and_self, Bool.not_true, Bool.not_false, if_true, Bool.or_self, Bool.false_eq_true, if_false, Option.bind_some, decide_true, bind_pair]
  have hA : m_value_arithmetic 4 t a b = some (⟨nar t (a.N + b.N), 1⟩, 0) := by
   have hs : wi64 (a.N + b.N) = a.N + b.N := wi ⟨by omega, by omega⟩
   unfold m_value_arithmetic
   simp only [k2, show decide ((2 : Int) = 3) = false from rfl, decide_true, Bool.and_true, Bool.and_self, Bool.false_eq_true, if_false, bind_pair, if_true, m_fixed_Add]
   rw [fixed_apply ht k2 ha hb (n := a.N + b.N) (e := 0) (by simp only [m_fixed_Add_1, hs])]; rfl
  rw [hA]
  exact ⟨_, _, rfl, .inl ⟨rfl, okV_nar ht k2 _⟩⟩
 ·obtain ⟨q, e, h1, h2⟩ := Apply_exact (op := 4) (.inl rfl) ht k2 ha hb
  refine ⟨q, e, h1, ?_⟩
  rcases h2 with h2 | ⟨h2, h3, _⟩
  ·exact .inr h2
  ·exact .inl ⟨h2, h3⟩
theorem prS_ok {ty : GType} {x : Nat → GVal} (ht : tyB ty = true) : ∀ (c : Nat), (∀ k, k ≤ c → okV ty (x k) = true) → ((prS ty x c).2 = 0 ∧ okV ty (prS ty x c).1 = true) ∨ ((prS ty x c).2 = 3 ∧ (prS ty x c).1 = ⟨0, 0⟩)
 | 0, hx => .inl ⟨rfl, hx 0 (by omega)⟩
 | c + 1, hx => by
  have ih := prS_ok ht c fun k hk => hx k (by omega)
  rw [prS]
  rcases ih with ⟨h0, h1⟩ | ⟨h0, h1⟩
  ·rw [if_pos h0]
   obtain ⟨q, e, h2, h3⟩ := Apply_add ht h1 (hx (c + 1) (by omega))
   rw [h2]; exact h3
  ·rw [if_neg (by omega)]; exact .inr ⟨h0, h1⟩
theorem prS_step {ty : GType} {x : Nat → GVal} (ht : tyB ty = true) {c : Nat} (hx : ∀ k, k ≤ c + 1 → okV ty (x k) = true) (h0 : (prS ty x c).2 = 0) : m_value_Apply 4 ty (prS ty x c).1 (x (c + 1)) = some (prS ty x (c + 1)) := by
 rcases prS_ok ht c fun k hk => hx k (by omega) with ⟨_, h1⟩ | ⟨h1, _⟩
 ·obtain ⟨q, e, h2, _⟩ := Apply_add ht h1 (hx (c + 1) (by omega))
  rw [prS, if_pos h0, h2]; rfl
 ·omega
theorem prS_pre {ty : GType} {x : Nat → GVal} : ∀ {n c : Nat}, (prS ty x n).2 = 0 → c ≤ n → (prS ty x c).2 = 0
 | 0, c, _, hc => by
  obtain rfl : c = 0 := by omega
  rfl
 | n + 1, c, h, hc => by
  rcases Nat.lt_or_ge n c with h' | h'
  ·obtain rfl : c = n + 1 := by omega
   exact h
  ·rw [prS] at h
   split at h
   ·rename_i h0; exact prS_pre h0 h'
   ·contradiction
theorem foldA_snoc {t : GType} (ht : tyB t = true) (y : GVal) (hy : okV t y = true) : ∀ (xs : List GVal) (x : GVal), okV t x = true → (∀ z ∈ xs, okV t z = true) → foldA 4 t x (xs ++ [y]) = (foldA 4 t x xs).bind fun r => if r.2 = 0 then m_value_Apply 4 t r.1 y else some r
 | [], x, hx, _ => by
  obtain ⟨q, e, h1, h2⟩ := Apply_add ht hx hy
  simp only [List.nil_append, foldA, Option.bind_some, if_true]
  rw [h1, Option.bind_some]
  rcases h2 with ⟨rfl, _⟩ | ⟨rfl, rfl⟩
  ·rfl
  ·rfl
 | z :: xs, x, hx, h => by
  obtain ⟨q, e, h1, h2⟩ := Apply_add ht hx (h z (by simp))
  rw [List.cons_append, foldA, foldA, h1, Option.bind_some, Option.bind_some]
  rcases h2 with ⟨rfl, h3⟩ | ⟨rfl, rfl⟩
  ·rw [if_pos rfl, if_pos rfl]
   exact foldA_snoc ht y hy xs q h3 fun w hw => h w (by simp [hw])
  ·rw [if_neg (by decide), if_neg (by decide), Option.bind_some, if_neg (by decide)]
theorem foldA_prS {ty : GType} {x : Nat → GVal} (ht : tyB ty = true) : ∀ c, (∀ k, k ≤ c → okV ty (x k) = true) → foldA 4 ty (x 0) ((List.range c).map fun k => x (k + 1)) = some (prS ty x c)
 | 0, _ => rfl
 | c + 1, hx => by
  have ih := foldA_prS ht c fun k hk => hx k (by omega)
  rw [List.range_succ, List.map_append, List.map_cons, List.map_nil, foldA_snoc ht (x (c + 1)) (hx (c + 1) (by omega)) _ _ (hx 0 (by omega)) (fun z hz => by
   obtain ⟨k, hk, rfl⟩ := List.mem_map.1 hz
   exact hx _ (by have := List.mem_range.1 hk; omega)), ih, Option.bind_some]
  by_cases h0 : (prS ty x c).2 = 0
  ·rw [if_pos h0, prS_step ht hx h0]
  ·rw [if_neg h0, prS, if_neg h0]
def lnL (v : List GVal) (m I j n : Nat) : List GVal := (List.range n).map fun c => lnX v m I j c
theorem lnL_succ (v : List GVal) (m I j n : Nat) : lnL v m I j (n + 1) = lnL v m I j n ++ [lnX v m I j n] := by simp [lnL, List.range_succ]
theorem lnL_len (v : List GVal) (m I j n : Nat) : (lnL v m I j n).length = n := by simp [lnL]
structure Geo (t : GTensor) (dn d1 d2 : List Nat) (i m : Nat) : Prop where
 ten : Ten t dn
 eq : dn = d1 ++ m :: d2
 len : d1.length = i
theorem Geo.facts {t : GTensor} {dn d1 d2 : List Nat} {i m : Nat} (h : Geo t dn d1 d2 i m) : 1 ≤ m ∧ 1 ≤ prd d1 ∧ 1 ≤ prd d2 ∧ t.Vals.length = prd d1 * m * prd d2 ∧ prd d1 * m * prd d2 ≤ 4096 ∧ lat t.Dims (i : Int) = some (m : Int) := by
 have hpos := h.ten.shp.pos
 have hle := h.ten.shp.le
 have hl := h.ten.len
 rw [h.eq] at hpos hle hl
 obtain ⟨p1, p2'⟩ := Pos.app hpos
 have hpr : prd (d1 ++ m :: d2) = prd d1 * m * prd d2 := by rw [prd_app, prd, Nat.mul_assoc]
 rw [hpr] at hle hl
 refine ⟨p2' m (by simp), prd_pos p1, prd_pos fun x hx => p2' x (by simp [hx]), hl, hle, ?_⟩
 rw [h.ten.shp.eq, h.eq]; exact mid_at h.len
theorem Geo.x {t : GTensor} {dn d1 d2 : List Nat} {i m : Nat} (h : Geo t dn d1 d2 i m) {o k c : Nat} (ho : o < prd d1) (hk : k < prd d2) (hc : c < m) : t.Vals[(o * m + c) * prd d2 + k]? = some (lnX t.Vals m (prd d2) (o * prd d2 + k) c) ∧ okV t.Type_ (lnX t.Vals m (prd d2) (o * prd d2 + k) c) = true := by
 obtain ⟨f1, f2, f3, f4, f5, f6⟩ := h.facts
 obtain ⟨x, hx⟩ := at_some (l := t.Vals) (i := (o * m + c) * prd d2 + k) (by rw [f4]; exact num_lt ho hc hk)
 have e1 : (o * prd d2 + k) / prd d2 = o := by rw [Nat.mul_comm, Nat.mul_add_div (by omega), Nat.div_eq_of_lt hk, Nat.add_zero]
 have e2 : (o * prd d2 + k) % prd d2 = k := by rw [Nat.mul_comm, Nat.mul_add_mod, Nat.mod_eq_of_lt hk]
 unfold lnX
 rw [e1, e2, hx]
 exact ⟨rfl, h.ten.ok x (List.mem_of_getElem? hx)⟩
theorem Geo.shp {t : GTensor} {dn d1 d2 : List Nat} {i m : Nat} (h : Geo t dn d1 d2 i m) : Shp t.Dims (d1 ++ m :: d2) := by rw [← h.eq]; exact h.ten.shp
theorem Geo.at_ {t : GTensor} {dn d1 d2 : List Nat} {i m : Nat} (h : Geo t dn d1 d2 i m) {o k c : Nat} (ho : o < prd d1) (hk : k < prd d2) (hc : c < m) : wi64 (((o * m * prd d2 + k : Nat) : Int) + wi64 ((c : Int) * ((prd d2 : Nat) : Int))) = (((o * m + c) * prd d2 + k : Nat) : Int) := by
 obtain ⟨f1, f2, f3, f4, f5, f6⟩ := h.facts
 have h1 := num_lt ho hc hk
 have e : (o * m + c) * prd d2 + k = o * m * prd d2 + k + c * prd d2 := by rw [Nat.add_mul]; omega
 rw [wim (by omega), wia (by omega), e]
def rdG (fold : Int) (ty : GType) (v : List GVal) (m I j : Nat) : GVal × Int := (m_value_Reduce fold ty (lnL v m I j m)).getD (⟨0, 0⟩, 0)
def reG (fold : Int) (ty : GType) (v : List GVal) (m I : Nat) (j : Nat) (s : GTensor) : Int × GTensor := ((rdG fold ty v m I j).2, ⟨s.Type_, s.Dims, s.Vals ++ [(rdG fold ty v m I j).1]⟩)
theorem re_lin {fold : Int} {ty : GType} {v : List GVal} {m I : Nat} {s : GTensor} (hs : s.Vals = []) : ∀ n, (linR (reG fold ty v m I) n s).1 = rnE (rdG fold ty v m I) n ∧ (rnE (rdG fold ty v m I) n = 0 → (linR (reG fold ty v m I) n s).2 = ⟨s.Type_, s.Dims, rnL (rdG fold ty v m I) n⟩)
 | 0 => ⟨rfl, fun _ => by cases s; simp only at hs; subst hs; rfl⟩
 | n + 1 => by
  obtain ⟨h1, h2⟩ := re_lin (fold := fold) (ty := ty) (v := v) (m := m) (I := I) hs n
  rw [linR, h1, rnE]
  by_cases h0 : rnE (rdG fold ty v m I) n = 0
  ·rw [if_pos h0, if_pos h0, h2 h0]
   exact ⟨rfl, fun _ => by rw [rnL_succ]; rfl⟩
  ·rw [if_neg h0, if_neg h0]
   exact ⟨h1, fun h => absurd h h0⟩
theorem reduce_line {t : GTensor} {dn d1 d2 : List Nat} {i m : Nat} (h : Geo t dn d1 d2 i m) {fold : Int} (hred : ∀ o k, o < prd d1 → k < prd d2 → ∃ r, m_value_Reduce fold t.Type_ (lnL t.Vals m (prd d2) (o * prd d2 + k) m) = some r) {o k : Nat} (ho : o < prd d1) (hk : k < prd d2) (s : GTensor) (hsl : s.Vals.length ≤ 4096) :
  m_tensor_Reduce_1_w ((o * m * prd d2 + k : Nat) : Int) ((prd d2 : Nat) : Int) t (i : Int) fold s = some (reG fold t.Type_ t.Vals m (prd d2) (o * prd d2 + k) s) := by
 obtain ⟨f1, f2, f3, f4, f5, f6⟩ := h.facts
 have hmle : m ≤ prd d1 * m * prd d2 := Nat.le_trans (Nat.le_mul_of_pos_left m f2) (Nat.le_mul_of_pos_right _ f3)
 unfold m_tensor_Reduce_1_w
 rw [f6, Option.bind_some]
 obtain ⟨r, hr⟩ := hred o k ho hk
 refine loop_eq (L := m_tensor_Reduce_1_w_l1 (m : Int) t ((o * m * prd d2 + k : Nat) : Int) ((prd d2 : Nat) : Int) fold s) (n := m) (by omega) (fun c l => l = lnL t.Vals m (prd d2) (o * prd d2 + k) c) ?_ ?_ [] rfl
 ·rintro f c l hc rfl
  left
  refine ⟨_, rfl, ?_⟩
  simp only [m_tensor_Reduce_1_w_l1]
  rw [if_pos (lt_dec hc), h.at_ ho hk hc, lat_at (h.x ho hk hc).1, Option.bind_some, lapp_ok (by rw [lnL_len]; simp; omega), Option.bind_some, wis (by omega), lnL_succ]
 ·rintro f l rfl
  simp only [m_tensor_Reduce_1_w_l1]
  rw [if_neg (by simp), m_tensor_Reduce_1_w_j1, hr, Option.bind_some, lapp_ok (by simp; omega), Option.bind_some]
  unfold reG rdG
  rw [hr]; rfl
def rest (dn : List Nat) (i : Nat) : List Nat := dn.take i ++ dn.drop (i + 1)
theorem tensor_Reduce {t : GTensor} {dn d1 d2 : List Nat} {i m : Nat} (h : Geo t dn d1 d2 i m) (hr : TeR t) {fold : Int} (hf : 1 ≤ fold ∧ fold ≤ 4) (hred : ∀ o k, o < prd d1 → k < prd d2 → ∃ r, m_value_Reduce fold t.Type_ (lnL t.Vals m (prd d2) (o * prd d2 + k) m) = some r) :
  m_tensor_Reduce t (i : Int) fold = some (if rnE (rdG fold t.Type_ t.Vals m (prd d2)) (prd d1 * prd d2) = 0 then (⟨t.Type_, ci (d1 ++ d2), rnL (rdG fold t.Type_ t.Vals m (prd d2)) (prd d1 * prd d2)⟩, 0) else (z0, rnE (rdG fold t.Type_ t.Vals m (prd d2)) (prd d1 * prd d2))) := by
 obtain ⟨f1, f2, f3, f4, f5, f6⟩ := h.facts
 have hdl := h.ten.shp.len
 have hlen : t.Dims.length = dn.length := by rw [h.ten.shp.eq, ci_len]
 have hil : i < dn.length := by rw [h.eq, List.length_append, List.length_cons, h.len]; omega
 have hOI : prd d1 * prd d2 ≤ 4096 := by
  have : prd d1 * prd d2 ≤ prd d1 * m * prd d2 := Nat.mul_le_mul_right _ (Nat.le_mul_of_pos_right _ f1)
  omega
 unfold m_tensor_Reduce
 rw [tensor_Validate hr (by omega) (by omega), Option.bind_some, h.ten.err, if_neg (by simp), if_neg (by simp; omega), if_neg (by simp; omega), if_neg (by simp; omega)]
 have hd : t.Dims = ci d1 ++ (m : Int) :: ci d2 := by rw [h.ten.shp.eq, h.eq, ci_app]; rfl
 have hu : lupto t.Dims (i : Int) = some (ci d1) := by
  unfold lupto
  rw [if_pos (by omega), Int.toNat_natCast, hd, List.take_left' (by rw [ci_len]; exact h.len)]
 have hfr : lfrom t.Dims (wi64 ((i : Int) + 1)) = some (ci d2) := by
  rw [wis (by omega)]
  unfold lfrom
  rw [if_pos (by omega), Int.toNat_natCast, hd, show ci d1 ++ (m : Int) :: ci d2 = (ci d1 ++ [(m : Int)]) ++ ci d2 by simp, List.drop_left' (by rw [List.length_append, ci_len, h.len]; rfl)]
 have h12 : d1.length + d2.length ≤ 6 := by have := hdl; rw [h.eq, List.length_append, List.length_cons] at this; omega
 rw [hu, Option.bind_some, lapp_nil (by rw [ci_len]; omega), Option.bind_some, hfr, Option.bind_some, lapp_ok (by rw [ci_len, ci_len]; omega), Option.bind_some]
 have hlin := re_lin (fold := fold) (ty := t.Type_) (v := t.Vals) (m := m) (I := prd d2) (s := ⟨t.Type_, ci d1 ++ ci d2, []⟩) rfl
 rw [lines_ok h.shp h.len (fun x_1 x_2 s => m_tensor_Reduce_1_w x_1 x_2 t (i : Int) fold s) (reG fold t.Type_ t.Vals m (prd d2)) ⟨t.Type_, ci d1 ++ ci d2, []⟩ (fun o k ho hk h0 => by
  have hj : o * prd d2 + k < prd d1 * prd d2 := by
   have : (o + 1) * prd d2 ≤ prd d1 * prd d2 := Nat.mul_le_mul_right _ ho
   rw [Nat.add_mul, Nat.one_mul] at this; omega
  refine reduce_line h hred ho hk _ ?_
  rw [(hlin (o * prd d2 + k)).1] at h0
  rw [(hlin (o * prd d2 + k)).2 h0]
  simp only [rnL_len]; omega)]
 obtain ⟨k1, k2⟩ := hlin (prd d1 * prd d2)
 simp only [Option.bind_some, k1]
 by_cases h0 : rnE (rdG fold t.Type_ t.Vals m (prd d2)) (prd d1 * prd d2) = 0
 ·rw [if_neg (by simp [h0]), if_pos h0, k2 h0, ci_app]
 ·rw [if_pos (by simp [h0]), if_neg h0]; rfl
theorem lnL_cons (v : List GVal) (m I j n : Nat) : lnL v m I j (n + 1) = lnX v m I j 0 :: (List.range n).map fun k => lnX v m I j (k + 1) := by
 unfold lnL
 rw [List.range_succ_eq_map, List.map_cons, List.map_map]; rfl
theorem sum_line {t : GTensor} {dn d1 d2 : List Nat} {i m : Nat} (h : Geo t dn d1 d2 i m) {o k : Nat} (ho : o < prd d1) (hk : k < prd d2) : m_value_Reduce 1 t.Type_ (lnL t.Vals m (prd d2) (o * prd d2 + k) m) = some (prS t.Type_ (lnX t.Vals m (prd d2) (o * prd d2 + k)) (m - 1)) := by
 obtain ⟨f1, f2, f3, f4, f5, f6⟩ := h.facts
 have hmle : m ≤ prd d1 * m * prd d2 := Nat.le_trans (Nat.le_mul_of_pos_left m f2) (Nat.le_mul_of_pos_right _ f3)
 have hx : ∀ c, c < m → okV t.Type_ (lnX t.Vals m (prd d2) (o * prd d2 + k) c) = true := fun c hc => (h.x ho hk hc).2
 obtain ⟨n, rfl⟩ : ∃ n, m = n + 1 := ⟨m - 1, by omega⟩
 rw [lnL_cons]
 have hall : ∀ y ∈ lnX t.Vals (n + 1) (prd d2) (o * prd d2 + k) 0 :: (List.range n).map (fun q => lnX t.Vals (n + 1) (prd d2) (o * prd d2 + k) (q + 1)), okV t.Type_ y = true := fun y hy => by
  rcases List.mem_cons.1 hy with rfl | hy
  ·exact hx 0 (by omega)
  ·obtain ⟨q, hq, rfl⟩ := List.mem_map.1 hy
   exact hx _ (by have := List.mem_range.1 hq; omega)
 rw [value_Reduce (op := 4) (by rw [value_operator]; rfl) h.ten.ty (fun y hy => frVaR (frOK_of h.ten.ty (hall y hy))) (by simp; omega), if_pos (List.all_eq_true.2 hall)]
 exact foldA_prS h.ten.ty n fun q hq => hx q (by omega)
def putY (ty : GType) (x : Nat → GVal) (p : Nat → Nat) (v : List GVal) : Nat → List GVal
 | 0 => v
 | n + 1 => (putY ty x p v n).set (p (n + 1)) (prS ty x (n + 1)).1
theorem putY_len (ty : GType) (x : Nat → GVal) (p : Nat → Nat) (v : List GVal) : ∀ n, (putY ty x p v n).length = v.length
 | 0 => rfl
 | n + 1 => by rw [putY, List.length_set, putY_len ty x p v n]
theorem putY_ne {ty : GType} {x : Nat → GVal} {p : Nat → Nat} {v : List GVal} {q : Nat} : ∀ n, (∀ c, 1 ≤ c → c ≤ n → p c ≠ q) → (putY ty x p v n)[q]? = v[q]?
 | 0, _ => rfl
 | n + 1, h => by rw [putY, List.getElem?_set_ne (h (n + 1) (by omega) (Nat.le_refl _)), putY_ne n fun c h1 h2 => h c h1 (by omega)]
theorem putY_get {ty : GType} {x : Nat → GVal} {p : Nat → Nat} {v : List GVal} {m : Nat} (hp : ∀ c c', c < m → c' < m → p c = p c' → c = c') (hlt : ∀ c, c < m → p c < v.length) (hv : ∀ c, c < m → v[p c]? = some (x c)) : ∀ n, n < m → ∀ c, c < m → (putY ty x p v n)[p c]? = some (if c ≤ n then (prS ty x c).1 else x c)
 | 0, hn, c, hc => by
  rw [putY, hv c hc]
  by_cases e : c ≤ 0
  ·obtain rfl : c = 0 := by omega
   rw [if_pos (by omega)]; rfl
  ·rw [if_neg e]
 | n + 1, hn, c, hc => by
  rw [putY]
  by_cases e : c = n + 1
  ·subst e
   rw [List.getElem?_set_self (by rw [putY_len]; exact hlt _ hc), if_pos (Nat.le_refl _)]
  ·rw [List.getElem?_set_ne (fun h => e (hp _ _ hn hc h).symm), putY_get hp hlt hv n (by omega) c hc]
   by_cases e2 : c ≤ n
   ·rw [if_pos e2, if_pos (by omega)]
   ·rw [if_neg e2, if_neg (by omega)]
theorem scan_line {t : GTensor} {dn d1 d2 : List Nat} {i m : Nat} (h : Geo t dn d1 d2 i m) {o k : Nat} (ho : o < prd d1) (hk : k < prd d2) (ty : GType) (D : List Int) (V : List GVal) (hV : V.length = t.Vals.length)
  (hx : ∀ c, c < m → V[(o * m + c) * prd d2 + k]? = some (lnX t.Vals m (prd d2) (o * prd d2 + k) c)) :
  ∃ r, m_tensor_scan_1_w ((o * m * prd d2 + k : Nat) : Int) ((prd d2 : Nat) : Int) t (i : Int) ⟨ty, D, V⟩ = some r ∧ r.1 = (prS t.Type_ (lnX t.Vals m (prd d2) (o * prd d2 + k)) (m - 1)).2 ∧
   (r.1 = 0 → r.2 = ⟨ty, D, putY t.Type_ (lnX t.Vals m (prd d2) (o * prd d2 + k)) (fun c => (o * m + c) * prd d2 + k) V (m - 1)⟩) := by
 obtain ⟨f1, f2, f3, f4, f5, f6⟩ := h.facts
 have hmle : m ≤ prd d1 * m * prd d2 := Nat.le_trans (Nat.le_mul_of_pos_left m f2) (Nat.le_mul_of_pos_right _ f3)
 have hok : ∀ c, c < m → okV t.Type_ (lnX t.Vals m (prd d2) (o * prd d2 + k) c) = true := fun c hc => (h.x ho hk hc).2
 have hget := putY_get (ty := t.Type_) (x := lnX t.Vals m (prd d2) (o * prd d2 + k)) (p := fun c => (o * m + c) * prd d2 + k) (v := V) (m := m) (fun c c' hc hc' e => (num_inj hc hk hc' hk e).2.1) (fun c hc => by rw [hV, f4]; exact num_lt ho hc hk) hx
 have step : ∀ (f n : Nat), n + 1 < m → (prS t.Type_ (lnX t.Vals m (prd d2) (o * prd d2 + k)) n).2 = 0 →
   m_tensor_scan_1_w_l1 t (i : Int) ((o * m * prd d2 + k : Nat) : Int) ((prd d2 : Nat) : Int) (f + 1) ((n + 1 : Nat) : Int) ⟨ty, D, putY t.Type_ (lnX t.Vals m (prd d2) (o * prd d2 + k)) (fun c => (o * m + c) * prd d2 + k) V n⟩ =
   if (prS t.Type_ (lnX t.Vals m (prd d2) (o * prd d2 + k)) (n + 1)).2 = 0 then m_tensor_scan_1_w_l1 t (i : Int) ((o * m * prd d2 + k : Nat) : Int) ((prd d2 : Nat) : Int) f ((n + 1 + 1 : Nat) : Int) ⟨ty, D, putY t.Type_ (lnX t.Vals m (prd d2) (o * prd d2 + k)) (fun c => (o * m + c) * prd d2 + k) V (n + 1)⟩
   else some ((prS t.Type_ (lnX t.Vals m (prd d2) (o * prd d2 + k)) (n + 1)).2, ⟨ty, D, putY t.Type_ (lnX t.Vals m (prd d2) (o * prd d2 + k)) (fun c => (o * m + c) * prd d2 + k) V n⟩) := fun f n hn h0 => by
  have hlt := num_lt ho hn hk
  have e1 : wi64 ((((o * m + (n + 1)) * prd d2 + k : Nat) : Int) - ((prd d2 : Nat) : Int)) = (((o * m + n) * prd d2 + k : Nat) : Int) := by
   have e : (o * m + (n + 1)) * prd d2 + k = (o * m + n) * prd d2 + k + prd d2 := by rw [← Nat.add_assoc, Nat.add_mul, Nat.one_mul]; omega
   rw [e, show (((o * m + n) * prd d2 + k + prd d2 : Nat) : Int) - ((prd d2 : Nat) : Int) = (((o * m + n) * prd d2 + k : Nat) : Int) by omega]
   exact wiN (by omega)
  have hg := hget n (by omega) n (by omega)
  rw [if_pos (Nat.le_refl _)] at hg
  simp only [m_tensor_scan_1_w_l1]
  rw [f6, Option.bind_some, if_pos (lt_dec hn), h.at_ ho hk hn, Option.bind_some, e1, lat_at hg, Option.bind_some, lat_at (h.x ho hk hn).1, Option.bind_some, prS_step h.ten.ty (fun q hq => hok q (by omega)) h0, Option.bind_some]
  by_cases hr : (prS t.Type_ (lnX t.Vals m (prd d2) (o * prd d2 + k)) (n + 1)).2 = 0
  ·rw [if_neg (by simp [hr]), if_pos hr, if_pos (by simp only [putY_len]; rw [hV, f4]; omega), Int.toNat_natCast, wis (by omega)]; rfl
  ·rw [if_pos (by simp [hr]), if_neg hr]
 unfold m_tensor_scan_1_w
 rw [show (1 : Int) = ((1 : Nat) : Int) from rfl]
 by_cases hR : (prS t.Type_ (lnX t.Vals m (prd d2) (o * prd d2 + k)) (m - 1)).2 = 0
 ·refine ⟨(0, ⟨ty, D, putY t.Type_ (lnX t.Vals m (prd d2) (o * prd d2 + k)) (fun c => (o * m + c) * prd d2 + k) V (m - 1)⟩), ?_, hR.symm, fun _ => rfl⟩
  refine loop_from (L := fun f s n => m_tensor_scan_1_w_l1 t (i : Int) ((o * m * prd d2 + k : Nat) : Int) ((prd d2 : Nat) : Int) f n s) (n := m) (i0 := 1) (by omega) f1 (fun n s => 1 ≤ n ∧ s = ⟨ty, D, putY t.Type_ (lnX t.Vals m (prd d2) (o * prd d2 + k)) (fun c => (o * m + c) * prd d2 + k) V (n - 1)⟩) ?_ ?_ _ ⟨Nat.le_refl _, rfl⟩
  ·rintro f n s hn ⟨h1, rfl⟩
   obtain ⟨q, rfl⟩ : ∃ q, n = q + 1 := ⟨n - 1, by omega⟩
   left
   refine ⟨_, ⟨by omega, rfl⟩, ?_⟩
   rw [Nat.add_sub_cancel, step f q hn (prS_pre hR (by omega)), if_pos (prS_pre hR (by omega)), Nat.add_sub_cancel]
  ·rintro f s ⟨h1, rfl⟩
   simp only [m_tensor_scan_1_w_l1]
   rw [f6, Option.bind_some, if_neg (by simp)]
 ·have hex : ∃ n, n + 1 < m ∧ (prS t.Type_ (lnX t.Vals m (prd d2) (o * prd d2 + k)) n).2 = 0 ∧ (prS t.Type_ (lnX t.Vals m (prd d2) (o * prd d2 + k)) (n + 1)).2 ≠ 0 ∧ (prS t.Type_ (lnX t.Vals m (prd d2) (o * prd d2 + k)) (n + 1)).2 = (prS t.Type_ (lnX t.Vals m (prd d2) (o * prd d2 + k)) (m - 1)).2 := by
   have key : ∀ q, q < m → (prS t.Type_ (lnX t.Vals m (prd d2) (o * prd d2 + k)) q).2 ≠ 0 → ∃ n, n + 1 ≤ q ∧ (prS t.Type_ (lnX t.Vals m (prd d2) (o * prd d2 + k)) n).2 = 0 ∧ (prS t.Type_ (lnX t.Vals m (prd d2) (o * prd d2 + k)) (n + 1)).2 ≠ 0 ∧ (prS t.Type_ (lnX t.Vals m (prd d2) (o * prd d2 + k)) (n + 1)).2 = (prS t.Type_ (lnX t.Vals m (prd d2) (o * prd d2 + k)) q).2 := by
    intro q
    induction q with
    | zero => intro _ hq; exact absurd rfl hq
    | succ q ih =>
     intro hqm hq
     by_cases h0 : (prS t.Type_ (lnX t.Vals m (prd d2) (o * prd d2 + k)) q).2 = 0
     ·exact ⟨q, Nat.le_refl _, h0, hq, rfl⟩
     ·obtain ⟨n, n1, n2, n3, n4⟩ := ih (by omega) h0
      refine ⟨n, by omega, n2, n3, n4.trans ?_⟩
      conv => rhs; rw [prS, if_neg h0]
   obtain ⟨n, n1, n2, n3, n4⟩ := key (m - 1) (by omega) hR
   exact ⟨n, by omega, n2, n3, n4⟩
  obtain ⟨N, n1, n2, n3, n4⟩ := hex
  refine ⟨((prS t.Type_ (lnX t.Vals m (prd d2) (o * prd d2 + k)) (N + 1)).2, ⟨ty, D, putY t.Type_ (lnX t.Vals m (prd d2) (o * prd d2 + k)) (fun c => (o * m + c) * prd d2 + k) V N⟩), ?_, n4, fun e => absurd e n3⟩
  refine loop_from (L := fun f s n => m_tensor_scan_1_w_l1 t (i : Int) ((o * m * prd d2 + k : Nat) : Int) ((prd d2 : Nat) : Int) f n s) (n := N + 1) (i0 := 1) (by omega) (by omega) (fun n s => 1 ≤ n ∧ s = ⟨ty, D, putY t.Type_ (lnX t.Vals m (prd d2) (o * prd d2 + k)) (fun c => (o * m + c) * prd d2 + k) V (n - 1)⟩) ?_ ?_ _ ⟨Nat.le_refl _, rfl⟩
  ·rintro f n s hn ⟨h1, rfl⟩
   obtain ⟨q, rfl⟩ : ∃ q, n = q + 1 := ⟨n - 1, by omega⟩
   left
   refine ⟨_, ⟨by omega, rfl⟩, ?_⟩
   rw [Nat.add_sub_cancel, step f q (by omega) (prS_pre n2 (by omega)), if_pos (prS_pre n2 (by omega)), Nat.add_sub_cancel]
  ·rintro f s ⟨h1, rfl⟩
   rw [Nat.add_sub_cancel, step f N n1 n2, if_neg n3]
def scG (t : GTensor) (i m I : Nat) (j : Nat) (s : GTensor) : Int × GTensor := (m_tensor_scan_1_w ((j / I * m * I + j % I : Nat) : Int) ((I : Nat) : Int) t (i : Int) s).getD (0, s)
def ScI (t : GTensor) (d1 d2 : List Nat) (m j : Nat) (s : GTensor) : Prop :=
 s.Type_ = t.Type_ ∧ s.Dims = t.Dims ∧ s.Vals.length = t.Vals.length ∧ (∀ o k, o < prd d1 → k < prd d2 → o * prd d2 + k < j → (prS t.Type_ (lnX t.Vals m (prd d2) (o * prd d2 + k)) (m - 1)).2 = 0) ∧
  ∀ o k c, o < prd d1 → k < prd d2 → c < m → s.Vals[(o * m + c) * prd d2 + k]? = some (if o * prd d2 + k < j then (prS t.Type_ (lnX t.Vals m (prd d2) (o * prd d2 + k)) c).1 else lnX t.Vals m (prd d2) (o * prd d2 + k) c)
theorem row_inj {I o k o' k' : Nat} (hk : k < I) (hk' : k' < I) (h : o * I + k = o' * I + k') : o = o' ∧ k = k' := by
 have := num_inj (m := 1) (I := I) (o := o) (c := 0) (k := k) (o' := o') (c' := 0) (k' := k') (by omega) hk (by omega) hk' (by simpa using h)
 exact ⟨this.1, this.2.2⟩
theorem scan_next {t : GTensor} {dn d1 d2 : List Nat} {i m : Nat} (h : Geo t dn d1 d2 i m) {o k : Nat} (ho : o < prd d1) (hk : k < prd d2) {s : GTensor} (hs : ScI t d1 d2 m (o * prd d2 + k) s) :
  m_tensor_scan_1_w ((o * m * prd d2 + k : Nat) : Int) ((prd d2 : Nat) : Int) t (i : Int) s = some (scG t i m (prd d2) (o * prd d2 + k) s) ∧ (scG t i m (prd d2) (o * prd d2 + k) s).1 = (prS t.Type_ (lnX t.Vals m (prd d2) (o * prd d2 + k)) (m - 1)).2 ∧
   ((scG t i m (prd d2) (o * prd d2 + k) s).1 = 0 → ScI t d1 d2 m (o * prd d2 + k + 1) (scG t i m (prd d2) (o * prd d2 + k) s).2) := by
 obtain ⟨f1, f2, f3, f4, f5, f6⟩ := h.facts
 obtain ⟨s1, s2, s3, s4, s5⟩ := hs
 have e1 : (o * prd d2 + k) / prd d2 = o := by rw [Nat.mul_comm, Nat.mul_add_div (by omega), Nat.div_eq_of_lt hk, Nat.add_zero]
 have e2 : (o * prd d2 + k) % prd d2 = k := by rw [Nat.mul_comm, Nat.mul_add_mod, Nat.mod_eq_of_lt hk]
 obtain ⟨r, r1, r2, r3⟩ := scan_line h ho hk s.Type_ s.Dims s.Vals s3 (fun c hc => by have := s5 o k c ho hk hc; rwa [if_neg (by omega)] at this)
 replace r1 : m_tensor_scan_1_w ((o * m * prd d2 + k : Nat) : Int) ((prd d2 : Nat) : Int) t (i : Int) s = some r := r1
 have hg : scG t i m (prd d2) (o * prd d2 + k) s = r := by unfold scG; rw [e1, e2, r1]; rfl
 rw [hg]
 refine ⟨r1, r2, fun h0 => ?_⟩
 have h00 : (prS t.Type_ (lnX t.Vals m (prd d2) (o * prd d2 + k)) (m - 1)).2 = 0 := by rw [← r2]; exact h0
 rw [r3 h0]
 refine ⟨s1, s2, by simp only [putY_len]; exact s3, fun o' k' ho' hk' hj => ?_, fun o' k' c ho' hk' hc => ?_⟩
 ·by_cases e : o' * prd d2 + k' = o * prd d2 + k
  ·rw [e]; exact h00
  ·exact s4 o' k' ho' hk' (by omega)
 ·simp only
  by_cases e : o' * prd d2 + k' = o * prd d2 + k
  ·obtain ⟨rfl, rfl⟩ := row_inj hk' hk e
   have hget := putY_get (ty := t.Type_) (x := lnX t.Vals m (prd d2) (o' * prd d2 + k')) (p := fun c => (o' * m + c) * prd d2 + k') (v := s.Vals) (m := m) (fun c c' hc hc' e => (num_inj hc hk' hc' hk' e).2.1) (fun c hc => by rw [s3, f4]; exact num_lt ho' hc hk') (fun c hc => by have := s5 o' k' c ho' hk' hc; rwa [if_neg (by omega)] at this) (m - 1) (by omega) c hc
   rw [hget, if_pos (by omega), if_pos (by omega)]
  ·rw [putY_ne (m - 1) (fun c' _ hc' e' => by
    have := num_inj (show c' < m by omega) hk hc hk' e'
    exact e (by rw [this.1, this.2.2])), s5 o' k' c ho' hk' hc]
   by_cases e3 : o' * prd d2 + k' < o * prd d2 + k
   ·rw [if_pos e3, if_pos (by omega)]
   ·rw [if_neg e3, if_neg (by omega)]
theorem scan_lin {t : GTensor} {dn d1 d2 : List Nat} {i m : Nat} (h : Geo t dn d1 d2 i m) : ∀ n, n ≤ prd d1 * prd d2 → (linR (scG t i m (prd d2)) n t).1 = rnE (rdG 1 t.Type_ t.Vals m (prd d2)) n ∧ ((linR (scG t i m (prd d2)) n t).1 = 0 → ScI t d1 d2 m n (linR (scG t i m (prd d2)) n t).2)
 | 0, _ => ⟨rfl, fun _ => ⟨rfl, rfl, rfl, fun o k _ _ hj => by omega, fun o k c ho hk hc => by rw [if_neg (by omega)]; exact (h.x ho hk hc).1⟩⟩
 | n + 1, hn => by
  obtain ⟨h1, h2⟩ := scan_lin h n (by omega)
  obtain ⟨f1, f2, f3, f4, f5, f6⟩ := h.facts
  have hoN : n / prd d2 < prd d1 := (Nat.div_lt_iff_lt_mul (by omega)).2 (by omega)
  have hkN : n % prd d2 < prd d2 := Nat.mod_lt _ (by omega)
  have eN : n / prd d2 * prd d2 + n % prd d2 = n := by rw [Nat.mul_comm]; exact Nat.div_add_mod _ _
  rw [linR, rnE, ← h1]
  by_cases h0 : (linR (scG t i m (prd d2)) n t).1 = 0
  ·rw [if_pos h0, if_pos h0]
   have hsi := h2 h0
   have hnx := scan_next h hoN hkN (s := (linR (scG t i m (prd d2)) n t).2) (by rw [eN]; exact hsi)
   have hsum := sum_line h hoN hkN
   rw [eN] at hnx hsum
   refine ⟨?_, hnx.2.2⟩
   rw [hnx.2.1]
   unfold rdG
   rw [hsum]; rfl
  ·rw [if_neg h0, if_neg h0]
   exact ⟨rfl, fun e => absurd e h0⟩
theorem tensor_scan {t : GTensor} {dn d1 d2 : List Nat} {i m : Nat} (h : Geo t dn d1 d2 i m) (hr : TeR t) : ∃ s, m_tensor_Reduce t (i : Int) 5 = some (if rnE (rdG 1 t.Type_ t.Vals m (prd d2)) (prd d1 * prd d2) = 0 then (s, 0) else (z0, rnE (rdG 1 t.Type_ t.Vals m (prd d2)) (prd d1 * prd d2))) ∧
  (rnE (rdG 1 t.Type_ t.Vals m (prd d2)) (prd d1 * prd d2) = 0 → ScI t d1 d2 m (prd d1 * prd d2) s) := by
 obtain ⟨f1, f2, f3, f4, f5, f6⟩ := h.facts
 have hdl := h.ten.shp.len
 have hlen : t.Dims.length = dn.length := by rw [h.ten.shp.eq, ci_len]
 have hil : i < dn.length := by rw [h.eq, List.length_append, List.length_cons, h.len]; omega
 have hlin := scan_lin h
 refine ⟨(linR (scG t i m (prd d2)) (prd d1 * prd d2) t).2, ?_, fun h0 => (hlin _ (Nat.le_refl _)).2 (by rw [(hlin _ (Nat.le_refl _)).1]; exact h0)⟩
 unfold m_tensor_Reduce
 rw [tensor_Validate hr (by omega) (by omega), Option.bind_some, h.ten.err, if_neg (by simp), if_neg (by simp; omega), if_neg (by simp), if_pos (by decide)]
 unfold m_tensor_scan
 rw [clone_o (by omega) (by omega), Option.bind_some]
 rw [lines_ok h.shp h.len (fun x_1 x_2 s => m_tensor_scan_1_w x_1 x_2 t (i : Int) s) (scG t i m (prd d2)) t (fun o k ho hk h0 => by
  have hj : o * prd d2 + k < prd d1 * prd d2 := by
   have : (o + 1) * prd d2 ≤ prd d1 * prd d2 := Nat.mul_le_mul_right _ ho
   rw [Nat.add_mul, Nat.one_mul] at this; omega
  exact (scan_next h ho hk ((hlin _ (by omega)).2 h0)).1)]
 have k1 := (hlin _ (Nat.le_refl (prd d1 * prd d2))).1
 simp only [Option.bind_some, k1]
 by_cases h0 : rnE (rdG 1 t.Type_ t.Vals m (prd d2)) (prd d1 * prd d2) = 0
 ·rw [if_neg (by simp [h0]), if_pos h0]; rfl
 ·rw [if_pos (by simp [h0]), if_neg h0]; rfl
end Go.Proofs.YtlakfanockhngaaGreatDoor
