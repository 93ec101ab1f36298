import Derived.Test.YtebpdmfmknfkjaaGreatDoorSYb
namespace Go.Proofs.YtebpdmfmknfkjaaGreatDoor
open Go Go.RowKit Go.Vc
set_option linter.unusedVariables false
set_option linter.unusedSimpArgs false
theorem wu_mod (x : Int) : wu64 x = x % 18446744073709551616 := by simp [wu64, IntKind.wrap, IntKind.signed, IntKind.bits]
theorem mag_ok {n : Int} (h : R64 n) : m_lin_magnitude n = some (n.natAbs : Int) := by
 obtain ⟨h1, h2⟩ := h
 unfold m_lin_magnitude
 by_cases c : n < 0
 ·rw [if_pos (by simpa using c), wu_mod, wu_mod]
  refine congrArg some ?_
  omega
 ·rw [if_neg (by simpa using c), wu_mod]
  refine congrArg some ?_
  omega
theorem size05 {n : Int} (h : R64 n) : m_ref05_size n = some (n.natAbs : Int) := by
 have := size01 h
 unfold m_ref01_size at this
 unfold m_ref05_size
 rw [this]
 refine congrArg some ?_
 split <;> omega
theorem dd_le : ∀ (k u : Nat), u < 10 ^ (k + 1) → (Lib.decDigits u).length ≤ k + 1
 | 0, u, h => by rw [dd_small (by omega)]; simp
 | k + 1, u, h => by
  by_cases hu : u < 10
  ·rw [dd_small hu]; simp
  ·rw [dd_big hu, List.length_append]
   have := dd_le k (u / 10) (by rw [Nat.pow_succ] at h; omega)
   simp only [List.length_cons, List.length_nil]; omega
theorem dd_20 {u : Nat} (h : u < 18446744073709551616) : (Lib.decDigits u).length ≤ 20 := dd_le 19 u (by omega)
theorem dd_ne (u : Nat) : Lib.decDigits u ≠ [] := (dd_spec u).2.2.1
theorem fmtU {u : Nat} (h : u < 18446744073709551616) : m_strconv_FormatUint (u : Int) 10 = some (Lib.decDigits u) := by
 unfold m_strconv_FormatUint m_internal_strconv_FormatUint
 rw [if_pos ⟨rfl, by omega, by omega⟩, Option.bind_some, Lib.itoa_nonneg]
theorem strOf_dig (d : Nat) (h : d < 10) : strOf [wu8 (wu64 (48 + (d : Int)))] = [UInt8.ofNat (48 + d)] := by
 rw [wu (p := 48 + (d : Int)) ⟨by omega, by omega⟩]
 have : ∀ d : Fin 10, strOf [wu8 (48 + ((d.val : Nat) : Int))] = [UInt8.ofNat (48 + d.val)] := by decide
 exact this ⟨d, h⟩
theorem digits05_run : ∀ (f : Nat) (u : Nat) (s : List UInt8), u < f → u < 18446744073709551616 → (Lib.decDigits u).length + s.length ≤ 4294967296 → m_ref05_digits_l1 f (u : Int) s = some (Lib.decDigits u ++ s)
 | 0, _, _, h, _, _ => absurd h (by omega)
 | f + 1, u, s, hf, hu, hl => by
  have e1 : Int.tmod (u : Int) 10 = ((u % 10 : Nat) : Int) := by rw [Int.tmod_eq_emod_of_nonneg (by omega)]; rfl
  have e2 : Int.tdiv (u : Int) 10 = ((u / 10 : Nat) : Int) := by rw [Int.tdiv_eq_ediv_of_nonneg (by omega)]; rfl
  simp only [m_ref05_digits_l1]
  rw [e1, e2, strOf_dig _ (by omega), wu (p := ((u / 10 : Nat) : Int)) ⟨by omega, by omega⟩]
  have h1 : 1 + s.length ≤ 4294967296 := by
   have := dd_ne u
   have : 0 < (Lib.decDigits u).length := List.length_pos_iff.2 this
   omega
  rw [lapp_ok (by simpa [Nat.add_comm] using h1), Option.bind_some]
  by_cases h : u < 10
  ·rw [show u / 10 = 0 by omega, dd_small h, show u % 10 = u by omega]; rfl
  ·rw [if_neg (by simp; omega)]
   rw [dd_big h] at hl ⊢
   simp only [List.length_append, List.length_cons, List.length_nil] at hl
   rw [digits05_run f (u / 10) _ (by omega) (by omega) (by simp only [List.length_append, List.length_cons, List.length_nil]; omega)]
   simp
theorem digits05 {u : Nat} (h : u < 18446744073709551616) : m_ref05_digits (u : Int) = some (Lib.decDigits u) := by
 have := dd_20 h
 unfold m_ref05_digits
 rw [digits05_run fu u [] (by unfold fu; omega) h (by simp only [List.length_nil]; omega)]; simp
def bodyT (c : Int) (nm : List UInt8) : List UInt8 := if nm = [] then Lib.decDigits c.natAbs else if c.natAbs = 1 then nm else Lib.decDigits c.natAbs ++ 42 :: nm
def sgnT (s : List UInt8) (c : Int) : List UInt8 := if s = [] then (if c < 0 then [45] else []) else (if c < 0 then [32, 45, 32] else [32, 43, 32])
def addT (s : List UInt8) (c : Int) (nm : List UInt8) : List UInt8 := s ++ (sgnT s c ++ bodyT c nm)
theorem abs64 {n : Int} (h : R64 n) : n.natAbs < 18446744073709551616 := by obtain ⟨h1, h2⟩ := h; omega
theorem bodyT_len {c : Int} (hc : R64 c) (nm : List UInt8) : (bodyT c nm).length ≤ 21 + nm.length := by
 have := dd_20 (abs64 hc)
 unfold bodyT
 split
 ·omega
 ·split
  ·omega
  ·simp only [List.length_append, List.length_cons]; omega
theorem sgnT_len (s : List UInt8) (c : Int) : (sgnT s c).length ≤ 3 := by unfold sgnT; split <;> split <;> simp
theorem addT_len {c : Int} (hc : R64 c) (s nm : List UInt8) : (addT s c nm).length ≤ s.length + 24 + nm.length := by
 have := bodyT_len hc nm; have := sgnT_len s c
 unfold addT; simp only [List.length_append]; omega
theorem bodyT_ne {c : Int} (nm : List UInt8) : bodyT c nm ≠ [] := by
 unfold bodyT
 split
 ·exact dd_ne _
 ·split
  ·assumption
  ·simp
theorem addT_ne {c : Int} (s nm : List UInt8) : addT s c nm ≠ [] := by
 unfold addT; simp [bodyT_ne]
theorem fmt_j1 {c : Int} (hc : R64 c) (nm s : List UInt8) (hl : s.length + nm.length + 24 ≤ 4294967296) : m_lin_Format_1_w_j1 c nm s = some ((), s ++ bodyT c nm) := by
 have h20 := dd_20 (abs64 hc)
 unfold m_lin_Format_1_w_j1 bodyT
 rw [mag_ok hc, Option.bind_some]
 by_cases hn : nm = []
 ·subst hn
  simp only [decide_true, Bool.true_or, if_true, fmtU (abs64 hc), Option.bind_some]
  rw [lapp_ok (by omega)]
  simp only [Option.bind_some, Bool.not_true, Bool.false_eq_true, if_false]
  rw [lapp_ok (by simp only [List.length_append, List.length_nil]; omega)]
  simp
 ·by_cases h1 : c.natAbs = 1
  ·simp only [hn, h1, decide_false, decide_true, Bool.not_true, Bool.false_or, Bool.false_eq_true, if_false, if_true, show ((1 : Nat) : Int) = 1 from rfl]
   rw [lapp_ok (by omega)]; rfl
  ·have h1' : ¬ ((c.natAbs : Int) = 1) := by omega
   simp only [hn, h1, h1', decide_false, Bool.not_false, Bool.or_true, if_true, if_false, fmtU (abs64 hc), Option.bind_some]
   rw [lapp_ok (by omega), Option.bind_some, lapp_ok (by simp only [List.length_append, List.length_cons, List.length_nil]; omega), Option.bind_some, lapp_ok (by simp only [List.length_append, List.length_cons, List.length_nil]; omega)]
   simp
theorem fmt_1 {c : Int} (hc : R64 c) (nm s : List UInt8) (hl : s.length + nm.length + 27 ≤ 4294967296) : m_lin_Format_1_w c nm s = some ((), addT s c nm) := by
 unfold m_lin_Format_1_w addT sgnT
 by_cases hs : s = []
 ·subst hs
  by_cases h0 : c < 0
  ·simp only [h0, decide_true, List.length_nil, Bool.and_self, if_true, Int.natCast_zero]
   rw [lapp_nil (by simp), Option.bind_some, fmt_j1 hc _ _ (by simp only [List.length_cons, List.length_nil]; simp only [List.length_nil] at hl; omega)]
   simp
  ·simp only [h0, decide_false, List.length_nil, Bool.and_false, Bool.false_eq_true, if_false, Int.natCast_zero, show ¬ (0 : Int) < 0 by decide]
   rw [fmt_j1 hc _ _ (by omega)]
   simp
 ·have hp : 0 < s.length := List.length_pos_iff.2 hs
  have e0 : decide ((s.length : Int) = 0) = false := decide_eq_false (by omega)
  have e1 : decide (0 < (s.length : Int)) = true := decide_eq_true (by omega)
  by_cases h0 : c < 0
  ·simp only [h0, hs, e0, e1, decide_true, Bool.false_and, Bool.and_self, Bool.false_eq_true, if_false, if_true]
   rw [lapp_ok (by simp only [List.length_cons, List.length_nil]; omega), Option.bind_some, fmt_j1 hc _ _ (by simp only [List.length_append, List.length_cons, List.length_nil]; omega)]
   simp
  ·simp only [h0, hs, e0, e1, decide_false, Bool.false_and, Bool.and_false, Bool.false_eq_true, if_false, if_true]
   rw [lapp_ok (by simp only [List.length_cons, List.length_nil]; omega), Option.bind_some, fmt_j1 hc _ _ (by simp only [List.length_append, List.length_cons, List.length_nil]; omega)]
   simp
theorem term05 (s : List UInt8) (c : Int) (t : List UInt8) (hl : s.length + t.length + 3 ≤ 4294967296) : m_ref05_term s (decide (c < 0)) t = some (s ++ (sgnT s c ++ t)) := by
 unfold m_ref05_term sgnT
 by_cases hs : s = []
 ·subst hs
  by_cases h0 : c < 0
  ·simp only [h0, decide_true, Bool.and_self, if_true]
   rw [lapp_ok (by simp only [List.length_cons, List.length_nil]; omega)]; rfl
  ·simp [h0]
 ·by_cases h0 : c < 0
  ·simp only [h0, hs, decide_true, decide_false, Bool.false_and, Bool.false_eq_true, if_false, if_true]
   rw [lapp_ok (by simp only [List.length_cons, List.length_nil]; omega), Option.bind_some, lapp_ok (by simp only [List.length_append, List.length_cons, List.length_nil]; omega)]
   simp
  ·simp only [h0, hs, decide_false, Bool.and_false, Bool.false_eq_true, if_false]
   rw [lapp_ok (by simp only [List.length_cons, List.length_nil]; omega), Option.bind_some, lapp_ok (by simp only [List.length_append, List.length_cons, List.length_nil]; omega)]
   simp
instance (l : GLin) : Decidable (okLin l) := by unfold okLin; infer_instance
def foldT (l : List GMono) (s : List UInt8) : List UInt8 := l.foldl (fun s m => addT s m.By m.Name) s
def linS (l : GLin) : List UInt8 := if l.K ≠ 0 ∨ l.L = [] then addT (foldT l.L []) l.K [] else foldT l.L []
def linT (l : GLin) : List UInt8 := if okLin l then linS l else []
theorem lin_Val {l : GLin} (hl : l.L.length < 4611686018427387904) : m_lin_Validate l = some (if okLin l then 0 else 1) ∧ m_base_LinRight l = some (decide (okLin l)) := by
 obtain ⟨b, h1, h2, h3⟩ := lin_Validate l hl
 by_cases h : okLin l
 ·have hb := h1.2 h; subst hb; exact ⟨by rw [h2, if_pos rfl, if_pos h], by rw [h3, decide_eq_true h]⟩
 ·have hb : b = false := by cases b; rfl; exact absurd (h1.1 rfl) h
  subst hb; exact ⟨by rw [h2, if_neg h]; rfl, by rw [h3, decide_eq_false h]⟩
theorem nameB_len {s : List UInt8} (h : nameB s = true) : s ≠ [] ∧ s.length ≤ 16 := by
 unfold nameB at h
 simp only [Bool.and_eq_true, decide_eq_true_eq] at h
 exact h.1.1.1
theorem foldT_len (l : List GMono) (h : ∀ m ∈ l, m.Name.length ≤ 16 ∧ R64 m.By) : ∀ s, (foldT l s).length ≤ s.length + 40 * l.length := by
 induction l with
 | nil => intro s; simp [foldT]
 | cons m l ih =>
  intro s
  have h1 := addT_len (h m (by simp)).2 s m.Name
  have h2 := (h m (by simp)).1
  have h3 := ih (fun x hx => h x (by simp [hx])) (addT s m.By m.Name)
  show (foldT l (addT s m.By m.Name)).length ≤ _
  simp only [List.length_cons]; omega
theorem foldT_snoc (l : List GMono) (m : GMono) (s : List UInt8) : foldT (l ++ [m]) s = addT (foldT l s) m.By m.Name := by unfold foldT; rw [List.foldl_append]; rfl
theorem linS_len {l : GLin} (ho : okLin l) (hr : ∀ m ∈ l.L, R64 m.By) (hk : R64 l.K) : (linS l).length ≤ 40 * l.L.length + 24 := by
 have h1 := foldT_len l.L (fun m hm => ⟨(nameB_len (ho.1 m hm).1).2, hr m hm⟩) []
 have h2 := addT_len hk (foldT l.L []) []
 simp only [List.length_nil] at h1 h2
 unfold linS
 split <;> omega
theorem lin_Format {l : GLin} (hr : ∀ m ∈ l.L, R64 m.By) (hk : R64 l.K) (hl : l.L.length < 90000000) : m_lin_Format l = some (linT l) := by
 unfold m_lin_Format linT
 rw [(lin_Val (by omega)).1, Option.bind_some]
 by_cases ho : okLin l
 rotate_left
 ·rw [if_neg ho, if_neg ho, if_pos (by decide)]
 rw [if_pos ho, if_pos ho, if_neg (by decide)]
 have hb : ∀ i, (foldT (l.L.take i) []).length ≤ 40 * l.L.length := fun i => by
  have h1 := foldT_len (l.L.take i) (fun m hm => ⟨(nameB_len (ho.1 m (List.mem_of_mem_take hm)).1).2, hr m (List.mem_of_mem_take hm)⟩) []
  rw [List.length_take] at h1
  simp only [List.length_nil] at h1; omega
 refine loop_eq (L := fun f s i => m_lin_Format_l1 l f i s) (n := l.L.length) (by omega) (fun i s => s = foldT (l.L.take i) []) ?_ ?_ [] (by simp [foldT])
 ·rintro f i s hi rfl
  obtain ⟨m, hm⟩ := at_some hi
  have hmem := List.mem_of_getElem? hm
  left
  refine ⟨addT (foldT (l.L.take i) []) m.By m.Name, by rw [take_succ' hm, foldT_snoc], ?_⟩
  have := hb i; have := (nameB_len (ho.1 m hmem).1).2
  simp only [m_lin_Format_l1]
  rw [if_pos (lt_dec hi), lat_at hm, Option.bind_some, fmt_1 (hr m hmem) _ _ (by omega), wis (by omega)]
  rfl
 ·rintro f s rfl
  have := hb l.L.length
  rw [List.take_length] at this ⊢
  simp only [m_lin_Format_l1]
  rw [if_neg (by simp)]
  unfold m_lin_Format_j1 linS
  by_cases hK : l.K ≠ 0 ∨ l.L = []
  ·rw [if_pos (by rcases hK with h | h <;> simp [h]), if_pos hK, fmt_1 hk _ _ (by simp only [List.length_nil]; omega)]; rfl
  ·rw [if_neg hK, if_neg]
   intro h; apply hK
   simpa using h
theorem ref05_Format {l : GLin} (hr : ∀ m ∈ l.L, R64 m.By) (hk : R64 l.K) (hl : l.L.length < 90000000) : m_ref05_Format l = some (linT l) := by
 unfold m_ref05_Format m_ref05_Validate linT
 rw [(lin_Val (by omega)).2, Option.bind_some]
 by_cases ho : okLin l
 rotate_left
 ·rw [decide_eq_false ho, if_neg ho]; rfl
 rw [decide_eq_true ho, if_pos ho]
 simp only [Bool.not_true, Bool.false_eq_true, if_false, Option.bind_some, decide_true]
 have hb : ∀ i, (foldT (l.L.take i) []).length ≤ 40 * l.L.length := fun i => by
  have h1 := foldT_len (l.L.take i) (fun m hm => ⟨(nameB_len (ho.1 m (List.mem_of_mem_take hm)).1).2, hr m (List.mem_of_mem_take hm)⟩) []
  rw [List.length_take] at h1
  simp only [List.length_nil] at h1; omega
 refine loop_eq (L := fun f s i => m_ref05_Format_l1 l f s i) (n := l.L.length) (by omega) (fun i s => s = foldT (l.L.take i) []) ?_ ?_ [] (by simp [foldT])
 ·rintro f i s hi rfl
  obtain ⟨m, hm⟩ := at_some hi
  have hmem := List.mem_of_getElem? hm
  left
  refine ⟨addT (foldT (l.L.take i) []) m.By m.Name, by rw [take_succ' hm, foldT_snoc], ?_⟩
  have hbi := hb i
  obtain ⟨hn0, hn⟩ := nameB_len (ho.1 m hmem).1
  have h20 := dd_20 (abs64 (hr m hmem))
  have j2 : ∀ t, t.length ≤ 40 → m_ref05_Format_j2 (foldT (l.L.take i) []) m (m_ref05_Format_l1 l f) (i : Int) t = m_ref05_Format_l1 l f (foldT (l.L.take i) [] ++ (sgnT (foldT (l.L.take i) []) m.By ++ t)) ((i + 1 : Nat) : Int) := fun t ht => by
   unfold m_ref05_Format_j2
   rw [term05 _ _ _ (by omega), Option.bind_some, wis (by omega)]
  simp only [m_ref05_Format_l1]
  rw [if_pos (lt_dec hi), lat_at hm, Option.bind_some, Option.bind_some, size05 (hr m hmem), Option.bind_some]
  unfold addT bodyT
  rw [if_neg hn0]
  by_cases h1 : m.By.natAbs = 1
  ·rw [if_neg (by simp [h1]), if_pos h1, j2 _ (by omega)]
  ·rw [if_pos (by simp; omega), if_neg h1, Option.bind_some, digits05 (abs64 (hr m hmem)), Option.bind_some, lapp_ok (by simp only [List.length_cons, List.length_nil]; omega), Option.bind_some, lapp_ok (by simp only [List.length_append, List.length_cons, List.length_nil]; omega), Option.bind_some, j2 _ (by simp only [List.length_append, List.length_cons, List.length_nil]; omega)]
   simp
 ·rintro f s rfl
  have := hb l.L.length
  have h20 := dd_20 (abs64 hk)
  rw [List.take_length] at this ⊢
  simp only [m_ref05_Format_l1]
  rw [if_neg (by simp)]
  unfold m_ref05_Format_j1 linS
  by_cases hK : l.K ≠ 0 ∨ l.L = []
  ·rw [if_pos (by rcases hK with h | h <;> simp [h]), if_pos hK, size05 hk, Option.bind_some, digits05 (abs64 hk), Option.bind_some, term05 _ _ _ (by omega)]
   simp [addT, bodyT]
  ·rw [if_neg hK, if_neg]
   intro h; apply hK
   simpa using h
end Go.Proofs.YtebpdmfmknfkjaaGreatDoor
