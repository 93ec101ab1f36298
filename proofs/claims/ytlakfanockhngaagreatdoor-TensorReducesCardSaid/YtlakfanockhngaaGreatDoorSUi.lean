import Derived.Test.YtlakfanockhngaaGreatDoorSUh
namespace Go.Proofs.YtlakfanockhngaaGreatDoor
open Go Go.RowKit Go.Vc
set_option linter.unusedVariables false
set_option linter.unusedSimpArgs false
theorem rnE_first {α : Type} {g : Nat → α × Int} : ∀ {V : Nat}, rnE g V ≠ 0 → ∃ N, N < V ∧ rnE g N = 0 ∧ (g N).2 ≠ 0 ∧ rnE g V = (g N).2
  | 0, h => absurd rfl h
  | V + 1, h => by
    rw [rnE] at h ⊢
    by_cases h0 : rnE g V = 0
    · rw [if_pos h0] at h ⊢
      exact ⟨V, by omega, h0, h, rfl⟩
    · rw [if_neg h0]
      obtain ⟨N, h1, h2, h3, h4⟩ := rnE_first h0
      exact ⟨N, by omega, h2, h3, h4⟩
theorem loop_reach {σ R : Type} {L : Nat → σ → Int → Option R} {n : Nat} (hn : n < 4611686018427387904) (I : Nat → σ → Prop)
    (rd : ∀ f i s, i < n → I i s → ∃ s', I (i + 1) s' ∧ L (f + 1) s (i : Int) = L f s' ((i + 1 : Nat) : Int)) (s : σ) (h0 : I 0 s) : ∃ s' f, I n s' ∧ L fu s 0 = L (f + 1) s' (n : Int) := by
  have key : ∀ (k f i : Nat) (s : σ), i + k = n → k < f → I i s → ∃ s' f', I n s' ∧ L f s (i : Int) = L (f' + 1) s' (n : Int) := by
    intro k
    induction k with
    | zero =>
      intro f i s h hf hI
      obtain ⟨f, rfl⟩ : ∃ g, f = g + 1 := ⟨f - 1, by omega⟩
      obtain rfl : i = n := by omega
      exact ⟨s, f, hI, rfl⟩
    | succ k ih =>
      intro f i s h hf hI
      obtain ⟨f, rfl⟩ : ∃ g, f = g + 1 := ⟨f - 1, by omega⟩
      obtain ⟨s', h1, h2⟩ := rd f i s (by omega) hI
      rw [h2]; exact ih f (i + 1) s' (by omega) (by omega) h1
  exact key n fu 0 s (by omega) (by unfold fu; omega) h0
theorem Geo.rest {t : GTensor} {dn d1 d2 : List Nat} {i m : Nat} (h : Geo t dn d1 d2 i m) : Shp (ci (d1 ++ d2)) (d1 ++ d2) ∧ Pos d1 ∧ Pos d2 ∧ prd d1 * prd d2 ≤ 4096 ∧ d1.length + d2.length ≤ 5 := by
  obtain ⟨f1, f2, f3, f4, f5, f6⟩ := h.facts
  have hpos := h.ten.shp.pos
  have hlen := h.ten.shp.len
  rw [h.eq] at hpos hlen
  obtain ⟨p1, p2'⟩ := Pos.app hpos
  have p2 : Pos d2 := fun x hx => p2' x (by simp [hx])
  rw [List.length_append, List.length_cons] at hlen
  have hOI : prd d1 * prd d2 ≤ 4096 := by
    have : prd d1 * prd d2 ≤ prd d1 * m * prd d2 := Nat.mul_le_mul_right _ (Nat.le_mul_of_pos_right _ f1)
    omega
  refine ⟨⟨rfl, fun x hx => ?_, by rw [prd_app]; exact hOI, by rw [List.length_append]; omega⟩, p1, p2, hOI, by omega⟩
  rcases List.mem_append.1 hx with hx | hx
  · exact p1 x hx
  · exact p2 x hx
theorem Geo.pt {t : GTensor} {dn d1 d2 : List Nat} {i m : Nat} (h : Geo t dn d1 d2 i m) {o k : Nat} (hk : k < prd d2) : Go.Proofs.YtlakfanockhngaaGreatDoor.pt (d1 ++ d2) (o * prd d2 + k) = Go.Proofs.YtlakfanockhngaaGreatDoor.pt d1 o ++ Go.Proofs.YtlakfanockhngaaGreatDoor.pt d2 (o * prd d2 + k) := by
  rw [pt_app]
  congr 2
  rw [Nat.mul_comm, Nat.mul_add_div (by omega), Nat.div_eq_of_lt hk, Nat.add_zero]
theorem Geo.off {t : GTensor} {dn d1 d2 : List Nat} {i m : Nat} (h : Geo t dn d1 d2 i m) {o k c : Nat} (ho : o < prd d1) (hk : k < prd d2) (hc : c < m) : m_ref12_Offset t.Dims (ci (Go.Proofs.YtlakfanockhngaaGreatDoor.pt d1 o ++ c :: Go.Proofs.YtlakfanockhngaaGreatDoor.pt d2 (o * prd d2 + k))) = some (((o * m + c) * prd d2 + k : Nat) : Int) := by
  obtain ⟨_, p1, p2, _, _⟩ := h.rest
  rw [ref12_Offset h.shp ((pt_bd o p1).app (show Bd (m :: d2) (c :: Go.Proofs.YtlakfanockhngaaGreatDoor.pt d2 (o * prd d2 + k)) from ⟨hc, pt_bd _ p2⟩)), off_app (by rw [pt_len])]
  simp only [Go.Proofs.YtlakfanockhngaaGreatDoor.off, prd]
  rw [off_pt p1 ho, off_pt_mod d2 _ p2, Nat.mul_comm o (prd d2), Nat.mul_add_mod, Nat.mod_eq_of_lt hk]
  congr 2
  rw [Nat.add_mul, Nat.mul_assoc]; omega
theorem Geo.put {t : GTensor} {dn d1 d2 : List Nat} {i m : Nat} (h : Geo t dn d1 d2 i m) (o j c : Nat) {R : Type} (K : List Int → Option R) :
    ((lupto (ci (Go.Proofs.YtlakfanockhngaaGreatDoor.pt d1 o ++ Go.Proofs.YtlakfanockhngaaGreatDoor.pt d2 j)) (i : Int)).bind fun zs6 => (lapp ([] : List Int) zs6).bind fun zs7 => (lapp zs7 ([(c : Int)] : List Int)).bind fun zs8 => (lfrom (ci (Go.Proofs.YtlakfanockhngaaGreatDoor.pt d1 o ++ Go.Proofs.YtlakfanockhngaaGreatDoor.pt d2 j)) (i : Int)).bind fun zs9 => (lapp zs8 zs9).bind fun zs10 => K zs10) =
      K (ci (Go.Proofs.YtlakfanockhngaaGreatDoor.pt d1 o ++ c :: Go.Proofs.YtlakfanockhngaaGreatDoor.pt d2 j)) := by
  obtain ⟨_, _, _, _, hl⟩ := h.rest
  have h1 : (ci (Go.Proofs.YtlakfanockhngaaGreatDoor.pt d1 o)).length = i := by rw [ci_len, pt_len, h.len]
  have h2 : (ci (Go.Proofs.YtlakfanockhngaaGreatDoor.pt d2 j)).length = d2.length := by rw [ci_len, pt_len]
  have hil := h.len
  rw [ci_app]
  have e1 : lupto (ci (Go.Proofs.YtlakfanockhngaaGreatDoor.pt d1 o) ++ ci (Go.Proofs.YtlakfanockhngaaGreatDoor.pt d2 j)) (i : Int) = some (ci (Go.Proofs.YtlakfanockhngaaGreatDoor.pt d1 o)) := by
    unfold lupto
    rw [if_pos (by rw [List.length_append, h1]; omega), Int.toNat_natCast, List.take_left' h1]
  have e2 : lfrom (ci (Go.Proofs.YtlakfanockhngaaGreatDoor.pt d1 o) ++ ci (Go.Proofs.YtlakfanockhngaaGreatDoor.pt d2 j)) (i : Int) = some (ci (Go.Proofs.YtlakfanockhngaaGreatDoor.pt d2 j)) := by
    unfold lfrom
    rw [if_pos (by rw [List.length_append, h1]; omega), Int.toNat_natCast, List.drop_left' h1]
  rw [e1, e2, Option.bind_some, lapp_nil (by rw [h1]; omega), Option.bind_some, lapp_ok (by rw [h1]; simp; omega), Option.bind_some, Option.bind_some, lapp_ok (by rw [List.length_append, h1, h2]; simp; omega), Option.bind_some]
  congr 1
  rw [ci_app]; simp [ci]
theorem ref_line {t : GTensor} {dn d1 d2 : List Nat} {i m : Nat} (h : Geo t dn d1 d2 i m) {o k : Nat} (ho : o < prd d1) (hk : k < prd d2) : m_ref12_line t (i : Int) (ci (pt (d1 ++ d2) (o * prd d2 + k))) = some (lnL t.Vals m (prd d2) (o * prd d2 + k) m) := by
  obtain ⟨f1, f2, f3, f4, f5, f6⟩ := h.facts
  have hmle : m ≤ prd d1 * m * prd d2 := Nat.le_trans (Nat.le_mul_of_pos_left m f2) (Nat.le_mul_of_pos_right _ f3)
  rw [h.pt hk]
  unfold m_ref12_line
  refine loop_eq (L := m_ref12_line_l1 t (i : Int) (ci (pt d1 o ++ pt d2 (o * prd d2 + k)))) (n := m) (by omega) (fun c l => l = lnL t.Vals m (prd d2) (o * prd d2 + k) c) ?_ ?_ [] rfl
  · rintro f c l hc rfl
    left
    refine ⟨_, rfl, ?_⟩
    simp only [m_ref12_line_l1]
    rw [f6, Option.bind_some, if_pos (lt_dec hc), h.put o (o * prd d2 + k) c (fun zs5 => (m_ref12_Offset t.Dims zs5).bind fun r1 => (lat t.Vals r1).bind fun e2 => (lapp (lnL t.Vals m (prd d2) (o * prd d2 + k) c) ([e2] : List GVal)).bind fun zs6 => (m_ref12_line_l1 t (i : Int) (ci (pt d1 o ++ pt d2 (o * prd d2 + k))) f) zs6 (wi64 ((c : Int) + 1)))]
    rw [h.off ho hk hc, Option.bind_some, lat_at (h.x ho hk hc).1, Option.bind_some, lapp_ok (by rw [lnL_len]; simp; omega), Option.bind_some, wis (by omega), lnL_succ]
  · rintro f l rfl
    simp only [m_ref12_line_l1]
    rw [f6, Option.bind_some, if_neg (by simp)]
theorem ln_ok {t : GTensor} {dn d1 d2 : List Nat} {i m : Nat} (h : Geo t dn d1 d2 i m) (fold : Int) {o k : Nat} (ho : o < prd d1) (hk : k < prd d2) :
    m_value_Reduce fold t.Type_ (lnL t.Vals m (prd d2) (o * prd d2 + k) m) = some (rdG fold t.Type_ t.Vals m (prd d2) (o * prd d2 + k)) ∧ m_ref04_Reduce fold t.Type_ (lnL t.Vals m (prd d2) (o * prd d2 + k) m) = some (rdG fold t.Type_ t.Vals m (prd d2) (o * prd d2 + k)) := by
  obtain ⟨f1, f2, f3, f4, f5, f6⟩ := h.facts
  have hmle : m ≤ prd d1 * m * prd d2 := Nat.le_trans (Nat.le_mul_of_pos_left m f2) (Nat.le_mul_of_pos_right _ f3)
  have hv : ∀ y ∈ lnL t.Vals m (prd d2) (o * prd d2 + k) m, VaR y := fun y hy => by
    unfold lnL at hy
    obtain ⟨c, hc, rfl⟩ := List.mem_map.1 hy
    exact frVaR (frOK_of h.ten.ty (h.x ho hk (List.mem_range.1 hc)).2)
  obtain ⟨h1, q, hq⟩ := Reduce_eq (fold := fold) (t := t.Type_) hv (by rw [lnL_len]; omega)
  unfold rdG
  rw [h1, hq]
  exact ⟨rfl, rfl⟩
theorem ref_head {t : GTensor} {dn d1 d2 : List Nat} {i m : Nat} (h : Geo t dn d1 d2 i m) (hr : TeR t) {fold : Int} (hf : 1 ≤ fold ∧ fold ≤ 5) :
    m_ref12_Reduce t (i : Int) fold = if fold = 5 then m_ref12_Reduce_j1 (ci (d1 ++ d2)) t (i : Int) fold ⟨t.Type_, t.Dims, List.replicate t.Vals.length ⟨0, 0⟩⟩ else m_ref12_Reduce_j1 (ci (d1 ++ d2)) t (i : Int) fold ⟨t.Type_, ci (d1 ++ d2), List.replicate (prd d1 * prd d2) ⟨0, 0⟩⟩ := by
  obtain ⟨f1, f2, f3, f4, f5, f6⟩ := h.facts
  obtain ⟨hsr, p1, p2, hOI, hl⟩ := h.rest
  have hdl := h.ten.shp.len
  have hlen : t.Dims.length = dn.length := by rw [h.ten.shp.eq, ci_len]
  have hil : i < dn.length := by rw [h.eq, List.length_append, List.length_cons, h.len]; omega
  have hd : t.Dims = ci d1 ++ (m : Int) :: ci d2 := by rw [h.ten.shp.eq, h.eq, ci_app]; rfl
  have hu : lupto t.Dims (i : Int) = some (ci d1) := by
    unfold lupto
    rw [if_pos (by omega), Int.toNat_natCast, hd, List.take_left' (by rw [ci_len]; exact h.len)]
  have hfr : lfrom t.Dims (wi64 ((i : Int) + 1)) = some (ci d2) := by
    rw [wis (by omega)]
    unfold lfrom
    rw [if_pos (by omega), Int.toNat_natCast, hd, show ci d1 ++ (m : Int) :: ci d2 = (ci d1 ++ [(m : Int)]) ++ ci d2 by simp, List.drop_left' (by rw [List.length_append, ci_len, h.len]; rfl)]
  unfold m_ref12_Reduce
  rw [ref12_Validate hr (by omega) (by omega), Option.bind_some, h.ten.err, if_neg (by simp), if_neg (by simp; omega), if_neg (by simp; omega)]
  rw [hu, Option.bind_some, lapp_nil (by rw [ci_len]; omega), Option.bind_some, hfr, Option.bind_some, lapp_ok (by rw [ci_len, ci_len]; omega), Option.bind_some, ← ci_app, ref12_Size hsr.pos (by rw [prd_app]; omega) (by rw [List.length_append]; omega), Option.bind_some, prd_app, lmake_ok _ (by omega), Option.bind_some, lmake_ok _ (by omega), Option.bind_some]
  by_cases h5 : fold = 5
  · rw [if_pos (by simpa using h5), if_pos h5]
  · rw [if_neg (by simpa using h5), if_neg h5]
theorem row_of {I n j : Nat} (hI : 0 < I) (hj : j < n * I) : j / I < n ∧ j % I < I ∧ j / I * I + j % I = j :=
  ⟨(Nat.div_lt_iff_lt_mul hI).2 hj, Nat.mod_lt _ hI, by rw [Nat.mul_comm]; exact Nat.div_add_mod _ _⟩
theorem ref_Reduce {t : GTensor} {dn d1 d2 : List Nat} {i m : Nat} (h : Geo t dn d1 d2 i m) (hr : TeR t) {fold : Int} (hf : 1 ≤ fold ∧ fold ≤ 4) :
    m_ref12_Reduce t (i : Int) fold = some (if rnE (rdG fold t.Type_ t.Vals m (prd d2)) (prd d1 * prd d2) = 0 then (⟨t.Type_, ci (d1 ++ d2), rnL (rdG fold t.Type_ t.Vals m (prd d2)) (prd d1 * prd d2)⟩, 0) else (z0, rnE (rdG fold t.Type_ t.Vals m (prd d2)) (prd d1 * prd d2))) := by
  obtain ⟨f1, f2, f3, f4, f5, f6⟩ := h.facts
  obtain ⟨hsr, p1, p2, hOI, hl⟩ := h.rest
  rw [ref_head h hr (by omega), if_neg (by omega)]
  unfold m_ref12_Reduce_j1
  have step : ∀ (f j : Nat), j < prd d1 * prd d2 → m_ref12_Reduce_l1 (ci (d1 ++ d2)) t (i : Int) fold (f + 1) (j : Int) ⟨t.Type_, ci (d1 ++ d2), rnL (rdG fold t.Type_ t.Vals m (prd d2)) j ++ List.replicate (prd d1 * prd d2 - j) ⟨0, 0⟩⟩ =
      if (rdG fold t.Type_ t.Vals m (prd d2) j).2 = 0 then m_ref12_Reduce_l1 (ci (d1 ++ d2)) t (i : Int) fold f ((j + 1 : Nat) : Int) ⟨t.Type_, ci (d1 ++ d2), rnL (rdG fold t.Type_ t.Vals m (prd d2)) (j + 1) ++ List.replicate (prd d1 * prd d2 - (j + 1)) ⟨0, 0⟩⟩ else some (z0, (rdG fold t.Type_ t.Vals m (prd d2) j).2) := fun f j hj => by
    obtain ⟨ho, hk, e⟩ := row_of (by omega) hj
    have hln := ref_line h ho hk
    have hrd := (ln_ok h fold ho hk).2
    rw [e] at hln hrd
    simp only [m_ref12_Reduce_l1]
    rw [ref12_Size hsr.pos (by rw [prd_app]; omega) (by rw [List.length_append]; omega), Option.bind_some, prd_app, if_pos (lt_dec hj), ref12_Point hsr (by omega), Option.bind_some, hln, Option.bind_some, if_pos (by simp; omega), hrd, Option.bind_some]
    by_cases h0 : (rdG fold t.Type_ t.Vals m (prd d2) j).2 = 0
    · rw [if_neg (by simp [h0]), if_pos h0, if_pos (by simp [rnL_len]; omega), m_ref12_Reduce_j2, Int.toNat_natCast, wis (by omega)]
      congr 2
      obtain ⟨c, hc⟩ : ∃ c, prd d1 * prd d2 - j = c + 1 := ⟨prd d1 * prd d2 - j - 1, by omega⟩
      rw [hc, show prd d1 * prd d2 - (j + 1) = c by omega, List.set_append_right _ _ (by rw [rnL_len]; exact Nat.le_refl _), rnL_len, Nat.sub_self, rnL_succ]
      simp [List.replicate_succ]
    · rw [if_pos (by simp [h0]), if_neg h0]; rfl
  by_cases h0 : rnE (rdG fold t.Type_ t.Vals m (prd d2)) (prd d1 * prd d2) = 0
  · rw [if_pos h0]
    refine loop_eq (L := fun f s j => m_ref12_Reduce_l1 (ci (d1 ++ d2)) t (i : Int) fold f j s) (n := prd d1 * prd d2) (by omega) (fun j s => s = ⟨t.Type_, ci (d1 ++ d2), rnL (rdG fold t.Type_ t.Vals m (prd d2)) j ++ List.replicate (prd d1 * prd d2 - j) ⟨0, 0⟩⟩) ?_ ?_ _ rfl
    · rintro f j s hj rfl
      left
      exact ⟨_, rfl, by rw [step f j hj, if_pos (rnE_zero h0 j hj)]⟩
    · rintro f s rfl
      simp only [m_ref12_Reduce_l1]
      rw [ref12_Size hsr.pos (by rw [prd_app]; omega) (by rw [List.length_append]; omega), Option.bind_some, prd_app, if_neg (by simp)]
      simp
  · obtain ⟨N, n1, n2, n3, n4⟩ := rnE_first h0
    rw [if_neg h0, n4]
    refine loop_eq (L := fun f s j => m_ref12_Reduce_l1 (ci (d1 ++ d2)) t (i : Int) fold f j s) (n := N) (by omega) (fun j s => s = ⟨t.Type_, ci (d1 ++ d2), rnL (rdG fold t.Type_ t.Vals m (prd d2)) j ++ List.replicate (prd d1 * prd d2 - j) ⟨0, 0⟩⟩) ?_ ?_ _ rfl
    · rintro f j s hj rfl
      left
      exact ⟨_, rfl, by rw [step f j (by omega), if_pos (rnE_zero n2 j hj)]⟩
    · rintro f s rfl
      rw [step f N n1, if_neg n3]
def RcI (t : GTensor) (d1 d2 : List Nat) (m j : Nat) (s : GTensor) : Prop :=
  s.Type_ = t.Type_ ∧ s.Dims = t.Dims ∧ s.Vals.length = t.Vals.length ∧
    ∀ o k c, o < prd d1 → k < prd d2 → c < m → o * prd d2 + k < j → s.Vals[(o * m + c) * prd d2 + k]? = some (prS t.Type_ (lnX t.Vals m (prd d2) (o * prd d2 + k)) c).1
theorem ref_scan {t : GTensor} {dn d1 d2 : List Nat} {i m : Nat} (h : Geo t dn d1 d2 i m) (hr : TeR t) : ∃ s, m_ref12_Reduce t (i : Int) 5 = some (if rnE (rdG 1 t.Type_ t.Vals m (prd d2)) (prd d1 * prd d2) = 0 then (s, 0) else (z0, rnE (rdG 1 t.Type_ t.Vals m (prd d2)) (prd d1 * prd d2))) ∧
    (rnE (rdG 1 t.Type_ t.Vals m (prd d2)) (prd d1 * prd d2) = 0 → RcI t d1 d2 m (prd d1 * prd d2) s) := by
  obtain ⟨f1, f2, f3, f4, f5, f6⟩ := h.facts
  obtain ⟨hsr, p1, p2, hOI, hl⟩ := h.rest
  have hmle : m ≤ prd d1 * m * prd d2 := Nat.le_trans (Nat.le_mul_of_pos_left m f2) (Nat.le_mul_of_pos_right _ f3)
  have hsz : m_ref12_Size (ci (d1 ++ d2)) = some ((prd d1 * prd d2 : Nat) : Int) := by rw [ref12_Size hsr.pos (by rw [prd_app]; omega) (by rw [List.length_append]; omega), prd_app]
  rw [ref_head h hr (by omega), if_pos rfl]
  unfold m_ref12_Reduce_j1
  have put : ∀ (self2 : Int → GTensor → GVal → Option (GTensor × Int)) (j c : Nat) (s : GTensor) (v : GVal), j < prd d1 * prd d2 → c < m → s.Vals.length = t.Vals.length →
      m_ref12_Reduce_j3 (ci (pt (d1 ++ d2) j)) (i : Int) (c : Int) t s self2 v = self2 ((c + 1 : Nat) : Int) ⟨s.Type_, s.Dims, s.Vals.set ((j / prd d2 * m + c) * prd d2 + j % prd d2) v⟩ v := fun self2 j c s v hj hc hsl => by
    obtain ⟨ho, hk, e⟩ := row_of (by omega) hj
    have hp := h.pt (o := j / prd d2) hk
    rw [e] at hp
    unfold m_ref12_Reduce_j3
    rw [hp, h.put (j / prd d2) j c (fun zs10 => (m_ref12_Offset t.Dims zs10).bind fun r7 => if 0 ≤ r7 ∧ r7 < (s.Vals.length : Int) then self2 (wi64 ((c : Int) + 1)) (⟨s.Type_, s.Dims, s.Vals.set (Int.toNat r7) v⟩ : GTensor) v else none)]
    have ho2 := h.off ho hk hc
    rw [e] at ho2
    have hlt := num_lt ho hc hk
    rw [ho2, Option.bind_some, if_pos (by rw [hsl, f4]; omega), Int.toNat_natCast, wis (by omega)]
  have inner : ∀ (self : Int → GTensor → Option (GTensor × Int)) (j : Nat), j < prd d1 * prd d2 → ∀ (s0 : GTensor), RcI t d1 d2 m j s0 → ∀ n, n ≤ m → (prS t.Type_ (lnX t.Vals m (prd d2) j) (n - 1)).2 = 0 →
      ∃ (s' : GTensor × GVal) (f : Nat), ((s'.1.Type_ = t.Type_ ∧ s'.1.Dims = t.Dims ∧ s'.1.Vals.length = t.Vals.length ∧
          (∀ o k c, o < prd d1 → k < prd d2 → c < m → o * prd d2 + k < j → s'.1.Vals[(o * m + c) * prd d2 + k]? = some (prS t.Type_ (lnX t.Vals m (prd d2) (o * prd d2 + k)) c).1) ∧
          (∀ c, c < n → s'.1.Vals[(j / prd d2 * m + c) * prd d2 + j % prd d2]? = some (prS t.Type_ (lnX t.Vals m (prd d2) j) c).1) ∧ s'.2 = (prS t.Type_ (lnX t.Vals m (prd d2) j) (n - 1)).1)) ∧
        m_ref12_Reduce_l2 (lnL t.Vals m (prd d2) j m) t (ci (pt (d1 ++ d2) j)) (i : Int) self (j : Int) fu 0 s0 (lnX t.Vals m (prd d2) j 0) = m_ref12_Reduce_l2 (lnL t.Vals m (prd d2) j m) t (ci (pt (d1 ++ d2) j)) (i : Int) self (j : Int) (f + 1) (n : Int) s'.1 s'.2 := fun self j hj s0 hs0 n hn hz => by
    obtain ⟨ho, hk, e⟩ := row_of (by omega) hj
    have hok : ∀ c, c < m → okV t.Type_ (lnX t.Vals m (prd d2) j c) = true := fun c hc => by have := (h.x ho hk hc).2; rwa [e] at this
    refine loop_reach (L := fun f (s : GTensor × GVal) c => m_ref12_Reduce_l2 (lnL t.Vals m (prd d2) j m) t (ci (pt (d1 ++ d2) j)) (i : Int) self (j : Int) f c s.1 s.2) (n := n) (by omega)
      (fun n s' => s'.1.Type_ = t.Type_ ∧ s'.1.Dims = t.Dims ∧ s'.1.Vals.length = t.Vals.length ∧
          (∀ o k c, o < prd d1 → k < prd d2 → c < m → o * prd d2 + k < j → s'.1.Vals[(o * m + c) * prd d2 + k]? = some (prS t.Type_ (lnX t.Vals m (prd d2) (o * prd d2 + k)) c).1) ∧
          (∀ c, c < n → s'.1.Vals[(j / prd d2 * m + c) * prd d2 + j % prd d2]? = some (prS t.Type_ (lnX t.Vals m (prd d2) j) c).1) ∧ s'.2 = (prS t.Type_ (lnX t.Vals m (prd d2) j) (n - 1)).1) ?_ (s0, lnX t.Vals m (prd d2) j 0) ⟨hs0.1, hs0.2.1, hs0.2.2.1, hs0.2.2.2, fun c hc => by omega, rfl⟩
    rintro f c ⟨s, v⟩ hc ⟨s1, s2, s3, s4, s5, s6⟩
    dsimp only at s1 s2 s3 s4 s5 s6
    have hcm : c < m := by omega
    have hpl := num_lt ho hcm hk
    have hstep : m_ref12_Reduce_l2 (lnL t.Vals m (prd d2) j m) t (ci (pt (d1 ++ d2) j)) (i : Int) self (j : Int) (f + 1) (c : Int) s v = m_ref12_Reduce_l2 (lnL t.Vals m (prd d2) j m) t (ci (pt (d1 ++ d2) j)) (i : Int) self (j : Int) f ((c + 1 : Nat) : Int) ⟨s.Type_, s.Dims, s.Vals.set ((j / prd d2 * m + c) * prd d2 + j % prd d2) (prS t.Type_ (lnX t.Vals m (prd d2) j) c).1⟩ (prS t.Type_ (lnX t.Vals m (prd d2) j) c).1 := by
      simp only [m_ref12_Reduce_l2]
      rw [lnL_len, if_pos (lt_dec hcm)]
      rcases c with _ | c
      · rw [if_neg (by simp), put _ j 0 s v hj hcm s3, s6]
      · have hzc := prS_pre hz (show c + 1 ≤ n - 1 by omega)
        have hzc' := prS_pre hz (show c ≤ n - 1 by omega)
        have hlc : lat (lnL t.Vals m (prd d2) j m) ((c + 1 : Nat) : Int) = some (lnX t.Vals m (prd d2) j (c + 1)) := lat_at (by unfold lnL; simp [hcm])
        have hap := prS_step h.ten.ty (c := c) (fun q hq => hok q (by omega)) hzc'
        have hvr : VaR (prS t.Type_ (lnX t.Vals m (prd d2) j) c).1 := by
          rcases prS_ok h.ten.ty c (fun q hq => hok q (by omega)) with ⟨_, h1⟩ | ⟨h1, _⟩
          · exact frVaR (frOK_of h.ten.ty h1)
          · omega
        rw [value_Apply hvr (frVaR (frOK_of h.ten.ty (hok (c + 1) hcm)))] at hap
        rw [Nat.add_sub_cancel] at s6
        rw [if_pos (by simp), hlc, Option.bind_some, s6, hap, Option.bind_some, if_neg (by simp [hzc]), put _ j (c + 1) s _ hj hcm s3]
    refine ⟨(⟨s.Type_, s.Dims, s.Vals.set ((j / prd d2 * m + c) * prd d2 + j % prd d2) (prS t.Type_ (lnX t.Vals m (prd d2) j) c).1⟩, (prS t.Type_ (lnX t.Vals m (prd d2) j) c).1), ⟨s1, s2, by simp only [List.length_set]; exact s3, fun o k c' ho' hk' hc' hj' => ?_, fun c' hc' => ?_, by rw [Nat.add_sub_cancel]⟩, hstep⟩
    · dsimp only
      rw [List.getElem?_set_ne (fun e' => by
        have := num_inj hcm hk hc' hk' e'
        rw [← this.1, ← this.2.2, e] at hj'; omega)]
      exact s4 o k c' ho' hk' hc' hj'
    · dsimp only
      by_cases ec : c' = c
      · subst ec
        rw [List.getElem?_set_self (by rw [s3, f4]; exact hpl)]
      · rw [List.getElem?_set_ne (fun e' => ec (num_inj hcm hk (show c' < m by omega) hk e').2.1.symm)]
        exact s5 c' (by omega)
  have line : ∀ (f j : Nat) (s0 : GTensor), j < prd d1 * prd d2 → RcI t d1 d2 m j s0 →
      (rdG 1 t.Type_ t.Vals m (prd d2) j).2 = (prS t.Type_ (lnX t.Vals m (prd d2) j) (m - 1)).2 ∧
      (((rdG 1 t.Type_ t.Vals m (prd d2) j).2 = 0 ∧ ∃ s', RcI t d1 d2 m (j + 1) s' ∧ m_ref12_Reduce_l1 (ci (d1 ++ d2)) t (i : Int) 5 (f + 1) (j : Int) s0 = m_ref12_Reduce_l1 (ci (d1 ++ d2)) t (i : Int) 5 f ((j + 1 : Nat) : Int) s') ∨
       ((rdG 1 t.Type_ t.Vals m (prd d2) j).2 ≠ 0 ∧ m_ref12_Reduce_l1 (ci (d1 ++ d2)) t (i : Int) 5 (f + 1) (j : Int) s0 = some (z0, (rdG 1 t.Type_ t.Vals m (prd d2) j).2))) := fun f j s0 hj hs0 => by
    obtain ⟨ho, hk, e⟩ := row_of (by omega) hj
    have hsum := sum_line h ho hk
    rw [e] at hsum
    have hrd : rdG 1 t.Type_ t.Vals m (prd d2) j = prS t.Type_ (lnX t.Vals m (prd d2) j) (m - 1) := by unfold rdG; rw [hsum]; rfl
    rw [hrd]
    refine ⟨rfl, ?_⟩
    have hln := ref_line h ho hk
    rw [e] at hln
    have hl0 : lat (lnL t.Vals m (prd d2) j m) 0 = some (lnX t.Vals m (prd d2) j 0) := lat_at (i := 0) (by unfold lnL; rw [List.getElem?_map, List.getElem?_range (by omega)]; rfl)
    have hhead : m_ref12_Reduce_l1 (ci (d1 ++ d2)) t (i : Int) 5 (f + 1) (j : Int) s0 = m_ref12_Reduce_l2 (lnL t.Vals m (prd d2) j m) t (ci (pt (d1 ++ d2) j)) (i : Int) (m_ref12_Reduce_l1 (ci (d1 ++ d2)) t (i : Int) 5 f) (j : Int) fu 0 s0 (lnX t.Vals m (prd d2) j 0) := by
      simp only [m_ref12_Reduce_l1]
      rw [hsz, Option.bind_some, if_pos (lt_dec hj), ref12_Point hsr (by omega), Option.bind_some, hln, Option.bind_some, if_neg (by decide), hl0, Option.bind_some]
    rw [hhead]
    have hok : ∀ c, c < m → okV t.Type_ (lnX t.Vals m (prd d2) j c) = true := fun c hc => by have := (h.x ho hk hc).2; rwa [e] at this
    by_cases h0 : (prS t.Type_ (lnX t.Vals m (prd d2) j) (m - 1)).2 = 0
    · left
      refine ⟨h0, ?_⟩
      obtain ⟨s', f', ⟨a1, a2, a3, a4, a5, a6⟩, a7⟩ := inner (m_ref12_Reduce_l1 (ci (d1 ++ d2)) t (i : Int) 5 f) j hj s0 hs0 m (Nat.le_refl _) h0
      refine ⟨s'.1, ⟨a1, a2, a3, fun o k c ho' hk' hc hj' => ?_⟩, ?_⟩
      · by_cases ej : o * prd d2 + k = j
        · have e2 : o * prd d2 + k = j / prd d2 * prd d2 + j % prd d2 := by rw [ej, e]
          obtain ⟨rfl, rfl⟩ := row_inj hk' hk e2
          rw [a5 c hc, ej]
        · exact a4 o k c ho' hk' hc (by omega)
      · rw [a7]
        simp only [m_ref12_Reduce_l2]
        rw [lnL_len, if_neg (by simp), m_ref12_Reduce_j2, wis (by omega)]
    · right
      refine ⟨h0, ?_⟩
      have key : ∀ q, q < m → (prS t.Type_ (lnX t.Vals m (prd d2) j) q).2 ≠ 0 → ∃ n, n + 1 ≤ q ∧ (prS t.Type_ (lnX t.Vals m (prd d2) j) n).2 = 0 ∧ (prS t.Type_ (lnX t.Vals m (prd d2) j) (n + 1)).2 ≠ 0 ∧ (prS t.Type_ (lnX t.Vals m (prd d2) j) (n + 1)).2 = (prS t.Type_ (lnX t.Vals m (prd d2) j) q).2 := by
        intro q
        induction q with
        | zero => intro _ hq; exact absurd rfl hq
        | succ q ih =>
          intro hqm hq
          by_cases h0 : (prS t.Type_ (lnX t.Vals m (prd d2) j) q).2 = 0
          · exact ⟨q, Nat.le_refl _, h0, hq, rfl⟩
          · obtain ⟨n, n1, n2, n3, n4⟩ := ih (by omega) h0
            refine ⟨n, by omega, n2, n3, n4.trans ?_⟩
            conv => rhs; rw [prS, if_neg h0]
      obtain ⟨n, n1, n2, n3, n4⟩ := key (m - 1) (by omega) h0
      obtain ⟨s', f', ⟨a1, a2, a3, a4, a5, a6⟩, a7⟩ := inner (m_ref12_Reduce_l1 (ci (d1 ++ d2)) t (i : Int) 5 f) j hj s0 hs0 (n + 1) (by omega) (by rw [Nat.add_sub_cancel]; exact n2)
      rw [a7]
      have hcm : n + 1 < m := by omega
      have hlc : lat (lnL t.Vals m (prd d2) j m) ((n + 1 : Nat) : Int) = some (lnX t.Vals m (prd d2) j (n + 1)) := lat_at (by unfold lnL; simp [hcm])
      have hap := prS_step h.ten.ty (c := n) (fun q hq => hok q (by omega)) n2
      have hvr : VaR (prS t.Type_ (lnX t.Vals m (prd d2) j) n).1 := by
        rcases prS_ok h.ten.ty n (fun q hq => hok q (by omega)) with ⟨_, h1⟩ | ⟨h1, _⟩
        · exact frVaR (frOK_of h.ten.ty h1)
        · omega
      rw [value_Apply hvr (frVaR (frOK_of h.ten.ty (hok (n + 1) hcm)))] at hap
      rw [Nat.add_sub_cancel] at a6
      simp only [m_ref12_Reduce_l2]
      rw [lnL_len, if_pos (lt_dec hcm), if_pos (by simp), hlc, Option.bind_some, a6, hap, Option.bind_some, if_pos (by simp [n3]), n4]; rfl
  have hstart : RcI t d1 d2 m 0 ⟨t.Type_, t.Dims, List.replicate t.Vals.length ⟨0, 0⟩⟩ := ⟨rfl, rfl, by simp, fun o k c _ _ _ hj => by omega⟩
  by_cases h0 : rnE (rdG 1 t.Type_ t.Vals m (prd d2)) (prd d1 * prd d2) = 0
  · obtain ⟨s', f', hs', hL⟩ := loop_reach (L := fun f s j => m_ref12_Reduce_l1 (ci (d1 ++ d2)) t (i : Int) 5 f j s) (n := prd d1 * prd d2) (by omega) (fun j s => RcI t d1 d2 m j s) (fun f j s hj hs => by
      rcases (line f j s hj hs).2 with ⟨_, s', h1, h2⟩ | ⟨h1, _⟩
      · exact ⟨s', h1, h2⟩
      · exact absurd (rnE_zero h0 j hj) h1) _ hstart
    refine ⟨s', ?_, fun _ => hs'⟩
    rw [if_pos h0]
    refine hL.trans ?_
    simp only [m_ref12_Reduce_l1]
    rw [hsz, Option.bind_some, if_neg (by simp)]
  · refine ⟨z0, ?_, fun e => absurd e h0⟩
    obtain ⟨N, n1, n2, n3, n4⟩ := rnE_first h0
    rw [if_neg h0, n4]
    obtain ⟨s', f', hs', hL⟩ := loop_reach (L := fun f s j => m_ref12_Reduce_l1 (ci (d1 ++ d2)) t (i : Int) 5 f j s) (n := N) (by omega) (fun j s => RcI t d1 d2 m j s) (fun f j s hj hs => by
      rcases (line f j s (by omega) hs).2 with ⟨_, s', h1, h2⟩ | ⟨h1, _⟩
      · exact ⟨s', h1, h2⟩
      · exact absurd (rnE_zero n2 j hj) h1) _ hstart
    refine hL.trans ?_
    rcases (line f' N s' n1 hs').2 with ⟨h1, _⟩ | ⟨_, h2⟩
    · exact absurd h1 n3
    · exact h2
theorem scan_same {t : GTensor} {dn d1 d2 : List Nat} {i m : Nat} (h : Geo t dn d1 d2 i m) {a b : GTensor} (ha : ScI t d1 d2 m (prd d1 * prd d2) a) (hb : RcI t d1 d2 m (prd d1 * prd d2) b) : a = b := by
  obtain ⟨f1, f2, f3, f4, f5, f6⟩ := h.facts
  obtain ⟨a1, a2, a3, a4, a5⟩ := ha
  obtain ⟨b1, b2, b3, b4⟩ := hb
  have hv : a.Vals = b.Vals := by
    refine list_ext' (by rw [a3, b3]) fun q hq => ?_
    rw [a3, f4] at hq
    obtain ⟨q1, q2, q3, q4⟩ := num_split hq
    have hj : q / (m * prd d2) * prd d2 + q % prd d2 < prd d1 * prd d2 := by
      have : (q / (m * prd d2) + 1) * prd d2 ≤ prd d1 * prd d2 := Nat.mul_le_mul_right _ q1
      rw [Nat.add_mul, Nat.one_mul] at this; omega
    have e1 := a5 _ _ _ q1 q3 q2
    have e2 := b4 _ _ _ q1 q3 q2 hj
    rw [if_pos hj, ← q4] at e1
    rw [← q4] at e2
    rw [e1, e2]
  cases a; cases b
  simp only at a1 a2 b1 b2 hv
  rw [a1, a2, b1, b2, hv]
theorem law_TensorReduces (t : GTensor) (axis fold : Int) (ht : okGTensor t) (_ : okI .i64 axis) (_ : okI .i64 fold) : m_law12_TensorReduces t axis fold = some true := by
  unfold m_law12_TensorReduces
  rw [small12, Option.bind_some]
  by_cases hs : (t.Vals.length : Int) ≤ 1000 ∧ (t.Dims.length : Int) ≤ 20
  rotate_left
  · rw [if_pos (by simp; omega), ex12]; rfl
  rw [if_neg (by simp; omega)]
  have hr := TeR.of ht
  have fin : ∀ r : GTensor × Int, m_tensor_Reduce t axis fold = some r → m_ref12_Reduce t axis fold = some r → m_base_Tensor r.1 r.1 = some true → ((m_tensor_Reduce t axis fold).bind fun r3 => (m_ref12_Reduce t axis fold).bind fun r4 => (m_base_Tensor r3.1 r4.1).bind fun r5 => (gd (r5 && (decide (r3.2 = r4.2))) (m_law12_examples)).bind fun r6 => some ((r5 && (decide (r3.2 = r4.2))) && r6)) = some true := fun r h1 h2 h3 => by
    rw [h1, h2, Option.bind_some, Option.bind_some, h3, ex12]; simp [gd]
  by_cases he : teErr t = 0
  rotate_left
  · refine fin (z0, teErr t) ?_ ?_ z0_refl
    · unfold m_tensor_Reduce
      rw [tensor_Validate hr (by omega) (by omega), Option.bind_some, if_pos (by simp [he])]; rfl
    · unfold m_ref12_Reduce
      rw [ref12_Validate hr (by omega) (by omega), Option.bind_some, if_pos (by simp [he])]; rfl
  by_cases ha : 0 ≤ axis ∧ axis < (t.Dims.length : Int)
  rotate_left
  · refine fin (z0, 11) ?_ ?_ z0_refl
    · unfold m_tensor_Reduce
      rw [tensor_Validate hr (by omega) (by omega), Option.bind_some, if_neg (by simp [he]), if_pos (by simp; omega)]; rfl
    · unfold m_ref12_Reduce
      rw [ref12_Validate hr (by omega) (by omega), Option.bind_some, if_neg (by simp [he]), if_pos (by simp; omega)]; rfl
  by_cases hf : 1 ≤ fold ∧ fold ≤ 5
  rotate_left
  · refine fin (z0, 1) ?_ ?_ z0_refl
    · unfold m_tensor_Reduce
      rw [tensor_Validate hr (by omega) (by omega), Option.bind_some, if_neg (by simp [he]), if_neg (by simp; omega), if_pos (by simp; omega)]; rfl
    · unfold m_ref12_Reduce
      rw [ref12_Validate hr (by omega) (by omega), Option.bind_some, if_neg (by simp [he]), if_neg (by simp; omega), if_pos (by simp; omega)]; rfl
  obtain ⟨dn, hten⟩ := Ten.of he
  obtain ⟨i, rfl⟩ := Int.eq_ofNat_of_zero_le ha.1
  have hdl : t.Dims.length = dn.length := by rw [hten.shp.eq, ci_len]
  obtain ⟨m, hm⟩ := at_some (l := dn) (i := i) (by omega)
  have hax := Ax.of hm
  have geo : Geo t dn (dn.take i) (dn.drop (i + 1)) i m := ⟨hten, hax.eq, hax.len⟩
  obtain ⟨_, _, _, hOI, hl5⟩ := geo.rest
  by_cases h5 : fold = 5
  · subst h5
    obtain ⟨a, a1, a2⟩ := tensor_scan geo hr
    obtain ⟨b, b1, b2⟩ := ref_scan geo hr
    by_cases h0 : rnE (rdG 1 t.Type_ t.Vals m (prd (dn.drop (i + 1)))) (prd (dn.take i) * prd (dn.drop (i + 1))) = 0
    · rw [if_pos h0] at a1 b1
      have e := scan_same geo (a2 h0) (b2 h0)
      subst e
      refine fin (a, 0) a1 b1 ?_
      have hsi := a2 h0
      exact base_Tensor_refl (by rw [hsi.2.1]; omega) (by rw [hsi.2.2.1]; omega)
    · rw [if_neg h0] at a1 b1
      exact fin _ a1 b1 z0_refl
  · have a1 := tensor_Reduce geo hr (fold := fold) (by omega) (fun o k ho hk => ⟨_, (ln_ok geo fold ho hk).1⟩)
    have b1 := ref_Reduce geo hr (fold := fold) (by omega)
    refine fin _ a1 b1 ?_
    split
    · exact base_Tensor_refl (by simp only [ci_len, List.length_append]; omega) (by simp only [rnL_len]; omega)
    · exact z0_refl
end Go.Proofs.YtlakfanockhngaaGreatDoor
