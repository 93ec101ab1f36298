import Derived.Test.YtpedfojbfbccaaaGreatSXj
namespace Go.Proofs.YtpedfojbfbccaaaGreat
open Go Go.RowKit Go.Vc
set_option linter.unusedVariables false
set_option linter.unusedSimpArgs false
def Stp (md dn : List Nat) (s s' : List Int) (tr : GTransfer) : Prop :=
  Sp md dn s' ∧
    ((tr.Op = 1 ∧ ∃ a k : Nat, tr.Mesh = (a : Int) ∧ tr.From = (k : Int) ∧ s[k]? = some (a : Int) ∧ s' = s.set k (-1)) ∨
     (tr.Op = 4 ∧ ∃ a k : Nat, tr.Mesh = (a : Int) ∧ tr.From = (k : Int) ∧ s[k]? = some (-1) ∧ s' = s.set k (a : Int)) ∨
     (tr.Op = 3 ∧ ∃ a k j : Nat, tr.Mesh = (a : Int) ∧ tr.From = (k : Int) ∧ tr.To = (j : Int) ∧ s[k]? = some (a : Int) ∧ (s.set k (-1))[j]? = some (-1) ∧ s' = (s.set k (-1)).set j (a : Int)))
def Run (md dn : List Nat) : List Int → List GTransfer → List Int → Prop
  | s, [], s' => s = s'
  | s, tr :: r, s' => ∃ u, Stp md dn s u tr ∧ Run md dn u r s'
theorem Run.snoc {md dn : List Nat} : ∀ {r : List GTransfer} {s u v : List Int} {tr : GTransfer}, Run md dn s r u → Stp md dn u v tr → Run md dn s (r ++ [tr]) v
  | [], s, u, v, tr, h, hs => by
    have h' : s = u := h
    subst h'
    exact ⟨v, hs, rfl⟩
  | x :: r, s, u, v, tr, h, hs => by
    obtain ⟨w, h1, h2⟩ := h
    exact ⟨w, h1, Run.snoc h2 hs⟩
theorem run_loop {m : GMesh} {t : GTensor} {md dn : List Nat} {from_ to_ : List Int} (hm : Msh m.Dims md) (ht : Ten t dn) (hr : TeR t) (hs : Sp md dn from_) {pl : List GTransfer} (hpl : pl.length ≤ 1000) (hrun : Run md dn from_ pl to_) :
    m_collective_Reshard_l1 pl m fu (blks t md dn from_) 0 = some (blks t md dn to_, (pl.length : Int), 0) := by
  refine loop_eq (L := m_collective_Reshard_l1 pl m) (n := pl.length) (by omega) (fun i out => ∃ u, Sp md dn u ∧ out = blks t md dn u ∧ Run md dn u (pl.drop i) to_) ?_ ?_ _ ⟨from_, hs, rfl, hrun⟩
  · rintro f i out hi ⟨u, hu, rfl, hrun⟩
    obtain ⟨tr, htr⟩ := at_some hi
    rw [drop_at htr] at hrun
    obtain ⟨v, ⟨hv, hstep⟩, hrun'⟩ := hrun
    left
    refine ⟨blks t md dn v, ⟨v, hv, rfl, hrun'⟩, ?_⟩
    simp only [m_collective_Reshard_l1]
    rw [if_pos (lt_dec hi), lat_at htr, Option.bind_some]
    rcases hstep with ⟨ho, a, k, e1, e2, e3, rfl⟩ | ⟨ho, a, k, e1, e2, e3, rfl⟩ | ⟨ho, a, k, j, e1, e2, e3, e4, e5, rfl⟩
    · rw [if_neg (by simp [ho]), if_pos (by simp [ho]), e1, e2, gather_step hm ht hr hu e3, Option.bind_some, m_collective_Reshard_j2, if_neg (by simp), wis (by omega)]
    · rw [if_neg (by simp [ho]), if_neg (by simp [ho]), e1, e2, slice_step hm ht hr hu e3 hv, Option.bind_some, m_collective_Reshard_j2, if_neg (by simp), wis (by omega)]
    · rw [if_pos (by simp [ho]), e1, e2, e3]
      unfold m_collective_AllToAll
      rw [gather_step hm ht hr hu e4, Option.bind_some, if_neg (by simp), slice_step hm ht hr (hu.clear k) e5 hv, Option.bind_some, Option.bind_some, m_collective_Reshard_j2, if_neg (by simp), wis (by omega)]
  · rintro f out ⟨u, hu, rfl, hrun⟩
    rw [List.drop_length] at hrun
    have e : u = to_ := hrun
    subst e
    simp only [m_collective_Reshard_l1]
    rw [if_neg (by simp)]
def dB (m : List (Int × Bool)) (k : Nat) : Bool := (mget m (k : Int)).getD false
theorem PlB.u {s : List Int} (h : PlB s) {k k' : Nat} {x : Int} (h0 : 0 ≤ x) (hk : s[k]? = some x) (hk' : s[k']? = some x) : k = k' := by
  rcases Nat.lt_trichotomy k k' with e | e | e
  · have := h.2 k k' x e hk' hk; omega
  · exact e
  · have := h.2 k' k x e hk hk'; omega
theorem Plan_run {md dn : List Nat} {from_ to_ : List Int} (hf : PlB from_) (ht : PlB to_) (sf : Sp md dn from_) (st : Sp md dn to_) (hn : dn.length ≤ 6) : ∃ r, m_collective_Plan from_ to_ = some r ∧ Run md dn from_ r to_ ∧ r.length ≤ 100 := by
  have hlf := sf.len
  have hlt := st.len
  obtain ⟨b, b1, b2, b3⟩ := plain_same from_ (by omega)
  obtain ⟨c, c1, c2, c3⟩ := plain_same to_ (by omega)
  have hb : b = true := b3.2 hf
  have hc : c = true := c3.2 ht
  subst hb; subst hc
  unfold m_collective_Plan
  rw [b1, c1]
  have hl : (from_.length : Int) = (to_.length : Int) := by omega
  simp only [hl, decide_true, Bool.not_true, Bool.not_false, gd, if_true, Option.bind_some, Bool.or_false, Bool.false_eq_true, if_false]
  refine loop_fu (L := fun f (s : List GTransfer × List (Int × Bool)) i => m_collective_Plan_l2 from_ to_ f s.1 i s.2) (n := from_.length) (by omega)
    (fun i s => ∃ c, Run md dn from_ s.1 c ∧ Sp md dn c ∧ s.1.length ≤ i ∧ (∀ (k : Nat) (x y : Int), from_[k]? = some x → to_[k]? = some y → c[k]? = some (if 0 ≤ x then (if k < i ∧ y ≠ x then -1 else x) else (if dB s.2 k = true then y else -1))) ∧
      ∀ k : Nat, dB s.2 k = true → ∃ (y : Int) (i' : Nat), from_[k]? = some (-1) ∧ to_[k]? = some y ∧ 0 ≤ y ∧ i' < i ∧ from_[i']? = some y)
    (fun r => Run md dn from_ r to_ ∧ r.length ≤ 100) ?_ ?_ (([] : List GTransfer), ([] : List (Int × Bool))) ⟨from_, rfl, sf, by simp, fun k x y hx hy => ?_, fun k hk => by simp [dB, mget] at hk⟩
  · rintro f i ⟨out, m⟩ hi ⟨c, hrun, hsc, hol, hC, hD⟩
    dsimp only at hrun hol hC hD
    obtain ⟨x, hx⟩ := at_some hi
    obtain ⟨y, hy⟩ := at_some (l := to_) (i := i) (by omega)
    left
    simp only [m_collective_Plan_l2]
    rw [if_pos (lt_dec hi), lat_at hx, Option.bind_some]
    by_cases hx0 : x < 0
    · refine ⟨(out, m), ⟨c, hrun, hsc, by simp; omega, fun k x' y' hx' hy' => ?_, fun k hk => ?_⟩, ?_⟩
      · rw [hC k x' y' hx' hy']
        by_cases e : k = i
        · subst e
          rw [hx] at hx'
          have := Option.some.inj hx'
          have hn0 : ¬ 0 ≤ x' := by omega
          simp only [hn0, if_false]
        · have : (k < i + 1 ∧ y' ≠ x') ↔ (k < i ∧ y' ≠ x') := by constructor <;> rintro ⟨h1, h2⟩ <;> exact ⟨by omega, h2⟩
          simp only [this]
      · obtain ⟨y', i', h1, h2, h3, h4, h5⟩ := hD k hk
        exact ⟨y', i', h1, h2, h3, by omega, h5⟩
      · simp [hx0, gd, m_collective_Plan_j3, wis (show i < 4611686018427387904 by omega)]
    have hx0' : 0 ≤ x := by omega
    rw [show (!decide (x < 0)) = true by simp; omega, lat_at hy]
    simp only [gd, if_true, Option.bind_some]
    by_cases hxy : y = x
    · refine ⟨(out, m), ⟨c, hrun, hsc, by simp; omega, fun k x' y' hx' hy' => ?_, fun k hk => ?_⟩, ?_⟩
      · rw [hC k x' y' hx' hy']
        by_cases e : k = i
        · subst e
          rw [hx] at hx'; rw [hy] at hy'
          have e1 := Option.some.inj hx'; have e2 := Option.some.inj hy'
          have h1 : ¬ (k < k ∧ y' ≠ x') := fun h => h.2 (by omega)
          have h2 : ¬ (k < k + 1 ∧ y' ≠ x') := fun h => h.2 (by omega)
          simp only [h1, h2]
        · have : (k < i + 1 ∧ y' ≠ x') ↔ (k < i ∧ y' ≠ x') := by constructor <;> rintro ⟨h1, h2⟩ <;> exact ⟨by omega, h2⟩
          simp only [this]
      · obtain ⟨y', i', h1, h2, h3, h4, h5⟩ := hD k hk
        exact ⟨y', i', h1, h2, h3, by omega, h5⟩
      · rw [if_pos (by simp [hxy])]
        simp only [m_collective_Plan_j3]
        rw [wis (by omega)]
    rw [if_neg (by simp [hxy]; omega)]
    have hci : c[i]? = some x := by rw [hC i x y hx hy, if_pos hx0', if_neg (by omega)]
    have hxa : x = ((x.toNat : Nat) : Int) := (Int.toNat_of_nonneg hx0').symm
    by_cases hrc : ∃ j, Rc from_ to_ x j
    · obtain ⟨j, hj⟩ := hrc
      have hjl : j < to_.length := (List.getElem?_eq_some_iff.1 hj.1).1
      have hij : i ≠ j := fun e => by
        subst e; rw [hj.2] at hx; have := Option.some.inj hx; omega
      have hdj : dB m j = false := by
        cases hd : dB m j
        · rfl
        · obtain ⟨y', i', h1, h2, h3, h4, h5⟩ := hD j hd
          rw [hj.1] at h2
          have e2 := Option.some.inj h2
          have := hf.u hx0' hx (by rw [h5, e2])
          omega
      have hcj : c[j]? = some (-1) := by rw [hC j (-1) x hj.2 hj.1, if_neg (by decide), hdj]; rfl
      have hcj' : (c.set i (-1))[j]? = some (-1) := by rw [List.getElem?_set_ne hij]; exact hcj
      obtain ⟨q, hq⟩ := st.md hj.1 hx0'
      obtain ⟨d, hd⟩ := at_some (l := dn) (i := j) (by omega)
      have hdq := st.dv j x d q hj.1 hx0' hd hq
      have hother : ∀ k, k ≠ j → (c.set i (-1))[k]? ≠ some ((x.toNat : Nat) : Int) := fun k hk h => by
        rw [← hxa] at h
        by_cases e : k = i
        · subst e
          have hcl := (List.getElem?_eq_some_iff.1 hci).1
          rw [List.getElem?_set_self hcl] at h
          have := Option.some.inj h; omega
        · rw [List.getElem?_set_ne (fun h => e h.symm)] at h
          have hkl := (List.getElem?_eq_some_iff.1 h).1
          rw [hsc.len] at hkl
          obtain ⟨x', hx'⟩ := at_some (l := from_) (i := k) (by omega)
          obtain ⟨y', hy'⟩ := at_some (l := to_) (i := k) (by omega)
          rw [hC k x' y' hx' hy'] at h
          have h := Option.some.inj h
          split at h
          · split at h
            · omega
            · subst h; exact e (hf.u hx0' hx' hx)
          · split at h
            · subst h; exact hk (ht.u hx0' hy' hj.1)
            · omega
      have hsp := (hsc.clear i).put hother hq hd hdq
      refine ⟨(out ++ [⟨3, x, i, j, []⟩], mput m j true), ⟨(c.set i (-1)).set j x, ?_, by rw [hxa]; exact hsp, by simp; omega, fun k x' y' hx' hy' => ?_, fun k hk => ?_⟩, ?_⟩
      · refine hrun.snoc ⟨by rw [hxa]; exact hsp, .inr (.inr ⟨rfl, x.toNat, i, j, hxa, rfl, rfl, by rw [← hxa]; exact hci, hcj', by rw [← hxa]⟩)⟩
      · have hcl : j < (c.set i (-1)).length := (List.getElem?_eq_some_iff.1 hcj').1
        dsimp only
        by_cases ej : k = j
        · subst ej
          rw [hj.1] at hy'; rw [hj.2] at hx'
          have e1 := Option.some.inj hx'; have e2 := Option.some.inj hy'
          rw [List.getElem?_set_self hcl, if_neg (by omega), if_pos (by unfold dB; rw [mget_mput, if_pos rfl]; rfl), e2]
        · rw [List.getElem?_set_ne (fun h => ej h.symm)]
          have hdk : dB (mput m (j : Int) true) k = dB m k := by unfold dB; rw [mget_mput, if_neg (by omega)]
          rw [hdk]
          by_cases e : k = i
          · subst e
            rw [hx] at hx'; rw [hy] at hy'
            have e1 := Option.some.inj hx'; have e2 := Option.some.inj hy'
            rw [List.getElem?_set_self (List.getElem?_eq_some_iff.1 hci).1, if_pos (by omega), if_pos ⟨by omega, by omega⟩]
          · rw [List.getElem?_set_ne (fun h => e h.symm), hC k x' y' hx' hy']
            have : (k < i + 1 ∧ y' ≠ x') ↔ (k < i ∧ y' ≠ x') := by constructor <;> rintro ⟨h1, h2⟩ <;> exact ⟨by omega, h2⟩
            simp only [this]
      · dsimp only at hk
        by_cases ej : k = j
        · subst ej
          exact ⟨x, i, hj.2, hj.1, hx0', by omega, hx⟩
        · have hdk : dB (mput m (j : Int) true) k = dB m k := by unfold dB; rw [mget_mput, if_neg (by omega)]
          rw [hdk] at hk
          obtain ⟨y', i', h1, h2, h3, h4, h5⟩ := hD k hk
          exact ⟨y', i', h1, h2, h3, by omega, h5⟩
      · rw [receiver_yes (by omega) (by omega) hj fun k hk => ht.u hx0' hk hj.1, Option.bind_some, if_pos (by simp), lapp_ok (by simp; omega), Option.bind_some, m_collective_Plan_j3, wis (by omega)]
    · have hrn : ∀ j, ¬ Rc from_ to_ x j := fun j hj => hrc ⟨j, hj⟩
      refine ⟨(out ++ [⟨1, x, i, i, []⟩], m), ⟨c.set i (-1), ?_, hsc.clear i, by simp; omega, fun k x' y' hx' hy' => ?_, fun k hk => ?_⟩, ?_⟩
      · exact hrun.snoc ⟨hsc.clear i, .inl ⟨rfl, x.toNat, i, hxa, rfl, by rw [← hxa]; exact hci, rfl⟩⟩
      · dsimp only
        by_cases e : k = i
        · subst e
          rw [hx] at hx'; rw [hy] at hy'
          have e1 := Option.some.inj hx'; have e2 := Option.some.inj hy'
          rw [List.getElem?_set_self (List.getElem?_eq_some_iff.1 hci).1, if_pos (by omega), if_pos ⟨by omega, by omega⟩]
        · rw [List.getElem?_set_ne (fun h => e h.symm), hC k x' y' hx' hy']
          have : (k < i + 1 ∧ y' ≠ x') ↔ (k < i ∧ y' ≠ x') := by constructor <;> rintro ⟨h1, h2⟩ <;> exact ⟨by omega, h2⟩
          simp only [this]
      · obtain ⟨y', i', h1, h2, h3, h4, h5⟩ := hD k hk
        exact ⟨y', i', h1, h2, h3, by omega, h5⟩
      · rw [receiver_no (by omega) (by omega) hrn, Option.bind_some, if_neg (by decide), lapp_ok (by simp; omega), Option.bind_some, m_collective_Plan_j3, wis (by omega)]
  · rintro f ⟨out, m⟩ ⟨c, hrun, hsc, hol, hC, hD⟩
    dsimp only at hrun hol hC hD
    simp only [m_collective_Plan_l2]
    rw [if_neg (by simp), m_collective_Plan_j1]
    refine loop_fu (L := m_collective_Plan_l1 to_ from_ m) (n := to_.length) (by omega)
      (fun j o => ∃ c, Run md dn from_ o c ∧ Sp md dn c ∧ o.length ≤ from_.length + j ∧ ∀ (k : Nat) (x y : Int), from_[k]? = some x → to_[k]? = some y → c[k]? = some (if k < j ∨ x = y ∨ dB m k = true then y else -1)) _ ?_ ?_ out ⟨c, hrun, hsc, by omega, fun k x y hx hy => ?_⟩
    · rintro g j o hj ⟨c, hrun, hsc, hol, hC⟩
      obtain ⟨y, hy⟩ := at_some hj
      obtain ⟨x, hx⟩ := at_some (l := from_) (i := j) (by omega)
      have hcj := hC j x y hx hy
      left
      simp only [m_collective_Plan_l1]
      rw [if_pos (lt_dec hj), lat_at hy, Option.bind_some, lat_at hx]
      have hrest : ∀ c' : List Int, c'[j]? = some y → (∀ k, k ≠ j → c'[k]? = c[k]?) → ∀ (k : Nat) (x y : Int), from_[k]? = some x → to_[k]? = some y → c'[k]? = some (if k < j + 1 ∨ x = y ∨ dB m k = true then y else -1) := fun c' h1 h2 k x' y' hx' hy' => by
        by_cases e : k = j
        · subst e
          rw [hy] at hy'
          rw [h1, if_pos (.inl (by omega)), Option.some.inj hy']
        · rw [h2 k e, hC k x' y' hx' hy']
          have : (k < j + 1 ∨ x' = y' ∨ dB m k = true) ↔ (k < j ∨ x' = y' ∨ dB m k = true) := by constructor <;> rintro (h | h) <;> first | exact .inr h | exact .inl (by omega)
          simp only [this]
      by_cases hc : 0 ≤ y ∧ x ≠ y ∧ dB m j = false
      · have hcj' : c[j]? = some (-1) := by
          rw [hcj, if_neg]
          rintro (h | h | h)
          · omega
          · exact hc.2.1 h
          · rw [hc.2.2] at h; cases h
        have hya : y = ((y.toNat : Nat) : Int) := (Int.toNat_of_nonneg hc.1).symm
        obtain ⟨q, hq⟩ := st.md hy hc.1
        obtain ⟨d, hd⟩ := at_some (l := dn) (i := j) (by omega)
        have hdq := st.dv j y d q hy hc.1 hd hq
        have hother : ∀ k, k ≠ j → c[k]? ≠ some ((y.toNat : Nat) : Int) := fun k hk h => by
          rw [← hya] at h
          have hkl := (List.getElem?_eq_some_iff.1 h).1
          rw [hsc.len] at hkl
          obtain ⟨x', hx'⟩ := at_some (l := from_) (i := k) (by omega)
          obtain ⟨y', hy'⟩ := at_some (l := to_) (i := k) (by omega)
          rw [hC k x' y' hx' hy'] at h
          have h := Option.some.inj h
          split at h
          · subst h; exact hk (ht.u hc.1 hy' hy)
          · have := hc.1; omega
        have hsp := hsc.put hother hq hd hdq
        rw [← hya] at hsp
        refine ⟨o ++ [⟨4, y, j, j, []⟩], ⟨c.set j y, ?_, hsp, by simp; omega, hrest _ (List.getElem?_set_self (List.getElem?_eq_some_iff.1 hcj').1) fun k hk => List.getElem?_set_ne (fun h => hk h.symm)⟩, ?_⟩
        · exact hrun.snoc ⟨hsp, .inr (.inl ⟨rfl, y.toNat, j, hya, rfl, hcj', by rw [← hya]⟩)⟩
        · have hd2 : (mget m (j : Int)).getD false = false := hc.2.2
          simp only [hc.1, hc.2.1, hd2, decide_true, decide_false, gd, if_true, Option.bind_some, Bool.not_false, Bool.and_true]
          rw [lapp_ok (by simp; omega), Option.bind_some, m_collective_Plan_j2, wis (by omega)]
      · refine ⟨o, ⟨c, hrun, hsc, by omega, hrest c ?_ fun _ _ => rfl⟩, ?_⟩
        · rw [hcj]
          by_cases h0 : 0 ≤ y
          · rw [if_pos]
            by_cases h1 : x = y
            · exact .inr (.inl h1)
            · right; right
              cases hd : dB m j
              · exact absurd ⟨h0, h1, hd⟩ hc
              · rfl
          · have : y = -1 := by have := ht.1 y (List.mem_of_getElem? hy); omega
            rw [this]; split <;> rfl
        · have hd2 : (mget m (j : Int)).getD false = dB m j := rfl
          rw [hd2]
          cases hdj : dB m j <;> by_cases e1 : 0 ≤ y <;> by_cases e2 : x = y <;> first | (exfalso; exact hc ⟨e1, e2, hdj⟩) | simp [e1, e2, gd, m_collective_Plan_j2, wis (show j < 4611686018427387904 by omega)]
    · rintro g o ⟨c, hrun, hsc, hol, hC⟩
      have hct : c = to_ := by
        refine list_ext' (by rw [hsc.len, hlt]) fun k hk => ?_
        rw [hsc.len] at hk
        obtain ⟨x, hx⟩ := at_some (l := from_) (i := k) (by omega)
        obtain ⟨y, hy⟩ := at_some (l := to_) (i := k) (by omega)
        rw [hC k x y hx hy, if_pos (.inl (by omega)), hy]
      subst hct
      refine ⟨o, ?_, hrun, by omega⟩
      simp only [m_collective_Plan_l1]
      rw [if_neg (by simp)]
    · rw [hC k x y hx hy]
      by_cases h0 : 0 ≤ x
      · have hnd : dB m k = false := by
          cases hd : dB m k
          · rfl
          · obtain ⟨_, _, h1, _⟩ := hD k hd
            rw [hx] at h1; have := Option.some.inj h1; omega
        have hkl : k < from_.length := (List.getElem?_eq_some_iff.1 hx).1
        rw [if_pos h0, hnd]
        by_cases e : y = x
        · rw [if_neg (fun h => h.2 e), if_pos (.inr (.inl e.symm)), e]
        · rw [if_pos ⟨hkl, e⟩, if_neg]
          rintro (h | h | h)
          · omega
          · exact e h.symm
          · cases h
      · have hx1 : x = -1 := by have := hf.1 x (List.mem_of_getElem? hx); omega
        rw [if_neg h0]
        cases hd : dB m k
        · rw [if_neg (by decide)]
          by_cases e : x = y
          · rw [if_pos (.inr (.inl e)), ← e, hx1]
          · rw [if_neg]
            rintro (h | h | h)
            · omega
            · exact e h
            · cases h
        · rw [if_pos rfl, if_pos (.inr (.inr rfl))]
  · dsimp only
    rw [hx]
    by_cases h0 : 0 ≤ x
    · rw [if_pos h0, if_neg (by omega)]
    · have hx1 : x = -1 := by have := hf.1 x (List.mem_of_getElem? hx); omega
      rw [if_neg h0, if_neg (by simp [dB, mget]), hx1]
theorem whole_prog {m : GMesh} {md dn : List Nat} {from_ to_ : List Int} (hm : m.Dims = ci md) (c1 : from_.length = dn.length) (c2 : ∀ x ∈ from_, x < (m.Dims.length : Int)) (hdl : dn.length ≤ 6) :
    m_collective_checkReshard_l2 from_ m to_ fu (ci dn) 0 = m_collective_checkReshard_j1 to_ m (whL m dn from_ dn.length) := by
  refine loop_eq (L := m_collective_checkReshard_l2 from_ m to_) (n := dn.length) (by omega) (fun i s => s = whL m dn from_ i ++ (ci dn).drop i) ?_ ?_ (ci dn) (by simp [whL])
  · rintro f i s hi rfl
    obtain ⟨x, hx⟩ := at_some (l := from_) (i := i) (by rw [c1]; exact hi)
    obtain ⟨d, hd⟩ := at_some hi
    have hdc : (ci dn)[i]? = some (d : Int) := by rw [ci_get, hd]; rfl
    left
    have hset : ∀ y : Int, (whL m dn from_ i ++ (ci dn).drop i).set i y = whL m dn from_ i ++ [y] ++ (ci dn).drop (i + 1) := fun y => by
      rw [List.set_append_right _ _ (by rw [whL_len]; exact Nat.le_refl _), whL_len, drop_at hdc]; simp
    simp only [m_collective_checkReshard_l2]
    rw [c1, if_pos (lt_dec hi), lat_at hx, Option.bind_some]
    by_cases h0 : 0 ≤ x
    · obtain ⟨q, hq, hq2, hq3⟩ := lat_sp hm h0 (c2 x (List.mem_of_getElem? hx))
      refine ⟨_, rfl, ?_⟩
      rw [if_pos (by simpa using h0), latN, List.getElem?_append_right (by rw [whL_len]; exact Nat.le_refl _), whL_len, List.getElem?_drop, show i + (i - i) = i by omega, hdc, Option.bind_some, hq2, Option.bind_some, if_pos (by simp [whL_len, ci_len]; omega), m_collective_checkReshard_j2, Int.toNat_natCast, hset, wis (by omega), whL_succ]
      unfold whV
      rw [hx, hd]
      simp only [Option.getD_some]
      rw [if_pos h0, hq3]; rfl
    · refine ⟨_, rfl, ?_⟩
      rw [if_neg (by simpa using h0), m_collective_checkReshard_j2, wis (by omega), whL_succ, drop_at hdc]
      unfold whV
      rw [hx, hd]
      simp only [Option.getD_some]
      rw [if_neg h0]; simp
  · rintro f s rfl
    simp only [m_collective_checkReshard_l2]
    rw [c1, if_neg (by simp), List.drop_of_length_le (by rw [ci_len]; exact Nat.le_refl _), List.append_nil]
theorem Sp.SpB {m : GMesh} {md dn : List Nat} {s : List Int} (h : Sp md dn s) (hm : m.Dims = ci md) (hp : PlB s) (n : Nat) (hn : n = dn.length) : Go.Proofs.YtpedfojbfbccaaaGreat.SpB m n s := ⟨by rw [h.len, hn], hp, fun x hx => by
  obtain ⟨k, hk⟩ := List.mem_iff_getElem?.1 hx
  rw [hm, ci_len]; exact h.rng k x hk⟩
theorem check_ok {m : GMesh} {t : GTensor} {md dn : List Nat} {from_ to_ : List Int} (hm : Msh m.Dims md) (ht : Ten t dn) (hr : TeR t) (hf : PlB from_) (htp : PlB to_) (sf : Sp md dn from_) (st : Sp md dn to_) :
    m_collective_checkReshard m (blks t md dn from_) from_ to_ = some 0 := by
  classical
  have hok := blks_ok hm ht sf
  have hTL := blks_TeL hm ht hr sf
  have h6 := ht.shp.len
  have hle := ht.shp.le
  have hlf := sf.len
  have hlt := st.len
  have hz := zipE_len (e := eLn md) _ _ sf.len
  obtain ⟨t0, r, hl0⟩ := hok.ne
  have ht0 := (hok.ten t0 (by rw [hl0]; simp)).1
  have a0 : lat (blks t md dn from_) 0 = some t0 := by rw [hl0]; rfl
  have q1 := sf.SpB hm.eq hf (zipE (eLn md) dn from_).length hz
  have q2 := st.SpB hm.eq htp (zipE (eLn md) dn from_).length hz
  unfold m_collective_checkReshard
  rw [coll_check hTL, Option.bind_some, hok.ch, if_neg (by simp), a0, Option.bind_some, ht0.shp.eq, ci_len, coll_checkSpec m _ from_ (by omega), Option.bind_some, decide_eq_true q1, show gd (!(!true)) (some t0) = some t0 from rfl, Option.bind_some, ht0.shp.eq, ci_len, coll_checkSpec m _ to_ (by omega), decide_eq_true q2, show gd (!(!true)) (some true) = some true from rfl, Option.bind_some, if_neg (by decide), Option.bind_some, lapp_nil (by rw [ht0.shp.eq, ci_len]; omega), Option.bind_some, ht0.shp.eq]
  rw [whole_prog hm.eq (by rw [hlf, hz]) q1.2.2 (by omega)]
  have hwh : whL m (zipE (eLn md) dn from_) from_ (zipE (eLn md) dn from_).length = ci dn := by
    refine list_ext' (by rw [whL_len, hz, ci_len]) fun k hk => ?_
    rw [whL_len, hz] at hk
    obtain ⟨d, hd⟩ := at_some hk
    obtain ⟨x, hx⟩ := at_some (l := from_) (i := k) (by omega)
    have hd4 := Nat.le_trans (le_prd ht.shp.pos (List.mem_of_getElem? hd)) hle
    unfold whL
    rw [List.getElem?_map, List.getElem?_range (by omega), ci_get, hd]
    simp only [Option.map_some]
    congr 1
    unfold whV
    rw [hx, zipE_at _ _ k d x hd hx]
    simp only [Option.getD_some]
    unfold eLn
    by_cases h0 : 0 ≤ x
    · obtain ⟨q, hq⟩ := sf.md hx h0
      have hdv := sf.dv k x d q hx h0 hd hq
      have hdm := Nat.div_add_mod d q
      rw [if_pos h0, if_pos h0, hm.eq, ci_get, hq]
      simp only [Option.map_some, Option.getD_some]
      have e : d / q * q = d := by rw [Nat.mul_comm]; omega
      rw [wim (by omega), e]
    · rw [if_neg h0, if_neg h0]
  rw [hwh]
  unfold m_collective_checkReshard_j1
  rw [shape_Validate (ci dn) (by rw [ci_len]; omega), Option.bind_some, show shErr (ci dn) = 0 by rw [← ht.shp.eq]; exact ht.shp.err, if_neg (by simp)]
  refine any_no (n := dn.length) (by omega) _ (fun f i hi => ?_) (fun f => ?_)
  · obtain ⟨x, hx⟩ := at_some (l := to_) (i := i) (by omega)
    obtain ⟨d, hd⟩ := at_some hi
    simp only [m_collective_checkReshard_l1]
    rw [hlt, if_pos (lt_dec hi), lat_at hx, Option.bind_some, ci_at hd]
    by_cases h0 : 0 ≤ x
    · obtain ⟨q, hq⟩ := st.md hx h0
      have hdv := st.dv i x d q hx h0 hd hq
      have hq1 := hm.pos q (List.mem_of_getElem? hq)
      have hlq : lat m.Dims x = some (q : Int) := by
        rw [show x = ((x.toNat : Nat) : Int) from (Int.toNat_of_nonneg h0).symm, hm.eq]; exact ci_at hq
      have hq0 : ¬ (q : Int) = 0 := by omega
      have etm : Int.tmod (d : Int) (q : Int) = 0 := by rw [← Int.ofNat_tmod, hdv]; rfl
      simp only [h0, decide_true, gd, if_true, Option.bind_some, hlq, Bool.true_and, forall_const, ne_eq, hq0, not_false_eq_true, etm, Bool.not_true, Bool.false_eq_true, if_false]
      rw [wis (by omega)]
    · simp only [h0, decide_false, gd, Bool.false_eq_true, if_false, Option.bind_some, Bool.false_and, false_implies, if_true]
      rw [wis (by omega)]
  · simp only [m_collective_checkReshard_l1]
    rw [hlt, if_neg (by simp)]
theorem ReshardBlocks_ok {m : GMesh} {t : GTensor} {md dn : List Nat} {from_ to_ : List Int} (hm : Msh m.Dims md) (ht : Ten t dn) (hr : TeR t) (hf : PlB from_) (htp : PlB to_) (sf : Sp md dn from_) (st : Sp md dn to_) :
    ∃ n, m_collective_Reshard m (blks t md dn from_) from_ to_ = some (blks t md dn to_, n, 0) := by
  obtain ⟨r, p1, p2, p3⟩ := Plan_run hf htp sf st ht.shp.len
  refine ⟨(r.length : Int), ?_⟩
  unfold m_collective_Reshard
  rw [check_ok hm ht hr hf htp sf st, Option.bind_some, if_neg (by simp), p1, Option.bind_some, copy_loop (blks_TeL hm ht hr sf) (blks_ok hm ht sf), run_loop hm ht hr sf (by omega) p2]
theorem fits_spec {m : GMesh} {t : GTensor} {dn : List Nat} (ht : Ten t dn) {s : List Int} (hs : s.length ≤ 40) : ∃ b, m_ref53_Fits m t.Dims s = some b ∧ (b = true → ∃ md, Msh m.Dims md ∧ PlB s ∧ Sp md dn s) := by
  have h6 := ht.shp.len
  have hdl : t.Dims.length = dn.length := by rw [ht.shp.eq, ci_len]
  unfold m_ref53_Fits
  rw [ref51_Validate, Option.bind_some]
  by_cases hb : meB m.Dims = true
  rotate_left
  · exact ⟨false, by rw [if_neg hb]; simp [gd], fun h => by cases h⟩
  obtain ⟨md, hm⟩ := Msh.of hb
  rw [if_pos hb, show gd (!(!decide ((0 : Int) = 0))) (m_ref12_Shape t.Dims) = m_ref12_Shape t.Dims from rfl, ref12_Shape t.Dims (by omega), Option.bind_some, ht.shp.err]
  by_cases hl : s.length = dn.length
  rotate_left
  · have hl' : ¬ (s.length : Int) = (t.Dims.length : Int) := by omega
    exact ⟨false, by simp [gd, hl'], fun h => by cases h⟩
  have hl' : (s.length : Int) = (t.Dims.length : Int) := by omega
  obtain ⟨b, b1, b2, b3⟩ := plain_same s (by omega)
  rw [decide_eq_true hl', b2, show gd (!(((!decide ((0 : Int) = 0)) || (!decide ((0 : Int) = 0))) || (!true))) (some b) = some b from rfl, Option.bind_some]
  cases b
  · exact ⟨false, rfl, fun h => by cases h⟩
  have hpl := b3.1 rfl
  rw [if_neg (by simp)]
  obtain ⟨r, q1, q2⟩ := loop_fu (L := fun f (_ : Unit) i => m_ref53_Fits_l1 s m t.Dims f i) (n := s.length) (by omega) (fun i _ => ∀ (k : Nat) (x : Int), k < i → s[k]? = some x → x < (md.length : Int) ∧ ∀ d q : Nat, 0 ≤ x → dn[k]? = some d → md[x.toNat]? = some q → d % q = 0)
    (fun r => r = true → ∀ (k : Nat) (x : Int), s[k]? = some x → x < (md.length : Int) ∧ ∀ d q : Nat, 0 ≤ x → dn[k]? = some d → md[x.toNat]? = some q → d % q = 0) (by
    rintro f i - hi hI
    obtain ⟨x, hx⟩ := at_some hi
    obtain ⟨d, hd⟩ := at_some (l := dn) (i := i) (by omega)
    have hml : (m.Dims.length : Int) = (md.length : Int) := by rw [hm.eq, ci_len]
    have htd : lat t.Dims (i : Int) = some (d : Int) := by rw [ht.shp.eq]; exact ci_at hd
    simp only [m_ref53_Fits_l1]
    rw [if_pos (lt_dec hi), lat_at hx, Option.bind_some, hml, htd]
    by_cases h1 : (md.length : Int) ≤ x
    · right
      exact ⟨false, by simp [gd, h1], fun h => by cases h⟩
    rw [decide_eq_false h1, show gd (!false) (some x) = some x from rfl, Option.bind_some]
    by_cases h0 : 0 ≤ x
    · obtain ⟨q, hq⟩ := at_some (l := md) (i := x.toNat) (by omega)
      have hq1 := hm.pos q (List.mem_of_getElem? hq)
      have hlq : lat m.Dims x = some (q : Int) := by
        rw [show x = ((x.toNat : Nat) : Int) from (Int.toNat_of_nonneg h0).symm, hm.eq]; exact ci_at hq
      have hq0 : ¬ (q : Int) = 0 := by omega
      have etm : Int.tmod (d : Int) (q : Int) = ((d % q : Nat) : Int) := (Int.ofNat_tmod _ _).symm
      simp only [h0, decide_true, gd, Bool.not_false, Bool.true_and, if_true, Option.bind_some, hlq, forall_const, ne_eq, hq0, not_false_eq_true, Bool.false_or, etm]
      by_cases hd0 : d % q = 0
      · left
        refine ⟨(), fun k x' hk hx' => ?_, by rw [if_neg (by simp [hd0]), wis (by omega)]⟩
        by_cases e : k = i
        · subst e
          rw [hx] at hx'
          have e2 := Option.some.inj hx'
          subst e2
          refine ⟨by omega, fun d' q' _ h3 h4 => ?_⟩
          rw [hd] at h3; rw [hq] at h4
          rw [← Option.some.inj h3, ← Option.some.inj h4]; exact hd0
        · exact hI k x' (by omega) hx'
      · right
        exact ⟨false, by rw [if_pos (by simp; omega)], fun h => by cases h⟩
    · left
      refine ⟨(), fun k x' hk hx' => ?_, ?_⟩
      · by_cases e : k = i
        · subst e
          rw [hx] at hx'
          have e2 := Option.some.inj hx'
          subst e2
          exact ⟨by omega, fun _ _ h3 => absurd h3 h0⟩
        · exact hI k x' (by omega) hx'
      · simp only [h0, decide_false, gd, Bool.not_false, Bool.true_and, Bool.and_false, Bool.false_eq_true, if_false, Option.bind_some, Bool.false_and, false_implies, if_true, Bool.or_self]
        rw [wis (by omega)]) (by
    rintro f - hI
    refine ⟨true, ?_, fun _ k x hx => hI k x (List.getElem?_eq_some_iff.1 hx).1 hx⟩
    simp only [m_ref53_Fits_l1]
    rw [if_neg (by simp)]) () (fun k x hk => by omega)
  refine ⟨r, q1, fun hr => ⟨md, hm, hpl, ⟨hl, fun k x hx => (q2 hr k x hx).1, fun k k' x h0 hk hk' => hpl.u h0 hk hk', fun k x d q hx h0 hd hq => (q2 hr k x hx).2 d q h0 hd hq⟩⟩⟩
theorem msh_eq {d : List Int} {a b : List Nat} (h1 : Msh d a) (h2 : Msh d b) : a = b := ci_inj (h1.eq ▸ h2.eq)
theorem law_CollectiveReshardBlocks (m : GMesh) (t : GTensor) (from_ to_ : List Int) (_ : okGMesh m) (hto : okGTensor t) (_ : okL (okI .i64) from_) (_ : okL (okI .i64) to_) : m_law53_CollectiveReshardBlocks m t from_ to_ = some true := by
  unfold m_law53_CollectiveReshardBlocks
  obtain ⟨b, h1, h2⟩ := small_spec m [t]
  rw [h1, Option.bind_some]
  cases b
  · simp [gd, ex53b]
  obtain ⟨_, _, s3⟩ := h2 rfl
  have s4 := s3 t (by simp)
  have hr : TeR t := ⟨TyR.of hto.1, fun v hv => VaR.of (hto.2.2.1 v hv)⟩
  by_cases hs : from_.length ≤ 40 ∧ to_.length ≤ 40
  rotate_left
  · have hb : (((!true) || (decide (40 < (from_.length : Int)))) || (decide (40 < (to_.length : Int)))) = true := by simp; omega
    rw [hb]; simp [gd, ex53b]
  have hb : (((!true) || (decide (40 < (from_.length : Int)))) || (decide (40 < (to_.length : Int)))) = false := by simp; omega
  rw [hb, ref12_Validate hr (by omega) (by omega), show gd (!false) (some (teErr t)) = some (teErr t) from rfl, Option.bind_some, Bool.false_or]
  by_cases he : teErr t = 0
  rotate_left
  · rw [if_pos (by simp [he]), ex53b]; rfl
  rw [if_neg (by simp [he])]
  obtain ⟨dn, ht⟩ := Ten.of he
  obtain ⟨b1, f1, f2⟩ := fits_spec (m := m) ht hs.1
  obtain ⟨b2, g1, g2⟩ := fits_spec (m := m) ht hs.2
  rw [f1, g1, Option.bind_some]
  cases b1
  · simp [gd, ex53b]
  cases b2
  · simp [gd, ex53b]
  obtain ⟨md, hm, hf, sf⟩ := f2 rfl
  obtain ⟨md', hm', htp, st⟩ := g2 rfl
  have e := msh_eq hm' hm
  subst e
  obtain ⟨n, hn⟩ := ReshardBlocks_ok hm ht hr hf htp sf st
  have hTL := blks_TeL hm ht hr st
  have hle := hm.le
  rw [blocks_ok hm ht hr sf, show gd (!(!true)) (some true) = some true from rfl, Option.bind_some, if_neg (by simp), Option.bind_some, hn, Option.bind_some, blocks_ok hm ht hr st, ex53b]
  simp only [decide_true, gd, if_true, Option.bind_some]
  rw [base_Tensors_same hTL (by rw [blks_len]; omega)]
  simp
end Go.Proofs.YtpedfojbfbccaaaGreat
