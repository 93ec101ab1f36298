import Derived.Test.YtpedfojbfbccaaaGreatSXg
import Derived.Test.YtpedfojbfbccaaaGreatSXa
namespace Go.Proofs.YtpedfojbfbccaaaGreat
open Go Go.RowKit Go.Vc
set_option linter.unusedVariables false
set_option linter.unusedSimpArgs false
def SpB (m : GMesh) (rank : Nat) (s : List Int) : Prop := s.length = rank ∧ PlB s ∧ ∀ x ∈ s, x < (m.Dims.length : Int)
theorem spec_loop {R : Type} {m : GMesh} {s : List Int} (hs : s.length < 4611686018427387904) (W fin : Option R) (L : Nat → Int → Option R)
  (hm : ∀ f (i : Nat) x, s[i]? = some x → L (f + 1) (i : Int) = if (m.Dims.length : Int) ≤ x then W else L f ((i + 1 : Nat) : Int)) (hz : ∀ f, L (f + 1) (s.length : Int) = fin) [Decidable (∀ x ∈ s, x < (m.Dims.length : Int))] :
  L fu 0 = if ∀ x ∈ s, x < (m.Dims.length : Int) then fin else W := by
 refine loop_eq (L := fun f (_ : Unit) i => L f i) (n := s.length) hs (fun i _ => ∀ x ∈ s.take i, x < (m.Dims.length : Int)) ?_ ?_ () (by simp)
 ·rintro f i - hi hI
  obtain ⟨x, hx⟩ := at_some hi
  rw [hm f i x hx]
  by_cases hc : (m.Dims.length : Int) ≤ x
  ·right
   rw [if_pos hc, if_neg fun h => by have := h x (List.mem_of_getElem? hx); omega]
  ·left
   refine ⟨(), fun y hy => ?_, by rw [if_neg hc]⟩
   rw [take_succ' hx] at hy
   rcases List.mem_append.1 hy with h | h
   ·exact hI y h
   ·rw [List.mem_singleton.1 h]; omega
 ·rintro f - hI
  rw [List.take_length] at hI
  rw [hz, if_pos hI]
open Classical in
theorem coll_checkSpec (m : GMesh) (rank : Nat) (s : List Int) (hs : s.length < 4611686018427387904) : m_collective_checkSpec m (rank : Int) s = some (decide (SpB m rank s)) := by
 obtain ⟨b, h1, h2, h3⟩ := plain_same s hs
 unfold m_collective_checkSpec
 rw [h1]
 by_cases hl : s.length = rank
 rotate_left
 ·have hl' : ¬ (s.length : Int) = (rank : Int) := by omega
  rw [decide_eq_false (fun h : SpB m rank s => hl h.1)]
  simp [gd, hl']
 have hl' : (s.length : Int) = (rank : Int) := by omega
 rw [decide_eq_true hl', show gd (!(!true)) (some b) = some b from rfl, Option.bind_some]
 cases b
 ·rw [decide_eq_false (fun h : SpB m rank s => by have := h3.2 h.2.1; cases this)]; rfl
 rw [if_neg (by simp)]
 rw [spec_loop (m := m) (s := s) hs (some false) (some true) (m_collective_checkSpec_l1 s m) (fun f i x hx => by
  have hlt := (List.getElem?_eq_some_iff.1 hx).1
  simp only [m_collective_checkSpec_l1]
  rw [if_pos (lt_dec hlt), lat_at hx, Option.bind_some, wis (by omega)]
  by_cases hc : (m.Dims.length : Int) ≤ x
  ·rw [if_pos (by simpa using hc), if_pos hc]
  ·rw [if_neg (by simpa using hc), if_neg hc]) (fun f => by simp only [m_collective_checkSpec_l1]; rw [if_neg (by simp)])]
 by_cases hc : ∀ x ∈ s, x < (m.Dims.length : Int)
 ·rw [if_pos hc, decide_eq_true (show SpB m rank s from ⟨hl, h3.1 rfl, hc⟩)]
 ·rw [if_neg hc, decide_eq_false fun h : SpB m rank s => hc h.2.2]
open Classical in
def whV (m : GMesh) (dn : List Nat) (from_ : List Int) (i : Nat) : Int := if 0 ≤ (from_[i]?).getD 0 then wi64 (((dn[i]?).getD 0 : Nat) * (m.Dims[((from_[i]?).getD 0).toNat]?).getD 0) else ((dn[i]?).getD 0 : Nat)
def whL (m : GMesh) (dn : List Nat) (from_ : List Int) (n : Nat) : List Int := (List.range n).map (whV m dn from_)
theorem whL_len (m : GMesh) (dn : List Nat) (from_ : List Int) (n : Nat) : (whL m dn from_ n).length = n := by simp [whL]
theorem whL_succ (m : GMesh) (dn : List Nat) (from_ : List Int) (n : Nat) : whL m dn from_ (n + 1) = whL m dn from_ n ++ [whV m dn from_ n] := by simp [whL, List.range_succ]
theorem lat_sp {m : GMesh} {md : List Nat} (hm : m.Dims = ci md) {x : Int} (h0 : 0 ≤ x) (h1 : x < (m.Dims.length : Int)) : ∃ q : Nat, md[x.toNat]? = some q ∧ lat m.Dims x = some (q : Int) ∧ m.Dims[x.toNat]? = some (q : Int) := by
 obtain ⟨n, rfl⟩ := Int.eq_ofNat_of_zero_le h0
 rw [hm, ci_len] at h1
 obtain ⟨q, hq⟩ := at_some (l := md) (i := n) (by omega)
 exact ⟨q, by simpa using hq, by rw [hm]; exact ci_at hq, by rw [hm, ci_get, Int.toNat_natCast, hq]; rfl⟩
theorem copy_loop {m : GMesh} {l : List GTensor} {md dn : List Nat} {ty : GType} (hl : TeL l) (h : Ok m l md ty dn) (pl : List GTransfer) : m_collective_Reshard_l2 l pl m fu [] 0 = m_collective_Reshard_l1 pl m fu l 0 := by
 have hlen := h.len
 have hle := h.m.le
 refine loop_eq (L := m_collective_Reshard_l2 l pl m) (n := l.length) (by omega) (fun i s => s = l.take i) ?_ ?_ [] (by simp)
 ·rintro f i s hi rfl
  obtain ⟨t, ht⟩ := at_some hi
  have hmem := List.mem_of_getElem? ht
  have hten := (h.ten t hmem).1
  have k1 := hten.shp.len; have k2 := hten.shp.le; have k3 := hten.len
  have k4 : t.Dims.length = dn.length := by rw [hten.shp.eq, ci_len]
  left
  refine ⟨_, rfl, ?_⟩
  have hNew : m_tensor_New t.Type_ t.Dims t.Vals = some (t, 0) := by
   unfold m_tensor_New
   rw [lapp_nil (by omega), Option.bind_some, lapp_nil (by omega), Option.bind_some]
   have := tensor_Validate (hl.r t hmem) (hl.d t hmem) (hl.v t hmem)
   replace this : m_tensor_Validate ⟨t.Type_, t.Dims, t.Vals⟩ = some (teErr t) := this
   rw [this, Option.bind_some, hten.err, if_neg (by simp)]
  simp only [m_collective_Reshard_l2]
  rw [if_pos (lt_dec hi), lat_at ht, Option.bind_some, hNew, Option.bind_some, lapp_ok (by simp; omega), Option.bind_some, wis (by omega), take_succ' ht]
 ·rintro f s rfl
  simp only [m_collective_Reshard_l2]
  rw [if_neg (by simp), m_collective_Reshard_j1, List.take_length]
end Go.Proofs.YtpedfojbfbccaaaGreat
