import Derived.Test.YtpedfojbfbccaaaGreatSTe
namespace Go.Proofs.YtpedfojbfbccaaaGreat
open Go Go.RowKit Go.Vc
set_option linter.unusedVariables false
set_option linter.unusedSimpArgs false
def firstErr {α : Type} (g : α → Int) : List α → Int
 | [] => 0
 | x :: l => if g x = 0 then firstErr g l else g x
theorem firstErr0 {α : Type} {g : α → Int} {l : List α} (h : firstErr g l = 0) : ∀ x ∈ l, g x = 0 := by
 induction l with
 | nil => intro x hx; cases hx
 | cons y l ih =>
  intro x hx
  simp only [firstErr] at h
  split at h
  ·rename_i h0
   rcases List.mem_cons.1 hx with rfl | hx
   ·exact h0
   ·exact ih h x hx
  ·contradiction
theorem firstErr_of {α : Type} {g : α → Int} {l : List α} (h : ∀ x ∈ l, g x = 0) : firstErr g l = 0 := by
 induction l with
 | nil => rfl
 | cons y l ih => simp only [firstErr]; rw [if_pos (h y (by simp)), ih fun x hx => h x (by simp [hx])]
theorem err_loop {α R : Type} {l : List α} (g : α → Int) (W : Int → Option R) (fin : Option R) (i0 : Nat) (hi0 : i0 ≤ l.length) (hl : l.length < 4611686018427387904) (m : Nat → Int → Option R)
  (hm : ∀ f (i : Nat) x, l[i]? = some x → i0 ≤ i → m (f + 1) (i : Int) = if g x = 0 then m f ((i + 1 : Nat) : Int) else W (g x)) (hz : ∀ f, m (f + 1) (l.length : Int) = fin) :
  m fu (i0 : Int) = if firstErr g (l.drop i0) = 0 then fin else W (firstErr g (l.drop i0)) := by
 refine loop_from (L := fun f (_ : Unit) i => m f i) (n := l.length) hl hi0 (fun i _ => i0 ≤ i ∧ firstErr g (l.drop i) = firstErr g (l.drop i0)) ?_ ?_ () ⟨Nat.le_refl _, rfl⟩
 ·rintro f i - hi ⟨h1, h2⟩
  obtain ⟨x, hx⟩ := at_some hi
  rw [hm f i x hx h1]
  rw [drop_at hx] at h2
  simp only [firstErr] at h2
  by_cases hg : g x = 0
  ·left
   rw [if_pos hg] at h2 ⊢
   exact ⟨(), ⟨by omega, h2⟩, rfl⟩
  ·right
   rw [if_neg hg] at h2 ⊢
   rw [← h2, if_neg hg]
 ·rintro f - ⟨h1, h2⟩
  rw [hz]
  rw [List.drop_length] at h2
  rw [← h2]; simp [firstErr]
def jT (t0 t : GTensor) : Int := if t.Type_ = t0.Type_ then (if t.Dims.length = t0.Dims.length then 0 else 11) else 10
def jD (t0 : GTensor) (ax : Int) (t : GTensor) : Int := if t.Dims.set ax.toNat 0 = t0.Dims.set ax.toNat 0 then 0 else 15
def jErr (ax : Int) : List GTensor → Int
 | [] => 1
 | t0 :: r =>
  if firstErr teErr (t0 :: r) = 0 then
   (if firstErr (jT t0) r = 0 then
    (if 0 ≤ ax ∧ ax < (t0.Dims.length : Int) then firstErr (jD t0 ax) r else 11)
   else firstErr (jT t0) r)
  else firstErr teErr (t0 :: r)
structure TeL (l : List GTensor) : Prop where
 r : ∀ t ∈ l, TeR t
 d : ∀ t ∈ l, t.Dims.length < 4611686018427387904
 v : ∀ t ∈ l, t.Vals.length < 4611686018427387904
theorem jT_loop {R : Type} {l : List GTensor} {t0 : GTensor} (i0 : Nat) (hi0 : i0 ≤ l.length) (hl : l.length < 4611686018427387904) (W : Int → Option R) (fin : Option R) (m : Nat → Int → Option R)
  (hm : ∀ f (i : Nat) x, l[i]? = some x → i0 ≤ i → m (f + 1) (i : Int) = if (!tyE x.Type_ t0.Type_) = true then W 10 else if (!decide ((x.Dims.length : Int) = (t0.Dims.length : Int))) = true then W 11 else m f (wi64 ((i : Int) + 1))) (hz : ∀ f, m (f + 1) (l.length : Int) = fin) :
  m fu (i0 : Int) = if firstErr (jT t0) (l.drop i0) = 0 then fin else W (firstErr (jT t0) (l.drop i0)) := by
 refine err_loop (jT t0) W fin i0 hi0 hl m (fun f i x hx hi => ?_) hz
 have hlt := (List.getElem?_eq_some_iff.1 hx).1
 rw [hm f i x hx hi, tyE_dec, wis (by omega)]
 unfold jT
 by_cases h1 : x.Type_ = t0.Type_
 ·by_cases h2 : x.Dims.length = t0.Dims.length
  ·simp [h1, h2]
  ·have : ¬ (x.Dims.length : Int) = (t0.Dims.length : Int) := by omega
   simp [h1, h2, this]
 ·simp [h1]
theorem set_ne_ex {a b : List Int} {k : Nat} (hl : a.length = b.length) (h : a.set k 0 ≠ b.set k 0) : ∃ j : Nat, j < a.length ∧ j ≠ k ∧ a[j]? ≠ b[j]? := by
 apply Classical.byContradiction
 intro hn
 apply h
 refine list_ext' (by simp [hl]) fun j hj => ?_
 rw [List.length_set] at hj
 by_cases e : j = k
 ·subst e; rw [List.getElem?_set_self (by omega), List.getElem?_set_self (by omega)]
 ·rw [List.getElem?_set_ne (fun h => e h.symm), List.getElem?_set_ne (fun h => e h.symm)]
  exact Classical.byContradiction fun h' => hn ⟨j, hj, e, h'⟩
theorem set_eq_at {a b : List Int} {k j : Nat} (h : a.set k 0 = b.set k 0) (hj : j ≠ k) : a[j]? = b[j]? := by
 have := congrArg (·[j]?) h
 simpa [List.getElem?_set_ne (fun h => hj h.symm)] using this
theorem jD_loop {R : Type} {a b : List Int} {k : Nat} (hl : a.length = b.length) (ha : a.length < 4611686018427387904) (W fin : Option R) (m : Nat → Int → Option R)
  (hm : ∀ f (i : Nat) x y, a[i]? = some x → b[i]? = some y → m (f + 1) (i : Int) = if i ≠ k ∧ x ≠ y then W else m f ((i + 1 : Nat) : Int)) (hz : ∀ f, m (f + 1) (a.length : Int) = fin) :
  m fu 0 = if a.set k 0 = b.set k 0 then fin else W := by
 by_cases h : a.set k 0 = b.set k 0
 ·rw [if_pos h]
  refine any_no ha m (fun f i hi => ?_) hz
  obtain ⟨x, hx⟩ := at_some hi
  obtain ⟨y, hy⟩ := at_some (l := b) (i := i) (by omega)
  rw [hm f i x y hx hy, if_neg]
  rintro ⟨h1, h2⟩
  have := set_eq_at h h1
  rw [hx, hy] at this; exact h2 (Option.some.inj this)
 ·rw [if_neg h]
  obtain ⟨j, hj, hjk, hne⟩ := set_ne_ex hl h
  refine any_yes ha hj m (fun f i hi => ?_) (fun f => ?_)
  ·obtain ⟨x, hx⟩ := at_some (l := a) (i := i) (by omega)
   obtain ⟨y, hy⟩ := at_some (l := b) (i := i) (by omega)
   rw [hm f i x y hx hy]
   by_cases c : i ≠ k ∧ x ≠ y
   ·right; rw [if_pos c]
   ·left; rw [if_neg c]
  ·obtain ⟨x, hx⟩ := at_some hj
   obtain ⟨y, hy⟩ := at_some (l := b) (i := j) (by omega)
   rw [hm f j x y hx hy, if_pos ⟨hjk, fun e => hne (by rw [hx, hy, e])⟩]
theorem lfrom1 {α : Type} {x : α} {l : List α} : lfrom (x :: l) 1 = some l := by unfold lfrom; rw [if_pos (by simp; omega)]; simp
theorem tensor_joinable {l : List GTensor} (hl : TeL l) (hn : l.length ≤ 1000) (ax : Int) : m_tensor_joinable ax l = some (jErr ax l) := by
 unfold m_tensor_joinable
 rcases l with _ | ⟨t0, r⟩
 ·rfl
 rw [if_neg (by simp; omega)]
 have e1 := err_loop (l := t0 :: r) teErr (fun e => some e) (m_tensor_joinable_j1 (t0 :: r) ax) 0 (by omega) (by omega) (m_tensor_joinable_l4 (t0 :: r) ax) (fun f i x hx _ => by
  have hlt := (List.getElem?_eq_some_iff.1 hx).1
  have hm := List.mem_of_getElem? hx
  simp only [m_tensor_joinable_l4]
  rw [if_pos (lt_dec hlt), lat_at hx, Option.bind_some, tensor_Validate (hl.r x hm) (hl.d x hm) (hl.v x hm), Option.bind_some, wis (by omega)]
  by_cases h : teErr x = 0
  ·rw [if_neg (by simp [h]), if_pos h]
  ·rw [if_pos (by simp [h]), if_neg h]) (fun f => by simp only [m_tensor_joinable_l4]; rw [if_neg (by simp)])
 simp only [List.drop_zero] at e1
 replace e1 : m_tensor_joinable_l4 (t0 :: r) ax fu 0 = _ := e1
 rw [e1]
 simp only [jErr]
 by_cases h1 : firstErr teErr (t0 :: r) = 0
 rotate_left
 ·rw [if_neg h1, if_neg h1]
 rw [if_pos h1, if_pos h1, m_tensor_joinable_j1, show lat (t0 :: r) 0 = some t0 from rfl, Option.bind_some, lfrom1, Option.bind_some]
 have e2 := jT_loop (l := r) (t0 := t0) 0 (by omega) (by simp at hn; omega) (fun e => some e) (m_tensor_joinable_j2 ax t0 (t0 :: r)) (m_tensor_joinable_l3 r t0 ax (t0 :: r)) (fun f i x hx _ => by
  have hlt := (List.getElem?_eq_some_iff.1 hx).1
  simp only [m_tensor_joinable_l3]
  rw [if_pos (lt_dec hlt), lat_at hx, Option.bind_some]; rfl) (fun f => by simp only [m_tensor_joinable_l3]; rw [if_neg (by simp)])
 rw [List.drop_zero] at e2
 replace e2 : m_tensor_joinable_l3 r t0 ax (t0 :: r) fu 0 = _ := e2
 rw [e2]
 by_cases h2 : firstErr (jT t0) r = 0
 rotate_left
 ·rw [if_neg h2, if_neg h2]
 rw [if_pos h2, if_pos h2, m_tensor_joinable_j2]
 by_cases ha : 0 ≤ ax ∧ ax < (t0.Dims.length : Int)
 rotate_left
 ·rw [if_pos (by simp; omega), if_neg ha]
 rw [if_neg (by simp; omega), if_pos ha, lfrom1, Option.bind_some]
 have e3 := err_loop (l := r) (jD t0 ax) (fun e => some e) (some 0) 0 (by omega) (by simp at hn; omega) (m_tensor_joinable_l1 r ax t0) (fun f i x hx _ => by
  have hlt := (List.getElem?_eq_some_iff.1 hx).1
  have hm := List.mem_of_getElem? hx
  have hlen : x.Dims.length = t0.Dims.length := by
   have := firstErr0 h2 x hm
   unfold jT at this
   split at this
   ·split at this
    ·assumption
    ·cases this
   ·cases this
  simp only [m_tensor_joinable_l1]
  rw [if_pos (lt_dec hlt), lat_at hx, Option.bind_some]
  obtain ⟨k, rfl⟩ := Int.eq_ofNat_of_zero_le ha.1
  have hrl : r.length ≤ 1000 := by simp at hn; omega
  refine (jD_loop (k := k) hlen (hl.d x (by simp [hm])) (some 15) (m_tensor_joinable_l1 r (k : Int) t0 f (wi64 ((i : Int) + 1))) (m_tensor_joinable_l2 x (k : Int) t0 (m_tensor_joinable_l1 r (k : Int) t0 f) (i : Int)) (fun g j a b ha' hb' => ?_) (fun g => ?_)).trans ?_
  ·have hj := (List.getElem?_eq_some_iff.1 ha').1
   have hd := hl.d x (by simp [hm])
   simp only [m_tensor_joinable_l2]
   rw [if_pos (lt_dec hj), lat_at ha', Option.bind_some, lat_at hb', wis (by omega)]
   by_cases e : j = k
   ·simp [gd, e]
   ·have : ¬ (j : Int) = (k : Int) := by omega
    simp [gd, e, this]
  ·simp only [m_tensor_joinable_l2]
   rw [if_neg (by simp), m_tensor_joinable_j3]
  ·rw [wis (by omega)]
   unfold jD
   rw [Int.toNat_natCast]
   by_cases c : x.Dims.set k 0 = t0.Dims.set k 0
   ·simp [c]
   ·simp [c]) (fun f => by simp only [m_tensor_joinable_l1]; rw [if_neg (by simp)])
 rw [List.drop_zero] at e3
 replace e3 : m_tensor_joinable_l1 r ax t0 fu 0 = _ := e3
 rw [e3]
 by_cases h3 : firstErr (jD t0 ax) r = 0
 ·rw [if_pos h3, h3]
 ·rw [if_neg h3]
structure Jn (l : List GTensor) (i : Nat) (ty : GType) (d1 d2 ms : List Nat) : Prop where
 len : l.length = ms.length
 ten : ∀ (k : Nat) t m, l[k]? = some t → ms[k]? = some m → Ten t (d1 ++ m :: d2) ∧ t.Type_ = ty
 ax : d1.length = i
 ne : l ≠ []
end Go.Proofs.YtpedfojbfbccaaaGreat
