import Derived.Test.YtaokohndeepbjaaSWc
namespace Go.Proofs.Ytaokohndeepbjaa
open Go Go.RowKit Go.Vc
set_option linter.unusedVariables false
set_option linter.unusedSimpArgs false
def vl : List (List UInt8) → List Int → List UInt8 → Int
 | n :: ns, x :: p, s => if n = s then x else vl ns p s
 | _, _, _ => 0
theorem first_ix {names : List (List UInt8)} {s : List UInt8} (h : s ∈ names) : ∃ i : Nat, names[i]? = some s ∧ ∀ j, j < i → ∀ y, names[j]? = some y → y ≠ s := by
 induction names with
 | nil => cases h
 | cons n ns ih =>
  by_cases e : n = s
  ·exact ⟨0, by simp [e], fun j hj => by omega⟩
  ·obtain ⟨i, h1, h2⟩ := ih (by simpa [Ne.symm e] using h)
   refine ⟨i + 1, by simpa using h1, fun j hj y hy => ?_⟩
   cases j with
   | zero => simp at hy; exact hy ▸ e
   | succ j => exact h2 j (by omega) y (by simpa using hy)
theorem vl_at {names : List (List UInt8)} {p : List Int} {s : List UInt8} {i : Nat} {x : Int} (h1 : names[i]? = some s) (h2 : ∀ j, j < i → ∀ y, names[j]? = some y → y ≠ s) (hx : p[i]? = some x) : vl names p s = x := by
 induction names generalizing p i with
 | nil => simp at h1
 | cons n ns ih =>
  cases p with
  | nil => simp at hx
  | cons a p =>
   cases i with
   | zero => simp at h1 hx; simp [vl, h1, hx]
   | succ i =>
    have := h2 0 (by omega) n (by simp)
    simp only [vl]
    rw [if_neg this]
    exact ih (by simpa using h1) (fun j hj y hy => h2 (j + 1) (by omega) y (by simpa using hy)) (by simpa using hx)
def envL (names : List (List UInt8)) (p : List Int) : List GBinding := List.zipWith (fun s x => ⟨s, x⟩) names p
theorem envL_at {names : List (List UInt8)} {p : List Int} {i : Nat} {s : List UInt8} {x : Int} (h1 : names[i]? = some s) (h2 : p[i]? = some x) : (envL names p)[i]? = some ⟨s, x⟩ := by
 unfold envL; rw [List.getElem?_zipWith, h1, h2]
theorem envL_len (names : List (List UInt8)) (p : List Int) (h : p.length = names.length) : (envL names p).length = names.length := by unfold envL; simp; omega
theorem bind_ok (names : List (List UInt8)) (p : List Int) (hl : names.length ≤ 1000) (h : p.length = names.length) : m_affine_bind names p = some (envL names p) := by
 unfold m_affine_bind
 refine loop_eq (L := fun f e i => m_affine_bind_l1 names p f e i) (n := names.length) (by omega) (fun i e => e = (envL names p).take i) (fun f i e hi he => ?_) (fun f e he => ?_) [] rfl
 ·obtain ⟨s, hs⟩ := at_some hi
  obtain ⟨x, hx⟩ := at_some (l := p) (i := i) (by omega)
  left
  refine ⟨_, rfl, ?_⟩
  simp only [m_affine_bind_l1]
  rw [if_pos (lt_dec hi), lat_at hs, Option.bind_some, lat_at hx, Option.bind_some, he, lapp_ok (by simp; omega), Option.bind_some, wis (by omega), take_succ' (envL_at hs hx)]
 ·simp only [m_affine_bind_l1]
  rw [if_neg (by simp), he, ← envL_len names p h, List.take_length]
theorem find_ok {names : List (List UInt8)} {p : List Int} {x : GMono} {i : Nat} (hl : names.length ≤ 1000) (hp : p.length = names.length) (h1 : names[i]? = some x.Name) (h2 : ∀ j, j < i → ∀ y, names[j]? = some y → y ≠ x.Name) :
  m_slices_IndexFunc_api_Binding_api_Binding (envL names p) (fun y_1 => m_lin_Eval_1 y_1 x) = some (i : Int) := by
 have hi := (List.getElem?_eq_some_iff.1 h1).1
 have hel := envL_len names p hp
 have hilt : i < (envL names p).length := by omega
 unfold m_slices_IndexFunc_api_Binding_api_Binding
 refine any_yes (n := (envL names p).length) (by omega) hilt (fun f i => m_slices_IndexFunc_api_Binding_api_Binding_l1 (envL names p) (fun y_1 => m_lin_Eval_1 y_1 x) f i) (fun f j hj => ?_) (fun f => ?_)
 ·obtain ⟨y, hy⟩ := at_some (l := names) (i := j) (by omega)
  obtain ⟨v, hv⟩ := at_some (l := p) (i := j) (by omega)
  left; simp only [m_slices_IndexFunc_api_Binding_api_Binding_l1]; rw [if_pos (lt_dec (by omega)), lat_at (envL_at hy hv), Option.bind_some, m_lin_Eval_1, Option.bind_some, if_neg (by simpa using h2 j hj y hy), wis (by omega)]
 ·obtain ⟨v, hv⟩ := at_some (l := p) (i := i) (by omega)
  simp only [m_slices_IndexFunc_api_Binding_api_Binding_l1]; rw [if_pos (lt_dec (by omega)), lat_at (envL_at h1 hv), Option.bind_some, m_lin_Eval_1, Option.bind_some, if_pos (by simp)]
def esum (v : List UInt8 → Int) : List GMono → Int
 | [] => 0
 | m :: l => m.By * v m.Name + esum v l
def ev (v : List UInt8 → Int) (l : GLin) : Int := l.K + esum v l.L
theorem esum_app (v : List UInt8 → Int) (a b : List GMono) : esum v (a ++ b) = esum v a + esum v b := by
 induction a with
 | nil => simp [esum]
 | cons m a ih => simp only [List.cons_append, esum, ih]; omega
structure Wf (l : GLin) : Prop where
 k : R64 l.K
 b : ∀ m ∈ l.L, R64 m.By
 len : l.L.length ≤ 4294967296
theorem Wf.of {l : GLin} (h : okGLin l) (hl : l.L.length ≤ 4294967296) : Wf l := ⟨okI_R h.1, fun m hm => okI_R (h.2.1 m hm).2, hl⟩
theorem mulR_bd {x y : Int} (hx : R64 x) (hy : R64 y) : -85070591730234615865843651857942052864 ≤ x * y ∧ x * y ≤ 85070591730234615865843651857942052864 ∧ (x.natAbs : Int) * (y.natAbs : Int) ≤ 85070591730234615865843651857942052864 := by
 have h1 : x.natAbs ≤ 9223372036854775808 := by have := hx.1; have := hx.2; omega
 have h2 : y.natAbs ≤ 9223372036854775808 := by have := hy.1; have := hy.2; omega
 have h3 := Nat.mul_le_mul h1 h2
 have h4 : (x * y).natAbs = x.natAbs * y.natAbs := Int.natAbs_mul x y
 have h5 : ((x.natAbs : Int) * (y.natAbs : Int)) = ((x.natAbs * y.natAbs : Nat) : Int) := (Int.natCast_mul _ _).symm
 rw [h5]
 generalize x.natAbs * y.natAbs = q at *
 omega
theorem sgn_mul (x y : Int) : x * y = if (decide (x < 0) != decide (y < 0)) = true then -((x.natAbs : Int) * (y.natAbs : Int)) else (x.natAbs : Int) * (y.natAbs : Int) := by
 by_cases h1 : x < 0 <;> by_cases h2 : y < 0
 ·rw [if_neg (by simp [h1, h2]), show (x.natAbs : Int) = -x by omega, show (y.natAbs : Int) = -y by omega, Int.neg_mul_neg]
 ·rw [if_pos (by simp [h1, h2]), show (x.natAbs : Int) = -x by omega, show (y.natAbs : Int) = y by omega, Int.neg_mul, Int.neg_neg]
 ·rw [if_pos (by simp [h1, h2]), show (x.natAbs : Int) = x by omega, show (y.natAbs : Int) = -y by omega, Int.mul_neg, Int.neg_neg]
 ·rw [if_neg (by simp [h1, h2]), show (x.natAbs : Int) = x by omega, show (y.natAbs : Int) = y by omega]
theorem esum_bd (v : List UInt8 → Int) (l : List GMono) (hb : ∀ m ∈ l, R64 m.By) (hv : ∀ m ∈ l, R64 (v m.Name)) : -(85070591730234615865843651857942052864 * (l.length : Int)) ≤ esum v l ∧ esum v l ≤ 85070591730234615865843651857942052864 * (l.length : Int) := by
 induction l with
 | nil => simp [esum]
 | cons m l ih =>
  have h1 := mulR_bd (hb m (by simp)) (hv m (by simp))
  have h2 := ih (fun x hx => hb x (by simp [hx])) (fun x hx => hv x (by simp [hx]))
  simp only [esum, List.length_cons]; omega
theorem Eval_ok (names : List (List UInt8)) (p : List Int) (l : GLin) (hl : names.length ≤ 1000) (hp : p.length = names.length) (hok : okForm names l) (hw : Wf l) (hpr : ∀ x ∈ p, R64 x) :
  ∃ n e, m_lin_Eval l (envL names p) = some (n, e) ∧ ((e = 0 ∧ R64 (ev (vl names p) l) ∧ n = ev (vl names p) l) ∨ (e = 3 ∧ ¬ R64 (ev (vl names p) l) ∧ n = 0)) := by
 obtain ⟨b, b0, b1, _⟩ := lin_Validate l (by have := hw.len; omega)
 have hb := b0.2 hok.1
 unfold m_lin_Eval
 rw [b1, if_pos hb, Option.bind_some, if_neg (by simp), mag_ok hw.k, Option.bind_some]
 have hk := hw.k
 have hlen := hw.len
 obtain ⟨w0, e0, o0, k0, v0⟩ := add_ok ⟨0, 0, 0⟩ ⟨⟨by decide, by decide⟩, ⟨by decide, by decide⟩, by decide, by decide⟩ 0 (l.K.natAbs : Int) (decide (l.K < 0)) ⟨by omega, by omega⟩ ⟨by omega, by omega⟩
 rw [e0]
 simp only [Option.bind_some]
 have v0' : Wv w0 = l.K + k0 * 6277101735386680763835789423207666416102355444464034512896 := by
  rw [v0]
  simp only [Wv, decide_eq_true_eq]
  split <;> omega
 have look : ∀ x ∈ l.L, ∃ (i : Nat) (u : Int), names[i]? = some x.Name ∧ (∀ j, j < i → ∀ y, names[j]? = some y → y ≠ x.Name) ∧ p[i]? = some u ∧ vl names p x.Name = u := fun x hx => by
  obtain ⟨i, i1, i2⟩ := first_ix (hok.2 x hx)
  obtain ⟨u, hu⟩ := at_some (l := p) (i := i) (by have := (List.getElem?_eq_some_iff.1 i1).1; omega)
  exact ⟨i, u, i1, i2, hu, vl_at i1 i2 hu⟩
 have hvr : ∀ m ∈ l.L, R64 (vl names p m.Name) := fun m hm => by
  obtain ⟨i, u, _, _, h3, h4⟩ := look m hm
  rw [h4]; exact hpr u (List.mem_of_getElem? h3)
 obtain ⟨r, hr, hQ⟩ := loop_fu (L := fun f s i => m_lin_Eval_l1 l (envL names p) f i s) (n := l.L.length) (by omega)
  (fun i s => okW s ∧ ∃ k, Wv s = (l.K + esum (vl names p) (l.L.take i)) + k * 6277101735386680763835789423207666416102355444464034512896)
  (fun r => (r.2 = 0 ∧ R64 (ev (vl names p) l) ∧ r.1 = ev (vl names p) l) ∨ (r.2 = 3 ∧ ¬ R64 (ev (vl names p) l) ∧ r.1 = 0))
  (fun f i s hi ⟨hs, k, hk⟩ => by
   obtain ⟨x, hx⟩ := at_some hi
   have hxm := List.mem_of_getElem? hx
   obtain ⟨ix, u, h1, h2, h3, h4⟩ := look x hxm
   have hu : R64 u := h4 ▸ hvr x hxm
   have hby := hw.b x hxm
   obtain ⟨hi', lo', p1, p2, p3, p4⟩ := product_ok (a := (x.By.natAbs : Int)) (b := (u.natAbs : Int)) ⟨by omega, by have := hby.1; have := hby.2; omega⟩ ⟨by omega, by have := hu.1; have := hu.2; omega⟩
   obtain ⟨w', q1, q2, k', q3⟩ := add_ok s hs hi' lo' (decide (x.By < 0) != decide (u < 0)) p2 p3
   left
   refine ⟨w', ⟨q2, k + k', ?_⟩, ?_⟩
   ·rw [q3, hk, p4, ← sgn_mul, take_succ' hx, esum_app]
    simp only [esum, h4]
    omega
   ·simp only [m_lin_Eval_l1]
    rw [if_pos (lt_dec hi), lat_at hx, Option.bind_some, find_ok hl hp h1 h2, Option.bind_some, if_neg (by simp), lat_at (envL_at h1 h3), Option.bind_some, mag_ok hby, Option.bind_some, mag_ok hu, Option.bind_some, p1, Option.bind_some]
    dsimp only
    rw [q1]
    simp only [Option.bind_some]
    rw [wis (by omega)])
  (fun f s ⟨hs, k, hk⟩ => by
   rw [List.take_length] at hk
   have hbd := esum_bd (vl names p) l.L hw.b hvr
   have hK := hw.k
   obtain ⟨n, ok, n1, n2, n3⟩ := narrow_ok s hs (l.K + esum (vl names p) l.L) k hk (by omega) (by omega)
   simp only [m_lin_Eval_l1]
   rw [if_neg (by simp), m_lin_Eval_j1, n1, Option.bind_some]
   cases ok with
   | true => exact ⟨(n, 0), by simp, .inl ⟨rfl, n2.1 rfl, n3 rfl⟩⟩
   | false => exact ⟨(0, 3), by simp, .inr ⟨rfl, fun h => (by have := n2.2 h; cases this), rfl⟩⟩) w0 ⟨o0, k0, by simpa [esum] using v0'⟩
 exact ⟨r.1, r.2, hr, hQ⟩
theorem image_ok (m : List GLin) (names : List (List UInt8)) (p : List Int) (hm : okMap m names) (hp : p.length = names.length) (hw : ∀ f ∈ m, Wf f) (hpr : ∀ x ∈ p, R64 x) :
  ∃ r, m_affine_image m names p = some r ∧ ((r = (m.map (ev (vl names p)), 0) ∧ ∀ f ∈ m, R64 (ev (vl names p) f)) ∨ (r = ([], 3) ∧ ∃ f ∈ m, ¬ R64 (ev (vl names p) f))) := by
 obtain ⟨hm1, hm2, hm3, hm4⟩ := hm
 unfold m_affine_image
 rw [bind_ok names p (by omega) hp, Option.bind_some]
 refine loop_fu (L := fun f o i => m_affine_image_l1 m (envL names p) f o i) (n := m.length) (by omega) (fun i o => o = (m.take i).map (ev (vl names p)) ∧ ∀ f ∈ m.take i, R64 (ev (vl names p) f)) _
  (fun f i o hi ⟨ho, hI⟩ => ?_) (fun f o ⟨ho, hI⟩ => ?_) [] ⟨rfl, by simp⟩
 ·obtain ⟨x, hx⟩ := at_some hi
  have hxm := List.mem_of_getElem? hx
  obtain ⟨n, e, h1, h2⟩ := Eval_ok names p x (by omega) hp (hm4 x hxm) (hw x hxm) hpr
  simp only [m_affine_image_l1]
  rw [if_pos (lt_dec hi), lat_at hx, Option.bind_some, h1, Option.bind_some]
  rcases h2 with ⟨rfl, h3, rfl⟩ | ⟨rfl, h3, rfl⟩
  ·left
   refine ⟨_, ⟨rfl, ?_⟩, by rw [if_neg (by simp), lapp_ok (by rw [ho]; simp; omega), Option.bind_some, wis (by omega), ho, take_succ' hx]; simp⟩
   rw [take_succ' hx]; intro y hy; rcases List.mem_append.1 hy with hy | hy
   ·exact hI y hy
   ·rw [List.mem_singleton.1 hy]; exact h3
  ·right; exact ⟨([], 3), by rw [if_pos (by simp)], .inr ⟨rfl, x, hxm, h3⟩⟩
 ·rw [List.take_length] at ho hI
  simp only [m_affine_image_l1]
  exact ⟨(m.map (ev (vl names p)), 0), by rw [if_neg (by simp), ho], .inl ⟨rfl, hI⟩⟩
end Go.Proofs.Ytaokohndeepbjaa
