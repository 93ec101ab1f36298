import Derived.Test.YtaokohndeepbjaaSWd
namespace Go.Proofs.Ytaokohndeepbjaa
open Go Go.RowKit Go.Vc
set_option linter.unusedVariables false
set_option linter.unusedSimpArgs false
theorem ex10 : m_law10_examples = some true := by kernel_rfl
theorem small_mul {x y a b : Int} (hx : -a ≤ x ∧ x ≤ a) (hy : -b ≤ y ∧ y ≤ b) : -(a * b) ≤ x * y ∧ x * y ≤ a * b := by
 have h1 : x.natAbs ≤ a.toNat := by omega
 have h2 : y.natAbs ≤ b.toNat := by omega
 have h3 := Nat.mul_le_mul h1 h2
 have h4 : (x * y).natAbs = x.natAbs * y.natAbs := Int.natAbs_mul x y
 have h5 : a * b = ((a.toNat * b.toNat : Nat) : Int) := by rw [Int.natCast_mul, Int.toNat_of_nonneg (by omega), Int.toNat_of_nonneg (by omega)]
 rw [h5]
 generalize x.natAbs * y.natAbs = q at *
 generalize a.toNat * b.toNat = r at *
 omega
def Tt (t : Gbrocaderef10_Total) : Int := t.High * 4294967296 + t.Low
theorem add_ref (t : Gbrocaderef10_Total) (by_ n B : Int) (hb : R64 by_) (hn : -67108864 ≤ n ∧ n ≤ 67108864) (hl : 0 ≤ t.Low ∧ t.Low < 4294967296) (hh : -B ≤ t.High ∧ t.High ≤ B) (hB : B ≤ 4611686018427387904) :
  ∃ t', m_ref10_add t by_ n = some t' ∧ Tt t' = Tt t + by_ * n ∧ (0 ≤ t'.Low ∧ t'.Low < 4294967296) ∧ (-(B + 144115189149597696) ≤ t'.High ∧ t'.High ≤ B + 144115189149597696) := by
 obtain ⟨H, L⟩ := t
 dsimp only at hl hh
 obtain ⟨h, e1, g1, g2⟩ : ∃ h, h = by_ / 4294967296 ∧ -2147483648 ≤ h ∧ h ≤ 2147483648 := ⟨_, rfl, by have := hb.1; omega, by have := hb.2; omega⟩
 obtain ⟨lo, e2, g3, g4⟩ : ∃ lo, lo = by_ % 4294967296 ∧ 0 ≤ lo ∧ lo ≤ 4294967296 := ⟨_, rfl, by omega, by omega⟩
 have eb : by_ = h * 4294967296 + lo := by omega
 obtain ⟨k1, k2⟩ := small_mul (x := h) (y := n) (a := 2147483648) (b := 67108864) ⟨g1, g2⟩ hn
 obtain ⟨k3, k4⟩ := small_mul (x := lo) (y := n) (a := 4294967296) (b := 67108864) ⟨by omega, g4⟩ hn
 have em : by_ * n = (h * n) * 4294967296 + lo * n := by rw [eb]; grind
 have fd : ∀ x : Int, Int.fdiv x (2 ^ 32) = x / 4294967296 := fun x => by rw [Int.fdiv_eq_ediv_of_nonneg _ (by decide)]; rfl
 unfold m_ref10_add
 simp only [Option.bind_some, and32i, fd, Tt]
 rw [← e1, ← e2, em]
 generalize h * n = p at *
 generalize lo * n = q at *
 have w1 : wi64 p = p := wi ⟨by omega, by omega⟩
 have w2 : wi64 q = q := wi ⟨by omega, by omega⟩
 have w3 : wi64 (L + q) = L + q := wi ⟨by omega, by omega⟩
 have w4 : wi64 (H + p) = H + p := wi ⟨by omega, by omega⟩
 have w5 : wi64 (H + p + (L + q) / 4294967296) = H + p + (L + q) / 4294967296 := wi ⟨by omega, by omega⟩
 rw [w1, w2, w3, w4, w5]
 exact ⟨_, rfl, by dsimp only; omega, ⟨by dsimp only; omega, by dsimp only; omega⟩, by dsimp only; omega, by dsimp only; omega⟩
theorem value_ok (names : List (List UInt8)) (p : List Int) (l : GLin) (hl : names.length ≤ 1000) (hp : p.length = names.length) (hok : okForm names l) (hw : Wf l) (h20 : l.L.length ≤ 20) (hn : ∀ x ∈ p, -67108864 ≤ x ∧ x ≤ 67108864) :
  ∃ n b, m_ref10_value l names p = some (n, b) ∧ ((b = true ∧ R64 (ev (vl names p) l) ∧ n = ev (vl names p) l) ∨ (b = false ∧ ¬ R64 (ev (vl names p) l) ∧ n = 0)) := by
 unfold m_ref10_value
 obtain ⟨t0, a1, a2, a3, a4⟩ := add_ref ⟨0, 0⟩ l.K 1 0 hw.k (by omega) (by simp) (by simp) (by omega)
 rw [a1, Option.bind_some]
 obtain ⟨r, hr, hQ⟩ := loop_fu (L := fun f s i => m_ref10_value_l1 l names p f i s) (n := l.L.length) (by omega)
  (fun i s => Tt s = l.K + esum (vl names p) (l.L.take i) ∧ (0 ≤ s.Low ∧ s.Low < 4294967296) ∧ (-(((i : Int) + 1) * 144115189149597696) ≤ s.High ∧ s.High ≤ ((i : Int) + 1) * 144115189149597696))
  (fun r => (r.2 = true ∧ R64 (ev (vl names p) l) ∧ r.1 = ev (vl names p) l) ∨ (r.2 = false ∧ ¬ R64 (ev (vl names p) l) ∧ r.1 = 0))
  (fun f i s hi ⟨h1, h2, h3⟩ => by
   obtain ⟨x, hx⟩ := at_some hi
   have hxm := List.mem_of_getElem? hx
   obtain ⟨ix, i1, i2⟩ := first_ix (hok.2 x hxm)
   obtain ⟨u, hu⟩ := at_some (l := p) (i := ix) (by have := (List.getElem?_eq_some_iff.1 i1).1; omega)
   obtain ⟨t', q1, q2, q3, q4⟩ := add_ref s x.By u (((i : Int) + 1) * 144115189149597696) (hw.b x hxm) (hn u (List.mem_of_getElem? hu)) h2 h3 (by omega)
   left
   refine ⟨t', ⟨?_, q3, by omega, by omega⟩, ?_⟩
   ·rw [q2, h1, take_succ' hx, esum_app]
    simp only [esum, vl_at i1 i2 hu]; omega
   ·simp only [m_ref10_value_l1]
    rw [if_pos (lt_dec hi), lat_at hx, Option.bind_some, Option.bind_some, place_ok (by omega) i1 i2, Option.bind_some, lat_at hu, Option.bind_some, q1, Option.bind_some, wis (by omega)])
  (fun f s ⟨h1, h2, h3⟩ => by
   rw [List.take_length] at h1
   simp only [m_ref10_value_l1]
   rw [if_neg (by simp)]
   unfold m_ref10_fits
   have he : ev (vl names p) l = s.High * 4294967296 + s.Low := by unfold ev; rw [← h1]; rfl
   rw [he]
   by_cases c : 2147483648 ≤ s.High ∨ s.High < -2147483648
   ·refine ⟨(0, false), by rw [if_pos (by simpa using c)]; rfl, .inr ⟨rfl, fun ⟨k1, k2⟩ => by omega, rfl⟩⟩
   ·refine ⟨(s.High * 4294967296 + s.Low, true), ?_, .inl ⟨rfl, ⟨by omega, by omega⟩, rfl⟩⟩
    rw [if_neg (by simpa using c), Option.bind_some, show (2 : Int) ^ 32 = 4294967296 from rfl, wi (p := s.High * 4294967296) ⟨by omega, by omega⟩, wi (p := s.High * 4294967296 + s.Low) ⟨by omega, by omega⟩]) t0 ⟨by rw [a2]; simp [Tt, esum], a3, by omega, by omega⟩
 exact ⟨r.1, r.2, hr, hQ⟩
theorem Apply_both (m : List GLin) (names : List (List UInt8)) (p : List Int) (hw : ∀ f ∈ m, Wf f) (h20 : ∀ f ∈ m, f.L.length ≤ 20) (hn : ∀ x ∈ p, -67108864 ≤ x ∧ x ≤ 67108864) :
  ∃ r, m_affine_Apply m names p = some r ∧ m_ref10_Apply m names p = some r ∧ r.1.length ≤ 16 := by
 obtain ⟨v, v0, v1, v2⟩ := Validate_both m names fun f hf => by have := h20 f hf; omega
 unfold m_affine_Apply m_ref10_Apply
 rw [v1, v2, Option.bind_some, Option.bind_some]
 by_cases hv : v = 0
 rotate_left
 ·have c : (!decide (v = 0)) = true := by simpa using hv
  exact ⟨_, if_pos c, if_pos c, by simp⟩
 have c : ¬ (!decide (v = 0)) = true := by simpa using hv
 by_cases hp : p.length = names.length
 rotate_left
 ·have d : (!decide ((p.length : Int) = (names.length : Int))) = true := by simp; omega
  exact ⟨_, (if_neg c).trans (if_pos d), (if_neg c).trans (if_pos d), by simp⟩
 have d : ¬ (!decide ((p.length : Int) = (names.length : Int))) = true := by simp; omega
 have hok := v0.1 hv
 obtain ⟨r, r1, r2⟩ := image_ok m names p hok hp hw fun x hx => ⟨by have := hn x hx; omega, by have := hn x hx; omega⟩
 obtain ⟨hm1, hm2, hm3, hm4⟩ := hok
 refine ⟨r, (if_neg c).trans ((if_neg d).trans (by rw [r1]; rfl)), (if_neg c).trans ((if_neg d).trans ?_), by rcases r2 with ⟨rfl, _⟩ | ⟨rfl, _⟩ <;> simp <;> omega⟩
 refine loop_eq (L := fun f o i => m_ref10_Apply_l1 m names p f o i) (n := m.length) (by omega) (fun i o => o = (m.take i).map (ev (vl names p)) ∧ ∀ f ∈ m.take i, R64 (ev (vl names p) f))
  (fun f i o hi ⟨ho, hI⟩ => ?_) (fun f o ⟨ho, hI⟩ => ?_) [] ⟨rfl, by simp⟩
 ·obtain ⟨x, hx⟩ := at_some hi
  have hxm := List.mem_of_getElem? hx
  obtain ⟨n, b, h1, h2⟩ := value_ok names p x (by omega) hp (hm4 x hxm) (hw x hxm) (h20 x hxm) hn
  simp only [m_ref10_Apply_l1]
  rw [if_pos (lt_dec hi), lat_at hx, Option.bind_some, h1, Option.bind_some]
  rcases h2 with ⟨rfl, h3, rfl⟩ | ⟨rfl, h3, rfl⟩
  ·left
   refine ⟨_, ⟨rfl, ?_⟩, by rw [if_neg (by simp), lapp_ok (by rw [ho]; simp; omega), Option.bind_some, wis (by omega), ho, take_succ' hx]; simp⟩
   rw [take_succ' hx]; intro y hy; rcases List.mem_append.1 hy with hy | hy
   ·exact hI y hy
   ·rw [List.mem_singleton.1 hy]; exact h3
  ·right
   rw [if_pos (by simp)]
   rcases r2 with ⟨_, h⟩ | ⟨rfl, _⟩
   ·exact absurd (h x hxm) h3
   ·rfl
 ·rw [List.take_length] at ho hI
  simp only [m_ref10_Apply_l1]
  rw [if_neg (by simp), ho]
  rcases r2 with ⟨rfl, h⟩ | ⟨rfl, x, hxm, h⟩
  ·rfl
  ·exact absurd (hI x hxm) h
theorem int64s_ok (a b : List Int) (ha : a.length < 4611686018427387904) : m_base_Int64s a b = some (decide (a = b)) := by
 unfold m_base_Int64s
 by_cases hl : a.length = b.length
 rotate_left
 ·rw [if_pos (by simp; omega), decide_eq_false (fun e => hl (by rw [e]))]
 rw [if_neg (by simp; omega)]
 obtain ⟨r, h1, h2⟩ := loop_fu (L := fun f (_ : Unit) i => m_base_Int64s_l1 a b f i) (n := a.length) ha (fun i _ => ∀ j, j < i → a[j]? = b[j]?) (fun r => r = decide (a = b))
  (fun f i _ hi hI => by
   obtain ⟨x, hx⟩ := at_some hi
   obtain ⟨y, hy⟩ := at_some (l := b) (i := i) (by omega)
   simp only [m_base_Int64s_l1]
   rw [if_pos (lt_dec hi), lat_at hx, Option.bind_some, lat_at hy, Option.bind_some]
   by_cases e : x = y
   ·left; refine ⟨(), fun j hj => ?_, by rw [if_neg (by simpa using e), wis (by omega)]⟩
    by_cases hji : j = i
    ·rw [hji, hx, hy, e]
    ·exact hI j (by omega)
   ·right; refine ⟨false, by rw [if_pos (by simpa using e)], ?_⟩
    rw [decide_eq_false]; rintro rfl; rw [hx] at hy; injection hy with hy; exact e hy)
  (fun f _ hI => by
   simp only [m_base_Int64s_l1]
   exact ⟨true, by rw [if_neg (by simp)], by rw [decide_eq_true]; exact list_ext' hl hI⟩) () (fun j hj => by omega)
 rw [show m_base_Int64s_l1 a b fu 0 = some r from h1, h2]
theorem box_tot (ext : List Int) (h : ext.length < 4611686018427387904) : ∃ r, m_ref10_Box ext = some r := by
 unfold m_ref10_Box
 by_cases c : 16 < ext.length
 ·exact ⟨2, if_pos (by simp; omega)⟩
 have tail : ∀ n, ∃ r, m_ref10_Box_j1 ext n = some r := fun n => by
  unfold m_ref10_Box_j1
  obtain ⟨r, h1, _⟩ := loop_fu (L := fun f n i => m_ref10_Box_l1 ext f n i) (n := ext.length) h (fun _ _ => True) (fun _ => True)
   (fun f i n hi _ => by
    obtain ⟨x, hx⟩ := at_some hi
    simp only [m_ref10_Box_l1]
    rw [lt_dec hi, Bool.true_and, lat_at hx, Option.bind_some, Option.bind_some, wis (by omega)]
    by_cases c1 : 0 < n
    ·rw [if_pos (by simpa using c1)]
     by_cases c2 : 65536 < x
     ·right; exact ⟨2, by rw [if_pos (by simpa using c2)], trivial⟩
     ·rw [if_neg (by simpa using c2)]
      by_cases c3 : 65536 < wi64 (n * x)
      ·right; exact ⟨2, by rw [if_pos (by simpa using c3)], trivial⟩
      ·left; exact ⟨_, trivial, by rw [if_neg (by simpa using c3)]⟩
    ·right; exact ⟨0, by rw [if_neg (by simpa using c1)], trivial⟩)
   (fun f n _ => by
    simp only [m_ref10_Box_l1]
    exact ⟨0, by rw [if_neg (by simp)], trivial⟩) n trivial
  exact ⟨r, h1⟩
 obtain ⟨r, h1, _⟩ := loop_fu (L := fun f n i => m_ref10_Box_l2 ext f n i) (n := ext.length) h (fun _ _ => True) (fun _ => True)
  (fun f i n hi _ => by
   obtain ⟨x, hx⟩ := at_some hi
   simp only [m_ref10_Box_l2]
   rw [if_pos (lt_dec hi), lat_at hx, Option.bind_some, Option.bind_some, m_ref10_Box_j2, m_ref10_Box_j2, wis (by omega)]
   by_cases c1 : x < 0
   ·right; exact ⟨1, by rw [if_pos (by simpa using c1)], trivial⟩
   ·left
    rw [if_neg (by simpa using c1)]
    by_cases c2 : x = 0
    ·exact ⟨_, trivial, by rw [if_pos (by simpa using c2)]⟩
    ·exact ⟨_, trivial, by rw [if_neg (by simpa using c2)]⟩)
  (fun f n _ => by
   simp only [m_ref10_Box_l2]
   rw [if_neg (by simp)]
   obtain ⟨r, hr⟩ := tail n
   exact ⟨r, hr, trivial⟩) 1 trivial
 exact ⟨r, (if_neg (by simp; omega)).trans h1⟩
theorem Few_tot (ext : List Int) (k : Int) (h : ext.length < 4611686018427387904) : ∃ r, m_ref10_Few ext k = some r := by
 obtain ⟨b, hb⟩ := box_tot ext h
 unfold m_ref10_Few
 rw [hb, Option.bind_some]
 by_cases c : b = 0
 ·rw [if_neg (by simpa using c)]
  obtain ⟨r, h1, _⟩ := loop_fu (L := fun f n i => m_ref10_Few_l1 ext k f n i) (n := ext.length) h (fun _ _ => True) (fun _ => True)
   (fun f i n hi _ => by
    obtain ⟨x, hx⟩ := at_some hi
    left; exact ⟨_, trivial, by simp only [m_ref10_Few_l1]; rw [if_pos (lt_dec hi), lat_at hx, Option.bind_some, wis (by omega)]⟩)
   (fun f n _ => ⟨_, by simp only [m_ref10_Few_l1]; rw [if_neg (by simp)], trivial⟩) 1 trivial
  exact ⟨r, h1⟩
 ·exact ⟨true, by rw [if_pos (by simpa using c)]⟩
theorem few_ok (m : List GLin) (names : List (List UInt8)) (ext : List Int) : ∃ b, m_law10_few m names ext = some b ∧ (b = true → (∀ f ∈ m, f.L.length ≤ 20) ∧ m.length ≤ 20 ∧ names.length ≤ 20 ∧ ext.length ≤ 20) := by
 unfold m_law10_few
 by_cases c : 20 < m.length ∨ 20 < names.length ∨ 20 < ext.length
 ·have e : ((decide (20 < (m.length : Int)) || decide (20 < (names.length : Int))) || decide (20 < (ext.length : Int))) = true := by simp; omega
  rw [e]; exact ⟨false, by simp [gd], by simp⟩
 have e : ((decide (20 < (m.length : Int)) || decide (20 < (names.length : Int))) || decide (20 < (ext.length : Int))) = false := by simp; omega
 rw [e]
 obtain ⟨q, hq⟩ := Few_tot ext 200 (by omega)
 rw [hq]
 simp only [gd, Bool.not_false, if_true, Option.bind_some, Bool.false_or]
 cases q with
 | false => exact ⟨false, by simp, by simp⟩
 | true =>
  simp only [Bool.not_true, Bool.false_eq_true, if_false]
  have tail : ∃ r, m_law10_few_j1 names = some r := by
   unfold m_law10_few_j1
   obtain ⟨r, h1, _⟩ := loop_fu (L := fun f (_ : Unit) i => m_law10_few_l1 names f i) (n := names.length) (by omega) (fun _ _ => True) (fun _ => True)
    (fun f i _ hi _ => by
     obtain ⟨x, hx⟩ := at_some hi
     simp only [m_law10_few_l1]
     rw [if_pos (lt_dec hi), lat_at hx, Option.bind_some, wis (by omega)]
     by_cases c : 100 < x.length
     ·right; exact ⟨false, by rw [if_pos (by simp; omega)], trivial⟩
     ·left; exact ⟨(), trivial, by rw [if_neg (by simp; omega)]⟩)
    (fun f _ _ => ⟨true, by simp only [m_law10_few_l1]; rw [if_neg (by simp)], trivial⟩) () trivial
   exact ⟨r, h1⟩
  obtain ⟨r, h1, h2⟩ := loop_fu (L := fun f (_ : Unit) i => m_law10_few_l2 m names f i) (n := m.length) (by omega) (fun i _ => ∀ f ∈ m.take i, f.L.length ≤ 20) (fun r => r = true → ∀ f ∈ m, f.L.length ≤ 20)
   (fun f i _ hi hI => by
    obtain ⟨x, hx⟩ := at_some hi
    simp only [m_law10_few_l2]
    rw [if_pos (lt_dec hi), lat_at hx, Option.bind_some, wis (by omega)]
    by_cases c : 20 < x.L.length
    ·right; exact ⟨false, by rw [if_pos (by simp; omega)], by simp⟩
    ·left; refine ⟨(), ?_, by rw [if_neg (by simp; omega)]⟩
     rw [take_succ' hx]; intro y hy; rcases List.mem_append.1 hy with hy | hy
     ·exact hI y hy
     ·rw [List.mem_singleton.1 hy]; omega)
   (fun f _ hI => by
    rw [List.take_length] at hI
    simp only [m_law10_few_l2]
    obtain ⟨r, hr⟩ := tail
    exact ⟨r, by rw [if_neg (by simp)]; exact hr, fun _ => hI⟩) () (by simp)
  exact ⟨r, h1, fun hr => ⟨h2 hr, by omega, by omega, by omega⟩⟩
theorem Near_ok (p : List Int) (hp : p.length < 4611686018427387904) : ∃ b, m_ref10_Near p = some b ∧ (b = true → ∀ x ∈ p, -67108864 ≤ x ∧ x ≤ 67108864) := by
 unfold m_ref10_Near
 exact loop_fu (L := fun f (_ : Unit) i => m_ref10_Near_l1 p f i) (n := p.length) hp (fun i _ => ∀ x ∈ p.take i, -67108864 ≤ x ∧ x ≤ 67108864) (fun r => r = true → ∀ x ∈ p, -67108864 ≤ x ∧ x ≤ 67108864)
  (fun f i _ hi hI => by
   obtain ⟨x, hx⟩ := at_some hi
   simp only [m_ref10_Near_l1]
   rw [if_pos (lt_dec hi), lat_at hx, Option.bind_some, wis (by omega)]
   by_cases c1 : 67108864 ≤ x
   ·right; exact ⟨false, by rw [decide_eq_true c1]; simp [gd], by simp⟩
   ·rw [decide_eq_false c1]
    simp only [gd, Bool.not_false, if_true, Option.bind_some, Bool.false_or]
    by_cases c2 : x ≤ -67108864
    ·right; exact ⟨false, by rw [if_pos (by simpa using c2)], by simp⟩
    ·left; refine ⟨(), ?_, by rw [if_neg (by simpa using c2)]⟩
     rw [take_succ' hx]; intro y hy; rcases List.mem_append.1 hy with hy | hy
     ·exact hI y hy
     ·rw [List.mem_singleton.1 hy]; omega)
  (fun f _ hI => by
   rw [List.take_length] at hI
   exact ⟨true, by simp only [m_ref10_Near_l1]; rw [if_neg (by simp)], fun _ => hI⟩) () (by simp)
theorem wfs {m : List GLin} (h : okL okGLin m) (h20 : ∀ f ∈ m, f.L.length ≤ 20) : ∀ f ∈ m, Wf f := fun f hf => Wf.of (h.1 f hf) (by have := h20 f hf; omega)
theorem law_AffineApply (m : List GLin) (names : List (List UInt8)) (p : List Int) (hm : okL okGLin m) (_ : okL okS names) (hp : okL (okI .i64) p) : m_law10_AffineApply m names p = some true := by
 unfold m_law10_AffineApply
 obtain ⟨b, h1, h2⟩ := few_ok m names []
 rw [h1, Option.bind_some, ex10]
 cases b with
 | false => simp [gd]
 | true =>
  obtain ⟨h20, hm20, hn20, _⟩ := h2 rfl
  by_cases c : 20 < p.length
  ·have e : decide (20 < (p.length : Int)) = true := by simp; omega
   rw [e]; simp [gd]
  have e : decide (20 < (p.length : Int)) = false := by simp; omega
  obtain ⟨nb, n1, n2⟩ := Near_ok p (by omega)
  rw [e, n1]
  simp only [gd, Bool.not_true, Bool.false_or, Bool.not_false, if_true, Option.bind_some]
  cases nb with
  | false => rfl
  | true =>
   obtain ⟨r, r1, r2, r3⟩ := Apply_both m names p (wfs hm h20) h20 (n2 rfl)
   obtain ⟨v, v0, v1, v2⟩ := Validate_both m names fun f hf => by have := h20 f hf; omega
   rw [if_neg (by simp), r1, r2, v1, v2]
   simp [gd, int64s_ok r.1 r.1 (by omega)]
end Go.Proofs.Ytaokohndeepbjaa
