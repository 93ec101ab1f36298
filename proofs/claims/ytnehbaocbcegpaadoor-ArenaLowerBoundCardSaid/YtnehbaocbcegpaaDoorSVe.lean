import Derived.Test.YtnehbaocbcegpaaDoorSVd
namespace Go.Proofs.YtnehbaocbcegpaaDoor
open Go Go.RowKit Go.Vc
set_option linter.unusedVariables false
set_option linter.unusedSimpArgs false
theorem mget_mput {κ β : Type} [DecidableEq κ] (m : List (κ × β)) (k k' : κ) (v : β) : mget (mput m k v) k' = if k' = k then some v else mget m k' := by
 induction m with
 | nil => rfl
 | cons p m ih =>
  obtain ⟨a, b⟩ := p
  simp only [mput]
  by_cases h : k = a
  ·subst h; simp only [if_pos, mget]; by_cases h2 : k' = k <;> simp [h2]
  ·rw [if_neg h]; simp only [mget, ih]
   by_cases h2 : k' = a
   ·rw [if_pos h2, if_pos h2, if_neg (fun h3 : k' = k => h (h3.symm.trans h2))]
   ·rw [if_neg h2, if_neg h2]
def okLt (x : GLifetime) : Prop := 0 ≤ x.From ∧ x.From ≤ x.To ∧ 1 ≤ x.Size ∧ x.Size ≤ 4096
def badB (x : GLifetime) : Bool := ((decide (x.From < 0) || decide (x.To < x.From)) || decide (x.Size < 1)) || decide (4096 < x.Size)
theorem badB_iff (x : GLifetime) : badB x = false ↔ okLt x := by
 unfold badB okLt
 simp only [Bool.or_eq_false_iff, decide_eq_false_iff_not]; omega
theorem ref_j2 (l : List GLifetime) (i : Nat) (x : GLifetime) (hx : l[i]? = some x) (self : Int → Option Int) : m_ref41_Validate_j2 l (i : Int) self = if badB x = true then some 1 else self (wi64 ((i : Int) + 1)) := by
 unfold m_ref41_Validate_j2 badB
 rw [lat_at hx, Option.bind_some, m_ref41_Validate_j1]
 cases h1 : decide (x.From < 0)
 ·simp only [gd, Bool.not_false, if_true, Option.bind_some, Bool.false_or]
  cases h2 : decide (x.To < x.From)
  ·simp only [Bool.not_false, if_true, Option.bind_some, Bool.false_or]
   cases h3 : decide (x.Size < 1)
   ·simp
   ·simp
  ·simp
 ·simp [gd]
theorem validate (l : List GLifetime) (hl : l.length < 4611686018427387904) (hn : ∀ x ∈ l, x.Name.length < 4611686018427387904) :
  ∃ r, (r = 0 → ∀ x ∈ l, okLt x) ∧ m_liveness_Validate l = some r ∧ m_ref41_Validate l = some r := by
 unfold m_liveness_Validate m_ref41_Validate
 refine loop_sim (L := fun f (m : List (List UInt8 × Bool)) i => m_liveness_Validate_l1 l f i m) (M := fun f (_ : Unit) i => m_ref41_Validate_l1 l f i) (n := l.length) hl
  (fun i m _ => (∀ k, (mget m k).getD false = true ↔ ∃ y ∈ l.take i, y.Name = k) ∧ ∀ y ∈ l.take i, okLt y) (fun r => r = 0 → ∀ x ∈ l, okLt x) ?_ ?_ [] () ⟨fun k => by simp [mget], by simp⟩
 ·rintro i m ⟨⟩ hi ⟨hm, ho⟩
  obtain ⟨x, hx⟩ := at_some hi
  have hxl := hn x (List.mem_of_getElem? hx)
  by_cases h1 : nameB x.Name = true
  rotate_left
  ·right; refine ⟨7, by omega, fun f => ?_, fun f => ?_⟩
   ·simp only [m_liveness_Validate_l1]; rw [if_pos (lt_dec hi), lat_at hx, Option.bind_some, isName_ok _ hxl, Option.bind_some, if_pos (by simpa using h1)]
   ·simp only [m_ref41_Validate_l1]; rw [if_pos (lt_dec hi), lat_at hx, Option.bind_some, base_Name_ok _ hxl, Option.bind_some, if_pos (by simpa using h1)]
  have inner : ∀ self : Int → Option Int, m_ref41_Validate_l2 (i : Int) l self fu 0 = if (mget m x.Name).getD false = true then some 8 else m_ref41_Validate_j2 l (i : Int) self := fun self => by
   refine loop_eq (L := fun f (_ : Unit) k => m_ref41_Validate_l2 (i : Int) l self f k) (n := i) (by omega) (fun k _ => ∀ y ∈ l.take k, y.Name ≠ x.Name) ?_ ?_ () (by simp)
   ·intro f k _ hk hK
    obtain ⟨y, hy⟩ := at_some (l := l) (i := k) (by omega)
    simp only [m_ref41_Validate_l2]
    rw [if_pos (lt_dec hk), lat_at hy, Option.bind_some, lat_at hx, Option.bind_some]
    by_cases he : y.Name = x.Name
    ·right; rw [if_pos (by simpa using he), if_pos ((hm _).2 ⟨y, ?_, he⟩)]
     exact List.mem_of_getElem? (by rw [List.getElem?_take, if_pos hk]; exact hy)
    ·left; refine ⟨(), ?_, by rw [if_neg (by simpa using he), wis (by omega)]⟩
     rw [take_succ' hy]; intro z hz; rcases List.mem_append.1 hz with hz | hz
     ·exact hK z hz
     ·rw [List.mem_singleton.1 hz]; exact he
   ·intro f _ hK
    simp only [m_ref41_Validate_l2]
    rw [if_neg (by simp), if_neg (fun h => by obtain ⟨y, hy, he⟩ := (hm _).1 h; exact hK y hy he)]
  have hL : ∀ f, m_liveness_Validate_l1 l (f + 1) (i : Int) m = if (mget m x.Name).getD false = true then some 8 else if badB x = true then some 1 else m_liveness_Validate_l1 l f ((i + 1 : Nat) : Int) (mput m x.Name true) := fun f => by
   simp only [m_liveness_Validate_l1]; rw [if_pos (lt_dec hi), lat_at hx, Option.bind_some, isName_ok _ hxl, Option.bind_some, if_neg (by simpa using h1), wis (by omega)]; rfl
  have hR : ∀ f, m_ref41_Validate_l1 l (f + 1) (i : Int) = if (mget m x.Name).getD false = true then some 8 else if badB x = true then some 1 else m_ref41_Validate_l1 l f ((i + 1 : Nat) : Int) := fun f => by
   simp only [m_ref41_Validate_l1]; rw [if_pos (lt_dec hi), lat_at hx, Option.bind_some, base_Name_ok _ hxl, Option.bind_some, if_neg (by simpa using h1), inner, ref_j2 l i x hx, wis (by omega)]
  by_cases h2 : (mget m x.Name).getD false = true
  ·right; exact ⟨8, by omega, fun f => by rw [hL, if_pos h2], fun f => by rw [hR, if_pos h2]⟩
  by_cases h3 : badB x = true
  ·right; exact ⟨1, by omega, fun f => by rw [hL, if_neg h2, if_pos h3], fun f => by rw [hR, if_neg h2, if_pos h3]⟩
  left; refine ⟨mput m x.Name true, (), ⟨fun k => ?_, ?_⟩, fun f => by rw [hL, if_neg h2, if_neg h3], fun f => by rw [hR, if_neg h2, if_neg h3]⟩
  ·rw [mget_mput, take_succ' hx]
   by_cases hk : k = x.Name
   ·rw [if_pos hk]; simp; right; exact hk.symm
   ·rw [if_neg hk, hm]; simp only [List.mem_append, List.mem_singleton]
    exact ⟨fun ⟨y, a, b⟩ => ⟨y, .inl a, b⟩, fun ⟨y, a, b⟩ => a.elim (fun a => ⟨y, a, b⟩) (fun a => absurd (a ▸ b).symm hk)⟩
  ·rw [take_succ' hx]; intro y hy; rcases List.mem_append.1 hy with hy | hy
   ·exact ho y hy
   ·rw [List.mem_singleton.1 hy]; exact (badB_iff x).1 (by simpa using h3)
 ·rintro m ⟨⟩ ⟨hm, ho⟩
  rw [List.take_length] at ho
  refine ⟨0, fun _ => ho, fun f => ?_, fun f => ?_⟩
  ·simp only [m_liveness_Validate_l1]; rw [if_neg (by simp)]
  ·simp only [m_ref41_Validate_l1]; rw [if_neg (by simp)]
end Go.Proofs.YtnehbaocbcegpaaDoor
