import Derived.Test.YtmhoikfoogemnaaGreatDoorSEa
namespace Go.Proofs.YtmhoikfoogemnaaGreatDoor
open Go Go.RowKit Go.Vc
set_option linter.unusedVariables false
set_option linter.unusedSimpArgs false
def insR : List (List UInt8) → List UInt8 → List (List UInt8)
 | [], s => [s]
 | x :: l, s => if Op.bytesLess x s = true then x :: insR l s else if Op.bytesLess s x = true then s :: x :: l else x :: l
theorem insR_snoc {s x : List UInt8} (h : Op.bytesLess s x = true) (p : List (List UInt8)) : insR (p ++ [x]) s = insR p s ++ [x] := by
 induction p with
 | nil => simp only [List.nil_append, insR]; rw [if_neg (by rw [bl_asy h]; simp), if_pos h]; rfl
 | cons y p ih =>
  simp only [List.cons_append, insR]
  split
  ·rw [ih]; rfl
  ·split <;> rfl
theorem insR_all {s : List UInt8} (p : List (List UInt8)) (h : ∀ y ∈ p, Op.bytesLess y s = true) : insR p s = p ++ [s] := by
 induction p with
 | nil => rfl
 | cons y p ih => simp only [insR]; rw [if_pos (h y (by simp)), ih (fun z hz => h z (by simp [hz]))]; rfl
abbrev AscN (l : List (List UInt8)) : Prop := l.Pairwise (fun a b => Op.bytesLess a b = true)
theorem insR_mem {s : List UInt8} (p : List (List UInt8)) (h : AscN p) (hs : s ∈ p) : insR p s = p := by
 induction p with
 | nil => cases hs
 | cons y p ih =>
  obtain ⟨h1, h2⟩ := List.pairwise_cons.1 h
  simp only [insR]
  rcases List.mem_cons.1 hs with rfl | hs
  ·rw [if_neg (by rw [bl_irr]; simp), if_neg (by rw [bl_irr]; simp)]
  ·rw [if_pos (h1 s hs), ih h2 hs]
theorem lat_app {α : Type} (p : List α) (x : α) (q : List α) : lat (p ++ x :: q) (p.length : Int) = some x := by rw [latN]; simp
theorem set_app {α : Type} (p : List α) (x y : α) (q : List α) : (p ++ x :: q).set p.length y = p ++ y :: q := by simp
theorem ins_run (s : List UInt8) : ∀ (n f : Nat) (p q : List (List UInt8)), p.length = n → n < f → n < 1000000 → AscN p → s ∉ p → m_ref05_insert_w_l1 f (p ++ s :: q) (n : Int) = some (insR p s ++ q)
 | 0, f + 1, p, q, hp, hf, hn, ha, hm => by
  obtain rfl := List.length_eq_zero_iff.1 hp
  simp only [m_ref05_insert_w_l1]
  rfl
 | n + 1, f + 1, p, q, hp, hf, hn, ha, hm => by
  obtain ⟨p', x, rfl⟩ : ∃ p' x, p = p' ++ [x] := ⟨p.dropLast, p.getLast (by intro h; subst h; simp at hp), (List.dropLast_concat_getLast _).symm⟩
  have hp' : p'.length = n := by simpa using hp
  have a1 : AscN p' := (List.pairwise_append.1 ha).1
  have a2 : ∀ y ∈ p', Op.bytesLess y x = true := fun y hy => (List.pairwise_append.1 ha).2.2 y hy x (by simp)
  have e1 : wi64 (((n + 1 : Nat) : Int) - 1) = (n : Int) := wid (by omega)
  have e2 : lat (p' ++ [x] ++ s :: q) (n : Int) = some x := by rw [List.append_assoc, ← hp']; exact lat_app p' x (s :: q)
  have e3 : lat (p' ++ [x] ++ s :: q) ((n + 1 : Nat) : Int) = some s := by rw [← hp]; exact lat_app (p' ++ [x]) s q
  have e4 : decide ((0 : Int) < ((n + 1 : Nat) : Int)) = true := decide_eq_true (by omega)
  have hne : ¬ x = s := fun h => hm (by simp [h])
  simp only [m_ref05_insert_w_l1]
  rw [e4, e1, e2, e3]
  simp only [gd, if_true, Option.bind_some, Bool.true_and]
  by_cases c : Op.bytesLess x s = true
  ·rw [if_neg (by rw [c]; simp)]
   rw [insR_all (p' ++ [x]) (fun y hy => ?_)]
   ·simp
   ·rcases List.mem_append.1 hy with hy | hy
    ·exact bl_trans _ _ _ (a2 y hy) c
    ·rw [List.mem_singleton.1 hy]; exact c
  ·have c2 : Op.bytesLess s x = true := by
    rw [Bool.not_eq_true] at c
    cases h : Op.bytesLess s x with
    | true => rfl
    | false => exact absurd (bl_tri _ _ c h) hne
   rw [if_pos (by rw [Bool.not_eq_true] at c; rw [c]; simp [hne])]
   have l1 : ((p' ++ [x] ++ s :: q).length : Int) = (n : Int) + 2 + q.length := by simp only [List.length_append, List.length_cons, List.length_nil]; omega
   rw [if_pos ⟨by omega, by rw [l1]; omega⟩, if_pos ⟨by omega, by rw [List.length_set, l1]; omega⟩]
   rw [show Int.toNat ((n + 1 : Nat) : Int) = (p' ++ [x]).length by simp [hp'], set_app, show Int.toNat (n : Int) = p'.length by omega, List.append_assoc, List.cons_append, List.nil_append, set_app]
   rw [ins_run s n f p' (x :: q) hp' (by omega) (by omega) a1 (fun h => hm (by simp [h])), insR_snoc c2]
   simp
theorem insert_ok {l : List (List UInt8)} {s : List UInt8} (ha : AscN l) (hl : l.length < 1000000) : m_ref05_insert_w l s = some (insR l s) := by
 unfold m_ref05_insert_w
 rw [has_str l s (by omega), Option.bind_some]
 by_cases h : s ∈ l
 ·rw [if_pos (by simpa using h), insR_mem l ha h]
 ·rw [if_neg (by simpa using h), lapp_ok (by simp only [List.length_cons, List.length_nil]; omega), Option.bind_some, Option.bind_some]
  rw [show wi64 (((l ++ [s]).length : Int) - 1) = (l.length : Int) by simp only [List.length_append, List.length_cons, List.length_nil]; exact wid (by omega)]
  have := ins_run s l.length fu l [] rfl (by unfold fu; omega) hl ha h
  rw [this]; simp
def nms (l : List GMono) : List (List UInt8) := l.map (·.Name)
theorem nms_asc {l : List GMono} (h : Asc l) : AscN (nms l) := by unfold AscN nms; rw [List.pairwise_map]; exact h
theorem names_l2 {ls : List GLin} {i : Int} {a : GLin} {self : List (List UInt8) → Int → Option (List (List UInt8))} {o : List (List UInt8)} (h : lat ls i = some a) (hl : o.length + a.L.length < 1000000)
  (ha : ∀ k ≤ a.L.length, AscN ((nms (a.L.take k)).foldl insR o) ∧ ((nms (a.L.take k)).foldl insR o).length ≤ o.length + k) :
  m_ref05_Names_l2 ls i self fu o 0 = self ((nms a.L).foldl insR o) (wi64 (i + 1)) := by
 refine loop_eq (L := fun f (o : List (List UInt8)) k => m_ref05_Names_l2 ls i self f o k) (n := a.L.length) (by omega) (fun k x => x = (nms (a.L.take k)).foldl insR o) (fun f k x hk hI => ?_) (fun f x hI => ?_) o (by simp [nms])
 ·left
  obtain ⟨m, hm⟩ := at_some hk
  obtain ⟨h1, h2⟩ := ha k (by omega)
  simp only [m_ref05_Names_l2]
  rw [h, Option.bind_some, if_pos (lt_dec hk), Option.bind_some, lat_at hm, Option.bind_some, hI, insert_ok h1 (by omega), Option.bind_some, wis (show k < 4611686018427387904 by omega)]
  exact ⟨_, by rw [take_succ' hm]; simp [nms], rfl⟩
 ·rw [List.take_length] at hI
  simp only [m_ref05_Names_l2]
  rw [h, Option.bind_some, if_neg (by simp), hI]; rfl
theorem fold_asc {l : List GMono} (h : Asc l) (k : Nat) : (nms (l.take k)).foldl insR [] = nms (l.take k) := by
 have key : ∀ (l : List (List UInt8)) (o : List (List UInt8)), AscN (o ++ l) → l.foldl insR o = o ++ l := by
  intro l
  induction l with
  | nil => intro o _; simp
  | cons x l ih =>
   intro o h
   rw [List.foldl_cons, insR_all o (fun y hy => (List.pairwise_append.1 h).2.2 y hy x (by simp)), ih (o ++ [x]) (by simpa using h)]
   simp
 exact key _ [] (by simpa using nms_asc (l := l.take k) (List.Pairwise.sublist (List.take_sublist _ _) h))
theorem Names_ok {a b : GLin} (ha : Asc a.L) (hb : b.L.length ≤ 1) (hl : a.L.length ≤ 100000) : m_ref05_Names [a, b] = some ((nms b.L).foldl insR (nms a.L)) := by
 unfold m_ref05_Names
 have e0 := fold_asc ha a.L.length
 rw [List.take_length] at e0
 obtain ⟨g, hg⟩ : ∃ g, fu = g + 1 + 1 + 1 := ⟨fu - 3, by unfold fu; omega⟩
 have s1 : m_ref05_Names_l1 [a, b] (g + 1 + 1 + 1) [] 0 = m_ref05_Names_l2 [a, b] 0 (m_ref05_Names_l1 [a, b] (g + 1 + 1)) fu [] 0 := by
  simp only [m_ref05_Names_l1]; rw [if_pos (by simp)]
 have s2 : ∀ o, m_ref05_Names_l1 [a, b] (g + 1 + 1) o 1 = m_ref05_Names_l2 [a, b] 1 (m_ref05_Names_l1 [a, b] (g + 1)) fu o 0 := fun o => by
  simp only [m_ref05_Names_l1]; rw [if_pos (by simp)]
 have s3 : ∀ o, m_ref05_Names_l1 [a, b] (g + 1) o 2 = some o := fun o => by
  simp only [m_ref05_Names_l1]; rw [if_neg (by simp)]
 have hA : ∀ k ≤ a.L.length, AscN ((nms (a.L.take k)).foldl insR []) ∧ ((nms (a.L.take k)).foldl insR []).length ≤ ([] : List (List UInt8)).length + k := fun k hk => by
  rw [fold_asc ha k]
  refine ⟨nms_asc (List.Pairwise.sublist (List.take_sublist _ _) ha), ?_⟩
  simp only [nms, List.length_map, List.length_take, List.length_nil]; omega
 conv => lhs; arg 2; rw [hg]
 rw [s1, names_l2 (a := a) rfl (by simp only [List.length_nil]; omega) hA, e0, show wi64 (0 + 1) = 1 from rfl, s2, names_l2 (a := b) rfl (by simp only [nms, List.length_map]; omega) (fun k hk => ?_), show wi64 (1 + 1) = 2 from rfl, s3]
 ·by_cases h0 : k = 0
  ·subst h0; simp only [List.take_zero]; exact ⟨nms_asc ha, by simp [nms]⟩
  ·match hbl : b.L, hb with
   | [], _ => rw [hbl] at hk; simp at hk; omega
   | [m], _ =>
    rw [hbl] at hk; simp at hk
    obtain rfl : k = 1 := by omega
    simp only [List.take_succ_cons, List.take_zero, nms, List.map_cons, List.map_nil, List.foldl_cons, List.foldl_nil]
    have asc : ∀ (l : List (List UInt8)) (s : List UInt8), AscN l → AscN (insR l s) ∧ (insR l s).length ≤ l.length + 1 ∧ ∀ y ∈ insR l s, y = s ∨ y ∈ l := by
     intro l s
     induction l with
     | nil => intro _; exact ⟨by simp [insR, AscN], by simp [insR], fun y hy => .inl (by simpa [insR] using hy)⟩
     | cons x l ih =>
      intro h
      obtain ⟨h1, h2⟩ := List.pairwise_cons.1 h
      obtain ⟨i1, i2, i3⟩ := ih h2
      simp only [insR]
      split
      ·next c =>
       refine ⟨List.pairwise_cons.2 ⟨fun y hy => ?_, i1⟩, by simp only [List.length_cons]; omega, fun y hy => ?_⟩
       ·rcases i3 y hy with rfl | hy
        ·exact c
        ·exact h1 y hy
       ·rcases List.mem_cons.1 hy with rfl | hy
        ·exact .inr (by simp)
        ·exact (i3 y hy).imp id (fun h => by simp [h])
      ·split
       ·next c2 =>
        refine ⟨List.pairwise_cons.2 ⟨fun y hy => ?_, h⟩, by simp, fun y hy => (List.mem_cons.1 hy).imp id id⟩
        rcases List.mem_cons.1 hy with rfl | hy
        ·exact c2
        ·exact bl_trans _ _ _ c2 (h1 y hy)
       ·exact ⟨h, by simp, fun y hy => .inr hy⟩
    have := asc (nms a.L) m.Name (nms_asc ha)
    exact ⟨this.1, this.2.1⟩
def coef : List GMono → List UInt8 → Int
 | [], _ => 0
 | x :: l, s => if x.Name = s then x.By else coef l s
theorem Coeff_ok (a : GLin) (s : List UInt8) (hl : a.L.length < 1000000) : m_ref05_Coeff a s = some (coef a.L s) := by
 refine loop_eq (L := fun f (_ : Unit) i => m_ref05_Coeff_l1 a s f i) (n := a.L.length) (by omega) (fun i _ => coef a.L s = coef (a.L.drop i) s) (fun f i _ hi hI => ?_) (fun f _ hI => ?_) () (by simp)
 ·obtain ⟨m, hm⟩ := at_some hi
  rw [drop_at hm] at hI
  simp only [coef] at hI
  simp only [m_ref05_Coeff_l1]
  rw [if_pos (lt_dec hi), lat_at hm, Option.bind_some]
  by_cases c : m.Name = s
  ·right; rw [if_pos (by simpa using c), Option.bind_some, hI, if_pos c]
  ·left; rw [if_neg c] at hI; exact ⟨(), hI, by rw [if_neg (by simpa using c), wis (show i < 4611686018427387904 by omega)]⟩
 ·rw [List.drop_length] at hI
  simp only [m_ref05_Coeff_l1]
  rw [if_neg (by simp), hI]; rfl
theorem coef_none {l : List GMono} {s : List UInt8} (h : s ∉ nms l) : coef l s = 0 := by
 induction l with
 | nil => rfl
 | cons x l ih => simp only [nms, List.map_cons, List.mem_cons, not_or] at h; simp only [coef]; rw [if_neg (fun e => h.1 e.symm)]; exact ih h.2
theorem coef_R {l : List GMono} (h : ∀ m ∈ l, R64 m.By) (s : List UInt8) : R64 (coef l s) := by
 induction l with
 | nil => exact ⟨by simp [coef], by simp [coef]⟩
 | cons x l ih => simp only [coef]; split; exact h x (by simp); exact ih (fun m hm => h m (by simp [hm]))
def smN (c : List UInt8 → Int) (l : List (List UInt8)) : List GMono := l.filterMap fun n => if c n = 0 then none else some ⟨n, c n⟩
def okN (c : List UInt8 → Int) (l : List (List UInt8)) : Prop := ∀ n ∈ l, R64 (c n)
theorem smN_snoc (c : List UInt8 → Int) (l : List (List UInt8)) (n : List UInt8) : smN c (l ++ [n]) = if c n = 0 then smN c l else smN c l ++ [⟨n, c n⟩] := by
 unfold smN; rw [List.filterMap_append]; simp only [List.filterMap_cons, List.filterMap_nil]; split <;> simp_all
theorem smN_len (c : List UInt8 → Int) (l : List (List UInt8)) : (smN c l).length ≤ l.length := List.length_filterMap_le _ _
theorem Add_run (ns : List (List UInt8)) (a b : GLin) (K : Int) (ha : ∀ m ∈ a.L, R64 m.By) (hb : ∀ m ∈ b.L, R64 m.By) (la : a.L.length < 1000000) (lb : b.L.length < 1000000) (hn : ns.length < 1000000) :
  (okN (fun n => coef a.L n + coef b.L n) ns → m_ref05_Add_l1 ns a b fu 0 ⟨K, []⟩ = some (⟨K, smN (fun n => coef a.L n + coef b.L n) ns⟩, 0)) ∧
  (¬ okN (fun n => coef a.L n + coef b.L n) ns → m_ref05_Add_l1 ns a b fu 0 ⟨K, []⟩ = some (⟨0, []⟩, 3)) := by
 let c : List UInt8 → Int := fun n => coef a.L n + coef b.L n
 have run : ∀ (r0 : Option (GLin × Int)), (okN c ns → r0 = some (⟨K, smN c ns⟩, 0)) → (¬ okN c ns → r0 = some (⟨0, []⟩, 3)) → m_ref05_Add_l1 ns a b fu 0 ⟨K, []⟩ = r0 := by
  intro r0 h1 h2
  refine loop_eq (L := fun f (o : GLin) i => m_ref05_Add_l1 ns a b f i o) (n := ns.length) (by omega) (fun i o => okN c (ns.take i) ∧ o = ⟨K, smN c (ns.take i)⟩) (fun f i o hi hI => ?_) (fun f o hI => ?_) ⟨K, []⟩ (by simp [okN, smN])
  ·obtain ⟨n, hn'⟩ := at_some hi
   obtain ⟨i1, rfl⟩ := hI
   simp only [m_ref05_Add_l1]
   rw [if_pos (lt_dec hi), lat_at hn', Option.bind_some, Option.bind_some, Coeff_ok a n la, Option.bind_some, Coeff_ok b n lb, Option.bind_some, base_Plus (coef_R ha n) (coef_R hb n), Option.bind_some]
   by_cases q : R64 (coef a.L n + coef b.L n)
   ·left
    rw [if_pos q]
    have q' : okN c (ns.take (i + 1)) := by
     rw [take_succ' hn']; intro x hx
     rcases List.mem_append.1 hx with hx | hx
     ·exact i1 x hx
     ·rw [List.mem_singleton.1 hx]; exact q
    refine ⟨⟨K, smN c (ns.take (i + 1))⟩, ⟨q', rfl⟩, ?_⟩
    have hsl := smN_len c (ns.take i)
    rw [List.length_take] at hsl
    rw [if_neg (by simp), take_succ' hn', smN_snoc]
    show (if (!decide (c n = 0)) = true then _ else _) = _
    by_cases z : c n = 0
    ·rw [if_neg (by simp [z]), if_pos z]; unfold m_ref05_Add_j1; rw [wis (show i < 4611686018427387904 by omega)]
    ·rw [if_pos (by simp [z]), if_neg z, Option.bind_some, lapp_ok (by simp only [List.length_cons, List.length_nil]; omega), Option.bind_some]; unfold m_ref05_Add_j1; rw [wis (show i < 4611686018427387904 by omega)]
   ·right
    rw [if_neg q, if_pos (by simp), h2 (fun h => q (h n (List.mem_of_getElem? hn')))]
  ·rw [List.take_length] at hI
   simp only [m_ref05_Add_l1]
   rw [if_neg (by simp), h1 hI.1, hI.2]
 exact ⟨fun h => run _ (fun _ => rfl) (fun h' => absurd h h'), fun h => run _ (fun h' => absurd h' h) (fun _ => rfl)⟩
theorem smN_id {c : List UInt8 → Int} {l : List GMono} (h : ∀ m ∈ l, c m.Name = m.By ∧ m.By ≠ 0) : smN c (nms l) = l := by
 induction l with
 | nil => rfl
 | cons x l ih =>
  obtain ⟨h1, h2⟩ := h x (by simp)
  have := ih (fun m hm => h m (by simp [hm]))
  unfold smN nms at this ⊢
  rw [List.map_cons, List.filterMap_cons, h1, if_neg h2, this]
theorem okN_id {c : List UInt8 → Int} {l : List GMono} (h : ∀ m ∈ l, c m.Name = m.By ∧ R64 m.By) : okN c (nms l) := by
 intro n hn
 obtain ⟨m, hm, rfl⟩ := List.mem_map.1 hn
 show R64 (c m.Name)
 rw [(h m hm).1]; exact (h m hm).2
theorem one_ok (m : GMono) (c : List UInt8 → Int) (hm : m.By ≠ 0) (hR : R64 m.By) : ∀ (a : List GMono), Asc a → (∀ x ∈ a, x.By ≠ 0 ∧ R64 x.By) → (∀ x ∈ a, c x.Name = x.By + if x.Name = m.Name then m.By else 0) → (m.Name ∉ nms a → c m.Name = m.By) →
  smN c (insR (nms a) m.Name) = mrg a [m] ∧ (okN c (insR (nms a) m.Name) ↔ okA a [m])
 | [], _, _, _, h4 => by
  have e := h4 (by simp [nms])
  simp only [nms, List.map_nil, insR, mrg, okA]
  refine ⟨by unfold smN; rw [List.filterMap_cons, e, if_neg hm]; rfl, fun _ => trivial, fun _ n hn => ?_⟩
  rw [List.mem_singleton.1 hn, e]; exact hR
 | x :: a, h1, h2, h3, h4 => by
  obtain ⟨p1, p2⟩ := List.pairwise_cons.1 h1
  have hx := h2 x (by simp)
  have hcx := h3 x (by simp)
  have ih := one_ok m c hm hR a p2 (fun y hy => h2 y (by simp [hy])) (fun y hy => h3 y (by simp [hy]))
  rw [mrg_cc, okA_cc]
  show smN c (insR (x.Name :: nms a) m.Name) = _ ∧ (okN c (insR (x.Name :: nms a) m.Name) ↔ _)
  simp only [insR]
  by_cases c1 : Op.bytesLess x.Name m.Name = true
  ·rw [if_pos c1, if_pos c1, if_pos c1]
   have hne := bl_ne c1
   rw [if_neg hne, Int.add_zero] at hcx
   obtain ⟨i1, i2⟩ := ih (fun h => h4 (by
    show m.Name ∉ x.Name :: nms a
    simp only [List.mem_cons, not_or]
    exact ⟨fun e => hne e.symm, h⟩))
   refine ⟨?_, ?_⟩
   ·unfold smN at i1 ⊢; rw [List.filterMap_cons, hcx, if_neg hx.1, i1]
   ·rw [← i2]; exact ⟨fun h n hn => h n (by simp [hn]), fun h n hn => by
     rcases List.mem_cons.1 hn with rfl | hn
     ·rw [hcx]; exact hx.2
     ·exact h n hn⟩
  ·rw [if_neg c1, if_neg c1, if_neg c1]
   by_cases c2 : Op.bytesLess m.Name x.Name = true
   ·rw [if_pos c2, if_pos c2, if_pos c2, mrg_nil]
    have lt : ∀ y ∈ x :: a, Op.bytesLess m.Name y.Name = true := fun y hy => by
     rcases List.mem_cons.1 hy with rfl | hy
     ·exact c2
     ·exact bl_trans _ _ _ c2 (p1 y hy)
    have hni : m.Name ∉ nms (x :: a) := fun h => by
     obtain ⟨y, hy, e⟩ := List.mem_map.1 h
     have := bl_ne (lt y hy)
     exact this e.symm
    have e := h4 hni
    have hc : ∀ y ∈ x :: a, c y.Name = y.By := fun y hy => by
     rw [h3 y hy, if_neg (fun e => bl_ne (lt y hy) e.symm), Int.add_zero]
    refine ⟨?_, ?_⟩
    ·have := smN_id (c := c) (l := x :: a) (fun y hy => ⟨hc y hy, (h2 y hy).1⟩)
     unfold smN nms at this ⊢
     rw [List.map_cons] at this
     rw [List.filterMap_cons, e, if_neg hm, this]
    ·have := okN_id (c := c) (l := x :: a) (fun y hy => ⟨hc y hy, (h2 y hy).2⟩)
     refine ⟨fun _ => by exact okA_nil _, fun _ n hn => ?_⟩
     rcases List.mem_cons.1 hn with rfl | hn
     ·rw [e]; exact hR
     ·exact this n hn
   ·rw [if_neg c2, if_neg c2, if_neg c2, mrg_nil]
    have he : x.Name = m.Name := bl_tri _ _ (by simpa using c1) (by simpa using c2)
    rw [if_pos he] at hcx
    have hc : ∀ y ∈ a, c y.Name = y.By := fun y hy => by
     rw [h3 y (by simp [hy]), if_neg (fun e => bl_ne (p1 y hy) (he.trans e.symm)), Int.add_zero]
    have i1 := smN_id (c := c) (l := a) (fun y hy => ⟨hc y hy, (h2 y (by simp [hy])).1⟩)
    have i2 := okN_id (c := c) (l := a) (fun y hy => ⟨hc y hy, (h2 y (by simp [hy])).2⟩)
    refine ⟨?_, ?_⟩
    ·unfold smN at i1 ⊢
     rw [List.filterMap_cons, hcx]
     by_cases z : x.By + m.By = 0
     ·rw [if_pos z, if_pos z]; exact i1
     ·rw [if_neg z, if_neg z]; exact congrArg _ i1
    ·refine ⟨fun h => ⟨by have := h x.Name (by simp); rw [hcx] at this; exact this, by exact okA_nil _⟩, fun h n hn => ?_⟩
     rcases List.mem_cons.1 hn with rfl | hn
     ·rw [hcx]; exact h.1
     ·exact i2 n hn
end Go.Proofs.YtmhoikfoogemnaaGreatDoor
