/- AllReduce and ReduceScatter: program and reference; the law CollectiveReduces. Conditions: stated with each lemma. -/
import Derived.Test.YtpedfojbfbccaaaGreatSXe
namespace Go.Proofs.YtpedfojbfbccaaaGreat
open Go Go.RowKit Go.Vc
set_option linter.unusedVariables false
set_option linter.unusedSimpArgs false

/-- The elements at one place of the tensors of a group. -/
def col (ts : List GTensor) (n : Nat) : List GVal := ts.filterMap fun t => t.Vals[n]?
theorem col_len {ts : List GTensor} {n : Nat} (h : ∀ t ∈ ts, n < t.Vals.length) : (col ts n).length = ts.length := by
  induction ts with
  | nil => rfl
  | cons t ts ih =>
    obtain ⟨x, hx⟩ := at_some (h t (by simp))
    have := ih fun e he => h e (by simp [he])
    unfold col at this ⊢
    simp [hx, this]
theorem col_mem {ts : List GTensor} {n : Nat} {v : GVal} (h : v ∈ col ts n) : ∃ t ∈ ts, v ∈ t.Vals := by
  unfold col at h
  obtain ⟨t, ht, hv⟩ := List.mem_filterMap.1 h
  exact ⟨t, ht, List.mem_of_getElem? hv⟩
theorem col_succ {ts : List GTensor} {n k : Nat} {t : GTensor} {v : GVal} (h : ts[k]? = some t) (hv : t.Vals[n]? = some v) : col (ts.take (k + 1)) n = col (ts.take k) n ++ [v] := by
  rw [take_succ' h]; unfold col; rw [List.filterMap_append]; simp [hv]
theorem foldA_ok {op : Int} {t : GType} (hop : op = 4 ∨ op = 6 ∨ op = 9 ∨ op = 10) (ht : tyB t = true) : ∀ (xs : List GVal) (x : GVal), okV t x = true → (∀ y ∈ xs, okV t y = true) → ∃ q e, foldA op t x xs = some (q, e) ∧ (e = 0 → okV t q = true)
  | [], x, hx, _ => ⟨x, 0, rfl, fun _ => hx⟩
  | y :: ys, x, hx, h => by
    obtain ⟨q, e, h1, h2⟩ := Apply_fold hop ht hx (h y (by simp))
    rw [foldA, h1, Option.bind_some]
    rcases h2 with ⟨rfl, h3⟩ | ⟨h3, rfl⟩
    · rw [if_pos rfl]; exact foldA_ok hop ht ys q h3 fun z hz => h z (by simp [hz])
    · rw [if_neg h3]; exact ⟨_, _, rfl, fun h => absurd h h3⟩
theorem Reduce_R {fold : Int} {t : GType} {x : GVal} {xs : List GVal} (hf : 1 ≤ fold ∧ fold ≤ 4) (ht : tyB t = true) (hv : ∀ y ∈ x :: xs, okV t y = true) (hn : (x :: xs).length ≤ 60) : ∃ q e, m_value_Reduce fold t (x :: xs) = some (q, e) ∧ m_ref04_Reduce fold t (x :: xs) = some (q, e) ∧ (e = 0 → okV t q = true) ∧ (fold = 4 → e = 0) := by
  obtain ⟨op, ho, hop, h10⟩ : ∃ op, m_value_operator fold = some (op, true) ∧ (op = 4 ∨ op = 6 ∨ op = 9 ∨ op = 10) ∧ (fold = 4 → op = 10) := by
    rw [value_operator]
    have : fold = 1 ∨ fold = 2 ∨ fold = 3 ∨ fold = 4 := by omega
    rcases this with rfl | rfl | rfl | rfl
    · exact ⟨4, rfl, by omega, by omega⟩
    · exact ⟨6, rfl, by omega, by omega⟩
    · exact ⟨9, rfl, by omega, by omega⟩
    · exact ⟨10, rfl, by omega, by omega⟩
  have hR : ∀ y ∈ x :: xs, VaR y := fun y hy => frVaR (frOK_of ht (hv y hy))
  obtain ⟨q, e, h1, h2⟩ := foldA_ok hop ht xs x (hv x (by simp)) fun y hy => hv y (by simp [hy])
  have h3 : m_value_Reduce fold t (x :: xs) = some (q, e) := by
    rw [value_Reduce ho ht hR (by omega), if_pos (List.all_eq_true.2 hv)]; exact h1
  have h4 := (Reduce_eq (fold := fold) (t := t) hR (by omega)).1
  refine ⟨q, e, h3, h4.trans h3, h2, fun h => ?_⟩
  obtain ⟨q', h5, _⟩ := foldA_ext (op := op) (.inr (h10 h)) ht xs x (hv x (by simp)) fun y hy => hv y (by simp [hy])
  rw [h1] at h5
  have := Option.some.inj h5
  exact (Prod.mk.inj this).2

/-! ### Results one after the other, until the first error -/
def runG {α : Type} (g : Nat → α × Int) : Nat → Int
  | 0 => 0
  | n + 1 => if runG g n = 0 then (g n).2 else runG g n
theorem runG_all {α : Type} {g : Nat → α × Int} : ∀ {V : Nat}, (∀ n, n < V → (g n).2 = 0) → runG g V = 0
  | 0, _ => rfl
  | V + 1, h => by rw [runG, if_pos (runG_all fun n hn => h n (by omega))]; exact h V (by omega)
theorem runG_first {α : Type} {g : Nat → α × Int} {N : Nat} (h1 : (g N).2 ≠ 0) (h2 : ∀ n, n < N → (g n).2 = 0) : ∀ {V : Nat}, N < V → runG g V = (g N).2
  | V + 1, h => by
    rw [runG]
    by_cases e : N = V
    · subst e; rw [if_pos (runG_all h2)]
    · have := runG_first h1 h2 (V := V) (by omega)
      rw [if_neg (by rw [this]; exact h1), this]
theorem first_ne {α : Type} (g : Nat → α × Int) (V : Nat) : (∀ n, n < V → (g n).2 = 0) ∨ ∃ N, N < V ∧ (g N).2 ≠ 0 ∧ ∀ n, n < N → (g n).2 = 0 := by
  induction V with
  | zero => left; intro n h; omega
  | succ V ih =>
    rcases ih with h | ⟨N, h1, h2, h3⟩
    · by_cases hv : (g V).2 = 0
      · left
        intro n hn
        rcases Nat.lt_or_ge n V with h' | h'
        · exact h n h'
        · obtain rfl : n = V := by omega
          exact hv
      · right; exact ⟨V, by omega, hv, h⟩
    · right; exact ⟨N, by omega, h2, h3⟩
theorem runG_zero {α : Type} {g : Nat → α × Int} {V : Nat} (h : runG g V = 0) : ∀ n, n < V → (g n).2 = 0 := by
  rcases first_ne g V with h1 | ⟨N, h1, h2, h3⟩
  · exact h1
  · rw [runG_first h2 h3 h1] at h; exact absurd h h2
def ranG {α : Type} (g : Nat → α × Int) (n : Nat) : List α := (List.range n).map fun k => (g k).1
theorem ranG_len {α : Type} (g : Nat → α × Int) (n : Nat) : (ranG g n).length = n := by simp [ranG]
theorem ranG_succ {α : Type} (g : Nat → α × Int) (n : Nat) : ranG g (n + 1) = ranG g n ++ [(g n).1] := by simp [ranG, List.range_succ]
theorem ranG_get {α : Type} (g : Nat → α × Int) {n k : Nat} (h : k < n) : (ranG g n)[k]? = some (g k).1 := by simp [ranG, h]
theorem ranG_mem {α : Type} {g : Nat → α × Int} {n : Nat} {x : α} (h : x ∈ ranG g n) : ∃ k, k < n ∧ x = (g k).1 := by
  unfold ranG at h
  obtain ⟨k, hk, rfl⟩ := List.mem_map.1 h
  exact ⟨k, List.mem_range.1 hk, rfl⟩
/-- A loop that appends results until the first error. -/
theorem red_loop {α R : Type} {V : Nat} (g : Nat → α × Int) (hV : V < 4611686018427387904) (m : Nat → List α → Int → Option R) (W : Int → Option R) (fin : List α → Option R)
    (hm : ∀ f (i : Nat) vs, i < V → vs.length = i → m (f + 1) vs (i : Int) = if (g i).2 = 0 then m f (vs ++ [(g i).1]) ((i + 1 : Nat) : Int) else W (g i).2)
    (hz : ∀ f vs, vs.length = V → m (f + 1) vs (V : Int) = fin vs) : m fu [] 0 = if runG g V = 0 then fin (ranG g V) else W (runG g V) := by
  rcases first_ne g V with h | ⟨N, h1, h2, h3⟩
  · rw [if_pos (runG_all h)]
    refine loop_eq (L := m) (n := V) hV (fun i s => s = ranG g i) ?_ ?_ [] rfl
    · rintro f i s hi rfl
      left
      exact ⟨_, rfl, by rw [hm f i _ hi (ranG_len g i), if_pos (h i hi), ranG_succ]⟩
    · rintro f s rfl
      exact hz f _ (ranG_len g V)
  · have e := runG_first h2 h3 h1
    rw [if_neg (by rw [e]; exact h2), e]
    refine loop_eq (L := m) (n := N) (by omega) (fun i s => s = ranG g i) ?_ ?_ [] rfl
    · rintro f i s hi rfl
      left
      exact ⟨_, rfl, by rw [hm f i _ (by omega) (ranG_len g i), if_pos (h3 i hi), ranG_succ]⟩
    · rintro f s rfl
      rw [hm f N _ h1 (ranG_len g N), if_neg h2]

/-! ### The groups' columns -/
theorem col_loop {R : Type} {ts : List GTensor} {n : Nat} (h : ∀ t ∈ ts, n < t.Vals.length) (hn : ts.length ≤ 16) (m : Nat → List GVal → Int → Option R) (fin : List GVal → Option R)
    (hm : ∀ f s (k : Nat) t v, ts[k]? = some t → t.Vals[n]? = some v → m (f + 1) s (k : Int) = (lapp s [v]).bind fun z => m f z (wi64 ((k : Int) + 1)))
    (hz : ∀ f s, m (f + 1) s (ts.length : Int) = fin s) : m fu [] 0 = fin (col ts n) := by
  refine loop_eq (L := m) (n := ts.length) (by omega) (fun k s => s = col (ts.take k) n) ?_ ?_ [] (by simp [col])
  · rintro f k s hk rfl
    obtain ⟨t, ht⟩ := at_some hk
    obtain ⟨v, hv⟩ := at_some (h t (List.mem_of_getElem? ht))
    left
    refine ⟨_, rfl, ?_⟩
    have hlen : (col (ts.take k) n).length = (ts.take k).length := col_len fun e he => h e (List.mem_of_mem_take he)
    rw [hm f _ k t v ht hv, lapp_ok (by rw [hlen, List.length_take]; simp; omega), Option.bind_some, wis (by omega), col_succ ht hv]
  · rintro f s rfl
    rw [hz, List.take_length]
theorem sel_get {l : List GTensor} {g : List Nat} (h : ∀ d ∈ g, d < l.length) (k : Nat) : (sel l g)[k]? = g[k]?.bind fun d => l[d]? := by
  induction g generalizing k with
  | nil => rfl
  | cons d g ih =>
    obtain ⟨x, hx⟩ := at_some (h d (by simp))
    have e : sel l (d :: g) = x :: sel l g := by unfold sel; simp [hx]
    rw [e]
    cases k with
    | zero => simp [hx]
    | succ k => simpa using ih (fun e he => h e (by simp [he])) k
theorem sel_inv {l : List GTensor} {g : List Nat} (h : ∀ d ∈ g, d < l.length) {k : Nat} {t : GTensor} (ht : (sel l g)[k]? = some t) : ∃ d, g[k]? = some d ∧ l[d]? = some t := by
  rw [sel_get h] at ht
  exact Option.bind_eq_some_iff.1 ht
/-- The tensors of a group. -/
structure Gr (ts : List GTensor) (ty : GType) (dn : List Nat) : Prop where
  ne : ∃ t0 r, ts = t0 :: r
  ten : ∀ t ∈ ts, Ten t dn ∧ t.Type_ = ty
  n : ts.length ≤ 16
def redG (fold : Int) (ty : GType) (ts : List GTensor) (n : Nat) : GVal × Int := (m_value_Reduce fold ty (col ts n)).getD (⟨0, 0⟩, 0)
theorem Gr.lt {ts : List GTensor} {ty : GType} {dn : List Nat} (h : Gr ts ty dn) {n : Nat} (hn : n < prd dn) : ∀ t ∈ ts, n < t.Vals.length := fun t ht => by rw [(h.ten t ht).1.len]; exact hn
theorem Gr.red {ts : List GTensor} {ty : GType} {dn : List Nat} (h : Gr ts ty dn) {fold : Int} (hf : 1 ≤ fold ∧ fold ≤ 4) {n : Nat} (hn : n < prd dn) :
    m_value_Reduce fold ty (col ts n) = some (redG fold ty ts n) ∧ m_ref04_Reduce fold ty (col ts n) = some (redG fold ty ts n) ∧ ((redG fold ty ts n).2 = 0 → okV ty (redG fold ty ts n).1 = true) ∧ (fold = 4 → (redG fold ty ts n).2 = 0) := by
  have hl := col_len (h.lt hn)
  obtain ⟨t0, r, rfl⟩ := h.ne
  have hm : ∀ y ∈ col (t0 :: r) n, okV ty y = true := fun y hy => by
    obtain ⟨t, ht, hv⟩ := col_mem hy
    have := h.ten t ht
    rw [← this.2]; exact this.1.ok y hv
  have hty : tyB ty = true := by have := h.ten t0 (by simp); rw [← this.2]; exact this.1.ty
  have hn16 := h.n
  unfold redG
  generalize hc : col (t0 :: r) n = c at hl hm ⊢
  rcases c with _ | ⟨x, xs⟩
  · simp at hl
  obtain ⟨q, e, h1, h2, h3, h4⟩ := Reduce_R hf hty hm (by omega)
  rw [h1, h2]
  exact ⟨rfl, rfl, h3, h4⟩
/-- What a group gives. -/
def cmbT (fold : Int) (ty : GType) (dn : List Nat) (ts : List GTensor) : GTensor × Int :=
  if runG (redG fold ty ts) (prd dn) = 0 then (⟨ty, ci dn, ranG (redG fold ty ts) (prd dn)⟩, 0) else (z0, runG (redG fold ty ts) (prd dn))
theorem Gr.cmb {ts : List GTensor} {ty : GType} {dn : List Nat} (h : Gr ts ty dn) {fold : Int} (hf : 1 ≤ fold ∧ fold ≤ 4) (h0 : (cmbT fold ty dn ts).2 = 0) : Ten (cmbT fold ty dn ts).1 dn ∧ (cmbT fold ty dn ts).1.Type_ = ty := by
  unfold cmbT at h0 ⊢
  split at h0
  · rename_i hr
    rw [if_pos hr]
    obtain ⟨t0, r, rfl⟩ := h.ne
    have ht0 := h.ten t0 (by simp)
    refine ⟨⟨by simp only; rw [← ht0.2]; exact ht0.1.ty, ⟨rfl, ht0.1.shp.pos, ht0.1.shp.le, ht0.1.shp.len⟩, ranG_len _ _, fun v hv => ?_⟩, rfl⟩
    obtain ⟨k, hk, rfl⟩ := ranG_mem hv
    exact (h.red hf hk).2.2.1 (runG_zero hr k hk)
  · rename_i hr; exact absurd h0 hr
theorem Gr.max {ts : List GTensor} {ty : GType} {dn : List Nat} (h : Gr ts ty dn) : (cmbT 4 ty dn ts).2 = 0 := by
  unfold cmbT
  rw [if_pos (runG_all fun n hn => (h.red (fold := 4) (by omega) hn).2.2.2 rfl)]
theorem combine_ok {ts : List GTensor} {ty : GType} {dn : List Nat} (h : Gr ts ty dn) {fold : Int} (hf : 1 ≤ fold ∧ fold ≤ 4) : m_collective_combine fold ts = some (cmbT fold ty dn ts) := by
  obtain ⟨t0, r, he⟩ := h.ne
  have ht0 := h.ten t0 (by rw [he]; simp)
  have hle := ht0.1.shp.le
  have hle6 := ht0.1.shp.len
  have a0 : lat ts 0 = some t0 := by rw [he]; rfl
  unfold m_collective_combine
  rw [a0]
  simp only [Option.bind_some]
  rw [ht0.1.shp.eq, lapp_nil (by rw [ci_len]; omega), Option.bind_some, ht0.2]
  unfold cmbT
  have key := red_loop (V := prd dn) (redG fold ty ts) (by omega) (fun f vs i => m_collective_combine_l1 t0 ts fold f i ⟨ty, ci dn, vs⟩) (fun e => some (z0, e)) (fun vs => some (⟨ty, ci dn, vs⟩, 0)) (fun f i vs hi hvs => by
    simp only [m_collective_combine_l1]
    rw [ht0.1.len, if_pos (lt_dec hi)]
    rw [col_loop (h.lt hi) h.n (m_collective_combine_l2 ts (i : Int) fold ⟨ty, ci dn, vs⟩ (m_collective_combine_l1 t0 ts fold f)) (m_collective_combine_j2 fold ⟨ty, ci dn, vs⟩ (m_collective_combine_l1 t0 ts fold f) (i : Int)) (fun f s k t v ht hv => by
      have hlt := (List.getElem?_eq_some_iff.1 ht).1
      simp only [m_collective_combine_l2]
      rw [if_pos (lt_dec hlt), lat_at ht, Option.bind_some, lat_at hv, Option.bind_some]) (fun f s => by simp only [m_collective_combine_l2]; rw [if_neg (by simp)])]
    simp only [m_collective_combine_j2]
    rw [(h.red hf hi).1, Option.bind_some]
    by_cases hr : (redG fold ty ts i).2 = 0
    · rw [if_neg (by simp [hr]), if_pos hr, lapp_ok (by simp; omega), Option.bind_some, m_collective_combine_j1, wis (by omega)]
    · rw [if_pos (by simp [hr]), if_neg hr]; rfl) (fun f vs _ => by
    simp only [m_collective_combine_l1]
    rw [ht0.1.len, if_neg (by simp)])
  refine key.trans ?_
  split <;> rfl
theorem ref_group {l : List GTensor} {g : List Nat} {ty : GType} {dn : List Nat} (hg : ∀ d ∈ g, d < l.length) (h : Gr (sel l g) ty dn) {t0 : GTensor} (a0 : lat l 0 = some t0) (ht0 : Ten t0 dn) {fold : Int} (hf : 1 ≤ fold ∧ fold ≤ 4) (out : List GTensor) (self : List GTensor → Int → Option (List GTensor × Int)) (j : Int) :
    m_ref53_AllReduce_l2 l (ci g) fold out self j fu 0 ⟨ty, ci dn, []⟩ = if (cmbT fold ty dn (sel l g)).2 = 0 then m_ref53_AllReduce_j2 out self j (cmbT fold ty dn (sel l g)).1 else some ([], (cmbT fold ty dn (sel l g)).2) := by
  have hle := ht0.shp.le
  have hgl := sel_len hg
  have key := red_loop (V := prd dn) (redG fold ty (sel l g)) (by omega) (fun f vs i => m_ref53_AllReduce_l2 l (ci g) fold out self j f i ⟨ty, ci dn, vs⟩) (fun e => some ([], e)) (fun vs => m_ref53_AllReduce_j2 out self j ⟨ty, ci dn, vs⟩) (fun f i vs hi hvs => by
    simp only [m_ref53_AllReduce_l2]
    rw [a0, Option.bind_some, ht0.len, if_pos (lt_dec hi)]
    rw [col_loop (h.lt hi) h.n (m_ref53_AllReduce_l3 (ci g) l (i : Int) fold ⟨ty, ci dn, vs⟩ (m_ref53_AllReduce_l2 l (ci g) fold out self j f)) (m_ref53_AllReduce_j4 fold ⟨ty, ci dn, vs⟩ (m_ref53_AllReduce_l2 l (ci g) fold out self j f) (i : Int)) (fun f s k t v ht hv => by
      obtain ⟨d, hd, hdt⟩ := sel_inv hg ht
      have hlt := (List.getElem?_eq_some_iff.1 hd).1
      simp only [m_ref53_AllReduce_l3]
      rw [ci_len, if_pos (lt_dec hlt), ci_at hd, Option.bind_some, lat_at hdt, Option.bind_some, lat_at hv, Option.bind_some]) (fun f s => by simp only [m_ref53_AllReduce_l3]; rw [hgl, ci_len, if_neg (by simp)])]
    simp only [m_ref53_AllReduce_j4]
    rw [(h.red hf hi).2.1, Option.bind_some]
    by_cases hr : (redG fold ty (sel l g) i).2 = 0
    · rw [if_neg (by simp [hr]), if_pos hr, lapp_ok (by simp; omega), Option.bind_some, m_ref53_AllReduce_j3, wis (by omega)]
    · rw [if_pos (by simp [hr]), if_neg hr]) (fun f vs _ => by
    simp only [m_ref53_AllReduce_l2]
    rw [a0, Option.bind_some, ht0.len, if_neg (by simp)])
  refine key.trans ?_
  unfold cmbT
  by_cases hr : runG (redG fold ty (sel l g)) (prd dn) = 0
  · simp only [hr, if_true]
  · simp only [hr, if_false]

/-! ### AllReduce -/
def arG (O x I : Nat) (fold : Int) (ty : GType) (dn : List Nat) (l : List GTensor) (j : Nat) : GTensor × Int := cmbT fold ty dn (sel l (grp O x I j))
def arS (O x I : Nat) (fold : Int) (ty : GType) (dn : List Nat) (l : List GTensor) : List GTensor × Int :=
  if runG (arG O x I fold ty dn l) l.length = 0 then (ranG (arG O x I fold ty dn l) l.length, 0) else ([], runG (arG O x I fold ty dn l) l.length)
theorem Ok.gr {m : GMesh} {l : List GTensor} {md dn : List Nat} {ty : GType} (h : Ok m l md ty dn) {i x j : Nat} (hx : md[i]? = some x) (hj : j < l.length) : Gr (sel l (Go.Proofs.YtpedfojbfbccaaaGreat.grp (prd (md.take i)) x (prd (md.drop (i + 1))) j)) ty dn := by
  obtain ⟨h1, h2, h3, h4⟩ := h.grp hx hj
  have hl := sel_len h1
  rw [grp_len] at hl
  refine ⟨?_, fun t ht => h.ten t (sel_mem ht), by omega⟩
  generalize sel l _ = s at hl
  rcases s with _ | ⟨t0, r⟩
  · simp at hl; omega
  · exact ⟨t0, r, rfl⟩
theorem AllReduce_ok {m : GMesh} {l : List GTensor} {md dn : List Nat} {ty : GType} (h : Ok m l md ty dn) {i x : Nat} (hx : md[i]? = some x) {fold : Int} (hf : 1 ≤ fold ∧ fold ≤ 4) :
    m_collective_operation_apply ⟨fun y_1 y_2 => m_collective_AllReduce_1 y_1 y_2 fold⟩ m l (i : Int) = some (arS (prd (md.take i)) x (prd (md.drop (i + 1))) fold ty dn l) ∧
    m_ref53_AllReduce_l1 l m (i : Int) fold fu [] 0 = some (arS (prd (md.take i)) x (prd (md.drop (i + 1))) fold ty dn l) := by
  have hlen := h.len
  have hle := h.m.le
  obtain ⟨t0, r, hl0⟩ := h.ne
  have ht0 := h.ten t0 (by rw [hl0]; simp)
  have a0 : lat l 0 = some t0 := by rw [hl0]; rfl
  unfold arS
  constructor
  · unfold m_collective_operation_apply
    have key := red_loop (V := l.length) (arG (prd (md.take i)) x (prd (md.drop (i + 1))) fold ty dn l) (by omega) (m_collective_operation_apply_l1 l m (i : Int) ⟨fun y_1 y_2 => m_collective_AllReduce_1 y_1 y_2 fold⟩) (fun e => some ([], e)) (fun vs => some (vs, 0)) (fun f j s hj hs => by
      have hg := h.grp hx hj
      simp only [m_collective_operation_apply_l1]
      rw [if_pos (lt_dec hj), mesh_Group h.m (by rw [← hlen]; exact hj) hx, Option.bind_some]
      rw [group_loop hg.1 hg.2.1 (m_collective_operation_apply_l2 (ci (grp (prd (md.take i)) x (prd (md.drop (i + 1))) j)) l ⟨fun y_1 y_2 => m_collective_AllReduce_1 y_1 y_2 fold⟩ (j : Int) s (m_collective_operation_apply_l1 l m (i : Int) ⟨fun y_1 y_2 => m_collective_AllReduce_1 y_1 y_2 fold⟩ f)) (m_collective_operation_apply_j2 ⟨fun y_1 y_2 => m_collective_AllReduce_1 y_1 y_2 fold⟩ (j : Int) s (m_collective_operation_apply_l1 l m (i : Int) ⟨fun y_1 y_2 => m_collective_AllReduce_1 y_1 y_2 fold⟩ f)) (fun f s q d y hq hy => by
        have hlt := (List.getElem?_eq_some_iff.1 hq).1
        simp only [m_collective_operation_apply_l2]
        rw [ci_len, if_pos (lt_dec hlt), ci_at hq, Option.bind_some, lat_at hy, Option.bind_some]) (fun f s => by simp only [m_collective_operation_apply_l2]; rw [ci_len, if_neg (by simp)])]
      simp only [m_collective_operation_apply_j2, m_collective_AllReduce_1]
      rw [combine_ok (h.gr hx hj) hf, Option.bind_some, Option.bind_some]
      unfold arG
      by_cases hr : (cmbT fold ty dn (sel l (grp (prd (md.take i)) x (prd (md.drop (i + 1))) j))).2 = 0
      · rw [if_neg (by simp [hr]), if_pos hr, lapp_ok (by simp; omega), Option.bind_some, m_collective_operation_apply_j1, wis (by omega)]
      · rw [if_pos (by simp [hr]), if_neg hr]) (fun f s hs => by
      simp only [m_collective_operation_apply_l1]; rw [if_neg (by simp)])
    refine key.trans ?_
    split <;> rfl
  · have key := red_loop (V := l.length) (arG (prd (md.take i)) x (prd (md.drop (i + 1))) fold ty dn l) (by omega) (m_ref53_AllReduce_l1 l m (i : Int) fold) (fun e => some ([], e)) (fun vs => some (vs, 0)) (fun f j s hj hs => by
      have hg := h.grp hx hj
      simp only [m_ref53_AllReduce_l1]
      rw [if_pos (lt_dec hj), ref51_Group h.m (by rw [← hlen]; exact hj) hx, Option.bind_some, a0, Option.bind_some, Option.bind_some, ht0.2, ht0.1.shp.eq]
      rw [ref_group hg.1 (h.gr hx hj) a0 ht0.1 hf]
      unfold arG
      by_cases hr : (cmbT fold ty dn (sel l (grp (prd (md.take i)) x (prd (md.drop (i + 1))) j))).2 = 0
      · rw [if_pos hr, if_pos hr, m_ref53_AllReduce_j2, lapp_ok (by simp; omega), Option.bind_some, m_ref53_AllReduce_j1, wis (by omega)]
      · rw [if_neg hr, if_neg hr]) (fun f s hs => by
      simp only [m_ref53_AllReduce_l1]; rw [if_neg (by simp)])
    refine key.trans ?_
    split <;> rfl
theorem Ten.TeL {l : List GTensor} {dn : List Nat} {ty : GType} (hy : TyR ty) (h : ∀ t ∈ l, Ten t dn ∧ t.Type_ = ty) : Go.Proofs.YtpedfojbfbccaaaGreat.TeL l := by
  refine ⟨fun t ht => ?_, fun t ht => ?_, fun t ht => ?_⟩
  · obtain ⟨h1, h2⟩ := h t ht
    exact ⟨by rw [h2]; exact hy, fun v hv => frVaR (frOK_of h1.ty (h1.ok v hv))⟩
  · have := (h t ht).1.shp.len; rw [(h t ht).1.shp.eq, ci_len]; omega
  · have := (h t ht).1.shp.le; rw [(h t ht).1.len]; omega
theorem Ok.ty {m : GMesh} {l : List GTensor} {md dn : List Nat} {ty : GType} (h : Ok m l md ty dn) (hl : Go.Proofs.YtpedfojbfbccaaaGreat.TeL l) : TyR ty := by
  obtain ⟨t0, r, hl0⟩ := h.ne
  have ht0 := h.ten t0 (by rw [hl0]; simp)
  rw [← ht0.2]; exact (hl.r t0 (by rw [hl0]; simp)).ty
end Go.Proofs.YtpedfojbfbccaaaGreat
