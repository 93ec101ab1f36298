/- The rules of a small program logic over the model's code: each rule takes one operation or one form of code; environments are lists of slots with their values. Conditions: none; the rules hold over every program. -/
import Derived.OrdersHeld
import Derived.Tactics
import Derived.WalkKit
import Derived.WalkLawsBesides
import Derived.WalkSpells
namespace Go.Vc
open Go Go.RowKit

/-! ### Environments -/
abbrev Env := List (Nat × Value)

def look : Env → Nat → Option Value
  | [], _ => none
  | (k, v) :: r, t => match Nat.beq k t with | true => some v | false => look r t

structure Has (n : Nat) (a : Act) (env : Env) : Prop where
  df : a.defers = []
  sz : a.tmps.size = n
  rd : ∀ t v, look env t = some v → t < n → a.tmps.getD t undef = v

def Ev (n : Nat) (env : Env) (x : Operand) (v : Value) : Prop := ∀ a, Has n a env → a.eval x = v

theorem ev_tmp {n : Nat} {env : Env} {t : Nat} {v : Value} (h : look env t = some v) (ht : Nat.blt t n = true) : Ev n env (.tmp t) v :=
  fun _ ha => ha.rd t v h (by simpa [Nat.blt_eq] using ht)
theorem ev_const {n : Nat} {env : Env} {v : Value} : Ev n env (.const v) v := fun _ _ => rfl
theorem ev_func {n : Nat} {env : Env} {f : FuncId} : Ev n env (.func f) (.func (.func f) #[] #[]) := fun _ _ => rfl
theorem ev_global {n : Nat} {env : Env} {g : Nat} : Ev n env (.global g) (.pointer (some ⟨g, 0, none⟩)) := fun _ _ => rfl

/-- The value of a slot whose operation has a guard: 'c' says whether the operation was run. -/
def gv (c : Bool) (v : Value) : Value := match c with | true => v | false => undef
theorem gv_pos {c : Bool} {v : Value} (h : c = true) : gv c v = v := by subst h; rfl
theorem gv_neg {c : Bool} {v : Value} (h : c = false) : gv c v = undef := by subst h; rfl
theorem ev_gv {n : Nat} {env : Env} {x : Operand} {c : Bool} {v : Value} (h : Ev n env x (gv c v)) (hc : c = true) : Ev n env x v :=
  fun a ha => (h a ha).trans (gv_pos hc)
theorem ev_eq {n : Nat} {env : Env} {x : Operand} {u v : Value} (h : Ev n env x u) (hv : u = v) : Ev n env x v := hv ▸ h

theorem Has.put {n : Nat} {a : Act} {env : Env} (h : Has n a env) (d : Nat) (v : Value) : Has n (a.put (some d) v) ((d, v) :: env) := by
  refine ⟨h.df, by simp [Act.put, h.sz], fun t u hl ht => ?_⟩
  simp only [look] at hl
  simp only [Act.put]
  by_cases e : d = t
  · subst e
    simp at hl
    subst hl
    simp [Array.getD_eq_getD_getElem?, h.sz, ht]
  · have hb : Nat.beq d t = false := by
      rw [Bool.eq_false_iff]; intro hc; exact e (Nat.eq_of_beq_eq_true hc)
    rw [hb] at hl
    simp only at hl
    have := h.rd t u hl ht
    simp only [Array.getD_eq_getD_getElem?] at this ⊢
    rw [Array.getElem?_setIfInBounds_ne e]
    exact this

/-- 'Sub env' env': all that the first environment says, the second says. -/
def Sub : Env → Env → Prop
  | [], _ => True
  | (t, v) :: r, env => look env t = some v ∧ Sub r env

theorem Sub.spec {e env : Env} (h : Sub e env) : ∀ t v, look e t = some v → look env t = some v := by
  induction e with
  | nil => intro t v h; cases h
  | cons p r ih =>
    obtain ⟨k, u⟩ := p
    obtain ⟨h1, h2⟩ := h
    intro t v hl
    simp only [look] at hl
    cases hb : Nat.beq k t with
    | true =>
      rw [hb] at hl
      injection hl with hl
      subst hl
      rw [← Nat.eq_of_beq_eq_true hb]
      exact h1
    | false =>
      rw [hb] at hl
      exact ih h2 t v hl

theorem Has.sub {n : Nat} {a : Act} {e env : Env} (h : Has n a env) (hs : Sub e env) : Has n a e :=
  ⟨h.df, h.sz, fun t v hl ht => h.rd t v (hs.spec t v hl) ht⟩

/-! ### Code -/
def mkQ (Kn : Act → World → Prop) (Ke : Nat → Act → World → Prop) (Kr : Act → World → Prop) : Exit → Act → World → Prop
  | .normal, a, w => Kn a w
  | .exit id, a, w => Ke id a w
  | .ret, a, w => Kr a w
  | _, _, _ => False

def CodeW (P : Program) (n : Nat) (c : Code) (Kn : Act → World → Prop) (Ke : Nat → Act → World → Prop) (Kr : Act → World → Prop) (env : Env) (w : World) : Prop :=
  ∀ a, Has n a env → Code.wp P c (mkQ Kn Ke Kr) a w

section
variable {P : Program} {n : Nat} {Kn : Act → World → Prop} {Ke : Nat → Act → World → Prop} {Kr : Act → World → Prop} {env : Env} {w : World}

theorem mkQ_then (K : Act → World → Prop) : Exit.then K (mkQ Kn Ke Kr) = mkQ K Ke Kr := by
  funext e a w; cases e <;> rfl

theorem c_seq {x y : Code} (h : CodeW P n x (fun a w => Code.wp P y (mkQ Kn Ke Kr) a w) Ke Kr env w) : CodeW P n (.seq x y) Kn Ke Kr env w :=
  fun a ha => wp_seq (by rw [mkQ_then]; exact h a ha)

theorem c_skip (h : ∀ a, Has n a env → Kn a w) : CodeW P n .skip Kn Ke Kr env w := fun a ha => wp_skip (h a ha)
theorem c_ret (h : ∀ a, Has n a env → Kr a w) : CodeW P n .ret Kn Ke Kr env w := fun a ha => wp_ret (h a ha)
theorem c_exit {id : Nat} (h : ∀ a, Has n a env → Ke id a w) : CodeW P n (.exit id) Kn Ke Kr env w := fun a ha => wp_exit (h a ha)
theorem c_label {l : Nat} (h : ∀ a, Has n a env → Kn a w) : CodeW P n (.label l) Kn Ke Kr env w := fun a ha => wp_label (h a ha)

def inB (id : Nat) (Kn : Act → World → Prop) (Ke : Nat → Act → World → Prop) (k : Nat) (a : Act) (w : World) : Prop :=
  match Nat.beq k id with
  | true => Kn a w
  | false => Ke k a w

theorem c_block {id : Nat} {c : Code} (h : CodeW P n c Kn (inB id Kn Ke) Kr env w) : CodeW P n (.block id c) Kn Ke Kr env w :=
  fun a ha => wp_block (by
    refine wp_mono (h a ha) fun e a w q => ?_
    cases e with
    | exit k =>
      simp only [Exit.inBlock]
      simp only [mkQ, inB] at q
      cases hb : Nat.beq k id with
      | true => rw [hb] at q; rw [if_pos (Nat.eq_of_beq_eq_true hb)]; exact q
      | false => rw [hb] at q; rw [if_neg (fun e => by subst e; simp at hb)]; exact q
    | _ => exact q)

theorem c_cond {c : Operand} {x y : Code} {b : Bool} (hc : Ev n env c (.bool b)) (ht : b = true → CodeW P n x Kn Ke Kr env w) (hf : b = false → CodeW P n y Kn Ke Kr env w) :
    CodeW P n (.cond c x y) Kn Ke Kr env w :=
  fun a ha => wp_cond_split (hc a ha) (fun h => ht h a ha) (fun h => hf h a ha)

theorem c_sub {c : Code} {e : Env} (hs : Sub e env) (h : CodeW P n c Kn Ke Kr e w) : CodeW P n c Kn Ke Kr env w :=
  fun a ha => h a (ha.sub hs)

theorem least_exists (Q : Nat → Prop) (h : ∃ m, Q m) : ∃ m, Q m ∧ ∀ k, Q k → m ≤ k := by
  obtain ⟨m, hm⟩ := h
  induction m using Nat.strongRecOn with
  | _ m ih =>
    by_cases hc : ∃ k, k < m ∧ Q k
    · obtain ⟨k, hk, hq⟩ := hc
      exact ih k hk hq
    · exact ⟨m, hm, fun k hk => Nat.le_of_not_lt fun hlt => hc ⟨k, hlt, hk⟩⟩

open Classical in
/-- The least number with a property (0 if there is none). -/
noncomputable def least (Q : Nat → Prop) : Nat := if h : ∃ m, Q m ∧ ∀ k, Q k → m ≤ k then Classical.choose h else 0
theorem least_spec (Q : Nat → Prop) (h : ∃ m, Q m) : Q (least Q) ∧ ∀ k, Q k → least Q ≤ k := by
  have h' := least_exists Q h
  unfold least
  rw [dif_pos h']
  exact Classical.choose_spec h'

/-- What is asked behind a round of a loop; behind the first of two codes at whose meeting ways meet again. -/
def LoopK {α : Type} (n : Nat) (E : α → Env) (I : α → World → Prop) (μ : α → World → Nat) (m : Nat) (a : Act) (w : World) : Prop := ∃ x, Has n a (E x) ∧ I x w ∧ μ x w < m
def JoinK {α : Type} (n : Nat) (E : α → Env) (J : α → World → Prop) (a : Act) (w : World) : Prop := ∃ x, Has n a (E x) ∧ J x w

/-- A loop: the states at its head are 'x : α', with an environment each. -/
theorem c_loop {c : Code} {α : Type} (I : α → World → Prop) (μ : α → World → Nat) (E : α → Env) (x0 : α) (h0 : I x0 w) (hE : Sub (E x0) env)
    (round : ∀ x w, I x w → CodeW P n c (LoopK n E I μ (μ x w)) Ke Kr (E x) w) : CodeW P n (.loop c) Kn Ke Kr env w := by
  intro a ha
  refine wp_loop (fun a w => ∃ x, Has n a (E x) ∧ I x w) (fun a w => least fun m => ∃ x, Has n a (E x) ∧ I x w ∧ μ x w = m) ⟨x0, ha.sub hE, h0⟩ ?_
  rintro a w ⟨y, hy, hIy⟩
  obtain ⟨⟨x, hx, hIx, hm⟩, _⟩ := least_spec (fun m => ∃ x, Has n a (E x) ∧ I x w ∧ μ x w = m) ⟨_, y, hy, hIy, rfl⟩
  refine wp_mono (round x w hIx a hx) fun e a' w' q => ?_
  cases e with
  | normal =>
    obtain ⟨x', hx', hI', hlt⟩ := q
    refine ⟨⟨x', hx', hI'⟩, ?_⟩
    refine Nat.lt_of_le_of_lt ((least_spec (fun m => ∃ x, Has n a' (E x) ∧ I x w' ∧ μ x w' = m) ⟨_, x', hx', hI', rfl⟩).2 _ ⟨x', hx', hI', rfl⟩) ?_
    rw [← hm]
    exact hlt
  | exit id => exact q
  | ret => exact q
  | goto l => exact q.elim
  | panic ch => exact q.elim
  | outgrown => exact q.elim

/-! ### A region in the text's order -/
def SeqW (P : Program) (n : Nat) (ops : Array Oper) (Kn : Act → World → Prop) (Ke : Nat → Act → World → Prop) (Kr : Act → World → Prop) (l : List Oper) (env : Env) (w : World) : Prop :=
  ∀ a, Has n a env → wpList P ops (mkQ Kn Ke Kr) l a w

/-- What an operation does in every state that fits. -/
def Runs (P : Program) (n : Nat) (env : Env) (o : Oper) (w : World) (r : Result Next) : Prop := ∀ a, Has n a env → (execOp a.eval o).run P w = r
/-- It yields a value and leaves the world as it is. -/
def Yld (P : Program) (n : Nat) (env : Env) (o : Oper) (v : Value) (w : World) : Prop := Runs P n env o w (.ok (.value v) w)
/-- Whether the operation is run at all. -/
def Grd (n : Nat) (env : Env) (ops : Array Oper) (o : Oper) (c : Bool) : Prop := ∀ a, Has n a env → Region.wanted o (yielded ops a.tmps) = c

theorem c_region {id : Nat} {l : List Oper} (h : SeqW P n l.toArray Kn Ke Kr l env w) : CodeW P n (.region id l.toArray false) Kn Ke Kr env w :=
  fun a ha => wp_region_lit (h a ha)

section
variable {ops : Array Oper} {rest : List Oper} {o : Oper} {d : Nat} {v : Value} {w' : World}
theorem s_nil (h : ∀ a, Has n a env → Kn a w) : SeqW P n ops Kn Ke Kr [] env w := fun a ha => wpList_nil (h a ha)
theorem s_val (hg : o.guard = none) (hd : o.dst = some d) (hr : Runs P n env o w (.ok (.value v) w')) (h : SeqW P n ops Kn Ke Kr rest ((d, v) :: env) w') :
    SeqW P n ops Kn Ke Kr (o :: rest) env w := fun a ha => wpList_plain hg fun K hK => by
  unfold Oper.wp
  rw [hr a ha, Oper.upon_value, hd]
  exact hK _ _ (h _ (ha.put d v))
theorem s_skip (hg : o.guard = none) (hd : o.dst = none) (hr : Runs P n env o w (.ok .skip w')) (h : SeqW P n ops Kn Ke Kr rest env w') :
    SeqW P n ops Kn Ke Kr (o :: rest) env w := fun a ha => wpList_plain hg fun K hK => by
  unfold Oper.wp
  rw [hr a ha, Oper.upon_skip, hd]
  exact hK _ _ (h _ ha)
theorem s_q (hg : o.guard = none) (hd : o.dst = some d) (hr : Yld P n env o v w) (h : SeqW P n ops Kn Ke Kr rest ((d, v) :: env) w) :
    SeqW P n ops Kn Ke Kr (o :: rest) env w := s_val hg hd hr h
theorem s_call {f : FuncId} {args : Array Value} (hg : o.guard = none) (hd : o.dst = some d) (hr : Runs P n env o w (.ok (.enter f args) w))
    (h : Calls P f args w fun e w' => ∃ v, e = .returned v ∧ SeqW P n ops Kn Ke Kr rest ((d, v) :: env) w') :
    SeqW P n ops Kn Ke Kr (o :: rest) env w := fun a ha => wpList_plain hg fun K hK => by
  unfold Oper.wp
  rw [hr a ha, Oper.upon_enter]
  refine h.mono fun e w' he => ?_
  obtain ⟨v, rfl, h⟩ := he
  rw [hd]
  exact hK _ _ (h _ (ha.put d v))

theorem s_gval {c : Bool} (hg : Grd n env ops o c) (hd : o.dst = some d) (hr : c = true → Yld P n env o v w) (h : SeqW P n ops Kn Ke Kr rest ((d, gv c v) :: env) w) :
    SeqW P n ops Kn Ke Kr (o :: rest) env w := fun a ha => wpList_step fun K hK => by
  rw [hg a ha]
  cases c with
  | true =>
    rw [if_pos rfl]
    unfold Oper.wp
    rw [hr rfl a ha, Oper.upon_value, hd]
    exact hK _ _ (h _ (ha.put d v))
  | false =>
    rw [if_neg (by simp), hd]
    exact hK _ _ (h _ (ha.put d undef))
/-- A guarded call: what it leaves is said by 'Ψ'. -/
theorem s_gcall {f : FuncId} {args : Array Value} {c : Bool} (Ψ : Value → World → Prop) (hg : Grd n env ops o c) (hd : o.dst = some d) (hr : c = true → Runs P n env o w (.ok (.enter f args) w))
    (hc : c = true → Calls P f args w fun e w' => ∃ v, e = .returned v ∧ Ψ v w')
    (h : ∀ v w', (c = true → Ψ v w') → (c = false → w' = w) → SeqW P n ops Kn Ke Kr rest ((d, gv c v) :: env) w') :
    SeqW P n ops Kn Ke Kr (o :: rest) env w := fun a ha => wpList_step fun K hK => by
  rw [hg a ha]
  cases c with
  | true =>
    rw [if_pos rfl]
    unfold Oper.wp
    rw [hr rfl a ha, Oper.upon_enter]
    refine (hc rfl).mono fun e w' he => ?_
    obtain ⟨v, rfl, hv⟩ := he
    rw [hd]
    exact hK _ _ (h v w' (fun _ => hv) (fun e => by cases e) _ (ha.put d v))
  | false =>
    rw [if_neg (by simp), hd]
    exact hK _ _ (h undef w (fun e => by cases e) (fun _ => rfl) _ (ha.put d undef))
end

/-! ### A region that draws its order: one order, in which what only reads comes as soon as it may -/
def canonOK (ops : Array Oper) : List (Nat × Bool) → Array Bool → Bool
  | [], listed => (Region.ready .any ops listed).isEmpty
  | (i, q) :: r, listed =>
    (match q with
      | true => (Region.ready .any ops listed).contains i && Region.free .any ops listed i
      | false => (Region.ready .any ops listed) == [i]) && canonOK ops r (listed.setIfInBounds i true)

def AnyW (P : Program) (n : Nat) (ops : Array Oper) (Kn : Act → World → Prop) (Ke : Nat → Act → World → Prop) (Kr : Act → World → Prop) (S : World → Prop) (l : List (Nat × Bool)) (env : Env) (w : World) : Prop :=
  ∀ a listed, Region.noSelect ops = true → canonOK ops l listed = true → Has n a env → S w → wpAnyH P .any ops (mkQ Kn Ke Kr) S l.length listed a w

theorem c_draw {id : Nat} {ops : Array Oper} (S : World → Prop) (order : List (Nat × Bool)) (hm : P.follows .mixedOrders = true) (hs : (Region.noSelect ops && canonOK ops order (Array.replicate ops.size false) && (order.length == ops.size)) = true)
    (hS : S w.drew) (h : AnyW P n ops Kn Ke Kr S order env w.drew) : CodeW P n (.region id ops true) Kn Ke Kr env w := fun a ha => by
  simp only [Bool.and_eq_true, beq_iff_eq] at hs
  obtain ⟨⟨h1, h2⟩, h3⟩ := hs
  refine wp_region_held (S := S) hm ?_
  have h4 := h a _ h1 h2 ha hS
  rw [h3] at h4
  exact h4

section
variable {ops : Array Oper} {S : World → Prop} {rest : List (Nat × Bool)} {o : Oper} {i d : Nat} {v : Value} {w' : World}

theorem wpAnyH_mono {md : Region.Mode} {Q : Exit → Act → World → Prop} {S' : World → Prop} (hS : ∀ w, S' w → S w) : ∀ (fuel : Nat) (listed : Array Bool) (a : Act) (w : World),
    wpAnyH P md ops Q S' fuel listed a w → wpAnyH P md ops Q S fuel listed a w
  | 0, _, _, _, h => h
  | fuel + 1, _, _, _, h => ⟨h.1, fun i hi => wpOp_mono (fun a' w' h' => ⟨hS _ h'.1, wpAnyH_mono hS fuel _ a' w' h'.2⟩) (h.2 i hi)⟩

theorem a_mono (S' : World → Prop) (hS : ∀ w, S' w → S w) (hw : S' w) (h : AnyW P n ops Kn Ke Kr S' rest env w) : AnyW P n ops Kn Ke Kr S rest env w :=
  fun a listed h1 h2 ha _ => wpAnyH_mono hS _ _ _ _ (h a listed h1 h2 ha hw)

theorem a_nil (h : ∀ a, Has n a env → Kn a w) : AnyW P n ops Kn Ke Kr S [] env w := fun a listed _ h2 ha _ =>
  wpAnyH_done (by simpa [canonOK, List.isEmpty_iff] using h2) (h a ha) _

theorem a_gval {c : Bool} (hi : ops[i]? = some o) (hg : Grd n env ops o c) (hd : o.dst = some d) (hr : c = true → ∀ w', S w' → Yld P n env o v w')
    (h : AnyW P n ops Kn Ke Kr S rest ((d, gv c v) :: env) w) : AnyW P n ops Kn Ke Kr S ((i, true) :: rest) env w := fun a listed h1 h2 ha hS => by
  simp only [canonOK, Bool.and_eq_true] at h2
  obtain ⟨⟨h3, h4⟩, h5⟩ := h2
  refine wpAnyH_take (v := gv c v) hi h1 h4 h3 (fun _ _ _ hq => hq.elim) ?_ hS ?_
  · cases c with
    | true => exact .inl ⟨hg a ha, fun w' hw' => hr rfl w' hw' a ha⟩
    | false => exact .inr ⟨hg a ha, rfl⟩
  · rw [hd]
    exact h _ _ h1 h5 (ha.put d _) hS

theorem grd_none (hg : o.guard = none) : Grd n env ops o true := fun _ _ => by simp [Region.wanted, hg]
theorem a_q (hi : ops[i]? = some o) (hg : o.guard = none) (hd : o.dst = some d) (hr : ∀ w', S w' → Yld P n env o v w')
    (h : AnyW P n ops Kn Ke Kr S rest ((d, v) :: env) w) : AnyW P n ops Kn Ke Kr S ((i, true) :: rest) env w :=
  a_gval (c := true) hi (grd_none hg) hd (fun _ => hr) h

theorem a_one {K : Act → World → Prop} (hi : ops[i]? = some o) {fuel : Nat} {listed : Array Bool} {a : Act} (hr : (Region.ready .any ops listed == [i]) = true) (hw : wpOp P ops (mkQ Kn Ke Kr) i (fun a' w' => S w' ∧ wpAnyH P .any ops (mkQ Kn Ke Kr) S fuel (listed.setIfInBounds i true) a' w') a w) :
    wpAnyH P .any ops (mkQ Kn Ke Kr) S (fuel + 1) listed a w :=
  have _ := K
  have _ := hi
  wpAnyH_all (rs := [i]) (by simpa using hr) (by simp) fun j hj => by simp only [List.mem_singleton] at hj; subst hj; exact hw

theorem a_val (hi : ops[i]? = some o) (hg : o.guard = none) (hd : o.dst = some d) (hr : Runs P n env o w (.ok (.value v) w')) (hS' : S w')
    (h : AnyW P n ops Kn Ke Kr S rest ((d, v) :: env) w') : AnyW P n ops Kn Ke Kr S ((i, false) :: rest) env w := fun a listed h1 h2 ha _ => by
  simp only [canonOK, Bool.and_eq_true] at h2
  refine a_one (K := fun _ _ => True) hi h2.1 (wpOp_step hi fun K hK => ?_)
  rw [if_pos (by simp [Region.wanted, hg])]
  unfold Oper.wp
  rw [hr a ha, Oper.upon_value, hd]
  exact hK _ _ ⟨hS', h _ _ h1 h2.2 (ha.put d v) hS'⟩
theorem a_skip (hi : ops[i]? = some o) (hg : o.guard = none) (hd : o.dst = none) (hr : Runs P n env o w (.ok .skip w')) (hS' : S w')
    (h : AnyW P n ops Kn Ke Kr S rest env w') : AnyW P n ops Kn Ke Kr S ((i, false) :: rest) env w := fun a listed h1 h2 ha _ => by
  simp only [canonOK, Bool.and_eq_true] at h2
  refine a_one (K := fun _ _ => True) hi h2.1 (wpOp_step hi fun K hK => ?_)
  rw [if_pos (by simp [Region.wanted, hg])]
  unfold Oper.wp
  rw [hr a ha, Oper.upon_skip, hd]
  exact hK _ _ ⟨hS', h _ _ h1 h2.2 ha hS'⟩
theorem a_call {f : FuncId} {args : Array Value} (hi : ops[i]? = some o) (hg : o.guard = none) (hd : o.dst = some d) (hr : Runs P n env o w (.ok (.enter f args) w))
    (h : Calls P f args w fun e w' => ∃ v, e = .returned v ∧ S w' ∧ AnyW P n ops Kn Ke Kr S rest ((d, v) :: env) w') : AnyW P n ops Kn Ke Kr S ((i, false) :: rest) env w := fun a listed h1 h2 ha _ => by
  simp only [canonOK, Bool.and_eq_true] at h2
  refine a_one (K := fun _ _ => True) hi h2.1 (wpOp_step hi fun K hK => ?_)
  rw [if_pos (by simp [Region.wanted, hg])]
  unfold Oper.wp
  rw [hr a ha, Oper.upon_enter]
  refine h.mono fun e w' he => ?_
  obtain ⟨v, rfl, hS', h⟩ := he
  rw [hd]
  exact hK _ _ ⟨hS', h _ _ h1 h2.2 (ha.put d v) hS'⟩
theorem a_gcall {f : FuncId} {args : Array Value} {c : Bool} (Ψ : Value → World → Prop) (hi : ops[i]? = some o) (hg : Grd n env ops o c) (hd : o.dst = some d) (hr : c = true → Runs P n env o w (.ok (.enter f args) w))
    (hc : c = true → Calls P f args w fun e w' => ∃ v, e = .returned v ∧ S w' ∧ Ψ v w')
    (h : ∀ v w', S w' → (c = true → Ψ v w') → (c = false → w' = w) → AnyW P n ops Kn Ke Kr S rest ((d, gv c v) :: env) w') : AnyW P n ops Kn Ke Kr S ((i, false) :: rest) env w := fun a listed h1 h2 ha hS => by
  simp only [canonOK, Bool.and_eq_true] at h2
  refine a_one (K := fun _ _ => True) hi h2.1 (wpOp_step hi fun K hK => ?_)
  rw [hg a ha]
  cases c with
  | true =>
    rw [if_pos rfl]
    unfold Oper.wp
    rw [hr rfl a ha, Oper.upon_enter]
    refine (hc rfl).mono fun e w' he => ?_
    obtain ⟨v, rfl, hS', hv⟩ := he
    rw [hd]
    exact hK _ _ ⟨hS', h v w' hS' (fun _ => hv) (fun e => by cases e) _ _ h1 h2.2 (ha.put d v) hS'⟩
  | false =>
    rw [if_neg (by simp), hd]
    exact hK _ _ ⟨hS, h undef w hS (fun e => by cases e) (fun _ => rfl) _ _ h1 h2.2 (ha.put d undef) hS⟩
end

/-! ### Guards -/
section
variable {ops : Array Oper} {o : Oper} {t j : Nat} {b c : Bool}
theorem yielded_of {a : Act} (ha : Has n a env) (hj : (ops[j]?).bind (·.dst) = some t) {v : Value} (hl : look env t = some v) (ht : Nat.blt t n = true) :
    yielded ops a.tmps j = match v with | .bool b => some b | _ => none := by
  have hlt : t < n := by simpa [Nat.blt_eq] using ht
  have h := ha.rd t v hl hlt
  have hs : a.tmps[t]? = some v := by
    have : t < a.tmps.size := by rw [ha.sz]; exact hlt
    rw [Array.getD_eq_getD_getElem?, Array.getElem?_eq_getElem this] at h
    rw [Array.getElem?_eq_getElem this]
    simpa using h
  unfold yielded
  rw [hj]
  simp only [Option.bind_some, hs]
  cases v <;> rfl
theorem g_true (hg : o.guard = some (j, true)) (hj : (ops[j]?).bind (·.dst) = some t) (hl : look env t = some (.bool b)) (ht : Nat.blt t n = true) : Grd n env ops o b := fun a ha => by
  simp only [Region.wanted, hg, yielded_of ha hj hl ht]; cases b <;> rfl
theorem g_false (hg : o.guard = some (j, false)) (hj : (ops[j]?).bind (·.dst) = some t) (hl : look env t = some (.bool b)) (ht : Nat.blt t n = true) : Grd n env ops o (!b) := fun a ha => by
  simp only [Region.wanted, hg, yielded_of ha hj hl ht]; cases b <;> rfl
theorem g_true2 (hg : o.guard = some (j, true)) (hj : (ops[j]?).bind (·.dst) = some t) (hl : look env t = some (gv c (.bool b))) (ht : Nat.blt t n = true) : Grd n env ops o (c && b) := fun a ha => by
  simp only [Region.wanted, hg, yielded_of ha hj hl ht]; cases c <;> cases b <;> rfl
theorem g_false2 (hg : o.guard = some (j, false)) (hj : (ops[j]?).bind (·.dst) = some t) (hl : look env t = some (gv c (.bool b))) (ht : Nat.blt t n = true) : Grd n env ops o (c && !b) := fun a ha => by
  simp only [Region.wanted, hg, yielded_of ha hj hl ht]; cases c <;> cases b <;> rfl
end

/-! ### Single operations that only compute -/
section
variable {o : Oper} {x y z : Operand} {t t' : TypeId} {k k' : IntKind} {p q : Int} {b c : Bool} {v u : Value}
theorem y_move (ho : o.op = .move x) (hx : Ev n env x v) : Yld P n env o v w := fun a ha => by simp [execOp, ho, hx a ha]
theorem y_assign (ho : o.op = .assign x) (hx : Ev n env x v) : Yld P n env o v w := fun a ha => by simp [execOp, ho, hx a ha]
/-- '&&': the second operand has a value where the first is true. -/
theorem y_and (ho : o.op = .pick x y (.const (.bool false))) (hx : Ev n env x (.bool b)) (hy : Ev n env y (gv b (.bool c))) : Yld P n env o (.bool (b && c)) w := fun a ha => by
  simp only [execOp, ho, hx a ha, hy a ha]; cases b <;> simp [asBool, gv, Act.eval]
theorem y_or (ho : o.op = .pick x (.const (.bool true)) y) (hx : Ev n env x (.bool b)) (hy : Ev n env y (gv (!b) (.bool c))) : Yld P n env o (.bool (b || c)) w := fun a ha => by
  simp only [execOp, ho, hx a ha, hy a ha]; cases b <;> simp [asBool, gv, Act.eval]
theorem y_and2 {d : Bool} (ho : o.op = .pick x y (.const (.bool false))) (hd : d = true) (hx : Ev n env x (gv d (.bool b))) (hy : Ev n env y (gv (d && b) (.bool c))) : Yld P n env o (.bool (b && c)) w := by
  subst hd; exact y_and ho hx hy
theorem y_or2 {d : Bool} (ho : o.op = .pick x (.const (.bool true)) y) (hd : d = true) (hx : Ev n env x (gv d (.bool b))) (hy : Ev n env y (gv (d && !b) (.bool c))) : Yld P n env o (.bool (b || c)) w := by
  subst hd; exact y_or ho hx hy
theorem y_not (ho : o.op = .unOp .not t x) (hx : Ev n env x (.bool b)) : Yld P n env o (.bool (!b)) w := fun a ha => by
  simp only [execOp, ho, hx a ha]; simp [go_sem]
theorem y_neg (ho : o.op = .unOp .neg t x) (hx : Ev n env x (.int k p)) : Yld P n env o (.int k (k.wrap (-p))) w := fun a ha => by
  simp only [execOp, ho, hx a ha]; simp [Op.unary, go_sem]

theorem y_bin {op : BinOp} {r : Value} (ho : o.op = .binOp op t x y t') (hx : Ev n env x v) (hy : Ev n env y u) (hr : (binOp op t v u).run P w = .ok r w) (hg : (eqGuard op t x y v u).run P w = .ok () w) : Yld P n env o r w := fun a ha => by
  simp only [execOp, ho, hx a ha, hy a ha]; simp [hr, hg]
end
end
end Go.Vc
