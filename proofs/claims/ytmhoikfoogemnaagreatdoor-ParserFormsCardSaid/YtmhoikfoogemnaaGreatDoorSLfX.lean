import Derived.Test.YtmhoikfoogemnaaGreatDoorSLfV
import Derived.RecoverIn
namespace Go.Vc
open Go Go.RowKit
inductive Pan (α : Type) where
 | ret (x : α)
 | pan (a b : Int)
def pb {α β : Type} (m : Option (Pan α)) (k : α → Option (Pan β)) : Option (Pan β) :=
 match m with
 | none => none
 | some (.pan a b) => some (.pan a b)
 | some (.ret x) => k x
theorem pb_some {α β : Type} {m : Option (Pan α)} {k : α → Option (Pan β)} {r : Pan β} (h : pb m k = some r) : (∃ x, m = some (.ret x) ∧ k x = some r) ∨ ∃ a b, m = some (.pan a b) ∧ r = .pan a b := by
 cases m with
 | none => cases h
 | some q => cases q with
  | ret x => exact .inl ⟨x, rfl, h⟩
  | pan a b => exact .inr ⟨a, b, rfl, (Option.some.inj h).symm⟩
theorem ret_of {α : Type} {x : α} {A : α → Prop} {B : Int → Int → Prop} (h : (∃ y, Pan.ret x = .ret y ∧ A y) ∨ ∃ a b, (Pan.ret x : Pan α) = .pan a b ∧ B a b) : A x := by
 rcases h with ⟨y, h1, h2⟩ | ⟨a, b, h1, _⟩
 ·injection h1 with h1; exact h1 ▸ h2
 ·cases h1
theorem pan_of {α : Type} {a b : Int} {A : α → Prop} {B : Int → Int → Prop} (h : (∃ y, (Pan.pan a b : Pan α) = .ret y ∧ A y) ∨ ∃ c d, (Pan.pan a b : Pan α) = .pan c d ∧ B c d) : B a b := by
 rcases h with ⟨y, h1, _⟩ | ⟨c, d, h1, h2⟩
 ·cases h1
 ·injection h1 with h1 h3; exact h1 ▸ h3 ▸ h2
def gdE {α : Type} (c : Bool) (m : Option α) (z : α) : Option α := if c = true then m else some z
theorem gdE_t {α : Type} {c : Bool} {m : Option α} {z r : α} (hc : c = true) (h : gdE c m z = some r) : m = some r := by unfold gdE at h; rwa [if_pos hc] at h
theorem gdE_f {α : Type} {c : Bool} {m : Option α} {z r : α} (hc : c = false) (h : gdE c m z = some r) : z = r := by unfold gdE at h; rw [if_neg (by simp [hc])] at h; exact Option.some.inj h
def pcatch {α β : Type} (m : Option (Pan α)) (k : α → Option β) (k2 : Int → Int → Option β) : Option β :=
 match m with
 | none => none
 | some (.ret x) => k x
 | some (.pan a b) => if b ≠ 0 then k2 a b else none
theorem pcatch_some {α β : Type} {m : Option (Pan α)} {k : α → Option β} {k2 : Int → Int → Option β} {r : β} (h : pcatch m k k2 = some r) : (∃ x, m = some (.ret x) ∧ k x = some r) ∨ ∃ a b, m = some (.pan a b) ∧ b ≠ 0 ∧ k2 a b = some r := by
 cases m with
 | none => cases h
 | some q => cases q with
  | ret x => exact .inl ⟨x, rfl, h⟩
  | pan a b =>
   have h' : (if b ≠ 0 then k2 a b else none) = some r := h
   by_cases hb : b ≠ 0
   ·rw [if_pos hb] at h'; exact .inr ⟨a, b, rfl, hb, h'⟩
   ·rw [if_neg hb] at h'; cases h'
abbrev pe (t : TypeId) (a b : Int) : PanicEntry := { v := .iface t (.agg #[.int .i64 a, .int .i64 b]), recovered := false }
section
variable {P : Program} {ro : Ro} {n : Fr} {Kn : Act → World → Prop} {Ke : Nat → Act → World → Prop} {Kr : Act → World → Prop} {env : Env} {w : World}
variable {ops : Array Oper} {rest : List Oper} {o : Oper} {i d : Nat} {v : Value} {x : Operand}
theorem ds_nil (hn : n.ds = []) {a : Act} (ha : Has n a env) : a.defers = [] := by rw [ha.df, hn]; rfl
theorem enterP {f : FuncId} {fn : Func} {c : Code} {l : List Value} {m : Nat} {K : Ending → World → Prop} (hf : P.funcs[f]? = some fn) (hb : fn.body = some c) (hn : fn.ntmps = m) (hl : Nat.ble l.length m = true)
  (h : CodeW P (.pan K) ⟨m, []⟩ c (RetQ P fn fun v w => K (.returned v) w) (fun _ _ _ => False) (RetQ P fn fun v w => K (.returned v) w) (argEnv 0 l) w) : Calls P f l.toArray w K := by
 refine (callsIn_wide (n := 0)).1 (callsIn_of_wp_marks hf hb trivial ?_)
 subst hn
 refine wpIn_mono (h _ (has_args hl)) fun e a w q => ?_
 cases e with
 | normal => obtain ⟨ds, w', h1, h2, v, h3, h4⟩ := q; show LeavesInM _ _ _ _ _ _ _ _ _; rw [h1]; exact shuts_leaves h3 h4 ds w h2
 | ret => obtain ⟨ds, w', h1, h2, v, h3, h4⟩ := q; show LeavesInM _ _ _ _ _ _ _ _ _; rw [h1]; exact shuts_leaves h3 h4 ds w h2
 | panic ch =>
  obtain ⟨h1, h2⟩ := q
  show LeavesInM _ _ _ _ _ _ _ _ _
  rw [h1]
  exact h2
 | exit id => exact q.elim
 | goto l => exact q.elim
 | outgrown => exact q.elim
theorem does_callP {Q : Exit → Act → World → Prop} {K : Act → World → Prop} {r : Option Nat} {a : Act} {w' : World} {f : FuncId} {args : Array Value} (hn : noDefer o = true) (hw : Region.wanted o (yielded ops a.tmps) = true) (hr : (execOp a.eval o).run P w = .ok (.enter f args) w')
  (h : Calls P f args w' fun e w'' => (∃ u, e = .returned u ∧ K (a.put o.dst u) w'') ∨ ∃ ch, e = .panicked ch ∧ Q (.panic ch) a w'') : Does P r ops Q o K a w :=
 does_of hn hw hr ⟨fw_depth, callsIn_fw (h.mono (by rintro e w'' (⟨u, rfl, hk⟩ | ⟨ch, rfl, hk⟩) <;> exact hk))⟩
theorem s_callP {f : FuncId} {args : Array Value} (hg : Grd n env ops o true) (hd : o.dst = some d) (hr : Runs P n env o w (.ok (.enter f args) w))
  (h : Calls P f args w fun e w' => (∃ v, e = .returned v ∧ SeqW P ro n ops Kn Ke Kr rest ((d, v) :: env) w') ∨ ∃ ch, e = .panicked ch ∧ ro.kp ch w') (hn : n.ds = [] := by rfl) :
  SeqW P ro n ops Kn Ke Kr (o :: rest) env w := s_does fun a hnd ha => does_callP hnd (hg a ha) (hr a ha) (h.mono (by
   rintro e w' (⟨u, h1, h2⟩ | ⟨ch, h1, h2⟩)
   ·exact .inl ⟨u, h1, _, by rw [hd]; exact ha.put d u, h2⟩
   ·exact .inr ⟨ch, h1, ds_nil hn ha, h2⟩))
theorem a_callP {S : Sn} {rs : Tr} {fl : Fl} {f : FuncId} {args : Array Value} (hi : ops[i]? = some o) (hg : Grd n env ops o true) (hd : o.dst = some d) (hr : Runs P n env o w (.ok (.enter f args) w))
  (h : Calls P f args w fun e w' => (∃ v, e = .returned v ∧ S.now w' ∧ AnyW P ro n ops Kn Ke Kr S rs ((d, v) :: env) w') ∨ ∃ ch, e = .panicked ch ∧ ro.kp ch w') (hx : S.x.contains i = false := by rfl) (hfl : fl.solo = true := by rfl) (hn : n.ds = [] := by rfl) :
  AnyW P ro n ops Kn Ke Kr S (.c (i, fl) rs) env w :=
 a_does (hfl := hfl) hi (fun a hnd ha => does_callP hnd (hg a ha) (hr a ha) (h.mono (by
   rintro e w' (⟨u, h1, h2, h3⟩ | ⟨ch, h1, h2⟩)
   ·exact .inl ⟨u, h1, h2, _, by rw [hd]; exact ha.put d u, h3⟩
   ·exact .inr ⟨ch, h1, ds_nil hn ha, h2⟩))) hx
theorem la_callP {X : List Nat} {D : NP} {rs : Tr} {fl : Fl} {g : FuncId} {args : Array Value} (hi : ops[i]? = some o) (hg : Grd n env ops o true) (hd : o.dst = some d) (hr : Runs P n env o w (.ok (.enter g args) w))
  (h : Calls P g args w fun e w' => (∃ v, e = .returned v ∧ ∃ D', Sp D w D' w' ∧ AnyW P ro n ops Kn Ke Kr (SN X D' w') rs ((d, v) :: env) w') ∨ ∃ ch, e = .panicked ch ∧ ro.kp ch w') (hX : X.contains i = false := by rfl) (hfl : fl.solo = true := by rfl) (hn : n.ds = [] := by rfl) : AnyW P ro n ops Kn Ke Kr (SN X D w) (.c (i, fl) rs) env w :=
 a_callP (hfl := hfl) (S := SN X D w) (hx := hX) hi hg hd hr (h.mono (by
  rintro e w' (⟨v, h1, D', h2, h3⟩ | h1)
  ·exact .inl ⟨v, h1, ⟨D', h2⟩, a_re h2 h3⟩
  ·exact .inr h1)) hn
theorem y_gts {t t' : TypeId} {y : Operand} {l l' : List UInt8} (ho : o.op = .binOp .gtr t x y t') (hx : Ev n env x (str l)) (hy : Ev n env y (str l')) : Yld P n env o (.bool (!Op.bytesLess l l' && !decide (l = l'))) w := y_bin ho hx hy (by simp [binOp, Op.stringOp]; by_cases h : l = l' <;> simp [h]) (by simp [go_sem])
theorem y_makeIface {t : TypeId} {d : TypeDesc} (ho : o.op = .makeInterface t x) (ht : P.underlying t = some d) (hd : (match d with | .interface _ => true | _ => false) = false) (hx : Ev n env x v) : Yld P n env o (.iface t v) w := fun a ha => by
 have h1 : (Instr.makeInterface t v).run P w = .ok (.iface t v) w := by
  cases d <;> first | (cases hd; done) | simp [Instr.makeInterface, run_underlying ht]
 simp [execOp, ho, hx a ha, h1]
theorem s_panic {t : TypeId} (hg : Grd n env ops o true) (ho : o.op = .panic x) (hx : Ev n env x (.iface t v)) (h : ro.kp [{ v := .iface t v, recovered := false }] w) (hn : n.ds = [] := by rfl) :
  SeqW P ro n ops Kn Ke Kr (o :: rest) env w := s_does fun a hnd ha => does_of hnd (hg a ha) (r := .halt (.panic (.iface t v)) w) (by simp [execOp, ho, hx a ha]; rfl) ⟨ds_nil hn ha, h⟩
end
end Go.Vc
