import Derived.Test.YtlakfanockhngaaGreatDoorSLfP
namespace Go.Vc
open Go Go.RowKit
abbrev vi (x : Int) : Value := .int .i64 x
abbrev vs (A : Option Addr) (n c : Nat) : Value := .slice A n c
abbrev vb (b : Bool) : Value := .bool b
abbrev vp (b k : Nat) : Value := .pointer (some ⟨b, k, none⟩)
section
variable {P : Program} {ro : Option Nat} {n : Fr} {Kn : Act → World → Prop} {Ke : Nat → Act → World → Prop} {Kr : Act → World → Prop} {env : Env} {w : World}
variable {ops : Array Oper} {rest : List Oper} {rs : Tr} {fl : Fl} {o : Oper} {i d t : Nat} {v : Value} {S : Sn}
theorem et (h : look env t = some v := by rfl) (ht : Nat.blt t n.n = true := by rfl) : Ev n env (.tmp t) v := ev_tmp h ht
theorem gn {ops : Array Oper} (hg : o.guard = none := by rfl) : Grd n env ops o true := grd_none hg
theorem sq (hr : Yld P n env o v w) (h : SeqW P ro n ops Kn Ke Kr rest ((d, v) :: env) w) (hg : o.guard = none := by rfl) (hd : o.dst = some d := by rfl) : SeqW P ro n ops Kn Ke Kr (o :: rest) env w := s_q (grd_none hg) hd hr h
theorem enterK {f : FuncId} {fn : Func} {c : Code} {l : List Value} {m : Nat} {K : Ending → World → Prop} (hf : P.funcs[f]? = some fn) (hb : fn.body = some c) (hn : fn.ntmps = m) (hl : Nat.ble l.length m = true)
  (h : CodeW P none ⟨m, []⟩ c (RetQ P fn fun v w => K (.returned v) w) (fun _ _ _ => False) (RetQ P fn fun v w => K (.returned v) w) (argEnv 0 l) w) : Calls P f l.toArray w K :=
 ofEnter (enter hf hb hn hl h) fun _ _ h => h
theorem k_same {c : Code} (h : CodeW P ro n c Kn Ke Kr env w) : ∀ a, Has n a env → Code.wpIn (FW ro) 0 P c (mkQ Kn Ke Kr) a w := fun a ha => h a ha
variable {ops' : Array Oper} {Kn' : Act → World → Prop} {Ke' : Nat → Act → World → Prop} {Kr' : Act → World → Prop}
theorem nk {c : Code} (h : CodeW P ro n c Kn' Ke' Kr' env w) : SeqW P ro n ops (fun a w => Code.wpIn (FW ro) 0 P c (mkQ Kn' Ke' Kr') a w) Ke Kr [] env w := s_nil (k_same h)
theorem sr {y : Code} {id : Nat} {l : List Oper} (h : SeqW P ro n l.toArray (fun a w => Code.wpIn (FW ro) 0 P y (mkQ Kn Ke Kr) a w) Ke Kr l env w) (hn : l.all noDefer = true := by rfl) : CodeW P ro n (.seq (.region id l.toArray false) y) Kn Ke Kr env w := c_seq (c_region hn h)
theorem sm (h : SeqW P ro n ops Kn Ke Kr rest ((d, v) :: env) w) (ho : o.op = .move (.tmp t) := by rfl) (hl : look env t = some v := by rfl) (ht : Nat.blt t n.n = true := by rfl) (hg : o.guard = none := by rfl) (hd : o.dst = some d := by rfl) : SeqW P ro n ops Kn Ke Kr (o :: rest) env w := s_q (grd_none hg) hd (y_move ho (ev_tmp hl ht)) h
theorem sa (h : SeqW P ro n ops Kn Ke Kr rest ((d, v) :: env) w) (ho : o.op = .assign (.tmp t) := by rfl) (hl : look env t = some v := by rfl) (ht : Nat.blt t n.n = true := by rfl) (hg : o.guard = none := by rfl) (hd : o.dst = some d := by rfl) : SeqW P ro n ops Kn Ke Kr (o :: rest) env w := s_q (grd_none hg) hd (y_assign ho (ev_tmp hl ht)) h
theorem sac {v : Value} (h : SeqW P ro n ops Kn Ke Kr rest ((d, v) :: env) w) (ho : o.op = .assign (.const v) := by rfl) (hg : o.guard = none := by rfl) (hd : o.dst = some d := by rfl) : SeqW P ro n ops Kn Ke Kr (o :: rest) env w := s_q (grd_none hg) hd (y_assign ho ev_const) h
end
def MO.Flat (m : MO) : Prop := ∀ C D D' w, m.inv C D w → m.inv C D' w
def AllFl : List MO → Prop
 | [] => True
 | m :: r => m.Flat ∧ AllFl r
theorem Rels.any {α : Type} {c : Cod α} (hc : ∀ D D' w x cs, c.rel D w x cs → c.rel D' w x cs) {D D' : NP} {w : World} {xs : List α} {css : List (List Value)} (h : Rels c D w xs css) : Rels c D' w xs css := by
 induction xs generalizing css with
 | nil => cases css <;> exact h
 | cons x xs ih => cases css with
  | nil => exact h
  | cons cs css => exact ⟨hc _ _ _ _ _ h.1, ih h.2⟩
theorem row_flat {α : Type} {c : Cod α} (hc : ∀ D D' w x cs, c.rel D w x cs → c.rel D' w x cs) {e : TypeId} {A : Option Addr} {cap : Nat} {xs : List α} : (MO.row c e A cap xs).Flat := fun C D D' w h => by
 rcases h with h | ⟨css, h1, h2⟩
 ·exact .inl h
 ·exact .inr ⟨css, h1.any hc, h2⟩
theorem AllMO.any {os : List MO} (hf : AllFl os) {C D D' : NP} {w : World} (h : AllMO os C D w) : AllMO os C D' w := by
 induction os generalizing C with
 | nil => trivial
 | cons m os ih =>
  obtain ⟨C1, C2, h1, h2, h3⟩ := h
  exact ⟨C1, C2, hf.1 _ _ _ _ h1, ih hf.2 h2, h3⟩
theorem Bun.lendback {C0 F C C' : NP} {w0 w w' : World} {os sl : List MO} {cl cl1 : List Cl} (h : Bun C0 F w0 C w os cl) (hf : AllFl sl) (hb : Bun noM noM w C' w' sl cl1) : ∃ C'', Sp (Dj F C) w (Dj F C'') w' ∧ Bun C0 F w0 C'' w' (sl ++ os) cl := by
 have hx : Ext w w' := hb.ext0
 have hnew : ∀ k, C' k → ¬ k < w.heap.size := fun k hk hlt => (hb.st.keep k hlt (fun h => h.elim)).2 hk
 have hsp : Sp (Dj F C) w (Dj F fun k => C' k ∨ C k) w' := ⟨hx.size, fun k hk hn => ⟨hx.block k hk, fun hd => hd.elim (fun h => hn (.inl h)) (fun h => h.elim (fun h => hnew k h hk) (fun h => hn (.inr h)))⟩⟩
 refine ⟨fun k => C' k ∨ C k, hsp, ⟨hx.os.trans h.st.os, hx.tape.trans h.st.tape, hx.output.trans h.st.output, Nat.le_trans h.st.size hx.size, fun k hk hn => ⟨(hx.block k (Nat.lt_of_lt_of_le hk h.st.size)).trans (h.st.keep k hk hn).1, ?_⟩, fun k hk => ?_⟩, ?_, h.cl.sp hsp, fun k hk hc => ?_, fun k hk => Nat.lt_of_lt_of_le (h.fl k hk) hx.size⟩
 ·rintro (hc | hc)
  ·exact hnew k hc (Nat.lt_of_lt_of_le hk h.st.size)
  ·exact (h.st.keep k hk hn).2 hc
 ·rcases hk with hk | hk
  ·exact hb.st.lt k hk
  ·exact Nat.lt_of_lt_of_le (h.st.lt k hk) hx.size
 ·exact (hb.mo.any hf).app (h.mo.sp (fun k _ hk => hx.block k hk) hsp) (fun k hk hc => hnew k hk (h.st.lt k hc))
 ·rcases hc with hc | hc
  ·exact hnew k hc (h.fl k hk)
  ·exact h.dj k hk hc
end Go.Vc
