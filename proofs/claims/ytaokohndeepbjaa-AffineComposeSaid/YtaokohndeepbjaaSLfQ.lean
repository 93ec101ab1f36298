import Derived.Test.YtaokohndeepbjaaSLfP
namespace Go.Vc
open Go Go.RowKit
abbrev vi (x : Int) : Value := .int .i64 x
abbrev vs (A : Option Addr) (n c : Nat) : Value := .slice A n c
abbrev vb (b : Bool) : Value := .bool b
abbrev vp (b k : Nat) : Value := .pointer (some ⟨b, k, none⟩)
section
variable {P : Program} {ro : Option Nat} {n : Fr} {Kn : Act → World → Prop} {Ke : Nat → Act → World → Prop} {Kr : Act → World → Prop} {env : Env} {w : World}
variable {ops : Array Oper} {rest : List Oper} {rs : Tr} {fl : Fl} {o : Oper} {i d t : Nat} {v : Value} {S : Sn}
theorem et (h : look env t = some v := by rfl) (ht : Nat.blt t n.n = true := by rfl) : Ev n env (.tmp t) v := ev_tmp h ht
theorem gn {ops : Array Oper} (hg : o.guard = none := by rfl) : Grd n env ops o true := grd_none hg
theorem sq (hr : Yld P n env o v w) (h : SeqW P ro n ops Kn Ke Kr rest ((d, v) :: env) w) (hg : o.guard = none := by rfl) (hd : o.dst = some d := by rfl) : SeqW P ro n ops Kn Ke Kr (o :: rest) env w := s_q (grd_none hg) hd hr h
theorem enterK {f : FuncId} {fn : Func} {c : Code} {l : List Value} {m : Nat} {K : Ending → World → Prop} (hf : P.funcs[f]? = some fn) (hb : fn.body = some c) (hn : fn.ntmps = m) (hl : Nat.ble l.length m = true)
  (h : CodeW P none ⟨m, []⟩ c (RetQ P fn fun v w => K (.returned v) w) (fun _ _ _ => False) (RetQ P fn fun v w => K (.returned v) w) (argEnv 0 l) w) : Calls P f l.toArray w K :=
 ofEnter (enter hf hb hn hl h) fun _ _ h => h
theorem k_same {c : Code} (h : CodeW P ro n c Kn Ke Kr env w) : ∀ a, Has n a env → Code.wpIn (FW ro) 0 P c (mkQ Kn Ke Kr) a w := fun a ha => h a ha
variable {ops' : Array Oper} {Kn' : Act → World → Prop} {Ke' : Nat → Act → World → Prop} {Kr' : Act → World → Prop}
theorem nk {c : Code} (h : CodeW P ro n c Kn' Ke' Kr' env w) : SeqW P ro n ops (fun a w => Code.wpIn (FW ro) 0 P c (mkQ Kn' Ke' Kr') a w) Ke Kr [] env w := s_nil (k_same h)
theorem sr {y : Code} {id : Nat} {l : List Oper} (h : SeqW P ro n l.toArray (fun a w => Code.wpIn (FW ro) 0 P y (mkQ Kn Ke Kr) a w) Ke Kr l env w) (hn : l.all noDefer = true := by rfl) : CodeW P ro n (.seq (.region id l.toArray false) y) Kn Ke Kr env w := c_seq (c_region hn h)
theorem sm (h : SeqW P ro n ops Kn Ke Kr rest ((d, v) :: env) w) (ho : o.op = .move (.tmp t) := by rfl) (hl : look env t = some v := by rfl) (ht : Nat.blt t n.n = true := by rfl) (hg : o.guard = none := by rfl) (hd : o.dst = some d := by rfl) : SeqW P ro n ops Kn Ke Kr (o :: rest) env w := s_q (grd_none hg) hd (y_move ho (ev_tmp hl ht)) h
theorem sa (h : SeqW P ro n ops Kn Ke Kr rest ((d, v) :: env) w) (ho : o.op = .assign (.tmp t) := by rfl) (hl : look env t = some v := by rfl) (ht : Nat.blt t n.n = true := by rfl) (hg : o.guard = none := by rfl) (hd : o.dst = some d := by rfl) : SeqW P ro n ops Kn Ke Kr (o :: rest) env w := s_q (grd_none hg) hd (y_assign ho (ev_tmp hl ht)) h
theorem sac {v : Value} (h : SeqW P ro n ops Kn Ke Kr rest ((d, v) :: env) w) (ho : o.op = .assign (.const v) := by rfl) (hg : o.guard = none := by rfl) (hd : o.dst = some d := by rfl) : SeqW P ro n ops Kn Ke Kr (o :: rest) env w := s_q (grd_none hg) hd (y_assign ho ev_const) h
end
def MO.prow {α : Type} (c : Cod α) (e : TypeId) (A : Option Addr) (n cap : Nat) (xs : List α) : MO where
 inv C D w := xs.length = n ∧ (MO.row c e A cap xs).inv C D w
 lt h := (MO.row c e A cap xs).lt h.2
 sp h hc hs := ⟨h.1, (MO.row c e A cap xs).sp h.2 hc hs⟩
theorem AllMO.conv {os : List MO} {m m' : MO} {f : MO → List MO} (ha : At os m f) : (∀ C D w, m.inv C D w → m'.inv C D w) → ∀ {C D : NP} {w : World}, AllMO os C D w → AllMO (f m') C D w := by
 induction ha with
 | z => intro hm C D w h; obtain ⟨C1, C2, h1, h2⟩ := h; exact ⟨C1, C2, hm _ _ _ h1, h2⟩
 | s _ ih => intro hm C D w h; obtain ⟨C1, C2, h1, h2, h3⟩ := h; exact ⟨C1, C2, h1, ih hm h2, h3⟩
section
variable {α : Type} {c : Cod α} {e : TypeId} {A : Option Addr} {m cap : Nat} {xs : List α} {C0 F C : NP} {w0 w : World} {os : List MO} {cl : List Cl} {f : MO → List MO}
theorem Bun.pin (h : Bun C0 F w0 C w os cl) (ha : At os (MO.row c e A cap xs) f) (hl : xs.length = m) : Bun C0 F w0 C w (f (MO.prow c e A m cap xs)) cl :=
 ⟨h.st, h.mo.conv (m' := MO.prow c e A m cap xs) ha fun _ _ _ k => ⟨hl, k⟩, h.cl, h.dj, h.fl⟩
theorem Bun.unpin (h : Bun C0 F w0 C w os cl) (ha : At os (MO.prow c e A m cap xs) f) : xs.length = m ∧ Bun C0 F w0 C w (f (MO.row c e A cap xs)) cl :=
 ⟨by obtain ⟨_, h1, _⟩ := h.look ha; exact h1.1, h.st, h.mo.conv (m' := MO.row c e A cap xs) ha fun _ _ _ k => k.2, h.cl, h.dj, h.fl⟩
theorem bdn {l k : Nat} {i : Int} (hl : l = k) (h : 0 ≤ i ∧ i < (l : Int)) : 0 ≤ i ∧ i < (k : Int) := hl ▸ h
theorem looklen {env : Env} {t : Nat} (hl : xs.length = m) (h : look env t = some (.slice A m cap)) : look env t = some (.slice A xs.length cap) := by subst hl; exact h
theorem lset_len {i : Nat} {x : α} (h : xs.length = m) : (xs.set i x).length = m := by rw [List.length_set]; exact h
variable {P : Program} {ro : Option Nat} {n : Fr} {Kn : Act → World → Prop} {Ke : Nat → Act → World → Prop} {Kr : Act → World → Prop} {env : Env}
variable {ops : Array Oper} {rs : Tr} {fl : Fl} {o : Oper} {i d t te : Nat} {v u : Value} {x fx : Operand} {ys : List Operand} {args : List Value} {ts : Array TypeId} {X : List Nat} {md : Bool}
theorem y_lenp (hl : xs.length = m) (ho : o.op = .call { callee := .builtin .len, args := #[x], argTypes := #[t] }) (ht : P.underlying t = some (.slice te)) (hx : Ev n env x (.slice A m cap)) : Yld P n env o (.int .i64 (xs.length : Int)) w := by
 subst hl; exact y_lenl ho ht hx
theorem la_gcallV {b : Bool} (hi : ops[i]? = some o) (hg : Grd n env ops o b) (hd : o.dst = some d) (ho : o.op = .call { callee := .value fx, args := ys.toArray, argTypes := ts }) (hf : b = true → Ev n env fx v) (hxs : b = true → EvA n env ys args)
  (hc : b = true → CallV P v args w fun e w' => e = .returned u ∧ Ext w w') (h : ∀ w', Ext w w' → AnyW P ro n ops Kn Ke Kr (SN X (DM md F C) w') rs ((d, gv b u) :: env) w') (hX : X.contains i = false := by rfl) (hfl : fl.solo = true := by rfl) : AnyW P ro n ops Kn Ke Kr (SN X (DM md F C) w) (.c (i, fl) rs) env w :=
 a_does (hfl := hfl) (S := SN X (DM md F C) w) (hx := hX) hi fun a hn ha => by
  cases b with
  | true => exact callV_does hn (hg a ha) ha ho (hf rfl) (hxs rfl) ((hc rfl).mono fun _ _ ⟨h1, h2⟩ => ⟨u, h1, ⟨_, Sp.of_ext h2⟩, _, by rw [hd]; exact ha.put d u, a_re (Sp.of_ext h2) (h _ h2)⟩)
  | false => exact does_not (hg a ha) ⟨SX.self, _, by rw [hd]; exact ha.put d undef, h _ .rfl'⟩
end
section
variable {C0 F C C' : NP} {w0 w w' : World} {os os' : List MO} {cl cl' : List Cl}
theorem Bun.restart (h : Bun C0 F w0 C w os cl) : Bun C F w C w os cl := ⟨⟨rfl, rfl, rfl, Nat.le_refl _, fun k _ hn => ⟨rfl, hn⟩, h.st.lt⟩, h.mo, h.cl, h.dj, h.fl⟩
theorem Bun.back (h : Bun C0 F w0 C w os cl) (k : Bun C F w C' w' os' cl') : Sp (Dj F C) w (Dj F C') w' ∧ Bun C0 F w0 C' w' os' cl' :=
 ⟨⟨k.st.size, fun i hi hn => ⟨(k.st.keep i hi fun hc => hn (.inr hc)).1, fun hd => hd.elim (fun hf => hn (.inl hf)) fun hc => (k.st.keep i hi fun hc => hn (.inr hc)).2 hc⟩⟩,
  ⟨k.st.os.trans h.st.os, k.st.tape.trans h.st.tape, k.st.output.trans h.st.output, Nat.le_trans h.st.size k.st.size, fun i hi hn => have a := h.st.keep i hi hn; have b := k.st.keep i (Nat.lt_of_lt_of_le hi h.st.size) a.2; ⟨b.1.trans a.1, b.2⟩, k.st.lt⟩, k.mo, k.cl, k.dj, k.fl⟩
theorem isFn.cells {v : Value} (h : isFn v = true) : v.cells = #[v] := by cases v <;> first | rfl | cases h
variable {P : Program} {ro : Option Nat} {n : Fr} {Kn : Act → World → Prop} {Ke : Nat → Act → World → Prop} {Kr : Act → World → Prop} {env : Env} {ops : Array Oper} {rs : Tr} {X : List Nat} {md : Bool}
theorem a_down (hs : Sp (Dj F C) w (Dj F C') w) (h : AnyW P ro n ops Kn Ke Kr (SN X (DM md F C') w) rs env w) : AnyW P ro n ops Kn Ke Kr (SN X (DM md F C) w) rs env w := by
 cases md
 ·exact h
 ·exact a_re hs h
end
end Go.Vc
