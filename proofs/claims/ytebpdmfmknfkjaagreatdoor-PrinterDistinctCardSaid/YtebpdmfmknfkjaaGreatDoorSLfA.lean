import Derived.Test.YtebpdmfmknfkjaaGreatDoorSLfR
namespace Go.Vc
open Go Go.RowKit
section
variable {P : Program} {ro : Option Nat} {n : Fr} {Kn : Act → World → Prop} {Ke : Nat → Act → World → Prop} {Kr : Act → World → Prop} {env : Env} {w : World}
variable {ops : Array Oper} {rest : List Oper} {rs : Tr} {fl : Fl} {o : Oper} {i d : Nat} {v : Value} {x y z : Operand} {t e : TypeId} {md : Bool} {X : List Nat}
variable {C0 F C : NP} {w0 : World} {os : List MO} {cl : List Cl} {f : MO → List MO} {α : Type} {c : Cod α} {A A2 : Option Addr} {xs ys : List α}
theorem Bun.newRow {cs : Array Value} {cap : Nat} {css : List (List Value)} (hI : Bun C0 F w0 C w os cl) (hr : Rels c (Dj F C) w xs css) (hle : xs.length ≤ cap) (hcap : cap ≤ maxLen) (hsz : cs.size = cap * c.n) (htake : cs.toList.take (xs.length * c.n) = css.flatten) :
  ∃ C', (∀ md, Sp (DM md F C) w (DM md F C') (w.alloc (.cells cs e))) ∧ Bun C0 F w0 C' (w.alloc (.cells cs e)) (MO.row c e (some ⟨w.heap.size, 0, none⟩) cap xs :: os) cl :=
 hI.new (b := w.heap.size) (Ext.alloc _) rfl (by simp) fun D hs => .inr ⟨css, hr.sp hs, ⟨hr.flat, .inr ⟨w.heap.size, cap, cs, rfl, Nat.zero_le _, heap_alloc_new w _, hle, hcap, hsz, htake⟩⟩, fun k => ⟨fun h => by subst h; rfl, fun h => by injection h with h; exact h.symm⟩⟩
theorem l_lit {len bytes : Nat} {zv : Value} {ps : List (Nat × Operand)} {vs : List (Nat × Value)} {cs : Array Value} {css : List (List Value)} (hI : Bun C0 F w0 C w os cl) (hg : Grd n env ops o true) (hd : o.dst = some d) (ho : o.op = .buildSlice t len ps.toArray) (ht : P.underlying t = some (.slice e)) (hi : Info P e c.n bytes zv) (hlen : Nat.ble (len * c.n) 16777216 = true)
  (hp : EvL n env ps vs) (hf : Instr.fill (fun i => some (i * c.n, c.n)) ((Array.range (len * c.n)).map (fun i => (if len * c.n = 0 then #[] else zv.cells)[i % (if len * c.n = 0 then #[] else zv.cells).size]!)) vs = some cs)
  (hr : Rels c (Dj F C) w xs css) (hx : xs.length = len) (hcs : cs.toList = css.flatten) (hl2 : Nat.ble len 4294967296 = true)
  (h : ∀ b C' w', Bun C0 F w0 C' w' (MO.row c e (some ⟨b, 0, none⟩) len xs :: os) cl → SeqW P ro n ops Kn Ke Kr rest ((d, .slice (some ⟨b, 0, none⟩) xs.length len) :: env) w') : SeqW P ro n ops Kn Ke Kr (o :: rest) env w := by
 subst hx
 have hl2 := Nat.le_of_ble_eq_true hl2
 have hsz : cs.size = xs.length * c.n := by rw [← Array.length_toList, hcs, hr.flat]
 obtain ⟨C', _, h2⟩ := hI.newRow (e := e) (cs := cs) (cap := xs.length) hr (Nat.le_refl _) (by simp only [maxLen]; omega) hsz (by rw [← hsz, ← Array.length_toList, List.take_length, hcs])
 exact s_val hg hd (w' := w.alloc (.cells cs e)) (fun a ha => by
  unfold execOp
  simp only [ho, hp.map ha, Sem.run_bind, run_buildSlice (w := w) ht hi hlen hf, Result.andThen_ok, Sem.run_pure]) (h _ _ _ h2)
abbrev wi64 (x : Int) : Int := IntKind.i64.wrap x
abbrev wi32 (x : Int) : Int := IntKind.i32.wrap x
abbrev wu64 (x : Int) : Int := IntKind.u64.wrap x
abbrev wu8 (x : Int) : Int := IntKind.u8.wrap x
theorem y_catl {l l' s : List UInt8} {t t' : TypeId} (ho : o.op = .binOp .add t x y t') (hx : Ev n env x (str l)) (hy : Ev n env y (str l')) (h : lapp l l' = some s) : Yld P n env o (str s) w := by
 obtain ⟨h0, rfl⟩ := lapp_some h
 have : l.length + l'.length ≤ 4294967296 := h0
 exact y_cat ho hx hy (by omega)
theorem y_satl {l : List UInt8} {k : IntKind} {p b : Int} {t : TypeId} (ho : o.op = .index t x y) (ht : P.underlying t = some .string) (hx : Ev n env x (str l)) (hy : Ev n env y (.int k p)) (h : Vc.sat l p = some b) : Yld P n env o (.int .u8 b) w := by
 obtain ⟨h0, rfl⟩ := sat_bd h
 exact y_indexs ho ht hx hy h0
theorem s_gcallU {g : FuncId} {args : Array Value} {b : Bool} (hg : Grd n env ops o b) (hd : o.dst = some d) (hr : b = true → Runs P n env o w (.ok (.enter g args) w)) (hc : b = true → Calls P g args w fun e w' => e = .returned v ∧ Ext w w')
  (h : ∀ w', Ext w w' → SeqW P ro n ops Kn Ke Kr rest ((d, gv b v) :: env) w') : SeqW P ro n ops Kn Ke Kr (o :: rest) env w :=
 s_gcall (fun u w' => u = v ∧ Ext w w') hg hd hr (fun hb => (hc hb).mono fun e w' ⟨h1, h2⟩ => ⟨v, h1, rfl, h2⟩) fun u w' h1 h2 => by
  cases b with
  | true => obtain ⟨rfl, hx⟩ := h1 rfl; exact h w' hx
  | false => rw [h2 rfl]; exact h w .rfl'
theorem la_gcallU {g : FuncId} {args : Array Value} {b : Bool} (hi : ops[i]? = some o) (hg : Grd n env ops o b) (hd : o.dst = some d) (hr : b = true → Runs P n env o w (.ok (.enter g args) w)) (hc : b = true → Calls P g args w fun e w' => e = .returned v ∧ Ext w w')
  (h : ∀ w', Ext w w' → AnyW P ro n ops Kn Ke Kr (SN X (DM md F C) w') rs ((d, gv b v) :: env) w') (hX : X.contains i = false := by rfl) (hfl : fl.solo = true := by rfl) : AnyW P ro n ops Kn Ke Kr (SN X (DM md F C) w) (.c (i, fl) rs) env w :=
 a_gcall (hfl := hfl) (S := SN X (DM md F C) w) (hx := hX) (fun u w' => u = v ∧ Ext w w') hi hg hd hr (fun hb => (hc hb).mono fun e w' ⟨h1, h2⟩ => ⟨v, h1, ⟨_, Sp.of_ext h2⟩, rfl, h2⟩) SX.self fun u w' hS h1 h2 => by
  cases b with
  | true => obtain ⟨rfl, hx⟩ := h1 rfl; exact a_re (Sp.of_ext hx) (h w' hx)
  | false => have e := h2 rfl; subst e; exact h _ .rfl'
theorem la_call {g : FuncId} {args : Array Value} (hi : ops[i]? = some o) (hg : Grd n env ops o true) (hd : o.dst = some d) (hr : Runs P n env o w (.ok (.enter g args) w))
  (h : Calls P g args w fun e w' => ∃ v, e = .returned v ∧ Ext w w' ∧ AnyW P ro n ops Kn Ke Kr (SN X (DM md F C) w') rs ((d, v) :: env) w') (hX : X.contains i = false := by rfl) (hfl : fl.solo = true := by rfl) : AnyW P ro n ops Kn Ke Kr (SN X (DM md F C) w) (.c (i, fl) rs) env w :=
 a_call (hfl := hfl) (S := SN X (DM md F C) w) (hx := hX) hi hg hd hr (h.mono fun e w' ⟨v, h1, h2, h3⟩ => ⟨v, h1, ⟨_, Sp.of_ext h2⟩, a_re (Sp.of_ext h2) h3⟩)
theorem ofEnter {P : Program} {g : FuncId} {args : Array Value} {w : World} {R : Value → World → Prop} {K : Ending → World → Prop} (h : Calls P g args w fun e w' => ∃ v, e = .returned v ∧ R v w') (hk : ∀ v w', R v w' → K (.returned v) w') : Calls P g args w K :=
 h.mono fun _ _ ⟨_, h1, h2⟩ => h1 ▸ hk _ _ h2
end
end Go.Vc
