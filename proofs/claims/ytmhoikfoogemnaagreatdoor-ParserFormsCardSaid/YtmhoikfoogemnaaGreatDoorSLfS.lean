import Derived.Test.YtmhoikfoogemnaaGreatDoorSLfF
import Derived.RangeFuncRecord
namespace Go.Vc
open Go Go.RowKit
def MO.obj (r : Nat) (o : Obj) : MO where
 inv C _ w := (∀ k, C k ↔ k = r) ∧ w.heap[r]? = some o
 lt h k hk := by rw [(h.1 k).1 hk]; exact (Array.getElem?_eq_some_iff.1 h.2).1
 sp h hc _ := ⟨h.1, (hc r ((h.1 r).2 rfl)).trans h.2⟩
abbrev MO.dfr (r : Nat) : MO := MO.obj r (.deferred (some []))
abbrev LR (st : LoopState) (pe : Option Code) (fn : FuncId) (tmps : Array Value) (ps : Array Tmp) (assign body : Code) (r : Nat) : Loop := ⟨st, pe, fn, tmps, ps, assign, body, r⟩
abbrev MO.loop (l : Nat) (r : Loop) : MO := MO.obj l (.loop r)
def jmp (js : List Code) : Nat → Option Code
 | 0 => none
 | k + 1 => js[k]?
def lrec (fn : FuncId) (tmps : Array Value) (ps : Array Tmp) (assign body : Code) (r : Nat) (js : List Code) (out : Nat) : Loop :=
 LR (if (jmp js out).isNone then .ready else .done) (jmp js out) fn tmps ps assign body r
section
variable {P : Program} {C0 F C : NP} {w0 w w' : World} {os os' : List MO} {cl : List Cl} {f : MO → List MO} {r l : Nat} {o o' : Obj} {rc : Loop}
theorem Bun.oat (h : Bun C0 F w0 C w os cl) (ha : At os (MO.obj r o) f) : w.heap[r]? = some o := by
 obtain ⟨C1, h1, _⟩ := h.look ha; exact h1.2
theorem Bun.newObj (h : Bun C0 F w0 C w os cl) (o : Obj) : ∃ C', (∀ md, Sp (DM md F C) w (DM md F C') (w.alloc o)) ∧ Bun C0 F w0 C' (w.alloc o) (MO.obj w.heap.size o :: os) cl :=
 h.new (b := w.heap.size) (Ext.alloc _) rfl (by simp) fun D _ => ⟨fun _ => Iff.rfl, heap_alloc_new w o⟩
theorem Bun.putObj (h : Bun C0 F w0 C w os cl) (ha : At os (MO.obj r o) f) (o' : Obj) : ∃ C', Sp (Dj F C) w (Dj F C') (w.putObj r o') ∧ Bun C0 F w0 C' (w.putObj r o') (f (MO.obj r o')) cl := by
 obtain ⟨C1, h1, h2, h3⟩ := h.turn ha
 have hlt : r < w.heap.size := (Array.getElem?_eq_some_iff.1 h1.2).1
 obtain ⟨C', h4, h5⟩ := h3 (w.putObj r o') C1 ⟨rfl, rfl, rfl, by simp, fun k hk hn => ⟨World.putObj_heap_other fun e => hn ((h1.1 k).2 e), hn⟩, fun k hk => by rw [(h1.1 k).1 hk]; simpa using hlt⟩
 exact ⟨C', h4, h5 (MO.obj r o') ⟨h1.1, World.putObj_heap_same hlt⟩⟩
theorem Bun.shut {ds : List Nat} {K : World → Prop} (h : Bun C0 F w0 C w os cl) (ha : At os (MO.dfr r) f) (hk : ∀ C' w', Bun C0 F w0 C' w' (f (MO.obj r (.deferred none))) cl → ∃ w2, Shuts P ds w' w2 ∧ K w2) : ∃ w2, Shuts P (r :: ds) w w2 ∧ K w2 := by
 obtain ⟨C', _, h2⟩ := h.putObj ha (.deferred none)
 obtain ⟨w2, h3, h4⟩ := hk _ _ h2
 exact ⟨w2, ⟨_, run_takeDeferred (h.oat ha), h3⟩, h4⟩
theorem shut_nil {K : World → Prop} (hk : K w) : ∃ w2, Shuts P [] w w2 ∧ K w2 := ⟨w, rfl, hk⟩
end
def StI.loop {σ β : Type} (l : Nat) (rc : Nat → Loop) (os : σ → β → List MO) (cl : σ → β → List Cl) : StI (Nat × σ) :=
 StI.of (fun s b => MO.loop l (rc s.1) :: os s.2 b) (fun s b => cl s.2 b)
section
variable {P : Program} {ro : Ro} {n : Fr} {Kn : Act → World → Prop} {Ke : Nat → Act → World → Prop} {Kr : Act → World → Prop} {env : Env} {w : World}
variable {C0 F C : NP} {w0 : World} {os : List MO} {cl : List Cl} {f : MO → List MO} {l r m : Nat} {fn : FuncId} {tmps : Array Value} {ps : Array Tmp} {assign body : Code} {R : Ending → World → Prop}
theorem wpIn_any {k : Nat} {c : Code} {Q : Exit → Act → World → Prop} {a : Act} (h : c.wpIn (FW ro.r) 0 P Q a w) : c.wpIn (FW ro.r) k P Q a w := fun b ks cs h1 h2 _ => h b ks cs h1 h2 (fw_room _)
theorem callV_yield {args : List Value} {env1 : Env} {js : List Code} {oss : List MO} (hI : Bun C0 F w0 C w (MO.loop l (lrec fn tmps ps assign body r js 0) :: oss) cl) (hps : args.length = ps.size)
  (henv : Has ⟨m, []⟩ { tmps := (ps.zip args.toArray).foldl (fun t (p, v) => t.setIfInBounds p v) tmps, defers := [] } env1)
  (h : CodeW P (.rnd l) ⟨m, []⟩ assign (fun a1 w1 => ∃ w2, (Instr.beginRound l).run P w1 = .ok () w2 ∧ Code.wpIn (FW (some l)) 0 P body (roundPost P l R) a1 w2) (fun _ _ _ => False) (fun _ _ => False) env1 w) : CallV P (.func (.yield l) #[] #[]) args w R := by
 have hat : w.heap[l]? = some (.loop (LR .ready none fn tmps ps assign body r)) := hI.oat .z
 refine .inr ⟨l, fn, _, assign, body, rfl, run_yield hat (by simpa using hps), fun k => ?_⟩
 refine roundIn_of_wpIn (F := Fence.wide) trivial ?_
 have h1 := h _ henv
 refine wpIn_any (ro := .rnd l) (k := k) (wpIn_mono h1 fun e a w' q => ?_)
 cases e with
 | normal => obtain ⟨w2, h2, h3⟩ := q; exact ⟨w2, h2, wpIn_any (ro := .rnd l) (k := k) h3⟩
 | exit id => exact q
 | ret => exact q
 | panic ch => exact q.2.elim
 | goto l => exact q.elim
 | outgrown => exact q.elim
theorem Subs.up {c : Cl} {L L' : List Cl} (h : Subs L L') : Subs (c :: L) L' := by
 induction L' with
 | nil => trivial
 | cons a L' ih => exact ⟨.s h.1, ih h.2⟩
theorem Subs.refl (L : List Cl) : Subs L L := by
 induction L with
 | nil => trivial
 | cons a L ih => exact ⟨.z, ih.up⟩
def EndR (P : Program) (l : Nat) (R : Ending → World → Prop) (jump : Option Code) (w3 : World) : Prop := ∃ v w4, (Instr.endRound l jump).run P w3 = .ok v w4 ∧ R (.returned v) w4
theorem k_begin {js : List Code} (hI : Bun C0 F w0 C w os cl) (ha : At os (MO.loop l (lrec fn tmps ps assign body r js 0)) f)
  (h : ∀ C' w2, Bun C0 F w0 C' w2 (f (MO.loop l (LR .busy none fn tmps ps assign body r))) cl →
   CodeW P (.rnd l) n body (fun _ w3 => EndR P l R none w3) (fun id _ w3 => EndR P l R (some (.exit id)) w3) (fun _ w3 => EndR P l R (some .ret) w3) env w2) :
  ∀ a, Has n a env → ∃ w2, (Instr.beginRound l).run P w = .ok () w2 ∧ Code.wpIn (FW (some l)) 0 P body (roundPost P l R) a w2 := fun a hA => by
 obtain ⟨C', _, h2⟩ := hI.putObj ha (.loop (LR .busy none fn tmps ps assign body r))
 have hat : w.heap[l]? = some (.loop (LR .ready none fn tmps ps assign body r)) := hI.oat ha
 refine ⟨_, run_beginRound hat rfl, wpIn_mono (h C' _ h2 a hA) fun e a' w' q => ?_⟩
 cases e with
 | normal => exact q
 | exit id => exact q
 | ret => exact q
 | panic ch => exact q.2.elim
 | goto l => exact q.elim
 | outgrown => exact q.elim
theorem k_round {σ β : Type} {js : List Code} {oS : σ → β → List MO} {cS : σ → β → List Cl} {out : Nat} {s : σ} {b : β} {jump : Option Code} (hI : Bun C0 F w0 C w (MO.loop l (LR .busy none fn tmps ps assign body r) :: oS s b) (cS s b)) (hj : jmp js out = jump)
  (h : ∀ C' w2, Bun C0 F w0 C' w2 [MO.st (StI.loop l (lrec fn tmps ps assign body r js) oS cS) (out, s)] [] → R (.returned (.bool jump.isNone)) w2) : EndR P l R jump w := by
 have hat : w.heap[l]? = some (.loop (LR .busy none fn tmps ps assign body r)) := hI.oat .z
 obtain ⟨C', _, h2⟩ := hI.putObj .z (.loop (LR (if jump.isNone then .ready else .done) jump fn tmps ps assign body r))
 subst hj
 refine ⟨_, _, run_endRound _ hat, h C' _ ?_⟩
 have h3 := Bun.mkst (os := fun (s : Nat × σ) b => MO.loop l (lrec fn tmps ps assign body r js s.1) :: oS s.2 b) (cl := fun (s : Nat × σ) b => cS s.2 b) (s := (out, s)) (b := b) (L := cS s b) h2 (Subs.refl _)
 exact h3.subs trivial
theorem c_rangeFunc {gf : FuncId} {cap : List Value} {g : Operand} (js : List Code) (hI : Bun C0 F w0 C w os cl) (hg : Ev n env g (.func (.func gf) #[] cap.toArray)) (hok : FnOK P gf)
  (h : ∀ (l r : Nat) (fn : FuncId) (tmps : Array Value) (rc : Nat → Loop) (_ : rc = lrec fn tmps ps assign body r js) (C' : NP) (w' : World), (∀ n' : Fr, n'.n = n.n → n'.ds = [] → Has n' { tmps := tmps, defers := [] } env) →
   Bun C0 F w0 C' w' (MO.loop l (rc 0) :: MO.dfr r :: os) cl →
   Calls P gf (.func (.yield l) #[] #[] :: cap).toArray w' fun e w2 => ∃ v, e = .returned v ∧ ∃ jump w3, (Instr.endLoop l).run P w2 = .ok jump w3 ∧
    match jump with
    | none => ∀ a, Has ⟨n.n, r :: n.ds⟩ a env → Kn a w3
    | some c => CodeW P .plain ⟨n.n, r :: n.ds⟩ c Kn Ke Kr env w3) : CodeW P .plain n (.rangeFunc g ps assign body) Kn Ke Kr env w := fun a ha => by
 refine wpIn_rangeFunc fun fn _ => ?_
 obtain ⟨Ca, _, hIa⟩ := hI.newObj (.deferred (some []))
 obtain ⟨Cb, _, hIb⟩ := hIa.newObj (.loop (LR .ready none fn a.tmps ps assign body w.heap.size))
 have hx := h _ _ fn a.tmps _ rfl Cb _ (fun n' e1 e2 => ⟨by rw [e2]; rfl, ha.sz.trans e1.symm, fun t v hl ht => ha.rd t v hl (e1 ▸ ht)⟩) hIb
 have hsz : (w.alloc (.deferred (some []))).heap.size = w.heap.size + 1 := by simp
 let W := (w.alloc (.deferred (some []))).alloc (.loop (LR .ready none fn a.tmps ps assign body w.heap.size))
 refine ⟨w.heap.size + 1, [{ target := .collected w.heap.size, args := #[] }], W, Deferred.mk (Target.fn (Fn.func gf) cap.toArray) #[Value.func (Fn.yield (w.heap.size + 1)) #[] #[]], W, gf, #[Value.func (Fn.yield (w.heap.size + 1)) #[] #[]] ++ cap.toArray, W, run_enterLoop_outer _ _ _ _ _, ?_, fun _ _ => trivial, ?_, fw_depth, ?_⟩
 ·simp only [resolve, hg a ha]
  simp [go_sem]
 ·simp [invoke, run_callFunc hok]
 ·rw [hsz] at hx
  have e1 : (#[Value.func (Fn.yield (w.heap.size + 1)) #[] #[]] ++ cap.toArray : Array Value) = (Value.func (Fn.yield (w.heap.size + 1)) #[] #[] :: cap).toArray := by simp
  rw [e1]
  refine callsIn_fw (hx.mono ?_)
  rintro e w2 ⟨v, rfl, jump, w3, h1, h2⟩
  refine ⟨jump, w3, h1, ?_⟩
  cases jump with
  | none => exact h2 _ ⟨by simp [marks, ha.df], ha.sz, ha.rd⟩
  | some c => exact h2 _ ⟨by simp [marks, ha.df], ha.sz, ha.rd⟩
theorem k_endLoop {js : List Code} {out : Nat} {K : Option Code → World → Prop} (hI : Bun C0 F w0 C w os cl) (ha : At os (MO.loop l (lrec fn tmps ps assign body r js out)) f)
  (h : ∀ C' w3, Bun C0 F w0 C' w3 (f (MO.loop l (LR .exhausted (jmp js out) fn tmps ps assign body r))) cl → K (jmp js out) w3) : ∃ jump w3, (Instr.endLoop l).run P w = .ok jump w3 ∧ K jump w3 := by
 obtain ⟨C', _, h2⟩ := hI.putObj ha (.loop (LR .exhausted (jmp js out) fn tmps ps assign body r))
 exact ⟨_, _, run_endLoop (hI.oat ha) (by simp only [lrec]; split <;> simp), h C' _ h2⟩
theorem has_round1 {tmps : Array Value} {n' : Fr} {p : Tmp} {v : Value} (h : Has n' { tmps := tmps, defers := [] } env) : Has n' { tmps := ((#[p] : Array Tmp).zip ([v].toArray)).foldl (fun t (p, v) => t.setIfInBounds p v) tmps, defers := [] } ((p, v) :: env) := by
 have := h.put p v
 simpa [Act.put] using this
end
end Go.Vc
