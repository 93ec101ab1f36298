import Derived.Test.YtnehbaocbcegpaaDoorSLfS
import Derived.MapKept
namespace Go.Vc
open Go Go.RowKit
structure KC (κ : Type) [DecidableEq κ] where
 enc : κ → Value
 d : TypeDesc
 key : ∀ a, MapKept.IsKey d (enc a)
 same : ∀ a b, Instr.sameNow d (enc a) (enc b) = some (decide (a = b))
 bits : ∀ a, Instr.sameBits 10000 (enc a) (enc a) = true
def kStr : KC (List UInt8) where
 enc a := str a
 d := .string
 key _ := trivial
 same a b := by
  by_cases h : a = b
  ·subst h; simp [Instr.sameNow, str, MapKept.bytes_beq]
  ·have : ¬ ((⟨a.toArray⟩ : ByteArray) == ⟨b.toArray⟩) = true := fun e => by
    have e2 := (MapKept.bytes_beq _ _).1 e
    injection e2 with e2
    exact h (by simpa using congrArg Array.toList e2)
   simp [Instr.sameNow, str, h]
   exact Bool.eq_false_iff.2 this
 bits a := by simp [Instr.sameBits, str, MapKept.bytes_beq]
section
variable {κ β : Type} [DecidableEq κ]
def mget : List (κ × β) → κ → Option β
 | [], _ => none
 | (a, b) :: r, k => if k = a then some b else mget r k
def mput : List (κ × β) → κ → β → List (κ × β)
 | [], k, v => [(k, v)]
 | (a, b) :: r, k, v => if k = a then (k, v) :: r else (a, b) :: mput r k v
def Ents (kc : KC κ) (ev : β → Value) (m : List (κ × β)) (es : List MapEntry) : Prop := es.map (fun e => (e.key, e.val)) = m.map (fun p => (kc.enc p.1, ev p.2))
def MO.map (kc : KC κ) (ev : β → Value) (b : Nat) (m : List (κ × β)) : MO where
 inv C _ w := (∀ k, C k ↔ k = b) ∧ ∃ es clock, w.heap[b]? = some (.map es clock) ∧ Ents kc ev m es.toList
 lt h k hk := by rw [(h.1 k).1 hk]; obtain ⟨_, es, clock, h, _⟩ := h; exact (Array.getElem?_eq_some_iff.1 h).1
 sp h hc _ := ⟨h.1, by obtain ⟨h1, es, clock, h, k⟩ := h; exact ⟨es, clock, (hc b ((h1 b).2 rfl)).trans h, k⟩⟩
theorem find_none {kc : KC κ} {ev : β → Value} {k : κ} {m : List (κ × β)} {es : List MapEntry} (h : Ents kc ev m es) (hm : mget m k = none) (i : Nat) : Instr.findNow kc.d (kc.enc k) es i = some none ∧ ∀ v, mput m k v = m ++ [(k, v)] := by
 induction m generalizing es i with
 | nil => cases es with
  | nil => exact ⟨rfl, fun v => rfl⟩
  | cons e es => simp [Ents] at h
 | cons p m ih => cases es with
  | nil => simp [Ents] at h
  | cons e es =>
   obtain ⟨a, b⟩ := p
   simp only [Ents, List.map_cons, List.cons.injEq, Prod.mk.injEq] at h
   obtain ⟨⟨h1, _⟩, h3⟩ := h
   unfold mget at hm
   by_cases hk : k = a
   ·rw [if_pos hk] at hm; cases hm
   ·rw [if_neg hk] at hm
    obtain ⟨q1, q2⟩ := ih h3 hm (i + 1)
    refine ⟨?_, fun v => ?_⟩
    ·unfold Instr.findNow
     rw [h1, kc.same, decide_eq_false hk]; exact q1
    ·unfold mput
     rw [if_neg hk, q2]; rfl
theorem find_some {kc : KC κ} {ev : β → Value} {k : κ} {m : List (κ × β)} {es : List MapEntry} {v0 : β} (h : Ents kc ev m es) (hm : mget m k = some v0) (i : Nat) :
  ∃ j e, Instr.findNow kc.d (kc.enc k) es i = some (some (i + j, ev v0)) ∧ es[j]? = some e ∧ e.key = kc.enc k ∧ ∀ v, Ents kc ev (mput m k v) (es.modify j fun e => { e with key := kc.enc k, val := ev v }) := by
 induction m generalizing es i with
 | nil => simp [mget] at hm
 | cons p m ih => cases es with
  | nil => simp [Ents] at h
  | cons e es =>
   obtain ⟨a, b⟩ := p
   simp only [Ents, List.map_cons, List.cons.injEq, Prod.mk.injEq] at h
   obtain ⟨⟨h1, h2⟩, h3⟩ := h
   unfold mget at hm
   by_cases hk : k = a
   ·rw [if_pos hk] at hm
    have := some_inj hm; subst this; subst hk
    refine ⟨0, e, ?_, rfl, h1, fun v => ?_⟩
    ·unfold Instr.findNow
     rw [h1, kc.same, decide_eq_true rfl]; simp [h2]
    ·unfold mput
     rw [if_pos rfl]
     simp only [Ents, List.map_cons, List.modify_zero_cons, List.cons.injEq]
     exact ⟨trivial, h3⟩
   ·rw [if_neg hk] at hm
    obtain ⟨j, e', q1, q2, q3, q4⟩ := ih h3 hm (i + 1)
    refine ⟨j + 1, e', ?_, by simpa using q2, q3, fun v => ?_⟩
    ·unfold Instr.findNow
     rw [h1, kc.same, decide_eq_false hk, q1]; simp; omega
    ·unfold mput
     rw [if_neg hk]
     have := q4 v
     simp only [Ents, List.map_cons, List.modify_succ_cons, List.cons.injEq, Prod.mk.injEq] at this ⊢
     exact ⟨⟨h1, h2⟩, this⟩
end
section
variable {κ β : Type} [DecidableEq κ] {kc : KC κ} {ev : β → Value} {m : List (κ × β)}
variable {P : Program} {ro : Option Nat} {n : Fr} {Kn : Act → World → Prop} {Ke : Nat → Act → World → Prop} {Kr : Act → World → Prop} {env : Env} {w : World}
variable {ops : Array Oper} {rest : List Oper} {rs : Tr} {fl : Fl} {o : Oper} {i d : Nat} {v : Value} {x y z : Operand} {t kt et : TypeId} {md : Bool} {X : List Nat}
variable {C0 F C : NP} {w0 : World} {os : List MO} {cl : List Cl} {f : MO → List MO} {b : Nat}
theorem Bun.newMap (kc : KC κ) (ev : β → Value) (h : Bun C0 F w0 C w os cl) : ∃ C', (∀ md, Sp (DM md F C) w (DM md F C') (w.alloc (.map #[] 0))) ∧ Bun C0 F w0 C' (w.alloc (.map #[] 0)) (MO.map kc ev w.heap.size [] :: os) cl :=
 h.new (b := w.heap.size) (Ext.alloc _) rfl (by simp) fun D _ => ⟨fun _ => Iff.rfl, #[], 0, heap_alloc_new w _, rfl⟩
theorem Bun.mapAt (h : Bun C0 F w0 C w os cl) (ha : At os (MO.map kc ev b m) f) : ∃ es clock, w.heap[b]? = some (.map es clock) ∧ Ents kc ev m es.toList := by
 obtain ⟨C1, h1, _⟩ := h.look ha; exact h1.2
theorem run_mlookup {z0 : β} (h : Bun C0 F w0 C w os cl) (ha : At os (MO.map kc ev b m) f) (ht : P.underlying t = some (.map kt et)) (hk : P.underlying kt = some kc.d) (hz : ((P.info? et).bind (·.zero)) = some (ev z0)) (k : κ) :
  ∀ w', w'.heap[b]? = w.heap[b]? → (Instr.lookup t (.map (some b)) (kc.enc k) false).run P w' = .ok (ev ((mget m k).getD z0)) w' := fun w' he => by
 obtain ⟨es, clock, h1, h2⟩ := h.mapAt ha
 rw [← he] at h1
 obtain ⟨i0, hi0, hz⟩ := Option.bind_eq_some_iff.1 hz
 unfold Instr.lookup
 simp only [Sem.run_bind, run_underlying ht, Result.andThen, MapKept.run_getObj_map h1, Sem.run_pure, MapKept.run_checkKey (n := 9999) hk (kc.key k)]
 cases hm : mget m k with
 | none => simp [MapKept.run_findKey hk (find_none h2 hm 0).1, Result.andThen, zeroValue, typeInfo, hi0, hz]
 | some v0 =>
  obtain ⟨j, e, q1, _⟩ := find_some h2 hm 0
  simp [MapKept.run_findKey hk q1, Result.andThen]
theorem Bun.putMap (h : Bun C0 F w0 C w os cl) (ha : At os (MO.map kc ev b m) f) (ht : P.underlying t = some (.map kt et)) (hk : P.underlying kt = some kc.d) (k : κ) (v : β) :
  ∃ C' w', (Instr.mapUpdate t (.map (some b)) (kc.enc k) (ev v)).run P w = .ok () w' ∧ Sp (Dj F C) w (Dj F C') w' ∧ Bun C0 F w0 C' w' (f (MO.map kc ev b (mput m k v))) cl := by
 obtain ⟨C1, h1, h2, h3⟩ := h.turn ha
 obtain ⟨hC, es, clock, hb, he⟩ := h1
 have hlt : b < w.heap.size := (Array.getElem?_eq_some_iff.1 hb).1
 have put : ∀ o' : Obj, (∃ es clock, o' = .map es clock ∧ Ents kc ev (mput m k v) es.toList) → ∃ C' , Sp (Dj F C) w (Dj F C') (w.putObj b o') ∧ Bun C0 F w0 C' (w.putObj b o') (f (MO.map kc ev b (mput m k v))) cl := fun o' ho => by
  obtain ⟨C', h4, h5⟩ := h3 (w.putObj b o') C1 ⟨rfl, rfl, rfl, by simp, fun k hk hn => ⟨World.putObj_heap_other fun e => hn ((hC k).2 e), hn⟩, fun k hk => by rw [(hC k).1 hk]; simpa using hlt⟩
  obtain ⟨es', c', rfl, k'⟩ := ho
  exact ⟨C', h4, h5 (MO.map kc ev b (mput m k v)) ⟨hC, es', c', World.putObj_heap_same hlt, k'⟩⟩
 cases hm : mget m k with
 | none =>
  obtain ⟨q1, q2⟩ := find_none he hm 0
  obtain ⟨C', h4, h5⟩ := put (.map (es.push { key := kc.enc k, val := ev v, born := clock }) (clock + 1)) ⟨_, _, rfl, by
   rw [q2]; unfold Ents at he ⊢; simp [he]⟩
  refine ⟨C', _, ?_, h4, h5⟩
  unfold Instr.mapUpdate
  simp only [Sem.run_bind, run_underlying ht, Result.andThen, MapKept.run_getObj_map hb, MapKept.run_checkKey (n := 9999) hk (kc.key k), MapKept.run_findKey hk q1, MapKept.run_setObj_map _ hb]
  rfl
 | some v0 =>
  obtain ⟨j, e, q1, q2, q3, q4⟩ := find_some he hm 0
  obtain ⟨C', h4, h5⟩ := put (.map (es.modify j fun e => { e with key := kc.enc k, val := ev v }) clock) ⟨_, _, rfl, by
   rw [Array.toList_modify]; exact q4 v⟩
  refine ⟨C', _, ?_, h4, h5⟩
  have q2' : es[j]? = some e := by simpa using q2
  unfold Instr.mapUpdate
  simp only [Sem.run_bind, run_underlying ht, Result.andThen, MapKept.run_getObj_map hb, MapKept.run_checkKey (n := 9999) hk (kc.key k), MapKept.run_findKey hk q1]
  simp [Instr.keyThatStays, q2', q3, kc.bits, MapKept.run_setObj_map _ hb, Result.andThen]
  rfl
theorem Bun.mlk {z0 : β} (h : Bun C0 F w0 C w os cl) (ha : At os (MO.map kc ev b m) f) (ht : P.underlying t = some (.map kt et)) (hk : P.underlying kt = some kc.d) (hz : ((P.info? et).bind (·.zero)) = some (ev z0)) (k : κ) :
  (Instr.lookup t (.map (some b)) (kc.enc k) false).run P w = .ok (ev ((mget m k).getD z0)) w := run_mlookup h ha ht hk hz k w rfl
theorem y_lookup {u k : Value} (ho : o.op = .lookup t x y false) (hx : Ev n env x u) (hy : Ev n env y k) (hr : (Instr.lookup t u k false).run P w = .ok v w) : Yld P n env o v w := fun a ha => by
 simp [execOp, ho, hx a ha, hy a ha, hr]
theorem l_makeMap (kc : KC κ) (ev : β → Value) (hI : Bun C0 F w0 C w os cl) (hg : Grd n env ops o true) (hd : o.dst = some d) (ho : o.op = .makeMap t none)
  (h : ∀ b C' w', Bun C0 F w0 C' w' (MO.map kc ev b [] :: os) cl → SeqW P ro n ops Kn Ke Kr rest ((d, .map (some b)) :: env) w') : SeqW P ro n ops Kn Ke Kr (o :: rest) env w := by
 obtain ⟨C', _, h2⟩ := hI.newMap kc ev
 exact s_val hg hd (fun a ha => by simp only [execOp, ho]; rfl) (h _ _ _ h2)
theorem l_mapUpdate {k : κ} {u : β} (hI : Bun C0 F w0 C w os cl) (ha : At os (MO.map kc ev b m) f) (hg : Grd n env ops o true) (hd : o.dst = none) (ho : o.op = .mapUpdate t x y z) (hx : Ev n env x (.map (some b))) (hy : Ev n env y (kc.enc k)) (hz : Ev n env z (ev u)) (ht : P.underlying t = some (.map kt et)) (hk : P.underlying kt = some kc.d)
  (h : ∀ C' w', Bun C0 F w0 C' w' (f (MO.map kc ev b (mput m k u))) cl → SeqW P ro n ops Kn Ke Kr rest env w') : SeqW P ro n ops Kn Ke Kr (o :: rest) env w := by
 obtain ⟨C', w', h1, _, h2⟩ := hI.putMap ha ht hk k u
 exact s_skip hg hd (fun a ha => by simp only [execOp, ho, hx a ha, hy a ha, hz a ha, Sem.run_bind, h1, Result.andThen_ok, Sem.run_pure]) (h _ _ h2)
end
end Go.Vc
