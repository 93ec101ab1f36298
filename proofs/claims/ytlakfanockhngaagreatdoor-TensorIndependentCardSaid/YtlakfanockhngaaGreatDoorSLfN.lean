import Derived.Test.YtlakfanockhngaaGreatDoorSLfM
namespace Go.Vc
open Go Go.RowKit
def MO.arr {α : Type} (b : Nat) (T : TypeId) (enc : α → Value) (N : Nat) (xs : List α) : MO where
 inv C _ w := (∀ k, C k ↔ k = b) ∧ Blk w b T (xs.map enc).toArray ∧ xs.length = N
 lt h k hk := by rw [(h.1 k).1 hk]; exact h.2.1.lt
 sp h hc _ := ⟨h.1, (hc b ((h.1 b).2 rfl)).trans h.2.1, h.2.2⟩
section
variable {P : Program} {ro : Option Nat} {n : Fr} {Kn : Act → World → Prop} {Ke : Nat → Act → World → Prop} {Kr : Act → World → Prop} {env : Env} {w : World}
variable {ops : Array Oper} {rest : List Oper} {rs : Tr} {fl : Fl} {o : Oper} {i d : Nat} {v : Value} {x y z : Operand} {t t' e : TypeId} {md : Bool} {X : List Nat}
variable {C0 F C : NP} {w0 : World} {os os' : List MO} {cl : List Cl} {f : MO → List MO} {b N : Nat} {T : TypeId} {α : Type} {enc : α → Value} {xs ys : List α} {c : Cod α} {A A2 : Option Addr}
theorem run_equalInNil {m cap : Nat} (k : Nat) (ht : P.underlying t = some (.slice e)) : (Op.equalIn (k + 1) t (.slice A m cap) (.slice none 0 0)).run P w = .ok A.isNone w := by
 unfold Op.equalIn
 simp only [Sem.run_bind, run_underlying ht, Result.andThen]
 cases A <;> rfl
theorem run_eqnil {m cap : Nat} (ht : P.underlying t = some (.slice e)) : (binOp .eql t (.slice A m cap) (.slice none 0 0)).run P w = .ok (.bool A.isNone) w := by
 have h : (Op.equal t (.slice A m cap) (.slice none 0 0)).run P w = .ok A.isNone w := run_equalInNil 9999 ht
 simp [binOp, h]
theorem y_eqnil {m cap : Nat} (ho : o.op = .binOp .eql t x y t') (hx : Ev n env x (.slice A m cap)) (hy : Ev n env y (.slice none 0 0)) (ht : P.underlying t = some (.slice e)) : Yld P n env o (.bool A.isNone) w := y_bin ho hx hy (run_eqnil ht) (by simp [go_sem])
theorem Bun.nilEmpty {cap : Nat} (h : Bun C0 F w0 C w os cl) (hi : In cl (Cl.sl c A cap xs)) (ha : A.isNone = true) : xs = [] := by
 rcases xs with _ | ⟨a, r⟩
 ·rfl
 ·obtain ⟨ad, h1, _⟩ := (h.get hi).2 (by simp)
  rw [h1] at ha; cases ha
theorem rels_one {D : NP} (hc : ∀ D w u, c.rel D w u [enc u]) : ∀ xs : List α, Rels c D w xs (xs.map fun u => [enc u])
 | [] => trivial
 | _ :: r => ⟨hc _ _ _, rels_one hc r⟩
theorem flat_one : ∀ xs : List α, (xs.map fun u => [enc u]).flatten = xs.map enc
 | [] => rfl
 | u :: r => by simp [flat_one r]
theorem Bun.toArr {cs : Array Value} (h : Bun C0 F w0 C w os cl) (ha : At os (MO.box b T cs) f) (hcs : cs = (xs.map enc).toArray) (hl : xs.length = N) : ∃ C', (∀ md, Sp (DM md F C) w (DM md F C') w) ∧ Bun C0 F w0 C' w (f (MO.arr b T enc N xs)) cl := by
 subst hcs
 obtain ⟨C1, h1, h2, h3⟩ := h.turn ha
 obtain ⟨C', h4, h5⟩ := h3 w C1 ⟨rfl, rfl, rfl, Nat.le_refl _, fun k hk hn => ⟨rfl, hn⟩, fun k hk => by rw [(h1.1 k).1 hk]; exact h1.2.lt⟩
 exact ⟨C', fun md => by cases md; exact Sp.of_ext .rfl'; exact h4, h5 (MO.arr b T enc N xs) ⟨h1.1, h1.2, hl⟩⟩
theorem Bun.arrBlk (h : Bun C0 F w0 C w os cl) (ha : At os (MO.arr b T enc N xs) f) : Blk w b T (xs.map enc).toArray ∧ xs.length = N := by
 obtain ⟨C1, h1, _⟩ := h.look ha; exact h1.2
theorem Bun.arrLat {p : Int} {u : α} (h : Bun C0 F w0 C w os cl) (ha : At os (MO.arr b T enc N xs) f) (hx : lat xs p = some u) : CA noM w ⟨b, p.toNat, none⟩ [enc u] := by
 refine CA.blk (h.arrBlk ha).1 ?_
 have h1 := lat_get hx
 have hlt := (List.getElem?_eq_some_iff.1 h1)
 obtain ⟨hlt, he⟩ := hlt
 simp only [List.length_cons, List.length_nil]
 rw [← List.map_drop, ← List.map_take, List.drop_eq_getElem_cons hlt]
 simp [he]
theorem y_indexAddrN {k : IntKind} {p : Int} (ho : o.op = .indexAddr t x y) (hx : Ev n env x (.pointer (some ⟨b, 0, none⟩))) (hy : Ev n env y (.int k p)) (ht : P.underlying t = some (.array N e)) (hs : (P.info? e).map (·.size) = some 1) (hp : 0 ≤ p ∧ p < (N : Int)) : Yld P n env o (.pointer (some ⟨b, p.toNat, none⟩)) w := fun a ha => by
 obtain ⟨j, hj, hs⟩ := Option.map_eq_some_iff.1 hs
 simp only [execOp, ho, hx a ha, hy a ha]
 simp [Instr.indexAt, Instr.sureAddr, asIntOf, run_underlying ht, Result.andThen, hp, sizeOf, typeInfo, hj, hs, Addr.add_lit]
theorem Bun.setArr {p : Nat} {u : α} (h : Bun C0 F w0 C w os cl) (ha : At os (MO.arr b T enc N xs) f) : ∃ C', Sp (Dj F C) w (Dj F C') (w.setRow b ((xs.set p u).map enc).toArray) ∧ Bun C0 F w0 C' (w.setRow b ((xs.set p u).map enc).toArray) (f (MO.arr b T enc N (xs.set p u))) cl := by
 obtain ⟨C1, h1, h2, h3⟩ := h.turn ha
 obtain ⟨C', h4, h5⟩ := h3 (w.setRow b ((xs.set p u).map enc).toArray) C1 ⟨rfl, rfl, rfl, by simp, fun k hk hn => ⟨setRow_other w b k _ (fun e => hn ((h1.1 k).2 e)), hn⟩, fun k hk => by rw [(h1.1 k).1 hk]; simpa using h1.2.1.lt⟩
 exact ⟨C', h4, h5 (MO.arr b T enc N (xs.set p u)) ⟨h1.1, h1.2.1.setRow, by simpa using h1.2.2⟩⟩
theorem arr_set {p : Nat} {u : α} (hp : p < xs.length) : ((xs.map enc).toArray.toList.take p ++ [enc u] ++ (xs.map enc).toArray.toList.drop (p + [enc u].length)).toArray = ((xs.set p u).map enc).toArray := by
 congr 1
 simp only [List.length_cons, List.length_nil]
 rw [List.set_eq_take_append_cons_drop, if_pos hp]
 simp
theorem l_storeArr {p : Int} {u : α} (hI : Bun C0 F w0 C w os cl) (ha : At os (MO.arr b T enc N xs) f) (hp : 0 ≤ p ∧ p < (N : Int)) (hc : (enc u).cells.toList = [enc u]) (h1 : [enc u].all (·.oneCell') = true) (hg : Grd n env ops o true) (hd : o.dst = none) (ho : o.op = .store t x y) (hx : Ev n env x (.pointer (some ⟨b, p.toNat, none⟩))) (hy : Ev n env y (enc u)) (hs : (P.info? t).map (·.size) = some 1)
  (h : ∀ C' w', Bun C0 F w0 C' w' (f (MO.arr b T enc N (xs.set p.toNat u))) cl → SeqW P ro n ops Kn Ke Kr rest env w') : SeqW P ro n ops Kn Ke Kr (o :: rest) env w := by
 obtain ⟨C', _, h2⟩ := hI.setArr (p := p.toNat) (u := u) ha
 have hb := hI.arrBlk ha
 exact s_skip hg hd (r_store ho hx hy hc hs hb.1 h1 (by simp only [List.length_cons, List.length_nil, List.size_toArray, List.length_map]; rw [Nat.ble_eq]; omega) (arr_set (by omega))) (h _ _ h2)
theorem y_sliceArr {k : IntKind} {q : Int} (ho : o.op = .slice t x none (some z) none) (hx : Ev n env x (.pointer (some ⟨b, 0, none⟩))) (hz : Ev n env z (.int k q)) (ht : P.underlying t = some (.array N e)) (hs : (P.info? e).map (·.size) = some 1) (hq : 0 ≤ q ∧ q ≤ (N : Int)) : Yld P n env o (.slice (some ⟨b, 0, none⟩) q.toNat N) w := fun a ha => by
 obtain ⟨j, hj, _⟩ := Option.map_eq_some_iff.1 hs
 simp only [execOp, ho, hx a ha, hz a ha, Option.map]
 simp [Instr.sliceAt, Instr.sureAddr, Instr.sliceBounds, Instr.sliceBound, asIntOf, run_underlying ht, Result.andThen, hq, sizeOf, typeInfo, hj, Addr.add_zero']
theorem y_sliceArrU {k : IntKind} {q : Int} {zs : List α} (ho : o.op = .slice t x none (some z) none) (hx : Ev n env x (.pointer (some ⟨b, 0, none⟩))) (hz : Ev n env z (.int k q)) (ht : P.underlying t = some (.array N e)) (hs : (P.info? e).map (·.size) = some 1) (hl : xs.length = N) (hq : lupto xs q = some zs) : Yld P n env o (.slice (some ⟨b, 0, none⟩) zs.length N) w := by
 obtain ⟨h0, rfl⟩ := lupto_some hq
 have := y_sliceArr (w := w) ho hx hz ht hs (by omega)
 rwa [show (xs.take q.toNat).length = q.toNat by rw [List.length_take]; omega]
theorem Bun.relArr (h : Bun C0 F w0 C w os cl) (hr : Rm os (MO.arr b T enc N xs) os') (hc : ∀ D w u, c.rel D w u [enc u]) : ∃ C', Bun C0 F w0 C' w os' (Cl.sl c (some ⟨b, 0, none⟩) N xs :: cl) := by
 obtain ⟨C1, h1, h2, h3⟩ := h.mo.rm hr
 have hless : Sp (Dj F C) w (Dj F fun k => C k ∧ ¬ C1 k) w := Sp.less fun k hk => hk.imp id And.left
 refine ⟨fun k => C k ∧ ¬ C1 k, ⟨h.st.os, h.st.tape, h.st.output, h.st.size, fun k hk hn => ⟨(h.st.keep k hk hn).1, fun h' => (h.st.keep k hk hn).2 h'.1⟩, fun k hk => h.st.lt k hk.1⟩, h3.sp (fun _ _ _ => rfl) hless, ⟨?_, h.cl.sp hless⟩, fun k hk hc => h.dj k hk hc.1, h.fl⟩
 refine ⟨Nat.le_of_eq h1.2.2, fun _ => ⟨_, rfl, h1.2.1.lt, ?_, xs.map (fun u => [enc u]), ?_, ?_⟩⟩
 ·rintro (hf | hc)
  ·exact h.dj b hf (h2 b ((h1.1 b).2 rfl))
  ·exact hc.2 ((h1.1 b).2 rfl)
 ·exact rels_one hc xs
 ·rw [flat_one xs]
  exact CellsAt.of_blk h1.2.1 (by rw [List.drop_zero]; exact List.take_length)
theorem Bun.appendX {c2 bytes : Nat} {zv : Value} {zs : List α} (hI : Bun C0 F w0 C w os cl) (ha : At os (MO.row c e none 0 []) f) (hd : Rd c (Dj F C) w A2 ys) (hz : lapp [] ys = some zs) (ht : P.underlying t = some (.slice e)) (hi : Info P e c.n bytes zv) (hsz : Nat.ble 1 c.n = true) (hby : Nat.ble bytes 32768 = true) (ty : TypeId) :
  ∃ A' cap' C' w', (Builtin.append_ #[t, t] ty #[.slice none 0 0, .slice A2 ys.length c2]).run P w = .ok (.slice A' zs.length cap') w' ∧ (∀ md, Sp (DM md F C) w (DM md F C') w') ∧ Bun C0 F w0 C' w' (f (MO.row c e A' cap' zs)) cl := by
 obtain ⟨h0, rfl⟩ := lapp_some hz
 obtain ⟨C1, h1, h2, h3⟩ := hI.turn ha
 have he : ∀ k, ¬ C1 k := fun k hk => by
  rcases h1 with ⟨_, _, h⟩ | ⟨_, _, _, h⟩
  ·exact h k hk
  ·have := (h k).1 hk; cases this
 obtain ⟨A', cap', w', C1', k1, k2, k3⟩ := run_append_any (c2 := c2) ht hi (Nat.le_of_ble_eq_true hsz) (Nat.le_of_ble_eq_true hby) ty h1 (fun k hk => absurd hk (he k)) hd h0
 obtain ⟨C', h4, h5⟩ := h3 w' C1' k2
 refine ⟨A', cap', C', w', k1, fun md => ?_, h5 _ (k3 _ h4)⟩
 cases md
 ·exact ⟨k2.size, fun k hk hn => ⟨(k2.keep k hk (he k)).1, hn⟩⟩
 ·exact h4
theorem la_appendX {c2 bytes : Nat} {zv : Value} {zs : List α} (hI : Bun C0 F w0 C w os cl) (ha : At os (MO.row c e none 0 []) f) (hd : Rd c (Dj F C) w A2 ys) (hz : lapp [] ys = some zs) (hix : ops[i]? = some o) (hg : Grd n env ops o true) (hdst : o.dst = some d)
  (ho : o.op = .call { callee := .builtin .append, args := #[x, y], argTypes := #[t, t] }) (ht : P.underlying t = some (.slice e)) (hi : Info P e c.n bytes zv) (hsz : Nat.ble 1 c.n = true) (hby : Nat.ble bytes 32768 = true) (hx : Ev n env x (.slice none 0 0)) (hy : Ev n env y (.slice A2 ys.length c2))
  (h : ∀ A' cap' C' w', Bun C0 F w0 C' w' (f (MO.row c e A' cap' zs)) cl → AnyW P ro n ops Kn Ke Kr (SN X (DM md F C') w') rs ((d, .slice A' zs.length cap') :: env) w') (hX : X.contains i = false := by rfl) (hfl : fl.solo = true := by rfl) : AnyW P ro n ops Kn Ke Kr (SN X (DM md F C) w) (.c (i, fl) rs) env w := by
 obtain ⟨A', cap', C', w', h1, h2, h3⟩ := hI.appendX (c2 := c2) ha hd hz ht hi hsz hby o.type
 refine a_val (hfl := hfl) (S := SN X (DM md F C) w) hix hg hdst (w' := w') (fun a ha => ?_) ⟨_, h2 md⟩ (a_re (h2 md) (h _ _ _ _ h3)) hX
 unfold execOp
 simp only [ho, resolve, invoke, builtin, Sem.run_bind, Sem.run_pure, Result.andThen_ok, List.map_toArray, List.map_cons, List.map_nil, hx a ha, hy a ha, h1]
end
end Go.Vc
