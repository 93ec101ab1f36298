import Derived.Test.YtnehbaocbcegpaaDoorSLfM
namespace Go.Vc
open Go Go.RowKit
section
variable {P : Program} {ro : Option Nat} {n : Fr} {Kn : Act → World → Prop} {Ke : Nat → Act → World → Prop} {Kr : Act → World → Prop} {env : Env} {w : World}
variable {ops : Array Oper} {rest : List Oper} {rs : Tr} {fl : Fl} {o : Oper} {i d : Nat} {v : Value} {x y z : Operand} {t t' e : TypeId} {md : Bool} {X : List Nat}
variable {C0 F C : NP} {w0 : World} {os os' : List MO} {cl : List Cl} {f : MO → List MO} {b N : Nat} {T : TypeId} {α : Type} {enc : α → Value} {xs ys : List α} {c : Cod α} {A A2 : Option Addr}
theorem rels_one {D : NP} (hc : ∀ D w u, c.rel D w u [enc u]) : ∀ xs : List α, Rels c D w xs (xs.map fun u => [enc u])
 | [] => trivial
 | _ :: r => ⟨hc _ _ _, rels_one hc r⟩
theorem flat_one : ∀ xs : List α, (xs.map fun u => [enc u]).flatten = xs.map enc
 | [] => rfl
 | u :: r => by simp [flat_one r]
theorem Bun.appendX {c2 bytes : Nat} {zv : Value} {zs : List α} (hI : Bun C0 F w0 C w os cl) (ha : At os (MO.row c e none 0 []) f) (hd : Rd c (Dj F C) w A2 ys) (hz : lapp [] ys = some zs) (ht : P.underlying t = some (.slice e)) (hi : Info P e c.n bytes zv) (hsz : Nat.ble 1 c.n = true) (hby : Nat.ble bytes 32768 = true) (ty : TypeId) :
  ∃ A' cap' C' w', (Builtin.append_ #[t, t] ty #[.slice none 0 0, .slice A2 ys.length c2]).run P w = .ok (.slice A' zs.length cap') w' ∧ (∀ md, Sp (DM md F C) w (DM md F C') w') ∧ Bun C0 F w0 C' w' (f (MO.row c e A' cap' zs)) cl := by
 obtain ⟨h0, rfl⟩ := lapp_some hz
 obtain ⟨C1, h1, h2, h3⟩ := hI.turn ha
 have he : ∀ k, ¬ C1 k := fun k hk => by
  rcases h1 with ⟨_, _, h⟩ | ⟨_, _, _, h⟩
  ·exact h k hk
  ·have := (h k).1 hk; cases this
 obtain ⟨A', cap', w', C1', k1, k2, k3⟩ := run_append_any (c2 := c2) ht hi (Nat.le_of_ble_eq_true hsz) (Nat.le_of_ble_eq_true hby) ty h1 (fun k hk => absurd hk (he k)) hd h0
 obtain ⟨C', h4, h5⟩ := h3 w' C1' k2
 refine ⟨A', cap', C', w', k1, fun md => ?_, h5 _ (k3 _ h4)⟩
 cases md
 ·exact ⟨k2.size, fun k hk hn => ⟨(k2.keep k hk (he k)).1, hn⟩⟩
 ·exact h4
theorem la_appendX {c2 bytes : Nat} {zv : Value} {zs : List α} (hI : Bun C0 F w0 C w os cl) (ha : At os (MO.row c e none 0 []) f) (hd : Rd c (Dj F C) w A2 ys) (hz : lapp [] ys = some zs) (hix : ops[i]? = some o) (hg : Grd n env ops o true) (hdst : o.dst = some d)
  (ho : o.op = .call { callee := .builtin .append, args := #[x, y], argTypes := #[t, t] }) (ht : P.underlying t = some (.slice e)) (hi : Info P e c.n bytes zv) (hsz : Nat.ble 1 c.n = true) (hby : Nat.ble bytes 32768 = true) (hx : Ev n env x (.slice none 0 0)) (hy : Ev n env y (.slice A2 ys.length c2))
  (h : ∀ A' cap' C' w', Bun C0 F w0 C' w' (f (MO.row c e A' cap' zs)) cl → AnyW P ro n ops Kn Ke Kr (SN X (DM md F C') w') rs ((d, .slice A' zs.length cap') :: env) w') (hX : X.contains i = false := by rfl) (hfl : fl.solo = true := by rfl) : AnyW P ro n ops Kn Ke Kr (SN X (DM md F C) w) (.c (i, fl) rs) env w := by
 obtain ⟨A', cap', C', w', h1, h2, h3⟩ := hI.appendX (c2 := c2) ha hd hz ht hi hsz hby o.type
 refine a_val (hfl := hfl) (S := SN X (DM md F C) w) hix hg hdst (w' := w') (fun a ha => ?_) ⟨_, h2 md⟩ (a_re (h2 md) (h _ _ _ _ h3)) hX
 unfold execOp
 simp only [ho, resolve, invoke, builtin, Sem.run_bind, Sem.run_pure, Result.andThen_ok, List.map_toArray, List.map_cons, List.map_nil, hx a ha, hy a ha, h1]
end
end Go.Vc
