import Derived.Test.YtmhoikfoogemnaaGreatDoorSLfS
import Derived.MapKept
namespace Go.Vc
open Go Go.RowKit
structure KC (κ : Type) [DecidableEq κ] where
 enc : κ → Value
 d : TypeDesc
 key : ∀ a, MapKept.IsKey d (enc a)
 same : ∀ a b, Instr.sameNow d (enc a) (enc b) = some (decide (a = b))
 bits : ∀ a, Instr.sameBits 10000 (enc a) (enc a) = true
section
variable {κ β : Type} [DecidableEq κ]
end
section
variable {κ β : Type} [DecidableEq κ] {kc : KC κ} {ev : β → Value} {m : List (κ × β)}
variable {P : Program} {ro : Ro} {n : Fr} {Kn : Act → World → Prop} {Ke : Nat → Act → World → Prop} {Kr : Act → World → Prop} {env : Env} {w : World}
variable {ops : Array Oper} {rest : List Oper} {rs : Tr} {fl : Fl} {o : Oper} {i d : Nat} {v : Value} {x y z : Operand} {t kt et : TypeId} {md : Bool} {X : List Nat}
variable {C0 F C : NP} {w0 : World} {os : List MO} {cl : List Cl} {f : MO → List MO} {b : Nat}
end
end Go.Vc
namespace Go.Vc
open Go Go.RowKit
section
variable {P : Program} {ro : Ro} {n : Fr} {Kn : Act → World → Prop} {Ke : Nat → Act → World → Prop} {Kr : Act → World → Prop} {env : Env} {w : World}
variable {ops : Array Oper} {rest : List Oper} {rs : Tr} {fl : Fl} {o : Oper} {i d : Nat} {v : Value} {x y z : Operand} {t t' e : TypeId} {md : Bool} {X : List Nat}
variable {C0 F C : NP} {w0 : World} {os os' : List MO} {cl : List Cl} {f : MO → List MO} {b N : Nat} {T : TypeId} {α : Type} {enc : α → Value} {xs ys : List α} {c : Cod α} {A A2 : Option Addr}
theorem rels_one {D : NP} (hc : ∀ D w u, c.rel D w u [enc u]) : ∀ xs : List α, Rels c D w xs (xs.map fun u => [enc u])
 | [] => trivial
 | _ :: r => ⟨hc _ _ _, rels_one hc r⟩
theorem flat_one : ∀ xs : List α, (xs.map fun u => [enc u]).flatten = xs.map enc
 | [] => rfl
 | u :: r => by simp [flat_one r]
end
end Go.Vc
namespace Go.Vc
open Go Go.RowKit
section
variable {P : Program} {ro : Ro} {n : Fr} {Kn : Act → World → Prop} {Ke : Nat → Act → World → Prop} {Kr : Act → World → Prop} {env : Env} {w : World}
variable {ops : Array Oper} {o : Oper} {i d : Nat} {v : Value} {S : Sn} {rest : Tr}
theorem a_phaseT {S2 : World → Prop} (hx : S.x.contains i = true) (hw : S2 w) (hin : Nat.blt i ops.size = true) (h : AnyW P ro n ops Kn Ke Kr ⟨[], S2⟩ (.c (i, .t) rest) env w) : AnyW P ro n ops Kn Ke Kr S (.c (i, .t) rest) env w := fun a listed h1 h2 _ ha _ => by
 have h4 : Turn P ro.r ops (mkQ ro Kn Ke Kr) i (fun a' w' => Sn.f ⟨[], S2⟩ (listed.setIfInBounds i true) w' ∧ Any P ro.r ops (mkQ ro Kn Ke Kr) (Sn.f ⟨[], S2⟩) rest.len (listed.setIfInBounds i true) a' w') a w := h a listed h1 h2 rfl ha hw
 show Turn P ro.r ops (mkQ ro Kn Ke Kr) i (fun a' w' => S.f (listed.setIfInBounds i true) w' ∧ Any P ro.r ops (mkQ ro Kn Ke Kr) S.f rest.len (listed.setIfInBounds i true) a' w') a w
 simp only [canonOK, Bool.and_eq_true] at h2
 have hj : i ∈ Region.ready .any ops listed := by simpa using h2.1.1
 have hun := (mem_ready.1 hj).1
 have hlt : i < listed.size := by
  rcases Nat.lt_or_ge i listed.size with h' | h'
  ·exact h'
  ·simp [Array.getElem?_eq_none h'] at hun
 have _ := hin
 refine wpOpIn_mono (fun a' w' ⟨_, h5⟩ => ?_) h4
 have hmem : i ∈ S.x := by simpa using hx
 have key : ∀ l : Array Bool, l.getD i false = true → ∀ w, ¬ S.free l ∨ S.f l w := fun l hl w => .inl fun hfr => by
  unfold Sn.free at hfr
  rw [List.any_eq_false] at hfr
  exact hfr i hmem hl
 have hset : (listed.setIfInBounds i true).getD i false = true := by simp [hlt]
 refine ⟨fun hfr => absurd hfr ((key _ hset w').elim id fun h6 => fun hfr => by unfold Sn.free at hfr; rw [List.any_eq_false] at hfr; exact hfr i hmem hset), ?_⟩
 refine any_le (fun l => l.getD i false = true) (fun l i' hl => ?_) (fun l w hl _ hfr => ?_) _ _ _ _ hset h5
 ·by_cases e : i' = i
  ·subst e
   have : i' < l.size := by
    rcases Nat.lt_or_ge i' l.size with h' | h'
    ·exact h'
    ·simp [Array.getElem?_eq_none h'] at hl
   simp [this]
  ·simp only [Array.getD_eq_getD_getElem?] at hl ⊢
   rw [Array.getElem?_setIfInBounds_ne e]; exact hl
 ·unfold Sn.free at hfr; rw [List.any_eq_false] at hfr; exact absurd hl (hfr i hmem)
theorem a_turnT {F C D : NP} {X : List Nat} (hx : X.contains i = true) (hin : Nat.blt i ops.size = true) (h : AnyW P ro n ops Kn Ke Kr (SN [] (DM true F C) w) (.c (i, .t) rest) env w) : AnyW P ro n ops Kn Ke Kr (SN X D w) (.c (i, .t) rest) env w :=
 a_phaseT (S := SN X D w) (S2 := SX (DM true F C) w) hx SX.self hin h
end
section
variable {P : Program} {ro : Ro} {n : Fr} {Kn : Act → World → Prop} {Ke : Nat → Act → World → Prop} {Kr : Act → World → Prop} {env : Env} {w : World}
variable {ops : Array Oper} {rest : List Oper} {rs : Tr} {fl : Fl} {o : Oper} {i d : Nat} {v u : Value} {x y z : Operand} {t t' e : TypeId} {md : Bool} {X : List Nat}
variable {C0 F C : NP} {w0 : World} {os : List MO} {cl : List Cl} {f : MO → List MO} {α : Type} {c : Cod α} {A A2 : Option Addr} {xs ys : List α}
theorem s_gcallS {β : Type} [Inhabited β] {g : FuncId} {args : Array Value} {b : Bool} (V : β → Value) (Ψ : β → World → Prop) (hg : Grd n env ops o b) (hd : o.dst = some d) (hr : b = true → Runs P n env o w (.ok (.enter g args) w))
  (hc : b = true → Calls P g args w fun e w' => ∃ x, e = .returned (V x) ∧ Ext w w' ∧ Ψ x w')
  (h : ∀ x w', Ext w w' → (b = true → Ψ x w') → SeqW P ro n ops Kn Ke Kr rest ((d, gv b (V x)) :: env) w') : SeqW P ro n ops Kn Ke Kr (o :: rest) env w :=
 s_gcall (fun u w' => ∃ x, u = V x ∧ Ext w w' ∧ Ψ x w') hg hd hr (fun hb => (hc hb).mono fun e w' ⟨x, h1, h2⟩ => ⟨V x, h1, x, rfl, h2⟩) fun u w' h1 h2 => by
  cases b with
  | true => obtain ⟨x, rfl, hx, hp⟩ := h1 rfl; exact h x w' hx fun _ => hp
  | false => rw [h2 rfl]; exact h default w .rfl' fun hb => by cases hb
end
end Go.Vc
