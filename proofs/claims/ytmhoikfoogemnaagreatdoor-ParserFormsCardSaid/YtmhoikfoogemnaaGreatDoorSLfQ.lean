import Derived.Test.YtmhoikfoogemnaaGreatDoorSLfP
namespace Go.Vc
open Go Go.RowKit
abbrev vi (x : Int) : Value := .int .i64 x
abbrev vs (A : Option Addr) (n c : Nat) : Value := .slice A n c
abbrev vb (b : Bool) : Value := .bool b
abbrev vp (b k : Nat) : Value := .pointer (some ⟨b, k, none⟩)
section
variable {P : Program} {ro : Ro} {n : Fr} {Kn : Act → World → Prop} {Ke : Nat → Act → World → Prop} {Kr : Act → World → Prop} {env : Env} {w : World}
variable {ops : Array Oper} {rest : List Oper} {rs : Tr} {fl : Fl} {o : Oper} {i d t : Nat} {v : Value} {S : Sn}
theorem et (h : look env t = some v := by rfl) (ht : Nat.blt t n.n = true := by rfl) : Ev n env (.tmp t) v := ev_tmp h ht
theorem gn {ops : Array Oper} (hg : o.guard = none := by rfl) : Grd n env ops o true := grd_none hg
theorem sq (hr : Yld P n env o v w) (h : SeqW P ro n ops Kn Ke Kr rest ((d, v) :: env) w) (hg : o.guard = none := by rfl) (hd : o.dst = some d := by rfl) : SeqW P ro n ops Kn Ke Kr (o :: rest) env w := s_q (grd_none hg) hd hr h
theorem enterK {f : FuncId} {fn : Func} {c : Code} {l : List Value} {m : Nat} {K : Ending → World → Prop} (hf : P.funcs[f]? = some fn) (hb : fn.body = some c) (hn : fn.ntmps = m) (hl : Nat.ble l.length m = true)
  (h : CodeW P .plain ⟨m, []⟩ c (RetQ P fn fun v w => K (.returned v) w) (fun _ _ _ => False) (RetQ P fn fun v w => K (.returned v) w) (argEnv 0 l) w) : Calls P f l.toArray w K :=
 ofEnter (enter hf hb hn hl h) fun _ _ h => h
theorem k_same {c : Code} (h : CodeW P ro n c Kn Ke Kr env w) : ∀ a, Has n a env → Code.wpIn (FW ro.r) 0 P c (mkQ ro Kn Ke Kr) a w := fun a ha => h a ha
variable {ops' : Array Oper} {Kn' : Act → World → Prop} {Ke' : Nat → Act → World → Prop} {Kr' : Act → World → Prop}
theorem nk {c : Code} (h : CodeW P ro n c Kn' Ke' Kr' env w) : SeqW P ro n ops (fun a w => Code.wpIn (FW ro.r) 0 P c (mkQ ro Kn' Ke' Kr') a w) Ke Kr [] env w := s_nil (k_same h)
theorem sr {y : Code} {id : Nat} {l : List Oper} (h : SeqW P ro n l.toArray (fun a w => Code.wpIn (FW ro.r) 0 P y (mkQ ro Kn Ke Kr) a w) Ke Kr l env w) (hn : l.all noDefer = true := by rfl) : CodeW P ro n (.seq (.region id l.toArray false) y) Kn Ke Kr env w := c_seq (c_region hn h)
theorem sm (h : SeqW P ro n ops Kn Ke Kr rest ((d, v) :: env) w) (ho : o.op = .move (.tmp t) := by rfl) (hl : look env t = some v := by rfl) (ht : Nat.blt t n.n = true := by rfl) (hg : o.guard = none := by rfl) (hd : o.dst = some d := by rfl) : SeqW P ro n ops Kn Ke Kr (o :: rest) env w := s_q (grd_none hg) hd (y_move ho (ev_tmp hl ht)) h
theorem sa (h : SeqW P ro n ops Kn Ke Kr rest ((d, v) :: env) w) (ho : o.op = .assign (.tmp t) := by rfl) (hl : look env t = some v := by rfl) (ht : Nat.blt t n.n = true := by rfl) (hg : o.guard = none := by rfl) (hd : o.dst = some d := by rfl) : SeqW P ro n ops Kn Ke Kr (o :: rest) env w := s_q (grd_none hg) hd (y_assign ho (ev_tmp hl ht)) h
theorem sac {v : Value} (h : SeqW P ro n ops Kn Ke Kr rest ((d, v) :: env) w) (ho : o.op = .assign (.const v) := by rfl) (hg : o.guard = none := by rfl) (hd : o.dst = some d := by rfl) : SeqW P ro n ops Kn Ke Kr (o :: rest) env w := s_q (grd_none hg) hd (y_assign ho ev_const) h
end
section
variable {α : Type} {c : Cod α} {e : TypeId} {A : Option Addr} {m cap : Nat} {xs : List α} {C0 F C : NP} {w0 w : World} {os : List MO} {cl : List Cl} {f : MO → List MO}
variable {P : Program} {ro : Ro} {n : Fr} {Kn : Act → World → Prop} {Ke : Nat → Act → World → Prop} {Kr : Act → World → Prop} {env : Env}
variable {ops : Array Oper} {rs : Tr} {fl : Fl} {o : Oper} {i d t te : Nat} {v u : Value} {x fx : Operand} {ys : List Operand} {args : List Value} {ts : Array TypeId} {X : List Nat} {md : Bool}
end
section
variable {C0 F C C' : NP} {w0 w w' : World} {os os' : List MO} {cl cl' : List Cl}
variable {P : Program} {ro : Ro} {n : Fr} {Kn : Act → World → Prop} {Ke : Nat → Act → World → Prop} {Kr : Act → World → Prop} {env : Env} {ops : Array Oper} {rs : Tr} {X : List Nat} {md : Bool}
end
end Go.Vc
