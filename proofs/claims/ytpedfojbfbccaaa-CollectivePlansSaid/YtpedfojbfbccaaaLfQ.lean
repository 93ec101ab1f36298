/- Short names for what the printed proofs say over and over. -/
import Derived.Test.YtpedfojbfbccaaaLfP
namespace Go.Vc
open Go Go.RowKit
abbrev vi (x : Int) : Value := .int .i64 x
abbrev vs (A : Option Addr) (n c : Nat) : Value := .slice A n c
abbrev vb (b : Bool) : Value := .bool b
abbrev vp (b k : Nat) : Value := .pointer (some ⟨b, k, none⟩)
section
variable {P : Program} {ro : Option Nat} {n : Fr} {Kn : Act → World → Prop} {Ke : Nat → Act → World → Prop} {Kr : Act → World → Prop} {env : Env} {w : World}
variable {ops : Array Oper} {rest : List Oper} {rs : Tr} {fl : Fl} {o : Oper} {i d t : Nat} {v : Value} {S : Sn}
theorem et (h : look env t = some v := by rfl) (ht : Nat.blt t n.n = true := by rfl) : Ev n env (.tmp t) v := ev_tmp h ht
theorem gn {ops : Array Oper} (hg : o.guard = none := by rfl) : Grd n env ops o true := grd_none hg
theorem sq (hr : Yld P n env o v w) (h : SeqW P ro n ops Kn Ke Kr rest ((d, v) :: env) w) (hg : o.guard = none := by rfl) (hd : o.dst = some d := by rfl) : SeqW P ro n ops Kn Ke Kr (o :: rest) env w := s_q (grd_none hg) hd hr h
theorem enterK {f : FuncId} {fn : Func} {c : Code} {l : List Value} {m : Nat} {K : Ending → World → Prop} (hf : P.funcs[f]? = some fn) (hb : fn.body = some c) (hn : fn.ntmps = m) (hl : Nat.ble l.length m = true)
    (h : CodeW P none ⟨m, []⟩ c (RetQ P fn fun v w => K (.returned v) w) (fun _ _ _ => False) (RetQ P fn fun v w => K (.returned v) w) (argEnv 0 l) w) : Calls P f l.toArray w K :=
  ofEnter (enter hf hb hn hl h) fun _ _ h => h
theorem k_same {c : Code} (h : CodeW P ro n c Kn Ke Kr env w) : ∀ a, Has n a env → Code.wpIn (FW ro) 0 P c (mkQ Kn Ke Kr) a w := fun a ha => h a ha
end
end Go.Vc
