import Derived.Test.YtmhoikfoogemnaaGreatDoorSXc
import Derived.Test.YtmhoikfoogemnaaGreatDoorSLfW
namespace Go.Proofs.YtmhoikfoogemnaaGreatDoor
open Go Go.RowKit Go.Vc
set_option maxRecDepth 100000
set_option maxHeartbeats 4000000
set_option linter.unusedVariables false
set_option linter.unusedSimpArgs false
theorem cif {P : Program} {ro : Ro} {n : Fr} {Kn : Act → World → Prop} {Ke : Nat → Act → World → Prop} {Kr : Act → World → Prop} {env : Env} {w : World} {c : Operand} {x y : Code} {b : Bool} {β : Type} {p q : Option β} {r : β} (h : (if b = true then p else q) = some r) (hc : Ev n env c (.bool b)) (ht : b = true → p = some r → CodeW P ro n x Kn Ke Kr env w) (hf : b = false → q = some r → CodeW P ro n y Kn Ke Kr env w) : CodeW P ro n (.cond c x y) Kn Ke Kr env w := c_cond hc (fun hb => ht hb (ite_t hb h)) (fun hb => hf hb (ite_f hb h))
theorem fq {F C : NP} {w0 w : World} {os : List MO} {cl cl' : List Cl} {e : Ending} (h : Bun noM F w0 C w os cl) (hs : Subs cl cl') : e = e ∧ Ext w0 w ∧ AllCl cl' F w := ⟨rfl, h.ext0, h.fin hs⟩
abbrev lToken (x : GToken) : List Value := [vi x.Kind, vi x.At, str x.Text]
abbrev Aparser_reader (x : Gparser_reader) (A1 : Option Addr) (C1 : Nat) : Array Value := #[vs A1 x.l.length C1, vi x.at_, vi x.deep]
abbrev lMono (x : GMono) : List Value := [str x.Name, vi x.By]
abbrev AMono (x : GMono) : Array Value := #[str x.Name, vi x.By]
abbrev lLin (x : GLin) (A1 : Option Addr) (C1 : Nat) : List Value := [vi x.K, vs A1 x.L.length C1]
abbrev ALin (x : GLin) (A1 : Option Addr) (C1 : Nat) : Array Value := #[vi x.K, vs A1 x.L.length C1]
abbrev lType (x : GType) : List Value := [vi x.Kind, vi x.Bits, vi x.Frac, vi x.Round, vi x.Over]
abbrev AType (x : GType) : Array Value := #[vi x.Kind, vi x.Bits, vi x.Frac, vi x.Round, vi x.Over]
abbrev ZType : Array Value := #[vi 0, vi 0, vi 0, vi 0, vi 0]
abbrev lVal (x : GVal) : List Value := [vi x.N, vi x.D]
abbrev AVal (x : GVal) : Array Value := #[vi x.N, vi x.D]
abbrev lIndex (x : GIndex) (A1 : Option Addr) (C1 : Nat) (A2 : Option Addr) (C2 : Nat) : List Value := [vi x.Lin.K, vs A1 x.Lin.L.length C1, str x.From, vs A2 x.At.length C2]
abbrev AIndex (x : GIndex) (A1 : Option Addr) (C1 : Nat) (A2 : Option Addr) (C2 : Nat) : Array Value := #[vi x.Lin.K, vs A1 x.Lin.L.length C1, str x.From, vs A2 x.At.length C2]
abbrev lExpr (x : GExpr) (A1 : Option Addr) (C1 : Nat) (A2 : Option Addr) (C2 : Nat) (A3 : Option Addr) (C3 : Nat) : List Value := [vi x.Op, str x.Name, vi x.Val.N, vi x.Val.D, vi x.Type_.Kind, vi x.Type_.Bits, vi x.Type_.Frac, vi x.Type_.Round, vi x.Type_.Over, vi x.Lin.K, vs A1 x.Lin.L.length C1, vs A2 x.Idx.length C2, vs A3 x.Args.length C3]
abbrev AExpr (x : GExpr) (A1 : Option Addr) (C1 : Nat) (A2 : Option Addr) (C2 : Nat) (A3 : Option Addr) (C3 : Nat) : Array Value := #[vi x.Op, str x.Name, vi x.Val.N, vi x.Val.D, vi x.Type_.Kind, vi x.Type_.Bits, vi x.Type_.Frac, vi x.Type_.Round, vi x.Type_.Over, vi x.Lin.K, vs A1 x.Lin.L.length C1, vs A2 x.Idx.length C2, vs A3 x.Args.length C3]
abbrev lbrocaderef16_State (x : Gbrocaderef16_State) (A1 : Option Addr) (C1 : Nat) : List Value := [vs A1 x.L.length C1, vi x.At, vi x.Deep, vi x.E, vi x.Pos]
abbrev Abrocaderef16_State (x : Gbrocaderef16_State) (A1 : Option Addr) (C1 : Nat) : Array Value := #[vs A1 x.L.length C1, vi x.At, vi x.Deep, vi x.E, vi x.Pos]
abbrev Zbrocaderef16_State : Array Value := #[vs none 0 0, vi 0, vi 0, vi 0, vi 0]
abbrev u3 := @Tryz.underlying3
abbrev u4 := @Tryz.underlying4
abbrev u9 := @Tryz.underlying9
abbrev u22 := @Tryz.underlying22
abbrev u25 := @Tryz.underlying25
abbrev u27 := @Tryz.underlying27
abbrev u28 := @Tryz.underlying28
abbrev u33 := @Tryz.underlying33
abbrev u35 := @Tryz.underlying35
abbrev u36 := @Tryz.underlying36
abbrev u37 := @Tryz.underlying37
abbrev u39 := @Tryz.underlying39
abbrev u50 := @Tryz.underlying50
abbrev u64 := @Tryz.underlying64
abbrev u65 := @Tryz.underlying65
abbrev u67 := @Tryz.underlying67
abbrev u72 := @Tryz.underlying72
abbrev u93 := @Tryz.underlying93
abbrev u114 := @Tryz.underlying114
abbrev u123 := @Tryz.underlying123
abbrev u132 := @Tryz.underlying132
theorem stood_33 : Tryz.prog.stoodInHeld 33 = false := by kernel_rfl
theorem eqstruct_33n (a0 b0 : Int) (a1 b1 : Int) (w : World) : (binOp .neq 33 (.agg #[(Value.int .i64 a0), (Value.int .i64 a1)]) (.agg #[(Value.int .i64 b0), (Value.int .i64 b1)])).run Tryz.prog w = .ok (.bool (!((decide (a0 = b0)) && (decide (a1 = b1))))) w := by
  simp [go_sem, stood_33, Tryz.underlying33, eq_dec_int, eq_dec_str]
  all_goals (by_cases h0 : a0 = b0 <;> by_cases h1 : a1 = b1 <;> simp [h0, h1])
theorem eqguard_33 (op : BinOp) (x y : Operand) (xs ys : Array Value) (w : World) : (eqGuard op 33 x y (.agg xs) (.agg ys)).run Tryz.prog w = .ok () w := run_eqGuard_agg w op 33 x y xs ys (by kernel_rfl)
theorem stood_35 : Tryz.prog.stoodInHeld 35 = false := by kernel_rfl
theorem eqstruct_35 (a0 b0 : Int) (a1 b1 : Int) (a2 b2 : Int) (a3 b3 : Int) (a4 b4 : Int) (w : World) : (binOp .eql 35 (.agg #[(Value.int .i64 a0), (Value.int .i64 a1), (Value.int .i64 a2), (Value.int .i64 a3), (Value.int .i64 a4)]) (.agg #[(Value.int .i64 b0), (Value.int .i64 b1), (Value.int .i64 b2), (Value.int .i64 b3), (Value.int .i64 b4)])).run Tryz.prog w = .ok (.bool ((decide (a0 = b0)) && (decide (a1 = b1)) && (decide (a2 = b2)) && (decide (a3 = b3)) && (decide (a4 = b4)))) w := by
  simp [go_sem, stood_35, Tryz.underlying35, eq_dec_int, eq_dec_str]
  all_goals (by_cases h0 : a0 = b0 <;> by_cases h1 : a1 = b1 <;> by_cases h2 : a2 = b2 <;> by_cases h3 : a3 = b3 <;> by_cases h4 : a4 = b4 <;> simp [h0, h1, h2, h3, h4])
theorem eqstruct_35n (a0 b0 : Int) (a1 b1 : Int) (a2 b2 : Int) (a3 b3 : Int) (a4 b4 : Int) (w : World) : (binOp .neq 35 (.agg #[(Value.int .i64 a0), (Value.int .i64 a1), (Value.int .i64 a2), (Value.int .i64 a3), (Value.int .i64 a4)]) (.agg #[(Value.int .i64 b0), (Value.int .i64 b1), (Value.int .i64 b2), (Value.int .i64 b3), (Value.int .i64 b4)])).run Tryz.prog w = .ok (.bool (!((decide (a0 = b0)) && (decide (a1 = b1)) && (decide (a2 = b2)) && (decide (a3 = b3)) && (decide (a4 = b4))))) w := by
  simp [go_sem, stood_35, Tryz.underlying35, eq_dec_int, eq_dec_str]
  all_goals (by_cases h0 : a0 = b0 <;> by_cases h1 : a1 = b1 <;> by_cases h2 : a2 = b2 <;> by_cases h3 : a3 = b3 <;> by_cases h4 : a4 = b4 <;> simp [h0, h1, h2, h3, h4])
theorem eqguard_35 (op : BinOp) (x y : Operand) (xs ys : Array Value) (w : World) : (eqGuard op 35 x y (.agg xs) (.agg ys)).run Tryz.prog w = .ok () w := run_eqGuard_agg w op 35 x y xs ys (by kernel_rfl)
theorem stood_64 : Tryz.prog.stoodInHeld 64 = false := by kernel_rfl
theorem eqstruct_64n (a0 b0 : List UInt8) (a1 b1 : Int) (w : World) : (binOp .neq 64 (.agg #[(str a0), (Value.int .i64 a1)]) (.agg #[(str b0), (Value.int .i64 b1)])).run Tryz.prog w = .ok (.bool (!((decide (a0 = b0)) && (decide (a1 = b1))))) w := by
  simp [go_sem, stood_64, Tryz.underlying64, eq_dec_int, eq_dec_str]
  all_goals (by_cases h0 : a0 = b0 <;> by_cases h1 : a1 = b1 <;> simp [h0, h1])
theorem eqguard_64 (op : BinOp) (x y : Operand) (xs ys : Array Value) (w : World) : (eqGuard op 64 x y (.agg xs) (.agg ys)).run Tryz.prog w = .ok () w := run_eqGuard_agg w op 64 x y xs ys (by kernel_rfl)
theorem info_132 : Info Tryz.prog 132 4 72 (Value.agg #[(Value.int .i64 0), (Value.slice none 0 0), (str ([] : List UInt8)), (Value.slice none 0 0)]) := info_mk (by kernel_rfl) rfl
theorem info_27 : Info Tryz.prog 27 2 32 (Value.agg #[(Value.int .i64 0), (Value.slice none 0 0)]) := info_mk (by kernel_rfl) rfl
theorem info_3 : Info Tryz.prog 3 1 8 (Value.int .i64 0) := info_mk (by kernel_rfl) rfl
theorem info_39 : Info Tryz.prog 39 13 160 (Value.agg #[(Value.int .i64 0), (str ([] : List UInt8)), (Value.int .i64 0), (Value.int .i64 0), (Value.int .i64 0), (Value.int .i64 0), (Value.int .i64 0), (Value.int .i64 0), (Value.int .i64 0), (Value.int .i64 0), (Value.slice none 0 0), (Value.slice none 0 0), (Value.slice none 0 0)]) := info_mk (by kernel_rfl) rfl
theorem info_62 : Info Tryz.prog 62 3 32 (Value.agg #[(Value.int .i64 0), (Value.int .i64 0), (str ([] : List UInt8))]) := info_mk (by kernel_rfl) rfl
theorem info_64 : Info Tryz.prog 64 2 24 (Value.agg #[(str ([] : List UInt8)), (Value.int .i64 0)]) := info_mk (by kernel_rfl) rfl
theorem info_9 : Info Tryz.prog 9 1 16 (str ([] : List UInt8)) := info_mk (by kernel_rfl) rfl
theorem ok_10 : FnOK Tryz.prog 10 := ⟨_, Tryz.func10, by kernel_rfl, by kernel_rfl⟩
theorem ok_103 : FnOK Tryz.prog 103 := ⟨_, Tryz.func103, by kernel_rfl, by kernel_rfl⟩
theorem ok_104 : FnOK Tryz.prog 104 := ⟨_, Tryz.func104, by kernel_rfl, by kernel_rfl⟩
theorem ok_11 : FnOK Tryz.prog 11 := ⟨_, Tryz.func11, by kernel_rfl, by kernel_rfl⟩
theorem ok_114 : FnOK Tryz.prog 114 := ⟨_, Tryz.func114, by kernel_rfl, by kernel_rfl⟩
theorem ok_115 : FnOK Tryz.prog 115 := ⟨_, Tryz.func115, by kernel_rfl, by kernel_rfl⟩
theorem ok_116 : FnOK Tryz.prog 116 := ⟨_, Tryz.func116, by kernel_rfl, by kernel_rfl⟩
theorem ok_12 : FnOK Tryz.prog 12 := ⟨_, Tryz.func12, by kernel_rfl, by kernel_rfl⟩
theorem ok_121 : FnOK Tryz.prog 121 := ⟨_, Tryz.func121, by kernel_rfl, by kernel_rfl⟩
theorem ok_122 : FnOK Tryz.prog 122 := ⟨_, Tryz.func122, by kernel_rfl, by kernel_rfl⟩
theorem ok_123 : FnOK Tryz.prog 123 := ⟨_, Tryz.func123, by kernel_rfl, by kernel_rfl⟩
theorem ok_124 : FnOK Tryz.prog 124 := ⟨_, Tryz.func124, by kernel_rfl, by kernel_rfl⟩
theorem ok_125 : FnOK Tryz.prog 125 := ⟨_, Tryz.func125, by kernel_rfl, by kernel_rfl⟩
theorem ok_126 : FnOK Tryz.prog 126 := ⟨_, Tryz.func126, by kernel_rfl, by kernel_rfl⟩
theorem ok_127 : FnOK Tryz.prog 127 := ⟨_, Tryz.func127, by kernel_rfl, by kernel_rfl⟩
theorem ok_128 : FnOK Tryz.prog 128 := ⟨_, Tryz.func128, by kernel_rfl, by kernel_rfl⟩
theorem ok_129 : FnOK Tryz.prog 129 := ⟨_, Tryz.func129, by kernel_rfl, by kernel_rfl⟩
theorem ok_13 : FnOK Tryz.prog 13 := ⟨_, Tryz.func13, by kernel_rfl, by kernel_rfl⟩
theorem ok_130 : FnOK Tryz.prog 130 := ⟨_, Tryz.func130, by kernel_rfl, by kernel_rfl⟩
theorem ok_131 : FnOK Tryz.prog 131 := ⟨_, Tryz.func131, by kernel_rfl, by kernel_rfl⟩
theorem ok_132 : FnOK Tryz.prog 132 := ⟨_, Tryz.func132, by kernel_rfl, by kernel_rfl⟩
theorem ok_133 : FnOK Tryz.prog 133 := ⟨_, Tryz.func133, by kernel_rfl, by kernel_rfl⟩
theorem ok_134 : FnOK Tryz.prog 134 := ⟨_, Tryz.func134, by kernel_rfl, by kernel_rfl⟩
theorem ok_135 : FnOK Tryz.prog 135 := ⟨_, Tryz.func135, by kernel_rfl, by kernel_rfl⟩
theorem ok_136 : FnOK Tryz.prog 136 := ⟨_, Tryz.func136, by kernel_rfl, by kernel_rfl⟩
theorem ok_137 : FnOK Tryz.prog 137 := ⟨_, Tryz.func137, by kernel_rfl, by kernel_rfl⟩
theorem ok_138 : FnOK Tryz.prog 138 := ⟨_, Tryz.func138, by kernel_rfl, by kernel_rfl⟩
theorem ok_139 : FnOK Tryz.prog 139 := ⟨_, Tryz.func139, by kernel_rfl, by kernel_rfl⟩
theorem ok_14 : FnOK Tryz.prog 14 := ⟨_, Tryz.func14, by kernel_rfl, by kernel_rfl⟩
theorem ok_140 : FnOK Tryz.prog 140 := ⟨_, Tryz.func140, by kernel_rfl, by kernel_rfl⟩
theorem ok_141 : FnOK Tryz.prog 141 := ⟨_, Tryz.func141, by kernel_rfl, by kernel_rfl⟩
theorem ok_142 : FnOK Tryz.prog 142 := ⟨_, Tryz.func142, by kernel_rfl, by kernel_rfl⟩
theorem ok_143 : FnOK Tryz.prog 143 := ⟨_, Tryz.func143, by kernel_rfl, by kernel_rfl⟩
theorem ok_144 : FnOK Tryz.prog 144 := ⟨_, Tryz.func144, by kernel_rfl, by kernel_rfl⟩
theorem ok_145 : FnOK Tryz.prog 145 := ⟨_, Tryz.func145, by kernel_rfl, by kernel_rfl⟩
theorem ok_146 : FnOK Tryz.prog 146 := ⟨_, Tryz.func146, by kernel_rfl, by kernel_rfl⟩
theorem ok_147 : FnOK Tryz.prog 147 := ⟨_, Tryz.func147, by kernel_rfl, by kernel_rfl⟩
theorem ok_148 : FnOK Tryz.prog 148 := ⟨_, Tryz.func148, by kernel_rfl, by kernel_rfl⟩
theorem ok_149 : FnOK Tryz.prog 149 := ⟨_, Tryz.func149, by kernel_rfl, by kernel_rfl⟩
theorem ok_15 : FnOK Tryz.prog 15 := ⟨_, Tryz.func15, by kernel_rfl, by kernel_rfl⟩
theorem ok_153 : FnOK Tryz.prog 153 := ⟨_, Tryz.func153, by kernel_rfl, by kernel_rfl⟩
theorem ok_154 : FnOK Tryz.prog 154 := ⟨_, Tryz.func154, by kernel_rfl, by kernel_rfl⟩
theorem ok_155 : FnOK Tryz.prog 155 := ⟨_, Tryz.func155, by kernel_rfl, by kernel_rfl⟩
theorem ok_156 : FnOK Tryz.prog 156 := ⟨_, Tryz.func156, by kernel_rfl, by kernel_rfl⟩
theorem ok_157 : FnOK Tryz.prog 157 := ⟨_, Tryz.func157, by kernel_rfl, by kernel_rfl⟩
theorem ok_158 : FnOK Tryz.prog 158 := ⟨_, Tryz.func158, by kernel_rfl, by kernel_rfl⟩
theorem ok_159 : FnOK Tryz.prog 159 := ⟨_, Tryz.func159, by kernel_rfl, by kernel_rfl⟩
theorem ok_170 : FnOK Tryz.prog 170 := ⟨_, Tryz.func170, by kernel_rfl, by kernel_rfl⟩
theorem ok_174 : FnOK Tryz.prog 174 := ⟨_, Tryz.func174, by kernel_rfl, by kernel_rfl⟩
theorem ok_175 : FnOK Tryz.prog 175 := ⟨_, Tryz.func175, by kernel_rfl, by kernel_rfl⟩
theorem ok_18 : FnOK Tryz.prog 18 := ⟨_, Tryz.func18, by kernel_rfl, by kernel_rfl⟩
theorem ok_184 : FnOK Tryz.prog 184 := ⟨_, Tryz.func184, by kernel_rfl, by kernel_rfl⟩
theorem ok_185 : FnOK Tryz.prog 185 := ⟨_, Tryz.func185, by kernel_rfl, by kernel_rfl⟩
theorem ok_186 : FnOK Tryz.prog 186 := ⟨_, Tryz.func186, by kernel_rfl, by kernel_rfl⟩
theorem ok_187 : FnOK Tryz.prog 187 := ⟨_, Tryz.func187, by kernel_rfl, by kernel_rfl⟩
theorem ok_188 : FnOK Tryz.prog 188 := ⟨_, Tryz.func188, by kernel_rfl, by kernel_rfl⟩
theorem ok_189 : FnOK Tryz.prog 189 := ⟨_, Tryz.func189, by kernel_rfl, by kernel_rfl⟩
theorem ok_190 : FnOK Tryz.prog 190 := ⟨_, Tryz.func190, by kernel_rfl, by kernel_rfl⟩
theorem ok_191 : FnOK Tryz.prog 191 := ⟨_, Tryz.func191, by kernel_rfl, by kernel_rfl⟩
theorem ok_192 : FnOK Tryz.prog 192 := ⟨_, Tryz.func192, by kernel_rfl, by kernel_rfl⟩
theorem ok_193 : FnOK Tryz.prog 193 := ⟨_, Tryz.func193, by kernel_rfl, by kernel_rfl⟩
theorem ok_194 : FnOK Tryz.prog 194 := ⟨_, Tryz.func194, by kernel_rfl, by kernel_rfl⟩
theorem ok_195 : FnOK Tryz.prog 195 := ⟨_, Tryz.func195, by kernel_rfl, by kernel_rfl⟩
theorem ok_196 : FnOK Tryz.prog 196 := ⟨_, Tryz.func196, by kernel_rfl, by kernel_rfl⟩
theorem ok_197 : FnOK Tryz.prog 197 := ⟨_, Tryz.func197, by kernel_rfl, by kernel_rfl⟩
theorem ok_198 : FnOK Tryz.prog 198 := ⟨_, Tryz.func198, by kernel_rfl, by kernel_rfl⟩
theorem ok_199 : FnOK Tryz.prog 199 := ⟨_, Tryz.func199, by kernel_rfl, by kernel_rfl⟩
theorem ok_200 : FnOK Tryz.prog 200 := ⟨_, Tryz.func200, by kernel_rfl, by kernel_rfl⟩
theorem ok_201 : FnOK Tryz.prog 201 := ⟨_, Tryz.func201, by kernel_rfl, by kernel_rfl⟩
theorem ok_202 : FnOK Tryz.prog 202 := ⟨_, Tryz.func202, by kernel_rfl, by kernel_rfl⟩
theorem ok_203 : FnOK Tryz.prog 203 := ⟨_, Tryz.func203, by kernel_rfl, by kernel_rfl⟩
theorem ok_204 : FnOK Tryz.prog 204 := ⟨_, Tryz.func204, by kernel_rfl, by kernel_rfl⟩
theorem ok_205 : FnOK Tryz.prog 205 := ⟨_, Tryz.func205, by kernel_rfl, by kernel_rfl⟩
theorem ok_206 : FnOK Tryz.prog 206 := ⟨_, Tryz.func206, by kernel_rfl, by kernel_rfl⟩
theorem ok_207 : FnOK Tryz.prog 207 := ⟨_, Tryz.func207, by kernel_rfl, by kernel_rfl⟩
theorem ok_208 : FnOK Tryz.prog 208 := ⟨_, Tryz.func208, by kernel_rfl, by kernel_rfl⟩
theorem ok_219 : FnOK Tryz.prog 219 := ⟨_, Tryz.func219, by kernel_rfl, by kernel_rfl⟩
theorem ok_22 : FnOK Tryz.prog 22 := ⟨_, Tryz.func22, by kernel_rfl, by kernel_rfl⟩
theorem ok_221 : FnOK Tryz.prog 221 := ⟨_, Tryz.func221, by kernel_rfl, by kernel_rfl⟩
theorem ok_222 : FnOK Tryz.prog 222 := ⟨_, Tryz.func222, by kernel_rfl, by kernel_rfl⟩
theorem ok_223 : FnOK Tryz.prog 223 := ⟨_, Tryz.func223, by kernel_rfl, by kernel_rfl⟩
theorem ok_224 : FnOK Tryz.prog 224 := ⟨_, Tryz.func224, by kernel_rfl, by kernel_rfl⟩
theorem ok_225 : FnOK Tryz.prog 225 := ⟨_, Tryz.func225, by kernel_rfl, by kernel_rfl⟩
theorem ok_226 : FnOK Tryz.prog 226 := ⟨_, Tryz.func226, by kernel_rfl, by kernel_rfl⟩
theorem ok_227 : FnOK Tryz.prog 227 := ⟨_, Tryz.func227, by kernel_rfl, by kernel_rfl⟩
theorem ok_228 : FnOK Tryz.prog 228 := ⟨_, Tryz.func228, by kernel_rfl, by kernel_rfl⟩
theorem ok_229 : FnOK Tryz.prog 229 := ⟨_, Tryz.func229, by kernel_rfl, by kernel_rfl⟩
theorem ok_230 : FnOK Tryz.prog 230 := ⟨_, Tryz.func230, by kernel_rfl, by kernel_rfl⟩
theorem ok_231 : FnOK Tryz.prog 231 := ⟨_, Tryz.func231, by kernel_rfl, by kernel_rfl⟩
theorem ok_232 : FnOK Tryz.prog 232 := ⟨_, Tryz.func232, by kernel_rfl, by kernel_rfl⟩
theorem ok_233 : FnOK Tryz.prog 233 := ⟨_, Tryz.func233, by kernel_rfl, by kernel_rfl⟩
theorem ok_234 : FnOK Tryz.prog 234 := ⟨_, Tryz.func234, by kernel_rfl, by kernel_rfl⟩
theorem ok_235 : FnOK Tryz.prog 235 := ⟨_, Tryz.func235, by kernel_rfl, by kernel_rfl⟩
theorem ok_240 : FnOK Tryz.prog 240 := ⟨_, Tryz.func240, by kernel_rfl, by kernel_rfl⟩
theorem ok_241 : FnOK Tryz.prog 241 := ⟨_, Tryz.func241, by kernel_rfl, by kernel_rfl⟩
theorem ok_242 : FnOK Tryz.prog 242 := ⟨_, Tryz.func242, by kernel_rfl, by kernel_rfl⟩
theorem ok_243 : FnOK Tryz.prog 243 := ⟨_, Tryz.func243, by kernel_rfl, by kernel_rfl⟩
theorem ok_246 : FnOK Tryz.prog 246 := ⟨_, Tryz.func246, by kernel_rfl, by kernel_rfl⟩
theorem ok_247 : FnOK Tryz.prog 247 := ⟨_, Tryz.func247, by kernel_rfl, by kernel_rfl⟩
theorem ok_248 : FnOK Tryz.prog 248 := ⟨_, Tryz.func248, by kernel_rfl, by kernel_rfl⟩
theorem ok_253 : FnOK Tryz.prog 253 := ⟨_, Tryz.func253, by kernel_rfl, by kernel_rfl⟩
theorem ok_254 : FnOK Tryz.prog 254 := ⟨_, Tryz.func254, by kernel_rfl, by kernel_rfl⟩
theorem ok_255 : FnOK Tryz.prog 255 := ⟨_, Tryz.func255, by kernel_rfl, by kernel_rfl⟩
theorem ok_256 : FnOK Tryz.prog 256 := ⟨_, Tryz.func256, by kernel_rfl, by kernel_rfl⟩
theorem ok_257 : FnOK Tryz.prog 257 := ⟨_, Tryz.func257, by kernel_rfl, by kernel_rfl⟩
theorem ok_258 : FnOK Tryz.prog 258 := ⟨_, Tryz.func258, by kernel_rfl, by kernel_rfl⟩
theorem ok_260 : FnOK Tryz.prog 260 := ⟨_, Tryz.func260, by kernel_rfl, by kernel_rfl⟩
theorem ok_263 : FnOK Tryz.prog 263 := ⟨_, Tryz.func263, by kernel_rfl, by kernel_rfl⟩
theorem ok_264 : FnOK Tryz.prog 264 := ⟨_, Tryz.func264, by kernel_rfl, by kernel_rfl⟩
theorem ok_265 : FnOK Tryz.prog 265 := ⟨_, Tryz.func265, by kernel_rfl, by kernel_rfl⟩
theorem ok_266 : FnOK Tryz.prog 266 := ⟨_, Tryz.func266, by kernel_rfl, by kernel_rfl⟩
theorem ok_267 : FnOK Tryz.prog 267 := ⟨_, Tryz.func267, by kernel_rfl, by kernel_rfl⟩
theorem ok_268 : FnOK Tryz.prog 268 := ⟨_, Tryz.func268, by kernel_rfl, by kernel_rfl⟩
theorem ok_269 : FnOK Tryz.prog 269 := ⟨_, Tryz.func269, by kernel_rfl, by kernel_rfl⟩
theorem ok_270 : FnOK Tryz.prog 270 := ⟨_, Tryz.func270, by kernel_rfl, by kernel_rfl⟩
theorem ok_271 : FnOK Tryz.prog 271 := ⟨_, Tryz.func271, by kernel_rfl, by kernel_rfl⟩
theorem ok_272 : FnOK Tryz.prog 272 := ⟨_, Tryz.func272, by kernel_rfl, by kernel_rfl⟩
theorem ok_29 : FnOK Tryz.prog 29 := ⟨_, Tryz.func29, by kernel_rfl, by kernel_rfl⟩
theorem ok_30 : FnOK Tryz.prog 30 := ⟨_, Tryz.func30, by kernel_rfl, by kernel_rfl⟩
theorem ok_31 : FnOK Tryz.prog 31 := ⟨_, Tryz.func31, by kernel_rfl, by kernel_rfl⟩
theorem ok_32 : FnOK Tryz.prog 32 := ⟨_, Tryz.func32, by kernel_rfl, by kernel_rfl⟩
theorem ok_33 : FnOK Tryz.prog 33 := ⟨_, Tryz.func33, by kernel_rfl, by kernel_rfl⟩
theorem ok_34 : FnOK Tryz.prog 34 := ⟨_, Tryz.func34, by kernel_rfl, by kernel_rfl⟩
theorem ok_35 : FnOK Tryz.prog 35 := ⟨_, Tryz.func35, by kernel_rfl, by kernel_rfl⟩
theorem ok_39 : FnOK Tryz.prog 39 := ⟨_, Tryz.func39, by kernel_rfl, by kernel_rfl⟩
theorem ok_40 : FnOK Tryz.prog 40 := ⟨_, Tryz.func40, by kernel_rfl, by kernel_rfl⟩
theorem ok_41 : FnOK Tryz.prog 41 := ⟨_, Tryz.func41, by kernel_rfl, by kernel_rfl⟩
theorem ok_46 : FnOK Tryz.prog 46 := ⟨_, Tryz.func46, by kernel_rfl, by kernel_rfl⟩
theorem ok_47 : FnOK Tryz.prog 47 := ⟨_, Tryz.func47, by kernel_rfl, by kernel_rfl⟩
theorem ok_48 : FnOK Tryz.prog 48 := ⟨_, Tryz.func48, by kernel_rfl, by kernel_rfl⟩
theorem ok_61 : FnOK Tryz.prog 61 := ⟨_, Tryz.func61, by kernel_rfl, by kernel_rfl⟩
theorem ok_68 : FnOK Tryz.prog 68 := ⟨_, Tryz.func68, by kernel_rfl, by kernel_rfl⟩
theorem ok_69 : FnOK Tryz.prog 69 := ⟨_, Tryz.func69, by kernel_rfl, by kernel_rfl⟩
theorem ok_70 : FnOK Tryz.prog 70 := ⟨_, Tryz.func70, by kernel_rfl, by kernel_rfl⟩
theorem ok_71 : FnOK Tryz.prog 71 := ⟨_, Tryz.func71, by kernel_rfl, by kernel_rfl⟩
theorem ok_72 : FnOK Tryz.prog 72 := ⟨_, Tryz.func72, by kernel_rfl, by kernel_rfl⟩
theorem ok_73 : FnOK Tryz.prog 73 := ⟨_, Tryz.func73, by kernel_rfl, by kernel_rfl⟩
theorem ok_74 : FnOK Tryz.prog 74 := ⟨_, Tryz.func74, by kernel_rfl, by kernel_rfl⟩
theorem ok_75 : FnOK Tryz.prog 75 := ⟨_, Tryz.func75, by kernel_rfl, by kernel_rfl⟩
theorem ok_76 : FnOK Tryz.prog 76 := ⟨_, Tryz.func76, by kernel_rfl, by kernel_rfl⟩
theorem ok_77 : FnOK Tryz.prog 77 := ⟨_, Tryz.func77, by kernel_rfl, by kernel_rfl⟩
theorem ok_78 : FnOK Tryz.prog 78 := ⟨_, Tryz.func78, by kernel_rfl, by kernel_rfl⟩
theorem ok_79 : FnOK Tryz.prog 79 := ⟨_, Tryz.func79, by kernel_rfl, by kernel_rfl⟩
theorem ok_81 : FnOK Tryz.prog 81 := ⟨_, Tryz.func81, by kernel_rfl, by kernel_rfl⟩
theorem ok_83 : FnOK Tryz.prog 83 := ⟨_, Tryz.func83, by kernel_rfl, by kernel_rfl⟩
theorem ok_84 : FnOK Tryz.prog 84 := ⟨_, Tryz.func84, by kernel_rfl, by kernel_rfl⟩
theorem ok_94 : FnOK Tryz.prog 94 := ⟨_, Tryz.func94, by kernel_rfl, by kernel_rfl⟩
theorem ok_95 : FnOK Tryz.prog 95 := ⟨_, Tryz.func95, by kernel_rfl, by kernel_rfl⟩
theorem ok_96 : FnOK Tryz.prog 96 := ⟨_, Tryz.func96, by kernel_rfl, by kernel_rfl⟩
theorem ok_97 : FnOK Tryz.prog 97 := ⟨_, Tryz.func97, by kernel_rfl, by kernel_rfl⟩
theorem ok_98 : FnOK Tryz.prog 98 := ⟨_, Tryz.func98, by kernel_rfl, by kernel_rfl⟩
theorem size_132 : (Tryz.prog.info? 132).map (·.size) = some 4 := by kernel_rfl
theorem size_2 : (Tryz.prog.info? 2).map (·.size) = some 1 := by kernel_rfl
theorem size_25 : (Tryz.prog.info? 25).map (·.size) = some 1 := by kernel_rfl
theorem size_27 : (Tryz.prog.info? 27).map (·.size) = some 2 := by kernel_rfl
theorem size_28 : (Tryz.prog.info? 28).map (·.size) = some 1 := by kernel_rfl
theorem size_3 : (Tryz.prog.info? 3).map (·.size) = some 1 := by kernel_rfl
theorem size_33 : (Tryz.prog.info? 33).map (·.size) = some 2 := by kernel_rfl
theorem size_35 : (Tryz.prog.info? 35).map (·.size) = some 5 := by kernel_rfl
theorem size_36 : (Tryz.prog.info? 36).map (·.size) = some 1 := by kernel_rfl
theorem size_37 : (Tryz.prog.info? 37).map (·.size) = some 1 := by kernel_rfl
theorem size_39 : (Tryz.prog.info? 39).map (·.size) = some 13 := by kernel_rfl
theorem size_4 : (Tryz.prog.info? 4).map (·.size) = some 1 := by kernel_rfl
theorem size_64 : (Tryz.prog.info? 64).map (·.size) = some 2 := by kernel_rfl
theorem size_65 : (Tryz.prog.info? 65).map (·.size) = some 1 := by kernel_rfl
theorem size_72 : (Tryz.prog.info? 72).map (·.size) = some 5 := by kernel_rfl
theorem size_9 : (Tryz.prog.info? 9).map (·.size) = some 1 := by kernel_rfl
theorem size_93 : (Tryz.prog.info? 93).map (·.size) = some 1 := by kernel_rfl
theorem zero_132 : (Tryz.prog.info? 132).bind (·.zero) = some (Value.agg #[(Value.int .i64 0), (Value.slice none 0 0), (str ([] : List UInt8)), (Value.slice none 0 0)]) := by kernel_rfl
theorem zero_27 : (Tryz.prog.info? 27).bind (·.zero) = some (Value.agg #[(Value.int .i64 0), (Value.slice none 0 0)]) := by kernel_rfl
theorem zero_28 : (Tryz.prog.info? 28).bind (·.zero) = some (Value.int .i64 0) := by kernel_rfl
theorem zero_3 : (Tryz.prog.info? 3).bind (·.zero) = some (Value.int .i64 0) := by kernel_rfl
theorem zero_33 : (Tryz.prog.info? 33).bind (·.zero) = some (Value.agg #[(Value.int .i64 0), (Value.int .i64 0)]) := by kernel_rfl
theorem zero_35 : (Tryz.prog.info? 35).bind (·.zero) = some (Value.agg #[(Value.int .i64 0), (Value.int .i64 0), (Value.int .i64 0), (Value.int .i64 0), (Value.int .i64 0)]) := by kernel_rfl
theorem zero_39 : (Tryz.prog.info? 39).bind (·.zero) = some (Value.agg #[(Value.int .i64 0), (str ([] : List UInt8)), (Value.int .i64 0), (Value.int .i64 0), (Value.int .i64 0), (Value.int .i64 0), (Value.int .i64 0), (Value.int .i64 0), (Value.int .i64 0), (Value.int .i64 0), (Value.slice none 0 0), (Value.slice none 0 0), (Value.slice none 0 0)]) := by kernel_rfl
theorem zero_4 : (Tryz.prog.info? 4).bind (·.zero) = some (Value.bool false) := by kernel_rfl
theorem zero_64 : (Tryz.prog.info? 64).bind (·.zero) = some (Value.agg #[(str ([] : List UInt8)), (Value.int .i64 0)]) := by kernel_rfl
theorem zero_65 : (Tryz.prog.info? 65).bind (·.zero) = some (Value.pointer none) := by kernel_rfl
theorem zero_72 : (Tryz.prog.info? 72).bind (·.zero) = some (Value.agg #[(Value.slice none 0 0), (Value.int .i64 0), (Value.int .i64 0), (Value.int .i64 0), (Value.int .i64 0)]) := by kernel_rfl
theorem c_law16_few (F : NP) (w0 : World) (hF : ∀ k, F k → k < w0.heap.size) (l1 : List GToken) (most1 : Int) (a1 : Option Addr) (c1 : Nat) (hc : AllCl [Cl.sl cGToken a1 c1 l1] F w0) (r : Bool)
  (h : m_law16_few l1 most1 = some r) :
  Calls Tryz.prog 10 #[vs a1 l1.length c1, vi most1] w0 fun e w => e = .returned (vb r) ∧ Ext w0 w ∧ AllCl [] F w := by
 refine enterK Tryz.func10 rfl Tryz.ntmps10 rfl ?_
 have hI := Bun.start hF hc
 clear hc
 rw [m_law16_few] at h
 refine T ?_
 refine c_seq (T ?_)
 refine cif h et (fun hb h => ?_) (fun hb h => ?_)
 ·refine T ?_
  refine c_ret ?_
  obtain rfl := some_inj h
  exact QF hI
 refine T ?_
 refine c_seq (T ?_)
 refine c_loop (α := Nat × Int) (fun x => fun w => ∃ C, Bun noM F w0 C w [] [Cl.sl cGToken a1 c1 l1] ∧ m_law16_few_l1 l1 (x.1) (x.2) = some r) (fun x _ => x.1) (fun x => [(0, vs a1 l1.length c1), (5, vi (x.2))]) (fu, 0) ⟨_, hI.arr .n ⟨.z, trivial⟩, h⟩ SB ?_
 clear h hI; rintro ⟨fuel1, i1⟩ w1 ⟨c2, hI, h⟩
 dsimp only at hI h
 rcases fuel1 with _ | fuel1
 ·rw [m_law16_few_l1] at h; cases h
 rw [m_law16_few_l1] at h
 refine c_sub (e := [(0, vs a1 l1.length c1), (5, vi i1)]) SB ?_
 refine c_seq (T ?_)
 refine cif h et (fun hb h => ?_) (fun hb h => ?_)
 ·refine T ?_
  refine c_seq (T ?_)
  obtain ⟨e1, hx1, h⟩ := bnd_some h
  obtain ⟨ad1, cs1, hA1, hr1, hq1⟩ := hI.clat .z hx1
  obtain rfl : cs1 = (lToken e1) := hr1
  refine sI ?_
  refine T ?_
  refine cif h et (fun hb h => ?_) (fun hb h => ?_)
  ·refine T ?_
   refine c_ret ?_
   obtain rfl := some_inj h
   exact QF hI
  refine T ?_
  refine s_nil ?_
  exact k_loop (fuel1, wi64 (i1 + 1)) SB ⟨_, hI.arr GO SU, h⟩ (Nat.lt_succ_self _)
 refine c_exit ?_
 refine k_in ?_
 refine k_same ?_
 refine T ?_
 refine c_ret ?_
 obtain rfl := some_inj h
 exact QF hI
theorem c_ref13_Space (F : NP) (w0 : World) (hF : ∀ k, F k → k < w0.heap.size) (c1 : Int) (hc : AllCl [] F w0) (r : Bool)
  (h : m_ref13_Space c1 = some r) :
  Calls Tryz.prog 94 #[(Value.int .u8 c1)] w0 fun e w => e = .returned (vb r) ∧ Ext w0 w ∧ AllCl [] F w := by
 refine enterK Tryz.func94 rfl Tryz.ntmps94 rfl ?_
 have hI := Bun.start hF hc
 clear hc
 rw [m_ref13_Space] at h
 refine T ?_
 refine c_ret ?_
 obtain rfl := some_inj h
 exact QF hI
theorem c_ref13_Skip (F : NP) (w0 : World) (hF : ∀ k, F k → k < w0.heap.size) (s1 : List UInt8) (at1 : Int) (hc : AllCl [] F w0) (r : Int)
  (h : m_ref13_Skip s1 at1 = some r) :
  Calls Tryz.prog 46 #[(str s1), vi at1] w0 fun e w => e = .returned (vi r) ∧ Ext w0 w ∧ AllCl [] F w := by
 refine enterK Tryz.func46 rfl Tryz.ntmps46 rfl ?_
 have hI := Bun.start hF hc
 clear hc
 rw [m_ref13_Skip] at h
 refine T ?_
 refine c_seq (T ?_)
 refine c_loop (α := Nat × Int) (fun x => fun w => ∃ C, Bun noM F w0 C w [] [] ∧ m_ref13_Skip_l1 s1 (x.1) (x.2) = some r) (fun x _ => x.1) (fun x => [(0, (str s1)), (1, vi (x.2))]) (fu, at1) ⟨_, hI.arr .n trivial, h⟩ SB ?_
 clear h hI; rintro ⟨fuel1, at2⟩ w1 ⟨c1, hI, h⟩
 dsimp only at hI h
 rcases fuel1 with _ | fuel1
 ·rw [m_ref13_Skip_l1] at h; cases h
 rw [m_ref13_Skip_l1] at h
 refine c_sub (e := [(0, (str s1)), (1, vi at2)]) SB ?_
 refine c_seq (T ?_)
 refine cif h et (fun hb h => ?_) (fun hb h => ?_)
 ·refine T ?_
  obtain ⟨b1, hx1, h⟩ := bnd_some h
  refine sI ?_
  obtain ⟨r1, hx2, h⟩ := bnd_some h
  refine s_call gn rfl (r_callF (vs := [(Value.int .u8 b1)]) rfl ok_94 ⟨et, trivial⟩) (Calls.mono (c_ref13_Space (Dj F c1) w1 hI.lt b1 trivial r1 hx2) ?_)
  rintro _ w2 ⟨rfl, hx3, hl1⟩
  refine ⟨_, rfl, ?_⟩
  replace hI := (hI.ext hx3)
  refine nk (cif h et (fun hb h => ?_) (fun hb h => ?_))
  ·refine T ?_
   refine s_nil ?_
   exact k_loop (fuel1, wi64 (at2 + 1)) SB ⟨_, hI.arr GO SU, h⟩ (Nat.lt_succ_self _)
  refine T ?_
  obtain ⟨b2, hx4, h⟩ := bnd_some h
  refine sI ?_
  refine T ?_
  refine cif h et (fun hb h => ?_) (fun hb h => ?_)
  ·refine T ?_
   refine c_loop (α := Nat × Int) (fun x => fun w => ∃ C, Bun noM F w0 C w [] [] ∧ m_ref13_Skip_l2 s1 (m_ref13_Skip_l1 s1 fuel1) (x.1) (x.2) = some r) (fun x _ => x.1) (fun x => [(0, (str s1)), (1, vi (x.2))]) (fu, at2) ⟨_, hI.arr .n trivial, h⟩ SB ?_
   clear h hI; rintro ⟨fuel2, at3⟩ w3 ⟨c2, hI, h⟩
   dsimp only at hI h
   rcases fuel2 with _ | fuel2
   ·rw [m_ref13_Skip_l2] at h; cases h
   rw [m_ref13_Skip_l2] at h
   refine c_sub (e := [(0, (str s1)), (1, vi at3)]) SB ?_
   refine c_seq (T ?_)
   obtain ⟨b3, hx5, h⟩ := bnd_some h
   replace hx5 := gd_some hx5
   refine sJ ?_
   refine T ?_
   refine cif h et (fun hb h => ?_) (fun hb h => ?_)
   ·refine T ?_
    refine s_nil ?_
    exact k_loop (fuel2, wi64 (at3 + 1)) SB ⟨_, hI.arr GO SU, h⟩ (Nat.lt_succ_self _)
   refine c_exit ?_
   refine k_in ?_
   exact k_loop (fuel1, at3) SB ⟨_, hI.arr GO SU, h⟩ (Nat.lt_succ_self _)
  refine T ?_
  refine c_ret ?_
  obtain rfl := some_inj h
  exact QF hI
 refine c_exit ?_
 refine k_in ?_
 refine k_same ?_
 refine T ?_
 refine c_ret ?_
 obtain rfl := some_inj h
 exact QF hI
theorem c_ref13_letter (F : NP) (w0 : World) (hF : ∀ k, F k → k < w0.heap.size) (c1 : Int) (hc : AllCl [] F w0) (r : Bool)
  (h : m_ref13_letter c1 = some r) :
  Calls Tryz.prog 95 #[(Value.int .u8 c1)] w0 fun e w => e = .returned (vb r) ∧ Ext w0 w ∧ AllCl [] F w := by
 refine enterK Tryz.func95 rfl Tryz.ntmps95 rfl ?_
 have hI := Bun.start hF hc
 clear hc
 rw [m_ref13_letter] at h
 refine T ?_
 refine c_ret ?_
 obtain rfl := some_inj h
 exact QF hI
theorem c_ref13_digit (F : NP) (w0 : World) (hF : ∀ k, F k → k < w0.heap.size) (c1 : Int) (hc : AllCl [] F w0) (r : Bool)
  (h : m_ref13_digit c1 = some r) :
  Calls Tryz.prog 96 #[(Value.int .u8 c1)] w0 fun e w => e = .returned (vb r) ∧ Ext w0 w ∧ AllCl [] F w := by
 refine enterK Tryz.func96 rfl Tryz.ntmps96 rfl ?_
 have hI := Bun.start hF hc
 clear hc
 rw [m_ref13_digit] at h
 refine T ?_
 refine c_ret ?_
 obtain rfl := some_inj h
 exact QF hI
theorem c_ref13_run (F : NP) (w0 : World) (hF : ∀ k, F k → k < w0.heap.size) (s1 : List UInt8) (hc : AllCl [] F w0) (r : Int × Int)
  (h : m_ref13_run s1 = some r) :
  Calls Tryz.prog 47 #[(str s1)] w0 fun e w => e = .returned (Value.tuple #[vi r.1, vi r.2]) ∧ Ext w0 w ∧ AllCl [] F w := by
 refine enterK Tryz.func47 rfl Tryz.ntmps47 rfl ?_
 have hI := Bun.start hF hc
 clear hc
 rw [m_ref13_run] at h
 refine T ?_
 refine c_seq (T ?_)
 obtain ⟨b1, hx1, h⟩ := bnd_some h
 replace hx1 := gd_some hx1
 refine sJ ?_
 obtain ⟨r1, hx2, h⟩ := bnd_some h
 replace hx2 := gd_some hx2
 refine s_gcallU (v := (vb r1)) (g_false rfl rfl rfl rfl) rfl (fun hc => (r_callF (vs := [(Value.int .u8 b1)]) rfl ok_95 ⟨(ev_gv et hc), trivial⟩)) (fun hc => (c_ref13_letter (Dj F noM) w0 hI.lt b1 trivial r1 (hx2 hc)).mono fun _ _ k => ⟨k.1, k.2.1⟩) ?_
 intro w1 hx3; replace hI := hI.ext hx3
 refine T ?_
 obtain ⟨b2, hx4, h⟩ := bnd_some h
 replace hx4 := gd_some hx4
 refine sJ ?_
 obtain ⟨r2, hx5, h⟩ := bnd_some h
 replace hx5 := gd_some hx5
 refine s_gcallU (v := (vb r2)) (g_true2 rfl rfl rfl rfl) rfl (fun hc => (r_callF (vs := [(Value.int .u8 b2)]) rfl ok_96 ⟨(ev_gv et hc), trivial⟩)) (fun hc => (c_ref13_digit (Dj F noM) w1 hI.lt b2 trivial r2 (hx5 hc)).mono fun _ _ k => ⟨k.1, k.2.1⟩) ?_
 intro w2 hx6; replace hI := hI.ext hx6
 refine T ?_
 refine cif h et (fun hb h => ?_) (fun hb h => ?_)
 ·refine T ?_
  refine c_ret ?_
  obtain rfl := some_inj h
  exact QF hI
 refine T ?_
 refine c_join (α := Int) (fun _ => ⟨53, []⟩) (fun x => [(0, (str s1)), (4, vi x)]) (fun x => fun w => ∃ C, Bun noM F w0 C w [] [] ∧ m_ref13_run_j1 s1 x = some r) ?_ ?_
 ·clear h hI; rintro kind1 w3 ⟨c1, hI, h⟩
  try dsimp only at hI h
  rw [m_ref13_run_j1] at h
  refine c_sub (e := [(0, (str s1)), (4, vi kind1)]) SB ?_
  refine T ?_
  refine c_seq (T ?_)
  refine c_loop (α := Nat × Int) (fun x => fun w => ∃ C, Bun noM F w0 C w [] [] ∧ m_ref13_run_l1 s1 kind1 (x.1) (x.2) = some r) (fun x _ => x.1) (fun x => [(0, (str s1)), (4, vi kind1), (5, vi (x.2))]) (fu, 0) ⟨_, hI.arr .n trivial, h⟩ SB ?_
  clear h hI; rintro ⟨fuel1, n1⟩ w4 ⟨c2, hI, h⟩
  dsimp only at hI h
  rcases fuel1 with _ | fuel1
  ·rw [m_ref13_run_l1] at h; cases h
  rw [m_ref13_run_l1] at h
  refine c_sub (e := [(0, (str s1)), (4, vi kind1), (5, vi n1)]) SB ?_
  refine c_seq (T ?_)
  obtain ⟨b3, hx7, h⟩ := bnd_some h
  replace hx7 := gd_some hx7
  refine sJ ?_
  obtain ⟨r3, hx8, h⟩ := bnd_some h
  replace hx8 := gd_some hx8
  refine s_gcallU (v := (vb r3)) (g_true rfl rfl rfl rfl) rfl (fun hc => (r_callF (vs := [(Value.int .u8 b3)]) rfl ok_96 ⟨(ev_gv et hc), trivial⟩)) (fun hc => (c_ref13_digit (Dj F c2) w4 hI.lt b3 trivial r3 (hx8 hc)).mono fun _ _ k => ⟨k.1, k.2.1⟩) ?_
  intro w5 hx9; replace hI := hI.ext hx9
  refine T ?_
  obtain ⟨b4, hx10, h⟩ := bnd_some h
  replace hx10 := gd_some hx10
  refine sJ ?_
  obtain ⟨r4, hx11, h⟩ := bnd_some h
  replace hx11 := gd_some hx11
  refine s_gcallU (v := (vb r4)) (g_true2 rfl rfl rfl rfl) rfl (fun hc => (r_callF (vs := [(Value.int .u8 b4)]) rfl ok_95 ⟨(ev_gv et hc), trivial⟩)) (fun hc => (c_ref13_letter (Dj F c2) w5 hI.lt b4 trivial r4 (hx11 hc)).mono fun _ _ k => ⟨k.1, k.2.1⟩) ?_
  intro w6 hx12; replace hI := hI.ext hx12
  refine T ?_
  obtain ⟨b5, hx13, h⟩ := bnd_some h
  replace hx13 := gd_some hx13
  refine sJ ?_
  refine T ?_
  refine cif h et (fun hb h => ?_) (fun hb h => ?_)
  ·refine T ?_
   refine s_nil ?_
   exact k_loop (fuel1, wi64 (n1 + 1)) SB ⟨_, hI.arr GO SU, h⟩ (Nat.lt_succ_self _)
  refine c_exit ?_
  refine k_in ?_
  refine k_same ?_
  refine T ?_
  refine c_ret ?_
  obtain rfl := some_inj h
  exact QF hI
 refine T ?_
 obtain ⟨b6, hx14, h⟩ := bnd_some h
 refine sI ?_
 obtain ⟨r5, hx15, h⟩ := bnd_some h
 refine s_call gn rfl (r_callF (vs := [(Value.int .u8 b6)]) rfl ok_95 ⟨et, trivial⟩) (Calls.mono (c_ref13_letter (Dj F noM) w2 hI.lt b6 trivial r5 hx15) ?_)
 rintro _ w7 ⟨rfl, hx16, hl5⟩
 refine ⟨_, rfl, ?_⟩
 replace hI := (hI.ext hx16)
 refine nk (cif h et (fun hb h => ?_) (fun hb h => ?_))
 ·refine T ?_
  refine s_nil ?_
  exact k_join 1 SB ⟨_, hI.arr GO SU, h⟩ rfl
 exact c_skip (k_join 2 SB ⟨_, hI.arr GO SU, h⟩ rfl)
theorem c_ref13_Symbols (F : NP) (w0 : World) (hF : ∀ k, F k → k < w0.heap.size) (hc : AllCl [] F w0) (r : List (List UInt8))
  (h : m_ref13_Symbols = some r) :
  Calls Tryz.prog 97 #[] w0 fun e w => ∃ (a1 : Option Addr) (c1 : Nat), e = .returned (vs a1 r.length c1) ∧ Ext w0 w ∧ AllCl [Cl.sl cStr a1 c1 r] F w := by
 refine enterK Tryz.func97 rfl Tryz.ntmps97 rfl ?_
 have hI := Bun.start hF hc
 clear hc
 rw [m_ref13_Symbols] at h
 refine T ?_
 refine l_lit (c := cStr) (xs := ([([60, 61] : List UInt8), ([61, 61] : List UInt8), ([40] : List UInt8), ([41] : List UInt8), ([91] : List UInt8), ([93] : List UInt8), ([123] : List UInt8), ([125] : List UInt8), ([44] : List UInt8), ([59] : List UInt8), ([58] : List UInt8), ([43] : List UInt8), ([45] : List UInt8), ([42] : List UInt8), ([47] : List UInt8), ([60] : List UInt8), ([61] : List UInt8), ([38] : List UInt8), ([124] : List UInt8), ([33] : List UInt8), ([46] : List UInt8), ([64] : List UInt8)] : List (List UInt8))) (vs := [(0, (str ([60, 61] : List UInt8))), (1, (str ([61, 61] : List UInt8))), (2, (str ([40] : List UInt8))), (3, (str ([41] : List UInt8))), (4, (str ([91] : List UInt8))), (5, (str ([93] : List UInt8))), (6, (str ([123] : List UInt8))), (7, (str ([125] : List UInt8))), (8, (str ([44] : List UInt8))), (9, (str ([59] : List UInt8))), (10, (str ([58] : List UInt8))), (11, (str ([43] : List UInt8))), (12, (str ([45] : List UInt8))), (13, (str ([42] : List UInt8))), (14, (str ([47] : List UInt8))), (15, (str ([60] : List UInt8))), (16, (str ([61] : List UInt8))), (17, (str ([38] : List UInt8))), (18, (str ([124] : List UInt8))), (19, (str ([33] : List UInt8))), (20, (str ([46] : List UInt8))), (21, (str ([64] : List UInt8)))]) (cs := #[(str ([60, 61] : List UInt8)), (str ([61, 61] : List UInt8)), (str ([40] : List UInt8)), (str ([41] : List UInt8)), (str ([91] : List UInt8)), (str ([93] : List UInt8)), (str ([123] : List UInt8)), (str ([125] : List UInt8)), (str ([44] : List UInt8)), (str ([59] : List UInt8)), (str ([58] : List UInt8)), (str ([43] : List UInt8)), (str ([45] : List UInt8)), (str ([42] : List UInt8)), (str ([47] : List UInt8)), (str ([60] : List UInt8)), (str ([61] : List UInt8)), (str ([38] : List UInt8)), (str ([124] : List UInt8)), (str ([33] : List UInt8)), (str ([46] : List UInt8)), (str ([64] : List UInt8))]) (css := [[(str ([60, 61] : List UInt8))], [(str ([61, 61] : List UInt8))], [(str ([40] : List UInt8))], [(str ([41] : List UInt8))], [(str ([91] : List UInt8))], [(str ([93] : List UInt8))], [(str ([123] : List UInt8))], [(str ([125] : List UInt8))], [(str ([44] : List UInt8))], [(str ([59] : List UInt8))], [(str ([58] : List UInt8))], [(str ([43] : List UInt8))], [(str ([45] : List UInt8))], [(str ([42] : List UInt8))], [(str ([47] : List UInt8))], [(str ([60] : List UInt8))], [(str ([61] : List UInt8))], [(str ([38] : List UInt8))], [(str ([124] : List UInt8))], [(str ([33] : List UInt8))], [(str ([46] : List UInt8))], [(str ([64] : List UInt8))]]) hI gn rfl rfl u50 info_9 rfl ⟨rfl, ev_const, ⟨rfl, ev_const, ⟨rfl, ev_const, ⟨rfl, ev_const, ⟨rfl, ev_const, ⟨rfl, ev_const, ⟨rfl, ev_const, ⟨rfl, ev_const, ⟨rfl, ev_const, ⟨rfl, ev_const, ⟨rfl, ev_const, ⟨rfl, ev_const, ⟨rfl, ev_const, ⟨rfl, ev_const, ⟨rfl, ev_const, ⟨rfl, ev_const, ⟨rfl, ev_const, ⟨rfl, ev_const, ⟨rfl, ev_const, ⟨rfl, ev_const, ⟨rfl, ev_const, ⟨rfl, ev_const, trivial⟩⟩⟩⟩⟩⟩⟩⟩⟩⟩⟩⟩⟩⟩⟩⟩⟩⟩⟩⟩⟩⟩ (by kernel_rfl) ⟨rfl, ⟨rfl, ⟨rfl, ⟨rfl, ⟨rfl, ⟨rfl, ⟨rfl, ⟨rfl, ⟨rfl, ⟨rfl, ⟨rfl, ⟨rfl, ⟨rfl, ⟨rfl, ⟨rfl, ⟨rfl, ⟨rfl, ⟨rfl, ⟨rfl, ⟨rfl, ⟨rfl, ⟨rfl, trivial⟩⟩⟩⟩⟩⟩⟩⟩⟩⟩⟩⟩⟩⟩⟩⟩⟩⟩⟩⟩⟩⟩ rfl rfl rfl ?_
 clear hI; intro b1 c2 w1 hI
 refine T ?_
 refine c_ret ?_
 obtain ⟨c3, hI⟩ := hI.release .z
 obtain rfl := some_inj h
 refine QG ?_
 exact ⟨some ⟨b1, 0, none⟩, 22, rfl, hI.ext0, hI.fin ⟨.z, trivial⟩⟩
theorem c_ref13_symbol (F : NP) (w0 : World) (hF : ∀ k, F k → k < w0.heap.size) (s1 : List UInt8) (hc : AllCl [] F w0) (r : Int)
  (h : m_ref13_symbol s1 = some r) :
  Calls Tryz.prog 48 #[(str s1)] w0 fun e w => e = .returned (vi r) ∧ Ext w0 w ∧ AllCl [] F w := by
 refine enterK Tryz.func48 rfl Tryz.ntmps48 rfl ?_
 have hI := Bun.start hF hc
 clear hc
 rw [m_ref13_symbol] at h
 refine T ?_
 obtain ⟨r1, hx1, h⟩ := bnd_some h
 refine s_call gn rfl (r_callF (vs := []) rfl ok_97 trivial) (Calls.mono (c_ref13_Symbols (Dj F noM) w0 hI.lt trivial r1 hx1) ?_)
 rintro _ w1 ⟨a1, c1, rfl, hx2, hl1⟩
 refine ⟨_, rfl, ?_⟩
 replace hI := (hI.ext hx2).adds hl1; dsimp only [ca, na] at hI
 refine T ?_
 refine c_seq (T ?_)
 refine c_loop (α := Nat × Int) (fun x => fun w => ∃ C, Bun noM F w0 C w [] [Cl.sl cStr a1 c1 r1] ∧ m_ref13_symbol_l1 r1 s1 (x.1) (x.2) = some r) (fun x _ => x.1) (fun x => [(0, (str s1)), (3, vs a1 r1.length c1), (4, vi (x.2))]) (fu, 0) ⟨_, hI.arr .n ⟨.z, trivial⟩, h⟩ SB ?_
 clear h hI; rintro ⟨fuel1, i1⟩ w2 ⟨c2, hI, h⟩
 dsimp only at hI h
 rcases fuel1 with _ | fuel1
 ·rw [m_ref13_symbol_l1] at h; cases h
 rw [m_ref13_symbol_l1] at h
 refine c_sub (e := [(0, (str s1)), (3, vs a1 r1.length c1), (4, vi i1)]) SB ?_
 refine c_seq (T ?_)
 refine cif h et (fun hb h => ?_) (fun hb h => ?_)
 ·refine T ?_
  refine c_seq (T ?_)
  refine c_seq (c_drawX [] false (.c (0, .q) (.c (1, .q) (.c (2, .q) (.c (3, .q) (.c (4, .q) (.c (5, .q) (.c (6, .q) (.c (7, .q) (.c (8, .q) (.c (9, .q) (.c (10, .q) (.c (11, .q) (.c (12, .q) (.c (13, .q) (.c (14, .q) (.c (15, .q) (.c (16, .q) (.c (17, .q) (.c (18, .q) (.c (19, .q) (.c (20, .q) (.c (21, .q) .n)))))))))))))))))))))) hI (by kernel_rfl) (by kernel_rfl) ?_)
  clear hI; intro w3 hI
  refine V ?_
  obtain ⟨e1, hx3, h⟩ := bnd_some h
  obtain ⟨ad1, cs1, hA1, hr1, hq1⟩ := hI.clat .z hx3
  obtain rfl : cs1 = [(str e1)] := hr1
  refine vI ?_
  refine V ?_
  obtain ⟨e2, hx4, h⟩ := bnd_some h
  replace hx4 := gd_some hx4
  obtain ⟨ad2, cs2, hq2⟩ := hI.gclat .z hx4
  have hq3 : (decide ((e1.length : Int) ≤ (s1.length : Int))) = true → CA (Dj F c2) w3 (ad2.add (Int.toNat i1 * 1)) [(str e2)] := fun hc => caq (hq2 hc).2.1 (hq2 hc).2.2
  refine vJ ?_
  refine V ?_
  obtain ⟨s2, hx5, h⟩ := bnd_some h
  replace hx5 := gd_some hx5
  refine vJ ?_
  refine V ?_
  obtain ⟨e3, hx6, h⟩ := bnd_some h
  replace hx6 := gd_some hx6
  obtain ⟨ad3, cs3, hq4⟩ := hI.gclat .z hx6
  have hq5 : (decide ((e1.length : Int) ≤ (s1.length : Int))) = true → CA (Dj F c2) w3 (ad3.add (Int.toNat i1 * 1)) [(str e3)] := fun hc => caq (hq4 hc).2.1 (hq4 hc).2.2
  refine vJ ?_
  refine V ?_
  refine cif h et (fun hb h => ?_) (fun hb h => ?_)
  ·refine T ?_
   obtain ⟨e4, hx7, h⟩ := bnd_some h
   obtain ⟨ad4, cs4, hA4, hr4, hq6⟩ := hI.clat .z hx7
   obtain rfl : cs4 = [(str e4)] := hr4
   refine sI ?_
   refine T ?_
   refine c_ret ?_
   obtain rfl := some_inj h
   exact QF hI
  refine T ?_
  refine s_nil ?_
  exact k_loop (fuel1, wi64 (i1 + 1)) SB ⟨_, hI.arr GO SU, h⟩ (Nat.lt_succ_self _)
 refine c_exit ?_
 refine k_in ?_
 refine k_same ?_
 refine T ?_
 refine c_ret ?_
 obtain rfl := some_inj h
 exact QF hI
theorem c_ref13_Tokenize (F : NP) (w0 : World) (hF : ∀ k, F k → k < w0.heap.size) (s1 : List UInt8) (hc : AllCl [] F w0) (r : List GToken × Int × Int)
  (h : m_ref13_Tokenize s1 = some r) :
  Calls Tryz.prog 22 #[(str s1)] w0 fun e w => ∃ (a1 : Option Addr) (c1 : Nat), e = .returned (Value.tuple #[vs a1 r.1.length c1, vi r.2.1, vi r.2.2]) ∧ Ext w0 w ∧ AllCl [Cl.sl cGToken a1 c1 r.1] F w := by
 refine enterK Tryz.func22 rfl Tryz.ntmps22 rfl ?_
 have hI := Bun.start hF hc
 clear hc
 rw [m_ref13_Tokenize] at h
 refine T ?_
 refine c_seq (T ?_)
 refine cif h et (fun hb h => ?_) (fun hb h => ?_)
 ·refine T ?_
  refine c_ret ?_
  have hI := hI.add (c := Cl.sl cGToken none 0 ([] : List GToken)) SlC.nil
  obtain rfl := some_inj h
  refine QG ?_
  exact ⟨none, 0, rfl, hI.ext0, hI.fin ⟨.z, trivial⟩⟩
 refine T ?_
 refine c_seq (T ?_)
 obtain ⟨r1, hx1, h⟩ := bnd_some h
 refine s_call gn rfl (r_callF (vs := [(str s1), vi 0]) rfl ok_46 ⟨et, ⟨ev_const, trivial⟩⟩) (Calls.mono (c_ref13_Skip (Dj F noM) w0 hI.lt s1 0 trivial r1 hx1) ?_)
 rintro _ w1 ⟨rfl, hx2, hl1⟩
 refine ⟨_, rfl, ?_⟩
 replace hI := (hI.ext hx2)
 refine T ?_
 have hI := hI.nil cGToken 62 none
 refine c_loop (α := Nat × (List GToken) × Int × (Option Addr) × Nat) (fun x => fun w => ∃ C, Bun noM F w0 C w [MO.row cGToken 62 (x.2.2.2.1) (x.2.2.2.2) (x.2.1)] [] ∧ m_ref13_Tokenize_l1 s1 (x.1) (x.2.1) (x.2.2.1) = some r) (fun x _ => x.1) (fun x => [(0, (str s1)), (5, vs (x.2.2.2.1) (x.2.1).length (x.2.2.2.2)), (6, vi (x.2.2.1))]) (fu, ([] : List GToken), r1, none, 0) ⟨_, hI.arr (.c .z .n) trivial, h⟩ SB ?_
 clear h hI; rintro ⟨fuel1, out1, at1, a2, c2⟩ w2 ⟨c3, hI, h⟩
 dsimp only at hI h
 rcases fuel1 with _ | fuel1
 ·rw [m_ref13_Tokenize_l1] at h; cases h
 rw [m_ref13_Tokenize_l1] at h
 refine c_sub (e := [(0, (str s1)), (5, vs a2 out1.length c2), (6, vi at1)]) SB ?_
 refine c_seq (T ?_)
 refine cif h et (fun hb h => ?_) (fun hb h => ?_)
 ·refine T ?_
  refine c_seq (T ?_)
  obtain ⟨s2, hx3, h⟩ := bnd_some h
  refine sI ?_
  obtain ⟨r2, hx4, h⟩ := bnd_some h
  refine s_call gn rfl (r_callF (vs := [(str s2)]) rfl ok_47 ⟨et, trivial⟩) (Calls.mono (c_ref13_run (Dj F c3) w2 hI.lt s2 trivial r2 hx4) ?_)
  rintro _ w3 ⟨rfl, hx5, hl2⟩
  refine ⟨_, rfl, ?_⟩
  replace hI := (hI.ext hx5)
  refine T ?_
  refine c_join (α := Int × Int) (fun _ => ⟨60, []⟩) (fun x => [(0, (str s1)), (5, vs a2 out1.length c2), (6, vi at1), (7, vi (x.1)), (8, vi (x.2))]) (fun x => fun w => ∃ C, Bun noM F w0 C w [MO.row cGToken 62 a2 c2 out1] [] ∧ m_ref13_Tokenize_j1 at1 s1 out1 (m_ref13_Tokenize_l1 s1 fuel1) (x.1) (x.2) = some r) ?_ ?_
  ·clear h hI; rintro ⟨n1, kind1⟩ w4 ⟨c4, hI, h⟩
   try dsimp only at hI h
   rw [m_ref13_Tokenize_j1] at h
   refine c_sub (e := [(0, (str s1)), (5, vs a2 out1.length c2), (6, vi at1), (7, vi n1), (8, vi kind1)]) SB ?_
   refine c_seq (T ?_)
   refine cif h et (fun hb h => ?_) (fun hb h => ?_)
   ·refine T ?_
    refine c_ret ?_
    have hI := hI.add (c := Cl.sl cGToken none 0 ([] : List GToken)) SlC.nil
    obtain rfl := some_inj h
    refine QG ?_
    exact ⟨none, 0, rfl, hI.ext0, hI.fin ⟨.z, trivial⟩⟩
   refine T ?_
   refine c_seq (T ?_)
   refine cif h et (fun hb h => ?_) (fun hb h => ?_)
   ·refine T ?_
    refine c_ret ?_
    have hI := hI.add (c := Cl.sl cGToken none 0 ([] : List GToken)) SlC.nil
    obtain rfl := some_inj h
    refine QG ?_
    exact ⟨none, 0, rfl, hI.ext0, hI.fin ⟨.z, trivial⟩⟩
   refine T ?_
   obtain ⟨s3, hx6, h⟩ := bnd_some h
   refine sq (y_ssub rfl u9 et et et hx6) ?_
   refine sq (y_build (vs := [(0, vi kind1), (1, vi at1), (2, (str s3))]) (cs := #[vi kind1, vi at1, (str s3)]) rfl ⟨rfl, et, ⟨rfl, et, ⟨rfl, et, trivial⟩⟩⟩ (by kernel_rfl)) ?_
   refine l_lit (c := cGToken) (xs := ([(⟨kind1, at1, s3⟩ : GToken)] : List GToken)) (vs := [(0, (Value.agg #[vi kind1, vi at1, (str s3)]))]) (cs := #[vi kind1, vi at1, (str s3)]) (css := [[vi kind1, vi at1, (str s3)]]) hI gn rfl rfl u22 info_62 rfl ⟨rfl, et, trivial⟩ (by kernel_rfl) ⟨rfl, trivial⟩ rfl rfl rfl ?_
   clear hI; intro b1 c5 w5 hI
   obtain ⟨zs1, hx7, h⟩ := bnd_some h
   refine l_append (xs := out1) (ys := ([(⟨kind1, at1, s3⟩ : GToken)] : List GToken)) hI (.s .z) (hI.rd .z) hx7 gn rfl rfl u22 info_62 rfl rfl et et ?_
   clear hI; intro a3 c6 c7 w6 hI
   refine T ?_
   obtain ⟨r3, hx8, h⟩ := bnd_some h
   refine s_call gn rfl (r_callF (vs := [(str s1), (vi (wi64 (at1 + n1)))]) rfl ok_46 ⟨et, ⟨et, trivial⟩⟩) (Calls.mono (c_ref13_Skip (Dj F c7) w6 hI.lt s1 (wi64 (at1 + n1)) trivial r3 hx8) ?_)
   rintro _ w7 ⟨rfl, hx9, hl3⟩
   refine ⟨_, rfl, ?_⟩
   replace hI := (hI.ext hx9)
   refine sa ?_
   refine s_nil ?_
   exact k_loop (fuel1, zs1, r3, a3, c6) SB ⟨_, hI.arr GO SU, h⟩ (Nat.lt_succ_self _)
  refine T ?_
  refine cif h et (fun hb h => ?_) (fun hb h => ?_)
  ·refine T ?_
   obtain ⟨s4, hx10, h⟩ := bnd_some h
   refine sI ?_
   obtain ⟨r4, hx11, h⟩ := bnd_some h
   refine s_call gn rfl (r_callF (vs := [(str s4)]) rfl ok_48 ⟨et, trivial⟩) (Calls.mono (c_ref13_symbol (Dj F c3) w3 hI.lt s4 trivial r4 hx11) ?_)
   rintro _ w8 ⟨rfl, hx12, hl4⟩
   refine ⟨_, rfl, ?_⟩
   replace hI := (hI.ext hx12)
   refine T ?_
   refine s_nil ?_
   exact k_join (r4, 3) SB ⟨_, hI.arr GO SU, h⟩ rfl
  exact c_skip (k_join (r2.1, r2.2) SB ⟨_, hI.arr GO SU, h⟩ rfl)
 refine c_exit ?_
 refine k_in ?_
 refine k_same ?_
 refine T ?_
 refine c_ret ?_
 obtain ⟨c8, hI⟩ := hI.release .z
 obtain rfl := some_inj h
 refine QG ?_
 exact ⟨a2, c2, rfl, hI.ext0, hI.fin ⟨.z, trivial⟩⟩
theorem c_parser_reader_is (F : NP) (w0 : World) (hF : ∀ k, F k → k < w0.heap.size) (r1 : Gparser_reader) (kind1 : Int) (s1 : List UInt8) (b1 : Nat) (a1 : Option Addr) (c1 : Nat) (hc : AllCl [Cl.sl cGToken a1 c1 r1.l, Cl.blk b1 67 (Aparser_reader r1 a1 c1)] F w0) (r : Bool)
  (h : m_parser_reader_is r1 kind1 s1 = some r) :
  Calls Tryz.prog 121 #[vp b1 0, vi kind1, (str s1)] w0 fun e w => e = .returned (vb r) ∧ Ext w0 w ∧ AllCl [] F w := by
 refine enterK Tryz.func121 rfl Tryz.ntmps121 rfl ?_
 have hI := Bun.start hF hc
 clear hc
 rw [m_parser_reader_is] at h
 refine T ?_
 refine c_seq (c_drawX [] false (.c (0, .q) (.c (1, .q) (.c (2, .q) (.c (3, .q) (.c (4, .q) (.c (5, .q) (.c (6, .q) (.c (7, .q) (.c (8, .q) (.c (9, .q) (.c (10, .q) (.c (11, .q) (.c (12, .q) (.c (13, .q) (.c (14, .q) (.c (15, .q) (.c (16, .q) (.c (17, .q) (.c (18, .q) (.c (19, .q) (.c (20, .q) (.c (21, .q) (.c (22, .q) (.c (23, .q) (.c (24, .q) (.c (25, .q) (.c (26, .q) (.c (27, .q) (.c (28, .q) (.c (29, .q) (.c (30, .q) (.c (31, .q) (.c (32, .q) (.c (33, .q) (.c (34, .q) (.c (35, .q) (.c (36, .q) (.c (37, .q) (.c (38, .q) (.c (39, .q) (.c (40, .q) .n))))))))))))))))))))))))))))))))))))))))) hI (by kernel_rfl) (by kernel_rfl) ?_)
 clear hI; intro w1 hI
 refine V ?_
 obtain ⟨e1, hx1, h⟩ := bnd_some h
 replace hx1 := gd_some hx1
 obtain ⟨ad1, cs1, hq1⟩ := hI.gclat .z hx1
 have hq2 : (decide (r1.at_ < (r1.l.length : Int))) = true → CA (Dj F noM) w1 (ad1.add (Int.toNat r1.at_ * 3)) (lToken e1) := fun hc => caq (hq1 hc).2.1 (hq1 hc).2.2
 refine vJ ?_
 refine V ?_
 obtain ⟨e2, hx2, h⟩ := bnd_some h
 replace hx2 := gd_some hx2
 obtain ⟨ad2, cs2, hq3⟩ := hI.gclat .z hx2
 have hq4 : ((decide (r1.at_ < (r1.l.length : Int))) && (decide (e1.Kind = kind1))) = true → CA (Dj F noM) w1 (ad2.add (Int.toNat r1.at_ * 3)) (lToken e2) := fun hc => caq (hq3 hc).2.1 (hq3 hc).2.2
 refine vJ ?_
 refine V ?_
 refine c_ret ?_
 obtain rfl := some_inj h
 exact QF hI
theorem c_lexer_letter (F : NP) (w0 : World) (hF : ∀ k, F k → k < w0.heap.size) (r1 : Int) (hc : AllCl [] F w0) (r : Bool)
  (h : m_lexer_letter r1 = some r) :
  Calls Tryz.prog 156 #[(Value.int .i32 r1)] w0 fun e w => e = .returned (vb r) ∧ Ext w0 w ∧ AllCl [] F w := by
 refine enterK Tryz.func156 rfl Tryz.ntmps156 rfl ?_
 have hI := Bun.start hF hc
 clear hc
 rw [m_lexer_letter] at h
 refine T ?_
 refine c_ret ?_
 obtain rfl := some_inj h
 exact QF hI
theorem c_lexer_span (F : NP) (w0 : World) (hF : ∀ k, F k → k < w0.heap.size) (s1 : List UInt8) (ok1 : (Int → Option Bool)) (fv1 : Value) (hc : AllCl [clFn_k1 fv1 ok1] F w0) (r : Int)
  (h : m_lexer_span s1 ok1 = some r) :
  Calls Tryz.prog 154 #[(str s1), fv1] w0 fun e w => e = .returned (vi r) ∧ Ext w0 w ∧ AllCl [] F w := by
 refine enterK Tryz.func154 rfl Tryz.ntmps154 rfl ?_
 have hI := Bun.start hF hc
 clear hc
 rw [m_lexer_span] at h
 refine T ?_
 refine c_seq (T ?_)
 refine c_loop (α := Nat × Int) (fun x => fun w => ∃ C, Bun noM F w0 C w [] [clFn_k1 fv1 ok1] ∧ m_lexer_span_l1 s1 ok1 (x.1) (x.2) = some r) (fun x _ => x.1) (fun x => [(0, (str s1)), (1, fv1), (5, vi (x.2))]) (fu, 0) ⟨_, hI.arr .n ⟨.z, trivial⟩, h⟩ SB ?_
 clear h hI; rintro ⟨fuel1, n1⟩ w1 ⟨c1, hI, h⟩
 dsimp only at hI h
 rcases fuel1 with _ | fuel1
 ·rw [m_lexer_span_l1] at h; cases h
 rw [m_lexer_span_l1] at h
 refine c_sub (e := [(0, (str s1)), (1, fv1), (5, vi n1)]) SB ?_
 refine c_seq (T ?_)
 obtain ⟨b1, hx1, h⟩ := bnd_some h
 replace hx1 := gd_some hx1
 refine sJ ?_
 refine T ?_
 obtain ⟨r1, hx2, h⟩ := bnd_some h
 replace hx2 := gd_some hx2
 refine s_gcallV (u := (vb r1)) (args := [(Value.int .i32 (wi32 b1))]) (g_true rfl rfl rfl rfl) rfl rfl (fun hc => (ev_gv et hc)) (fun hc => ⟨(ev_gv et hc), trivial⟩) (fun hc => CallV.mono ((hI.get .z).2 (Dj F c1) w1 (Sp.of_ext .rfl') hI.lt (wi32 b1) r1 trivial (hx2 hc)) fun _ _ k => ⟨k.1, k.2.1⟩) ?_
 intro w2 hx3; replace hI := hI.ext hx3
 refine T ?_
 refine cif h et (fun hb h => ?_) (fun hb h => ?_)
 ·refine T ?_
  refine s_nil ?_
  exact k_loop (fuel1, wi64 (n1 + 1)) SB ⟨_, hI.arr GO SU, h⟩ (Nat.lt_succ_self _)
 refine c_exit ?_
 refine k_in ?_
 refine k_same ?_
 refine T ?_
 refine c_ret ?_
 obtain rfl := some_inj h
 exact QF hI
theorem c_lexer_digit (F : NP) (w0 : World) (hF : ∀ k, F k → k < w0.heap.size) (r1 : Int) (hc : AllCl [] F w0) (r : Bool)
  (h : m_lexer_digit r1 = some r) :
  Calls Tryz.prog 158 #[(Value.int .i32 r1)] w0 fun e w => e = .returned (vb r) ∧ Ext w0 w ∧ AllCl [] F w := by
 refine enterK Tryz.func158 rfl Tryz.ntmps158 rfl ?_
 have hI := Bun.start hF hc
 clear hc
 rw [m_lexer_digit] at h
 refine T ?_
 refine c_ret ?_
 obtain rfl := some_inj h
 exact QF hI
theorem c_lexer_inWord (F : NP) (w0 : World) (hF : ∀ k, F k → k < w0.heap.size) (r1 : Int) (hc : AllCl [] F w0) (r : Bool)
  (h : m_lexer_inWord r1 = some r) :
  Calls Tryz.prog 157 #[(Value.int .i32 r1)] w0 fun e w => e = .returned (vb r) ∧ Ext w0 w ∧ AllCl [] F w := by
 refine enterK Tryz.func157 rfl Tryz.ntmps157 rfl ?_
 have hI := Bun.start hF hc
 clear hc
 rw [m_lexer_inWord] at h
 refine T ?_
 obtain ⟨r2, hx1, h⟩ := bnd_some h
 refine s_call gn rfl (r_callF (vs := [(Value.int .i32 r1)]) rfl ok_156 ⟨et, trivial⟩) (Calls.mono (c_lexer_letter (Dj F noM) w0 hI.lt r1 trivial r2 hx1) ?_)
 rintro _ w1 ⟨rfl, hx2, hl1⟩
 refine ⟨_, rfl, ?_⟩
 replace hI := (hI.ext hx2)
 refine T ?_
 obtain ⟨r3, hx3, h⟩ := bnd_some h
 replace hx3 := gd_some hx3
 refine s_gcallU (v := (vb r3)) (g_false rfl rfl rfl rfl) rfl (fun hc => (r_callF (vs := [(Value.int .i32 r1)]) rfl ok_158 ⟨(ev_gv et hc), trivial⟩)) (fun hc => (c_lexer_digit (Dj F noM) w1 hI.lt r1 trivial r3 (hx3 hc)).mono fun _ _ k => ⟨k.1, k.2.1⟩) ?_
 intro w2 hx4; replace hI := hI.ext hx4
 refine T ?_
 refine c_ret ?_
 obtain rfl := some_inj h
 exact QF hI
theorem c_lexer_keywords (F : NP) (w0 : World) (hF : ∀ k, F k → k < w0.heap.size) (hc : AllCl [clSpace] F w0) (r : List (List UInt8))
  (h : m_lexer_keywords = some r) :
  Calls Tryz.prog 241 #[] w0 fun e w => ∃ (a1 : Option Addr) (c1 : Nat), e = .returned (vs a1 r.length c1) ∧ Ext w0 w ∧ AllCl [Cl.sl cStr a1 c1 r] F w := by
 refine enterK Tryz.func241 rfl Tryz.ntmps241 rfl ?_
 have hI := Bun.start hF hc
 clear hc
 rw [m_lexer_keywords] at h
 refine T ?_
 obtain ⟨r1, hx1, h⟩ := bnd_some h
 refine s_call gn rfl (r_callF (vs := [(str ([115, 105, 122, 101, 32, 119, 104, 101, 114, 101, 32, 105, 110, 32, 100, 101, 102, 32, 111, 117, 116, 32, 115, 117, 109, 32, 112, 114, 111, 100, 32, 109, 105, 110, 32, 109, 97, 120, 32, 115, 99, 97, 110, 32, 111, 118, 101, 114, 32, 105, 102, 32, 99, 97, 115, 116, 32, 102, 114, 97, 99, 32, 105, 110, 116, 32, 102, 105, 120, 32, 99, 101, 105, 108, 32, 102, 108, 111, 111, 114, 32, 122, 101, 114, 111, 32, 101, 118, 101, 110, 32, 115, 97, 116, 32, 119, 114, 97, 112] : List UInt8))]) rfl ok_247 ⟨ev_const, trivial⟩) (Calls.mono (c_strings_Fields (Dj F noM) w0 hI.lt ([115, 105, 122, 101, 32, 119, 104, 101, 114, 101, 32, 105, 110, 32, 100, 101, 102, 32, 111, 117, 116, 32, 115, 117, 109, 32, 112, 114, 111, 100, 32, 109, 105, 110, 32, 109, 97, 120, 32, 115, 99, 97, 110, 32, 111, 118, 101, 114, 32, 105, 102, 32, 99, 97, 115, 116, 32, 102, 114, 97, 99, 32, 105, 110, 116, 32, 102, 105, 120, 32, 99, 101, 105, 108, 32, 102, 108, 111, 111, 114, 32, 122, 101, 114, 111, 32, 101, 118, 101, 110, 32, 115, 97, 116, 32, 119, 114, 97, 112] : List UInt8) ⟨(hI.get .z), trivial⟩ r1 hx1) ?_)
 rintro _ w1 ⟨a2, c2, rfl, hx2, hl1⟩
 refine ⟨_, rfl, ?_⟩
 replace hI := (hI.ext hx2).adds hl1; dsimp only [ca, na] at hI
 refine T ?_
 refine c_ret ?_
 obtain rfl := some_inj h
 refine QG ?_
 exact ⟨a2, c2, rfl, hI.ext0, hI.fin ⟨.z, trivial⟩⟩
theorem c_slices_Index_string_string (F : NP) (w0 : World) (hF : ∀ k, F k → k < w0.heap.size) (s1 : List (List UInt8)) (v1 : List UInt8) (a1 : Option Addr) (c1 : Nat) (hc : AllCl [Cl.sl cStr a1 c1 s1] F w0) (r : Int)
  (h : m_slices_Index_string_string s1 v1 = some r) :
  Calls Tryz.prog 246 #[vs a1 s1.length c1, (str v1)] w0 fun e w => e = .returned (vi r) ∧ Ext w0 w ∧ AllCl [] F w := by
 refine enterK Tryz.func246 rfl Tryz.ntmps246 rfl ?_
 have hI := Bun.start hF hc
 clear hc
 rw [m_slices_Index_string_string] at h
 refine T ?_
 refine c_seq (T ?_)
 refine c_loop (α := Nat × Int) (fun x => fun w => ∃ C, Bun noM F w0 C w [] [Cl.sl cStr a1 c1 s1] ∧ m_slices_Index_string_string_l1 s1 v1 (x.1) (x.2) = some r) (fun x _ => x.1) (fun x => [(0, vs a1 s1.length c1), (1, (str v1)), (7, vi (s1.length : Int)), (8, vi (x.2))]) (fu, 0) ⟨_, hI.arr .n ⟨.z, trivial⟩, h⟩ SB ?_
 clear h hI; rintro ⟨fuel1, i1⟩ w1 ⟨c2, hI, h⟩
 dsimp only at hI h
 rcases fuel1 with _ | fuel1
 ·rw [m_slices_Index_string_string_l1] at h; cases h
 rw [m_slices_Index_string_string_l1] at h
 refine c_sub (e := [(0, vs a1 s1.length c1), (1, (str v1)), (7, vi (s1.length : Int)), (8, vi i1)]) SB ?_
 refine T ?_
 refine c_seq (cif h et (fun hb h => ?_) (fun hb h => ?_))
 ·refine T ?_
  refine c_seq (T ?_)
  obtain ⟨e1, hx1, h⟩ := bnd_some h
  obtain ⟨ad1, cs1, hA1, hr1, hq1⟩ := hI.clat .z hx1
  obtain rfl : cs1 = [(str e1)] := hr1
  refine sI ?_
  refine T ?_
  refine cif h et (fun hb h => ?_) (fun hb h => ?_)
  ·refine T ?_
   refine c_ret ?_
   obtain rfl := some_inj h
   exact QF hI
  refine T ?_
  refine s_nil ?_
  exact k_loop (fuel1, wi64 (i1 + 1)) SB ⟨_, hI.arr GO SU, h⟩ (Nat.lt_succ_self _)
 refine c_exit ?_
 refine k_in ?_
 refine k_same ?_
 refine T ?_
 refine c_ret ?_
 obtain rfl := some_inj h
 exact QF hI
theorem c_slices_Contains_string_string (F : NP) (w0 : World) (hF : ∀ k, F k → k < w0.heap.size) (s1 : List (List UInt8)) (v1 : List UInt8) (a1 : Option Addr) (c1 : Nat) (hc : AllCl [Cl.sl cStr a1 c1 s1] F w0) (r : Bool)
  (h : m_slices_Contains_string_string s1 v1 = some r) :
  Calls Tryz.prog 240 #[vs a1 s1.length c1, (str v1)] w0 fun e w => e = .returned (vb r) ∧ Ext w0 w ∧ AllCl [] F w := by
 refine enterK Tryz.func240 rfl Tryz.ntmps240 rfl ?_
 have hI := Bun.start hF hc
 clear hc
 rw [m_slices_Contains_string_string] at h
 refine T ?_
 obtain ⟨r1, hx1, h⟩ := bnd_some h
 refine s_call gn rfl (r_callF (vs := [vs a1 s1.length c1, (str v1)]) rfl ok_246 ⟨et, ⟨et, trivial⟩⟩) (Calls.mono (c_slices_Index_string_string (Dj F noM) w0 hI.lt s1 v1 a1 c1 ⟨(hI.get .z), trivial⟩ r1 hx1) ?_)
 rintro _ w1 ⟨rfl, hx2, hl1⟩
 refine ⟨_, rfl, ?_⟩
 replace hI := (hI.ext hx2)
 refine T ?_
 refine c_ret ?_
 obtain rfl := some_inj h
 exact QF hI
theorem c_lexer_IsKeyword (F : NP) (w0 : World) (hF : ∀ k, F k → k < w0.heap.size) (s1 : List UInt8) (hc : AllCl [clSpace] F w0) (r : Bool)
  (h : m_lexer_IsKeyword s1 = some r) :
  Calls Tryz.prog 222 #[(str s1)] w0 fun e w => e = .returned (vb r) ∧ Ext w0 w ∧ AllCl [] F w := by
 refine enterK Tryz.func222 rfl Tryz.ntmps222 rfl ?_
 have hI := Bun.start hF hc
 clear hc
 rw [m_lexer_IsKeyword] at h
 refine T ?_
 obtain ⟨r1, hx1, h⟩ := bnd_some h
 refine s_call gn rfl (r_callF (vs := []) rfl ok_241 trivial) (Calls.mono (c_lexer_keywords (Dj F noM) w0 hI.lt ⟨(hI.get .z), trivial⟩ r1 hx1) ?_)
 rintro _ w1 ⟨a1, c1, rfl, hx2, hl1⟩
 refine ⟨_, rfl, ?_⟩
 replace hI := (hI.ext hx2).adds hl1; dsimp only [ca, na] at hI
 refine sm ?_
 obtain ⟨r2, hx3, h⟩ := bnd_some h
 refine s_call gn rfl (r_callF (vs := [vs a1 r1.length c1, (str s1)]) rfl ok_240 ⟨et, ⟨et, trivial⟩⟩) (Calls.mono (c_slices_Contains_string_string (Dj F noM) w1 hI.lt r1 s1 a1 c1 ⟨(hI.get .z), trivial⟩ r2 hx3) ?_)
 rintro _ w2 ⟨rfl, hx4, hl2⟩
 refine ⟨_, rfl, ?_⟩
 replace hI := (hI.ext hx4)
 refine T ?_
 refine c_ret ?_
 obtain rfl := some_inj h
 exact QF hI
theorem c_lexer_IsName (F : NP) (w0 : World) (hF : ∀ k, F k → k < w0.heap.size) (s1 : List UInt8) (hc : AllCl [clSpace] F w0) (r : Bool)
  (h : m_lexer_IsName s1 = some r) :
  Calls Tryz.prog 185 #[(str s1)] w0 fun e w => e = .returned (vb r) ∧ Ext w0 w ∧ AllCl [] F w := by
 refine enterK Tryz.func185 rfl Tryz.ntmps185 rfl ?_
 have hI := Bun.start hF hc
 clear hc
 rw [m_lexer_IsName] at h
 refine T ?_
 obtain ⟨b1, hx1, h⟩ := bnd_some h
 replace hx1 := gd_some hx1
 refine sJ ?_
 refine T ?_
 obtain ⟨r1, hx2, h⟩ := bnd_some h
 replace hx2 := gd_some hx2
 refine s_gcallU (v := (vb r1)) (g_true rfl rfl rfl rfl) rfl (fun hc => (r_callF (vs := [(Value.int .i32 (wi32 b1))]) rfl ok_156 ⟨(ev_gv et hc), trivial⟩)) (fun hc => (c_lexer_letter (Dj F noM) w0 hI.lt (wi32 b1) trivial r1 (hx2 hc)).mono fun _ _ k => ⟨k.1, k.2.1⟩) ?_
 intro w1 hx3; replace hI := hI.ext hx3
 refine T ?_
 have hI := hI.add (c := clFn_k1 (Value.func (.func 157) #[] #[]) m_lexer_inWord) ⟨rfl, fun D' w' hs hl x_1 r k h => CallV.fn (cap := []) ok_157 (c_lexer_inWord D' w' hl x_1 trivial r h)⟩
 obtain ⟨r2, hx4, h⟩ := bnd_some h
 replace hx4 := gd_some hx4
 refine s_gcallU (v := (vi r2)) (g_true rfl rfl rfl rfl) rfl (fun hc => (r_callF (vs := [(str s1), (Value.func (.func 157) #[] #[])]) rfl ok_154 ⟨(ev_gv et hc), ⟨ev_func, trivial⟩⟩)) (fun hc => (c_lexer_span (Dj F noM) w1 hI.lt s1 m_lexer_inWord (Value.func (.func 157) #[] #[]) ⟨(hI.get .z), trivial⟩ r2 (hx4 hc)).mono fun _ _ k => ⟨k.1, k.2.1⟩) ?_
 intro w2 hx5; replace hI := hI.ext hx5
 refine T ?_
 obtain ⟨r3, hx6, h⟩ := bnd_some h
 replace hx6 := gd_some hx6
 refine s_gcallU (v := (vb r3)) (g_true rfl rfl rfl rfl) rfl (fun hc => (r_callF (vs := [(str s1)]) rfl ok_222 ⟨(ev_gv et hc), trivial⟩)) (fun hc => (c_lexer_IsKeyword (Dj F noM) w2 hI.lt s1 ⟨(hI.get (.s .z)), trivial⟩ r3 (hx6 hc)).mono fun _ _ k => ⟨k.1, k.2.1⟩) ?_
 intro w3 hx7; replace hI := hI.ext hx7
 refine T ?_
 refine c_ret ?_
 obtain rfl := some_inj h
 exact QF hI
theorem c_parser_reader_isName (F : NP) (w0 : World) (hF : ∀ k, F k → k < w0.heap.size) (r1 : Gparser_reader) (b1 : Nat) (a1 : Option Addr) (c1 : Nat) (hc : AllCl [Cl.sl cGToken a1 c1 r1.l, Cl.blk b1 67 (Aparser_reader r1 a1 c1), clSpace] F w0) (r : Bool)
  (h : m_parser_reader_isName r1 = some r) :
  Calls Tryz.prog 126 #[vp b1 0] w0 fun e w => e = .returned (vb r) ∧ Ext w0 w ∧ AllCl [] F w := by
 refine enterK Tryz.func126 rfl Tryz.ntmps126 rfl ?_
 have hI := Bun.start hF hc
 clear hc
 rw [m_parser_reader_isName] at h
 refine T ?_
 refine c_seq (c_drawX [] false (.c (0, .q) (.c (1, .q) (.c (2, .q) (.c (3, .q) (.c (4, .q) (.c (5, .q) (.c (6, .q) (.c (7, .q) (.c (8, .q) (.c (9, .q) (.c (10, .q) (.c (11, .q) (.c (12, .q) (.c (13, .q) (.c (14, .q) (.c (15, .q) (.c (16, .q) (.c (17, .q) (.c (18, .q) (.c (19, .q) (.c (20, .q) (.c (21, .q) (.c (22, .q) (.c (23, .q) (.c (24, .q) (.c (25, .q) (.c (26, .q) (.c (27, .q) (.c (28, .q) (.c (29, .q) (.c (30, .q) (.c (31, .q) (.c (32, .q) (.c (33, .q) (.c (34, .q) (.c (35, .q) (.c (36, .s) (.c (37, .q) (.c (38, .q) .n))))))))))))))))))))))))))))))))))))))) hI (by kernel_rfl) (by kernel_rfl) ?_)
 clear hI; intro w1 hI
 refine V ?_
 obtain ⟨e1, hx1, h⟩ := bnd_some h
 replace hx1 := gd_some hx1
 obtain ⟨ad1, cs1, hq1⟩ := hI.gclat .z hx1
 have hq2 : (decide (r1.at_ < (r1.l.length : Int))) = true → CA (Dj F noM) w1 (ad1.add (Int.toNat r1.at_ * 3)) (lToken e1) := fun hc => caq (hq1 hc).2.1 (hq1 hc).2.2
 refine vJ ?_
 refine V ?_
 obtain ⟨e2, hx2, h⟩ := bnd_some h
 replace hx2 := gd_some hx2
 obtain ⟨ad2, cs2, hq3⟩ := hI.gclat .z hx2
 have hq4 : ((decide (r1.at_ < (r1.l.length : Int))) && (decide (e1.Kind = 1))) = true → CA (Dj F noM) w1 (ad2.add (Int.toNat r1.at_ * 3)) (lToken e2) := fun hc => caq (hq3 hc).2.1 (hq3 hc).2.2
 refine vJ ?_
 refine V ?_
 obtain ⟨r2, hx3, h⟩ := bnd_some h
 replace hx3 := gd_some hx3
 refine la_gcallU (v := (vb r2)) rfl (g_true rfl rfl rfl rfl) rfl (fun hc => (r_callF (vs := [(str e2.Text)]) rfl ok_185 ⟨(ev_gv et hc), trivial⟩)) (fun hc => (c_lexer_IsName (Dj F noM) w1 hI.lt e2.Text ⟨(hI.get (.s (.s .z))), trivial⟩ r2 (hx3 hc)).mono fun _ _ k => ⟨k.1, k.2.1⟩) ?_
 intro w2 hx4; replace hI := hI.ext hx4
 refine V ?_
 refine c_ret ?_
 obtain rfl := some_inj h
 exact QF hI
theorem c_parser_reader_fail (F : NP) (w0 : World) (hF : ∀ k, F k → k < w0.heap.size) (r1 : Gparser_reader) (at1 : Int) (e1 : Int) (b1 : Nat) (a1 : Option Addr) (c1 : Nat) (hc : AllCl [Cl.sl cGToken a1 c1 r1.l, Cl.blk b1 67 (Aparser_reader r1 a1 c1)] F w0) (r : Pan Unit)
  (h : m_parser_reader_fail r1 at1 e1 = some r) :
  Calls Tryz.prog 71 #[vp b1 0, vi at1, vi e1] w0 fun e w => (∃ rx : Unit, r = .ret rx ∧ e = .returned (Value.tuple #[]) ∧ Ext w0 w ∧ AllCl [] F w) ∨ ∃ (pa pn : Int), r = .pan pa pn ∧ e = .panicked [pe 114 pa pn] ∧ Ext w0 w := by
 refine enterP (l := [vp b1 0, vi at1, vi e1]) Tryz.func71 rfl Tryz.ntmps71 rfl ?_
 have hI := Bun.start hF hc
 clear hc
 rw [m_parser_reader_fail] at h
 refine T ?_
 refine sq (y_build (vs := [(0, vi at1), (1, vi e1)]) (cs := #[vi at1, vi e1]) rfl ⟨rfl, et, ⟨rfl, et, trivial⟩⟩ (by kernel_rfl)) ?_
 refine sq (y_makeIface rfl u114 rfl et) ?_
 obtain rfl := some_inj h
 exact s_panic gn rfl et (kp_of (.inr ⟨_, _, rfl, rfl, hI.ext0⟩))
theorem c_lin_reserved (F : NP) (w0 : World) (hF : ∀ k, F k → k < w0.heap.size) (s1 : List UInt8) (hc : AllCl [] F w0) (r : Bool)
  (h : m_lin_reserved s1 = some r) :
  Calls Tryz.prog 221 #[(str s1)] w0 fun e w => e = .returned (vb r) ∧ Ext w0 w ∧ AllCl [] F w := by
 refine enterK Tryz.func221 rfl Tryz.ntmps221 rfl ?_
 have hI := Bun.start hF hc
 clear hc
 rw [m_lin_reserved] at h
 refine T ?_
 refine c_seq (T ?_)
 refine c_seq (T ?_)
 refine cif h et (fun hb h => ?_) (fun hb h => ?_)
 ·refine T ?_
  refine cif h et (fun hb h => ?_) (fun hb h => ?_)
  ·refine T ?_
   refine c_ret ?_
   obtain rfl := some_inj h
   exact QF hI
  refine T ?_
  refine c_ret ?_
  obtain rfl := some_inj h
  exact QF hI
 refine T ?_
 refine cif h et (fun hb h => ?_) (fun hb h => ?_)
 ·refine T ?_
  refine cif h et (fun hb h => ?_) (fun hb h => ?_)
  ·refine T ?_
   refine c_ret ?_
   obtain rfl := some_inj h
   exact QF hI
  refine T ?_
  refine c_ret ?_
  obtain rfl := some_inj h
  exact QF hI
 refine T ?_
 refine cif h et (fun hb h => ?_) (fun hb h => ?_)
 ·refine T ?_
  refine cif h et (fun hb h => ?_) (fun hb h => ?_)
  ·refine T ?_
   refine c_ret ?_
   obtain rfl := some_inj h
   exact QF hI
  refine T ?_
  refine c_ret ?_
  obtain rfl := some_inj h
  exact QF hI
 refine T ?_
 refine cif h et (fun hb h => ?_) (fun hb h => ?_)
 ·refine T ?_
  refine cif h et (fun hb h => ?_) (fun hb h => ?_)
  ·refine T ?_
   refine c_ret ?_
   obtain rfl := some_inj h
   exact QF hI
  refine T ?_
  refine c_ret ?_
  obtain rfl := some_inj h
  exact QF hI
 refine T ?_
 refine cif h et (fun hb h => ?_) (fun hb h => ?_)
 ·refine T ?_
  refine cif h et (fun hb h => ?_) (fun hb h => ?_)
  ·refine T ?_
   refine c_ret ?_
   obtain rfl := some_inj h
   exact QF hI
  refine T ?_
  refine c_ret ?_
  obtain rfl := some_inj h
  exact QF hI
 refine T ?_
 refine cif h et (fun hb h => ?_) (fun hb h => ?_)
 ·refine T ?_
  refine cif h et (fun hb h => ?_) (fun hb h => ?_)
  ·refine T ?_
   refine c_ret ?_
   obtain rfl := some_inj h
   exact QF hI
  refine T ?_
  refine c_ret ?_
  obtain rfl := some_inj h
  exact QF hI
 refine T ?_
 refine cif h et (fun hb h => ?_) (fun hb h => ?_)
 ·refine T ?_
  refine cif h et (fun hb h => ?_) (fun hb h => ?_)
  ·refine T ?_
   refine c_ret ?_
   obtain rfl := some_inj h
   exact QF hI
  refine T ?_
  refine c_ret ?_
  obtain rfl := some_inj h
  exact QF hI
 refine T ?_
 refine cif h et (fun hb h => ?_) (fun hb h => ?_)
 ·refine T ?_
  refine cif h et (fun hb h => ?_) (fun hb h => ?_)
  ·refine T ?_
   refine c_ret ?_
   obtain rfl := some_inj h
   exact QF hI
  refine T ?_
  refine c_ret ?_
  obtain rfl := some_inj h
  exact QF hI
 refine T ?_
 refine cif h et (fun hb h => ?_) (fun hb h => ?_)
 ·refine T ?_
  refine cif h et (fun hb h => ?_) (fun hb h => ?_)
  ·refine T ?_
   refine c_ret ?_
   obtain rfl := some_inj h
   exact QF hI
  refine T ?_
  refine c_ret ?_
  obtain rfl := some_inj h
  exact QF hI
 refine T ?_
 refine cif h et (fun hb h => ?_) (fun hb h => ?_)
 ·refine T ?_
  refine cif h et (fun hb h => ?_) (fun hb h => ?_)
  ·refine T ?_
   refine c_ret ?_
   obtain rfl := some_inj h
   exact QF hI
  refine T ?_
  refine c_ret ?_
  obtain rfl := some_inj h
  exact QF hI
 refine T ?_
 refine cif h et (fun hb h => ?_) (fun hb h => ?_)
 ·refine T ?_
  refine cif h et (fun hb h => ?_) (fun hb h => ?_)
  ·refine T ?_
   refine c_ret ?_
   obtain rfl := some_inj h
   exact QF hI
  refine T ?_
  refine c_ret ?_
  obtain rfl := some_inj h
  exact QF hI
 refine T ?_
 refine cif h et (fun hb h => ?_) (fun hb h => ?_)
 ·refine T ?_
  refine cif h et (fun hb h => ?_) (fun hb h => ?_)
  ·refine T ?_
   refine c_ret ?_
   obtain rfl := some_inj h
   exact QF hI
  refine T ?_
  refine c_ret ?_
  obtain rfl := some_inj h
  exact QF hI
 refine T ?_
 refine cif h et (fun hb h => ?_) (fun hb h => ?_)
 ·refine T ?_
  refine cif h et (fun hb h => ?_) (fun hb h => ?_)
  ·refine T ?_
   refine c_ret ?_
   obtain rfl := some_inj h
   exact QF hI
  refine T ?_
  refine c_ret ?_
  obtain rfl := some_inj h
  exact QF hI
 refine T ?_
 refine cif h et (fun hb h => ?_) (fun hb h => ?_)
 ·refine T ?_
  refine cif h et (fun hb h => ?_) (fun hb h => ?_)
  ·refine T ?_
   refine c_ret ?_
   obtain rfl := some_inj h
   exact QF hI
  refine T ?_
  refine c_ret ?_
  obtain rfl := some_inj h
  exact QF hI
 refine T ?_
 refine cif h et (fun hb h => ?_) (fun hb h => ?_)
 ·refine T ?_
  refine cif h et (fun hb h => ?_) (fun hb h => ?_)
  ·refine T ?_
   refine c_ret ?_
   obtain rfl := some_inj h
   exact QF hI
  refine T ?_
  refine c_ret ?_
  obtain rfl := some_inj h
  exact QF hI
 refine T ?_
 refine cif h et (fun hb h => ?_) (fun hb h => ?_)
 ·refine T ?_
  refine cif h et (fun hb h => ?_) (fun hb h => ?_)
  ·refine T ?_
   refine c_ret ?_
   obtain rfl := some_inj h
   exact QF hI
  refine T ?_
  refine c_ret ?_
  obtain rfl := some_inj h
  exact QF hI
 refine T ?_
 refine cif h et (fun hb h => ?_) (fun hb h => ?_)
 ·refine T ?_
  refine cif h et (fun hb h => ?_) (fun hb h => ?_)
  ·refine T ?_
   refine c_ret ?_
   obtain rfl := some_inj h
   exact QF hI
  refine T ?_
  refine c_ret ?_
  obtain rfl := some_inj h
  exact QF hI
 refine T ?_
 refine cif h et (fun hb h => ?_) (fun hb h => ?_)
 ·refine T ?_
  refine cif h et (fun hb h => ?_) (fun hb h => ?_)
  ·refine T ?_
   refine c_ret ?_
   obtain rfl := some_inj h
   exact QF hI
  refine T ?_
  refine c_ret ?_
  obtain rfl := some_inj h
  exact QF hI
 refine T ?_
 refine cif h et (fun hb h => ?_) (fun hb h => ?_)
 ·refine T ?_
  refine cif h et (fun hb h => ?_) (fun hb h => ?_)
  ·refine T ?_
   refine c_ret ?_
   obtain rfl := some_inj h
   exact QF hI
  refine T ?_
  refine c_ret ?_
  obtain rfl := some_inj h
  exact QF hI
 refine T ?_
 refine cif h et (fun hb h => ?_) (fun hb h => ?_)
 ·refine T ?_
  refine cif h et (fun hb h => ?_) (fun hb h => ?_)
  ·refine T ?_
   refine c_ret ?_
   obtain rfl := some_inj h
   exact QF hI
  refine T ?_
  refine c_ret ?_
  obtain rfl := some_inj h
  exact QF hI
 refine T ?_
 refine cif h et (fun hb h => ?_) (fun hb h => ?_)
 ·refine T ?_
  refine cif h et (fun hb h => ?_) (fun hb h => ?_)
  ·refine T ?_
   refine c_ret ?_
   obtain rfl := some_inj h
   exact QF hI
  refine T ?_
  refine c_ret ?_
  obtain rfl := some_inj h
  exact QF hI
 refine T ?_
 refine cif h et (fun hb h => ?_) (fun hb h => ?_)
 ·refine T ?_
  refine c_ret ?_
  obtain rfl := some_inj h
  exact QF hI
 refine T ?_
 refine c_ret ?_
 obtain rfl := some_inj h
 exact QF hI
theorem c_lin_identifier (F : NP) (w0 : World) (hF : ∀ k, F k → k < w0.heap.size) (s1 : List UInt8) (hc : AllCl [] F w0) (r : Bool)
  (h : m_lin_identifier s1 = some r) :
  Calls Tryz.prog 184 #[(str s1)] w0 fun e w => e = .returned (vb r) ∧ Ext w0 w ∧ AllCl [] F w := by
 refine enterK Tryz.func184 rfl Tryz.ntmps184 rfl ?_
 have hI := Bun.start hF hc
 clear hc
 rw [m_lin_identifier] at h
 refine T ?_
 refine c_seq (T ?_)
 obtain ⟨r1, hx1, h⟩ := bnd_some h
 replace hx1 := gd_some hx1
 refine s_gcallU (v := (vb r1)) (g_false rfl rfl rfl rfl) rfl (fun hc => (r_callF (vs := [(str s1)]) rfl ok_221 ⟨(ev_gv et hc), trivial⟩)) (fun hc => (c_lin_reserved (Dj F noM) w0 hI.lt s1 trivial r1 (hx1 hc)).mono fun _ _ k => ⟨k.1, k.2.1⟩) ?_
 intro w1 hx2; replace hI := hI.ext hx2
 refine T ?_
 obtain ⟨b1, hx3, h⟩ := bnd_some h
 replace hx3 := gd_some hx3
 refine sJ ?_
 refine T ?_
 obtain ⟨b2, hx4, h⟩ := bnd_some h
 replace hx4 := gd_some hx4
 refine sJ ?_
 refine T ?_
 refine cif h et (fun hb h => ?_) (fun hb h => ?_)
 ·refine T ?_
  refine c_ret ?_
  obtain rfl := some_inj h
  exact QF hI
 refine T ?_
 refine c_seq (T ?_)
 refine c_loop (α := Nat × Int) (fun x => fun w => ∃ C, Bun noM F w0 C w [] [] ∧ m_lin_identifier_l1 s1 (x.1) (x.2) = some r) (fun x _ => x.1) (fun x => [(0, (str s1)), (28, vi (s1.length : Int)), (29, vi (x.2))]) (fu, 0) ⟨_, hI.arr .n trivial, h⟩ SB ?_
 clear h hI; rintro ⟨fuel1, i1⟩ w2 ⟨c1, hI, h⟩
 dsimp only at hI h
 rcases fuel1 with _ | fuel1
 ·rw [m_lin_identifier_l1] at h; cases h
 rw [m_lin_identifier_l1] at h
 refine c_sub (e := [(0, (str s1)), (28, vi (s1.length : Int)), (29, vi i1)]) SB ?_
 refine T ?_
 refine c_seq (cif h et (fun hb h => ?_) (fun hb h => ?_))
 ·refine T ?_
  refine c_seq (T ?_)
  obtain ⟨b3, hx5, h⟩ := bnd_some h
  refine sI ?_
  refine T ?_
  refine cif h et (fun hb h => ?_) (fun hb h => ?_)
  ·refine T ?_
   refine c_ret ?_
   obtain rfl := some_inj h
   exact QF hI
  refine T ?_
  refine s_nil ?_
  exact k_loop (fuel1, wi64 (i1 + 1)) SB ⟨_, hI.arr GO SU, h⟩ (Nat.lt_succ_self _)
 refine c_exit ?_
 refine k_in ?_
 refine k_same ?_
 refine T ?_
 refine c_ret ?_
 obtain rfl := some_inj h
 exact QF hI
theorem c_lin_Var (F : NP) (w0 : World) (hF : ∀ k, F k → k < w0.heap.size) (name1 : List UInt8) (hc : AllCl [] F w0) (r : GLin)
  (h : m_lin_Var name1 = some r) :
  Calls Tryz.prog 127 #[(str name1)] w0 fun e w => ∃ (a1 : Option Addr) (c1 : Nat), e = .returned (Value.agg (ALin r a1 c1)) ∧ Ext w0 w ∧ AllCl [Cl.sl cGMono a1 c1 r.L] F w := by
 refine enterK Tryz.func127 rfl Tryz.ntmps127 rfl ?_
 have hI := Bun.start hF hc
 clear hc
 rw [m_lin_Var] at h
 refine sr (l_alloc (cs := #[vi 0, vs none 0 0]) hI gn rfl rfl zero_27 rfl ?_)
 clear hI; intro b1 c2 w1 hI
 refine nk (c_seq (T ?_))
 obtain ⟨r1, hx1, h⟩ := bnd_some h
 refine s_call gn rfl (r_callF (vs := [(str name1)]) rfl ok_184 ⟨et, trivial⟩) (Calls.mono (c_lin_identifier (Dj F c2) w1 hI.lt name1 trivial r1 hx1) ?_)
 rintro _ w2 ⟨rfl, hx2, hl1⟩
 refine ⟨_, rfl, ?_⟩
 replace hI := (hI.ext hx2)
 refine T ?_
 refine cif h et (fun hb h => ?_) (fun hb h => ?_)
 ·refine sr (sq (y_build (vs := []) (cs := #[vi 0, vs none 0 0]) rfl trivial (by kernel_rfl)) ?_)
  refine l_store (new := [vi 0, vs none 0 0]) (cs' := #[vi 0, vs none 0 0]) hI .z gn rfl rfl et et rfl size_27 rfl rfl rfl ?_
  clear hI; intro c3 w3 hI
  refine nk (c_ret ?_)
  have hI := hI.add (c := Cl.sl cGMono none 0 ([] : List GMono)) SlC.nil
  obtain rfl := some_inj h
  refine QG ?_
  exact ⟨none, 0, rfl, hI.ext0, hI.fin ⟨.z, trivial⟩⟩
 refine T ?_
 refine sq (y_build (vs := [(0, (str name1)), (1, vi 1)]) (cs := #[(str name1), vi 1]) rfl ⟨rfl, et, ⟨rfl, ev_const, trivial⟩⟩ (by kernel_rfl)) ?_
 refine l_lit (c := cGMono) (xs := ([(⟨name1, 1⟩ : GMono)] : List GMono)) (vs := [(0, (Value.agg #[(str name1), vi 1]))]) (cs := #[(str name1), vi 1]) (css := [[(str name1), vi 1]]) hI gn rfl rfl u25 info_64 rfl ⟨rfl, et, trivial⟩ (by kernel_rfl) ⟨rfl, trivial⟩ rfl rfl rfl ?_
 clear hI; intro b2 c4 w4 hI
 refine sq (y_build (vs := [(1, (vs (some ⟨b2, 0, none⟩) ([(⟨name1, 1⟩ : GMono)] : List GMono).length 1))]) (cs := #[vi 0, (vs (some ⟨b2, 0, none⟩) ([(⟨name1, 1⟩ : GMono)] : List GMono).length 1)]) rfl ⟨rfl, et, trivial⟩ (by kernel_rfl)) ?_
 refine l_store (new := [vi 0, (vs (some ⟨b2, 0, none⟩) ([(⟨name1, 1⟩ : GMono)] : List GMono).length 1)]) (cs' := #[vi 0, (vs (some ⟨b2, 0, none⟩) ([(⟨name1, 1⟩ : GMono)] : List GMono).length 1)]) hI (.s .z) gn rfl rfl et et rfl size_27 rfl rfl rfl ?_
 clear hI; intro c5 w5 hI
 refine nk (c_ret ?_)
 obtain ⟨c6, hI⟩ := hI.release .z
 obtain rfl := some_inj h
 refine QG ?_
 exact ⟨some ⟨b2, 0, none⟩, 1, rfl, hI.ext0, hI.fin ⟨.z, trivial⟩⟩
theorem c_lin_Validate (F : NP) (w0 : World) (hF : ∀ k, F k → k < w0.heap.size) (l1 : GLin) (a1 : Option Addr) (c1 : Nat) (hc : AllCl [Cl.sl cGMono a1 c1 l1.L] F w0) (r : Int)
  (h : m_lin_Validate l1 = some r) :
  Calls Tryz.prog 122 #[(Value.agg (ALin l1 a1 c1))] w0 fun e w => e = .returned (vi r) ∧ Ext w0 w ∧ AllCl [] F w := by
 refine enterK Tryz.func122 rfl Tryz.ntmps122 rfl ?_
 have hI := Bun.start hF hc
 clear hc
 rw [m_lin_Validate] at h
 refine sr (l_box (v := (Value.agg (ALin l1 a1 c1))) (cs := (ALin l1 a1 c1)) hI gn rfl rfl et rfl ?_)
 clear hI; intro b1 c2 w1 hI
 obtain ⟨c3, hI⟩ := hI.relBox .z
 refine T ?_
 refine c_seq (T ?_)
 refine c_loop (α := Nat × Int) (fun x => fun w => ∃ C, Bun noM F w0 C w [] [Cl.blk b1 27 (ALin l1 a1 c1), Cl.sl cGMono a1 c1 l1.L] ∧ m_lin_Validate_l1 l1 (x.1) (x.2) = some r) (fun x _ => x.1) (fun x => [(1, vp b1 0), (6, vs a1 l1.L.length c1), (7, vi (l1.L.length : Int)), (8, vi (x.2))]) (fu, 0) ⟨_, hI.arr .n ⟨.z, (.s .z), trivial⟩, h⟩ SB ?_
 clear h hI; rintro ⟨fuel1, i1⟩ w2 ⟨c4, hI, h⟩
 dsimp only at hI h
 rcases fuel1 with _ | fuel1
 ·rw [m_lin_Validate_l1] at h; cases h
 rw [m_lin_Validate_l1] at h
 refine c_sub (e := [(1, vp b1 0), (6, vs a1 l1.L.length c1), (7, vi (l1.L.length : Int)), (8, vi i1)]) SB ?_
 refine T ?_
 refine c_seq (cif h et (fun hb h => ?_) (fun hb h => ?_))
 ·refine T ?_
  refine c_seq (T ?_)
  obtain ⟨e1, hx1, h⟩ := bnd_some h
  obtain ⟨ad1, cs1, hA1, hr1, hq1⟩ := hI.clat (.s .z) hx1
  obtain rfl : cs1 = (lMono e1) := hr1
  refine sI ?_
  refine T ?_
  refine l_alloc (cs := #[(str ([] : List UInt8)), vi 0]) hI gn rfl rfl zero_64 rfl ?_
  clear hI; intro b2 c5 w3 hI
  refine sa ?_
  refine l_store (new := (lMono e1)) (cs' := (AMono e1)) hI .z gn rfl rfl et et rfl size_64 rfl rfl rfl ?_
  clear hI; intro c6 w4 hI
  refine nk (c_seq (c_drawX [] false (.c (0, .q) (.c (1, .q) (.c (2, .s) (.c (3, .q) (.c (4, .q) (.c (5, .q) (.c (6, .q) (.c (7, .q) (.c (8, .q) (.c (9, .q) (.c (10, .q) (.c (11, .q) (.c (12, .q) (.c (13, .q) (.c (14, .q) (.c (15, .q) (.c (16, .q) (.c (17, .q) (.c (18, .q) (.c (19, .q) (.c (20, .q) (.c (21, .q) (.c (22, .q) (.c (23, .q) (.c (24, .q) .n))))))))))))))))))))))))) hI (by kernel_rfl) (by kernel_rfl) ?_))
  clear hI; intro w5 hI
  refine V ?_
  obtain ⟨r1, hx2, h⟩ := bnd_some h
  refine la_call rfl gn rfl (r_callF (vs := [(str e1.Name)]) rfl ok_184 ⟨et, trivial⟩) (Calls.mono (c_lin_identifier (Dj F c6) w5 hI.lt e1.Name trivial r1 hx2) ?_)
  rintro _ w6 ⟨rfl, hx3, hl1⟩
  refine ⟨_, rfl, hx3, ?_⟩
  replace hI := (hI.ext hx3)
  refine V ?_
  obtain ⟨e2, hx4, h⟩ := bnd_some h
  replace hx4 := gd_some hx4
  obtain ⟨ad2, cs2, hq2⟩ := hI.gclat (.s .z) hx4
  have hq3 : ((!((!r1) || (decide (e1.By = 0)))) && (decide (0 < i1))) = true → CA (Dj F c6) w6 (ad2.add (Int.toNat (wi64 (i1 - 1)) * 2)) (lMono e2) := fun hc => caq (hq2 hc).2.1 (hq2 hc).2.2
  refine vJ ?_
  refine V ?_
  refine cif h et (fun hb h => ?_) (fun hb h => ?_)
  ·refine T ?_
   refine c_ret ?_
   obtain rfl := some_inj h
   exact QF hI
  refine T ?_
  refine s_nil ?_
  exact k_loop (fuel1, wi64 (i1 + 1)) SB ⟨_, hI.arr GO SU, h⟩ (Nat.lt_succ_self _)
 refine c_exit ?_
 refine k_in ?_
 refine k_same ?_
 refine T ?_
 refine c_ret ?_
 obtain rfl := some_inj h
 exact QF hI
theorem c_lin_magnitude (F : NP) (w0 : World) (hF : ∀ k, F k → k < w0.heap.size) (n1 : Int) (hc : AllCl [] F w0) (r : Int)
  (h : m_lin_magnitude n1 = some r) :
  Calls Tryz.prog 224 #[vi n1] w0 fun e w => e = .returned (Value.int .u64 r) ∧ Ext w0 w ∧ AllCl [] F w := by
 refine enterK Tryz.func224 rfl Tryz.ntmps224 rfl ?_
 have hI := Bun.start hF hc
 clear hc
 rw [m_lin_magnitude] at h
 refine T ?_
 refine c_seq (T ?_)
 refine cif h et (fun hb h => ?_) (fun hb h => ?_)
 ·refine T ?_
  refine c_ret ?_
  obtain rfl := some_inj h
  exact QF hI
 refine T ?_
 refine c_ret ?_
 obtain rfl := some_inj h
 exact QF hI
theorem c_lin_product (F : NP) (w0 : World) (hF : ∀ k, F k → k < w0.heap.size) (a1 : Int) (b1 : Int) (hc : AllCl [] F w0) (r : Int × Int)
  (h : m_lin_product a1 b1 = some r) :
  Calls Tryz.prog 223 #[(Value.int .u64 a1), (Value.int .u64 b1)] w0 fun e w => e = .returned (Value.tuple #[(Value.int .u64 r.1), (Value.int .u64 r.2)]) ∧ Ext w0 w ∧ AllCl [] F w := by
 refine enterK Tryz.func223 rfl Tryz.ntmps223 rfl ?_
 have hI := Bun.start hF hc
 clear hc
 rw [m_lin_product] at h
 refine sr (sac ?_)
 refine sac ?_
 refine nk (sr (sm ?_))
 refine sq (y_bits rfl et ev_const rfl) ?_
 refine sm ?_
 refine sq (y_bits rfl et ev_const rfl) ?_
 refine sq (y_mul rfl et et) ?_
 obtain ⟨low1, hx1, h⟩ := bnd_some h
 refine sq (binU (y_assign rfl et) (congrArg (Value.int .u64) (some_inj hx1))) ?_
 refine nk (sr (sm ?_))
 refine sq (y_shrc (s := 32) rfl et ev_const (by decide) rfl) ?_
 refine sm ?_
 refine sq (y_bits rfl et ev_const rfl) ?_
 refine sq (y_mul rfl et et) ?_
 refine sm ?_
 refine sq (y_shrc (s := 32) rfl et ev_const (by decide) rfl) ?_
 refine sq (y_add rfl et et) ?_
 obtain ⟨mid1, hx2, h⟩ := bnd_some h
 refine sq (binU (y_assign rfl et) (congrArg (Value.int .u64) (some_inj hx2))) ?_
 refine nk (sr (sm ?_))
 refine sq (y_bits rfl et ev_const rfl) ?_
 refine sm ?_
 refine sq (y_shrc (s := 32) rfl et ev_const (by decide) rfl) ?_
 refine sq (y_mul rfl et et) ?_
 refine sm ?_
 refine sq (y_bits rfl et ev_const rfl) ?_
 refine sq (y_add rfl et et) ?_
 obtain ⟨cross1, hx3, h⟩ := bnd_some h
 refine sq (binU (y_assign rfl et) (congrArg (Value.int .u64) (some_inj hx3))) ?_
 refine s_nil ?_
 refine k_next (e := [(0, (Value.int .u64 a1)), (1, (Value.int .u64 b1)), (7, (Value.int .u64 mid1)), (8, (Value.int .u64 cross1))]) SB ?_
 refine sr (sm ?_)
 refine sq (y_shrc (s := 32) rfl et ev_const (by decide) rfl) ?_
 refine sm ?_
 refine sq (y_shrc (s := 32) rfl et ev_const (by decide) rfl) ?_
 refine sq (y_mul rfl et et) ?_
 refine sm ?_
 refine sq (y_shrc (s := 32) rfl et ev_const (by decide) rfl) ?_
 refine sq (y_add rfl et et) ?_
 refine sm ?_
 refine sq (y_shrc (s := 32) rfl et ev_const (by decide) rfl) ?_
 refine sq (y_add rfl et et) ?_
 refine sm ?_
 refine sm ?_
 refine sq (y_mul rfl et et) ?_
 obtain ⟨hi1, hx4, h⟩ := bnd_some h
 refine sq (binU (y_assign rfl et) (congrArg (Value.int .u64) (some_inj hx4))) ?_
 refine T ?_
 refine c_ret ?_
 obtain rfl := some_inj h
 exact QF hI
theorem c_lin_times (F : NP) (w0 : World) (hF : ∀ k, F k → k < w0.heap.size) (a1 : Int) (b1 : Int) (hc : AllCl [] F w0) (r : Int × Bool)
  (h : m_lin_times a1 b1 = some r) :
  Calls Tryz.prog 186 #[vi a1, vi b1] w0 fun e w => e = .returned (Value.tuple #[vi r.1, vb r.2]) ∧ Ext w0 w ∧ AllCl [] F w := by
 refine enterK Tryz.func186 rfl Tryz.ntmps186 rfl ?_
 have hI := Bun.start hF hc
 clear hc
 rw [m_lin_times] at h
 refine T ?_
 obtain ⟨r1, hx1, h⟩ := bnd_some h
 refine s_call gn rfl (r_callF (vs := [vi a1]) rfl ok_224 ⟨et, trivial⟩) (Calls.mono (c_lin_magnitude (Dj F noM) w0 hI.lt a1 trivial r1 hx1) ?_)
 rintro _ w1 ⟨rfl, hx2, hl1⟩
 refine ⟨_, rfl, ?_⟩
 replace hI := (hI.ext hx2)
 refine sm ?_
 obtain ⟨r2, hx3, h⟩ := bnd_some h
 refine s_call gn rfl (r_callF (vs := [vi b1]) rfl ok_224 ⟨et, trivial⟩) (Calls.mono (c_lin_magnitude (Dj F noM) w1 hI.lt b1 trivial r2 hx3) ?_)
 rintro _ w2 ⟨rfl, hx4, hl2⟩
 refine ⟨_, rfl, ?_⟩
 replace hI := (hI.ext hx4)
 obtain ⟨r3, hx5, h⟩ := bnd_some h
 refine s_call gn rfl (r_callF (vs := [(Value.int .u64 r1), (Value.int .u64 r2)]) rfl ok_223 ⟨et, ⟨et, trivial⟩⟩) (Calls.mono (c_lin_product (Dj F noM) w2 hI.lt r1 r2 trivial r3 hx5) ?_)
 rintro _ w3 ⟨rfl, hx6, hl3⟩
 refine ⟨_, rfl, ?_⟩
 replace hI := (hI.ext hx6)
 refine sm ?_
 refine sq (y_extract rfl et rfl) ?_
 refine sq (y_extract rfl et rfl) ?_
 refine sa ?_
 refine sa ?_
 refine nk (sr (sm ?_))
 refine sq (y_lss rfl et ev_const) ?_
 refine sm ?_
 refine sq (y_lss rfl et ev_const) ?_
 refine sq (y_neb rfl u4 et et) ?_
 obtain ⟨negative1, hx7, h⟩ := bnd_some h
 refine sq (binU (y_assign rfl et) (congrArg Value.bool (some_inj hx7))) ?_
 refine nk (c_seq (T ?_))
 refine cif h et (fun hb h => ?_) (fun hb h => ?_)
 ·refine T ?_
  refine c_ret ?_
  obtain rfl := some_inj h
  exact QF hI
 refine T ?_
 refine cif h et (fun hb h => ?_) (fun hb h => ?_)
 ·refine T ?_
  refine c_ret ?_
  obtain rfl := some_inj h
  exact QF hI
 refine T ?_
 refine c_ret ?_
 obtain rfl := some_inj h
 exact QF hI
theorem c_lin_Scale (F : NP) (w0 : World) (hF : ∀ k, F k → k < w0.heap.size) (a1 : GLin) (by1 : Int) (a2 : Option Addr) (c1 : Nat) (hc : AllCl [Cl.sl cGMono a2 c1 a1.L] F w0) (r : GLin × Int)
  (h : m_lin_Scale a1 by1 = some r) :
  Calls Tryz.prog 129 #[(Value.agg (ALin a1 a2 c1)), vi by1] w0 fun e w => ∃ (a3 : Option Addr) (c2 : Nat), e = .returned (Value.tuple #[(Value.agg (ALin r.1 a3 c2)), vi r.2]) ∧ Ext w0 w ∧ AllCl [Cl.sl cGMono a3 c2 r.1.L] F w := by
 refine enterK Tryz.func129 rfl Tryz.ntmps129 rfl ?_
 have hI := Bun.start hF hc
 clear hc
 rw [m_lin_Scale] at h
 refine sr (l_box (v := (Value.agg (ALin a1 a2 c1))) (cs := (ALin a1 a2 c1)) hI gn rfl rfl et rfl ?_)
 clear hI; intro b1 c3 w1 hI
 obtain ⟨c4, hI⟩ := hI.relBox .z
 refine l_alloc (cs := #[vi 0, vs none 0 0]) hI gn rfl rfl zero_27 rfl ?_
 clear hI; intro b2 c5 w2 hI
 refine T ?_
 refine c_seq (sr (sq (y_loadN (l := (lLin a1 a2 c1)) rfl et u27 rfl size_27 (hI.kblk (l := (lLin a1 a2 c1)) .z rfl).1) ?_))
 obtain ⟨r1, hx1, h⟩ := bnd_some h
 refine s_call gn rfl (r_callF (vs := [(Value.agg (ALin a1 a2 c1))]) rfl ok_122 ⟨et, trivial⟩) (Calls.mono (c_lin_Validate (Dj F c5) w2 hI.lt a1 a2 c1 ⟨(hI.get (.s .z)), trivial⟩ r1 hx1) ?_)
 rintro _ w3 ⟨rfl, hx2, hl1⟩
 refine ⟨_, rfl, ?_⟩
 replace hI := (hI.ext hx2)
 refine T ?_
 refine cif h et (fun hb h => ?_) (fun hb h => ?_)
 ·refine sr (sq (y_build (vs := []) (cs := #[vi 0, vs none 0 0]) rfl trivial (by kernel_rfl)) ?_)
  refine l_store (new := [vi 0, vs none 0 0]) (cs' := #[vi 0, vs none 0 0]) hI .z gn rfl rfl et et rfl size_27 rfl rfl rfl ?_
  clear hI; intro c6 w4 hI
  refine T ?_
  refine c_ret ?_
  have hI := hI.add (c := Cl.sl cGMono none 0 ([] : List GMono)) SlC.nil
  obtain rfl := some_inj h
  refine QG ?_
  exact ⟨none, 0, rfl, hI.ext0, hI.fin ⟨.z, trivial⟩⟩
 refine T ?_
 refine c_seq (T ?_)
 refine cif h et (fun hb h => ?_) (fun hb h => ?_)
 ·refine sr (sq (y_build (vs := []) (cs := #[vi 0, vs none 0 0]) rfl trivial (by kernel_rfl)) ?_)
  refine l_store (new := [vi 0, vs none 0 0]) (cs' := #[vi 0, vs none 0 0]) hI .z gn rfl rfl et et rfl size_27 rfl rfl rfl ?_
  clear hI; intro c7 w5 hI
  refine T ?_
  refine c_ret ?_
  have hI := hI.add (c := Cl.sl cGMono none 0 ([] : List GMono)) SlC.nil
  obtain rfl := some_inj h
  refine QG ?_
  exact ⟨none, 0, rfl, hI.ext0, hI.fin ⟨.z, trivial⟩⟩
 refine T ?_
 obtain ⟨r2, hx3, h⟩ := bnd_some h
 refine s_call gn rfl (r_callF (vs := [vi a1.K, vi by1]) rfl ok_186 ⟨et, ⟨et, trivial⟩⟩) (Calls.mono (c_lin_times (Dj F c5) w3 hI.lt a1.K by1 trivial r2 hx3) ?_)
 rintro _ w6 ⟨rfl, hx4, hl2⟩
 refine ⟨_, rfl, ?_⟩
 replace hI := (hI.ext hx4)
 refine T ?_
 refine sq (y_build (vs := [(0, vi r2.1)]) (cs := #[vi r2.1, vs none 0 0]) rfl ⟨rfl, et, trivial⟩ (by kernel_rfl)) ?_
 refine l_alloc (cs := #[vi 0, vs none 0 0]) hI gn rfl rfl zero_27 rfl ?_
 clear hI; intro b3 c8 w7 hI
 refine l_store (new := [vi r2.1, vs none 0 0]) (cs' := #[vi r2.1, vs none 0 0]) hI .z gn rfl rfl et et rfl size_27 rfl rfl rfl ?_
 clear hI; intro c9 w8 hI
 refine nk (c_join (α := Bool × GLin × (Option Addr) × Nat) (fun _ => ⟨61, []⟩) (fun x => [(4, vp b2 0), (7, vb (x.1)), (8, vp b3 0)]) (fun x => fun w => ∃ C, Bun noM F w0 C w [MO.row cGMono 64 (x.2.2.1) (x.2.2.2) (x.2.1).L, MO.box b2 27 #[vi 0, vs none 0 0], MO.box b3 27 (ALin (x.2.1) (x.2.2.1) (x.2.2.2))] [] ∧ m_lin_Scale_j1 (x.1) (x.2.1) = some r) ?_ ?_)
 ·clear h hI; rintro ⟨fits1, out1, a4, c10⟩ w9 ⟨c11, hI, h⟩
  try dsimp only at hI h
  rw [m_lin_Scale_j1] at h
  refine c_sub (e := [(4, vp b2 0), (7, vb fits1), (8, vp b3 0)]) SB ?_
  refine c_seq (T ?_)
  refine cif h et (fun hb h => ?_) (fun hb h => ?_)
  ·refine sr (sq (y_build (vs := []) (cs := #[vi 0, vs none 0 0]) rfl trivial (by kernel_rfl)) ?_)
   refine l_store (new := [vi 0, vs none 0 0]) (cs' := #[vi 0, vs none 0 0]) hI (.s .z) gn rfl rfl et et rfl size_27 rfl rfl rfl ?_
   clear hI; intro c12 w10 hI
   refine T ?_
   refine c_ret ?_
   have hI := hI.add (c := Cl.sl cGMono none 0 ([] : List GMono)) SlC.nil
   obtain rfl := some_inj h
   refine QG ?_
   exact ⟨none, 0, rfl, hI.ext0, hI.fin ⟨.z, trivial⟩⟩
  refine T ?_
  refine l_store (new := (lLin out1 a4 c10)) (cs' := (ALin out1 a4 c10)) hI (.s .z) gn rfl rfl et et rfl size_27 rfl rfl rfl ?_
  clear hI; intro c13 w11 hI
  refine T ?_
  refine c_ret ?_
  obtain ⟨c14, hI⟩ := hI.release .z
  obtain rfl := some_inj h
  refine QG ?_
  exact ⟨a4, c10, rfl, hI.ext0, hI.fin ⟨.z, trivial⟩⟩
 refine T ?_
 have hI := hI.nil cGMono 64 none
 refine c_loop (α := Nat × Bool × Int × GLin × (Option Addr) × Nat) (fun x => fun w => ∃ C, Bun noM F w0 C w [MO.row cGMono 64 (x.2.2.2.2.1) (x.2.2.2.2.2) (x.2.2.2.1).L, MO.box b2 27 #[vi 0, vs none 0 0], MO.box b3 27 (ALin (x.2.2.2.1) (x.2.2.2.2.1) (x.2.2.2.2.2))] [Cl.sl cGMono a2 c1 a1.L] ∧ m_lin_Scale_l1 a1 by1 (x.1) (x.2.1) (x.2.2.1) (x.2.2.2.1) = some r) (fun x _ => x.1) (fun x => [(1, vi by1), (4, vp b2 0), (7, vb (x.2.1)), (8, vp b3 0), (30, vs a2 a1.L.length c1), (31, vi (a1.L.length : Int)), (32, vi (x.2.2.1))]) (fu, r2.2, 0, (⟨r2.1, ([] : List GMono)⟩ : GLin), none, 0) ⟨_, hI.arr (.c .z (.c (.s .z) (.c .z .n))) ⟨(.s .z), trivial⟩, h⟩ SB ?_
 clear h hI; rintro ⟨fuel1, fits2, i1, out2, a5, c15⟩ w12 ⟨c16, hI, h⟩
 dsimp only at hI h
 rcases fuel1 with _ | fuel1
 ·rw [m_lin_Scale_l1] at h; cases h
 rw [m_lin_Scale_l1] at h
 refine c_sub (e := [(1, vi by1), (4, vp b2 0), (7, vb fits2), (8, vp b3 0), (30, vs a2 a1.L.length c1), (31, vi (a1.L.length : Int)), (32, vi i1)]) SB ?_
 refine T ?_
 refine c_seq (cif h et (fun hb h => ?_) (fun hb h => ?_))
 ·refine T ?_
  refine c_seq (T ?_)
  obtain ⟨e1, hx5, h⟩ := bnd_some h
  obtain ⟨ad1, cs1, hA1, hr1, hq1⟩ := hI.clat .z hx5
  obtain rfl : cs1 = (lMono e1) := hr1
  refine sI ?_
  refine T ?_
  refine l_alloc (cs := #[(str ([] : List UInt8)), vi 0]) hI gn rfl rfl zero_64 rfl ?_
  clear hI; intro b4 c17 w13 hI
  refine l_store (new := (lMono e1)) (cs' := (AMono e1)) hI .z gn rfl rfl et et rfl size_64 rfl rfl rfl ?_
  clear hI; intro c18 w14 hI
  refine T ?_
  obtain ⟨r3, hx6, h⟩ := bnd_some h
  refine s_call gn rfl (r_callF (vs := [vi e1.By, vi by1]) rfl ok_186 ⟨et, ⟨et, trivial⟩⟩) (Calls.mono (c_lin_times (Dj F c18) w14 hI.lt e1.By by1 trivial r3 hx6) ?_)
  rintro _ w15 ⟨rfl, hx7, hl3⟩
  refine ⟨_, rfl, ?_⟩
  replace hI := (hI.ext hx7)
  refine T ?_
  refine sq (y_build (vs := [(0, (str e1.Name)), (1, vi r3.1)]) (cs := #[(str e1.Name), vi r3.1]) rfl ⟨rfl, et, ⟨rfl, et, trivial⟩⟩ (by kernel_rfl)) ?_
  refine l_lit (c := cGMono) (xs := ([(⟨e1.Name, r3.1⟩ : GMono)] : List GMono)) (vs := [(0, (Value.agg #[(str e1.Name), vi r3.1]))]) (cs := #[(str e1.Name), vi r3.1]) (css := [[(str e1.Name), vi r3.1]]) hI gn rfl rfl u25 info_64 rfl ⟨rfl, et, trivial⟩ (by kernel_rfl) ⟨rfl, trivial⟩ rfl rfl rfl ?_
  clear hI; intro b5 c19 w16 hI
  obtain ⟨zs1, hx8, h⟩ := bnd_some h
  refine l_append (xs := out2.L) (ys := ([(⟨e1.Name, r3.1⟩ : GMono)] : List GMono)) hI (.s (.s .z)) (hI.rd .z) hx8 gn rfl rfl u25 info_64 rfl rfl et et ?_
  clear hI; intro a6 c20 c21 w17 hI
  refine T ?_
  refine l_store (new := [vs a6 zs1.length c20]) (cs' := #[vi out2.K, vs a6 zs1.length c20]) hI (.s (.s (.s (.s .z)))) gn rfl rfl et et rfl size_25 rfl rfl rfl ?_
  clear hI; intro c22 w18 hI
  refine T ?_
  refine s_nil ?_
  exact k_loop (fuel1, fits2 && r3.2, wi64 (i1 + 1), (⟨out2.K, zs1⟩ : GLin), a6, c20) SB ⟨_, hI.arr GO SU, h⟩ (Nat.lt_succ_self _)
 refine c_exit ?_
 refine k_in ?_
 exact k_join (fits2, out2, a5, c15) SB ⟨_, hI.arr GO SU, h⟩ rfl
theorem c_parser_decimal (F : NP) (w0 : World) (hF : ∀ k, F k → k < w0.heap.size) (s1 : List UInt8) (hc : AllCl [] F w0) (r : Bool)
  (h : m_parser_decimal s1 = some r) :
  Calls Tryz.prog 225 #[(str s1)] w0 fun e w => e = .returned (vb r) ∧ Ext w0 w ∧ AllCl [] F w := by
 refine enterK Tryz.func225 rfl Tryz.ntmps225 rfl ?_
 have hI := Bun.start hF hc
 clear hc
 rw [m_parser_decimal] at h
 refine T ?_
 refine c_join (α := Unit) (fun _ => ⟨31, []⟩) (fun _ => [(0, (str s1))]) (fun _ => fun w => ∃ C, Bun noM F w0 C w [] [] ∧ m_parser_decimal_j1 s1 = some r) ?_ ?_
 ·clear h hI; rintro _ w1 ⟨c1, hI, h⟩
  try dsimp only at hI h
  rw [m_parser_decimal_j1] at h
  refine c_sub (e := [(0, (str s1))]) ⟨rfl, trivial⟩ ?_
  refine T ?_
  obtain ⟨b1, hx1, h⟩ := bnd_some h
  replace hx1 := gd_some hx1
  refine sJ ?_
  refine T ?_
  refine c_ret ?_
  obtain rfl := some_inj h
  exact QF hI
 refine T ?_
 refine c_loop (α := Nat × Int) (fun x => fun w => ∃ C, Bun noM F w0 C w [] [] ∧ m_parser_decimal_l1 s1 (x.1) (x.2) = some r) (fun x _ => x.1) (fun x => [(0, (str s1)), (5, vi (s1.length : Int)), (6, vi (x.2))]) (fu, 0) ⟨_, hI.arr .n trivial, h⟩ SB ?_
 clear h hI; rintro ⟨fuel1, i1⟩ w2 ⟨c2, hI, h⟩
 dsimp only at hI h
 rcases fuel1 with _ | fuel1
 ·rw [m_parser_decimal_l1] at h; cases h
 rw [m_parser_decimal_l1] at h
 refine c_sub (e := [(0, (str s1)), (5, vi (s1.length : Int)), (6, vi i1)]) SB ?_
 refine T ?_
 refine c_seq (cif h et (fun hb h => ?_) (fun hb h => ?_))
 ·refine T ?_
  refine c_seq (T ?_)
  obtain ⟨b2, hx2, h⟩ := bnd_some h
  refine sI ?_
  refine T ?_
  obtain ⟨b3, hx3, h⟩ := bnd_some h
  replace hx3 := gd_some hx3
  refine sJ ?_
  refine T ?_
  refine cif h et (fun hb h => ?_) (fun hb h => ?_)
  ·refine T ?_
   refine c_ret ?_
   obtain rfl := some_inj h
   exact QF hI
  refine T ?_
  refine s_nil ?_
  exact k_loop (fuel1, wi64 (i1 + 1)) SB ⟨_, hI.arr GO SU, h⟩ (Nat.lt_succ_self _)
 refine c_exit ?_
 refine k_in ?_
 exact k_join () ⟨rfl, trivial⟩ ⟨_, hI.arr GO SU, h⟩ rfl
theorem c_parser_reader_isNumber (F : NP) (w0 : World) (hF : ∀ k, F k → k < w0.heap.size) (r1 : Gparser_reader) (b1 : Nat) (a1 : Option Addr) (c1 : Nat) (hc : AllCl [Cl.sl cGToken a1 c1 r1.l, Cl.blk b1 67 (Aparser_reader r1 a1 c1)] F w0) (r : Bool)
  (h : m_parser_reader_isNumber r1 = some r) :
  Calls Tryz.prog 187 #[vp b1 0] w0 fun e w => e = .returned (vb r) ∧ Ext w0 w ∧ AllCl [] F w := by
 refine enterK Tryz.func187 rfl Tryz.ntmps187 rfl ?_
 have hI := Bun.start hF hc
 clear hc
 rw [m_parser_reader_isNumber] at h
 refine T ?_
 refine c_seq (c_drawX [] false (.c (0, .q) (.c (1, .q) (.c (2, .q) (.c (3, .q) (.c (4, .q) (.c (5, .q) (.c (6, .q) (.c (7, .q) (.c (8, .q) (.c (9, .q) (.c (10, .q) (.c (11, .q) (.c (12, .q) (.c (13, .q) (.c (14, .q) (.c (15, .q) (.c (16, .q) (.c (17, .q) (.c (18, .q) (.c (19, .q) (.c (20, .q) (.c (21, .q) (.c (22, .q) (.c (23, .q) (.c (24, .q) (.c (25, .q) (.c (26, .q) (.c (27, .q) (.c (28, .q) (.c (29, .q) (.c (30, .q) (.c (31, .q) (.c (32, .q) (.c (33, .q) (.c (34, .q) (.c (35, .q) (.c (36, .s) (.c (37, .q) (.c (38, .q) .n))))))))))))))))))))))))))))))))))))))) hI (by kernel_rfl) (by kernel_rfl) ?_)
 clear hI; intro w1 hI
 refine V ?_
 obtain ⟨e1, hx1, h⟩ := bnd_some h
 replace hx1 := gd_some hx1
 obtain ⟨ad1, cs1, hq1⟩ := hI.gclat .z hx1
 have hq2 : (decide (r1.at_ < (r1.l.length : Int))) = true → CA (Dj F noM) w1 (ad1.add (Int.toNat r1.at_ * 3)) (lToken e1) := fun hc => caq (hq1 hc).2.1 (hq1 hc).2.2
 refine vJ ?_
 refine V ?_
 obtain ⟨e2, hx2, h⟩ := bnd_some h
 replace hx2 := gd_some hx2
 obtain ⟨ad2, cs2, hq3⟩ := hI.gclat .z hx2
 have hq4 : ((decide (r1.at_ < (r1.l.length : Int))) && (decide (e1.Kind = 2))) = true → CA (Dj F noM) w1 (ad2.add (Int.toNat r1.at_ * 3)) (lToken e2) := fun hc => caq (hq3 hc).2.1 (hq3 hc).2.2
 refine vJ ?_
 refine V ?_
 obtain ⟨r2, hx3, h⟩ := bnd_some h
 replace hx3 := gd_some hx3
 refine la_gcallU (v := (vb r2)) rfl (g_true rfl rfl rfl rfl) rfl (fun hc => (r_callF (vs := [(str e2.Text)]) rfl ok_225 ⟨(ev_gv et hc), trivial⟩)) (fun hc => (c_parser_decimal (Dj F noM) w1 hI.lt e2.Text trivial r2 (hx3 hc)).mono fun _ _ k => ⟨k.1, k.2.1⟩) ?_
 intro w2 hx4; replace hI := hI.ext hx4
 refine V ?_
 refine c_ret ?_
 obtain rfl := some_inj h
 exact QF hI
theorem c_parser_signed (F : NP) (w0 : World) (hF : ∀ k, F k → k < w0.heap.size) (s1 : List UInt8) (negative1 : Bool) (hc : AllCl [] F w0) (r : Int × Bool)
  (h : m_parser_signed s1 negative1 = some r) :
  Calls Tryz.prog 131 #[(str s1), vb negative1] w0 fun e w => e = .returned (Value.tuple #[vi r.1, vb r.2]) ∧ Ext w0 w ∧ AllCl [] F w := by
 refine enterK Tryz.func131 rfl Tryz.ntmps131 rfl ?_
 have hI := Bun.start hF hc
 clear hc
 rw [m_parser_signed] at h
 refine T ?_
 refine c_join (α := Int) (fun _ => ⟨38, []⟩) (fun x => [(0, (str s1)), (1, vb negative1), (6, (Value.int .u64 x))]) (fun x => fun w => ∃ C, Bun noM F w0 C w [] [] ∧ m_parser_signed_j1 s1 negative1 x = some r) ?_ ?_
 ·clear h hI; rintro limit1 w1 ⟨c1, hI, h⟩
  try dsimp only at hI h
  rw [m_parser_signed_j1] at h
  refine c_sub (e := [(0, (str s1)), (1, vb negative1), (6, (Value.int .u64 limit1))]) SB ?_
  refine T ?_
  refine c_join (α := Int) (fun _ => ⟨38, []⟩) (fun x => [(1, vb negative1), (7, (Value.int .u64 x))]) (fun x => fun w => ∃ C, Bun noM F w0 C w [] [] ∧ m_parser_signed_j2 negative1 x = some r) ?_ ?_
  ·clear h hI; rintro n1 w2 ⟨c2, hI, h⟩
   try dsimp only at hI h
   rw [m_parser_signed_j2] at h
   refine c_sub (e := [(1, vb negative1), (7, (Value.int .u64 n1))]) SB ?_
   refine c_seq (T ?_)
   refine cif h et (fun hb h => ?_) (fun hb h => ?_)
   ·refine T ?_
    refine c_ret ?_
    obtain rfl := some_inj h
    exact QF hI
   refine T ?_
   refine c_ret ?_
   obtain rfl := some_inj h
   exact QF hI
  refine T ?_
  refine c_loop (α := Nat × Int × Int) (fun x => fun w => ∃ C, Bun noM F w0 C w [] [] ∧ m_parser_signed_l1 s1 limit1 negative1 (x.1) (x.2.1) (x.2.2) = some r) (fun x _ => x.1) (fun x => [(0, (str s1)), (1, vb negative1), (6, (Value.int .u64 limit1)), (7, (Value.int .u64 (x.2.1))), (12, vi (s1.length : Int)), (13, vi (x.2.2))]) (fu, 0, 0) ⟨_, hI.arr .n trivial, h⟩ SB ?_
  clear h hI; rintro ⟨fuel1, n2, i1⟩ w3 ⟨c3, hI, h⟩
  dsimp only at hI h
  rcases fuel1 with _ | fuel1
  ·rw [m_parser_signed_l1] at h; cases h
  rw [m_parser_signed_l1] at h
  refine c_sub (e := [(0, (str s1)), (1, vb negative1), (6, (Value.int .u64 limit1)), (7, (Value.int .u64 n2)), (12, vi (s1.length : Int)), (13, vi i1)]) SB ?_
  refine T ?_
  refine c_seq (cif h et (fun hb h => ?_) (fun hb h => ?_))
  ·refine T ?_
   refine c_seq (T ?_)
   obtain ⟨b1, hx1, h⟩ := bnd_some h
   refine sI ?_
   refine T ?_
   refine c_seq (T ?_)
   refine sq (y_quo rfl et ev_const (by decide)) ?_
   refine T ?_
   refine cif h et (fun hb h => ?_) (fun hb h => ?_)
   ·refine T ?_
    refine c_ret ?_
    obtain rfl := some_inj h
    exact QF hI
   refine c_skip (k_same (c_region rfl ?_))
   refine sm ?_
   refine sq (y_mul rfl ev_const et) ?_
   refine sm ?_
   refine sq (y_add rfl et et) ?_
   obtain ⟨n3, hx2, h⟩ := bnd_some h
   refine sq (binU (y_assign rfl et) (congrArg (Value.int .u64) (some_inj hx2))) ?_
   refine T ?_
   refine s_nil ?_
   exact k_loop (fuel1, n3, wi64 (i1 + 1)) SB ⟨_, hI.arr GO SU, h⟩ (Nat.lt_succ_self _)
  refine c_exit ?_
  refine k_in ?_
  exact k_join n2 SB ⟨_, hI.arr GO SU, h⟩ rfl
 refine T ?_
 refine cif h et (fun hb h => ?_) (fun hb h => ?_)
 ·refine T ?_
  refine s_nil ?_
  exact k_join 9223372036854775808 SB ⟨_, hI.arr GO SU, h⟩ rfl
 exact c_skip (k_join 9223372036854775807 SB ⟨_, hI.arr GO SU, h⟩ rfl)
theorem c_lin_Const (F : NP) (w0 : World) (hF : ∀ k, F k → k < w0.heap.size) (k1 : Int) (hc : AllCl [] F w0) (r : GLin)
  (h : m_lin_Const k1 = some r) :
  Calls Tryz.prog 132 #[vi k1] w0 fun e w => ∃ (a1 : Option Addr) (c1 : Nat), e = .returned (Value.agg (ALin r a1 c1)) ∧ Ext w0 w ∧ AllCl [Cl.sl cGMono a1 c1 r.L] F w := by
 refine enterK Tryz.func132 rfl Tryz.ntmps132 rfl ?_
 have hI := Bun.start hF hc
 clear hc
 rw [m_lin_Const] at h
 refine sr (l_alloc (cs := #[vi 0, vs none 0 0]) hI gn rfl rfl zero_27 rfl ?_)
 clear hI; intro b1 c2 w1 hI
 refine T ?_
 refine sq (y_build (vs := [(0, vi k1)]) (cs := #[vi k1, vs none 0 0]) rfl ⟨rfl, et, trivial⟩ (by kernel_rfl)) ?_
 refine l_store (new := [vi k1, vs none 0 0]) (cs' := #[vi k1, vs none 0 0]) hI .z gn rfl rfl et et rfl size_27 rfl rfl rfl ?_
 clear hI; intro c3 w2 hI
 refine nk (c_ret ?_)
 have hI := hI.add (c := Cl.sl cGMono none 0 ([] : List GMono)) SlC.nil
 obtain rfl := some_inj h
 refine QG ?_
 exact ⟨none, 0, rfl, hI.ext0, hI.fin ⟨.z, trivial⟩⟩
theorem c_lin_plus (F : NP) (w0 : World) (hF : ∀ k, F k → k < w0.heap.size) (a1 : Int) (b1 : Int) (hc : AllCl [] F w0) (r : Int × Bool)
  (h : m_lin_plus a1 b1 = some r) :
  Calls Tryz.prog 123 #[vi a1, vi b1] w0 fun e w => e = .returned (Value.tuple #[vi r.1, vb r.2]) ∧ Ext w0 w ∧ AllCl [] F w := by
 refine enterK Tryz.func123 rfl Tryz.ntmps123 rfl ?_
 have hI := Bun.start hF hc
 clear hc
 rw [m_lin_plus] at h
 refine T ?_
 refine sq (y_eqb rfl u4 et et) ?_
 refine T ?_
 refine c_ret ?_
 obtain rfl := some_inj h
 exact QF hI
theorem c_lin_Add_1_w (C0 F : NP) (w0 : World) (name1 : List UInt8) (x1 : Int) (y1 : Int) (a1 : Bool) (a2 : GLin) (b1 : Nat) (b2 : Nat) (a3 : Option Addr) (c1 : Nat) (hI : Bun C0 F w0 C0 w0 [MO.box b1 4 #[vb a1], MO.box b2 27 (ALin a2 a3 c1), MO.row cGMono 64 a3 c1 a2.L] []) (r : Unit × Bool × GLin)
  (h : m_lin_Add_1_w name1 x1 y1 a1 a2 = some r) :
  Calls Tryz.prog 125 #[(str name1), vi x1, vi y1, vp b1 0, vp b2 0] w0 fun e w => ∃ (a4 : Option Addr) (c2 : Nat) (C : NP), e = .returned (Value.tuple #[]) ∧ Bun C0 F w0 C w [MO.box b1 4 #[vb r.2.1], MO.box b2 27 (ALin r.2.2 a4 c2), MO.row cGMono 64 a4 c2 r.2.2.L] [] := by
 refine enterK Tryz.func125 rfl Tryz.ntmps125 rfl ?_
 rw [m_lin_Add_1_w] at h
 refine T ?_
 obtain ⟨r1, hx1, h⟩ := bnd_some h
 refine s_call gn rfl (r_callF (vs := [vi x1, vi y1]) rfl ok_123 ⟨et, ⟨et, trivial⟩⟩) (Calls.mono (c_lin_plus (Dj F C0) w0 hI.lt x1 y1 trivial r1 hx1) ?_)
 rintro _ w1 ⟨rfl, hx2, hl1⟩
 refine ⟨_, rfl, ?_⟩
 replace hI := (hI.ext hx2)
 refine T ?_
 refine l_store (new := [vb (a1 && r1.2)]) (cs' := #[vb (a1 && r1.2)]) hI .z gn rfl rfl et et rfl size_4 rfl rfl rfl ?_
 clear hI; intro c3 w2 hI
 refine T ?_
 refine cif h et (fun hb h => ?_) (fun hb h => ?_)
 ·refine T ?_
  refine sq (y_build (vs := [(0, (str name1)), (1, vi r1.1)]) (cs := #[(str name1), vi r1.1]) rfl ⟨rfl, et, ⟨rfl, et, trivial⟩⟩ (by kernel_rfl)) ?_
  refine l_lit (c := cGMono) (xs := ([(⟨name1, r1.1⟩ : GMono)] : List GMono)) (vs := [(0, (Value.agg #[(str name1), vi r1.1]))]) (cs := #[(str name1), vi r1.1]) (css := [[(str name1), vi r1.1]]) hI gn rfl rfl u25 info_64 rfl ⟨rfl, et, trivial⟩ (by kernel_rfl) ⟨rfl, trivial⟩ rfl rfl rfl ?_
  clear hI; intro b3 c4 w3 hI
  obtain ⟨zs1, hx3, h⟩ := bnd_some h
  refine l_append (xs := a2.L) (ys := ([(⟨name1, r1.1⟩ : GMono)] : List GMono)) hI (.s (.s (.s .z))) (hI.rd .z) hx3 gn rfl rfl u25 info_64 rfl rfl et et ?_
  clear hI; intro a5 c5 c6 w4 hI
  refine T ?_
  refine l_store (new := [vs a5 zs1.length c5]) (cs' := #[vi a2.K, vs a5 zs1.length c5]) hI (.s (.s .z)) gn rfl rfl et et rfl size_25 rfl rfl rfl ?_
  clear hI; intro c7 w5 hI
  refine s_nil ?_
  obtain rfl := some_inj h
  refine QG ?_
  exact ⟨a5, c5, _, rfl, hI.arr GO SU⟩
 refine c_skip ?_
 obtain rfl := some_inj h
 refine QG ?_
 exact ⟨a3, c1, _, rfl, hI.arr GO SU⟩
theorem c_lin_merge_s {σ : Type} (I : StI σ) (C0 F : NP) (w0 : World) (a1 : List GMono) (b1 : List GMono) (each1 : ((List UInt8) → Int → Int → σ → Option (Unit × σ))) (s1 : σ) (a2 : Option Addr) (c1 : Nat) (a3 : Option Addr) (c2 : Nat) (fv1 : Value) (hI : Bun C0 F w0 C0 w0 [MO.st I s1] [Cl.sl cGMono a2 c1 a1, Cl.sl cGMono a3 c2 b1, clFnS_k2 I fv1 each1]) (r : Unit × σ)
  (h : m_lin_merge_s a1 b1 each1 s1 = some r) :
  Calls Tryz.prog 124 #[vs a2 a1.length c1, vs a3 b1.length c2, fv1] w0 fun e w => ∃ (C : NP), e = .returned (Value.tuple #[]) ∧ Bun C0 F w0 C w [MO.st I r.2] [] := by
 refine enterK Tryz.func124 rfl Tryz.ntmps124 rfl ?_
 rw [m_lin_merge_s] at h
 refine T ?_
 refine c_loop (α := Nat × (List GMono) × (List GMono) × σ × (Option Addr) × Nat × (Option Addr) × Nat) (fun x => fun w => ∃ C, Bun C0 F w0 C w [MO.st I (x.2.2.2.1)] [Cl.sl cGMono (x.2.2.2.2.1) (x.2.2.2.2.2.1) (x.2.1), Cl.sl cGMono (x.2.2.2.2.2.2.1) (x.2.2.2.2.2.2.2) (x.2.2.1), clFnS_k2 I fv1 each1] ∧ m_lin_merge_s_l1 each1 (x.1) (x.2.1) (x.2.2.1) (x.2.2.2.1) = some r) (fun x _ => x.1) (fun x => [(0, vs (x.2.2.2.2.1) (x.2.1).length (x.2.2.2.2.2.1)), (1, vs (x.2.2.2.2.2.2.1) (x.2.2.1).length (x.2.2.2.2.2.2.2)), (2, fv1)]) (fu, a1, b1, s1, a2, c1, a3, c2) ⟨_, hI.arr (.c .z .n) ⟨.z, (.s .z), (.s (.s .z)), trivial⟩, h⟩ SB ?_
 clear h hI; rintro ⟨fuel1, a4, b2, s2, a5, c3, a6, c4⟩ w1 ⟨c5, hI, h⟩
 dsimp only at hI h
 rcases fuel1 with _ | fuel1
 ·rw [m_lin_merge_s_l1] at h; cases h
 rw [m_lin_merge_s_l1] at h
 refine c_sub (e := [(0, vs a5 a4.length c3), (1, vs a6 b2.length c4), (2, fv1)]) SB ?_
 refine c_seq (T ?_)
 refine cif h et (fun hb h => ?_) (fun hb h => ?_)
 ·refine T ?_
  refine c_seq (c_drawX [] false (.c (0, .q) (.c (1, .q) (.c (2, .q) (.c (3, .q) (.c (4, .q) (.c (5, .q) (.c (6, .q) (.c (7, .q) (.c (8, .q) (.c (9, .q) (.c (10, .q) (.c (11, .q) (.c (12, .q) (.c (13, .q) (.c (14, .q) (.c (15, .q) (.c (16, .q) (.c (17, .q) (.c (18, .q) (.c (19, .q) .n)))))))))))))))))))) hI (by kernel_rfl) (by kernel_rfl) ?_)
  clear hI; intro w2 hI
  refine V ?_
  obtain ⟨e1, hx1, h⟩ := bnd_some h
  replace hx1 := gd_some hx1
  obtain ⟨ad1, cs1, hq1⟩ := hI.gclat .z hx1
  have hq2 : ((!(decide ((b2.length : Int) = 0))) && (decide (0 < (a4.length : Int)))) = true → CA (Dj F c5) w2 (ad1.add (Int.toNat 0 * 2)) (lMono e1) := fun hc => caq (hq1 hc).2.1 (hq1 hc).2.2
  refine vJ ?_
  refine V ?_
  obtain ⟨e2, hx2, h⟩ := bnd_some h
  replace hx2 := gd_some hx2
  obtain ⟨ad2, cs2, hq3⟩ := hI.gclat (.s .z) hx2
  have hq4 : ((!(decide ((b2.length : Int) = 0))) && (decide (0 < (a4.length : Int)))) = true → CA (Dj F c5) w2 (ad2.add (Int.toNat 0 * 2)) (lMono e2) := fun hc => caq (hq3 hc).2.1 (hq3 hc).2.2
  refine vJ ?_
  refine V ?_
  refine cif h et (fun hb h => ?_) (fun hb h => ?_)
  ·refine c_seq (c_drawX [9] false (.c (0, .q) (.c (1, .q) (.c (2, .q) (.c (3, .q) (.c (4, .q) (.c (5, .q) (.c (6, .q) (.c (7, .q) (.c (8, .q) (.c (9, .s) .n)))))))))) hI (by kernel_rfl) (by kernel_rfl) ?_)
   clear hI; intro w3 hI
   refine V ?_
   obtain ⟨e3, hx3, h⟩ := bnd_some h
   obtain ⟨ad3, cs3, hA3, hr3, hq5⟩ := hI.clat .z hx3
   obtain rfl : cs3 = (lMono e3) := hr3
   refine vI ?_
   refine V ?_
   obtain ⟨e4, hx4, h⟩ := bnd_some h
   obtain ⟨ad4, cs4, hA4, hr4, hq6⟩ := hI.clat .z hx4
   obtain rfl : cs4 = (lMono e4) := hr4
   refine vI ?_
   refine V ?_
   refine a_turn (F := F) (C := c5) rfl rfl ?_
   obtain ⟨⟨r1, s3⟩, hx5, h⟩ := bnd_some h
   try dsimp only at h
   obtain ⟨c6, f1, hB, hl1, hk1⟩ := hI.hands (.l .n)
   refine la_callV (args := [(str e3.Name), vi e4.By, vi 0]) rfl gn rfl rfl et ⟨et, ⟨et, ⟨ev_const, trivial⟩⟩⟩ (CallV.mono ((hI.get (.s (.s .z))).2 c6 f1 w3 (Sp.less hl1) e3.Name e4.By 0 s2 _ (hB.subs trivial) hx5) ?_)
   rintro _ w4 ⟨c7, rfl, hB2⟩
   obtain ⟨c8, hs1, hI⟩ := hk1 _ _ _ _ hB2
   dsimp only [ca, na] at hI
   refine ⟨_, rfl, DM true F c8, hs1, ?_⟩
   refine V ?_
   refine T ?_
   obtain ⟨zs1, hx6, h⟩ := bnd_some h
   obtain ⟨a7, hB1⟩ : ∃ B : Option Addr, B = (if c3 = Int.toNat 1 then a5 else Option.map (·.add (Int.toNat 1 * 2)) a5) := ⟨_, rfl⟩
   refine sq (y_lfrom rfl u25 size_64 et ev_const hx6 hB1) ?_
   replace hI := hI.from_ .z hx6 hB1
   refine sa ?_
   refine s_nil ?_
   exact k_loop (fuel1, zs1, b2, s3, a7, c3 - Int.toNat 1, a6, c4) SB ⟨_, hI.arr GO SU, h⟩ (Nat.lt_succ_self _)
  refine c_seq (c_drawX [] false (.c (0, .q) (.c (1, .q) (.c (2, .q) (.c (3, .q) (.c (4, .q) (.c (5, .q) (.c (6, .q) (.c (7, .q) (.c (8, .q) (.c (9, .q) (.c (10, .q) (.c (11, .q) (.c (12, .q) (.c (13, .q) (.c (14, .q) .n))))))))))))))) hI (by kernel_rfl) (by kernel_rfl) ?_)
  clear hI; intro w5 hI
  refine V ?_
  obtain ⟨e5, hx7, h⟩ := bnd_some h
  replace hx7 := gd_some hx7
  obtain ⟨ad5, cs5, hq7⟩ := hI.gclat (.s .z) hx7
  have hq8 : (!(decide ((a4.length : Int) = 0))) = true → CA (Dj F c5) w5 (ad5.add (Int.toNat 0 * 2)) (lMono e5) := fun hc => caq (hq7 hc).2.1 (hq7 hc).2.2
  refine vJ ?_
  refine V ?_
  obtain ⟨e6, hx8, h⟩ := bnd_some h
  replace hx8 := gd_some hx8
  obtain ⟨ad6, cs6, hq9⟩ := hI.gclat .z hx8
  have hq10 : (!(decide ((a4.length : Int) = 0))) = true → CA (Dj F c5) w5 (ad6.add (Int.toNat 0 * 2)) (lMono e6) := fun hc => caq (hq9 hc).2.1 (hq9 hc).2.2
  refine vJ ?_
  refine V ?_
  refine cif h et (fun hb h => ?_) (fun hb h => ?_)
  ·refine c_seq (c_drawX [9] false (.c (0, .q) (.c (1, .q) (.c (2, .q) (.c (3, .q) (.c (4, .q) (.c (5, .q) (.c (6, .q) (.c (7, .q) (.c (8, .q) (.c (9, .s) .n)))))))))) hI (by kernel_rfl) (by kernel_rfl) ?_)
   clear hI; intro w6 hI
   refine V ?_
   obtain ⟨e7, hx9, h⟩ := bnd_some h
   obtain ⟨ad7, cs7, hA7, hr7, hq11⟩ := hI.clat (.s .z) hx9
   obtain rfl : cs7 = (lMono e7) := hr7
   refine vI ?_
   refine V ?_
   obtain ⟨e8, hx10, h⟩ := bnd_some h
   obtain ⟨ad8, cs8, hA8, hr8, hq12⟩ := hI.clat (.s .z) hx10
   obtain rfl : cs8 = (lMono e8) := hr8
   refine vI ?_
   refine V ?_
   refine a_turn (F := F) (C := c5) rfl rfl ?_
   obtain ⟨⟨r2, s4⟩, hx11, h⟩ := bnd_some h
   try dsimp only at h
   obtain ⟨c9, f2, hB, hl2, hk2⟩ := hI.hands (.l .n)
   refine la_callV (args := [(str e7.Name), vi 0, vi e8.By]) rfl gn rfl rfl et ⟨et, ⟨ev_const, ⟨et, trivial⟩⟩⟩ (CallV.mono ((hI.get (.s (.s .z))).2 c9 f2 w6 (Sp.less hl2) e7.Name 0 e8.By s2 _ (hB.subs trivial) hx11) ?_)
   rintro _ w7 ⟨c10, rfl, hB2⟩
   obtain ⟨c11, hs2, hI⟩ := hk2 _ _ _ _ hB2
   dsimp only [ca, na] at hI
   refine ⟨_, rfl, DM true F c11, hs2, ?_⟩
   refine V ?_
   refine T ?_
   obtain ⟨zs2, hx12, h⟩ := bnd_some h
   obtain ⟨a8, hB2⟩ : ∃ B : Option Addr, B = (if c4 = Int.toNat 1 then a6 else Option.map (·.add (Int.toNat 1 * 2)) a6) := ⟨_, rfl⟩
   refine sq (y_lfrom rfl u25 size_64 et ev_const hx12 hB2) ?_
   replace hI := hI.from_ (.s .z) hx12 hB2
   refine sa ?_
   refine s_nil ?_
   exact k_loop (fuel1, a4, zs2, s4, a5, c3, a8, c4 - Int.toNat 1) SB ⟨_, hI.arr GO SU, h⟩ (Nat.lt_succ_self _)
  refine c_seq (c_drawX [13] false (.c (0, .q) (.c (1, .q) (.c (2, .q) (.c (3, .q) (.c (4, .q) (.c (5, .q) (.c (6, .q) (.c (7, .q) (.c (8, .q) (.c (9, .q) (.c (10, .q) (.c (11, .q) (.c (12, .q) (.c (13, .s) .n)))))))))))))) hI (by kernel_rfl) (by kernel_rfl) ?_)
  clear hI; intro w8 hI
  refine V ?_
  obtain ⟨e9, hx13, h⟩ := bnd_some h
  obtain ⟨ad9, cs9, hA9, hr9, hq13⟩ := hI.clat .z hx13
  obtain rfl : cs9 = (lMono e9) := hr9
  refine vI ?_
  refine V ?_
  obtain ⟨e10, hx14, h⟩ := bnd_some h
  obtain ⟨ad10, cs10, hA10, hr10, hq14⟩ := hI.clat .z hx14
  obtain rfl : cs10 = (lMono e10) := hr10
  refine vI ?_
  refine V ?_
  obtain ⟨e11, hx15, h⟩ := bnd_some h
  obtain ⟨ad11, cs11, hA11, hr11, hq15⟩ := hI.clat (.s .z) hx15
  obtain rfl : cs11 = (lMono e11) := hr11
  refine vI ?_
  refine V ?_
  refine a_turn (F := F) (C := c5) rfl rfl ?_
  obtain ⟨⟨r3, s5⟩, hx16, h⟩ := bnd_some h
  try dsimp only at h
  obtain ⟨c12, f3, hB, hl3, hk3⟩ := hI.hands (.l .n)
  refine la_callV (args := [(str e9.Name), vi e10.By, vi e11.By]) rfl gn rfl rfl et ⟨et, ⟨et, ⟨et, trivial⟩⟩⟩ (CallV.mono ((hI.get (.s (.s .z))).2 c12 f3 w8 (Sp.less hl3) e9.Name e10.By e11.By s2 _ (hB.subs trivial) hx16) ?_)
  rintro _ w9 ⟨c13, rfl, hB2⟩
  obtain ⟨c14, hs3, hI⟩ := hk3 _ _ _ _ hB2
  dsimp only [ca, na] at hI
  refine ⟨_, rfl, DM true F c14, hs3, ?_⟩
  refine V ?_
  refine c_drawX [] false (.c (0, .q) (.c (1, .q) (.c (2, .q) (.c (3, .q) (.c (4, .q) (.c (5, .q) .n)))))) hI (by kernel_rfl) (by kernel_rfl) ?_
  clear hI; intro w10 hI
  refine V ?_
  obtain ⟨zs3, hx17, h⟩ := bnd_some h
  obtain ⟨a9, hB3⟩ : ∃ B : Option Addr, B = (if c3 = Int.toNat 1 then a5 else Option.map (·.add (Int.toNat 1 * 2)) a5) := ⟨_, rfl⟩
  refine a_q rfl gn rfl (fun w' => y_lfrom rfl u25 size_64 et ev_const hx17 hB3) ?_
  replace hI := hI.from_ .z hx17 hB3
  refine V ?_
  obtain ⟨zs4, hx18, h⟩ := bnd_some h
  obtain ⟨a10, hB4⟩ : ∃ B : Option Addr, B = (if c4 = Int.toNat 1 then a6 else Option.map (·.add (Int.toNat 1 * 2)) a6) := ⟨_, rfl⟩
  refine a_q rfl gn rfl (fun w' => y_lfrom rfl u25 size_64 et ev_const hx18 hB4) ?_
  replace hI := hI.from_ (.s (.s .z)) hx18 hB4
  refine V ?_
  refine a_nil ?_
  exact k_loop (fuel1, zs3, zs4, s5, a9, c3 - Int.toNat 1, a10, c4 - Int.toNat 1) SB ⟨_, hI.arr GO SU, h⟩ (Nat.lt_succ_self _)
 refine c_exit ?_
 refine k_in ?_
 obtain rfl := some_inj h
 refine QG ?_
 exact ⟨_, rfl, hI.arr GO SU⟩
theorem c_lin_Add (F : NP) (w0 : World) (hF : ∀ k, F k → k < w0.heap.size) (a1 : GLin) (b1 : GLin) (a2 : Option Addr) (c1 : Nat) (a3 : Option Addr) (c2 : Nat) (hc : AllCl [Cl.sl cGMono a2 c1 a1.L, Cl.sl cGMono a3 c2 b1.L] F w0) (r : GLin × Int)
  (h : m_lin_Add a1 b1 = some r) :
  Calls Tryz.prog 69 #[(Value.agg (ALin a1 a2 c1)), (Value.agg (ALin b1 a3 c2))] w0 fun e w => ∃ (a4 : Option Addr) (c3 : Nat), e = .returned (Value.tuple #[(Value.agg (ALin r.1 a4 c3)), vi r.2]) ∧ Ext w0 w ∧ AllCl [Cl.sl cGMono a4 c3 r.1.L] F w := by
 refine enterK Tryz.func69 rfl Tryz.ntmps69 rfl ?_
 have hI := Bun.start hF hc
 clear hc
 rw [m_lin_Add] at h
 refine sr (l_box (v := (Value.agg (ALin a1 a2 c1))) (cs := (ALin a1 a2 c1)) hI gn rfl rfl et rfl ?_)
 clear hI; intro b2 c4 w1 hI
 obtain ⟨c5, hI⟩ := hI.relBox .z
 refine l_box (v := (Value.agg (ALin b1 a3 c2))) (cs := (ALin b1 a3 c2)) hI gn rfl rfl et rfl ?_
 clear hI; intro b3 c6 w2 hI
 obtain ⟨c7, hI⟩ := hI.relBox .z
 refine l_alloc (cs := #[vi 0, vs none 0 0]) hI gn rfl rfl zero_27 rfl ?_
 clear hI; intro b4 c8 w3 hI
 refine T ?_
 refine c_seq (sr (sq (y_loadN (l := (lLin a1 a2 c1)) rfl et u27 rfl size_27 (hI.kblk (l := (lLin a1 a2 c1)) (.s .z) rfl).1) ?_))
 obtain ⟨r1, hx1, h⟩ := bnd_some h
 refine s_call gn rfl (r_callF (vs := [(Value.agg (ALin a1 a2 c1))]) rfl ok_122 ⟨et, trivial⟩) (Calls.mono (c_lin_Validate (Dj F c8) w3 hI.lt a1 a2 c1 ⟨(hI.get (.s (.s .z))), trivial⟩ r1 hx1) ?_)
 rintro _ w4 ⟨rfl, hx2, hl1⟩
 refine ⟨_, rfl, ?_⟩
 replace hI := (hI.ext hx2)
 refine T ?_
 refine s_gval (g_false rfl rfl rfl rfl) rfl (fun hc => (y_loadN (l := (lLin b1 a3 c2)) rfl et u27 rfl size_27 (hI.kblk (l := (lLin b1 a3 c2)) .z rfl).1)) ?_
 obtain ⟨r2, hx3, h⟩ := bnd_some h
 replace hx3 := gd_some hx3
 refine s_gcallU (v := (vi r2)) (g_false rfl rfl rfl rfl) rfl (fun hc => (r_callF (vs := [(Value.agg (ALin b1 a3 c2))]) rfl ok_122 ⟨(ev_gv et hc), trivial⟩)) (fun hc => (c_lin_Validate (Dj F c8) w4 hI.lt b1 a3 c2 ⟨(hI.get (.s (.s (.s .z)))), trivial⟩ r2 (hx3 hc)).mono fun _ _ k => ⟨k.1, k.2.1⟩) ?_
 intro w5 hx4; replace hI := hI.ext hx4
 refine T ?_
 refine cif h et (fun hb h => ?_) (fun hb h => ?_)
 ·refine sr (sq (y_build (vs := []) (cs := #[vi 0, vs none 0 0]) rfl trivial (by kernel_rfl)) ?_)
  refine l_store (new := [vi 0, vs none 0 0]) (cs' := #[vi 0, vs none 0 0]) hI .z gn rfl rfl et et rfl size_27 rfl rfl rfl ?_
  clear hI; intro c9 w6 hI
  refine T ?_
  refine c_ret ?_
  have hI := hI.add (c := Cl.sl cGMono none 0 ([] : List GMono)) SlC.nil
  obtain rfl := some_inj h
  refine QG ?_
  exact ⟨none, 0, rfl, hI.ext0, hI.fin ⟨.z, trivial⟩⟩
 refine T ?_
 refine l_alloc (cs := #[vi 0, vs none 0 0]) hI gn rfl rfl zero_27 rfl ?_
 clear hI; intro b5 c10 w7 hI
 refine T ?_
 refine l_alloc (cs := #[vb false]) hI gn rfl rfl zero_4 rfl ?_
 clear hI; intro b6 c11 w8 hI
 refine T ?_
 obtain ⟨r3, hx5, h⟩ := bnd_some h
 refine s_call gn rfl (r_callF (vs := [vi a1.K, vi b1.K]) rfl ok_123 ⟨et, ⟨et, trivial⟩⟩) (Calls.mono (c_lin_plus (Dj F c11) w8 hI.lt a1.K b1.K trivial r3 hx5) ?_)
 rintro _ w9 ⟨rfl, hx6, hl3⟩
 refine ⟨_, rfl, ?_⟩
 replace hI := (hI.ext hx6)
 refine T ?_
 refine l_store (new := [vi r3.1]) (cs' := #[vi r3.1, vs none 0 0]) hI (.s .z) gn rfl rfl et et rfl size_2 rfl rfl rfl ?_
 clear hI; intro c12 w10 hI
 refine l_store (new := [vb r3.2]) (cs' := #[vb r3.2]) hI .z gn rfl rfl et et rfl size_4 rfl rfl rfl ?_
 clear hI; intro c13 w11 hI
 refine T ?_
 refine sq (y_makeFunc (vs := []) (cap := [vp b6 0, vp b5 0]) rfl rfl ⟨et, ⟨et, trivial⟩⟩) ?_
 have hI := hI.nil cGMono 64 none
 obtain ⟨c14, f1, hB, hl4, hk1⟩ := hI.hands (.l (.l (.l (.r .n))))
 replace hB := hB.ord (.c (.s .z) (.c (.s .z) (.c .z .n)))
 have hB : Bun c14 f1 w11 c14 w11 [MO.st (StI.of (fun (s : Bool × GLin) (b : (Option Addr) × Nat) => [MO.box b6 4 #[vb (s.1)], MO.box b5 27 #[(vi ((s.2).K)), (vs (b.1) ((s.2).L).length (b.2))], MO.row cGMono 64 (b.1) (b.2) ((s.2).L)]) (fun (s : Bool × GLin) (b : (Option Addr) × Nat) => [])) (r3.2, (⟨r3.1, ([] : List GMono)⟩ : GLin))] _ := Bun.mkst (b := (none, 0)) hB trivial
 have hC := hB
 have hY1 : fnS_k2 (StI.of (fun (s : Bool × GLin) (b : (Option Addr) × Nat) => [MO.box b6 4 #[vb (s.1)], MO.box b5 27 #[(vi ((s.2).K)), (vs (b.1) ((s.2).L).length (b.2))], MO.row cGMono 64 (b.1) (b.2) ((s.2).L)]) (fun (s : Bool × GLin) (b : (Option Addr) × Nat) => [])) (Value.func (.func 125) #[] #[vp b6 0, vp b5 0]) (fun x_1 x_2 x_3 s => m_lin_Add_1_w x_1 x_2 x_3 (s.1) (s.2)) (Dj f1 c14) w11 := by
  refine ⟨rfl, fun C0 F w' hs x_1 x_2 x_3 s r hB h => ?_⟩
  obtain ⟨⟨a5, c15⟩, hB⟩ := Bun.unst hB
  refine CallV.fn (cap := [vp b6 0, vp b5 0]) ok_125 (Calls.mono (c_lin_Add_1_w C0 F w' x_1 x_2 x_3 (s.1) (s.2) b6 b5 a5 c15 (hB.subs trivial) r h) ?_)
  rintro _ w'' ⟨z1, z2, C', rfl, hB2⟩
  exact ⟨C', rfl, (Bun.mkst (os := (fun (s : Bool × GLin) (b : (Option Addr) × Nat) => [MO.box b6 4 #[vb (s.1)], MO.box b5 27 #[(vi ((s.2).K)), (vs (b.1) ((s.2).L).length (b.2))], MO.row cGMono 64 (b.1) (b.2) ((s.2).L)])) (cl := (fun (s : Bool × GLin) (b : (Option Addr) × Nat) => [])) (s := r.2) (b := (z1, z2)) hB2 trivial).subs trivial⟩
 obtain ⟨⟨r4, s1⟩, hx7, h⟩ := bnd_some h
 try dsimp only at h
 refine s_call gn rfl (r_callF (vs := [vs a2 a1.L.length c1, vs a3 b1.L.length c2, (Value.func (.func 125) #[] #[vp b6 0, vp b5 0])]) rfl ok_124 ⟨et, ⟨et, ⟨et, trivial⟩⟩⟩) (Calls.mono (c_lin_merge_s (StI.of (fun (s : Bool × GLin) (b : (Option Addr) × Nat) => [MO.box b6 4 #[vb (s.1)], MO.box b5 27 #[(vi ((s.2).K)), (vs (b.1) ((s.2).L).length (b.2))], MO.row cGMono 64 (b.1) (b.2) ((s.2).L)]) (fun (s : Bool × GLin) (b : (Option Addr) × Nat) => [])) c14 f1 w11 a1.L b1.L (fun x_1 x_2 x_3 s => m_lin_Add_1_w x_1 x_2 x_3 (s.1) (s.2)) (r3.2, (⟨r3.1, ([] : List GMono)⟩ : GLin)) a2 c1 a3 c2 (Value.func (.func 125) #[] #[vp b6 0, vp b5 0]) ((hB.add (c := (clFnS_k2 (StI.of (fun (s : Bool × GLin) (b : (Option Addr) × Nat) => [MO.box b6 4 #[vb (s.1)], MO.box b5 27 #[(vi ((s.2).K)), (vs (b.1) ((s.2).L).length (b.2))], MO.row cGMono 64 (b.1) (b.2) ((s.2).L)]) (fun (s : Bool × GLin) (b : (Option Addr) × Nat) => [])) (Value.func (.func 125) #[] #[vp b6 0, vp b5 0]) (fun x_1 x_2 x_3 s => m_lin_Add_1_w x_1 x_2 x_3 (s.1) (s.2)))) hY1).subs ⟨(.s (.s (.s .z))), (.s (.s (.s (.s .z)))), .z, trivial⟩) _ hx7) ?_)
 rintro _ w12 ⟨c16, rfl, hB2⟩
 obtain ⟨⟨a6, c17⟩, hB2⟩ := Bun.unst hB2
 obtain ⟨c18, hs1, hI⟩ := hk1 _ _ _ _ hB2
 dsimp only [ca, na] at hI
 refine ⟨_, rfl, ?_⟩
 refine T ?_
 refine c_seq (T ?_)
 refine cif h et (fun hb h => ?_) (fun hb h => ?_)
 ·refine sr (sq (y_build (vs := []) (cs := #[vi 0, vs none 0 0]) rfl trivial (by kernel_rfl)) ?_)
  refine l_store (new := [vi 0, vs none 0 0]) (cs' := #[vi 0, vs none 0 0]) hI (.s (.s (.s .z))) gn rfl rfl et et rfl size_27 rfl rfl rfl ?_
  clear hI; intro c19 w13 hI
  refine T ?_
  refine c_ret ?_
  have hI := hI.add (c := Cl.sl cGMono none 0 ([] : List GMono)) SlC.nil
  obtain rfl := some_inj h
  refine QG ?_
  exact ⟨none, 0, rfl, hI.ext0, hI.fin ⟨.z, trivial⟩⟩
 refine T ?_
 refine l_store (new := [(vi ((s1.2).K)), (vs a6 ((s1.2).L).length c17)]) (cs' := #[(vi ((s1.2).K)), (vs a6 ((s1.2).L).length c17)]) hI (.s (.s (.s .z))) gn rfl rfl et et rfl size_27 rfl rfl rfl ?_
 clear hI; intro c20 w14 hI
 refine T ?_
 refine c_ret ?_
 obtain ⟨c21, hI⟩ := hI.release (.s (.s .z))
 obtain rfl := some_inj h
 refine QG ?_
 exact ⟨a6, c17, rfl, hI.ext0, hI.fin ⟨.z, trivial⟩⟩
theorem c_parser_reader_accept_w (C0 F : NP) (w0 : World) (r1 : Gparser_reader) (s1 : List UInt8) (b1 : Nat) (a1 : Option Addr) (c1 : Nat) (hI : Bun C0 F w0 C0 w0 [MO.box b1 67 (Aparser_reader r1 a1 c1)] [Cl.sl cGToken a1 c1 r1.l]) (r : Bool × Gparser_reader)
  (h : m_parser_reader_accept_w r1 s1 = some r) :
  Calls Tryz.prog 68 #[vp b1 0, (str s1)] w0 fun e w => ∃ (a2 : Option Addr) (c2 : Nat) (C : NP), e = .returned (vb r.1) ∧ Bun C0 F w0 C w [MO.box b1 67 (Aparser_reader r.2 a2 c2)] [Cl.sl cGToken a2 c2 r.2.l] := by
 refine enterK Tryz.func68 rfl Tryz.ntmps68 rfl ?_
 rw [m_parser_reader_accept_w] at h
 refine T ?_
 refine c_seq (T ?_)
 obtain ⟨r2, hx1, h⟩ := bnd_some h
 refine s_call gn rfl (r_callF (vs := [vp b1 0, vi 3, (str s1)]) rfl ok_121 ⟨et, ⟨ev_const, ⟨et, trivial⟩⟩⟩) (Calls.mono (c_parser_reader_is noM w0 (fun _ k => k.elim) r1 3 s1 b1 a1 c1 ⟨(hI.get0 .z), hI.lendBox .z, trivial⟩ r2 hx1) ?_)
 rintro _ w1 ⟨rfl, hx2, hl1⟩
 refine ⟨_, rfl, ?_⟩
 replace hI := (hI.ext hx2)
 refine nk (cif h et (fun hb h => ?_) (fun hb h => ?_))
 ·refine T ?_
  refine l_store (new := [(vi (wi64 (r1.at_ + 1)))]) (cs' := #[vs a1 r1.l.length c1, (vi (wi64 (r1.at_ + 1))), vi r1.deep]) hI .z gn rfl rfl et et rfl size_3 rfl rfl rfl ?_
  clear hI; intro c3 w2 hI
  refine T ?_
  refine c_ret ?_
  obtain rfl := some_inj h
  refine QG ?_
  exact ⟨a1, c1, _, rfl, hI.arr GO SU⟩
 refine T ?_
 refine c_ret ?_
 obtain rfl := some_inj h
 refine QG ?_
 exact ⟨a1, c1, _, rfl, hI.arr GO SU⟩
theorem c_parser_reader_wrong_w (C0 F : NP) (w0 : World) (r1 : Gparser_reader) (b1 : Nat) (a1 : Option Addr) (c1 : Nat) (hI : Bun C0 F w0 C0 w0 [MO.box b1 67 (Aparser_reader r1 a1 c1)] [Cl.sl cGToken a1 c1 r1.l]) (r : Pan (Unit × Gparser_reader))
  (h : m_parser_reader_wrong_w r1 = some r) :
  Calls Tryz.prog 103 #[vp b1 0] w0 fun e w => (∃ rx : Unit × Gparser_reader, r = .ret rx ∧ ∃ (a2 : Option Addr) (c2 : Nat) (C : NP), e = .returned (Value.tuple #[]) ∧ Bun C0 F w0 C w [MO.box b1 67 (Aparser_reader rx.2 a2 c2)] [Cl.sl cGToken a2 c2 rx.2.l]) ∨ ∃ (pa pn : Int), r = .pan pa pn ∧ e = .panicked [pe 114 pa pn] ∧ ∃ C : NP, Bun C0 F w0 C w [] [] := by
 refine enterP (l := [vp b1 0]) Tryz.func103 rfl Tryz.ntmps103 rfl ?_
 rw [m_parser_reader_wrong_w] at h
 refine c_seq (c_seq (c_drawX [] false (.c (0, .q) (.c (1, .q) (.c (2, .q) (.c (3, .q) (.c (4, .q) (.c (5, .q) (.c (6, .q) (.c (7, .q) (.c (8, .q) (.c (9, .q) .n)))))))))) hI (by kernel_rfl) (by kernel_rfl) ?_))
 clear hI; intro w1 hI
 refine V ?_
 refine cif h et (fun hb h => ?_) (fun hb h => ?_)
 ·refine T ?_
  rcases pb_some h with ⟨r2, hx1, h⟩ | ⟨pa_, pn_, hx1, hp_⟩
  rotate_left
  ·subst hp_
   refine s_callP gn rfl (r_callF (vs := [vp b1 0, vi (r1.l.length : Int), vi 6]) rfl ok_71 ⟨et, ⟨et, ⟨ev_const, trivial⟩⟩⟩) (Calls.mono (c_parser_reader_fail noM w1 (fun _ k => k.elim) r1 (r1.l.length : Int) 6 b1 a1 c1 ⟨(hI.get0 .z), hI.lendBox .z, trivial⟩ (.pan pa_ pn_) hx1) ?_)
   intro e_ w_ hq_; obtain ⟨rfl, hx_⟩ := pan_of hq_; have hI_ := hI.ext hx_; exact .inr ⟨_, rfl, kp_of (.inr ⟨_, _, rfl, rfl, ⟨_, hI_.arr .n trivial⟩⟩)⟩
  try dsimp only at h
  refine s_call gn rfl (r_callF (vs := [vp b1 0, vi (r1.l.length : Int), vi 6]) rfl ok_71 ⟨et, ⟨et, ⟨ev_const, trivial⟩⟩⟩) (Calls.mono (c_parser_reader_fail noM w1 (fun _ k => k.elim) r1 (r1.l.length : Int) 6 b1 a1 c1 ⟨(hI.get0 .z), hI.lendBox .z, trivial⟩ (.ret r2) hx1) ?_)
  intro e_ w2 hq_; obtain ⟨rfl, hx2, hl1⟩ := ret_of hq_
  refine ⟨_, rfl, ?_⟩
  replace hI := (hI.ext hx2)
  refine T ?_
  rcases pb_some h with ⟨r3, hx3, h⟩ | ⟨pa_, pn_, hx3, hp_⟩
  rotate_left
  ·subst hp_
   refine s_callP gn rfl (r_callF (vs := [vp b1 0, vi r1.at_, vi 5]) rfl ok_71 ⟨et, ⟨et, ⟨ev_const, trivial⟩⟩⟩) (Calls.mono (c_parser_reader_fail noM w2 (fun _ k => k.elim) r1 r1.at_ 5 b1 a1 c1 ⟨(hI.get0 .z), hI.lendBox .z, trivial⟩ (.pan pa_ pn_) hx3) ?_)
   intro e_ w_ hq_; obtain ⟨rfl, hx_⟩ := pan_of hq_; have hI_ := hI.ext hx_; exact .inr ⟨_, rfl, kp_of (.inr ⟨_, _, rfl, rfl, ⟨_, hI_.arr .n trivial⟩⟩)⟩
  try dsimp only at h
  refine s_call gn rfl (r_callF (vs := [vp b1 0, vi r1.at_, vi 5]) rfl ok_71 ⟨et, ⟨et, ⟨ev_const, trivial⟩⟩⟩) (Calls.mono (c_parser_reader_fail noM w2 (fun _ k => k.elim) r1 r1.at_ 5 b1 a1 c1 ⟨(hI.get0 .z), hI.lendBox .z, trivial⟩ (.ret r3) hx3) ?_)
  intro e_ w3 hq_; obtain ⟨rfl, hx4, hl2⟩ := ret_of hq_
  refine ⟨_, rfl, ?_⟩
  replace hI := (hI.ext hx4)
  refine s_nil ?_
  obtain rfl := some_inj h
  refine QG ?_
  exact .inl ⟨_, rfl, a1, c1, _, rfl, hI.arr GO SU⟩
 refine T ?_
 rcases pb_some h with ⟨r4, hx5, h⟩ | ⟨pa_, pn_, hx5, hp_⟩
 rotate_left
 ·subst hp_
  refine s_callP gn rfl (r_callF (vs := [vp b1 0, vi r1.at_, vi 5]) rfl ok_71 ⟨et, ⟨et, ⟨ev_const, trivial⟩⟩⟩) (Calls.mono (c_parser_reader_fail noM w1 (fun _ k => k.elim) r1 r1.at_ 5 b1 a1 c1 ⟨(hI.get0 .z), hI.lendBox .z, trivial⟩ (.pan pa_ pn_) hx5) ?_)
  intro e_ w_ hq_; obtain ⟨rfl, hx_⟩ := pan_of hq_; have hI_ := hI.ext hx_; exact .inr ⟨_, rfl, kp_of (.inr ⟨_, _, rfl, rfl, ⟨_, hI_.arr .n trivial⟩⟩)⟩
 try dsimp only at h
 refine s_call gn rfl (r_callF (vs := [vp b1 0, vi r1.at_, vi 5]) rfl ok_71 ⟨et, ⟨et, ⟨ev_const, trivial⟩⟩⟩) (Calls.mono (c_parser_reader_fail noM w1 (fun _ k => k.elim) r1 r1.at_ 5 b1 a1 c1 ⟨(hI.get0 .z), hI.lendBox .z, trivial⟩ (.ret r4) hx5) ?_)
 intro e_ w4 hq_; obtain ⟨rfl, hx6, hl3⟩ := ret_of hq_
 refine ⟨_, rfl, ?_⟩
 replace hI := (hI.ext hx6)
 refine s_nil ?_
 obtain rfl := some_inj h
 refine QG ?_
 exact .inl ⟨_, rfl, a1, c1, _, rfl, hI.arr GO SU⟩
theorem c_parser_reader_name_w (C0 F : NP) (w0 : World) (r1 : Gparser_reader) (b1 : Nat) (a1 : Option Addr) (c1 : Nat) (hI : Bun C0 F w0 C0 w0 [MO.box b1 67 (Aparser_reader r1 a1 c1)] [Cl.sl cGToken a1 c1 r1.l, clSpace]) (r : Pan (List UInt8 × Gparser_reader))
  (h : m_parser_reader_name_w r1 = some r) :
  Calls Tryz.prog 128 #[vp b1 0] w0 fun e w => (∃ rx : List UInt8 × Gparser_reader, r = .ret rx ∧ ∃ (a2 : Option Addr) (c2 : Nat) (C : NP), e = .returned (str rx.1) ∧ Bun C0 F w0 C w [MO.box b1 67 (Aparser_reader rx.2 a2 c2)] [Cl.sl cGToken a2 c2 rx.2.l]) ∨ ∃ (pa pn : Int), r = .pan pa pn ∧ e = .panicked [pe 114 pa pn] ∧ ∃ C : NP, Bun C0 F w0 C w [] [] := by
 refine enterP (l := [vp b1 0]) Tryz.func128 rfl Tryz.ntmps128 rfl ?_
 rw [m_parser_reader_name_w] at h
 refine T ?_
 refine c_join (α := Gparser_reader × (Option Addr) × Nat) (fun _ => ⟨27, []⟩) (fun x => [(0, vp b1 0)]) (fun x => fun w => ∃ C, Bun C0 F w0 C w [MO.box b1 67 (Aparser_reader (x.1) (x.2.1) (x.2.2))] [Cl.sl cGToken (x.2.1) (x.2.2) (x.1).l, clSpace] ∧ m_parser_reader_name_w_j1 (x.1) = some r) ?_ ?_
 ·clear h hI; rintro ⟨r2, a3, c3⟩ w1 ⟨c4, hI, h⟩
  try dsimp only at hI h
  rw [m_parser_reader_name_w_j1] at h
  refine c_sub (e := [(0, vp b1 0)]) ⟨rfl, trivial⟩ ?_
  refine T ?_
  refine l_store (new := [(vi (wi64 (r2.at_ + 1)))]) (cs' := #[vs a3 r2.l.length c3, (vi (wi64 (r2.at_ + 1))), vi r2.deep]) hI .z gn rfl rfl et et rfl size_3 rfl rfl rfl ?_
  clear hI; intro c5 w2 hI
  refine nk (c_seq (c_drawX [] false (.c (0, .q) (.c (1, .q) (.c (2, .q) (.c (3, .q) (.c (4, .q) (.c (5, .q) (.c (6, .q) (.c (7, .q) (.c (8, .q) (.c (9, .q) (.c (10, .q) (.c (11, .q) (.c (12, .q) .n))))))))))))) hI (by kernel_rfl) (by kernel_rfl) ?_))
  clear hI; intro w3 hI
  refine V ?_
  obtain ⟨e1, hx1, h⟩ := bnd_some h
  obtain ⟨ad1, cs1, hA1, hr1, hq1⟩ := hI.clat .z hx1
  obtain rfl : cs1 = (lToken e1) := hr1
  refine vI ?_
  refine V ?_
  refine c_ret ?_
  obtain rfl := some_inj h
  refine QG ?_
  exact .inl ⟨_, rfl, a3, c3, _, rfl, hI.arr GO SU⟩
 refine T ?_
 obtain ⟨r3, hx2, h⟩ := bnd_some h
 refine s_call gn rfl (r_callF (vs := [vp b1 0]) rfl ok_126 ⟨et, trivial⟩) (Calls.mono (c_parser_reader_isName noM w0 (fun _ k => k.elim) r1 b1 a1 c1 ⟨(hI.get0 .z), hI.lendBox .z, hI.get0 (.s .z), trivial⟩ r3 hx2) ?_)
 rintro _ w4 ⟨rfl, hx3, hl1⟩
 refine ⟨_, rfl, ?_⟩
 replace hI := (hI.ext hx3)
 refine T ?_
 refine cif h et (fun hb h => ?_) (fun hb h => ?_)
 ·refine T ?_
  obtain ⟨c6, f1, hB, hl2, hk1⟩ := hI.hands (.l .n)
  refine s_pb h (fun _ hx4 => c_parser_reader_wrong_w c6 f1 w4 r1 b1 a1 c1 (hB.subs ⟨.z, trivial⟩) _ hx4) (pnb hk1) (r_callF rfl ok_103 ⟨et, trivial⟩) ?_
  rintro ⟨r4, s1⟩ hx4 h _ w5 ⟨a4, c7, c8, rfl, hB2⟩
  try dsimp only at h
  obtain ⟨c9, hs1, hI⟩ := hk1 _ _ _ _ hB2
  dsimp only [ca, na] at hI
  refine ⟨_, rfl, ?_⟩
  refine s_nil ?_
  exact k_join (s1, a4, c7) ⟨rfl, trivial⟩ ⟨_, hI.arr GO SU, h⟩ rfl
 exact c_skip (k_join (r1, a1, c1) ⟨rfl, trivial⟩ ⟨_, hI.arr GO SU, h⟩ rfl)
theorem c_parser_reader_number_w (C0 F : NP) (w0 : World) (r1 : Gparser_reader) (b1 : Nat) (a1 : Option Addr) (c1 : Nat) (hI : Bun C0 F w0 C0 w0 [MO.box b1 67 (Aparser_reader r1 a1 c1)] [Cl.sl cGToken a1 c1 r1.l]) (r : Pan (List UInt8 × Gparser_reader))
  (h : m_parser_reader_number_w r1 = some r) :
  Calls Tryz.prog 130 #[vp b1 0] w0 fun e w => (∃ rx : List UInt8 × Gparser_reader, r = .ret rx ∧ ∃ (a2 : Option Addr) (c2 : Nat) (C : NP), e = .returned (str rx.1) ∧ Bun C0 F w0 C w [MO.box b1 67 (Aparser_reader rx.2 a2 c2)] [Cl.sl cGToken a2 c2 rx.2.l]) ∨ ∃ (pa pn : Int), r = .pan pa pn ∧ e = .panicked [pe 114 pa pn] ∧ ∃ C : NP, Bun C0 F w0 C w [] [] := by
 refine enterP (l := [vp b1 0]) Tryz.func130 rfl Tryz.ntmps130 rfl ?_
 rw [m_parser_reader_number_w] at h
 refine T ?_
 refine c_join (α := Gparser_reader × (Option Addr) × Nat) (fun _ => ⟨27, []⟩) (fun x => [(0, vp b1 0)]) (fun x => fun w => ∃ C, Bun C0 F w0 C w [MO.box b1 67 (Aparser_reader (x.1) (x.2.1) (x.2.2))] [Cl.sl cGToken (x.2.1) (x.2.2) (x.1).l] ∧ m_parser_reader_number_w_j1 (x.1) = some r) ?_ ?_
 ·clear h hI; rintro ⟨r2, a3, c3⟩ w1 ⟨c4, hI, h⟩
  try dsimp only at hI h
  rw [m_parser_reader_number_w_j1] at h
  refine c_sub (e := [(0, vp b1 0)]) ⟨rfl, trivial⟩ ?_
  refine T ?_
  refine l_store (new := [(vi (wi64 (r2.at_ + 1)))]) (cs' := #[vs a3 r2.l.length c3, (vi (wi64 (r2.at_ + 1))), vi r2.deep]) hI .z gn rfl rfl et et rfl size_3 rfl rfl rfl ?_
  clear hI; intro c5 w2 hI
  refine nk (c_seq (c_drawX [] false (.c (0, .q) (.c (1, .q) (.c (2, .q) (.c (3, .q) (.c (4, .q) (.c (5, .q) (.c (6, .q) (.c (7, .q) (.c (8, .q) (.c (9, .q) (.c (10, .q) (.c (11, .q) (.c (12, .q) .n))))))))))))) hI (by kernel_rfl) (by kernel_rfl) ?_))
  clear hI; intro w3 hI
  refine V ?_
  obtain ⟨e1, hx1, h⟩ := bnd_some h
  obtain ⟨ad1, cs1, hA1, hr1, hq1⟩ := hI.clat .z hx1
  obtain rfl : cs1 = (lToken e1) := hr1
  refine vI ?_
  refine V ?_
  refine c_ret ?_
  obtain rfl := some_inj h
  refine QG ?_
  exact .inl ⟨_, rfl, a3, c3, _, rfl, hI.arr GO SU⟩
 refine T ?_
 obtain ⟨r3, hx2, h⟩ := bnd_some h
 refine s_call gn rfl (r_callF (vs := [vp b1 0]) rfl ok_187 ⟨et, trivial⟩) (Calls.mono (c_parser_reader_isNumber noM w0 (fun _ k => k.elim) r1 b1 a1 c1 ⟨(hI.get0 .z), hI.lendBox .z, trivial⟩ r3 hx2) ?_)
 rintro _ w4 ⟨rfl, hx3, hl1⟩
 refine ⟨_, rfl, ?_⟩
 replace hI := (hI.ext hx3)
 refine T ?_
 refine cif h et (fun hb h => ?_) (fun hb h => ?_)
 ·refine T ?_
  obtain ⟨c6, f1, hB, hl2, hk1⟩ := hI.hands (.l .n)
  refine s_pb h (fun _ hx4 => c_parser_reader_wrong_w c6 f1 w4 r1 b1 a1 c1 (hB.subs ⟨.z, trivial⟩) _ hx4) (pnb hk1) (r_callF rfl ok_103 ⟨et, trivial⟩) ?_
  rintro ⟨r4, s1⟩ hx4 h _ w5 ⟨a4, c7, c8, rfl, hB2⟩
  try dsimp only at h
  obtain ⟨c9, hs1, hI⟩ := hk1 _ _ _ _ hB2
  dsimp only [ca, na] at hI
  refine ⟨_, rfl, ?_⟩
  refine s_nil ?_
  exact k_join (s1, a4, c7) ⟨rfl, trivial⟩ ⟨_, hI.arr GO SU, h⟩ rfl
 exact c_skip (k_join (r1, a1, c1) ⟨rfl, trivial⟩ ⟨_, hI.arr GO SU, h⟩ rfl)
end Go.Proofs.YtmhoikfoogemnaaGreatDoor
